/- Each function of the table is cW the compiler makes of it. -/
import Derived.Test.YtapfcpkecmmagaaGreatChecked
import Derived.KernelRfl
import Derived.Test.YtapfcpkecmmagaaGreatAy42
import Derived.Test.YtapfcpkecmmagaaGreatC27code
namespace Go.Proofs.YtapfcpkecmmagaaGreat
open Go Go.Ay
set_option maxRecDepth 100000
noncomputable abbrev Yg (x:Nat×Ay.Fn):=Mc Tryz.prog x.1
abbrev Yn (x:Nat×Ay.Fn):=some x.2
theorem Xp:(tab.take 40).map Yg=(tab.take 40).map Yn:=by kernel_rfl
theorem Xr:((tab.drop 40).take 40).map Yg=((tab.drop 40).take 40).map Yn:=by kernel_rfl
theorem Ye:(((tab.drop 40).drop 40).take 40).map Yg=(((tab.drop 40).drop 40).take 40).map Yn:=by kernel_rfl
theorem Xz:(((tab.drop 40).drop 40).drop 40).map Yg=(((tab.drop 40).drop 40).drop 40).map Yn:=by kernel_rfl
theorem pok:Ln Tryz.prog T:=Mq (Aq 40 Xp (Aq 40 Xr (Aq 40 Ye Xz)))
end Go.Proofs.YtapfcpkecmmagaaGreat
