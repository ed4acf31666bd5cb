/- Each function of the table is dG the compiler makes of it. -/
import Derived.Test.YtapfcpkecmmagaaGreatChecked
import Derived.KernelRfl
import Derived.Test.YtapfcpkecmmagaaGreatAy42
import Derived.Test.YtapfcpkecmmagaaGreatC27code
namespace Go.Proofs.YtapfcpkecmmagaaGreat
open Go Go.Ay
set_option maxRecDepth 100000
noncomputable abbrev HM (x:Nat×Ay.Fn):=Xh Tryz.prog x.1
abbrev HH (x:Nat×Ay.Fn):=some x.2
theorem GS:(tab.take 40).map HM=(tab.take 40).map HH:=by kernel_rfl
theorem GW:((tab.drop 40).take 40).map HM=((tab.drop 40).take 40).map HH:=by kernel_rfl
theorem HG:(((tab.drop 40).drop 40).take 40).map HM=(((tab.drop 40).drop 40).take 40).map HH:=by kernel_rfl
theorem GP:((((tab.drop 40).drop 40).drop 40).take 40).map HM=((((tab.drop 40).drop 40).drop 40).take 40).map HH:=by kernel_rfl
theorem GV:((((tab.drop 40).drop 40).drop 40).drop 40).map HM=((((tab.drop 40).drop 40).drop 40).drop 40).map HH:=by kernel_rfl
theorem pok:Xr Tryz.prog T:=Yq (zL 40 GS (zL 40 GW (zL 40 HG (zL 40 GP GV))))
end Go.Proofs.YtapfcpkecmmagaaGreat
