/- Each function of the table is dU the compiler makes of it. -/
import Derived.Test.YtapfcpkecmmagaaGreatChecked
import Derived.KernelRfl
import Derived.Test.YtapfcpkecmmagaaGreatAy42
import Derived.Test.YtapfcpkecmmagaaGreatC27code
namespace Go.Proofs.YtapfcpkecmmagaaGreat
open Go Go.Ay
set_option maxRecDepth 100000
noncomputable abbrev cFm (x:Nat×Ay.Fn):=JS Tryz.prog x.1
abbrev cGm (x:Nat×Ay.Fn):=some x.2
theorem abE:(Hy.take 40).map cFm=(Hy.take 40).map cGm:=by kernel_rfl
theorem abD:((Hy.drop 40).take 40).map cFm=((Hy.drop 40).take 40).map cGm:=by kernel_rfl
theorem abG:(((Hy.drop 40).drop 40).take 40).map cFm=(((Hy.drop 40).drop 40).take 40).map cGm:=by kernel_rfl
theorem aaW:(((Hy.drop 40).drop 40).drop 40).map cFm=(((Hy.drop 40).drop 40).drop 40).map cGm:=by kernel_rfl
theorem pok:OU Tryz.prog T:=OF (Ou 40 abE (Ou 40 abD (Ou 40 abG aaW)))
end Go.Proofs.YtapfcpkecmmagaaGreat
