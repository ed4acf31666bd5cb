/- Each function of the table is eD the compiler makes of it. -/
import Derived.Test.YtapfcpkecmmagaaGreatChecked
import Derived.KernelRfl
import Derived.Test.YtapfcpkecmmagaaGreatAy42
import Derived.Test.YtapfcpkecmmagaaGreatC27code
namespace Go.Proofs.YtapfcpkecmmagaaGreat
open Go Go.Ay
set_option maxRecDepth 100000
noncomputable abbrev cFm (x:Nat×Ay.Fn):=QA Tryz.prog x.1
abbrev cGm (x:Nat×Ay.Fn):=some x.2
theorem abO:(Jx.take 40).map cFm=(Jx.take 40).map cGm:=by kernel_rfl
theorem acF:((Jx.drop 40).take 40).map cFm=((Jx.drop 40).take 40).map cGm:=by kernel_rfl
theorem abU:(((Jx.drop 40).drop 40).take 40).map cFm=(((Jx.drop 40).drop 40).take 40).map cGm:=by kernel_rfl
theorem abM:(((Jx.drop 40).drop 40).drop 40).map cFm=(((Jx.drop 40).drop 40).drop 40).map cGm:=by kernel_rfl
theorem pok:JS Tryz.prog T:=IY (Rf 40 abO (Rf 40 acF (Rf 40 abU abM)))
end Go.Proofs.YtapfcpkecmmagaaGreat
