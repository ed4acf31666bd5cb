/- Each function of the table is eI the compiler makes of it. -/
import Derived.Test.YtapfcpkecmmagaaGreatChecked
import Derived.KernelRfl
import Derived.Test.YtapfcpkecmmagaaGreatAy42
import Derived.Test.YtapfcpkecmmagaaGreatC27code
namespace Go.Proofs.YtapfcpkecmmagaaGreat
open Go Go.Ay
set_option maxRecDepth 100000
noncomputable abbrev cFm (x:Nat×Ay.Fn):=IV Tryz.prog x.1
abbrev cGm (x:Nat×Ay.Fn):=some x.2
theorem abJ:(Kb.take 40).map cFm=(Kb.take 40).map cGm:=by kernel_rfl
theorem abL:((Kb.drop 40).take 40).map cFm=((Kb.drop 40).take 40).map cGm:=by kernel_rfl
theorem abD:(((Kb.drop 40).drop 40).take 40).map cFm=(((Kb.drop 40).drop 40).take 40).map cGm:=by kernel_rfl
theorem abT:(((Kb.drop 40).drop 40).drop 40).map cFm=(((Kb.drop 40).drop 40).drop 40).map cGm:=by kernel_rfl
theorem pok:HF Tryz.prog T:=LJ (Oi 40 abJ (Oi 40 abL (Oi 40 abD abT)))
end Go.Proofs.YtapfcpkecmmagaaGreat
