/- Each function of the table is cJ the compiler makes of it. -/
import Derived.Test.YtddpkbicnolafaaGreatChecked
import Derived.KernelRfl
import Derived.Test.YtddpkbicnolafaaGreatAy42
import Derived.Test.YtddpkbicnolafaaGreatC15code
namespace Go.Proofs.YtddpkbicnolafaaGreat
open Go Go.Ay
set_option maxRecDepth 100000
noncomputable abbrev cFm (x:Nat×Ay.Fn):=LL Tryz.prog x.1
abbrev cGm (x:Nat×Ay.Fn):=some x.2
theorem aaI:(Bo.take 40).map cFm=(Bo.take 40).map cGm:=by kernel_rfl
theorem aaP:((Bo.drop 40).take 40).map cFm=((Bo.drop 40).take 40).map cGm:=by kernel_rfl
theorem aaH:(((Bo.drop 40).drop 40).take 40).map cFm=(((Bo.drop 40).drop 40).take 40).map cGm:=by kernel_rfl
theorem aaT:(((Bo.drop 40).drop 40).drop 40).map cFm=(((Bo.drop 40).drop 40).drop 40).map cGm:=by kernel_rfl
theorem pok:NI Tryz.prog T:=NB (Qb 40 aaI (Qb 40 aaP (Qb 40 aaH aaT)))
end Go.Proofs.YtddpkbicnolafaaGreat
