/- Each function of the table is dS the compiler makes of it. -/
import Derived.Test.YtddpkbicnolafaaGreatChecked
import Derived.KernelRfl
import Derived.Test.YtddpkbicnolafaaGreatAy42
import Derived.Test.YtddpkbicnolafaaGreatC15code
namespace Go.Proofs.YtddpkbicnolafaaGreat
open Go Go.Ay
set_option maxRecDepth 100000
noncomputable abbrev cFm (x:Nat×Ay.Fn):=LY Tryz.prog x.1
abbrev cGm (x:Nat×Ay.Fn):=some x.2
theorem ZW:(Ai.take 40).map cFm=(Ai.take 40).map cGm:=by kernel_rfl
theorem aaI:((Ai.drop 40).take 40).map cFm=((Ai.drop 40).take 40).map cGm:=by kernel_rfl
theorem aaN:(((Ai.drop 40).drop 40).take 40).map cFm=(((Ai.drop 40).drop 40).take 40).map cGm:=by kernel_rfl
theorem aaG:(((Ai.drop 40).drop 40).drop 40).map cFm=(((Ai.drop 40).drop 40).drop 40).map cGm:=by kernel_rfl
theorem pok:NG Tryz.prog T:=HS (Pj 40 ZW (Pj 40 aaI (Pj 40 aaN aaG)))
end Go.Proofs.YtddpkbicnolafaaGreat
