/- A function's code is cT the compiler makes of it, computed. -/
import Derived.Test.YtcdbmkidaecdiaaGreatChecked
import Derived.KernelRfl
import Derived.Test.YtcdbmkidaecdiaaGreatAy42
import Derived.Test.YtcdbmkidaecdiaaGreatAy25
namespace Go.Proofs.YtcdbmkidaecdiaaGreat
open Go Go.Ay
set_option maxRecDepth 100000
noncomputable def T:Nat->Option Ay.Fn:=HL Tryz.prog
structure Zt (k:Nat) where
 fn:Ay.Fn
 ok:T k=some fn
noncomputable abbrev zZ (k:Nat) {c:Ay.Fn} (h:HL Tryz.prog k=some c:=by conv=>lhs;reduce;simp only [Int.reduceOfNat,Int.reduceNegSucc]):Zt k:=⟨c,h⟩
@[go_sem] theorem akR {k:Nat} {c:Ay.Fn} {h:HL Tryz.prog k=some c}:(@zZ k c h).fn=c:=rfl
theorem dW {k:Nat} (c:Zt k) {args:List V} {h:H} {Q:V->H->Prop} (hl:args.length=c.fn.nargs) (hw:Wp T none c.fn.body (Hv c.fn args) h (LX c.fn.results Q)):Ev T k args h Q:=mX c.ok hl hw
end Go.Proofs.YtcdbmkidaecdiaaGreat
