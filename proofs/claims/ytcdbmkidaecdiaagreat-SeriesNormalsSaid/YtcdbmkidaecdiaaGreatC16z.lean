/- A function's code is cT the compiler makes of it, computed. -/
import Derived.Test.YtcdbmkidaecdiaaGreatChecked
import Derived.KernelRfl
import Derived.Test.YtcdbmkidaecdiaaGreatAy42
import Derived.Test.YtcdbmkidaecdiaaGreatAy25
namespace Go.Proofs.YtcdbmkidaecdiaaGreat
open Go Go.Ay
set_option maxRecDepth 100000
noncomputable def T:Nat->Option Ay.Fn:=λ k=>bif Nat.beq k 143 then some ⟨0, [], [],.fail,true⟩ else HL Tryz.prog k
structure Zt (k:Nat) where
 fn:Ay.Fn
 ok:T k=some fn
noncomputable abbrev zZ (k:Nat) {c:Ay.Fn} (h:HL Tryz.prog k=some c:=by conv=>lhs;reduce;simp only [Int.reduceOfNat,Int.reduceNegSucc]) (hk:Nat.beq k 143=false:=by rfl):Zt k:=⟨c,by unfold T;rw [hk];exact h⟩
@[go_sem] theorem akR {k:Nat} {c:Ay.Fn} {h:HL Tryz.prog k=some c} {hk:Nat.beq k 143=false}:(@zZ k c h hk).fn=c:=rfl
theorem dW {k:Nat} (c:Zt k) {args:List V} {h:H} {Q:V->H->Prop} (hl:args.length=c.fn.nargs) (hw:Wp T none c.fn.body (Hv c.fn args) h (LX c.fn.results Q)) (hs:c.fn.srt=false:=by rfl):Ev T k args h Q:=mX c.ok hl hw hs
end Go.Proofs.YtcdbmkidaecdiaaGreat
