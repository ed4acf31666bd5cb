/- Frames with some objects that may change. -/
import Derived.Test.YtapfcpkecmmagaaGreatAy37
namespace Go.Ay
open Go
section
variable {v:V} {sz:Nat} {ws:List V} {l:List Nat}
structure Fx (W:Nat->Prop)(h h':H):Prop where
 next:h.next<=h'.next
 get: ∀id,id<h.next-> ¬W id->h'.get id=h.get id
def Jg (W:Nat->Prop):V->Prop
 | .sl id _ _ _=> ¬W id
 |_=>True
section
variable {W W':Nat->Prop} {a b c h h':H}
theorem Fx.refl (W:Nat->Prop)(h:H):Fx W h h:=⟨eP _,λ_ _ _=>rfl⟩
theorem Fx.of (f:Fr h h'):Fx W h h':=⟨f.next,λid h1 _=>f.get id h1⟩
theorem Fx.trans (x:Fx W a b)(y:Fx W' b c)(hw: ∀id,id<a.next->W' id->W id):Fx W a c:=
 ⟨Nat.le_trans x.next y.next,λid h1 h2=>(y.get id (gE h1 x.next) (λh=>h2 (hw id h1 h))).trans (x.get id h1 h2)⟩
theorem Fx.weak (x:Fx W a b)(hw: ∀id,id<a.next->W id->W' id):Fx W' a b:=⟨x.next,λid h1 h2=>x.get id h1 λh=>h2 (hw id h1 h)⟩
theorem Fx.fr (x:Fx W a b)(hw: ∀id,id<a.next-> ¬W id):Fr a b:=⟨x.next,λid h1=>x.get id h1 (hw id h1)⟩
theorem Fx.set (h:H){id:Nat}(hid:W id)(o:Option Ob):Fx W h (h.set id o):=⟨eP _,λk _ h2=>H.aH h (λe:k=id=>h2 (by rw[e];exact hid)) o⟩
theorem Fx.cell (x:Fx W a b){id:Nat}(h1:id<a.next)(h2: ¬W id)(off:Nat):b.cell id off=a.cell id off:=by unfold H.cell;rw[x.get id h1 h2]
theorem SV.fx (s:SV h v sz ws)(o:Jg W v)(f:Fx W h h'):SV h' v sz ws:=by
 rcases s with s|⟨id,off,len,cap,ro,vs,h1,h2,h3,h4,h5,h6⟩
 ·exact .inl s
 ·subst h1
  exact .inr ⟨id,off,len,cap,ro,vs,rfl,h2,gE h3 f.next,by rw[f.get id h3 o];exact h4,h5,h6⟩
theorem SI.fx {l:List Int}(s:SI h v l)(o:Jg W v)(f:Fx W h h'):SI h' v l:=SV.fx s o f
theorem SV.in (s:SV h v sz ws): ∀id off len cap,v= .sl id off len cap->id<h.next:=by
 rcases s with ⟨s|⟨a,s⟩,_⟩|⟨id,off,len,cap,ro,vs,h1,h2,h3,h4,h5,h6⟩
 ·intro _ _ _ _ e;rw[s] at e;cases e
 ·intro _ _ _ _ e;rw[s] at e;cases e
 ·intro _ _ _ _ e;rw[h1] at e;cases e;exact h3
theorem Jg.weak (o:Jg W v)(s:SV h v sz ws)(hw: ∀id,id<h.next->W' id->W id):Jg W' v:=by
 cases v with
 |sl id off len cap=>exact λh2=>o (hw id (s.in _ _ _ _ rfl) h2)
 |_=>trivial
structure PV (W:Nat->Prop)(h:H)(v:V)(l:List Nat):Prop where
 si:SI h v (zi l)
 off:Jg W v
theorem PV.fx (p:PV W h v l)(f:Fx W h h'):PV W h' v l:=⟨p.si.fx p.off f,p.off⟩
theorem PV.weak (p:PV W h v l)(hw: ∀id,id<h.next->W' id->W id):PV W' h v l:=⟨p.si,p.off.weak p.si hw⟩
theorem Gl.pv (n:Gl h h' v l)(hw: ¬W h.next):PV W h' v l:=by
 obtain⟨rfl,h1,h2,_⟩:=n;exact⟨SV.all (by rw[aN,aU,Nat.mul_one]) (by omega) h1 _,hw⟩
end
end
end Go.Ay
