/- Frames with some objects that may change. -/
import Derived.Test.YtcdbmkidaecdiaaGreatAy37
namespace Go.Ay
open Go
section
variable {v:V} {sz:Nat} {ws:List V} {l:List Nat}
structure Fx (W:Nat->Prop)(h h':H):Prop where
 next:h.next<=h'.next
 get: ∀id,id<h.next-> ¬W id->h'.get id=h.get id
def Ej (W:Nat->Prop):V->Prop
 | .sl id _ _ _=> ¬W id
 |_=>True
section
variable {W W':Nat->Prop} {a b c h h':H}
theorem Fx.refl (W:Nat->Prop)(h:H):Fx W h h:=⟨dT _,λ_ _ _=>rfl⟩
theorem Fx.of (f:Fr h h'):Fx W h h':=⟨f.next,λid d _=>f.get id d⟩
theorem Fx.trans (x:Fx W a b)(y:Fx W' b c)(f: ∀id,id<a.next->W' id->W id):Fx W a c:=
 ⟨mY x.next y.next,λid d e=>(y.get id (jM d x.next) (λh=>e (f id d h))).trans (x.get id d e)⟩
theorem Fx.kO (x:Fx W a b)(f: ∀id,id<a.next->W id->W' id):Fx W' a b:=⟨x.next,λid d e=>x.get id d λh=>e (f id d h)⟩
theorem Fx.fr (x:Fx W a b)(e: ∀id,id<a.next-> ¬W id):Fr a b:=⟨x.next,λid d=>x.get id d (e id d)⟩
theorem Fx.set (h:H){id:Nat}(d:W id)(o:Option Ob):Fx W h (h.set id o):=⟨dT _,λk _ f=>H.aH h (λe:k=id=>f (by rw[e];exact d)) o⟩
theorem Fx.cell (x:Fx W a b){id:Nat}(d:id<a.next)(h2: ¬W id)(off:Nat):b.cell id off=a.cell id off:=by unfold H.cell;rw[x.get id d h2]
theorem SV.fx (s:SV h v sz ws)(o:Ej W v)(f:Fx W h h'):SV h' v sz ws:=by
 rcases s with s|⟨id,e,len,d,j,k,i,m,g,q,p,n⟩
 ·exact .inl s
 ·subst i
  exact .inr ⟨id,e,len,d,j,k,rfl,m,jM g f.next,by rw[f.get id g o];exact q,p,n⟩
theorem SI.fx {l:List Int}(s:SI h v l)(o:Ej W v)(f:Fx W h h'):SI h' v l:=SV.fx s o f
theorem SV.in (s:SV h v sz ws): ∀id off len cap,v= .sl id off len cap->id<h.next:=by
 rcases s with ⟨s|⟨a,s⟩,_⟩|⟨id,off,len,cap,i,j,d,g,f,n,m,k⟩
 ·intro _ _ _ _ e;rw[s] at e;cases e
 ·intro _ _ _ _ e;rw[s] at e;cases e
 ·intro _ _ _ _ e;rw[d] at e;cases e;exact f
theorem Ej.kO (o:Ej W v)(s:SV h v sz ws)(e: ∀id,id<h.next->W' id->W id):Ej W' v:=by
 cases v with
 |sl id off len cap=>exact λd=>o (e id (s.in _ _ _ _ rfl) d)
 |_=>trivial
structure PV (W:Nat->Prop)(h:H)(v:V)(l:List Nat):Prop where
 si:SI h v (zi l)
 off:Ej W v
theorem PV.fx (p:PV W h v l)(f:Fx W h h'):PV W h' v l:=⟨p.si.fx p.off f,p.off⟩
theorem PV.kO (p:PV W h v l)(d: ∀id,id<h.next->W' id->W id):PV W' h v l:=⟨p.si,p.off.kO p.si d⟩
theorem Yz.pv (n:Yz h h' v l)(e: ¬W h.next):PV W h' v l:=by
 obtain⟨rfl,d,f,_⟩:=n;exact⟨SV.all (by rw[aP,aS,tW]) om d _,e⟩
end
end
end Go.Ay
