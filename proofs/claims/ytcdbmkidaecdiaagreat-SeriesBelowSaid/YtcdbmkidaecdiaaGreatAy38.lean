/- Frames with some objects that may change. -/
import Derived.Test.YtcdbmkidaecdiaaGreatAy37
namespace Go.Ay
open Go
section
variable {v:V} {sz:Nat} {ws:List V} {l:List Nat}
structure Fx (W:Nat->Prop)(h h':H):Prop where
 next:h.next<=h'.next
 get: ∀id,id<h.next-> ¬W id->h'.get id=h.get id
def Oa (W:Nat->Prop):V->Prop
 | .sl id _ _ _=> ¬W id
 |_=>True
section
variable {W W':Nat->Prop} {a b c h h':H}
theorem Fx.refl (W:Nat->Prop)(h:H):Fx W h h:=⟨fN _,λ_ _ _=>rfl⟩
theorem Fx.of (f:Fr h h'):Fx W h h':=⟨f.next,λid d _=>f.get id d⟩
theorem Fx.trans (x:Fx W a b)(y:Fx W' b c)(i: ∀id,id<a.next->W' id->W id):Fx W a c:=
 ⟨mY x.next y.next,λid d f=>(y.get id (jM d x.next) (λh=>f (i id d h))).trans (x.get id d f)⟩
theorem Fx.kO (x:Fx W a b)(f: ∀id,id<a.next->W id->W' id):Fx W' a b:=⟨x.next,λid d i=>x.get id d λh=>i (f id d h)⟩
theorem Fx.fr (x:Fx W a b)(f: ∀id,id<a.next-> ¬W id):Fr a b:=⟨x.next,λid d=>x.get id d (f id d)⟩
theorem Fx.set (h:H){id:Nat}(d:W id)(o:Option Ob):Fx W h (h.set id o):=⟨fN _,λk _ f=>H.aH h (λe:k=id=>f (by rw[e];exact d)) o⟩
theorem Fx.cell (x:Fx W a b){id:Nat}(d:id<a.next)(h2: ¬W id)(off:Nat):b.cell id off=a.cell id off:=by unfold H.cell;rw[x.get id d h2]
theorem SV.fx (s:SV h v sz ws)(o:Oa W v)(f:Fx W h h'):SV h' v sz ws:=by
 rcases s with s|⟨id,d,len,i,t,m,k,n,j,r,p,q⟩
 ·exact .inl s
 ·subst k
  exact .inr ⟨id,d,len,i,t,m,rfl,n,jM j f.next,by rw[f.get id j o];exact r,p,q⟩
theorem SI.fx {l:List Int}(s:SI h v l)(o:Oa W v)(f:Fx W h h'):SI h' v l:=SV.fx s o f
theorem SV.in (s:SV h v sz ws): ∀id off len cap,v= .sl id off len cap->id<h.next:=by
 rcases s with ⟨s|⟨a,s⟩,_⟩|⟨id,off,len,cap,o,k,d,m,f,j,n,i⟩
 ·intro _ _ _ _ e;rw[s] at e;cases e
 ·intro _ _ _ _ e;rw[s] at e;cases e
 ·intro _ _ _ _ e;rw[d] at e;cases e;exact f
theorem Oa.kO (o:Oa W v)(s:SV h v sz ws)(d: ∀id,id<h.next->W' id->W id):Oa W' v:=by
 cases v with
 |sl id off len cap=>exact λf=>o (d id (s.in _ _ _ _ rfl) f)
 |_=>trivial
structure PV (W:Nat->Prop)(h:H)(v:V)(l:List Nat):Prop where
 si:SI h v (zi l)
 off:Oa W v
theorem PV.fx (p:PV W h v l)(f:Fx W h h'):PV W h' v l:=⟨p.si.fx p.off f,p.off⟩
theorem PV.kO (p:PV W h v l)(d: ∀id,id<h.next->W' id->W id):PV W' h v l:=⟨p.si,p.off.kO p.si d⟩
theorem Yz.pv (n:Yz h h' v l)(f: ¬W h.next):PV W h' v l:=by
 obtain⟨rfl,d,i,_⟩:=n;exact⟨SV.all (by rw[aP,aS,tW]) om d _,f⟩
end
end
end Go.Ay
