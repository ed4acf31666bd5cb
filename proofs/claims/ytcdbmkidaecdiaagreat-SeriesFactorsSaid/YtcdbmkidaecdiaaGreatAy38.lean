/- Frames with some objects that may change. -/
import Derived.Test.YtcdbmkidaecdiaaGreatAy37
namespace Go.Ay
open Go
section
variable {v:V} {sz:Nat} {ws:List V} {l:List Nat}
structure Fx (W:Nat->Prop)(h h':H):Prop where
 next:h.next<=h'.next
 get: ∀id,id<h.next-> ¬W id->h'.get id=h.get id
def Mq (W:Nat->Prop):V->Prop
 | .sl id _ _ _=> ¬W id
 |_=>True
section
variable {W W':Nat->Prop} {a b c h h':H}
theorem Fx.refl (W:Nat->Prop)(h:H):Fx W h h:=⟨fM _,λ_ _ _=>rfl⟩
theorem Fx.of (f:Fr h h'):Fx W h h':=⟨f.next,λid d _=>f.get id d⟩
theorem Fx.trans (x:Fx W a b)(y:Fx W' b c)(i: ∀id,id<a.next->W' id->W id):Fx W a c:=
 ⟨mT x.next y.next,λid d f=>(y.get id (iW d x.next) (λh=>f (i id d h))).trans (x.get id d f)⟩
theorem Fx.Fo (x:Fx W a b)(i: ∀id,id<a.next->W id->W' id):Fx W' a b:=⟨x.next,λid d f=>x.get id d λh=>f (i id d h)⟩
theorem Fx.fr (x:Fx W a b)(f: ∀id,id<a.next-> ¬W id):Fr a b:=⟨x.next,λid d=>x.get id d (f id d)⟩
theorem Fx.set (h:H){id:Nat}(d:W id)(o:Option Ob):Fx W h (h.set id o):=⟨fM _,λk _ f=>H.aG h (λe:k=id=>f (by rw[e];exact d)) o⟩
theorem Fx.cell (x:Fx W a b){id:Nat}(d:id<a.next)(h2: ¬W id)(off:Nat):b.cell id off=a.cell id off:=by unfold H.cell;rw[x.get id d h2]
theorem SV.fx (s:SV h v sz ws)(o:Mq W v)(f:Fx W h h'):SV h' v sz ws:=by
 rcases s with s|⟨id,d,len,i,r,q,p,k,j,m,n,t⟩
 ·exact .inl s
 ·subst p
  exact .inr ⟨id,d,len,i,r,q,rfl,k,iW j f.next,by rw[f.get id j o];exact m,n,t⟩
theorem SI.fx {l:List Int}(s:SI h v l)(o:Mq W v)(f:Fx W h h'):SI h' v l:=SV.fx s o f
theorem SV.in (s:SV h v sz ws): ∀id off len cap,v= .sl id off len cap->id<h.next:=by
 rcases s with ⟨s|⟨a,s⟩,_⟩|⟨id,off,len,cap,m,o,f,i,d,j,k,n⟩
 ·intro _ _ _ _ e;rw[s] at e;cases e
 ·intro _ _ _ _ e;rw[s] at e;cases e
 ·intro _ _ _ _ e;rw[f] at e;cases e;exact d
theorem Mq.Fo (o:Mq W v)(s:SV h v sz ws)(f: ∀id,id<h.next->W' id->W id):Mq W' v:=by
 cases v with
 |sl id off len cap=>exact λd=>o (f id (s.in _ _ _ _ rfl) d)
 |_=>trivial
structure PV (W:Nat->Prop)(h:H)(v:V)(l:List Nat):Prop where
 si:SI h v (zi l)
 off:Mq W v
theorem PV.fx (p:PV W h v l)(f:Fx W h h'):PV W h' v l:=⟨p.si.fx p.off f,p.off⟩
theorem PV.Fo (p:PV W h v l)(d: ∀id,id<h.next->W' id->W id):PV W' h v l:=⟨p.si,p.off.Fo p.si d⟩
theorem AM.pv (n:AM h h' v l)(d: ¬W h.next):PV W h' v l:=by
 obtain⟨rfl,f,i,_⟩:=n;exact⟨SV.all (by rw[fT,aQ,uW]) om f _,d⟩
end
end
end Go.Ay
