/- A part of the heap advances, the rest stays. -/
import Derived.Test.YtcdbmkidaecdiaaGreatAy12
namespace Go.Ay
open Go
section
variable {P:Program}
theorem HR.sub {m:M}{h g:H}{w:World}(c:HR P m h w)(a: ∀id o,g.get id=some o->h.get id=some o):HR P m g w:=
 ⟨λid o l=>c.live id o (a id o l),λi j p k d f b hi n=>c.inj i j p k d f b (a _ _ hi) (a _ _ n)⟩
theorem jR.frame {m0 m m':M}{h0 G y g g':H}{w0 w w':World}(a:jR P m0 h0 w0 m G w)(l: ∀id o,g.get id=some o->G.get id=some o)(b:jR P m g w m' g' w')
  (U: ∀id o,y.get id=some o->g'.get id=some o∨(G.get id=some o/\o.rw=true/\g.get id=none))
  (n1:h0.next<=g.next) (n2:g'.next<=y.next) (n3:G.next<=y.next):jR P m0 h0 w0 m' y w':=by
 have k: ∀id o p,G.get id=some o->o.rw=true->g.get id=none->m id=some p-> ¬LB m g p.1:=by
  intro id o p c u n h4 ⟨j,B,q,t,Z,s⟩;have a7:id≠j:=λe=>by subst e;rw[n] at t;cases t
  exact a.rel.inj id j o B p q a7 c (l _ _ t) u h4 Z s.symm
 have a1: ∀(m:M) (h:H) (b:Nat),FP m h b->LB m h b:=λm h b ⟨i,o,p,t,_,s,A⟩=>⟨i,o,p,t,s,A⟩
 have z: ∀b,FP m g b->FP m G b:=λb ⟨i,o,p,t,Z,s,A⟩=>⟨i,o,p,l _ _ t,Z,s,A⟩
 have R: ∀b,LB m g b->LB m G b:=λb ⟨i,o,p,t,s,A⟩=>⟨i,o,p,l _ _ t,s,A⟩
 have d: ∀id o,G.get id=some o-> ∃p,m id=some p/\OR P m o p w:=a.rel.live
 have kept: ∀id o p,G.get id=some o->o.rw=true->g.get id=none->m id=some p->OR P m o p w->OR P m' o p w':=by
  intro id o p c u n h4 K;exact OR.mono b.ext (b.kept.block _ K.lt (λN=>k id o p c u n h4 (a1 _ _ _ N))) K
 refine⟨a.ext.trans b.ext,⟨λid o O=>?_,λi j oi B pi pj a5 hi hj a3 W F=>?_⟩,λid p hp=>?_,?_,λx Q=>?_,?_,λx Q=>?_,λid O hn=>?_⟩
 ·rcases U id o O with c|⟨c,u,n⟩
  ·exact b.rel.live id o c
  ·obtain⟨p,hp,K⟩:=d id o c
   exact⟨p,b.ext _ _ hp,kept id o p c u n hp K⟩
 ·rcases U i oi hi with c|⟨c,u,n⟩
  ·rcases U j B hj with J|⟨J,k2,k3⟩
   ·exact b.rel.inj i j oi B pi pj a5 c J a3 W F
   ·obtain⟨q,v,K⟩:=d j B J
    have f:=b.ext _ _ v
    rw[F] at f;cases f
    intro e
    rcases b.lb pi.1 ⟨i,oi,pi,c,W,rfl⟩ with r|r
    ·exact k j B _ J k2 k3 v (e▸r)
    ·have:=K.lt;omega
  ·obtain⟨q,v,K⟩:=d i oi c
   have f:=b.ext _ _ v
   rw[W] at f;cases f
   rcases U j B hj with J|⟨J,k2,k3⟩
   ·intro e
    rcases b.lb pj.1 ⟨j,B,pj,J,F,rfl⟩ with r|r
    ·exact k i oi _ c u n v (e▸r)
    ·have:=K.lt;omega
   ·obtain⟨q2,a4,_⟩:=d j B J
    have L:=b.ext _ _ a4
    rw[F] at L;cases L
    exact a.rel.inj i j oi B _ _ a5 c J a3 v a4
 ·rcases b.fresh id p hp with c|⟨c,u⟩
  ·rcases a.fresh id p c with n|⟨n,h4⟩
   ·exact .inl n
   ·exact .inr ⟨n,om⟩
  ·exact .inr ⟨om,om⟩
 ·exact⟨b.kept.os.trans a.kept.os,b.kept.tape.trans a.kept.tape,b.kept.output.trans a.kept.output,mY a.kept.size b.kept.size,λx a2 a0=>by
   have c:=a.kept.block x a2 a0;have u:=b.kept.block x (jM a2 a.kept.size) (λN=>(a.fp x (z x N)).elim a0 (λa8=>om))
   exact u.trans c⟩
 ·obtain⟨i,o,p,t,Z,s,A⟩:=Q
  rcases U i o t with c|⟨c,u,n⟩
  ·rcases b.fp x ⟨i,o,p,c,Z,s,A⟩ with r|r
   ·exact a.fp x (z x r)
   ·exact .inr (mY a.kept.size r)
  ·obtain⟨q,v,_⟩:=d i o c
   have f:=b.ext _ _ v
   rw[s] at f;cases f
   exact a.fp x ⟨i,o,_,c,Z,v,A⟩
 ·have:=a.next;omega
 ·obtain⟨i,o,p,t,s,A⟩:=Q
  rcases U i o t with c|⟨c,u,n⟩
  ·rcases b.lb x ⟨i,o,p,c,s,A⟩ with r|r
   ·exact a.lb x (R x r)
   ·exact .inr (mY a.kept.size r)
  ·obtain⟨q,v,_⟩:=d i o c
   have f:=b.ext _ _ v
   rw[s] at f;cases f
   exact a.lb x ⟨i,o,_,c,v,A⟩
 ·cases hg:y.get id with
  |none=>rfl
  |some o=>
   exfalso;have Y:=a.old id O hn;rcases U id o hg with c|⟨c,_⟩
   ·have a6:g.get id=none:=by
     cases hgg:g.get id with
     |none=>rfl
     |some o2=>rw[l _ _ hgg] at Y;cases Y
    rw[b.old id om a6] at c;cases c
   ·rw[Y] at c;cases c
end
end Go.Ay
