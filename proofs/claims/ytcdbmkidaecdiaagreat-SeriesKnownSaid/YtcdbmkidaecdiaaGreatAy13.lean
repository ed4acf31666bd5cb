/- A part of the heap advances, the rest stays. -/
import Derived.Test.YtcdbmkidaecdiaaGreatAy12
namespace Go.Ay
open Go
section
variable {P:Program}
theorem HR.sub {m:M}{h g:H}{w:World}(c:HR P m h w)(b: ∀id o,g.get id=some o->h.get id=some o):HR P m g w:=
 ⟨λid o l=>c.live id o (b id o l),λi j k e n f a hi d=>c.inj i j k e n f a (b _ _ hi) (b _ _ d)⟩
theorem iO.frame {m0 m m':M}{h0 G A g g':H}{w0 w w':World}(a:iO P m0 h0 w0 m G w)(l: ∀id o,g.get id=some o->G.get id=some o)(b:iO P m g w m' g' w')
  (N: ∀id o,A.get id=some o->g'.get id=some o∨(G.get id=some o/\o.rw=true/\g.get id=none))
  (n1:h0.next<=g.next) (n2:g'.next<=A.next) (n3:G.next<=A.next):iO P m0 h0 w0 m' A w':=by
 have k: ∀id o p,G.get id=some o->o.rw=true->g.get id=none->m id=some p-> ¬LB m g p.1:=by
  intro id o p c u n h4 ⟨j,B,q,t,e2,r⟩;have a7:id≠j:=λe=>by subst e;rw[n] at t;cases t
  exact a.rel.inj id j o B p q a7 c (l _ _ t) u h4 e2 r.symm
 have a0: ∀(m:M) (h:H) (b:Nat),FP m h b->LB m h b:=λm h b ⟨i,o,p,t,_,r,z⟩=>⟨i,o,p,t,r,z⟩
 have y: ∀b,FP m g b->FP m G b:=λb ⟨i,o,p,t,e2,r,z⟩=>⟨i,o,p,l _ _ t,e2,r,z⟩
 have U: ∀b,LB m g b->LB m G b:=λb ⟨i,o,p,t,r,z⟩=>⟨i,o,p,l _ _ t,r,z⟩
 have d: ∀id o,G.get id=some o-> ∃p,m id=some p/\OR P m o p w:=a.rel.live
 have kept: ∀id o p,G.get id=some o->o.rw=true->g.get id=none->m id=some p->OR P m o p w->OR P m' o p w':=by
  intro id o p c u n h4 K;exact OR.mono b.ext (b.kept.block _ K.lt (λY=>k id o p c u n h4 (a0 _ _ _ Y))) K
 refine⟨a.ext.trans b.ext,⟨λid o O=>?_,λi j Z B pi pj a2 hi hj a5 R F=>?_⟩,λid p hp=>?_,?_,λx W=>?_,?_,λx W=>?_,λid O hn=>?_⟩
 ·rcases N id o O with c|⟨c,u,n⟩
  ·exact b.rel.live id o c
  ·obtain⟨p,hp,K⟩:=d id o c
   exact⟨p,b.ext _ _ hp,kept id o p c u n hp K⟩
 ·rcases N i Z hi with c|⟨c,u,n⟩
  ·rcases N j B hj with J|⟨J,k2,k3⟩
   ·exact b.rel.inj i j Z B pi pj a2 c J a5 R F
   ·obtain⟨q,v,K⟩:=d j B J
    have f:=b.ext _ _ v
    rw[F] at f;cases f
    intro e
    rcases b.lb pi.1 ⟨i,Z,pi,c,R,rfl⟩ with s|s
    ·exact k j B _ J k2 k3 v (e▸s)
    ·have:=K.lt;omega
  ·obtain⟨q,v,K⟩:=d i Z c
   have f:=b.ext _ _ v
   rw[R] at f;cases f
   rcases N j B hj with J|⟨J,k2,k3⟩
   ·intro e
    rcases b.lb pj.1 ⟨j,B,pj,J,F,rfl⟩ with s|s
    ·exact k i Z _ c u n v (e▸s)
    ·have:=K.lt;omega
   ·obtain⟨q2,a3,_⟩:=d j B J
    have L:=b.ext _ _ a3
    rw[F] at L;cases L
    exact a.rel.inj i j Z B _ _ a2 c J a5 v a3
 ·rcases b.fresh id p hp with c|⟨c,u⟩
  ·rcases a.fresh id p c with n|⟨n,h4⟩
   ·exact .inl n
   ·exact .inr ⟨n,om⟩
  ·exact .inr ⟨om,om⟩
 ·exact⟨b.kept.os.trans a.kept.os,b.kept.tape.trans a.kept.tape,b.kept.output.trans a.kept.output,mT a.kept.size b.kept.size,λx a1 a4=>by
   have c:=a.kept.block x a1 a4;have u:=b.kept.block x (iW a1 a.kept.size) (λY=>(a.fp x (y x Y)).elim a4 (λa8=>om))
   exact u.trans c⟩
 ·obtain⟨i,o,p,t,e2,r,z⟩:=W
  rcases N i o t with c|⟨c,u,n⟩
  ·rcases b.fp x ⟨i,o,p,c,e2,r,z⟩ with s|s
   ·exact a.fp x (y x s)
   ·exact .inr (mT a.kept.size s)
  ·obtain⟨q,v,_⟩:=d i o c
   have f:=b.ext _ _ v
   rw[r] at f;cases f
   exact a.fp x ⟨i,o,_,c,e2,v,z⟩
 ·have:=a.next;omega
 ·obtain⟨i,o,p,t,r,z⟩:=W
  rcases N i o t with c|⟨c,u,n⟩
  ·rcases b.lb x ⟨i,o,p,c,r,z⟩ with s|s
   ·exact a.lb x (U x s)
   ·exact .inr (mT a.kept.size s)
  ·obtain⟨q,v,_⟩:=d i o c
   have f:=b.ext _ _ v
   rw[r] at f;cases f
   exact a.lb x ⟨i,o,_,c,v,z⟩
 ·cases hg:A.get id with
  |none=>rfl
  |some o=>
   exfalso;have Q:=a.old id O hn;rcases N id o hg with c|⟨c,_⟩
   ·have a6:g.get id=none:=by
     cases hgg:g.get id with
     |none=>rfl
     |some o2=>rw[l _ _ hgg] at Q;cases Q
    rw[b.old id om a6] at c;cases c
   ·rw[Q] at c;cases c
end
end Go.Ay
