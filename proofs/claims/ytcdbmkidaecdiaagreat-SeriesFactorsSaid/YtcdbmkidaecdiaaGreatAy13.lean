/- A part of the heap advances, the rest stays. -/
import Derived.Test.YtcdbmkidaecdiaaGreatAy12
namespace Go.Ay
open Go
section
variable {P:Program}
theorem HR.sub {m:M}{h g:H}{w:World}(c:HR P m h w)(b: ∀id o,g.get id=some o->h.get id=some o):HR P m g w:=
 ⟨λid o f=>c.live id o (b id o f),λi j p d l n a hi k=>c.inj i j p d l n a (b _ _ hi) (b _ _ k)⟩
theorem iO.frame {m0 m m':M}{h0 G z g g':H}{w0 w w':World}(a:iO P m0 h0 w0 m G w)(l: ∀id o,g.get id=some o->G.get id=some o)(b:iO P m g w m' g' w')
  (Y: ∀id o,z.get id=some o->g'.get id=some o∨(G.get id=some o/\o.rw=true/\g.get id=none))
  (n1:h0.next<=g.next) (n2:g'.next<=z.next) (n3:G.next<=z.next):iO P m0 h0 w0 m' z w':=by
 have k: ∀id o p,G.get id=some o->o.rw=true->g.get id=none->m id=some p-> ¬LB m g p.1:=by
  intro id o p c u n h4 ⟨j,B,q,r,Z,s⟩;have a6:id≠j:=λe=>by subst e;rw[n] at r;cases r
  exact a.rel.inj id j o B p q a6 c (l _ _ r) u h4 Z s.symm
 have a5: ∀(m:M) (h:H) (b:Nat),FP m h b->LB m h b:=λm h b ⟨i,o,p,r,_,s,y⟩=>⟨i,o,p,r,s,y⟩
 have A: ∀b,FP m g b->FP m G b:=λb ⟨i,o,p,r,Z,s,y⟩=>⟨i,o,p,l _ _ r,Z,s,y⟩
 have R: ∀b,LB m g b->LB m G b:=λb ⟨i,o,p,r,s,y⟩=>⟨i,o,p,l _ _ r,s,y⟩
 have d: ∀id o,G.get id=some o-> ∃p,m id=some p/\OR P m o p w:=a.rel.live
 have kept: ∀id o p,G.get id=some o->o.rw=true->g.get id=none->m id=some p->OR P m o p w->OR P m' o p w':=by
  intro id o p c u n h4 K;exact OR.mono b.ext (b.kept.block _ K.lt (λO=>k id o p c u n h4 (a5 _ _ _ O))) K
 refine⟨a.ext.trans b.ext,⟨λid o U=>?_,λi j oi B pi pj a4 hi hj a1 W J=>?_⟩,λid p hp=>?_,?_,λx N=>?_,?_,λx N=>?_,λid U hn=>?_⟩
 ·rcases Y id o U with c|⟨c,u,n⟩
  ·exact b.rel.live id o c
  ·obtain⟨p,hp,K⟩:=d id o c
   exact⟨p,b.ext _ _ hp,kept id o p c u n hp K⟩
 ·rcases Y i oi hi with c|⟨c,u,n⟩
  ·rcases Y j B hj with F|⟨F,k2,k3⟩
   ·exact b.rel.inj i j oi B pi pj a4 c F a1 W J
   ·obtain⟨q,v,K⟩:=d j B F
    have f:=b.ext _ _ v
    rw[J] at f;cases f
    intro e
    rcases b.lb pi.1 ⟨i,oi,pi,c,W,rfl⟩ with t|t
    ·exact k j B _ F k2 k3 v (e▸t)
    ·have:=K.lt;omega
  ·obtain⟨q,v,K⟩:=d i oi c
   have f:=b.ext _ _ v
   rw[W] at f;cases f
   rcases Y j B hj with F|⟨F,k2,k3⟩
   ·intro e
    rcases b.lb pj.1 ⟨j,B,pj,F,J,rfl⟩ with t|t
    ·exact k i oi _ c u n v (e▸t)
    ·have:=K.lt;omega
   ·obtain⟨q2,a2,_⟩:=d j B F
    have L:=b.ext _ _ a2
    rw[J] at L;cases L
    exact a.rel.inj i j oi B _ _ a4 c F a1 v a2
 ·rcases b.fresh id p hp with c|⟨c,u⟩
  ·rcases a.fresh id p c with n|⟨n,h4⟩
   ·exact .inl n
   ·exact .inr ⟨n,om⟩
  ·exact .inr ⟨om,om⟩
 ·exact⟨b.kept.os.trans a.kept.os,b.kept.tape.trans a.kept.tape,b.kept.output.trans a.kept.output,mT a.kept.size b.kept.size,λx a0 a3=>by
   have c:=a.kept.block x a0 a3;have u:=b.kept.block x (iW a0 a.kept.size) (λO=>(a.fp x (A x O)).elim a3 (λa8=>om))
   exact u.trans c⟩
 ·obtain⟨i,o,p,r,Z,s,y⟩:=N
  rcases Y i o r with c|⟨c,u,n⟩
  ·rcases b.fp x ⟨i,o,p,c,Z,s,y⟩ with t|t
   ·exact a.fp x (A x t)
   ·exact .inr (mT a.kept.size t)
  ·obtain⟨q,v,_⟩:=d i o c
   have f:=b.ext _ _ v
   rw[s] at f;cases f
   exact a.fp x ⟨i,o,_,c,Z,v,y⟩
 ·have:=a.next;omega
 ·obtain⟨i,o,p,r,s,y⟩:=N
  rcases Y i o r with c|⟨c,u,n⟩
  ·rcases b.lb x ⟨i,o,p,c,s,y⟩ with t|t
   ·exact a.lb x (R x t)
   ·exact .inr (mT a.kept.size t)
  ·obtain⟨q,v,_⟩:=d i o c
   have f:=b.ext _ _ v
   rw[s] at f;cases f
   exact a.lb x ⟨i,o,_,c,v,y⟩
 ·cases hg:z.get id with
  |none=>rfl
  |some o=>
   exfalso;have Q:=a.old id U hn;rcases Y id o hg with c|⟨c,_⟩
   ·have a7:g.get id=none:=by
     cases hgg:g.get id with
     |none=>rfl
     |some o2=>rw[l _ _ hgg] at Q;cases Q
    rw[b.old id om a7] at c;cases c
   ·rw[Q] at c;cases c
end
end Go.Ay
