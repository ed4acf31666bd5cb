/- A part of the heap advances, the rest stays. -/
import Derived.Test.YtcdbmkidaecdiaaGreatAy12
namespace Go.Ay
open Go
section
variable {P:Program}
theorem HR.sub {m:M}{h g:H}{w:World}(c:HR P m h w)(a: ∀id o,g.get id=some o->h.get id=some o):HR P m g w:=
 ⟨λid o d=>c.live id o (a id o d),λi j l k e n b hi f=>c.inj i j l k e n b (a _ _ hi) (a _ _ f)⟩
theorem iC.frame {m0 m m':M}{h0 J z g g':H}{w0 w w':World}(a:iC P m0 h0 w0 m J w)(l: ∀id o,g.get id=some o->J.get id=some o)(b:iC P m g w m' g' w')
  (W: ∀id o,z.get id=some o->g'.get id=some o∨(J.get id=some o/\o.rw=true/\g.get id=none))
  (n1:h0.next<=g.next) (n2:g'.next<=z.next) (n3:J.next<=z.next):iC P m0 h0 w0 m' z w':=by
 have k: ∀id o p,J.get id=some o->o.rw=true->g.get id=none->m id=some p-> ¬LB m g p.1:=by
  intro id o p c v s h4 ⟨j,B,q,n,Z,t⟩;have a7:id≠j:=λe=>by subst e;rw[s] at n;cases n
  exact a.rel.inj id j o B p q a7 c (l _ _ n) v h4 Z t.symm
 have a1: ∀(m:M) (h:H) (b:Nat),FP m h b->LB m h b:=λm h b ⟨i,o,p,n,_,t,y⟩=>⟨i,o,p,n,t,y⟩
 have A: ∀b,FP m g b->FP m J b:=λb ⟨i,o,p,n,Z,t,y⟩=>⟨i,o,p,l _ _ n,Z,t,y⟩
 have R: ∀b,LB m g b->LB m J b:=λb ⟨i,o,p,n,t,y⟩=>⟨i,o,p,l _ _ n,t,y⟩
 have d: ∀id o,J.get id=some o-> ∃p,m id=some p/\OR P m o p w:=a.rel.live
 have kept: ∀id o p,J.get id=some o->o.rw=true->g.get id=none->m id=some p->OR P m o p w->OR P m' o p w':=by
  intro id o p c v s h4 L;exact OR.mono b.ext (b.kept.block _ L.lt (λY=>k id o p c v s h4 (a1 _ _ _ Y))) L
 refine⟨a.ext.trans b.ext,⟨λid o N=>?_,λi j oi B pi pj a4 hi hj a5 U G=>?_⟩,λid p hp=>?_,?_,λx O=>?_,?_,λx O=>?_,λid N hn=>?_⟩
 ·rcases W id o N with c|⟨c,v,s⟩
  ·exact b.rel.live id o c
  ·obtain⟨p,hp,L⟩:=d id o c
   exact⟨p,b.ext _ _ hp,kept id o p c v s hp L⟩
 ·rcases W i oi hi with c|⟨c,v,s⟩
  ·rcases W j B hj with F|⟨F,k2,k3⟩
   ·exact b.rel.inj i j oi B pi pj a4 c F a5 U G
   ·obtain⟨q,u,L⟩:=d j B F
    have f:=b.ext _ _ u
    rw[G] at f;cases f
    intro e
    rcases b.lb pi.1 ⟨i,oi,pi,c,U,rfl⟩ with r|r
    ·exact k j B _ F k2 k3 u (e▸r)
    ·have:=L.lt;omega
  ·obtain⟨q,u,L⟩:=d i oi c
   have f:=b.ext _ _ u
   rw[U] at f;cases f
   rcases W j B hj with F|⟨F,k2,k3⟩
   ·intro e
    rcases b.lb pj.1 ⟨j,B,pj,F,G,rfl⟩ with r|r
    ·exact k i oi _ c v s u (e▸r)
    ·have:=L.lt;omega
   ·obtain⟨q2,a2,_⟩:=d j B F
    have K:=b.ext _ _ a2
    rw[G] at K;cases K
    exact a.rel.inj i j oi B _ _ a4 c F a5 u a2
 ·rcases b.fresh id p hp with c|⟨c,v⟩
  ·rcases a.fresh id p c with s|⟨s,h4⟩
   ·exact .inl s
   ·exact .inr ⟨s,om⟩
  ·exact .inr ⟨om,om⟩
 ·exact⟨b.kept.os.trans a.kept.os,b.kept.tape.trans a.kept.tape,b.kept.output.trans a.kept.output,lX a.kept.size b.kept.size,λx a3 a0=>by
   have c:=a.kept.block x a3 a0;have v:=b.kept.block x (jB a3 a.kept.size) (λY=>(a.fp x (A x Y)).elim a0 (λa8=>om))
   exact v.trans c⟩
 ·obtain⟨i,o,p,n,Z,t,y⟩:=O
  rcases W i o n with c|⟨c,v,s⟩
  ·rcases b.fp x ⟨i,o,p,c,Z,t,y⟩ with r|r
   ·exact a.fp x (A x r)
   ·exact .inr (lX a.kept.size r)
  ·obtain⟨q,u,_⟩:=d i o c
   have f:=b.ext _ _ u
   rw[t] at f;cases f
   exact a.fp x ⟨i,o,_,c,Z,u,y⟩
 ·have:=a.next;omega
 ·obtain⟨i,o,p,n,t,y⟩:=O
  rcases W i o n with c|⟨c,v,s⟩
  ·rcases b.lb x ⟨i,o,p,c,t,y⟩ with r|r
   ·exact a.lb x (R x r)
   ·exact .inr (lX a.kept.size r)
  ·obtain⟨q,u,_⟩:=d i o c
   have f:=b.ext _ _ u
   rw[t] at f;cases f
   exact a.lb x ⟨i,o,_,c,u,y⟩
 ·cases hg:z.get id with
  |none=>rfl
  |some o=>
   exfalso;have Q:=a.old id N hn;rcases W id o hg with c|⟨c,_⟩
   ·have a6:g.get id=none:=by
     cases hgg:g.get id with
     |none=>rfl
     |some o2=>rw[l _ _ hgg] at Q;cases Q
    rw[b.old id om a6] at c;cases c
   ·rw[Q] at c;cases c
end
end Go.Ay
