/- A part of the heap advances, the rest stays. -/
import Derived.Test.YtcdbmkidaecdiaaGreatAy12
namespace Go.Ay
open Go
section
variable {P:Program}
theorem HR.sub {m:M}{h g:H}{w:World}(c:HR P m h w)(a: ∀id o,g.get id=some o->h.get id=some o):HR P m g w:=
 ⟨λid o p=>c.live id o (a id o p),λi j f d n k b hi l=>c.inj i j f d n k b (a _ _ hi) (a _ _ l)⟩
theorem iO.frame {m0 m m':M}{h0 J A g g':H}{w0 w w':World}(a:iO P m0 h0 w0 m J w)(l: ∀id o,g.get id=some o->J.get id=some o)(b:iO P m g w m' g' w')
  (N: ∀id o,A.get id=some o->g'.get id=some o∨(J.get id=some o/\o.rw=true/\g.get id=none))
  (n1:h0.next<=g.next) (n2:g'.next<=A.next) (n3:J.next<=A.next):iO P m0 h0 w0 m' A w':=by
 have k: ∀id o p,J.get id=some o->o.rw=true->g.get id=none->m id=some p-> ¬LB m g p.1:=by
  intro id o p c v n h4 ⟨j,B,q,r,e2,s⟩;have a7:id≠j:=λe=>by subst e;rw[n] at r;cases r
  exact a.rel.inj id j o B p q a7 c (l _ _ r) v h4 e2 s.symm
 have a0: ∀(m:M) (h:H) (b:Nat),FP m h b->LB m h b:=λm h b ⟨i,o,p,r,_,s,y⟩=>⟨i,o,p,r,s,y⟩
 have z: ∀b,FP m g b->FP m J b:=λb ⟨i,o,p,r,e2,s,y⟩=>⟨i,o,p,l _ _ r,e2,s,y⟩
 have O: ∀b,LB m g b->LB m J b:=λb ⟨i,o,p,r,s,y⟩=>⟨i,o,p,l _ _ r,s,y⟩
 have d: ∀id o,J.get id=some o-> ∃p,m id=some p/\OR P m o p w:=a.rel.live
 have kept: ∀id o p,J.get id=some o->o.rw=true->g.get id=none->m id=some p->OR P m o p w->OR P m' o p w':=by
  intro id o p c v n h4 K;exact OR.mono b.ext (b.kept.block _ K.lt (λW=>k id o p c v n h4 (a0 _ _ _ W))) K
 refine⟨a.ext.trans b.ext,⟨λid o R=>?_,λi j Z B pi pj a4 hi hj a5 U F=>?_⟩,λid p hp=>?_,?_,λx Y=>?_,?_,λx Y=>?_,λid R hn=>?_⟩
 ·rcases N id o R with c|⟨c,v,n⟩
  ·exact b.rel.live id o c
  ·obtain⟨p,hp,K⟩:=d id o c
   exact⟨p,b.ext _ _ hp,kept id o p c v n hp K⟩
 ·rcases N i Z hi with c|⟨c,v,n⟩
  ·rcases N j B hj with G|⟨G,k2,k3⟩
   ·exact b.rel.inj i j Z B pi pj a4 c G a5 U F
   ·obtain⟨q,u,K⟩:=d j B G
    have f:=b.ext _ _ u
    rw[F] at f;cases f
    intro e
    rcases b.lb pi.1 ⟨i,Z,pi,c,U,rfl⟩ with t|t
    ·exact k j B _ G k2 k3 u (e▸t)
    ·have:=K.lt;omega
  ·obtain⟨q,u,K⟩:=d i Z c
   have f:=b.ext _ _ u
   rw[U] at f;cases f
   rcases N j B hj with G|⟨G,k2,k3⟩
   ·intro e
    rcases b.lb pj.1 ⟨j,B,pj,G,F,rfl⟩ with t|t
    ·exact k i Z _ c v n u (e▸t)
    ·have:=K.lt;omega
   ·obtain⟨q2,a2,_⟩:=d j B G
    have L:=b.ext _ _ a2
    rw[F] at L;cases L
    exact a.rel.inj i j Z B _ _ a4 c G a5 u a2
 ·rcases b.fresh id p hp with c|⟨c,v⟩
  ·rcases a.fresh id p c with n|⟨n,h4⟩
   ·exact .inl n
   ·exact .inr ⟨n,om⟩
  ·exact .inr ⟨om,om⟩
 ·exact⟨b.kept.os.trans a.kept.os,b.kept.tape.trans a.kept.tape,b.kept.output.trans a.kept.output,mT a.kept.size b.kept.size,λx a1 a3=>by
   have c:=a.kept.block x a1 a3;have v:=b.kept.block x (iW a1 a.kept.size) (λW=>(a.fp x (z x W)).elim a3 (λa8=>om))
   exact v.trans c⟩
 ·obtain⟨i,o,p,r,e2,s,y⟩:=Y
  rcases N i o r with c|⟨c,v,n⟩
  ·rcases b.fp x ⟨i,o,p,c,e2,s,y⟩ with t|t
   ·exact a.fp x (z x t)
   ·exact .inr (mT a.kept.size t)
  ·obtain⟨q,u,_⟩:=d i o c
   have f:=b.ext _ _ u
   rw[s] at f;cases f
   exact a.fp x ⟨i,o,_,c,e2,u,y⟩
 ·have:=a.next;omega
 ·obtain⟨i,o,p,r,s,y⟩:=Y
  rcases N i o r with c|⟨c,v,n⟩
  ·rcases b.lb x ⟨i,o,p,c,s,y⟩ with t|t
   ·exact a.lb x (O x t)
   ·exact .inr (mT a.kept.size t)
  ·obtain⟨q,u,_⟩:=d i o c
   have f:=b.ext _ _ u
   rw[s] at f;cases f
   exact a.lb x ⟨i,o,_,c,u,y⟩
 ·cases hg:A.get id with
  |none=>rfl
  |some o=>
   exfalso;have Q:=a.old id R hn;rcases N id o hg with c|⟨c,_⟩
   ·have a6:g.get id=none:=by
     cases hgg:g.get id with
     |none=>rfl
     |some o2=>rw[l _ _ hgg] at Q;cases Q
    rw[b.old id om a6] at c;cases c
   ·rw[Q] at c;cases c
end
end Go.Ay
