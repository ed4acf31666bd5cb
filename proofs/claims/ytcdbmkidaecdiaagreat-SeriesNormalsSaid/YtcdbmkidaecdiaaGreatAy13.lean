/- A part of the heap advances, the rest stays. -/
import Derived.Test.YtcdbmkidaecdiaaGreatAy12
namespace Go.Ay
open Go
section
variable {P:Program}
theorem HR.sub {m:M}{h g:H}{w:World}(c:HR P m h w)(a: ∀id o,g.get id=some o->h.get id=some o):HR P m g w:=
 ⟨λid o k=>c.live id o (a id o k),λi j l f d n b hi e=>c.inj i j l f d n b (a _ _ hi) (a _ _ e)⟩
theorem jR.frame {m0 m m':M}{h0 F A g g':H}{w0 w w':World}(a:jR P m0 h0 w0 m F w)(l: ∀id o,g.get id=some o->F.get id=some o)(b:jR P m g w m' g' w')
  (N: ∀id o,A.get id=some o->g'.get id=some o∨(F.get id=some o/\o.rw=true/\g.get id=none))
  (n1:h0.next<=g.next) (n2:g'.next<=A.next) (n3:F.next<=A.next):jR P m0 h0 w0 m' A w':=by
 have k: ∀id o p,F.get id=some o->o.rw=true->g.get id=none->m id=some p-> ¬LB m g p.1:=by
  intro id o p c u n h4 ⟨j,B,q,s,e2,r⟩;have a6:id≠j:=λe=>by subst e;rw[n] at s;cases s
  exact a.rel.inj id j o B p q a6 c (l _ _ s) u h4 e2 r.symm
 have a5: ∀(m:M) (h:H) (b:Nat),FP m h b->LB m h b:=λm h b ⟨i,o,p,s,_,r,y⟩=>⟨i,o,p,s,r,y⟩
 have z: ∀b,FP m g b->FP m F b:=λb ⟨i,o,p,s,e2,r,y⟩=>⟨i,o,p,l _ _ s,e2,r,y⟩
 have U: ∀b,LB m g b->LB m F b:=λb ⟨i,o,p,s,r,y⟩=>⟨i,o,p,l _ _ s,r,y⟩
 have d: ∀id o,F.get id=some o-> ∃p,m id=some p/\OR P m o p w:=a.rel.live
 have kept: ∀id o p,F.get id=some o->o.rw=true->g.get id=none->m id=some p->OR P m o p w->OR P m' o p w':=by
  intro id o p c u n h4 L;exact OR.mono b.ext (b.kept.block _ L.lt (λQ=>k id o p c u n h4 (a5 _ _ _ Q))) L
 refine⟨a.ext.trans b.ext,⟨λid o O=>?_,λi j Z B pi pj a1 hi hj a4 W G=>?_⟩,λid p hp=>?_,?_,λx R=>?_,?_,λx R=>?_,λid O hn=>?_⟩
 ·rcases N id o O with c|⟨c,u,n⟩
  ·exact b.rel.live id o c
  ·obtain⟨p,hp,L⟩:=d id o c
   exact⟨p,b.ext _ _ hp,kept id o p c u n hp L⟩
 ·rcases N i Z hi with c|⟨c,u,n⟩
  ·rcases N j B hj with J|⟨J,k2,k3⟩
   ·exact b.rel.inj i j Z B pi pj a1 c J a4 W G
   ·obtain⟨q,v,L⟩:=d j B J
    have f:=b.ext _ _ v
    rw[G] at f;cases f
    intro e
    rcases b.lb pi.1 ⟨i,Z,pi,c,W,rfl⟩ with t|t
    ·exact k j B _ J k2 k3 v (e▸t)
    ·have:=L.lt;omega
  ·obtain⟨q,v,L⟩:=d i Z c
   have f:=b.ext _ _ v
   rw[W] at f;cases f
   rcases N j B hj with J|⟨J,k2,k3⟩
   ·intro e
    rcases b.lb pj.1 ⟨j,B,pj,J,G,rfl⟩ with t|t
    ·exact k i Z _ c u n v (e▸t)
    ·have:=L.lt;omega
   ·obtain⟨q2,a0,_⟩:=d j B J
    have K:=b.ext _ _ a0
    rw[G] at K;cases K
    exact a.rel.inj i j Z B _ _ a1 c J a4 v a0
 ·rcases b.fresh id p hp with c|⟨c,u⟩
  ·rcases a.fresh id p c with n|⟨n,h4⟩
   ·exact .inl n
   ·exact .inr ⟨n,om⟩
  ·exact .inr ⟨om,om⟩
 ·exact⟨b.kept.os.trans a.kept.os,b.kept.tape.trans a.kept.tape,b.kept.output.trans a.kept.output,mY a.kept.size b.kept.size,λx a2 a3=>by
   have c:=a.kept.block x a2 a3;have u:=b.kept.block x (jM a2 a.kept.size) (λQ=>(a.fp x (z x Q)).elim a3 (λa8=>om))
   exact u.trans c⟩
 ·obtain⟨i,o,p,s,e2,r,y⟩:=R
  rcases N i o s with c|⟨c,u,n⟩
  ·rcases b.fp x ⟨i,o,p,c,e2,r,y⟩ with t|t
   ·exact a.fp x (z x t)
   ·exact .inr (mY a.kept.size t)
  ·obtain⟨q,v,_⟩:=d i o c
   have f:=b.ext _ _ v
   rw[r] at f;cases f
   exact a.fp x ⟨i,o,_,c,e2,v,y⟩
 ·have:=a.next;omega
 ·obtain⟨i,o,p,s,r,y⟩:=R
  rcases N i o s with c|⟨c,u,n⟩
  ·rcases b.lb x ⟨i,o,p,c,r,y⟩ with t|t
   ·exact a.lb x (U x t)
   ·exact .inr (mY a.kept.size t)
  ·obtain⟨q,v,_⟩:=d i o c
   have f:=b.ext _ _ v
   rw[r] at f;cases f
   exact a.lb x ⟨i,o,_,c,v,y⟩
 ·cases hg:A.get id with
  |none=>rfl
  |some o=>
   exfalso;have Y:=a.old id O hn;rcases N id o hg with c|⟨c,_⟩
   ·have a7:g.get id=none:=by
     cases hgg:g.get id with
     |none=>rfl
     |some o2=>rw[l _ _ hgg] at Y;cases Y
    rw[b.old id om a7] at c;cases c
   ·rw[Y] at c;cases c
end
end Go.Ay
