/- A part of the heap advances, the rest stays. -/
import Derived.Test.YtapfcpkecmmagaaGreatAy12
namespace Go.Ay
open Go
section
variable {P:Program}
theorem HR.sub {m:M}{h g:H}{w:World}(c:HR P m h w)(a: ∀id o,g.get id=some o->h.get id=some o):HR P m g w:=
 ⟨λid o b=>c.live id o (a id o b),λi j k d e l b hi f=>c.inj i j k d e l b (a _ _ hi) (a _ _ f)⟩
theorem fY.frame {m0 m m':M}{h0 G z g g':H}{w0 w w':World}(a:fY P m0 h0 w0 m G w)(l: ∀id o,g.get id=some o->G.get id=some o)(b:fY P m g w m' g' w')
  (R: ∀id o,z.get id=some o->g'.get id=some o∨(G.get id=some o/\o.rw=true/\g.get id=none))
  (n1:h0.next<=g.next) (n2:g'.next<=z.next) (n3:G.next<=z.next):fY P m0 h0 w0 m' z w':=by
 have k: ∀id o p,G.get id=some o->o.rw=true->g.get id=none->m id=some p-> ¬LB m g p.1:=by
  intro id o p c v s h4 ⟨j,B,q,t,e2,n⟩;have h:id≠j:=λe=>by subst e;rw[s] at t;cases t
  exact a.rel.inj id j o B p q h c (l _ _ t) v h4 e2 n.symm
 have a3: ∀(m:M) (h:H) (b:Nat),FP m h b->LB m h b:=λm h b ⟨i,o,p,t,_,n,y⟩=>⟨i,o,p,t,n,y⟩
 have A: ∀b,FP m g b->FP m G b:=λb ⟨i,o,p,t,e2,n,y⟩=>⟨i,o,p,l _ _ t,e2,n,y⟩
 have W: ∀b,LB m g b->LB m G b:=λb ⟨i,o,p,t,n,y⟩=>⟨i,o,p,l _ _ t,n,y⟩
 have d: ∀id o,G.get id=some o-> ∃p,m id=some p/\OR P m o p w:=a.rel.live
 have kept: ∀id o p,G.get id=some o->o.rw=true->g.get id=none->m id=some p->OR P m o p w->OR P m' o p w':=by
  intro id o p c v s h4 K;exact OR.mono b.ext (b.kept.block _ K.lt (λQ=>k id o p c v s h4 (a3 _ _ _ Q))) K
 refine⟨a.ext.trans b.ext,⟨λid o N=>?_,λi j Z B pi pj a1 hi hj a2 U F=>?_⟩,λid p hp=>?_,?_,λx Y=>?_,?_,λx Y=>?_,λid N hn=>?_⟩
 ·rcases R id o N with c|⟨c,v,s⟩
  ·exact b.rel.live id o c
  ·obtain⟨p,hp,K⟩:=d id o c
   exact⟨p,b.ext _ _ hp,kept id o p c v s hp K⟩
 ·rcases R i Z hi with c|⟨c,v,s⟩
  ·rcases R j B hj with J|⟨J,k2,k3⟩
   ·exact b.rel.inj i j Z B pi pj a1 c J a2 U F
   ·obtain⟨q,u,K⟩:=d j B J
    have f:=b.ext _ _ u
    rw[F] at f;cases f
    intro e
    rcases b.lb pi.1 ⟨i,Z,pi,c,U,rfl⟩ with r|r
    ·exact k j B _ J k2 k3 u (e▸r)
    ·have:=K.lt;omega
  ·obtain⟨q,u,K⟩:=d i Z c
   have f:=b.ext _ _ u
   rw[U] at f;cases f
   rcases R j B hj with J|⟨J,k2,k3⟩
   ·intro e
    rcases b.lb pj.1 ⟨j,B,pj,J,F,rfl⟩ with r|r
    ·exact k i Z _ c v s u (e▸r)
    ·have:=K.lt;omega
   ·obtain⟨e,a0,_⟩:=d j B J
    have L:=b.ext _ _ a0
    rw[F] at L;cases L
    exact a.rel.inj i j Z B _ _ a1 c J a2 u a0
 ·rcases b.fresh id p hp with c|⟨c,v⟩
  ·rcases a.fresh id p c with s|⟨s,h4⟩
   ·exact .inl s
   ·exact .inr ⟨s,om⟩
  ·exact .inr ⟨om,om⟩
 ·exact⟨b.kept.os.trans a.kept.os,b.kept.tape.trans a.kept.tape,b.kept.output.trans a.kept.output,jK a.kept.size b.kept.size,λx e h=>by
   have c:=a.kept.block x e h;have v:=b.kept.block x (iP e a.kept.size) (λQ=>(a.fp x (A x Q)).elim h (λe=>om))
   exact v.trans c⟩
 ·obtain⟨i,o,p,t,e2,n,y⟩:=Y
  rcases R i o t with c|⟨c,v,s⟩
  ·rcases b.fp x ⟨i,o,p,c,e2,n,y⟩ with r|r
   ·exact a.fp x (A x r)
   ·exact .inr (jK a.kept.size r)
  ·obtain⟨q,u,_⟩:=d i o c
   have f:=b.ext _ _ u
   rw[n] at f;cases f
   exact a.fp x ⟨i,o,_,c,e2,u,y⟩
 ·have:=a.next;omega
 ·obtain⟨i,o,p,t,n,y⟩:=Y
  rcases R i o t with c|⟨c,v,s⟩
  ·rcases b.lb x ⟨i,o,p,c,n,y⟩ with r|r
   ·exact a.lb x (W x r)
   ·exact .inr (jK a.kept.size r)
  ·obtain⟨q,u,_⟩:=d i o c
   have f:=b.ext _ _ u
   rw[n] at f;cases f
   exact a.lb x ⟨i,o,_,c,u,y⟩
 ·cases hg:z.get id with
  |none=>rfl
  |some o=>
   exfalso;have O:=a.old id N hn;rcases R id o hg with c|⟨c,_⟩
   ·have a4:g.get id=none:=by
     cases hgg:g.get id with
     |none=>rfl
     |some o2=>rw[l _ _ hgg] at O;cases O
    rw[b.old id om a4] at c;cases c
   ·rw[O] at c;cases c
end
end Go.Ay
