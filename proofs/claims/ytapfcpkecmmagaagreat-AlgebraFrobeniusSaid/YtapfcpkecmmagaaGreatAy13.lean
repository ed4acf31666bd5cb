/- A part of the heap advances, the rest stays. -/
import Derived.Test.YtapfcpkecmmagaaGreatAy12
namespace Go.Ay
open Go
section
variable {P:Program}
theorem HR.sub {m:M}{h g:H}{w:World}(hr:HR P m h w)(hs: ∀id o,g.get id=some o->h.get id=some o):HR P m g w:=
 ⟨λid o ho=>hr.live id o (hs id o ho),λi j oi oj pi pj hij hi hj=>hr.inj i j oi oj pi pj hij (hs _ _ hi) (hs _ _ hj)⟩
theorem eS.frame {m0 m m':M}{h0 hs hs' g g':H}{w0 w w':World}(a:eS P m0 h0 w0 m hs w)(hsub: ∀id o,g.get id=some o->hs.get id=some o)(b:eS P m g w m' g' w')
  (hx: ∀id o,hs'.get id=some o->g'.get id=some o∨(hs.get id=some o/\o.rw=true/\g.get id=none))
  (n1:h0.next<=g.next) (n2:g'.next<=hs'.next) (n3:hs.next<=hs'.next):eS P m0 h0 w0 m' hs' w':=by
 have apart: ∀id o p,hs.get id=some o->o.rw=true->g.get id=none->m id=some p-> ¬LB m g p.1:=by
  intro id o p h1 h2 h3 h4 ⟨j,oj,q,e1,e2,e3⟩;have hne:id≠j:=λe=>by subst e;rw[h3] at e1;cases e1
  exact a.rel.inj id j o oj p q hne h1 (hsub _ _ e1) h2 h4 e2 e3.symm
 have fplb: ∀(m:M) (h:H) (b:Nat),FP m h b->LB m h b:=λm h b ⟨i,o,p,e1,_,e3,e4⟩=>⟨i,o,p,e1,e3,e4⟩
 have fpsub: ∀b,FP m g b->FP m hs b:=λb ⟨i,o,p,e1,e2,e3,e4⟩=>⟨i,o,p,hsub _ _ e1,e2,e3,e4⟩
 have lbsub: ∀b,LB m g b->LB m hs b:=λb ⟨i,o,p,e1,e3,e4⟩=>⟨i,o,p,hsub _ _ e1,e3,e4⟩
 have place: ∀id o,hs.get id=some o-> ∃p,m id=some p/\OR P m o p w:=a.rel.live
 have kept: ∀id o p,hs.get id=some o->o.rw=true->g.get id=none->m id=some p->OR P m o p w->OR P m' o p w':=by
  intro id o p h1 h2 h3 h4 ho;exact OR.mono b.ext (b.kept.block _ ho.lt (λhfp=>apart id o p h1 h2 h3 h4 (fplb _ _ _ hfp))) ho
 refine⟨a.ext.trans b.ext,⟨λid o hid=>?_,λi j oi oj pi pj hij hi hj hrw hpi hpj=>?_⟩,λid p hp=>?_,?_,λx hxx=>?_,?_,λx hxx=>?_,λid hid hn=>?_⟩
 ·rcases hx id o hid with h1|⟨h1,h2,h3⟩
  ·exact b.rel.live id o h1
  ·obtain⟨p,hp,ho⟩:=place id o h1
   exact⟨p,b.ext _ _ hp,kept id o p h1 h2 h3 hp ho⟩
 ·rcases hx i oi hi with h1|⟨h1,h2,h3⟩
  ·rcases hx j oj hj with k1|⟨k1,k2,k3⟩
   ·exact b.rel.inj i j oi oj pi pj hij h1 k1 hrw hpi hpj
   ·obtain⟨q,hq,ho⟩:=place j oj k1
    have hqe:=b.ext _ _ hq
    rw[hpj] at hqe;cases hqe
    intro e
    rcases b.lb pi.1 ⟨i,oi,pi,h1,hpi,rfl⟩ with h9|h9
    ·exact apart j oj _ k1 k2 k3 hq (e▸h9)
    ·have:=ho.lt;omega
  ·obtain⟨q,hq,ho⟩:=place i oi h1
   have hqe:=b.ext _ _ hq
   rw[hpi] at hqe;cases hqe
   rcases hx j oj hj with k1|⟨k1,k2,k3⟩
   ·intro e
    rcases b.lb pj.1 ⟨j,oj,pj,k1,hpj,rfl⟩ with h9|h9
    ·exact apart i oi _ h1 h2 h3 hq (e▸h9)
    ·have:=ho.lt;omega
   ·obtain⟨q2,hq2,_⟩:=place j oj k1
    have hqe2:=b.ext _ _ hq2
    rw[hpj] at hqe2;cases hqe2
    exact a.rel.inj i j oi oj _ _ hij h1 k1 hrw hq hq2
 ·rcases b.fresh id p hp with h1|⟨h1,h2⟩
  ·rcases a.fresh id p h1 with h3|⟨h3,h4⟩
   ·exact .inl h3
   ·exact .inr ⟨h3,by omega⟩
  ·exact .inr ⟨by omega,by omega⟩
 ·exact⟨b.kept.os.trans a.kept.os,b.kept.tape.trans a.kept.tape,b.kept.output.trans a.kept.output,Nat.le_trans a.kept.size b.kept.size,λx hx1 hx2=>by
   have h1:=a.kept.block x hx1 hx2;have h2:=b.kept.block x (gE hx1 a.kept.size) (λhfp=>(a.fp x (fpsub x hfp)).elim hx2 (λhle=>by omega))
   exact h2.trans h1⟩
 ·obtain⟨i,o,p,e1,e2,e3,e4⟩:=hxx
  rcases hx i o e1 with h1|⟨h1,h2,h3⟩
  ·rcases b.fp x ⟨i,o,p,h1,e2,e3,e4⟩ with h9|h9
   ·exact a.fp x (fpsub x h9)
   ·exact .inr (Nat.le_trans a.kept.size h9)
  ·obtain⟨q,hq,_⟩:=place i o h1
   have hqe:=b.ext _ _ hq
   rw[e3] at hqe;cases hqe
   exact a.fp x ⟨i,o,_,h1,e2,hq,e4⟩
 ·have:=a.next;omega
 ·obtain⟨i,o,p,e1,e3,e4⟩:=hxx
  rcases hx i o e1 with h1|⟨h1,h2,h3⟩
  ·rcases b.lb x ⟨i,o,p,h1,e3,e4⟩ with h9|h9
   ·exact a.lb x (lbsub x h9)
   ·exact .inr (Nat.le_trans a.kept.size h9)
  ·obtain⟨q,hq,_⟩:=place i o h1
   have hqe:=b.ext _ _ hq
   rw[e3] at hqe;cases hqe
   exact a.lb x ⟨i,o,_,h1,hq,e4⟩
 ·cases hg:hs'.get id with
  |none=>rfl
  |some o=>
   exfalso;have hhs:=a.old id hid hn;rcases hx id o hg with h1|⟨h1,_⟩
   ·have hgn:g.get id=none:=by
     cases hgg:g.get id with
     |none=>rfl
     |some o2=>rw[hsub _ _ hgg] at hhs;cases hhs
    rw[b.old id (by omega) hgn] at h1;cases h1
   ·rw[hhs] at h1;cases h1
end
end Go.Ay
