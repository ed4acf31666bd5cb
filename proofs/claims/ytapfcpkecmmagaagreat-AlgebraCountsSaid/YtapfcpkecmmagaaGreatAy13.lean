/- A part of the heap advances, the rest stays. -/
import Derived.Test.YtapfcpkecmmagaaGreatAy12
namespace Go.Ay
open Go
section
variable {P:Program}
theorem HR.sub {m:M}{h g:H}{w:World}(c:HR P m h w)(a: ∀id o,g.get id=some o->h.get id=some o):HR P m g w:=
 ⟨λid o b=>c.live id o (a id o b),λi j k l d e b hi f=>c.inj i j k l d e b (a _ _ hi) (a _ _ f)⟩
theorem fU.frame {m0 m m':M}{h0 F y g g':H}{w0 w w':World}(a:fU P m0 h0 w0 m F w)(l: ∀id o,g.get id=some o->F.get id=some o)(b:fU P m g w m' g' w')
  (R: ∀id o,y.get id=some o->g'.get id=some o∨(F.get id=some o/\o.rw=true/\g.get id=none))
  (n1:h0.next<=g.next) (n2:g'.next<=y.next) (n3:F.next<=y.next):fU P m0 h0 w0 m' y w':=by
 have k: ∀id o p,F.get id=some o->o.rw=true->g.get id=none->m id=some p-> ¬LB m g p.1:=by
  intro id o p c u t h4 ⟨j,B,q,n,Z,s⟩;have h:id≠j:=λe=>by subst e;rw[t] at n;cases n
  exact a.rel.inj id j o B p q h c (l _ _ n) u h4 Z s.symm
 have a0: ∀(m:M) (h:H) (b:Nat),FP m h b->LB m h b:=λm h b ⟨i,o,p,n,_,s,z⟩=>⟨i,o,p,n,s,z⟩
 have A: ∀b,FP m g b->FP m F b:=λb ⟨i,o,p,n,Z,s,z⟩=>⟨i,o,p,l _ _ n,Z,s,z⟩
 have Q: ∀b,LB m g b->LB m F b:=λb ⟨i,o,p,n,s,z⟩=>⟨i,o,p,l _ _ n,s,z⟩
 have d: ∀id o,F.get id=some o-> ∃p,m id=some p/\OR P m o p w:=a.rel.live
 have kept: ∀id o p,F.get id=some o->o.rw=true->g.get id=none->m id=some p->OR P m o p w->OR P m' o p w':=by
  intro id o p c u t h4 K;exact OR.mono b.ext (b.kept.block _ K.lt (λW=>k id o p c u t h4 (a0 _ _ _ W))) K
 refine⟨a.ext.trans b.ext,⟨λid o N=>?_,λi j oi B pi pj a2 hi hj a3 O J=>?_⟩,λid p hp=>?_,?_,λx Y=>?_,?_,λx Y=>?_,λid N hn=>?_⟩
 ·rcases R id o N with c|⟨c,u,t⟩
  ·exact b.rel.live id o c
  ·obtain⟨p,hp,K⟩:=d id o c
   exact⟨p,b.ext _ _ hp,kept id o p c u t hp K⟩
 ·rcases R i oi hi with c|⟨c,u,t⟩
  ·rcases R j B hj with G|⟨G,k2,k3⟩
   ·exact b.rel.inj i j oi B pi pj a2 c G a3 O J
   ·obtain⟨q,v,K⟩:=d j B G
    have f:=b.ext _ _ v
    rw[J] at f;cases f
    intro e
    rcases b.lb pi.1 ⟨i,oi,pi,c,O,rfl⟩ with r|r
    ·exact k j B _ G k2 k3 v (e▸r)
    ·have:=K.lt;omega
  ·obtain⟨q,v,K⟩:=d i oi c
   have f:=b.ext _ _ v
   rw[O] at f;cases f
   rcases R j B hj with G|⟨G,k2,k3⟩
   ·intro e
    rcases b.lb pj.1 ⟨j,B,pj,G,J,rfl⟩ with r|r
    ·exact k i oi _ c u t v (e▸r)
    ·have:=K.lt;omega
   ·obtain⟨e,a1,_⟩:=d j B G
    have L:=b.ext _ _ a1
    rw[J] at L;cases L
    exact a.rel.inj i j oi B _ _ a2 c G a3 v a1
 ·rcases b.fresh id p hp with c|⟨c,u⟩
  ·rcases a.fresh id p c with t|⟨t,h4⟩
   ·exact .inl t
   ·exact .inr ⟨t,om⟩
  ·exact .inr ⟨om,om⟩
 ·exact⟨b.kept.os.trans a.kept.os,b.kept.tape.trans a.kept.tape,b.kept.output.trans a.kept.output,jC a.kept.size b.kept.size,λx e h=>by
   have c:=a.kept.block x e h;have u:=b.kept.block x (iO e a.kept.size) (λW=>(a.fp x (A x W)).elim h (λe=>om))
   exact u.trans c⟩
 ·obtain⟨i,o,p,n,Z,s,z⟩:=Y
  rcases R i o n with c|⟨c,u,t⟩
  ·rcases b.fp x ⟨i,o,p,c,Z,s,z⟩ with r|r
   ·exact a.fp x (A x r)
   ·exact .inr (jC a.kept.size r)
  ·obtain⟨q,v,_⟩:=d i o c
   have f:=b.ext _ _ v
   rw[s] at f;cases f
   exact a.fp x ⟨i,o,_,c,Z,v,z⟩
 ·have:=a.next;omega
 ·obtain⟨i,o,p,n,s,z⟩:=Y
  rcases R i o n with c|⟨c,u,t⟩
  ·rcases b.lb x ⟨i,o,p,c,s,z⟩ with r|r
   ·exact a.lb x (Q x r)
   ·exact .inr (jC a.kept.size r)
  ·obtain⟨q,v,_⟩:=d i o c
   have f:=b.ext _ _ v
   rw[s] at f;cases f
   exact a.lb x ⟨i,o,_,c,v,z⟩
 ·cases hg:y.get id with
  |none=>rfl
  |some o=>
   exfalso;have U:=a.old id N hn;rcases R id o hg with c|⟨c,_⟩
   ·have a4:g.get id=none:=by
     cases hgg:g.get id with
     |none=>rfl
     |some o2=>rw[l _ _ hgg] at U;cases U
    rw[b.old id om a4] at c;cases c
   ·rw[U] at c;cases c
end
end Go.Ay
