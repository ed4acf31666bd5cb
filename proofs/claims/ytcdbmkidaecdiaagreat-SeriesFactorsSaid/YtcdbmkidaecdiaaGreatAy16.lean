/- A region whose order is drawn: the plan is one, and all orders come to cK it comes to. -/
import Derived.Test.YtcdbmkidaecdiaaGreatAy15
namespace Go.Ay
open Go
def Hm (ops:Array Oper)(i:Nat):List Nat:=match ops[i]? with|some o=>Bk o|none=> []
def Rel (dep:Nat->List Nat)(a b:AI):Prop:=
 a.i≠b.i/\(En a b=true->NV dep a.i b.i)/\(a.it.a.sJ=true->b.it.a.uB=true->NV dep a.i b.i∨b.cks.contains a.i=true)
theorem Tf {d j:Nat}: ∀(bef:List Nd),(Kd d bef).testBit j=true-> ∃q∈bef,q.x.i=d/\q.anc.testBit j=true
 | [],h=>by simp [Kd] at h
 |n::r,h=>by
  simp only[Kd] at h;split at h
  ·rename_i e;exact⟨n,Ab ..,e,h⟩
  ·obtain⟨q,a,b⟩:=Tf r h;exact⟨q,Cu _ a,b⟩
theorem Sb {b:List Nd}{j:Nat}: ∀(ds:List Nat) (m0:Nat),(ds.foldl (λm d=>m|||(2^d|||Kd d b)) m0).testBit j=true->
  m0.testBit j=true∨ ∃d∈ds,d=j∨(Kd d b).testBit j=true
 | [],m0,h=> .inl h
 |d::ds,m0,h=>by
  simp only[List.foldl_cons] at h;rcases Sb ds _ h with a|⟨f,c,a⟩
  ·simp only[Nat.testBit_or,Bool.or_eq_true,Nat.testBit_two_pow,decide_eq_true_eq] at a
   rcases a with a|a|a
   ·exact .inl a
   ·exact .inr ⟨d,Ab ..,.inl a⟩
   ·exact .inr ⟨d,Ab ..,.inr a⟩
  ·exact .inr ⟨f,Cu _ c,a⟩
theorem Gm {dep:Nat->List Nat}: ∀(l bef:List Nd),La l bef=true->(∀n∈l,n.dep=dep n.x.i)->(∀q∈bef,q.dep=dep q.x.i/\ ∀j,q.anc.testBit j=true->NV dep j q.x.i)->
  (∀q∈bef,∀n∈l,Rel dep q.x n.x)/\l.Pairwise (λa b=>Rel dep a.x b.x)/\(∀n∈l,n.x.al=n.x.it.a.Ki/\n.x.it.Em=false)/\
  (∀l1 n l2,l=l1++n::l2-> ∀d∈n.dep,∃y,(y∈bef∨y∈l1)/\y.x.i=d)
 | [],bef,_,_,_=>by
  refine⟨λ_ _ n h=>?_,List.Pairwise.nil,λn h=>?_,λl1 n l2 h=>?_⟩
  ·cases h
  ·cases h
  ·cases l1<;>simp at h
 |n::rest,bef,h,hd,hb=>by
  simp only[La,vN] at h;obtain⟨⟨⟨⟨⟨⟨⟨Z,A⟩,L⟩,R⟩,W⟩,Q⟩,O⟩,c8⟩:=h;have G:=hd n (Ab ..)
  have o: ∀j,n.anc.testBit j=true->NV dep j n.x.i:=by
   intro j K S J F;have A:=beq_iff_eq.1 A;rw[A] at K;rcases Sb _ _ K with r|⟨d,p,r⟩
   ·simp at r
   ·have v:S d=true:=F d (G▸p)
    rcases r with r|r
    ·exact r▸v
    ·obtain⟨q,c,e,w⟩:=Tf _ r
     exact (hb q c).2 j w S J (by rw[e];exact J d v)
  have B: ∀q∈n::bef,q.dep=dep q.x.i/\ ∀j,q.anc.testBit j=true->NV dep j q.x.i:=λq c=>by
   rcases zH.1 c with rfl|c
   ·exact⟨G,o⟩
   ·exact hb q c
  obtain⟨N,P,Y,r4⟩:=Gm rest (n::bef) c8 (λm k=>hd m (Cu _ k)) B
  have u: ∀q∈bef,Rel dep q.x n.x:=by
   intro q c;refine⟨λe=>?_,λU=>?_,λr w=>?_⟩
   ·have f:(bef.any λq=>q.x.i==n.x.i)=true:=List.any_eq_true.2 ⟨q,c,by simp [e]⟩
    rw[f] at L;cases L
   ·have f:=Kv.1 R q c
    simp only[U,Bool.not_true,Bool.false_or] at f;exact o _ f
   ·have f:=Kv.1 W q c
    simp only[r,w,Bool.and_self,Bool.not_true,Bool.false_or,Bool.or_eq_true] at f;rcases f with f|f
    ·exact .inl (o _ f)
    ·exact .inr f
  refine⟨λq c m k=>?_,List.pairwise_cons.2 ⟨λm k=>N n (Ab ..) m k,P⟩,λm k=>?_,λl1 m l2 t d p=>?_⟩
  ·rcases zH.1 k with rfl|k
   ·exact u q c
   ·exact N q (Cu _ c) m k
  ·rcases zH.1 k with rfl|k
   ·exact⟨beq_iff_eq.1 O,by simpa using Q⟩
   ·exact Y m k
  ·cases l1 with
   |nil=>
    simp only[List.nil_append,List.cons.injEq] at t;obtain⟨rfl,rfl⟩:=t;have f:=Kv.1 Z d p;obtain⟨q,c,e⟩:=List.any_eq_true.1 f;exact⟨q,.inl c,by simpa using e⟩
   |cons y l1=>
    simp only[List.cons_append,List.cons.injEq] at t;obtain⟨rfl,t⟩:=t;obtain⟨z,s,e⟩:=r4 l1 m l2 t d p;refine⟨z,?_,e⟩;rcases s with s|s
    ·rcases zH.1 s with rfl|s
     ·exact .inr (Ab ..)
     ·exact .inl s
    ·exact .inr (Cu _ s)
section
variable {P:Program} {nt:Nat} {pv:List Nat} {ops:Array Oper}
theorem Hj: ∀(os:List Oper) (k:Nat) (ns:List Nd),He P nt pv ops k os=some ns->
  ∀(j:Nat) (nd:Nd),ns[j]? =some nd-> ∃o,os[j]? =some o/\nd.x.i=k+j/\vD P nt pv [] ops o=some (nd.x.it, [])/\nd.dep=Bk o
 | [],k,ns,h,j,nd,hj=>by simp only[He] at h;cases h;simp at hj
 |o::os,k,ns,h,j,nd,hj=>by
  simp only[He] at h;split at h
  ·rename_i it a
   simp only[mJ] at h;obtain⟨r,f,rfl⟩:=h
   cases j with
   |zero=>simp at hj;subst hj;exact⟨o,rfl,by simp,a,rfl⟩
   |succ j=>
    obtain⟨d,l,m,c,b⟩:=Hj os (k+1) r f j nd (by simpa using hj);exact⟨d,by simpa using l,om,c,b⟩
  ·cases h
structure Uz (P:Program)(nt:Nat)(pv:List Nat)(ops:Array Oper)(xs:List AI):Prop where
 ok:DB (Hm ops) ops.size xs
 it: ∀x∈xs,∃o it,ops[x.i]? =some o/\vD P nt pv [] ops o=some (it, [])/\(x.it=it∨x.it=it.pu)
theorem Gt {t:List Nd}{xs:List AI}(F: ∀(j:Nat) (nd:Nd),t[j]? =some nd-> ∃o it,ops[nd.x.i]? =some o/\vD P nt pv [] ops o=some (it, [])/\(nd.x.it=it∨nd.x.it=it.pu)/\nd.dep=Bk o)
  (m:Lf t ops.size=some xs):Uz P nt pv ops xs:=by
 unfold Lf at m
 split at m
 ·cases m
 ·rename_i h l
  split at m
  ·rename_i p
   cases m
   simp only[vN,SE] at p
   obtain⟨N,W⟩:=p
   have c: ∀nd∈h,∃o it,ops[nd.x.i]? =some o/\vD P nt pv [] ops o=some (it, [])/\(nd.x.it=it∨nd.x.it=it.pu)/\nd.dep=Bk o:=by
    intro nd a;obtain⟨m1,R⟩:=jD l;obtain⟨j,hj,G⟩:=List.getElem_of_mem a;have B:j<(Vc t.length t []).length:=om
    obtain⟨b,K,s⟩:=R j _ (dD B);rw[dD hj,G] at K;cases K;simp only[mJ] at s;obtain⟨mm,v,rfl⟩:=s;obtain⟨o,it,f,k,z,h4⟩:=F _ _ v;exact⟨o,it,f,k,z,h4⟩
   obtain⟨_,O,r3,r4⟩:=Gm (dep:=Hm ops) h [] W (λnd a=>by
    obtain⟨o,it,f,_,_,k⟩:=c nd a
    rw[k];simp [Hm,f]) (λq w=>by cases w)
   refine⟨⟨?_,λx r=>?_,λx r=>?_,λi hi=>?_,λl1 x l2 Y d L=>?_⟩,λx r=>?_⟩
   case refine_1=>rw[List.pairwise_map];exact O
   case refine_2=>
    obtain⟨nd,a,rfl⟩:=uF.1 r;exact r3 nd a
   case refine_3=>
    obtain⟨nd,a,rfl⟩:=uF.1 r;obtain⟨o,it,f,_⟩:=c nd a;exact (AS.1 f).1
   case refine_4=>
    have Z:=Kv.1 N i (Gu.2 hi);obtain⟨q,w,e⟩:=List.any_eq_true.1 Z;exact⟨q.x,uF.2 ⟨q,w,rfl⟩,by simpa using e⟩
   case refine_5=>
    obtain⟨Q,u,J,U,A⟩:=List.map_eq_append_iff.1 Y
    cases u with
    |nil=>simp at A
    |cons nd u=>
     simp only[List.map_cons,List.cons.injEq] at A;obtain⟨o,it,f,_,_,k⟩:=c nd (by rw[J];simp);obtain⟨y,n,e⟩:=r4 Q nd u J d (by rw[k];rw[←A.1] at L;simpa [Hm,f] using L);rcases n with n|n
     ·cases n
     ·exact⟨y.x,by rw[←U];exact uF.2 ⟨y,n,rfl⟩,e⟩
   case refine_6=>
    obtain⟨nd,a,rfl⟩:=uF.1 r;obtain⟨o,it,f,k,z,_⟩:=c nd a;exact⟨o,it,f,k,z⟩
  ·cases m
theorem Ty {c:C}(a:Tq P nt pv ops=some c): ∃(loc:List Nat) (xs:List AI),c= .any ops.size loc.length xs/\(∀t∈loc,t<nt)/\Uz P nt (pv++loc) ops xs:=by
 unfold Tq at a;simp only at a;split at a
 ·cases a
 ·rename_i u n
  have b: ∀(j:Nat) (nd:Nd),u[j]? =some nd-> ∃o,ops[nd.x.i]? =some o/\vD P nt (pv++locals pv (ops.toList.filterMap (·.dst)) []) [] ops o=some (nd.x.it, [])/\nd.dep=Bk o:=λj nd f=>by
   obtain⟨o,m,h,k,q⟩:=Hj _ _ _ n j nd f;exact⟨o,by simp only[h,Nat.zero_add];simpa using m,k,q⟩
  split at a
  ·rename_i v
   have p: ∀t∈locals pv (ops.toList.filterMap (·.dst)) [],t<nt:=λt s=>by simpa using Kv.1 v t s
   split at a
   ·rename_i xs d
    cases a
    exact⟨_,_,rfl,p,Gt (λj nd f=>by
     obtain⟨o,m,h,k⟩:=b j nd f
     exact⟨o,nd.x.it,m,h,.inl rfl,k⟩) d⟩
   ·obtain⟨xs,d,rfl⟩:=mJ.1 a
    refine⟨_,_,rfl,p,Gt (λj nd f=>?_) d⟩;rw[Ol] at f;obtain⟨l,r,rfl⟩:=mJ.1 f;obtain⟨o,m,h,k⟩:=b j l r;exact⟨o,l.x.it,m,h,.inr rfl,k⟩
  ·cases a
end
end Go.Ay
