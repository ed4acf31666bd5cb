/- A region whose order is drawn: the plan is one, and all orders come to cW it comes to. -/
import Derived.Test.YtapfcpkecmmagaaGreatAy15
namespace Go.Ay
open Go
def sM (ops:Array Oper)(i:Nat):List Nat:=match ops[i]? with|some o=>oQ o|none=> []
def Rel (dep:Nat->List Nat)(a b:AI):Prop:=
 a.i≠b.i/\(qN a b=true->Np dep a.i b.i)/\(a.it.a.kT=true->b.it.a.lH=true->Np dep a.i b.i∨b.cks.contains a.i=true)
theorem yN {d j:Nat}: ∀(bef:List Nd),(uA d bef).testBit j=true-> ∃q∈bef,q.x.i=d/\q.anc.testBit j=true
 | [],h=>by simp [uA] at h
 |n::r,h=>by
  simp only[uA] at h;split at h
  ·rename_i e;exact⟨n,List.mem_cons_self ..,e,h⟩
  ·obtain⟨q,hq,h1⟩:=yN r h;exact⟨q,List.mem_cons_of_mem _ hq,h1⟩
theorem yB {bef:List Nd}{j:Nat}: ∀(ds:List Nat) (m0:Nat),(ds.foldl (λm d=>m|||(2^d|||uA d bef)) m0).testBit j=true->
  m0.testBit j=true∨ ∃d∈ds,d=j∨(uA d bef).testBit j=true
 | [],m0,h=> .inl h
 |d::ds,m0,h=>by
  simp only[List.foldl_cons] at h;rcases yB ds _ h with h1|⟨d',hd',h1⟩
  ·simp only[Nat.testBit_or,Bool.or_eq_true,Nat.testBit_two_pow,decide_eq_true_eq] at h1
   rcases h1 with h1|h1|h1
   ·exact .inl h1
   ·exact .inr ⟨d,List.mem_cons_self ..,.inl h1⟩
   ·exact .inr ⟨d,List.mem_cons_self ..,.inr h1⟩
  ·exact .inr ⟨d',List.mem_cons_of_mem _ hd',h1⟩
theorem sD {dep:Nat->List Nat}: ∀(l bef:List Nd),uN l bef=true->(∀n∈l,n.dep=dep n.x.i)->(∀q∈bef,q.dep=dep q.x.i/\ ∀j,q.anc.testBit j=true->Np dep j q.x.i)->
  (∀q∈bef,∀n∈l,Rel dep q.x n.x)/\l.Pairwise (λa b=>Rel dep a.x b.x)/\(∀n∈l,n.x.al=n.x.it.a.iJ/\n.x.it.qS=false)/\
  (∀l1 n l2,l=l1++n::l2-> ∀d∈n.dep,∃y,(y∈bef∨y∈l1)/\y.x.i=d)
 | [],bef,_,_,_=>by
  refine⟨λ_ _ n h=>?_,List.Pairwise.nil,λn h=>?_,λl1 n l2 h=>?_⟩
  ·cases h
  ·cases h
  ·cases l1<;>simp at h
 |n::rest,bef,h,hd,hb=>by
  simp only[uN,Bool.and_eq_true] at h;obtain⟨⟨⟨⟨⟨⟨⟨c1,c2⟩,c3⟩,c4⟩,c5⟩,c6⟩,c7⟩,c8⟩:=h;have hn:=hd n (List.mem_cons_self ..)
  have hanc: ∀j,n.anc.testBit j=true->Np dep j n.x.i:=by
   intro j hj S hS hdS;have c2:=beq_iff_eq.1 c2;rw[c2] at hj;rcases yB _ _ hj with h1|⟨d,hdm,h1⟩
   ·simp at h1
   ·have hSd:S d=true:=hdS d (hn▸hdm)
    rcases h1 with h1|h1
    ·exact h1▸hSd
    ·obtain⟨q,hq,e,h2⟩:=yN _ h1
     exact (hb q hq).2 j h2 S hS (by rw[e];exact hS d hSd)
  have hb': ∀q∈n::bef,q.dep=dep q.x.i/\ ∀j,q.anc.testBit j=true->Np dep j q.x.i:=λq hq=>by
   rcases List.mem_cons.1 hq with rfl|hq
   ·exact⟨hn,hanc⟩
   ·exact hb q hq
  obtain⟨r1,r2,r3,r4⟩:=sD rest (n::bef) c8 (λm hm=>hd m (List.mem_cons_of_mem _ hm)) hb'
  have hrel: ∀q∈bef,Rel dep q.x n.x:=by
   intro q hq;refine⟨λe=>?_,λhc=>?_,λh1 h2=>?_⟩
   ·have h9:(bef.any λq=>q.x.i==n.x.i)=true:=List.any_eq_true.2 ⟨q,hq,by simp [e]⟩
    rw[h9] at c3;cases c3
   ·have h9:=List.all_eq_true.1 c4 q hq
    simp only[hc,Bool.not_true,Bool.false_or] at h9;exact hanc _ h9
   ·have h9:=List.all_eq_true.1 c5 q hq
    simp only[h1,h2,Bool.and_self,Bool.not_true,Bool.false_or,Bool.or_eq_true] at h9;rcases h9 with h9|h9
    ·exact .inl (hanc _ h9)
    ·exact .inr h9
  refine⟨λq hq m hm=>?_,List.pairwise_cons.2 ⟨λm hm=>r1 n (List.mem_cons_self ..) m hm,r2⟩,λm hm=>?_,λl1 m l2 he d hdm=>?_⟩
  ·rcases List.mem_cons.1 hm with rfl|hm
   ·exact hrel q hq
   ·exact r1 q (List.mem_cons_of_mem _ hq) m hm
  ·rcases List.mem_cons.1 hm with rfl|hm
   ·exact⟨beq_iff_eq.1 c7,by simpa using c6⟩
   ·exact r3 m hm
  ·cases l1 with
   |nil=>
    simp only[List.nil_append,List.cons.injEq] at he;obtain⟨rfl,rfl⟩:=he;have h9:=List.all_eq_true.1 c1 d hdm;obtain⟨q,hq,e⟩:=List.any_eq_true.1 h9;exact⟨q,.inl hq,by simpa using e⟩
   |cons y l1=>
    simp only[List.cons_append,List.cons.injEq] at he;obtain⟨rfl,he⟩:=he;obtain⟨z,hz,e⟩:=r4 l1 m l2 he d hdm;refine⟨z,?_,e⟩;rcases hz with hz|hz
    ·rcases List.mem_cons.1 hz with rfl|hz
     ·exact .inr (List.mem_cons_self ..)
     ·exact .inl hz
    ·exact .inr (List.mem_cons_of_mem _ hz)
section
variable {P:Program} {nt:Nat} {pv:List Nat} {ops:Array Oper}
theorem sI: ∀(os:List Oper) (k:Nat) (ns:List Nd),sE P nt pv ops k os=some ns->
  ∀(j:Nat) (nd:Nd),ns[j]? =some nd-> ∃o,os[j]? =some o/\nd.x.i=k+j/\mK P nt pv [] ops o=some (nd.x.it, [])/\nd.dep=oQ o
 | [],k,ns,h,j,nd,hj=>by simp only[sE] at h;cases h;simp at hj
 |o::os,k,ns,h,j,nd,hj=>by
  simp only[sE] at h;split at h
  ·rename_i it hit
   simp only[gJ] at h;obtain⟨r,hr,rfl⟩:=h
   cases j with
   |zero=>simp at hj;subst hj;exact⟨o,rfl,by simp,hit,rfl⟩
   |succ j=>
    obtain⟨o',h1,h2,h3,h4⟩:=sI os (k+1) r hr j nd (by simpa using hj);exact⟨o',by simpa using h1,by omega,h3,h4⟩
  ·cases h
structure Af (P:Program)(nt:Nat)(pv:List Nat)(ops:Array Oper)(xs:List AI):Prop where
 ok:Ej (sM ops) ops.size xs
 it: ∀x∈xs,∃o it,ops[x.i]? =some o/\mK P nt pv [] ops o=some (it, [])/\(x.it=it∨x.it=it.pu)
theorem sG {ns:List Nd}{xs:List AI}(hns: ∀(j:Nat) (nd:Nd),ns[j]? =some nd-> ∃o it,ops[nd.x.i]? =some o/\mK P nt pv [] ops o=some (it, [])/\(nd.x.it=it∨nd.x.it=it.pu)/\nd.dep=oQ o)
  (hc:uK ns ops.size=some xs):Af P nt pv ops xs:=by
 unfold uK at hc
 split at hc
 ·cases hc
 ·rename_i plan hplan
  split at hc
  ·rename_i hok
   cases hc
   simp only[Bool.and_eq_true,Pd] at hok
   obtain⟨k2,k3⟩:=hok
   have hmem: ∀nd∈plan,∃o it,ops[nd.x.i]? =some o/\mK P nt pv [] ops o=some (it, [])/\(nd.x.it=it∨nd.x.it=it.pu)/\nd.dep=oQ o:=by
    intro nd hnd;obtain⟨m1,m2⟩:=fE hplan;obtain⟨j,hj,hje⟩:=List.getElem_of_mem hnd;have hjl:j<(Bg ns.length ns []).length:=by omega
    obtain⟨b,hb,hb2⟩:=m2 j _ (eQ hjl);rw[eQ hj,hje] at hb;cases hb;simp only[gJ] at hb2;obtain⟨mm,hmm,rfl⟩:=hb2;obtain⟨o,it,h1,h2,h3,h4⟩:=hns _ _ hmm;exact⟨o,it,h1,h2,h3,h4⟩
   obtain⟨_,r2,r3,r4⟩:=sD (dep:=sM ops) plan [] k3 (λnd hnd=>by
    obtain⟨o,it,h1,_,_,h2⟩:=hmem nd hnd
    rw[h2];simp [sM,h1]) (λq hq=>by cases hq)
   refine⟨⟨?_,λx hx=>?_,λx hx=>?_,λi hi=>?_,λl1 x l2 he d hd=>?_⟩,λx hx=>?_⟩
   case refine_1=>rw[List.pairwise_map];exact r2
   case refine_2=>
    obtain⟨nd,hnd,rfl⟩:=jH.1 hx;exact r3 nd hnd
   case refine_3=>
    obtain⟨nd,hnd,rfl⟩:=jH.1 hx;obtain⟨o,it,h1,_⟩:=hmem nd hnd;exact (Array.getElem?_eq_some_iff.1 h1).1
   case refine_4=>
    have h9:=List.all_eq_true.1 k2 i (rH.2 hi);obtain⟨q,hq,e⟩:=List.any_eq_true.1 h9;exact⟨q.x,jH.2 ⟨q,hq,rfl⟩,by simpa using e⟩
   case refine_5=>
    obtain⟨L1,L2,hL,e1,e2⟩:=List.map_eq_append_iff.1 he
    cases L2 with
    |nil=>simp at e2
    |cons nd L2=>
     simp only[List.map_cons,List.cons.injEq] at e2;obtain⟨o,it,h1,_,_,h2⟩:=hmem nd (by rw[hL];simp);obtain⟨y,hy,e⟩:=r4 L1 nd L2 hL d (by rw[h2];rw[←e2.1] at hd;simpa [sM,h1] using hd);rcases hy with hy|hy
     ·cases hy
     ·exact⟨y.x,by rw[←e1];exact jH.2 ⟨y,hy,rfl⟩,e⟩
   case refine_6=>
    obtain⟨nd,hnd,rfl⟩:=jH.1 hx;obtain⟨o,it,h1,h2,h3,_⟩:=hmem nd hnd;exact⟨o,it,h1,h2,h3⟩
  ·cases hc
theorem Au {c:C}(hc:zZ P nt pv ops=some c): ∃(loc:List Nat) (xs:List AI),c= .any ops.size loc.length xs/\(∀t∈loc,t<nt)/\Af P nt (pv++loc) ops xs:=by
 unfold zZ at hc;simp only at hc;split at hc
 ·cases hc
 ·rename_i ns hns
  have base: ∀(j:Nat) (nd:Nd),ns[j]? =some nd-> ∃o,ops[nd.x.i]? =some o/\mK P nt (pv++locals pv (ops.toList.filterMap (·.dst)) []) [] ops o=some (nd.x.it, [])/\nd.dep=oQ o:=λj nd hj=>by
   obtain⟨o,h1,h2,h3,h4⟩:=sI _ _ _ hns j nd hj;exact⟨o,by simp only[h2,Nat.zero_add];simpa using h1,h3,h4⟩
  split at hc
  ·rename_i k1
   have hl: ∀t∈locals pv (ops.toList.filterMap (·.dst)) [],t<nt:=λt ht=>by simpa using List.all_eq_true.1 k1 t ht
   split at hc
   ·rename_i xs hxs
    cases hc
    exact⟨_,_,rfl,hl,sG (λj nd hj=>by
     obtain⟨o,h1,h2,h3⟩:=base j nd hj
     exact⟨o,nd.x.it,h1,h2,.inl rfl,h3⟩) hxs⟩
   ·obtain⟨xs,hxs,rfl⟩:=gJ.1 hc
    refine⟨_,_,rfl,hl,sG (λj nd hj=>?_) hxs⟩;rw[List.getElem?_map] at hj;obtain⟨nd0,h0,rfl⟩:=gJ.1 hj;obtain⟨o,h1,h2,h3⟩:=base j nd0 h0;exact⟨o,nd0.x.it,h1,h2,.inr rfl,h3⟩
  ·cases hc
end
end Go.Ay
