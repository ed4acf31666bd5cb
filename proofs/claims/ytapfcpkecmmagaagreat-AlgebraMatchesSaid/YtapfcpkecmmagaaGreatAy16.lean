/- A region whose order is drawn: the plan is one, and all orders come to dG it comes to. -/
import Derived.Test.YtapfcpkecmmagaaGreatAy15
namespace Go.Ay
open Go
def vV (ops:Array Oper)(i:Nat):List Nat:=match ops[i]? with|some o=>rI o|none=> []
def Rel (dep:Nat->List Nat)(a b:AI):Prop:=
 a.i≠b.i/\(tV a b=true->Wr dep a.i b.i)/\(a.it.a.mL=true->b.it.a.nP=true->Wr dep a.i b.i∨b.cks.contains a.i=true)
theorem Fm {d j:Nat}: ∀(bef:List Nd),(yL d bef).testBit j=true-> ∃q∈bef,q.x.i=d/\q.anc.testBit j=true
 | [],h=>by simp [yL] at h
 |n::r,h=>by
  simp only[yL] at h;split at h
  ·rename_i e;exact⟨n,zJ ..,e,h⟩
  ·obtain⟨q,a,b⟩:=Fm r h;exact⟨q,yK _ a,b⟩
theorem Dp {b:List Nd}{j:Nat}: ∀(ds:List Nat) (m0:Nat),(ds.foldl (λm d=>m|||(2^d|||yL d b)) m0).testBit j=true->
  m0.testBit j=true∨ ∃d∈ds,d=j∨(yL d b).testBit j=true
 | [],m0,h=> .inl h
 |d::ds,m0,h=>by
  simp only[List.foldl_cons] at h;rcases Dp ds _ h with a|⟨e,c,a⟩
  ·simp only[Nat.testBit_or,Bool.or_eq_true,Nat.testBit_two_pow,decide_eq_true_eq] at a
   rcases a with a|a|a
   ·exact .inl a
   ·exact .inr ⟨d,zJ ..,.inl a⟩
   ·exact .inr ⟨d,zJ ..,.inr a⟩
  ·exact .inr ⟨e,yK _ c,a⟩
theorem uY {dep:Nat->List Nat}: ∀(l bef:List Nd),zG l bef=true->(∀n∈l,n.dep=dep n.x.i)->(∀q∈bef,q.dep=dep q.x.i/\ ∀j,q.anc.testBit j=true->Wr dep j q.x.i)->
  (∀q∈bef,∀n∈l,Rel dep q.x n.x)/\l.Pairwise (λa b=>Rel dep a.x b.x)/\(∀n∈l,n.x.al=n.x.it.a.jR/\n.x.it.uD=false)/\
  (∀l1 n l2,l=l1++n::l2-> ∀d∈n.dep,∃y,(y∈bef∨y∈l1)/\y.x.i=d)
 | [],bef,_,_,_=>by
  refine⟨λ_ _ n h=>?_,List.Pairwise.nil,λn h=>?_,λl1 n l2 h=>?_⟩
  ·cases h
  ·cases h
  ·cases l1<;>simp at h
 |n::rest,bef,h,hd,hb=>by
  simp only[zG,pF] at h;obtain⟨⟨⟨⟨⟨⟨⟨P,v⟩,G⟩,R⟩,Z⟩,Y⟩,Q⟩,O⟩:=h;have K:=hd n (zJ ..)
  have k: ∀j,n.anc.testBit j=true->Wr dep j n.x.i:=by
   intro j L S F w;have v:=beq_iff_eq.1 v;rw[v] at L;rcases Dp _ _ L with p|⟨d,o,p⟩
   ·simp at p
   ·have t:S d=true:=w d (K▸o)
    rcases p with p|p
    ·exact p▸t
    ·obtain⟨q,c,e,B⟩:=Fm _ p
     exact (hb q c).2 j B S F (by rw[e];exact F d t)
  have A: ∀q∈n::bef,q.dep=dep q.x.i/\ ∀j,q.anc.testBit j=true->Wr dep j q.x.i:=λq c=>by
   rcases Dw.1 c with rfl|c
   ·exact⟨K,k⟩
   ·exact hb q c
  obtain⟨J,N,U,r4⟩:=uY rest (n::bef) O (λm g=>hd m (yK _ g)) A
  have u: ∀q∈bef,Rel dep q.x n.x:=by
   intro q c;refine⟨λe=>?_,λW=>?_,λp B=>?_⟩
   ·have f:(bef.any λq=>q.x.i==n.x.i)=true:=List.any_eq_true.2 ⟨q,c,by simp [e]⟩
    rw[f] at G;cases G
   ·have f:=zE.1 R q c
    simp only[W,Bool.not_true,Bool.false_or] at f;exact k _ f
   ·have f:=zE.1 Z q c
    simp only[p,B,Bool.and_self,Bool.not_true,Bool.false_or,Bool.or_eq_true] at f;rcases f with f|f
    ·exact .inl (k _ f)
    ·exact .inr f
  refine⟨λq c m g=>?_,List.pairwise_cons.2 ⟨λm g=>J n (zJ ..) m g,N⟩,λm g=>?_,λl1 m l2 s d o=>?_⟩
  ·rcases Dw.1 g with rfl|g
   ·exact u q c
   ·exact J q (yK _ c) m g
  ·rcases Dw.1 g with rfl|g
   ·exact⟨beq_iff_eq.1 Q,by simpa using Y⟩
   ·exact U m g
  ·cases l1 with
   |nil=>
    simp only[List.nil_append,List.cons.injEq] at s;obtain⟨rfl,rfl⟩:=s;have f:=zE.1 P d o;obtain⟨q,c,e⟩:=List.any_eq_true.1 f;exact⟨q,.inl c,by simpa using e⟩
   |cons y l1=>
    simp only[List.cons_append,List.cons.injEq] at s;obtain⟨rfl,s⟩:=s;obtain⟨z,r,e⟩:=r4 l1 m l2 s d o;refine⟨z,?_,e⟩;rcases r with r|r
    ·rcases Dw.1 r with rfl|r
     ·exact .inr (zJ ..)
     ·exact .inl r
    ·exact .inr (yK _ r)
section
variable {P:Program} {nt:Nat} {pv:List Nat} {ops:Array Oper}
theorem uX: ∀(os:List Oper) (k:Nat) (ns:List Nd),vB P nt pv ops k os=some ns->
  ∀(j:Nat) (nd:Nd),ns[j]? =some nd-> ∃o,os[j]? =some o/\nd.x.i=k+j/\pD P nt pv [] ops o=some (nd.x.it, [])/\nd.dep=rI o
 | [],k,ns,h,j,nd,hj=>by simp only[vB] at h;cases h;simp at hj
 |o::os,k,ns,h,j,nd,hj=>by
  simp only[vB] at h;split at h
  ·rename_i it a
   simp only[jA] at h;obtain⟨r,f,rfl⟩:=h
   cases j with
   |zero=>simp at hj;subst hj;exact⟨o,rfl,by simp,a,rfl⟩
   |succ j=>
    obtain⟨e,b,g,c,d⟩:=uX os (k+1) r f j nd (by simpa using hj);exact⟨e,by simpa using b,om,c,d⟩
  ·cases h
structure Gh (P:Program)(nt:Nat)(pv:List Nat)(ops:Array Oper)(xs:List AI):Prop where
 ok:Me (vV ops) ops.size xs
 it: ∀x∈xs,∃o it,ops[x.i]? =some o/\pD P nt pv [] ops o=some (it, [])/\(x.it=it∨x.it=it.pu)
theorem vF {s:List Nd}{xs:List AI}(B: ∀(j:Nat) (nd:Nd),s[j]? =some nd-> ∃o it,ops[nd.x.i]? =some o/\pD P nt pv [] ops o=some (it, [])/\(nd.x.it=it∨nd.x.it=it.pu)/\nd.dep=rI o)
  (l:zK s ops.size=some xs):Gh P nt pv ops xs:=by
 unfold zK at l
 split at l
 ·cases l
 ·rename_i g h
  split at l
  ·rename_i n
   cases l
   simp only[pF,Un] at n
   obtain⟨N,R⟩:=n
   have c: ∀nd∈g,∃o it,ops[nd.x.i]? =some o/\pD P nt pv [] ops o=some (it, [])/\(nd.x.it=it∨nd.x.it=it.pu)/\nd.dep=rI o:=by
    intro nd a;obtain⟨m1,U⟩:=gO h;obtain⟨j,hj,u⟩:=List.getElem_of_mem a;have F:j<(Hm s.length s []).length:=om
    obtain⟨b,K,p⟩:=U j _ (eV F);rw[eV hj,u] at K;cases K;simp only[jA] at p;obtain⟨mm,w,rfl⟩:=p;obtain⟨o,it,f,k,A,Z⟩:=B _ _ w;exact⟨o,it,f,k,A,Z⟩
   obtain⟨_,L,W,r4⟩:=uY (dep:=vV ops) g [] R (λnd a=>by
    obtain⟨o,it,f,_,_,k⟩:=c nd a
    rw[k];simp [vV,f]) (λq t=>by cases t)
   refine⟨⟨?_,λx r=>?_,λx r=>?_,λi hi=>?_,λl1 x l2 he d G=>?_⟩,λx r=>?_⟩
   case refine_1=>rw[List.pairwise_map];exact L
   case refine_2=>
    obtain⟨nd,a,rfl⟩:=pU.1 r;exact W nd a
   case refine_3=>
    obtain⟨nd,a,rfl⟩:=pU.1 r;obtain⟨o,it,f,_⟩:=c nd a;exact (Er.1 f).1
   case refine_4=>
    have Q:=zE.1 N i (Db.2 hi);obtain⟨q,t,e⟩:=List.any_eq_true.1 Q;exact⟨q.x,pU.2 ⟨q,t,rfl⟩,by simpa using e⟩
   case refine_5=>
    obtain⟨O,z,J,Y,v⟩:=List.map_eq_append_iff.1 he
    cases z with
    |nil=>simp at v
    |cons nd z=>
     simp only[List.map_cons,List.cons.injEq] at v;obtain⟨o,it,f,_,_,k⟩:=c nd (by rw[J];simp);obtain⟨y,m,e⟩:=r4 O nd z J d (by rw[k];rw[←v.1] at G;simpa [vV,f] using G);rcases m with m|m
     ·cases m
     ·exact⟨y.x,by rw[←Y];exact pU.2 ⟨y,m,rfl⟩,e⟩
   case refine_6=>
    obtain⟨nd,a,rfl⟩:=pU.1 r;obtain⟨o,it,f,k,A,_⟩:=c nd a;exact⟨o,it,f,k,A⟩
  ·cases l
theorem Fz {c:C}(a:Gs P nt pv ops=some c): ∃(loc:List Nat) (xs:List AI),c= .any ops.size loc.length xs/\(∀t∈loc,t<nt)/\Gh P nt (pv++loc) ops xs:=by
 unfold Gs at a;simp only at a;split at a
 ·cases a
 ·rename_i r l
  have b: ∀(j:Nat) (nd:Nd),r[j]? =some nd-> ∃o,ops[nd.x.i]? =some o/\pD P nt (pv++locals pv (ops.toList.filterMap (·.dst)) []) [] ops o=some (nd.x.it, [])/\nd.dep=rI o:=λj nd e=>by
   obtain⟨o,g,h,f,s⟩:=uX _ _ _ l j nd e;exact⟨o,by simp only[h,Nat.zero_add];simpa using g,f,s⟩
  split at a
  ·rename_i p
   have m: ∀t∈locals pv (ops.toList.filterMap (·.dst)) [],t<nt:=λt n=>by simpa using zE.1 p t n
   split at a
   ·rename_i xs d
    cases a
    exact⟨_,_,rfl,m,vF (λj nd e=>by
     obtain⟨o,g,h,f⟩:=b j nd e
     exact⟨o,nd.x.it,g,h,.inl rfl,f⟩) d⟩
   ·obtain⟨xs,d,rfl⟩:=jA.1 a
    refine⟨_,_,rfl,m,vF (λj nd e=>?_) d⟩;rw[Lc] at e;obtain⟨k,q,rfl⟩:=jA.1 e;obtain⟨o,g,h,f⟩:=b j k q;exact⟨o,k.x.it,g,h,.inr rfl,f⟩
  ·cases a
end
end Go.Ay
