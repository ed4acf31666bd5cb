/- A region whose order is drawn: the plan is one, and all orders come to cT it comes to. -/
import Derived.Test.YtcdbmkidaecdiaaGreatAy15
namespace Go.Ay
open Go
def Ia (ops:Array Oper)(i:Nat):List Nat:=match ops[i]? with|some o=>Ca o|none=> []
def Rel (dep:Nat->List Nat)(a b:AI):Prop:=
 a.i≠b.i/\(Ez a b=true->SS dep a.i b.i)/\(a.it.a.tM=true->b.it.a.vH=true->SS dep a.i b.i∨b.cks.contains a.i=true)
theorem Te {d j:Nat}: ∀(bef:List Nd),(Md d bef).testBit j=true-> ∃q∈bef,q.x.i=d/\q.anc.testBit j=true
 | [],h=>by simp [Md] at h
 |n::r,h=>by
  simp only[Md] at h;split at h
  ·rename_i e;exact⟨n,tQ ..,e,h⟩
  ·obtain⟨q,a,b⟩:=Te r h;exact⟨q,wI _ a,b⟩
theorem Th {b:List Nd}{j:Nat}: ∀(ds:List Nat) (m0:Nat),(ds.foldl (λm d=>m|||(2^d|||Md d b)) m0).testBit j=true->
  m0.testBit j=true∨ ∃d∈ds,d=j∨(Md d b).testBit j=true
 | [],m0,h=> .inl h
 |d::ds,m0,h=>by
  simp only[List.foldl_cons] at h;rcases Th ds _ h with a|⟨e,c,a⟩
  ·simp only[Nat.testBit_or,Bool.or_eq_true,Nat.testBit_two_pow,decide_eq_true_eq] at a
   rcases a with a|a|a
   ·exact .inl a
   ·exact .inr ⟨d,tQ ..,.inl a⟩
   ·exact .inr ⟨d,tQ ..,.inr a⟩
  ·exact .inr ⟨e,wI _ c,a⟩
theorem Hs {dep:Nat->List Nat}: ∀(l bef:List Nd),Mv l bef=true->(∀n∈l,n.dep=dep n.x.i)->(∀q∈bef,q.dep=dep q.x.i/\ ∀j,q.anc.testBit j=true->SS dep j q.x.i)->
  (∀q∈bef,∀n∈l,Rel dep q.x n.x)/\l.Pairwise (λa b=>Rel dep a.x b.x)/\(∀n∈l,n.x.al=n.x.it.a.oE/\n.x.it.Fp=false)/\
  (∀l1 n l2,l=l1++n::l2-> ∀d∈n.dep,∃y,(y∈bef∨y∈l1)/\y.x.i=d)
 | [],bef,_,_,_=>by
  refine⟨λ_ _ n h=>?_,List.Pairwise.nil,λn h=>?_,λl1 n l2 h=>?_⟩
  ·cases h
  ·cases h
  ·cases l1<;>simp at h
 |n::rest,bef,h,hd,hb=>by
  simp only[Mv,sE] at h;obtain⟨⟨⟨⟨⟨⟨⟨R,A⟩,F⟩,c4⟩,N⟩,Z⟩,P⟩,O⟩:=h;have K:=hd n (tQ ..)
  have g: ∀j,n.anc.testBit j=true->SS dep j n.x.i:=by
   intro j G S J w;have A:=beq_iff_eq.1 A;rw[A] at G;rcases Th _ _ G with o|⟨d,p,o⟩
   ·simp at o
   ·have u:S d=true:=w d (K▸p)
    rcases o with o|o
    ·exact o▸u
    ·obtain⟨q,c,e,v⟩:=Te _ o
     exact (hb q c).2 j v S J (by rw[e];exact J d u)
  have B: ∀q∈n::bef,q.dep=dep q.x.i/\ ∀j,q.anc.testBit j=true->SS dep j q.x.i:=λq c=>by
   rcases vI.1 c with rfl|c
   ·exact⟨K,g⟩
   ·exact hb q c
  obtain⟨L,Y,Q,W⟩:=Hs rest (n::bef) O (λm k=>hd m (wI _ k)) B
  have t: ∀q∈bef,Rel dep q.x n.x:=by
   intro q c;refine⟨λe=>?_,λU=>?_,λo v=>?_⟩
   ·have f:(bef.any λq=>q.x.i==n.x.i)=true:=List.any_eq_true.2 ⟨q,c,by simp [e]⟩
    rw[f] at F;cases F
   ·have f:=zP.1 c4 q c
    simp only[U,Bool.not_true,Bool.false_or] at f;exact g _ f
   ·have f:=zP.1 N q c
    simp only[o,v,Bool.and_self,Bool.not_true,Bool.false_or,Bool.or_eq_true] at f;rcases f with f|f
    ·exact .inl (g _ f)
    ·exact .inr f
  refine⟨λq c m k=>?_,List.pairwise_cons.2 ⟨λm k=>L n (tQ ..) m k,Y⟩,λm k=>?_,λl1 m l2 s d p=>?_⟩
  ·rcases vI.1 k with rfl|k
   ·exact t q c
   ·exact L q (wI _ c) m k
  ·rcases vI.1 k with rfl|k
   ·exact⟨beq_iff_eq.1 P,by simpa using Z⟩
   ·exact Q m k
  ·cases l1 with
   |nil=>
    simp only[List.nil_append,List.cons.injEq] at s;obtain⟨rfl,rfl⟩:=s;have f:=zP.1 R d p;obtain⟨q,c,e⟩:=List.any_eq_true.1 f;exact⟨q,.inl c,by simpa using e⟩
   |cons y l1=>
    simp only[List.cons_append,List.cons.injEq] at s;obtain⟨rfl,s⟩:=s;obtain⟨z,r,e⟩:=W l1 m l2 s d p;refine⟨z,?_,e⟩;rcases r with r|r
    ·rcases vI.1 r with rfl|r
     ·exact .inr (tQ ..)
     ·exact .inl r
    ·exact .inr (wI _ r)
section
variable {P:Program} {nt:Nat} {pv:List Nat} {ops:Array Oper}
theorem Hg: ∀(os:List Oper) (k:Nat) (ns:List Nd),Ib P nt pv ops k os=some ns->
  ∀(j:Nat) (nd:Nd),ns[j]? =some nd-> ∃o,os[j]? =some o/\nd.x.i=k+j/\xB P nt pv [] ops o=some (nd.x.it, [])/\nd.dep=Ca o
 | [],k,ns,h,j,nd,hj=>by simp only[Ib] at h;cases h;simp at hj
 |o::os,k,ns,h,j,nd,hj=>by
  simp only[Ib] at h;split at h
  ·rename_i it a
   simp only[oU] at h;obtain⟨r,d,rfl⟩:=h
   cases j with
   |zero=>simp at hj;subst hj;exact⟨o,rfl,by simp,a,rfl⟩
   |succ j=>
    obtain⟨e,b,g,c,f⟩:=Hg os (k+1) r d j nd (by simpa using hj);exact⟨e,by simpa using b,om,c,f⟩
  ·cases h
structure Vy (P:Program)(nt:Nat)(pv:List Nat)(ops:Array Oper)(xs:List AI):Prop where
 ok:EJ (Ia ops) ops.size xs
 it: ∀x∈xs,∃o,ops[x.i]? =some o/\xB P nt pv [] ops o=some (x.it, [])
theorem Vb {s:List Nd}{xs:List AI}(w: ∀(j:Nat) (nd:Nd),s[j]? =some nd-> ∃o,ops[nd.x.i]? =some o/\xB P nt pv [] ops o=some (nd.x.it, [])/\nd.dep=Ca o)
  (l:Ut s ops.size=some xs):Vy P nt pv ops xs:=by
 unfold Ut at l
 split at l
 ·cases l
 ·rename_i g k
  split at l
  ·rename_i r
   cases l
   simp only[sE,RD] at r
   obtain⟨Z,W⟩:=r
   have c: ∀nd∈g,∃o,ops[nd.x.i]? =some o/\xB P nt pv [] ops o=some (nd.x.it, [])/\nd.dep=Ca o:=by
    intro nd a;obtain⟨m1,U⟩:=jC k;obtain⟨j,K,A⟩:=List.getElem_of_mem a;have v:j<(Uo s.length s []).length:=om
    obtain⟨b,J,p⟩:=U j _ (dD v);rw[dD K,A] at J;cases J;simp only[oU] at p;obtain⟨mm,u,rfl⟩:=p;exact let ⟨o,f,h,h3⟩:=w _ _ u;⟨o,f,h,h3⟩
   obtain⟨_,r2,N,Y⟩:=Hs (dep:=Ia ops) g [] W (λnd a=>by
    obtain⟨o,f,_,h⟩:=c nd a
    rw[h];simp [Ia,f]) (λq B=>by cases B)
   refine⟨⟨?_,λx m=>?_,λx m=>?_,λi hi=>?_,λl1 x l2 O d F=>?_⟩,λx m=>?_⟩
   case refine_1=>rw[List.pairwise_map];exact r2
   case refine_2=>
    obtain⟨nd,a,rfl⟩:=pH.1 m;exact N nd a
   case refine_3=>
    obtain⟨nd,a,rfl⟩:=pH.1 m;obtain⟨o,f,_⟩:=c nd a;exact (HF.1 f).1
   case refine_4=>
    have R:=zP.1 Z i (Dj.2 hi);obtain⟨q,B,e⟩:=List.any_eq_true.1 R;exact⟨q.x,pH.2 ⟨q,B,rfl⟩,by simpa using e⟩
   case refine_5=>
    obtain⟨L,t,G,Q,z⟩:=List.map_eq_append_iff.1 O
    cases t with
    |nil=>simp at z
    |cons nd t=>
     simp only[List.map_cons,List.cons.injEq] at z;obtain⟨o,f,_,h⟩:=c nd (by rw[G];simp);obtain⟨y,n,e⟩:=Y L nd t G d (by rw[h];rw[←z.1] at F;simpa [Ia,f] using F);rcases n with n|n
     ·cases n
     ·exact⟨y.x,by rw[←Q];exact pH.2 ⟨y,n,rfl⟩,e⟩
   case refine_6=>
    obtain⟨nd,a,rfl⟩:=pH.1 m;obtain⟨o,f,h,_⟩:=c nd a;exact⟨o,f,h⟩
  ·cases l
theorem Vx {c:C}(a:Vc P nt pv ops=some c): ∃(loc:List Nat) (xs:List AI),c= .any ops.size loc.length xs/\(∀t∈loc,t<nt)/\Vy P nt (pv++loc) ops xs:=by
 unfold Vc at a;simp only at a;split at a
 ·cases a
 ·rename_i p d
  have b: ∀(j:Nat) (nd:Nd),p[j]? =some nd-> ∃o,ops[nd.x.i]? =some o/\xB P nt (pv++locals pv (ops.toList.filterMap (·.dst)) []) [] ops o=some (nd.x.it, [])/\nd.dep=Ca o:=λj nd k=>by
   obtain⟨o,f,h,g,q⟩:=Hg _ _ _ d j nd k;exact⟨o,by simp only[h,Nat.zero_add];simpa using f,g,q⟩
  split at a
  ·rename_i l
   have n: ∀t∈locals pv (ops.toList.filterMap (·.dst)) [],t<nt:=λt m=>by simpa using zP.1 l t m
   obtain⟨xs,e,rfl⟩:=oU.1 a;exact⟨_,_,rfl,n,Vb b e⟩
  ·cases a
end
end Go.Ay
