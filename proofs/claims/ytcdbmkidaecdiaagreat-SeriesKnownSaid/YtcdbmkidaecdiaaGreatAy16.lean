/- A region whose order is drawn: the plan is one, and all orders come to cK it comes to. -/
import Derived.Test.YtcdbmkidaecdiaaGreatAy15
namespace Go.Ay
open Go
def Hm (ops:Array Oper)(i:Nat):List Nat:=match ops[i]? with|some o=>Bk o|none=> []
def Rel (dep:Nat->List Nat)(a b:AI):Prop:=
 a.i≠b.i/\(En a b=true->NV dep a.i b.i)/\(a.it.a.sJ=true->b.it.a.uB=true->NV dep a.i b.i∨b.cks.contains a.i=true)
theorem Tf {d j:Nat}: ∀(bef:List Nd),(Kd d bef).testBit j=true-> ∃q∈bef,q.x.i=d/\q.anc.testBit j=true
 | [],h=>by simp [Kd] at h
 |n::r,h=>by
  simp only[Kd] at h;split at h
  ·rename_i e;exact⟨n,Ab ..,e,h⟩
  ·obtain⟨q,a,b⟩:=Tf r h;exact⟨q,Cu _ a,b⟩
theorem Sb {b:List Nd}{j:Nat}: ∀(ds:List Nat) (m0:Nat),(ds.foldl (λm d=>m|||(2^d|||Kd d b)) m0).testBit j=true->
  m0.testBit j=true∨ ∃d∈ds,d=j∨(Kd d b).testBit j=true
 | [],m0,h=> .inl h
 |d::ds,m0,h=>by
  simp only[List.foldl_cons] at h;rcases Sb ds _ h with a|⟨e,c,a⟩
  ·simp only[Nat.testBit_or,Bool.or_eq_true,Nat.testBit_two_pow,decide_eq_true_eq] at a
   rcases a with a|a|a
   ·exact .inl a
   ·exact .inr ⟨d,Ab ..,.inl a⟩
   ·exact .inr ⟨d,Ab ..,.inr a⟩
  ·exact .inr ⟨e,Cu _ c,a⟩
theorem Gm {dep:Nat->List Nat}: ∀(l bef:List Nd),La l bef=true->(∀n∈l,n.dep=dep n.x.i)->(∀q∈bef,q.dep=dep q.x.i/\ ∀j,q.anc.testBit j=true->NV dep j q.x.i)->
  (∀q∈bef,∀n∈l,Rel dep q.x n.x)/\l.Pairwise (λa b=>Rel dep a.x b.x)/\(∀n∈l,n.x.al=n.x.it.a.mN/\n.x.it.Em=false)/\
  (∀l1 n l2,l=l1++n::l2-> ∀d∈n.dep,∃y,(y∈bef∨y∈l1)/\y.x.i=d)
 | [],bef,_,_,_=>by
  refine⟨λ_ _ n h=>?_,List.Pairwise.nil,λn h=>?_,λl1 n l2 h=>?_⟩
  ·cases h
  ·cases h
  ·cases l1<;>simp at h
 |n::rest,bef,h,hd,hb=>by
  simp only[La,vN] at h;obtain⟨⟨⟨⟨⟨⟨⟨c1,A⟩,L⟩,W⟩,P⟩,R⟩,Q⟩,N⟩:=h;have K:=hd n (Ab ..)
  have g: ∀j,n.anc.testBit j=true->NV dep j n.x.i:=by
   intro j G S J v;have A:=beq_iff_eq.1 A;rw[A] at G;rcases Sb _ _ G with p|⟨d,o,p⟩
   ·simp at p
   ·have t:S d=true:=v d (K▸o)
    rcases p with p|p
    ·exact p▸t
    ·obtain⟨q,c,e,w⟩:=Tf _ p
     exact (hb q c).2 j w S J (by rw[e];exact J d t)
  have B: ∀q∈n::bef,q.dep=dep q.x.i/\ ∀j,q.anc.testBit j=true->NV dep j q.x.i:=λq c=>by
   rcases zH.1 c with rfl|c
   ·exact⟨K,g⟩
   ·exact hb q c
  obtain⟨F,U,O,Z⟩:=Gm rest (n::bef) N (λm k=>hd m (Cu _ k)) B
  have u: ∀q∈bef,Rel dep q.x n.x:=by
   intro q c;refine⟨λe=>?_,λY=>?_,λp w=>?_⟩
   ·have f:(bef.any λq=>q.x.i==n.x.i)=true:=List.any_eq_true.2 ⟨q,c,by simp [e]⟩
    rw[f] at L;cases L
   ·have f:=Kv.1 W q c
    simp only[Y,Bool.not_true,Bool.false_or] at f;exact g _ f
   ·have f:=Kv.1 P q c
    simp only[p,w,Bool.and_self,Bool.not_true,Bool.false_or,Bool.or_eq_true] at f;rcases f with f|f
    ·exact .inl (g _ f)
    ·exact .inr f
  refine⟨λq c m k=>?_,List.pairwise_cons.2 ⟨λm k=>F n (Ab ..) m k,U⟩,λm k=>?_,λl1 m l2 s d o=>?_⟩
  ·rcases zH.1 k with rfl|k
   ·exact u q c
   ·exact F q (Cu _ c) m k
  ·rcases zH.1 k with rfl|k
   ·exact⟨beq_iff_eq.1 Q,by simpa using R⟩
   ·exact O m k
  ·cases l1 with
   |nil=>
    simp only[List.nil_append,List.cons.injEq] at s;obtain⟨rfl,rfl⟩:=s;have f:=Kv.1 c1 d o;obtain⟨q,c,e⟩:=List.any_eq_true.1 f;exact⟨q,.inl c,by simpa using e⟩
   |cons y l1=>
    simp only[List.cons_append,List.cons.injEq] at s;obtain⟨rfl,s⟩:=s;obtain⟨z,r,e⟩:=Z l1 m l2 s d o;refine⟨z,?_,e⟩;rcases r with r|r
    ·rcases zH.1 r with rfl|r
     ·exact .inr (Ab ..)
     ·exact .inl r
    ·exact .inr (Cu _ r)
section
variable {P:Program} {nt:Nat} {pv:List Nat} {ops:Array Oper}
theorem Hj: ∀(os:List Oper) (k:Nat) (ns:List Nd),He P nt pv ops k os=some ns->
  ∀(j:Nat) (nd:Nd),ns[j]? =some nd-> ∃o,os[j]? =some o/\nd.x.i=k+j/\vD P nt pv [] ops o=some (nd.x.it, [])/\nd.dep=Bk o
 | [],k,ns,h,j,nd,hj=>by simp only[He] at h;cases h;simp at hj
 |o::os,k,ns,h,j,nd,hj=>by
  simp only[He] at h;split at h
  ·rename_i it a
   simp only[mJ] at h;obtain⟨r,d,rfl⟩:=h
   cases j with
   |zero=>simp at hj;subst hj;exact⟨o,rfl,by simp,a,rfl⟩
   |succ j=>
    obtain⟨b,f,g,c,e⟩:=Hj os (k+1) r d j nd (by simpa using hj);exact⟨b,by simpa using f,om,c,e⟩
  ·cases h
structure Uz (P:Program)(nt:Nat)(pv:List Nat)(ops:Array Oper)(xs:List AI):Prop where
 ok:DB (Hm ops) ops.size xs
 it: ∀x∈xs,∃o it,ops[x.i]? =some o/\vD P nt pv [] ops o=some (it, [])/\(x.it=it∨x.it=it.pu)
theorem Gt {s:List Nd}{xs:List AI}(B: ∀(j:Nat) (nd:Nd),s[j]? =some nd-> ∃o it,ops[nd.x.i]? =some o/\vD P nt pv [] ops o=some (it, [])/\(nd.x.it=it∨nd.x.it=it.pu)/\nd.dep=Bk o)
  (l:Lf s ops.size=some xs):Uz P nt pv ops xs:=by
 unfold Lf at l
 split at l
 ·cases l
 ·rename_i g k
  split at l
  ·rename_i p
   cases l
   simp only[vN,SE] at p
   obtain⟨R,k3⟩:=p
   have c: ∀nd∈g,∃o it,ops[nd.x.i]? =some o/\vD P nt pv [] ops o=some (it, [])/\(nd.x.it=it∨nd.x.it=it.pu)/\nd.dep=Bk o:=by
    intro nd a;obtain⟨m1,Y⟩:=jD k;obtain⟨j,Q,u⟩:=List.getElem_of_mem a;have z:j<(Vc s.length s []).length:=om
    obtain⟨b,K,r⟩:=Y j _ (dD z);rw[dD Q,u] at K;cases K;simp only[mJ] at r;obtain⟨mm,A,rfl⟩:=r;obtain⟨o,it,f,h,t,N⟩:=B _ _ A;exact⟨o,it,f,h,t,N⟩
   obtain⟨_,Z,O,r4⟩:=Gm (dep:=Hm ops) g [] k3 (λnd a=>by
    obtain⟨o,it,f,_,_,h⟩:=c nd a
    rw[h];simp [Hm,f]) (λq w=>by cases w)
   refine⟨⟨?_,λx m=>?_,λx m=>?_,λi hi=>?_,λl1 x l2 L d J=>?_⟩,λx m=>?_⟩
   case refine_1=>rw[List.pairwise_map];exact Z
   case refine_2=>
    obtain⟨nd,a,rfl⟩:=uF.1 m;exact O nd a
   case refine_3=>
    obtain⟨nd,a,rfl⟩:=uF.1 m;obtain⟨o,it,f,_⟩:=c nd a;exact (AS.1 f).1
   case refine_4=>
    have W:=Kv.1 R i (Gu.2 hi);obtain⟨q,w,e⟩:=List.any_eq_true.1 W;exact⟨q.x,uF.2 ⟨q,w,rfl⟩,by simpa using e⟩
   case refine_5=>
    obtain⟨U,v,G,e1,F⟩:=List.map_eq_append_iff.1 L
    cases v with
    |nil=>simp at F
    |cons nd v=>
     simp only[List.map_cons,List.cons.injEq] at F;obtain⟨o,it,f,_,_,h⟩:=c nd (by rw[G];simp);obtain⟨y,n,e⟩:=r4 U nd v G d (by rw[h];rw[←F.1] at J;simpa [Hm,f] using J);rcases n with n|n
     ·cases n
     ·exact⟨y.x,by rw[←e1];exact uF.2 ⟨y,n,rfl⟩,e⟩
   case refine_6=>
    obtain⟨nd,a,rfl⟩:=uF.1 m;obtain⟨o,it,f,h,t,_⟩:=c nd a;exact⟨o,it,f,h,t⟩
  ·cases l
theorem Ty {c:C}(a:Tq P nt pv ops=some c): ∃(loc:List Nat) (xs:List AI),c= .any ops.size loc.length xs/\(∀t∈loc,t<nt)/\Uz P nt (pv++loc) ops xs:=by
 unfold Tq at a;simp only at a;split at a
 ·cases a
 ·rename_i n l
  have b: ∀(j:Nat) (nd:Nd),n[j]? =some nd-> ∃o,ops[nd.x.i]? =some o/\vD P nt (pv++locals pv (ops.toList.filterMap (·.dst)) []) [] ops o=some (nd.x.it, [])/\nd.dep=Bk o:=λj nd e=>by
   obtain⟨o,k,f,g,p⟩:=Hj _ _ _ l j nd e;exact⟨o,by simp only[f,Nat.zero_add];simpa using k,g,p⟩
  split at a
  ·rename_i r
   have m: ∀t∈locals pv (ops.toList.filterMap (·.dst)) [],t<nt:=λt q=>by simpa using Kv.1 r t q
   split at a
   ·rename_i xs d
    cases a
    exact⟨_,_,rfl,m,Gt (λj nd e=>by
     obtain⟨o,k,f,g⟩:=b j nd e
     exact⟨o,nd.x.it,k,f,.inl rfl,g⟩) d⟩
   ·obtain⟨xs,d,rfl⟩:=mJ.1 a
    refine⟨_,_,rfl,m,Gt (λj nd e=>?_) d⟩;rw[Ol] at e;obtain⟨h,s,rfl⟩:=mJ.1 e;obtain⟨o,k,f,g⟩:=b j h s;exact⟨o,h.x.it,k,f,.inr rfl,g⟩
  ·cases a
end
end Go.Ay
