/- A region whose order is drawn: the plan is one, and all orders come to cF it comes to. -/
import Derived.Test.YtcdbmkidaecdiaaGreatAy15
namespace Go.Ay
open Go
def Gz (ops:Array Oper)(i:Nat):List Nat:=match ops[i]? with|some o=>Aa o|none=> []
def Rel (dep:Nat->List Nat)(a b:AI):Prop:=
 a.i≠b.i/\(Ef a b=true->SU dep a.i b.i)/\(a.it.a.sP=true->b.it.a.sY=true->SU dep a.i b.i∨b.cks.contains a.i=true)
theorem Ti {d j:Nat}: ∀(bef:List Nd),(Kw d bef).testBit j=true-> ∃q∈bef,q.x.i=d/\q.anc.testBit j=true
 | [],h=>by simp [Kw] at h
 |n::r,h=>by
  simp only[Kw] at h;split at h
  ·rename_i e;exact⟨n,Co ..,e,h⟩
  ·obtain⟨q,a,b⟩:=Ti r h;exact⟨q,Cu _ a,b⟩
theorem Ty {b:List Nd}{j:Nat}: ∀(ds:List Nat) (m0:Nat),(ds.foldl (λm d=>m|||(2^d|||Kw d b)) m0).testBit j=true->
  m0.testBit j=true∨ ∃d∈ds,d=j∨(Kw d b).testBit j=true
 | [],m0,h=> .inl h
 |d::ds,m0,h=>by
  simp only[List.foldl_cons] at h;rcases Ty ds _ h with a|⟨e,c,a⟩
  ·simp only[Nat.testBit_or,Bool.or_eq_true,Nat.testBit_two_pow,decide_eq_true_eq] at a
   rcases a with a|a|a
   ·exact .inl a
   ·exact .inr ⟨d,Co ..,.inl a⟩
   ·exact .inr ⟨d,Co ..,.inr a⟩
  ·exact .inr ⟨e,Cu _ c,a⟩
theorem Ha {dep:Nat->List Nat}: ∀(l bef:List Nd),Ly l bef=true->(∀n∈l,n.dep=dep n.x.i)->(∀q∈bef,q.dep=dep q.x.i/\ ∀j,q.anc.testBit j=true->SU dep j q.x.i)->
  (∀q∈bef,∀n∈l,Rel dep q.x n.x)/\l.Pairwise (λa b=>Rel dep a.x b.x)/\(∀n∈l,n.x.al=n.x.it.a.mF/\n.x.it.Ep=false)/\
  (∀l1 n l2,l=l1++n::l2-> ∀d∈n.dep,∃y,(y∈bef∨y∈l1)/\y.x.i=d)
 | [],bef,_,_,_=>by
  refine⟨λ_ _ n h=>?_,List.Pairwise.nil,λn h=>?_,λl1 n l2 h=>?_⟩
  ·cases h
  ·cases h
  ·cases l1<;>simp at h
 |n::rest,bef,h,hd,hb=>by
  simp only[Ly,vV] at h;obtain⟨⟨⟨⟨⟨⟨⟨Z,A⟩,L⟩,U⟩,R⟩,W⟩,P⟩,N⟩:=h;have G:=hd n (Co ..)
  have g: ∀j,n.anc.testBit j=true->SU dep j n.x.i:=by
   intro j J S K B;have A:=beq_iff_eq.1 A;rw[A] at J;rcases Ty _ _ J with o|⟨d,p,o⟩
   ·simp at o
   ·have t:S d=true:=B d (G▸p)
    rcases o with o|o
    ·exact o▸t
    ·obtain⟨q,c,e,w⟩:=Ti _ o
     exact (hb q c).2 j w S K (by rw[e];exact K d t)
  have v: ∀q∈n::bef,q.dep=dep q.x.i/\ ∀j,q.anc.testBit j=true->SU dep j q.x.i:=λq c=>by
   rcases Gr.1 c with rfl|c
   ·exact⟨G,g⟩
   ·exact hb q c
  obtain⟨F,r2,Q,Y⟩:=Ha rest (n::bef) N (λm k=>hd m (Cu _ k)) v
  have u: ∀q∈bef,Rel dep q.x n.x:=by
   intro q c;refine⟨λe=>?_,λO=>?_,λo w=>?_⟩
   ·have f:(bef.any λq=>q.x.i==n.x.i)=true:=List.any_eq_true.2 ⟨q,c,by simp [e]⟩
    rw[f] at L;cases L
   ·have f:=Lw.1 U q c
    simp only[O,Bool.not_true,Bool.false_or] at f;exact g _ f
   ·have f:=Lw.1 R q c
    simp only[o,w,Bool.and_self,Bool.not_true,Bool.false_or,Bool.or_eq_true] at f;rcases f with f|f
    ·exact .inl (g _ f)
    ·exact .inr f
  refine⟨λq c m k=>?_,List.pairwise_cons.2 ⟨λm k=>F n (Co ..) m k,r2⟩,λm k=>?_,λl1 m l2 s d p=>?_⟩
  ·rcases Gr.1 k with rfl|k
   ·exact u q c
   ·exact F q (Cu _ c) m k
  ·rcases Gr.1 k with rfl|k
   ·exact⟨beq_iff_eq.1 P,by simpa using W⟩
   ·exact Q m k
  ·cases l1 with
   |nil=>
    simp only[List.nil_append,List.cons.injEq] at s;obtain⟨rfl,rfl⟩:=s;have f:=Lw.1 Z d p;obtain⟨q,c,e⟩:=List.any_eq_true.1 f;exact⟨q,.inl c,by simpa using e⟩
   |cons y l1=>
    simp only[List.cons_append,List.cons.injEq] at s;obtain⟨rfl,s⟩:=s;obtain⟨z,r,e⟩:=Y l1 m l2 s d p;refine⟨z,?_,e⟩;rcases r with r|r
    ·rcases Gr.1 r with rfl|r
     ·exact .inr (Co ..)
     ·exact .inl r
    ·exact .inr (Cu _ r)
section
variable {P:Program} {nt:Nat} {pv:List Nat} {ops:Array Oper}
theorem Fg: ∀(os:List Oper) (k:Nat) (ns:List Nd),Hr P nt pv ops k os=some ns->
  ∀(j:Nat) (nd:Nd),ns[j]? =some nd-> ∃o,os[j]? =some o/\nd.x.i=k+j/\vU P nt pv [] ops o=some (nd.x.it, [])/\nd.dep=Aa o
 | [],k,ns,h,j,nd,hj=>by simp only[Hr] at h;cases h;simp at hj
 |o::os,k,ns,h,j,nd,hj=>by
  simp only[Hr] at h;split at h
  ·rename_i it a
   simp only[lT] at h;obtain⟨r,f,rfl⟩:=h
   cases j with
   |zero=>simp at hj;subst hj;exact⟨o,rfl,by simp,a,rfl⟩
   |succ j=>
    obtain⟨e,b,g,d,c⟩:=Fg os (k+1) r f j nd (by simpa using hj);exact⟨e,by simpa using b,om,d,c⟩
  ·cases h
structure Uu (P:Program)(nt:Nat)(pv:List Nat)(ops:Array Oper)(xs:List AI):Prop where
 ok:CY (Gz ops) ops.size xs
 it: ∀x∈xs,∃o it,ops[x.i]? =some o/\vU P nt pv [] ops o=some (it, [])/\(x.it=it∨x.it=it.pu)
theorem Hf {s:List Nd}{xs:List AI}(z: ∀(j:Nat) (nd:Nd),s[j]? =some nd-> ∃o it,ops[nd.x.i]? =some o/\vU P nt pv [] ops o=some (it, [])/\(nd.x.it=it∨nd.x.it=it.pu)/\nd.dep=Aa o)
  (l:Md s ops.size=some xs):Uu P nt pv ops xs:=by
 unfold Md at l
 split at l
 ·cases l
 ·rename_i g h
  split at l
  ·rename_i p
   cases l
   simp only[vV,WD] at p
   obtain⟨U,L⟩:=p
   have c: ∀nd∈g,∃o it,ops[nd.x.i]? =some o/\vU P nt pv [] ops o=some (it, [])/\(nd.x.it=it∨nd.x.it=it.pu)/\nd.dep=Aa o:=by
    intro nd a;obtain⟨m1,Q⟩:=iO h;obtain⟨j,Z,w⟩:=List.getElem_of_mem a;have B:j<(Vq s.length s []).length:=om
    obtain⟨b,G,m⟩:=Q j _ (dF B);rw[dF Z,w] at G;cases G;simp only[lT] at m;obtain⟨mm,v,rfl⟩:=m;obtain⟨o,it,f,k,A,W⟩:=z _ _ v;exact⟨o,it,f,k,A,W⟩
   obtain⟨_,r2,R,r4⟩:=Ha (dep:=Gz ops) g [] L (λnd a=>by
    obtain⟨o,it,f,_,_,k⟩:=c nd a
    rw[k];simp [Gz,f]) (λq u=>by cases u)
   refine⟨⟨?_,λx n=>?_,λx n=>?_,λi hi=>?_,λl1 x l2 he d J=>?_⟩,λx n=>?_⟩
   case refine_1=>rw[List.pairwise_map];exact r2
   case refine_2=>
    obtain⟨nd,a,rfl⟩:=vF.1 n;exact R nd a
   case refine_3=>
    obtain⟨nd,a,rfl⟩:=vF.1 n;obtain⟨o,it,f,_⟩:=c nd a;exact (Wi.1 f).1
   case refine_4=>
    have Y:=Lw.1 U i (Lk.2 hi);obtain⟨q,u,e⟩:=List.any_eq_true.1 Y;exact⟨q.x,vF.2 ⟨q,u,rfl⟩,by simpa using e⟩
   case refine_5=>
    obtain⟨N,F,K,O,t⟩:=List.map_eq_append_iff.1 he
    cases F with
    |nil=>simp at t
    |cons nd F=>
     simp only[List.map_cons,List.cons.injEq] at t;obtain⟨o,it,f,_,_,k⟩:=c nd (by rw[K];simp);obtain⟨y,r,e⟩:=r4 N nd F K d (by rw[k];rw[←t.1] at J;simpa [Gz,f] using J);rcases r with r|r
     ·cases r
     ·exact⟨y.x,by rw[←O];exact vF.2 ⟨y,r,rfl⟩,e⟩
   case refine_6=>
    obtain⟨nd,a,rfl⟩:=vF.1 n;obtain⟨o,it,f,k,A,_⟩:=c nd a;exact⟨o,it,f,k,A⟩
  ·cases l
theorem Up {c:C}(a:Wj P nt pv ops=some c): ∃(loc:List Nat) (xs:List AI),c= .any ops.size loc.length xs/\(∀t∈loc,t<nt)/\Uu P nt (pv++loc) ops xs:=by
 unfold Wj at a;simp only at a;split at a
 ·cases a
 ·rename_i q l
  have b: ∀(j:Nat) (nd:Nd),q[j]? =some nd-> ∃o,ops[nd.x.i]? =some o/\vU P nt (pv++locals pv (ops.toList.filterMap (·.dst)) []) [] ops o=some (nd.x.it, [])/\nd.dep=Aa o:=λj nd e=>by
   obtain⟨o,h,k,g,s⟩:=Fg _ _ _ l j nd e;exact⟨o,by simp only[k,Nat.zero_add];simpa using h,g,s⟩
  split at a
  ·rename_i p
   have m: ∀t∈locals pv (ops.toList.filterMap (·.dst)) [],t<nt:=λt r=>by simpa using Lw.1 p t r
   split at a
   ·rename_i xs d
    cases a
    exact⟨_,_,rfl,m,Hf (λj nd e=>by
     obtain⟨o,h,k,g⟩:=b j nd e
     exact⟨o,nd.x.it,h,k,.inl rfl,g⟩) d⟩
   ·obtain⟨xs,d,rfl⟩:=lT.1 a
    refine⟨_,_,rfl,m,Hf (λj nd e=>?_) d⟩;rw[Wy] at e;obtain⟨f,n,rfl⟩:=lT.1 e;obtain⟨o,h,k,g⟩:=b j f n;exact⟨o,f.x.it,h,k,.inr rfl,g⟩
  ·cases a
end
end Go.Ay
