/- A region whose order is drawn: the plan is one, and all orders come to dC it comes to. -/
import Derived.Test.YtapfcpkecmmagaaGreatAy15
namespace Go.Ay
open Go
def vD (ops:Array Oper)(i:Nat):List Nat:=match ops[i]? with|some o=>rJ o|none=> []
def Rel (dep:Nat->List Nat)(a b:AI):Prop:=
 a.i≠b.i/\(tV a b=true->Wx dep a.i b.i)/\(a.it.a.mN=true->b.it.a.nG=true->Wx dep a.i b.i∨b.cks.contains a.i=true)
theorem Dx {d j:Nat}: ∀(bef:List Nd),(yK d bef).testBit j=true-> ∃q∈bef,q.x.i=d/\q.anc.testBit j=true
 | [],h=>by simp [yK] at h
 |n::r,h=>by
  simp only[yK] at h;split at h
  ·rename_i e;exact⟨n,zA ..,e,h⟩
  ·obtain⟨q,b,a⟩:=Dx r h;exact⟨q,xS _ b,a⟩
theorem Dj {b:List Nd}{j:Nat}: ∀(ds:List Nat) (m0:Nat),(ds.foldl (λm d=>m|||(2^d|||yK d b)) m0).testBit j=true->
  m0.testBit j=true∨ ∃d∈ds,d=j∨(yK d b).testBit j=true
 | [],m0,h=> .inl h
 |d::ds,m0,h=>by
  simp only[List.foldl_cons] at h;rcases Dj ds _ h with a|⟨e,c,a⟩
  ·simp only[Nat.testBit_or,Bool.or_eq_true,Nat.testBit_two_pow,decide_eq_true_eq] at a
   rcases a with a|a|a
   ·exact .inl a
   ·exact .inr ⟨d,zA ..,.inl a⟩
   ·exact .inr ⟨d,zA ..,.inr a⟩
  ·exact .inr ⟨e,xS _ c,a⟩
theorem vP {dep:Nat->List Nat}: ∀(l bef:List Nd),yZ l bef=true->(∀n∈l,n.dep=dep n.x.i)->(∀q∈bef,q.dep=dep q.x.i/\ ∀j,q.anc.testBit j=true->Wx dep j q.x.i)->
  (∀q∈bef,∀n∈l,Rel dep q.x n.x)/\l.Pairwise (λa b=>Rel dep a.x b.x)/\(∀n∈l,n.x.al=n.x.it.a.jR/\n.x.it.tP=false)/\
  (∀l1 n l2,l=l1++n::l2-> ∀d∈n.dep,∃y,(y∈bef∨y∈l1)/\y.x.i=d)
 | [],bef,_,_,_=>by
  refine⟨λ_ _ n h=>?_,List.Pairwise.nil,λn h=>?_,λl1 n l2 h=>?_⟩
  ·cases h
  ·cases h
  ·cases l1<;>simp at h
 |n::rest,bef,h,hd,hb=>by
  simp only[yZ,pQ] at h;obtain⟨⟨⟨⟨⟨⟨⟨P,A⟩,G⟩,Z⟩,c5⟩,U⟩,W⟩,Q⟩:=h;have J:=hd n (zA ..)
  have g: ∀j,n.anc.testBit j=true->Wx dep j n.x.i:=by
   intro j L S K B;have A:=beq_iff_eq.1 A;rw[A] at L;rcases Dj _ _ L with p|⟨d,o,p⟩
   ·simp at p
   ·have u:S d=true:=B d (J▸o)
    rcases p with p|p
    ·exact p▸u
    ·obtain⟨q,c,e,v⟩:=Dx _ p
     exact (hb q c).2 j v S K (by rw[e];exact K d u)
  have w: ∀q∈n::bef,q.dep=dep q.x.i/\ ∀j,q.anc.testBit j=true->Wx dep j q.x.i:=λq c=>by
   rcases Dk.1 c with rfl|c
   ·exact⟨J,g⟩
   ·exact hb q c
  obtain⟨F,R,O,N⟩:=vP rest (n::bef) Q (λm k=>hd m (xS _ k)) w
  have t: ∀q∈bef,Rel dep q.x n.x:=by
   intro q c;refine⟨λe=>?_,λY=>?_,λp v=>?_⟩
   ·have f:(bef.any λq=>q.x.i==n.x.i)=true:=List.any_eq_true.2 ⟨q,c,by simp [e]⟩
    rw[f] at G;cases G
   ·have f:=yQ.1 Z q c
    simp only[Y,Bool.not_true,Bool.false_or] at f;exact g _ f
   ·have f:=yQ.1 c5 q c
    simp only[p,v,Bool.and_self,Bool.not_true,Bool.false_or,Bool.or_eq_true] at f;rcases f with f|f
    ·exact .inl (g _ f)
    ·exact .inr f
  refine⟨λq c m k=>?_,List.pairwise_cons.2 ⟨λm k=>F n (zA ..) m k,R⟩,λm k=>?_,λl1 m l2 s d o=>?_⟩
  ·rcases Dk.1 k with rfl|k
   ·exact t q c
   ·exact F q (xS _ c) m k
  ·rcases Dk.1 k with rfl|k
   ·exact⟨beq_iff_eq.1 W,by simpa using U⟩
   ·exact O m k
  ·cases l1 with
   |nil=>
    simp only[List.nil_append,List.cons.injEq] at s;obtain⟨rfl,rfl⟩:=s;have f:=yQ.1 P d o;obtain⟨q,c,e⟩:=List.any_eq_true.1 f;exact⟨q,.inl c,by simpa using e⟩
   |cons y l1=>
    simp only[List.cons_append,List.cons.injEq] at s;obtain⟨rfl,s⟩:=s;obtain⟨z,r,e⟩:=N l1 m l2 s d o;refine⟨z,?_,e⟩;rcases r with r|r
    ·rcases Dk.1 r with rfl|r
     ·exact .inr (zA ..)
     ·exact .inl r
    ·exact .inr (xS _ r)
section
variable {P:Program} {nt:Nat} {pv:List Nat} {ops:Array Oper}
theorem uS: ∀(os:List Oper) (k:Nat) (ns:List Nd),vN P nt pv ops k os=some ns->
  ∀(j:Nat) (nd:Nd),ns[j]? =some nd-> ∃o,os[j]? =some o/\nd.x.i=k+j/\oS P nt pv [] ops o=some (nd.x.it, [])/\nd.dep=rJ o
 | [],k,ns,h,j,nd,hj=>by simp only[vN] at h;cases h;simp at hj
 |o::os,k,ns,h,j,nd,hj=>by
  simp only[vN] at h;split at h
  ·rename_i it a
   simp only[jB] at h;obtain⟨r,e,rfl⟩:=h
   cases j with
   |zero=>simp at hj;subst hj;exact⟨o,rfl,by simp,a,rfl⟩
   |succ j=>
    obtain⟨f,c,g,b,d⟩:=uS os (k+1) r e j nd (by simpa using hj);exact⟨f,by simpa using c,om,b,d⟩
  ·cases h
structure Ha (P:Program)(nt:Nat)(pv:List Nat)(ops:Array Oper)(xs:List AI):Prop where
 ok:Lx (vD ops) ops.size xs
 it: ∀x∈xs,∃o it,ops[x.i]? =some o/\oS P nt pv [] ops o=some (it, [])/\(x.it=it∨x.it=it.pu)
theorem uM {s:List Nd}{xs:List AI}(B: ∀(j:Nat) (nd:Nd),s[j]? =some nd-> ∃o it,ops[nd.x.i]? =some o/\oS P nt pv [] ops o=some (it, [])/\(nd.x.it=it∨nd.x.it=it.pu)/\nd.dep=rJ o)
  (l:zC s ops.size=some xs):Ha P nt pv ops xs:=by
 unfold zC at l
 split at l
 ·cases l
 ·rename_i g k
  split at l
  ·rename_i n
   cases l
   simp only[pQ,Uq] at n
   obtain⟨k2,k3⟩:=n
   have c: ∀nd∈g,∃o it,ops[nd.x.i]? =some o/\oS P nt pv [] ops o=some (it, [])/\(nd.x.it=it∨nd.x.it=it.pu)/\nd.dep=rJ o:=by
    intro nd a;obtain⟨m1,Y⟩:=gW k;obtain⟨j,Z,u⟩:=List.getElem_of_mem a;have A:j<(Gj s.length s []).length:=om
    obtain⟨b,G,m⟩:=Y j _ (eX A);rw[eX Z,u] at G;cases G;simp only[jB] at m;obtain⟨mm,v,rfl⟩:=m;obtain⟨o,it,f,h,F,N⟩:=B _ _ v;exact⟨o,it,f,h,F,N⟩
   obtain⟨_,Q,O,L⟩:=vP (dep:=vD ops) g [] k3 (λnd a=>by
    obtain⟨o,it,f,_,_,h⟩:=c nd a
    rw[h];simp [vD,f]) (λq w=>by cases w)
   refine⟨⟨?_,λx r=>?_,λx r=>?_,λi hi=>?_,λl1 x l2 he d J=>?_⟩,λx r=>?_⟩
   case refine_1=>rw[List.pairwise_map];exact Q
   case refine_2=>
    obtain⟨nd,a,rfl⟩:=pU.1 r;exact O nd a
   case refine_3=>
    obtain⟨nd,a,rfl⟩:=pU.1 r;obtain⟨o,it,f,_⟩:=c nd a;exact (Gu.1 f).1
   case refine_4=>
    have U:=yQ.1 k2 i (Ae.2 hi);obtain⟨q,w,e⟩:=List.any_eq_true.1 U;exact⟨q.x,pU.2 ⟨q,w,rfl⟩,by simpa using e⟩
   case refine_5=>
    obtain⟨W,t,K,R,z⟩:=List.map_eq_append_iff.1 he
    cases t with
    |nil=>simp at z
    |cons nd t=>
     simp only[List.map_cons,List.cons.injEq] at z;obtain⟨o,it,f,_,_,h⟩:=c nd (by rw[K];simp);obtain⟨y,p,e⟩:=L W nd t K d (by rw[h];rw[←z.1] at J;simpa [vD,f] using J);rcases p with p|p
     ·cases p
     ·exact⟨y.x,by rw[←R];exact pU.2 ⟨y,p,rfl⟩,e⟩
   case refine_6=>
    obtain⟨nd,a,rfl⟩:=pU.1 r;obtain⟨o,it,f,h,F,_⟩:=c nd a;exact⟨o,it,f,h,F⟩
  ·cases l
theorem Gc {c:C}(a:Fv P nt pv ops=some c): ∃(loc:List Nat) (xs:List AI),c= .any ops.size loc.length xs/\(∀t∈loc,t<nt)/\Ha P nt (pv++loc) ops xs:=by
 unfold Fv at a;simp only at a;split at a
 ·cases a
 ·rename_i p l
  have b: ∀(j:Nat) (nd:Nd),p[j]? =some nd-> ∃o,ops[nd.x.i]? =some o/\oS P nt (pv++locals pv (ops.toList.filterMap (·.dst)) []) [] ops o=some (nd.x.it, [])/\nd.dep=rJ o:=λj nd e=>by
   obtain⟨o,f,h,k,q⟩:=uS _ _ _ l j nd e;exact⟨o,by simp only[h,Nat.zero_add];simpa using f,k,q⟩
  split at a
  ·rename_i s
   have m: ∀t∈locals pv (ops.toList.filterMap (·.dst)) [],t<nt:=λt n=>by simpa using yQ.1 s t n
   split at a
   ·rename_i xs d
    cases a
    exact⟨_,_,rfl,m,uM (λj nd e=>by
     obtain⟨o,f,h,k⟩:=b j nd e
     exact⟨o,nd.x.it,f,h,.inl rfl,k⟩) d⟩
   ·obtain⟨xs,d,rfl⟩:=jB.1 a
    refine⟨_,_,rfl,m,uM (λj nd e=>?_) d⟩;rw[Kt] at e;obtain⟨g,r,rfl⟩:=jB.1 e;obtain⟨o,f,h,k⟩:=b j g r;exact⟨o,g.x.it,f,h,.inr rfl,k⟩
  ·cases a
end
end Go.Ay
