/- A region whose order is drawn: the plan is one, and all orders come to cT it comes to. -/
import Derived.Test.YtcdbmkidaecdiaaGreatAy15
namespace Go.Ay
open Go
def Ia (ops:Array Oper)(i:Nat):List Nat:=match ops[i]? with|some o=>Ca o|none=> []
def Rel (dep:Nat->List Nat)(a b:AI):Prop:=
 a.i≠b.i/\(Ez a b=true->SS dep a.i b.i)/\(a.it.a.tM=true->b.it.a.vH=true->SS dep a.i b.i∨b.cks.contains a.i=true)
theorem Te {d j:Nat}: ∀(bef:List Nd),(Md d bef).testBit j=true-> ∃q∈bef,q.x.i=d/\q.anc.testBit j=true
 | [],h=>by simp [Md] at h
 |n::r,h=>by
  simp only[Md] at h;split at h
  ·rename_i e;exact⟨n,tQ ..,e,h⟩
  ·obtain⟨q,b,a⟩:=Te r h;exact⟨q,wI _ b,a⟩
theorem Th {b:List Nd}{j:Nat}: ∀(ds:List Nat) (m0:Nat),(ds.foldl (λm d=>m|||(2^d|||Md d b)) m0).testBit j=true->
  m0.testBit j=true∨ ∃d∈ds,d=j∨(Md d b).testBit j=true
 | [],m0,h=> .inl h
 |d::ds,m0,h=>by
  simp only[List.foldl_cons] at h;rcases Th ds _ h with a|⟨f,c,a⟩
  ·simp only[Nat.testBit_or,Bool.or_eq_true,Nat.testBit_two_pow,decide_eq_true_eq] at a
   rcases a with a|a|a
   ·exact .inl a
   ·exact .inr ⟨d,tQ ..,.inl a⟩
   ·exact .inr ⟨d,tQ ..,.inr a⟩
  ·exact .inr ⟨f,wI _ c,a⟩
theorem Hs {dep:Nat->List Nat}: ∀(l bef:List Nd),Mv l bef=true->(∀n∈l,n.dep=dep n.x.i)->(∀q∈bef,q.dep=dep q.x.i/\ ∀j,q.anc.testBit j=true->SS dep j q.x.i)->
  (∀q∈bef,∀n∈l,Rel dep q.x n.x)/\l.Pairwise (λa b=>Rel dep a.x b.x)/\(∀n∈l,n.x.al=n.x.it.a.oE/\n.x.it.Fp=false)/\
  (∀l1 n l2,l=l1++n::l2-> ∀d∈n.dep,∃y,(y∈bef∨y∈l1)/\y.x.i=d)
 | [],bef,_,_,_=>by
  refine⟨λ_ _ n h=>?_,List.Pairwise.nil,λn h=>?_,λl1 n l2 h=>?_⟩
  ·cases h
  ·cases h
  ·cases l1<;>simp at h
 |n::rest,bef,h,hd,hb=>by
  simp only[Mv,sE] at h;obtain⟨⟨⟨⟨⟨⟨⟨Q,w⟩,K⟩,Z⟩,O⟩,c6⟩,R⟩,P⟩:=h;have L:=hd n (tQ ..)
  have k: ∀j,n.anc.testBit j=true->SS dep j n.x.i:=by
   intro j G S J F;have w:=beq_iff_eq.1 w;rw[w] at G;rcases Th _ _ G with p|⟨d,r,p⟩
   ·simp at p
   ·have u:S d=true:=F d (L▸r)
    rcases p with p|p
    ·exact p▸u
    ·obtain⟨q,c,e,B⟩:=Te _ p
     exact (hb q c).2 j B S J (by rw[e];exact J d u)
  have A: ∀q∈n::bef,q.dep=dep q.x.i/\ ∀j,q.anc.testBit j=true->SS dep j q.x.i:=λq c=>by
   rcases vI.1 c with rfl|c
   ·exact⟨L,k⟩
   ·exact hb q c
  obtain⟨N,Y,U,r4⟩:=Hs rest (n::bef) P (λm o=>hd m (wI _ o)) A
  have v: ∀q∈bef,Rel dep q.x n.x:=by
   intro q c;refine⟨λe=>?_,λW=>?_,λp B=>?_⟩
   ·have f:(bef.any λq=>q.x.i==n.x.i)=true:=List.any_eq_true.2 ⟨q,c,by simp [e]⟩
    rw[f] at K;cases K
   ·have f:=zP.1 Z q c
    simp only[W,Bool.not_true,Bool.false_or] at f;exact k _ f
   ·have f:=zP.1 O q c
    simp only[p,B,Bool.and_self,Bool.not_true,Bool.false_or,Bool.or_eq_true] at f;rcases f with f|f
    ·exact .inl (k _ f)
    ·exact .inr f
  refine⟨λq c m o=>?_,List.pairwise_cons.2 ⟨λm o=>N n (tQ ..) m o,Y⟩,λm o=>?_,λl1 m l2 t d r=>?_⟩
  ·rcases vI.1 o with rfl|o
   ·exact v q c
   ·exact N q (wI _ c) m o
  ·rcases vI.1 o with rfl|o
   ·exact⟨beq_iff_eq.1 R,by simpa using c6⟩
   ·exact U m o
  ·cases l1 with
   |nil=>
    simp only[List.nil_append,List.cons.injEq] at t;obtain⟨rfl,rfl⟩:=t;have f:=zP.1 Q d r;obtain⟨q,c,e⟩:=List.any_eq_true.1 f;exact⟨q,.inl c,by simpa using e⟩
   |cons y l1=>
    simp only[List.cons_append,List.cons.injEq] at t;obtain⟨rfl,t⟩:=t;obtain⟨z,s,e⟩:=r4 l1 m l2 t d r;refine⟨z,?_,e⟩;rcases s with s|s
    ·rcases vI.1 s with rfl|s
     ·exact .inr (tQ ..)
     ·exact .inl s
    ·exact .inr (wI _ s)
section
variable {P:Program} {nt:Nat} {pv:List Nat} {ops:Array Oper}
theorem Hg: ∀(os:List Oper) (k:Nat) (ns:List Nd),Ib P nt pv ops k os=some ns->
  ∀(j:Nat) (nd:Nd),ns[j]? =some nd-> ∃o,os[j]? =some o/\nd.x.i=k+j/\xB P nt pv [] ops o=some (nd.x.it, [])/\nd.dep=Ca o
 | [],k,ns,h,j,nd,hj=>by simp only[Ib] at h;cases h;simp at hj
 |o::os,k,ns,h,j,nd,hj=>by
  simp only[Ib] at h;split at h
  ·rename_i it a
   simp only[oU] at h;obtain⟨r,c,rfl⟩:=h
   cases j with
   |zero=>simp at hj;subst hj;exact⟨o,rfl,by simp,a,rfl⟩
   |succ j=>
    obtain⟨d,b,m,l,f⟩:=Hg os (k+1) r c j nd (by simpa using hj);exact⟨d,by simpa using b,om,l,f⟩
  ·cases h
structure Vy (P:Program)(nt:Nat)(pv:List Nat)(ops:Array Oper)(xs:List AI):Prop where
 ok:EJ (Ia ops) ops.size xs
 it: ∀x∈xs,∃o,ops[x.i]? =some o/\xB P nt pv [] ops o=some (x.it, [])
theorem Vb {t:List Nd}{xs:List AI}(A: ∀(j:Nat) (nd:Nd),t[j]? =some nd-> ∃o,ops[nd.x.i]? =some o/\xB P nt pv [] ops o=some (nd.x.it, [])/\nd.dep=Ca o)
  (m:Ut t ops.size=some xs):Vy P nt pv ops xs:=by
 unfold Ut at m
 split at m
 ·cases m
 ·rename_i h k
  split at m
  ·rename_i n
   cases m
   simp only[sE,RD] at n
   obtain⟨U,W⟩:=n
   have c: ∀nd∈h,∃o,ops[nd.x.i]? =some o/\xB P nt pv [] ops o=some (nd.x.it, [])/\nd.dep=Ca o:=by
    intro nd a;obtain⟨m1,N⟩:=jC k;obtain⟨j,Q,v⟩:=List.getElem_of_mem a;have z:j<(Uo t.length t []).length:=om
    obtain⟨b,G,p⟩:=N j _ (dD z);rw[dD Q,v] at G;cases G;simp only[oU] at p;obtain⟨mm,B,rfl⟩:=p;exact let ⟨o,f,l,h3⟩:=A _ _ B;⟨o,f,l,h3⟩
   obtain⟨_,R,O,r4⟩:=Hs (dep:=Ia ops) h [] W (λnd a=>by
    obtain⟨o,f,_,l⟩:=c nd a
    rw[l];simp [Ia,f]) (λq F=>by cases F)
   refine⟨⟨?_,λx r=>?_,λx r=>?_,λi hi=>?_,λl1 x l2 L d K=>?_⟩,λx r=>?_⟩
   case refine_1=>rw[List.pairwise_map];exact R
   case refine_2=>
    obtain⟨nd,a,rfl⟩:=pH.1 r;exact O nd a
   case refine_3=>
    obtain⟨nd,a,rfl⟩:=pH.1 r;obtain⟨o,f,_⟩:=c nd a;exact (HF.1 f).1
   case refine_4=>
    have Y:=zP.1 U i (Dj.2 hi);obtain⟨q,F,e⟩:=List.any_eq_true.1 Y;exact⟨q.x,pH.2 ⟨q,F,rfl⟩,by simpa using e⟩
   case refine_5=>
    obtain⟨Z,u,J,e1,w⟩:=List.map_eq_append_iff.1 L
    cases u with
    |nil=>simp at w
    |cons nd u=>
     simp only[List.map_cons,List.cons.injEq] at w;obtain⟨o,f,_,l⟩:=c nd (by rw[J];simp);obtain⟨y,s,e⟩:=r4 Z nd u J d (by rw[l];rw[←w.1] at K;simpa [Ia,f] using K);rcases s with s|s
     ·cases s
     ·exact⟨y.x,by rw[←e1];exact pH.2 ⟨y,s,rfl⟩,e⟩
   case refine_6=>
    obtain⟨nd,a,rfl⟩:=pH.1 r;obtain⟨o,f,l,_⟩:=c nd a;exact⟨o,f,l⟩
  ·cases m
theorem Vx {c:C}(a:Vc P nt pv ops=some c): ∃(loc:List Nat) (xs:List AI),c= .any ops.size loc.length xs/\(∀t∈loc,t<nt)/\Vy P nt (pv++loc) ops xs:=by
 unfold Vc at a;simp only at a;split at a
 ·cases a
 ·rename_i m d
  have b: ∀(j:Nat) (nd:Nd),m[j]? =some nd-> ∃o,ops[nd.x.i]? =some o/\xB P nt (pv++locals pv (ops.toList.filterMap (·.dst)) []) [] ops o=some (nd.x.it, [])/\nd.dep=Ca o:=λj nd r=>by
   obtain⟨o,h,q,s,l⟩:=Hg _ _ _ d j nd r;exact⟨o,by simp only[q,Nat.zero_add];simpa using h,s,l⟩
  split at a
  ·rename_i k
   have p: ∀t∈locals pv (ops.toList.filterMap (·.dst)) [],t<nt:=λt n=>by simpa using zP.1 k t n
   obtain⟨xs,f,rfl⟩:=oU.1 a;exact⟨_,_,rfl,p,Vb b f⟩
  ·cases a
end
end Go.Ay
