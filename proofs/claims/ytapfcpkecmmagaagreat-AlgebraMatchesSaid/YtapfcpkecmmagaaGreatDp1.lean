/- Permutations as lists of numbers: products, inverses. -/
namespace Go.Pm
section
variable {i:Nat} {x:List Nat}
abbrev rC:=List (List Nat)
abbrev Yo:=List (List (List Nat))
theorem oq {p:Prop}(h:p:=by omega):p:=h
structure bV (n:Nat)(a:List Nat):Prop where
 len:a.length=n
 nd:a.Nodup
 lt: ∀x∈a,x<n
abbrev IW (a:List Nat)(i:Nat):Nat:=a.getD i 0
def bE (a b:List Nat):List Nat:=a.map λp=>b.getD p 0
def cH (n:Nat):List Nat:=List.range n
def dM (a:List Nat):List Nat:=(List.range a.length).map λj=>a.idxOf j
theorem bT {a:List Nat}(h:i<a.length):a.getD i 0=a[i]:=by simp [List.getD,h]
theorem oU {a b:List Nat}(d:a.length=b.length)(h: ∀i,i<a.length->a.getD i 0=b.getD i 0):a=b:=by
 refine List.ext_getElem d λi c e=>?_
 have:=h i c;rwa [bT c,bT e] at this
section
variable {n:Nat} {a b c:List Nat}
theorem bV.dZ (A:bV n a)(hi:i<n):a.getD i 0<n:=by
 have h:i<a.length:=by rw[A.len];exact hi
 rw[bT h];exact A.lt _ (List.getElem_mem h)
theorem bV.inj (A:bV n a){j:Nat}(hi:i<n)(g:j<n)(h:a.getD i 0=a.getD j 0):i=j:=by
 have f:i<a.length:=by rw[A.len];exact hi
 have e:j<a.length:=by rw[A.len];exact g
 rw[bT f,bT e] at h;have d:=A.nd.idxOf_getElem i f;have f:=A.nd.idxOf_getElem j e;rw[h] at d;exact d.symm.trans f
theorem bV.Xy (d:a.length=n)(f: ∀i,i<n->a.getD i 0<n)(h2: ∀i j,i<n->j<n->a.getD i 0=a.getD j 0->i=j):bV n a:=by
 refine⟨d,?_,λx g=>?_⟩
 ·rw[List.nodup_iff_pairwise_ne,List.pairwise_iff_getElem]
  intro i j hi h e e;have:=h2 i j oq oq (by rw[bT hi,bT h];exact e);omega
 ·obtain⟨i,hi,rfl⟩:=List.mem_iff_getElem.1 g
  have:=f i oq;rwa [bT hi] at this
theorem bV.mem (A:bV n a){p:Nat}(f:p<n):p∈a:=by
 refine Classical.byContradiction λh=>?_
 have e:(p::a).Nodup:=List.nodup_cons.2 ⟨h,A.nd⟩
 have g:(p::a) ⊆ List.range n:=λx d=>by
  rcases List.mem_cons.1 d with rfl|d
  ·exact List.mem_range.2 f
  ·exact List.mem_range.2 (A.lt x d)
 have:=List.Nodup.length_le_of_subset e g;have d:=A.len;simp only[List.length_cons,List.length_range] at this;omega
theorem bV.idx (A:bV n a){p:Nat}(d:p<n):a.idxOf p<n/\a.getD (a.idxOf p) 0=p:=by
 have h:=List.idxOf_lt_length_iff.2 (A.mem d);refine⟨by rw[←A.len];exact h,?_⟩;rw[bT h,List.getElem_idxOf]
theorem eH (a b:List Nat):(bE a b).length=a.length:=by simp [bE]
theorem dB (hi:i<a.length):(bE a b).getD i 0=b.getD (a.getD i 0) 0:=by
 have h:i<(bE a b).length:=by rw[eH];exact hi
 rw[bT h,bT hi];simp [bE]
theorem gY (n:Nat):(cH n).length=n:=by simp [cH]
theorem eX {n:Nat}(hi:i<n):(cH n).getD i 0=i:=by
 have h:i<(cH n).length:=by rw[gY];exact hi
 rw[bT h];simp [cH]
theorem gG (a:List Nat):(dM a).length=a.length:=by simp [dM]
theorem lU (hi:i<a.length):(dM a).getD i 0=a.idxOf i:=by
 have h:i<(dM a).length:=by rw[gG];exact hi
 rw[bT h];simp [dM]
theorem bV.one (n:Nat):bV n (cH n):=⟨gY n,List.nodup_range,λx d=>List.mem_range.1 d⟩
theorem bV.mul (A:bV n a)(B:bV n b):bV n (bE a b):=by
 refine bV.Xy (by rw[eH,A.len]) (λi hi=>?_) (λi j hi d h=>?_)
 ·rw[dB (by rw[A.len];exact hi)];exact B.dZ (A.dZ hi)
 ·rw[dB (by rw[A.len];exact hi),dB (by rw[A.len];exact d)] at h
  exact A.inj hi d (B.inj (A.dZ hi) (A.dZ d) h)
theorem bV.inv (A:bV n a):bV n (dM a):=by
 refine bV.Xy (by rw[gG,A.len]) (λi hi=>?_) (λi j hi d h=>?_)
 ·rw[lU (by rw[A.len];exact hi)];exact (A.idx hi).1
 ·rw[lU (by rw[A.len];exact hi),lU (by rw[A.len];exact d)] at h
  rw[←(A.idx hi).2,←(A.idx d).2,h]
theorem bP (A:bV n a)(B:bV n b)(C:bV n c):bE (bE a b) c=bE a (bE b c):=by
 refine oU (by simp only[eH]) λi hi=>?_
 rw[eH,eH] at hi;have d:i<n:=by rw[←A.len];exact hi
 rw[dB (by rw[eH];exact hi),dB hi,dB hi,dB (by rw[B.len];exact A.dZ d)]
theorem dD (A:bV n a):bE a (cH n)=a:=by
 refine oU (eH _ _) λi hi=>?_
 rw[eH] at hi;rw[dB hi,eX (A.dZ (by rw[←A.len];exact hi))]
theorem fO (A:bV n a):bE (cH n) a=a:=by
 refine oU (by rw[eH,gY,A.len]) λi hi=>?_
 rw[eH,gY] at hi;rw[dB (by rw[gY];exact hi),eX hi]
theorem iL (A:bV n a):bE a (dM a)=cH n:=by
 refine oU (by rw[eH,gY,A.len]) λi hi=>?_
 rw[eH] at hi;have d:i<n:=by rw[←A.len];exact hi
 rw[dB hi,eX d,lU (by rw[A.len];exact A.dZ d)];exact A.inj ((A.idx (A.dZ d)).1) d ((A.idx (A.dZ d)).2)
theorem iK (A:bV n a):bE (dM a) a=cH n:=by
 refine oU (by rw[eH,gY,gG,A.len]) λi hi=>?_
 rw[eH,gG] at hi;have d:i<n:=by rw[←A.len];exact hi
 rw[dB (by rw[gG];exact hi),eX d,lU hi];exact (A.idx d).2
theorem rU (n:Nat):dM (cH n)=cH n:=by
 have:=iL (bV.one n);rwa [fO (bV.one n).inv] at this
theorem He (A:bV n a)(B:bV n b)(C:bV n c)(h:bE a c=bE b c):a=b:=by
 have:=congrArg (λx=>bE x (dM c)) h
 try simp only at this
 rwa [bP A C C.inv,bP B C C.inv,iL C,dD A,dD B] at this
theorem yF (A:bV n a)(B:bV n b)(C:bV n c)(h:bE c a=bE c b):a=b:=by
 have:=congrArg (λx=>bE (dM c) x) h
 try simp only at this
 rwa [←bP C.inv C A,←bP C.inv C B,iK C,fO A,fO B] at this
theorem Vv (A:bV n a)(B:bV n b):dM (bE a b)=bE (dM b) (dM a):=by
 refine yF (A.mul B).inv (B.inv.mul A.inv) (A.mul B) ?_;rw[iL (A.mul B),bP A B (B.inv.mul A.inv),←bP B B.inv A.inv,iL B,fO A.inv,iL A]
theorem mX (A:bV n a)(hi:i<n):(dM a).getD (a.getD i 0) 0=i:=by
 have:=congrArg (λx=>x.getD i 0) (iL A)
 try simp only at this
 rwa [dB (by rw[A.len];exact hi),eX hi] at this
theorem FB (A:bV n a)(hi:i<n):a.getD ((dM a).getD i 0) 0=i:=by
 have:=congrArg (λx=>x.getD i 0) (iK A)
 try simp only at this
 rwa [dB (by rw[gG,A.len];exact hi),eX hi] at this
structure mH (n:Nat)(G:List Nat->Prop):Prop where
 isP: ∀{x},G x->bV n x
 one:G (cH n)
 mul: ∀{x y},G x->G y->G (bE x y)
 inv: ∀{x},G x->G (dM x)
def pw (n:Nat)(x:List Nat):Nat->List Nat
 |0=>cH n
 |k+1=>bE (pw n x k) x
theorem jQ (A:bV n a): ∀k,bV n (pw n a k)
 |0=>bV.one n
 |k+1=>(jQ A k).mul A
theorem Mv (A:bV n a)(i:Nat): ∀j,pw n a (i+j)=bE (pw n a i) (pw n a j)
 |0=>(dD (jQ A i)).symm
 |j+1=>by
  show bE (pw n a (i+j)) a=bE (pw n a i) (bE (pw n a j) a);rw[Mv A i j,bP (jQ A i) (jQ A j) A]
def rX (n:Nat):Nat->rC
 |0=> [[]]
 |k+1=>(List.range n).flatMap λx=>(rX n k).map (x:: ·)
theorem Ab (n:Nat): ∀k,(rX n k).length=n^k
 |0=>rfl
 |k+1=>by
  simp only[rX,List.length_flatMap,List.length_map,Ab n k]
  have: ∀m c:Nat,((List.range m).map λ_=>c).sum=m*c:=by
   intro m c
   induction m with
   |zero=>simp
   |succ m ih=>rw[List.range_succ,List.map_append,List.sum_append,ih];simp [Nat.succ_mul]
  rw[this,Nat.pow_succ,Nat.mul_comm]
theorem mU (n:Nat): ∀(k:Nat) (l:List Nat),l.length=k->(∀x∈l,x<n)->l∈rX n k
 |0, [],_,_=>by simp [rX]
 |0,_::_,h,_=>by simp at h
 |k+1, [],h,_=>by simp at h
 |k+1,x::l,h,hx=>by
  simp only[rX,List.mem_flatMap,List.mem_map];exact⟨x,List.mem_range.2 (hx x (by simp)),l,mU n k l (by simpa using h) (λy d=>hx y (by simp [d])),rfl⟩
theorem bV.mU (A:bV n a):a∈rX n n:=Go.Pm.mU n n a A.len A.lt
theorem Bz {l:rC}(e:l.Nodup)(f: ∀x∈l,bV n x):l.length<=n^n:=by
 rw[←Ab n n];exact List.Nodup.length_le_of_subset e λx d=>(f x d).mU
theorem Gm (A:bV n a): ∃k,0<k/\k<=n^n/\pw n a k=cH n:=by
 have h: ∃i j,i<j/\j<=n^n/\pw n a i=pw n a j:=by
  refine Classical.byContradiction λl=>?_
  have f:((List.range (n^n+1)).map (pw n a)).Nodup:=by
   rw[List.nodup_iff_pairwise_ne,List.pairwise_iff_getElem];intro i j hi g d e;simp only[List.length_map,List.length_range] at hi g;simp only[List.getElem_map,List.getElem_range] at e;exact l ⟨i,j,d,oq,e⟩
  have:=Bz f (n:=n) (λx m=>by
   obtain⟨i,_,rfl⟩:=List.mem_map.1 m
   exact jQ A i)
  simp only[List.length_map,List.length_range] at this;omega
 obtain⟨i,j,d,g,e⟩:=h;refine⟨j-i,oq,oq,?_⟩;have d:pw n a j=bE (pw n a i) (pw n a (j-i)):=by rw[←Mv A,show i+(j-i)=j from oq]
 refine yF (jQ A (j-i)) (bV.one n) (jQ A i) ?_;rw[←d,dD (jQ A i),e]
inductive fE (n:Nat) (L:List Nat->Prop):List Nat->Prop where
 |one:fE n L (cH n)
 |mul {x g:List Nat}:fE n L x->L g->fE n L (bE x g)
variable {L M:List Nat->Prop}
theorem fE.isP (d: ∀g,L g->bV n g)(h:fE n L x):bV n x:=by
 induction h with
 |one=>exact bV.one n
 |mul _ hg ih=>exact ih.mul (d _ hg)
theorem fE.of (d: ∀g,L g->bV n g){g:List Nat}(h:L g):fE n L g:=by
 have:=fE.mul (n:=n) fE.one h;rwa [fO (d g h)] at this
theorem fE.app (d: ∀g,L g->bV n g){y:List Nat}(f:fE n L x)(e:fE n L y):fE n L (bE x y):=by
 induction e with
 |one=>rwa [dD (f.isP d)]
 |mul e hg ih=>rw[←bP (f.isP d) (e.isP d) (d _ hg)];exact ih.mul hg
theorem fE.pow (d: ∀g,L g->bV n g)(e:fE n L x): ∀k,fE n L (pw n x k)
 |0=> .one
 |k+1=>(fE.pow d e k).app d e
theorem fE.inv (d: ∀g,L g->bV n g)(f:fE n L x):fE n L (dM x):=by
 have A:=f.isP d;obtain⟨k,e,_,h⟩:=Gm A
 have e:dM x=pw n x (k- 1):=by
  refine He A.inv (jQ A _) A ?_;rw[iK A];show _=pw n x (k- 1+1);rw[show k- 1+1=k from oq,h]
 rw[e];exact f.pow d _
theorem fE.grp (d: ∀g,L g->bV n g):mH n (fE n L):=⟨λh=>h.isP d,.one,λh k=>h.app d k,λh=>h.inv d⟩
theorem fE.le {G:List Nat->Prop}(d:mH n G)(h: ∀g,L g->G g)(e:fE n L x):G x:=by
 induction e with
 |one=>exact d.one
 |mul _ hg ih=>exact d.mul ih (h _ hg)
theorem fE.mono (h: ∀g,L g->M g)(d:fE n L x):fE n M x:=by
 induction d with
 |one=>exact .one
 |mul _ hg ih=>exact ih.mul (h _ hg)
end
end
end Go.Pm
