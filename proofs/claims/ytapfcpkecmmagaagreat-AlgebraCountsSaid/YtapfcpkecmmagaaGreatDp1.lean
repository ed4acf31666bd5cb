/- Permutations as lists of numbers: products, inverses. -/
namespace Go.Pm
section
variable {i:Nat} {x:List Nat}
abbrev qX:=List (List Nat)
abbrev Ti:=List (List (List Nat))
theorem oq {p:Prop}(h:p:=by omega):p:=h
structure bT (n:Nat)(a:List Nat):Prop where
 len:a.length=n
 nd:a.Nodup
 lt: ∀x∈a,x<n
abbrev HZ (a:List Nat)(i:Nat):Nat:=a.getD i 0
def bD (a b:List Nat):List Nat:=a.map λp=>b.getD p 0
def cG (n:Nat):List Nat:=List.range n
def dH (a:List Nat):List Nat:=(List.range a.length).map λj=>a.idxOf j
theorem bP {a:List Nat}(h:i<a.length):a.getD i 0=a[i]:=by simp [List.getD,h]
theorem oP {a b:List Nat}(e:a.length=b.length)(h: ∀i,i<a.length->a.getD i 0=b.getD i 0):a=b:=by
 refine List.ext_getElem e λi c d=>?_
 have:=h i c;rwa [bP c,bP d] at this
section
variable {n:Nat} {a b c:List Nat}
theorem bT.dZ (A:bT n a)(hi:i<n):a.getD i 0<n:=by
 have h:i<a.length:=by rw[A.len];exact hi
 rw[bP h];exact A.lt _ (List.getElem_mem h)
theorem bT.inj (A:bT n a){j:Nat}(hi:i<n)(g:j<n)(h:a.getD i 0=a.getD j 0):i=j:=by
 have e:i<a.length:=by rw[A.len];exact hi
 have f:j<a.length:=by rw[A.len];exact g
 rw[bP e,bP f] at h;have d:=A.nd.idxOf_getElem i e;have e:=A.nd.idxOf_getElem j f;rw[h] at d;exact d.symm.trans e
theorem bT.Uh (f:a.length=n)(d: ∀i,i<n->a.getD i 0<n)(h2: ∀i j,i<n->j<n->a.getD i 0=a.getD j 0->i=j):bT n a:=by
 refine⟨f,?_,λx g=>?_⟩
 ·rw[List.nodup_iff_pairwise_ne,List.pairwise_iff_getElem]
  intro i j hi h e e;have:=h2 i j oq oq (by rw[bP hi,bP h];exact e);omega
 ·obtain⟨i,hi,rfl⟩:=List.mem_iff_getElem.1 g
  have:=d i oq;rwa [bP hi] at this
theorem bT.mem (A:bT n a){p:Nat}(g:p<n):p∈a:=by
 refine Classical.byContradiction λh=>?_
 have e:(p::a).Nodup:=List.nodup_cons.2 ⟨h,A.nd⟩
 have f:(p::a) ⊆ List.range n:=λx d=>by
  rcases List.mem_cons.1 d with rfl|d
  ·exact List.mem_range.2 g
  ·exact List.mem_range.2 (A.lt x d)
 have:=List.Nodup.length_le_of_subset e f;have d:=A.len;simp only[List.length_cons,List.length_range] at this;omega
theorem bT.idx (A:bT n a){p:Nat}(d:p<n):a.idxOf p<n/\a.getD (a.idxOf p) 0=p:=by
 have h:=List.idxOf_lt_length_iff.2 (A.mem d);refine⟨by rw[←A.len];exact h,?_⟩;rw[bP h,List.getElem_idxOf]
theorem eH (a b:List Nat):(bD a b).length=a.length:=by simp [bD]
theorem cX (hi:i<a.length):(bD a b).getD i 0=b.getD (a.getD i 0) 0:=by
 have h:i<(bD a b).length:=by rw[eH];exact hi
 rw[bP h,bP hi];simp [bD]
theorem gU (n:Nat):(cG n).length=n:=by simp [cG]
theorem eP {n:Nat}(hi:i<n):(cG n).getD i 0=i:=by
 have h:i<(cG n).length:=by rw[gU];exact hi
 rw[bP h];simp [cG]
theorem fV (a:List Nat):(dH a).length=a.length:=by simp [dH]
theorem lQ (hi:i<a.length):(dH a).getD i 0=a.idxOf i:=by
 have h:i<(dH a).length:=by rw[fV];exact hi
 rw[bP h];simp [dH]
theorem bT.one (n:Nat):bT n (cG n):=⟨gU n,List.nodup_range,λx d=>List.mem_range.1 d⟩
theorem bT.mul (A:bT n a)(B:bT n b):bT n (bD a b):=by
 refine bT.Uh (by rw[eH,A.len]) (λi hi=>?_) (λi j hi d h=>?_)
 ·rw[cX (by rw[A.len];exact hi)];exact B.dZ (A.dZ hi)
 ·rw[cX (by rw[A.len];exact hi),cX (by rw[A.len];exact d)] at h
  exact A.inj hi d (B.inj (A.dZ hi) (A.dZ d) h)
theorem bT.inv (A:bT n a):bT n (dH a):=by
 refine bT.Uh (by rw[fV,A.len]) (λi hi=>?_) (λi j hi d h=>?_)
 ·rw[lQ (by rw[A.len];exact hi)];exact (A.idx hi).1
 ·rw[lQ (by rw[A.len];exact hi),lQ (by rw[A.len];exact d)] at h
  rw[←(A.idx hi).2,←(A.idx d).2,h]
theorem bN (A:bT n a)(B:bT n b)(C:bT n c):bD (bD a b) c=bD a (bD b c):=by
 refine oP (by simp only[eH]) λi hi=>?_
 rw[eH,eH] at hi;have d:i<n:=by rw[←A.len];exact hi
 rw[cX (by rw[eH];exact hi),cX hi,cX hi,cX (by rw[B.len];exact A.dZ d)]
theorem dA (A:bT n a):bD a (cG n)=a:=by
 refine oP (eH _ _) λi hi=>?_
 rw[eH] at hi;rw[cX hi,eP (A.dZ (by rw[←A.len];exact hi))]
theorem fG (A:bT n a):bD (cG n) a=a:=by
 refine oP (by rw[eH,gU,A.len]) λi hi=>?_
 rw[eH,gU] at hi;rw[cX (by rw[gU];exact hi),eP hi]
theorem iH (A:bT n a):bD a (dH a)=cG n:=by
 refine oP (by rw[eH,gU,A.len]) λi hi=>?_
 rw[eH] at hi;have d:i<n:=by rw[←A.len];exact hi
 rw[cX hi,eP d,lQ (by rw[A.len];exact A.dZ d)];exact A.inj ((A.idx (A.dZ d)).1) d ((A.idx (A.dZ d)).2)
theorem gI (A:bT n a):bD (dH a) a=cG n:=by
 refine oP (by rw[eH,gU,fV,A.len]) λi hi=>?_
 rw[eH,fV] at hi;have d:i<n:=by rw[←A.len];exact hi
 rw[cX (by rw[fV];exact hi),eP d,lQ hi];exact (A.idx d).2
theorem rP (n:Nat):dH (cG n)=cG n:=by
 have:=iH (bT.one n);rwa [fG (bT.one n).inv] at this
theorem uX (A:bT n a)(B:bT n b)(C:bT n c)(h:bD a c=bD b c):a=b:=by
 have:=congrArg (λx=>bD x (dH c)) h
 try simp only at this
 rwa [bN A C C.inv,bN B C C.inv,iH C,dA A,dA B] at this
theorem yA (A:bT n a)(B:bT n b)(C:bT n c)(h:bD c a=bD c b):a=b:=by
 have:=congrArg (λx=>bD (dH c) x) h
 try simp only at this
 rwa [←bN C.inv C A,←bN C.inv C B,gI C,fG A,fG B] at this
theorem Wi (A:bT n a)(B:bT n b):dH (bD a b)=bD (dH b) (dH a):=by
 refine yA (A.mul B).inv (B.inv.mul A.inv) (A.mul B) ?_;rw[iH (A.mul B),bN A B (B.inv.mul A.inv),←bN B B.inv A.inv,iH B,fG A.inv,iH A]
theorem nH (A:bT n a)(hi:i<n):(dH a).getD (a.getD i 0) 0=i:=by
 have:=congrArg (λx=>x.getD i 0) (iH A)
 try simp only at this
 rwa [cX (by rw[A.len];exact hi),eP hi] at this
theorem DY (A:bT n a)(hi:i<n):a.getD ((dH a).getD i 0) 0=i:=by
 have:=congrArg (λx=>x.getD i 0) (gI A)
 try simp only at this
 rwa [cX (by rw[fV,A.len];exact hi),eP hi] at this
structure mD (n:Nat)(G:List Nat->Prop):Prop where
 isP: ∀{x},G x->bT n x
 one:G (cG n)
 mul: ∀{x y},G x->G y->G (bD x y)
 inv: ∀{x},G x->G (dH x)
def pw (n:Nat)(x:List Nat):Nat->List Nat
 |0=>cG n
 |k+1=>bD (pw n x k) x
theorem iB (A:bT n a): ∀k,bT n (pw n a k)
 |0=>bT.one n
 |k+1=>(iB A k).mul A
theorem Gi (A:bT n a)(i:Nat): ∀j,pw n a (i+j)=bD (pw n a i) (pw n a j)
 |0=>(dA (iB A i)).symm
 |j+1=>by
  show bD (pw n a (i+j)) a=bD (pw n a i) (bD (pw n a j) a);rw[Gi A i j,bN (iB A i) (iB A j) A]
def rO (n:Nat):Nat->qX
 |0=> [[]]
 |k+1=>(List.range n).flatMap λx=>(rO n k).map (x:: ·)
theorem Cb (n:Nat): ∀k,(rO n k).length=n^k
 |0=>rfl
 |k+1=>by
  simp only[rO,List.length_flatMap,List.length_map,Cb n k]
  have: ∀m c:Nat,((List.range m).map λ_=>c).sum=m*c:=by
   intro m c
   induction m with
   |zero=>simp
   |succ m ih=>rw[List.range_succ,List.map_append,List.sum_append,ih];simp [Nat.succ_mul]
  rw[this,Nat.pow_succ,Nat.mul_comm]
theorem mZ (n:Nat): ∀(k:Nat) (l:List Nat),l.length=k->(∀x∈l,x<n)->l∈rO n k
 |0, [],_,_=>by simp [rO]
 |0,_::_,h,_=>by simp at h
 |k+1, [],h,_=>by simp at h
 |k+1,x::l,h,hx=>by
  simp only[rO,List.mem_flatMap,List.mem_map];exact⟨x,List.mem_range.2 (hx x (by simp)),l,mZ n k l (by simpa using h) (λy d=>hx y (by simp [d])),rfl⟩
theorem bT.mZ (A:bT n a):a∈rO n n:=Go.Pm.mZ n n a A.len A.lt
theorem Bv {l:qX}(e:l.Nodup)(f: ∀x∈l,bT n x):l.length<=n^n:=by
 rw[←Cb n n];exact List.Nodup.length_le_of_subset e λx d=>(f x d).mZ
theorem Gn (A:bT n a): ∃k,0<k/\k<=n^n/\pw n a k=cG n:=by
 have h: ∃i j,i<j/\j<=n^n/\pw n a i=pw n a j:=by
  refine Classical.byContradiction λm=>?_
  have f:((List.range (n^n+1)).map (pw n a)).Nodup:=by
   rw[List.nodup_iff_pairwise_ne,List.pairwise_iff_getElem];intro i j hi g d e;simp only[List.length_map,List.length_range] at hi g;simp only[List.getElem_map,List.getElem_range] at e;exact m ⟨i,j,d,oq,e⟩
  have:=Bv f (n:=n) (λx l=>by
   obtain⟨i,_,rfl⟩:=List.mem_map.1 l
   exact iB A i)
  simp only[List.length_map,List.length_range] at this;omega
 obtain⟨i,j,d,g,e⟩:=h;refine⟨j-i,oq,oq,?_⟩;have d:pw n a j=bD (pw n a i) (pw n a (j-i)):=by rw[←Gi A,show i+(j-i)=j from oq]
 refine yA (iB A (j-i)) (bT.one n) (iB A i) ?_;rw[←d,dA (iB A i),e]
inductive fA (n:Nat) (L:List Nat->Prop):List Nat->Prop where
 |one:fA n L (cG n)
 |mul {x g:List Nat}:fA n L x->L g->fA n L (bD x g)
variable {L M:List Nat->Prop}
theorem fA.isP (d: ∀g,L g->bT n g)(h:fA n L x):bT n x:=by
 induction h with
 |one=>exact bT.one n
 |mul _ hg ih=>exact ih.mul (d _ hg)
theorem fA.of (d: ∀g,L g->bT n g){g:List Nat}(h:L g):fA n L g:=by
 have:=fA.mul (n:=n) fA.one h;rwa [fG (d g h)] at this
theorem fA.app (d: ∀g,L g->bT n g){y:List Nat}(f:fA n L x)(e:fA n L y):fA n L (bD x y):=by
 induction e with
 |one=>rwa [dA (f.isP d)]
 |mul e hg ih=>rw[←bN (f.isP d) (e.isP d) (d _ hg)];exact ih.mul hg
theorem fA.pow (d: ∀g,L g->bT n g)(e:fA n L x): ∀k,fA n L (pw n x k)
 |0=> .one
 |k+1=>(fA.pow d e k).app d e
theorem fA.inv (d: ∀g,L g->bT n g)(f:fA n L x):fA n L (dH x):=by
 have A:=f.isP d;obtain⟨k,e,_,h⟩:=Gn A
 have e:dH x=pw n x (k- 1):=by
  refine uX A.inv (iB A _) A ?_;rw[gI A];show _=pw n x (k- 1+1);rw[show k- 1+1=k from oq,h]
 rw[e];exact f.pow d _
theorem fA.grp (d: ∀g,L g->bT n g):mD n (fA n L):=⟨λh=>h.isP d,.one,λh k=>h.app d k,λh=>h.inv d⟩
theorem fA.le {G:List Nat->Prop}(d:mD n G)(h: ∀g,L g->G g)(e:fA n L x):G x:=by
 induction e with
 |one=>exact d.one
 |mul _ hg ih=>exact d.mul ih (h _ hg)
theorem fA.mono (h: ∀g,L g->M g)(d:fA n L x):fA n M x:=by
 induction d with
 |one=>exact .one
 |mul _ hg ih=>exact ih.mul (h _ hg)
end
end
end Go.Pm
