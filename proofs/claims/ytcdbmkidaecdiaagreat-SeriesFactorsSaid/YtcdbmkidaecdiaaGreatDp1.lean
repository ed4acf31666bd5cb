/- Permutations as lists of numbers: products, inverses. -/
namespace Go.Pm
section
variable {i:Nat} {x:List Nat}
abbrev zI:=List (List Nat)
abbrev PZ:=List (List (List Nat))
theorem oq {p:Prop}(h:p:=by omega):p:=h
structure bE (n:Nat)(a:List Nat):Prop where
 len:a.length=n
 nd:a.Nodup
 lt: ∀x∈a,x<n
abbrev at' (a:List Nat)(i:Nat):Nat:=a.getD i 0
def aX (a b:List Nat):List Nat:=a.map λp=>b.getD p 0
def bL (n:Nat):List Nat:=List.range n
def dA (a:List Nat):List Nat:=(List.range a.length).map λj=>a.idxOf j
theorem cJ {a:List Nat}(h:i<a.length):a.getD i 0=a[i]:=by simp [List.getD,h]
theorem yC {a b:List Nat}(d:a.length=b.length)(h: ∀i,i<a.length->a.getD i 0=b.getD i 0):a=b:=by
 refine List.ext_getElem d λi c f=>?_
 have:=h i c;rwa [cJ c,cJ f] at this
section
variable {n:Nat} {a b c:List Nat}
theorem bE.iN (A:bE n a)(hi:i<n):a.getD i 0<n:=by
 have h:i<a.length:=by rw[A.len];exact hi
 rw[cJ h];exact A.lt _ (List.getElem_mem h)
theorem bE.inj (A:bE n a){j:Nat}(hi:i<n)(m:j<n)(h:a.getD i 0=a.getD j 0):i=j:=by
 have k:i<a.length:=by rw[A.len];exact hi
 have d:j<a.length:=by rw[A.len];exact m
 rw[cJ k,cJ d] at h;have f:=A.nd.idxOf_getElem i k;have l:=A.nd.idxOf_getElem j d;rw[h] at f;exact f.symm.trans l
theorem bE.TW (h:a.length=n)(f: ∀i,i<n->a.getD i 0<n)(h2: ∀i j,i<n->j<n->a.getD i 0=a.getD j 0->i=j):bE n a:=by
 refine⟨h,?_,λx d=>?_⟩
 ·rw[List.nodup_iff_pairwise_ne,List.pairwise_iff_getElem]
  intro i j hi k l e;have:=h2 i j oq oq (by rw[cJ hi,cJ k];exact e);omega
 ·obtain⟨i,hi,rfl⟩:=List.mem_iff_getElem.1 d
  have:=f i oq;rwa [cJ hi] at this
theorem bE.mem (A:bE n a){p:Nat}(h:p<n):p∈a:=by
 refine Classical.byContradiction λj=>?_
 have d:(p::a).Nodup:=List.nodup_cons.2 ⟨j,A.nd⟩
 have k:(p::a) ⊆ List.range n:=λx f=>by
  rcases List.mem_cons.1 f with rfl|f
  ·exact List.mem_range.2 h
  ·exact List.mem_range.2 (A.lt x f)
 have:=List.Nodup.length_le_of_subset d k;have l:=A.len;simp only[List.length_cons,List.length_range] at this;omega
theorem bE.idx (A:bE n a){p:Nat}(d:p<n):a.idxOf p<n/\a.getD (a.idxOf p) 0=p:=by
 have h:=List.idxOf_lt_length_iff.2 (A.mem d);refine⟨by rw[←A.len];exact h,?_⟩;rw[cJ h,List.getElem_idxOf]
theorem eY (a b:List Nat):(aX a b).length=a.length:=by simp [aX]
theorem cM (hi:i<a.length):(aX a b).getD i 0=b.getD (a.getD i 0) 0:=by
 have h:i<(aX a b).length:=by rw[eY];exact hi
 rw[cJ h,cJ hi];simp [aX]
theorem jG (n:Nat):(bL n).length=n:=by simp [bL]
theorem fQ {n:Nat}(hi:i<n):(bL n).getD i 0=i:=by
 have h:i<(bL n).length:=by rw[jG];exact hi
 rw[cJ h];simp [bL]
theorem jQ (a:List Nat):(dA a).length=a.length:=by simp [dA]
theorem xI (hi:i<a.length):(dA a).getD i 0=a.idxOf i:=by
 have h:i<(dA a).length:=by rw[jQ];exact hi
 rw[cJ h];simp [dA]
theorem bE.one (n:Nat):bE n (bL n):=⟨jG n,List.nodup_range,λx d=>List.mem_range.1 d⟩
theorem bE.mul (A:bE n a)(B:bE n b):bE n (aX a b):=by
 refine bE.TW (by rw[eY,A.len]) (λi hi=>?_) (λi j hi d h=>?_)
 ·rw[cM (by rw[A.len];exact hi)];exact B.iN (A.iN hi)
 ·rw[cM (by rw[A.len];exact hi),cM (by rw[A.len];exact d)] at h
  exact A.inj hi d (B.inj (A.iN hi) (A.iN d) h)
theorem bE.inv (A:bE n a):bE n (dA a):=by
 refine bE.TW (by rw[jQ,A.len]) (λi hi=>?_) (λi j hi d h=>?_)
 ·rw[xI (by rw[A.len];exact hi)];exact (A.idx hi).1
 ·rw[xI (by rw[A.len];exact hi),xI (by rw[A.len];exact d)] at h
  rw[←(A.idx hi).2,←(A.idx d).2,h]
theorem aV (A:bE n a)(B:bE n b)(C:bE n c):aX (aX a b) c=aX a (aX b c):=by
 refine yC (by simp only[eY]) λi hi=>?_
 rw[eY,eY] at hi;have d:i<n:=by rw[←A.len];exact hi
 rw[cM (by rw[eY];exact hi),cM hi,cM hi,cM (by rw[B.len];exact A.iN d)]
theorem bZ (A:bE n a):aX a (bL n)=a:=by
 refine yC (eY _ _) λi hi=>?_
 rw[eY] at hi;rw[cM hi,fQ (A.iN (by rw[←A.len];exact hi))]
theorem mN (A:bE n a):aX (bL n) a=a:=by
 refine yC (by rw[eY,jG,A.len]) λi hi=>?_
 rw[eY,jG] at hi;rw[cM (by rw[jG];exact hi),fQ hi]
theorem fC (A:bE n a):aX a (dA a)=bL n:=by
 refine yC (by rw[eY,jG,A.len]) λi hi=>?_
 rw[eY] at hi;have d:i<n:=by rw[←A.len];exact hi
 rw[cM hi,fQ d,xI (by rw[A.len];exact A.iN d)];exact A.inj ((A.idx (A.iN d)).1) d ((A.idx (A.iN d)).2)
theorem iE (A:bE n a):aX (dA a) a=bL n:=by
 refine yC (by rw[eY,jG,jQ,A.len]) λi hi=>?_
 rw[eY,jQ] at hi;have d:i<n:=by rw[←A.len];exact hi
 rw[cM (by rw[jQ];exact hi),fQ d,xI hi];exact (A.idx d).2
theorem oJ (n:Nat):dA (bL n)=bL n:=by
 have:=fC (bE.one n);rwa [mN (bE.one n).inv] at this
theorem Tp (A:bE n a)(B:bE n b)(C:bE n c)(h:aX a c=aX b c):a=b:=by
 have:=congrArg (λx=>aX x (dA c)) h
 try simp only at this
 rwa [aV A C C.inv,aV B C C.inv,fC C,bZ A,bZ B] at this
theorem zN (A:bE n a)(B:bE n b)(C:bE n c)(h:aX c a=aX c b):a=b:=by
 have:=congrArg (λx=>aX (dA c) x) h
 try simp only at this
 rwa [←aV C.inv C A,←aV C.inv C B,iE C,mN A,mN B] at this
theorem Nr (A:bE n a)(B:bE n b):dA (aX a b)=aX (dA b) (dA a):=by
 refine zN (A.mul B).inv (B.inv.mul A.inv) (A.mul B) ?_;rw[fC (A.mul B),aV A B (B.inv.mul A.inv),←aV B B.inv A.inv,fC B,mN A.inv,fC A]
theorem afU (A:bE n a)(hi:i<n):(dA a).getD (a.getD i 0) 0=i:=by
 have:=congrArg (λx=>x.getD i 0) (fC A)
 try simp only at this
 rwa [cM (by rw[A.len];exact hi),fQ hi] at this
structure iX (n:Nat)(G:List Nat->Prop):Prop where
 cU: ∀{x},G x->bE n x
 one:G (bL n)
 mul: ∀{x y},G x->G y->G (aX x y)
 inv: ∀{x},G x->G (dA x)
def pw (n:Nat)(x:List Nat):Nat->List Nat
 |0=>bL n
 |k+1=>aX (pw n x k) x
theorem rM (A:bE n a): ∀k,bE n (pw n a k)
 |0=>bE.one n
 |k+1=>(rM A k).mul A
theorem RW (A:bE n a)(i:Nat): ∀j,pw n a (i+j)=aX (pw n a i) (pw n a j)
 |0=>(bZ (rM A i)).symm
 |j+1=>by
  show aX (pw n a (i+j)) a=aX (pw n a i) (aX (pw n a j) a);rw[RW A i j,aV (rM A i) (rM A j) A]
def Eo (n:Nat):Nat->zI
 |0=> [[]]
 |k+1=>(List.range n).flatMap λx=>(Eo n k).map (x:: ·)
theorem akG (n:Nat): ∀k,(Eo n k).length=n^k
 |0=>rfl
 |k+1=>by
  simp only[Eo,List.length_flatMap,List.length_map,akG n k]
  have: ∀m c:Nat,((List.range m).map λ_=>c).sum=m*c:=by
   intro m c
   induction m with
   |zero=>simp
   |succ m ih=>rw[List.range_succ,List.map_append,List.sum_append,ih];simp [Nat.succ_mul]
  rw[this,Nat.pow_succ,Nat.mul_comm]
theorem yJ (n:Nat): ∀(k:Nat) (l:List Nat),l.length=k->(∀x∈l,x<n)->l∈Eo n k
 |0, [],_,_=>by simp [Eo]
 |0,_::_,h,_=>by simp at h
 |k+1, [],h,_=>by simp at h
 |k+1,x::l,h,hx=>by
  simp only[Eo,List.mem_flatMap,List.mem_map];exact⟨x,List.mem_range.2 (hx x (by simp)),l,yJ n k l (by simpa using h) (λy d=>hx y (by simp [d])),rfl⟩
theorem bE.yJ (A:bE n a):a∈Eo n n:=Go.Pm.yJ n n a A.len A.lt
theorem Be {l:zI}(d:l.Nodup)(h: ∀x∈l,bE n x):l.length<=n^n:=by
 rw[←akG n n];exact List.Nodup.length_le_of_subset d λx f=>(h x f).yJ
theorem Wi (A:bE n a): ∃k,0<k/\k<=n^n/\pw n a k=bL n:=by
 have h: ∃i j,i<j/\j<=n^n/\pw n a i=pw n a j:=by
  refine Classical.byContradiction λp=>?_
  have f:((List.range (n^n+1)).map (pw n a)).Nodup:=by
   rw[List.nodup_iff_pairwise_ne,List.pairwise_iff_getElem];intro i j hi l d e;simp only[List.length_map,List.length_range] at hi l;simp only[List.getElem_map,List.getElem_range] at e;exact p ⟨i,j,d,oq,e⟩
  have:=Be f (n:=n) (λx o=>by
   obtain⟨i,_,rfl⟩:=List.mem_map.1 o
   exact rM A i)
  simp only[List.length_map,List.length_range] at this;omega
 obtain⟨i,j,d,l,e⟩:=h;refine⟨j-i,oq,oq,?_⟩;have m:pw n a j=aX (pw n a i) (pw n a (j-i)):=by rw[←RW A,show i+(j-i)=j from oq]
 refine zN (rM A (j-i)) (bE.one n) (rM A i) ?_;rw[←m,bZ (rM A i),e]
inductive bX (n:Nat) (L:List Nat->Prop):List Nat->Prop where
 |one:bX n L (bL n)
 |mul {x g:List Nat}:bX n L x->L g->bX n L (aX x g)
variable {L M:List Nat->Prop}
theorem bX.cU (d: ∀g,L g->bE n g)(h:bX n L x):bE n x:=by
 induction h with
 |one=>exact bE.one n
 |mul _ hg ih=>exact ih.mul (d _ hg)
theorem bX.of (d: ∀g,L g->bE n g){g:List Nat}(h:L g):bX n L g:=by
 have:=bX.mul (n:=n) bX.one h;rwa [mN (d g h)] at this
theorem bX.app (d: ∀g,L g->bE n g){y:List Nat}(h:bX n L x)(f:bX n L y):bX n L (aX x y):=by
 induction f with
 |one=>rwa [bZ (h.cU d)]
 |mul f hg ih=>rw[←aV (h.cU d) (f.cU d) (d _ hg)];exact ih.mul hg
theorem bX.pow (d: ∀g,L g->bE n g)(f:bX n L x): ∀k,bX n L (pw n x k)
 |0=> .one
 |k+1=>(bX.pow d f k).app d f
theorem bX.inv (f: ∀g,L g->bE n g)(d:bX n L x):bX n L (dA x):=by
 have A:=d.cU f;obtain⟨k,j,_,h⟩:=Wi A
 have e:dA x=pw n x (k- 1):=by
  refine Tp A.inv (rM A _) A ?_;rw[iE A];show _=pw n x (k- 1+1);rw[show k- 1+1=k from oq,h]
 rw[e];exact d.pow f _
theorem bX.dN (d: ∀g,L g->bE n g):iX n (bX n L):=⟨λh=>h.cU d,.one,λh k=>h.app d k,λh=>h.inv d⟩
theorem bX.le {G:List Nat->Prop}(d:iX n G)(h: ∀g,L g->G g)(f:bX n L x):G x:=by
 induction f with
 |one=>exact d.one
 |mul _ hg ih=>exact d.mul ih (h _ hg)
theorem bX.mono (h: ∀g,L g->M g)(d:bX n L x):bX n M x:=by
 induction d with
 |one=>exact .one
 |mul _ hg ih=>exact ih.mul (h _ hg)
end
end
end Go.Pm
