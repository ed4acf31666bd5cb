/- Permutations as lists of numbers: products, inverses. -/
namespace Go.Pm
section
variable {i:Nat} {x:List Nat}
abbrev Al:=List (List Nat)
abbrev TH:=List (List (List Nat))
theorem oq {p:Prop}(h:p:=by omega):p:=h
structure aY (n:Nat)(a:List Nat):Prop where
 len:a.length=n
 nd:a.Nodup
 lt: ∀x∈a,x<n
abbrev at' (a:List Nat)(i:Nat):Nat:=a.getD i 0
def aM (a b:List Nat):List Nat:=a.map λp=>b.getD p 0
def aX (n:Nat):List Nat:=List.range n
def bZ (a:List Nat):List Nat:=(List.range a.length).map λj=>a.idxOf j
theorem cW {a:List Nat}(h:i<a.length):a.getD i 0=a[i]:=by simp [List.getD,h]
theorem uZ {a b:List Nat}(d:a.length=b.length)(h: ∀i,i<a.length->a.getD i 0=b.getD i 0):a=b:=by
 refine List.ext_getElem d λi c e=>?_
 have:=h i c;rwa [cW c,cW e] at this
section
variable {n:Nat} {a b c:List Nat}
theorem aY.fX (A:aY n a)(hi:i<n):a.getD i 0<n:=by
 have h:i<a.length:=by rw[A.len];exact hi
 rw[cW h];exact A.lt _ (List.getElem_mem h)
theorem aY.inj (A:aY n a){j:Nat}(hi:i<n)(g:j<n)(h:a.getD i 0=a.getD j 0):i=j:=by
 have d:i<a.length:=by rw[A.len];exact hi
 have e:j<a.length:=by rw[A.len];exact g
 rw[cW d,cW e] at h;have f:=A.nd.idxOf_getElem i d;have k:=A.nd.idxOf_getElem j e;rw[h] at f;exact f.symm.trans k
theorem aY.Us (g:a.length=n)(d: ∀i,i<n->a.getD i 0<n)(h2: ∀i j,i<n->j<n->a.getD i 0=a.getD j 0->i=j):aY n a:=by
 refine⟨g,?_,λx h=>?_⟩
 ·rw[List.nodup_iff_pairwise_ne,List.pairwise_iff_getElem]
  intro i j hi f k e;have:=h2 i j oq oq (by rw[cW hi,cW f];exact e);omega
 ·obtain⟨i,hi,rfl⟩:=List.mem_iff_getElem.1 h
  have:=d i oq;rwa [cW hi] at this
theorem aY.mem (A:aY n a){p:Nat}(g:p<n):p∈a:=by
 refine Classical.byContradiction λf=>?_
 have d:(p::a).Nodup:=List.nodup_cons.2 ⟨f,A.nd⟩
 have h:(p::a) ⊆ List.range n:=λx e=>by
  rcases List.mem_cons.1 e with rfl|e
  ·exact List.mem_range.2 g
  ·exact List.mem_range.2 (A.lt x e)
 have:=List.Nodup.length_le_of_subset d h;have j:=A.len;simp only[List.length_cons,List.length_range] at this;omega
theorem aY.idx (A:aY n a){p:Nat}(d:p<n):a.idxOf p<n/\a.getD (a.idxOf p) 0=p:=by
 have h:=List.idxOf_lt_length_iff.2 (A.mem d);refine⟨by rw[←A.len];exact h,?_⟩;rw[cW h,List.getElem_idxOf]
theorem fQ (a b:List Nat):(aM a b).length=a.length:=by simp [aM]
theorem dE (hi:i<a.length):(aM a b).getD i 0=b.getD (a.getD i 0) 0:=by
 have h:i<(aM a b).length:=by rw[fQ];exact hi
 rw[cW h,cW hi];simp [aM]
theorem iH (n:Nat):(aX n).length=n:=by simp [aX]
theorem fM {n:Nat}(hi:i<n):(aX n).getD i 0=i:=by
 have h:i<(aX n).length:=by rw[iH];exact hi
 rw[cW h];simp [aX]
theorem jU (a:List Nat):(bZ a).length=a.length:=by simp [bZ]
theorem zL (hi:i<a.length):(bZ a).getD i 0=a.idxOf i:=by
 have h:i<(bZ a).length:=by rw[jU];exact hi
 rw[cW h];simp [bZ]
theorem aY.one (n:Nat):aY n (aX n):=⟨iH n,List.nodup_range,λx d=>List.mem_range.1 d⟩
theorem aY.mul (A:aY n a)(B:aY n b):aY n (aM a b):=by
 refine aY.Us (by rw[fQ,A.len]) (λi hi=>?_) (λi j hi d h=>?_)
 ·rw[dE (by rw[A.len];exact hi)];exact B.fX (A.fX hi)
 ·rw[dE (by rw[A.len];exact hi),dE (by rw[A.len];exact d)] at h
  exact A.inj hi d (B.inj (A.fX hi) (A.fX d) h)
theorem aY.inv (A:aY n a):aY n (bZ a):=by
 refine aY.Us (by rw[jU,A.len]) (λi hi=>?_) (λi j hi d h=>?_)
 ·rw[zL (by rw[A.len];exact hi)];exact (A.idx hi).1
 ·rw[zL (by rw[A.len];exact hi),zL (by rw[A.len];exact d)] at h
  rw[←(A.idx hi).2,←(A.idx d).2,h]
theorem aG (A:aY n a)(B:aY n b)(C:aY n c):aM (aM a b) c=aM a (aM b c):=by
 refine uZ (by simp only[fQ]) λi hi=>?_
 rw[fQ,fQ] at hi;have d:i<n:=by rw[←A.len];exact hi
 rw[dE (by rw[fQ];exact hi),dE hi,dE hi,dE (by rw[B.len];exact A.fX d)]
theorem aZ (A:aY n a):aM a (aX n)=a:=by
 refine uZ (fQ _ _) λi hi=>?_
 rw[fQ] at hi;rw[dE hi,fM (A.fX (by rw[←A.len];exact hi))]
theorem bX (A:aY n a):aM (aX n) a=a:=by
 refine uZ (by rw[fQ,iH,A.len]) λi hi=>?_
 rw[fQ,iH] at hi;rw[dE (by rw[iH];exact hi),fM hi]
theorem cG (A:aY n a):aM a (bZ a)=aX n:=by
 refine uZ (by rw[fQ,iH,A.len]) λi hi=>?_
 rw[fQ] at hi;have d:i<n:=by rw[←A.len];exact hi
 rw[dE hi,fM d,zL (by rw[A.len];exact A.fX d)];exact A.inj ((A.idx (A.fX d)).1) d ((A.idx (A.fX d)).2)
theorem dL (A:aY n a):aM (bZ a) a=aX n:=by
 refine uZ (by rw[fQ,iH,jU,A.len]) λi hi=>?_
 rw[fQ,jU] at hi;have d:i<n:=by rw[←A.len];exact hi
 rw[dE (by rw[jU];exact hi),fM d,zL hi];exact (A.idx d).2
theorem oX (n:Nat):bZ (aX n)=aX n:=by
 have:=cG (aY.one n);rwa [bX (aY.one n).inv] at this
theorem Vn (A:aY n a)(B:aY n b)(C:aY n c)(h:aM a c=aM b c):a=b:=by
 have:=congrArg (λx=>aM x (bZ c)) h
 try simp only at this
 rwa [aG A C C.inv,aG B C C.inv,cG C,aZ A,aZ B] at this
theorem Bg (A:aY n a)(B:aY n b)(C:aY n c)(h:aM c a=aM c b):a=b:=by
 have:=congrArg (λx=>aM (bZ c) x) h
 try simp only at this
 rwa [←aG C.inv C A,←aG C.inv C B,dL C,bX A,bX B] at this
theorem Av (A:aY n a)(B:aY n b):bZ (aM a b)=aM (bZ b) (bZ a):=by
 refine Bg (A.mul B).inv (B.inv.mul A.inv) (A.mul B) ?_;rw[cG (A.mul B),aG A B (B.inv.mul A.inv),←aG B B.inv A.inv,cG B,bX A.inv,cG A]
theorem wY (A:aY n a)(hi:i<n):(bZ a).getD (a.getD i 0) 0=i:=by
 have:=congrArg (λx=>x.getD i 0) (cG A)
 try simp only at this
 rwa [dE (by rw[A.len];exact hi),fM hi] at this
structure dO (n:Nat)(G:List Nat->Prop):Prop where
 bF: ∀{x},G x->aY n x
 one:G (aX n)
 mul: ∀{x y},G x->G y->G (aM x y)
 inv: ∀{x},G x->G (bZ x)
def pw (n:Nat)(x:List Nat):Nat->List Nat
 |0=>aX n
 |k+1=>aM (pw n x k) x
theorem iE (A:aY n a): ∀k,aY n (pw n a k)
 |0=>aY.one n
 |k+1=>(iE A k).mul A
theorem Fy (A:aY n a)(i:Nat): ∀j,pw n a (i+j)=aM (pw n a i) (pw n a j)
 |0=>(aZ (iE A i)).symm
 |j+1=>by
  show aM (pw n a (i+j)) a=aM (pw n a i) (aM (pw n a j) a);rw[Fy A i j,aG (iE A i) (iE A j) A]
def Ch (n:Nat):Nat->Al
 |0=> [[]]
 |k+1=>(List.range n).flatMap λx=>(Ch n k).map (x:: ·)
theorem Ot (n:Nat): ∀k,(Ch n k).length=n^k
 |0=>rfl
 |k+1=>by
  simp only[Ch,List.length_flatMap,List.length_map,Ot n k]
  have: ∀m c:Nat,((List.range m).map λ_=>c).sum=m*c:=by
   intro m c
   induction m with
   |zero=>simp
   |succ m ih=>rw[List.range_succ,List.map_append,List.sum_append,ih];simp [Nat.succ_mul]
  rw[this,Nat.pow_succ,Nat.mul_comm]
theorem uB (n:Nat): ∀(k:Nat) (l:List Nat),l.length=k->(∀x∈l,x<n)->l∈Ch n k
 |0, [],_,_=>by simp [Ch]
 |0,_::_,h,_=>by simp at h
 |k+1, [],h,_=>by simp at h
 |k+1,x::l,h,hx=>by
  simp only[Ch,List.mem_flatMap,List.mem_map];exact⟨x,List.mem_range.2 (hx x (by simp)),l,uB n k l (by simpa using h) (λy d=>hx y (by simp [d])),rfl⟩
theorem aY.uB (A:aY n a):a∈Ch n n:=Go.Pm.uB n n a A.len A.lt
theorem Cu {l:Al}(f:l.Nodup)(d: ∀x∈l,aY n x):l.length<=n^n:=by
 rw[←Ot n n];exact List.Nodup.length_le_of_subset f λx e=>(d x e).uB
theorem Oc (A:aY n a): ∃k,0<k/\k<=n^n/\pw n a k=aX n:=by
 have h: ∃i j,i<j/\j<=n^n/\pw n a i=pw n a j:=by
  refine Classical.byContradiction λl=>?_
  have f:((List.range (n^n+1)).map (pw n a)).Nodup:=by
   rw[List.nodup_iff_pairwise_ne,List.pairwise_iff_getElem];intro i j hi g d e;simp only[List.length_map,List.length_range] at hi g;simp only[List.getElem_map,List.getElem_range] at e;exact l ⟨i,j,d,oq,e⟩
  have:=Cu f (n:=n) (λx m=>by
   obtain⟨i,_,rfl⟩:=List.mem_map.1 m
   exact iE A i)
  simp only[List.length_map,List.length_range] at this;omega
 obtain⟨i,j,d,g,e⟩:=h;refine⟨j-i,oq,oq,?_⟩;have o:pw n a j=aM (pw n a i) (pw n a (j-i)):=by rw[←Fy A,show i+(j-i)=j from oq]
 refine Bg (iE A (j-i)) (aY.one n) (iE A i) ?_;rw[←o,aZ (iE A i),e]
inductive bM (n:Nat) (L:List Nat->Prop):List Nat->Prop where
 |one:bM n L (aX n)
 |mul {x g:List Nat}:bM n L x->L g->bM n L (aM x g)
variable {L M:List Nat->Prop}
theorem bM.bF (d: ∀g,L g->aY n g)(h:bM n L x):aY n x:=by
 induction h with
 |one=>exact aY.one n
 |mul _ hg ih=>exact ih.mul (d _ hg)
theorem bM.of (d: ∀g,L g->aY n g){g:List Nat}(h:L g):bM n L g:=by
 have:=bM.mul (n:=n) bM.one h;rwa [bX (d g h)] at this
theorem bM.app (d: ∀g,L g->aY n g){y:List Nat}(f:bM n L x)(e:bM n L y):bM n L (aM x y):=by
 induction e with
 |one=>rwa [aZ (f.bF d)]
 |mul e hg ih=>rw[←aG (f.bF d) (e.bF d) (d _ hg)];exact ih.mul hg
theorem bM.pow (d: ∀g,L g->aY n g)(e:bM n L x): ∀k,bM n L (pw n x k)
 |0=> .one
 |k+1=>(bM.pow d e k).app d e
theorem bM.inv (d: ∀g,L g->aY n g)(f:bM n L x):bM n L (bZ x):=by
 have A:=f.bF d;obtain⟨k,j,_,h⟩:=Oc A
 have e:bZ x=pw n x (k- 1):=by
  refine Vn A.inv (iE A _) A ?_;rw[dL A];show _=pw n x (k- 1+1);rw[show k- 1+1=k from oq,h]
 rw[e];exact f.pow d _
theorem bM.cY (d: ∀g,L g->aY n g):dO n (bM n L):=⟨λh=>h.bF d,.one,λh k=>h.app d k,λh=>h.inv d⟩
theorem bM.le {G:List Nat->Prop}(d:dO n G)(h: ∀g,L g->G g)(e:bM n L x):G x:=by
 induction e with
 |one=>exact d.one
 |mul _ hg ih=>exact d.mul ih (h _ hg)
theorem bM.mono (h: ∀g,L g->M g)(d:bM n L x):bM n M x:=by
 induction d with
 |one=>exact .one
 |mul _ hg ih=>exact ih.mul (h _ hg)
end
end
end Go.Pm
