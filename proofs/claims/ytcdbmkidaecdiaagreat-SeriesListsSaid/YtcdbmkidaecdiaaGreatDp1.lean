/- Permutations as lists of numbers: products, inverses. -/
namespace Go.Pm
section
variable {i:Nat} {x:List Nat}
abbrev zJ:=List (List Nat)
abbrev QC:=List (List (List Nat))
theorem oq {p:Prop}(h:p:=by omega):p:=h
structure bC (n:Nat)(a:List Nat):Prop where
 len:a.length=n
 nd:a.Nodup
 lt: ∀x∈a,x<n
abbrev at' (a:List Nat)(i:Nat):Nat:=a.getD i 0
def aX (a b:List Nat):List Nat:=a.map λp=>b.getD p 0
def bT (n:Nat):List Nat:=List.range n
def cY (a:List Nat):List Nat:=(List.range a.length).map λj=>a.idxOf j
theorem cL {a:List Nat}(h:i<a.length):a.getD i 0=a[i]:=by simp [List.getD,h]
theorem yM {a b:List Nat}(d:a.length=b.length)(h: ∀i,i<a.length->a.getD i 0=b.getD i 0):a=b:=by
 refine List.ext_getElem d λi c e=>?_
 have:=h i c;rwa [cL c,cL e] at this
section
variable {n:Nat} {a b c:List Nat}
theorem bC.gW (A:bC n a)(hi:i<n):a.getD i 0<n:=by
 have h:i<a.length:=by rw[A.len];exact hi
 rw[cL h];exact A.lt _ (List.getElem_mem h)
theorem bC.inj (A:bC n a){j:Nat}(hi:i<n)(k:j<n)(h:a.getD i 0=a.getD j 0):i=j:=by
 have d:i<a.length:=by rw[A.len];exact hi
 have e:j<a.length:=by rw[A.len];exact k
 rw[cL d,cL e] at h;have f:=A.nd.idxOf_getElem i d;have g:=A.nd.idxOf_getElem j e;rw[h] at f;exact f.symm.trans g
theorem bC.UR (f:a.length=n)(d: ∀i,i<n->a.getD i 0<n)(h2: ∀i j,i<n->j<n->a.getD i 0=a.getD j 0->i=j):bC n a:=by
 refine⟨f,?_,λx k=>?_⟩
 ·rw[List.nodup_iff_pairwise_ne,List.pairwise_iff_getElem]
  intro i j hi g h e;have:=h2 i j oq oq (by rw[cL hi,cL g];exact e);omega
 ·obtain⟨i,hi,rfl⟩:=List.mem_iff_getElem.1 k
  have:=d i oq;rwa [cL hi] at this
theorem bC.mem (A:bC n a){p:Nat}(h:p<n):p∈a:=by
 refine Classical.byContradiction λg=>?_
 have e:(p::a).Nodup:=List.nodup_cons.2 ⟨g,A.nd⟩
 have f:(p::a) ⊆ List.range n:=λx d=>by
  rcases List.mem_cons.1 d with rfl|d
  ·exact List.mem_range.2 h
  ·exact List.mem_range.2 (A.lt x d)
 have:=List.Nodup.length_le_of_subset e f;have j:=A.len;simp only[List.length_cons,List.length_range] at this;omega
theorem bC.idx (A:bC n a){p:Nat}(d:p<n):a.idxOf p<n/\a.getD (a.idxOf p) 0=p:=by
 have h:=List.idxOf_lt_length_iff.2 (A.mem d);refine⟨by rw[←A.len];exact h,?_⟩;rw[cL h,List.getElem_idxOf]
theorem eV (a b:List Nat):(aX a b).length=a.length:=by simp [aX]
theorem cM (hi:i<a.length):(aX a b).getD i 0=b.getD (a.getD i 0) 0:=by
 have h:i<(aX a b).length:=by rw[eV];exact hi
 rw[cL h,cL hi];simp [aX]
theorem iU (n:Nat):(bT n).length=n:=by simp [bT]
theorem fF {n:Nat}(hi:i<n):(bT n).getD i 0=i:=by
 have h:i<(bT n).length:=by rw[iU];exact hi
 rw[cL h];simp [bT]
theorem iR (a:List Nat):(cY a).length=a.length:=by simp [cY]
theorem yD (hi:i<a.length):(cY a).getD i 0=a.idxOf i:=by
 have h:i<(cY a).length:=by rw[iR];exact hi
 rw[cL h];simp [cY]
theorem bC.one (n:Nat):bC n (bT n):=⟨iU n,List.nodup_range,λx d=>List.mem_range.1 d⟩
theorem bC.mul (A:bC n a)(B:bC n b):bC n (aX a b):=by
 refine bC.UR (by rw[eV,A.len]) (λi hi=>?_) (λi j hi d h=>?_)
 ·rw[cM (by rw[A.len];exact hi)];exact B.gW (A.gW hi)
 ·rw[cM (by rw[A.len];exact hi),cM (by rw[A.len];exact d)] at h
  exact A.inj hi d (B.inj (A.gW hi) (A.gW d) h)
theorem bC.inv (A:bC n a):bC n (cY a):=by
 refine bC.UR (by rw[iR,A.len]) (λi hi=>?_) (λi j hi d h=>?_)
 ·rw[yD (by rw[A.len];exact hi)];exact (A.idx hi).1
 ·rw[yD (by rw[A.len];exact hi),yD (by rw[A.len];exact d)] at h
  rw[←(A.idx hi).2,←(A.idx d).2,h]
theorem aV (A:bC n a)(B:bC n b)(C:bC n c):aX (aX a b) c=aX a (aX b c):=by
 refine yM (by simp only[eV]) λi hi=>?_
 rw[eV,eV] at hi;have d:i<n:=by rw[←A.len];exact hi
 rw[cM (by rw[eV];exact hi),cM hi,cM hi,cM (by rw[B.len];exact A.gW d)]
theorem cE (A:bC n a):aX a (bT n)=a:=by
 refine yM (eV _ _) λi hi=>?_
 rw[eV] at hi;rw[cM hi,fF (A.gW (by rw[←A.len];exact hi))]
theorem eD (A:bC n a):aX (bT n) a=a:=by
 refine yM (by rw[eV,iU,A.len]) λi hi=>?_
 rw[eV,iU] at hi;rw[cM (by rw[iU];exact hi),fF hi]
theorem fQ (A:bC n a):aX a (cY a)=bT n:=by
 refine yM (by rw[eV,iU,A.len]) λi hi=>?_
 rw[eV] at hi;have d:i<n:=by rw[←A.len];exact hi
 rw[cM hi,fF d,yD (by rw[A.len];exact A.gW d)];exact A.inj ((A.idx (A.gW d)).1) d ((A.idx (A.gW d)).2)
theorem gG (A:bC n a):aX (cY a) a=bT n:=by
 refine yM (by rw[eV,iU,iR,A.len]) λi hi=>?_
 rw[eV,iR] at hi;have d:i<n:=by rw[←A.len];exact hi
 rw[cM (by rw[iR];exact hi),fF d,yD hi];exact (A.idx d).2
theorem nY (n:Nat):cY (bT n)=bT n:=by
 have:=fQ (bC.one n);rwa [eD (bC.one n).inv] at this
theorem Ws (A:bC n a)(B:bC n b)(C:bC n c)(h:aX a c=aX b c):a=b:=by
 have:=congrArg (λx=>aX x (cY c)) h
 try simp only at this
 rwa [aV A C C.inv,aV B C C.inv,fQ C,cE A,cE B] at this
theorem Ah (A:bC n a)(B:bC n b)(C:bC n c)(h:aX c a=aX c b):a=b:=by
 have:=congrArg (λx=>aX (cY c) x) h
 try simp only at this
 rwa [←aV C.inv C A,←aV C.inv C B,gG C,eD A,eD B] at this
theorem Np (A:bC n a)(B:bC n b):cY (aX a b)=aX (cY b) (cY a):=by
 refine Ah (A.mul B).inv (B.inv.mul A.inv) (A.mul B) ?_;rw[fQ (A.mul B),aV A B (B.inv.mul A.inv),←aV B B.inv A.inv,fQ B,eD A.inv,fQ A]
theorem sW (A:bC n a)(hi:i<n):(cY a).getD (a.getD i 0) 0=i:=by
 have:=congrArg (λx=>x.getD i 0) (fQ A)
 try simp only at this
 rwa [cM (by rw[A.len];exact hi),fF hi] at this
structure iJ (n:Nat)(G:List Nat->Prop):Prop where
 cX: ∀{x},G x->bC n x
 one:G (bT n)
 mul: ∀{x y},G x->G y->G (aX x y)
 inv: ∀{x},G x->G (cY x)
def pw (n:Nat)(x:List Nat):Nat->List Nat
 |0=>bT n
 |k+1=>aX (pw n x k) x
theorem rQ (A:bC n a): ∀k,bC n (pw n a k)
 |0=>bC.one n
 |k+1=>(rQ A k).mul A
theorem WN (A:bC n a)(i:Nat): ∀j,pw n a (i+j)=aX (pw n a i) (pw n a j)
 |0=>(cE (rQ A i)).symm
 |j+1=>by
  show aX (pw n a (i+j)) a=aX (pw n a i) (aX (pw n a j) a);rw[WN A i j,aV (rQ A i) (rQ A j) A]
def Ds (n:Nat):Nat->zJ
 |0=> [[]]
 |k+1=>(List.range n).flatMap λx=>(Ds n k).map (x:: ·)
theorem Ni (n:Nat): ∀k,(Ds n k).length=n^k
 |0=>rfl
 |k+1=>by
  simp only[Ds,List.length_flatMap,List.length_map,Ni n k]
  have: ∀m c:Nat,((List.range m).map λ_=>c).sum=m*c:=by
   intro m c
   induction m with
   |zero=>simp
   |succ m ih=>rw[List.range_succ,List.map_append,List.sum_append,ih];simp [Nat.succ_mul]
  rw[this,Nat.pow_succ,Nat.mul_comm]
theorem yI (n:Nat): ∀(k:Nat) (l:List Nat),l.length=k->(∀x∈l,x<n)->l∈Ds n k
 |0, [],_,_=>by simp [Ds]
 |0,_::_,h,_=>by simp at h
 |k+1, [],h,_=>by simp at h
 |k+1,x::l,h,hx=>by
  simp only[Ds,List.mem_flatMap,List.mem_map];exact⟨x,List.mem_range.2 (hx x (by simp)),l,yI n k l (by simpa using h) (λy d=>hx y (by simp [d])),rfl⟩
theorem bC.yI (A:bC n a):a∈Ds n n:=Go.Pm.yI n n a A.len A.lt
theorem Bc {l:zJ}(e:l.Nodup)(d: ∀x∈l,bC n x):l.length<=n^n:=by
 rw[←Ni n n];exact List.Nodup.length_le_of_subset e λx f=>(d x f).yI
theorem Wm (A:bC n a): ∃k,0<k/\k<=n^n/\pw n a k=bT n:=by
 have h: ∃i j,i<j/\j<=n^n/\pw n a i=pw n a j:=by
  refine Classical.byContradiction λo=>?_
  have f:((List.range (n^n+1)).map (pw n a)).Nodup:=by
   rw[List.nodup_iff_pairwise_ne,List.pairwise_iff_getElem];intro i j hi g d e;simp only[List.length_map,List.length_range] at hi g;simp only[List.getElem_map,List.getElem_range] at e;exact o ⟨i,j,d,oq,e⟩
  have:=Bc f (n:=n) (λx l=>by
   obtain⟨i,_,rfl⟩:=List.mem_map.1 l
   exact rQ A i)
  simp only[List.length_map,List.length_range] at this;omega
 obtain⟨i,j,d,g,e⟩:=h;refine⟨j-i,oq,oq,?_⟩;have m:pw n a j=aX (pw n a i) (pw n a (j-i)):=by rw[←WN A,show i+(j-i)=j from oq]
 refine Ah (rQ A (j-i)) (bC.one n) (rQ A i) ?_;rw[←m,cE (rQ A i),e]
inductive cG (n:Nat) (L:List Nat->Prop):List Nat->Prop where
 |one:cG n L (bT n)
 |mul {x g:List Nat}:cG n L x->L g->cG n L (aX x g)
variable {L M:List Nat->Prop}
theorem cG.cX (d: ∀g,L g->bC n g)(h:cG n L x):bC n x:=by
 induction h with
 |one=>exact bC.one n
 |mul _ hg ih=>exact ih.mul (d _ hg)
theorem cG.of (d: ∀g,L g->bC n g){g:List Nat}(h:L g):cG n L g:=by
 have:=cG.mul (n:=n) cG.one h;rwa [eD (d g h)] at this
theorem cG.app (d: ∀g,L g->bC n g){y:List Nat}(f:cG n L x)(e:cG n L y):cG n L (aX x y):=by
 induction e with
 |one=>rwa [cE (f.cX d)]
 |mul e hg ih=>rw[←aV (f.cX d) (e.cX d) (d _ hg)];exact ih.mul hg
theorem cG.pow (d: ∀g,L g->bC n g)(e:cG n L x): ∀k,cG n L (pw n x k)
 |0=> .one
 |k+1=>(cG.pow d e k).app d e
theorem cG.inv (f: ∀g,L g->bC n g)(d:cG n L x):cG n L (cY x):=by
 have A:=d.cX f;obtain⟨k,j,_,h⟩:=Wm A
 have e:cY x=pw n x (k- 1):=by
  refine Ws A.inv (rQ A _) A ?_;rw[gG A];show _=pw n x (k- 1+1);rw[show k- 1+1=k from oq,h]
 rw[e];exact d.pow f _
theorem cG.dH (d: ∀g,L g->bC n g):iJ n (cG n L):=⟨λh=>h.cX d,.one,λh k=>h.app d k,λh=>h.inv d⟩
theorem cG.le {G:List Nat->Prop}(d:iJ n G)(h: ∀g,L g->G g)(e:cG n L x):G x:=by
 induction e with
 |one=>exact d.one
 |mul _ hg ih=>exact d.mul ih (h _ hg)
theorem cG.mono (h: ∀g,L g->M g)(d:cG n L x):cG n M x:=by
 induction d with
 |one=>exact .one
 |mul _ hg ih=>exact ih.mul (h _ hg)
end
end
end Go.Pm
