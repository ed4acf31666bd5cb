/- Permutations as lists of numbers: products, inverses. -/
namespace Go.Pm
abbrev Dx:=List (List Nat)
abbrev LpN:=List (List (List Nat))
structure bM (n:Nat)(a:List Nat):Prop where
 len:a.length=n
 nd:a.Nodup
 lt: ∀x∈a,x<n
abbrev at' (a:List Nat)(i:Nat):Nat:=a.getD i 0
def bD (a b:List Nat):List Nat:=a.map λp=>b.getD p 0
def bZ (n:Nat):List Nat:=List.range n
def eN (a:List Nat):List Nat:=(List.range a.length).map λj=>a.idxOf j
theorem bV {a:List Nat}{i:Nat}(h:i<a.length):a.getD i 0=a[i]:=by simp [List.getD,h]
theorem xL {a b:List Nat}(hl:a.length=b.length)(h: ∀i,i<a.length->a.getD i 0=b.getD i 0):a=b:=by
 refine List.ext_getElem hl λi h1 h2=>?_
 have:=h i h1
 rwa [bV h1,bV h2] at this
section
variable {n:Nat} {a b c:List Nat}
theorem bM.eM (A:bM n a){i:Nat}(hi:i<n):a.getD i 0<n:=by
 have h:i<a.length:=by rw[A.len];exact hi
 rw[bV h];exact A.lt _ (List.getElem_mem h)
theorem bM.inj (A:bM n a){i j:Nat}(hi:i<n)(hj:j<n)(h:a.getD i 0=a.getD j 0):i=j:=by
 have h1:i<a.length:=by rw[A.len];exact hi
 have h2:j<a.length:=by rw[A.len];exact hj
 rw[bV h1,bV h2] at h
 have e1:=A.nd.idxOf_getElem i h1
 have e2:=A.nd.idxOf_getElem j h2
 rw[h] at e1
 exact e1.symm.trans e2
theorem bM.EL (hl:a.length=n)(h1: ∀i,i<n->a.getD i 0<n)(h2: ∀i j,i<n->j<n->a.getD i 0=a.getD j 0->i=j):bM n a:=by
 refine⟨hl,?_,λx hx=>?_⟩
 ·rw[List.nodup_iff_pairwise_ne,List.pairwise_iff_getElem]
  intro i j hi hj hij e
  have:=h2 i j (by omega) (by omega) (by rw[bV hi,bV hj];exact e)
  omega
 ·obtain⟨i,hi,rfl⟩:=List.mem_iff_getElem.1 hx
  have:=h1 i (by omega)
  rwa [bV hi] at this
theorem bM.mem (A:bM n a){p:Nat}(hp:p<n):p∈a:=by
 refine Classical.byContradiction λhn=>?_
 have hnd:(p::a).Nodup:=List.nodup_cons.2 ⟨hn,A.nd⟩
 have hs:(p::a) ⊆ List.range n:=λx hx=>by
  rcases List.mem_cons.1 hx with rfl|hx
  ·exact List.mem_range.2 hp
  ·exact List.mem_range.2 (A.lt x hx)
 have:=List.Nodup.length_le_of_subset hnd hs
 have hl:=A.len
 simp only[List.length_cons,List.length_range] at this
 omega
theorem bM.idx (A:bM n a){p:Nat}(hp:p<n):a.idxOf p<n/\a.getD (a.idxOf p) 0=p:=by
 have h:=List.idxOf_lt_length_iff.2 (A.mem hp)
 refine⟨by rw[←A.len];exact h,?_⟩
 rw[bV h,List.getElem_idxOf]
theorem eL (a b:List Nat):(bD a b).length=a.length:=by simp [bD]
theorem dA {i:Nat}(hi:i<a.length):(bD a b).getD i 0=b.getD (a.getD i 0) 0:=by
 have h:i<(bD a b).length:=by rw[eL];exact hi
 rw[bV h,bV hi];simp [bD]
theorem iN (n:Nat):(bZ n).length=n:=by simp [bZ]
theorem fG {n i:Nat}(hi:i<n):(bZ n).getD i 0=i:=by
 have h:i<(bZ n).length:=by rw[iN];exact hi
 rw[bV h];simp [bZ]
theorem jO (a:List Nat):(eN a).length=a.length:=by simp [eN]
theorem Bv {i:Nat}(hi:i<a.length):(eN a).getD i 0=a.idxOf i:=by
 have h:i<(eN a).length:=by rw[jO];exact hi
 rw[bV h];simp [eN]
theorem bM.one (n:Nat):bM n (bZ n):=⟨iN n,List.nodup_range,λx hx=>List.mem_range.1 hx⟩
theorem bM.mul (A:bM n a)(B:bM n b):bM n (bD a b):=by
 refine bM.EL (by rw[eL,A.len]) (λi hi=>?_) (λi j hi hj h=>?_)
 ·rw[dA (by rw[A.len];exact hi)];exact B.eM (A.eM hi)
 ·rw[dA (by rw[A.len];exact hi),dA (by rw[A.len];exact hj)] at h
  exact A.inj hi hj (B.inj (A.eM hi) (A.eM hj) h)
theorem bM.inv (A:bM n a):bM n (eN a):=by
 refine bM.EL (by rw[jO,A.len]) (λi hi=>?_) (λi j hi hj h=>?_)
 ·rw[Bv (by rw[A.len];exact hi)];exact (A.idx hi).1
 ·rw[Bv (by rw[A.len];exact hi),Bv (by rw[A.len];exact hj)] at h
  rw[←(A.idx hi).2,←(A.idx hj).2,h]
theorem bE (A:bM n a)(B:bM n b)(C:bM n c):bD (bD a b) c=bD a (bD b c):=by
 refine xL (by simp only[eL]) λi hi=>?_
 rw[eL,eL] at hi
 have hn:i<n:=by rw[←A.len];exact hi
 rw[dA (by rw[eL];exact hi),dA hi,dA hi,dA (by rw[B.len];exact A.eM hn)]
theorem cG (A:bM n a):bD a (bZ n)=a:=by
 refine xL (eL _ _) λi hi=>?_
 rw[eL] at hi
 rw[dA hi,fG (A.eM (by rw[←A.len];exact hi))]
theorem fF (A:bM n a):bD (bZ n) a=a:=by
 refine xL (by rw[eL,iN,A.len]) λi hi=>?_
 rw[eL,iN] at hi
 rw[dA (by rw[iN];exact hi),fG hi]
theorem jM (A:bM n a):bD a (eN a)=bZ n:=by
 refine xL (by rw[eL,iN,A.len]) λi hi=>?_
 rw[eL] at hi
 have hn:i<n:=by rw[←A.len];exact hi
 rw[dA hi,fG hn,Bv (by rw[A.len];exact A.eM hn)]
 exact A.inj ((A.idx (A.eM hn)).1) hn ((A.idx (A.eM hn)).2)
theorem iX (A:bM n a):bD (eN a) a=bZ n:=by
 refine xL (by rw[eL,iN,jO,A.len]) λi hi=>?_
 rw[eL,jO] at hi
 have hn:i<n:=by rw[←A.len];exact hi
 rw[dA (by rw[jO];exact hi),fG hn,Bv hi]
 exact (A.idx hn).2
theorem Ga (n:Nat):eN (bZ n)=bZ n:=by
 have:=jM (bM.one n)
 rwa [fF (bM.one n).inv] at this
theorem Mb (A:bM n a)(B:bM n b)(C:bM n c)(h:bD a c=bD b c):a=b:=by
 have:=congrArg (λx=>bD x (eN c)) h
 try simp only at this
 rwa [bE A C C.inv,bE B C C.inv,jM C,cG A,cG B] at this
theorem Qj (A:bM n a)(B:bM n b)(C:bM n c)(h:bD c a=bD c b):a=b:=by
 have:=congrArg (λx=>bD (eN c) x) h
 try simp only at this
 rwa [←bE C.inv C A,←bE C.inv C B,iX C,fF A,fF B] at this
theorem aaC (A:bM n a)(B:bM n b):eN (bD a b)=bD (eN b) (eN a):=by
 refine Qj (A.mul B).inv (B.inv.mul A.inv) (A.mul B) ?_
 rw[jM (A.mul B),bE A B (B.inv.mul A.inv),←bE B B.inv A.inv,jM B,fF A.inv,jM A]
theorem zI (A:bM n a){i:Nat}(hi:i<n):(eN a).getD (a.getD i 0) 0=i:=by
 have:=congrArg (λx=>x.getD i 0) (jM A)
 try simp only at this
 rwa [dA (by rw[A.len];exact hi),fG hi] at this
structure yF (n:Nat)(G:List Nat->Prop):Prop where
 dV: ∀{x},G x->bM n x
 one:G (bZ n)
 mul: ∀{x y},G x->G y->G (bD x y)
 inv: ∀{x},G x->G (eN x)
def pw (n:Nat)(x:List Nat):Nat->List Nat
 |0=>bZ n
 |k+1=>bD (pw n x k) x
theorem qD (A:bM n a): ∀k,bM n (pw n a k)
 |0=>bM.one n
 |k+1=>(qD A k).mul A
theorem NO (A:bM n a)(i:Nat): ∀j,pw n a (i+j)=bD (pw n a i) (pw n a j)
 |0=>(cG (qD A i)).symm
 |j+1=>by
  show bD (pw n a (i+j)) a=bD (pw n a i) (bD (pw n a j) a)
  rw[NO A i j,bE (qD A i) (qD A j) A]
def Eu (n:Nat):Nat->Dx
 |0=> [[]]
 |k+1=>(List.range n).flatMap λx=>(Eu n k).map (x:: ·)
theorem Tg (n:Nat): ∀k,(Eu n k).length=n^k
 |0=>rfl
 |k+1=>by
  simp only[Eu,List.length_flatMap,List.length_map,Tg n k]
  have: ∀m c:Nat,((List.range m).map λ_=>c).sum=m*c:=by
   intro m c
   induction m with
   |zero=>simp
   |succ m ih=>rw[List.range_succ,List.map_append,List.sum_append,ih];simp [Nat.succ_mul]
  rw[this,Nat.pow_succ,Nat.mul_comm]
theorem xN (n:Nat): ∀(k:Nat) (l:List Nat),l.length=k->(∀x∈l,x<n)->l∈Eu n k
 |0, [],_,_=>by simp [Eu]
 |0,_::_,h,_=>by simp at h
 |k+1, [],h,_=>by simp at h
 |k+1,x::l,h,hx=>by
  simp only[Eu,List.mem_flatMap,List.mem_map]
  exact⟨x,List.mem_range.2 (hx x (by simp)),l,xN n k l (by simpa using h) (λy hy=>hx y (by simp [hy])),rfl⟩
theorem bM.xN (A:bM n a):a∈Eu n n:=Go.Pm.xN n n a A.len A.lt
theorem Tu {l:Dx}(hl:l.Nodup)(hp: ∀x∈l,bM n x):l.length<=n^n:=by
 rw[←Tg n n]
 exact List.Nodup.length_le_of_subset hl λx hx=>(hp x hx).xN
theorem ED (A:bM n a): ∃k,0<k/\k<=n^n/\pw n a k=bZ n:=by
 have h: ∃i j,i<j/\j<=n^n/\pw n a i=pw n a j:=by
  refine Classical.byContradiction λhn=>?_
  have hnd:((List.range (n^n+1)).map (pw n a)).Nodup:=by
   rw[List.nodup_iff_pairwise_ne,List.pairwise_iff_getElem]
   intro i j hi hj hij e
   simp only[List.length_map,List.length_range] at hi hj
   simp only[List.getElem_map,List.getElem_range] at e
   exact hn ⟨i,j,hij,by omega,e⟩
  have:=Tu hnd (n:=n) (λx hx=>by
   obtain⟨i,_,rfl⟩:=List.mem_map.1 hx
   exact qD A i)
  simp only[List.length_map,List.length_range] at this
  omega
 obtain⟨i,j,hij,hj,e⟩:=h
 refine⟨j-i,by omega,by omega,?_⟩
 have e2:pw n a j=bD (pw n a i) (pw n a (j-i)):=by rw[←NO A,show i+(j-i)=j from by omega]
 refine Qj (qD A (j-i)) (bM.one n) (qD A i) ?_
 rw[←e2,cG (qD A i),e]
inductive eH (n:Nat) (L:List Nat->Prop):List Nat->Prop where
 |one:eH n L (bZ n)
 |mul {x g:List Nat}:eH n L x->L g->eH n L (bD x g)
variable {L M:List Nat->Prop}
theorem eH.dV (hL: ∀g,L g->bM n g){x:List Nat}(h:eH n L x):bM n x:=by
 induction h with
 |one=>exact bM.one n
 |mul _ hg ih=>exact ih.mul (hL _ hg)
theorem eH.of (hL: ∀g,L g->bM n g){g:List Nat}(h:L g):eH n L g:=by
 have:=eH.mul (n:=n) eH.one h
 rwa [fF (hL g h)] at this
theorem eH.app (hL: ∀g,L g->bM n g){x y:List Nat}(hx:eH n L x)(hy:eH n L y):eH n L (bD x y):=by
 induction hy with
 |one=>rwa [cG (hx.dV hL)]
 |mul hy hg ih=>rw[←bE (hx.dV hL) (hy.dV hL) (hL _ hg)];exact ih.mul hg
theorem eH.pow (hL: ∀g,L g->bM n g){x:List Nat}(hx:eH n L x): ∀k,eH n L (pw n x k)
 |0=> .one
 |k+1=>(eH.pow hL hx k).app hL hx
theorem eH.inv (hL: ∀g,L g->bM n g){x:List Nat}(hx:eH n L x):eH n L (eN x):=by
 have A:=hx.dV hL
 obtain⟨k,h0,_,hk⟩:=ED A
 have e:eN x=pw n x (k- 1):=by
  refine Mb A.inv (qD A _) A ?_
  rw[iX A]
  show _=pw n x (k- 1+1)
  rw[show k- 1+1=k from by omega,hk]
 rw[e]
 exact hx.pow hL _
theorem eH.jY (hL: ∀g,L g->bM n g):yF n (eH n L):=⟨λh=>h.dV hL,.one,λh k=>h.app hL k,λh=>h.inv hL⟩
theorem eH.le {G:List Nat->Prop}(hG:yF n G)(h: ∀g,L g->G g){x:List Nat}(hx:eH n L x):G x:=by
 induction hx with
 |one=>exact hG.one
 |mul _ hg ih=>exact hG.mul ih (h _ hg)
theorem eH.mono (h: ∀g,L g->M g){x:List Nat}(hx:eH n L x):eH n M x:=by
 induction hx with
 |one=>exact .one
 |mul _ hg ih=>exact ih.mul (h _ hg)
end
end Go.Pm
