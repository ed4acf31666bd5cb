/- Permutations as lists of numbers: products, inverses. -/
namespace Go.Pm
abbrev Dd:=List (List Nat)
abbrev LpN:=List (List (List Nat))
structure bJ (n:Nat) (a:List Nat):Prop where
 len:a.length=n
 nd:a.Nodup
 lt: ∀ x∈a,x<n
abbrev at' (a:List Nat) (i:Nat):Nat:=a.getD i 0
def bE (a b:List Nat):List Nat:=a.map λ p=>b.getD p 0
def bV (n:Nat):List Nat:=List.range n
def eA (a:List Nat):List Nat:=(List.range a.length).map λ j=>a.idxOf j
theorem bY {a:List Nat} {i:Nat} (h:i<a.length):a.getD i 0=a[i]:=by simp [List.getD,h]
theorem Ba {a b:List Nat} (hl:a.length=b.length) (h: ∀ i,i<a.length->a.getD i 0=b.getD i 0):a=b:=by
 refine List.ext_getElem hl λ i h1 h2=>?_
 have:=h i h1
 rwa [bY h1,bY h2] at this
section
variable {n:Nat} {a b c:List Nat}
theorem bJ.eZ (A:bJ n a) {i:Nat} (hi:i<n):a.getD i 0<n:=by
 have h:i<a.length:=by rw [A.len];exact hi
 rw [bY h];exact A.lt _ (List.getElem_mem h)
theorem bJ.inj (A:bJ n a) {i j:Nat} (hi:i<n) (hj:j<n) (h:a.getD i 0=a.getD j 0):i=j:=by
 have h1:i<a.length:=by rw [A.len];exact hi
 have h2:j<a.length:=by rw [A.len];exact hj
 rw [bY h1,bY h2] at h
 have e1:=A.nd.idxOf_getElem i h1
 have e2:=A.nd.idxOf_getElem j h2
 rw [h] at e1
 exact e1.symm.trans e2
theorem bJ.DH (hl:a.length=n) (h1: ∀ i,i<n->a.getD i 0<n) (h2: ∀ i j,i<n->j<n->a.getD i 0=a.getD j 0->i=j):bJ n a:=by
 refine ⟨hl,?_,λ x hx=>?_⟩
 ·rw [List.nodup_iff_pairwise_ne,List.pairwise_iff_getElem]
  intro i j hi hj hij e
  have:=h2 i j (by omega) (by omega) (by rw [bY hi,bY hj];exact e)
  omega
 ·obtain ⟨i,hi,rfl⟩:=List.mem_iff_getElem.1 hx
  have:=h1 i (by omega)
  rwa [bY hi] at this
theorem bJ.mem (A:bJ n a) {p:Nat} (hp:p<n):p∈a:=by
 refine Classical.byContradiction λ hn=>?_
 have hnd:(p::a).Nodup:=List.nodup_cons.2 ⟨hn,A.nd⟩
 have hs:(p::a) ⊆ List.range n:=λ x hx=>by
  rcases List.mem_cons.1 hx with rfl|hx
  ·exact List.mem_range.2 hp
  ·exact List.mem_range.2 (A.lt x hx)
 have:=List.Nodup.length_le_of_subset hnd hs
 have hl:=A.len
 simp only [List.length_cons,List.length_range] at this
 omega
theorem bJ.idx (A:bJ n a) {p:Nat} (hp:p<n):a.idxOf p<n/\a.getD (a.idxOf p) 0=p:=by
 have h:=List.idxOf_lt_length_iff.2 (A.mem hp)
 refine ⟨by rw [←A.len];exact h,?_⟩
 rw [bY h,List.getElem_idxOf]
theorem eM (a b:List Nat):(bE a b).length=a.length:=by simp [bE]
theorem cZ {i:Nat} (hi:i<a.length):(bE a b).getD i 0=b.getD (a.getD i 0) 0:=by
 have h:i<(bE a b).length:=by rw [eM];exact hi
 rw [bY h,bY hi];simp [bE]
theorem iG (n:Nat):(bV n).length=n:=by simp [bV]
theorem fF {n i:Nat} (hi:i<n):(bV n).getD i 0=i:=by
 have h:i<(bV n).length:=by rw [iG];exact hi
 rw [bY h];simp [bV]
theorem jN (a:List Nat):(eA a).length=a.length:=by simp [eA]
theorem Ca {i:Nat} (hi:i<a.length):(eA a).getD i 0=a.idxOf i:=by
 have h:i<(eA a).length:=by rw [jN];exact hi
 rw [bY h];simp [eA]
theorem bJ.one (n:Nat):bJ n (bV n):=⟨iG n,List.nodup_range,λ x hx=>List.mem_range.1 hx⟩
theorem bJ.mul (A:bJ n a) (B:bJ n b):bJ n (bE a b):=by
 refine bJ.DH (by rw [eM,A.len]) (λ i hi=>?_) (λ i j hi hj h=>?_)
 ·rw [cZ (by rw [A.len];exact hi)];exact B.eZ (A.eZ hi)
 ·rw [cZ (by rw [A.len];exact hi),cZ (by rw [A.len];exact hj)] at h
  exact A.inj hi hj (B.inj (A.eZ hi) (A.eZ hj) h)
theorem bJ.inv (A:bJ n a):bJ n (eA a):=by
 refine bJ.DH (by rw [jN,A.len]) (λ i hi=>?_) (λ i j hi hj h=>?_)
 ·rw [Ca (by rw [A.len];exact hi)];exact (A.idx hi).1
 ·rw [Ca (by rw [A.len];exact hi),Ca (by rw [A.len];exact hj)] at h
  rw [←(A.idx hi).2,←(A.idx hj).2,h]
theorem aY (A:bJ n a) (B:bJ n b) (C:bJ n c):bE (bE a b) c=bE a (bE b c):=by
 refine Ba (by simp only [eM]) λ i hi=>?_
 rw [eM,eM] at hi
 have hn:i<n:=by rw [←A.len];exact hi
 rw [cZ (by rw [eM];exact hi),cZ hi,cZ hi,cZ (by rw [B.len];exact A.eZ hn)]
theorem cE (A:bJ n a):bE a (bV n)=a:=by
 refine Ba (eM _ _) λ i hi=>?_
 rw [eM] at hi
 rw [cZ hi,fF (A.eZ (by rw [←A.len];exact hi))]
theorem eL (A:bJ n a):bE (bV n) a=a:=by
 refine Ba (by rw [eM,iG,A.len]) λ i hi=>?_
 rw [eM,iG] at hi
 rw [cZ (by rw [iG];exact hi),fF hi]
theorem iU (A:bJ n a):bE a (eA a)=bV n:=by
 refine Ba (by rw [eM,iG,A.len]) λ i hi=>?_
 rw [eM] at hi
 have hn:i<n:=by rw [←A.len];exact hi
 rw [cZ hi,fF hn,Ca (by rw [A.len];exact A.eZ hn)]
 exact A.inj ((A.idx (A.eZ hn)).1) hn ((A.idx (A.eZ hn)).2)
theorem gH (A:bJ n a):bE (eA a) a=bV n:=by
 refine Ba (by rw [eM,iG,jN,A.len]) λ i hi=>?_
 rw [eM,jN] at hi
 have hn:i<n:=by rw [←A.len];exact hi
 rw [cZ (by rw [jN];exact hi),fF hn,Ca hi]
 exact (A.idx hn).2
theorem Ei (n:Nat):eA (bV n)=bV n:=by
 have:=iU (bJ.one n)
 rwa [eL (bJ.one n).inv] at this
theorem Mh (A:bJ n a) (B:bJ n b) (C:bJ n c) (h:bE a c=bE b c):a=b:=by
 have:=congrArg (λ x=>bE x (eA c)) h
 try simp only at this
 rwa [aY A C C.inv,aY B C C.inv,iU C,cE A,cE B] at this
theorem Ph (A:bJ n a) (B:bJ n b) (C:bJ n c) (h:bE c a=bE c b):a=b:=by
 have:=congrArg (λ x=>bE (eA c) x) h
 try simp only at this
 rwa [←aY C.inv C A,←aY C.inv C B,gH C,eL A,eL B] at this
theorem aaL (A:bJ n a) (B:bJ n b):eA (bE a b)=bE (eA b) (eA a):=by
 refine Ph (A.mul B).inv (B.inv.mul A.inv) (A.mul B) ?_
 rw [iU (A.mul B),aY A B (B.inv.mul A.inv),←aY B B.inv A.inv,iU B,eL A.inv,iU A]
theorem yZ (A:bJ n a) {i:Nat} (hi:i<n):(eA a).getD (a.getD i 0) 0=i:=by
 have:=congrArg (λ x=>x.getD i 0) (iU A)
 try simp only at this
 rwa [cZ (by rw [A.len];exact hi),fF hi] at this
structure zE (n:Nat) (G:List Nat->Prop):Prop where
 dP: ∀ {x},G x->bJ n x
 one:G (bV n)
 mul: ∀ {x y},G x->G y->G (bE x y)
 inv: ∀ {x},G x->G (eA x)
def pw (n:Nat) (x:List Nat):Nat->List Nat
 |0=>bV n
 |k+1=>bE (pw n x k) x
theorem kZ (A:bJ n a): ∀ k,bJ n (pw n a k)
 |0=>bJ.one n
 |k+1=>(kZ A k).mul A
theorem Wj (A:bJ n a) (i:Nat): ∀ j,pw n a (i+j)=bE (pw n a i) (pw n a j)
 |0=>(cE (kZ A i)).symm
 |j+1=>by
  show bE (pw n a (i+j)) a=bE (pw n a i) (bE (pw n a j) a)
  rw [Wj A i j,aY (kZ A i) (kZ A j) A]
def Ik (n:Nat):Nat->Dd
 |0=> [[]]
 |k+1=>(List.range n).flatMap λ x=>(Ik n k).map (x:: ·)
theorem Tl (n:Nat): ∀ k,(Ik n k).length=n^k
 |0=>rfl
 |k+1=>by
  simp only [Ik,List.length_flatMap,List.length_map,Tl n k]
  have: ∀ m c:Nat,((List.range m).map λ _=>c).sum=m*c:=by
   intro m c
   induction m with
   |zero=>simp
   |succ m ih=>rw [List.range_succ,List.map_append,List.sum_append,ih];simp [Nat.succ_mul]
  rw [this,Nat.pow_succ,Nat.mul_comm]
theorem Bi (n:Nat): ∀ (k:Nat) (l:List Nat),l.length=k->(∀ x∈l,x<n)->l∈Ik n k
 |0, [],_,_=>by simp [Ik]
 |0,_::_,h,_=>by simp at h
 |k+1, [],h,_=>by simp at h
 |k+1,x::l,h,hx=>by
  simp only [Ik,List.mem_flatMap,List.mem_map]
  exact ⟨x,List.mem_range.2 (hx x (by simp)),l,Bi n k l (by simpa using h) (λ y hy=>hx y (by simp [hy])),rfl⟩
theorem bJ.Bi (A:bJ n a):a∈Ik n n:=Go.Pm.Bi n n a A.len A.lt
theorem Uz {l:Dd} (hl:l.Nodup) (hp: ∀ x∈l,bJ n x):l.length<=n^n:=by
 rw [←Tl n n]
 exact List.Nodup.length_le_of_subset hl λ x hx=>(hp x hx).Bi
theorem DC (A:bJ n a): ∃ k,0<k/\k<=n^n/\pw n a k=bV n:=by
 have h: ∃ i j,i<j/\j<=n^n/\pw n a i=pw n a j:=by
  refine Classical.byContradiction λ hn=>?_
  have hnd:((List.range (n^n+1)).map (pw n a)).Nodup:=by
   rw [List.nodup_iff_pairwise_ne,List.pairwise_iff_getElem]
   intro i j hi hj hij e
   simp only [List.length_map,List.length_range] at hi hj
   simp only [List.getElem_map,List.getElem_range] at e
   exact hn ⟨i,j,hij,by omega,e⟩
  have:=Uz hnd (n:=n) (λ x hx=>by
   obtain ⟨i,_,rfl⟩:=List.mem_map.1 hx
   exact kZ A i)
  simp only [List.length_map,List.length_range] at this
  omega
 obtain ⟨i,j,hij,hj,e⟩:=h
 refine ⟨j-i,by omega,by omega,?_⟩
 have e2:pw n a j=bE (pw n a i) (pw n a (j-i)):=by rw [←Wj A,show i+(j-i)=j from by omega]
 refine Ph (kZ A (j-i)) (bJ.one n) (kZ A i) ?_
 rw [←e2,cE (kZ A i),e]
inductive fL (n:Nat) (L:List Nat->Prop):List Nat->Prop where
 |one:fL n L (bV n)
 |mul {x g:List Nat}:fL n L x->L g->fL n L (bE x g)
variable {L M:List Nat->Prop}
theorem fL.dP (hL: ∀ g,L g->bJ n g) {x:List Nat} (h:fL n L x):bJ n x:=by
 induction h with
 |one=>exact bJ.one n
 |mul _ hg ih=>exact ih.mul (hL _ hg)
theorem fL.of (hL: ∀ g,L g->bJ n g) {g:List Nat} (h:L g):fL n L g:=by
 have:=fL.mul (n:=n) fL.one h
 rwa [eL (hL g h)] at this
theorem fL.app (hL: ∀ g,L g->bJ n g) {x y:List Nat} (hx:fL n L x) (hy:fL n L y):fL n L (bE x y):=by
 induction hy with
 |one=>rwa [cE (hx.dP hL)]
 |mul hy hg ih=>rw [←aY (hx.dP hL) (hy.dP hL) (hL _ hg)];exact ih.mul hg
theorem fL.pow (hL: ∀ g,L g->bJ n g) {x:List Nat} (hx:fL n L x): ∀ k,fL n L (pw n x k)
 |0=> .one
 |k+1=>(fL.pow hL hx k).app hL hx
theorem fL.inv (hL: ∀ g,L g->bJ n g) {x:List Nat} (hx:fL n L x):fL n L (eA x):=by
 have A:=hx.dP hL
 obtain ⟨k,h0,_,hk⟩:=DC A
 have e:eA x=pw n x (k- 1):=by
  refine Mh A.inv (kZ A _) A ?_
  rw [gH A]
  show _=pw n x (k- 1+1)
  rw [show k- 1+1=k from by omega,hk]
 rw [e]
 exact hx.pow hL _
theorem fL.jU (hL: ∀ g,L g->bJ n g):zE n (fL n L):=⟨λ h=>h.dP hL,.one,λ h k=>h.app hL k,λ h=>h.inv hL⟩
theorem fL.le {G:List Nat->Prop} (hG:zE n G) (h: ∀ g,L g->G g) {x:List Nat} (hx:fL n L x):G x:=by
 induction hx with
 |one=>exact hG.one
 |mul _ hg ih=>exact hG.mul ih (h _ hg)
theorem fL.mono (h: ∀ g,L g->M g) {x:List Nat} (hx:fL n L x):fL n M x:=by
 induction hx with
 |one=>exact .one
 |mul _ hg ih=>exact ih.mul (h _ hg)
end
end Go.Pm
