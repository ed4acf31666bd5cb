/- Permutations as lists of numbers: products, inverses. -/
namespace Go.Pm
abbrev Db:=List (List Nat)
abbrev ZW:=List (List (List Nat))
structure bI (n:Nat) (a:List Nat):Prop where
 len:a.length=n
 nd:a.Nodup
 lt: ∀ x∈a,x<n
abbrev at' (a:List Nat) (i:Nat):Nat:=a.getD i 0
def bE (a b:List Nat):List Nat:=a.map λ p=>b.getD p 0
def bZ (n:Nat):List Nat:=List.range n
def eA (a:List Nat):List Nat:=(List.range a.length).map λ j=>a.idxOf j
theorem bW {a:List Nat} {i:Nat} (h:i<a.length):a.getD i 0=a[i]:=by simp [List.getD,h]
theorem Br {a b:List Nat} (hl:a.length=b.length) (h: ∀ i,i<a.length->a.getD i 0=b.getD i 0):a=b:=by
 refine List.ext_getElem hl λ i h1 h2=>?_
 have:=h i h1
 rwa [bW h1,bW h2] at this
section
variable {n:Nat} {a b c:List Nat}
theorem bI.eS (A:bI n a) {i:Nat} (hi:i<n):a.getD i 0<n:=by
 have h:i<a.length:=by rw [A.len];exact hi
 rw [bW h];exact A.lt _ (List.getElem_mem h)
theorem bI.inj (A:bI n a) {i j:Nat} (hi:i<n) (hj:j<n) (h:a.getD i 0=a.getD j 0):i=j:=by
 have h1:i<a.length:=by rw [A.len];exact hi
 have h2:j<a.length:=by rw [A.len];exact hj
 rw [bW h1,bW h2] at h
 have e1:=A.nd.idxOf_getElem i h1
 have e2:=A.nd.idxOf_getElem j h2
 rw [h] at e1
 exact e1.symm.trans e2
theorem bI.BW (hl:a.length=n) (h1: ∀ i,i<n->a.getD i 0<n) (h2: ∀ i j,i<n->j<n->a.getD i 0=a.getD j 0->i=j):bI n a:=by
 refine ⟨hl,?_,λ x hx=>?_⟩
 ·rw [List.nodup_iff_pairwise_ne,List.pairwise_iff_getElem]
  intro i j hi hj hij e
  have:=h2 i j (by omega) (by omega) (by rw [bW hi,bW hj];exact e)
  omega
 ·obtain ⟨i,hi,rfl⟩:=List.mem_iff_getElem.1 hx
  have:=h1 i (by omega)
  rwa [bW hi] at this
theorem bI.mem (A:bI n a) {p:Nat} (hp:p<n):p∈a:=by
 refine Classical.byContradiction λ hn=>?_
 have hnd:(p::a).Nodup:=List.nodup_cons.2 ⟨hn,A.nd⟩
 have hs:(p::a) ⊆ List.range n:=λ x hx=>by
  rcases List.mem_cons.1 hx with rfl|hx
  ·exact List.mem_range.2 hp
  ·exact List.mem_range.2 (A.lt x hx)
 have:=List.Nodup.length_le_of_subset hnd hs
 have hl:=A.len
 simp only [List.length_cons,List.length_range] at this
 omega
theorem bI.idx (A:bI n a) {p:Nat} (hp:p<n):a.idxOf p<n/\a.getD (a.idxOf p) 0=p:=by
 have h:=List.idxOf_lt_length_iff.2 (A.mem hp)
 refine ⟨by rw [←A.len];exact h,?_⟩
 rw [bW h,List.getElem_idxOf]
theorem eM (a b:List Nat):(bE a b).length=a.length:=by simp [bE]
theorem cZ {i:Nat} (hi:i<a.length):(bE a b).getD i 0=b.getD (a.getD i 0) 0:=by
 have h:i<(bE a b).length:=by rw [eM];exact hi
 rw [bW h,bW hi];simp [bE]
theorem iN (n:Nat):(bZ n).length=n:=by simp [bZ]
theorem fG {n i:Nat} (hi:i<n):(bZ n).getD i 0=i:=by
 have h:i<(bZ n).length:=by rw [iN];exact hi
 rw [bW h];simp [bZ]
theorem jT (a:List Nat):(eA a).length=a.length:=by simp [eA]
theorem Bf {i:Nat} (hi:i<a.length):(eA a).getD i 0=a.idxOf i:=by
 have h:i<(eA a).length:=by rw [jT];exact hi
 rw [bW h];simp [eA]
theorem bI.one (n:Nat):bI n (bZ n):=⟨iN n,List.nodup_range,λ x hx=>List.mem_range.1 hx⟩
theorem bI.mul (A:bI n a) (B:bI n b):bI n (bE a b):=by
 refine bI.BW (by rw [eM,A.len]) (λ i hi=>?_) (λ i j hi hj h=>?_)
 ·rw [cZ (by rw [A.len];exact hi)];exact B.eS (A.eS hi)
 ·rw [cZ (by rw [A.len];exact hi),cZ (by rw [A.len];exact hj)] at h
  exact A.inj hi hj (B.inj (A.eS hi) (A.eS hj) h)
theorem bI.inv (A:bI n a):bI n (eA a):=by
 refine bI.BW (by rw [jT,A.len]) (λ i hi=>?_) (λ i j hi hj h=>?_)
 ·rw [Bf (by rw [A.len];exact hi)];exact (A.idx hi).1
 ·rw [Bf (by rw [A.len];exact hi),Bf (by rw [A.len];exact hj)] at h
  rw [←(A.idx hi).2,←(A.idx hj).2,h]
theorem aV (A:bI n a) (B:bI n b) (C:bI n c):bE (bE a b) c=bE a (bE b c):=by
 refine Br (by simp only [eM]) λ i hi=>?_
 rw [eM,eM] at hi
 have hn:i<n:=by rw [←A.len];exact hi
 rw [cZ (by rw [eM];exact hi),cZ hi,cZ hi,cZ (by rw [B.len];exact A.eS hn)]
theorem cE (A:bI n a):bE a (bZ n)=a:=by
 refine Br (eM _ _) λ i hi=>?_
 rw [eM] at hi
 rw [cZ hi,fG (A.eS (by rw [←A.len];exact hi))]
theorem eH (A:bI n a):bE (bZ n) a=a:=by
 refine Br (by rw [eM,iN,A.len]) λ i hi=>?_
 rw [eM,iN] at hi
 rw [cZ (by rw [iN];exact hi),fG hi]
theorem gU (A:bI n a):bE a (eA a)=bZ n:=by
 refine Br (by rw [eM,iN,A.len]) λ i hi=>?_
 rw [eM] at hi
 have hn:i<n:=by rw [←A.len];exact hi
 rw [cZ hi,fG hn,Bf (by rw [A.len];exact A.eS hn)]
 exact A.inj ((A.idx (A.eS hn)).1) hn ((A.idx (A.eS hn)).2)
theorem gG (A:bI n a):bE (eA a) a=bZ n:=by
 refine Br (by rw [eM,iN,jT,A.len]) λ i hi=>?_
 rw [eM,jT] at hi
 have hn:i<n:=by rw [←A.len];exact hi
 rw [cZ (by rw [jT];exact hi),fG hn,Bf hi]
 exact (A.idx hn).2
theorem Df (n:Nat):eA (bZ n)=bZ n:=by
 have:=gU (bI.one n)
 rwa [eH (bI.one n).inv] at this
theorem Kk (A:bI n a) (B:bI n b) (C:bI n c) (h:bE a c=bE b c):a=b:=by
 have:=congrArg (λ x=>bE x (eA c)) h
 try simp only at this
 rwa [aV A C C.inv,aV B C C.inv,gU C,cE A,cE B] at this
theorem Pf (A:bI n a) (B:bI n b) (C:bI n c) (h:bE c a=bE c b):a=b:=by
 have:=congrArg (λ x=>bE (eA c) x) h
 try simp only at this
 rwa [←aV C.inv C A,←aV C.inv C B,gG C,eH A,eH B] at this
theorem ZG (A:bI n a) (B:bI n b):eA (bE a b)=bE (eA b) (eA a):=by
 refine Pf (A.mul B).inv (B.inv.mul A.inv) (A.mul B) ?_
 rw [gU (A.mul B),aV A B (B.inv.mul A.inv),←aV B B.inv A.inv,gU B,eH A.inv,gU A]
theorem zH (A:bI n a) {i:Nat} (hi:i<n):(eA a).getD (a.getD i 0) 0=i:=by
 have:=congrArg (λ x=>x.getD i 0) (gU A)
 try simp only at this
 rwa [cZ (by rw [A.len];exact hi),fG hi] at this
structure yV (n:Nat) (G:List Nat->Prop):Prop where
 dR: ∀ {x},G x->bI n x
 one:G (bZ n)
 mul: ∀ {x y},G x->G y->G (bE x y)
 inv: ∀ {x},G x->G (eA x)
def pw (n:Nat) (x:List Nat):Nat->List Nat
 |0=>bZ n
 |k+1=>bE (pw n x k) x
theorem mO (A:bI n a): ∀ k,bI n (pw n a k)
 |0=>bI.one n
 |k+1=>(mO A k).mul A
theorem KL (A:bI n a) (i:Nat): ∀ j,pw n a (i+j)=bE (pw n a i) (pw n a j)
 |0=>(cE (mO A i)).symm
 |j+1=>by
  show bE (pw n a (i+j)) a=bE (pw n a i) (bE (pw n a j) a)
  rw [KL A i j,aV (mO A i) (mO A j) A]
def Iy (n:Nat):Nat->Db
 |0=> [[]]
 |k+1=>(List.range n).flatMap λ x=>(Iy n k).map (x:: ·)
theorem Vp (n:Nat): ∀ k,(Iy n k).length=n^k
 |0=>rfl
 |k+1=>by
  simp only [Iy,List.length_flatMap,List.length_map,Vp n k]
  have: ∀ m c:Nat,((List.range m).map λ _=>c).sum=m*c:=by
   intro m c
   induction m with
   |zero=>simp
   |succ m ih=>rw [List.range_succ,List.map_append,List.sum_append,ih];simp [Nat.succ_mul]
  rw [this,Nat.pow_succ,Nat.mul_comm]
theorem Bk (n:Nat): ∀ (k:Nat) (l:List Nat),l.length=k->(∀ x∈l,x<n)->l∈Iy n k
 |0, [],_,_=>by simp [Iy]
 |0,_::_,h,_=>by simp at h
 |k+1, [],h,_=>by simp at h
 |k+1,x::l,h,hx=>by
  simp only [Iy,List.mem_flatMap,List.mem_map]
  exact ⟨x,List.mem_range.2 (hx x (by simp)),l,Bk n k l (by simpa using h) (λ y hy=>hx y (by simp [hy])),rfl⟩
theorem bI.Bk (A:bI n a):a∈Iy n n:=Go.Pm.Bk n n a A.len A.lt
theorem Rz {l:Db} (hl:l.Nodup) (hp: ∀ x∈l,bI n x):l.length<=n^n:=by
 rw [←Vp n n]
 exact List.Nodup.length_le_of_subset hl λ x hx=>(hp x hx).Bk
theorem AP (A:bI n a): ∃ k,0<k/\k<=n^n/\pw n a k=bZ n:=by
 have h: ∃ i j,i<j/\j<=n^n/\pw n a i=pw n a j:=by
  refine Classical.byContradiction λ hn=>?_
  have hnd:((List.range (n^n+1)).map (pw n a)).Nodup:=by
   rw [List.nodup_iff_pairwise_ne,List.pairwise_iff_getElem]
   intro i j hi hj hij e
   simp only [List.length_map,List.length_range] at hi hj
   simp only [List.getElem_map,List.getElem_range] at e
   exact hn ⟨i,j,hij,by omega,e⟩
  have:=Rz hnd (n:=n) (λ x hx=>by
   obtain ⟨i,_,rfl⟩:=List.mem_map.1 hx
   exact mO A i)
  simp only [List.length_map,List.length_range] at this
  omega
 obtain ⟨i,j,hij,hj,e⟩:=h
 refine ⟨j-i,by omega,by omega,?_⟩
 have e2:pw n a j=bE (pw n a i) (pw n a (j-i)):=by rw [←KL A,show i+(j-i)=j from by omega]
 refine Pf (mO A (j-i)) (bI.one n) (mO A i) ?_
 rw [←e2,cE (mO A i),e]
inductive fS (n:Nat) (L:List Nat->Prop):List Nat->Prop where
 |one:fS n L (bZ n)
 |mul {x g:List Nat}:fS n L x->L g->fS n L (bE x g)
variable {L M:List Nat->Prop}
theorem fS.dR (hL: ∀ g,L g->bI n g) {x:List Nat} (h:fS n L x):bI n x:=by
 induction h with
 |one=>exact bI.one n
 |mul _ hg ih=>exact ih.mul (hL _ hg)
theorem fS.of (hL: ∀ g,L g->bI n g) {g:List Nat} (h:L g):fS n L g:=by
 have:=fS.mul (n:=n) fS.one h
 rwa [eH (hL g h)] at this
theorem fS.app (hL: ∀ g,L g->bI n g) {x y:List Nat} (hx:fS n L x) (hy:fS n L y):fS n L (bE x y):=by
 induction hy with
 |one=>rwa [cE (hx.dR hL)]
 |mul hy hg ih=>rw [←aV (hx.dR hL) (hy.dR hL) (hL _ hg)];exact ih.mul hg
theorem fS.pow (hL: ∀ g,L g->bI n g) {x:List Nat} (hx:fS n L x): ∀ k,fS n L (pw n x k)
 |0=> .one
 |k+1=>(fS.pow hL hx k).app hL hx
theorem fS.inv (hL: ∀ g,L g->bI n g) {x:List Nat} (hx:fS n L x):fS n L (eA x):=by
 have A:=hx.dR hL
 obtain ⟨k,h0,_,hk⟩:=AP A
 have e:eA x=pw n x (k- 1):=by
  refine Kk A.inv (mO A _) A ?_
  rw [gG A]
  show _=pw n x (k- 1+1)
  rw [show k- 1+1=k from by omega,hk]
 rw [e]
 exact hx.pow hL _
theorem fS.jY (hL: ∀ g,L g->bI n g):yV n (fS n L):=⟨λ h=>h.dR hL,.one,λ h k=>h.app hL k,λ h=>h.inv hL⟩
theorem fS.le {G:List Nat->Prop} (hG:yV n G) (h: ∀ g,L g->G g) {x:List Nat} (hx:fS n L x):G x:=by
 induction hx with
 |one=>exact hG.one
 |mul _ hg ih=>exact hG.mul ih (h _ hg)
theorem fS.mono (h: ∀ g,L g->M g) {x:List Nat} (hx:fS n L x):fS n M x:=by
 induction hx with
 |one=>exact .one
 |mul _ hg ih=>exact ih.mul (h _ hg)
end
end Go.Pm
