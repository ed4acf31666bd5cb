/- Permutations as lists of numbers: products, inverses. -/
namespace Go.Pm
section
variable {i:Nat} {x:List Nat}
abbrev xO:=List (List Nat)
abbrev KN:=List (List (List Nat))
structure bE (n:Nat)(a:List Nat):Prop where
 len:a.length=n
 nd:a.Nodup
 lt: ∀x∈a,x<n
abbrev at' (a:List Nat)(i:Nat):Nat:=a.getD i 0
def aT (a b:List Nat):List Nat:=a.map λp=>b.getD p 0
def bH (n:Nat):List Nat:=List.range n
def cM (a:List Nat):List Nat:=(List.range a.length).map λj=>a.idxOf j
theorem cK {a:List Nat}(h:i<a.length):a.getD i 0=a[i]:=by simp [List.getD,h]
theorem rZ {a b:List Nat}(hl:a.length=b.length)(h: ∀i,i<a.length->a.getD i 0=b.getD i 0):a=b:=by
 refine List.ext_getElem hl λi h1 h2=>?_
 have:=h i h1;rwa [cK h1,cK h2] at this
section
variable {n:Nat} {a b c:List Nat}
theorem bE.fH (A:bE n a)(hi:i<n):a.getD i 0<n:=by
 have h:i<a.length:=by rw[A.len];exact hi
 rw[cK h];exact A.lt _ (List.getElem_mem h)
theorem bE.inj (A:bE n a){j:Nat}(hi:i<n)(hj:j<n)(h:a.getD i 0=a.getD j 0):i=j:=by
 have h1:i<a.length:=by rw[A.len];exact hi
 have h2:j<a.length:=by rw[A.len];exact hj
 rw[cK h1,cK h2] at h;have e1:=A.nd.idxOf_getElem i h1;have e2:=A.nd.idxOf_getElem j h2;rw[h] at e1;exact e1.symm.trans e2
theorem bE.Oa (hl:a.length=n)(h1: ∀i,i<n->a.getD i 0<n)(h2: ∀i j,i<n->j<n->a.getD i 0=a.getD j 0->i=j):bE n a:=by
 refine⟨hl,?_,λx hx=>?_⟩
 ·rw[List.nodup_iff_pairwise_ne,List.pairwise_iff_getElem]
  intro i j hi hj hij e;have:=h2 i j (by omega) (by omega) (by rw[cK hi,cK hj];exact e);omega
 ·obtain⟨i,hi,rfl⟩:=List.mem_iff_getElem.1 hx
  have:=h1 i (by omega);rwa [cK hi] at this
theorem bE.mem (A:bE n a){p:Nat}(hp:p<n):p∈a:=by
 refine Classical.byContradiction λhn=>?_
 have hnd:(p::a).Nodup:=List.nodup_cons.2 ⟨hn,A.nd⟩
 have hs:(p::a) ⊆ List.range n:=λx hx=>by
  rcases List.mem_cons.1 hx with rfl|hx
  ·exact List.mem_range.2 hp
  ·exact List.mem_range.2 (A.lt x hx)
 have:=List.Nodup.length_le_of_subset hnd hs;have hl:=A.len;simp only[List.length_cons,List.length_range] at this;omega
theorem bE.idx (A:bE n a){p:Nat}(hp:p<n):a.idxOf p<n/\a.getD (a.idxOf p) 0=p:=by
 have h:=List.idxOf_lt_length_iff.2 (A.mem hp);refine⟨by rw[←A.len];exact h,?_⟩;rw[cK h,List.getElem_idxOf]
theorem eY (a b:List Nat):(aT a b).length=a.length:=by simp [aT]
theorem cT (hi:i<a.length):(aT a b).getD i 0=b.getD (a.getD i 0) 0:=by
 have h:i<(aT a b).length:=by rw[eY];exact hi
 rw[cK h,cK hi];simp [aT]
theorem gI (n:Nat):(bH n).length=n:=by simp [bH]
theorem eS {n:Nat}(hi:i<n):(bH n).getD i 0=i:=by
 have h:i<(bH n).length:=by rw[gI];exact hi
 rw[cK h];simp [bH]
theorem lC (a:List Nat):(cM a).length=a.length:=by simp [cM]
theorem qW (hi:i<a.length):(cM a).getD i 0=a.idxOf i:=by
 have h:i<(cM a).length:=by rw[lC];exact hi
 rw[cK h];simp [cM]
theorem bE.one (n:Nat):bE n (bH n):=⟨gI n,List.nodup_range,λx hx=>List.mem_range.1 hx⟩
theorem bE.mul (A:bE n a)(B:bE n b):bE n (aT a b):=by
 refine bE.Oa (by rw[eY,A.len]) (λi hi=>?_) (λi j hi hj h=>?_)
 ·rw[cT (by rw[A.len];exact hi)];exact B.fH (A.fH hi)
 ·rw[cT (by rw[A.len];exact hi),cT (by rw[A.len];exact hj)] at h
  exact A.inj hi hj (B.inj (A.fH hi) (A.fH hj) h)
theorem bE.inv (A:bE n a):bE n (cM a):=by
 refine bE.Oa (by rw[lC,A.len]) (λi hi=>?_) (λi j hi hj h=>?_)
 ·rw[qW (by rw[A.len];exact hi)];exact (A.idx hi).1
 ·rw[qW (by rw[A.len];exact hi),qW (by rw[A.len];exact hj)] at h
  rw[←(A.idx hi).2,←(A.idx hj).2,h]
theorem aV (A:bE n a)(B:bE n b)(C:bE n c):aT (aT a b) c=aT a (aT b c):=by
 refine rZ (by simp only[eY]) λi hi=>?_
 rw[eY,eY] at hi;have hn:i<n:=by rw[←A.len];exact hi
 rw[cT (by rw[eY];exact hi),cT hi,cT hi,cT (by rw[B.len];exact A.fH hn)]
theorem cG (A:bE n a):aT a (bH n)=a:=by
 refine rZ (eY _ _) λi hi=>?_
 rw[eY] at hi;rw[cT hi,eS (A.fH (by rw[←A.len];exact hi))]
theorem fA (A:bE n a):aT (bH n) a=a:=by
 refine rZ (by rw[eY,gI,A.len]) λi hi=>?_
 rw[eY,gI] at hi;rw[cT (by rw[gI];exact hi),eS hi]
theorem gK (A:bE n a):aT a (cM a)=bH n:=by
 refine rZ (by rw[eY,gI,A.len]) λi hi=>?_
 rw[eY] at hi;have hn:i<n:=by rw[←A.len];exact hi
 rw[cT hi,eS hn,qW (by rw[A.len];exact A.fH hn)];exact A.inj ((A.idx (A.fH hn)).1) hn ((A.idx (A.fH hn)).2)
theorem gH (A:bE n a):aT (cM a) a=bH n:=by
 refine rZ (by rw[eY,gI,lC,A.len]) λi hi=>?_
 rw[eY,lC] at hi;have hn:i<n:=by rw[←A.len];exact hi
 rw[cT (by rw[lC];exact hi),eS hn,qW hi];exact (A.idx hn).2
theorem vF (n:Nat):cM (bH n)=bH n:=by
 have:=gK (bE.one n);rwa [fA (bE.one n).inv] at this
theorem Ca (A:bE n a)(B:bE n b)(C:bE n c)(h:aT a c=aT b c):a=b:=by
 have:=congrArg (λx=>aT x (cM c)) h
 try simp only at this
 rwa [aV A C C.inv,aV B C C.inv,gK C,cG A,cG B] at this
theorem tG (A:bE n a)(B:bE n b)(C:bE n c)(h:aT c a=aT c b):a=b:=by
 have:=congrArg (λx=>aT (cM c) x) h
 try simp only at this
 rwa [←aV C.inv C A,←aV C.inv C B,gH C,fA A,fA B] at this
theorem yT (A:bE n a)(B:bE n b):cM (aT a b)=aT (cM b) (cM a):=by
 refine tG (A.mul B).inv (B.inv.mul A.inv) (A.mul B) ?_;rw[gK (A.mul B),aV A B (B.inv.mul A.inv),←aV B B.inv A.inv,gK B,fA A.inv,gK A]
theorem xU (A:bE n a):cM (cM a)=a:=by
 refine tG A.inv.inv A A.inv ?_;rw[gK A.inv,gH A]
theorem sE (A:bE n a)(hi:i<n):(cM a).getD (a.getD i 0) 0=i:=by
 have:=congrArg (λx=>x.getD i 0) (gK A)
 try simp only at this
 rwa [cT (by rw[A.len];exact hi),eS hi] at this
theorem YP (A:bE n a)(hi:i<n):a.getD ((cM a).getD i 0) 0=i:=by
 have:=congrArg (λx=>x.getD i 0) (gH A)
 try simp only at this
 rwa [cT (by rw[lC,A.len];exact hi),eS hi] at this
structure sW (n:Nat)(G:List Nat->Prop):Prop where
 dV: ∀{x},G x->bE n x
 one:G (bH n)
 mul: ∀{x y},G x->G y->G (aT x y)
 inv: ∀{x},G x->G (cM x)
def pw (n:Nat)(x:List Nat):Nat->List Nat
 |0=>bH n
 |k+1=>aT (pw n x k) x
theorem lY (A:bE n a): ∀k,bE n (pw n a k)
 |0=>bE.one n
 |k+1=>(lY A k).mul A
theorem Xr (A:bE n a)(i:Nat): ∀j,pw n a (i+j)=aT (pw n a i) (pw n a j)
 |0=>(cG (lY A i)).symm
 |j+1=>by
  show aT (pw n a (i+j)) a=aT (pw n a i) (aT (pw n a j) a);rw[Xr A i j,aV (lY A i) (lY A j) A]
def yA (n:Nat):Nat->xO
 |0=> [[]]
 |k+1=>(List.range n).flatMap λx=>(yA n k).map (x:: ·)
theorem Hv (n:Nat): ∀k,(yA n k).length=n^k
 |0=>rfl
 |k+1=>by
  simp only[yA,List.length_flatMap,List.length_map,Hv n k]
  have: ∀m c:Nat,((List.range m).map λ_=>c).sum=m*c:=by
   intro m c
   induction m with
   |zero=>simp
   |succ m ih=>rw[List.range_succ,List.map_append,List.sum_append,ih];simp [Nat.succ_mul]
  rw[this,Nat.pow_succ,Nat.mul_comm]
theorem sK (n:Nat): ∀(k:Nat) (l:List Nat),l.length=k->(∀x∈l,x<n)->l∈yA n k
 |0, [],_,_=>by simp [yA]
 |0,_::_,h,_=>by simp at h
 |k+1, [],h,_=>by simp at h
 |k+1,x::l,h,hx=>by
  simp only[yA,List.mem_flatMap,List.mem_map];exact⟨x,List.mem_range.2 (hx x (by simp)),l,sK n k l (by simpa using h) (λy hy=>hx y (by simp [hy])),rfl⟩
theorem bE.sK (A:bE n a):a∈yA n n:=Go.Pm.sK n n a A.len A.lt
theorem Ui {l:xO}(hl:l.Nodup)(hp: ∀x∈l,bE n x):l.length<=n^n:=by
 rw[←Hv n n];exact List.Nodup.length_le_of_subset hl λx hx=>(hp x hx).sK
theorem Ph (A:bE n a): ∃k,0<k/\k<=n^n/\pw n a k=bH n:=by
 have h: ∃i j,i<j/\j<=n^n/\pw n a i=pw n a j:=by
  refine Classical.byContradiction λhn=>?_
  have hnd:((List.range (n^n+1)).map (pw n a)).Nodup:=by
   rw[List.nodup_iff_pairwise_ne,List.pairwise_iff_getElem];intro i j hi hj hij e;simp only[List.length_map,List.length_range] at hi hj;simp only[List.getElem_map,List.getElem_range] at e;exact hn ⟨i,j,hij,by omega,e⟩
  have:=Ui hnd (n:=n) (λx hx=>by
   obtain⟨i,_,rfl⟩:=List.mem_map.1 hx
   exact lY A i)
  simp only[List.length_map,List.length_range] at this;omega
 obtain⟨i,j,hij,hj,e⟩:=h;refine⟨j-i,by omega,by omega,?_⟩;have e2:pw n a j=aT (pw n a i) (pw n a (j-i)):=by rw[←Xr A,show i+(j-i)=j from by omega]
 refine tG (lY A (j-i)) (bE.one n) (lY A i) ?_;rw[←e2,cG (lY A i),e]
inductive fC (n:Nat) (L:List Nat->Prop):List Nat->Prop where
 |one:fC n L (bH n)
 |mul {x g:List Nat}:fC n L x->L g->fC n L (aT x g)
variable {L M:List Nat->Prop}
theorem fC.dV (hL: ∀g,L g->bE n g)(h:fC n L x):bE n x:=by
 induction h with
 |one=>exact bE.one n
 |mul _ hg ih=>exact ih.mul (hL _ hg)
theorem fC.of (hL: ∀g,L g->bE n g){g:List Nat}(h:L g):fC n L g:=by
 have:=fC.mul (n:=n) fC.one h;rwa [fA (hL g h)] at this
theorem fC.app (hL: ∀g,L g->bE n g){y:List Nat}(hx:fC n L x)(hy:fC n L y):fC n L (aT x y):=by
 induction hy with
 |one=>rwa [cG (hx.dV hL)]
 |mul hy hg ih=>rw[←aV (hx.dV hL) (hy.dV hL) (hL _ hg)];exact ih.mul hg
theorem fC.pow (hL: ∀g,L g->bE n g)(hx:fC n L x): ∀k,fC n L (pw n x k)
 |0=> .one
 |k+1=>(fC.pow hL hx k).app hL hx
theorem fC.inv (hL: ∀g,L g->bE n g)(hx:fC n L x):fC n L (cM x):=by
 have A:=hx.dV hL;obtain⟨k,h0,_,hk⟩:=Ph A
 have e:cM x=pw n x (k- 1):=by
  refine Ca A.inv (lY A _) A ?_;rw[gH A];show _=pw n x (k- 1+1);rw[show k- 1+1=k from by omega,hk]
 rw[e];exact hx.pow hL _
theorem fC.nH (hL: ∀g,L g->bE n g):sW n (fC n L):=⟨λh=>h.dV hL,.one,λh k=>h.app hL k,λh=>h.inv hL⟩
theorem fC.le {G:List Nat->Prop}(hG:sW n G)(h: ∀g,L g->G g)(hx:fC n L x):G x:=by
 induction hx with
 |one=>exact hG.one
 |mul _ hg ih=>exact hG.mul ih (h _ hg)
theorem fC.mono (h: ∀g,L g->M g)(hx:fC n L x):fC n M x:=by
 induction hx with
 |one=>exact .one
 |mul _ hg ih=>exact ih.mul (h _ hg)
end
end
end Go.Pm
