/- Permutations as lists of numbers: products, inverses. -/
namespace Go.Pm
section
variable {i:Nat} {x:List Nat}
abbrev yA:=List (List Nat)
abbrev IH:=List (List (List Nat))
structure bG (n:Nat)(a:List Nat):Prop where
 len:a.length=n
 nd:a.Nodup
 lt: ∀x∈a,x<n
abbrev at' (a:List Nat)(i:Nat):Nat:=a.getD i 0
def aS (a b:List Nat):List Nat:=a.map λp=>b.getD p 0
def bW (n:Nat):List Nat:=List.range n
def cF (a:List Nat):List Nat:=(List.range a.length).map λj=>a.idxOf j
theorem cJ {a:List Nat}(h:i<a.length):a.getD i 0=a[i]:=by simp [List.getD,h]
theorem sE {a b:List Nat}(hl:a.length=b.length)(h: ∀i,i<a.length->a.getD i 0=b.getD i 0):a=b:=by
 refine List.ext_getElem hl λi h1 h2=>?_
 have:=h i h1;rwa [cJ h1,cJ h2] at this
section
variable {n:Nat} {a b c:List Nat}
theorem bG.eZ (A:bG n a)(hi:i<n):a.getD i 0<n:=by
 have h:i<a.length:=by rw[A.len];exact hi
 rw[cJ h];exact A.lt _ (List.getElem_mem h)
theorem bG.inj (A:bG n a){j:Nat}(hi:i<n)(hj:j<n)(h:a.getD i 0=a.getD j 0):i=j:=by
 have h1:i<a.length:=by rw[A.len];exact hi
 have h2:j<a.length:=by rw[A.len];exact hj
 rw[cJ h1,cJ h2] at h;have e1:=A.nd.idxOf_getElem i h1;have e2:=A.nd.idxOf_getElem j h2;rw[h] at e1;exact e1.symm.trans e2
theorem bG.Pn (hl:a.length=n)(h1: ∀i,i<n->a.getD i 0<n)(h2: ∀i j,i<n->j<n->a.getD i 0=a.getD j 0->i=j):bG n a:=by
 refine⟨hl,?_,λx hx=>?_⟩
 ·rw[List.nodup_iff_pairwise_ne,List.pairwise_iff_getElem]
  intro i j hi hj hij e;have:=h2 i j (by omega) (by omega) (by rw[cJ hi,cJ hj];exact e);omega
 ·obtain⟨i,hi,rfl⟩:=List.mem_iff_getElem.1 hx
  have:=h1 i (by omega);rwa [cJ hi] at this
theorem bG.mem (A:bG n a){p:Nat}(hp:p<n):p∈a:=by
 refine Classical.byContradiction λhn=>?_
 have hnd:(p::a).Nodup:=List.nodup_cons.2 ⟨hn,A.nd⟩
 have hs:(p::a) ⊆ List.range n:=λx hx=>by
  rcases List.mem_cons.1 hx with rfl|hx
  ·exact List.mem_range.2 hp
  ·exact List.mem_range.2 (A.lt x hx)
 have:=List.Nodup.length_le_of_subset hnd hs;have hl:=A.len;simp only[List.length_cons,List.length_range] at this;omega
theorem bG.idx (A:bG n a){p:Nat}(hp:p<n):a.idxOf p<n/\a.getD (a.idxOf p) 0=p:=by
 have h:=List.idxOf_lt_length_iff.2 (A.mem hp);refine⟨by rw[←A.len];exact h,?_⟩;rw[cJ h,List.getElem_idxOf]
theorem fK (a b:List Nat):(aS a b).length=a.length:=by simp [aS]
theorem cU (hi:i<a.length):(aS a b).getD i 0=b.getD (a.getD i 0) 0:=by
 have h:i<(aS a b).length:=by rw[fK];exact hi
 rw[cJ h,cJ hi];simp [aS]
theorem iB (n:Nat):(bW n).length=n:=by simp [bW]
theorem fD {n:Nat}(hi:i<n):(bW n).getD i 0=i:=by
 have h:i<(bW n).length:=by rw[iB];exact hi
 rw[cJ h];simp [bW]
theorem jS (a:List Nat):(cF a).length=a.length:=by simp [cF]
theorem pZ (hi:i<a.length):(cF a).getD i 0=a.idxOf i:=by
 have h:i<(cF a).length:=by rw[jS];exact hi
 rw[cJ h];simp [cF]
theorem bG.one (n:Nat):bG n (bW n):=⟨iB n,List.nodup_range,λx hx=>List.mem_range.1 hx⟩
theorem bG.mul (A:bG n a)(B:bG n b):bG n (aS a b):=by
 refine bG.Pn (by rw[fK,A.len]) (λi hi=>?_) (λi j hi hj h=>?_)
 ·rw[cU (by rw[A.len];exact hi)];exact B.eZ (A.eZ hi)
 ·rw[cU (by rw[A.len];exact hi),cU (by rw[A.len];exact hj)] at h
  exact A.inj hi hj (B.inj (A.eZ hi) (A.eZ hj) h)
theorem bG.inv (A:bG n a):bG n (cF a):=by
 refine bG.Pn (by rw[jS,A.len]) (λi hi=>?_) (λi j hi hj h=>?_)
 ·rw[pZ (by rw[A.len];exact hi)];exact (A.idx hi).1
 ·rw[pZ (by rw[A.len];exact hi),pZ (by rw[A.len];exact hj)] at h
  rw[←(A.idx hi).2,←(A.idx hj).2,h]
theorem aW (A:bG n a)(B:bG n b)(C:bG n c):aS (aS a b) c=aS a (aS b c):=by
 refine sE (by simp only[fK]) λi hi=>?_
 rw[fK,fK] at hi;have hn:i<n:=by rw[←A.len];exact hi
 rw[cU (by rw[fK];exact hi),cU hi,cU hi,cU (by rw[B.len];exact A.eZ hn)]
theorem cI (A:bG n a):aS a (bW n)=a:=by
 refine sE (fK _ _) λi hi=>?_
 rw[fK] at hi;rw[cU hi,fD (A.eZ (by rw[←A.len];exact hi))]
theorem eY (A:bG n a):aS (bW n) a=a:=by
 refine sE (by rw[fK,iB,A.len]) λi hi=>?_
 rw[fK,iB] at hi;rw[cU (by rw[iB];exact hi),fD hi]
theorem iA (A:bG n a):aS a (cF a)=bW n:=by
 refine sE (by rw[fK,iB,A.len]) λi hi=>?_
 rw[fK] at hi;have hn:i<n:=by rw[←A.len];exact hi
 rw[cU hi,fD hn,pZ (by rw[A.len];exact A.eZ hn)];exact A.inj ((A.idx (A.eZ hn)).1) hn ((A.idx (A.eZ hn)).2)
theorem gG (A:bG n a):aS (cF a) a=bW n:=by
 refine sE (by rw[fK,iB,jS,A.len]) λi hi=>?_
 rw[fK,jS] at hi;have hn:i<n:=by rw[←A.len];exact hi
 rw[cU (by rw[jS];exact hi),fD hn,pZ hi];exact (A.idx hn).2
theorem yE (n:Nat):cF (bW n)=bW n:=by
 have:=iA (bG.one n);rwa [eY (bG.one n).inv] at this
theorem xE (A:bG n a)(B:bG n b)(C:bG n c)(h:aS a c=aS b c):a=b:=by
 have:=congrArg (λx=>aS x (cF c)) h
 try simp only at this
 rwa [aW A C C.inv,aW B C C.inv,iA C,cI A,cI B] at this
theorem yW (A:bG n a)(B:bG n b)(C:bG n c)(h:aS c a=aS c b):a=b:=by
 have:=congrArg (λx=>aS (cF c) x) h
 try simp only at this
 rwa [←aW C.inv C A,←aW C.inv C B,gG C,eY A,eY B] at this
theorem Cy (A:bG n a)(B:bG n b):cF (aS a b)=aS (cF b) (cF a):=by
 refine yW (A.mul B).inv (B.inv.mul A.inv) (A.mul B) ?_;rw[iA (A.mul B),aW A B (B.inv.mul A.inv),←aW B B.inv A.inv,iA B,eY A.inv,iA A]
theorem rT (A:bG n a):cF (cF a)=a:=by
 refine yW A.inv.inv A A.inv ?_;rw[iA A.inv,gG A]
theorem sW (A:bG n a)(hi:i<n):(cF a).getD (a.getD i 0) 0=i:=by
 have:=congrArg (λx=>x.getD i 0) (iA A)
 try simp only at this
 rwa [cU (by rw[A.len];exact hi),fD hi] at this
theorem XR (A:bG n a)(hi:i<n):a.getD ((cF a).getD i 0) 0=i:=by
 have:=congrArg (λx=>x.getD i 0) (gG A)
 try simp only at this
 rwa [cU (by rw[jS,A.len];exact hi),fD hi] at this
structure rO (n:Nat)(G:List Nat->Prop):Prop where
 dS: ∀{x},G x->bG n x
 one:G (bW n)
 mul: ∀{x y},G x->G y->G (aS x y)
 inv: ∀{x},G x->G (cF x)
def pw (n:Nat)(x:List Nat):Nat->List Nat
 |0=>bW n
 |k+1=>aS (pw n x k) x
theorem mL (A:bG n a): ∀k,bG n (pw n a k)
 |0=>bG.one n
 |k+1=>(mL A k).mul A
theorem Vz (A:bG n a)(i:Nat): ∀j,pw n a (i+j)=aS (pw n a i) (pw n a j)
 |0=>(cI (mL A i)).symm
 |j+1=>by
  show aS (pw n a (i+j)) a=aS (pw n a i) (aS (pw n a j) a);rw[Vz A i j,aW (mL A i) (mL A j) A]
def yT (n:Nat):Nat->yA
 |0=> [[]]
 |k+1=>(List.range n).flatMap λx=>(yT n k).map (x:: ·)
theorem Hq (n:Nat): ∀k,(yT n k).length=n^k
 |0=>rfl
 |k+1=>by
  simp only[yT,List.length_flatMap,List.length_map,Hq n k]
  have: ∀m c:Nat,((List.range m).map λ_=>c).sum=m*c:=by
   intro m c
   induction m with
   |zero=>simp
   |succ m ih=>rw[List.range_succ,List.map_append,List.sum_append,ih];simp [Nat.succ_mul]
  rw[this,Nat.pow_succ,Nat.mul_comm]
theorem rV (n:Nat): ∀(k:Nat) (l:List Nat),l.length=k->(∀x∈l,x<n)->l∈yT n k
 |0, [],_,_=>by simp [yT]
 |0,_::_,h,_=>by simp at h
 |k+1, [],h,_=>by simp at h
 |k+1,x::l,h,hx=>by
  simp only[yT,List.mem_flatMap,List.mem_map];exact⟨x,List.mem_range.2 (hx x (by simp)),l,rV n k l (by simpa using h) (λy hy=>hx y (by simp [hy])),rfl⟩
theorem bG.rV (A:bG n a):a∈yT n n:=Go.Pm.rV n n a A.len A.lt
theorem Ui {l:yA}(hl:l.Nodup)(hp: ∀x∈l,bG n x):l.length<=n^n:=by
 rw[←Hq n n];exact List.Nodup.length_le_of_subset hl λx hx=>(hp x hx).rV
theorem Qw (A:bG n a): ∃k,0<k/\k<=n^n/\pw n a k=bW n:=by
 have h: ∃i j,i<j/\j<=n^n/\pw n a i=pw n a j:=by
  refine Classical.byContradiction λhn=>?_
  have hnd:((List.range (n^n+1)).map (pw n a)).Nodup:=by
   rw[List.nodup_iff_pairwise_ne,List.pairwise_iff_getElem];intro i j hi hj hij e;simp only[List.length_map,List.length_range] at hi hj;simp only[List.getElem_map,List.getElem_range] at e;exact hn ⟨i,j,hij,by omega,e⟩
  have:=Ui hnd (n:=n) (λx hx=>by
   obtain⟨i,_,rfl⟩:=List.mem_map.1 hx
   exact mL A i)
  simp only[List.length_map,List.length_range] at this;omega
 obtain⟨i,j,hij,hj,e⟩:=h;refine⟨j-i,by omega,by omega,?_⟩;have e2:pw n a j=aS (pw n a i) (pw n a (j-i)):=by rw[←Vz A,show i+(j-i)=j from by omega]
 refine yW (mL A (j-i)) (bG.one n) (mL A i) ?_;rw[←e2,cI (mL A i),e]
inductive fF (n:Nat) (L:List Nat->Prop):List Nat->Prop where
 |one:fF n L (bW n)
 |mul {x g:List Nat}:fF n L x->L g->fF n L (aS x g)
variable {L M:List Nat->Prop}
theorem fF.dS (hL: ∀g,L g->bG n g)(h:fF n L x):bG n x:=by
 induction h with
 |one=>exact bG.one n
 |mul _ hg ih=>exact ih.mul (hL _ hg)
theorem fF.of (hL: ∀g,L g->bG n g){g:List Nat}(h:L g):fF n L g:=by
 have:=fF.mul (n:=n) fF.one h;rwa [eY (hL g h)] at this
theorem fF.app (hL: ∀g,L g->bG n g){y:List Nat}(hx:fF n L x)(hy:fF n L y):fF n L (aS x y):=by
 induction hy with
 |one=>rwa [cI (hx.dS hL)]
 |mul hy hg ih=>rw[←aW (hx.dS hL) (hy.dS hL) (hL _ hg)];exact ih.mul hg
theorem fF.pow (hL: ∀g,L g->bG n g)(hx:fF n L x): ∀k,fF n L (pw n x k)
 |0=> .one
 |k+1=>(fF.pow hL hx k).app hL hx
theorem fF.inv (hL: ∀g,L g->bG n g)(hx:fF n L x):fF n L (cF x):=by
 have A:=hx.dS hL;obtain⟨k,h0,_,hk⟩:=Qw A
 have e:cF x=pw n x (k- 1):=by
  refine xE A.inv (mL A _) A ?_;rw[gG A];show _=pw n x (k- 1+1);rw[show k- 1+1=k from by omega,hk]
 rw[e];exact hx.pow hL _
theorem fF.oG (hL: ∀g,L g->bG n g):rO n (fF n L):=⟨λh=>h.dS hL,.one,λh k=>h.app hL k,λh=>h.inv hL⟩
theorem fF.le {G:List Nat->Prop}(hG:rO n G)(h: ∀g,L g->G g)(hx:fF n L x):G x:=by
 induction hx with
 |one=>exact hG.one
 |mul _ hg ih=>exact hG.mul ih (h _ hg)
theorem fF.mono (h: ∀g,L g->M g)(hx:fF n L x):fF n M x:=by
 induction hx with
 |one=>exact .one
 |mul _ hg ih=>exact ih.mul (h _ hg)
end
end
end Go.Pm
