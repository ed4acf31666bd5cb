/- Permutations as lists of numbers: products, inverses. -/
namespace Go.Pm
section
variable {i:Nat} {x:List Nat}
abbrev wV:=List (List Nat)
abbrev IF:=List (List (List Nat))
structure bG (n:Nat)(a:List Nat):Prop where
 len:a.length=n
 nd:a.Nodup
 lt: ∀x∈a,x<n
abbrev at' (a:List Nat)(i:Nat):Nat:=a.getD i 0
def aV (a b:List Nat):List Nat:=a.map λp=>b.getD p 0
def bZ (n:Nat):List Nat:=List.range n
def dI (a:List Nat):List Nat:=(List.range a.length).map λj=>a.idxOf j
theorem cT {a:List Nat}(h:i<a.length):a.getD i 0=a[i]:=by simp [List.getD,h]
theorem tN {a b:List Nat}(hl:a.length=b.length)(h: ∀i,i<a.length->a.getD i 0=b.getD i 0):a=b:=by
 refine List.ext_getElem hl λi h1 h2=>?_
 have:=h i h1;rwa [cT h1,cT h2] at this
section
variable {n:Nat} {a b c:List Nat}
theorem bG.fW (A:bG n a)(hi:i<n):a.getD i 0<n:=by
 have h:i<a.length:=by rw[A.len];exact hi
 rw[cT h];exact A.lt _ (List.getElem_mem h)
theorem bG.inj (A:bG n a){j:Nat}(hi:i<n)(hj:j<n)(h:a.getD i 0=a.getD j 0):i=j:=by
 have h1:i<a.length:=by rw[A.len];exact hi
 have h2:j<a.length:=by rw[A.len];exact hj
 rw[cT h1,cT h2] at h;have e1:=A.nd.idxOf_getElem i h1;have e2:=A.nd.idxOf_getElem j h2;rw[h] at e1;exact e1.symm.trans e2
theorem bG.FX (hl:a.length=n)(h1: ∀i,i<n->a.getD i 0<n)(h2: ∀i j,i<n->j<n->a.getD i 0=a.getD j 0->i=j):bG n a:=by
 refine⟨hl,?_,λx hx=>?_⟩
 ·rw[List.nodup_iff_pairwise_ne,List.pairwise_iff_getElem]
  intro i j hi hj hij e;have:=h2 i j (by omega) (by omega) (by rw[cT hi,cT hj];exact e);omega
 ·obtain⟨i,hi,rfl⟩:=List.mem_iff_getElem.1 hx
  have:=h1 i (by omega);rwa [cT hi] at this
theorem bG.mem (A:bG n a){p:Nat}(hp:p<n):p∈a:=by
 refine Classical.byContradiction λhn=>?_
 have hnd:(p::a).Nodup:=List.nodup_cons.2 ⟨hn,A.nd⟩
 have hs:(p::a) ⊆ List.range n:=λx hx=>by
  rcases List.mem_cons.1 hx with rfl|hx
  ·exact List.mem_range.2 hp
  ·exact List.mem_range.2 (A.lt x hx)
 have:=List.Nodup.length_le_of_subset hnd hs;have hl:=A.len;simp only[List.length_cons,List.length_range] at this;omega
theorem bG.idx (A:bG n a){p:Nat}(hp:p<n):a.idxOf p<n/\a.getD (a.idxOf p) 0=p:=by
 have h:=List.idxOf_lt_length_iff.2 (A.mem hp);refine⟨by rw[←A.len];exact h,?_⟩;rw[cT h,List.getElem_idxOf]
theorem eV (a b:List Nat):(aV a b).length=a.length:=by simp [aV]
theorem cH (hi:i<a.length):(aV a b).getD i 0=b.getD (a.getD i 0) 0:=by
 have h:i<(aV a b).length:=by rw[eV];exact hi
 rw[cT h,cT hi];simp [aV]
theorem iT (n:Nat):(bZ n).length=n:=by simp [bZ]
theorem fD {n:Nat}(hi:i<n):(bZ n).getD i 0=i:=by
 have h:i<(bZ n).length:=by rw[iT];exact hi
 rw[cT h];simp [bZ]
theorem kW (a:List Nat):(dI a).length=a.length:=by simp [dI]
theorem qQ (hi:i<a.length):(dI a).getD i 0=a.idxOf i:=by
 have h:i<(dI a).length:=by rw[kW];exact hi
 rw[cT h];simp [dI]
theorem bG.one (n:Nat):bG n (bZ n):=⟨iT n,List.nodup_range,λx hx=>List.mem_range.1 hx⟩
theorem bG.mul (A:bG n a)(B:bG n b):bG n (aV a b):=by
 refine bG.FX (by rw[eV,A.len]) (λi hi=>?_) (λi j hi hj h=>?_)
 ·rw[cH (by rw[A.len];exact hi)];exact B.fW (A.fW hi)
 ·rw[cH (by rw[A.len];exact hi),cH (by rw[A.len];exact hj)] at h
  exact A.inj hi hj (B.inj (A.fW hi) (A.fW hj) h)
theorem bG.inv (A:bG n a):bG n (dI a):=by
 refine bG.FX (by rw[kW,A.len]) (λi hi=>?_) (λi j hi hj h=>?_)
 ·rw[qQ (by rw[A.len];exact hi)];exact (A.idx hi).1
 ·rw[qQ (by rw[A.len];exact hi),qQ (by rw[A.len];exact hj)] at h
  rw[←(A.idx hi).2,←(A.idx hj).2,h]
theorem aX (A:bG n a)(B:bG n b)(C:bG n c):aV (aV a b) c=aV a (aV b c):=by
 refine tN (by simp only[eV]) λi hi=>?_
 rw[eV,eV] at hi;have hn:i<n:=by rw[←A.len];exact hi
 rw[cH (by rw[eV];exact hi),cH hi,cH hi,cH (by rw[B.len];exact A.fW hn)]
theorem cI (A:bG n a):aV a (bZ n)=a:=by
 refine tN (eV _ _) λi hi=>?_
 rw[eV] at hi;rw[cH hi,fD (A.fW (by rw[←A.len];exact hi))]
theorem fV (A:bG n a):aV (bZ n) a=a:=by
 refine tN (by rw[eV,iT,A.len]) λi hi=>?_
 rw[eV,iT] at hi;rw[cH (by rw[iT];exact hi),fD hi]
theorem jI (A:bG n a):aV a (dI a)=bZ n:=by
 refine tN (by rw[eV,iT,A.len]) λi hi=>?_
 rw[eV] at hi;have hn:i<n:=by rw[←A.len];exact hi
 rw[cH hi,fD hn,qQ (by rw[A.len];exact A.fW hn)];exact A.inj ((A.idx (A.fW hn)).1) hn ((A.idx (A.fW hn)).2)
theorem jE (A:bG n a):aV (dI a) a=bZ n:=by
 refine tN (by rw[eV,iT,kW,A.len]) λi hi=>?_
 rw[eV,kW] at hi;have hn:i<n:=by rw[←A.len];exact hi
 rw[cH (by rw[kW];exact hi),fD hn,qQ hi];exact (A.idx hn).2
theorem xS (n:Nat):dI (bZ n)=bZ n:=by
 have:=jI (bG.one n);rwa [fV (bG.one n).inv] at this
theorem Nu (A:bG n a)(B:bG n b)(C:bG n c)(h:aV a c=aV b c):a=b:=by
 have:=congrArg (λx=>aV x (dI c)) h
 try simp only at this
 rwa [aX A C C.inv,aX B C C.inv,jI C,cI A,cI B] at this
theorem Ei (A:bG n a)(B:bG n b)(C:bG n c)(h:aV c a=aV c b):a=b:=by
 have:=congrArg (λx=>aV (dI c) x) h
 try simp only at this
 rwa [←aX C.inv C A,←aX C.inv C B,jE C,fV A,fV B] at this
theorem IS (A:bG n a)(B:bG n b):dI (aV a b)=aV (dI b) (dI a):=by
 refine Ei (A.mul B).inv (B.inv.mul A.inv) (A.mul B) ?_;rw[jI (A.mul B),aX A B (B.inv.mul A.inv),←aX B B.inv A.inv,jI B,fV A.inv,jI A]
theorem rL (A:bG n a)(hi:i<n):(dI a).getD (a.getD i 0) 0=i:=by
 have:=congrArg (λx=>x.getD i 0) (jI A)
 try simp only at this
 rwa [cH (by rw[A.len];exact hi),fD hi] at this
theorem UU (A:bG n a)(hi:i<n):a.getD ((dI a).getD i 0) 0=i:=by
 have:=congrArg (λx=>x.getD i 0) (jE A)
 try simp only at this
 rwa [cH (by rw[kW,A.len];exact hi),fD hi] at this
structure tL (n:Nat)(G:List Nat->Prop):Prop where
 fI: ∀{x},G x->bG n x
 one:G (bZ n)
 mul: ∀{x y},G x->G y->G (aV x y)
 inv: ∀{x},G x->G (dI x)
def pw (n:Nat)(x:List Nat):Nat->List Nat
 |0=>bZ n
 |k+1=>aV (pw n x k) x
theorem mJ (A:bG n a): ∀k,bG n (pw n a k)
 |0=>bG.one n
 |k+1=>(mJ A k).mul A
theorem Vs (A:bG n a)(i:Nat): ∀j,pw n a (i+j)=aV (pw n a i) (pw n a j)
 |0=>(cI (mJ A i)).symm
 |j+1=>by
  show aV (pw n a (i+j)) a=aV (pw n a i) (aV (pw n a j) a);rw[Vs A i j,aX (mJ A i) (mJ A j) A]
def xQ (n:Nat):Nat->wV
 |0=> [[]]
 |k+1=>(List.range n).flatMap λx=>(xQ n k).map (x:: ·)
theorem Ho (n:Nat): ∀k,(xQ n k).length=n^k
 |0=>rfl
 |k+1=>by
  simp only[xQ,List.length_flatMap,List.length_map,Ho n k]
  have: ∀m c:Nat,((List.range m).map λ_=>c).sum=m*c:=by
   intro m c
   induction m with
   |zero=>simp
   |succ m ih=>rw[List.range_succ,List.map_append,List.sum_append,ih];simp [Nat.succ_mul]
  rw[this,Nat.pow_succ,Nat.mul_comm]
theorem rR (n:Nat): ∀(k:Nat) (l:List Nat),l.length=k->(∀x∈l,x<n)->l∈xQ n k
 |0, [],_,_=>by simp [xQ]
 |0,_::_,h,_=>by simp at h
 |k+1, [],h,_=>by simp at h
 |k+1,x::l,h,hx=>by
  simp only[xQ,List.mem_flatMap,List.mem_map];exact⟨x,List.mem_range.2 (hx x (by simp)),l,rR n k l (by simpa using h) (λy hy=>hx y (by simp [hy])),rfl⟩
theorem bG.rR (A:bG n a):a∈xQ n n:=Go.Pm.rR n n a A.len A.lt
theorem Qv {l:wV}(hl:l.Nodup)(hp: ∀x∈l,bG n x):l.length<=n^n:=by
 rw[←Ho n n];exact List.Nodup.length_le_of_subset hl λx hx=>(hp x hx).rR
theorem Nw (A:bG n a): ∃k,0<k/\k<=n^n/\pw n a k=bZ n:=by
 have h: ∃i j,i<j/\j<=n^n/\pw n a i=pw n a j:=by
  refine Classical.byContradiction λhn=>?_
  have hnd:((List.range (n^n+1)).map (pw n a)).Nodup:=by
   rw[List.nodup_iff_pairwise_ne,List.pairwise_iff_getElem];intro i j hi hj hij e;simp only[List.length_map,List.length_range] at hi hj;simp only[List.getElem_map,List.getElem_range] at e;exact hn ⟨i,j,hij,by omega,e⟩
  have:=Qv hnd (n:=n) (λx hx=>by
   obtain⟨i,_,rfl⟩:=List.mem_map.1 hx
   exact mJ A i)
  simp only[List.length_map,List.length_range] at this;omega
 obtain⟨i,j,hij,hj,e⟩:=h;refine⟨j-i,by omega,by omega,?_⟩;have e2:pw n a j=aV (pw n a i) (pw n a (j-i)):=by rw[←Vs A,show i+(j-i)=j from by omega]
 refine Ei (mJ A (j-i)) (bG.one n) (mJ A i) ?_;rw[←e2,cI (mJ A i),e]
inductive eQ (n:Nat) (L:List Nat->Prop):List Nat->Prop where
 |one:eQ n L (bZ n)
 |mul {x g:List Nat}:eQ n L x->L g->eQ n L (aV x g)
variable {L M:List Nat->Prop}
theorem eQ.fI (hL: ∀g,L g->bG n g)(h:eQ n L x):bG n x:=by
 induction h with
 |one=>exact bG.one n
 |mul _ hg ih=>exact ih.mul (hL _ hg)
theorem eQ.of (hL: ∀g,L g->bG n g){g:List Nat}(h:L g):eQ n L g:=by
 have:=eQ.mul (n:=n) eQ.one h;rwa [fV (hL g h)] at this
theorem eQ.app (hL: ∀g,L g->bG n g){y:List Nat}(hx:eQ n L x)(hy:eQ n L y):eQ n L (aV x y):=by
 induction hy with
 |one=>rwa [cI (hx.fI hL)]
 |mul hy hg ih=>rw[←aX (hx.fI hL) (hy.fI hL) (hL _ hg)];exact ih.mul hg
theorem eQ.pow (hL: ∀g,L g->bG n g)(hx:eQ n L x): ∀k,eQ n L (pw n x k)
 |0=> .one
 |k+1=>(eQ.pow hL hx k).app hL hx
theorem eQ.inv (hL: ∀g,L g->bG n g)(hx:eQ n L x):eQ n L (dI x):=by
 have A:=hx.fI hL;obtain⟨k,h0,_,hk⟩:=Nw A
 have e:dI x=pw n x (k- 1):=by
  refine Nu A.inv (mJ A _) A ?_;rw[jE A];show _=pw n x (k- 1+1);rw[show k- 1+1=k from by omega,hk]
 rw[e];exact hx.pow hL _
theorem eQ.kY (hL: ∀g,L g->bG n g):tL n (eQ n L):=⟨λh=>h.fI hL,.one,λh k=>h.app hL k,λh=>h.inv hL⟩
theorem eQ.le {G:List Nat->Prop}(hG:tL n G)(h: ∀g,L g->G g)(hx:eQ n L x):G x:=by
 induction hx with
 |one=>exact hG.one
 |mul _ hg ih=>exact hG.mul ih (h _ hg)
theorem eQ.mono (h: ∀g,L g->M g)(hx:eQ n L x):eQ n M x:=by
 induction hx with
 |one=>exact .one
 |mul _ hg ih=>exact ih.mul (h _ hg)
end
end
end Go.Pm
