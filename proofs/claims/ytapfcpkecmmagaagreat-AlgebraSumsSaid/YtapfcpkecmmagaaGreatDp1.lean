/- Permutations as lists of numbers: products, inverses. -/
namespace Go.Pm
section
variable {i:Nat} {x:List Nat}
abbrev xG:=List (List Nat)
abbrev GR:=List (List (List Nat))
structure bF (n:Nat)(a:List Nat):Prop where
 len:a.length=n
 nd:a.Nodup
 lt: ∀x∈a,x<n
abbrev at' (a:List Nat)(i:Nat):Nat:=a.getD i 0
def aU (a b:List Nat):List Nat:=a.map λp=>b.getD p 0
def bI (n:Nat):List Nat:=List.range n
def dA (a:List Nat):List Nat:=(List.range a.length).map λj=>a.idxOf j
theorem cT {a:List Nat}(h:i<a.length):a.getD i 0=a[i]:=by simp [List.getD,h]
theorem rW {a b:List Nat}(hl:a.length=b.length)(h: ∀i,i<a.length->a.getD i 0=b.getD i 0):a=b:=by
 refine List.ext_getElem hl λi h1 h2=>?_
 have:=h i h1;rwa [cT h1,cT h2] at this
section
variable {n:Nat} {a b c:List Nat}
theorem bF.eY (A:bF n a)(hi:i<n):a.getD i 0<n:=by
 have h:i<a.length:=by rw[A.len];exact hi
 rw[cT h];exact A.lt _ (List.getElem_mem h)
theorem bF.inj (A:bF n a){j:Nat}(hi:i<n)(hj:j<n)(h:a.getD i 0=a.getD j 0):i=j:=by
 have h1:i<a.length:=by rw[A.len];exact hi
 have h2:j<a.length:=by rw[A.len];exact hj
 rw[cT h1,cT h2] at h;have e1:=A.nd.idxOf_getElem i h1;have e2:=A.nd.idxOf_getElem j h2;rw[h] at e1;exact e1.symm.trans e2
theorem bF.Ql (hl:a.length=n)(h1: ∀i,i<n->a.getD i 0<n)(h2: ∀i j,i<n->j<n->a.getD i 0=a.getD j 0->i=j):bF n a:=by
 refine⟨hl,?_,λx hx=>?_⟩
 ·rw[List.nodup_iff_pairwise_ne,List.pairwise_iff_getElem]
  intro i j hi hj hij e;have:=h2 i j (by omega) (by omega) (by rw[cT hi,cT hj];exact e);omega
 ·obtain⟨i,hi,rfl⟩:=List.mem_iff_getElem.1 hx
  have:=h1 i (by omega);rwa [cT hi] at this
theorem bF.mem (A:bF n a){p:Nat}(hp:p<n):p∈a:=by
 refine Classical.byContradiction λhn=>?_
 have hnd:(p::a).Nodup:=List.nodup_cons.2 ⟨hn,A.nd⟩
 have hs:(p::a) ⊆ List.range n:=λx hx=>by
  rcases List.mem_cons.1 hx with rfl|hx
  ·exact List.mem_range.2 hp
  ·exact List.mem_range.2 (A.lt x hx)
 have:=List.Nodup.length_le_of_subset hnd hs;have hl:=A.len;simp only[List.length_cons,List.length_range] at this;omega
theorem bF.idx (A:bF n a){p:Nat}(hp:p<n):a.idxOf p<n/\a.getD (a.idxOf p) 0=p:=by
 have h:=List.idxOf_lt_length_iff.2 (A.mem hp);refine⟨by rw[←A.len];exact h,?_⟩;rw[cT h,List.getElem_idxOf]
theorem fE (a b:List Nat):(aU a b).length=a.length:=by simp [aU]
theorem cV (hi:i<a.length):(aU a b).getD i 0=b.getD (a.getD i 0) 0:=by
 have h:i<(aU a b).length:=by rw[fE];exact hi
 rw[cT h,cT hi];simp [aU]
theorem gT (n:Nat):(bI n).length=n:=by simp [bI]
theorem eX {n:Nat}(hi:i<n):(bI n).getD i 0=i:=by
 have h:i<(bI n).length:=by rw[gT];exact hi
 rw[cT h];simp [bI]
theorem lE (a:List Nat):(dA a).length=a.length:=by simp [dA]
theorem qW (hi:i<a.length):(dA a).getD i 0=a.idxOf i:=by
 have h:i<(dA a).length:=by rw[lE];exact hi
 rw[cT h];simp [dA]
theorem bF.one (n:Nat):bF n (bI n):=⟨gT n,List.nodup_range,λx hx=>List.mem_range.1 hx⟩
theorem bF.mul (A:bF n a)(B:bF n b):bF n (aU a b):=by
 refine bF.Ql (by rw[fE,A.len]) (λi hi=>?_) (λi j hi hj h=>?_)
 ·rw[cV (by rw[A.len];exact hi)];exact B.eY (A.eY hi)
 ·rw[cV (by rw[A.len];exact hi),cV (by rw[A.len];exact hj)] at h
  exact A.inj hi hj (B.inj (A.eY hi) (A.eY hj) h)
theorem bF.inv (A:bF n a):bF n (dA a):=by
 refine bF.Ql (by rw[lE,A.len]) (λi hi=>?_) (λi j hi hj h=>?_)
 ·rw[qW (by rw[A.len];exact hi)];exact (A.idx hi).1
 ·rw[qW (by rw[A.len];exact hi),qW (by rw[A.len];exact hj)] at h
  rw[←(A.idx hi).2,←(A.idx hj).2,h]
theorem aW (A:bF n a)(B:bF n b)(C:bF n c):aU (aU a b) c=aU a (aU b c):=by
 refine rW (by simp only[fE]) λi hi=>?_
 rw[fE,fE] at hi;have hn:i<n:=by rw[←A.len];exact hi
 rw[cV (by rw[fE];exact hi),cV hi,cV hi,cV (by rw[B.len];exact A.eY hn)]
theorem bU (A:bF n a):aU a (bI n)=a:=by
 refine rW (fE _ _) λi hi=>?_
 rw[fE] at hi;rw[cV hi,eX (A.eY (by rw[←A.len];exact hi))]
theorem fF (A:bF n a):aU (bI n) a=a:=by
 refine rW (by rw[fE,gT,A.len]) λi hi=>?_
 rw[fE,gT] at hi;rw[cV (by rw[gT];exact hi),eX hi]
theorem iI (A:bF n a):aU a (dA a)=bI n:=by
 refine rW (by rw[fE,gT,A.len]) λi hi=>?_
 rw[fE] at hi;have hn:i<n:=by rw[←A.len];exact hi
 rw[cV hi,eX hn,qW (by rw[A.len];exact A.eY hn)];exact A.inj ((A.idx (A.eY hn)).1) hn ((A.idx (A.eY hn)).2)
theorem fM (A:bF n a):aU (dA a) a=bI n:=by
 refine rW (by rw[fE,gT,lE,A.len]) λi hi=>?_
 rw[fE,lE] at hi;have hn:i<n:=by rw[←A.len];exact hi
 rw[cV (by rw[lE];exact hi),eX hn,qW hi];exact (A.idx hn).2
theorem xO (n:Nat):dA (bI n)=bI n:=by
 have:=iI (bF.one n);rwa [fF (bF.one n).inv] at this
theorem Cx (A:bF n a)(B:bF n b)(C:bF n c)(h:aU a c=aU b c):a=b:=by
 have:=congrArg (λx=>aU x (dA c)) h
 try simp only at this
 rwa [aW A C C.inv,aW B C C.inv,iI C,bU A,bU B] at this
theorem qC (A:bF n a)(B:bF n b)(C:bF n c)(h:aU c a=aU c b):a=b:=by
 have:=congrArg (λx=>aU (dA c) x) h
 try simp only at this
 rwa [←aW C.inv C A,←aW C.inv C B,fM C,fF A,fF B] at this
theorem Jr (A:bF n a)(B:bF n b):dA (aU a b)=aU (dA b) (dA a):=by
 refine qC (A.mul B).inv (B.inv.mul A.inv) (A.mul B) ?_;rw[iI (A.mul B),aW A B (B.inv.mul A.inv),←aW B B.inv A.inv,iI B,fF A.inv,iI A]
theorem Cf (A:bF n a):dA (dA a)=a:=by
 refine qC A.inv.inv A A.inv ?_;rw[iI A.inv,fM A]
theorem rP (A:bF n a)(hi:i<n):(dA a).getD (a.getD i 0) 0=i:=by
 have:=congrArg (λx=>x.getD i 0) (iI A)
 try simp only at this
 rwa [cV (by rw[A.len];exact hi),eX hi] at this
theorem ZR (A:bF n a)(hi:i<n):a.getD ((dA a).getD i 0) 0=i:=by
 have:=congrArg (λx=>x.getD i 0) (fM A)
 try simp only at this
 rwa [cV (by rw[lE,A.len];exact hi),eX hi] at this
structure sZ (n:Nat)(G:List Nat->Prop):Prop where
 dY: ∀{x},G x->bF n x
 one:G (bI n)
 mul: ∀{x y},G x->G y->G (aU x y)
 inv: ∀{x},G x->G (dA x)
def pw (n:Nat)(x:List Nat):Nat->List Nat
 |0=>bI n
 |k+1=>aU (pw n x k) x
theorem jR (A:bF n a): ∀k,bF n (pw n a k)
 |0=>bF.one n
 |k+1=>(jR A k).mul A
theorem Hs (A:bF n a)(i:Nat): ∀j,pw n a (i+j)=aU (pw n a i) (pw n a j)
 |0=>(bU (jR A i)).symm
 |j+1=>by
  show aU (pw n a (i+j)) a=aU (pw n a i) (aU (pw n a j) a);rw[Hs A i j,aW (jR A i) (jR A j) A]
def yN (n:Nat):Nat->xG
 |0=> [[]]
 |k+1=>(List.range n).flatMap λx=>(yN n k).map (x:: ·)
theorem Ir (n:Nat): ∀k,(yN n k).length=n^k
 |0=>rfl
 |k+1=>by
  simp only[yN,List.length_flatMap,List.length_map,Ir n k]
  have: ∀m c:Nat,((List.range m).map λ_=>c).sum=m*c:=by
   intro m c
   induction m with
   |zero=>simp
   |succ m ih=>rw[List.range_succ,List.map_append,List.sum_append,ih];simp [Nat.succ_mul]
  rw[this,Nat.pow_succ,Nat.mul_comm]
theorem rO (n:Nat): ∀(k:Nat) (l:List Nat),l.length=k->(∀x∈l,x<n)->l∈yN n k
 |0, [],_,_=>by simp [yN]
 |0,_::_,h,_=>by simp at h
 |k+1, [],h,_=>by simp at h
 |k+1,x::l,h,hx=>by
  simp only[yN,List.mem_flatMap,List.mem_map];exact⟨x,List.mem_range.2 (hx x (by simp)),l,rO n k l (by simpa using h) (λy hy=>hx y (by simp [hy])),rfl⟩
theorem bF.rO (A:bF n a):a∈yN n n:=Go.Pm.rO n n a A.len A.lt
theorem Sz {l:xG}(hl:l.Nodup)(hp: ∀x∈l,bF n x):l.length<=n^n:=by
 rw[←Ir n n];exact List.Nodup.length_le_of_subset hl λx hx=>(hp x hx).rO
theorem Ox (A:bF n a): ∃k,0<k/\k<=n^n/\pw n a k=bI n:=by
 have h: ∃i j,i<j/\j<=n^n/\pw n a i=pw n a j:=by
  refine Classical.byContradiction λhn=>?_
  have hnd:((List.range (n^n+1)).map (pw n a)).Nodup:=by
   rw[List.nodup_iff_pairwise_ne,List.pairwise_iff_getElem];intro i j hi hj hij e;simp only[List.length_map,List.length_range] at hi hj;simp only[List.getElem_map,List.getElem_range] at e;exact hn ⟨i,j,hij,by omega,e⟩
  have:=Sz hnd (n:=n) (λx hx=>by
   obtain⟨i,_,rfl⟩:=List.mem_map.1 hx
   exact jR A i)
  simp only[List.length_map,List.length_range] at this;omega
 obtain⟨i,j,hij,hj,e⟩:=h;refine⟨j-i,by omega,by omega,?_⟩;have e2:pw n a j=aU (pw n a i) (pw n a (j-i)):=by rw[←Hs A,show i+(j-i)=j from by omega]
 refine qC (jR A (j-i)) (bF.one n) (jR A i) ?_;rw[←e2,bU (jR A i),e]
inductive dS (n:Nat) (L:List Nat->Prop):List Nat->Prop where
 |one:dS n L (bI n)
 |mul {x g:List Nat}:dS n L x->L g->dS n L (aU x g)
variable {L M:List Nat->Prop}
theorem dS.dY (hL: ∀g,L g->bF n g)(h:dS n L x):bF n x:=by
 induction h with
 |one=>exact bF.one n
 |mul _ hg ih=>exact ih.mul (hL _ hg)
theorem dS.of (hL: ∀g,L g->bF n g){g:List Nat}(h:L g):dS n L g:=by
 have:=dS.mul (n:=n) dS.one h;rwa [fF (hL g h)] at this
theorem dS.app (hL: ∀g,L g->bF n g){y:List Nat}(hx:dS n L x)(hy:dS n L y):dS n L (aU x y):=by
 induction hy with
 |one=>rwa [bU (hx.dY hL)]
 |mul hy hg ih=>rw[←aW (hx.dY hL) (hy.dY hL) (hL _ hg)];exact ih.mul hg
theorem dS.pow (hL: ∀g,L g->bF n g)(hx:dS n L x): ∀k,dS n L (pw n x k)
 |0=> .one
 |k+1=>(dS.pow hL hx k).app hL hx
theorem dS.inv (hL: ∀g,L g->bF n g)(hx:dS n L x):dS n L (dA x):=by
 have A:=hx.dY hL;obtain⟨k,h0,_,hk⟩:=Ox A
 have e:dA x=pw n x (k- 1):=by
  refine Cx A.inv (jR A _) A ?_;rw[fM A];show _=pw n x (k- 1+1);rw[show k- 1+1=k from by omega,hk]
 rw[e];exact hx.pow hL _
theorem dS.nC (hL: ∀g,L g->bF n g):sZ n (dS n L):=⟨λh=>h.dY hL,.one,λh k=>h.app hL k,λh=>h.inv hL⟩
theorem dS.le {G:List Nat->Prop}(hG:sZ n G)(h: ∀g,L g->G g)(hx:dS n L x):G x:=by
 induction hx with
 |one=>exact hG.one
 |mul _ hg ih=>exact hG.mul ih (h _ hg)
theorem dS.mono (h: ∀g,L g->M g)(hx:dS n L x):dS n M x:=by
 induction hx with
 |one=>exact .one
 |mul _ hg ih=>exact ih.mul (h _ hg)
end
end
end Go.Pm
