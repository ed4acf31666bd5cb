/- Permutations as lists of numbers: products, inverses. -/
namespace Go.Pm
section
variable {i:Nat} {x:List Nat}
abbrev oN:=List (List Nat)
abbrev Nv:=List (List (List Nat))
structure aX (n:Nat)(a:List Nat):Prop where
 len:a.length=n
 nd:a.Nodup
 lt: ∀x∈a,x<n
abbrev Xl (a:List Nat)(i:Nat):Nat:=a.getD i 0
def aQ (a b:List Nat):List Nat:=a.map λp=>b.getD p 0
def aW (n:Nat):List Nat:=List.range n
def bX (a:List Nat):List Nat:=(List.range a.length).map λj=>a.idxOf j
theorem cG {a:List Nat}(h:i<a.length):a.getD i 0=a[i]:=by simp [List.getD,h]
theorem lW {a b:List Nat}(hl:a.length=b.length)(h: ∀i,i<a.length->a.getD i 0=b.getD i 0):a=b:=by
 refine List.ext_getElem hl λi h1 h2=>?_
 have:=h i h1;rwa [cG h1,cG h2] at this
section
variable {n:Nat} {a b c:List Nat}
theorem aX.dU (A:aX n a)(hi:i<n):a.getD i 0<n:=by
 have h:i<a.length:=by rw[A.len];exact hi
 rw[cG h];exact A.lt _ (List.getElem_mem h)
theorem aX.inj (A:aX n a){j:Nat}(hi:i<n)(hj:j<n)(h:a.getD i 0=a.getD j 0):i=j:=by
 have h1:i<a.length:=by rw[A.len];exact hi
 have h2:j<a.length:=by rw[A.len];exact hj
 rw[cG h1,cG h2] at h;have e1:=A.nd.idxOf_getElem i h1;have e2:=A.nd.idxOf_getElem j h2;rw[h] at e1;exact e1.symm.trans e2
theorem aX.Bf (hl:a.length=n)(h1: ∀i,i<n->a.getD i 0<n)(h2: ∀i j,i<n->j<n->a.getD i 0=a.getD j 0->i=j):aX n a:=by
 refine⟨hl,?_,λx hx=>?_⟩
 ·rw[List.nodup_iff_pairwise_ne,List.pairwise_iff_getElem]
  intro i j hi hj hij e;have:=h2 i j (by omega) (by omega) (by rw[cG hi,cG hj];exact e);omega
 ·obtain⟨i,hi,rfl⟩:=List.mem_iff_getElem.1 hx
  have:=h1 i (by omega);rwa [cG hi] at this
theorem aX.mem (A:aX n a){p:Nat}(hp:p<n):p∈a:=by
 refine Classical.byContradiction λhn=>?_
 have hnd:(p::a).Nodup:=List.nodup_cons.2 ⟨hn,A.nd⟩
 have hs:(p::a) ⊆ List.range n:=λx hx=>by
  rcases List.mem_cons.1 hx with rfl|hx
  ·exact List.mem_range.2 hp
  ·exact List.mem_range.2 (A.lt x hx)
 have:=List.Nodup.length_le_of_subset hnd hs;have hl:=A.len;simp only[List.length_cons,List.length_range] at this;omega
theorem aX.idx (A:aX n a){p:Nat}(hp:p<n):a.idxOf p<n/\a.getD (a.idxOf p) 0=p:=by
 have h:=List.idxOf_lt_length_iff.2 (A.mem hp);refine⟨by rw[←A.len];exact h,?_⟩;rw[cG h,List.getElem_idxOf]
theorem dP (a b:List Nat):(aQ a b).length=a.length:=by simp [aQ]
theorem cH (hi:i<a.length):(aQ a b).getD i 0=b.getD (a.getD i 0) 0:=by
 have h:i<(aQ a b).length:=by rw[dP];exact hi
 rw[cG h,cG hi];simp [aQ]
theorem eJ (n:Nat):(aW n).length=n:=by simp [aW]
theorem dM {n:Nat}(hi:i<n):(aW n).getD i 0=i:=by
 have h:i<(aW n).length:=by rw[eJ];exact hi
 rw[cG h];simp [aW]
theorem gU (a:List Nat):(bX a).length=a.length:=by simp [bX]
theorem kU (hi:i<a.length):(bX a).getD i 0=a.idxOf i:=by
 have h:i<(bX a).length:=by rw[gU];exact hi
 rw[cG h];simp [bX]
theorem aX.one (n:Nat):aX n (aW n):=⟨eJ n,List.nodup_range,λx hx=>List.mem_range.1 hx⟩
theorem aX.mul (A:aX n a)(B:aX n b):aX n (aQ a b):=by
 refine aX.Bf (by rw[dP,A.len]) (λi hi=>?_) (λi j hi hj h=>?_)
 ·rw[cH (by rw[A.len];exact hi)];exact B.dU (A.dU hi)
 ·rw[cH (by rw[A.len];exact hi),cH (by rw[A.len];exact hj)] at h
  exact A.inj hi hj (B.inj (A.dU hi) (A.dU hj) h)
theorem aX.inv (A:aX n a):aX n (bX a):=by
 refine aX.Bf (by rw[gU,A.len]) (λi hi=>?_) (λi j hi hj h=>?_)
 ·rw[kU (by rw[A.len];exact hi)];exact (A.idx hi).1
 ·rw[kU (by rw[A.len];exact hi),kU (by rw[A.len];exact hj)] at h
  rw[←(A.idx hi).2,←(A.idx hj).2,h]
theorem aI (A:aX n a)(B:aX n b)(C:aX n c):aQ (aQ a b) c=aQ a (aQ b c):=by
 refine lW (by simp only[dP]) λi hi=>?_
 rw[dP,dP] at hi;have hn:i<n:=by rw[←A.len];exact hi
 rw[cH (by rw[dP];exact hi),cH hi,cH hi,cH (by rw[B.len];exact A.dU hn)]
theorem bB (A:aX n a):aQ a (aW n)=a:=by
 refine lW (dP _ _) λi hi=>?_
 rw[dP] at hi;rw[cH hi,dM (A.dU (by rw[←A.len];exact hi))]
theorem bW (A:aX n a):aQ (aW n) a=a:=by
 refine lW (by rw[dP,eJ,A.len]) λi hi=>?_
 rw[dP,eJ] at hi;rw[cH (by rw[eJ];exact hi),dM hi]
theorem dL (A:aX n a):aQ a (bX a)=aW n:=by
 refine lW (by rw[dP,eJ,A.len]) λi hi=>?_
 rw[dP] at hi;have hn:i<n:=by rw[←A.len];exact hi
 rw[cH hi,dM hn,kU (by rw[A.len];exact A.dU hn)];exact A.inj ((A.idx (A.dU hn)).1) hn ((A.idx (A.dU hn)).2)
theorem cZ (A:aX n a):aQ (bX a) a=aW n:=by
 refine lW (by rw[dP,eJ,gU,A.len]) λi hi=>?_
 rw[dP,gU] at hi;have hn:i<n:=by rw[←A.len];exact hi
 rw[cH (by rw[gU];exact hi),dM hn,kU hi];exact (A.idx hn).2
theorem nI (n:Nat):bX (aW n)=aW n:=by
 have:=dL (aX.one n);rwa [bW (aX.one n).inv] at this
theorem iY (A:aX n a)(B:aX n b)(C:aX n c)(h:aQ a c=aQ b c):a=b:=by
 have:=congrArg (λx=>aQ x (bX c)) h
 try simp only at this
 rwa [aI A C C.inv,aI B C C.inv,dL C,bB A,bB B] at this
theorem fF (A:aX n a)(B:aX n b)(C:aX n c)(h:aQ c a=aQ c b):a=b:=by
 have:=congrArg (λx=>aQ (bX c) x) h
 try simp only at this
 rwa [←aI C.inv C A,←aI C.inv C B,cZ C,bW A,bW B] at this
theorem rZ (A:aX n a)(B:aX n b):bX (aQ a b)=aQ (bX b) (bX a):=by
 refine fF (A.mul B).inv (B.inv.mul A.inv) (A.mul B) ?_;rw[dL (A.mul B),aI A B (B.inv.mul A.inv),←aI B B.inv A.inv,dL B,bW A.inv,dL A]
theorem lM (A:aX n a):bX (bX a)=a:=by
 refine fF A.inv.inv A A.inv ?_;rw[dL A.inv,cZ A]
theorem lE (A:aX n a)(hi:i<n):(bX a).getD (a.getD i 0) 0=i:=by
 have:=congrArg (λx=>x.getD i 0) (dL A)
 try simp only at this
 rwa [cH (by rw[A.len];exact hi),dM hi] at this
theorem Vc (A:aX n a)(hi:i<n):a.getD ((bX a).getD i 0) 0=i:=by
 have:=congrArg (λx=>x.getD i 0) (cZ A)
 try simp only at this
 rwa [cH (by rw[gU,A.len];exact hi),dM hi] at this
structure iL (n:Nat)(G:List Nat->Prop):Prop where
 isP: ∀{x},G x->aX n x
 one:G (aW n)
 mul: ∀{x y},G x->G y->G (aQ x y)
 inv: ∀{x},G x->G (bX x)
def pw (n:Nat)(x:List Nat):Nat->List Nat
 |0=>aW n
 |k+1=>aQ (pw n x k) x
theorem aY (A:aX n a): ∀k,aX n (pw n a k)
 |0=>aX.one n
 |k+1=>(aY A k).mul A
theorem fZ (A:aX n a)(i:Nat): ∀j,pw n a (i+j)=aQ (pw n a i) (pw n a j)
 |0=>(bB (aY A i)).symm
 |j+1=>by
  show aQ (pw n a (i+j)) a=aQ (pw n a i) (aQ (pw n a j) a);rw[fZ A i j,aI (aY A i) (aY A j) A]
def oU (n:Nat):Nat->oN
 |0=> [[]]
 |k+1=>(List.range n).flatMap λx=>(oU n k).map (x:: ·)
theorem uZ (n:Nat): ∀k,(oU n k).length=n^k
 |0=>rfl
 |k+1=>by
  simp only[oU,List.length_flatMap,List.length_map,uZ n k]
  have: ∀m c:Nat,((List.range m).map λ_=>c).sum=m*c:=by
   intro m c
   induction m with
   |zero=>simp
   |succ m ih=>rw[List.range_succ,List.map_append,List.sum_append,ih];simp [Nat.succ_mul]
  rw[this,Nat.pow_succ,Nat.mul_comm]
theorem lJ (n:Nat): ∀(k:Nat) (l:List Nat),l.length=k->(∀x∈l,x<n)->l∈oU n k
 |0, [],_,_=>by simp [oU]
 |0,_::_,h,_=>by simp at h
 |k+1, [],h,_=>by simp at h
 |k+1,x::l,h,hx=>by
  simp only[oU,List.mem_flatMap,List.mem_map];exact⟨x,List.mem_range.2 (hx x (by simp)),l,lJ n k l (by simpa using h) (λy hy=>hx y (by simp [hy])),rfl⟩
theorem aX.lJ (A:aX n a):a∈oU n n:=Go.Pm.lJ n n a A.len A.lt
theorem Br {l:oN}(hl:l.Nodup)(hp: ∀x∈l,aX n x):l.length<=n^n:=by
 rw[←uZ n n];exact List.Nodup.length_le_of_subset hl λx hx=>(hp x hx).lJ
theorem Ai (A:aX n a): ∃k,0<k/\k<=n^n/\pw n a k=aW n:=by
 have h: ∃i j,i<j/\j<=n^n/\pw n a i=pw n a j:=by
  refine Classical.byContradiction λhn=>?_
  have hnd:((List.range (n^n+1)).map (pw n a)).Nodup:=by
   rw[List.nodup_iff_pairwise_ne,List.pairwise_iff_getElem];intro i j hi hj hij e;simp only[List.length_map,List.length_range] at hi hj;simp only[List.getElem_map,List.getElem_range] at e;exact hn ⟨i,j,hij,by omega,e⟩
  have:=Br hnd (n:=n) (λx hx=>by
   obtain⟨i,_,rfl⟩:=List.mem_map.1 hx
   exact aY A i)
  simp only[List.length_map,List.length_range] at this;omega
 obtain⟨i,j,hij,hj,e⟩:=h;refine⟨j-i,by omega,by omega,?_⟩;have e2:pw n a j=aQ (pw n a i) (pw n a (j-i)):=by rw[←fZ A,show i+(j-i)=j from by omega]
 refine fF (aY A (j-i)) (aX.one n) (aY A i) ?_;rw[←e2,bB (aY A i),e]
inductive dF (n:Nat) (L:List Nat->Prop):List Nat->Prop where
 |one:dF n L (aW n)
 |mul {x g:List Nat}:dF n L x->L g->dF n L (aQ x g)
variable {L M:List Nat->Prop}
theorem dF.isP (hL: ∀g,L g->aX n g)(h:dF n L x):aX n x:=by
 induction h with
 |one=>exact aX.one n
 |mul _ hg ih=>exact ih.mul (hL _ hg)
theorem dF.of (hL: ∀g,L g->aX n g){g:List Nat}(h:L g):dF n L g:=by
 have:=dF.mul (n:=n) dF.one h;rwa [bW (hL g h)] at this
theorem dF.app (hL: ∀g,L g->aX n g){y:List Nat}(hx:dF n L x)(hy:dF n L y):dF n L (aQ x y):=by
 induction hy with
 |one=>rwa [bB (hx.isP hL)]
 |mul hy hg ih=>rw[←aI (hx.isP hL) (hy.isP hL) (hL _ hg)];exact ih.mul hg
theorem dF.pow (hL: ∀g,L g->aX n g)(hx:dF n L x): ∀k,dF n L (pw n x k)
 |0=> .one
 |k+1=>(dF.pow hL hx k).app hL hx
theorem dF.inv (hL: ∀g,L g->aX n g)(hx:dF n L x):dF n L (bX x):=by
 have A:=hx.isP hL;obtain⟨k,h0,_,hk⟩:=Ai A
 have e:bX x=pw n x (k- 1):=by
  refine iY A.inv (aY A _) A ?_;rw[cZ A];show _=pw n x (k- 1+1);rw[show k- 1+1=k from by omega,hk]
 rw[e];exact hx.pow hL _
theorem dF.grp (hL: ∀g,L g->aX n g):iL n (dF n L):=⟨λh=>h.isP hL,.one,λh k=>h.app hL k,λh=>h.inv hL⟩
theorem dF.le {G:List Nat->Prop}(hG:iL n G)(h: ∀g,L g->G g)(hx:dF n L x):G x:=by
 induction hx with
 |one=>exact hG.one
 |mul _ hg ih=>exact hG.mul ih (h _ hg)
theorem dF.mono (h: ∀g,L g->M g)(hx:dF n L x):dF n M x:=by
 induction hx with
 |one=>exact .one
 |mul _ hg ih=>exact ih.mul (h _ hg)
end
end
end Go.Pm
