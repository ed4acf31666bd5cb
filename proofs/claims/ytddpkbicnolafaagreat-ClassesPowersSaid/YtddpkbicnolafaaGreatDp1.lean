/- Permutations as lists of numbers: products, inverses. -/
namespace Go.Pm
section
variable {i:Nat} {x:List Nat}
abbrev xY:=List (List Nat)
abbrev KA:=List (List (List Nat))
structure bY (n:Nat)(a:List Nat):Prop where
 len:a.length=n
 nd:a.Nodup
 lt: ∀x∈a,x<n
abbrev QF (a:List Nat)(i:Nat):Nat:=a.getD i 0
def bE (a b:List Nat):List Nat:=a.map λp=>b.getD p 0
def cJ (n:Nat):List Nat:=List.range n
def eX (a:List Nat):List Nat:=(List.range a.length).map λj=>a.idxOf j
theorem bJ {a:List Nat}(h:i<a.length):a.getD i 0=a[i]:=by simp [List.getD,h]
theorem uG {a b:List Nat}(hl:a.length=b.length)(h: ∀i,i<a.length->a.getD i 0=b.getD i 0):a=b:=by
 refine List.ext_getElem hl λi h1 h2=>?_
 have:=h i h1;rwa [bJ h1,bJ h2] at this
section
variable {n:Nat} {a b c:List Nat}
theorem bY.fU (A:bY n a)(hi:i<n):a.getD i 0<n:=by
 have h:i<a.length:=by rw[A.len];exact hi
 rw[bJ h];exact A.lt _ (List.getElem_mem h)
theorem bY.inj (A:bY n a){j:Nat}(hi:i<n)(hj:j<n)(h:a.getD i 0=a.getD j 0):i=j:=by
 have h1:i<a.length:=by rw[A.len];exact hi
 have h2:j<a.length:=by rw[A.len];exact hj
 rw[bJ h1,bJ h2] at h;have e1:=A.nd.idxOf_getElem i h1;have e2:=A.nd.idxOf_getElem j h2;rw[h] at e1;exact e1.symm.trans e2
theorem bY.LH (hl:a.length=n)(h1: ∀i,i<n->a.getD i 0<n)(h2: ∀i j,i<n->j<n->a.getD i 0=a.getD j 0->i=j):bY n a:=by
 refine⟨hl,?_,λx hx=>?_⟩
 ·rw[List.nodup_iff_pairwise_ne,List.pairwise_iff_getElem]
  intro i j hi hj hij e;have:=h2 i j (by omega) (by omega) (by rw[bJ hi,bJ hj];exact e);omega
 ·obtain⟨i,hi,rfl⟩:=List.mem_iff_getElem.1 hx
  have:=h1 i (by omega);rwa [bJ hi] at this
theorem bY.mem (A:bY n a){p:Nat}(hp:p<n):p∈a:=by
 refine Classical.byContradiction λhn=>?_
 have hnd:(p::a).Nodup:=List.nodup_cons.2 ⟨hn,A.nd⟩
 have hs:(p::a) ⊆ List.range n:=λx hx=>by
  rcases List.mem_cons.1 hx with rfl|hx
  ·exact List.mem_range.2 hp
  ·exact List.mem_range.2 (A.lt x hx)
 have:=List.Nodup.length_le_of_subset hnd hs;have hl:=A.len;simp only[List.length_cons,List.length_range] at this;omega
theorem bY.idx (A:bY n a){p:Nat}(hp:p<n):a.idxOf p<n/\a.getD (a.idxOf p) 0=p:=by
 have h:=List.idxOf_lt_length_iff.2 (A.mem hp);refine⟨by rw[←A.len];exact h,?_⟩;rw[bJ h,List.getElem_idxOf]
theorem fC (a b:List Nat):(bE a b).length=a.length:=by simp [bE]
theorem dA (hi:i<a.length):(bE a b).getD i 0=b.getD (a.getD i 0) 0:=by
 have h:i<(bE a b).length:=by rw[fC];exact hi
 rw[bJ h,bJ hi];simp [bE]
theorem jG (n:Nat):(cJ n).length=n:=by simp [cJ]
theorem fO {n:Nat}(hi:i<n):(cJ n).getD i 0=i:=by
 have h:i<(cJ n).length:=by rw[jG];exact hi
 rw[bJ h];simp [cJ]
theorem jF (a:List Nat):(eX a).length=a.length:=by simp [eX]
theorem wK (hi:i<a.length):(eX a).getD i 0=a.idxOf i:=by
 have h:i<(eX a).length:=by rw[jF];exact hi
 rw[bJ h];simp [eX]
theorem bY.one (n:Nat):bY n (cJ n):=⟨jG n,List.nodup_range,λx hx=>List.mem_range.1 hx⟩
theorem bY.mul (A:bY n a)(B:bY n b):bY n (bE a b):=by
 refine bY.LH (by rw[fC,A.len]) (λi hi=>?_) (λi j hi hj h=>?_)
 ·rw[dA (by rw[A.len];exact hi)];exact B.fU (A.fU hi)
 ·rw[dA (by rw[A.len];exact hi),dA (by rw[A.len];exact hj)] at h
  exact A.inj hi hj (B.inj (A.fU hi) (A.fU hj) h)
theorem bY.inv (A:bY n a):bY n (eX a):=by
 refine bY.LH (by rw[jF,A.len]) (λi hi=>?_) (λi j hi hj h=>?_)
 ·rw[wK (by rw[A.len];exact hi)];exact (A.idx hi).1
 ·rw[wK (by rw[A.len];exact hi),wK (by rw[A.len];exact hj)] at h
  rw[←(A.idx hi).2,←(A.idx hj).2,h]
theorem bG (A:bY n a)(B:bY n b)(C:bY n c):bE (bE a b) c=bE a (bE b c):=by
 refine uG (by simp only[fC]) λi hi=>?_
 rw[fC,fC] at hi;have hn:i<n:=by rw[←A.len];exact hi
 rw[dA (by rw[fC];exact hi),dA hi,dA hi,dA (by rw[B.len];exact A.fU hn)]
theorem cV (A:bY n a):bE a (cJ n)=a:=by
 refine uG (fC _ _) λi hi=>?_
 rw[fC] at hi;rw[dA hi,fO (A.fU (by rw[←A.len];exact hi))]
theorem fQ (A:bY n a):bE (cJ n) a=a:=by
 refine uG (by rw[fC,jG,A.len]) λi hi=>?_
 rw[fC,jG] at hi;rw[dA (by rw[jG];exact hi),fO hi]
theorem jE (A:bY n a):bE a (eX a)=cJ n:=by
 refine uG (by rw[fC,jG,A.len]) λi hi=>?_
 rw[fC] at hi;have hn:i<n:=by rw[←A.len];exact hi
 rw[dA hi,fO hn,wK (by rw[A.len];exact A.fU hn)];exact A.inj ((A.idx (A.fU hn)).1) hn ((A.idx (A.fU hn)).2)
theorem kU (A:bY n a):bE (eX a) a=cJ n:=by
 refine uG (by rw[fC,jG,jF,A.len]) λi hi=>?_
 rw[fC,jF] at hi;have hn:i<n:=by rw[←A.len];exact hi
 rw[dA (by rw[jF];exact hi),fO hn,wK hi];exact (A.idx hn).2
theorem yD (n:Nat):eX (cJ n)=cJ n:=by
 have:=jE (bY.one n);rwa [fQ (bY.one n).inv] at this
theorem Qz (A:bY n a)(B:bY n b)(C:bY n c)(h:bE a c=bE b c):a=b:=by
 have:=congrArg (λx=>bE x (eX c)) h
 try simp only at this
 rwa [bG A C C.inv,bG B C C.inv,jE C,cV A,cV B] at this
theorem Gi (A:bY n a)(B:bY n b)(C:bY n c)(h:bE c a=bE c b):a=b:=by
 have:=congrArg (λx=>bE (eX c) x) h
 try simp only at this
 rwa [←bG C.inv C A,←bG C.inv C B,kU C,fQ A,fQ B] at this
theorem HM (A:bY n a)(B:bY n b):eX (bE a b)=bE (eX b) (eX a):=by
 refine Gi (A.mul B).inv (B.inv.mul A.inv) (A.mul B) ?_;rw[jE (A.mul B),bG A B (B.inv.mul A.inv),←bG B B.inv A.inv,jE B,fQ A.inv,jE A]
theorem wM (A:bY n a)(hi:i<n):(eX a).getD (a.getD i 0) 0=i:=by
 have:=congrArg (λx=>x.getD i 0) (jE A)
 try simp only at this
 rwa [dA (by rw[A.len];exact hi),fO hi] at this
structure tP (n:Nat)(G:List Nat->Prop):Prop where
 fA: ∀{x},G x->bY n x
 one:G (cJ n)
 mul: ∀{x y},G x->G y->G (bE x y)
 inv: ∀{x},G x->G (eX x)
def pw (n:Nat)(x:List Nat):Nat->List Nat
 |0=>cJ n
 |k+1=>bE (pw n x k) x
theorem lJ (A:bY n a): ∀k,bY n (pw n a k)
 |0=>bY.one n
 |k+1=>(lJ A k).mul A
theorem Qu (A:bY n a)(i:Nat): ∀j,pw n a (i+j)=bE (pw n a i) (pw n a j)
 |0=>(cV (lJ A i)).symm
 |j+1=>by
  show bE (pw n a (i+j)) a=bE (pw n a i) (bE (pw n a j) a);rw[Qu A i j,bG (lJ A i) (lJ A j) A]
def Bj (n:Nat):Nat->xY
 |0=> [[]]
 |k+1=>(List.range n).flatMap λx=>(Bj n k).map (x:: ·)
theorem Lc (n:Nat): ∀k,(Bj n k).length=n^k
 |0=>rfl
 |k+1=>by
  simp only[Bj,List.length_flatMap,List.length_map,Lc n k]
  have: ∀m c:Nat,((List.range m).map λ_=>c).sum=m*c:=by
   intro m c
   induction m with
   |zero=>simp
   |succ m ih=>rw[List.range_succ,List.map_append,List.sum_append,ih];simp [Nat.succ_mul]
  rw[this,Nat.pow_succ,Nat.mul_comm]
theorem vZ (n:Nat): ∀(k:Nat) (l:List Nat),l.length=k->(∀x∈l,x<n)->l∈Bj n k
 |0, [],_,_=>by simp [Bj]
 |0,_::_,h,_=>by simp at h
 |k+1, [],h,_=>by simp at h
 |k+1,x::l,h,hx=>by
  simp only[Bj,List.mem_flatMap,List.mem_map];exact⟨x,List.mem_range.2 (hx x (by simp)),l,vZ n k l (by simpa using h) (λy hy=>hx y (by simp [hy])),rfl⟩
theorem bY.vZ (A:bY n a):a∈Bj n n:=Go.Pm.vZ n n a A.len A.lt
theorem Ji {l:xY}(hl:l.Nodup)(hp: ∀x∈l,bY n x):l.length<=n^n:=by
 rw[←Lc n n];exact List.Nodup.length_le_of_subset hl λx hx=>(hp x hx).vZ
theorem Pn (A:bY n a): ∃k,0<k/\k<=n^n/\pw n a k=cJ n:=by
 have h: ∃i j,i<j/\j<=n^n/\pw n a i=pw n a j:=by
  refine Classical.byContradiction λhn=>?_
  have hnd:((List.range (n^n+1)).map (pw n a)).Nodup:=by
   rw[List.nodup_iff_pairwise_ne,List.pairwise_iff_getElem];intro i j hi hj hij e;simp only[List.length_map,List.length_range] at hi hj;simp only[List.getElem_map,List.getElem_range] at e;exact hn ⟨i,j,hij,by omega,e⟩
  have:=Ji hnd (n:=n) (λx hx=>by
   obtain⟨i,_,rfl⟩:=List.mem_map.1 hx
   exact lJ A i)
  simp only[List.length_map,List.length_range] at this;omega
 obtain⟨i,j,hij,hj,e⟩:=h;refine⟨j-i,by omega,by omega,?_⟩;have e2:pw n a j=bE (pw n a i) (pw n a (j-i)):=by rw[←Qu A,show i+(j-i)=j from by omega]
 refine Gi (lJ A (j-i)) (bY.one n) (lJ A i) ?_;rw[←e2,cV (lJ A i),e]
inductive gO (n:Nat) (L:List Nat->Prop):List Nat->Prop where
 |one:gO n L (cJ n)
 |mul {x g:List Nat}:gO n L x->L g->gO n L (bE x g)
variable {L M:List Nat->Prop}
theorem gO.fA (hL: ∀g,L g->bY n g)(h:gO n L x):bY n x:=by
 induction h with
 |one=>exact bY.one n
 |mul _ hg ih=>exact ih.mul (hL _ hg)
theorem gO.of (hL: ∀g,L g->bY n g){g:List Nat}(h:L g):gO n L g:=by
 have:=gO.mul (n:=n) gO.one h;rwa [fQ (hL g h)] at this
theorem gO.app (hL: ∀g,L g->bY n g){y:List Nat}(hx:gO n L x)(hy:gO n L y):gO n L (bE x y):=by
 induction hy with
 |one=>rwa [cV (hx.fA hL)]
 |mul hy hg ih=>rw[←bG (hx.fA hL) (hy.fA hL) (hL _ hg)];exact ih.mul hg
theorem gO.pow (hL: ∀g,L g->bY n g)(hx:gO n L x): ∀k,gO n L (pw n x k)
 |0=> .one
 |k+1=>(gO.pow hL hx k).app hL hx
theorem gO.inv (hL: ∀g,L g->bY n g)(hx:gO n L x):gO n L (eX x):=by
 have A:=hx.fA hL;obtain⟨k,h0,_,hk⟩:=Pn A
 have e:eX x=pw n x (k- 1):=by
  refine Qz A.inv (lJ A _) A ?_;rw[kU A];show _=pw n x (k- 1+1);rw[show k- 1+1=k from by omega,hk]
 rw[e];exact hx.pow hL _
theorem gO.mI (hL: ∀g,L g->bY n g):tP n (gO n L):=⟨λh=>h.fA hL,.one,λh k=>h.app hL k,λh=>h.inv hL⟩
theorem gO.le {G:List Nat->Prop}(hG:tP n G)(h: ∀g,L g->G g)(hx:gO n L x):G x:=by
 induction hx with
 |one=>exact hG.one
 |mul _ hg ih=>exact hG.mul ih (h _ hg)
theorem gO.mono (h: ∀g,L g->M g)(hx:gO n L x):gO n M x:=by
 induction hx with
 |one=>exact .one
 |mul _ hg ih=>exact ih.mul (h _ hg)
end
end
end Go.Pm
