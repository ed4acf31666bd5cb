/- Permutations as lists of numbers: products, inverses. -/
namespace Go.Pm
abbrev Dg:=List (List Nat)
abbrev LpN:=List (List (List Nat))
structure bX (n:Nat)(a:List Nat):Prop where
 len:a.length=n
 nd:a.Nodup
 lt: ∀x∈a,x<n
abbrev at' (a:List Nat)(i:Nat):Nat:=a.getD i 0
def bE (a b:List Nat):List Nat:=a.map λp=>b.getD p 0
def cJ (n:Nat):List Nat:=List.range n
def fC (a:List Nat):List Nat:=(List.range a.length).map λj=>a.idxOf j
theorem bJ {a:List Nat}{i:Nat}(h:i<a.length):a.getD i 0=a[i]:=by simp [List.getD,h]
theorem zN {a b:List Nat}(hl:a.length=b.length)(h: ∀i,i<a.length->a.getD i 0=b.getD i 0):a=b:=by
 refine List.ext_getElem hl λi h1 h2=>?_
 have:=h i h1
 rwa [bJ h1,bJ h2] at this
section
variable {n:Nat} {a b c:List Nat}
theorem bX.fW (A:bX n a){i:Nat}(hi:i<n):a.getD i 0<n:=by
 have h:i<a.length:=by rw[A.len];exact hi
 rw[bJ h];exact A.lt _ (List.getElem_mem h)
theorem bX.inj (A:bX n a){i j:Nat}(hi:i<n)(hj:j<n)(h:a.getD i 0=a.getD j 0):i=j:=by
 have h1:i<a.length:=by rw[A.len];exact hi
 have h2:j<a.length:=by rw[A.len];exact hj
 rw[bJ h1,bJ h2] at h
 have e1:=A.nd.idxOf_getElem i h1
 have e2:=A.nd.idxOf_getElem j h2
 rw[h] at e1
 exact e1.symm.trans e2
theorem bX.XX (hl:a.length=n)(h1: ∀i,i<n->a.getD i 0<n)(h2: ∀i j,i<n->j<n->a.getD i 0=a.getD j 0->i=j):bX n a:=by
 refine⟨hl,?_,λx hx=>?_⟩
 ·rw[List.nodup_iff_pairwise_ne,List.pairwise_iff_getElem]
  intro i j hi hj hij e
  have:=h2 i j (by omega) (by omega) (by rw[bJ hi,bJ hj];exact e)
  omega
 ·obtain⟨i,hi,rfl⟩:=List.mem_iff_getElem.1 hx
  have:=h1 i (by omega)
  rwa [bJ hi] at this
theorem bX.mem (A:bX n a){p:Nat}(hp:p<n):p∈a:=by
 refine Classical.byContradiction λhn=>?_
 have hnd:(p::a).Nodup:=List.nodup_cons.2 ⟨hn,A.nd⟩
 have hs:(p::a) ⊆ List.range n:=λx hx=>by
  rcases List.mem_cons.1 hx with rfl|hx
  ·exact List.mem_range.2 hp
  ·exact List.mem_range.2 (A.lt x hx)
 have:=List.Nodup.length_le_of_subset hnd hs
 have hl:=A.len
 simp only[List.length_cons,List.length_range] at this
 omega
theorem bX.idx (A:bX n a){p:Nat}(hp:p<n):a.idxOf p<n/\a.getD (a.idxOf p) 0=p:=by
 have h:=List.idxOf_lt_length_iff.2 (A.mem hp)
 refine⟨by rw[←A.len];exact h,?_⟩
 rw[bJ h,List.getElem_idxOf]
theorem eV (a b:List Nat):(bE a b).length=a.length:=by simp [bE]
theorem dD {i:Nat}(hi:i<a.length):(bE a b).getD i 0=b.getD (a.getD i 0) 0:=by
 have h:i<(bE a b).length:=by rw[eV];exact hi
 rw[bJ h,bJ hi];simp [bE]
theorem jW (n:Nat):(cJ n).length=n:=by simp [cJ]
theorem fU {n i:Nat}(hi:i<n):(cJ n).getD i 0=i:=by
 have h:i<(cJ n).length:=by rw[jW];exact hi
 rw[bJ h];simp [cJ]
theorem jN (a:List Nat):(fC a).length=a.length:=by simp [fC]
theorem Bx {i:Nat}(hi:i<a.length):(fC a).getD i 0=a.idxOf i:=by
 have h:i<(fC a).length:=by rw[jN];exact hi
 rw[bJ h];simp [fC]
theorem bX.one (n:Nat):bX n (cJ n):=⟨jW n,List.nodup_range,λx hx=>List.mem_range.1 hx⟩
theorem bX.mul (A:bX n a)(B:bX n b):bX n (bE a b):=by
 refine bX.XX (by rw[eV,A.len]) (λi hi=>?_) (λi j hi hj h=>?_)
 ·rw[dD (by rw[A.len];exact hi)];exact B.fW (A.fW hi)
 ·rw[dD (by rw[A.len];exact hi),dD (by rw[A.len];exact hj)] at h
  exact A.inj hi hj (B.inj (A.fW hi) (A.fW hj) h)
theorem bX.inv (A:bX n a):bX n (fC a):=by
 refine bX.XX (by rw[jN,A.len]) (λi hi=>?_) (λi j hi hj h=>?_)
 ·rw[Bx (by rw[A.len];exact hi)];exact (A.idx hi).1
 ·rw[Bx (by rw[A.len];exact hi),Bx (by rw[A.len];exact hj)] at h
  rw[←(A.idx hi).2,←(A.idx hj).2,h]
theorem bH (A:bX n a)(B:bX n b)(C:bX n c):bE (bE a b) c=bE a (bE b c):=by
 refine zN (by simp only[eV]) λi hi=>?_
 rw[eV,eV] at hi
 have hn:i<n:=by rw[←A.len];exact hi
 rw[dD (by rw[eV];exact hi),dD hi,dD hi,dD (by rw[B.len];exact A.fW hn)]
theorem cZ (A:bX n a):bE a (cJ n)=a:=by
 refine zN (eV _ _) λi hi=>?_
 rw[eV] at hi
 rw[dD hi,fU (A.fW (by rw[←A.len];exact hi))]
theorem gX (A:bX n a):bE (cJ n) a=a:=by
 refine zN (by rw[eV,jW,A.len]) λi hi=>?_
 rw[eV,jW] at hi
 rw[dD (by rw[jW];exact hi),fU hi]
theorem kX (A:bX n a):bE a (fC a)=cJ n:=by
 refine zN (by rw[eV,jW,A.len]) λi hi=>?_
 rw[eV] at hi
 have hn:i<n:=by rw[←A.len];exact hi
 rw[dD hi,fU hn,Bx (by rw[A.len];exact A.fW hn)]
 exact A.inj ((A.idx (A.fW hn)).1) hn ((A.idx (A.fW hn)).2)
theorem mP (A:bX n a):bE (fC a) a=cJ n:=by
 refine zN (by rw[eV,jW,jN,A.len]) λi hi=>?_
 rw[eV,jN] at hi
 have hn:i<n:=by rw[←A.len];exact hi
 rw[dD (by rw[jN];exact hi),fU hn,Bx hi]
 exact (A.idx hn).2
theorem Dr (n:Nat):fC (cJ n)=cJ n:=by
 have:=kX (bX.one n)
 rwa [gX (bX.one n).inv] at this
theorem AQ (A:bX n a)(B:bX n b)(C:bX n c)(h:bE a c=bE b c):a=b:=by
 have:=congrArg (λx=>bE x (fC c)) h
 try simp only at this
 rwa [bH A C C.inv,bH B C C.inv,kX C,cZ A,cZ B] at this
theorem Qc (A:bX n a)(B:bX n b)(C:bX n c)(h:bE c a=bE c b):a=b:=by
 have:=congrArg (λx=>bE (fC c) x) h
 try simp only at this
 rwa [←bH C.inv C A,←bH C.inv C B,mP C,gX A,gX B] at this
theorem XY (A:bX n a)(B:bX n b):fC (bE a b)=bE (fC b) (fC a):=by
 refine Qc (A.mul B).inv (B.inv.mul A.inv) (A.mul B) ?_
 rw[kX (A.mul B),bH A B (B.inv.mul A.inv),←bH B B.inv A.inv,kX B,gX A.inv,kX A]
theorem Bp (A:bX n a){i:Nat}(hi:i<n):(fC a).getD (a.getD i 0) 0=i:=by
 have:=congrArg (λx=>x.getD i 0) (kX A)
 try simp only at this
 rwa [dD (by rw[A.len];exact hi),fU hi] at this
structure zU (n:Nat)(G:List Nat->Prop):Prop where
 eX: ∀{x},G x->bX n x
 one:G (cJ n)
 mul: ∀{x y},G x->G y->G (bE x y)
 inv: ∀{x},G x->G (fC x)
def pw (n:Nat)(x:List Nat):Nat->List Nat
 |0=>cJ n
 |k+1=>bE (pw n x k) x
theorem qI (A:bX n a): ∀k,bX n (pw n a k)
 |0=>bX.one n
 |k+1=>(qI A k).mul A
theorem MM (A:bX n a)(i:Nat): ∀j,pw n a (i+j)=bE (pw n a i) (pw n a j)
 |0=>(cZ (qI A i)).symm
 |j+1=>by
  show bE (pw n a (i+j)) a=bE (pw n a i) (bE (pw n a j) a)
  rw[MM A i j,bH (qI A i) (qI A j) A]
def Jt (n:Nat):Nat->Dg
 |0=> [[]]
 |k+1=>(List.range n).flatMap λx=>(Jt n k).map (x:: ·)
theorem Vi (n:Nat): ∀k,(Jt n k).length=n^k
 |0=>rfl
 |k+1=>by
  simp only[Jt,List.length_flatMap,List.length_map,Vi n k]
  have: ∀m c:Nat,((List.range m).map λ_=>c).sum=m*c:=by
   intro m c
   induction m with
   |zero=>simp
   |succ m ih=>rw[List.range_succ,List.map_append,List.sum_append,ih];simp [Nat.succ_mul]
  rw[this,Nat.pow_succ,Nat.mul_comm]
theorem Bt (n:Nat): ∀(k:Nat) (l:List Nat),l.length=k->(∀x∈l,x<n)->l∈Jt n k
 |0, [],_,_=>by simp [Jt]
 |0,_::_,h,_=>by simp at h
 |k+1, [],h,_=>by simp at h
 |k+1,x::l,h,hx=>by
  simp only[Jt,List.mem_flatMap,List.mem_map]
  exact⟨x,List.mem_range.2 (hx x (by simp)),l,Bt n k l (by simpa using h) (λy hy=>hx y (by simp [hy])),rfl⟩
theorem bX.Bt (A:bX n a):a∈Jt n n:=Go.Pm.Bt n n a A.len A.lt
theorem Uh {l:Dg}(hl:l.Nodup)(hp: ∀x∈l,bX n x):l.length<=n^n:=by
 rw[←Vi n n]
 exact List.Nodup.length_le_of_subset hl λx hx=>(hp x hx).Bt
theorem BR (A:bX n a): ∃k,0<k/\k<=n^n/\pw n a k=cJ n:=by
 have h: ∃i j,i<j/\j<=n^n/\pw n a i=pw n a j:=by
  refine Classical.byContradiction λhn=>?_
  have hnd:((List.range (n^n+1)).map (pw n a)).Nodup:=by
   rw[List.nodup_iff_pairwise_ne,List.pairwise_iff_getElem]
   intro i j hi hj hij e
   simp only[List.length_map,List.length_range] at hi hj
   simp only[List.getElem_map,List.getElem_range] at e
   exact hn ⟨i,j,hij,by omega,e⟩
  have:=Uh hnd (n:=n) (λx hx=>by
   obtain⟨i,_,rfl⟩:=List.mem_map.1 hx
   exact qI A i)
  simp only[List.length_map,List.length_range] at this
  omega
 obtain⟨i,j,hij,hj,e⟩:=h
 refine⟨j-i,by omega,by omega,?_⟩
 have e2:pw n a j=bE (pw n a i) (pw n a (j-i)):=by rw[←MM A,show i+(j-i)=j from by omega]
 refine Qc (qI A (j-i)) (bX.one n) (qI A i) ?_
 rw[←e2,cZ (qI A i),e]
inductive gK (n:Nat) (L:List Nat->Prop):List Nat->Prop where
 |one:gK n L (cJ n)
 |mul {x g:List Nat}:gK n L x->L g->gK n L (bE x g)
variable {L M:List Nat->Prop}
theorem gK.eX (hL: ∀g,L g->bX n g){x:List Nat}(h:gK n L x):bX n x:=by
 induction h with
 |one=>exact bX.one n
 |mul _ hg ih=>exact ih.mul (hL _ hg)
theorem gK.of (hL: ∀g,L g->bX n g){g:List Nat}(h:L g):gK n L g:=by
 have:=gK.mul (n:=n) gK.one h
 rwa [gX (hL g h)] at this
theorem gK.app (hL: ∀g,L g->bX n g){x y:List Nat}(hx:gK n L x)(hy:gK n L y):gK n L (bE x y):=by
 induction hy with
 |one=>rwa [cZ (hx.eX hL)]
 |mul hy hg ih=>rw[←bH (hx.eX hL) (hy.eX hL) (hL _ hg)];exact ih.mul hg
theorem gK.pow (hL: ∀g,L g->bX n g){x:List Nat}(hx:gK n L x): ∀k,gK n L (pw n x k)
 |0=> .one
 |k+1=>(gK.pow hL hx k).app hL hx
theorem gK.inv (hL: ∀g,L g->bX n g){x:List Nat}(hx:gK n L x):gK n L (fC x):=by
 have A:=hx.eX hL
 obtain⟨k,h0,_,hk⟩:=BR A
 have e:fC x=pw n x (k- 1):=by
  refine AQ A.inv (qI A _) A ?_
  rw[mP A]
  show _=pw n x (k- 1+1)
  rw[show k- 1+1=k from by omega,hk]
 rw[e]
 exact hx.pow hL _
theorem gK.pG (hL: ∀g,L g->bX n g):zU n (gK n L):=⟨λh=>h.eX hL,.one,λh k=>h.app hL k,λh=>h.inv hL⟩
theorem gK.le {G:List Nat->Prop}(hG:zU n G)(h: ∀g,L g->G g){x:List Nat}(hx:gK n L x):G x:=by
 induction hx with
 |one=>exact hG.one
 |mul _ hg ih=>exact hG.mul ih (h _ hg)
theorem gK.mono (h: ∀g,L g->M g){x:List Nat}(hx:gK n L x):gK n M x:=by
 induction hx with
 |one=>exact .one
 |mul _ hg ih=>exact ih.mul (h _ hg)
end
end Go.Pm
