/- Permutations as lists of numbers: products, inverses. -/
namespace Go.Pm
variable {i:Nat} {x:List Nat}
abbrev yK:=List (List Nat)
abbrev OE:=List (List (List Nat))
structure bT (n:Nat)(a:List Nat):Prop where
 len:a.length=n
 nd:a.Nodup
 lt: ∀x∈a,x<n
abbrev at' (a:List Nat)(i:Nat):Nat:=a.getD i 0
def aW (a b:List Nat):List Nat:=a.map λp=>b.getD p 0
def cH (n:Nat):List Nat:=List.range n
def eH (a:List Nat):List Nat:=(List.range a.length).map λj=>a.idxOf j
theorem bG {a:List Nat}(h:i<a.length):a.getD i 0=a[i]:=by simp [List.getD,h]
theorem uX {a b:List Nat}(hl:a.length=b.length)(h: ∀i,i<a.length->a.getD i 0=b.getD i 0):a=b:=by
 refine List.ext_getElem hl λi h1 h2=>?_
 have:=h i h1;rwa [bG h1,bG h2] at this
section
variable {n:Nat} {a b c:List Nat}
theorem bT.eX (A:bT n a)(hi:i<n):a.getD i 0<n:=by
 have h:i<a.length:=by rw[A.len];exact hi
 rw[bG h];exact A.lt _ (List.getElem_mem h)
theorem bT.inj (A:bT n a){j:Nat}(hi:i<n)(hj:j<n)(h:a.getD i 0=a.getD j 0):i=j:=by
 have h1:i<a.length:=by rw[A.len];exact hi
 have h2:j<a.length:=by rw[A.len];exact hj
 rw[bG h1,bG h2] at h;have e1:=A.nd.idxOf_getElem i h1;have e2:=A.nd.idxOf_getElem j h2;rw[h] at e1;exact e1.symm.trans e2
theorem bT.LH (hl:a.length=n)(h1: ∀i,i<n->a.getD i 0<n)(h2: ∀i j,i<n->j<n->a.getD i 0=a.getD j 0->i=j):bT n a:=by
 refine⟨hl,?_,λx hx=>?_⟩
 ·rw[List.nodup_iff_pairwise_ne,List.pairwise_iff_getElem]
  intro i j hi hj hij e;have:=h2 i j (by omega) (by omega) (by rw[bG hi,bG hj];exact e);omega
 ·obtain⟨i,hi,rfl⟩:=List.mem_iff_getElem.1 hx
  have:=h1 i (by omega);rwa [bG hi] at this
theorem bT.mem (A:bT n a){p:Nat}(hp:p<n):p∈a:=by
 refine Classical.byContradiction λhn=>?_
 have hnd:(p::a).Nodup:=List.nodup_cons.2 ⟨hn,A.nd⟩
 have hs:(p::a) ⊆ List.range n:=λx hx=>by
  rcases List.mem_cons.1 hx with rfl|hx
  ·exact List.mem_range.2 hp
  ·exact List.mem_range.2 (A.lt x hx)
 have:=List.Nodup.length_le_of_subset hnd hs;have hl:=A.len;simp only[List.length_cons,List.length_range] at this;omega
theorem bT.idx (A:bT n a){p:Nat}(hp:p<n):a.idxOf p<n/\a.getD (a.idxOf p) 0=p:=by
 have h:=List.idxOf_lt_length_iff.2 (A.mem hp);refine⟨by rw[←A.len];exact h,?_⟩;rw[bG h,List.getElem_idxOf]
theorem dR (a b:List Nat):(aW a b).length=a.length:=by simp [aW]
theorem cQ (hi:i<a.length):(aW a b).getD i 0=b.getD (a.getD i 0) 0:=by
 have h:i<(aW a b).length:=by rw[dR];exact hi
 rw[bG h,bG hi];simp [aW]
theorem jJ (n:Nat):(cH n).length=n:=by simp [cH]
theorem fR {n:Nat}(hi:i<n):(cH n).getD i 0=i:=by
 have h:i<(cH n).length:=by rw[jJ];exact hi
 rw[bG h];simp [cH]
theorem iH (a:List Nat):(eH a).length=a.length:=by simp [eH]
theorem xL (hi:i<a.length):(eH a).getD i 0=a.idxOf i:=by
 have h:i<(eH a).length:=by rw[iH];exact hi
 rw[bG h];simp [eH]
theorem bT.one (n:Nat):bT n (cH n):=⟨jJ n,List.nodup_range,λx hx=>List.mem_range.1 hx⟩
theorem bT.mul (A:bT n a)(B:bT n b):bT n (aW a b):=by
 refine bT.LH (by rw[dR,A.len]) (λi hi=>?_) (λi j hi hj h=>?_)
 ·rw[cQ (by rw[A.len];exact hi)];exact B.eX (A.eX hi)
 ·rw[cQ (by rw[A.len];exact hi),cQ (by rw[A.len];exact hj)] at h
  exact A.inj hi hj (B.inj (A.eX hi) (A.eX hj) h)
theorem bT.inv (A:bT n a):bT n (eH a):=by
 refine bT.LH (by rw[iH,A.len]) (λi hi=>?_) (λi j hi hj h=>?_)
 ·rw[xL (by rw[A.len];exact hi)];exact (A.idx hi).1
 ·rw[xL (by rw[A.len];exact hi),xL (by rw[A.len];exact hj)] at h
  rw[←(A.idx hi).2,←(A.idx hj).2,h]
theorem aY (A:bT n a)(B:bT n b)(C:bT n c):aW (aW a b) c=aW a (aW b c):=by
 refine uX (by simp only[dR]) λi hi=>?_
 rw[dR,dR] at hi;have hn:i<n:=by rw[←A.len];exact hi
 rw[cQ (by rw[dR];exact hi),cQ hi,cQ hi,cQ (by rw[B.len];exact A.eX hn)]
theorem bZ (A:bT n a):aW a (cH n)=a:=by
 refine uX (dR _ _) λi hi=>?_
 rw[dR] at hi;rw[cQ hi,fR (A.eX (by rw[←A.len];exact hi))]
theorem fC (A:bT n a):aW (cH n) a=a:=by
 refine uX (by rw[dR,jJ,A.len]) λi hi=>?_
 rw[dR,jJ] at hi;rw[cQ (by rw[jJ];exact hi),fR hi]
theorem jG (A:bT n a):aW a (eH a)=cH n:=by
 refine uX (by rw[dR,jJ,A.len]) λi hi=>?_
 rw[dR] at hi;have hn:i<n:=by rw[←A.len];exact hi
 rw[cQ hi,fR hn,xL (by rw[A.len];exact A.eX hn)];exact A.inj ((A.idx (A.eX hn)).1) hn ((A.idx (A.eX hn)).2)
theorem iI (A:bT n a):aW (eH a) a=cH n:=by
 refine uX (by rw[dR,jJ,iH,A.len]) λi hi=>?_
 rw[dR,iH] at hi;have hn:i<n:=by rw[←A.len];exact hi
 rw[cQ (by rw[iH];exact hi),fR hn,xL hi];exact (A.idx hn).2
theorem yS (n:Nat):eH (cH n)=cH n:=by
 have:=jG (bT.one n);rwa [fC (bT.one n).inv] at this
theorem Cy (A:bT n a)(B:bT n b)(C:bT n c)(h:aW a c=aW b c):a=b:=by
 have:=congrArg (λx=>aW x (eH c)) h
 try simp only at this
 rwa [aY A C C.inv,aY B C C.inv,jG C,bZ A,bZ B] at this
theorem Hl (A:bT n a)(B:bT n b)(C:bT n c)(h:aW c a=aW c b):a=b:=by
 have:=congrArg (λx=>aW (eH c) x) h
 try simp only at this
 rwa [←aY C.inv C A,←aY C.inv C B,iI C,fC A,fC B] at this
theorem MI (A:bT n a)(B:bT n b):eH (aW a b)=aW (eH b) (eH a):=by
 refine Hl (A.mul B).inv (B.inv.mul A.inv) (A.mul B) ?_;rw[jG (A.mul B),aY A B (B.inv.mul A.inv),←aY B B.inv A.inv,jG B,fC A.inv,jG A]
theorem sK (A:bT n a)(hi:i<n):(eH a).getD (a.getD i 0) 0=i:=by
 have:=congrArg (λx=>x.getD i 0) (jG A)
 try simp only at this
 rwa [cQ (by rw[A.len];exact hi),fR hi] at this
structure sC (n:Nat)(G:List Nat->Prop):Prop where
 dY: ∀{x},G x->bT n x
 one:G (cH n)
 mul: ∀{x y},G x->G y->G (aW x y)
 inv: ∀{x},G x->G (eH x)
def pw (n:Nat)(x:List Nat):Nat->List Nat
 |0=>cH n
 |k+1=>aW (pw n x k) x
theorem nX (A:bT n a): ∀k,bT n (pw n a k)
 |0=>bT.one n
 |k+1=>(nX A k).mul A
theorem Xh (A:bT n a)(i:Nat): ∀j,pw n a (i+j)=aW (pw n a i) (pw n a j)
 |0=>(bZ (nX A i)).symm
 |j+1=>by
  show aW (pw n a (i+j)) a=aW (pw n a i) (aW (pw n a j) a);rw[Xh A i j,aY (nX A i) (nX A j) A]
def By (n:Nat):Nat->yK
 |0=> [[]]
 |k+1=>(List.range n).flatMap λx=>(By n k).map (x:: ·)
theorem Ki (n:Nat): ∀k,(By n k).length=n^k
 |0=>rfl
 |k+1=>by
  simp only[By,List.length_flatMap,List.length_map,Ki n k]
  have: ∀m c:Nat,((List.range m).map λ_=>c).sum=m*c:=by
   intro m c
   induction m with
   |zero=>simp
   |succ m ih=>rw[List.range_succ,List.map_append,List.sum_append,ih];simp [Nat.succ_mul]
  rw[this,Nat.pow_succ,Nat.mul_comm]
theorem wG (n:Nat): ∀(k:Nat) (l:List Nat),l.length=k->(∀x∈l,x<n)->l∈By n k
 |0, [],_,_=>by simp [By]
 |0,_::_,h,_=>by simp at h
 |k+1, [],h,_=>by simp at h
 |k+1,x::l,h,hx=>by
  simp only[By,List.mem_flatMap,List.mem_map];exact⟨x,List.mem_range.2 (hx x (by simp)),l,wG n k l (by simpa using h) (λy hy=>hx y (by simp [hy])),rfl⟩
theorem bT.wG (A:bT n a):a∈By n n:=Go.Pm.wG n n a A.len A.lt
theorem Io {l:yK}(hl:l.Nodup)(hp: ∀x∈l,bT n x):l.length<=n^n:=by
 rw[←Ki n n];exact List.Nodup.length_le_of_subset hl λx hx=>(hp x hx).wG
theorem Qj (A:bT n a): ∃k,0<k/\k<=n^n/\pw n a k=cH n:=by
 have h: ∃i j,i<j/\j<=n^n/\pw n a i=pw n a j:=by
  refine Classical.byContradiction λhn=>?_
  have hnd:((List.range (n^n+1)).map (pw n a)).Nodup:=by
   rw[List.nodup_iff_pairwise_ne,List.pairwise_iff_getElem];intro i j hi hj hij e;simp only[List.length_map,List.length_range] at hi hj;simp only[List.getElem_map,List.getElem_range] at e;exact hn ⟨i,j,hij,by omega,e⟩
  have:=Io hnd (n:=n) (λx hx=>by
   obtain⟨i,_,rfl⟩:=List.mem_map.1 hx
   exact nX A i)
  simp only[List.length_map,List.length_range] at this;omega
 obtain⟨i,j,hij,hj,e⟩:=h;refine⟨j-i,by omega,by omega,?_⟩;have e2:pw n a j=aW (pw n a i) (pw n a (j-i)):=by rw[←Xh A,show i+(j-i)=j from by omega]
 refine Hl (nX A (j-i)) (bT.one n) (nX A i) ?_;rw[←e2,bZ (nX A i),e]
inductive fG (n:Nat) (L:List Nat->Prop):List Nat->Prop where
 |one:fG n L (cH n)
 |mul {x g:List Nat}:fG n L x->L g->fG n L (aW x g)
variable {L M:List Nat->Prop}
theorem fG.dY (hL: ∀g,L g->bT n g)(h:fG n L x):bT n x:=by
 induction h with
 |one=>exact bT.one n
 |mul _ hg ih=>exact ih.mul (hL _ hg)
theorem fG.of (hL: ∀g,L g->bT n g){g:List Nat}(h:L g):fG n L g:=by
 have:=fG.mul (n:=n) fG.one h;rwa [fC (hL g h)] at this
theorem fG.app (hL: ∀g,L g->bT n g){y:List Nat}(hx:fG n L x)(hy:fG n L y):fG n L (aW x y):=by
 induction hy with
 |one=>rwa [bZ (hx.dY hL)]
 |mul hy hg ih=>rw[←aY (hx.dY hL) (hy.dY hL) (hL _ hg)];exact ih.mul hg
theorem fG.pow (hL: ∀g,L g->bT n g)(hx:fG n L x): ∀k,fG n L (pw n x k)
 |0=> .one
 |k+1=>(fG.pow hL hx k).app hL hx
theorem fG.inv (hL: ∀g,L g->bT n g)(hx:fG n L x):fG n L (eH x):=by
 have A:=hx.dY hL;obtain⟨k,h0,_,hk⟩:=Qj A
 have e:eH x=pw n x (k- 1):=by
  refine Cy A.inv (nX A _) A ?_;rw[iI A];show _=pw n x (k- 1+1);rw[show k- 1+1=k from by omega,hk]
 rw[e];exact hx.pow hL _
theorem fG.kP (hL: ∀g,L g->bT n g):sC n (fG n L):=⟨λh=>h.dY hL,.one,λh k=>h.app hL k,λh=>h.inv hL⟩
theorem fG.le {G:List Nat->Prop}(hG:sC n G)(h: ∀g,L g->G g)(hx:fG n L x):G x:=by
 induction hx with
 |one=>exact hG.one
 |mul _ hg ih=>exact hG.mul ih (h _ hg)
theorem fG.mono (h: ∀g,L g->M g)(hx:fG n L x):fG n M x:=by
 induction hx with
 |one=>exact .one
 |mul _ hg ih=>exact ih.mul (h _ hg)
end
end Go.Pm
