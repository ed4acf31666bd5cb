/- A region whose order is drawn, whole. -/
import Derived.Test.YtapfcpkecmmagaaGreatAy16
namespace Go.Ay
open Go
def left (S:Nat->Bool):Nat->Nat
 |0=>0
 |n+1=>left S n+(if S n then 0 else 1)
theorem Gw (S:Nat->Bool): ∀n,left S n<=n
 |0=>eP _
 |n+1=>by have:=Gw S n;simp only[left];split<;>omega
theorem zG {S:Nat->Bool}: ∀n,left S n=0-> ∀i,i<n->S i=true
 |0,_,i,h=>by omega
 |n+1,h,i,hi=>by
  simp only[left] at h
  by_cases he:i=n
  ·subst he
   cases hs:S i with
   |true=>rfl
   |false=>simp [hs] at h
  ·exact zG n (by omega) i (by omega)
theorem zD {S S2:Nat->Bool}{i:Nat}(hs:S i=false)(h2:S2=λj=>S j||j==i): ∀n,left S2 n<=left S n/\(i<n->left S2 n+1<=left S n)
 |0=>⟨eP _,λh=>by omega⟩
 |n+1=>by
  have ih:=zD hs h2 n;subst h2;simp only[left]
  by_cases he:n=i
  ·subst he
   simp only[hs,beq_self_eq_true,Bool.or_true,if_true,Bool.false_eq_true,if_false];exact⟨by omega,λ_=>by omega⟩
  ·have:(S n||n==i)=S n:=by simp [he]
   simp only[this];exact⟨by omega,λh=>by have:=ih.2 (by omega);omega⟩
section
variable {P:Program} {cl yl:dD} {base n:Nat} {T:List Rec} {vars0:List V} {hS:H} {nt:Nat} {pv:List Nat} {m0:M} {h0:H} {w0:World} {ds:List Deferred}
 {ops:Array Oper}
theorem yY {S:Nat->Bool}: ∀(T:List Rec),(∀q∈T,S q.x.i=true)∨ ∃T1 q T2,T=T1++q::T2/\S q.x.i=false/\ ∀y∈T1,S y.x.i=true
 | []=> .inl λ_ h=>by cases h
 |q::T=>by
  cases hs:S q.x.i with
  |false=>exact .inr ⟨[],q,T,rfl,hs,λ_ h=>by cases h⟩
  |true=>
   rcases yY (S:=S) T with h|⟨T1,y,T2,h1,h2,h3⟩
   ·refine .inl λy hy=>?_
    rcases List.mem_cons.1 hy with rfl|hy
    ·exact hs
    ·exact h y hy
   ·refine .inr ⟨q::T1,y,T2,by simp [h1],h2,λz hz=>?_⟩
    rcases List.mem_cons.1 hz with rfl|hz
    ·exact hs
    ·exact h3 z hz
theorem Vg (hSc:qI P cl)(hYc:oW P yl){vars':List V}{h':H}(hC:yD cl yl base T vars0 [] hS vars' h')(hP:Af P nt pv ops (T.map (·.x)))
  (hb:base=h0.next) (hSget:hS.get=h0.get) (hl0:xS m0 h0.next) (hr0:HR P m0 h0 w0) {rr:Option Nat} {Q:Exit->Act->World->Prop}
  (hQ: ∀a w m,St m nt pv [] vars' [] a->a.defers=ds->eS P m0 h0 w0 m h' w->Q .normal a w):
  ∀(fuel:Nat) (listed:Array Bool) (m:M) (a:Act) (w:World),listed.size=ops.size->Down (sM ops) (λj=>listed.getD j false)->left (λj=>listed.getD j false) ops.size<=fuel->
   Inv P base ops.size T vars0 hS nt pv m0 h0 w0 ds (λj=>listed.getD j false) m a w->wpAnyIn (Wf rr) 0 P .any ops Q fuel listed a w:=by
 have alT: ∀q∈T,q.x.al=q.x.it.a.iJ/\q.x.it.qS=false:=λq hq=>hP.ok.al q.x (jH.2 ⟨q,hq,rfl⟩)
 have done: ∀(listed:Array Bool) (m:M) (a:Act) (w:World),(∀q∈T,listed.getD q.x.i false=true)->Inv P base ops.size T vars0 hS nt pv m0 h0 w0 ds (λj=>listed.getD j false) m a w->Q .normal a w:=by
  intro listed m a w hall hI;have hc:=nL T [] vars0 [] hS vars' h' (λq hq=>(alT q hq).1) (by simpa using hC);obtain⟨e1,e2⟩:=hc;have v1:oM (λj=>listed.getD j false) T vars0=vars':=by rw[←e1];exact rX T vars0 (λq hq=>hall q hq)
  have v2:iB base (λj=>listed.getD j false) T hS=h':=by rw[←e2];exact oZ T hS (λq hq _=>hall q hq)
  exact hQ a w m (by rw[←v1];exact hI.st) hI.df (by rw[←v2];exact hI.Bl)
 have readyNil: ∀(listed:Array Bool),listed.size=ops.size->Region.ready .any ops listed= []-> ∀q∈T,listed.getD q.x.i false=true:=by
  intro listed hsz hr;rcases yY (S:=λj=>listed.getD j false) T with h|⟨T1,q,T2,h1,h2,h3⟩
  ·exact h
  ·exfalso
   obtain⟨o,_,ho,hit,_⟩:=hP.it q.x (jH.2 ⟨q,by rw[h1];simp,rfl⟩);have hlt:=(Array.getElem?_eq_some_iff.1 ho).1
   have:q.x.i∈Region.ready .any ops listed:=by
    refine mem_ready.2 ⟨?_,o,ho,λe he hbd=>?_⟩
    ·simp only[Array.getD_eq_getD_getElem?] at h2 ⊢
     rw[Array.getElem?_eq_getElem (by omega)] at h2 ⊢;exact h2
    ·have hd:e.on∈sM ops q.x.i:=by
      simp only[sM,ho,oQ,jH,jY];exact⟨e,⟨by simpa using he,hbd⟩,rfl⟩
     obtain⟨y,hy,hye⟩:=hP.ok.ord (T1.map (·.x)) q.x (T2.map (·.x)) (by rw[h1];simp) e.on hd;obtain⟨z,hz,rfl⟩:=jH.1 hy;rw[←hye];exact h3 z hz
   rw[hr] at this;cases this
 intro fuel
 induction fuel with
 |zero=>
  intro listed m a w hsz hdn hle hI;have hall: ∀i,i<ops.size->listed.getD i false=true:=zG ops.size (by omega);refine⟨?_,done listed m a w (λq hq=>hall _ (hP.ok.lt q.x (jH.2 ⟨q,hq,rfl⟩))) hI⟩
  cases hr:Region.ready .any ops listed with
  |nil=>rfl
  |cons i l=>
   obtain⟨h1,o,ho,_⟩:=mem_ready.1 (show i∈Region.ready .any ops listed by rw[hr];simp);have hlt:=(Array.getElem?_eq_some_iff.1 ho).1;have h2:=hall i hlt;simp only[Array.getD_eq_getD_getElem?] at h1 h2;rw[Array.getElem?_eq_getElem (by omega)] at h1 h2;simp only[Option.getD_some] at h1 h2;rw[h1] at h2;cases h2
 |succ fuel ih=>
  intro listed m a w hsz hdn hle hI;refine⟨λhr=>done listed m a w (readyNil listed hsz hr) hI,λi hi=>?_⟩;obtain⟨h1,o,ho,hall⟩:=mem_ready.1 hi;have hlt:=(Array.getElem?_eq_some_iff.1 ho).1
  have hns:listed.getD i false=false:=by
   simp only[Array.getD_eq_getD_getElem?] at h1 ⊢;rw[Array.getElem?_eq_getElem (by omega)] at h1 ⊢;exact h1
  have hset:(λj=>(listed.setIfInBounds i true).getD j false)=λj=>listed.getD j false||j==i:=by
   funext j
   by_cases hj:j=i
   ·subst hj
    simp only[Array.getD_eq_getD_getElem?];rw[Array.getElem?_setIfInBounds_self_of_lt (by omega)];simp
   ·simp only[Array.getD_eq_getD_getElem?]
    rw[Array.getElem?_setIfInBounds_ne (Ne.symm hj)];simp [hj]
  obtain⟨x,hx,hxi⟩:=hP.ok.cover i hlt;obtain⟨r,hr,rfl⟩:=jH.1 hx;obtain⟨T1,T2,hT⟩:=List.append_of_mem hr;obtain⟨o',it0,ho',hit,hpu⟩:=hP.it r.x hx;subst hxi;rw[ho] at ho';cases ho';obtain⟨c1,c2,c3⟩:=tV hit
  have c1': ∃a0,fP P pv [] o=some a0/\(r.x.it.a=a0∨r.x.it.a=a0.pu):=⟨_,c1,by
   rcases hpu with e|e
   ·rw[e];exact .inl rfl
   ·rw[e];exact .inr rfl⟩
  have c2':Yp nt pv [] o.dst r.x.it.d []:=by rcases hpu with e|e<;>rw[e]<;>exact c2
  have eg:r.x.it.g=it0.g:=by
   rcases hpu with e|e
   ·rw[e]
   ·rw[e];rfl
  rw[←eg] at c3
  have hdep: ∀d∈sM ops r.x.i,listed.getD d false=true:=by
   intro d hd;simp only[sM,ho,oQ,jH,jY] at hd;obtain⟨e,⟨he,hbd⟩,rfl⟩:=hd;exact hall e (by simpa using he) hbd
  refine Wy hSc hYc hC hP.ok hb hSget hl0 hr0 hT hdn hdep hns ho c1' c2' c3 hI (λa' w' m' hI'=>?_);rw[←hset] at hI';refine ih (listed.setIfInBounds r.x.i true) m' a' w' (by simpa using hsz) ?_ ?_ hI'
  ·intro j hj d hd
   have hset': ∀j,(listed.setIfInBounds r.x.i true).getD j false=(listed.getD j false||j==r.x.i):=congrFun hset;simp only at hj ⊢;rw[hset'] at hj ⊢;simp only[Bool.or_eq_true,beq_iff_eq] at hj ⊢;rcases hj with hj|hj
   ·exact .inl (hdn j hj d hd)
   ·subst hj;exact .inl (hdep d hd)
  ·rw[hset]
   have:=(zD (S:=λj=>listed.getD j false) (i:=r.x.i) hns rfl ops.size).2 hlt;omega
theorem vI {s k:Nat}: ∀(pv loc:List Nat),idx s (pv++loc)=some k->idx s pv=some k∨(idx s pv=none/\pv.length<=k)
 | [],loc,h=> .inr ⟨rfl,gK _⟩
 |a::pv,loc,h=>by
  simp only[List.cons_append,idx] at h ⊢
  by_cases ha:a=s
  ·simp only[ha,if_true] at h ⊢;exact .inl h
  ·simp only[ha,if_false,gJ] at h ⊢
   obtain⟨k',h1,rfl⟩:=h;rcases vI pv loc h1 with h2|⟨h2,h3⟩
   ·exact .inl ⟨k',h2,rfl⟩
   ·exact .inr ⟨by simp [h2],by simp;omega⟩
theorem oI {s k:Nat}: ∀(pv loc:List Nat),idx s pv=some k->idx s (pv++loc)=some k
 | [],loc,h=>by simp [idx] at h
 |a::pv,loc,h=>by
  simp only[List.cons_append,idx] at h ⊢
  by_cases ha:a=s
  ·simp only[ha,if_true] at h ⊢;exact h
  ·simp only[ha,if_false,gJ] at h ⊢
   obtain⟨k',h1,rfl⟩:=h;exact⟨k',oI pv loc h1,rfl⟩
theorem Vt (hm:P.follows .mixedOrders=true)(hSc:qI P cl)(hYc:oW P yl){xs:List AI}{loc:List Nat}(hloc: ∀t∈loc,t<nt)(hP:Af P nt (pv++loc) ops xs)
  {vars vars':List V} {h h':H} (he:nH cl yl h.next xs (vars++List.replicate loc.length .unk) [] {h with next:=h.next+ops.size}=some (vars',h'))
  {m:M} {w:World} {a:Act} (hv:fL m nt pv vars a.tmps) (hr:HR P m h w) (hl:xS m h.next) {rr:Option Nat} {id:Nat} {Q:Exit->Act->World->Prop}
  (hQ: ∀a' w' m',fL m' nt pv (vars'.take vars.length) a'.tmps->a'.defers=a.defers->eS P m h w m' h' w'->Q .normal a' w'):(Code.region id ops true).wpIn (Wf rr) 0 P Q a w:=by
 obtain⟨T,hT,hC⟩:=wI xs _ _ _ _ _ he
 have hd:=eS.drawn hr hl.fresh (w.drawn+1)
 refine wpIn_region_any hm ?_
 have hv':fL m nt (pv++loc) (vars++List.replicate loc.length .unk) a.tmps:=by
  refine⟨hv.size,by simp [hv.len],λs hs=>?_,λs k hk=>?_⟩
  ·rcases xH.1 hs with h1|h1
   ·exact hv.lt s h1
   ·exact hloc s h1
  ·have hkl:=vT hk
   rcases vI pv loc hk with h1|⟨_,h1⟩
   ·have:=vT h1
    have h2:=hv.val s k h1;simp only[List.getD] at h2 ⊢;rw[wY (by rw[hv.len];exact this)];exact h2
   ·simp only[List.getD]
    rw[List.getElem?_append_right (by rw[hv.len];exact h1),List.getElem?_replicate,if_pos (by rw[hv.len];simp at hkl;omega)];simp [VR]
 have hno: ∀(j:Nat),(Array.replicate ops.size false).getD j false=false:=by
  intro j;simp only[Array.getD_eq_getD_getElem?,Array.getElem?_replicate];split<;>rfl
 have hS0:(λj=>(Array.replicate ops.size false).getD j false)=λ_=>false:=funext hno
 refine Vg (T:=T) (base:=h.next) (ds:=a.defers) (nt:=nt) (pv:=pv++loc) hSc hYc hC (by rw[hT];exact hP) rfl rfl hl hd.rel (λa' w' m' s1 s2 s3=>?_) ops.size (Array.replicate ops.size false) m a _ (by simp) ?_ ?_ ?_
 ·refine hQ a' w' m' ⟨s1.vars.size,?_,λs hs=>hv.lt s hs,λs k hk=>?_⟩ s2 (hd.trans s3)
  ·have:=s1.vars.len
   rw[xL,this,hv.len];simp
  ·have h1:=s1.vars.val s k (oI pv loc hk)
   have h2:=vT hk
   simp only[List.getD] at h1 ⊢
   rw[List.getElem?_take,if_pos (by rw[hv.len];exact h2)]
   exact h1
 ·intro j hj;simp only[hno] at hj;cases hj
 ·exact Gw _ _
 ·rw[hS0]
  have hrp:iB h.next (λ_=>false) T {h with next:=h.next+ops.size}={h with next:=h.next+ops.size}:=by
   clear hC hT
   induction T with
   |nil=>rfl
   |cons q t ih=>simpa [iB,fG] using ih
  refine⟨?_,rfl,?_,?_,λr hr' _ _=>?_,λT1 q T2 _ hs=>by cases hs⟩
  ·rw[Er];exact⟨hv',nW.nil ..⟩
  ·rw[hrp]
   have a0:=eS.yI hd.rel
   exact⟨a0.ext,hd.rel.sub (λ_ _ h=>h),λ_ _ h=> .inl h,a0.kept,λb hb=> .inl hb,Nat.le_add_right _ _,λb hb=> .inl hb,λ_ _ h=>h⟩
  ·rw[hrp];exact eP _
  ·exact hl _ (Nat.le_add_right _ _)
end
end Go.Ay
