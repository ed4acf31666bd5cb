/- A region whose order is drawn, whole. -/
import Derived.Test.YtcdbmkidaecdiaaGreatAy16
namespace Go.Ay
open Go
def left (S:Nat->Bool):Nat->Nat
 |0=>0
 |n+1=>left S n+(if S n then 0 else 1)
theorem HB (S:Nat->Bool): ∀n,left S n<=n
 |0=>eH _
 |n+1=>by have:=HB S n;simp only[left];split<;>omega
theorem Ru {S:Nat->Bool}: ∀n,left S n=0-> ∀i,i<n->S i=true
 |0,_,i,h=>om
 |n+1,h,i,hi=>by
  simp only[left] at h
  by_cases a:i=n
  ·subst a
   cases hs:S i with
   |true=>rfl
   |false=>simp [hs] at h
  ·exact Ru n om i om
theorem Tv {S a:Nat->Bool}{i:Nat}(c:S i=false)(h2:a=λj=>S j||j==i): ∀n,left a n<=left S n/\(i<n->left a n+1<=left S n)
 |0=>⟨eH _,λh=>om⟩
 |n+1=>by
  have d:=Tv c h2 n;subst h2;simp only[left]
  by_cases b:n=i
  ·subst b
   simp only[c,beq_self_eq_true,Bool.or_true,if_true,Bool.false_eq_true,if_false];exact⟨om,λ_=>om⟩
  ·have:(S n||n==i)=S n:=by simp [b]
   simp only[this];exact⟨om,λh=>by have:=d.2 om;omega⟩
section
variable {P:Program} {cl yl:dM} {base n:Nat} {T:List Rec} {vars0:List V} {hS:H} {nt:Nat} {pv:List Nat} {m0:M} {h0:H} {w0:World} {ds:List Deferred}
 {ops:Array Oper}
theorem Rx {S:Nat->Bool}: ∀(T:List Rec),(∀q∈T,S q.x.i=true)∨ ∃T1 q T2,T=T1++q::T2/\S q.x.i=false/\ ∀y∈T1,S y.x.i=true
 | []=> .inl λ_ h=>by cases h
 |q::T=>by
  cases hs:S q.x.i with
  |false=>exact .inr ⟨[],q,T,rfl,hs,λ_ h=>by cases h⟩
  |true=>
   rcases Rx (S:=S) T with h|⟨T1,y,T2,c,d,e⟩
   ·refine .inl λy a=>?_
    rcases Gr.1 a with rfl|a
    ·exact hs
    ·exact h y a
   ·refine .inr ⟨q::T1,y,T2,by simp [c],d,λz b=>?_⟩
    rcases Gr.1 b with rfl|b
    ·exact hs
    ·exact e z b
theorem aeT (a5:Cv P cl)(a8:Al P yl){c:List V}{h':H}(hC:Ua cl yl base T vars0 [] hS c h')(U:Uu P nt pv ops (T.map (·.x)))
  (hb:base=h0.next) (R:hS.get=h0.get) (a6:Qx m0 h0.next) (b0:HR P m0 h0 w0) {rr:Option Nat} {Q:Exit->Act->World->Prop}
  (hQ: ∀a w m,St m nt pv [] c [] a->a.defers=ds->iC P m0 h0 w0 m h' w->Q .normal a w):
  ∀(fuel:Nat) (listed:Array Bool) (m:M) (a:Act) (w:World),listed.size=ops.size->Down (Gz ops) (λj=>listed.getD j false)->left (λj=>listed.getD j false) ops.size<=fuel->
   Inv P base ops.size T vars0 hS nt pv m0 h0 w0 ds (λj=>listed.getD j false) m a w->wpAnyIn (Wf rr) 0 P .any ops Q fuel listed a w:=by
 have b3: ∀q∈T,q.x.al=q.x.it.a.mF/\q.x.it.Ep=false:=λq v=>U.ok.al q.x (vF.2 ⟨q,v,rfl⟩)
 have done: ∀(listed:Array Bool) (m:M) (a:Act) (w:World),(∀q∈T,listed.getD q.x.i false=true)->Inv P base ops.size T vars0 hS nt pv m0 h0 w0 ds (λj=>listed.getD j false) m a w->Q .normal a w:=by
  intro listed m a w b G;have hc:=xE T [] vars0 [] hS c h' (λq v=>(b3 q v).1) (by simpa using hC);obtain⟨e1,e2⟩:=hc;have v1:zL (λj=>listed.getD j false) T vars0=c:=by rw[←e1];exact Hb T vars0 (λq v=>b q v)
  have v2:lG base (λj=>listed.getD j false) T hS=h':=by rw[←e2];exact Bj T hS (λq v _=>b q v)
  exact hQ a w m (by rw[←v1];exact G.st) G.df (by rw[←v2];exact G.Xr)
 have f: ∀(listed:Array Bool),listed.size=ops.size->Region.ready .any ops listed= []-> ∀q∈T,listed.getD q.x.i false=true:=by
  intro listed A O;rcases Rx (S:=λj=>listed.getD j false) T with h|⟨T1,q,T2,p,B,h3⟩
  ·exact h
  ·exfalso
   obtain⟨o,_,u,Z,_⟩:=U.it q.x (vF.2 ⟨q,by rw[p];simp,rfl⟩);have s:=(Wi.1 u).1
   have:q.x.i∈Region.ready .any ops listed:=by
    refine mem_ready.2 ⟨?_,o,u,λe he N=>?_⟩
    ·simp only[OQ] at B ⊢
     rw[Array.getElem?_eq_getElem om] at B ⊢;exact B
    ·have L:e.on∈Gz ops q.x.i:=by
      simp only[Gz,u,Aa,vF,GI];exact⟨e,⟨by simpa using he,N⟩,rfl⟩
     obtain⟨y,hy,b1⟩:=U.ok.ord (T1.map (·.x)) q.x (T2.map (·.x)) (by rw[p];simp) e.on L;obtain⟨z,hz,rfl⟩:=vF.1 hy;rw[←b1];exact h3 z hz
   rw[O] at this;cases this
 intro fuel
 induction fuel with
 |zero=>
  intro listed m a w A W a7 G;have b: ∀i,i<ops.size->listed.getD i false=true:=Ru ops.size om;refine⟨?_,done listed m a w (λq v=>b _ (U.ok.lt q.x (vF.2 ⟨q,v,rfl⟩))) G⟩
  cases O:Region.ready .any ops listed with
  |nil=>rfl
  |cons i l=>
   obtain⟨p,o,u,_⟩:=mem_ready.1 (show i∈Region.ready .any ops listed by rw[O];simp);have s:=(Wi.1 u).1;have B:=b i s;simp only[OQ] at p B;rw[Array.getElem?_eq_getElem om] at p B;simp only[Option.getD_some] at p B;rw[p] at B;cases B
 |succ fuel ih=>
  intro listed m a w A W a7 G;refine⟨λO=>done listed m a w (f listed A O) G,λi hi=>?_⟩;obtain⟨p,o,u,b⟩:=mem_ready.1 hi;have s:=(Wi.1 u).1
  have a2:listed.getD i false=false:=by
   simp only[OQ] at p ⊢;rw[Array.getElem?_eq_getElem om] at p ⊢;exact p
  have t:(λj=>(listed.setIfInBounds i true).getD j false)=λj=>listed.getD j false||j==i:=by
   funext j
   by_cases k:j=i
   ·subst k
    simp only[OQ];rw[Array.getElem?_setIfInBounds_self_of_lt om];simp
   ·simp only[OQ]
    rw[Array.getElem?_setIfInBounds_ne (Ne.symm k)];simp [k]
  obtain⟨x,hx,a9⟩:=U.ok.cover i s;obtain⟨r,O,rfl⟩:=vF.1 hx;obtain⟨T1,T2,hT⟩:=List.append_of_mem O;obtain⟨o',a4,a1,Z,K⟩:=U.it r.x hx;subst a9;rw[u] at a1;cases a1;obtain⟨c1,c2,c3⟩:=Lc Z
  have b2: ∃a0,jG P pv [] o=some a0/\(r.x.it.a=a0∨r.x.it.a=a0.pu):=⟨_,c1,by
   rcases K with e|e
   ·rw[e];exact .inl rfl
   ·rw[e];exact .inr rfl⟩
  have a3:Dst nt pv [] o.dst r.x.it.d []:=by rcases K with e|e<;>rw[e]<;>exact c2
  have eg:r.x.it.g=a4.g:=by
   rcases K with e|e
   ·rw[e]
   ·rw[e];rfl
  rw[←eg] at c3
  have F: ∀d∈Gz ops r.x.i,listed.getD d false=true:=by
   intro d L;simp only[Gz,u,Aa,vF,GI] at L;obtain⟨e,⟨he,N⟩,rfl⟩:=L;exact b e (by simpa using he) N
  refine agE a5 a8 hC U.ok hb R a6 b0 hT W F a2 u b2 a3 c3 G (λa' w' m' Y=>?_);rw[←t] at Y;refine ih (listed.setIfInBounds r.x.i true) m' a' w' (by simpa using A) ?_ ?_ Y
  ·intro j k d L
   have J: ∀j,(listed.setIfInBounds r.x.i true).getD j false=(listed.getD j false||j==r.x.i):=congrFun t;simp only at k ⊢;rw[J] at k ⊢;simp only[Bool.or_eq_true,beq_iff_eq] at k ⊢;rcases k with k|k
   ·exact .inl (W j k d L)
   ·subst k;exact .inl (F d L)
  ·rw[t]
   have:=(Tv (S:=λj=>listed.getD j false) (i:=r.x.i) a2 rfl ops.size).2 s;omega
theorem Nw {s k:Nat}: ∀(pv loc:List Nat),idx s (pv++loc)=some k->idx s pv=some k∨(idx s pv=none/\pv.length<=k)
 | [],loc,h=> .inr ⟨rfl,fR _⟩
 |a::pv,loc,h=>by
  simp only[List.cons_append,idx] at h ⊢
  by_cases c:a=s
  ·simp only[c,if_true] at h ⊢;exact .inl h
  ·simp only[c,if_false,lT] at h ⊢
   obtain⟨e,d,rfl⟩:=h;rcases Nw pv loc d with b|⟨b,f⟩
   ·exact .inl ⟨e,b,rfl⟩
   ·exact .inr ⟨by simp [b],by simp;omega⟩
theorem yY {s k:Nat}: ∀(pv loc:List Nat),idx s pv=some k->idx s (pv++loc)=some k
 | [],loc,h=>by simp [idx] at h
 |a::pv,loc,h=>by
  simp only[List.cons_append,idx] at h ⊢
  by_cases b:a=s
  ·simp only[b,if_true] at h ⊢;exact h
  ·simp only[b,if_false,lT] at h ⊢
   obtain⟨c,d,rfl⟩:=h;exact⟨c,yY pv loc d,rfl⟩
theorem aiF (hm:P.follows .mixedOrders=true)(F:Cv P cl)(K:Al P yl){xs:List AI}{c:List Nat}(u: ∀t∈c,t<nt)(Z:Uu P nt (pv++c) ops xs)
  {d f:List V} {h h':H} (he:wW cl yl h.next xs (d++List.replicate c.length .unk) [] {h with next:=h.next+ops.size}=some (f,h'))
  {m:M} {w:World} {a:Act} (g:jA m nt pv d a.tmps) (hr:HR P m h w) (B:Qx m h.next) {rr:Option Nat} {id:Nat} {Q:Exit->Act->World->Prop}
  (W: ∀a' w' m',jA m' nt pv (f.take d.length) a'.tmps->a'.defers=a.defers->iC P m h w m' h' w'->Q .normal a' w'):(Code.region id ops true).wpIn (Wf rr) 0 P Q a w:=by
 obtain⟨T,R,L⟩:=Mg xs _ _ _ _ _ he
 have v:=iC.drawn hr B.fresh (w.drawn+1)
 refine wpIn_region_any hm ?_
 have z:jA m nt (pv++c) (d++List.replicate c.length .unk) a.tmps:=by
  refine⟨g.size,by simp [g.len],λs o=>?_,λs k l=>?_⟩
  ·rcases kT.1 o with e|e
   ·exact g.lt s e
   ·exact u s e
  ·have A:=Oe l
   rcases Nw pv c l with e|⟨_,e⟩
   ·have:=Oe e
    have x:=g.val s k e;simp only[List.getD] at x ⊢;rw[Ej (by rw[g.len];exact this)];exact x
   ·simp only[List.getD]
    rw[Eb (by rw[g.len];exact e),List.getElem?_replicate,bJ (by rw[g.len];simp at A;omega)];simp [VR]
 have i: ∀(j:Nat),(Array.replicate ops.size false).getD j false=false:=by
  intro j;simp only[OQ,Array.getElem?_replicate];split<;>rfl
 have J:(λj=>(Array.replicate ops.size false).getD j false)=λ_=>false:=funext i
 refine aeT (T:=T) (base:=h.next) (ds:=a.defers) (nt:=nt) (pv:=pv++c) F K L (by rw[R];exact Z) rfl rfl B v.rel (λa' w' m' G Y s3=>?_) ops.size (Array.replicate ops.size false) m a _ (by simp) ?_ ?_ ?_
 ·refine W a' w' m' ⟨G.vars.size,?_,λs o=>g.lt s o,λs k l=>?_⟩ Y (v.trans s3)
  ·have:=G.vars.len
   rw[Cq,this,g.len];simp
  ·have e:=G.vars.val s k (yY pv c l)
   have x:=Oe l
   simp only[List.getD] at e ⊢
   rw[List.getElem?_take,bJ (by rw[g.len];exact x)]
   exact e
 ·intro j O;simp only[i] at O;cases O
 ·exact HB _ _
 ·rw[J]
  have p:lG h.next (λ_=>false) T {h with next:=h.next+ops.size}={h with next:=h.next+ops.size}:=by
   clear L R
   induction T with
   |nil=>rfl
   |cons q t ih=>simpa [lG,iB] using ih
  refine⟨?_,rfl,?_,?_,λr U _ _=>?_,λT1 q T2 _ o=>by cases o⟩
  ·rw[EE];exact⟨z,xT.nil ..⟩
  ·rw[p]
   have N:=iC.Ts v.rel
   exact⟨N.ext,v.rel.sub (λ_ _ h=>h),λ_ _ h=> .inl h,N.kept,λb y=> .inl y,Nat.le_add_right _ _,λb y=> .inl y,λ_ _ h=>h⟩
  ·rw[p];exact eH _
  ·exact B _ (Nat.le_add_right _ _)
end
end Go.Ay
