/- A region whose order is drawn, whole. -/
import Derived.Test.YtcdbmkidaecdiaaGreatAy16
namespace Go.Ay
open Go
def left (S:Nat->Bool):Nat->Nat
 |0=>0
 |n+1=>left S n+(if S n then 0 else 1)
theorem FM (S:Nat->Bool): ∀n,left S n<=n
 |0=>fM _
 |n+1=>by have:=FM S n;simp only[left];split<;>omega
theorem Rf {S:Nat->Bool}: ∀n,left S n=0-> ∀i,i<n->S i=true
 |0,_,i,h=>om
 |n+1,h,i,hi=>by
  simp only[left] at h
  by_cases a:i=n
  ·subst a
   cases hs:S i with
   |true=>rfl
   |false=>simp [hs] at h
  ·exact Rf n om i om
theorem Sk {S a:Nat->Bool}{i:Nat}(b:S i=false)(h2:a=λj=>S j||j==i): ∀n,left a n<=left S n/\(i<n->left a n+1<=left S n)
 |0=>⟨fM _,λh=>om⟩
 |n+1=>by
  have d:=Sk b h2 n;subst h2;simp only[left]
  by_cases c:n=i
  ·subst c
   simp only[b,beq_self_eq_true,Bool.or_true,if_true,Bool.false_eq_true,if_false];exact⟨om,λ_=>om⟩
  ·have:(S n||n==i)=S n:=by simp [c]
   simp only[this];exact⟨om,λh=>by have:=d.2 om;omega⟩
section
variable {P:Program} {cl yl:dP} {base n:Nat} {T:List Rec} {vars0:List V} {hS:H} {nt:Nat} {pv:List Nat} {m0:M} {h0:H} {w0:World} {ds:List Deferred}
 {ops:Array Oper}
theorem Th {S:Nat->Bool}: ∀(T:List Rec),(∀q∈T,S q.x.i=true)∨ ∃T1 q T2,T=T1++q::T2/\S q.x.i=false/\ ∀y∈T1,S y.x.i=true
 | []=> .inl λ_ h=>by cases h
 |q::T=>by
  cases hs:S q.x.i with
  |false=>exact .inr ⟨[],q,T,rfl,hs,λ_ h=>by cases h⟩
  |true=>
   rcases Th (S:=S) T with h|⟨T1,y,T2,e,d,c⟩
   ·refine .inl λy a=>?_
    rcases zH.1 a with rfl|a
    ·exact hs
    ·exact h y a
   ·refine .inr ⟨q::T1,y,T2,by simp [e],d,λz b=>?_⟩
    rcases zH.1 b with rfl|b
    ·exact hs
    ·exact c z b
theorem adT (b2:Dd P cl)(a8:Ao P yl){c:List V}{h':H}(hC:Qq cl yl base T vars0 [] hS c h')(N:Uz P nt pv ops (T.map (·.x)))
  (hb:base=h0.next) (L:hS.get=h0.get) (a3:Qk m0 h0.next) (a6:HR P m0 h0 w0) {rr:Option Nat} {Q:Exit->Act->World->Prop}
  (hQ: ∀a w m,St m nt pv [] c [] a->a.defers=ds->iO P m0 h0 w0 m h' w->Q .normal a w):
  ∀(fuel:Nat) (listed:Array Bool) (m:M) (a:Act) (w:World),listed.size=ops.size->Down (Hm ops) (λj=>listed.getD j false)->left (λj=>listed.getD j false) ops.size<=fuel->
   Inv P base ops.size T vars0 hS nt pv m0 h0 w0 ds (λj=>listed.getD j false) m a w->wpAnyIn (Wf rr) 0 P .any ops Q fuel listed a w:=by
 have a4: ∀q∈T,q.x.al=q.x.it.a.mN/\q.x.it.Em=false:=λq A=>N.ok.al q.x (uF.2 ⟨q,A,rfl⟩)
 have done: ∀(listed:Array Bool) (m:M) (a:Act) (w:World),(∀q∈T,listed.getD q.x.i false=true)->Inv P base ops.size T vars0 hS nt pv m0 h0 w0 ds (λj=>listed.getD j false) m a w->Q .normal a w:=by
  intro listed m a w b G;have hc:=wG T [] vars0 [] hS c h' (λq A=>(a4 q A).1) (by simpa using hC);obtain⟨e1,e2⟩:=hc;have v1:zE (λj=>listed.getD j false) T vars0=c:=by rw[←e1];exact Gk T vars0 (λq A=>b q A)
  have v2:lZ base (λj=>listed.getD j false) T hS=h':=by rw[←e2];exact zX T hS (λq A _=>b q A)
  exact hQ a w m (by rw[←v1];exact G.st) G.df (by rw[←v2];exact G.Yp)
 have f: ∀(listed:Array Bool),listed.size=ops.size->Region.ready .any ops listed= []-> ∀q∈T,listed.getD q.x.i false=true:=by
  intro listed B K;rcases Th (S:=λj=>listed.getD j false) T with h|⟨T1,q,T2,s,v,h3⟩
  ·exact h
  ·exfalso
   obtain⟨o,_,u,Z,_⟩:=N.it q.x (uF.2 ⟨q,by rw[s];simp,rfl⟩);have t:=(AS.1 u).1
   have:q.x.i∈Region.ready .any ops listed:=by
    refine mem_ready.2 ⟨?_,o,u,λe he O=>?_⟩
    ·simp only[ND] at v ⊢
     rw[Array.getElem?_eq_getElem om] at v ⊢;exact v
    ·have W:e.on∈Hm ops q.x.i:=by
      simp only[Hm,u,Bk,uF,CH];exact⟨e,⟨by simpa using he,O⟩,rfl⟩
     obtain⟨y,hy,a5⟩:=N.ok.ord (T1.map (·.x)) q.x (T2.map (·.x)) (by rw[s];simp) e.on W;obtain⟨z,hz,rfl⟩:=uF.1 hy;rw[←a5];exact h3 z hz
   rw[K] at this;cases this
 intro fuel
 induction fuel with
 |zero=>
  intro listed m a w B U a7 G;have b: ∀i,i<ops.size->listed.getD i false=true:=Rf ops.size om;refine⟨?_,done listed m a w (λq A=>b _ (N.ok.lt q.x (uF.2 ⟨q,A,rfl⟩))) G⟩
  cases K:Region.ready .any ops listed with
  |nil=>rfl
  |cons i l=>
   obtain⟨s,o,u,_⟩:=mem_ready.1 (show i∈Region.ready .any ops listed by rw[K];simp);have t:=(AS.1 u).1;have v:=b i t;simp only[ND] at s v;rw[Array.getElem?_eq_getElem om] at s v;simp only[Option.getD_some] at s v;rw[s] at v;cases v
 |succ fuel ih=>
  intro listed m a w B U a7 G;refine⟨λK=>done listed m a w (f listed B K) G,λi hi=>?_⟩;obtain⟨s,o,u,b⟩:=mem_ready.1 hi;have t:=(AS.1 u).1
  have Y:listed.getD i false=false:=by
   simp only[ND] at s ⊢;rw[Array.getElem?_eq_getElem om] at s ⊢;exact s
  have p:(λj=>(listed.setIfInBounds i true).getD j false)=λj=>listed.getD j false||j==i:=by
   funext j
   by_cases k:j=i
   ·subst k
    simp only[ND];rw[Array.getElem?_setIfInBounds_self_of_lt om];simp
   ·simp only[ND]
    rw[Array.getElem?_setIfInBounds_ne (Ne.symm k)];simp [k]
  obtain⟨x,hx,b3⟩:=N.ok.cover i t;obtain⟨r,K,rfl⟩:=uF.1 hx;obtain⟨T1,T2,hT⟩:=List.append_of_mem K;obtain⟨o',b1,a2,Z,J⟩:=N.it r.x hx;subst b3;rw[u] at a2;cases a2;obtain⟨c1,c2,c3⟩:=Jx Z
  have b0: ∃a0,jO P pv [] o=some a0/\(r.x.it.a=a0∨r.x.it.a=a0.pu):=⟨_,c1,by
   rcases J with e|e
   ·rw[e];exact .inl rfl
   ·rw[e];exact .inr rfl⟩
  have a9:Dst nt pv [] o.dst r.x.it.d []:=by rcases J with e|e<;>rw[e]<;>exact c2
  have eg:r.x.it.g=b1.g:=by
   rcases J with e|e
   ·rw[e]
   ·rw[e];rfl
  rw[←eg] at c3
  have F: ∀d∈Hm ops r.x.i,listed.getD d false=true:=by
   intro d W;simp only[Hm,u,Bk,uF,CH] at W;obtain⟨e,⟨he,O⟩,rfl⟩:=W;exact b e (by simpa using he) O
  refine aeI b2 a8 hC N.ok hb L a3 a6 hT U F Y u b0 a9 c3 G (λa' w' m' a1=>?_);rw[←p] at a1;refine ih (listed.setIfInBounds r.x.i true) m' a' w' (by simpa using B) ?_ ?_ a1
  ·intro j k d W
   have R: ∀j,(listed.setIfInBounds r.x.i true).getD j false=(listed.getD j false||j==r.x.i):=congrFun p;simp only at k ⊢;rw[R] at k ⊢;simp only[Bool.or_eq_true,beq_iff_eq] at k ⊢;rcases k with k|k
   ·exact .inl (U j k d W)
   ·subst k;exact .inl (F d W)
  ·rw[p]
   have:=(Sk (S:=λj=>listed.getD j false) (i:=r.x.i) Y rfl ops.size).2 t;omega
theorem Nt {s k:Nat}: ∀(pv loc:List Nat),idx s (pv++loc)=some k->idx s pv=some k∨(idx s pv=none/\pv.length<=k)
 | [],loc,h=> .inr ⟨rfl,iJ _⟩
 |a::pv,loc,h=>by
  simp only[List.cons_append,idx] at h ⊢
  by_cases c:a=s
  ·simp only[c,if_true] at h ⊢;exact .inl h
  ·simp only[c,if_false,mJ] at h ⊢
   obtain⟨e,d,rfl⟩:=h;rcases Nt pv loc d with b|⟨b,f⟩
   ·exact .inl ⟨e,b,rfl⟩
   ·exact .inr ⟨by simp [b],by simp;omega⟩
theorem yZ {s k:Nat}: ∀(pv loc:List Nat),idx s pv=some k->idx s (pv++loc)=some k
 | [],loc,h=>by simp [idx] at h
 |a::pv,loc,h=>by
  simp only[List.cons_append,idx] at h ⊢
  by_cases b:a=s
  ·simp only[b,if_true] at h ⊢;exact h
  ·simp only[b,if_false,mJ] at h ⊢
   obtain⟨d,c,rfl⟩:=h;exact⟨d,yZ pv loc c,rfl⟩
theorem afL (hm:P.follows .mixedOrders=true)(F:Dd P cl)(B:Ao P yl){xs:List AI}{c:List Nat}(l: ∀t∈c,t<nt)(Y:Uz P nt (pv++c) ops xs)
  {d e:List V} {h h':H} (U:wZ cl yl h.next xs (d++List.replicate c.length .unk) [] {h with next:=h.next+ops.size}=some (e,h'))
  {m:M} {w:World} {a:Act} (g:jM m nt pv d a.tmps) (Z:HR P m h w) (J:Qk m h.next) {rr:Option Nat} {id:Nat} {Q:Exit->Act->World->Prop}
  (hQ: ∀a' w' m',jM m' nt pv (e.take d.length) a'.tmps->a'.defers=a.defers->iO P m h w m' h' w'->Q .normal a' w'):(Code.region id ops true).wpIn (Wf rr) 0 P Q a w:=by
 obtain⟨T,O,L⟩:=Pb xs _ _ _ _ _ U
 have x:=iO.drawn Z J.fresh (w.drawn+1)
 refine wpIn_region_any hm ?_
 have G:jM m nt (pv++c) (d++List.replicate c.length .unk) a.tmps:=by
  refine⟨g.size,by simp [g.len],λs i=>?_,λs k p=>?_⟩
  ·rcases pH.1 i with f|f
   ·exact g.lt s f
   ·exact l s f
  ·have y:=Mx p
   rcases Nt pv c p with f|⟨_,f⟩
   ·have:=Mx f
    have v:=g.val s k f;simp only[List.getD] at v ⊢;rw[Dv (by rw[g.len];exact this)];exact v
   ·simp only[List.getD]
    rw[Kk (by rw[g.len];exact f),List.getElem?_replicate,bF (by rw[g.len];simp at y;omega)];simp [VR]
 have o: ∀(j:Nat),(Array.replicate ops.size false).getD j false=false:=by
  intro j;simp only[ND,Array.getElem?_replicate];split<;>rfl
 have A:(λj=>(Array.replicate ops.size false).getD j false)=λ_=>false:=funext o
 refine adT (T:=T) (base:=h.next) (ds:=a.defers) (nt:=nt) (pv:=pv++c) F B L (by rw[O];exact Y) rfl rfl J x.rel (λa' w' m' z W s3=>?_) ops.size (Array.replicate ops.size false) m a _ (by simp) ?_ ?_ ?_
 ·refine hQ a' w' m' ⟨z.vars.size,?_,λs i=>g.lt s i,λs k p=>?_⟩ W (x.trans s3)
  ·have:=z.vars.len
   rw[Fj,this,g.len];simp
  ·have f:=z.vars.val s k (yZ pv c p)
   have v:=Mx p
   simp only[List.getD] at f ⊢
   rw[List.getElem?_take,bF (by rw[g.len];exact v)]
   exact f
 ·intro j N;simp only[o] at N;cases N
 ·exact FM _ _
 ·rw[A]
  have u:lZ h.next (λ_=>false) T {h with next:=h.next+ops.size}={h with next:=h.next+ops.size}:=by
   clear L O
   induction T with
   |nil=>rfl
   |cons q t ih=>simpa [lZ,iP] using ih
  refine⟨?_,rfl,?_,?_,λr a1 _ _=>?_,λT1 q T2 _ i=>by cases i⟩
  ·rw[BI];exact⟨G,xZ.nil ..⟩
  ·rw[u]
   have R:=iO.Rn x.rel
   exact⟨R.ext,x.rel.sub (λ_ _ h=>h),λ_ _ h=> .inl h,R.kept,λb K=> .inl K,Nat.le_add_right _ _,λb K=> .inl K,λ_ _ h=>h⟩
  ·rw[u];exact fM _
  ·exact J _ (Nat.le_add_right _ _)
end
end Go.Ay
