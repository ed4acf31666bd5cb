/- A region whose order is drawn, whole. -/
import Derived.Test.YtcdbmkidaecdiaaGreatAy16
namespace Go.Ay
open Go
def left (S:Nat->Bool):Nat->Nat
 |0=>0
 |n+1=>left S n+(if S n then 0 else 1)
theorem FM (S:Nat->Bool): ∀n,left S n<=n
 |0=>fM _
 |n+1=>by have:=FM S n;simp only[left];split<;>omega
theorem Rf {S:Nat->Bool}: ∀n,left S n=0-> ∀i,i<n->S i=true
 |0,_,i,h=>om
 |n+1,h,i,hi=>by
  simp only[left] at h
  by_cases a:i=n
  ·subst a
   cases hs:S i with
   |true=>rfl
   |false=>simp [hs] at h
  ·exact Rf n om i om
theorem Sk {S a:Nat->Bool}{i:Nat}(c:S i=false)(h2:a=λj=>S j||j==i): ∀n,left a n<=left S n/\(i<n->left a n+1<=left S n)
 |0=>⟨fM _,λh=>om⟩
 |n+1=>by
  have d:=Sk c h2 n;subst h2;simp only[left]
  by_cases b:n=i
  ·subst b
   simp only[c,beq_self_eq_true,Bool.or_true,if_true,Bool.false_eq_true,if_false];exact⟨om,λ_=>om⟩
  ·have:(S n||n==i)=S n:=by simp [b]
   simp only[this];exact⟨om,λh=>by have:=d.2 om;omega⟩
section
variable {P:Program} {cl yl:dP} {base n:Nat} {T:List Rec} {vars0:List V} {hS:H} {nt:Nat} {pv:List Nat} {m0:M} {h0:H} {w0:World} {ds:List Deferred}
 {ops:Array Oper}
theorem Th {S:Nat->Bool}: ∀(T:List Rec),(∀q∈T,S q.x.i=true)∨ ∃T1 q T2,T=T1++q::T2/\S q.x.i=false/\ ∀y∈T1,S y.x.i=true
 | []=> .inl λ_ h=>by cases h
 |q::T=>by
  cases hs:S q.x.i with
  |false=>exact .inr ⟨[],q,T,rfl,hs,λ_ h=>by cases h⟩
  |true=>
   rcases Th (S:=S) T with h|⟨T1,y,T2,f,c,d⟩
   ·refine .inl λy b=>?_
    rcases zH.1 b with rfl|b
    ·exact hs
    ·exact h y b
   ·refine .inr ⟨q::T1,y,T2,by simp [f],c,λz a=>?_⟩
    rcases zH.1 a with rfl|a
    ·exact hs
    ·exact d z a
theorem adT (a9:Dd P cl)(a5:Ao P yl){c:List V}{h':H}(hC:Qq cl yl base T vars0 [] hS c h')(J:Uz P nt pv ops (T.map (·.x)))
  (hb:base=h0.next) (U:hS.get=h0.get) (a7:Qk m0 h0.next) (b2:HR P m0 h0 w0) {rr:Option Nat} {Q:Exit->Act->World->Prop}
  (hQ: ∀a w m,St m nt pv [] c [] a->a.defers=ds->iO P m0 h0 w0 m h' w->Q .normal a w):
  ∀(fuel:Nat) (listed:Array Bool) (m:M) (a:Act) (w:World),listed.size=ops.size->Down (Hm ops) (λj=>listed.getD j false)->left (λj=>listed.getD j false) ops.size<=fuel->
   Inv P base ops.size T vars0 hS nt pv m0 h0 w0 ds (λj=>listed.getD j false) m a w->wpAnyIn (Wf rr) 0 P .any ops Q fuel listed a w:=by
 have b3: ∀q∈T,q.x.al=q.x.it.a.Ki/\q.x.it.Em=false:=λq A=>J.ok.al q.x (uF.2 ⟨q,A,rfl⟩)
 have done: ∀(listed:Array Bool) (m:M) (a:Act) (w:World),(∀q∈T,listed.getD q.x.i false=true)->Inv P base ops.size T vars0 hS nt pv m0 h0 w0 ds (λj=>listed.getD j false) m a w->Q .normal a w:=by
  intro listed m a w b F;have hc:=wG T [] vars0 [] hS c h' (λq A=>(b3 q A).1) (by simpa using hC);obtain⟨e1,e2⟩:=hc;have v1:zE (λj=>listed.getD j false) T vars0=c:=by rw[←e1];exact Gk T vars0 (λq A=>b q A)
  have v2:lZ base (λj=>listed.getD j false) T hS=h':=by rw[←e2];exact zX T hS (λq A _=>b q A)
  exact hQ a w m (by rw[←v1];exact F.st) F.df (by rw[←v2];exact F.Yp)
 have f: ∀(listed:Array Bool),listed.size=ops.size->Region.ready .any ops listed= []-> ∀q∈T,listed.getD q.x.i false=true:=by
  intro listed B N;rcases Th (S:=λj=>listed.getD j false) T with h|⟨T1,q,T2,t,v,h3⟩
  ·exact h
  ·exfalso
   obtain⟨o,_,u,Z,_⟩:=J.it q.x (uF.2 ⟨q,by rw[t];simp,rfl⟩);have p:=(AS.1 u).1
   have:q.x.i∈Region.ready .any ops listed:=by
    refine mem_ready.2 ⟨?_,o,u,λe he R=>?_⟩
    ·simp only[ND] at v ⊢
     rw[Array.getElem?_eq_getElem om] at v ⊢;exact v
    ·have L:e.on∈Hm ops q.x.i:=by
      simp only[Hm,u,Bk,uF,CH];exact⟨e,⟨by simpa using he,R⟩,rfl⟩
     obtain⟨y,hy,a8⟩:=J.ok.ord (T1.map (·.x)) q.x (T2.map (·.x)) (by rw[t];simp) e.on L;obtain⟨z,hz,rfl⟩:=uF.1 hy;rw[←a8];exact h3 z hz
   rw[N] at this;cases this
 intro fuel
 induction fuel with
 |zero=>
  intro listed m a w B K a6 F;have b: ∀i,i<ops.size->listed.getD i false=true:=Rf ops.size om;refine⟨?_,done listed m a w (λq A=>b _ (J.ok.lt q.x (uF.2 ⟨q,A,rfl⟩))) F⟩
  cases N:Region.ready .any ops listed with
  |nil=>rfl
  |cons i l=>
   obtain⟨t,o,u,_⟩:=mem_ready.1 (show i∈Region.ready .any ops listed by rw[N];simp);have p:=(AS.1 u).1;have v:=b i p;simp only[ND] at t v;rw[Array.getElem?_eq_getElem om] at t v;simp only[Option.getD_some] at t v;rw[t] at v;cases v
 |succ fuel ih=>
  intro listed m a w B K a6 F;refine⟨λN=>done listed m a w (f listed B N) F,λi hi=>?_⟩;obtain⟨t,o,u,b⟩:=mem_ready.1 hi;have p:=(AS.1 u).1
  have a2:listed.getD i false=false:=by
   simp only[ND] at t ⊢;rw[Array.getElem?_eq_getElem om] at t ⊢;exact t
  have s:(λj=>(listed.setIfInBounds i true).getD j false)=λj=>listed.getD j false||j==i:=by
   funext j
   by_cases k:j=i
   ·subst k
    simp only[ND];rw[Array.getElem?_setIfInBounds_self_of_lt om];simp
   ·simp only[ND]
    rw[Array.getElem?_setIfInBounds_ne (Ne.symm k)];simp [k]
  obtain⟨x,hx,a3⟩:=J.ok.cover i p;obtain⟨r,N,rfl⟩:=uF.1 hx;obtain⟨T1,T2,hT⟩:=List.append_of_mem N;obtain⟨o',b1,Y,Z,W⟩:=J.it r.x hx;subst a3;rw[u] at Y;cases Y;obtain⟨c1,c2,c3⟩:=Jx Z
  have b0: ∃a0,jO P pv [] o=some a0/\(r.x.it.a=a0∨r.x.it.a=a0.pu):=⟨_,c1,by
   rcases W with e|e
   ·rw[e];exact .inl rfl
   ·rw[e];exact .inr rfl⟩
  have a4:Dst nt pv [] o.dst r.x.it.d []:=by rcases W with e|e<;>rw[e]<;>exact c2
  have eg:r.x.it.g=b1.g:=by
   rcases W with e|e
   ·rw[e]
   ·rw[e];rfl
  rw[←eg] at c3
  have G: ∀d∈Hm ops r.x.i,listed.getD d false=true:=by
   intro d L;simp only[Hm,u,Bk,uF,CH] at L;obtain⟨e,⟨he,R⟩,rfl⟩:=L;exact b e (by simpa using he) R
  refine aeI a9 a5 hC J.ok hb U a7 b2 hT K G a2 u b0 a4 c3 F (λa' w' m' a1=>?_);rw[←s] at a1;refine ih (listed.setIfInBounds r.x.i true) m' a' w' (by simpa using B) ?_ ?_ a1
  ·intro j k d L
   have O: ∀j,(listed.setIfInBounds r.x.i true).getD j false=(listed.getD j false||j==r.x.i):=congrFun s;simp only at k ⊢;rw[O] at k ⊢;simp only[Bool.or_eq_true,beq_iff_eq] at k ⊢;rcases k with k|k
   ·exact .inl (K j k d L)
   ·subst k;exact .inl (G d L)
  ·rw[s]
   have:=(Sk (S:=λj=>listed.getD j false) (i:=r.x.i) a2 rfl ops.size).2 p;omega
theorem Nt {s k:Nat}: ∀(pv loc:List Nat),idx s (pv++loc)=some k->idx s pv=some k∨(idx s pv=none/\pv.length<=k)
 | [],loc,h=> .inr ⟨rfl,iJ _⟩
 |a::pv,loc,h=>by
  simp only[List.cons_append,idx] at h ⊢
  by_cases c:a=s
  ·simp only[c,if_true] at h ⊢;exact .inl h
  ·simp only[c,if_false,mJ] at h ⊢
   obtain⟨d,f,rfl⟩:=h;rcases Nt pv loc f with b|⟨b,i⟩
   ·exact .inl ⟨d,b,rfl⟩
   ·exact .inr ⟨by simp [b],by simp;omega⟩
theorem yZ {s k:Nat}: ∀(pv loc:List Nat),idx s pv=some k->idx s (pv++loc)=some k
 | [],loc,h=>by simp [idx] at h
 |a::pv,loc,h=>by
  simp only[List.cons_append,idx] at h ⊢
  by_cases b:a=s
  ·simp only[b,if_true] at h ⊢;exact h
  ·simp only[b,if_false,mJ] at h ⊢
   obtain⟨c,d,rfl⟩:=h;exact⟨c,yZ pv loc d,rfl⟩
theorem afL (Z:P.follows .mixedOrders=true)(B:Dd P cl)(L:Ao P yl){xs:List AI}{c:List Nat}(v: ∀t∈c,t<nt)(Y:Uz P nt (pv++c) ops xs)
  {d f:List V} {h h':H} (he:wZ cl yl h.next xs (d++List.replicate c.length .unk) [] {h with next:=h.next+ops.size}=some (f,h'))
  {m:M} {w:World} {a:Act} (l:jM m nt pv d a.tmps) (hr:HR P m h w) (J:Qk m h.next) {rr:Option Nat} {id:Nat} {Q:Exit->Act->World->Prop}
  (hQ: ∀a' w' m',jM m' nt pv (f.take d.length) a'.tmps->a'.defers=a.defers->iO P m h w m' h' w'->Q .normal a' w'):(Code.region id ops true).wpIn (Wf rr) 0 P Q a w:=by
 obtain⟨T,O,W⟩:=Pb xs _ _ _ _ _ he
 have z:=iO.drawn hr J.fresh (w.drawn+1)
 refine wpIn_region_any Z ?_
 have A:jM m nt (pv++c) (d++List.replicate c.length .unk) a.tmps:=by
  refine⟨l.size,by simp [l.len],λs x=>?_,λs k o=>?_⟩
  ·rcases pH.1 x with i|i
   ·exact l.lt s i
   ·exact v s i
  ·have G:=Mx o
   rcases Nt pv c o with i|⟨_,i⟩
   ·have:=Mx i
    have y:=l.val s k i;simp only[List.getD] at y ⊢;rw[Dv (by rw[l.len];exact this)];exact y
   ·simp only[List.getD]
    rw[Sj (by rw[l.len];exact i),List.getElem?_replicate,bF (by rw[l.len];simp at G;omega)];simp [VR]
 have p: ∀(j:Nat),(Array.replicate ops.size false).getD j false=false:=by
  intro j;simp only[ND,Array.getElem?_replicate];split<;>rfl
 have F:(λj=>(Array.replicate ops.size false).getD j false)=λ_=>false:=funext p
 refine adT (T:=T) (base:=h.next) (ds:=a.defers) (nt:=nt) (pv:=pv++c) B L W (by rw[O];exact Y) rfl rfl J z.rel (λa' w' m' N s2 s3=>?_) ops.size (Array.replicate ops.size false) m a _ (by simp) ?_ ?_ ?_
 ·refine hQ a' w' m' ⟨N.vars.size,?_,λs x=>l.lt s x,λs k o=>?_⟩ s2 (z.trans s3)
  ·have:=N.vars.len
   rw[Fj,this,l.len];simp
  ·have i:=N.vars.val s k (yZ pv c o)
   have y:=Mx o
   simp only[List.getD] at i ⊢
   rw[List.getElem?_take,bF (by rw[l.len];exact y)]
   exact i
 ·intro j U;simp only[p] at U;cases U
 ·exact FM _ _
 ·rw[F]
  have u:lZ h.next (λ_=>false) T {h with next:=h.next+ops.size}={h with next:=h.next+ops.size}:=by
   clear W O
   induction T with
   |nil=>rfl
   |cons q t ih=>simpa [lZ,iP] using ih
  refine⟨?_,rfl,?_,?_,λr a1 _ _=>?_,λT1 q T2 _ x=>by cases x⟩
  ·rw[BI];exact⟨A,xZ.nil ..⟩
  ·rw[u]
   have R:=iO.Rn z.rel
   exact⟨R.ext,z.rel.sub (λ_ _ h=>h),λ_ _ h=> .inl h,R.kept,λb K=> .inl K,Nat.le_add_right _ _,λb K=> .inl K,λ_ _ h=>h⟩
  ·rw[u];exact fM _
  ·exact J _ (Nat.le_add_right _ _)
end
end Go.Ay
