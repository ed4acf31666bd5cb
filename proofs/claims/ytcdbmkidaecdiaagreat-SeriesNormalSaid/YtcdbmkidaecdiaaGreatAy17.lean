/- A region whose order is drawn, whole. -/
import Derived.Test.YtcdbmkidaecdiaaGreatAy16
namespace Go.Ay
open Go
def left (S:Nat->Bool):Nat->Nat
 |0=>0
 |n+1=>left S n+(if S n then 0 else 1)
theorem FM (S:Nat->Bool): ∀n,left S n<=n
 |0=>fM _
 |n+1=>by have:=FM S n;simp only[left];split<;>omega
theorem Rf {S:Nat->Bool}: ∀n,left S n=0-> ∀i,i<n->S i=true
 |0,_,i,h=>om
 |n+1,h,i,hi=>by
  simp only[left] at h
  by_cases a:i=n
  ·subst a
   cases hs:S i with
   |true=>rfl
   |false=>simp [hs] at h
  ·exact Rf n om i om
theorem Sk {S a:Nat->Bool}{i:Nat}(c:S i=false)(h2:a=λj=>S j||j==i): ∀n,left a n<=left S n/\(i<n->left a n+1<=left S n)
 |0=>⟨fM _,λh=>om⟩
 |n+1=>by
  have d:=Sk c h2 n;subst h2;simp only[left]
  by_cases b:n=i
  ·subst b
   simp only[c,beq_self_eq_true,Bool.or_true,if_true,Bool.false_eq_true,if_false];exact⟨om,λ_=>om⟩
  ·have:(S n||n==i)=S n:=by simp [b]
   simp only[this];exact⟨om,λh=>by have:=d.2 om;omega⟩
section
variable {P:Program} {cl yl:dP} {base n:Nat} {T:List Rec} {vars0:List V} {hS:H} {nt:Nat} {pv:List Nat} {m0:M} {h0:H} {w0:World} {ds:List Deferred}
 {ops:Array Oper}
theorem Th {S:Nat->Bool}: ∀(T:List Rec),(∀q∈T,S q.x.i=true)∨ ∃T1 q T2,T=T1++q::T2/\S q.x.i=false/\ ∀y∈T1,S y.x.i=true
 | []=> .inl λ_ h=>by cases h
 |q::T=>by
  cases hs:S q.x.i with
  |false=>exact .inr ⟨[],q,T,rfl,hs,λ_ h=>by cases h⟩
  |true=>
   rcases Th (S:=S) T with h|⟨T1,y,T2,c,f,d⟩
   ·refine .inl λy b=>?_
    rcases zH.1 b with rfl|b
    ·exact hs
    ·exact h y b
   ·refine .inr ⟨q::T1,y,T2,by simp [c],f,λz a=>?_⟩
    rcases zH.1 a with rfl|a
    ·exact hs
    ·exact d z a
theorem adT (b0:Dd P cl)(a4:Ao P yl){c:List V}{h':H}(hC:Qq cl yl base T vars0 [] hS c h')(J:Uz P nt pv ops (T.map (·.x)))
  (hb:base=h0.next) (L:hS.get=h0.get) (a5:Qk m0 h0.next) (a3:HR P m0 h0 w0) {rr:Option Nat} {Q:Exit->Act->World->Prop}
  (hQ: ∀a w m,St m nt pv [] c [] a->a.defers=ds->iO P m0 h0 w0 m h' w->Q .normal a w):
  ∀(fuel:Nat) (listed:Array Bool) (m:M) (a:Act) (w:World),listed.size=ops.size->Down (Hm ops) (λj=>listed.getD j false)->left (λj=>listed.getD j false) ops.size<=fuel->
   Inv P base ops.size T vars0 hS nt pv m0 h0 w0 ds (λj=>listed.getD j false) m a w->wpAnyIn (Wf rr) 0 P .any ops Q fuel listed a w:=by
 have a7: ∀q∈T,q.x.al=q.x.it.a.lK/\q.x.it.Em=false:=λq v=>J.ok.al q.x (uF.2 ⟨q,v,rfl⟩)
 have done: ∀(listed:Array Bool) (m:M) (a:Act) (w:World),(∀q∈T,listed.getD q.x.i false=true)->Inv P base ops.size T vars0 hS nt pv m0 h0 w0 ds (λj=>listed.getD j false) m a w->Q .normal a w:=by
  intro listed m a w b G;have hc:=wG T [] vars0 [] hS c h' (λq v=>(a7 q v).1) (by simpa using hC);obtain⟨e1,e2⟩:=hc;have v1:zE (λj=>listed.getD j false) T vars0=c:=by rw[←e1];exact Gk T vars0 (λq v=>b q v)
  have v2:lZ base (λj=>listed.getD j false) T hS=h':=by rw[←e2];exact zX T hS (λq v _=>b q v)
  exact hQ a w m (by rw[←v1];exact G.st) G.df (by rw[←v2];exact G.Yp)
 have f: ∀(listed:Array Bool),listed.size=ops.size->Region.ready .any ops listed= []-> ∀q∈T,listed.getD q.x.i false=true:=by
  intro listed B N;rcases Th (S:=λj=>listed.getD j false) T with h|⟨T1,q,T2,p,A,h3⟩
  ·exact h
  ·exfalso
   obtain⟨o,_,u,Y,_⟩:=J.it q.x (uF.2 ⟨q,by rw[p];simp,rfl⟩);have t:=(AS.1 u).1
   have:q.x.i∈Region.ready .any ops listed:=by
    refine mem_ready.2 ⟨?_,o,u,λe he O=>?_⟩
    ·simp only[ND] at A ⊢
     rw[Array.getElem?_eq_getElem om] at A ⊢;exact A
    ·have R:e.on∈Hm ops q.x.i:=by
      simp only[Hm,u,Bk,uF,CH];exact⟨e,⟨by simpa using he,O⟩,rfl⟩
     obtain⟨y,hy,b3⟩:=J.ok.ord (T1.map (·.x)) q.x (T2.map (·.x)) (by rw[p];simp) e.on R;obtain⟨z,hz,rfl⟩:=uF.1 hy;rw[←b3];exact h3 z hz
   rw[N] at this;cases this
 intro fuel
 induction fuel with
 |zero=>
  intro listed m a w B W a8 G;have b: ∀i,i<ops.size->listed.getD i false=true:=Rf ops.size om;refine⟨?_,done listed m a w (λq v=>b _ (J.ok.lt q.x (uF.2 ⟨q,v,rfl⟩))) G⟩
  cases N:Region.ready .any ops listed with
  |nil=>rfl
  |cons i l=>
   obtain⟨p,o,u,_⟩:=mem_ready.1 (show i∈Region.ready .any ops listed by rw[N];simp);have t:=(AS.1 u).1;have A:=b i t;simp only[ND] at p A;rw[Array.getElem?_eq_getElem om] at p A;simp only[Option.getD_some] at p A;rw[p] at A;cases A
 |succ fuel ih=>
  intro listed m a w B W a8 G;refine⟨λN=>done listed m a w (f listed B N) G,λi hi=>?_⟩;obtain⟨p,o,u,b⟩:=mem_ready.1 hi;have t:=(AS.1 u).1
  have a1:listed.getD i false=false:=by
   simp only[ND] at p ⊢;rw[Array.getElem?_eq_getElem om] at p ⊢;exact p
  have s:(λj=>(listed.setIfInBounds i true).getD j false)=λj=>listed.getD j false||j==i:=by
   funext j
   by_cases k:j=i
   ·subst k
    simp only[ND];rw[Array.getElem?_setIfInBounds_self_of_lt om];simp
   ·simp only[ND]
    rw[Array.getElem?_setIfInBounds_ne (Ne.symm k)];simp [k]
  obtain⟨x,hx,b1⟩:=J.ok.cover i t;obtain⟨r,N,rfl⟩:=uF.1 hx;obtain⟨T1,T2,hT⟩:=List.append_of_mem N;obtain⟨o',a6,Z,Y,U⟩:=J.it r.x hx;subst b1;rw[u] at Z;cases Z;obtain⟨c1,c2,c3⟩:=Jx Y
  have a9: ∃a0,jO P pv [] o=some a0/\(r.x.it.a=a0∨r.x.it.a=a0.pu):=⟨_,c1,by
   rcases U with e|e
   ·rw[e];exact .inl rfl
   ·rw[e];exact .inr rfl⟩
  have b2:Dst nt pv [] o.dst r.x.it.d []:=by rcases U with e|e<;>rw[e]<;>exact c2
  have eg:r.x.it.g=a6.g:=by
   rcases U with e|e
   ·rw[e]
   ·rw[e];rfl
  rw[←eg] at c3
  have F: ∀d∈Hm ops r.x.i,listed.getD d false=true:=by
   intro d R;simp only[Hm,u,Bk,uF,CH] at R;obtain⟨e,⟨he,O⟩,rfl⟩:=R;exact b e (by simpa using he) O
  refine aeI b0 a4 hC J.ok hb L a5 a3 hT W F a1 u a9 b2 c3 G (λa' w' m' a2=>?_);rw[←s] at a2;refine ih (listed.setIfInBounds r.x.i true) m' a' w' (by simpa using B) ?_ ?_ a2
  ·intro j k d R
   have K: ∀j,(listed.setIfInBounds r.x.i true).getD j false=(listed.getD j false||j==r.x.i):=congrFun s;simp only at k ⊢;rw[K] at k ⊢;simp only[Bool.or_eq_true,beq_iff_eq] at k ⊢;rcases k with k|k
   ·exact .inl (W j k d R)
   ·subst k;exact .inl (F d R)
  ·rw[s]
   have:=(Sk (S:=λj=>listed.getD j false) (i:=r.x.i) a1 rfl ops.size).2 t;omega
theorem Nt {s k:Nat}: ∀(pv loc:List Nat),idx s (pv++loc)=some k->idx s pv=some k∨(idx s pv=none/\pv.length<=k)
 | [],loc,h=> .inr ⟨rfl,iJ _⟩
 |a::pv,loc,h=>by
  simp only[List.cons_append,idx] at h ⊢
  by_cases c:a=s
  ·simp only[c,if_true] at h ⊢;exact .inl h
  ·simp only[c,if_false,mJ] at h ⊢
   obtain⟨d,f,rfl⟩:=h;rcases Nt pv loc f with b|⟨b,i⟩
   ·exact .inl ⟨d,b,rfl⟩
   ·exact .inr ⟨by simp [b],by simp;omega⟩
theorem yZ {s k:Nat}: ∀(pv loc:List Nat),idx s pv=some k->idx s (pv++loc)=some k
 | [],loc,h=>by simp [idx] at h
 |a::pv,loc,h=>by
  simp only[List.cons_append,idx] at h ⊢
  by_cases b:a=s
  ·simp only[b,if_true] at h ⊢;exact h
  ·simp only[b,if_false,mJ] at h ⊢
   obtain⟨c,d,rfl⟩:=h;exact⟨c,yZ pv loc d,rfl⟩
theorem afL (Z:P.follows .mixedOrders=true)(J:Dd P cl)(A:Ao P yl){xs:List AI}{c:List Nat}(x: ∀t∈c,t<nt)(hP:Uz P nt (pv++c) ops xs)
  {d i:List V} {h h':H} (he:wZ cl yl h.next xs (d++List.replicate c.length .unk) [] {h with next:=h.next+ops.size}=some (i,h'))
  {m:M} {w:World} {a:Act} (l:jM m nt pv d a.tmps) (hr:HR P m h w) (G:Qk m h.next) {rr:Option Nat} {id:Nat} {Q:Exit->Act->World->Prop}
  (hQ: ∀a' w' m',jM m' nt pv (i.take d.length) a'.tmps->a'.defers=a.defers->iO P m h w m' h' w'->Q .normal a' w'):(Code.region id ops true).wpIn (Wf rr) 0 P Q a w:=by
 obtain⟨T,U,W⟩:=Pb xs _ _ _ _ _ he
 have y:=iO.drawn hr G.fresh (w.drawn+1)
 refine wpIn_region_any Z ?_
 have L:jM m nt (pv++c) (d++List.replicate c.length .unk) a.tmps:=by
  refine⟨l.size,by simp [l.len],λs u=>?_,λs k v=>?_⟩
  ·rcases pH.1 u with f|f
   ·exact l.lt s f
   ·exact x s f
  ·have K:=Mx v
   rcases Nt pv c v with f|⟨_,f⟩
   ·have:=Mx f
    have z:=l.val s k f;simp only[List.getD] at z ⊢;rw[Dv (by rw[l.len];exact this)];exact z
   ·simp only[List.getD]
    rw[gAR (by rw[l.len];exact f),List.getElem?_replicate,bF (by rw[l.len];simp at K;omega)];simp [VR]
 have o: ∀(j:Nat),(Array.replicate ops.size false).getD j false=false:=by
  intro j;simp only[ND,Array.getElem?_replicate];split<;>rfl
 have B:(λj=>(Array.replicate ops.size false).getD j false)=λ_=>false:=funext o
 refine adT (T:=T) (base:=h.next) (ds:=a.defers) (nt:=nt) (pv:=pv++c) J A W (by rw[U];exact hP) rfl rfl G y.rel (λa' w' m' N Y s3=>?_) ops.size (Array.replicate ops.size false) m a _ (by simp) ?_ ?_ ?_
 ·refine hQ a' w' m' ⟨N.vars.size,?_,λs u=>l.lt s u,λs k v=>?_⟩ Y (y.trans s3)
  ·have:=N.vars.len
   rw[Fj,this,l.len];simp
  ·have f:=N.vars.val s k (yZ pv c v)
   have z:=Mx v
   simp only[List.getD] at f ⊢
   rw[List.getElem?_take,bF (by rw[l.len];exact z)]
   exact f
 ·intro j R;simp only[o] at R;cases R
 ·exact FM _ _
 ·rw[B]
  have p:lZ h.next (λ_=>false) T {h with next:=h.next+ops.size}={h with next:=h.next+ops.size}:=by
   clear W U
   induction T with
   |nil=>rfl
   |cons q t ih=>simpa [lZ,iP] using ih
  refine⟨?_,rfl,?_,?_,λr a1 _ _=>?_,λT1 q T2 _ u=>by cases u⟩
  ·rw[BI];exact⟨L,xZ.nil ..⟩
  ·rw[p]
   have O:=iO.Rn y.rel
   exact⟨O.ext,y.rel.sub (λ_ _ h=>h),λ_ _ h=> .inl h,O.kept,λb F=> .inl F,Nat.le_add_right _ _,λb F=> .inl F,λ_ _ h=>h⟩
  ·rw[p];exact fM _
  ·exact G _ (Nat.le_add_right _ _)
end
end Go.Ay
