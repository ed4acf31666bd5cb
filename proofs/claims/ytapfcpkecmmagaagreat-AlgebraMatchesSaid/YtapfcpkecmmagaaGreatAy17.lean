/- A region whose order is drawn, whole. -/
import Derived.Test.YtapfcpkecmmagaaGreatAy16
namespace Go.Ay
open Go
def left (S:Nat->Bool):Nat->Nat
 |0=>0
 |n+1=>left S n+(if S n then 0 else 1)
theorem Oq (S:Nat->Bool): ∀n,left S n<=n
 |0=>eS _
 |n+1=>by have:=Oq S n;simp only[left];split<;>omega
theorem Dz {S:Nat->Bool}: ∀n,left S n=0-> ∀i,i<n->S i=true
 |0,_,i,h=>om
 |n+1,h,i,hi=>by
  simp only[left] at h
  by_cases a:i=n
  ·subst a
   cases hs:S i with
   |true=>rfl
   |false=>simp [hs] at h
  ·exact Dz n om i om
theorem Ei {S a:Nat->Bool}{i:Nat}(c:S i=false)(h2:a=λj=>S j||j==i): ∀n,left a n<=left S n/\(i<n->left a n+1<=left S n)
 |0=>⟨eS _,λh=>om⟩
 |n+1=>by
  have d:=Ei c h2 n;subst h2;simp only[left]
  by_cases b:n=i
  ·subst b
   simp only[c,beq_self_eq_true,Bool.or_true,if_true,Bool.false_eq_true,if_false];exact⟨om,λ_=>om⟩
  ·have:(S n||n==i)=S n:=by simp [b]
   simp only[this];exact⟨om,λh=>by have:=d.2 om;omega⟩
section
variable {P:Program} {cl yl:dP} {base n:Nat} {T:List Rec} {vars0:List V} {hS:H} {nt:Nat} {pv:List Nat} {m0:M} {h0:H} {w0:World} {ds:List Deferred}
 {ops:Array Oper}
theorem Dy {S:Nat->Bool}: ∀(T:List Rec),(∀q∈T,S q.x.i=true)∨ ∃T1 q T2,T=T1++q::T2/\S q.x.i=false/\ ∀y∈T1,S y.x.i=true
 | []=> .inl λ_ h=>by cases h
 |q::T=>by
  cases hs:S q.x.i with
  |false=>exact .inr ⟨[],q,T,rfl,hs,λ_ h=>by cases h⟩
  |true=>
   rcases Dy (S:=S) T with h|⟨T1,y,T2,c,e,d⟩
   ·refine .inl λy a=>?_
    rcases Dw.1 a with rfl|a
    ·exact hs
    ·exact h y a
   ·refine .inr ⟨q::T1,y,T2,by simp [c],e,λz b=>?_⟩
    rcases Dw.1 b with rfl|b
    ·exact hs
    ·exact d z b
theorem DH (a1:tE P cl)(a5:rY P yl){c:List V}{h':H}(hC:Dj cl yl base T vars0 [] hS c h')(R:Gh P nt pv ops (T.map (·.x)))
  (hb:base=h0.next) (J:hS.get=h0.get) (a9:Cx m0 h0.next) (b0:HR P m0 h0 w0) {rr:Option Nat} {Q:Exit->Act->World->Prop}
  (hQ: ∀a w m,St m nt pv [] c [] a->a.defers=ds->fY P m0 h0 w0 m h' w->Q .normal a w):
  ∀(fuel:Nat) (listed:Array Bool) (m:M) (a:Act) (w:World),listed.size=ops.size->Down (vV ops) (λj=>listed.getD j false)->left (λj=>listed.getD j false) ops.size<=fuel->
   Inv P base ops.size T vars0 hS nt pv m0 h0 w0 ds (λj=>listed.getD j false) m a w->wpAnyIn (Wf rr) 0 P .any ops Q fuel listed a w:=by
 have h: ∀q∈T,q.x.al=q.x.it.a.jR/\q.x.it.uD=false:=λq A=>R.ok.al q.x (pU.2 ⟨q,A,rfl⟩)
 have done: ∀(listed:Array Bool) (m:M) (a:Act) (w:World),(∀q∈T,listed.getD q.x.i false=true)->Inv P base ops.size T vars0 hS nt pv m0 h0 w0 ds (λj=>listed.getD j false) m a w->Q .normal a w:=by
  intro listed m a w b G;have y:=pN T [] vars0 [] hS c h' (λq A=>(h q A).1) (by simpa using hC);obtain⟨e1,h⟩:=y;have v1:rD (λj=>listed.getD j false) T vars0=c:=by rw[←e1];exact uP T vars0 (λq A=>b q A)
  have y:jD base (λj=>listed.getD j false) T hS=h':=by rw[←h];exact sE T hS (λq A _=>b q A)
  exact hQ a w m (by rw[←v1];exact G.st) G.df (by rw[←y];exact G.Hz)
 have f: ∀(listed:Array Bool),listed.size=ops.size->Region.ready .any ops listed= []-> ∀q∈T,listed.getD q.x.i false=true:=by
  intro listed B K;rcases Dy (S:=λj=>listed.getD j false) T with h|⟨T1,q,T2,t,v,h3⟩
  ·exact h
  ·exfalso
   obtain⟨o,_,u,W,_⟩:=R.it q.x (pU.2 ⟨q,by rw[t];simp,rfl⟩);have p:=(Er.1 u).1
   have:q.x.i∈Region.ready .any ops listed:=by
    refine mem_ready.2 ⟨?_,o,u,λe he U=>?_⟩
    ·simp only[Tu] at v ⊢
     rw[Array.getElem?_eq_getElem om] at v ⊢;exact v
    ·have N:e.on∈vV ops q.x.i:=by
      simp only[vV,u,rI,pU,Vz];exact⟨e,⟨by simpa using he,U⟩,rfl⟩
     obtain⟨y,hy,a6⟩:=R.ok.ord (T1.map (·.x)) q.x (T2.map (·.x)) (by rw[t];simp) e.on N;obtain⟨z,hz,rfl⟩:=pU.1 hy;rw[←a6];exact h3 z hz
   rw[K] at this;cases this
 intro fuel
 induction fuel with
 |zero=>
  intro listed m a w B L a8 G;have b: ∀i,i<ops.size->listed.getD i false=true:=Dz ops.size om;refine⟨?_,done listed m a w (λq A=>b _ (R.ok.lt q.x (pU.2 ⟨q,A,rfl⟩))) G⟩
  cases K:Region.ready .any ops listed with
  |nil=>rfl
  |cons i l=>
   obtain⟨t,o,u,_⟩:=mem_ready.1 (show i∈Region.ready .any ops listed by rw[K];simp);have p:=(Er.1 u).1;have v:=b i p;simp only[Tu] at t v;rw[Array.getElem?_eq_getElem om] at t v;simp only[Option.getD_some] at t v;rw[t] at v;cases v
 |succ fuel ih=>
  intro listed m a w B L a8 G;refine⟨λK=>done listed m a w (f listed B K) G,λi hi=>?_⟩;obtain⟨t,o,u,b⟩:=mem_ready.1 hi;have p:=(Er.1 u).1
  have Y:listed.getD i false=false:=by
   simp only[Tu] at t ⊢;rw[Array.getElem?_eq_getElem om] at t ⊢;exact t
  have s:(λj=>(listed.setIfInBounds i true).getD j false)=λj=>listed.getD j false||j==i:=by
   funext j
   by_cases k:j=i
   ·subst k
    simp only[Tu];rw[Array.getElem?_setIfInBounds_self_of_lt om];simp
   ·simp only[Tu]
    rw[Array.getElem?_setIfInBounds_ne (Ne.symm k)];simp [k]
  obtain⟨x,hx,a3⟩:=R.ok.cover i p;obtain⟨r,K,rfl⟩:=pU.1 hx;obtain⟨T1,T2,hT⟩:=List.append_of_mem K;obtain⟨f,a2,Z,W,O⟩:=R.it r.x hx;subst a3;rw[u] at Z;cases Z;obtain⟨h,c2,c3⟩:=yB W
  have a7: ∃f,iI P pv [] o=some f/\(r.x.it.a=f∨r.x.it.a=f.pu):=⟨_,h,by
   rcases O with e|e
   ·rw[e];exact .inl rfl
   ·rw[e];exact .inr rfl⟩
  have a4:HU nt pv [] o.dst r.x.it.d []:=by rcases O with e|e<;>rw[e]<;>exact c2
  have eg:r.x.it.g=a2.g:=by
   rcases O with e|e
   ·rw[e]
   ·rw[e];rfl
  rw[←eg] at c3
  have F: ∀d∈vV ops r.x.i,listed.getD d false=true:=by
   intro d N;simp only[vV,u,rI,pU,Vz] at N;obtain⟨e,⟨he,U⟩,rfl⟩:=N;exact b e (by simpa using he) U
  refine ER a1 a5 hC R.ok hb J a9 b0 hT L F Y u a7 a4 c3 G (λe h f b=>?_);rw[←s] at b;refine ih (listed.setIfInBounds r.x.i true) f e h (by simpa using B) ?_ ?_ b
  ·intro j k d N
   have b: ∀j,(listed.setIfInBounds r.x.i true).getD j false=(listed.getD j false||j==r.x.i):=congrFun s;simp only at k ⊢;rw[b] at k ⊢;simp only[Bool.or_eq_true,beq_iff_eq] at k ⊢;rcases k with k|k
   ·exact .inl (L j k d N)
   ·subst k;exact .inl (F d N)
  ·rw[s]
   have:=(Ei (S:=λj=>listed.getD j false) (i:=r.x.i) Y rfl ops.size).2 p;omega
theorem Ap {s k:Nat}: ∀(pv loc:List Nat),idx s (pv++loc)=some k->idx s pv=some k∨(idx s pv=none/\pv.length<=k)
 | [],loc,h=> .inr ⟨rfl,fF _⟩
 |a::pv,loc,h=>by
  simp only[List.cons_append,idx] at h ⊢
  by_cases c:a=s
  ·simp only[c,if_true] at h ⊢;exact .inl h
  ·simp only[c,if_false,jA] at h ⊢
   obtain⟨e,d,rfl⟩:=h;rcases Ap pv loc d with b|⟨b,f⟩
   ·exact .inl ⟨e,b,rfl⟩
   ·exact .inr ⟨by simp [b],by simp;omega⟩
theorem qV {s k:Nat}: ∀(pv loc:List Nat),idx s pv=some k->idx s (pv++loc)=some k
 | [],loc,h=>by simp [idx] at h
 |a::pv,loc,h=>by
  simp only[List.cons_append,idx] at h ⊢
  by_cases b:a=s
  ·simp only[b,if_true] at h ⊢;exact h
  ·simp only[b,if_false,jA] at h ⊢
   obtain⟨d,c,rfl⟩:=h;exact⟨d,qV pv loc c,rfl⟩
theorem EF (U:P.follows .mixedOrders=true)(x:tE P cl)(y:rY P yl){xs:List AI}{c:List Nat}(o: ∀t∈c,t<nt)(O:Gh P nt (pv++c) ops xs)
  {d e:List V} {h h':H} (W:pI cl yl h.next xs (d++List.replicate c.length .unk) [] {h with next:=h.next+ops.size}=some (e,h'))
  {m:M} {w:World} {a:Act} (f:iG m nt pv d a.tmps) (R:HR P m h w) (B:Cx m h.next) {rr:Option Nat} {id:Nat} {Q:Exit->Act->World->Prop}
  (L: ∀a' w' m',iG m' nt pv (e.take d.length) a'.tmps->a'.defers=a.defers->fY P m h w m' h' w'->Q .normal a' w'):(Code.region id ops true).wpIn (Wf rr) 0 P Q a w:=by
 obtain⟨T,J,F⟩:=Bu xs _ _ _ _ _ W
 have u:=fY.drawn R B.fresh (w.drawn+1)
 refine wpIn_region_any U ?_
 have A:iG m nt (pv++c) (d++List.replicate c.length .unk) a.tmps:=by
  refine⟨f.size,by simp [f.len],λs p=>?_,λs k g=>?_⟩
  ·rcases sZ.1 p with b|b
   ·exact f.lt s b
   ·exact o s b
  ·have v:=Cg g
   rcases Ap pv c g with b|⟨_,b⟩
   ·have:=Cg b
    have r:=f.val s k b;simp only[List.getD] at r ⊢;rw[wE (by rw[f.len];exact this)];exact r
   ·simp only[List.getD]
    rw[Cq (by rw[f.len];exact b),List.getElem?_replicate,aV (by rw[f.len];simp at v;omega)];simp [VR]
 have i: ∀(j:Nat),(Array.replicate ops.size false).getD j false=false:=by
  intro j;simp only[Tu,Array.getElem?_replicate];split<;>rfl
 have z:(λj=>(Array.replicate ops.size false).getD j false)=λ_=>false:=funext i
 refine DH (T:=T) (base:=h.next) (ds:=a.defers) (nt:=nt) (pv:=pv++c) x y F (by rw[J];exact O) rfl rfl B u.rel (λa' w' m' v N K=>?_) ops.size (Array.replicate ops.size false) m a _ (by simp) ?_ ?_ ?_
 ·refine L a' w' m' ⟨v.vars.size,?_,λs p=>f.lt s p,λs k g=>?_⟩ N (u.trans K)
  ·have:=v.vars.len
   rw[xF,this,f.len];simp
  ·have b:=v.vars.val s k (qV pv c g)
   have r:=Cg g
   simp only[List.getD] at b ⊢
   rw[List.getElem?_take,aV (by rw[f.len];exact r)]
   exact b
 ·intro j G;simp only[i] at G;cases G
 ·exact Oq _ _
 ·rw[z]
  have l:jD h.next (λ_=>false) T {h with next:=h.next+ops.size}={h with next:=h.next+ops.size}:=by
   clear F J
   induction T with
   |nil=>rfl
   |cons q t ih=>simpa [jD,iA] using ih
  refine⟨?_,rfl,?_,?_,λr b _ _=>?_,λb q b _ p=>by cases p⟩
  ·rw[Mm];exact⟨A,qS.nil ..⟩
  ·rw[l]
   have b:=fY.Df u.rel
   exact⟨b.ext,u.rel.sub (λ_ _ h=>h),λ_ _ h=> .inl h,b.kept,λb g=> .inl g,Nat.le_add_right _ _,λb g=> .inl g,λ_ _ h=>h⟩
  ·rw[l];exact eS _
  ·exact B _ (Nat.le_add_right _ _)
end
end Go.Ay
