/- A region whose order is drawn, whole. -/
import Derived.Test.YtapfcpkecmmagaaGreatAy16
namespace Go.Ay
open Go
def left (S:Nat->Bool):Nat->Nat
 |0=>0
 |n+1=>left S n+(if S n then 0 else 1)
theorem Pj (S:Nat->Bool): ∀n,left S n<=n
 |0=>fH _
 |n+1=>by have:=Pj S n;simp only[left];split<;>omega
theorem Ex {S:Nat->Bool}: ∀n,left S n=0-> ∀i,i<n->S i=true
 |0,_,i,h=>om
 |n+1,h,i,hi=>by
  simp only[left] at h
  by_cases a:i=n
  ·subst a
   cases hs:S i with
   |true=>rfl
   |false=>simp [hs] at h
  ·exact Ex n om i om
theorem Fj {S a:Nat->Bool}{i:Nat}(b:S i=false)(h2:a=λj=>S j||j==i): ∀n,left a n<=left S n/\(i<n->left a n+1<=left S n)
 |0=>⟨fH _,λh=>om⟩
 |n+1=>by
  have d:=Fj b h2 n;subst h2;simp only[left]
  by_cases c:n=i
  ·subst c
   simp only[b,beq_self_eq_true,Bool.or_true,if_true,Bool.false_eq_true,if_false];exact⟨om,λ_=>om⟩
  ·have:(S n||n==i)=S n:=by simp [c]
   simp only[this];exact⟨om,λh=>by have:=d.2 om;omega⟩
section
variable {P:Program} {cl yl:dP} {base n:Nat} {T:List Rec} {vars0:List V} {hS:H} {nt:Nat} {pv:List Nat} {m0:M} {h0:H} {w0:World} {ds:List Deferred}
 {ops:Array Oper}
theorem Db {S:Nat->Bool}: ∀(T:List Rec),(∀q∈T,S q.x.i=true)∨ ∃T1 q T2,T=T1++q::T2/\S q.x.i=false/\ ∀y∈T1,S y.x.i=true
 | []=> .inl λ_ h=>by cases h
 |q::T=>by
  cases hs:S q.x.i with
  |false=>exact .inr ⟨[],q,T,rfl,hs,λ_ h=>by cases h⟩
  |true=>
   rcases Db (S:=S) T with h|⟨T1,y,T2,c,d,e⟩
   ·refine .inl λy b=>?_
    rcases Dk.1 b with rfl|b
    ·exact hs
    ·exact h y b
   ·refine .inr ⟨q::T1,y,T2,by simp [c],d,λz a=>?_⟩
    rcases Dk.1 a with rfl|a
    ·exact hs
    ·exact e z a
theorem FB (a3:tN P cl)(a9:rX P yl){c:List V}{h':H}(hC:Dy cl yl base T vars0 [] hS c h')(N:Ha P nt pv ops (T.map (·.x)))
  (hb:base=h0.next) (O:hS.get=h0.get) (b0:Cq m0 h0.next) (a4:HR P m0 h0 w0) {rr:Option Nat} {Q:Exit->Act->World->Prop}
  (hQ: ∀a w m,St m nt pv [] c [] a->a.defers=ds->fU P m0 h0 w0 m h' w->Q .normal a w):
  ∀(fuel:Nat) (listed:Array Bool) (m:M) (a:Act) (w:World),listed.size=ops.size->Down (vD ops) (λj=>listed.getD j false)->left (λj=>listed.getD j false) ops.size<=fuel->
   Inv P base ops.size T vars0 hS nt pv m0 h0 w0 ds (λj=>listed.getD j false) m a w->wpAnyIn (Wf rr) 0 P .any ops Q fuel listed a w:=by
 have h: ∀q∈T,q.x.al=q.x.it.a.jR/\q.x.it.tP=false:=λq B=>N.ok.al q.x (pU.2 ⟨q,B,rfl⟩)
 have done: ∀(listed:Array Bool) (m:M) (a:Act) (w:World),(∀q∈T,listed.getD q.x.i false=true)->Inv P base ops.size T vars0 hS nt pv m0 h0 w0 ds (λj=>listed.getD j false) m a w->Q .normal a w:=by
  intro listed m a w b G;have hc:=oV T [] vars0 [] hS c h' (λq B=>(h q B).1) (by simpa using hC);obtain⟨y,h⟩:=hc;have v1:qY (λj=>listed.getD j false) T vars0=c:=by rw[←y];exact uV T vars0 (λq B=>b q B)
  have y:jK base (λj=>listed.getD j false) T hS=h':=by rw[←h];exact rF T hS (λq B _=>b q B)
  exact hQ a w m (by rw[←v1];exact G.st) G.df (by rw[←y];exact G.Kq)
 have f: ∀(listed:Array Bool),listed.size=ops.size->Region.ready .any ops listed= []-> ∀q∈T,listed.getD q.x.i false=true:=by
  intro listed A L;rcases Db (S:=λj=>listed.getD j false) T with h|⟨T1,q,T2,s,v,h3⟩
  ·exact h
  ·exfalso
   obtain⟨o,_,u,W,_⟩:=N.it q.x (pU.2 ⟨q,by rw[s];simp,rfl⟩);have p:=(Gu.1 u).1
   have:q.x.i∈Region.ready .any ops listed:=by
    refine mem_ready.2 ⟨?_,o,u,λe he R=>?_⟩
    ·simp only[Ta] at v ⊢
     rw[Array.getElem?_eq_getElem om] at v ⊢;exact v
    ·have J:e.on∈vD ops q.x.i:=by
      simp only[vD,u,rJ,pU,Sq];exact⟨e,⟨by simpa using he,R⟩,rfl⟩
     obtain⟨y,hy,a5⟩:=N.ok.ord (T1.map (·.x)) q.x (T2.map (·.x)) (by rw[s];simp) e.on J;obtain⟨z,hz,rfl⟩:=pU.1 hy;rw[←a5];exact h3 z hz
   rw[L] at this;cases this
 intro fuel
 induction fuel with
 |zero=>
  intro listed m a w A U a2 G;have b: ∀i,i<ops.size->listed.getD i false=true:=Ex ops.size om;refine⟨?_,done listed m a w (λq B=>b _ (N.ok.lt q.x (pU.2 ⟨q,B,rfl⟩))) G⟩
  cases L:Region.ready .any ops listed with
  |nil=>rfl
  |cons i l=>
   obtain⟨s,o,u,_⟩:=mem_ready.1 (show i∈Region.ready .any ops listed by rw[L];simp);have p:=(Gu.1 u).1;have v:=b i p;simp only[Ta] at s v;rw[Array.getElem?_eq_getElem om] at s v;simp only[Option.getD_some] at s v;rw[s] at v;cases v
 |succ fuel ih=>
  intro listed m a w A U a2 G;refine⟨λL=>done listed m a w (f listed A L) G,λi hi=>?_⟩;obtain⟨s,o,u,b⟩:=mem_ready.1 hi;have p:=(Gu.1 u).1
  have Z:listed.getD i false=false:=by
   simp only[Ta] at s ⊢;rw[Array.getElem?_eq_getElem om] at s ⊢;exact s
  have t:(λj=>(listed.setIfInBounds i true).getD j false)=λj=>listed.getD j false||j==i:=by
   funext j
   by_cases k:j=i
   ·subst k
    simp only[Ta];rw[Array.getElem?_setIfInBounds_self_of_lt om];simp
   ·simp only[Ta]
    rw[Array.getElem?_setIfInBounds_ne (Ne.symm k)];simp [k]
  obtain⟨x,hx,a8⟩:=N.ok.cover i p;obtain⟨r,L,rfl⟩:=pU.1 hx;obtain⟨T1,T2,hT⟩:=List.append_of_mem L;obtain⟨f,a1,Y,W,K⟩:=N.it r.x hx;subst a8;rw[u] at Y;cases Y;obtain⟨h,c2,c3⟩:=xR W
  have a6: ∃f,iJ P pv [] o=some f/\(r.x.it.a=f∨r.x.it.a=f.pu):=⟨_,h,by
   rcases K with e|e
   ·rw[e];exact .inl rfl
   ·rw[e];exact .inr rfl⟩
  have a7:GO nt pv [] o.dst r.x.it.d []:=by rcases K with e|e<;>rw[e]<;>exact c2
  have eg:r.x.it.g=a1.g:=by
   rcases K with e|e
   ·rw[e]
   ·rw[e];rfl
  rw[←eg] at c3
  have F: ∀d∈vD ops r.x.i,listed.getD d false=true:=by
   intro d J;simp only[vD,u,rJ,pU,Sq] at J;obtain⟨e,⟨he,R⟩,rfl⟩:=J;exact b e (by simpa using he) R
  refine CV a3 a9 hC N.ok hb O b0 a4 hT U F Z u a6 a7 c3 G (λf h e b=>?_);rw[←t] at b;refine ih (listed.setIfInBounds r.x.i true) e f h (by simpa using A) ?_ ?_ b
  ·intro j k d J
   have b: ∀j,(listed.setIfInBounds r.x.i true).getD j false=(listed.getD j false||j==r.x.i):=congrFun t;simp only at k ⊢;rw[b] at k ⊢;simp only[Bool.or_eq_true,beq_iff_eq] at k ⊢;rcases k with k|k
   ·exact .inl (U j k d J)
   ·subst k;exact .inl (F d J)
  ·rw[t]
   have:=(Fj (S:=λj=>listed.getD j false) (i:=r.x.i) Z rfl ops.size).2 p;omega
theorem By {s k:Nat}: ∀(pv loc:List Nat),idx s (pv++loc)=some k->idx s pv=some k∨(idx s pv=none/\pv.length<=k)
 | [],loc,h=> .inr ⟨rfl,eY _⟩
 |a::pv,loc,h=>by
  simp only[List.cons_append,idx] at h ⊢
  by_cases c:a=s
  ·simp only[c,if_true] at h ⊢;exact .inl h
  ·simp only[c,if_false,jB] at h ⊢
   obtain⟨e,d,rfl⟩:=h;rcases By pv loc d with b|⟨b,f⟩
   ·exact .inl ⟨e,b,rfl⟩
   ·exact .inr ⟨by simp [b],by simp;omega⟩
theorem qN {s k:Nat}: ∀(pv loc:List Nat),idx s pv=some k->idx s (pv++loc)=some k
 | [],loc,h=>by simp [idx] at h
 |a::pv,loc,h=>by
  simp only[List.cons_append,idx] at h ⊢
  by_cases b:a=s
  ·simp only[b,if_true] at h ⊢;exact h
  ·simp only[b,if_false,jB] at h ⊢
   obtain⟨d,c,rfl⟩:=h;exact⟨d,qN pv loc c,rfl⟩
theorem DS (U:P.follows .mixedOrders=true)(y:tN P cl)(B:rX P yl){xs:List AI}{c:List Nat}(g: ∀t∈c,t<nt)(L:Ha P nt (pv++c) ops xs)
  {d e:List V} {h h':H} (W:oW cl yl h.next xs (d++List.replicate c.length .unk) [] {h with next:=h.next+ops.size}=some (e,h'))
  {m:M} {w:World} {a:Act} (f:iG m nt pv d a.tmps) (K:HR P m h w) (x:Cq m h.next) {rr:Option Nat} {id:Nat} {Q:Exit->Act->World->Prop}
  (N: ∀a' w' m',iG m' nt pv (e.take d.length) a'.tmps->a'.defers=a.defers->fU P m h w m' h' w'->Q .normal a' w'):(Code.region id ops true).wpIn (Wf rr) 0 P Q a w:=by
 obtain⟨T,F,G⟩:=Bj xs _ _ _ _ _ W
 have u:=fU.drawn K x.fresh (w.drawn+1)
 refine wpIn_region_any U ?_
 have A:iG m nt (pv++c) (d++List.replicate c.length .unk) a.tmps:=by
  refine⟨f.size,by simp [f.len],λs i=>?_,λs k p=>?_⟩
  ·rcases sP.1 i with b|b
   ·exact f.lt s b
   ·exact g s b
  ·have z:=Bc p
   rcases By pv c p with b|⟨_,b⟩
   ·have:=Bc b
    have r:=f.val s k b;simp only[List.getD] at r ⊢;rw[vY (by rw[f.len];exact this)];exact r
   ·simp only[List.getD]
    rw[Dw (by rw[f.len];exact b),List.getElem?_replicate,aV (by rw[f.len];simp at z;omega)];simp [VR]
 have o: ∀(j:Nat),(Array.replicate ops.size false).getD j false=false:=by
  intro j;simp only[Ta,Array.getElem?_replicate];split<;>rfl
 have v:(λj=>(Array.replicate ops.size false).getD j false)=λ_=>false:=funext o
 refine FB (T:=T) (base:=h.next) (ds:=a.defers) (nt:=nt) (pv:=pv++c) y B G (by rw[F];exact L) rfl rfl x u.rel (λa' w' m' z R O=>?_) ops.size (Array.replicate ops.size false) m a _ (by simp) ?_ ?_ ?_
 ·refine N a' w' m' ⟨z.vars.size,?_,λs i=>f.lt s i,λs k p=>?_⟩ R (u.trans O)
  ·have:=z.vars.len
   rw[xV,this,f.len];simp
  ·have b:=z.vars.val s k (qN pv c p)
   have r:=Bc p
   simp only[List.getD] at b ⊢
   rw[List.getElem?_take,aV (by rw[f.len];exact r)]
   exact b
 ·intro j J;simp only[o] at J;cases J
 ·exact Pj _ _
 ·rw[v]
  have l:jK h.next (λ_=>false) T {h with next:=h.next+ops.size}={h with next:=h.next+ops.size}:=by
   clear G F
   induction T with
   |nil=>rfl
   |cons q t ih=>simpa [jK,gY] using ih
  refine⟨?_,rfl,?_,?_,λr b _ _=>?_,λb q b _ i=>by cases i⟩
  ·rw[Lp];exact⟨A,qK.nil ..⟩
  ·rw[l]
   have b:=fU.Dz u.rel
   exact⟨b.ext,u.rel.sub (λ_ _ h=>h),λ_ _ h=> .inl h,b.kept,λb i=> .inl i,Nat.le_add_right _ _,λb i=> .inl i,λ_ _ h=>h⟩
  ·rw[l];exact fH _
  ·exact x _ (Nat.le_add_right _ _)
end
end Go.Ay
