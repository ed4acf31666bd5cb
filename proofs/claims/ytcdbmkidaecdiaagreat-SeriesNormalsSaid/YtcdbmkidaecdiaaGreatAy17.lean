/- A region whose order is drawn, whole. -/
import Derived.Test.YtcdbmkidaecdiaaGreatAy16
namespace Go.Ay
open Go
def left (S:Nat->Bool):Nat->Nat
 |0=>0
 |n+1=>left S n+(if S n then 0 else 1)
theorem HG (S:Nat->Bool): ∀n,left S n<=n
 |0=>dT _
 |n+1=>by have:=HG S n;simp only[left];split<;>omega
theorem Sw {S:Nat->Bool}: ∀n,left S n=0-> ∀i,i<n->S i=true
 |0,_,i,h=>om
 |n+1,h,i,hi=>by
  simp only[left] at h
  by_cases a:i=n
  ·subst a
   cases hs:S i with
   |true=>rfl
   |false=>simp [hs] at h
  ·exact Sw n om i om
theorem Ru {S a:Nat->Bool}{i:Nat}(c:S i=false)(h2:a=λj=>S j||j==i): ∀n,left a n<=left S n/\(i<n->left a n+1<=left S n)
 |0=>⟨dT _,λh=>om⟩
 |n+1=>by
  have d:=Ru c h2 n;subst h2;simp only[left]
  by_cases b:n=i
  ·subst b
   simp only[c,beq_self_eq_true,Bool.or_true,if_true,Bool.false_eq_true,if_false];exact⟨om,λ_=>om⟩
  ·have:(S n||n==i)=S n:=by simp [b]
   simp only[this];exact⟨om,λh=>by have:=d.2 om;omega⟩
section
variable {P:Program} {cl yl:lQ} {base n:Nat} {T:List Rec} {vars0:List V} {hS:H} {nt:Nat} {pv:List Nat} {m0:M} {h0:H} {w0:World} {ds:List Deferred}
 {ops:Array Oper}
theorem Sc {S:Nat->Bool}: ∀(T:List Rec),(∀q∈T,S q.x.i=true)∨ ∃T1 q T2,T=T1++q::T2/\S q.x.i=false/\ ∀y∈T1,S y.x.i=true
 | []=> .inl λ_ h=>by cases h
 |q::T=>by
  cases hs:S q.x.i with
  |false=>exact .inr ⟨[],q,T,rfl,hs,λ_ h=>by cases h⟩
  |true=>
   rcases Sc (S:=S) T with h|⟨T1,y,T2,c,e,d⟩
   ·refine .inl λy a=>?_
    rcases vI.1 a with rfl|a
    ·exact hs
    ·exact h y a
   ·refine .inr ⟨q::T1,y,T2,by simp [c],e,λz b=>?_⟩
    rcases vI.1 b with rfl|b
    ·exact hs
    ·exact d z b
theorem afR (a7:Hz P cl)(a0:Bp P yl){c:List V}{h':H}(hC:Tj cl yl base T vars0 [] hS c h')(L:Vy P nt pv ops (T.map (·.x)))
  (hb:base=h0.next) (N:hS.get=h0.get) (a2:Vz m0 h0.next) (Z:HR P m0 h0 w0) {rr:Option Nat} {Q:Exit->Act->World->Prop}
  (hQ: ∀a w m,St m nt pv [] c [] a->a.defers=ds->jR P m0 h0 w0 m h' w->Q .normal a w):
  ∀(fuel:Nat) (listed:Array Bool) (m:M) (a:Act) (w:World),listed.size=ops.size->Down (Ia ops) (λj=>listed.getD j false)->left (λj=>listed.getD j false) ops.size<=fuel->
   Inv P base ops.size T vars0 hS nt pv m0 h0 w0 ds (λj=>listed.getD j false) m a w->wpAnyIn (Wf rr) 0 P .any ops Q fuel listed a w:=by
 have a4: ∀q∈T,q.x.al=q.x.it.a.oE/\q.x.it.Fp=false:=λq v=>L.ok.al q.x (pH.2 ⟨q,v,rfl⟩)
 have done: ∀(listed:Array Bool) (m:M) (a:Act) (w:World),(∀q∈T,listed.getD q.x.i false=true)->Inv P base ops.size T vars0 hS nt pv m0 h0 w0 ds (λj=>listed.getD j false) m a w->Q .normal a w:=by
  intro listed m a w b F;have hc:=yM T [] vars0 [] hS c h' (λq v=>(a4 q v).1) (by simpa using hC);obtain⟨e1,e2⟩:=hc;have v1:Aj (λj=>listed.getD j false) T vars0=c:=by rw[←e1];exact Hc T vars0 (λq v=>b q v)
  have v2:mL base (λj=>listed.getD j false) T hS=h':=by rw[←e2];exact Cm T hS (λq v _=>b q v)
  exact hQ a w m (by rw[←v1];exact F.st) F.df (by rw[←v2];exact F.NA)
 have f: ∀(listed:Array Bool),listed.size=ops.size->Region.ready .any ops listed= []-> ∀q∈T,listed.getD q.x.i false=true:=by
  intro listed A K;rcases Sc (S:=λj=>listed.getD j false) T with h|⟨T1,q,T2,k,u,h3⟩
  ·exact h
  ·exfalso
   obtain⟨o,t,_⟩:=L.it q.x (pH.2 ⟨q,by rw[k];simp,rfl⟩);have s:=(HF.1 t).1
   have:q.x.i∈Region.ready .any ops listed:=by
    refine mem_ready.2 ⟨?_,o,t,λe he O=>?_⟩
    ·simp only[OV] at u ⊢
     rw[Array.getElem?_eq_getElem om] at u ⊢;exact u
    ·have R:e.on∈Ia ops q.x.i:=by
      simp only[Ia,t,Ca,pH,Rq];exact⟨e,⟨by simpa using he,O⟩,rfl⟩
     obtain⟨y,hy,a5⟩:=L.ok.ord (T1.map (·.x)) q.x (T2.map (·.x)) (by rw[k];simp) e.on R;obtain⟨z,hz,rfl⟩:=pH.1 hy;rw[←a5];exact h3 z hz
   rw[K] at this;cases this
 intro fuel
 induction fuel with
 |zero=>
  intro listed m a w A J a3 F;have b: ∀i,i<ops.size->listed.getD i false=true:=Sw ops.size om;refine⟨?_,done listed m a w (λq v=>b _ (L.ok.lt q.x (pH.2 ⟨q,v,rfl⟩))) F⟩
  cases K:Region.ready .any ops listed with
  |nil=>rfl
  |cons i l=>
   obtain⟨k,o,t,_⟩:=mem_ready.1 (show i∈Region.ready .any ops listed by rw[K];simp);have s:=(HF.1 t).1;have u:=b i s;simp only[OV] at k u;rw[Array.getElem?_eq_getElem om] at k u;simp only[Option.getD_some] at k u;rw[k] at u;cases u
 |succ fuel ih=>
  intro listed m a w A J a3 F;refine⟨λK=>done listed m a w (f listed A K) F,λi hi=>?_⟩;obtain⟨k,o,t,b⟩:=mem_ready.1 hi;have s:=(HF.1 t).1
  have W:listed.getD i false=false:=by
   simp only[OV] at k ⊢;rw[Array.getElem?_eq_getElem om] at k ⊢;exact k
  have p:(λj=>(listed.setIfInBounds i true).getD j false)=λj=>listed.getD j false||j==i:=by
   funext j
   by_cases g:j=i
   ·subst g
    simp only[OV];rw[Array.getElem?_setIfInBounds_self_of_lt om];simp
   ·simp only[OV]
    rw[Array.getElem?_setIfInBounds_ne (Ne.symm g)];simp [g]
  obtain⟨x,hx,a1⟩:=L.ok.cover i s;obtain⟨r,K,rfl⟩:=pH.1 hx;obtain⟨T1,T2,hT⟩:=List.append_of_mem K;obtain⟨o',Y,a6⟩:=L.it r.x hx;subst a1;rw[t] at Y;cases Y;obtain⟨c1,c2,c3⟩:=Lo a6
  have B: ∀d∈Ia ops r.x.i,listed.getD d false=true:=by
   intro d R;simp only[Ia,t,Ca,pH,Rq] at R;obtain⟨e,⟨he,O⟩,rfl⟩:=R;exact b e (by simpa using he) O
  refine agT a7 a0 hC L.ok hb N a2 Z hT J B W t c1 c2 c3 F (λa' w' m' U=>?_);rw[←p] at U;refine ih (listed.setIfInBounds r.x.i true) m' a' w' (by simpa using A) ?_ ?_ U
  ·intro j g d R
   have G: ∀j,(listed.setIfInBounds r.x.i true).getD j false=(listed.getD j false||j==r.x.i):=congrFun p;simp only at g ⊢;rw[G] at g ⊢;simp only[Bool.or_eq_true,beq_iff_eq] at g ⊢;rcases g with g|g
   ·exact .inl (J j g d R)
   ·subst g;exact .inl (B d R)
  ·rw[p]
   have:=(Ru (S:=λj=>listed.getD j false) (i:=r.x.i) W rfl ops.size).2 s;omega
theorem Ol {s k:Nat}: ∀(pv loc:List Nat),idx s (pv++loc)=some k->idx s pv=some k∨(idx s pv=none/\pv.length<=k)
 | [],loc,h=> .inr ⟨rfl,iB _⟩
 |a::pv,loc,h=>by
  simp only[List.cons_append,idx] at h ⊢
  by_cases c:a=s
  ·simp only[c,if_true] at h ⊢;exact .inl h
  ·simp only[c,if_false,oU] at h ⊢
   obtain⟨e,d,rfl⟩:=h;rcases Ol pv loc d with b|⟨b,f⟩
   ·exact .inl ⟨e,b,rfl⟩
   ·exact .inr ⟨by simp [b],by simp;omega⟩
theorem zX {s k:Nat}: ∀(pv loc:List Nat),idx s pv=some k->idx s (pv++loc)=some k
 | [],loc,h=>by simp [idx] at h
 |a::pv,loc,h=>by
  simp only[List.cons_append,idx] at h ⊢
  by_cases b:a=s
  ·simp only[b,if_true] at h ⊢;exact h
  ·simp only[b,if_false,oU] at h ⊢
   obtain⟨d,c,rfl⟩:=h;exact⟨d,zX pv loc c,rfl⟩
theorem afC (hm:P.follows .mixedOrders=true)(K:Hz P cl)(y:Bp P yl){xs:List AI}{c:List Nat}(o: ∀t∈c,t<nt)(Y:Vy P nt (pv++c) ops xs)
  {d f:List V} {h h':H} (U:mB cl yl h.next xs (d++List.replicate c.length .unk) [] {h with next:=h.next+ops.size}=some (f,h'))
  {m:M} {w:World} {a:Act} (g:jW m nt pv d a.tmps) (W:HR P m h w) (G:Vz m h.next) {rr:Option Nat} {id:Nat} {Q:Exit->Act->World->Prop}
  (hQ: ∀a' w' m',jW m' nt pv (f.take d.length) a'.tmps->a'.defers=a.defers->jR P m h w m' h' w'->Q .normal a' w'):(Code.region id ops true).wpIn (Wf rr) 0 P Q a w:=by
 obtain⟨T,O,R⟩:=Oe xs _ _ _ _ _ U
 have x:=jR.drawn W G.fresh (w.drawn+1)
 refine wpIn_region_any hm ?_
 have A:jW m nt (pv++c) (d++List.replicate c.length .unk) a.tmps:=by
  refine⟨g.size,by simp [g.len],λs i=>?_,λs k p=>?_⟩
  ·rcases oD.1 i with e|e
   ·exact g.lt s e
   ·exact o s e
  ·have F:=Qr p
   rcases Ol pv c p with e|⟨_,e⟩
   ·have:=Qr e
    have v:=g.val s k e;simp only[List.getD] at v ⊢;rw[Dt (by rw[g.len];exact this)];exact v
   ·simp only[List.getD]
    rw[Jg (by rw[g.len];exact e),List.getElem?_replicate,bJ (by rw[g.len];simp at F;omega)];simp [VR]
 have l: ∀(j:Nat),(Array.replicate ops.size false).getD j false=false:=by
  intro j;simp only[OV,Array.getElem?_replicate];split<;>rfl
 have B:(λj=>(Array.replicate ops.size false).getD j false)=λ_=>false:=funext l
 refine afR (T:=T) (base:=h.next) (ds:=a.defers) (nt:=nt) (pv:=pv++c) K y R (by rw[O];exact Y) rfl rfl G x.rel (λa' w' m' z s2 s3=>?_) ops.size (Array.replicate ops.size false) m a _ (by simp) ?_ ?_ ?_
 ·refine hQ a' w' m' ⟨z.vars.size,?_,λs i=>g.lt s i,λs k p=>?_⟩ s2 (x.trans s3)
  ·have:=z.vars.len
   rw[zO,this,g.len];simp
  ·have e:=z.vars.val s k (zX pv c p)
   have v:=Qr p
   simp only[List.getD] at e ⊢
   rw[List.getElem?_take,bJ (by rw[g.len];exact v)]
   exact e
 ·intro j L;simp only[l] at L;cases L
 ·exact HG _ _
 ·rw[B]
  have u:mL h.next (λ_=>false) T {h with next:=h.next+ops.size}={h with next:=h.next+ops.size}:=by
   clear R O
   induction T with
   |nil=>rfl
   |cons q t ih=>simpa [mL,jI] using ih
  refine⟨?_,rfl,?_,?_,λr Z _ _=>?_,λT1 q T2 _ i=>by cases i⟩
  ·rw[EG];exact⟨A,Dy.nil ..⟩
  ·rw[u]
   have N:=jR.Sa x.rel
   exact⟨N.ext,x.rel.sub (λ_ _ h=>h),λ_ _ h=> .inl h,N.kept,λb J=> .inl J,Nat.le_add_right _ _,λb J=> .inl J,λ_ _ h=>h⟩
  ·rw[u];exact dT _
  ·exact G _ (Nat.le_add_right _ _)
end
end Go.Ay
