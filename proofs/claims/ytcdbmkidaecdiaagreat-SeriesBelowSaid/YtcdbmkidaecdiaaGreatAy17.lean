/- A region whose order is drawn, whole. -/
import Derived.Test.YtcdbmkidaecdiaaGreatAy16
namespace Go.Ay
open Go
def left (S:Nat->Bool):Nat->Nat
 |0=>0
 |n+1=>left S n+(if S n then 0 else 1)
theorem HG (S:Nat->Bool): ∀n,left S n<=n
 |0=>fN _
 |n+1=>by have:=HG S n;simp only[left];split<;>omega
theorem Sw {S:Nat->Bool}: ∀n,left S n=0-> ∀i,i<n->S i=true
 |0,_,i,h=>om
 |n+1,h,i,hi=>by
  simp only[left] at h
  by_cases a:i=n
  ·subst a
   cases hs:S i with
   |true=>rfl
   |false=>simp [hs] at h
  ·exact Sw n om i om
theorem Ru {S a:Nat->Bool}{i:Nat}(b:S i=false)(h2:a=λj=>S j||j==i): ∀n,left a n<=left S n/\(i<n->left a n+1<=left S n)
 |0=>⟨fN _,λh=>om⟩
 |n+1=>by
  have d:=Ru b h2 n;subst h2;simp only[left]
  by_cases c:n=i
  ·subst c
   simp only[b,beq_self_eq_true,Bool.or_true,if_true,Bool.false_eq_true,if_false];exact⟨om,λ_=>om⟩
  ·have:(S n||n==i)=S n:=by simp [c]
   simp only[this];exact⟨om,λh=>by have:=d.2 om;omega⟩
section
variable {P:Program} {cl yl:lQ} {base n:Nat} {T:List Rec} {vars0:List V} {hS:H} {nt:Nat} {pv:List Nat} {m0:M} {h0:H} {w0:World} {ds:List Deferred}
 {ops:Array Oper}
theorem Sc {S:Nat->Bool}: ∀(T:List Rec),(∀q∈T,S q.x.i=true)∨ ∃T1 q T2,T=T1++q::T2/\S q.x.i=false/\ ∀y∈T1,S y.x.i=true
 | []=> .inl λ_ h=>by cases h
 |q::T=>by
  cases hs:S q.x.i with
  |false=>exact .inr ⟨[],q,T,rfl,hs,λ_ h=>by cases h⟩
  |true=>
   rcases Sc (S:=S) T with h|⟨T1,y,T2,c,d,f⟩
   ·refine .inl λy b=>?_
    rcases vI.1 b with rfl|b
    ·exact hs
    ·exact h y b
   ·refine .inr ⟨q::T1,y,T2,by simp [c],d,λz a=>?_⟩
    rcases vI.1 a with rfl|a
    ·exact hs
    ·exact f z a
theorem afR (a3:Hz P cl)(a8:Bp P yl){c:List V}{h':H}(hC:Tj cl yl base T vars0 [] hS c h')(L:Vy P nt pv ops (T.map (·.x)))
  (hb:base=h0.next) (K:hS.get=h0.get) (a6:Vz m0 h0.next) (a0:HR P m0 h0 w0) {rr:Option Nat} {Q:Exit->Act->World->Prop}
  (hQ: ∀a w m,St m nt pv [] c [] a->a.defers=ds->jR P m0 h0 w0 m h' w->Q .normal a w):
  ∀(fuel:Nat) (listed:Array Bool) (m:M) (a:Act) (w:World),listed.size=ops.size->Down (Ia ops) (λj=>listed.getD j false)->left (λj=>listed.getD j false) ops.size<=fuel->
   Inv P base ops.size T vars0 hS nt pv m0 h0 w0 ds (λj=>listed.getD j false) m a w->wpAnyIn (Wf rr) 0 P .any ops Q fuel listed a w:=by
 have a5: ∀q∈T,q.x.al=q.x.it.a.oE/\q.x.it.Fp=false:=λq A=>L.ok.al q.x (pH.2 ⟨q,A,rfl⟩)
 have done: ∀(listed:Array Bool) (m:M) (a:Act) (w:World),(∀q∈T,listed.getD q.x.i false=true)->Inv P base ops.size T vars0 hS nt pv m0 h0 w0 ds (λj=>listed.getD j false) m a w->Q .normal a w:=by
  intro listed m a w b G;have hc:=yM T [] vars0 [] hS c h' (λq A=>(a5 q A).1) (by simpa using hC);obtain⟨e1,e2⟩:=hc;have v1:Aj (λj=>listed.getD j false) T vars0=c:=by rw[←e1];exact Hc T vars0 (λq A=>b q A)
  have v2:mL base (λj=>listed.getD j false) T hS=h':=by rw[←e2];exact Cm T hS (λq A _=>b q A)
  exact hQ a w m (by rw[←v1];exact G.st) G.df (by rw[←v2];exact G.NA)
 have f: ∀(listed:Array Bool),listed.size=ops.size->Region.ready .any ops listed= []-> ∀q∈T,listed.getD q.x.i false=true:=by
  intro listed v U;rcases Sc (S:=λj=>listed.getD j false) T with h|⟨T1,q,T2,s,B,h3⟩
  ·exact h
  ·exfalso
   obtain⟨o,u,_⟩:=L.it q.x (pH.2 ⟨q,by rw[s];simp,rfl⟩);have p:=(HF.1 u).1
   have:q.x.i∈Region.ready .any ops listed:=by
    refine mem_ready.2 ⟨?_,o,u,λe he O=>?_⟩
    ·simp only[OV] at B ⊢
     rw[Array.getElem?_eq_getElem om] at B ⊢;exact B
    ·have R:e.on∈Ia ops q.x.i:=by
      simp only[Ia,u,Ca,pH,Rq];exact⟨e,⟨by simpa using he,O⟩,rfl⟩
     obtain⟨y,hy,a7⟩:=L.ok.ord (T1.map (·.x)) q.x (T2.map (·.x)) (by rw[s];simp) e.on R;obtain⟨z,hz,rfl⟩:=pH.1 hy;rw[←a7];exact h3 z hz
   rw[U] at this;cases this
 intro fuel
 induction fuel with
 |zero=>
  intro listed m a w v N a1 G;have b: ∀i,i<ops.size->listed.getD i false=true:=Sw ops.size om;refine⟨?_,done listed m a w (λq A=>b _ (L.ok.lt q.x (pH.2 ⟨q,A,rfl⟩))) G⟩
  cases U:Region.ready .any ops listed with
  |nil=>rfl
  |cons i l=>
   obtain⟨s,o,u,_⟩:=mem_ready.1 (show i∈Region.ready .any ops listed by rw[U];simp);have p:=(HF.1 u).1;have B:=b i p;simp only[OV] at s B;rw[Array.getElem?_eq_getElem om] at s B;simp only[Option.getD_some] at s B;rw[s] at B;cases B
 |succ fuel ih=>
  intro listed m a w v N a1 G;refine⟨λU=>done listed m a w (f listed v U) G,λi hi=>?_⟩;obtain⟨s,o,u,b⟩:=mem_ready.1 hi;have p:=(HF.1 u).1
  have Z:listed.getD i false=false:=by
   simp only[OV] at s ⊢;rw[Array.getElem?_eq_getElem om] at s ⊢;exact s
  have t:(λj=>(listed.setIfInBounds i true).getD j false)=λj=>listed.getD j false||j==i:=by
   funext j
   by_cases k:j=i
   ·subst k
    simp only[OV];rw[Array.getElem?_setIfInBounds_self_of_lt om];simp
   ·simp only[OV]
    rw[Array.getElem?_setIfInBounds_ne (Ne.symm k)];simp [k]
  obtain⟨x,hx,a2⟩:=L.ok.cover i p;obtain⟨r,U,rfl⟩:=pH.1 hx;obtain⟨T1,T2,hT⟩:=List.append_of_mem U;obtain⟨o',Y,a4⟩:=L.it r.x hx;subst a2;rw[u] at Y;cases Y;obtain⟨c1,c2,c3⟩:=Lo a4
  have F: ∀d∈Ia ops r.x.i,listed.getD d false=true:=by
   intro d R;simp only[Ia,u,Ca,pH,Rq] at R;obtain⟨e,⟨he,O⟩,rfl⟩:=R;exact b e (by simpa using he) O
  refine agT a3 a8 hC L.ok hb K a6 a0 hT N F Z u c1 c2 c3 G (λa' w' m' W=>?_);rw[←t] at W;refine ih (listed.setIfInBounds r.x.i true) m' a' w' (by simpa using v) ?_ ?_ W
  ·intro j k d R
   have J: ∀j,(listed.setIfInBounds r.x.i true).getD j false=(listed.getD j false||j==r.x.i):=congrFun t;simp only at k ⊢;rw[J] at k ⊢;simp only[Bool.or_eq_true,beq_iff_eq] at k ⊢;rcases k with k|k
   ·exact .inl (N j k d R)
   ·subst k;exact .inl (F d R)
  ·rw[t]
   have:=(Ru (S:=λj=>listed.getD j false) (i:=r.x.i) Z rfl ops.size).2 p;omega
theorem Ol {s k:Nat}: ∀(pv loc:List Nat),idx s (pv++loc)=some k->idx s pv=some k∨(idx s pv=none/\pv.length<=k)
 | [],loc,h=> .inr ⟨rfl,iB _⟩
 |a::pv,loc,h=>by
  simp only[List.cons_append,idx] at h ⊢
  by_cases c:a=s
  ·simp only[c,if_true] at h ⊢;exact .inl h
  ·simp only[c,if_false,oU] at h ⊢
   obtain⟨f,d,rfl⟩:=h;rcases Ol pv loc d with b|⟨b,i⟩
   ·exact .inl ⟨f,b,rfl⟩
   ·exact .inr ⟨by simp [b],by simp;omega⟩
theorem zX {s k:Nat}: ∀(pv loc:List Nat),idx s pv=some k->idx s (pv++loc)=some k
 | [],loc,h=>by simp [idx] at h
 |a::pv,loc,h=>by
  simp only[List.cons_append,idx] at h ⊢
  by_cases b:a=s
  ·simp only[b,if_true] at h ⊢;exact h
  ·simp only[b,if_false,oU] at h ⊢
   obtain⟨c,d,rfl⟩:=h;exact⟨c,zX pv loc d,rfl⟩
theorem afC (hm:P.follows .mixedOrders=true)(G:Hz P cl)(J:Bp P yl){xs:List AI}{c:List Nat}(x: ∀t∈c,t<nt)(hP:Vy P nt (pv++c) ops xs)
  {d i:List V} {h h':H} (Z:yO cl yl h.next xs (d++List.replicate c.length .unk) [] {h with next:=h.next+ops.size}=some (i,h'))
  {m:M} {w:World} {a:Act} (l:jW m nt pv d a.tmps) (hr:HR P m h w) (L:Vz m h.next) {rr:Option Nat} {id:Nat} {Q:Exit->Act->World->Prop}
  (Y: ∀a' w' m',jW m' nt pv (i.take d.length) a'.tmps->a'.defers=a.defers->jR P m h w m' h' w'->Q .normal a' w'):(Code.region id ops true).wpIn (Wf rr) 0 P Q a w:=by
 obtain⟨T,O,R⟩:=Oe xs _ _ _ _ _ Z
 have y:=jR.drawn hr L.fresh (w.drawn+1)
 refine wpIn_region_any hm ?_
 have F:jW m nt (pv++c) (d++List.replicate c.length .unk) a.tmps:=by
  refine⟨l.size,by simp [l.len],λs p=>?_,λs k u=>?_⟩
  ·rcases oD.1 p with f|f
   ·exact l.lt s f
   ·exact x s f
  ·have K:=Qr u
   rcases Ol pv c u with f|⟨_,f⟩
   ·have:=Qr f
    have z:=l.val s k f;simp only[List.getD] at z ⊢;rw[Dt (by rw[l.len];exact this)];exact z
   ·simp only[List.getD]
    rw[Jg (by rw[l.len];exact f),List.getElem?_replicate,bJ (by rw[l.len];simp at K;omega)];simp [VR]
 have o: ∀(j:Nat),(Array.replicate ops.size false).getD j false=false:=by
  intro j;simp only[OV,Array.getElem?_replicate];split<;>rfl
 have B:(λj=>(Array.replicate ops.size false).getD j false)=λ_=>false:=funext o
 refine afR (T:=T) (base:=h.next) (ds:=a.defers) (nt:=nt) (pv:=pv++c) G J R (by rw[O];exact hP) rfl rfl L y.rel (λa' w' m' N s2 s3=>?_) ops.size (Array.replicate ops.size false) m a _ (by simp) ?_ ?_ ?_
 ·refine Y a' w' m' ⟨N.vars.size,?_,λs p=>l.lt s p,λs k u=>?_⟩ s2 (y.trans s3)
  ·have:=N.vars.len
   rw[zO,this,l.len];simp
  ·have f:=N.vars.val s k (zX pv c u)
   have z:=Qr u
   simp only[List.getD] at f ⊢
   rw[List.getElem?_take,bJ (by rw[l.len];exact z)]
   exact f
 ·intro j U;simp only[o] at U;cases U
 ·exact HG _ _
 ·rw[B]
  have v:mL h.next (λ_=>false) T {h with next:=h.next+ops.size}={h with next:=h.next+ops.size}:=by
   clear R O
   induction T with
   |nil=>rfl
   |cons q t ih=>simpa [mL,jI] using ih
  refine⟨?_,rfl,?_,?_,λr a1 _ _=>?_,λT1 q T2 _ p=>by cases p⟩
  ·rw[EG];exact⟨F,Dy.nil ..⟩
  ·rw[v]
   have W:=jR.Sa y.rel
   exact⟨W.ext,y.rel.sub (λ_ _ h=>h),λ_ _ h=> .inl h,W.kept,λb A=> .inl A,Nat.le_add_right _ _,λb A=> .inl A,λ_ _ h=>h⟩
  ·rw[v];exact fN _
  ·exact L _ (Nat.le_add_right _ _)
end
end Go.Ay
