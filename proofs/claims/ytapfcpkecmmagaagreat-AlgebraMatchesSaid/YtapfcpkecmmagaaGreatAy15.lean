/- One operation of a region whose order is drawn, whichever comes up. -/
import Derived.Test.YtapfcpkecmmagaaGreatAy14
import Derived.OrdersIn
namespace Go.Ay
open Go
section
variable {p q:AI} {k:Nat}
def Down (dep:Nat->List Nat)(S:Nat->Bool):Prop:= ∀j,S j=true-> ∀d∈dep j,S d=true
def Wr (dep:Nat->List Nat)(a b:Nat):Prop:= ∀S:Nat->Bool,Down dep S->(∀d∈dep b,S d=true)->S a=true
structure Me (dep:Nat->List Nat)(n:Nat)(xs:List AI):Prop where
 pw:xs.Pairwise λa b=>a.i≠b.i/\(tV a b=true->Wr dep a.i b.i)/\(a.it.a.mL=true->b.it.a.nP=true->Wr dep a.i b.i∨b.cks.contains a.i=true)
 al: ∀x∈xs,x.al=x.it.a.jR/\x.it.uD=false
 lt: ∀x∈xs,x.i<n
 cover: ∀i,i<n-> ∃x∈xs,x.i=i
 ord: ∀l1 x l2,xs=l1++x::l2-> ∀d∈dep x.i,∃y∈l1,y.i=d
structure Inv (P:Program)(base n:Nat)(T:List Rec)(vars0:List V)(hS:H)(nt:Nat)(pv:List Nat)(m0:M)(h0:H)(w0:World)(ds:List Deferred)(S:Nat->Bool)(m:M)(a:Act)(w:World):Prop where
 st:St m nt pv [] (rD S T vars0) [] a
 df:a.defers=ds
 Hz:fY P m0 h0 w0 m (jD base S T hS) w
 nx:base+n<=(jD base S T hS).next
 free: ∀r∈T,r.x.al=true->S r.x.i=false->m (base+r.x.i)=none
 none: ∀T1 q T2,T=T1++q::T2->S q.x.i=true->q.x.it.a.nP=true-> ∀r∈T2,r.x.al=true->q.ha.get (base+r.x.i)=none
section
variable {P:Program} {cl yl:dP} {base n:Nat} {T:List Rec} {vars0:List V} {hS:H} {nt:Nat} {pv:List Nat} {m0:M} {h0:H} {w0:World} {ds:List Deferred}
 {S:Nat->Bool} {m:M} {a:Act} {w:World} {dep:Nat->List Nat} {ops:Array Oper}
theorem Kh {vs us:List V}{x:X}(h: ∀k∈x.Ej,vs.getD k .undef=us.getD k .undef):xv vs [] x=xv us [] x:=by
 cases x with
 |v k=>exact h k (by simp [X.Ej])
 |l k=>rfl
 |c v=>rfl
theorem CS (f:Me dep n (T.map (·.x))){e d:List Rec}{r:Rec}(g:T=e++r::d):
  (∀q∈e,q.x.i≠r.x.i/\(tV q.x r.x=true->Wr dep q.x.i r.x.i)/\(q.x.it.a.mL=true->r.x.it.a.nP=true->Wr dep q.x.i r.x.i∨r.x.cks.contains q.x.i=true))/\
  (∀q∈d,r.x.i≠q.x.i/\(tV r.x q.x=true->Wr dep r.x.i q.x.i)/\(r.x.it.a.mL=true->q.x.it.a.nP=true->Wr dep r.x.i q.x.i∨q.x.cks.contains r.x.i=true))/\
  (∀q∈e,∀q2∈d,q.x.i≠q2.x.i):=by
 have h:=f.pw
 rw[List.pairwise_map,g,List.pairwise_append,List.pairwise_cons] at h
 exact⟨λq b=>h.2.2 q b r (zJ ..),λq b=>h.2.1.1 q b,λq b q2 c=>(h.2.2 q b q2 (yK _ c)).1⟩
theorem Vc (b:p.it.wr=some k)(h2:k∈q.it.GF):tV p q=true:=by
 simp [tV,b,h2]
theorem Uh (b:q.it.wr=some k)(h2:k∈p.it.GF):tV p q=true:=by
 simp [tV,b,h2]
theorem CC (b:p.it.wr=some k)(h2:q.it.wr=some k):tV p q=true:=by
 simp [tV,b,h2]
theorem Dh (b:p.it.a.nP=true∨p.it.a.jR=true)(h2:q.it.a.nP=true∨q.it.a.mL=true):tV p q=true:=by
 unfold tV;simp only[Bool.or_eq_true,pF];exact .inr ⟨b,h2⟩
theorem Tv {it:It}{vs:List V}{v:V}(h:it.uD=false):(jI it.d vs [] v).2= []:=by
 unfold It.uD at h;unfold jI
 cases hd:it.d with
 |l=>simp [hd] at h
 |v k=>rfl
 |n=>rfl
theorem Mm: ∀(T:List Rec) (z:List V),rD (λ_=>false) T z=z
 | [],_=>rfl
 |q::t,z=>by simpa [rD] using Mm t z
theorem Io {e:Nat×I×V}: ∀(T:List Rec) (log:Log),e∈log->e∈Ic T log
 | [],_,h=>h
 |r::T,log,h=>by
  refine Io T _ ?_;simp only[uT];split
  ·unfold zC
   split
   ·split
    ·exact yK _ h
    ·exact h
   ·exact h
  ·exact h
theorem Mb {cks:List Nat}{b:Log}{h:H}(g:lX cks b h=true){i:Nat}{I:I}{v:V}(c:(i,I,v)∈b)(d:cks.contains i=true):
  ∃h',cZ (xv [] []) h I=some (v,h'):=by
 have:=zE.1 g _ c
 simp only[d,Bool.not_true,Bool.false_or] at this
 split at this
 ·rename_i j f e
  exact⟨f,by rw[e,wF _ _ this]⟩
 ·cases this
set_option maxHeartbeats 1000000 in
theorem ER (g5:tE P cl)(j3:rY P yl){e6:List V}{h':H}(hC:Dj cl yl base T vars0 [] hS e6 h')(hP:Me dep n (T.map (·.x)))
  (hb:base=h0.next) (e8:hS.get=h0.get) (h8:Cx m0 h0.next) (j4:HR P m0 h0 w0)
  {J F:List Rec} {r:Rec} (hT:T=J++r::F) (hd:Down dep S) (g7: ∀d∈dep r.x.i,S d=true) (c0:S r.x.i=false)
  {o:Oper} (ho:ops[r.x.i]? =some o) (c1: ∃a0,iI P pv [] o=some a0/\(r.x.it.a=a0∨r.x.it.a=a0.pu)) (c2:HU nt pv [] o.dst r.x.it.d [])
  (c3:match o.guard with
   |none=>r.x.it.g=none
   |some (j,b)=> ∃t x,(ops[j]?).bind (·.dst)=some t/\fC pv [] (.tmp t)=some x/\r.x.it.g=some (x,b))
  (L:Inv P base n T vars0 hS nt pv m0 h0 w0 ds S m a w) {rr:Option Nat} {Q:Exit->Act->World->Prop} {K:Act->World->Prop}
  (hK: ∀a' w' m',Inv P base n T vars0 hS nt pv m0 h0 w0 ds (λj=>S j||j==r.x.i) m' a' w'->K a' w'):wpOpIn (Wf rr) 0 P ops Q r.x.i K a w:=by
 obtain⟨pA,pB,pC⟩:=CS hP hT
 have c1:iI P pv [] o=some r.x.it.a∨ ∃g Z,iI P pv [] o=some (.call g Z)/\r.x.it.a= .callp g Z:=by
  obtain⟨a0,h1,h2⟩:=c1;rcases h2 with h2|h2
  ·exact .inl (h2▸h1)
  ·cases a0 with
   |call g Z=>exact .inr ⟨g,Z,h1,h2⟩
   |_=>exact .inl (h2▸h1)
 have hA: ∀q∈J,tV q.x r.x=true->S q.x.i=true:=λq f hc=>(pA q f).2.1 hc S hd g7
 have hB: ∀q∈F,tV r.x q.x=true->S q.x.i=false:=λq f hc=>by
  cases hs:S q.x.i with
  |false=>rfl
  |true=>have:=(pB q f).2.1 hc S hd (hd _ hs);rw[c0] at this;cases this
 have a2: ∀q∈T,q.x.al=q.x.it.a.jR/\q.x.it.uD=false:=λq f=>hP.al q.x (pU.2 ⟨q,f,rfl⟩)
 have f1: ∀q∈T,q.x.i<n:=λq f=>hP.lt q.x (pU.2 ⟨q,f,rfl⟩)
 have d6: ∀q∈J,q∈T:=λq f=>by rw[hT];simp [f]
 have b5: ∀q∈F,q∈T:=λq f=>by rw[hT];simp [f]
 have inr:r∈T:=by rw[hT];simp
 have i8: ∀q∈J,q.x.it.uD=false:=λq f=>(a2 q (d6 q f)).2
 have g6: ∀q∈F,q.x.it.uD=false:=λq f=>(a2 q (b5 q f)).2
 have g0:r.x.it.uD=false:=(a2 r inr).2
 have g4:=hC
 rw[hT] at g4
 obtain⟨e1,e2,e3,_⟩:=pN J (r::F) _ _ _ _ _ (λq f=>(a2 q (d6 q f)).1) g4
 have split: ∀(S:Nat->Bool),jD base S T hS=jD base S F (iA base S (jD base S J hS) r):=λS=>by rw[hT,Px];rfl
 have b0: ∀(S:Nat->Bool),rD S T vars0=rD S F (if S r.x.i then wrV (rD S J vars0) r else rD S J vars0):=λS=>by rw[hT,Zg];rfl
 let O:Nat->Bool:=λj=>S j||j==r.x.i
 have f3:O r.x.i=true:=by simp [O]
 have e0: ∀i,i≠r.x.i->O i=S i:=λi hi=>by simp [O,hi]
 have g1: ∀q∈J,S q.x.i=O q.x.i:=λq f=>(e0 _ (pA q f).1).symm
 have h5: ∀q∈F,S q.x.i=O q.x.i:=λq f=>(e0 _ (Ne.symm (pB q f).1)).symm
 have a5:jD base S T hS=jD base S F (jD base S J hS):=by rw[split S];simp [iA,c0]
 have b8:jD base O T hS=jD base S F (iA base (λ_=>true) (jD base S J hS) r):=by
  rw[split O,sE J hS (S:=O) (S':=S) (λq f _=>(g1 q f).symm),Ol (S:=O) (S':=λ_=>true) (λ_=>by simp [f3]),sE F _ (S:=O) (S':=S) (λq f _=>(h5 q f).symm)]
 have j0:rD O T vars0=wrV (rD S T vars0) r:=by
  rw[b0 O,b0 S];simp only[f3,c0,if_true,Bool.false_eq_true,if_false];rw[uP J vars0 (λq f=>(g1 q f).symm),uP F _ (λq f=>(h5 q f).symm)];refine Vq g0 F _ g6 (λq f c5 k hk i6=>?_);have:=hB q f (CC i6 hk);rw[c5] at this;cases this
 have f9: ∀k∈r.x.it.GF,(rD S T vars0).getD k .undef=r.vars.getD k .undef:=by
  intro k hk;rw[b0 S,e1];simp only[c0,Bool.false_eq_true,if_false]
  have h1:(rD S F (rD S J vars0)).getD k .undef=(rD (λ_=>false) F (rD S J vars0)).getD k .undef:=
   wK F _ _ g6 rfl rfl (λq f hw=>hB q f (Uh hw hk))
  rw[h1,Mm];exact wK J _ _ i8 rfl rfl (λq f hw=>hA q f (Vc hw hk))
 have b7: ∀x∈r.x.it.a.xs,xv (rD S T vars0) [] x=xv r.vars [] x:=λx N=>Kh λk hk=>f9 k (by
  unfold It.GF
  exact List.mem_append_left _ (List.mem_flatten.2 ⟨x.Ej,pU.2 ⟨x,N,rfl⟩,hk⟩))
 have h7:fK (rD S T vars0) [] r.x.it.g=fK r.vars [] r.x.it.g:=by
  cases s:r.x.it.g with
  |none=>rfl
  |some xb=>
   obtain⟨x,b⟩:=xb;simp only[fK];rw[Kh (x:=x) λk hk=>f9 k (by unfold It.GF;rw[s];exact List.mem_append_right _ hk)]
 have f2: ∀id,base<=id->hS.get id=none:=λid j9=>by
  rw[e8]
  cases s:h0.get id with
  |none=>rfl
  |some o=>
   obtain⟨q,f,_⟩:=j4.live id o s;rw[h8 id om] at f;cases f
 have L0: ∀q∈F,q.x.al=true->(jD base S J hS).get (base+q.x.i)=none:=by
  intro q f G;refine Jc J hS (f2 _ om) (λq2 e5 j1 j5=>?_) (λq2 e5 e=>pC q2 e5 q f om);obtain⟨U1,U2,hU⟩:=List.append_of_mem e5;exact L.none U1 q2 (U2++r::F) (by rw[hT,hU];simp) j1 j5 q (by simp [f]) G
 have b6:r.x.it.a.nP=true∨r.x.it.a.mL=true->jD base S J hS=r.hb:=by
  intro hw;rw[e2];refine sE J hS (λq f ha=>?_);refine hA q f (Dh ?_ hw);simp only[Rec.GL,Bool.or_eq_true,pF] at ha;rcases ha with h|h
  ·exact .inl h
  ·exact .inr ((a2 q (d6 q f)).1▸h.1)
 have d2:r.x.it.a.nP=true∨r.x.it.a.jR=true-> ∀q∈F,S q.x.i=true->q.x.it.a.nP=false:=by
  intro hw q f hs
  cases c6:q.x.it.a.nP with
  |false=>rfl
  |true=>have:=hB q f (Dh hw (.inl c6));rw[hs] at this;cases this
 have d0: ∀q∈T,q.x.al=true->q.b=true-> ∀W,q.ha.get (base+q.x.i)=some W->W.rw=true:=by
  intro q f q2 q3 W s;obtain⟨U1,U2,hU⟩:=List.append_of_mem f;have c8:=hC;rw[hU] at c8;obtain⟨_,_,⟨_,_,k3⟩,_⟩:=pN U1 (q::U2) _ _ _ _ _ (λy hy=>(a2 y (by rw[hU];simp [hy])).1) c8;simp only[q3,if_true,q2] at k3;obtain⟨_,i5,_,_,k4,k5,_⟩:=Hf ((a2 q f).1▸q2) k3;rw[k5] at s;simp [H.gK,H.dE] at s;subst s;exact k4
 obtain⟨w1,w2,w3⟩:=e3
 have i9:=vI L.st c3 (h7.trans w1)
 have c9: ∀x,(a.put o.dst x).defers=ds:=λx=>by rw[←L.df];cases o.dst<;>rfl
 have d1: ∀(m':M) (x:Value),Ext m m'->VR m' r.v x->St m' nt pv [] (rD O T vars0) [] (a.put o.dst x):=by
  intro m' x he hv;have:=(L.st.mono he).put c2 hv;rw[j0];have i3:(jI r.x.it.d (rD S T vars0) [] r.v).2= []:=Tv g0;rw[i3] at this;exact this
 have a4: ∀(m':M) (g g':Nat),(∀id q,m' id=some q->m id=some q∨(g<=id/\id<g'))->(base+n<=g∨(g=base+r.x.i/\g'=base+r.x.i+1))-> ∀q∈T,q.x.al=true->O q.x.i=false->m' (base+q.x.i)=none:=by
  intro m' g g' hf s q f G hs;have d9:q.x.i≠r.x.i:=λe=>by rw[e,f3] at hs;cases hs
  rw[e0 _ d9] at hs;have h1:=L.free q f G hs;have h2:=f1 q f
  cases hm:m' (base+q.x.i) with
  |none=>rfl
  |some z=>
   rcases hf _ _ hm with h3|h3
   ·rw[h1] at h3;cases h3
   ·omega
 have a3:(r.x.it.a.nP=true-> ∀q∈F,q.x.al=true->r.ha.get (base+q.x.i)=none)-> ∀U1 q U2,T=U1++q::U2->O q.x.i=true->q.x.it.a.nP=true-> ∀y∈U2,y.x.al=true->q.ha.get (base+y.x.i)=none:=by
  intro i2 U1 q U2 hU hs hw y hy G
  by_cases d9:q.x.i=r.x.i
  ·--the same item
   have nd: ∀(A B:List Rec) (x y:Rec) (C D:List Rec),A++x::B=C++y::D->x.x.i=y.x.i->(A++x::B).Pairwise (λu v=>u.x.i≠v.x.i)->x=y/\B=D:=by
    intro A
    induction A with
    |nil=>
     intro B x y C D he hi hp
     cases C with
     |nil=>simp at he;exact⟨he.1,he.2⟩
     |cons c C=>
      simp only[List.nil_append,List.cons_append,List.cons.injEq] at he;simp only[List.nil_append,List.pairwise_cons] at hp;exact absurd hi (hp.1 y (by rw[he.2];simp))
    |cons b A ih=>
     intro B x y C D he hi hp
     cases C with
     |nil=>
      simp only[List.nil_append,List.cons_append,List.cons.injEq] at he;simp only[List.cons_append,List.pairwise_cons] at hp;exact absurd (by rw[he.1,hi]) (hp.1 x (by simp))
     |cons c C=>
      simp only[List.cons_append,List.cons.injEq] at he;simp only[List.cons_append,List.pairwise_cons] at hp;exact ih B x y C D he.2 hi hp.2
   have j6:(J++r::F).Pairwise (λu v=>u.x.i≠v.x.i):=by
    have h:=hP.pw;rw[List.pairwise_map,hT] at h;exact h.imp λhh=>hh.1
   obtain⟨h1,h2⟩:=nd J F r q U1 U2 (hT.symm.trans hU) d9.symm j6;subst h1;subst h2;exact i2 hw y hy G
  ·rw[e0 _ d9] at hs
   exact L.none U1 q U2 hU hs hw y hy G
 unfold wpOpIn
 simp only[ho]
 rw[i9]
 cases hbb:r.b with
 |false=>
  simp only[hbb] at w3;obtain⟨hv,c4⟩:r.v= .undef/\r.ha=r.hb:=by simpa using w3
  simp only[Bool.false_eq_true,if_false];refine⟨λ_ _=>trivial,hK _ w m ?_⟩
  have R:jD base O T hS=jD base S T hS:=by
   rw[b8,a5];congr 1
   by_cases hw:r.x.it.a.nP=true
   ·simp only[iA,if_true,hw];rw[c4,b6 (.inl hw)]
   ·simp only[iA,hw,hbb];simp
  refine⟨d1 m undef (Ext.refl m) (by rw[hv];exact VR.undef m),c9 _,by show fY P m0 h0 w0 m (jD base O T hS) w;rw[R];exact L.Hz,by show base+n<=(jD base O T hS).next;rw[R];exact L.nx,?_,?_⟩
  ·exact a4 m (base+n) (base+n) (λ_ _ h=> .inl h) (.inl (eS _))
  ·exact a3 (λhw q f G=>by rw[c4,←b6 (.inl hw)];exact L0 q f G)
 |true=>
  simp only[hbb,if_true] at w3;simp only[if_true];have e4:Cx m (jD base S T hS).next:=L.Hz.low h8
  by_cases hw:r.x.it.a.nP=true
  ·--it turns the heap
   have G:r.x.al=false:=by
    cases h9:r.x.al with
    |false=>rfl
    |true=>have:=Vj ((a2 r inr).1▸h9);rw[hw] at this;cases this
   simp only[G] at w3;have a6:jC cl yl r.vars [] r.hb r.x.it.a=some (r.v,r.ha):=by simpa using w3
   have a8:=b6 (.inl hw);have a1:=d2 (.inl hw);obtain⟨b3,Y,_⟩:=lQ (base:=base) F (jD base S J hS) a1;obtain⟨d3,d4,_⟩:=lQ (base:=base) F r.ha a1;have g2: ∀id,Extra base S F id->(jD base S J hS).get id=none:=λid ⟨q,f,_,f4,_,e⟩=>e▸L0 q f f4
   have b2: ∀id W,r.hb.get id=some W->(jD base S T hS).get id=some W:=by
    intro id W s;rw[←a8] at s;rw[a5]
    by_cases N:Extra base S F id
    ·rw[g2 id N] at s;cases s
    ·rw[Y id N];exact s
   have b1:r.hb.next=(jD base S T hS).next:=by rw[a5,b3,a8]
   have a7:jD base O T hS=jD base S F r.ha:=by rw[b8];simp [iA,hw]
   rw[Kw (λx N=>(b7 x N).symm)] at a6
   have c1:iI P pv [] o=some r.x.it.a:=by
    rcases c1 with c1|⟨g,Z,_,e⟩
    ·exact c1
    ·rw[e] at hw;cases hw
   refine Xa g5 j3 c1 L.st (L.Hz.rel.sub b2) (by rw[b1];exact e4) a6 (λx w' m' hv l=>?_);refine hK _ w' m' ⟨d1 m' x l.ext hv,c9 x,?_,?_,?_,?_⟩
   ·show fY P m0 h0 w0 m' (jD base O T hS) w'
    refine L.Hz.frame b2 l (λid W s=>?_) (by have:=L.nx;omega) (by rw[a7,d3];exact eS _) (by rw[a7,d3,←b1];exact l.next);rw[a7] at s
    by_cases N:Extra base S F id
    ·obtain⟨q,f,q1,q2,q3,q4,q5⟩:=(lQ (base:=base) F r.ha a1).2.2 id N
     rw[q5] at s;exact .inr ⟨by rw[a5,q5];exact s,d0 q (b5 q f) q2 q3 W (by rw[q4];exact s),by rw[←a8];exact g2 id N⟩
    ·rw[d4 id N] at s;exact .inl s
   ·show base+n<=(jD base O T hS).next
    rw[a7,d3];have:=l.next;have:=L.nx;omega
   ·exact a4 m' _ _ l.fresh (.inl (by rw[b1];exact L.nx))
   ·refine a3 (λ_ q f f4=>l.old _ ?_ ?_)
    ·rw[b1]
     have:=L.nx;have:=f1 q (b5 q f);omega
    ·rw[←a8];exact L0 q f f4
  ·have c7:r.x.it.a.nP=false:=by simpa using hw
   cases G:r.x.al with
   |true=>
    simp only[G,if_true] at w3;have a9:r.x.it.a.jR=true:=(a2 r inr).1▸G;obtain⟨i,W,hi,j8,k0,c4,g9⟩:=Hf a9 w3;have a1:=d2 (.inr a9);obtain⟨b3,Y,_⟩:=lQ (base:=base) F (jD base S J hS) a1
    let g:H:={jD base S T hS with next:=base+r.x.i}
    have d5:=g9 g rfl;have j7:m (base+r.x.i)=none:=L.free r inr G c0
    have b4:iI P pv [] o=some (.op i):=by
     rcases c1 with c1|⟨g,Z,_,e⟩
     ·exact hi▸c1
     ·rw[e] at hi;cases hi
    rw[xB (ρ':=xv (rD S T vars0) []) (λx N=>(b7 x (by rw[hi];exact N)).symm)] at d5;have j2:HR P m g w:=L.Hz.rel.sub (λ_ _ h=>h);refine Gn (kV b4) (Be L.st j2 j7 b4 d5) (λx w' m' hv l=>?_)
    have a7:(jD base O T hS).get=(g.new W).get/\(jD base O T hS).next=(jD base S T hS).next:=by
     rw[b8]
     have h6:iA base (λ_=>true) (jD base S J hS) r=(jD base S J hS).set (base+r.x.i) (some W):=by
      simp only[iA,if_true,c7,Bool.false_eq_true,if_false,G,hbb,Bool.and_self];rw[c4];simp [H.gK,H.dE]
     rw[h6];obtain⟨d3,d4,i4⟩:=lQ (base:=base) F ((jD base S J hS).set (base+r.x.i) (some W)) a1;refine⟨funext λid=>?_,by rw[d3,a5,b3];rfl⟩
     by_cases N:Extra base S F id
     ·obtain⟨q,f,q1,q2,q3,q4,q5⟩:=i4 id N
      have i7:id≠base+r.x.i:=λe=>(pB q f).1 om
      have f5:g.get id=(jD base S T hS).get id:=rfl;rw[q5,H.iQ,aZ (show id≠g.next from i7),f5,a5,q5]
     ·have f5:g.get id=(jD base S T hS).get id:=rfl
      rw[d4 id N,H.gK,H.iQ,f5,a5,Y id N]
    refine hK _ w' m' ⟨d1 m' x l.ext hv,c9 x,?_,?_,?_,?_⟩
    ·show fY P m0 h0 w0 m' (jD base O T hS) w'
     have:=L.nx;have:=f1 r inr;exact L.Hz.frame (g:=g) (g':=g.new W) (λ_ _ h=>h) l (λid i5 s=> .inl (by rw[←a7.1];exact s)) (by show h0.next<=base+r.x.i;omega) (by rw[a7.2];show base+r.x.i+1<=_;omega) (by rw[a7.2];exact eS _)
    ·show base+n<=(jD base O T hS).next
     rw[a7.2];exact L.nx
    ·exact a4 m' _ _ l.fresh (.inr ⟨rfl,rfl⟩)
    ·exact a3 (λh=>by rw[c7] at h;cases h)
   |false=>
    simp only[G] at w3;have a6:jC cl yl r.vars [] r.hb r.x.it.a=some (r.v,r.ha):=by simpa using w3
    have a9:r.x.it.a.jR=false:=(a2 r inr).1▸G;obtain⟨c4,f7⟩:=Dr c7 a9 a6
    have R:jD base O T hS=jD base S T hS:=by
     rw[b8,a5];congr 1;simp only[iA,if_true,c7,G];simp
    rcases f7 with ⟨i,hi,d5,f6⟩|⟨gp,e9,hp⟩
    rotate_left
    ·--a call of numbers
     have b4:iI P pv [] o=some (.call gp e9):=by
      rcases c1 with c1|⟨g,Z,c1,e⟩
      ·rcases rP c1 (λi e=>by rw[hp] at e;cases e) with ⟨_,_,_,_,_,_,_,_,_,e2,_⟩|⟨c,x,_,_,h2⟩
       ·rw[hp] at e2;cases e2
       rcases h2 with ⟨g',e7,_,e2,_⟩|⟨cx,e7,e2,_⟩
       ·rw[hp] at e2;cases e2
       ·rw[hp] at e2;cases e2
      ·rw[hp] at e;cases e;exact c1
     rw[hp,jG,yZ (λx N=>(b7 x (by rw[hp];exact N)).symm)] at a6;refine Uz g5 b4 L.st a6 (λx w' hv l=>?_);refine hK _ w' m ⟨d1 m x (Ext.refl m) hv,c9 x,?_,?_,?_,?_⟩
     ·show fY P m0 h0 w0 m (jD base O T hS) w'
      rw[R];exact L.Hz.trans (l _ L.Hz.rel)
     ·show base+n<=(jD base O T hS).next
      rw[R];exact L.nx
     ·exact a4 m (base+n) (base+n) (λ_ _ h=> .inl h) (.inl (eS _))
     ·exact a3 (λh=>by rw[c7] at h;cases h)
    have b4:iI P pv [] o=some (.op i):=by
     rcases c1 with c1|⟨g,Z,_,e⟩
     ·exact hi▸c1
     ·rw[e] at hi;cases hi
    have ⟨g,b2,hgx,hgn,hgv⟩: ∃g:H,(∀id W,g.get id=some W->(jD base S T hS).get id=some W)/\(∀id W,(jD base S T hS).get id=some W->g.get id=some W∨(W.rw=true/\g.get id=none))/\
      g.next=(jD base S T hS).next/\cZ (xv r.vars []) g i=some (r.v,g):=by
     cases hrd:i.mL with
     |false=>exact⟨jD base S T hS,λ_ _ h=>h,λ_ _ h=> .inl h,rfl,f6 hrd _⟩
     |true=>
      have d7:r.x.it.a.mL=true:=by rw[hi];exact hrd
      have f8: ∀(U:List Rec),(∀q∈U,S q.x.i=true->q.x.it.a.nP=false)∨ ∃U1 q U2,U=U1++q::U2/\S q.x.i=true/\q.x.it.a.nP=true/\ ∀y∈U2,S y.x.i=true->y.x.it.a.nP=false:=by
       intro U
       induction U with
       |nil=>exact .inl λq f=>by cases f
       |cons q U ih=>
        rcases ih with ih|⟨U1,y,U2,k1,k2,k3,k4⟩
        ·by_cases f:S q.x.i=true/\q.x.it.a.nP=true
         ·exact .inr ⟨[],q,U,rfl,f.1,f.2,ih⟩
         ·refine .inl λy hy hs=>?_
          rcases Dw.1 hy with rfl|hy
          ·cases h9:y.x.it.a.nP with
           |false=>rfl
           |true=>exact absurd ⟨hs,h9⟩ f
          ·exact ih y hy hs
        ·exact .inr ⟨q::U1,y,U2,by simp [k1],k2,k3,k4⟩
      rcases f8 F with a1|⟨U1,q,U2,hU,c5,c6,a1⟩
      ·have a8:=b6 (.inr d7)
       obtain⟨b3,Y,_⟩:=lQ (base:=base) F (jD base S J hS) a1;refine⟨r.hb,λid W s=>?_,λid W s=>?_,by rw[a5,b3,a8],by rw[c4] at d5;exact d5⟩
       ·rw[←a8] at s
        rw[a5]
        by_cases N:Extra base S F id
        ·obtain⟨y,hy,_,f0,_,e⟩:=N
         rw[←e,L0 y hy f0] at s;cases s
        ·rw[Y id N];exact s
       ·rw[a5] at s
        by_cases N:Extra base S F id
        ·obtain⟨y,hy,y1,y2,y3,y4,y5⟩:=(lQ (base:=base) F (jD base S J hS) a1).2.2 id N
         rw[y5] at s;exact .inr ⟨d0 y (b5 y hy) y2 y3 W (by rw[y4];exact s),by rw[←a8,←y4];exact L0 y hy y2⟩
        ·rw[Y id N,a8] at s;exact .inl s
      ·have b9:T=(J++r::U1)++q::U2:=by rw[hT,hU];simp
       have d8:jD base S T hS=jD base S U2 q.ha:=by
        rw[b9,Px];simp only[jD,List.foldl_cons];congr 1;simp [iA,c5,c6]
       obtain⟨b3,Y,_⟩:=lQ (base:=base) U2 q.ha a1;have i0: ∀y∈U2,y∈T:=λy hy=>by rw[b9];simp [hy]
       refine⟨q.ha,λid W s=>?_,λid W s=>?_,by rw[d8,b3],?_⟩
       ·rw[d8]
        by_cases N:Extra base S U2 id
        ·obtain⟨y,hy,_,f0,_,e⟩:=N
         rw[←e,L.none _ q U2 b9 c5 c6 y hy f0] at s;cases s
        ·rw[Y id N];exact s
       ·rw[d8] at s
        by_cases N:Extra base S U2 id
        ·obtain⟨y,hy,y1,y2,y3,y4,y5⟩:=(lQ (base:=base) U2 q.ha a1).2.2 id N
         rw[y5] at s;exact .inr ⟨d0 y (i0 y hy) y2 y3 W (by rw[y4];exact s),by rw[←y4];exact L.none _ q U2 b9 c5 c6 y hy y2⟩
        ·rw[Y id N] at s;exact .inl s
       ·--it has been read again behind q
        have g3:q∈F:=by rw[hU];simp
        rcases (pB q g3).2.2 d7 c6 with g8|i1
        ·have:=g8 S hd (hd _ c5);rw[c0] at this;cases this
        ·have c8:=hC
         rw[b9] at c8;obtain⟨_,_,⟨_,k2,_⟩,_⟩:=pN (J++r::U1) (q::U2) _ _ _ _ _ (λy hy=>(a2 y (by rw[b9];exact List.mem_append_left _ hy)).1) c8
         have h4:(r.x.i,i.close (xv r.vars []),r.v)∈Ic (J++r::U1) []:=by
          have:Ic (J++r::U1) []=Ic U1 (uT r (Ic J [])):=by simp [Ic]
          rw[this];refine Io U1 _ ?_;simp only[uT,hbb,if_true,zC,hi,hrd];exact zJ ..
         obtain⟨h9,k9⟩:=Mb k2 h4 i1;rw[Sv hrd] at k9;have:=Yf hrd k9;rw[this] at k9;exact k9
    rw[xB (ρ':=xv (rD S T vars0) []) (λx N=>(b7 x (by rw[hi];exact N)).symm)] at hgv;refine Gn (kV b4) (Be L.st (L.Hz.rel.sub b2) (by rw[hgn];exact e4.fresh) b4 hgv) (λx w' m' hv l=>?_);refine hK _ w' m' ⟨d1 m' x l.ext hv,c9 x,?_,?_,?_,?_⟩
    ·show fY P m0 h0 w0 m' (jD base O T hS) w'
     rw[R];refine L.Hz.frame b2 l (λid W s=>?_) (by have:=L.nx;omega) om (eS _);rcases hgx id W s with h1|⟨h1,h2⟩
     ·exact .inl h1
     ·exact .inr ⟨s,h1,h2⟩
    ·show base+n<=(jD base O T hS).next
     rw[R];exact L.nx
    ·exact a4 m' _ _ l.fresh (.inl (by rw[hgn];exact L.nx))
    ·exact a3 (λh=>by rw[c7] at h;cases h)
end
end
end Go.Ay
