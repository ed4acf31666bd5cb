/- One operation of a region whose order is drawn, whichever comes up. -/
import Derived.Test.YtcdbmkidaecdiaaGreatAy14
import Derived.OrdersIn
namespace Go.Ay
open Go
section
variable {p q:AI} {k:Nat}
def Down (dep:Nat->List Nat)(S:Nat->Bool):Prop:= ∀j,S j=true-> ∀d∈dep j,S d=true
def SS (dep:Nat->List Nat)(a b:Nat):Prop:= ∀S:Nat->Bool,Down dep S->(∀d∈dep b,S d=true)->S a=true
structure EJ (dep:Nat->List Nat)(n:Nat)(xs:List AI):Prop where
 pw:xs.Pairwise λa b=>a.i≠b.i/\(Ez a b=true->SS dep a.i b.i)/\(a.it.a.tM=true->b.it.a.vH=true->SS dep a.i b.i∨b.cks.contains a.i=true)
 al: ∀x∈xs,x.al=x.it.a.oE/\x.it.Fp=false
 lt: ∀x∈xs,x.i<n
 cover: ∀i,i<n-> ∃x∈xs,x.i=i
 ord: ∀l1 x l2,xs=l1++x::l2-> ∀d∈dep x.i,∃y∈l1,y.i=d
structure Inv (P:Program)(base n:Nat)(T:List Rec)(vars0:List V)(hS:H)(nt:Nat)(pv:List Nat)(m0:M)(h0:H)(w0:World)(ds:List Deferred)(S:Nat->Bool)(m:M)(a:Act)(w:World):Prop where
 st:St m nt pv [] (Aj S T vars0) [] a
 df:a.defers=ds
 NA:jR P m0 h0 w0 m (mL base S T hS) w
 nx:base+n<=(mL base S T hS).next
 free: ∀r∈T,r.x.al=true->S r.x.i=false->m (base+r.x.i)=none
 none: ∀T1 q T2,T=T1++q::T2->S q.x.i=true->q.x.it.a.vH=true-> ∀r∈T2,r.x.al=true->q.ha.get (base+r.x.i)=none
section
variable {P:Program} {cl yl:lQ} {base n:Nat} {T:List Rec} {vars0:List V} {hS:H} {nt:Nat} {pv:List Nat} {m0:M} {h0:H} {w0:World} {ds:List Deferred}
 {S:Nat->Bool} {m:M} {a:Act} {w:World} {dep:Nat->List Nat} {ops:Array Oper}
theorem AR {vs us:List V}{x:X}(h: ∀k∈x.Tl,vs.getD k .undef=us.getD k .undef):xv vs [] x=xv us [] x:=by
 cases x with
 |v k=>exact h k (by simp [X.Tl])
 |l k=>rfl
 |c v=>rfl
theorem aeZ (g:EJ dep n (T.map (·.x))){e d:List Rec}{r:Rec}(f:T=e++r::d):
  (∀q∈e,q.x.i≠r.x.i/\(Ez q.x r.x=true->SS dep q.x.i r.x.i)/\(q.x.it.a.tM=true->r.x.it.a.vH=true->SS dep q.x.i r.x.i∨r.x.cks.contains q.x.i=true))/\
  (∀q∈d,r.x.i≠q.x.i/\(Ez r.x q.x=true->SS dep r.x.i q.x.i)/\(r.x.it.a.tM=true->q.x.it.a.vH=true->SS dep r.x.i q.x.i∨q.x.cks.contains r.x.i=true))/\
  (∀q∈e,∀q2∈d,q.x.i≠q2.x.i):=by
 have h:=g.pw
 rw[List.pairwise_map,f,List.pairwise_append,List.pairwise_cons] at h
 exact⟨λq b=>h.2.2 q b r (tQ ..),λq b=>h.2.1.1 q b,λq b q2 c=>(h.2.2 q b q2 (wI _ c)).1⟩
theorem QD (b:p.it.wr=some k)(h2:k∈q.it.rds):Ez p q=true:=by
 simp [Ez,b,h2]
theorem PK (b:q.it.wr=some k)(h2:k∈p.it.rds):Ez p q=true:=by
 simp [Ez,b,h2]
theorem YU (b:p.it.wr=some k)(h2:q.it.wr=some k):Ez p q=true:=by
 simp [Ez,b,h2]
theorem Tn (b:p.it.a.vH=true∨p.it.a.oE=true)(h2:q.it.a.vH=true∨q.it.a.tM=true):Ez p q=true:=by
 unfold Ez;simp only[Bool.or_eq_true,sE];exact .inr ⟨b,h2⟩
theorem RI {it:It}{vs:List V}{v:V}(h:it.Fp=false):(jG it.d vs [] v).2= []:=by
 unfold It.Fp at h;unfold jG
 cases hd:it.d with
 |l=>simp [hd] at h
 |v k=>rfl
 |n=>rfl
theorem EG: ∀(T:List Rec) (z:List V),Aj (λ_=>false) T z=z
 | [],_=>rfl
 |q::t,z=>by simpa [Aj] using EG t z
theorem BB {e:Nat×I×V}: ∀(T:List Rec) (log:Log),e∈log->e∈Ys T log
 | [],_,h=>h
 |r::T,log,h=>by
  refine BB T _ ?_;simp only[Is];split
  ·unfold Kr
   split
   ·split
    ·exact wI _ h
    ·exact h
   ·exact h
  ·exact h
theorem ES {cks:List Nat}{b:Log}{h:H}(g:qG cks b h=true){i:Nat}{I:I}{v:V}(e:(i,I,v)∈b)(f:cks.contains i=true):
  ∃h',fC (xv [] []) h I=some (v,h'):=by
 have:=zP.1 g _ e
 simp only[f,Bool.not_true,Bool.false_or] at this
 split at this
 ·rename_i j d c
  exact⟨d,by rw[c,Jq _ _ this]⟩
 ·cases this
set_option maxHeartbeats 1000000 in
theorem agT (i6:Hz P cl)(h6:Bp P yl){e8:List V}{h':H}(hC:Tj cl yl base T vars0 [] hS e8 h')(hP:EJ dep n (T.map (·.x)))
  (hb:base=h0.next) (f0:hS.get=h0.get) (f6:Vz m0 h0.next) (i9:HR P m0 h0 w0)
  {J F:List Rec} {r:Rec} (hT:T=J++r::F) (hd:Down dep S) (f8: ∀d∈dep r.x.i,S d=true) (b6:S r.x.i=false)
  {o:Oper} (ho:ops[r.x.i]? =some o) (c1:pI P pv [] o=some r.x.it.a) (c2:Dst nt pv [] o.dst r.x.it.d [])
  (c3:match o.guard with
   |none=>r.x.it.g=none
   |some (j,b)=> ∃t x,(ops[j]?).bind (·.dst)=some t/\iM pv [] (.tmp t)=some x/\r.x.it.g=some (x,b))
  (N:Inv P base n T vars0 hS nt pv m0 h0 w0 ds S m a w) {rr:Option Nat} {Q:Exit->Act->World->Prop} {K:Act->World->Prop}
  (hK: ∀a' w' m',Inv P base n T vars0 hS nt pv m0 h0 w0 ds (λj=>S j||j==r.x.i) m' a' w'->K a' w'):wpOpIn (Wf rr) 0 P ops Q r.x.i K a w:=by
 obtain⟨pA,pB,pC⟩:=aeZ hP hT
 have hA: ∀q∈J,Ez q.x r.x=true->S q.x.i=true:=λq f hc=>(pA q f).2.1 hc S hd f8
 have hB: ∀q∈F,Ez r.x q.x=true->S q.x.i=false:=λq f hc=>by
  cases hs:S q.x.i with
  |false=>rfl
  |true=>have:=(pB q f).2.1 hc S hd (hd _ hs);rw[b6] at this;cases this
 have a1: ∀q∈T,q.x.al=q.x.it.a.oE/\q.x.it.Fp=false:=λq f=>hP.al q.x (pH.2 ⟨q,f,rfl⟩)
 have e6: ∀q∈T,q.x.i<n:=λq f=>hP.lt q.x (pH.2 ⟨q,f,rfl⟩)
 have d0: ∀q∈J,q∈T:=λq f=>by rw[hT];simp [f]
 have b5: ∀q∈F,q∈T:=λq f=>by rw[hT];simp [f]
 have inr:r∈T:=by rw[hT];simp
 have i7: ∀q∈J,q.x.it.Fp=false:=λq f=>(a1 q (d0 q f)).2
 have g9: ∀q∈F,q.x.it.Fp=false:=λq f=>(a1 q (b5 q f)).2
 have g7:r.x.it.Fp=false:=(a1 r inr).2
 have g2:=hC
 rw[hT] at g2
 obtain⟨e1,e2,e3,_⟩:=yM J (r::F) _ _ _ _ _ (λq f=>(a1 q (d0 q f)).1) g2
 have split: ∀(S:Nat->Bool),mL base S T hS=mL base S F (jI base S (mL base S J hS) r):=λS=>by rw[hT,GV];rfl
 have a8: ∀(S:Nat->Bool),Aj S T vars0=Aj S F (if S r.x.i then OS (Aj S J vars0) r else Aj S J vars0):=λS=>by rw[hT,aaN];rfl
 let W:Nat->Bool:=λj=>S j||j==r.x.i
 have f3:W r.x.i=true:=by simp [W]
 have d7: ∀i,i≠r.x.i->W i=S i:=λi hi=>by simp [W,hi]
 have f5: ∀q∈J,S q.x.i=W q.x.i:=λq f=>(d7 _ (pA q f).1).symm
 have g1: ∀q∈F,S q.x.i=W q.x.i:=λq f=>(d7 _ (Ne.symm (pB q f).1)).symm
 have a2:mL base S T hS=mL base S F (mL base S J hS):=by rw[split S];simp [jI,b6]
 have b3:mL base W T hS=mL base S F (jI base (λ_=>true) (mL base S J hS) r):=by
  rw[split W,Cm J hS (S:=W) (S':=S) (λq f _=>(f5 q f).symm),JK (S:=W) (S':=λ_=>true) (λ_=>by simp [f3]),Cm F _ (S:=W) (S':=S) (λq f _=>(g1 q f).symm)]
 have i1:Aj W T vars0=OS (Aj S T vars0) r:=by
  rw[a8 W,a8 S];simp only[f3,b6,if_true,Bool.false_eq_true,if_false];rw[Hc J vars0 (λq f=>(f5 q f).symm),Hc F _ (λq f=>(g1 q f).symm)];refine XD g7 F _ g9 (λq f b8 k hk j1=>?_);have:=hB q f (YU j1 hk);rw[b8] at this;cases this
 have g0: ∀k∈r.x.it.rds,(Aj S T vars0).getD k .undef=r.vars.getD k .undef:=by
  intro k hk;rw[a8 S,e1];simp only[b6,Bool.false_eq_true,if_false]
  have h1:(Aj S F (Aj S J vars0)).getD k .undef=(Aj (λ_=>false) F (Aj S J vars0)).getD k .undef:=
   Jw F _ _ g9 rfl rfl (λq f hw=>hB q f (PK hw hk))
  rw[h1,EG];exact Jw J _ _ i7 rfl rfl (λq f hw=>hA q f (QD hw hk))
 have c7: ∀x∈r.x.it.a.xs,xv (Aj S T vars0) [] x=xv r.vars [] x:=λx L=>AR λk hk=>g0 k (by
  unfold It.rds
  exact List.mem_append_left _ (List.mem_flatten.2 ⟨x.Tl,pH.2 ⟨x,L,rfl⟩,hk⟩))
 have f7:iU (Aj S T vars0) [] r.x.it.g=iU r.vars [] r.x.it.g:=by
  cases l:r.x.it.g with
  |none=>rfl
  |some xb=>
   obtain⟨x,b⟩:=xb;simp only[iU];rw[AR (x:=x) λk hk=>g0 k (by unfold It.rds;rw[l];exact List.mem_append_right _ hk)]
 have f4: ∀id,base<=id->hS.get id=none:=λid j6=>by
  rw[f0]
  cases l:h0.get id with
  |none=>rfl
  |some o=>
   obtain⟨q,f,_⟩:=i9.live id o l;rw[f6 id om] at f;cases f
 have L0: ∀q∈F,q.x.al=true->(mL base S J hS).get (base+q.x.i)=none:=by
  intro q f G;refine BI J hS (f4 _ om) (λq2 e5 j3 j0=>?_) (λq2 e5 e=>pC q2 e5 q f om);obtain⟨U1,Y,hU⟩:=List.append_of_mem e5;exact N.none U1 q2 (Y++r::F) (by rw[hT,hU];simp) j3 j0 q (by simp [f]) G
 have b4:r.x.it.a.vH=true∨r.x.it.a.tM=true->mL base S J hS=r.hb:=by
  intro hw;rw[e2];refine Cm J hS (λq f ha=>?_);refine hA q f (Tn ?_ hw);simp only[Rec.aff,Bool.or_eq_true,sE] at ha;rcases ha with h|h
  ·exact .inl h
  ·exact .inr ((a1 q (d0 q f)).1▸h.1)
 have d4:r.x.it.a.vH=true∨r.x.it.a.oE=true-> ∀q∈F,S q.x.i=true->q.x.it.a.vH=false:=by
  intro hw q f hs
  cases b7:q.x.it.a.vH with
  |false=>rfl
  |true=>have:=hB q f (Tn hw (.inl b7));rw[hs] at this;cases this
 have d1: ∀q∈T,q.x.al=true->q.b=true-> ∀R,q.ha.get (base+q.x.i)=some R->R.rw=true:=by
  intro q f q2 q3 R l;obtain⟨U1,Y,hU⟩:=List.append_of_mem f;have c9:=hC;rw[hU] at c9;obtain⟨_,_,⟨_,_,k3⟩,_⟩:=yM U1 (q::Y) _ _ _ _ _ (λy hy=>(a1 y (by rw[hU];simp [hy])).1) c9;simp only[q3,if_true,q2] at k3;obtain⟨_,i8,_,_,k4,k5,_⟩:=Wr ((a1 q f).1▸q2) k3;rw[k5] at l;simp [H.jB,H.cV] at l;subst l;exact k4
 obtain⟨w1,w2,w3⟩:=e3
 have i5:=Gy N.st c3 (f7.trans w1)
 have d9: ∀x,(a.put o.dst x).defers=ds:=λx=>by rw[←N.df];cases o.dst<;>rfl
 have d6: ∀(m':M) (x:Value),Ext m m'->VR m' r.v x->St m' nt pv [] (Aj W T vars0) [] (a.put o.dst x):=by
  intro m' x he hv;have:=(N.st.mono he).put c2 hv;rw[i1];have i3:(jG r.x.it.d (Aj S T vars0) [] r.v).2= []:=RI g7;rw[i3] at this;exact this
 have a3: ∀(m':M) (g g':Nat),(∀id q,m' id=some q->m id=some q∨(g<=id/\id<g'))->(base+n<=g∨(g=base+r.x.i/\g'=base+r.x.i+1))-> ∀q∈T,q.x.al=true->W q.x.i=false->m' (base+q.x.i)=none:=by
  intro m' g g' hf l q f G hs;have d8:q.x.i≠r.x.i:=λe=>by rw[e,f3] at hs;cases hs
  rw[d7 _ d8] at hs;have h1:=N.free q f G hs;have h2:=e6 q f
  cases hm:m' (base+q.x.i) with
  |none=>rfl
  |some z=>
   rcases hf _ _ hm with h3|h3
   ·rw[h1] at h3;cases h3
   ·omega
 have a9:(r.x.it.a.vH=true-> ∀q∈F,q.x.al=true->r.ha.get (base+q.x.i)=none)-> ∀U1 q Y,T=U1++q::Y->W q.x.i=true->q.x.it.a.vH=true-> ∀y∈Y,y.x.al=true->q.ha.get (base+y.x.i)=none:=by
  intro i0 U1 q Y hU hs hw y hy G
  by_cases d8:q.x.i=r.x.i
  ·--the same item
   have nd: ∀(A B:List Rec) (x y:Rec) (C D:List Rec),A++x::B=C++y::D->x.x.i=y.x.i->(A++x::B).Pairwise (λu v=>u.x.i≠v.x.i)->x=y/\B=D:=by
    intro A
    induction A with
    |nil=>
     intro B x y C D he hi hp
     cases C with
     |nil=>simp at he;exact⟨he.1,he.2⟩
     |cons c C=>
      simp only[List.nil_append,List.cons_append,List.cons.injEq] at he;simp only[List.nil_append,List.pairwise_cons] at hp;exact absurd hi (hp.1 y (by rw[he.2];simp))
    |cons b A ih=>
     intro B x y C D he hi hp
     cases C with
     |nil=>
      simp only[List.nil_append,List.cons_append,List.cons.injEq] at he;simp only[List.cons_append,List.pairwise_cons] at hp;exact absurd (by rw[he.1,hi]) (hp.1 x (by simp))
     |cons c C=>
      simp only[List.cons_append,List.cons.injEq] at he;simp only[List.cons_append,List.pairwise_cons] at hp;exact ih B x y C D he.2 hi hp.2
   have h8:(J++r::F).Pairwise (λu v=>u.x.i≠v.x.i):=by
    have h:=hP.pw;rw[List.pairwise_map,hT] at h;exact h.imp λhh=>hh.1
   obtain⟨h1,h2⟩:=nd J F r q U1 Y (hT.symm.trans hU) d8.symm h8;subst h1;subst h2;exact i0 hw y hy G
  ·rw[d7 _ d8] at hs
   exact N.none U1 q Y hU hs hw y hy G
 unfold wpOpIn
 simp only[ho]
 rw[i5]
 cases hbb:r.b with
 |false=>
  simp only[hbb] at w3;obtain⟨hv,b9⟩:r.v= .undef/\r.ha=r.hb:=by simpa using w3
  simp only[Bool.false_eq_true,if_false];refine⟨λ_ _=>trivial,hK _ w m ?_⟩
  have a0:mL base W T hS=mL base S T hS:=by
   rw[b3,a2];congr 1
   by_cases hw:r.x.it.a.vH=true
   ·simp only[jI,if_true,hw];rw[b9,b4 (.inl hw)]
   ·simp only[jI,hw,hbb];simp
  refine⟨d6 m undef (Ext.refl m) (by rw[hv];exact VR.undef m),d9 _,by show jR P m0 h0 w0 m (mL base W T hS) w;rw[a0];exact N.NA,by show base+n<=(mL base W T hS).next;rw[a0];exact N.nx,?_,?_⟩
  ·exact a3 m (base+n) (base+n) (λ_ _ h=> .inl h) (.inl (dT _))
  ·exact a9 (λhw q f G=>by rw[b9,←b4 (.inl hw)];exact L0 q f G)
 |true=>
  simp only[hbb,if_true] at w3;simp only[if_true];have e0:Vz m (mL base S T hS).next:=N.NA.low f6
  by_cases hw:r.x.it.a.vH=true
  ·--it turns the heap
   have G:r.x.al=false:=by
    cases h9:r.x.al with
    |false=>rfl
    |true=>have:=VQ ((a1 r inr).1▸h9);rw[hw] at this;cases this
   simp only[G] at w3;have b2:uN cl yl r.vars [] r.hb r.x.it.a=some (r.v,r.ha):=by simpa using w3
   have a4:=b4 (.inl hw);have Z:=d4 (.inl hw);obtain⟨b1,O,_⟩:=rG (base:=base) F (mL base S J hS) Z;obtain⟨c8,c4,_⟩:=rG (base:=base) F r.ha Z;have g3: ∀id,Extra base S F id->(mL base S J hS).get id=none:=λid ⟨q,f,_,e4,_,e⟩=>e▸L0 q f e4
   have b0: ∀id R,r.hb.get id=some R->(mL base S T hS).get id=some R:=by
    intro id R l;rw[←a4] at l;rw[a2]
    by_cases L:Extra base S F id
    ·rw[g3 id L] at l;cases l
    ·rw[O id L];exact l
   have a7:r.hb.next=(mL base S T hS).next:=by rw[a2,b1,a4]
   have a6:mL base W T hS=mL base S F r.ha:=by rw[b3];simp [jI,hw]
   rw[Zv (λx L=>(c7 x L).symm)] at b2;refine XW i6 h6 c1 N.st (N.NA.rel.sub b0) (by rw[a7];exact e0) b2 (λx w' m' hv s=>?_);refine hK _ w' m' ⟨d6 m' x s.ext hv,d9 x,?_,?_,?_,?_⟩
   ·show jR P m0 h0 w0 m' (mL base W T hS) w'
    refine N.NA.frame b0 s (λid R l=>?_) (by have:=N.nx;omega) (by rw[a6,c8];exact dT _) (by rw[a6,c8,←a7];exact s.next);rw[a6] at l
    by_cases L:Extra base S F id
    ·obtain⟨q,f,q1,q2,q3,q4,q5⟩:=(rG (base:=base) F r.ha Z).2.2 id L
     rw[q5] at l;exact .inr ⟨by rw[a2,q5];exact l,d1 q (b5 q f) q2 q3 R (by rw[q4];exact l),by rw[←a4];exact g3 id L⟩
    ·rw[c4 id L] at l;exact .inl l
   ·show base+n<=(mL base W T hS).next
    rw[a6,c8];have:=s.next;have:=N.nx;omega
   ·exact a3 m' _ _ s.fresh (.inl (by rw[a7];exact N.nx))
   ·refine a9 (λ_ q f e4=>s.old _ ?_ ?_)
    ·rw[a7]
     have:=N.nx;have:=e6 q (b5 q f);omega
    ·rw[←a4];exact L0 q f e4
  ·have d3:r.x.it.a.vH=false:=by simpa using hw
   cases G:r.x.al with
   |true=>
    simp only[G,if_true] at w3;have a5:r.x.it.a.oE=true:=(a1 r inr).1▸G;obtain⟨i,R,hi,j5,j7,b9,h4⟩:=Wr a5 w3;have Z:=d4 (.inr a5);obtain⟨b1,O,_⟩:=rG (base:=base) F (mL base S J hS) Z
    let g:H:={mL base S T hS with next:=base+r.x.i}
    have d5:=h4 g rfl;have j4:m (base+r.x.i)=none:=N.free r inr G b6;have d2:pI P pv [] o=some (.op i):=hi▸c1;rw[Jp (ρ':=xv (Aj S T vars0) []) (λx L=>(c7 x (by rw[hi];exact L)).symm)] at d5;have i4:HR P m g w:=N.NA.rel.sub (λ_ _ h=>h);refine Uz (uF d2) (Qc N.st i4 j4 d2 d5) (λx w' m' hv s=>?_)
    have a6:(mL base W T hS).get=(g.new R).get/\(mL base W T hS).next=(mL base S T hS).next:=by
     rw[b3]
     have h5:jI base (λ_=>true) (mL base S J hS) r=(mL base S J hS).set (base+r.x.i) (some R):=by
      simp only[jI,if_true,d3,Bool.false_eq_true,if_false,G,hbb,Bool.and_self];rw[b9];simp [H.jB,H.cV]
     rw[h5];obtain⟨c8,c4,j2⟩:=rG (base:=base) F ((mL base S J hS).set (base+r.x.i) (some R)) Z;refine⟨funext λid=>?_,by rw[c8,a2,b1];rfl⟩
     by_cases L:Extra base S F id
     ·obtain⟨q,f,q1,q2,q3,q4,q5⟩:=j2 id L
      have h7:id≠base+r.x.i:=λe=>(pB q f).1 om
      have f1:g.get id=(mL base S T hS).get id:=rfl;rw[q5,H.kL,bU (show id≠g.next from h7),f1,a2,q5]
     ·have f1:g.get id=(mL base S T hS).get id:=rfl
      rw[c4 id L,H.jB,H.kL,f1,a2,O id L]
    refine hK _ w' m' ⟨d6 m' x s.ext hv,d9 x,?_,?_,?_,?_⟩
    ·show jR P m0 h0 w0 m' (mL base W T hS) w'
     have:=N.nx;have:=e6 r inr;exact N.NA.frame (g:=g) (g':=g.new R) (λ_ _ h=>h) s (λid i8 l=> .inl (by rw[←a6.1];exact l)) (by show h0.next<=base+r.x.i;omega) (by rw[a6.2];show base+r.x.i+1<=_;omega) (by rw[a6.2];exact dT _)
    ·show base+n<=(mL base W T hS).next
     rw[a6.2];exact N.nx
    ·exact a3 m' _ _ s.fresh (.inr ⟨rfl,rfl⟩)
    ·exact a9 (λh=>by rw[d3] at h;cases h)
   |false=>
    simp only[G] at w3;have b2:uN cl yl r.vars [] r.hb r.x.it.a=some (r.v,r.ha):=by simpa using w3
    have a5:r.x.it.a.oE=false:=(a1 r inr).1▸G;obtain⟨b9,f2⟩:=Uf d3 a5 b2
    have a0:mL base W T hS=mL base S T hS:=by
     rw[b3,a2];congr 1;simp only[jI,if_true,d3,G];simp
    obtain⟨i,hi,d5,e7⟩:=f2;have d2:pI P pv [] o=some (.op i):=hi▸c1
    have ⟨g,b0,hgx,hgn,hgv⟩: ∃g:H,(∀id R,g.get id=some R->(mL base S T hS).get id=some R)/\(∀id R,(mL base S T hS).get id=some R->g.get id=some R∨(R.rw=true/\g.get id=none))/\
      g.next=(mL base S T hS).next/\fC (xv r.vars []) g i=some (r.v,g):=by
     cases hrd:i.tM with
     |false=>exact⟨mL base S T hS,λ_ _ h=>h,λ_ _ h=> .inl h,rfl,e7 hrd _⟩
     |true=>
      have c5:r.x.it.a.tM=true:=by rw[hi];exact hrd
      have g5: ∀(U:List Rec),(∀q∈U,S q.x.i=true->q.x.it.a.vH=false)∨ ∃U1 q Y,U=U1++q::Y/\S q.x.i=true/\q.x.it.a.vH=true/\ ∀y∈Y,S y.x.i=true->y.x.it.a.vH=false:=by
       intro U
       induction U with
       |nil=>exact .inl λq f=>by cases f
       |cons q U ih=>
        rcases ih with ih|⟨U1,y,Y,k1,k2,k3,k4⟩
        ·by_cases f:S q.x.i=true/\q.x.it.a.vH=true
         ·exact .inr ⟨[],q,U,rfl,f.1,f.2,ih⟩
         ·refine .inl λy hy hs=>?_
          rcases vI.1 hy with rfl|hy
          ·cases h9:y.x.it.a.vH with
           |false=>rfl
           |true=>exact absurd ⟨hs,h9⟩ f
          ·exact ih y hy hs
        ·exact .inr ⟨q::U1,y,Y,by simp [k1],k2,k3,k4⟩
      rcases g5 F with Z|⟨U1,q,Y,hU,b8,b7,Z⟩
      ·have a4:=b4 (.inr c5)
       obtain⟨b1,O,_⟩:=rG (base:=base) F (mL base S J hS) Z;refine⟨r.hb,λid R l=>?_,λid R l=>?_,by rw[a2,b1,a4],by rw[b9] at d5;exact d5⟩
       ·rw[←a4] at l
        rw[a2]
        by_cases L:Extra base S F id
        ·obtain⟨y,hy,_,e9,_,e⟩:=L
         rw[←e,L0 y hy e9] at l;cases l
        ·rw[O id L];exact l
       ·rw[a2] at l
        by_cases L:Extra base S F id
        ·obtain⟨y,hy,y1,y2,y3,y4,y5⟩:=(rG (base:=base) F (mL base S J hS) Z).2.2 id L
         rw[y5] at l;exact .inr ⟨d1 y (b5 y hy) y2 y3 R (by rw[y4];exact l),by rw[←a4,←y4];exact L0 y hy y2⟩
        ·rw[O id L,a4] at l;exact .inl l
      ·have c0:T=(J++r::U1)++q::Y:=by rw[hT,hU];simp
       have c6:mL base S T hS=mL base S Y q.ha:=by
        rw[c0,GV];simp only[mL,List.foldl_cons];congr 1;simp [jI,b8,b7]
       obtain⟨b1,O,_⟩:=rG (base:=base) Y q.ha Z;have g6: ∀y∈Y,y∈T:=λy hy=>by rw[c0];simp [hy]
       refine⟨q.ha,λid R l=>?_,λid R l=>?_,by rw[c6,b1],?_⟩
       ·rw[c6]
        by_cases L:Extra base S Y id
        ·obtain⟨y,hy,_,e9,_,e⟩:=L
         rw[←e,N.none _ q Y c0 b8 b7 y hy e9] at l;cases l
        ·rw[O id L];exact l
       ·rw[c6] at l
        by_cases L:Extra base S Y id
        ·obtain⟨y,hy,y1,y2,y3,y4,y5⟩:=(rG (base:=base) Y q.ha Z).2.2 id L
         rw[y5] at l;exact .inr ⟨d1 y (g6 y hy) y2 y3 R (by rw[y4];exact l),by rw[←y4];exact N.none _ q Y c0 b8 b7 y hy y2⟩
        ·rw[O id L] at l;exact .inl l
       ·--it has been read again behind q
        have g4:q∈F:=by rw[hU];simp
        rcases (pB q g4).2.2 c5 b7 with g8|i2
        ·have:=g8 S hd (hd _ b8);rw[b6] at this;cases this
        ·have c9:=hC
         rw[c0] at c9;obtain⟨_,_,⟨_,k2,_⟩,_⟩:=yM (J++r::U1) (q::Y) _ _ _ _ _ (λy hy=>(a1 y (by rw[c0];exact List.mem_append_left _ hy)).1) c9
         have f9:(r.x.i,i.close (xv r.vars []),r.v)∈Ys (J++r::U1) []:=by
          have:Ys (J++r::U1) []=Ys U1 (Is r (Ys J [])):=by simp [Ys]
          rw[this];refine BB U1 _ ?_;simp only[Is,hbb,if_true,Kr,hi,hrd];exact tQ ..
         obtain⟨h9,k9⟩:=ES k2 f9 i2;rw[LZ hrd] at k9;have:=RE hrd k9;rw[this] at k9;exact k9
    rw[Jp (ρ':=xv (Aj S T vars0) []) (λx L=>(c7 x (by rw[hi];exact L)).symm)] at hgv;refine Uz (uF d2) (Qc N.st (N.NA.rel.sub b0) (by rw[hgn];exact e0.fresh) d2 hgv) (λx w' m' hv s=>?_);refine hK _ w' m' ⟨d6 m' x s.ext hv,d9 x,?_,?_,?_,?_⟩
    ·show jR P m0 h0 w0 m' (mL base W T hS) w'
     rw[a0];refine N.NA.frame b0 s (λid R l=>?_) (by have:=N.nx;omega) om (dT _);rcases hgx id R l with h1|⟨h1,h2⟩
     ·exact .inl h1
     ·exact .inr ⟨l,h1,h2⟩
    ·show base+n<=(mL base W T hS).next
     rw[a0];exact N.nx
    ·exact a3 m' _ _ s.fresh (.inl (by rw[hgn];exact N.nx))
    ·exact a9 (λh=>by rw[d3] at h;cases h)
end
end
end Go.Ay
