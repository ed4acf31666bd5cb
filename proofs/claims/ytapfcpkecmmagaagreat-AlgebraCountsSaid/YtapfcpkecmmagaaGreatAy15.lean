/- One operation of a region whose order is drawn, whichever comes up. -/
import Derived.Test.YtapfcpkecmmagaaGreatAy14
import Derived.OrdersIn
namespace Go.Ay
open Go
section
variable {p q:AI} {k:Nat}
def Down (dep:Nat->List Nat)(S:Nat->Bool):Prop:= ∀j,S j=true-> ∀d∈dep j,S d=true
def Wx (dep:Nat->List Nat)(a b:Nat):Prop:= ∀S:Nat->Bool,Down dep S->(∀d∈dep b,S d=true)->S a=true
structure Lx (dep:Nat->List Nat)(n:Nat)(xs:List AI):Prop where
 pw:xs.Pairwise λa b=>a.i≠b.i/\(tV a b=true->Wx dep a.i b.i)/\(a.it.a.mN=true->b.it.a.nG=true->Wx dep a.i b.i∨b.cks.contains a.i=true)
 al: ∀x∈xs,x.al=x.it.a.jR/\x.it.tP=false
 lt: ∀x∈xs,x.i<n
 cover: ∀i,i<n-> ∃x∈xs,x.i=i
 ord: ∀l1 x l2,xs=l1++x::l2-> ∀d∈dep x.i,∃y∈l1,y.i=d
structure Inv (P:Program)(base n:Nat)(T:List Rec)(vars0:List V)(hS:H)(nt:Nat)(pv:List Nat)(m0:M)(h0:H)(w0:World)(ds:List Deferred)(S:Nat->Bool)(m:M)(a:Act)(w:World):Prop where
 st:St m nt pv [] (qY S T vars0) [] a
 df:a.defers=ds
 Kq:fU P m0 h0 w0 m (jK base S T hS) w
 nx:base+n<=(jK base S T hS).next
 free: ∀r∈T,r.x.al=true->S r.x.i=false->m (base+r.x.i)=none
 none: ∀T1 q T2,T=T1++q::T2->S q.x.i=true->q.x.it.a.nG=true-> ∀r∈T2,r.x.al=true->q.ha.get (base+r.x.i)=none
section
variable {P:Program} {cl yl:dP} {base n:Nat} {T:List Rec} {vars0:List V} {hS:H} {nt:Nat} {pv:List Nat} {m0:M} {h0:H} {w0:World} {ds:List Deferred}
 {S:Nat->Bool} {m:M} {a:Act} {w:World} {dep:Nat->List Nat} {ops:Array Oper}
theorem Ic {vs us:List V}{x:X}(h: ∀k∈x.Eu,vs.getD k .undef=us.getD k .undef):xv vs [] x=xv us [] x:=by
 cases x with
 |v k=>exact h k (by simp [X.Eu])
 |l k=>rfl
 |c v=>rfl
theorem BY (g:Lx dep n (T.map (·.x))){c d:List Rec}{r:Rec}(f:T=c++r::d):
  (∀q∈c,q.x.i≠r.x.i/\(tV q.x r.x=true->Wx dep q.x.i r.x.i)/\(q.x.it.a.mN=true->r.x.it.a.nG=true->Wx dep q.x.i r.x.i∨r.x.cks.contains q.x.i=true))/\
  (∀q∈d,r.x.i≠q.x.i/\(tV r.x q.x=true->Wx dep r.x.i q.x.i)/\(r.x.it.a.mN=true->q.x.it.a.nG=true->Wx dep r.x.i q.x.i∨q.x.cks.contains r.x.i=true))/\
  (∀q∈c,∀q2∈d,q.x.i≠q2.x.i):=by
 have h:=g.pw
 rw[List.pairwise_map,f,List.pairwise_append,List.pairwise_cons] at h
 exact⟨λq b=>h.2.2 q b r (zA ..),λq b=>h.2.1.1 q b,λq b q2 e=>(h.2.2 q b q2 (xS _ e)).1⟩
theorem Wl (b:p.it.wr=some k)(h2:k∈q.it.EI):tV p q=true:=by
 simp [tV,b,h2]
theorem Uj (b:q.it.wr=some k)(h2:k∈p.it.EI):tV p q=true:=by
 simp [tV,b,h2]
theorem AS (b:p.it.wr=some k)(h2:q.it.wr=some k):tV p q=true:=by
 simp [tV,b,h2]
theorem Dl (b:p.it.a.nG=true∨p.it.a.jR=true)(h2:q.it.a.nG=true∨q.it.a.mN=true):tV p q=true:=by
 unfold tV;simp only[Bool.or_eq_true,pQ];exact .inr ⟨b,h2⟩
theorem Ts {it:It}{vs:List V}{v:V}(h:it.tP=false):(jJ it.d vs [] v).2= []:=by
 unfold It.tP at h;unfold jJ
 cases hd:it.d with
 |l=>simp [hd] at h
 |v k=>rfl
 |n=>rfl
theorem Lp: ∀(T:List Rec) (z:List V),qY (λ_=>false) T z=z
 | [],_=>rfl
 |q::t,z=>by simpa [qY] using Lp t z
theorem Hy {e:Nat×I×V}: ∀(T:List Rec) (log:Log),e∈log->e∈Ji T log
 | [],_,h=>h
 |r::T,log,h=>by
  refine Hy T _ ?_;simp only[uT];split
  ·unfold yT
   split
   ·split
    ·exact xS _ h
    ·exact h
   ·exact h
  ·exact h
theorem Ls {cks:List Nat}{b:Log}{h:H}(d:mC cks b h=true){i:Nat}{I:I}{v:V}(f:(i,I,v)∈b)(e:cks.contains i=true):
  ∃h',cW (xv [] []) h I=some (v,h'):=by
 have:=yQ.1 d _ f
 simp only[e,Bool.not_true,Bool.false_or] at this
 split at this
 ·rename_i j c g
  exact⟨c,by rw[g,xL _ _ this]⟩
 ·cases this
set_option maxHeartbeats 1000000 in
theorem CV (g9:tN P cl)(j7:rX P yl){e8:List V}{h':H}(hC:Dy cl yl base T vars0 [] hS e8 h')(hP:Lx dep n (T.map (·.x)))
  (hb:base=h0.next) (f7:hS.get=h0.get) (i0:Cq m0 h0.next) (j4:HR P m0 h0 w0)
  {J F:List Rec} {r:Rec} (hT:T=J++r::F) (hd:Down dep S) (f9: ∀d∈dep r.x.i,S d=true) (c7:S r.x.i=false)
  {o:Oper} (ho:ops[r.x.i]? =some o) (c1: ∃a0,iJ P pv [] o=some a0/\(r.x.it.a=a0∨r.x.it.a=a0.pu)) (c2:GO nt pv [] o.dst r.x.it.d [])
  (c3:match o.guard with
   |none=>r.x.it.g=none
   |some (j,b)=> ∃t x,(ops[j]?).bind (·.dst)=some t/\fC pv [] (.tmp t)=some x/\r.x.it.g=some (x,b))
  (L:Inv P base n T vars0 hS nt pv m0 h0 w0 ds S m a w) {rr:Option Nat} {Q:Exit->Act->World->Prop} {K:Act->World->Prop}
  (hK: ∀a' w' m',Inv P base n T vars0 hS nt pv m0 h0 w0 ds (λj=>S j||j==r.x.i) m' a' w'->K a' w'):wpOpIn (Wf rr) 0 P ops Q r.x.i K a w:=by
 obtain⟨pA,pB,pC⟩:=BY hP hT
 have c1:iJ P pv [] o=some r.x.it.a∨ ∃g Z,iJ P pv [] o=some (.call g Z)/\r.x.it.a= .callp g Z:=by
  obtain⟨a0,h1,h2⟩:=c1;rcases h2 with h2|h2
  ·exact .inl (h2▸h1)
  ·cases a0 with
   |call g Z=>exact .inr ⟨g,Z,h1,h2⟩
   |_=>exact .inl (h2▸h1)
 have hA: ∀q∈J,tV q.x r.x=true->S q.x.i=true:=λq f hc=>(pA q f).2.1 hc S hd f9
 have hB: ∀q∈F,tV r.x q.x=true->S q.x.i=false:=λq f hc=>by
  cases hs:S q.x.i with
  |false=>rfl
  |true=>have:=(pB q f).2.1 hc S hd (hd _ hs);rw[c7] at this;cases this
 have a5: ∀q∈T,q.x.al=q.x.it.a.jR/\q.x.it.tP=false:=λq f=>hP.al q.x (pU.2 ⟨q,f,rfl⟩)
 have f3: ∀q∈T,q.x.i<n:=λq f=>hP.lt q.x (pU.2 ⟨q,f,rfl⟩)
 have d1: ∀q∈J,q∈T:=λq f=>by rw[hT];simp [f]
 have b6: ∀q∈F,q∈T:=λq f=>by rw[hT];simp [f]
 have inr:r∈T:=by rw[hT];simp
 have i4: ∀q∈J,q.x.it.tP=false:=λq f=>(a5 q (d1 q f)).2
 have h6: ∀q∈F,q.x.it.tP=false:=λq f=>(a5 q (b6 q f)).2
 have g4:r.x.it.tP=false:=(a5 r inr).2
 have h5:=hC
 rw[hT] at h5
 obtain⟨e1,e2,e3,_⟩:=oV J (r::F) _ _ _ _ _ (λq f=>(a5 q (d1 q f)).1) h5
 have split: ∀(S:Nat->Bool),jK base S T hS=jK base S F (gY base S (jK base S J hS) r):=λS=>by rw[hT,Nx];rfl
 have b1: ∀(S:Nat->Bool),qY S T vars0=qY S F (if S r.x.i then wrV (qY S J vars0) r else qY S J vars0):=λS=>by rw[hT,AQ];rfl
 let R:Nat->Bool:=λj=>S j||j==r.x.i
 have e9:R r.x.i=true:=by simp [R]
 have e0: ∀i,i≠r.x.i->R i=S i:=λi hi=>by simp [R,hi]
 have h8: ∀q∈J,S q.x.i=R q.x.i:=λq f=>(e0 _ (pA q f).1).symm
 have h7: ∀q∈F,S q.x.i=R q.x.i:=λq f=>(e0 _ (Ne.symm (pB q f).1)).symm
 have a2:jK base S T hS=jK base S F (jK base S J hS):=by rw[split S];simp [gY,c7]
 have b5:jK base R T hS=jK base S F (gY base (λ_=>true) (jK base S J hS) r):=by
  rw[split R,rF J hS (S:=R) (S':=S) (λq f _=>(h8 q f).symm),Oh (S:=R) (S':=λ_=>true) (λ_=>by simp [e9]),rF F _ (S:=R) (S':=S) (λq f _=>(h7 q f).symm)]
 have i3:qY R T vars0=wrV (qY S T vars0) r:=by
  rw[b1 R,b1 S];simp only[e9,c7,if_true,Bool.false_eq_true,if_false];rw[uV J vars0 (λq f=>(h8 q f).symm),uV F _ (λq f=>(h7 q f).symm)];refine Wt g4 F _ h6 (λq f c6 k hk j0=>?_);have:=hB q f (AS j0 hk);rw[c6] at this;cases this
 have g1: ∀k∈r.x.it.EI,(qY S T vars0).getD k .undef=r.vars.getD k .undef:=by
  intro k hk;rw[b1 S,e1];simp only[c7,Bool.false_eq_true,if_false]
  have h1:(qY S F (qY S J vars0)).getD k .undef=(qY (λ_=>false) F (qY S J vars0)).getD k .undef:=
   wH F _ _ h6 rfl rfl (λq f hw=>hB q f (Uj hw hk))
  rw[h1,Lp];exact wH J _ _ i4 rfl rfl (λq f hw=>hA q f (Wl hw hk))
 have b7: ∀x∈r.x.it.a.xs,xv (qY S T vars0) [] x=xv r.vars [] x:=λx N=>Ic λk hk=>g1 k (by
  unfold It.EI
  exact List.mem_append_left _ (List.mem_flatten.2 ⟨x.Eu,pU.2 ⟨x,N,rfl⟩,hk⟩))
 have f8:fJ (qY S T vars0) [] r.x.it.g=fJ r.vars [] r.x.it.g:=by
  cases s:r.x.it.g with
  |none=>rfl
  |some xb=>
   obtain⟨x,b⟩:=xb;simp only[fJ];rw[Ic (x:=x) λk hk=>g1 k (by unfold It.EI;rw[s];exact List.mem_append_right _ hk)]
 have f4: ∀id,base<=id->hS.get id=none:=λid k0=>by
  rw[f7]
  cases s:h0.get id with
  |none=>rfl
  |some o=>
   obtain⟨q,f,_⟩:=j4.live id o s;rw[i0 id om] at f;cases f
 have L0: ∀q∈F,q.x.al=true->(jK base S J hS).get (base+q.x.i)=none:=by
  intro q f G;refine Jo J hS (f4 _ om) (λq2 f5 j5 j2=>?_) (λq2 f5 e=>pC q2 f5 q f om);obtain⟨U1,U2,hU⟩:=List.append_of_mem f5;exact L.none U1 q2 (U2++r::F) (by rw[hT,hU];simp) j5 j2 q (by simp [f]) G
 have b8:r.x.it.a.nG=true∨r.x.it.a.mN=true->jK base S J hS=r.hb:=by
  intro hw;rw[e2];refine rF J hS (λq f ha=>?_);refine hA q f (Dl ?_ hw);simp only[Rec.FF,Bool.or_eq_true,pQ] at ha;rcases ha with h|h
  ·exact .inl h
  ·exact .inr ((a5 q (d1 q f)).1▸h.1)
 have c9:r.x.it.a.nG=true∨r.x.it.a.jR=true-> ∀q∈F,S q.x.i=true->q.x.it.a.nG=false:=by
  intro hw q f hs
  cases c4:q.x.it.a.nG with
  |false=>rfl
  |true=>have:=hB q f (Dl hw (.inl c4));rw[hs] at this;cases this
 have d3: ∀q∈T,q.x.al=true->q.b=true-> ∀Y,q.ha.get (base+q.x.i)=some Y->Y.rw=true:=by
  intro q f q2 q3 Y s;obtain⟨U1,U2,hU⟩:=List.append_of_mem f;have d4:=hC;rw[hU] at d4;obtain⟨_,_,⟨_,_,k3⟩,_⟩:=oV U1 (q::U2) _ _ _ _ _ (λy hy=>(a5 y (by rw[hU];simp [hy])).1) d4;simp only[q3,if_true,q2] at k3;obtain⟨_,i5,_,_,k4,k5,_⟩:=Gs ((a5 q f).1▸q2) k3;rw[k5] at s;simp [H.gJ,H.cZ] at s;subst s;exact k4
 obtain⟨w1,w2,w3⟩:=e3
 have i6:=vE L.st c3 (f8.trans w1)
 have d7: ∀x,(a.put o.dst x).defers=ds:=λx=>by rw[←L.df];cases o.dst<;>rfl
 have c8: ∀(m':M) (x:Value),Ext m m'->VR m' r.v x->St m' nt pv [] (qY R T vars0) [] (a.put o.dst x):=by
  intro m' x he hv;have:=(L.st.mono he).put c2 hv;rw[i3];have j3:(jJ r.x.it.d (qY S T vars0) [] r.v).2= []:=Ts g4;rw[j3] at this;exact this
 have a4: ∀(m':M) (g g':Nat),(∀id q,m' id=some q->m id=some q∨(g<=id/\id<g'))->(base+n<=g∨(g=base+r.x.i/\g'=base+r.x.i+1))-> ∀q∈T,q.x.al=true->R q.x.i=false->m' (base+q.x.i)=none:=by
  intro m' g g' hf s q f G hs;have d9:q.x.i≠r.x.i:=λe=>by rw[e,e9] at hs;cases hs
  rw[e0 _ d9] at hs;have h1:=L.free q f G hs;have h2:=f3 q f
  cases hm:m' (base+q.x.i) with
  |none=>rfl
  |some z=>
   rcases hf _ _ hm with h3|h3
   ·rw[h1] at h3;cases h3
   ·omega
 have a3:(r.x.it.a.nG=true-> ∀q∈F,q.x.al=true->r.ha.get (base+q.x.i)=none)-> ∀U1 q U2,T=U1++q::U2->R q.x.i=true->q.x.it.a.nG=true-> ∀y∈U2,y.x.al=true->q.ha.get (base+y.x.i)=none:=by
  intro j1 U1 q U2 hU hs hw y hy G
  by_cases d9:q.x.i=r.x.i
  ·--the same item
   have nd: ∀(A B:List Rec) (x y:Rec) (C D:List Rec),A++x::B=C++y::D->x.x.i=y.x.i->(A++x::B).Pairwise (λu v=>u.x.i≠v.x.i)->x=y/\B=D:=by
    intro A
    induction A with
    |nil=>
     intro B x y C D he hi hp
     cases C with
     |nil=>simp at he;exact⟨he.1,he.2⟩
     |cons c C=>
      simp only[List.nil_append,List.cons_append,List.cons.injEq] at he;simp only[List.nil_append,List.pairwise_cons] at hp;exact absurd hi (hp.1 y (by rw[he.2];simp))
    |cons b A ih=>
     intro B x y C D he hi hp
     cases C with
     |nil=>
      simp only[List.nil_append,List.cons_append,List.cons.injEq] at he;simp only[List.cons_append,List.pairwise_cons] at hp;exact absurd (by rw[he.1,hi]) (hp.1 x (by simp))
     |cons c C=>
      simp only[List.cons_append,List.cons.injEq] at he;simp only[List.cons_append,List.pairwise_cons] at hp;exact ih B x y C D he.2 hi hp.2
   have i1:(J++r::F).Pairwise (λu v=>u.x.i≠v.x.i):=by
    have h:=hP.pw;rw[List.pairwise_map,hT] at h;exact h.imp λhh=>hh.1
   obtain⟨h1,h2⟩:=nd J F r q U1 U2 (hT.symm.trans hU) d9.symm i1;subst h1;subst h2;exact j1 hw y hy G
  ·rw[e0 _ d9] at hs
   exact L.none U1 q U2 hU hs hw y hy G
 unfold wpOpIn
 simp only[ho]
 rw[i6]
 cases hbb:r.b with
 |false=>
  simp only[hbb] at w3;obtain⟨hv,b9⟩:r.v= .undef/\r.ha=r.hb:=by simpa using w3
  simp only[Bool.false_eq_true,if_false];refine⟨λ_ _=>trivial,hK _ w m ?_⟩
  have O:jK base R T hS=jK base S T hS:=by
   rw[b5,a2];congr 1
   by_cases hw:r.x.it.a.nG=true
   ·simp only[gY,if_true,hw];rw[b9,b8 (.inl hw)]
   ·simp only[gY,hw,hbb];simp
  refine⟨c8 m undef (Ext.refl m) (by rw[hv];exact VR.undef m),d7 _,by show fU P m0 h0 w0 m (jK base R T hS) w;rw[O];exact L.Kq,by show base+n<=(jK base R T hS).next;rw[O];exact L.nx,?_,?_⟩
  ·exact a4 m (base+n) (base+n) (λ_ _ h=> .inl h) (.inl (fH _))
  ·exact a3 (λhw q f G=>by rw[b9,←b8 (.inl hw)];exact L0 q f G)
 |true=>
  simp only[hbb,if_true] at w3;simp only[if_true];have e4:Cq m (jK base S T hS).next:=L.Kq.low i0
  by_cases hw:r.x.it.a.nG=true
  ·--it turns the heap
   have G:r.x.al=false:=by
    cases h9:r.x.al with
    |false=>rfl
    |true=>have:=Uc ((a5 r inr).1▸h9);rw[hw] at this;cases this
   simp only[G] at w3;have a6:jI cl yl r.vars [] r.hb r.x.it.a=some (r.v,r.ha):=by simpa using w3
   have a7:=b8 (.inl hw);have a1:=c9 (.inl hw);obtain⟨b4,W,_⟩:=lT (base:=base) F (jK base S J hS) a1;obtain⟨d2,d6,_⟩:=lT (base:=base) F r.ha a1;have g6: ∀id,Extra base S F id->(jK base S J hS).get id=none:=λid ⟨q,f,_,e7,_,e⟩=>e▸L0 q f e7
   have b2: ∀id Y,r.hb.get id=some Y->(jK base S T hS).get id=some Y:=by
    intro id Y s;rw[←a7] at s;rw[a2]
    by_cases N:Extra base S F id
    ·rw[g6 id N] at s;cases s
    ·rw[W id N];exact s
   have b0:r.hb.next=(jK base S T hS).next:=by rw[a2,b4,a7]
   have a8:jK base R T hS=jK base S F r.ha:=by rw[b5];simp [gY,hw]
   rw[Jd (λx N=>(b7 x N).symm)] at a6
   have c1:iJ P pv [] o=some r.x.it.a:=by
    rcases c1 with c1|⟨g,Z,_,e⟩
    ·exact c1
    ·rw[e] at hw;cases hw
   refine Xp g9 j7 c1 L.st (L.Kq.rel.sub b2) (by rw[b0];exact e4) a6 (λx w' m' hv l=>?_);refine hK _ w' m' ⟨c8 m' x l.ext hv,d7 x,?_,?_,?_,?_⟩
   ·show fU P m0 h0 w0 m' (jK base R T hS) w'
    refine L.Kq.frame b2 l (λid Y s=>?_) (by have:=L.nx;omega) (by rw[a8,d2];exact fH _) (by rw[a8,d2,←b0];exact l.next);rw[a8] at s
    by_cases N:Extra base S F id
    ·obtain⟨q,f,q1,q2,q3,q4,q5⟩:=(lT (base:=base) F r.ha a1).2.2 id N
     rw[q5] at s;exact .inr ⟨by rw[a2,q5];exact s,d3 q (b6 q f) q2 q3 Y (by rw[q4];exact s),by rw[←a7];exact g6 id N⟩
    ·rw[d6 id N] at s;exact .inl s
   ·show base+n<=(jK base R T hS).next
    rw[a8,d2];have:=l.next;have:=L.nx;omega
   ·exact a4 m' _ _ l.fresh (.inl (by rw[b0];exact L.nx))
   ·refine a3 (λ_ q f e7=>l.old _ ?_ ?_)
    ·rw[b0]
     have:=L.nx;have:=f3 q (b6 q f);omega
    ·rw[←a7];exact L0 q f e7
  ·have c0:r.x.it.a.nG=false:=by simpa using hw
   cases G:r.x.al with
   |true=>
    simp only[G,if_true] at w3;have a9:r.x.it.a.jR=true:=(a5 r inr).1▸G;obtain⟨i,Y,hi,j8,j9,b9,g0⟩:=Gs a9 w3;have a1:=c9 (.inr a9);obtain⟨b4,W,_⟩:=lT (base:=base) F (jK base S J hS) a1
    let g:H:={jK base S T hS with next:=base+r.x.i}
    have d5:=g0 g rfl;have i8:m (base+r.x.i)=none:=L.free r inr G c7
    have b3:iJ P pv [] o=some (.op i):=by
     rcases c1 with c1|⟨g,Z,_,e⟩
     ·exact hi▸c1
     ·rw[e] at hi;cases hi
    rw[wE (ρ':=xv (qY S T vars0) []) (λx N=>(b7 x (by rw[hi];exact N)).symm)] at d5;have i2:HR P m g w:=L.Kq.rel.sub (λ_ _ h=>h);refine Gg (kE b3) (Bx L.st i2 i8 b3 d5) (λx w' m' hv l=>?_)
    have a8:(jK base R T hS).get=(g.new Y).get/\(jK base R T hS).next=(jK base S T hS).next:=by
     rw[b5]
     have g2:gY base (λ_=>true) (jK base S J hS) r=(jK base S J hS).set (base+r.x.i) (some Y):=by
      simp only[gY,if_true,c0,Bool.false_eq_true,if_false,G,hbb,Bool.and_self];rw[b9];simp [H.gJ,H.cZ]
     rw[g2];obtain⟨d2,d6,i7⟩:=lT (base:=base) F ((jK base S J hS).set (base+r.x.i) (some Y)) a1;refine⟨funext λid=>?_,by rw[d2,a2,b4];rfl⟩
     by_cases N:Extra base S F id
     ·obtain⟨q,f,q1,q2,q3,q4,q5⟩:=i7 id N
      have j6:id≠base+r.x.i:=λe=>(pB q f).1 om
      have e6:g.get id=(jK base S T hS).get id:=rfl;rw[q5,H.iN,aZ (show id≠g.next from j6),e6,a2,q5]
     ·have e6:g.get id=(jK base S T hS).get id:=rfl
      rw[d6 id N,H.gJ,H.iN,e6,a2,W id N]
    refine hK _ w' m' ⟨c8 m' x l.ext hv,d7 x,?_,?_,?_,?_⟩
    ·show fU P m0 h0 w0 m' (jK base R T hS) w'
     have:=L.nx;have:=f3 r inr;exact L.Kq.frame (g:=g) (g':=g.new Y) (λ_ _ h=>h) l (λid i5 s=> .inl (by rw[←a8.1];exact s)) (by show h0.next<=base+r.x.i;omega) (by rw[a8.2];show base+r.x.i+1<=_;omega) (by rw[a8.2];exact fH _)
    ·show base+n<=(jK base R T hS).next
     rw[a8.2];exact L.nx
    ·exact a4 m' _ _ l.fresh (.inr ⟨rfl,rfl⟩)
    ·exact a3 (λh=>by rw[c0] at h;cases h)
   |false=>
    simp only[G] at w3;have a6:jI cl yl r.vars [] r.hb r.x.it.a=some (r.v,r.ha):=by simpa using w3
    have a9:r.x.it.a.jR=false:=(a5 r inr).1▸G;obtain⟨b9,f2⟩:=Ff c0 a9 a6
    have O:jK base R T hS=jK base S T hS:=by
     rw[b5,a2];congr 1;simp only[gY,if_true,c0,G];simp
    rcases f2 with ⟨i,hi,d5,f1⟩|⟨gp,e5,hp⟩
    rotate_left
    ·--a call of numbers
     have b3:iJ P pv [] o=some (.call gp e5):=by
      rcases c1 with c1|⟨g,Z,c1,e⟩
      ·rcases rM c1 (λi e=>by rw[hp] at e;cases e) with ⟨_,_,_,_,_,_,_,_,_,e2,_⟩|⟨c,x,_,_,h2⟩
       ·rw[hp] at e2;cases e2
       rcases h2 with ⟨g',f0,_,e2,_⟩|⟨cx,f0,e2,_⟩
       ·rw[hp] at e2;cases e2
       ·rw[hp] at e2;cases e2
      ·rw[hp] at e;cases e;exact c1
     rw[hp,jG,zD (λx N=>(b7 x (by rw[hp];exact N)).symm)] at a6;refine Tf g9 b3 L.st a6 (λx w' hv l=>?_);refine hK _ w' m ⟨c8 m x (Ext.refl m) hv,d7 x,?_,?_,?_,?_⟩
     ·show fU P m0 h0 w0 m (jK base R T hS) w'
      rw[O];exact L.Kq.trans (l _ L.Kq.rel)
     ·show base+n<=(jK base R T hS).next
      rw[O];exact L.nx
     ·exact a4 m (base+n) (base+n) (λ_ _ h=> .inl h) (.inl (fH _))
     ·exact a3 (λh=>by rw[c0] at h;cases h)
    have b3:iJ P pv [] o=some (.op i):=by
     rcases c1 with c1|⟨g,Z,_,e⟩
     ·exact hi▸c1
     ·rw[e] at hi;cases hi
    have ⟨g,b2,hgx,hgn,hgv⟩: ∃g:H,(∀id Y,g.get id=some Y->(jK base S T hS).get id=some Y)/\(∀id Y,(jK base S T hS).get id=some Y->g.get id=some Y∨(Y.rw=true/\g.get id=none))/\
      g.next=(jK base S T hS).next/\cW (xv r.vars []) g i=some (r.v,g):=by
     cases hrd:i.mN with
     |false=>exact⟨jK base S T hS,λ_ _ h=>h,λ_ _ h=> .inl h,rfl,f1 hrd _⟩
     |true=>
      have d0:r.x.it.a.mN=true:=by rw[hi];exact hrd
      have g7: ∀(U:List Rec),(∀q∈U,S q.x.i=true->q.x.it.a.nG=false)∨ ∃U1 q U2,U=U1++q::U2/\S q.x.i=true/\q.x.it.a.nG=true/\ ∀y∈U2,S y.x.i=true->y.x.it.a.nG=false:=by
       intro U
       induction U with
       |nil=>exact .inl λq f=>by cases f
       |cons q U ih=>
        rcases ih with ih|⟨U1,y,U2,k1,k2,k3,k4⟩
        ·by_cases f:S q.x.i=true/\q.x.it.a.nG=true
         ·exact .inr ⟨[],q,U,rfl,f.1,f.2,ih⟩
         ·refine .inl λy hy hs=>?_
          rcases Dk.1 hy with rfl|hy
          ·cases h9:y.x.it.a.nG with
           |false=>rfl
           |true=>exact absurd ⟨hs,h9⟩ f
          ·exact ih y hy hs
        ·exact .inr ⟨q::U1,y,U2,by simp [k1],k2,k3,k4⟩
      rcases g7 F with a1|⟨U1,q,U2,hU,c6,c4,a1⟩
      ·have a7:=b8 (.inr d0)
       obtain⟨b4,W,_⟩:=lT (base:=base) F (jK base S J hS) a1;refine⟨r.hb,λid Y s=>?_,λid Y s=>?_,by rw[a2,b4,a7],by rw[b9] at d5;exact d5⟩
       ·rw[←a7] at s
        rw[a2]
        by_cases N:Extra base S F id
        ·obtain⟨y,hy,_,f6,_,e⟩:=N
         rw[←e,L0 y hy f6] at s;cases s
        ·rw[W id N];exact s
       ·rw[a2] at s
        by_cases N:Extra base S F id
        ·obtain⟨y,hy,y1,y2,y3,y4,y5⟩:=(lT (base:=base) F (jK base S J hS) a1).2.2 id N
         rw[y5] at s;exact .inr ⟨d3 y (b6 y hy) y2 y3 Y (by rw[y4];exact s),by rw[←a7,←y4];exact L0 y hy y2⟩
        ·rw[W id N,a7] at s;exact .inl s
      ·have c5:T=(J++r::U1)++q::U2:=by rw[hT,hU];simp
       have d8:jK base S T hS=jK base S U2 q.ha:=by
        rw[c5,Nx];simp only[jK,List.foldl_cons];congr 1;simp [gY,c6,c4]
       obtain⟨b4,W,_⟩:=lT (base:=base) U2 q.ha a1;have g5: ∀y∈U2,y∈T:=λy hy=>by rw[c5];simp [hy]
       refine⟨q.ha,λid Y s=>?_,λid Y s=>?_,by rw[d8,b4],?_⟩
       ·rw[d8]
        by_cases N:Extra base S U2 id
        ·obtain⟨y,hy,_,f6,_,e⟩:=N
         rw[←e,L.none _ q U2 c5 c6 c4 y hy f6] at s;cases s
        ·rw[W id N];exact s
       ·rw[d8] at s
        by_cases N:Extra base S U2 id
        ·obtain⟨y,hy,y1,y2,y3,y4,y5⟩:=(lT (base:=base) U2 q.ha a1).2.2 id N
         rw[y5] at s;exact .inr ⟨d3 y (g5 y hy) y2 y3 Y (by rw[y4];exact s),by rw[←y4];exact L.none _ q U2 c5 c6 c4 y hy y2⟩
        ·rw[W id N] at s;exact .inl s
       ·--it has been read again behind q
        have h4:q∈F:=by rw[hU];simp
        rcases (pB q h4).2.2 d0 c4 with g8|i9
        ·have:=g8 S hd (hd _ c6);rw[c7] at this;cases this
        ·have d4:=hC
         rw[c5] at d4;obtain⟨_,_,⟨_,k2,_⟩,_⟩:=oV (J++r::U1) (q::U2) _ _ _ _ _ (λy hy=>(a5 y (by rw[c5];exact List.mem_append_left _ hy)).1) d4
         have g3:(r.x.i,i.close (xv r.vars []),r.v)∈Ji (J++r::U1) []:=by
          have:Ji (J++r::U1) []=Ji U1 (uT r (Ji J [])):=by simp [Ji]
          rw[this];refine Hy U1 _ ?_;simp only[uT,hbb,if_true,yT,hi,hrd];exact zA ..
         obtain⟨h9,k9⟩:=Ls k2 g3 i9;rw[Qs hrd] at k9;have:=Vx hrd k9;rw[this] at k9;exact k9
    rw[wE (ρ':=xv (qY S T vars0) []) (λx N=>(b7 x (by rw[hi];exact N)).symm)] at hgv;refine Gg (kE b3) (Bx L.st (L.Kq.rel.sub b2) (by rw[hgn];exact e4.fresh) b3 hgv) (λx w' m' hv l=>?_);refine hK _ w' m' ⟨c8 m' x l.ext hv,d7 x,?_,?_,?_,?_⟩
    ·show fU P m0 h0 w0 m' (jK base R T hS) w'
     rw[O];refine L.Kq.frame b2 l (λid Y s=>?_) (by have:=L.nx;omega) om (fH _);rcases hgx id Y s with h1|⟨h1,h2⟩
     ·exact .inl h1
     ·exact .inr ⟨s,h1,h2⟩
    ·show base+n<=(jK base R T hS).next
     rw[O];exact L.nx
    ·exact a4 m' _ _ l.fresh (.inl (by rw[hgn];exact L.nx))
    ·exact a3 (λh=>by rw[c0] at h;cases h)
end
end
end Go.Ay
