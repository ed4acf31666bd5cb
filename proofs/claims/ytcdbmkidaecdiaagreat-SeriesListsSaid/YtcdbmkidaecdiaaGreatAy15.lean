/- One operation of a region whose order is drawn, whichever comes up. -/
import Derived.Test.YtcdbmkidaecdiaaGreatAy14
import Derived.OrdersIn
namespace Go.Ay
open Go
section
variable {p q:AI} {k:Nat}
def Down (dep:Nat->List Nat)(S:Nat->Bool):Prop:= ∀j,S j=true-> ∀d∈dep j,S d=true
def SU (dep:Nat->List Nat)(a b:Nat):Prop:= ∀S:Nat->Bool,Down dep S->(∀d∈dep b,S d=true)->S a=true
structure CY (dep:Nat->List Nat)(n:Nat)(xs:List AI):Prop where
 pw:xs.Pairwise λa b=>a.i≠b.i/\(Ef a b=true->SU dep a.i b.i)/\(a.it.a.sP=true->b.it.a.sY=true->SU dep a.i b.i∨b.cks.contains a.i=true)
 al: ∀x∈xs,x.al=x.it.a.mF/\x.it.Ep=false
 lt: ∀x∈xs,x.i<n
 cover: ∀i,i<n-> ∃x∈xs,x.i=i
 ord: ∀l1 x l2,xs=l1++x::l2-> ∀d∈dep x.i,∃y∈l1,y.i=d
structure Inv (P:Program)(base n:Nat)(T:List Rec)(vars0:List V)(hS:H)(nt:Nat)(pv:List Nat)(m0:M)(h0:H)(w0:World)(ds:List Deferred)(S:Nat->Bool)(m:M)(a:Act)(w:World):Prop where
 st:St m nt pv [] (zL S T vars0) [] a
 df:a.defers=ds
 Xr:iC P m0 h0 w0 m (lG base S T hS) w
 nx:base+n<=(lG base S T hS).next
 free: ∀r∈T,r.x.al=true->S r.x.i=false->m (base+r.x.i)=none
 none: ∀T1 q T2,T=T1++q::T2->S q.x.i=true->q.x.it.a.sY=true-> ∀r∈T2,r.x.al=true->q.ha.get (base+r.x.i)=none
section
variable {P:Program} {cl yl:dM} {base n:Nat} {T:List Rec} {vars0:List V} {hS:H} {nt:Nat} {pv:List Nat} {m0:M} {h0:H} {w0:World} {ds:List Deferred}
 {S:Nat->Bool} {m:M} {a:Act} {w:World} {dep:Nat->List Nat} {ops:Array Oper}
theorem Yw {vs us:List V}{x:X}(h: ∀k∈x.Uf,vs.getD k .undef=us.getD k .undef):xv vs [] x=xv us [] x:=by
 cases x with
 |v k=>exact h k (by simp [X.Uf])
 |l k=>rfl
 |c v=>rfl
theorem aeR (f:CY dep n (T.map (·.x))){c e:List Rec}{r:Rec}(g:T=c++r::e):
  (∀q∈c,q.x.i≠r.x.i/\(Ef q.x r.x=true->SU dep q.x.i r.x.i)/\(q.x.it.a.sP=true->r.x.it.a.sY=true->SU dep q.x.i r.x.i∨r.x.cks.contains q.x.i=true))/\
  (∀q∈e,r.x.i≠q.x.i/\(Ef r.x q.x=true->SU dep r.x.i q.x.i)/\(r.x.it.a.sP=true->q.x.it.a.sY=true->SU dep r.x.i q.x.i∨q.x.cks.contains r.x.i=true))/\
  (∀q∈c,∀q2∈e,q.x.i≠q2.x.i):=by
 have h:=f.pw
 rw[List.pairwise_map,g,List.pairwise_append,List.pairwise_cons] at h
 exact⟨λq b=>h.2.2 q b r (Co ..),λq b=>h.2.1.1 q b,λq b q2 d=>(h.2.2 q b q2 (Cu _ d)).1⟩
theorem QU (b:p.it.wr=some k)(h2:k∈q.it.rds):Ef p q=true:=by
 simp [Ef,b,h2]
theorem VP (b:q.it.wr=some k)(h2:k∈p.it.rds):Ef p q=true:=by
 simp [Ef,b,h2]
theorem ZQ (b:p.it.wr=some k)(h2:q.it.wr=some k):Ef p q=true:=by
 simp [Ef,b,h2]
theorem Rj (b:p.it.a.sY=true∨p.it.a.mF=true)(h2:q.it.a.sY=true∨q.it.a.sP=true):Ef p q=true:=by
 unfold Ef;simp only[Bool.or_eq_true,vV];exact .inr ⟨b,h2⟩
theorem VX {it:It}{vs:List V}{v:V}(h:it.Ep=false):(lI it.d vs [] v).2= []:=by
 unfold It.Ep at h;unfold lI
 cases hd:it.d with
 |l=>simp [hd] at h
 |v k=>rfl
 |n=>rfl
theorem EE: ∀(T:List Rec) (z:List V),zL (λ_=>false) T z=z
 | [],_=>rfl
 |q::t,z=>by simpa [zL] using EE t z
theorem AX {e:Nat×I×V}: ∀(T:List Rec) (log:Log),e∈log->e∈Zr T log
 | [],_,h=>h
 |r::T,log,h=>by
  refine AX T _ ?_;simp only[Hu];split
  ·unfold Lh
   split
   ·split
    ·exact Cu _ h
    ·exact h
   ·exact h
  ·exact h
theorem DD {cks:List Nat}{b:Log}{h:H}(d:rG cks b h=true){i:Nat}{I:I}{v:V}(e:(i,I,v)∈b)(c:cks.contains i=true):
  ∃h',cK (xv [] []) h I=some (v,h'):=by
 have:=Lw.1 d _ e
 simp only[c,Bool.not_true,Bool.false_or] at this
 split at this
 ·rename_i j g f
  exact⟨g,by rw[f,Jt _ _ this]⟩
 ·cases this
set_option maxHeartbeats 1000000 in
theorem agE (g0:Cv P cl)(j3:Al P yl){f2:List V}{h':H}(hC:Ua cl yl base T vars0 [] hS f2 h')(hP:CY dep n (T.map (·.x)))
  (hb:base=h0.next) (f0:hS.get=h0.get) (h5:Qx m0 h0.next) (j4:HR P m0 h0 w0)
  {J F:List Rec} {r:Rec} (hT:T=J++r::F) (hd:Down dep S) (f8: ∀d∈dep r.x.i,S d=true) (c5:S r.x.i=false)
  {o:Oper} (ho:ops[r.x.i]? =some o) (c1: ∃a0,jG P pv [] o=some a0/\(r.x.it.a=a0∨r.x.it.a=a0.pu)) (c2:Dst nt pv [] o.dst r.x.it.d [])
  (c3:match o.guard with
   |none=>r.x.it.g=none
   |some (j,b)=> ∃t x,(ops[j]?).bind (·.dst)=some t/\fL pv [] (.tmp t)=some x/\r.x.it.g=some (x,b))
  (L:Inv P base n T vars0 hS nt pv m0 h0 w0 ds S m a w) {rr:Option Nat} {Q:Exit->Act->World->Prop} {K:Act->World->Prop}
  (hK: ∀a' w' m',Inv P base n T vars0 hS nt pv m0 h0 w0 ds (λj=>S j||j==r.x.i) m' a' w'->K a' w'):wpOpIn (Wf rr) 0 P ops Q r.x.i K a w:=by
 obtain⟨pA,pB,pC⟩:=aeR hP hT
 have c1:jG P pv [] o=some r.x.it.a∨ ∃g Z,jG P pv [] o=some (.call g Z)/\r.x.it.a= .callp g Z:=by
  obtain⟨a0,h1,h2⟩:=c1;rcases h2 with h2|h2
  ·exact .inl (h2▸h1)
  ·cases a0 with
   |call g Z=>exact .inr ⟨g,Z,h1,h2⟩
   |_=>exact .inl (h2▸h1)
 have hA: ∀q∈J,Ef q.x r.x=true->S q.x.i=true:=λq f hc=>(pA q f).2.1 hc S hd f8
 have hB: ∀q∈F,Ef r.x q.x=true->S q.x.i=false:=λq f hc=>by
  cases hs:S q.x.i with
  |false=>rfl
  |true=>have:=(pB q f).2.1 hc S hd (hd _ hs);rw[c5] at this;cases this
 have a5: ∀q∈T,q.x.al=q.x.it.a.mF/\q.x.it.Ep=false:=λq f=>hP.al q.x (vF.2 ⟨q,f,rfl⟩)
 have e7: ∀q∈T,q.x.i<n:=λq f=>hP.lt q.x (vF.2 ⟨q,f,rfl⟩)
 have c9: ∀q∈J,q∈T:=λq f=>by rw[hT];simp [f]
 have b7: ∀q∈F,q∈T:=λq f=>by rw[hT];simp [f]
 have inr:r∈T:=by rw[hT];simp
 have i2: ∀q∈J,q.x.it.Ep=false:=λq f=>(a5 q (c9 q f)).2
 have h8: ∀q∈F,q.x.it.Ep=false:=λq f=>(a5 q (b7 q f)).2
 have g4:r.x.it.Ep=false:=(a5 r inr).2
 have h7:=hC
 rw[hT] at h7
 obtain⟨e1,e2,e3,_⟩:=xE J (r::F) _ _ _ _ _ (λq f=>(a5 q (c9 q f)).1) h7
 have split: ∀(S:Nat->Bool),lG base S T hS=lG base S F (iB base S (lG base S J hS) r):=λS=>by rw[hT,GH];rfl
 have b1: ∀(S:Nat->Bool),zL S T vars0=zL S F (if S r.x.i then OO (zL S J vars0) r else zL S J vars0):=λS=>by rw[hT,acP];rfl
 let O:Nat->Bool:=λj=>S j||j==r.x.i
 have e8:O r.x.i=true:=by simp [O]
 have d9: ∀i,i≠r.x.i->O i=S i:=λi hi=>by simp [O,hi]
 have g3: ∀q∈J,S q.x.i=O q.x.i:=λq f=>(d9 _ (pA q f).1).symm
 have f9: ∀q∈F,S q.x.i=O q.x.i:=λq f=>(d9 _ (Ne.symm (pB q f).1)).symm
 have a4:lG base S T hS=lG base S F (lG base S J hS):=by rw[split S];simp [iB,c5]
 have b8:lG base O T hS=lG base S F (iB base (λ_=>true) (lG base S J hS) r):=by
  rw[split O,Bj J hS (S:=O) (S':=S) (λq f _=>(g3 q f).symm),GP (S:=O) (S':=λ_=>true) (λ_=>by simp [e8]),Bj F _ (S:=O) (S':=S) (λq f _=>(f9 q f).symm)]
 have j7:zL O T vars0=OO (zL S T vars0) r:=by
  rw[b1 O,b1 S];simp only[e8,c5,if_true,Bool.false_eq_true,if_false];rw[Hb J vars0 (λq f=>(g3 q f).symm),Hb F _ (λq f=>(f9 q f).symm)];refine RM g4 F _ h8 (λq f c0 k hk i1=>?_);have:=hB q f (ZQ i1 hk);rw[c0] at this;cases this
 have g2: ∀k∈r.x.it.rds,(zL S T vars0).getD k .undef=r.vars.getD k .undef:=by
  intro k hk;rw[b1 S,e1];simp only[c5,Bool.false_eq_true,if_false]
  have h1:(zL S F (zL S J vars0)).getD k .undef=(zL (λ_=>false) F (zL S J vars0)).getD k .undef:=
   Jc F _ _ h8 rfl rfl (λq f hw=>hB q f (VP hw hk))
  rw[h1,EE];exact Jc J _ _ i2 rfl rfl (λq f hw=>hA q f (QU hw hk))
 have b5: ∀x∈r.x.it.a.xs,xv (zL S T vars0) [] x=xv r.vars [] x:=λx N=>Yw λk hk=>g2 k (by
  unfold It.rds
  exact List.mem_append_left _ (List.mem_flatten.2 ⟨x.Uf,vF.2 ⟨x,N,rfl⟩,hk⟩))
 have h4:fU (zL S T vars0) [] r.x.it.g=fU r.vars [] r.x.it.g:=by
  cases s:r.x.it.g with
  |none=>rfl
  |some xb=>
   obtain⟨x,b⟩:=xb;simp only[fU];rw[Yw (x:=x) λk hk=>g2 k (by unfold It.rds;rw[s];exact List.mem_append_right _ hk)]
 have f5: ∀id,base<=id->hS.get id=none:=λid k0=>by
  rw[f0]
  cases s:h0.get id with
  |none=>rfl
  |some o=>
   obtain⟨q,f,_⟩:=j4.live id o s;rw[h5 id om] at f;cases f
 have L0: ∀q∈F,q.x.al=true->(lG base S J hS).get (base+q.x.i)=none:=by
  intro q f G;refine Yh J hS (f5 _ om) (λq2 e9 i9 j1=>?_) (λq2 e9 e=>pC q2 e9 q f om);obtain⟨U1,U2,hU⟩:=List.append_of_mem e9;exact L.none U1 q2 (U2++r::F) (by rw[hT,hU];simp) i9 j1 q (by simp [f]) G
 have b6:r.x.it.a.sY=true∨r.x.it.a.sP=true->lG base S J hS=r.hb:=by
  intro hw;rw[e2];refine Bj J hS (λq f ha=>?_);refine hA q f (Rj ?_ hw);simp only[Rec.aff,Bool.or_eq_true,vV] at ha;rcases ha with h|h
  ·exact .inl h
  ·exact .inr ((a5 q (c9 q f)).1▸h.1)
 have d1:r.x.it.a.sY=true∨r.x.it.a.mF=true-> ∀q∈F,S q.x.i=true->q.x.it.a.sY=false:=by
  intro hw q f hs
  cases b9:q.x.it.a.sY with
  |false=>rfl
  |true=>have:=hB q f (Rj hw (.inl b9));rw[hs] at this;cases this
 have d6: ∀q∈T,q.x.al=true->q.b=true-> ∀Y,q.ha.get (base+q.x.i)=some Y->Y.rw=true:=by
  intro q f q2 q3 Y s;obtain⟨U1,U2,hU⟩:=List.append_of_mem f;have d7:=hC;rw[hU] at d7;obtain⟨_,_,⟨_,_,k3⟩,_⟩:=xE U1 (q::U2) _ _ _ _ _ (λy hy=>(a5 y (by rw[hU];simp [hy])).1) d7;simp only[q3,if_true,q2] at k3;obtain⟨_,j6,_,_,k4,k5,_⟩:=We ((a5 q f).1▸q2) k3;rw[k5] at s;simp [H.iW,H.cH] at s;subst s;exact k4
 obtain⟨w1,w2,w3⟩:=e3
 have i3:=Gt L.st c3 (h4.trans w1)
 have d4: ∀x,(a.put o.dst x).defers=ds:=λx=>by rw[←L.df];cases o.dst<;>rfl
 have d2: ∀(m':M) (x:Value),Ext m m'->VR m' r.v x->St m' nt pv [] (zL O T vars0) [] (a.put o.dst x):=by
  intro m' x he hv;have:=(L.st.mono he).put c2 hv;rw[j7];have i5:(lI r.x.it.d (zL S T vars0) [] r.v).2= []:=VX g4;rw[i5] at this;exact this
 have a2: ∀(m':M) (g g':Nat),(∀id q,m' id=some q->m id=some q∨(g<=id/\id<g'))->(base+n<=g∨(g=base+r.x.i/\g'=base+r.x.i+1))-> ∀q∈T,q.x.al=true->O q.x.i=false->m' (base+q.x.i)=none:=by
  intro m' g g' hf s q f G hs;have e0:q.x.i≠r.x.i:=λe=>by rw[e,e8] at hs;cases hs
  rw[d9 _ e0] at hs;have h1:=L.free q f G hs;have h2:=e7 q f
  cases hm:m' (base+q.x.i) with
  |none=>rfl
  |some z=>
   rcases hf _ _ hm with h3|h3
   ·rw[h1] at h3;cases h3
   ·omega
 have a3:(r.x.it.a.sY=true-> ∀q∈F,q.x.al=true->r.ha.get (base+q.x.i)=none)-> ∀U1 q U2,T=U1++q::U2->O q.x.i=true->q.x.it.a.sY=true-> ∀y∈U2,y.x.al=true->q.ha.get (base+y.x.i)=none:=by
  intro j5 U1 q U2 hU hs hw y hy G
  by_cases e0:q.x.i=r.x.i
  ·--the same item
   have nd: ∀(A B:List Rec) (x y:Rec) (C D:List Rec),A++x::B=C++y::D->x.x.i=y.x.i->(A++x::B).Pairwise (λu v=>u.x.i≠v.x.i)->x=y/\B=D:=by
    intro A
    induction A with
    |nil=>
     intro B x y C D he hi hp
     cases C with
     |nil=>simp at he;exact⟨he.1,he.2⟩
     |cons c C=>
      simp only[List.nil_append,List.cons_append,List.cons.injEq] at he;simp only[List.nil_append,List.pairwise_cons] at hp;exact absurd hi (hp.1 y (by rw[he.2];simp))
    |cons b A ih=>
     intro B x y C D he hi hp
     cases C with
     |nil=>
      simp only[List.nil_append,List.cons_append,List.cons.injEq] at he;simp only[List.cons_append,List.pairwise_cons] at hp;exact absurd (by rw[he.1,hi]) (hp.1 x (by simp))
     |cons c C=>
      simp only[List.cons_append,List.cons.injEq] at he;simp only[List.cons_append,List.pairwise_cons] at hp;exact ih B x y C D he.2 hi hp.2
   have i6:(J++r::F).Pairwise (λu v=>u.x.i≠v.x.i):=by
    have h:=hP.pw;rw[List.pairwise_map,hT] at h;exact h.imp λhh=>hh.1
   obtain⟨h1,h2⟩:=nd J F r q U1 U2 (hT.symm.trans hU) e0.symm i6;subst h1;subst h2;exact j5 hw y hy G
  ·rw[d9 _ e0] at hs
   exact L.none U1 q U2 hU hs hw y hy G
 unfold wpOpIn
 simp only[ho]
 rw[i3]
 cases hbb:r.b with
 |false=>
  simp only[hbb] at w3;obtain⟨hv,c6⟩:r.v= .undef/\r.ha=r.hb:=by simpa using w3
  simp only[Bool.false_eq_true,if_false];refine⟨λ_ _=>trivial,hK _ w m ?_⟩
  have R:lG base O T hS=lG base S T hS:=by
   rw[b8,a4];congr 1
   by_cases hw:r.x.it.a.sY=true
   ·simp only[iB,if_true,hw];rw[c6,b6 (.inl hw)]
   ·simp only[iB,hw,hbb];simp
  refine⟨d2 m undef (Ext.refl m) (by rw[hv];exact VR.undef m),d4 _,by show iC P m0 h0 w0 m (lG base O T hS) w;rw[R];exact L.Xr,by show base+n<=(lG base O T hS).next;rw[R];exact L.nx,?_,?_⟩
  ·exact a2 m (base+n) (base+n) (λ_ _ h=> .inl h) (.inl (eH _))
  ·exact a3 (λhw q f G=>by rw[c6,←b6 (.inl hw)];exact L0 q f G)
 |true=>
  simp only[hbb,if_true] at w3;simp only[if_true];have e4:Qx m (lG base S T hS).next:=L.Xr.low h5
  by_cases hw:r.x.it.a.sY=true
  ·--it turns the heap
   have G:r.x.al=false:=by
    cases h9:r.x.al with
    |false=>rfl
    |true=>have:=VA ((a5 r inr).1▸h9);rw[hw] at this;cases this
   simp only[G] at w3;have a6:kY cl yl r.vars [] r.hb r.x.it.a=some (r.v,r.ha):=by simpa using w3
   have a7:=b6 (.inl hw);have a1:=d1 (.inl hw);obtain⟨b3,W,_⟩:=qP (base:=base) F (lG base S J hS) a1;obtain⟨d3,d5,_⟩:=qP (base:=base) F r.ha a1;have g9: ∀id,Extra base S F id->(lG base S J hS).get id=none:=λid ⟨q,f,_,f4,_,e⟩=>e▸L0 q f f4
   have b2: ∀id Y,r.hb.get id=some Y->(lG base S T hS).get id=some Y:=by
    intro id Y s;rw[←a7] at s;rw[a4]
    by_cases N:Extra base S F id
    ·rw[g9 id N] at s;cases s
    ·rw[W id N];exact s
   have a8:r.hb.next=(lG base S T hS).next:=by rw[a4,b3,a7]
   have b0:lG base O T hS=lG base S F r.ha:=by rw[b8];simp [iB,hw]
   rw[BA (λx N=>(b5 x N).symm)] at a6
   have c1:jG P pv [] o=some r.x.it.a:=by
    rcases c1 with c1|⟨g,Z,_,e⟩
    ·exact c1
    ·rw[e] at hw;cases hw
   refine SE g0 j3 c1 L.st (L.Xr.rel.sub b2) (by rw[a8];exact e4) a6 (λx w' m' hv l=>?_);refine hK _ w' m' ⟨d2 m' x l.ext hv,d4 x,?_,?_,?_,?_⟩
   ·show iC P m0 h0 w0 m' (lG base O T hS) w'
    refine L.Xr.frame b2 l (λid Y s=>?_) (by have:=L.nx;omega) (by rw[b0,d3];exact eH _) (by rw[b0,d3,←a8];exact l.next);rw[b0] at s
    by_cases N:Extra base S F id
    ·obtain⟨q,f,q1,q2,q3,q4,q5⟩:=(qP (base:=base) F r.ha a1).2.2 id N
     rw[q5] at s;exact .inr ⟨by rw[a4,q5];exact s,d6 q (b7 q f) q2 q3 Y (by rw[q4];exact s),by rw[←a7];exact g9 id N⟩
    ·rw[d5 id N] at s;exact .inl s
   ·show base+n<=(lG base O T hS).next
    rw[b0,d3];have:=l.next;have:=L.nx;omega
   ·exact a2 m' _ _ l.fresh (.inl (by rw[a8];exact L.nx))
   ·refine a3 (λ_ q f f4=>l.old _ ?_ ?_)
    ·rw[a8]
     have:=L.nx;have:=e7 q (b7 q f);omega
    ·rw[←a7];exact L0 q f f4
  ·have c4:r.x.it.a.sY=false:=by simpa using hw
   cases G:r.x.al with
   |true=>
    simp only[G,if_true] at w3;have a9:r.x.it.a.mF=true:=(a5 r inr).1▸G;obtain⟨i,Y,hi,j8,j9,c6,g6⟩:=We a9 w3;have a1:=d1 (.inr a9);obtain⟨b3,W,_⟩:=qP (base:=base) F (lG base S J hS) a1
    let g:H:={lG base S T hS with next:=base+r.x.i}
    have d8:=g6 g rfl;have i7:m (base+r.x.i)=none:=L.free r inr G c5
    have b4:jG P pv [] o=some (.op i):=by
     rcases c1 with c1|⟨g,Z,_,e⟩
     ·exact hi▸c1
     ·rw[e] at hi;cases hi
    rw[Jl (ρ':=xv (zL S T vars0) []) (λx N=>(b5 x (by rw[hi];exact N)).symm)] at d8;have i4:HR P m g w:=L.Xr.rel.sub (λ_ _ h=>h);refine Vb (oJ b4) (On L.st i4 i7 b4 d8) (λx w' m' hv l=>?_)
    have b0:(lG base O T hS).get=(g.new Y).get/\(lG base O T hS).next=(lG base S T hS).next:=by
     rw[b8]
     have g5:iB base (λ_=>true) (lG base S J hS) r=(lG base S J hS).set (base+r.x.i) (some Y):=by
      simp only[iB,if_true,c4,Bool.false_eq_true,if_false,G,hbb,Bool.and_self];rw[c6];simp [H.iW,H.cH]
     rw[g5];obtain⟨d3,d5,j2⟩:=qP (base:=base) F ((lG base S J hS).set (base+r.x.i) (some Y)) a1;refine⟨funext λid=>?_,by rw[d3,a4,b3];rfl⟩
     by_cases N:Extra base S F id
     ·obtain⟨q,f,q1,q2,q3,q4,q5⟩:=j2 id N
      have i8:id≠base+r.x.i:=λe=>(pB q f).1 om
      have f3:g.get id=(lG base S T hS).get id:=rfl;rw[q5,H.jQ,bL (show id≠g.next from i8),f3,a4,q5]
     ·have f3:g.get id=(lG base S T hS).get id:=rfl
      rw[d5 id N,H.iW,H.jQ,f3,a4,W id N]
    refine hK _ w' m' ⟨d2 m' x l.ext hv,d4 x,?_,?_,?_,?_⟩
    ·show iC P m0 h0 w0 m' (lG base O T hS) w'
     have:=L.nx;have:=e7 r inr;exact L.Xr.frame (g:=g) (g':=g.new Y) (λ_ _ h=>h) l (λid j6 s=> .inl (by rw[←b0.1];exact s)) (by show h0.next<=base+r.x.i;omega) (by rw[b0.2];show base+r.x.i+1<=_;omega) (by rw[b0.2];exact eH _)
    ·show base+n<=(lG base O T hS).next
     rw[b0.2];exact L.nx
    ·exact a2 m' _ _ l.fresh (.inr ⟨rfl,rfl⟩)
    ·exact a3 (λh=>by rw[c4] at h;cases h)
   |false=>
    simp only[G] at w3;have a6:kY cl yl r.vars [] r.hb r.x.it.a=some (r.v,r.ha):=by simpa using w3
    have a9:r.x.it.a.mF=false:=(a5 r inr).1▸G;obtain⟨c6,e6⟩:=Rs c4 a9 a6
    have R:lG base O T hS=lG base S T hS:=by
     rw[b8,a4];congr 1;simp only[iB,if_true,c4,G];simp
    rcases e6 with ⟨i,hi,d8,f6⟩|⟨gp,f7,hp⟩
    rotate_left
    ·--a call of numbers
     have b4:jG P pv [] o=some (.call gp f7):=by
      rcases c1 with c1|⟨g,Z,c1,e⟩
      ·rcases Ad c1 (λi e=>by rw[hp] at e;cases e) with ⟨_,_,_,_,_,_,_,_,_,e2,_⟩|⟨c,x,_,_,h2⟩
       ·rw[hp] at e2;cases e2
       rcases h2 with ⟨g',e5,_,e2,_⟩|⟨cx,e5,e2,_⟩
       ·rw[hp] at e2;cases e2
       ·rw[hp] at e2;cases e2
      ·rw[hp] at e;cases e;exact c1
     rw[hp,lD,Wd (λx N=>(b5 x (by rw[hp];exact N)).symm)] at a6;refine VW g0 b4 L.st a6 (λx w' hv l=>?_);refine hK _ w' m ⟨d2 m x (Ext.refl m) hv,d4 x,?_,?_,?_,?_⟩
     ·show iC P m0 h0 w0 m (lG base O T hS) w'
      rw[R];exact L.Xr.trans (l _ L.Xr.rel)
     ·show base+n<=(lG base O T hS).next
      rw[R];exact L.nx
     ·exact a2 m (base+n) (base+n) (λ_ _ h=> .inl h) (.inl (eH _))
     ·exact a3 (λh=>by rw[c4] at h;cases h)
    have b4:jG P pv [] o=some (.op i):=by
     rcases c1 with c1|⟨g,Z,_,e⟩
     ·exact hi▸c1
     ·rw[e] at hi;cases hi
    have ⟨g,b2,hgx,hgn,hgv⟩: ∃g:H,(∀id Y,g.get id=some Y->(lG base S T hS).get id=some Y)/\(∀id Y,(lG base S T hS).get id=some Y->g.get id=some Y∨(Y.rw=true/\g.get id=none))/\
      g.next=(lG base S T hS).next/\cK (xv r.vars []) g i=some (r.v,g):=by
     cases hrd:i.sP with
     |false=>exact⟨lG base S T hS,λ_ _ h=>h,λ_ _ h=> .inl h,rfl,f6 hrd _⟩
     |true=>
      have d0:r.x.it.a.sP=true:=by rw[hi];exact hrd
      have g8: ∀(U:List Rec),(∀q∈U,S q.x.i=true->q.x.it.a.sY=false)∨ ∃U1 q U2,U=U1++q::U2/\S q.x.i=true/\q.x.it.a.sY=true/\ ∀y∈U2,S y.x.i=true->y.x.it.a.sY=false:=by
       intro U
       induction U with
       |nil=>exact .inl λq f=>by cases f
       |cons q U ih=>
        rcases ih with ih|⟨U1,y,U2,k1,k2,k3,k4⟩
        ·by_cases f:S q.x.i=true/\q.x.it.a.sY=true
         ·exact .inr ⟨[],q,U,rfl,f.1,f.2,ih⟩
         ·refine .inl λy hy hs=>?_
          rcases Gr.1 hy with rfl|hy
          ·cases h9:y.x.it.a.sY with
           |false=>rfl
           |true=>exact absurd ⟨hs,h9⟩ f
          ·exact ih y hy hs
        ·exact .inr ⟨q::U1,y,U2,by simp [k1],k2,k3,k4⟩
      rcases g8 F with a1|⟨U1,q,U2,hU,c0,b9,a1⟩
      ·have a7:=b6 (.inr d0)
       obtain⟨b3,W,_⟩:=qP (base:=base) F (lG base S J hS) a1;refine⟨r.hb,λid Y s=>?_,λid Y s=>?_,by rw[a4,b3,a7],by rw[c6] at d8;exact d8⟩
       ·rw[←a7] at s
        rw[a4]
        by_cases N:Extra base S F id
        ·obtain⟨y,hy,_,f1,_,e⟩:=N
         rw[←e,L0 y hy f1] at s;cases s
        ·rw[W id N];exact s
       ·rw[a4] at s
        by_cases N:Extra base S F id
        ·obtain⟨y,hy,y1,y2,y3,y4,y5⟩:=(qP (base:=base) F (lG base S J hS) a1).2.2 id N
         rw[y5] at s;exact .inr ⟨d6 y (b7 y hy) y2 y3 Y (by rw[y4];exact s),by rw[←a7,←y4];exact L0 y hy y2⟩
        ·rw[W id N,a7] at s;exact .inl s
      ·have c7:T=(J++r::U1)++q::U2:=by rw[hT,hU];simp
       have c8:lG base S T hS=lG base S U2 q.ha:=by
        rw[c7,GH];simp only[lG,List.foldl_cons];congr 1;simp [iB,c0,b9]
       obtain⟨b3,W,_⟩:=qP (base:=base) U2 q.ha a1;have h6: ∀y∈U2,y∈T:=λy hy=>by rw[c7];simp [hy]
       refine⟨q.ha,λid Y s=>?_,λid Y s=>?_,by rw[c8,b3],?_⟩
       ·rw[c8]
        by_cases N:Extra base S U2 id
        ·obtain⟨y,hy,_,f1,_,e⟩:=N
         rw[←e,L.none _ q U2 c7 c0 b9 y hy f1] at s;cases s
        ·rw[W id N];exact s
       ·rw[c8] at s
        by_cases N:Extra base S U2 id
        ·obtain⟨y,hy,y1,y2,y3,y4,y5⟩:=(qP (base:=base) U2 q.ha a1).2.2 id N
         rw[y5] at s;exact .inr ⟨d6 y (h6 y hy) y2 y3 Y (by rw[y4];exact s),by rw[←y4];exact L.none _ q U2 c7 c0 b9 y hy y2⟩
        ·rw[W id N] at s;exact .inl s
       ·--it has been read again behind q
        have i0:q∈F:=by rw[hU];simp
        rcases (pB q i0).2.2 d0 b9 with g7|j0
        ·have:=g7 S hd (hd _ c0);rw[c5] at this;cases this
        ·have d7:=hC
         rw[c7] at d7;obtain⟨_,_,⟨_,k2,_⟩,_⟩:=xE (J++r::U1) (q::U2) _ _ _ _ _ (λy hy=>(a5 y (by rw[c7];exact List.mem_append_left _ hy)).1) d7
         have g1:(r.x.i,i.close (xv r.vars []),r.v)∈Zr (J++r::U1) []:=by
          have:Zr (J++r::U1) []=Zr U1 (Hu r (Zr J [])):=by simp [Zr]
          rw[this];refine AX U1 _ ?_;simp only[Hu,hbb,if_true,Lh,hi,hrd];exact Co ..
         obtain⟨h9,k9⟩:=DD k2 g1 j0;rw[JS hrd] at k9;have:=SS hrd k9;rw[this] at k9;exact k9
    rw[Jl (ρ':=xv (zL S T vars0) []) (λx N=>(b5 x (by rw[hi];exact N)).symm)] at hgv;refine Vb (oJ b4) (On L.st (L.Xr.rel.sub b2) (by rw[hgn];exact e4.fresh) b4 hgv) (λx w' m' hv l=>?_);refine hK _ w' m' ⟨d2 m' x l.ext hv,d4 x,?_,?_,?_,?_⟩
    ·show iC P m0 h0 w0 m' (lG base O T hS) w'
     rw[R];refine L.Xr.frame b2 l (λid Y s=>?_) (by have:=L.nx;omega) om (eH _);rcases hgx id Y s with h1|⟨h1,h2⟩
     ·exact .inl h1
     ·exact .inr ⟨s,h1,h2⟩
    ·show base+n<=(lG base O T hS).next
     rw[R];exact L.nx
    ·exact a2 m' _ _ l.fresh (.inl (by rw[hgn];exact L.nx))
    ·exact a3 (λh=>by rw[c4] at h;cases h)
end
end
end Go.Ay
