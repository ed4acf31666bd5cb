/- One operation of a region whose order is drawn, whichever comes up. -/
import Derived.Test.YtapfcpkecmmagaaGreatAy14
import Derived.OrdersIn
namespace Go.Ay
open Go
section
variable {p q:AI} {k:Nat}
def Down (dep:Nat->List Nat)(S:Nat->Bool):Prop:= ∀j,S j=true-> ∀d∈dep j,S d=true
def Np (dep:Nat->List Nat)(a b:Nat):Prop:= ∀S:Nat->Bool,Down dep S->(∀d∈dep b,S d=true)->S a=true
structure Ej (dep:Nat->List Nat)(n:Nat)(xs:List AI):Prop where
 pw:xs.Pairwise λa b=>a.i≠b.i/\(qN a b=true->Np dep a.i b.i)/\(a.it.a.kT=true->b.it.a.lH=true->Np dep a.i b.i∨b.cks.contains a.i=true)
 al: ∀x∈xs,x.al=x.it.a.iJ/\x.it.qS=false
 lt: ∀x∈xs,x.i<n
 cover: ∀i,i<n-> ∃x∈xs,x.i=i
 ord: ∀l1 x l2,xs=l1++x::l2-> ∀d∈dep x.i,∃y∈l1,y.i=d
structure Inv (P:Program)(base n:Nat)(T:List Rec)(vars0:List V)(hS:H)(nt:Nat)(pv:List Nat)(m0:M)(h0:H)(w0:World)(ds:List Deferred)(S:Nat->Bool)(m:M)(a:Act)(w:World):Prop where
 st:St m nt pv [] (oM S T vars0) [] a
 df:a.defers=ds
 Bl:eS P m0 h0 w0 m (iB base S T hS) w
 nx:base+n<=(iB base S T hS).next
 free: ∀r∈T,r.x.al=true->S r.x.i=false->m (base+r.x.i)=none
 none: ∀T1 q T2,T=T1++q::T2->S q.x.i=true->q.x.it.a.lH=true-> ∀r∈T2,r.x.al=true->q.ha.get (base+r.x.i)=none
section
variable {P:Program} {cl yl:dD} {base n:Nat} {T:List Rec} {vars0:List V} {hS:H} {nt:Nat} {pv:List Nat} {m0:M} {h0:H} {w0:World} {ds:List Deferred}
 {S:Nat->Bool} {m:M} {a:Act} {w:World} {dep:Nat->List Nat} {ops:Array Oper}
theorem Cf {vs us:List V}{x:X}(h: ∀k∈x.yK,vs.getD k .undef=us.getD k .undef):xv vs [] x=xv us [] x:=by
 cases x with
 |v k=>exact h k (by simp [X.yK])
 |l k=>rfl
 |c v=>rfl
theorem Uq (hP:Ej dep n (T.map (·.x))){T1 T2:List Rec}{r:Rec}(hT:T=T1++r::T2):
  (∀q∈T1,q.x.i≠r.x.i/\(qN q.x r.x=true->Np dep q.x.i r.x.i)/\(q.x.it.a.kT=true->r.x.it.a.lH=true->Np dep q.x.i r.x.i∨r.x.cks.contains q.x.i=true))/\
  (∀q∈T2,r.x.i≠q.x.i/\(qN r.x q.x=true->Np dep r.x.i q.x.i)/\(r.x.it.a.kT=true->q.x.it.a.lH=true->Np dep r.x.i q.x.i∨q.x.cks.contains r.x.i=true))/\
  (∀q∈T1,∀q2∈T2,q.x.i≠q2.x.i):=by
 have h:=hP.pw
 rw[List.pairwise_map,hT,List.pairwise_append,List.pairwise_cons] at h
 exact⟨λq hq=>h.2.2 q hq r (List.mem_cons_self ..),λq hq=>h.2.1.1 q hq,λq hq q2 hq2=>(h.2.2 q hq q2 (List.mem_cons_of_mem _ hq2)).1⟩
theorem Oz (h1:p.it.wr=some k)(h2:k∈q.it.Uw):qN p q=true:=by
 simp [qN,h1,h2]
theorem Nr (h1:q.it.wr=some k)(h2:k∈p.it.Uw):qN p q=true:=by
 simp [qN,h1,h2]
theorem Tg (h1:p.it.wr=some k)(h2:q.it.wr=some k):qN p q=true:=by
 simp [qN,h1,h2]
theorem yJ (h1:p.it.a.lH=true∨p.it.a.iJ=true)(h2:q.it.a.lH=true∨q.it.a.kT=true):qN p q=true:=by
 unfold qN;simp only[Bool.or_eq_true,Bool.and_eq_true];exact .inr ⟨h1,h2⟩
theorem Pv {it:It}{vs:List V}{v:V}(h:it.qS=false):(iA it.d vs [] v).2= []:=by
 unfold It.qS at h;unfold iA
 cases hd:it.d with
 |l=>simp [hd] at h
 |v k=>rfl
 |n=>rfl
theorem Er: ∀(T:List Rec) (z:List V),oM (λ_=>false) T z=z
 | [],_=>rfl
 |q::t,z=>by simpa [oM] using Er t z
theorem Cc {e:Nat×I×V}: ∀(T:List Rec) (log:Log),e∈log->e∈Cy T log
 | [],_,h=>h
 |r::T,log,h=>by
  refine Cc T _ ?_;simp only[rI];split
  ·unfold uF
   split
   ·split
    ·exact List.mem_cons_of_mem _ h
    ·exact h
   ·exact h
  ·exact h
theorem Gh {cks:List Nat}{log:Log}{h:H}(ho:kE cks log h=true){i:Nat}{I:I}{v:V}(hm:(i,I,v)∈log)(hc:cks.contains i=true):
  ∃h',cI (xv [] []) h I=some (v,h'):=by
 have:=List.all_eq_true.1 ho _ hm
 simp only[hc,Bool.not_true,Bool.false_or] at this
 split at this
 ·rename_i v2 h2 he
  exact⟨h2,by rw[he,tI _ _ this]⟩
 ·cases this
set_option maxHeartbeats 1000000 in
theorem Wy (hSc:qI P cl)(hYc:oW P yl){vars':List V}{h':H}(hC:yD cl yl base T vars0 [] hS vars' h')(hP:Ej dep n (T.map (·.x)))
  (hb:base=h0.next) (hSget:hS.get=h0.get) (hl0:xS m0 h0.next) (hr0:HR P m0 h0 w0)
  {T1 T2:List Rec} {r:Rec} (hT:T=T1++r::T2) (hd:Down dep S) (hdep: ∀d∈dep r.x.i,S d=true) (hns:S r.x.i=false)
  {o:Oper} (ho:ops[r.x.i]? =some o) (c1: ∃a0,fP P pv [] o=some a0/\(r.x.it.a=a0∨r.x.it.a=a0.pu)) (c2:Yp nt pv [] o.dst r.x.it.d [])
  (c3:match o.guard with
   |none=>r.x.it.g=none
   |some (j,b)=> ∃t x,(ops[j]?).bind (·.dst)=some t/\dW pv [] (.tmp t)=some x/\r.x.it.g=some (x,b))
  (hI:Inv P base n T vars0 hS nt pv m0 h0 w0 ds S m a w) {rr:Option Nat} {Q:Exit->Act->World->Prop} {K:Act->World->Prop}
  (hK: ∀a' w' m',Inv P base n T vars0 hS nt pv m0 h0 w0 ds (λj=>S j||j==r.x.i) m' a' w'->K a' w'):wpOpIn (Wf rr) 0 P ops Q r.x.i K a w:=by
 obtain⟨pA,pB,pC⟩:=Uq hP hT
 have c1:fP P pv [] o=some r.x.it.a∨ ∃g args,fP P pv [] o=some (.call g args)/\r.x.it.a= .callp g args:=by
  obtain⟨a0,h1,h2⟩:=c1;rcases h2 with h2|h2
  ·exact .inl (h2▸h1)
  ·cases a0 with
   |call g args=>exact .inr ⟨g,args,h1,h2⟩
   |_=>exact .inl (h2▸h1)
 have hA: ∀q∈T1,qN q.x r.x=true->S q.x.i=true:=λq hq hc=>(pA q hq).2.1 hc S hd hdep
 have hB: ∀q∈T2,qN r.x q.x=true->S q.x.i=false:=λq hq hc=>by
  cases hs:S q.x.i with
  |false=>rfl
  |true=>have:=(pB q hq).2.1 hc S hd (hd _ hs);rw[hns] at this;cases this
 have alT: ∀q∈T,q.x.al=q.x.it.a.iJ/\q.x.it.qS=false:=λq hq=>hP.al q.x (jH.2 ⟨q,hq,rfl⟩)
 have ltT: ∀q∈T,q.x.i<n:=λq hq=>hP.lt q.x (jH.2 ⟨q,hq,rfl⟩)
 have inT1: ∀q∈T1,q∈T:=λq hq=>by rw[hT];simp [hq]
 have inT2: ∀q∈T2,q∈T:=λq hq=>by rw[hT];simp [hq]
 have inr:r∈T:=by rw[hT];simp
 have hL1: ∀q∈T1,q.x.it.qS=false:=λq hq=>(alT q (inT1 q hq)).2
 have hL2: ∀q∈T2,q.x.it.qS=false:=λq hq=>(alT q (inT2 q hq)).2
 have hLr:r.x.it.qS=false:=(alT r inr).2
 have hCr:=hC
 rw[hT] at hCr
 obtain⟨e1,e2,e3,_⟩:=nL T1 (r::T2) _ _ _ _ _ (λq hq=>(alT q (inT1 q hq)).1) hCr
 have split: ∀(S:Nat->Bool),iB base S T hS=iB base S T2 (fG base S (iB base S T1 hS) r):=λS=>by rw[hT,Gv];rfl
 have splitV: ∀(S:Nat->Bool),oM S T vars0=oM S T2 (if S r.x.i then Pe (oM S T1 vars0) r else oM S T1 vars0):=λS=>by rw[hT,Sa];rfl
 let S2:Nat->Bool:=λj=>S j||j==r.x.i
 have s2r:S2 r.x.i=true:=by simp [S2]
 have s2o: ∀i,i≠r.x.i->S2 i=S i:=λi hi=>by simp [S2,hi]
 have s21: ∀q∈T1,S q.x.i=S2 q.x.i:=λq hq=>(s2o _ (pA q hq).1).symm
 have s22: ∀q∈T2,S q.x.i=S2 q.x.i:=λq hq=>(s2o _ (Ne.symm (pB q hq).1)).symm
 have HSe:iB base S T hS=iB base S T2 (iB base S T1 hS):=by rw[split S];simp [fG,hns]
 have HS2e:iB base S2 T hS=iB base S T2 (fG base (λ_=>true) (iB base S T1 hS) r):=by
  rw[split S2,oZ T1 hS (S:=S2) (S':=S) (λq hq _=>(s21 q hq).symm),Hb (S:=S2) (S':=λ_=>true) (λ_=>by simp [s2r]),oZ T2 _ (S:=S2) (S':=S) (λq hq _=>(s22 q hq).symm)]
 have V2e:oM S2 T vars0=Pe (oM S T vars0) r:=by
  rw[splitV S2,splitV S];simp only[s2r,hns,if_true,Bool.false_eq_true,if_false];rw[rX T1 vars0 (λq hq=>(s21 q hq).symm),rX T2 _ (λq hq=>(s22 q hq).symm)];refine Lj hLr T2 _ hL2 (λq hq hsq k hk hrk=>?_);have:=hB q hq (Tg hrk hk);rw[hsq] at this;cases this
 have env: ∀k∈r.x.it.Uw,(oM S T vars0).getD k .undef=r.vars.getD k .undef:=by
  intro k hk;rw[splitV S,e1];simp only[hns,Bool.false_eq_true,if_false]
  have h1:(oM S T2 (oM S T1 vars0)).getD k .undef=(oM (λ_=>false) T2 (oM S T1 vars0)).getD k .undef:=
   tG T2 _ _ hL2 rfl rfl (λq hq hw=>hB q hq (Nr hw hk))
  rw[h1,Er];exact tG T1 _ _ hL1 rfl rfl (λq hq hw=>hA q hq (Oz hw hk))
 have envX: ∀x∈r.x.it.a.xs,xv (oM S T vars0) [] x=xv r.vars [] x:=λx hx=>Cf λk hk=>env k (by
  unfold It.Uw
  exact List.mem_append_left _ (List.mem_flatten.2 ⟨x.yK,jH.2 ⟨x,hx,rfl⟩,hk⟩))
 have envG:dZ (oM S T vars0) [] r.x.it.g=dZ r.vars [] r.x.it.g:=by
  cases hg:r.x.it.g with
  |none=>rfl
  |some xb=>
   obtain⟨x,b⟩:=xb;simp only[dZ];rw[Cf (x:=x) λk hk=>env k (by unfold It.Uw;rw[hg];exact List.mem_append_right _ hk)]
 have free0: ∀id,base<=id->hS.get id=none:=λid hid=>by
  rw[hSget]
  cases hg:h0.get id with
  |none=>rfl
  |some o=>
   obtain⟨q,hq,_⟩:=hr0.live id o hg;rw[hl0 id (by omega)] at hq;cases hq
 have L0: ∀q∈T2,q.x.al=true->(iB base S T1 hS).get (base+q.x.i)=none:=by
  intro q hq hal;refine Db T1 hS (free0 _ (by omega)) (λq2 hq2 hs2 hw2=>?_) (λq2 hq2 e=>pC q2 hq2 q hq (by omega));obtain⟨U1,U2,hU⟩:=List.append_of_mem hq2;exact hI.none U1 q2 (U2++r::T2) (by rw[hT,hU];simp) hs2 hw2 q (by simp [hq]) hal
 have affW:r.x.it.a.lH=true∨r.x.it.a.kT=true->iB base S T1 hS=r.hb:=by
  intro hw;rw[e2];refine oZ T1 hS (λq hq ha=>?_);refine hA q hq (yJ ?_ hw);simp only[Rec.Xm,Bool.or_eq_true,Bool.and_eq_true] at ha;rcases ha with h|h
  ·exact .inl h
  ·exact .inr ((alT q (inT1 q hq)).1▸h.1)
 have noWal:r.x.it.a.lH=true∨r.x.it.a.iJ=true-> ∀q∈T2,S q.x.i=true->q.x.it.a.lH=false:=by
  intro hw q hq hs
  cases hqw:q.x.it.a.lH with
  |false=>rfl
  |true=>have:=hB q hq (yJ hw (.inl hqw));rw[hs] at this;cases this
 have exRw: ∀q∈T,q.x.al=true->q.b=true-> ∀ob,q.ha.get (base+q.x.i)=some ob->ob.rw=true:=by
  intro q hq q2 q3 ob hg;obtain⟨U1,U2,hU⟩:=List.append_of_mem hq;have hC2:=hC;rw[hU] at hC2;obtain⟨_,_,⟨_,_,k3⟩,_⟩:=nL U1 (q::U2) _ _ _ _ _ (λy hy=>(alT y (by rw[hU];simp [hy])).1) hC2;simp only[q3,if_true,q2] at k3;obtain⟨_,ob2,_,_,k4,k5,_⟩:=zY ((alT q hq).1▸q2) k3;rw[k5] at hg;simp [H.fD,H.cJ] at hg;subst hg;exact k4
 obtain⟨w1,w2,w3⟩:=e3
 have hgw:=sB hI.st c3 (envG.trans w1)
 have dfp: ∀x,(a.put o.dst x).defers=ds:=λx=>by rw[←hI.df];cases o.dst<;>rfl
 have stN: ∀(m':M) (x:Value),Ext m m'->VR m' r.v x->St m' nt pv [] (oM S2 T vars0) [] (a.put o.dst x):=by
  intro m' x he hv;have:=(hI.st.mono he).put c2 hv;rw[V2e];have hp2:(iA r.x.it.d (oM S T vars0) [] r.v).2= []:=Pv hLr;rw[hp2] at this;exact this
 have freeN: ∀(m':M) (g g':Nat),(∀id q,m' id=some q->m id=some q∨(g<=id/\id<g'))->(base+n<=g∨(g=base+r.x.i/\g'=base+r.x.i+1))-> ∀q∈T,q.x.al=true->S2 q.x.i=false->m' (base+q.x.i)=none:=by
  intro m' g g' hf hg q hq hal hs;have hqr:q.x.i≠r.x.i:=λe=>by rw[e,s2r] at hs;cases hs
  rw[s2o _ hqr] at hs;have h1:=hI.free q hq hal hs;have h2:=ltT q hq
  cases hm:m' (base+q.x.i) with
  |none=>rfl
  |some z=>
   rcases hf _ _ hm with h3|h3
   ·rw[h1] at h3;cases h3
   ·omega
 have noneN:(r.x.it.a.lH=true-> ∀q∈T2,q.x.al=true->r.ha.get (base+q.x.i)=none)-> ∀U1 q U2,T=U1++q::U2->S2 q.x.i=true->q.x.it.a.lH=true-> ∀y∈U2,y.x.al=true->q.ha.get (base+y.x.i)=none:=by
  intro hr' U1 q U2 hU hs hw y hy hal
  by_cases hqr:q.x.i=r.x.i
  ·--the same item
   have nd: ∀(A B:List Rec) (x y:Rec) (C D:List Rec),A++x::B=C++y::D->x.x.i=y.x.i->(A++x::B).Pairwise (λu v=>u.x.i≠v.x.i)->x=y/\B=D:=by
    intro A
    induction A with
    |nil=>
     intro B x y C D he hi hp
     cases C with
     |nil=>simp at he;exact⟨he.1,he.2⟩
     |cons c C=>
      simp only[List.nil_append,List.cons_append,List.cons.injEq] at he;simp only[List.nil_append,List.pairwise_cons] at hp;exact absurd hi (hp.1 y (by rw[he.2];simp))
    |cons b A ih=>
     intro B x y C D he hi hp
     cases C with
     |nil=>
      simp only[List.nil_append,List.cons_append,List.cons.injEq] at he;simp only[List.cons_append,List.pairwise_cons] at hp;exact absurd (by rw[he.1,hi]) (hp.1 x (by simp))
     |cons c C=>
      simp only[List.cons_append,List.cons.injEq] at he;simp only[List.cons_append,List.pairwise_cons] at hp;exact ih B x y C D he.2 hi hp.2
   have hpw:(T1++r::T2).Pairwise (λu v=>u.x.i≠v.x.i):=by
    have h:=hP.pw;rw[List.pairwise_map,hT] at h;exact h.imp λhh=>hh.1
   obtain⟨h1,h2⟩:=nd T1 T2 r q U1 U2 (hT.symm.trans hU) hqr.symm hpw;subst h1;subst h2;exact hr' hw y hy hal
  ·rw[s2o _ hqr] at hs
   exact hI.none U1 q U2 hU hs hw y hy hal
 unfold wpOpIn
 simp only[ho]
 rw[hgw]
 cases hbb:r.b with
 |false=>
  simp only[hbb] at w3;obtain⟨hv,hha⟩:r.v= .undef/\r.ha=r.hb:=by simpa using w3
  simp only[Bool.false_eq_true,if_false];refine⟨λ_ _=>trivial,hK _ w m ?_⟩
  have hsame:iB base S2 T hS=iB base S T hS:=by
   rw[HS2e,HSe];congr 1
   by_cases hw:r.x.it.a.lH=true
   ·simp only[fG,if_true,hw];rw[hha,affW (.inl hw)]
   ·simp only[fG,hw,hbb];simp
  refine⟨stN m undef (Ext.refl m) (by rw[hv];exact VR.undef m),dfp _,by show eS P m0 h0 w0 m (iB base S2 T hS) w;rw[hsame];exact hI.Bl,by show base+n<=(iB base S2 T hS).next;rw[hsame];exact hI.nx,?_,?_⟩
  ·exact freeN m (base+n) (base+n) (λ_ _ h=> .inl h) (.inl (eP _))
  ·exact noneN (λhw q hq hal=>by rw[hha,←affW (.inl hw)];exact L0 q hq hal)
 |true=>
  simp only[hbb,if_true] at w3;simp only[if_true];have hlow:xS m (iB base S T hS).next:=hI.Bl.low hl0
  by_cases hw:r.x.it.a.lH=true
  ·--it turns the heap
   have hal:r.x.al=false:=by
    cases h9:r.x.al with
    |false=>rfl
    |true=>have:=Mo ((alT r inr).1▸h9);rw[hw] at this;cases this
   simp only[hal] at w3;have hact:gO cl yl r.vars [] r.hb r.x.it.a=some (r.v,r.ha):=by simpa using w3
   have hhb:=affW (.inl hw);have hnw:=noWal (.inl hw);obtain⟨nx1,get1,_⟩:=jT (base:=base) T2 (iB base S T1 hS) hnw;obtain⟨nx2,get2,_⟩:=jT (base:=base) T2 r.ha hnw;have exs: ∀id,Extra base S T2 id->(iB base S T1 hS).get id=none:=λid ⟨q,hq,_,hqa,_,e⟩=>e▸L0 q hq hqa
   have hsub: ∀id ob,r.hb.get id=some ob->(iB base S T hS).get id=some ob:=by
    intro id ob hg;rw[←hhb] at hg;rw[HSe]
    by_cases hx:Extra base S T2 id
    ·rw[exs id hx] at hg;cases hg
    ·rw[get1 id hx];exact hg
   have hnext:r.hb.next=(iB base S T hS).next:=by rw[HSe,nx1,hhb]
   have hH2:iB base S2 T hS=iB base S T2 r.ha:=by rw[HS2e];simp [fG,hw]
   rw[Dc (λx hx=>(envX x hx).symm)] at hact
   have c1:fP P pv [] o=some r.x.it.a:=by
    rcases c1 with c1|⟨g,args,_,e⟩
    ·exact c1
    ·rw[e] at hw;cases hw
   refine Qk hSc hYc c1 hI.st (hI.Bl.rel.sub hsub) (by rw[hnext];exact hlow) hact (λx w' m' hv hadv=>?_);refine hK _ w' m' ⟨stN m' x hadv.ext hv,dfp x,?_,?_,?_,?_⟩
   ·show eS P m0 h0 w0 m' (iB base S2 T hS) w'
    refine hI.Bl.frame hsub hadv (λid ob hg=>?_) (by have:=hI.nx;omega) (by rw[hH2,nx2];exact eP _) (by rw[hH2,nx2,←hnext];exact hadv.next);rw[hH2] at hg
    by_cases hx:Extra base S T2 id
    ·obtain⟨q,hq,q1,q2,q3,q4,q5⟩:=(jT (base:=base) T2 r.ha hnw).2.2 id hx
     rw[q5] at hg;exact .inr ⟨by rw[HSe,q5];exact hg,exRw q (inT2 q hq) q2 q3 ob (by rw[q4];exact hg),by rw[←hhb];exact exs id hx⟩
    ·rw[get2 id hx] at hg;exact .inl hg
   ·show base+n<=(iB base S2 T hS).next
    rw[hH2,nx2];have:=hadv.next;have:=hI.nx;omega
   ·exact freeN m' _ _ hadv.fresh (.inl (by rw[hnext];exact hI.nx))
   ·refine noneN (λ_ q hq hqa=>hadv.old _ ?_ ?_)
    ·rw[hnext]
     have:=hI.nx;have:=ltT q (inT2 q hq);omega
    ·rw[←hhb];exact L0 q hq hqa
  ·have hw':r.x.it.a.lH=false:=by simpa using hw
   cases hal:r.x.al with
   |true=>
    simp only[hal,if_true] at w3;have hisal:r.x.it.a.iJ=true:=(alT r inr).1▸hal;obtain⟨i,ob,hi,hial,hrw,hha,hall⟩:=zY hisal w3;have hnw:=noWal (.inr hisal);obtain⟨nx1,get1,_⟩:=jT (base:=base) T2 (iB base S T1 hS) hnw
    let g:H:={iB base S T hS with next:=base+r.x.i}
    have hev:=hall g rfl;have hmn:m (base+r.x.i)=none:=hI.free r inr hal hns
    have hc':fP P pv [] o=some (.op i):=by
     rcases c1 with c1|⟨g,args,_,e⟩
     ·exact hi▸c1
     ·rw[e] at hi;cases hi
    rw[tL (ρ':=xv (oM S T vars0) []) (λx hx=>(envX x (by rw[hi];exact hx)).symm)] at hev;have hgR:HR P m g w:=hI.Bl.rel.sub (λ_ _ h=>h);refine Al (jA hc') (vN hI.st hgR hmn hc' hev) (λx w' m' hv hadv=>?_)
    have hH2:(iB base S2 T hS).get=(g.new ob).get/\(iB base S2 T hS).next=(iB base S T hS).next:=by
     rw[HS2e]
     have hst1:fG base (λ_=>true) (iB base S T1 hS) r=(iB base S T1 hS).set (base+r.x.i) (some ob):=by
      simp only[fG,if_true,hw',Bool.false_eq_true,if_false,hal,hbb,Bool.and_self];rw[hha];simp [H.fD,H.cJ]
     rw[hst1];obtain⟨nx2,get2,ex2⟩:=jT (base:=base) T2 ((iB base S T1 hS).set (base+r.x.i) (some ob)) hnw;refine⟨funext λid=>?_,by rw[nx2,HSe,nx1];rfl⟩
     by_cases hx:Extra base S T2 id
     ·obtain⟨q,hq,q1,q2,q3,q4,q5⟩:=ex2 id hx
      have hne:id≠base+r.x.i:=λe=>(pB q hq).1 (by omega)
      have hgg:g.get id=(iB base S T hS).get id:=rfl;rw[q5,H.fW,if_neg (show id≠g.next from hne),hgg,HSe,q5]
     ·have hgg:g.get id=(iB base S T hS).get id:=rfl
      rw[get2 id hx,H.fD,H.fW,hgg,HSe,get1 id hx]
    refine hK _ w' m' ⟨stN m' x hadv.ext hv,dfp x,?_,?_,?_,?_⟩
    ·show eS P m0 h0 w0 m' (iB base S2 T hS) w'
     have:=hI.nx;have:=ltT r inr;exact hI.Bl.frame (g:=g) (g':=g.new ob) (λ_ _ h=>h) hadv (λid ob2 hg=> .inl (by rw[←hH2.1];exact hg)) (by show h0.next<=base+r.x.i;omega) (by rw[hH2.2];show base+r.x.i+1<=_;omega) (by rw[hH2.2];exact eP _)
    ·show base+n<=(iB base S2 T hS).next
     rw[hH2.2];exact hI.nx
    ·exact freeN m' _ _ hadv.fresh (.inr ⟨rfl,rfl⟩)
    ·exact noneN (λh=>by rw[hw'] at h;cases h)
   |false=>
    simp only[hal] at w3;have hact:gO cl yl r.vars [] r.hb r.x.it.a=some (r.v,r.ha):=by simpa using w3
    have hisal:r.x.it.a.iJ=false:=(alT r inr).1▸hal;obtain⟨hha,hcase⟩:=yF hw' hisal hact
    have hsame:iB base S2 T hS=iB base S T hS:=by
     rw[HS2e,HSe];congr 1;simp only[fG,if_true,hw',hal];simp
    rcases hcase with ⟨i,hi,hev,hpure⟩|⟨gp,argsp,hp⟩
    rotate_left
    ·--a call of numbers
     have hc':fP P pv [] o=some (.call gp argsp):=by
      rcases c1 with c1|⟨g,args,c1,e⟩
      ·rcases pD c1 (λi e=>by rw[hp] at e;cases e) with ⟨_,_,_,_,_,_,_,_,_,e2,_⟩|⟨c,x,_,_,h2⟩
       ·rw[hp] at e2;cases e2
       rcases h2 with ⟨g',args',_,e2,_⟩|⟨cx,args',e2,_⟩
       ·rw[hp] at e2;cases e2
       ·rw[hp] at e2;cases e2
      ·rw[hp] at e;cases e;exact c1
     rw[hp,gW,List.map_congr_left (λx hx=>(envX x (by rw[hp];exact hx)).symm)] at hact;refine Mf hSc hc' hI.st hact (λx w' hv hadv=>?_);refine hK _ w' m ⟨stN m x (Ext.refl m) hv,dfp x,?_,?_,?_,?_⟩
     ·show eS P m0 h0 w0 m (iB base S2 T hS) w'
      rw[hsame];exact hI.Bl.trans (hadv _ hI.Bl.rel)
     ·show base+n<=(iB base S2 T hS).next
      rw[hsame];exact hI.nx
     ·exact freeN m (base+n) (base+n) (λ_ _ h=> .inl h) (.inl (eP _))
     ·exact noneN (λh=>by rw[hw'] at h;cases h)
    have hc':fP P pv [] o=some (.op i):=by
     rcases c1 with c1|⟨g,args,_,e⟩
     ·exact hi▸c1
     ·rw[e] at hi;cases hi
    have ⟨g,hsub,hgx,hgn,hgv⟩: ∃g:H,(∀id ob,g.get id=some ob->(iB base S T hS).get id=some ob)/\(∀id ob,(iB base S T hS).get id=some ob->g.get id=some ob∨(ob.rw=true/\g.get id=none))/\
      g.next=(iB base S T hS).next/\cI (xv r.vars []) g i=some (r.v,g):=by
     cases hrd:i.kT with
     |false=>exact⟨iB base S T hS,λ_ _ h=>h,λ_ _ h=> .inl h,rfl,hpure hrd _⟩
     |true=>
      have hisrd:r.x.it.a.kT=true:=by rw[hi];exact hrd
      have last: ∀(U:List Rec),(∀q∈U,S q.x.i=true->q.x.it.a.lH=false)∨ ∃U1 q U2,U=U1++q::U2/\S q.x.i=true/\q.x.it.a.lH=true/\ ∀y∈U2,S y.x.i=true->y.x.it.a.lH=false:=by
       intro U
       induction U with
       |nil=>exact .inl λq hq=>by cases hq
       |cons q U ih=>
        rcases ih with ih|⟨U1,y,U2,k1,k2,k3,k4⟩
        ·by_cases hq:S q.x.i=true/\q.x.it.a.lH=true
         ·exact .inr ⟨[],q,U,rfl,hq.1,hq.2,ih⟩
         ·refine .inl λy hy hs=>?_
          rcases List.mem_cons.1 hy with rfl|hy
          ·cases h9:y.x.it.a.lH with
           |false=>rfl
           |true=>exact absurd ⟨hs,h9⟩ hq
          ·exact ih y hy hs
        ·exact .inr ⟨q::U1,y,U2,by simp [k1],k2,k3,k4⟩
      rcases last T2 with hnw|⟨U1,q,U2,hU,hsq,hqw,hnw⟩
      ·have hhb:=affW (.inr hisrd)
       obtain⟨nx1,get1,_⟩:=jT (base:=base) T2 (iB base S T1 hS) hnw;refine⟨r.hb,λid ob hg=>?_,λid ob hg=>?_,by rw[HSe,nx1,hhb],by rw[hha] at hev;exact hev⟩
       ·rw[←hhb] at hg
        rw[HSe]
        by_cases hx:Extra base S T2 id
        ·obtain⟨y,hy,_,hya,_,e⟩:=hx
         rw[←e,L0 y hy hya] at hg;cases hg
        ·rw[get1 id hx];exact hg
       ·rw[HSe] at hg
        by_cases hx:Extra base S T2 id
        ·obtain⟨y,hy,y1,y2,y3,y4,y5⟩:=(jT (base:=base) T2 (iB base S T1 hS) hnw).2.2 id hx
         rw[y5] at hg;exact .inr ⟨exRw y (inT2 y hy) y2 y3 ob (by rw[y4];exact hg),by rw[←hhb,←y4];exact L0 y hy y2⟩
        ·rw[get1 id hx,hhb] at hg;exact .inl hg
      ·have hTq:T=(T1++r::U1)++q::U2:=by rw[hT,hU];simp
       have hHSq:iB base S T hS=iB base S U2 q.ha:=by
        rw[hTq,Gv];simp only[iB,List.foldl_cons];congr 1;simp [fG,hsq,hqw]
       obtain⟨nx1,get1,_⟩:=jT (base:=base) U2 q.ha hnw;have inU2: ∀y∈U2,y∈T:=λy hy=>by rw[hTq];simp [hy]
       refine⟨q.ha,λid ob hg=>?_,λid ob hg=>?_,by rw[hHSq,nx1],?_⟩
       ·rw[hHSq]
        by_cases hx:Extra base S U2 id
        ·obtain⟨y,hy,_,hya,_,e⟩:=hx
         rw[←e,hI.none _ q U2 hTq hsq hqw y hy hya] at hg;cases hg
        ·rw[get1 id hx];exact hg
       ·rw[hHSq] at hg
        by_cases hx:Extra base S U2 id
        ·obtain⟨y,hy,y1,y2,y3,y4,y5⟩:=(jT (base:=base) U2 q.ha hnw).2.2 id hx
         rw[y5] at hg;exact .inr ⟨exRw y (inU2 y hy) y2 y3 ob (by rw[y4];exact hg),by rw[←y4];exact hI.none _ q U2 hTq hsq hqw y hy y2⟩
        ·rw[get1 id hx] at hg;exact .inl hg
       ·--it has been read again behind q
        have hqT2:q∈T2:=by rw[hU];simp
        rcases (pB q hqT2).2.2 hisrd hqw with hanc|hck
        ·have:=hanc S hd (hd _ hsq);rw[hns] at this;cases this
        ·have hC2:=hC
         rw[hTq] at hC2;obtain⟨_,_,⟨_,k2,_⟩,_⟩:=nL (T1++r::U1) (q::U2) _ _ _ _ _ (λy hy=>(alT y (by rw[hTq];exact List.mem_append_left _ hy)).1) hC2
         have hmem:(r.x.i,i.close (xv r.vars []),r.v)∈Cy (T1++r::U1) []:=by
          have:Cy (T1++r::U1) []=Cy U1 (rI r (Cy T1 [])):=by simp [Cy]
          rw[this];refine Cc U1 _ ?_;simp only[rI,hbb,if_true,uF,hi,hrd];exact List.mem_cons_self ..
         obtain⟨h9,k9⟩:=Gh k2 hmem hck;rw[Im hrd] at k9;have:=Mg hrd k9;rw[this] at k9;exact k9
    rw[tL (ρ':=xv (oM S T vars0) []) (λx hx=>(envX x (by rw[hi];exact hx)).symm)] at hgv;refine Al (jA hc') (vN hI.st (hI.Bl.rel.sub hsub) (by rw[hgn];exact hlow.fresh) hc' hgv) (λx w' m' hv hadv=>?_);refine hK _ w' m' ⟨stN m' x hadv.ext hv,dfp x,?_,?_,?_,?_⟩
    ·show eS P m0 h0 w0 m' (iB base S2 T hS) w'
     rw[hsame];refine hI.Bl.frame hsub hadv (λid ob hg=>?_) (by have:=hI.nx;omega) (by omega) (eP _);rcases hgx id ob hg with h1|⟨h1,h2⟩
     ·exact .inl h1
     ·exact .inr ⟨hg,h1,h2⟩
    ·show base+n<=(iB base S2 T hS).next
     rw[hsame];exact hI.nx
    ·exact freeN m' _ _ hadv.fresh (.inl (by rw[hgn];exact hI.nx))
    ·exact noneN (λh=>by rw[hw'] at h;cases h)
end
end
end Go.Ay
