/- One operation of a region whose order is drawn, whichever comes up. -/
import Derived.Test.YtcdbmkidaecdiaaGreatAy14
import Derived.OrdersIn
namespace Go.Ay
open Go
section
variable {p q:AI} {k:Nat}
def Down (dep:Nat->List Nat)(S:Nat->Bool):Prop:= ∀j,S j=true-> ∀d∈dep j,S d=true
def NV (dep:Nat->List Nat)(a b:Nat):Prop:= ∀S:Nat->Bool,Down dep S->(∀d∈dep b,S d=true)->S a=true
structure DB (dep:Nat->List Nat)(n:Nat)(xs:List AI):Prop where
 pw:xs.Pairwise λa b=>a.i≠b.i/\(En a b=true->NV dep a.i b.i)/\(a.it.a.sJ=true->b.it.a.uB=true->NV dep a.i b.i∨b.cks.contains a.i=true)
 al: ∀x∈xs,x.al=x.it.a.Ki/\x.it.Em=false
 lt: ∀x∈xs,x.i<n
 cover: ∀i,i<n-> ∃x∈xs,x.i=i
 ord: ∀l1 x l2,xs=l1++x::l2-> ∀d∈dep x.i,∃y∈l1,y.i=d
structure Inv (P:Program)(base n:Nat)(T:List Rec)(vars0:List V)(hS:H)(nt:Nat)(pv:List Nat)(m0:M)(h0:H)(w0:World)(ds:List Deferred)(S:Nat->Bool)(m:M)(a:Act)(w:World):Prop where
 st:St m nt pv [] (zE S T vars0) [] a
 df:a.defers=ds
 Yp:iO P m0 h0 w0 m (lZ base S T hS) w
 nx:base+n<=(lZ base S T hS).next
 free: ∀r∈T,r.x.al=true->S r.x.i=false->m (base+r.x.i)=none
 none: ∀T1 q T2,T=T1++q::T2->S q.x.i=true->q.x.it.a.uB=true-> ∀r∈T2,r.x.al=true->q.ha.get (base+r.x.i)=none
section
variable {P:Program} {cl yl:dP} {base n:Nat} {T:List Rec} {vars0:List V} {hS:H} {nt:Nat} {pv:List Nat} {m0:M} {h0:H} {w0:World} {ds:List Deferred}
 {S:Nat->Bool} {m:M} {a:Act} {w:World} {dep:Nat->List Nat} {ops:Array Oper}
theorem Yu {vs us:List V}{x:X}(h: ∀k∈x.Rl,vs.getD k .undef=us.getD k .undef):xv vs [] x=xv us [] x:=by
 cases x with
 |v k=>exact h k (by simp [X.Rl])
 |l k=>rfl
 |c v=>rfl
theorem adD (j:DB dep n (T.map (·.x))){c d:List Rec}{r:Rec}(l:T=c++r::d):
  (∀q∈c,q.x.i≠r.x.i/\(En q.x r.x=true->NV dep q.x.i r.x.i)/\(q.x.it.a.sJ=true->r.x.it.a.uB=true->NV dep q.x.i r.x.i∨r.x.cks.contains q.x.i=true))/\
  (∀q∈d,r.x.i≠q.x.i/\(En r.x q.x=true->NV dep r.x.i q.x.i)/\(r.x.it.a.sJ=true->q.x.it.a.uB=true->NV dep r.x.i q.x.i∨q.x.cks.contains r.x.i=true))/\
  (∀q∈c,∀q2∈d,q.x.i≠q2.x.i):=by
 have h:=j.pw
 rw[List.pairwise_map,l,List.pairwise_append,List.pairwise_cons] at h
 exact⟨λq b=>h.2.2 q b r (Ab ..),λq b=>h.2.1.1 q b,λq b q2 f=>(h.2.2 q b q2 (Cu _ f)).1⟩
theorem OT (b:p.it.wr=some k)(h2:k∈q.it.rds):En p q=true:=by
 simp [En,b,h2]
theorem SF (b:q.it.wr=some k)(h2:k∈p.it.rds):En p q=true:=by
 simp [En,b,h2]
theorem ZZ (b:p.it.wr=some k)(h2:q.it.wr=some k):En p q=true:=by
 simp [En,b,h2]
theorem Rg (b:p.it.a.uB=true∨p.it.a.Ki=true)(h2:q.it.a.uB=true∨q.it.a.sJ=true):En p q=true:=by
 unfold En;simp only[Bool.or_eq_true,vN];exact .inr ⟨b,h2⟩
theorem OH {it:It}{vs:List V}{v:V}(h:it.Em=false):(lX it.d vs [] v).2= []:=by
 unfold It.Em at h;unfold lX
 cases hd:it.d with
 |l=>simp [hd] at h
 |v k=>rfl
 |n=>rfl
theorem BI: ∀(T:List Rec) (z:List V),zE (λ_=>false) T z=z
 | [],_=>rfl
 |q::t,z=>by simpa [zE] using BI t z
theorem Yt {e:Nat×I×V}: ∀(T:List Rec) (log:Log),e∈log->e∈Yk T log
 | [],_,h=>h
 |r::T,log,h=>by
  refine Yt T _ ?_;simp only[Hs];split
  ·unfold Kz
   split
   ·split
    ·exact Cu _ h
    ·exact h
   ·exact h
  ·exact h
theorem CA {cks:List Nat}{b:Log}{h:H}(d:rI cks b h=true){i:Nat}{I:I}{v:V}(f:(i,I,v)∈b)(l:cks.contains i=true):
  ∃h',cI (xv [] []) h I=some (v,h'):=by
 have:=Kv.1 d _ f
 simp only[l,Bool.not_true,Bool.false_or] at this
 split at this
 ·rename_i o c j
  exact⟨c,by rw[j,Io _ _ this]⟩
 ·cases this
set_option maxHeartbeats 1000000 in
theorem aeI (h7:Dd P cl)(i5:Ao P yl){e8:List V}{h':H}(hC:Qq cl yl base T vars0 [] hS e8 h')(hP:DB dep n (T.map (·.x)))
  (hb:base=h0.next) (f7:hS.get=h0.get) (g1:Qk m0 h0.next) (j4:HR P m0 h0 w0)
  {J F:List Rec} {r:Rec} (hT:T=J++r::F) (hd:Down dep S) (g9: ∀d∈dep r.x.i,S d=true) (c0:S r.x.i=false)
  {o:Oper} (ho:ops[r.x.i]? =some o) (c1: ∃a0,jO P pv [] o=some a0/\(r.x.it.a=a0∨r.x.it.a=a0.pu)) (c2:Dst nt pv [] o.dst r.x.it.d [])
  (c3:match o.guard with
   |none=>r.x.it.g=none
   |some (j,b)=> ∃t x,(ops[j]?).bind (·.dst)=some t/\fU pv [] (.tmp t)=some x/\r.x.it.g=some (x,b))
  (L:Inv P base n T vars0 hS nt pv m0 h0 w0 ds S m a w) {rr:Option Nat} {Q:Exit->Act->World->Prop} {K:Act->World->Prop}
  (hK: ∀a' w' m',Inv P base n T vars0 hS nt pv m0 h0 w0 ds (λj=>S j||j==r.x.i) m' a' w'->K a' w'):wpOpIn (Wf rr) 0 P ops Q r.x.i K a w:=by
 obtain⟨pA,pB,pC⟩:=adD hP hT
 have c1:jO P pv [] o=some r.x.it.a∨ ∃g Z,jO P pv [] o=some (.call g Z)/\r.x.it.a= .callp g Z:=by
  obtain⟨a0,h1,h2⟩:=c1;rcases h2 with h2|h2
  ·exact .inl (h2▸h1)
  ·cases a0 with
   |call g Z=>exact .inr ⟨g,Z,h1,h2⟩
   |_=>exact .inl (h2▸h1)
 have hA: ∀q∈J,En q.x r.x=true->S q.x.i=true:=λq f hc=>(pA q f).2.1 hc S hd g9
 have hB: ∀q∈F,En r.x q.x=true->S q.x.i=false:=λq f hc=>by
  cases hs:S q.x.i with
  |false=>rfl
  |true=>have:=(pB q f).2.1 hc S hd (hd _ hs);rw[c0] at this;cases this
 have a5: ∀q∈T,q.x.al=q.x.it.a.Ki/\q.x.it.Em=false:=λq f=>hP.al q.x (uF.2 ⟨q,f,rfl⟩)
 have e9: ∀q∈T,q.x.i<n:=λq f=>hP.lt q.x (uF.2 ⟨q,f,rfl⟩)
 have c8: ∀q∈J,q∈T:=λq f=>by rw[hT];simp [f]
 have b7: ∀q∈F,q∈T:=λq f=>by rw[hT];simp [f]
 have inr:r∈T:=by rw[hT];simp
 have i4: ∀q∈J,q.x.it.Em=false:=λq f=>(a5 q (c8 q f)).2
 have g0: ∀q∈F,q.x.it.Em=false:=λq f=>(a5 q (b7 q f)).2
 have g7:r.x.it.Em=false:=(a5 r inr).2
 have g4:=hC
 rw[hT] at g4
 obtain⟨e1,e2,e3,_⟩:=wG J (r::F) _ _ _ _ _ (λq f=>(a5 q (c8 q f)).1) g4
 have split: ∀(S:Nat->Bool),lZ base S T hS=lZ base S F (iP base S (lZ base S J hS) r):=λS=>by rw[hT,ER];rfl
 have b0: ∀(S:Nat->Bool),zE S T vars0=zE S F (if S r.x.i then NA (zE S J vars0) r else zE S J vars0):=λS=>by rw[hT,YO];rfl
 let O:Nat->Bool:=λj=>S j||j==r.x.i
 have f1:O r.x.i=true:=by simp [O]
 have e0: ∀i,i≠r.x.i->O i=S i:=λi hi=>by simp [O,hi]
 have h8: ∀q∈J,S q.x.i=O q.x.i:=λq f=>(e0 _ (pA q f).1).symm
 have g6: ∀q∈F,S q.x.i=O q.x.i:=λq f=>(e0 _ (Ne.symm (pB q f).1)).symm
 have a4:lZ base S T hS=lZ base S F (lZ base S J hS):=by rw[split S];simp [iP,c0]
 have b5:lZ base O T hS=lZ base S F (iP base (λ_=>true) (lZ base S J hS) r):=by
  rw[split O,zX J hS (S:=O) (S':=S) (λq f _=>(h8 q f).symm),amA (S:=O) (S':=λ_=>true) (λ_=>by simp [f1]),zX F _ (S:=O) (S':=S) (λq f _=>(g6 q f).symm)]
 have i8:zE O T vars0=NA (zE S T vars0) r:=by
  rw[b0 O,b0 S];simp only[f1,c0,if_true,Bool.false_eq_true,if_false];rw[Gk J vars0 (λq f=>(h8 q f).symm),Gk F _ (λq f=>(g6 q f).symm)];refine SO g7 F _ g0 (λq f c7 k hk i3=>?_);have:=hB q f (ZZ i3 hk);rw[c7] at this;cases this
 have i0: ∀k∈r.x.it.rds,(zE S T vars0).getD k .undef=r.vars.getD k .undef:=by
  intro k hk;rw[b0 S,e1];simp only[c0,Bool.false_eq_true,if_false]
  have h1:(zE S F (zE S J vars0)).getD k .undef=(zE (λ_=>false) F (zE S J vars0)).getD k .undef:=
   Ig F _ _ g0 rfl rfl (λq f hw=>hB q f (SF hw hk))
  rw[h1,BI];exact Ig J _ _ i4 rfl rfl (λq f hw=>hA q f (OT hw hk))
 have b6: ∀x∈r.x.it.a.xs,xv (zE S T vars0) [] x=xv r.vars [] x:=λx N=>Yu λk hk=>i0 k (by
  unfold It.rds
  exact List.mem_append_left _ (List.mem_flatten.2 ⟨x.Rl,uF.2 ⟨x,N,rfl⟩,hk⟩))
 have f9:vQ (zE S T vars0) [] r.x.it.g=vQ r.vars [] r.x.it.g:=by
  cases s:r.x.it.g with
  |none=>rfl
  |some xb=>
   obtain⟨x,b⟩:=xb;simp only[vQ];rw[Yu (x:=x) λk hk=>i0 k (by unfold It.rds;rw[s];exact List.mem_append_right _ hk)]
 have f3: ∀id,base<=id->hS.get id=none:=λid j9=>by
  rw[f7]
  cases s:h0.get id with
  |none=>rfl
  |some o=>
   obtain⟨q,f,_⟩:=j4.live id o s;rw[g1 id om] at f;cases f
 have L0: ∀q∈F,q.x.al=true->(lZ base S J hS).get (base+q.x.i)=none:=by
  intro q f G;refine Xq J hS (f3 _ om) (λq2 e5 i7 i6=>?_) (λq2 e5 e=>pC q2 e5 q f om);obtain⟨U1,U2,hU⟩:=List.append_of_mem e5;exact L.none U1 q2 (U2++r::F) (by rw[hT,hU];simp) i7 i6 q (by simp [f]) G
 have b8:r.x.it.a.uB=true∨r.x.it.a.sJ=true->lZ base S J hS=r.hb:=by
  intro hw;rw[e2];refine zX J hS (λq f ha=>?_);refine hA q f (Rg ?_ hw);simp only[Rec.aff,Bool.or_eq_true,vN] at ha;rcases ha with h|h
  ·exact .inl h
  ·exact .inr ((a5 q (c8 q f)).1▸h.1)
 have d5:r.x.it.a.uB=true∨r.x.it.a.Ki=true-> ∀q∈F,S q.x.i=true->q.x.it.a.uB=false:=by
  intro hw q f hs
  cases c5:q.x.it.a.uB with
  |false=>rfl
  |true=>have:=hB q f (Rg hw (.inl c5));rw[hs] at this;cases this
 have d4: ∀q∈T,q.x.al=true->q.b=true-> ∀Y,q.ha.get (base+q.x.i)=some Y->Y.rw=true:=by
  intro q f q2 q3 Y s;obtain⟨U1,U2,hU⟩:=List.append_of_mem f;have d1:=hC;rw[hU] at d1;obtain⟨_,_,⟨_,_,k3⟩,_⟩:=wG U1 (q::U2) _ _ _ _ _ (λy hy=>(a5 y (by rw[hU];simp [hy])).1) d1;simp only[q3,if_true,q2] at k3;obtain⟨_,j1,_,_,k4,k5,_⟩:=Vk ((a5 q f).1▸q2) k3;rw[k5] at s;simp [H.jB,H.bY] at s;subst s;exact k4
 obtain⟨w1,w2,w3⟩:=e3
 have j2:=Hp L.st c3 (f9.trans w1)
 have c9: ∀x,(a.put o.dst x).defers=ds:=λx=>by rw[←L.df];cases o.dst<;>rfl
 have d7: ∀(m':M) (x:Value),Ext m m'->VR m' r.v x->St m' nt pv [] (zE O T vars0) [] (a.put o.dst x):=by
  intro m' x he hv;have:=(L.st.mono he).put c2 hv;rw[i8];have j7:(lX r.x.it.d (zE S T vars0) [] r.v).2= []:=OH g7;rw[j7] at this;exact this
 have a3: ∀(m':M) (g g':Nat),(∀id q,m' id=some q->m id=some q∨(g<=id/\id<g'))->(base+n<=g∨(g=base+r.x.i/\g'=base+r.x.i+1))-> ∀q∈T,q.x.al=true->O q.x.i=false->m' (base+q.x.i)=none:=by
  intro m' g g' hf s q f G hs;have d9:q.x.i≠r.x.i:=λe=>by rw[e,f1] at hs;cases hs
  rw[e0 _ d9] at hs;have h1:=L.free q f G hs;have h2:=e9 q f
  cases hm:m' (base+q.x.i) with
  |none=>rfl
  |some z=>
   rcases hf _ _ hm with h3|h3
   ·rw[h1] at h3;cases h3
   ·omega
 have a2:(r.x.it.a.uB=true-> ∀q∈F,q.x.al=true->r.ha.get (base+q.x.i)=none)-> ∀U1 q U2,T=U1++q::U2->O q.x.i=true->q.x.it.a.uB=true-> ∀y∈U2,y.x.al=true->q.ha.get (base+y.x.i)=none:=by
  intro j3 U1 q U2 hU hs hw y hy G
  by_cases d9:q.x.i=r.x.i
  ·--the same item
   have nd: ∀(A B:List Rec) (x y:Rec) (C D:List Rec),A++x::B=C++y::D->x.x.i=y.x.i->(A++x::B).Pairwise (λu v=>u.x.i≠v.x.i)->x=y/\B=D:=by
    intro A
    induction A with
    |nil=>
     intro B x y C D he hi hp
     cases C with
     |nil=>simp at he;exact⟨he.1,he.2⟩
     |cons c C=>
      simp only[List.nil_append,List.cons_append,List.cons.injEq] at he;simp only[List.nil_append,List.pairwise_cons] at hp;exact absurd hi (hp.1 y (by rw[he.2];simp))
    |cons b A ih=>
     intro B x y C D he hi hp
     cases C with
     |nil=>
      simp only[List.nil_append,List.cons_append,List.cons.injEq] at he;simp only[List.cons_append,List.pairwise_cons] at hp;exact absurd (by rw[he.1,hi]) (hp.1 x (by simp))
     |cons c C=>
      simp only[List.cons_append,List.cons.injEq] at he;simp only[List.cons_append,List.pairwise_cons] at hp;exact ih B x y C D he.2 hi hp.2
   have i2:(J++r::F).Pairwise (λu v=>u.x.i≠v.x.i):=by
    have h:=hP.pw;rw[List.pairwise_map,hT] at h;exact h.imp λhh=>hh.1
   obtain⟨h1,h2⟩:=nd J F r q U1 U2 (hT.symm.trans hU) d9.symm i2;subst h1;subst h2;exact j3 hw y hy G
  ·rw[e0 _ d9] at hs
   exact L.none U1 q U2 hU hs hw y hy G
 unfold wpOpIn
 simp only[ho]
 rw[j2]
 cases hbb:r.b with
 |false=>
  simp only[hbb] at w3;obtain⟨hv,b9⟩:r.v= .undef/\r.ha=r.hb:=by simpa using w3
  simp only[Bool.false_eq_true,if_false];refine⟨λ_ _=>trivial,hK _ w m ?_⟩
  have R:lZ base O T hS=lZ base S T hS:=by
   rw[b5,a4];congr 1
   by_cases hw:r.x.it.a.uB=true
   ·simp only[iP,if_true,hw];rw[b9,b8 (.inl hw)]
   ·simp only[iP,hw,hbb];simp
  refine⟨d7 m undef (Ext.refl m) (by rw[hv];exact VR.undef m),c9 _,by show iO P m0 h0 w0 m (lZ base O T hS) w;rw[R];exact L.Yp,by show base+n<=(lZ base O T hS).next;rw[R];exact L.nx,?_,?_⟩
  ·exact a3 m (base+n) (base+n) (λ_ _ h=> .inl h) (.inl (fM _))
  ·exact a2 (λhw q f G=>by rw[b9,←b8 (.inl hw)];exact L0 q f G)
 |true=>
  simp only[hbb,if_true] at w3;simp only[if_true];have e4:Qk m (lZ base S T hS).next:=L.Yp.low g1
  by_cases hw:r.x.it.a.uB=true
  ·--it turns the heap
   have G:r.x.al=false:=by
    cases h9:r.x.al with
    |false=>rfl
    |true=>have:=TU ((a5 r inr).1▸h9);rw[hw] at this;cases this
   simp only[G] at w3;have a6:Lh cl yl r.vars [] r.hb r.x.it.a=some (r.v,r.ha):=by simpa using w3
   have a9:=b8 (.inl hw);have a1:=d5 (.inl hw);obtain⟨b3,W,_⟩:=qN (base:=base) F (lZ base S J hS) a1;obtain⟨d8,d3,_⟩:=qN (base:=base) F r.ha a1;have g3: ∀id,Extra base S F id->(lZ base S J hS).get id=none:=λid ⟨q,f,_,f4,_,e⟩=>e▸L0 q f f4
   have b2: ∀id Y,r.hb.get id=some Y->(lZ base S T hS).get id=some Y:=by
    intro id Y s;rw[←a9] at s;rw[a4]
    by_cases N:Extra base S F id
    ·rw[g3 id N] at s;cases s
    ·rw[W id N];exact s
   have a8:r.hb.next=(lZ base S T hS).next:=by rw[a4,b3,a9]
   have b1:lZ base O T hS=lZ base S F r.ha:=by rw[b5];simp [iP,hw]
   rw[Zj (λx N=>(b6 x N).symm)] at a6
   have c1:jO P pv [] o=some r.x.it.a:=by
    rcases c1 with c1|⟨g,Z,_,e⟩
    ·exact c1
    ·rw[e] at hw;cases hw
   refine PQ h7 i5 c1 L.st (L.Yp.rel.sub b2) (by rw[a8];exact e4) a6 (λx w' m' hv l=>?_);refine hK _ w' m' ⟨d7 m' x l.ext hv,c9 x,?_,?_,?_,?_⟩
   ·show iO P m0 h0 w0 m' (lZ base O T hS) w'
    refine L.Yp.frame b2 l (λid Y s=>?_) (by have:=L.nx;omega) (by rw[b1,d8];exact fM _) (by rw[b1,d8,←a8];exact l.next);rw[b1] at s
    by_cases N:Extra base S F id
    ·obtain⟨q,f,q1,q2,q3,q4,q5⟩:=(qN (base:=base) F r.ha a1).2.2 id N
     rw[q5] at s;exact .inr ⟨by rw[a4,q5];exact s,d4 q (b7 q f) q2 q3 Y (by rw[q4];exact s),by rw[←a9];exact g3 id N⟩
    ·rw[d3 id N] at s;exact .inl s
   ·show base+n<=(lZ base O T hS).next
    rw[b1,d8];have:=l.next;have:=L.nx;omega
   ·exact a3 m' _ _ l.fresh (.inl (by rw[a8];exact L.nx))
   ·refine a2 (λ_ q f f4=>l.old _ ?_ ?_)
    ·rw[a8]
     have:=L.nx;have:=e9 q (b7 q f);omega
    ·rw[←a9];exact L0 q f f4
  ·have c6:r.x.it.a.uB=false:=by simpa using hw
   cases G:r.x.al with
   |true=>
    simp only[G,if_true] at w3;have a7:r.x.it.a.Ki=true:=(a5 r inr).1▸G;obtain⟨i,Y,hi,j8,k0,b9,g2⟩:=Vk a7 w3;have a1:=d5 (.inr a7);obtain⟨b3,W,_⟩:=qN (base:=base) F (lZ base S J hS) a1
    let g:H:={lZ base S T hS with next:=base+r.x.i}
    have d2:=g2 g rfl;have i1:m (base+r.x.i)=none:=L.free r inr G c0
    have b4:jO P pv [] o=some (.op i):=by
     rcases c1 with c1|⟨g,Z,_,e⟩
     ·exact hi▸c1
     ·rw[e] at hi;cases hi
    rw[Ir (ρ':=xv (zE S T vars0) []) (λx N=>(b6 x (by rw[hi];exact N)).symm)] at d2;have j5:HR P m g w:=L.Yp.rel.sub (λ_ _ h=>h);refine Un (oH b4) (Mh L.st j5 i1 b4 d2) (λx w' m' hv l=>?_)
    have b1:(lZ base O T hS).get=(g.new Y).get/\(lZ base O T hS).next=(lZ base S T hS).next:=by
     rw[b5]
     have h4:iP base (λ_=>true) (lZ base S J hS) r=(lZ base S J hS).set (base+r.x.i) (some Y):=by
      simp only[iP,if_true,c6,Bool.false_eq_true,if_false,G,hbb,Bool.and_self];rw[b9];simp [H.jB,H.bY]
     rw[h4];obtain⟨d8,d3,j0⟩:=qN (base:=base) F ((lZ base S J hS).set (base+r.x.i) (some Y)) a1;refine⟨funext λid=>?_,by rw[d8,a4,b3];rfl⟩
     by_cases N:Extra base S F id
     ·obtain⟨q,f,q1,q2,q3,q4,q5⟩:=j0 id N
      have i9:id≠base+r.x.i:=λe=>(pB q f).1 om
      have f5:g.get id=(lZ base S T hS).get id:=rfl;rw[q5,H.kF,bI (show id≠g.next from i9),f5,a4,q5]
     ·have f5:g.get id=(lZ base S T hS).get id:=rfl
      rw[d3 id N,H.jB,H.kF,f5,a4,W id N]
    refine hK _ w' m' ⟨d7 m' x l.ext hv,c9 x,?_,?_,?_,?_⟩
    ·show iO P m0 h0 w0 m' (lZ base O T hS) w'
     have:=L.nx;have:=e9 r inr;exact L.Yp.frame (g:=g) (g':=g.new Y) (λ_ _ h=>h) l (λid j1 s=> .inl (by rw[←b1.1];exact s)) (by show h0.next<=base+r.x.i;omega) (by rw[b1.2];show base+r.x.i+1<=_;omega) (by rw[b1.2];exact fM _)
    ·show base+n<=(lZ base O T hS).next
     rw[b1.2];exact L.nx
    ·exact a3 m' _ _ l.fresh (.inr ⟨rfl,rfl⟩)
    ·exact a2 (λh=>by rw[c6] at h;cases h)
   |false=>
    simp only[G] at w3;have a6:Lh cl yl r.vars [] r.hb r.x.it.a=some (r.v,r.ha):=by simpa using w3
    have a7:r.x.it.a.Ki=false:=(a5 r inr).1▸G;obtain⟨b9,e7⟩:=Rq c6 a7 a6
    have R:lZ base O T hS=lZ base S T hS:=by
     rw[b5,a4];congr 1;simp only[iP,if_true,c6,G];simp
    rcases e7 with ⟨i,hi,d2,f2⟩|⟨gp,f6,hp⟩
    rotate_left
    ·--a call of numbers
     have b4:jO P pv [] o=some (.call gp f6):=by
      rcases c1 with c1|⟨g,Z,c1,e⟩
      ·rcases Bo c1 (λi e=>by rw[hp] at e;cases e) with ⟨_,_,_,_,_,_,_,_,_,e2,_⟩|⟨c,x,_,_,h2⟩
       ·rw[hp] at e2;cases e2
       rcases h2 with ⟨g',e6,_,e2,_⟩|⟨cx,e6,e2,_⟩
       ·rw[hp] at e2;cases e2
       ·rw[hp] at e2;cases e2
      ·rw[hp] at e;cases e;exact c1
     rw[hp,mB,Vy (λx N=>(b6 x (by rw[hp];exact N)).symm)] at a6;refine QE h7 b4 L.st a6 (λx w' hv l=>?_);refine hK _ w' m ⟨d7 m x (Ext.refl m) hv,c9 x,?_,?_,?_,?_⟩
     ·show iO P m0 h0 w0 m (lZ base O T hS) w'
      rw[R];exact L.Yp.trans (l _ L.Yp.rel)
     ·show base+n<=(lZ base O T hS).next
      rw[R];exact L.nx
     ·exact a3 m (base+n) (base+n) (λ_ _ h=> .inl h) (.inl (fM _))
     ·exact a2 (λh=>by rw[c6] at h;cases h)
    have b4:jO P pv [] o=some (.op i):=by
     rcases c1 with c1|⟨g,Z,_,e⟩
     ·exact hi▸c1
     ·rw[e] at hi;cases hi
    have ⟨g,b2,hgx,hgn,hgv⟩: ∃g:H,(∀id Y,g.get id=some Y->(lZ base S T hS).get id=some Y)/\(∀id Y,(lZ base S T hS).get id=some Y->g.get id=some Y∨(Y.rw=true/\g.get id=none))/\
      g.next=(lZ base S T hS).next/\cI (xv r.vars []) g i=some (r.v,g):=by
     cases hrd:i.sJ with
     |false=>exact⟨lZ base S T hS,λ_ _ h=>h,λ_ _ h=> .inl h,rfl,f2 hrd _⟩
     |true=>
      have d0:r.x.it.a.sJ=true:=by rw[hi];exact hrd
      have g5: ∀(U:List Rec),(∀q∈U,S q.x.i=true->q.x.it.a.uB=false)∨ ∃U1 q U2,U=U1++q::U2/\S q.x.i=true/\q.x.it.a.uB=true/\ ∀y∈U2,S y.x.i=true->y.x.it.a.uB=false:=by
       intro U
       induction U with
       |nil=>exact .inl λq f=>by cases f
       |cons q U ih=>
        rcases ih with ih|⟨U1,y,U2,k1,k2,k3,k4⟩
        ·by_cases f:S q.x.i=true/\q.x.it.a.uB=true
         ·exact .inr ⟨[],q,U,rfl,f.1,f.2,ih⟩
         ·refine .inl λy hy hs=>?_
          rcases zH.1 hy with rfl|hy
          ·cases h9:y.x.it.a.uB with
           |false=>rfl
           |true=>exact absurd ⟨hs,h9⟩ f
          ·exact ih y hy hs
        ·exact .inr ⟨q::U1,y,U2,by simp [k1],k2,k3,k4⟩
      rcases g5 F with a1|⟨U1,q,U2,hU,c7,c5,a1⟩
      ·have a9:=b8 (.inr d0)
       obtain⟨b3,W,_⟩:=qN (base:=base) F (lZ base S J hS) a1;refine⟨r.hb,λid Y s=>?_,λid Y s=>?_,by rw[a4,b3,a9],by rw[b9] at d2;exact d2⟩
       ·rw[←a9] at s
        rw[a4]
        by_cases N:Extra base S F id
        ·obtain⟨y,hy,_,f0,_,e⟩:=N
         rw[←e,L0 y hy f0] at s;cases s
        ·rw[W id N];exact s
       ·rw[a4] at s
        by_cases N:Extra base S F id
        ·obtain⟨y,hy,y1,y2,y3,y4,y5⟩:=(qN (base:=base) F (lZ base S J hS) a1).2.2 id N
         rw[y5] at s;exact .inr ⟨d4 y (b7 y hy) y2 y3 Y (by rw[y4];exact s),by rw[←a9,←y4];exact L0 y hy y2⟩
        ·rw[W id N,a9] at s;exact .inl s
      ·have c4:T=(J++r::U1)++q::U2:=by rw[hT,hU];simp
       have d6:lZ base S T hS=lZ base S U2 q.ha:=by
        rw[c4,ER];simp only[lZ,List.foldl_cons];congr 1;simp [iP,c7,c5]
       obtain⟨b3,W,_⟩:=qN (base:=base) U2 q.ha a1;have h6: ∀y∈U2,y∈T:=λy hy=>by rw[c4];simp [hy]
       refine⟨q.ha,λid Y s=>?_,λid Y s=>?_,by rw[d6,b3],?_⟩
       ·rw[d6]
        by_cases N:Extra base S U2 id
        ·obtain⟨y,hy,_,f0,_,e⟩:=N
         rw[←e,L.none _ q U2 c4 c7 c5 y hy f0] at s;cases s
        ·rw[W id N];exact s
       ·rw[d6] at s
        by_cases N:Extra base S U2 id
        ·obtain⟨y,hy,y1,y2,y3,y4,y5⟩:=(qN (base:=base) U2 q.ha a1).2.2 id N
         rw[y5] at s;exact .inr ⟨d4 y (h6 y hy) y2 y3 Y (by rw[y4];exact s),by rw[←y4];exact L.none _ q U2 c4 c7 c5 y hy y2⟩
        ·rw[W id N] at s;exact .inl s
       ·--it has been read again behind q
        have f8:q∈F:=by rw[hU];simp
        rcases (pB q f8).2.2 d0 c5 with g8|j6
        ·have:=g8 S hd (hd _ c7);rw[c0] at this;cases this
        ·have d1:=hC
         rw[c4] at d1;obtain⟨_,_,⟨_,k2,_⟩,_⟩:=wG (J++r::U1) (q::U2) _ _ _ _ _ (λy hy=>(a5 y (by rw[c4];exact List.mem_append_left _ hy)).1) d1
         have h5:(r.x.i,i.close (xv r.vars []),r.v)∈Yk (J++r::U1) []:=by
          have:Yk (J++r::U1) []=Yk U1 (Hs r (Yk J [])):=by simp [Yk]
          rw[this];refine Yt U1 _ ?_;simp only[Hs,hbb,if_true,Kz,hi,hrd];exact Ab ..
         obtain⟨h9,k9⟩:=CA k2 h5 j6;rw[IG hrd] at k9;have:=RN hrd k9;rw[this] at k9;exact k9
    rw[Ir (ρ':=xv (zE S T vars0) []) (λx N=>(b6 x (by rw[hi];exact N)).symm)] at hgv;refine Un (oH b4) (Mh L.st (L.Yp.rel.sub b2) (by rw[hgn];exact e4.fresh) b4 hgv) (λx w' m' hv l=>?_);refine hK _ w' m' ⟨d7 m' x l.ext hv,c9 x,?_,?_,?_,?_⟩
    ·show iO P m0 h0 w0 m' (lZ base O T hS) w'
     rw[R];refine L.Yp.frame b2 l (λid Y s=>?_) (by have:=L.nx;omega) om (fM _);rcases hgx id Y s with h1|⟨h1,h2⟩
     ·exact .inl h1
     ·exact .inr ⟨s,h1,h2⟩
    ·show base+n<=(lZ base O T hS).next
     rw[R];exact L.nx
    ·exact a3 m' _ _ l.fresh (.inl (by rw[hgn];exact L.nx))
    ·exact a2 (λh=>by rw[c6] at h;cases h)
end
end
end Go.Ay
