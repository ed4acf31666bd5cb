/- Texts of the claim. -/
import Derived.Test.YtcdbmkidaecdiaaGreatU12toU49
import Derived.Test.YtcdbmkidaecdiaaGreatP6ktoP9g
set_option maxHeartbeats 64000000
namespace Go.Proofs.YtcdbmkidaecdiaaGreat
open Go Go.Ay Go.Pm
set_option maxRecDepth 100000
def RS (W:Nat->Prop)(n:Nat)(L:LN)(h:H)(p:V×V)(r:List Nat):Prop:= ∃O R,GC W h (.agg [aC n,p.1,p.2]) n O R (RG L r)
theorem RS.go {W W':Nat->Prop}{n:Nat}{L:LN}{h h':H}{p:V×V}{r:List Nat}(g:RS W n L h p r)(f:Fx W h h')(a: ∀q,q<h.next->W' q->W q):RS W' n L h' p r:=by
 obtain⟨O,R,g⟩:=g;exact⟨O,R,g.go f a⟩
structure WkJ (n:Nat)(L:LN)(Q:Nat)(h0 hh:H)(fd:LN):Prop where
 g8:hh.get (Q+1)=aY [.ptr Q 0]
 ex: ∃vf,hh.get Q=aY [vf]/\NmL (λq=>q<Q+2) n L (Q+2) hh vf fd
 fr:Fr h0 hh
 nx:Q+2<=hh.next
 len:fd.length<=6000
theorem XL {n:Nat}{G:List Nat->Prop}{L:LN}{r:List Nat}: ∀(K:List Nat) (l:LN),(K.foldl (λl i=>if i∈r then l else Po l (Ls n G L r i)) l).length<=l.length+K.length
 | [],l=>eH _
 |k::K,l=>by
  rw[List.foldl_cons,List.length_cons];refine lX (XL K _) ?_;split
  ·omega
  ·unfold Po
   split
   ·omega
   ·rw[iA];show l.length+1+_<=_;omega
theorem Vc {α:Type}[Inhabited α](l:List (List α))(f:List α->Bool):nE (λi=>f (l.getD i [])) l=l.filter λa=>!f a:=by
 have b: ∀i,i<=l.length->nE (λi=>f (l.getD i [])) (l.take i)=(l.take i).filter λa=>!f a:=by
  intro i
  induction i with
  |zero=>exact λ_=>rfl
  |succ i ih=>
   intro hi;rw[pX om,ih om,List.take_succ_eq_append_getElem om,List.filter_append,List.getD,dF om,Option.getD_some];cases h:f l[i]<;>simp [h]
 have:=b l.length (eH _);rwa [List.take_length] at this
def Yd (h:H):V->Option (V×H)
 | .nilm=>some (aC 0,h)
 | .mp id=>match h.get id with|some (.map es)=>some (aC es.length,h)|some (.wmap _ es)=>some (aC es.length,h)|_=>none
 |_=>none
theorem Yx (ρ:X->V)(h:H)(x:X):cK ρ h (.lenm x)=Yd h (ρ x):=by
 simp only[cK,Yd]
 rfl
theorem SW {h:H}{M:Nat}{L:LN}(g:h.get M=some (.wmap .str (Is L L.length))):Yd h (.mp M)=some (aC (L.length:Int),h):=by
 show (match h.get M with|some (.map es)=>some (aC es.length,h)|some (.wmap _ es)=>some (aC es.length,h)|_=>none)=_;rw[g];simp [Is]
theorem OY {W0:Nat->Prop}(vc:V)(n:Nat)(O:LN)(R:fM)(G:List Nat->Prop)(h:H)(gc:GC W0 h vc n O R G):
  Ev T 12 [vc] h (λv h'=> ∃vl ls L K rs,v= .tup [vl,aC 0]/\dG O R n 0 (bT n)=L/\Cn n G L K/\Na n G L K rs/\SV h' vl 3 (Kk n ls)/\aM (RS (λ_=>False) n L h') ls rs/\Fr h h'):=by
 obtain⟨vO,vR,rfl,e9,i4⟩:=gc.shape
 refine cT zO rfl ?_
 obtain⟨A,hA⟩:=exI h.next
 obtain⟨h1,e1,n1,g1,q1,f1⟩:=cU hA [aC n,vO,vR]
 simp(disch:=omega)only[go_sem,zO,aD,aQ h (v:= aC n) (u:=vO) (w:=vR) rfl e9 i4,hA,e1,aG g1]
 refine (acU _ n O R G h1 (gc.mono f1)).mono ?_
 rintro _ J ⟨T0,L,K,rfl,Il,f2⟩
 obtain⟨ll,E,hG,m9,n0,n7⟩:=Il.few
 have ik:=Il.isK
 have eL:=Il.hL
 have F2:=f1.trans f2
 simp(disch:=omega)only[go_sem]
 refine bA (λhc=>(hc rfl).elim) (λ_=>?_)
 simp(disch:=omega)only[go_sem]
 refine (aaO T0 n O R G L K J Il).mono ?_
 rintro _ h3 ⟨p0,rfl,c1,f3⟩
 obtain⟨o1,o2,o3⟩:=c1.one
 obtain⟨y,g3⟩:=exI h3.next
 obtain⟨h4,e4,n4,g4,q4,f4⟩:=cU g3 [aC 0,.aE,.aE,.aE]
 obtain⟨h5,e5,n5,g5,q5⟩:=mD h4 y (Ik n p0)
 obtain⟨h6,e6,n6,g6,q6,f6⟩:=cU (h:=h5) (n5.trans n4) [aC n,p0.1,p0.2.1]
 have g0: ∀{t:H} {id:Nat} {a b c d:V},t.get id=aY [a,b,c,d]->t.row id 0 3=some [a,b,c]:=λhg=>by simp [H.row,hg,sub]
 simp(disch:=omega)only[go_sem,g3,e4,kZ h4 y 0 (a:= aC n) (b:=p0.1) (c:=p0.2.1) (d:=p0.2.2) rfl o1 o2 o3,g4,kA,e5,g0 g5,Mi h5 (d:=(n:Int)) o1 o2,n5,n4,e6]
 have m2:=f3.next
 have i8:Fr J h6:=⟨om,λq hq=>by rw[q6 q om,q5 q om,q4 q om,f3.get q hq]⟩
 have f0:h6.get y=aY (Ik n p0):=by rw[q6 _ om];exact g5
 have k4:Fr h3 h6:=⟨om,λq hq=>by rw[q6 q om,q5 q om,q4 q om]⟩
 have w0: ∀q,q<h3.next->(q=y∨dD (.sl (y+1) 0 1 (.kn 1)) q)->q<J.next:=λq h1 J=>by
  rcases J with e|⟨_,_,_,e⟩
  ·omega
  ·cases e;omega
 have c8:Nm (λq=>q=y∨dD (.sl (y+1) 0 1 (.kn 1)) q) n L h6 p0 (Xj L λx=>x=bT n):=(c1.go (Fx.refl _ _) w0).mono k4
 obtain⟨K',m0⟩: ∃x,K=x:=⟨_,rfl⟩
 refine aI (λk' N t=> ∃(r:List Nat) (p:V×V×V) (vl:V) (ls:List (V×V)) (rs:LN),(∃g:Nat->V,N= [g 0,g 1,g 2,g 3,.ptr T0 0,g 5,.ptr y 0,vl,g 8,g 9,g 10,g 11,g 12,g 13,g 14,g 15,g 16,g 17])/\t.get y=aY (Ik n p)/\Nm (λq=>q=y∨dD vl q) n L t p r/\cQ t vl 3 (Kk n ls) (y+1)/\aM (RS (λq=>q=y∨dD vl q) n L t) ls rs/\Qr n G L K rs r/\Fr J t/\y<t.next/\k'=L.length-r.length) (L.length-(Xj L λx=>x=bT n).length)
  ⟨_,p0,_, [(p0.1,p0.2.1)], [Xj L λx=>x=bT n],aB rfl,f0,c8,.inr ⟨y+1,1,_, [],rfl,rfl,.inr ⟨rfl,rfl⟩,om,om,g6⟩,⟨c8.ch,trivial⟩,Qr.start hG E,i8,om,rfl⟩ ?_
 clear c8 w0 f0 g6 q6 q5 g5 g4 q4 c1
 rintro k' N t ⟨r,p,vl,ls,rs,⟨g,rfl⟩,g6,nm,ow,al,cb,F,i9,rfl⟩
 have kr:Ix n G L r:=cb.all r (EV cb.la)
 obtain⟨lO,lR,M,lr,gT,gM,_,e3,nM⟩:=(Il.mono F).ex
 have lv:=nm.si.lens
 rw[aN] at lv
 have lm: ∀k,Yd (H.mk t.tr k) (.mp M)=some (aC (L.length:Int),H.mk t.tr k):=λk=>SW gM
 by_cases h0:(r.length:Int)<(L.length:Int)
 case neg=>
  have d1:=bE h0;simp(disch:=omega)only[go_sem,H.aF g6,H.aF gT,lv,Yx,lm,d1];have fb:Fr t (H.mk t.tr (t.next+9)):=(Fr.refl t).bH om;exact⟨vl,ls,L,K,rs,rfl,eL,ik,⟨r,cb,by have:=kr.rk.short;omega⟩,ow.sv.mono fb,aM.mono (λ_ _ x=>RS.go x (Fx.of fb) λ_ _ h=>h.elim) al,F2.trans (F.trans fb)⟩
 have d1:=bN h0
 have hr:r.length<L.length:=om
 obtain⟨hx,a2⟩: ∃x,H.mk t.tr (t.next+9)=x:=⟨_,rfl⟩
 have fx:Fr t hx:=by rw[←a2];exact (Fr.refl t).bH om
 have nx:hx.next=t.next+9:=by rw[←a2]
 obtain⟨Q,hQ⟩:=exI hx.next
 obtain⟨ha,ea,na,ga,qa,fa⟩:=cU hQ [.aE]
 obtain⟨hb,eb,nb,gb,qb,fb⟩:=cU na [.nilp]
 obtain⟨hI,eI,nI,gI,qI⟩:=mD hb (Q+1) [.ptr Q 0]
 have bx:En hx (.agg [.aE])=some (.ptr Q 0,ha):=by rw[←ea,←hQ];rfl
 have pt: ∀(t:H) (id:Nat) (u w:V),dR (aY [u]) t id 0 [w]=some (t.set id (aY [w])):=λt id u w=>bP (by simp) t _ _
 have fI:Fr t hI:=⟨om,λq hq=>by rw[qI q om,qb q om,qa q om,fx.get q hq]⟩
 have FI:=F.trans fI
 have j6:=(Il.mono F).nx
 have d6: ∀h',Fr t h'->h'.get T0=aY [aC n,lO,lR,.mp M,lr]:=λh' f=>by rw[f.get T0 j6];exact gT
 have a8: ∀h',Fr t h'->h'.get y=aY (Ik n p):=λh' f=>by rw[f.get y i9];exact g6
 have kl:K.length<=L.length:=by
  have:=List.Nodup.length_le_of_subset (l₂:=List.range L.length) ik.nd λx hx=>Lk.2 (ik.lt hx)
  rwa [YI] at this
 have d7:=e3.lens
 simp only[iN] at d7
 have i6:Yd hx (.mp M)=some (aC (L.length:Int),hx):=by rw[←a2];exact lm _
 simp(disch:=omega)only[go_sem,a2,H.aF (a8 hx fx),H.aF (d6 hx fx),lv,Yx,i6,d1,show rK [.aE] []=some (.agg [.aE]) from rfl,a2,bx,na,eb,kL (show (V.ptr Q 0).cells= [V.ptr Q 0] from rfl) rfl,gb,pt,eI,H.aF (d6 hI fI),d7]
 obtain⟨fs,a0⟩: ∃f:LN->Nat->LN,(λl i=>if i∈r then l else Po l (Ls n G L r i))=f:=⟨_,rfl⟩
 have j0: ∀i,i<=K.length->((K.take i).foldl fs []).length<=i:=λi hi=>by
  have:=XL (n:=n) (G:=G) (L:=L) (r:=r) (K.take i) [];rw[a0,Cq,Nat.min_eq_left hi] at this;simpa using this
 refine bQ (λvs h'=>(∃g:Nat->V,vs= [g 0,g 1,g 2,g 3,.ptr T0 0,g 5,.ptr y 0,vl,.ptr (Q+1) 0,g 9,g 10,g 11,g 12,g 13,g 14,g 15,g 16,g 17])/\WkJ n L Q t h' (fdF n G L r K)) ?_ ?_
 ·refine aI (λk' N h'=> ∃(i:Nat),(∃g:Nat->V,N= [g 0,g 1,g 2,g 3,.ptr T0 0,g 5,.ptr y 0,vl,.ptr (Q+1) 0,g 9,g 10,g 11,g 12,lr,aC (K.length:Int),aC i,g 16,g 17])/\i<=K.length/\WkJ n L Q t h' ((K.take i).foldl fs [])/\k'=K.length-i) K.length
   ⟨0,aB rfl,fR _,⟨gI,⟨.aE,by rw[qI _ om,qb _ om];exact ga, [],cQ.aE _ _ _,trivial,λ_ _ _ _ e=>by cases e⟩,fI,om,by show 0<=6000;omega⟩,rfl⟩ ?_
  rintro k' N h7 ⟨i,⟨g,rfl⟩,hi,W,rfl⟩
  by_cases i2:(i:Int)<(K.length:Int)
  case neg=>
   have d2:=bE i2;obtain rfl:i=K.length:=om
   rw[List.take_length,←a0] at W;simp(disch:=omega)only[go_sem,d2];exact⟨aB rfl,W⟩
  have d2:=bN i2
  have a4:i<K.length:=om
  have F7:=W.fr
  obtain⟨id,z,ws,sh,g9,i7,hc,e0⟩:=e3.open
  simp only[iN] at sh g9 i7 hc
  have ci:h7.cell id (z+i)=some (ws.getD i .undef):=by rw[F7.cell (g9 om),hc i a4]
  have s0:=(Ae e0 (i:=i) (by rw[iN];exact a4)).mono F7
  have eK:(K.map λr=>L.getD r []).getD i []=L.getD K[i] []:=by rw[List.getD,Wy,dF a4];rfl
  rw[eK] at s0
  have c6:=ik.lt (Bu a4)
  generalize ws.getD i .undef=vx at ci s0
  have step:(K.take (i+1)).foldl fs []=fs ((K.take i).foldl fs []) K[i]:=by rw[List.take_succ_eq_append_getElem a4,List.foldl_append,List.foldl_cons,List.foldl_nil]
  have a3:=j0 (i+1) om
  rw[step] at a3
  obtain⟨B,b1⟩:=exI ((K.take i).foldl fs [])
  rw[b1] at W step a3
  obtain⟨k,hk⟩:=exI (K[i])
  rw[hk] at s0 c6 step a3
  simp(disch:=omega)only[go_sem,d2,sh.ixa,ci,iI (a8 h7 F7)]
  refine (ZD T0 p vx n O R G L K r k h7 (Il.mono (F.trans F7)) (nm.mono F7) c6 s0).mono ?_
  rintro _ h8 ⟨rfl,Z⟩
  have W8:WkJ n L Q t h8 B:=by
   obtain⟨vf,gQ,ml⟩:=W.ex;have:=W.nx;have:=Z.next;exact⟨by rw[Z.get _ om];exact W.g8,⟨vf,by rw[Z.get _ om];exact gQ,ml.mono Z⟩,F7.trans Z,om,W.len⟩
  by_cases b0:k∈r
  ·have d3:=bN b0
   rw[←a0] at step
   simp only[bJ b0] at step
   simp(disch:=omega)only[go_sem,d3,Bool.not_true]
   rw[dU i]
   exact⟨K.length-(i+1),om,i+1,aB rfl,om,by rw[←a0,step];exact W8,rfl⟩
  ·have d3:=bE b0
   rw[←a0] at step a3
   simp only[bL b0] at step a3
   have F8:=W8.fr
   have a7: ∀m,h8.next<=m->Fr h8 (H.mk h8.tr m):=λm hm=>(Fr.refl h8).bH hm
   simp(disch:=omega)only[go_sem,d3,Bool.not_false,H.aF W8.g8,iI (a8 h8 F8)]
   refine (RB T0 p vx n O R G L K r k _ (Il.mono (F.trans (F8.trans (a7 _ om)))) (nm.mono (F8.trans (a7 _ om))) c6 (s0.mono (Z.trans (a7 _ om)))).mono ?_
   rintro _ h9 ⟨q,rfl,nq,f9⟩
   have a5:=(a7 _ om).trans f9
   have F9:=F8.trans a5
   obtain⟨vf,k2,ml⟩:=W8.ex
   have n8:=W8.nx
   have n9:=a5.next
   have d5:h9.get (Q+1)=aY [.ptr Q 0]:=by rw[a5.get _ om];exact W8.g8
   have k5:h9.get Q=aY [vf]:=by rw[a5.get _ om];exact k2
   have c7: ∀s,dD vf s->s<h8.next:=λs ⟨z,m,c,e⟩=>by
    obtain⟨ps,o,_⟩:=ml.ex;exact (o.in _ _ _ _ e).1
   have j1:Nm (λq=>q<Q+2∨dD vf q) n L h9 q (Ls n G L r k):=nq.go (Fx.refl _ _) λs _ h=>by
    rcases h with h|h
    ·show s<h8.next+6
     omega
    ·have:=c7 s h
     show s<h8.next+6;omega
   have eQ:dB (.ptr Q 0) (.ptr Q 0)=true:=by simp [dB]
   have g7: ∀s,dD vf s->Q+2<=s:=λs ⟨z,m,c,e⟩=>by
    obtain⟨ps,o,_⟩:=ml.ex;exact (o.in _ _ _ _ e).2.1
   simp(disch:=omega)only[go_sem,H.aF d5,eQ]
   refine (abO n L (Q+2) Q vf B q _ h9 (ml.mono a5) om j1 k5 om (λh=>by have:=g7 Q h;omega) (by show Q<Q+2;omega) ll (by have:=W8.len;omega)).mono ?_
   rintro _ U ⟨rfl,j5,l3,l1,c0,_⟩
   have j7:=c0.next
   have nh:=F9.next
   simp(disch:=omega)only[go_sem]
   rw[dU i]
   have e7: ∀s,s≠Q->s<Q+2->U.get s=h9.get s:=λs h1 J=>c0.get s om λh=>h.elim (λh=>h1 h) λh=>by have:=g7 _ h;omega
   have k8:WkJ n L Q t U (Po B (Ls n G L r k)):=⟨by rw[e7 _ om om];exact d5,⟨j5,l3,l1⟩,⟨om,λs hq=>by rw[e7 s om om];exact F9.get s hq⟩,om,om⟩
   exact⟨K.length-(i+1),om,i+1,aB rfl,om,by rw[←a0,step];exact k8,rfl⟩
 rintro N h7 ⟨⟨g,rfl⟩,W⟩
 obtain⟨vf,d9,ml⟩:=W.ex
 obtain⟨ps,c4,c5,_⟩:=ml.ex
 have F7:=W.fr
 have n2:=W.nx
 have c2:=aeP hG E kr ik hr
 obtain⟨B,b1⟩:=exI (fdF n G L r K)
 rw[b1] at W ml c5 c2
 have m3:=aM.length c5
 have l7:0<B.length:=List.length_pos_iff.2 c2
 have fl:=W.len
 simp(disch:=omega)only[go_sem,H.aF W.g8,H.aF d9]
 refine (KU vf (zK n ps) ps.length h7 (oF n ps) om om c4.sv).mono ?_
 rintro _ h8 ⟨b4,k6,f5,rfl,i3,l5,i1,l0,Z⟩
 simp(disch:=omega)only[go_sem]
 have c7: ∀s,dD vf s->s<h7.next:=λs ⟨z,m,c,e⟩=>(c4.in _ _ _ _ e).1
 have c9:aM (Nm (λq=>q<Q+2∨q=b4) n L h8) ps B:=aM.mono (λ_ _ x=>Nm.go x (Fx.of Z) λs h1 J=>J.imp id λe=>om) c5
 refine (adX b4 ps.length k6 f5 53 [.ptr (Q+1) 0] n ps (λi=>Zk B (B.getD i [])) h8 i1 l0 i3 rfl om om (λs hq=>?_) λi hi h' a6=>?_).mono ?_
 ·obtain⟨i,hi,rfl⟩:=wV.1 hq
  exact (aM.get c9 i hi om).one
 ·have n8:=Z.next
  have n':=a6.next
  have i0:aM (Nm (λq=>q<Q+2) n L h') ps B:=aM.mono (λ_ _ x=>Nm.go x (Fx.wide a6 λs h=> .inr h) λs _ h=> .inl h) c9
  have mi:=aM.get i0 i hi om
  rw[List.getD,dF om,Option.getD_some]
  refine ahJ n (Q+1) Q vf ps B ll om ?_ om ?_ om (SV.fx (c4.sv.mono Z) (W:=λq=>q=b4) ?_ a6) i0 mi
  ·rw[a6.get _ om om,Z.get _ om];exact W.g8
  ·rw[a6.get _ om om,Z.get _ om];exact d9
  ·cases vf with
   |sl q z m c=>exact λ(e:q=b4)=>by have:=c7 q ⟨z,m,c,rfl⟩;omega
   |_=>trivial
 rintro vk h9 ⟨d8,d4⟩
 have n8:=Z.next
 have n9:=d4.next
 have Y:=EW (P:=λi=>Zk B (B.getD i [])) (aM.mono (λ_ _ x=>Nm.go (W':=λq=>q<Q+2) x (Fx.wide d4 λs h=> .inr h) λs _ h=> .inl h) c9)
 have ek:nE (λi=>Zk B (B.getD i [])) B=UJ B:=Vc B _
 rw[ek] at Y
 have j8:=List.length_pos_iff.2 (SL c2)
 have m6:(UJ B).length<=B.length:=List.length_filter_le _ _
 obtain⟨pk,j2⟩:=exI (nE (λi=>Zk B (B.getD i [])) ps)
 rw[j2] at d8 Y
 simp(disch:=omega)only[go_sem]
 refine (abE n vk pk (UJ B) ll om j8 d8 Y).mono ?_
 rintro _ U ⟨⟨j,hj,rfl,k7⟩,d0⟩
 have j7:=d0.next
 have Fm:Fr t U:=⟨by have:=F7.next;omega,λs hq=>by
  have:=F7.next;rw[d0.get s om,d4.get s om om,Z.get s om]
  exact F7.get s hq⟩
 have j9:YF (UJ B)=Ql n G L K r:=by rw[←b1];rfl
 have mj:=(aM.get Y j hj (by have:=aM.length Y;omega)).mono d0
 have ej:(UJ B)[j]'(by have:=aM.length Y;omega)=Ql n G L K r:=by rw[←j9,←k7,List.getD,dF (by have:=aM.length Y;omega)];rfl
 rw[ej] at mj
 generalize pk[j]=pn at mj
 obtain⟨o1,o2,o3⟩:=mj.one
 have g2:=a8 U Fm
 obtain⟨b2,k9,m5,i5,c3⟩:=mD U y (Ik n pn)
 obtain⟨C,hC⟩:=exI b2.next
 obtain⟨b3,k1,m7,k0,a1,m4⟩:=cU hC [aC n,pn.1,pn.2.1]
 have n3:=Fm.next
 have a9: ∀s,dD vl s->y+1<=s/\s<t.next:=λs ⟨z,m,c,e⟩=>by
  have:=ow.in _ _ _ _ e;omega
 have j4: ∀s,dD vl s->s≠y:=λs hb=>by have:=a9 s hb;omega
 have m1:=aM.length al
 have m8:=cb.len
 have l8:=kr.rk.short
 have l4: ∀s,s<b2.next->b3.get s=b2.get s:=λs h=>a1 s om
 have l6:Fx (· =y) U b3:=⟨om,λs h1 J=>by rw[a1 s om,c3 s J]⟩
 have e8:cQ b3 vl 3 (Kk n ls) (y+1):=ow.zI om λid z m c e h=>by
  have:=a9 id ⟨z,m,c,e⟩;rw[a1 _ om,c3 _ om];exact Fm.get id h
 obtain⟨b6,j3,b5⟩:=(e8.le (fR _)).push (bytes:=56) (SV.all (sz:=3) (len:=1) (vs:= [aC n,pn.1,pn.2.1]) rfl om k0 (.kn 1)) (n:=ls.length) (m:=1) (iS n ls) rfl om om om
 have o4:=b5.next
 simp(disch:=omega)only[go_sem,kZ U y 0 (a:= aC n) (b:=pn.1) (c:=pn.2.1) (d:=pn.2.2) rfl o1 o2 o3,g2,kA,k9,g0 i5,Mi b2 (d:=(n:Int)) o1 o2,hC,k1,j3]
 have nF:=F.next
 have ap: ∀s,¬dD vl s->cZ vl s:=λs h id z m c e e2=>h (by rw[e,e2];exact⟨_,_,_,rfl⟩)
 have b7:Fx (λq=>q=y∨dD vl q) U b6:=⟨om,λs h1 J=>by rw[b5.old s om (ap s λh=>J (.inr h)),a1 s om,c3 s λh=>J (.inl h)]⟩
 have b8:Fx (λq=>q=y∨dD vl q) t b6:=⟨om,λs h1 J=>by rw[b7.get s om J];exact Fm.get s h1⟩
 have k3:Fr J b6:=⟨om,λs hq=>by rw[b8.get s om λh=>h.elim (λh=>om) λh=>by have:=a9 s h;omega];exact F.get s hq⟩
 have b9:Nm (λq=>q=y∨dD (.sl b3.next 0 (ls.length+1) (.un 3)) q) n L b6 pn (Ql n G L K r):=mj.go (Fx.wide b7 λs h=>h.elim (λh=>(by omega:s<Q+2)) λh=>(by have:=a9 s h;omega:s<Q+2)) λs h1 J=>J.elim (λh=>(by omega:s<Q+2)) λ⟨z,m,c,e⟩=>by cases e;omega
 obtain⟨st1,l2,l9,_⟩:=Hv hG E kr ik hr
 have o0:=l2.rk.short
 have f7:=b5.own (b:=y+1) (iS n ls) rfl om
 refine⟨L.length-(Ql n G L K r).length,om,Ql n G L K r,pn,_,ls++ [(pn.1,pn.2.1)],rs++ [Ql n G L K r],aB rfl,?_,b9,by rw[Um];exact f7,aM.append (aM.mono (λ_ _ x=>RS.go x b8 λs h1 J=>J.imp id λ⟨z,m,c,e⟩=>by cases e;omega) al) ⟨b9.ch,trivial⟩,cb.push hG E ik hr,k3,om,rfl⟩
 rw[b5.old y om (ap y λh=>j4 y h rfl),a1 y om]
 exact i5
def vT (n:Nat):List Nat:=if n>9 then vT (n/10)++ [48+n%10] else [48+n]
theorem Xk (n:Nat):(vT n).length<=n+1:=by
 induction n using Nat.strongRecOn with
 |_ n ih=>
  unfold vT;split
  ·have:=ih (n/10) om
   rw[iA];show _+1<=_;omega
  ·show 1<=_
   omega
def afP (h:H):V->Option (V×H)
 | .int _ n=>if 0<=n/\n<128 then some (.str [n.toNat],h) else none
 |_=>none
theorem GO (ρ:X->V)(h:H)(x:X):cK ρ h (.cir x)=afP h (ρ x):=by
 simp only[cK,afP]
 rfl
def acF (h:H)(x y:V):Option (V×H):=match x,y with
 | .str a,.str b=>if a.length+b.length<2^62 then some (.str (a++b),h) else none
 |_,_=>none
theorem HK (ρ:X->V)(h:H)(x y:X):cK ρ h (.sad x y)=acF h (ρ x) (ρ y):=by
 simp only[cK,acF]
 rfl
theorem HZ {k:Nat}(a:k<10)(h:H):afP h (.int .i32 (IntKind.i32.wrap ((48+k:Nat):Int)))=some (.str [48+k],h):=by
 have: ∀k,k<10->IntKind.i32.wrap ((48+k:Nat):Int)=((48+k:Nat):Int):=by decide
 rw[this k a];show (if _ then _ else none)=_;rw[bJ ⟨om,om⟩,OM]
theorem XJ (h:H){a b:List Nat}(c:a.length+b.length<10000000):acF h (.str a) (.str b)=some (.str (a++b),h):=by
 show (if _ then _ else none)=_;rw[bJ om]
theorem adR (n:Nat): ∀(h:H),n<1000000->Ev T 66 [aC n] h (λv h'=>v= .str (vT n)/\Fr h h'):=by
 induction n using Nat.strongRecOn with
 |_ n ih=>
  intro h m;refine cT pH rfl ?_
  by_cases f:(9:Int)<(n:Int)
  ·have d:=bN f
   have j:Int.tdiv (n:Int) 10=((n/10:Nat):Int):=rfl;have i:Int.tmod (n:Int) 10=((n%10:Nat):Int):=rfl;simp(disch:=omega)only[go_sem,pH,aD,d,j];refine (ih (n/10) om h om).mono ?_;rintro _ g ⟨rfl,k⟩;have e:(48:Int)+((n%10:Nat):Int)=((48+n%10:Nat):Int):=om
   have l:=Xk (n/10)
   have c:vT n=vT (n/10)++ [48+n%10]:=by
                               conv=>lhs;unfold vT
                               rw[bJ om]
   simp(disch:=omega)only[go_sem,i,e,GO,HZ (Nat.mod_lt n (by omega:10>0)),HK,XJ g (a:=vT (n/10)) (b:= [48+n%10]) (by show _+1<_;omega),c];exact k
  ·have d:=bE f
   have e:(48:Int)+(n:Int)=((48+n:Nat):Int):=om
   have c:vT n= [48+n]:=by unfold vT;rw[bL om]
   simp(disch:=omega)only[go_sem,pH,aD,d,e,GO,HZ (show n<10 by omega),c];exact Fr.refl _
abbrev Iz (x:Nat×List Nat):List V:= [aC (x.1:Int),.str x.2]
def Cj (l:List (Nat×List Nat)):List V:=l.flatMap Iz
theorem Ft (l:List (Nat×List Nat)):(Cj l).length=l.length*2:=uY (k:=2) (f:=Iz) (λ_=>rfl) l
theorem ZX (a b:List (Nat×List Nat)):Cj (a++b)=Cj a++Cj b:=by unfold Cj;rw[List.flatMap_append]
theorem Vj {h:H}{v:V}{l:List (Nat×List Nat)}(s:SV h v 2 (Cj l)){i:Nat}(hi:i<l.length): ∃id off,Sl v 2 l.length id off/\h.row id (off+i*2) 2=some (Iz l[i])/\id<h.next:=SV.rec (k:=2) (f:=Iz) om (λ_=>rfl) s hi
theorem Xu {h:H}{v:V}{l:List (Nat×List Nat)}(s:SV h v 2 (Cj l)):bF v=some (aC (l.length:Int)):=by
 unfold bF;rw[SV.len s (n:=l.length) (Ft l) om];rfl
theorem vW (h:H){a b:V}(d:a.one=true)(c:b.one=true):En h (.agg [a,b])=some (.ptr h.next 0,h.new (.cells false [a,b])):=tJ h _ (by simp [d,c])
def Es:List (Nat×List Nat):= [(60, [65,53]),(168, [76,50,40,55,41]),(360, [65,54]),(504, [76,50,40,56,41]),(660, [76,50,40,49,49,41]),(1092, [76,50,40,49,51,41]),(2448, [76,50,40,49,55,41]),(2520, [65,55]),(3420, [76,50,40,49,57,41]),(4080, [76,50,40,49,54,41])]
theorem EO (z:Int)(s:List Nat):rK [aC 0,.str []] [(0,1,aC z),(1,1,.str s)]=some (.agg [aC z,.str s]):=rfl
theorem TD (h:H):Ev T 67 [] h (λv h'=>SV h' v 2 (Cj Es)/\Fr h h'):=by
 refine cT Bh rfl ?_;have e:mH h 2 [aC 0,.str []] 10 [(0,2,.agg [aC 60,.str [65,53]]),(2,2,.agg [aC 168,.str [76,50,40,55,41]]),(4,2,.agg [aC 360,.str [65,54]]),(6,2,.agg [aC 504,.str [76,50,40,56,41]]),(8,2,.agg [aC 660,.str [76,50,40,49,49,41]]),(10,2,.agg [aC 1092,.str [76,50,40,49,51,41]]),(12,2,.agg [aC 2448,.str [76,50,40,49,55,41]]),(14,2,.agg [aC 2520,.str [65,55]]),(16,2,.agg [aC 3420,.str [76,50,40,49,57,41]]),(18,2,.agg [aC 4080,.str [76,50,40,49,54,41]])]=some (.sl h.next 0 10 (.kn 10),h.new (.cells false (Cj Es))):=rfl;simp(disch:=omega)only[go_sem,Bh,aD,EO,e];exact⟨SV.all rfl (by rw[H.aU];omega) (H.aL _ _) _,(Fr.refl h).new _⟩
theorem II (x:Nat×List Nat)(n:Nat)(h:H)(d:x.1<1000000)(h2:n<1000000):Ev T 69 [.agg (Iz x),aC n] h (λv h'=>v= aC ((x.1:Int)-n)/\Fr h h'):=by
 refine cT tL rfl ?_;obtain⟨B,c⟩:=exI h.next;obtain⟨d,g,i,f,j,e⟩:=cU c (Iz x);simp(disch:=omega)only[go_sem,tL,aD,vW h (a:= aC (x.1:Int)) (b:= .str x.2) rfl rfl,c,g,H.aF f];exact e
theorem abY (x y:Nat×List Nat)(h:H)(d:x.1<1000000)(h2:y.1<1000000):Ev T 71 [.agg (Iz x),.agg (Iz y)] h (λv h'=>v= aC ((x.1:Int)-y.1)/\Fr h h'):=by
 refine cT tY rfl ?_;obtain⟨B,f⟩:=exI h.next;obtain⟨d,m,e,k,p,i⟩:=cU f (Iz x);obtain⟨h2,g,o,l,j,n⟩:=cU e (Iz y);have c:h2.get B=aY (Iz x):=by rw[j B om];exact k
 simp(disch:=omega)only[go_sem,tY,aD,vW h (a:= aC (x.1:Int)) (b:= .str x.2) rfl rfl,f,m,vW d (a:= aC (y.1:Int)) (b:= .str y.2) rfl rfl,e,g,H.aF c,H.aF l];exact i.trans n
theorem UU (u:V)(a:List (Nat×List Nat))(p:Nat)(h:H)(hn:a.length<1000000)(W:p<1000000)(hs: ∀x∈a,x.1<1000000)(L:a.Pairwise λx y=>x.1<y.1)(Q:SV h u 2 (Cj a)):
  Ev T 68 [u,aC p,.fn 69 [] []] h (λv h'=> ∃(k:Nat) (f:Bool),v= .tup [aC k,.bool f]/\(f=true-> ∃hk:k<a.length,a[k].1=p)/\(f=false-> ∀x∈a,x.1≠p)/\Fr h h'):=by
 refine cT dI rfl ?_
 have lv:=Xu Q
 simp(disch:=omega)only[go_sem,dI,aD,lv]
 have mono: ∀i j (hi:i<a.length) (J:j<a.length),i<j->a[i].1<a[j].1:=λi j hi J h=>OP.1 L i j hi J h
 refine aI (λZ l K=> ∃(i j:Nat),(∃g:Nat->V,l= [u,aC p,.fn 69 [] [],g 3,g 4,aC (a.length:Int),aC i,aC j,g 8,g 9,g 10])/\i<=j/\j<=a.length/\(∀m (c:m<a.length),m<i->a[m].1<p)/\(∀m (c:m<a.length),j<=m->p<=a[m].1)/\Fr h K/\Z=j-i) a.length
  ⟨0,a.length,aB rfl,om,om,λm c h=>om,λm h1 h2=>om,Fr.refl h,rfl⟩ ?_
 rintro Z l K ⟨i,j,⟨g,rfl⟩,a0,J,r,B,F,rfl⟩
 by_cases A:(i:Int)<(j:Int)
 ·have G:=bN A
  have ea:(i:Int)+(j:Int)=((i+j:Nat):Int):=om
  obtain⟨m,c⟩:=exI ((i+j)/2)
  have sr:=JA (x:=i+j)
  rw[c] at sr
  have d:m<a.length:=om
  obtain⟨id,N,P,s,_⟩:=Vj (Q.mono F) d
  have sm:=hs _ (Bu d)
  simp(disch:=omega)only[go_sem,G,ea,Hl,Ar,eS (n:=((i+j:Nat):Int)) om om,sr,P.ixa,s]
  refine (II a[m] p K sm W).mono ?_
  rintro _ h3 ⟨rfl,z⟩
  by_cases Y:((a[m].1:Nat):Int)-(p:Int)<0
  ·have o:=bN Y
   simp(disch:=omega)only[go_sem,o]
   rw[dU m]
   refine⟨j-(m+1),om,m+1,j,aB rfl,om,J,λq O h=>?_,B,F.trans z,rfl⟩
   by_cases e:q=m
   ·subst e;omega
   ·have:=mono q m O d om;omega
  ·have o:=bE Y
   simp(disch:=omega)only[go_sem,o]
   refine⟨m-i,om,i,m,aB rfl,om,om,r,λq O h=>?_,F.trans z,rfl⟩
   by_cases e:q=m
   ·subst e;omega
   ·have:=mono m q d O om;omega
 have G:=bE A
 obtain rfl:i=j:=om
 by_cases w:(i:Int)<(a.length:Int)
 ·have o:=bN w
  have b:i<a.length:=om
  obtain⟨id,N,P,s,_⟩:=Vj (Q.mono F) b
  simp(disch:=omega)only[go_sem,G,o,P.ixa,s]
  refine (II a[i] p K (hs _ (Bu b)) W).mono ?_
  rintro _ h3 ⟨rfl,z⟩
  by_cases t:((a[i].1:Nat):Int)-(p:Int)=0
  ·have R:=bN t
   simp(disch:=omega)only[go_sem,R]
   exact⟨i,true,rfl,λ_=>⟨b,om⟩,λh=>(by cases h),F.trans z⟩
  ·have R:=bE t
   simp(disch:=omega)only[go_sem,R]
   refine⟨i,false,rfl,λh=>(by cases h),λ_ x U e=>?_,F.trans z⟩
   obtain⟨m,c,rfl⟩:=wV.1 U
   rcases Nat.lt_trichotomy m i with h|h|h
   ·have:=r m c h;omega
   ·subst h;omega
   ·have h1:=mono i m b c h
    have h2:=B i b (eH _)
    omega
 ·have o:=bE w
  simp(disch:=omega)only[go_sem,G,o]
  refine⟨i,false,rfl,λh=>(by cases h),λ_ x U e=>?_,F⟩
  obtain⟨m,c,rfl⟩:=wV.1 U
  have:=r m c om
  omega
section
variable {x:Nat×List Nat} {l:List (Nat×List Nat)}
def Dw (x:Nat×List Nat):List (Nat×List Nat)->List (Nat×List Nat)
 | []=> [x]
 |y::r=>if y.1<=x.1 then y::Dw x r else x::y::r
def Lz (l:List (Nat×List Nat)):List (Nat×List Nat):=l.foldl (λa x=>Dw x a) []
def ahV (l:List (Nat×List Nat)):Prop:=l.Pairwise λx y=>x.1<=y.1
theorem Mm {x:Nat×List Nat}: ∀{A B:List (Nat×List Nat)},(∀y∈A,y.1<=x.1)->(∀y∈B,x.1<y.1)->Dw x (A++B)=A++x::B
 | [], [],_,_=>rfl
 | [],y::r,_,h=>by
  show (if y.1<=x.1 then _ else _)=_;rw[bL (by have:=h y Co;omega)];rfl
 |y::A,B,h,h2=>by
  show (if y.1<=x.1 then _ else _)=_;rw[bJ (h y Co)];have:=Mm (λz a=>h z (Cu _ a)) h2;rw[List.cons_append,←this]
  rfl
theorem Yb (x:Nat×List Nat): ∀l,(Dw x l).length=l.length+1
 | []=>rfl
 |y::r=>by
  unfold Dw;split
  ·rw[List.length_cons,Yb x r];rfl
  ·rfl
theorem Ps {x z:Nat×List Nat}: ∀{l},z∈Dw x l↔z=x∨z∈l
 | []=>by simp [Dw]
 |y::r=>by
  unfold Dw;split
  ·rw[Gr,Ps,Gr]
   constructor
   ·rintro (h|h|h)<;>simp [h]
   ·rintro (h|h|h)<;>simp [h]
  ·rw[Gr]
theorem AV {x:Nat×List Nat}: ∀{l},ahV l->ahV (Dw x l)
 | [],_=>List.pairwise_singleton _ _
 |y::r,h=>by
  obtain⟨b,d⟩:=List.pairwise_cons.1 h;unfold Dw;split
  ·rename_i c
   refine List.pairwise_cons.2 ⟨λz a=>?_,AV d⟩;rcases Ps.1 a with rfl|a
   ·exact c
   ·exact b z a
  ·rename_i c
   refine List.pairwise_cons.2 ⟨λz a=>?_,h⟩;rcases Gr.1 a with rfl|a
   ·omega
   ·have:=b z a;omega
theorem Zm {i:Nat}(hi:i<l.length):Lz (l.take (i+1))=Dw l[i] (Lz (l.take i)):=by
 unfold Lz;rw[List.take_succ_eq_append_getElem hi,List.foldl_append]
 rfl
theorem SG (l:List (Nat×List Nat)): ∀i,i<=l.length->ahV (Lz (l.take i))/\(Lz (l.take i)).length=i/\ ∀x∈Lz (l.take i),x∈l:=by
 intro i
 induction i with
 |zero=>exact λ_=>⟨List.Pairwise.nil,rfl,λx a=>by cases a⟩
 |succ i ih=>
  intro hi;obtain⟨b,c,d⟩:=ih om;rw[Zm om];refine⟨AV b,by rw[Yb,c],λx a=>?_⟩;rcases Ps.1 a with rfl|a
  ·exact Bu _
  ·exact d x a
theorem GG {i:Nat}(hi:i<l.length):sub (Cj l) (i*2) 2=some (Iz l[i]):=by
 have:=JO (s:=2) (f:=Iz) (λ_=>rfl) (ps:=l) (rest:= []) hi;rwa [tD] at this
theorem HE {k:Nat}(a:k<l.length)(x:Nat×List Nat):putAt (Cj l) (k*2) (Iz x)=some (Cj (l.set k x)):=by
 have:=HF (s:=2) (f:=Iz) (λ_=>rfl) (ps:=l) (rest:= []) a x;rwa [tD,tD] at this
theorem Hc (h:H)(id off:Nat){a b:V}(d:a.one=true)(c:b.one=true):Xh h 2 (.ptr id off) (.agg [a,b])=dR (h.get id) h id off [a,b]:=By h id off 2 _ rfl (by simp [d,c])
theorem ZV (S N:Nat)(v:V)(l:List (Nat×List Nat))(h:H)(hl:l.length=N)(hN:N<1000000)(ix: ∀j:Nat,j<N->Gu 2 v (aC j)=some (.ptr S (j*2)))(hS:0<N->S<h.next)(gS:0<N->h.get S=aY (Cj l))(hs: ∀x∈l,x.1<1000000):
  Ev T 155 [v,aC 0,aC N,.fn 71 [] []] h (λ_ h'=>(0<N->h'.get S=aY (Cj (Lz l)))/\Fx (· =S) h h'):=by
 refine cT fD rfl ?_
 simp(disch:=omega)only[go_sem,fD,aD,Int.zero_add]
 by_cases Z:N=0
 ·subst Z
  have e0:l= []:=List.length_eq_zero_iff.1 hl
  subst e0
  refine aI (λK f U=>(∃g:Nat->V,f= [g 0,g 1,aC 0,g 3,aC 1,g 5,g 6,g 7])/\h=U/\K=0) 0 ⟨aB rfl,rfl,rfl⟩ ?_
  rintro K f U ⟨⟨g,rfl⟩,rfl,rfl⟩
  simp(disch:=omega)only[go_sem,show decide ((1:Int)<0)=false from rfl]
  exact⟨λh=>om,Fx.refl _ _⟩
 have gS:=gS om
 have hS:=hS om
 have f1:Lz (l.take 1)++l.drop 1=l:=by
  cases l with
  |nil=>exact absurd hl.symm Z
  |cons a r=>rfl
 refine aI (λK f U=> ∃(i:Nat),(∃g:Nat->V,f= [v,aC 0,aC N,.fn 71 [] [],aC i,g 5,g 6,g 7])/\1<=i/\i<=N/\U.get S=aY (Cj (Lz (l.take i)++l.drop i))/\Fx (· =S) h U/\K=N-i) (N- 1)
  ⟨1,aB rfl,om,om,by rw[f1];exact gS,Fx.refl _ h,rfl⟩ ?_
 rintro K f U ⟨i,⟨g,rfl⟩,a7,hi,gi,F,rfl⟩
 by_cases a2:(i:Int)<(N:Int)
 case neg=>
  have d1:=bE a2;obtain rfl:i=N:=om
  rw[←hl,List.take_length,List.drop_length,tD] at gi;simp(disch:=omega)only[go_sem,d1];exact⟨λ_=>gi,F⟩
 have d1:=bN a2
 have R:i<l.length:=om
 obtain⟨Y,len,mem⟩:=SG l i om
 have st:=Zm R
 rw[BT R] at gi
 have hx:=hs _ (Bu R)
 generalize l[i]=x at gi st hx
 simp(disch:=omega)only[go_sem,d1]
 refine wG (λvs h'=>(∃g:Nat->V,vs= [v,aC 0,aC N,.fn 71 [] [],aC i,g 5,g 6,g 7])/\h'.get S=aY (Cj (Dw x (Lz (l.take i))++l.drop (i+1)))/\Fx (· =S) h h') ?_ ?_
 ·refine aI (λK f h'=> ∃(j:Nat),(∃g:Nat->V,f= [v,aC 0,aC N,.fn 71 [] [],aC i,aC j,g 6,g 7])/\j<=i/\(∀y∈(Lz (l.take i)).drop j,x.1<y.1)/\h'.get S=aY (Cj ((Lz (l.take i)).take j++x::(Lz (l.take i)).drop j++l.drop (i+1)))/\Fx (· =S) h h'/\j=K) i
   ⟨i,aB rfl,eH _,λy s=>(by rw[List.drop_eq_nil_of_le om] at s;cases s),by rw[Lq om,List.drop_eq_nil_of_le om,rS];exact gi,F,rfl⟩ ?_
  obtain⟨c,J⟩:=exI (Lz (l.take i))
  rw[J] at Y len mem
  rw[J]
  obtain⟨P,a1⟩:=exI (l.drop (i+1))
  rw[a1]
  rintro K f n ⟨j,⟨g,rfl⟩,hj,hB,O,F2,rfl⟩
  by_cases a5:(0:Int)<(j:Int)
  case neg=>
   have d2:=bE a5;obtain rfl:j=0:=om
   rw[List.take_zero,List.drop_zero,List.nil_append] at O;have im:=Mm (x:=x) (A:= []) (B:=c) (λy s=>by cases s) hB;rw[List.nil_append,List.nil_append] at im;simp(disch:=omega)only[go_sem,d2];exact⟨aB rfl,by rw[im];exact O,⟨by have:=F2.next;show _<=n.next+17;omega,λq h1 n=>F2.get q h1 n⟩⟩
  have d2:=bN a5
  have a6:1<=j:=om
  have ja:j- 1<c.length:=om
  obtain⟨d,o⟩:=exI (c.take j++x::c.drop j++P)
  rw[o] at O
  have et:c.take j=c.take (j- 1)++ [c[j- 1]]:=by
   have:=List.take_succ_eq_append_getElem ja;rwa [show j- 1+1=j by omega] at this
  have u:(c.take (j- 1)).length=j- 1:=by rw[Cq,Nat.min_eq_left om]
  have lj:j<d.length:=by
   rw[←o,iA,iA,Cq,Nat.min_eq_left om,List.length_cons];omega
  have Q:j- 1<d.length:=om
  have t:c.take (j- 1)++c[j- 1]::x::(c.drop j++P)=d:=by rw[←o,et];simp only[rS,List.cons_append,List.nil_append]
  have cj:d[j]=x:=by
   have:d[j]? =some x:=by
    rw[←t,Eb om,u,show j-(j- 1)=1 by omega];rfl
   rw[dF lj] at this;exact Option.some.inj this
  have a0:d[j- 1]=c[j- 1]:=by
   have:d[j- 1]? =some c[j- 1]:=by
    rw[←t,Eb om,u,Nat.sub_self];rfl
   rw[dF Q] at this;exact Option.some.inj this
  obtain⟨y,s⟩:=exI (c[j- 1])
  have ys:y.1<1000000:=hs _ (mem y (by rw[←s];exact Bu _))
  rw[s] at a0 t
  have a4: ∀h':H,h'.get S=aY (Cj d)->h'.row S (j*2) 2=some (Iz x)/\h'.row S ((j- 1)*2) 2=some (Iz y):=λh' hg=>by
   have s1:=GG lj;have s2:=GG Q;rw[cj] at s1;rw[a0] at s2;unfold H.row;rw[hg];exact⟨s1,s2⟩
  have a3:=ix j om
  have w:=ix (j- 1) om
  have ej:(j:Int)- 1=((j- 1:Nat):Int):=om
  have n2:=F2.next
  have fb: ∀k,n.next<=k->Fr n (H.mk n.tr k):=λk hk=>(Fr.refl n).bH hk
  obtain⟨r1,r2⟩:=a4 n O
  simp(disch:=omega)only[go_sem,d2,ej,a3,w,r1,r2]
  refine (abY x y _ hx ys).mono ?_
  rintro _ h3 ⟨rfl,f3⟩
  have p:=(fb _ om).trans f3
  have g3:h3.get S=aY (Cj d):=by rw[p.get S om];exact O
  obtain⟨r3,r4⟩:=a4 h3 g3
  have es: ∀l,dB (.str l) (.str l)=true:=λl=>by simp [dB]
  by_cases G:(x.1:Int)-(y.1:Int)<0
  case neg=>
   have d3:=bE G
   have hA: ∀z∈c.take j,z.1<=x.1:=λz W=>by
    obtain⟨m,hm,rfl⟩:=wV.1 W;rw[Cq,Nat.min_eq_left om] at hm;rw[List.getElem_take]
    by_cases e:m=j- 1
    ·subst e;rw[s];omega
    ·have:=OP.1 Y m (j- 1) om ja om
     rw[s] at this;omega
   have im:=Mm hA hB;rw[List.take_append_drop] at im;simp(disch:=omega)only[go_sem,r3,r4,es,d3];exact⟨aB rfl,by rw[im,o];exact g3,⟨by have:=p.next;omega,λq h1 n=>by rw[p.get q om];exact F2.get q h1 n⟩⟩
  have d3:=bN G
  have p1: ∀L:H,dR (aY (Cj d)) L S (j*2) (Iz y)=some (L.set S (aY (Cj (d.set j y)))):=λL=>by simp only[dR,HE lj,Option.map_some]
  have p2: ∀L:H,dR (aY (Cj (d.set j y))) L S ((j- 1)*2) (Iz x)=some (L.set S (aY (Cj ((d.set j y).set (j- 1) x)))):=λL=>by simp only[dR,HE (show j- 1<(d.set j y).length by rw[List.length_set];exact Q),Option.map_some]
  simp(disch:=omega)only[go_sem,r3,r4,es,d3,ej,a3,w,Hc _ S (j*2) (a:= aC (y.1:Int)) (b:= .str y.2) rfl rfl,Hc _ S ((j- 1)*2) (a:= aC (x.1:Int)) (b:= .str x.2) rfl rfl,g3,p1,p2]
  have ed:c.drop (j- 1)=y::c.drop j:=by rw[BT ja,s,show j- 1+1=j by omega]
  have el:(d.set j y).set (j- 1) x=c.take (j- 1)++x::c.drop (j- 1)++P:=by
   rw[←t,List.set_append_right _ _ om,u,show j-(j- 1)=1 by omega,List.set_append_right _ _ om,u,Nat.sub_self,ed];simp
  have nf:=p.next
  refine⟨j- 1,om,j- 1,aB rfl,om,λz W=>?_,by rw[el],⟨by simp only[H.cH];show _<=h3.next+18;omega,λq h1 n=>?_⟩,rfl⟩
  ·rw[ed] at W
   rcases Gr.1 W with rfl|W
   ·omega
   ·exact hB z W
  ·rw[H.aH _ n,H.aH _ n]
   show h3.get q=_
   rw[p.get q om]
   exact F2.get q h1 n
 rintro f n ⟨⟨g,rfl⟩,O,F2⟩
 simp(disch:=omega)only[go_sem]
 rw[dU i]
 exact⟨N-(i+1),om,i+1,aB rfl,om,om,by rw[st];exact O,F2,rfl⟩
theorem Xq (S N:Nat)(v:V)(l:List (Nat×List Nat))(h:H)(f:l.length=N)(r:N<20)(i:bF v=some (aC N))(p: ∀j:Nat,j<N->Gu 2 v (aC j)=some (.ptr S (j*2)))(m:0<N->S<h.next)(k:0<N->h.get S=aY (Cj l))(n: ∀x∈l,x.1<1000000):
  Ev T 70 [v,.fn 71 [] []] h (λ_ h'=>(0<N->h'.get S=aY (Cj (Lz l)))/\Fx (· =S) h h'):=by
 refine cT dN rfl ?_
 simp(disch:=omega)only[go_sem,dN,aD,i]
 refine Ev.mono (Q:=λ_ h'=>(0<N->h'.get S=aY (Cj (Lz l)))/\Fx (· =S) h h') ?_ ?_
 ·refine cT gV rfl ?_
  simp(disch:=omega)only[go_sem,gV,aD]
  have o:decide ((20:Int)<=(N:Int))=false:=bE om
  have q:decide ((20:Int)<(N:Int))=false:=bE om
  refine aI (λb a c=>(∃g:Nat->V,a= [v,aC N,.fn 71 [] [],aC 20,aC 0,aC 20,g 6,g 7,g 8,g 9,g 10])/\h=c/\b=0) 0 ⟨aB rfl,rfl,rfl⟩ ?_
  rintro b a c ⟨⟨g,rfl⟩,rfl,rfl⟩
  simp(disch:=omega)only[go_sem,o]
  refine (ZV S N v l h f om p m k n).mono ?_
  rintro _ e ⟨d,F2⟩
  simp(disch:=omega)only[go_sem]
  refine aI (λb a c=>(∃g:Nat->V,a= [g 0,aC N,g 2,aC 20,g 4,g 5,g 6,g 7,g 8,g 9,g 10])/\e=c/\b=0) 0 ⟨aB rfl,rfl,rfl⟩ ?_
  rintro b a c ⟨⟨g,rfl⟩,rfl,rfl⟩
  simp(disch:=omega)only[go_sem,q]
  exact⟨d,F2⟩
 rintro _ e ⟨d,F2⟩
 simp(disch:=omega)only[go_sem]
 exact⟨d,F2⟩
end
def NW:Nat->Nat->Nat->Nat
 |0,_,p=>p
 |f+1,q,p=>if q%p=0 then p else NW f q (p+1)
def OI:Nat->Nat->Nat->Nat->Nat×Nat
 |0,_,k,r=>(k,r)
 |f+1,p,k,r=>if r%p=0 then OI f p (k+1) (r/p) else (k,r)
def Er (p k q r:Nat):List (Nat×List Nat):=if r=1 then List.replicate k (p,67::vT p) else match Es.find? (λx=>x.1==q) with|some x=> [(q,x.2)]|none=> []
def iM (q:Nat):List (Nat×List Nat):=Er (NW (q- 2) q 2) (OI q (NW (q- 2) q 2) 0 q).1 q (OI q (NW (q- 2) q 2) 0 q).2
def mJ:List Nat->List (Nat×List Nat)
 |a::b::r=>iM (b/a)++mJ (b::r)
 |_=> []
theorem Sq: ∀(l:List Nat) (i:Nat) (hi:i+1<l.length),mJ (l.take (i+2))=mJ (l.take (i+1))++iM (l[i+1]/l[i])
 |a::b::r,0,_=>by simp [mJ]
 |a::b::r,i+1,hi=>by
  have c:i+1<(b::r).length:=by simpa using hi
  have:=Sq (b::r) i c;have e: ∀k,mJ (a::b::r.take k)=iM (b/a)++mJ (b::r.take k):=λk=>rfl
  show mJ (a::b::r.take (i+1))=mJ (a::b::r.take i)++_;rw[e,e];have d:mJ (b::r.take (i+1))=mJ (b::r.take i)++iM ((b::r)[i+1]/(b::r)[i]):=this;rw[d,rS]
  rfl
theorem RP {p k q r:Nat}(b:2<=p)(a:2<=q)(h:q=p^k*r)(c:1<=r):2^(Er p k q r).length<=q:=by
 unfold Er;split
 ·rename_i e
  rw[List.length_replicate,h,e,uH];exact Nat.pow_le_pow_left b k
 ·split
  ·exact a
  ·show 1<=q;omega
section
variable {n:Nat} {G:List Nat->Prop} {L:LN} {K r:List Nat} {rs:LN} (hG:iJ n G) (E:dZ G L)
theorem aeI (E:dZ G L)(k:Ix n G L r):dZ (RG L r) (r.map λi=>L.getD i []):=by
 refine⟨List.pairwise_map.2 (List.Pairwise.imp_of_mem (λ{i j} hi c (h:i<j)=>?_) k.rk.asc),λx=>?_⟩
 ·have a:=((k.rk.mem i).1 hi).1
  have b:=((k.rk.mem j).1 c).1;rw[List.getD,dF a,List.getD,dF b];exact OP.1 E.asc i j a b h
 ·rw[vF]
  exact Iff.rfl
include hG E
theorem aaX (c:Qr n G L K rs r)(b:Cn n G L K){i:Nat}(hi:i+1<rs.length):2*rs[i].length<=rs[i+1].length:=by
 have a:=c.all _ (Bu (show i<rs.length by omega));have f:=c.all _ (Bu hi);obtain⟨k,l⟩:=c.st i _ _ (dF om) (dF hi);obtain⟨⟨j,d,h,e⟩,_⟩:=Hv hG E a b k;rw[←l] at e;have g:=Vd a (b.lt d) h;rw[←e] at g;have:=dbl (x:=L.getD j []) a.dH f.dH (aeI E a) (aeI E f) (λy ⟨t,ht,e⟩=>⟨t,g.1 t ht,e⟩) ⟨j,g.2.1,rfl⟩ λ⟨t,ht,e⟩=>h (by rw[←Ee E.nodup ((a.rk.mem t).1 ht).1 (b.lt d) e];exact ht)
 simpa using this
end
section
variable {b n:Nat} {h:H} {v:V} {l:List (Nat×List Nat)}
def GJ (b:Nat)(h:H)(v:V)(l:List (Nat×List Nat)):Prop:=(l= []/\v= .aE)∨ ∃S,v= .sl S 0 l.length (.un 2)/\h.get S=aY (Cj l)/\S<h.next/\b<=S/\0<l.length
theorem GJ.mono {h':H}(r:GJ b h v l)(f:Fr h h'):GJ b h' v l:=by
 rcases r with r|⟨S,e,g,a,c,d⟩
 ·exact .inl r
 ·exact .inr ⟨S,e,by rw[f.get S a];exact g,jB a f.next,c,d⟩
theorem GJ.own (r:GJ b h v l):cQ h v 2 (Cj l) b:=by
 rcases r with ⟨rfl,rfl⟩|⟨S,rfl,g,a,c,d⟩
 ·exact cQ.aE _ _ _
 ·exact .inr ⟨S,l.length,_, [],rfl,Ft l,.inl rfl,c,a,by rw[tD];exact g⟩
theorem HD {D:Nat}{x:Nat×List Nat}(r:GJ b h v l)(i:b<=h.next)(s:l.length<1000000)(f:D<h.next)(g:h.get D=aY (Iz x)):
  ∃v' h',yE h 2 24 v (.sl D 0 1 (.kn 1))=some (v',h')/\GJ b h' v' (l++ [x])/\h.next<=h'.next/\ ∀q,q<b->h'.get q=h.get q:=by
 have o:=r.own
 obtain⟨h',a,p⟩:=(o.le (fR _)).push (bytes:=24) (SV.all (sz:=2) (len:=1) (vs:=Iz x) rfl f g (.kn 1)) (n:=l.length) (m:=1) (Ft l) rfl om om om
 have t:=p.next
 refine⟨_,h',a,.inr ⟨h.next,by rw[iA];rfl,by rw[ZX];exact p.get,om,i,by rw[iA];exact Nat.succ_pos _⟩,om,λq j=>p.old q om λid d m c e k=>by have:=(o.in _ _ _ _ e).2.1;omega⟩
theorem UB (h:H)(z:Int)(s:List Nat):mH h 2 [aC 0,.str []] 1 [(0,2,.agg [aC z,.str s])]=some (.sl h.next 0 1 (.kn 1),h.new (.cells false [aC z,.str s])):=rfl
theorem RS.sz {W:Nat->Prop}{G:List Nat->Prop}{L:LN}{p:V×V}{r:List Nat}(g:RS W n L h p r)(E:dZ G L)(k:Ix n G L r):
  Ev T 65 [.agg [aC n,p.1,p.2]] h (λv h'=>v= aC (r.length:Nat)/\Fr h h'):=by
 obtain⟨O,R,a⟩:=g
 refine (wE _ n O R _ h a).mono ?_
 rintro _ h' ⟨rfl,f⟩
 rw[k.rk.len k.dH a.isc E k.le]
 exact⟨rfl,f⟩
theorem RS.eq {W:Nat->Prop}{L:LN}{p:V×V}{r:List Nat}(g:RS W n L h p r):dB p.1 p.1=true/\dB p.2 p.2=true:=by
 obtain⟨O,R,g⟩:=g;obtain⟨_,_,_,_,e,c,_,_,a,_,_⟩:=g.cw;simp only[V.agg.injEq,List.cons.injEq,and_true,true_and] at e;rw[e.1,e.2];exact⟨SV.dB c,SV.dB a⟩
theorem ajX {sz i o j q:Nat}(a:Sl v sz n i o)(b:Sl v sz n j q)(h:0<n):i=j/\o=q:=by
 have e:=(a.ixa .i64 0 om om).symm.trans (b.ixa .i64 0 om om);simpa using e
theorem QJ: ∀{l:List (Nat×List Nat)} {i:Nat} (hi:i<l.length),(Cj l)[i*2+1]? =some (V.str l[i].2)
 |x::l,0,_=>rfl
 |x::l,i+1,hi=>by
  show (Iz x++Cj l)[(i+1)*2+1]? =_;rw[Eb (by show 2<=(i+1)*2+1;omega)];show (Cj l)[(i+1)*2+1- 2]? =_;rw[show (i+1)*2+1- 2=i*2+1 by omega];exact QJ (by simpa using hi)
theorem VI: ∀k (hk:k<Es.length),Es.find? (λx=>x.1==Es[k].1)=some Es[k]:=by decide
theorem abB:Es.Pairwise λx y=>x.1<y.1:=by decide
theorem LZ: ∀x∈Es,x.1<1000000:=by decide
theorem ahG (l:List Nat):mJ (l.take 1)= []:=by cases l<;>rfl
theorem Uq (l:List (Nat×List Nat)):(Lz l).length=l.length:=by
 have:=(SG l l.length (eH _)).2.1;rwa [List.take_length] at this
theorem GJ.sort (r:GJ b h v l)(p:b<=h.next)(f:l.length<20)(d: ∀x∈l,x.1<1000000):
  Ev T 70 [v,.fn 71 [] []] h (λ_ h'=>GJ b h' v (Lz l)/\h.next<=h'.next/\ ∀q,q<b->h'.get q=h.get q):=by
 rcases r with ⟨rfl,rfl⟩|⟨S,rfl,g,i,o,a⟩
 ·refine (Xq h.next 0 .aE [] h rfl om rfl (λj c=>om) (λh=>om) (λh=>om) d).mono ?_
  rintro m h' ⟨_,F⟩
  exact⟨.inl ⟨rfl,rfl⟩,F.next,λq e=>F.get q om om⟩
 ·refine (Xq S l.length _ l h rfl f rfl (λj c=>by simp [Gu,c]) (λ_=>i) (λ_=>g) d).mono ?_
  rintro m h' ⟨k,F⟩
  have s:=F.next
  exact⟨.inr ⟨S,by rw[Uq],k a,om,o,by rw[Uq];exact a⟩,F.next,λq e=>F.get q om om⟩
def Oa (rs:LN):LN:=(Lz (mJ (rs.map List.length))).map Prod.snd
theorem EZ {W0:Nat->Prop}(vc:V)(n:Nat)(O:LN)(R:fM)(G:List Nat->Prop)(h:H)(gc:GC W0 h vc n O R G):
  Ev T 14 [vc] h (λv h'=> ∃vl L K rs,v= .tup [vl,aC 0]/\dG O R n 0 (bT n)=L/\Cn n G L K/\Na n G L K rs/\SV h' vl 1 ((Oa rs).map V.str)/\(Oa rs).length<20/\Fr h h'):=by
 obtain⟨vO,vR,rfl,b4,c4⟩:=gc.shape
 refine cT wT rfl ?_
 obtain⟨A,hA⟩:=exI h.next
 obtain⟨h1,e1,n1,g1,q1,f1⟩:=cU hA [aC n,vO,vR]
 simp(disch:=omega)only[go_sem,wT,aD,aQ h (v:= aC n) (u:=vO) (w:=vR) rfl b4 c4,hA,e1,aG g1]
 refine (OY _ n O R G h1 (gc.mono f1)).mono ?_
 rintro _ h2 ⟨vl,ls,L,K,rs,rfl,eL,ik,cl,sv,al,f2⟩
 have hG:=gc.dH
 obtain⟨E,eE⟩:=dL gc.dH gc.isc
 rw[eL] at E eE
 have ll:=fK gc
 obtain⟨rl,cb,g3⟩:=cl.ex
 have e4:=aM.length al
 have f9:=cb.len
 have lv:bF vl=some (aC (rs.length:Int)):=by unfold bF;rw[SV.len sv (n:=rs.length) (by rw[iS,e4]) om];rfl
 have r0:0<rs.length:=(zG.1 cb.hd).1
 have sb: ∀i (hi:i<rs.length),1<=rs[i].length/\rs[i].length<=5040:=λi hi=>by
  have k:=cb.all _ (Bu hi);have:=k.rk.short;refine⟨?_,om⟩;obtain⟨j,hj,_⟩:=k.dH.one;exact KH hj
 obtain⟨sz,a4⟩:=exI (rs.map List.length)
 have c8:sz.length=rs.length:=by rw[←a4,iN]
 have J: ∀i (hi:i<rs.length),sz[i]'om=rs[i].length:=λi hi=>by subst a4;rw[List.getElem_map]
 have b2: ∀j,sz.getD j 0<=5040:=λj=>by
  by_cases hj:j<rs.length
  ·rw[List.getD,dF om,Option.getD_some,J j hj]
   exact (sb j hj).2
  ·rw[List.getD,List.getElem?_eq_none om];exact fR _
 simp(disch:=omega)only[go_sem]
 refine bA (λhc=>(hc rfl).elim) (λ_=>?_)
 obtain⟨b,hb⟩:=exI h2.next
 simp(disch:=omega)only[go_sem]
 refine bQ (λvs Q=> ∃z,(∃g:Nat->V,vs= [g 0,g 1,g 2,g 3,g 4,g 5,z,g 7,g 8,g 9,g 10,g 11,g 12,g 13,g 14,g 15,g 16,g 17,g 18,g 19,g 20,g 21,g 22,g 23,g 24,g 25,g 26,g 27,g 28,g 29])/\GJ b Q z (mJ sz)/\2^(mJ sz).length<=5040/\(∀x∈mJ sz,x.1<1000000)/\Fr h2 Q) ?_ ?_
 ·refine aI (λB d Q=> ∃(i:Nat) (z:V),(∃g:Nat->V,d= [g 0,g 1,g 2,g 3,vl,g 5,z,aC i,g 8,g 9,g 10,g 11,g 12,g 13,g 14,g 15,g 16,g 17,g 18,g 19,g 20,g 21,g 22,g 23,g 24,g 25,g 26,g 27,g 28,g 29])/\1<=i/\i<=rs.length/\GJ b Q z (mJ (sz.take i))/\2^(mJ (sz.take i)).length<=sz.getD (i- 1) 0/\(∀x∈mJ (sz.take i),x.1<1000000)/\Fr h2 Q/\B=rs.length-i) (rs.length- 1)
   ⟨1,.aE,aB rfl,om,om,?_,?_,?_,Fr.refl _,rfl⟩ ?_
  ·rw[ahG];exact .inl ⟨rfl,rfl⟩
  ·rw[ahG,List.getD,dF om,Option.getD_some,J 0 r0]
   exact (sb 0 r0).1
  ·rw[ahG];exact λx P=>by cases P
  rintro B d Q ⟨i,z,⟨g,rfl⟩,g0,hi,fr,bd,sm,F,rfl⟩
  by_cases Y:(i:Int)<(rs.length:Int)
  case neg=>
   have d1:=bE Y;obtain rfl:i=rs.length:=om
   rw[←c8,List.take_length] at fr bd sm;simp(disch:=omega)only[go_sem,lv,d1];exact⟨z,aB rfl,fr,lX bd (b2 _),sm,F⟩
  have d1:=bN Y
  have U:i<rs.length:=om
  have W:i- 1<rs.length:=om
  obtain⟨ia,oa,a7,ra,na⟩:=SV.rec (k:=3) (f:=λp:V×V=> [aC n,p.1,p.2]) om (λ_=>rfl) (sv.mono F) (i:=i) om
  obtain⟨ib,ob,a6,rb,nb⟩:=SV.rec (k:=3) (f:=λp:V×V=> [aC n,p.1,p.2]) om (λ_=>rfl) (sv.mono F) (i:=i- 1) om
  obtain⟨rfl,rfl⟩:=ajX a7 a6 om
  have ga:=(aM.get al i om U).go (Fx.of F) (W':=λ_=>False) λ_ _ h=>h
  have gb:=(aM.get al (i- 1) om W).go (Fx.of F) (W':=λ_=>False) λ_ _ h=>h
  have ei:(i:Int)- 1=((i- 1:Nat):Int):=om
  have fb: ∀m,Q.next<=m->Fr Q (H.mk Q.tr m):=λm hm=>(Fr.refl Q).bH hm
  simp(disch:=omega)only[go_sem,lv,d1,a7.ixa,ra,ei,a6.ixa,rb]
  refine ((ga.go (Fx.of (fb (Q.next+13) om)) (W':=λ_=>False) λ_ _ h=>h).sz E (cb.all _ (Bu U))).mono ?_
  rintro _ h3 ⟨rfl,f3⟩
  have a2:=(fb _ om).trans f3
  have b9:h3.row ia (oa+(i- 1)*3) 3=some [aC n,ls[i- 1].1,ls[i- 1].2]:=by rw[afK a2 nb];exact rb
  have eb:=gb.eq
  simp(disch:=omega)only[go_sem,b9,eb.1,eb.2]
  refine ((gb.go (Fx.of a2) (W':=λ_=>False) λ_ _ h=>h).sz E (cb.all _ (Bu W))).mono ?_
  rintro _ h4 ⟨rfl,f4⟩
  have F4:=F.trans (a2.trans f4)
  obtain⟨q,o⟩:=exI (rs[i].length/rs[i- 1].length)
  have s1:=sb (i- 1) W
  have s2:=sb i U
  have db:=aaX hG E cb ik (i:=i- 1) om
  simp only[show i- 1+1=i by omega] at db
  have q2:2<=q:=by rw[←o];exact (Nat.le_div_iff_mul_le om).2 db
  have q3:rs[i- 1].length*q<=rs[i].length:=by rw[←o];exact Nat.mul_div_le _ _
  have q4:q<=5040:=lX (by rw[←o];exact Nat.div_le_self _ _) s2.2
  have c3:Int.tdiv ((rs[i].length:Nat):Int) ((rs[i- 1].length:Nat):Int)=(q:Int):=by rw[←o];rfl
  have z0:decide (((rs[i- 1].length:Nat):Int)=0)=false:=bE om
  simp(disch:=omega)only[go_sem,c3,z0]
  clear c3 z0 b9 ra rb a7 a6
  refine bQ (λvs h'=>h'=h4/\ ∃p:Nat,(∃g:Nat->V,vs= [g 0,g 1,g 2,g 3,vl,g 5,z,aC i,aC q,aC p,g 10,g 11,g 12,g 13,g 14,g 15,g 16,g 17,g 18,g 19,g 20,g 21,g 22,g 23,g 24,g 25,g 26,g 27,g 28,g 29])/\2<=p/\p<=q/\q%p=0/\p=NW (q- 2) q 2) ?_ ?_
  ·refine aI (λB d h'=> ∃(p:Nat),(∃g:Nat->V,d= [g 0,g 1,g 2,g 3,vl,g 5,z,aC i,aC q,aC p,g 10,g 11,g 12,g 13,g 14,g 15,g 16,g 17,g 18,g 19,g 20,g 21,g 22,g 23,g 24,g 25,g 26,g 27,g 28,g 29])/\2<=p/\p<=q/\NW (q-p) q p=NW (q- 2) q 2/\h4=h'/\B=q-p) (q- 2)
    ⟨2,aB rfl,eH _,q2,rfl,rfl,rfl⟩ ?_
   rintro B d h' ⟨p,⟨g,rfl⟩,p2,pq,lp,rfl,rfl⟩
   have em:Int.tmod (q:Int) (p:Int)=((q%p:Nat):Int):=rfl
   have z0:decide ((p:Int)=0)=false:=bE om
   by_cases hz:q%p=0
   ·have dz:decide (((q%p:Nat):Int)≠0)=false:=bE om
    have e:p=NW (q- 2) q 2:=by
     rw[←lp]
     cases q-p with
     |zero=>rfl
     |succ f=>show p=if q%p=0 then p else _;rw[bJ hz]
    simp(disch:=omega)only[go_sem,em,z0,dz]
    exact⟨p,aB rfl,p2,pq,hz,e⟩
   ·have dz:decide (((q%p:Nat):Int)≠0)=true:=bN om
    have pl:p<q:=Nat.lt_of_le_of_ne pq λe=>hz (by rw[e];exact Nat.mod_self q)
    have e:NW (q-(p+1)) q (p+1)=NW (q- 2) q 2:=by
     rw[←lp,show q-p=(q-(p+1))+1 by omega];show _=if q%p=0 then p else _
     rw[bL hz]
    simp(disch:=omega)only[go_sem,em,z0,dz]
    rw[dU p]
    exact⟨q-(p+1),om,p+1,aB rfl,om,pl,e,rfl⟩
  rintro d h' ⟨rfl,p,⟨g,rfl⟩,p2,pq,hz,ep⟩
  simp(disch:=omega)only[go_sem]
  refine bQ (λvs h5=>Fr h' h5/\ ∃k r:Nat,(∃g:Nat->V,vs= [g 0,g 1,g 2,g 3,vl,g 5,z,aC i,aC q,aC p,aC k,aC r,g 12,g 13,g 14,g 15,g 16,g 17,g 18,g 19,g 20,g 21,g 22,g 23,g 24,g 25,g 26,g 27,g 28,g 29])/\q=p^k*r/\1<=r/\(k,r)=OI q p 0 q) ?_ ?_
  ·refine aI (λB d h5=> ∃(k r f:Nat),(∃g:Nat->V,d= [g 0,g 1,g 2,g 3,vl,g 5,z,aC i,aC q,aC p,aC k,aC r,g 12,g 13,g 14,g 15,g 16,g 17,g 18,g 19,g 20,g 21,g 22,g 23,g 24,g 25,g 26,g 27,g 28,g 29])/\q=p^k*r/\1<=r/\r<=f/\OI f p k r=OI q p 0 q/\k<1000000-r/\Fr h' h5/\r=B) q
    ⟨0,q,q,aB rfl,by simp,om,eH _,rfl,om,Fr.refl _,rfl⟩ ?_
   rintro B d h5 ⟨k,r,f,⟨g,rfl⟩,eq,r1,rf,sf,kb,f5,rfl⟩
   have em:Int.tmod (r:Int) (p:Int)=((r%p:Nat):Int):=rfl
   have z0:decide ((p:Int)=0)=false:=bE om
   have rq:r<=q:=by rw[eq];exact Nat.le_mul_of_pos_left _ (Nat.pow_pos om)
   by_cases hz:r%p=0
   ·have dz:decide (((r%p:Nat):Int)=0)=true:=bN om
    have ed:Int.tdiv (r:Int) (p:Int)=((r/p:Nat):Int):=rfl
    obtain⟨f',rfl⟩: ∃f',f=f'+1:=⟨f- 1,om⟩
    have e:OI f' p (k+1) (r/p)=OI q p 0 q:=by
     rw[←sf];show _=if r%p=0 then _ else _
     rw[bJ hz]
    have rd:r/p<r:=Nat.div_lt_self om om
    have rm:p*(r/p)=r:=Nat.mul_div_cancel' (Nat.dvd_of_mod_eq_zero hz)
    have rp:1<=r/p:=Nat.pos_of_ne_zero λe=>by rw[e,Nat.mul_zero] at rm;omega
    have e2:q=p^(k+1)*(r/p):=by rw[Nat.pow_succ,Nat.mul_assoc,rm];exact eq
    simp(disch:=omega)only[go_sem,em,z0,dz,ed]
    rw[dU k]
    exact⟨r/p,rd,k+1,r/p,f',aB rfl,e2,rp,om,e,om,f5.trans ((Fr.refl _).bH om),rfl⟩
   ·have dz:decide (((r%p:Nat):Int)=0)=false:=bE om
    have e:(k,r)=OI q p 0 q:=by
     rw[←sf]
     cases f with
     |zero=>omega
     |succ f=>show _=if r%p=0 then _ else _;rw[bL hz]
    simp(disch:=omega)only[go_sem,em,z0,dz]
    exact⟨f5,k,r,aB rfl,eq,r1,e⟩
  rintro d h5 ⟨f5,k,r,⟨g,rfl⟩,c9,r1,e0⟩
  have F5:=F4.trans f5
  have b5:=fr.mono ((a2.trans f4).trans f5)
  have d9:iM q=Er p k q r:=by
   unfold iM;rw[←ep,←e0]
  have N:mJ (sz.take (i+1))=mJ (sz.take i)++Er p k q r:=by
   have:=Sq sz (i- 1) om;simp only[show i- 1+2=i+1 by omega,show i- 1+1=i by omega] at this;rw[J i U,J (i- 1) W,o,d9] at this;exact this
  have a1:2^(mJ (sz.take (i+1))).length<=sz.getD (i+1- 1) 0:=by
   rw[N,iA,Nat.pow_add,Nat.add_sub_cancel,List.getD,dF om,Option.getD_some,J i U];rw[List.getD,dF om,Option.getD_some,J (i- 1) W] at bd;exact lX (Nat.mul_le_mul bd (RP p2 q2 c9 r1)) q3
  have h0:b<=h5.next:=by have:=F5.next;omega
  have c7: ∀{m s:Nat},2^m<=s->s<=5040->m<20:=λ{m s} h1 h2=>Kh λh=>by
   have:=Nat.pow_le_pow_right (show 0<2 by omega) (show 20<=m by omega);have e:2^20=1048576:=rfl;omega
  have a0:=c7 a1 (b2 _)
  have b0:(∀x∈Er p k q r,x.1<1000000)-> ∀x∈mJ (sz.take (i+1)),x.1<1000000:=λh x P=>by
   rw[N] at P;exact (kT.1 P).elim (sm x) (h x)
  rw[N,iA] at a0
  by_cases b1:r=1
  ·have d2:decide ((r:Int)=1)=true:=bN om
   have ef:Er p k q r=List.replicate k (p,67::vT p):=by unfold Er;rw[bJ b1]
   rw[ef,List.length_replicate] at a0
   have d8:=b0 (by rw[ef];exact λx P=>by rw[(List.mem_replicate.1 P).2];show p<_;omega)
   simp(disch:=omega)only[go_sem,d2]
   refine bQ (λvs h'=> ∃t,(∃g:Nat->V,vs= [g 0,g 1,g 2,g 3,vl,g 5,t,aC i,g 8,g 9,g 10,g 11,g 12,g 13,g 14,g 15,g 16,g 17,g 18,g 19,g 20,g 21,g 22,g 23,g 24,g 25,g 26,g 27,g 28,g 29])/\GJ b h' t (mJ (sz.take i)++List.replicate k (p,67::vT p))/\Fr h2 h') ?_ ?_
   ·refine aI (λB d h'=> ∃(j:Nat) (t:V),(∃g:Nat->V,d= [g 0,g 1,g 2,g 3,vl,g 5,t,aC i,g 8,aC p,g 10,g 11,g 12,g 13,g 14,g 15,g 16,g 17,g 18,g 19,g 20,g 21,aC k,aC j,g 24,g 25,g 26,g 27,g 28,g 29])/\j<=k/\GJ b h' t (mJ (sz.take i)++List.replicate j (p,67::vT p))/\Fr h2 h'/\B=k-j) k
     ⟨0,z,aB rfl,fR _,by rw[List.replicate_zero,tD];exact b5,F5,rfl⟩ ?_
    rintro B d h6 ⟨j,w6,⟨g,rfl⟩,g2,Z,F6,rfl⟩
    by_cases c5:(j:Int)<(k:Int)
    case neg=>
     have d3:=bE c5;obtain rfl:j=k:=om
     simp(disch:=omega)only[go_sem,d3];exact⟨w6,aB rfl,Z,F6⟩
    have d3:=bN c5
    simp(disch:=omega)only[go_sem,d3]
    refine (adR p h6 om).mono ?_
    rintro _ h7 ⟨rfl,f7⟩
    have dl:=Xk p
    obtain⟨D,hD⟩:=exI h7.next
    obtain⟨h8,e8,n8,g8,q8,f8⟩:=cU hD (Iz (p,67::vT p))
    have n7:=F6.next
    have g9:=f7.next
    obtain⟨t,h9,a9,a3,n9,o9⟩:=HD (x:=(p,67::vT p)) ((Z.mono f7).mono f8) om (by rw[iA,List.length_replicate];omega) om g8
    have d0:acF h7 (.str [67]) (.str (vT p))=some (.str (67::vT p),h7):=XJ h7 (a:= [67]) (b:=vT p) (by show 1+_<_;omega)
    simp(disch:=omega)only[go_sem,HK,d0,EO,UB,hD,e8,a9]
    rw[dU j]
    exact⟨k-(j+1),om,j+1,t,aB rfl,om,by rw[List.replicate_succ',←rS];exact a3,⟨om,λq' a5=>by rw[o9 q' om,q8 q' om,f7.get q' om];exact F6.get q' a5⟩,rfl⟩
   rintro d h6 ⟨w6,⟨g,rfl⟩,Z,F6⟩
   simp(disch:=omega)only[go_sem]
   rw[dU i]
   exact⟨rs.length-(i+1),om,i+1,w6,aB rfl,om,om,by rw[N,ef];exact Z,a1,d8,F6,rfl⟩
  have d2:decide ((r:Int)=1)=false:=bE om
  simp(disch:=omega)only[go_sem,d2]
  refine (TD h5).mono ?_
  rintro vt h6 ⟨c2,f6⟩
  simp(disch:=omega)only[go_sem]
  refine (UU vt Es q h6 (by decide) om LZ abB c2).mono ?_
  rintro _ h7 ⟨kk,bb,rfl,e3,d4,f7⟩
  have F7:=F5.trans (f6.trans f7)
  have b7:=b5.mono (f6.trans f7)
  cases bb with
  |false=>
   have ef:Er p k q r= []:=by
    unfold Er;rw[bL b1,List.find?_eq_none.2 λx P=>by simpa using d4 rfl x P]
   simp(disch:=omega)only[go_sem];rw[dU i];exact⟨rs.length-(i+1),om,i+1,z,aB rfl,om,om,by rw[N,ef,tD];exact b7,a1,b0 (by rw[ef];exact λx P=>by cases P),F7,rfl⟩
  |true=>
   obtain⟨hk,ek⟩:=e3 rfl
   have ef:Er p k q r= [(q,Es[kk].2)]:=by
    have:=VI kk hk;rw[ek] at this;unfold Er;rw[bL b1,this]
   obtain⟨it,ot,e9,_,ct⟩:=(c2.mono f7).shape Es.length (Ft _) om;have ck:=(ct (kk*2+1) (by rw[Ft];omega)).trans (QJ hk);rw[←Nat.add_assoc] at ck;obtain⟨D,hD⟩:=exI h7.next;obtain⟨h8,e8,n8,g8,q8,f8⟩:=cU hD (Iz (q,Es[kk].2));have n7:=F7.next;obtain⟨t,h9,a9,a3,n9,o9⟩:=HD (x:=(q,Es[kk].2)) (b7.mono f8) om om om g8;simp(disch:=omega)only[go_sem,e9.ixa,ck,EO,UB,hD,e8,a9];rw[dU i];exact⟨rs.length-(i+1),om,i+1,t,aB rfl,om,om,by rw[N,ef];exact a3,a1,b0 (by rw[ef];exact λx P=>by rw[List.mem_singleton.1 P];show q<_;omega),⟨om,λq' a5=>by rw[o9 q' om,q8 q' om];exact F7.get q' a5⟩,rfl⟩
 rintro d Q ⟨z,⟨g,rfl⟩,fr,bd,sm,F⟩
 have nF:=F.next
 have a0:(mJ sz).length<20:=Kh λh=>by
  have:=Nat.pow_le_pow_right (show 0<2 by omega) (show 20<=(mJ sz).length by omega);have e:2^20=1048576:=rfl;omega
 simp(disch:=omega)only[go_sem]
 refine (fr.sort om a0 sm).mono ?_
 rintro w3 h3 ⟨b3,n3,o3⟩
 have F3:Fr h2 h3:=⟨om,λq o=>by rw[o3 q om,F.get q o]⟩
 obtain⟨y,b6⟩:=exI (Lz (mJ sz))
 have d7:=Uq (mJ sz)
 rw[b6] at b3 d7
 have en:Oa rs=y.map Prod.snd:=by unfold Oa;rw[a4,b6]
 have b8:SV h3 z 2 (Cj y):=b3.own.sv
 have d6:=Xu b8
 simp(disch:=omega)only[go_sem,d6]
 refine aI (λB d h'=> ∃(j:Nat) (w:V),(∃g:Nat->V,d= [g 0,g 1,g 2,g 3,g 4,g 5,g 6,g 7,g 8,g 9,g 10,g 11,g 12,g 13,g 14,w,g 16,g 17,g 18,g 19,g 20,g 21,g 22,g 23,g 24,g 25,z,aC (y.length:Int),aC j,g 29])/\j<=y.length/\cQ h' w 1 ((y.take j).map λx=>V.str x.2) h3.next/\Fr h3 h'/\B=y.length-j) y.length
  ⟨0,.aE,aB rfl,fR _,cQ.aE _ _ _,Fr.refl _,rfl⟩ ?_
 rintro B d h4 ⟨j,w,⟨g,rfl⟩,hj,ow,F4,rfl⟩
 by_cases Y:(j:Int)<(y.length:Int)
 case neg=>
  have d1:=bE Y;obtain rfl:j=y.length:=om
  rw[List.take_length] at ow;simp(disch:=omega)only[go_sem,d1];refine⟨w,L,K,rs,rfl,eL,ik,cl,by rw[en,List.map_map];exact ow.sv,by rw[en,iN];omega,f1.trans (f2.trans (F3.trans F4))⟩
 have d1:=bN Y
 have c0:j<y.length:=om
 obtain⟨ij,oj,f0,rj,_⟩:=Vj (b8.mono F4) c0
 obtain⟨C,hC⟩:=exI h4.next
 obtain⟨h5,e5,n5,g5,q5,f5⟩:=cU hC [aC 0,.str []]
 obtain⟨h6,e6,n6,g6,q6⟩:=mD h5 C (Iz y[j])
 obtain⟨h7,e7,n7,g7,q7,f7⟩:=cU (h:=h6) (n6.trans n5) [.str y[j].2]
 have c1:Fr h4 h7:=⟨om,λq o=>by rw[q7 q om,q6 q om,q5 q om]⟩
 have n4:=F4.next
 have lt:((y.take j).map λx=>V.str x.2).length=j:=by rw[iN,Cq,Nat.min_eq_left hj]
 obtain⟨h8,a8,p8⟩:=((ow.fr c1).le (fR _)).push (bytes:=16) (SV.one om g7 (.kn 1)) (n:=j) (m:=1) om rfl om om om
 have n8:=p8.next
 have d5: ∀(o:H) (id:Nat),dR (aY [aC 0,.str []]) o id 0 (Iz y[j])=some (o.set id (aY (Iz y[j]))):=λo id=>by simp [dR,putAt]
 have c6: ∀(o:H) (s:List Nat),mH o 1 [.str []] 1 [(0,1,.str s)]=some (.sl o.next 0 1 (.kn 1),o.new (.cells false [.str s])):=λo s=>bZ o rfl rfl
 simp(disch:=omega)only[go_sem,d1,f0.ixa,rj,hC,e5,Hc _ C 0 (a:= aC (y[j].1:Int)) (b:= .str y[j].2) rfl rfl,g5,d5,e6,H.aF g6,c6,n6,n5,e7,a8]
 rw[dU j]
 refine⟨y.length-(j+1),om,j+1,_,aB rfl,om,?_,⟨om,λq o=>?_⟩,rfl⟩
 ·rw[List.take_succ_eq_append_getElem c0,List.map_append]
  exact p8.own om rfl om
 ·rw[p8.old q om λid g4 m c e e2=>by have:=(ow.in _ _ _ _ e).2.1;omega,c1.get q om]
  exact F4.get q o
end
section
variable {n:Nat} {x y z a b:List Nat}
theorem aiK (A:bC n a)(Y:bC n y)(B:bC n b):aX (aX a y) (aX (cY y) b)=aX a b:=by
 rw[aV A Y (Y.inv.mul B),←aV Y Y.inv B,fQ Y,eD B]
theorem Qz (X:bC n x)(Y:bC n y)(Z:bC n z):iQ (aX x y) z=aX (cW (iQ x z) y) (iQ y z):=by
 have A:=nH X Z;have B:=nH Y Z;rw[xW (X.mul Y) Z,Em X Y Z,Np X Y,xW X Z,xW Y Z];show _=aX (aX (aX (cY y) (aX (cY x) (cW x z))) y) (aX (cY y) (cW y z));rw[aiK (Y.inv.mul (X.inv.mul A)) Y B,aV Y.inv X.inv (A.mul B),aV Y.inv (X.inv.mul A) B,aV X.inv A B]
theorem zQ (X:bC n x)(Y:bC n y):iQ x y=aX (cW (cY y) x) y:=by
 show aX (aX (cY x) (cY y)) (aX x y)=aX (aX (aX (cY x) (cY y)) x) y;rw[aV (X.inv.mul Y.inv) X Y]
theorem Pe (X:bC n x)(Y:bC n y)(Z:bC n z):iQ x (aX y z)=aX (iQ x z) (cW (iQ x y) z):=by
 have A:=nH Z.inv X;have B:=nH Y.inv X;rw[zQ X (Y.mul Z),Np Y Z,Em Z.inv Y.inv X,zQ X Z,zQ X Y];show _=aX (aX (cW (cY z) x) z) (aX (aX (cY z) (aX (cW (cY y) x) y)) z);rw[aV Z.inv (B.mul Y) Z,aiK A Z ((B.mul Y).mul Z),aV A B (Y.mul Z),aV B Y Z]
end
section
variable {n:Nat} {G K:List Nat->Prop} {O O':LN} {R R':fM}
theorem Au.all (j:iJ n G)(m:iJ n K)(c:aZ n G O R)(d:aZ n K O' R'){p q:List Nat}(e:G p)(o:K q):Au n R R' (iQ p q):=by
 have f:=Au.dH j m c d;have r: ∀g∈bM R,bC n g:=λg h=>j.cX (bY c h)
 have i: ∀g∈bM R',bC n g:=λg h=>m.cX (bY d h)
 have st1: ∀{p},G p-> ∀k,k∈bM R'->Au n R R' (iQ p k):=λ{p} e k l=>by
  have h:=lF j c e;clear e
  induction h with
  |one=>rw[Si (i k l)];exact f.one
  | @mul y g hy hg ih=>
   rw[Qz (hy.cX r) (r g hg) (i k l)];exact f.mul (NC.cj ih (.inl hg)) (NC.of ⟨g,hg,k,l,rfl⟩)
 have h:=lF m d o;have P:=j.cX e;clear o
 induction h with
 |one=>rw[Rh P];exact f.one
 | @mul y g hy hg ih=>
  rw[Pe P (hy.cX i) (i g hg)];exact f.mul (st1 e g hg) (NC.cj ih (.inr hg))
def El (n:Nat)(A C D:LN)(ws:List (List (Nat×Nat))):Bool:=
 D==ws.map (λw=>w.foldl (λx i=>aX x (iQ (A.getD i.1 []) (C.getD i.2 []))) (bT n))&&ws.all (λw=>w.all λi=>decide (i.1<A.length/\i.2<C.length))&&decide (D.Pairwise λx y=>yV x y=true)&&D.all (λx=>x.length==n)&&D.contains (bT n)&&D.all (λx=>D.all λy=>D.contains (aX x y))&&D.all (λx=>D.contains (cY x))&&A.all (λp=>C.all λq=>D.contains (iQ p q))&&D.all (λy=>A.all (λg=>D.contains (cW y g))&&C.all λg=>D.contains (cW y g))
theorem El.FX (m:iJ n G)(o:iJ n K)(c:aZ n G O R)(d:aZ n K O' R'){A C D:LN}{ws:List (List (Nat×Nat))}(E:dZ G A)(F:dZ K C)(h:El n A C D ws=true):dZ (Au n R R') D:=by
 unfold El at h;simp only[vV,beq_iff_eq,Lw,Ss,List.contains_iff_mem] at h;obtain⟨⟨⟨⟨⟨⟨⟨⟨B,Y⟩,W⟩,r⟩,U⟩,t⟩,u⟩,J⟩,s⟩:=h;have l:=Au.dH m o c d
 have sub: ∀x,x∈D->Au n R R' x:=λx e=>by
  rw[B] at e;obtain⟨w,v,rfl⟩:=vF.1 e
  have k: ∀(w:List (Nat×Nat)) (x:List Nat),(∀i∈w,i.1<A.length/\i.2<C.length)->Au n R R' x->Au n R R' (w.foldl (λx i=>aX x (iQ (A.getD i.1 []) (C.getD i.2 []))) x):=by
   intro w
   induction w with
   |nil=>exact λx _ h=>h
   |cons i w ih=>
    intro x hi e;have:=hi i (by simp);exact ih _ (λj Q=>hi j (by simp [Q])) (l.mul e (Au.all m o c d ((E.mem _).1 (aW this.1)) ((F.mem _).1 (aW this.2))))
  exact k w _ (Y w v) l.one
 refine⟨List.Pairwise.imp_of_mem (λe f h=>(Bz (by rw[r _ e,r _ f])).1 h) W,λx=>⟨sub x,λe=>?_⟩⟩
 have P:iJ n (· ∈D):=⟨λh=>l.cX (sub _ h),U,λa b=>t _ a _ b,λa=>u _ a⟩
 refine NC.le (H:=(· ∈D)) e P ?_ ?_
 ·rintro a ⟨p,L,q,N,rfl⟩
  exact J p ((E.mem _).2 (bY c L)) q ((F.mem _).2 (bY d N))
 ·rintro y b f (g|g)
  ·exact (s y f).1 b ((E.mem _).2 (bY c g))
  ·exact (s y f).2 b ((F.mem _).2 (bY d g))
end
theorem ahS (h:H)(x y z w u:Int):mH h 1 [aC 0] 5 [(0,1,aC x),(1,1,aC y),(2,1,aC z),(3,1,aC w),(4,1,aC u)]=some (.sl h.next 0 5 (.kn 5),h.new (.cells false (ints [x,y,z,w,u]))):=by
 have e:dC [aC 0] 5= [aC 0,aC 0,aC 0,aC 0,aC 0]:=rfl;simp [mH,gZ,e,putAt,V.cells,V.one,ints]
abbrev OJ:LN:= [[1,2,3,0], [1,0,2,3]]
theorem XM: ∀g∈OJ,bC 4 g:=by
 intro g a;simp only[OJ,Gr,List.not_mem_nil,or_false] at a;rcases a with rfl|rfl<;>exact⟨rfl,by decide,by decide⟩
abbrev Vz:LN:= [[1,0,3,2], [2,3,0,1]]
theorem TF: ∀g∈Vz,bC 4 g:=by
 intro g a;simp only[Vz,Gr,List.not_mem_nil,or_false] at a;rcases a with rfl|rfl<;>exact⟨rfl,by decide,by decide⟩
abbrev D4g:LN:= [[1,2,3,0], [2,1,0,3]]
theorem aeS: ∀g∈D4g,bC 4 g:=by
 intro g a;simp only[D4g,Gr,List.not_mem_nil,or_false] at a;rcases a with rfl|rfl<;>exact⟨rfl,by decide,by decide⟩
abbrev UP:LN:= [[1,2,0,3,4], [1,2,3,4,0]]
theorem aeK: ∀g∈UP,bC 5 g:=by
 intro g a;simp only[UP,Gr,List.not_mem_nil,or_false] at a;rcases a with rfl|rfl<;>exact⟨rfl,by decide,by decide⟩
theorem Zp (h:H):Ev T 28 [] h (λv h'=> ∃c0 c1 c2 c3 O0 R0 O1 R1 O2 R2 O3 R3,v= .tup [c0,c1,c2,c3]/\GC (λid=>id<h.next) h' c0 4 O0 R0 (cG 4 (· ∈OJ))/\GC (λid=>id<h.next) h' c1 4 O1 R1 (cG 4 (· ∈Vz))/\GC (λid=>id<h.next) h' c2 4 O2 R2 (cG 4 (· ∈D4g))/\GC (λid=>id<h.next) h' c3 5 O3 R3 (cG 5 (· ∈UP))/\Fr h h'):=by
 refine cT Av rfl ?_;obtain⟨B,hB⟩:=exI h.next;obtain⟨c,e1,n1,g1,o1,f1⟩:=cU hB [aC 0,.aE,.aE];obtain⟨r,e2,n2,g2,o2,f2⟩:=cU n1 [aC 0,.aE,.aE];obtain⟨h3,e3,n3,g3,o3,f3⟩:=cU n2 [aC 0,.aE,.aE];obtain⟨h4,e4,n4,g4,o4,f4⟩:=cU n3 [aC 0,.aE,.aE];have r6:=((f1.trans f2).trans f3).trans f4;have n0:h4.get B=aY [aC 0,.aE,.aE]:=by rw[o4 _ om,o3 _ om,o2 _ om];exact g1
 have l3:h4.get (B+1)=aY [aC 0,.aE,.aE]:=by rw[o4 _ om,o3 _ om];exact g2
 have j9:h4.get (B+1+1)=aY [aC 0,.aE,.aE]:=by rw[o4 _ om];exact g3
 have r8:h4.get (B+1+1+1)=aY [aC 0,.aE,.aE]:=by exact g4
 obtain⟨Q0,d6⟩: ∃Q,h4.next=Q:=⟨_,rfl⟩
 obtain⟨i0,o9,g6,k6,r3⟩:=mkI d6 [1,2,3,0];obtain⟨j0,s8,d9,p3,d4⟩:=mkI g6 [1,0,2,3];obtain⟨x0,o8,s9,j4,v5,h6⟩:=cU d9 [.sl Q0 0 4 (.kn 4),.sl (Q0+1) 0 4 (.kn 4)];have m7:Fr h4 x0:=(r3.trans d4).trans h6;have Xg:SP x0 (.sl (Q0+1+1) 0 2 (.kn 2)) OJ:=SP.two (a:= [1,2,3,0]) (b:= [1,0,2,3]) (h:=j0) (k6.mono d4) p3 om h6 j4 _;simp(disch:=omega)only[go_sem,Av,aD,hB,e1,n1,e2,n2,e3,n3,e4,d6,Ur,o9,g6,s8,d9,Xb _ (qW ..) (qW ..),o8];refine (tB _ 4 OJ x0 om om (by decide) Xg XM).mono ?_;rintro _ m0 ⟨c0,O0,R0,rfl,d2,c6⟩;have h8:=d2.sl;obtain⟨k,d,rfl,a0,b0,i7,i8⟩:=h8;have f:Fr h4 m0:=m7.trans c6;have t5:=f.next;have v6:=c6.next;have i9:m0.get B=aY [aC 0,.aE,.aE]:=by rw[f.get _ om];exact n0
 obtain⟨L,n6,u8,l1,x⟩:=mD m0 B [aC (4:Nat),k,d];have r0:=bI m0 B 0 (v:= aC (4:Nat)) (u:=k) (w:=d) rfl a0 b0;have k1:L.get B=aY [aC (4:Nat),k,d]:=l1;have i6:L.get (B+1)=aY [aC 0,.aE,.aE]:=by rw[x _ om,f.get _ om];exact l3
 have n8:L.get (B+1+1)=aY [aC 0,.aE,.aE]:=by rw[x _ om,f.get _ om];exact j9
 have j6:L.get (B+1+1+1)=aY [aC 0,.aE,.aE]:=by rw[x _ om,f.get _ om];exact r8
 have G0:GC (λid=>id<B+4) L _ 4 O0 R0 _:=d2.go (⟨om,λid c r=>x id om⟩:Fx (λid=>id<x0.next) m0 L) (λid c r=>om)
 have X0:Fx (λid=>id<B+4) h4 L:=⟨om,λid c r=>by rw[x id om,f.get id c]⟩
 obtain⟨Q1,b9⟩: ∃Q,L.next=Q:=⟨_,rfl⟩
 obtain⟨i1,s4,g9,s7,l8⟩:=mkI b9 [1,0,3,2];obtain⟨j1,m6,c7,n7,e8⟩:=mkI g9 [2,3,0,1];obtain⟨x1,p4,t4,k4,u7,e6⟩:=cU c7 [.sl Q1 0 4 (.kn 4),.sl (Q1+1) 0 4 (.kn 4)];have l5:Fr L x1:=(l8.trans e8).trans e6;have j5:SP x1 (.sl (Q1+1+1) 0 2 (.kn 2)) Vz:=SP.two (a:= [1,0,3,2]) (b:= [2,3,0,1]) (h:=j1) (s7.mono e8) n7 om e6 k4 _;simp(disch:=omega)only[go_sem,r0,i9,bG,n6,b9,Ur,s4,g9,m6,c7,Xb _ (qW ..) (qW ..),p4];refine (tB _ 4 Vz x1 om om (by decide) j5 TF).mono ?_;rintro _ m1 ⟨c1,O1,R1,rfl,h0,d3⟩;have p5:=h0.sl;obtain⟨m,o,rfl,a1,b1,q8,m8⟩:=p5;have e:Fr L m1:=l5.trans d3;have v1:=e.next;have u6:=d3.next;have q9:m1.get (B+1)=aY [aC 0,.aE,.aE]:=by rw[e.get _ om];exact i6
 obtain⟨U,l2,w4,r4,p⟩:=mD m1 (B+1) [aC (4:Nat),m,o];have st1:=bI m1 (B+1) 0 (v:= aC (4:Nat)) (u:=m) (w:=o) rfl a1 b1;have s6:U.get B=aY [aC (4:Nat),k,d]:=by rw[p _ om,e.get _ om];exact k1
 have p9:U.get (B+1)=aY [aC (4:Nat),m,o]:=r4;have k8:U.get (B+1+1)=aY [aC 0,.aE,.aE]:=by rw[p _ om,e.get _ om];exact n8
 have k3:U.get (B+1+1+1)=aY [aC 0,.aE,.aE]:=by rw[p _ om,e.get _ om];exact j6
 have G1:GC (λid=>id<B+4) U _ 4 O1 R1 _:=h0.go (⟨om,λid c r=>p id om⟩:Fx (λid=>id<x1.next) m1 U) (λid c r=>om)
 have X1:Fx (λid=>id<B+4) L U:=⟨om,λid c r=>by rw[p id om,e.get id c]⟩
 obtain⟨Q2,f9⟩: ∃Q,U.next=Q:=⟨_,rfl⟩
 obtain⟨i2,s0,g0,q4,l4⟩:=mkI f9 [1,2,3,0];obtain⟨j2,i5,f6,k9,g8⟩:=mkI g0 [2,1,0,3];obtain⟨x2,r7,t7,p2,v2,f7⟩:=cU f6 [.sl Q2 0 4 (.kn 4),.sl (Q2+1) 0 4 (.kn 4)];have o7:Fr U x2:=(l4.trans g8).trans f7;have o0:SP x2 (.sl (Q2+1+1) 0 2 (.kn 2)) D4g:=SP.two (a:= [1,2,3,0]) (b:= [2,1,0,3]) (h:=j2) (q4.mono g8) k9 om f7 p2 _;simp(disch:=omega)only[go_sem,st1,q9,bG,l2,f9,Ur,s0,g0,i5,f6,Xb _ (qW ..) (qW ..),r7];refine (tB _ 4 D4g x2 om om (by decide) o0 aeS).mono ?_;rintro _ m2 ⟨c2,O2,R2,rfl,b8,e7⟩;have tU:=b8.sl;obtain⟨t,s,rfl,a2,b2,k5,r5⟩:=tU;have l:Fr U m2:=o7.trans e7;have u9:=l.next;have v4:=e7.next;have r1:m2.get (B+1+1)=aY [aC 0,.aE,.aE]:=by rw[l.get _ om];exact k8
 obtain⟨K,q6,t6,l0,q⟩:=mD m2 (B+1+1) [aC (4:Nat),t,s];have s5:=bI m2 (B+1+1) 0 (v:= aC (4:Nat)) (u:=t) (w:=s) rfl a2 b2;have q7:K.get B=aY [aC (4:Nat),k,d]:=by rw[q _ om,l.get _ om];exact s6
 have k7:K.get (B+1)=aY [aC (4:Nat),m,o]:=by rw[q _ om,l.get _ om];exact p9
 have s3:K.get (B+1+1)=aY [aC (4:Nat),t,s]:=l0;have h9:K.get (B+1+1+1)=aY [aC 0,.aE,.aE]:=by rw[q _ om,l.get _ om];exact k3
 have G2:GC (λid=>id<B+4) K _ 4 O2 R2 _:=b8.go (⟨om,λid c r=>q id om⟩:Fx (λid=>id<x2.next) m2 K) (λid c r=>om)
 have X2:Fx (λid=>id<B+4) U K:=⟨om,λid c r=>by rw[q id om,l.get id c]⟩
 obtain⟨Q3,f8⟩: ∃Q,K.next=Q:=⟨_,rfl⟩
 obtain⟨i3,o6,c9,j8,j7⟩:=mkI f8 [1,2,0,3,4];obtain⟨j3,p6,c5,o5,d5⟩:=mkI c9 [1,2,3,4,0];obtain⟨x3,p8,v8,n9,v9,d7⟩:=cU c5 [.sl Q3 0 5 (.kn 5),.sl (Q3+1) 0 5 (.kn 5)];have l6:Fr K x3:=(j7.trans d5).trans d7;have p1:SP x3 (.sl (Q3+1+1) 0 2 (.kn 2)) UP:=SP.two (a:= [1,2,0,3,4]) (b:= [1,2,3,4,0]) (h:=j3) (j8.mono d5) o5 om d7 n9 _;simp(disch:=omega)only[go_sem,s5,r1,bG,q6,f8,ahS,o6,c9,p6,c5,Xb _ (qW ..) (qW ..),p8];refine (tB _ 5 UP x3 om om (by decide) p1 aeK).mono ?_;rintro _ m3 ⟨c3,O3,R3,rfl,c8,h5⟩;have l9:=c8.sl;obtain⟨F,A,rfl,a3,b3,m9,k2⟩:=l9;have j:Fr K m3:=l6.trans h5;have t8:=j.next;have u4:=h5.next;have p7:m3.get (B+1+1+1)=aY [aC 0,.aE,.aE]:=by rw[j.get _ om];exact h9
 obtain⟨i,n5,v0,s1,z⟩:=mD m3 (B+1+1+1) [aC (5:Nat),F,A];have l7:=bI m3 (B+1+1+1) 0 (v:= aC (5:Nat)) (u:=F) (w:=A) rfl a3 b3;have e9:i.get B=aY [aC (4:Nat),k,d]:=by rw[z _ om,j.get _ om];exact q7
 have e5:i.get (B+1)=aY [aC (4:Nat),m,o]:=by rw[z _ om,j.get _ om];exact k7
 have d8:i.get (B+1+1)=aY [aC (4:Nat),t,s]:=by rw[z _ om,j.get _ om];exact s3
 have f0:i.get (B+1+1+1)=aY [aC (5:Nat),F,A]:=s1;have G3:GC (λid=>id<B+4) i _ 5 O3 R3 _:=c8.go (⟨om,λid c r=>z id om⟩:Fx (λid=>id<x3.next) m3 i) (λid c r=>om)
 have X3:Fx (λid=>id<B+4) K i:=⟨om,λid c r=>by rw[z id om,j.get id c]⟩
 obtain⟨Q4,w5⟩: ∃Q,i.next=Q:=⟨_,rfl⟩
 obtain⟨y,ey,ny⟩: ∃y:H,H.mk i.tr (i.next+8)=y/\y.next=i.next+8:=⟨_,rfl,rfl⟩
 have fy:Fr i y:=by rw[←ey];exact (Fr.refl i).bH om
 have d1:y.get B=aY [aC (4:Nat),k,d]:=by rw[fy.get _ om];exact e9
 have d0:y.get (B+1)=aY [aC (4:Nat),m,o]:=by rw[fy.get _ om];exact e5
 have e0:y.get (B+1+1)=aY [aC (4:Nat),t,s]:=by rw[fy.get _ om];exact d8
 have g5:y.get (B+1+1+1)=aY [aC (5:Nat),F,A]:=by rw[fy.get _ om];exact f0
 obtain⟨y0,m4,t9,p0,P⟩:=mD y B [aC (4:Nat),k,d];have a6:y0.get B=aY [aC (4:Nat),k,d]:=p0;have Z:y0.get (B+1)=aY [aC (4:Nat),m,o]:=by rw[P _ om];exact d0
 have Y:y0.get (B+1+1)=aY [aC (4:Nat),t,s]:=by rw[P _ om];exact e0
 have a8:y0.get (B+1+1+1)=aY [aC (5:Nat),F,A]:=by rw[P _ om];exact g5
 have t0:=bI y B 0 (v:= aC (4:Nat)) (u:=k) (w:=d) rfl a0 b0;obtain⟨y1,i4,v7,s2,N⟩:=mD y0 (B+1) [aC (4:Nat),m,o];have a4:y1.get B=aY [aC (4:Nat),k,d]:=by rw[N _ om];exact a6
 have b5:y1.get (B+1)=aY [aC (4:Nat),m,o]:=s2;have b6:y1.get (B+1+1)=aY [aC (4:Nat),t,s]:=by rw[N _ om];exact Y
 have a7:y1.get (B+1+1+1)=aY [aC (5:Nat),F,A]:=by rw[N _ om];exact a8
 have t1:=bI y0 (B+1) 0 (v:= aC (4:Nat)) (u:=m) (w:=o) rfl a1 b1;obtain⟨y2,r9,u5,k0,W⟩:=mD y1 (B+1+1) [aC (4:Nat),t,s];have b4:y2.get B=aY [aC (4:Nat),k,d]:=by rw[W _ om];exact a4
 have a9:y2.get (B+1)=aY [aC (4:Nat),m,o]:=by rw[W _ om];exact b5
 have a5:y2.get (B+1+1)=aY [aC (4:Nat),t,s]:=k0;have b7:y2.get (B+1+1+1)=aY [aC (5:Nat),F,A]:=by rw[W _ om];exact a7
 have t2:=bI y1 (B+1+1) 0 (v:= aC (4:Nat)) (u:=t) (w:=s) rfl a2 b2;obtain⟨y3,q5,v3,m5,J⟩:=mD y2 (B+1+1+1) [aC (5:Nat),F,A];have c4:y3.get B=aY [aC (4:Nat),k,d]:=by rw[J _ om];exact b4
 have f5:y3.get (B+1)=aY [aC (4:Nat),m,o]:=by rw[J _ om];exact a9
 have h7:y3.get (B+1+1)=aY [aC (4:Nat),t,s]:=by rw[J _ om];exact a5
 have g7:y3.get (B+1+1+1)=aY [aC (5:Nat),F,A]:=m5;have t3:=bI y2 (B+1+1+1) 0 (v:= aC (5:Nat)) (u:=F) (w:=A) rfl a3 b3;have q0:dB (.agg [aC (4:Nat),k,d]) (.agg [aC (4:Nat),k,d])=true:=by simp [dB,tI,i7,i8]
 have q1:dB (.agg [aC (4:Nat),m,o]) (.agg [aC (4:Nat),m,o])=true:=by simp [dB,tI,q8,m8]
 have q2:dB (.agg [aC (4:Nat),t,s]) (.agg [aC (4:Nat),t,s])=true:=by simp [dB,tI,k5,r5]
 have q3:dB (.agg [aC (5:Nat),F,A]) (.agg [aC (5:Nat),F,A])=true:=by simp [dB,tI,m9,k2]
 simp(disch:=omega)only[go_sem,l7,p7,bG,n5,aG e9,aG e5,aG d8,aG f0];rw[ey];simp(disch:=omega)only[go_sem,t0,d1,m4,t1,Z,i4,t2,b6,r9,t3,b7,q5,bG,aG d1,aG d0,aG e0,aG g5,aG a6,aG Z,aG Y,aG a8,aG a4,aG b5,aG b6,aG a7,aG b4,aG a9,aG a5,aG b7,aG c4,aG f5,aG h7,aG g7,q0,q1,q2,q3]
 have Xe:Fx (λid=>id<B+4) i y3:=⟨om,λid c r=>by rw[J id om,W id om,N id om,P id om,fy.get id om]⟩
 have low: ∀{v n O R G},GC (λid=>id<B+4) i v n O R G->GC (λid=>id<B) y3 v n O R G:=λg=>g.go Xe (λid _ r2=>om)
 refine⟨_,_,_,_,O0,R0,O1,R1,O2,R2,O3,R3,rfl,low (((G0.go X1 λ_ _ h=>h).go X2 λ_ _ h=>h).go X3 λ_ _ h=>h),low ((G1.go X2 λ_ _ h=>h).go X3 λ_ _ h=>h),low (G2.go X3 λ_ _ h=>h),low G3,⟨om,λid r2=>?_⟩⟩;rw[J id om,W id om,N id om,P id om,fy.get id om,z id om,j.get id om,q id om,l.get id om,p id om,e.get id om,x id om,f.get id om];exact r6.get id om
section
variable {n:Nat} {w:Bool} {c d:oQ} {l:List oQ} {Gc Gd:List Nat->Prop} {A C D:LN} {ws:List (List (Nat×Nat))}
theorem abX {G K:List Nat->Prop}(E:dZ G A)(F:dZ K A)(x:List Nat):G x↔K x:=(E.mem x).symm.trans (F.mem x)
structure Mem (n:Nat)(d:oQ)(Gd:List Nat->Prop)(A:LN):Prop where
 dH:iJ n Gd
 isc:aZ n Gd d.1 d.2
 el:dZ Gd A
theorem Mem.sz (m:Mem n d Gd A):fV d.1 n 0=A.length:=by
 obtain⟨E,e⟩:=dL m.dH m.isc;rw[←e,E.uniq m.el]
theorem Mem.nx (a:Mem n c Gc C)(m:Mem n d Gd A)(h:El n A (if w then C else A) D ws=true):iJ n (Mr n w c d)/\dZ (Mr n w c d) D:=by
 unfold Mr
 cases w with
 |false=>exact⟨Au.dH m.dH m.dH m.isc m.isc,El.FX m.dH m.dH m.isc m.isc m.el m.el h⟩
 |true=>exact⟨Au.dH m.dH a.dH m.isc a.isc,El.FX m.dH a.dH m.isc a.isc m.el a.el h⟩
theorem zM (s:uF n w c l)(p:Mem n c Gc C){k:Nat}(b:l[k]? =some d)(m:Mem n d Gd A)(h:El n A (if w then C else A) D ws=true)(f:D≠A): ∃e,l[k+1]? =some e/\Mem n e (Mr n w c d) D:=by
 obtain⟨g,E⟩:=p.nx m h;have t:k<l.length:=(zG.1 b).1
 by_cases o:k+1<l.length
 ·have i:=dF o
  exact⟨_,i,g,(s.st k _ _ b i).1,E⟩
 ·have a:k=l.length- 1:=om
  have r:=s.en d (by rw[←a];exact b);obtain⟨q,_⟩:=dL m.dH m.isc;obtain⟨j,_⟩:=dL g r;exact absurd ((E.uniq j).trans (q.uniq m.el)) f
theorem GB (s:uF n w c l)(j:Mem n c Gc C){k:Nat}(e:l[k]? =some d)(m:Mem n d Gd A)(h:El n A (if w then C else A) A ws=true):l.length=k+1:=by
 obtain⟨g,E⟩:=j.nx m h;have q:k<l.length:=(zG.1 e).1
 by_cases i:k+1<l.length
 ·have o:=dF i
  obtain⟨f,p⟩:=s.st k _ _ e o;obtain⟨a,b⟩:=(f.congr (abX E m.el)).uniq m.isc;exact absurd (Prod.ext a b) p
 ·omega
end
abbrev YC:LN:= [[0,1,2,3], [0,1,3,2], [0,2,1,3], [0,2,3,1], [0,3,1,2], [0,3,2,1], [1,0,2,3], [1,0,3,2], [1,2,0,3], [1,2,3,0], [1,3,0,2], [1,3,2,0], [2,0,1,3], [2,0,3,1], [2,1,0,3], [2,1,3,0], [2,3,0,1], [2,3,1,0], [3,0,1,2], [3,0,2,1], [3,1,0,2], [3,1,2,0], [3,2,0,1], [3,2,1,0]]
theorem DB:dZ (cG 4 (· ∈OJ)) YC:=EI.FX (ws:= [[], [0,0,1,0,0], [0,0,0,1,0], [0,1], [0,1,0,1], [1,0,0,1,0], [1], [0,0,1,0,0,1], [0,0,0,1,0,1], [0], [0,1,0], [0,0,0,1,0,0], [0,1,0,0], [1,0,1], [0,1,0,0,1], [1,0], [0,0], [0,0,1], [0,0,0], [0,0,1,0], [0,0,0,1], [0,0,1,0,1], [1,0,0], [1,0,0,1]]) (by decide+kernel)
abbrev agU:LN:= [[0,1,2,3], [0,2,3,1], [0,3,1,2], [1,0,3,2], [1,2,0,3], [1,3,2,0], [2,0,1,3], [2,1,3,0], [2,3,0,1], [3,0,2,1], [3,1,0,2], [3,2,1,0]]
abbrev Bi:LN:= [[0,1,2,3], [1,0,3,2], [2,3,0,1], [3,2,1,0]]
abbrev abN:LN:= [[0,1,2,3]]
theorem ajM:El 4 YC (if false then YC else YC) agU [[], [(1,4)], [(1,2)], [(1,16)], [(2,12)], [(3,18)], [(2,6)], [(1,10)], [(3,19)], [(4,6)], [(1,8)], [(2,7)]]=true:=by decide+kernel
theorem ajS:El 4 agU (if false then YC else agU) Bi [[], [(1,6)], [(1,9)], [(1,3)]]=true:=by decide+kernel
theorem ajG:El 4 Bi (if false then YC else Bi) abN [[]]=true:=by decide+kernel
theorem ajA:El 4 abN (if false then YC else abN) abN [[]]=true:=by decide+kernel
theorem PW {c:oQ}{l:List oQ}(o:aZ 4 (cG 4 (· ∈OJ)) c.1 c.2)(s:uF 4 false c l):l.map (λe=>fV e.1 4 0)= [24,12,4,1]:=by
 have a:Mem 4 c _ YC:=⟨cG.dH XM,o,DB⟩
 have g:=s.hd;obtain⟨q,f,k⟩:=zM s a g a ajM (by decide);obtain⟨r,j,m⟩:=zM s a f k ajS (by decide);obtain⟨t,b,h⟩:=zM s a j m ajG (by decide);have p:=GB s a b h ajA;refine List.ext_getElem? λi=>?_
 rw[Wy]
 match i with
 |0=>rw[g];exact congrArg some a.sz
 |1=>rw[f];exact congrArg some k.sz
 |2=>rw[j];exact congrArg some m.sz
 |3=>rw[b];exact congrArg some h.sz
 |i+4=>rw[List.getElem?_eq_none om];rfl
abbrev LD4:LN:= [[0,1,2,3], [0,3,2,1], [1,0,3,2], [1,2,3,0], [2,1,0,3], [2,3,0,1], [3,0,1,2], [3,2,1,0]]
theorem agC:dZ (cG 4 (· ∈D4g)) LD4:=EI.FX (ws:= [[], [0,0,1], [0,1], [0], [1], [0,0], [0,0,0], [1,0]]) (by decide+kernel)
abbrev afN:LN:= [[0,1,2,3], [2,3,0,1]]
abbrev abJ:LN:= [[0,1,2,3]]
theorem ajP:El 4 LD4 (if true then LD4 else LD4) afN [[], [(1,2)]]=true:=by decide+kernel
theorem ajF:El 4 afN (if true then LD4 else afN) abJ [[]]=true:=by decide+kernel
theorem ajI:El 4 abJ (if true then LD4 else abJ) abJ [[]]=true:=by decide+kernel
theorem VK {c:oQ}{l:List oQ}(k:aZ 4 (cG 4 (· ∈D4g)) c.1 c.2)(s:uF 4 true c l):l.map (λe=>fV e.1 4 0)= [8,2,1]:=by
 have a:Mem 4 c _ LD4:=⟨cG.dH aeS,k,agC⟩
 have f:=s.hd;obtain⟨o,b,h⟩:=zM s a f a ajP (by decide);obtain⟨p,g,j⟩:=zM s a b h ajF (by decide);have m:=GB s a g j ajI;refine List.ext_getElem? λi=>?_
 rw[Wy]
 match i with
 |0=>rw[f];exact congrArg some a.sz
 |1=>rw[b];exact congrArg some h.sz
 |2=>rw[g];exact congrArg some j.sz
 |i+3=>rw[List.getElem?_eq_none om];rfl
section
variable {Rp Cg:List Nat}
def aiV (s:List Nat)(gs a:LN):LN:=gs.foldl (λa g=>if a.contains (aX s g) then a else a++ [aX s g]) a
def IA (gs:LN):Nat->Nat->LN->LN
 |0,_,S=>S
 |f+1,i,S=>match S[i]? with
  |none=>S
  |some s=>IA gs f (i+1) (aiV s gs S)
theorem AQ {P:List Nat->Prop}{d:LN}(j: ∀x,P x-> ∀g∈d,P (aX x g)): ∀(f i:Nat) (S:LN),(∀x∈S,P x)-> ∀x∈IA d f i S,P x
 |0,_,_,h=>h
 |f+1,i,S,h=>by
  unfold IA;split
  ·exact h
  ·rename_i s n
   refine AQ j f _ _ ?_
   have m: ∀(l:LN),(∀g∈l,g∈d)-> ∀a:LN,(∀x∈a,P x)-> ∀x∈aiV s l a,P x:=by
    intro l
    induction l with
    |nil=>exact λ_ a c=>c
    |cons g l ih=>
     intro e a c;refine ih (λg k=>e g (Cu _ k)) _ ?_;dsimp only;split
     ·exact c
     ·intro x b
      rcases kT.1 b with b|b
      ·exact c x b
      ·rw[List.mem_singleton.1 b];exact j s (h s (EV n)) g (e g Co)
   exact m d (λg h=>h) S h
def ON (L:LN)(N:List Nat):LN:=N.map λi=>L.getD i []
def XO (n:Nat)(L:LN)(N:List Nat):Bool:=
 decide (N.Pairwise (· < ·))&&N.all (λi=>decide (i<L.length))&&(ON L N).all (λx=>(ON L N).all λy=>(ON L N).contains (aX x y))&&(ON L N).all (λx=>(ON L N).contains (cY x))&&(ON L N).contains (bT n)&&(ON L N).all λy=>L.all λg=>(ON L N).contains (cW y g)
def NxB (n:Nat)(L:LN)(Rp Cg N N':List Nat):Bool:=
 (N.all λi=>N'.contains i)&&(List.range L.length).all (λi=>N.contains i||Rp.any λr=>!N.contains r&&(L.map (cW (L.getD r []))).contains (L.getD i []))&&Rp.all (λr=>decide (r<L.length)&&(N.contains r||(ON L N').all λx=>(IA (ON L N++Cg.map λg=>cW (L.getD r []) (L.getD g [])) L.length 0 [bT n]).contains x))&&Cg.all (λg=>decide (g<L.length))&&N'.any λi=>!N.contains i
def YD (n:Nat)(L:LN)(Rp Cg:List Nat):LN->Bool
 |a::b::r=>(b==List.range L.length||XO n L b)&&NxB n L Rp Cg a b&&decide (a.length<L.length)&&YD n L Rp Cg (b::r)
 | [a]=>decide (a.length=L.length)
 | []=>false
section
variable {n:Nat} {G:List Nat->Prop} {L:LN} {K N N' r:List Nat} {rs:LN}
theorem CQ {x:List Nat}:x∈ON L N↔RG L N x:=by
 unfold ON;rw[vF];exact Iff.rfl
variable (hG:iJ n G) (E:dZ G L)
include hG E
theorem XO.ok (h:XO n L N=true):Ix n G L N:=by
 unfold XO at h;simp only[vV,Lw,Ss,List.contains_iff_mem,CQ] at h;obtain⟨⟨⟨⟨⟨o,d⟩,m⟩,t⟩,l⟩,f⟩:=h;have le: ∀x,RG L N x->G x:=λx ⟨i,hi,e⟩=>by rw[←e];exact Bp E (d i hi)
 refine⟨⟨o,λi=>⟨λhi=>⟨d i hi,i,hi,rfl⟩,λ⟨hi,j,hj,e⟩=>?_⟩⟩,⟨λs=>hG.cX (le _ s),l,λ{a b} c k=>m a c b k,λ{a} c=>t a c⟩,λy g q p=>f y q g ((E.mem g).2 p),le⟩;rw[←Ee E.nodup (d j hj) hi e];exact hj
theorem ahA:Ix n G L (List.range L.length):=by
 have e:RG L (List.range L.length)=G:=funext λx=>propext ⟨λ⟨i,hi,e⟩=>by rw[←e];exact Bp E (Lk.1 hi),λh=>by
  obtain⟨i,hi,e⟩:=wV.1 ((E.mem x).2 h)
  exact⟨i,Lk.2 hi,by rw[List.getD,dF hi];exact e⟩⟩
 refine⟨⟨List.pairwise_lt_range,λi=>?_⟩,by rw[e];exact hG,by rw[e];exact λy g b a=>hG.mul (hG.mul (hG.inv a) b) a,by rw[e];exact λx h=>h⟩;rw[Lk,e];exact⟨λh=>⟨h,Bp E h⟩,λh=>h.1⟩
theorem NxB.ok (k:Ix n G L N)(o:Ix n G L N')(R:Cn n G L K)(hl:N.length<L.length)(h:NxB n L Rp Cg N N'=true):Ql n G L K N=N':=by
 unfold NxB at h;simp only[vV,Lw,List.any_eq_true,Bool.or_eq_true,Bool.not_eq_true',Ss,List.contains_iff_mem,CQ,Lk] at h;obtain⟨⟨⟨⟨h1,W⟩,m⟩,hC⟩,A,q,J⟩:=h;have Z: ∀{i:Nat},N.contains i=false->i∉N:=λh W=>by rw[List.contains_iff_mem.2 W] at h;cases h
 obtain⟨⟨i,hi,hn,e⟩,B,_,Q⟩:=Hv hG E k R hl;have s:=R.lt hi
 have up: ∀t∈N',t∈Ql n G L K N:=λt f=>by
  rw[e];refine (My t).2 ⟨((o.rk.mem t).1 f).1,?_⟩;rcases W i s with h|⟨r,hr,U,w⟩
  ·exact absurd h hn
  ·obtain⟨u,m⟩:=m r hr
   rcases m with m|m
   ·exact absurd m (Z U)
   ·obtain⟨g,d,v⟩:=vF.1 w
    have gr:=Tn.dH hG k.le (Bp E s);have l:=(E.mem g).1 d
    have rx:Tn n G (RG L N) (L.getD i []) (L.getD r []):=by
     have:=NC.cj (n:=n) (NC.of (.inr rfl):Tn n G (RG L N) (L.getD i []) (L.getD i [])) (hG.inv l);rw[←v,←sV (mV hG E u) (hG.cX l) (hG.cX l).inv,fQ (hG.cX l),qD (mV hG E u)] at this;rwa [←v]
    refine AQ (P:=Tn n G (RG L N) (L.getD i [])) (λx Y g d=>gr.mul Y ?_) L.length 0 [bT n] (λx Y=>by rw[List.mem_singleton.1 Y];exact gr.one) _ (m _ ⟨t,f,rfl⟩);rcases kT.1 d with d|d
    ·exact NC.of (.inl (CQ.1 d))
    ·obtain⟨c,w,rfl⟩:=vF.1 d
     exact NC.cj rx (Bp E (hC c w))
 have p:=((o.rk.mem A).1 q).1;obtain⟨y,a0,hR,g,d,v⟩:=CM hG E p;have O:y∈K:=R.perm.mem_iff.2 (pU.2 ⟨om,hR⟩)
 have yN:y∉N:=λh=>Z J (by
  obtain⟨t,f,F⟩:=k.nm _ _ ⟨y,h,rfl⟩ d;have:t=A:=Ee E.nodup ((k.rk.mem t).1 f).1 p (F.trans v)
  rw[←this];exact f)
 have z:RG L N' (L.getD y []):=by
  have:=o.nm _ _ ⟨A,q,rfl⟩ (hG.inv d);rwa [←v,←sV (mV hG E om) (hG.cX d) (hG.cX d).inv,fQ (hG.cX d),qD (mV hG E om)] at this
 have dn: ∀t∈Ls n G L N y,t∈N':=λt f=>by
  obtain⟨m,h4⟩:=(My t).1 f;have:RG L N' (L.getD t []):=NC.le h4 o.dH (λa h=>h.elim (λ⟨j,hj,e⟩=>⟨j,h1 j hj,e⟩) λe=>by rw[e];exact z) λa b ha hb=>o.nm a b ha hb
  exact (o.rk.mem t).2 ⟨m,this⟩
 have F:=Q y O yN λt f=>up t (dn t f)
 refine xC B.rk.asc o.rk.asc λt=>⟨λf=>dn t (by rw[F];exact f),up t⟩
theorem YD.ok (c:Qr n G L K rs r)(l:r.length=L.length)(f:Cn n G L K): ∀(Ns:LN) (N:List Nat) (k:Nat),rs[k]? =some N->Ix n G L N->YD n L Rp Cg (N::Ns)=true->rs.drop k=N::Ns
 | [],N,k,hk,kN,h=>by
  have d:N.length=L.length:=of_decide_eq_true h;have b:=(zG.1 hk).1
  have: ¬k+1<rs.length:=λa=>by
   have:=(c.st k _ _ hk (dF a)).1;omega
  rw[BT b,List.drop_eq_nil_of_le om];rw[dF b] at hk;rw[Option.some.inj hk]
 |N'::Ns,N,k,hk,kN,h=>by
  unfold YD at h;simp only[vV,Ss] at h;obtain⟨⟨⟨a,j⟩,m⟩,o⟩:=h
  have i:Ix n G L N':=by
   rw[Bool.or_eq_true] at a;rcases a with a|a
   ·rw[beq_iff_eq.1 a];exact ahA hG E
   ·exact XO.ok hG E a
  have b:=(zG.1 hk).1
  have g:k+1<rs.length:=Nat.lt_of_not_le λh=>by
   have d:=c.la;rw[show rs.length- 1=k by omega,hk] at d;cases d;omega
  have e:=(c.st k _ _ hk (dF g)).2;rw[NxB.ok hG E kN i f m j] at e;have:=YD.ok c l f Ns N' (k+1) (by rw[dF g,e]) i o;rw[dF b] at hk;rw[BT b,this,Option.some.inj hk]
omit hG E in
theorem WG (b:Ix n G L [0])(a:L.getD 0 []=bT n):Xj L (λx=>x=bT n)= [0]:=by
 refine (Jv L _).uniq (K:=λx=>x=bT n) ⟨b.rk.asc,λi=>?_⟩;rw[b.rk.mem i]
 refine and_congr_right λ_=>⟨λ⟨j,hj,e⟩=>?_,λe=>⟨0,List.mem_singleton.2 rfl,?_⟩⟩
 ·rw[List.mem_singleton.1 hj] at e;rw[←e,a]
 ·rw[a,e]
theorem SH (j:Na n G L K rs)(f:Cn n G L K){a:LN}(i:XO n L [0]=true)(g:L.getD 0 []=bT n)(h:YD n L Rp Cg ([0]::a)=true):rs= [0]::a:=by
 obtain⟨r,c,k⟩:=j.ex;have d:=XO.ok hG E i;have e:=WG d g;have b:=c.hd;rw[e] at b;exact YD.ok hG E c k f a [0] 0 b d h
end
theorem ahI {K:List Nat}{rs:LN}(b:Na 4 (cG 4 (· ∈OJ)) YC K rs)(a:Cn 4 (cG 4 (· ∈OJ)) YC K):rs= [[0], [0,7,16,23], [0,3,4,7,8,11,12,15,16,19,20,23],List.range 24]:=SH (Rp:= [1,3,7,9]) (Cg:= [0,2,8]) (cG.dH XM) DB b a (by decide+kernel) rfl (by decide+kernel)
theorem EA:dZ (cG 4 (· ∈Vz)) Bi:=EI.FX (ws:= [[], [0], [1], [0,1]]) (by decide+kernel)
theorem aiR {i:Nat}(g:i<4)(l:i∉ [0]):Ls 4 (cG 4 (· ∈Vz)) Bi [0] i= [0,i]/\Ix 4 (cG 4 (· ∈Vz)) Bi [0,i]/\YD 4 Bi [1,2,3] [0] [[0,i],List.range 4]=true:=by
 have hG:=cG.dH TF;have E:=EA;have k:Ix 4 (cG 4 (· ∈Vz)) Bi [0]:=XO.ok hG E (by decide+kernel);have f: ∀i,i<4->i∉ [0]->XO 4 Bi [0,i]=true/\YD 4 Bi [1,2,3] [0] [[0,i],List.range 4]=true:=by decide+kernel
 obtain⟨s,v⟩:=f i g l;have c:Ix 4 (cG 4 (· ∈Vz)) Bi [0,i]:=XO.ok hG E s;refine⟨xC (IK hG E k g).rk.asc c.rk.asc λt=>?_,c,v⟩;obtain⟨u,o,_⟩:=Vd k g l;refine⟨λd=>?_,λd=>?_⟩
 ·obtain⟨p,w⟩:=(My t).1 d
  refine (c.rk.mem t).2 ⟨p,NC.le w c.dH (λa h=>h.elim (λ⟨j,hj,e⟩=>⟨j,by rw[List.mem_singleton.1 hj];exact Co,e⟩) λe=>by rw[e];exact⟨i,by simp,rfl⟩) λa b q m=>c.nm a b q m⟩
 ·rcases Gr.1 d with rfl|d
  ·exact u 0 Co
  ·rw[List.mem_singleton.1 d];exact o
theorem agI {K:List Nat}{rs:LN}(q:Na 4 (cG 4 (· ∈Vz)) Bi K rs)(b:Cn 4 (cG 4 (· ∈Vz)) Bi K): ∃i,i<4/\i∉ [0]/\rs= [[0], [0,i],List.range 4]/\Ql 4 (cG 4 (· ∈Vz)) Bi K [0]= [0,i]:=by
 obtain⟨r,c,o⟩:=q.ex;have hG:=cG.dH TF;have E:=EA;have g:Ix 4 (cG 4 (· ∈Vz)) Bi [0]:=XO.ok hG E (by decide+kernel);have a:=c.hd;rw[WG g rfl] at a;have k:=(zG.1 a).1
 have j:0+1<rs.length:=Nat.lt_of_not_le λh=>by
  have f:=c.la;rw[show rs.length- 1=0 by omega,a] at f;cases f;cases o
 have e:=(c.st 0 _ _ a (dF j)).2;obtain⟨⟨i,hi,m,d⟩,_⟩:=Hv hG E g b (show 1<4 by omega);have l:i<4:=b.lt hi;obtain⟨s,p,t⟩:=aiR l m;rw[s] at d;rw[d] at e;have:=YD.ok hG E c o b [List.range 4] [0,i] 1 (by rw[dF j,e]) p t;refine⟨i,l,m,?_,d⟩;rw[←List.take_append_drop 1 rs,this,List.take_succ_eq_append_getElem k];rw[dF k] at a;rw[Option.some.inj a]
 rfl
theorem afE {K:List Nat}{rs:LN}(b:Na 4 (cG 4 (· ∈Vz)) Bi K rs)(a:Cn 4 (cG 4 (· ∈Vz)) Bi K):rs.map List.length= [1,2,4]:=by
 obtain⟨i,_,_,e,_⟩:=agI b a;rw[e];rfl
abbrev LA5:LN:= [[0,1,2,3,4], [0,1,3,4,2], [0,1,4,2,3], [0,2,1,4,3], [0,2,3,1,4], [0,2,4,3,1], [0,3,1,2,4], [0,3,2,4,1], [0,3,4,1,2], [0,4,1,3,2], [0,4,2,1,3], [0,4,3,2,1], [1,0,2,4,3], [1,0,3,2,4], [1,0,4,3,2], [1,2,0,3,4], [1,2,3,4,0], [1,2,4,0,3], [1,3,0,4,2], [1,3,2,0,4], [1,3,4,2,0], [1,4,0,2,3], [1,4,2,3,0], [1,4,3,0,2], [2,0,1,3,4], [2,0,3,4,1], [2,0,4,1,3], [2,1,0,4,3], [2,1,3,0,4], [2,1,4,3,0], [2,3,0,1,4], [2,3,1,4,0], [2,3,4,0,1], [2,4,0,3,1], [2,4,1,0,3], [2,4,3,1,0], [3,0,1,4,2], [3,0,2,1,4], [3,0,4,2,1], [3,1,0,2,4], [3,1,2,4,0], [3,1,4,0,2], [3,2,0,4,1], [3,2,1,0,4], [3,2,4,1,0], [3,4,0,1,2], [3,4,1,2,0], [3,4,2,0,1], [4,0,1,2,3], [4,0,2,3,1], [4,0,3,1,2], [4,1,0,3,2], [4,1,2,0,3], [4,1,3,2,0], [4,2,0,1,3], [4,2,1,3,0], [4,2,3,0,1], [4,3,0,2,1], [4,3,1,0,2], [4,3,2,1,0]]
theorem RL:dZ (cG 5 (· ∈UP)) LA5:=EI.FX (ws:= [[], [1,0,0], [0,1,1,1,1], [1,0,1,0,0,1,1], [1,1,1,1,0,1], [0,1,1,1,0,1], [1,0,1,1,1], [0,1,0], [1,1,0], [1,0,1,0,1,1], [0,0,1,0,1,1], [0,1,0,1,0,0], [1,0,1,0,1,1,1], [0,0,1,0,1,1,1], [0,1,0,1,0,0,1], [0], [1], [1,0,0,1], [0,1,0,0], [1,0,1,1,1,0], [1,1,0,0], [1,1,0,1], [1,0,1,1,1,1], [0,1,0,1], [0,0], [1,0], [0,1,0,1,1], [0,1,0,1,0,0,1,1], [0,0,1,0,1,1,1,0], [0,0,1,0,1,1,1,1], [1,0,0,1,1], [0,1], [1,1], [1,1,0,0,1], [0,1,0,0,1], [0,1,0,1,0], [0,0,1,0,0], [0,1,0,0,1,1], [1,0,1,0,0], [0,1,0,1,1,1], [0,0,1], [1,0,1], [0,0,1,0], [0,1,0,1,1,1,0], [1,0,1,0], [1,1,1], [1,1,1,0], [0,1,1], [1,1,1,1], [1,1,1,0,1], [0,1,1,1], [1,0,1,0,0,1], [1,1,1,1,0], [0,1,1,1,0], [1,0,1,1], [0,1,0,1,1,1,1], [0,0,1,1], [1,0,1,0,1], [0,0,1,0,1], [0,0,1,0,1,0]]) (by decide+kernel)
theorem ahT {K:List Nat}{rs:LN}(b:Na 5 (cG 5 (· ∈UP)) LA5 K rs)(a:Cn 5 (cG 5 (· ∈UP)) LA5 K):rs= [[0],List.range 60]:=SH (Rp:= [1,3,16,17]) (Cg:= [0,1,30]) (cG.dH aeK) RL b a (by decide+kernel) rfl (by decide+kernel)
end
theorem SA {W:Nat->Prop}(vc:V)(n:Nat)(O:LN)(R:fM)(G:List Nat->Prop)(h:H)(q:GC W h vc n O R G):
  Ev T 42 [vc] h (λv h'=>v= aC (fV O n 0:Nat)/\Fr h h'):=by
 obtain⟨y,Y,e,a1,rfl,t,oO,pO,sR,oR,aR⟩:=q.cw
 refine cT Hy rfl ?_
 have k:=(SV.cF t).2.1
 have p:=(SV.cF sR).2.1
 have c:=q.isc
 have n7:=q.n7
 have a0:=fK q
 have lO:=aM.length pO
 rw[c.lo] at lO
 obtain⟨B,N⟩:=exI h.next
 obtain⟨P,e1,n1,Q,o1,A⟩:=cU N [aC n,y,Y]
 have o:bF y=some (aC n):=by unfold bF;rw[SV.len t (n:=n) om om];rfl
 obtain⟨F,s,z,l,cO⟩:=SV.shape t n om om
 simp(disch:=omega)only[go_sem,Hy,aD,aQ h (v:= aC n) (u:=y) (w:=Y) rfl k p,N,e1]
 refine aI (λk' b L=> ∃(i a:Nat),(∃g:Nat->V,b= [g 0,.ptr B 0,g 2,aC a,aC i,g 5])/\i<=n/\a*fV O (n-i) i=fV O n 0/\L=P/\k'=n-i) n
  ⟨0,1,aB rfl,fR _,by rw[Nat.one_mul];rfl,rfl,rfl⟩ ?_
 rintro k' b L ⟨i,a,⟨g,rfl⟩,hi,d,rfl,rfl⟩
 by_cases r:(i:Int)<(n:Int)
 case neg=>
  have J:=bE r;obtain rfl:i=n:=om
  simp(disch:=omega)only[go_sem,H.aF Q,o,J];rw[Nat.sub_self] at d;have:fV O 0 i=1:=rfl;rw[this,uH] at d;exact⟨by rw[d],A⟩
 have J:=bN r
 have f:i<n:=om
 have x:=aM.get pO i om (by rw[c.lo];exact f)
 rw[show O[i]'(by rw[c.lo];exact f)=O.getD i [] from mG _] at x
 have U:L.cell F (s+i)=some (e[i]'om):=by
  rw[A.cell (l om),cO i om,dF om]
 generalize e[i]'om=vo at x U
 have K:=(x.si.mono A).lens
 rw[aN] at K
 have st:fV O (n-i) i=(O.getD i []).length*fV O (n-(i+1)) (i+1):=by
  rw[show n-i=(n-(i+1))+1 by omega];rfl
 have pos:=xX (O:=O) (n-(i+1)) (i+1) (λj P h2=>(q.row om).1)
 obtain⟨m,Z⟩:=exI ((O.getD i []).length)
 rw[st,←Nat.mul_assoc,Z] at d
 rw[Z] at K
 have bd:a*m<=fV O n 0:=by rw[←d];exact Nat.le_mul_of_pos_right _ pos
 have em:(a:Int)*(m:Int)=((a*m:Nat):Int):=rfl
 obtain⟨w,hw⟩:=exI (a*m)
 rw[hw] at em bd d
 simp(disch:=omega)only[go_sem,H.aF Q,o,J,z.ixa,U,K,em]
 rw[dU i]
 exact⟨n-(i+1),om,i+1,w,aB rfl,om,d,rfl⟩
theorem ZP {h:H}{id o:Nat}{a b c:V}(r:h.row id o 3=some [a,b,c]):h.cell id (o+1)=some b:=by
 unfold H.row at r;unfold H.cell;split at r
 ·rename_i f d e
  rw[e];simp only[sub] at r;split at r
  ·have r:=Option.some.inj r
   have:=congrArg (λl:List V=>l[1]?) r;simp at this;exact this
  ·cases r
 ·cases r
theorem Pq {W:Nat->Prop}(x z:V)(n:Nat)(ls:List (V×V))(l:List oQ)(a:List Nat)(h:H)(sv:SV h x 3 (Kk n ls))(al:aM (λp (e:oQ)=> ∃G,GC W h (.agg [aC n,p.1,p.2]) n e.1 e.2 G) ls l)(l6:l.length<=6000)(O:SI h z (zi a))(N:l.map (λe=>fV e.1 n 0)=a):
  Ev T 29 [x,aC 0,z] h (λv h'=>v= .bool true/\Fr h h'):=by
 refine cT Dc rfl ?_
 have Y:=aM.length al
 have L:a.length=l.length:=by rw[←N,iN]
 have J:bF x=some (aC (l.length:Int)):=by unfold bF;rw[SV.len sv (n:=l.length) (by rw[iS,Y]) om];rfl
 have r:=O.lens
 rw[aN,L] at r
 have Z:decide ((0:Int)≠0)=false:=rfl
 have d1:decide ((l.length:Int)≠(l.length:Int))=false:=bE λh=>h rfl
 obtain⟨q,f,w,c,t⟩:=O.open
 rw[aN,L] at w c t
 simp(disch:=omega)only[go_sem,Dc,aD,Z,J,r,d1]
 refine aI (λQ j o=> ∃(i:Nat),(∃g:Nat->V,j= [x,aC 0,z,g 3,aC i,g 5,g 6,g 7])/\i<=l.length/\Fr h o/\Q=l.length-i) l.length
  ⟨0,aB rfl,fR _,Fr.refl h,rfl⟩ ?_
 rintro Q j o ⟨i,⟨g,rfl⟩,hi,F,rfl⟩
 by_cases s:(i:Int)<(l.length:Int)
 case neg=>
  have B:=bE s;simp(disch:=omega)only[go_sem,J,B];exact F
 have B:=bN s
 have m:i<l.length:=om
 obtain⟨r1,o1,y,K⟩:=uM (sv.mono F) (i:=i) om
 obtain⟨G1,b⟩:=aM.get al i om m
 have u:a.getD i 0=fV l[i].1 n 0:=by rw[←N,List.getD,Wy,dF m];rfl
 generalize ls[i]'om=p1 at K b
 generalize l[i]=e at b u
 have R:o.cell q (f+i)=some (aC (fV e.1 n 0:Nat)):=by
  rw[F.cell (c om),t i m,←u];congr 2;exact iD (λk:Nat=>(k:Int)) (d:=0) om
 have lp:bF p1.1=some (aC n):=by
  obtain⟨vO,vR,a0,a1,U,sO,oO,pO,_⟩:=b.cw;simp only[V.agg.injEq,List.cons.injEq,true_and,and_true] at U;rw[U.1];have lO:=aM.length pO;rw[b.isc.lo] at lO;unfold bF;rw[SV.len sO (n:=n) om om];rfl
 have d3:decide ((n:Int)=0)=false:=bE (by have:=b.n0;omega)
 have d4:decide (((fV e.1 n 0:Nat):Int)≠((fV e.1 n 0:Nat):Int))=false:=bE λh=>h rfl
 have P:Fr o (H.mk o.tr (o.next+19)):=(Fr.refl o).bH om
 simp(disch:=omega)only[go_sem,J,B,y.ixa,ZP K,lp,d3,K,w.ixa,R]
 refine (SA _ n e.1 e.2 G1 _ (b.mono (F.trans P))).mono ?_
 rintro _ h2 ⟨rfl,f2⟩
 have F2:=P.trans f2
 have A:h2.cell q (f+i)=some (aC (fV e.1 n 0:Nat)):=by rw[F2.cell (by have:=c om;have:=F.next;omega)];exact R
 simp(disch:=omega)only[go_sem,A,d4,dB]
 refine⟨by simp,?_⟩
 rw[dU i]
 exact⟨l.length-(i+1),om,i+1,aB rfl,om,F.trans F2,rfl⟩
section
variable {L rs:LN} {K:List Nat}
def afO (h:H)(neg:Bool)(x y:V):Option (V×H):=match x,y with
 | .str a,.str b=>some (.bool (if neg then !(a.map (· %256)==b.map (· %256)) else a.map (· %256)==b.map (· %256)),h)
 |_,_=>none
theorem adD (ρ:X->V)(h:H)(neg:Bool)(x y:X):cK ρ h (.seq neg x y)=afO h neg (ρ x) (ρ y):=by
 simp only[cK,afO]
 rfl
theorem PY (h:H)(a:List Nat):afO h true (.str a) (.str a)=some (.bool false,h):=by
 show some (V.bool (!(_==_)),h)=_;rw[beq_self_eq_true];rfl
theorem adW (d e:V)(l:LN)(h:H)(z:l.length<1000000)(t:SV h d 1 (l.map V.str))(p:SV h e 1 (l.map V.str)):
  Ev T 17 [d,e] h (λv h'=>v= .bool true/\Fr h h'):=by
 refine cT vB rfl ?_
 have f:(l.map V.str).length=l.length*1:=by rw[iN];omega
 have j:bF d=some (aC (l.length:Int)):=by unfold bF;rw[SV.len t f om];rfl
 have lb:bF e=some (aC (l.length:Int)):=by unfold bF;rw[SV.len p f om];rfl
 have u:decide ((l.length:Int)≠(l.length:Int))=false:=bE λh=>h rfl
 simp(disch:=omega)only[go_sem,vB,aD,j,lb,u]
 refine aI (λq a b=> ∃(i:Nat),(∃g:Nat->V,a= [d,e,g 2,aC i,g 4,g 5,g 6])/\i<=l.length/\Fr h b/\q=l.length-i) l.length
  ⟨0,aB rfl,fR _,Fr.refl h,rfl⟩ ?_
 rintro q a b ⟨i,⟨g,rfl⟩,hi,F,rfl⟩
 by_cases c:(i:Int)<(l.length:Int)
 case neg=>
  have m:=bE c;simp(disch:=omega)only[go_sem,j,m];exact F
 have m:=bN c
 have o:i<l.length:=om
 obtain⟨G,B,n,_,w⟩:=(t.mono F).shape l.length f om
 obtain⟨J,A,k,_,y⟩:=(p.mono F).shape l.length f om
 have s:=w i om
 have r:=y i om
 rw[Wy,dF o] at s r
 have x:Fr b (H.mk b.tr (b.next+9)):=(Fr.refl b).bH om
 simp(disch:=omega)only[go_sem,j,m,n.ixa,s,k.ixa,r,adD,PY]
 rw[dU i]
 exact⟨l.length-(i+1),om,i+1,aB rfl,om,F.trans x,rfl⟩
theorem Vs {W:Nat->Prop}(l d:V)(n:Nat)(O:LN)(R:fM)(G:List Nat->Prop)(a:LN)(h:H)(b:GC W h l n O R G)(F:SV h d 1 (a.map V.str))(q: ∀L K rs,dZ G L->Cn n G L K->Na n G L K rs->Oa rs=a):
  Ev T 45 [l,d] h (λv h'=>v= .bool true/\Fr h h'):=by
 obtain⟨i,g,rfl,p,m⟩:=b.shape
 refine cT zD rfl ?_
 obtain⟨A,k⟩:=exI h.next
 obtain⟨s,r,Q,y,P,f⟩:=cU k [aC n,i,g]
 simp(disch:=omega)only[go_sem,zD,aD,aQ h (v:= aC n) (u:=i) (w:=g) rfl p m,k,r,aG y]
 refine (EZ _ n O R G s (b.mono f)).mono ?_
 rintro _ z ⟨t,L,K,rs,rfl,B,o,x,sv,c,j⟩
 have E:=(dL b.dH b.isc).1
 rw[B] at E
 have e:=q L K rs E o x
 rw[e] at sv c
 simp(disch:=omega)only[go_sem,eq_self,decide_true]
 refine (adW t d a z om sv (F.mono (f.trans j))).mono ?_
 rintro _ N ⟨rfl,J⟩
 simp(disch:=omega)only[go_sem]
 exact f.trans (j.trans J)
theorem Zg {n:Nat}(h:n<=9):vT n= [48+n]:=by unfold vT;rw[bL om]
theorem ahD (E:dZ (cG 4 (· ∈OJ)) L)(a:Cn 4 (cG 4 (· ∈OJ)) L K)(b:Na 4 (cG 4 (· ∈OJ)) L K rs):Oa rs= [[67,50], [67,50], [67,50], [67,51]]:=by
 obtain rfl:=E.uniq DB;rw[ahI b a];have e:Oa=λrs=>(Lz (mJ (rs.map List.length))).map Prod.snd:=rfl
 rw[e];simp [mJ,iM,Er,NW,OI,Lz,Dw,Zg,List.replicate]
theorem ahQ (E:dZ (cG 4 (· ∈Vz)) L)(a:Cn 4 (cG 4 (· ∈Vz)) L K)(b:Na 4 (cG 4 (· ∈Vz)) L K rs):Oa rs= [[67,50], [67,50]]:=by
 obtain rfl:=E.uniq EA;unfold Oa;rw[afE b a];simp [mJ,iM,Er,NW,OI,Lz,Dw,Zg,List.replicate]
theorem agS (E:dZ (cG 5 (· ∈UP)) L)(a:Cn 5 (cG 5 (· ∈UP)) L K)(b:Na 5 (cG 5 (· ∈UP)) L K rs):Oa rs= [[65,53]]:=by
 obtain rfl:=E.uniq RL;unfold Oa;rw[ahT b a];simp [mJ,iM,Er,NW,OI,Lz,Dw,Es]
end
theorem ahR (h:H)(x y z w:List Nat):mH h 1 [.str []] 4 [(0,1,.str x),(1,1,.str y),(2,1,.str z),(3,1,.str w)]=some (.sl h.next 0 4 (.kn 4),h.new (.cells false [.str x,.str y,.str z,.str w])):=rfl
theorem agW (h:H)(x y:List Nat):mH h 1 [.str []] 2 [(0,1,.str x),(1,1,.str y)]=some (.sl h.next 0 2 (.kn 2),h.new (.cells false [.str x,.str y])):=rfl
theorem agH (h:H)(x:List Nat):mH h 1 [.str []] 1 [(0,1,.str x)]=some (.sl h.next 0 1 (.kn 1),h.new (.cells false [.str x])):=rfl
theorem CZ (h:H):Ev T 11 [] h (λv h'=>v= .bool true/\Fr h h'):=by
 refine cT Cs rfl ?_;simp(disch:=omega)only[go_sem,Cs,aD];refine (Zp h).mono ?_;rintro _ h1 ⟨c0,c1,c2,c3,O0,R0,O1,R1,O2,R2,O3,R3,rfl,d,x,k,p,f1⟩;obtain⟨p0,Y,rfl,a0,b0⟩:=d.shape;obtain⟨p1,q1,rfl,a1,b1⟩:=x.shape;obtain⟨p2,q2,rfl,a2,b2⟩:=k.shape;obtain⟨p3,q3,rfl,a3,b3⟩:=p.shape;obtain⟨A,hA⟩:=exI h1.next;obtain⟨k1,e1,n1,g1,o1,F1⟩:=cU hA [aC 0,.aE,.aE];obtain⟨k2,e2,n2,g2,o2,F2⟩:=cU n1 [aC 0,.aE,.aE];obtain⟨k3,e3,n3,g3,o3,F3⟩:=cU n2 [aC 0,.aE,.aE];obtain⟨s,e4,n4,g4,B,F4⟩:=cU n3 [aC 0,.aE,.aE];have z1:s.get A=aY [aC 0,.aE,.aE]:=by rw[B _ om,o3 _ om,o2 _ om];exact g1
 have z2:s.get (A+1)=aY [aC 0,.aE,.aE]:=by rw[B _ om,o3 _ om];exact g2
 have z3:s.get (A+1+1)=aY [aC 0,.aE,.aE]:=by rw[B _ om];exact g3
 obtain⟨k5,e5,n5,g5,J⟩:=mD s A [aC (4:Nat),p0,Y];obtain⟨k6,e6,n6,g6,N⟩:=mD k5 (A+1) [aC (4:Nat),p1,q1];obtain⟨Z,e7,n7,g7,O⟩:=mD k6 (A+1+1) [aC (4:Nat),p2,q2];obtain⟨c,e8,n8,g8,F⟩:=mD Z (A+1+1+1) [aC (5:Nat),p3,q3];have y2:k5.get (A+1)=aY [aC 0,.aE,.aE]:=by rw[J _ om];exact z2
 have y3:k6.get (A+1+1)=aY [aC 0,.aE,.aE]:=by rw[N _ om,J _ om];exact z3
 have y4:Z.get (A+1+1+1)=aY [aC 0,.aE,.aE]:=by rw[O _ om,N _ om,J _ om];exact g4
 have b:Fr h1 c:=⟨om,λq hq=>by rw[F q om,O q om,N q om,J q om,B q om,o3 q om,o2 q om,o1 q om]⟩
 have r1: ∀a,Fr c a->a.row A 0 3=some [aC (4:Nat),p0,Y]:=λa f=>aG (by rw[f.get A om,F _ om,O _ om,N _ om];exact g5)
 have r2: ∀a,Fr c a->a.row (A+1) 0 3=some [aC (4:Nat),p1,q1]:=λa f=>aG (by rw[f.get _ om,F _ om,O _ om];exact g6)
 have r3: ∀a,Fr c a->a.row (A+1+1) 0 3=some [aC (4:Nat),p2,q2]:=λa f=>aG (by rw[f.get _ om,F _ om];exact g7)
 have r4: ∀a,Fr c a->a.row (A+1+1+1) 0 3=some [aC (5:Nat),p3,q3]:=λa f=>aG (by rw[f.get _ om];exact g8)
 simp(disch:=omega)only[go_sem,hA,e1,n1,e2,n2,e3,n3,e4,bI s A 0 (v:= aC (4:Nat)) (u:=p0) (w:=Y) rfl a0 b0,z1,bG,e5,bI k5 (A+1) 0 (v:= aC (4:Nat)) (u:=p1) (w:=q1) rfl a1 b1,y2,e6,bI k6 (A+1+1) 0 (v:= aC (4:Nat)) (u:=p2) (w:=q2) rfl a2 b2,y3,e7,bI Z (A+1+1+1) 0 (v:= aC (5:Nat)) (u:=p3) (w:=q3) rfl a3 b3,y4,e8,r1 c (Fr.refl _)];refine (Ei _ 4 O0 R0 _ c (d.mono b)).mono ?_;rintro _ h2 ⟨v2,b8,l2,rfl,s2,b7,tU,f2⟩;simp(disch:=omega)only[go_sem,r3 h2 f2];refine (Ny _ 4 O2 R2 _ h2 (k.mono (b.trans f2))).mono ?_;rintro _ h3 ⟨v3,b9,l3,rfl,s3,R,c8,f3⟩;have w2:=PW d.isc tU;have w3:=VK k.isc c8;have L2:l2.length<=6000:=by have:=congrArg List.length w2;rw[iN] at this;rw[this];decide
 have L3:l3.length<=6000:=by have:=congrArg List.length w3;rw[iN] at this;rw[this];decide
 obtain⟨h4,c7,d9,c9,d7,f4⟩:=cU (h:=h3) rfl (ints [24,12,4,1]);have y:=f3.trans f4;simp(disch:=omega)only[go_sem,Ur,c7];have b4: ∀q,Fr c q->Fr h q:=λq f=>f1.trans (b.trans f)
 refine (Pq v2 _ 4 b8 l2 [24,12,4,1] h4 (s2.mono y) (aM.mono (λ_ _ ⟨G,g,_⟩=>⟨G,g.mono y⟩) b7) L2 (SV.all rfl om c9 _) w2).mono ?_;rintro _ h5 ⟨rfl,f5⟩;obtain⟨h6,b6,d1,a5,d6,f6⟩:=cU (h:=h5) rfl (ints [8,2,1]);have c5:=f5.trans f6;have l:=f4.trans c5;simp(disch:=omega)only[go_sem,ahU,b6];refine (Pq v3 _ 4 b9 l3 [8,2,1] h6 (s3.mono l) (aM.mono (λ_ _ ⟨G,g,_⟩=>⟨G,g.mono l⟩) R) L3 (SV.all rfl om a5 _) w3).mono ?_;rintro _ P ⟨rfl,f7⟩;have t:Fr c P:=f2.trans (f3.trans (l.trans f7));obtain⟨h8,c4,d5,a9,d2,f8⟩:=cU (h:=P) rfl [.str [67,50],.str [67,50],.str [67,50],.str [67,51]];have r:=t.trans f8;simp(disch:=omega)only[go_sem,r1 P t,ahR,c4];refine (Vs _ _ 4 O0 R0 _ [[67,50], [67,50], [67,50], [67,51]] h8 (d.mono (b.trans r)) (SV.all (len:=4) rfl om a9 _) λL K rs E m o=>ahD E m o).mono ?_;rintro _ h9 ⟨rfl,f9⟩;have z:=r.trans f9;obtain⟨a7,a6,d8,a4,e0,b5⟩:=cU (h:=h9) rfl [.str [67,50],.str [67,50]];have e:=z.trans b5;simp(disch:=omega)only[go_sem,r2 h9 z,agW,a6];refine (Vs _ _ 4 O1 R1 _ [[67,50], [67,50]] a7 (x.mono (b.trans e)) (SV.all (len:=2) rfl om a4 _) λL K rs E m o=>ahQ E m o).mono ?_;rintro _ n ⟨rfl,a8⟩;have i:=e.trans a8;obtain⟨c6,W,d3,U,d4,d0⟩:=cU (h:=n) rfl [.str [65,53]];have j:=i.trans d0;simp(disch:=omega)only[go_sem,r4 n i,agH,W];refine (Vs _ _ 5 O3 R3 _ [[65,53]] c6 (p.mono (b.trans j)) (SV.all (len:=1) rfl om U _) λL K rs E m o=>agS E m o).mono ?_;rintro _ e9 ⟨rfl,Q⟩;simp(disch:=omega)only[go_sem];exact b4 _ (j.trans Q)
end Go.Proofs.YtcdbmkidaecdiaaGreat
