/- Texts of the claim. -/
import Derived.Test.YtcdbmkidaecdiaaGreatP8atoU49
import Derived.Test.YtcdbmkidaecdiaaGreatP6atoP5c
import Derived.Test.YtcdbmkidaecdiaaGreatDp2toDp7
set_option maxHeartbeats 64000000
namespace Go.Proofs.YtcdbmkidaecdiaaGreat
open Go Go.Ay Go.Pm
set_option maxRecDepth 100000
def BM (W:Nat->Prop)(n:Nat)(L:LN)(h:H)(p:V×V)(r:List Nat):Prop:= ∃O R,GC W h (.agg [aC n,p.1,p.2]) n O R (RG L r)
theorem BM.go {W W':Nat->Prop}{n:Nat}{L:LN}{h h':H}{p:V×V}{r:List Nat}(g:BM W n L h p r)(f:Fx W h h')(a: ∀q,q<h.next->W' q->W q):BM W' n L h' p r:=by
 obtain⟨O,R,g⟩:=g;exact⟨O,R,g.go f a⟩
structure WkJ (n:Nat)(L:LN)(Q:Nat)(h0 hh:H)(fd:LN):Prop where
 g8:hh.get (Q+1)=bB [.ptr Q 0]
 ex: ∃vf,hh.get Q=bB [vf]/\NmL (λq=>q<Q+2) n L (Q+2) hh vf fd
 fr:Fr h0 hh
 nx:Q+2<=hh.next
 len:fd.length<=6000
theorem TS {n:Nat}{G:List Nat->Prop}{L:LN}{r:List Nat}: ∀(K:List Nat) (l:LN),(K.foldl (λl i=>if i∈r then l else uD l (Ai n G L r i)) l).length<=l.length+K.length
 | [],l=>fN _
 |k::K,l=>by
  rw[List.foldl_cons,List.length_cons];refine mY (TS K _) ?_;split
  ·omega
  ·unfold uD
   split
   ·omega
   ·rw[iV];show l.length+1+_<=_;omega
theorem Vh {α:Type}[Inhabited α](l:List (List α))(f:List α->Bool):oT (λi=>f (l.getD i [])) l=l.filter λa=>!f a:=by
 have b: ∀i,i<=l.length->oT (λi=>f (l.getD i [])) (l.take i)=(l.take i).filter λa=>!f a:=by
  intro i
  induction i with
  |zero=>exact λ_=>rfl
  |succ i ih=>
   intro hi;rw[qS om,ih om,List.take_succ_eq_append_getElem om,List.filter_append,List.getD,dD om,Option.getD_some];cases h:f l[i]<;>simp [h]
 have:=b l.length (fN _);rwa [List.take_length] at this
def Xk (h:H):V->Option (V×H)
 | .nilm=>some (aC 0,h)
 | .mp id=>match h.get id with|some (.wmap _ es)=>some (aC es.length,h)|_=>none
 |_=>none
theorem AL (ρ:X->V)(h:H)(x:X):fC ρ h (.lenm x)=Xk h (ρ x):=by
 simp only[fC,Xk]
 rfl
theorem TE {h:H}{M:Nat}{L:LN}(g:h.get M=some (.wmap .str (Jl L L.length))):Xk h (.mp M)=some (aC (L.length:Int),h):=by
 show (match h.get M with|some (.wmap _ es)=>some (aC es.length,h)|_=>none)=_;rw[g];simp [Jl]
theorem Po {W0:Nat->Prop}(vc:V)(n:Nat)(O:LN)(R:jJ)(G:List Nat->Prop)(h:H)(gc:GC W0 h vc n O R G):
  Ev T 12 [vc] h (λv h'=> ∃vl ls L K rs,v= .tup [vl,aC 0]/\dM O R n 0 (aX n)=L/\Ab n G L K/\zC n G L K rs/\SV h' vl 3 (Mj n ls)/\aN (BM (λ_=>False) n L h') ls rs/\Fr h h'):=by
 obtain⟨vO,vR,rfl,i2,d7⟩:=gc.shape
 refine dW Co rfl ?_
 obtain⟨A,hA⟩:=exI h.next
 obtain⟨h1,e1,n1,g1,q1,f1⟩:=dK hA [aC n,vO,vR]
 simp(disch:=omega)only[go_sem,Co,aE,bV h (v:= aC n) (u:=vO) (w:=vR) rfl i2 d7,hA,e1,aJ g1]
 refine (IX _ n O R G h1 (gc.mono f1)).mono ?_
 rintro _ J ⟨T0,L,K,rfl,Ag,f2⟩
 obtain⟨ll,E,hG,n2,n0,n7⟩:=Ag.few
 have ik:=Ag.isK
 have eL:=Ag.hL
 have F2:=f1.trans f2
 simp(disch:=omega)only[go_sem]
 refine bA (λhc=>(hc rfl).elim) (λ_=>?_)
 simp(disch:=omega)only[go_sem]
 refine (HU T0 n O R G L K J Ag).mono ?_
 rintro _ h3 ⟨p0,rfl,d0,f3⟩
 obtain⟨o1,o2,o3⟩:=d0.one
 obtain⟨y,e7⟩:=exI h3.next
 obtain⟨h4,e4,n4,g4,q4,f4⟩:=dK e7 [aC 0,.aD,.aD,.aD]
 obtain⟨h5,e5,n5,g5,q5⟩:=mV h4 y (Bz n p0)
 obtain⟨h6,e6,n6,g6,q6,f6⟩:=dK (h:=h5) (n5.trans n4) [aC n,p0.1,p0.2.1]
 have d9: ∀{t:H} {id:Nat} {a b c d:V},t.get id=bB [a,b,c,d]->t.row id 0 3=some [a,b,c]:=λhg=>by simp [H.row,hg,sub]
 simp(disch:=omega)only[go_sem,e7,e4,kV h4 y 0 (a:= aC n) (b:=p0.1) (c:=p0.2.1) (d:=p0.2.2) rfl o1 o2 o3,g4,jS,e5,d9 g5,Va h5 (d:=(n:Int)) o1 o2,n5,n4,e6]
 have m5:=f3.next
 have l0:Fr J h6:=⟨om,λq hq=>by rw[q6 q om,q5 q om,q4 q om,f3.get q hq]⟩
 have e0:h6.get y=bB (Bz n p0):=by rw[q6 _ om];exact g5
 have j0:Fr h3 h6:=⟨om,λq hq=>by rw[q6 q om,q5 q om,q4 q om]⟩
 have w0: ∀q,q<h3.next->(q=y∨bY (.sl (y+1) 0 1 (.kn 1)) q)->q<J.next:=λq h1 J=>by
  rcases J with e|⟨_,_,_,e⟩
  ·omega
  ·cases e;omega
 have c5:Nm (λq=>q=y∨bY (.sl (y+1) 0 1 (.kn 1)) q) n L h6 p0 (Lf L λx=>x=aX n):=(d0.go (Fx.refl _ _) w0).mono j0
 obtain⟨K',l8⟩: ∃x,K=x:=⟨_,rfl⟩
 refine aI (λk' N t=> ∃(r:List Nat) (p:V×V×V) (vl:V) (ls:List (V×V)) (rs:LN),(∃g:Nat->V,N= [g 0,g 1,g 2,g 3,.ptr T0 0,g 5,.ptr y 0,vl,g 8,g 9,g 10,g 11,g 12,g 13,g 14,g 15,g 16,g 17])/\t.get y=bB (Bz n p)/\Nm (λq=>q=y∨bY vl q) n L t p r/\dH t vl 3 (Mj n ls) (y+1)/\aN (BM (λq=>q=y∨bY vl q) n L t) ls rs/\Ec n G L K rs r/\Fr J t/\y<t.next/\k'=L.length-r.length) (L.length-(Lf L λx=>x=aX n).length)
  ⟨_,p0,_, [(p0.1,p0.2.1)], [Lf L λx=>x=aX n],aB rfl,e0,c5,.inr ⟨y+1,1,_, [],rfl,rfl,.inr ⟨rfl,rfl⟩,om,om,g6⟩,⟨c5.ch,trivial⟩,Ec.start hG E,l0,om,rfl⟩ ?_
 clear c5 w0 e0 g6 q6 q5 g5 g4 q4 d0
 rintro k' N t ⟨r,p,vl,ls,rs,⟨g,rfl⟩,g6,nm,ow,al,cb,F,i6,rfl⟩
 have kr:yW n G L r:=cb.all r (Xu cb.la)
 obtain⟨lO,lR,M,lr,gT,gM,_,d5,nM⟩:=(Ag.mono F).ex
 have lv:=nm.si.lens
 rw[aS] at lv
 have lm: ∀k,Xk (H.mk t.tr k) (.mp M)=some (aC (L.length:Int),H.mk t.tr k):=λk=>TE gM
 by_cases g2:(r.length:Int)<(L.length:Int)
 case neg=>
  have d1:=bI g2;simp(disch:=omega)only[go_sem,H.aF g6,H.aF gT,lv,AL,lm,d1];have fb:Fr t (H.mk t.tr (t.next+9)):=(Fr.refl t).bH om;exact⟨vl,ls,L,K,rs,rfl,eL,ik,⟨r,cb,by have:=kr.rk.short;omega⟩,ow.sv.mono fb,aN.mono (λ_ _ x=>BM.go x (Fx.of fb) λ_ _ h=>h.elim) al,F2.trans (F.trans fb)⟩
 have d1:=cI g2
 have hr:r.length<L.length:=om
 obtain⟨hx,a3⟩: ∃x,H.mk t.tr (t.next+9)=x:=⟨_,rfl⟩
 have fx:Fr t hx:=by rw[←a3];exact (Fr.refl t).bH om
 have nx:hx.next=t.next+9:=by rw[←a3]
 obtain⟨Q,hQ⟩:=exI hx.next
 obtain⟨ha,ea,na,ga,qa,fa⟩:=dK hQ [.aD]
 obtain⟨hb,eb,nb,gb,qb,fb⟩:=dK na [.nilp]
 obtain⟨hI,eI,nI,gI,qI⟩:=mV hb (Q+1) [.ptr Q 0]
 have bx:Ce hx (.agg [.aD])=some (.ptr Q 0,ha):=by rw[←ea,←hQ];rfl
 have pt: ∀(t:H) (id:Nat) (u w:V),eU (bB [u]) t id 0 [w]=some (t.set id (bB [w])):=λt id u w=>bT (by simp) t _ _
 have fI:Fr t hI:=⟨om,λq hq=>by rw[qI q om,qb q om,qa q om,fx.get q hq]⟩
 have FI:=F.trans fI
 have l1:=(Ag.mono F).nx
 have g3: ∀h',Fr t h'->h'.get T0=bB [aC n,lO,lR,.mp M,lr]:=λh' f=>by rw[f.get T0 l1];exact gT
 have a8: ∀h',Fr t h'->h'.get y=bB (Bz n p):=λh' f=>by rw[f.get y i6];exact g6
 have kl:K.length<=L.length:=by
  have:=List.Nodup.length_le_of_subset (l₂:=List.range L.length) ik.nd λx hx=>Dj.2 (ik.lt hx)
  rwa [Xf] at this
 have f7:=d5.lens
 simp only[iA] at f7
 have k0:Xk hx (.mp M)=some (aC (L.length:Int),hx):=by rw[←a3];exact lm _
 simp(disch:=omega)only[go_sem,a3,H.aF (a8 hx fx),H.aF (g3 hx fx),lv,AL,k0,d1,show qU [.aD] []=some (.agg [.aD]) from rfl,a3,bx,na,eb,kP (show (V.ptr Q 0).cells= [V.ptr Q 0] from rfl) rfl,gb,pt,eI,H.aF (g3 hI fI),f7]
 obtain⟨fs,a0⟩: ∃f:LN->Nat->LN,(λl i=>if i∈r then l else uD l (Ai n G L r i))=f:=⟨_,rfl⟩
 have i8: ∀i,i<=K.length->((K.take i).foldl fs []).length<=i:=λi hi=>by
  have:=TS (n:=n) (G:=G) (L:=L) (r:=r) (K.take i) [];rw[a0,zO,Nat.min_eq_left hi] at this;simpa using this
 refine bQ (λvs h'=>(∃g:Nat->V,vs= [g 0,g 1,g 2,g 3,.ptr T0 0,g 5,.ptr y 0,vl,.ptr (Q+1) 0,g 9,g 10,g 11,g 12,g 13,g 14,g 15,g 16,g 17])/\WkJ n L Q t h' (fdF n G L r K)) ?_ ?_
 ·refine aI (λk' N h'=> ∃(i:Nat),(∃g:Nat->V,N= [g 0,g 1,g 2,g 3,.ptr T0 0,g 5,.ptr y 0,vl,.ptr (Q+1) 0,g 9,g 10,g 11,g 12,lr,aC (K.length:Int),aC i,g 16,g 17])/\i<=K.length/\WkJ n L Q t h' ((K.take i).foldl fs [])/\k'=K.length-i) K.length
   ⟨0,aB rfl,iB _,⟨gI,⟨.aD,by rw[qI _ om,qb _ om];exact ga, [],dH.aD _ _ _,trivial,λ_ _ _ _ e=>by cases e⟩,fI,om,by show 0<=6000;omega⟩,rfl⟩ ?_
  rintro k' N h7 ⟨i,⟨g,rfl⟩,hi,W,rfl⟩
  by_cases e3:(i:Int)<(K.length:Int)
  case neg=>
   have d2:=bI e3;obtain rfl:i=K.length:=om
   rw[List.take_length,←a0] at W;simp(disch:=omega)only[go_sem,d2];exact⟨aB rfl,W⟩
  have d2:=cI e3
  have a1:i<K.length:=om
  have F7:=W.fr
  obtain⟨id,z,ws,sh,h0,k1,hc,i1⟩:=d5.open
  simp only[iA] at sh h0 k1 hc
  have ci:h7.cell id (z+i)=some (ws.getD i .undef):=by rw[F7.cell (h0 om),hc i a1]
  have s0:=(xJ i1 (i:=i) (by rw[iA];exact a1)).mono F7
  have eK:(K.map λr=>L.getD r []).getD i []=L.getD K[i] []:=by rw[List.getD,Qy,dD a1];rfl
  rw[eK] at s0
  have c4:=ik.lt (xG a1)
  generalize ws.getD i .undef=vx at ci s0
  have step:(K.take (i+1)).foldl fs []=fs ((K.take i).foldl fs []) K[i]:=by rw[List.take_succ_eq_append_getElem a1,List.foldl_append,List.foldl_cons,List.foldl_nil]
  have a4:=i8 (i+1) om
  rw[step] at a4
  obtain⟨B,b3⟩:=exI ((K.take i).foldl fs [])
  rw[b3] at W step a4
  obtain⟨k,hk⟩:=exI (K[i])
  rw[hk] at s0 c4 step a4
  simp(disch:=omega)only[go_sem,d2,sh.ixa,ci,iD (a8 h7 F7)]
  refine (IE T0 p vx n O R G L K r k h7 (Ag.mono (F.trans F7)) (nm.mono F7) c4 s0).mono ?_
  rintro _ h8 ⟨rfl,Z⟩
  have W8:WkJ n L Q t h8 B:=by
   obtain⟨vf,gQ,ml⟩:=W.ex;have:=W.nx;have:=Z.next;exact⟨by rw[Z.get _ om];exact W.g8,⟨vf,by rw[Z.get _ om];exact gQ,ml.mono Z⟩,F7.trans Z,om,W.len⟩
  by_cases a7:k∈r
  ·have d3:=cI a7
   rw[←a0] at step
   simp only[bJ a7] at step
   simp(disch:=omega)only[go_sem,d3,Bool.not_true]
   rw[fJ i]
   exact⟨K.length-(i+1),om,i+1,aB rfl,om,by rw[←a0,step];exact W8,rfl⟩
  ·have d3:=bI a7
   rw[←a0] at step a4
   simp only[bU a7] at step a4
   have F8:=W8.fr
   have b5: ∀m,h8.next<=m->Fr h8 (H.mk h8.tr m):=λm hm=>(Fr.refl h8).bH hm
   simp(disch:=omega)only[go_sem,d3,Bool.not_false,H.aF W8.g8,iD (a8 h8 F8)]
   refine (Zs T0 p vx n O R G L K r k _ (Ag.mono (F.trans (F8.trans (b5 _ om)))) (nm.mono (F8.trans (b5 _ om))) c4 (s0.mono (Z.trans (b5 _ om)))).mono ?_
   rintro _ h9 ⟨q,rfl,nq,f9⟩
   have a6:=(b5 _ om).trans f9
   have F9:=F8.trans a6
   obtain⟨vf,j3,ml⟩:=W8.ex
   have n8:=W8.nx
   have n9:=a6.next
   have i5:h9.get (Q+1)=bB [.ptr Q 0]:=by rw[a6.get _ om];exact W8.g8
   have l3:h9.get Q=bB [vf]:=by rw[a6.get _ om];exact j3
   have c7: ∀s,bY vf s->s<h8.next:=λs ⟨z,m,c,e⟩=>by
    obtain⟨ps,o,_⟩:=ml.ex;exact (o.in _ _ _ _ e).1
   have j5:Nm (λq=>q<Q+2∨bY vf q) n L h9 q (Ai n G L r k):=nq.go (Fx.refl _ _) λs _ h=>by
    rcases h with h|h
    ·show s<h8.next+6
     omega
    ·have:=c7 s h
     show s<h8.next+6;omega
   have eQ:dI (.ptr Q 0) (.ptr Q 0)=true:=by simp [dI]
   have g9: ∀s,bY vf s->Q+2<=s:=λs ⟨z,m,c,e⟩=>by
    obtain⟨ps,o,_⟩:=ml.ex;exact (o.in _ _ _ _ e).2.1
   simp(disch:=omega)only[go_sem,H.aF i5,eQ]
   refine (HZ n L (Q+2) Q vf B q _ h9 (ml.mono a6) om j5 l3 om (λh=>by have:=g9 Q h;omega) (by show Q<Q+2;omega) ll (by have:=W8.len;omega)).mono ?_
   rintro _ U ⟨rfl,k5,k2,j9,b9,_⟩
   have i7:=b9.next
   have nh:=F9.next
   simp(disch:=omega)only[go_sem]
   rw[fJ i]
   have d8: ∀s,s≠Q->s<Q+2->U.get s=h9.get s:=λs h1 J=>b9.get s om λh=>h.elim (λh=>h1 h) λh=>by have:=g9 _ h;omega
   have k6:WkJ n L Q t U (uD B (Ai n G L r k)):=⟨by rw[d8 _ om om];exact i5,⟨k5,k2,j9⟩,⟨om,λs hq=>by rw[d8 s om om];exact F9.get s hq⟩,om,om⟩
   exact⟨K.length-(i+1),om,i+1,aB rfl,om,by rw[←a0,step];exact k6,rfl⟩
 rintro N h7 ⟨⟨g,rfl⟩,W⟩
 obtain⟨vf,i3,ml⟩:=W.ex
 obtain⟨ps,c8,c2,_⟩:=ml.ex
 have F7:=W.fr
 have m2:=W.nx
 have c9:=aeR hG E kr ik hr
 obtain⟨B,b3⟩:=exI (fdF n G L r K)
 rw[b3] at W ml c2 c9
 have n3:=aN.length c2
 have l5:0<B.length:=List.length_pos_iff.2 c9
 have fl:=W.len
 simp(disch:=omega)only[go_sem,H.aF W.g8,H.aF i3]
 refine (NG vf (Ae n ps) ps.length h7 (mS n ps) om om c8.sv).mono ?_
 rintro _ h8 ⟨a9,k7,f0,rfl,g7,l6,i0,j6,Z⟩
 simp(disch:=omega)only[go_sem]
 have c7: ∀s,bY vf s->s<h7.next:=λs ⟨z,m,c,e⟩=>(c8.in _ _ _ _ e).1
 have d4:aN (Nm (λq=>q<Q+2∨q=a9) n L h8) ps B:=aN.mono (λ_ _ x=>Nm.go x (Fx.of Z) λs h1 J=>J.imp id λe=>om) c2
 refine (YI a9 ps.length k7 f0 53 [.ptr (Q+1) 0] n ps (λi=>Xp B (B.getD i [])) h8 i0 j6 g7 rfl om om (λs hq=>?_) λi hi h' a5=>?_).mono ?_
 ·obtain⟨i,hi,rfl⟩:=Ad.1 hq
  exact (aN.get d4 i hi om).one
 ·have n8:=Z.next
  have n':=a5.next
  have g0:aN (Nm (λq=>q<Q+2) n L h') ps B:=aN.mono (λ_ _ x=>Nm.go x (Fx.wide a5 λs h=> .inr h) λs _ h=> .inl h) d4
  have mi:=aN.get g0 i hi om
  rw[List.getD,dD om,Option.getD_some]
  refine agK n (Q+1) Q vf ps B ll om ?_ om ?_ om (SV.fx (c8.sv.mono Z) (W:=λq=>q=a9) ?_ a5) g0 mi
  ·rw[a5.get _ om om,Z.get _ om];exact W.g8
  ·rw[a5.get _ om om,Z.get _ om];exact i3
  ·cases vf with
   |sl q z m c=>exact λ(e:q=a9)=>by have:=c7 q ⟨z,m,c,rfl⟩;omega
   |_=>trivial
 rintro vk h9 ⟨f5,c3⟩
 have n8:=Z.next
 have n9:=c3.next
 have Y:=CA (P:=λi=>Xp B (B.getD i [])) (aN.mono (λ_ _ x=>Nm.go (W':=λq=>q<Q+2) x (Fx.wide c3 λs h=> .inr h) λs _ h=> .inl h) d4)
 have ek:oT (λi=>Xp B (B.getD i [])) B=KL B:=Vh B _
 rw[ek] at Y
 have k8:=List.length_pos_iff.2 (RV c9)
 have o0:(KL B).length<=B.length:=List.length_filter_le _ _
 obtain⟨pk,l4⟩:=exI (oT (λi=>Xp B (B.getD i [])) ps)
 rw[l4] at f5 Y
 simp(disch:=omega)only[go_sem]
 refine (aaQ n vk pk (KL B) ll om k8 f5 Y).mono ?_
 rintro _ U ⟨⟨j,hj,rfl,l2⟩,c1⟩
 have i7:=c1.next
 have Fm:Fr t U:=⟨by have:=F7.next;omega,λs hq=>by
  have:=F7.next;rw[c1.get s om,c3.get s om om,Z.get s om]
  exact F7.get s hq⟩
 have k3:JE (KL B)=Qx n G L K r:=by rw[←b3];rfl
 have mj:=(aN.get Y j hj (by have:=aN.length Y;omega)).mono c1
 have ej:(KL B)[j]'(by have:=aN.length Y;omega)=Qx n G L K r:=by rw[←k3,←l2,List.getD,dD (by have:=aN.length Y;omega)];rfl
 rw[ej] at mj
 generalize pk[j]=pn at mj
 obtain⟨o1,o2,o3⟩:=mj.one
 have e8:=a8 U Fm
 obtain⟨b2,k4,l9,i4,c6⟩:=mV U y (Bz n pn)
 obtain⟨C,hC⟩:=exI b2.next
 obtain⟨b1,j2,m7,j8,a2,m8⟩:=dK hC [aC n,pn.1,pn.2.1]
 have m4:=Fm.next
 have b0: ∀s,bY vl s->y+1<=s/\s<t.next:=λs ⟨z,m,c,e⟩=>by
  have:=ow.in _ _ _ _ e;omega
 have j4: ∀s,bY vl s->s≠y:=λs hb=>by have:=b0 s hb;omega
 have m1:=aN.length al
 have o4:=cb.len
 have m9:=kr.rk.short
 have k9: ∀s,s<b2.next->b1.get s=b2.get s:=λs h=>a2 s om
 have l7:Fx (· =y) U b1:=⟨om,λs h1 J=>by rw[a2 s om,c6 s J]⟩
 have d6:dH b1 vl 3 (Mj n ls) (y+1):=ow.tU om λid z m c e h=>by
  have:=b0 id ⟨z,m,c,e⟩;rw[a2 _ om,c6 _ om];exact Fm.get id h
 obtain⟨b4,j1,b6⟩:=(d6.le (iB _)).push (bytes:=56) (SV.all (sz:=3) (len:=1) (vs:= [aC n,pn.1,pn.2.1]) rfl om j8 (.kn 1)) (n:=ls.length) (m:=1) (jP n ls) rfl om om om
 have m6:=b6.next
 simp(disch:=omega)only[go_sem,kV U y 0 (a:= aC n) (b:=pn.1) (c:=pn.2.1) (d:=pn.2.2) rfl o1 o2 o3,e8,jS,k4,d9 i4,Va b2 (d:=(n:Int)) o1 o2,hC,j2,j1]
 have nF:=F.next
 have ap: ∀s,¬bY vl s->dR vl s:=λs h id z m c e e2=>h (by rw[e,e2];exact⟨_,_,_,rfl⟩)
 have c0:Fx (λq=>q=y∨bY vl q) U b4:=⟨om,λs h1 J=>by rw[b6.old s om (ap s λh=>J (.inr h)),a2 s om,c6 s λh=>J (.inl h)]⟩
 have b8:Fx (λq=>q=y∨bY vl q) t b4:=⟨om,λs h1 J=>by rw[c0.get s om J];exact Fm.get s h1⟩
 have j7:Fr J b4:=⟨om,λs hq=>by rw[b8.get s om λh=>h.elim (λh=>om) λh=>by have:=b0 s h;omega];exact F.get s hq⟩
 have b7:Nm (λq=>q=y∨bY (.sl b1.next 0 (ls.length+1) (.un 3)) q) n L b4 pn (Qx n G L K r):=mj.go (Fx.wide c0 λs h=>h.elim (λh=>(by omega:s<Q+2)) λh=>(by have:=b0 s h;omega:s<Q+2)) λs h1 J=>J.elim (λh=>(by omega:s<Q+2)) λ⟨z,m,c,e⟩=>by cases e;omega
 obtain⟨st1,i9,m0,_⟩:=Cz hG E kr ik hr
 have m3:=i9.rk.short
 have e9:=b6.own (b:=y+1) (jP n ls) rfl om
 refine⟨L.length-(Qx n G L K r).length,om,Qx n G L K r,pn,_,ls++ [(pn.1,pn.2.1)],rs++ [Qx n G L K r],aB rfl,?_,b7,by rw[Wd];exact e9,aN.append (aN.mono (λ_ _ x=>BM.go x b8 λs h1 J=>J.imp id λ⟨z,m,c,e⟩=>by cases e;omega) al) ⟨b7.ch,trivial⟩,cb.push hG E ik hr,j7,om,rfl⟩
 rw[b6.old y om (ap y λh=>j4 y h rfl),a2 y om]
 exact i4
def tI (n:Nat):List Nat:=if n>9 then tI (n/10)++ [48+n%10] else [48+n]
theorem AH (n:Nat):(tI n).length<=n+1:=by
 induction n using Nat.strongRecOn with
 |_ n ih=>
  unfold tI;split
  ·have:=ih (n/10) om
   rw[iV];show _+1<=_;omega
  ·show 1<=_
   omega
def agU (h:H):V->Option (V×H)
 | .int _ n=>if 0<=n/\n<128 then some (.str [n.toNat],h) else none
 |_=>none
theorem HP (ρ:X->V)(h:H)(x:X):fC ρ h (.cir x)=agU h (ρ x):=by
 simp only[fC,agU]
 rfl
def adQ (h:H)(x y:V):Option (V×H):=match x,y with
 | .str a,.str b=>if a.length+b.length<2^62 then some (.str (a++b),h) else none
 |_,_=>none
theorem IK (ρ:X->V)(h:H)(x y:X):fC ρ h (.sad x y)=adQ h (ρ x) (ρ y):=by
 simp only[fC,adQ]
 rfl
theorem IF {k:Nat}(a:k<10)(h:H):agU h (.int .i32 (IntKind.i32.wrap ((48+k:Nat):Int)))=some (.str [48+k],h):=by
 have: ∀k,k<10->IntKind.i32.wrap ((48+k:Nat):Int)=((48+k:Nat):Int):=by decide
 rw[this k a];show (if _ then _ else none)=_;rw[bJ ⟨om,om⟩,DK]
theorem QU (h:H){a b:List Nat}(c:a.length+b.length<10000000):adQ h (.str a) (.str b)=some (.str (a++b),h):=by
 show (if _ then _ else none)=_;rw[bJ om]
theorem abK (n:Nat): ∀(h:H),n<1000000->Ev T 66 [aC n] h (λv h'=>v= .str (tI n)/\Fr h h'):=by
 induction n using Nat.strongRecOn with
 |_ n ih=>
  intro h o;refine dW qW rfl ?_
  by_cases i:(9:Int)<(n:Int)
  ·have c:=cI i
   have m:Int.tdiv (n:Int) 10=((n/10:Nat):Int):=rfl;have l:Int.tmod (n:Int) 10=((n%10:Nat):Int):=rfl;simp(disch:=omega)only[go_sem,qW,aE,c,m];refine (ih (n/10) om h om).mono ?_;rintro _ k ⟨rfl,j⟩;have f:(48:Int)+((n%10:Nat):Int)=((48+n%10:Nat):Int):=om
   have p:=AH (n/10)
   have d:tI n=tI (n/10)++ [48+n%10]:=by
                               conv=>lhs;unfold tI
                               rw[bJ om]
   simp(disch:=omega)only[go_sem,l,f,HP,IF (Nat.mod_lt n (by omega:10>0)),IK,QU k (a:=tI (n/10)) (b:= [48+n%10]) (by show _+1<_;omega),d];exact j
  ·have c:=bI i
   have f:(48:Int)+(n:Int)=((48+n:Nat):Int):=om
   have d:tI n= [48+n]:=by unfold tI;rw[bU om]
   simp(disch:=omega)only[go_sem,qW,aE,c,f,HP,IF (show n<10 by omega),d];exact Fr.refl _
abbrev Kp (x:Nat×List Nat):List V:= [aC (x.1:Int),.str x.2]
def Dw (l:List (Nat×List Nat)):List V:=l.flatMap Kp
theorem Hm (l:List (Nat×List Nat)):(Dw l).length=l.length*2:=tS (k:=2) (f:=Kp) (λ_=>rfl) l
theorem aeH (a b:List (Nat×List Nat)):Dw (a++b)=Dw a++Dw b:=by unfold Dw;rw[List.flatMap_append]
theorem Wq {h:H}{v:V}{l:List (Nat×List Nat)}(s:SV h v 2 (Dw l)){i:Nat}(hi:i<l.length): ∃id off,Sl v 2 l.length id off/\h.row id (off+i*2) 2=some (Kp l[i])/\id<h.next:=SV.rec (k:=2) (f:=Kp) om (λ_=>rfl) s hi
theorem Zi {h:H}{v:V}{l:List (Nat×List Nat)}(s:SV h v 2 (Dw l)):bL v=some (aC (l.length:Int)):=by
 unfold bL;rw[SV.len s (n:=l.length) (Hm l) om];rfl
theorem Io {h:H}{id:Nat}{ro:Bool}{a b:V}(c:h.get id=some (.cells ro [a,b])):h.row id 0 2=some [a,b]:=by
 simp [H.row,c,sub]
theorem qP (h:H){a b:V}(d:a.one=true)(c:b.one=true):Ce h (.agg [a,b])=some (.ptr h.next 0,h.new (.cells false [a,b])):=rK h _ (by simp [d,c])
def Gm:List (Nat×List Nat):= [(60, [65,53]),(168, [76,50,40,55,41]),(360, [65,54]),(504, [76,50,40,56,41]),(660, [76,50,40,49,49,41]),(1092, [76,50,40,49,51,41]),(2448, [76,50,40,49,55,41]),(2520, [65,55]),(3420, [76,50,40,49,57,41]),(4080, [76,50,40,49,54,41])]
theorem BP (z:Int)(s:List Nat):qU [aC 0,.str []] [(0,1,aC z),(1,1,.str s)]=some (.agg [aC z,.str s]):=rfl
theorem PO (h:H):Ev T 67 [] h (λv h'=>SV h' v 2 (Dw Gm)/\Fr h h'):=by
 refine dW Bn rfl ?_;have e:mH h 2 [aC 0,.str []] 10 [(0,2,.agg [aC 60,.str [65,53]]),(2,2,.agg [aC 168,.str [76,50,40,55,41]]),(4,2,.agg [aC 360,.str [65,54]]),(6,2,.agg [aC 504,.str [76,50,40,56,41]]),(8,2,.agg [aC 660,.str [76,50,40,49,49,41]]),(10,2,.agg [aC 1092,.str [76,50,40,49,51,41]]),(12,2,.agg [aC 2448,.str [76,50,40,49,55,41]]),(14,2,.agg [aC 2520,.str [65,55]]),(16,2,.agg [aC 3420,.str [76,50,40,49,57,41]]),(18,2,.agg [aC 4080,.str [76,50,40,49,54,41]])]=some (.sl h.next 0 10 (.kn 10),h.new (.cells false (Dw Gm))):=rfl;simp(disch:=omega)only[go_sem,Bn,aE,BP,e];exact⟨SV.all rfl (by rw[H.aW];omega) (H.aL _ _) _,(Fr.refl h).new _⟩
theorem HX (x:Nat×List Nat)(n:Nat)(h:H)(d:x.1<1000000)(h2:n<1000000):Ev T 69 [.agg (Kp x),aC n] h (λv h'=>v= aC ((x.1:Int)-n)/\Fr h h'):=by
 refine dW uE rfl ?_;obtain⟨B,c⟩:=exI h.next;obtain⟨d,j,l,i,k,f⟩:=dK c (Kp x);simp(disch:=omega)only[go_sem,uE,aE,qP h (a:= aC (x.1:Int)) (b:= .str x.2) rfl rfl,c,j,H.aF i];exact f
theorem aaI (x y:Nat×List Nat)(h:H)(d:x.1<1000000)(h2:y.1<1000000):Ev T 71 [.agg (Kp x),.agg (Kp y)] h (λv h'=>v= aC ((x.1:Int)-y.1)/\Fr h h'):=by
 refine dW uY rfl ?_;obtain⟨B,i⟩:=exI h.next;obtain⟨d,p,f,l,r,k⟩:=dK i (Kp x);obtain⟨h2,o,q,n,j,m⟩:=dK f (Kp y);have c:h2.get B=bB (Kp x):=by rw[j B om];exact l
 simp(disch:=omega)only[go_sem,uY,aE,qP h (a:= aC (x.1:Int)) (b:= .str x.2) rfl rfl,i,p,qP d (a:= aC (y.1:Int)) (b:= .str y.2) rfl rfl,f,o,H.aF c,H.aF n];exact k.trans m
theorem QN (u:V)(a:List (Nat×List Nat))(p:Nat)(h:H)(hn:a.length<1000000)(W:p<1000000)(Y: ∀x∈a,x.1<1000000)(P:a.Pairwise λx y=>x.1<y.1)(N:SV h u 2 (Dw a)):
  Ev T 68 [u,aC p,.fn 69 [] []] h (λv h'=> ∃(k:Nat) (f:Bool),v= .tup [aC k,.bool f]/\(f=true-> ∃hk:k<a.length,a[k].1=p)/\(f=false-> ∀x∈a,x.1≠p)/\Fr h h'):=by
 refine dW dU rfl ?_
 have lv:=Zi N
 simp(disch:=omega)only[go_sem,dU,aE,lv]
 have mono: ∀i j (hi:i<a.length) (J:j<a.length),i<j->a[i].1<a[j].1:=λi j hi J h=>GP.1 P i j hi J h
 refine aI (λZ l G=> ∃(i j:Nat),(∃g:Nat->V,l= [u,aC p,.fn 69 [] [],g 3,g 4,aC (a.length:Int),aC i,aC j,g 8,g 9,g 10])/\i<=j/\j<=a.length/\(∀m (c:m<a.length),m<i->a[m].1<p)/\(∀m (c:m<a.length),j<=m->p<=a[m].1)/\Fr h G/\Z=j-i) a.length
  ⟨0,a.length,aB rfl,om,om,λm c h=>om,λm h1 h2=>om,Fr.refl h,rfl⟩ ?_
 rintro Z l G ⟨i,j,⟨g,rfl⟩,a0,J,o,B,F,rfl⟩
 by_cases A:(i:Int)<(j:Int)
 ·have K:=cI A
  have ea:(i:Int)+(j:Int)=((i+j:Nat):Int):=om
  obtain⟨m,c⟩:=exI ((i+j)/2)
  have sr:=IC (x:=i+j)
  rw[c] at sr
  have d:m<a.length:=om
  obtain⟨id,L,U,r,_⟩:=Wq (N.mono F) d
  have sm:=Y _ (xG d)
  simp(disch:=omega)only[go_sem,K,ea,Hj,Cd,fS (n:=((i+j:Nat):Int)) om om,sr,U.ixa,r]
  refine (HX a[m] p G sm W).mono ?_
  rintro _ h3 ⟨rfl,z⟩
  by_cases hl:((a[m].1:Nat):Int)-(p:Int)<0
  ·have s:=cI hl
   simp(disch:=omega)only[go_sem,s]
   rw[fJ m]
   refine⟨j-(m+1),om,m+1,j,aB rfl,om,J,λq O h=>?_,B,F.trans z,rfl⟩
   by_cases e:q=m
   ·subst e;omega
   ·have:=mono q m O d om;omega
  ·have s:=bI hl
   simp(disch:=omega)only[go_sem,s]
   refine⟨m-i,om,i,m,aB rfl,om,om,o,λq O h=>?_,F.trans z,rfl⟩
   by_cases e:q=m
   ·subst e;omega
   ·have:=mono m q d O om;omega
 have K:=bI A
 obtain rfl:i=j:=om
 by_cases w:(i:Int)<(a.length:Int)
 ·have s:=cI w
  have b:i<a.length:=om
  obtain⟨id,L,U,r,_⟩:=Wq (N.mono F) b
  simp(disch:=omega)only[go_sem,K,s,U.ixa,r]
  refine (HX a[i] p G (Y _ (xG b)) W).mono ?_
  rintro _ h3 ⟨rfl,z⟩
  by_cases t:((a[i].1:Nat):Int)-(p:Int)=0
  ·have R:=cI t
   simp(disch:=omega)only[go_sem,R]
   exact⟨i,true,rfl,λ_=>⟨b,om⟩,λh=>(by cases h),F.trans z⟩
  ·have R:=bI t
   simp(disch:=omega)only[go_sem,R]
   refine⟨i,false,rfl,λh=>(by cases h),λ_ x Q e=>?_,F.trans z⟩
   obtain⟨m,c,rfl⟩:=Ad.1 Q
   rcases Nat.lt_trichotomy m i with h|h|h
   ·have:=o m c h;omega
   ·subst h;omega
   ·have h1:=mono i m b c h
    have h2:=B i b (fN _)
    omega
 ·have s:=bI w
  simp(disch:=omega)only[go_sem,K,s]
  refine⟨i,false,rfl,λh=>(by cases h),λ_ x Q e=>?_,F⟩
  obtain⟨m,c,rfl⟩:=Ad.1 Q
  have:=o m c om
  omega
section
variable {x:Nat×List Nat} {l:List (Nat×List Nat)}
def yX (x:Nat×List Nat):List (Nat×List Nat)->List (Nat×List Nat)
 | []=> [x]
 |y::r=>if y.1<=x.1 then y::yX x r else x::y::r
def Ke (l:List (Nat×List Nat)):List (Nat×List Nat):=l.foldl (λa x=>yX x a) []
def agF (l:List (Nat×List Nat)):Prop:=l.Pairwise λx y=>x.1<=y.1
theorem Qs {x:Nat×List Nat}: ∀{A B:List (Nat×List Nat)},(∀y∈A,y.1<=x.1)->(∀y∈B,x.1<y.1)->yX x (A++B)=A++x::B
 | [], [],_,_=>rfl
 | [],y::r,_,h=>by
  show (if y.1<=x.1 then _ else _)=_;rw[bU (by have:=h y tQ;omega)];rfl
 |y::A,B,h,h2=>by
  show (if y.1<=x.1 then _ else _)=_;rw[bJ (h y tQ)];have:=Qs (λz a=>h z (wI _ a)) h2;rw[List.cons_append,←this]
  rfl
theorem Zl (x:Nat×List Nat): ∀l,(yX x l).length=l.length+1
 | []=>rfl
 |y::r=>by
  unfold yX;split
  ·rw[List.length_cons,Zl x r];rfl
  ·rfl
theorem Qb {x z:Nat×List Nat}: ∀{l},z∈yX x l↔z=x∨z∈l
 | []=>by simp [yX]
 |y::r=>by
  unfold yX;split
  ·rw[vI,Qb,vI]
   constructor
   ·rintro (h|h|h)<;>simp [h]
   ·rintro (h|h|h)<;>simp [h]
  ·rw[vI]
theorem AX {x:Nat×List Nat}: ∀{l},agF l->agF (yX x l)
 | [],_=>List.pairwise_singleton _ _
 |y::r,h=>by
  obtain⟨b,d⟩:=List.pairwise_cons.1 h;unfold yX;split
  ·rename_i c
   refine List.pairwise_cons.2 ⟨λz a=>?_,AX d⟩;rcases Qb.1 a with rfl|a
   ·exact c
   ·exact b z a
  ·rename_i c
   refine List.pairwise_cons.2 ⟨λz a=>?_,h⟩;rcases vI.1 a with rfl|a
   ·omega
   ·have:=b z a;omega
theorem AO {i:Nat}(hi:i<l.length):Ke (l.take (i+1))=yX l[i] (Ke (l.take i)):=by
 unfold Ke;rw[List.take_succ_eq_append_getElem hi,List.foldl_append]
 rfl
theorem Vs (l:List (Nat×List Nat)): ∀i,i<=l.length->agF (Ke (l.take i))/\(Ke (l.take i)).length=i/\ ∀x∈Ke (l.take i),x∈l:=by
 intro i
 induction i with
 |zero=>exact λ_=>⟨List.Pairwise.nil,rfl,λx a=>by cases a⟩
 |succ i ih=>
  intro hi;obtain⟨b,c,d⟩:=ih om;rw[AO om];refine⟨AX b,by rw[Zl,c],λx a=>?_⟩;rcases Qb.1 a with rfl|a
  ·exact xG _
  ·exact d x a
theorem GR {i:Nat}(hi:i<l.length):sub (Dw l) (i*2) 2=some (Kp l[i]):=by
 have:=FX (s:=2) (f:=Kp) (λ_=>rfl) (ps:=l) (rest:= []) hi;rwa [tZ] at this
theorem GX {k:Nat}(a:k<l.length)(x:Nat×List Nat):putAt (Dw l) (k*2) (Kp x)=some (Dw (l.set k x)):=by
 have:=GG (s:=2) (f:=Kp) (λ_=>rfl) (ps:=l) (rest:= []) a x;rwa [tZ,tZ] at this
theorem vB (h:H)(id off:Nat){a b:V}(d:a.one=true)(c:b.one=true):Wz h 2 (.ptr id off) (.agg [a,b])=eU (h.get id) h id off [a,b]:=Di h id off 2 _ rfl (by simp [d,c])
theorem ZX (S N:Nat)(v:V)(l:List (Nat×List Nat))(h:H)(hl:l.length=N)(hN:N<1000000)(ix: ∀j:Nat,j<N->Gr 2 v (aC j)=some (.ptr S (j*2)))(hS:0<N->S<h.next)(gS:0<N->h.get S=bB (Dw l))(hs: ∀x∈l,x.1<1000000):
  Ev T 155 [v,aC 0,aC N,.fn 71 [] []] h (λ_ h'=>(0<N->h'.get S=bB (Dw (Ke l)))/\Fx (· =S) h h'):=by
 refine dW fW rfl ?_
 simp(disch:=omega)only[go_sem,fW,aE,Int.zero_add]
 by_cases a3:N=0
 ·subst a3
  have e0:l= []:=List.length_eq_zero_iff.1 hl
  subst e0
  refine aI (λG f W=>(∃g:Nat->V,f= [g 0,g 1,aC 0,g 3,aC 1,g 5,g 6,g 7])/\h=W/\G=0) 0 ⟨aB rfl,rfl,rfl⟩ ?_
  rintro G f W ⟨⟨g,rfl⟩,rfl,rfl⟩
  simp(disch:=omega)only[go_sem,show decide ((1:Int)<0)=false from rfl]
  exact⟨λh=>om,Fx.refl _ _⟩
 have gS:=gS om
 have hS:=hS om
 have f1:Ke (l.take 1)++l.drop 1=l:=by
  cases l with
  |nil=>exact absurd hl.symm a3
  |cons a r=>rfl
 refine aI (λG f W=> ∃(i:Nat),(∃g:Nat->V,f= [v,aC 0,aC N,.fn 71 [] [],aC i,g 5,g 6,g 7])/\1<=i/\i<=N/\W.get S=bB (Dw (Ke (l.take i)++l.drop i))/\Fx (· =S) h W/\G=N-i) (N- 1)
  ⟨1,aB rfl,om,om,by rw[f1];exact gS,Fx.refl _ h,rfl⟩ ?_
 rintro G f W ⟨i,⟨g,rfl⟩,a6,hi,gi,F,rfl⟩
 by_cases a0:(i:Int)<(N:Int)
 case neg=>
  have d1:=bI a0;obtain rfl:i=N:=om
  rw[←hl,List.take_length,List.drop_length,tZ] at gi;simp(disch:=omega)only[go_sem,d1];exact⟨λ_=>gi,F⟩
 have d1:=cI a0
 have L:i<l.length:=om
 obtain⟨Z,len,mem⟩:=Vs l i om
 have st:=AO L
 rw[Zh L] at gi
 have hx:=hs _ (xG L)
 generalize l[i]=x at gi st hx
 simp(disch:=omega)only[go_sem,d1]
 refine uJ (λvs h'=>(∃g:Nat->V,vs= [v,aC 0,aC N,.fn 71 [] [],aC i,g 5,g 6,g 7])/\h'.get S=bB (Dw (yX x (Ke (l.take i))++l.drop (i+1)))/\Fx (· =S) h h') ?_ ?_
 ·refine aI (λG f h'=> ∃(j:Nat),(∃g:Nat->V,f= [v,aC 0,aC N,.fn 71 [] [],aC i,aC j,g 6,g 7])/\j<=i/\(∀y∈(Ke (l.take i)).drop j,x.1<y.1)/\h'.get S=bB (Dw ((Ke (l.take i)).take j++x::(Ke (l.take i)).drop j++l.drop (i+1)))/\Fx (· =S) h h'/\j=G) i
   ⟨i,aB rfl,fN _,λy s=>(by rw[List.drop_eq_nil_of_le om] at s;cases s),by rw[Ro om,List.drop_eq_nil_of_le om,Lz];exact gi,F,rfl⟩ ?_
  obtain⟨c,K⟩:=exI (Ke (l.take i))
  rw[K] at Z len mem
  rw[K]
  obtain⟨Q,a1⟩:=exI (l.drop (i+1))
  rw[a1]
  rintro G f n ⟨j,⟨g,rfl⟩,hj,hB,R,F2,rfl⟩
  by_cases a2:(0:Int)<(j:Int)
  case neg=>
   have d2:=bI a2;obtain rfl:j=0:=om
   rw[List.take_zero,List.drop_zero,List.nil_append] at R;have im:=Qs (x:=x) (A:= []) (B:=c) (λy s=>by cases s) hB;rw[List.nil_append,List.nil_append] at im;simp(disch:=omega)only[go_sem,d2];exact⟨aB rfl,by rw[im];exact R,⟨by have:=F2.next;show _<=n.next+17;omega,λq h1 n=>F2.get q h1 n⟩⟩
  have d2:=cI a2
  have a7:1<=j:=om
  have ja:j- 1<c.length:=om
  obtain⟨d,o⟩:=exI (c.take j++x::c.drop j++Q)
  rw[o] at R
  have et:c.take j=c.take (j- 1)++ [c[j- 1]]:=by
   have:=List.take_succ_eq_append_getElem ja;rwa [show j- 1+1=j by omega] at this
  have t:(c.take (j- 1)).length=j- 1:=by rw[zO,Nat.min_eq_left om]
  have lj:j<d.length:=by
   rw[←o,iV,iV,zO,Nat.min_eq_left om,List.length_cons];omega
  have P:j- 1<d.length:=om
  have u:c.take (j- 1)++c[j- 1]::x::(c.drop j++Q)=d:=by rw[←o,et];simp only[Lz,List.cons_append,List.nil_append]
  have cj:d[j]=x:=by
   have:d[j]? =some x:=by
    rw[←u,Jg om,t,show j-(j- 1)=1 by omega];rfl
   rw[dD lj] at this;exact Option.some.inj this
  have a5:d[j- 1]=c[j- 1]:=by
   have:d[j- 1]? =some c[j- 1]:=by
    rw[←u,Jg om,t,Nat.sub_self];rfl
   rw[dD P] at this;exact Option.some.inj this
  obtain⟨y,s⟩:=exI (c[j- 1])
  have ys:y.1<1000000:=hs _ (mem y (by rw[←s];exact xG _))
  rw[s] at a5 u
  have a4: ∀h':H,h'.get S=bB (Dw d)->h'.row S (j*2) 2=some (Kp x)/\h'.row S ((j- 1)*2) 2=some (Kp y):=λh' hg=>by
   have s1:=GR lj;have s2:=GR P;rw[cj] at s1;rw[a5] at s2;unfold H.row;rw[hg];exact⟨s1,s2⟩
  have Y:=ix j om
  have w:=ix (j- 1) om
  have ej:(j:Int)- 1=((j- 1:Nat):Int):=om
  have n2:=F2.next
  have fb: ∀k,n.next<=k->Fr n (H.mk n.tr k):=λk hk=>(Fr.refl n).bH hk
  obtain⟨r1,r2⟩:=a4 n R
  simp(disch:=omega)only[go_sem,d2,ej,Y,w,r1,r2]
  refine (aaI x y _ hx ys).mono ?_
  rintro _ h3 ⟨rfl,f3⟩
  have p:=(fb _ om).trans f3
  have g3:h3.get S=bB (Dw d):=by rw[p.get S om];exact R
  obtain⟨r3,r4⟩:=a4 h3 g3
  have es: ∀l,dI (.str l) (.str l)=true:=λl=>by simp [dI]
  by_cases J:(x.1:Int)-(y.1:Int)<0
  case neg=>
   have d3:=bI J
   have hA: ∀z∈c.take j,z.1<=x.1:=λz U=>by
    obtain⟨m,hm,rfl⟩:=Ad.1 U;rw[zO,Nat.min_eq_left om] at hm;rw[List.getElem_take]
    by_cases e:m=j- 1
    ·subst e;rw[s];omega
    ·have:=GP.1 Z m (j- 1) om ja om
     rw[s] at this;omega
   have im:=Qs hA hB;rw[List.take_append_drop] at im;simp(disch:=omega)only[go_sem,r3,r4,es,d3];exact⟨aB rfl,by rw[im,o];exact g3,⟨by have:=p.next;omega,λq h1 n=>by rw[p.get q om];exact F2.get q h1 n⟩⟩
  have d3:=cI J
  have p1: ∀O:H,eU (bB (Dw d)) O S (j*2) (Kp y)=some (O.set S (bB (Dw (d.set j y)))):=λO=>by simp only[eU,GX lj,Option.map_some]
  have p2: ∀O:H,eU (bB (Dw (d.set j y))) O S ((j- 1)*2) (Kp x)=some (O.set S (bB (Dw ((d.set j y).set (j- 1) x)))):=λO=>by simp only[eU,GX (show j- 1<(d.set j y).length by rw[List.length_set];exact P),Option.map_some]
  simp(disch:=omega)only[go_sem,r3,r4,es,d3,ej,Y,w,vB _ S (j*2) (a:= aC (y.1:Int)) (b:= .str y.2) rfl rfl,vB _ S ((j- 1)*2) (a:= aC (x.1:Int)) (b:= .str x.2) rfl rfl,g3,p1,p2]
  have ed:c.drop (j- 1)=y::c.drop j:=by rw[Zh ja,s,show j- 1+1=j by omega]
  have el:(d.set j y).set (j- 1) x=c.take (j- 1)++x::c.drop (j- 1)++Q:=by
   rw[←u,List.set_append_right _ _ om,t,show j-(j- 1)=1 by omega,List.set_append_right _ _ om,t,Nat.sub_self,ed];simp
  have nf:=p.next
  refine⟨j- 1,om,j- 1,aB rfl,om,λz U=>?_,by rw[el],⟨by simp only[H.cV];show _<=h3.next+18;omega,λq h1 n=>?_⟩,rfl⟩
  ·rw[ed] at U
   rcases vI.1 U with rfl|U
   ·omega
   ·exact hB z U
  ·rw[H.aH _ n,H.aH _ n]
   show h3.get q=_
   rw[p.get q om]
   exact F2.get q h1 n
 rintro f n ⟨⟨g,rfl⟩,R,F2⟩
 simp(disch:=omega)only[go_sem]
 rw[fJ i]
 exact⟨N-(i+1),om,i+1,aB rfl,om,om,by rw[st];exact R,F2,rfl⟩
theorem Ya (S N:Nat)(v:V)(l:List (Nat×List Nat))(h:H)(o:l.length=N)(s:N<20)(r:bL v=some (aC N))(m: ∀j:Nat,j<N->Gr 2 v (aC j)=some (.ptr S (j*2)))(i:0<N->S<h.next)(n:0<N->h.get S=bB (Dw l))(q: ∀x∈l,x.1<1000000):
  Ev T 70 [v,.fn 71 [] []] h (λ_ h'=>(0<N->h'.get S=bB (Dw (Ke l)))/\Fx (· =S) h h'):=by
 refine dW eJ rfl ?_
 simp(disch:=omega)only[go_sem,eJ,aE,r]
 refine Ev.mono (Q:=λ_ h'=>(0<N->h'.get S=bB (Dw (Ke l)))/\Fx (· =S) h h') ?_ ?_
 ·refine dW iI rfl ?_
  simp(disch:=omega)only[go_sem,iI,aE]
  have p:decide ((20:Int)<=(N:Int))=false:=bI om
  have k:decide ((20:Int)<(N:Int))=false:=bI om
  refine aI (λb a c=>(∃g:Nat->V,a= [v,aC N,.fn 71 [] [],aC 20,aC 0,aC 20,g 6,g 7,g 8,g 9,g 10])/\h=c/\b=0) 0 ⟨aB rfl,rfl,rfl⟩ ?_
  rintro b a c ⟨⟨g,rfl⟩,rfl,rfl⟩
  simp(disch:=omega)only[go_sem,p]
  refine (ZX S N v l h o om m i n q).mono ?_
  rintro _ f ⟨d,F2⟩
  simp(disch:=omega)only[go_sem]
  refine aI (λb a c=>(∃g:Nat->V,a= [g 0,aC N,g 2,aC 20,g 4,g 5,g 6,g 7,g 8,g 9,g 10])/\f=c/\b=0) 0 ⟨aB rfl,rfl,rfl⟩ ?_
  rintro b a c ⟨⟨g,rfl⟩,rfl,rfl⟩
  simp(disch:=omega)only[go_sem,k]
  exact⟨d,F2⟩
 rintro _ f ⟨d,F2⟩
 simp(disch:=omega)only[go_sem]
 exact⟨d,F2⟩
end
def BO:Nat->Nat->Nat->Nat
 |0,_,p=>p
 |f+1,q,p=>if q%p=0 then p else BO f q (p+1)
def FE:Nat->Nat->Nat->Nat->Nat×Nat
 |0,_,k,r=>(k,r)
 |f+1,p,k,r=>if r%p=0 then FE f p (k+1) (r/p) else (k,r)
def Du (p k q r:Nat):List (Nat×List Nat):=if r=1 then List.replicate k (p,67::tI p) else match Gm.find? (λx=>x.1==q) with|some x=> [(q,x.2)]|none=> []
def fY (q:Nat):List (Nat×List Nat):=Du (BO (q- 2) q 2) (FE q (BO (q- 2) q 2) 0 q).1 q (FE q (BO (q- 2) q 2) 0 q).2
def kY:List Nat->List (Nat×List Nat)
 |a::b::r=>fY (b/a)++kY (b::r)
 |_=> []
theorem Dg: ∀(l:List Nat) (i:Nat) (hi:i+1<l.length),kY (l.take (i+2))=kY (l.take (i+1))++fY (l[i+1]/l[i])
 |a::b::r,0,_=>by simp [kY]
 |a::b::r,i+1,hi=>by
  have c:i+1<(b::r).length:=by simpa using hi
  have:=Dg (b::r) i c;have e: ∀k,kY (a::b::r.take k)=fY (b/a)++kY (b::r.take k):=λk=>rfl
  show kY (a::b::r.take (i+1))=kY (a::b::r.take i)++_;rw[e,e];have d:kY (b::r.take (i+1))=kY (b::r.take i)++fY ((b::r)[i+1]/(b::r)[i]):=this;rw[d,Lz]
  rfl
theorem VD {p k q r:Nat}(b:2<=p)(a:2<=q)(h:q=p^k*r)(c:1<=r):2^(Du p k q r).length<=q:=by
 unfold Du;split
 ·rename_i e
  rw[List.length_replicate,h,e,tW];exact Nat.pow_le_pow_left b k
 ·split
  ·exact a
  ·show 1<=q;omega
section
variable {n:Nat} {G:List Nat->Prop} {L:LN} {K r:List Nat} {rs:LN} (hG:dO n G) (E:cZ G L)
theorem Pq (E:cZ G L)(k:yW n G L r):cZ (RG L r) (r.map λi=>L.getD i []):=by
 refine⟨List.pairwise_map.2 (List.Pairwise.imp_of_mem (λ{i j} hi c (h:i<j)=>?_) k.rk.asc),λx=>?_⟩
 ·have a:=((k.rk.mem i).1 hi).1
  have b:=((k.rk.mem j).1 c).1;rw[List.getD,dD a,List.getD,dD b];exact GP.1 E.asc i j a b h
 ·rw[pH]
  exact Iff.rfl
include hG E
theorem acN (c:Ec n G L K rs r)(b:Ab n G L K){i:Nat}(hi:i+1<rs.length):2*rs[i].length<=rs[i+1].length:=by
 have a:=c.all _ (xG (show i<rs.length by omega));have d:=c.all _ (xG hi);obtain⟨k,l⟩:=c.st i _ _ (dD om) (dD hi);obtain⟨⟨j,h,f,e⟩,_⟩:=Cz hG E a b k;rw[←l] at e;have g:=Dr a (b.lt h) f;rw[←e] at g;have:=dbl (x:=L.getD j []) a.cY d.cY (Pq E a) (Pq E d) (λy ⟨t,ht,e⟩=>⟨t,g.1 t ht,e⟩) ⟨j,g.2.1,rfl⟩ λ⟨t,ht,e⟩=>f (by rw[←wU E.nodup ((a.rk.mem t).1 ht).1 (b.lt h) e];exact ht)
 simpa using this
end
section
variable {b n:Nat} {h:H} {v:V} {l:List (Nat×List Nat)}
def FO (b:Nat)(h:H)(v:V)(l:List (Nat×List Nat)):Prop:=(l= []/\v= .aD)∨ ∃S,v= .sl S 0 l.length (.un 2)/\h.get S=bB (Dw l)/\S<h.next/\b<=S/\0<l.length
theorem FO.mono {h':H}(r:FO b h v l)(f:Fr h h'):FO b h' v l:=by
 rcases r with r|⟨S,e,g,a,d,c⟩
 ·exact .inl r
 ·exact .inr ⟨S,e,by rw[f.get S a];exact g,jM a f.next,d,c⟩
theorem FO.own (r:FO b h v l):dH h v 2 (Dw l) b:=by
 rcases r with ⟨rfl,rfl⟩|⟨S,rfl,g,a,c,d⟩
 ·exact dH.aD _ _ _
 ·exact .inr ⟨S,l.length,_, [],rfl,Hm l,.inl rfl,c,a,by rw[tZ];exact g⟩
theorem FM {D:Nat}{x:Nat×List Nat}(r:FO b h v l)(j:b<=h.next)(u:l.length<1000000)(i:D<h.next)(d:h.get D=bB (Kp x)):
  ∃v' h',zK h 2 24 v (.sl D 0 1 (.kn 1))=some (v',h')/\FO b h' v' (l++ [x])/\h.next<=h'.next/\ ∀q,q<b->h'.get q=h.get q:=by
 have o:=r.own
 obtain⟨h',a,p⟩:=(o.le (iB _)).push (bytes:=24) (SV.all (sz:=2) (len:=1) (vs:=Kp x) rfl i d (.kn 1)) (n:=l.length) (m:=1) (Hm l) rfl om om om
 have t:=p.next
 refine⟨_,h',a,.inr ⟨h.next,by rw[iV];rfl,by rw[aeH];exact p.get,om,j,by rw[iV];exact Nat.succ_pos _⟩,om,λq s=>p.old q om λid f m c e k=>by have:=(o.in _ _ _ _ e).2.1;omega⟩
theorem VV (h:H)(z:Int)(s:List Nat):mH h 2 [aC 0,.str []] 1 [(0,2,.agg [aC z,.str s])]=some (.sl h.next 0 1 (.kn 1),h.new (.cells false [aC z,.str s])):=rfl
theorem BM.sz {W:Nat->Prop}{G:List Nat->Prop}{L:LN}{p:V×V}{r:List Nat}(g:BM W n L h p r)(E:cZ G L)(k:yW n G L r):
  Ev T 65 [.agg [aC n,p.1,p.2]] h (λv h'=>v= aC (r.length:Nat)/\Fr h h'):=by
 obtain⟨O,R,a⟩:=g
 refine (yB _ n O R _ h a).mono ?_
 rintro _ h' ⟨rfl,f⟩
 rw[k.rk.len k.cY a.isc E k.le]
 exact⟨rfl,f⟩
theorem BM.eq {W:Nat->Prop}{L:LN}{p:V×V}{r:List Nat}(g:BM W n L h p r):dI p.1 p.1=true/\dI p.2 p.2=true:=by
 obtain⟨O,R,g⟩:=g;obtain⟨_,_,_,_,e,a,_,_,c,_,_⟩:=g.cw;simp only[V.agg.injEq,List.cons.injEq,and_true,true_and] at e;rw[e.1,e.2];exact⟨SV.dI a,SV.dI c⟩
theorem aeC {sz i o j q:Nat}(a:Sl v sz n i o)(b:Sl v sz n j q)(h:0<n):i=j/\o=q:=by
 have e:=(a.ixa .i64 0 om om).symm.trans (b.ixa .i64 0 om om);simpa using e
theorem RB: ∀{l:List (Nat×List Nat)} {i:Nat} (hi:i<l.length),(Dw l)[i*2+1]? =some (V.str l[i].2)
 |x::l,0,_=>rfl
 |x::l,i+1,hi=>by
  show (Kp x++Dw l)[(i+1)*2+1]? =_;rw[Jg (by show 2<=(i+1)*2+1;omega)];show (Dw l)[(i+1)*2+1- 2]? =_;rw[show (i+1)*2+1- 2=i*2+1 by omega];exact RB (by simpa using hi)
theorem QG: ∀k (hk:k<Gm.length),Gm.find? (λx=>x.1==Gm[k].1)=some Gm[k]:=by decide
theorem acU:Gm.Pairwise λx y=>x.1<y.1:=by decide
theorem ND: ∀x∈Gm,x.1<1000000:=by decide
theorem RL (l:List Nat):kY (l.take 1)= []:=by cases l<;>rfl
theorem Uq (l:List (Nat×List Nat)):(Ke l).length=l.length:=by
 have:=(Vs l l.length (fN _)).2.1;rwa [List.take_length] at this
theorem FO.sort (r:FO b h v l)(s:b<=h.next)(k:l.length<20)(c: ∀x∈l,x.1<1000000):
  Ev T 70 [v,.fn 71 [] []] h (λ_ h'=>FO b h' v (Ke l)/\h.next<=h'.next/\ ∀q,q<b->h'.get q=h.get q):=by
 rcases r with ⟨rfl,rfl⟩|⟨S,rfl,g,f,o,a⟩
 ·refine (Ya h.next 0 .aD [] h rfl om rfl (λj d=>om) (λh=>om) (λh=>om) c).mono ?_
  rintro m h' ⟨_,F⟩
  exact⟨.inl ⟨rfl,rfl⟩,F.next,λq p=>F.get q om om⟩
 ·refine (Ya S l.length _ l h rfl k rfl (λj d=>by simp [Gr,d]) (λ_=>f) (λ_=>g) c).mono ?_
  rintro m h' ⟨i,F⟩
  have t:=F.next
  exact⟨.inr ⟨S,by rw[Uq],i a,om,o,by rw[Uq];exact a⟩,F.next,λq p=>F.get q om om⟩
def Dv (rs:LN):LN:=(Ke (kY (rs.map List.length))).map Prod.snd
theorem Fw {W0:Nat->Prop}(vc:V)(n:Nat)(O:LN)(R:jJ)(G:List Nat->Prop)(h:H)(gc:GC W0 h vc n O R G):
  Ev T 14 [vc] h (λv h'=> ∃vl L K rs,v= .tup [vl,aC 0]/\dM O R n 0 (aX n)=L/\Ab n G L K/\zC n G L K rs/\SV h' vl 1 ((Dv rs).map V.str)/\(Dv rs).length<20/\Fr h h'):=by
 obtain⟨vO,vR,rfl,c3,b5⟩:=gc.shape
 refine dW xT rfl ?_
 obtain⟨A,hA⟩:=exI h.next
 obtain⟨h1,e1,n1,g1,q1,f1⟩:=dK hA [aC n,vO,vR]
 simp(disch:=omega)only[go_sem,xT,aE,bV h (v:= aC n) (u:=vO) (w:=vR) rfl c3 b5,hA,e1,aJ g1]
 refine (Po _ n O R G h1 (gc.mono f1)).mono ?_
 rintro _ h2 ⟨vl,ls,L,K,rs,rfl,eL,ik,cl,sv,al,f2⟩
 have hG:=gc.cY
 obtain⟨E,eE⟩:=dB gc.cY gc.isc
 rw[eL] at E eE
 have ll:=jE gc
 obtain⟨rl,cb,g9⟩:=cl.ex
 have e0:=aN.length al
 have f9:=cb.len
 have lv:bL vl=some (aC (rs.length:Int)):=by unfold bL;rw[SV.len sv (n:=rs.length) (by rw[jP,e0]) om];rfl
 have r0:0<rs.length:=(vJ.1 cb.hd).1
 have sb: ∀i (hi:i<rs.length),1<=rs[i].length/\rs[i].length<=5040:=λi hi=>by
  have k:=cb.all _ (xG hi);have:=k.rk.short;refine⟨?_,om⟩;obtain⟨j,hj,_⟩:=k.cY.one;exact Rl hj
 obtain⟨sz,a5⟩:=exI (rs.map List.length)
 have d5:sz.length=rs.length:=by rw[←a5,iA]
 have N: ∀i (hi:i<rs.length),sz[i]'om=rs[i].length:=λi hi=>by subst a5;rw[List.getElem_map]
 have b9: ∀j,sz.getD j 0<=5040:=λj=>by
  by_cases hj:j<rs.length
  ·rw[List.getD,dD om,Option.getD_some,N j hj]
   exact (sb j hj).2
  ·rw[List.getD,List.getElem?_eq_none om];exact iB _
 simp(disch:=omega)only[go_sem]
 refine bA (λhc=>(hc rfl).elim) (λ_=>?_)
 obtain⟨b,hb⟩:=exI h2.next
 simp(disch:=omega)only[go_sem]
 refine bQ (λvs Q=> ∃z,(∃g:Nat->V,vs= [g 0,g 1,g 2,g 3,g 4,g 5,z,g 7,g 8,g 9,g 10,g 11,g 12,g 13,g 14,g 15,g 16,g 17,g 18,g 19,g 20,g 21,g 22,g 23,g 24,g 25,g 26,g 27,g 28,g 29])/\FO b Q z (kY sz)/\2^(kY sz).length<=5040/\(∀x∈kY sz,x.1<1000000)/\Fr h2 Q) ?_ ?_
 ·refine aI (λB d Q=> ∃(i:Nat) (z:V),(∃g:Nat->V,d= [g 0,g 1,g 2,g 3,vl,g 5,z,aC i,g 8,g 9,g 10,g 11,g 12,g 13,g 14,g 15,g 16,g 17,g 18,g 19,g 20,g 21,g 22,g 23,g 24,g 25,g 26,g 27,g 28,g 29])/\1<=i/\i<=rs.length/\FO b Q z (kY (sz.take i))/\2^(kY (sz.take i)).length<=sz.getD (i- 1) 0/\(∀x∈kY (sz.take i),x.1<1000000)/\Fr h2 Q/\B=rs.length-i) (rs.length- 1)
   ⟨1,.aD,aB rfl,om,om,?_,?_,?_,Fr.refl _,rfl⟩ ?_
  ·rw[RL];exact .inl ⟨rfl,rfl⟩
  ·rw[RL,List.getD,dD om,Option.getD_some,N 0 r0]
   exact (sb 0 r0).1
  ·rw[RL];exact λx P=>by cases P
  rintro B d Q ⟨i,z,⟨g,rfl⟩,g0,hi,fr,bd,sm,F,rfl⟩
  by_cases W:(i:Int)<(rs.length:Int)
  case neg=>
   have d1:=bI W;obtain rfl:i=rs.length:=om
   rw[←d5,List.take_length] at fr bd sm;simp(disch:=omega)only[go_sem,lv,d1];exact⟨z,aB rfl,fr,mY bd (b9 _),sm,F⟩
  have d1:=cI W
  have Y:i<rs.length:=om
  have U:i- 1<rs.length:=om
  obtain⟨ia,oa,a4,ra,na⟩:=SV.rec (k:=3) (f:=λp:V×V=> [aC n,p.1,p.2]) om (λ_=>rfl) (sv.mono F) (i:=i) om
  obtain⟨ib,ob,a7,rb,nb⟩:=SV.rec (k:=3) (f:=λp:V×V=> [aC n,p.1,p.2]) om (λ_=>rfl) (sv.mono F) (i:=i- 1) om
  obtain⟨rfl,rfl⟩:=aeC a4 a7 om
  have ga:=(aN.get al i om Y).go (Fx.of F) (W':=λ_=>False) λ_ _ h=>h
  have gb:=(aN.get al (i- 1) om U).go (Fx.of F) (W':=λ_=>False) λ_ _ h=>h
  have ei:(i:Int)- 1=((i- 1:Nat):Int):=om
  have fb: ∀m,Q.next<=m->Fr Q (H.mk Q.tr m):=λm hm=>(Fr.refl Q).bH hm
  simp(disch:=omega)only[go_sem,lv,d1,a4.ixa,ra,ei,a7.ixa,rb]
  refine ((ga.go (Fx.of (fb (Q.next+13) om)) (W':=λ_=>False) λ_ _ h=>h).sz E (cb.all _ (xG Y))).mono ?_
  rintro _ h3 ⟨rfl,f3⟩
  have a2:=(fb _ om).trans f3
  have b6:h3.row ia (oa+(i- 1)*3) 3=some [aC n,ls[i- 1].1,ls[i- 1].2]:=by rw[DQ a2 nb];exact rb
  have eb:=gb.eq
  simp(disch:=omega)only[go_sem,b6,eb.1,eb.2]
  refine ((gb.go (Fx.of a2) (W':=λ_=>False) λ_ _ h=>h).sz E (cb.all _ (xG U))).mono ?_
  rintro _ h4 ⟨rfl,f4⟩
  have F4:=F.trans (a2.trans f4)
  obtain⟨q,o⟩:=exI (rs[i].length/rs[i- 1].length)
  have s1:=sb (i- 1) U
  have s2:=sb i Y
  have db:=acN hG E cb ik (i:=i- 1) om
  simp only[show i- 1+1=i by omega] at db
  have q2:2<=q:=by rw[←o];exact (Nat.le_div_iff_mul_le om).2 db
  have q3:rs[i- 1].length*q<=rs[i].length:=by rw[←o];exact Nat.mul_div_le _ _
  have q4:q<=5040:=mY (by rw[←o];exact Nat.div_le_self _ _) s2.2
  have c4:Int.tdiv ((rs[i].length:Nat):Int) ((rs[i- 1].length:Nat):Int)=(q:Int):=by rw[←o];rfl
  have z0:decide (((rs[i- 1].length:Nat):Int)=0)=false:=bI om
  simp(disch:=omega)only[go_sem,c4,z0]
  clear c4 z0 b6 ra rb a4 a7
  refine bQ (λvs h'=>h'=h4/\ ∃p:Nat,(∃g:Nat->V,vs= [g 0,g 1,g 2,g 3,vl,g 5,z,aC i,aC q,aC p,g 10,g 11,g 12,g 13,g 14,g 15,g 16,g 17,g 18,g 19,g 20,g 21,g 22,g 23,g 24,g 25,g 26,g 27,g 28,g 29])/\2<=p/\p<=q/\q%p=0/\p=BO (q- 2) q 2) ?_ ?_
  ·refine aI (λB d h'=> ∃(p:Nat),(∃g:Nat->V,d= [g 0,g 1,g 2,g 3,vl,g 5,z,aC i,aC q,aC p,g 10,g 11,g 12,g 13,g 14,g 15,g 16,g 17,g 18,g 19,g 20,g 21,g 22,g 23,g 24,g 25,g 26,g 27,g 28,g 29])/\2<=p/\p<=q/\BO (q-p) q p=BO (q- 2) q 2/\h4=h'/\B=q-p) (q- 2)
    ⟨2,aB rfl,fN _,q2,rfl,rfl,rfl⟩ ?_
   rintro B d h' ⟨p,⟨g,rfl⟩,p2,pq,lp,rfl,rfl⟩
   have em:Int.tmod (q:Int) (p:Int)=((q%p:Nat):Int):=rfl
   have z0:decide ((p:Int)=0)=false:=bI om
   by_cases hz:q%p=0
   ·have dz:decide (((q%p:Nat):Int)≠0)=false:=bI om
    have e:p=BO (q- 2) q 2:=by
     rw[←lp]
     cases q-p with
     |zero=>rfl
     |succ f=>show p=if q%p=0 then p else _;rw[bJ hz]
    simp(disch:=omega)only[go_sem,em,z0,dz]
    exact⟨p,aB rfl,p2,pq,hz,e⟩
   ·have dz:decide (((q%p:Nat):Int)≠0)=true:=cI om
    have pl:p<q:=Nat.lt_of_le_of_ne pq λe=>hz (by rw[e];exact Nat.mod_self q)
    have e:BO (q-(p+1)) q (p+1)=BO (q- 2) q 2:=by
     rw[←lp,show q-p=(q-(p+1))+1 by omega];show _=if q%p=0 then p else _
     rw[bU hz]
    simp(disch:=omega)only[go_sem,em,z0,dz]
    rw[fJ p]
    exact⟨q-(p+1),om,p+1,aB rfl,om,pl,e,rfl⟩
  rintro d h' ⟨rfl,p,⟨g,rfl⟩,p2,pq,hz,ep⟩
  simp(disch:=omega)only[go_sem]
  refine bQ (λvs h5=>Fr h' h5/\ ∃k r:Nat,(∃g:Nat->V,vs= [g 0,g 1,g 2,g 3,vl,g 5,z,aC i,aC q,aC p,aC k,aC r,g 12,g 13,g 14,g 15,g 16,g 17,g 18,g 19,g 20,g 21,g 22,g 23,g 24,g 25,g 26,g 27,g 28,g 29])/\q=p^k*r/\1<=r/\(k,r)=FE q p 0 q) ?_ ?_
  ·refine aI (λB d h5=> ∃(k r f:Nat),(∃g:Nat->V,d= [g 0,g 1,g 2,g 3,vl,g 5,z,aC i,aC q,aC p,aC k,aC r,g 12,g 13,g 14,g 15,g 16,g 17,g 18,g 19,g 20,g 21,g 22,g 23,g 24,g 25,g 26,g 27,g 28,g 29])/\q=p^k*r/\1<=r/\r<=f/\FE f p k r=FE q p 0 q/\k<1000000-r/\Fr h' h5/\r=B) q
    ⟨0,q,q,aB rfl,by simp,om,fN _,rfl,om,Fr.refl _,rfl⟩ ?_
   rintro B d h5 ⟨k,r,f,⟨g,rfl⟩,eq,r1,rf,sf,kb,f5,rfl⟩
   have em:Int.tmod (r:Int) (p:Int)=((r%p:Nat):Int):=rfl
   have z0:decide ((p:Int)=0)=false:=bI om
   have rq:r<=q:=by rw[eq];exact Nat.le_mul_of_pos_left _ (Nat.pow_pos om)
   by_cases hz:r%p=0
   ·have dz:decide (((r%p:Nat):Int)=0)=true:=cI om
    have ed:Int.tdiv (r:Int) (p:Int)=((r/p:Nat):Int):=rfl
    obtain⟨f',rfl⟩: ∃f',f=f'+1:=⟨f- 1,om⟩
    have e:FE f' p (k+1) (r/p)=FE q p 0 q:=by
     rw[←sf];show _=if r%p=0 then _ else _
     rw[bJ hz]
    have rd:r/p<r:=Nat.div_lt_self om om
    have rm:p*(r/p)=r:=Nat.mul_div_cancel' (Nat.dvd_of_mod_eq_zero hz)
    have rp:1<=r/p:=Nat.pos_of_ne_zero λe=>by rw[e,Nat.mul_zero] at rm;omega
    have e2:q=p^(k+1)*(r/p):=by rw[Nat.pow_succ,Nat.mul_assoc,rm];exact eq
    simp(disch:=omega)only[go_sem,em,z0,dz,ed]
    rw[fJ k]
    exact⟨r/p,rd,k+1,r/p,f',aB rfl,e2,rp,om,e,om,f5.trans ((Fr.refl _).bH om),rfl⟩
   ·have dz:decide (((r%p:Nat):Int)=0)=false:=bI om
    have e:(k,r)=FE q p 0 q:=by
     rw[←sf]
     cases f with
     |zero=>omega
     |succ f=>show _=if r%p=0 then _ else _;rw[bU hz]
    simp(disch:=omega)only[go_sem,em,z0,dz]
    exact⟨f5,k,r,aB rfl,eq,r1,e⟩
  rintro d h5 ⟨f5,k,r,⟨g,rfl⟩,e3,r1,e9⟩
  have F5:=F4.trans f5
  have b4:=fr.mono ((a2.trans f4).trans f5)
  have d0:fY q=Du p k q r:=by
   unfold fY;rw[←ep,←e9]
  have J:kY (sz.take (i+1))=kY (sz.take i)++Du p k q r:=by
   have:=Dg sz (i- 1) om;simp only[show i- 1+2=i+1 by omega,show i- 1+1=i by omega] at this;rw[N i Y,N (i- 1) U,o,d0] at this;exact this
  have Z:2^(kY (sz.take (i+1))).length<=sz.getD (i+1- 1) 0:=by
   rw[J,iV,Nat.pow_add,Nat.add_sub_cancel,List.getD,dD om,Option.getD_some,N i Y];rw[List.getD,dD om,Option.getD_some,N (i- 1) U] at bd;exact mY (Nat.mul_le_mul bd (VD p2 q2 e3 r1)) q3
  have g2:b<=h5.next:=by have:=F5.next;omega
  have d9: ∀{m s:Nat},2^m<=s->s<=5040->m<20:=λ{m s} h1 h2=>Jj λh=>by
   have:=Nat.pow_le_pow_right (show 0<2 by omega) (show 20<=m by omega);have e:2^20=1048576:=rfl;omega
  have a0:=d9 Z (b9 _)
  have a6:(∀x∈Du p k q r,x.1<1000000)-> ∀x∈kY (sz.take (i+1)),x.1<1000000:=λh x P=>by
   rw[J] at P;exact (oD.1 P).elim (sm x) (h x)
  rw[J,iV] at a0
  by_cases b0:r=1
  ·have d2:decide ((r:Int)=1)=true:=cI om
   have ef:Du p k q r=List.replicate k (p,67::tI p):=by unfold Du;rw[bJ b0]
   rw[ef,List.length_replicate] at a0
   have c9:=a6 (by rw[ef];exact λx P=>by rw[(List.mem_replicate.1 P).2];show p<_;omega)
   simp(disch:=omega)only[go_sem,d2]
   refine bQ (λvs h'=> ∃t,(∃g:Nat->V,vs= [g 0,g 1,g 2,g 3,vl,g 5,t,aC i,g 8,g 9,g 10,g 11,g 12,g 13,g 14,g 15,g 16,g 17,g 18,g 19,g 20,g 21,g 22,g 23,g 24,g 25,g 26,g 27,g 28,g 29])/\FO b h' t (kY (sz.take i)++List.replicate k (p,67::tI p))/\Fr h2 h') ?_ ?_
   ·refine aI (λB d h'=> ∃(j:Nat) (t:V),(∃g:Nat->V,d= [g 0,g 1,g 2,g 3,vl,g 5,t,aC i,g 8,aC p,g 10,g 11,g 12,g 13,g 14,g 15,g 16,g 17,g 18,g 19,g 20,g 21,aC k,aC j,g 24,g 25,g 26,g 27,g 28,g 29])/\j<=k/\FO b h' t (kY (sz.take i)++List.replicate j (p,67::tI p))/\Fr h2 h'/\B=k-j) k
     ⟨0,z,aB rfl,iB _,by rw[List.replicate_zero,tZ];exact b4,F5,rfl⟩ ?_
    rintro B d h6 ⟨j,w6,⟨g,rfl⟩,h0,a1,F6,rfl⟩
    by_cases b2:(j:Int)<(k:Int)
    case neg=>
     have d3:=bI b2;obtain rfl:j=k:=om
     simp(disch:=omega)only[go_sem,d3];exact⟨w6,aB rfl,a1,F6⟩
    have d3:=cI b2
    simp(disch:=omega)only[go_sem,d3]
    refine (abK p h6 om).mono ?_
    rintro _ h7 ⟨rfl,f7⟩
    have dl:=AH p
    obtain⟨D,hD⟩:=exI h7.next
    obtain⟨h8,e8,n8,g8,q8,f8⟩:=dK hD (Kp (p,67::tI p))
    have n7:=F6.next
    have g3:=f7.next
    obtain⟨t,h9,a9,b1,n9,o9⟩:=FM (x:=(p,67::tI p)) ((a1.mono f7).mono f8) om (by rw[iV,List.length_replicate];omega) om g8
    have c7:adQ h7 (.str [67]) (.str (tI p))=some (.str (67::tI p),h7):=QU h7 (a:= [67]) (b:=tI p) (by show 1+_<_;omega)
    simp(disch:=omega)only[go_sem,IK,c7,BP,VV,hD,e8,a9]
    rw[fJ j]
    exact⟨k-(j+1),om,j+1,t,aB rfl,om,by rw[List.replicate_succ',←Lz];exact b1,⟨om,λq' a3=>by rw[o9 q' om,q8 q' om,f7.get q' om];exact F6.get q' a3⟩,rfl⟩
   rintro d h6 ⟨w6,⟨g,rfl⟩,a1,F6⟩
   simp(disch:=omega)only[go_sem]
   rw[fJ i]
   exact⟨rs.length-(i+1),om,i+1,w6,aB rfl,om,om,by rw[J,ef];exact a1,Z,c9,F6,rfl⟩
  have d2:decide ((r:Int)=1)=false:=bI om
  simp(disch:=omega)only[go_sem,d2]
  refine (PO h5).mono ?_
  rintro vt h6 ⟨c1,f6⟩
  simp(disch:=omega)only[go_sem]
  refine (QN vt Gm q h6 (by decide) om ND acU c1).mono ?_
  rintro _ h7 ⟨kk,bb,rfl,d8,c8,f7⟩
  have F7:=F5.trans (f6.trans f7)
  have b8:=b4.mono (f6.trans f7)
  cases bb with
  |false=>
   have ef:Du p k q r= []:=by
    unfold Du;rw[bU b0,List.find?_eq_none.2 λx P=>by simpa using c8 rfl x P]
   simp(disch:=omega)only[go_sem];rw[fJ i];exact⟨rs.length-(i+1),om,i+1,z,aB rfl,om,om,by rw[J,ef,tZ];exact b8,Z,a6 (by rw[ef];exact λx P=>by cases P),F7,rfl⟩
  |true=>
   obtain⟨hk,ek⟩:=d8 rfl
   have ef:Du p k q r= [(q,Gm[kk].2)]:=by
    have:=QG kk hk;rw[ek] at this;unfold Du;rw[bU b0,this]
   obtain⟨it,ot,f0,_,ct⟩:=(c1.mono f7).shape Gm.length (Hm _) om;have ck:=(ct (kk*2+1) (by rw[Hm];omega)).trans (RB hk);rw[←Nat.add_assoc] at ck;obtain⟨D,hD⟩:=exI h7.next;obtain⟨h8,e8,n8,g8,q8,f8⟩:=dK hD (Kp (q,Gm[kk].2));have n7:=F7.next;obtain⟨t,h9,a9,b1,n9,o9⟩:=FM (x:=(q,Gm[kk].2)) (b8.mono f8) om om om g8;simp(disch:=omega)only[go_sem,f0.ixa,ck,BP,VV,hD,e8,a9];rw[fJ i];exact⟨rs.length-(i+1),om,i+1,t,aB rfl,om,om,by rw[J,ef];exact b1,Z,a6 (by rw[ef];exact λx P=>by rw[List.mem_singleton.1 P];show q<_;omega),⟨om,λq' a3=>by rw[o9 q' om,q8 q' om];exact F7.get q' a3⟩,rfl⟩
 rintro d Q ⟨z,⟨g,rfl⟩,fr,bd,sm,F⟩
 have nF:=F.next
 have a0:(kY sz).length<20:=Jj λh=>by
  have:=Nat.pow_le_pow_right (show 0<2 by omega) (show 20<=(kY sz).length by omega);have e:2^20=1048576:=rfl;omega
 simp(disch:=omega)only[go_sem]
 refine (fr.sort om a0 sm).mono ?_
 rintro w3 h3 ⟨c2,n3,o3⟩
 have F3:Fr h2 h3:=⟨om,λq o=>by rw[o3 q om,F.get q o]⟩
 obtain⟨y,b7⟩:=exI (Ke (kY sz))
 have d7:=Uq (kY sz)
 rw[b7] at c2 d7
 have en:Dv rs=y.map Prod.snd:=by unfold Dv;rw[a5,b7]
 have c5:SV h3 z 2 (Dw y):=c2.own.sv
 have e4:=Zi c5
 simp(disch:=omega)only[go_sem,e4]
 refine aI (λB d h'=> ∃(j:Nat) (w:V),(∃g:Nat->V,d= [g 0,g 1,g 2,g 3,g 4,g 5,g 6,g 7,g 8,g 9,g 10,g 11,g 12,g 13,g 14,w,g 16,g 17,g 18,g 19,g 20,g 21,g 22,g 23,g 24,g 25,z,aC (y.length:Int),aC j,g 29])/\j<=y.length/\dH h' w 1 ((y.take j).map λx=>V.str x.2) h3.next/\Fr h3 h'/\B=y.length-j) y.length
  ⟨0,.aD,aB rfl,iB _,dH.aD _ _ _,Fr.refl _,rfl⟩ ?_
 rintro B d h4 ⟨j,w,⟨g,rfl⟩,hj,ow,F4,rfl⟩
 by_cases W:(j:Int)<(y.length:Int)
 case neg=>
  have d1:=bI W;obtain rfl:j=y.length:=om
  rw[List.take_length] at ow;simp(disch:=omega)only[go_sem,d1];refine⟨w,L,K,rs,rfl,eL,ik,cl,by rw[en,List.map_map];exact ow.sv,by rw[en,iA];omega,f1.trans (f2.trans (F3.trans F4))⟩
 have d1:=cI W
 have b3:j<y.length:=om
 obtain⟨ij,oj,d4,rj,_⟩:=Wq (c5.mono F4) b3
 obtain⟨C,hC⟩:=exI h4.next
 obtain⟨h5,e5,n5,g5,q5,f5⟩:=dK hC [aC 0,.str []]
 obtain⟨h6,e6,n6,g6,q6⟩:=mV h5 C (Kp y[j])
 obtain⟨h7,e7,n7,g7,q7,f7⟩:=dK (h:=h6) (n6.trans n5) [.str y[j].2]
 have c0:Fr h4 h7:=⟨om,λq o=>by rw[q7 q om,q6 q om,q5 q om]⟩
 have n4:=F4.next
 have lt:((y.take j).map λx=>V.str x.2).length=j:=by rw[iA,zO,Nat.min_eq_left hj]
 obtain⟨h8,a8,p8⟩:=((ow.fr c0).le (iB _)).push (bytes:=16) (SV.one om g7 (.kn 1)) (n:=j) (m:=1) om rfl om om om
 have n8:=p8.next
 have c6: ∀(o:H) (id:Nat),eU (bB [aC 0,.str []]) o id 0 (Kp y[j])=some (o.set id (bB (Kp y[j]))):=λo id=>by simp [eU,putAt]
 have d6: ∀(o:H) (s:List Nat),mH o 1 [.str []] 1 [(0,1,.str s)]=some (.sl o.next 0 1 (.kn 1),o.new (.cells false [.str s])):=λo s=>cK o rfl rfl
 simp(disch:=omega)only[go_sem,d1,d4.ixa,rj,hC,e5,vB _ C 0 (a:= aC (y[j].1:Int)) (b:= .str y[j].2) rfl rfl,g5,c6,e6,H.aF g6,d6,n6,n5,e7,a8]
 rw[fJ j]
 refine⟨y.length-(j+1),om,j+1,_,aB rfl,om,?_,⟨om,λq o=>?_⟩,rfl⟩
 ·rw[List.take_succ_eq_append_getElem b3,List.map_append]
  exact p8.own om rfl om
 ·rw[p8.old q om λid g4 m c e e2=>by have:=(ow.in _ _ _ _ e).2.1;omega,c0.get q om]
  exact F4.get q o
end
section
variable {n:Nat} {x y z a b:List Nat}
theorem ajT (A:aY n a)(Y:aY n y)(B:aY n b):aM (aM a y) (aM (bZ y) b)=aM a b:=by
 rw[aG A Y (Y.inv.mul B),←aG Y Y.inv B,cG Y,bX B]
theorem wK (X:aY n x)(Y:aY n y)(Z:aY n z):cU (aM x y) z=aM (aT (cU x z) y) (cU y z):=by
 have A:=dC X Z;have B:=dC Y Z;rw[oH (X.mul Y) Z,gX X Y Z,Av X Y,oH X Z,oH Y Z];show _=aM (aM (aM (bZ y) (aM (bZ x) (aT x z))) y) (aM (bZ y) (aT y z));rw[ajT (Y.inv.mul (X.inv.mul A)) Y B,aG Y.inv X.inv (A.mul B),aG Y.inv (X.inv.mul A) B,aG X.inv A B]
theorem vV (X:aY n x)(Y:aY n y):cU x y=aM (aT (bZ y) x) y:=by
 show aM (aM (bZ x) (bZ y)) (aM x y)=aM (aM (aM (bZ x) (bZ y)) x) y;rw[aG (X.inv.mul Y.inv) X Y]
theorem uL (X:aY n x)(Y:aY n y)(Z:aY n z):cU x (aM y z)=aM (cU x z) (aT (cU x y) z):=by
 have A:=dC Z.inv X;have B:=dC Y.inv X;rw[vV X (Y.mul Z),Av Y Z,gX Z.inv Y.inv X,vV X Z,vV X Y];show _=aM (aM (aT (bZ z) x) z) (aM (aM (bZ z) (aM (aT (bZ y) x) y)) z);rw[aG Z.inv (B.mul Y) Z,ajT A Z ((B.mul Y).mul Z),aG A B (Y.mul Z),aG B Y Z]
end
section
variable {n:Nat} {G K:List Nat->Prop} {O O':LN} {R R':jJ}
theorem oV.all (i:dO n G)(o:dO n K)(c:aV n G O R)(d:aV n K O' R'){p q:List Nat}(f:G p)(r:K q):oV n R R' (cU p q):=by
 have j:=oV.cY i o c d;have s: ∀g∈cE R,aY n g:=λg h=>i.bF (bE c h)
 have l: ∀g∈cE R',aY n g:=λg h=>o.bF (bE d h)
 have st1: ∀{p},G p-> ∀k,k∈cE R'->oV n R R' (cU p k):=λ{p} f k m=>by
  have h:=oG i c f;clear f
  induction h with
  |one=>rw[Sy (l k m)];exact j.one
  | @mul y g hy hg ih=>
   rw[wK (hy.bF s) (s g hg) (l k m)];exact j.mul (NC.cj ih (.inl hg)) (NC.of ⟨g,hg,k,m,rfl⟩)
 have h:=oG o d r;have P:=i.bF f;clear r
 induction h with
 |one=>rw[To P];exact j.one
 | @mul y g hy hg ih=>
  rw[uL P (hy.bF l) (l g hg)];exact j.mul (st1 f g hg) (NC.cj ih (.inr hg))
def Eb (n:Nat)(A C D:LN)(ws:List (List (Nat×Nat))):Bool:=
 D==ws.map (λw=>w.foldl (λx i=>aM x (cU (A.getD i.1 []) (C.getD i.2 []))) (aX n))&&ws.all (λw=>w.all λi=>decide (i.1<A.length/\i.2<C.length))&&decide (D.Pairwise λx y=>sQ x y=true)&&D.all (λx=>x.length==n)&&D.contains (aX n)&&D.all (λx=>D.all λy=>D.contains (aM x y))&&D.all (λx=>D.contains (bZ x))&&A.all (λp=>C.all λq=>D.contains (cU p q))&&D.all (λy=>A.all (λg=>D.contains (aT y g))&&C.all λg=>D.contains (aT y g))
theorem Eb.AV (t:dO n G)(u:dO n K)(c:aV n G O R)(d:aV n K O' R'){A C D:LN}{ws:List (List (Nat×Nat))}(E:cZ G A)(F:cZ K C)(h:Eb n A C D ws=true):cZ (oV n R R') D:=by
 unfold Eb at h;simp only[sE,beq_iff_eq,zP,Ak,List.contains_iff_mem] at h;obtain⟨⟨⟨⟨⟨⟨⟨⟨v,Y⟩,h3⟩,r⟩,Z⟩,U⟩,W⟩,B⟩,s⟩:=h;have o:=oV.cY t u c d
 have sub: ∀x,x∈D->oV n R R' x:=λx f=>by
  rw[v] at f;obtain⟨w,N,rfl⟩:=pH.1 f
  have m: ∀(w:List (Nat×Nat)) (x:List Nat),(∀i∈w,i.1<A.length/\i.2<C.length)->oV n R R' x->oV n R R' (w.foldl (λx i=>aM x (cU (A.getD i.1 []) (C.getD i.2 []))) x):=by
   intro w
   induction w with
   |nil=>exact λx _ h=>h
   |cons i w ih=>
    intro x hi f;have:=hi i (by simp);exact ih _ (λj P=>hi j (by simp [P])) (o.mul f (oV.all t u c d ((E.mem _).1 (bC this.1)) ((F.mem _).1 (bC this.2))))
  exact m w _ (Y w N) o.one
 refine⟨List.Pairwise.imp_of_mem (λf k h=>(mQ (by rw[r _ f,r _ k])).1 h) h3,λx=>⟨sub x,λf=>?_⟩⟩
 have L:dO n (· ∈D):=⟨λh=>o.bF (sub _ h),Z,λa b=>U _ a _ b,λa=>W _ a⟩
 refine NC.le (H:=(· ∈D)) f L ?_ ?_
 ·rintro a ⟨p,J,q,Q,rfl⟩
  exact B p ((E.mem _).2 (bE c J)) q ((F.mem _).2 (bE d Q))
 ·rintro y b k (l|l)
  ·exact (s y k).1 b ((E.mem _).2 (bE c l))
  ·exact (s y k).2 b ((F.mem _).2 (bE d l))
end
set_option maxRecDepth 100000
set_option maxRecDepth 100000
set_option maxRecDepth 100000
set_option maxRecDepth 100000
set_option maxHeartbeats 8000000
theorem acO {W W':Nat->Prop}(l j:V)(n:Nat)(c d:jZ)(G G':List Nat->Prop)(h:H)(m:GC W h l n c.1 c.2 G)(k:GC W' h j n d.1 d.2 G'):
  Ev T 31 [l,j] h (λv h'=>v= .bool (decide (c=d))/\Fr h h'):=by
 refine (Wi l j n n _ _ _ _ h m.ch k.ch m.small.1 k.small.1 m.small.2 k.small.2).mono ?_
 rintro _ o ⟨rfl,f⟩
 have inj: ∀{a b:LN},a.map zi=b.map zi->a=b:=λh=>map_inj (λ_ _=>Wv) h
 have i: ∀{a b:jJ},a.map (List.map zi)=b.map (List.map zi)->a=b:=λh=>map_inj (λ_ _=>inj) h
 exact⟨congrArg V.bool (decide_eq_decide.2 ⟨λ⟨_,a,b⟩=>Prod.ext (inj a) (i b),λe=>by rw[e];exact⟨rfl,rfl,rfl⟩⟩),f⟩
set_option maxRecDepth 100000
set_option maxHeartbeats 16000000
set_option maxRecDepth 100000
structure Sml (d:Int)(O:List (List Int))(R:List (List (List Int))):Prop where
 deg:d<=6∨64<d
 lo:O.length<=12
 lr:R.length<=12
 ro: ∀i,i<O.length->(O.getD i []).length<=12
 rr: ∀i,i<R.length->(R.getD i []).length<=12/\ ∀k,k<(R.getD i []).length->((R.getD i []).getD k []).length<=12
theorem Sml.small {d:Int}{O:List (List Int)}{R:List (List (List Int))}(s:Sml d O R):Bf O/\Pw R:=
 ⟨⟨by have:=s.lo;omega,λi hi=>by have:=s.ro i hi;omega⟩,⟨by have:=s.lr;omega,λi hi=>by have:=(s.rr i hi).1;omega⟩⟩
set_option maxRecDepth 100000
theorem agD (h:H)(x y z w u:Int):mH h 1 [aC 0] 5 [(0,1,aC x),(1,1,aC y),(2,1,aC z),(3,1,aC w),(4,1,aC u)]=some (.sl h.next 0 5 (.kn 5),h.new (.cells false (ints [x,y,z,w,u]))):=by
 have e:dP [aC 0] 5= [aC 0,aC 0,aC 0,aC 0,aC 0]:=rfl;simp [mH,iK,e,putAt,V.cells,V.one,ints]
abbrev FC:LN:= [[1,2,3,0], [1,0,2,3]]
theorem Yc: ∀g∈FC,aY 4 g:=by
 intro g a;simp only[FC,vI,List.not_mem_nil,or_false] at a;rcases a with rfl|rfl<;>exact⟨rfl,by decide,by decide⟩
abbrev Jx:LN:= [[1,0,3,2], [2,3,0,1]]
theorem Ug: ∀g∈Jx,aY 4 g:=by
 intro g a;simp only[Jx,vI,List.not_mem_nil,or_false] at a;rcases a with rfl|rfl<;>exact⟨rfl,by decide,by decide⟩
abbrev D4g:LN:= [[1,2,3,0], [2,1,0,3]]
theorem QW: ∀g∈D4g,aY 4 g:=by
 intro g a;simp only[D4g,vI,List.not_mem_nil,or_false] at a;rcases a with rfl|rfl<;>exact⟨rfl,by decide,by decide⟩
abbrev FT:LN:= [[1,2,0,3,4], [1,2,3,4,0]]
theorem GB: ∀g∈FT,aY 5 g:=by
 intro g a;simp only[FT,vI,List.not_mem_nil,or_false] at a;rcases a with rfl|rfl<;>exact⟨rfl,by decide,by decide⟩
theorem Ls (h:H):Ev T 28 [] h (λv h'=> ∃c0 c1 c2 c3 O0 R0 O1 R1 O2 R2 O3 R3,v= .tup [c0,c1,c2,c3]/\GC (λid=>id<h.next) h' c0 4 O0 R0 (bM 4 (· ∈FC))/\GC (λid=>id<h.next) h' c1 4 O1 R1 (bM 4 (· ∈Jx))/\GC (λid=>id<h.next) h' c2 4 O2 R2 (bM 4 (· ∈D4g))/\GC (λid=>id<h.next) h' c3 5 O3 R3 (bM 5 (· ∈FT))/\Fr h h'):=by
 refine dW Bs rfl ?_;obtain⟨B,hB⟩:=exI h.next;obtain⟨c,e1,n1,g1,o1,f1⟩:=dK hB [aC 0,.aD,.aD];obtain⟨q,e2,n2,g2,o2,f2⟩:=dK n1 [aC 0,.aD,.aD];obtain⟨h3,e3,n3,g3,o3,f3⟩:=dK n2 [aC 0,.aD,.aD];obtain⟨Z,e4,n4,g4,o4,f4⟩:=dK n3 [aC 0,.aD,.aD];have l6:=((f1.trans f2).trans f3).trans f4;have n9:Z.get B=bB [aC 0,.aD,.aD]:=by rw[o4 _ om,o3 _ om,o2 _ om];exact g1
 have r8:Z.get (B+1)=bB [aC 0,.aD,.aD]:=by rw[o4 _ om,o3 _ om];exact g2
 have j8:Z.get (B+1+1)=bB [aC 0,.aD,.aD]:=by rw[o4 _ om];exact g3
 have k0:Z.get (B+1+1+1)=bB [aC 0,.aD,.aD]:=by exact g4
 obtain⟨Q0,g7⟩: ∃Q,Z.next=Q:=⟨_,rfl⟩
 obtain⟨i0,i9,d0,s4,n5⟩:=mkI g7 [1,2,3,0];obtain⟨j0,m6,d1,p6,f5⟩:=mkI d0 [1,0,2,3];obtain⟨x0,l7,v9,s9,v1,f8⟩:=dK d1 [.sl Q0 0 4 (.kn 4),.sl (Q0+1) 0 4 (.kn 4)];have p3:Fr Z x0:=(n5.trans f5).trans f8;have LO:SP x0 (.sl (Q0+1+1) 0 2 (.kn 2)) FC:=SP.two (a:= [1,2,3,0]) (b:= [1,0,2,3]) (h:=j0) (s4.mono f5) p6 om f8 s9 _;simp(disch:=omega)only[go_sem,Bs,aE,hB,e1,n1,e2,n2,e3,n3,e4,g7,Gh,i9,d0,m6,d1,Vf _ (nL ..) (nL ..),l7];refine (rL _ 4 FC x0 om om (by decide) LO Yc).mono ?_;rintro _ m0 ⟨c0,O0,R0,rfl,c5,h8⟩;have r5:=c5.sl;obtain⟨d,m,rfl,a0,b0,o6,k9⟩:=r5;have j:Fr Z m0:=p3.trans h8;have w7:=j.next;have v6:=h8.next;have i4:m0.get B=bB [aC 0,.aD,.aD]:=by rw[j.get _ om];exact n9
 obtain⟨N,p8,v8,j7,z⟩:=mV m0 B [aC (4:Nat),d,m];have p9:=cF m0 B 0 (v:= aC (4:Nat)) (u:=d) (w:=m) rfl a0 b0;have s8:N.get B=bB [aC (4:Nat),d,m]:=j7;have r6:N.get (B+1)=bB [aC 0,.aD,.aD]:=by rw[z _ om,j.get _ om];exact r8
 have i5:N.get (B+1+1)=bB [aC 0,.aD,.aD]:=by rw[z _ om,j.get _ om];exact j8
 have r9:N.get (B+1+1+1)=bB [aC 0,.aD,.aD]:=by rw[z _ om,j.get _ om];exact k0
 have G0:GC (λid=>id<B+4) N _ 4 O0 R0 _:=c5.go (⟨om,λid c q=>z id om⟩:Fx (λid=>id<x0.next) m0 N) (λid c q=>om)
 have X0:Fx (λid=>id<B+4) Z N:=⟨om,λid c q=>by rw[z id om,j.get id c]⟩
 obtain⟨Q1,e9⟩: ∃Q,N.next=Q:=⟨_,rfl⟩
 obtain⟨i1,s0,d3,i7,o0⟩:=mkI e9 [1,0,3,2];obtain⟨j1,q8,d7,p4,d4⟩:=mkI d3 [2,3,0,1];obtain⟨x1,l4,t5,k2,t7,h7⟩:=dK d7 [.sl Q1 0 4 (.kn 4),.sl (Q1+1) 0 4 (.kn 4)];have m8:Fr N x1:=(o0.trans d4).trans h7;have q5:SP x1 (.sl (Q1+1+1) 0 2 (.kn 2)) Jx:=SP.two (a:= [1,0,3,2]) (b:= [2,3,0,1]) (h:=j1) (i7.mono d4) p4 om h7 k2 _;simp(disch:=omega)only[go_sem,p9,i4,cH,p8,e9,Gh,s0,d3,q8,d7,Vf _ (nL ..) (nL ..),l4];refine (rL _ 4 Jx x1 om om (by decide) q5 Ug).mono ?_;rintro _ m1 ⟨c1,O1,R1,rfl,d9,h5⟩;have q4:=d9.sl;obtain⟨p,o,rfl,a1,b1,k4,m4⟩:=q4;have l:Fr N m1:=m8.trans h5;have u8:=l.next;have v3:=h5.next;have i8:m1.get (B+1)=bB [aC 0,.aD,.aD]:=by rw[l.get _ om];exact r6
 obtain⟨U,o5,t6,p7,r⟩:=mV m1 (B+1) [aC (4:Nat),p,o];have st1:=cF m1 (B+1) 0 (v:= aC (4:Nat)) (u:=p) (w:=o) rfl a1 b1;have r1:U.get B=bB [aC (4:Nat),d,m]:=by rw[r _ om,l.get _ om];exact s8
 have p0:U.get (B+1)=bB [aC (4:Nat),p,o]:=p7;have m5:U.get (B+1+1)=bB [aC 0,.aD,.aD]:=by rw[r _ om,l.get _ om];exact i5
 have o9:U.get (B+1+1+1)=bB [aC 0,.aD,.aD]:=by rw[r _ om,l.get _ om];exact r9
 have G1:GC (λid=>id<B+4) U _ 4 O1 R1 _:=d9.go (⟨om,λid c q=>r id om⟩:Fx (λid=>id<x1.next) m1 U) (λid c q=>om)
 have X1:Fx (λid=>id<B+4) N U:=⟨om,λid c q=>by rw[r id om,l.get id c]⟩
 obtain⟨Q2,d5⟩: ∃Q,U.next=Q:=⟨_,rfl⟩
 obtain⟨i2,m9,c7,r7,n7⟩:=mkI d5 [1,2,3,0];obtain⟨j2,l0,f6,l2,h6⟩:=mkI c7 [2,1,0,3];obtain⟨x2,k7,t8,p1,w5,e7⟩:=dK f6 [.sl Q2 0 4 (.kn 4),.sl (Q2+1) 0 4 (.kn 4)];have i6:Fr U x2:=(n7.trans h6).trans e7;have s3:SP x2 (.sl (Q2+1+1) 0 2 (.kn 2)) D4g:=SP.two (a:= [1,2,3,0]) (b:= [2,1,0,3]) (h:=j2) (r7.mono h6) l2 om e7 p1 _;simp(disch:=omega)only[go_sem,st1,i8,cH,o5,d5,Gh,m9,c7,l0,f6,Vf _ (nL ..) (nL ..),k7];refine (rL _ 4 D4g x2 om om (by decide) s3 QW).mono ?_;rintro _ m2 ⟨c2,O2,R2,rfl,c6,h9⟩;have uU:=c6.sl;obtain⟨t,A,rfl,a2,b2,l1,k8⟩:=uU;have i:Fr U m2:=i6.trans h9;have u7:=i.next;have v5:=h9.next;have m7:m2.get (B+1+1)=bB [aC 0,.aD,.aD]:=by rw[i.get _ om];exact m5
 obtain⟨Y,s2,v0,r4,s⟩:=mV m2 (B+1+1) [aC (4:Nat),t,A];have k1:=cF m2 (B+1+1) 0 (v:= aC (4:Nat)) (u:=t) (w:=A) rfl a2 b2;have t4:Y.get B=bB [aC (4:Nat),d,m]:=by rw[s _ om,i.get _ om];exact r1
 have l5:Y.get (B+1)=bB [aC (4:Nat),p,o]:=by rw[s _ om,i.get _ om];exact p0
 have n8:Y.get (B+1+1)=bB [aC (4:Nat),t,A]:=r4;have r2:Y.get (B+1+1+1)=bB [aC 0,.aD,.aD]:=by rw[s _ om,i.get _ om];exact o9
 have G2:GC (λid=>id<B+4) Y _ 4 O2 R2 _:=c6.go (⟨om,λid c q=>s id om⟩:Fx (λid=>id<x2.next) m2 Y) (λid c q=>om)
 have X2:Fx (λid=>id<B+4) U Y:=⟨om,λid c q=>by rw[s id om,i.get id c]⟩
 obtain⟨Q3,d6⟩: ∃Q,Y.next=Q:=⟨_,rfl⟩
 obtain⟨i3,o7,c9,n6,r0⟩:=mkI d6 [1,2,0,3,4];obtain⟨j3,p5,g5,j6,g0⟩:=mkI c9 [1,2,3,4,0];obtain⟨x3,q6,u9,o8,u5,g9⟩:=dK g5 [.sl Q3 0 5 (.kn 5),.sl (Q3+1) 0 5 (.kn 5)];have s6:Fr Y x3:=(r0.trans g0).trans g9;have k3:SP x3 (.sl (Q3+1+1) 0 2 (.kn 2)) FT:=SP.two (a:= [1,2,0,3,4]) (b:= [1,2,3,4,0]) (h:=j3) (n6.mono g0) j6 om g9 o8 _;simp(disch:=omega)only[go_sem,k1,m7,cH,s2,d6,agD,o7,c9,p5,g5,Vf _ (nL ..) (nL ..),q6];refine (rL _ 5 FT x3 om om (by decide) k3 GB).mono ?_;rintro _ m3 ⟨c3,O3,R3,rfl,f7,e8⟩;have n0:=f7.sl;obtain⟨F,J,rfl,a3,b3,s1,p2⟩:=n0;have k:Fr Y m3:=s6.trans e8;have v2:=k.next;have v7:=e8.next;have q9:m3.get (B+1+1+1)=bB [aC 0,.aD,.aD]:=by rw[k.get _ om];exact r2
 obtain⟨f,j9,u4,k5,x⟩:=mV m3 (B+1+1+1) [aC (5:Nat),F,J];have l3:=cF m3 (B+1+1+1) 0 (v:= aC (5:Nat)) (u:=F) (w:=J) rfl a3 b3;have c4:f.get B=bB [aC (4:Nat),d,m]:=by rw[x _ om,k.get _ om];exact t4
 have c8:f.get (B+1)=bB [aC (4:Nat),p,o]:=by rw[x _ om,k.get _ om];exact l5
 have f0:f.get (B+1+1)=bB [aC (4:Nat),t,A]:=by rw[x _ om,k.get _ om];exact n8
 have d8:f.get (B+1+1+1)=bB [aC (5:Nat),F,J]:=k5;have G3:GC (λid=>id<B+4) f _ 5 O3 R3 _:=f7.go (⟨om,λid c q=>x id om⟩:Fx (λid=>id<x3.next) m3 f) (λid c q=>om)
 have X3:Fx (λid=>id<B+4) Y f:=⟨om,λid c q=>by rw[x id om,k.get id c]⟩
 obtain⟨Q4,w4⟩: ∃Q,f.next=Q:=⟨_,rfl⟩
 obtain⟨y,ey,ny⟩: ∃y:H,H.mk f.tr (f.next+8)=y/\y.next=f.next+8:=⟨_,rfl,rfl⟩
 have fy:Fr f y:=by rw[←ey];exact (Fr.refl f).bH om
 have g6:y.get B=bB [aC (4:Nat),d,m]:=by rw[fy.get _ om];exact c4
 have e0:y.get (B+1)=bB [aC (4:Nat),p,o]:=by rw[fy.get _ om];exact c8
 have e6:y.get (B+1+1)=bB [aC (4:Nat),t,A]:=by rw[fy.get _ om];exact f0
 have h0:y.get (B+1+1+1)=bB [aC (5:Nat),F,J]:=by rw[fy.get _ om];exact d8
 obtain⟨y0,j5,u6,l9,W⟩:=mV y B [aC (4:Nat),d,m];have b6:y0.get B=bB [aC (4:Nat),d,m]:=l9;have b8:y0.get (B+1)=bB [aC (4:Nat),p,o]:=by rw[W _ om];exact e0
 have a8:y0.get (B+1+1)=bB [aC (4:Nat),t,A]:=by rw[W _ om];exact e6
 have b5:y0.get (B+1+1+1)=bB [aC (5:Nat),F,J]:=by rw[W _ om];exact h0
 have t0:=cF y B 0 (v:= aC (4:Nat)) (u:=d) (w:=m) rfl a0 b0;obtain⟨y1,r3,v4,s5,P⟩:=mV y0 (B+1) [aC (4:Nat),p,o];have a4:y1.get B=bB [aC (4:Nat),d,m]:=by rw[P _ om];exact b6
 have b7:y1.get (B+1)=bB [aC (4:Nat),p,o]:=s5;have a5:y1.get (B+1+1)=bB [aC (4:Nat),t,A]:=by rw[P _ om];exact a8
 have a7:y1.get (B+1+1+1)=bB [aC (5:Nat),F,J]:=by rw[P _ om];exact b5
 have t1:=cF y0 (B+1) 0 (v:= aC (4:Nat)) (u:=p) (w:=o) rfl a1 b1;obtain⟨y2,s7,w6,k6,L⟩:=mV y1 (B+1+1) [aC (4:Nat),t,A];have a9:y2.get B=bB [aC (4:Nat),d,m]:=by rw[L _ om];exact a4
 have b9:y2.get (B+1)=bB [aC (4:Nat),p,o]:=by rw[L _ om];exact b7
 have a6:y2.get (B+1+1)=bB [aC (4:Nat),t,A]:=k6;have b4:y2.get (B+1+1+1)=bB [aC (5:Nat),F,J]:=by rw[L _ om];exact a7
 have t2:=cF y1 (B+1+1) 0 (v:= aC (4:Nat)) (u:=t) (w:=A) rfl a2 b2;obtain⟨y3,l8,t9,j4,K⟩:=mV y2 (B+1+1+1) [aC (5:Nat),F,J];have e5:y3.get B=bB [aC (4:Nat),d,m]:=by rw[K _ om];exact a9
 have d2:y3.get (B+1)=bB [aC (4:Nat),p,o]:=by rw[K _ om];exact b9
 have f9:y3.get (B+1+1)=bB [aC (4:Nat),t,A]:=by rw[K _ om];exact a6
 have g8:y3.get (B+1+1+1)=bB [aC (5:Nat),F,J]:=j4;have t3:=cF y2 (B+1+1+1) 0 (v:= aC (5:Nat)) (u:=F) (w:=J) rfl a3 b3;have q0:dI (.agg [aC (4:Nat),d,m]) (.agg [aC (4:Nat),d,m])=true:=by simp [dI,tG,o6,k9]
 have q1:dI (.agg [aC (4:Nat),p,o]) (.agg [aC (4:Nat),p,o])=true:=by simp [dI,tG,k4,m4]
 have q2:dI (.agg [aC (4:Nat),t,A]) (.agg [aC (4:Nat),t,A])=true:=by simp [dI,tG,l1,k8]
 have q3:dI (.agg [aC (5:Nat),F,J]) (.agg [aC (5:Nat),F,J])=true:=by simp [dI,tG,s1,p2]
 simp(disch:=omega)only[go_sem,l3,q9,cH,j9,aJ c4,aJ c8,aJ f0,aJ d8];rw[ey];simp(disch:=omega)only[go_sem,t0,g6,j5,t1,b8,r3,t2,a5,s7,t3,b4,l8,cH,aJ g6,aJ e0,aJ e6,aJ h0,aJ b6,aJ b8,aJ a8,aJ b5,aJ a4,aJ b7,aJ a5,aJ a7,aJ a9,aJ b9,aJ a6,aJ b4,aJ e5,aJ d2,aJ f9,aJ g8,q0,q1,q2,q3]
 have Xe:Fx (λid=>id<B+4) f y3:=⟨om,λid c q=>by rw[K id om,L id om,P id om,W id om,fy.get id om]⟩
 have low: ∀{v n O R G},GC (λid=>id<B+4) f v n O R G->GC (λid=>id<B) y3 v n O R G:=λg=>g.go Xe (λid _ q7=>om)
 refine⟨_,_,_,_,O0,R0,O1,R1,O2,R2,O3,R3,rfl,low (((G0.go X1 λ_ _ h=>h).go X2 λ_ _ h=>h).go X3 λ_ _ h=>h),low ((G1.go X2 λ_ _ h=>h).go X3 λ_ _ h=>h),low (G2.go X3 λ_ _ h=>h),low G3,⟨om,λid q7=>?_⟩⟩;rw[K id om,L id om,P id om,W id om,fy.get id om,x id om,k.get id om,s id om,i.get id om,r id om,l.get id om,z id om,j.get id om];exact l6.get id om
section
variable {n:Nat} {w:Bool} {c d:jZ} {l:List jZ} {Gc Gd:List Nat->Prop} {A C D:LN} {ws:List (List (Nat×Nat))}
theorem Wu {G K:List Nat->Prop}(E:cZ G A)(F:cZ K A)(x:List Nat):G x↔K x:=(E.mem x).symm.trans (F.mem x)
structure Mem (n:Nat)(d:jZ)(Gd:List Nat->Prop)(A:LN):Prop where
 cY:dO n Gd
 isc:aV n Gd d.1 d.2
 el:cZ Gd A
theorem Mem.sz (m:Mem n d Gd A):iW d.1 n 0=A.length:=by
 obtain⟨E,e⟩:=dB m.cY m.isc;rw[←e,E.uniq m.el]
theorem Mem.nx (a:Mem n c Gc C)(m:Mem n d Gd A)(h:Eb n A (if w then C else A) D ws=true):dO n (yE n w c d)/\cZ (yE n w c d) D:=by
 unfold yE
 cases w with
 |false=>exact⟨oV.cY m.cY m.cY m.isc m.isc,Eb.AV m.cY m.cY m.isc m.isc m.el m.el h⟩
 |true=>exact⟨oV.cY m.cY a.cY m.isc a.isc,Eb.AV m.cY a.cY m.isc a.isc m.el a.el h⟩
theorem xN (s:lX n w c l)(q:Mem n c Gc C){k:Nat}(a:l[k]? =some d)(m:Mem n d Gd A)(h:Eb n A (if w then C else A) D ws=true)(f:D≠A): ∃e,l[k+1]? =some e/\Mem n e (yE n w c d) D:=by
 obtain⟨g,E⟩:=q.nx m h;have t:k<l.length:=(vJ.1 a).1
 by_cases r:k+1<l.length
 ·have i:=dD r
  exact⟨_,i,g,(s.st k _ _ a i).1,E⟩
 ·have b:k=l.length- 1:=om
  have j:=s.en d (by rw[←b];exact a);obtain⟨p,_⟩:=dB m.cY m.isc;obtain⟨o,_⟩:=dB g j;exact absurd ((E.uniq o).trans (p.uniq m.el)) f
theorem Vq (s:lX n w c l)(o:Mem n c Gc C){k:Nat}(f:l[k]? =some d)(m:Mem n d Gd A)(h:Eb n A (if w then C else A) A ws=true):l.length=k+1:=by
 obtain⟨g,E⟩:=o.nx m h;have r:k<l.length:=(vJ.1 f).1
 by_cases q:k+1<l.length
 ·have j:=dD q
  obtain⟨i,p⟩:=s.st k _ _ f j;obtain⟨a,b⟩:=(i.congr (Wu E m.el)).uniq m.isc;exact absurd (Prod.ext a b) p
 ·omega
end
abbrev DL:LN:= [[0,1,2,3], [0,1,3,2], [0,2,1,3], [0,2,3,1], [0,3,1,2], [0,3,2,1], [1,0,2,3], [1,0,3,2], [1,2,0,3], [1,2,3,0], [1,3,0,2], [1,3,2,0], [2,0,1,3], [2,0,3,1], [2,1,0,3], [2,1,3,0], [2,3,0,1], [2,3,1,0], [3,0,1,2], [3,0,2,1], [3,1,0,2], [3,1,2,0], [3,2,0,1], [3,2,1,0]]
theorem Ao:cZ (bM 4 (· ∈FC)) DL:=Zm.AV (ws:= [[], [0,0,1,0,0], [0,0,0,1,0], [0,1], [0,1,0,1], [1,0,0,1,0], [1], [0,0,1,0,0,1], [0,0,0,1,0,1], [0], [0,1,0], [0,0,0,1,0,0], [0,1,0,0], [1,0,1], [0,1,0,0,1], [1,0], [0,0], [0,0,1], [0,0,0], [0,0,1,0], [0,0,0,1], [0,0,1,0,1], [1,0,0], [1,0,0,1]]) (by decide+kernel)
abbrev LD:LN:= [[0,1,2,3], [0,2,3,1], [0,3,1,2], [1,0,3,2], [1,2,0,3], [1,3,2,0], [2,0,1,3], [2,1,3,0], [2,3,0,1], [3,0,2,1], [3,1,0,2], [3,2,1,0]]
abbrev qT:LN:= [[0,1,2,3], [1,0,3,2], [2,3,0,1], [3,2,1,0]]
abbrev ZC:LN:= [[0,1,2,3]]
theorem ajP:Eb 4 DL (if false then DL else DL) LD [[], [(1,4)], [(1,2)], [(1,16)], [(2,12)], [(3,18)], [(2,6)], [(1,10)], [(3,19)], [(4,6)], [(1,8)], [(2,7)]]=true:=by decide+kernel
theorem akB:Eb 4 LD (if false then DL else LD) qT [[], [(1,6)], [(1,9)], [(1,3)]]=true:=by decide+kernel
theorem akD:Eb 4 qT (if false then DL else qT) ZC [[]]=true:=by decide+kernel
theorem akQ:Eb 4 ZC (if false then DL else ZC) ZC [[]]=true:=by decide+kernel
theorem Xj {c:jZ}{l:List jZ}(p:aV 4 (bM 4 (· ∈FC)) c.1 c.2)(s:lX 4 false c l):l.map (λe=>iW e.1 4 0)= [24,12,4,1]:=by
 have a:Mem 4 c _ DL:=⟨bM.cY Yc,p,Ao⟩
 have k:=s.hd;obtain⟨q,b,f⟩:=xN s a k a ajP (by decide);obtain⟨r,h,j⟩:=xN s a b f akB (by decide);obtain⟨t,m,o⟩:=xN s a h j akD (by decide);have u:=Vq s a m o akQ;refine List.ext_getElem? λi=>?_
 rw[Qy]
 match i with
 |0=>rw[k];exact congrArg some a.sz
 |1=>rw[b];exact congrArg some f.sz
 |2=>rw[h];exact congrArg some j.sz
 |3=>rw[m];exact congrArg some o.sz
 |i+4=>rw[List.getElem?_eq_none om];rfl
abbrev LD4:LN:= [[0,1,2,3], [0,3,2,1], [1,0,3,2], [1,2,3,0], [2,1,0,3], [2,3,0,1], [3,0,1,2], [3,2,1,0]]
theorem FL:cZ (bM 4 (· ∈D4g)) LD4:=Zm.AV (ws:= [[], [0,0,1], [0,1], [0], [1], [0,0], [0,0,0], [1,0]]) (by decide+kernel)
abbrev afU:LN:= [[0,1,2,3], [2,3,0,1]]
abbrev abI:LN:= [[0,1,2,3]]
theorem akM:Eb 4 LD4 (if true then LD4 else LD4) afU [[], [(1,2)]]=true:=by decide+kernel
theorem akI:Eb 4 afU (if true then LD4 else afU) abI [[]]=true:=by decide+kernel
theorem akG:Eb 4 abI (if true then LD4 else abI) abI [[]]=true:=by decide+kernel
theorem Zp {c:jZ}{l:List jZ}(m:aV 4 (bM 4 (· ∈D4g)) c.1 c.2)(s:lX 4 true c l):l.map (λe=>iW e.1 4 0)= [8,2,1]:=by
 have a:Mem 4 c _ LD4:=⟨bM.cY QW,m,FL⟩
 have k:=s.hd;obtain⟨o,b,f⟩:=xN s a k a akM (by decide);obtain⟨p,h,j⟩:=xN s a b f akI (by decide);have q:=Vq s a h j akG;refine List.ext_getElem? λi=>?_
 rw[Qy]
 match i with
 |0=>rw[k];exact congrArg some a.sz
 |1=>rw[b];exact congrArg some f.sz
 |2=>rw[h];exact congrArg some j.sz
 |i+3=>rw[List.getElem?_eq_none om];rfl
section
variable {Rp Cg:List Nat}
def ajH (s:List Nat)(gs a:LN):LN:=gs.foldl (λa g=>if a.contains (aM s g) then a else a++ [aM s g]) a
def BC (gs:LN):Nat->Nat->LN->LN
 |0,_,S=>S
 |f+1,i,S=>match S[i]? with
  |none=>S
  |some s=>BC gs f (i+1) (ajH s gs S)
theorem Pk {P:List Nat->Prop}{d:LN}(j: ∀x,P x-> ∀g∈d,P (aM x g)): ∀(f i:Nat) (S:LN),(∀x∈S,P x)-> ∀x∈BC d f i S,P x
 |0,_,_,h=>h
 |f+1,i,S,h=>by
  unfold BC;split
  ·exact h
  ·rename_i s n
   refine Pk j f _ _ ?_
   have m: ∀(l:LN),(∀g∈l,g∈d)-> ∀a:LN,(∀x∈a,P x)-> ∀x∈ajH s l a,P x:=by
    intro l
    induction l with
    |nil=>exact λ_ a c=>c
    |cons g l ih=>
     intro k a c;refine ih (λg o=>k g (wI _ o)) _ ?_;dsimp only;split
     ·exact c
     ·intro x b
      rcases oD.1 b with b|b
      ·exact c x b
      ·rw[List.mem_singleton.1 b];exact j s (h s (Xu n)) g (k g tQ)
   exact m d (λg h=>h) S h
def HQ (L:LN)(N:List Nat):LN:=N.map λi=>L.getD i []
def GF (n:Nat)(L:LN)(N:List Nat):Bool:=
 decide (N.Pairwise (· < ·))&&N.all (λi=>decide (i<L.length))&&(HQ L N).all (λx=>(HQ L N).all λy=>(HQ L N).contains (aM x y))&&(HQ L N).all (λx=>(HQ L N).contains (bZ x))&&(HQ L N).contains (aX n)&&(HQ L N).all λy=>L.all λg=>(HQ L N).contains (aT y g)
def NxB (n:Nat)(L:LN)(Rp Cg N N':List Nat):Bool:=
 (N.all λi=>N'.contains i)&&(List.range L.length).all (λi=>N.contains i||Rp.any λr=>!N.contains r&&(L.map (aT (L.getD r []))).contains (L.getD i []))&&Rp.all (λr=>decide (r<L.length)&&(N.contains r||(HQ L N').all λx=>(BC (HQ L N++Cg.map λg=>aT (L.getD r []) (L.getD g [])) L.length 0 [aX n]).contains x))&&Cg.all (λg=>decide (g<L.length))&&N'.any λi=>!N.contains i
def YC (n:Nat)(L:LN)(Rp Cg:List Nat):LN->Bool
 |a::b::r=>(b==List.range L.length||GF n L b)&&NxB n L Rp Cg a b&&decide (a.length<L.length)&&YC n L Rp Cg (b::r)
 | [a]=>decide (a.length=L.length)
 | []=>false
section
variable {n:Nat} {G:List Nat->Prop} {L:LN} {K N N' r:List Nat} {rs:LN}
theorem Oi {x:List Nat}:x∈HQ L N↔RG L N x:=by
 unfold HQ;rw[pH];exact Iff.rfl
variable (hG:dO n G) (E:cZ G L)
include hG E
theorem GF.ok (h:GF n L N=true):yW n G L N:=by
 unfold GF at h;simp only[sE,zP,Ak,List.contains_iff_mem,Oi] at h;obtain⟨⟨⟨⟨⟨f,d⟩,t⟩,l⟩,p⟩,k⟩:=h;have le: ∀x,RG L N x->G x:=λx ⟨i,hi,e⟩=>by rw[←e];exact pD E (d i hi)
 refine⟨⟨f,λi=>⟨λhi=>⟨d i hi,i,hi,rfl⟩,λ⟨hi,j,hj,e⟩=>?_⟩⟩,⟨λo=>hG.bF (le _ o),p,λ{a b} c m=>t a c b m,λ{a} c=>l a c⟩,λy g q s=>k y q g ((E.mem g).2 s),le⟩;rw[←wU E.nodup (d j hj) hi e];exact hj
theorem XO:yW n G L (List.range L.length):=by
 have e:RG L (List.range L.length)=G:=funext λx=>propext ⟨λ⟨i,hi,e⟩=>by rw[←e];exact pD E (Dj.1 hi),λh=>by
  obtain⟨i,hi,e⟩:=Ad.1 ((E.mem x).2 h)
  exact⟨i,Dj.2 hi,by rw[List.getD,dD hi];exact e⟩⟩
 refine⟨⟨List.pairwise_lt_range,λi=>?_⟩,by rw[e];exact hG,by rw[e];exact λy g b a=>hG.mul (hG.mul (hG.inv a) b) a,by rw[e];exact λx h=>h⟩;rw[Dj,e];exact⟨λh=>⟨h,pD E h⟩,λh=>h.1⟩
theorem NxB.ok (k:yW n G L N)(o:yW n G L N')(A:Ab n G L K)(hl:N.length<L.length)(h:NxB n L Rp Cg N N'=true):Qx n G L K N=N':=by
 unfold NxB at h;simp only[sE,zP,List.any_eq_true,Bool.or_eq_true,Bool.not_eq_true',Ak,List.contains_iff_mem,Oi,Dj] at h;obtain⟨⟨⟨⟨h1,U⟩,m⟩,hC⟩,w,s,Q⟩:=h;have nc: ∀{i:Nat},N.contains i=false->i∉N:=λh U=>by rw[List.contains_iff_mem.2 U] at h;cases h
 obtain⟨⟨i,hi,hn,e⟩,J,_,F⟩:=Cz hG E k A hl;have u:=A.lt hi
 have up: ∀t∈N',t∈Qx n G L K N:=λt f=>by
  rw[e];refine (xF t).2 ⟨((o.rk.mem t).1 f).1,?_⟩;rcases U i u with h|⟨r,hr,z,O⟩
  ·exact absurd h hn
  ·obtain⟨q,m⟩:=m r hr
   rcases m with m|m
   ·exact absurd m (nc z)
   ·obtain⟨g,d,p⟩:=pH.1 O
    have gr:=Mk.cY hG k.le (pD E u);have l:=(E.mem g).1 d
    have rx:Mk n G (RG L N) (L.getD i []) (L.getD r []):=by
     have:=NC.cj (n:=n) (NC.of (.inr rfl):Mk n G (RG L N) (L.getD i []) (L.getD i [])) (hG.inv l);rw[←p,←gW (lE hG E q) (hG.bF l) (hG.bF l).inv,cG (hG.bF l),iZ (lE hG E q)] at this;rwa [←p]
    refine Pk (P:=Mk n G (RG L N) (L.getD i [])) (λx R g d=>gr.mul R ?_) L.length 0 [aX n] (λx R=>by rw[List.mem_singleton.1 R];exact gr.one) _ (m _ ⟨t,f,rfl⟩);rcases oD.1 d with d|d
    ·exact NC.of (.inl (Oi.1 d))
    ·obtain⟨c,O,rfl⟩:=pH.1 d
     exact NC.cj rx (pD E (hC c O))
 have v:=((o.rk.mem w).1 s).1;obtain⟨y,a0,hR,g,d,p⟩:=Px hG E v;have W:y∈K:=A.perm.mem_iff.2 (jY.2 ⟨om,hR⟩)
 have yN:y∉N:=λh=>nc Q (by
  obtain⟨t,f,Y⟩:=k.nm _ _ ⟨y,h,rfl⟩ d;have:t=w:=wU E.nodup ((k.rk.mem t).1 f).1 v (Y.trans p)
  rw[←this];exact f)
 have B:RG L N' (L.getD y []):=by
  have:=o.nm _ _ ⟨w,s,rfl⟩ (hG.inv d);rwa [←p,←gW (lE hG E om) (hG.bF d) (hG.bF d).inv,cG (hG.bF d),iZ (lE hG E om)] at this
 have Z: ∀t∈Ai n G L N y,t∈N':=λt f=>by
  obtain⟨m,h4⟩:=(xF t).1 f;have:RG L N' (L.getD t []):=NC.le h4 o.cY (λa h=>h.elim (λ⟨j,hj,e⟩=>⟨j,h1 j hj,e⟩) λe=>by rw[e];exact B) λa b ha hb=>o.nm a b ha hb
  exact (o.rk.mem t).2 ⟨m,this⟩
 have Y:=F y W yN λt f=>up t (Z t f)
 refine pL J.rk.asc o.rk.asc λt=>⟨λf=>Z t (by rw[Y];exact f),up t⟩
theorem YC.ok (c:Ec n G L K rs r)(l:r.length=L.length)(j:Ab n G L K): ∀(Ns:LN) (N:List Nat) (k:Nat),rs[k]? =some N->yW n G L N->YC n L Rp Cg (N::Ns)=true->rs.drop k=N::Ns
 | [],N,k,hk,kN,h=>by
  have d:N.length=L.length:=of_decide_eq_true h;have b:=(vJ.1 hk).1
  have: ¬k+1<rs.length:=λa=>by
   have:=(c.st k _ _ hk (dD a)).1;omega
  rw[Zh b,List.drop_eq_nil_of_le om];rw[dD b] at hk;rw[Option.some.inj hk]
 |N'::Ns,N,k,hk,kN,h=>by
  unfold YC at h;simp only[sE,Ak] at h;obtain⟨⟨⟨a,m⟩,p⟩,o⟩:=h
  have i:yW n G L N':=by
   rw[Bool.or_eq_true] at a;rcases a with a|a
   ·rw[beq_iff_eq.1 a];exact XO hG E
   ·exact GF.ok hG E a
  have b:=(vJ.1 hk).1
  have f:k+1<rs.length:=Nat.lt_of_not_le λh=>by
   have d:=c.la;rw[show rs.length- 1=k by omega,hk] at d;cases d;omega
  have e:=(c.st k _ _ hk (dD f)).2;rw[NxB.ok hG E kN i j p m] at e;have:=YC.ok c l j Ns N' (k+1) (by rw[dD f,e]) i o;rw[dD b] at hk;rw[Zh b,this,Option.some.inj hk]
omit hG E in
theorem CB (b:yW n G L [0])(a:L.getD 0 []=aX n):Lf L (λx=>x=aX n)= [0]:=by
 refine (zH L _).uniq (K:=λx=>x=aX n) ⟨b.rk.asc,λi=>?_⟩;rw[b.rk.mem i]
 refine and_congr_right λ_=>⟨λ⟨j,hj,e⟩=>?_,λe=>⟨0,List.mem_singleton.2 rfl,?_⟩⟩
 ·rw[List.mem_singleton.1 hj] at e;rw[←e,a]
 ·rw[a,e]
theorem VN (j:zC n G L K rs)(k:Ab n G L K){a:LN}(l:GF n L [0]=true)(f:L.getD 0 []=aX n)(h:YC n L Rp Cg ([0]::a)=true):rs= [0]::a:=by
 obtain⟨r,c,i⟩:=j.ex;have d:=GF.ok hG E l;have e:=CB d f;have b:=c.hd;rw[e] at b;exact YC.ok hG E c i k a [0] 0 b d h
end
theorem TL {K:List Nat}{rs:LN}(b:zC 4 (bM 4 (· ∈FC)) DL K rs)(a:Ab 4 (bM 4 (· ∈FC)) DL K):rs= [[0], [0,7,16,23], [0,3,4,7,8,11,12,15,16,19,20,23],List.range 24]:=VN (Rp:= [1,3,7,9]) (Cg:= [0,2,8]) (bM.cY Yc) Ao b a (by decide+kernel) rfl (by decide+kernel)
theorem Bu:cZ (bM 4 (· ∈Jx)) qT:=Zm.AV (ws:= [[], [0], [1], [0,1]]) (by decide+kernel)
theorem aeP {i:Nat}(k:i<4)(l:i∉ [0]):Ai 4 (bM 4 (· ∈Jx)) qT [0] i= [0,i]/\yW 4 (bM 4 (· ∈Jx)) qT [0,i]/\YC 4 qT [1,2,3] [0] [[0,i],List.range 4]=true:=by
 have hG:=bM.cY Ug;have E:=Bu;have m:yW 4 (bM 4 (· ∈Jx)) qT [0]:=GF.ok hG E (by decide+kernel);have f: ∀i,i<4->i∉ [0]->GF 4 qT [0,i]=true/\YC 4 qT [1,2,3] [0] [[0,i],List.range 4]=true:=by decide+kernel
 obtain⟨o,w⟩:=f i k l;have c:yW 4 (bM 4 (· ∈Jx)) qT [0,i]:=GF.ok hG E o;refine⟨pL (Uc hG E m k).rk.asc c.rk.asc λt=>?_,c,w⟩;obtain⟨q,x,_⟩:=Dr m k l;refine⟨λd=>?_,λd=>?_⟩
 ·obtain⟨p,s⟩:=(xF t).1 d
  refine (c.rk.mem t).2 ⟨p,NC.le s c.cY (λa h=>h.elim (λ⟨j,hj,e⟩=>⟨j,by rw[List.mem_singleton.1 hj];exact tQ,e⟩) λe=>by rw[e];exact⟨i,by simp,rfl⟩) λa b v u=>c.nm a b v u⟩
 ·rcases vI.1 d with rfl|d
  ·exact q 0 tQ
  ·rw[List.mem_singleton.1 d];exact x
theorem VT {K:List Nat}{rs:LN}(s:zC 4 (bM 4 (· ∈Jx)) qT K rs)(b:Ab 4 (bM 4 (· ∈Jx)) qT K): ∃i,i<4/\i∉ [0]/\rs= [[0], [0,i],List.range 4]/\Qx 4 (bM 4 (· ∈Jx)) qT K [0]= [0,i]:=by
 obtain⟨r,c,m⟩:=s.ex;have hG:=bM.cY Ug;have E:=Bu;have p:yW 4 (bM 4 (· ∈Jx)) qT [0]:=GF.ok hG E (by decide+kernel);have a:=c.hd;rw[CB p rfl] at a;have o:=(vJ.1 a).1
 have j:0+1<rs.length:=Nat.lt_of_not_le λh=>by
  have k:=c.la;rw[show rs.length- 1=0 by omega,a] at k;cases k;cases m
 have e:=(c.st 0 _ _ a (dD j)).2;obtain⟨⟨i,hi,l,d⟩,_⟩:=Cz hG E p b (show 1<4 by omega);have f:i<4:=b.lt hi;obtain⟨t,q,u⟩:=aeP f l;rw[t] at d;rw[d] at e;have:=YC.ok hG E c m b [List.range 4] [0,i] 1 (by rw[dD j,e]) q u;refine⟨i,f,l,?_,d⟩;rw[←List.take_append_drop 1 rs,this,List.take_succ_eq_append_getElem o];rw[dD o] at a;rw[Option.some.inj a]
 rfl
theorem afW {K:List Nat}{rs:LN}(b:zC 4 (bM 4 (· ∈Jx)) qT K rs)(a:Ab 4 (bM 4 (· ∈Jx)) qT K):rs.map List.length= [1,2,4]:=by
 obtain⟨i,_,_,e,_⟩:=VT b a;rw[e];rfl
abbrev UW:LN:= [[0,1,2,3,4], [0,1,3,4,2], [0,1,4,2,3], [0,2,1,4,3], [0,2,3,1,4], [0,2,4,3,1], [0,3,1,2,4], [0,3,2,4,1], [0,3,4,1,2], [0,4,1,3,2], [0,4,2,1,3], [0,4,3,2,1], [1,0,2,4,3], [1,0,3,2,4], [1,0,4,3,2], [1,2,0,3,4], [1,2,3,4,0], [1,2,4,0,3], [1,3,0,4,2], [1,3,2,0,4], [1,3,4,2,0], [1,4,0,2,3], [1,4,2,3,0], [1,4,3,0,2], [2,0,1,3,4], [2,0,3,4,1], [2,0,4,1,3], [2,1,0,4,3], [2,1,3,0,4], [2,1,4,3,0], [2,3,0,1,4], [2,3,1,4,0], [2,3,4,0,1], [2,4,0,3,1], [2,4,1,0,3], [2,4,3,1,0], [3,0,1,4,2], [3,0,2,1,4], [3,0,4,2,1], [3,1,0,2,4], [3,1,2,4,0], [3,1,4,0,2], [3,2,0,4,1], [3,2,1,0,4], [3,2,4,1,0], [3,4,0,1,2], [3,4,1,2,0], [3,4,2,0,1], [4,0,1,2,3], [4,0,2,3,1], [4,0,3,1,2], [4,1,0,3,2], [4,1,2,0,3], [4,1,3,2,0], [4,2,0,1,3], [4,2,1,3,0], [4,2,3,0,1], [4,3,0,2,1], [4,3,1,0,2], [4,3,2,1,0]]
theorem uI:cZ (bM 5 (· ∈FT)) UW:=Zm.AV (ws:= [[], [1,0,0], [0,1,1,1,1], [1,0,1,0,0,1,1], [1,1,1,1,0,1], [0,1,1,1,0,1], [1,0,1,1,1], [0,1,0], [1,1,0], [1,0,1,0,1,1], [0,0,1,0,1,1], [0,1,0,1,0,0], [1,0,1,0,1,1,1], [0,0,1,0,1,1,1], [0,1,0,1,0,0,1], [0], [1], [1,0,0,1], [0,1,0,0], [1,0,1,1,1,0], [1,1,0,0], [1,1,0,1], [1,0,1,1,1,1], [0,1,0,1], [0,0], [1,0], [0,1,0,1,1], [0,1,0,1,0,0,1,1], [0,0,1,0,1,1,1,0], [0,0,1,0,1,1,1,1], [1,0,0,1,1], [0,1], [1,1], [1,1,0,0,1], [0,1,0,0,1], [0,1,0,1,0], [0,0,1,0,0], [0,1,0,0,1,1], [1,0,1,0,0], [0,1,0,1,1,1], [0,0,1], [1,0,1], [0,0,1,0], [0,1,0,1,1,1,0], [1,0,1,0], [1,1,1], [1,1,1,0], [0,1,1], [1,1,1,1], [1,1,1,0,1], [0,1,1,1], [1,0,1,0,0,1], [1,1,1,1,0], [0,1,1,1,0], [1,0,1,1], [0,1,0,1,1,1,1], [0,0,1,1], [1,0,1,0,1], [0,0,1,0,1], [0,0,1,0,1,0]]) (by decide+kernel)
theorem afE {K:List Nat}{rs:LN}(b:zC 5 (bM 5 (· ∈FT)) UW K rs)(a:Ab 5 (bM 5 (· ∈FT)) UW K):rs= [[0],List.range 60]:=VN (Rp:= [1,3,16,17]) (Cg:= [0,1,30]) (bM.cY GB) uI b a (by decide+kernel) rfl (by decide+kernel)
end
section
variable {n:Nat} {G K:List Nat->Prop} {O O':List (List Nat)} {R R':List (List (List Nat))} {x y g:List Nat} {c d e:jZ} {l:List jZ} {w:Bool}
theorem inv_inv {s:List Nat}(S:aY n s):bZ (bZ s)=s:=by
 have h:=cG S.inv;have:=congrArg (aM s) h;rw[←aG S S.inv S.inv.inv,cG S,bX S.inv.inv,aZ S] at this;exact this
theorem Bd (X:aY n x)(B:aY n g):aT (bZ x) g=bZ (aT x g):=by
 have A:=dC X B;have a:=dC X.inv B;have h:aM (aT (bZ x) g) (aT x g)=aX n:=by rw[←gX X.inv X B,dL X,mN B]
 have:=congrArg (λz=>aM z (bZ (aT x g))) h;rwa [aG a A A.inv,cG A,aZ a,bX A.inv] at this
theorem Dd (X:aY n x)(Y:aY n y)(B:aY n g):aT (cU x y) g=cU (aT x g) (aT y g):=by
 unfold cU;rw[gX (X.inv.mul Y.inv) (X.mul Y) B,gX X.inv Y.inv B,gX X Y B,Bd X B,Bd Y B]
theorem aeD (t:dO n G)(f:dO n K)(c:aV n K O R)(le: ∀x,K x->G x)(m: ∀y g,K y->G g->K (aT y g))(o:oV n R R y)(j:G g):oV n R R (aT y g):=by
 have B:=t.bF j;have r:=oV.cY f f c c;refine (NC.le o (H:=λy=>aY n y/\oV n R R (aT y g)) ⟨λh=>h.1,⟨aY.one n,by rw[mN B];exact r.one⟩,λh k=>⟨h.1.mul k.1,by rw[gX h.1 k.1 B];exact r.mul h.2 k.2⟩,λh=>⟨h.1.inv,by rw[Bd h.1 B];exact r.inv h.2⟩⟩ ?_ ?_).2
 ·rintro a ⟨p,s,q,u,rfl⟩
  have P:=bE c s;have Q:=bE c u;exact⟨qV (f.bF P) (f.bF Q),by rw[Dd (f.bF P) (f.bF Q) B];exact oV.all f f c c (m _ _ P j) (m _ _ Q j)⟩
 ·rintro y b ⟨Y,o⟩ i
  have i:K b:=i.elim (λh=>bE c h) λh=>bE c h
  have Bb:=f.bF i;exact⟨dC Y Bb,by rw[←Gk Y Bb B];exact oV.norm f f c c o (m _ _ i j)⟩
structure xQ (n:Nat)(G:List Nat->Prop)(d:jZ)(K:List Nat->Prop):Prop where
 cY:dO n K
 isc:aV n K d.1 d.2
 le: ∀x,K x->G x
 nm: ∀y g,K y->G g->K (aT y g)
theorem xQ.first (a:dO n G)(i:aV n G c.1 c.2):xQ n G c G:=⟨a,i,λ_ h=>h,λ_ _ f b=>a.mul (a.mul (a.inv b) f) b⟩
theorem xQ.nx (a:dO n G)(j:aV n G c.1 c.2)(m:xQ n G d K)(b:aV n (yE n w c d) e.1 e.2):xQ n G e (yE n w c d)/\ ∀x,yE n w c d x->K x:=by
 unfold yE at b ⊢
 cases w with
 |false=>
  have le: ∀x,oV n d.2 d.2 x->K x:=λx h=>oV.self m.cY m.isc h
  exact⟨⟨oV.cY m.cY m.cY m.isc m.isc,b,λx h=>m.le x (le x h),λy g f i=>aeD a m.cY m.isc m.le m.nm f i⟩,le⟩
 |true=>
  have le: ∀x,oV n d.2 c.2 x->K x:=λx h=>oV.le m.cY a m.isc j m.nm h
  exact⟨⟨oV.cY m.cY a m.isc j,b,λx h=>m.le x (le x h),λy g f i=>oV.norm m.cY a m.isc j f i⟩,le⟩
theorem IG (a:dO n G)(b:aV n G c.1 c.2)(s:lX n w c l): ∀(k:Nat) (d:jZ),l[k]? =some d-> ∃K,xQ n G d K
 |0,d,hd=>by
  rw[s.hd] at hd;cases hd;exact⟨G,xQ.first a b⟩
 |k+1,d,hd=>by
  have h:=(vJ.1 hd).1;have f:=dD (show k<l.length by omega);obtain⟨K,m⟩:=IG a b s k _ f;exact⟨_,(m.nx a b (s.st k _ _ f hd).1).1⟩
theorem xQ.uniq {f:List Nat->Prop}(a:xQ n G d K)(b:xQ n G d f):K=f:=
 funext λx=>propext ((De a.cY a.isc x).symm.trans (De b.cY b.isc x))
end
section
variable {x s:List Nat}
def dgb (b:Nat):Nat->Nat->List Nat
 |0,_=> []
 |n+1,m=>m%b::dgb b n (m/b)
def Ll (n:Nat):Nat->List Nat:=dgb n n
def rS:List Nat->Nat
 | []=>0
 |d::l=>d+6*rS l
def Wj {α:Type}(f:α->Nat):List α->Nat
 | []=>0
 |x::l=>f x|||Wj f l
def KS (n:Nat)(x:List Nat):Bool:=decide (x.length=n)&&decide x.Nodup&&x.all λi=>decide (i<n)
def abM (n:Nat)(L:List (List Nat)):Nat->Nat->List Nat
 |0,_=>aX n
 |f+1,w=>if w=0 then aX n else match L[w%10- 1]? with|some g=>aM g (abM n L f (w/10))|none=>aX n
structure sC where
 gens:List Nat
 els:List Nat
 certs:List (Nat×Nat×Nat×List Nat)
def sC.g (n:Nat)(r:sC):List (List Nat):=r.gens.map (Ll n)
def sC.e (n:Nat)(r:sC):List (List Nat):=r.els.map (Ll n)
def PJ {α β:Type}(p:α->β->Bool):List α->List β->Bool
 | [], []=>true
 |a::l,b::m=>p a b&&PJ p l m
 |_,_=>false
def aiL (n:Nat)(Rs:List sC)(k:Nat)(G:List (List Nat))(c:Nat×Nat×Nat×List Nat):Bool:=
 decide (k<c.2.1)&&KS n (Ll n c.1)&&KS n (Ll n c.2.2.1)&&match Rs[c.2.1]? with|some r=>PJ (λw g=>aT (abM n (G++ [Ll n c.1]) 30 w) (Ll n c.2.2.1)==g) c.2.2.2 (r.g n)|none=>false
def rpl (gs:List (List Nat)):Nat->List (List Nat)->List (List Nat)->Nat->Bool
 |_,_, [],_=>true
 |0,_,_::_,_=>false
 |_+1, [],_::_,_=>false
 |f+1,p::S,z::r,k=>if gs.any λg=>aM p g==z then rpl gs f (p::S) r (k+1) else decide (1<k)&&rpl gs f S (z::r) (k- 1)
def PI (n:Nat)(gs E:List (List Nat)):Bool:=match E with| []=>false|x::r=>x==aX n&&rpl gs (2*E.length+2) (x::r) r 1
def nX:Nat->List Nat->List (List Nat)
 |0,_=> [[]]
 |f+1,l=>l.flatMap λa=>(nX f (l.erase a)).map (a:: ·)
def XF (n:Nat)(U:List (List Nat))(Rs:List sC)(k:Nat)(r:sC):Bool:=
 PI n (r.g n) (r.e n)&&(r.g n).all (KS n)&&(r.certs.all λc=>aiL n Rs k (r.g n) c)&&
  (Wj (λx=>2^rS x) U&&&(Wj (λx=>2^rS x) (r.e n)|||Wj (λc=>if r.gens.length=0 then Wj (λs=>2^rS (aT (Ll n c.1) s)) (nX n (List.range n)) else Wj (λa=>Wj (λb=>2^rS (aM (aM a (Ll n c.1)) b)) (if r.els.length<18 then r.e n else [aX n])) (r.e n)) r.certs)==Wj (λx=>2^rS x) U)
theorem BX {P:List Nat->Prop}{l:List (List Nat)}(c: ∀x,P x-> ∀g∈l,P (aM x g)): ∀(f:Nat) (S r:List (List Nat)) (k:Nat),0<k->(∀x∈S.take k,P x)->r=S.drop k->rpl l f S r k=true-> ∀x∈r,P x
 |_,_, [],_,_,_,_,_=>λx a=>by cases a
 |0,_,_::_,_,_,_,_,h=>by cases h
 |_+1, [],_::_,_,_,_,_,h=>by cases h
 |f+1,p::S,z::r,k,k0,hP,e,h=>by
  obtain⟨k,rfl⟩: ∃m,k=m+1:=⟨k- 1,om⟩
  rw[List.drop_succ_cons] at e;unfold rpl at h;split at h
  ·rename_i b
   obtain⟨g,b,n⟩:=List.any_eq_true.1 b;have d:P z:=by rw[←beq_iff_eq.1 n];exact c p (hP p (by rw[List.take_succ_cons];exact tQ)) g b
   have i:k<S.length:=Nat.lt_of_not_le λh=>by rw[List.drop_eq_nil_of_le h] at e;cases e
   have j:S[k]=z/\S.drop (k+1)=r:=by
    rw[Zh i] at e;exact⟨(List.cons.inj e).1.symm,(List.cons.inj e).2.symm⟩
   have:=BX c f (p::S) r (k+2) om (λx a=>by
    rw[List.take_succ_cons,List.take_succ_eq_append_getElem i,j.1] at a;rcases vI.1 a with rfl|a
    ·exact hP x (by rw[List.take_succ_cons];exact tQ)
    ·rcases oD.1 a with a|a
     ·exact hP x (by rw[List.take_succ_cons];exact wI _ a)
     ·rw[List.mem_singleton.1 a];exact d) (by rw[List.drop_succ_cons];exact j.2.symm) h
   exact λx a=>(vI.1 a).elim (λe=>by rw[e];exact d) (this x)
  ·rw[sE,Ak] at h
   exact BX c f S (z::r) k om (λx a=>hP x (by rw[List.take_succ_cons];exact wI _ a)) e h.2
theorem Mr {n:Nat}{P:List Nat->Prop}{c E:List (List Nat)}(d: ∀x,P x-> ∀g∈c,P (aM x g))(b:P (aX n))(h:PI n c E=true): ∀x∈E,P x:=by
 unfold PI at h;split at h
 ·cases h
 ·rename_i x r
  rw[sE,beq_iff_eq] at h;obtain⟨rfl,h⟩:=h;have:=BX d _ (aX n::r) r 1 om (λx a=>by simp at a;rw[a];exact b) rfl h;exact λx a=>(vI.1 a).elim (λe=>by rw[e];exact b) (this x)
theorem rH {α:Type}{f:α->Nat}{i:Nat}: ∀{l:List α},(Wj f l).testBit i=true↔ ∃x,x∈l/\(f x).testBit i=true
 | []=>by simp [Wj]
 |x::l=>by
  rw[Wj,Nat.testBit_or,Bool.or_eq_true,rH];simp
theorem Bv: ∀{x y:List Nat},x.length=y.length->(∀i∈x,i<6)->(∀i∈y,i<6)->rS x=rS y->x=y
 | [], [],_,_,_,_=>rfl
 | [],_::_,h,_,_,_=>by cases h
 |_::_, [],h,_,_,_=>by cases h
 |a::x,b::y,hl,h1,h2,e=>by
  have e:a+6*rS x=b+6*rS y:=e;have c:=h1 a tQ;have d:=h2 b tQ;rw[show a=b by omega,Bv (by simpa using hl) (λi hi=>h1 i (wI _ hi)) (λi hi=>h2 i (wI _ hi)) om]
theorem Mm {n:Nat}(h:KS n x=true):aY n x:=by
 unfold KS at h;simp only[sE,Ak,zP] at h;exact⟨h.1.1,h.1.2,λi hi=>h.2 i hi⟩
theorem Nf: ∀(x l:List Nat),x.Perm l->x∈nX l.length l
 | [],l,h=>by
  rw[List.nil_perm.1 h];exact List.mem_singleton.2 rfl
 |a::x,l,h=>by
  have b:a∈l:=h.mem_iff.1 tQ;have c:x.Perm (l.erase a):=List.cons_perm_iff_perm_erase.1 h|>.2;have d:l.length=(l.erase a).length+1:=by rw[List.length_erase_of_mem b];have:=Rl b;omega
  rw[d];exact List.mem_flatMap.2 ⟨a,b,pH.2 ⟨x,Nf x _ c,rfl⟩⟩
theorem NH {n:Nat}(X:aY n x):x∈nX n (List.range n):=by
 have h:x.Perm (List.range n):=(List.perm_ext_iff_of_nodup X.nd List.nodup_range).2 λi=>⟨λhi=>Dj.2 (X.lt i hi),λhi=>X.mem (Dj.1 hi)⟩
 have:=Nf x _ h;rwa [Xf] at this
theorem Gv: ∀(f:Nat) (l x:List Nat),l.length=f->x∈nX f l->x.Perm l
 |0,l,x,h,b=>by
  rw[List.mem_singleton.1 b,ON h]
 |f+1,l,x,h,b=>by
  obtain⟨a,c,b⟩:=List.mem_flatMap.1 b;obtain⟨y,d,rfl⟩:=pH.1 b;have:=Gv f (l.erase a) y (by rw[List.length_erase_of_mem c];omega) d;exact List.cons_perm_iff_perm_erase.2 ⟨c,this⟩
theorem MR {n:Nat}(h:x∈nX n (List.range n)):aY n x:=by
 have p:=Gv n _ x Xf h;exact⟨by rw[p.length_eq,Xf],p.nodup_iff.2 List.nodup_range,λi hi=>Dj.1 (p.mem_iff.1 hi)⟩
section
variable {n:Nat} {P V:List Nat->Prop} {U:List (List Nat)} {Rs:List sC}
theorem GZ (a:dO n P){L:List (List Nat)}(b: ∀g∈L,P g): ∀f w,P (abM n L f w)
 |0,_=>a.one
 |f+1,w=>by
  unfold abM;split
  ·exact a.one
  ·split
   ·rename_i g c
    exact a.mul (b g (Xu c)) (GZ a b f _)
   ·exact a.one
theorem Uh {α β:Type}{p:α->β->Bool}: ∀{l:List α} {m:List β},PJ p l m=true-> ∀b∈m,∃a∈l,p a b=true
 | [], [],_,b,d=>by cases d
 | [],_::_,h,_,_=>by cases h
 |_::_, [],h,_,_=>by cases h
 |a::l,c::m,h,b,d=>by
  rw[PJ,sE] at h;rcases vI.1 d with e|d
  ·exact⟨a,tQ,by rw[e];exact h.1⟩
  ·obtain⟨x,f,i⟩:=Uh h.2 b d
   exact⟨x,wI _ f,i⟩
def Bi (n:Nat)(P:List Nat->Prop)(s x:List Nat):Prop:=aY n x/\P (aT x (bZ s))
theorem Bi.cY (c:dO n P)(S:aY n s):dO n (Bi n P s):=
 ⟨λh=>h.1,⟨aY.one n,by rw[mN S.inv];exact c.one⟩,λa b=>⟨a.1.mul b.1,by rw[gX a.1 b.1 S.inv];exact c.mul a.2 b.2⟩,λa=>⟨a.1.inv,by rw[Bd a.1 S.inv];exact c.inv a.2⟩⟩
theorem Bi.EE (b:dO n P)(S:aY n s)(a:P x):Bi n P s (aT x s):=⟨dC (b.bF a) S,by rw[jA (b.bF a) S];exact a⟩
theorem Bi.iff (a:dO n P){y:List Nat}(S:aY n s)(Y:aY n y):P y↔Bi n P s (aT y s):=
 ⟨λh=>Bi.EE a S h,λh=>by
  have:=h.2
  rwa [jA Y S] at this⟩
theorem Bi.in (a: ∀x,P x->V x)(b: ∀x s,V x->aY n s->V (aT x s))(S:aY n s)(y:List Nat)(c:Bi n P s y):V y:=by
 have:=b _ _ (a _ c.2) S;have Y:=c.1;have e:=jA Y S.inv;have d:bZ (bZ s)=s:=inv_inv S;rw[d] at e;rwa [e] at this
theorem Zw (n6:n<=6)(hV: ∀x,V x->aY n x/\x∈U)(v: ∀x s,V x->aY n s->V (aT x s))(chk: ∀k (hk:k<Rs.length),XF n U Rs k Rs[k]=true):
  ∀(d k:Nat) (P:List Nat->Prop) (hk:k<Rs.length),Rs.length-k<=d->dO n P->(∀x,P x->V x)->(∀g∈(Rs[k].g n),P g)-> ∃k' s,∃hk':k'<Rs.length,aY n s/\(∀g∈Rs[k'].g n,g∈Rs[k'].e n)/\ ∀x,aY n x->(P x↔aT x s∈Rs[k'].e n)
 |0,k,P,hk,hd,_,_,_=>om
 |d+1,k,P,hk,hd,hP,hPV,hg=>by
  have c:=chk k hk;generalize hr:Rs[k]=r at c hg;unfold XF at c;simp only[sE,beq_iff_eq,zP] at c;obtain⟨⟨⟨c1,c2⟩,J⟩,c4⟩:=c;have F: ∀x∈r.e n,P x:=Mr (λx l g h=>hP.mul l (hg g h)) hP.one c1
  by_cases all: ∀x,P x->x∈r.e n
  ·exact⟨k,aX n,hk,aY.one n,λg f=>by rw[hr] at f ⊢;exact all g (hg g f),λx X=>by rw[iZ X,hr];exact⟨all x,F x⟩⟩
  ·obtain⟨x,l⟩:=Classical.not_forall.1 all
   obtain⟨l,hn⟩:=Classical.not_imp.1 l;have X:=hP.bF l
   have inj: ∀y,P y->(2^rS y).testBit (rS x)=true->y=x:=λy L h=>by
    rw[Nat.testBit_two_pow,Ak] at h;have Y:=hP.bF L;exact Bv (by rw[X.len,Y.len]) (λi hi=>by have:=Y.lt i hi;omega) (λi hi=>by have:=X.lt i hi;omega) h
   have b1:(Wj (λx=>2^rS x) U).testBit (rS x)=true:=rH.2 ⟨x,(hV x (hPV x l)).2,by rw[Nat.testBit_two_pow];exact decide_eq_true rfl⟩;rw[←c4,Nat.testBit_and,sE,Nat.testBit_or,Bool.or_eq_true] at b1;rcases b1.2 with h|h
   ·obtain⟨y,L,h2⟩:=rH.1 h
    exact absurd (inj y (F y L) h2▸L) hn
   ·obtain⟨m,a0,h⟩:=rH.1 h
    have J:=J m a0;unfold aiL at J;simp only[sE,Ak] at J;obtain⟨⟨⟨q1,q2⟩,q3⟩,W⟩:=J;have o:=Mm q2;have S:=Mm q3;split at W
    case h_2=>cases W
    rename_i r' a2;obtain⟨hk',a3⟩:=vJ.1 a2
    have step: ∀Q:List Nat->Prop,dO n Q->(∀x,Q x->V x)->(∀g∈r.g n,Q g)->Q (Ll n m.1)-> ∃k' s,∃hk':k'<Rs.length,aY n s/\(∀g∈Rs[k'].g n,g∈Rs[k'].e n)/\ ∀x,aY n x->(Q x↔aT x s∈Rs[k'].e n):=λQ K N R a1=>by
     have hL: ∀g∈r.g n++ [Ll n m.1],Q g:=λg h=>(oD.1 h).elim (R g) λe=>by rw[List.mem_singleton.1 e];exact a1
     obtain⟨k2,t,p,G,q,Z⟩:=Zw n6 hV v chk d m.2.1 (Bi n Q (Ll n m.2.2.1)) hk' om (Bi.cY K S) (Bi.in N v S) (λg f=>by
       rw[a3] at f;obtain⟨w,_,hw⟩:=Uh W g f;rw[←beq_iff_eq.1 hw]
       exact Bi.EE K S (GZ K hL _ _))
     refine⟨k2,aM (Ll n m.2.2.1) t,p,S.mul G,q,λy Y=>?_⟩;rw[gW Y S G,←Z _ (dC Y S)];exact Bi.iff K S Y
    split at h
    ·rename_i O
     obtain⟨s,hs,h⟩:=rH.1 h;have j:=MR hs
     have u:aT (Ll n m.1) s=x:=by
      rw[Nat.testBit_two_pow,Ak] at h;have Y:=dC o j;exact Bv (by rw[X.len,Y.len]) (λi hi=>by have:=Y.lt i hi;omega) (λi hi=>by have:=X.lt i hi;omega) h
     obtain⟨k2,t,p,G,q,Z⟩:=step (Bi n P (bZ s)) (Bi.cY hP j.inv) (Bi.in hPV v j.inv) (λg f=>by
      unfold sC.g at f;rw[ON O] at f
      cases f) (by
      have:=Bi.EE hP j.inv l
      rwa [←u,jA o j] at this)
     refine⟨k2,aM (bZ s) t,p,j.inv.mul G,q,λy Y=>?_⟩;rw[gW Y j.inv G,←Z _ (dC Y j.inv)];exact Bi.iff hP j.inv Y
    ·obtain⟨a,ha,h⟩:=rH.1 h
     obtain⟨b,z,h⟩:=rH.1 h
     have z:b∈r.e n∨b=aX n:=by
      split at z
      ·exact .inl z
      ·exact .inr (List.mem_singleton.1 z)
     have bP:P b:=z.elim (F b) λe=>by rw[e];exact hP.one
     have A:=hP.bF (F a ha);have B:=hP.bF bP
     have u:aM (aM a (Ll n m.1)) b=x:=by
      rw[Nat.testBit_two_pow,Ak] at h;have Y:=(A.mul o).mul B;exact Bv (by rw[X.len,Y.len]) (λi hi=>by have:=Y.lt i hi;omega) (λi hi=>by have:=X.lt i hi;omega) h
     refine step P hP hPV hg ?_;have:P (aM (aM (bZ a) x) (bZ b)):=hP.mul (hP.mul (hP.inv (F a ha)) l) (hP.inv bP);rw[←u,←aG A.inv (A.mul o) B,←aG A.inv A o,dL A,bX o,aG o B B.inv,cG B,aZ o] at this;exact this
end
end
def ajD:List sC:= [
⟨[],[0],[]⟩]
def aiG:List sC:= [
⟨[],[2],[(1,1,2,[1])]⟩,
⟨[1],[2,1],[]⟩]
def aiN:List sC:= [
⟨[],[21],[(15,1,21,[1]),(7,2,21,[1])]⟩,
⟨[15],[21,15],[(19,3,21,[1,2])]⟩,
⟨[7],[21,7,11],[(15,3,21,[2,12])]⟩,
⟨[15,19],[21,15,19,7,11,5],[]⟩]
def aiV:List sC:= [
⟨[],[228],[(180,1,228,[1]),(120,3,228,[1]),(177,2,228,[1]),(57,4,228,[1])]⟩,
⟨[180],[228,180],[(216,7,228,[1,2]),(225,5,228,[1,2]),(201,10,228,[1,2]),(210,10,228,[1,22]),(198,7,225,[1,2]),(78,8,228,[1,2])]⟩,
⟨[177],[228,177],[(180,5,228,[2,21]),(216,8,120,[2,1]),(120,9,228,[2,1]),(156,9,228,[22,1]),(108,8,216,[2,1]),(78,6,228,[1,2]),(30,4,216,[2])]⟩,
⟨[120],[228,120,156],[(180,7,228,[2,12]),(225,10,228,[2121121,12112]),(177,9,228,[1,2])]⟩,
⟨[57],[228,57,78,147],[(180,10,228,[2,12]),(108,8,216,[2,12])]⟩,
⟨[180,225],[228,180,225,177],[(216,10,228,[1,23]),(78,8,228,[1,3])]⟩,
⟨[177,78],[228,177,78,27],[(180,8,228,[3,2]),(216,8,120,[3,1]),(120,9,228,[3,1]),(156,9,228,[33,1]),(108,8,216,[3,1])]⟩,
⟨[180,216],[228,180,216,120,156,108],[(225,10,228,[1,32])]⟩,
⟨[180,78],[228,180,78,30,75,27,225,177],[(216,10,228,[1,132])]⟩,
⟨[120,177],[228,120,177,156,45,210,201,54,99,135,78,27],[(180,10,228,[3,211])]⟩,
⟨[180,201],[228,180,201,57,141,210,45,114,30,147,78,99,27,108,39,75,156,135,120,54,216,198,177,225],[]⟩]
def ajS:List sC:= [
⟨[],[2930],[(2430,1,2930,[1]),(1830,3,2930,[1]),(2410,2,2930,[1]),(1210,4,2930,[1]),(1826,8,2930,[1]),(586,7,2930,[1])]⟩,
⟨[2430],[2930,2430],[(2830,9,2930,[1,2]),(2910,5,2930,[1,2]),(2710,16,2930,[1,2]),(2790,16,2930,[1,22]),(2690,9,2910,[1,2]),(1490,11,2930,[1,2]),(2926,5,2886,[1,2]),(2826,13,2930,[1,2]),(2886,8,742,[21]),(2586,18,2930,[1,2]),(2766,18,2930,[1,122212122]),(2566,16,2886,[1,2]),(1366,18,2930,[1,22212]),(2902,8,742,[221]),(2702,18,2930,[1,212221212]),(2882,5,2926,[1,2]),(2582,16,2926,[1,2]),(2642,13,2910,[1,2]),(2542,18,2930,[1,221222121]),(742,18,2930,[1,2221]),(2778,18,2930,[1,222]),(2678,16,2886,[1,22]),(1478,18,2930,[1,1222122]),(2758,16,2926,[1,22]),(2558,9,2902,[1,2]),(1358,11,2926,[1,2]),(2638,18,2930,[1,221212221]),(2538,13,2902,[1,2]),(738,18,2930,[1,1212221]),(1398,18,2930,[1,221]),(1298,18,2930,[1,1221222]),(698,11,2886,[1,2])]⟩,
⟨[2410],[2930,2410],[(2430,5,2930,[2,21]),(2830,11,1830,[2,1]),(1830,14,2930,[2,1]),(2230,14,2930,[22,1]),(1730,11,2830,[2,1]),(1490,6,2930,[1,2]),(990,4,2830,[2]),(2926,13,742,[21212,12121]),(2426,10,742,[21,1]),(2826,12,2930,[1,2]),(1826,18,2930,[222122212221,222122]),(2226,18,2930,[222122212221,22212222]),(1726,12,2430,[1,2]),(2586,15,2930,[1,2]),(586,17,2930,[1222121,2212221]),(1986,17,2930,[212221,2212221]),(486,15,2430,[1,2]),(1366,18,2930,[2212212,122121]),(366,17,2930,[21221,1212222]),(2778,15,2930,[1,222]),(1778,17,2930,[1212221,2221221]),(2678,17,2930,[212122,2212212121]),(1178,15,2430,[1,2221]),(1478,18,2930,[2122122,12121222]),(978,17,2930,[12212,1222212]),(2558,13,2902,[21212,12121]),(558,10,2902,[2,1]),(1358,12,2930,[1,12121]),(358,18,2930,[21222121222121,2121222]),(738,18,2930,[22212221222,222212]),(238,12,2430,[1,221])]⟩,
⟨[1830],[2930,1830,2230],[(2430,9,2930,[2,12]),(2910,16,2930,[2121121,12112]),(2410,14,2930,[1,2]),(2926,8,2930,[21]),(2426,10,2930,[1,2]),(2886,17,2930,[1,2]),(2386,18,2930,[222,211]),(2902,17,2930,[1,22]),(2402,18,2930,[222,121212]),(2882,16,2926,[2121121,12112]),(2382,14,2926,[1,2]),(2642,17,2930,[1,121211]),(1142,18,2930,[22212121,11221211]),(2022,18,2930,[2112112221,2221212]),(1022,17,2930,[1,2121211])]⟩,
⟨[1210],[2930,1210,1490,2170],[(2430,16,2930,[2,12]),(1730,11,2830,[2,12]),(2926,18,2930,[212121121,1112121]),(2426,15,2830,[11,2111]),(2826,15,2230,[11,21]),(1826,18,2930,[1112211,2122111]),(2226,18,2930,[11221,211]),(1726,18,2930,[121212,12112121])]⟩,
⟨[2430,2910],[2930,2430,2910,2410],[(2830,16,2930,[1,23]),(1490,11,2930,[1,3]),(2926,13,742,[2,31]),(2826,18,2930,[1,32131321]),(2586,18,2930,[1,3]),(1366,18,2930,[1,33332]),(2778,18,2930,[1,333]),(1478,18,2930,[1,332]),(2558,13,2902,[1,32]),(1358,18,2930,[1,323213])]⟩,
⟨[2410,1490],[2930,2410,1490,970],[(2430,11,2930,[3,2]),(2830,11,1830,[3,1]),(1830,14,2930,[3,1]),(2230,14,2930,[33,1]),(1730,11,2830,[3,1]),(2926,18,2930,[313131,2321313]),(2426,17,2930,[3232132,31]),(2826,17,2930,[313231,1323]),(1826,18,2930,[3213231,333332]),(2226,18,2930,[3232131,32]),(1726,17,2930,[1321313,13213])]⟩,
⟨[586],[2930,586,742,1398,2154],[(2430,18,2930,[2,12]),(1830,17,2930,[2,122]),(1730,18,2930,[121212,1121212]),(2410,17,2930,[2111212,1121112]),(2110,15,1730,[22,1222]),(1790,15,1730,[22,12]),(970,12,1830,[2,12])]⟩,
⟨[1826],[2930,1826,2230,2926,1830,2226],[(2430,13,2930,[2,12]),(2910,18,2930,[21211212111,12112]),(2410,18,2930,[211121112111,111211]),(2642,18,2930,[1121112,121111121])]⟩,
⟨[2430,2830],[2930,2430,2830,1830,2230,1730],[(2910,16,2930,[1,32]),(2926,13,2930,[1,32]),(2886,18,2930,[1,32]),(2902,18,2930,[1,332]),(2882,16,2926,[1,32]),(2642,18,2930,[1,2132131])]⟩,
⟨[1830,2426],[2930,1830,2426,2230,1726,2826],[(2430,13,2930,[3,12]),(2910,18,2930,[323232,2311]),(2410,17,2930,[1,23]),(2642,17,2930,[1,131311]),(1142,18,2930,[33313131,33312])]⟩,
⟨[2430,1490],[2930,2430,1490,990,1470,970,2910,2410],[(2830,16,2930,[1,132]),(2926,18,2930,[1,2323212]),(2826,18,2930,[1,132])]⟩,
⟨[2410,2826],[2930,2410,2826,1766,2102,1022,1358,298,714,194],[(2430,18,2930,[3,212321]),(1830,17,2930,[3,231]),(990,15,2430,[1,23])]⟩,
⟨[2430,2826],[2930,2430,2826,1826,2226,1726,1730,2230,1830,2830,2426,2926],[(2910,18,2930,[1,23121231]),(2642,18,2930,[1,213131])]⟩,
⟨[1830,2410],[2930,1830,2410,2230,1110,2790,2710,1190,1670,2070,1490,970],[(2430,16,2930,[3,211]),(2926,18,2930,[323232,3211]),(2426,17,2930,[1,32])]⟩,
⟨[2410,2586],[2930,2410,2586,566,1982,2642,422,1202,238,2146,2778,698,1726,1758,334,990,2054,1294,1470,1014],[(2430,18,2930,[3,2]),(2830,18,2930,[323221,2]),(1830,18,2930,[323221,2]),(2230,18,2930,[213221,2]),(1730,18,2930,[23222,2])]⟩,
⟨[2430,2710],[2930,2430,2710,1210,2110,2790,1110,1790,990,2170,1490,1670,970,1730,1070,1470,2230,2070,1830,1190,2830,2690,2410,2910],[(2926,18,2930,[1,32]),(2902,18,2930,[1,33122121]),(2778,18,2930,[1,232]),(2154,18,2930,[1,2132])]⟩,
⟨[1830,2886],[2930,1830,2886,2230,586,1766,2902,1986,366,1202,2146,542,1778,2566,2102,446,742,978,1922,298,1190,2154,558,1346,2642,2678,1022,698,1490,1054,1358,2538,2070,414,970,1934,334,1138,222,1398,2790,1454,2758,1670,714,1634,238,1294,2710,1110,2582,2014,482,894,2410,2382,194,2826,1726,2426],[(2430,18,2930,[3,213])]⟩,
⟨[2430,2586],[2930,2430,2586,586,1986,2642,486,1142,242,2022,2778,742,1022,1778,222,978,298,2154,722,1478,1298,1654,898,954,1730,294,1070,434,1398,1454,2230,1294,2070,1934,894,1670,1634,1830,1054,1190,1346,558,714,1394,2170,2134,2830,2054,2690,346,2558,214,1790,1946,1758,1914,2386,1178,1334,1826,1366,1210,738,2790,446,2758,414,2886,2678,334,2826,366,2710,238,2426,2566,2410,2538,194,542,1358,2014,1726,2382,2102,1110,1766,1490,2926,566,2910,538,694,2542,358,1014,2226,2882,1102,2110,2766,990,582,2702,198,422,2638,1982,1646,2402,1470,2582,1202,698,1922,1138,482,2146,2902,970],[]⟩]
def aiU (n:Nat)(U:List (List Nat))(Rs:List sC)(k:Nat):Bool:=match Rs[k]? with|some r=>XF n U Rs k r|none=>true
def Yj (n:Nat)(U:List (List Nat))(Rs:List sC):Bool:=(List.range Rs.length).all (aiU n U Rs)
theorem HT {n:Nat}{U:List (List Nat)}{a:List sC}(h:Yj n U a=true): ∀k (hk:k<a.length),XF n U a k a[k]=true:=λk hk=>by
 have:=zP.1 h k (Dj.2 hk);unfold aiU at this;rwa [dD hk] at this
theorem adF:Yj 1 (nX 1 (List.range 1)) ajD=true:=by decide+kernel
theorem acE:Yj 2 (nX 2 (List.range 2)) aiG=true:=by decide+kernel
theorem acR:Yj 3 (nX 3 (List.range 3)) aiN=true:=by decide+kernel
theorem aaW:Yj 4 (nX 4 (List.range 4)) aiV=true:=by decide+kernel
theorem aaG:Yj 5 (nX 5 (List.range 5)) ajS=true:=by decide+kernel
def Ki (n:Nat)(P:List Nat->Prop):Prop:= ∀N:List Nat->Prop,dO n N->(∀x y,P x->P y->N (cU x y))-> ∀x,P x->N x
def ahU (n:Nat)(g gN EN:List (List Nat)):Bool:=gN.all (KS n)&&PI n gN EN&&EN.contains (aX n)&&(EN.all λx=>gN.all λa=>EN.contains (aM x a))&&(gN.all λy=>g.all λa=>EN.contains (aT y a))&&(g.all λa=>g.all λb=>EN.contains (cU a b))&&g.any λa=>!EN.contains a
section
variable {n:Nat} {P N:List Nat->Prop} {S L:List (List Nat)}
theorem TR {c b:List (List Nat)}(f:aX n∈b)(h2: ∀x∈b,∀a∈c,aM x a∈b){x:List Nat}(d:bM n (· ∈c) x):x∈b:=by
 induction d with
 |one=>exact f
 |mul _ hk ih=>exact h2 _ ih _ hk
theorem XZ (m: ∀g,S.contains g=true->aY n g)(f:dO n N)(p: ∀a∈S,∀b∈S,N (cU a b))(o: ∀y,N y-> ∀a∈S,N (aT y a)){x y:List Nat}(l:bM n (· ∈S) x)(d:bM n (· ∈S) y):N (cU x y):=by
 have c: ∀g,g∈S->aY n g:=λg i=>m g (List.contains_iff_mem.2 i)
 have j: ∀g,bM n (· ∈S) g-> ∀y,N y->N (aT y g):=λg i=>Nu f c (λy b d q=>o y d b q) i
 have one: ∀a∈S,∀y,bM n (· ∈S) y->N (cU a y):=λa h y d=>by
  induction d with
  |one=>rw[To (c a h)];exact f.one
  | @mul z k hz hk ih=>
   have Z:=hz.bF c;rw[uL (c a h) Z (c k hk)];exact f.mul (p a h k hk) (j k (bM.of c hk) _ ih)
 induction l with
 |one=>rw[Sy (d.bF c)];exact f.one
 | @mul z k hz hk ih=>
  rw[wK (hz.bF c) (c k hk) (d.bF c)];exact f.mul (j k (bM.of c hk) _ ih) (one k hk y d)
theorem Ki.not {E g j s:List (List Nat)}(f: ∀a∈g,aY n a)(q: ∀x,x∈E->bM n (· ∈g) x)(l: ∀a∈g,a∈E)(h:ahU n g j s=true)(p:Ki n (· ∈E)):False:=by
 unfold ahU at h;simp only[sE,zP,List.any_eq_true,List.contains_iff_mem,Bool.not_eq_true'] at h;obtain⟨⟨⟨⟨⟨⟨w,t⟩,z⟩,F⟩,u⟩,A⟩,a,d,r⟩:=h;have i: ∀g∈j,aY n g:=λg f=>Mm (w g f)
 have sub: ∀x∈s,bM n (· ∈j) x:=Mr (P:=bM n (· ∈j)) (λx k g f=>bM.mul k f) .one t;have G:=bM.cY i;have:=p (bM n (· ∈j)) G (λx y k m=>XZ (λg o=>f g (List.contains_iff_mem.1 o)) G (λa d b v=>sub _ (A a d b v)) (λy m a d=>GY i (f a d) (λc B=>sub _ (u c B a d)) m) (q x k) (q y m)) a (l a d);rw[List.contains_iff_mem.2 (TR z F this)] at r;cases r
theorem Ki.mv (c:dO n P)(p:Ki n P){s:List Nat}(S:aY n s):Ki n (Bi n P s):=λN k j x d=>by
 have l:bZ (bZ s)=s:=inv_inv S;have:=p (Bi n N (bZ s)) (Bi.cY k S.inv) (λa b f i=>?_) _ d.2
 ·obtain⟨_,h⟩:=this
  rw[jA d.1 S.inv] at h;exact h
 ·have A:=c.bF f
  have B:=c.bF i;refine⟨qV A B,?_⟩;rw[l,Dd A B S];exact j _ _ (Bi.EE c S f) (Bi.EE c S i)
end
set_option maxRecDepth 100000
def aiF (n:Nat)(g E:List (List Nat))(C:List (Nat×List (List Nat))):Bool:=(Wj (λx=>2^rS x) E&&&Wj (λc=>Wj (λg=>2^rS (aT (Ll n c.1) g)) E) C==Wj (λx=>2^rS x) E)&&C.all λc=>E.contains (Ll n c.1)&&(Ll n c.1==aX n||PJ (λp z=>p.all (λa=>E.contains (Ll n a))&&p.foldl (λu a=>aM u (aT (Ll n c.1) (Ll n a))) (aX n)==z) c.2 g)
def ahW (n:Nat)(r:sC)(d:List Nat×List Nat×List (Nat×List (List Nat))):Bool:=
 decide (r.els.length=1)||ahU n (r.g n) (d.1.map (Ll n)) (d.2.1.map (Ll n))||((decide (r.els.length=60)||decide (r.els.length=360))&&decide ((r.e n).map rS).Nodup&&aiF n (r.g n) (r.e n) d.2.2)
def DI (n:Nat)(Rs:List sC)(D:List (List Nat×List Nat×List (Nat×List (List Nat)))):Bool:=(List.range Rs.length).all λk=>match Rs[k]? with|some r=>ahW n r (D.getD k ([], [], []))|none=>true
theorem aiO:DI 1 ajD [([],[],[])]=true:=by decide+kernel
theorem aiW:DI 2 aiG [([],[],[]),([],[2],[])]=true:=by decide+kernel
theorem ajF:DI 3 aiN [([],[],[]),([],[21],[]),([],[21],[]),([7],[21,7,11],[])]=true:=by decide+kernel
theorem aiI:DI 4 aiV [([],[],[]),([],[228],[]),([],[228],[]),([],[228],[]),([],[228],[]),([],[228],[]),([],[228],[]),([120],[228,120,156],[]),([177],[228,177],[]),([177,78],[228,177,78,27],[]),([120,177],[228,120,177,156,45,210,201,54,99,135,78,27],[])]=true:=by decide+kernel
theorem ajE:DI 5 ajS [([],[],[]),([],[2930],[]),([],[2930],[]),([],[2930],[]),([],[2930],[]),([],[2930],[]),([],[2930],[]),([],[2930],[]),([],[2930],[]),([1830],[2930,1830,2230],[]),([1830],[2930,1830,2230],[]),([2410],[2930,2410],[]),([1766],[2930,1766,298,714,2102],[]),([1830],[2930,1830,2230],[]),([2410,1490],[2930,2410,1490,970],[]),([2146],[2930,2146,1294,238,1202],[]),([1830,2410],[2930,1830,2410,2230,1110,2790,2710,1190,1670,2070,1490,970],[]),([],[],[(2930,[]),(1830,[[2930],[1398]]),(2410,[[2902,2154],[2930,2902]]),(586,[[2410,1670],[2710,2070]]),(1986,[[1110,970],[1110,1190]])]),([1830,2886],[2930,1830,2886,2230,586,1766,2902,1986,366,1202,2146,542,1778,2566,2102,446,742,978,1922,298,1190,2154,558,1346,2642,2678,1022,698,1490,1054,1358,2538,2070,414,970,1934,334,1138,222,1398,2790,1454,2758,1670,714,1634,238,1294,2710,1110,2582,2014,482,894,2410,2382,194,2826,1726,2426],[])]=true:=by decide+kernel
def RU (n:Nat)(P:List Nat->Prop)(L:List (List Nat)):Prop:=(∀x,P x->x=aX n)∨(L.length=60∨L.length=360)/\ ∀N:List Nat->Prop,dO n N->(∀x,N x->P x)->(∀y g,N y->P g->N (aT y g))->(∀x,N x->x=aX n)∨ ∀x,P x->N x
section
variable {n:Nat} {P:List Nat->Prop} {L E:List (List Nat)} {s:List Nat}
theorem ZO {A B:List (List Nat)}{m:Nat}(h:(Wj (λx=>2^rS x) A&&&m)=Wj (λx=>2^rS x) A){x:List Nat}(b:x∈A):m.testBit (rS x)=true:=by
 have a:(Wj (λx=>2^rS x) A).testBit (rS x)=true:=rH.2 ⟨x,b,by rw[Nat.testBit_two_pow];exact decide_eq_true rfl⟩;rw[←h,Nat.testBit_and,sE] at a;exact a.2
theorem ahK (a:n<=6){x y:List Nat}(X:aY n x)(Y:aY n y)(h:(2^rS y).testBit (rS x)=true):y=x:=by
 rw[Nat.testBit_two_pow,Ak] at h;exact Bv (by rw[X.len,Y.len]) (λi hi=>by have:=Y.lt i hi;omega) (λi hi=>by have:=X.lt i hi;omega) h
theorem Kw (S:aY n s){x:List Nat}(X:aY n x):aT (aT x (bZ s)) s=x:=by
 have:=jA X S.inv;rwa [inv_inv S] at this
theorem agC {r:sC}{d:List Nat×List Nat×List (Nat×List (List Nat))}(n6:n<=6)(i:dO n P)(w:cZ P L)(p:Ki n P)(S:aY n s)(v: ∀g∈r.g n,aY n g)(k:PI n (r.g n) (r.e n)=true)(a2: ∀g∈r.g n,g∈r.e n)(m: ∀x,aY n x->(P x↔aT x s∈r.e n))(h:ahW n r d=true):RU n P L:=by
 have j: ∀x∈r.e n,aY n x:=Mr (λx X g h=>X.mul (v g h)) (aY.one n) k;have eG: ∀x∈r.e n,bM n (· ∈r.g n) x:=Mr (P:=bM n (· ∈r.g n)) (λx f g h=>bM.mul f h) .one k
 have mv: ∀x,Bi n P s x↔x∈r.e n:=λx=>⟨λh=>by
  have:=(m _ (dC h.1 S.inv)).1 h.2
  rwa [Kw S h.1] at this,λh=>⟨j x h,(m _ (dC (j x h) S.inv)).2 (by rw[Kw S (j x h)];exact h)⟩⟩
 have O:Bi n P s=(· ∈r.e n):=funext λx=>propext (mv x)
 have gE:dO n (· ∈r.e n):=by rw[←O];exact Bi.cY i S
 have a5:=w.nodup;have cL: ∀x∈L,aT x s∈r.e n:=λx f=>(m x (i.bF ((w.mem x).1 f))).1 ((w.mem x).1 f)
 have a6:(L.map λx=>aT x s).Nodup:=by
  rw[MV,List.pairwise_map];exact (MV.1 a5).imp_of_mem λ{a b} ha q ne e=>ne (Dh (i.bF ((w.mem a).1 ha)) (i.bF ((w.mem b).1 q)) S e)
 unfold ahW at h;rw[Bool.or_eq_true,Bool.or_eq_true] at h;rcases h with (h|h)|h
 ·refine .inl λx f=>?_
  have F:r.els.length=1:=of_decide_eq_true h;have R:=(m x (i.bF f)).1 f;have h3:=(m _ (aY.one n)).1 i.one;have l1:(r.e n).length=1:=by unfold sC.e;rw[iA,F]
  obtain⟨z,A⟩:=List.length_eq_one_iff.1 l1;rw[A,List.mem_singleton] at R h3;exact Dh (i.bF f) (aY.one n) S (R.trans h3.symm)
 ·have:=p.mv i S
  rw[O] at this;exact (Ki.not v eG a2 h this).elim
 ·rw[sE,sE,Bool.or_eq_true,Ak,Ak,Ak] at h
  obtain⟨⟨Q,a0⟩,hs⟩:=h;have a4:(r.e n).Nodup:=List.Pairwise.imp (λh e=>h (congrArg rS e)) (List.pairwise_map.1 (MV.1 a0))|>MV.2
  have pm:(L.map λx=>aT x s).Perm (r.e n):=(List.perm_ext_iff_of_nodup a6 a4).2 λx=>by
   rw[pH];exact⟨λ⟨y,t,e⟩=>by rw[←e];exact cL y t,λf=>⟨aT x (bZ s),(w.mem _).2 ((mv x).2 f).2,Kw S (j x f)⟩⟩
  have ll:L.length=r.els.length:=by
   have:=pm.length_eq;rwa [iA,sC.e,iA] at this
  refine .inr ⟨by rw[ll];exact Q,λN W le nm=>?_⟩;refine Jj λhc=>?_
  obtain⟨F,R⟩:=not_or.1 hc;obtain⟨x,f⟩:=Classical.not_forall.1 F;obtain⟨f,a7⟩:=Classical.not_imp.1 f;refine R ?_;unfold aiF at hs;simp only[sE,beq_iff_eq,zP,Bool.or_eq_true,List.contains_iff_mem] at hs;obtain⟨hm,hC⟩:=hs;have X:=W.bF f;have t:=(m x X).1 (le x f);have Y:=dC X S;obtain⟨c,hc,q⟩:=rH.1 (ZO (B:= []) hm t);obtain⟨g,J,q⟩:=rH.1 q;obtain⟨a8,a1⟩:=hC c hc;have U:=j _ a8;have G:=j g J;have e:=ahK n6 Y (dC U G) q;have o:=Bi.cY W S
  have K: ∀y g,Bi n N s y->g∈r.e n->Bi n N s (aT y g):=λy g t v=>by
   refine⟨dC t.1 (j g v),?_⟩;rw[←Gk t.1 (j g v) S.inv];exact nm _ _ t.2 ((mv g).2 v).2
  have cN:Bi n N s (Ll n c.1):=by
   have:=K _ _ (Bi.EE W S f) (gE.inv J);rw[←e,←gW U G G.inv,cG G,iZ U] at this;exact this
  rcases a1 with h|h
  ·exfalso
   rw[h,mN G] at e;exact a7 (Dh X (aY.one n) S (e.symm.trans (mN S).symm))
  ·have gN: ∀z∈r.g n,Bi n N s z:=λz A=>by
    obtain⟨p,hp,h⟩:=Uh h z A;rw[sE,zP,beq_iff_eq] at h;rw[←h.2]
    have a3: ∀(l:List Nat) (u:List Nat),Bi n N s u->(∀a∈l,Ll n a∈r.e n)->Bi n N s (l.foldl (λu a=>aM u (aT (Ll n c.1) (Ll n a))) u):=by
     intro l
     induction l with
     |nil=>exact λu hu _=>hu
     |cons a l ih=>exact λu hu Q=>ih _ (o.mul hu (K _ _ cN (Q a tQ))) λb q=>Q b (wI _ q)
    exact a3 p _ o.one λa ha=>List.contains_iff_mem.1 (h.1 a ha)
   intro z A;have Z:=i.bF A;have F:=bM.le o gN (eG _ ((m z Z).1 A));have:=F.2;rwa [jA Z S] at this
theorem abP {a:List sC}{D:List (List Nat×List Nat×List (Nat×List (List Nat)))}{V:List Nat->Prop}{U:List (List Nat)}(q:n<=6)(t: ∀x,V x->aY n x/\x∈U)(l: ∀x s,V x->aY n s->V (aT x s))(chk:Yj n U a=true)(j:a.length≠0)(w: ∀r,a[0]? =some r->r.gens= [])(h:DI n a D=true)(o:dO n P)(i: ∀x,P x->V x)(v:cZ P L)(p:Ki n P):RU n P L:=by
 have j:0<a.length:=om
 obtain⟨k,s,d,S,m,u⟩:=Zw q t l (HT chk) _ 0 P j (fN _) o i (λg b=>by
  have:=w a[0] (dD j);unfold sC.g at b;rw[this] at b
  cases b)
 have c:=HT chk k d;have f:=zP.1 h k (Dj.2 d);rw[dD d] at f;unfold XF at c;simp only[sE,zP] at c;exact agC q o v p S (λg b=>Mm (c.1.1.2 g b)) c.1.1.1 m u f
end
theorem AK {n:Nat}{P:List Nat->Prop}{L:List (List Nat)}(k:1<=n)(j:n<=5)(a:dO n P)(E:cZ P L)(p:Ki n P):RU n P L:=by
 have sym: ∀{n:Nat} {P:List Nat->Prop} {Rs:List sC} {D:List (List Nat×List Nat×List (Nat×List (List Nat)))},n<=6->Yj n (nX n (List.range n)) Rs=true->Rs.length≠0->(∀r,Rs[0]? =some r->r.gens= [])->DI n Rs D=true->dO n P->cZ P L->Ki n P->RU n P L:=λf chk c i b a E p=>abP (V:=aY _) f (λx X=>⟨X,NH X⟩) (λx s X S=>dC X S) chk c i b a (λx d=>a.bF d) E p
 rcases (show n=1∨n=2∨n=3∨n=4∨n=5 by omega) with rfl|rfl|rfl|rfl|rfl
 ·exact sym om adF (by decide) (λr h=>by cases h;rfl) aiO a E p
 ·exact sym om acE (by decide) (λr h=>by cases h;rfl) aiW a E p
 ·exact sym om acR (by decide) (λr h=>by cases h;rfl) ajF a E p
 ·exact sym om aaW (by decide) (λr h=>by cases h;rfl) aiI a E p
 ·exact sym om aaG (by decide) (λr h=>by cases h;rfl) ajE a E p
def TF (n:Nat):Prop:= ∀{P:List Nat->Prop} {L:List (List Nat)},dO n P->cZ P L->Ki n P->RU n P L
theorem SW {n:Nat}(b:1<=n)(a:n<=5):TF n:=λc E p=>AK b a c E p
theorem BF {α:Type}(p:α->Bool): ∀A:List α,A.length=(A.filter p).length+(A.filter λx=>!p x).length
 | []=>rfl
 |a::A=>by
  have b:=BF p A;cases h:p a<;>simp [List.filter_cons,h]<;>omega
set_option maxRecDepth 100000
set_option maxRecDepth 100000
set_option maxRecDepth 100000
set_option maxHeartbeats 32000000
set_option maxHeartbeats 32000000
set_option maxRecDepth 100000
set_option maxHeartbeats 32000000
set_option maxRecDepth 100000
end Go.Proofs.YtcdbmkidaecdiaaGreat
namespace Go.Proofs.YtcdbmkidaecdiaaGreat
set_option maxRecDepth 100000
open Go Go.Ay Go.Pm
end Go.Proofs.YtcdbmkidaecdiaaGreat
namespace Go.Proofs.YtcdbmkidaecdiaaGreat
open Go Go.Ay Go.Pm
set_option maxRecDepth 100000
structure KFd (n:Nat)(G:List Nat->Prop)(L:LN)(W:Nat->Prop)(h:H)(a:Cls.KE)(r:Nat):Prop where
 ord:a.ord=oJ (L.getD r []) n
 size:a.size=(kU G L r).length
 rep:PV W h a.rep (L.getD r [])
structure RdO (n:Nat)(G:List Nat->Prop)(L:LN)(K:List Nat)(b:Nat)(vO vR:V)(hh:H)(v:V):Prop where
 ex: ∃vL S ks vM,v= .agg [aC n,vO,vR,vL,.sl S 0 K.length (.kn K.length),vM]/\b<=S/\S<hh.next/\hh.get S=bB (sX ks)/\aN (KFd n G L (λq=>q<b∨S<=q) hh) ks K/\SP hh vL L/\SI hh vM (zi (aeK G L K))
section
variable {n:Nat} {G:List Nat->Prop} {L:LN}
theorem KFd.go {W W':Nat->Prop}{h h':H}{a:Cls.KE}{r:Nat}(k:KFd n G L W h a r)(f:Fx W h h')(b: ∀id,id<h.next->W' id->W id):KFd n G L W' h' a r:=⟨k.ord,k.size,PV.go k.rep f b⟩
theorem KFd.fr {W:Nat->Prop}{h h':H}{a:Cls.KE}{r:Nat}(k:KFd n G L W h a r)(f:Fr h h'):KFd n G L W h' a r:=⟨k.ord,k.size,k.rep.si.mono f,k.rep.off⟩
theorem RdO.open {K:List Nat}{b:Nat}{h c:V}{a:H}{v:V}(r:RdO n G L K b h c a v):
  ∃vL S ks vM,v= .agg [aC n,h,c,vL,.sl S 0 K.length (.kn K.length),vM]/\vL.one=true/\vM.one=true/\b<=S/\S<a.next/\a.get S=bB (sX ks)/\ks.length=K.length/\aN (KFd n G L (λq=>q<b∨S<=q) a) ks K/\SP a vL L/\SI a vM (zi (aeK G L K)):=by
 obtain⟨vL,S,ks,vM,e,j,k,l,i,d,f⟩:=r.ex
 exact⟨vL,S,ks,vM,e,(SV.cT (show SV a vL 1 _ from d.choose_spec.1)).2.1,(SV.cT f).2.1,j,k,l,aN.length i,i,d,f⟩
end
set_option maxRecDepth 100000
end Go.Proofs.YtcdbmkidaecdiaaGreat
namespace Go.Proofs.YtcdbmkidaecdiaaGreat
open Go Go.Ay Go.Pm Go.Sort
set_option maxRecDepth 100000
theorem Pc: ∀a:List Nat,kW a a=false
 | []=>rfl
 |a::l=>by unfold kW;rw[bJ rfl];exact Pc l
theorem uH: ∀{a b c:List Nat},kW a b=true->kW b c=true->kW a c=true
 | [], [],_,h,_=>by cases h
 | [],_::_, [],_,h=>by cases h
 | [],_::_,_::_,_,_=>rfl
 |_::_, [],_,h,_=>by cases h
 |_::_,_::_, [],_,h=>by cases h
 |x::a,y::b,z::c,h1,h2=>by
  unfold kW at h1 h2 ⊢;split at h1
  ·rename_i e
   subst e;split at h2
   ·rename_i e;rw[bJ e];exact uH h1 h2
   ·rename_i e;rw[bU e];exact h2
  ·rename_i e
   have:=of_decide_eq_true h1;split at h2
   ·rename_i d
    subst d;rw[bU e];exact h1
   ·have f:=of_decide_eq_true h2
    rw[bU om];exact cI om
theorem Ho: ∀{a b:List Nat},kW a b=false->kW b a=false->a=b
 | [], [],_,_=>rfl
 | [],_::_,h,_=>by cases h
 |_::_, [],_,h=>by cases h
 |x::a,y::b,h1,h2=>by
  unfold kW at h1 h2;split at h1
  ·rename_i e
   subst e;rw[bJ rfl] at h2;rw[Ho h1 h2]
  ·rename_i e
   rw[bU (Ne.symm e)] at h2;have d:=of_decide_eq_false h1;have c:=of_decide_eq_false h2;omega
def aeI (a b:List Nat):Int:=if (a.length:Int)≠b.length then (a.length:Int)-b.length else Ja a b
def OW (a b:List Nat):Bool:=decide (aeI a b<0)
theorem HE (a b:List Nat):OW a b=true↔a.length<b.length∨a.length=b.length/\kW a b=true:=by
 unfold OW aeI;rw[Ak];split
 ·omega
 ·rw[Uj]
  constructor
  ·exact λh=> .inr ⟨om,h⟩
  ·rintro (h|h)
   ·omega
   ·exact h.2
theorem PT (a b:List Nat):OW a b=false↔ ¬(a.length<b.length∨a.length=b.length/\kW a b=true):=by
 rw[←HE,Bool.not_eq_true]
theorem Dm:SWO OW where
 irrefl x:=by rw[PT,Pc];simp
 trans x y z b c:=by
  rw[HE] at*;rcases b with b|⟨b,d⟩<;>rcases c with c|⟨c,a⟩
  ·exact .inl om
  ·exact .inl om
  ·exact .inl om
  ·exact .inr ⟨om,uH d a⟩
 ntrans x y z b c:=by
  rw[PT] at*;rintro (h|⟨h,k⟩)
  ·omega
  ·have i:y.length=x.length:=om
   have j:z.length=y.length:=om
   have d:kW x y=false:=by
    rw[←Bool.not_eq_true];exact λk=>b (.inr ⟨i.symm,k⟩)
   have a:kW y z=false:=by
    rw[←Bool.not_eq_true];exact λk=>c (.inr ⟨j.symm,k⟩)
   by_cases f:kW y x=true
   ·have:=uH f k
    rw[this] at a;cases a
   ·have:=Ho d (by simpa using f)
    rw[this] at k;rw[k] at a;cases a
theorem adB {a b:List Nat}(c:OW a b=false)(h2:OW b a=false):a=b:=by
 rw[PT] at c h2;have e:a.length=b.length:=om
 exact Ho (by rw[←Bool.not_eq_true];exact λk=>c (.inr ⟨e,k⟩)) (by rw[←Bool.not_eq_true];exact λk=>h2 (.inr ⟨e.symm,k⟩))
theorem QB {W W':Nat->Prop}{L:LN}{h:H}{p q:V×V×V}{a b:List Nat}(n:Nat)(U:L.length<=5040)(j:Nm W n L h p a)(l:Nm W' n L h q b):
  Ev T 84 [AY n p,AY n q] h (λv h'=>v= aC (aeI a b)/\Fr h h'):=by
 obtain⟨A,x,F⟩:=j.one
 obtain⟨K,y,G⟩:=l.one
 have Y:=j.rk.short
 have lb:=l.rk.short
 have t:=j.si.lens
 rw[aS] at t
 have o:=l.si.lens
 rw[aS] at o
 refine dW oW rfl ?_
 obtain⟨B,w⟩:=exI h.next
 obtain⟨z,N,u,O,q1,k⟩:=dK w [aC n,p.1,p.2.1,p.2.2]
 obtain⟨R,J,Z,r,Q,m⟩:=dK u [aC n,q.1,q.2.1,q.2.2]
 have i:R.get B=bB (Bz n p):=by rw[Q B om];exact O
 unfold aeI
 by_cases f:(a.length:Int)≠(b.length:Int)
 ·have s:=cI f
  simp(disch:=omega)only[go_sem,oW,aE,gY h (a:= aC n) (b:=p.1) (c:=p.2.1) (d:=p.2.2) rfl A x F,w,N,gY z (a:= aC n) (b:=q.1) (c:=q.2.1) (d:=q.2.2) rfl K y G,u,J,H.aF i,H.aF r,t,o,s,bJ f]
  exact k.trans m
 ·have s:=bI f
  simp(disch:=omega)only[go_sem,oW,aE,gY h (a:= aC n) (b:=p.1) (c:=p.2.1) (d:=p.2.2) rfl A x F,w,N,gY z (a:= aC n) (b:=q.1) (c:=q.2.1) (d:=q.2.2) rfl K y G,u,J,H.aF i,H.aF r,t,o,s,iD i,iD r,bU f]
  refine (JD n U (j.mono (k.trans m)) (l.mono (k.trans m))).mono ?_
  rintro _ h3 ⟨rfl,P⟩
  simp(disch:=omega)only[go_sem]
  exact k.trans (m.trans P)
structure NE where
 n:Nat
 p:V×V×V
 r:List Nat
 one:p.1.one=true/\p.2.1.one=true/\p.2.2.one=true
 eq:dI p.1 p.1=true/\dI p.2.1 p.2.1=true/\dI p.2.2 p.2.2=true
instance:Inhabited NE:=⟨⟨0,(.aD,.aD,.aD), [],⟨rfl,rfl,rfl⟩,⟨rfl,rfl,rfl⟩⟩⟩
def NE.enc (a:NE):List V:=Bz a.n a.p
def NE.lt (a b:NE):Bool:=OW a.r b.r
def NE.Pp (n:Nat)(L:LN)(hB:H)(b0 S:Nat)(a:NE):Prop:=a.n=n/\Nm (λq=>b0<=q∨q=S) n L hB a.p a.r
theorem aiZ {a h:H}{c S:Nat}(d:a.next=c)(b:Cls.Bb a c S h):Fx (λq=>c<=q∨q=S) a h:=
 ⟨by rw[d];exact b.1,λq i f=>b.2 q om λe=>f (.inr e)⟩
def ahV (k:Nat):Nat:=if k=247 then 168 else if k=260 then 211 else if k=248 then 169 else if k=227 then 127 else if k=254 then 175 else if k=253 then 174 else if k=252 then 173 else if k=249 then 170 else if k=250 then 171 else if k=264 then 245 else if k=262 then 215 else if k=261 then 214 else if k=251 then 172 else if k=186 then 83 else k
theorem Gx {ρ:Nat->Nat}{k m:Nat}{c d:Ay.Fn}(h:T k=some c)(h':T m=some d)(e:d=Cls.Vt ρ c):T m=(T k).map (Cls.Vt ρ):=by
 rw[h,h',e]
 rfl
theorem acW: ∀k,k∈Cls.sK->T (ahV k)=(T k).map (Cls.Vt ahV):=by
 intro k a;simp only[Cls.sK,vI,List.not_mem_nil,or_false] at a;rcases a with rfl|rfl|rfl|rfl|rfl|rfl|rfl|rfl|rfl|rfl|rfl|rfl|rfl|rfl
 ·exact Gx dV.ok kA.ok (by kernel_rfl)
 ·exact Gx eS.ok mG.ok (by kernel_rfl)
 ·exact Gx eV.ok lY.ok (by kernel_rfl)
 ·exact Gx eZ.ok mT.ok (by kernel_rfl)
 ·exact Gx eH.ok lV.ok (by kernel_rfl)
 ·exact Gx dS.ok jV.ok (by kernel_rfl)
 ·exact Gx dF.ok iS.ok (by kernel_rfl)
 ·exact Gx dA.ok kB.ok (by kernel_rfl)
 ·exact Gx cQ.ok kX.ok (by kernel_rfl)
 ·exact Gx fF.ok mZ.ok (by kernel_rfl)
 ·exact Gx fE.ok nE.ok (by kernel_rfl)
 ·exact Gx dQ.ok jX.ok (by kernel_rfl)
 ·exact Gx dX.ok kG.ok (by kernel_rfl)
 ·exact Gx dN.ok jN.ok (by kernel_rfl)
@[reducible] def ajA (n:Nat)(L:LN)(hL:L.length<=5040)(hB:H)(b0 S:Nat)(hb:hB.next=b0):Cls.bN NE where
 lt:=NE.lt
 enc:=NE.enc
 P:=NE.Pp n L hB b0 S
 B:=Cls.Bb hB b0 S
 f:=84
 b0:=b0
 S:=S
 swo:=⟨λx=>Dm.irrefl x.r,λx y z=>Dm.trans x.r y.r z.r,λx y z=>Dm.ntrans x.r y.r z.r⟩
 len _:=rfl
 one a:=by simp [NE.enc,Bz,a.one,show (aC (a.n:Int)).one=true from rfl]
 eqv a:=by simp [NE.enc,Bz,dI,tG,a.eq]
 cmp h a b hb' pa pb:=by
  have fx:=aiZ hb hb';obtain⟨ea,na⟩:=pa;obtain⟨eb,nb⟩:=pb;have:=QB n hL (na.go fx (W':=λ_=>False) λ_ _ h=>h.elim) (nb.go fx (W':=λ_=>False) λ_ _ h=>h.elim);unfold NE.enc;rw[ea,eb]
  exact this.mono λv h' ⟨e,f⟩=>⟨_,e,rfl,f⟩
 bfr h h' b f:=⟨mY b.1 f.next,λq h1 h2=>by rw[f.get q (jM h1 b.1)];exact b.2 q h1 h2⟩
 bS h h' b f:=⟨mY b.1 f.next,λq h1 h2=>by rw[f.get q (jM h1 b.1) h2];exact b.2 q h1 h2⟩
 bR h h' R b hR f:=⟨mY b.1 f.next,λq h1 h2=>by rw[f.get q (jM h1 b.1) (λe=>by have:q=R:=e;omega)];exact b.2 q h1 h2⟩
 bn h b:=b.1
 ρ:=ahV
 hT:=acW
 s1:=rfl
 s2:=rfl
 s3:=rfl
theorem KZ {l:List NE}{N:Nat}(k:l.length=N){e:Array NE}(s:PermIn 0 N l.toArray e)(n:SortedIn NE.lt 0 N e):e.toList.Perm l/\e.toList.Pairwise (λa b=>NE.lt b a=false):=by
 obtain⟨q,u,o⟩:=s;have c:e.size=N:=by rw[q];simpa using k
 refine⟨?_,?_⟩
 ·have p:(e.extract 0 N).toList=e.toList:=by rw[←c];simp
  have r:(l.toArray.extract 0 N).toList=l:=by rw[←k];simp
  rwa [p,r] at o
 ·rw[GP]
  intro i j hi f h;have d:j<N:=by simpa [c] using f
  have:=n i j (iB _) h d;have m:e[i]! =e.toList[i]:=by simp at hi;simp [hi]
  have t:e[j]! =e.toList[j]:=by simp at f;simp [f]
  rw[m,t] at this;exact this
theorem QM (n:Nat)(L:LN)(t:L.length<=5040)(h:H)(S:Nat)(l:List NE)(d:pY)(o:l.length<60000)(r:h.get S=bB (l.flatMap NE.enc))(f:S<h.next)(m: ∀a∈l,a.Pp n L h h.next S):
  Ev T 83 [.sl S 0 l.length d,.fn 84 [] []] h (λ_ h'=> ∃l':List NE,h'.get S=bB (l'.flatMap NE.enc)/\l'.Perm l/\l'.Pairwise (λa b=>NE.lt b a=false)/\Fx (· =S) h h'):=by
 letI:=ajA n L t h h.next S rfl
 have A:Cls.dY h S l.length l.toArray:=⟨r,by simp,f,rfl,⟨fN _,λ_ _ _=>rfl⟩,λi hi=>by
  have c:i<l.length:=by simpa using hi
  have:l.toArray[i]! =l[i]:=by simp [c]
  rw[this]
  exact m _ (xG c)⟩
 refine (Cls.Ly h S l.length l.toArray d o A).mono ?_
 rintro _ h' ⟨e,k,p,s,F⟩
 obtain⟨j,q⟩:=KZ rfl p s
 exact⟨e.toList,k.get,j,q,F⟩
end Go.Proofs.YtcdbmkidaecdiaaGreat
namespace Go.Proofs.YtcdbmkidaecdiaaGreat
open Go Go.Ay Go.Pm
set_option maxRecDepth 100000
structure Aq (n:Nat)(G:List Nat->Prop)(L:LN)(rs:LN):Prop where
 mem: ∀r,r∈rs↔yW n G L r
 srt:rs.Pairwise λa b=>OW a b=true
theorem Aq.uniq {n:Nat}{G:List Nat->Prop}{L:LN}{rs c:LN}(a:Aq n G L rs)(b:Aq n G L c):rs=c:=by
 have nd: ∀{l:LN},(l.Pairwise λa b=>OW a b=true)->l.Nodup:=λh=>h.imp λ{a b} h e=>by
  rw[e,Dm.irrefl] at h;cases h
 have p:rs.Perm c:=(List.perm_ext_iff_of_nodup (nd a.srt) (nd b.srt)).2 λr=>(a.mem r).trans (b.mem r).symm
 exact p.eq_of_pairwise (λx y _ _ d f=>by have:=Dm.trans x y x d f;rw[Dm.irrefl] at this;cases this) a.srt b.srt
section
variable {n:Nat} {G:List Nat->Prop} {L:LN} {K:List Nat} {fs:LN} (hG:dO n G) (E:cZ G L)
include hG E
theorem Sh (F:K.Perm (kC G L L.length))(A:(Lf L λx=>x=aX n)∈fs)(all: ∀r∈fs,yW n G L r)(Y: ∀r∈fs,∀k∈K,k∈r∨Ai n G L r k∈fs)(M:List Nat)(c:yW n G L M):M∈fs:=by
 have w: ∀(d:Nat) (N:List Nat),N∈fs->(∀x∈N,x∈M)->L.length<=N.length+d->M∈fs:=by
  intro d
  induction d with
  |zero=>
   intro N l v U;have f:=all N l
   have:N=M:=pL f.rk.asc c.rk.asc λx=>⟨v x,λi=>Jj λq=>by
    have:=List.Nodup.length_le_of_subset (List.nodup_cons.2 ⟨q,f.rk.asc.imp λh=>Nat.ne_of_lt h⟩) (l₂:=List.range L.length) λy B=>by
     rcases vI.1 B with rfl|B
     ·exact Dj.2 ((c.rk.mem y).1 i).1
     ·exact Dj.2 ((f.rk.mem y).1 B).1
    rw[List.length_cons,Xf] at this
    omega⟩
   rw[←this];exact l
  |succ d ih=>
   intro N l v U;have f:=all N l
   by_cases h: ∃x,x∈M/\x∉N
   ·obtain⟨x,i,q⟩:=h
    have m:=((c.rk.mem x).1 i).1;obtain⟨k,hk,O,g,p,e⟩:=Px hG E m;have s:k∈K:=F.mem_iff.2 (jY.2 ⟨om,O⟩)
    have o:k∉N:=λh=>q (by
     obtain⟨t,u,e2⟩:=f.nm _ _ ⟨k,h,rfl⟩ p;have:t=x:=wU E.nodup ((f.rk.mem t).1 u).1 m (e2.trans e)
     rw[←this];exact u)
    have z:RG L M (L.getD k []):=by
     have P:=lE hG E (show k<L.length by omega);have:=c.nm _ _ ⟨x,i,rfl⟩ (hG.inv p);rwa [←e,←gW P (hG.bF p) (hG.bF p).inv,cG (hG.bF p),iZ P] at this
    rcases Y N l k s with h|h
    ·exact absurd h o
    ·have gr:=Dr f ((jY.1 (F.mem_iff.1 s)).1) o
     refine ih _ h (λt u=>?_) om;obtain⟨h3,Q⟩:=(xF t).1 u;exact (c.rk.mem t).2 ⟨h3,NC.le Q c.cY (λa h=>h.elim (λ⟨j,hj,e⟩=>⟨j,v j hj,e⟩) λe=>by rw[e];exact z) λa b W R=>c.nm a b W R⟩
   ·have:N=M:=pL f.rk.asc c.rk.asc λx=>⟨v x,λi=>Jj λq=>h ⟨x,i,q⟩⟩
    rw[←this];exact l
 refine w L.length _ A (λx i=>?_) om;obtain⟨J,Z⟩:=((zH L _).mem x).1 i;exact (c.rk.mem x).2 ⟨J,by rw[Z];exact c.cY.one⟩
end
theorem aeU {W:Nat->Prop}{n:Nat}{L:LN}{h:H}: ∀{ps:List (V×V×V)} {rs:LN},aN (Nm W n L h) ps rs-> ∃l:List NE,l.flatMap NE.enc=Ae n ps/\l.map NE.r=rs/\ ∀a∈l,a.n=n/\Nm W n L h a.p a.r
 | [], [],_=>⟨[],rfl,rfl,λa b=>by cases b⟩
 |p::ps,r::rs,⟨m,a⟩=>by
  obtain⟨l,f,c,d⟩:=aeU a;refine⟨⟨n,p,r,m.one,m.eq⟩::l,?_,by rw[List.map_cons,c],λa b=>?_⟩
  ·rw[List.flatMap_cons,f];rfl
  ·rcases vI.1 b with rfl|b
   ·exact⟨rfl,m⟩
   ·exact d a b
def aiK (n:Nat)(G:List Nat->Prop)(L:LN)(h:H)(v:V)(h':H):Prop:=
 ((∃vl ls rs,v= .tup [vl,aC 0]/\Aq n G L rs/\rs.length<=200/\SV h' vl 3 (Mj n ls)/\aN (BM (λ_=>False) n L h') ls rs)∨
  (v= .tup [.aD,aC 5]/\ ∃fs:LN,fs.Nodup/\(∀r∈fs,yW n G L r)/\200<fs.length))/\Fr h h'
structure NwJ (n:Nat)(G:List Nat->Prop)(L:LN)(K:List Nat)(b Q:Nat)(h0 hh:H)(fs:LN)(i j:Nat):Prop where
 ex: ∃vf,hh.get Q=bB [vf]/\NmL (λq=>q=Q) n L b hh vf fs/\ ¬bY vf Q
 fr:Fr h0 hh
 nx:Q<hh.next
 bn:b<=hh.next
 nd:fs.Nodup
 all: ∀r∈fs,yW n G L r
 bot:(Lf L λx=>x=aX n)∈fs
 il:i<fs.length∨(i=fs.length/\j=0)
 cl: ∀t k,(t<i∨t=i/\k∈K.take j)->t<fs.length->k∈K->k∈fs.getD t []∨Ai n G L (fs.getD t []) k∈fs
theorem YM {l:LN}{a:List Nat}(h:l.Nodup):(uD l a).Nodup:=by
 unfold uD;split
 ·exact h
 ·rename_i d
  rw[List.nodup_append];exact⟨h,List.pairwise_singleton _ _,λx b y c e=>d (by rw[←List.mem_singleton.1 c,←e];exact b)⟩
theorem KN {l:LN}{a:List Nat}{t:Nat}(h:t<l.length):(uD l a).getD t []=l.getD t []:=by
 unfold uD;split
 ·rfl
 ·rw[OU,OU,Dt h]
theorem VH (l:LN)(a:List Nat):l.length<=(uD l a).length/\(uD l a).length<=l.length+1:=by
 unfold uD;split
 ·omega
 ·rw[iV];exact⟨Nat.le_add_right _ _,fN _⟩
theorem Dp {W0:Nat->Prop}(vc:V)(n:Nat)(O:LN)(R:jJ)(G:List Nat->Prop)(h:H)(gc:GC W0 h vc n O R G):
  Ev T 26 [vc] h (λv h'=> ∃L,dM O R n 0 (aX n)=L/\aiK n G L h v h'):=by
 obtain⟨vO,vR,rfl,i2,c9⟩:=gc.shape
 refine dW zS rfl ?_
 obtain⟨A,hA⟩:=exI h.next
 obtain⟨o,e1,n1,g1,q1,f1⟩:=dK hA [aC n,vO,vR]
 simp(disch:=omega)only[go_sem,zS,aE,bV h (v:= aC n) (u:=vO) (w:=vR) rfl i2 c9,hA,e1,aJ g1]
 refine (IX _ n O R G o (gc.mono f1)).mono ?_
 rintro _ z ⟨T0,L,K,rfl,Ag,f2⟩
 obtain⟨ll,E,hG,l8,n0,n7⟩:=Ag.few
 have ik:=Ag.isK
 have eL:=Ag.hL
 have F2:=f1.trans f2
 simp(disch:=omega)only[go_sem]
 refine bA (λhc=>(hc rfl).elim) (λ_=>?_)
 simp(disch:=omega)only[go_sem]
 refine (HU T0 n O R G L K z Ag).mono ?_
 rintro _ h3 ⟨p0,rfl,c5,f3⟩
 obtain⟨o1,o2,o3⟩:=c5.one
 obtain⟨N,h6⟩:=exI h3.next
 obtain⟨h4,e4,n4,g4,q4,f4⟩:=dK h6 (Bz n p0)
 obtain⟨h5,e5,n5,g5,q5,f5⟩:=dK n4 [.sl N 0 1 (.kn 1)]
 have bx:Ce h4 (.agg [.sl N 0 1 (.kn 1)])=some (.ptr (N+1) 0,h5):=by rw[←e5,←n4];rfl
 simp(disch:=omega)only[go_sem,PW h3 (a:= aC n) (b:=p0.1) (c:=p0.2.1) (d:=p0.2.2) rfl o1 o2 o3,h6,e4,show qU [.aD] [(0,1,.sl N 0 1 (.kn 1))]=some (.agg [.sl N 0 1 (.kn 1)]) from rfl,bx]
 have l6:=f3.next
 have j4:Fr z h5:=⟨om,λq hq=>by rw[q5 q om,q4 q om,f3.get q hq]⟩
 have c4:h5.get N=bB (Bz n p0):=by rw[q5 _ om];exact g4
 have e8:Nm (λq=>q=N+1∨bY (.sl N 0 1 (.kn 1)) q) n L h5 p0 (Lf L λx=>x=aX n):=
  ((c5.go (Fx.refl _ _) (W':=λq=>q=N+1∨bY (.sl N 0 1 (.kn 1)) q) λq o z=>by
   rcases z with e|⟨_,_,_,e⟩
   ·omega
   ·cases e;omega).mono f4).mono f5
 have J0:NwJ n G L K N (N+1) z h5 [Lf L λx=>x=aX n] 0 0:=by
  refine⟨⟨_,g5,⟨[p0],.inr ⟨N,1,_, [],rfl,rfl,.inr ⟨rfl,rfl⟩,fN _,om,c4⟩,⟨e8,trivial⟩,λid a5 m c e=>by cases e;exact c4⟩,λ⟨_,_,_,e⟩=>by cases e⟩,j4,om,om,List.pairwise_singleton _ _,λr hr=>by rw[List.mem_singleton.1 hr];exact EB hG E,List.mem_singleton.2 rfl,.inl (by show 0<1;omega),λt k o=>?_⟩;rcases o with o|⟨_,o⟩
  ·omega
  ·cases o
 obtain⟨Q,hQ⟩:=exI (N+1)
 rw[hQ] at J0 ⊢
 clear e8 c5 c4 bx
 obtain⟨lO,lR,M,lr,gT,gM,_,c8,nM⟩:=Ag.ex
 have j9:=Ag.nx
 have i5: ∀h',Fr z h'->h'.get T0=bB [aC n,lO,lR,.mp M,lr]:=λh' f=>by rw[f.get T0 j9];exact gT
 have f0:=c8.lens
 simp only[iA] at f0
 have kl:K.length<=L.length:=by
  have:=List.Nodup.length_le_of_subset (l₂:=List.range L.length) ik.nd λx hx=>Dj.2 (ik.lt hx)
  rwa [Xf] at this
 refine aI (λU s hh=> ∃(i:Nat) (fs:LN),(∃g:Nat->V,s= [g 0,g 1,g 2,g 3,.ptr T0 0,g 5,.ptr Q 0,aC i,g 8,g 9,g 10,g 11,g 12,g 13,g 14,g 15,g 16,g 17,g 18,g 19,g 20,g 21,g 22])/\NwJ n G L K N Q z hh fs i 0/\fs.length<=200/\i<=fs.length/\U=201-i) 201
  ⟨0,_,aB rfl,J0,by show 1<=200;omega,iB _,rfl⟩ ?_
 clear J0
 rintro U s hh ⟨i,fs,⟨g,rfl⟩,J,l2,hi,rfl⟩
 obtain⟨vf,gQ,ml,nb⟩:=J.ex
 obtain⟨ps,ow,al,_⟩:=ml.ex
 have b1:=aN.length al
 have Y:=Bo ow.sv
 rw[b1] at Y
 have F:=J.fr
 by_cases f6:(i:Int)<(fs.length:Int)
 case neg=>
  have d1:=bI f6;obtain rfl:i=fs.length:=om
  obtain⟨i0,c2,a9,i9⟩:=ml.ex;have b4:=aN.length a9;have k3:=Rl J.bot
  have a4: ∀M,yW n G L M->M∈fs:=Sh hG E ik.perm J.bot J.all λr hr k hk=>by
   obtain⟨t,ht,rfl⟩:=Ad.1 hr;have:=J.cl t k (.inl ht) ht hk;rwa [List.getD,dD ht] at this
  rcases c2 with ⟨_,e⟩|⟨S,m,a2,k2,rfl,e1,_,e3,e4,_⟩
  ·have:=congrArg List.length e
   rw[mS] at this;have:i0.length*4=0:=this;omega
  have gS:=i9 _ _ _ _ rfl;have SQ:S≠Q:=λe=>nb (by rw[e];exact⟨_,_,_,rfl⟩)
  obtain⟨l,l1,l3,l4⟩:=aeU a9;have l5:l.length=fs.length:=by rw[←l3,iA]
  have em:m=l.length:=by rw[mS] at e1;omega
  subst em;simp(disch:=omega)only[go_sem,H.aF gQ,Y,d1];refine (QM n L ll hh S l a2 om (by rw[l1];exact gS) e4 λa ha=>⟨(l4 a ha).1,(l4 a ha).2.go (Fx.refl _ _) λq o z=>?_⟩).mono ?_
  ·rcases z with z|z
   ·omega
   ·exact .inr (by rw[z];exact⟨_,_,_,rfl⟩)
  rintro _ P ⟨l',i8,pm,j2,F3⟩;have k9:=F3.next;have jn:=J.nx;have j8:P.get Q=bB [.sl S 0 l.length a2]:=by rw[F3.get Q jn λe=>SQ e.symm];exact gQ
  have a0: ∀a∈l',a.n=n/\Nm (λ_=>False) n L P a.p a.r:=λa ha=>by
   obtain⟨x,y⟩:=l4 a (pm.mem_iff.1 ha);exact⟨x,y.go (Fx.wide F3 λq (e:q=S)=> .inr (by rw[e];exact⟨_,_,_,rfl⟩)) λ_ _ h=>h.elim⟩
  have b2:l'.length=l.length:=pm.length_eq
  have i4:Aq n G L (l'.map NE.r):=by
   have pr:(l'.map NE.r).Perm fs:=by rw[←l3];exact pm.map _
   refine⟨λr=>⟨λhr=>J.all r (pr.mem_iff.1 hr),λhr=>pr.mem_iff.2 (a4 r hr)⟩,?_⟩;have nd:(l'.map NE.r).Nodup:=pr.nodup_iff.2 J.nd;refine List.pairwise_map.2 ((List.pairwise_and_iff.2 ⟨j2,List.pairwise_map.1 nd⟩).imp λ{a b} h=>?_);obtain⟨o,z⟩:=h;have o:OW b.r a.r=false:=o
   cases h3:OW a.r b.r with
   |true=>rfl
   |false=>exact absurd (adB h3 o) z
  have i7:SV P (.sl S 0 l.length a2) 4 (l'.flatMap NE.enc):=SV.all (by rw[tS (k:=4) (f:=NE.enc) (λ_=>rfl),b2]) om i8 _
  have j3:Fr z P:=⟨by have:=F.next;omega,λq hq=>by rw[F3.get q (by have:=F.next;omega) om];exact F.get q hq⟩
  simp(disch:=omega)only[go_sem,H.aF j8,show bL (.sl S 0 l.length a2)=some (aC (l.length:Int)) from rfl];refine aI (λU s h'=> ∃(j:Nat) (w:V) (ls:List (V×V)),(∃g:Nat->V,s= [g 0,g 1,g 2,g 3,g 4,g 5,g 6,g 7,g 8,w,g 10,g 11,g 12,g 13,g 14,g 15,g 16,g 17,g 18,.sl S 0 l.length a2,aC (l.length:Int),aC j,g 22])/\j<=l.length/\dH h' w 3 (Mj n ls) P.next/\aN (BM (λ_=>False) n L P) ls ((l'.map NE.r).take j)/\Fr P h'/\U=l.length-j) l.length
   ⟨0,.aD, [],aB rfl,iB _,dH.aD _ _ _,trivial,Fr.refl _,rfl⟩ ?_
  rintro U s b6 ⟨j,w,ls,⟨g,rfl⟩,hj,b8,all,F4,rfl⟩;have j0:=aN.length all;rw[zO,iA,Nat.min_eq_left om] at j0
  by_cases c7:(j:Int)<(l.length:Int)
  case neg=>
   have d2:=bI c7;obtain rfl:j=l.length:=om
   rw[Ro (by rw[iA];omega)] at all;simp(disch:=omega)only[go_sem,d2];exact⟨L,eL,.inl ⟨w,ls,_,rfl,i4,by rw[iA];omega,b8.sv,aN.mono (λ_ _ x=>BM.go x (Fx.of F4) λ_ _ h=>h) all⟩,F2.trans (j3.trans F4)⟩
  have d2:=cI c7;have b9:j<l'.length:=om
  obtain⟨ij,oj,d7,rj,_⟩:=SV.rec (k:=4) (f:=NE.enc) om (λ_=>rfl) (i7.mono F4) b9;rw[b2] at d7;obtain⟨en,mj⟩:=a0 _ (xG b9);have ej:(l'.map NE.r).take (j+1)=(l'.map NE.r).take j++ [l'[j].r]:=by rw[List.take_succ_eq_append_getElem (by rw[iA];exact b9),List.getElem_map]
  generalize l'[j]=a at rj en mj ej;have rj:b6.row ij (oj+j*4) 4=some [aC n,a.p.1,a.p.2.1,a.p.2.2]:=by rw[rj,←en];rfl
  obtain⟨o1,o2,o3⟩:=a.one;obtain⟨C,hC⟩:=exI b6.next;obtain⟨k5,e5,n5,g5,q5,f5⟩:=dK hC [aC 0,.aD,.aD,.aD];obtain⟨k6,e6,n6,g6,q6⟩:=mV k5 C (Bz n a.p);obtain⟨k7,e7,l0,g7,q7,f7⟩:=dK (h:=k6) (n6.trans n5) [aC n,a.p.1,a.p.2.1]
  have g9:Fr b6 k7:=⟨om,λq hq=>by rw[q7 q om,q6 q om,q5 q om]⟩
  have l9:=F4.next;obtain⟨k8,a8,p8⟩:=((b8.fr g9).le (iB _)).push (bytes:=56) (SV.all (sz:=3) (len:=1) (vs:= [aC n,a.p.1,a.p.2.1]) rfl om g7 (.kn 1)) (n:=ls.length) (m:=1) (jP n ls) rfl om om om;have n8:=p8.next;have i6: ∀{hh:H} {id:Nat} {a b c d:V},hh.get id=bB [a,b,c,d]->hh.row id 0 3=some [a,b,c]:=λhg=>by simp [H.row,hg,sub]
  simp(disch:=omega)only[go_sem,d2,d7.ixa,rj,hC,e5,kV k5 C 0 (a:= aC n) (b:=a.p.1) (c:=a.p.2.1) (d:=a.p.2.2) rfl o1 o2 o3,g5,jS,e6,i6 g6,Va k6 (d:=(n:Int)) o1 o2,n6,n5,e7,a8];rw[fJ j];refine⟨l.length-(j+1),om,j+1,_,ls++ [(a.p.1,a.p.2.1)],aB rfl,om,by rw[Wd];exact p8.own (b:=P.next) (jP n ls) rfl om,by rw[ej];exact aN.append all ⟨mj.ch,trivial⟩,⟨om,λq hq=>?_⟩,rfl⟩;rw[p8.old q om λid a5 m c e e2=>by have:=(b8.in _ _ _ _ e).2.1;omega,g9.get q om];exact F4.get q hq
 have d1:=cI f6
 have k0:i<fs.length:=om
 simp(disch:=omega)only[go_sem,H.aF gQ,Y,d1,H.aF (i5 hh F),f0]
 refine aI (λU s h'=> ∃(j:Nat) (c1:LN),(∃g:Nat->V,s= [g 0,g 1,g 2,g 3,.ptr T0 0,g 5,.ptr Q 0,aC i,g 8,g 9,g 10,g 11,g 12,lr,aC (K.length:Int),aC j,g 16,g 17,g 18,g 19,g 20,g 21,g 22])/\j<=K.length/\NwJ n G L K N Q z h' c1 i j/\i<c1.length/\c1.length<=200/\U=K.length-j) K.length
  ⟨0,fs,aB rfl,iB _,J,k0,l2,rfl⟩ ?_
 rintro U s h7 ⟨j,W,⟨g,rfl⟩,m0,B,Z,g0,rfl⟩
 clear J al ow ml gQ b1 Y
 obtain⟨vf,gQ,ml,nb⟩:=B.ex
 obtain⟨ps,ow,al,_⟩:=ml.ex
 have b1:=aN.length al
 have F7:=B.fr
 by_cases d6:(j:Int)<(K.length:Int)
 case neg=>
  have d2:=bI d6;obtain rfl:j=K.length:=om
  simp(disch:=omega)only[go_sem,d2];rw[fJ i];refine⟨201-(i+1),om,i+1,W,aB rfl,⟨B.ex,B.fr,B.nx,B.bn,B.nd,B.all,B.bot,?_,λt k o z h3=>B.cl t k (o.elim (λh=>?_) λh=>?_) z h3⟩,g0,om,rfl⟩
  ·by_cases e:i+1<W.length
   ·exact .inl e
   ·exact .inr ⟨om,rfl⟩
  ·by_cases e:t=i
   ·exact .inr ⟨e,by rw[List.take_length];exact h3⟩
   ·exact .inl om
  ·cases h.2
 have d2:=cI d6
 have a3:j<K.length:=om
 obtain⟨ia,a5,ws,sh,h0,j5,hc,i1⟩:=c8.open
 simp only[iA] at sh h0 j5 hc
 have ci:h7.cell ia (a5+j)=some (ws.getD j .undef):=by rw[F7.cell (h0 om),hc j a3]
 have s0:=(xJ i1 (i:=j) (by rw[iA];exact a3)).mono F7
 have eK:(K.map λr=>L.getD r []).getD j []=L.getD K[j] []:=by rw[List.getD,Qy,dD a3];rfl
 rw[eK] at s0
 have e0:=xG a3
 have a7:=ik.lt e0
 have c3: ∀k,k∈K.take (j+1)->k∈K.take j∨k=K[j]:=λk hk=>by
  rw[List.take_succ_eq_append_getElem a3] at hk;exact (oD.1 hk).imp id List.mem_singleton.1
 generalize ws.getD j .undef=vx at ci s0
 generalize K[j]=k at s0 e0 a7 c3
 have d9:i<ps.length:=om
 obtain⟨is,os,i3,d5,j6⟩:=Mq ow.sv d9
 have mi:=aN.get al i d9 om
 have er:W.getD i []=W[i]:=by rw[List.getD,dD Z];rfl
 have kr:=B.all _ (xG Z)
 have b0:=B.cl
 generalize W[i]=r at mi er kr
 have Y:=Bo ow.sv
 rw[b1] at Y
 simp(disch:=omega)only[go_sem,d2,sh.ixa,ci,H.aF gQ,i3.ixa,d5]
 refine (IE T0 ps[i] vx n O R G L K r k h7 (Ag.mono F7) mi a7 s0).mono ?_
 rintro _ h8 ⟨rfl,f8⟩
 have F8:=F7.trans f8
 have a6:h8.get Q=bB [vf]:=by rw[f8.get Q B.nx];exact gQ
 have n8:=f8.next
 have jn:=B.nx
 have jb:=B.bn
 by_cases b7:k∈r
 ·have d3:=cI b7
  have d4:decide ((200:Int)<(W.length:Int))=false:=bI om
  simp(disch:=omega)only[go_sem,d3,Bool.not_true,H.aF a6,Y,d4]
  rw[fJ j]
  refine⟨K.length-(j+1),om,j+1,W,aB rfl,om,⟨⟨vf,a6,ml.mono f8,nb⟩,F8,om,om,B.nd,B.all,B.bot,.inl Z,λt U o z h3=>?_⟩,Z,g0,rfl⟩
  rcases o with o|⟨o,h4⟩
  ·exact b0 t U (.inl o) z h3
  ·rcases c3 U h4 with h4|rfl
   ·exact b0 t U (.inr ⟨o,h4⟩) z h3
   ·rw[o,er];exact .inl b7
 have d3:=bI b7
 have g3:h8.row is (os+i*4) 4=some [aC n,ps[i].1,ps[i].2.1,ps[i].2.2]:=by rw[DQ f8 j6];exact d5
 simp(disch:=omega)only[go_sem,d3,Bool.not_false,H.aF a6,i3.ixa,g3]
 refine (Zs T0 ps[i] vx n O R G L K r k h8 (Ag.mono F8) (mi.mono f8) a7 (s0.mono f8)).mono ?_
 rintro _ h9 ⟨q,rfl,nq,f9⟩
 have F9:=F8.trans f9
 have n9:=f9.next
 have k1:h9.get Q=bB [vf]:=by rw[f9.get Q om];exact a6
 have g2: ∀q',bY vf q'->q'<h7.next/\N<=q':=λq' ⟨a5,m,c,e⟩=>by have:=ow.in _ _ _ _ e;omega
 have j1:Nm (λq=>q=Q∨bY vf q) n L h9 q (Ai n G L r k):=nq.go (Fx.refl _ _) λq' _ h=>by
  rcases h with h|h
  ·show q'<h8.next
   omega
  ·have:=g2 q' h
   show q'<h8.next;omega
 simp(disch:=omega)only[go_sem]
 refine (HZ n L N Q vf W q _ h9 ((ml.mono f8).mono f9) om j1 k1 om nb rfl ll om).mono ?_
 rintro _ g8 ⟨rfl,j7,c0,e9,b5,d0⟩
 have k4:=b5.next
 obtain⟨i0,c2,a9,_⟩:=e9.ex
 have b4:=aN.length a9
 have a1:=Bo c2.sv
 rw[b4] at a1
 have ln:=VH W (Ai n G L r k)
 have l7:z.next<=N:=om
 have d8:Fr z g8:=⟨by have:=F9.next;omega,λq' hq=>by
  rw[b5.get q' (by have:=F9.next;omega) λh=>h.elim (λe=>om) λh=>by have:=g2 q' h;omega]
  exact F9.get q' hq⟩
 have a0: ∀r'∈uD W (Ai n G L r k),yW n G L r':=λr' hr=>(yI.1 hr).elim (B.all r') λe=>by rw[e];exact Uc hG E kr a7
 have c6:NwJ n G L K N Q z g8 (uD W (Ai n G L r k)) i (j+1):=by
  refine⟨⟨j7,c0,e9,λh=>(d0 Q h).elim nb λh=>om⟩,d8,om,om,YM B.nd,a0,yI.2 (.inl B.bot),.inl om,λt U o z h3=>?_⟩
  by_cases ht:t<W.length
  ·rw[KN ht]
   rcases o with o|⟨o,h4⟩
   ·exact (b0 t U (.inl o) ht h3).imp id λh=>yI.2 (.inl h)
   ·rcases c3 U h4 with h4|rfl
    ·exact (b0 t U (.inr ⟨o,h4⟩) ht h3).imp id λh=>yI.2 (.inl h)
    ·rw[o,er];exact .inr (yI.2 (.inr rfl))
  ·rcases o with o|⟨o,h4⟩<;>omega
 by_cases b3:(200:Int)<((uD W (Ai n G L r k)).length:Int)
 ·have d4:decide ((200:Int)<((uD W (Ai n G L r k)).length:Int))=true:=cI b3
  simp(disch:=omega)only[go_sem,H.aF c0,a1,d4]
  exact⟨L,eL,.inr ⟨rfl,_,c6.nd,a0,om⟩,F2.trans d8⟩
 ·have d4:decide ((200:Int)<((uD W (Ai n G L r k)).length:Int))=false:=bI b3
  simp(disch:=omega)only[go_sem,H.aF c0,a1,d4]
  rw[fJ j]
  exact⟨K.length-(j+1),om,j+1,_,aB rfl,om,c6,om,om,rfl⟩
section
variable {n:Nat} {G:List Nat->Prop} {L:List (List Nat)} {K r:List Nat} {a b:List Nat} {fd:List (List Nat)}
theorem Rk.ne (g:dO n (RG L a)):0<a.length:=by
 obtain⟨j,c,_⟩:=g.one;exact Rl c
theorem zC.uniq {rs j:List (List Nat)}(x:zC n G L K rs)(y:zC n G L K j):rs=j:=by
 obtain⟨r,c,q⟩:=x.ex;obtain⟨s,d,u⟩:=y.ex
 have f: ∀(k:Nat) (a b:List Nat),rs[k]? =some a->j[k]? =some b->a=b:=by
  intro k
  induction k with
  |zero=>
   intro a b m o;rw[c.hd] at m;rw[d.hd] at o;cases m;cases o;rfl
  |succ k ih=>
   intro a b m o;have w:=(vJ.1 m).1;have A:=(vJ.1 o).1;have t:=dD (l:=rs) (i:=k) om;have p:=dD (l:=j) (i:=k) om;have e:=ih _ _ t p;rw[(c.st k _ _ t m).2,(d.st k _ _ p o).2,e]
 have len: ∀{rs j:List (List Nat)} {r s:List Nat},Ec n G L K rs r->Ec n G L K j s->r.length=L.length->(∀(k:Nat) (a b:List Nat),rs[k]? =some a->j[k]? =some b->a=b)->j.length<=rs.length:=by
  intro rs j r s c d q f;refine Nat.le_of_not_lt λh=>?_
  have F:=(vJ.1 c.hd).1;have p:=dD (l:=j) (i:=rs.length- 1) om;have v:=dD (l:=j) (i:=rs.length- 1+1) om;have:=(d.st _ _ _ p v).1;rw[←f _ _ _ c.la p] at this;omega
 have B:=len c d q f;have z:=len d c u λk a b m o=>(f k b a o m).symm
 refine List.ext_getElem om λk m o=>f k _ _ (dD m) (dD o)
end
structure BsJ (n:Nat)(D:Nat)(lf:List (V×V))(fd ls:List (List Nat))(vb:V)(hh:H):Prop where
 cl: ∃a b c,hh.get D=some (.cells false [a,b,c])
 ex:(ls= []/\vb= .aD)∨(ls≠ []/\ ∃j,∃hj:j<lf.length,fd.getD j []=JE ls/\SI hh vb (zi (JE ls))/\(∃id off m c,vb= .sl id off m c/\id≠D)/\hh.get D=some (.cells false [.int .i64 (n:Int),lf[j].1,lf[j].2]))
theorem BsJ.mono {n D:Nat}{lf:List (V×V)}{h ls:List (List Nat)}{i:V}{a h':H}(b:BsJ n D lf h ls i a)(f:Fr a h')(d:D<a.next):BsJ n D lf h ls i h':=by
 obtain⟨⟨x,y,z,c⟩,e⟩:=b;refine⟨⟨x,y,z,by rw[f.get D d];exact c⟩,e.imp id λ⟨k,j,hj,h2,h3,h4,h5⟩=>⟨k,j,hj,h2,h3.mono f,h4,by rw[f.get D d];exact h5⟩⟩
set_option maxRecDepth 100000
set_option maxRecDepth 100000
structure FcP (hh:H)(v6 v7:V)(fl:List (Nat×List Nat)):Prop where
 a:dH hh v6 1 (fl.map λx=> .str x.2) 0
 b:dH hh v7 1 (fl.map λx=> .int .i64 (x.1:Int)) 0
theorem FcP.mono {h h':H}{d i:V}{c:List (Nat×List Nat)}(p:FcP h d i c)(f:Fr h h'):FcP h' d i c:=⟨p.a.fr f,p.b.fr f⟩
def Zg (p:Nat):Prop:=1<p/\ ∀d,d∣p->d=1∨d=p
theorem BE {Q:Nat->Prop}: ∀(k:Nat),Q k-> ∃d,Q d/\ ∀e,e<d-> ¬Q e:=by
 intro k
 induction k using Nat.strongRecOn with
 |_ k ih=>
  intro c
  by_cases h: ∃e,e<k/\Q e
  ·obtain⟨e,a,i⟩:=h
   exact ih e a i
  ·exact⟨k,c,λe f b=>h ⟨e,f,b⟩⟩
theorem WI {d:Nat}(h:1<d): ∃p,Zg p/\p∣d:=by
 obtain⟨p,⟨i,b⟩,k⟩:=BE (Q:=λp=>1<p/\p∣d) d ⟨h,Nat.dvd_refl _⟩;refine⟨p,⟨i,λc a=>?_⟩,b⟩
 by_cases j:c=1
 ·exact .inl j
 ·have m:0<c:=Nat.pos_of_dvd_of_pos a om
  have:=k c;have f:=Nat.le_of_dvd om a;refine .inr (Nat.le_antisymm f (Nat.le_of_not_lt λl=>this l ⟨om,Nat.dvd_trans a b⟩))
theorem Zg.pow {r p:Nat}(a:Zg r): ∀k,r∣p^k->r∣p
 |0,h=>by
  have:=Nat.le_of_dvd (by simp) h;have:=a.1;simp at*;omega
 |k+1,h=>by
  rw[Nat.pow_succ] at h;rcases a.2 (Nat.gcd r p) (Nat.gcd_dvd_left r p) with e|e
  ·exact a.pow k (Nat.Coprime.dvd_of_dvd_mul_right e h)
  ·rw[←e];exact Nat.gcd_dvd_right r p
theorem TV {q p:Nat}(a:p∣q): ∀f c,0<c->c<=p->p<=c+f->(∀d,c<=d->d<p-> ¬d∣q)->BO f q c=p
 |0,c,_,h1,h2,_=>by
  show c=p;omega
 |f+1,c,c0,h1,h2,h3=>by
  show (if q%c=0 then c else BO f q (c+1))=p
  by_cases e:c=p
  ·rw[bJ (by rw[e];exact Nat.mod_eq_zero_of_dvd a),e]
  ·rw[bU λh=>h3 c (fN _) om (Nat.dvd_of_mod_eq_zero h)]
   exact TV a f (c+1) om om om λd b=>h3 d om
section
variable {n:Nat} {G K M H:List Nat->Prop} {LK LM LH:List (List Nat)} {x y z:List Nat} {p:Nat}
theorem aeS (a:dO n H)(X:aY n x): ∃d,0<d/\ ∀e,H (pw n x e)↔d∣e:=by
 obtain⟨k,r,_,l⟩:=Oc X;obtain⟨d,⟨h,i⟩,s⟩:=BE (Q:=λd=>0<d/\H (pw n x d)) k ⟨r,by rw[l];exact a.one⟩
 have mul: ∀c,H (pw n x (d*c)):=λc=>by
  induction c with
  |zero=>exact a.one
  |succ c ih=>rw[Nat.mul_succ,Fy X];exact a.mul ih i
 refine⟨d,h,λe=>⟨λm=>?_,λ⟨c,hc⟩=>by rw[hc];exact mul c⟩⟩
 have j:H (pw n x (e%d)):=by
  have f:d*(e/d)+e%d=e:=Nat.div_add_mod e d
  have q:aM (bZ (pw n x (d*(e/d)))) (pw n x e)=pw n x (e%d):=by
   conv=>lhs;rw[←f]
   have b:=iE X (d*(e/d));rw[f];have:pw n x e=aM (pw n x (d*(e/d))) (pw n x (e%d)):=by rw[←Fy X,f]
   rw[this,←aG b.inv b (iE X _),dL b,bX (iE X _)]
  rw[←q];exact a.mul (a.inv (mul _)) m
 have lt:=Nat.mod_lt e h
 by_cases o:e%d=0
 ·exact Nat.dvd_of_mod_eq_zero o
 ·exact absurd ⟨om,j⟩ (s _ lt)
theorem Td (X:aY n x)(Y:aY n y):aM x y=aM (aM y x) (cU x y):=by
 unfold cU;have b:=X.mul Y;have a:=Y.mul X;rw[←aG a (X.inv.mul Y.inv) b,←aG a X.inv Y.inv,aG Y X X.inv,cG X,aZ Y,cG Y,bX b]
theorem IY (d:dO n M)(c:dO n K)(le: ∀x,K x->M x)(s: ∀x y,M x->M y->K (cU x y))(r:M x)(i:M y): ∀j,∃k,K k/\pw n (aM x y) j=aM (aM (pw n x j) (pw n y j)) k
 |0=>⟨aX n,c.one,by
  show aX n=aM (aM (aX n) (aX n)) (aX n)
  rw[aZ (aY.one n),aZ (aY.one n)]⟩
 |j+1=>by
  obtain⟨k,m,e⟩:=IY d c le s r i j;have X:=d.bF r;have Y:=d.bF i;have t:=c.bF m;have f:=iE X j;have a:=iE Y j;have l:M (pw n y j):=Kc d i j;have U:M (aM (pw n y j) k):=d.mul l (le k m);have v:=s _ _ U r;have u:=c.bF v;have o:=c.mul m v;have b:=c.bF o;have w:=s _ _ (le _ o) i;have q:=c.bF w;refine⟨aM (aM k (cU (aM (pw n y j) k) x)) (cU (aM k (cU (aM (pw n y j) k) x)) y),c.mul o w,?_⟩;show aM (pw n (aM x y) j) (aM x y)=aM (aM (aM (pw n x j) x) (aM (pw n y j) y)) _;rw[e];have h:=d.bF U;rw[aG f a t,←aG (f.mul h) X Y,aG f h X,Td h X];rw[aG X h u,aG a t u];rw[←aG f X (a.mul b),aG (f.mul X) (a.mul b) Y,aG a b Y,Td b Y];rw[←aG a (Y.mul b) q,←aG a Y b,aG (a.mul Y) b q,←aG (f.mul X) (a.mul Y) (b.mul q)]
open Classical in
theorem afS (hp:Zg p)(v:dO n M)(c:dO n H)(Q:cZ H LH)(EM:cZ M LM)(le: ∀x,H x->M x)(cm: ∀x y,M x->M y->H (cU x y))(hx:M x)(nx: ¬H x)(a3:H (pw n x p)):
  ∃H' LH',dO n H'/\cZ H' LH'/\(∀z,H z->H' z)/\(∀z,H' z->M z)/\LH'.length=p*LH.length:=by
 have X:=v.bF hx
 obtain⟨d,d0,U⟩:=aeS c X
 have dp:d=p:=(hp.2 d ((U p).1 a3)).resolve_left λe=>nx (by
  have:=(U 1).2 (by rw[e];exact Nat.dvd_refl _)
  rwa [FQ X] at this)
 subst dp
 have gP: ∀g,(H g∨g=x)->aY n g:=λg h=>h.elim (λh=>c.bF h) λe=>by rw[e];exact X
 have cj: ∀y g,H y->M g->H (aT y g):=λy g u q=>by
  have:=cm y g (le y u) q;rw[oH (c.bF u) (v.bF q)] at this;have t:=c.mul u this;rwa [←aG (c.bF u) (c.bF u).inv (dC (c.bF u) (v.bF q)),cG (c.bF u),bX (dC (c.bF u) (v.bF q))] at t
 obtain⟨H',m⟩: ∃H',bM n (λg=>H g∨g=x)=H':=⟨_,rfl⟩
 have o:dO n H':=by rw[←m];exact bM.cY gP
 have N: ∀z,H' z->M z:=λz f=>by rw[←m] at f;exact bM.le v (λg h=>h.elim (le g) λe=>by rw[e];exact hx) f
 have R: ∀z,H' z-> ∃h i,H h/\z=aM h (pw n x i):=λz f=>by
  rw[←m] at f
  induction f with
  |one=>exact⟨aX n,0,c.one,(aZ (aY.one n)).symm⟩
  | @mul z g _ q J=>
   obtain⟨h,i,l,e⟩:=J;have s:=c.bF l;have P:=iE X i;rcases q with q|rfl
   ·have Gg:=c.bF q
    have mP:M (pw n x i):=Kc v hx i;have w:=cj g _ q (v.inv mP);refine⟨aM h (aT g (bZ (pw n x i))),i,c.mul l w,?_⟩;rw[e];unfold aT;have e2:=inv_inv P;rw[e2];have Y:=P.mul Gg;rw[aG s (Y.mul P.inv) P,aG Y P.inv P,dL P,aZ Y,aG s P Gg]
   ·exact⟨h,i+1,l,by rw[e,aG s P X];rfl⟩
 obtain⟨LH',a5⟩: ∃L,LM.filter (λz=>decide (H' z))=L:=⟨_,rfl⟩
 have W:cZ H' LH':=by
  rw[←a5];exact⟨EM.asc.filter _,λz=>by rw[Rq,EM.mem,Ak];exact⟨λh=>h.2,λh=>⟨N z h,h⟩⟩⟩
 have O: ∀z,H z->H' z:=λz f=>by rw[←m];exact bM.of gP (.inl f)
 have a2: ∀i,H' (pw n x i):=λi=>Kc o (by rw[←m];exact bM.of gP (.inr rfl)) i
 obtain⟨k,r⟩: ∃k:Nat->List Nat->Prop,(λi z=>H (aM z (bZ (pw n x i))))=k:=⟨_,rfl⟩
 have a4: ∀z i j,H' z->k i z->k j z->i<=j->d∣j-i:=λz i j f h1 t a6=>by
  rw[←r] at h1 t;have Z:=o.bF f;have F:=iE X i;have Pj:=iE X j;refine (U _).1 ?_;have h3:=c.mul (c.inv t) h1
  have e:aM (bZ (aM z (bZ (pw n x j)))) (aM z (bZ (pw n x i)))=pw n x (j-i):=by
   have e2:=inv_inv Pj;rw[Av Z Pj.inv,e2,aG Pj Z.inv (Z.mul F.inv),←aG Z.inv Z F.inv,dL Z,bX F.inv];have:pw n x j=aM (pw n x (j-i)) (pw n x i):=by rw[←Fy X];congr 1;omega
   rw[this,aG (iE X _) F F.inv,cG F,aZ (iE X _)]
  rwa [e] at h3
 have a0: ∀j,j<=d->(LH'.filter λz=>decide (∃i,i<j/\k i z)).length=j*LH.length:=by
  intro j
  induction j with
  |zero=>
   intro _;rw[Nat.zero_mul];exact List.length_eq_zero_iff.2 (List.filter_eq_nil_iff.2 λz _=>by simp)
  |succ j J=>
   intro hj;have J:=J om;rw[BF (λz=>decide (∃i,i<j/\k i z)) (LH'.filter λz=>decide (∃i,i<j+1/\k i z)),Nat.succ_mul]
   have a1:(LH'.filter λz=>decide (∃i,i<j+1/\k i z)).filter (λz=>decide (∃i,i<j/\k i z))=LH'.filter λz=>decide (∃i,i<j/\k i z):=by
    rw[List.filter_filter];refine List.filter_congr λz _=>?_
    by_cases h: ∃i,i<j/\k i z
    ·have t: ∃i,i<j+1/\k i z:=by obtain⟨i,h1,t⟩:=h;exact⟨i,om,t⟩
     simp [h,t]
    ·simp [h]
   rw[a1,J];congr 1;have P:=iE X j
   have p:((LH'.filter λz=>decide (∃i,i<j+1/\k i z)).filter λz=>!decide (∃i,i<j/\k i z)).Perm (LH.map λh=>aM h (pw n x j)):=by
    refine (List.perm_ext_iff_of_nodup ((W.nodup.filter _).filter _) ?_).2 λz=>?_
    ·rw[MV,List.pairwise_map]
     refine (MV.1 Q.nodup).imp_of_mem λ{a b} ha hb ne e=>ne ?_
     have A:=c.bF ((Q.mem a).1 ha);have B:=c.bF ((Q.mem b).1 hb);have:=congrArg (λz=>aM z (bZ (pw n x j))) e;rwa [aG A P P.inv,aG B P P.inv,cG P,aZ A,aZ B] at this
    ·rw[Rq,Rq,pH,W.mem,Ak,Bool.not_eq_true',decide_eq_false_iff_not]
     constructor
     ·rintro⟨⟨f,i,hi,w⟩,hn⟩
      have:i=j:=Nat.le_antisymm om (Nat.le_of_not_lt λh=>hn ⟨i,h,w⟩);subst this;rw[←r] at w;have Z:=o.bF f;exact⟨_,(Q.mem _).2 w,by rw[aG Z P.inv P,dL P,aZ Z]⟩
     ·rintro⟨h,l,rfl⟩
      have l:=(Q.mem h).1 l;have s:=c.bF l;have f:H' (aM h (pw n x j)):=o.mul (O h l) (a2 j)
      have cj:k j (aM h (pw n x j)):=by
       rw[←r];show H (aM (aM h (pw n x j)) (bZ (pw n x j)));rw[aG s P P.inv,cG P,aZ s];exact l
      refine⟨⟨f,j,om,cj⟩,λ⟨i,hi,w⟩=>?_⟩;have:=Nat.le_of_dvd om (a4 _ i j f w cj om);omega
   rw[p.length_eq,iA]
 refine⟨H',LH',o,W,O,N,?_⟩
 rw[←a0 d (fN _)]
 congr 1
 refine (List.filter_eq_self.2 λz f=>?_).symm
 refine decide_eq_true ?_
 obtain⟨h,i,l,e⟩:=R z ((W.mem z).1 f)
 have s:=c.bF l
 have P:=iE X (i%d)
 refine⟨i%d,Nat.mod_lt _ d0,?_⟩
 rw[←r,e]
 show H (aM (aM h (pw n x i)) (bZ (pw n x (i%d))))
 have:pw n x i=aM (pw n x (d*(i/d))) (pw n x (i%d)):=by rw[←Fy X,Nat.div_add_mod]
 have P':=iE X (d*(i/d))
 rw[this,aG s (P'.mul P) P.inv,aG P' P P.inv,cG P,aZ P']
 exact c.mul l ((U _).2 ⟨_,rfl⟩)
theorem akO (t:Zg p)(v:dO n M)(c:cZ M LM)(q: ∀x,M x->K (pw n x p))(w: ∀x y,M x->M y->K (cU x y)): ∀(d:Nat) (H:List Nat->Prop) (LH:List (List Nat)),LM.length-LH.length<=d->dO n H->cZ H LH->(∀x,K x->H x)->(∀x,H x->M x)-> ∃k,LM.length=LH.length*p^k:=by
 intro d
 induction d with
 |zero=>
  intro H LH A o a i le;have l:=List.Nodup.length_le_of_subset a.nodup λz f=>(c.mem z).2 (le z ((a.mem z).1 f))
  exact⟨0,by simp;omega⟩
 |succ d ih=>
  intro H LH A o a i le
  by_cases all: ∀x,M x->H x
  ·have O:=List.Nodup.length_le_of_subset a.nodup λz f=>(c.mem z).2 (le z ((a.mem z).1 f))
   have P:=List.Nodup.length_le_of_subset c.nodup λz f=>(a.mem z).2 (all z ((c.mem z).1 f))
   exact⟨0,by simp;omega⟩
  ·obtain⟨x,b⟩:=Classical.not_forall.1 all
   obtain⟨b,nx⟩:=Classical.not_imp.1 b;obtain⟨F,j,r,N,s,m,el⟩:=afS t v o a c le (λx y b L=>i _ (w x y b L)) b nx (i _ (q x b));have pos:0<LH.length:=Rl ((a.mem _).2 o.one);have J:=t.1;have u:2*LH.length<=p*LH.length:=Nat.mul_le_mul_right _ J;obtain⟨k,B⟩:=ih F j om r N (λx h=>s x (i x h)) m;exact⟨k+1,by rw[B,el,Nat.pow_succ,Nat.mul_comm p,Nat.mul_assoc,Nat.mul_comm p]⟩
end
section
variable {n:Nat} {G K M P:List Nat->Prop} {L LK LM LP:List (List Nat)}
open Classical in
theorem XC (a:cZ M LM)(le: ∀x,P x->M x):cZ P (LM.filter λz=>decide (P z)):=
 ⟨a.asc.filter _,λz=>by rw[Rq,a.mem,Ak];exact⟨λh=>h.2,λh=>⟨le z h,h⟩⟩⟩
theorem PU (c:cZ M LM)(b:cZ P LP)(le: ∀x,P x->M x){x:List Nat}(d:M x)(nx: ¬P x):LP.length<LM.length:=by
 have nd:(x::LP).Nodup:=List.nodup_cons.2 ⟨λh=>nx ((b.mem x).1 h),b.nodup⟩
 have:=List.Nodup.length_le_of_subset nd (l₂:=LM) λy a=>by
  rcases vI.1 a with rfl|a
  ·exact (c.mem _).2 d
  ·exact (c.mem y).2 (le y ((b.mem y).1 a))
 rw[List.length_cons] at this;omega
def Tc (P K:List Nat->Prop)(m:List Nat):Prop:= ∃x k,P x/\K k/\m=aM x k
theorem Tc.cY (t:dO n M)(h:dO n P)(i:dO n K)(p: ∀x,P x->M x)(q: ∀y g,K y->M g->K (aT y g)):dO n (Tc P K):=by
 refine⟨λ⟨x,k,d,f,e⟩=>by rw[e];exact (h.bF d).mul (i.bF f),⟨_,_,h.one,i.one,(aZ (aY.one n)).symm⟩,?_,?_⟩
 ·rintro a b ⟨x,k,d,f,rfl⟩ ⟨y,j,m,r,rfl⟩
  have X:=h.bF d;have Y:=h.bF m;have c:=i.bF f;have J:=i.bF r;have o:=q k y f (p y m);refine⟨aM x y,aM (aT k y) j,h.mul d m,i.mul o r,?_⟩;unfold aT;have l:=Y.inv.mul c;rw[aG X c (Y.mul J),←aG c Y J,aG X Y (((l).mul Y).mul J),←aG Y (l.mul Y) J,←aG Y l Y,←aG Y Y.inv c,cG Y,bX c]
 ·rintro a ⟨x,k,d,f,rfl⟩
  have X:=h.bF d;have c:=i.bF f;have o:=q _ _ (i.inv f) (t.inv (p x d));refine⟨bZ x,aT (bZ k) (bZ x),h.inv d,o,?_⟩;unfold aT;rw[inv_inv X,Av X c];have s:=X.mul c.inv;rw[←aG X.inv s X.inv,←aG X.inv X c.inv,dL X,bX c.inv]
theorem Yr {N:List Nat->Prop}(i:dO n M)(d:dO n N)(v: ∀x,N x->M x)(m:dO n K)(c: ∀x,K x->M x)(q: ∀y g,K y->M g->K (aT y g))(b: ∀x,K x->N x)(l: ∀y g,N y->M g->N (aT y g)){x y k j:List Nat}(r:M x)(s:M y)(a:K k)(o:K j)(h:N (cU x y)):N (cU (aM x k) (aM y j)):=by
 have X:=i.bF r;have Y:=i.bF s;have t:=m.bF a;have J:=m.bF o
 have w: ∀k z,K k->M z->N (cU k z):=λk z a f=>by
  rw[oH (m.bF a) (i.bF f)];exact d.mul (d.inv (b k a)) (b _ (q k z a f))
 have p: ∀z k,M z->K k->N (cU z k):=λz k f a=>by
  rw[vV (i.bF f) (m.bF a)];exact d.mul (b _ (q _ _ (m.inv a) f)) (b k a)
 have u:=Y.mul J;rw[wK X t u];refine d.mul (l _ _ ?_ (c k a)) (w k _ a (i.mul s (c j o)));rw[uL X Y J];exact d.mul (p x j r o) (l _ _ h (c j o))
theorem ZD (U:dO n M)(EM:cZ M LM)(o:dO n K)(u: ∀x,K x->M x)(nm: ∀y g,K y->M g->K (aT y g))
  (pf: ∀N:List Nat->Prop,dO n N->(∀x,K x->N x)->(∀x,N x->M x)->(∀x y,M x->M y->N (cU x y))-> ∀x,M x->N x): ∀(d:Nat) (P:List Nat->Prop) (LP:List (List Nat)),LP.length<=d->dO n P->cZ P LP->(∀x,P x->M x)->(∀m,M m->Tc P K m)-> ∃P',dO n P'/\(∀x,P' x->M x)/\(∀m,M m->Tc P' K m)/\Ki n P':=by
 intro d
 induction d with
 |zero=>
  intro P LP hd c B;have:=Rl ((B.mem _).2 c.one);omega
 |succ d ih=>
  intro P LP hd c B l sp
  by_cases p:Ki n P
  ·exact⟨P,c,l,sp,p⟩
  ·obtain⟨N,h⟩:=Classical.not_forall.1 p
   obtain⟨O,h⟩:=Classical.not_imp.1 h;obtain⟨hc,h⟩:=Classical.not_imp.1 h;obtain⟨x,h⟩:=Classical.not_forall.1 h;obtain⟨hx,nx⟩:=Classical.not_imp.1 h
   have F:dO n (λz=>P z/\N z):=⟨λh=>c.bF h.1,⟨c.one,O.one⟩,λa b=>⟨c.mul a.1 b.1,O.mul a.2 b.2⟩,λa=>⟨c.inv a.1,O.inv a.2⟩⟩
   have EQ:=XC (P:=λz=>P z/\N z) B λz h=>h.1
   have ll:=PU B EQ (λz h=>h.1) hx λh=>nx h.2
   have j:=Tc.cY U F o (λz h=>l z h.1) nm
   have A: ∀k,K k->Tc (λz=>P z/\N z) K k:=λk f=>⟨aX n,k,F.one,f,(bX (o.bF f)).symm⟩
   have v: ∀a b,P a->P b->Tc (λz=>P z/\N z) K (cU a b):=λa b i r=>⟨cU a b,aX n,⟨by
    unfold cU
    exact c.mul (c.mul (c.inv i) (c.inv r)) (c.mul i r),hc a b i r⟩,o.one,(aZ (qV (c.bF i) (c.bF r))).symm⟩
   have W: ∀y g,Tc (λz=>P z/\N z) K y->P g->Tc (λz=>P z/\N z) K (aT y g):=λy g ⟨q,k,hq,f,e⟩ s=>by
    rw[e,gX (c.bF hq.1) (o.bF f) (c.bF s)];refine j.mul ?_ (A _ (nm k g f (l g s)));have Q:=c.bF hq.1;have Y:=c.bF s
    have e2:aT q g=aM q (cU q g):=by
     rw[oH Q Y,←aG Q Q.inv (dC Q Y),cG Q,bX (dC Q Y)]
    rw[e2];exact j.mul ⟨q,aX n,hq,o.one,(aZ Q).symm⟩ (v q g hq.1 s)
   have Z: ∀y g,Tc (λz=>P z/\N z) K y->M g->Tc (λz=>P z/\N z) K (aT y g):=λy g hy s=>by
    obtain⟨a,k,i,f,rfl⟩:=sp g s;rw[gW (j.bF hy) (c.bF i) (o.bF f)];have h1:=W y a hy i;have k':=A k f;exact j.mul (j.mul (j.inv k') h1) k'
   have lS: ∀x,Tc (λz=>P z/\N z) K x->M x:=λx ⟨q,k,hq,f,e⟩=>by rw[e];exact U.mul (l q hq.1) (u k f)
   have all:=pf (Tc (λz=>P z/\N z) K) j A lS λa b i r=>by
    obtain⟨p1,k1,t,J,rfl⟩:=sp a i;obtain⟨p2,k2,w,R,rfl⟩:=sp b r;exact Yr U j lS o u nm A Z (l p1 t) (l p2 w) J R (v p1 p2 t w)
   exact ih _ _ om F EQ (λz h=>l z h.1) all
structure Chf (n:Nat)(G K M:List Nat->Prop):Prop where
 gG:dO n G
 gK:dO n K
 gM:dO n M
 le: ∀x,K x->M x
 lG: ∀x,M x->G x
 nK: ∀y g,K y->G g->K (aT y g)
 nM: ∀y g,M y->G g->M (aT y g)
 ne: ∃x,M x/\ ¬K x
 min: ∀N:List Nat->Prop,dO n N->(∀x,K x->N x)->(∀x,N x->M x)->(∀y g,N y->G g->N (aT y g))->(∃x,N x/\ ¬K x)-> ∀x,M x->N x
theorem Chf.two (c:Chf n G K M):(∀x y,M x->M y->K (cU x y))∨ ∀N:List Nat->Prop,dO n N->(∀x,K x->N x)->(∀x,N x->M x)->(∀x y,M x->M y->N (cU x y))-> ∀x,M x->N x:=by
 by_cases h: ∀x y,M x->M y->K (cU x y)
 ·exact .inl h
 ·right
  intro N t v w u
  have a: ∀z,(K z∨ ∃p q,M p/\M q/\z=cU p q)->aY n z:=λz j=>by
   rcases j with h|⟨p,q,d,i,rfl⟩
   ·exact c.gK.bF h
   ·exact qV (c.gM.bF d) (c.gM.bF i)
  have r:=bM.cY a
  have o: ∀x,bM n (λz=>K z∨ ∃p q,M p/\M q/\z=cU p q) x->N x:=λx b=>bM.le t (λg f=>by
   rcases f with h|⟨p,q,d,i,rfl⟩
   ·exact v g h
   ·exact u p q d i) b
  have s: ∀y g,bM n (λz=>K z∨ ∃p q,M p/\M q/\z=cU p q) y->G g->bM n (λz=>K z∨ ∃p q,M p/\M q/\z=cU p q) (aT y g):=λy g m f=>by
   have l:=c.gG.bF f
   induction m with
   |one=>rw[mN l];exact .one
   | @mul z k j hk ih=>
    rw[gX (j.bF a) (a k hk) l];refine r.mul ih ?_;rcases hk with h|⟨p,q,d,i,rfl⟩
    ·exact bM.of a (.inl (c.nK k g h f))
    ·rw[Dd (c.gM.bF d) (c.gM.bF i) l]
     exact bM.of a (.inr ⟨_,_,c.nM p g d f,c.nM q g i f,rfl⟩)
  have:=c.min (bM n (λz=>K z∨ ∃p q,M p/\M q/\z=cU p q)) r (λx h=>bM.of a (.inl h)) (λx b=>w x (o x b)) s (by
   obtain⟨x,h⟩:=Classical.not_forall.1 h;obtain⟨y,h⟩:=Classical.not_forall.1 h;obtain⟨b,h⟩:=Classical.not_imp.1 h;obtain⟨m,h⟩:=Classical.not_imp.1 h
   exact⟨_,bM.of a (.inr ⟨x,y,b,m,rfl⟩),h⟩)
  exact λx b=>o x (this x b)
theorem Chf.comm (c:Chf n G K M)(J:cZ K LK)(A:cZ M LM)(F: ∀x y,M x->M y->K (cU x y)): ∃p k,Zg p/\0<k/\LM.length=LK.length*p^k/\ ∃x,M x/\p∣oJ x n:=by
 obtain⟨x,q,nx⟩:=c.ne;have X:=c.gM.bF q;obtain⟨d,d0,o⟩:=aeS c.gK X
 have d1:d≠1:=λe=>nx (by
  have:=(o 1).2 (by rw[e];exact Nat.dvd_refl _)
  rwa [FQ X] at this)
 obtain⟨p,s,t,m⟩:=WI (show 1<d by omega);have p1:=s.1;have Q:0<t:=Nat.pos_of_ne_zero λe=>by rw[e,Nat.mul_zero] at m;omega
 have N:M (pw n x t):=Kc c.gM q t;have Y:=c.gM.bF N
 have W: ¬K (pw n x t):=λh=>by
  have:=Nat.le_of_dvd Q ((o t).1 h);rw[m] at this;have:=Nat.mul_le_mul_right t p1;omega
 have R:K (pw n (pw n x t) p):=by
  rw[IW X];exact (o _).2 (by rw[m,Nat.mul_comm];exact Nat.dvd_refl _)
 have f: ∀z,(K z∨ ∃g,G g/\z=aT (pw n x t) g)->aY n z:=λz a=>by
  rcases a with h|⟨g,b,rfl⟩
  ·exact c.gK.bF h
  ·exact dC Y (c.gG.bF b)
 have B:=bM.cY f
 have u: ∀z,bM n (λz=>K z∨ ∃g,G g/\z=aT (pw n x t) g) z->M z:=λz a=>bM.le c.gM (λz a=>by
  rcases a with h|⟨g,b,rfl⟩
  ·exact c.le z h
  ·exact c.nM _ g N b) a
 have Z: ∀z g,bM n (λz=>K z∨ ∃g,G g/\z=aT (pw n x t) g) z->G g->bM n (λz=>K z∨ ∃g,G g/\z=aT (pw n x t) g) (aT z g):=λz g a b=>by
  have v:=c.gG.bF b
  induction a with
  |one=>rw[mN v];exact .one
  | @mul z k a i ih=>
   rw[gX (a.bF f) (f k i) v];refine B.mul ih ?_;rcases i with h|⟨g',l,rfl⟩
   ·exact bM.of f (.inl (c.nK k g h b))
   ·rw[←gW Y (c.gG.bF l) v]
    exact bM.of f (.inr ⟨_,c.gG.mul l b,rfl⟩)
 have all:=c.min _ B (λx h=>bM.of f (.inl h)) u Z ⟨pw n x t,by
  refine bM.of f (.inr ⟨aX n,c.gG.one,(iZ Y).symm⟩),W⟩
 have w: ∀z,M z->K (pw n z p):=λz a=>by
  have r:=all z a;clear a
  induction r with
  |one=>
   have: ∀j,pw n (aX n) j=aX n:=λj=>by
    induction j with
    |zero=>rfl
    |succ j ih=>
     show aM (pw n (aX n) j) (aX n)=_;rw[ih,aZ (aY.one n)]
   rw[this];exact c.gK.one
  | @mul z k a i ih=>
   have O:M k:=u k (bM.of f i);obtain⟨j,U,e⟩:=IY c.gM c.gK c.le F (u z a) O p;rw[e];refine c.gK.mul (c.gK.mul ih ?_) U;rcases i with h|⟨g,b,rfl⟩
   ·exact Kc c.gK h p
   ·rw[←IJ Y (c.gG.bF b)]
    exact c.nK _ _ R b
 obtain⟨k,i⟩:=akO s c.gM A w F _ K LK (fN _) c.gK J (λ_ h=>h) c.le;refine⟨p,k,s,Nat.pos_of_ne_zero λe=>?_,i,x,q,Nat.dvd_trans ⟨t,m⟩ ((o _).1 (by rw[(Aw X _).1 (Nat.dvd_refl _)];exact c.gK.one))⟩;rw[e,Nat.pow_zero,tW] at i;have:=PU A J c.le q nx;omega
theorem Chf.akK (n0:TF n)(n6:n<=6)(c:Chf n G K M)(t:cZ K LK)(Q:cZ M LM)(pf: ∀N:List Nat->Prop,dO n N->(∀x,K x->N x)->(∀x,N x->M x)->(∀x y,M x->M y->N (cU x y))-> ∀x,M x->N x):LM.length=LK.length*60∨LM.length=LK.length*360:=by
 have U: ∀y g,K y->M g->K (aT y g):=λy g W R=>c.nK y g W (c.lG g R)
 obtain⟨P,f,Y,sp,p⟩:=ZD c.gM Q c.gK c.le U pf _ M LM (fN _) c.gM Q (λ_ h=>h) λm hm=>⟨m,aX n,hm,c.gK.one,(aZ (c.gM.bF hm)).symm⟩
 have EP:=XC Q Y
 obtain⟨LP,i⟩: ∃LP,cZ P LP:=⟨_,EP⟩
 obtain⟨x,hx,nx⟩:=c.ne;rcases n0 f i p with h|⟨F,a0⟩
 ·exfalso
  obtain⟨q,k,hq,d,e⟩:=sp x hx;rw[h q hq,bX (c.gK.bF d)] at e;exact nx (by rw[e];exact d)
 ·have hQ:dO n (λz=>P z/\K z):=⟨λh=>f.bF h.1,⟨f.one,c.gK.one⟩,λa b=>⟨f.mul a.1 b.1,c.gK.mul a.2 b.2⟩,λa=>⟨f.inv a.1,c.gK.inv a.2⟩⟩
  rcases a0 (λz=>P z/\K z) hQ (λz h=>h.1) (λy g W R=>⟨f.mul (f.mul (f.inv R) W.1) R,U y g W.2 (Y g R)⟩) with h|h
  ·have inj: ∀a b k j,P a->P b->K k->K j->aM a k=aM b j->a=b/\k=j:=λa b k j r s d O e=>by
    have A:=f.bF r;have B:=f.bF s;have o:=c.gK.bF d;have J:=c.gK.bF O
    have e1:aM (bZ b) a=aM j (bZ k):=by
     have:=congrArg (λz=>aM (aM (bZ b) z) (bZ k)) e;rwa [←aG B.inv A o,aG (B.inv.mul A) o o.inv,cG o,aZ (B.inv.mul A),←aG B.inv B J,dL B,bX J] at this
    have h1:=h (aM (bZ b) a) ⟨f.mul (f.inv s) r,by rw[e1];exact c.gK.mul O (c.gK.inv d)⟩
    have ea:a=b:=by
     have:=congrArg (aM b) h1;rwa [←aG B B.inv A,cG B,bX A,aZ B] at this
    refine⟨ea,?_⟩;rw[h1] at e1;have:=congrArg (λz=>aM z k) e1;rwa [bX o,aG J o.inv o,dL o,aZ J] at this
   have pm:LM.Perm (LP.flatMap λa=>LK.map (aM a)):=by
    refine (List.perm_ext_iff_of_nodup Q.nodup ?_).2 λz=>?_
    ·have w: ∀l:List (List Nat),l.Nodup->(∀a∈l,P a)->(l.flatMap λa=>LK.map (aM a)).Nodup:=by
      intro l
      induction l with
      |nil=>exact λ_ _=>List.Pairwise.nil
      |cons a l ih=>
       intro nd F;obtain⟨na,nd⟩:=List.nodup_cons.1 nd;rw[List.flatMap_cons,List.nodup_append];refine⟨?_,ih nd λb s=>F b (wI _ s),λu hu v hv e=>?_⟩
       ·rw[MV,List.pairwise_map]
        exact (MV.1 t.nodup).imp_of_mem λ{k j} d O ne e=>ne (inj a a k j (F a tQ) (F a tQ) ((t.mem k).1 d) ((t.mem j).1 O) e).2
       ·obtain⟨k,d,rfl⟩:=pH.1 hu
        obtain⟨b,s,hv⟩:=List.mem_flatMap.1 hv;obtain⟨j,O,rfl⟩:=pH.1 hv;have:=(inj a b k j (F a tQ) (F b (wI _ s)) ((t.mem k).1 d) ((t.mem j).1 O) e).1;rw[this] at na;exact na s
     exact w LP i.nodup λa r=>(i.mem a).1 r
    ·rw[Q.mem,List.mem_flatMap]
     constructor
     ·intro Z
      obtain⟨a,k,r,d,e⟩:=sp z Z;exact⟨a,(i.mem a).2 r,pH.2 ⟨k,(t.mem k).2 d,e.symm⟩⟩
     ·rintro⟨a,r,Z⟩
      obtain⟨k,d,rfl⟩:=pH.1 Z;exact c.gM.mul (Y a ((i.mem a).1 r)) (c.le k ((t.mem k).1 d))
   have ll:LM.length=LK.length*LP.length:=by
    rw[pm.length_eq]
    have w: ∀l:List (List Nat),(l.flatMap λa=>LK.map (aM a)).length=LK.length*l.length:=λl=>by
     induction l with
     |nil=>rfl
     |cons a l ih=>rw[List.flatMap_cons,iV,ih,iA,List.length_cons,Nat.mul_succ,Nat.add_comm]
    exact w LP
   rw[ll];exact F.imp (λe=>by rw[e]) λe=>by rw[e]
  ·exfalso
   obtain⟨q,k,hq,d,e⟩:=sp x hx;exact nx (by rw[e];exact c.gK.mul (h q hq).2 d)
theorem CF {O r:List Nat}{rs:List (List Nat)}(m:dO n G)(E:cZ G L)(c:Ec n G L O rs r)(o:Ab n G L O){i:Nat}(hi:i+1<rs.length):Chf n G (RG L rs[i]) (RG L rs[i+1]):=by
 have l:=c.all _ (xG (show i<rs.length by omega));have f:=c.all _ (xG hi);obtain⟨h1,h2⟩:=c.st i _ _ (dD om) (dD hi);obtain⟨⟨j,U,hn,e⟩,_,a0,W⟩:=Cz m E l o h1;rw[←h2] at e W;have g:=Dr l (o.lt U) hn;rw[←e] at g;refine⟨m,l.cY,f.cY,λx ⟨t,d,e⟩=>⟨t,g.1 t d,e⟩,f.le,λy g Q B=>l.nm y g Q B,λy g Q B=>f.nm y g Q B,⟨_,⟨j,g.2.1,rfl⟩,λ⟨t,d,e⟩=>hn (by rw[←wU E.nodup ((l.rk.mem t).1 d).1 (o.lt U) e];exact d)⟩,?_⟩;intro N hN kN nM Y ⟨x,Z,nx⟩ z hz;have q:=f.le x (nM x Z);obtain⟨t,d,ex⟩:=Ad.1 ((E.mem x).2 q);have F:L.getD t []=x:=by rw[List.getD,dD d];exact ex
 obtain⟨s,hs,hR,g',k,v⟩:=Px m E d;have sK:s∈O:=o.perm.mem_iff.2 (jY.2 ⟨om,hR⟩);have S:=lE m E (show s<L.length by omega);rw[F] at v
 have R:N (L.getD s []):=by
  have:=Y x _ Z (m.inv k);rwa [←v,jA S (m.bF k)] at this
 have ns:s∉rs[i]:=λh=>nx (by
  rw[←v]
  exact l.nm _ _ ⟨s,h,rfl⟩ k)
 have ov: ∀u∈Ai n G L rs[i] s,u∈rs[i+1]:=λu p=>by
  obtain⟨h3,w⟩:=(xF u).1 p;have:RG L rs[i+1] (L.getD u []):=NC.le w f.cY (λa h=>h.elim (λ⟨t,d,e⟩=>⟨t,g.1 t d,e⟩) λe=>by rw[e];exact nM _ R) λa b J A=>f.nm a b J A
  exact (f.rk.mem u).2 ⟨h3,this⟩
 have e2:=W s sK ns ov;obtain⟨u,p,rfl⟩:=hz;rw[←e2] at p;obtain⟨_,w⟩:=(xF u).1 p;exact NC.le w hN (λa h=>h.elim (kN a) λe=>by rw[e];exact R) λa b J A=>Y a b J A
end
theorem Qq {W:Nat->Prop}(vc:V)(n:Nat)(O:LN)(R:jJ)(G:List Nat->Prop)(h:H)(r:GC W h vc n O R G):
  Ev T 42 [vc] h (λv h'=>v= aC (iW O n 0:Nat)/\Fr h h'):=by
 obtain⟨N,vR,l,a0,rfl,J,oO,Q,sR,oR,aR⟩:=r.cw
 refine dW Gw rfl ?_
 have f:=(SV.cT J).2.1
 have t:=(SV.cT sR).2.1
 have c:=r.isc
 have n7:=r.n7
 have a1:=jE r
 have lO:=aN.length Q
 rw[c.lo] at lO
 obtain⟨B,Z⟩:=exI h.next
 obtain⟨P,e1,n1,g1,o1,x⟩:=dK Z [aC n,N,vR]
 have k:bL N=some (aC n):=by unfold bL;rw[SV.len J (n:=n) om om];rfl
 obtain⟨z,o,F,p,cO⟩:=SV.shape J n om om
 simp(disch:=omega)only[go_sem,Gw,aE,bV h (v:= aC n) (u:=N) (w:=vR) rfl f t,Z,e1]
 refine aI (λY b A=> ∃(i a:Nat),(∃g:Nat->V,b= [g 0,.ptr B 0,g 2,aC a,aC i,g 5])/\i<=n/\a*iW O (n-i) i=iW O n 0/\A=P/\Y=n-i) n
  ⟨0,1,aB rfl,iB _,by rw[Nat.one_mul];rfl,rfl,rfl⟩ ?_
 rintro Y b A ⟨i,a,⟨g,rfl⟩,hi,d,rfl,rfl⟩
 by_cases s:(i:Int)<(n:Int)
 case neg=>
  have y:=bI s;obtain rfl:i=n:=om
  simp(disch:=omega)only[go_sem,H.aF g1,k,y];rw[Nat.sub_self] at d;have:iW O 0 i=1:=rfl;rw[this,tW] at d;exact⟨by rw[d],x⟩
 have y:=cI s
 have q:i<n:=om
 have K:=aN.get Q i om (by rw[c.lo];exact q)
 rw[show O[i]'(by rw[c.lo];exact q)=O.getD i [] from sD _] at K
 have U:A.cell z (o+i)=some (l[i]'om):=by
  rw[x.cell (p om),cO i om,dD om]
 generalize l[i]'om=vo at K U
 have L:=(K.si.mono x).lens
 rw[aS] at L
 have st:iW O (n-i) i=(O.getD i []).length*iW O (n-(i+1)) (i+1):=by
  rw[show n-i=(n-(i+1))+1 by omega];rfl
 have pos:=Mz (O:=O) (n-(i+1)) (i+1) (λj P h2=>(r.row om).1)
 obtain⟨m,hm⟩:=exI ((O.getD i []).length)
 rw[st,←Nat.mul_assoc,hm] at d
 rw[hm] at L
 have bd:a*m<=iW O n 0:=by rw[←d];exact Nat.le_mul_of_pos_right _ pos
 have em:(a:Int)*(m:Int)=((a*m:Nat):Int):=rfl
 obtain⟨w,hw⟩:=exI (a*m)
 rw[hw] at em bd d
 simp(disch:=omega)only[go_sem,H.aF g1,k,y,F.ixa,U,L,em]
 rw[fJ i]
 exact⟨n-(i+1),om,i+1,w,aB rfl,om,d,rfl⟩
theorem adY {h:H}{id o:Nat}{a b c:V}(r:h.row id o 3=some [a,b,c]):h.cell id (o+1)=some b:=by
 unfold H.row at r;unfold H.cell;split at r
 ·rename_i f d e
  rw[e];simp only[sub] at r;split at r
  ·have r:=Option.some.inj r
   have:=congrArg (λl:List V=>l[1]?) r;simp at this;exact this
  ·cases r
 ·cases r
theorem lZ {W:Nat->Prop}(x B:V)(n:Nat)(ls:List (V×V))(l:List jZ)(a:List Nat)(h:H)(sv:SV h x 3 (Mj n ls))(al:aN (λp (e:jZ)=> ∃G,GC W h (.agg [aC n,p.1,p.2]) n e.1 e.2 G) ls l)(l6:l.length<=6000)(U:SI h B (zi a))(O:l.map (λe=>iW e.1 n 0)=a):
  Ev T 29 [x,aC 0,B] h (λv h'=>v= .bool true/\Fr h h'):=by
 refine dW Es rfl ?_
 have la:=aN.length al
 have N:a.length=l.length:=by rw[←O,iA]
 have K:bL x=some (aC (l.length:Int)):=by unfold bL;rw[SV.len sv (n:=l.length) (by rw[jP,la]) om];rfl
 have r:=U.lens
 rw[aS,N] at r
 have d0:decide ((0:Int)≠0)=false:=rfl
 have d1:decide ((l.length:Int)≠(l.length:Int))=false:=bI λh=>h rfl
 obtain⟨s,j,u,c,w⟩:=U.open
 rw[aS,N] at u c w
 simp(disch:=omega)only[go_sem,Es,aE,d0,K,r,d1]
 refine aI (λP f m=> ∃(i:Nat),(∃g:Nat->V,f= [x,aC 0,B,g 3,aC i,g 5,g 6,g 7])/\i<=l.length/\Fr h m/\P=l.length-i) l.length
  ⟨0,aB rfl,iB _,Fr.refl h,rfl⟩ ?_
 rintro P f m ⟨i,⟨g,rfl⟩,hi,F,rfl⟩
 by_cases t:(i:Int)<(l.length:Int)
 case neg=>
  have y:=bI t;simp(disch:=omega)only[go_sem,K,y];exact F
 have y:=cI t
 have o:i<l.length:=om
 obtain⟨r1,o1,z,A⟩:=My (sv.mono F) (i:=i) om
 obtain⟨G1,b⟩:=aN.get al i om o
 have q:a.getD i 0=iW l[i].1 n 0:=by rw[←O,List.getD,Qy,dD o];rfl
 generalize ls[i]'om=p1 at A b
 generalize l[i]=e at b q
 have R:m.cell s (j+i)=some (aC (iW e.1 n 0:Nat)):=by
  rw[F.cell (c om),w i o,←q];congr 2;exact oI (λk:Nat=>(k:Int)) (d:=0) om
 have lp:bL p1.1=some (aC n):=by
  obtain⟨vO,vR,a1,a0,Q,sO,oO,pO,_⟩:=b.cw;simp only[V.agg.injEq,List.cons.injEq,true_and,and_true] at Q;rw[Q.1];have Y:=aN.length pO;rw[b.isc.lo] at Y;unfold bL;rw[SV.len sO (n:=n) om om];rfl
 have Z:decide ((n:Int)=0)=false:=bI (by have:=b.n0;omega)
 have d4:decide (((iW e.1 n 0:Nat):Int)≠((iW e.1 n 0:Nat):Int))=false:=bI λh=>h rfl
 have L:Fr m (H.mk m.tr (m.next+19)):=(Fr.refl m).bH om
 simp(disch:=omega)only[go_sem,K,y,z.ixa,adY A,lp,Z,A,u.ixa,R]
 refine (Qq _ n e.1 e.2 G1 _ (b.mono (F.trans L))).mono ?_
 rintro _ h2 ⟨rfl,f2⟩
 have F2:=L.trans f2
 have J:h2.cell s (j+i)=some (aC (iW e.1 n 0:Nat)):=by rw[F2.cell (by have:=c om;have:=F.next;omega)];exact R
 simp(disch:=omega)only[go_sem,J,d4,dI]
 refine⟨by simp,?_⟩
 rw[fJ i]
 exact⟨l.length-(i+1),om,i+1,aB rfl,om,F.trans F2,rfl⟩
section
variable {L rs:LN} {K:List Nat}
def aiC (h:H)(neg:Bool)(x y:V):Option (V×H):=match x,y with
 | .str a,.str b=>some (.bool (if neg then !(a.map (· %256)==b.map (· %256)) else a.map (· %256)==b.map (· %256)),h)
 |_,_=>none
theorem aaZ (ρ:X->V)(h:H)(neg:Bool)(x y:X):fC ρ h (.seq neg x y)=aiC h neg (ρ x) (ρ y):=by
 simp only[fC,aiC]
 rfl
theorem RH (h:H)(a:List Nat):aiC h true (.str a) (.str a)=some (.bool false,h):=by
 show some (V.bool (!(_==_)),h)=_;rw[beq_self_eq_true];rfl
theorem Vu (f j:V)(l:LN)(h:H)(B:l.length<1000000)(q:SV h f 1 (l.map V.str))(r:SV h j 1 (l.map V.str)):
  Ev T 17 [f,j] h (λv h'=>v= .bool true/\Fr h h'):=by
 refine dW wE rfl ?_
 have d:(l.map V.str).length=l.length*1:=by rw[iA];omega
 have k:bL f=some (aC (l.length:Int)):=by unfold bL;rw[SV.len q d om];rfl
 have lb:bL j=some (aC (l.length:Int)):=by unfold bL;rw[SV.len r d om];rfl
 have y:decide ((l.length:Int)≠(l.length:Int))=false:=bI λh=>h rfl
 simp(disch:=omega)only[go_sem,wE,aE,k,lb,y]
 refine aI (λu a b=> ∃(i:Nat),(∃g:Nat->V,a= [f,j,g 2,aC i,g 4,g 5,g 6])/\i<=l.length/\Fr h b/\u=l.length-i) l.length
  ⟨0,aB rfl,iB _,Fr.refl h,rfl⟩ ?_
 rintro u a b ⟨i,⟨g,rfl⟩,hi,F,rfl⟩
 by_cases c:(i:Int)<(l.length:Int)
 case neg=>
  have o:=bI c;simp(disch:=omega)only[go_sem,k,o];exact F
 have o:=cI c
 have p:i<l.length:=om
 obtain⟨N,A,m,_,x⟩:=(q.mono F).shape l.length d om
 obtain⟨G,J,n,_,z⟩:=(r.mono F).shape l.length d om
 have s:=x i om
 have t:=z i om
 rw[Qy,dD p] at s t
 have w:Fr b (H.mk b.tr (b.next+9)):=(Fr.refl b).bH om
 simp(disch:=omega)only[go_sem,k,o,m.ixa,s,n.ixa,t,aaZ,RH]
 rw[fJ i]
 exact⟨l.length-(i+1),om,i+1,aB rfl,om,F.trans w,rfl⟩
theorem Vp {W:Nat->Prop}(k f:V)(n:Nat)(O:LN)(R:jJ)(G:List Nat->Prop)(a:LN)(h:H)(b:GC W h k n O R G)(J:SV h f 1 (a.map V.str))(B: ∀L K rs,cZ G L->Ab n G L K->zC n G L K rs->Dv rs=a):
  Ev T 45 [k,f] h (λv h'=>v= .bool true/\Fr h h'):=by
 obtain⟨m,i,rfl,x,t⟩:=b.shape
 refine dW Aa rfl ?_
 obtain⟨A,j⟩:=exI h.next
 obtain⟨o,N,Q,p,P,c⟩:=dK j [aC n,m,i]
 simp(disch:=omega)only[go_sem,Aa,aE,bV h (v:= aC n) (u:=m) (w:=i) rfl x t,j,N,aJ p]
 refine (Fw _ n O R G o (b.mono c)).mono ?_
 rintro _ F ⟨s,L,K,rs,rfl,y,q,z,sv,d,l⟩
 have E:=(dB b.cY b.isc).1
 rw[y] at E
 have e:=B L K rs E q z
 rw[e] at sv d
 simp(disch:=omega)only[go_sem,eq_self,decide_true]
 refine (Vu s f a F om sv (J.mono (c.trans l))).mono ?_
 rintro _ U ⟨rfl,r⟩
 simp(disch:=omega)only[go_sem]
 exact c.trans (l.trans r)
theorem Yn {n:Nat}(h:n<=9):tI n= [48+n]:=by unfold tI;rw[bU om]
theorem afX (E:cZ (bM 4 (· ∈FC)) L)(a:Ab 4 (bM 4 (· ∈FC)) L K)(b:zC 4 (bM 4 (· ∈FC)) L K rs):Dv rs= [[67,50], [67,50], [67,50], [67,51]]:=by
 obtain rfl:=E.uniq Ao;rw[TL b a];have e:Dv=λrs=>(Ke (kY (rs.map List.length))).map Prod.snd:=rfl
 rw[e];simp [kY,fY,Du,BO,FE,Ke,yX,Yn,List.replicate]
theorem afD (E:cZ (bM 4 (· ∈Jx)) L)(a:Ab 4 (bM 4 (· ∈Jx)) L K)(b:zC 4 (bM 4 (· ∈Jx)) L K rs):Dv rs= [[67,50], [67,50]]:=by
 obtain rfl:=E.uniq Bu;unfold Dv;rw[afW b a];simp [kY,fY,Du,BO,FE,Ke,yX,Yn,List.replicate]
theorem agQ (E:cZ (bM 5 (· ∈FT)) L)(a:Ab 5 (bM 5 (· ∈FT)) L K)(b:zC 5 (bM 5 (· ∈FT)) L K rs):Dv rs= [[65,53]]:=by
 obtain rfl:=E.uniq uI;unfold Dv;rw[afE b a];simp [kY,fY,Du,BO,FE,Ke,yX,Gm]
end
theorem ahN (h:H)(x y z w:List Nat):mH h 1 [.str []] 4 [(0,1,.str x),(1,1,.str y),(2,1,.str z),(3,1,.str w)]=some (.sl h.next 0 4 (.kn 4),h.new (.cells false [.str x,.str y,.str z,.str w])):=rfl
theorem agY (h:H)(x y:List Nat):mH h 1 [.str []] 2 [(0,1,.str x),(1,1,.str y)]=some (.sl h.next 0 2 (.kn 2),h.new (.cells false [.str x,.str y])):=rfl
theorem ahD (h:H)(x:List Nat):mH h 1 [.str []] 1 [(0,1,.str x)]=some (.sl h.next 0 1 (.kn 1),h.new (.cells false [.str x])):=rfl
theorem CK (h:H):Ev T 11 [] h (λv h'=>v= .bool true/\Fr h h'):=by
 refine dW Em rfl ?_;simp(disch:=omega)only[go_sem,Em,aE];refine (Ls h).mono ?_;rintro _ h1 ⟨c0,c1,c2,c3,O0,R0,O1,R1,O2,R2,O3,R3,rfl,c,B,l,r,f1⟩;obtain⟨p0,Z,rfl,a0,b0⟩:=c.shape;obtain⟨p1,q1,rfl,a1,b1⟩:=B.shape;obtain⟨p2,q2,rfl,a2,b2⟩:=l.shape;obtain⟨p3,q3,rfl,a3,b3⟩:=r.shape;obtain⟨A,hA⟩:=exI h1.next;obtain⟨k1,e1,n1,g1,o1,F1⟩:=dK hA [aC 0,.aD,.aD];obtain⟨k2,e2,n2,g2,o2,F2⟩:=dK n1 [aC 0,.aD,.aD];obtain⟨k3,e3,n3,g3,o3,F3⟩:=dK n2 [aC 0,.aD,.aD];obtain⟨s,e4,n4,g4,P,F4⟩:=dK n3 [aC 0,.aD,.aD];have z1:s.get A=bB [aC 0,.aD,.aD]:=by rw[P _ om,o3 _ om,o2 _ om];exact g1
 have z2:s.get (A+1)=bB [aC 0,.aD,.aD]:=by rw[P _ om,o3 _ om];exact g2
 have z3:s.get (A+1+1)=bB [aC 0,.aD,.aD]:=by rw[P _ om];exact g3
 obtain⟨k5,e5,n5,g5,F⟩:=mV s A [aC (4:Nat),p0,Z];obtain⟨k6,e6,n6,g6,O⟩:=mV k5 (A+1) [aC (4:Nat),p1,q1];obtain⟨k7,e7,n7,g7,J⟩:=mV k6 (A+1+1) [aC (4:Nat),p2,q2];obtain⟨d,e8,n8,g8,N⟩:=mV k7 (A+1+1+1) [aC (5:Nat),p3,q3];have y2:k5.get (A+1)=bB [aC 0,.aD,.aD]:=by rw[F _ om];exact z2
 have y3:k6.get (A+1+1)=bB [aC 0,.aD,.aD]:=by rw[O _ om,F _ om];exact z3
 have y4:k7.get (A+1+1+1)=bB [aC 0,.aD,.aD]:=by rw[J _ om,O _ om,F _ om];exact g4
 have b:Fr h1 d:=⟨om,λq hq=>by rw[N q om,J q om,O q om,F q om,P q om,o3 q om,o2 q om,o1 q om]⟩
 have r1: ∀a,Fr d a->a.row A 0 3=some [aC (4:Nat),p0,Z]:=λa f=>aJ (by rw[f.get A om,N _ om,J _ om,O _ om];exact g5)
 have r2: ∀a,Fr d a->a.row (A+1) 0 3=some [aC (4:Nat),p1,q1]:=λa f=>aJ (by rw[f.get _ om,N _ om,J _ om];exact g6)
 have r3: ∀a,Fr d a->a.row (A+1+1) 0 3=some [aC (4:Nat),p2,q2]:=λa f=>aJ (by rw[f.get _ om,N _ om];exact g7)
 have r4: ∀a,Fr d a->a.row (A+1+1+1) 0 3=some [aC (5:Nat),p3,q3]:=λa f=>aJ (by rw[f.get _ om];exact g8)
 simp(disch:=omega)only[go_sem,hA,e1,n1,e2,n2,e3,n3,e4,cF s A 0 (v:= aC (4:Nat)) (u:=p0) (w:=Z) rfl a0 b0,z1,cH,e5,cF k5 (A+1) 0 (v:= aC (4:Nat)) (u:=p1) (w:=q1) rfl a1 b1,y2,e6,cF k6 (A+1+1) 0 (v:= aC (4:Nat)) (u:=p2) (w:=q2) rfl a2 b2,y3,e7,cF k7 (A+1+1+1) 0 (v:= aC (5:Nat)) (u:=p3) (w:=q3) rfl a3 b3,y4,e8,r1 d (Fr.refl _)];refine (vA _ 4 O0 R0 _ d (c.mono b)).mono ?_;rintro _ h2 ⟨v2,a9,l2,rfl,s2,a6,uU,f2⟩;simp(disch:=omega)only[go_sem,r3 h2 f2];refine (Pe _ 4 O2 R2 _ h2 (l.mono (b.trans f2))).mono ?_;rintro _ h3 ⟨v3,a5,l3,rfl,s3,b8,Q,f3⟩;have w2:=Xj c.isc uU;have w3:=Zp l.isc Q;have L2:l2.length<=6000:=by have:=congrArg List.length w2;rw[iA] at this;rw[this];decide
 have L3:l3.length<=6000:=by have:=congrArg List.length w3;rw[iA] at this;rw[this];decide
 obtain⟨h4,a7,e9,c8,d1,f4⟩:=dK (h:=h3) rfl (ints [24,12,4,1]);have o:=f3.trans f4;simp(disch:=omega)only[go_sem,Gh,a7];have b4: ∀q,Fr d q->Fr h q:=λq f=>f1.trans (b.trans f)
 refine (lZ v2 _ 4 a9 l2 [24,12,4,1] h4 (s2.mono o) (aN.mono (λ_ _ ⟨G,g,_⟩=>⟨G,g.mono o⟩) a6) L2 (SV.all rfl om c8 _) w2).mono ?_;rintro _ h5 ⟨rfl,f5⟩;obtain⟨h6,b5,d2,c7,d5,f6⟩:=dK (h:=h5) rfl (ints [8,2,1]);have R:=f5.trans f6;have m:=f4.trans R;simp(disch:=omega)only[go_sem,RT,b5];refine (lZ v3 _ 4 a5 l3 [8,2,1] h6 (s3.mono m) (aN.mono (λ_ _ ⟨G,g,_⟩=>⟨G,g.mono m⟩) b8) L3 (SV.all rfl om c7 _) w3).mono ?_;rintro _ Y ⟨rfl,f7⟩;have n:Fr d Y:=f2.trans (f3.trans (m.trans f7));obtain⟨h8,d0,d7,c6,d8,f8⟩:=dK (h:=Y) rfl [.str [67,50],.str [67,50],.str [67,50],.str [67,51]];have y:=n.trans f8;simp(disch:=omega)only[go_sem,r1 Y n,ahN,d0];refine (Vp _ _ 4 O0 R0 _ [[67,50], [67,50], [67,50], [67,51]] h8 (c.mono (b.trans y)) (SV.all (len:=4) rfl om c6 _) λL K rs E z t=>afX E z t).mono ?_;rintro _ h9 ⟨rfl,f9⟩;have x:=y.trans f9;obtain⟨a4,b6,d4,c9,d3,W⟩:=dK (h:=h9) rfl [.str [67,50],.str [67,50]];have k:=x.trans W;simp(disch:=omega)only[go_sem,r2 h9 x,agY,b6];refine (Vp _ _ 4 O1 R1 _ [[67,50], [67,50]] a4 (B.mono (b.trans k)) (SV.all (len:=2) rfl om c9 _) λL K rs E z t=>afD E z t).mono ?_;rintro _ p ⟨rfl,c4⟩;have i:=k.trans c4;obtain⟨U,a8,d9,b9,e0,b7⟩:=dK (h:=p) rfl [.str [65,53]];have j:=i.trans b7;simp(disch:=omega)only[go_sem,r4 p i,ahD,a8];refine (Vp _ _ 5 O3 R3 _ [[65,53]] U (r.mono (b.trans j)) (SV.all (len:=1) rfl om b9 _) λL K rs E z t=>agQ E z t).mono ?_;rintro _ d6 ⟨rfl,c5⟩;simp(disch:=omega)only[go_sem];exact b4 _ (j.trans c5)
section
variable {n:Nat} {w:Bool} {c d:jZ} {l:List jZ} {Gc Gd:List Nat->Prop} {A C:LN}
theorem Mn {x:Nat}{a:List Nat}(h:l.map (λe=>iW e.1 n 0)=a)(b:a[a.length- 1]? =some x):rM n l=decide (x=1):=by
 have e:l.length=a.length:=by rw[←h,iA]
 unfold rM;rw[e];rw[←h,Qy,iA,e] at b;split
 ·rename_i f;rw[f] at b;cases b
 ·rename_i e f
  rw[f] at b;cases b
  rfl
theorem QS (s:lX n w c l){k:Nat}(f:l[k]? =some d)(m:Mem n d Gd A)(g:dO n (yE n w c d))(E:cZ (yE n w c d) A):l.length=k+1:=by
 have p:k<l.length:=(vJ.1 f).1
 by_cases o:k+1<l.length
 ·have i:=dD o
  obtain⟨h,j⟩:=s.st k _ _ f i;obtain⟨a,b⟩:=(h.congr (Wu E m.el)).uniq m.isc;exact absurd (Prod.ext a b) j
 ·omega
end
theorem ajX:Eb 4 LD (if true then DL else LD) LD [[], [(1,1)], [(2,1)], [(1,12)], [(2,13)], [(1,18)], [(1,6)], [(2,18)], [(1,19)], [(2,6)], [(1,13)], [(1,7)]]=true:=by decide+kernel
theorem Xi {c:jZ}{l:List jZ}(j:aV 4 (bM 4 (· ∈FC)) c.1 c.2)(s:lX 4 true c l):l.map (λe=>iW e.1 4 0)= [24,12]:=by
 have a:Mem 4 c _ DL:=⟨bM.cY Yc,j,Ao⟩
 have f:=s.hd;obtain⟨k,b,h⟩:=xN s a f a ajP (by decide);have m:=Vq s a b h ajX;refine List.ext_getElem? λi=>?_
 rw[Qy]
 match i with
 |0=>rw[f];exact congrArg some a.sz
 |1=>rw[b];exact congrArg some h.sz
 |i+2=>rw[List.getElem?_eq_none om];rfl
theorem Oz {c:jZ}{l:List jZ}(a:aV 5 (bM 5 (· ∈FT)) c.1 c.2)(s:lX 5 false c l):l.map (λe=>iW e.1 5 0)= [60]:=by
 have b:=bM.cY GB
 have j:Mem 5 c _ UW:=⟨b,a,uI⟩
 have g:dO 5 (yE 5 false c c):=oV.cY b b a a
 have E:cZ (yE 5 false c c) UW:=by
  have e:yE 5 false c c=bM 5 (· ∈FT):=funext λx=>propext ⟨λh=>oV.self b a h,λh=>bM.le g (λy f=>?_) h⟩
  ·rw[e];exact uI
  ·have m:cU (UW.getD 3 []) (UW.getD 24 [])= [1,2,0,3,4]:=by decide+kernel
   have o:cU (UW.getD 2 []) (UW.getD 57 [])= [1,2,3,4,0]:=by decide+kernel
   rcases vI.1 f with rfl|f
   ·rw[←m];exact oV.all b b a a (pD uI (by decide)) (pD uI (by decide))
   ·rw[List.mem_singleton.1 f,←o];exact oV.all b b a a (pD uI (by decide)) (pD uI (by decide))
 have k:=s.hd;have p:=QS s k j g E;refine List.ext_getElem? λi=>?_
 rw[Qy]
 match i with
 |0=>rw[k];exact congrArg some j.sz
 |i+1=>rw[List.getElem?_eq_none om];rfl
def WM (n:Nat)(L:LN)(Rp Cg:List Nat)(Ns:LN):Bool:=
 Ns.all (λN=>N==List.range L.length||GF n L N)&&Ns.contains [0]&&decide (Ns.Pairwise λa b=>OW a b=true)&&(List.range L.length).all (λi=>i==0||Rp.any λr=>decide (r<L.length)&&(L.map (aT (L.getD r []))).contains (L.getD i []))&&Cg.all (λg=>decide (g<L.length))&&
  Ns.all λN=>N.contains 0&&Rp.all λr=>N.contains r||Ns.any λN'=>(N.all λi=>N'.contains i)&&N'.contains r&&(HQ L N').all λx=>(BC (HQ L N++Cg.map λg=>aT (L.getD r []) (L.getD g [])) L.length 0 [aX n]).contains x
section
variable {n:Nat} {G:List Nat->Prop} {L:LN} {Ns rs:LN} (hG:dO n G) (E:cZ G L)
include hG E
theorem WM.ok {Rp Cg:List Nat}(W:L.getD 0 []=aX n)(h:WM n L Rp Cg Ns=true):Aq n G L Ns:=by
 unfold WM at h;simp only[sE,zP,List.any_eq_true,Bool.or_eq_true,Ak,List.contains_iff_mem,Oi,Dj,beq_iff_eq] at h;obtain⟨⟨⟨⟨⟨hN,R⟩,hs⟩,B⟩,hC⟩,F⟩:=h;have all: ∀N∈Ns,yW n G L N:=λN y=>(hN N y).elim (λe=>by rw[e];exact XO hG E) (GF.ok hG E)
 have k0:=all _ R;refine⟨λr=>⟨all r,Sh hG E (List.Perm.refl _) (by rw[CB k0 W];exact R) all (λN y k hk=>?_) r⟩,hs⟩;have v:=all N y;have i:=(jY.1 hk).1
 by_cases p:k∈N
 ·exact .inl p
 refine .inr ?_;obtain⟨hz,hr⟩:=F N y;rcases B k i with e|⟨r,J,z,K⟩
 ·exact absurd (by rw[e];exact hz) p
 obtain⟨g,o,u⟩:=pH.1 K;have f:=(E.mem g).1 o;have P:=lE hG E z;rcases hr r J with h|⟨U,s,⟨h3,Z⟩,h5⟩
 ·exact absurd (by
   obtain⟨t,m,Y⟩:=v.nm _ _ ⟨r,h,rfl⟩ f;have:t=k:=wU E.nodup ((v.rk.mem t).1 m).1 i (Y.trans u)
   rw[←this];exact m) p
 have q:=all U s
 have e:Ai n G L N k=U:=by
  refine pL (Uc hG E v i).rk.asc q.rk.asc λt=>⟨λm=>?_,λm=>?_⟩
  ·obtain⟨h6,h7⟩:=(xF t).1 m
   exact (q.rk.mem t).2 ⟨h6,NC.le h7 q.cY (λa h=>h.elim (λ⟨j,hj,e⟩=>⟨j,h3 j hj,e⟩) λe=>by rw[e,←u];exact q.nm _ _ ⟨r,Z,rfl⟩ f) λa b ha hb=>q.nm a b ha hb⟩
  ·refine (xF t).2 ⟨((q.rk.mem t).1 m).1,?_⟩
   have Q:=Mk.cY hG v.le (pD E i)
   have rx:Mk n G (RG L N) (L.getD k []) (L.getD r []):=by
    have:=NC.cj (n:=n) (NC.of (.inr rfl):Mk n G (RG L N) (L.getD k []) (L.getD k [])) (hG.inv f);rw[←u,←gW P (hG.bF f) (hG.bF f).inv,cG (hG.bF f),iZ P] at this;rwa [←u]
   refine Pk (P:=Mk n G (RG L N) (L.getD k [])) (λx O g o=>Q.mul O ?_) L.length 0 [aX n] (λx O=>by rw[List.mem_singleton.1 O];exact Q.one) _ (h5 _ ⟨t,m,rfl⟩);rcases oD.1 o with o|o
   ·exact NC.of (.inl (Oi.1 o))
   ·obtain⟨c,B,rfl⟩:=pH.1 o
    exact NC.cj rx (pD E (hC c B))
 rw[e];exact s
end
theorem afV: ∀{l:LN} {x:List Nat},x∈l->kW x (JE l)=false
 |a::l,x,h=>by
  have k: ∀(l:LN) (a:List Nat),kW a (l.foldl (λm x=>if kW x m then x else m) a)=false/\ ∀x∈l,kW x (l.foldl (λm x=>if kW x m then x else m) a)=false:=by
   intro l
   induction l with
   |nil=>exact λa=>⟨Pc a,λx h=>by cases h⟩
   |cons b l ih=>
    intro a;rw[List.foldl_cons]
    cases hb:kW b a with
    |true=>
     rw[bJ rfl];obtain⟨f,i⟩:=ih b;refine⟨?_,λx h=>(vI.1 h).elim (λe=>by rw[e];exact f) (i x)⟩
     cases h3:kW a (l.foldl (λm x=>if kW x m then x else m) b) with
     |false=>rfl
     |true=>rw[uH hb h3] at f;cases f
    |false=>
     rw[bU (by simp)];obtain⟨f,i⟩:=ih a;refine⟨f,λx h=>(vI.1 h).elim (λe=>?_) (i x)⟩;rw[e]
     cases h3:kW b (l.foldl (λm x=>if kW x m then x else m) a) with
     |false=>rfl
     |true=>
      have j:kW a b=true∨a=b:=by
       cases h5:kW a b with
       |true=>exact .inl rfl
       |false=>exact .inr (Ho h5 hb)
      rcases j with j|j
      ·rw[uH j h3] at f;cases f
      ·rw[←j,f] at h3;cases h3
  show kW x (l.foldl _ a)=false;obtain⟨f,i⟩:=k l a;exact (vI.1 h).elim (λe=>by rw[e];exact f) (i x)
theorem ajG:WM 4 DL [1,3,7,9] [0,2,8] [[0], [0,7,16,23], [0,3,4,7,8,11,12,15,16,19,20,23],List.range 24]=true:=by decide+kernel
theorem aiY:WM 4 qT [1,2,3] [0] [[0], [0,1], [0,2], [0,3],List.range 4]=true:=by decide+kernel
theorem aiH:WM 4 LD4 [1,2,3,5] [0,3] [[0], [0,5], [0,1,4,5], [0,2,5,7], [0,3,5,6],List.range 8]=true:=by decide+kernel
theorem ajR:WM 5 UW [1,3,16,17] [0,1,30] [[0],List.range 60]=true:=by decide+kernel
theorem afZ {K:List Nat}{rs:LN}(p:zC 4 (bM 4 (· ∈Jx)) qT K rs)(c:Ab 4 (bM 4 (· ∈Jx)) qT K):rs= [[0], [0,1],List.range 4]:=by
 obtain⟨i,m,o,e,a⟩:=VT p c;have q:=bM.cY Ug;have E:=Bu;have s:yW 4 (bM 4 (· ∈Jx)) qT [0]:=GF.ok q E (by decide+kernel);have f:1∈K:=c.perm.mem_iff.2 (by rw[Xb E];decide+kernel);have l:=(aeP (i:=1) om (by decide)).1
 have t: [0,1]∈KL (fdF 4 (bM 4 (· ∈Jx)) qT [0] K):=by
  refine Rq.2 ⟨Gu.2 ⟨1,f,by decide,l.symm⟩,?_⟩;rw[Bool.not_eq_true'];refine List.any_eq_false.2 λb n=>?_
  obtain⟨j,r,d,rfl⟩:=Gu.1 n;have:=(Dr s (c.lt r) d).2.2;have:1<(Ai 4 (bM 4 (· ∈Jx)) qT [0] j).length:=this;rw[sE,Ak];exact λh=>by have:_<2:=h.1;omega
 have k:=afV t;have a:JE (KL (fdF 4 (bM 4 (· ∈Jx)) qT [0] K))= [0,i]:=a;rw[a] at k;have: ∀i,i<4->i∉ [0]->kW [0,1] [0,i]=false->i=1:=by decide
 obtain rfl:=this i m o k;exact e
theorem Im {W:Nat->Prop}{n:Nat}{G:List Nat->Prop}{L:LN}{h:H}(E:cZ G L): ∀{ls:List (V×V)} {rs:LN},aN (BM W n L h) ls rs->(∀r∈rs,yW n G L r)-> ∃l:List jZ,aN (λp (e:jZ)=> ∃G,GC W h (.agg [aC n,p.1,p.2]) n e.1 e.2 G) ls l/\l.map (λe=>iW e.1 n 0)=rs.map List.length
 | [], [],_,_=>⟨[],trivial,rfl⟩
 |p::ls,r::rs,⟨⟨O,R,g⟩,a⟩,hk=>by
  obtain⟨l,b,d⟩:=Im E a λr c=>hk r (wI _ c)
  have k:=hk r tQ;exact⟨(O,R)::l,⟨⟨_,g⟩,b⟩,by rw[List.map_cons,List.map_cons,d,k.rk.len k.cY g.isc E k.le]⟩
theorem Cx {n:Nat}{G:List Nat->Prop}{L:LN}{c:LN}{h h':H}{v:V}(a:Aq n G L c)(l:c.length<=200)(r:aiK n G L h v h'):(∃vl ls,v= .tup [vl,aC 0]/\SV h' vl 3 (Mj n ls)/\aN (BM (λ_=>False) n L h') ls c)/\Fr h h':=by
 obtain⟨r,f⟩:=r;refine⟨?_,f⟩;rcases r with ⟨vl,ls,m,e,b,_,s,d⟩|⟨_,j,nd,k,o⟩
 ·obtain rfl:=a.uniq b
  exact⟨vl,ls,e,s,d⟩
 ·have:=List.Nodup.length_le_of_subset nd λr i=>(a.mem r).2 (k r i)
  omega
theorem NS {l:List jZ}{n:Nat}{w:List Nat}(h:l.map (λe=>iW e.1 n 0)=w)(a:w.length<=6000):l.length<=6000:=by
 rw[←h,iA] at a;exact a
theorem TO (h:H)(x y:Int):mH h 1 [aC 0] 2 [(0,1,aC x),(1,1,aC y)]=some (.sl h.next 0 2 (.kn 2),h.new (.cells false (ints [x,y]))):=rfl
theorem ahR (h:H)(x:Int):mH h 1 [aC 0] 1 [(0,1,aC x)]=some (.sl h.next 0 1 (.kn 1),h.new (.cells false (ints [x]))):=rfl
theorem CC (h:H):Ev T 6 [] h (λv h'=>v= .bool true/\Fr h h'):=by
 refine dW sL rfl ?_;simp(disch:=omega)only[go_sem,sL,aE];refine (Ls h).mono ?_;rintro _ h1 ⟨c0,c1,c2,c3,O0,R0,O1,R1,O2,R2,O3,R3,rfl,d,J,t,l,f1⟩;obtain⟨p0,q0,rfl,a0,b0⟩:=d.shape;obtain⟨p1,q1,rfl,a1,b1⟩:=J.shape;obtain⟨p2,q2,rfl,a2,b2⟩:=t.shape;obtain⟨p3,q3,rfl,a3,b3⟩:=l.shape;obtain⟨A,hA⟩:=exI h1.next;obtain⟨k1,e1,n1,g1,o1,F1⟩:=dK hA [aC 0,.aD,.aD];obtain⟨k2,e2,n2,g2,o2,F2⟩:=dK n1 [aC 0,.aD,.aD];obtain⟨k3,e3,n3,g3,o3,F3⟩:=dK n2 [aC 0,.aD,.aD];obtain⟨k4,e4,n4,g4,o4,F4⟩:=dK n3 [aC 0,.aD,.aD];have z1:k4.get A=some (.cells false [aC 0,.aD,.aD]):=by rw[o4 _ om,o3 _ om,o2 _ om];exact g1
 have z2:k4.get (A+1)=some (.cells false [aC 0,.aD,.aD]):=by rw[o4 _ om,o3 _ om];exact g2
 have z3:k4.get (A+1+1)=some (.cells false [aC 0,.aD,.aD]):=by rw[o4 _ om];exact g3
 obtain⟨k5,e5,n5,g5,o5⟩:=mV k4 A [aC (4:Nat),p0,q0];obtain⟨k6,e6,n6,g6,o6⟩:=mV k5 (A+1) [aC (4:Nat),p1,q1];obtain⟨k7,e7,n7,g7,o7⟩:=mV k6 (A+1+1) [aC (4:Nat),p2,q2];obtain⟨Z,e8,n8,g8,o8⟩:=mV k7 (A+1+1+1) [aC (5:Nat),p3,q3];have y2:k5.get (A+1)=some (.cells false [aC 0,.aD,.aD]):=by rw[o5 _ om];exact z2
 have y3:k6.get (A+1+1)=some (.cells false [aC 0,.aD,.aD]):=by rw[o6 _ om,o5 _ om];exact z3
 have y4:k7.get (A+1+1+1)=some (.cells false [aC 0,.aD,.aD]):=by rw[o7 _ om,o6 _ om,o5 _ om];exact g4
 have c:Fr h1 Z:=⟨om,λq hq=>by rw[o8 q om,o7 q om,o6 q om,o5 q om,o4 q om,o3 q om,o2 q om,o1 q om]⟩
 have r1: ∀j,Fr Z j->j.row A 0 3=some [aC (4:Nat),p0,q0]:=λj f=>aJ (by rw[f.get A om,o8 _ om,o7 _ om,o6 _ om];exact g5)
 have r2: ∀j,Fr Z j->j.row (A+1) 0 3=some [aC (4:Nat),p1,q1]:=λj f=>aJ (by rw[f.get _ om,o8 _ om,o7 _ om];exact g6)
 have r3: ∀j,Fr Z j->j.row (A+1+1) 0 3=some [aC (4:Nat),p2,q2]:=λj f=>aJ (by rw[f.get _ om,o8 _ om];exact g7)
 have r4: ∀j,Fr Z j->j.row (A+1+1+1) 0 3=some [aC (5:Nat),p3,q3]:=λj f=>aJ (by rw[f.get _ om];exact g8)
 have E0:=dB d.cY d.isc;have E1:=dB J.cY J.isc;have E2:=dB t.cY t.isc;have E3:=dB l.cY l.isc;have L0:=E0.1.uniq Ao;have L1:=E1.1.uniq Bu;have L2:=E2.1.uniq FL;have L3:=E3.1.uniq uI;simp(disch:=omega)only[go_sem,hA,e1,n1,e2,n2,e3,n3,e4,cF k4 A 0 (v:= aC (4:Nat)) (u:=p0) (w:=q0) rfl a0 b0,z1,cH,e5,cF k5 (A+1) 0 (v:= aC (4:Nat)) (u:=p1) (w:=q1) rfl a1 b1,y2,e6,cF k6 (A+1+1) 0 (v:= aC (4:Nat)) (u:=p2) (w:=q2) rfl a2 b2,y3,e7,cF k7 (A+1+1+1) 0 (v:= aC (5:Nat)) (u:=p3) (w:=q3) rfl a3 b3,y4,e8,r1 Z (Fr.refl _)];refine (Pe _ 4 O0 R0 _ Z (d.mono c)).mono ?_;rintro _ h2 ⟨v5,s0,l5,rfl,s5,x7,u4,f2⟩;simp(disch:=omega)only[go_sem,r4 h2 f2];refine (vA _ 5 O3 R3 _ h2 (l.mono (c.trans f2))).mono ?_;rintro _ h3 ⟨v7,y0,l7,rfl,s7,p9,r0,f3⟩;have G3:=f2.trans f3;have w5:=Xi d.isc u4;have w7:=Oz l.isc r0;simp(disch:=omega)only[go_sem,r1 h3 G3];refine (vZ _ 4 O0 R0 _ h3 (d.mono (c.trans G3))).mono ?_;rintro _ h4 ⟨l9,w1,rfl,f4⟩;have G4:=G3.trans f4;have b9:rM 4 l9=true:=Mn (Xj d.isc w1) rfl;rw[b9];simp(disch:=omega)only[go_sem,r4 h4 G4];refine (vZ _ 5 O3 R3 _ h4 (l.mono (c.trans G4))).mono ?_;rintro _ h5 ⟨s6,j8,rfl,f5⟩;have G5:=G4.trans f5;have r6:rM 5 s6=false:=Mn (Oz l.isc j8) rfl;rw[r6];simp(disch:=omega)only[go_sem,r1 h5 G5];refine (Gq _ 4 O0 R0 _ h5 (d.mono (c.trans G5))).mono ?_;rintro _ h6 ⟨u3,m4,rfl,f6⟩;have G6:=G5.trans f6;have v2:rM 4 u3=false:=Mn (Xi d.isc m4) rfl;rw[v2];simp(disch:=omega)only[go_sem,r3 h6 G6];refine (Gq _ 4 O2 R2 _ h6 (t.mono (c.trans G6))).mono ?_;rintro _ h7 ⟨q8,m0,rfl,f7⟩;have G7:=G6.trans f7;have u8:rM 4 q8=true:=Mn (Zp t.isc m0) rfl;rw[u8];obtain⟨h8,t0,A5,x2,A6,f8⟩:=dK (h:=h7) rfl (ints [24,12]);have i7:Fr h2 h8:=f3.trans (f4.trans (f5.trans (f6.trans (f7.trans f8))));simp(disch:=omega)only[go_sem,TO,t0];refine (lZ v5 _ 4 s0 l5 [24,12] h8 (s5.mono i7) (aN.mono (λ_ _ ⟨G,g,_⟩=>⟨G,g.mono i7⟩) x7) (NS w5 (by decide)) (SV.all rfl om x2 _) w5).mono ?_;rintro _ h9 ⟨rfl,f9⟩;obtain⟨l4,r5,z5,s9,z4,m9⟩:=dK (h:=h9) rfl (ints [60]);have Y:Fr h3 l4:=f4.trans (f5.trans (f6.trans (f7.trans (f8.trans (f9.trans m9)))));simp(disch:=omega)only[go_sem,ahR,r5];refine (lZ v7 _ 5 y0 l7 [60] l4 (s7.mono Y) (aN.mono (λ_ _ ⟨G,g,_⟩=>⟨G,g.mono Y⟩) p9) (NS w7 (by decide)) (SV.all rfl om s9 _) w7).mono ?_;rintro _ c6 ⟨rfl,x1⟩;have b8:Fr Z c6:=G3.trans (Y.trans x1);simp(disch:=omega)only[go_sem,eq_self,decide_true,r1 c6 b8];have c7:Aq 4 (bM 4 (· ∈FC)) DL _:=WM.ok (bM.cY Yc) Ao rfl ajG;have m2:Aq 4 (bM 4 (· ∈Jx)) qT _:=WM.ok (bM.cY Ug) Bu rfl aiY;have q9:Aq 4 (bM 4 (· ∈D4g)) LD4 _:=WM.ok (bM.cY QW) FL rfl aiH;have k0:Aq 5 (bM 5 (· ∈FT)) UW _:=WM.ok (bM.cY GB) uI rfl ajR;refine (Dp _ 4 O0 R0 _ c6 (d.mono (c.trans b8))).mono ?_;rintro v c5 ⟨L,o,B⟩;obtain rfl:=o.symm.trans L0;obtain⟨⟨w6,i8,rfl,v9,m1⟩,w4⟩:=Cx c7 (by decide) B;clear o B;have a9:=b8.trans w4;simp(disch:=omega)only[go_sem,r2 c5 a9];refine (Dp _ 4 O1 R1 _ c5 (J.mono (c.trans a9))).mono ?_;rintro v l3 ⟨L,o,B⟩;obtain rfl:=o.symm.trans L1;obtain⟨⟨u0,y8,rfl,v1,k9⟩,m6⟩:=Cx m2 (by decide) B;clear o B;have b7:=a9.trans m6;simp(disch:=omega)only[go_sem,r3 l3 b7];refine (Dp _ 4 O2 R2 _ l3 (t.mono (c.trans b7))).mono ?_;rintro v l6 ⟨L,o,B⟩;obtain rfl:=o.symm.trans L2;obtain⟨⟨p5,y9,rfl,t7,h0⟩,l0⟩:=Cx q9 (by decide) B;clear o B;have d4:=b7.trans l0;simp(disch:=omega)only[go_sem,r4 l6 d4];refine (Dp _ 5 O3 R3 _ l6 (l.mono (c.trans d4))).mono ?_;rintro v j1 ⟨L,o,B⟩;obtain rfl:=o.symm.trans L3;obtain⟨⟨y7,j3,rfl,s1,l1⟩,j0⟩:=Cx k0 (by decide) B;clear o B;have r8:=d4.trans j0;obtain⟨t8,u7,e9⟩:=Im Ao m1 λr hr=>(c7.mem r).1 hr
 obtain⟨n9,p8,d7⟩:=Im uI l1 λr hr=>(k0.mem r).1 hr
 have m5:bL u0=some (aC 5):=by
  have:=aN.length k9;unfold bL;rw[SV.len v1 (n:=5) (by rw[jP,this];rfl) om];rfl
 have j6:bL p5=some (aC 6):=by
  have:=aN.length h0;unfold bL;rw[SV.len t7 (n:=6) (by rw[jP,this];rfl) om];rfl
 obtain⟨f0,x9,A2,t1,A1,g9⟩:=dK (h:=j1) rfl (ints [1,4,12,24]);have R:Fr c5 f0:=m6.trans (l0.trans (j0.trans g9));simp(disch:=omega)only[go_sem,Gh,x9];refine (lZ w6 _ 4 i8 t8 [1,4,12,24] f0 (v9.mono R) (aN.mono (λ_ _ ⟨G,g⟩=>⟨G,g.mono R⟩) u7) (NS e9 (by decide)) (SV.all rfl om t1 _) e9).mono ?_;rintro _ v4 ⟨rfl,v6⟩;obtain⟨i5,t6,B3,t5,A0,d9⟩:=dK (h:=v4) rfl (ints [1,60]);have p:Fr j1 i5:=g9.trans (v6.trans d9);simp(disch:=omega)only[go_sem,m5,j6,eq_self,decide_true,TO,t6];refine (lZ y7 _ 5 j3 n9 [1,60] i5 (s1.mono p) (aN.mono (λ_ _ ⟨G,g⟩=>⟨G,g.mono p⟩) p8) (NS d7 (by decide)) (SV.all rfl om t5 _) d7).mono ?_;rintro _ c4 ⟨rfl,w9⟩;have d3:Fr Z c4:=r8.trans (p.trans w9);simp(disch:=omega)only[go_sem,r1 c4 d3];refine (Po _ 4 O0 R0 _ c4 (d.mono (c.trans d3))).mono ?_;rintro _ d0 ⟨s4,i9,L,K,rs,rfl,o,ik,cl,t2,i6,t3⟩;obtain rfl:=o.symm.trans L0;obtain rfl:=TL cl ik;clear o;have d5:=d3.trans t3;simp(disch:=omega)only[go_sem,r2 d0 d5];refine (Po _ 4 O1 R1 _ d0 (J.mono (c.trans d5))).mono ?_;rintro _ a6 ⟨i4,a7,L,K1,rs,rfl,o,t4,q7,g0,F,a5⟩;obtain rfl:=o.symm.trans L1;obtain rfl:=afZ q7 t4;clear o;have o0:=d5.trans a5;obtain⟨I0,d8⟩:=exI a6.next;obtain⟨i0,o9,i1,x5,j7⟩:=mkI d8 [1,0,3,2];obtain⟨x0,s2,A8,y6,z6,c8⟩:=dK i1 [.sl I0 0 4 (.kn 4)];have LO:SP x0 (.sl (I0+1) 0 1 (.kn 1)) [[1,0,3,2]]:=SP.ajW (a:= [1,0,3,2]) (h:=i0) x5 om c8 y6 _;have x6:=o0.trans (j7.trans c8);simp(disch:=omega)only[go_sem,d8,Gh,o9,i1,cK i0 (z:= .aD) (nL ..).1 (nL ..).2,s2];refine (rL _ 4 [[1,0,3,2]] x0 om om (by decide) LO λg hg=>Ug g (by rw[List.mem_singleton.1 hg];exact tQ)).mono ?_;rintro _ d6 ⟨A7,O4,R4,rfl,b5,j2⟩;obtain⟨p4,q4,rfl,a4,b4⟩:=b5.shape;have u5:=x6.trans j2;obtain⟨D,hD⟩:=exI d6.next;obtain⟨y1,w2,z9,v0,s3,z0⟩:=dK hD [aC 0,.aD,.aD];obtain⟨b,x8,B1,w3,n0⟩:=mV y1 D [aC (4:Nat),p4,q4]
 have fy:Fr d6 b:=⟨om,λq hq=>by rw[n0 q om,s3 q om]⟩
 have rD: ∀j,Fr b j->j.row D 0 3=some [aC (4:Nat),p4,q4]:=λj f=>aJ (by rw[f.get D om];exact w3)
 have c9:Fr a6 d6:=(j7.trans c8).trans j2;simp(disch:=omega)only[go_sem,hD,w2,cF y1 D 0 (v:= aC (4:Nat)) (u:=p4) (w:=q4) rfl a4 b4,v0,cH,x8];refine (CK _).mono ?_;rintro _ y ⟨rfl,j9⟩;have x4: ∀k,b.next<=k->Fr b (H.mk b.tr k):=λk hk=>(Fr.refl b).bH hk
 have Q:Fr b y:=(x4 _ om).trans j9;have s8: ∀r∈ [[0], [0,7,16,23], [0,3,4,7,8,11,12,15,16,19,20,23],List.range 24],yW 4 (bM 4 (· ∈FC)) DL r:=λr hr=>(c7.mem r).1 hr
 have l2: ∀r∈ [[0], [0,1],List.range 4],yW 4 (bM 4 (· ∈Jx)) qT r:=λr hr=>(m2.mem r).1 (by
  simp only[vI,List.not_mem_nil,or_false] at hr
  rcases hr with rfl|rfl|rfl<;>simp)
 obtain⟨v8,v3,m3⟩:=Im Ao i6 s8;obtain⟨u6,t9,i2⟩:=Im Bu F l2;obtain⟨d1,q6,A3,w0,u9⟩:=KW y (b.next+10) y.next (ints [1,4,12,24]);have z7:b.next+27<=y.next:=j9.next;have m:Fr a6 b:=c9.trans fy;have O: ∀q,q<b.next->d1.get q=y.get q:=λq hq=>u9 q om
 have W:Fr d0 d1:=⟨by have:=(a5.trans (m.trans Q)).next;omega,λq hq=>by rw[O q (by have:=(a5.trans m).next;omega)];exact (a5.trans (m.trans Q)).get q hq⟩
 simp(disch:=omega)only[go_sem,Gh,q6];refine (lZ s4 _ 4 i9 v8 [1,4,12,24] d1 (t2.mono W) (aN.mono (λ_ _ ⟨G,g⟩=>⟨G,g.mono W⟩) v3) (NS m3 (by decide)) (SV.all rfl om w0 _) m3).mono ?_;rintro _ b6 ⟨rfl,j5⟩;have B2:=j5.next;obtain⟨d2,r9,B0,p6,y5⟩:=KW b6 (b.next+16) b6.next (ints [1,2,4])
 have e0:Fr b b6:=⟨om,λq hq=>by rw[j5.get q om,O q hq];exact Q.get q hq⟩
 have a8:Fr b d2:=⟨om,λq hq=>by rw[y5 q om];exact e0.get q hq⟩
 have N:Fr a6 d2:=m.trans a8;simp(disch:=omega)only[go_sem,RT,r9];refine (lZ i4 _ 4 a7 u6 [1,2,4] d2 (g0.mono N) (aN.mono (λ_ _ ⟨G,g⟩=>⟨G,g.mono N⟩) t9) (NS i2 (by decide)) (SV.all rfl om p6 _) i2).mono ?_;rintro _ l8 ⟨rfl,r7⟩;have s:=a8.trans r7;have U:=m.trans s;have A9:a7.length=3:=aN.length F;obtain⟨p7,j4,m7,m8⟩:=My (g0.mono U) (i:=1) om;have P:=m7.ixa .i64 1 om om;obtain⟨Ob,Rb,i3⟩:=aN.get F 1 om (by decide);have P:Gr 3 i4 (aC 1)=some (.ptr p7 (j4+1*3)):=P;simp(disch:=omega)only[go_sem,P,m8,rD l8 s]
 have eG: ∀x,RG qT [0,1] x↔bM 4 (· ∈ [[1,0,3,2]]) x:=by
  have k1:=l2 [0,1] (by decide);have q5:=Pq Bu k1;have x3:cZ (bM 4 (· ∈ [[1,0,3,2]])) [[0,1,2,3], [1,0,3,2]]:=Zm.AV (ws:= [[], [0]]) (by decide+kernel);exact Wu q5 x3
 obtain⟨u1,u2⟩:=(i3.isc.congr eG).uniq b5.isc;refine (acO _ _ 4 (Ob,Rb) (O4,R4) _ _ l8 (i3.mono U) (b5.mono (fy.trans s))).mono ?_;rintro _ z8 ⟨rfl,w8⟩;have dT:decide (((Ob,Rb):jZ)=(O4,R4))=true:=cI (by rw[u1,u2]);simp(disch:=omega)only[go_sem,dT];exact f1.trans (c.trans (u5.trans (fy.trans (s.trans w8))))
theorem abT {n:Nat}{a:List Nat}(A:aY n a)(j:n<=6):oJ a n∣60:=by
 unfold oJ;rw[Cq];intro c f;obtain⟨l,h,rfl⟩:=pH.1 f;obtain⟨i,hi,rfl⟩:=pH.1 h;have b:i<n:=by unfold Pd at hi;exact Dj.1 (Rq.1 hi).1
 rw[zB];have d:=(nJ A b).1;have m:=Wo A b;have: ∀k,k<7->0<k->k∣60:=by decide
 exact this _ om d
def fU:List (Nat×List Nat)->Nat
 | []=>1
 |x::l=>x.1*fU l
theorem Sk: ∀a b:List (Nat×List Nat),fU (a++b)=fU a*fU b
 | [],b=>(Nat.one_mul _).symm
 |x::a,b=>by
  show x.1*fU (a++b)=x.1*fU a*fU b;rw[Sk a b,Nat.mul_assoc]
theorem Tz (x:Nat×List Nat): ∀k,fU (List.replicate k x)=x.1^k
 |0=>rfl
 |k+1=>by
  rw[List.replicate_succ];show x.1*fU _=_;rw[Tz x k,Nat.pow_succ,Nat.mul_comm]
theorem Qu {a b:List (Nat×List Nat)}(p:a.Perm b):fU a=fU b:=by
 induction p with
 |nil=>rfl
 |cons x _ ih=>show x.1*fU _=x.1*fU _;rw[ih]
 |swap x y l=>show y.1*(x.1*fU l)=x.1*(y.1*fU l);rw[←Nat.mul_assoc,Nat.mul_comm y.1,Nat.mul_assoc]
 |trans _ _ ih1 ih2=>exact ih1.trans ih2
theorem Rx (x:Nat×List Nat): ∀l,(yX x l).Perm (x::l)
 | []=>List.Perm.refl _
 |y::r=>by
  unfold yX;split
  ·exact (List.Perm.cons y (Rx x r)).trans (List.Perm.swap x y r)
  ·exact List.Perm.refl _
theorem Zr (l:List (Nat×List Nat)):(Ke l).Perm l:=by
 have b: ∀(l a:List (Nat×List Nat)),(l.foldl (λa x=>yX x a) a).Perm (l++a):=by
  intro l
  induction l with
  |nil=>exact λa=>List.Perm.refl _
  |cons x l ih=>
   intro a;rw[List.foldl_cons];refine (ih _).trans ?_;have:(l++yX x a).Perm (l++(x::a)):=List.Perm.append_left l (Rx x a);exact this.trans List.perm_middle
 have:=b l [];rwa [tZ] at this
def HD (x:Nat×List Nat):Prop:=x=(2, [67,50])∨x=(3, [67,51])∨x=(5, [67,53])∨x=(60, [65,53])∨x=(360, [65,54])
theorem agH {n:Nat}(h:n<=9):tI n= [48+n]:=by unfold tI;rw[bU om]
theorem NZ {p k:Nat}(n:Zg p)(t:0<k):fY (p^k)=List.replicate k (p,67::tI p):=by
 have c:=n.1;have pos:0<p^k:=Nat.pow_pos om
 have b:2<=p^k:=by
  obtain⟨k,rfl⟩: ∃l,k=l+1:=⟨k- 1,om⟩
  have:0<p^k:=Nat.pow_pos om;rw[Nat.pow_succ];exact mY c (Nat.le_mul_of_pos_left _ this)
 have le:p<=p^k:=by
  obtain⟨k,rfl⟩: ∃l,k=l+1:=⟨k- 1,om⟩
  have:0<p^k:=Nat.pow_pos om;rw[Nat.pow_succ];exact Nat.le_mul_of_pos_left _ this
 have e:BO (p^k- 2) (p^k) 2=p:=TV (Nat.dvd_trans (by simp) (Nat.pow_dvd_pow p t)) _ 2 om om om λd w u h=>by
  obtain⟨r,q,a⟩:=WI (show 1<d by omega);have:=q.pow k (Nat.dvd_trans a h);have v:=q.1;rcases n.2 r this with h|h
  ·omega
  ·have:=Nat.le_of_dvd om a
   omega
 have s: ∀m f j,p^m<=f->FE f p j (p^m)=(j+m,1):=by
  intro m
  induction m with
  |zero=>
   intro f j h;rw[Nat.pow_zero] at h ⊢
   obtain⟨f,rfl⟩: ∃i,f=i+1:=⟨f- 1,om⟩
   show (if 1%p=0 then FE f p (j+1) (1/p) else (j,1))=_;rw[bU (by rw[Nat.mod_eq_of_lt c];omega)];rfl
  |succ m ih=>
   intro f j h;have pos:0<p^m:=Nat.pow_pos om;have o:p^(m+1)=p^m*p:=Nat.pow_succ ..;have b:p^m<p^(m+1):=Nat.pow_lt_pow_right c om
   obtain⟨f,rfl⟩: ∃i,f=i+1:=⟨f- 1,om⟩
   show (if p^(m+1)%p=0 then FE f p (j+1) (p^(m+1)/p) else _)=_;rw[bJ (by rw[o];exact Nat.mul_mod_left _ _),o,Nat.mul_div_cancel _ om,ih f (j+1) om];congr 1;omega
 unfold fY;rw[e,s k (p^k) 0 (fN _)];unfold Du;rw[bJ rfl,Nat.zero_add]
section
variable {n:Nat} {G D:List Nat->Prop} {L:List (List Nat)} {K' r:List Nat} {rs:List (List Nat)} {c:jZ} {l l':List jZ}
theorem FZ {p:Nat}(a:Zg p)(h:p∣60):p=2∨p=3∨p=5:=by
 have l:=Nat.le_of_dvd om h;have: ∀q,q<61->q∣60->1<q->(∃d,d<q/\1<d/\d∣q)∨q=2∨q=3∨q=5:=by decide
 rcases this p om h a.1 with ⟨d,f,i,b⟩|h
 ·rcases a.2 d b with h|h<;>omega
 ·exact h
theorem fct (u:TF n)(o:n<=6)(A:dO n G)(E:cZ G L)(c:Ec n G L K' rs r)(z:Ab n G L K'){i:Nat}(hi:i+1<rs.length):
  rs[i].length*fU (fY (rs[i+1].length/rs[i].length))=rs[i+1].length/\(∀x∈fY (rs[i+1].length/rs[i].length),HD x)/\
  (((∀x y,RG L rs[i+1] x->RG L rs[i+1] y->RG L rs[i] (cU x y))/\ ∀x∈fY (rs[i+1].length/rs[i].length),x.1<60)∨
   ((∀N:List Nat->Prop,dO n N->(∀x,RG L rs[i] x->N x)->(∀x,N x->RG L rs[i+1] x)->(∀x y,RG L rs[i+1] x->RG L rs[i+1] y->N (cU x y))-> ∀x,RG L rs[i+1] x->N x)/\ ∃x∈fY (rs[i+1].length/rs[i].length),¬x.1<60)):=by
 have ch:=CF A E c z hi
 have q:=c.all _ (xG (show i<rs.length by omega))
 have t:=c.all _ (xG hi)
 have j:=Pq E q
 have m:=Pq E t
 have pos:0<rs[i].length:=Rk.ne q.cY
 rcases ch.two with h|h
 ·obtain⟨p,k,d,v,e,w⟩:=ch.comm j m h
  rw[iA,iA] at e
  have eq:rs[i+1].length/rs[i].length=p^k:=by rw[e,Nat.mul_div_cancel_left _ pos]
  have b:p∣60:=by
   obtain⟨x,a,s⟩:=w;exact Nat.dvd_trans s (abT (ch.gM.bF a) o)
  rw[eq,NZ d v]
  refine⟨by rw[Tz,e],λx a=>?_,.inl ⟨h,λx a=>?_⟩⟩
  ·rw[(List.mem_replicate.1 a).2]
   rcases FZ d b with rfl|rfl|rfl
   ·exact .inl (by rw[agH om])
   ·exact .inr (.inl (by rw[agH om]))
   ·exact .inr (.inr (.inl (by rw[agH om])))
  ·rw[(List.mem_replicate.1 a).2]
   show p<60
   rcases FZ d b with rfl|rfl|rfl<;>omega
 ·have e:=ch.akK u o j m h
  rw[iA,iA] at e
  rcases e with e|e
  ·have eq:rs[i+1].length/rs[i].length=60:=by rw[e,Nat.mul_div_cancel_left _ pos]
   have f:fY 60= [(60, [65,53])]:=by decide+kernel
   rw[eq,f]
   exact⟨by rw[e];rfl,λx a=>by rw[List.mem_singleton.1 a];exact .inr (.inr (.inr (.inl rfl))),.inr ⟨h,_,List.mem_singleton.2 rfl,by decide⟩⟩
  ·have eq:rs[i+1].length/rs[i].length=360:=by rw[e,Nat.mul_div_cancel_left _ pos]
   have f:fY 360= [(360, [65,54])]:=by decide+kernel
   rw[eq,f]
   exact⟨by rw[e];rfl,λx a=>by rw[List.mem_singleton.1 a];exact .inr (.inr (.inr (.inr rfl))),.inr ⟨h,_,List.mem_singleton.2 rfl,by decide⟩⟩
theorem IZ (d:TF n)(m:n<=6)(b:dO n G)(E:cZ G L)(c:Ec n G L K' rs r)(j:Ab n G L K'): ∀i,i<rs.length->
  fU (kY ((rs.map List.length).take (i+1)))=(rs.getD i []).length/\(∀x∈kY ((rs.map List.length).take (i+1)),HD x)
 |0,hi=>by
  rw[RL];refine⟨?_,λx a=>by cases a⟩;have h:=c.hd;rw[dD hi] at h;have e:rs.getD 0 []=Lf L λx=>x=aX n:=by rw[List.getD,dD hi,h];rfl
  rw[e];have k:=EB b E;have t:=Pq E k;have: ∀x,RG L (Lf L λx=>x=aX n) x↔x=aX n:=λx=>((zH L λx=>x=aX n).iff E (λx a=>by rw[a];exact b.one) x).symm
  have s:cZ (RG L (Lf L λx=>x=aX n)) [aX n]:=⟨List.pairwise_singleton _ _,λx=>by rw[List.mem_singleton,this]⟩
  have:=congrArg List.length (t.uniq s);rw[iA] at this;rw[this];rfl
 |i+1,hi=>by
  obtain⟨p,u⟩:=IZ d m b E c j i om;have f:=fct d m b E c j hi;have o:=Dg (rs.map List.length) i (by rw[iA];exact hi);rw[List.getElem_map,List.getElem_map] at o;have v:rs.getD i []=rs[i]:=by rw[List.getD,dD om];rfl
  have q:rs.getD (i+1) []=rs[i+1]:=by rw[List.getD,dD hi];rfl
  rw[show i+1+1=i+2 from rfl,o];refine⟨by rw[Sk,p,v,f.1,q],λx a=>(oD.1 a).elim (u x) (f.2.1 x)⟩
end
section
variable {n:Nat} {G D K:List Nat->Prop} {L:List (List Nat)} {K' r:List Nat} {rs:List (List Nat)} {c d:jZ} {l l':List jZ} {w:Bool}
theorem Jf (j:dO n G)(k:aV n G c.1 c.2)(s:lX n w c l): ∃d D,l[l.length- 1]? =some d/\xQ n G d D/\aV n (yE n w c d) d.1 d.2/\(∀x,D x↔yE n w c d x)/\(rM n l=true↔ ∀x,D x->x=aX n):=by
 have y:=s.pos;have b:=dD (show l.length- 1<l.length by omega);obtain⟨D,m⟩:=IG j k s _ _ b;have a:=s.en _ b;obtain⟨p,_⟩:=m.nx (w:=w) j k a;have o:=m.uniq p;refine⟨_,D,b,m,a,λx=>by rw[←o],?_⟩
 have v:rM n l=decide (iW l[l.length- 1].1 n 0=1):=by
  unfold rM;rw[b]
 rw[v,Ak];obtain⟨E,e⟩:=dB m.cY m.isc;rw[←e];constructor
 ·intro h x q
  obtain⟨z,t⟩:=List.length_eq_one_iff.1 h;have f:=(E.mem x).2 q;have i:=(E.mem _).2 m.cY.one;rw[t,List.mem_singleton] at f i;rw[f,i]
 ·intro h
  have u:cZ D [aX n]:=⟨List.pairwise_singleton _ _,λx=>by rw[List.mem_singleton];exact⟨λe=>by rw[e];exact m.cY.one,h x⟩⟩
  rw[E.uniq u];rfl
theorem aeV (f:xQ n G d D)(m: ∀x,D x↔oV n d.2 d.2 x){N M:List Nat->Prop}(s:dO n N)(i: ∀y g,N y->G g->N (aT y g))(k: ∀x,D x->M x)(v: ∀x y,M x->M y->N (cU x y)): ∀x,D x->N x:=λx t=>by
 refine NC.le ((m x).1 t) s ?_ ?_
 ·rintro a ⟨p,o,q,u,rfl⟩
  exact v _ _ (k _ (bE f.isc o)) (k _ (bE f.isc u))
 ·rintro y b j (h|h)
  ·exact i y b j (f.le b (bE f.isc h))
  ·exact i y b j (f.le b (bE f.isc h))
theorem ZU (q:dO n G)(E:cZ G L)(J:aV n G c.1 c.2)(s:lX n false c l)(b:Ec n G L K' rs r)(A:r.length=L.length)
  (z: ∀i (hi:i+1<rs.length),∀x y,RG L rs[i+1] x->RG L rs[i+1] y->RG L rs[i] (cU x y)):rM n l=true:=by
 obtain⟨d,D,O,m,_,v,f⟩:=Jf q J s
 rw[f]
 have p: ∀j,j<rs.length-> ∀x,D x->RG L (rs.getD (rs.length- 1-j) []) x:=by
  intro j
  induction j with
  |zero=>
   intro h x a;have e:=b.la;rw[Nat.sub_zero,List.getD,e];have k:=b.all r (Xu e);exact (GL E (Pq E k) k.le (by rw[iA];exact A) x).1 (m.le x a)
  |succ j o=>
   intro h;have hi:rs.length- 1-(j+1)+1<rs.length:=om
   have N:rs.getD (rs.length- 1-(j+1)) []=rs[rs.length- 1-(j+1)]:=by rw[List.getD,dD om];rfl
   have u:rs.getD (rs.length- 1-j) []=rs[rs.length- 1-(j+1)+1]:=by
    rw[show rs.length- 1-j=rs.length- 1-(j+1)+1 by omega,List.getD,dD hi];rfl
   have t:=b.all _ (xG (show rs.length- 1-(j+1)<rs.length by omega));rw[N];have o:=o om;rw[u] at o;exact aeV m v t.cY (λy g B F=>t.nm y g B F) o (z _ hi)
 intro x a
 have P:0<rs.length:=(vJ.1 b.hd).1
 have:=p (rs.length- 1) om x a
 rw[Nat.sub_self] at this
 have h:=b.hd
 have e:rs.getD 0 []=Lf L λx=>x=aX n:=by rw[List.getD,h];rfl
 rw[e] at this
 exact ((zH L λx=>x=aX n).iff E (λx a=>by rw[a];exact q.one) x).2 this
theorem PR (o:dO n G)(R:aV n G c.1 c.2)(s:lX n false c l){K M:List Nat->Prop}(ch:Chf n G K M)(pf: ∀N:List Nat->Prop,dO n N->(∀x,K x->N x)->(∀x,N x->M x)->(∀x y,M x->M y->N (cU x y))-> ∀x,M x->N x):rM n l=false:=by
 have U: ∀(k:Nat) (d:jZ),l[k]? =some d-> ∃D,xQ n G d D/\ ∀m,M m->Tc D K m:=by
  intro k
  induction k with
  |zero=>
   intro d J;rw[s.hd] at J;cases J;exact⟨G,xQ.first o R,λm F=>⟨m,aX n,ch.lG m F,ch.gK.one,(aZ (ch.gM.bF F)).symm⟩⟩
  |succ k ih=>
   intro e Z;have W:=(vJ.1 Z).1;have h0:=dD (show k<l.length by omega);obtain⟨D,m,sp⟩:=ih _ h0;have st:=(s.st k _ _ h0 Z).1;obtain⟨i,le⟩:=m.nx (w:=false) o R st;refine⟨_,i,?_⟩;have lK: ∀x,K x->G x:=λx p=>ch.lG x (ch.le x p)
   have v:=Tc.cY o i.cY ch.gK i.le ch.nK
   have kS: ∀z,K z->Tc (yE n false c l[k]) K z:=λz hz=>⟨aX n,z,i.cY.one,hz,(bX (ch.gK.bF hz)).symm⟩
   have lS: ∀x,Tc (yE n false c l[k]) K x->G x:=λx ⟨q,j,t,hj,e⟩=>by rw[e];exact o.mul (i.le q t) (lK j hj)
   have nS: ∀y g,Tc (yE n false c l[k]) K y->G g->Tc (yE n false c l[k]) K (aT y g):=λy g ⟨q,j,t,hj,e⟩ hg=>⟨aT q g,aT j g,i.nm q g t hg,ch.nK j g hj hg,by rw[e,gX (i.cY.bF t) (ch.gK.bF hj) (o.bF hg)]⟩
   have gN:dO n (λx=>Tc (yE n false c l[k]) K x/\M x):=⟨λh=>v.bF h.1,⟨v.one,ch.gM.one⟩,λa b=>⟨v.mul a.1 b.1,ch.gM.mul a.2 b.2⟩,λa=>⟨v.inv a.1,ch.gM.inv a.2⟩⟩
   have:=pf _ gN (λx p=>⟨kS x p,ch.le x p⟩) (λx h=>h.2) λa b Y P=>⟨by
    obtain⟨p1,k1,u,O,rfl⟩:=sp a Y;obtain⟨p2,k2,A,Q,rfl⟩:=sp b P;have B:yE n false c l[k] (cU p1 p2):=oV.all m.cY m.cY m.isc m.isc u A
    exact Yr o v lS ch.gK lK ch.nK kS nS (m.le p1 u) (m.le p2 A) O Q ⟨_,aX n,B,ch.gK.one,(aZ (i.cY.bF B)).symm⟩,by
    unfold cU
    exact ch.gM.mul (ch.gM.mul (ch.gM.inv Y) (ch.gM.inv P)) (ch.gM.mul Y P)⟩
   exact λm F=>(this m F).1
 obtain⟨d,D,J,m,_,_,f⟩:=Jf o R s;refine Bool.eq_false_iff.2 λh=>?_
 obtain⟨D',i,sp⟩:=U _ d J;obtain rfl:=i.uniq m;obtain⟨x,p,nx⟩:=ch.ne;obtain⟨q,k,t,W,e⟩:=sp x p;rw[f.1 h q t,bX (ch.gK.bF W)] at e;exact nx (by rw[e];exact W)
theorem Yq (t:TF n)(v:n<=6)(m:dO n G)(E:cZ G L)(u:aV n G c.1 c.2)(s:lX n false c l)(N:zC n G L K' rs)(p:Ab n G L K'):rM n l=(kY (rs.map List.length)).all λx=>decide (x.1<60):=by
 obtain⟨r,f,J⟩:=N.ex;have P:0<rs.length:=(vJ.1 f.hd).1
 have mem: ∀i,i<rs.length-> ∀x,x∈kY ((rs.map List.length).take (i+1))↔ ∃j,∃b:j+1<rs.length,j<i/\x∈fY (rs[j+1].length/rs[j].length):=by
  intro i
  induction i with
  |zero=>exact λ_ x=>⟨λh=>(by rw[RL] at h;cases h),λ⟨j,_,h,_⟩=>om⟩
  |succ i ih=>
   intro hi x;have A:=Dg (rs.map List.length) i (by rw[iA];exact hi);rw[List.getElem_map,List.getElem_map] at A;rw[show i+1+1=i+2 from rfl,A,oD,ih om];constructor
   ·rintro (⟨j,b,q,k⟩|h)
    ·exact⟨j,b,om,k⟩
    ·exact⟨i,hi,om,h⟩
   ·rintro⟨j,b,q,k⟩
    rcases Nat.lt_succ_iff_lt_or_eq.1 q with h|rfl
    ·exact .inl ⟨j,b,h,k⟩
    ·exact .inr k
 have a:=mem (rs.length- 1) om;rw[show rs.length- 1+1=(rs.map List.length).length by rw[iA];omega,List.take_length] at a
 by_cases all: ∀i (hi:i+1<rs.length),∀x y,RG L rs[i+1] x->RG L rs[i+1] y->RG L rs[i] (cU x y)
 ·rw[ZU m E u s f J all]
  refine (zP.2 λx o=>decide_eq_true ?_).symm;obtain⟨j,b,_,o⟩:=(a x).1 o;rcases (fct t v m E f p b).2.2 with h|h
  ·exact h.2 x o
  ·exfalso
   have ch:=CF m E f p b;have O:=f.all _ (xG (show j<rs.length by omega));obtain⟨z,F,B⟩:=ch.ne;exact B (h.1 _ O.cY (λx h=>h) ch.le (all j b) z F)
 ·obtain⟨i,all⟩:=Classical.not_forall.1 all
  obtain⟨hi,all⟩:=Classical.not_forall.1 all;rcases (fct t v m E f p hi).2.2 with h|⟨h,x,o,nx⟩
  ·exact absurd h.1 all
  ·rw[PR m u s (CF m E f p hi) h]
   refine (Bool.eq_false_iff.2 λk=>nx ?_).symm;exact of_decide_eq_true (zP.1 k x ((a x).2 ⟨i,hi,Nat.lt_sub_of_add_lt hi,o⟩))
end
section
variable {n:Nat} {w:Bool} {G H K K' M:List Nat->Prop} {c d e c' d':jZ} {l l':List jZ} {x y:List Nat} {O O':List (List Nat)} {R R':List (List (List Nat))}
theorem WL (u:dO n G)(v:aV n G c.1 c.2)(s:lX n false c l)(L:dO n H)(B:aV n H d.1 d.2)(U:lX n false d l')(le: ∀x,H x->G x)(h:rM n l=true):rM n l'=true:=by
 obtain⟨a,D,N,m,_,_,f⟩:=Jf u v s;obtain⟨b,P,Y,A,_,F,J⟩:=Jf L B U;rw[J]
 have p: ∀(k:Nat) (e:jZ),l[k]? =some e-> ∃K,xQ n G e K/\ ∀x,P x->K x:=by
  intro k
  induction k with
  |zero=>
   intro e j;rw[s.hd] at j;cases j;exact⟨G,xQ.first u v,λx o=>le x (A.le x o)⟩
  |succ k ih=>
   intro e j;have W:=(vJ.1 j).1;have z:=dD (show k<l.length by omega);obtain⟨K,i,r⟩:=ih _ z;obtain⟨q,_⟩:=i.nx (w:=false) u v (s.st k _ _ z j).1;exact⟨_,q,aeV A F q.cY (λy g t Q=>q.nm y g t (le g Q)) r λx y o t=>oV.all i.cY i.cY i.isc i.isc o t⟩
 obtain⟨K,i,r⟩:=p _ a N;obtain rfl:=i.uniq m;exact λx o=>f.1 h x (r x o)
structure Wc (n:Nat)(x:List Nat)(K K':List Nat->Prop):Prop where
 is:aY n x
 g: ∀y,K y->aY n y
 g': ∀y,K' y->aY n y
 to: ∀y,K y->K' (aT y x)
 of: ∀y,K' y->K (aT y (bZ x))
theorem Wc.back (X:aY n x)(Y:aY n y):aT (aT y x) (bZ x)=y:=by
 unfold aT;have A:=X.inv.mul Y;rw[inv_inv X,←aG X A X,aG (X.mul A) X X.inv,cG X,aZ (X.mul A),←aG X X.inv Y,cG X,bX Y]
theorem Wc.sym (a:Wc n x K K'):Wc n (bZ x) K' K:=⟨a.is.inv,a.g',a.g,a.of,by rw[inv_inv a.is];exact a.to⟩
theorem JB (a:Wc n x K K')(v:dO n K)(k:aV n K O R)(f:dO n K')(i:aV n K' O' R'): ∀y,oV n R R y->oV n R' R' (aT y x):=by
 intro y t;have X:=a.is;have m:=oV.cY f f i i
 have o:dO n (λy=>aY n y/\oV n R' R' (aT y x)):=by
  refine⟨λh=>h.1,⟨aY.one n,?_⟩,λ{p q} a b=>⟨a.1.mul b.1,?_⟩,λ{p} a=>⟨a.1.inv,?_⟩⟩
  ·have e:aT (aX n) x=aX n:=by unfold aT;rw[aZ X.inv,dL X]
   rw[e];exact m.one
  ·rw[Gb a.1 b.1 X];exact m.mul a.2 b.2
  ·rw[Bd a.1 X];exact m.inv a.2
 refine (NC.le t o ?_ ?_).2
 ·rintro z ⟨p,r,q,u,rfl⟩
  have P:=bE k r;have Q:=bE k u;refine⟨qV (a.g p P) (a.g q Q),?_⟩;rw[Dd (a.g p P) (a.g q Q) X];exact oV.all f f i i (a.to p P) (a.to q Q)
 ·intro z b j s
  have B:K b:=s.elim (bE k) (bE k);refine⟨dC j.1 (a.g b B),?_⟩;rw[←Gk j.1 (a.g b B) X];exact oV.norm f f i i j.2 (a.to b B)
theorem ajI (a:Wc n x K K')(f:dO n K)(k:aV n K O R)(b:dO n K')(i:aV n K' O' R'):Wc n x (oV n R R) (oV n R' R'):=
 ⟨a.is,λy h=>(oV.cY f f k k).bF h,λy h=>(oV.cY b b i i).bF h,JB a f k b i,JB a.sym b i f k⟩
theorem Wc.le (a:Wc n x K K'){L L':List (List Nat)}(E:cZ K L)(j:cZ K' L'):L.length<=L'.length:=by
 have nd:(L.map λy=>aT y x).Nodup:=by
  rw[List.Nodup,List.pairwise_map];refine List.Pairwise.imp_of_mem (λ{p q} i k ne h=>?_) E.nodup;exact ne (Dh (a.g p ((E.mem p).1 i)) (a.g q ((E.mem q).1 k)) a.is h)
 have:=List.Nodup.length_le_of_subset nd (l₂:=L') λz b=>by
  obtain⟨y,f,rfl⟩:=pH.1 b;exact (j.mem _).2 (a.to y ((E.mem y).1 f))
 rwa [iA] at this
theorem Wc.size (a:Wc n x K K')(h:dO n K)(k:aV n K O R)(b:dO n K')(j:aV n K' O' R'):iW O n 0=iW O' n 0:=by
 obtain⟨E,e⟩:=dB h k;obtain⟨f,i⟩:=dB b j;rw[←e,←i];exact Nat.le_antisymm (a.le E f) (a.sym.le f E)
theorem AQ (a:Wc n x G H)(F:dO n G)(z:aV n G c.1 c.2)(s:lX n false c l)(u:dO n H)(A:aV n H d.1 d.2)(o:lX n false d l'): ∀k,k<l.length->k<l'.length/\ ∀e e':jZ,l[k]? =some e->l'[k]? =some e'-> ∃K K',xQ n G e K/\xQ n H e' K'/\Wc n x K K':=by
 intro k
 induction k with
 |zero=>
  intro h;refine⟨o.pos,λe e' j b=>?_⟩;rw[s.hd] at j;rw[o.hd] at b;cases j;cases b;exact⟨G,H,xQ.first F z,xQ.first u A,a⟩
 |succ k t=>
  intro Z;obtain⟨W,t⟩:=t om;have B:=dD (show k<l.length by omega);have f:=dD W;obtain⟨K,K',m,i,cj⟩:=t _ _ B f;have r:=s.st k _ _ B (dD Z);have J:Wc n x (yE n false c l[k]) (yE n false d l'[k]):=ajI cj m.cY m.isc i.cY i.isc
  have v:k+1<l'.length:=by
   refine Decidable.byContradiction λhn=>r.2 ?_
   have U:=o.en l'[k] (by rw[show l'.length- 1=k by omega];exact f);obtain⟨Q,_⟩:=i.nx (w:=false) u A U;have e2:=i.uniq Q;obtain⟨P,le⟩:=m.nx (w:=false) F z r.1
   have e3:K=yE n false c l[k]:=funext λy=>propext ⟨λN=>by
    have Y:=m.cY.bF N;have:=J.of _ (by rw[←e2];exact cj.to y N)
    rwa [Wc.back a.is Y] at this,le y⟩
   have L:=r.1;rw[←e3] at L;obtain⟨p,q⟩:=L.uniq m.isc;exact Prod.ext p q
  refine⟨v,λe e' j b=>?_⟩;obtain⟨P,_⟩:=m.nx (w:=false) F z (s.st k _ _ B j).1;obtain⟨m4,_⟩:=i.nx (w:=false) u A (o.st k _ _ f b).1;exact⟨_,_,P,m4,J⟩
theorem Xz (a:Wc n x G H)(u:dO n G)(v:aV n G c.1 c.2)(s:lX n false c l)(r:dO n H)(h:aV n H d.1 d.2)(f:lX n false d l'):l.length=l'.length/\(∀(k:Nat) (e e':jZ),l[k]? =some e->l'[k]? =some e'->iW e.1 n 0=iW e'.1 n 0)/\rM n l=rM n l':=by
 have i:=AQ a u v s r h f;have A:=AQ a.sym r h f u v s
 have o:l.length=l'.length:=by
  have p:=s.pos;have B:=f.pos;have:=(i (l.length- 1) om).1;have:=(A (l'.length- 1) om).1;omega
 have sz: ∀(k:Nat) (e e':jZ),l[k]? =some e->l'[k]? =some e'->iW e.1 n 0=iW e'.1 n 0:=λk e e' j b=>by
  obtain⟨K,K',m,t,cj⟩:=(i k (vJ.1 j).1).2 e e' j b;exact cj.size m.cY m.isc t.cY t.isc
 refine⟨o,sz,?_⟩;have p:=s.pos;have q:=dD (show l.length- 1<l.length by omega);have z:=dD (show l'.length- 1<l'.length by omega);have:=sz (l.length- 1) _ _ q (by rw[o];exact z);unfold rM;rw[q,z];simp only[this]
end
section
variable {n:Nat} {a b:List (Nat×List Nat)} {x y:Nat×List Nat}
def nmS (x:Nat×List Nat):Prop:=HD x/\x.1<60
theorem nmS.cs (h:nmS x):x=(2, [67,50])∨x=(3, [67,51])∨x=(5, [67,53]):=by
 obtain⟨h,l⟩:=h;rcases h with h|h|h|rfl|rfl
 ·exact .inl h
 ·exact .inr (.inl h)
 ·exact .inr (.inr h)
 ·exact absurd l (by decide)
 ·exact absurd l (by decide)
theorem JG (h:nmS x): ∀b:List (Nat×List Nat),(∀y∈b,nmS y)->x.1∣fU b->x∈b
 | [],_,c=>by
  have c:x.1∣1:=c;have:=Nat.dvd_one.1 c;rcases h.cs with rfl|rfl|rfl<;>exact absurd this (by decide)
 |y::b,hb,c=>by
  have c:x.1∣y.1*fU b:=c;have d:=JG h b λz f=>hb z (wI _ f)
  have i:=(hb y tQ).cs
  obtain⟨P,j⟩: ∃P,fU b=P:=⟨_,rfl⟩
  rw[j] at c d
  rcases h.cs with rfl|rfl|rfl<;>rcases i with rfl|rfl|rfl<;>
   first
   |exact tQ
   |(refine wI _ (d ?_);revert c;show _∣_*P->_∣P;intro c;simp only at c ⊢;omega)
theorem OC (h: ∀y∈b,1<y.1)(e:fU b=1):b= []:=by
 cases b with
 |nil=>rfl
 |cons y r=>
  have e:y.1*fU r=1:=e;have:=Nat.dvd_one.1 ⟨_,e.symm⟩;have:=h y tQ;omega
theorem HD.gt (h:HD x):1<x.1:=by rcases h with rfl|rfl|rfl|rfl|rfl<;>decide
theorem Fv: ∀(a b:List (Nat×List Nat)),(∀x∈a,nmS x)->(∀x∈b,nmS x)->fU a=fU b->a.Perm b
 | [],b,_,hb,e=>by rw[OC (λy c=>(hb y c).1.gt) e.symm]
 |x::a,b,ha,hb,e=>by
  have d:=ha x tQ;have m:x∈b:=JG d b hb ⟨fU a,e.symm⟩;have p:=List.perm_cons_erase m;have h:x.1*fU a=x.1*fU (b.erase x):=e.trans (Qu p);have f:=Nat.eq_of_mul_eq_mul_left (Nat.lt_trans Nat.zero_lt_one d.1.gt) h;exact (List.Perm.cons x (Fv a _ (λy c=>ha y (wI _ c)) (λy c=>hb y (List.mem_of_mem_erase c)) f)).trans p.symm
theorem Up: ∀{a:List (Nat×List Nat)},x∈a->x.1∣fU a
 |y::a,h=>by
  show _∣y.1*fU a;rcases vI.1 h with rfl|h
  ·exact Nat.dvd_mul_right _ _
  ·exact Nat.dvd_trans (Up h) (Nat.dvd_mul_left _ _)
theorem Tp (j: ∀x∈a,HD x)(l:fU a<=120)(p:0<fU a)(h:(a.all λx=>decide (x.1<60))=false): ∃r,a.Perm ((60, [65,53])::r)/\(∀x∈r,nmS x)/\fU a=60*fU r:=by
 obtain⟨x,f,c⟩:=List.all_eq_false.1 h;have c: ¬x.1<60:=λh=>c (decide_eq_true h)
 have d:=Nat.le_of_dvd p (Up f);have q:=List.perm_cons_erase f;have e:=Qu q;rcases j x f with rfl|rfl|rfl|rfl|rfl
 ·exact absurd (by decide) c
 ·exact absurd (by decide) c
 ·exact absurd (by decide) c
 ·refine⟨_,q,λy k=>?_,e⟩
  have i:=j y (List.mem_of_mem_erase k);refine⟨i,?_⟩;have e:fU a=60*fU (a.erase (60, [65,53])):=e;have d:=Nat.le_of_dvd om (Up k);omega
 ·have d:360<=fU a:=d
  omega
theorem VP (d: ∀x∈a,HD x)(f: ∀x∈b,HD x)(e:fU a=fU b)(l:fU a<=120)(p:0<fU a)(s:(a.all λx=>decide (x.1<60))=b.all λx=>decide (x.1<60)):a.Perm b:=by
 cases h:a.all λx=>decide (x.1<60) with
 |true=>
  rw[h] at s;exact Fv a b (λx c=>⟨d x c,of_decide_eq_true (zP.1 h x c)⟩) (λx c=>⟨f x c,of_decide_eq_true (zP.1 s.symm x c)⟩) e
 |false=>
  rw[h] at s;obtain⟨r,m,j,t⟩:=Tp d l p h;obtain⟨i,k,o,q⟩:=Tp f om om s.symm;exact (m.trans (List.Perm.cons _ (Fv r i j o om))).trans k.symm
theorem aaH (d:HD x)(c:HD y)(e:x.1=y.1):x=y:=by
 rcases d with rfl|rfl|rfl|rfl|rfl<;>rcases c with rfl|rfl|rfl|rfl|rfl<;>first|rfl|exact absurd e (by decide)
end
section
variable {n:Nat} {G H:List Nat->Prop} {c d:jZ} {l l':List jZ} {x:List Nat} {L L':List (List Nat)} {K K':List Nat} {rs rs':List (List Nat)}
theorem adL (h:n<=5)(j:dO n G)(g:aV n G c.1 c.2):iW c.1 n 0<=120:=by
 have m: ∀i,i<n->(c.1.getD i []).length<=n-i:=λi hi=>tK (λx b=>j.bF b) hi (g.asc i hi) (g.mem i hi)
 have a: ∀d i,i+d=n->iW c.1 d i<= [1,1,2,6,24,120].getD d 0:=by
  intro d
  induction d with
  |zero=>intro i _;simp [iW]
  |succ d ih=>
   intro i hi;unfold iW;have f:=ih (i+1) om;have o:=m i om;have k:(c.1.getD i []).length<=d+1:=om
   refine mY (Nat.mul_le_mul k f) ?_;have:d<=4:=om
   match d,this with
   |0,_=>decide
   |1,_=>decide
   |2,_=>decide
   |3,_=>decide
   |4,_=>decide
 refine mY (a n 0 om) ?_
 match n,h with
 |0,_=>decide
 |1,_=>decide
 |2,_=>decide
 |3,_=>decide
 |4,_=>decide
 |5,_=>decide
theorem FN (m:1<=n)(k:n<=5)(i:dO n G)(q:aV n G c.1 c.2)(E:cZ G L)(r:Ab n G L K)(o:zC n G L K rs):fU (kY (rs.map List.length))=iW c.1 n 0/\ ∀x∈kY (rs.map List.length),HD x:=by
 obtain⟨j,f,a⟩:=o.ex;have t:0<rs.length:=(vJ.1 f.hd).1;have b:=IZ (SW m k) om i E f r (rs.length- 1) om;rw[show rs.length- 1+1=(rs.map List.length).length by rw[iA];omega,List.take_length] at b;have h:rs.getD (rs.length- 1) []=j:=by rw[List.getD,f.la];rfl
 obtain⟨p,s⟩:=dB i q;rw[h,a,E.uniq p,s] at b;exact b
theorem QO {a b:List (Nat×List Nat)}(f: ∀x∈a,HD x)(p:a.Perm b):Ke a=Ke b:=by
 have q:=(Vs a a.length (fN _)).1;have r:=(Vs b b.length (fN _)).1;rw[List.take_length] at q r;have j:=Zr a;have o:=Zr b;have s:=(j.trans p).trans o.symm;refine Ry (R:=λx y=>HD x/\HD y/\x.1<=y.1) (λx y h k=>aaH h.1 h.2.1 (Nat.le_antisymm h.2.2 k.2.2)) s ?_ ?_
 ·exact q.imp_of_mem λi m h=>⟨f _ (j.mem_iff.1 i),f _ (j.mem_iff.1 m),h⟩
 ·exact r.imp_of_mem λi m h=>⟨f _ (p.mem_iff.2 (o.mem_iff.1 i)),f _ (p.mem_iff.2 (o.mem_iff.1 m)),h⟩
theorem VO (m:1<=n)(h:n<=5)(a:Wc n x G H)(b:dO n G)(f:aV n G c.1 c.2)(s:lX n false c l)(E:cZ G L)(p:Ab n G L K)(q:zC n G L K rs)
  (o:dO n H) (k:aV n H d.1 d.2) (t:lX n false d l') (u:cZ H L') (j:Ab n H L' K') (i:zC n H L' K' rs'):Dv rs=Dv rs':=by
 obtain⟨v,r⟩:=FN m h b f E p q
 obtain⟨w,F⟩:=FN m h o k u j i
 have e:=a.size b f o k
 have A:=Yq (SW m h) om b E f s q p
 have y:=Yq (SW m h) om o u k t i j
 have z:=(Xz a b f s o k t).2.2
 have N:=adL h b f
 have pos:0<iW c.1 n 0:=by
  obtain⟨B,J⟩:=dB b f;rw[←J];exact Rl ((B.mem _).2 b.one)
 unfold Dv
 rw[QO r (VP r F (v.trans (e.trans w.symm)) om om (by rw[←A,←y,z]))]
end
theorem aeQ {W:Nat->Prop}{h:H}{n:Nat}{p:V×V}{O:List (List Nat)}{R:List (List (List Nat))}{G:List Nat->Prop}(g:GC W h (.agg [.int .i64 (n:Int),p.1,p.2]) n O R G):dI p.1 p.1=true/\dI p.2 p.2=true:=by
 obtain⟨l,o,f,c,a,b,i,j,d,m,k⟩:=g.cw;simp only[V.agg.injEq,List.cons.injEq,true_and,and_true] at a;rw[a.1,a.2];exact⟨SV.dI b,SV.dI d⟩
theorem JN (u w y:V)(l s m:List Int)(h:H)(hu:SI h u l)(hw:SI h w s)(hy:SI h y m)(hl:(l.length:Int)<=2^63- 1)(hs:(s.length:Int)<=2^63- 1)(hm:(m.length:Int)<=2^63- 1):
  Ev T 9 [u,w,y] h (λv h'=>v= .bool true/\Fr h h'):=by
 refine dW tD rfl ?_
 simp(disch:=omega)only[go_sem,tD,aE]
 refine (CC h).mono ?_
 rintro _ h1 ⟨rfl,f1⟩
 simp(disch:=omega)only[go_sem]
 refine (DN u l 5 h1 (hu.mono f1) om om om).mono ?_
 rintro _ h2 ⟨n,vg,o,rfl,d3,m9,A2,gP,sg,f2⟩
 obtain⟨B,hB⟩: ∃B,h2.next=B:=⟨_,rfl⟩
 obtain⟨h3,e3,n3,g3,o3,f3⟩:=dK hB [.int .i64 0,.aD]
 obtain⟨h4,e4,n4,g4,o4⟩:=mV h3 B [.int .i64 (n:Int),vg]
 have b8:Fr h2 h4:=⟨om,λid Y=>by rw[o4 id om,o3 id om]⟩
 have wg:vg.one=true/\dI vg vg=true:=by obtain⟨ws,s,_⟩:=sg;exact⟨s.cT.2.1,s.dI⟩
 have d5:=(f1.trans f2).trans b8
 have i0: ∀b,Fr h4 b->b.cell B 0=some (.int .i64 (n:Int)):=λb f=>by rw[f.cell om,H.aF g4];rfl
 have a4: ∀b,Fr h4 b->b.cell B 1=some vg:=λb f=>by rw[f.cell om,H.aF g4];rfl
 simp(disch:=omega)only[go_sem,hB,e3,Go.Ay.vB h3 B 0 (v:= .int .i64 (n:Int)) (u:=vg) rfl wg.1,g3,Hy,e4,i0 h4 (Fr.refl _),a4 h4 (Fr.refl _)]
 refine (QI n vg o h4 d3 m9 gP om (sg.mono b8)).mono ?_
 rintro va h5 ⟨A,EA,lA,sA,f5⟩
 obtain⟨C,hC⟩: ∃C,h5.next=C:=⟨_,rfl⟩
 obtain⟨h6,e6,n6,g6,o6,f6⟩:=dK hC [w,.int .i64 0]
 have ww:=SV.cT hw
 have A0:=f5.next
 have y9:=f5.trans f6
 have y1:=d5.trans y9
 have t9:=d5.trans f5
 have nh:=t9.next
 have t7: ∀id r len c,w= .sl id r len c->id<h.next:=SV.in hw
 have t5:Tk h6 C s:=⟨w,0,g6,hw.mono y1,λid r len c e=>by have:=t7 _ _ _ _ e;omega,iB _,om⟩
 simp(disch:=omega)only[go_sem,Mu ww.1 ww.2.1,Pa h5 (v:=w) (u:= .int .i64 0) ww.2.1 rfl,hC,e6]
 refine (mB C s 3 h6 t5 om om om).mono ?_
 rintro _ h7 ⟨z,rfl,z0,z3,y5,f7⟩
 obtain⟨k0,rfl⟩: ∃k:Nat,z=(k:Int):=⟨z.toNat,om⟩
 have n7:=f7.next
 have pA:0<A.length:=Rl ((EA.mem _).2 (bM.one))
 have z7:dI va va=true:=by obtain⟨ws,s,_⟩:=sA;exact s.dI
 have q5:=sA.lens
 rw[iA] at q5
 obtain⟨z4,m7,o5,q9,j0,p4,n5,j9⟩:=sA.open
 rw[iA] at q9 j0 p4 n5
 have j7:=j0 pA
 simp(disch:=omega)only[go_sem]
 refine bQ (λvs b=> ∃J S,(∃g:Nat->V,vs= [g 0,g 1,y,g 3,.bool true,.ptr B 0,g 6,g 7,J,g 9,g 10,g 11,g 12,g 13,g 14,g 15,g 16,g 17,g 18,g 19,g 20,g 21,g 22,g 23,g 24,g 25,g 26,g 27,g 28,g 29,g 30,g 31,g 32,g 33])/\S.length<=3/\(∀x∈S,bM n (· ∈o) x)/\SP b J S/\Fr h5 b) ?_ ?_
 ·refine aI (λk' vs b=> ∃(k:Nat) (S:List (List Nat)) (J:V) (wm:List V),(∃g:Nat->V,vs= [g 0,g 1,y,g 3,.bool true,.ptr B 0,va,.ptr C 0,J,.int .i64 (k:Int),g 10,g 11,g 12,g 13,g 14,g 15,g 16,g 17,g 18,g 19,g 20,g 21,g 22,g 23,g 24,g 25,g 26,g 27,g 28,g 29,g 30,g 31,g 32,g 33])/\S.length+k<=3/\(∀x∈S,bM n (· ∈o) x)/\Tk b C s/\dH b J 1 wm (C+1)/\dZ (λq=>q=C∨bY J q) b wm S/\Ah C h6 b/\k'=k) k0
   ⟨k0, [],.aD, [],aB rfl,by simp;omega,λx hx=>absurd hx List.not_mem_nil,y5,dH.aD _ _ _,trivial,f7,rfl⟩ ?_
  rintro k' N h8 ⟨k,S,J,wm,⟨g,rfl⟩,hk,gS,y3,ow,a6,f8,rfl⟩
  have F8:Fr h5 h8:=f8.fr f6 om
  by_cases a8:(0:Int)<(k':Int)
  case neg=>
   have d1:decide ((0:Int)<(k':Int))=false:=decide_eq_false a8;simp(disch:=omega)only[go_sem,d1];exact⟨J,S,aB rfl,om,gS,dZ.sp' ow.sv a6,F8⟩
  have d1:decide ((0:Int)<(k':Int))=true:=decide_eq_true a8
  simp(disch:=omega)only[go_sem,d1,q5]
  refine (mB C s (A.length:Int) h8 y3 om om om).mono ?_
  rintro _ h9 ⟨z,rfl,z0,z3,l0,f9⟩
  obtain⟨i,rfl⟩: ∃k:Nat,z=(k:Int):=⟨z.toNat,om⟩
  have n8:=f8.next
  have n9:=f9.next
  have hi:i<A.length:=om
  have F9:Fr h5 h9:=(f8.trans f9).fr f6 om
  have s0:=xJ j9 hi
  have ci:h9.cell z4 (m7+i)=some (o5.getD i .undef):=by rw[F9.cell j7,n5 i hi]
  have gi:bM n (· ∈o) (A.getD i []):=(EA.mem _).1 (bC hi)
  generalize o5.getD i .undef=v3 at s0 ci
  generalize A.getD i []=p at s0 gi
  have c3:=vE s0
  obtain⟨Q,hQ⟩: ∃Q,h9.next=Q:=⟨_,rfl⟩
  obtain⟨Z,u0,t1,v7,j8,j6⟩:=dK hQ [v3]
  have e1:=λid r m c (e:J=V.sl id r m c)=>ow.in id r m c e
  have y4:dH h9 J 1 wm (C+1):=ow.mono om λid r n c e h1 h2=>f9.get id h2 om
  have o2:=y4.fr j6
  have o8:=aN.length a6
  obtain⟨t,t6,l5⟩:=o2.push (bytes:=24) (SV.one om v7 (.kn 1)) (n:=S.length) (m:=1) om rfl om om om
  have t2:=l5.next
  have j4:Fx (bY J) Z t:=l5.fx λk r m c e=>⟨r,m,c,e⟩
  have nb: ∀k,k<=C-> ¬bY J k:=λk hk ⟨r,m,c,e⟩=>by have:=(e1 _ _ _ _ e).2.1;omega
  have m0:Fx (λq=>q=C∨bY J q) h8 t:=⟨om,λid Y hw=>by
   rw[j4.get id om (λh=>hw (.inr h)),j8 id om,f9.get id Y (λh=>hw (.inl h))]⟩
  have c8:Ah C h6 t:=⟨om,λid Y r0=>by
   rw[j4.get id om (nb id om),j8 id om,f9.get id om r0,f8.get id Y r0]⟩
  have c6:Fr h5 t:=c8.fr f6 om
  have r3:Tk t C s:=l0.low om λid Y=>by rw[j4.get id om (nb id Y),j8 id om]
  simp(disch:=omega)only[go_sem,q9.ixa,ci,cK _ (z:= .aD) c3.1 c3.2,hQ,u0,t6]
  rw[show (k':Int)- 1=((k'- 1:Nat):Int) from om]
  refine⟨k'- 1,om,k'- 1,S++ [p],_,_,aB rfl,by rw[iV];simp;omega,?_,r3,l5.own om rfl om,?_,c8,rfl⟩
  ·intro x hx
   rcases oD.1 hx with h|h
   ·exact gS x h
   ·rw[List.mem_singleton.1 h];exact gi
  ·refine (dZ.go a6 m0 λq hq hw=>?_).append (dZ.one ⟨s0.mono c6,?_⟩)
   ·rcases hw with h|⟨r,m,c,e⟩
    ·exact .inl h
    ·cases e;omega
   ·cases v3 with
    |sl k r m c=>
     have:=SV.in s0 _ _ _ _ rfl;rintro (h|⟨s5,m',c',e⟩)
     ·omega
     ·cases e;omega
    |_=>trivial
 rintro N h8 ⟨vb,S,⟨g,rfl⟩,lS,gS,sS,u5⟩
 have l6:=f5.trans u5
 obtain⟨D,hD⟩: ∃D,h8.next=D:=⟨_,rfl⟩
 obtain⟨h9,e9,n9,g9,o9,f9⟩:=dK hD [y,.int .i64 0]
 have wy:=SV.cT hy
 have w8: ∀id r len c,y= .sl id r len c->id<h.next:=SV.in hy
 have p0:=l6.trans f9
 have nF:=(d5.trans l6).next
 have l0:Tk h9 D m:=⟨y,0,g9,hy.mono (d5.trans p0),λid r len c e=>by have:=w8 _ _ _ _ e;omega,iB _,om⟩
 have A1:dI vb vb=true:=by obtain⟨ws,s,_⟩:=sS;exact s.dI
 simp(disch:=omega)only[go_sem,Mu wy.1 wy.2.1,Pa h8 (v:=y) (u:= .int .i64 0) wy.2.1 rfl,hD,e9,i0 h9 p0]
 refine (BA D m n h9 om om l0 om).mono ?_
 rintro vx Z ⟨ix,x,mp,B4,z5,j6⟩
 have X:=mp.bF
 have sx:=mp.si
 have j2:Fr h8 Z:=j6.fr f9 om
 have c0:=l6.trans j2
 have e8:=(sg.mono b8).mono c0
 have lg:=e8.lens
 rw[iA] at lg
 obtain⟨id,r,ws,sh,Y,w6,hc,r9⟩:=e8.open
 rw[iA] at sh Y w6 hc
 have i5:=SV.dI sx
 simp(disch:=omega)only[go_sem]
 refine bQ (λvs b=> ∃J,(∃g:Nat->V,vs= [g 0,g 1,g 2,g 3,.bool true,.ptr B 0,g 6,g 7,vb,g 9,g 10,J,g 12,g 13,g 14,g 15,g 16,g 17,g 18,g 19,g 20,g 21,g 22,g 23,g 24,g 25,g 26,g 27,g 28,g 29,g 30,g 31,g 32,g 33])/\SP b J (o.map λg=>aT g x)/\Fr Z b) ?_ ?_
 ·refine aI (λk' N b=> ∃(i:Nat) (J:V) (wm:List V),(∃g:Nat->V,N= [g 0,g 1,g 2,g 3,.bool true,.ptr B 0,g 6,g 7,vb,g 9,vx,J,.int .i64 (i:Int),g 13,g 14,g 15,g 16,g 17,g 18,g 19,g 20,g 21,g 22,g 23,g 24,g 25,g 26,g 27,g 28,g 29,g 30,g 31,g 32,g 33])/\i<=o.length/\dH b J 1 wm Z.next/\dZ (bY J) b wm ((o.take i).map λg=>aT g x)/\Fr Z b/\k'=o.length-i) o.length
   ⟨0,.aD, [],aB rfl,iB _,dH.aD _ _ _,trivial,Fr.refl Z,rfl⟩ ?_
  rintro k' N t ⟨i,J,wm,⟨g,rfl⟩,hi,ow,a6,F,rfl⟩
  by_cases a8:(i:Int)<(o.length:Int)
  case neg=>
   have d1:decide ((i:Int)<(o.length:Int))=false:=decide_eq_false a8;obtain rfl:i=o.length:=om
   simp(disch:=omega)only[go_sem,a4 t (c0.trans F),lg,d1];rw[List.take_length] at a6;exact⟨J,aB rfl,dZ.sp' ow.sv a6,F⟩
  have d1:decide ((i:Int)<(o.length:Int))=true:=decide_eq_true a8
  have g1:i<o.length:=om
  have cell: ∀b,Fr Z b->b.cell id (r+i)=some (ws.getD i .undef):=λb f=>by rw[f.cell (Y om),hc i g1]
  have a4: ∀b,Fr Z b->b.cell B 1=some vg:=λb f=>a4 b (c0.trans f)
  have s0:=xJ r9 g1
  have A:aY n (o.getD i []):=gP _ (bC g1)
  have k8:=SV.dI ow.sv
  generalize ws.getD i .undef=va at cell s0
  have g7:=SV.dI s0
  simp(disch:=omega)only[go_sem,a4 t F,lg,d1,sh.ixa,cell t F]
  have fb:Fr t (H.mk t.tr (t.next+14)):=(Fr.refl t).bH om
  have Fb:=F.trans fb
  refine (HJ vx n x _ om X (sx.mono Fb)).mono ?_
  rintro v1 b6 nw
  have c8:=nw.fr
  have c6:=Fb.trans c8
  have s1:=(nw.pv (W:=λ_=>False) (λh=>h)).si
  have a7:=SV.dI s1
  simp(disch:=omega)only[go_sem,a4 b6 c6,cell b6 c6,i5,k8,g7,wg.2]
  refine (vT v1 va (bZ x) (o.getD i []) b6 (by rw[X.inv.len];omega) s1 (s0.mono c6) (λj hj=>by rw[A.len];exact X.inv.fX (by rw[←X.inv.len];exact hj))).mono ?_
  rintro v2 c4 ⟨s2,g0,A6⟩
  have g5:=c6.trans g0
  have XA:=X.inv.mul A
  have a5:=SV.dI s2
  simp(disch:=omega)only[go_sem,a4 c4 g5,cell c4 g5,i5,k8,g7,wg.2,a7,a5]
  refine (vT v2 vx _ x c4 (by rw[XA.len];omega) s2 (sx.mono g5) (λj hj=>by rw[X.len];exact XA.fX (by rw[←XA.len];exact hj))).mono ?_
  rintro v3 G ⟨s3,i4,x3⟩
  have p7:=g5.trans i4
  have p9:=SV.dI s3
  have c3:=vE s3
  simp(disch:=omega)only[go_sem,a4 G p7,cell G p7,i5,k8,g7,wg.2,a7,a5,p9,cK _ (z:= .aD) c3.1 c3.2]
  obtain⟨hd,c9⟩: ∃hd:H,hd=H.mk ((H.mk G.tr (t.next+11)).new (Ob.cells false [v3])).tr G.next:=⟨_,rfl⟩
  rw[←c9]
  obtain⟨Q,hQ⟩: ∃Q,t.next+11=Q:=⟨_,rfl⟩
  rw[hQ] at c9 ⊢
  have gd:hd.get Q=some (.cells false [v3]):=by rw[c9];exact H.aL (H.mk G.tr Q) _
  have od: ∀k,k≠Q->hd.get k=G.get k:=λk hk=>by rw[c9];exact H.bG (H.mk G.tr Q) hk _
  have nd:hd.next=G.next:=by rw[c9]
  have t1:t.next+14<=b6.next:=c8.next
  have t2:=g0.next
  have B0:=i4.next
  have j3:Fr t G:=((fb.trans c8).trans g0).trans i4
  have fd:Fr t hd:=⟨om,λk hk=>by rw[od k om];exact j3.get k hk⟩
  have o7:=ow.fr fd
  have s8:dZ (bY J) hd wm ((o.take i).map λg=>aT g x):=dZ.fx a6 (Fx.of fd)
  have e1:=λid r m c (e:J=V.sl id r m c)=>ow.in id r m c e
  have p3:PV (bY J) hd v3 (aT (o.getD i []) x):=by
   have q:PV (λk=>k=Q∨bY J k) G v3 (aT (o.getD i []) x):=by
    refine⟨s3,?_⟩
    cases v3 with
    |sl k r m c=>
     have:=x3 _ _ _ _ rfl;rintro (h|⟨s5,m',c',e⟩)
     ·omega
     ·have:=(e1 _ _ _ _ e).1;omega
    |_=>trivial
   exact PV.go q ⟨om,λk _ hk=>od k (λe=>hk (.inl e))⟩ (λk _ hk=> .inr hk)
  have o8:=aN.length a6
  rw[iA,zO] at o8
  obtain⟨b5,y2,i6⟩:=o7.push (bytes:=24) (SV.one om gd (.kn 1)) (n:=i) (m:=1) om rfl om om om
  have u6:=i6.next
  have j5:Fr Z b5:=vG.frb i6 (F.trans fd) o7
  simp(disch:=omega)only[go_sem,y2,a4 b5 j5,cell b5 j5,i5,g7,wg.2,a7,a5,p9]
  rw[show (i:Int)+1=((i+1:Nat):Int) from om]
  have n0:Fx (bY J) hd b5:=i6.fx λk r m c e=>⟨r,m,c,e⟩
  have j1: ∀k,k<hd.next->bY (.sl hd.next 0 (i+1) (.un 1)) k->bY J k:=λk hk ⟨r,m,c,e⟩=>by cases e;omega
  have e9:=F.next
  refine⟨o.length-(i+1),om,i+1,_,_,aB rfl,om,i6.own om rfl om,?_,j5,rfl⟩
  rw[eY [] g1,List.map_append]
  exact (dZ.go s8 n0 j1).append (dZ.one (PV.go p3 n0 j1))
 rintro N t ⟨J,⟨g,rfl⟩,sm,F⟩
 have mP: ∀g∈o.map (λg=>aT g x),aY n g:=λg hg=>by
  obtain⟨a,ha,rfl⟩:=pH.1 hg;exact dC (gP a ha) X
 have i7:=c0.trans F
 have r4: ∀b,Fr h4 b->b.row B 0 2=some [.int .i64 (n:Int),vg]:=λb f=>Io (by rw[f.get B om];exact g4)
 simp(disch:=omega)only[go_sem,r4 t i7]
 refine (agE vg n o t d3 om om (e8.mono F) gP).mono ?_
 rintro _ b6 ⟨vc,O,R,rfl,m5,g0⟩
 obtain⟨u1,w1,rfl,a1,b1,_,_⟩:=m5.sl
 obtain⟨C1,p6⟩: ∃C,b6.next=C:=⟨_,rfl⟩
 obtain⟨c4,x0,A9,y7,y8,i4⟩:=dK p6 [.int .i64 0,.aD,.aD]
 obtain⟨G,x7,u6,x6,y6⟩:=mV c4 C1 [.int .i64 (n:Int),u1,w1]
 have d9:Fr b6 G:=⟨om,λid Y=>by rw[y6 id om,y8 id om]⟩
 have l8:=m5.mono d9
 have a9:=g0.trans d9
 have e0:=i7.trans a9
 have rC: ∀b,Fr G b->b.row C1 0 3=some [.int .i64 (n:Int),u1,w1]:=λb f=>aJ (by rw[f.get _ om];exact x6)
 simp(disch:=omega)only[go_sem,p6,x0,cF c4 C1 0 (v:= .int .i64 (n:Int)) (u:=u1) (w:=w1) rfl a1 b1,y7,cH,x7,i0 G e0]
 have w0: ∀g∈S,aY n g:=λg hg=>(gS g hg).bF gP
 have m2:Fr h8 G:=(j2.trans F).trans a9
 refine (rL vb n S G d3 om om (sS.mono m2) w0).mono ?_
 rintro _ b5 ⟨vd,O',R',rfl,p8,p5⟩
 obtain⟨u2,w2,rfl,a2,b2,_,_⟩:=p8.sl
 obtain⟨C2,m6⟩: ∃C,b5.next=C:=⟨_,rfl⟩
 obtain⟨m1,z1,A3,v9,u9,z8⟩:=dK m6 [.int .i64 0,.aD,.aD]
 obtain⟨i3,z2,A8,x8,w4⟩:=mV m1 C2 [.int .i64 (n:Int),u2,w2]
 have z6:=p5.next
 have e5:Fr b5 i3:=⟨om,λid Y=>by rw[w4 id om,u9 id om]⟩
 have q6:=p8.mono e5
 have b4:=p5.trans e5
 have s4:=e0.trans b4
 have rD: ∀b,Fr i3 b->b.row C2 0 3=some [.int .i64 (n:Int),u2,w2]:=λb f=>aJ (by rw[f.get _ om];exact x8)
 simp(disch:=omega)only[go_sem,m6,z1,cF m1 C2 0 (v:= .int .i64 (n:Int)) (u:=u2) (w:=w2) rfl a2 b2,v9,cH,z2,i0 i3 s4]
 refine (rL J n _ i3 d3 om (by rw[iA];omega) (sm.mono (a9.trans b4)) mP).mono ?_
 rintro _ n2 ⟨ve,O2,R2,rfl,n1,o0⟩
 obtain⟨u3,w3,rfl,a3,b3,_,_⟩:=n1.sl
 obtain⟨C3,r6⟩: ∃C,n2.next=C:=⟨_,rfl⟩
 obtain⟨o1,s9,A7,u8,x9,B5⟩:=dK r6 [.int .i64 0,.aD,.aD]
 obtain⟨c5,t0,A5,v0,w7⟩:=mV o1 C3 [.int .i64 (n:Int),u3,w3]
 have B2:=o0.next
 have d7:Fr n2 c5:=⟨om,λid Y=>by rw[w7 id om,x9 id om]⟩
 have a0:=n1.mono d7
 have b9:=o0.trans d7
 have b0:=b4.trans b9
 have P:=l8.mono b0
 have d6:=q6.mono b9
 have i8:=d5.trans (e0.trans b0)
 have rE: ∀b,Fr c5 b->b.row C3 0 3=some [.int .i64 (n:Int),u3,w3]:=λb f=>aJ (by rw[f.get _ om];exact v0)
 have rC: ∀b,Fr c5 b->b.row C1 0 3=some [.int .i64 (n:Int),u1,w1]:=λb f=>rC b (b0.trans f)
 have rD: ∀b,Fr c5 b->b.row C2 0 3=some [.int .i64 (n:Int),u2,w2]:=λb f=>rD b (b9.trans f)
 simp(disch:=omega)only[go_sem,r6,s9,cF o1 C3 0 (v:= .int .i64 (n:Int)) (u:=u3) (w:=w3) rfl a3 b3,u8,cH,t0,rC c5 (Fr.refl _)]
 refine (vZ _ n O R _ c5 P).mono ?_
 rintro _ q7 ⟨l1,q1,rfl,k2⟩
 simp(disch:=omega)only[go_sem,rD q7 k2]
 refine (vZ _ n O' R' _ q7 (d6.mono k2)).mono ?_
 rintro _ s7 ⟨l2,q2,rfl,v8⟩
 have k9:=k2.trans v8
 simp(disch:=omega)only[go_sem,rC s7 k9]
 refine (vA _ n O R _ s7 (P.mono k9)).mono ?_
 rintro _ l9 ⟨v3,q8,l3,rfl,w9,e2,q3,w5⟩
 have k5:=k9.trans w5
 simp(disch:=omega)only[go_sem,rE l9 k5]
 refine (vA _ n O2 R2 _ l9 (a0.mono k5)).mono ?_
 rintro _ r7 ⟨v4,r5,l4,rfl,u7,i9,q4,q0⟩
 have b8:=k5.trans q0
 simp(disch:=omega)only[go_sem,rC r7 b8]
 refine (Fw _ n O R _ r7 (P.mono b8)).mono ?_
 rintro _ m8 ⟨v5,L,K,rs,rfl,eL,ik,cl,l7,z9,k6⟩
 have k7:=b8.trans k6
 simp(disch:=omega)only[go_sem,rE m8 k7]
 refine (Fw _ n O2 R2 _ m8 (a0.mono k7)).mono ?_
 rintro _ c7 ⟨v6,L',K',B1,rfl,x4,y0,x5,k3,B3,f4⟩
 have s6:=k7.trans f4
 obtain rfl:=q1.uniq q3
 have hG:=P.cY
 have hH:=d6.cY
 have hM:=a0.cY
 have cj:Wc n x (bM n (· ∈o)) (bM n (· ∈o.map λg=>aT g x)):=by
  refine⟨X,λy hy=>hy.bF gP,λy hy=>hy.bF mP,λy hy=>(Zz gP X _).2 ⟨y,hy,rfl⟩,λy hy=>?_⟩;obtain⟨g,hg,rfl⟩:=(Zz gP X _).1 hy;rw[Wc.back X (hg.bF gP)];exact hg
 obtain⟨sl,ss,_⟩:=Xz cj hG (c:=(O,R)) P.isc q1 hM (d:=(O2,R2)) a0.isc q4
 have sub:=WL hG (c:=(O,R)) P.isc q1 hH (d:=(O',R')) d6.isc q2 λx hx=>bM.le hG gS hx
 have E:=(dB hG P.isc).1
 rw[eL] at E
 have E':=(dB hM a0.isc).1
 rw[x4] at E'
 have t8:=VO d3 m9 cj hG (c:=(O,R)) P.isc q1 E ik cl hM (d:=(O2,R2)) a0.isc q4 E' y0 x5
 rw[←t8] at k3
 have lb:=q1.short hG (c:=(O,R)) P.isc e2
 have m3:=aN.length e2
 have m4:=aN.length i9
 have e7:=(q0.trans k6).trans f4
 have d8:=k6.trans f4
 have t3:=w9.mono e7
 have t4:=u7.mono d8
 have e3:bL v3=some (.int .i64 (l1.length:Int)):=by unfold bL;rw[SV.len t3 (n:=l1.length) (by rw[jP,m3]) om];rfl
 have e4:bL v4=some (.int .i64 (l1.length:Int)):=by unfold bL;rw[SV.len t4 (n:=l1.length) (by rw[jP,m4,sl]) om];rfl
 have d0:decide ((0:Int)≠0)=false:=rfl
 have dl:decide ((l1.length:Int)≠(l1.length:Int))=false:=decide_eq_false λh=>h rfl
 simp(disch:=omega)only[go_sem,d0,e3,e4,dl,xX]
 refine bQ (λvs b=>(∃g:Nat->V,vs= [g 0,g 1,g 2,g 3,.bool true,g 5,g 6,g 7,g 8,g 9,g 10,g 11,g 12,g 13,g 14,g 15,.bool (rM n l1),g 17,.bool (rM n l2),g 19,g 20,g 21,g 22,g 23,v5,g 25,v6,g 27,g 28,g 29,g 30,g 31,g 32,g 33])/\Fr c7 b) ?_ ?_
 ·refine aI (λk' N b=> ∃(i:Nat),(∃g:Nat->V,N= [g 0,g 1,g 2,g 3,.bool true,g 5,g 6,g 7,g 8,g 9,g 10,g 11,g 12,g 13,g 14,g 15,.bool (rM n l1),g 17,.bool (rM n l2),g 19,v3,g 21,v4,g 23,v5,g 25,v6,g 27,.int .i64 (i:Int),g 29,g 30,g 31,g 32,g 33])/\i<=l1.length/\Fr c7 b/\k'=l1.length-i) l1.length
   ⟨0,aB rfl,iB _,Fr.refl _,rfl⟩ ?_
  rintro k' N b ⟨i,⟨g,rfl⟩,hi,F,rfl⟩
  by_cases a8:(i:Int)<(l1.length:Int)
  case neg=>
   have d2:decide ((i:Int)<(l1.length:Int))=false:=decide_eq_false a8;simp(disch:=omega)only[go_sem,e3,d2];exact⟨aB rfl,F⟩
  have d2:decide ((i:Int)<(l1.length:Int))=true:=decide_eq_true a8
  have r8:i<l1.length:=om
  obtain⟨r1,p1,k1,c1,i1⟩:=SV.rec (k:=3) (f:=λp:V×V=> [.int .i64 (n:Int),p.1,p.2]) om (λ_=>rfl) (show SV c7 v3 3 (q8.flatMap _) from t3) (i:=i) om
  obtain⟨r2,p2,k4,c2,i2⟩:=SV.rec (k:=3) (f:=λp:V×V=> [.int .i64 (n:Int),p.1,p.2]) om (λ_=>rfl) (show SV c7 v4 3 (r5.flatMap _) from t4) (i:=i) om
  obtain⟨G1,g8,_⟩:=aN.get e2 i om r8
  obtain⟨G2,g2,_⟩:=aN.get i9 i om om
  have es:=ss i _ _ (dD r8) (dD (show i<l4.length by omega))
  generalize q8[i]'om=x1 at c1 g8
  generalize r5[i]'om=x2 at c2 g2
  generalize l1[i]=a1 at g8 es
  generalize l4[i]'om=a2 at g2 es
  have c1: ∀b,Fr c7 b->b.row r1 (p1+i*3) 3=some [.int .i64 (n:Int),x1.1,x1.2]:=λb f=>by unfold H.row at c1 ⊢;rw[f.get _ i1];exact c1
  have c2: ∀b,Fr c7 b->b.row r2 (p2+i*3) 3=some [.int .i64 (n:Int),x2.1,x2.2]:=λb f=>by unfold H.row at c2 ⊢;rw[f.get _ i2];exact c2
  have a7:=aeQ g8
  have a5:=aeQ g2
  have d4:decide (((iW a2.1 n 0:Nat):Int)≠((iW a2.1 n 0:Nat):Int))=false:=decide_eq_false λh=>h rfl
  have fb:Fr b (H.mk b.tr (b.next+11)):=(Fr.refl b).bH om
  simp(disch:=omega)only[go_sem,e3,d2,k1.ixa,k4.ixa,c1 b F,c2 b F]
  refine (Qq _ n a1.1 a1.2 G1 _ (g8.mono ((e7.trans F).trans fb))).mono ?_
  rintro _ f0 ⟨rfl,u4⟩
  have U:=(F.trans fb).trans u4
  simp(disch:=omega)only[go_sem,k1.ixa,k4.ixa,c1 f0 U,c2 f0 U,a7.1,a7.2,a5.1,a5.2]
  refine (Qq _ n a2.1 a2.2 G2 _ (g2.mono (d8.trans U))).mono ?_
  rintro _ h0 ⟨rfl,b7⟩
  rw[es]
  simp(disch:=omega)only[go_sem,k1.ixa,k4.ixa,c1 h0 (U.trans b7),c2 h0 (U.trans b7),a7.1,a7.2,a5.1,a5.2,d4]
  rw[show (i:Int)+1=((i+1:Nat):Int) from om]
  exact⟨l1.length-(i+1),om,i+1,aB rfl,om,U.trans b7,rfl⟩
 rintro N f0 ⟨⟨g,rfl⟩,U⟩
 cases hf1:rM n l1 with
 |false=>
  simp(disch:=omega)only[go_sem];refine (Vu v5 v6 (Dv rs) f0 om (l7.mono (f4.trans U)) (k3.mono U)).mono ?_;rintro _ h0 ⟨rfl,b7⟩;simp(disch:=omega)only[go_sem];exact i8.trans (s6.trans (U.trans b7))
 |true=>
  rw[sub hf1];simp(disch:=omega)only[go_sem];refine (Vu v5 v6 (Dv rs) f0 om (l7.mono (f4.trans U)) (k3.mono U)).mono ?_;rintro _ h0 ⟨rfl,b7⟩;simp(disch:=omega)only[go_sem];exact i8.trans (s6.trans (U.trans b7))
end Go.Proofs.YtcdbmkidaecdiaaGreat
