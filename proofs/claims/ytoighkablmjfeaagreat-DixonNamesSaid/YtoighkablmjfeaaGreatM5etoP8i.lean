/- Texts of the claim. -/
import Derived.Test.YtoighkablmjfeaaGreatP7atoM5d
import Derived.Test.YtoighkablmjfeaaGreatAy14toP5q
import Derived.Test.YtoighkablmjfeaaGreatAy1toAy13
import Derived.ChangeSlices
import Derived.ChangeSame
import Derived.Deep.Matrix
import Derived.Test.YtoighkablmjfeaaGreatP5rtoP6v
set_option maxHeartbeats 32000000
set_option maxRecDepth 100000
namespace Go.Proofs.YtoighkablmjfeaaGreat.Ln
open Go Go.Ay
theorem r1E {h:H}{E n M:Nat}{p:Int}(g:h.get E=some (.cells false [aC p,aC n,.mp M])):h.row E 0 1=some [aC p]:=by
 unfold H.row;rw[g];rfl
theorem Ny (n m:Nat)(u:Nat->Int):eN (n+m) u=eN n u++eN m (λi=>u (n+i)):=by
 refine (tE (by rw[eE,aW,aW]) λk a=>?_).symm
 by_cases e:k<n
 .rw[gV,Aw (by rw[aW];exact e),<-gV,cZ _ e]
 .rw[gV,Hs (by rw[aW];omega),<-gV,aW,cZ _ om,show n+(k-n)=k by omega]
theorem Bk.pre {h:H}{N W n:Nat}{u:Nat->Int}(b:Bk h N W u)(c:n<=W)(a:N<h.next)(cap:qD):SI h (.sl N 0 n cap) (eN n u):=by
 obtain⟨m,rfl⟩:=Nat.le.dest c
 have:Bt h N n u (ints (eN m λi=>u (n+i))):=by
  rw[Bt,<-fQ,<-Ny];exact b
 exact this.si a cap
theorem Pa (p:Int)(E M n W:Nat)(S:Nat->Bool)(ρ:Nat->Nat)(f:Nat->Nat->Int)(lo:Nat)(v:V)(l:List Int)(u:Nat->Int)(h:H)(k:Ec h E M n W p S ρ f lo)(a4:lo<=h.next)(hv:SI h v l)(hl:l.length=W)(hW:W<=1000)(c0:n<=W)(hp:cF p=true)(e6:p<10000)
  (hf: ∀c j,c<n->S c=true->j<W->0<=f c j/\f c j<p)
  (hu:u=zW p S f (λi=>l.getD i 0%p) n) (hz: ∀c,c<n->S c=true->u c=0):
  Ev T 192 [.ptr E 0,v] h (λw h'=>(∀b0,Fr b0 h->b0.next<=lo->Fr b0 h')/\h.next<=h'.next/\(∀id,id<h.next->id≠M->(∀c,c<n->S c=true->id≠ρ c)->h'.get id=h.get id)/\((w= .bool false/\(∀i,i<n->u i=0)/\Ec h' E M n W p S ρ f lo)\/
   (w= .bool true/\ ∃at_ x N,at_<n/\(∀i,i<at_->u i=0)/\0<u at_/\0<=x/\x<p/\x*u at_%p=1/\h.next<=N/\
    Ec h' E M n W p (λc=>if c=at_ then true else S c) (Ef ρ at_ N) (λc=>if c=at_ then (λj=>(u j+(x+p- 1)*u j)%p) else Np p f at_ (λj=>(u j+(x+p- 1)*u j)%p) c) lo))):=by
 subst hl
 have a1:0<p/\p<10000:=⟨by have:=Kh hp;have:=this.two;omega,e6⟩
 have ur: ∀j,j<l.length->0<=u j/\u j<p:=λj Q=>by rw[hu];exact qL a1.1 (bX _ a1.1) n
 refine mV ?_
 have wv:=SV.cT hv
 have k1:=k.ltE
 have k2:=k.ltM
 have k3:=k.ltR
 have c9:=λr (id x:Nat)=>eH (y:=V.sl x 0 l.length (.kn l.length)) rfl rfl r id 0
 simp(disch:=omega)only[go_sem,aV,HE,λr=>Rj r wv.1 wv.2.1]
 have l1:Fr h (h.new (.cells false [.ptr E 0])):=(Fr.refl h).new _
 have i3:(h.new (.cells false [.ptr E 0])).get h.next=some (.cells false [.ptr E 0]):=H.aI ..
 have f8:(h.new (.cells false [.ptr E 0])).next=h.next+1:=H.aM ..
 generalize h.new (.cells false [.ptr E 0])=h1 at*
 rw[<-f8]
 have d4:Fr h1 (h1.new (.cells false [v])):=(Fr.refl h1).new _
 have k6:(h1.new (.cells false [v])).get h1.next=some (.cells false [v]):=H.aI ..
 have l9:(h1.new (.cells false [v])).next=h1.next+1:=H.aM ..
 generalize h1.new (.cells false [v])=h2 at*
 obtain⟨B,c4⟩: ∃X,h.next=X:=⟨_,rfl⟩
 obtain⟨X3,f3⟩: ∃X,h1.next=X:=⟨_,rfl⟩
 have F2:=l1.trans d4
 have q2:h2.get B=some (.cells false [.ptr E 0]):=by rw[<-c4];exact (d4.get _ om).trans i3
 have q3:h2.get X3=some (.cells false [v]):=by rw[<-f3];exact k6
 have c2:h2.cell B 0=some (.ptr E 0):=by rw[H.cell_of q2];rfl
 have c3:h2.cell X3 0=some v:=by rw[H.cell_of q3];rfl
 rw[c4,f3]
 try simp(disch:=omega)only[go_sem,c2,c3]
 refine (CN p E M n l.length S ρ f lo v l h2 (k.fr F2) (hv.mono F2) rfl hW c0 a1 hf).mono ?_
 rintro w U ⟨N,rfl,N1,N2,bN,f4⟩
 rw[<-hu] at bN
 have d7:=f4.get X3 om
 rw[q3] at d7
 have pt:=λr:H=>bE (vs:= [v]) (off:=0) siM r X3 (.sl N 0 l.length (.kn l.length))
 have b2:=f4.get B om
 rw[q2] at b2
 have F4:=F2.trans f4
 have k4:=k.fr F4
 have F5:Fr h (U.set X3 (some (.cells false [.sl N 0 l.length (.kn l.length)]))):=F4.set om _
 have k5:Ec (U.set X3 (some (.cells false [.sl N 0 l.length (.kn l.length)]))) E M n l.length p S ρ f lo:=k.fr F5
 have b5:Bk (U.set X3 (some (.cells false [.sl N 0 l.length (.kn l.length)]))) N l.length u:=bN.ne om _
 have j1:(U.set X3 (some (.cells false [.sl N 0 l.length (.kn l.length)]))).get X3=some (.cells false [.sl N 0 l.length (.kn l.length)]):=H.aJ ..
 have g7:(U.set X3 (some (.cells false [.sl N 0 l.length (.kn l.length)]))).get B=some (.cells false [.ptr E 0]):=by rw[H.Cj _ om];exact b2
 have n5:(U.set X3 (some (.cells false [.sl N 0 l.length (.kn l.length)]))).next=U.next:=rfl
 have k8:U.cell B 0=some (.ptr E 0):=by rw[H.cell_of b2];rfl
 have i9:=k4.e1
 have sk:=λkk:IntKind=>WN (id:=N) (off:=0) (len:=l.length) (c:=l.length) (hi:=(n:Int)) (k:=kk) om om
 simp only[Mc] at sk
 refine wE c9 d7 pt k8 i9 sk ?_
 generalize U.set X3 (some (.cells false [.sl N 0 l.length (.kn l.length)]))=h5 at*
 have fb:Fr h5 (H.mk h5.tr (U.next+9)):=(Fr.refl h5).cU om
 have nb:(H.mk h5.tr (U.next+9)).next=U.next+9:=rfl
 generalize H.mk h5.tr (U.next+9)=h6 at*
 refine (Zn _ n u h6 ((b5.fr fb om).pre c0 om _) om).mono ?_
 rintro w G ⟨rfl,hw⟩
 obtain⟨s,i8⟩: ∃X,U.next+7=X:=⟨_,rfl⟩
 obtain⟨z,j4⟩: ∃z:Int,w= aC z:=by
  rcases hw with ⟨rfl,_⟩|⟨q,rfl,_⟩
  .exact⟨_,rfl⟩
  .exact⟨_,rfl⟩
 subst j4
 have gl:=xO G s [aC 0] G.next
 have c8:=λr:H=>bE (vs:= [aC 0]) (off:=0) siM r s (aC z)
 refine bM @Ih ?_
 rw[i8]
 try simp(disch:=omega)only[go_sem,gl,c8]
 have F7:Fr h5 ((pY G s [aC 0] G.next).set s (some (.cells false [aC z]))):=(Bo fb om om _).set om _
 have g5:((pY G s [aC 0] G.next).set s (some (.cells false [aC z]))).get s=some (.cells false [aC z]):=H.aJ ..
 have n7:((pY G s [aC 0] G.next).set s (some (.cells false [aC z]))).next=U.next+9:=nb
 generalize (pY G s [aC 0] G.next).set s (some (.cells false [aC z]))=h7 at*
 clear gl c8
 have a2:=F5.trans F7
 rcases hw with ⟨hw,d3⟩|⟨q,hw,j6,d5,g9⟩
 .simp only[V.int.injEq,true_and] at hw
  subst hw
  have dm:decide ((-1:Int)<0)=true:=deC
  refine bM dm ?_
  refine⟨λb0 f0 _=>f0.trans a2,by have:=a2.next;omega,λid q1 _ _=>a2.get id om,.inl ⟨λi hi=>?_,k.fr a2⟩⟩
  have:=ur i om
  have:=d3 i hi
  omega
 simp only[V.int.injEq,true_and] at hw
 subst hw
 rw[bZ (show ¬(q:Int)<0 by omega)]
 have e7:=(F7.get X3 om).trans j1
 have c7:=(F7.get B om).trans g7
 have b7:=b5.fr F7 om
 have g8:h7.cell B 0=some (.ptr E 0):=by rw[H.cell_of c7];rfl
 have i5:h7.cell X3 0=some (.sl N 0 l.length (.kn l.length)):=by rw[H.cell_of e7];rfl
 have g0:h7.cell s 0=some (aC q):=by rw[H.cell_of g5];rfl
 have cN:=b7.cell (i:=q) om
 have k7:=k.fr a2
 have j2:=k7.e0
 have i7:Fr h7 (H.mk h7.tr (h7.next+15)):=(Fr.refl h7).cU om
 refine nW g8 i5 g0 cN j2 ?_
 generalize H.mk h7.tr (h7.next+15)=h8 at*
 refine (DR (u q) p h8 hp e6 ⟨d5,(ur q om).2⟩).mono ?_
 rintro w h9 ⟨x,rfl,x1,x2,x3,f9⟩
 have Y:=i7.trans f9
 have c1:=(Y.get X3 om).trans e7
 have d8:=(Y.get B om).trans c7
 have h3:=(Y.get s om).trans g5
 have b9:=b7.fr Y om
 have k9:=k7.fr Y
 have f5:h9.cell B 0=some (.ptr E 0):=by rw[H.cell_of d8];rfl
 have i6:h9.cell X3 0=some (.sl N 0 l.length (.kn l.length)):=by rw[H.cell_of c1];rfl
 have f7:=k9.e0
 have f1:=r1E k9.gE
 have f2:(H.mk h9.tr (h9.next+15)).row E 0 1=some [aC p]:=f1
 have L:Fr h9 (H.mk h9.tr (h9.next+15)):=(Fr.refl h9).cU om
 have n9:=Y.next
 simp(disch:=omega)only[go_sem,f5,i6,f7,f1,f2,List.getElem?_cons_zero,List.getElem?_cons_succ]
 generalize H.mk h9.tr (h9.next+15)=i1 at*
 have d6:=b9.fr L om
 have l7:=L.next
 refine (Ex p (x+p- 1) N l.length l.length N 0 (.kn l.length) (.sl N 0 l.length (.kn l.length)) u u [] i1 d6.bt om ⟨rfl,λk i h1 h2=>lJ h1 h2,rfl,rfl⟩ (λ_=>om) (λj Q=>by rw[Nat.zero_add];exact d6.cell Q) (.inr rfl) (dN _) om a1 om (λj Q=>by have:=ur j Q;omega) (λj Q=>by have:=ur j Q;omega)).mono ?_
 rintro w m ⟨h0,a3⟩
 obtain⟨vv,b4⟩: ∃vv:Nat->Int,vv=λj=>(u j+(x+p- 1)*u j)%p:=⟨_,rfl⟩
 have b6:Bk m N l.length vv:=h0.bk.congr λj Q=>by rw[aS Q,b4]
 have vr: ∀j,0<=vv j/\vv j<p:=λj=>by rw[b4];exact bX _ a1.1
 have F9:Fr h h9:=a2.trans Y
 have j8:=F9.trans L
 have Z:Fr h m:=Fx.fr j8 om a3
 have e4:=(a3.get X3 om om).trans ((L.get X3 om).trans c1)
 have b1:=(a3.get B om om).trans ((L.get B om).trans d8)
 have e3:=(a3.get s om om).trans ((L.get s om).trans h3)
 have b8:m.cell B 0=some (.ptr E 0):=by rw[H.cell_of b1];rfl
 have l6:=a3.next
 refine bM b8 ?_
 refine (zB E m).mono ?_
 rintro w l8 ⟨rfl,rfl⟩
 have d1:Fr m (m.new (.cells false [.ptr E 0])):=(Fr.refl m).new _
 have a9:(m.new (.cells false [.ptr E 0])).get m.next=some (.cells false [.ptr E 0]):=H.aI ..
 have l4:(m.new (.cells false [.ptr E 0])).next=m.next+1:=H.aM ..
 generalize m.new (.cells false [.ptr E 0])=a6 at*
 obtain⟨X4,d0⟩: ∃X,m.next=X:=⟨_,rfl⟩
 rw[d0] at a9
 rw[d0]
 obtain⟨d,a8⟩: ∃X,a6.next=X:=⟨_,rfl⟩
 refine aT ?_
 rw[a8]
 generalize a7:dP.mk _ _ _ _ _ _=rc
 refine⟨rfl,?_⟩
 have hs:h.next<=B/\B<X3/\X3<N/\N<s/\s<X4/\X4<d:=⟨om,om,om,om,om,om⟩
 have R:Fr m (a6.new (.loop rc)):=d1.new _
 obtain⟨g,hg⟩: ∃g:Nat->Nat->Nat->Int,g=λc a=>if a<c then Np p f q vv a else f a:=⟨_,rfl⟩
 have J0:IJ p E M n l.length N B X3 X4 s d q S ρ (g 0) lo vv h rc (a6.new (.loop rc)):=
  ⟨(R.get _ om).trans b1,(R.get _ om).trans e4,by rw[H.bG _ om];exact a9,(R.get _ om).trans e3,by rw[<-a8];exact H.aI ..,b6.fr R om,((k.fr Z).fr R).congr (λc j _ _ _=>by rw[hg];simp only[aQ (Nat.not_lt_zero c)]),λb0 f0 _=>f0.trans (Z.trans R),by rw[H.aM];have:=Z.next;omega,by rw[H.aM];omega,λid q1 _ _=>(Z.trans R).get id om⟩
 have loop:Ev T 193 [.yl d,.ptr X4 0] (a6.new (.loop rc)) (λ_ r=>IJ p E M n l.length N B X3 X4 s d q S ρ (g n) lo vv h rc r):=by
  refine sU d X4 E M n l.length p S ρ (λc r=>IJ p E M n l.length N B X3 X4 s d q S ρ (g c) lo vv h rc r)
   (λc r J=>⟨J.g4,J.k.gE,J.k.gM⟩) (λc r F t J=>?_) (λc r F t J=>?_) _ J0 om
  .refine Ph J.gL (by rw[<-a7];rfl) ?_
   have lt:=J.lt;have Jb:=λrc'=>J.fl k1 k2 k3 a4 hs (h':=r.set d (some (.loop rc'))) (rc':=rc') ((Fx.refl d r).set _) (H.aJ ..)
   subst a7;simp(disch:=omega)only[go_sem,List.zip_cons_cons,List.zip_nil_left];refine⟨_,J.gL,rfl,?_⟩;generalize k0:dP.mk _ _ _ _ YZ.busy _=rb;have J2:=Jb rb;clear Jb
   obtain⟨O,a5⟩: ∃q,r.set d (some (.loop rb))=q:=⟨_,rfl⟩
   rw[a5] at J2;rw[a5];have c2:r.cell B 0=some (.ptr E 0):=by rw[H.cell_of J.g2];rfl
   have c3:r.cell X3 0=some (.sl N 0 l.length (.kn l.length)):=by rw[H.cell_of J.g3];rfl
   have c5:r.cell s 0=some (aC q):=by rw[H.cell_of J.g5];rfl
   have e0:=J.k.e0;have j5:=r1E J.k.gE;have rE:=r1E J2.k.gE;have gc:g c c=f c:=by rw[hg];simp only[aQ (Nat.lt_irrefl c)]
   have cR:=(J.k.row c F t).cell (i:=q) om;have d9:=(J2.k.row c F t).cell (i:=q) om;have i2:O.cell B 0=some (.ptr E 0):=by rw[H.cell_of J2.g2];rfl
   have l2:O.cell X3 0=some (.sl N 0 l.length (.kn l.length)):=by rw[H.cell_of J2.g3];rfl
   have i4:O.cell s 0=some (aC q):=by rw[H.cell_of J2.g5];rfl
   have j0:=J2.k.e0;have kr:=k3 c F t;have fq:=hf c q F t om;have nh:O.next=r.next:=by rw[<-a5];rfl
   have fb:Fr O (H.mk O.tr (r.next+17)):=(Fr.refl O).cU om;have g6:(H.mk O.tr (r.next+17)).row E 0 1=some [aC p]:=rE;have J3:=J2.fl k1 k2 k3 a4 hs (Fx.of (x:=d) fb) ((fb.get d J2.lt).trans J2.gL);rw[gc] at cR d9;simp(disch:=omega)only[go_sem,c2,c3,c5,e0,j5,rE,g6,cR,i2,l2,i4,j0,d9];generalize H.mk O.tr (r.next+17)=e5 at*;have i0:=J3.b;have c6:=J3.k.row c F t;rw[gc] at c6;have j3:=J3.k.ltR c F t;have lN:N<e5.next:=by have:=J3.lt;omega
   refine (Ex p (p-f c q) (ρ c) l.length l.length N 0 (.kn l.length) (.sl N 0 l.length (.kn l.length)) (f c) vv [] e5 c6.bt j3 ⟨rfl,λk i h1 h2=>lJ h1 h2,rfl,rfl⟩ (λ_=>lN) (λj Q=>by rw[Nat.zero_add];exact i0.cell Q) (.inr rfl) (dN _) om a1 om (λj Q=>by have:=hf c j F t Q;omega) (λj Q=>by have:=vr j;omega)).mono ?_;rintro w e8 ⟨f6,g1⟩;have j9:Bk e8 (ρ c) l.length (Np p f q vv c):=f6.bk.congr λj Q=>by rw[aS Q,Np]
   have J4:=J3.row k3 a4 hs F t g1 j9
   have eg:(λa=>if a=c then Np p f q vv c else g c a)=g (c+1):=by
    funext a;rw[hg];simp only
    by_cases e:a=c
    .rw[aS e,aS om,e]
    .rw[aQ e]
     by_cases e2:a<c
     .rw[aS e2,aS om]
     .rw[aQ e2,aQ om]
   rw[eg] at J4
   try simp(disch:=omega)only[go_sem]
   refine⟨rb,J4.gL,rfl,?_⟩;subst k0;exact J4.fl k1 k2 k3 a4 hs ((Fx.refl d e8).set _) (H.aJ ..)
  .refine {J with k:=J.k.congr λa j _ P _=>?_}
   rw[hg];simp only
   by_cases e:a=c
   .rw[e] at P
    rw[t] at P;cases P
   .by_cases e2:a<c
    .rw[aS e2,aS om]
    .rw[aQ e2,aQ om]
 refine loop.mono ?_
 rintro _ b3 J
 refine⟨_,J.gL,by rw[<-a7];simp,?_⟩
 have j7:rc.pend=none:=by rw[<-a7]
 simp only[j7,Option.getD_none]
 have lt:=J.lt
 have J':=λrc'=>J.fl k1 k2 k3 a4 hs (h':=b3.set d (some (.loop rc'))) (rc':=rc') ((Fx.refl d b3).set _) (H.aJ ..)
 generalize l3:dP.mk _ _ _ _ _ _=e9
 have J5:=J' e9
 clear J' J
 generalize b3.set d (some (.loop e9))=K at*
 have c2:K.cell B 0=some (.ptr E 0):=by rw[H.cell_of J5.g2];rfl
 have c3:K.cell X3 0=some (.sl N 0 l.length (.kn l.length)):=by rw[H.cell_of J5.g3];rfl
 have c5:K.cell s 0=some (aC q):=by rw[H.cell_of J5.g5];rfl
 have e2:=J5.k.e2
 obtain⟨es,m1,m2,m3⟩:=J5.k.gM.set (at_:=q) (N:=N)
 refine Ie c2 c3 c5 e2 @Mf m1 (Qa m2) ?_
 have m4:=m3 (H.mk K.tr (K.next+7))
 have EM:=k.EM
 have lE:=k.loE
 have lM:=k.loM
 have l5:=J5.lt
 have nx:=J5.nx
 refine⟨λb0 f0 l0=>((J5.fr b0 f0 l0).cU (by have:=(J5.fr b0 f0 l0).next;omega)).set om _,by show B<=K.next+7;omega,λid q1 q2 q3=>(H.Cj _ q2 _).trans (J5.oth id om q2 q3),.inr ⟨q,x,N,j6,λi hi=>?_,d5,x1,x2,x3,om,?_⟩⟩
 .have:=ur i om
  have:=g9 i hi
  omega
 rw[<-b4]
 have cs: ∀c,(λc=>if c=q then true else S c) c=true->c=q\/(c≠q/\S c=true):=λc o=>by
  by_cases e:c=q
  .exact .inl e
  .simp only[aQ e] at o
   exact .inr ⟨e,o⟩
 have uq:Ef ρ q N q=N:=by simp [Ef]
 have un: ∀c,c≠q->Ef ρ q N c=ρ c:=λc e=>by simp only[Ef,aQ e]
 refine⟨by rw[H.Cj _ EM];exact J5.k.gE,m4,λc F o=>?_,λa b ha hb P a0 e=>?_,λc F o=>?_,λc F o=>?_,EM,lE,lM,λc F o=>?_,by show E<K.next+7;omega,by show M<K.next+7;omega,λc F o=>?_⟩
 .rcases cs c o with e|⟨e,A⟩
  .subst e
   rw[uq]
   simp only[if_true]
   exact Bk.ne J5.b om _
  .rw[un c e]
   simp only[aQ e]
   have:=J5.k.row c F A
   rw[hg] at this
   simp only[aS F] at this
   exact Bk.ne this (J5.k.neM c F A) _
 .rcases cs a P with ea|⟨ea,P⟩
  .rcases cs b a0 with eb|⟨eb,a0⟩
   .rw[ea,eb]
   .rw[ea,uq,un b eb] at e
    have:=k3 b hb a0
    omega
  .rcases cs b a0 with eb|⟨eb,a0⟩
   .rw[eb,uq,un a ea] at e
    have:=k3 a ha P
    omega
   .rw[un a ea,un b eb] at e
    exact k.inj a b ha hb P a0 e
 .rcases cs c o with e|⟨e,A⟩
  .rw[e,uq];omega
  .rw[un c e];exact k.neE c F A
 .rcases cs c o with e|⟨e,A⟩
  .rw[e,uq];omega
  .rw[un c e];exact k.neM c F A
 .rcases cs c o with e|⟨e,A⟩
  .rw[e,uq];omega
  .rw[un c e];exact k.loR c F A
 .rcases cs c o with e|⟨e,A⟩
  .rw[e,uq];show N<K.next+7;omega
  .rw[un c e];show ρ c<K.next+7;have:=k3 c F A;omega
theorem Po (p:Int)(E M n W:Nat)(S:Nat->Bool)(ρ:Nat->Nat)(f:Nat->Nat->Int)(a:Nat)(v:V)(l:List Int)(u:Nat->Int)(h:H)(k:Ec h E M n W p S ρ f a)(b:a<=h.next)(y:SI h v l)(t:l.length=W)(s:W<=1000)(m:n<=W)(o:cF p=true)(d:p<10000)
  (r: ∀c j,c<n->S c=true->j<W->0<=f c j/\f c j<p)
  (z:u=zW p S f (λi=>l.getD i 0%p) n) (A: ∀c,c<n->S c=true->u c=0):
  Ev T 192 [.ptr E 0,v] h (λw h'=>(∀b0,Fr b0 h->b0.next<=a->Fr b0 h')/\h.next<=h'.next/\((w= .bool false/\(∀i,i<n->u i=0)/\Ec h' E M n W p S ρ f a)\/
   (w= .bool true/\ ∃at_ x N,at_<n/\(∀i,i<at_->u i=0)/\0<u at_/\0<=x/\x<p/\x*u at_%p=1/\h.next<=N/\
    Ec h' E M n W p (λc=>if c=at_ then true else S c) (Ef ρ at_ N) (λc=>if c=at_ then (λj=>(u j+(x+p- 1)*u j)%p) else Np p f at_ (λj=>(u j+(x+p- 1)*u j)%p) c) a))):=(Pa p E M n W S ρ f a v l u h k b y t s m o d r z A).mono λ_ _ q=>⟨q.1,q.2.1,q.2.2.2⟩
structure Kp (p:Int)(n W:Nat)(ll:List (List Int))(Φ:Nat->(Nat->Bool)->(Nat->Nat->Int)->Nat->Prop):Prop where
 rng: ∀i S f k,Φ i S f k-> ∀c j,c<n->S c=true->j<W->0<=f c j/\f c j<p
 red: ∀i S f k,i<ll.length->Φ i S f k-> ∀c,c<n->S c=true->zW p S f (λj=>(ll.getD i []).getD j 0%p) n c=0
 no: ∀i S f k,i<ll.length->Φ i S f k->(∀j,j<n->zW p S f (λj=>(ll.getD i []).getD j 0%p) n j=0)->Φ (i+1) S f k
 yes: ∀i S f k u,i<ll.length->Φ i S f k->u=zW p S f (λj=>(ll.getD i []).getD j 0%p) n-> ∀at_ x,at_<n->(∀j,j<at_->u j=0)->0<u at_->0<=x->x<p->x*u at_%p=1->
  Φ (i+1) (λc=>if c=at_ then true else S c) (λc=>if c=at_ then (λj=>(u j+(x+p- 1)*u j)%p) else Np p f at_ (λj=>(u j+(x+p- 1)*u j)%p) c) (k+1)
theorem adJ (p:Int)(E M n W o:Nat)(a:List (List Int))(v:V)(Φ:Nat->(Nat->Bool)->(Nat->Nat->Int)->Nat->Prop)(l:Kp p n W a Φ)(z h:H)(S:Nat->Bool)(ρ:Nat->Nat)(f:Nat->Nat->Int)
  (Y:Ec h E M n W p S ρ f o) (b1:o<=h.next) (R:Φ 0 S f 0) (hb:Fr z h) (F:z.next<=o) (hv:SR z v a) (a8:a.length<1000000) (hl: ∀i,i<a.length->(a.getD i []).length=W) (hW:W<=1000) (Q:n<=W) (hp:cF p=true) (J:p<10000):
  Ev T 191 [v,.fn 192 [.ptr E 0] []] h (λw h'=> ∃(k:Nat) (S:Nat->Bool) (ρ:Nat->Nat) (f:Nat->Nat->Int),w= aC k/\Φ a.length S f k/\k<=a.length/\Ec h' E M n W p S ρ f o/\(∀b,Fr b h->b.next<=o->Fr b h')/\h.next<=h'.next):=by
 obtain⟨id,K,ws,sl,P,a0,hc,t⟩:=hv.open
 refine pM @hv.lens ?_
 refine aP (λZ m r=> ∃(i k:Nat) (S:Nat->Bool) (ρ:Nat->Nat) (f:Nat->Nat->Int),(∃j:Nat->V,m= [j 0,.fn 192 [.ptr E 0] [],j 2,aC k,j 4,v,aC (a.length:Int),aC i,j 8,j 9])/\i<=a.length/\k<=i/\Φ i S f k/\Ec r E M n W p S ρ f o/\(∀b,Fr b h->b.next<=o->Fr b r)/\h.next<=r.next/\Z=a.length-i) a.length
  ⟨0,0,S,ρ,f,aD rfl,fY _,dN _,R,Y,λb f _=>f,dN _,rfl⟩ ?_
 clear R Y S ρ f
 rintro Z m r ⟨i,k,S,ρ,f,⟨jk,rfl⟩,hi,G,d,kE,A,L,rfl⟩
 refine aT ?_
 by_cases s:(i:Int)<(a.length:Int)
 .rw[cV s]
  have c:i<a.length:=om
  have U:=A z hb F
  have ci:r.cell id (K+i)=some (ws.getD i .undef):=by rw[U.cell (P om)];exact hc i om
  have ri:=(Mz t (i:=i) c).mono U
  refine eZ @sl.ixa ci ?_
  obtain⟨u,B⟩: ∃u,u=zW p S f (λj=>(a.getD i []).getD j 0%p) n:=⟨_,rfl⟩
  refine (Po p E M n W S ρ f o _ (a.getD i []) u r kE om ri (hl i c) hW Q hp J (l.rng i S f k d) B (by rw[B];exact l.red i S f k c d)).mono ?_
  rintro w h2 ⟨y,a9,⟨rfl,hz,q⟩|⟨rfl,at_,x,N,a1,a2,a3,a4,a5,a6,a7,q⟩⟩
  .refine aT ?_
   rw[fJ i]
   exact⟨a.length-(i+1),om,i+1,k,S,ρ,f,aD rfl,om,om,l.no i S f k c d (by rw[<-B];exact hz),q,λb O lb=>y b (A b O lb) lb,om,rfl⟩
  .refine aT ?_
   rw[show (i:Int)+1=((i+1:Nat):Int) from om,show (k:Int)+1=((k+1:Nat):Int) from om]
   exact⟨a.length-(i+1),om,i+1,k+1,_,_,_,aD rfl,om,om,l.yes i S f k u c d B at_ x a1 a2 a3 a4 a5 a6,q,λb O lb=>y b (A b O lb) lb,om,rfl⟩
 rw[bZ s]
 obtain⟨rfl⟩:i=a.length:=om
 refine aT ?_
 exact⟨k,S,ρ,f,rfl,d,G,kE,A,L⟩
theorem Rn (p:Int)(n W:Nat)(a:List (List Int))(v:V)(Φ:Nat->(Nat->Bool)->(Nat->Nat->Int)->Nat->Prop)(c:Kp p n W a Φ)(h:H)
  (u:Φ 0 (λ_=>false) (λ_ _=>0) 0) (z:SR h v a) (b:a.length<1000000) (t: ∀i,i<a.length->(a.getD i []).length=W) (y:W<=1000) (d:n<=W) (q:cF p=true) (l:p<10000):
  Ev T 128 [aC p,aC n,v] h (λw h'=> ∃(E M k:Nat) (S:Nat->Bool) (ρ:Nat->Nat) (f:Nat->Nat->Int),w= .ptr E 0/\Φ a.length S f k/\k<=a.length/\Ec h' E M n W p S ρ f h.next/\Fr h h'):=by
 refine lG ?_
 refine (Zq p n W (λ_ _=>0) h).mono ?_
 rintro w A ⟨E,M,ρ,rfl,o,j⟩
 refine aT ?_
 refine (adJ p E M n W h.next a v Φ c h A _ ρ _ o j.next u j (dN _) z b t y d q l).mono ?_
 rintro w F ⟨k,S,ρ,f,rfl,m,x,r,B,s⟩
 refine aT ?_
 exact⟨E,M,k,S,ρ,f,rfl,m,x,r,B h j (dN _)⟩
def pU (n W:Nat)(S:Nat->Bool)(f:Nat->Nat->Int):List (List Int):=((List.range n).filter S).map λc=>eN W (f c)
theorem Yc {c W:Nat}{S:Nat->Bool}{f:Nat->Nat->Int}:pU (c+1) W S f=pU c W S f++(if S c then [eN W (f c)] else []):=by
 simp only[pU,List.range_succ,List.filter_append,List.map_append];congr 1;cases hs:S c<;>simp [List.filter,hs]
end Go.Proofs.YtoighkablmjfeaaGreat.Ln
namespace Go.Ay
open Go Go.RowKit Go.WideShapes Go.ChangeShapes Go.ChangeAt
section
variable {P:Program} {W:World}
def Oc (ps:List (Nat×Nat×Nat)):M:=λid=>ps[id]?
theorem HY (a b:List (Nat×Nat×Nat)):Ext (Oc a) (Oc (a++b)):=λid p h=>by
 simp only[Oc] at*;rw[Aw (Iq.1 h).1];exact h
structure Ins (P:Program)(W:World)(os:List Ob)(ps:List (Nat×Nat×Nat)):Prop where
 len:os.length=ps.length
 ok:(i:Nat)->(o:Ob)->(p:Nat×Nat×Nat)->os[i]? =some o->ps[i]? =some p->o.rw=false/\OR P (Oc ps) o p W
theorem Ins.nil:Ins P W [] []:=⟨rfl,λi o p h=>by simp at h⟩
theorem Ins.push {c:List Ob}{d:List (Nat×Nat×Nat)}(I:Ins P W c d){vs:List V}{p:Nat×Nat×Nat}(h:OR P (Oc d) (.cells true vs) p W):Ins P W (c++ [.cells true vs]) (d++ [p]):=by
 refine⟨by rw[eE,eE,I.len];rfl,λi o q a b=>?_⟩
 by_cases hi:i<c.length
 .rw[Aw hi] at a
  rw[Aw (by rw[<-I.len];exact hi)] at b;obtain⟨k,j⟩:=I.ok i o q a b;exact⟨k,j.mono (HY _ _) rfl⟩
 .rw[Hs om] at a
  rw[Hs (by have:=I.len;omega)] at b
  have f:i-c.length=0:=by
   have:=(Iq.1 a).1;simp at this;omega
  rw[f] at a;rw[<-I.len,f] at b;simp only[List.getElem?_cons_zero,Option.some.injEq] at a b;subst a;subst b;exact⟨rfl,h.mono (HY _ _) rfl⟩
theorem Ins.fr (c b:List Ob):Fr (Go.Ay.H.uO c) (Go.Ay.H.uO (c++b)):=by
 refine⟨by rw[rM,rM,eE];omega,λid a=>?_⟩;rw[rM] at a;rw[qP,qP,Aw a]
variable {Hh:Type} {enc:TypeId×Value->Hh} {base:Nat} {held:Bool}
theorem NV {C:Checked}{z:List Ob}{y:List (Nat×Nat×Nat)}{T:Nat->Option Fn}{g:Nat}{f:Func}{vs:List V}{s:ChangeSpec}{args:Array Value}{ds gs:List (DataW Hh)}{c:List MemPlace}{tb:TypeId}{b fresh a d:Bool}
  (L:C.prog.follows .mixedOrders=true) (F:POk C.prog T) (J:laidOutB C.prog=true)
  (n:Ev T g vs (Go.Ay.H.uO z) (λv _=>v= .bool true)) (I:Ins C.prog W z y) (r:iL (Oc y) vs args.toList)
  (l:s.vars= []) (k:f.params.toList.all (λt=>C.prog.readableRec t&&decide (t<C.prog.types.size))=true)
  (q:f.resultTypes= #[tb]) (u:C.prog.underlying tb=some .bool)
  (B:DataW.Whole enc C.prog f.params.toList s.vars b W args.toList ds gs c)
  (h:(s.fn Hh (ds++gs))={results:= [.lit (.bool true)],args:=ds}):
  Calls C.prog g args W λe W'=> ∃v,e= .returned v/\s.post enc C.prog f b fresh a d W args v W':=by
 obtain⟨N,O,Q,m,rfl⟩:=n
 have m:=m N (dN N)
 obtain⟨K,j⟩:=QI (P:=C.prog) (w:=W) I.len I.ok
 refine (Vq L F m (xs:=args) r K j).mono λe W' ⟨x,m',m,r,hadv⟩=>?_
 have:x= .bool true:=r
 subst this
 refine⟨_,m,VI (tb:=tb) J l k q u B h (hadv.below (TV λo G=>?_))⟩
 obtain⟨i,hi⟩:=List.getElem?_of_mem G
 have A:=(Iq.1 hi).1
 exact (I.ok i o _ hi (dJ (by have:=I.len;omega))).1
end
end Go.Ay
namespace Go.Ay
open Go Go.RowKit Go.WideShapes Go.ChangeShapes Go.ChangeAt
end Go.Ay
namespace Go.Ay
open Go Go.RowKit Go.WideShapes Go.ChangeShapes Go.ChangeAt
section
variable {P:Program} {W:World}
variable {Hh:Type} {enc:TypeId×Value->Hh} {base:Nat} {held:Bool}
def Kn (u:V):Prop:= ∀id off m c,u= .sl id off m c-> ∃k,c= .kn k/\m<=k
theorem bH.snoc {α β:Type}{R:α->β->Prop}{c:List α}{d:List β}{a:α}{b:β}(h:bH R c d)(k:R a b):bH R (c++ [a]) (d++ [b]):=bH.append h ⟨k,trivial⟩
def ZA (h:H)(u:V)(ll:List (List Int)):Prop:= ∃ws,SV h u 1 ws/\bH (SI h) ws ll/\ ∀w∈ws,Kn w
theorem ZA.sr {h:H}{u:V}{a:List (List Int)}(s:ZA h u a):SR h u a:=by
 have⟨c,b,d,_⟩:=s;exact⟨c,b,d⟩
theorem ZA.mono {h h':H}{u:V}{a:List (List Int)}(s:ZA h u a)(f:Fr h h'):ZA h' u a:=by
 have⟨c,b,i,d⟩:=s;exact⟨c,b.mono f,i.mono λ_ _ r=>r.mono f,d⟩
theorem ZA.aH (h:H):ZA h .aH []:=⟨[],SV.aH h 1,trivial,λ_ h=>by cases h⟩
end
end Go.Ay
namespace Go.Proofs.YtoighkablmjfeaaGreat.Ln
open Go Go.Ay
section
variable {h:H} {u:V} {ll:List (List Int)} {lo:Nat}
def Sw (n W:Nat)(S:Nat->Bool)(ρ:Nat->Nat):List V:=((List.range n).filter S).map λc=>V.sl (ρ c) 0 W (.kn W)
theorem Yv {c W:Nat}{S:Nat->Bool}{ρ:Nat->Nat}:Sw (c+1) W S ρ=Sw c W S ρ++(if S c then [V.sl (ρ c) 0 W (.kn W)] else []):=by
 simp only[Sw,List.range_succ,List.filter_append,List.map_append];congr 1;cases hs:S c<;>simp [List.filter,hs]
theorem adO {c W:Nat}{S:Nat->Bool}{ρ:Nat->Nat}:(Sw c W S ρ).length<=c:=by
 rw[Sw,dO];exact kQ (List.length_filter_le _ _) (by rw[gT];omega)
structure LJ (p:Int)(E M n W X X4 LID:Nat)(S:Nat->Bool)(ρ:Nat->Nat)(f:Nat->Nat->Int)(lo lo2:Nat)(u:V)(ws:List V)(h:H)(rc:dP)(hh:H):Prop where
 gX:hh.get X=some (.cells false [u])
 g4:hh.get X4=some (.cells false [.ptr E 0])
 gL:hh.get LID=some (.loop rc)
 o:dF hh u 1 ws lo2
 k:Ec hh E M n W p S ρ f lo
 fr:Fr h hh
 lt:LID<hh.next
 l2:lo2<=hh.next
def Tw (h:H)(u:V)(ll:List (List Int))(lo:Nat):Prop:= ∃ws,SV h u 1 ws/\bH (SI h) ws ll/\zQ u lo/\ ∀w∈ws,zQ w lo
theorem Tw.sr (s:Tw h u ll lo):SR h u ll:=by
 have⟨b,a,c,_⟩:=s;exact⟨b,a,c⟩
theorem Tw.le {a:Nat}(s:Tw h u ll lo)(b:a<=lo):Tw h u ll a:=by
 have⟨k,i,d,j,f⟩:=s;exact⟨k,i,d,j.le b,λw c=>(f w c).le b⟩
theorem Tw.fx {h':H}{x:Nat}(s:Tw h u ll lo)(o:x<lo)(f:Fx x h h'):Tw h' u ll lo:=by
 have⟨y,t,m,d,i⟩:=s;refine⟨y,?_,bH.iU m λw k b s=>SI.fx s (i w k) o f,d,i⟩;rcases t with s|⟨id,a,len,c,n,q,rfl,z,j,l,A,r⟩
 .exact .inl s
 .have v:=d _ _ _ _ rfl
  exact .inr ⟨id,a,len,c,n,q,rfl,z,iD j f.next,by rw[f.get id j om];exact l,A,r⟩
theorem Tw.fr {h':H}(s:Tw h u ll lo)(f:Fr h h'):Tw h' u ll lo:=by
 have⟨b,a,d,c,i⟩:=s;exact⟨b,a.mono f,d.mono λ_ _ s=>s.mono f,c,i⟩
theorem Iu (p:Int)(E M n W:Nat)(S:Nat->Bool)(ρ:Nat->Nat)(f:Nat->Nat->Int)(lo:Nat)(h:H)(k:Ec h E M n W p S ρ f lo)(hn:n<1000000):
  Ev T 238 [.ptr E 0] h (λw h'=>ZA h' w (pU n W S f)/\Fr h h'/\Tw h' w (pU n W S f) lo):=by
 refine mV ?_
 have k1:=k.ltE
 have k2:=k.ltM
 have k3:=k.ltR
 simp (disch:=first|omega|(simp only[List.length_set,List.length_replicate,eE,jG,jR,List.length_cons,List.length_nil,dO,gT,aE]<;>omega)) only[go_sem,aV]
 have b7:Fr h (h.new (.cells false [.aH])):=(Fr.refl h).new _
 have a4:(h.new (.cells false [.aH])).get h.next=some (.cells false [.aH]):=H.aI ..
 have c0:(h.new (.cells false [.aH])).next=h.next+1:=H.aM ..
 generalize h.new (.cells false [.aH])=t at*
 refine (zB E t).mono ?_
 rintro w h2 ⟨rfl,rfl⟩
 have a0:Fr t (t.new (.cells false [.ptr E 0])):=(Fr.refl t).new _
 have a3:(t.new (.cells false [.ptr E 0])).get t.next=some (.cells false [.ptr E 0]):=H.aI ..
 have c1:(t.new (.cells false [.ptr E 0])).next=t.next+1:=H.aM ..
 generalize t.new (.cells false [.ptr E 0])=L at*
 obtain⟨X,hX⟩:=exI h.next
 obtain⟨X4,a7⟩: ∃X,t.next=X:=⟨_,rfl⟩
 obtain⟨a,F⟩: ∃X,L.next=X:=⟨_,rfl⟩
 rw[a7] at a3
 rw[hX] at a4
 simp (disch:=first|omega|(simp only[List.length_set,List.length_replicate,eE,jG,jR,List.length_cons,List.length_nil,dO,gT,aE]<;>omega)) only[go_sem]
 rw[hX,a7,F]
 generalize A:dP.mk _ _ _ _ _ _=rc
 refine⟨rfl,?_⟩
 have f4:Fr L (L.new (.loop rc)):=(Fr.refl L).new _
 have F3:=b7.trans a0
 have J0:LJ p E M n W X X4 a S ρ f lo (a+1) .aH (Sw 0 W S ρ) h rc (L.new (.loop rc)):=
  ⟨((a0.trans f4).get _ om).trans a4,(f4.get _ om).trans a3,by rw[<-F];exact H.aI ..,dF.aH _ _ _,k.fr (F3.trans f4),F3.trans f4,by rw[H.aM];omega,by rw[H.aM];omega⟩
 have loop:Ev T 193 [.yl a,.ptr X4 0] (L.new (.loop rc)) (λ_ j=> ∃u,LJ p E M n W X X4 a S ρ f lo (a+1) u (Sw n W S ρ) h rc j):=by
  refine sU a X4 E M n W p S ρ (λc j=>c<=n/\ ∃u,LJ p E M n W X X4 a S ρ f lo (a+1) u (Sw c W S ρ) h rc j)
   (λc j ⟨_,u,J⟩=>⟨J.g4,J.k.gE,J.k.gM⟩) (λc j z b ⟨_,u,J⟩=>?_) (λc j z b ⟨_,u,J⟩=>⟨om,u,by rw[Yv,b];simpa using J⟩) _ ⟨fY _,_,J0⟩ hn|>.mono λ_ _ q=>q.2
  refine Ph J.gL (by rw[<-A];rfl) ?_;have lt:=J.lt;have l2:=J.l2;have gX:=J.gX;have cX:j.cell X 0=some u:=by rw[H.cell_of J.gX];rfl
  subst A;simp (disch:=first|omega|(simp only[List.length_set,List.length_replicate,eE,jG,jR,List.length_cons,List.length_nil,dO,gT,aE]<;>omega)) only[go_sem,List.zip_cons_cons,List.zip_nil_left];refine⟨_,J.gL,rfl,?_⟩;generalize b5:dP.mk _ _ _ _ YZ.busy _=y;have N:dF (j.set a (some (.loop y))) u 1 (Sw c W S ρ) (a+1):=J.o.set om _;have e1:=J.k.fx (h':=j.set a (some (.loop y))) ((Fx.refl a j).set _) om om λc z b=>by have:=k3 c z b;omega
  have F1:Fr h (j.set a (some (.loop y))):=Fr.set J.fr om _;have K:(j.set a (some (.loop y))).get X=some (.cells false [u]):=by rw[H.Cj _ om];exact gX
  have a8:(j.set a (some (.loop y))).get X4=some (.cells false [.ptr E 0]):=by rw[H.Cj _ om];exact J.g4
  have O:(j.set a (some (.loop y))).get a=some (.loop y):=H.aJ ..;have a1:(j.set a (some (.loop y))).cell X 0=some u:=by rw[H.cell_of K];rfl
  have P:(j.set a (some (.loop y))).next=j.next:=rfl
  obtain⟨d,G⟩: ∃q,j.set a (some (.loop y))=q:=⟨_,rfl⟩
  rw[G] at N e1 F1 K a8 O a1 P;rw[G];simp (disch:=first|omega|(simp only[List.length_set,List.length_replicate,eE,jG,jR,List.length_cons,List.length_nil,dO,gT,aE]<;>omega)) only[go_sem,cX,a1,Td d (v:= .sl (ρ c) 0 W (.kn W)) rfl rfl];have b9:j.next=d.next:=P.symm;have l:Fr d (d.new (.cells false [.sl (ρ c) 0 W (.kn W)])):=(Fr.refl d).new _;have Y:(d.new (.cells false [.sl (ρ c) 0 W (.kn W)])).get d.next=some (.cells false [.sl (ρ c) 0 W (.kn W)]):=H.aI ..;have b8:(d.new (.cells false [.sl (ρ c) 0 W (.kn W)])).next=d.next+1:=H.aM ..
  generalize d.new (.cells false [.sl (ρ c) 0 W (.kn W)])=b6 at*;have sx:SV b6 (.sl d.next 0 1 (.kn 1)) 1 [.sl (ρ c) 0 W (.kn W)]:=SV.all rfl om Y _;have wl:=adO (c:=c) (W:=W) (S:=S) (ρ:=ρ);obtain⟨u2,B,b2,r⟩:=(N.fr l).app (bytes:=24) (n:=(Sw c W S ρ).length) (m:=1) om sx om rfl om om;have b1:=r.own;have hv:=SV.cT r.own.sv;have a6:=λj=>eH hv.1 hv.2.1 j X 0
  have a9:cW u X:=kI N om;have b0:cW u X4:=kI N om;have b4:cW u a:=kI N om;have ap: ∀x,x<h.next->cW u x:=λx hx=>kI N om
  have a2:=(r.get X om a9).trans ((l.get X om).trans K);have Q:=(r.get X4 om b0).trans ((l.get X4 om).trans a8);have a5:=(r.get a om b4).trans ((l.get a om).trans O);have Z:Fr h B:=r.fr h (F1.trans l) om;have R:=k.fr Z;have pt:=λj:H=>bE (vs:= [u]) (off:=0) siM j X u2
  have c2:=r.next;simp (disch:=first|omega|(simp only[List.length_set,List.length_replicate,eE,jG,jR,List.length_cons,List.length_nil,dO,gT,aE]<;>omega)) only[go_sem,b2,a6,a2,pt];refine⟨y,by rw[H.Cj _ om];exact a5,rfl,om,u2,?_⟩;have ew:Sw (c+1) W S ρ=Sw c W S ρ++ [.sl (ρ c) 0 W (.kn W)]:=by rw[Yv,aS b]
  rw[ew];subst b5;refine⟨by rw[H.Cj _ om];exact H.aJ ..,by rw[H.Cj _ om,H.Cj _ om];exact Q,H.aJ ..,(b1.set om _).set om _,?_,(Z.set om _).set om _,by show a<B.next;omega,by show a+1<=B.next;omega⟩;exact (R.fx ((Fx.refl X B).set _) om om λc z b=>by have:=k3 c z b;omega).fx ((Fx.refl a _).set _) om om λc z b=>by have:=k3 c z b;omega
 refine loop.mono ?_
 rintro _ s ⟨u,J⟩
 refine⟨_,J.gL,by rw[<-A];simp,?_⟩
 have b3:rc.pend=none:=by rw[<-A]
 simp only[b3,Option.getD_none]
 have lt:=J.lt
 have q3: ∀o,(s.set a o).cell X 0=some u:=λo=>by
  rw[H.kW _ om,H.cell_of J.gX];rfl
 have g': ∀o,Fr h (s.set a o):=λo=>Fr.set J.fr om o
 have o': ∀o,dF (s.set a o) u 1 (Sw n W S ρ) (a+1):=λo=>J.o.set om o
 have kk: ∀o,Ec (s.set a o) E M n W p S ρ f lo:=λo=>J.k.fx ((Fx.refl a s).set _) om om λc z b=>by have:=k3 c z b;omega
 simp (disch:=first|omega|(simp only[List.length_set,List.length_replicate,eE,jG,jR,List.length_cons,List.length_nil,dO,gT,aE]<;>omega)) only[go_sem,q3]
 have al: ∀o,bH (SI (s.set a o)) (Sw n W S ρ) (pU n W S f):=λo=>bH.jF (by simp [Sw,pU]) λi t h2=>by
  simp only[Sw,pU,List.getElem_map];have hm:((List.range n).filter S)[i]'(by simpa [Sw] using t)∈(List.range n).filter S:=Hn _;rw[Gh,mS] at hm;exact ((kk _).row _ hm.1 hm.2).si ((kk _).ltR _ hm.1 hm.2) _
 refine⟨⟨_,(o' _).sv,al _,λw U=>?_⟩,g' _,_,(o' _).sv,al _,zQ.le (zQ.own (o' none)) ?_,λw U=>?_⟩
 .simp only[Sw,oG] at U
  obtain⟨c,_,rfl⟩:=U
  intro id off m cc e
  cases e
  exact⟨W,rfl,dN _⟩
 .have:=k.loE;omega
 .simp only[Sw,oG,Gh,mS] at U
  obtain⟨c,⟨z,b⟩,rfl⟩:=U
  intro id off m cc e
  cases e
  exact k.loR c z b
theorem Ra (p:Int)(E M n W:Nat)(S:Nat->Bool)(ρ:Nat->Nat)(f:Nat->Nat->Int)(lo:Nat)(h:H)(k:Ec h E M n W p S ρ f lo)(a:n<1000000):
  Ev T 238 [.ptr E 0] h (λw h'=>ZA h' w (pU n W S f)/\Fr h h'):=(Iu p E M n W S ρ f lo h k a).mono λ_ _ q=>⟨q.1,q.2.1⟩
end
theorem agC (p a x y:Int):(a+(p-x)*y)%p=(a-x*y)%p:=by
 rw[show a+(p-x)*y=(a-x*y)+p*y by grind,Int.add_mul_emod_self_left]
theorem sub_zero {p a b:Int}(h:(a-b)%p=0):a%p=b%p:=Int.emod_eq_emod_iff_emod_sub_eq_zero.2 h
theorem ajW {p:Int}{n W:Nat}{S:Nat->Bool}{f:Nat->Nat->Int}(r:Re p n W S f){c d:Nat}(h:c<n)(b:d<n)(i:S c=true)(a:d≠c):gf S f d c=0:=by
 cases hsd:S d with
 |true=>rw[kB hsd,r.zer d c b h hsd i (Ne.symm a)]
 |false=>exact oJ hsd c
theorem Ak {p:Int}{n W:Nat}{S:Nat->Bool}{f:Nat->Nat->Int}(r:Re p n W S f)(a:n<=W)(v:Nat->Int): ∀c,c<=n-> ∀j,j<W->zW p S f v c j%p=(v j-sm c (λd=>v d*gf S f d j))%p
 |0,_,j,_=>by rw[zW,oZ,Int.sub_zero]
 |c+1,hc,j,hj=>by
  rw[zW,bQ]
  cases hs:S c with
  |false=>
   rw[aQ siM,oJ hs,Int.mul_zero,Int.add_zero];exact Ak r a v c om j hj
  |true=>
   rw[aS rfl,zP,agC,kB hs,<-Int.sub_sub];have e1:=Ak r a v c om c om;rw[fI λd b=>by rw[ajW r om om hs om,Int.mul_zero],Int.sub_zero] at e1;exact xY (Ak r a v c om j hj) (mul_mod e1 rfl)
structure Sp (p:Int)(n W:Nat)(V:Nat->Nat->Int)(i:Nat)(S:Nat->Bool)(f:Nat->Nat->Int)(k:Nat):Prop where
 re:Re p n W S f
 out: ∀c,c<n->S c=true->dQ p W i V (f c)
 DL: ∀a,a<i->dQ p n n (gf S f) (V a)
 cn:k=xU n S
section
variable {p:Int} {n W i k:Nat} {V:Nat->Nat->Int} {S:Nat->Bool} {f:Nat->Nat->Int}
theorem Sp.start (p:Int)(n W:Nat)(V:Nat->Nat->Int)(f:Nat->Nat->Int):Sp p n W V 0 (λ_=>false) f 0:=
 ⟨⟨λ_ _ _ (h:false=true)=>Bool.noConfusion h,λ_ _ (h:false=true)=>Bool.noConfusion h,λ_ _ _ _ (h:false=true)=>Bool.noConfusion h,λ_ _ _ (h:false=true)=>Bool.noConfusion h⟩,λ_ _ (h:false=true)=>Bool.noConfusion h,λa b=>absurd b (Nat.not_lt_zero a),(TA n).symm⟩
theorem Sp.red (a:0<p)(s:Sp p n W V i S f k)(d:n<=W){c:Nat}(h:c<n)(l:S c=true):zW p S f (λj=>V i j%p) n c=0:=by
 have e:=Ak s.re d (λj=>V i j%p) n (dN n) c om;rw[XC s.re h l,Int.sub_self,Int.zero_emod] at e;have b:=qL a (S:=S) (f:=f) (v:=λj=>V i j%p) (j:=c) (bX _ a) n;rwa [Int.emod_eq_of_lt b.1 b.2] at e
theorem Sp.no (q:0<p)(s:Sp p n W V i S f k)(b:n<=W)(h: ∀j,j<n->zW p S f (λj=>V i j%p) n j=0):Sp p n W V (i+1) S f k:=by
 refine⟨s.re,λc o m=>(s.out c o m).more om,λa r=>?_,s.cn⟩
 by_cases e:a=i
 .subst e
  refine⟨λd=>V a d%p,λj l=>?_⟩;have e:=Ak s.re b (λj=>V a j%p) n (dN n) j om;rw[h j l,Int.zero_emod] at e;have:=sub_zero e.symm;rwa [zP] at this
 .exact s.DL a om
theorem Sp.yes (hp:1<p)(s:Sp p n W V i S f k)(hW:n<=W){u:Nat->Int}(hu:u=zW p S f (λj=>V i j%p) n){at_:Nat}{x:Int}(L:at_<n)(h2: ∀j,j<at_->u j=0)(h3:0<u at_)(h4:x*u at_%p=1){w:Nat->Int}(hw:w=λj=>(u j+(x+p- 1)*u j)%p):
  Sp p n W V (i+1) (λc=>if c=at_ then true else S c) (λc=>if c=at_ then w else Np p f at_ w c) (k+1):=by
 have r:=s.re
 have O: ∀c,c<n->S c=true->u c=0:=λc o b=>by rw[hu];exact s.red om hW o b
 have Z:S at_=false:=by
  cases e:S at_ with
  |false=>rfl
  |true=>have:=O at_ L e;omega
 have N: ∀j,w j%p=x*u j%p:=λj=>by
  rw[hw];simp only;rw[zP,show u j+(x+p- 1)*u j=x*u j+p*u j by grind,Int.add_mul_emod_self_left]
 have wr: ∀j,0<=w j/\w j<p:=λj=>by rw[hw];exact bX _ om
 have B: ∀j,u j=0->w j=0:=λj h=>by
  have:=N j;rw[h,Int.mul_zero,Int.zero_emod,Int.emod_eq_of_lt (wr j).1 (wr j).2] at this;exact this
 have Y:w at_=1:=by
  have:=N at_;rwa [h4,Int.emod_eq_of_lt (wr at_).1 (wr at_).2] at this
 have q:(1:Int)%p=1:=Int.emod_eq_of_lt om hp
 have z: ∀c,(λc=>if c=at_ then true else S c) c=true->c=at_\/(c≠at_/\S c=true):=λc K=>by
  by_cases e:c=at_
  .exact .inl e
  .simp only[aQ e] at K
   exact .inr ⟨e,K⟩
 have a0: ∀c,(if c=at_ then w else Np p f at_ w c)=if c=at_ then w else Np p f at_ w c:=λ_=>rfl
 have uV: ∀j,j<W->u j%p=(V i j-sm n (λd=>(V i d%p)*gf S f d j))%p:=λj t=>by
  rw[hu,Ak r hW _ n (dN n) j t];exact xY (zP p _) rfl
 have R:dQ p W (i+1) V u:=by
  have e1:dQ p W (i+1) V (λj=>sm n (λd=>(V i d%p)*gf S f d j)):=dQ.sum (U:=gf S f) (λd y=>by
   cases l:S d with
   |true=>exact ((s.out d y l).more om).congr λj _=>by rw[kB l]
   |false=>exact dQ.zero.congr λj _=>by rw[oJ l]) _
  refine ((dQ.row (V:=V) (Nat.lt_succ_self i)).add (e1.smul (-1))).congr λj t=>?_
  rw[uV j t];congr 1;omega
 have J:dQ p W (i+1) V w:=(R.smul x).congr λj _=>N j
 have F: ∀c j,Np p f at_ w c j%p=(f c j-f c at_*w j)%p:=λc j=>by rw[Np,zP,agC]
 refine⟨⟨λc j o b t=>?_,λc o b=>?_,λc d o y b l A=>?_,λc j o b t=>?_⟩,λc o b=>?_,λa ha=>?_,?_⟩
 .rcases z c b with rfl|⟨e,b⟩
  .simp only[if_true];exact wr j
  .simp only[aQ e];exact bX _ om
 .rcases z c b with rfl|⟨e,b⟩
  .simp only[if_true];exact Y
  .simp only[aQ e,Np]
   rw[r.one c o b,B c (O c o b),Int.mul_zero,Int.add_zero,q]
 .rcases z c b with rfl|⟨e,b⟩
  .rcases z d l with rfl|⟨e2,l⟩
   .exact absurd rfl A
   .simp only[if_true];exact B d (O d y l)
  .simp only[aQ e,Np]
   rcases z d l with rfl|⟨e2,l⟩
   .rw[Y,Int.mul_one,show f c d+(p-f c d)=p by omega,Int.emod_self]
   .rw[r.zer c d o y b l A,B d (O d y l),Int.mul_zero,Int.add_zero,Int.zero_emod]
 .rcases z c b with rfl|⟨e,b⟩
  .simp only[if_true];exact B j (h2 j t)
  .simp only[aQ e,Np]
   rw[r.lead c j o b t,Int.zero_add]
   by_cases Q:j<at_
   .rw[B j (h2 j Q),Int.mul_zero,Int.zero_emod]
   .rw[r.lead c at_ o b om,Int.sub_zero,Int.mul_emod_right]
 .rcases z c b with rfl|⟨e,b⟩
  .simp only[if_true];exact J
  .simp only[aQ e]
   exact (((s.out c o b).more (Nat.le_succ i)).add (J.smul (-(f c at_)))).congr λj _=>by
    rw[F];congr 1;rw[Int.neg_mul];omega
 .have G: ∀v:Nat->Int,dQ p n n (gf S f) v->dQ p n n (gf (λc=>if c=at_ then true else S c) (λc=>if c=at_ then w else Np p f at_ w c)) v:=λv hv=>by
   refine hv.trans λc o=>?_
   cases b:S c with
   |false=>exact dQ.zero.congr λj _=>by rw[oJ b]
   |true=>
    have e:c≠at_:=λe=>by rw[e,Z] at b;cases b
    have g1:dQ p n n (gf (λc=>if c=at_ then true else S c) (λc=>if c=at_ then w else Np p f at_ w c)) (Np p f at_ w c):=
     (dQ.row o).congr λj _=>by simp [gf,e,b]
    have P:dQ p n n (gf (λc=>if c=at_ then true else S c) (λc=>if c=at_ then w else Np p f at_ w c)) w:=
     (dQ.row L).congr λj _=>by simp [gf]
    refine (g1.add (P.smul (f c at_))).congr λj _=>?_
    rw[kB b,Ai (F c j) rfl];congr 1;omega
  by_cases e:a=i
  .subst e
   have e1:dQ p n n (gf (λc=>if c=at_ then true else S c) (λc=>if c=at_ then w else Np p f at_ w c)) u:=by
    have P:dQ p n n (gf (λc=>if c=at_ then true else S c) (λc=>if c=at_ then w else Np p f at_ w c)) w:=
     (dQ.row L).congr λj _=>by simp [gf]
    refine (P.smul (u at_)).congr λj t=>?_
    rw[mul_mod (rfl:u at_%p=u at_%p) (N j),show u at_*(x*u j)=(x*u at_)*u j by grind,mul_mod (by rw[h4,q]:(x*u at_)%p=1%p) (rfl:u j%p=u j%p),Int.one_mul]
   have e2:=G _ (dQ.sum (p:=p) (W:=n) (m:=n) (V:=gf S f) (λd y=>dQ.row y) (λd=>V a d%p));refine (e1.add e2).congr λj t=>?_
   rw[Ai (uV j om) rfl];congr 1;omega
  .exact G _ (s.DL a om)
 .rw[afH Z,aS L,s.cn]
end
theorem Sp.kp {p:Int}(d:1<p){n W:Nat}(a:n<=W)(b:List (List Int)):Kp p n W b (Sp p n W (λi j=>(b.getD i []).getD j 0)):=
 ⟨λ_ _ _ _ s=>s.re.rng,λ_ _ _ _ _ s c u t=>s.red om a u t,λ_ _ _ _ _ s h=>s.no om a h,λ_ _ _ _ _ _ s q _ _ o l r _ _ m=>s.yes d a q o l r m rfl⟩
def xH (n:Int):List (List (List Int))->Int
 | []=>0
 |l::r=>if 200<l.length then 4 else if l.any (λv=>decide ((v.length:Int)≠n)) then 10 else xH n r
def IG (p n:Int)(ls:List (List (List Int))):Int:=if fD p=false then 3 else if n<1\/64<n then 2 else xH n ls
theorem JF (v:V)(l:List Int)(X:Nat)(n:Int)(h:H)(a:SI h v l)(b:h.get X=cE [aC n]):Ev T 260 [v,.ptr X 0] h (λw h'=>w= .bool (decide ((l.length:Int)≠n))/\h'=h):=by
 refine mV ?_;have c:h.cell X 0=some (aC n):=by rw[H.cell_of b];rfl
 exact agS @aV @a.lens c
theorem Vf {l:List (List Int)}{P:List Int->Bool}{i:Nat}(hi:i<l.length):(l.take (i+1)).any P=((l.take i).any P||P (l.getD i [])):=by
 rw[List.take_add_one,dJ hi,List.any_append,gV,dJ hi];simp
theorem OI (v:V)(a:List (List Int))(X:Nat)(n:Int)(h:H)(o:SR h v a)(A:a.length<1000000)(y:h.get X=cE [aC n]):
  Ev T 271 [v,.fn 260 [] [.ptr X 0]] h (λw h'=>h'=h/\ ∃z:Int,w= aC z/\ -1<=z/\z<1000000/\decide (0<=z)=a.any (λv=>decide ((v.length:Int)≠n))):=by
 obtain⟨id,r,G,sl,u,s,x,f⟩:=o.open
 refine pM @o.lens ?_
 refine aP (λq b l=>l=h/\ ∃i:Nat,(∃j:Nat->V,b= [v,.fn 260 [] [.ptr X 0],j 2,j 3,aC (a.length:Int),aC i,j 6,j 7])/\i<=a.length/\(a.take i).any (λv=>decide ((v.length:Int)≠n))=false/\q=a.length-i) a.length
  ⟨rfl,0,aD rfl,fY _,rfl,rfl⟩ ?_
 rintro q b l ⟨rfl,i,⟨F,rfl⟩,hi,m,rfl⟩
 refine aT ?_
 by_cases d:(i:Int)<(a.length:Int)
 .rw[cV d]
  have c:i<a.length:=om
  have ci:=x i om
  have t:=Mz f (i:=i) c
  refine eZ @sl.ixa ci ?_
  refine (JF _ (a.getD i []) X n l t y).mono ?_
  rintro w B ⟨rfl,rfl⟩
  by_cases k:((a.getD i []).length:Int)≠n
  .rw[cV k]
   refine aT ?_
   refine⟨(i:Int),rfl,om,om,?_⟩
   rw[cV (show (0:Int)<=(i:Int) by omega)]
   exact (List.any_eq_true.2 ⟨a.getD i [],by rw[gV,dJ c];exact Hn _,by simpa using k⟩).symm
  .rw[bZ k]
   refine aT ?_
   rw[fJ i]
   refine⟨a.length-(i+1),om,i+1,aD rfl,om,?_,rfl⟩
   rw[Vf c,m,Bool.false_or]
   exact bZ k
 rw[bZ d]
 obtain⟨rfl⟩:i=a.length:=om
 refine aT ?_
 rw[List.take_length] at m
 rw[m]
 exact⟨-1,rfl,om,om,deC⟩
theorem NZ (p n:Int)(v:V)(m:Nat)(us:Nat->V)(c:Nat->List (List Int))(id off:Nat)(h:H)(F:Sl v 1 m id off)(L:0<m->id<h.next)(K: ∀i,i<m->h.cell id (off+i)=some (us i))(hR: ∀i,i<m->SR h (us i) (c i))(hl: ∀i,i<m->((c i).length:Int)<=2^63- 1)(hm:m<1000000):
  Ev T 237 [aC p,aC n,v] h (λw h'=>w= aC (IG p n ((List.range m).map c))/\Fr h h'):=by
 have J: ∀o,mT o (aC n)=some (.ptr o.next 0,o.new (.cells false [aC n])):=λo=>by simp [mT,V.cells,V.one]
 refine pM J ?_
 have f:Fr h (h.new (.cells false [aC n])):=(Fr.refl h).new _
 have y:(h.new (.cells false [aC n])).get h.next=cE [aC n]:=H.aI ..
 have s:(h.new (.cells false [aC n])).next=h.next+1:=H.aM ..
 generalize h.new (.cells false [aC n])=P at*
 obtain⟨X,O⟩:=exI h.next
 rw[O] at y
 rw[O]
 have R:P.cell X 0=some (aC n):=by rw[H.cell_of y];rfl
 by_cases W:10000<=p
 .rw[cV W]
  refine aT ?_
  have e:IG p n ((List.range m).map c)=3:=by
   rw[IG,aS (by simp only[fD];rw[bZ om];rfl)]
  rw[e]
  exact⟨rfl,f⟩
 rw[bZ W]
 refine aT ?_
 refine (sS p P).mono ?_
 rintro w Z ⟨rfl,rfl⟩
 cases hP:cF p with
 |false=>
  refine aT ?_
  have e:IG p n ((List.range m).map c)=3:=by
   rw[IG,aS (by simp only[fD,hP,Bool.and_false])]
  rw[e];exact⟨rfl,f⟩
 |true=>
 have hF:fD p=true:=by simp only[fD,hP,Bool.and_true];exact cV om
 refine bM R ?_
 have k: ∀b:Bool,decide (n<1)=b->IG p n ((List.range m).map c)=if n<1\/64<n then 2 else xH n ((List.range m).map c):=λb _=>by
  rw[IG,aQ (by simp [hF])]
 have k:=k _ rfl
 by_cases s:n<1
 .rw[cV s]
  refine aT ?_
  rw[k,aS (.inl s)]
  exact⟨rfl,f⟩
 rw[bZ s]
 refine bM R ?_
 by_cases A:64<n
 .rw[cV A]
  refine aT ?_
  rw[k,aS (.inr A)]
  exact⟨rfl,f⟩
 rw[bZ A,k,aQ om]
 clear k
 refine bM @F.lens ?_
 have sp: ∀i,(List.range (i+1)).map c=(List.range i).map c++ [c i]:=λi=>by rw[List.range_succ,List.map_append];rfl
 have N:(a b:List (List (List Int)))->xH n a=0->xH n (a++b)=xH n b:=λa=>by
  induction a with
  |nil=>intro b _;rfl
  |cons l r ih=>
   intro b q;rw[List.cons_append,xH];rw[xH] at q;split at q
   .cases q
   .rename_i q1
    split at q
    .cases q
    .rename_i q2
     rw[aQ q1,aQ q2];exact ih b q
 have G: ∀i,i<=m-> ∃b,(List.range m).map c=(List.range i).map c++b:=λi hi=>by
  obtain⟨d,rfl⟩:=Nat.le.dest hi;exact⟨_,by rw[List.range_add,List.map_append]⟩
 refine aP (λQ t o=>o=Z/\ ∃i:Nat,(∃j:Nat->V,t= [j 0,j 1,j 2,.ptr X 0,j 4,j 5,j 6,j 7,v,aC m,aC i,j 11,j 12,j 13])/\i<=m/\xH n ((List.range i).map c)=0/\Q=m-i) m
  ⟨rfl,0,aD rfl,fY _,rfl,rfl⟩ ?_
 rintro Q t o ⟨rfl,i,⟨jk,rfl⟩,hi,q,rfl⟩
 refine aT ?_
 by_cases B:(i:Int)<(m:Int)
 .rw[cV B]
  have x:i<m:=om
  have ci:o.cell id (off+i)=some (us i):=by rw[f.cell (L om)];exact K i x
  have Y:=(hR i x).mono f
  have li:=hl i x
  have lu:=Y.lens
  obtain⟨b,hb⟩:=G (i+1) om
  have U:xH n ((List.range m).map c)=xH n (c i::b):=by
   rw[hb,sp,AA,N _ _ q];rfl
  refine iG @F.ixa ci lu ?_
  by_cases u:(200:Int)<((c i).length:Int)
  .rw[cV u]
   refine aT ?_
   rw[U,xH,aS om]
   exact⟨rfl,f⟩
  rw[bZ u]
  refine aT ?_
  have e0:Ev T 259 [us i,.fn 260 [] [.ptr X 0]] o (λw h'=>w= .bool ((c i).any (λv=>decide ((v.length:Int)≠n)))/\h'=o):=by
   refine lG ?_;refine (OI (us i) (c i) X n o Y om y).mono ?_;rintro w h3 ⟨rfl,z,rfl,z1,z2,z3⟩;refine aT ?_;rw[z3];exact⟨rfl,trivial⟩
  refine e0.mono ?_
  rintro w h3 ⟨rfl,rfl⟩
  cases ha:(c i).any (λv=>decide ((v.length:Int)≠n)) with
  |true=>
   refine aT ?_;rw[U,xH,aQ om,aS ha];exact⟨rfl,f⟩
  |false=>
   refine aT ?_;rw[fJ i];refine⟨m-(i+1),om,i+1,aD rfl,om,?_,rfl⟩;rw[sp,N _ _ q,xH,aQ om,aQ (by rw[ha];simp)];rfl
 rw[bZ B]
 obtain rfl:m=i:=om
 refine aT ?_
 rw[q]
 exact⟨rfl,f⟩
def vw (ll:List (List Int)):Nat->Nat->Int:=λi j=>(ll.getD i []).getD j 0
section
variable {p:Int} {n W m m' k k':Nat} {V V':Nat->Nat->Int} {S S':Nat->Bool} {f f':Nat->Nat->Int}
theorem Sp.amZ (s:Sp p n W V m S f k){c:Nat}(a:c<n):dQ p W m V (gf S f c):=by
 cases hs:S c with
 |true=>exact (s.out c a hs).congr λj _=>by rw[kB hs]
 |false=>exact dQ.zero.congr λj _=>by rw[oJ hs]
theorem Sp.mem (s:Sp p n n V m S f k){v:Nat->Int}:dQ p n m V v↔dQ p n n (gf S f) v:=
 ⟨λh=>h.trans λi hi=>s.DL i hi,λh=>h.trans λ_ a=>s.amZ a⟩
theorem Sp.uniq (l:1<p)(s:Sp p n n V m S f k)(a:Sp p n n V' m' S' f' k')(h: ∀i,i<m->dQ p n m' V' (V i))(h': ∀i,i<m'->dQ p n m V (V' i)):
  (∀c,c<n->S c=S' c)/\(∀c j,c<n->S c=true->j<n->f c j=f' c j)/\k=k':=by
 obtain⟨e1,e2⟩:=Re.uniq l s.re a.re (λc d b=>a.mem.1 ((s.out c d b).trans h)) (λc d b=>s.mem.1 ((a.out c d b).trans h'))
 exact⟨e1,e2,by rw[s.cn,a.cn,JK e1]⟩
theorem LU (d: ∀c,c<n->S c=S' c)(h2: ∀c j,c<n->S c=true->j<W->f c j=f' c j):pU n W S f=pU n W S' f':=by
 induction n with
 |zero=>rfl
 |succ n ih=>
  rw[Yc,Yc,ih (λc h=>d c om) (λc j h a b=>h2 c j om a b),<-d n om];congr 1
  cases a:S n with
  |true=>simp only[if_true];rw[fN λj b=>h2 n j om a b]
  |false=>rfl
theorem oV:(pU n W S f).length=xU n S:=by rw[pU,dO,xU]
theorem Sp.zero (i:0<p)(s:Sp p n n V m S f k)(v:Nat->Int):(∀j,j<n->zW p S f (λj=>v j%p) n j=0)↔dQ p n m V v:=by
 rw[s.mem];have e:=λj (a:j<n)=>Ak s.re (dN n) (λj=>v j%p) n (dN n) j a
 constructor
 .intro h
  refine⟨λd=>v d%p,λj a=>?_⟩;have q:=e j a;rw[h j a,Int.zero_emod] at q;have:=sub_zero q.symm;rwa [zP] at this
 .rintro⟨d,hd⟩ j a
  have q:=s.re.read hd a;have b:=qL i (S:=S) (f:=f) (v:=λj=>v j%p) (j:=j) (bX _ i) n;rw[<-Int.emod_eq_of_lt b.1 b.2,e j a,xY (zP p (v j)) (dM λc _=>mul_mod (zP p (v c)) (rfl:gf S f c j%p=_)),xY q rfl,Int.sub_self,Int.zero_emod]
end
theorem Wv {n:Int}:{ls:List (List (List Int))}->xH n ls=0-> ∀l∈ls,l.length<=200/\ ∀i,i<l.length->((l.getD i []).length:Int)=n
 | [],_,l,b=>by cases b
 |a::r,h,l,b=>by
  rw[xH] at h;split at h
  .cases h
  .rename_i d
   split at h
   .cases h
   .rename_i c
    rcases Hu.1 b with rfl|b
    .refine⟨om,λi hi=>?_⟩
     have: ¬decide (((l.getD i []).length:Int)≠n)=true:=λe=>c (List.any_eq_true.2 ⟨l.getD i [],by rw[gV,dJ hi];exact Hn _,e⟩)
     simpa using this
    .exact Wv h l b
theorem adK {p n:Int}{b:List (List (List Int))}(h:IG p n b=0):cF p=true/\p<10000/\1<=n/\n<=64/\ ∀l∈b,l.length<=200/\ ∀i,i<l.length->((l.getD i []).length:Int)=n:=by
 rw[IG] at h;split at h
 .cases h
 .rename_i c
  split at h
  .cases h
  .rename_i d
   have a:fD p=true:=by simpa using c
   simp only[fD,oD,decide_eq_true_eq] at a;exact⟨a.2,a.1,om,om,Wv h⟩
theorem tL {p:Int}(h:cF p=true):1<p:=by have:=Kh h;have:=this.two;omega
theorem sl1 (id n:Nat)(cap:qD):Sl (.sl id 0 n cap) 1 n id 0:=⟨rfl,λk i a b=>lJ a b,rfl,rfl⟩
theorem RW {h:H}{N D:Nat}{cap:qD}{y:V}{l:List Int}{vs:List V}(c:SI h y l)(o:0<l.length)(i:l.length<=D)(f:h.get N=some (.cells false vs))(k:l.length<=vs.length):
  Nh h 1 (.sl N 0 D cap) y=some (aC (l.length:Int),h.set N (some (.cells false (ints l++vs.drop l.length)))):=by
 have b:=SV.slice c
 have a:=c.len
 rcases c with ⟨_,e⟩|⟨id,d,len,j,n,r,rfl,m,q,t,u,s⟩
 .have:(ints l).length=0:=by rw[e];rfl
  rw[aE] at this;omega
 .simp only[oU,Option.some.injEq] at a
  subst a
  simp only[H.slice] at b
  simp only[Nh,oU,Nat.min_eq_left i,b,H.put,f,putAt,aE]
  rw[aS om]
  simp
def Me (n:Nat)(V:Nat->Nat->Int):Nat->Nat->Int:=λi j=>if j<n then V i j else if j=n+i then 1 else 0
structure Gk (h:H)(R m W i:Nat)(ρ:Nat->Nat)(F:Nat->Nat->Int)(lo:Nat):Prop where
 gR:h.get R=some (.cells false ((List.range m).map λj=>if j<i then V.sl (ρ j) 0 W (.kn W) else .aH))
 row: ∀j,j<i->Bk h (ρ j) W (F j)
 hρ: ∀j,j<i->R<ρ j
 ltρ: ∀j,j<i->ρ j<h.next
 hR:lo<=R
 ltR:R<h.next
theorem MX (n:Nat)(v:V)(b:List (List Int))(h:H)(hv:SR h v b)(hl:b.length<=200)(O:1<=n)(a2:n<=64)(L: ∀i,i<b.length->(b.getD i []).length=n):
  Ev T 129 [aC n,v] h (λw h'=>ZA h' w (kM b.length (n+b.length) (Me n (vw b)))/\Fr h h'):=by
 obtain⟨id,off,ws,sl,t,a6,hc,k⟩:=hv.open
 obtain⟨m,hm⟩:=exI b.length
 obtain⟨W,l⟩:=exI (n+m)
 have lv:=hv.lens
 rw[hm] at lv sl t hc hl
 have a4:sD h 1 24 [.aH] (aC m) (aC m)=some (.sl h.next 0 m (.kn m),h.new (.cells false ((List.range m).map λj=>if j<0 then V.sl 0 0 W (.kn W) else .aH))):=by
  rw[iH om (Int.le_refl _) om om,Mc,jP];congr 4;refine List.ext_getElem (by simp [cJ]) λi _ _=>?_
  simp [cJ,Nat.mod_one]
 refine Hv lv a4 ?_
 have a3:Fr h (h.new (.cells false ((List.range m).map λj=>if j<0 then V.sl 0 0 W (.kn W) else .aH))):=(Fr.refl h).new _
 have z:(h.new (.cells false ((List.range m).map λj=>if j<0 then V.sl 0 0 W (.kn W) else .aH))).get h.next=some (.cells false ((List.range m).map λj=>if j<0 then V.sl 0 0 W (.kn W) else .aH)):=H.aI ..
 have O:(h.new (.cells false ((List.range m).map λj=>if j<0 then V.sl 0 0 W (.kn W) else .aH))).next=h.next+1:=H.aM ..
 generalize h.new (.cells false ((List.range m).map λj=>if j<0 then V.sl 0 0 W (.kn W) else .aH))=q at*
 obtain⟨R,hR⟩:=exI h.next
 rw[hR] at z
 rw[hR]
 refine aP (λk' f a=> ∃(i:Nat) (ρ:Nat->Nat),(∃j:Nat->V,f= [aC n,v,j 2,.sl R 0 m (.kn m),j 4,j 5,v,aC m,aC i,j 9])/\i<=m/\Gk a R m W i ρ (Me n (vw b)) h.next/\Fr h a/\k'=m-i) m
  ⟨0,λ_=>0,aD rfl,fY _,⟨z,λj d=>absurd d (Nat.not_lt_zero j),λj d=>absurd d (Nat.not_lt_zero j),λj d=>absurd d (Nat.not_lt_zero j),om,om⟩,a3,rfl⟩ ?_
 rintro k' f a ⟨i,ρ,⟨jk,rfl⟩,hi,G,F,rfl⟩
 refine aT ?_
 by_cases u:(i:Int)<(m:Int)
 .rw[cV u]
  have s:i<m:=om
  have ci:a.cell id (off+i)=some (ws.getD i .undef):=by rw[F.cell (t om)];exact hc i om
  have ri:=(Mz k (i:=i) om).mono F
  have lR:=G.ltR
  have P:=L i om
  have Q:=Kf a W om
  have eW:(n:Int)+(m:Int)=(W:Int):=om
  refine nW @sl.ixa ci lv eW Q ?_
  have r:Fr a (a.new (.cells false (ints (eN W λ_=>0)))):=(Fr.refl a).new _
  have A:(a.new (.cells false (ints (eN W λ_=>0)))).get a.next=some (.cells false (ints (eN W λ_=>0))):=H.aI ..
  have a2:(a.new (.cells false (ints (eN W λ_=>0)))).next=a.next+1:=H.aM ..
  generalize a.new (.cells false (ints (eN W λ_=>0)))=o at*
  obtain⟨N,hN⟩:=exI a.next
  rw[hN] at A
  rw[hN]
  have a0:=(r.get R lR).trans G.gR
  have J:=λY=>eH (y:=V.sl N 0 W (.kn W)) rfl rfl Y R i
  have B:=λY:H=>bE (vs:=(List.range m).map λj=>if j<i then V.sl (ρ j) 0 W (.kn W) else .aH) (off:=i) (by simpa using s) Y R (.sl N 0 W (.kn W))
  have el:((List.range m).map λj=>if j<i then V.sl (ρ j) 0 W (.kn W) else .aH).set i (.sl N 0 W (.kn W))=(List.range m).map λj=>if j<i+1 then V.sl (Ef ρ i N j) 0 W (.kn W) else .aH:=by
   refine List.ext_getElem siM λj _ _=>?_
   rw[List.getElem_set,List.getElem_map,List.getElem_map,List.getElem_range];simp only[Ef]
   by_cases e:i=j
   .subst e;simp
   .rw[aQ e,aQ (Ne.symm e)]
    by_cases e2:j<i
    .rw[aS e2,aS om]
    .rw[aQ e2,aQ om]
  rw[el] at B
  have F3:Fr h (o.set R (some (.cells false ((List.range m).map λj=>if j<i+1 then V.sl (Ef ρ i N j) 0 W (.kn W) else .aH)))):=(F.trans r).set om _
  have r3:=(Mz k (i:=i) om).mono F3
  have a1:(o.set R (some (.cells false ((List.range m).map λj=>if j<i+1 then V.sl (Ef ρ i N j) 0 W (.kn W) else .aH)))).get N=some (.cells false (ints (eN W λ_=>0))):=by rw[H.Cj _ om];exact A
  have cp:=RW (N:=N) (D:=W) (cap:= .kn W) r3 om om a1 (by rw[aE,aW];omega)
  have Z:((List.range m).map λj=>if j<i+1 then V.sl (Ef ρ i N j) 0 W (.kn W) else .aH)[i]? =some (.sl N 0 W (.kn W)):=by
   rw[Al,List.getElem?_range s];simp [Ef]
  have eI:(n:Int)+(i:Int)=((n+i:Nat):Int):=om
  have e5:ints (b.getD i [])++(ints (eN W λ_=>0)).drop (b.getD i []).length=ints (eN W λj=>if j<n then vw b i j else 0):=by
   rw[P]
   rw[show (ints (eN W λ_=>0)).drop n=ints (eN m λ_=>0) from by
    rw[<-l,Ny,fQ,List.drop_append_of_le_length (by rw[aE,aW];exact dN n),List.drop_of_length_le (by rw[aE,aW];exact dN n),List.nil_append],<-fQ]
   congr 1;rw[<-l];refine tE (by rw[eE,aW,P]) λj d=>?_
   by_cases e:j<n
   .rw[aS e,gV,Aw om,<-gV];rfl
   .rw[aQ e,gV,Hs om,<-gV,P,cZ _ om]
  rw[e5] at cp
  have n2:o.next=N+1:=om
  have K:=λh4:H=>bE (vs:=ints (eN W λj=>if j<n then vw b i j else 0)) (off:=n+i) (by rw[aE,aW];omega) h4 N (aC 1)
  rw[ints_set,Ct] at K
  have x:N≠R:=om
  refine wY J @G.gR a0 B Z cp eI K ?_
  have eF:eN W (λj=>if j=n+i then 1 else if j<n then vw b i j else 0)=eN W (Me n (vw b) i):=fN λj d=>by
   rw[Me]
   by_cases e:j=n+i
   .rw[aS e,aQ om,aS e]
   .rw[aQ e]
    by_cases e2:j<n
    .rw[aS e2,aS e2]
    .rw[aQ e2,aQ e2,aQ e]
  rw[show (i:Int)+1=((i+1:Nat):Int) from om,eF]
  have U: ∀j,j<i->Ef ρ i N j=ρ j:=λj d=>by simp only[Ef,aQ (Nat.ne_of_lt d)]
  have uq:Ef ρ i N i=N:=by simp [Ef]
  have a5:a.next=N:=hN
  refine⟨m-(i+1),om,i+1,Ef ρ i N,aD rfl,om,⟨?_,λj d=>?_,λj d=>?_,λj d=>?_,G.hR,?_⟩,?_,rfl⟩
  .rw[H.Cj _ x.symm,H.Cj _ x.symm];exact H.aJ ..
  .by_cases e:j=i
   .rw[e,uq];exact Bk.set ..
   .rw[U j om]
    have:=G.ltρ j om
    have:=G.hρ j om
    exact (((G.row j om).fr r om).ne om _|>.ne om _).ne om _
  .by_cases e:j=i
   .rw[e,uq];omega
   .rw[U j om];exact G.hρ j om
  .by_cases e:j=i
   .rw[e,uq];show N<o.next;omega
   .rw[U j om];show ρ j<o.next;have:=G.ltρ j om;omega
  .show R<o.next;omega
  .exact (F3.set om _).set om _
 rw[bZ u]
 obtain rfl:m=i:=om
 refine aT ?_
 refine⟨⟨(List.range m).map λj=>V.sl (ρ j) 0 W (.kn W),SV.all (ro:=false) siM G.ltR ?_ _,bH.jF (by simp [kM,hm]) λi q o=>?_,λw L=>?_⟩,F⟩
 .rw[G.gR]
  congr 2
  refine List.ext_getElem siM λj q _=>?_
  simp only[dO,gT] at q
  rw[List.getElem_map,List.getElem_map,List.getElem_range,aS q]
 .simp only[dO,gT] at q
  simp only[List.getElem_map,List.getElem_range,kM]
  rw[hm,l]
  exact (G.row i q).si (G.ltρ i q) _
 .simp only[oG] at L
  obtain⟨c,_,rfl⟩:=L
  intro id off m cc e
  cases e
  exact⟨W,rfl,dN _⟩
section
variable {n m W:Nat} {S:Nat->Bool} {f:Nat->Nat->Int} {p:Int}
def Mu (n m:Nat)(S:Nat->Bool)(f:Nat->Nat->Int)(c:Nat):List (List Int):=((List.range c).filter λc=>decide (n<=c)&&S c).map λc=>eN m λj=>f c (n+j)
theorem Jd {c:Nat}:Mu n m S f (c+1)=Mu n m S f c++(if n<=c/\S c=true then [eN m λj=>f c (n+j)] else []):=by
 simp only[Mu,List.range_succ,List.filter_append,List.map_append];congr 1
 by_cases h:n<=c
 .cases hs:S c<;>simp [List.filter,h,hs]
 .simp [List.filter,h]
theorem HF {c:Nat}:(Mu n m S f c).length<=c:=by
 rw[Mu,dO];exact kQ (List.length_filter_le _ _) (by rw[gT];omega)
theorem Kp.ind {b:List (List Int)}{Φ:Nat->(Nat->Bool)->(Nat->Nat->Int)->Nat->Prop}(K:Kp p n W b Φ)(c: ∀i S f k,i<b.length->Φ i S f k-> ¬ ∀j,j<n->zW p S f (λj=>(b.getD i []).getD j 0%p) n j=0):Kp p n W b (λi S f k=>Φ i S f k/\k=i):=
 ⟨λi S f k h=>K.rng i S f k h.1,λi S f k hi h=>K.red i S f k hi h.1,λi S f k hi h e=>absurd e (c i S f k hi h.1),λi S f k u hi h l a x s d o r t q=>⟨K.yes i S f k u hi h.1 l a x s d o r t q,by rw[h.2]⟩⟩
theorem ajM (d:1<p)(l:n+m=W)(V:Nat->Nat->Int): ∀i S f k,i<(kM m W (Me n V)).length->Sp p W W (vw (kM m W (Me n V))) i S f k-> ¬ ∀j,j<W->zW p S f (λj=>((kM m W (Me n V)).getD i []).getD j 0%p) W j=0:=λi S f k hi s e=>by
 rw[dC] at hi;obtain⟨c,h⟩:=(s.zero om (λj=>((kM m W (Me n V)).getD i []).getD j 0)).1 e;have q:vw (kM m W (Me n V)) i (n+i)%p=_:=h (n+i) om
 have v: ∀a,a<m->vw (kM m W (Me n V)) a (n+i)=if n+i=n+a then 1 else 0:=λa b=>by
  rw[vw,jT _ b,cZ _ om,Me,aQ om]
 rw[fI λa b=>by rw[v a om,aQ om,Int.mul_zero]] at q;rw[v i hi,aS rfl,Int.zero_emod,Int.emod_eq_of_lt om d] at q;omega
theorem Ec.iU {h h':H}{E M:Nat}{ρ:Nat->Nat}{l:Nat}(k:Ec h E M n W p S ρ f l)(j:h.next<=h'.next)(b:Nat)(i: ∀x,x<b->h'.get x=h.get x)(o:E<b)(r:M<b)(q: ∀c,c<n->S c=true->ρ c<b):Ec h' E M n W p S ρ f l:=
 ⟨(i E o).trans k.gE,k.gM.fr (i M r),λc d a=>(i _ (q c d a)).trans (k.row c d a),k.inj,k.neE,k.neM,k.EM,k.loE,k.loM,k.loR,iD k.ltE j,iD k.ltM j,λc d a=>iD (k.ltR c d a) j⟩
structure KJ (p:Int)(E M W n X3 X5 X4 LID:Nat)(S:Nat->Bool)(ρ:Nat->Nat)(f:Nat->Nat->Int)(lo lo2:Nat)(u:V)(ws:List V)(ll:List (List Int))(h:H)(rc:dP)(hh:H):Prop where
 g3:hh.get X3=some (.cells false [aC n])
 g5:hh.get X5=some (.cells false [u])
 g4:hh.get X4=some (.cells false [.ptr E 0])
 gL:hh.get LID=some (.loop rc)
 r:tD hh u ws ll lo2
 k:Ec hh E M W W p S ρ f lo
 fr:Fr h hh
 lt:LID<hh.next
theorem Qo (p:Int)(n:Nat)(v:V)(y:List (List Int))(h:H)(hv:SR h v y)(hl:y.length<=200)(a9:1<=n)(e5:n<=64)(hw: ∀i,i<y.length->(y.getD i []).length=n)(hp:cF p=true)(d5:p<10000):
  Ev T 91 [aC p,aC n,v] h (λw h'=> ∃k S f,k=y.length/\Sp p (n+y.length) (n+y.length) (vw (kM y.length (n+y.length) (Me n (vw y)))) y.length S f k/\Tw h' w (Mu n y.length S f (n+y.length)) h.next/\Fr h h'):=by
 refine mV ?_
 obtain⟨m,hm⟩:=exI y.length
 obtain⟨W,a2⟩:=exI (n+m)
 have lv:=hv.lens
 rw[hm] at lv
 rw[hm,a2]
 have c9:mT h (aC n)=some (.ptr h.next 0,h.new (.cells false [aC n])):=by simp [mT,V.cells,V.one]
 simp (disch:=first|omega|(simp only[List.length_set,List.length_replicate,eE,jG,jR,List.length_cons,List.length_nil,dO,gT,aE]<;>omega)) only[go_sem,aV,c9]
 have e9:Fr h (h.new (.cells false [aC n])):=(Fr.refl h).new _
 have b3:(h.new (.cells false [aC n])).get h.next=some (.cells false [aC n]):=H.aI ..
 have a9:(h.new (.cells false [aC n])).next=h.next+1:=H.aM ..
 generalize h.new (.cells false [aC n])=N at*
 have b6:Fr N (N.new (.cells false [.aH])):=(Fr.refl N).new _
 have c3:(N.new (.cells false [.aH])).get N.next=some (.cells false [.aH]):=H.aI ..
 have c4:(N.new (.cells false [.aH])).next=N.next+1:=H.aM ..
 generalize N.new (.cells false [.aH])=K at*
 rw[<-a9,<-c4]
 obtain⟨X3,e7⟩: ∃X,h.next=X:=⟨_,rfl⟩
 obtain⟨G,d3⟩: ∃X,N.next=X:=⟨_,rfl⟩
 rw[e7] at b3 |-
 rw[d3] at c3 |-
 have F2:=e9.trans b6
 have a3:=(b6.get X3 om).trans b3
 have d9:K.cell X3 0=some (aC n):=by rw[H.cell_of a3];rfl
 have fb:Fr K (H.mk K.tr (K.next+10)):=(Fr.refl K).cU om
 have nb:(H.mk K.tr (K.next+10)).next=K.next+10:=rfl
 have eW:(n:Int)+(m:Int)=(W:Int):=om
 have f9:(n:Int)+(y.length:Int)=(W:Int):=om
 simp (disch:=first|omega|(simp only[List.length_set,List.length_replicate,eE,jG,jR,List.length_cons,List.length_nil,dO,gT,aE]<;>omega)) only[go_sem,d9,lv,eW]
 generalize H.mk K.tr (K.next+10)=d1 at*
 refine (MX n v y d1 (hv.mono (F2.trans fb)) hl om e5 hw).mono ?_
 rintro w h3 ⟨s3,f3⟩
 rw[hm,a2] at s3
 have F3:=(F2.trans fb).trans f3
 have a4:=fb.trans f3
 have d8:=(a4.get X3 om).trans a3
 have d6:h3.cell X3 0=some (aC n):=by rw[H.cell_of d8];rfl
 obtain⟨L2,Q⟩:=exI (kM m W (Me n (vw y)))
 rw[Q] at s3 |-
 have l2:L2.length=m:=by rw[<-Q,dC]
 have d7: ∀i,i<L2.length->(L2.getD i []).length=W:=λi hi=>by rw[<-Q,jT _ om,aW]
 have f2:dD v=some (aC m):=lv
 simp (disch:=first|omega|(simp only[List.length_set,List.length_replicate,eE,jG,jR,List.length_cons,List.length_nil,dO,gT,aE]<;>omega)) only[go_sem,d6,lv,eW,Sd]
 refine (Rn p W W L2 w _ ((Sp.kp (tL hp) (dN W) L2).ind (by rw[<-Q];exact ajM (tL hp) a2 _)) h3 ⟨Sp.start p W W _ _,rfl⟩ s3.sr om (λi hi=>d7 i hi) om (dN W) hp d5).mono ?_
 rintro w L ⟨E,M,k,S,ρ,f,rfl,⟨s,b1⟩,hk,kE,f4⟩
 rw[l2] at s b1
 simp (disch:=first|omega|(simp only[List.length_set,List.length_replicate,eE,jG,jR,List.length_cons,List.length_nil,dO,gT,aE]<;>omega)) only[go_sem]
 refine (zB E L).mono ?_
 rintro w h5 ⟨rfl,rfl⟩
 have a5:Fr L (L.new (.cells false [.ptr E 0])):=(Fr.refl L).new _
 have c6:(L.new (.cells false [.ptr E 0])).get L.next=some (.cells false [.ptr E 0]):=H.aI ..
 have f5:(L.new (.cells false [.ptr E 0])).next=L.next+1:=H.aM ..
 generalize L.new (.cells false [.ptr E 0])=h5 at*
 obtain⟨X4,b5⟩: ∃X,L.next=X:=⟨_,rfl⟩
 obtain⟨b,Y⟩: ∃X,h5.next=X:=⟨_,rfl⟩
 rw[b5] at c6
 have k1:=kE.ltE
 have k2:=kE.ltM
 have k3:=kE.ltR
 have o1:=kE.loE
 have o2:=kE.loM
 have o3:=kE.loR
 have f1:=a4.next
 have f8:=f4.next
 simp (disch:=first|omega|(simp only[List.length_set,List.length_replicate,eE,jG,jR,List.length_cons,List.length_nil,dO,gT,aE]<;>omega)) only[go_sem]
 rw[b5,Y]
 generalize R:dP.mk _ _ _ _ _ _=rc
 refine⟨rfl,?_⟩
 have f6:Fr h5 (h5.new (.loop rc)):=(Fr.refl h5).new _
 have F5:=(F3.trans f4).trans a5
 have b8:=(a4.trans f4).trans a5
 have J0:KJ p E M W n X3 G X4 b S ρ f h3.next (b+1) .aH [] (Mu n m S f 0) h rc (h5.new (.loop rc)):=
  ⟨((b8.trans f6).get _ om).trans a3,((b8.trans f6).get _ om).trans c3,(f6.get _ om).trans c6,by rw[<-Y];exact H.aI ..,tD.aH _ _,kE.fr (a5.trans f6),F5.trans f6,by rw[H.aM];omega⟩
 have loop:Ev T 193 [.yl b,.ptr X4 0] (h5.new (.loop rc)) (λ_ t=> ∃u B,KJ p E M W n X3 G X4 b S ρ f h3.next (b+1) u B (Mu n m S f W) h rc t):=by
  refine sU b X4 E M W W p S ρ (λc t=>c<=W/\ ∃u B,KJ p E M W n X3 G X4 b S ρ f h3.next (b+1) u B (Mu n m S f c) h rc t)
   (λc t ⟨_,u,B,J⟩=>⟨J.g4,J.k.gE,J.k.gM⟩) (λc t A l ⟨_,u,B,J⟩=>?_) (λc t A l ⟨_,u,B,J⟩=>⟨om,u,B,by rw[Jd,aQ (by simp [l]),qH];exact J⟩) _ ⟨fY _,_,_,J0⟩ om|>.mono λ_ _ q=>q.2
  refine Ph J.gL (by rw[<-R];rfl) ?_;have lt:=J.lt;have c7:t.cell X3 0=some (aC n):=by rw[H.cell_of J.g3];rfl
  subst R;simp (disch:=first|omega|(simp only[List.length_set,List.length_replicate,eE,jG,jR,List.length_cons,List.length_nil,dO,gT,aE]<;>omega)) only[go_sem,List.zip_cons_cons,List.zip_nil_left];refine⟨_,J.gL,rfl,?_⟩;generalize c2:dP.mk _ _ _ _ YZ.busy _=F;have R1:tD (t.set b (some (.loop F))) u B (Mu n m S f c) (b+1):=J.r.set om _;have e1:=J.k.fx (h':=t.set b (some (.loop F))) ((Fx.refl b t).set _) om om λc A l=>by have:=k3 c A l;omega
  have F1:Fr h (t.set b (some (.loop F))):=Fr.set J.fr om _;have U:(t.set b (some (.loop F))).get X3=some (.cells false [aC n]):=by rw[H.Cj _ om];exact J.g3
  have O:(t.set b (some (.loop F))).get G=some (.cells false [u]):=by rw[H.Cj _ om];exact J.g5
  have a7:(t.set b (some (.loop F))).get X4=some (.cells false [.ptr E 0]):=by rw[H.Cj _ om];exact J.g4
  have a1:(t.set b (some (.loop F))).get b=some (.loop F):=H.aJ ..;have d4:(t.set b (some (.loop F))).next=t.next:=rfl
  obtain⟨d,a0⟩: ∃q,t.set b (some (.loop F))=q:=⟨_,rfl⟩
  rw[a0] at R1 e1 F1 U O a7 a1 d4;rw[a0];have a8:d.cell X3 0=some (aC n):=by rw[H.cell_of U];rfl
  have b0:d.cell G 0=some u:=by rw[H.cell_of O];rfl
  simp (disch:=first|omega|(simp only[List.length_set,List.length_replicate,eE,jG,jR,List.length_cons,List.length_nil,dO,gT,aE]<;>omega)) only[go_sem,c7,a8]
  by_cases c1:(c:Int)>=(n:Int)
  .rw[cV c1]
   have c0:n<=c:=om
   have row:=(e1.row c A l).si (e1.ltR c A l) (.kn W);have b9:MQ (V.sl (ρ c) 0 W (.kn W)):=λid off m c e=>by cases e;exact .inr ⟨W,rfl,dN _⟩
   obtain⟨vr,c8,b7⟩:=DP row b9 (k:=n) (by rw[aW];omega)
   have e6:(eN W (f c)).drop n=eN m (λj=>f c (n+j)):=tE (by rw[jR,aW];omega) λk hk=>by
    rw[gV,List.getElem?_drop,<-gV,cZ _ om]
   rw[e6] at b7;have fb:Fr d (H.mk d.tr (d.next+8)):=(Fr.refl d).cU om;have b2:=b7.mono fb;have nb:(H.mk d.tr (d.next+8)).next=d.next+8:=rfl
   simp (disch:=first|omega|(simp only[List.length_set,List.length_replicate,eE,jG,jR,List.length_cons,List.length_nil,dO,gT,aE]<;>omega)) only[go_sem,a8,b0,c8];generalize H.mk d.tr (d.next+8)=Z at*;refine (rW vr (eN m (λj=>f c (n+j))) Z b2 (by rw[aW];omega)).mono ?_;rintro w h7 ⟨o7,f7,_⟩;have c5:=fb.trans f7;have n7:=f7.next;have e4:h7.cell G 0=some u:=by rw[c5.cell om];exact b0
   have eu:=SV.dS R1.own.sv;have vw:=SV.cT o7.sv;have z:=VQ c5 (a:=d.next+5) om w;have R7:=R1.fr z;have d0:dF (Cf h7 (d.next+5) w) w 1 (ints (eN m (λj=>f c (n+j)))) Z.next:=o7.mono (dN _) λid _ _ _ _ N _=>Vw h7 w om
   have sy:=SJ h7 (a:=d.next+5) w om;have nl:(Cf h7 (d.next+5) w).next=h7.next:=rfl
   have f0:=R1.row.length;have kl:=HF (n:=n) (m:=m) (S:=S) (f:=f) (c:=c);obtain⟨v8,P,e8,R8,n8,k8,q8⟩:=R7.app om sy d0.sv (dF.uY (R1.own.fr fb) o7) (zQ.le (zQ.own o7) om) om;have F8:Fr h P:=q8 h (F1.trans z) om;have g3:=(k8 X3 om (kI R7.own om)).trans ((z.get X3 om).trans U);have g5:=(k8 G om (kI R7.own om)).trans ((z.get G om).trans O);have g4:=(k8 X4 om (kI R7.own om)).trans ((z.get X4 om).trans a7);have gL:=(k8 b om (kI R7.own om)).trans ((z.get b om).trans a1);have E8:Ec P E M W W p S ρ f h3.next:=(e1.fr z).iU n8 (b+1) (λx hx=>k8 x om (kI R7.own hx)) om om λc A l=>by have:=k3 c A l;omega
   have hv:=SV.cT R8.own.sv;have b4:=λt=>eH hv.1 hv.2.1 t G 0
   have pt:=λt:H=>bE (vs:= [u]) (off:=0) siM t G v8
   simp (disch:=first|omega|(simp only[List.length_set,List.length_replicate,eE,jG,jR,List.length_cons,List.length_nil,dO,gT,aE]<;>omega)) only[go_sem,e4,eu,Sd,alI (H.mk h7.tr (d.next+5)) w vw.1 vw.2.1,TY,e8,b4,g5,pt];refine⟨F,by rw[H.Cj _ om];exact gL,rfl,om,v8,B++ [w],?_⟩;have ew:Mu n m S f (c+1)=Mu n m S f c++ [eN m λj=>f c (n+j)]:=by rw[Jd,aS ⟨c0,l⟩]
   rw[ew];subst c2;refine⟨by rw[H.Cj _ om,H.Cj _ om];exact g3,by rw[H.Cj _ om];exact H.aJ ..,by rw[H.Cj _ om,H.Cj _ om];exact g4,H.aJ ..,(R8.set om _).set om _,?_,(F8.set om _).set om _,by show b<P.next;omega⟩;exact (E8.fx ((Fx.refl G P).set _) om om λc A l=>by have:=k3 c A l;have:=o3 c A l;omega).fx ((Fx.refl b _).set _) om om λc A l=>by have:=k3 c A l;omega
  rw[bZ c1];simp (disch:=first|omega|(simp only[List.length_set,List.length_replicate,eE,jG,jR,List.length_cons,List.length_nil,dO,gT,aE]<;>omega)) only[go_sem];refine⟨F,a1,rfl,om,u,B,?_⟩;have ew:Mu n m S f (c+1)=Mu n m S f c:=by rw[Jd,aQ (λq=>by have:=q.1;omega),qH]
  rw[ew];subst c2;refine⟨by rw[H.Cj _ om];exact U,by rw[H.Cj _ om];exact O,by rw[H.Cj _ om];exact a7,H.aJ ..,R1.set om _,?_,F1.set om _,by show b<d.next;omega⟩;exact e1.fx ((Fx.refl b _).set _) om om λc A l=>by have:=k3 c A l;omega
 refine loop.mono ?_
 rintro _ a6 ⟨u,B,J⟩
 refine⟨_,J.gL,by rw[<-R];simp,?_⟩
 have e3:rc.pend=none:=by rw[<-R]
 simp only[e3,Option.getD_none]
 have lt:=J.lt
 have q3: ∀o,(a6.set b o).cell G 0=some u:=λo=>by
  rw[H.kW _ om,H.cell_of J.g5];rfl
 have g': ∀o,Fr h (a6.set b o):=λo=>Fr.set J.fr om o
 have r': ∀o,tD (a6.set b o) u B (Mu n m S f W) (b+1):=λo=>J.r.set om o
 simp (disch:=first|omega|(simp only[List.length_set,List.length_replicate,eE,jG,jR,List.length_cons,List.length_nil,dO,gT,aE]<;>omega)) only[go_sem,q3]
 exact⟨k,S,f,b1,s,⟨_,(r' _).own.sv,(r' _).row,zQ.le (zQ.own (r' none).own) om,λw hw=>((r' none).frs w hw).le om⟩,g' _⟩
end
def ceF (p:Int)(n m:Nat)(V:Nat->Nat->Int)(S:Nat->Bool)(f K:Nat->Nat->Int):Bool:=
 ((List.range n).all λc=>!S c||(((List.range n).all λj=>decide (0<=f c j)&&decide (f c j<p)&&decide (f c j%p=sm m (λi=>K c i*V i j)%p))&&((List.range c).all λj=>decide (f c j=0))&&decide (f c c=1)&&(List.range n).all λd=>!S d||decide (d=c)||decide (f c d=0)))
 &&(List.range m).all λa=>(List.range n).all λj=>decide (V a j%p=sm n (λc=>V a c*gf S f c j)%p)
theorem Sp.of {p:Int}{n m:Nat}{V:Nat->Nat->Int}{S:Nat->Bool}{f K:Nat->Nat->Int}(h:ceF p n m V S f K=true):Sp p n n V m S f (xU n S):=by
 rw[ceF,oD] at h;have⟨r,q⟩:=h;simp only[uR,mS,Bool.or_eq_true,oD,Bool.not_eq_true',decide_eq_true_eq] at r q;have g:=λc i (b:S c=true)=>(r c i).resolve_left (by simp [b])
 refine⟨⟨λc j i b k=>⟨((g c i b).1.1.1 j k).1.1,((g c i b).1.1.1 j k).1.2⟩,λc i b=>(g c i b).1.2,λc d i s b o l=>?_,λc j i b k=>(g c i b).1.1.2 j k⟩,λc i b=>⟨K c,λj k=>((g c i b).1.1.1 j k).2⟩,λa t=>⟨V a,λj k=>q a t j k⟩,rfl⟩;rcases (g c i b).2 d s with (e|e)|e
 .rw[o] at e;cases e
 .exact absurd e l
 .exact e
def lS (l:List Nat):Nat->Bool:=λc=>l.contains c
def lR (l:List (List Int)):Nat->Nat->Int:=λc j=>(l.getD c []).getD j 0
theorem Ta (h:H)(x y z:Int):lU h 1 [aC 0] 3 [(0,1,aC x),(1,1,aC y),(2,1,aC z)]=some (.sl h.next 0 3 (.kn 3),h.new (.cells false (ints [x,y,z]))):=by
 have e:cJ [aC 0] 3= [aC 0,aC 0,aC 0]:=rfl;simp [lU,fP,e,putAt,V.cells,V.one,ints]
set_option maxRecDepth 100000
structure Pv (p:Int)(n:Nat)(ll:List (List Int))(P:Nat->Nat)(g:Nat->Nat->Int):Prop where
 lt: ∀i,i<ll.length->P i<n
 row: ∀i,i<ll.length->ll.getD i []=eN n (g i)
 one: ∀i,i<ll.length->g i (P i)=1
 low: ∀i j,i<ll.length->j<P i->g i j=0
 zer: ∀i k,i<ll.length->k<ll.length->k≠i->g k (P i)=0
 rng: ∀i j,i<ll.length->j<n->0<=g i j/\g i j<p
 asc: ∀i k,i<k->k<ll.length->P i<P k
theorem Re.pv {p:Int}{n:Nat}{S:Nat->Bool}{f:Nat->Nat->Int}(r:Re p n n S f):Pv p n (pU n n S f) (λi=>((List.range n).filter S).getD i 0) (λi=>f (((List.range n).filter S).getD i 0)):=by
 have o:(pU n n S f).length=((List.range n).filter S).length:=by rw[pU,dO]
 have mem: ∀i,i<(pU n n S f).length->((List.range n).filter S).getD i 0<n/\S (((List.range n).filter S).getD i 0)=true:=λi hi=>by
  rw[gV,dJ om,Option.getD_some];have l:((List.range n).filter S)[i]'om∈(List.range n).filter S:=Hn _;rwa [Gh,mS] at l
 have a: ∀i k,i<k->k<(pU n n S f).length->((List.range n).filter S).getD i 0<((List.range n).filter S).getD k 0:=λi k b q=>by
  have m:((List.range n).filter S).Pairwise (· < ·):=List.Pairwise.filter _ List.pairwise_lt_range;have:=Iz.1 m i k om om b;rw[gV,dJ om,gV,dJ om];exact this
 refine⟨λi hi=>(mem i hi).1,λi hi=>?_,λi hi=>r.one _ (mem i hi).1 (mem i hi).2,λi j hi h=>r.lead _ j (mem i hi).1 (mem i hi).2 h,λi k hi c d=>r.zer _ _ (mem k c).1 (mem i hi).1 (mem k c).2 (mem i hi).2 ?_,λi j hi h=>r.rng _ j (mem i hi).1 (mem i hi).2 h,a⟩
 .rw[pU,gV,Al,dJ om,gV,dJ om]
  rfl
 .rcases Nat.lt_or_gt_of_ne d with b|b
  .have:=a k i b hi;omega
  .have:=a i k b c;omega
theorem Re.same {p:Int}{n:Nat}{S S':Nat->Bool}{f f':Nat->Nat->Int}(r:Re p n n S f)(r':Re p n n S' f')(h: ∀c,c<n->S c=true->dQ p n n (gf S' f') (f c))(e: ∀c,c<n->S c=S' c): ∀c j,c<n->S c=true->j<n->f c j=f' c j:=λc j b i k=>by
 obtain⟨d,u⟩:=h c b i;have q:=r'.read u k;rw[iP (t:=c) b λa o l=>?_,r.one c b i,Int.one_mul,kB (by rw[<-e c b];exact i)] at q
 .have m:=r.rng c j b i k
  have s:=r'.rng c j b (by rw[<-e c b];exact i) k;rwa [Int.emod_eq_of_lt m.1 m.2,Int.emod_eq_of_lt s.1 s.2] at q
 cases hsa:S' a with
 |false=>rw[oJ hsa,Int.mul_zero]
 |true=>rw[r.zer c a b o i (by rw[e a o];exact hsa) l,Int.zero_mul]
section
variable {p:Int} {n m m' k k':Nat} {V V':Nat->Nat->Int} {S S':Nat->Bool} {f f':Nat->Nat->Int}
theorem Gj {i:Nat}(hi:i<(pU n n S f).length):((List.range n).filter S).getD i 0<n/\S (((List.range n).filter S).getD i 0)=true/\(pU n n S f).getD i []=eN n (f (((List.range n).filter S).getD i 0)):=by
 have b:(pU n n S f).length=((List.range n).filter S).length:=by rw[pU,dO]
 have e:((List.range n).filter S).getD i 0=((List.range n).filter S)[i]'om:=by rw[gV,dJ om,Option.getD_some]
 have a:((List.range n).filter S)[i]'om∈(List.range n).filter S:=Hn _;rw[Gh,mS,<-e] at a;refine⟨a.1,a.2,?_⟩;rw[e,pU,gV,Al,dJ om]
 rfl
theorem HV {c:Nat}(b:c<n)(d:S c=true): ∃i,i<(pU n n S f).length/\(pU n n S f).getD i []=eN n (f c):=by
 have a:c∈(List.range n).filter S:=Gh.2 ⟨mS.2 b,d⟩;obtain⟨i,hi,e⟩:=Bj.1 a;have h:(pU n n S f).length=((List.range n).filter S).length:=by rw[pU,dO]
 refine⟨i,om,?_⟩;rw[pU,gV,Al,dJ hi,e]
 rfl
theorem Sp.toB (s:Sp p n n V m S f k)(i:Nat)(hi:i<m):dQ p n (pU n n S f).length (vw (pU n n S f)) (V i):=by
 refine (s.DL i hi).trans λc d=>?_
 cases hs:S c with
 |false=>exact dQ.zero.congr λj _=>by rw[oJ hs]
 |true=>
  obtain⟨q,a,e⟩:=HV (f:=f) d hs;exact (dQ.row a).congr λj b=>by rw[kB hs,vw,e,cZ _ b]
theorem Sp.ofB (s:Sp p n n V m S f k)(i:Nat)(hi:i<(pU n n S f).length):dQ p n m V (vw (pU n n S f) i):=by
 obtain⟨a,d,b⟩:=Gj hi;exact (s.out _ a d).congr λj c=>by rw[vw,b,cZ _ c]
end
theorem amF {p:Int}{n:Nat}(c:fD p=true)(q:1<=n)(h2:n<=64)(b:List (List (List Int)))(h3: ∀l∈b,l.length<=200/\ ∀i,i<l.length->(l.getD i []).length=n):IG p n b=0:=by
 rw[IG,aQ (by simp [c]),aQ om]
 induction b with
 |nil=>rfl
 |cons a r ih=>
  obtain⟨o,h⟩:=h3 a (wI ..);rw[xH,aQ om,aQ ?_]
  .exact ih λl d=>h3 l (wH _ d)
  .intro e
   obtain⟨x,j,e⟩:=List.any_eq_true.1 e;obtain⟨i,hi,rfl⟩:=Bj.1 j;have:=h i hi;rw[gV,dJ hi,Option.getD_some] at this;simp [this] at e
set_option maxRecDepth 100000
set_option maxRecDepth 100000
set_option maxRecDepth 100000
set_option maxRecDepth 100000
end Go.Proofs.YtoighkablmjfeaaGreat.Ln
namespace Go.Ay
def gn (n:Nat)(S:Nat->Bool)(f g:Nat->Nat->Int):Nat->Nat->Int:=λd=>if d<n then gf S f d else g (d-n)
structure Cb (p:Int)(n m:Nat)(V:Nat->Nat->Int)(c:Nat)(S:Nat->Bool)(f:Nat->Nat->Int)(r:Nat)(g:Nat->Nat->Int):Prop where
 re:Re p n n S f
 low: ∀d,d<n->S d=true->d<c
 rg: ∀i j,i<r->j<n->0<=g i j/\g i j<p
 gz: ∀i j,i<r->j<c->g i j=0
 fo: ∀d,d<n->S d=true->dQ p n m V (f d)
 go: ∀i,i<r->dQ p n m V (g i)
 DL: ∀a,a<m->dQ p n (n+r) (gn n S f g) (V a)
section
variable {p:Int} {n m r c:Nat} {V f g:Nat->Nat->Int} {S:Nat->Bool}
theorem Cb.start (b:0<p)(n m:Nat)(V f:Nat->Nat->Int):Cb p n m V 0 (λ_=>false) f m (λi j=>V i j%p) where
 re:=⟨λ_ _ _ h=>by simp at h,λ_ _ h=>by simp at h,λ_ _ _ _ h=>by simp at h,λ_ _ _ h=>by simp at h⟩
 low:=λ_ _ h=>by simp at h
 rg:=λi j _ _=>⟨Int.emod_nonneg _ om,Int.emod_lt_of_pos _ b⟩
 gz:=λ_ _ _ h=>om
 fo:=λ_ _ h=>by simp at h
 go:=λi hi=>(dQ.row hi).congr λj _=>zP _ _
 DL:=λa d=>(dQ.row (V:=gn n (λ_=>false) f λi j=>V i j%p) (i:=n+a) om).congr λj _=>by
  rw[gn,aQ om,Nat.add_sub_cancel_left,zP]
theorem Cb.skip (b:Cb p n m V c S f r g)(h: ∀i,i<r->g i c=0):Cb p n m V (c+1) S f r g where
 re:=b.re
 low:=λd a k=>by have:=b.low d a k;omega
 rg:=b.rg
 gz:=λi j hi l=>by
  by_cases e:j=c
  .rw[e];exact h i hi
  .exact b.gz i j hi om
 fo:=b.fo
 go:=b.go
 DL:=b.DL
theorem Cb.done (b:Cb p n m V n S f r g): ∀a,a<m->dQ p n n (gf S f) (V a):=λa i=>by
 refine (b.DL a i).trans λd k=>?_
 by_cases e:d<n
 .exact (dQ.row e).congr λj _=>by rw[gn,aS e]
 .exact dQ.zero.congr λj h=>by rw[gn,aQ e,b.gz _ j om h]
end
end Go.Ay
namespace Go.Proofs.YtoighkablmjfeaaGreat.Ln
open Go Go.Ay
abbrev wsl (ρ:Nat->Nat)(κ:Nat->qD)(n a:Nat):V:=V.sl (ρ a) 0 n (κ a)
structure Bz (b0 h:H)(m n:Nat)(ρ:Nat->Nat)(κ:Nat->qD)(τ:Nat->List V)(F:Nat->Nat->Int)(ur uo up:V)(ra oa:List Nat)(ps:List Int):Prop where
 fr:Fr b0 h
 row: ∀a,a<m->Bt h (ρ a) n (F a) (τ a)
 inj: ∀a b,a<m->b<m->ρ a=ρ b->a=b
 lo: ∀a,a<m->b0.next<=ρ a
 lt: ∀a,a<m->ρ a<h.next
 or:dF h ur 1 (ra.map (wsl ρ κ n)) b0.next
 oo:dF h uo 1 (oa.map (wsl ρ κ n)) b0.next
 op:dF h up 1 (ints ps) b0.next
 ar: ∀a,a<m->cW ur (ρ a)
 ao: ∀a,a<m->cW uo (ρ a)
 ap: ∀a,a<m->cW up (ρ a)
 d1:NI ur uo
 d2:NI ur up
 d3:NI uo up
 mr: ∀a∈ra,a<m
 mo: ∀a∈oa,a<m
 kc: ∀a,a<m->MQ (wsl ρ κ n a)
section
variable {b0 h h':H} {m n:Nat} {ρ:Nat->Nat} {κ:Nat->qD} {τ:Nat->List V} {F:Nat->Nat->Int} {ur uo up:V} {ra oa:List Nat} {ps:List Int}
theorem Ji {u:V}:NI .aH u:=λ_ _ _ _ e=>by cases e
theorem Bz.congr {F':Nat->Nat->Int}(b:Bz b0 h m n ρ κ τ F ur uo up ra oa ps)(e: ∀a j,a<m->j<n->F a j=F' a j):Bz b0 h m n ρ κ τ F' ur uo up ra oa ps:=
 {b with row:=λa c=>(b.row a c).congr λj d=>e a j c d}
theorem Bz.more (b:Bz b0 h m n ρ κ τ F ur uo up ra oa ps)(f:Fr h h'):Bz b0 h' m n ρ κ τ F ur uo up ra oa ps:=
 {b with fr:=b.fr.trans f,row:=λa c=>(b.row a c).fr f (b.lt a c),lt:=λa c=>iD (b.lt a c) f.next,or:=b.or.fr f,oo:=b.oo.fr f,op:=b.op.fr f}
theorem Bz.US (b:Bz b0 h m n ρ κ τ F ur uo up ra oa ps){a:Nat}(j:a<m)(f:Fx (ρ a) h h'){w:Nat->Int}(o:Bt h' (ρ a) n w (τ a)):Bz b0 h' m n ρ κ τ (λx=>if x=a then w else F x) ur uo up ra oa ps:=
 {b with
  fr:=Fx.fr b.fr (b.lo a j) f
  row:=λx l=>by
   by_cases e:x=a
   .simp only[aS e];rw[e];exact o
   .simp only[aQ e];exact (b.row x l).fx f (b.lt x l) λq=>e (b.inj x a l j q)
  lt:=λx l=>iD (b.lt x l) f.next
  or:=b.or.mono f.next λid d k c e _ i=>f.get id i λq=>b.ar a j id d k c e q.symm
  oo:=b.oo.mono f.next λid d k c e _ i=>f.get id i λq=>b.ao a j id d k c e q.symm
  op:=b.op.mono f.next λid d k c e _ i=>f.get id i λq=>b.ap a j id d k c e q.symm}
theorem Bz.start (h:H)(n:Nat)(ρ:Nat->Nat)(κ:Nat->qD)(τ:Nat->List V)(F:Nat->Nat->Int):Bz h h 0 n ρ κ τ F .aH .aH .aH (List.range 0) [] [] where
 fr:=Fr.refl _
 row:=λa b=>absurd b (Nat.not_lt_zero a)
 inj:=λa _ b=>absurd b (Nat.not_lt_zero a)
 lo:=λa b=>absurd b (Nat.not_lt_zero a)
 lt:=λa b=>absurd b (Nat.not_lt_zero a)
 or:=dF.aH _ _ _
 oo:=dF.aH _ _ _
 op:=dF.aH _ _ _
 ar:=λ_ _=>cW.aH _
 ao:=λ_ _=>cW.aH _
 ap:=λ_ _=>cW.aH _
 d1:=Ji
 d2:=Ji
 d3:=Ji
 mr:=λa b=>by simp at b
 mo:=λa b=>by simp at b
 kc:=λa b=>absurd b (Nat.not_lt_zero a)
end
def SRc (h:H)(u:V)(ll:List (List Int))(lo:Nat):Prop:= ∃ws,SV h u 1 ws/\bH (SI h) ws ll/\zQ u lo/\(∀w∈ws,zQ w lo)/\ ∀w∈ws,MQ w
theorem SRc.srf {h:H}{u:V}{i:List (List Int)}{f:Nat}(s:SRc h u i f):Tw h u i f:=by
 have⟨j,a,b,c,d,_⟩:=s;exact⟨j,a,b,c,d⟩
theorem bF {l:List Nat}{i:Nat}(hi:i<l.length):l.getD i 0∈l:=by
 rw[gV,dJ hi];exact Hn _
set_option maxRecDepth 100000
theorem Wh (ρ:X->V)(h:H)(x:X)(a:ρ x= .aH):dI ρ h (.caps x)=some (aC 0,h):=by
 simp only[dI,a]
theorem XW (n:Nat)(h:H)(l:n<1000000):Ev T 261 [.aH,aC n] h (λv h'=>dF h' v 1 [] h.next/\Fr h h'):=by
 refine mV ?_;simp (disch:=first|omega|(simp only[List.length_set,List.length_replicate,eE,jG,jR,List.length_cons,List.length_nil,dO,gT,aE]<;>omega)) only[go_sem,aV];rw[bZ (show ¬((n:Int)<0) by omega)];simp (disch:=first|omega|(simp only[List.length_set,List.length_replicate,eE,jG,jR,List.length_cons,List.length_nil,dO,gT,aE]<;>omega)) only[go_sem];rw[Wh _ _ _ rfl];simp (disch:=first|omega|(simp only[List.length_set,List.length_replicate,eE,jG,jR,List.length_cons,List.length_nil,dO,gT,aE]<;>omega)) only[go_sem]
 by_cases b:n=0
 .subst b
  rw[bZ (show ¬0<((0:Nat):Int)-(0- 0) by omega)];refine aT ?_;exact⟨dF.aH _ _ _,Fr.refl h⟩
 rw[cV (show 0<(n:Int)-(0- 0) by omega)];simp (disch:=first|omega|(simp only[List.length_set,List.length_replicate,eE,jG,jR,List.length_cons,List.length_nil,dO,gT,aE]<;>omega)) only[go_sem];rw[Wh _ _ _ rfl];have c:=WL (h:=h) (sz:=1) (bytes:=24) (zero:= [.aH]) (x:= .aH) (n:=(n:Int)-(0- 0)) om om om rfl;obtain⟨v,h',e,a⟩:=(dF.aH h 1 h.next).tV (bytes:=24) (dN _) (n:=0) (m:=n) (us:=cJ [.aH] n) rfl (by simp [cJ]) om om;rw[show ((n:Int)-(0- 0)).toNat=n by omega,jP,e] at c;simp (disch:=first|omega|(simp only[List.length_set,List.length_replicate,eE,jG,jR,List.length_cons,List.length_nil,dO,gT,aE]<;>omega)) only[go_sem,VN,c];rcases a.cT with ⟨k,_⟩|⟨id,rfl,d,j,f⟩
 .omega
 have i:pV 1 (.sl id 0 n (.un 1)) none (some (aC 0)) none=some (.sl id 0 0 (.un 1)):=UM om om;simp (disch:=first|omega|(simp only[List.length_set,List.length_replicate,eE,jG,jR,List.length_cons,List.length_nil,dO,gT,aE]<;>omega)) only[go_sem,i];exact⟨.inr ⟨id,0,.un 1,_,rfl,rfl,.inl rfl,d,j,f⟩,a.fr h (Fr.refl h) (dN _)⟩
theorem DC (id:Nat)(f i:V)(a b:List V)(h:H)(u:h.get id=cE [f,i])(j:id<h.next)(y:SV h f 1 a)(t:SV h i 1 b)(la:a.length<10000)(lb:b.length<10000):
  Ev T 239 [.sl id 0 2 (.kn 2)] h (λv h'=>dF h' v 1 (a++b) h.next/\Fr h h'):=by
 refine mV ?_
 have d:dD f=some (aC (a.length:Int)):=by unfold dD;rw[y.len (n:=a.length) om om];rfl
 have s:dD i=some (aC (b.length:Int)):=by unfold dD;rw[t.len (n:=b.length) om om];rfl
 have c:dD (.sl id 0 2 (.kn 2))=some (aC 2):=rfl
 have k:h.cell id 0=some f:=by rw[H.cell_of u];rfl
 have q:h.cell id 1=some i:=by rw[H.cell_of u];rfl
 have r:Ci 1 (.sl id 0 2 (.kn 2)) (aC 0)=some (.ptr id 0):=by rw[lJ om om];rfl
 have w:Ci 1 (.sl id 0 2 (.kn 2)) (aC 1)=some (.ptr id 1):=by rw[lJ om om];rfl
 simp (disch:=first|omega|(simp only[List.length_set,List.length_replicate,eE,jG,jR,List.length_cons,List.length_nil,dO,gT,aE]<;>omega)) only[go_sem,aV,c]
 refine jL ?_
 simp (disch:=first|omega|(simp only[List.length_set,List.length_replicate,eE,jG,jR,List.length_cons,List.length_nil,dO,gT,aE]<;>omega)) only[go_sem,r,k,d]
 rw[cV (show (0:Int)<2 by omega)]
 simp (disch:=first|omega|(simp only[List.length_set,List.length_replicate,eE,jG,jR,List.length_cons,List.length_nil,dO,gT,aE]<;>omega)) only[go_sem,r,k,d]
 rw[bZ (show ¬(0+(a.length:Int))<0 by omega)]
 simp (disch:=first|omega|(simp only[List.length_set,List.length_replicate,eE,jG,jR,List.length_cons,List.length_nil,dO,gT,aE]<;>omega)) only[go_sem]
 rw[show (0:Int)+1=1 from rfl,Int.zero_add]
 refine jL ?_
 simp (disch:=first|omega|(simp only[List.length_set,List.length_replicate,eE,jG,jR,List.length_cons,List.length_nil,dO,gT,aE]<;>omega)) only[go_sem]
 rw[cV (show (1:Int)<2 by omega)]
 simp (disch:=first|omega|(simp only[List.length_set,List.length_replicate,eE,jG,jR,List.length_cons,List.length_nil,dO,gT,aE]<;>omega)) only[go_sem,w,q,s]
 rw[bZ (show ¬((a.length:Int)+(b.length:Int))<0 by omega)]
 simp (disch:=first|omega|(simp only[List.length_set,List.length_replicate,eE,jG,jR,List.length_cons,List.length_nil,dO,gT,aE]<;>omega)) only[go_sem]
 rw[show (1:Int)+1=2 from rfl]
 refine jL ?_
 simp (disch:=first|omega|(simp only[List.length_set,List.length_replicate,eE,jG,jR,List.length_cons,List.length_nil,dO,gT,aE]<;>omega)) only[go_sem]
 rw[bZ (show ¬(2:Int)<2 by omega)]
 simp (disch:=first|omega|(simp only[List.length_set,List.length_replicate,eE,jG,jR,List.length_cons,List.length_nil,dO,gT,aE]<;>omega)) only[go_sem]
 rw[show (a.length:Int)+(b.length:Int)=((a.length+b.length:Nat):Int) by omega]
 refine (XW (a.length+b.length) h om).mono ?_
 rintro v J ⟨L,o⟩
 have k:J.cell id 0=some f:=by rw[o.cell j];exact k
 obtain⟨O,B,e2,x⟩:=L.app (bytes:=24) (n:=0) (m:=a.length) o.next (SV.mono y o) rfl om om om
 have l:=x.fr h o (dN _)
 have q:B.cell id 1=some i:=by rw[l.cell j];exact q
 have K:=x.own
 obtain⟨N,P,F,z⟩:=K.app (bytes:=24) (n:=a.length) (m:=b.length) l.next (SV.mono t l) siM om om om
 have G:=z.fr h l (dN _)
 simp (disch:=first|omega|(simp only[List.length_set,List.length_replicate,eE,jG,jR,List.length_cons,List.length_nil,dO,gT,aE]<;>omega)) only[go_sem,c]
 refine jL ?_
 simp (disch:=first|omega|(simp only[List.length_set,List.length_replicate,eE,jG,jR,List.length_cons,List.length_nil,dO,gT,aE]<;>omega)) only[go_sem]
 rw[cV (show (0:Int)<2 by omega)]
 simp (disch:=first|omega|(simp only[List.length_set,List.length_replicate,eE,jG,jR,List.length_cons,List.length_nil,dO,gT,aE]<;>omega)) only[go_sem,r,k,e2]
 rw[show (0:Int)+1=1 from rfl]
 refine jL ?_
 simp (disch:=first|omega|(simp only[List.length_set,List.length_replicate,eE,jG,jR,List.length_cons,List.length_nil,dO,gT,aE]<;>omega)) only[go_sem]
 rw[cV (show (1:Int)<2 by omega)]
 simp (disch:=first|omega|(simp only[List.length_set,List.length_replicate,eE,jG,jR,List.length_cons,List.length_nil,dO,gT,aE]<;>omega)) only[go_sem,w,q,F]
 rw[show (1:Int)+1=2 from rfl]
 refine jL ?_
 simp (disch:=first|omega|(simp only[List.length_set,List.length_replicate,eE,jG,jR,List.length_cons,List.length_nil,dO,gT,aE]<;>omega)) only[go_sem]
 rw[bZ (show ¬(2:Int)<2 by omega)]
 simp (disch:=first|omega|(simp only[List.length_set,List.length_replicate,eE,jG,jR,List.length_cons,List.length_nil,dO,gT,aE]<;>omega)) only[go_sem]
 have A:=z.own
 exact⟨A,G⟩
theorem ahC {p n:Int}{A B:List (List Int)}(h:IG p n [A,B]=0):cF p=true/\p<10000/\1<=n/\n<=64/\A.length<=200/\B.length<=200/\(∀i,i<A.length->((A.getD i []).length:Int)=n)/\ ∀i,i<B.length->((B.getD i []).length:Int)=n:=by
 obtain⟨j,m,l,c,a⟩:=adK h;obtain⟨d,f⟩:=a A siM;obtain⟨k,b⟩:=a B siM;exact⟨j,m,l,c,d,k,f,b⟩
theorem OQ (p:Int)(n:Nat)(b a:V)(A B:List (List Int))(id:Nat)(h:H)(d:h.get id=cE [b,a])(c:id<h.next)(j:SR h b A)(m:SR h a B)(l:(A.length:Int)<=2^63- 1)(k:(B.length:Int)<=2^63- 1):
  Ev T 237 [aC p,aC n,.sl id 0 2 (.kn 2)] h (λw h'=>w= aC (IG p n [A,B])/\Fr h h'):=by
 have o:h.cell id 0=some b:=by rw[H.cell_of d];rfl
 have f:h.cell id 1=some a:=by rw[H.cell_of d];rfl
 refine (NZ p n (.sl id 0 2 (.kn 2)) 2 (λi=>if i=0 then b else a) (λi=>if i=0 then A else B) id 0 h (sl1 ..) (λ_=>c) (λi hi=>?_) (λi hi=>?_) (λi hi=>?_) om).mono λ_ _ q=>q
 .rcases (show i=0\/i=1 by omega) with rfl|rfl
  .exact o
  .exact f
 .rcases (show i=0\/i=1 by omega) with rfl|rfl
  .exact j
  .exact m
 .rcases (show i=0\/i=1 by omega) with rfl|rfl
  .exact l
  .exact k
theorem smod_zero {p:Int}{n:Nat}{f:Nat->Int}(h: ∀k,k<n->f k%p=0):sm n f%p=0:=by
 rw[dM (g:=λ_=>0) λk a=>by rw[h k a,Int.zero_emod],wZ,Int.zero_emod]
section
variable {p:Int} {n m W k:Nat} {V:Nat->Nat->Int} {S:Nat->Bool} {f:Nat->Nat->Int}
abbrev Sk (p:Int)(n m W:Nat)(V:Nat->Nat->Int)(S:Nat->Bool)(f:Nat->Nat->Int)(k:Nat):Prop:=Sp p W W (vw (kM m W (Me n V))) m S f k
def kS (n:Nat)(S:Nat->Bool):Nat->Bool:=λc=>S (n+c)
def kf (n:Nat)(f:Nat->Nat->Int):Nat->Nat->Int:=λc j=>f (n+c) (n+j)
theorem IT (d:n+m=W){a j:Nat}(c:a<m)(b:j<n):vw (kM m W (Me n V)) a j=V a j:=by
 rw[vw,jT _ c,cZ _ om,Me,aS b]
theorem FW (c:n+m=W){a j:Nat}(b:a<m)(d:j<m):vw (kM m W (Me n V)) a (n+j)=if j=a then 1 else 0:=by
 rw[vw,jT _ b,cZ _ om,Me,aQ om]
 by_cases e:j=a
 .rw[aS e,aS om]
 .rw[aQ e,aQ om]
theorem Uq (b:n+m=W):Mu n m S f W=pU m m (kS n S) (kf n f):=by
 subst b;simp only[Mu,pU,kS,kf]
 rw[List.range_add,List.filter_append,List.filter_eq_nil_iff.2 (λa d=>by
  have:=mS.1 d
  simp;omega),List.nil_append,List.filter_map,List.map_map]
 congr 1;refine List.filter_congr λc _=>?_
 simp [kS]
theorem Re.ker (q:n+m=W)(r:Re p W W S f):Re p m m (kS n S) (kf n f):=
 ⟨λc j h a i=>r.rng (n+c) (n+j) om a om,λc h a=>r.one (n+c) om a,λc d h o a b l=>r.zer (n+c) (n+d) om om a b om,λc j h a i=>r.lead (n+c) (n+j) om a om⟩
theorem aeE (n m:Nat)(S:Nat->Bool):xU (n+m) S=xU n S+xU m (kS n S):=by
 induction m with
 |zero=>simp [xU]
 |succ m ih=>rw[Nat.add_succ,nO,ih,nO,Nat.add_assoc];rfl
theorem Sk.left (q:n+m=W)(s:Sk p n m W V S f k):Sp p n n V m S f (xU n S):=by
 have r:=s.re;refine⟨⟨λc j l b h=>r.rng c j om b om,λc l b=>r.one c om b,λc d l u b o t=>r.zer c d om om b o t,λc j l b h=>r.lead c j om b h⟩,λc l b=>?_,λa v=>?_,rfl⟩
 .exact ((s.out c om b).alN om).rows λi j hi h=>by rw[IT q hi h]
 .obtain⟨d,u⟩:=s.DL a v
  refine⟨d,λj h=>?_⟩;have:=u j om;rw[IT q v h] at this;rw[this,<-q,yG,fI (n:=m) λc l=>?_,Int.add_zero]
  cases b:S (n+c) with
  |false=>rw[oJ b,Int.mul_zero]
  |true=>rw[kB b,r.lead (n+c) j om b om,Int.mul_zero]
theorem Sk.zero (b:n+m=W)(s:Sk p n m W V S f k){c:Nat}(v:c<m)(o:kS n S c=true){j:Nat}(u:j<n):sm m (λi=>kf n f c i*V i j)%p=0:=by
 obtain⟨d,l⟩:=s.out (n+c) om o
 have e: ∀i,i<m->kf n f c i%p=d i%p:=λi hi=>by
  have q:=l (n+i) om;rw[iP (t:=i) hi λa r h=>by rw[FW b r hi,aQ (Ne.symm h),Int.mul_zero],FW b hi hi,aS rfl,Int.mul_one] at q;exact q
 have q:=l j om;rw[s.re.lead (n+c) j om o om,Int.zero_emod] at q;rw[q];exact dM λi hi=>by rw[IT b hi u];exact mul_mod (e i hi) rfl
theorem Sk.all (l:n+m=W)(s:Sk p n m W V S f k){κ:Nat->Int}(h: ∀j,j<n->sm m (λi=>κ i*V i j)%p=0): ∀i,i<m->κ i%p=sm m (λc=>κ c*gf (kS n S) (kf n f) c i)%p:=λi hi=>by
 have w:dQ p W m (vw (kM m W (Me n V))) (λj=>sm m (λi=>κ i*vw (kM m W (Me n V)) i j)):=⟨κ,λj _=>rfl⟩
 obtain⟨d,v⟩:=s.mem.1 w;have q:=s.re.read v (j:=n+i) om
 have o: ∀c,c<m->sm m (λi=>κ i*vw (kM m W (Me n V)) i (n+c))=κ c:=λc b=>by
  rw[iP (t:=c) b λa r u=>by rw[FW l r b,aQ (Ne.symm u),Int.mul_zero],FW l b b,aS rfl,Int.mul_one]
 rw[o i hi,<-l,yG] at q;rw[q,<-Int.add_emod_emod,Int.add_emod,smod_zero (n:=n) λc b=>?_]
 .rw[Int.zero_add,Int.emod_emod_of_dvd _ (Int.dvd_refl p),Int.emod_emod_of_dvd _ (Int.dvd_refl p)]
  congr 1;refine aU λc b=>?_
  rw[l,o c b]
  rfl
 .have:=h c b
  rw[Int.mul_emod,l,aU (g:=λi=>κ i*V i c) λa r=>by rw[IT l r b],this,Int.zero_mul,Int.zero_emod]
end
def OY (p:Int)(κ:Nat->Int)(F:Nat->Nat->Int):Nat->Nat->Int
 |0=>λ_=>0
 |i+1=>λj=>(OY p κ F i j+κ i*F i j)%p
theorem Ut (p:Int)(κ:Nat->Int)(F:Nat->Nat->Int)(i j:Nat):OY p κ F i j%p=sm i (λa=>κ a*F a j)%p:=by
 induction i with
 |zero=>rfl
 |succ i ih=>rw[OY,bQ,zP];exact Ai ih rfl
theorem MG {p:Int}(a:0<p)(κ:Nat->Int)(F:Nat->Nat->Int)(i j:Nat):0<=OY p κ F i j/\OY p κ F i j<p:=by
 cases i with
 |zero=>exact⟨Int.le_refl 0,a⟩
 |succ i=>exact bX _ a
section
variable {p:Int} {n:Nat} {ll:List (List Int)} {P:Nat->Nat} {g:Nat->Nat->Int}
theorem Pv.vw (v:Pv p n ll P g){i j:Nat}(hi:i<ll.length)(a:j<n):vw ll i j=g i j:=by
 rw[Go.Proofs.YtoighkablmjfeaaGreat.Ln.vw,v.row i hi,cZ _ a]
theorem Pv.at_ (v:Pv p n ll P g)(κ:Nat->Int){t:Nat}(b:t<ll.length):sm ll.length (λi=>κ i*Go.Proofs.YtoighkablmjfeaaGreat.Ln.vw ll i (P t))=κ t:=by
 rw[iP (t:=t) b λa d c=>by rw[v.vw d (v.lt t b),v.zer t a b d c,Int.mul_zero],v.vw b (v.lt t b),v.one t b,Int.mul_one]
end
def Rc (p:Int)(n:Nat)(first K:List (List Int)):List (List Int):=(List.range K.length).map λq=>eN n (OY p (vw K q) (vw first) first.length)
theorem IE (p:Int)(n:Nat)(first K:List (List Int)):(Rc p n first K).length=K.length:=by rw[Rc,dO,gT]
theorem GV {p:Int}{n:Nat}{first K:List (List Int)}{q:Nat}(a:q<K.length):(Rc p n first K).getD q []=eN n (OY p (vw K q) (vw first) first.length):=by
 rw[Rc,gV,Al,List.getElem?_range a];rfl
theorem BR {p:Int}{n:Nat}{first K:List (List Int)}{q j:Nat}(b:q<K.length)(a:j<n):vw (Rc p n first K) q j=OY p (vw K q) (vw first) first.length j:=by
 rw[vw,GV b,cZ _ a]
theorem tF {a b:List (List Int)}{i j:Nat}:vw (a++b) i j=if i<a.length then vw a i j else vw b (i-a.length) j:=by
 unfold vw;rw[gV (l:=a++b)]
 by_cases e:i<a.length
 .rw[aS e,Aw e,<-gV]
 .rw[aQ e,Hs om,<-gV]
section
variable {p:Int} {n:Nat} {first second:List (List Int)} {P1 P2 PK:Nat->Nat} {g1 g2 gK:Nat->Nat->Int} {K:List (List Int)}
theorem IU (h:1<p)(d:Pv p n first P1 g1)(b:Pv p n second P2 g2){κ:Nat->Int}(c: ∀j,j<n->sm first.length (λi=>κ i*vw first i j)%p=0)(h2: ∀j,j<n->sm (first.length+second.length) (λi=>κ i*vw (first++second) i j)%p=0): ∀i,i<first.length+second.length->κ i%p=0:=by
 have e1: ∀i,i<first.length->κ i%p=0:=λi hi=>by
  have:=c (P1 i) (d.lt i hi);rwa [d.at_ κ hi] at this
 have f: ∀j,j<n->sm second.length (λi=>κ (first.length+i)*vw second i j)%p=0:=λj a=>by
  have q:=h2 j a;rw[yG,aU (n:=first.length) (g:=λi=>κ i*vw first i j) (λi hi=>by rw[tF,aS hi]),Int.add_emod,c j a,Int.zero_add,zP,aU (g:=λi=>κ (first.length+i)*vw second i j) (λi hi=>by rw[tF,aQ om,Nat.add_sub_cancel_left])] at q;exact q
 intro i hi
 by_cases e:i<first.length
 .exact e1 i e
 .obtain⟨t,rfl⟩: ∃t,i=first.length+t:=⟨i-first.length,om⟩
  have:=f (P2 t) (b.lt t om);rwa [b.at_ (λi=>κ (first.length+i)) om] at this
theorem TU (o:1<p)(y:Pv p n first P1 g1)(w:Pv p n second P2 g2)(d:Pv p (first.length+second.length) K PK gK)
  (u: ∀q,q<K.length-> ∀j,j<n->sm (first.length+second.length) (λi=>vw K q i*vw (first++second) i j)%p=0):
  ∀i S f k,i<(Rc p n first K).length->Sp p n n (vw (Rc p n first K)) i S f k-> ¬ ∀j,j<n->zW p S f (λj=>((Rc p n first K).getD i []).getD j 0%p) n j=0:=λq S f k b s e=>by
 rw[IE] at b
 obtain⟨c,A⟩:=(s.zero om (λj=>((Rc p n first K).getD q []).getD j 0)).1 e
 obtain⟨κ,l⟩: ∃κ:Nat->Int,κ=λi=>vw K q i-sm q (λa=>c a*vw K a i):=⟨_,rfl⟩
 have m:(L:Nat)->(F:Nat->Nat->Int)->(j:Nat)->sm L (λi=>κ i*F i j)=sm L (λi=>vw K q i*F i j)-sm q (λa=>c a*sm L (λi=>vw K a i*F i j)):=λL F j=>by
  rw[aU (g:=λi=>vw K q i*F i j-sm q (λa=>c a*(vw K a i*F i j))) λi _=>by
   rw[l];simp only;rw[Int.sub_mul,<-mY];congr 1
   exact aU λa _=>by rw[Int.mul_assoc],xS,mI]
  congr 1;exact aU λa _=>by rw[fV]
 have x: ∀j,j<n->sm first.length (λi=>κ i*vw first i j)%p=0:=λj h=>by
  rw[m];have t:vw (Rc p n first K) q j%p=_:=A j h;rw[BR b h,Ut] at t;rw[Int.emod_eq_zero_of_dvd];refine Int.dvd_of_emod_eq_zero ?_;rw[<-Int.emod_eq_emod_iff_emod_sub_eq_zero,t];exact dM λa r=>mul_mod rfl (by rw[BR om h,Ut])
 have v: ∀j,j<n->sm (first.length+second.length) (λi=>κ i*vw (first++second) i j)%p=0:=λj h=>by
  rw[m,Int.sub_emod,u q b j h,smod_zero (n:=q) λa r=>by rw[Int.mul_emod,u a om j h,Int.mul_zero,Int.zero_emod]]
  rfl
 have z:=IU o y w x v (PK q) (d.lt q b)
 rw[l] at z
 simp only at z
 rw[d.vw b (d.lt q b),d.one q b,fI λa r=>by rw[d.vw om (d.lt q b),d.zer q a b om om,Int.mul_zero],Int.sub_zero,Int.emod_eq_of_lt om o] at z
 omega
end
theorem QV {A B:List (List Int)}{n:Nat}(b: ∀i,i<A.length->(A.getD i []).length=n)(a: ∀i,i<B.length->(B.getD i []).length=n): ∀i,i<(A++B).length->((A++B).getD i []).length=n:=λi hi=>by
 rw[eE] at hi;rw[gV]
 by_cases e:i<A.length
 .rw[Aw e,<-gV];exact b i e
 .rw[Hs om,<-gV];exact a _ om
theorem aaM (p:Int)(n:Nat)(J L:V)(A B:List (List Int))(h:H)(ha:SR h J A)(hb:SR h L B)(lA:(A.length:Int)<=2^63- 1)(lB:(B.length:Int)<=2^63- 1)(c8:IG p n [A,B]=0):
  Ev T 189 [aC p,aC n,J,L] h (λw h'=> ∃u S1 f1 k1 S2 f2 k2 Sk fk S f k first second K,w= .tup [u,aC 0]/\Sp p n n (vw A) A.length S1 f1 k1/\Sp p n n (vw B) B.length S2 f2 k2/\first=pU n n S1 f1/\second=pU n n S2 f2/\
   Go.Proofs.YtoighkablmjfeaaGreat.Ln.Sk p n (first++second).length (n+(first++second).length) (vw (first++second)) Sk fk (first++second).length/\K=Mu n (first++second).length Sk fk (n+(first++second).length)/\Sp p n n (vw (Rc p n first K)) K.length S f k/\k=K.length/\Tw h' u (pU n n S f) h.next/\Fr h h'):=by
 refine mV ?_
 have wa:=SV.cT ha.choose_spec.1
 have wb:=SV.cT hb.choose_spec.1
 have j0:=λa=>GQ a (x:=J) (u:=L) wa.1 wa.2.1 wb.1 wb.2.1
 simp (disch:=first|omega|(simp only[List.length_set,List.length_replicate,eE,jG,jR,List.length_cons,List.length_nil,dO,gT,aE]<;>omega)) only[go_sem,aV,j0]
 have b7:Fr h (h.new (.cells false [J,L])):=(Fr.refl h).new _
 have e9:(h.new (.cells false [J,L])).get h.next=some (.cells false [J,L]):=H.aI ..
 have k8:(h.new (.cells false [J,L])).next=h.next+1:=H.aM ..
 generalize h.new (.cells false [J,L])=h1 at*
 refine (OQ p n J L A B h.next h1 e9 om (ha.mono b7) (hb.mono b7) lA lB).mono ?_
 rintro w h2 ⟨rfl,i5⟩
 have F2:=b7.trans i5
 simp (disch:=first|omega|(simp only[List.length_set,List.length_replicate,eE,jG,jR,List.length_cons,List.length_nil,dO,gT,aE]<;>omega)) only[go_sem]
 refine bV (λhz=>absurd c8 hz) (λ_=>?_)
 obtain⟨q1,q2,q3,q4,q5,q6,q7,q8⟩:=ahC c8
 have hp:=tL q1
 have rA: ∀i,i<A.length->(A.getD i []).length=n:=λi hi=>by have:=q7 i hi;omega
 have rB: ∀i,i<B.length->(B.getD i []).length=n:=λi hi=>by have:=q8 i hi;omega
 simp (disch:=first|omega|(simp only[List.length_set,List.length_replicate,eE,jG,jR,List.length_cons,List.length_nil,dO,gT,aE]<;>omega)) only[go_sem]
 refine (Rn p n n A J _ (Sp.kp hp (dN n) A) h2 (Sp.start p n n _ _) (ha.mono F2) om rA om (dN n) q1 q2).mono ?_
 rintro w h3 ⟨E1,M1,k1,S1,i2,f1,rfl,s1,k3,f8,f3⟩
 have F3:=F2.trans f3
 simp (disch:=first|omega|(simp only[List.length_set,List.length_replicate,eE,jG,jR,List.length_cons,List.length_nil,dO,gT,aE]<;>omega)) only[go_sem]
 refine (Rn p n n B L _ (Sp.kp hp (dN n) B) h3 (Sp.start p n n _ _) (hb.mono F3) om rB om (dN n) q1 q2).mono ?_
 rintro w h4 ⟨E2,M2,k2,S2,g8,f2,rfl,s2,l0,G,f4⟩
 have F4:=F3.trans f4
 simp (disch:=first|omega|(simp only[List.length_set,List.length_replicate,eE,jG,jR,List.length_cons,List.length_nil,dO,gT,aE]<;>omega)) only[go_sem]
 refine (Iu p E1 M1 n n S1 i2 f1 _ h4 (f8.fr f4) om).mono ?_
 rintro t h5 ⟨_,f5,sf⟩
 have F5:=F4.trans f5
 obtain⟨first,b0⟩: ∃l,pU n n S1 f1=l:=⟨_,rfl⟩
 have v:=Re.pv s1.re
 rw[b0] at sf v
 have lf:first.length=k1:=by rw[<-b0,oV,s1.cn]
 have j6:k1<=n:=by rw[s1.cn];exact Gv n S1
 have rf: ∀i,i<first.length->(first.getD i []).length=n:=λi hi=>by rw[v.row i hi,aW]
 simp (disch:=first|omega|(simp only[List.length_set,List.length_replicate,eE,jG,jR,List.length_cons,List.length_nil,dO,gT,aE]<;>omega)) only[go_sem]
 refine (Zq p n n (λ_ _=>0) h5).mono ?_
 rintro w h6 ⟨E,M,ρ,rfl,kE,f6⟩
 have F6:=F5.trans f6
 simp (disch:=first|omega|(simp only[List.length_set,List.length_replicate,eE,jG,jR,List.length_cons,List.length_nil,dO,gT,aE]<;>omega)) only[go_sem]
 refine (Iu p E2 M2 n n S2 g8 f2 _ h6 ((G.fr f5).fr f6) om).mono ?_
 rintro vs Z ⟨_,f7,ss⟩
 obtain⟨second,b1⟩: ∃l,pU n n S2 f2=l:=⟨_,rfl⟩
 have a9:=Re.pv s2.re
 rw[b1] at ss a9
 have ls:second.length=k2:=by rw[<-b1,oV,s2.cn]
 have j5:k2<=n:=by rw[s2.cn];exact Gv n S2
 have rs: ∀i,i<second.length->(second.getD i []).length=n:=λi hi=>by rw[a9.row i hi,aW]
 have F7:=F6.trans f7
 have d8:=sf.sr.mono (f6.trans f7)
 have wf:=SV.cT d8.choose_spec.1
 have d6:=SV.cT ss.sr.choose_spec.1
 have e7:=λa=>GQ a (x:=t) (u:=vs) wf.1 wf.2.1 d6.1 d6.2.1
 simp (disch:=first|omega|(simp only[List.length_set,List.length_replicate,eE,jG,jR,List.length_cons,List.length_nil,dO,gT,aE]<;>omega)) only[go_sem,e7]
 have d:Fr Z (Z.new (.cells false [t,vs])):=(Fr.refl Z).new _
 have j1:(Z.new (.cells false [t,vs])).get Z.next=some (.cells false [t,vs]):=H.aI ..
 have k0:(Z.new (.cells false [t,vs])).next=Z.next+1:=H.aM ..
 generalize Z.new (.cells false [t,vs])=h8 at*
 have F8:=F7.trans d
 obtain⟨d3,sA,aA⟩:=d8.mono d
 obtain⟨c6,sB,aB⟩:=ss.sr.mono d
 have l5:=aA.length
 have j8:=aB.length
 refine (DC Z.next t vs d3 c6 h8 j1 om sA sB om om).mono ?_
 rintro w h9 ⟨o9,f9⟩
 have s9:SR h9 w (first++second):=⟨d3++c6,o9.sv,bH.append (aA.mono λ_ _ s=>s.mono f9) (aB.mono λ_ _ s=>s.mono f9)⟩
 have F9:=F8.trans f9
 simp (disch:=first|omega|(simp only[List.length_set,List.length_replicate,eE,jG,jR,List.length_cons,List.length_nil,dO,gT,aE]<;>omega)) only[go_sem]
 obtain⟨Y,iS⟩: ∃l,first++second=l:=⟨_,rfl⟩
 have Qd:Y.length=first.length+second.length:=by rw[<-iS,eE]
 have e3: ∀i,i<Y.length->(Y.getD i []).length=n:=by rw[<-iS];exact QV rf rs
 rw[iS] at s9
 refine (Qo p n w Y h9 s9 om om om e3 q1 q2).mono ?_
 rintro vk hk ⟨kk,Sz,fk,i1,sk,sK,Q⟩
 subst i1
 obtain⟨K,U⟩: ∃l,Mu n Y.length Sz fk (n+Y.length)=l:=⟨_,rfl⟩
 have W:=U
 rw[Uq rfl] at W
 have rK:=Re.ker rfl sk.re
 have r:=Re.pv rK
 rw[W] at r
 rw[U] at sK
 have Fk:=F9.trans Q
 have i7:Fr h5 hk:=(((f6.trans f7).trans d).trans f9).trans Q
 have g3:=sK.sr.lens
 have c7: ∀q,q<K.length->(K.getD q []).length=Y.length:=λq hq=>by rw[r.row q hq,aW]
 have d4: ∀q i,q<K.length->i<Y.length->0<=vw K q i/\vw K q i<p:=λq i hq hi=>by rw[r.vw hq hi];exact r.rng q i hq hi
 have new:=TU hp v a9 (Qd▸r) (λq hq j F=>by
  rw[iS,<-Qd];have e:=Gj (n:=Y.length) (S:=kS n Sz) (f:=kf n fk) (i:=q) (by rw[W];exact hq);rw[W] at e;rw[<-Sk.zero rfl sk e.1 e.2.1 F];congr 1
  exact aU λi hi=>by rw[vw,e.2.2,cZ _ hi])
 obtain⟨LL,R⟩: ∃l,Rc p n first K=l:=⟨_,rfl⟩
 have j4:LL.length=K.length:=by rw[<-R,IE]
 have KK:=(Sp.kp hp (dN n) (Rc p n first K)).ind new
 rw[R] at KK
 have gM:M<h9.next:=by have:=kE.ltM;have:=(((f7).trans d).trans f9).next;omega
 have gE:E<h9.next:=by have:=kE.ltE;have:=(((f7).trans d).trans f9).next;omega
 have k7:=Q.next
 have lK:K.length<=200:=by rw[<-U];exact kQ HF om
 have f0:dD t=some (aC (first.length:Int)):=sf.sr.lens
 simp (disch:=first|omega|(simp only[List.length_set,List.length_replicate,eE,jG,jR,List.length_cons,List.length_nil,dO,gT,aE]<;>omega)) only[go_sem,g3]
 refine aP (λk' b a=> ∃(q k:Nat) (S:Nat->Bool) (ρ:Nat->Nat) (f:Nat->Nat->Int),(∃g:Nat->V,b= [aC p,aC n,g 2,g 3,g 4,g 5,g 6,g 7,g 8,t,.ptr E 0,g 11,g 12,g 13,g 14,g 15,vk,aC (K.length:Int),aC q,g 19,g 20,g 21,g 22,g 23])/\q<=K.length/\(Sp p n n (vw LL) q S f k/\k=q)/\Ec a E M n n p S ρ f h5.next/\(∀c,c<n->S c=true->hk.next<=ρ c)/\Fr h5 a/\Fx M hk a/\k'=K.length-q) K.length
  ⟨0,0,λ_=>false,ρ,λ_ _=>0,aD rfl,fY _,⟨Sp.start p n n _ _,rfl⟩,kE.fr (((f7.trans d).trans f9).trans Q),λc _ (q:false=true)=>Bool.noConfusion q,i7,Fx.refl _ _,rfl⟩ ?_
 clear kE
 rintro k' b a ⟨q,k,S,ρ,f,⟨jk,rfl⟩,hq,o,kE,b2,Fh,FX,rfl⟩
 have nx:=FX.next
 simp (disch:=first|omega|(simp only[List.length_set,List.length_replicate,eE,jG,jR,List.length_cons,List.length_nil,dO,gT,aE]<;>omega)) only[go_sem]
 by_cases c0:(q:Int)<(K.length:Int)
 .rw[cV c0]
  have y:q<K.length:=om
  have i0:=(sK.fx gM FX).sr
  obtain⟨id,l1,ws,sl,l3,k4,hc,c3⟩:=i0.open
  have cq:=hc q y
  have rq:=Mz c3 (i:=q) y
  obtain⟨wq,g9⟩: ∃w,ws.getD q .undef=w:=⟨_,rfl⟩
  rw[g9] at cq rq
  have g1:=λh'=>Kf h' n om
  simp (disch:=first|omega|(simp only[List.length_set,List.length_replicate,eE,jG,jR,List.length_cons,List.length_nil,dO,gT,aE]<;>omega)) only[go_sem,sl.ixa,cq,g1,f0]
  have g2:Fr a (a.new (.cells false (ints (eN n λ_=>0)))):=(Fr.refl a).new _
  have b8:(a.new (.cells false (ints (eN n λ_=>0)))).get a.next=some (.cells false (ints (eN n λ_=>0))):=H.aI ..
  have l4:(a.new (.cells false (ints (eN n λ_=>0)))).next=a.next+1:=H.aM ..
  generalize a.new (.cells false (ints (eN n λ_=>0)))=hN at*
  obtain⟨N,i9⟩:=exI a.next
  rw[i9] at b8 |-
  refine aP (λk' b hi=> ∃(i:Nat),(∃g:Nat->V,b= [aC p,aC n,g 2,g 3,g 4,g 5,g 6,g 7,g 8,t,.ptr E 0,wq,.sl N 0 n (.kn n),g 13,g 14,g 15,vk,aC (K.length:Int),aC q,g 19,t,aC (first.length:Int),aC i,g 23])/\i<=first.length/\Bk hi N n (OY p (vw K q) (vw first) i)/\N<hi.next/\Fr a hi/\k'=first.length-i) first.length
   ⟨0,aD rfl,fY _,b8,om,g2,rfl⟩ ?_
  rintro k' b hi ⟨i,⟨j7,rfl⟩,k6,bN,lN,O,rfl⟩
  have k5:=O.next
  simp (disch:=first|omega|(simp only[List.length_set,List.length_replicate,eE,jG,jR,List.length_cons,List.length_nil,dO,gT,aE]<;>omega)) only[go_sem]
  by_cases a0:(i:Int)<(first.length:Int)
  .rw[cV a0]
   have z:i<first.length:=om
   have g6:=sf.sr.mono Fh
   obtain⟨g5,c4,i8,i3,c1,j2,e5,b6⟩:=g6.open
   have g7:hi.cell g5 (c4+i)=some (i8.getD i .undef):=by rw[O.cell (c1 om)];exact e5 i z
   have i4:=Mz b6 (i:=i) z
   have d7:=rf i z
   obtain⟨b4,a8,c2,m,P⟩:=i4.open
   rw[d7] at c2 m P
   replace P: ∀j,j<n->a.cell b4 (a8+j)=some (aC (vw first i j)):=P
   obtain⟨l2,j3,d0,d1,b9⟩:=(rq.mono O).open
   rw[c7 q y] at d0 d1 b9
   have d9:=b9 i om
   have g0:(K.getD q []).getD i 0=vw K q i:=rfl
   rw[g0] at d9
   have rE:=r1E (kE.fr O).gE
   have e4:(H.mk hi.tr (hi.next+11)).row E 0 1=some [aC p]:=rE
   have fb:Fr hi (H.mk hi.tr (hi.next+11)):=(Fr.refl hi).cU om
   have nb:(H.mk hi.tr (hi.next+11)).next=hi.next+11:=rfl
   simp (disch:=first|omega|(simp only[List.length_set,List.length_replicate,eE,jG,jR,List.length_cons,List.length_nil,dO,gT,aE]<;>omega)) only[go_sem,i3.ixa,g7,d0.ixa,d9,rE,e4,List.getElem?_cons_zero,List.getElem?_cons_succ]
   have c9:b4≠N:=by have:=m om;omega
   generalize H.mk hi.tr (hi.next+11)=hB at*
   have bB:=bN.fr fb lN
   have rk:=d4 q i y om
   have rg: ∀j,j<n->0<=vw first i j/\vw first i j<p:=λj F=>by rw[v.vw z F];exact v.rng i j z F
   refine (Ex p (vw K q i) N n n b4 a8 (.kn n) _ (OY p (vw K q) (vw first) i) (vw first i) [] hB bB.bt om c2 (λh0=>by have:=m h0;omega) (λj F=>by rw[(O.trans fb).cell (by have:=m om;omega)];exact P j F) (.inl c9) (dN n) om ⟨om,q2⟩ ⟨rk.1,om⟩ (λj F=>by have:=MG (p:=p) om (vw K q) (vw first) i j;omega) (λj F=>by have:=rg j F;omega)).mono ?_
   rintro w hC ⟨bC,FC⟩
   have nC:=FC.next
   simp (disch:=first|omega|(simp only[List.length_set,List.length_replicate,eE,jG,jR,List.length_cons,List.length_nil,dO,gT,aE]<;>omega)) only[go_sem]
   rw[fJ i]
   exact⟨first.length-(i+1),om,i+1,aD rfl,om,bC.bk.congr λj F=>by rw[aS F,OY],om,Fx.fr (O.trans fb) om FC,rfl⟩
  rw[bZ a0]
  obtain⟨rfl⟩:i=first.length:=om
  have e6:=kE.fr O
  obtain⟨l,hl⟩:=exI (eN n (OY p (vw K q) (vw first) first.length))
  have g4:LL.getD q []=l:=by rw[<-R,GV y,hl]
  have ll:l.length=n:=by rw[<-hl,aW]
  have sN:=bN.si lN (.kn n)
  rw[hl] at sN
  obtain⟨u,hu⟩: ∃u,u=zW p S f (λj=>(LL.getD q []).getD j 0%p) n:=⟨_,rfl⟩
  have b3:q<LL.length:=om
  have e8:u=zW p S f (λj=>l.getD j 0%p) n:=by rw[hu,g4]
  simp (disch:=first|omega|(simp only[List.length_set,List.length_replicate,eE,jG,jR,List.length_cons,List.length_nil,dO,gT,aE]<;>omega)) only[go_sem]
  refine (Pa p E M n n S ρ f _ _ l u hi e6 (by have:=(Fh.trans O).next;omega) sN ll om (dN n) q1 q2 (KK.rng q S f k o) e8 (by rw[hu];exact KK.red q S f k b3 o)).mono ?_
  rintro w hD ⟨hF,j9,i6,b5⟩
  have c5:=hF h5 (Fh.trans O) (dN _)
  have d5:Fx M hk hD:=⟨om,λid h1 h2=>(i6 id om h2 λc hc hs=>by have:=b2 c hc hs;omega).trans ((O.get id om).trans (FX.get id h1 h2))⟩
  rcases b5 with ⟨rfl,hz,G⟩|⟨rfl,at_,x,N',a1,a2,a3,a4,a5,a6,a7,G⟩
  .simp (disch:=first|omega|(simp only[List.length_set,List.length_replicate,eE,jG,jR,List.length_cons,List.length_nil,dO,gT,aE]<;>omega)) only[go_sem]
   rw[fJ q]
   exact⟨K.length-(q+1),om,q+1,k,S,ρ,f,aD rfl,om,KK.no q S f k b3 o (by rw[<-hu];exact hz),G,b2,c5,d5,rfl⟩
  .simp (disch:=first|omega|(simp only[List.length_set,List.length_replicate,eE,jG,jR,List.length_cons,List.length_nil,dO,gT,aE]<;>omega)) only[go_sem]
   rw[fJ q]
   exact⟨K.length-(q+1),om,q+1,k+1,_,_,_,aD rfl,om,KK.yes q S f k u b3 o hu at_ x a1 a2 a3 a4 a5 a6,G,λc hc hs=>by
    by_cases e:c=at_
    .simp only[Ef,aS e];omega
    .simp only[Ef,aQ e] at hs |-;exact b2 c hc hs,c5,d5,rfl⟩
 rw[bZ c0]
 obtain⟨rfl⟩:q=K.length:=om
 simp (disch:=first|omega|(simp only[List.length_set,List.length_replicate,eE,jG,jR,List.length_cons,List.length_nil,dO,gT,aE]<;>omega)) only[go_sem]
 refine (Iu p E M n n S ρ f _ a kE om).mono ?_
 rintro w hZ ⟨_,fZ,sz⟩
 simp (disch:=first|omega|(simp only[List.length_set,List.length_replicate,eE,jG,jR,List.length_cons,List.length_nil,dO,gT,aE]<;>omega)) only[go_sem]
 have k9:=F5.next
 refine⟨_,S1,f1,k1,S2,f2,k2,Sz,fk,S,f,k,first,second,K,rfl,s1,s2,b0.symm,b1.symm,by rw[iS];exact sk,by rw[iS];exact U.symm,by rw[R];exact o.1,o.2,sz.le om,(F5.trans Fh).trans fZ⟩
theorem SRc.sr {h:H}{u:V}{a:List (List Int)}{b:Nat}(s:SRc h u a b):SR h u a:=s.srf.sr
section
variable {p:Int} {n:Nat} {A B:List (List Int)}
theorem dQ.agG {i:Nat}(hi:i<A.length):dQ p n (A++B).length (vw (A++B)) (vw A i):=
 (dQ.row (V:=vw (A++B)) (i:=i) (by rw[eE];omega)).congr λj _=>by rw[tF,aS hi]
theorem dQ.afS {i:Nat}(hi:i<B.length):dQ p n (A++B).length (vw (A++B)) (vw B i):=
 (dQ.row (V:=vw (A++B)) (i:=A.length+i) (by rw[eE];omega)).congr λj _=>by rw[tF,aQ om,Nat.add_sub_cancel_left]
theorem dQ.app {m:Nat}{V:Nat->Nat->Int}(b: ∀i,i<A.length->dQ p n m V (vw A i))(a: ∀i,i<B.length->dQ p n m V (vw B i)): ∀i,i<(A++B).length->dQ p n m V (vw (A++B) i):=λi hi=>by
 rw[eE] at hi
 by_cases e:i<A.length
 .exact (b i e).congr λj _=>by rw[tF,aS e]
 .exact (a (i-A.length) om).congr λj _=>by rw[tF,aQ e]
theorem YE {k1 k2:Nat}{first a K:List (List Int)}{S1 S2 k:Nat->Bool}{f1 f2 h:Nat->Nat->Int}(hp:1<p)(R:Sp p n n (vw A) A.length S1 f1 k1)(N:Sp p n n (vw B) B.length S2 f2 k2)(t:first=pU n n S1 f1)(l:a=pU n n S2 f2)
  (x:Sk p n (first++a).length (n+(first++a).length) (vw (first++a)) k h (first++a).length) (w:K=Mu n (first++a).length k h (n+(first++a).length)):
  (∀v,dQ p n A.length (vw A) v->dQ p n B.length (vw B) v->dQ p n K.length (vw (Rc p n first K)) v)/\(∀q,q<K.length->dQ p n A.length (vw A) (vw (Rc p n first K) q)/\dQ p n B.length (vw B) (vw (Rc p n first K) q))/\
  ∀Ss fs ks,Sp p n n (vw (A++B)) (A++B).length Ss fs ks->ks+K.length=k1+k2:=by
 have aF: ∀i,i<A.length->dQ p n first.length (vw first) (vw A i):=by rw[t];exact R.toB
 have bS: ∀i,i<B.length->dQ p n a.length (vw a) (vw B i):=by rw[l];exact N.toB
 have Z: ∀i,i<first.length->dQ p n A.length (vw A) (vw first i):=by rw[t];exact R.ofB
 have sB: ∀i,i<a.length->dQ p n B.length (vw B) (vw a i):=by rw[l];exact N.ofB
 have lf:first.length=k1:=by rw[t,oV,R.cn]
 have ls:a.length=k2:=by rw[l,oV,N.cn]
 obtain⟨m,W⟩:=exI ((first++a).length)
 have y:m=first.length+a.length:=by rw[<-W,eE]
 rw[W] at x w
 rw[Uq rfl] at w
 have lK:K.length=xU m (kS n k):=by rw[w,oV]
 have Kr: ∀q,q<K.length-> ∃c,c<m/\kS n k c=true/\ ∀i,i<m->vw K q i=kf n h c i:=λq b=>by
  rw[w] at b;obtain⟨O,G,P⟩:=Gj b;exact⟨_,O,G,λi hi=>by rw[w,vw,P,cZ _ hi]⟩
 have Kc: ∀c,c<m->kS n k c=true-> ∃q,q<K.length/\ ∀i,i<m->vw K q i=kf n h c i:=λc Y r=>by
  obtain⟨q,b,e⟩:=HV (f:=kf n h) Y r;rw[<-w] at b e;exact⟨q,b,λi hi=>by rw[vw,e,cZ _ hi]⟩
 have o: ∀q,q<K.length-> ∀j,j<n->vw (Rc p n first K) q j%p=sm first.length (λi=>vw K q i*vw first i j)%p:=λq b j d=>by rw[BR b d,Ut]
 have Kz: ∀q,q<K.length-> ∀j,j<n->sm (first.length+a.length) (λi=>vw K q i*vw (first++a) i j)%p=0:=λq b j d=>by
  obtain⟨c,O,G,P⟩:=Kr q b;rw[<-y,aU (g:=λi=>kf n h c i*vw (first++a) i j) λi hi=>by rw[P i hi]];exact Sk.zero rfl x O G d
 have J: ∀q,q<K.length-> ∀j,j<n->(sm first.length (λi=>vw K q i*vw first i j)+sm a.length (λi=>vw K q (first.length+i)*vw a i j))%p=0:=λq b j d=>by
  have e:=Kz q b j d;rw[yG,aU (n:=first.length) (g:=λi=>vw K q i*vw first i j) (λi hi=>by rw[tF,aS hi]),aU (n:=a.length) (g:=λi=>vw K q (first.length+i)*vw a i j) (λi hi=>by rw[tF,aQ om,Nat.add_sub_cancel_left])] at e;exact e
 refine⟨λv hA hB=>?_,λq b=>⟨?_,?_⟩,λSs fs ks r=>?_⟩
 .obtain⟨α,F⟩:=hA.trans aF
  obtain⟨β,Q⟩:=hB.trans bS
  obtain⟨κ,s⟩: ∃κ:Nat->Int,κ=λi=>if i<first.length then α i else-β (i-first.length):=⟨_,rfl⟩
  have z: ∀j,j<n->sm m (λi=>κ i*vw (first++a) i j)%p=0:=λj d=>by
   rw[y,yG,aU (n:=first.length) (g:=λi=>α i*vw first i j) (λi hi=>by rw[tF,aS hi,s];simp only[aS hi]),aU (n:=a.length) (g:=λi=> -(β i*vw a i j)) (λi hi=>by rw[tF,aQ om,Nat.add_sub_cancel_left,s];simp only[aQ (show ¬first.length+i<first.length by omega),Nat.add_sub_cancel_left,Int.neg_mul]),Ur,<-Int.sub_eq_add_neg,Int.sub_emod,<-F j d,<-Q j d,Int.sub_self,Int.zero_emod]
  have all:=Sk.all rfl x z
  have e1:dQ p n K.length (vw (Rc p n first K)) (λj=>sm m (λc=>κ c*sm first.length (λi=>gf (kS n k) (kf n h) c i*vw first i j))):=dQ.sum (U:=λc j=>sm first.length (λi=>gf (kS n k) (kf n h) c i*vw first i j)) (λc Y=>by
   cases r:kS n k c with
   |false=>exact dQ.zero.congr λj _=>by rw[fI λi _=>by rw[oJ r,Int.zero_mul]]
   |true=>
    obtain⟨q,b,e⟩:=Kc c Y r
    exact (dQ.row b).congr λj d=>by
     rw[o q b j d]
     exact dM λi hi=>by rw[kB r,e i om]) κ
  refine e1.congr λj d=>?_
  rw[F j d,dM (g:=λi=>sm m (λc=>κ c*gf (kS n k) (kf n h) c i)*vw first i j) λi hi=>mul_mod (by rw[<-all i om,s];simp only[aS hi]) rfl]
  congr 1
  rw[aU (g:=λi=>sm m (λc=>κ c*gf (kS n k) (kf n h) c i*vw first i j)) λi _=>by rw[mY],mI]
  exact aU λc _=>by rw[<-fV];exact aU λi _=>by rw[Int.mul_assoc]
 .exact (dQ.trans ⟨λi=>vw K q i,λj d=>o q b j d⟩ Z)
 .refine dQ.trans (V:=vw a) ⟨λi=> -vw K q (first.length+i),λj d=>?_⟩ sB
  rw[o q b j d]
  have e:=J q b j d
  rw[aU (n:=a.length) (g:=λi=> -(vw K q (first.length+i)*vw a i j)) λi _=>by rw[Int.neg_mul],Ur]
  refine sub_zero ?_
  rw[Int.sub_neg]
  exact e
 .have L:=Sk.left rfl x
  rw[<-W] at L
  have u:=(Sp.uniq hp r L (dQ.app (λi hi=>(aF i hi).trans λi hi=>dQ.agG hi) λi hi=>(bS i hi).trans λi hi=>dQ.afS hi) (dQ.app (λi hi=>(Z i hi).trans λi hi=>dQ.agG hi) λi hi=>(sB i hi).trans λi hi=>dQ.afS hi)).2.2
  have c:=x.cn
  rw[aeE] at c
  omega
end
section
variable {p:Int} {n m W i k:Nat} {V:Nat->Nat->Int} {S:Nat->Bool} {f:Nat->Nat->Int}
theorem Sp.cut {U:Nat->Nat->Int}(d:n<=W)(s:Sp p n W U i S f k):Sp p n n U i S f k:=
 ⟨⟨λc j b a h=>s.re.rng c j b a om,s.re.one,s.re.zer,s.re.lead⟩,λc b a=>(s.out c b a).alN d,s.DL,s.cn⟩
end
set_option maxRecDepth 100000
theorem Ah {m n:Nat}{A:Mx}{i j:Nat}(hi:i<m)(a:j<n):vw (kM m n A) i j=A i j:=by rw[vw,jT _ hi,cZ _ a]
theorem tD.open {h:H}{u:V}{ws:List V}{b:List (List Int)}{j:Nat}(r:tD h u ws b j): ∃id off,Sl u 1 b.length id off/\(0<b.length->id<h.next/\j<=id)/\ws.length=b.length/\ ∀i,i<b.length->h.cell id (off+i)=some (ws.getD i .undef):=by
 have d:=r.row.length;obtain⟨id,off,c,k,m⟩:=r.own.sv.shape b.length (by rw[d,jP]) om;refine⟨id,off,c,λl=>⟨k l,?_⟩,d,λi t=>?_⟩
 .rcases r.own with ⟨a,_⟩|⟨o,n,q,f,a,_,_,v,_⟩
  .have:=c.len
   rw[a] at this;simp [oU] at this;omega
  .have e:=c.ixa .i64 0 om om
   have s:n=b.length:=by
    have:=c.len;rw[a] at this;simpa [oU] using this
   rw[a,lJ om om] at e;simp only[Option.some.injEq,V.ptr.injEq] at e;omega
 .rw[m i om,gV,dJ om];rfl
theorem ap2 {o:List (List Int)}{x y:List Int}{q:Nat}(a:q<o.length+2):(q<o.length/\(o++ [x,y]).getD q []=o.getD q [])\/(q=o.length/\(o++ [x,y]).getD q []=x)\/(q=o.length+1/\(o++ [x,y]).getD q []=y):=by
 rw[gV];rcases Nat.lt_trichotomy q o.length with h|rfl|h
 .exact .inl ⟨h,by rw[Aw h,<-gV]⟩
 .exact .inr (.inl ⟨rfl,siM⟩)
 .obtain rfl:q=o.length+1:=om
  exact .inr (.inr ⟨rfl,siM⟩)
theorem dQ.vw {p:Int}{n m:Nat}{V:Nat->Nat->Int}{b a:List (List Int)}{q c:Nat}(h:dQ p n m V (vw b q))(e:a.getD c []=b.getD q []):dQ p n m V (Go.Proofs.YtoighkablmjfeaaGreat.Ln.vw a c):=by
 unfold Go.Proofs.YtoighkablmjfeaaGreat.Ln.vw at h |-;rw[e];exact h
set_option maxRecDepth 100000
set_option maxRecDepth 100000
theorem Qp {α β:Type}{R:α->β->Prop}:{as9:List α}->{bs:List β}->(k:Nat)->bH R as9 bs->bH R (as9.take k) (bs.take k)
 | [], [],k,_=>by rw[List.take_nil,List.take_nil];exact trivial
 |_::_,_::_,0,_=>trivial
 |a::as9,b::bs,k+1,h=>⟨h.1,Qp k h.2⟩
 | [],_::_,_,h=>h.elim
 |_::_, [],_,h=>h.elim
theorem tD.pre {h:H}{id m f:Nat}{ws:List V}{d:List (List Int)}(r:tD h (.sl id 0 m (.un 1)) ws d f){k:Nat}(A:k<=d.length):tD h (.sl id 0 k (.un 1)) (ws.take k) (d.take k) f:=by
 have x:=r.row.length;refine⟨?_,Qp k r.row,λw b=>?_,λw b=>r.frs w (List.mem_of_mem_take b)⟩
 .rcases r.own with ⟨e,_⟩|⟨l,n,s,a,e,B,_,j,q,t⟩
  .cases e
  .cases e
   exact .inr ⟨id,k,.un 1,ws.drop k++a,rfl,by rw[jG];omega,.inl rfl,j,q,by rw[t,<-AA,List.take_append_drop]⟩
 .have:=r.uY w (List.mem_of_mem_take b)
  intro i o v c e F z G y u;cases e;exact this _ _ _ _ rfl _ _ _ _ u
theorem Sp.same {p:Int}{n W m k:Nat}{V b:Nat->Nat->Int}{S:Nat->Bool}{f:Nat->Nat->Int}(s:Sp p n W V m S f k)(o:n<=W)(e: ∀i j,i<m->j<W->V i j%p=b i j%p):Sp p n W b m S f k where
 re:=s.re
 out:=λc l h=>(s.out c l h).rows e
 DL:=λa d=>(s.DL a d).congr λj q=>(e a j d om).symm
 cn:=s.cn
set_option maxRecDepth 100000
theorem Pl {p:Nat->Option Ay.Fn}{rd:Option Nat}{a b c:C}{d:List V}{h:H}{Q:E->List V->H->Prop}{v:V}(J:List V->H->Prop)(j:Hw p rd a b d h (λe vs h'=>e= .norm/\J vs h'\/e≠ .norm/\Q e vs h') v)(h2: ∀vs h',J vs h'->Wp p rd c vs h' Q):Hw p rd a b d h (Dm p rd c Q) v:=by
 have f: ∀e vs h',(e= .norm/\J vs h'\/e≠ .norm/\Q e vs h')->Dm p rd c Q e vs h':=λe vs h' q=>by
  rcases q with ⟨rfl,q⟩|⟨i,q⟩
  .exact h2 vs h' q
  .cases e
   .exact absurd rfl i
   .exact q
   .exact q
 cases v with
 |bool t=>
  cases t
  .exact Wp.mono (show Wp p rd b d h _ from j) f
  .exact Wp.mono (show Wp p rd a d h _ from j) f
 |_=>exact (show False from j).elim
theorem Oj (h:H){x u z:V}(f:x.cells= [x])(b:x.one=true)(d:u.cells= [u])(c:u.one=true)(i:z.cells= [z])(a:z.one=true):lU h 1 [.aH] 3 [(0,1,x),(1,1,u),(2,1,z)]=some (.sl h.next 0 3 (.kn 3),h.new (.cells false [x,u,z])):=by
 have e:cJ [V.aH] 3= [.aH,.aH,.aH]:=rfl;simp [lU,fP,e,f,b,d,c,i,a,putAt]
end Go.Proofs.YtoighkablmjfeaaGreat.Ln
namespace Go.Ay
end Go.Ay
namespace Go.Proofs.YtoighkablmjfeaaGreat.Ln
open Go Go.Ay
set_option maxRecDepth 100000
def Iy (p x:Int)(c:List Int):Nat->Int
 |0=>0
 |s+1=>(Iy p x c s*x+c.getD (c.length-(s+1)) 0)%p
theorem Qw {p:Int}(a:0<p)(x:Int)(c:List Int): ∀s,0<=Iy p x c s/\Iy p x c s<p
 |0=>⟨Int.le_refl 0,a⟩
 |s+1=>by rw[Iy];exact bX _ a
def AW (p:Int)(c:List Int)(n:Nat):List Int:=((List.range n).filter λx:Nat=>decide (Iy p (x:Int) c c.length=0)).map λx:Nat=>(x:Int)
theorem Yk (p:Int)(c:List Int)(n:Nat):AW p c (n+1)=AW p c n++(if Iy p (n:Int) c c.length=0 then [(n:Int)] else []):=by
 rw[AW,List.range_succ,List.filter_append,List.map_append];congr 1
 by_cases e:Iy p (n:Int) c c.length=0<;>simp [List.filter,e]
theorem HB (p:Int)(c:List Int)(n:Nat):(AW p c n).length<=n:=by
 rw[AW,dO];exact kQ (List.length_filter_le _ _) (by rw[gT];omega)
noncomputable def vQ (a:uQ):List Int×Int:=if (nH a).2≠0 then ([],(nH a).2) else (AW a.1 (nH a).1 a.1.toNat,0)
theorem EE {a:uQ}(h: ¬(nH a).2≠0):iO a=0/\(nH a).1.length<1000/\ ∀i,i<(nH a).1.length->0<=(nH a).1.getD i 0/\(nH a).1.getD i 0<a.1:=by
 have b:CR a=0:=by
  by_cases e:CR a=0
  .exact e
  .rw[nH,aS e] at h
   exact absurd e h
 have c:iO a=0:=by
  unfold CR at b
  by_cases e:iO a=0
  .exact e
  .first
   |(rw[aS e] at b;exact absurd b e)
   |(simp [e] at b)
 have d:=yL c;have j:=jB d.p;have f:=d.r2;refine⟨c,?_⟩;rw[nH,aQ (by simp [b])];simp only[aW];refine⟨om,λi hi=>?_⟩;rw[cZ _ hi];exact bX _ om
theorem UX {p v x y:Int}(c:p<10000)(b:0<=v/\v<p)(a:0<=x/\x<p)(h:0<=y/\y<p):0<=v*x/\v*x<=100000000/\0<=v*x+y/\v*x+y<=200000000:=by
 have f:=Int.mul_nonneg b.1 a.1;have d:=Int.mul_le_mul (show v<=10000 by omega) (show x<=10000 by omega) a.1 om;omega
theorem Nm (c X:Nat)(w:V)(C:List Int)(J:Nat->H->Prop)
  (q: ∀s a,J s a->a.get X=cE [w]/\SI a w C)
  (A: ∀s a,s<C.length->J s a->Ey T c [aC ((C.length:Int)- 1-(s:Int)),aC (C.getD (C.length-(s+1)) 0)] a (λv hh'=>v= .bool true/\J (s+1) hh')) (a:H) (n:J 0 a) (G:C.length<1000000):
  Ev T 236 [.yl c,.ptr X 0] a (λ_ hh'=>J C.length hh'):=by
 refine mV ?_
 obtain⟨k,i⟩:=q 0 a n
 have h:a.cell X 0=some w:=by rw[H.cell_of k];rfl
 simp (disch:=first|omega|(simp only[Qn];(try omega);done)|fail) only[go_sem,aV,h,i.lens]
 refine aP (λr b f=> ∃s:Nat,(∃j:Nat->V,b= [.yl c,.ptr X 0,aC ((C.length:Int)- 1-(s:Int)),j 3,j 4])/\s<=C.length/\J s f/\r=C.length-s) C.length
  ⟨0,aD (by rw[Int.natCast_zero,Int.sub_zero];rfl),fY _,n,rfl⟩ ?_
 clear n k h i
 rintro r b f ⟨s,⟨K,rfl⟩,F,m,rfl⟩
 obtain⟨k,i⟩:=q s f m
 have h:f.cell X 0=some w:=by rw[H.cell_of k];rfl
 obtain⟨id,t,sl,y,z⟩:=i.open
 simp (disch:=first|omega|(simp only[Qn];(try omega);done)|fail) only[go_sem]
 by_cases d:(0:Int)<=(C.length:Int)- 1-(s:Int)
 .rw[cV d]
  have l:s<C.length:=om
  have x:((C.length:Int)- 1-(s:Int)).toNat=C.length-(s+1):=om
  have u:=z (C.length-(s+1)) om
  simp (disch:=first|omega|(simp only[Qn];(try omega);done)|fail) only[go_sem,h,sl.ixa,x,u]
  refine (A s f l m).mono ?_
  rintro v B ⟨rfl,o⟩
  simp (disch:=first|omega|(simp only[Qn];(try omega);done)|fail) only[go_sem]
  rw[show (C.length:Int)- 1-(s:Int)- 1=(C.length:Int)- 1-((s+1:Nat):Int) by omega]
  exact⟨C.length-(s+1),om,s+1,aD rfl,om,o,rfl⟩
 rw[bZ d]
 obtain rfl:s=C.length:=om
 simp (disch:=first|omega|(simp only[Qn];(try omega);done)|fail) only[go_sem]
 exact m
theorem Vo (w:V)(h:H)(a:w.cells= [w])(h2:w.one=true):Ev T 188 [w] h (λv h'=>v= .fn 236 [] [.ptr h.next 0]/\h'=h.new (.cells false [w])):=by
 refine mV ?_;simp (disch:=first|omega|(simp only[Qn];(try omega);done)|fail) only[go_sem,aV,λb=>Rj b a h2]
structure VJ (X7 X8 XB LID:Nat)(x v:Int)(wc:V)(h:H)(rc:dP)(hh:H):Prop where
 g7:hh.get X7=cE [aC x]
 g8:hh.get X8=cE [aC v]
 gB:hh.get XB=cE [wc]
 gL:hh.get LID=some (.loop rc)
 fr:Fr h hh
 lt:LID<hh.next
theorem MC (va:V)(a:uQ)(h:H)(ha:Jy h va a)(la:(a.2.length:Int)<=2^63- 1):Ev T 123 [va] h (λv h'=> ∃w,v= .tup [w,aC (vQ a).2]/\SI h' w (vQ a).1/\zQ w h.next/\Fr h h'):=by
 obtain⟨O,rfl,W⟩:=ha;refine mV ?_;have wa:=SV.cT W.choose_spec.1;simp (disch:=first|omega|(simp only[Qn];(try omega);done)|fail) only[go_sem,aV,oS h (v:= aC a.1) rfl wa.2.1];have a4:Fr h (h.new (.cells false [aC a.1,O])):=(Fr.refl h).new _;have z:(h.new (.cells false [aC a.1,O])).get h.next=cE [aC a.1,O]:=H.aI ..;have b3:(h.new (.cells false [aC a.1,O])).next=h.next+1:=H.aM ..
 generalize h.new (.cells false [aC a.1,O])=h1 at*;obtain⟨X,hX⟩:=exI h.next;rw[hX] at z;rw[hX];simp (disch:=first|omega|(simp only[Qn];(try omega);done)|fail) only[go_sem,jH z];refine (adR _ a h1 ⟨O,rfl,W.mono a4⟩ la).mono ?_;rintro w h2 ⟨k,rfl,sc,f2⟩;have F2:=a4.trans f2;simp (disch:=first|omega|(simp only[Qn];(try omega);done)|fail) only[go_sem,List.getElem?_cons_zero,List.getElem?_cons_succ];refine bV (λhz=>?_) (λhz=>?_)
 .simp (disch:=first|omega|(simp only[Qn];(try omega);done)|fail) only[go_sem]
  rw[vQ,aS hz];exact⟨_,rfl,SV.aH _ _,(λ_ _ _ _ e=>(by cases e)),F2⟩
 obtain⟨hc,hN,hr⟩:=EE hz;have hp:=jB (yL hc).p
 obtain⟨P,hP⟩: ∃P:Nat,a.1=(P:Int):=⟨a.1.toNat,om⟩
 obtain⟨C,hC⟩:=exI ((nH a).1);rw[hC] at sc hN hr;have eV:vQ a=(AW P C P,0):=by rw[vQ,aQ hz,hC,hP,Mc]
 rw[eV];rw[hP] at hp hr z;have gX:=(f2.get X om).trans z;have x0:h2.cell X 0=some (aC P):=by rw[H.cell_of gX];rfl
 have a1:=SV.cT sc;simp (disch:=first|omega|(simp only[Qn];(try omega);done)|fail) only[go_sem,x0];refine aP (λk' G b=> ∃(x:Nat) (u:V),(∃g:Nat->V,G= [g 0,.ptr X 0,g 2,g 3,k,g 5,u,g 7,g 8,g 9,g 10,aC P,aC x,g 13,g 14,g 15,g 16,g 17])/\x<=P/\dF b u 1 (ints (AW P C x)) h2.next/\Fr h2 b/\k'=P-x) P
  ⟨0,.aH,aD rfl,fY _,dF.aH _ _ _,Fr.refl _,rfl⟩ ?_
 rintro k' G b ⟨x,u,⟨jk,rfl⟩,hx,o,F,rfl⟩;simp (disch:=first|omega|(simp only[Qn];(try omega);done)|fail) only[go_sem]
 by_cases a2:(x:Int)<(P:Int)
 .rw[cV a2]
  have b2:x<P:=om
  have q8:(((b.new (.cells false [aC 0])).set b.next (cE [aC x])).new (.cells false [aC 0])).get (b.next+1)=cE [aC 0]:=by
   have:=H.aI ((b.new (.cells false [aC 0])).set b.next (cE [aC x])) (.cells false [aC 0]);rwa [H.bT,H.aM] at this
  have p8: ∀h:H,dY (cE [aC 0]) h (b.next+1) 0 [aC 0]=some (h.set (b.next+1) (cE [aC 0])):=λh=>bE (vs:= [aC 0]) siM h _ _
  simp (disch:=first|omega|(simp only[Qn];(try omega);done)|fail) only[go_sem,q8,p8];obtain⟨i,j⟩:=exI (((((b.new (.cells false [aC 0])).set b.next (cE [aC x])).new (.cells false [aC 0])).set (b.next+1) (cE [aC 0])));have f5:Fr b i:=by rw[<-j];exact ((((Fr.refl b).new _).set (dN _) _).new _).set om _
  have n5:i.next=b.next+2:=by rw[<-j,H.bT,H.aM,H.bT,H.aM]
  have U:i.get b.next=cE [aC x]:=by rw[<-j,H.Cj _ om,H.bG _ (by rw[H.bT,H.aM];omega),H.aJ]
  have a3:i.get (b.next+1)=cE [aC 0]:=by rw[<-j,H.aJ]
  rw[j];clear j q8 p8
  obtain⟨f,Z⟩: ∃X,b.next=X:=⟨_,rfl⟩
  rw[Z] at U a3 n5;rw[Z];refine (Vo k i a1.1 a1.2.1).mono ?_;rintro w h6 ⟨rfl,rfl⟩;have L:Fr i (i.new (.cells false [k])):=(Fr.refl i).new _;have Y:(i.new (.cells false [k])).get i.next=cE [k]:=H.aI ..;have b4:(i.new (.cells false [k])).next=i.next+1:=H.aM ..
  generalize i.new (.cells false [k])=R at*
  obtain⟨Q,a0⟩: ∃X,i.next=X:=⟨_,rfl⟩
  rw[a0] at Y;rw[a0]
  obtain⟨c,B⟩: ∃X,R.next=X:=⟨_,rfl⟩
  simp (disch:=first|omega|(simp only[Qn];(try omega);done)|fail) only[go_sem];rw[B];generalize r:dP.mk _ _ _ _ _ _=rc;refine⟨rfl,?_⟩;have f8:Fr R (R.new (.loop rc)):=(Fr.refl R).new _;have lX:X<b.next:=by have:=F.next;have:=f2.next;omega
  have J0:VJ f (f+1) Q c (x:Int) (Iy P (x:Int) C 0) k b rc (R.new (.loop rc)):=
   ⟨((L.trans f8).get _ om).trans U,((L.trans f8).get _ om).trans a3,(f8.get _ om).trans Y,by rw[<-B];exact H.aI ..,(f5.trans L).trans f8,by rw[H.aM];omega⟩
  have loop:Ev T 236 [.yl c,.ptr Q 0] (R.new (.loop rc)) (λ_ d=>VJ f (f+1) Q c (x:Int) (Iy P (x:Int) C C.length) k b rc d):=by
   refine Nm c Q k C (λs d=>VJ f (f+1) Q c (x:Int) (Iy P (x:Int) C s) k b rc d) (λs d J=>⟨J.gB,(SI.mono sc F).mono J.fr⟩) (λs d hs J=>?_) _ J0 om;refine Ph J.gL (by rw[<-r];rfl) ?_;subst r;simp (disch:=first|omega|(simp only[Qn];(try omega);done)|fail) only[go_sem,List.zip_cons_cons,List.zip_nil_left];refine⟨_,J.gL,rfl,?_⟩;generalize b1:dP.mk _ _ _ _ YZ.busy _=rb;have lt:=J.lt
   obtain⟨y,K⟩: ∃q,d.set c (some (.loop rb))=q:=⟨_,rfl⟩
   have t:VJ f (f+1) Q c (x:Int) (Iy P (x:Int) C s) k b rb y:=by
    rw[<-K];exact⟨by rw[H.Cj _ om];exact J.g7,by rw[H.Cj _ om];exact J.g8,by rw[H.Cj _ om];exact J.gB,H.aJ ..,J.fr.set om _,J.lt⟩
   rw[K];have c7:y.cell f 0=some (aC x):=by rw[H.cell_of t.g7];rfl
   have c8:y.cell (f+1) 0=some (aC (Iy P (x:Int) C s)):=by rw[H.cell_of t.g8];rfl
   have cX:y.cell X 0=some (aC P):=by rw[t.fr.cell lX,F.cell (by have:=f2.next;omega)];exact x0
   have a5:d.cell f 0=some (aC x):=by rw[H.cell_of J.g7];rfl
   have b0:d.cell (f+1) 0=some (aC (Iy P (x:Int) C s)):=by rw[H.cell_of J.g8];rfl
   have a7:d.cell X 0=some (aC P):=by rw[J.fr.cell lX,F.cell (by have:=f2.next;omega)];exact x0
   have rv:=Qw (show (0:Int)<(P:Int) by omega) (x:Int) C s;have rc:=hr (C.length-(s+1)) om;have bd:=UX hp.2 rv (show 0<=(x:Int)/\(x:Int)<P by omega) rc;have em:=gO (a:=Iy P (x:Int) C s*(x:Int)+C.getD (C.length-(s+1)) 0) (p:=(P:Int)) bd.2.2.1;have p8: ∀h:H,dY (cE [aC (Iy P (x:Int) C s)]) h (f+1) 0 [aC (Iy P (x:Int) C (s+1))]=some (h.set (f+1) (cE [aC (Iy P (x:Int) C (s+1))])):=λh=>bE (vs:= [aC (Iy P (x:Int) C s)]) siM h _ _
   have ev:(Iy P (x:Int) C s*(x:Int)+C.getD (C.length-(s+1)) 0)%(P:Int)=Iy P (x:Int) C (s+1):=rfl;simp (disch:=first|omega|(simp only[Qn];(try omega);done)|fail) only[go_sem,c7,c8,cX,a5,b0,a7,em,ev,J.g8,t.g8,p8];refine⟨rb,by rw[H.Cj _ om];exact t.gL,rfl,?_⟩;subst b1;exact⟨by rw[H.Cj _ om,H.Cj _ om];exact t.g7,by rw[H.Cj _ om];exact H.aJ ..,by rw[H.Cj _ om,H.Cj _ om];exact t.gB,H.aJ ..,(t.fr.set om _).set om _,t.lt⟩
  refine loop.mono ?_;rintro _ A J;refine⟨_,J.gL,by rw[<-r];simp,?_⟩;have a9:rc.pend=none:=by rw[<-r]
  simp only[a9,Option.getD_none];have lt:=J.lt
  have q8: ∀o,(A.set c o).cell (f+1) 0=some (aC (Iy P (x:Int) C C.length)):=λo=>by
   rw[H.kW _ om,H.cell_of J.g8];rfl
  have q7: ∀o,(A.set c o).cell f 0=some (aC x):=λo=>by
   rw[H.kW _ om,H.cell_of J.g7];rfl
  have g': ∀o,Fr b (A.set c o):=λo=>Fr.set J.fr om o
  simp (disch:=first|omega|(simp only[Qn];(try omega);done)|fail) only[go_sem,q8];have a8:=q7 (some (.loop {rc with st:=YZ.out,pend:=none}));have gF:=g' (some (.loop {rc with st:=YZ.out,pend:=none}));generalize A.set c (some (.loop {rc with st:=YZ.out,pend:=none}))=l at*;have F4:=F.trans gF;have o4:=o.fr gF;refine bV (λN=>?_) (λN=>?_)
  .have f5:Fr l (l.new (.cells false (ints [(x:Int)]))):=(Fr.refl l).new _
   have hy:SV (l.new (.cells false (ints [(x:Int)]))) (.sl l.next 0 1 (.kn 1)) 1 (ints [(x:Int)]):=SV.all rfl (by rw[H.aM];omega) (H.aI ..) _;have lr:=HB (P:Int) C x;obtain⟨u6,h6,e6,a6⟩:=(o4.fr f5).app (bytes:=8) (n:=(AW P C x).length) (m:=1) (by have:=F4.next;have:=f5.next;omega) hy (by rw[aE,jP]) rfl om om;simp (disch:=first|omega|(simp only[Qn];(try omega);done)|fail) only[go_sem,a8,HG,e6];rw[fJ x];have oo:=a6.own;rw[<-fQ] at oo;refine⟨P-(x+1),om,x+1,u6,aD rfl,om,?_,a6.fr h2 (F4.trans f5) (dN _),rfl⟩;rw[Yk,aS N];exact oo
  .simp (disch:=first|omega|(simp only[Qn];(try omega);done)|fail) only[go_sem]
   rw[fJ x];refine⟨P-(x+1),om,x+1,u,aD rfl,om,?_,F4,rfl⟩;rw[Yk,aQ N,qH];exact o4
 rw[bZ a2];obtain rfl:x=P:=om
 simp (disch:=first|omega|(simp only[Qn];(try omega);done)|fail) only[go_sem];exact⟨_,rfl,o.sv,(zQ.own o).le (by have:=F2.next;omega),F2.trans F⟩
section
variable {h:H} {R n c i lo:Nat} {ρ:Nat->Nat} {f:Nat->Nat->Int}
theorem Gp.congr {h:H}{R n c i:Nat}{ρ:Nat->Nat}{f f':Nat->Nat->Int}{lo:Nat}(g:Gp h R n c i ρ f lo)(e: ∀j k,j<i->k<c->f j k=f' j k):Gp h R n c i ρ f' lo:=
 {g with row:=λj a=>by rw[g.row j a];congr 3;exact fN λk b=>e j k a b}
theorem Gp.edit (g:Gp h R n c i ρ f lo){j:Nat}(b:j<i)(w:Nat->Int):Gp (h.set (ρ j) (some (.cells false (ints (eN c w))))) R n c i ρ (λa=>if a=j then w else f a) lo:=
 {g with
  gR:=by rw[H.Cj _ (by have:=g.hρ j b;omega)];exact g.gR
  row:=λa d=>by
   by_cases e:a=j
   .simp only[aS e];rw[e,H.aJ]
   .simp only[aQ e];rw[H.Cj _ λq=>e (g.inj a j d b q)];exact g.row a d}
theorem Gp.fr {h':H}(g:Gp h R n c i ρ f lo)(F:Fr h h'):Gp h' R n c i ρ f lo:=
 {g with
  gR:=(F.get R g.ltR).trans g.gR
  row:=λj a=>(F.get _ (g.ltρ j a)).trans (g.row j a)
  ltR:=iD g.ltR F.next
  ltρ:=λj a=>iD (g.ltρ j a) F.next}
theorem JY (x:Int){p:Int}(a:0<p):x.tmod p%p=x%p:=by
 have e:=Dv x a;have m:x%p%p=x%p:=zP p x;split at e
 .rw[<-m,<-e,Int.add_emod_right]
 .rw[<-m,<-e]
def egL (p x:Int)(n:Nat)(A:List (List Int)):List (List Int):=kM n n λi j=>(kH A i j-if j=i then x else 0)%p
theorem XU {p x:Int}{A:List (List Int)}{j:Nat}(hi:i<n)(a:j<n):vw (egL p x n A) i j=(kH A i j-if j=i then x else 0)%p:=Ah hi a
end
theorem zG {p d:Int}(b:cF p=true)(h:d%p≠0): ∃y:Int,y*d%p=1:=by
 have c:=Kh b;have i:=tL b;have m:=bX d (show 0<p by omega);have f:=RP c (a:=d%p) om om;rw[show (p.toNat:Int)=p by omega] at f;refine⟨(d%p)^(p.toNat- 2),?_⟩;rw[mul_mod rfl (show d%p=d%p%p from (zP p d).symm),Int.mul_comm];exact f
structure Sol (p:Int)(n m:Nat)(V:Nat->Nat->Int)(b r:Nat->Int):Prop where
 rng: ∀i,i<m->0<=r i/\r i<p
 eq: ∀j,j<n->sm m (λi=>r i*V i j)%p=b j%p
 zer: ∀i,i<m->dQ p n i V (V i)->r i=0
theorem adP {p x y:Int}(b:0<=x/\x<p)(c:0<=y/\y<p)(h:(x-y)%p=0):x=y:=by
 obtain⟨k,a⟩:=Int.dvd_of_emod_eq_zero h
 by_cases e:k=0
 .rw[e,Int.mul_zero] at a;omega
 .by_cases e2:0<k
  .have:=Int.mul_le_mul_of_nonneg_left (show 1<=k by omega) (show 0<=p by omega)
   omega
  .have:=Int.mul_le_mul_of_nonneg_left (show k<= -1 by omega) (show 0<=p by omega)
   omega
theorem FI {p:Int}(b:cF p=true){n i:Nat}{V:Nat->Nat->Int}{d:Nat->Int}(h: ∀j,j<n->sm (i+1) (λk=>d k*V k j)%p=0)(a:d i%p≠0):dQ p n i V (V i):=by
 obtain⟨y,l⟩:=zG b a;refine⟨λk=> -(y*d k),λj f=>?_⟩;have e:=h j f;rw[bQ] at e
 have e1:(y*sm i (λk=>d k*V k j)+y*(d i*V i j))%p=0:=by
  rw[<-Int.mul_add,Int.mul_emod,e,Int.mul_zero,Int.zero_emod]
 have e2:(y*(d i*V i j))%p=V i j%p:=by
  rw[<-Int.mul_assoc,Int.mul_emod,l,Int.one_mul,zP]
 have c:sm i (λk=> -(y*d k)*V k j)= -(y*sm i (λk=>d k*V k j)):=by
  rw[<-fV,<-Ur];exact aU λk _=>by rw[Int.neg_mul,Int.mul_assoc]
 rw[c,<-e2]
 have m:(y*(d i*V i j)- -(y*sm i (λk=>d k*V k j)))%p=0:=by
  rw[Int.sub_neg,Int.add_comm];exact e1
 exact sub_zero m
theorem Sol.uniq {p:Int}(u:cF p=true){n m:Nat}{V:Nat->Nat->Int}{b r r':Nat->Int}(s:Sol p n m V b r)(f:Sol p n m V b r'): ∀i,i<m->r i=r' i:=by
 have v: ∀k,∀i,i<m->m<=i+k->r i=r' i:=by
  intro k
  induction k with
  |zero=>intro i l d;omega
  |succ k ih=>
   intro i hi w
   by_cases h:m<=i+k
   .exact ih i hi h
   .have a: ∀q,i+1<=q->q<m->r q=r' q:=λq l d=>ih q d om
    have c: ∀j,j<n->sm (i+1) (λq=>(r q-r' q)*V q j)%p=0:=λj t=>by
     have e1:sm m (λq=>(r q-r' q)*V q j)=sm (i+1) (λq=>(r q-r' q)*V q j):=GS om λq l d=>by rw[a q l d,Int.sub_self,Int.zero_mul]
     rw[<-e1]
     have e2:sm m (λq=>(r q-r' q)*V q j)=sm m (λq=>r q*V q j)-sm m (λq=>r' q*V q j):=by
      rw[<-xS];exact aU λq _=>Int.sub_mul ..
     rw[e2,Int.sub_emod,s.eq j t,f.eq j t,Int.sub_self,Int.zero_emod]
    by_cases o:(r i-r' i)%p=0
    .exact adP (s.rng i hi) (f.rng i hi) o
    .have:=FI u c o
     rw[s.zer i hi this,f.zer i hi this]
 exact λi hi=>v m i hi om
end Go.Proofs.YtoighkablmjfeaaGreat.Ln
namespace Go.Proofs.YtoighkablmjfeaaGreat
open Go Go.Ay Go.Pm
section
variable {k:Nat}
theorem TO {p:Int}{f g:List Nat->Int}:{l:List (List Nat)}->(∀x∈l,f x%p=g x%p)->gs l f%p=gs l g%p
 | [],_=>rfl
 |x::l,h=>by
  rw[gs,gs];exact Ai (h x wI) (TO λy a=>h y (wH _ a))
noncomputable def JT (L:List (List Nat))(K:List Nat)(X:Nat->List Nat->Int)(a k:Nat):Int:=X a (L.getD (K.getD k 0) [])
section
variable {n:Nat} {G:List Nat->Prop} {L:List (List Nat)} {K:List Nat} {t:Tb} {r:Nat} {X:Nat->List Nat->Int} (hG:oK n G) (E:fW G L) (ik:vU n G L K) (C:DB n G L t r X)
include hG E ik
omit hG E ik in
theorem DB.pr (C:DB n G L t r X):cF (t.p:Int)=true:=((C.prm t.p (dN _)).2 rfl).2.2
theorem Tv (a:k<K.length):G (L.getD (K.getD k 0) []):=by
 have _:=hG;exact pX E (ik.lt (bF a))
include C
theorem HL (a:Nat){z:List Nat}(d:G z):X a z=JT L K X a (sQ G L K z):=by
 have b:=Jg hG E ik d;have f:=Tv hG E ik b;obtain⟨c,h,e⟩:=(oY hG E ik f d).1 (yE hG E ik b);unfold JT;rw[<-C.cls a _ c f h,e]
omit C in
theorem CM (b:k<K.length)(f:List Nat->Int):gs L (λy=>if sQ G L K y=k then f y else 0)=gs L (λy=>open Classical in if cj G (L.getD (K.getD k 0) []) y then f y else 0):=by
 classical
 refine eS λy d=>?_
 have a:=(E.mem y).1 d
 have e:sQ G L K y=k↔cj G (L.getD (K.getD k 0) []) y:=by
  rw[<-oY hG E ik (Tv hG E ik b) a,yE hG E ik b];exact eq_comm
 by_cases h:sQ G L K y=k
 .rw[aS h,aS (e.1 h)]
 .rw[aQ h,aQ λc=>h (e.2 c)]
theorem Wi (a:k<K.length):((lI G L K k:Nat):Int)<t.p:=by
 rw[Jx hG E ik a,CM hG E ik a λ_=>1];exact C.sz _ (Tv hG E ik a)
omit C in
theorem Lk (a:k<K.length):0<lI G L K k:=by
 unfold lI;have h:=ik.lt (bF (d:=0) a);exact PC (jM.2 ⟨h,Da hG E h⟩)
theorem agI {a i j:Nat}(s:a<r)(hi:i<K.length)(f:j<K.length):
  ((tv t a 0:Nat):Int)*sm K.length (λk=>JT L K X a k*((mW G L K i j k:Nat):Int)*((lI G L K k:Nat):Int))%t.p=((lI G L K i:Nat):Int)*((lI G L K j:Nat):Int)*JT L K X a i*JT L K X a j%t.p:=by
 rw[BM hG E ik (λk=>JT L K X a k*((mW G L K i j k:Nat):Int)),eS (g:=λz=>X a z*SZ G L K i j z) λz q=>by
  have d:=(E.mem z).1 q
  rw[<-HL hG E ik C a d,akQ hG E ik d]]
 have e1:gs L (λz=>X a z*SZ G L K i j z)=gs L λx=>if sQ G L K x=i then gs L (λy=>if sQ G L K y=j then X a (aZ x y) else 0) else 0:=by
  unfold SZ;rw[eS (g:=λz=>gs L λx=>X a z*if sQ G L K x=i/\sQ G L K (aZ (bY x) z)=j then 1 else 0) λz _=>(Gg _ _ _).symm,GG];refine eS λx o=>?_
  have b:=(E.mem x).1 o;have m:=hG.cF b;rw[<-BS E (λz=>X a z*if sQ G L K x=i/\sQ G L K (aZ (bY x) z)=j then 1 else 0) (λy=>aZ x y) (λy c=>hG.mul b c) λy z c q e=>sT (hG.cF c) (hG.cF q) m e]
  by_cases h:sQ G L K x=i
  .rw[aS h]
   refine eS λy c=>?_
   rw[<-aX m.inv m (hG.cF ((E.mem y).1 c)),dX m,dK (hG.cF ((E.mem y).1 c))]
   by_cases l:sQ G L K y=j
   .rw[aS ⟨h,l⟩,aS l,Int.mul_one]
   .rw[aQ λe=>l e.2,aQ l,Int.mul_zero]
  .rw[aQ h,eS (g:=λ_=>0) λy _=>by rw[aQ λe=>h e.1,Int.mul_zero],Uu]
 rw[e1,<-Gg,TO (g:=λx=>(((lI G L K j:Nat):Int)*JT L K X a i*JT L K X a j)*if sQ G L K x=i then 1 else 0) λx o=>?_,Gg,<-Jx hG E ik hi]
 .congr 1
  grind
 .have b:=(E.mem x).1 o
  by_cases h:sQ G L K x=i
  .rw[aS h,aS h,CM hG E ik f λy=>X a (aZ x y)]
   have:=C.mul a x _ s b (Tv hG E ik f)
   rw[<-CM hG E ik f λ_=>1,<-Jx hG E ik f] at this
   rw[this,HL hG E ik C a b,h,Int.mul_one]
   rfl
  .rw[aQ h,aQ h,Int.mul_zero,Int.mul_zero]
omit C in
theorem FT (a:k<K.length):sX G L K k<K.length:=by
 have h:=Tv hG E ik a;exact Jg hG E ik (hG.inv h)
omit C in
theorem akX (d:k<K.length):lI G L K (sX G L K k)=lI G L K k:=by
 have m:=Jx hG E ik d;have f:=Jx hG E ik (FT hG E ik d)
 rw[<-BS E (λx=>if sQ G L K x=sX G L K k then 1 else 0) bY (λx b=>hG.inv b) λx y b j e=>by
  have:=congrArg bY e
  rwa [uG (hG.cF b),uG (hG.cF j)] at this] at f
 have:((lI G L K (sX G L K k):Nat):Int)=((lI G L K k:Nat):Int):=by
  rw[m,f];refine eS λx b=>?_
  have a:=(E.mem x).1 b;have i:=Tv hG E ik d
  have e:sQ G L K (bY x)=sX G L K k↔sQ G L K x=k:=by
   have l:sX G L K k=sQ G L K (bY (L.getD (K.getD k 0) [])):=rfl;rw[l,oY hG E ik (hG.inv a) (hG.inv i)];have o:sQ G L K x=k↔cj G x (L.getD (K.getD k 0) []):=by rw[<-oY hG E ik a i,yE hG E ik d]
   rw[o];constructor
   .rintro⟨c,hc,e⟩
    refine⟨c,hc,?_⟩;have e:bL (bY x) c=bY (L.getD (K.getD k 0) []):=e;rw[tT (hG.cF a) (hG.cF hc)] at e;have:=congrArg bY e;rwa [uG (iN (hG.cF a) (hG.cF hc)),uG (hG.cF i)] at this
   .rintro⟨c,hc,e⟩
    have e:bL x c=L.getD (K.getD k 0) []:=e;exact⟨c,hc,by rw[<-e];exact tT (hG.cF a) (hG.cF hc)⟩
  by_cases h:sQ G L K x=k
  .rw[aS h,aS (e.2 h)]
  .rw[aQ h,aQ λf=>h (e.1 f)]
 omega
theorem Ro {a b:Nat}(f:a<r)(d:b<r):sm K.length (λk=>JT L K X a k*JT L K X b (sX G L K k)*((lI G L K k:Nat):Int))%t.p=if a=b then (L.length:Int)%t.p else 0:=by
 rw[<-C.orth a b f d,BM hG E ik λk=>JT L K X a k*JT L K X b (sX G L K k)];congr 1;refine eS λx h=>?_
 have c:=(E.mem x).1 h;rw[HL hG E ik C a c,HL hG E ik C b (hG.inv c),ajK hG E ik c]
end
end
section
variable {a k:Nat}
theorem AM {p a b:Int}(c:cF p=true)(h:a*b%p=0):a%p=0\/b%p=0:=by
 by_cases d:a%p=0
 .exact .inl d
 .obtain⟨y,l⟩:=Ln.zG c d
  have i:=Ln.tL c;refine .inr ?_
  have f:y*a*b%p=0:=by
   rw[Int.mul_assoc,mul_mod (rfl:y%p=y%p) (h.trans (Int.zero_emod p).symm),Int.mul_zero,Int.zero_emod]
  have j:(1:Int)%p=1:=Int.emod_eq_of_lt om i;rw[mul_mod (l.trans j.symm) (rfl:b%p=b%p),Int.one_mul] at f;exact f
open Classical in
noncomputable def iv (p d:Int):Int:=if h: ∃y:Int,y*d%p=1 then h.choose else 0
theorem GY {p d:Int}(b:cF p=true)(h:d%p≠0):iv p d*d%p=1:=by
 have e:=Ln.zG b h;unfold iv;rw[dif_pos e];exact e.choose_spec
noncomputable def wK (G:List Nat->Prop)(L:List (List Nat))(K:List Nat)(t:Tb)(X:Nat->List Nat->Int)(a k:Nat):Int:=((lI G L K k:Nat):Int)*JT L K X a k*iv t.p (tv t a 0:Nat)%t.p
noncomputable def coK (G:List Nat->Prop)(L:List (List Nat))(K:List Nat)(t:Tb)(X:Nat->List Nat->Int)(k b:Nat):Int:=JT L K X b (sX G L K k)*((tv t b 0:Nat):Int)*iv t.p L.length
section
variable {n:Nat} {G:List Nat->Prop} {L:List (List Nat)} {K:List Nat} {t:Tb} {X:Nat->List Nat->Int} (hG:oK n G) (E:fW G L) (ik:vU n G L K) (C:DB n G L t K.length X)
include hG E ik C
omit hG E ik in
theorem vW:(1:Int)<t.p:=Ln.tL C.pr
omit hG E ik in
theorem JO (b:a<K.length):iv t.p (tv t a 0:Nat)*((tv t a 0:Nat):Int)%t.p=1:=by
 refine GY C.pr ?_;have:=C.dg a b;rw[Int.emod_eq_of_lt om om];omega
omit hG E ik in
theorem akZ:iv t.p L.length*(L.length:Int)%t.p=1:=by
 refine GY C.pr λh=>C.pN ?_
 omega
omit C in
theorem adS:lI G L K 0=1:=by
 have b:=(sV hG E ik).1;have h:=Jx hG E ik b;rw[eS (g:=λx=>if x=bI n then 1 else 0) λx c=>by simp only[aiK hG E ik ((E.mem x).1 c)],aiA _ _ E.nodup ((E.mem _).2 hG.one)] at h;omega
theorem acR (b:a<K.length):JT L K X a 0=(tv t a 0:Nat):=by
 unfold JT;rw[acQ hG E ik];exact C.one a b
omit hG E ik in
theorem cmod {a b:Int}(h:a%t.p=1):a*b%t.p=b%t.p:=by
 have c:=vW C;rw[mul_mod (h.trans (Int.emod_eq_of_lt om c).symm) (rfl:b%t.p=b%t.p),Int.one_mul]
theorem chW:wJ t.p K.length (λi j k=>((mW G L K i j k:Nat):Int)) (wK G L K t X) (coK G L K t X) where
 p1:=vW C
 pr a b h:=AM C.pr h
 rng a k _ _:=⟨Int.emod_nonneg _ (by have:=vW C;omega),Int.emod_lt_of_pos _ (by have:=vW C;omega)⟩
 one a ha:=by
  unfold wK;rw[adS hG E ik,acR hG E ik C ha,show (((1:Nat):Int))*((tv t a 0:Nat):Int)*iv t.p (tv t a 0:Nat)=iv t.p (tv t a 0:Nat)*((tv t a 0:Nat):Int) by grind];exact JO C ha
 mul a i j ha hi hj:=by
  have h:=agI hG E ik C ha hi hj
  obtain⟨e,c⟩: ∃e,iv t.p (tv t a 0:Nat)=e:=⟨_,rfl⟩
  obtain⟨S,o⟩: ∃S,sm K.length (λk=>JT L K X a k*((mW G L K i j k:Nat):Int)*((lI G L K k:Nat):Int))=S:=⟨_,rfl⟩
  have d:=JO C ha;rw[c] at d;rw[o] at h
  have e1:sm K.length (λk=>wK G L K t X a k*((mW G L K i j k:Nat):Int))%t.p=e*S%t.p:=by
   rw[<-o,<-fV];refine dM λk r=>?_
   unfold wK;rw[c,mul_mod (Int.emod_emod_of_dvd _ (Int.dvd_refl _)) rfl];congr 1;grind
  rw[e1];unfold wK;rw[c,mul_mod (Int.emod_emod_of_dvd _ (Int.dvd_refl _)) (Int.emod_emod_of_dvd _ (Int.dvd_refl _))]
  have e2:e*S%t.p=e*e*(((tv t a 0:Nat):Int)*S)%t.p:=by
   rw[show e*e*(((tv t a 0:Nat):Int)*S)=e*((tv t a 0:Nat):Int)*(e*S) by grind];exact (cmod C d).symm
  rw[e2,mul_mod rfl h];congr 1;grind
 d1 a b ha hb:=by
  have h:=Ro hG E ik C ha hb
  obtain⟨e,c⟩: ∃e,iv t.p (tv t a 0:Nat)=e:=⟨_,rfl⟩
  obtain⟨m,l⟩: ∃m,iv t.p L.length=m:=⟨_,rfl⟩
  have d:=JO C ha;have q:=akZ C;rw[c] at d;rw[l] at q
  have e1:sm K.length (λk=>wK G L K t X a k*coK G L K t X k b)%t.p=e*((tv t b 0:Nat):Int)*m*sm K.length (λk=>JT L K X a k*JT L K X b (sX G L K k)*((lI G L K k:Nat):Int))%t.p:=by
   rw[<-fV];refine dM λk r=>?_
   unfold wK coK;rw[c,l,mul_mod (Int.emod_emod_of_dvd _ (Int.dvd_refl _)) rfl];congr 1;grind
  have s:sm K.length (λk=>JT L K X a k*JT L K X b (sX G L K k)*((lI G L K k:Nat):Int))%t.p=(if a=b then (L.length:Int) else 0)%t.p:=by
   rw[h];split
   .rfl
   .exact (Int.zero_emod _).symm
  rw[e1,mul_mod rfl s];split
  .rename_i f
   subst f;rw[show e*((tv t a 0:Nat):Int)*m*(L.length:Int)=e*((tv t a 0:Nat):Int)*(m*(L.length:Int)) by grind,cmod C d];exact q
  .rw[Int.mul_zero,Int.zero_emod]
theorem GL (b:k<K.length):((lI G L K k:Nat):Int)%t.p≠0:=by
 have c:=Wi hG E ik C b;have d:=Lk hG E ik b;rw[Int.emod_eq_of_lt om c];omega
omit hG E ik in
theorem agE (c:a<K.length){y:Int}(b:y*((lI G L K k:Nat):Int)%t.p=1):wK G L K t X a k*y%t.p=JT L K X a k*iv t.p (tv t a 0:Nat)%t.p:=by
 unfold wK;rw[mul_mod (Int.emod_emod_of_dvd _ (Int.dvd_refl _)) rfl,show ((lI G L K k:Nat):Int)*JT L K X a k*iv t.p (tv t a 0:Nat)*y=y*((lI G L K k:Nat):Int)*(JT L K X a k*iv t.p (tv t a 0:Nat)) by grind];exact cmod C b
theorem alB (b:a<K.length)(c:k<K.length){y:Int}(d:y*((lI G L K k:Nat):Int)%t.p=1):((tv t a 0:Nat):Int)*wK G L K t X a k%t.p*y%t.p=JT L K X a k:=by
 have e:((tv t a 0:Nat):Int)*wK G L K t X a k%t.p*y%t.p=((tv t a 0:Nat):Int)*(wK G L K t X a k*y)%t.p:=by
  rw[mul_mod (Int.emod_emod_of_dvd _ (Int.dvd_refl _)) rfl,Int.mul_assoc]
 rw[e,mul_mod rfl (agE C b d),show ((tv t a 0:Nat):Int)*(JT L K X a k*iv t.p (tv t a 0:Nat))=iv t.p (tv t a 0:Nat)*((tv t a 0:Nat):Int)*JT L K X a k by grind,cmod C (JO C b)];have:=C.rng a _ b (Tv hG E ik c);exact Int.emod_eq_of_lt this.1 this.2
theorem alO (b:a<K.length){y:Nat->Int}(l: ∀k,k<K.length->y k*((lI G L K k:Nat):Int)%t.p=1){f:Nat->Int}(j: ∀k,k<K.length->f k%t.p=wK G L K t X a k*wK G L K t X a (sX G L K k)*y k%t.p):
  ((tv t a 0:Nat):Int)*((tv t a 0:Nat):Int)*sm K.length f%t.p=(L.length:Int)%t.p:=by
 have h:=Ro hG E ik C b b
 rw[aS rfl] at h
 rw[<-h,<-fV]
 refine dM λk c=>?_
 obtain⟨e,i⟩: ∃e,iv t.p (tv t a 0:Nat)=e:=⟨_,rfl⟩
 have d:=JO C b
 rw[i] at d
 have e1:f k%t.p=JT L K X a k*e*(((lI G L K k:Nat):Int)*JT L K X a (sX G L K k)*e)%t.p:=by
  rw[j k c,show wK G L K t X a k*wK G L K t X a (sX G L K k)*y k=(wK G L K t X a k*y k)*wK G L K t X a (sX G L K k) by grind];refine mul_mod ?_ ?_
  .rw[agE C b (l k c),i]
  .unfold wK
   rw[i,akX hG E ik c,Int.emod_emod_of_dvd _ (Int.dvd_refl _)]
 rw[mul_mod rfl e1,show ((tv t a 0:Nat):Int)*((tv t a 0:Nat):Int)*(JT L K X a k*e*(((lI G L K k:Nat):Int)*JT L K X a (sX G L K k)*e))=e*((tv t a 0:Nat):Int)*(e*((tv t a 0:Nat):Int)*(JT L K X a k*JT L K X a (sX G L K k)*((lI G L K k:Nat):Int))) by grind,cmod C d,cmod C d]
omit hG E ik in
theorem LF (f:a<K.length){s:Int}(b:((tv t a 0:Nat):Int)*((tv t a 0:Nat):Int)*s%t.p=(L.length:Int)%t.p)(i:1<=k)(c:((k:Nat):Int)*k*s%t.p=(L.length:Int)%t.p):tv t a 0<=k:=by
 refine Nat.le_of_not_lt λd=>?_
 have j:=C.dg a f
 have e:(((tv t a 0:Nat):Int)*((tv t a 0:Nat):Int)-(k:Int)*k)*s%t.p=0:=by
  rw[Int.sub_mul];exact Int.emod_eq_emod_iff_emod_sub_eq_zero.1 (b.trans c.symm)
 rcases AM C.pr e with h|h
 .rw[show ((tv t a 0:Nat):Int)*((tv t a 0:Nat):Int)-(k:Int)*k=(((tv t a 0:Nat):Int)-k)*(((tv t a 0:Nat):Int)+k) by grind] at h
  rcases AM C.pr h with h|h
  .rw[Int.emod_eq_of_lt om om] at h
   omega
  .rw[Int.emod_eq_of_lt om om] at h
   omega
 .rw[mul_mod rfl (h.trans (Int.zero_emod _).symm),Int.mul_zero,Int.zero_emod] at b
  have:=C.pN;omega
end
end
section
variable {W:Nat->Prop} {h:H} {v:V} {ll:List (List Int)}
set_option maxHeartbeats 32000000
def Xh (W:Nat->Prop)(h:H)(v:V)(ll:List (List Int)):Prop:= ∃ws,SV h v 1 ws/\vI W v/\bH (λw l=>SI h w l/\vI W w) ws ll
theorem Xh.sr (s:Xh W h v ll):SR h v ll:=by
 have⟨c,a,_,b⟩:=s;exact⟨c,a,b.mono λ_ _ x=>x.1⟩
theorem Xh.go {W':Nat->Prop}{h':H}(s:Xh W h v ll)(f:Fx W h h')(c: ∀id,id<h.next->W' id->W id):Xh W' h' v ll:=by
 have⟨d,a,o,b⟩:=s;exact⟨d,a.fx o f,o.mE a c,b.mono λ_ _ x=>⟨x.1.fx x.2 f,x.2.mE x.1 c⟩⟩
def Nw (h:H):Nat->Prop:=λq=>h.next<=q
theorem DS {sz:Nat}{ws:List V}(s:SV h v sz ws):vI (Nw h) v:=by
 cases v with
 |sl id off len cap=>exact λa=>by have:=s.in _ _ _ _ rfl;have a:h.next<=id:=a;omega
 |_=>trivial
theorem SR.nw (s:SR h v ll):Xh (Nw h) h v ll:=by
 have⟨c,a,b⟩:=s;exact⟨c,a,DS a,b.mono λ_ _ x=>⟨x,DS x⟩⟩
noncomputable def Nj (G:List Nat->Prop)(L:LN)(K:List Nat)(t:Tb)(i:Nat):List (List Int):=Ln.kM K.length K.length λk j=>((mW G L K i j k%t.p:Nat):Int)
structure Vi (n:Nat)(G:List Nat->Prop)(L:LN)(K:List Nat)(t:Tb)(W:Nat->Prop)(hh:H)(D M:Nat):Prop where
 ex: ∃vO vR vL vP O R,hh.get D=some (.cells false [aC n,vO,vR,vL,vP,aC (L.length:Int),aC (t.p:Int),.mp M])/\GC (λq=>W q\/q=M) hh (.agg [aC n,vO,vR]) n O R G/\cK O R n 0 (bI n)=L/\
  (dD vL=some (aC (K.length:Int))/\ ∃id off,Sl vL 3 K.length id off/\ ¬(W id\/id=M)/\id<hh.next/\ ∀k,k<K.length->hh.cell id (off+k*3+2)=some (aC (lI G L K k:Nat)))/\
  SI hh vP (zi ((List.range K.length).map (sX G L K)))/\vI (λq=>W q\/q=M) vP
 mp: ∃es,hh.get M=some (.map es)/\jA .i64 es=true/\ ∀i,i<K.length->mB .i64 (i:Int) es=none\/ ∃v,mB .i64 (i:Int) es=some (.agg [aC (t.p:Int),v])/\v.cells= [v]/\v.one=true/\Xh (λq=>W q\/q=M) hh v (Nj G L K t i)
 nD: ¬W D
 nM: ¬W M
 lD:D<hh.next
 lM:M<hh.next
 ne:D≠M
theorem Vi.go {n:Nat}{G:List Nat->Prop}{L:LN}{K:List Nat}{t:Tb}{W':Nat->Prop}{h':H}{D M:Nat}(d:Vi n G L K t W h D M)(f:Fx W h h')(c: ∀id,id<h.next->W' id->W id):Vi n G L K t W' h' D M:=by
 obtain⟨N,Y,B,vP,O,R,gD,gc,U,⟨lv,id,j,F,l,u,y⟩,w,m⟩:=d.ex;obtain⟨es,gM,A,P⟩:=d.mp;have r:=d.lD;have o:=d.lM;have nx:=f.next;have b:Fx (λq=>W q\/q=M) h h':=f.mE λ_ _ h=> .inl h
 have a: ∀id,id<h.next->(W' id\/id=M)->(W id\/id=M):=λid Q z=>z.imp (c id Q) λx=>x
 refine⟨⟨N,Y,B,vP,O,R,by rw[f.get _ r d.nD];exact gD,gc.go b a,U,⟨lv,id,j,F,λh=>l (a id u h),om,λk J=>by rw[b.cell u l];exact y k J⟩,w.fx m b,m.mE w a⟩,
  ⟨es,by rw[f.get _ o d.nM];exact gM,A,λi hi=>?_⟩,λh=>d.nD (c D r h),λh=>d.nM (c M o h),om,om,d.ne⟩
 rcases P i hi with e|⟨v,e,Z,c2,s⟩
 .exact .inl e
 .exact .inr ⟨v,e,Z,c2,s.go b a⟩
theorem VB {n:Nat}{G:List Nat->Prop}{L:LN}{K:List Nat}(c:oK n G)(E:fW G L)(b:vU n G L K):sm K.length (λk=>((lI G L K k:Nat):Int))=L.length:=by
 have h:=BM c E b λ_=>1
 rw[aU (g:=λk=>((lI G L K k:Nat):Int)) λk _=>Int.one_mul _] at h;rw[h,<-UA]
 have a: ∀m:Nat,sm m (λ_=>(1:Int))=m:=λm=>by
  induction m with
  |zero=>rfl
  |succ m ih=>rw[bQ,ih];omega
 exact a _
theorem ahI {a b c:V}(M:Nat)(k:a.one=true)(f:b.one=true)(i:c.one=true)(j:v.cells= [v])(d:v.one=true):
  mP [aC 0,.aH,.aH,.aH,.aH,aC 0,aC 0,.nilm] [(0,3,.agg [a,b,c]),(3,1,v),(7,1,.mp M)]=some (.agg [a,b,c,v,.aH,aC 0,aC 0,.mp M]):=by
 simp [mP,fP,putAt,j,d,k,f,i,show (V.agg [a,b,c]).cells= [a,b,c] from rfl,show (V.mp M).cells= [V.mp M] from rfl,show (V.mp M).one=true from rfl]
theorem Wu {W0:Nat->Prop}(vc:V)(n:Nat)(O:LN)(R:nZ)(G:List Nat->Prop)(h:H)(gc:GC W0 h vc n O R G)(L:LN)(hL:cK O R n 0 (bI n)=L)(K:List Nat)(J:vU n G L K)(d3:K.length<=12)(t:Tb)(X:Nat->List Nat->Int)(C:DB n G L t K.length X)(te:t.e<=120):
  Ev T 41 [vc] h (λv h'=> ∃D M,v= .tup [.ptr D 0,aC 0]/\Fr h h'/\h.next<=D/\h.next<=M/\Vi n G L K t (Nw h') h' D M):=by
 have c7:K.length<=64:=om
 have a5:(dR G L L.length).length<60000:=by rw[<-J.perm.length_eq];omega
 have a1:=gc
 obtain⟨r,s,rfl,sO,sR⟩:=gc.ch
 refine mV ?_
 have P:r.one=true:=NB sO
 have Q:s.one=true:=KY sR
 have hG:=gc.kT
 obtain⟨E,ll⟩:=dV gc.kT gc.isc
 have d0:=kF gc
 rw[hL] at E ll
 obtain⟨B,hB⟩:=exI h.next
 obtain⟨Z,e1,n1,g1,o1,f1⟩:=iI hB [aC n,r,s]
 have bx:=dH h (v:= aC n) (u:=r) (w:=s) rfl P Q
 have rB: ∀d,Fr Z d->d.row B 0 3=some [aC n,r,s]:=λd f=>bU (by rw[f.get B om];exact g1)
 simp(disch:=omega)only[go_sem,aV,bx,hB,e1,rB Z (Fr.refl _)]
 refine (Kq _ n O R G Z (a1.mono f1) L hL a5).mono ?_
 rintro _ l ⟨z,K2,ks,rfl,b6,s4,a4,f2⟩
 obtain rfl:=J.uniq b6
 have co:=Df om s4 a4
 have w4:=s4.cT
 refine aT ?_
 refine bV (λhc=>(hc rfl).elim) (λ_=>?_)
 refine bM (rB l f2) ?_
 refine (aeP _ n O R G l (a1.mono (f1.trans f2)) L hL a5).mono ?_
 rintro _ N ⟨K3,c1,rfl,f3⟩
 obtain rfl:=J.uniq c1
 rw[C.ex K J]
 have d1:decide ((64:Int)<(K.length:Int))=false:=bZ om
 have d2:decide ((120:Int)<(t.e:Int))=false:=bZ om
 have F3:=f2.trans f3
 obtain⟨M,hM⟩:=exI N.next
 obtain⟨h4,e4⟩:=exI (N.new (.map []))
 have n4:h4.next=M+1:=by rw[<-e4,H.aM,hM]
 have g4:h4.get M=some (.map []):=by rw[<-e4,<-hM];exact H.aI N _
 have o4: ∀k,k≠M->h4.get k=N.get k:=λk Y=>by rw[<-e4];exact H.bG N om _
 obtain⟨h5,e5,n5,g5,o5,f5⟩:=iI n4 [aC n,r,s,z,.aH,aC 0,aC 0,.mp M]
 have b4:Fr N h5:=⟨om,λq hq=>by rw[o5 q om,o4 q om]⟩
 have F5:=F3.trans b4
 have ba:=rI h4 [aC n,r,s,z,.aH,aC 0,aC 0,.mp M] (by simp [w4.2.1,P,Q,show V.aH.one=true from rfl,show (V.mp M).one=true from rfl,show ∀k a,(V.int k a).one=true from λ_ _=>rfl])
 simp(disch:=omega)only[go_sem,co.1,d1,d2,rB N F3,hM,e4,ahI M (a:= aC n) (b:=r) (c:=s) rfl P Q w4.1 w4.2.1,ba,n4,e5,rB h5 F5]
 refine (FO _ (-1) n O R G h5 (a1.mono (f1.trans F5)) L om hL a5).mono ?_
 rintro _ U ⟨K4,F,c0,rfl,sP,oP,f6⟩
 obtain rfl:=J.uniq c0
 have F6:=F5.trans f6
 have n6:=f6.next
 have g6:U.get (M+1)=some (.cells false [aC n,r,s,z,.aH,aC 0,aC 0,.mp M]):=by rw[f6.get _ om];exact g5
 have b7:U.get M=some (.map []):=by rw[f6.get _ om,o5 _ om];exact g4
 have wP:=sP.cT
 obtain⟨h7,e7,n7,g7,o7⟩:=xN U (M+1) [aC n,r,s,z,F,aC 0,aC 0,.mp M]
 have p7:dY (some (.cells false [aC n,r,s,z,.aH,aC 0,aC 0,.mp M])) U (M+1) 4 [F]=some h7:=by rw[bE siM,<-e7];rfl
 have b8:SI U F (zi ((List.range K.length).map (sX G L K))):=by
  have e:(rc K.length λk=>aC (Mr n G L K (-1) (K.getD k 0):Nat))=ints (zi ((List.range K.length).map (sX G L K))):=by
   rw[bW (g:=λk=>aC (sX G L K k:Nat)) λk Y=>by rw[QO hG E J Y]];simp [rc,ints,zi,Function.comp_def]
  rw[e] at sP;exact sP
 have c3:vI (· =M+1) F:=by
  cases F with
  |sl id off len cap=>exact λe=>oP (by show id<h5.next;have e:id=M+1:=e;omega)
  |_=>trivial
 have⟨lv,_,a0,a2,b2,cL⟩:=co
 have a9: ∀d,Fx (· =M+1) U d->Fr N d:=λd f=>⟨by have:=f.next;omega,λq hq=>by rw[f.get q om (by show q≠M+1;omega),f6.get q om];exact b4.get q hq⟩
 have b9:Fx (· =M+1) U h7:=⟨om,λq _ h=>o7 q h⟩
 have sum:=VB hG E J
 have b1:=λk (Y:k<K.length)=>Wi hG E J C Y
 have c5:=C.p100
 have b5: ∀d k,Fr l d->k<K.length-> ∃rep o,d.row a0 (a2+k*3) 3=some [rep,aC o,aC (lI G L K k:Nat)]/\rep.one=true:=λd k f Y=>by
  obtain⟨b,rep,_,_,r3,sr⟩:=cL k Y;exact⟨rep,_,by unfold H.row at r3 |-;rw[f.get _ b];exact r3,sr.cT.2.1⟩
 refine jX g6 (eH wP.1 wP.2.1) p7 lv ?_
 refine dG (λvs d=>(∃g:Nat->V,vs= [g 0,g 1,g 2,g 3,g 4,g 5,aC (t.e:Int),.ptr (M+1) 0,g 8,g 9,g 10,g 11,g 12,g 13,g 14,g 15,g 16])/\d.get (M+1)=some (.cells false [aC n,r,s,z,F,aC (L.length:Int),aC 0,.mp M])/\Fx (· =M+1) U d) ?_ ?_
 .refine aP (λk' vs d=> ∃(k:Nat),(∃g:Nat->V,vs= [g 0,g 1,g 2,g 3,g 4,g 5,aC (t.e:Int),.ptr (M+1) 0,g 8,g 9,g 10,g 11,z,aC (K.length:Int),aC k,g 15,g 16])/\k<=K.length/\d.get (M+1)=some (.cells false [aC n,r,s,z,F,aC (sm k λj=>((lI G L K j:Nat):Int)),aC 0,.mp M])/\Fx (· =M+1) U d/\k'=K.length-k) K.length
   ⟨0,aD rfl,fY _,g7,b9,rfl⟩ ?_
  rintro k' vs h8 ⟨k,⟨g,rfl⟩,Y,gD,F8,rfl⟩
  by_cases x:(k:Int)<(K.length:Int)
  case neg=>
   have d4:=bZ x;obtain rfl:k=K.length:=om
   refine bM d4 ?_;exact⟨aD rfl,by rw[sum] at gD;exact gD,F8⟩
  have d4:=cV x
  have a7:k<K.length:=om
  obtain⟨rep,o,r8,oR⟩:=b5 h8 k (f3.trans (a9 h8 F8)) a7
  obtain⟨A,hA⟩:=exI h8.next
  obtain⟨h9,e9,n9,g9,o9,f9⟩:=iI hA [.aH,aC 0,aC 0]
  obtain⟨y,ea,na,ga,oa⟩:=xN h9 A [rep,aC o,aC (lI G L K k:Nat)]
  have n8:=F8.next
  have b0:y.get (M+1)=some (.cells false [aC n,r,s,z,F,aC (sm k λj=>((lI G L K j:Nat):Int)),aC 0,.mp M]):=by rw[oa _ om,o9 _ om];exact gD
  have sb:0<=sm k (λj=>((lI G L K j:Nat):Int))/\sm k (λj=>((lI G L K j:Nat):Int))<=100*k:=by
   refine⟨OB λj _=>om,?_⟩;have:=SS (n:=k) (f:=λj=>((lI G L K j:Nat):Int)) (g:=λ_=>100) λj hj=>by have:=b1 j om;omega
   rw[show sm k (λ_=>(100:Int))=100*k from by
    have c4: ∀m:Nat,sm m (λ_=>(100:Int))=100*m:=λm=>by
     induction m with
     |zero=>rfl
     |succ m ih=>rw[bQ,ih];omega
    exact c4 k] at this
   exact this
  have sk:=b1 k a7
  have pa:=λd=>bE (vs:= [aC n,r,s,z,F,aC (sm k λj=>((lI G L K j:Nat):Int)),aC 0,.mp M]) (off:=5) siM d (M+1) (aC (sm (k+1) λj=>((lI G L K j:Nat):Int)))
  have ws:IntKind.i64.wrap (sm (k+1) λj=>((lI G L K j:Nat):Int))=sm (k+1) λj=>((lI G L K j:Nat):Int):=Ii (by rw[bQ];omega) (by rw[bQ];omega)
  simp(disch:=omega)only[go_sem,d4,b2.ixa,r8,hA,e9,lY h9 A 0 (v:=rep) (u:= aC o) (w:= aC (lI G L K k:Nat)) oR rfl rfl,g9,jE,ea,H.cell_of b0,H.cell_of ga,<-bQ,ws,b0,pa]
  rw[fJ k]
  refine⟨K.length-(k+1),om,k+1,aD rfl,om,rfl,?_,rfl⟩
  refine⟨by show U.next<=y.next+10;omega,λq Z l=>?_⟩
  rw[H.Cj _ l]
  show y.get q=_
  rw[oa q om,o9 q om]
  exact F8.get q Z l
 rintro vs h8 ⟨⟨g,rfl⟩,gD,F8⟩
 have n8:=F8.next
 have c6:0<L.length:=(uE hG E).1
 refine aT ?_
 refine dG (λvs d=>d=h8/\ ∃m:Nat,(∃g:Nat->V,vs= [g 0,g 1,g 2,g 3,g 4,g 5,aC (t.e:Int),.ptr (M+1) 0,g 8,aC m,g 10,g 11,g 12,g 13,g 14,g 15,g 16])/\1<=m/\m*m<=4*L.length/\4*L.length<(m+1)*(m+1)) ?_ ?_
 .refine aP (λk' vs d=>d=h8/\ ∃(m:Nat),(∃g:Nat->V,vs= [g 0,g 1,g 2,g 3,g 4,g 5,aC (t.e:Int),.ptr (M+1) 0,g 8,aC m,g 10,g 11,g 12,g 13,g 14,g 15,g 16])/\1<=m/\m<=20160/\m*m<=4*L.length/\k'=20161-m) 20160
   ⟨rfl,1,aD rfl,om,om,om,rfl⟩ ?_
  rintro k' vs d ⟨rfl,m,⟨g,rfl⟩,m1,m2,m3,rfl⟩
  by_cases x:((m:Int)+1)*((m:Int)+1)<=4*(L.length:Int)
  .have d5:=cV x
   have hq:(m+1)*(m+1)<=4*L.length:=by exact_mod_cast x
   have hm:m+1<=4*L.length:=kQ (Nat.le_mul_self (m+1)) hq
   have hb:0<=((m:Int)+1)*((m:Int)+1):=Int.mul_nonneg om om
   simp(disch:=omega)only[go_sem,H.cell_of gD,d5]
   rw[fJ m]
   exact⟨20161-(m+1),om,m+1,aD rfl,om,om,hq,rfl⟩
  .have d5:=bZ x
   have hq: ¬(m+1)*(m+1)<=4*L.length:=λh=>x (by exact_mod_cast h)
   have hb:0<=((m:Int)+1)*((m:Int)+1):=Int.mul_nonneg om om
   have c8:((m:Int)+1)*((m:Int)+1)<=20161*20161:=Int.mul_le_mul om om om om
   simp(disch:=omega)only[go_sem,H.cell_of gD,d5]
   exact⟨m,aD rfl,m1,m3,om⟩
 rintro vs d ⟨rfl,m,⟨g,rfl⟩,m1,m2,m3⟩
 have pp:=C.pr
 have p2:=Ln.tL pp
 have a8:=(C.prm t.p (dN _)).2 rfl
 have mp:m<t.p:=Nat.lt_of_not_le λh=>by
  have:=Nat.mul_le_mul h h;omega
 have e0:0<t.e:=by
  have:=XF hG E J;rw[C.ex K J] at this;exact this
 refine aT ?_
 refine (afM t.e m t.p d e0 om om mp a8.1 pp λk Y hm Z=>Bool.eq_false_iff.2 λl=>?_).mono ?_
 .have N:4*L.length<k*k:=iD m3 (Nat.mul_le_mul (show m+1<=k by omega) (show m+1<=k by omega))
  have:=(C.prm k om).1 ⟨Z,N,l⟩
  omega
 rintro _ h9 ⟨rfl,rfl⟩
 obtain⟨y,ea,na,ga,oa⟩:=xN h9 (M+1) [aC n,r,s,z,F,aC (L.length:Int),aC (t.p:Int),.mp M]
 have pa:dY (some (.cells false [aC n,r,s,z,F,aC (L.length:Int),aC 0,.mp M])) h9 (M+1) 6 [aC (t.p:Int)]=some y:=by rw[bE siM,<-ea];rfl
 simp(disch:=omega)only[go_sem,gD,pa]
 have Fa:Fx (· =M+1) U y:=⟨om,λq Z l=>by rw[oa q l];exact F8.get q Z l⟩
 have a3:=a9 y Fa
 have a6:Fr h y:=f1.trans (F3.trans a3)
 have n3:=a3.next
 have c9:h.next<=N.next:=(f1.trans F3).next
 have b3:=b8.fx c3 Fa
 refine⟨M+1,M,rfl,a6,om,om,⟨r,s,z,F,O,R,ga,(a1.go (W':=λq=>Nw y q\/q=M) (Fx.of a6) λid Z l=>?_),hL,⟨lv,a0,a2,b2,?_,?_,λk Y=>?_⟩,b3,?_⟩,⟨[],?_,rfl,λi _=> .inl rfl⟩,?_,?_,om,om,om⟩
 .have l:y.next<=id\/id=M:=l
  have:=a6.next
  omega
 .have b:=(cL 0 (sV hG E J).1).1
  intro l
  have l:y.next<=a0\/a0=M:=l
  have:=f3.next
  omega
 .have b:=(cL 0 (sV hG E J).1).1
  have:=f3.next
  omega
 .obtain⟨b,rep,_,c2,_⟩:=cL k Y
  rw[(f3.trans a3).cell b]
  exact c2
 .have o1:=DS b3
  revert oP o1
  cases F with
  |sl id off len cap=>
   intro oP o1 l;have oP: ¬id<h5.next:=oP;have o1: ¬y.next<=id:=o1;have l:y.next<=id\/id=M:=l;omega
  |_=>intros;trivial
 .rw[oa M om,F8.get M om (by show M≠M+1;omega)];exact b7
 .intro l
  have l:y.next<=M+1:=l
  omega
 .intro l
  have l:y.next<=M:=l
  omega
end
set_option maxHeartbeats 32000000
theorem IQ {h:H}{v:V}{ws:List V}{a:List (List Int)}{d:Nat}(r:Ln.tD h v ws a d){W:Nat->Prop}(i: ∀q,W q->q<d):Xh W h v a:=by
 have b: ∀w:V,(∀id o n c,w= .sl id o n c->d<=id)->vI W w:=λw f=>by
  cases w with
  |sl id o n c=>exact λe=>by have:=i id e;have:=f id o n c rfl;omega
  |_=>trivial
 refine⟨ws,r.own.sv,b v λid o n c e=>(r.own.in id o n c e).2.1,?_⟩;have fr:=r.frs;have row:=r.row;clear r
 induction ws generalizing a with
 |nil=>cases a with
  |nil=>trivial
  |cons _ _=>exact row.elim
 |cons w ws ih=>cases a with
  |nil=>exact row.elim
  |cons l a=>exact⟨⟨row.1,b w λid o n c e=>fr w wI id o n c e⟩,ih (λx j=>fr x (wH _ j)) row.2⟩
theorem aaH (G:List Nat->Prop)(L:LN)(K:List Nat)(t:Tb)(i:Nat){k j:Nat}(b:k<K.length)(a:j<K.length):Ln.kH (Nj G L K t i) k j=((mW G L K i j k%t.p:Nat):Int):=Ln.Ah b a
theorem ON {W:Nat->Prop}(n:Nat)(G:List Nat->Prop)(L:LN)(K:List Nat)(ik:vU n G L K)(i3:K.length<=12)(l5:L.length<=5040)(t:Tb)(tp:0<t.p/\t.p<10000)(h:H)(D M i:Nat)(hi:i<K.length)(d:Vi n G L K t W h D M)(hW: ∀q,W q->q<h.next):
  Ev T 47 [.ptr D 0,aC i] h (λv h'=> ∃u,v= .agg [aC (t.p:Int),u]/\u.cells= [u]/\u.one=true/\Xh (λq=>W q\/q=M) h' u (Nj G L K t i)/\Vi n G L K t W h' D M/\Fx (· =M) h h'):=by
 obtain⟨vO,vR,vL,vP,O,R,gD,gc,hL,Qd,sP,oP⟩:=d.ex
 obtain⟨es,gM,ke,fe⟩:=d.mp
 have lD:=d.lD
 have lM:=d.lM
 have ne:=d.ne
 refine mV ?_
 obtain⟨A,hA⟩:=exI h.next
 obtain⟨Y,e1,n1,g1,o1,f1⟩:=iI hA [aC 0,.aH]
 obtain⟨z,e2,n2,g2,o2,f2⟩:=iI n1 [aC 0,.aH]
 have a0:=f1.trans f2
 have c0:Y.get D=_:=(f1.get D lD).trans gD
 have b2:z.get D=_:=(a0.get D lD).trans gD
 have c2:Y.get M=some (.map es):=(f1.get M lM).trans gM
 have b6:z.get M=some (.map es):=(a0.get M lM).trans gM
 have c4:z.get A=cE [aC 0,.aH]:=(o2 A om).trans g1
 rcases fe i hi with hf|⟨u,hf,uc,u1,su⟩
 case inr=>
  obtain⟨l,e3,n3,U,o3⟩:=xN z (A+1) [aC (t.p:Int),u];obtain⟨b,e4,n4,g4,o4⟩:=xN l A [aC (t.p:Int),u];have h0:l.get A=cE [aC 0,.aH]:=by rw[o3 A om];exact c4
  have fh:Fr h b:=⟨om,λq w=>by rw[o4 q om,o3 q om];exact a0.get q w⟩
  simp(disch:=omega)only[go_sem,aV,hA,e1,n1,e2,H.cell_of c0,H.cell_of b2,Dw,c2,b6,Xw ke hf,nU z (A+1) 0 (v:= aC (t.p:Int)) (u:=u) rfl u1,g2,e3,jH U,nU l A 0 (v:= aC (t.p:Int)) (u:=u) rfl u1,h0,e4,jH g4];have fx:Fx W h b:=Fx.of fh;exact⟨u,rfl,uc,u1,su.go (Fx.of fh) λ_ _ x=>x,d.go fx λ_ _ x=>x,Fx.of fh⟩
 obtain⟨l,e3,n3,U,o3⟩:=xN z (A+1) [aC 0,.aH]
 have b0:Fr h l:=⟨om,λq w=>by rw[o3 q om];exact a0.get q w⟩
 have d8:l.get D=_:=(b0.get D lD).trans gD
 have f6:l.row D 0 3=some [aC n,vO,vR]:=by
  simp [H.row,d8,sub]
 simp(disch:=omega)only[go_sem,aV,hA,e1,n1,e2,H.cell_of c0,H.cell_of b2,Dw,c2,b6,FD ke hf,nU z (A+1) 0 (v:= aC 0) (u:= .aH) rfl rfl,g2,e3,f6]
 refine (UQ _ (i:Int) n O R G l (gc.go (Fx.of b0) λ_ _ x=>x) L hL (by rw[<-ik.perm.length_eq];omega)).mono ?_
 rintro _ b ⟨K2,a5,f4,⟨i0,_⟩|⟨_,⟨hz,_⟩|⟨i2,vl,ei,_,rfl,sl⟩⟩⟩
 .obtain rfl:=ik.uniq a5;omega
 .obtain rfl:=ik.uniq a5;omega
 obtain rfl:=ik.uniq a5
 obtain rfl:i=i2:=om
 obtain⟨c,hc⟩:=exI K.length
 have F4:=b0.trans f4
 have n4:=f4.next
 have b9:b.get D=_:=(F4.get D lD).trans gD
 have lc:(TE G L K i).length=c:=by simp [TE,hc]
 have c3:=sl.lens
 rw[lc] at c3
 have ez:cJ [V.aH] c=List.replicate c .aH:=Fz ..
 have e5:sD (H.mk b.tr (b.next+6)) 1 24 [.aH] (aC c) (aC c)=some (.sl (b.next+6) 0 c (.kn c),(H.mk b.tr (b.next+6)).new (.cells false (List.replicate c .aH))):=by
  rw[iH om (Int.le_refl _) om om,Mc,jP,ez]
 have e8:=Wx (z1:= aC 0) (z2:= .aH) (v:= aC (t.p:Int)) (u:= .sl (b.next+6) 0 c (.kn c)) rfl rfl rfl rfl
 have iS:=λhh id=>nU hh id 0 (v:= aC (t.p:Int)) (u:= .sl (b.next+6) 0 c (.kn c)) rfl rfl
 simp(disch:=omega)only[go_sem,H.cell_of b9,c3,e5,Ln.Ih,e8,iS]
 obtain⟨Q,hQ⟩:=exI (b.next+6)
 obtain⟨S,hS⟩:=exI (b.next+8)
 rw[hQ,hS]
 have fB:Fr b ((Ln.pY (Ln.pY b Q (List.replicate c .aH) (b.next+10)) S [aC 0,.aH] (b.next+10)).set S (cE [aC (t.p:Int),.sl Q 0 c (.kn c)])):=(Ln.Bo (Ln.Bo (Fr.refl b) om om _) om om _).set om _
 have gQ:((Ln.pY (Ln.pY b Q (List.replicate c .aH) (b.next+10)) S [aC 0,.aH] (b.next+10)).set S (cE [aC (t.p:Int),.sl Q 0 c (.kn c)])).get Q=cE (List.replicate c .aH):=by simp(disch:=omega)only[go_sem]
 have gS:((Ln.pY (Ln.pY b Q (List.replicate c .aH) (b.next+10)) S [aC 0,.aH] (b.next+10)).set S (cE [aC (t.p:Int),.sl Q 0 c (.kn c)])).get S=cE [aC (t.p:Int),.sl Q 0 c (.kn c)]:=by simp(disch:=omega)only[go_sem]
 have nB:((Ln.pY (Ln.pY b Q (List.replicate c .aH) (b.next+10)) S [aC 0,.aH] (b.next+10)).set S (cE [aC (t.p:Int),.sl Q 0 c (.kn c)])).next=b.next+10:=by simp(disch:=omega)only[go_sem]
 generalize (Ln.pY (Ln.pY b Q (List.replicate c .aH) (b.next+10)) S [aC 0,.aH] (b.next+10)).set S (cE [aC (t.p:Int),.sl Q 0 c (.kn c)])=hB at*
 obtain⟨N,a6⟩: ∃F:Nat->Nat->Int,F=λk j=>((mW G L K i j k%t.p:Nat):Int):=⟨_,rfl⟩
 obtain⟨lo,d4⟩:=exI (b.next+10)
 rw[d4] at nB
 have G0:Ln.PA hB Q c (List.replicate c .aH) (Ln.kM c 0 N) lo:=by
  refine⟨gQ,List.length_replicate ..,Ln.dC ..,om,om,λk hk=>?_,λk k' hk i1 h9=>?_⟩
  .rw[Ln.jT _ hk,gV,List.getElem?_replicate,aS hk]
   exact dF.aH _ _ _
  .rw[gV,List.getElem?_replicate,aS hk]
   intro _ _ _ _ e;cases e
 obtain⟨d7,c5,wsl,su,a3,g0,b1,c1⟩:=sl.open
 rw[lc] at su a3 g0 b1
 have f0: ∀hh,Fr b hh->hh.cell D 6=some (aC (t.p:Int)):=λhh f=>by
  rw[H.cell_of ((f.get D om).trans b9)];rfl
 refine dG (λo l=> ∃(B:List V),(∃g:Nat->V,o= [.ptr D 0,aC i,.ptr A 0,g 3,g 4,g 5,.ptr S 0,g 7,g 8,g 9,g 10,g 11,g 12,g 13,g 14,g 15,g 16,g 17,g 18])/\Ln.PA l Q c B (Ln.kM c c N) lo/\l.get S=cE [aC (t.p:Int),.sl Q 0 c (.kn c)]/\Fr b l) ?_ ?_
 .refine aP (λk' o l=> ∃(j:Nat) (B:List V),(∃g:Nat->V,o= [.ptr D 0,aC i,.ptr A 0,g 3,g 4,g 5,.ptr S 0,g 7,g 8,g 9,g 10,vl,aC c,aC j,g 14,g 15,g 16,g 17,g 18])/\j<=c/\Ln.PA l Q c B (Ln.kM c j N) lo/\l.get S=cE [aC (t.p:Int),.sl Q 0 c (.kn c)]/\Fr b l/\k'=c-j) c
   ⟨0,_,aD rfl,fY _,G0,gS,fB,rfl⟩ ?_
  clear G0 gS fB gQ
  rintro k' o l ⟨j,B,⟨g,rfl⟩,hj,J,U,f3,rfl⟩
  by_cases b3:(j:Int)<(c:Int)
  case neg=>
   have d1:=bZ b3;obtain rfl:j=c:=om
   refine bM d1 ?_;exact⟨B,aD rfl,J,U,f3⟩
  have d1:=cV b3
  have a8:j<c:=om
  have cj:l.cell d7 (c5+j)=some (wsl.getD j .undef):=by rw[f3.cell (a3 om)];exact b1 j a8
  have c6:(TE G L K i).getD j []=zi ((List.range c).map (mW G L K i j)):=by
   unfold TE;rw[hc,gV,Al,List.getElem?_range a8];rfl
  have rj:=Mz c1 (i:=j) (by rw[lc];exact a8)
  rw[c6] at rj
  have lz:(zi ((List.range c).map (mW G L K i j))).length=c:=by rw[bD,dO,gT]
  have lr:=rj.lens
  rw[lz] at lr
  obtain⟨d5,d0,sr,a2,c8⟩:=rj.open
  rw[lz] at sr a2 c8
  simp(disch:=omega)only[go_sem,d1,su.ixa,cj,lr]
  rw[<-Ln.DG] at J
  refine aP (λk' o l=> ∃(k:Nat) (B:List V),(∃g:Nat->V,o= [.ptr D 0,aC i,.ptr A 0,g 3,g 4,g 5,.ptr S 0,g 7,g 8,g 9,g 10,vl,aC c,aC j,g 14,wsl.getD j .undef,aC c,aC k,g 18])/\k<=c/\Ln.PA l Q c B (Ln.xB c j k N) lo/\l.get S=cE [aC (t.p:Int),.sl Q 0 c (.kn c)]/\Fr b l/\k'=c-k) c
   ⟨0,_,aD rfl,fY _,J,U,f3,rfl⟩ ?_
  clear J U f3 cj g
  rintro k' o l ⟨k,B,⟨g,rfl⟩,hk,J,U,f3,rfl⟩
  by_cases a4:(k:Int)<(c:Int)
  case neg=>
   have d2:=bZ a4;obtain rfl:k=c:=om
   rw[Ln.CJ] at J;refine bM d2 ?_;rw[fJ j];exact⟨k-(j+1),om,j+1,B,aD rfl,om,J,U,f3,rfl⟩
  have d2:=cV a4
  have r:k<c:=om
  have ck:l.cell d5 (d0+k)=some (aC (mW G L K i j k:Nat)):=by
   rw[f3.cell (a2 om),c8 k r];simp [zi,r]
  have cS:l.cell S 1=some (.sl Q 0 c (.kn c)):=by rw[H.cell_of U];rfl
  have cQ:l.cell Q k=some (B.getD k .undef):=by
   rw[H.cell_of J.gR,gV,dJ (by rw[J.lw];exact r)];rfl
  have n3:=J.lt
  have eF:N k j=((mW G L K i j k%t.p:Nat):Int):=by rw[a6]
  have tm:((mW G L K i j k:Nat):Int).tmod (t.p:Int)=N k j:=by rw[eF];rfl
  have d6:=f0 l f3
  refine Ux d2 @sr.ixa ck cS cQ d6 tm @Ln.HG @Ln.Ih ?_
  have fl:=Ln.Bo (Fr.refl l) (a:=l.next+14) (m:=l.next+18) om om (ints [N k j])
  have hy:SV (Ln.pY l (l.next+14) (ints [N k j]) (l.next+18)) (.sl (l.next+14) 0 1 (.kn 1)) 1 (ints [N k j]):=SV.all (by rfl) (by rw[Ln.zA];omega) (Ln.xO ..) _
  have c7:=Ln.RU (i:=j) N r
  obtain⟨v,Z,e6,vc,v1,G6,d9,n6,P⟩:=(J.fr fl).push r hy (by rw[c7,Ln.aW];omega)
  have c9:=bE (vs:=B) (off:=k) (by rw[J.lw];exact r) Z Q v
  have b7:=λhh=>eH vc v1 hh Q k
  have g5:Z.cell S 1=some (.sl Q 0 c (.kn c)):=by
   rw[H.cell_of ((P S om).trans ((fl.get S om).trans U))];rfl
  refine wE e6 g5 @Ln.Md b7 d9 c9 ?_
  rw[fJ k]
  refine⟨c-(k+1),om,k+1,B.set k v,aD rfl,om,?_,?_,?_,rfl⟩
  .rw[c7,Ln.DU N r] at G6
   exact G6
  .exact (P S om).trans ((fl.get S om).trans U)
  .exact⟨by rw[H.bT];have:=f3.next;rw[Ln.zA] at n6;omega,λid f9=>by rw[H.Cj _ om];exact (P id om).trans ((fl.get id om).trans (f3.get id f9))⟩
 rintro o y ⟨B,⟨g,rfl⟩,G5,a7,f5⟩
 have n5:=G5.lt
 have F5:=F4.trans f5
 have e9:y.get D=_:=(F5.get D lD).trans gD
 have g8:y.get M=some (.map es):=(F5.get M lM).trans gM
 have f7:y.get A=cE [aC 0,.aH]:=by
  rw[f5.get A om,f4.get A om,o3 A om];exact c4
 have d3:y.cell D 7=some (.mp M):=by rw[H.cell_of e9];rfl
 obtain⟨u,hu⟩:=exI (V.sl Q 0 c (.kn c))
 have uc:u.cells= [u]:=by rw[<-hu];rfl
 have u1:u.one=true:=by rw[<-hu];rfl
 have eu:dS u u=true:=by rw[<-hu,Ln.Md]
 rw[hu] at a7
 have rS: ∀m,(H.mk y.tr m).row S 0 2=some [aC (t.p:Int),u]:=λm=>jH (h:=H.mk y.tr m) a7
 have a9:=G5.rws
 rw[hu] at a9
 have s5:Xh W y u (Nj G L K t i):=by
  have:=IQ a9 (W:=W) λq w=>by have:=hW q w;have:=F4.next;omega
  rw[a6,<-hc] at this;exact this
 obtain⟨Z,e6⟩:=exI ((H.mk y.tr (y.next+7)).set M (some (.map (rG .i64 (i:Int) (.agg [aC (t.p:Int),u]) es))))
 have n6:Z.next=y.next+7:=by rw[<-e6];rfl
 have g6:Z.get M=some (.map (rG .i64 (i:Int) (.agg [aC (t.p:Int),u]) es)):=by rw[<-e6];exact H.aJ ..
 have o6: ∀q,q≠M->Z.get q=y.get q:=λq w=>by rw[<-e6,H.Cj _ w];rfl
 obtain⟨h7,e7,n7,g7,o7⟩:=xN Z A [aC (t.p:Int),u]
 have f8:M≠A:=om
 have h8:Z.get A=cE [aC 0,.aH]:=by rw[o6 A om];exact f7
 have g9:Z.row S 0 2=some [aC (t.p:Int),u]:=jH (by rw[o6 S om];exact a7)
 have em:=λhh:H=>Qa ke hh M (i:Int) (.agg [aC (t.p:Int),u])
 have b4: ∀m,(H.mk y.tr m).get M=some (.map es):=λm=>g8
 simp(disch:=omega)only[go_sem,d3,rS,HS,Nx,Za,eu,Mf,b4,em,e6,g9,nU Z A 0 (v:= aC (t.p:Int)) (u:=u) rfl u1,h8,e7,jH g7]
 have b5: ∀q,q<h.next->q≠M->h7.get q=y.get q:=λq Y z=>by rw[o7 q om,o6 q z]
 have fx:Fx (· =M) h h7:=⟨by have:=F5.next;omega,λq Y z=>by rw[b5 q Y z];exact F5.get q Y⟩
 have k1:Fx (λq=>(W q\/q=M)\/q=A) y h7:=⟨om,λq Y z=>by rw[o7 q (λe=>z (.inr e)),o6 q (λe=>z (.inl (.inr e)))]⟩
 have s7:Xh (λq=>W q\/q=M) h7 u (Nj G L K t i):=by
  have:=IQ a9 (W:=λq=>(W q\/q=M)\/q=A) λq w=>by
   rcases w with (w|w)|w
   .have:=hW q w
    have:=F4.next;omega
   .have:=F4.next;omega
   .omega
  rw[a6,<-hc] at this;exact this.go k1 λ_ _ h=> .inl h
 have a1:Fx (λq=>W q\/q=M) h h7:=fx.mE λ_ _ h=> .inr h
 have b8: ∀q,q<h.next->(W q\/q=M)->(W q\/q=M):=λ_ _ h=>h
 obtain⟨lv,id,off,sh,wi,li,cL⟩:=Qd
 refine⟨u,rfl,uc,u1,s7,⟨⟨vO,vR,vL,vP,O,R,by rw[b5 D lD d.ne,(F5.get D lD)];exact gD,gc.go a1 b8,hL,⟨lv,id,off,sh,wi,by have:=F5.next;omega,λk hk=>by rw[a1.cell li wi];exact cL k hk⟩,sP.fx oP a1,oP⟩,⟨_,by rw[o7 M f8];exact g6,Vc ke,λq w=>?_⟩,d.nD,d.nM,by have:=F5.next;omega,by have:=F5.next;omega,d.ne⟩,fx⟩
 rw[Ge ke]
 by_cases e:q=i
 .subst e
  exact .inr ⟨u,by rw[aS rfl],uc,u1,s7⟩
 .rw[aQ om]
  rcases fe q w with Y|⟨v,Y,v1,v2,s⟩
  .exact .inl Y
  .exact .inr ⟨v,Y,v1,v2,s.go a1 b8⟩
end Go.Proofs.YtoighkablmjfeaaGreat
namespace Go.Proofs.YtoighkablmjfeaaGreat.Ln
open Go Go.Ay
theorem Sp.le {p:Int}{n m o k q:Nat}{V l:Nat->Nat->Int}{S S':Nat->Bool}{f f':Nat->Nat->Int}(r:1<p)(s:Sp p n n V m S f k)(a:Sp p n n l o S' f' q)(h: ∀i,i<m->dQ p n o l (V i)):k<=q:=by
 have b: ∀c,c<n->S c=true->dQ p n n (gf S' f') (f c):=λc j d=>a.mem.1 ((s.out c j d).trans h)
 have:=(agN λc j d=>Re.sub r s.re a.re b j d).1;rw[s.cn,a.cn];exact this
def Zj (p:Int)(n L:Nat)(U:Nat->Nat->Int):Prop:= ∀κ:Nat->Int,(∀j,j<n->sm L (λt=>κ t*U t j)%p=0)-> ∀t,t<L->κ t%p=0
theorem Zj.more {p:Int}(d:cF p=true){n L:Nat}{U b:Nat->Nat->Int}(I:Zj p n L U)(e: ∀t,t<L->b t=U t)(h: ¬dQ p n L U (b L)):Zj p n (L+1) b:=λκ a t m=>by
 have c:κ L%p=0:=by
  by_cases e1:κ L%p=0
  .exact e1
  .refine absurd ((FI d a e1).rows λi j hi _=>by rw[e i hi]) h
 by_cases e2:t=L
 .rw[e2];exact c
 .refine I κ (λj k=>?_) t om
  have:=a j k;rw[bQ] at this;have f:κ L*b L j%p=0:=by rw[Int.mul_emod,c,Int.zero_mul,Int.zero_emod]
  rw[Int.add_emod,f,Int.add_zero,zP] at this;rw[<-this];exact congrArg (· %p) (aU λq l=>by rw[e q l])
def rl (A:List (List Int))(l:List Nat):List (List Int):=l.map λi=>A.getD i []
theorem agW {A:List (List Int)}{l:List Nat}{t:Nat}(a:t<l.length):(rl A l).getD t []=A.getD (l.getD t 0) []:=by
 rw[rl,gV,Al,dJ a,gV (l:=l),dJ a]
 rfl
theorem IF {A:List (List Int)}{l:List Nat}{t:Nat}(a:t<l.length):vw (rl A l) t=vw A (l.getD t 0):=by
 funext j;rw[vw,agW a];rfl
structure Gy (p:Int)(n:Nat)(A:List (List Int))(i:Nat)(l:List Nat):Prop where
 ind:Zj p n l.length (vw (rl A l))
 sp: ∃S f,Sp p n n (vw (rl A l)) l.length S f l.length
 lt: ∀t,t<l.length->l.getD t 0<i
 inj: ∀s t,s<l.length->t<l.length->l.getD s 0=l.getD t 0->s=t
 all: ∀q,q<i->dQ p n l.length (vw (rl A l)) (vw A q)
 new: ∀t,t<l.length-> ¬dQ p n (l.getD t 0) (vw A) (vw A (l.getD t 0))
 old: ∀q,q<i->(∃t,t<l.length/\l.getD t 0=q)\/dQ p n q (vw A) (vw A q)
section
variable {p:Int} {n i:Nat} {A:List (List Int)} {l:List Nat}
theorem Gy.start (p:Int)(n:Nat)(A:List (List Int)):Gy p n A 0 [] where
 ind:=λ_ _ t a=>absurd a (Nat.not_lt_zero t)
 sp:=⟨λ_=>false,λ_ _=>0,Sp.start p n n _ _⟩
 lt:=λt a=>absurd a (Nat.not_lt_zero t)
 inj:=λt _ a=>absurd a (Nat.not_lt_zero t)
 all:=λt a=>absurd a (Nat.not_lt_zero t)
 new:=λt a=>absurd a (Nat.not_lt_zero t)
 old:=λt a=>absurd a (Nat.not_lt_zero t)
theorem Gy.back (g:Gy p n A i l){v:Nat->Int}(h:dQ p n l.length (vw (rl A l)) v):dQ p n i (vw A) v:=h.trans λt a=>by
 rw[IF a];exact dQ.row (g.lt t a)
theorem Gy.skip (g:Gy p n A i l)(h:dQ p n l.length (vw (rl A l)) (vw A i)):Gy p n A (i+1) l:=
 {g with
  lt:=λt a=>by have:=g.lt t a;omega
  all:=λq b=>by
   by_cases e:q=i
   .rw[e];exact h
   .exact g.all q om
  old:=λq b=>by
   by_cases e:q=i
   .rw[e];exact .inr (g.back h)
   .exact g.old q om}
theorem pL {l:List Nat}{i t:Nat}(a:t<l.length):(l++ [i]).getD t 0=l.getD t 0:=by
 rw[gV,Aw a,<-gV]
theorem qM {l:List Nat}{i:Nat}:(l++ [i]).getD l.length 0=i:=by
 rw[gV,Hs (dN _),Nat.sub_self];rfl
theorem Gy.take (o:cF p=true)(g:Gy p n A i l)(h: ¬dQ p n l.length (vw (rl A l)) (vw A i)){S:Nat->Bool}{f:Nat->Nat->Int}(s:Sp p n n (vw (rl A (l++ [i]))) (l.length+1) S f (l.length+1)):Gy p n A (i+1) (l++ [i]):=by
 have d:(l++ [i]).length=l.length+1:=siM
 have k: ∀t,t<l.length->vw (rl A (l++ [i])) t=vw (rl A l) t:=λt c=>by rw[IF om,IF c,pL c]
 have m:vw (rl A (l++ [i])) l.length=vw A i:=by rw[IF om,qM]
 have u: ∀v,dQ p n l.length (vw (rl A l)) v->dQ p n (l.length+1) (vw (rl A (l++ [i]))) v:=λv x=>x.trans λt c=>by rw[<-k t c];exact dQ.row om
 refine⟨by rw[d];exact Zj.more o g.ind k (by rw[m];exact h),⟨S,f,by rw[d];exact s⟩,λt c=>?_,λa b z y e=>?_,λq w=>?_,λt c=>?_,λq w=>?_⟩
 .by_cases e:t=l.length
  .rw[e,qM];omega
  .rw[pL om];have:=g.lt t om;omega
 .by_cases e1:a=l.length
  .by_cases e2:b=l.length
   .omega
   .rw[e1,qM,pL om] at e
    have:=g.lt b om;omega
  .by_cases e2:b=l.length
   .rw[e2,qM,pL om] at e
    have:=g.lt a om;omega
   .rw[pL om,pL om] at e
    exact g.inj a b om om e
 .rw[d]
  by_cases e:q=i
  .rw[e,<-m];exact dQ.row om
  .exact u _ (g.all q om)
 .by_cases e:t=l.length
  .rw[e,qM];intro q;exact h (q.trans g.all)
  .rw[pL om];exact g.new t om
 .by_cases e:q=i
  .exact .inl ⟨l.length,om,by rw[qM,e]⟩
  .rcases g.old q om with ⟨t,j,r⟩|j
   .exact .inl ⟨t,om,by rw[pL j];exact r⟩
   .exact .inr j
end
set_option maxRecDepth 100000
section
variable {p:Int} {n L:Nat} {U:Nat->Nat->Int}
theorem Zj.less (I:Zj p n (L+1) U):Zj p n L U:=λκ a t d=>by
 have:=I (λt=>if t<L then κ t else 0) (λj c=>by
  rw[bQ,aQ (Nat.lt_irrefl L),Int.zero_mul,Int.add_zero,<-a j c]
  exact congrArg (· %p) (aU λq b=>by rw[aS b])) t om
 rwa [aS d] at this
theorem Zj.sp (m:cF p=true):{L:Nat}->Zj p n L U-> ∃S f,Sp p n n U L S f L
 |0,_=>⟨λ_=>false,λ_ _=>0,Sp.start p n n _ _⟩
 |L+1,I=>by
  have l:=tL m;obtain⟨S,f,s⟩:=Zj.sp m I.less;obtain⟨u,r⟩:=exI (zW p S f (λj=>U L j%p) n)
  by_cases A: ∀j,j<n->u j=0
  .have o:=(Sp.zero om s (U L)).1 (by rw[r];exact A)
   have⟨c,P⟩:=o
   have:=I (λt=>if t=L then -1 else c t) (λj k=>by
    rw[bQ,aS rfl];have e1:sm L (λi=>(if i=L then -1 else c i)*U i j)=sm L (λi=>c i*U i j):=aU λi hi=>by rw[aQ om]
    rw[e1,Int.add_emod,<-P j k,<-Int.add_emod,show U L j+ -1*U L j=0 by omega,Int.zero_emod]) L om
   rw[aS rfl] at this
   have b:(-1:Int)%p=p- 1:=by
    rw[show (-1:Int)=(p- 1)+p*(-1) by omega,Int.add_mul_emod_self_left,Int.emod_eq_of_lt om om]
   omega
  .have w: ∃j,j<n/\u j≠0:=zL λh=>A λj k=>zL λb=>h ⟨j,k,b⟩
   have N: ∀j,j<n->0<=u j/\u j<p:=λj k=>by
    rw[<-r];exact qL om (bX _ om) n
   have a: ∀d,∀j,j<=d->j<n->u j≠0-> ∃q,q<n/\u q≠0/\ ∀i,i<q->u i=0:=by
    intro d
    induction d with
    |zero=>intro j G b v;exact⟨j,b,v,λi hi=>om⟩
    |succ d ih=>
     intro j G b v
     by_cases e: ∃i,i<j/\u i≠0
     .have⟨i,R,F⟩:=e
      exact ih i om om F
     .exact⟨j,b,v,λi hi=>zL λh=>e ⟨i,hi,h⟩⟩
   have⟨j,B,J⟩:=w;obtain⟨q,z,Q,K⟩:=a j j (dN _) B J;have y:=N q z;obtain⟨x,O⟩:=zG (d:=u q) m (by rw[Int.emod_eq_of_lt y.1 y.2];exact Q);exact⟨_,_,Sp.yes l s (dN n) r.symm z K om O rfl⟩
theorem Zj.le (a:cF p=true)(I:Zj p n L U):L<=n:=by
 obtain⟨S,f,s⟩:=I.sp a;rw[s.cn];exact Gv n S
structure Ew (p:Int)(n:Nat)(A:Nat->Nat->Int)(x:Int)(L:Nat)(U:Nat->Nat->Int)(ev:Nat->Int):Prop where
 ind:Zj p n L U
 rg: ∀t,t<L->0<=ev t/\ev t<x
 eg: ∀t,t<L-> ∀j,j<n->sm n (λi=>U t i*A i j)%p=ev t*U t j%p
theorem Ew.start (p:Int)(n:Nat)(A:Nat->Nat->Int)(x:Int):Ew p n A x 0 (λ_ _=>0) (λ_=>0):=
 ⟨λ_ _ t a=>absurd a (Nat.not_lt_zero t),λt a=>absurd a (Nat.not_lt_zero t),λt a=>absurd a (Nat.not_lt_zero t)⟩
theorem abR {a b:Int}(c:cF p=true)(h:a*b%p=0)(d:b%p≠0):a%p=0:=by
 obtain⟨y,f⟩:=zG c d;have e:(a*b*y)%p=0:=by rw[Int.mul_emod,h,Int.zero_mul,Int.zero_emod]
 have e2:(a*b*y)%p=a%p:=by
  rw[show a*b*y=a*(y*b) by grind,Int.mul_emod,f,Int.mul_one,zP]
 rw[<-e2];exact e
theorem Ew.more (u:cF p=true){r:Nat}{A W:Nat->Nat->Int}{a:Nat->Int}{x:Int}(e:Ew p n A x L U a)(O:x<p)(I:Zj p n r W)(w: ∀s,s<r-> ∀j,j<n->sm n (λi=>W s i*A i j)%p=x*W s j%p)(K:0<=x):
  Ew p n A (x+1) (L+r) (λt=>if t<L then U t else W (t-L)) (λt=>if t<L then a t else x):=by
 have y:=tL u
 refine⟨λκ o=>?_,λt d=>?_,λt d j b=>?_⟩
 .have split: ∀j,j<n->(sm L (λt=>κ t*U t j)+sm r (λs=>κ (L+s)*W s j))%p=0:=λj b=>by
   rw[<-o j b,yG];congr 2
   .exact aU λt d=>by rw[aS d]
   .exact aU λs v=>by rw[aQ om,Nat.add_sub_cancel_left]
  have push:(q:Nat)->(V:Nat->Nat->Int)->(c:Nat->Int)->(j:Nat)->sm n (λi=>sm q (λt=>c t*V t i)*A i j)=sm q (λt=>c t*sm n (λi=>V t i*A i j)):=λq V c j=>by
   have e1: ∀i,i<n->sm q (λt=>c t*V t i)*A i j=sm q (λt=>c t*(V t i*A i j)):=λi _=>by
    rw[<-mY];exact aU λt _=>by rw[Int.mul_assoc]
   rw[aU e1,mI];exact aU λt _=>fV n (c t) _
  have two: ∀j,j<n->(sm L (λt=>κ t*(a t*U t j))+sm r (λs=>κ (L+s)*(x*W s j)))%p=0:=λj b=>by
   have z:sm n (λi=>(sm L (λt=>κ t*U t i)+sm r (λs=>κ (L+s)*W s i))*A i j)%p=0:=
    smod_zero λi hi=>by rw[Int.mul_emod,split i hi,Int.zero_mul,Int.zero_emod]
   have e1:sm n (λi=>(sm L (λt=>κ t*U t i)+sm r (λs=>κ (L+s)*W s i))*A i j)=sm n (λi=>sm L (λt=>κ t*U t i)*A i j)+sm n (λi=>sm r (λs=>κ (L+s)*W s i)*A i j):=by
    rw[<-tH];exact aU λi _=>Int.add_mul ..
   rw[e1,push,push] at z;rw[<-z];refine Ai (dM λt d=>mul_mod rfl (e.eg t d j b).symm) (dM λs v=>mul_mod rfl (w s v j b).symm)
  have f: ∀j,j<n->sm L (λt=>(κ t*(a t-x))*U t j)%p=0:=λj b=>by
   have m:=split j b;have J:=two j b
   have e1:sm L (λt=>(κ t*(a t-x))*U t j)=(sm L (λt=>κ t*(a t*U t j))+sm r (λs=>κ (L+s)*(x*W s j)))-x*(sm L (λt=>κ t*U t j)+sm r (λs=>κ (L+s)*W s j)):=by
    rw[Int.mul_add,<-fV,<-fV]
    have B:sm L (λt=>(κ t*(a t-x))*U t j)=sm L (λt=>κ t*(a t*U t j))-sm L (λk=>x*(κ k*U k j)):=by
     rw[<-xS];exact aU λt _=>by grind
    have F:sm r (λs=>κ (L+s)*(x*W s j))=sm r (λk=>x*(κ (L+k)*W k j)):=aU λs _=>by grind
    rw[B,F];omega
   rw[e1,Int.sub_emod,J,Int.mul_emod,m,Int.mul_zero,Int.zero_emod,Int.sub_zero,Int.zero_emod]
  have zero: ∀t,t<L->κ t%p=0:=λt d=>by
   have q:=e.rg t d;refine abR u (e.ind _ f t d) ?_;intro N
   have:(a t-x)%p=a t-x+p:=by
    rw[show a t-x=(a t-x+p)+p*(-1) by omega,Int.add_mul_emod_self_left,Int.emod_eq_of_lt om om];omega
   omega
  have l: ∀s,s<r->κ (L+s)%p=0:=I _ λj b=>by
   have m:=split j b;have G:sm L (λt=>κ t*U t j)%p=0:=smod_zero λt d=>by rw[Int.mul_emod,zero t d,Int.zero_mul,Int.zero_emod]
   rw[Int.add_emod,G,Int.zero_add,zP] at m;exact m
  intro t d
  by_cases h:t<L
  .exact zero t h
  .have:=l (t-L) om
   rwa [show L+(t-L)=t by omega] at this
 .by_cases h:t<L
  .rw[aS h];have:=e.rg t h;omega
  .rw[aQ h];omega
 .by_cases h:t<L
  .simp only[aS h];exact e.eg t h j b
  .simp only[aQ h];exact w _ om j b
theorem FB (p x:Int)(c:List Int): ∀s,s<=c.length->Iy p x c s%p=sm s (λi=>c.getD (c.length-s+i) 0*x^i)%p
 |0,_=>rfl
 |s+1,h=>by
  rw[Iy,zP,Dy];have a:=FB p x c s om
  have e1:sm s (λk=>c.getD (c.length-(s+1)+(k+1)) 0*x^(k+1))=sm s (λi=>c.getD (c.length-s+i) 0*x^i)*x:=by
   rw[<-mY];exact aU λk b=>by rw[show c.length-(s+1)+(k+1)=c.length-s+k by omega,Int.pow_succ,Int.mul_assoc]
  rw[e1,Nat.add_zero,Int.pow_zero,Int.mul_one,Int.add_comm (c.getD _ 0)];exact Ai (mul_mod a rfl) rfl
theorem PY {x:Int}(a:0<p){A:Mx}:(Iy p x (eN (n+1) λq=>lT n A q%p) (n+1)=0)↔iE n (wQ A x)%p=0:=by
 have r:=Qw a x (eN (n+1) λq=>lT n A q%p) (n+1);have e:=FB p x (eN (n+1) λq=>lT n A q%p) (n+1) (by rw[aW];exact dN _);rw[Int.emod_eq_of_lt r.1 r.2] at e;rw[e,sI,rZ]
 have e2:sm (n+1) (λi=>(eN (n+1) λq=>lT n A q%p).getD ((eN (n+1) λq=>lT n A q%p).length-(n+1)+i) 0*x^i)%p=sm (n+1) (λk=>lT n A k*x^k)%p:=by
  refine dM λi hi=>?_
  rw[aW,Nat.sub_self,Nat.zero_add,cZ _ hi];exact mul_mod (zP _ _) rfl
 rw[e2]
theorem Zj.pv {a:List (List Int)}{P:Nat->Nat}{g:Nat->Nat->Int}(v:Pv p n a P g)(d: ∀t,t<a.length->P t<n):Zj p n a.length (vw a):=λκ b t c=>by
 rw[<-Pv.at_ v κ c];exact b _ (d t c)
end
set_option maxRecDepth 100000
set_option maxRecDepth 100000
theorem VU (va:V)(a:uQ)(x:Int)(h:H)(ha:Jy h va a)(la:(a.2.length:Int)<=2^63- 1)(a8:iO a=0)(c5:(a.2.getD 0 []).length=a.2.length):Ev T 46 [va,aC x] h (λw h'=> ∃u S f,w= .tup [u,aC 0]/\Sk a.1 a.2.length a.2.length (a.2.length+a.2.length) (vw (egL a.1 x a.2.length a.2)) S f a.2.length/\Tw h' u (Mu a.2.length a.2.length S f (a.2.length+a.2.length)) h.next/\Fr h h'):=by
 obtain⟨y,rfl,a0⟩:=ha;have wa:=SV.cT a0.choose_spec.1;refine pM (oS h (v:= aC a.1) rfl wa.2.1) ?_;have b2:Fr h (h.new (.cells false [aC a.1,y])):=(Fr.refl h).new _;have O:(h.new (.cells false [aC a.1,y])).get h.next=some (.cells false [aC a.1,y]):=H.aI ..;have c7:(h.new (.cells false [aC a.1,y])).next=h.next+1:=H.aM ..
 generalize h.new (.cells false [aC a.1,y])=h1 at*;obtain⟨X,hX⟩:=exI h.next;rw[hX] at O;rw[hX];refine bM (jH O) ?_;refine (Bq _ a h1 ⟨y,rfl,a0.mono b2⟩ la).mono ?_;rintro w d ⟨rfl,f2⟩;have F2:=b2.trans f2;refine aT ?_;refine bV (λhz=>absurd a8 hz) (λ_=>?_);have hz:=a8;have L:=yL hz;have hp:=jB L.p;have hP:cF a.1=true:=by have:=L.p;simp only[fD,oD] at this;exact this.2
 have b7:=tL hP;have r1:=L.r1;have r2:=L.r2;have c1:=L.c1;have c2:=L.c2;have gX:=(f2.get X om).trans O;have x0:d.cell X 0=some (aC a.1):=by rw[H.cell_of gX];rfl
 have x1:d.cell X 1=some y:=by rw[H.cell_of gX];rfl
 obtain⟨P,z,b0,sa,l,Q,t,c⟩:=(a0.mono F2).open;have c0:=t 0 r1;rw[Nat.add_zero] at c0;have l0:=(Mz c (i:=0) r1).lens;have n2:=f2.next;have i0:Ci 1 y (aC 0)=some (.ptr P z):=by rw[sa.ixa .i64 0 om om];rfl
 refine wE x0 x1 @sa.lens i0 c0 l0 ?_;have fb:Fr d (H.mk d.tr (d.next+10)):=(Fr.refl d).cU om;refine bV (λa4=>absurd om a4) (λa4=>?_);obtain⟨n,hn⟩:=exI a.2.length;have a6:(a.2.getD 0 []).length=n:=om
 obtain⟨p,a9⟩:=exI a.1;obtain⟨A,hA⟩:=exI a.2;have J:=L.lo;have B:=L.hi;have o:=L.row;rw[a9] at hp hP b7 x0 B;rw[hA] at hn J B o sa l Q t c r1 r2;rw[hA] at a6;rw[a6] at J B o;rw[hn] at sa l Q t J B o r1 r2;rw[a9,hA,hn]
 replace F2:=F2.trans fb
 replace x0:(H.mk d.tr (d.next+10)).cell X 0=some (aC p):=x0
 replace x1:(H.mk d.tr (d.next+10)).cell X 1=some y:=x1
 replace t: ∀i,i<n->(H.mk d.tr (d.next+10)).cell P (z+i)=some (b0.getD i .undef):=t
 replace c:=c.mono λ_ _ r=>SI.mono r fb
 have lX:X<(H.mk d.tr (d.next+10)).next:=by show X<d.next+10;omega
 replace l:0<n->P<(H.mk d.tr (d.next+10)).next:=λq=>iD (l q) fb.next
 clear gX c0 i0 O f2 fb;generalize H.mk d.tr (d.next+10)=m at*
 have c4:sD m 1 24 [.aH] (aC n) (aC n)=some (.sl m.next 0 n (.kn n),m.new (.cells false (List.replicate n .aH))):=by
  rw[iH om (Int.le_refl _) om om,Mc,jP];congr 4;refine List.ext_getElem (by simp [cJ]) λi _ _=>?_
  simp [cJ,Nat.mod_one]
 refine jX x0 x1 @sa.lens c4 ?_;obtain⟨R,hR⟩:=exI m.next;have a2:Fr m (m.new (.cells false (List.replicate n .aH))):=(Fr.refl m).new _;have a1:(m.new (.cells false (List.replicate n .aH))).get m.next=some (.cells false (List.replicate n .aH)):=H.aI ..;have b6:(m.new (.cells false (List.replicate n .aH))).next=m.next+1:=H.aM ..
 generalize m.new (.cells false (List.replicate n .aH))=h4 at*;rw[hR] at a1;rw[hR];have b1:h4.cell X 1=some y:=by rw[a2.cell lX];exact x1
 try simp(disch:=omega)only[go_sem,b1,sa.lens]
 obtain⟨E,hE⟩: ∃E:Nat->Nat->Int,(λi j=>if j=i then kH A i i-x.tmod p else kH A i j)=E:=⟨_,rfl⟩
 refine aP (λk' U W=> ∃(i:Nat) (ρ:Nat->Nat),(∃g:Nat->V,U= [g 0,aC x,.ptr X 0,g 3,g 4,g 5,.sl R 0 n (.kn n),g 7,g 8,g 9,g 10,y,aC n,aC i,g 14])/\i<=n/\Gp W R n n i ρ E m.next/\Fr m W/\k'=n-i) n
  ⟨0,_,aD rfl,fY _,Gp.zero a1 om om,a2,rfl⟩ ?_
 clear a1 b1 a2 b6;rintro k' U W ⟨i,ρ,⟨jk,rfl⟩,hi,G,F,rfl⟩;refine aT ?_
 by_cases a7:(i:Int)<(n:Int)
 .rw[cV a7]
  have b:i<n:=om
  have ci:W.cell P (z+i)=some (b0.getD i .undef):=by rw[F.cell (l om)];exact t i b
  have ri:=(Mz c (i:=i) om).mono F;have b8:A.getD i []=eN n (kH A i):=tE (o i b) λk _=>rfl
  rw[b8] at ri;refine eZ @sa.ixa ci ?_;refine (rW _ _ W ri (by rw[aW];omega)).mono ?_;rintro v h5 ⟨_,f5,b3⟩;obtain⟨N,rfl,i1,i2,i3⟩:=b3 (by rw[aW];omega);rw[aW];have G0:Gp W R n n i ρ (λj=>if j=i then kH A i else E j) m.next:=G.congr λj k hj hk=>by rw[aQ om]
  obtain⟨pt,G5⟩:=G0.step b f5 i1 i2 (by rw[aS rfl];exact i3);refine bM pt ?_;have a3:=G5.gR;have rN:=G5.row i om;have Z:Ef ρ i N i=N:=by simp [Ef]
  rw[Z,aS rfl] at rN;have c6:=G5.hR;have f6:Fr m (h5.set R (some (.cells false (((List.range n).map λj=>if j<i then V.sl (ρ j) 0 n (.un 1) else .aH).set i (.sl N 0 n (.un 1)))))):=(F.trans f5).set om _;obtain⟨Y,K⟩:=exI (h5.set R (some (.cells false (((List.range n).map λj=>if j<i then V.sl (ρ j) 0 n (.un 1) else .aH).set i (.sl N 0 n (.un 1))))));rw[K] at G5 a3 rN f6;rw[K];have n6:Y.next=h5.next:=by rw[<-K];rfl
  have cR:Y.cell R i=some (.sl N 0 n (.un 1)):=by
   rw[H.cell_of a3,Al,List.getElem?_range b,Option.map_some,aS om,Z]
  have bN:Bk Y N n (kH A i):=rN;have cN:=bN.cell b;have b9:Y.cell X 0=some (aC p):=by rw[f6.cell lX];exact x0
  have lo:=J i i b b;have c8:=B i i b b;have tb:=zC x (show 0<p by omega);have b4:=bN.put b (H.mk Y.tr (h5.next+14)) (kH A i i-x.tmod p);have cL:((List.map (λj=>if j<i then V.sl (ρ j) 0 n (.un 1) else V.aH) (List.range n)).set i (V.sl N 0 n (.un 1)))[i]? =some (V.sl N 0 n (.un 1)):=List.getElem?_set_self (by simpa using b)
  have c3: ∀kk:IntKind,Ci 1 (V.sl R 0 n (.kn n)) (.int kk (i:Int))=some (.ptr R i):=λkk=>by
   rw[lJ om om];simp
  clear K;simp(disch:=omega)only[go_sem,c3,cL,cR,cN,b9,b4];have a5:Fr Y (H.mk Y.tr (h5.next+14)):=(Fr.refl Y).cU om;have G7:=(G5.fr a5).edit (j:=i) om (λj=>if j=i then kH A i i-x.tmod p else kH A i j);rw[Z] at G7;rw[fJ i];refine⟨n-(i+1),om,i+1,_,aD rfl,om,G7.congr λj k hj hk=>?_,(f6.trans a5).set (by have:=F.next;omega) _,rfl⟩
  by_cases e:j=i
  .rw[aS e,e,<-hE]
  .rw[aQ e,aQ e]
 rw[bZ a7];obtain rfl:i=n:=om
 have b5:W.cell X 0=some (aC p):=by rw[F.cell lX];exact x0
 have sl:dD (V.sl R 0 i (.kn i))=some (aC i):=rfl;refine eZ b5 sl ?_;refine (Qo p i (.sl R 0 i (.kn i)) (kM i i E) W (G.done.sr _) (by rw[dC];omega) om om (λq hq=>by rw[dC] at hq;rw[jT _ hq,aW]) hP hp.2).mono ?_;rintro w h9 ⟨k,S,f,rfl,s,sr,f9⟩;refine aT ?_;rw[dC] at s sr;refine⟨_,S,f,rfl,?_,sr.le (by have:=(F2.trans F).next;omega),(F2.trans F).trans f9⟩;refine Sp.same s (dN _) λq j hq hj=>?_
 rw[Ah hq hj,Ah hq hj,Me,Me]
 by_cases e:j<i
 .rw[aS e,aS e,Ah hq e,XU hq e,zP,<-hE]
  by_cases e2:j=q
  .simp only[aS e2];rw[e2]
   exact xY rfl (JY x om)
  .simp only[aQ e2,Int.sub_zero]
 .rw[aQ e,aQ e]
section
variable {p:Int} {r:Nat} {c:Nat->Nat->Nat->Int} {w co:Nat->Nat->Int} {A B:Nat->Bool} {l:List (List Int)} {S:Nat->Bool} {f:Nat->Nat->Int}
theorem alE (v:Nat->Int):dQ p r (pU r r S f).length (vw (pU r r S f)) v↔dQ p r r (gf S f) v:=by
 constructor
 .intro h
  refine h.trans λi hi=>?_
  obtain⟨m,d,n⟩:=Gj hi;refine (IS m d).congr λj a=>?_
  rw[vw,n,cZ _ a]
 .intro h
  refine h.trans λk b=>?_
  cases hs:S k with
  |false=>exact dQ.zero.congr λj _=>by rw[oJ hs]
  |true=>
   obtain⟨i,hi,e⟩:=HV (f:=f) b hs;refine (dQ.row (V:=vw (pU r r S f)) hi).congr λj a=>?_
   rw[kB hs,vw,e,cZ _ a]
structure DX (p:Int)(r:Nat)(w co:Nat->Nat->Int)(A:Nat->Bool)(l:List (List Int)):Prop where
 mem: ∀v,dQ p r l.length (vw l) v↔SpA p r co A v
 row: ∀i,i<l.length->(l.getD i []).length=r
 len:l.length<=r
 one: ∀a,a<r->(∀b,b<r->(A b=true↔b=a))->l= [eN r (w a)]
 two:l.length=1-> ∀a b,a<r->b<r->A a=true->A b=true->a=b
 some: ∀a,a<r->A a=true->l≠ []
 none:(∀b,b<r->A b=false)->l= []
 dim:(r:Int)<p->l.length=xU r A
theorem DX.of (C:wJ p r c w co)(s:MS p r co A S f):DX p r w co A (pU r r S f) where
 dim h:=by rw[oV];exact s.dim C h
 mem v:=(alE v).trans (s.mem v)
 row i hi:=by rw[(Gj hi).2.2,aW]
 len:=by rw[oV];exact Gv r S
 one a ha hA:=by
  obtain⟨n,u⟩:=s.one C ha hA;have F:0<r:=om
  have e1:pU r r S f=pU r r (λk=>decide (k=0)) λ_=>w a:=LU n λk j d o q=>by
   rw[n k d] at o;rw[of_decide_eq_true o];exact u j q
  rw[e1]
  have y:(pU r r (λk=>decide (k=0)) λ_=>w a).length=1:=by
   rw[oV]
   have:(List.range r).filter (λk=>decide (k=0))= [0]:=by
    obtain⟨m,rfl⟩: ∃m,r=m+1:=⟨r- 1,om⟩
    rw[List.range_succ_eq_map,List.filter_cons];simp
   unfold xU;rw[this];rfl
  have h:=Gj (f:=λ_=>w a) (show 0<(pU r r (λk=>decide (k=0)) λ_=>w a).length by omega);obtain⟨z,t⟩:=List.length_eq_one_iff.1 y;rw[t];have:=h.2.2;rw[t] at this;rw[<-this];rfl
 two n a b ha hb hA hB:=by
  rw[oV] at n;unfold xU at n;obtain⟨k,d⟩:=List.length_eq_one_iff.1 n
  have m: ∀j,j<r->(S j=true↔j=k):=λj q=>by
   have:j∈(List.range r).filter S↔j=k:=by rw[d];exact List.mem_singleton
   rw[Gh,mS] at this;exact⟨λh=>this.1 ⟨q,h⟩,λh=>(this.2 h).2⟩
  have x:k<r:=by
   have:k∈(List.range r).filter S:=by rw[d];exact List.mem_singleton.2 rfl
   exact mS.1 (Gh.1 this).1
  exact s.two C m x ha hb hA hB
 some a ha hA h:=by
  obtain⟨k,d,o⟩:=s.some C ha hA;obtain⟨i,hi,_⟩:=HV (f:=f) d o;rw[h] at hi;exact absurd hi siM
 none hA:=by
  refine Zs ?_;rw[oV];unfold xU;rw[List.length_eq_zero_iff,List.filter_eq_nil_iff];intro k d h;rw[s.none C hA (mS.1 d)] at h;cases h
theorem DX.all (C:wJ p r c w co)(n:0<r):DX p r w co (λ_=>true) (kM r r λi j=>if j=i then 1 else 0) where
 dim _:=by rw[dC,xU,List.filter_eq_self.2 λ_ _=>rfl,gT]
 mem v:=⟨λ_ a _ h=>(by cases h),λ_=>⟨v,λj d=>by
  rw[dC,iP (t:=j) d λk o m=>by rw[Ah o d,aQ λh=>m h.symm,Int.mul_zero],Ah d d,aS rfl,Int.mul_one]⟩⟩
 row i hi:=by rw[dC] at hi;rw[jT _ hi,aW]
 len:=by rw[dC];exact dN r
 one a ha hA:=by
  have q:r=1:=by
   have s:=(hA 0 n).1 rfl;rcases Nat.lt_or_ge 1 r with h|h
   .have:=(hA 1 h).1 rfl
    omega
   .omega
  subst q;obtain rfl:a=0:=om
  have:=C.one 0 om;simp [kM,eN,this]
 two h a b ha hb _ _:=by rw[dC] at h;omega
 some a ha _ h:=by
  have:=congrArg List.length h;rw[dC] at this;simp at this;omega
 none h:=absurd (h 0 n) siM
theorem ajL (C:wJ p r c w co){i:Nat}(hi:i<r)(x:Int){M:List (List Int)}(u:M.length=r)(o: ∀k j,k<r->j<r->kH M k j%p=c i j k%p)(s:Sk p r r (r+r) (vw (egL p x r M)) S f r):
  MS p r co (λa=>decide ((w a i-x)%p=0)) (kS r S) (kf r f) where
 re:=Re.ker rfl s.re
 mem v:=by
  rw[<-C.amV hi x v]
  have n: ∀j,j<r->sm r (λk=>v k*vw (egL p x r M) k j)%p=(sm r (λk=>v k*c i j k)-x*v j)%p:=λj b=>by
   rw[dM (g:=λk=>v k*c i j k-if k=j then x*v j else 0) λk m=>?_,xS,nE b λ_=>x*v j];rw[XU m b,mul_mod rfl (zP p _)]
   by_cases e:j=k
   .subst e
    rw[aS rfl,aS rfl,Int.mul_sub,Int.mul_comm x];exact xY (mul_mod rfl (o j j m m)) rfl
   .rw[aQ e,aQ λh=>e h.symm,Int.sub_zero,Int.sub_zero]
    exact mul_mod rfl (o k j m b)
  constructor
  .rintro⟨d,hd⟩ j b
   refine sub_zero ?_;rw[<-n j b,dM (g:=λk=>sm r (λt=>d t*gf (kS r S) (kf r f) t k)*vw (egL p x r M) k j) λk m=>mul_mod (hd k m) rfl,aU (g:=λk=>sm r λt=>d t*(gf (kS r S) (kf r f) t k*vw (egL p x r M) k j)) λk _=>by rw[<-mY];exact aU λt _=>Int.mul_assoc ..,mI];refine smod_zero λt q=>?_
   rw[fV]
   cases hs:kS r S t with
   |false=>rw[fI λk _=>by rw[oJ hs,Int.zero_mul],Int.mul_zero,Int.zero_emod]
   |true=>
    rw[aU (g:=λk=>kf r f t k*vw (egL p x r M) k j) λk _=>by rw[kB hs],mul_mod rfl ((Sk.zero rfl s q hs b).trans (Int.zero_emod p).symm),Int.mul_zero,Int.zero_emod]
  .intro h
   refine⟨v,λk m=>?_⟩
   exact Sk.all rfl s (λj b=>by
    rw[n j b]
    exact Int.emod_eq_emod_iff_emod_sub_eq_zero.1 (h j b)) k m
theorem TT (C:wJ p r c w co){l m first d K:List (List Int)}{y o z:Nat->Bool}{x u t:Nat->Nat->Int}{k1 k2 k:Nat}(a:DX p r w co A l)(b:DX p r w co B m)(G:Sp p r r (vw l) l.length y x k1)(L:Sp p r r (vw m) m.length o u k2)(n:first=pU r r y x)(j:d=pU r r o u)
  (J:Sk p r (first++d).length (r+(first++d).length) (vw (first++d)) z t (first++d).length) (O:K=Mu r (first++d).length z t (r+(first++d).length)) (s:Sp p r r (vw (Rc p r first K)) K.length S f k):MS p r co (λq=>A q&&B q) S f where
 re:=s.re
 mem v:=by
  obtain⟨N,F,_⟩:=YE C.p1 G L n j J O;rw[SpA.and,<-a.mem,<-b.mem,<-s.mem];exact⟨λh=>⟨h.trans λi hi=>(F i hi).1,h.trans λi hi=>(F i hi).2⟩,λh=>N v h.1 h.2⟩
end
theorem QN {p:Int}{r:Nat}{B:Mx}{v:Nat->Int}(a:0<r)(f:v 0=1)(h: ∀j,j<r->sm r (λk=>v k*B k j)%p=0):iE r B%p=0:=by
 obtain⟨m,rfl⟩: ∃m,r=m+1:=⟨r- 1,om⟩
 have e:sm (m+1) (λk=>v k*mulM (m+1) B (Ic m B) k 0)=iE (m+1) B:=by
  rw[iP (t:=0) a λk c b=>by rw[Eb B c a,aQ b,Int.mul_zero],Eb B a a,aS rfl,f,Int.one_mul]
 rw[<-e];unfold mulM;rw[aU (g:=λk=>sm (m+1) λj=>v k*B k j*Ic m B j 0) λk _=>by rw[<-fV];exact aU λj _=>(Int.mul_assoc ..).symm,mI];refine smod_zero λj d=>?_
 rw[mY,mul_mod ((h j d).trans (Int.zero_emod p).symm) rfl,Int.zero_mul,Int.zero_emod]
section
variable {p:Int} {r:Nat} {c:Nat->Nat->Nat->Int} {w co:Nat->Nat->Int}
theorem acS {M:List (List Int)}(d:Vd (p,M) r)(b:M.length=r)(i:(M.getD 0 []).length=r):vQ (p,M)=(AW p (eN (r+1) λq=>lT r (kH M) q%p) p.toNat,0):=by
 have h:iO (p,M)=0:=yJ d
 have a:CR (p,M)=0:=by
  unfold CR;rw[aQ (by simp [h]),aQ (by show ¬M.length≠(M.getD 0 []).length;omega)]
 have f:nH (p,M)=(eN (r+1) (λq=>lT r (kH M) q%p),0):=by
  rw[nH,aQ (by simp [a])];show (eN (M.length+1) (λq=>lT M.length (kH M) q%p),(0:Int))=_;rw[b]
 rw[vQ,f,aQ siM]
theorem KZ (p:Int)(C:List Int)(n:Nat):(AW p C n).Nodup:=by
 unfold AW;rw[Ow,List.pairwise_map];exact ((Ow.1 List.nodup_range).sublist List.filter_sublist).imp λh e=>h om
theorem aeA {p:Int}{C:List Int}{n:Nat}{x:Int}(h:x∈AW p C n):0<=x/\x<n:=by
 obtain⟨y,a,rfl⟩:=oG.1 h;have:=mS.1 (Gh.1 a).1;omega
theorem ahX (C:wJ p r c w co){i:Nat}(hi:i<r){M:List (List Int)}(l: ∀k j,k<r->j<r->kH M k j%p=c i j k%p){a:Nat}(d:a<r):w a i∈AW p (eN (r+1) λq=>lT r (kH M) q%p) p.toNat:=by
 have n:=C.rng a i d hi;have m:=C.p1;unfold AW;refine oG.2 ⟨(w a i).toNat,Gh.2 ⟨mS.2 om,?_⟩,om⟩;rw[xF,aW,show (((w a i).toNat:Nat):Int)=w a i by omega,PY om];refine QN (v:=w a) om (C.one a d) λj b=>?_
 have e:sm r (λk=>w a k*wQ (kH M) (w a i) k j)%p=(w a i*w a j-sm r (λk=>w a k*c i j k))%p:=by
  rw[dM (g:=λk=>(if k=j then w a i*w a j else 0)-w a k*c i j k) λk f=>?_,xS,nE b λ_=>w a i*w a j];unfold wQ;rw[Int.mul_sub];refine xY ?_ (mul_mod rfl (l k j f b))
  by_cases h:k=j
  .rw[aS h,aS h,h,Int.mul_comm]
  .rw[aQ h,aQ h,Int.mul_zero]
 rw[e,xY rfl (C.mul a i j d hi b),Int.sub_self,Int.zero_emod]
end
end Go.Proofs.YtoighkablmjfeaaGreat.Ln
namespace Go.Proofs.YtoighkablmjfeaaGreat
open Go Go.Ay Go.Pm
set_option maxHeartbeats 16000000
theorem aaJ {W:Nat->Prop}(f:V)(l:List (List Int))(h:H)(s:Xh W h f l)(t:l.length<1000000):
  Ev T 122 [f] h (λv h'=>h'=h/\(l.length≠1/\v= .tup [.aH,.bool false]\/ ∃x vx,l= [x]/\v= .tup [vx,.bool true]/\SI h vx x/\vI W vx)):=by
 refine mV ?_
 have j:=s.sr.lens
 obtain⟨q,sv,u,d⟩:=s
 have a:=bH.length d
 by_cases k:l.length=1
 .obtain⟨x,rfl⟩:=List.length_eq_one_iff.1 k
  obtain⟨id,b,n,o,r⟩:=SV.shape sv 1 (by rw[a];rfl) om
  have c:=r 0 (by rw[a];exact Nat.zero_lt_one)
  obtain⟨w,rfl⟩:=List.length_eq_one_iff.1 (show q.length=1 by rw[a];rfl)
  rw[Nat.add_zero] at c
  replace c:h.cell id b=some w:=c
  have i:decide (((1:Nat):Int)≠1)=false:=rfl
  have m:Ci 1 f (aC 0)=some (.ptr id b):=by rw[n.ixa .i64 0 om om];rfl
  refine nW @aV j i m c ?_
  exact .inr ⟨x,w,rfl,rfl,d.1.1,d.1.2⟩
 .have i:decide ((l.length:Int)≠1)=true:=cV om
  refine iG @aV j i ?_
  exact .inl ⟨k,trivial⟩
theorem ZO {W:Nat->Prop}{h:H}{v:V}{a:List (List Int)}{f:Nat}(s:Ln.Tw h v a f)(r: ∀q,W q->q<f):Xh W h v a:=by
 obtain⟨i,sv,d,j,k⟩:=s
 have b: ∀w:V,zQ w f->vI W w:=λw m=>by
  cases w with
  |sl id o n c=>exact λe=>by have:=r id e;have:=m id o n c rfl;omega
  |_=>trivial
 refine⟨i,sv,b v j,?_⟩;clear sv j
 induction i generalizing a with
 |nil=>cases a with
  |nil=>trivial
  |cons _ _=>exact d.elim
 |cons w i ih=>cases a with
  |nil=>exact d.elim
  |cons l a=>exact⟨⟨d.1,b w (k w wI)⟩,ih d.2 λx t=>k x (wH _ t)⟩
section
variable {p:Int} {r:Nat} {c:Nat->Nat->Nat->Int} {w co:Nat->Nat->Int} {A B:Nat->Bool} {l m:List (List Int)}
theorem JG (C:wJ p r c w co)(hp:fD p=true)(Z:0<r)(z:r<=64)(a:Ln.DX p r w co A l)(b:Ln.DX p r w co B m)(i F:V)(h:H)(sl:SR h i l)(sm:SR h F m):
  Ev T 124 [.agg [i,aC p,aC r],F] h (λv h'=> ∃u q,v= .agg [u,aC p,aC r]/\u.cells= [u]/\u.one=true/\Ln.DX p r w co (λq=>A q&&B q) q/\Ln.Tw h' u q h.next/\Fr h h'):=by
 refine mV ?_
 have la:=a.len
 have lb:=b.len
 have W:=SV.cT sl.choose_spec.1
 obtain⟨I,P⟩:=exI h.next
 obtain⟨h1,e1,R,g1,o1,Y⟩:=iI P [i,aC p,aC r]
 obtain⟨O,e2,n2,g2,o2,f2⟩:=iI R [.aH,aC 0,aC 0]
 have d:=Y.trans f2
 have n:O.get I=cE [i,aC p,aC r]:=by rw[o2 I om];exact g1
 simp(disch:=omega)only[go_sem,aV,dH h (v:=i) (u:= aC p) (w:= aC r) W.2.1 rfl rfl,P,e1,R,e2,H.cell_of n]
 refine (Ln.aaM p r i F l m O (sl.mono d) (sm.mono d) om om (Ln.amF hp Z z _ λx G=>?_)).mono ?_
 .rcases Hu.1 G with rfl|G
  .exact⟨om,a.row⟩
  .rw[List.mem_singleton.1 G];exact⟨om,b.row⟩
 rintro _ t ⟨u,S1,a0,k1,S2,a1,k2,Sk,fk,S,f,k,first,o,Kr,rfl,s1,s2,J,K,U,hK,s,hk,sr,y⟩
 have sp:=Ln.DX.of C (Ln.TT C a b s1 s2 J K U hK s)
 have F3:=d.trans y
 have g3:t.get I=cE [i,aC p,aC r]:=by rw[y.get I om];exact n
 have N:t.get (I+1)=cE [.aH,aC 0,aC 0]:=by rw[y.get _ om];exact g2
 have j:=SV.cT sr.sr.choose_spec.1
 obtain⟨h4,e4,n4,g4,Q⟩:=xN t (I+1) [u,aC p,aC r]
 have bl:mP [.aH,aC 0,aC 0] [(0,1,u),(1,1,aC p),(2,1,aC r)]=some (.agg [u,aC p,aC r]):=by
  simp [mP,fP,putAt,j.1,j.2.1,show ∀k a,(V.int k a).cells= [V.int k a] from λ_ _=>rfl,show ∀k a,(V.int k a).one=true from λ_ _=>rfl]
 simp(disch:=omega)only[go_sem,H.cell_of g3,bl,lY t (I+1) 0 (v:=u) (u:= aC p) (w:= aC r) j.2.1 rfl rfl,N,jE,e4,bU g4]
 have n3:=y.next
 refine⟨u,_,rfl,j.1,j.2.1,sp,?_,⟨om,λq L=>by rw[Q q om];exact F3.get q L⟩⟩
 exact (sr.fx (x:=I+1) om ⟨om,λq _ L=>Q q L⟩).le om
theorem ahM (C:wJ p r c w co)(z:fD p=true)(L:0<r)(G:r<=64){i:Nat}(hi:i<r){M:List (List Int)}(o:M.length=r)(t: ∀k,k<M.length->(M.getD k []).length=r)(n: ∀k j,k<r->j<r->Ln.kH M k j=c i j k%p)(x:Int)(u:V)(h:H)(s:SR h u M):
  Ev T 46 [.agg [aC p,u],aC x] h (λv h'=> ∃vu q,v= .tup [vu,aC 0]/\Ln.DX p r w co (λa=>decide ((w a i-x)%p=0)) q/\Ln.Tw h' vu q h.next/\Fr h h'):=by
 have K:=C.p1
 have J:(M.getD 0 []).length=r:=t 0 om
 have F:Ln.Vd (p,M) r:=⟨z,by show 1<=M.length;omega,by show M.length<=64;omega,om,om,t,λk j b d=>by
  have b:k<M.length:=b;show 0<=Ln.kH M k j;rw[n k j om d]
  exact Int.emod_nonneg _ om,λk j b d=>by
  have b:k<M.length:=b;show Ln.kH M k j<p;rw[n k j om d]
  exact Int.emod_lt_of_pos _ om⟩
 refine (Ln.VU _ (p,M) x h ⟨u,rfl,s⟩ (by show (M.length:Int)<=_;omega) (Ln.yJ F) (by show (M.getD 0 []).length=M.length;omega)).mono ?_
 rintro _ h' ⟨vu,S,f,rfl,y,sr,fr⟩
 simp only[o] at y sr
 rw[Ln.Uq rfl] at sr
 exact⟨vu,_,rfl,Ln.DX.of C (Ln.ajL C hi x o (λk j b d=>by rw[n k j b d,zP]) y),sr,fr⟩
theorem adG (C:wJ p r c w co)(n:fD p=true)(L:0<r)(F:r<=64){i:Nat}(hi:i<r){M:List (List Int)}(q:M.length=r)(o: ∀k,k<M.length->(M.getD k []).length=r)(f: ∀k j,k<r->j<r->Ln.kH M k j=c i j k%p)(u:V)(h:H)(s:SR h u M):
  Ev T 123 [.agg [aC p,u]] h (λv h'=> ∃vu xs,v= .tup [vu,aC 0]/\SI h' vu xs/\zQ vu h.next/\xs.Nodup/\(∀x∈xs,0<=x/\x<p)/\(∀a,a<r->w a i∈xs)/\xs.length<10000/\Fr h h'):=by
 have K:=C.p1
 have y:(M.getD 0 []).length=r:=o 0 om
 have t:Ln.Vd (p,M) r:=⟨n,by show 1<=M.length;omega,by show M.length<=64;omega,om,om,o,λk j b d=>by
  have b:k<M.length:=b;show 0<=Ln.kH M k j;rw[f k j om d]
  exact Int.emod_nonneg _ om,λk j b d=>by
  have b:k<M.length:=b;show Ln.kH M k j<p;rw[f k j om d]
  exact Int.emod_lt_of_pos _ om⟩
 refine (Ln.MC _ (p,M) h ⟨u,rfl,s⟩ (by show (M.length:Int)<=_;omega)).mono ?_
 rintro _ h' ⟨vu,rfl,si,J,fr⟩
 rw[Ln.acS t q y] at si |-
 have pr:=jB n
 refine⟨vu,_,rfl,si,J,Ln.KZ ..,λx z=>?_,λa G=>Ln.ahX C hi (λk j b d=>by rw[f k j b d,zP]) G,Nat.lt_of_le_of_lt (Ln.HB ..) om,fr⟩
 have:=Ln.aeA z
 omega
end
structure Cns (id:Nat)(J:(Nat->Prop)->(Nat->Prop)->List (List Int)->H->Prop):Prop where
 lt: ∀{W C l h},J W C l h-> ∀q,C q->q<h.next
 sp: ∀{W C l h},J W C l h-> ∀q,C q-> ¬W q
 go: ∀{W W' C l h h'},J W C l h->Fx W h h'->(∀q,q<h.next->W' q->W q)->J W' C l h'
 st: ∀{W C l h vr x},J W C l h->l.length<100000->(∀q,W q->q<h.next)->SI h vr x->vI (λq=>C q\/W q) vr->Ey T id [vr] h (λv h'=>v= .bool true/\ ∃C',(∀q,q<h.next->C' q->C q)/\J W C' (l++ [x]) h'/\Fx C h h')
def Cx (r:Nat)(w:Nat->Nat->Int)(A:Nat->Bool):List (List Int):=((List.range r).filter A).map λa=>Ln.eN r (w a)
theorem Nz {r:Nat}{w:Nat->Nat->Int}{A B:Nat->Bool}(h: ∀a,a<r->A a=B a):Cx r w A=Cx r w B:=by
 unfold Cx;rw[List.filter_congr λa b=>h a (mS.1 b)]
theorem YO {r:Nat}{w:Nat->Nat->Int}{A B D:Nat->Bool}(h: ∀a,a<r->D a=(A a||B a))(i: ∀a,a<r->A a=true->B a=false):(Cx r w A++Cx r w B).Perm (Cx r w D):=by
 unfold Cx;rw[<-List.map_append];refine List.Perm.map _ ?_;rw[List.filter_congr (q:=λa=>A a||B a) λa c=>h a (mS.1 c)]
 have d: ∀l:List Nat,(∀a∈l,A a=true->B a=false)->(l.filter A++l.filter B).Perm (l.filter λa=>A a||B a):=by
  intro l
  induction l with
  |nil=>exact λ_=> .nil
  |cons x l b=>
   intro f;have b:=b λa c=>f a (wH _ c)
   rw[List.filter_cons,List.filter_cons,List.filter_cons]
   cases hA:A x with
   |true=>
    rw[f x wI hA];exact List.Perm.cons x b
   |false=>
    cases hB:B x with
    |true=>exact List.perm_middle.trans (List.Perm.cons x b)
    |false=>exact b
 exact d _ λa c=>i a (mS.1 c)
theorem aiW {r:Nat}{w:Nat->Nat->Int}{A B:Nat->Bool}(h: ∀a,a<r->A a=true->B a=true):(Cx r w A).length<=(Cx r w B).length:=by
 unfold Cx;rw[dO,dO]
 have e:(List.range r).filter A=((List.range r).filter B).filter A:=by
  rw[List.filter_filter];refine List.filter_congr λa b=>?_
  cases hA:A a with
  |true=>rw[h a (mS.1 b) hA];rfl
  |false=>rfl
 rw[e];exact List.length_filter_le _ _
theorem WA {r:Nat}{w:Nat->Nat->Int}{A:Nat->Bool}(h: ∀a,a<r->A a=false):Cx r w A= []:=by
 unfold Cx;rw[List.filter_eq_nil_iff.2 λa b=>by rw[h a (mS.1 b)];simp]
 rfl
theorem acY {r:Nat}{w:Nat->Nat->Int}{A:Nat->Bool}{a:Nat}(c:a<r)(h: ∀b,b<r->(A b=true↔b=a)):Cx r w A= [Ln.eN r (w a)]:=by
 unfold Cx
 have:(List.range r).filter A= [a]:=by
  refine List.perm_singleton.1 ((List.perm_ext_iff_of_nodup (List.nodup_range.sublist List.filter_sublist) siM).2 λb=>?_);rw[Gh,mS,List.mem_singleton];exact⟨λ⟨d,h2⟩=>(h b d).1 h2,λe=>by rw[e];exact⟨c,(h a c).2 rfl⟩⟩
 rw[this];rfl
section
variable {p:Int} {r:Nat} {c:Nat->Nat->Nat->Int} {w co:Nat->Nat->Int} {A B:Nat->Bool}
theorem wJ.inj (C:wJ p r c w co){a b:Nat}(d:a<r)(i:b<r)(h: ∀j,j<r->w a j=w b j):a=b:=by
 have e:=zF (p:=p) (r:=r) (co:=co) (v:=w a) (u:=w b) (λk f=>by rw[h k f]) a;rw[C.EJ d d,C.EJ d i,aS rfl] at e;split at e
 .rename_i h;exact h.symm
 .cases e
end
theorem dW {h:H}{id:Nat}{ws:List V}(a:h.get id=some (.cells false ws))(off:Nat)(v:V)(b:ws[off]? =some v):h.cell id off=some v:=by rw[H.cell_of a,b]
theorem Xa (D:Nat)(a:V)(p:Int)(r i:Nat)(h:H)(z:a.one=true):
  Ev T 84 [.ptr D 0,.agg [a,aC p,aC r],aC i] h (λv h'=> ∃S Bd Bi,v= .fn 121 [] [.ptr S 0,.ptr Bd 0,.ptr Bi 0]/\h.next<=S/\S<h'.next/\h.next<=Bd/\Bd<h'.next/\h.next<=Bi/\Bi<h'.next/\h'.get S=some (.cells false [a,aC p,aC r])/\h'.get Bd=some (.cells false [.ptr D 0])/\h'.get Bi=some (.cells false [aC i])/\Fr h h'):=by
 refine mV ?_
 obtain⟨I,b⟩:=exI h.next
 obtain⟨n,e2,j,q,L,o⟩:=iI b [.ptr D 0]
 obtain⟨G,t,d,F,m,x⟩:=iI j [a,aC p,aC r]
 obtain⟨K,y,J,k,f,s⟩:=iI d [aC i]
 have l:mT h (.ptr D 0)=some (.ptr h.next 0,h.new (.cells false [.ptr D 0])):=mF rfl rfl h
 refine Ux @aV l b e2 (dH n (v:=a) (u:= aC p) (w:= aC r) z rfl rfl) j t d y ?_
 exact⟨I+1,I,I+2,rfl,om,om,om,om,om,om,by rw[f _ om];exact F,by rw[f _ om,m _ om];exact q,k,(o.trans x).trans s⟩
set_option maxHeartbeats 64000000
theorem LZ {n:Nat}{G:List Nat->Prop}{L:LN}{K:List Nat}{t:Tb}{w co:Nat->Nat->Int}(ik:vU n G L K)(k0:0<K.length)(p4:K.length<=12)(l5:L.length<=5040)(tp:0<t.p/\t.p<10000)(hp:fD (t.p:Int)=true)(CW:wJ t.p K.length (λi j k=>((mW G L K i j k:Nat):Int)) w co)(D M:Nat):
  ∀(m i:Nat),i<=K.length->K.length<i+m-> ∀(A:Nat->Bool),(∃a,a<K.length/\A a=true)->(∀a b,a<K.length->b<K.length->A a=true->A b=true-> ∀j,j<i->w a j=w b j)-> ∀(l:List (List Int)),Ln.DX t.p K.length w co A l->
  ∀(id:Nat) (J:(Nat->Prop)->(Nat->Prop)->List (List Int)->H->Prop),Cns id J-> ∀(Cc:Nat->Prop) (l0:List (List Int)) (h:H) (S Bd Bi:Nat) (vb:V),J (· =M) Cc l0 h->
  h.get S=some (.cells false [vb,aC (t.p:Int),aC (K.length:Int)])->h.get Bd=some (.cells false [.ptr D 0])->h.get Bi=some (.cells false [aC i])->(S<h.next/\ ¬(Cc S\/S=M))->(Bd<h.next/\ ¬(Cc Bd\/Bd=M))->(Bi<h.next/\ ¬(Cc Bi\/Bi=M))->
  Xh (λq=>Cc q\/q=M) h vb l->Vi n G L K t Cc h D M->l0.length+(Cx K.length w A).length<100000->
  Ev T 121 [.yl id,.ptr S 0,.ptr Bd 0,.ptr Bi 0] h (λ_ h'=> ∃C' l',l'.Perm (Cx K.length w A)/\J (· =M) C' (l0++l') h'/\(∀q,q<h.next->C' q->Cc q)/\Fx (λq=>Cc q\/q=M) h h'/\Vi n G L K t C' h' D M):=by
 have b8:K.length<=64:=om
 intro m
 induction m with
 |zero=>intro i hi l1;omega
 |succ m ih=>
 intro i hi l1 A c7 g0 l sb id J U Cc l0 h S Bd Bi vb jj gS gB gI hS hB hI sr dx lb
 refine mV ?_
 obtain⟨Y,hY⟩:=exI h.next
 obtain⟨N,e1,n1,g1,o1,f1⟩:=iI hY [.yl id]
 have ln:=sb.len
 have b1:mT h (.yl id)=some (.ptr h.next 0,h.new (.cells false [.yl id])):=mF rfl rfl h
 have d8:=(f1.get S hS.1).trans gS
 have i0:=(f1.get Bd hB.1).trans gB
 have d3:=(f1.get Bi hI.1).trans gI
 have e7:=U.lt jj
 have j1:=U.go jj (Fx.of f1) (W':=(· =M)) λ_ _ h=>h
 have a7:=dx.go (Fx.of (W:=Cc) f1) λ_ _ h=>h
 have f6:=sr.go (Fx.of (W:=λq=>Cc q\/q=M) f1) λ_ _ h=>h
 simp(disch:=omega)only[go_sem,aV,b1,hY,e1,H.cell_of d8]
 refine (aaJ vb l N f6 om).mono ?_
 rintro _ hz ⟨ez,⟨c9,rfl⟩|⟨x,vx,rfl,rfl,sx,ox⟩⟩
 all_goals rw[ez]
 all_goals clear ez hz
 case inr=>
  obtain⟨a,z,hA⟩:=c7
  have only: ∀b,b<K.length->(A b=true↔b=a):=λb hb=>⟨λh=>sb.two rfl b a hb z h hA,λe=>by rw[e];exact hA⟩
  have ex:=sb.one a z only;have c1:N.cell Y 0=some (.yl id):=dW g1 0 _ rfl;refine bM c1 ?_;refine (U.st j1 om (λq e=>by have e:q=M:=e;have:=a7.lM;omega) sx ox).mono ?_;rintro _ Q ⟨rfl,C',hc,j2,f2⟩;refine aT ?_;refine⟨C', [x],?_,j2,λq F h=>hc q om h,?_,?_⟩
  .rw[acY z only,ex]
  .exact (Fx.of f1).trans (f2.mE (W':=λq=>Cc q\/q=M) λ_ _ h=> .inl h) λ_ _ h=>h
  .exact a7.go f2 λq F h=>hc q F h
 refine aT ?_
 have ir:i<K.length:=Nat.lt_of_not_le λq9=>by
  obtain⟨a,z,hA⟩:=c7
  have only: ∀b,b<K.length->(A b=true↔b=a):=λb hb=>⟨λh=>wJ.inj CW hb z λj hj=>g0 b a hb z h hA j om,λe=>by rw[e];exact hA⟩
  have:=sb.one a z only;rw[this] at c9;exact c9 rfl
 have cB:N.cell Bd 0=some (.ptr D 0):=dW i0 0 _ rfl
 have cI:N.cell Bi 0=some (aC i):=dW d3 0 _ rfl
 refine eZ cB cI ?_
 have mo:=ON (W:=Cc) n G L K ik p4 l5 t tp N D M i ir a7 (λq F=>by have:=e7 q F;omega)
 refine mo.mono ?_
 rintro _ Q ⟨u,rfl,uc,u1,su,p5,f2⟩
 have n2:=f2.next
 obtain⟨X7,d5⟩:=exI Q.next
 obtain⟨O,e3,n3,g3,o3,f3⟩:=iI d5 [aC 0,.aH]
 obtain⟨h4,e4,n4,g4,o4⟩:=xN O X7 [aC (t.p:Int),u]
 have e6:Fr Q h4:=⟨om,λq F=>by rw[o4 q om,o3 q om]⟩
 have c6:(Nj G L K t i).length=K.length:=Ln.dC ..
 have e5: ∀k,k<(Nj G L K t i).length->((Nj G L K t i).getD k []).length=K.length:=λk hk=>by
  rw[c6] at hk;unfold Nj;rw[Ln.jT _ hk,Ln.aW]
 have g7: ∀k j,k<K.length->j<K.length->Ln.kH (Nj G L K t i) k j=((mW G L K i j k:Nat):Int)%t.p:=λk j hk hj=>by
  rw[aaH G L K t i hk hj];exact Int.natCast_emod ..
 refine wE d5 e3 (nU O X7 0 (v:= aC (t.p:Int)) (u:=u) rfl u1) g3 e4 (jH g4) ?_
 refine (adG CW hp k0 b8 ir c6 e5 g7 u h4 (su.sr.mono e6)).mono ?_
 rintro _ Z ⟨vu,xs,rfl,sx,fv,xn,xr,xi,xl,f5⟩
 have b0:=e6.trans f5
 have n5:=b0.next
 have q3:=f5.next
 have a3:Fx (· =M) N Z:=f2.trans (Fx.of (W:=(· =M)) b0) λ_ _ h=>h
 have j5:=U.go j1 a3 (W':=(· =M)) λ_ _ h=>h
 have lM:=a7.lM
 have p9:=dx.lM
 have c8:Fx (λq=>Cc q\/q=M) N Z:=a3.mE λ_ _ h=> .inr h
 have i5:=p5.go (Fx.of (W:=Cc) b0) λ_ _ h=>h
 have m0:=f6.go c8 λ_ _ h=>h
 have m5:=su.go (Fx.of (W:=λq=>Cc q\/q=M) b0) λ_ _ h=>h
 have k5: ∀q ws,q<N.next->q≠M->N.get q=some (.cells false ws)->Z.get q=some (.cells false ws):=λq ws N Q O=>by rw[a3.get q N Q];exact O
 have k9:=k5 S _ om (λe=>hS.2 (.inr e)) d8
 have m6:=k5 Bd _ om (λe=>hB.2 (.inr e)) i0
 have k4:=k5 Bi _ om (λe=>hI.2 (.inr e)) d3
 have m7:=k5 Y _ om om g1
 have k1:Z.get X7=some (.cells false [aC (t.p:Int),u]):=by rw[f5.get X7 om];exact g4
 have o8:=sx.lens
 refine bM o8 ?_
 refine aP (λk' b3 hh=> ∃(k:Nat) (C':Nat->Prop) (la:List (List Int)),(∃g:Nat->V,b3= [.yl id,.ptr S 0,.ptr Bd 0,.ptr Bi 0,.ptr Y 0,g 5,g 6,.ptr X7 0,g 8,g 9,g 10,g 11,g 12,g 13,vu,aC (xs.length:Int),aC k,g 17,g 18,g 19,g 20,g 21])/\k<=xs.length/\la.Perm (Cx K.length w λa=>A a&&(xs.take k).contains (w a i))/\J (· =M) C' (l0++la) hh/\(∀q,q<Z.next->C' q->Cc q)/\Fx (λq=>Cc q\/q=M) Z hh/\Vi n G L K t C' hh D M/\k'=xs.length-k) xs.length
  ⟨0,Cc, [],aD rfl,fY _,?_,by rw[qH];exact j5,λ_ _ h=>h,Fx.refl _ _,i5,rfl⟩ ?_
 .rw[WA λa _=>by simp]
 rintro k' b3 h6 ⟨k,C',la,⟨g,rfl⟩,hk,pm,j6,hc,F6,a6,rfl⟩
 have n6:=F6.next
 by_cases d0:(k:Int)<(xs.length:Int)
 case neg=>
  have d1:=bZ d0;obtain rfl:k=xs.length:=om
  refine bM d1 ?_;refine⟨C',la,?_,j6,λq F h=>hc q om h,?_,a6⟩
  .rw[Nz (B:=λa=>A a&&(xs.take xs.length).contains (w a i)) λa z=>?_]
   .exact pm
   .rw[List.take_length]
    rw[List.contains_iff_mem.2 (xi a z),Bool.and_true]
  .exact ((Fx.of (W:=λq=>Cc q\/q=M) f1).trans c8 λ_ _ h=>h).trans F6 λ_ _ h=>h
 have d1:=cV d0
 have a2:k<xs.length:=om
 obtain⟨x,hx⟩:=exI (xs.getD k 0)
 have m8:x∈xs:=by rw[<-hx];exact bF a2
 have xb:=xr x m8
 have b2:=U.lt j6
 have d4: ∀q,q<Z.next-> ¬(Cc q\/q=M)->h6.get q=Z.get q:=λq N Q=>F6.get q N Q
 have l7: ∀q,Cc q->q<h.next:=e7
 have a9: ∀q,h.next<=q->q<Z.next-> ¬(Cc q\/q=M):=λq N Q O=>by
  rcases O with O|O
  .have:=l7 q O;omega
  .omega
 have k6: ∀q ws,q<Z.next-> ¬(Cc q\/q=M)->Z.get q=some (.cells false ws)->h6.get q=some (.cells false ws):=λq ws N Q O=>by rw[d4 q N Q];exact O
 have o5:=k6 S _ om hS.2 k9
 have j0:=k6 Bd _ om hB.2 m6
 have p0:=k6 Bi _ om hI.2 k4
 have o2:=k6 Y _ om (a9 Y om om) m7
 have m4:=k6 X7 _ om (a9 X7 om om) k1
 have nc: ∀q,q<Z.next-> ¬(Cc q\/q=M)-> ¬(C' q\/q=M):=λq N Q O=>Q (O.imp (hc q N) λe=>e)
 have wk: ∀q,q<Z.next->(C' q\/q=M)->(Cc q\/q=M):=λq N O=>O.imp (hc q N) λe=>e
 have m3:=m0.go F6 wk
 have j8:=m5.go F6 wk
 have ox:vI (λq=>Cc q\/q=M) vu:=by
  cases vu with
  |sl id a4 len cap=>exact λe=>by have:=fv id a4 len cap rfl;exact a9 id om (SV.in sx id a4 len cap rfl) e
  |_=>trivial
 have l4:=sx.fx ox F6
 obtain⟨iv,ov,sv,r1,n0⟩:=l4.open
 have cv:=n0 k a2
 rw[hx] at cv
 refine jX d1 @sv.ixa cv (jH m4) ?_
 refine (ahM CW hp k0 b8 ir c6 e5 g7 x u h6 j8.sr).mono ?_
 rintro _ h7 ⟨vq,q1,rfl,sq,fq,f7⟩
 have F7:=F6.trans (Fx.of (W:=λq=>Cc q\/q=M) f7) λ_ _ h=>h
 have n7:=f7.next
 have o0:=(f7.get S om).trans o5
 have g2:=m3.sr.mono f7
 have q8:=SV.cT g2.choose_spec.1
 refine bM (bU o0) ?_
 refine (JG CW hp k0 b8 sb sq vb vq h7 g2 fq.sr).mono ?_
 rintro _ h8 ⟨u2,q2,rfl,q4,g5,c5,f0,f8⟩
 have n8:=f8.next
 obtain⟨X8,d6⟩:=exI h8.next
 obtain⟨h9,e9,n9,g9,o9,f9⟩:=iI d6 [.aH,aC 0,aC 0]
 obtain⟨z,ea,na,ga,oa⟩:=xN h9 X8 [u2,aC (t.p:Int),aC (K.length:Int)]
 have c3:Fr h8 z:=⟨om,λq F=>by rw[oa q om,o9 q om]⟩
 have R:=(f7.trans f8).trans c3
 have j4:z.cell X8 0=some u2:=dW ga 0 _ rfl
 have l8:=f0.fr c3
 have p6:=l8.sr.lens
 have A2: ∀a,a<K.length->((A a&&decide ((w a i-x)%(t.p:Int)=0))=(A a&&decide (w a i=x))):=λa z=>by
  congr 1;rw[decide_eq_decide];have b1:=CW.rng a i z ir;constructor
  .intro h
   have:=Int.emod_eq_emod_iff_emod_sub_eq_zero.2 h;rwa [Int.emod_eq_of_lt b1.1 b1.2,Int.emod_eq_of_lt xb.1 xb.2] at this
  .intro h;rw[h,Int.sub_self,Int.zero_emod]
 have i9:x∉xs.take k:=λh=>by
  obtain⟨j,hj,e⟩:=List.getElem_of_mem h;rw[jG] at hj;rw[List.getElem_take] at e;have e2:xs[k]=x:=by rw[<-hx,gV,dJ a2];rfl
  have:=(List.getElem_inj xn).1 (e.trans e2.symm);omega
 have tk: ∀a,a<K.length->(A a&&(xs.take (k+1)).contains (w a i))=((A a&&(xs.take k).contains (w a i))||(A a&&decide ((w a i-x)%(t.p:Int)=0))):=λa z=>by
  rw[A2 a z,<-Bool.and_or_distrib_left];congr 1;rw[List.take_succ_eq_append_getElem a2,Ri,List.contains_iff_mem,Es,List.mem_singleton,Bool.or_eq_true,List.contains_iff_mem,xF];have e2:xs[k]=x:=by rw[<-hx,gV,dJ a2];rfl
  rw[e2]
 have dj: ∀a,a<K.length->(A a&&(xs.take k).contains (w a i))=true->(A a&&decide ((w a i-x)%(t.p:Int)=0))=false:=λa z h=>by
  rw[A2 a z,Bool.and_eq_false_iff];rw[oD,List.contains_iff_mem] at h;exact .inr (bZ λe=>i9 (by rw[<-e];exact h.2))
 refine wY d6 e9 (lY h9 X8 0 (v:=u2) (u:= aC (t.p:Int)) (w:= aC (K.length:Int)) g5 rfl rfl) g9 @jE ea j4 p6 ?_
 by_cases h0:q2.length=0
 .have d2:decide ((q2.length:Int)=0)=true:=cV om
  have e0:=Zs h0
  refine bM d2 ?_
  rw[fJ k]
  have none: ∀a,a<K.length->(A a&&decide ((w a i-x)%(t.p:Int)=0))=false:=λa z=>Bool.eq_false_iff.2 λh=>c5.some a z h e0
  refine⟨xs.length-(k+1),om,k+1,C',la,aD rfl,om,?_,U.go j6 (Fx.of R) λ_ _ h=>h,hc,F6.trans (Fx.of (W:=λq=>Cc q\/q=M) R) λ_ _ h=>h,a6.go (Fx.of R) λ_ _ h=>h,rfl⟩
  rw[Nz (B:=λa=>A a&&(xs.take k).contains (w a i)) λa z=>by rw[tk a z,none a z,Bool.or_false]]
  exact pm
 have d2:decide ((q2.length:Int)=0)=false:=bZ om
 have o7:=(R.get Bd om).trans j0
 have l9:=(R.get Bi om).trans p0
 have l6:z.cell Bd 0=some (.ptr D 0):=dW o7 0 _ rfl
 have k2:z.cell Bi 0=some (aC i):=dW l9 0 _ rfl
 refine jX d2 l6 (bU ga) k2 ?_
 rw[fJ i]
 refine (Xa D u2 (t.p:Int) K.length (i+1) z g5).mono ?_
 rintro _ hb ⟨S2,c4,c2,rfl,s1,s2,s3,s4,s5,s6,i2,p3,m9,fb⟩
 refine aT ?_
 refine⟨rfl,sJ λrc a1=>?_⟩
 obtain⟨s,a0⟩:=exI hb.next
 rw[a0]
 obtain⟨P,ec⟩: ∃hc,hb.new (.loop rc)=hc:=⟨_,rfl⟩
 rw[ec]
 have nC:P.next=s+1:=by rw[<-ec,H.aM,a0]
 have gL:P.get s=some (.loop rc):=by rw[<-ec,<-a0];exact H.aI hb _
 have fL:Fr hb P:=⟨om,λq F=>by rw[<-ec];exact H.bG hb om _⟩
 have b4:rc.st= .ready:=by rw[a1]
 have g6:rc.pend= .none:=by rw[a1]
 have q7:=fb.next
 have a5:=(R.trans fb).trans fL
 have i6: ¬C' Y:=λh=>nc Y om (a9 Y om om) (.inl h)
 obtain⟨J2,c0⟩: ∃J2:(Nat->Prop)->(Nat->Prop)->List (List Int)->H->Prop,J2=λW C l hh=> ∃Co:Nat->Prop,(∀q,C q↔Co q\/q=s)/\J (λq=>W q\/q=s) Co l hh/\hh.get s=some (.loop rc)/\s<hh.next/\ ¬W s/\hh.get Y=some (.cells false [.yl id])/\Y<hh.next/\ ¬W Y/\ ¬Co Y:=⟨_,rfl⟩
 have b5:Y≠s:=om
 have p2:Cns s J2:=by
  subst c0;refine⟨?_,?_,?_,?_⟩
  .rintro W C l hh ⟨Co,hC,j,_,lL,_⟩ q F
   rcases (hC q).1 F with h|h
   .exact U.lt j q h
   .omega
  .rintro W C l hh ⟨Co,hC,j,_,lL,nL,_⟩ q F hw
   rcases (hC q).1 F with h|h
   .exact U.sp j q h (.inl hw)
   .rw[h] at hw;exact nL hw
  .rintro W W' C l hh q0 ⟨Co,hC,j,g,lL,nL,gy,ly,ny,cy⟩ f hw
   have fn:=f.next;exact⟨Co,hC,U.go j (f.mE λ_ _ h=> .inl h) λq F h=>h.imp (hw q F) λe=>e,by rw[f.get s lL nL];exact g,om,λh=>nL (hw s lL h),by rw[f.get Y ly ny];exact gy,om,λh=>ny (hw Y ly h),cy⟩
  .rintro W C l hh vr y ⟨Co,hC,j,g,lL,nL,gy,ly,ny,cy⟩ ll m2 si a4
   refine pP g (by rw[a1];rfl) b4 ?_;intro q1 qg qn qo
   have fq:Fx (λq=>W q\/q=s) hh q1:=⟨om,λq _ h=>qo q λe=>h (.inr e)⟩
   have jq:=U.go j fq (W':=λq=>W q\/q=s) λ_ _ h=>h
   have d7:vI (λq=>Co q\/(W q\/q=s)) vr:=by
    cases vr with
    |sl a b c d=>exact λh=>a4 (by
     rcases h with h|h|h
     .exact .inl ((hC _).2 (.inl h))
     .exact .inr h
     .exact .inl ((hC _).2 (.inr h)))
    |_=>trivial
   have k7:SI q1 vr y:=si.fx (W:=λq=>q=s) (by
    cases vr with
    |sl a b c d=>exact λh=>a4 (.inl ((hC _).2 (.inr h)))
    |_=>trivial) ⟨om,λq _ h=>qo q h⟩
   have cY:q1.cell Y 0=some (.yl id):=dW (by rw[qo Y b5];exact gy) 0 _ rfl;have i8: ¬Co s:=λh=>U.sp j s h (.inr rfl)
   rw[a1];simp(disch:=omega)only[go_sem,List.zip_cons_cons,List.zip_nil_right,cY];refine (U.st jq ll (λq e=>by rcases e with e|e;exact (by have:=m2 q e;omega);omega) k7 d7).mono ?_;rintro _ g8 ⟨rfl,Cn,d9,jn,fn⟩;refine aT ?_;rw[<-a1];have q5:=fn.next;have k8:g8.get s=some (.loop (pF rc)):=by rw[fn.get s om i8];exact qg
   refine pQ b4 g6 k8 ⟨rfl,λq=>Cn q\/q=s,λq F h=>?_,⟨Cn,λ_=>Iff.rfl,U.go jn (Fx.set g8 (W:=λq=>W q\/q=s) (.inr rfl) _) λ_ _ h=>h,H.aJ ..,by rw[H.bT];omega,nL,?_,by rw[H.bT];omega,ny,λh=>cy (d9 Y om h)⟩,?_⟩
   .rcases h with h|h
    .exact (hC q).2 (.inl (d9 q om h))
    .exact (hC q).2 (.inr h)
   .rw[H.Cj _ b5,fn.get Y om cy,qo Y b5];exact gy
   .refine⟨by rw[H.bT];omega,λq N Q=>?_⟩
    have O:q≠s:=λe=>Q ((hC q).2 (.inr e))
    rw[H.Cj _ O,fn.get q om (λh=>Q ((hC q).2 (.inl h))),qo q O]
 have j9:J2 (· =M) (λq=>C' q\/q=s) (l0++la) P:=by
  subst c0;have p8:=a5.next;refine⟨C',λ_=>Iff.rfl,U.go j6 (Fx.of a5) λq F h=>?_,gL,om,by show s≠M;omega,?_,om,by show Y≠M;omega,i6⟩
  .rcases h with h|h
   .exact h
   .omega
  .rw[a5.get Y om];exact o2
 have b9: ∀q,h6.next<=q->q<s-> ¬((C' q\/q=s)\/q=M):=λq N Q O=>by
  rcases O with (O|O)|O
  .have:=b2 q O;omega
  .omega
  .have:=a6.lM;omega
 have p7:=R.next
 have j7:Xh (λq=>(C' q\/q=s)\/q=M) P u2 q2:=by
  have s8:=ZO (W:=λq=>C' q\/q=M) f0 λq F=>by
   rcases F with F|F
   .have:=b2 q F;omega
   .have:=a6.lM;omega
  refine s8.go (Fx.of ((c3.trans fb).trans fL)) λq F h=>?_
  rcases h with (h|h)|h
  .exact .inl h
  .omega
  .exact .inr h
 have i1:Vi n G L K t (λq=>C' q\/q=s) P D M:=a6.go (Fx.of a5) λq F h=>by
  rcases h with h|h
  .exact h
  .omega
 have o6:(l0++la).length+(Cx K.length w λa=>A a&&decide ((w a i-x)%(t.p:Int)=0)).length<100000:=by
  have e1:=pm.length_eq;have e2:=(YO (w:=w) tk dj).length_eq;have e3:=aiW (w:=w) (A:=λa=>A a&&(xs.take (k+1)).contains (w a i)) (B:=A) (r:=K.length) λa _ h=>(oD _ _▸h:_/\_).1
  rw[eE] at e2 |-;omega
 refine (ih (i+1) om om (λa=>A a&&decide ((w a i-x)%(t.p:Int)=0)) ?_ ?_ q2 c5 s J2 p2 (λq=>C' q\/q=s) (l0++la) P S2 c4 c2 u2 j9 ((fL.get S2 om).trans i2) ((fL.get c4 om).trans p3) ((fL.get c2 om).trans m9) ⟨om,b9 S2 om om⟩ ⟨om,b9 c4 om om⟩ ⟨om,b9 c2 om om⟩ j7 i1 o6).mono ?_
 .refine zL λhn=>h0 ?_
  rw[c5.none λa z=>Bool.eq_false_iff.2 λh=>hn ⟨a,z,h⟩]
  rfl
 .intro a b z f4 hA b7 j hj
  rw[A2 a z,oD,xF] at hA
  rw[A2 b f4,oD,xF] at b7
  by_cases e:j=i
  .rw[e,hA.2,b7.2]
  .exact g0 a b z f4 hA.1 b7.1 j om
 rintro _ a8 ⟨C3,l3,i4,j3,i7,F3,p1⟩
 subst c0
 obtain⟨l2,b6,j3,k3,q6,_,_,_,_,_⟩:=j3
 have e8: ∀o,Fx (λq=>q=M\/q=s) a8 (a8.set s o):=λo=>Fx.set a8 (W:=λq=>q=M\/q=s) (.inr rfl) o
 have r0:=F3.next
 refine⟨rc,k3,by rw[b4];exact λh=>(by cases h),?_⟩
 rw[g6]
 simp(disch:=omega)only[go_sem,Option.getD_none]
 rw[fJ k]
 refine⟨xs.length-(k+1),om,k+1,l2,la++l3,aD rfl,om,?_,?_,λq F h=>?_,?_,?_,rfl⟩
 .refine ((pm.append i4).trans ?_)
  exact YO tk dj
 .rw[<-AA]
  exact U.go j3 (e8 _) λq _ h=> .inl h
 .have N:=i7 q om ((b6 q).2 (.inl h))
  rcases N with N|N
  .exact hc q F N
  .omega
 .have m1:Fx (λq=>Cc q\/q=M) Z P:=F6.trans (Fx.of (W:=λq=>Cc q\/q=M) a5) λ_ _ h=>h
  have i3:=m1.trans F3 λq F h=>by
   rcases h with (h|h)|h
   .exact .inl (hc q F h)
   .omega
   .exact .inr h
  refine i3.trans (e8 _) λq F h=>?_
  rcases h with h|h
  .exact .inr h
  .omega
 .exact p1.go (Fx.set a8 (W:=C3) ((b6 s).2 (.inr rfl)) _) λq _ h=>(b6 q).2 (.inl h)
set_option maxHeartbeats 32000000
def Jc (B LID:Nat)(rc:dP)(W C:Nat->Prop)(l:List (List Int))(hh:H):Prop:=
 ∃va ws,(∀q,C q↔q=B\/q=LID\/ ∃o n c,va= .sl q o n c)/\hh.get B=cE [va]/\hh.get LID=some (.loop rc)/\(∀q,C q->q<hh.next/\ ¬W q)/\dF hh va 1 ws (LID+1)/\bH (λv x=>SI hh v x/\vI (λq=>C q\/W q) v) ws l/\(va= .aH\/ ∃id cap,va= .sl id 0 l.length cap/\hh.get id=cE ws)
theorem Sr {W C i:Nat->Prop}{h h':H}{ws:List V}{l:List (List Int)}(a:bH (λv x=>SI h v x/\vI W v) ws l)(f:Fx C h h')(m: ∀q,C q->W q)(j: ∀q,q<h.next->i q->W q):bH (λv x=>SI h' v x/\vI i v) ws l:=
 a.mono λv x ⟨s,o⟩=>by
  have k:vI C v:=by
   cases v with
   |sl a b c d=>exact λe=>o (m _ e)
   |_=>trivial
  exact⟨s.fx k f,o.mE s j⟩
theorem Qk {R:V->List Int->Prop}{ws:List V}{l:List (List Int)}{v:V}{x:List Int}(a:bH R ws l)(r:R v x):bH R (ws++ [v]) (l++ [x]):=bH.append a ⟨r,trivial⟩
theorem Hy {n:Nat}{G:List Nat->Prop}{L:LN}{K:List Nat}{t:Tb}{w co:Nat->Nat->Int}(ik:vU n G L K)(k0:0<K.length)(b9:K.length<=12)(l5:L.length<=5040)(tp:0<t.p/\t.p<10000)(hp:fD (t.p:Int)=true)(CW:wJ t.p K.length (λi j k=>((mW G L K i j k:Nat):Int)) w co)(D M:Nat)(h:H)(S Bd Bi:Nat)(vb:V)
  (gS:h.get S=cE [vb,aC (t.p:Int),aC (K.length:Int)]) (gB:h.get Bd=cE [.ptr D 0]) (gI:h.get Bi=cE [aC (0:Nat)]) (hS:S<h.next/\S≠M) (hB:Bd<h.next/\Bd≠M) (hI:Bi<h.next/\Bi≠M)
  (sr:Xh (λq=>Nw h q\/q=M) h vb (Ln.kM K.length K.length λi j=>if j=i then 1 else 0)) (dx:Vi n G L K t (Nw h) h D M):
  Ev T 186 [.aH,.fn 121 [] [.ptr S 0,.ptr Bd 0,.ptr Bi 0]] h (λv h'=> ∃id cap ws l,v= .sl id 0 l.length cap/\h.next<=id/\id<h'.next/\h'.get id=cE ws/\l.Perm (Cx K.length w λ_=>true)/\bH (λv x=>SI h' v x/\vI (λq=>q=id\/q=M) v) ws l/\Vi n G L K t (λq=>Nw h' q\/q=id) h' D M/\Fx (· =M) h h'):=by
 have a9:K.length<=64:=om
 obtain⟨B,a2⟩:=exI h.next
 obtain⟨h0,e0,n0,g0,o0,f0⟩:=iI a2 [.aH]
 refine XL (mF (x:= .aH) rfl rfl) a2 e0 ?_
 refine⟨rfl,sJ λrc O=>?_⟩
 obtain⟨s,J⟩:=exI h0.next
 rw[J]
 obtain⟨P,e1⟩:=exI (h0.new (.loop rc))
 rw[e1]
 have n1:P.next=s+1:=by rw[<-e1,H.aM,J]
 have gL:P.get s=some (.loop rc):=by rw[<-e1,<-J];exact H.aI h0 _
 have fL:Fr h0 P:=⟨om,λq y=>by rw[<-e1];exact H.bG h0 om _⟩
 have U:rc.st= .ready:=by rw[O]
 have a5:rc.pend= .none:=by rw[O]
 have Q:=f0.trans fL
 have b8:P.get B=cE [.aH]:=(fL.get B om).trans g0
 have BL:B<s:=om
 have lM:=dx.lM
 have cn:Cns s (Jc B s rc):=by
  refine⟨?_,?_,?_,?_⟩
  .rintro W C l hh ⟨F,ws,u,_,_,A,_⟩ q y
   exact (A q y).1
  .rintro W C l hh ⟨F,ws,u,_,_,A,_⟩ q y
   exact (A q y).2
  .rintro W W' C l hh c1 ⟨F,ws,u,gb,gl,A,ow,al,sh⟩ f hw
   have fn:=f.next;have cB:=A B ((u B).2 (.inl rfl));have cL:=A s ((u s).2 (.inr (.inl rfl)));refine⟨F,ws,u,by rw[f.get B cB.1 cB.2];exact gb,by rw[f.get s cL.1 cL.2];exact gl,λq y=>⟨by have:=(A q y).1;omega,λh=>(A q y).2 (hw q (A q y).1 h)⟩,ow.mono fn λid off n c e _ a4=>f.get id a4 (A id ((u id).2 (.inr (.inr ⟨_,_,_,e⟩)))).2,?_,?_⟩
   .exact Sr al f (λ_ h=> .inr h) λq y h=>h.imp (λe=>e) (hw q y)
   .rcases sh with sh|⟨id,cap,e,g⟩
    .exact .inl sh
    .have c:=A id ((u id).2 (.inr (.inr ⟨_,_,_,e⟩)))
     exact .inr ⟨id,cap,e,by rw[f.get id c.1 c.2];exact g⟩
  .rintro W C l hh vr x ⟨F,ws,u,gb,gl,A,ow,al,sh⟩ ll b4 si off
   have cB:=A B ((u B).2 (.inl rfl));have cL:=A s ((u s).2 (.inr (.inl rfl)));have b0:=bH.length al;refine pP gl (by rw[O];rfl) U ?_;intro q1 qg qn qo;have wv:=si.cT;have a0:q1.get B=cE [F]:=by rw[qo B om];exact gb
   have a7:q1.cell B 0=some F:=dW a0 0 _ rfl;obtain⟨Z,hZ⟩:=exI q1.next;obtain⟨R,e2,n2,g2,o2,f2⟩:=iI hZ [vr];have b3:dF q1 F 1 ws (s+1):=ow.mono om λid off n c e hb a4=>qo id om
   have a1:=b3.fr f2;obtain⟨Y,a3,p3⟩:=a1.push (bytes:=24) (SV.one (v:=vr) om g2 (.kn 1)) (n:=l.length) (m:=1) om rfl om om om;have n3:=p3.next
   have ap: ∀k,k<=s->cW F k:=λk hk id off n c e e2=>by
    have:=(a1.in _ _ _ _ e).2.1;omega
   have b5:Y.get B=cE [F]:=by rw[p3.old B om (ap B om),o2 B om];exact a0
   have a6:Y.get s=some (.loop (pF rc)):=by rw[p3.old s om (ap s om),o2 s om];exact qg
   have pt:=bE (vs:= [F]) (off:=0) siM Y B (.sl R.next 0 (l.length+1) (.un 1));rw[O];simp(disch:=omega)only[go_sem,List.zip_cons_cons,List.zip_nil_right,a7,dL q1 (z:= .aH) (v:=vr) wv.1 wv.2.1,hZ,e2,a3,b5,pt];rw[<-O];obtain⟨q4,e4⟩:=exI (Y.set B (cE [.sl R.next 0 (l.length+1) (.un 1)]));have n4:q4.next=Y.next:=by rw[<-e4];rfl
   have o4: ∀q,q≠B->q4.get q=Y.get q:=λq y=>by rw[<-e4];exact H.Cj Y y _
   have g4:q4.get B=cE [.sl R.next 0 (l.length+1) (.un 1)]:=by rw[<-e4,H.aJ]
   rw[e4];have b6:q4.get s=some (.loop (pF rc)):=by rw[o4 s om];exact a6
   have all:Fx C hh (q4.set s (some (.loop rc))):=by
    refine⟨by rw[H.bT];omega,λq P N=>?_⟩;have b1:q≠B:=λe=>N ((u q).2 (.inl e))
    have b2:q≠s:=λe=>N ((u q).2 (.inr (.inl e)))
    rw[H.Cj _ b2,o4 q b1,p3.old q om (λid off n c e e2=>N ((u q).2 (.inr (.inr ⟨off,n,c,by rw[e2];exact e⟩)))),o2 q om,qo q b2]
   have c7: ∀q,C q->q<R.next:=λq y=>by have:=(A q y).1;omega
   refine pQ U a5 b6 ⟨rfl,λq=>q=B\/q=s\/q=R.next,λq y h=>?_,⟨.sl R.next 0 (l.length+1) (.un 1),ws++ [vr],λq=>?_,?_,H.aJ ..,λq h=>?_,?_,?_,?_⟩,all⟩
   .rcases h with h|h|h
    .exact (u q).2 (.inl h)
    .exact (u q).2 (.inr (.inl h))
    .omega
   .constructor
    .rintro (h|h|h)
     .exact .inl h
     .exact .inr (.inl h)
     .exact .inr (.inr ⟨_,_,_,by rw[h]⟩)
    .rintro (h|h|⟨o,n,c,e⟩)
     .exact .inl h
     .exact .inr (.inl h)
     .cases e;exact .inr (.inr rfl)
   .rw[H.Cj _ om];exact g4
   .show q<q4.next/\ ¬W q
    rcases h with h|h|h
    .subst h;exact⟨om,cB.2⟩
    .subst h;exact⟨om,cL.2⟩
    .exact⟨om,λe=>by have:=b4 q e;omega⟩
   .refine .inr ⟨R.next,l.length+1,_, [],rfl,by simp [b0],.inl rfl,om,by rw[H.bT];omega,?_⟩
    rw[H.Cj _ om,o4 _ om,p3.get,qH]
   .refine Qk (Sr al all (λ_ h=> .inl h) λq y h=>?_) ⟨?_,?_⟩
    .rcases h with (h|h|h)|h
     .exact .inl ((u q).2 (.inl h))
     .exact .inl ((u q).2 (.inr (.inl h)))
     .omega
     .exact .inr h
    .refine SV.fx si (W:=C) ?_ all
     cases vr with
     |sl a b c d=>exact λe=>off (.inl e)
     |_=>trivial
    .cases vr with
     |sl a b c d=>
      have la:=SV.in si a b c d rfl;intro e;rcases e with (h|h|h)|h
      .exact off (.inl ((u _).2 (.inl h)))
      .exact off (.inl ((u _).2 (.inr (.inl h))))
      .omega
      .exact off (.inr h)
     |_=>trivial
   .exact .inr ⟨R.next,.un 1,by rw[eE];rfl,by rw[H.Cj _ om,o4 _ om,p3.get]⟩
 have j1:Jc B s rc (· =M) (λq=>q=B\/q=s) [] P:=by
  refine⟨.aH, [],λq=>⟨λh=>h.imp (λe=>e) .inl,λh=>?_⟩,b8,gL,λq h=>?_,dF.aH _ _ _,trivial,.inl rfl⟩
  .rcases h with h|h|⟨_,_,_,e⟩
   .exact .inl h
   .exact .inr h
   .cases e
  .show q<P.next/\ ¬q=M
   omega
 have lw:(Cx K.length w λ_=>true).length<=64:=by
  unfold Cx;rw[dO];exact kQ (List.length_filter_le _ _) (by rw[gT];exact a9)
 refine (LZ ik k0 b9 l5 tp hp CW D M (K.length+1) 0 om om (λ_=>true) ⟨0,k0,rfl⟩ (λ_ _ _ _ _ _ j hj=>om) _ (Ln.DX.all CW k0) s (Jc B s rc) cn (λq=>q=B\/q=s) [] P S Bd Bi vb j1 ((Q.get S hS.1).trans gS) ((Q.get Bd hB.1).trans gB) ((Q.get Bi hI.1).trans gI) ⟨om,om⟩ ⟨om,om⟩ ⟨om,om⟩ (sr.go (Fx.of Q) λq y h=>?_) (dx.go (Fx.of Q) λq y h=>?_) (by rw[List.length_nil];omega)).mono ?_
 .rcases h with h|h
  .omega
  .exact .inr h
 .omega
 rintro _ N ⟨C',l',pm,⟨F,ws,u,gb,gl,A,ow,al,sh⟩,c5,F2,c0⟩
 rw[List.nil_append] at*
 refine⟨rc,gl,by rw[U];exact λh=>(by cases h),?_⟩
 rw[a5]
 obtain⟨h3,e3⟩:=exI (N.set s (some (.loop {rc with st:= .out,pend:= .none})))
 have n3:h3.next=N.next:=by rw[<-e3];rfl
 have o3: ∀q,q≠s->h3.get q=N.get q:=λq y=>by rw[<-e3];exact H.Cj N y _
 have cL:=A s ((u s).2 (.inr (.inl rfl)))
 have cB:=A B ((u B).2 (.inl rfl))
 have f3:Fx C' N h3:=⟨om,λq _ h=>o3 q λe=>h ((u q).2 (.inr (.inl e)))⟩
 have c3:h3.cell B 0=some F:=dW (by rw[o3 B om];exact gb) 0 _ rfl
 have l0:l'.length≠0:=λe=>by
  have:=pm.length_eq;rw[e] at this;have h:=Ln.DX.all CW k0 (r:=K.length) (p:=(t.p:Int))
  have N:Cx K.length w (λ_=>true)≠ []:=by
   unfold Cx;intro h;have:=congrArg List.length h;rw[dO,List.length_nil,List.filter_eq_self.2 (λ_ _=>rfl),gT] at this;omega
  exact N (Zs this.symm)
 rcases sh with rfl|⟨id,cap,rfl,a8⟩
 .exfalso
  rcases ow with ⟨_,e⟩|⟨_,_,_,_,e,_⟩
  .have:=bH.length al
   rw[e] at this
   exact l0 this.symm
  .cases e
 have c6:=A id ((u id).2 (.inr (.inr ⟨_,_,_,rfl⟩)))
 have c2:=(ow.in _ _ _ _ rfl).2.1
 have c4:h.next<=id:=om
 rw[e3]
 simp(disch:=omega)only[go_sem,Option.getD_none,c3]
 refine⟨id,cap,ws,l',rfl,om,om,by rw[o3 id om];exact a8,pm,Sr al f3 (λ_ h=> .inl h) (λq _ h=>?_),c0.go f3 (λq P h=>?_),⟨by have:=Q.next;have:=F2.next;omega,λq P b7=>?_⟩⟩
 .rcases h with h|h
  .subst h
   exact .inl ((u q).2 (.inr (.inr ⟨_,_,_,rfl⟩)))
  .exact .inr h
 .rcases h with h|h
  .have h:h3.next<=q:=h
   omega
  .subst h
   exact (u q).2 (.inr (.inr ⟨_,_,_,rfl⟩))
 .rw[o3 q om,F2.get q (by have:=Q.next;omega) (λe=>?_),Q.get q P]
  rcases e with (e|e)|e
  .omega
  .omega
  .exact b7 e
set_option maxHeartbeats 32000000
def jQ:List Int->List Int->Int
 | [], []=>0
 | [],_::_=> -1
 |_::_, []=>1
 |a::l,b::m=>if a<b then -1 else if b<a then 1 else jQ l m
theorem OP {l m:List Int}{i:Nat}(c:i<l.length)(h2:i<m.length):jQ (l.drop i) (m.drop i)=if Cls.nG (l.getD i 0) (m.getD i 0)≠0 then Cls.nG (l.getD i 0) (m.getD i 0) else jQ (l.drop (i+1)) (m.drop (i+1)):=by
 rw[EF c,EF h2,jQ];have e1:l.getD i 0=l[i]:=by rw[gV,dJ c];rfl
 have e2:m.getD i 0=m[i]:=by rw[gV,dJ h2];rfl
 rw[e1,e2];unfold Cls.nG
 by_cases a:l[i]<m[i]
 .simp [a]
 .by_cases b:m[i]<l[i]
  .simp [a,b]
  .simp [a,b]
theorem Hm (u v:V)(l m:List Int)(h:H)(z:SI h u l)(G:SI h v m)(ll:l.length<1000000)(lm:m.length<1000000):
  Ev T 60 [u,v] h (λw h'=>w= aC (jQ l m)/\Fr h h'):=by
 obtain⟨Y,W,A,J,L⟩:=z.open
 obtain⟨R,U,K,O,N⟩:=G.open
 have t:=z.lens
 have o:=G.lens
 refine pM t ?_
 .refine aP (λy x s=> ∃i:Nat,(∃g:Nat->V,x= [u,v,g 2,g 3,g 4,g 5,g 6,u,aC (l.length:Int),aC i,g 10,g 11,g 12,g 13])/\i<=l.length/\i<=m.length/\jQ l m=jQ (l.drop i) (m.drop i)/\Fr h s/\y=l.length-i) l.length
   ⟨0,aD rfl,om,om,rfl,Fr.refl h,rfl⟩ ?_
  rintro y x s ⟨i,⟨g,rfl⟩,hi,Z,e,f,rfl⟩
  by_cases a:(i:Int)<(l.length:Int)
  case neg=>
   have j:=bZ a;obtain rfl:i=l.length:=om
   rw[List.drop_length] at e
   by_cases a:(l.length:Int)<(m.length:Int)
   .have d2:=cV a
    refine jX j t o d2 ?_;refine⟨?_,f⟩;rw[e,EF (show l.length<m.length by omega)]
    rfl
   .have d2:=bZ a
    refine jX j t o d2 ?_;refine⟨?_,f⟩;rw[e,List.drop_eq_nil_of_le om]
    rfl
  have j:=cV a
  have b:i<l.length:=om
  have c:=kV f J L i b
  by_cases k:(m.length:Int)<=(i:Int)
  .have d2:=cV k
   refine nW j @A.ixa c o d2 ?_
   refine⟨?_,f⟩
   rw[e,List.drop_eq_nil_of_le (show m.length<=i by omega),EF b]
   rfl
  have d2:=bZ k
  have d:i<m.length:=om
  have r:=kV f O N i d
  refine Ie j @A.ixa c o d2 @K.ixa r ?_
  refine (Cls.rT _ _ s).mono ?_
  rintro _ Q ⟨rfl,P⟩
  have F:=f.trans P
  have B:=OP b d
  by_cases n:Cls.nG (l.getD i 0) (m.getD i 0)≠0
  .have q:=cV n
   refine bM q ?_
   exact⟨by rw[e,B,aS n],F⟩
  have q:=bZ n
  refine bM q ?_
  rw[fJ i]
  exact⟨l.length-(i+1),om,i+1,aD rfl,om,om,by rw[e,B,aQ n],F,rfl⟩
theorem ZX {α:Type}(pre a:List α)(x y:α):((pre++y::x::a).set (pre.length+1) y).set pre.length x=pre++x::y::a:=by
 rw[List.set_append_right _ _ om,List.set_append_right _ _ om];simp
def Bw (W:Nat->Prop)(id:Nat)(hh:H)(ws:List V)(l:List (List Int)):Prop:=hh.get id=cE ws/\id<hh.next/\bH (λv x=>SI hh v x/\vI (λq=>q=id\/W q) v) ws l
theorem Bw.fr {W:Nat->Prop}{id:Nat}{h h':H}{ws:List V}{l:List (List Int)}(b:Bw W id h ws l)(f:Fr h h'):Bw W id h' ws l:=
 ⟨by rw[f.get id b.2.1];exact b.1,by have:=f.next;have:=b.2.1;omega,b.2.2.mono λ_ _ x=>⟨x.1.mono f,x.2⟩⟩
theorem Bw.at {W:Nat->Prop}{id:Nat}{h:H}{ws:List V}{l:List (List Int)}(b:Bw W id h ws l){i:Nat}(hi:i<l.length):h.cell id i=some (ws.getD i .undef)/\SI h (ws.getD i .undef) (l.getD i [])/\vI (λq=>q=id\/W q) (ws.getD i .undef):=by
 have c:=bH.length b.2.2;have a:=bH.get b.2.2 i om hi;have e1:ws.getD i .undef=ws[i]:=by rw[gV,dJ om];rfl
 have e2:l.getD i []=l[i]:=by rw[gV,dJ hi];rfl
 rw[e1,e2];exact⟨by rw[H.cell_of b.1,dJ om],a.1,a.2⟩
section
variable {l0 l:List (List Int)} {i:Nat} {W:Nat->Prop}
set_option maxHeartbeats 64000000
theorem Zh: ∀x y:List Int,¬jQ x y<0->jQ y x<=0
 | [], [],_=>by decide
 | [],_::_,h=>absurd (by decide:(-1:Int)<0) h
 |_::_, [],_=>by unfold jQ;decide
 |a::l,b::m,h=>by
  unfold jQ at*
  by_cases c:a<b
  .rw[aS c] at h;exact absurd deC h
  .rw[aQ c] at h
   by_cases d:b<a
   .rw[aS d];decide
   .rw[aQ d] at h
    rw[aQ d,aQ c];exact Zh l m h
theorem FU: ∀x y z:List Int,jQ x y<=0->jQ y z<=0->jQ x z<=0
 | [],_, [],_,_=>by decide
 | [],_,_::_,_,_=>by unfold jQ;decide
 |_::_, [],_,h,_=>absurd h (by unfold jQ;decide)
 |_::_,_::_, [],_,h=>absurd h (by unfold jQ;decide)
 |a::l,b::m,c::n,h,k=>by
  unfold jQ at*
  by_cases o:a<b
  .by_cases d:b<c
   .rw[aS (show a<c by omega)];decide
   .rw[aQ d] at k
    by_cases f:c<b
    .rw[aS f] at k;exact absurd k deC
    .rw[aS (show a<c by omega)];decide
  .rw[aQ o] at h
   by_cases d:b<a
   .rw[aS d] at h;exact absurd h deC
   .rw[aQ d] at h
    by_cases f:b<c
    .rw[aS (show a<c by omega)];decide
    .rw[aQ f] at k
     by_cases j:c<b
     .rw[aS j] at k;exact absurd k deC
     .rw[aQ j] at k
      rw[aQ (show ¬a<c by omega),aQ (show ¬c<a by omega)];exact FU l m n h k
abbrev Nq (x y:List Int):Prop:=jQ x y<=0
structure Ins (l0:List (List Int))(i j:Nat)(l:List (List Int)):Prop where
 ex: ∃pre x mid post,l=pre++x::(mid++post)/\pre.length=j/\(pre++mid).length=i/\(pre++mid).Pairwise Nq/\(∀y∈mid,Nq x y)
 pm:l.Perm l0
theorem Ins.start (hi:i<l.length)(s:(l.take i).Pairwise Nq)(p:l.Perm l0):Ins l0 i i l:=by
 refine⟨⟨l.take i,l[i], [],l.drop (i+1),?_,by rw[jG];omega,by rw[qH,jG];omega,by rw[qH];exact s,λy h=>by cases h⟩,p⟩;rw[List.nil_append,<-EF hi,List.take_append_drop]
theorem Ins.stop {j:Nat}(n:Ins l0 i j l)(h: ∀y,j≠0->l[j- 1]? =some y-> ∀x,l[j]? =some x->Nq y x):(l.take (i+1)).Pairwise Nq:=by
 obtain⟨pre,x,c,b,rfl,m,hi,s,t⟩:=n.ex
 have e:(pre++x::(c++b)).take (i+1)=pre++x::c:=by
  rw[eE] at hi;rw[show pre++x::(c++b)=(pre++x::c)++b by simp,List.take_left' siO]
 rw[e,List.pairwise_append];rw[List.pairwise_append] at s
 have r: ∀y∈pre,Nq y x:=λy d=>by
  have f:pre≠ []:=λe=>by rw[e] at d;cases d
  obtain⟨a,z,rfl⟩: ∃a z,pre=a++ [z]:=⟨pre.dropLast,pre.getLast f,(List.dropLast_concat_getLast f).symm⟩
  have k:Nq z x:=by
   rw[eE] at m;have m:a.length+1=j:=m;refine h z om ?_ x ?_
   .rw[show j- 1=a.length by omega,AA,Hs om]
    simp
   .rw[<-m,Hs siM]
    simp
  rcases Es.1 d with o|o
  .have:=(List.pairwise_append.1 s.1).2.2 y o z (List.mem_singleton.2 rfl)
   exact FU _ _ _ this k
  .rw[List.mem_singleton.1 o];exact k
 refine⟨s.1,List.pairwise_cons.2 ⟨t,s.2.1⟩,λy d z q=>?_⟩;rcases Hu.1 q with rfl|q
 .exact r y d
 .exact s.2.2 y d z q
theorem Ins.step {j:Nat}(n:Ins l0 i j l)(v:0<j){x y:List Int}(q:l[j]? =some x)(f:l[j- 1]? =some y)(h:Nq x y):Ins l0 i (j- 1) ((l.set j y).set (j- 1) x)/\j<l.length:=by
 obtain⟨pre,d,c,b,rfl,m,hi,s,u⟩:=n.ex;have r:=n.pm;have k:pre≠ []:=λe=>by rw[e] at m;simp at m;omega
 obtain⟨a,z,rfl⟩: ∃a z,pre=a++ [z]:=⟨pre.dropLast,pre.getLast k,(List.dropLast_concat_getLast k).symm⟩
 have o:a.length+1=j:=by rw[eE] at m;exact m
 have t:z=y:=by
  rw[show j- 1=a.length by omega,AA,Hs om] at f;simpa using f
 have ex:d=x:=by
  rw[<-m,Hs om] at q;simpa using q
 subst t ex
 have e:((a++ [z]++d::(c++b)).set j z).set (j- 1) d=a++d::(z::c++b):=by
  have:=ZX a (c++b) d z;rw[show a++ [z]++d::(c++b)=a++z::d::(c++b) by simp,<-o,Nat.add_sub_cancel];exact this
 rw[e];refine⟨⟨⟨a,d,z::c,b,rfl,om,by rw[<-hi];simp,by rw[show a++z::c=a++ [z]++c by simp];exact s,λy f=>?_⟩,?_⟩,siO⟩
 .rcases Hu.1 f with rfl|f
  .exact h
  .exact u y f
 .refine List.Perm.trans ?_ r
  rw[show a++ [z]++d::(c++b)=a++z::d::(c++b) by simp];exact List.Perm.append_left a (List.Perm.swap _ _ _)
theorem RI (P:H->Prop)(id:Nat)(cap:qD)(fv:V)(l0:List (List Int))(Z: ∀hh hh',P hh->Fx (· =id) hh hh'->P hh')
  (hc: ∀hh vx vy x y,P hh->x∈l0->y∈l0->SI hh vx x->SI hh vy y->mD T fv [vx,vy] hh (λv h'=>v= aC (jQ x y)/\Fr hh h')) (h:H) (ws:List V) (b:Bw W id h ws l0) (p:P h) (l1:0<l0.length) (l2:l0.length<100000):
  Ev T 133 [.sl id 0 l0.length cap,aC 0,aC (l0.length:Int),fv] h (λ_ h'=> ∃ws' l',l'.Perm l0/\l'.Pairwise Nq/\Bw W id h' ws' l'/\P h'/\Fx (· =id) h h'):=by
 refine lG ?_
 obtain⟨n,hn⟩:=exI l0.length
 rw[hn]
 refine aP (λU vs hh=> ∃(i:Nat) (ws':List V) (l:List (List Int)),(∃g:Nat->V,vs= [.sl id 0 n cap,aC 0,aC n,fv,aC i,g 5,g 6,g 7])/\1<=i/\i<=n/\l.Perm l0/\(l.take i).Pairwise Nq/\Bw W id hh ws' l/\P hh/\Fx (· =id) h hh/\U=n-i) (n- 1)
  ⟨1,ws,l0,aD rfl,om,om,List.Perm.refl _,?_,b,p,Fx.refl _ _,rfl⟩ ?_
 .obtain⟨a,l,rfl⟩: ∃a l,l0=a::l:=by
   cases l0 with
   |nil=>simp at l1
   |cons a l=>exact⟨a,l,rfl⟩
  simp
 rintro U vs hh ⟨i,ws',l,⟨g,rfl⟩,i1,i2,pm,u,t,A,F,rfl⟩
 have ln:=pm.length_eq
 by_cases N:(i:Int)<(n:Int)
 case neg=>
  have d1:=bZ N;obtain rfl:i=n:=om
  refine bM d1 ?_;exact⟨ws',l,pm,by rw[Nb om] at u;exact u,t,A,F⟩
 have d1:=cV N
 refine bM d1 ?_
 refine aP (λU vs hh=> ∃(j:Nat) (ws':List V) (l:List (List Int)),(∃g:Nat->V,vs= [.sl id 0 n cap,aC 0,aC n,fv,aC i,aC j,g 6,g 7])/\j<=i/\Ins l0 i j l/\Bw W id hh ws' l/\P hh/\Fx (· =id) h hh/\U=j) i
  ⟨i,ws',l,aD rfl,dN _,Ins.start om u pm,t,A,F,rfl⟩ ?_
 clear t A F pm u ln
 rintro j vs Q ⟨_,f,l,⟨g,rfl⟩,ji,ins,t,A,F,rfl⟩
 have ln:=ins.pm.length_eq
 by_cases hj:(0:Int)<(j:Int)
 case neg=>
  have d2:=bZ hj;obtain rfl:j=0:=om
  have u:=ins.stop λy h=>absurd rfl h
  refine eZ d2 @abL ?_;rw[fJ i];have w:=(Fr.refl Q).cU (n:=Q.next+17) om;exact⟨n-(i+1),om,i+1,f,l,aD rfl,om,om,ins.pm,u,t.fr w,Z _ _ A (Fx.of w),F.trans (Fx.of (W:=(· =id)) w) λ_ _ h=>h,rfl⟩
 have d2:=cV hj
 have j0:0<j:=om
 have bj:=t.at (i:=j) om
 have bk:=t.at (i:=j- 1) om
 obtain⟨vx,G⟩: ∃v,f.getD j .undef=v:=⟨_,rfl⟩
 obtain⟨vy,O⟩: ∃v,f.getD (j- 1) .undef=v:=⟨_,rfl⟩
 obtain⟨x,Y⟩:=exI (l.getD j [])
 obtain⟨y,hy⟩:=exI (l.getD (j- 1) [])
 rw[G,Y] at bj
 rw[O,hy] at bk
 have mx:x∈l:=by rw[<-Y];exact bF om
 have my:y∈l:=by rw[<-hy];exact bF om
 have ex:l[j]? =some x:=by rw[<-Y,gV,dJ om];rfl
 have ey:l[j- 1]? =some y:=by rw[<-hy,gV,dJ om];rfl
 have ej:(j:Int)- 1=((j- 1:Nat):Int):=om
 have w:=(Fr.refl Q).cU (n:=Q.next+17) om
 refine jX d2 @bj.1 @bk.1 ej ?_
 refine mD.mono (hc _ vx vy x y (Z _ _ A (Fx.of w)) (ins.pm.mem_iff.1 mx) (ins.pm.mem_iff.1 my) (bj.2.1.mono w) (bk.2.1.mono w)) ?_
 rintro _ h3 ⟨rfl,f3⟩
 have F3:=w.trans f3
 have k:=t.fr F3
 have L:=Z _ _ A (Fx.of F3)
 have K:=F.trans (Fx.of (W:=(· =id)) F3) λ_ _ h=>h
 by_cases hk:jQ x y<0
 case neg=>
  have d3:=bZ hk
  have u:=ins.stop λy' _ h x' h'=>by
   rw[ey] at h;cases h;rw[ex] at h';cases h';exact Zh _ _ hk
  refine bM d3 ?_;rw[fJ i];exact⟨n-(i+1),om,i+1,f,l,aD rfl,om,om,ins.pm,u,k,L,K,rfl⟩
 have d3:=cV hk
 obtain⟨J,jl⟩:=ins.step j0 ex ey (show jQ x y<=0 by omega)
 have lw:=bH.length t.2.2
 have m:=k.at (i:=j) om
 have r:=k.at (i:=j- 1) om
 rw[G,Y] at m
 rw[O,hy] at r
 have wx:=SV.cT m.2.1
 have wy:=SV.cT r.2.1
 have p1:=λhh=>bE (vs:=f) (off:=j) om hh id vy
 have p2:=λhh=>bE (vs:=f.set j vy) (off:=j- 1) (by rw[List.length_set];omega) hh id vx
 refine Ux d3 @m.1 @r.1 ej (eH wy.1 wy.2.1) (eH wx.1 wx.2.1) @k.1 p1 p2 ?_
 obtain⟨z,e4⟩:=exI ((((H.mk h3.tr (h3.next+18)).set id (cE (f.set j vy))).set id (cE ((f.set j vy).set (j- 1) vx))))
 have B:Fx (· =id) h3 z:=by
  rw[<-e4];refine⟨by simp only[H.bT];omega,λq _ hq=>?_⟩;rw[H.Cj _ hq,H.Cj _ hq]
  rfl
 have g4:z.get id=cE ((f.set j vy).set (j- 1) vx):=by rw[<-e4,H.aJ]
 have a0:=k.2.1
 rw[e4]
 have iU:bH (λv x=>SI z v x/\vI (λq=>q=id\/W q) v) f l:=k.2.2.mono λv x ⟨s,o⟩=>⟨s.fx (W:=(· =id)) (by
  cases v with
  |sl a b c d=>exact λe=>o (.inl e)
  |_=>trivial) B,o⟩
 have rx:SI z vx x/\vI (λq=>q=id\/W q) vx:=⟨m.2.1.fx (W:=(· =id)) (by
  have o:=m.2.2
  cases vx with
  |sl a b c d=>exact λe=>o (.inl e)
  |_=>trivial) B,m.2.2⟩
 have ry:SI z vy y/\vI (λq=>q=id\/W q) vy:=⟨r.2.1.fx (W:=(· =id)) (by
  have o:=r.2.2
  cases vy with
  |sl a b c d=>exact λe=>o (.inl e)
  |_=>trivial) B,r.2.2⟩
 refine⟨j- 1,om,j- 1,_,_,aD rfl,om,J,⟨g4,by have:=B.next;omega,?_⟩,Z _ _ L B,K.trans B λ_ _ h=>h,rfl⟩
 exact bH.set (R:=λv x=>SI z v x/\vI (λq=>q=id\/W q) v) (bH.set (R:=λv x=>SI z v x/\vI (λq=>q=id\/W q) v) iU j ry) (j- 1) rx
theorem Vv (P:H->Prop)(id:Nat)(cap:qD)(a:V)(l0:List (List Int))(k: ∀hh hh',P hh->Fx (· =id) hh hh'->P hh')
  (s: ∀hh vx vy x y,P hh->x∈l0->y∈l0->SI hh vx x->SI hh vy y->mD T a [vx,vy] hh (λv h'=>v= aC (jQ x y)/\Fr hh h')) (h:H) (ws:List V) (b:Bw W id h ws l0) (p:P h) (n:0<l0.length) (w:l0.length<=12):
  Ev T 56 [.sl id 0 l0.length cap,a] h (λ_ h'=> ∃ws' l',l'.Perm l0/\l'.Pairwise Nq/\Bw W id h' ws' l'/\P h'/\Fx (· =id) h h'):=by
 have r:dD (V.sl id 0 l0.length cap)=some (aC (l0.length:Int)):=rfl
 have t:IntKind.u64.wrap (l0.length:Int)=(l0.length:Int):=Hi om om
 refine Hv r t ?_
 refine (SH l0.length h om).mono ?_
 rintro _ c ⟨rfl,rfl⟩
 refine aT ?_
 refine Ev.mono (Q:=λ_ h'=> ∃ws' l',l'.Perm l0/\l'.Pairwise Nq/\Bw W id h' ws' l'/\P h'/\Fx (· =id) c h') ?_ (λv h' j=>by simp(disch:=omega)only[go_sem];exact j)
 have o:decide (((l0.length:Nat):Int)<=12)=true:=cV om
 refine lG ?_
 refine aP (λf d hh=>hh=c/\(∃(m:Int) (g:Nat->V),d= [.sl id 0 l0.length cap,aC 0,aC (l0.length:Int),aC m,a,g 5,g 6,g 7,g 8,g 9,g 10,g 11,g 12,g 13,g 14,g 15,g 16,g 17,g 18,g 19,g 20,g 21,g 22,g 23])/\f=0) 0 ⟨rfl,⟨_,aD rfl⟩,rfl⟩ ?_
 rintro f d hh ⟨rfl,⟨m,g,rfl⟩,rfl⟩
 have e0:(l0.length:Int)- 0=(l0.length:Int):=Int.sub_zero _
 refine eZ e0 o ?_
 refine (RI P id cap a l0 k s hh ws b p n om).mono ?_
 rintro _ u q
 refine aT ?_
 exact q
theorem Nr (P:H->Prop)(it c:V)(h:H)(Q:V->H->Prop)
  (a:Ev T 186 [.aH,it] h (λv h'=> ∃id cap ws l,v= .sl id 0 l.length cap/\Bw W id h' ws l/\P h'/\0<l.length/\l.length<=12/\(∀hh hh',P hh->Fx (· =id) hh hh'->P hh')/\
   (∀hh vx vy x y,P hh->x∈l->y∈l->SI hh vx x->SI hh vy y->mD T c [vx,vy] hh (λv h'=>v= aC (jQ x y)/\Fr hh h'))/\
   ∀h2 ws' l',l'.Perm l->l'.Pairwise Nq->Bw W id h2 ws' l'->P h2->Fx (· =id) h' h2->Q (.sl id 0 l.length cap) h2)):
  Ev T 83 [it,c] h Q:=by
 refine lG ?_
 refine Ev.mono (Q:=λv h'=> ∃id cap ws l,v= .sl id 0 l.length cap/\Bw W id h' ws l/\P h'/\0<l.length/\l.length<=12/\(∀hh hh',P hh->Fx (· =id) hh hh'->P hh')/\
   (∀hh vx vy x y,P hh->x∈l->y∈l->SI hh vx x->SI hh vy y->mD T c [vx,vy] hh (λv h'=>v= aC (jQ x y)/\Fr hh h'))/\
   ∀h2 ws' l',l'.Perm l->l'.Pairwise Nq->Bw W id h2 ws' l'->P h2->Fx (· =id) h' h2->Q (.sl id 0 l.length cap) h2) ?_ ?_
 .refine mV ?_
  refine bM @aV ?_
  exact a.mono λv h' q=>by simp(disch:=omega)only[go_sem];exact q
 rintro _ s ⟨id,cap,ws,l,rfl,b,p,n,o,m,t,q⟩
 refine aT ?_
 refine (Vv P id cap c l m t s ws b p n o).mono ?_
 rintro _ h2 ⟨ws',l',d,j,k,r,f⟩
 refine aT ?_
 exact q h2 ws' l' d j k r f
end
set_option maxHeartbeats 32000000
theorem ahV (h:H)(n:Nat)(a:n<1000000):sD h 1 24 [.aH] (aC n) (aC n)=some (.sl h.next 0 n (.kn n),h.new (.cells false (rc n λ_=> .aH))):=by
 rw[iH om (Int.le_refl _) om om,Mc,jP,Fz];congr 4;exact (Dg siM λi hi=>by rw[List.getElem?_replicate,aS hi]).symm
theorem XN (h:H)(n:Nat)(a:n<1000000):sD h 1 8 [aC 0] (aC n) (aC n)=some (.sl h.next 0 n (.kn n),h.new (.cells false (rc n λ_=> aC 0))):=by
 rw[iH om (Int.le_refl _) om om,Mc,jP,Fz];congr 4;exact (Dg siM λi hi=>by rw[List.getElem?_replicate,aS hi]).symm
theorem Kj {n:Nat}{G:List Nat->Prop}{L:LN}{K:List Nat}{t:Tb}{w co:Nat->Nat->Int}(ik:vU n G L K)(k0:0<K.length)(a8:K.length<=12)(l5:L.length<=5040)(tp:0<t.p/\t.p<10000)(hp:fD (t.p:Int)=true)(CW:wJ t.p K.length (λi j k=>((mW G L K i j k:Nat):Int)) w co)(D M:Nat)(h:H)(Z:Vi n G L K t (Nw h) h D M):
  Ev T 43 [.ptr D 0] h (λv h'=> ∃l,l.Perm (Cx K.length w λ_=>true)/\l.Pairwise Nq/\SR h' v l/\Vi n G L K t (Nw h') h' D M/\Fx (· =M) h h'):=by
 obtain⟨vO,vR,vL,vP,O,R,gD,gc,hL,⟨B,_⟩,_⟩:=Z.ex
 have lD:=Z.lD
 have lM:=Z.lM
 obtain⟨r,Y⟩:=exI K.length
 refine mV ?_
 obtain⟨Q,hQ⟩:=exI h.next
 obtain⟨f,e1,n1,g1,o1,f1⟩:=iI hQ (rc r λ_=> .aH)
 have cL:h.cell D 3=some vL:=dW gD 3 _ rfl
 rw[Y] at B
 have lq:dD (V.sl Q 0 r (.kn r))=some (aC r):=rfl
 simp(disch:=omega)only[go_sem,aV,cL,B,ahV h r om,hQ,e1,lq]
 refine dG (λvs c=>(∃g:Nat->V,vs= [.ptr D 0,g 1,aC r,.sl Q 0 r (.kn r),g 4,g 5,g 6,g 7])/\Fr h c/\(∃ρ:Nat->Nat,c.get Q=some (.cells false (rc r λa=> .sl (ρ a) 0 r (.kn r)))/\ ∀a,a<r->Q<ρ a/\ρ a<c.next/\c.get (ρ a)=some (.cells false (rc r λj=> aC (if j=a then 1 else 0))))/\Q<c.next) ?_ ?_
 .refine aP (λk' o c=> ∃(i:Nat) (ρ:Nat->Nat),(∃g:Nat->V,o= [.ptr D 0,g 1,aC r,.sl Q 0 r (.kn r),g 4,aC r,aC i,g 7])/\i<=r/\c.get Q=some (.cells false (rc r λa=>if a<i then .sl (ρ a) 0 r (.kn r) else .aH))/\(∀a,a<i->Q<ρ a/\ρ a<c.next/\c.get (ρ a)=some (.cells false (rc r λj=> aC (if j=a then 1 else 0))))/\Fr h c/\Q<c.next/\k'=r-i) r
   ⟨0,λ_=>0,aD rfl,fY _,by rw[g1];rfl,λa h=>om,f1,om,rfl⟩ ?_
  rintro k' o b ⟨i,ρ,⟨g',rfl⟩,hi,P,rows,F,nQ,rfl⟩
  by_cases u:(i:Int)<(r:Int)
  case neg=>
   have d1:=bZ u;obtain rfl:i=r:=om
   refine bM d1 ?_;refine⟨aD rfl,F,⟨ρ,?_,rows⟩,nQ⟩;rw[P];congr 2;exact bW λa ha=>by rw[aS ha]
  have d1:=cV u
  have s:i<r:=om
  obtain⟨S,hS⟩:=exI b.next
  obtain⟨d,e3,n3,g3,o3,J⟩:=iI hS (rc r λ_=> aC 0)
  have a1:d.get Q=some (.cells false (rc r λa=>if a<i then .sl (ρ a) 0 r (.kn r) else .aH)):=by rw[o3 Q om];exact P
  obtain⟨m,e4,n4,g4,o4⟩:=xN d Q (rc r λa=>if a<i+1 then .sl (if a=i then S else ρ a) 0 r (.kn r) else .aH)
  have p4:dY (some (.cells false (rc r λa=>if a<i then .sl (ρ a) 0 r (.kn r) else .aH))) d Q i [.sl S 0 r (.kn r)]=some m:=by
   rw[bE (by rw[dE];exact s),iQ,<-e4];congr 4;refine bW λa ha=>?_
   by_cases e:a=i
   .rw[aS e,aS om,aS e]
   .rw[aQ e]
    by_cases e2:a<i
    .rw[aS e2,aS om,aQ e]
    .rw[aQ e2,aQ om]
  have a5:m.cell Q i=some (.sl S 0 r (.kn r)):=by
   rw[H.cell_of g4,yA s,aS om,aS rfl]
  have a0:m.get S=some (.cells false (rc r λ_=> aC 0)):=by rw[o4 S om];exact g3
  obtain⟨z,e5,n5,g5,o5⟩:=xN m S (rc r λj=> aC (if j=i then 1 else 0))
  have p5:dY (some (.cells false (rc r λ_=> aC 0))) m S i [aC 1]=some z:=by
   rw[bE (by rw[dE];exact s),iQ,<-e5];congr 4;exact bW λj _=>by by_cases e:j=i<;>simp [e]
  simp(disch:=omega)only[go_sem,d1,XN b r om,hS,e3,a1,p4,a5,a0,p5]
  rw[fJ i]
  refine⟨r-(i+1),om,i+1,λa=>if a=i then S else ρ a,aD rfl,om,by rw[o5 Q om];exact g4,λa ha=>?_,⟨by have:=F.next;omega,λq hq=>by rw[o5 q (by have:=F.next;omega),o4 q om,o3 q (by have:=F.next;omega)];exact F.get q hq⟩,om,rfl⟩
  show Q<(if a=i then S else ρ a)/\(if a=i then S else ρ a)<z.next/\z.get (if a=i then S else ρ a)=_
  by_cases e:a=i
  .subst e
   rw[aS rfl]
   exact⟨om,om,g5⟩
  .rw[aQ e]
   obtain⟨r1,r2,N⟩:=rows a om
   exact⟨r1,om,by rw[o5 _ om,o4 _ om,o3 _ om];exact N⟩
 rintro vs b ⟨⟨g,rfl⟩,F,⟨ρ,P,rows⟩,nQ⟩
 have cp:b.cell D 6=some (aC (t.p:Int)):=dW ((F.get D lD).trans gD) 6 _ rfl
 have bl:mP [.aH,aC 0,aC 0] [(0,1,.sl Q 0 r (.kn r)),(1,1,aC (t.p:Int)),(2,1,aC r)]=some (.agg [.sl Q 0 r (.kn r),aC (t.p:Int),aC r]):=by
  simp [mP,fP,putAt,V.cells,V.one]
 refine eZ cp bl ?_
 refine (Xa D (.sl Q 0 r (.kn r)) (t.p:Int) r 0 b rfl).mono ?_
 rintro _ d ⟨S,Bd,Bi,rfl,s1,s2,s3,s4,s5,s6,gS,gB,gI,J⟩
 have F3:=F.trans J
 have n3:=F3.next
 have a7:=J.next
 have sW:Xh (λq=>Nw d q\/q=M) d (.sl Q 0 r (.kn r)) (Ln.kM r r λi j=>if j=i then 1 else 0):=by
  have nq: ∀q,Q<=q->q<d.next-> ¬(Nw d q\/q=M):=λq f b e=>by
   rcases e with e|e
   .have e:d.next<=q:=e
    omega
   .omega
  refine⟨rc r λa=> .sl (ρ a) 0 r (.kn r),SV.all (by rw[dE,jP]) om (by rw[J.get Q om];exact P) _,nq Q om om,bH.jF (by rw[dE,Ln.dC]) λa f a6=>?_⟩;rw[dE] at f;obtain⟨r1,r2,N⟩:=rows a f;have e1:(rc r λa=>V.sl (ρ a) 0 r (.kn r))[a]'(by rw[dE];exact f)= .sl (ρ a) 0 r (.kn r):=by simp [rc]
  have e2:(Ln.kM r r λi j=>if j=i then (1:Int) else 0)[a]'(by rw[Ln.dC];exact f)=Ln.eN r λj=>if j=a then 1 else 0:=by simp [Ln.kM]
  rw[e1,e2];have e3:(rc r λj=>aC (if j=a then 1 else 0))=ints (Ln.eN r λj=>if j=a then 1 else 0):=by simp [rc,ints,Ln.eN,Function.comp_def]
  rw[e3] at N;exact⟨SV.all (by rw[aE,Ln.aW,jP]) om (by rw[J.get _ r2];exact N) _,nq (ρ a) om om⟩
 rw[<-Y] at sW gS
 have wl:(Cx K.length w λ_=>true).length=r:=by
  unfold Cx;rw[dO,List.filter_eq_self.2 λ_ _=>rfl,gT,Y]
 refine (Nr (W:=(· =M)) (λ_=>True) _ _ d (λv h'=> ∃l,l.Perm (Cx K.length w λ_=>true)/\l.Pairwise Nq/\SR h' v l/\Vi n G L K t (Nw h') h' D M/\Fx (· =M) h h') ?_).mono ?_
 .refine (Hy ik k0 om l5 tp hp CW D M d S Bd Bi _ gS gB gI ⟨s2,om⟩ ⟨s4,om⟩ ⟨s6,om⟩ sW (Z.go (Fx.of F3) λq f b=>?_)).mono ?_
  .have b:d.next<=q:=b
   omega
  rintro _ m ⟨id,a3,ws,l,rfl,i1,i2,gi,pm,al,a2,F4⟩
  have le:=pm.length_eq
  refine⟨id,a3,ws,l,rfl,⟨gi,i2,al⟩,trivial,om,om,λ_ _ _ _=>trivial,λc vx vy x y _ hx hy sx sy=>?_,λz a4 l' A so U _ f5=>?_⟩
  .have lx: ∀x∈l,x.length=r:=λx hx=>by
    have:=pm.mem_iff.1 hx;unfold Cx at this;obtain⟨a,_,rfl⟩:=oG.1 this;rw[Ln.aW,Y]
   exact Hm vx vy x y c sx sy (by rw[lx x hx];omega) (by rw[lx y hy];omega)
  .have n5:=f5.next
   have ll:=bH.length U.2.2
   refine⟨l',A.trans pm,so,⟨a4,SV.all (by have:=A.length_eq;omega) U.2.1 U.1 _,U.2.2.mono λ_ _ x=>x.1⟩,a2.go (W:=λq=>Nw m q\/q=id) (f5.mE λ_ _ h=> .inr h) λq f b=>?_,?_⟩
   .have b:z.next<=q:=b
    omega
   .have a:=(Fx.of (W:=(· =M)) F3).trans F4 λ_ _ h=>h
    refine⟨by have:=a.next;omega,λq f b=>?_⟩
    rw[f5.get q (by have:=a.next;omega) (by show q≠id;omega)]
    exact a.get q f b
 rintro v m q
 refine aT ?_
 exact q
set_option maxHeartbeats 32000000
noncomputable def yK (G:List Nat->Prop)(L:LN)(K:List Nat)(t:Tb)(k:Nat):Int:=iv t.p (lI G L K k:Nat)%t.p
theorem Xk {p y z s:Int}(d:0<=y/\y<p)(i:0<=z/\z<p)(f:y*s%p=1)(h2:z*s%p=1):y=z:=by
 have j:1<p:=by
  rcases Int.lt_or_le 1 p with h|h
  .exact h
  .have:p=1:=om
   rw[this] at f;have:=Int.emod_one (y*s);omega
 have e1:(1:Int)%p=1:=Int.emod_eq_of_lt om j;have a:=mul_mod (p:=p) (rfl:y%p=y%p) (h2.trans e1.symm);have b:=mul_mod (p:=p) (rfl:z%p=z%p) (f.trans e1.symm);rw[Int.mul_one,Int.emod_eq_of_lt d.1 d.2] at a;rw[Int.mul_one,Int.emod_eq_of_lt i.1 i.2] at b;have c:y*(z*s)=z*(y*s):=by grind
 rw[c] at a;exact a.symm.trans b
section
variable {n:Nat} {G:List Nat->Prop} {L:LN} {K:List Nat} {t:Tb} {X:Nat->List Nat->Int} {W:Nat->Prop} (hG:oK n G) (E:fW G L) (ik:vU n G L K) (C:DB n G L t K.length X)
include hG E ik C
theorem TX {k:Nat}(a:k<K.length):yK G L K t k*((lI G L K k:Nat):Int)%t.p=1/\0<=yK G L K t k/\yK G L K t k<t.p:=by
 have b:=vW C;refine⟨?_,Int.emod_nonneg _ om,Int.emod_lt_of_pos _ om⟩;unfold yK;rw[mul_mod (zP _ _) rfl];exact GY C.pr (GL hG E ik C a)
theorem HH (D M:Nat)(h:H)(d:Vi n G L K t W h D M)(x:Int)(j:0<=x)(x1:x<100000000000)(i:Nat)(hi:i<K.length):
  Ev T 54 [.ptr D 0,aC x,aC i] h (λv h'=>v= aC (x%t.p*yK G L K t i%t.p)/\Fr h h'):=by
 obtain⟨vO,vR,o,vP,O,R,gD,gc,hL,⟨P,id,B,r,wi,li,l⟩,sP,oP⟩:=d.ex
 have z:=d.lD
 have p1:=vW C
 have c:=C.p100
 have pp:=C.pr
 have J:h.cell D 3=some o:=dW gD 3 _ rfl
 have Z:h.cell D 6=some (aC (t.p:Int)):=dW gD 6 _ rfl
 have w:=l i hi
 have N:=Wi hG E ik C hi
 have s2:=Lk hG E ik hi
 refine Nk J @r.ixa w Z ?_
 have Q:=(Fr.refl h).cU (n:=h.next+18) om
 refine (Ln.DR _ _ _ pp om ⟨om,N⟩).mono ?_
 rintro _ m ⟨y,rfl,U,q,y2,Y⟩
 obtain⟨f,b,u⟩:=TX hG E ik C hi
 obtain rfl:=Xk ⟨U,q⟩ ⟨b,u⟩ y2 f
 have F2:=Q.trans Y
 have a:m.cell D 6=some (aC (t.p:Int)):=dW ((F2.get D z).trans gD) 6 _ rfl
 have A:x.tmod (t.p:Int)=x%t.p:=Int.tmod_eq_emod_of_nonneg j
 have F:=Int.emod_nonneg x (show (t.p:Int)≠0 by omega)
 have m1:=Int.emod_lt_of_pos x (show (0:Int)<t.p by omega)
 have s:0<=x%t.p*yK G L K t i:=Int.mul_nonneg F b
 have b1:x%t.p*yK G L K t i<=100*100:=Int.mul_le_mul om om b om
 have k:(x%t.p*yK G L K t i).tmod (t.p:Int)=x%t.p*yK G L K t i%t.p:=Int.tmod_eq_emod_of_nonneg s
 refine iG a A k ?_
 exact F2.cU om
noncomputable def YY (G:List Nat->Prop)(L:LN)(K:List Nat)(t:Tb)(X:Nat->List Nat->Int)(a k:Nat):Int:=wK G L K t X a k*wK G L K t X a (sX G L K k)%t.p*yK G L K t k%t.p
theorem KV (D M:Nat)(h:H)(dx:Vi n G L K t W h D M)(a3:K.length<=64)(l5:L.length<=5040)(a:Nat)(J:a<K.length)(vw:V)(sw:SI h vw (Ln.eN K.length (wK G L K t X a))):
  Ev T 53 [.ptr D 0,vw] h (λv h'=>v= aC (tv t a 0:Nat)/\Fr h h'):=by
 obtain⟨vO,vR,vL,vP,O,R,gD,gc,hL,_,sP,oP⟩:=dx.ex
 have Z:=dx.lD
 have p1:=vW C
 have a1:=C.p100
 have CW:=chW hG E ik C
 obtain⟨r,u⟩:=exI K.length
 have lw:=sw.lens
 rw[Ln.aW,u] at lw
 obtain⟨iw,ow,U,j,l⟩:=sw.open
 rw[Ln.aW,u] at U j l
 have lz:(zi ((List.range K.length).map (sX G L K))).length=r:=by rw[bD,dO,gT,u]
 obtain⟨ip,op,Q,z,w⟩:=sP.open
 rw[lz] at Q z w
 have wv: ∀k,k<r->(Ln.eN r (wK G L K t X a)).getD k 0=wK G L K t X a k:=λk P=>Ln.cZ _ P
 have dT: ∀k,0<=YY G L K t X a k/\YY G L K t X a k<t.p:=λk=>⟨Int.emod_nonneg _ om,Int.emod_lt_of_pos _ om⟩
 have sb: ∀k,0<=sm k (YY G L K t X a)/\sm k (YY G L K t X a)<=100*k:=λk=>by
  induction k with
  |zero=>exact⟨Int.le_refl 0,Int.le_refl 0⟩
  |succ k ih=>
   have:=dT k;rw[bQ];omega
 refine pM lw ?_
 refine dG (λi d=>(∃g:Nat->V,i= [.ptr D 0,vw,g 2,aC (sm r (YY G L K t X a)),g 4,g 5,g 6,g 7,g 8,g 9,g 10,g 11])/\Fr h d) ?_ ?_
 .refine aP (λB i d=> ∃k:Nat,(∃g:Nat->V,i= [.ptr D 0,vw,g 2,aC (sm k (YY G L K t X a)),g 4,g 5,g 6,vw,aC r,aC k,g 10,g 11])/\k<=r/\Fr h d/\B=r-k) r
   ⟨0,aD rfl,fY _,Fr.refl h,rfl⟩ ?_
  rintro B i d ⟨k,⟨g,rfl⟩,P,F,rfl⟩
  by_cases N:(k:Int)<(r:Int)
  case neg=>
   have o:=bZ N;obtain rfl:k=r:=om
   refine bM o ?_;exact⟨aD rfl,F⟩
  have o:=cV N
  have c:k<r:=om
  have ck:=kV F j l k c
  rw[wv k c] at ck
  have c4:d.cell D 4=some vP:=dW ((F.get D Z).trans gD) 4 _ rfl
  have m:=kV F z w k c
  rw[show (zi ((List.range K.length).map (sX G L K))).getD k 0=((sX G L K k:Nat):Int) by simp [zi,u,c]] at m
  obtain⟨q,hq⟩:=exI (sX G L K k)
  have A:q<r:=by rw[<-hq,<-u];exact FT hG E ik om
  rw[hq] at m
  have cq:=kV F j l q A
  rw[wv q A] at cq
  have r1:=CW.rng a k J om
  have r2:=CW.rng a q J om
  have b0:=Int.mul_nonneg r1.1 r2.1
  have b1:wK G L K t X a k*wK G L K t X a q<=100*100:=Int.mul_le_mul om om r2.1 om
  refine Ie o @U.ixa ck c4 @Q.ixa m cq ?_
  refine (HH hG E ik C D M d (dx.go (Fx.of F) λ_ _ h=>h) _ b0 om k om).mono ?_
  rintro _ b ⟨rfl,f2⟩
  have eT:wK G L K t X a k*wK G L K t X a q%t.p*yK G L K t k%t.p=YY G L K t X a k:=by rw[<-hq];rfl
  have s1:=sb k
  have s2:=dT k
  simp(disch:=omega)only[go_sem,eT,<-bQ]
  rw[fJ k]
  have s3:=sb (k+1)
  rw[Ii om om]
  exact⟨r-(k+1),om,k+1,aD rfl,om,F.trans f2,rfl⟩
 rintro i d ⟨⟨g,rfl⟩,F⟩
 obtain⟨s,hs⟩:=exI (sm r (YY G L K t X a))
 have s1:=sb r
 rw[hs] at s1
 have W2:=alO hG E ik C J (y:=yK G L K t) (λk P=>(TX hG E ik C P).1) (f:=YY G L K t X a) λk P=>by
  unfold YY;rw[zP,mul_mod (zP _ _) rfl]
 rw[u,hs] at W2
 have dg:=C.dg a J
 have g5: ∀b,Fr h b->b.cell D 5=some (aC (L.length:Int)):=λb f=>dW ((f.get D Z).trans gD) 5 _ rfl
 have g6: ∀b,Fr h b->b.cell D 6=some (aC (t.p:Int)):=λb f=>dW ((f.get D Z).trans gD) 6 _ rfl
 rw[hs]
 refine aT ?_
 have ts:s.tmod (t.p:Int)=s%t.p:=Int.tmod_eq_emod_of_nonneg s1.1
 have tn:((L.length:Nat):Int).tmod (t.p:Int)=(L.length:Int)%t.p:=Int.tmod_eq_emod_of_nonneg om
 have x:=Int.emod_nonneg s (show (t.p:Int)≠0 by omega)
 have a4:=Int.emod_lt_of_pos s (show (0:Int)<t.p by omega)
 refine aP (λB i d=> ∃k:Nat,(∃g:Nat->V,i= [.ptr D 0,g 1,g 2,aC s,g 4,g 5,aC k,g 7,g 8,g 9,g 10,g 11])/\1<=k/\k<=tv t a 0/\Fr h d/\B=tv t a 0-k) (tv t a 0- 1)
  ⟨1,aD rfl,om,om,F,rfl⟩ ?_
 rintro B i b ⟨k,⟨g,rfl⟩,k1,k2,F2,rfl⟩
 have c5:=g5 b F2
 have c6:=g6 b F2
 have q0:0<=(k:Int)*k:=Int.mul_nonneg om om
 have q1:(k:Int)*k<=100*100:=Int.mul_le_mul om om om om
 have tk:((k:Int)*k).tmod (t.p:Int)=(k:Int)*k%t.p:=Int.tmod_eq_emod_of_nonneg q0
 have a0:=Int.emod_nonneg ((k:Int)*k) (show (t.p:Int)≠0 by omega)
 have HQ:=Int.emod_lt_of_pos ((k:Int)*k) (show (0:Int)<t.p by omega)
 have w0:0<=(k:Int)*k%t.p*(s%t.p):=Int.mul_nonneg a0 x
 have w1:(k:Int)*k%t.p*(s%t.p)<=100*100:=Int.mul_le_mul om om x om
 have tw:((k:Int)*k%t.p*(s%t.p)).tmod (t.p:Int)=(k:Int)*k*s%t.p:=by
  rw[Int.tmod_eq_emod_of_nonneg w0];exact mul_mod (zP _ _) (zP _ _)
 by_cases Y:(k:Int)*k*s%t.p=(L.length:Int)%t.p
 .have o:=cV Y
  have le:=LF C J W2 k1 Y
  obtain rfl:k=tv t a 0:=om
  refine Ie c5 c6 tk ts tw tn o ?_
  exact F2.cU om
 .have o:=bZ Y
  have a2:k≠tv t a 0:=λe=>Y (by rw[e];exact W2)
  refine Ie c5 c6 tk ts tw tn o ?_
  rw[fJ k]
  exact⟨tv t a 0-(k+1),om,k+1,aD rfl,om,om,F2.cU om,rfl⟩
end
set_option maxHeartbeats 64000000
theorem Hf {α β:Type}{f:α->β}{l m:List β}(p:l.Perm m): ∀L:List α,m=L.map f-> ∃L':List α,L'.Perm L/\l=L'.map f:=by
 induction p with
 |nil=>exact λL h=>⟨[],by rw[List.map_eq_nil_iff.1 h.symm],rfl⟩
 |cons x _ ih=>
  intro L h
  cases L with
  |nil=>cases h
  |cons a L=>
   rw[List.map_cons,List.cons.injEq] at h;obtain⟨L',p,rfl⟩:=ih L h.2;exact⟨a::L',p.cons a,by rw[List.map_cons,h.1]⟩
 |swap x y l=>
  intro L h
  cases L with
  |nil=>cases h
  |cons a L=>cases L with
   |nil=>cases h
   |cons b L=>
    rw[List.map_cons,List.map_cons,List.cons.injEq,List.cons.injEq] at h
    exact⟨b::a::L,List.Perm.swap ..,by rw[List.map_cons,List.map_cons,h.1,h.2.1,h.2.2]⟩
 |trans _ _ ih1 ih2=>
  intro L h;obtain⟨j,c,e1⟩:=ih2 L h;obtain⟨d,i,e2⟩:=ih1 j e1;exact⟨d,i.trans c,e2⟩
theorem abK (d:Nat)(k o:V)(x y:List Int)(h:H)(g:h.get d=some (.cells false [.fn 55 [] []]))(J:SI h k x)(F:SI h o y)(z:0<x.length/\x.length<1000000)(u:0<y.length/\y.length<1000000)(B:d<h.next):
  mD T (.fn 57 [] [.ptr d 0]) [k,o] h (λv h'=>v= aC (jQ x y)/\Fr h h'):=by
 show Ev T 57 [k,o,.ptr d 0] h _
 have c: ∀i,Fr h i->i.cell d 0=some (.fn 55 [] []):=λi f=>dW ((f.get d B).trans g) 0 _ rfl
 have first:(v:V)->(l:List Int)->(i:H)->SI i v l->0<l.length->Ev T 55 [v] i (λw h'=>w= aC (l.getD 0 0)/\h'=i):=λv l i s hl=>by
  refine mV ?_;obtain⟨i1,Y,s1,b1,W⟩:=s.open;have N:=W 0 hl;have Z:Ci 1 v (aC 0)=some (.ptr i1 Y):=by rw[s1.ixa .i64 0 om om];rfl
  rw[Nat.add_zero] at N;simp(disch:=omega)only[go_sem,aV,Z,N]
 have t:=(Fr.refl h).cU (n:=h.next+13) om
 have cb:=c _ t
 have O:dS (V.fn 55 [] []) (V.fn 55 [] [])=true:=by simp [dS,qE]
 refine pM (c h (Fr.refl h)) ?_
 refine (first k x _ (J.mono t) z.1).mono ?_
 rintro _ j ⟨rfl,rfl⟩
 refine eZ (c h (Fr.refl h)) O ?_
 refine (first o y _ (F.mono t) u.1).mono ?_
 rintro _ j ⟨rfl,rfl⟩
 refine aT ?_
 refine (Cls.rT _ _ _).mono ?_
 rintro _ h3 ⟨rfl,L⟩
 have A:=t.trans L
 refine aT ?_
 refine (Hm k o x y h3 (J.mono A) (F.mono A) z.2 u.2).mono ?_
 rintro _ q ⟨rfl,K⟩
 have G:=A.trans K
 have Q: ∀i:H,lU i 1 [aC 0] 2 [(0,1,aC (Cls.nG (x.getD 0 0) (y.getD 0 0))),(1,1,aC (jQ x y))]=some (.sl i.next 0 2 (.kn 2),i.new (.cells false (ints [Cls.nG (x.getD 0 0) (y.getD 0 0),jQ x y]))):=λi=>rfl
 simp(disch:=omega)only[go_sem,Q,Ln.Ih]
 have n4:=G.next
 have R:h.next+13<=q.next:=(L.trans K).next
 have fl:=Ln.Bo G (a:=h.next+10) (m:=q.next) om om (ints [Cls.nG (x.getD 0 0) (y.getD 0 0),jQ x y])
 have P:SI (Ln.pY q (h.next+10) (ints [Cls.nG (x.getD 0 0) (y.getD 0 0),jQ x y]) q.next) (.sl (h.next+10) 0 2 (.kn 2)) [Cls.nG (x.getD 0 0) (y.getD 0 0),jQ x y]:=SV.all rfl (by rw[Ln.zA];omega) (Ln.xO ..) _
 refine (Cls.afR _ _ _ siM P).mono ?_
 rintro _ h5 ⟨rfl,f5⟩
 have e:Cls.Zw [Cls.nG (x.getD 0 0) (y.getD 0 0),jQ x y]=jQ x y:=by
  cases x with
  |nil=>exact absurd z.1 siM
  |cons a l=>cases y with
   |nil=>exact absurd u.1 siM
   |cons b m=>
    have ea:((a::l).getD 0 0:Int)=a:=rfl
    have U:((b::m).getD 0 0:Int)=b:=rfl
    rw[ea,U]
    unfold Cls.Zw Cls.nG
    by_cases r:a<b
    .rw[aS r,aQ deC]
     unfold jQ
     rw[aS r]
    .rw[aQ r]
     by_cases j:b<a
     .rw[aS j,aQ deC]
      unfold jQ
      rw[aQ r,aS j]
     .rw[aQ j,aS rfl]
      unfold Cls.Zw Cls.Zw
      split
      .rename_i h;exact h.symm
      .rfl
 rw[e]
 refine aT ?_
 exact fl.trans f5
section
variable {n:Nat} {G:List Nat->Prop} {L:LN} {K:List Nat} {t:Tb} {X:Nat->List Nat->Int}
noncomputable def uL (L:LN)(K:List Nat)(X:Nat->List Nat->Int)(a:Nat):List Int:=Ln.eN K.length (JT L K X a)
theorem Wd {W0:Nat->Prop}(vc:V)(O:LN)(R:nZ)(h:H)(gc:GC W0 h vc n O R G)(hL:cK O R n 0 (bI n)=L)(ik:vU n G L K)(g0:K.length<=12)(C:DB n G L t K.length X)(te:t.e<=120):
  Ev T 29 [vc] h (λv h'=> ∃u l,v= .tup [aC (t.p:Int),u,aC 0]/\l.Perm ((List.range K.length).map (uL L K X))/\l.Pairwise Nq/\SR h' u l/\Fr h h'):=by
 have e7:=gc
 obtain⟨vO,vR,rfl,sO,sR⟩:=gc.ch
 have b7:vO.one=true:=NB sO
 have c9:vR.one=true:=KY sR
 have hG:=gc.kT
 obtain⟨E,ll⟩:=dV gc.kT gc.isc
 have l5:=kF gc
 rw[hL] at E ll
 have k0:=(sV hG E ik).1
 have p1:=vW C
 have g2:=C.p100
 have pp:=C.pr
 have hp:fD (t.p:Int)=true:=by
  unfold fD;rw[pp,cV (show (t.p:Int)<10000 by omega)];rfl
 have CW:=chW hG E ik C
 obtain⟨B,hB⟩:=exI h.next
 obtain⟨h1,e1,n1,g1,o1,f1⟩:=iI hB [aC n,vO,vR]
 have bx:=dH h (v:= aC n) (u:=vO) (w:=vR) rfl b7 c9
 refine Nk bx hB e1 (bU g1) ?_
 refine (Wu _ n O R G h1 (e7.mono f1) L hL K ik om t X C te).mono ?_
 rintro _ h2 ⟨D,M,rfl,f2,hD,hM,dx⟩
 refine aT ?_
 refine bV (λhc=>(hc rfl).elim) (λ_=>?_)
 refine aT ?_
 refine (Kj ik k0 g0 om ⟨om,om⟩ hp CW D M h2 dx).mono ?_
 rintro b2 P ⟨lc,pm,so,sc,b3,f3⟩
 obtain⟨N,pa,rfl⟩:=Hf pm _ rfl
 have pa:N.Perm (List.range K.length):=by
  rwa [List.filter_eq_self.2 λ_ _=>rfl] at pa
 have la:=pa.length_eq
 rw[gT] at la
 obtain⟨r,hr⟩:=exI K.length
 have F3:Fr h1 P:=⟨by have:=f2.next;have:=f3.next;omega,λq J=>by rw[f3.get q (by have:=f2.next;omega) (by show q≠M;omega)];exact f2.get q J⟩
 have ls:=sc.lens
 rw[dO,la,hr] at ls
 have mem: ∀i,i<r->N.getD i 0<r:=λi hi=>by
  have:=pa.mem_iff.1 (bF (l:=N) (k:=i) (d:=0) om);rw[hr] at this;exact mS.1 this
 obtain⟨ic,oc,ws,sh,c1,f4,b9,d5⟩:=sc.open
 rw[dO,la,hr] at sh c1 f4 b9
 refine bM ls ?_
 have b6: ∀F,Fr P F->Vi n G L K t (Nw P) F D M:=λF f=>b3.go (Fx.of f) λ_ _ h=>h
 refine dG (λvs F=> ∃id:Nat,(∃g:Nat->V,vs= [g 0,g 1,g 2,.sl id 0 r (.un 1),g 4,.ptr D 0,g 6,g 7,g 8,g 9,g 10,g 11,g 12,g 13,g 14,g 15,g 16,g 17,g 18,g 19,g 20,g 21])/\P.next<=id/\(∃U,Bw (λ_=>False) id F U (N.map (uL L K X)))/\Fr P F) ?_ ?_
 .refine aP (λk' vs F=> ∃(i:Nat) (u:V) (U:List V),(∃g:Nat->V,vs= [g 0,g 1,g 2,u,g 4,.ptr D 0,g 6,g 7,g 8,g 9,g 10,g 11,g 12,g 13,b2,aC r,aC i,g 17,g 18,g 19,g 20,g 21])/\i<=r/\dF F u 1 U P.next/\(u= .aH/\i=0\/ ∃id,u= .sl id 0 i (.un 1)/\F.get id=some (.cells false U))/\bH (λv x=>SI F v x/\vI (λq=> ∃o n c,u= .sl q o n c) v) U ((N.take i).map (uL L K X))/\Fr P F/\k'=r-i) r
   ⟨0,.aH, [],aD rfl,fY _,dF.aH _ _ _,.inl ⟨rfl,rfl⟩,trivial,Fr.refl _,rfl⟩ ?_
  rintro k' vs h4 ⟨i,u,U,⟨g,rfl⟩,hi,ow,d3,a2,F4,rfl⟩
  have n4:=F4.next
  by_cases b8:(i:Int)<(r:Int)
  case neg=>
   have d1:=bZ b8;obtain rfl:i=r:=om
   rcases d3 with ⟨_,e⟩|⟨id,rfl,d7⟩
   .omega
   refine bM d1 ?_;obtain⟨q1,q2,_⟩:=ow.in id 0 i (.un 1) rfl;refine⟨id,aD rfl,q2,⟨U,d7,q1,?_⟩,F4⟩;rw[Nb om] at a2
   exact a2.mono λv x ⟨s,o⟩=>⟨s,by
    cases v with
    |sl a b c d=>exact λe=>e.elim (λe=>o ⟨0,i,.un 1,by rw[show a=id from e]⟩) λe=>e
    |_=>trivial⟩
  have d1:=cV b8
  have c3:i<r:=om
  obtain⟨a,ha⟩:=exI (N.getD i 0)
  have g3:a<r:=by rw[<-ha];exact mem i c3
  have a5:a<K.length:=om
  obtain⟨vw,c0⟩: ∃v,ws.getD i .undef=v:=⟨_,rfl⟩
  have d8:h4.cell ic (oc+i)=some vw:=by rw[F4.cell (c1 om),b9 i c3,c0]
  have sw:=Mz d5 (i:=i) (by rw[dO];omega)
  rw[c0,show (N.map λa=>Ln.eN K.length (wK G L K t X a)).getD i []=Ln.eN K.length (wK G L K t X a) by
   rw[gV,Al,dJ om]
   rw[<-ha,gV,dJ om];rfl] at sw
  have c8:=sw.mono F4
  refine iG d1 @sh.ixa d8 ?_
  refine (KV hG E ik C D M h4 (b6 h4 F4) om om a a5 vw c8).mono ?_
  rintro _ h5 ⟨rfl,f5⟩
  have F5:=F4.trans f5
  have lw:=c8.lens
  rw[Ln.aW,hr] at lw
  obtain⟨d,hd⟩:=exI (tv t a 0)
  have dg:=C.dg a a5
  rw[hd] at dg
  obtain⟨S,hS⟩:=exI h5.next
  obtain⟨h6,e6,n6,g6,o6,f6⟩:=iI hS (rc r λ_=> aC 0)
  have F6:=F5.trans f6
  have n5:=f5.next
  rw[hd]
  simp(disch:=omega)only[go_sem,lw,XN h5 r om,hS,e6]
  obtain⟨iw,e9,c5,b4,a6⟩:=sw.open
  rw[Ln.aW,hr] at c5 b4 a6
  refine dG (λvs F=>(∃g:Nat->V,vs= [g 0,g 1,g 2,u,g 4,.ptr D 0,g 6,g 7,g 8,.sl S 0 r (.kn r),g 10,g 11,g 12,g 13,b2,aC r,aC i,g 17,g 18,g 19,g 20,g 21])/\F.get S=some (.cells false (ints (uL L K X a)))/\Fx (· =S) h6 F) ?_ ?_
  .refine aP (λk' vs F=> ∃k:Nat,(∃g:Nat->V,vs= [g 0,g 1,g 2,u,g 4,.ptr D 0,g 6,g 7,aC d,.sl S 0 r (.kn r),g 10,g 11,g 12,g 13,b2,aC r,aC i,g 17,vw,aC r,aC k,g 21])/\k<=r/\F.get S=some (.cells false (rc r λj=> aC (if j<k then JT L K X a j else 0)))/\Fx (· =S) h6 F/\k'=r-k) r
    ⟨0,aD rfl,fY _,by rw[g6];rfl,Fx.refl _ _,rfl⟩ ?_
   rintro k' vs Q ⟨k,⟨g,rfl⟩,hk,gS,F7,rfl⟩
   by_cases a7:(k:Int)<(r:Int)
   case neg=>
    have d2:=bZ a7;obtain rfl:k=r:=om
    refine bM d2 ?_;refine⟨aD rfl,?_,F7⟩;rw[gS];congr 2;unfold uL;rw[hr];simp only[rc,ints,Ln.eN,List.map_map];refine Nt λj hj=>?_
    simp only[Function.comp];rw[aS (mS.1 hj)]
   have d2:=cV a7
   have b5:k<r:=om
   have n7:=F7.next
   have A:Fr P Q:=⟨by have:=F6.next;omega,λq J=>by rw[F7.get q (by have:=F6.next;omega) (by show q≠S;omega)];exact F6.get q J⟩
   have ck:Q.cell iw (e9+k)=some (aC (wK G L K t X a k)):=by
    have:=a6 k b5;rw[Ln.cZ _ om] at this;have hw:=b4 om;rw[A.cell hw];exact this
   have r1:=CW.rng a k a5 om
   have b0:0<=(d:Int)*wK G L K t X a k:=Int.mul_nonneg om r1.1
   have b1:(d:Int)*wK G L K t X a k<=100*100:=Int.mul_le_mul om om r1.1 om
   refine iG d2 @c5.ixa ck ?_
   refine (HH hG E ik C D M Q (b6 Q A) _ b0 om k om).mono ?_
   rintro _ h8 ⟨rfl,f8⟩
   have er:(d:Int)*wK G L K t X a k%t.p*yK G L K t k%t.p=JT L K X a k:=by
    rw[<-hd];exact alB hG E ik C a5 om (TX hG E ik C om).1
   have e4:h8.get S=_:=(f8.get S om).trans gS
   have p8:=bE (vs:=rc r λj=>aC (if j<k then JT L K X a j else 0)) (off:=k) (by rw[dE];exact b5) h8 S (aC (JT L K X a k))
   refine iG er e4 p8 ?_
   rw[fJ k]
   refine⟨r-(k+1),om,k+1,aD rfl,om,?_,(F7.trans (Fx.of (W:=(· =S)) f8) λ_ _ h=>h).trans (Fx.set h8 (W:=(· =S)) rfl _) λ_ _ h=>h,rfl⟩
   rw[iQ]
   congr 2
   refine bW λj hj=>?_
   by_cases e:j=k
   .rw[aS e,e,aS om]
   .rw[aQ e]
    by_cases e2:j<k
    .rw[aS e2,aS om]
    .rw[aQ e2,aQ om]
  rintro vs Q ⟨⟨g,rfl⟩,gS,F7⟩
  have n7:=F7.next
  have A:Fr P Q:=⟨by have:=F6.next;omega,λq J=>by rw[F7.get q (by have:=F6.next;omega) (by show q≠S;omega)];exact F6.get q J⟩
  have c2:Fr h4 Q:=⟨om,λq J=>by rw[F7.get q om (by show q≠S;omega),f6.get q om,f5.get q J]⟩
  obtain⟨Z,hZ⟩:=exI Q.next
  obtain⟨h8,e8,n8,g8,o8,f8⟩:=iI hZ [.sl S 0 r (.kn r)]
  have f0:=ow.fr (c2.trans f8)
  have g4:U.length=i:=by
   have:=bH.length a2;rw[dO,jG] at this;omega
  obtain⟨h9,a9,p9⟩:=f0.push (bytes:=24) (SV.one (v:= .sl S 0 r (.kn r)) om g8 (.kn 1)) (n:=i) (m:=1) om rfl om om om
  have n9:=p9.next
  refine jX (dL Q (z:= .aH) (v:= .sl S 0 r (.kn r)) rfl rfl) hZ e8 a9 ?_
  rw[fJ i]
  have a0: ∀q,q<h8.next->(∀o n c,u≠ .sl q o n c)->h9.get q=h8.get q:=λq J hn=>p9.old q om λid off n c e e2=>hn off n c (by rw[e2];exact e)
  have a4:=c2.trans f8
  have e3:Fx (λq=> ∃o n c,u= .sl q o n c) h4 h9:=⟨by have:=a4.next;omega,λq J hn=>by rw[a0 q (by have:=a4.next;omega) λo n c e=>hn ⟨o,n,c,e⟩];exact a4.get q J⟩
  have d4: ∀q,q<P.next-> ∀o n c,u≠ .sl q o n c:=λq J o n c e=>by
   have:=(ow.in q o n c e).2.1;omega
  have tk:(N.take (i+1)).map (uL L K X)=(N.take i).map (uL L K X)++ [uL L K X a]:=by
   rw[List.take_succ_eq_append_getElem om,List.map_append,<-ha,gV,dJ om]
   rfl
  refine⟨r-(i+1),om,i+1,.sl h8.next 0 (i+1) (.un 1),U++ [.sl S 0 r (.kn r)],aD rfl,om,p9.own om rfl (by have:=A.next;omega),.inr ⟨_,rfl,p9.get⟩,?_,⟨by have:=A.next;omega,λq J=>?_⟩,rfl⟩
  .rw[tk]
   have c7:(v:V)->(x:List Int)->SI h4 v x->vI (λq=> ∃o n c,V.sl h8.next 0 (i+1) (.un 1)= .sl q o n c) v:=λv x s=>by
    cases v with
    |sl b c' d' e'=>
     have:=SV.in s b c' d' e' rfl;rintro⟨o',n',c'',e⟩;cases e;have:=a4.next;omega
    |_=>trivial
   refine Qk (a2.mono λv x ⟨s,o⟩=>⟨s.fx o e3,c7 v x s⟩) ⟨?_,?_⟩
   .have d0:h9.get S=some (.cells false (ints (uL L K X a))):=by
     rw[a0 S om λo n c e=>?_,o8 S om]
     .exact gS
     .have:=(ow.in S o n c e).1
      omega
    have:(uL L K X a).length=r:=by unfold uL;rw[Ln.aW,hr]
    exact SV.all (by rw[aE,this,jP]) om d0 _
   .rintro⟨o',n',c'',e⟩
    cases e
    omega
  .rw[a0 q (by have:=A.next;omega) (d4 q J),o8 q (by have:=A.next;omega)]
   exact A.get q J
 rintro vs h4 ⟨id,⟨g,rfl⟩,h0,⟨U,bw⟩,F4⟩
 have n4:=F4.next
 obtain⟨Y,hY⟩:=exI h4.next
 obtain⟨h5,e5,n5,g5,o5,f5⟩:=iI hY [.nilf]
 obtain⟨h6,e6,n6,g6,o6⟩:=xN h5 Y [.fn 55 [] []]
 have a3:Fr h4 h6:=⟨om,λq J=>by rw[o6 q om,o5 q om]⟩
 have p6:dY (some (.cells false [.nilf])) h5 Y 0 [.fn 55 [] []]=some h6:=by rw[bE siM,<-e6];rfl
 have lt:(N.map (uL L K X)).length=r:=by rw[dO,la,hr]
 have i0:id<Y:=by have:=bw.2.1;omega
 refine nW hY e5 (eH (y:= .fn 55 [] []) rfl rfl) g5 p6 ?_
 have rs:=Vv (W:=λ_=>False) (λF=>F.get Y=some (.cells false [.fn 55 [] []])/\Y<F.next) id (.un 1) (.fn 57 [] [.ptr Y 0]) (N.map (uL L K X)) (λF g9 p f=>⟨by rw[f.get Y p.2 (by show Y≠id;omega)];exact p.1,by have:=f.next;have:=p.2;omega⟩) (λF vx vy x y p hx hy sx sy=>by
  have lx: ∀x∈N.map (uL L K X),x.length=r:=λx hx=>by
   obtain⟨a,_,rfl⟩:=oG.1 hx;unfold uL;rw[Ln.aW,hr]
  have e1:=lx x hx;have e2:=lx y hy
  exact abK Y vx vy x y F p.1 sx sy om om p.2) h6 U (bw.fr a3) ⟨g6,om⟩ om om
 rw[lt] at rs
 refine rs.mono ?_
 rintro _ Q ⟨f9,l',c4,d9,a1,_,f7⟩
 have lD:=b3.lD
 have a8: ∃c,P.get D=some (.cells false c)/\c[6]? =some (aC (t.p:Int)):=by
  obtain⟨_,_,_,_,_,_,g,_⟩:=b3.ex;exact⟨_,g,rfl⟩
 have⟨cD,a8,c6⟩:=a8
 have A:Fr P Q:=⟨by have:=a3.next;have:=f7.next;omega,λq J=>by
  have:=a3.next;rw[f7.get q om (by show q≠id;omega),a3.get q om]
  exact F4.get q J⟩
 have d6:Q.cell D 6=some (aC (t.p:Int)):=dW ((A.get D lD).trans a8) 6 _ c6
 refine bM d6 ?_
 have g7:=c4.length_eq
 refine⟨_,l',rfl,c4.trans (pa.map _),d9,⟨f9,SV.all (by have:=bH.length a1.2.2;omega) a1.2.1 a1.1 _,a1.2.2.mono λ_ _ x=>x.1⟩,(f1.trans F3).trans A⟩
end
section
variable {h:H} {v:V} {n:Nat} {l:List Nat}
theorem Mo (n:Nat)(h:H)(L:n<=1000):
  Ev T 31 [aC n] h (λv h'=>dF h' v 1 (ints (zi (bI n))) h.next/\Fr h h'):=by
 refine mV ?_
 simp (disch:=first|omega|(simp only[Qn];(try omega);done)|fail) only[go_sem,aV]
 refine aP (λy b w=> ∃(i:Nat) (o:V),(∃j:Nat->V,b= [aC n,j 1,o,aC i,j 4])/\i<=n/\dF w o 1 (ints (zi ((bI n).take i))) h.next/\Fr h w/\y=n-i) n
  ⟨0,.aH,aD rfl,fY _,dF.aH _ _ _,Fr.refl h,rfl⟩ ?_
 rintro y b a ⟨i,o,⟨K,rfl⟩,hi,r,F,rfl⟩
 simp (disch:=first|omega|(simp only[Qn];(try omega);done)|fail) only[go_sem]
 by_cases d:(i:Int)<(n:Int)
 .rw[cV d]
  have u:i<n:=om
  simp (disch:=first|omega|(simp only[Qn];(try omega);done)|fail) only[go_sem,Fp]
  have c:Fr a (a.new (.cells false (ints [(i:Int)]))):=(Fr.refl a).new _
  have f:(a.new (.cells false (ints [(i:Int)]))).get a.next=cE (ints [(i:Int)]):=H.aI ..
  have x:(a.new (.cells false (ints [(i:Int)]))).next=a.next+1:=H.aM ..
  generalize a.new (.cells false (ints [(i:Int)]))=t at*
  have A:SV t (.sl a.next 0 1 (.kn 1)) 1 (ints [(i:Int)]):=SV.all rfl om f _
  have N:=F.next
  have J:=iF n
  obtain⟨z,G,s,k⟩:=(r.fr c).app (bytes:=8) (n:=i) (m:=1) om A (by rw[aE,bD,jG,jP];omega) rfl om om
  simp (disch:=first|omega|(simp only[Qn];(try omega);done)|fail) only[go_sem,s]
  have q:=k.own
  have B:=eG u
  have e1:zi ((bI n).take i)++ [(i:Int)]=zi ((bI n).take (i+1)):=by rw[Xd om,Im,B]
  rw[<-fQ,e1] at q
  rw[fJ i]
  exact⟨n-(i+1),om,i+1,z,aD rfl,om,q,k.fr h (F.trans c) (dN _),rfl⟩
 rw[bZ d]
 obtain rfl:i=n:=om
 simp (disch:=first|omega|(simp only[Qn];(try omega);done)|fail) only[go_sem]
 rw[Nb (by rw[iF];omega)] at r
 exact⟨r,F⟩
structure Mp (h:H)(v:V)(n id:Nat)(l:List Nat):Prop where
 ex: ∃cap rest,v= .sl id 0 n cap/\id<h.next/\h.get id=cE (ints (zi l)++rest)
 cF:bJ n l
theorem Mp.of {b:Nat}(k:0<n)(X:bJ n l)(o:dF h v 1 (ints (zi l)) b): ∃id,Mp h v n id l/\b<=id:=by
 rcases o with ⟨_,e⟩|⟨id,m,c,a,rfl,e2,j,i,d,f⟩
 .have:=congrArg List.length e
  rw[aE,bD,List.length_nil,X.len] at this;omega
 .rw[aE,bD,jP,X.len] at e2
  subst e2;exact⟨id,⟨⟨c,a,rfl,d,f⟩,X⟩,i⟩
theorem Mp.si {id:Nat}(m:Mp h v n id l):SI h v (zi l):=by
 obtain⟨⟨a,b,rfl,c,d⟩,X⟩:=m;refine .inr ⟨id,0,n,a,false,_,rfl,by rw[aE,bD,X.len,jP],c,d,by rw[eE,aE,bD,X.len];omega,?_⟩;rw[List.drop_zero,jP,List.take_left' (by rw[aE,bD,X.len])]
theorem Mp.mono {h':H}{id:Nat}(m:Mp h v n id l)(j:h.next<=h'.next)(f:h'.get id=h.get id):Mp h' v n id l:=by
 have⟨⟨b,a,c,i,d⟩,X⟩:=m;exact⟨⟨b,a,c,om,by rw[f];exact d⟩,X⟩
end
theorem zH.cell {x:Nat}{a c:H}(f:zH x a c){id off:Nat}(b:id<a.next)(h2:id≠x):c.cell id off=a.cell id off:=by unfold H.cell;rw[f.get id b h2]
set_option maxRecDepth 100000
end Go.Proofs.YtoighkablmjfeaaGreat
