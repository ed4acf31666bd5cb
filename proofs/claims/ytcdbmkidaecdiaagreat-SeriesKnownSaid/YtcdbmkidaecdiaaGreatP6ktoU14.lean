/- Texts of the claim. -/
import Derived.Test.YtcdbmkidaecdiaaGreatP5qtoP6j
import Derived.Test.YtcdbmkidaecdiaaGreatDp2toP5p
import Derived.Test.YtcdbmkidaecdiaaGreatP5a
set_option maxHeartbeats 64000000
namespace Go.Proofs.YtcdbmkidaecdiaaGreat
open Go Go.Ay Go.Pm
set_option maxRecDepth 100000
section
variable {G:List Nat->Prop} {L:LN} {i j n:Nat} {Q:List Nat} {h:H} {v:V}
theorem IA {a:V}(c:a.cells= [a])(b:a.one=true)(M N m:Nat):rO [.aE,.nilm,.aE,.aE] [(0,1,a),(1,1,.mp M),(3,1,.sl N 0 m (.kn m))]=some (.agg [a,.mp M,.aE,.sl N 0 m (.kn m)]):=by
 simp [rO,iS,putAt,c,b,show (V.mp M).cells= [V.mp M] from rfl,show (V.sl N 0 m (.kn m)).cells= [V.sl N 0 m (.kn m)] from rfl,show (V.mp M).one=true from rfl,show (V.sl N 0 m (.kn m)).one=true from rfl]
theorem MR {a:V}(b:a.one=true)(M N m:Nat)(h:H):Cv h (.agg [a,.mp M,.aE,.sl N 0 m (.kn m)])=some (.ptr h.next 0,h.new (.cells false [a,.mp M,.aE,.sl N 0 m (.kn m)])):=tL h _ (by simp [b,show (V.mp M).one=true from rfl,show (V.sl N 0 m (.kn m)).one=true from rfl,show V.aE.one=true from rfl])
open Classical in
noncomputable def Ib (G:List Nat->Prop)(L:LN)(i:Nat)(Q:List Nat)(j:Nat):Bool:=decide ((∃i0,i0<i/\cR G L i0 j)∨j∈Q)
theorem nG:Ib G L i Q j=true↔(∃i0,i0<i/\cR G L i0 j)∨j∈Q:=by classical unfold Ib;simp only[decide_eq_true_eq]
theorem VK (G:List Nat->Prop)(L:LN)(j:Nat):Ib G L 0 [] j=false:=by
 rw[←Bool.not_eq_true,nG];rintro (⟨a,h,_⟩|h)
 ·omega
 ·cases h
theorem Wt {k:Nat}:Ib G L i (Q++ [k]) j=if j=k then true else Ib G L i Q j:=by
 by_cases e:j=k
 ·rw[bF e,nG];exact .inr (by simp [e])
 ·rw[bI e,Py,nG,nG]
  simp [e]
theorem xE {p:Nat->Option Ay.Fn}{rd:Option Nat}{a:C}{k:Nat}{b:List V}{Q:E->List V->H->Prop}(J:List V->H->Prop)(c:Wp p rd (.loop a) b h (λe v h'=>e= .exit k/\J v h'))(h2: ∀v h',J v h'->Q .norm v h'):Wp p rd (.loop a) b h (vH k Q):=
 c.mono λe v h' x=>by
  obtain⟨rfl,x⟩:=x;rw[An];exact h2 v h' x
theorem cY.ge {sz id off b:Nat}{ws:List V}(o:cY h v sz ws b)(a:ws.length=n*sz)(d:0<sz)(s:Sl v sz n id off)(c:0<n):b<=id:=by
 have f:=s.ixa .i64 0 om om;rcases o.sv with ⟨_,rfl⟩|⟨p,k,len,l,u,q,e,g,_⟩
 ·have:=Nat.mul_pos c d
  simp at a;omega
 ·have r:=(o.in _ _ _ _ e).2.1
  subst e
  have t:0<len:=by
   have:=Nat.mul_pos c d;refine Nat.pos_of_ne_zero λm=>?_
   subst m;simp at g;rw[g] at a;simp at a;omega
  rw[Lg om om] at f;simp only[Option.some.injEq,V.ptr.injEq] at f;omega
theorem RU (k:iX n G)(E:dW G L)(hi:i<L.length)(f: ¬HV G L i)(j:Nat):Ib G L i [] j=Ib G L (i+1) [] j:=by
 obtain⟨d,m,c⟩: ∃j,j<i/\cR G L j i:=Jg λl=>f λj o c=>l ⟨j,o,c⟩
 rw[Py,nG,nG];constructor
 ·rintro (⟨b,g,a⟩|h)
  ·exact .inl ⟨b,om,a⟩
  ·cases h
 ·rintro (⟨b,g,a⟩|h)
  ·by_cases e:b=i
   ·subst e;exact .inl ⟨d,m,wJ k E om c a⟩
   ·exact .inl ⟨b,om,a⟩
  ·cases h
theorem NU {S:LN}(k:iX n G)(E:dW G L)(hi:i<L.length)(b:BQ G L S i Q Q.length)(l: ∀s∈S,G s)(a: ∀x,G x->bX n (λg=>g∈S) x)(m:j<L.length):Ib G L i Q j=Ib G L (i+1) [] j:=by
 rw[Py,nG,nG];constructor
 ·rintro (⟨d,f,c⟩|h)
  ·exact .inl ⟨d,om,c⟩
  ·exact .inl ⟨i,om,(b.mem j h).2⟩
 ·rintro (⟨d,f,c⟩|h)
  ·by_cases e:d=i
   ·subst e;exact .inr ((b.done k E (fM _) hi l a j).2 ⟨m,c⟩)
   ·exact .inl ⟨d,om,c⟩
  ·cases h
theorem JS (a:v.cells= [v])(b:v.one=true)(x y:Int):rO [.aE,aC 0,aC 0] [(0,1,v),(1,1,aC x),(2,1,aC y)]=some (.agg [v,aC x,aC y]):=by
 simp [rO,iS,putAt,a,b,show ∀z,(aC z).cells= [aC z] from λ_=>rfl,show ∀z,(aC z).one=true from λ_=>rfl]
theorem MT {w:V}(c:v.one=true)(b:w.cells= [w])(a:w.one=true)(x y:Int):rO [.aE,aC 0,aC 0,.aE] [(0,3,.agg [v,aC x,aC y]),(3,1,w)]=some (.agg [v,aC x,aC y,w]):=by
 simp [rO,iS,putAt,b,c,a,show ∀l,(V.agg l).cells=l from λ_=>rfl,show ∀z,(aC z).one=true from λ_=>rfl]
theorem MI {w:V}(b:v.one=true)(a:w.one=true)(x y:Int)(h:H):lQ h 4 [.aE,aC 0,aC 0,.aE] 1 [(0,4,.agg [v,aC x,aC y,w])]=some (.sl h.next 0 1 (.kn 1),h.new (.cells false [v,aC x,aC y,w])):=by
 have e:cX [V.aE,aC 0,aC 0,.aE] 4= [V.aE,aC 0,aC 0,.aE]:=rfl;simp [lQ,iS,putAt,e,b,a,show ∀l,(V.agg l).cells=l from λ_=>rfl,show ∀z,(aC z).one=true from λ_=>rfl]
theorem Co (k:Nat):(jW G L k).length<=k:=by
 classical
 unfold jW;exact mT (List.length_filter_le _ _) (by rw[NM];exact fM _)
theorem Re (b:List Cls.KE):(Cls.qY b).length=b.length*4:=by
 induction b with
 |nil=>rfl
 |cons a r ih=>
  show (a.enc++Cls.qY r).length=_;rw[jZ,ih,List.length_cons];show 4+_=_;omega
theorem HY {a b c d:V}(e:H)(id:Nat)(y:V):dX (some (.cells false [a,b,c,d])) e id 2 [y]=some (e.set id (some (.cells false [a,b,y,d]))):=by
 simp [dX,putAt]
theorem afI {sz:Nat}{ws:List V}(s:SV h v sz ws):Mq (λq=>h.next<=q) v:=by
 cases v with
 |sl id off len cap=>exact λa=>by have:=s.in _ _ _ _ rfl;omega
 |_=>trivial
structure KO (n:Nat)(G:List Nat->Prop)(L:LN)(X:Nat)(W:Nat->Prop)(hh:H)(a:Cls.KE)(r:Nat):Prop where
 fst:a.fst=r
 ord:a.ord=qF (L.getD r []) n
 size:a.size=(kY G L r).length
 rep:PV (λq=>X<=q) hh a.rep (L.getD r [])
 ranks:PV W hh a.ranks (kY G L r)
theorem KO.go {X:Nat}{W W':Nat->Prop}{h':H}{a:Cls.KE}{r:Nat}(k:KO n G L X W h a r)(f:Fx W h h')(l:X<=h.next)(e: ∀q,W q->X<=q)(g: ∀q,q<h.next->W' q->W q):KO n G L X W' h' a r:=
 ⟨k.fst,k.ord,k.size,k.rep.fx ⟨f.next,λq d c=>f.get q d λb=>c (e q b)⟩,PV.go k.ranks f g⟩
structure OfJ (n:Nat)(G:List Nat->Prop)(L:LN)(X D:Nat)(vL:V)(h5:H)(i:Nat)(hh:H):Prop where
 ex: ∃vK ks W,hh.get (X+8)=some (.cells false [vL,.mp (X+3),vK,.sl (X+6) 0 L.length (.kn L.length)])/\cY hh vK 4 (Cls.qY ks) (D+1)/\aM (KO n G L X W hh) ks (jW G L i)/\Hq W vK/\W D/\W (X+8)/\W (X+6)/\(∀q,W q->q<hh.next)/\(∀q,W q->X<=q)/\(ks= []∨ ∃id cap,vK= .sl id 0 ks.length cap/\hh.get id=some (.cells false (Cls.qY ks)))
 gD:hh.get D=some (.cells false (rc L.length λj=> .bool (Ib G L i [] j)))
 old:Fx (λq=>q=X+8∨D<=q) h5 hh
 nx:D<hh.next
def QT (n:Nat):C->Bool
 | .block k _=>k==n
 | .seq _ b=>QT n b
 |_=>false
def Tz (n:Nat):C->C
 | .seq a b=>if QT n a then b else Tz n b
 |c=>c
structure OfE (n:Nat)(G:List Nat->Prop)(L:LN)(X D:Nat)(vL:V)(h h2 h5 h7:H):Prop where
 el:dW G L
 le:L.length<=5040
 f2:Fr h h2
 x2:h2.next=X
 sp:SP h2 vL L
 f25:Fr h2 h5
 xD:X+10<=D
 n5:h5.next=D
 gM:h5.get (X+3)=some (.wmap .str (Ie L L.length))
 gN:h5.get (X+6)=some (.cells false (rc L.length λ_=> aC 0))
 j:OfJ n G L X D vL h5 L.length h7
theorem WY {W0:Nat->Prop}(vc:V)(n:Nat)(O:LN)(R:jI)(G:List Nat->Prop)(h:H)(gc:GC W0 h vc n O R G)(P:V->H->Prop)
  (hk: ∀L X D vL h2 h5 h7 A (g:Nat->V),cZ O R n 0 (bL n)=L->OfE n G L X D vL h h2 h5 h7->Wp T none (Tz 2 mL.fn.body) ([g 0,.ptr A 0,.nilp,aC 0,vL,g 5,.ptr (X+8) 0,g 7,g 8,g 9,g 10,g 11,g 12,g 13,g 14,g 15,g 16,g 17,g 18,g 19,g 20,g 21,g 22,g 23,g 24,g 25,g 26,g 27,g 28,g 29,g 30,g 31,g 32,g 33,g 34,g 35,g 36,g 37,g 38,g 39,g 40,g 41,g 42,g 43,g 44,g 45]) h7 (JN mL.fn.results P)):
  Ev T 139 [vc] h P:=by
 obtain⟨vO,vR,e,sO,sR⟩:=gc.ch
 subst e
 refine cV mL rfl ?_
 have i2:vO.one=true:=oNs sO
 have i3:vR.one=true:=oNt sR
 obtain⟨A,hA⟩:=exI h.next
 obtain⟨d,e1,n1,g1,o1,f1⟩:=dF hA [aC n,vO,vR]
 have bx:=bM h (v:= aC n) (u:=vO) (w:=vR) rfl i2 i3
 have rB:=aI g1
 obtain⟨L,hL⟩:=exI (cZ O R n 0 (bL n))
 obtain⟨E,ll⟩:=dM gc.dN gc.isc
 have q6:=jH gc
 rw[hL] at E ll
 have hG:=gc.dN
 have n7:=gc.n7
 have n0:=gc.n0
 simp(disch:=omega)only[go_sem,mL,aD,bx,hA,e1,rB]
 refine (Wc _ n O R G d (gc.mono f1)).mono ?_
 rw[hL]
 rintro _ h2 ⟨vL,rfl,nw⟩
 obtain⟨wL,W,b9,j1,q8,W1⟩:=nw.ex
 have k8:=aM.length j1
 obtain⟨m,hm⟩:=exI L.length
 rw[hm] at k8
 have e7:=cY.lens b9 k8
 have c9:=b9.sv.cK.2.1
 have f2:=nw.fr
 simp(disch:=omega)only[go_sem,e7]
 refine aW (λhc=>(hc rfl).elim) (λ_=>?_)
 obtain⟨X,hX⟩:=exI h2.next
 simp(disch:=omega)only[go_sem,e7,sT _ m om,hX,IA b9.sv.cK.1 c9,MR c9]
 obtain⟨h3,a1⟩: ∃h3:H,h3=H.mk ((H.mk ((H.mk ((H.mk h2.tr (X+3)).new (Ob.wmap Cy.str [])).tr (X+6)).new (Ob.cells false (rc m λ_=>aC 0))).tr (X+8)).new (Ob.cells false [vL,.mp (X+3),.aE,.sl (X+6) 0 m (.kn m)])).tr (X+10):=⟨_,rfl⟩
 rw[←a1]
 have n3:h3.next=X+10:=by rw[a1]
 have gB:h3.get (X+8)=some (.cells false [vL,.mp (X+3),.aE,.sl (X+6) 0 m (.kn m)]):=by rw[a1];exact H.aL (H.mk _ (X+8)) _
 have gN:h3.get (X+6)=some (.cells false (rc m λ_=>aC 0)):=by
  rw[a1];exact (H.bG (H.mk _ (X+8)) (show X+6≠X+8 by omega) _).trans (H.aL (H.mk _ (X+6)) _)
 have gM:h3.get (X+3)=some (.wmap .str (Ie L 0)):=by
  rw[a1];exact (H.bG (H.mk _ (X+8)) (show X+3≠X+8 by omega) _).trans ((H.bG (H.mk _ (X+6)) (show X+3≠X+6 by omega) _).trans (H.aL (H.mk _ (X+3)) _))
 have f3:Fr h2 h3:=⟨om,λq hq=>by
  rw[a1]
  exact (H.bG (H.mk _ (X+8)) (show q≠X+8 by omega) _).trans ((H.bG (H.mk _ (X+6)) (show q≠X+6 by omega) _).trans (H.bG (H.mk _ (X+3)) (show q≠X+3 by omega) _))⟩
 clear a1
 have a0: ∀i,i<m->(L.getD i []).length<=1000/\ ∀x∈L.getD i [],x<256:=λi hi=>by
  have P:=lY hG E (show i<L.length by omega);exact⟨by rw[P.len];omega,λx hx=>by have:=P.lt x hx;omega⟩
 obtain⟨p2,j4,c1,l2,g7⟩:=SV.shape b9.sv m om om
 have e0: ∀i,i<m-> ∃vx,(∀h',Fr h2 h'->h'.cell p2 (j4+i)=some vx)/\SI h2 vx (zi (L.getD i [])):=λi hi=>by
  obtain⟨v,d,b4⟩:=fW.at j1 (i:=i) om;exact⟨v,λh' f=>by rw[f.cell (l2 om),g7 i om,d],b4.si⟩
 have hK: ∀i,i<m->isKey .str (.str (L.getD i []))=true:=λi hi=>xY (a0 i hi).1 (a0 i hi).2
 refine bJ (λvs B=>(∃g:Nat->V,vs= [g 0,.ptr A 0,.nilp,aC 0,vL,g 5,.ptr (X+8) 0,g 7,g 8,g 9,g 10,g 11,g 12,g 13,g 14,g 15,g 16,g 17,g 18,g 19,g 20,g 21,g 22,g 23,g 24,g 25,g 26,g 27,g 28,g 29,g 30,g 31,g 32,g 33,g 34,g 35,g 36,g 37,g 38,g 39,g 40,g 41,g 42,g 43,g 44,g 45])/\B.get (X+3)=some (.wmap .str (Ie L m))/\Fx (· =X+3) h3 B) ?_ ?_
 ·refine aH (λk' vs B=> ∃(i:Nat),(∃g:Nat->V,vs= [g 0,.ptr A 0,.nilp,aC 0,vL,g 5,.ptr (X+8) 0,g 7,g 8,g 9,g 10,g 11,g 12,g 13,g 14,g 15,g 16,g 17,g 18,g 19,g 20,g 21,g 22,vL,aC m,aC i,g 26,g 27,g 28,g 29,g 30,g 31,g 32,g 33,g 34,g 35,g 36,g 37,g 38,g 39,g 40,g 41,g 42,g 43,g 44,g 45])/\i<=m/\B.get (X+3)=some (.wmap .str (Ie L i))/\Fx (· =X+3) h3 B/\k'=m-i) m
   ⟨0,aB rfl,iJ _,gM,Fx.refl _ h3,rfl⟩ ?_
  rintro k' K h4 ⟨i,⟨g,rfl⟩,hi,b7,F4,rfl⟩
  by_cases b8:(i:Int)<(m:Int)
  case neg=>
   have d4:=bH b8;obtain rfl:i=m:=om
   simp(disch:=omega)only[go_sem,d4];exact⟨aB rfl,b7,F4⟩
  have d4:=bP b8
  have a4:i<m:=om
  have b6:Fr h2 h4:=⟨by have:=F4.next;omega,λq hq=>by rw[F4.get q om om];exact f3.get q hq⟩
  have c2:h4.get (X+8)=some (.cells false [vL,.mp (X+3),.aE,.sl (X+6) 0 m (.kn m)]):=by rw[F4.get _ om om];exact gB
  obtain⟨vx,cx,sx⟩:=e0 i a4
  have c3:h4.cell (X+8) 1=some (.mp (X+3)):=by rw[H.aF c2];rfl
  simp(disch:=omega)only[go_sem,d4,c1.ixa,cx h4 b6,c3]
  refine (FV vx (L.getD i []) _ (a0 i a4).1 (a0 i a4).2 (sx.mono (b6.trans ((Fr.refl h4).bA om)))).mono ?_
  rintro _ h5 ⟨rfl,f5⟩
  have c6:Fr h4 h5:=((Fr.refl h4).bA om).trans f5
  have n4:=F4.next
  have o7:h5.get (X+3)=some (.wmap .str (Ie L i)):=by rw[c6.get _ om];exact b7
  have l4:h5.cell (X+8) 1=some (.mp (X+3)):=by rw[c6.cell om];exact c3
  have pt:=λB=>Xx E.nodup (show i<L.length by omega) (hK i a4) B (X+3)
  simp(disch:=omega)only[go_sem,l4,o7,pt]
  rw[eJ i]
  refine⟨by simp [dE],m-(i+1),om,i+1,aB rfl,om,rfl,⟨by have:=c6.next;show h3.next<=h5.next;omega,λq d h2=>by rw[H.aG _ (λe=>h2 e),c6.get q om];exact F4.get q d h2⟩,rfl⟩
 rintro K h4 ⟨⟨g,rfl⟩,b7,F4⟩
 have n4:=F4.next
 have b6:Fr h2 h4:=⟨om,λq hq=>by rw[F4.get q om om];exact f3.get q hq⟩
 have c2:h4.get (X+8)=some (.cells false [vL,.mp (X+3),.aE,.sl (X+6) 0 m (.kn m)]):=by rw[F4.get _ om om];exact gB
 have j2:h4.get (X+6)=some (.cells false (rc m λ_=>aC 0)):=by rw[F4.get _ om om];exact gN
 have l0:=f2.trans b6
 have rA:=aI (h:=h4) (id:=A) (ro:=false) (by rw[l0.get _ om];exact g1)
 simp(disch:=omega)only[go_sem,rA]
 refine (Qy _ n O R G h4 (gc.mono (f1.trans l0))).mono ?_
 rintro _ h5 ⟨vS,rfl,nS⟩
 have f5:=nS.fr
 obtain⟨D,hD⟩:=exI h5.next
 obtain⟨h6,e6,n6,g6,o6,f6⟩:=dF hD (rc m λ_=>V.bool false)
 simp(disch:=omega)only[go_sem,e7,Sd,hD,e6]
 have d2:=b6.trans f5
 have q4:=d2.next
 have n5:=f5.next
 obtain⟨wS,WS,d8,f7,r2,p6⟩:=nS.ex
 obtain⟨S,hS⟩:=exI (bQ R)
 rw[hS] at f7
 have m2:=aM.length f7
 have a2: ∀s∈S,G s:=λs hs=>bV gc.isc (by rw[hS];exact hs)
 have a9: ∀x,G x->bX n (λg=>g∈S) x:=λx hx=>by rw[←hS];exact nJ hG gc.isc hx
 obtain⟨sl,f0⟩:=exI S.length
 have q2:sl<=49:=by
  have d: ∀j,j<R.length->(R.getD j []).length<=n:=λj N=>by
   have c5:j<n:=by rw[←gc.isc.lr];exact N
   rw[gc.isc.rl j c5];have:=uQ (λx hx=>hG.cU hx) c5 (gc.isc.asc j c5) (gc.isc.mem j c5);omega
  have h2:=sY (n:=n) (R:=R) (fM _) d;rw[List.take_length,hS,f0,gc.isc.lr] at h2;have:n*n<=7*7:=Nat.mul_le_mul n7 n7;omega
 have p0:=cY.lens d8 (m2.trans f0)
 obtain⟨b5,k9,i8,i6,l8⟩:=SV.shape d8.sv sl om om
 have p8:=cY.ge d8 (n:=sl) om om i8
 have m1: ∀t,t<sl-> ∃vy,(∀B,Fx (λq=>q=X+8∨D<=q) h5 B->B.cell b5 (k9+t)=some vy)/\PV (λq=>q=X+8∨D<=q) h5 vy (S.getD t []):=λt ht=>by
  obtain⟨v,d,b4⟩:=fW.at f7 (i:=t) om;have hi:=i6 om;have r1:h4.next<=b5:=p8 om;refine⟨v,λB f=>?_,b4.lH λid q5 hw=>p6 id ?_⟩
  ·have e:B.get b5=h5.get b5:=f.get b5 hi om
   unfold H.cell;rw[e];have:=l8 t om;rw[d] at this;exact this
  ·rcases hw with e|e
   ·omega
   ·omega
 have J0:OfJ n G L X D vL h5 0 h6:=
  ⟨⟨.aE, [],λq=>q=D∨q=X+8∨q=X+6,by rw[f6.get _ om,f5.get _ om,hm];exact c2,cY.aE _ _ _,trivial,λ_ _ _ _ e=>(by cases e),.inl rfl,.inr (.inl rfl),.inr (.inr rfl),λq h=>by rcases h with h|h|h<;>omega,λq h=>by rcases h with h|h|h<;>omega,.inl rfl⟩,
   by rw[g6,hm,show (λj=>V.bool (Ib G L 0 [] j))=λ_=>V.bool false from funext λj=>by rw[VK]],Fx.of f6,om⟩
 refine bJ (λvs B=>(∃g:Nat->V,vs= [g 0,.ptr A 0,.nilp,aC 0,vL,g 5,.ptr (X+8) 0,g 7,g 8,g 9,g 10,g 11,g 12,g 13,g 14,g 15,g 16,g 17,g 18,g 19,g 20,g 21,g 22,g 23,g 24,g 25,g 26,g 27,g 28,g 29,g 30,g 31,g 32,g 33,g 34,g 35,g 36,g 37,g 38,g 39,g 40,g 41,g 42,g 43,g 44,g 45])/\OfJ n G L X D vL h5 m B) ?_ ?_
 ·refine aH (λk' vs B=> ∃(i:Nat),(∃g:Nat->V,vs= [g 0,.ptr A 0,.nilp,aC 0,vL,g 5,.ptr (X+8) 0,g 7,g 8,vS,.sl D 0 m (.kn m),g 11,g 12,g 13,g 14,g 15,g 16,g 17,g 18,g 19,g 20,g 21,g 22,g 23,g 24,g 25,g 26,vL,aC m,aC i,g 30,g 31,g 32,g 33,g 34,g 35,g 36,g 37,g 38,g 39,g 40,g 41,g 42,g 43,g 44,g 45])/\i<=m/\OfJ n G L X D vL h5 i B/\k'=m-i) m
   ⟨0,aB rfl,iJ _,J0,rfl⟩ ?_
  clear J0
  rintro k' K h7 ⟨i,⟨g,rfl⟩,hi,J,rfl⟩
  by_cases b8:(i:Int)<(m:Int)
  case neg=>
   have d4:=bH b8;obtain rfl:i=m:=om
   simp(disch:=omega)only[go_sem,d4];exact⟨aB rfl,J⟩
  have d4:=bP b8
  have a4:i<m:=om
  have nD:=J.nx
  have b2:Fr h2 h7:=⟨om,λq hq=>by rw[J.old.get q om om];exact d2.get q hq⟩
  obtain⟨vx,cx,sx⟩:=e0 i a4
  have cD:=sL J.gD (i:=i) om
  by_cases hr:HV G L i
  case neg=>
   have d6:Ib G L i [] i=true:=by
    rw[nG];exact .inl (Jg λhn=>hr λj N hc=>hn ⟨j,N,hc⟩)
   rw[d6] at cD;simp(disch:=omega)only[go_sem,d4,c1.ixa,cx h7 b2,cD];rw[eJ i];refine⟨m-(i+1),om,i+1,aB rfl,om,?_,rfl⟩;refine⟨?_,?_,J.old,J.nx⟩
   ·rw[(Nx i).2 hr];exact J.ex
   ·rw[J.gD,dB λj _=>by rw[RU hG E (show i<L.length by omega) hr j]]
  have d6:Ib G L i [] i=false:=by
   rw[←Bool.not_eq_true,nG];rintro (⟨j,N,hc⟩|h)
   ·exact hr j N hc
   ·cases h
  rw[d6] at cD
  obtain⟨h8,e8,n8,g8,o8⟩:=pJ h7 D ((rc L.length λj=> .bool (Ib G L i [] j)).set i (.bool true))
  obtain⟨Z,hZ⟩:=exI h8.next
  obtain⟨h9,e9,n9,g9,o9,f9⟩:=dF hZ [aC i]
  have pt:=bN (vs:=rc L.length λj=> .bool (Ib G L i [] j)) (off:=i) (by rw[kH];omega)
  clear bx gc sO sR rB rA g7 j2 c2 g1 o1 f1 f3 gB gN gM
  simp(disch:=omega)only[go_sem,d4,c1.ixa,cx h7 b2,cD,J.gD,pt,e8,cT h8 (z:= aC 0) (v:= aC i) rfl rfl,hZ,e9]
  have q9:h7.next=Z:=om
  have a5:(rc L.length λj=>V.bool (Ib G L i [] j)).set i (.bool true)=rc L.length λj=> .bool (Ib G L i [i] j):=by
   rw[mS]
   exact dB λj _=>by
    rw[show [i]= []++ [i] from rfl,Wt]
    by_cases e:j=i
    ·rw[bF e,bF e]
    ·rw[bI e,bI e]
  have e4:Fx (· =D) h7 h9:=⟨om,λq d h2=>by rw[o9 q om,o8 q h2]⟩
  have B0:BQ G L S i [i] 0:=⟨by simp,by simp,rfl,λj N=>by
   obtain rfl:j=i:=by simpa using N
   exact⟨om,Uw hG E om⟩,λk hk=>om⟩
  refine bJ (λvs B=> ∃(Q:List Nat) (q:Nat) (o:lI),(∃g:Nat->V,vs= [g 0,.ptr A 0,.nilp,aC 0,vL,g 5,.ptr (X+8) 0,g 7,g 8,vS,.sl D 0 m (.kn m),aC i,vx,.sl q 0 Q.length o,g 14,g 15,g 16,g 17,g 18,g 19,g 20,g 21,g 22,g 23,g 24,g 25,g 26,vL,aC m,aC i,g 30,g 31,g 32,g 33,g 34,g 35,g 36,g 37,g 38,g 39,g 40,g 41,g 42,g 43,g 44,g 45])/\
    BQ G L S i Q Q.length/\(o= .un 1∨o= .kn Q.length)/\B.get q=some (.cells false (ints (zi Q)))/\Z<=q/\q<B.next/\B.get D=some (.cells false (rc L.length λj=> .bool (Ib G L i Q j)))/\Fx (· =D) h7 B) ?_ ?_
  ·refine aH (λk' vs B=> ∃(Q:List Nat) (q:Nat) (o:lI) (p:Nat),(∃g:Nat->V,vs= [g 0,.ptr A 0,.nilp,aC 0,vL,g 5,.ptr (X+8) 0,g 7,g 8,vS,.sl D 0 m (.kn m),aC i,vx,.sl q 0 Q.length o,aC p,g 15,g 16,g 17,g 18,g 19,g 20,g 21,g 22,g 23,g 24,g 25,g 26,vL,aC m,aC i,g 30,g 31,g 32,g 33,g 34,g 35,g 36,g 37,g 38,g 39,g 40,g 41,g 42,g 43,g 44,g 45])/\
    p<=Q.length/\BQ G L S i Q p/\(o= .un 1∨o= .kn Q.length)/\B.get q=some (.cells false (ints (zi Q)))/\Z<=q/\q<B.next/\B.get D=some (.cells false (rc L.length λj=> .bool (Ib G L i Q j)))/\Fx (· =D) h7 B/\k'=m-p) m
    ⟨[i],Z,_,0,aB rfl,iJ _,B0,.inr rfl,g9,fM _,om,by rw[o9 _ om,g8,a5],e4,rfl⟩ ?_
   clear e4 B0 e8 n8 g8 o8 hZ e9 n9 g9 o9 f9 pt a5
   rintro k' K ha ⟨Q,q,o,p,⟨g2,rfl⟩,hp,l,F,gq,hq,nq,gD,Fa,rfl⟩
   have a8:=l.len
   by_cases c7:(p:Int)<(Q.length:Int)
   case neg=>
    have d5:=bH c7;obtain rfl:p=Q.length:=om
    simp(disch:=omega)only[go_sem,d5];exact⟨Q,q,o,aB rfl,l,F,gq,hq,nq,gD,Fa⟩
   have d5:=bP c7
   have U:p<Q.length:=om
   simp(disch:=omega)only[go_sem,d5,p0]
   obtain⟨c,hc⟩:=exI (Q.getD p 0)
   obtain⟨j0,p1⟩:=l.mem c (by rw[←hc];exact bD U)
   have Cp:=lY hG E j0
   refine xE (λvs B=> ∃(Q:List Nat) (q:Nat) (o:lI),(∃g:Nat->V,vs= [g 0,.ptr A 0,.nilp,aC 0,vL,g 5,.ptr (X+8) 0,g 7,g 8,vS,.sl D 0 m (.kn m),aC i,vx,.sl q 0 Q.length o,aC p,g 15,g 16,g 17,g 18,g 19,g 20,g 21,g 22,g 23,g 24,g 25,g 26,vL,aC m,aC i,g 30,g 31,g 32,g 33,g 34,g 35,g 36,g 37,g 38,g 39,g 40,g 41,g 42,g 43,g 44,g 45])/\
     p<Q.length/\BQ G L S i Q (p+1)/\(o= .un 1∨o= .kn Q.length)/\B.get q=some (.cells false (ints (zi Q)))/\Z<=q/\q<B.next/\B.get D=some (.cells false (rc L.length λj=> .bool (Ib G L i Q j)))/\Fx (· =D) h7 B) ?_ ?_
   ·refine aH (λk' vs B=> ∃(Q:List Nat) (q:Nat) (o:lI) (t:Nat),(∃g:Nat->V,vs= [g 0,.ptr A 0,.nilp,aC 0,vL,g 5,.ptr (X+8) 0,g 7,g 8,vS,.sl D 0 m (.kn m),aC i,vx,.sl q 0 Q.length o,aC p,g 15,g 16,g 17,g 18,g 19,g 20,g 21,g 22,g 23,g 24,g 25,g 26,vL,aC m,aC i,g 30,g 31,g 32,vS,aC sl,aC t,g 36,g 37,g 38,g 39,g 40,g 41,g 42,g 43,g 44,g 45])/\
     p<Q.length/\t<=sl/\BQ G L S i Q p/\Q.getD p 0=c/\(∀s∈S.take t,∃j∈Q,L.getD j []=cW (L.getD c []) s)/\(o= .un 1∨o= .kn Q.length)/\B.get q=some (.cells false (ints (zi Q)))/\Z<=q/\q<B.next/\B.get D=some (.cells false (rc L.length λj=> .bool (Ib G L i Q j)))/\Fx (· =D) h7 B/\k'=sl-t) sl
     ⟨Q,q,o,0,aB rfl,U,iJ _,l,hc,λs hs=>(by simp at hs),F,gq,hq,nq,gD,Fa,rfl⟩ ?_
    clear l F gq hq nq gD Fa hc U a8 c7 d5 hp
    clear Q q o
    rintro k' K hb ⟨Q,q,o,t,⟨g3,rfl⟩,U,ht,l,hc,d7,F,gq,hq,nq,gD,Fb,rfl⟩
    by_cases l3:(t:Int)<(sl:Int)
    case neg=>
     have d5:=bH l3;obtain rfl:t=sl:=om
     simp(disch:=omega)only[go_sem,d5];refine⟨Q,q,o,aB rfl,U,⟨l.nd,l.ne,l.hd,l.mem,λk hk s hs=>?_⟩,F,gq,hq,nq,gD,Fb⟩
     by_cases e:k=p
     ·subst e
      rw[hc];exact d7 s (by rw[←f0,List.take_length];exact hs)
     ·exact l.cl k om s hs
    have d5:=bP l3
    have m9:t<sl:=om
    have a8:=l.len
    have nb:=Fb.next
    have e3:Fx (λq=>q=X+8∨D<=q) h5 hb:=⟨by have:=J.old.next;omega,λq d h2=>by rw[Fb.get q om (λe=>h2 (.inr (by have:q=D:=e;omega)))];exact J.old.get q d h2⟩
    have c4:Fr h2 hb:=⟨om,λq hq=>by rw[Fb.get q om (λe=>by have:q=D:=e;omega)];exact b2.get q hq⟩
    obtain⟨vy,cy,py⟩:=m1 t m9
    obtain⟨vz,cz,sz⟩:=e0 c om
    obtain⟨s,hs⟩:=exI (S.getD t [])
    rw[hs] at py
    have c8:s∈S:=by rw[←hs];exact bD om
    have Sp:=hG.cU (a2 s c8)
    have cq:hb.cell q p=some (aC c):=by rw[H.aF gq,Ip U,hc]
    simp(disch:=omega)only[go_sem,d5,i8.ixa,cy hb e3,cq,c1.ixa,cz hb c4]
    refine (Ce uG.ok vy n s _ om Sp ((py.fx e3).si.mono ((Fr.refl hb).bA om))).mono ?_
    rintro o0 k1 j7
    have K1:Fr hb k1:=((Fr.refl hb).bA om).trans j7.fr
    have m3:k1.cell q p=some (aC c):=by rw[K1.cell nq];exact cq
    have ez:=sz.dE
    simp(disch:=omega)only[go_sem,m3,cz k1 (c4.trans K1),ez]
    refine (Ws o0 vz (dA s) (L.getD c []) k1 (by rw[jQ,Sp.len];omega) (j7.pv (W:=λ_=>False) id).si (sz.mono (c4.trans K1)) (λj N=>by rw[Cp.len];exact Sp.inv.iN (by rw[←Sp.inv.len];exact N))).mono ?_
    rintro l7 k2 g4
    have K2:=K1.trans g4.fr
    have P2:=Sp.inv.mul Cp
    simp(disch:=omega)only[go_sem]
    refine (Ws l7 vy _ s k2 (by rw[P2.len];omega) (g4.pv (W:=λ_=>False) id).si ((py.fx e3).si.mono K2) (λj N=>by rw[Sp.len];exact P2.iN (by rw[←P2.len];exact N))).mono ?_
    rintro o4 k3 j5
    have K3:=K2.trans j5.fr
    have P3:=P2.mul Sp
    have p3:k3.cell q p=some (aC c):=by rw[K3.cell nq];exact cq
    have f4:=(j5.pv (W:=λ_=>False) id).si
    have q3:=f4.cK.2.1
    have d9: ∃vK,k3.get (X+8)=some (.cells false [vL,.mp (X+3),vK,.sl (X+6) 0 L.length (.kn L.length)]):=by
     obtain⟨vK,_,_,gB,_⟩:=J.ex;exact⟨vK,by rw[K3.get _ om,Fb.get _ om (λe=>by have:X+8=D:=e;omega)];exact gB⟩
    obtain⟨vK,d9⟩:=d9
    have j9:k3.cell (X+8) 1=some (.mp (X+3)):=by rw[H.aF d9];rfl
    obtain⟨j,N,ej⟩: ∃j,j<L.length/\L.getD j []=cW (L.getD c []) s:=by
     have m0:cW (L.getD c []) s∈L:=(E.mem _).2 (hG.mul (hG.mul (hG.inv (a2 s c8)) (oS E j0)) (a2 s c8));obtain⟨j,N,ej⟩:=zF.1 m0;exact⟨j,N,by rw[List.getD,dD N,←ej];rfl⟩
    have q1:aX (aX (dA s) (L.getD c [])) s=L.getD j []:=ej.symm
    rw[q1] at f4
    simp(disch:=omega)only[go_sem,p3,cz k3 (c4.trans K3),j9,ez]
    refine (FV o4 (L.getD j []) _ (a0 j om).1 (a0 j om).2 (f4.mono ((Fr.refl k3).bA om))).mono ?_
    rintro _ k4 ⟨rfl,l5⟩
    have j3:Fr k3 k4:=((Fr.refl k3).bA om).trans l5
    have K4:=K3.trans j3
    have r5:=K3.next
    have d0:k4.get (X+3)=some (.wmap .str (Ie L L.length)):=by
     rw[K4.get _ om,Fb.get _ om (λe=>by have:X+3=D:=e;omega),J.old.get _ om om,f5.get _ om,hm];exact b7
    have i4:k4.cell (X+8) 1=some (.mp (X+3)):=by rw[j3.cell om];exact j9
    have lk:=λz=>Np E.nodup N (hK j om) z
    have c0:k4.cell D j=some (.bool (Ib G L i Q j)):=by rw[K4.cell om];exact sL gD N
    have j6:cR G L i j:=wJ hG E om p1 ⟨s,a2 s c8,ej.symm⟩
    have k0:S.take (t+1)=S.take t++ [s]:=by rw[fT [] om,hs]
    have j8:k4.get q=some (.cells false (ints (zi Q))):=by rw[K4.get _ nq];exact gq
    have i7:k4.get D=some (.cells false (rc L.length λj=> .bool (Ib G L i Q j))):=by rw[K4.get _ om];exact gD
    have i5:Fx (· =D) h7 k4:=⟨by have:=K4.next;omega,λq d h2=>by rw[K4.get q om];exact Fb.get q d h2⟩
    cases hsn2:Ib G L i Q j with
    |true=>
     rw[hsn2] at c0
     have d3:j∈Q:=by
      rcases nG.1 hsn2 with ⟨i0,d,b4⟩|d
      ·exact absurd (wJ hG E om b4 (Ls hG E om j6)) (hr i0 d)
      ·exact d
     simp(disch:=omega)only[go_sem,i4,d0,lk,c0];rw[eJ t];refine⟨by simp [dE],sl-(t+1),om,Q,q,o,t+1,aB rfl,U,om,l,hc,?_,F,j8,hq,by have:=K4.next;omega,i7,i5,rfl⟩;rw[k0];intro s' b0;rcases pH.1 b0 with d|d
     ·exact d7 s' d
     ·obtain rfl:s'=s:=by simpa using d
      exact⟨j,d3,ej⟩
    |false=>
     rw[hsn2] at c0;have d3:j∉Q:=λd=>by rw[nG.2 (.inr d)] at hsn2;cases hsn2
     obtain⟨k5,e5,m5,g5,o5⟩:=pJ k4 D ((rc L.length λj=> .bool (Ib G L i Q j)).set j (.bool true));obtain⟨Y,hY⟩:=exI k5.next;obtain⟨k6,p5,m6,n2,d1,r6⟩:=dF hY [aC j];have pt:=bN (vs:=rc L.length λj=> .bool (Ib G L i Q j)) (off:=j) (by rw[kH];exact N);have nk:=K4.next;have m4:k6.get q=some (.cells false (ints (zi Q))):=by rw[d1 _ om,o5 _ om];exact j8
     have l9:cY k6 (.sl q 0 Q.length o) 1 (ints (zi Q)) 0:= .inr ⟨q,Q.length,o, [],rfl,by rw[aP,aQ];simp,by rcases F with d|d;exact .inl d;exact .inr ⟨d,rfl⟩,iJ _,om,by rw[vF];exact m4⟩;obtain⟨k7,a7,p7⟩:=l9.push (bytes:=8) (SV.one (v:= aC j) (id:=Y) om n2 (.kn 1)) (n:=Q.length) (m:=1) (by rw[aP,aQ];simp) rfl om om om;simp(disch:=omega)only[go_sem,i4,d0,lk,c0,i7,pt,e5,cT k5 (z:= aC 0) (v:= aC j) rfl rfl,hY,p5,a7];rw[eJ t];have el:ints (zi (Q++ [j]))=ints (zi Q)++ [aC j]:=by simp [zi,ints]
     have m7:=p7.next;have p9:dL (.sl q 0 Q.length o) D:=λid off n c e e2=>by cases e;omega
     have a5:(rc L.length λj'=>V.bool (Ib G L i Q j')).set j (.bool true)=rc L.length λj'=> .bool (Ib G L i (Q++ [j]) j'):=by
      rw[mS]
      exact dB λj' _=>by
       rw[Wt]
       by_cases e:j'=j
       ·rw[bF e,bF e]
       ·rw[bI e,bI e]
     refine⟨by simp [dE],sl-(t+1),om,Q++ [j],k6.next,.un 1,t+1,by rw[jZ];exact aB rfl,by rw[jZ];omega,om,⟨?_,by rw[jZ];simp,?_,?_,?_⟩,?_,?_,.inl rfl,by rw[el];exact p7.get,om,om,?_,?_,rfl⟩
     ·rw[List.nodup_append]
      exact⟨l.nd,by simp,λx hx y hy e=>by
       obtain rfl:y=j:=by simpa using hy
       exact d3 (e▸hx)⟩
     ·rw[List.getD,Dv l.ne];exact l.hd
     ·intro x hx
      rcases pH.1 hx with d|d
      ·exact l.mem x d
      ·obtain rfl:x=j:=by simpa using d
       exact⟨N,j6⟩
     ·intro k hk s' b0
      obtain⟨y,hy,ey⟩:=l.cl k hk s' b0;refine⟨y,pH.2 (.inl hy),?_⟩;rw[ey,List.getD,List.getD,List.getD,List.getD,Dv om]
     ·rw[List.getD,Dv U];exact hc
     ·rw[k0]
      intro s' b0;rcases pH.1 b0 with d|d
      ·obtain⟨y,hy,ey⟩:=d7 s' d
       exact⟨y,pH.2 (.inl hy),ey⟩
      ·obtain rfl:s'=s:=by simpa using d
       exact⟨j,pH.2 (.inr (by simp)),ej⟩
     ·rw[p7.old D om p9,d1 D om,g5,a5]
     ·refine⟨om,λx d h2=>?_⟩
      rw[p7.old x om (λid off n c e e2=>by cases e;omega),d1 x om,o5 x h2];exact i5.get x d h2
   clear l F gq hq nq gD Fa hc c7 d5 hp U a8
   clear Q q o
   rintro K hb ⟨Q,q,o,⟨g3,rfl⟩,U,a3,F,gq,hq,nq,gD,Fb⟩
   have a8:=a3.len
   simp(disch:=omega)only[go_sem]
   rw[eJ p]
   exact⟨m-(p+1),om,Q,q,o,p+1,aB rfl,om,a3,F,gq,hq,nq,gD,Fb,rfl⟩
  clear e4 B0 e8 n8 g8 o8 hZ e9 n9 g9 o9 f9 pt a5
  rintro K hb ⟨Q,q,o,⟨g3,rfl⟩,a3,F,gq,hq,nq,gD,Fb⟩
  have a8:=a3.len
  have nb:=Fb.next
  have f8:=Lm hb q (zi Q) o (by rw[aQ];omega) gq nq
  rw[aQ] at f8
  simp(disch:=omega)only[go_sem]
  refine f8.mono ?_
  rintro _ ka ⟨l',gl,pl,al,Fa⟩
  obtain rfl:=a3.sort hG E (fM _) om a2 a9 pl al
  have l1:Q.length=(kY G L i).length:=by have:=pl.length_eq;rw[aQ,aQ] at this;exact this.symm
  have na:=Fa.next
  have o2:Fr h2 ka:=⟨om,λx hx=>by rw[Fa.get x om (λe=>by have:x=q:=e;omega),Fb.get x om (λe=>by have:x=D:=e;omega)];exact b2.get x hx⟩
  have X1:=lY hG E (show i<L.length by omega)
  simp(disch:=omega)only[go_sem]
  refine (SH vx n (L.getD i []) ka n0 n7 X1 (sx.mono o2)).mono ?_
  rintro _ kb ⟨rfl,fb⟩
  have r3:=fb.next
  obtain⟨vK,ks,WK,gB,a6,aK,bK,wD,wB,wN,wn,wX,_⟩:=J.ex
  have r0:=aM.length aK
  have g0:kb.get (X+8)=some (.cells false [vL,.mp (X+3),vK,.sl (X+6) 0 L.length (.kn L.length)]):=by
   rw[fb.get _ om,Fa.get _ om (λe=>by have:X+8=q:=e;omega),Fb.get _ om (λe=>by have:X+8=D:=e;omega)];exact gB
  have c3:kb.cell (X+8) 2=some vK:=by rw[H.aF g0];rfl
  have b1:=sx.cK.2.1
  have q7:=a6.sv.dE
  obtain⟨Y,hY⟩:=exI kb.next
  obtain⟨kc,ec,mc,p4,oc,fc⟩:=dF hY [vx,aC (qF (L.getD i []) n:Nat),aC (Q.length:Int),.sl q 0 Q.length o]
  have b3: ∀x,x<Z->x≠D->kc.get x=h7.get x:=λx d h2=>by
   rw[oc x om,fb.get x om,Fa.get x om (λe=>by have:x=q:=e;omega),Fb.get x om h2]
  have i9:cY kc vK 4 (Cls.qY ks) (D+1):=a6.mono om λid off n' c e d h2=>b3 id om om
  have lr:=Co (G:=G) (L:=L) i
  obtain⟨kd,ad,pd⟩:=i9.push (bytes:=64) (y:= .sl Y 0 1 (.kn 1)) (us:= [vx,aC (qF (L.getD i []) n:Nat),aC (Q.length:Int),.sl q 0 Q.length o]) (SV.all rfl om p4 _) (n:=ks.length) (m:=1) (Re ks) rfl om om om
  have md:=pd.next
  have m8:dL vK (X+8):=λid off n' c e e2=>by have:=(a6.in _ _ _ _ e).2.1;omega
  have q0:kd.get (X+8)=some (.cells false [vL,.mp (X+3),vK,.sl (X+6) 0 L.length (.kn L.length)]):=by
   rw[pd.old _ om m8,oc _ om];exact g0
  obtain⟨ke,ee,me,ge,oe⟩:=pJ kd (X+8) [vL,.mp (X+3),.sl kc.next 0 (ks.length+1) (.un 4),.sl (X+6) 0 L.length (.kn L.length)]
  simp(disch:=omega)only[go_sem,c3,JS sx.cK.1 b1,MT b1 (w:= .sl q 0 Q.length o) rfl rfl,MI b1 (w:= .sl q 0 Q.length o) rfl,hY,ec,ad,q0,HY,ee]
  rw[eJ i]
  have h0: ∀x,x<Z-> ¬WK x->ke.get x=h7.get x:=λx d h2=>by
   rw[oe x (λe=>h2 (e▸wB)),pd.old x om (λid off n' c e e2=>h2 (e2▸bK _ _ _ _ e)),b3 x d (λe=>h2 (e▸wD))]
  have FK:Fx WK h7 ke:=⟨om,λx d h2=>h0 x om h2⟩
  have l6:Fr h2 ke:=⟨om,λx hx=>by rw[h0 x om (λd=>by have:=wX x d;omega)];exact b2.get x hx⟩
  have i1:Cls.qY (ks++ [⟨vx,qF (L.getD i []) n,Q.length,.sl q 0 Q.length o,i,⟨sx.cK.1,b1,sx.dE⟩,⟨rfl,rfl,by simp [dE]⟩⟩])=Cls.qY ks++ [vx,aC (qF (L.getD i []) n:Nat),aC (Q.length:Int),.sl q 0 Q.length o]:=by
   simp [Cls.qY,Cls.KE.enc]
  refine⟨m-(i+1),om,i+1,aB rfl,om,⟨⟨_,ks++ [⟨vx,qF (L.getD i []) n,Q.length,.sl q 0 Q.length o,i,⟨sx.cK.1,b1,sx.dE⟩,⟨rfl,rfl,by simp [dE]⟩⟩],λx=>WK x∨x=kc.next,ge,?_,?_,λid off n' c e=>by cases e;exact .inr rfl,   .inl wD,.inl wB,.inl wN,λx h=>by rcases h with h|h;have:=wn x h;omega;omega,λx h=>by rcases h with h|h;exact wX x h;omega,.inr ⟨_,_,by rw[jZ];rfl,?_⟩⟩,?_,?_,om⟩,rfl⟩
  ·rw[i1]
   exact (pd.own (b:=D+1) (Re ks) rfl om).mono om λid off n' c e d h2=>by cases e;exact oe _ om
  ·rw[(Nx i).1 hr]
   refine aM.append (aK.mono λa r k=>k.go FK om wX λx d h2=>by rcases h2 with h2|h2;exact h2;omega) ⟨⟨rfl,rfl,l1,⟨sx.mono l6,?_⟩,⟨?_,?_⟩⟩,trivial⟩
   ·rw[←hX];exact afI sx
   ·rw[l1]
    refine SV.all (ro:=false) (by rw[aP,aQ,uW]) om ?_ _
    rw[oe q om,pd.old q om (λid off n' c e e2=>by have:=wn _ (bK _ _ _ _ e);omega),oc q om,fb.get q om]
    exact gl
   ·exact λh=>by rcases h with h|h;have:=wn _ h;omega;omega
  ·rw[i1,oe _ om];exact pd.get
  ·rw[oe D om,pd.old D om (λid off n' c e e2=>by have:=(a6.in _ _ _ _ e).2.1;omega),oc D om,fb.get D om,Fa.get D om (λe=>by have:D=q:=e;omega),gD,dB λj N=>by rw[NU hG E (show i<L.length by omega) a3 a2 a9 N]]
  ·refine⟨by have:=J.old.next;omega,λx d h2=>?_⟩
   have o3:x≠X+8:=λe=>h2 (.inl e)
   have r4:x<D:=om
   rw[oe x o3,pd.old x om (λid off n' c e e2=>by have:=(a6.in _ _ _ _ e).2.1;omega),b3 x om om]
   exact J.old.get x d h2
 rintro K h7 ⟨⟨g,rfl⟩,J⟩
 exact hk L X D vL h2 h5 h7 A g hL ⟨E,om,f1.trans f2,hX,nw.sp,d2,om,hD,by rw[f5.get _ om,hm];exact b7,by rw[f5.get _ om,hm];exact j2,by rw[hm];exact J⟩
end
open Classical in
noncomputable def UN (G:List Nat->Prop)(L:LN)(K:List Nat)(j:Nat):Nat:=K.findIdx λr=>decide (cR G L r j)
structure KR (n:Nat)(G:List Nat->Prop)(L:LN)(hh:H)(a:Cls.KE)(r:Nat):Prop where
 fst:a.fst=r
 ord:a.ord=qF (L.getD r []) n
 size:a.size=(kY G L r).length
 rep:SI hh a.rep (zi (L.getD r []))
 ranks:SI hh a.ranks (zi (kY G L r))
theorem KR.mono {n:Nat}{G:List Nat->Prop}{L:LN}{h h':H}{a:Cls.KE}{r:Nat}(k:KR n G L h a r)(f:Fr h h'):KR n G L h' a r:=⟨k.fst,k.ord,k.size,k.rep.mono f,k.ranks.mono f⟩
def kLt (n:Nat)(G:List Nat->Prop)(L:LN)(r s:Nat):Prop:=qF (L.getD r []) n<qF (L.getD s []) n∨qF (L.getD r []) n=qF (L.getD s []) n/\((kY G L r).length<(kY G L s).length∨(kY G L r).length=(kY G L s).length/\r<s)
structure Cm (n:Nat)(G:List Nat->Prop)(L:LN)(K:List Nat):Prop where
 perm:K.Perm (jW G L L.length)
 asc:K.Pairwise (kLt n G L)
structure acQ (n:Nat)(G:List Nat->Prop)(L:LN)(K:List Nat)(hh:H)(v:V):Prop where
 ex: ∃B M N S cp vL ks,v= .ptr B 0/\B<hh.next/\M<hh.next/\N<hh.next/\S<hh.next/\hh.get B=some (.cells false [vL,.mp M,.sl S 0 K.length cp,.sl N 0 L.length (.kn L.length)])/\
  hh.get M=some (.wmap .str (Ie L L.length))/\hh.get N=some (.cells false (rc L.length λj=> aC (UN G L K j:Nat)))/\hh.get S=some (.cells false (Cls.qY ks))/\aM (KR n G L hh) ks K/\SP hh vL L
theorem acQ.mono {n:Nat}{G:List Nat->Prop}{L:LN}{K:List Nat}{h h':H}{v:V}(g:acQ n G L K h v)(f:Fr h h'):acQ n G L K h' v:=by
 obtain⟨B,M,N,S,i,m,l,e,c,o,d,r,j,q,b,p,a,sp⟩:=g.ex;have s:=f.next;exact⟨B,M,N,S,i,m,l,e,om,om,om,om,by rw[f.get _ c];exact j,by rw[f.get _ o];exact q,by rw[f.get _ d];exact b,by rw[f.get _ r];exact p,a.mono λ_ _ k=>k.mono f,sp.mono f⟩
section
variable {n:Nat} {G:List Nat->Prop} {L:LN} {K:List Nat} (hG:iX n G) (E:dW G L)
include hG E
omit hG E in
theorem Lz (a:0<L.length):0∈jW G L L.length:=kV.2 ⟨a,λj b=>om⟩
theorem XJ (l:K.Perm (jW G L L.length)){k:Nat}(d:k<K.length){j:Nat}(m:j∈kY G L (K.getD k 0)):UN G L K j=k:=by
 classical
 obtain⟨p,a⟩:=tA.1 m;have b:K.Nodup:=l.nodup_iff.2 (by unfold jW;exact List.Pairwise.filter _ List.nodup_range);have h: ∀r∈K,r<L.length/\HV G L r:=λr q=>kV.1 (l.mem_iff.1 q)
 unfold UN;rw[List.findIdx_eq d];have o:K.getD k 0=K[k]:=Pm.cJ d;rw[o] at a;refine⟨by simpa using a,λi hi=>?_⟩;simp only[decide_eq_false_iff_not];intro c;have g:=h K[i] (zG _);have f:=h K[k] (zG _);have:=VQ hG E g.1 f.1 g.2 f.2 c a;have e:=JX.1 b i k om d hi;exact e this
theorem MF (g:K.Perm (jW G L L.length)){j:Nat}(b:j<L.length): ∃k,k<K.length/\j∈kY G L (K.getD k 0):=by
 obtain⟨r,h,e,d⟩:=Vo hG E b;have f:r∈K:=g.mem_iff.2 (kV.2 ⟨om,e⟩);obtain⟨k,a,c⟩:=zF.1 f;exact⟨k,a,tA.2 ⟨b,by rw[Pm.cJ a,c];exact d⟩⟩
end
open Classical in
noncomputable def Qd (G:List Nat->Prop)(L:LN)(K:List Nat)(k t j:Nat):Nat:=if (∃k0,k0<k/\j∈kY G L (K.getD k0 0))∨j∈(kY G L (K.getD k 0)).take t then UN G L K j else 0
theorem RL (G:List Nat->Prop)(L:LN)(K:List Nat)(j:Nat):Qd G L K 0 0 j=0:=by
 classical
 unfold Qd;rw[bI];rintro (⟨a,h,_⟩|h)
 ·omega
 ·simp at h
theorem VY (G:List Nat->Prop)(L:LN)(K:List Nat)(k j:Nat):Qd G L K k (kY G L (K.getD k 0)).length j=Qd G L K (k+1) 0 j:=by
 classical
 unfold Qd;rw[List.take_length,List.take_zero]
 have e:((∃a,a<k/\j∈kY G L (K.getD a 0))∨j∈kY G L (K.getD k 0))↔((∃a,a<k+1/\j∈kY G L (K.getD a 0))∨j∈([]:List Nat)):=by
  constructor
  ·rintro (⟨a,c,b⟩|h)
   ·exact .inl ⟨a,om,b⟩
   ·exact .inl ⟨k,om,h⟩
  ·rintro (⟨a,c,b⟩|h)
   ·by_cases e:a=k
    ·subst e;exact .inr b
    ·exact .inl ⟨a,om,b⟩
   ·cases h
 by_cases h:((∃a,a<k/\j∈kY G L (K.getD a 0))∨j∈kY G L (K.getD k 0))
 ·rw[bF h,bF (e.1 h)]
 ·rw[bI h,bI (λx=>h (e.2 x))]
theorem PO {n:Nat}{G:List Nat->Prop}{L:LN}{K:List Nat}(hG:iX n G)(E:dW G L)(b:K.Perm (jW G L L.length)){k:Nat}(c:k<K.length){t:Nat}(a:t<(kY G L (K.getD k 0)).length)(j:Nat):
  Qd G L K k (t+1) j=if j=(kY G L (K.getD k 0)).getD t 0 then k else Qd G L K k t j:=by
 classical
 by_cases e:j=(kY G L (K.getD k 0)).getD t 0
 ·rw[bF e]
  have d:j∈kY G L (K.getD k 0):=by rw[e];exact bD a
  unfold Qd
  rw[bF (.inr (by rw[fT 0 a,e];simp))]
  exact XJ hG E b c d
 ·rw[bI e]
  unfold Qd
  rw[fT 0 a]
  simp only[pH,List.mem_singleton,e,or_false]
theorem QO {n:Nat}{G:List Nat->Prop}{L:LN}{K:List Nat}(hG:iX n G)(E:dW G L)(b:K.Perm (jW G L L.length)){j:Nat}(d:j<L.length):Qd G L K K.length 0 j=UN G L K j:=by
 classical
 obtain⟨k,a,c⟩:=MF hG E b d;unfold Qd;rw[bF (.inl ⟨k,a,c⟩)]
theorem Jl {h:H}{S:Nat}{ro:Bool}: ∀{ks:List Cls.KE} {pre:List V},h.get S=some (.cells ro (pre++Cls.qY ks))-> ∀{i:Nat} (hi:i<ks.length),h.row S (pre.length+i*4) 4=some ks[i].enc
 | [],_,_,_,hi=>by simp at hi
 |a::r,pre,g,0,_=>by
  unfold H.row;rw[g];show sub (pre++(a.enc++Cls.qY r)) (pre.length+0*4) 4=some a.enc;simp only[sub,Nat.zero_mul,Nat.add_zero];have:a.enc.length=4:=rfl;rw[bF (by rw[jZ,jZ];omega),List.drop_left,List.take_append,Tn om,this];simp
 |a::r,pre,g,i+1,hi=>by
  have b:h.get S=some (.cells ro ((pre++a.enc)++Cls.qY r)):=by rw[g,Ll];rfl
  have:=Jl b (i:=i) (by simpa using hi);rw[jZ,show a.enc.length=4 from rfl] at this;rw[show pre.length+(i+1)*4=pre.length+4+i*4 by omega];simpa using this
theorem VP (h:H)(id off:Nat)(a:Cls.KE):Wj h 4 (.ptr id off) (.agg a.enc)=dX (h.get id) h id off a.enc:=Cd h id off 4 _ rfl (by simp [Cls.KE.enc,a.hrep.2.1,a.hranks.2.1,show (aC (a.ord:Int)).one=true from rfl,show (aC (a.size:Int)).one=true from rfl])
theorem SD (b:H)(id:Nat)(a:Cls.KE)(x y z w:V):dX (some (.cells false [x,y,z,w])) b id 0 a.enc=some (b.set id (some (.cells false a.enc))):=by
 simp [dX,putAt,Cls.KE.enc]
theorem aM.ex {α β:Type}{R:α->β->Prop}{d:List α}{c:List β}(h:aM R d c){a:α}(e:a∈d): ∃b∈c,R a b:=by
 obtain⟨i,hi,rfl⟩:=zF.1 e;have f:=aM.length h;exact⟨c[i]'om,zG _,aM.get h i hi om⟩
theorem SI.lit {h:H}{v:V}{l:List Int}(s:SI h v l)(u:0<l.length): ∃id off m cap,v= .sl id off (m+1) cap/\m+1=l.length/\id<h.next/\ ∀i,i<l.length->h.cell id (off+i)=some (aC (l.getD i 0)):=by
 obtain⟨id,off,j,g,k⟩:=s.open;rcases s with ⟨_,p⟩|⟨c,a,len,cap,r,t,e,f,d,_⟩
 ·have:l.length=0:=by rw[←aP,p];rfl
  omega
 ·rw[aP,uW] at f
  have b:=j.ixa .i64 0 om om;subst e;rw[Lg om om] at b;simp only[Option.some.injEq,V.ptr.injEq] at b;obtain⟨rfl,q⟩:=b;have o:a=off:=om
  subst o;exact⟨c,a,l.length- 1,cap,by rw[show l.length- 1+1=len by omega],om,d,k⟩
theorem ahJ {W0:Nat->Prop}(vc:V)(n:Nat)(O:LN)(R:jI)(G:List Nat->Prop)(h:H)(gc:GC W0 h vc n O R G):
  Ev T 139 [vc] h (λv h'=> ∃p K,v= .tup [p,aC 0]/\acQ n G (cZ O R n 0 (bL n)) K h' p/\Cm n G (cZ O R n 0 (bL n)) K/\Fr h h'):=by
 refine WY vc n O R G h gc _ λL X D vL s h5 P A g hL e=>?_
 rw[hL]
 have hG:=gc.dN
 have E:=e.el
 obtain⟨vK,N,WK,gB,c1,aK,bK,wD,wB,wN,wn,wX,xK⟩:=e.j.ex
 have Q:=aM.length aK
 obtain⟨m,hm⟩:=exI L.length
 have h0:0<L.length:=HJ ((E.mem _).2 hG.one)
 have c6:0<N.length:=by rw[Q];exact HJ (Lz h0)
 obtain⟨S,cp,rfl,gS⟩: ∃id a4,vK= .sl id 0 N.length a4/\P.get id=some (.cells false (Cls.qY N)):=by
  rcases xK with l|l
  ·subst l;simp at c6
  ·exact l
 have wS:=bK _ _ _ _ rfl
 have nS:=wn _ wS
 have d3:P.cell (X+8) 2=some (.sl S 0 N.length cp):=by rw[H.aF gB];rfl
 show Wp T none (Tz 2 mL.fn.body) _ P _
 simp(disch:=omega)only[go_sem,Tz,QT,mL,d3]
 have hR: ∀r∈jW G L L.length,r<L.length/\HV G L r:=λr J=>kV.1 J
 have c2: ∀a∈N,a.Pp P P.next S:=λa W=>by
  obtain⟨r,J,k⟩:=aM.ex aK W;obtain⟨a3,a2⟩:=hR r J;obtain⟨l1,l2⟩:=Sr hG E a3 a2;obtain⟨id,off,m',a4,e1,e2,e3,e4⟩:=SI.lit k.ranks.si (by rw[aQ];exact l1);have ho:=k.ranks.off;rw[e1] at ho;refine⟨id,off,m',a4,e1,e3,λl=>ho (l▸wS),?_⟩;have:=e4 0 (by rw[aQ];exact l1);rw[Nat.add_zero] at this;rw[this,zi,nP _ (d:=0) l1,l2,k.fst]
 refine (Cls.TY P S P.next N cp (by rw[Q];have:=Co (G:=G) (L:=L) L.length;have:=e.le;omega) gS nS (fM _) c2).mono ?_
 rintro _ y ⟨o,b4,pm,c4,F8⟩
 obtain⟨K,hK⟩:=exI (o.map (λa:Cls.KE=>a.fst))
 have U:K.length=N.length:=by rw[←hK,jV];exact pm.length_eq
 have d2:N.map (λa:Cls.KE=>a.fst)=jW G L L.length:=by
  refine List.ext_getElem (by rw[jV];exact Q) λi l s=>?_
  rw[List.getElem_map];exact (aM.get aK i (by simpa using l) s).fst
 have pK:K.Perm (jW G L L.length):=by rw[←hK,←d2];exact pm.map _
 have kK: ∀a∈o,KO n G L X WK P a a.fst:=λa W=>by
  obtain⟨r,J,k⟩:=aM.ex aK (pm.mem_iff.1 W);rw[k.fst];exact k
 have FK:Fx WK P y:=⟨F8.next,λq l s=>F8.get q l λh3=>s (by have:q=S:=h3;rw[this];exact wS)⟩
 have e7: ∀a∈o,KO n G L X WK y a a.fst:=λa W=>(kK a W).go FK (by have:=wX S wS;omega) wX λ_ _ l=>l
 have e9:=(c1.in _ _ _ _ rfl).2.1
 have xD:=e.xD
 have n8:=F8.next
 have Z:y.get (X+8)=some (.cells false [vL,.mp (X+3),.sl S 0 N.length cp,.sl (X+6) 0 L.length (.kn L.length)]):=by
  rw[F8.get _ (wn _ wB) (λl=>by have:X+8=S:=l;omega)];exact gB
 have a8:y.cell (X+8) 2=some (.sl S 0 N.length cp):=by rw[H.aF Z];rfl
 have d0:P.get (X+6)=some (.cells false (rc L.length λ_=> aC 0)):=by
  rw[e.j.old.get _ (by rw[e.n5];omega) om];exact e.gN
 have e6:y.get (X+6)=some (.cells false (rc L.length λj=> aC (Qd G L K 0 0 j:Nat))):=by
  rw[F8.get _ (wn _ wN) (λl=>by have:X+6=S:=l;omega),d0,show (λj=>aC (Qd G L K 0 0 j:Nat))=λ_=>aC 0 from funext λj=>by rw[RL];rfl]
 have c0: ∀k,k<K.length-> ∃a,o[k]? =some a/\KO n G L X WK y a (K.getD k 0):=λk hk=>by
  have w:k<o.length:=by rw[pm.length_eq,←U];exact hk
  refine⟨o[k],dD w,?_⟩;have:=e7 _ (zG w);have e2:K.getD k 0=(o[k]).fst:=by rw[Pm.cJ hk];subst hK;rw[List.getElem_map]
  rw[e2];exact this
 have le:=e.le
 have e8:K.length<=L.length:=by rw[U,Q];exact Co _
 have nN:=wn _ wN
 rw[←U] at a8 Z
 simp(disch:=omega)only[go_sem,a8]
 refine bJ (λvs u=>(∃g:Nat->V,vs= [g 0,g 1,.nilp,aC 0,g 4,g 5,.ptr (X+8) 0,g 7,g 8,g 9,g 10,g 11,g 12,g 13,g 14,g 15,g 16,g 17,g 18,g 19,g 20,g 21,g 22,g 23,g 24,g 25,g 26,g 27,g 28,g 29,g 30,g 31,g 32,g 33,g 34,g 35,g 36,g 37,g 38,g 39,g 40,g 41,g 42,g 43,g 44,g 45])/\u.get (X+6)=some (.cells false (rc L.length λj=> aC (Qd G L K K.length 0 j:Nat)))/\Fx (· =X+6) y u) ?_ ?_
 ·refine aH (λk' vs u=> ∃(k:Nat),(∃g:Nat->V,vs= [g 0,g 1,.nilp,aC 0,g 4,g 5,.ptr (X+8) 0,g 7,g 8,g 9,g 10,g 11,g 12,g 13,g 14,g 15,g 16,g 17,g 18,g 19,g 20,g 21,g 22,g 23,g 24,g 25,g 26,g 27,g 28,g 29,g 30,g 31,g 32,g 33,g 34,g 35,g 36,g 37,.sl S 0 K.length cp,aC (K.length:Int),aC k,g 41,g 42,g 43,g 44,g 45])/\k<=K.length/\u.get (X+6)=some (.cells false (rc L.length λj=> aC (Qd G L K k 0 j:Nat)))/\Fx (· =X+6) y u/\k'=K.length-k) K.length
   ⟨0,aB rfl,iJ _,e6,Fx.refl _ _,rfl⟩ ?_
  rintro k' F h9 ⟨k,⟨g,rfl⟩,hk,B,z,rfl⟩
  have n9:=z.next
  by_cases b8:(k:Int)<(K.length:Int)
  case neg=>
   have d4:=bH b8;obtain rfl:k=K.length:=om
   simp(disch:=omega)only[go_sem,d4];exact⟨aB rfl,B,z⟩
  have d4:=bP b8
  have w:k<K.length:=om
  obtain⟨a,ea,ko⟩:=c0 k w
  have b3:k<o.length:=by rw[pm.length_eq,←U];exact w
  have a5:o[k]=a:=by rw[dD b3] at ea;simpa using ea
  have e0:h9.get S=some (.cells false (Cls.qY o)):=by rw[z.get _ om (λl=>by have:S=X+6:=l;omega)];exact b4
  have b0:h9.row S (k*4) 4=some a.enc:=by
   have:=Jl (pre:= []) (by simpa using e0) b3;rw[a5] at this;simpa using this
  obtain⟨Y,hY⟩:=exI h9.next
  obtain⟨W,b1,na,ga,oa,fa⟩:=dF hY [.aE,aC 0,aC 0,.aE]
  obtain⟨hb,b5,nb,gb,ob⟩:=pJ W Y a.enc
  have b2:hb.cell Y 3=some a.ranks:=by rw[H.aF gb];rfl
  have lr:=ko.ranks.si.lens
  rw[aQ] at lr
  obtain⟨r,J⟩:=exI (K.getD k 0)
  rw[J] at ko lr
  simp(disch:=omega)only[go_sem,d4,b0,hY,b1,VP,ga,SD,b5,b2,lr]
  have c9:r∈jW G L L.length:=by rw[←J];exact pK.mem_iff.1 (bD w)
  obtain⟨a3,a2⟩:=hR r c9
  obtain⟨l1,l2⟩:=Sr hG E a3 a2
  obtain⟨a0,a1,mR,a6,e1,e2,e3,e4⟩:=SI.lit ko.ranks.si (by rw[aQ];exact l1)
  have ho:=ko.ranks.off
  rw[e1] at ho
  have d8:a0≠X+6:=λl=>ho (l▸wN)
  obtain⟨c,hc⟩:=exI ((kY G L r).length)
  rw[aQ,hc] at e2 e4
  have f0:c<=L.length:=by
   rw[←hc];have:=List.Nodup.length_le_of_subset (Oz (G:=G) (L:=L) r) (l₂:=List.range L.length) λj hj=>Gu.2 (tA.1 hj).1
   rwa [NM] at this
  rw[hc,e1]
  have Fb:Fx (· =X+6) y hb:=⟨om,λq l s=>by rw[ob q om,oa q om];exact z.get q l s⟩
  have a7:hb.get (X+6)=some (.cells false (rc L.length λj=> aC (Qd G L K k 0 j:Nat))):=by rw[ob _ om,oa _ om];exact B
  have c5: ∀u,Fx (· =X+6) y u->u.cell (X+8) 3=some (.sl (X+6) 0 L.length (.kn L.length)):=λu f=>by
   have:u.get (X+8)=y.get (X+8):=f.get _ (by have:=wn _ wB;omega) om;rw[H.aF (this.trans Z)];rfl
  refine xE (λvs u=>(∃g:Nat->V,vs= [g 0,g 1,.nilp,aC 0,g 4,g 5,.ptr (X+8) 0,g 7,g 8,g 9,g 10,g 11,g 12,g 13,g 14,g 15,g 16,g 17,g 18,g 19,g 20,g 21,g 22,g 23,g 24,g 25,g 26,g 27,g 28,g 29,g 30,g 31,g 32,g 33,g 34,g 35,g 36,g 37,.sl S 0 K.length cp,aC (K.length:Int),aC k,g 41,g 42,g 43,g 44,g 45])/\u.get (X+6)=some (.cells false (rc L.length λj=> aC (Qd G L K (k+1) 0 j:Nat)))/\Fx (· =X+6) y u) ?_ ?_
  ·refine aH (λk' vs u=> ∃(t:Nat),(∃g:Nat->V,vs= [g 0,g 1,.nilp,aC 0,g 4,g 5,.ptr (X+8) 0,g 7,g 8,g 9,g 10,g 11,g 12,g 13,g 14,g 15,g 16,g 17,g 18,aC k,g 20,g 21,g 22,g 23,g 24,g 25,g 26,g 27,g 28,g 29,g 30,g 31,g 32,g 33,g 34,g 35,g 36,g 37,.sl S 0 K.length cp,aC (K.length:Int),aC k,g 41,.sl a0 a1 (mR+1) a6,aC c,aC t,g 45])/\t<=c/\u.get (X+6)=some (.cells false (rc L.length λj=> aC (Qd G L K k t j:Nat)))/\Fx (· =X+6) y u/\k'=c-t) c
    ⟨0,aB rfl,iJ _,a7,Fb,rfl⟩ ?_
   clear a7 Fb gb ob b2 nb b5 ga oa fa na b1 b0 B z n9
   rintro k' F b6 ⟨t,⟨g2,rfl⟩,ht,b7,Fc,rfl⟩
   by_cases b9:(t:Int)<(c:Int)
   case neg=>
    have d5:=bH b9;obtain rfl:t=c:=om
    simp(disch:=omega)only[go_sem,d5];refine⟨aB rfl,?_,Fc⟩;rw[b7,show (λj=>aC (Qd G L K k t j:Nat))=λj=>aC (Qd G L K (k+1) 0 j:Nat) from funext λj=>by rw[←VY,J,hc]]
   have d5:=bP b9
   have d7:t<c:=om
   obtain⟨x,hx⟩:=exI ((kY G L r).getD t 0)
   have d6:x<L.length:=by rw[←hx];exact (tA.1 (bD om)).1
   have c8:b6.cell a0 (a1+t)=some (aC x):=by
    have e5:=e4 t d7;unfold H.cell at e5 ⊢;rw[Fc.get a0 e3 d8,e5,zi,nP _ (d:=0) om,hx]
   have pt:=bN (vs:=rc L.length λj=> aC (Qd G L K k t j:Nat)) (off:=x) (by rw[kH];exact d6)
   have tl:(t:Int).toNat=t:=rfl
   simp(disch:=omega)only[go_sem,d5,c8,c5 b6 Fc,b7,pt]
   rw[eJ t]
   refine⟨c-(t+1),om,t+1,aB rfl,om,?_,⟨Fc.next,λq l s=>by rw[H.aG _ s];exact Fc.get q l s⟩,rfl⟩
   rw[mS,dB λj hj=>?_]
   rw[PO hG E pK w (by rw[J];omega),J,hx]
   by_cases ej:j=x
   ·rw[bF ej,bF ej]
   ·rw[bI ej,bI ej]
  rintro F hd ⟨⟨g2,rfl⟩,c7,Fd⟩
  simp(disch:=omega)only[go_sem]
  rw[eJ k]
  exact⟨K.length-(k+1),om,k+1,aB rfl,om,c7,Fd,rfl⟩
 rintro F h9 ⟨⟨g,rfl⟩,B,z⟩
 have n9:=z.next
 simp(disch:=omega)only[go_sem]
 have n2:=e.x2
 have o9: ∀q,q<D->q≠X+8->q≠X+6->h9.get q=h5.get q:=λq l s h3=>by
  rw[z.get q (by have:=e.j.nx;omega) h3,F8.get q (by have:=e.j.nx;omega) (λh4=>by have:q=S:=h4;omega),e.j.old.get q (by rw[e.n5];exact l) (λh4=>by rcases h4 with h4|h4;exact s h4;omega)]
 have nx:=e.j.nx
 have a9:Fr s h9:=⟨om,λq hq=>by rw[o9 q om om om];exact e.f25.get q hq⟩
 have c3:Fx WK y h9:=⟨z.next,λq l s=>z.get q l λh3=>s (by have:q=X+6:=h3;rw[this];exact wN)⟩
 have d9:K.Nodup:=pK.nodup_iff.2 (by classical exact (by unfold jW;exact List.Pairwise.filter _ List.nodup_range))
 have d1:o.length=K.length:=by rw[←hK,jV]
 refine⟨.ptr (X+8) 0,K,rfl,⟨X+8,X+3,X+6,S,cp,vL,o,rfl,om,om,om,om,?_,?_,?_,?_,?_,e.sp.mono a9⟩,⟨pK,?_⟩,e.f2.trans a9⟩
 ·rw[z.get _ om om];exact Z
 ·rw[o9 _ om om om];exact e.gM
 ·rw[B,dB λj hj=>by rw[QO hG E pK hj]]
 ·rw[z.get _ om om];exact b4
 ·refine aM.mQ d1 λi l s=>?_
  obtain⟨a,ea,ko⟩:=c0 i s
  have a5:o[i]=a:=by rw[dD l] at ea;simpa using ea
  have k9:=ko.go c3 om wX λ_ _ l=>l
  rw[Pm.cJ s] at k9
  rw[a5]
  exact⟨k9.fst,k9.ord,k9.size,k9.rep.si,k9.ranks.si⟩
 ·have l:o.Pairwise λa b=>a.fst≠b.fst:=by
   have:=d9;rw[←hK] at this;exact List.pairwise_map.1 this
  rw[←hK,List.pairwise_map];refine List.Pairwise.imp_of_mem ?_ (List.Pairwise.and c4 l);rintro a b W hb ⟨s,h3⟩;have ka:=kK a W;have kb:=kK b hb;have h4: ¬(b.lt a=true):=by rw[s];simp
  rw[Cls.KE.lt_iff] at h4;unfold kLt;rw[←ka.ord,←kb.ord,←ka.size,←kb.size];omega
theorem KC {n:Nat}{G:List Nat->Prop}{L:LN}{r s:Nat}(a:kLt n G L r s)(b:kLt n G L s r):False:=by
 unfold kLt at a b;omega
theorem Cm.uniq {n:Nat}{G:List Nat->Prop}{L:LN}{K c:List Nat}(a:Cm n G L K)(b:Cm n G L c):K=c:=
 (a.perm.trans b.perm.symm).eq_of_pairwise (λ_ _ _ _ e d=>(KC e d).elim) a.asc b.asc
def uK (ks:List Cls.KE):List V:=ks.flatMap λa=> [a.rep,aC (a.ord:Int),aC (a.size:Int)]
theorem sU (b:List Cls.KE):(uK b).length=b.length*3:=by
 induction b with
 |nil=>rfl
 |cons a r ih=>
  show ([a.rep,aC (a.ord:Int),aC (a.size:Int)]++uK r).length=_;rw[jZ,ih];show 3+r.length*3=(r.length+1)*3;omega
theorem ZP {h:H}{Y:Nat}{ro:Bool}{a:Cls.KE}(g:h.get Y=some (.cells ro a.enc)):h.row Y 0 3=some [a.rep,aC (a.ord:Int),aC (a.size:Int)]:=by
 simp [H.row,g,sub,Cls.KE.enc]
theorem ME {v:V}(a:v.one=true)(x y:Int)(h:H):lQ h 3 [.aE,aC 0,aC 0] 1 [(0,3,.agg [v,aC x,aC y])]=some (.sl h.next 0 1 (.kn 1),h.new (.cells false [v,aC x,aC y])):=by
 have e:cX [V.aE,aC 0,aC 0] 3= [V.aE,aC 0,aC 0]:=rfl;simp [lQ,iS,putAt,e,a,show ∀l,(V.agg l).cells=l from λ_=>rfl,show ∀z,(aC z).one=true from λ_=>rfl]
theorem PY {W0:Nat->Prop}(vc:V)(n:Nat)(O:LN)(R:jI)(G:List Nat->Prop)(h:H)(t:GC W0 h vc n O R G)(L:LN)(hL:cZ O R n 0 (bL n)=L):
  Ev T 100 [vc] h (λv h'=> ∃vl K ks,v= .tup [vl,aC 0]/\Cm n G L K/\SV h' vl 3 (uK ks)/\aM (KR n G L h') ks K/\Fr h h'):=by
 obtain⟨vO,vR,e,sO,sR⟩:=t.ch
 subst e
 refine cV Au rfl ?_
 have z:vO.one=true:=oNs sO
 have F:vR.one=true:=oNt sR
 obtain⟨A,hA⟩:=exI h.next
 obtain⟨h1,e1,n1,g1,o1,f1⟩:=dF hA [aC n,vO,vR]
 have bx:=bM h (v:= aC n) (u:=vO) (w:=vR) rfl z F
 have rB:=aI g1
 simp(disch:=omega)only[go_sem,Au,aD,bx,hA,e1,rB]
 refine (ahJ _ n O R G h1 (t.mono f1)).mono ?_
 rw[hL]
 rintro _ f ⟨p,K,rfl,go,ik,f2⟩
 obtain⟨B,M,N,S,cp,vL,ks,rfl,hB,hM,hN,hS,gB,gM,gN,gS,aK,sp⟩:=go.ex
 have c2:f.cell B 2=some (.sl S 0 K.length cp):=by rw[H.aF gB];rfl
 have a8:=aM.length aK
 have a5:K.length<=5040:=by
  have h1:=ik.perm.length_eq;have f:=Co (G:=G) (L:=L) L.length;have h3:=jH t;have h4:=(dM t.dN t.isc).2;rw[hL] at h4;omega
 simp(disch:=omega)only[go_sem]
 refine aW (λhc=>(hc rfl).elim) (λ_=>?_)
 simp(disch:=omega)only[go_sem,c2]
 refine bJ (λvs r=> ∃b,(∃g:Nat->V,vs= [g 0,g 1,g 2,g 3,g 4,g 5,b,g 7,g 8,g 9,g 10,g 11,g 12])/\SV r b 3 (uK ks)/\Fr f r) ?_ ?_
 ·refine aH (λk' vs r=> ∃(k:Nat) (b:V),(∃g:Nat->V,vs= [g 0,g 1,g 2,g 3,.ptr B 0,g 5,b,g 7,g 8,.sl S 0 K.length cp,aC (K.length:Int),aC k,g 12])/\k<=K.length/\cY r b 3 (uK (ks.take k)) f.next/\Fr f r/\k'=K.length-k) K.length
   ⟨0,.aE,aB rfl,iJ _,cY.aE _ _ _,Fr.refl _,rfl⟩ ?_
  rintro k' j l ⟨k,b,⟨g,rfl⟩,hk,J,d,rfl⟩
  by_cases x:(k:Int)<(K.length:Int)
  case neg=>
   have d4:=bH x;obtain rfl:k=K.length:=om
   simp(disch:=omega)only[go_sem,d4];rw[Tn om] at J;exact⟨b,aB rfl,J.sv,d⟩
  have d4:=bP x
  have a6:k<K.length:=om
  have i:k<ks.length:=om
  obtain⟨a,ea⟩:=exI (ks[k])
  have W:l.get S=aZ (Cls.qY ks):=by rw[d.get _ hS];exact gS
  have U:l.row S (k*4) 4=some a.enc:=by
   have:=Jl (pre:= []) (by simpa using W) i;rw[ea] at this;simpa using this
  obtain⟨Y,hY⟩:=exI l.next
  obtain⟨ha,a0,na,ga,oa,fa⟩:=dF hY [.aE,aC 0,aC 0,.aE]
  obtain⟨hb,Q,nb,gb,ob⟩:=pJ ha Y a.enc
  obtain⟨Z,hZ⟩:=exI hb.next
  obtain⟨s,a2,nc,a1,oc,fc⟩:=dF hZ [a.rep,aC (a.ord:Int),aC (a.size:Int)]
  have o:Fr l s:=⟨om,λq hq=>by rw[oc q om,ob q om,oa q om]⟩
  have a4:cY s b 3 (uK (ks.take k)) f.next:=J.fr o
  obtain⟨hd,ad,P⟩:=a4.push (bytes:=40) (y:= .sl Z 0 1 (.kn 1)) (us:= [a.rep,aC (a.ord:Int),aC (a.size:Int)]) (SV.all rfl om a1 _) (n:=k) (m:=1) (by rw[sU,Fj];omega) rfl om om om
  simp(disch:=omega)only[go_sem,d4,U,hY,a0,VP,ga,SD,Q,ZP gb,ME a.hrep.2.1,hZ,a2,ad]
  rw[eJ k]
  have el:uK (ks.take (k+1))=uK (ks.take k)++ [a.rep,aC (a.ord:Int),aC (a.size:Int)]:=by
   rw[List.take_succ_eq_append_getElem i,ea];simp [uK]
  have n9:=d.next
  have nd:=P.next
  have a3:Fr f hd:=⟨om,λq hq=>by rw[P.old q om (λid a7 n' c e e2=>by have:=(J.in _ _ _ _ e).2.1;omega),o.get q om];exact d.get q hq⟩
  exact⟨K.length-(k+1),om,k+1,_,aB rfl,om,by rw[el];exact P.own (by rw[sU,Fj];omega) rfl om,a3,rfl⟩
 rintro j l ⟨b,⟨g,rfl⟩,sv,d⟩
 simp(disch:=omega)only[go_sem]
 exact⟨b,K,ks,rfl,ik,sv,aK.mono λ_ _ k=>k.mono d,(f1.trans f2).trans d⟩
set_option maxRecDepth 100000
set_option maxRecDepth 100000
theorem QC {n:Nat}{a:List Nat}(A:bE n a)(h:n<=7):qF a n∣420:=by
 unfold qF;rw[Hb];intro c d;obtain⟨l,f,rfl⟩:=uF.1 d;obtain⟨i,hi,rfl⟩:=uF.1 f;have b:i<n:=by unfold Qh at hi;exact Gu.1 (CH.1 hi).1
 rw[Ca];have e:=(pD A b).1;have g:=BA A b;have: ∀k,k<8->0<k->k∣420:=by decide
 exact this _ om e
set_option maxRecDepth 100000
set_option maxRecDepth 100000
set_option maxRecDepth 100000
section
variable {n:Nat} {G:List Nat->Prop} {L:LN} (hG:iX n G) (E:dW G L)
end
def NC (n:Nat)(A B:List Nat->Prop)(x:List Nat):Prop:= ∀H:List Nat->Prop,iX n H->(∀a,A a->H a)->(∀y b,H y->B b->H (cW y b))->H x
section
variable {n:Nat} {A B A' B' H:List Nat->Prop}
theorem NC.le {x:List Nat}(h:NC n A B x)(d:iX n H)(e: ∀a,A a->H a)(c: ∀y b,H y->B b->H (cW y b)):H x:=h H d e c
theorem NC.of {a:List Nat}(h:A a):NC n A B a:=λ_ _ b _=>b a h
theorem NC.cj {x b:List Nat}(h:NC n A B x)(c:B b):NC n A B (cW x b):=λH e d a=>a _ _ (h H e d a) c
theorem abW (n:Nat):iX n (bE n):=⟨λh=>h,bE.one n,λa b=>a.mul b,λa=>a.inv⟩
theorem NC.dN (d: ∀a,A a->bE n a)(f: ∀b,B b->bE n b):iX n (NC n A B):=
 ⟨λh=>h _ (abW n) d λy b Y e=>qG Y (f b e),λ_ c _ _=>c.one,λh k _ c a b=>c.mul (h _ c a b) (k _ c a b),λh _ c a b=>c.inv (h _ c a b)⟩
theorem NC.same (i: ∀a,A a->bE n a)(k: ∀b,B b->bE n b)(e: ∀a,A' a->bE n a)(d: ∀b,B' b->bE n b)
  (m: ∀a,A a->A' a∨a=bL n) (l: ∀a,A' a->A a∨a=bL n) (j: ∀a,B a->B' a∨a=bL n) (o: ∀a,B' a->B a∨a=bL n) (x:List Nat):NC n A B x↔NC n A' B' x:=by
 have c: ∀{A B A' B':List Nat->Prop},(∀a,A' a->bE n a)->(∀b,B' b->bE n b)->(∀a,A a->A' a∨a=bL n)->(∀a,B a->B' a∨a=bL n)->NC n A B x->NC n A' B' x:=λ{A B A' B'} p q a b h=>
  h.le (NC.dN p q) (λz f=>by
   rcases a z f with h|rfl
   ·exact NC.of h
   ·exact (NC.dN p q).one) (λy z g f=>by
   rcases b z f with h|rfl
   ·exact g.cj h
   ·rw[mG ((NC.dN p q).cU g)];exact g)
 exact⟨c e d m j,c i k l o⟩
theorem Xw (d:iX n H)(c: ∀b,B b->bE n b)(e: ∀y b,H y->B b->H (cW y b)){g:List Nat}(f:bX n B g): ∀y,H y->H (cW y g):=by
 induction f with
 |one=>intro y a;rw[mG (d.cU a)];exact a
 | @mul z k hz hk ih=>intro y a;rw[nX (d.cU a) (hz.cU c) (c _ hk)];exact e _ _ (ih y a) hk
end
def jE (x y:List Nat):List Nat:=aX (aX (dA x) (dA y)) (aX x y)
section
variable {n:Nat} {x y:List Nat}
theorem Rh (X:bE n x)(Y:bE n y):bE n (jE x y):=(X.inv.mul Y.inv).mul (X.mul Y)
theorem JY (X:bE n x):jE x (bL n)=bL n:=by
 unfold jE;rw[oJ,bZ X.inv,bZ X,iE X]
theorem KJ (Y:bE n y):jE (bL n) y=bL n:=by
 unfold jE;rw[oJ,eP Y.inv,eP Y,iE Y]
theorem xX (X:bE n x)(Y:bE n y):jE x y=aX (dA x) (cW x y):=by
 unfold jE cW;rw[aV X.inv Y.inv (X.mul Y),aV Y.inv X Y]
end
def Ad (n:Nat)(R R':jI):List Nat->Prop:=NC n (λx=> ∃p,p∈bQ R/\ ∃q,q∈bQ R'/\x=jE p q) (λb=>b∈bQ R∨b∈bQ R')
section
variable {n:Nat} {G K:List Nat->Prop} {O O':LN} {R R':jI}
theorem Ad.dN (g:iX n G)(f:iX n K)(c:bC n G O R)(d:bC n K O' R'):iX n (Ad n R R'):=
 NC.dN (λa ⟨_,hp,_,hq,e⟩=>by rw[e];exact Rh (g.cU (bV c hp)) (f.cU (bV d hq))) (λb h=>h.elim (λh=>g.cU (bV c h)) λh=>f.cU (bV d h))
theorem Ad.le (e:iX n G)(k:iX n K)(c:bC n G O R)(d:bC n K O' R')(i: ∀y b,G y->K b->G (cW y b)){x:List Nat}(h:Ad n R R' x):G x:=by
 refine NC.le h e ?_ ?_
 ·rintro a ⟨p,l,q,j,rfl⟩
  have P:=bV c l;have Q:=bV d j;rw[xX (e.cU P) (k.cU Q)];exact e.mul (e.inv P) (i _ _ P Q)
 ·rintro y b g (f|f)
  ·have:=bV c f
   exact e.mul (e.mul (e.inv this) g) this
  ·exact i _ _ g (bV d f)
theorem Ad.self (a:iX n G)(c:bC n G O R){x:List Nat}(h:Ad n R R x):G x:=
 Ad.le a a c c (λy b e d=>a.mul (a.mul (a.inv d) e) d) h
theorem Ad.norm (i:iX n G)(e:iX n K)(c:bC n G O R)(d:bC n K O' R'){y b:List Nat}(a:Ad n R R' y)(f:K b):Ad n R R' (cW y b):=
 Xw (B:=λg=>g∈bQ R') (Ad.dN i e c d) (λb h=>e.cU (bV d h)) (λy b a f=>NC.cj a (.inr f)) (nJ e d f) y a
end
set_option maxHeartbeats 8000000
theorem Ii (h:H){v w:V}(a:v.cells= [v]/\v.one=true)(b:w.cells= [w]/\w.one=true):lQ h 1 [.aE] 2 [(0,1,v),(1,1,w)]=some (.sl h.next 0 2 (.kn 2),h.new (.cells false [v,w])):=by
 have e:List.range 2= [0,1]:=rfl;simp [lQ,rO,iS,putAt,a.1,a.2,b.1,b.2,cX,e]
theorem Pv {n:Nat}{u w:V}{a b:List Nat}{h h':H}(A:bE n a)(B:bE n b)(c:SI h u (zi a))(d:SI h w (zi b))(f:Fr h h'): ∀i,i< [u,w].length-> ∃a,bE n a/\SI h' (([u,w]:List V).getD i .undef) (zi a):=λi hi=>by
 match i,hi with
 |0,_=>exact⟨a,A,c.mono f⟩
 |1,_=>exact⟨b,B,d.mono f⟩
theorem Is {n:Nat}{a b:List Nat}(A:bE n a)(B:bE n b): ∀i,i<a.length->a.getD i 0<b.length:=λi hi=>by
 rw[B.len];exact A.iN (by rw[←A.len];exact hi)
theorem XP (u w:V)(n:Nat)(a b:List Nat)(h:H)(s:1<=n)(o:n<=64)(A:bE n a)(B:bE n b)(d:SI h u (zi a))(e:SI h w (zi b)):
  Ev T 209 [u,w] h (λv h'=> ∃x,v= .tup [x,aC 0]/\PV (λq=>q<h.next) h' x (aX a b)/\Fr h h'):=by
 refine cV Nj rfl ?_
 have g:=SV.cK d
 have i:=SV.cK e
 obtain⟨r,t,y,k,F,f⟩:=dF (h:=h) rfl [u,w]
 simp(disch:=omega)only[go_sem,Nj,aD,Ii h (v:=u) (w:=w) ⟨g.1,g.2.1⟩ ⟨i.1,i.2.1⟩,t]
 refine (Aq _ [u,w] n r s o (by simp) (SV.all rfl om k _) (Pv A B d e f)).mono ?_
 rintro _ l ⟨rfl,m⟩
 have c:=f.trans m
 simp(disch:=omega)only[go_sem]
 refine aW (λp=>(p rfl).elim) (λ_=>?_)
 simp(disch:=omega)only[go_sem]
 refine (mY qL.ok u w a b l (by rw[A.len];omega) (d.mono c) (e.mono c) (Is A B)).mono ?_
 rintro x z j
 have:=c.next
 simp(disch:=omega)only[go_sem]
 exact⟨x,rfl,j.pv om,c.trans j.fr⟩
theorem ZK (u:V)(n:Nat)(a:List Nat)(h:H)(p:1<=n)(l:n<=64)(A:bE n a)(c:SI h u (zi a)):
  Ev T 208 [u] h (λv h'=> ∃x,v= .tup [x,aC 0]/\PV (λq=>q<h.next) h' x (dA a)/\Fr h h'):=by
 refine cV Pj rfl ?_
 have e:=SV.cK c
 obtain⟨o,r,s,g,w,d⟩:=dF (h:=h) rfl [u]
 simp(disch:=omega)only[go_sem,Pj,aD,cT h (z:= .aE) e.1 e.2.1,r]
 refine (Aq _ [u] n o p l (by simp) (SV.one om g (.kn 1)) (λi hi=>⟨a,A,?_⟩)).mono ?_
 ·have:i=0:=by simpa using hi
  subst this
  exact c.mono d
 rintro _ j ⟨rfl,k⟩
 have b:=d.trans k
 simp(disch:=omega)only[go_sem]
 refine aW (λm=>(m rfl).elim) (λ_=>?_)
 simp(disch:=omega)only[go_sem]
 refine (Ce xH.ok u n a j om A (c.mono b)).mono ?_
 rintro x t f
 have:=b.next
 simp(disch:=omega)only[go_sem]
 exact⟨x,rfl,f.pv om,b.trans f.fr⟩
theorem PK (u w:V)(n:Nat)(a b:List Nat)(h:H)(L:1<=n)(G:n<=64)(A:bE n a)(B:bE n b)(j:SI h u (zi a))(i:SI h w (zi b)):
  Ev T 207 [u,w] h (λv h'=> ∃x,v= .tup [x,aC 0]/\PV (λq=>q<h.next) h' x (cW a b)/\Fr h h'):=by
 refine cV Jt rfl ?_
 have l:=SV.cK j
 have m:=SV.cK i
 obtain⟨K,N,O,p,Q,k⟩:=dF (h:=h) rfl [u,w]
 simp(disch:=omega)only[go_sem,Jt,aD,Ii h (v:=u) (w:=w) ⟨l.1,l.2.1⟩ ⟨m.1,m.2.1⟩,N]
 refine (Aq _ [u,w] n K L G (by simp) (SV.all rfl om p _) (Pv A B j i k)).mono ?_
 rintro _ r ⟨rfl,F⟩
 have e:=k.trans F
 simp(disch:=omega)only[go_sem]
 refine aW (λJ=>(J rfl).elim) (λ_=>?_)
 simp(disch:=omega)only[go_sem]
 refine (Ce xH.ok w n b r om B (i.mono e)).mono ?_
 rintro x s o
 have g:=e.trans o.fr
 simp(disch:=omega)only[go_sem]
 refine (mY qL.ok x u (dA b) a s (by rw[B.inv.len];omega) (o.pv (W:=λ_=>False) id).si (j.mono g) (Is B.inv A)).mono ?_
 rintro y t f
 have c:=g.trans f.fr
 simp(disch:=omega)only[go_sem]
 refine (mY qL.ok y w (aX (dA b) a) b t (by rw[(B.inv.mul A).len];omega) (f.pv (W:=λ_=>False) id).si (i.mono c) (Is (B.inv.mul A) B)).mono ?_
 rintro z P d
 have:=c.next
 simp(disch:=omega)only[go_sem]
 exact⟨z,rfl,d.pv om,c.trans d.fr⟩
theorem SG (u w:V)(n:Nat)(a b:List Nat)(h:H)(Q:1<=n)(U:n<=64)(A:bE n a)(B:bE n b)(l:SI h u (zi a))(m:SI h w (zi b)):
  Ev T 123 [u,w] h (λv h'=> ∃x,v= .tup [x,aC 0]/\PV (λq=>q<h.next) h' x (jE a b)/\Fr h h'):=by
 refine cV Ka rfl ?_
 have p:=SV.cK l
 have G:=SV.cK m
 obtain⟨h1,Y,n1,J,o1,F⟩:=dF (h:=h) rfl [u,w]
 simp(disch:=omega)only[go_sem,Ka,aD,Ii h (v:=u) (w:=w) ⟨p.1,p.2.1⟩ ⟨G.1,G.2.1⟩,Y]
 refine (Aq _ [u,w] n h1 Q U (by simp) (SV.all rfl om J _) (Pv A B l m F)).mono ?_
 rintro _ L ⟨rfl,O⟩
 have g:=F.trans O
 simp(disch:=omega)only[go_sem]
 refine aW (λZ=>(Z rfl).elim) (λ_=>?_)
 simp(disch:=omega)only[go_sem]
 refine (Ce xH.ok u n a L om A (l.mono g)).mono ?_
 rintro x K r
 have i:=g.trans r.fr
 simp(disch:=omega)only[go_sem]
 refine (Ce xH.ok w n b K om B (m.mono i)).mono ?_
 rintro y N d
 have o:=i.trans d.fr
 simp(disch:=omega)only[go_sem]
 refine (mY qL.ok x y (dA a) (dA b) N (by rw[A.inv.len];omega) ((r.pv (W:=λ_=>False) id).si.mono d.fr) (d.pv (W:=λ_=>False) id).si (Is A.inv B.inv)).mono ?_
 rintro z R j
 have e:=o.trans j.fr
 simp(disch:=omega)only[go_sem]
 refine (mY qL.ok u w a b R (by rw[A.len];omega) (l.mono e) (m.mono e) (Is A B)).mono ?_
 rintro s P c
 have f:=e.trans c.fr
 simp(disch:=omega)only[go_sem]
 refine (mY qL.ok z s (aX (dA a) (dA b)) (aX a b) P (by rw[(A.inv.mul B.inv).len];omega) ((j.pv (W:=λ_=>False) id).si.mono c.fr) (c.pv (W:=λ_=>False) id).si (Is (A.inv.mul B.inv) (A.mul B))).mono ?_
 rintro t h7 k
 have:=f.next
 simp(disch:=omega)only[go_sem]
 exact⟨t,rfl,k.pv om,f.trans k.fr⟩
theorem aM.agS {α β:Type}{P:α->β->Prop}: ∀{a:List α} {b:List β},aM P a b->aM P (a.drop 1) (b.drop 1)
 | [], [],h=>h
 |_::_,_::_,h=>h.2
 | [],_::_,h=>h.elim
 |_::_, [],h=>h.elim
theorem Lk {n:Nat}{G:List Nat->Prop}{O:LN}{R:jI}(b:iX n G)(a:bC n G O R){i:Nat}(hi:i<n):1<=(R.getD i []).length/\(R.getD i []).length<=n:=by
 rw[a.rl i hi];have:=(a.mem i hi i).2 ⟨bL n,b.one,Fix.one n i om,fQ hi⟩;exact⟨HJ this,mT (uQ (λx c=>b.cU c) hi (a.asc i hi) (a.mem i hi)) om⟩
theorem qV {n:Nat}{G:List Nat->Prop}{O:LN}{R:jI}(b:iX n G)(a:bC n G O R):(bQ R).length<=n*n:=by
 have:=sY (n:=n) (R:=R) (i:=n) (by rw[a.lr];exact fM _) (λj c=>(Lk b a c).2);rwa [Tn (by rw[a.lr];exact fM _)] at this
theorem xV {W:Nat->Prop}(vc:V)(n:Nat)(O:LN)(R:jI)(G:List Nat->Prop)(t h:H)(r:GC W t vc n O R G)(f0:Fr t h):
  Ev T 122 [vc] h (λv h'=> ∃ws,cY h' v 1 ws h.next/\fW W t ws (bQ R)/\Fr h h'):=by
 obtain⟨vO,s,a1,f,rfl,sO,oO,pO,x,oR,aR⟩:=r.cw
 refine cV wK rfl ?_
 have o:=(SV.cK sO).2.1
 have p:=(SV.cK x).2.1
 have a:=r.isc
 have hG:=r.dN
 have n7:=r.n7
 have lR:=aM.length aR
 rw[a.lr] at lR
 obtain⟨B,Z⟩:=exI h.next
 obtain⟨h1,e1,n1,g1,o1,Q⟩:=dF Z [aC n,vO,s]
 have bx:=bM h (v:= aC n) (u:=vO) (w:=s) rfl o p
 have z:bT s=some (aC n):=by unfold bT;rw[SV.len x (n:=n) om om];rfl
 obtain⟨P,d,L,k,cR⟩:=SV.shape x n om om
 simp(disch:=omega)only[go_sem,wK,aD,bx,Z,e1,H.aF g1,z]
 refine aH (λk' c q=> ∃(i:Nat) (J:V) (ws:List V),(∃g:Nat->V,c= [g 0,g 1,g 2,J,g 4,s,aC n,aC i,g 8])/\i<=n/\cY q J 1 ws h1.next/\fW W t ws (bQ (R.take i))/\Fr h1 q/\k'=n-i) n
  ⟨0,.aE, [],aB rfl,iJ _,cY.aE _ _ _,trivial,Fr.refl _,rfl⟩ ?_
 rintro k' c q ⟨i,J,ws,⟨g,rfl⟩,hi,Y,pv,F,rfl⟩
 have nF:=F.next
 by_cases l:(i:Int)<(n:Int)
 case neg=>
  have N:=bH l;obtain rfl:i=n:=om
  rw[Tn (by rw[a.lr];exact fM _)] at pv;simp(disch:=omega)only[go_sem,N];exact⟨ws,Y.le om,pv,Q.trans F⟩
 have N:=bP l
 have b:i<n:=om
 obtain⟨wr,tr,U,y,e⟩:=aM.get aR i om (by rw[a.lr];exact b)
 have er:R[i]'(by rw[a.lr];exact b)=R.getD i []:=by rw[List.getD,dD (by rw[a.lr];exact b)];rfl
 rw[er] at y
 have lw:=aM.length y
 obtain⟨r1,r2⟩:=Lk hG a b
 have ci:q.cell P (d+i)=some (f[i]'om):=by
  rw[(f0.trans (Q.trans F)).cell (k om),cR i om,dD om]
 generalize f[i]'om=vr at tr U e ci
 obtain⟨vt,K,tt⟩:=EV tr e om
 have a0:=aM.length pv
 have sl:(bQ (R.take i)).length<=i*n:=sY (by rw[a.lr];omega) (λj hj=>(Lk hG a om).2)
 have a2:i*n<=7*7:=Nat.mul_le_mul om n7
 obtain⟨v2,h2,ea,A⟩:=cY.app (bytes:=24) Y nF (tt.mono (f0.trans (Q.trans F))) (n:=ws.length) (m:=wr.length- 1) om (by rw[AQ];omega) om om
 simp(disch:=omega)only[go_sem,N,L.ixa,ci,K,ea]
 rw[eJ i]
 refine⟨n-(i+1),om,i+1,v2,_,aB rfl,om,A.own,?_,A.fr _ F (fM _),rfl⟩
 rw[Bf (by rw[a.lr];exact b)]
 exact aM.append pv (aM.agS y)
theorem rN {α:Type}{l:List α}{i:Nat}{d:α}(hi:i<l.length):l[i]=l.getD i d:=by rw[List.getD,dD hi];rfl
theorem FE {W:Nat->Prop}(D:Nat)(u vO vR:V)(n:Nat)(O:LN)(R:jI)(G:List Nat->Prop)(x:List Nat)(h:H)(N:GC W h (.agg [aC n,vO,vR]) n O R G)(hD:D<h.next)(gD:h.get D=some (.cells false [aC n,vO,vR]))(X:bE n x)(hu:SI h u (zi x)):
  Ev T 165 [.ptr D 0,u] h (λv h'=> ∃b,v= .bool b/\(b=true↔G x)/\Fr h h'):=by
 obtain⟨c1,b9,J,A,e,sO,oO,pO,sR,oR,aR⟩:=N.cw
 cases e
 refine cV pN rfl ?_
 have c:=N.isc
 have r:=N.dN
 have n7:=N.n7
 have n0:=N.n0
 have lR:=aM.length aR
 have lO:=aM.length pO
 rw[c.lr] at lR
 rw[c.lo] at lO
 have a4:bT vR=some (aC n):=by unfold bT;rw[SV.len sR (n:=n) om om];rfl
 obtain⟨b4,s,a9,L,cR⟩:=SV.shape sR n om om
 obtain⟨b8,U,b6,B,cO⟩:=SV.shape sO n om om
 have a8: ∀d,Fr h d->d.get D=some (.cells false [aC n,vO,vR]):=λd f=>by rw[f.get D hD];exact gD
 simp(disch:=omega)only[go_sem,pN,aD,H.aF gD,a4]
 refine aH (λk' m d=> ∃(i:Nat) (vx:V) (y:List Nat),(∃g:Nat->V,m= [.ptr D 0,vx,g 2,g 3,g 4,g 5,g 6,g 7,vR,aC n,aC i,g 11,g 12])/\i<=n/\SI d vx (zi y)/\bE n y/\Fix i y/\(G y↔G x)/\Fr h d/\k'=n-i) n
  ⟨0,u,x,aB rfl,iJ _,hu,X,λk hk=>om,Iff.rfl,Fr.refl _,rfl⟩ ?_
 rintro k' m d ⟨i,vx,y,⟨g,rfl⟩,hi,sy,Y,l,o,F,rfl⟩
 by_cases P:(i:Int)<(n:Int)
 case neg=>
  have d1:=bH P;obtain rfl:i=n:=om
  simp(disch:=omega)only[go_sem,d1];exact⟨true,rfl,⟨λ_=>o.1 (by rw[Fix.all Y l];exact r.one),λ_=>rfl⟩,F⟩
 have d1:=bP P
 have a:i<n:=om
 obtain⟨wr,tr,b7,pr,a7⟩:=aM.get aR i om (by rw[c.lr];exact a)
 have er:R[i]'(by rw[c.lr];exact a)=R.getD i []:=rN _
 rw[er] at pr
 have lw:=aM.length pr
 obtain⟨r1,r2⟩:=Lk r c a
 have ci: ∀d,Fr h d->d.cell b4 (s+i)=some (A[i]'om):=λd f=>by
  rw[f.cell (L om),cR i om,dD om]
 generalize A[i]'om=vr at tr b7 a7 ci
 have po:=aM.get pO i om (by rw[c.lo];exact a)
 have eo:O[i]'(by rw[c.lo];exact a)=O.getD i []:=rN _
 rw[eo] at po
 have co:d.cell b8 (U+i)=some (J[i]'om):=by
  rw[F.cell (B om),cO i om,dD om]
 generalize J[i]'om=vo at po co
 obtain⟨b5,K,t,w,Q⟩:=sy.open
 rw[aQ,Y.len] at t w Q
 obtain⟨p,hp⟩:=exI (y.getD i 0)
 have cy:d.cell b5 (K+i)=some (aC p):=by rw[Q i a];congr 2;simp [zi,Y.len,a,←hp]
 have c0:(O.getD i []).length<=n:=mT (uQ (λx hx=>r.cU hx) a (c.asc i a) (c.mem i a)) om
 have fb:Fr d (H.mk d.tr (d.next+18)):=(Fr.refl d).bA om
 simp(disch:=omega)only[go_sem,d1,a9.ixa,ci d F,H.aF (a8 d F),b6.ixa,co,t.ixa,cy]
 refine (Es _ (O.getD i []) p _ om (c.asc i a) (po.si.mono (F.trans fb))).mono ?_
 rintro _ h2 ⟨k,f,rfl,a5,b2,f2⟩
 have q:=fb.trans f2
 have F2:=F.trans q
 cases f with
 |false=>
  have a6: ¬G x:=λhx=>by
   have:=a5.2 ((c.mem i a p).2 ⟨y,o.2 hx,l,hp⟩);cases this
  simp(disch:=omega)only[go_sem];exact⟨false,rfl,⟨λh=>(by cases h),λh=>absurd h a6⟩,F2⟩
 |true=>
  obtain⟨hk,a2⟩:=b2 rfl;have j:=c.rep i a k hk;rw[a2] at j;obtain⟨z,hz⟩:=exI ((R.getD i []).getD k []);rw[hz] at j;have Z:=r.cU j.mem;have a3:k<(R.getD i []).length:=by rw[c.rl i a];exact hk
  have pz:=aM.get pr k om a3;rw[show (R.getD i [])[k]=z from by rw[←hz];exact rN _] at pz;obtain⟨b3,a1,b1,a0,b0⟩:=tr.shape (R.getD i []).length om om;have ck:h2.cell b3 (a1+k)=some (wr[k]'om):=by rw[F2.cell (a0 om),b0 k om,dD om]
  generalize wr[k]'om=vz at pz ck;simp(disch:=omega)only[go_sem,b1.ixa,ck];refine (ZK vz n z h2 n0 om Z (pz.si.mono F2)).mono ?_;rintro _ h3 ⟨vi,rfl,pi,f3⟩;simp(disch:=omega)only[go_sem];refine (XP vx vi n y (dA z) h3 n0 om Y Z.inv (sy.mono (q.trans f3)) pi.si).mono ?_;rintro _ h4 ⟨vm,rfl,pm,f4⟩;simp(disch:=omega)only[go_sem];rw[eJ i];refine⟨n-(i+1),om,i+1,vm,aX y (dA z),aB rfl,om,pm.si,Y.mul Z.inv,?_,?_,F.trans (q.trans (f3.trans f4)),rfl⟩
  ·refine (Fix.mul Y om l (Fix.inv Z om j.fix)).succ ?_
   rw[cM (by rw[Y.len];exact a),hp];have:=vM Z a;rwa [j.maps] at this
  ·rw[←o]
   refine⟨λhm=>?_,λhy=>r.mul hy (r.inv j.mem)⟩;have:=r.mul hm j.mem;rwa [aV Y Z.inv Z,iE Z,bZ Y] at this
section
variable {W W':Nat->Prop} {h h':H} {n D:Nat} {O l:LN} {G:List Nat->Prop}
theorem GC.congr {c:V}{R:jI}{G':List Nat->Prop}(g:GC W h c n O R G)(e: ∀x,G x↔G' x):GC W h c n O R G':=
 ⟨g.cw,g.isc.congr e,⟨λh=>g.dN.cU ((e _).2 h),(e _).1 g.dN.one,λa b=>(e _).1 (g.dN.mul ((e _).2 a) ((e _).2 b)),λa=>(e _).1 (g.dN.inv ((e _).2 a))⟩,g.n0,g.n7⟩
theorem GC.lH {a:V}{R:jI}(g:GC W h a n O R G)(b: ∀id,id<h.next->W' id->W id):GC W' h a n O R G:=g.go (Fx.refl _ _) b
structure Qa (W:Nat->Prop)(h:H)(D n:Nat)(G:List Nat->Prop):Prop where
 ex: ∃vO vR O R,h.get D=some (.cells false [aC n,vO,vR])/\GC (λid=>W id∨id=D) h (.agg [aC n,vO,vR]) n O R G
 nx:D<h.next
 nW: ¬W D
theorem Qa.go (r:Qa W h D n G)(f:Fx W h h')(c: ∀q,q<h.next->W' q->W q):Qa W' h' D n G:=by
 obtain⟨i,d,O,R,g,e⟩:=r.ex;exact⟨⟨i,d,O,R,by rw[f.get D r.nx r.nW];exact g,e.go ⟨f.next,λid b a=>f.get id b λh=>a (.inl h)⟩ λq b a=>a.imp_left (c q b)⟩,iW r.nx f.next,λh=>r.nW (c _ r.nx h)⟩
theorem Qa.fx (r:Qa W h D n G)(f:Fx W h h'):Qa W h' D n G:=r.go f λ_ _ h=>h
theorem Qa.fr (r:Qa W h D n G)(f:Fr h h'):Qa W h' D n G:=r.fx (Fx.of f)
theorem Qa.lH (r:Qa W h D n G)(a: ∀q,q<h.next->W' q->W q):Qa W' h D n G:=r.go (Fx.refl _ _) a
theorem Qa.congr {G':List Nat->Prop}(r:Qa W h D n G)(e: ∀x,G x↔G' x):Qa W h D n G':=by
 obtain⟨c,b,O,R,g,a⟩:=r.ex;exact⟨⟨c,b,O,R,g,a.congr e⟩,r.nx,r.nW⟩
theorem adW {x y z:V}(a:x.one=true)(c:y.one=true)(b:z.one=true):rO [aC 0,.aE,.aE] [(0,3,.agg [x,y,z])]=some (.agg [x,y,z]):=by
 simp [rO,iS,putAt,V.cells,a,c,b]
theorem VZ (n:Nat)(h:H)(Q:1<=n)(N:n<=7):
  Ev T 161 [aC n] h (λv h'=> ∃D,v= .ptr D 0/\h.next<=D/\Qa (λq=>q<h.next) h' D n (λx=>x=bL n)/\Fr h h'):=by
 refine cV Bi rfl ?_
 simp(disch:=omega)only[go_sem,Bi,aD]
 refine (Lo .aE n [] h Q N (by decide) ⟨[],SV.aE _ _,trivial⟩ (λ_ h=>by cases h)).mono ?_
 rintro _ k ⟨vc,O,R,rfl,p,o⟩
 obtain⟨f,g,Z,Y,e,sO,oO,pO,r,oR,aR⟩:=p.cw
 subst e
 have c:=(SV.cK sO).2.1
 have d:=(SV.cK r).2.1
 obtain⟨A,m⟩:=exI k.next
 obtain⟨j,e2,n2,U,L,f2⟩:=dF m [aC 0,.aE,.aE]
 obtain⟨i,J,n3,s,B⟩:=pJ j A [aC n,f,g]
 obtain⟨y,P,n4,K,o4,f4⟩:=dF (h:=i) rfl [aC n,f,g]
 simp(disch:=omega)only[go_sem,m,e2,bW j A 0 (v:= aC n) (u:=f) (w:=g) rfl c d,U,cF,J,aI s,adW (x:= aC n) rfl c d,bM i (v:= aC n) (u:=f) (w:=g) rfl c d,P]
 have n1:=o.next
 have F:Fr k y:=⟨om,λq hq=>by rw[o4 q om,B q om,L q om]⟩
 refine⟨i.next,rfl,om,⟨⟨f,g,O,R,K,?_⟩,om,om⟩,o.trans F⟩
 have z:=p.congr (G':=λx=>x=bL n) λx=>⟨λt=>bX.le (G:=λx=>x=bL n) ⟨λe=>e▸bE.one n,rfl,λa b=>by rw[a,b,eP (bE.one n)],λa=>by rw[a,oJ]⟩ (λ_ h=>by cases h) t,λe=>by rw[e];exact .one⟩
 exact (z.lH (W':=λid=>id<h.next∨id=i.next) λid k j=>j.elim (λh=>h) λe=>om).mono F
def Jn (n:Nat)(G:List Nat->Prop)(l:LN):List Nat->Prop:=bX n (λg=>G g∨g∈l)
theorem Jn.dN (a:iX n G)(b: ∀g∈l,bE n g):iX n (Jn n G l):=bX.dN λg h=>h.elim (λh=>a.cU h) (b g)
theorem Jn.nil (a:iX n G)(x:List Nat):G x↔Jn n G [] x:=
 ⟨λh=>bX.of (λg h=>h.elim (λh=>a.cU h) λh=>by cases h) (.inl h),λh=>bX.le a (λg h=>h.elim (λh=>h) λh=>by cases h) h⟩
theorem Jn.in {x:List Nat}(b:iX n G)(a: ∀g∈l,bE n g)(c:Jn n G l x)(y:List Nat):Jn n G l y↔Jn n G (l++ [x]) y:=by
 have d:=Jn.dN b a;have e: ∀g∈l++ [x],bE n g:=λg h=>(pH.1 h).elim (a g) λh=>by rw[List.mem_singleton.1 h];exact d.cU c
 refine⟨λh=>bX.mono (λg h=>h.imp_right λh=>pH.2 (.inl h)) h,λh=>bX.le d (λg h=>?_) h⟩;rcases h with h|h
 ·exact bX.of (λg h=>h.elim (λh=>b.cU h) (a g)) (.inl h)
 ·rcases pH.1 h with h|h
  ·exact bX.of (λg h=>h.elim (λh=>b.cU h) (a g)) (.inr h)
  ·rw[List.mem_singleton.1 h];exact c
theorem Jn.push {x:List Nat}{R:jI}(b:iX n G)(e: ∀g∈l,bE n g)(X:bE n x)(c:bC n (Jn n G l) O R)(y:List Nat):bX n (· ∈bQ R++ [x]) y↔Jn n G (l++ [x]) y:=by
 have f:=Jn.dN b e;have a: ∀g∈l++ [x],bE n g:=λg h=>(pH.1 h).elim (e g) λh=>by rw[List.mem_singleton.1 h];exact X
 have i: ∀g,g∈bQ R++ [x]->bE n g:=λg h=>(pH.1 h).elim (λh=>f.cU (bV c h)) λh=>by rw[List.mem_singleton.1 h];exact X
 constructor
 ·refine λh=>bX.le (Jn.dN b a) (λg h=>?_) h
  rcases pH.1 h with h|h
  ·exact bX.mono (λg h=>h.imp_right λh=>pH.2 (.inl h)) (bV c h)
  ·exact bX.of (λg h=>h.elim (λh=>b.cU h) (a g)) (.inr (pH.2 (.inr h)))
 ·refine λh=>bX.le (bX.dN i) (λg h=>?_) h
  have d: ∀g,Jn n G l g->bX n (· ∈bQ R++ [x]) g:=λg h=>bX.mono (λg h=>pH.2 (.inl h)) (nJ f c h)
  rcases h with h|h
  ·exact d g (bX.of (λg h=>h.elim (λh=>b.cU h) (e g)) (.inl h))
  ·rcases pH.1 h with h|h
   ·exact d g (bX.of (λg h=>h.elim (λh=>b.cU h) (e g)) (.inr h))
   ·exact bX.of i (pH.2 (.inr h))
end
theorem LF (h:H)(a m:Nat)(ws:List V): ∃h',H.mk ((H.mk h.tr a).new (.cells false ws)).tr m=h'/\h'.next=m/\h'.get a=some (.cells false ws)/\ ∀q,q≠a->h'.get q=h.get q:=by
 obtain⟨i,e,g,b,d,f⟩:=dF (h:=H.mk h.tr a) rfl ws;rw[e];exact⟨_,rfl,rfl,b,λq c=>d q c⟩
theorem Bc (v:V):Mq (λ_=>False) v:=by cases v<;>first|exact id|trivial
theorem fW.KI {W:Nat->Prop}{h:H}{v:V}{ws:List V}{l:LN}(sv:SV h v 1 ws)(p:fW W h ws l):SP h v l:=by
 have a:=aM.length p
 exact⟨ws,sv,aM.mQ (by simpa using a) λi hi b=>by
  have:=(aM.get p i hi om).si
  simpa using this⟩
theorem Wv {W:Nat->Prop}(D:Nat)(vl:V)(ws:List V)(n:Nat)(G:List Nat->Prop)(l:LN)(h:H)(n0:1<=n)(n7:n<=7)(hG:iX n G)(hP: ∀g∈l,bE n g)(hl:l.length<1000000)(hW: ∀q,W q->q<h.next)(hr:Qa W h D n G)(sv:SV h vl 1 ws)(b5:Mq (· =D) vl)(pv:fW (· =D) h ws l):
  Ev T 162 [.ptr D 0,vl] h (λv h'=>v= .ptr D 0/\Qa W h' D n (Jn n G l)/\Fx (· =D) h h'):=by
 refine cV oT rfl ?_
 have lw:=aM.length pv
 have b3:bT vl=some (aC (l.length:Int)):=by unfold bT;rw[SV.len sv (n:=l.length) om om];rfl
 simp(disch:=omega)only[go_sem,oT,aD,b3]
 refine aH (λk' j U=> ∃(i:Nat),(∃g:Nat->V,j= [.ptr D 0,g 1,g 2,g 3,vl,aC (l.length:Int),aC i,g 7,g 8])/\i<=l.length/\Qa W U D n (Jn n G (l.take i))/\Fx (· =D) h U/\k'=l.length-i) l.length
  ⟨0,aB rfl,iJ _,hr.congr λx=>by rw[List.take_zero];exact Jn.nil hG x,Fx.refl _ _,rfl⟩ ?_
 rintro k' j U ⟨i,⟨g,rfl⟩,hi,r,F,rfl⟩
 by_cases a0:(i:Int)<(l.length:Int)
 case neg=>
  have d1:=bH a0;obtain rfl:i=l.length:=om
  simp(disch:=omega)only[go_sem,d1];exact⟨by rw[List.take_length] at r;exact r,F⟩
 have d1:=bP a0
 have p:i<l.length:=om
 obtain⟨id,L,sh,b7,hc⟩:=(sv.fx b5 F).shape l.length om om
 have Y:=(aM.get pv i om p).fx F
 obtain⟨x,hx⟩:=exI (l.getD i [])
 rw[show l[i]=x from by rw[←hx];exact rN _] at Y
 have cx:U.cell id (L+i)=some (ws[i]'om):=by rw[hc i om,dD om]
 generalize ws[i]'om=vx at Y cx
 have X:bE n x:=by rw[←hx];exact hP _ (bD p)
 have o: ∀g∈l.take i,bE n g:=λg hg=>hP g (List.mem_of_mem_take hg)
 have tk:l.take (i+1)=l.take i++ [x]:=by rw[←hx];exact fT [] p
 obtain⟨A,B,O,R,gD,gc⟩:=r.ex
 have nD:=r.nx
 have nF:=F.next
 simp(disch:=omega)only[go_sem,d1,sh.ixa,cx]
 refine (FE D vx A B n O R _ x U gc nD gD X Y.si).mono ?_
 rintro _ a ⟨bb,rfl,b1,t⟩
 have r2:=r.fr t
 have F2:Fx (· =D) h a:=F.trans (Fx.of (W:=(· =D)) t) λ_ _ h=>h
 cases bb with
 |true=>
  simp(disch:=omega)only[go_sem];rw[eJ i];exact⟨l.length-(i+1),om,i+1,aB rfl,om,r2.congr λy=>by rw[tk];exact Jn.in hG o (b1.1 rfl) y,F2,rfl⟩
 |false=>
  have a7:=gc.mono t;have d:a.get D=some (.cells false [aC n,A,B]):=by rw[t.get D nD];exact gD
  have n2:=t.next;have fb:Fr a (H.mk a.tr (a.next+21)):=(Fr.refl a).bA om;simp(disch:=omega)only[go_sem,H.aF d,aI d];refine (xV _ n O R _ a (H.mk a.tr (a.next+21)) a7 fb).mono ?_;rintro vs h3 ⟨us,ow,pu,f3⟩;have Z:=fb.trans f3;have n3:a.next+21<=h3.next:=f3.next;have a6:h3.get D=some (.cells false [aC n,A,B]):=by rw[Z.get D om];exact d
  obtain⟨h4,e4,n4,g4,o4⟩:=LF h3 (a.next+12) h3.next [vx]
  have N:Fr a h4:=⟨om,λq s=>by rw[o4 q om];exact Z.get q s⟩
  have lu:=aM.length pu;have gl:=Jn.dN hG o;have b8:=qV gl gc.isc;have nn:n*n<=7*7:=Nat.mul_le_mul n7 n7;have wx:=SV.cK Y.si;have Q:cY h4 vs 1 us (a.next+21):=ow.mono om λq _ _ _ _ K _=>o4 q (by have:a.next+21<=q:=K;omega)
  obtain⟨J,a5,p5⟩:=Q.push (bytes:=24) (SV.one (v:=vx) (id:=a.next+12) om g4 (.kn 1)) (n:=us.length) (m:=1) om rfl om om om;have n5:=p5.next;have ap: ∀k,k<a.next+21->dL vs k:=λk hk a4 L m c e=>by have:a.next+21<=a4:=(Q.in _ _ _ _ e).2.1;omega
  have f:Fr a J:=⟨om,λq s=>by rw[p5.old q om (ap q om)];exact N.get q s⟩
  have a8:h4.get D=some (.cells false [aC n,A,B]):=by rw[N.get D om];exact d
  have a9:SP J (.sl h4.next 0 (us.length+1) (.un 1)) (bQ R++ [x]):=fW.KI (W:=λ_=>False) (p5.own om rfl (b:=0) om).sv
   (aM.append (aM.mono (λ_ _ k=>⟨(k.si.mono f),Bc _⟩) pu) ⟨⟨Y.si.mono (t.trans f),Bc _⟩,trivial⟩)
  have P:J.get D=some (.cells false [aC n,A,B]):=by rw[f.get D om];exact d
  have b4:okV (J.cell D 0) (aC n)=true:=by rw[H.aF P];simp [okV,dE]
  simp(disch:=omega)only[go_sem,H.aF a6,cT _ (z:= .aE) wx.1 wx.2.1,e4,H.aF a8,a5];refine⟨b4,?_⟩;refine (Lo _ n (bQ R++ [x]) J n0 n7 (by rw[jZ];simp;omega) a9 (λg hg=>(pH.1 hg).elim (λh=>gl.cU (bV gc.isc h)) λh=>by rw[List.mem_singleton.1 h];exact X)).mono ?_;rintro _ h6 ⟨vc,O2,R2,rfl,a2,f6⟩;obtain⟨uO,uR,_,_,e,sO,_,_,sR,_,_⟩:=a2.cw;subst e;have a1:=(SV.cK sO).2.1;have a3:=(SV.cK sR).2.1;have b0:=f.trans f6;have n6:=f6.next;have b6:h6.get D=some (.cells false [aC n,A,B]):=by rw[f6.get D om];exact P
  obtain⟨h7,e7,b9,g7,o7⟩:=pJ h6 D [aC n,uO,uR];simp(disch:=omega)only[go_sem,bW h6 D 0 (v:= aC n) (u:=uO) (w:=uR) rfl a1 a3,b6,cF,e7];rw[eJ i]
  have F7:Fx (· =D) a h7:=⟨om,λq K s=>by rw[o7 q s,b0.get q K]⟩
  refine⟨l.length-(i+1),om,i+1,aB rfl,om,⟨⟨uO,uR,O2,R2,g7,?_⟩,om,r.nW⟩,F2.trans F7 λ_ _ h=>h,rfl⟩;have b2:=(a2.congr (G':=Jn n G (l.take (i+1))) λy=>by rw[tk];exact Jn.push hG o X gc.isc y).lH (W':=λid=>W id∨id=D) λid K a=>a.elim (λh=>by have:=hW _ h;omega) λe=>om
  exact b2.go ⟨om,λq K s=>o7 q λe=>s (.inr e)⟩ λ_ _ h=>h
section
variable {n:Nat}
theorem Ef {x y b:List Nat}(X:bE n x)(Y:bE n y)(B:bE n b):cW (aX x y) b=aX (cW x b) (cW y b):=by
 unfold cW;have i:=B.inv;rw[aV (i.mul X) B ((i.mul Y).mul B),←aV B (i.mul Y) B,←aV B i Y,fC B,eP Y,←aV i X Y,aV (i.mul X) Y B]
theorem Ro {b:List Nat}(B:bE n b):cW (bL n) b=bL n:=by
 unfold cW;rw[bZ B.inv,iE B]
theorem YN {l:LN}{b:List Nat}(c: ∀g∈l,bE n g)(B:bE n b)(h: ∀x∈l,bX n (· ∈l) (cW x b)){x:List Nat}(a:bX n (· ∈l) x):bX n (· ∈l) (cW x b):=by
 induction a with
 |one=>rw[Ro B];exact .one
 |mul a hg ih=>rw[Ef (a.cU c) (c _ hg) B];exact ih.app c (h _ hg)
theorem MX {c l B:LN}(f: ∀b∈B,bE n b)(q: ∀g∈c,bE n g)(d: ∀g∈l,bE n g)(o: ∀g∈c,g∈l)(p: ∀g∈l,NC n (· ∈c) (· ∈B) g)(m: ∀x∈l,∀b∈B,bX n (· ∈l) (cW x b))(x:List Nat):bX n (· ∈l) x↔NC n (· ∈c) (· ∈B) x:=
 ⟨λh=>bX.le (NC.dN q f) p h,λh=>h.le (bX.dN d) (λa k=>bX.of d (o a k)) λ_ b j e=>YN d (f b e) (λz i=>m z i b e) j⟩
end
theorem QD (id Q N P:Nat)(o:V)(B:LN)(n M:Nat)(n0:1<=n)(hn:n<=64)(hB: ∀b∈B,bE n b)(a7:B.length<1000000)(hM:M<10000000)(h:H)(J:Nat->Nat->LN->H->Prop)(l0:LN)(L:J 0 0 l0 h)
  (jF: ∀i k l hh,J i k l hh->hh.get Q=aZ [.ptr P 0]/\hh.get N=aZ [o]/\(∃vl ws,hh.get P=aZ [vl]/\SV hh vl 1 ws/\aM (λv x=>SI hh v (zi x)) ws l)/\SP hh o B/\l.length<=M/\ ∀g∈l,bE n g)
  (jf: ∀i k l hh h',J i k l hh->Fr hh h'->J i k l h')
  (jn: ∀i l hh,J i B.length l hh->J (i+1) 0 l hh)
  (hy: ∀i k l L hh v,i<l.length->k<B.length->J i k l L->Fr L hh->PV (λq=>q<L.next) hh v (cW (l.getD i []) (B.getD k []))->Ey T id [v] hh (λv h'=>v= .bool true/\ ∃l',i<l'.length/\J i (k+1) l' h')):
  Ev T 206 [.yl id,.ptr Q 0,.ptr N 0] h (λ_ h'=> ∃l,J l.length 0 l h'):=by
 refine cV oZ rfl ?_
 simp(disch:=omega)only[go_sem,oZ,aD]
 refine aH (λu a hh=> ∃(i:Nat) (l:LN),(∃g:Nat->V,a= [.yl id,.ptr Q 0,.ptr N 0,aC i,g 4,g 5,g 6,g 7,g 8,g 9,g 10,g 11])/\i<=l.length/\J i 0 l hh/\u=M-i) M
  ⟨0,l0,aB rfl,iJ _,L,rfl⟩ ?_
 rintro u a h1 ⟨i,l,⟨g,rfl⟩,hi,j1,rfl⟩
 obtain⟨c,f,⟨vl,ws,r,sv,z⟩,U,lM,hP⟩:=jF _ _ _ _ j1
 have lw:=aM.length z
 have m:bT vl=some (aC (l.length:Int)):=by unfold bT;rw[SV.len sv (n:=l.length) om om];rfl
 by_cases p:(i:Int)<(l.length:Int)
 case neg=>
  have O:=bH p;obtain rfl:i=l.length:=om
  simp(disch:=omega)only[go_sem,H.aF c,H.aF r,m,O];exact⟨l,j1⟩
 have O:=bP p
 have y:=U.lens
 rw[jV] at y
 simp(disch:=omega)only[go_sem,H.aF c,H.aF r,m,O,H.aF f,y]
 refine aH (λu a hh=> ∃(k:Nat) (l:LN),(∃g:Nat->V,a= [.yl id,.ptr Q 0,.ptr N 0,aC i,g 4,g 5,g 6,o,aC (B.length:Int),aC k,g 10,g 11])/\k<=B.length/\i<l.length/\J i k l hh/\u=B.length-k) B.length
  ⟨0,l,aB rfl,iJ _,om,j1,rfl⟩ ?_
 clear c f r sv z m O p
 rintro u a h2 ⟨k,l,⟨g,rfl⟩,hk,j,Z,rfl⟩
 obtain⟨c,f,⟨vl,ws,r,sv,z⟩,U,lM,hP⟩:=jF _ _ _ _ Z
 by_cases F:(k:Int)<(B.length:Int)
 case neg=>
  have d2:=bH F;obtain rfl:k=B.length:=om
  simp(disch:=omega)only[go_sem,d2];rw[eJ i];exact⟨M-(i+1),om,i+1,l,aB rfl,om,jn _ _ _ Z,rfl⟩
 have d2:=bP F
 have e:k<B.length:=om
 have lw:=aM.length z
 obtain⟨a2,s,a0,a4,W⟩:=sv.shape l.length om om
 have R:=aM.get z i om j
 rw[show l[i]=l.getD i [] from rN _] at R
 have cl:h2.cell a2 (s+i)=some (ws[i]'om):=by rw[W i om,dD om]
 generalize ws[i]'om=vx at R cl
 obtain⟨a6,a3,us,A,t,a5,a1,K⟩:=U.open
 rw[jV] at A t
 have cB:=a1 k (by rw[jV];exact e)
 have sb:=Ml K e
 generalize us.getD k V.undef=vb at cB sb
 have X:=hP _ (bD (d:= []) j)
 have Y:=hB _ (bD (d:= []) e)
 simp(disch:=omega)only[go_sem,d2,A.ixa,cB,H.aF c,H.aF r,a0.ixa,cl]
 refine (PK vx vb n _ _ h2 n0 hn X Y R sb).mono ?_
 rintro _ h3 ⟨w,rfl,pw,f3⟩
 simp(disch:=omega)only[go_sem]
 refine (hy i k l h2 h3 w j e Z f3 pw).mono ?_
 rintro _ h4 ⟨rfl,l',G,j4⟩
 simp(disch:=omega)only[go_sem]
 rw[eJ k]
 exact⟨B.length-(k+1),om,k+1,l',aB rfl,om,G,j4,rfl⟩
set_option maxRecDepth 100000
set_option maxRecDepth 100000
structure Plc (l:LN)(x:List Nat)(k:Nat):Prop where
 le:k<=l.length
 lo: ∀i,i<k->yU (l.getD i []) x=true
 hi: ∀i,k<=i->i<l.length->yU (l.getD i []) x=false
theorem Gj {g:Nat}(A:T g=some jN.fn)(u w:V)(a b:List (List Int))(h:H)(hu:SR h u a)(hw:SR h w b)(la:a.length<1000000)(lb:b.length<1000000)(ra: ∀x∈a,x.length<1000000)(rb: ∀x∈b,x.length<1000000):
  Ev T g [u,w] h (λv h'=>v= .bool (decide (a=b))/\Fr h h'):=by
 refine Ko A rfl ?_
 have z:=hu.lens
 have lw:=hw.lens
 obtain⟨P,sa,aa⟩:=hu
 obtain⟨R,sb,ab⟩:=hw
 have a1:=aM.length aa
 have a0:=aM.length ab
 obtain⟨id,s,sh,m,hc⟩:=SV.shape sa a.length om om
 obtain⟨p,f,W,k,N⟩:=SV.shape sb b.length om om
 by_cases Y:(a.length:Int)=(b.length:Int)
 case neg=>
  have U:=bP Y;simp(disch:=omega)only[go_sem,jN,aD,z,lw,U];exact⟨by rw[bH];intro e;exact Y (by rw[e]),Fr.refl h⟩
 have L:a.length=b.length:=om
 have U:decide ((a.length:Int)≠(b.length:Int))=false:=bH (by simpa using Y)
 simp(disch:=omega)only[go_sem,jN,aD,z,lw,U]
 refine aH (λk' d c=> ∃(i:Nat),(∃g:Nat->V,d= [u,w,g 2,aC i,g 4,g 5,g 6])/\i<=a.length/\(∀j,j<i->a.getD j []=b.getD j [])/\Fr h c/\k'=a.length-i) a.length
  ⟨0,aB rfl,iJ _,λj hj=>om,Fr.refl h,rfl⟩ ?_
 rintro k' d c ⟨i,⟨g,rfl⟩,hi,hs,F,rfl⟩
 by_cases r:(i:Int)<(a.length:Int)
 case neg=>
  have e1:=bH r;obtain rfl:i=a.length:=om
  simp(disch:=omega)only[go_sem,z,e1]
  have:a=b:=by
   refine List.ext_getElem L λj h1 h2=>?_
   have:=hs j h1;rwa [List.getD,dD h1,List.getD,dD h2] at this
  exact⟨by rw[bP this],F⟩
 have e1:=bP r
 have Z:c.cell id (s+i)=some (P.getD i .undef):=by
  rw[F.cell (m om),hc i om];simp [List.getD,show i<P.length by omega]
 have K:c.cell p (f+i)=some (R.getD i .undef):=by
  rw[F.cell (k om),N i om];simp [List.getD,show i<R.length by omega]
 have B:=AY aa (i:=i) om
 have J:=AY ab (i:=i) om
 generalize P.getD i .undef=va at Z B
 generalize R.getD i .undef=vb at K J
 have n:=B.dE
 have l:=J.dE
 simp(disch:=omega)only[go_sem,z,e1,sh.ixa,Z,W.ixa,K]
 refine (GV va vb _ _ _ (B.mono (F.trans ((Fr.refl c).bA om))) (J.mono (F.trans ((Fr.refl c).bA om))) (ra _ (bD om)) (rb _ (bD om))).mono ?_
 rintro _ t ⟨rfl,O⟩
 have F3:=F.trans (((Fr.refl c).bA om).trans O)
 have q:t.cell id (s+i)=some va:=by
  have G:Fr c t:=((Fr.refl c).bA om).trans O;rw[G.cell (by have:=m om;have:=F.next;omega)];exact Z
 have o:t.cell p (f+i)=some vb:=by
  have G:Fr c t:=((Fr.refl c).bA om).trans O;rw[G.cell (by have:=k om;have:=F.next;omega)];exact K
 by_cases y:a.getD i []=b.getD i []
 ·have Q:=bP y
  simp(disch:=omega)only[go_sem,Q,q,o,n,l]
  rw[eJ i]
  refine⟨a.length-(i+1),om,i+1,aB rfl,om,λj hj=>?_,F3,rfl⟩
  by_cases e:j=i
  ·rw[e];exact y
  ·exact hs j om
 ·have Q:=bH y
  simp(disch:=omega)only[go_sem,Q,q,o,n,l]
  exact⟨by rw[bH];intro e;exact y (by rw[e]),F3⟩
theorem Vt (u w:V)(a b:List (List Int))(h:H)(d:SR h u a)(e:SR h w b)(g:a.length<1000000)(lb:b.length<1000000)(f: ∀x∈a,x.length<1000000)(c: ∀x∈b,x.length<1000000):
  Ev T 90 [u,w] h (λv h'=>v= .bool (decide (a=b))/\Fr h h'):=Gj jN.ok u w a b h d e g lb f c
theorem Vi (u w:V)(a b:List (List Int))(h:H)(d:SR h u a)(e:SR h w b)(g:a.length<1000000)(lb:b.length<1000000)(f: ∀x∈a,x.length<1000000)(c: ∀x∈b,x.length<1000000):
  Ev T 41 [u,w] h (λv h'=>v= .bool (decide (a=b))/\Fr h h'):=Gj Kw.ok u w a b h d e g lb f c
theorem Ve (v1 v2:V)(B Y:Int)(O1 O2:List (List Int))(b d:List (List (List Int)))(h:H)(c1:WI h v1 B O1 b)(c2:WI h v2 Y O2 d)(a6:zV O1)(b6:zV O2)(L:sN b)(U:sN d):
  Ev T 31 [v1,v2] h (λv h'=>v= .bool (decide (B=Y/\O1=O2/\b=d))/\Fr h h'):=by
 obtain⟨vO,J,e,sO,sR⟩:=c1
 subst e
 obtain⟨uO,N,e,tO,tR⟩:=c2
 subst e
 refine cV rP rfl ?_
 have b8:vO.one=true:=oNs sO
 have c0:J.one=true:=oNt sR
 have Q:uO.one=true:=by obtain⟨_,t,_⟩:=tO;exact t.cK.2.1
 have P:N.one=true:=by obtain⟨_,t,_⟩:=tR;exact t.cK.2.1
 have a7:dE J J=true:=by obtain⟨_,t,_⟩:=sR;exact t.dE
 have G:dE N N=true:=by obtain⟨_,t,_⟩:=tR;exact t.dE
 obtain⟨A,hA⟩:=exI h.next
 obtain⟨h1,e1,n1,g1,o1,f1⟩:=dF hA [aC B,vO,J]
 obtain⟨c,e2,n2,g2,o2,f2⟩:=dF n1 [aC Y,uO,N]
 have bx:=λa:H=>bM a (v:= aC B) (u:=vO) (w:=J) rfl b8 c0
 have b3:=λa:H=>bM a (v:= aC Y) (u:=uO) (w:=N) rfl Q P
 have F2:=f1.trans f2
 have gA:c.get A=aZ [aC B,vO,J]:=by rw[o2 _ om];exact g1
 have a0: ∀a,Fr c a->a.cell A 0=some (aC B):=λa f=>by rw[f.cell om,H.aF gA];rfl
 have a1: ∀a,Fr c a->a.cell A 1=some vO:=λa f=>by rw[f.cell om,H.aF gA];rfl
 have a2: ∀a,Fr c a->a.cell A 2=some J:=λa f=>by rw[f.cell om,H.aF gA];rfl
 have b0: ∀a,Fr c a->a.cell (A+1) 0=some (aC Y):=λa f=>by rw[f.cell om,H.aF g2];rfl
 have b1: ∀a,Fr c a->a.cell (A+1) 1=some uO:=λa f=>by rw[f.cell om,H.aF g2];rfl
 have b2: ∀a,Fr c a->a.cell (A+1) 2=some N:=λa f=>by rw[f.cell om,H.aF g2];rfl
 have r2:=Fr.refl c
 by_cases hd:B=Y
 case neg=>
  have e3:=bP hd;simp(disch:=omega)only[go_sem,rP,aD,bx,b3,hA,e1,n1,e2,a0 c r2,b0 c r2,e3,Ag];exact⟨by rw[bH];exact λx=>hd x.1,F2⟩
 have e3:decide (B≠Y)=false:=bH (by simpa using hd)
 simp(disch:=omega)only[go_sem,rP,aD,bx,b3,hA,e1,n1,e2,a0 c r2,b0 c r2,a1 c r2,b1 c r2,e3]
 have mem: ∀{l:List (List Int)},(∀i,i<l.length->(l.getD i []).length<1000000)-> ∀x∈l,x.length<1000000:=λhl x q=>by
  obtain⟨i,hi,rfl⟩:=zF.1 q;have:=hl i hi;rwa [List.getD,dD hi] at this
 refine (Vt vO uO O1 O2 c (sO.mono F2) (tO.mono F2) a6.1 b6.1 (mem a6.2) (mem b6.2)).mono ?_
 rintro _ Z ⟨rfl,f3⟩
 obtain⟨wR,b4,aR,_⟩:=sR
 obtain⟨zR,K,a9,_⟩:=tR
 have d0:=L.1
 have d3:=U.1
 have d5:=aM.length aR
 have d4:=aM.length a9
 have p:bT J=some (aC (b.length:Int)):=by unfold bT;rw[SV.len b4 (n:=b.length) om om];rfl
 have a5:bT N=some (aC (d.length:Int)):=by unfold bT;rw[SV.len K (n:=d.length) om om];rfl
 have F3:=F2.trans f3
 by_cases hO:O1=O2
 case neg=>
  have e4:=bH hO;simp(disch:=omega)only[go_sem,e4,Ag];exact⟨by rw[bH];exact λx=>hO x.2.1,F3⟩
 have e4:=bP hO
 by_cases hl:(b.length:Int)=(d.length:Int)
 case neg=>
  have e5:=bP hl;simp(disch:=omega)only[go_sem,e4,a2 Z f3,b2 Z f3,p,a5,e5];exact⟨by rw[bH];exact λx=>hl (by rw[x.2.2]),F3⟩
 have e5:decide ((b.length:Int)≠(d.length:Int))=false:=bH (by simpa using hl)
 have c4:b.length=d.length:=om
 obtain⟨id,c7,sh,c3,hc⟩:=SV.shape b4 b.length om om
 obtain⟨c8,b5,c9,b9,c5⟩:=SV.shape K d.length om om
 simp(disch:=omega)only[go_sem,e4,a2 Z f3,b2 Z f3,p,a5,e5]
 refine aH (λk' z a=> ∃(i:Nat),(∃g:Nat->V,z= [g 0,g 1,.ptr A 0,.ptr (A+1) 0,g 4,aC i,g 6,g 7,g 8])/\i<=b.length/\(∀j,j<i->b.getD j []=d.getD j [])/\Fr Z a/\k'=b.length-i) b.length
  ⟨0,aB rfl,iJ _,λj hj=>om,Fr.refl Z,rfl⟩ ?_
 rintro k' z a ⟨i,⟨g,rfl⟩,hi,hs,F,rfl⟩
 have o:=f3.trans F
 by_cases b7:(i:Int)<(b.length:Int)
 case neg=>
  have e1:=bH b7;obtain rfl:i=b.length:=om
  simp(disch:=omega)only[go_sem,a2 a o,p,e1]
  have:b=d:=by
   refine List.ext_getElem c4 λj h1 c=>?_
   have:=hs j h1;rwa [List.getD,dD h1,List.getD,dD c] at this
  exact⟨by rw[bP ⟨hd,hO,this⟩],F3.trans F⟩
 have e1:=bP b7
 have W:i<b.length:=om
 have y: ∀q,Fr h q->q.cell id (c7+i)=some (wR.getD i .undef):=λq f=>by
  rw[f.cell (c3 om),hc i om];simp [List.getD,show i<wR.length by omega]
 have s: ∀q,Fr h q->q.cell c8 (b5+i)=some (zR.getD i .undef):=λq f=>by
  rw[f.cell (b9 om),c5 i om];simp [List.getD,show i<zR.length by omega]
 have gg: ∀{ws:List V} {R:List (List (List Int))},aM (SR h) ws R->i<R.length->SR h (ws.getD i .undef) (R.getD i []):=λ{ws R} al a3=>by
  have h1:=aM.length al;have:=aM.get al i om a3;rw[List.getD,List.getD,dD om,dD a3];exact this
 have s1:=gg aR W
 have s2:=gg a9 om
 generalize wR.getD i .undef=va at y s1
 generalize zR.getD i .undef=vb at s s2
 have a4:dE va va=true:=by obtain⟨_,t,_⟩:=s1;exact t.dE
 have a8:dE vb vb=true:=by obtain⟨_,t,_⟩:=s2;exact t.dE
 have Fh:=F3.trans F
 simp(disch:=omega)only[go_sem,a2 a o,b2 a o,p,e1,sh.ixa,c9.ixa,y a Fh,s a Fh]
 refine (Vi va vb _ _ _ (s1.mono (Fh.trans ((Fr.refl a).bA om))) (s2.mono (Fh.trans ((Fr.refl a).bA om))) (L.2 i W).1 (U.2 i om).1 (mem (L.2 i W).2) (mem (U.2 i om).2)).mono ?_
 rintro _ r ⟨rfl,c6⟩
 have f4:Fr a r:=((Fr.refl a).bA om).trans c6
 have m:=o.trans f4
 have k:=Fh.trans f4
 by_cases he:b.getD i []=d.getD i []
 ·have O:decide (b.getD i []=d.getD i [])=true:=bP he
  simp(disch:=omega)only[go_sem,O,a2 r m,b2 r m,y r k,s r k,a4,a8,a7,G]
  rw[eJ i]
  refine⟨b.length-(i+1),om,i+1,aB rfl,om,λj hj=>?_,F.trans f4,rfl⟩
  by_cases e:j=i
  ·rw[e];exact he
  ·exact hs j om
 ·have O:decide (b.getD i []=d.getD i [])=false:=bH he
  simp(disch:=omega)only[go_sem,O,a2 r m,b2 r m,y r k,s r k,a4,a8,a7,G]
  exact⟨by rw[bH];exact λx=>he (by rw[x.2.2]),k⟩
set_option maxRecDepth 100000
set_option maxRecDepth 100000
set_option maxRecDepth 100000
theorem Ye {b:List Cls.KE}{i:Nat}(hi:i<b.length):(uK b)[i*3]? =some b[i].rep/\(uK b)[i*3+1]? =some (aC (b[i].ord:Int))/\(uK b)[i*3+2]? =some (aC (b[i].size:Int)):=by
 induction b generalizing i with
 |nil=>simp at hi
 |cons a r ih=>
  have e:uK (a::r)= [a.rep,aC (a.ord:Int),aC (a.size:Int)]++uK r:=rfl
  cases i with
  |zero=>exact⟨rfl,rfl,rfl⟩
  |succ i=>
   have c:=ih (i:=i) (by simpa using hi);rw[e,show (i+1)*3=i*3+3 by omega];refine⟨?_,?_,?_⟩
   ·rw[Kk (by simp)];exact c.1
   ·rw[Kk (by simp)];exact c.2.1
   ·rw[Kk (by simp)];exact c.2.2
end Go.Proofs.YtcdbmkidaecdiaaGreat
namespace Go.Pm
set_option maxRecDepth 100000
section
variable {n:Nat} {t:rL}
theorem oK.gt (T:oK n t){i p:Nat}{y:List Nat}(h:t i p=some y):i<p:=by
 have Y:=T.cU _ _ _ h;have F:=T.fix _ _ _ h;obtain⟨b,c,d⟩:=T.lt _ _ _ h;have m:=T.maps _ _ _ h;rcases Nat.lt_or_ge p i with a|a
 ·exact absurd (Y.inj b c (m.trans (F p a).symm)) oq
 ·omega
def eR (t:rL)(i p:Nat):zI:=(List.range p).filterMap (t i)
def eB (n:Nat)(t:rL)(i:Nat):zI:=(List.range i).flatMap λi=>eR t i n
theorem HB (i p:Nat):eR t i (p+1)=eR t i p++(t i p).toList:=by
 unfold eR;rw[List.range_succ,List.filterMap_append];cases h:t i p<;>simp [h]
theorem FL (i:Nat):eB n t (i+1)=eB n t i++eR t i n:=by
 unfold eB;rw[List.range_succ,List.flatMap_append];simp
theorem Vw:eB n t n=fR n t 0:=by
 unfold eB fR eR;simp
theorem yE (T:oK n t):(fR n t 0).Nodup:=by
 have g: ∀i p c f y,t i p=some y->t c f=some y->i=c/\p=f:=λi p c f y j d=>by
  have s:=T.gt j;have u:=T.gt d;have l:=T.fix _ _ _ j;have m:=T.fix _ _ _ d;have q:=T.maps _ _ _ j;have o:=T.maps _ _ _ d
  have e:i=c:=by
   rcases Nat.lt_trichotomy i c with h|h|h
   ·have:=m i h;omega
   ·exact h
   ·have:=l c h;omega
  subst e;exact⟨rfl,q.symm.trans o⟩
 rw[←Vw];unfold eB;rw[List.Nodup,List.pairwise_flatMap];refine⟨λi _=>?_,?_⟩
 ·unfold eR
  rw[List.pairwise_filterMap];refine (List.nodup_range (n:=n)).imp ?_;intro p f a y k r b e;subst e;exact a (g _ _ _ _ _ k b).2
 ·refine (List.nodup_range (n:=n)).imp ?_
  intro i c a y k r b e;subst e;obtain⟨p,_,j⟩:=List.mem_filterMap.1 k;obtain⟨f,_,d⟩:=List.mem_filterMap.1 b;exact a (g _ _ _ _ _ j d).1
def frF (n:Nat)(t:rL)(l:zI):zI:=(fR n t 0).filter λy=>decide (y∉l)
def clF (n:Nat)(t:rL)(x:List Nat)(l:zI):zI:=if (fR n t 0).length<(fR n (jJ t n x) 0).length then l++frF n (jJ t n x) l else l
structure Cx (n:Nat)(L:List Nat->Prop)(t:rL)(l:zI):Prop where
 tl:Oo n L t
 nd:l.Nodup
 mem: ∀y,y∈l↔y∈fR n t 0
variable {L:List Nat->Prop} {l:zI}
theorem Cx.cU (c:Cx n L t l): ∀y∈l,bE n y:=λy a=>c.tl.tab.MK y ((c.mem y).1 a)
theorem Cx.bound (c:Cx n L t l):l.length<=n^n:=Be c.nd c.cU
theorem Cx.start (c:Oo n L t):Cx n L t (fR n t 0):=⟨c,yE c.tab,λ_=>Iff.rfl⟩
theorem Yv {a:rL}(s:Sub t a): ∀y,y∈fR n t 0->y∈fR n a 0:=λy b=>by
 obtain⟨i,p,f,d,c,e⟩:=fV.1 b;exact fV.2 ⟨i,p,f,d,c,s _ _ _ e⟩
theorem Cx.step (c:Cx n L t l)(F: ∀g,L g->bE n g){x:List Nat}(A:bX n L x):
  Cx n L (jJ t n x) (clF n t x l)/\Sub t (jJ t n x)/\ins (jJ t n x) n 0 x=none/\ ∃m,clF n t x l=l++m:=by
 obtain⟨a,f,N⟩:=c.tl.ins F A
 have v:=yE a.tab
 refine⟨?_,f,N,?_⟩
 ·cases h:ins t n 0 x with
  |none=>
   have e:jJ t n x=t:=by unfold jJ;rw[h]
   unfold clF;rw[e,if_neg (Nat.lt_irrefl _)];exact c
  |some q=>
   obtain⟨i,r⟩:=q;have e:jJ t n x=put t i (r.getD i 0) r:=by unfold jJ;rw[h]
   obtain⟨b1,B,G,Q,b5,W,_⟩:=Bu c.tl.tab n 0 x i r oq (A.cU F) (λk Z=>oq) h;have K:r∈fR n (jJ t n x) 0:=fV.2 ⟨i,r.getD i 0,Nat.zero_le _,B,G.iN B,by rw[e];unfold put;rw[if_pos ⟨rfl,rfl⟩]⟩
   have o:r∉fR n t 0:=λh=>by
    obtain⟨j,q,_,_,_,d⟩:=fV.1 h;have s:=f _ _ _ d;have Y:=a.tab.gt s;have P:=a.tab.fix _ _ _ s;have R:=a.tab.maps _ _ _ s;have O:jJ t n x i (r.getD i 0)=some r:=by rw[e];unfold put;rw[if_pos ⟨rfl,rfl⟩]
    have g2:=a.tab.gt O
    have p:i=j:=by
     rcases Nat.lt_trichotomy i j with h|h|h
     ·have:=P i h;omega
     ·exact h
     ·have:=Q j h;omega
    subst p;rw[←R] at d;rw[W] at d;cases d
   have u:(fR n t 0).length<(fR n (jJ t n x) 0).length:=by
    have:(r::fR n t 0).length<=(fR n (jJ t n x) 0).length:=List.Nodup.length_le_of_subset (List.nodup_cons.2 ⟨o,yE c.tl.tab⟩) (λy b=>by
     rcases List.mem_cons.1 b with rfl|b
     ·exact K
     ·exact Yv f y b)
    rw[List.length_cons] at this;omega
   unfold clF;rw[if_pos u];refine⟨a,List.nodup_append.2 ⟨c.nd,v.filter _,λy b z J U=>?_⟩,λy=>?_⟩
   ·subst U
    have:=(List.mem_filter.1 J).2;simp at this;exact this b
   ·rw[List.mem_append]
    unfold frF;rw[List.mem_filter];constructor
    ·rintro (h|h)
     ·exact Yv f y ((c.mem y).1 h)
     ·exact h.1
    ·intro h
     by_cases w:y∈l
     ·exact .inl w
     ·exact .inr ⟨h,by simpa using w⟩
 ·unfold clF
  split
  ·exact⟨_,rfl⟩
  ·exact⟨[],(List.append_nil _).symm⟩
theorem Cx.gen (c:Cx n L t l): ∀y∈l,bX n L y:=λy a=>c.tl.gen y ((c.mem y).1 a)
def Pr (n:Nat)(t:rL)(l:zI)(a b:Nat):Prop:=ins t n 0 (aX (l.getD a []) (l.getD b []))=none
theorem Pr.mono {c:rL}{m:zI}{a b:Nat}(h:Pr n t l a b)(s:Sub t c)(f:a<l.length)(d:b<l.length):Pr n c (l++m) a b:=by
 have e: ∀k,k<l.length->(l++m).getD k []=l.getD k []:=λk g=>by rw[List.getD,List.getD,List.getElem?_append_left g]
 unfold Pr;rw[e a f,e b d];exact Fg s _ _ _ h
theorem Cx.closed (c:Cx n L t l)(h: ∀a b,a<l.length->b<l.length->Pr n t l a b):Jh n t:=λa b f m=>by
 obtain⟨i,hi,g⟩:=List.mem_iff_getElem.1 ((c.mem a).2 f);obtain⟨j,d,e⟩:=List.mem_iff_getElem.1 ((c.mem b).2 m);have:=h i j hi d;unfold Pr at this;have o:l.getD i []=a:=by rw[List.getD,List.getElem?_eq_getElem hi,←g];rfl
 have k:l.getD j []=b:=by rw[List.getD,List.getElem?_eq_getElem d,←e];rfl
 rwa [o,k] at this
def Cs (t:rL)(i k:Nat):List Nat:=(List.range k).filter λp=>p==i||(t i p).isSome
theorem BC (T:oK n t)(i:Nat):Cs t i i= []:=by
 unfold Cs;refine List.filter_eq_nil_iff.2 λp b=>?_
 have:=List.mem_range.1 b;simp only[Bool.or_eq_true,beq_iff_eq,not_or];refine⟨oq,λh=>?_⟩;obtain⟨y,a⟩:=Option.isSome_iff_exists.1 h;have:=T.gt a;omega
theorem JM (i k:Nat):Cs t i (k+1)=Cs t i k++if k=i∨(t i k).isSome then [k] else []:=by
 unfold Cs;rw[List.range_succ,List.filter_append]
 by_cases h:k=i
 ·subst h;simp
 ·have e:(k==i)=false:=by simpa using h
  cases h2:t i k<;>simp [h,h2,List.filter,e]
theorem OM (i:Nat):Cs t i n=(kX n t i).orb:=rfl
theorem QG (i k:Nat):(Cs t i k).Pairwise (· < ·):=List.pairwise_lt_range.filter _
end
end Go.Pm
namespace Go.Proofs.YtcdbmkidaecdiaaGreat
open Go Go.Ay Go.Pm
set_option maxRecDepth 100000
theorem Us (h:H)(x:Int):lQ h 1 [aC 0] 1 [(0,1,aC x)]=some (.sl h.next 0 1 (.kn 1),h.new (.cells false (ints [x]))):=by
 have e:cX [aC 0] 1= [aC 0]:=rfl;simp [lQ,iS,e,putAt,V.cells,V.one,ints]
theorem TB {h:H}{v:V}{sz b:Nat}{ws:List V}(o:cY h v sz ws b): ∀id off len cap,v= .sl id off len cap->b<=id:=by
 rcases o with ⟨rfl,_⟩|⟨id,n,cap,a,rfl,_,_,c,_⟩
 ·intro _ _ _ _ e;cases e
 ·intro _ _ _ _ e;cases e;exact c
theorem We (l:List Nat)(x:Nat):zi (l++ [x])=zi l++ [(x:Int)]:=by simp [zi]
theorem Tg {l:List Nat}{i:Nat}(hi:i<l.length):l.take (i+1)=l.take i++ [l.getD i 0]:=by
 rw[List.take_add_one,dD hi,cJ hi];rfl
theorem Lj (u w:V)(a b:List Nat)(h:H)(hN:a.length<=1000)(O:SI h u (zi a))(hw:SI h w (zi b))(Y: ∀i,i<a.length->a.getD i 0<b.length):
  Ev T 40 [u,w] h (λv h'=>SI h' v (zi (aX a b))/\Fr h h'/\ ∀id off len cap,v= .sl id off len cap->h.next<=id):=by
 refine cV Qu rfl ?_
 have Q:=O.lens
 rw[aQ] at Q
 obtain⟨id,off,L,l,U⟩:=O.open
 rw[aQ] at L l U
 obtain⟨B,t,z,f,q⟩:=hw.open
 rw[aQ] at z f q
 simp(disch:=omega)only[go_sem,Qu,aD]
 refine aH (λP e K=> ∃(i:Nat) (o:V),(∃j:Nat->V,e= [u,w,j 2,o,aC i,j 5])/\i<=a.length/\cY K o 1 (ints (zi ((aX a b).take i))) h.next/\Fr h K/\P=a.length-i) a.length
  ⟨0,.aE,aB rfl,iJ _,cY.aE _ _ _,Fr.refl h,rfl⟩ ?_
 rintro P e c ⟨i,o,⟨jk,rfl⟩,hi,A,F,rfl⟩
 simp(disch:=omega)only[go_sem,Q]
 by_cases x:(i:Int)<(a.length:Int)
 ·rw[bP x]
  have d:i<a.length:=om
  have ci:c.cell id (off+i)=some (aC (a.getD i 0:Nat)):=by rw[F.cell (l om),U i d];congr 2;simp [zi,d]
  have r:=Y i d
  have N:=cM (b:=b) d
  generalize hk:a.getD i 0=k at ci r N
  have ck:c.cell B (t+k)=some (aC (b.getD k 0:Nat)):=by rw[F.cell (f om),q k r];congr 2;simp [zi,r]
  simp(disch:=omega)only[go_sem,L.ixa,ci,z.ixa,ck,Us]
  have g:Fr c (c.new (.cells false (ints [((b.getD k 0:Nat):Int)]))):=(Fr.refl c).new _
  have s:(c.new (.cells false (ints [((b.getD k 0:Nat):Int)]))).get c.next=some (.cells false (ints [((b.getD k 0:Nat):Int)])):=H.aL ..
  have R:(c.new (.cells false (ints [((b.getD k 0:Nat):Int)]))).next=c.next+1:=H.aU ..
  generalize c.new (.cells false (ints [((b.getD k 0:Nat):Int)]))=G at*
  have Z:SV G (.sl c.next 0 1 (.kn 1)) 1 (ints [((b.getD k 0:Nat):Int)]):=SV.all rfl om s _
  have nF:=F.next
  have hl:(aX a b).length=a.length:=eY a b
  obtain⟨v2,W,J,p⟩:=(A.fr g).app (bytes:=8) (n:=i) (m:=1) om Z (by rw[aP,aQ,Fj,uW];omega) rfl om om
  simp(disch:=omega)only[go_sem,J]
  have y:=p.own
  rw[←uT,←N,←We,←Tg om] at y
  rw[eJ i]
  exact⟨a.length-(i+1),om,i+1,v2,aB rfl,om,y,p.fr h (F.trans g) (fM _),rfl⟩
 rw[bH x]
 obtain rfl:i=a.length:=om
 simp(disch:=omega)only[go_sem]
 rw[Tn (by rw[eY];omega)] at A
 exact⟨A.sv,F,TB A⟩
theorem aaW (n:Nat)(h:H)(G:n<=1000):
  Ev T 91 [aC n] h (λv h'=>SI h' v (zi (bL n))/\Fr h h'/\ ∀id off len cap,v= .sl id off len cap->h.next<=id):=by
 refine cV Qz rfl ?_
 simp(disch:=omega)only[go_sem,Qz,aD]
 refine aH (λr b t=> ∃(i:Nat) (o:V),(∃j:Nat->V,b= [aC n,j 1,o,aC i,j 4])/\i<=n/\cY t o 1 (ints (zi ((bL n).take i))) h.next/\Fr h t/\r=n-i) n
  ⟨0,.aE,aB rfl,iJ _,cY.aE _ _ _,Fr.refl h,rfl⟩ ?_
 rintro r b a ⟨i,o,⟨B,rfl⟩,hi,k,F,rfl⟩
 simp(disch:=omega)only[go_sem]
 by_cases d:(i:Int)<(n:Int)
 ·rw[bP d]
  have q:i<n:=om
  simp(disch:=omega)only[go_sem,Us]
  have c:Fr a (a.new (.cells false (ints [(i:Int)]))):=(Fr.refl a).new _
  have g:(a.new (.cells false (ints [(i:Int)]))).get a.next=some (.cells false (ints [(i:Int)])):=H.aL ..
  have s:(a.new (.cells false (ints [(i:Int)]))).next=a.next+1:=H.aU ..
  generalize a.new (.cells false (ints [(i:Int)]))=l at*
  have z:SV l (.sl a.next 0 1 (.kn 1)) 1 (ints [(i:Int)]):=SV.all rfl om g _
  have A:=F.next
  have J:=jG n
  obtain⟨y,u,p,e⟩:=(k.fr c).app (bytes:=8) (n:=i) (m:=1) om z (by rw[aP,aQ,Fj,uW];omega) rfl om om
  simp(disch:=omega)only[go_sem,p]
  have f:=e.own
  have x:=fQ q
  have w:zi ((bL n).take i)++ [(i:Int)]=zi ((bL n).take (i+1)):=by rw[Tg om,We,x]
  rw[←uT,w] at f
  rw[eJ i]
  exact⟨n-(i+1),om,i+1,y,aB rfl,om,f,e.fr h (F.trans c) (fM _),rfl⟩
 rw[bH d]
 obtain rfl:i=n:=om
 simp(disch:=omega)only[go_sem]
 rw[Tn (by rw[jG];omega)] at k
 exact⟨k.sv,F,TB k⟩
theorem YV (u:V)(n:Nat)(a:List Nat)(h:H)(W:n<=1000)(A:bE n a)(G:SI h u (zi a)):
  Ev T 39 [u] h (λv h'=>AM h h' v (dA a)):=by
 refine cV Sc rfl ?_
 have g:=A.len
 have w:=G.lens
 rw[aQ,g] at w
 obtain⟨id,off,z,l,L⟩:=G.open
 rw[aQ,g] at z l L
 simp(disch:=omega)only[go_sem,Sc,aD,w,sT h n om]
 have m:Fr h (h.new (.cells false (rc n λ_=> aC 0))):=(Fr.refl h).new _
 have f:(h.new (.cells false (rc n λ_=> aC 0))).get h.next=some (.cells false (rc n λ_=> aC 0)):=H.aL ..
 have d:(h.new (.cells false (rc n λ_=> aC 0))).next=h.next+1:=H.aU ..
 generalize h.new (.cells false (rc n λ_=> aC 0))=Y at*
 obtain⟨S,o⟩:=exI h.next
 rw[o] at f d
 rw[o]
 refine aH (λK c t=> ∃(i:Nat),(∃j:Nat->V,c= [u,.aE,.sl S 0 n (.kn n),aC i,j 4])/\i<=n/\
   t.get S=some (.cells false (rc n λj=>if a.idxOf j<i then aC (a.idxOf j:Nat) else aC 0))/\t.next=S+1/\Fr h t/\K=n-i) n
  ⟨0,aB rfl,iJ _,by rw[f];rfl,d,m,rfl⟩ ?_
 clear f m d
 rintro K c y ⟨i,⟨U,rfl⟩,hi,N,J,F,rfl⟩
 simp(disch:=omega)only[go_sem,w]
 by_cases p:(i:Int)<(n:Int)
 ·rw[bP p]
  have b:i<n:=om
  have ci:y.cell id (off+i)=some (aC (a.getD i 0:Nat)):=by rw[F.cell (l om),L i b];congr 2;simp [zi,g,b]
  have r:=A.iN b
  have x:a.idxOf (a.getD i 0)=i:=A.inj (A.idx r).1 b (A.idx r).2
  generalize Q:a.getD i 0=k at ci r x
  have R:decide ((k:Int)<0)=false:=bH om
  have s:decide ((n:Int)<=(k:Int))=false:=bH om
  have B:=bN (vs:=rc n λj=>if a.idxOf j<i then aC (a.idxOf j:Nat) else aC 0) (off:=k) (by rw[kH];exact r) y S (aC i)
  rw[mS] at B
  simp(disch:=omega)only[go_sem,z.ixa,ci,R,s,N,B]
  rw[eJ i]
  refine⟨n-(i+1),om,i+1,aB rfl,om,?_,J,F.set om _,rfl⟩
  congr 2
  refine dB λj q=>?_
  by_cases e:j=k
  ·rw[bF e,e,x,bF om]
  ·rw[bI e]
   have O:a.idxOf j≠i:=λP=>e (by rw[←(A.idx q).2,P,Q])
   by_cases s:a.idxOf j<i
   ·rw[bF s,bF om]
   ·rw[bI s,bI om]
 rw[bH p]
 obtain rfl:i=n:=om
 simp(disch:=omega)only[go_sem]
 refine⟨by rw[jQ,g,o],?_,by rw[o];exact J,F⟩
 rw[o,N]
 congr 2
 rw[←Zu,jQ,g]
 exact dB λj q=>by rw[bF (A.idx q).1,xI (by rw[g];exact q)]
structure Ia (b:Nat)(W:Nat->Prop)(h:H)(n:Nat)(tv:V)(ρ:Nat->Nat)(F:Nat->Nat->V)(t:rL):Prop where
 sv:SV h tv 1 (rc n λi=> .sl (ρ i) 0 n (.kn n))
 off:Mq W tv
 row: ∀i,i<n->h.get (ρ i)=some (.cells false (rc n (F i)))
 wb: ∀i,i<n->W (ρ i)
 Nw: ∀id,W id->id<h.next
 low: ∀id,W id->b<=id
 inj: ∀i j,i<n->j<n->ρ i=ρ j->i=j
 ent: ∀i p,i<n->p<n->Slot W h (F i p) (t i p)
section
variable {b:Nat} {W:Nat->Prop} {h h':H} {n:Nat} {tv:V} {ρ:Nat->Nat} {F:Nat->Nat->V} {t:rL}
theorem Ia.open (R:Ia b W h n tv ρ F t):bT tv=some (aC n)/\ ∃id off,Sl tv 1 n id off/\ ∀i,i<n->h.cell id (off+i)=some (.sl (ρ i) 0 n (.kn n)):=by
 have s:=R.sv;have e:(rc n λi=>V.sl (ρ i) 0 n (.kn n)).length=n:=kH n _;refine⟨by unfold bT;rw[SV.len s (n:=n) om om];rfl,?_⟩;obtain⟨id,off,a,d,c⟩:=SV.shape s n om om;refine⟨id,off,a,λi hi=>?_⟩;rw[c i om,Mi hi]
theorem Ia.cell (R:Ia b W h n tv ρ F t){i p:Nat}(hi:i<n)(a:p<n):h.cell (ρ i) p=some (F i p):=sL (R.row i hi) a
theorem Ia.mono (R:Ia b W h n tv ρ F t)(f:Fr h h'):Ia b W h' n tv ρ F t:=
 ⟨R.sv.mono f,R.off,λi hi=>by rw[f.get _ (R.Nw _ (R.wb i hi))];exact R.row i hi,R.wb,λid a=>iW (R.Nw id a) f.next,R.low,R.inj,λi p hi c=>(R.ent i p hi c).fx (Fx.of f)⟩
theorem Ia.go (R:Ia b W h n tv ρ F t){W':Nat->Prop}(f:Fx W h h')(d: ∀i,i<n->h'.get (ρ i)=h.get (ρ i))(c: ∀id,id<h.next->W' id->W id)(a: ∀id,W id->W' id)(Nw: ∀id,W' id->id<h'.next)(low: ∀id,W' id->b<=id):Ia b W' h' n tv ρ F t:=
 ⟨R.sv.fx R.off f,R.off.lH R.sv c,λi hi=>by rw[d i hi];exact R.row i hi,λi hi=>a _ (R.wb i hi),Nw,low,R.inj,λi p hi e=>(R.ent i p hi e).go f c⟩
def WB (n:Nat)(ρ:Nat->Nat)(id:Nat):Prop:= ∃i,i<n/\ρ i=id
theorem Ia.wbx (R:Ia b W h n tv ρ F t){a c:H}(f:Fx (WB n ρ) a c):Fx W a c:=f.lH λid _ d=>by
 obtain⟨i,hi,rfl⟩:=d;exact R.wb i hi
def F2 (F:Nat->Nat->V)(i p:Nat)(v:V):Nat->Nat->V:=λj q=>if j=i/\q=p then v else F j q
theorem Ia.put (R:Ia b W h n tv ρ F t){i p:Nat}(hi:i<n)(m:p<n){c:V}{x:List Nat}(k:PV W h c x):
  ∃h',dX (h.get (ρ i)) h (ρ i) p [c]=some h'/\Ia b W h' n tv ρ (F2 F i p c) (Pm.put t i p x)/\Fx (WB n ρ) h h'/\h'.next=h.next:=by
 have l:=bN (vs:=rc n (F i)) (off:=p) (by rw[kH];exact m) h (ρ i) c
 rw[R.row i hi,l,mS]
 refine⟨_,rfl,?_,Fx.set h (W:=WB n ρ) ⟨i,hi,rfl⟩ _,rfl⟩
 have f:Fx W h (h.set (ρ i) (some (.cells false (rc n λj=>if j=p then c else F i j)))):=Fx.set h (R.wb i hi) _
 refine⟨R.sv.fx R.off f,R.off,λj d=>?_,R.wb,R.Nw,R.low,R.inj,λj q d g=>?_⟩
 ·by_cases e:j=i
  ·subst e
   rw[H.aS]
   congr 2
   refine dB λq _=>?_
   unfold F2
   by_cases a:q=p
   ·rw[bF a,bF ⟨rfl,a⟩]
   ·rw[bI a,bI (λh=>a h.2)]
  ·rw[H.aG h (λa=>e (R.inj _ _ d hi a)),R.row j d]
   congr 2
   refine dB λq _=>?_
   unfold F2
   rw[bI (λh=>e h.1)]
 ·unfold F2 Pm.put
  by_cases e:j=i/\q=p
  ·rw[bF e,bF e]
   exact PV.fx k f
  ·rw[bI e,bI e]
   exact (R.ent j q d g).fx f
theorem PV.fresh {v:V}{l:List Nat}(s:SI h' v (zi l))(d: ∀id off len cap,v= .sl id off len cap->h.next<=id)(c: ∀id,W id->id<h.next):PV W h' v l:=by
 refine⟨s,?_⟩
 cases v with
 |sl id off len cap=>exact λa=>by have:=d _ _ _ _ rfl;have:=c id a;omega
 |_=>trivial
theorem Slot.nil {v:V}(s:Slot W h v none):v= .aE:=s
end
theorem Rw (b:Nat)(W:Nat->Prop)(h:H)(n:Nat)(tv:V)(ρ:Nat->Nat)(F:Nat->Nat->V)(t:rL)(vx:V)(x:List Nat)(hn:n<=64)(h0:0<n)(R:Ia b W h n tv ρ F t)(hx:PV W h vx x)(X:bE n x)(TI:oK n t):
  Ev T 87 [tv,vx] h (λv h'=> ∃F',v= .bool (ins t n 0 x).isSome/\Ia b W h' n tv ρ F' (jJ t n x)/\Fx (WB n ρ) h h'):=by
 refine cV rG rfl ?_
 obtain⟨O,id,a5,sh,_⟩:=R.open
 simp(disch:=omega)only[go_sem,rG,aD]
 refine aH (λk' e hh=> ∃(i:Nat) (y:List Nat) (r:V),(∃g:Nat->V,e= [tv,r,g 2,aC i,g 4,g 5,g 6,g 7])/\i<=n/\ins t (n-i) i y=ins t n 0 x/\PV W hh r y/\bE n y/\Fr h hh/\k'=n-i) n
  ⟨0,x,vx,aB rfl,iJ _,rfl,hx,X,Fr.refl h,rfl⟩ ?_
 rintro k' e h2 ⟨i,y,r,⟨g,rfl⟩,hi,q,s,Y,f,rfl⟩
 have o:=R.mono f
 by_cases J:(i:Int)<(n:Int)
 case neg=>
  have A:=bH J;obtain rfl:i=n:=om
  simp(disch:=omega)only[go_sem,O,A];rw[Nat.sub_self] at q;have a:ins t i 0 x=none:=q.symm;refine⟨F,by rw[a];rfl,?_,Fx.of f⟩;unfold jJ;rw[a];exact o
 have A:=bP J
 have c:i<n:=om
 obtain⟨a2,G,d,u,K⟩:=s.si.open
 rw[aQ,Y.len] at d u K
 have ci:h2.cell a2 (G+i)=some (aC (y.getD i 0:Nat)):=by rw[K i c];congr 2;simp [zi,Y.len,c]
 have N:=Y.iN c
 obtain⟨p,l⟩:=exI (y.getD i 0)
 rw[l] at ci N
 have k:n-i=(n-(i+1))+1:=om
 rw[k] at q
 obtain⟨_,a6,a4,L,a1⟩:=o.open
 have cr:=a1 i c
 have P:=o.cell c N
 have Q:=o.ent i p c N
 by_cases m:p=i
 ·have a:ins t (n-(i+1)) (i+1) y=ins t n 0 x:=by
   rw[←q]
   conv=>rhs;unfold ins
   rw[bF (l.trans m)]
  have U:decide ((p:Int)=(i:Int))=true:=bP om;simp(disch:=omega)only[go_sem,O,A,d.ixa,ci,U];rw[eJ i];exact⟨n-(i+1),om,i+1,y,r,aB rfl,om,a,s,Y,f,rfl⟩
 have U:decide ((p:Int)=(i:Int))=false:=bH om
 have e3:decide ((p:Int)<0)=false:=bH om
 have e4:decide ((n:Int)<=(p:Int))=false:=bH om
 cases hto:t i p with
 |none=>
  rw[hto] at Q;have a3:=Q.nil;rw[a3] at P
  have a:ins t n 0 x=some (i,y):=by
   rw[←q];unfold ins;rw[bI (by rw[l];exact m),l,hto]
  obtain⟨h3,pt,R3,B,n3⟩:=o.put c N s;simp(disch:=omega)only[go_sem,O,A,d.ixa,ci,U,e3,e4,L.ixa,cr,P,lG s.fG.1 s.fG.2,pt];have e5:jJ t n x=Pm.put t i p y:=by unfold jJ;rw[a];simp only;rw[l]
  refine⟨F2 F i p r,by rw[a];rfl,by rw[e5];exact R3,(Fx.of f).trans B (λ_ _ h=>h)⟩
 |some z=>
  rw[hto] at Q;have Z:=TI.cU _ _ _ hto;have hz:PV W h2 (F i p) z:=Q;have sn:=Hv hz (bE.ne h0 Z) false
  have a:ins t (n-(i+1)) (i+1) (aX y (dA z))=ins t n 0 x:=by
   rw[←q]
   conv=>rhs;unfold ins
   rw[bI (by rw[l];exact m),l,hto]
  generalize F i p=vz at P hz sn;simp(disch:=omega)only[go_sem,O,A,d.ixa,ci,U,e3,e4,L.ixa,cr,P,sn];refine (YV vz n z h2 om Z hz.si).mono ?_;rintro w h3 nw;have B:=nw.fr;have pw:=nw.pv (W:=W) (λhw=>by have:=o.Nw _ hw;omega);simp(disch:=omega)only[go_sem];refine (Lj r w y (dA z) h3 (by rw[Y.len];omega) (s.si.mono B) pw.si (λj hj=>by rw[jQ,Z.len];exact Y.iN (by rw[←Y.len];exact hj))).mono ?_;rintro v h4 ⟨s4,f4,l4⟩;simp(disch:=omega)only[go_sem];rw[eJ i];exact⟨n-(i+1),om,i+1,_,v,aB rfl,om,a,PV.fresh s4 l4 (λid a0=>iW (o.Nw id a0) B.next),Y.mul Z.inv,(f.trans B).trans f4,rfl⟩
section
variable {h:H} {ws:List V} {l:LN} {k:Nat}
theorem uL.frb {a h':H}{x:V}{n m sz:Nat}{us:List V}(p:uL h x n m sz ws us h')(f:Fr a h){g:Nat}{b:List V}(o:cY h x g b a.next):Fr a h':=by
 have r:=f.next;refine⟨by rw[p.next];omega,λid d=>?_⟩;rw[p.old id om (λi j n c e q=>by have:=(o.in _ _ _ _ e).2.1;omega)];exact f.get id d
theorem Hi {a:H}{d v:V}(o:cY h d 1 ws a.next)(f:Fr a h)(w:ws.length<1000000){bytes:Nat}(s:bytes<=24):
  ∃h2,xQ (h.new (.cells false [v])) 1 bytes d (.sl h.next 0 1 (.kn 1))=some (.sl (h.next+1) 0 (ws.length+1) (.un 1),h2)/\cY h2 (.sl (h.next+1) 0 (ws.length+1) (.un 1)) 1 (ws++ [v]) a.next/\Fr a h2/\h2.next=h.next+2/\ ∀id,id<h.next->dL d id->h2.get id=h.get id:=by
 obtain⟨r,u,g,q,t,e⟩:=dF (h:=h) rfl [v]
 rw[u]
 have i:=o.fr e
 obtain⟨h2,p,c⟩:=i.push (bytes:=bytes) (SV.one om q (.kn 1)) (n:=ws.length) (m:=1) om rfl om om ⟨by
  have:(2*(ws.length+1)+1000)*bytes<=(2*(ws.length+1)+1000)*24:=Nat.mul_le_mul_left _ s
  omega,om⟩
 rw[g] at p
 have x:=f.next
 have j:=c.own om rfl (b:=a.next) om
 rw[g] at j
 have nx:=c.next
 exact⟨h2,p,j,uL.frb c (f.trans e) i,om,λid r h2=>by rw[c.old id om h2,t id om]⟩
theorem UO (t:rL)(i p:Nat):(eR t i p).length<=p:=by
 unfold eR;have:=List.length_filterMap_le (t i) (List.range p);rwa [NM] at this
theorem Uj (n:Nat)(t:rL): ∀i,(eB n t i).length<=i*n
 |0=>by simp [eB]
 |i+1=>by
  rw[FL,jZ,Nat.succ_mul];have:=Uj n t i;have:=UO t i n;omega
theorem yF (b:Nat)(W:Nat->Prop)(h:H)(n:Nat)(A:V)(ρ:Nat->Nat)(F:Nat->Nat->V)(t:rL)(hn:n<=64)(h0:0<n)(R:Ia b W h n A ρ F t)(TI:oK n t):
  Ev T 130 [A] h (λv h'=> ∃ws,cY h' v 1 ws h.next/\fW W h ws (fR n t 0)/\Fr h h'):=by
 refine cV pU rfl ?_
 have r:=R.open.1
 simp(disch:=omega)only[go_sem,pU,aD]
 refine aH (λu c o=> ∃(i:Nat) (d:V) (ws:List V),(∃g:Nat->V,c= [A,g 1,d,aC i,g 4,g 5,g 6,g 7])/\i<=n/\cY o d 1 ws h.next/\fW W h ws (eB n t i)/\Fr h o/\u=n-i) n
  ⟨0,.aE, [],aB rfl,iJ _,cY.aE _ _ _,trivial,Fr.refl h,rfl⟩ ?_
 rintro u c h2 ⟨i,d,ws,⟨g,rfl⟩,hi,e,a,f,rfl⟩
 by_cases w:(i:Int)<(n:Int)
 case neg=>
  have O:=bH w;obtain rfl:i=n:=om
  simp(disch:=omega)only[go_sem,r,O];rw[Vw] at a;exact⟨ws,e,a,f⟩
 have O:=bP w
 have p:i<n:=om
 simp(disch:=omega)only[go_sem,r,O]
 refine xE (λvs o=> ∃(d:V) (ws:List V),(∃g:Nat->V,vs= [A,g 1,d,aC i,g 4,g 5,g 6,g 7])/\cY o d 1 ws h.next/\fW W h ws (eB n t (i+1))/\Fr h o) ?_ ?_
 ·refine aH (λu c o=> ∃(j:Nat) (d:V) (ws:List V),(∃g:Nat->V,c= [A,g 1,d,aC i,aC j,g 5,g 6,g 7])/\j<=n/\cY o d 1 ws h.next/\fW W h ws (eB n t i++eR t i j)/\Fr h o/\u=n-j) n
   ⟨0,d,ws,aB rfl,iJ _,e,by unfold eR;rw[List.range_zero,List.filterMap_nil,vF];exact a,f,rfl⟩ ?_
  clear e a f hi g
  rintro u c K ⟨j,d,ws,⟨g,rfl⟩,hj,e,a,f,rfl⟩
  by_cases m:(j:Int)<(n:Int)
  case neg=>
   have J:=bH m;obtain rfl:j=n:=om
   simp(disch:=omega)only[go_sem,r,J];exact⟨d,ws,aB rfl,e,by rw[FL];exact a,f⟩
  have J:=bP m
  have q:j<n:=om
  have Y:=R.mono f
  obtain⟨_,a0,U,x,N⟩:=Y.open
  have P:=N i p
  have G:=Y.cell p q
  have B:=R.ent i j p q
  have Z:=aM.length a
  have l1:=Uj n t i
  have l2:=UO t i j
  have l3:i*n<=64*64:=Nat.mul_le_mul om hn
  rw[jZ] at Z
  cases hto:t i j with
  |none=>
   rw[hto] at B;rw[B.nil] at G;simp(disch:=omega)only[go_sem,r,J,x.ixa,P,G];rw[eJ j];refine⟨n-(j+1),om,j+1,d,ws,aB rfl,om,e.fr ((Fr.refl K).bA om),?_,f.bA om,rfl⟩;rw[HB,hto];simpa using a
  |some y=>
   rw[hto] at B;have s:PV W h (F i j) y:=B;have Q:=Hv s (bE.ne h0 (TI.cU _ _ _ hto)) true;generalize F i j=vz at G s Q;obtain⟨S,a1⟩:=exI K.next;simp(disch:=omega)only[go_sem,r,J,x.ixa,P,G,Q,cT _ (z:= .aE) s.fG.1 s.fG.2];obtain⟨h4,a4,L,f4,n4,_⟩:=Hi (v:=vz) e f om (bytes:=24) om;simp(disch:=omega)only[go_sem,a4];rw[eJ j];refine⟨n-(j+1),om,j+1,_,_,aB rfl,om,L,?_,f4,rfl⟩;rw[HB,hto,←Ll];exact a.append (fW.one s)
 rintro c K ⟨d,ws,⟨g,rfl⟩,e,a,f⟩
 simp(disch:=omega)only[go_sem]
 rw[eJ i]
 exact⟨n-(i+1),om,i+1,d,ws,aB rfl,om,e,a,f,rfl⟩
theorem fW.open {W:Nat->Prop}{v:V}(sv:SV h v 1 ws)(p:fW W h ws l):bT v=some (aC (l.length:Int))/\ ∃id off,Sl v 1 l.length id off/\ ∀i,i<l.length->id<h.next/\h.cell id (off+i)=some (ws.getD i .undef)/\PV W h (ws.getD i .undef) (l.getD i []):=by
 have f:=aM.length p;refine⟨by unfold bT;rw[SV.len sv (n:=l.length) om om];rfl,?_⟩;obtain⟨id,off,b,a,d⟩:=SV.shape sv l.length om om;refine⟨id,off,b,λi hi=>⟨a om,?_,?_⟩⟩
 ·rw[d i om];simp [List.getD,show i<ws.length by omega]
 ·obtain⟨w,e,c⟩:=fW.at p hi
  rw[List.getD,e];exact c
theorem Ox {α:Type}{l:List α}{x d:α}:x∈l.take k↔ ∃q,q<k/\q<l.length/\l.getD q d=x:=by
 constructor
 ·intro h
  obtain⟨q,a,e⟩:=zF.1 h;rw[Fj] at a;refine⟨q,om,om,?_⟩;rw[List.getElem_take] at e;rw[List.getD,dD om,←e];rfl
 ·rintro⟨q,h1,h2,e⟩
  rw[List.getD,dD h2] at e;refine zF.2 ⟨q,by rw[Fj];omega,?_⟩;rw[List.getElem_take];exact e
theorem Ds {x:List Nat}(c:k<l.length):x∈l.take (k+1)↔x∈l.take k∨l.getD k []=x:=by
 rw[Ox (d:= []),Ox (d:= [])];constructor
 ·rintro⟨q,b,a,e⟩
  by_cases h:q=k
  ·subst h;exact .inr e
  ·exact .inl ⟨q,om,a,e⟩
 ·rintro (⟨q,b,a,e⟩|e)
  ·exact⟨q,om,a,e⟩
  ·exact⟨k,om,c,e⟩
theorem NR {L:LN}(a:k<L.length):(L.take (k+1)).filter (λy=>decide (y∉l))=(L.take k).filter (λy=>decide (y∉l))++if L.getD k []∈l then [] else [L.getD k []]:=by
 rw[fT [] a,List.filter_append];generalize L.getD k []=z
 by_cases e:z∈l<;>simp [e,List.filter]
theorem UP (b:Nat)(W:Nat->Prop)(h:H)(n:Nat)(tv vl:V)(wl:List V)(l:LN)(ρ:Nat->Nat)(F:Nat->Nat->V)(t:rL)(hn:n<=64)(h0:0<n)(R:Ia b W h n tv ρ F t)(TI:oK n t)(sl:SV h vl 1 wl)(pl:fW W h wl l)(hl: ∀x∈l,bE n x)(ll:l.length<1000000):
  Ev T 131 [tv,vl] h (λv h'=> ∃ws,cY h' v 1 ws h.next/\fW W h ws (frF n t l)/\Fr h h'):=by
 refine cV sC rfl ?_
 simp(disch:=omega)only[go_sem,sC,aD]
 refine (yF b W h n tv ρ F t hn h0 R TI).mono ?_
 rintro ve h1 ⟨we,oe,pe,f1⟩
 obtain⟨L,hL⟩:=exI (fR n t 0)
 have EP: ∀y∈L,bE n y:=λy hy=>TI.MK y (by rw[hL];exact hy)
 have lL:L.length<=4096:=by
  rw[←hL,←Vw];have:=Uj n t n;have:=Nat.mul_le_mul hn hn;omega
 unfold frF
 rw[hL] at pe ⊢
 have b2:fW W h1 we L:=fW.fx pe (Fx.of f1)
 have b6:=aM.length pe
 obtain⟨a0,K,j,a6,a8⟩:=fW.open oe.sv b2
 obtain⟨a2,a3,u,b4,a7⟩:=fW.open sl pl
 simp(disch:=omega)only[go_sem]
 refine aH (λk' a hh=> ∃(i:Nat) (Q:V) (ws:List V),(∃g:Nat->V,a= [tv,vl,g 2,Q,ve,aC i,g 6,g 7,g 8,g 9,g 10])/\i<=L.length/\cY hh Q 1 ws h1.next/\fW W h ws ((L.take i).filter λy=>decide (y∉l))/\Fr h1 hh/\k'=L.length-i) L.length
  ⟨0,.aE, [],aB rfl,iJ _,cY.aE _ _ _,trivial,Fr.refl h1,rfl⟩ ?_
 rintro k' a h2 ⟨i,Q,ws,⟨g,rfl⟩,hi,ow,m,f,rfl⟩
 by_cases a5:(i:Int)<(L.length:Int)
 case neg=>
  have e1:=bH a5;obtain rfl:i=L.length:=om
  simp(disch:=omega)only[go_sem,a0,e1];rw[List.take_length] at m;exact⟨ws,ow.le f1.next,m,f1.trans f⟩
 have e1:=bP a5
 have q:i<L.length:=om
 obtain⟨i1,c1,U⟩:=a8 i q
 have Y:=EP _ (bD (d:= []) q)
 obtain⟨y,hy⟩:=exI (L.getD i [])
 have P:PV W h (we.getD i .undef) (L.getD i []):=by
  obtain⟨w,o,h4⟩:=fW.at pe q;rw[List.getD,o];exact h4
 rw[hy] at U Y P
 generalize we.getD i .undef=vy at c1 U P
 simp(disch:=omega)only[go_sem,a0,e1]
 refine bJ (λvs hh=>(∃g:Nat->V,vs= [tv,vl,g 2,Q,ve,aC i,.bool (decide (y∈l)),g 7,g 8,g 9,g 10])/\Fr h2 hh) ?_ ?_
 ·refine aH (λk' a hh=> ∃(k:Nat) (s:Bool),(∃g:Nat->V,a= [tv,vl,g 2,Q,ve,aC i,.bool s,aC k,g 8,g 9,g 10])/\k<=l.length/\(s=true↔y∈l.take k)/\Fr h2 hh/\k'=l.length-k) l.length
   ⟨0,false,aB rfl,iJ _,by simp,Fr.refl h2,rfl⟩ ?_
  clear g
  rintro k' a o ⟨k,s,⟨g,rfl⟩,hk,hs,N,rfl⟩
  cases s with
  |true=>
   have p:decide (y∈l)=true:=bP (List.mem_of_mem_take (hs.1 rfl));simp(disch:=omega)only[go_sem];exact⟨by rw[p];exact aB rfl,N⟩
  |false=>
  have G:y∉l.take k:=λh=>by have:=hs.2 h;cases this
  by_cases r:(k:Int)<(l.length:Int)
  case neg=>
   have p:=bH r;obtain rfl:k=l.length:=om
   rw[List.take_length] at G;have e4:decide (y∈l)=false:=bH G;simp(disch:=omega)only[go_sem,a2,p];exact⟨by rw[e4];exact aB rfl,N⟩
  have p:=bP r
  have A:k<l.length:=om
  obtain⟨i2,c2,p2⟩:=a7 k A
  have Z:=hl _ (bD (d:= []) A)
  obtain⟨z,hz⟩:=exI (l.getD k [])
  rw[hz] at p2 Z
  generalize wl.getD k .undef=vz at c2 p2
  have c:=f.trans N
  have J:=f1.trans c
  have O:o.cell K (j+i)=some vy:=by rw[c.cell i1];exact c1
  have b3:o.cell a3 (u+k)=some vz:=by rw[J.cell i2];exact c2
  have v1:=SV.dE U.si
  have v2:=SV.dE p2.si
  simp(disch:=omega)only[go_sem,a2,p,a6.ixa,O,b4.ixa,b3]
  have fb:Fr o (H.mk o.tr (o.next+10)):=(Fr.refl o).bA om
  refine (GV vy vz _ _ _ (U.si.mono (c.trans fb)) (p2.si.mono (J.trans fb)) (by rw[aQ,Y.len];omega) (by rw[aQ,Z.len];omega)).mono ?_
  rintro _ h4 ⟨rfl,f4⟩
  have B:=fb.trans f4
  have a9:h4.cell K (j+i)=some vy:=by rw[(c.trans B).cell i1];exact c1
  have b0:h4.cell a3 (u+k)=some vz:=by rw[(J.trans B).cell i2];exact c2
  simp(disch:=omega)only[go_sem,a9,b0,v1,v2]
  rw[eJ k]
  refine⟨l.length-(k+1),om,k+1,_,aB rfl,om,?_,N.trans B,rfl⟩
  rw[Qf,Ds A,hz]
  exact⟨λe=> .inr (Vl e).symm,λh=>h.elim (λh=>(G h).elim) λe=>by rw[e]⟩
 rintro a o ⟨⟨g,rfl⟩,N⟩
 have c:=f.trans N
 have O:o.cell K (j+i)=some vy:=by rw[c.cell i1];exact c1
 have a1:=ow.fr N
 have b5:=aM.length m
 have b7:((L.take i).filter λy=>decide (y∉l)).length<=i:=mT (List.length_filter_le _ _) (by rw[Fj];omega)
 have ft:=NR (L:=L) (l:=l) q
 rw[hy] at ft
 by_cases hm:y∈l
 ·have p:=bP hm
  simp(disch:=omega)only[go_sem,p]
  rw[eJ i]
  rw[bF hm,vF] at ft
  exact⟨L.length-(i+1),om,i+1,Q,ws,aB rfl,om,a1,by rw[ft];exact m,c,rfl⟩
 ·have p:=bH hm
  obtain⟨h4,a4,b1,f4,n4,_⟩:=Hi (v:=vy) a1 c om (bytes:=24) om
  simp(disch:=omega)only[go_sem,p,a6.ixa,O,cT _ (z:= .aE) U.fG.1 U.fG.2,a4]
  rw[eJ i]
  rw[bI hm] at ft
  exact⟨L.length-(i+1),om,i+1,_,_,aB rfl,om,b1,by rw[ft];exact m.append (fW.one P),f4,rfl⟩
end
structure CJ (b:Nat)(W:Nat->Prop)(h hh:H)(n:Nat)(tv:V)(ρ:Nat->Nat)(L:List Nat->Prop)(t0:rL)(vl:V)(l:LN)(t:rL):Prop where
 ex: ∃W' F wl,Ia b W' hh n tv ρ F t/\cY hh vl 1 wl h.next/\fW W' hh wl l/\Hq W' vl/\ ∀id,id<h.next->W' id->W id
 fx:Fx W h hh
 cls:Cx n L t l
 sub:Sub t0 t
theorem abJ {n:Nat}{t:rL}{x:List Nat}{L:List Nat->Prop}{l:LN}(c:Cx n L t l)(b:oK n (jJ t n x))(h:(fR n t 0).length<(fR n (jJ t n x) 0).length):0<(frF n (jJ t n x) l).length:=by
 refine List.length_pos_iff.2 λe=>?_
 unfold frF at e;rw[List.filter_eq_nil_iff] at e
 have:(fR n (jJ t n x) 0).length<=(fR n t 0).length:=List.Nodup.length_le_of_subset (yE b) λy a=>by
  have:=e y a;simp at this;exact (c.mem y).1 this
 omega
theorem HA (n:Nat)(t:rL)(a:n<=64):(fR n t 0).length<=4096:=by
 rw[←Vw];have:=Uj n t n;have:=Nat.mul_le_mul a a;omega
theorem OX {n:Nat}{t:rL}{l m:LN}{a c:Nat}(b:a<l.length)(f:c<l.length):Pr n t (l++m) a c↔Pr n t l a c:=by
 have e: ∀k,k<l.length->(l++m).getD k []=l.getD k []:=λk d=>by rw[List.getD,List.getD,Dv d]
 unfold Pr;rw[e a b,e c f]
theorem RJ (b:Nat)(W:Nat->Prop)(h:H)(n:Nat)(y:V)(ρ:Nat->Nat)(F:Nat->Nat->V)(t:rL)(L:List Nat->Prop)(hn:n<=7)(h0:0<n)(hb:b<=h.next)(R:Ia b W h n y ρ F t)(hL: ∀g,L g->bE n g)(tl:Oo n L t):
  Ev T 88 [y] h (λ_ h'=> ∃W' F' t',Ia b W' h' n y ρ F' t'/\Oo n L t'/\Sub t t'/\Jh n t'/\Fx W h h'/\ ∀id,id<h.next->W' id->W id):=by
 have d7:n^n<=823543:=by
  have: ∀n,n<=7->n^n<=823543:=by decide
  exact this n hn
 refine cV rS rfl ?_
 simp(disch:=omega)only[go_sem,rS,aD]
 refine (yF b W h n y ρ F t om h0 R tl.tab).mono ?_
 rintro p h1 ⟨Z,U,N,f1⟩
 simp(disch:=omega)only[go_sem]
 refine aH (λk' r hh=> ∃(i:Nat) (p:V) (l:LN) (t':rL),(∃g:Nat->V,r= [y,p,aC i,g 3,g 4,g 5,g 6,g 7,g 8,g 9,g 10,g 11])/\CJ b W h hh n y ρ L t p l t'/\i<=l.length/\(∀a c,a<i->c<i->Pr n t' l a c)/\k'=1000000-i) 1000000
  ⟨0,p,fR n t 0,t,aB rfl,⟨⟨λid=>W id∨ ∃G m c,p= .sl id G m c,F,Z,?_,U,?_,λid G m c e=> .inr ⟨_,_,_,e⟩,λid z f=>?_⟩,Fx.of f1,Cx.start tl,Sub.refl t⟩,iJ _,λa c ha=>om,rfl⟩ ?_
 ·refine R.go (Fx.of f1) (λi hi=>f1.get _ (R.Nw _ (R.wb i hi))) (λid z f=>?_) (λid f=> .inl f) (λid f=>?_) (λid f=>?_)
  ·rcases f with f|⟨G,m,c,e⟩
   ·exact f
   ·have:=(U.in _ _ _ _ e).2.1;omega
  ·rcases f with f|⟨G,m,c,e⟩
   ·exact iW (R.Nw id f) f1.next
   ·exact (U.in _ _ _ _ e).1
  ·rcases f with f|⟨G,m,c,e⟩
   ·exact R.low id f
   ·have:=(U.in _ _ _ _ e).2.1;omega
 ·refine fW.go N (Fx.of f1) λid z f=>?_
  rcases f with f|⟨G,m,c,e⟩
  ·exact f
  ·have:=(U.in _ _ _ _ e).2.1;omega
 ·rcases f with f|⟨G,m,c,e⟩
  ·exact f
  ·have:=(U.in _ _ _ _ e).2.1;omega
 clear U N f1 p Z h1
 rintro k' r h1 ⟨i,p,l,s,⟨g,rfl⟩,J,hi,O,rfl⟩
 have lb:=J.cls.bound
 have a1:bT p=some (aC (l.length:Int)):=by
  obtain⟨⟨W',F',Z,_,U,N,_⟩,_⟩:=J;exact (fW.open U.sv N).1
 by_cases w:(i:Int)<(l.length:Int)
 case neg=>
  have Y:=bH w;obtain rfl:i=l.length:=om
  simp(disch:=omega)only[go_sem,a1,Y];obtain⟨⟨W',F',Z,R',_,_,_,hW⟩,fx,v,sub⟩:=J;exact⟨W',F',s,R',v.tl,sub,v.closed O,fx,hW⟩
 have Y:=bP w
 have o:i<l.length:=om
 simp(disch:=omega)only[go_sem,a1,Y]
 refine xE (λvs hh=> ∃(p:V) (l:LN) (t':rL),(∃g:Nat->V,vs= [y,p,aC i,g 3,g 4,g 5,g 6,g 7,g 8,g 9,g 10,g 11])/\CJ b W h hh n y ρ L t p l t'/\i<l.length/\ ∀a c,a<i+1->c<i+1->Pr n t' l a c) ?_ ?_
 ·refine aH (λk' r hh=> ∃(k:Nat) (p:V) (l:LN) (t':rL),(∃g:Nat->V,r= [y,p,aC i,aC k,g 4,g 5,g 6,g 7,g 8,g 9,g 10,g 11])/\k<=i+1/\CJ b W h hh n y ρ L t p l t'/\i<l.length/\(∀a c,a<i->c<i->Pr n t' l a c)/\(∀c,c<k->Pr n t' l i c/\Pr n t' l c i)/\k'=i+1-k) (i+1)
   ⟨0,p,l,s,aB rfl,iJ _,J,o,O,λc hc=>om,rfl⟩ ?_
  clear J hi O lb a1 w Y o p l s g
  rintro k' r h2 ⟨k,p,l,s,⟨g,rfl⟩,hk,J,o,O,hQ,rfl⟩
  by_cases w:(k:Int)<=(i:Int)
  case neg=>
   have Y:=bH w;obtain rfl:k=i+1:=om
   simp(disch:=omega)only[go_sem,Y];refine⟨p,l,s,aB rfl,J,o,λa c ha hc=>?_⟩
   by_cases ea:a=i
   ·subst ea;exact (hQ c hc).1
   ·by_cases ec:c=i
    ·subst ec;exact (hQ a ha).2
    ·exact O a c om om
  have Y:=bP w
  have d2:k<=i:=om
  simp(disch:=omega)only[go_sem,Y]
  refine xE (λvs hh=> ∃(p:V) (l:LN) (t':rL),(∃g:Nat->V,vs= [y,p,aC i,aC k,g 4,g 5,g 6,g 7,g 8,g 9,g 10,g 11])/\CJ b W h hh n y ρ L t p l t'/\i<l.length/\(∀a c,a<i->c<i->Pr n t' l a c)/\ ∀c,c<k+1->Pr n t' l i c/\Pr n t' l c i) ?_ ?_
  ·refine aH (λk' r hh=> ∃(q:Nat) (p:V) (l:LN) (t':rL),(∃g:Nat->V,r= [y,p,aC i,aC k,aC q,g 5,g 6,g 7,g 8,g 9,g 10,g 11])/\q<=2/\CJ b W h hh n y ρ L t p l t'/\i<l.length/\(∀a c,a<i->c<i->Pr n t' l a c)/\(∀c,c<k->Pr n t' l i c/\Pr n t' l c i)/\(0<q->Pr n t' l i k)/\(1<q->Pr n t' l k i)/\k'=2-q) 2
    ⟨0,p,l,s,aB rfl,om,J,o,O,hQ,λh=>om,λh=>om,rfl⟩ ?_
   clear J O hQ w Y o p l s g
   rintro k' r h3 ⟨q,p,l,s,⟨g,rfl⟩,hq,J,o,O,hQ,hA,hB,rfl⟩
   by_cases w:(q:Int)<2
   case neg=>
    have Y:=bH w;have d5:q=2:=om
    simp(disch:=omega)only[go_sem,Y];refine⟨p,l,s,aB rfl,J,o,O,λc hc=>?_⟩
    by_cases ec:c=k
    ·subst ec;exact⟨hA om,hB om⟩
    ·exact hQ c om
   have Y:=bP w
   obtain⟨⟨W',F',Z,R',U,N,bl,hW⟩,fx,v,sub⟩:=J
   obtain⟨a1,a6,Q,b7,b9⟩:=fW.open U.sv N
   have lb:=v.bound
   obtain⟨i1,c1,p1⟩:=b9 i o
   obtain⟨_,c2,p2⟩:=b9 k om
   have ga:=v.gen _ (bD (d:= []) o)
   have gc:=v.gen _ (bD (d:= []) (show k<l.length by omega))
   obtain⟨a,ea⟩:=exI (l.getD i [])
   obtain⟨c,ec⟩:=exI (l.getD k [])
   rw[ea] at p1 ga
   rw[ec] at p2 gc
   have A:=ga.cU hL
   have C:=gc.cU hL
   generalize Z.getD i .undef=va at c1 p1
   generalize Z.getD k .undef=vc at c2 p2
   have v1:=SV.dE p1.si
   have v2:=SV.dE p2.si
   have vv:=SV.dE U.sv
   simp(disch:=omega)only[go_sem,Y,b7.ixa,c1,c2]
   have fb:Fr h3 (H.mk h3.tr (h3.next+10)):=(Fr.refl h3).bA om
   refine (Lj va vc a c _ (by rw[A.len];omega) (p1.si.mono fb) (p2.si.mono fb) (λj hj=>by rw[C.len];exact A.iN (by rw[←A.len];exact hj))).mono ?_
   rintro vx h4 ⟨s4,f4,l4⟩
   have B:=fb.trans f4
   have a8:h4.cell a6 (Q+i)=some va:=by rw[B.cell i1];exact c1
   have b0:h4.cell a6 (Q+k)=some vc:=by rw[B.cell i1];exact c2
   simp(disch:=omega)only[go_sem,a8,b0,v1,v2]
   have px:PV W' h4 vx (aX a c):=PV.fresh s4 l4 (λid z=>iW (R'.Nw id z) fb.next)
   refine jT (λvs hh=> ∃(vx:V) (x:List Nat),(∃g:Nat->V,vs= [y,p,aC i,aC k,aC q,vx,g 6,g 7,g 8,g 9,g 10,g 11])/\PV W' hh vx x/\(q=0->x=aX a c)/\(q=1->x=aX c a)/\bX n L x/\Fr h3 hh) ?_ ?_
   ·refine aW (λd0=>?_) (λd0=>?_)
    ·have w1:(1:Int)=(q:Int):=om
     simp(disch:=omega)only[go_sem,b7.ixa,a8,b0]
     have a3:Fr h4 (H.mk h4.tr (h4.next+10)):=(Fr.refl h4).bA om
     refine (Lj vc va c a _ (by rw[C.len];omega) (p2.si.mono (B.trans a3)) (p1.si.mono (B.trans a3)) (λj hj=>by rw[A.len];exact C.iN (by rw[←C.len];exact hj))).mono ?_
     rintro vy h5 ⟨s5,f5,l5⟩
     have b3:=a3.trans f5
     have c4:h5.cell a6 (Q+i)=some va:=by rw[(B.trans b3).cell i1];exact c1
     have c7:h5.cell a6 (Q+k)=some vc:=by rw[(B.trans b3).cell i1];exact c2
     simp(disch:=omega)only[go_sem,c4,c7,v1,v2]
     refine .inl ⟨vy,aX c a,aB rfl,PV.fresh s5 l5 (λid z=>iW (R'.Nw id z) (B.trans a3).next),λe=>om,λ_=>rfl,gc.app hL ga,B.trans b3⟩
    ·simp(disch:=omega)only[go_sem]
     exact .inl ⟨vx,aX a c,aB rfl,px,λ_=>rfl,λe=>om,ga.app hL gc,B⟩
   clear px s4 l4 B a8 b0 f4 fb vx h4
   rintro r h4 ⟨vx,x,⟨g,rfl⟩,px,c8,c6,gx,f4⟩
   have R4:=R'.mono f4
   simp(disch:=omega)only[go_sem]
   refine (yF b W' h4 n y ρ F' s om h0 R4 v.tl.tab).mono ?_
   rintro v5 h5 ⟨w5,o5,c9,f5⟩
   have l5:bT v5=some (aC ((fR n s 0).length:Int)):=(fW.open o5.sv (fW.fx c9 (Fx.of f5))).1
   have m5:=HA n s om
   simp(disch:=omega)only[go_sem,l5]
   refine (Rw b W' h5 n y ρ F' s vx x om h0 (R4.mono f5) (PV.mono px f5) (gx.cU hL) v.tl.tab).mono ?_
   rintro _ h6 ⟨F6,rfl,R6,f6⟩
   obtain⟨u,K,a0,m,hm⟩:=v.step hL gx
   simp(disch:=omega)only[go_sem]
   refine (yF b W' h6 n y ρ F6 _ om h0 R6 u.tl.tab).mono ?_
   rintro v7 h7 ⟨w7,o7,c3,f7⟩
   have l7:bT v7=some (aC ((fR n (jJ s n x) 0).length:Int)):=(fW.open o7.sv (fW.fx c3 (Fx.of f7))).1
   have m7:=HA n (jJ s n x) om
   have R7:=R6.mono f7
   have b8:=f4.trans f5
   have a5:Fx W' h3 h7:=((Fx.of b8).trans (R4.wbx f6) (λ_ _ h=>h)).trans (Fx.of f7:Fx W' h6 h7) (λ_ _ h=>h)
   have a2: ∀j,j<n->ρ j<h.next:=λj hj=>R.Nw _ (R.wb j hj)
   have b4:cY h7 p 1 Z h.next:=by
    refine (((U.fr b8).zA f6.next λid G m c e z=>f6.get id z λf=>?_).fr f7);obtain⟨j,hj,rfl⟩:=f;have:=(U.in _ _ _ _ e).2.1;have:=a2 j hj;omega
   have P:fW W' h7 Z l:=fW.fx N a5
   simp(disch:=omega)only[go_sem,l7]
   have a7: ∀b1 h',CJ b W h h' n y ρ L t b1 (l++m) (jJ s n x)->CJ b W h h' n y ρ L t b1 (l++m) (jJ s n x)/\i<(l++m).length/\(∀a c,a<i->c<i->Pr n (jJ s n x) (l++m) a c)/\(∀c,c<k->Pr n (jJ s n x) (l++m) i c/\Pr n (jJ s n x) (l++m) c i)/\(0<q+1->Pr n (jJ s n x) (l++m) i k)/\(1<q+1->Pr n (jJ s n x) (l++m) k i):=λb1 h' J=>by
    have b2:k<l.length:=om
    refine⟨J,by rw[jZ];omega,λa c h1 h2=>(O a c h1 h2).mono K om om,λc hc=>⟨(hQ c hc).1.mono K o om,(hQ c hc).2.mono K om o⟩,λ_=>?_,λ_=>?_⟩
    ·by_cases e0:q=0
     ·rw[OX o b2]
      unfold Pr;rw[ea,ec,←c8 e0];exact a0
     ·exact (hA om).mono K o b2
    ·have e0:q=1:=om
     rw[OX b2 o];unfold Pr;rw[ea,ec,←c6 e0];exact a0
   refine aW (λb5=>?_) (λb5=>?_)
   ·have hg:(fR n s 0).length<(fR n (jJ s n x) 0).length:=om
    have em:m=frF n (jJ s n x) l:=by
     unfold clF at hm;rw[bF hg] at hm;exact (List.append_cancel_left hm).symm
    have m0:=abJ v u.tl.tab hg
    rw[←em] at m0
    rw[hm] at u
    have c5:=u.bound
    rw[jZ] at c5
    simp(disch:=omega)only[go_sem]
    refine (UP b W' h7 n y p Z l ρ F6 _ om h0 R7 u.tl.tab b4.sv P v.cU om).mono ?_
    rintro v8 h8 ⟨w8,o8,p8,f8⟩
    rw[←em] at p8
    have lw:=aM.length P
    have d3:=aM.length p8
    have c0:=b4.fr f8
    have R8:=R7.mono f8
    obtain⟨h9,a9,p9⟩:=c0.push (bytes:=24) o8.sv (n:=l.length) (m:=m.length) om om om m0 ⟨om,om⟩
    have n9:=p9.next
    have a4:=p9.fx bl
    have d4:=a5.next
    have d1:=f8.next
    have d6:=fx.next
    simp(disch:=omega)only[go_sem,a9]
    rw[eJ q]
    have b6: ∀id,id<h8.next->(W' id∨id=h8.next)->W' id:=λid h1 h2=>by
     rcases h2 with h2|h2
     ·exact h2
     ·omega
    have J':CJ b W h h9 n y ρ L t (.sl h8.next 0 (l.length+m.length) (.un 1)) (l++m) (jJ s n x):=by
     refine⟨⟨λid=>W' id∨id=h8.next,F6,Z++w8,?_,p9.own om om om,?_,λid G m c e=>by cases e;exact .inr rfl,λid z f=>?_⟩,?_,u,sub.trans K⟩
     ·refine R8.go a4 (λj hj=>p9.old _ (by have:=a2 j hj;omega) λid G m c e e2=>by have:=(c0.in _ _ _ _ e).2.1;have:=a2 j hj;omega) b6 (λid f=> .inl f) (λid f=>?_) (λid f=>?_)
      ·rcases f with f|f
       ·have:=R8.Nw id f;omega
       ·omega
      ·rcases f with f|f
       ·exact R8.low id f
       ·omega
     ·exact (fW.go (fW.fx P (Fx.of f8)) a4 b6).append (fW.go (fW.fx p8 (Fx.of f8)) a4 b6)
     ·rcases f with f|f
      ·exact hW id z f
      ·omega
     ·exact fx.trans ((a5.trans (Fx.of f8:Fx W' h7 h8) (λ_ _ h=>h)).trans a4 (λ_ _ h=>h)) hW
    obtain⟨j1,j2,j3,j4,j5,j6⟩:=a7 _ _ J'
    exact⟨2-(q+1),om,q+1,_,_,_,aB rfl,om,j1,j2,j3,j4,j5,j6,rfl⟩
   ·have hg: ¬(fR n s 0).length<(fR n (jJ s n x) 0).length:=om
    have em:m= []:=by
     unfold clF at hm;rw[bI hg] at hm;exact List.append_right_eq_self.1 hm.symm
    simp(disch:=omega)only[go_sem]
    rw[eJ q]
    have J':CJ b W h h7 n y ρ L t p (l++m) (jJ s n x):=by
     rw[hm] at u;exact⟨⟨W',F6,Z,R7,b4,by rw[em,vF];exact P,bl,hW⟩,fx.trans a5 hW,u,sub.trans K⟩
    obtain⟨j1,j2,j3,j4,j5,j6⟩:=a7 _ _ J'
    exact⟨2-(q+1),om,q+1,_,_,_,aB rfl,om,j1,j2,j3,j4,j5,j6,rfl⟩
  rintro r h3 ⟨p,l,s,⟨g,rfl⟩,J,o,O,hQ⟩
  have lb:=J.cls.bound
  simp(disch:=omega)only[go_sem]
  rw[eJ k]
  exact⟨i+1-(k+1),om,k+1,p,l,s,aB rfl,om,J,o,O,hQ,rfl⟩
 clear J hi O lb a1 w Y o p l s g
 rintro r h2 ⟨p,l,s,⟨g,rfl⟩,J,o,O⟩
 have lb:=J.cls.bound
 simp(disch:=omega)only[go_sem]
 rw[eJ i]
 exact⟨1000000-(i+1),om,i+1,p,l,s,aB rfl,J,om,O,rfl⟩
theorem Mk (t:rL)(i k:Nat):(Cs t i k).length<=k:=by
 unfold Cs;have:=List.length_filter_le (λp=>p==i||(t i p).isSome) (List.range k);rwa [NM] at this
theorem Xk (b:Nat)(W:Nat->Prop)(h:H)(n:Nat)(G:V)(ρ:Nat->Nat)(F:Nat->Nat->V)(t:rL)(i:Nat)(hn:n<=64)(h0:0<n)(hi:i<n)(R:Ia b W h n G ρ F t)(O:oK n t):
  Ev T 132 [G,aC i] h (λv h'=>cY h' v 1 (ints (zi (Cs t i n))) h.next/\Fr h h'):=by
 refine cV rV rfl ?_
 have u:=R.open.1
 simp(disch:=omega)only[go_sem,rV,aD]
 refine aH (λU c N=> ∃(p:Nat) (q:V),(∃g:Nat->V,c= [G,aC i,g 2,q,aC p,g 5,g 6])/\i<=p/\p<=n/\cY N q 1 (ints (zi (Cs t i p))) h.next/\Fr h N/\U=n-p) (n-i)
  ⟨i,.aE,aB rfl,fM _,om,by rw[BC O];exact cY.aE _ _ _,Fr.refl h,rfl⟩ ?_
 rintro U c j ⟨p,q,⟨g,rfl⟩,a1,Z,A,f,rfl⟩
 by_cases o:(p:Int)<(n:Int)
 case neg=>
  have s:=bH o;obtain rfl:p=n:=om
  simp(disch:=omega)only[go_sem,u,s];exact⟨A,f⟩
 have s:=bP o
 have l:p<n:=om
 have Y:=R.mono f
 obtain⟨_,a0,Q,r,B⟩:=Y.open
 have J:=B i hi
 have x:=Y.cell hi l
 have w:=R.ent i p hi l
 have ll:=Mk t i p
 have K:=JM (t:=t) i p
 have step:(p=i∨(t i p).isSome)-> ∃d,xQ (j.new (.cells false (ints [(p:Int)]))) 1 8 q (.sl j.next 0 1 (.kn 1))=some (.sl (j.next+1) 0 ((Cs t i p).length+1) (.un 1),d)/\cY d (.sl (j.next+1) 0 ((Cs t i p).length+1) (.un 1)) 1 (ints (zi (Cs t i (p+1)))) h.next/\Fr h d:=λhc=>by
  obtain⟨d,e,a,k,n4,_⟩:=Hi (v:= aC p) A f (by rw[aP,aQ];omega) (bytes:=8) om;rw[aP,aQ] at e a;refine⟨d,e,?_,k⟩;rw[K,bF hc,We,uT];exact a
 by_cases m:p=i
 ·have z:decide ((p:Int)=(i:Int))=true:=bP om
  obtain⟨d,e,a,k⟩:=step (.inl m)
  simp(disch:=omega)only[go_sem,u,s,z,Us,e]
  rw[eJ p]
  exact⟨n-(p+1),om,p+1,_,aB rfl,om,om,a,k,rfl⟩
 have z:decide ((p:Int)=(i:Int))=false:=bH om
 cases hto:t i p with
 |none=>
  rw[hto] at w;rw[w.nil] at x;simp(disch:=omega)only[go_sem,u,s,z,r.ixa,J,x];rw[eJ p];refine⟨n-(p+1),om,p+1,q,aB rfl,om,om,?_,f.bA om,rfl⟩;rw[K,bI (by rw[hto];simp [m]),vF];exact A.fr ((Fr.refl j).bA om)
 |some y=>
  rw[hto] at w;have P:PV W h (F i p) y:=w;have L:=Hv P (bE.ne h0 (O.cU _ _ _ hto)) true;generalize F i p=vz at x P L;obtain⟨d,e,a,k⟩:=step (.inr (by rw[hto];rfl));simp(disch:=omega)only[go_sem,u,s,z,r.ixa,J,x,L,Us,e];rw[eJ p];exact⟨n-(p+1),om,p+1,_,aB rfl,om,om,a,k,rfl⟩
theorem SL.aiF {h h':H}{v:V}{l:List Int}(c:SL h l v h')(g:0<l.length):zD h h' v l:=by
 obtain⟨_,f,e⟩:=c;obtain⟨id,rfl,d,a,b⟩:=e g;exact⟨⟨id,_,rfl,d,a,b,.inl rfl⟩,f⟩
theorem JJ (b:Nat)(W:Nat->Prop)(h:H)(n:Nat)(tv:V)(ρ:Nat->Nat)(F:Nat->Nat->V)(t:rL)(d p:Nat)(x:List Nat)(hn:n<=64)(h0:0<n)(Q:d<n)(hp:p<n)(R:Ia b W h n tv ρ F t)(TI:oK n t)(tw:pI n 0 (kX n t))(b0:(kX n t d).to p=some x):
  Ev T 133 [tv,aC d,aC p] h (λv h'=>zD h h' v (zi (Kb (kX n t) (n-(d+1)) (d+1) x))):=by
 have X:=(uN TI Q b0).1
 refine cV rU rfl ?_
 obtain⟨lv,c9,c0,c6,c7⟩:=R.open
 simp(disch:=omega)only[go_sem,rU,aD,lv]
 refine (aaW n h om).mono ?_
 rintro v1 h1 ⟨s1,f1,l1⟩
 simp(disch:=omega)only[go_sem]
 have b2: ∀id,W id->id<h.next:=R.Nw
 refine jT (λvs z=> ∃vx,(∃g:Nat->V,vs= [tv,aC d,aC p,g 3,vx,g 5,g 6,g 7,g 8,g 9,g 10,g 11,g 12,g 13])/\PV W z vx x/\Fr h z) ?_ ?_
 ·have r:(if p=d then some (bL n) else t d p)=some x:=b0
  refine aW (λb6=>?_) (λb6=>?_)
  ·have A:p≠d:=om
   rw[bI A] at r
   have R1:=R.mono f1
   obtain⟨_,a3,J,Z,B⟩:=R1.open
   have cr:=B d Q
   have ce:=R1.cell Q hp
   have hS:=R1.ent d p Q hp
   rw[r] at hS
   have pz:PV W h1 (F d p) x:=hS
   generalize F d p=vz at ce pz
   simp(disch:=omega)only[go_sem,Z.ixa,cr,ce]
   exact .inl ⟨vz,aB rfl,pz,f1⟩
  ·have A:p=d:=om
   rw[bF A] at r
   obtain rfl:bL n=x:=Option.some.inj r
   simp(disch:=omega)only[go_sem]
   exact .inl ⟨v1,aB rfl,PV.fresh s1 l1 b2,f1⟩
 clear s1 f1 l1 v1 h1
 rintro i h1 ⟨vx,⟨g,rfl⟩,px,f1⟩
 simp(disch:=omega)only[go_sem]
 rw[eJ d]
 refine bJ (λvs z=> ∃s,(∃g:Nat->V,vs= [tv,g 1,g 2,g 3,s,g 5,g 6,g 7,g 8,g 9,g 10,g 11,g 12,g 13])/\PV W z s (Kb (kX n t) (n-(d+1)) (d+1) x)/\bE n (Kb (kX n t) (n-(d+1)) (d+1) x)/\Fr h z) ?_ ?_
 ·refine aH (λk' i z=> ∃(k:Nat) (y:List Nat) (s:V),(∃g:Nat->V,i= [tv,g 1,g 2,g 3,s,aC k,g 6,g 7,g 8,g 9,g 10,g 11,g 12,g 13])/\d<k/\k<=n/\Kb (kX n t) (n-k) k y=Kb (kX n t) (n-(d+1)) (d+1) x/\
    PV W z s y/\bE n y/\Fr h z/\k'=n-k) (n-(d+1))
   ⟨d+1,x,vx,aB rfl,om,om,rfl,px,X,f1,rfl⟩ ?_
  clear px f1 vx h1 g
  rintro k' i h2 ⟨k,y,s,⟨g,rfl⟩,c8,d0,w,hy,Y,f,rfl⟩
  by_cases a9:(k:Int)<(n:Int)
  case neg=>
   have e1:=bH a9;obtain rfl:k=n:=om
   rw[Nat.sub_self] at w;simp(disch:=omega)only[go_sem,lv,e1];have a5:y=Kb (kX k t) (k-(d+1)) (d+1) x:=w;exact⟨s,aB rfl,by rw[←a5];exact hy,by rw[←a5];exact Y,f⟩
  have l:k<n:=om
  have e1:=bP a9
  have R2:=R.mono f
  simp(disch:=omega)only[go_sem,lv,e1]
  refine (Xk b W h2 n tv ρ F t k hn h0 l R2 TI).mono ?_
  rintro vo h3 ⟨oo,f3⟩
  obtain⟨o,ho⟩:=exI ((kX n t k).orb)
  rw[show Cs t k n=o from ho] at oo
  have so:SI h3 vo (zi o):=oo.sv
  have lo:=so.lens
  rw[aQ] at lo
  have jX:=(tw k (iJ _) l).1
  have c4:o.length<=n:=by rw[←ho];exact Mk t k n
  obtain⟨id,b9,sh,a4,hc⟩:=so.open
  rw[aQ] at sh a4 hc
  have a7:=PV.mono hy f3
  obtain⟨a3,J,Z,K,B⟩:=a7.si.open
  rw[aQ,Y.len] at Z K B
  simp(disch:=omega)only[go_sem]
  refine bJ (λvs z=>(∃g:Nat->V,vs= [tv,g 1,g 2,g 3,s,aC k,g 6,aC (oI y k o:Int),g 8,g 9,g 10,g 11,g 12,g 13])/\oI y k o<n/\oI y k o∈k::o/\Fr h3 z) ?_ ?_
  ·refine aH (λm' i z=> ∃(m b:Nat),(∃g:Nat->V,i= [tv,g 1,g 2,g 3,s,aC k,vo,aC b,aC m,g 9,g 10,g 11,g 12,g 13])/\m<=o.length/\b<n/\b∈k::o/\
     oI y b (o.drop m)=oI y k o/\Fr h3 z/\m'=o.length-m) o.length
    ⟨0,k,aB rfl,iJ _,l,Ab ..,rfl,Fr.refl h3,rfl⟩ ?_
   rintro m' i h4 ⟨m,b1,⟨g3,rfl⟩,hm,hb,G,a,N,rfl⟩
   by_cases a0:(m:Int)<(o.length:Int)
   case neg=>
    have e2:=bH a0;have em:m=o.length:=om
    rw[em,List.drop_length] at a;have a:b1=oI y k o:=a;simp(disch:=omega)only[go_sem,lo,e2];exact⟨by rw[←a];exact aB rfl,by rw[←a];exact hb,by rw[←a];exact G,N⟩
   have e2:=bP a0
   have L:m<o.length:=om
   rw[Rt _ _ L] at a
   have cq:h4.cell id (b9+m)=some (aC (o.getD m 0:Nat)):=by rw[N.cell (a4 om),hc m L];congr 2;simp [zi,L]
   have a2:o.getD m 0∈o:=by rw[cJ L];exact zG L
   have O:=jX.lt l (by rw[ho];exact a2)
   generalize o.getD m 0=q at cq a2 O a
   have c1:h4.cell a3 (J+q)=some (aC (y.getD q 0:Nat)):=by rw[N.cell (K om),B q O];congr 2;simp [zi,Y.len,O]
   have c2:h4.cell a3 (J+b1)=some (aC (y.getD b1 0:Nat)):=by rw[N.cell (K om),B b1 hb];congr 2;simp [zi,Y.len,hb]
   simp(disch:=omega)only[go_sem,lo,e2,sh.ixa,cq,Z.ixa,c1,c2]
   have fb:Fr h3 (H.mk h4.tr (h4.next+12)):=N.bA om
   refine aW (λb7=>?_) (λb7=>?_)
   ·rw[bF om] at a
    simp(disch:=omega)only[go_sem,sh.ixa,cq]
    rw[eJ m]
    exact⟨o.length-(m+1),om,m+1,q,aB rfl,om,O,Cu _ a2,a,fb,rfl⟩
   ·rw[bI om] at a
    simp(disch:=omega)only[go_sem]
    rw[eJ m]
    exact⟨o.length-(m+1),om,m+1,b1,aB rfl,om,hb,G,a,fb,rfl⟩
  rintro i h4 ⟨⟨g4,rfl⟩,hb,G,N⟩
  have a1:n-k=(n-(k+1))+1:=om
  rw[a1] at w
  have w:Kb (kX n t) (n-(k+1)) (k+1) (if oI y k (kX n t k).orb=k then y else aX (((kX n t k).to (oI y k (kX n t k).orb)).getD []) y)=Kb (kX n t) (n-(d+1)) (d+1) x:=w
  rw[ho] at w
  have R4:=R2.mono (f3.trans N)
  have a6:=PV.mono a7 N
  generalize oI y k o=q at w hb G
  by_cases P:q=k
  ·rw[bF P] at w
   have e0:decide ((q:Int)≠(k:Int))=false:=bH om
   simp(disch:=omega)only[go_sem,e0]
   rw[eJ k]
   exact⟨n-(k+1),om,k+1,y,s,aB rfl,om,om,w,a6,Y,(f.trans f3).trans N,rfl⟩
  rw[bI P] at w
  have e0:decide ((q:Int)≠(k:Int))=true:=bP om
  have b3:q∈(kX n t k).orb:=by
   rcases zH.1 G with e|e
   ·exact absurd e P
   ·rw[ho];exact e
  obtain⟨u,hu⟩:=jX.to b3
  have U:=jX.cU _ _ hu
  have a8:(if q=k then some (bL n) else t k q)=some u:=hu
  rw[bI P] at a8
  obtain⟨_,c5,c3,b5,b4⟩:=R4.open
  have cr:=b4 k l
  have ce:=R4.cell l hb
  have hS:=R4.ent k q l hb
  rw[a8] at hS
  have pu:PV W h4 (F k q) u:=hS
  generalize F k q=vu at ce pu
  rw[hu] at w
  simp(disch:=omega)only[go_sem,e0,b5.ixa,cr,ce]
  refine (Lj vu s u y h4 (by rw[U.len];omega) pu.si a6.si (λj hj=>by rw[Y.len];exact U.iN (by rw[←U.len];exact hj))).mono ?_
  rintro v h5 ⟨s5,f5,l5⟩
  simp(disch:=omega)only[go_sem]
  rw[eJ k]
  exact⟨n-(k+1),om,k+1,_,v,aB rfl,om,om,w,PV.fresh s5 l5 R4.Nw,U.mul Y,((f.trans f3).trans N).trans f5,rfl⟩
 rintro i h2 ⟨s,⟨g2,rfl⟩,py,Y,f2⟩
 simp(disch:=omega)only[go_sem]
 refine (afK s _ h2 py.si (by rw[aQ,Y.len];omega)).mono ?_
 rintro v h3 c
 have fr:=SL.aiF c (by rw[aQ,Y.len];exact h0)
 simp(disch:=omega)only[go_sem]
 obtain⟨⟨id,b8,e1,e2,e3,e4,e5⟩,f3⟩:=fr
 exact⟨⟨id,b8,e1,by have:=f2.next;omega,e3,e4,e5⟩,f2.trans f3⟩
theorem MD (b:Nat)(W0:Nat->Prop)(h:H)(n:Nat)(tv:V)(ρ:Nat->Nat)(F:Nat->Nat->V)(t:rL)(hn:n<=64)(h0:0<n)(R:Ia b W0 h n tv ρ F t)(TI:oK n t)(tw:pI n 0 (kX n t)):
  Ev T 89 [tv] h (λv h'=> ∃O R',NL (λid=>id<h.next) h' v n O R'/\bC n (S n (kX n t) 0) O R'/\Fr h h'):=by
 refine cV sF rfl ?_
 have lv:=R.open.1
 obtain⟨τ,a5⟩:=exI (kX n t)
 obtain⟨B,hB⟩:=exI h.next
 have bl:rO [aC 0,.aE,.aE] [(0,1,aC n)]=some (.agg [aC n,.aE,.aE]):=by
  have e1:putAt [aC 0,.aE,.aE] 0 [aC n]=some [aC n,.aE,.aE]:=by simp [putAt]
  simp [rO,iS,e1,V.cells,V.one]
 obtain⟨U,a1⟩: ∃U,U=(h.new (.cells false [aC 0,.aE,.aE])).new (.cells false [aC 0,.aE,.aE]):=⟨_,rfl⟩
 have n1:U.next=B+2:=by rw[a1,H.aU,H.aU,hB]
 have g1:U.get (B+1)=aZ [aC 0,.aE,.aE]:=by
  rw[a1];have:=H.aL (h.new (.cells false [aC 0,.aE,.aE])) (.cells false [aC 0,.aE,.aE]);rwa [H.aU,hB] at this
 have g0:U.get B=aZ [aC 0,.aE,.aE]:=by rw[a1,H.bG _ (by rw[H.aU,hB];omega),←hB,H.aL]
 have f1:Fr h U:=by rw[a1];exact ((Fr.refl h).new _).new _
 simp(disch:=omega)only[go_sem,sF,aD,hB,lv,bl]
 rw[←a1]
 simp(disch:=omega)only[go_sem,bW U (B+1) 0 (v:= aC n) (u:= .aE) (w:= .aE) rfl rfl rfl,g1,cF]
 obtain⟨l,a2⟩: ∃l,l=U.set (B+1) (aZ [aC n,.aE,.aE]):=⟨_,rfl⟩
 have n2:l.next=B+2:=by rw[a2];exact n1
 have f2:Fr h l:=by rw[a2];exact f1.set om _
 have g2:l.get (B+1)=aZ [aC n,.aE,.aE]:=by rw[a2,H.aS]
 have d1:l.get B=aZ [aC 0,.aE,.aE]:=by rw[a2,H.aG _ om];exact g0
 rw[←a2]
 clear a1 a2 f1 g0 g1 n1 U
 refine aH (λk' a0 G=> ∃(i:Nat) (W:Nat->Prop) (O:LN) (R':jI) (vO K:V) (c6 b6:List V),(∃g:Nat->V,a0= [tv,.ptr B 0,.ptr (B+1) 0,aC i,g 4,g 5,g 6,g 7,g 8])/\i<=n/\Ae h G (B+1) B W n O R' vO K c6 b6/\
   G.get B=aZ [aC 0,.aE,.aE]/\O.length=i/\R'.length=i/\(∀j,j<i->ChL τ n j (O.getD j []) (R'.getD j []))/\k'=n-i) n
  ⟨0,_, [], [],_,_,_,_,aB rfl,iJ _,Ae.start om om om om om f2 g2,d1,rfl,rfl,λj hj=>om,rfl⟩ ?_
 clear f2 g2 d1 n2 l
 rintro k' a0 l ⟨i,W,O,R',vO,K,c6,b6,⟨g,rfl⟩,hi,A,gB,lO,lR,hC,rfl⟩
 by_cases d0:(i:Int)<(n:Int)
 case neg=>
  have e1:=bH d0;obtain rfl:i=n:=om
  have hr:=aI A.get;have nB:=A.fr.next;simp(disch:=omega)only[go_sem,lv,e1,hr,bW l B 0 (v:= aC i) (u:=vO) (w:=K) rfl (SV.cK A.oO.sv).2.1 (SV.cK A.oR.sv).2.1,gB,cF];have f0:=aI (h:=l.set B (aZ [aC i,vO,K])) (H.aS ..);have fB:Fx (· =B) l (l.set B (aZ [aC i,vO,K])):=Fx.set l (W:=(· =B)) rfl _;simp(disch:=omega)only[go_sem,f0]
  obtain⟨h3,c9⟩: ∃h3,h3=l.set B (aZ [aC i,vO,K]):=⟨_,rfl⟩
  rw[←c9] at fB ⊢;have A3:=A.box c9;refine⟨O,R',by rw[←hB];exact A3.chw,?_,A3.fr⟩;rw[a5] at tw ⊢;have X:=tw.chain (O:=O) (R:=R') lO lR (λj hj=>(hC j hj).1) (λj hj=>(hC j hj).2.1) (λj hj=>(hC j hj).2.2.1) (λj hj=>(hC j hj).2.2.2);exact X
 have e1:=bP d0
 have b3:i<n:=om
 have R2:=R.mono A.fr
 have jX:=(tw i (iJ _) b3).1
 rw[a5] at jX
 simp(disch:=omega)only[go_sem,lv,e1]
 refine (Xk b W0 l n tv ρ F t i hn h0 b3 R2 TI).mono ?_
 rintro vo h4 ⟨oo,f4⟩
 obtain⟨q,hq⟩:=exI (Cs t i n)
 have c8:q.Pairwise (· < ·):=by rw[←hq];exact QG i n
 have a6: ∀p,p∈q↔p∈(τ i).orb:=λp=>by rw[←hq,OM,a5]
 have j2:q.length<=n:=by rw[←hq];exact Mk t i n
 have i6:0<q.length:=HJ ((a6 i).2 jX.base)
 rw[hq] at oo
 obtain⟨P,cp,rfl,i7,d3,cP⟩: ∃P cp,vo= .sl P 0 q.length cp/\l.next<=P/\P<h4.next/\ ∀k,k<q.length->h4.cell P k=some (aC (q.getD k 0:Nat)):=by
  rcases oo with ⟨_,e⟩|⟨id,m,g5,i5,e1,e2,e3,e4,e5,e6⟩
  ·have:=congrArg List.length e
   rw[aP,aQ,List.length_nil] at this;omega
  ·rw[aP,aQ,uW] at e2
   subst e2;exact⟨id,g5,e1,e4,e5,λk hk=>by rw[H.aF e6,Dv (by rw[aP,aQ];exact hk),Ip hk]⟩
 have A4:=A.mono f4
 have pq:PV W h4 (.sl P 0 q.length cp) q:=⟨oo.sv,λhw=>by have:=A.wb P hw;omega⟩
 have e8:h4.get B=aZ [aC 0,.aE,.aE]:=by rw[f4.get B (A.wb B A.d)];exact gB
 clear A gB R2 oo
 simp(disch:=omega)only[go_sem]
 refine bJ (λvs G=> ∃(L:V) (r:LN),(∃g:Nat->V,vs= [tv,.ptr B 0,.ptr (B+1) 0,aC i,.sl P 0 q.length cp,L,g 6,g 7,g 8])/\PL W G L r/\ChL τ n i q r/\Fr h4 G) ?_ ?_
 ·refine aH (λk' vs G=> ∃(k:Nat) (L:V) (ws:List V) (r:LN) (W':Nat->Prop),(∃g:Nat->V,vs= [tv,.ptr B 0,.ptr (B+1) 0,aC i,.sl P 0 q.length cp,L,aC k,g 7,g 8])/\k<=q.length/\cY G L 1 ws h4.next/\fW W' G ws r/\Hq W' L/\(∀id,W id->W' id)/\(∀id,W' id->id<G.next/\(W id∨h4.next<=id))/\r.length=k/\
    (∀j,j<k-> ∀y,(τ i).to (q.getD j 0)=some y->r.getD j []=Kb τ (n-(i+1)) (i+1) y)/\Fr h4 G/\k'=q.length-k) q.length
   ⟨0,.aE, [], [],W,aB rfl,iJ _,cY.aE _ _ _,trivial,λ_ _ _ _ e=>(by cases e),λ_ h=>h,λid h=>⟨A4.wb id h,.inl h⟩,rfl,λj hj=>om,Fr.refl _,rfl⟩ ?_
  rintro k' a0 f ⟨k,L,ws,r,W',⟨g,rfl⟩,hk,ow,b9,f3,c2,c5,lr,hr,f5,rfl⟩
  by_cases b5:(k:Int)<(q.length:Int)
  case neg=>
   have e2:=bH b5;obtain rfl:k=q.length:=om
   simp(disch:=omega)only[go_sem,e2];refine⟨L,r,aB rfl,⟨ws,ow.sv,?_,b9.lH (λid _ h=>c2 id h),cY.NN ow⟩,⟨c8,a6,lr,hr⟩,f5⟩
   cases L with
   |sl id b4 m c=>exact λh=>by have:=(ow.in _ _ _ _ rfl).2.1;have:=A4.wb id h;omega
   |_=>trivial
  have e2:=bP b5
  have b7:k<q.length:=om
  obtain⟨p,hp⟩:=exI (q.getD k 0)
  have ck:f.cell P k=some (aC p):=by
   rw[f5.cell d3,cP k b7,hp]
  have c1:p∈(τ i).orb:=(a6 p).1 (by rw[←hp,cJ b7];exact zG b7)
  have i0:=jX.lt b3 c1
  obtain⟨y,hy⟩:=jX.to c1
  have Y:=jX.cU _ _ hy
  have R5:=R.mono (A4.fr.trans f5)
  simp(disch:=omega)only[go_sem,e2,ck]
  refine (JJ b W0 f n tv ρ F t i p y hn h0 b3 i0 R5 TI tw (by rw[a5];exact hy)).mono ?_
  rw[a5]
  rintro v7 Q c4
  have f7:=c4.fr
  have p7:PV W' Q v7 (Kb τ (n-(i+1)) (i+1) y):=c4.pv λid h=>(c5 id h).1
  simp(disch:=omega)only[go_sem,cT Q (z:= .aE) p7.fG.1 p7.fG.2]
  obtain⟨N,J⟩: ∃N,N=Q.new (.cells false [v7]):=⟨_,rfl⟩
  have g8:N.get Q.next=aZ [v7]:=by rw[J,H.aL]
  have n8:N.next=Q.next+1:=by rw[J,H.aU]
  have f8:Fr Q N:=by rw[J];exact (Fr.refl Q).new _
  rw[←J]
  have b0:=f7.trans f8
  have i3:=ow.fr b0
  have i8:=aM.length b9
  obtain⟨h9,a9,p9⟩:=i3.push (bytes:=24) (SV.one om g8 (.kn 1)) (n:=k) (m:=1) om rfl om om om
  simp(disch:=omega)only[go_sem,a9]
  rw[eJ k]
  have n9:=p9.next
  have f9:Fx W' N h9:=p9.fx f3
  have d5:=b0.next
  have d2: ∀id,id<N.next->(W' id∨id=N.next)->W' id:=λid U l=>by
   rcases l with l|l
   ·exact l
   ·omega
  refine⟨q.length-(k+1),om,k+1,_,_,r++ [Kb τ (n-(i+1)) (i+1) y],λid=>W' id∨id=N.next,aB rfl,om,p9.own om rfl (by have:=f5.next;omega),?_,λid b4 m c e=>by cases e;exact .inr rfl,λid h=> .inl (c2 id h),λid h=>?_,by rw[jZ,lr];rfl,λj hj z hz=>?_,?_,rfl⟩
  ·exact (fW.go (fW.go b9 (Fx.of b0) (λ_ _ h=>h)) f9 d2).append (fW.one (PV.go (p7.mono f8) f9 d2))
  ·rcases h with h|h
   ·have:=c5 id h;exact⟨om,this.2⟩
   ·have:=f5.next;exact⟨om,.inr om⟩
  ·by_cases e:j=k
   ·subst e
    rw[hp,hy] at hz
    cases hz
    rw[←lr,kG]
   ·rw[mI om]
    exact hr j om z hz
  ·refine⟨by have:=f5.next;omega,λid b1=>?_⟩
   rw[p9.old id (by have:=f5.next;omega) (λe7 b4 m c e e2=>by have:=(ow.in _ _ _ _ e).2.1;omega),b0.get id (by have:=f5.next;omega)]
   exact f5.get id b1
 rintro a0 f ⟨L,r,⟨g,rfl⟩,pl,g3,f5⟩
 have s:=A4.mono f5
 have i1:=pq.mono f5
 have g9:f.get B=aZ [aC 0,.aE,.aE]:=by rw[f5.get B (A4.wb B A4.d)];exact e8
 have cO:f.cell (B+1) 1=some vO:=by rw[H.aF s.get];rfl
 have cR:f.cell (B+1) 2=some K:=by rw[H.aF s.get];rfl
 obtain⟨ws,b8,d4,i2,d7⟩:=pl
 have pl:PL W f L r:=⟨ws,b8,d4,i2,d7⟩
 have j3:=s.fr.next
 have c7:=s.wb _ s.c
 simp(disch:=omega)only[go_sem,cO,cR,cT _ (z:= .aE) (v:= .sl P 0 q.length cp) rfl rfl]
 obtain⟨h6,b2⟩: ∃h6:H,h6=H.mk ((H.mk f.tr (f.next+3)).new (Ob.cells false [.sl P 0 q.length cp])).tr (f.next+14):=⟨_,rfl⟩
 rw[←b2]
 have g6:h6.get (f.next+3)=aZ [.sl P 0 q.length cp]:=by rw[b2];exact H.aL (H.mk f.tr (f.next+3)) _
 have n6:h6.next=f.next+14:=by rw[b2]
 have o6: ∀k,k≠f.next+3->h6.get k=f.get k:=λk hk=>by rw[b2];exact H.bG (H.mk f.tr (f.next+3)) (by simpa using hk) _
 have f6:Fr f h6:=⟨om,λid b1=>o6 id om⟩
 have j1:=aM.length s.aO
 have i9:=aM.length s.aR
 obtain⟨Q,a7,p7⟩:=(s.oO.fr f6).push (bytes:=24) (SV.one om g6 (.kn 1)) (n:=i) (m:=1) om rfl om om om
 have n7:=p7.next
 have a3: ∀k,k<f.next->dL vO k->Q.get k=f.get k:=λk U l=>by rw[p7.old k om l,o6 k om]
 have g7:Q.cell (B+1) 2=some K:=by unfold H.cell;rw[a3 (B+1) c7 s.pO,s.get];rfl
 have eR:dE K K=true:=s.oR.sv.dE
 have c3:L.cells= [L]/\L.one=true:=⟨(SV.cK b8).1,(SV.cK b8).2.1⟩
 simp(disch:=omega)only[go_sem,a7,g7,eR,cT _ (z:= .aE) c3.1 c3.2]
 obtain⟨N,J⟩: ∃N:H,N=H.mk ((H.mk Q.tr (f.next+8)).new (Ob.cells false [L])).tr Q.next:=⟨_,rfl⟩
 rw[←J]
 have g8:N.get (f.next+8)=aZ [L]:=by rw[J];exact H.aL (H.mk Q.tr (f.next+8)) _
 have n8:N.next=Q.next:=by rw[J]
 have o8: ∀k,k≠f.next+8->N.get k=Q.get k:=λk hk=>by rw[J];exact H.bG (H.mk Q.tr (f.next+8)) (by simpa using hk) _
 have e0:cY N K 1 b6 h.next:=s.oR.mono om λid b4 m c e _ b1=>by
  rw[o8 id om,a3 id b1 (λe7 i4 n' c' e' e2=>s.IQ _ _ _ _ e' _ _ _ _ e e2.symm)]
 obtain⟨h9,a9,p9⟩:=e0.push (bytes:=24) (SV.one om g8 (.kn 1)) (n:=i) (m:=1) om rfl om om om
 have n9:=p9.next
 have d9: ∀k,f.next<=k->dL K k:=λk hk id b4 m c e e2=>by have:=(s.oR.in _ _ _ _ e).1;omega
 have a8: ∀k,k<f.next->dL vO k->dL K k->h9.get k=f.get k:=λk U l h3=>by rw[p9.old k om h3,o8 k om,a3 k U l]
 have e9:h9.get (B+1)=aZ [aC n,vO,K]:=by rw[a8 _ c7 s.pO s.pR];exact s.get
 have d8: ∀(G:H) (x:V),dX (aZ [aC n,vO,K]) G (B+1) 1 [x]=some (G.set (B+1) (aZ [aC n,x,K])):=λG x=>bN (by simp) G _ x
 have g4: ∀(G:H) (x y:V),dX (aZ [aC n,x,K]) G (B+1) 2 [y]=some (G.set (B+1) (aZ [aC n,x,y])):=λG x y=>bN (by simp) G _ y
 simp(disch:=omega)only[go_sem,a9,e9,d8,g4]
 rw[eJ i]
 obtain⟨ha,hb⟩:h6.next=f.next+14/\N.next=f.next+15:=⟨n6,om⟩
 rw[ha,hb]
 obtain⟨a4,Z⟩: ∃a4,a4=(h9.set (B+1) (aZ [aC n,.sl (f.next+14) 0 (i+1) (.un 1),K])).set (B+1) (aZ [aC n,.sl (f.next+14) 0 (i+1) (.un 1),.sl (f.next+15) 0 (i+1) (.un 1)]):=⟨_,rfl⟩
 rw[←Z]
 have c0: ∀k,k≠B+1->a4.get k=h9.get k:=λk hk=>by rw[Z,H.aG _ hk,H.aG _ hk]
 have j0:a4.next=f.next+16:=by rw[Z];show h9.next=_;omega
 have d6:=s.step (v4:= .sl P 0 q.length cp) (v5:=L) (o:=q) (r:=r) (h6:=a4) (a:=f.next+14) (b:=f.next+15) (k1:=i+1) (k2:=i+1) i1 pl om om om om om om om (by rw[Z,H.aS])
  (by rw[c0 _ om,p9.old _ om (d9 _ om),o8 _ om,←ha];exact p7.get) (by rw[c0 _ om,←hb];exact p9.get) (λk U l h3 h4=>by rw[c0 k l];exact a8 k U h3 h4)
 refine⟨n-(i+1),om,i+1,_,_,_,_,_,_,_,aB rfl,om,d6,?_,by rw[jZ,lO];rfl,by rw[jZ,lR];rfl,λj hj=>?_,rfl⟩
 ·rw[a8 B (s.wb B s.d) s.qO s.qR];exact g9
 ·by_cases e:j=i
  ·subst e
   have e1:(O++ [q]).getD j []=q:=by rw[←lO];exact kG
   have e2:(R'++ [r]).getD j []=r:=by rw[←lR];exact kG
   rw[e1,e2]
   exact g3
  ·rw[mI om,mI om]
   exact hC j om
theorem VA (h:H)(n:Nat)(a:n<=100000):Jo h 1 24 [.aE] (aC n) (aC n)=some (.sl h.next 0 n (.kn n),h.new (.cells false (rc n λ_=> .aE))):=by
 have e:cX [V.aE] n=rc n λ_=> .aE:=(Kq (by simp [cX]) λi hi=>by simp [cX,hi,Nat.mod_one]).symm
 rw[tU om (Int.le_refl _) om om,NK,uW,e]
theorem SW (n:Nat)(h:H)(hn:n<=64):Ev T 86 [aC n] h (λv h'=> ∃ρ F,Ia h.next (WB n ρ) h' n v ρ F (λ_ _=>none)/\Fr h h'):=by
 refine cV Dw rfl ?_;simp(disch:=omega)only[go_sem,Dw,aD]
 refine aH (λN k w=> ∃(i:Nat) (t:V) (b:List Nat),(∃g:Nat->V,k= [aC n,g 1,t,aC i,g 4])/\i<=n/\b.length=i/\cY w t 1 (b.map λr=> .sl r 0 n (.kn n)) h.next/\b.Nodup/\
   (∀r∈b,h.next<=r/\r<w.next/\w.get r=some (.cells false (rc n λ_=> .aE))/\dL t r)/\Fr h w/\N=n-i) n
  ⟨0,.aE, [],aB rfl,iJ _,rfl,cY.aE _ _ _,List.nodup_nil,λr l=>absurd l List.not_mem_nil,Fr.refl h,rfl⟩ ?_
 rintro N k G ⟨i,t,b,⟨g,rfl⟩,hi,A,y,nd,l,f,rfl⟩
 by_cases s:(i:Int)<(n:Int)
 case neg=>
  have B:=bH s;obtain rfl:i=n:=om
  simp(disch:=omega)only[go_sem,B];have x: ∀j,j<i->b.getD j 0∈b:=λj d=>bD om
  refine⟨λj=>b.getD j 0,λ_ _=> .aE,⟨?_,?_,λj d=>(l _ (x j d)).2.2.1,λj d=>⟨j,d,rfl⟩,?_,?_,λa c J O e=>?_,λ_ _ _ _=>rfl⟩,f⟩
  ·have Q:(rc i λj=>V.sl (b.getD j 0) 0 i (.kn i))=b.map λr=> .sl r 0 i (.kn i):=Kq (by rw[jV];exact A) λj d=>by
    rw[Ol,dD om,List.getD,dD om];rfl
   rw[Q];exact y.sv
  ·cases t with
   |sl id o m c=>
    rintro⟨j,d,e⟩;exact (l _ (x j d)).2.2.2 _ _ _ _ rfl e
   |_=>trivial
  ·rintro id ⟨j,d,rfl⟩;exact (l _ (x j d)).2.1
  ·rintro id ⟨j,d,rfl⟩;exact (l _ (x j d)).1
  ·have Y:=dD (show a<b.length by omega)
   have ec:=dD (show c<b.length by omega);simp only[List.getD,Y,ec,Option.getD_some] at e;rcases Nat.lt_trichotomy a c with u|u|u
   ·exact absurd e (JX.1 nd a c om om u)
   ·exact u
   ·exact absurd e.symm (JX.1 nd c a om om u)
 have B:=bP s;obtain⟨S,K⟩:=exI G.next;obtain⟨h3,e3,P,W,o3,L⟩:=dF K (rc n λ_=> .aE);have fn:=f.next;obtain⟨h4,U,q,f4,n4,R⟩:=Hi (v:= .sl S 0 n (.kn n)) (y.fr L) (f.trans L) (by rw[jV];omega) (bytes:=24) om;rw[jV,A,P] at U q;simp(disch:=omega)only[go_sem,B,VA G n om,K,e3,cT _ (z:= .aE) (v:= .sl S 0 n (.kn n)) rfl rfl,P,U];rw[eJ i];have p: ∀r∈b,r<S:=λr h=>by have:=(l r h).2.1;omega
 refine⟨n-(i+1),om,i+1,_,b++ [S],aB rfl,om,by rw[jZ,A];rfl,by rw[List.map_append];exact q,List.nodup_append.2 ⟨nd,by simp,λa J c O e=>?_⟩,λr h=>?_,f4,rfl⟩
 ·have:=p a J
  simp at O;omega
 ·rcases pH.1 h with h|h
  ·obtain⟨b1,b2,Z,b4⟩:=l r h
   refine⟨b1,om,by rw[R r om b4,o3 r om];exact Z,λid o m c e=>by cases e;omega⟩
  ·simp at h
   subst h;refine⟨om,om,by rw[R _ om (λid o m c e Q=>by have:=(y.in _ _ _ _ e).1;omega)];exact W,λid o m c e=>by cases e;omega⟩
theorem Bs (W:V)(n:Nat)(l:LN)(h:H)(Y:1<=n)(n7:n<=7)(hl:l.length<=4096)(hv:SP h W l)(hP: ∀g∈l,bE n g):
  Ev T 30 [aC n,W] h (λv h'=> ∃vc O R,v= .tup [vc,aC 0]/\GC (λid=>id<h.next) h' vc n O R (bX n (· ∈l))/\Fr h h'):=by
 refine cV Gq rfl ?_
 obtain⟨B,hB⟩:=exI h.next
 obtain⟨h1,e1,n1,g1,o1,f1⟩:=dF hB [aC 0,.aE,.aE]
 have d1:decide ((n:Int)<1)=false:=bH om
 have d2:decide ((64:Int)<(n:Int))=false:=bH om
 have Q:=hv.lens
 rw[jV] at Q
 have d3:decide ((4096:Int)<(l.length:Int))=false:=bH om
 obtain⟨id,J,ws,sh,d,a4,G,z⟩:=hv.open
 rw[jV] at sh d a4 G
 simp(disch:=omega)only[go_sem,Gq,aD,hB,e1,d1,d2,Q,d3]
 refine bJ (λN r=>(∃g:Nat->V,N= [aC n,W,.ptr B 0,g 3,g 4,g 5,g 6,g 7,g 8,g 9,g 10,g 11,g 12,g 13])/\Fr h1 r) ?_ ?_
 ·refine aH (λZ N r=> ∃(i:Nat),(∃g:Nat->V,N= [aC n,W,.ptr B 0,g 3,aC i,g 5,g 6,g 7,g 8,g 9,g 10,g 11,g 12,g 13])/\i<=l.length/\Fr h1 r/\Z=l.length-i) l.length
   ⟨0,aB rfl,iJ _,Fr.refl h1,rfl⟩ ?_
  rintro Z k j ⟨i,⟨g,rfl⟩,hi,f,rfl⟩
  by_cases o:(i:Int)<(l.length:Int)
  ·have L:=bP o
   have a:i<l.length:=om
   have F2:=f1.trans f
   have ci:j.cell id (J+i)=some (ws.getD i .undef):=by rw[F2.cell (d om),G i a]
   have A:=Ml z a
   have X:bE n (l.getD i []):=hP _ (bD a)
   generalize ws.getD i .undef=vx at ci A
   have lx:=A.lens
   rw[aQ,X.len] at lx
   simp(disch:=omega)only[go_sem,Q,L,sh.ixa,ci]
   refine (Vs vx _ j (by rw[aQ,X.len];omega) (A.mono F2)).mono ?_
   rw[EE X Y om]
   rintro _ h3 ⟨rfl,s⟩
   have a7:h3.cell id (J+i)=some vx:=by rw[s.cell (by have:=d om;have:=F2.next;omega)];exact ci
   simp(disch:=omega)only[go_sem]
   refine aW (λG=>(G rfl).elim) (λ_=>?_)
   simp(disch:=omega)only[go_sem,sh.ixa,a7,lx]
   refine aW (λG=>(G rfl).elim) (λ_=>?_)
   simp(disch:=omega)only[go_sem]
   rw[eJ i]
   exact⟨l.length-(i+1),om,i+1,aB rfl,om,f.trans s,rfl⟩
  have L:=bH o
  simp(disch:=omega)only[go_sem,Q,L]
  exact⟨aB rfl,f⟩
 rintro k j ⟨⟨g,rfl⟩,f⟩
 have F2:=f1.trans f
 have nf:=f.next
 simp(disch:=omega)only[go_sem]
 refine (SW n j om).mono ?_
 rintro P h3 ⟨ρ,F,R,s⟩
 have F3:=F2.trans s
 simp(disch:=omega)only[go_sem]
 have hL: ∀g,g∈l->bE n g:=hP
 refine bJ (λN r=> ∃(y:Nat->Nat->V) (t:rL),(∃g:Nat->V,N= [aC n,W,.ptr B 0,g 3,g 4,g 5,P,g 7,g 8,g 9,g 10,g 11,g 12,g 13])/\Ia j.next (WB n ρ) r n P ρ y t/\Oo n (· ∈l) t/\(∀g∈l,ins t n 0 g=none)/\Fx (WB n ρ) h3 r) ?_ ?_
 ·refine aH (λZ N r=> ∃(i:Nat) (y:Nat->Nat->V) (t:rL),(∃g:Nat->V,N= [aC n,W,.ptr B 0,g 3,g 4,g 5,P,aC i,g 8,g 9,g 10,g 11,g 12,g 13])/\i<=l.length/\Ia j.next (WB n ρ) r n P ρ y t/\Oo n (· ∈l) t/\(∀g∈l.take i,ins t n 0 g=none)/\Fx (WB n ρ) h3 r/\Z=l.length-i) l.length
   ⟨0,F,_,aB rfl,iJ _,R,⟨oK.empty n,λg hg=>by
    obtain⟨_,_,_,_,_,e⟩:=fV.1 hg
    cases e⟩,λg hg=>absurd hg List.not_mem_nil,Fx.refl _ _,rfl⟩ ?_
  rintro Z k U ⟨i,y,t,⟨g,rfl⟩,hi,R4,tl,hn,x,rfl⟩
  by_cases o:(i:Int)<(l.length:Int)
  case neg=>
   have L:=bH o;obtain rfl:i=l.length:=om
   simp(disch:=omega)only[go_sem,Q,L];rw[List.take_length] at hn;exact⟨y,t,aB rfl,R4,tl,hn,x⟩
  have L:=bP o
  have a:i<l.length:=om
  have c: ∀q,WB n ρ q->j.next<=q:=R.low
  have X4:Fr h U:=F2.trans ⟨by have:=s.next;have:=x.next;omega,λq hq=>by rw[x.get q (by have:=s.next;omega) (λhw=>by have:=c q hw;omega)];exact s.get q hq⟩
  have ci:U.cell id (J+i)=some (ws.getD i .undef):=by rw[X4.cell (d om),G i a]
  have A:=Ml z a
  have X:bE n (l.getD i []):=hP _ (bD a)
  generalize ws.getD i .undef=vx at ci A
  simp(disch:=omega)only[go_sem,Q,L,sh.ixa,ci]
  have px:PV (WB n ρ) U vx (l.getD i []):=by
   refine⟨A.mono X4,GL (b:=j.next) A om c⟩
  refine (Rw j.next (WB n ρ) U n P ρ y t vx _ om om R4 px X tl.tab).mono ?_
  rintro _ h5 ⟨F5,rfl,R5,f5⟩
  simp(disch:=omega)only[go_sem]
  rw[eJ i]
  obtain⟨p,m,K⟩:=tl.ins hL (x:=l.getD i []) (bX.of hL (bD a))
  refine⟨l.length-(i+1),om,i+1,F5,_,aB rfl,om,R5,p,λu hu=>?_,x.trans f5 (λ_ _ h=>h),rfl⟩
  rcases (Ds a).1 hu with hu|rfl
  ·exact Fg m _ _ _ (hn u hu)
  ·exact K
 clear g
 rintro k U ⟨y,t,⟨g,rfl⟩,R4,tl,hn,x⟩
 have x3:=x.next
 have n3:=s.next
 simp(disch:=omega)only[go_sem]
 refine (RJ j.next (WB n ρ) U n P ρ y t (· ∈l) n7 Y om R4 hL tl).mono ?_
 rintro _ h5 ⟨W5,F5,t5,R5,p,m,a0,x5,b0⟩
 have n5:=x5.next
 have tw:=EM p.tab a0
 simp(disch:=omega)only[go_sem]
 refine (MD j.next W5 h5 n P ρ F5 t5 om Y R5 p.tab tw).mono ?_
 rintro vc h6 ⟨O,R',ch,a5,f6⟩
 have n6:=f6.next
 have c: ∀q,WB n ρ q->j.next<=q:=R.low
 have a3:Fr j h5:=⟨om,λq hq=>by
  rw[x5.get q om (λhw=>by have:=c q hw;omega),x.get q om (λhw=>by have:=c q hw;omega)]
  exact s.get q hq⟩
 have F6:=(F2.trans a3).trans f6
 have a8:=a3.trans f6
 have g6:h6.get B=some (.cells false [aC 0,.aE,.aE]):=by rw[a8.get B om,f.get B om];exact g1
 have a6:=ch
 obtain⟨vO,vR,b1,a9,e,t1,_,_,t2,_,_⟩:=ch
 subst e
 have a1:=t1.cK.2.1
 have a2:=t2.cK.2.1
 obtain⟨h7,e7,b2,g7,o7⟩:=pJ h6 B [aC n,vO,vR]
 have r7:=aI g7
 simp(disch:=omega)only[go_sem,bW h6 B 0 (v:= aC n) (u:=vO) (w:=vR) rfl a1 a2,g6,cF,e7,r7]
 have f7:Fx (λid=>id<h5.next) h6 h7:=⟨om,λid _ d=>o7 id om⟩
 refine⟨_,O,R',rfl,⟨a6.go f7 (λid _ h=>om),a5.congr (p.group hL Y a0 λg hg=>Fg m _ _ _ (hn g hg)),bX.dN hP,Y,n7⟩,⟨by have:=F6.next;omega,λid d=>by rw[o7 id om];exact F6.get id d⟩⟩
section
variable {h:H} {v:V} {n:Nat} {l:List Nat}
structure Mp (h:H)(v:V)(n id:Nat)(l:List Nat):Prop where
 ex: ∃cap rest,v= .sl id 0 n cap/\id<h.next/\h.get id=aZ (ints (zi l)++rest)
 cU:bE n l
theorem Mp.of {b:Nat}(k:0<n)(X:bE n l)(o:cY h v 1 (ints (zi l)) b): ∃id,Mp h v n id l/\b<=id:=by
 rcases o with ⟨_,e⟩|⟨id,m,c,a,rfl,d,j,g,f,i⟩
 ·have:=congrArg List.length e
  rw[aP,aQ,List.length_nil,X.len] at this;omega
 ·rw[aP,aQ,uW,X.len] at d
  subst d;exact⟨id,⟨⟨c,a,rfl,f,i⟩,X⟩,g⟩
theorem Mp.si {id:Nat}(m:Mp h v n id l):SI h v (zi l):=by
 obtain⟨⟨a,b,rfl,c,d⟩,X⟩:=m;refine .inr ⟨id,0,n,a,false,_,rfl,by rw[aP,aQ,X.len,uW],c,d,by rw[jZ,aP,aQ,X.len];omega,?_⟩;rw[List.drop_zero,uW,List.take_left' (by rw[aP,aQ,X.len])]
theorem Mp.mono {h':H}{id:Nat}(m:Mp h v n id l)(g:h.next<=h'.next)(e:h'.get id=h.get id):Mp h' v n id l:=by
 obtain⟨⟨b,a,c,f,d⟩,X⟩:=m;exact⟨⟨b,a,c,om,by rw[e];exact d⟩,X⟩
end
theorem AU.cell {x:Nat}{a c:H}(f:AU x a c){id off:Nat}(b:id<a.next)(h2:id≠x):c.cell id off=a.cell id off:=by unfold H.cell;rw[f.get id b h2]
set_option maxRecDepth 100000
section
variable {n:Nat} {G:List Nat->Prop} {L:LN} {K:List Nat}
theorem Cm.lt (k:Cm n G L K){r:Nat}(a:r∈K):r<L.length:=(kV.1 (k.perm.mem_iff.1 a)).1
theorem Cm.nd (k:Cm n G L K):K.Nodup:=k.perm.nodup_iff.2 (by unfold jW;exact List.nodup_range.filter _)
variable (hG:iX n G) (E:dW G L) (k:Cm n G L K)
include hG E k
end
def acH (n:Nat)(x:List Nat):Nat->Nat->Nat
 |0,k=>k
 |f+1,k=>if pw n x k=bL n then k else acH n x f (k+1)
def JU (n:Nat)(x:List Nat):Nat:=acH n x 420 1
theorem HW {n:Nat}{x:List Nat}(X:bE n x): ∀f k,0<k->k<=qF x n->qF x n<=k+f->acH n x f k=qF x n
 |0,k,_,h1,h2=>by show k=_;omega
 |f+1,k,h0,h1,h2=>by
  unfold acH;split
  ·rename_i e
   exact Nat.le_antisymm h1 (Nat.le_of_dvd h0 ((Hu X k).2 e))
  ·rename_i e
   refine HW X f (k+1) om ?_ om
   by_cases h:k=qF x n
   ·exact absurd ((Hu X k).1 (by rw[h];exact Nat.dvd_refl _)) e
   ·omega
theorem aaQ {n:Nat}{x:List Nat}(X:bE n x)(a:n<=7):qF x n=JU n x:=
 (HW X 420 1 om (Ya X) (by have:=Nat.le_of_dvd om (QC X a);omega)).symm
def cRb (L:LN)(i j:Nat):Bool:=L.any λc=>cW (L.getD i []) c==L.getD j []
def LX (L:LN)(i:Nat):List Nat:=(List.range L.length).filter (cRb L i)
def AF (L:LN):List Nat:=(List.range L.length).filter λj=>(List.range j).all λi=>!cRb L i j
def afN (n:Nat)(L:LN)(r s:Nat):Bool:=decide (JU n (L.getD r [])<JU n (L.getD s [])∨JU n (L.getD r [])=JU n (L.getD s [])/\((LX L r).length<(LX L s).length∨(LX L r).length=(LX L s).length/\r<s))
section
variable {n:Nat} {G:List Nat->Prop} {L:LN} {K:List Nat}
theorem adR (E:dW G L){x y:List Nat}:cj G x y↔(L.any λc=>cW x c==y)=true:=by
 rw[List.any_eq_true];constructor
 ·rintro⟨c,hc,e⟩
  exact⟨c,(E.mem c).2 hc,by simpa using e⟩
 ·rintro⟨c,hc,e⟩
  exact⟨c,(E.mem c).1 hc,by simpa using e⟩
theorem EA (E:dW G L){i j:Nat}:cR G L i j↔cRb L i j=true:=adR E
theorem adN (E:dW G L)(i j:Nat)(d:Decidable (cR G L i j)): @decide (cR G L i j) d=cRb L i j:=by
 rw[Py,Qf];exact EA E
theorem HO (E:dW G L)(i:Nat):kY G L i=LX L i:=by
 unfold kY LX;exact List.filter_congr λj _=>adN E i j _
theorem Za (E:dW G L):jW G L L.length=AF L:=by
 unfold jW AF;refine List.filter_congr λj _=>?_
 classical
 rw[Py,Qf,Kv];unfold HV;constructor
 ·intro h i hi
  have:=h i (Gu.1 hi);rw[EA E] at this;simpa using this
 ·intro h i hi
  have:=h i (Gu.2 hi);rw[EA E];simpa using this
theorem ahP (a:iX n G)(E:dW G L): ∀x∈L,bE n x:=λx b=>a.cU ((E.mem x).1 b)
theorem TX (b:iX n G)(E:dW G L)(a:n<=7){r:Nat}(c:r<L.length):qF (L.getD r []) n=JU n (L.getD r []):=aaQ (ahP b E _ (bD c)) a
theorem abD (a:iX n G)(E:dW G L)(b:n<=7){r s:Nat}(c:r<L.length)(d:s<L.length):kLt n G L r s↔afN n L r s=true:=by
 unfold kLt afN;rw[Qf,TX a E b c,TX a E b d,HO E,HO E]
def KOk (n:Nat)(L:LN)(K:List Nat):Bool:=K.isPerm (AF L)&&decide (K.Pairwise λr s=>afN n L r s=true)
theorem KOk.isK (d:iX n G)(E:dW G L)(e:n<=7)(h:KOk n L K=true):Cm n G L K:=by
 unfold KOk at h;rw[vN,Qf] at h;have p:K.Perm (AF L):=List.isPerm_iff.1 h.1
 have b: ∀r∈K,r<L.length:=λr a=>by
  have:=p.mem_iff.1 a;unfold AF at this;exact Gu.1 (CH.1 this).1
 exact⟨by rw[Za E];exact p,List.Pairwise.imp_of_mem (λa c h=>(abD d E e (b _ a) (b _ c)).2 h) h.2⟩
theorem KOk.eq (c:iX n G)(E:dW G L)(b:n<=7){a:List Nat}(h:KOk n L a=true)(k:Cm n G L K):K=a:=k.uniq (KOk.isK c E b h)
end
def ahR (n:Nat)(S:LN)(w:List Nat):List Nat:=w.foldl (λx i=>aX x (S.getD i [])) (bL n)
theorem AL {n:Nat}{S:LN}: ∀(w:List Nat) (x:List Nat),(∀i∈w,i<S.length)->bX n (· ∈S) x->bX n (· ∈S) (w.foldl (λx i=>aX x (S.getD i [])) x)
 | [],_,_,h=>h
 |i::w,x,hw,h=>AL w _ (λj a=>hw j (by simp [a])) (h.mul (bD (hw i (by simp))))
def Ze (n:Nat)(S L:LN)(ws:LN):Bool:=
 L==ws.map (ahR n S)&&ws.all (λw=>w.all λi=>decide (i<S.length))&&decide (L.Pairwise λx y=>yU x y=true)&&L.all (λx=>x.length==n)&&L.contains (bL n)&&L.all λx=>S.all λg=>L.contains (aX x g)
theorem Ze.Xz {n:Nat}{S L:LN}{ws:LN}(h:Ze n S L ws=true):dW (bX n (· ∈S)) L:=by
 unfold Ze at h;simp only[vN,beq_iff_eq,Kv,Qf,List.contains_iff_mem] at h;obtain⟨⟨⟨⟨⟨g,e⟩,d⟩,b⟩,f⟩,i⟩:=h;refine⟨List.Pairwise.imp_of_mem (λa c h=>(Cb (by rw[b _ a,b _ c])).1 h) d,λx=>⟨λa=>?_,λa=>?_⟩⟩
 ·rw[g] at a
  obtain⟨w,j,rfl⟩:=uF.1 a;exact AL w _ (e w j) .one
 ·induction a with
  |one=>exact f
  |mul _ hg ih=>exact i _ ih _ hg
def A4:LN:= [[1,2,0,3], [0,2,3,1]]
def L3:LN:= [[0,1,2], [0,2,1], [1,0,2], [1,2,0], [2,0,1], [2,1,0]]
theorem SA (h:H)(x y z:Int):lQ h 1 [aC 0] 3 [(0,1,aC x),(1,1,aC y),(2,1,aC z)]=some (.sl h.next 0 3 (.kn 3),h.new (.cells false (ints [x,y,z]))):=by
 have e:cX [aC 0] 3= [aC 0,aC 0,aC 0]:=rfl;simp [lQ,iS,e,putAt,V.cells,V.one,ints]
theorem Ec (h:H)(x y z w:Int):lQ h 1 [aC 0] 4 [(0,1,aC x),(1,1,aC y),(2,1,aC z),(3,1,aC w)]=some (.sl h.next 0 4 (.kn 4),h.new (.cells false (ints [x,y,z,w]))):=by
 have e:cX [aC 0] 4= [aC 0,aC 0,aC 0,aC 0]:=rfl;simp [lQ,iS,e,putAt,V.cells,V.one,ints]
theorem Tm (h:H){v u:V}(a:v.cells= [v]/\v.one=true)(b:u.cells= [u]/\u.one=true):lQ h 1 [.aE] 2 [(0,1,v),(1,1,u)]=some (.sl h.next 0 2 (.kn 2),h.new (.cells false [v,u])):=by
 have e:cX [V.aE] 2= [.aE,.aE]:=rfl;simp [lQ,iS,e,putAt,a.1,a.2,b.1,b.2]
theorem mW (id o m:Nat)(c:lI):(V.sl id o m c).cells= [.sl id o m c]/\(V.sl id o m c).one=true:=⟨rfl,rfl⟩
theorem mkI {h:H}{ID:Nat}(a:h.next=ID)(l:List Int): ∃x,h.new (.cells false (ints l))=x/\x.next=ID+1/\SI x (.sl ID 0 l.length (.kn l.length)) l/\Fr h x:=by
 obtain⟨x,e,n,g,o,f⟩:=dF a (ints l);exact⟨x,e,n,SV.all (by rw[aP,uW]) om g _,f⟩
theorem SP.two {h h':H}{id:Nat}{v u:V}{a b:List Nat}(e:SI h v (zi a))(i:SI h u (zi b))(c:id<h'.next)(f:Fr h h')(g:h'.get id=aZ [v,u])(d:lI):SP h' (.sl id 0 2 d) [a,b]:=
 ⟨[v,u],SV.all rfl c g _,e.mono f,i.mono f,trivial⟩
theorem SP.ahS {h h':H}{id:Nat}{v:V}{a:List Nat}(d:SI h v (zi a))(b:id<h'.next)(f:Fr h h')(g:h'.get id=aZ [v])(c:lI):SP h' (.sl id 0 1 c) [a]:=
 ⟨[v],SV.all rfl b g _,d.mono f,trivial⟩
theorem GC.sl {W:Nat->Prop}{h:H}{b:V}{n:Nat}{O:LN}{R:jI}{G:List Nat->Prop}(g:GC W h b n O R G): ∃vO vR,b= .agg [aC n,vO,vR]/\vO.one=true/\vR.one=true/\dE vO vO=true/\dE vR vR=true:=by
 obtain⟨vO,vR,f,d,e,c,_,_,a,_,_⟩:=g.cw;exact⟨vO,vR,e,c.cK.2.1,a.cK.2.1,c.dE,a.dE⟩
theorem GC.el {W:Nat->Prop}{h:H}{a:V}{n:Nat}{O:LN}{R:jI}{G:List Nat->Prop}{L:LN}(g:GC W h a n O R G)(E:dW G L):cZ O R n 0 (bL n)=L:=(dM g.dN g.isc).1.uniq E
theorem dT {i:Decidable True}: @decide True i=true:=bP trivial
def SB (h:H)(v:V)(l:List Bool):Prop:=SV h v 1 (l.map V.bool)
theorem SB.mono {h h':H}{v:V}{l:List Bool}(s:SB h v l)(f:Fr h h'):SB h' v l:=SV.mono s f
theorem SB.open {h:H}{v:V}{l:List Bool}(s:SB h v l):bT v=some (aC (l.length:Int))/\ ∃id off,Sl v 1 l.length id off/\ ∀i,i<l.length->id<h.next/\h.cell id (off+i)=some (.bool (l.getD i false)):=by
 have d:(l.map V.bool).length=l.length:=jV ..;refine⟨by unfold bT;rw[SV.len s (n:=l.length) om om];rfl,?_⟩;obtain⟨id,off,b,a,c⟩:=SV.shape s l.length om om;exact⟨id,off,b,λi hi=>⟨a om,by rw[c i om,Ol,List.getD,dD hi];rfl⟩⟩
set_option maxRecDepth 100000
theorem GC.all {W:Nat->Prop}{h:H}{a:V}{n:Nat}{O:LN}{R:jI}{G:List Nat->Prop}(g:GC W h a n O R G):dW G (cZ O R n 0 (bL n))/\(cZ O R n 0 (bL n)).length<=5040:=by
 have e:=dM g.dN g.isc;exact⟨e.1,by rw[e.2];exact jH g⟩
section
variable {n:Nat} {G H:List Nat->Prop} {L M:LN} {K K':List Nat} {x:List Nat}
variable (hG:iX n G) (E:dW G L) (k:Cm n G L K) (hH:iX n H) (F:dW H M) (k':Cm n H M K') (X:bE n x) (hx: ∀y,H y↔ ∃g,G g/\cW g x=y)
include hG E k hH F k' X hx
end
def dO (v:V)(id:Nat):Prop:= ∃off m c,v= .sl id off m c
theorem ML (u:V)(ws:List V)(h:H)(l:ws.length<1000000)(d:SV h u 1 ws):
  Ev T 163 [u] h (λv h'=>cY h' v 1 ws h.next/\Fr h h'):=by
 refine cV cG rfl ?_
 have b:Hg false u=some (.bool false)->Wp T none cG.fn.body (Al cG.fn [u]) h (JN cG.fn.results λv h'=>cY h' v 1 ws h.next/\Fr h h'):=λf=>by
  have c:Fr h (h.new (.cells false [])):=(Fr.refl h).new _;have k:cY (h.new (.cells false [])) (.sl h.next 0 0 (.kn 0)) 1 [] h.next:=cY.new h 1 0 _ [] rfl (fM _);obtain⟨q,e,g,A⟩:=k.app (bytes:=24) (by rw[H.aU];omega) (d.mono c) (n:=0) (m:=ws.length) rfl om om om;simp(disch:=omega)only[go_sem,cG,aD,f,g];exact⟨by have:=A.own;rwa [List.nil_append] at this,A.fr _ c (fM _)⟩
 rcases d with ⟨rfl|⟨a,rfl⟩,rfl⟩|⟨id,j,len,i,o,p,rfl,e⟩
 ·simp(disch:=omega)only[go_sem,cG,aD]
  exact⟨cY.aE _ _ _,Fr.refl _⟩
 ·exact b rfl
 ·exact b rfl
theorem agG {n:Nat}{l:LN}{x:List Nat}(b: ∀g∈l,bE n g)(X:bE n x)(y:List Nat):Jn n (bX n (· ∈l)) [x] y↔bX n (· ∈l++ [x]) y:=by
 have a: ∀g∈l++ [x],bE n g:=λg h=>(pH.1 h).elim (b g) λh=>by rw[List.mem_singleton.1 h];exact X
 have d:=bX.dN (L:=(· ∈l)) b;constructor
 ·refine λh=>bX.le (bX.dN a) (λg h=>?_) h
  rcases h with h|h
  ·exact bX.mono (λg h=>pH.2 (.inl h)) h
  ·exact bX.of a (pH.2 (.inr h))
 ·refine λh=>bX.le (Jn.dN d λg h=>by rw[List.mem_singleton.1 h];exact X) (λg h=>?_) h
  have c: ∀g,(bX n (· ∈l) g∨g∈ [x])->bE n g:=λg h=>h.elim (λh=>h.cU b) λh=>by rw[List.mem_singleton.1 h];exact X
  rcases pH.1 h with h|h
  ·exact bX.of c (.inl (bX.of b h))
  ·exact bX.of c (.inr h)
structure ClJ (h hh:H)(D P4 P id C1 C2:Nat)(r:eH)(vby:V)(n:Nat)(l0 B:LN)(i k:Nat)(l:LN):Prop where
 ex: ∃vl ws,hh.get P=aZ [vl]/\cY hh vl 1 ws 0/\fW (λq=>q=D∨q=P∨q=id∨dO vl q) hh ws l/\Qa (λq=>q<h.next∨q=P∨q=id∨dO vl q) hh D n (bX n (· ∈l))/\ ∀q,dO vl q->h.next<=q/\q≠D/\q≠P4/\q≠P/\q≠C1/\q≠C2/\q≠id/\q<hh.next
 g4:hh.get P4=aZ [.ptr D 0]
 c1:hh.get C1=aZ [.ptr P 0]
 c2:hh.get C2=aZ [vby]
 gr:hh.get id=some (.loop r)
 fr:Fr h hh
 nx:id<hh.next
 pre: ∃t,l=l0++t/\t.Nodup/\ ∀g∈t,bE n g
 nc: ∀g∈l,NC n (· ∈l0) (· ∈B) g
 cj: ∀i' k',(i'<i∨i'=i/\k'<k)->i'<l.length->k'<B.length->bX n (· ∈l) (cW (l.getD i' []) (B.getD k' []))
theorem ClJ.fr' {h u h2:H}{D o P id s p:Nat}{r:eH}{m:V}{n:Nat}{t B:LN}{i k:Nat}{l:LN}(j:ClJ h u D o P id s p r m n t B i k l)(G:o<id/\P<id/\s<id/\p<id)(f:Fr u h2):ClJ h h2 D o P id s p r m n t B i k l:=by
 obtain⟨z,v,g,w,pv,F,y⟩:=j.ex;have nx:=j.nx;exact⟨⟨z,v,by rw[f.get P om];exact g,w.fr f,aM.mono (λ_ _ x=>x.fx (Fx.of f)) pv,F.fr f,λq A=>by obtain⟨a,b,c,d,e,g,i,k⟩:=y q A;exact⟨a,b,c,d,e,g,i,iW k f.next⟩⟩,by rw[f.get o om];exact j.g4,by rw[f.get s om];exact j.c1,by rw[f.get p om];exact j.c2,by rw[f.get id om];exact j.gr,j.fr.trans f,iW nx f.next,j.pre,j.nc,j.cj⟩
theorem Fx.wide {W W':Nat->Prop}{h h':H}(f:Fx W h h')(b: ∀q,W q->W' q):Fx W' h h':=⟨f.next,λq a c=>f.get q a λh=>c (b q h)⟩
theorem acE {n:Nat}{l:LN}{x g:List Nat}(h:bX n (· ∈l) g):bX n (· ∈l++ [x]) g:=bX.mono (λ_ h=>pH.2 (.inl h)) h
theorem Zo {l:LN}{x:List Nat}{i:Nat}(hi:i<l.length):(l++ [x]).getD i []=l.getD i []:=by
 rw[WN,WN,Dv hi]
theorem adO {n:Nat}{l:LN}(a: ∀g∈l,bE n g)(x:List Nat):Jn n (λx=>x=bL n) l x↔bX n (· ∈l) x:=
 ⟨λh=>bX.le (bX.dN a) (λg h=>h.elim (λe=>by rw[e];exact .one) λh=>bX.of a h) h,λh=>bX.mono (λg h=> .inr h) h⟩
theorem Vu (n:Nat):iX n (λx=>x=bL n):=⟨λe=>by rw[e];exact bE.one n,rfl,λa b=>by rw[a,b,eP (bE.one n)],λa=>by rw[a,oJ]⟩
theorem Qx (vl J:V)(n:Nat)(l0 B:LN)(h:H)(n0:1<=n)(n7:n<=7)(a8: ∀g∈l0,bE n g)(c3: ∀b∈B,bE n b)(l8:l0.length<100000)(Bl:B.length<1000000)(sl:SP h vl l0)(sB:SP h J B):
  Ev T 124 [aC n,vl,J] h (λv h'=> ∃D,v= .ptr D 0/\h.next<=D/\Qa (λq=>q<h.next) h' D n (NC n (· ∈l0) (· ∈B))/\Fr h h'):=by
 refine cV vV rfl ?_
 have hM:n^n<=823543:=by
  have: ∀k,k<=7->k^k<=823543:=by decide
  exact this n n7
 simp(disch:=omega)only[go_sem,vV,aD]
 refine (VZ n h n0 n7).mono ?_
 rintro _ A ⟨D,rfl,hD,b1,f1⟩
 obtain⟨ws,sv,al⟩:=sl
 have lw:=aM.length al
 rw[jV] at lw
 have c9:SV h vl 1 ws:=sv
 have ins:=SV.in c9
 have nD:=b1.nx
 have d3: ∀h',Fr h h'->SV h' vl 1 ws/\Mq (· =D) vl/\fW (· =D) h' ws l0:=λh' f=>by
  refine⟨c9.mono f,?_,aM.mQ lw λi hi hj=>?_⟩
  ·cases vl with
   |sl id K m c=>exact λe=>by have:=ins _ _ _ _ rfl;omega
   |_=>trivial
  ·have s:=aM.get al i hi (by rw[jV];exact hj)
   rw[List.getElem_map] at s;refine⟨s.mono f,?_⟩;generalize ws[i]=v at s;have i2:=SV.in s
   cases v with
   |sl id K m c=>exact λe=>by have:=i2 _ _ _ _ rfl;omega
   |_=>trivial
 obtain⟨s1,i0,p1⟩:=d3 A f1
 simp(disch:=omega)only[go_sem]
 refine (Wv (W:=λq=>q<h.next) D vl ws n _ l0 A n0 n7 (Vu n) a8 om (λq h=>iW h f1.next) b1 s1 i0 p1).mono ?_
 rintro _ d ⟨rfl,b2,f2⟩
 have k7:=f1.next
 have l9:=f2.next
 have j9:Fr h d:=⟨om,λq N=>by rw[f2.get q om (by show q≠D;omega)];exact f1.get q N⟩
 obtain⟨P4,d6⟩:=exI d.next
 obtain⟨h3,e3,n3,g3,o3,f3⟩:=dF d6 [.nilp]
 obtain⟨h4,e4,n4,g4,o4⟩:=pJ h3 P4 [.ptr D 0]
 have e0:Fr d h4:=⟨om,λq N=>by rw[o4 q om,o3 q om]⟩
 have pt: ∀(G:H) (id:Nat) (u w:V),dX (some (.cells false [u])) G id 0 [w]=some (G.set id (some (.cells false [w]))):=λG id u w=>bN (by simp) G _ _
 simp(disch:=omega)only[go_sem,d6,e3,lG (show (V.ptr D 0).cells= [V.ptr D 0] from rfl) rfl,g3,pt,e4]
 have e5:=j9.trans e0
 refine (ML vl ws h4 om (c9.mono e5)).mono ?_
 rintro vk h5 ⟨c0,f5⟩
 have k0:=f5.next
 obtain⟨P,hP⟩:=exI h5.next
 obtain⟨h6,e6,n6,g6,o6,f6⟩:=dF hP [.aE]
 obtain⟨h7,e7,k5,g7,o7⟩:=pJ h6 P [vk]
 have b8:Fr h5 h7:=⟨om,λq N=>by rw[o7 q om,o6 q om]⟩
 have wk:=SV.cK c0.sv
 simp(disch:=omega)only[go_sem,hP,e6,lG wk.1 wk.2.1,g6,pt,e7]
 have f0:Fr h h7:=e5.trans (f5.trans b8)
 have wB:=SV.cK (show SV h J 1 _ from sB.choose_spec.1)
 obtain⟨h8,e8,n8,g8,o8,f8⟩:=dF (h:=h7) rfl [.ptr P 0]
 obtain⟨h9,e9,n9,g9,o9,f9⟩:=dF n8 [J]
 refine Ev.mono (Q:=λv h'=>v= .fn 206 [] [.ptr h7.next 0,.ptr (h7.next+1) 0]/\h9=h') ?_ ?_
 ·refine cV rE rfl ?_
  simp(disch:=omega)only[go_sem,rE,aD,mF (x:= .ptr P 0) rfl rfl h7,e8,mF wB.1 wB.2.1 h8,n8,e9]
 rintro _ _ ⟨rfl,rfl⟩
 simp(disch:=omega)only[go_sem]
 obtain⟨C1,g5⟩:=exI h7.next
 obtain⟨C2,j5⟩:=exI (C1+1)
 obtain⟨id,c6⟩:=exI h9.next
 rw[g5] at n8 n9 g8 o8 g9 o9 ⊢
 rw[j5] at n8 n9 g9 o9 ⊢
 refine⟨rfl,uJ λr hr=>?_⟩
 rw[c6]
 have iP:r.st= .ready:=by rw[hr]
 have c5:r.pend=none:=by rw[hr]
 have oA: ∀k,k<id->(h9.new (.loop r)).get k=h9.get k:=λk hk=>H.bG h9 om _
 have nA:(h9.new (.loop r)).next=id+1:=by rw[H.aU,c6]
 have hc:P4<id/\P<id/\C1<id/\C2<id:=om
 have d2:Fr h7 h9:=f8.trans f9
 have FA:Fr h7 (h9.new (.loop r)):=d2.new _
 have c8: ∀q,dO vk q->h4.next<=q/\q<P:=λq ⟨K,m,c,e⟩=>by
  have:=c0.in _ _ _ _ e;omega
 have i7: ∀i (hi:i<ws.length) (hj:i<l0.length),PV (λq=>h.next<=q) (h9.new (.loop r)) ws[i] l0[i]:=λi hi hj=>by
  have s:=aM.get al i hi (by rw[jV];exact hj);rw[List.getElem_map] at s;refine⟨s.mono (f0.trans FA),?_⟩;generalize ws[i]=v at s;have i2:=SV.in s
  cases v with
  |sl id K m c=>exact λe=>by have:=i2 _ _ _ _ rfl;have e:h.next<=id:=e;omega
  |_=>trivial
 have J0:ClJ h (h9.new (.loop r)) D P4 P id C1 C2 r J n l0 B 0 0 l0:=by
  refine⟨⟨vk,ws,by rw[oA _ om,o9 _ om,o8 _ om];exact g7,(c0.fr (b8.trans FA)).le (iJ _),aM.mQ lw λi hi hj=>(i7 i hi hj).lH λq _ N=>?_,?_,λq N=>?_⟩,by rw[oA _ om,d2.get _ om,o7 _ om,o6 _ om,f5.get _ om];exact g4,by rw[oA _ om,o9 _ om];exact g8,by rw[oA _ om];exact g9,by rw[←c6,H.aL],f0.trans FA,om,⟨[],(vF _).symm,List.nodup_nil,λ_ h=>by cases h⟩,λg hg=>NC.of hg,λi' k' h=>om⟩
  ·show h.next<=q
   rcases N with rfl|rfl|rfl|N
   ·exact hD
   ·omega
   ·omega
   ·have:=c8 q N;omega
  ·exact ((b2.lH (W':=λq=>q<h.next∨q=P∨q=id∨dO vk q) (λq A d=>by
    rcases d with e|e|e|e
    ·exact e
    ·omega
    ·omega
    ·have:=c8 q e;omega)).fr (e0.trans (f5.trans (b8.trans FA)))).congr λx=>adO a8 x
  ·have:=c8 q N;omega
 have jf: ∀i k l G h',ClJ h G D P4 P id C1 C2 r J n l0 B i k l->Fr G h'->ClJ h h' D P4 P id C1 C2 r J n l0 B i k l:=λi k l G h' j f=>j.fr' hc f
 have b7: ∀i k l G,ClJ h G D P4 P id C1 C2 r J n l0 B i k l-> ∀g∈l,bE n g:=λi k l G j g hg=>by
  obtain⟨t,e,_,tP⟩:=j.pre;rw[e] at hg;exact (pH.1 hg).elim (a8 g) (tP g)
 refine (QD id C1 C2 P J B n (l0.length+n^n) n0 om c3 Bl om _ (λi k l G=>ClJ h G D P4 P id C1 C2 r J n l0 B i k l) l0 J0 ?_ jf ?_ ?_).mono ?_
 ·intro i k l G j
  obtain⟨o,a0,gP,ow,pv,bd,bl⟩:=j.ex
  refine⟨j.c1,j.c2,⟨o,a0,gP,ow.sv,aM.mono (λ_ _ x=>x.si) pv⟩,sB.mono j.fr,?_,b7 _ _ _ _ j⟩
  obtain⟨t,e,tN,tP⟩:=j.pre
  have:=Be tN tP
  rw[e,jZ]
  omega
 ·intro i l G j
  exact⟨j.ex,j.g4,j.c1,j.c2,j.gr,j.fr,j.nx,j.pre,j.nc,λi' k' h A d=>j.cj i' k' om A d⟩
 ·intro i k l ha G w b0 d0 j0 fa pw
  have j:=j0.fr' hc fa
  obtain⟨o,a0,g1,j1,f4,a3,Z⟩:=j0.ex
  have k4:=j0.nx
  have k3:=fa.next
  obtain⟨Wl,a4⟩: ∃Wl:Nat->Prop,Wl=λq=>q<h.next∨q=P∨q=id∨dO o q:=⟨_,rfl⟩
  rw[←a4] at a3
  obtain⟨x,hx⟩:=exI (cW (l.getD i []) (B.getD k []))
  rw[hx] at pw
  have Y:=b7 _ _ _ _ j0
  have X:bE n x:=by rw[←hx];exact qG (Y _ (bD b0)) (c3 _ (bD d0))
  refine sZ j.gr (by rw[hr];rfl) iP λhb gb nb ob=>?_
  rw[congrArg eH.assign hr,congrArg eH.vars hr,congrArg eH.pars hr]
  simp(disch:=omega)only[go_sem,List.zip_cons_cons,List.zip_nil_left]
  rw[congrArg eH.body hr]
  have i8:Fx (· =id) ha hb:=⟨om,λq A d=>by rw[ob q d,fa.get q A]⟩
  have d8:Wl id:=by rw[a4];exact .inr (.inr (.inl rfl))
  have WP:Wl P:=by rw[a4];exact .inr (.inl rfl)
  have b9:Qa Wl hb D n (bX n (· ∈l)):=a3.fx (Fx.wide i8 λq (h:q=id)=>by rw[h];exact d8)
  obtain⟨vO,vR,O,R,gD,gc⟩:=b9.ex
  have h0:=b9.nx
  have c4:SI hb w (zi x):=SV.fx pw.si (W:=(· =id)) (by
   have:=pw.off
   cases w with
   |sl q K m c=>exact λe=>this (by have e:q=id:=e;omega)
   |_=>trivial) ⟨om,λq A d=>ob q d⟩
  have g0:hb.get P4=some (.cells false [.ptr D 0]):=by rw[ob _ om];exact j.g4
  simp(disch:=omega)only[go_sem,H.aF g0]
  refine (FE D w vO vR n O R _ x hb gc h0 gD X c4).mono ?_
  rintro _ hs ⟨bb,rfl,e1,fs⟩
  have k9:=fs.next
  cases bb with
  |true=>
   simp(disch:=omega)only[go_sem];refine oX iP c5 (by rw[fs.get id om];exact gb) ⟨rfl,l,b0,?_⟩
   have F:Fr G (hs.set id (some (.loop r))):=⟨by simp only[H.bY];omega,λq N=>by
    by_cases e:q=id
    ·rw[e,H.aS];exact j.gr.symm
    ·rw[H.aG _ e,fs.get q om,ob q e]⟩
   have j2:=j.fr' hc F;refine⟨j2.ex,j2.g4,j2.c1,j2.c2,j2.gr,j2.fr,j2.nx,j2.pre,j2.nc,λi' k' h A d=>?_⟩
   by_cases e:i'=i/\k'=k
   ·rw[e.1,e.2,hx];exact e1.1 rfl
   ·exact j2.cj i' k' om A d
  |false=>
   have i9: ¬bX n (· ∈l) x:=λh=>by have:=e1.2 h;cases this
   have gl:=bX.dN (L:=(· ∈l)) Y
   have j6: ∀q,Wl q->q<ha.next:=λq h=>by
    rw[a4] at h;rcases h with h|h|h|h
    ·have:=j0.fr.next;omega
    ·omega
    ·omega
    ·exact (Z q h).2.2.2.2.2.2.2
   have wx:=SV.cK c4;have g2:hs.get P4=some (.cells false [.ptr D 0]):=by rw[fs.get _ om];exact g0
   obtain⟨S,hS⟩:=exI hs.next;obtain⟨ht,et,nt,gt,ot,ft⟩:=dF hS [w];have f7:Fr hb ht:=fs.trans ft;simp(disch:=omega)only[go_sem,H.aF g2,cT hs (z:= .aE) wx.1 wx.2.1,hS,et];refine (Wv (W:=Wl) D (.sl S 0 1 (.kn 1)) [w] n _ [x] ht n0 n7 gl (λg hg=>by rw[List.mem_singleton.1 hg];exact X) (by show 1<1000000;decide) (λq h=>by have:=j6 q h;omega) (b9.fr f7) (SV.one om gt (.kn 1)) (λe=>by have e:S=D:=e;omega) ⟨⟨c4.mono f7,?_⟩,trivial⟩).mono ?_
   ·have:=pw.off
    have nD:=a3.nx
    cases w with
    |sl q K m c=>exact λe=>this (by have e:q=D:=e;omega)
    |_=>trivial
   rintro _ U ⟨rfl,bw,fw⟩;have k1:=fw.next
   have b4: ∀q,q<ha.next->q≠id->q≠D->U.get q=ha.get q:=λq A d h3=>by
    rw[fw.get q om h3,ft.get q om,fs.get q om,ob q d,fa.get q A]
   have k6:=a3.nx;have PD:P≠D:=λe=>a3.nW (e▸WP)
   have d4:U.get P=some (.cells false [o]):=by rw[b4 P om om PD];exact g1
   have l1:Fx (λq=>q=id∨q=D) ha U:=⟨om,λq A d=>b4 q A (λe=>d (.inl e)) λe=>d (.inr e)⟩
   have d9:cY U o 1 a0 0:=j1.mono om λq _ _ _ e _ A=>b4 q A (Z q ⟨_,_,_,e⟩).2.2.2.2.2.2.1 (Z q ⟨_,_,_,e⟩).2.1
   have l7:=SV.cK d9.sv;obtain⟨S2,d5⟩:=exI U.next;obtain⟨d7,j8,l6,i6,l5,a9⟩:=dF d5 [w];have l4:=aM.length f4;obtain⟨t,el,tN,tP⟩:=j0.pre;have l3:=Be tN tP;have ll:l.length=l0.length+t.length:=by rw[el,jZ]
   obtain⟨a7,a2,p2⟩:=(d9.fr a9).push (bytes:=24) (SV.one (v:=w) (id:=S2) om i6 (.kn 1)) (n:=a0.length) (m:=1) om rfl om om om;have l2:=p2.next;have ap: ∀q,¬dO o q->dL o q:=λq N k8 K m c e e2=>N ⟨K,m,c,by rw[e2];exact e⟩
   have i5: ¬dO o P:=λh=>(Z P h).2.2.2.1 rfl
   have j7: ¬dO o id:=λh=>(Z id h).2.2.2.2.2.2.1 rfl
   have i3:a7.get P=some (.cells false [o]):=by rw[p2.old P om (ap P i5),a9.get P om];exact d4
   have i4:a7.get id=some (.loop (pW r)):=by rw[p2.old id om (ap id j7),a9.get id om,fw.get id om (λe=>a3.nW (e▸d8)),ft.get id om,fs.get id om];exact gb
   simp(disch:=omega)only[go_sem,H.aF d4,cT U (z:= .aE) wx.1 wx.2.1,d5,j8,a2,i3,pt];refine oX iP c5 (by rw[H.aG _ om];exact i4) ⟨rfl,l++ [x],by rw[jZ];omega,?_⟩;obtain⟨vn,c7⟩:=exI (V.sl d7.next 0 (a0.length+1) (.un 1));rw[c7];obtain⟨hz,a1⟩:=exI ((a7.set P (some (.cells false [vn]))).set id (some (.loop r)));rw[a1];have nz:hz.next=a7.next:=by rw[←a1];rfl
   have oz: ∀q,q<U.next->q≠P->q≠id-> ¬dO o q->hz.get q=U.get q:=λq A d h3 h4=>by
    rw[←a1,H.aG _ h3,H.aG _ d,p2.old q om (ap q h4),a9.get q om]
   have a6: ∀q,q<ha.next->q≠P->q≠id->q≠D-> ¬dO o q->hz.get q=ha.get q:=λq A d h3 h4 h5=>by
    rw[oz q om d h3 h5,b4 q A h3 h4]
   have bn: ∀q,dO vn q->q=d7.next:=λq ⟨K,m,c,e⟩=>by rw[←c7] at e;cases e;rfl
   have nb: ∀q,(q=P4∨q=C1∨q=C2)-> ¬dO o q:=λq N h=>by
    obtain⟨_,_,b3,_,b5,b6,_⟩:=Z q h;rcases N with e|e|e
    ·exact b3 e
    ·exact b5 e
    ·exact b6 e
   have j4:P4≠D:=om
   have Fz:Fx (λq=>q=D∨q=P∨q=id∨dO o q) ha hz:=⟨om,λq A d=>a6 q A (λe=>d (.inr (.inl e))) (λe=>d (.inr (.inr (.inl e)))) (λe=>d (.inl e)) λe=>d (.inr (.inr (.inr e)))⟩
   refine⟨⟨vn,a0++ [w],by rw[←a1,H.aG _ om,H.aS],?_,?_,?_,λq N=>?_⟩,?_,?_,?_,by rw[←a1,H.aS],⟨by have:=j0.fr.next;omega,λq N=>?_⟩,om,⟨t++ [x],by rw[el,Ll],?_,?_⟩,?_,?_⟩
   ·rw[←c7]
    exact (p2.own om rfl (iJ _)).mono om λq K m c e _ _=>by
     cases e;rw[←a1,H.aG _ om,H.aG _ om]
   ·refine aM.append (aM.mono (λv y p=>PV.go p Fz λq A d=>?_) f4) ⟨?_,trivial⟩
    ·rcases d with h|h|h|h
     ·exact .inl h
     ·exact .inr (.inl h)
     ·exact .inr (.inr (.inl h))
     ·have:=bn q h;omega
    ·have j3:Fx (λq=>q<ha.next) G hz:=⟨om,λq A d=>by
      have d: ¬q<ha.next:=d
      rw[oz q om om om (λh=>d (Z q h).2.2.2.2.2.2.2),fw.get q om (by show q≠D;omega),ft.get q om,fs.get q om,ob q om]⟩
     refine PV.go pw j3 λq A d=>?_
     show q<ha.next;rcases d with h|h|h|h
     ·omega
     ·omega
     ·omega
     ·have:=bn q h;omega
   ·refine (bw.go (W':=λq=>q<h.next∨q=P∨q=id∨dO vn q) ⟨om,λq A d=>?_⟩ λq A d=>?_).congr λy=>agG Y X y
    ·rw[a4] at d
     exact oz q A (λe=>d (.inr (.inl e))) (λe=>d (.inr (.inr (.inl e)))) λe=>d (.inr (.inr (.inr e)))
    ·rw[a4]
     rcases d with h|h|h|h
     ·exact .inl h
     ·exact .inr (.inl h)
     ·exact .inr (.inr (.inl h))
     ·have:=bn q h;omega
   ·have:=bn q N
    have:=j0.fr.next;omega
   ·rw[a6 P4 om om om j4 (nb _ (.inl rfl))];exact j0.g4
   ·rw[a6 C1 om om om om (nb _ (.inr (.inl rfl)))];exact j0.c1
   ·rw[a6 C2 om om om om (nb _ (.inr (.inr rfl)))];exact j0.c2
   ·rw[a6 q (by have:=j0.fr.next;omega) om om om (λh=>by have:=(Z q h).1;omega)];exact j0.fr.get q N
   ·refine List.nodup_append.2 ⟨tN,(by simp),λa ha b hb e=>?_⟩
    rw[List.mem_singleton.1 hb] at e;exact i9 (bX.of Y (by rw[el];exact pH.2 (.inr (e▸ha))))
   ·intro g hg
    exact (pH.1 hg).elim (tP g) λh=>by rw[List.mem_singleton.1 h];exact X
   ·intro g hg
    rcases pH.1 hg with h|h
    ·exact j0.nc g h
    ·rw[List.mem_singleton.1 h,←hx]
     exact NC.cj (j0.nc _ (bD b0)) (bD d0)
   ·intro i' k' k2 A d
    by_cases e:i'=i/\k'=k
    ·obtain⟨rfl,rfl⟩:=e
     rw[Zo b0,hx];exact bX.of (λg hg=>(pH.1 hg).elim (Y g) λh=>by rw[List.mem_singleton.1 h];exact X) (pH.2 (.inr (List.mem_singleton.2 rfl)))
    ·have a5:i'<l.length:=om
     rw[Zo a5];exact acE (j0.cj i' k' om a5 d)
 ·rintro _ G ⟨l,j⟩
  refine⟨r,j.gr,by rw[iP];simp,?_⟩
  have en:r.pend.getD .norm= .norm:=by rw[c5];rfl
  rw[en]
  have nx:=j.nx
  obtain⟨o,a0,gP,ow,pv,bd,bl⟩:=j.ex
  have i1:(G.set id (some (.loop {r with st:= .out}))).get P4=some (.cells false [.ptr D 0]):=by rw[H.aG _ om];exact j.g4
  simp(disch:=omega)only[go_sem,H.aF i1]
  have fz:Fx (λq=>q<h.next∨q=P∨q=id∨dO o q) G (G.set id (some (.loop {r with st:= .out}))):=Fx.set (W:=λq=>q<h.next∨q=P∨q=id∨dO o q) _ (.inr (.inr (.inl rfl))) _
  refine⟨D,rfl,hD,?_,j.fr.set om _⟩
  refine ((bd.fx fz).congr λx=>MX c3 a8 (b7 _ _ _ _ j) ?_ j.nc ?_ x).lH ?_
  ·intro g hg
   obtain⟨t,e,_⟩:=j.pre
   rw[e];exact pH.2 (.inl hg)
  ·intro x hx b hb
   obtain⟨i',a5,rfl⟩:=zF.1 hx
   obtain⟨k',d1,rfl⟩:=zF.1 hb
   have:=j.cj i' k' (.inl a5) a5 d1
   rwa [←rN a5,←rN d1] at this
  ·exact λq _ h=> .inl h
theorem GC.one {W:Nat->Prop}{h:H}{b a:V}{d:Int}{n:Nat}{O:LN}{R:jI}{G:List Nat->Prop}(g:GC W h (.agg [aC d,b,a]) n O R G):d=(n:Int)/\b.one=true/\a.one=true:=by
 obtain⟨_,_,_,_,e,f,_,_,c,_,_⟩:=g.cw;cases e;exact⟨rfl,(SV.cK f).2.1,(SV.cK c).2.1⟩
theorem GC.shape {W:Nat->Prop}{h:H}{a:V}{n:Nat}{O:LN}{R:jI}{G:List Nat->Prop}(g:GC W h a n O R G): ∃vO vR,a= .agg [aC n,vO,vR]/\vO.one=true/\vR.one=true:=by
 obtain⟨vO,vR,_,_,e,c,_,_,b,_,_⟩:=g.cw;exact⟨vO,vR,e,(SV.cK c).2.1,(SV.cK b).2.1⟩
theorem QF {W W':Nat->Prop}(s o:V)(n:Nat)(O O':LN)(R R':jI)(G G':List Nat->Prop)(h:H)(t:GC W h s n O R G)(q:GC W' h o n O' R' G'):
  Ev T 121 [s,o] h (λv h'=>v= aC 0/\Fr h h'):=by
 obtain⟨i,j,rfl,A,oR⟩:=t.shape
 obtain⟨d,g,rfl,Q,P⟩:=q.shape
 refine cV zO rfl ?_
 obtain⟨B,m⟩:=exI h.next
 obtain⟨Z,e1,p,y,o1,N⟩:=dF m [aC n,i,j]
 obtain⟨c,e2,n2,L,K,F⟩:=dF p [aC n,d,g]
 have F2:=N.trans F
 have x: ∀b,Fr c b->b.get B=aZ [aC n,i,j]:=λb f=>by rw[f.get B om,K B om];exact y
 have r: ∀b,Fr c b->b.get (B+1)=aZ [aC n,d,g]:=λb f=>by rw[f.get (B+1) om];exact L
 have U:=Fr.refl c
 simp(disch:=omega)only[go_sem,zO,aD,bM h (v:= aC n) (u:=i) (w:=j) rfl A oR,m,e1,bM Z (v:= aC n) (u:=d) (w:=g) rfl Q P,p,e2,aI (x c U)]
 refine ((t.mono F2).check).mono ?_
 rintro _ z ⟨rfl,e⟩
 simp(disch:=omega)only[go_sem]
 refine aW (λk=>(k rfl).elim) (λ_=>?_)
 simp(disch:=omega)only[go_sem,aI (r z e)]
 refine ((q.mono (F2.trans e)).check).mono ?_
 rintro _ l ⟨rfl,J⟩
 have a:=e.trans J
 simp(disch:=omega)only[go_sem]
 refine aW (λk=>(k rfl).elim) (λ_=>?_)
 have Y:decide ((n:Int)≠(n:Int))=false:=bH (λh=>h rfl)
 simp(disch:=omega)only[go_sem,H.aF (x l a),H.aF (r l a),Y]
 exact F2.trans a
def NB (A B:LN):LN:=A.flatMap λp=>B.map (jE p)
theorem GP {A B:LN}{x:List Nat}:x∈NB A B↔ ∃p,p∈A/\ ∃q,q∈B/\x=jE p q:=by
 unfold NB;simp only[List.mem_flatMap,uF];exact⟨λ⟨p,hp,q,hq,e⟩=>⟨p,hp,q,hq,e.symm⟩,λ⟨p,hp,q,hq,e⟩=>⟨p,hp,q,hq,e.symm⟩⟩
theorem Uk (A B:LN):(NB A B).length=A.length*B.length:=by
 induction A with
 |nil=>simp [NB]
 |cons a A ih=>
  unfold NB at ih ⊢;rw[List.flatMap_cons,jZ,ih,jV,List.length_cons,Nat.succ_mul,Nat.add_comm]
def IP (A B:LN)(i k:Nat):LN:=NB (A.take i) B++(B.take k).map (jE (A.getD i []))
theorem QV (A B:LN){i k:Nat}(a:k<B.length):IP A B i (k+1)=IP A B i k++ [jE (A.getD i []) (B.getD k [])]:=by
 unfold IP;rw[fT [] a,List.map_append,←Ll];rfl
theorem XS (A B:LN){i:Nat}(hi:i<A.length):IP A B i B.length=IP A B (i+1) 0:=by
 unfold IP;rw[List.take_length,List.take_zero,List.map_nil,vF,fT [] hi];unfold NB;rw[List.flatMap_append];simp
theorem abO (A B:LN):IP A B A.length 0=NB A B:=by
 unfold IP;rw[List.take_length,List.take_zero,List.map_nil,vF]
theorem abL {A B:LN}{i k:Nat}(hi:i<=A.length)(a:k<=B.length):(IP A B i k).length<=(A.length+1)*B.length:=by
 unfold IP;rw[jZ,Uk,Fj,jV,Fj,Nat.min_eq_left hi,Nat.min_eq_left a,Nat.succ_mul];have:=Nat.mul_le_mul_right B.length hi;omega
section
variable {h:H} {v:V} {ws:List V} {b k n:Nat} {A S Q:LN} {y x:List Nat}
def KD (h:H)(v:V)(ws:List V)(b:Nat):Prop:= ∃id cap rest,v= .sl id 0 ws.length cap/\b<=id/\id<h.next/\h.get id=aZ (ws++rest)/\(cap= .un 1∨cap= .kn 1/\ws.length+rest.length=1)
theorem KD.sv (t:KD h v ws b):SV h v 1 ws:=by
 obtain⟨id,a,c,rfl,f,e,d,_⟩:=t;exact .inr ⟨id,0,_,a,false,_,rfl,(uW _).symm,e,d,by rw[jZ];omega,by rw[List.drop_zero,uW,List.take_left' rfl]⟩
theorem KD.zA {h':H}(t:KD h v ws b)(l:h.next<=h'.next)(f: ∀id,dO v id->h'.get id=h.get id):KD h' v ws b:=by
 obtain⟨id,c,a,e,i,j,d,g⟩:=t;exact⟨id,c,a,e,i,om,by rw[f id ⟨_,_,_,e⟩];exact d,g⟩
theorem KD.in (t:KD h v ws b){id:Nat}(g:dO v id):b<=id/\id<h.next:=by
 obtain⟨i,d,a,rfl,f,c,_⟩:=t;obtain⟨_,_,_,e⟩:=g;cases e;exact⟨f,c⟩
theorem KD.push {y:V}{S:Nat}{c:lI}(t:KD h v ws b)(q:SV h (.sl S 0 1 c) 1 [y])(K:b<=h.next)(N:ws.length<1000000):
  ∃v' h',xQ h 1 24 v (.sl S 0 1 c)=some (v',h')/\KD h' v' (ws++ [y]) b/\(∀k,k<h.next-> ¬dO v k->h'.get k=h.get k)/\h.next<=h'.next/\h'.next<=h.next+1/\ ∀k,dO v' k->dO v k∨k=h.next:=by
 have L:xQ h 1 24 v (.sl S 0 1 c)=Ay.yB h 1 24 v 1 [y]:=by
  simp only[xQ,q.len (n:=1) rfl om,q.slice]
 rw[L]
 have p:=t.sv
 have a:=p.len (n:=ws.length) om om
 have m:=p.slice
 obtain⟨id,f,i,rfl,G,r,o,s⟩:=t
 unfold Ay.yB
 simp only[a,m]
 rw[bI om,bF ⟨om,om⟩]
 have d: ∀g:H,g.next=h.next->(∀k,k<h.next->k≠id->g.get k=h.get k)-> ∃v' h',some (V.sl h.next 0 (ws.length+1) (.un 1),g.new (.cells false (ws++ [y])))=some (v',h')/\KD h' v' (ws++ [y]) b/\(∀k,k<h.next-> ¬dO (.sl id 0 ws.length f) k->h'.get k=h.get k)/\h.next<=h'.next/\h'.next<=h.next+1/\ ∀k,dO v' k->dO (.sl id 0 ws.length f) k∨k=h.next:=by
  intro g J w;refine⟨_,_,rfl,⟨h.next,_, [],by rw[jZ];rfl,K,by rw[H.aU];omega,by rw[←J,H.aL,vF],.inl rfl⟩,λk j l=>?_,by rw[H.aU];omega,by rw[H.aU];omega,λk ⟨_,_,_,e⟩=>by cases e;exact .inr rfl⟩;rw[H.bG g om];exact w k j (λe=>l ⟨_,_,_,by rw[e]⟩)
 rcases s with rfl|⟨rfl,u⟩
 ·simp only[o,if_true]
  exact d (h.set id none) rfl (λk _ j=>H.aG h j none)
 ·simp only
  by_cases e:ws.length+1<=1
  ·rw[bF e]
   have B:ws= []:=WJ om
   subst B
   obtain⟨z,rfl⟩: ∃z,i= [z]:=List.length_eq_one_iff.1 (by simpa using u)
   have F:h.put id (0+([]:List V).length*1) [y]=some (h.set id (aZ [y])):=by
    simp [H.put,o,putAt]
   rw[F]
   refine⟨_,_,rfl,⟨id,_, [],rfl,G,r,by rw[H.aS];rfl,.inr ⟨rfl,rfl⟩⟩,λk j l=>H.aG h (λe=>l ⟨0,0,.kn 1,by rw[e];rfl⟩) _,fM _,Nat.le_succ _,λk ⟨_,_,_,e⟩=>by cases e;exact .inl ⟨_,_,_,rfl⟩⟩
  ·rw[bI e]
   exact d h rfl (λ_ _ _=>rfl)
def DX (A:LN)(k:Nat)(y:List Nat):LN:=A.take k++y::A.drop k
theorem oL {z:List Nat}:z∈DX A k y↔z=y∨z∈A:=by
 unfold DX;rw[pH,zH];constructor
 ·rintro (h|h|h)
  ·exact .inr (List.mem_of_mem_take h)
  ·exact .inl h
  ·exact .inr (List.mem_of_mem_drop h)
 ·rintro (h|h)
  ·exact .inr (.inl h)
  ·rw[←List.take_append_drop k A,pH] at h
   rcases h with h|h
   ·exact .inl h
   ·exact .inr (.inr h)
theorem RY {a b:List Nat}(A:bE n a)(B:bE n b)(r: ¬Lt a b)(h2:a≠b):Lt b a:=by
 have h: ∃i,i<n/\a.getD i 0≠b.getD i 0:=Jg λh=>h2 (yC (by rw[A.len,B.len]) λi hi=>Jg λd=>h ⟨i,by rw[←A.len];exact hi,d⟩)
 obtain⟨i,hi,c⟩:=h
 have s: ∃i,(i<n/\a.getD i 0≠b.getD i 0)/\ ∀j,j<i-> ¬(j<n/\a.getD j 0≠b.getD j 0):=by
  revert hi c
  induction i using Nat.strongRecOn with
  |ind i ih=>
   intro hi c
   by_cases h: ∃j,j<i/\j<n/\a.getD j 0≠b.getD j 0
   ·obtain⟨j,d,e,q⟩:=h
    exact ih j d e q
   ·exact⟨i,⟨hi,c⟩,λj g m=>h ⟨j,g,m⟩⟩
 obtain⟨k,⟨p,l⟩,f⟩:=s;have o: ∀j,j<k->a.getD j 0=b.getD j 0:=λj g=>Jg λd=>f j g ⟨om,d⟩
 rcases Nat.lt_or_gt_of_ne l with e|e
 ·exact (r ⟨k,by rw[A.len];exact p,o,e⟩).elim
 ·exact⟨k,by rw[B.len];exact p,λj g=>(o j g).symm,e⟩
theorem NQ (g: ∀x∈A,bE n x)(Y:bE n y)(f:A.Pairwise Lt)(p:Plc A y k)(o:y∉A):(DX A k y).Pairwise Lt:=by
 unfold DX;rw[List.pairwise_append];have at': ∀{z:List Nat},z∈A.take k-> ∃i,i<k/\i<A.length/\A.getD i []=z:=λh=>(Ox (d:= [])).1 h
 have s: ∀{z:List Nat},z∈A.drop k-> ∃i,k<=i/\i<A.length/\A.getD i []=z:=λh=>by
  obtain⟨q,r,e⟩:=zF.1 h;rw[AQ] at r;rw[List.getElem_drop] at e;exact⟨k+q,om,om,by rw[List.getD,dD om,←e];rfl⟩
 have m: ∀z∈A.take k,Lt z y:=λz a=>by
  obtain⟨i,j,c,rfl⟩:=at' a;exact (Cb (by rw[(g _ (bD c)).len,Y.len])).1 (p.lo i j)
 have hi: ∀z∈A.drop k,Lt y z:=λz a=>by
  obtain⟨i,j,c,rfl⟩:=s a;have Z:=g _ (bD (d:= []) c);refine RY Z Y (λh=>?_) (λe=>o (by rw[←e];exact bD c));have:=p.hi i j c;rw[(Cb (by rw[Z.len,Y.len])).2 h] at this;cases this
 refine⟨f.sublist (List.take_sublist k A),List.pairwise_cons.2 ⟨hi,f.sublist (List.drop_sublist k A)⟩,λz a w l=>?_⟩;rcases zH.1 l with rfl|l
 ·exact m z a
 ·have Z:=g z (List.mem_of_mem_take a)
  exact Lt.trans (by rw[Z.len,Y.len]) (m z a) (hi w l)
structure ElJ (n:Nat)(S A Q:LN):Prop where
 asc:A.Pairwise Lt
 gen: ∀x∈A,bX n (· ∈S) x
 one:bL n∈A
 sub: ∀x∈Q,x∈A
 cl: ∀x∈A,x∉Q-> ∀g∈S,aX x g∈A
theorem ElJ.start (n:Nat)(S:LN):ElJ n S [bL n] [bL n]:=
 ⟨List.pairwise_singleton _ _,λx a=>by simp at a;subst a;exact .one,by simp,λx a=>a,λx a h=>absurd a h⟩
theorem ElJ.done (j:ElJ n S A []):dW (bX n (· ∈S)) A:=by
 refine⟨j.asc,λx=>⟨j.gen x,λh=>?_⟩⟩
 induction h with
 |one=>exact j.one
 |mul _ hg ih=>exact j.cl _ ih List.not_mem_nil _ hg
structure WQ (n:Nat)(S:LN)(x:List Nat)(i:Nat)(A Q:LN):Prop where
 asc:A.Pairwise Lt
 gen: ∀x∈A,bX n (· ∈S) x
 one:bL n∈A
 sub: ∀x∈Q,x∈A
 mem:x∈A
 cl: ∀z∈A,z∉Q->z=x∨ ∀g∈S,aX z g∈A
 dn: ∀j,j<i->aX x (S.getD j [])∈A
theorem WQ.start (j:ElJ n S A (Q++ [x])):WQ n S x 0 A Q:=
 ⟨j.asc,j.gen,j.one,λz a=>j.sub z (by simp [a]),j.sub x (by simp),λz a c=>by
  by_cases e:z=x
  ·exact .inl e
  ·exact .inr (j.cl z a (by simp [c,e])),λj d=>om⟩
theorem WQ.done (j:WQ n S x S.length A Q):ElJ n S A Q:=
 ⟨j.asc,j.gen,j.one,j.sub,λz c d g a=>by
  rcases j.cl z c d with rfl|h
  ·obtain⟨i,hi,e⟩:=zF.1 a
   have:=j.dn i hi;rwa [List.getD,dD hi,Option.getD_some,e] at this
  ·exact h g a⟩
theorem WQ.skip {i:Nat}(j:WQ n S x i A Q)(h:aX x (S.getD i [])∈A):WQ n S x (i+1) A Q:=
 ⟨j.asc,j.gen,j.one,j.sub,j.mem,j.cl,λk a=>by
  by_cases e:k=i
  ·rw[e];exact h
  ·exact j.dn k om⟩
theorem WQ.step {i:Nat}(j:WQ n S x i A Q)(l: ∀g∈S,bE n g)(hi:i<S.length)(h:aX x (S.getD i [])∉A)(p:Plc A (aX x (S.getD i [])) k):WQ n S x (i+1) (DX A k (aX x (S.getD i []))) (Q++ [aX x (S.getD i [])]):=by
 have r:=j.gen x j.mem;have d:bX n (· ∈S) (aX x (S.getD i [])):=r.mul (bD hi);obtain⟨y,f⟩:=exI (aX x (S.getD i []));rw[f] at d h p ⊢;refine⟨NQ (λz a=>(j.gen z a).cU l) (d.cU l) j.asc p h,λz a=>?_,oL.2 (.inr j.one),λz a=>?_,oL.2 (.inr j.mem),λz a c=>?_,λq c=>?_⟩
 ·rcases oL.1 a with rfl|a
  ·exact d
  ·exact j.gen z a
 ·rcases pH.1 a with a|a
  ·exact oL.2 (.inr (j.sub z a))
  ·simp at a;exact oL.2 (.inl a)
 ·rcases oL.1 a with rfl|a
  ·exact absurd (by simp) c
  ·rcases j.cl z a (λh=>c (by simp [h])) with e|m
   ·exact .inl e
   ·exact .inr λg o=>oL.2 (.inr (m g o))
 ·by_cases e:q=i
  ·rw[e,f];exact oL.2 (.inl rfl)
  ·exact oL.2 (.inr (j.dn q om))
theorem fW.DX {W:Nat->Prop}{c:List V}(p:fW W h c A)(q:PV W h v y)(g:k<=A.length):fW W h (c.take k++v::c.drop k) (Go.Proofs.YtcdbmkidaecdiaaGreat.DX A k y):=by
 have f:=aM.length p
 have t: ∀(k:Nat) (c:List V) (A:LN),fW W h c A->fW W h (c.take k) (A.take k)/\fW W h (c.drop k) (A.drop k):=by
  intro k
  induction k with
  |zero=>intro c A p;exact⟨trivial,p⟩
  |succ k ih=>
   intro c A p
   cases c with
   |nil=>cases A with
    |nil=>exact⟨trivial,trivial⟩
    |cons=>exact p.elim
   |cons a c=>cases A with
    |nil=>exact p.elim
    |cons b A=>
     obtain⟨e,d⟩:=ih c A p.2
     exact⟨⟨p.1,e⟩,d⟩
 obtain⟨e,d⟩:=t k c A p;exact e.append ⟨q,d⟩
theorem KD.own (t:KD h v ws b)(l:0<ws.length):cY h v 1 ws b:=by
 obtain⟨id,c,a,rfl,i,g,f,d⟩:=t;refine .inr ⟨id,ws.length,c,a,rfl,(uW _).symm,?_,i,g,f⟩;rcases d with d|⟨rfl,j⟩
 ·exact .inl d
 ·have e:ws.length=1:=om
  exact .inr ⟨by rw[e],WJ om⟩
end
section
variable {n:Nat} {G:List Nat->Prop} {L:LN} {K:List Nat}
variable (hG:iX n G) (E:dW G L) (k:Cm n G L K)
include hG E k
end
section
variable {n:Nat} {G:List Nat->Prop} {L:LN}
variable (hG:iX n G) (E:dW G L)
include hG E
end
set_option maxRecDepth 100000
set_option maxRecDepth 100000
set_option maxRecDepth 100000
def wrC (C:LN)(k s j:Nat):Prop:=(∃q,q<k/\j∈C.getD q [])∨j∈(C.getD k []).take s
open Classical in
noncomputable def NA (C:LN)(x:List Nat)(k s j:Nat):V:=if wrC C k s j then aC (x.getD j 0:Nat) else aC 0
structure FrR (n:Nat)(O:List (List Int))(R:List (List (List Int)))(i k:Nat):Prop where
 row: ∀j,j<i->(O.getD j []).length<=n/\(O.getD j []).length=(R.getD j []).length
 perm: ∀j,j<i-> ∀x∈R.getD j [],x.length=n/\mV x=true
 last: ∀x∈(R.getD i []).take k,x.length=n/\mV x=true
theorem FrR.nat {n:Nat}{O:List (List Int)}{R:List (List (List Int))}(f:FrR n O R n 0)(h:R.length=n): ∃R':jI,R=R'.map (List.map zi)/\ ∀g∈R'.flatten,bE n g:=by
 have a: ∀r∈R,∀x∈r,x.length=n/\mV x=true:=λr c x b=>by
  obtain⟨i,hi,rfl⟩:=zF.1 c;exact f.perm i om x (by rw[List.getD,dD hi];exact b)
 refine⟨R.map (List.map (List.map Int.toNat)),?_,λg d=>?_⟩
 ·rw[List.map_map]
  refine (List.map_id R).symm.trans (Vy λr c=>?_);show r=(r.map (List.map Int.toNat)).map zi;rw[List.map_map];exact (List.map_id r).symm.trans (Vy λx b=>(Iz (a r c x b).2).1)
 ·obtain⟨j,e,d⟩:=List.mem_flatten.1 d
  obtain⟨r,c,rfl⟩:=uF.1 e;obtain⟨x,b,rfl⟩:=uF.1 d;have:=(Iz (a r c x b).2).2;rwa [(a r c x b).1] at this
theorem FrR.next {n:Nat}{O:List (List Int)}{R:List (List (List Int))}{i k:Nat}(f:FrR n O R i k)(d:(R.getD i []).length<=k)(c:(O.getD i []).length<=n)(h2:(O.getD i []).length=(R.getD i []).length):FrR n O R (i+1) 0:=by
 have a:=f.last;rw[Tn d] at a;refine⟨λj g=>?_,λj g=>?_,λx b=>by rw[List.take_zero] at b;cases b⟩
 ·by_cases e:j=i
  ·subst e;exact⟨c,h2⟩
  ·exact f.row j om
 ·by_cases e:j=i
  ·subst e;exact a
  ·exact f.perm j om
set_option maxRecDepth 100000
section
variable {n:Nat} {G:List Nat->Prop} {O:LN} {R:jI}
end
set_option maxRecDepth 100000
theorem afZ {g h:H}{d v:V}{a:List V}{ls:LN}{x:List Nat}{b:Nat}(o:cY h d 1 a g.next)(f:Fr g h)(y:a.length<1000000)(z:b<=g.next)(p:fW (λq=>q<b∨dO d q) h a ls)(pv:PV (λq=>q<b∨dO d q) h v x):
  ∃h2,xQ (h.new (.cells false [v])) 1 24 d (.sl h.next 0 1 (.kn 1))=some (.sl (h.next+1) 0 (a.length+1) (.un 1),h2)/\cY h2 (.sl (h.next+1) 0 (a.length+1) (.un 1)) 1 (a++ [v]) g.next/\fW (λq=>q<b∨dO (.sl (h.next+1) 0 (a.length+1) (.un 1)) q) h2 (a++ [v]) (ls++ [x])/\Fr g h2/\h2.next=h.next+2:=by
 obtain⟨h2,t,n,r,s,u⟩:=Hi (v:=v) o f y (bytes:=24) om
 have k:Fx (λq=>q<b∨dO d q) h h2:=⟨om,λq j h2=>u q j λid i m c e w=>h2 (.inr ⟨i,m,c,w▸e⟩)⟩
 have l: ∀q,q<h.next->(q<b∨dO (.sl (h.next+1) 0 (a.length+1) (.un 1)) q)->(q<b∨dO d q):=λq j h2=>by
  rcases h2 with h2|⟨_,_,_,e⟩
  ·exact .inl h2
  ·cases e;omega
 exact⟨h2,t,n,(fW.go p k l).append (fW.one (PV.go pv k l)),r,s⟩
theorem PV.ahN {h h':H}{a v:V}{d:List V}{b sz c:Nat}{x:List Nat}(o:cY h a sz d b)(f:c<=h.next)(p:PV (λq=>q<h.next) h' v x):PV (λq=>q<c∨dO a q) h' v x:=
 p.lH λq _ e=>by
  rcases e with e|⟨_,_,_,e⟩
  ·omega
  ·exact (o.in _ _ _ _ e).1
theorem fW.fr {h h':H}{W:Nat->Prop}{vs:List V}{ls:LN}(p:fW W h vs ls)(f:Fr h h'):fW W h' vs ls:=p.mono λ_ _ x=>⟨x.si.mono f,x.off⟩
theorem fW.agY {W:Nat->Prop}{h:H}{ws:List V}{l:LN}(p:fW W h ws l){i:Nat}(hi:i<l.length):SI h (ws.getD i V.undef) (zi (l.getD i [])):=by
 have a:=aM.length p;have:=(aM.get p i om hi).si;rwa [rN (d:=V.undef),rN (d:= []) hi] at this
theorem Zv {W W':Nat->Prop}(vc vd:V)(n:Nat)(O O':LN)(R R':jI)(G G':List Nat->Prop)(h:H)(P:GC W h vc n O R G)(gd:GC W' h vd n O' R' G'):
  Ev T 78 [vc,vd] h (λv h'=> ∃vr O2 R2,v= .tup [vr,aC 0]/\GC (λq=>q<h.next) h' vr n O2 R2 (Ad n R R')/\Fr h h'):=by
 obtain⟨vO,vR,rfl,oO,oR⟩:=P.shape
 obtain⟨uO,uR,rfl,pO,pR⟩:=gd.shape
 refine cV rJ rfl ?_
 have n0:=P.n0
 have n7:=P.n7
 have hG:=P.dN
 have a8:=gd.dN
 obtain⟨B,hB⟩:=exI h.next
 obtain⟨h1,e1,n1,g1,o1,f1⟩:=dF hB [aC n,vO,vR]
 obtain⟨h2,e2,n2,g2,o2,f2⟩:=dF n1 [aC n,uO,uR]
 obtain⟨L,e3,n3,g3,o3,f3⟩:=dF n2 [aC 0,.aE,.aE]
 have F3:=(f1.trans f2).trans f3
 have gB: ∀a,Fr L a->a.get B=aZ [aC n,vO,vR]:=λa f=>by rw[f.get B om,o3 B om,o2 B om];exact g1
 have gC: ∀a,Fr L a->a.get (B+1)=aZ [aC n,uO,uR]:=λa f=>by rw[f.get (B+1) om,o3 _ om];exact g2
 have gA: ∀a,Fr L a->a.get (B+1+1)=aZ [aC 0,.aE,.aE]:=λa f=>by rw[f.get _ om];exact g3
 have r3:=Fr.refl L
 simp(disch:=omega)only[go_sem,rJ,aD,bM h (v:= aC n) (u:=vO) (w:=vR) rfl oO oR,hB,e1,bM h1 (v:= aC n) (u:=uO) (w:=uR) rfl pO pR,n1,e2,n2,e3,aI (gB L r3),aI (gC L r3)]
 refine (QF _ _ n O O' R R' G G' L (P.mono F3) (gd.mono F3)).mono ?_
 rintro _ r ⟨rfl,f4⟩
 simp(disch:=omega)only[go_sem]
 refine aW (λhc=>(hc rfl).elim) (λ_=>?_)
 have F4:=F3.trans f4
 have fb:Fr r (H.mk r.tr (r.next+6)):=(Fr.refl r).bA om
 simp(disch:=omega)only[go_sem,aI (gB r f4),aI (gC r f4)]
 refine (xV _ n O R G h _ P (F4.trans fb)).mono ?_
 rintro N h5 ⟨wA,J,pA,f5⟩
 have a4:=fb.trans f5
 have F5:=f4.trans a4
 have ec:dE uO uO=true/\dE uR uR=true:=by
  obtain⟨_,_,_,_,e,sO,_,_,sR,_,_⟩:=gd.cw;cases e;exact⟨SV.dE sO,SV.dE sR⟩
 simp(disch:=omega)only[go_sem,aI (gC h5 F5),ec.1,ec.2]
 refine (xV _ n O' R' G' h h5 gd (F4.trans a4)).mono ?_
 rintro vb K ⟨wB,b5,pB,f6⟩
 have F6:=F5.trans f6
 have a6:=F3.trans F6
 have lA:=aM.length pA
 have lB:=aM.length pB
 have sA:=qV hG P.isc
 have sB:=qV a8 gd.isc
 have nn:n*n<=7*7:=Nat.mul_le_mul n7 n7
 obtain⟨A,hA⟩:=exI (bQ R)
 obtain⟨C,hC⟩:=exI (bQ R')
 have Q: ∀g∈A,bE n g:=λg hg=>hG.cU (bV P.isc (hA▸hg))
 have Y: ∀g∈C,bE n g:=λg hg=>a8.cU (bV gd.isc (hC▸hg))
 rw[hA] at pA lA sA
 rw[hC] at pB lB sB
 have c4: ∀a,Fr K a->SV a N 1 wA:=λa f=>J.sv.mono (f6.trans f)
 have a7: ∀a,Fr K a->SV a vb 1 wB:=λa f=>b5.sv.mono f
 have d8:bT N=some (aC (A.length:Int)):=by unfold bT;rw[SV.len J.sv (n:=A.length) om om];rfl
 have c2:bT vb=some (aC (C.length:Int)):=by unfold bT;rw[SV.len b5.sv (n:=C.length) om om];rfl
 have d6: ∀{i k},i<=A.length->k<=C.length->(IP A C i k).length<=50*49:=λ{i k} hi hk=>mT (abL hi hk) (Nat.mul_le_mul om om)
 simp(disch:=omega)only[go_sem,d8]
 obtain⟨b,hb⟩:=exI K.next
 refine bJ (λvs a=> ∃(j:V) (o:List V),(∃g:Nat->V,vs= [g 0,g 1,.ptr B 0,.ptr (B+1) 0,.ptr (B+1+1) 0,aC 0,g 6,N,vb,j,g 10,g 11,g 12,g 13,g 14,g 15,g 16,g 17,g 18,g 19,g 20,g 21])/\cY a j 1 o K.next/\fW (λq=>q<b∨dO j q) a o (NB A C)/\Fr K a) ?_ ?_
 ·refine aH (λk' l a=> ∃(i:Nat) (j:V) (o:List V),(∃g:Nat->V,l= [g 0,g 1,.ptr B 0,.ptr (B+1) 0,.ptr (B+1+1) 0,aC 0,g 6,N,vb,j,g 10,g 11,g 12,g 13,N,aC (A.length:Int),aC i,g 17,g 18,g 19,g 20,g 21])/\i<=A.length/\cY a j 1 o K.next/\fW (λq=>q<b∨dO j q) a o (IP A C i 0)/\Fr K a/\k'=A.length-i) A.length
   ⟨0,.aE, [],aB rfl,iJ _,cY.aE _ _ _,trivial,Fr.refl _,rfl⟩ ?_
  rintro k' l a ⟨i,j,o,⟨g,rfl⟩,hi,t,pv,F,rfl⟩
  by_cases b8:(i:Int)<(A.length:Int)
  case neg=>
   have d1:=bH b8;obtain rfl:i=A.length:=om
   simp(disch:=omega)only[go_sem,d1];exact⟨j,o,aB rfl,t,by rw[abO] at pv;exact pv,F⟩
  have d1:=bP b8
  have a5:i<A.length:=om
  obtain⟨c5,b1,d7,b4,b6⟩:=(c4 a F).shape A.length om om
  have cA:a.cell c5 (b1+i)=some (wA.getD i V.undef):=by rw[b6 i om,List.getD,dD om];rfl
  have KI:=fW.agY pA a5
  have P1:=Q _ (bD (d:= []) a5)
  generalize wA.getD i V.undef=vp at cA KI
  simp(disch:=omega)only[go_sem,d1,d7.ixa,cA,c2]
  refine aH (λk' l a=> ∃(k:Nat) (j:V) (o:List V),(∃g:Nat->V,l= [g 0,g 1,.ptr B 0,.ptr (B+1) 0,.ptr (B+1+1) 0,aC 0,g 6,N,vb,j,vp,g 11,g 12,g 13,N,aC (A.length:Int),aC i,g 17,vb,aC (C.length:Int),aC k,g 21])/\k<=C.length/\cY a j 1 o K.next/\fW (λq=>q<b∨dO j q) a o (IP A C i k)/\Fr K a/\k'=C.length-k) C.length
   ⟨0,j,o,aB rfl,iJ _,t,pv,F,rfl⟩ ?_
  clear t pv F cA b6 b4
  rintro k' l a2 ⟨k,j,o,⟨g,rfl⟩,hk,t,pv,F,rfl⟩
  by_cases a9:(k:Int)<(C.length:Int)
  case neg=>
   have d2:=bH a9;obtain rfl:k=C.length:=om
   simp(disch:=omega)only[go_sem,d2];rw[eJ i];exact⟨A.length-(i+1),om,i+1,j,o,aB rfl,om,t,by rw[XS A C a5] at pv;exact pv,F,rfl⟩
  have d2:=bP a9
  have Z:k<C.length:=om
  obtain⟨c8,b7,e4,e5,c7⟩:=(a7 a2 F).shape C.length om om
  have cC:a2.cell c8 (b7+k)=some (wB.getD k V.undef):=by rw[c7 k om,List.getD,dD om];rfl
  have sq:=(fW.agY pB Z).mono (a6.trans F)
  have Q1:=Y _ (bD (d:= []) Z)
  generalize wB.getD k V.undef=vq at cC sq
  simp(disch:=omega)only[go_sem,d2,e4.ixa,cC]
  have sp:=KI.mono (a6.trans F)
  refine (SG vp vq n _ _ a2 n0 om P1 Q1 sp sq).mono ?_
  rintro _ c3 ⟨w,rfl,pw,a0⟩
  have ll:=d6 (i:=i) (k:=k) om om
  have l9:=aM.length pv
  obtain⟨e6,a3,c9,d0,d4,f8⟩:=afZ (x:=jE (A.getD i []) (C.getD k [])) (v:=w) (t.fr a0) (F.trans a0) om (b:=b) om (fW.fr pv a0) (PV.ahN t (by have:=F.next;omega) pw)
  have wx:=SV.cK pw.si
  simp(disch:=omega)only[go_sem,cT c3 (z:= .aE) wx.1 wx.2.1,a3]
  rw[eJ k]
  exact⟨C.length-(k+1),om,k+1,_,_,aB rfl,om,c9,by rw[QV A C Z];exact d0,d4,rfl⟩
 rintro l a ⟨j,o,⟨g,rfl⟩,t,pv,F⟩
 have l9:=aM.length pv
 rw[Uk] at l9
 have f9:A.length*C.length<=49*49:=Nat.mul_le_mul om om
 have b3:=F6.trans F
 have e9:=F3.trans b3
 have U:Fr a (H.mk a.tr (a.next+12)):=(Fr.refl a).bA om
 have f0:(H.mk r.tr (r.next+6)).next=r.next+6:=rfl
 have g0:r.next+6<=h5.next:=f5.next
 have e7:=f6.next
 have nF:=F.next
 have nb:(H.mk a.tr (a.next+12)).next=a.next+12:=rfl
 have FA:Fr h5 (H.mk a.tr (a.next+12)):=f6.trans (F.trans U)
 obtain⟨vl,s,d9,Ap⟩:=cY.app (h:=H.mk a.tr (a.next+12)) (bytes:=24) (b:=r.next) ((J.fr FA).le om) om ((a7 a F).mono U) (n:=A.length) (m:=C.length) om om om om
 have nq:=Ap.next
 have aA: ∀k,b<=k->dL N k:=λk hk f7 d5 m c e e2=>by have:=(J.in _ _ _ _ e).1;omega
 have b9:Fx (λq=>q<b) a s:=⟨om,λq h1 h2=>Ap.get q om (aA q om)⟩
 have c1:Fr r s:=Ap.fr r (a4.trans (f6.trans (F.trans U))) (fM _)
 have y:Fr L s:=f4.trans c1
 have b0:Fr h s:=F3.trans y
 have cB:okV (s.cell B 0) (aC n)=true:=by rw[H.aF (gB s y)];simp [okV,dE]
 have e0:SP s j (NB A C):=by
  refine fW.KI (W:=λq=>q<b) (SV.fx t.sv (W:=λq=>q<b) ?_ b9) (aM.mono (λ_ _ p=>PV.go p (Fx.wide b9 λq h=> .inl h) λq _ h=> .inl h) pv)
  cases j with
  |sl id d5 m c=>exact λ(e:id<b)=>by have:=(t.in _ _ _ _ rfl).2.1;omega
  |_=>trivial
 have d3:SP s vl (A++C):=fW.KI (W:=λ_=>False) Ap.own.sv (aM.append (aM.mono (λ_ _ p=>⟨p.si.mono b0,Bc _⟩) pA) (aM.mono (λ_ _ p=>⟨p.si.mono b0,Bc _⟩) pB))
 simp(disch:=omega)only[go_sem,H.aF (gB a b3),d9]
 refine⟨cB,?_⟩
 refine (Qx j vl n (NB A C) (A++C) s n0 n7 (λg hg=>?_) (λg hg=>(pH.1 hg).elim (Q g) (Y g)) (by rw[Uk];omega) (by rw[jZ];omega) e0 d3).mono ?_
 ·obtain⟨p,hp,q,s,rfl⟩:=GP.1 hg
  exact Rh (Q p hp) (Y q s)
 rintro _ hr ⟨D,rfl,hD,bd,fr⟩
 obtain⟨xO,xR,O2,R2,gD,a1⟩:=bd.ex
 obtain⟨_,c0,c6⟩:=a1.one
 have e8:=fr.next
 have b2:=y.trans fr
 obtain⟨hs,es,ns,gs,os⟩:=pJ hr (B+1+1) [aC n,xO,xR]
 simp(disch:=omega)only[go_sem,aI gD,bW hr (B+1+1) 0 (v:= aC n) (u:=xO) (w:=xR) rfl c0 c6,gA hr b2,cF,es,aI gs]
 have q3:=y.next
 refine⟨_,O2,R2,rfl,?_,⟨om,λq s=>by rw[os q om,b2.get q om];exact F3.get q s⟩⟩
 have e1:(λx=>x∈NB A C)=(λx=> ∃p,p∈A/\ ∃q,q∈C/\x=jE p q):=funext λx=>propext GP
 have e2:(λx=>x∈A++C)=(λx=>x∈A∨x∈C):=funext λx=>propext pH
 rw[e1,e2] at a1
 unfold Ad
 rw[hA,hC]
 exact a1.go ⟨om,λq h1 h2=>os q λe=>h2 (.inl om)⟩ λq _ h=> .inl om
theorem vW {W:Nat->Prop}(Y:V)(n:Nat)(O:LN)(R:jI)(G:List Nat->Prop)(h:H)(f:GC W h Y n O R G):
  Ev T 65 [Y] h (λv h'=>v= aC (kI O n 0:Nat)/\Fr h h'):=by
 obtain⟨s,vR,q,a1,rfl,F,oO,U,sR,oR,aR⟩:=f.cw
 refine cV Dj rfl ?_
 have l:=(SV.cK F).2.1
 have r:=(SV.cK sR).2.1
 have e:=f.isc
 have n7:=f.n7
 have a0:=jH f
 have lO:=aM.length U
 rw[e.lo] at lO
 obtain⟨B,N⟩:=exI h.next
 obtain⟨h1,e1,n1,g1,o1,y⟩:=dF N [aC n,s,vR]
 have J:bT s=some (aC n):=by unfold bT;rw[SV.len F (n:=n) om om];rfl
 obtain⟨L,o,z,p,cO⟩:=SV.shape F n om om
 simp(disch:=omega)only[go_sem,Dj,aD,bM h (v:= aC n) (u:=s) (w:=vR) rfl l r,N,e1,H.aF g1,J]
 refine aH (λQ b x=> ∃(i a:Nat),(∃g:Nat->V,b= [g 0,g 1,g 2,aC a,g 4,s,aC n,aC i,g 8])/\i<=n/\a*kI O (n-i) i=kI O n 0/\x=h1/\Q=n-i) n
  ⟨0,1,aB rfl,iJ _,by rw[Nat.one_mul];rfl,rfl,rfl⟩ ?_
 rintro Q b x ⟨i,a,⟨g,rfl⟩,hi,c,rfl,rfl⟩
 by_cases k:(i:Int)<(n:Int)
 case neg=>
  have A:=bH k;obtain rfl:i=n:=om
  simp(disch:=omega)only[go_sem,A];rw[Nat.sub_self] at c;have:kI O 0 i=1:=rfl;rw[this,uW] at c;exact⟨by rw[c],y⟩
 have A:=bP k
 have d:i<n:=om
 have t:=aM.get U i om (by rw[e.lo];exact d)
 rw[show O[i]'(by rw[e.lo];exact d)=O.getD i [] from rN _] at t
 have co:x.cell L (o+i)=some (q[i]'om):=by
  rw[y.cell (p om),cO i om,dD om]
 generalize q[i]'om=vo at t co
 have K:=(t.si.mono y).lens
 rw[aQ] at K
 obtain⟨r1,r2⟩:=f.row d
 have st:kI O (n-i) i=(O.getD i []).length*kI O (n-(i+1)) (i+1):=by
  rw[show n-i=(n-(i+1))+1 by omega];rfl
 have pos:=Ln (O:=O) (n-(i+1)) (i+1) (λj h1 h2=>(f.row om).1)
 obtain⟨m,P⟩:=exI ((O.getD i []).length)
 rw[st,←Nat.mul_assoc,P] at c
 rw[P] at K
 have bd:a*m<=kI O n 0:=by rw[←c];exact Nat.le_mul_of_pos_right _ pos
 have Z:(a:Int)*(m:Int)=((a*m:Nat):Int):=rfl
 obtain⟨w,hw⟩:=exI (a*m)
 rw[hw] at Z bd c
 simp(disch:=omega)only[go_sem,A,z.ixa,co,K,Z]
 rw[eJ i]
 exact⟨n-(i+1),om,i+1,w,aB rfl,om,c,rfl⟩
theorem Yb {W:Nat->Prop}(c:V)(n:Nat)(O:LN)(R:jI)(G:List Nat->Prop)(h:H)(a:GC W h c n O R G):
  Ev T 74 [c] h (λv h'=>v= .tup [aC (kI O n 0:Nat),aC 0]/\Fr h h'):=by
 obtain⟨e,f,rfl,i,m⟩:=a.shape
 refine cV Aj rfl ?_
 have p:=jH a
 obtain⟨B,d⟩:=exI h.next
 obtain⟨l,o,q,g,s,b⟩:=dF d [aC n,e,f]
 simp(disch:=omega)only[go_sem,Aj,aD,bM h (v:= aC n) (u:=e) (w:=f) rfl i m,d,o,aI g]
 refine (XX _ n O R G l (a.mono b)).mono ?_
 rintro _ r ⟨rfl,j⟩
 have k:decide ((5040:Int)<((kI O n 0:Nat):Int))=false:=bH om
 simp(disch:=omega)only[go_sem,k,eq_self,decide_true]
 exact b.trans j
abbrev nE:=LN×jI
def Kf (n:Nat)(w:Bool)(c d:nE):List Nat->Prop:=Ad n d.2 (if w then c.2 else d.2)
structure uC (n:Nat)(w:Bool)(c:nE)(l:List nE):Prop where
 hd:l[0]? =some c
 st: ∀k d e,l[k]? =some d->l[k+1]? =some e->bC n (Kf n w c d) e.1 e.2/\e≠d
 en: ∀d,l[l.length- 1]? =some d->bC n (Kf n w c d) d.1 d.2
theorem uC.uniq {n:Nat}{w:Bool}{c:nE}{l m:List nE}(a:uC n w c l)(b:uC n w c m):l=m:=by
 have one: ∀{d e f:nE},bC n (Kf n w c d) e.1 e.2->bC n (Kf n w c d) f.1 f.2->e=f:=λh k=>by
  obtain⟨q,g⟩:=h.uniq k;exact Prod.ext q g
 have y:0<l.length:=by
  cases l with
  |nil=>exact absurd a.hd (by simp)
  |cons x r=>simp
 have lb:0<m.length:=by
  cases m with
  |nil=>exact absurd b.hd (by simp)
  |cons x r=>simp
 have p: ∀k,(k<l.length↔k<m.length)/\l[k]? =m[k]? :=by
  intro k
  induction k with
  |zero=>exact⟨⟨λ_=>lb,λ_=>y⟩,by rw[a.hd,b.hd]⟩
  |succ k ih=>
   obtain⟨j,o⟩:=ih
   have i: ∀{l m:List nE},uC n w c l->uC n w c m->(k<l.length↔k<m.length)->l[k]? =m[k]? ->k+1<l.length->k+1<m.length/\l[k+1]? =m[k+1]? :=λ{l m} a b j o h=>by
    have u:k<l.length:=om
    have z:=j.1 u;have s:=a.st k _ _ (dD u) (dD h);have v:m[k]? =some l[k]:=by rw[←o];exact dD u
    by_cases g:k+1<m.length
    ·have t:=b.st k _ _ v (dD g)
     exact⟨g,by rw[dD h,dD g,one s.1 t.1]⟩
    ·have t:=b.en l[k] (by rw[show m.length- 1=k by omega];exact v)
     exact absurd (one s.1 t) s.2
   by_cases h:k+1<l.length
   ·obtain⟨q,g⟩:=i a b j o h
    exact⟨⟨λ_=>q,λ_=>h⟩,g⟩
   ·have g: ¬k+1<m.length:=λg=>h (i b a j.symm o.symm g).1
    exact⟨⟨λx=>absurd x h,λx=>absurd x g⟩,by rw[List.getElem?_eq_none om,List.getElem?_eq_none om]⟩
 exact List.ext_getElem? λk=>(p k).2
theorem abY {G K:List Nat->Prop}{L M:LN}(E:dW G L)(F:dW K M)(h: ∀x,K x->G x)(i:M.length=L.length)(x:List Nat):G x↔K x:=by
 refine⟨λd=>?_,h x⟩;have f: ∀y∈M,y∈L:=λy a=>(E.mem y).2 (h y ((F.mem y).1 a))
 refine (F.mem x).1 ?_;have c:=(E.mem x).2 d;apply Jg;intro g
 have b: ∀y∈M,y∈L.erase x:=λy a=>by
  have ne:y≠x:=λe=>by subst e;exact g a
  exact (List.mem_erase_of_ne ne).2 (f y a)
 have:=List.Nodup.length_le_of_subset F.nodup b;rw[List.length_erase_of_mem c] at this;have:=HJ c;omega
section
variable {n:Nat} {w:Bool} {c d e:nE} {Gc Gd:List Nat->Prop}
structure Dx (n:Nat)(w:Bool)(Gc:List Nat->Prop)(d:nE)(Gd:List Nat->Prop):Prop where
 dN:iX n Gd
 isc:bC n Gd d.1 d.2
 le: ∀x,Gd x->Gc x
 norm:w=true-> ∀y b,Gd y->Gc b->Gd (cW y b)
theorem Dx.first (a:iX n Gc)(i:bC n Gc c.1 c.2):Dx n w Gc c Gc:=
 ⟨a,i,λ_ h=>h,λ_ y b g f=>a.mul (a.mul (a.inv f) g) f⟩
theorem Dx.nx (f:iX n Gc)(g:bC n Gc c.1 c.2)(x:Dx n w Gc d Gd):iX n (Kf n w c d)/\(∀y,Kf n w c d y->Gd y)/\(w=true-> ∀y b,Kf n w c d y->Gc b->Kf n w c d (cW y b)):=by
 unfold Kf
 cases w with
 |false=>exact⟨Ad.dN x.dN x.dN x.isc x.isc,λy a=>Ad.self x.dN x.isc a,λh=>by cases h⟩
 |true=>exact⟨Ad.dN x.dN f x.isc g,λy a=>Ad.le x.dN f x.isc g (x.norm rfl) a,λ_ y b a i=>Ad.norm x.dN f x.isc g a i⟩
theorem Dx.next (g:iX n Gc)(j:bC n Gc c.1 c.2)(x:Dx n w Gc d Gd)(f:bC n (Kf n w c d) e.1 e.2):Dx n w Gc e (Kf n w c d):=by
 obtain⟨b,i,h⟩:=x.nx g j;exact⟨b,f,λy a=>x.le y (i y a),h⟩
theorem Dx.size (q:iX n Gc)(o:bC n Gc c.1 c.2)(x:Dx n w Gc d Gd)(i:bC n (Kf n w c d) e.1 e.2):kI e.1 n 0<=kI d.1 n 0/\(kI e.1 n 0=kI d.1 n 0->e=d):=by
 obtain⟨p,g,_⟩:=x.nx q o;obtain⟨l,j⟩:=dM x.dN x.isc;obtain⟨f,k⟩:=dM p i;refine⟨?_,λh=>?_⟩
 ·rw[←j,←k]
  exact List.Nodup.length_le_of_subset f.nodup λy m=>(l.mem y).2 (g y ((f.mem y).1 m))
 ·have:=abY l f g (by rw[j,k,h])
  obtain⟨a,b⟩:=(i.congr λy=>(this y).symm).uniq x.isc;exact Prod.ext a b
structure Na (n:Nat)(w:Bool)(c:nE)(l:List nE)(d:nE):Prop where
 hd:l= []->d=c
 h0:l≠ []->l[0]? =some c
 st: ∀k d e,l[k]? =some d->l[k+1]? =some e->bC n (Kf n w c d) e.1 e.2/\e≠d
 la: ∀e,l[l.length- 1]? =some e->bC n (Kf n w c e) d.1 d.2
theorem Na.start:Na n w c [] c:=⟨λ_=>rfl,λh=>absurd rfl h,λk d e h=>by simp at h,λe h=>by simp at h⟩
theorem Na.push {l:List nE}(s:Na n w c l d)(i: ∀e,l[l.length- 1]? =some e->d≠e)(m:bC n (Kf n w c d) e.1 e.2):Na n w c (l++ [d]) e:=by
 refine⟨λh=>by simp at h,λ_=>?_,λk a b f g=>?_,λa f=>?_⟩
 ·cases l with
  |nil=>rw[s.hd rfl];rfl
  |cons x r=>have:=s.h0 (by simp);simpa using this
 ·by_cases o:k+1<l.length
  ·rw[Dv o] at g
   rw[Dv om] at f;exact s.st k a b f g
  ·have p:k+1=l.length:=by
    have:=(Ax.1 g).1;simp at this;omega
   rw[Dv om] at f;rw[p,Kk om,Nat.sub_self] at g;have g:d=b:=by simpa using g
   subst g;have j:l[l.length- 1]? =some a:=by rw[show l.length- 1=k by omega];exact f
   exact⟨s.la a j,i a j⟩
 ·have:a=d:=by
   rw[jZ,show l.length+ [d].length- 1=l.length from rfl,Kk om,Nat.sub_self] at f;simpa using f.symm
  rw[this];exact m
theorem Na.done {l:List nE}(s:Na n w c l d)(b:l≠ [])(h:l[l.length- 1]? =some d):uC n w c l:=
 ⟨s.h0 b,s.st,λe a=>by rw[h] at a;cases a;exact s.la d h⟩
end
end Go.Proofs.YtcdbmkidaecdiaaGreat
