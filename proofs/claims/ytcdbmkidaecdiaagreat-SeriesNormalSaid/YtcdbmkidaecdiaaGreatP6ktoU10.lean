/- Texts of the claim. -/
import Derived.Test.YtcdbmkidaecdiaaGreatP5ptoP6j
import Derived.Test.YtcdbmkidaecdiaaGreatDp2toP5e
import Derived.Test.YtcdbmkidaecdiaaGreatP5a
set_option maxHeartbeats 64000000
namespace Go.Proofs.YtcdbmkidaecdiaaGreat
open Go Go.Ay Go.Pm
set_option maxRecDepth 100000
section
variable {G:List Nat->Prop} {L:LN} {i j n:Nat} {Q:List Nat} {h:H} {v:V}
theorem IA {a:V}(b:a.cells= [a])(c:a.one=true)(M N m:Nat):rO [.aE,.nilm,.aE,.aE] [(0,1,a),(1,1,.mp M),(3,1,.sl N 0 m (.kn m))]=some (.agg [a,.mp M,.aE,.sl N 0 m (.kn m)]):=by
 simp [rO,iS,putAt,b,c,show (V.mp M).cells= [V.mp M] from rfl,show (V.sl N 0 m (.kn m)).cells= [V.sl N 0 m (.kn m)] from rfl,show (V.mp M).one=true from rfl,show (V.sl N 0 m (.kn m)).one=true from rfl]
theorem MR {a:V}(b:a.one=true)(M N m:Nat)(h:H):Cv h (.agg [a,.mp M,.aE,.sl N 0 m (.kn m)])=some (.ptr h.next 0,h.new (.cells false [a,.mp M,.aE,.sl N 0 m (.kn m)])):=tL h _ (by simp [b,show (V.mp M).one=true from rfl,show (V.sl N 0 m (.kn m)).one=true from rfl,show V.aE.one=true from rfl])
open Classical in
noncomputable def Ib (G:List Nat->Prop)(L:LN)(i:Nat)(Q:List Nat)(j:Nat):Bool:=decide ((∃i0,i0<i/\cR G L i0 j)∨j∈Q)
theorem nG:Ib G L i Q j=true↔(∃i0,i0<i/\cR G L i0 j)∨j∈Q:=by classical unfold Ib;simp only[decide_eq_true_eq]
theorem VK (G:List Nat->Prop)(L:LN)(j:Nat):Ib G L 0 [] j=false:=by
 rw[←Bool.not_eq_true,nG];rintro (⟨a,h,_⟩|h)
 ·omega
 ·cases h
theorem Wt {k:Nat}:Ib G L i (Q++ [k]) j=if j=k then true else Ib G L i Q j:=by
 by_cases e:j=k
 ·rw[bF e,nG];exact .inr (by simp [e])
 ·rw[bI e,Py,nG,nG]
  simp [e]
theorem xE {p:Nat->Option Ay.Fn}{rd:Option Nat}{a:C}{k:Nat}{b:List V}{Q:E->List V->H->Prop}(J:List V->H->Prop)(c:Wp p rd (.loop a) b h (λe v h'=>e= .exit k/\J v h'))(h2: ∀v h',J v h'->Q .norm v h'):Wp p rd (.loop a) b h (vH k Q):=
 c.mono λe v h' x=>by
  obtain⟨rfl,x⟩:=x;rw[An];exact h2 v h' x
theorem cY.ge {sz id off b:Nat}{ws:List V}(o:cY h v sz ws b)(a:ws.length=n*sz)(hz:0<sz)(s:Sl v sz n id off)(d:0<n):b<=id:=by
 have k:=s.ixa .i64 0 om om;rcases o.sv with ⟨_,rfl⟩|⟨l,c,len,m,t,r,e,f,_⟩
 ·have:=Nat.mul_pos d hz
  simp at a;omega
 ·have q:=(o.in _ _ _ _ e).2.1
  subst e
  have u:0<len:=by
   have:=Nat.mul_pos d hz;refine Nat.pos_of_ne_zero λp=>?_
   subst p;simp at f;rw[f] at a;simp at a;omega
  rw[Lg om om] at k;simp only[Option.some.injEq,V.ptr.injEq] at k;omega
theorem RU (l:iX n G)(E:dW G L)(hi:i<L.length)(o: ¬HV G L i)(j:Nat):Ib G L i [] j=Ib G L (i+1) [] j:=by
 obtain⟨m,f,c⟩: ∃j,j<i/\cR G L j i:=Jg λk=>o λj p c=>k ⟨j,p,c⟩
 rw[Py,nG,nG];constructor
 ·rintro (⟨a,d,b⟩|h)
  ·exact .inl ⟨a,om,b⟩
  ·cases h
 ·rintro (⟨a,d,b⟩|h)
  ·by_cases e:a=i
   ·subst e;exact .inl ⟨m,f,wJ l E om c b⟩
   ·exact .inl ⟨a,om,b⟩
  ·cases h
theorem NU {S:LN}(k:iX n G)(E:dW G L)(hi:i<L.length)(b:BQ G L S i Q Q.length)(m: ∀s∈S,G s)(a: ∀x,G x->bX n (λg=>g∈S) x)(l:j<L.length):Ib G L i Q j=Ib G L (i+1) [] j:=by
 rw[Py,nG,nG];constructor
 ·rintro (⟨c,f,d⟩|h)
  ·exact .inl ⟨c,om,d⟩
  ·exact .inl ⟨i,om,(b.mem j h).2⟩
 ·rintro (⟨c,f,d⟩|h)
  ·by_cases e:c=i
   ·subst e;exact .inr ((b.done k E (fM _) hi m a j).2 ⟨l,d⟩)
   ·exact .inl ⟨c,om,d⟩
  ·cases h
theorem JS (a:v.cells= [v])(b:v.one=true)(x y:Int):rO [.aE,aC 0,aC 0] [(0,1,v),(1,1,aC x),(2,1,aC y)]=some (.agg [v,aC x,aC y]):=by
 simp [rO,iS,putAt,a,b,show ∀z,(aC z).cells= [aC z] from λ_=>rfl,show ∀z,(aC z).one=true from λ_=>rfl]
theorem MT {w:V}(c:v.one=true)(a:w.cells= [w])(b:w.one=true)(x y:Int):rO [.aE,aC 0,aC 0,.aE] [(0,3,.agg [v,aC x,aC y]),(3,1,w)]=some (.agg [v,aC x,aC y,w]):=by
 simp [rO,iS,putAt,a,c,b,show ∀l,(V.agg l).cells=l from λ_=>rfl,show ∀z,(aC z).one=true from λ_=>rfl]
theorem MI {w:V}(b:v.one=true)(a:w.one=true)(x y:Int)(h:H):lQ h 4 [.aE,aC 0,aC 0,.aE] 1 [(0,4,.agg [v,aC x,aC y,w])]=some (.sl h.next 0 1 (.kn 1),h.new (.cells false [v,aC x,aC y,w])):=by
 have e:cX [V.aE,aC 0,aC 0,.aE] 4= [V.aE,aC 0,aC 0,.aE]:=rfl;simp [lQ,iS,putAt,e,b,a,show ∀l,(V.agg l).cells=l from λ_=>rfl,show ∀z,(aC z).one=true from λ_=>rfl]
theorem Co (k:Nat):(jW G L k).length<=k:=by
 classical
 unfold jW;exact mT (List.length_filter_le _ _) (by rw[NM];exact fM _)
theorem Re (b:List Cls.KE):(Cls.qY b).length=b.length*4:=by
 induction b with
 |nil=>rfl
 |cons a r ih=>
  show (a.enc++Cls.qY r).length=_;rw[jZ,ih,List.length_cons];show 4+_=_;omega
theorem HY {a b c d:V}(f:H)(id:Nat)(y:V):dX (some (.cells false [a,b,c,d])) f id 2 [y]=some (f.set id (some (.cells false [a,b,y,d]))):=by
 simp [dX,putAt]
theorem afI {sz:Nat}{ws:List V}(s:SV h v sz ws):Mq (λq=>h.next<=q) v:=by
 cases v with
 |sl id off len cap=>exact λa=>by have:=s.in _ _ _ _ rfl;omega
 |_=>trivial
structure KO (n:Nat)(G:List Nat->Prop)(L:LN)(X:Nat)(W:Nat->Prop)(hh:H)(a:Cls.KE)(r:Nat):Prop where
 fst:a.fst=r
 ord:a.ord=qF (L.getD r []) n
 size:a.size=(kY G L r).length
 rep:PV (λq=>X<=q) hh a.rep (L.getD r [])
 ranks:PV W hh a.ranks (kY G L r)
theorem KO.go {X:Nat}{W W':Nat->Prop}{h':H}{a:Cls.KE}{r:Nat}(k:KO n G L X W h a r)(f:Fx W h h')(o:X<=h.next)(l: ∀q,W q->X<=q)(c: ∀q,q<h.next->W' q->W q):KO n G L X W' h' a r:=
 ⟨k.fst,k.ord,k.size,k.rep.fx ⟨f.next,λq b m=>f.get q b λd=>m (l q d)⟩,PV.go k.ranks f c⟩
structure OfJ (n:Nat)(G:List Nat->Prop)(L:LN)(X D:Nat)(vL:V)(h5:H)(i:Nat)(hh:H):Prop where
 ex: ∃vK ks W,hh.get (X+8)=some (.cells false [vL,.mp (X+3),vK,.sl (X+6) 0 L.length (.kn L.length)])/\cY hh vK 4 (Cls.qY ks) (D+1)/\aM (KO n G L X W hh) ks (jW G L i)/\Hq W vK/\W D/\W (X+8)/\W (X+6)/\(∀q,W q->q<hh.next)/\(∀q,W q->X<=q)/\(ks= []∨ ∃id cap,vK= .sl id 0 ks.length cap/\hh.get id=some (.cells false (Cls.qY ks)))
 gD:hh.get D=some (.cells false (rc L.length λj=> .bool (Ib G L i [] j)))
 old:Fx (λq=>q=X+8∨D<=q) h5 hh
 nx:D<hh.next
def QT (n:Nat):C->Bool
 | .block k _=>k==n
 | .seq _ b=>QT n b
 |_=>false
def Tz (n:Nat):C->C
 | .seq a b=>if QT n a then b else Tz n b
 |c=>c
structure OfE (n:Nat)(G:List Nat->Prop)(L:LN)(X D:Nat)(vL:V)(h h2 h5 h7:H):Prop where
 el:dW G L
 le:L.length<=5040
 f2:Fr h h2
 x2:h2.next=X
 sp:SP h2 vL L
 f25:Fr h2 h5
 xD:X+10<=D
 n5:h5.next=D
 gM:h5.get (X+3)=some (.wmap .str (Ie L L.length))
 gN:h5.get (X+6)=some (.cells false (rc L.length λ_=> aC 0))
 j:OfJ n G L X D vL h5 L.length h7
theorem WY {W0:Nat->Prop}(vc:V)(n:Nat)(O:LN)(R:jI)(G:List Nat->Prop)(h:H)(gc:GC W0 h vc n O R G)(P:V->H->Prop)
  (hk: ∀L X D vL h2 h5 h7 A (g:Nat->V),cZ O R n 0 (bL n)=L->OfE n G L X D vL h h2 h5 h7->Wp T none (Tz 2 mL.fn.body) ([g 0,.ptr A 0,.nilp,aC 0,vL,g 5,.ptr (X+8) 0,g 7,g 8,g 9,g 10,g 11,g 12,g 13,g 14,g 15,g 16,g 17,g 18,g 19,g 20,g 21,g 22,g 23,g 24,g 25,g 26,g 27,g 28,g 29,g 30,g 31,g 32,g 33,g 34,g 35,g 36,g 37,g 38,g 39,g 40,g 41,g 42,g 43,g 44,g 45]) h7 (JN mL.fn.results P)):
  Ev T 139 [vc] h P:=by
 obtain⟨vO,vR,e,sO,sR⟩:=gc.ch
 subst e
 refine cV mL rfl ?_
 have g7:vO.one=true:=oNs sO
 have j5:vR.one=true:=oNt sR
 obtain⟨A,hA⟩:=exI h.next
 obtain⟨d,e1,n1,g1,o1,f1⟩:=dF hA [aC n,vO,vR]
 have bx:=bM h (v:= aC n) (u:=vO) (w:=vR) rfl g7 j5
 have rB:=aI g1
 obtain⟨L,hL⟩:=exI (cZ O R n 0 (bL n))
 obtain⟨E,ll⟩:=dM gc.dN gc.isc
 have r4:=jH gc
 rw[hL] at E ll
 have hG:=gc.dN
 have n7:=gc.n7
 have n0:=gc.n0
 simp(disch:=omega)only[go_sem,mL,aD,bx,hA,e1,rB]
 refine (Wc _ n O R G d (gc.mono f1)).mono ?_
 rw[hL]
 rintro _ h2 ⟨vL,rfl,nw⟩
 obtain⟨wL,W,c8,k8,q3,W1⟩:=nw.ex
 have j8:=aM.length k8
 obtain⟨m,hm⟩:=exI L.length
 rw[hm] at j8
 have d8:=cY.lens c8 j8
 have d0:=c8.sv.cK.2.1
 have f2:=nw.fr
 simp(disch:=omega)only[go_sem,d8]
 refine aW (λhc=>(hc rfl).elim) (λ_=>?_)
 obtain⟨X,hX⟩:=exI h2.next
 simp(disch:=omega)only[go_sem,d8,sT _ m om,hX,IA c8.sv.cK.1 d0,MR d0]
 obtain⟨h3,a1⟩: ∃h3:H,h3=H.mk ((H.mk ((H.mk ((H.mk h2.tr (X+3)).new (Ob.wmap Cy.str [])).tr (X+6)).new (Ob.cells false (rc m λ_=>aC 0))).tr (X+8)).new (Ob.cells false [vL,.mp (X+3),.aE,.sl (X+6) 0 m (.kn m)])).tr (X+10):=⟨_,rfl⟩
 rw[←a1]
 have n3:h3.next=X+10:=by rw[a1]
 have gB:h3.get (X+8)=some (.cells false [vL,.mp (X+3),.aE,.sl (X+6) 0 m (.kn m)]):=by rw[a1];exact H.aL (H.mk _ (X+8)) _
 have gN:h3.get (X+6)=some (.cells false (rc m λ_=>aC 0)):=by
  rw[a1];exact (H.bG (H.mk _ (X+8)) (show X+6≠X+8 by omega) _).trans (H.aL (H.mk _ (X+6)) _)
 have gM:h3.get (X+3)=some (.wmap .str (Ie L 0)):=by
  rw[a1];exact (H.bG (H.mk _ (X+8)) (show X+3≠X+8 by omega) _).trans ((H.bG (H.mk _ (X+6)) (show X+3≠X+6 by omega) _).trans (H.aL (H.mk _ (X+3)) _))
 have f3:Fr h2 h3:=⟨om,λq hq=>by
  rw[a1]
  exact (H.bG (H.mk _ (X+8)) (show q≠X+8 by omega) _).trans ((H.bG (H.mk _ (X+6)) (show q≠X+6 by omega) _).trans (H.bG (H.mk _ (X+3)) (show q≠X+3 by omega) _))⟩
 clear a1
 have a0: ∀i,i<m->(L.getD i []).length<=1000/\ ∀x∈L.getD i [],x<256:=λi hi=>by
  have P:=lY hG E (show i<L.length by omega);exact⟨by rw[P.len];omega,λx hx=>by have:=P.lt x hx;omega⟩
 obtain⟨l6,j1,c4,j4,i1⟩:=SV.shape c8.sv m om om
 have f7: ∀i,i<m-> ∃vx,(∀h',Fr h2 h'->h'.cell l6 (j1+i)=some vx)/\SI h2 vx (zi (L.getD i [])):=λi hi=>by
  obtain⟨v,d,a6⟩:=fW.at k8 (i:=i) om;exact⟨v,λh' f=>by rw[f.cell (j4 om),i1 i om,d],a6.si⟩
 have hK: ∀i,i<m->isKey .str (.str (L.getD i []))=true:=λi hi=>xY (a0 i hi).1 (a0 i hi).2
 refine bJ (λvs B=>(∃g:Nat->V,vs= [g 0,.ptr A 0,.nilp,aC 0,vL,g 5,.ptr (X+8) 0,g 7,g 8,g 9,g 10,g 11,g 12,g 13,g 14,g 15,g 16,g 17,g 18,g 19,g 20,g 21,g 22,g 23,g 24,g 25,g 26,g 27,g 28,g 29,g 30,g 31,g 32,g 33,g 34,g 35,g 36,g 37,g 38,g 39,g 40,g 41,g 42,g 43,g 44,g 45])/\B.get (X+3)=some (.wmap .str (Ie L m))/\Fx (· =X+3) h3 B) ?_ ?_
 ·refine aH (λk' vs B=> ∃(i:Nat),(∃g:Nat->V,vs= [g 0,.ptr A 0,.nilp,aC 0,vL,g 5,.ptr (X+8) 0,g 7,g 8,g 9,g 10,g 11,g 12,g 13,g 14,g 15,g 16,g 17,g 18,g 19,g 20,g 21,g 22,vL,aC m,aC i,g 26,g 27,g 28,g 29,g 30,g 31,g 32,g 33,g 34,g 35,g 36,g 37,g 38,g 39,g 40,g 41,g 42,g 43,g 44,g 45])/\i<=m/\B.get (X+3)=some (.wmap .str (Ie L i))/\Fx (· =X+3) h3 B/\k'=m-i) m
   ⟨0,aB rfl,iJ _,gM,Fx.refl _ h3,rfl⟩ ?_
  rintro k' K h4 ⟨i,⟨g,rfl⟩,hi,a8,F4,rfl⟩
  by_cases b6:(i:Int)<(m:Int)
  case neg=>
   have d4:=bH b6;obtain rfl:i=m:=om
   simp(disch:=omega)only[go_sem,d4];exact⟨aB rfl,a8,F4⟩
  have d4:=bP b6
  have a3:i<m:=om
  have b4:Fr h2 h4:=⟨by have:=F4.next;omega,λq hq=>by rw[F4.get q om om];exact f3.get q hq⟩
  have c5:h4.get (X+8)=some (.cells false [vL,.mp (X+3),.aE,.sl (X+6) 0 m (.kn m)]):=by rw[F4.get _ om om];exact gB
  obtain⟨vx,cx,sx⟩:=f7 i a3
  have c3:h4.cell (X+8) 1=some (.mp (X+3)):=by rw[H.aF c5];rfl
  simp(disch:=omega)only[go_sem,d4,c4.ixa,cx h4 b4,c3]
  refine (FV vx (L.getD i []) _ (a0 i a3).1 (a0 i a3).2 (sx.mono (b4.trans ((Fr.refl h4).bA om)))).mono ?_
  rintro _ h5 ⟨rfl,f5⟩
  have c6:Fr h4 h5:=((Fr.refl h4).bA om).trans f5
  have n4:=F4.next
  have l7:h5.get (X+3)=some (.wmap .str (Ie L i)):=by rw[c6.get _ om];exact a8
  have p4:h5.cell (X+8) 1=some (.mp (X+3)):=by rw[c6.cell om];exact c3
  have pt:=λB=>Xx E.nodup (show i<L.length by omega) (hK i a3) B (X+3)
  simp(disch:=omega)only[go_sem,p4,l7,pt]
  rw[eJ i]
  refine⟨by simp [dE],m-(i+1),om,i+1,aB rfl,om,rfl,⟨by have:=c6.next;show h3.next<=h5.next;omega,λq d h2=>by rw[H.aG _ (λe=>h2 e),c6.get q om];exact F4.get q d h2⟩,rfl⟩
 rintro K h4 ⟨⟨g,rfl⟩,a8,F4⟩
 have n4:=F4.next
 have b4:Fr h2 h4:=⟨om,λq hq=>by rw[F4.get q om om];exact f3.get q hq⟩
 have c5:h4.get (X+8)=some (.cells false [vL,.mp (X+3),.aE,.sl (X+6) 0 m (.kn m)]):=by rw[F4.get _ om om];exact gB
 have f8:h4.get (X+6)=some (.cells false (rc m λ_=>aC 0)):=by rw[F4.get _ om om];exact gN
 have h0:=f2.trans b4
 have rA:=aI (h:=h4) (id:=A) (ro:=false) (by rw[h0.get _ om];exact g1)
 simp(disch:=omega)only[go_sem,rA]
 refine (Qy _ n O R G h4 (gc.mono (f1.trans h0))).mono ?_
 rintro _ h5 ⟨vS,rfl,nS⟩
 have f5:=nS.fr
 obtain⟨D,hD⟩:=exI h5.next
 obtain⟨h6,e6,n6,g6,o6,f6⟩:=dF hD (rc m λ_=>V.bool false)
 simp(disch:=omega)only[go_sem,d8,Sd,hD,e6]
 have d9:=b4.trans f5
 have q7:=d9.next
 have n5:=f5.next
 obtain⟨wS,WS,e3,e4,q4,m9⟩:=nS.ex
 obtain⟨S,hS⟩:=exI (bQ R)
 rw[hS] at e4
 have o4:=aM.length e4
 have a2: ∀s∈S,G s:=λs hs=>bV gc.isc (by rw[hS];exact hs)
 have b1: ∀x,G x->bX n (λg=>g∈S) x:=λx hx=>by rw[←hS];exact nJ hG gc.isc hx
 obtain⟨sl,f0⟩:=exI S.length
 have q2:sl<=49:=by
  have d: ∀j,j<R.length->(R.getD j []).length<=n:=λj N=>by
   have c1:j<n:=by rw[←gc.isc.lr];exact N
   rw[gc.isc.rl j c1];have:=uQ (λx hx=>hG.cU hx) c1 (gc.isc.asc j c1) (gc.isc.mem j c1);omega
  have h2:=sY (n:=n) (R:=R) (fM _) d;rw[List.take_length,hS,f0,gc.isc.lr] at h2;have:n*n<=7*7:=Nat.mul_le_mul n7 n7;omega
 have q1:=cY.lens e3 (o4.trans f0)
 obtain⟨a9,k9,i8,j9,p6⟩:=SV.shape e3.sv sl om om
 have m8:=cY.ge e3 (n:=sl) om om i8
 have o3: ∀t,t<sl-> ∃vy,(∀B,Fx (λq=>q=X+8∨D<=q) h5 B->B.cell a9 (k9+t)=some vy)/\PV (λq=>q=X+8∨D<=q) h5 vy (S.getD t []):=λt ht=>by
  obtain⟨v,d,a6⟩:=fW.at e4 (i:=t) om;have hi:=j9 om;have q9:h4.next<=a9:=m8 om;refine⟨v,λB f=>?_,a6.lH λid r2 hw=>m9 id ?_⟩
  ·have e:B.get a9=h5.get a9:=f.get a9 hi om
   unfold H.cell;rw[e];have:=p6 t om;rw[d] at this;exact this
  ·rcases hw with e|e
   ·omega
   ·omega
 have J0:OfJ n G L X D vL h5 0 h6:=
  ⟨⟨.aE, [],λq=>q=D∨q=X+8∨q=X+6,by rw[f6.get _ om,f5.get _ om,hm];exact c5,cY.aE _ _ _,trivial,λ_ _ _ _ e=>(by cases e),.inl rfl,.inr (.inl rfl),.inr (.inr rfl),λq h=>by rcases h with h|h|h<;>omega,λq h=>by rcases h with h|h|h<;>omega,.inl rfl⟩,
   by rw[g6,hm,show (λj=>V.bool (Ib G L 0 [] j))=λ_=>V.bool false from funext λj=>by rw[VK]],Fx.of f6,om⟩
 refine bJ (λvs B=>(∃g:Nat->V,vs= [g 0,.ptr A 0,.nilp,aC 0,vL,g 5,.ptr (X+8) 0,g 7,g 8,g 9,g 10,g 11,g 12,g 13,g 14,g 15,g 16,g 17,g 18,g 19,g 20,g 21,g 22,g 23,g 24,g 25,g 26,g 27,g 28,g 29,g 30,g 31,g 32,g 33,g 34,g 35,g 36,g 37,g 38,g 39,g 40,g 41,g 42,g 43,g 44,g 45])/\OfJ n G L X D vL h5 m B) ?_ ?_
 ·refine aH (λk' vs B=> ∃(i:Nat),(∃g:Nat->V,vs= [g 0,.ptr A 0,.nilp,aC 0,vL,g 5,.ptr (X+8) 0,g 7,g 8,vS,.sl D 0 m (.kn m),g 11,g 12,g 13,g 14,g 15,g 16,g 17,g 18,g 19,g 20,g 21,g 22,g 23,g 24,g 25,g 26,vL,aC m,aC i,g 30,g 31,g 32,g 33,g 34,g 35,g 36,g 37,g 38,g 39,g 40,g 41,g 42,g 43,g 44,g 45])/\i<=m/\OfJ n G L X D vL h5 i B/\k'=m-i) m
   ⟨0,aB rfl,iJ _,J0,rfl⟩ ?_
  clear J0
  rintro k' K h7 ⟨i,⟨g,rfl⟩,hi,J,rfl⟩
  by_cases b6:(i:Int)<(m:Int)
  case neg=>
   have d4:=bH b6;obtain rfl:i=m:=om
   simp(disch:=omega)only[go_sem,d4];exact⟨aB rfl,J⟩
  have d4:=bP b6
  have a3:i<m:=om
  have nD:=J.nx
  have b0:Fr h2 h7:=⟨om,λq hq=>by rw[J.old.get q om om];exact d9.get q hq⟩
  obtain⟨vx,cx,sx⟩:=f7 i a3
  have cD:=Bw J.gD (i:=i) om
  by_cases hr:HV G L i
  case neg=>
   have d2:Ib G L i [] i=true:=by
    rw[nG];exact .inl (Jg λhn=>hr λj N hc=>hn ⟨j,N,hc⟩)
   rw[d2] at cD;simp(disch:=omega)only[go_sem,d4,c4.ixa,cx h7 b0,cD];rw[eJ i];refine⟨m-(i+1),om,i+1,aB rfl,om,?_,rfl⟩;refine⟨?_,?_,J.old,J.nx⟩
   ·rw[(Nx i).2 hr];exact J.ex
   ·rw[J.gD,dB λj _=>by rw[RU hG E (show i<L.length by omega) hr j]]
  have d2:Ib G L i [] i=false:=by
   rw[←Bool.not_eq_true,nG];rintro (⟨j,N,hc⟩|h)
   ·exact hr j N hc
   ·cases h
  rw[d2] at cD
  obtain⟨h8,e8,n8,g8,o8⟩:=pJ h7 D ((rc L.length λj=> .bool (Ib G L i [] j)).set i (.bool true))
  obtain⟨Z,hZ⟩:=exI h8.next
  obtain⟨h9,e9,n9,g9,o9,f9⟩:=dF hZ [aC i]
  have pt:=bN (vs:=rc L.length λj=> .bool (Ib G L i [] j)) (off:=i) (by rw[kH];omega)
  clear bx gc sO sR rB rA i1 f8 c5 g1 o1 f1 f3 gB gN gM
  simp(disch:=omega)only[go_sem,d4,c4.ixa,cx h7 b0,cD,J.gD,pt,e8,cT h8 (z:= aC 0) (v:= aC i) rfl rfl,hZ,e9]
  have q5:h7.next=Z:=om
  have a5:(rc L.length λj=>V.bool (Ib G L i [] j)).set i (.bool true)=rc L.length λj=> .bool (Ib G L i [i] j):=by
   rw[mS]
   exact dB λj _=>by
    rw[show [i]= []++ [i] from rfl,Wt]
    by_cases e:j=i
    ·rw[bF e,bF e]
    ·rw[bI e,bI e]
  have e7:Fx (· =D) h7 h9:=⟨om,λq d h2=>by rw[o9 q om,o8 q h2]⟩
  have B0:BQ G L S i [i] 0:=⟨by simp,by simp,rfl,λj N=>by
   obtain rfl:j=i:=by simpa using N
   exact⟨om,Uw hG E om⟩,λk hk=>om⟩
  refine bJ (λvs B=> ∃(Q:List Nat) (q:Nat) (o:Kh),(∃g:Nat->V,vs= [g 0,.ptr A 0,.nilp,aC 0,vL,g 5,.ptr (X+8) 0,g 7,g 8,vS,.sl D 0 m (.kn m),aC i,vx,.sl q 0 Q.length o,g 14,g 15,g 16,g 17,g 18,g 19,g 20,g 21,g 22,g 23,g 24,g 25,g 26,vL,aC m,aC i,g 30,g 31,g 32,g 33,g 34,g 35,g 36,g 37,g 38,g 39,g 40,g 41,g 42,g 43,g 44,g 45])/\
    BQ G L S i Q Q.length/\(o= .un 1∨o= .kn Q.length)/\B.get q=some (.cells false (ints (zi Q)))/\Z<=q/\q<B.next/\B.get D=some (.cells false (rc L.length λj=> .bool (Ib G L i Q j)))/\Fx (· =D) h7 B) ?_ ?_
  ·refine aH (λk' vs B=> ∃(Q:List Nat) (q:Nat) (o:Kh) (p:Nat),(∃g:Nat->V,vs= [g 0,.ptr A 0,.nilp,aC 0,vL,g 5,.ptr (X+8) 0,g 7,g 8,vS,.sl D 0 m (.kn m),aC i,vx,.sl q 0 Q.length o,aC p,g 15,g 16,g 17,g 18,g 19,g 20,g 21,g 22,g 23,g 24,g 25,g 26,vL,aC m,aC i,g 30,g 31,g 32,g 33,g 34,g 35,g 36,g 37,g 38,g 39,g 40,g 41,g 42,g 43,g 44,g 45])/\
    p<=Q.length/\BQ G L S i Q p/\(o= .un 1∨o= .kn Q.length)/\B.get q=some (.cells false (ints (zi Q)))/\Z<=q/\q<B.next/\B.get D=some (.cells false (rc L.length λj=> .bool (Ib G L i Q j)))/\Fx (· =D) h7 B/\k'=m-p) m
    ⟨[i],Z,_,0,aB rfl,iJ _,B0,.inr rfl,g9,fM _,om,by rw[o9 _ om,g8,a5],e7,rfl⟩ ?_
   clear e7 B0 e8 n8 g8 o8 hZ e9 n9 g9 o9 f9 pt a5
   rintro k' K ha ⟨Q,q,o,p,⟨g2,rfl⟩,hp,l,F,gq,hq,nq,gD,Fa,rfl⟩
   have b7:=l.len
   by_cases c7:(p:Int)<(Q.length:Int)
   case neg=>
    have d5:=bH c7;obtain rfl:p=Q.length:=om
    simp(disch:=omega)only[go_sem,d5];exact⟨Q,q,o,aB rfl,l,F,gq,hq,nq,gD,Fa⟩
   have d5:=bP c7
   have U:p<Q.length:=om
   simp(disch:=omega)only[go_sem,d5,q1]
   obtain⟨c,hc⟩:=exI (Q.getD p 0)
   obtain⟨g4,p0⟩:=l.mem c (by rw[←hc];exact bD U)
   have Cp:=lY hG E g4
   refine xE (λvs B=> ∃(Q:List Nat) (q:Nat) (o:Kh),(∃g:Nat->V,vs= [g 0,.ptr A 0,.nilp,aC 0,vL,g 5,.ptr (X+8) 0,g 7,g 8,vS,.sl D 0 m (.kn m),aC i,vx,.sl q 0 Q.length o,aC p,g 15,g 16,g 17,g 18,g 19,g 20,g 21,g 22,g 23,g 24,g 25,g 26,vL,aC m,aC i,g 30,g 31,g 32,g 33,g 34,g 35,g 36,g 37,g 38,g 39,g 40,g 41,g 42,g 43,g 44,g 45])/\
     p<Q.length/\BQ G L S i Q (p+1)/\(o= .un 1∨o= .kn Q.length)/\B.get q=some (.cells false (ints (zi Q)))/\Z<=q/\q<B.next/\B.get D=some (.cells false (rc L.length λj=> .bool (Ib G L i Q j)))/\Fx (· =D) h7 B) ?_ ?_
   ·refine aH (λk' vs B=> ∃(Q:List Nat) (q:Nat) (o:Kh) (t:Nat),(∃g:Nat->V,vs= [g 0,.ptr A 0,.nilp,aC 0,vL,g 5,.ptr (X+8) 0,g 7,g 8,vS,.sl D 0 m (.kn m),aC i,vx,.sl q 0 Q.length o,aC p,g 15,g 16,g 17,g 18,g 19,g 20,g 21,g 22,g 23,g 24,g 25,g 26,vL,aC m,aC i,g 30,g 31,g 32,vS,aC sl,aC t,g 36,g 37,g 38,g 39,g 40,g 41,g 42,g 43,g 44,g 45])/\
     p<Q.length/\t<=sl/\BQ G L S i Q p/\Q.getD p 0=c/\(∀s∈S.take t,∃j∈Q,L.getD j []=cW (L.getD c []) s)/\(o= .un 1∨o= .kn Q.length)/\B.get q=some (.cells false (ints (zi Q)))/\Z<=q/\q<B.next/\B.get D=some (.cells false (rc L.length λj=> .bool (Ib G L i Q j)))/\Fx (· =D) h7 B/\k'=sl-t) sl
     ⟨Q,q,o,0,aB rfl,U,iJ _,l,hc,λs hs=>(by simp at hs),F,gq,hq,nq,gD,Fa,rfl⟩ ?_
    clear l F gq hq nq gD Fa hc U b7 c7 d5 hp
    clear Q q o
    rintro k' K hb ⟨Q,q,o,t,⟨g3,rfl⟩,U,ht,l,hc,d3,F,gq,hq,nq,gD,Fb,rfl⟩
    by_cases j2:(t:Int)<(sl:Int)
    case neg=>
     have d5:=bH j2;obtain rfl:t=sl:=om
     simp(disch:=omega)only[go_sem,d5];refine⟨Q,q,o,aB rfl,U,⟨l.nd,l.ne,l.hd,l.mem,λk hk s hs=>?_⟩,F,gq,hq,nq,gD,Fb⟩
     by_cases e:k=p
     ·subst e
      rw[hc];exact d3 s (by rw[←f0,List.take_length];exact hs)
     ·exact l.cl k om s hs
    have d5:=bP j2
    have m2:t<sl:=om
    have b7:=l.len
    have nb:=Fb.next
    have f4:Fx (λq=>q=X+8∨D<=q) h5 hb:=⟨by have:=J.old.next;omega,λq d h2=>by rw[Fb.get q om (λe=>h2 (.inr (by have:q=D:=e;omega)))];exact J.old.get q d h2⟩
    have b9:Fr h2 hb:=⟨om,λq hq=>by rw[Fb.get q om (λe=>by have:q=D:=e;omega)];exact b0.get q hq⟩
    obtain⟨vy,cy,py⟩:=o3 t m2
    obtain⟨vz,cz,sz⟩:=f7 c om
    obtain⟨s,hs⟩:=exI (S.getD t [])
    rw[hs] at py
    have c2:s∈S:=by rw[←hs];exact bD om
    have Sp:=hG.cU (a2 s c2)
    have cq:hb.cell q p=some (aC c):=by rw[H.aF gq,Ip U,hc]
    simp(disch:=omega)only[go_sem,d5,i8.ixa,cy hb f4,cq,c4.ixa,cz hb b9]
    refine (Ce uG.ok vy n s _ om Sp ((py.fx f4).si.mono ((Fr.refl hb).bA om))).mono ?_
    rintro p8 k1 g0
    have K1:Fr hb k1:=((Fr.refl hb).bA om).trans g0.fr
    have m3:k1.cell q p=some (aC c):=by rw[K1.cell nq];exact cq
    have ez:=sz.dE
    simp(disch:=omega)only[go_sem,m3,cz k1 (b9.trans K1),ez]
    refine (Ws p8 vz (dA s) (L.getD c []) k1 (by rw[jQ,Sp.len];omega) (g0.pv (W:=λ_=>False) id).si (sz.mono (b9.trans K1)) (λj N=>by rw[Cp.len];exact Sp.inv.iN (by rw[←Sp.inv.len];exact N))).mono ?_
    rintro m1 k2 k0
    have K2:=K1.trans k0.fr
    have P2:=Sp.inv.mul Cp
    simp(disch:=omega)only[go_sem]
    refine (Ws m1 vy _ s k2 (by rw[P2.len];omega) (k0.pv (W:=λ_=>False) id).si ((py.fx f4).si.mono K2) (λj N=>by rw[Sp.len];exact P2.iN (by rw[←P2.len];exact N))).mono ?_
    rintro m0 k3 j7
    have K3:=K2.trans j7.fr
    have P3:=P2.mul Sp
    have l4:k3.cell q p=some (aC c):=by rw[K3.cell nq];exact cq
    have d7:=(j7.pv (W:=λ_=>False) id).si
    have q6:=d7.cK.2.1
    have d6: ∃vK,k3.get (X+8)=some (.cells false [vL,.mp (X+3),vK,.sl (X+6) 0 L.length (.kn L.length)]):=by
     obtain⟨vK,_,_,gB,_⟩:=J.ex;exact⟨vK,by rw[K3.get _ om,Fb.get _ om (λe=>by have:X+8=D:=e;omega)];exact gB⟩
    obtain⟨vK,d6⟩:=d6
    have l0:k3.cell (X+8) 1=some (.mp (X+3)):=by rw[H.aF d6];rfl
    obtain⟨j,N,ej⟩: ∃j,j<L.length/\L.getD j []=cW (L.getD c []) s:=by
     have o7:cW (L.getD c []) s∈L:=(E.mem _).2 (hG.mul (hG.mul (hG.inv (a2 s c2)) (oS E g4)) (a2 s c2));obtain⟨j,N,ej⟩:=zF.1 o7;exact⟨j,N,by rw[List.getD,dD N,←ej];rfl⟩
    have p2:aX (aX (dA s) (L.getD c [])) s=L.getD j []:=ej.symm
    rw[p2] at d7
    simp(disch:=omega)only[go_sem,l4,cz k3 (b9.trans K3),l0,ez]
    refine (FV m0 (L.getD j []) _ (a0 j om).1 (a0 j om).2 (d7.mono ((Fr.refl k3).bA om))).mono ?_
    rintro _ k4 ⟨rfl,o2⟩
    have j6:Fr k3 k4:=((Fr.refl k3).bA om).trans o2
    have K4:=K3.trans j6
    have q8:=K3.next
    have c9:k4.get (X+3)=some (.wmap .str (Ie L L.length)):=by
     rw[K4.get _ om,Fb.get _ om (λe=>by have:X+3=D:=e;omega),J.old.get _ om om,f5.get _ om,hm];exact a8
    have i2:k4.cell (X+8) 1=some (.mp (X+3)):=by rw[j6.cell om];exact l0
    have lk:=λz=>Np E.nodup N (hK j om) z
    have c0:k4.cell D j=some (.bool (Ib G L i Q j)):=by rw[K4.cell om];exact Bw gD N
    have l1:cR G L i j:=wJ hG E om p0 ⟨s,a2 s c2,ej.symm⟩
    have i4:S.take (t+1)=S.take t++ [s]:=by rw[cE [] om,hs]
    have j0:k4.get q=some (.cells false (ints (zi Q))):=by rw[K4.get _ nq];exact gq
    have l3:k4.get D=some (.cells false (rc L.length λj=> .bool (Ib G L i Q j))):=by rw[K4.get _ om];exact gD
    have i3:Fx (· =D) h7 k4:=⟨by have:=K4.next;omega,λq d h2=>by rw[K4.get q om];exact Fb.get q d h2⟩
    cases hsn2:Ib G L i Q j with
    |true=>
     rw[hsn2] at c0
     have d1:j∈Q:=by
      rcases nG.1 hsn2 with ⟨i0,d,a6⟩|d
      ·exact absurd (wJ hG E om a6 (Ls hG E om l1)) (hr i0 d)
      ·exact d
     simp(disch:=omega)only[go_sem,i2,c9,lk,c0];rw[eJ t];refine⟨by simp [dE],sl-(t+1),om,Q,q,o,t+1,aB rfl,U,om,l,hc,?_,F,j0,hq,by have:=K4.next;omega,l3,i3,rfl⟩;rw[i4];intro s' b8;rcases pH.1 b8 with d|d
     ·exact d3 s' d
     ·obtain rfl:s'=s:=by simpa using d
      exact⟨j,d1,ej⟩
    |false=>
     rw[hsn2] at c0;have d1:j∉Q:=λd=>by rw[nG.2 (.inr d)] at hsn2;cases hsn2
     obtain⟨k5,e5,m5,g5,o5⟩:=pJ k4 D ((rc L.length λj=> .bool (Ib G L i Q j)).set j (.bool true));obtain⟨Y,hY⟩:=exI k5.next;obtain⟨k6,p9,m6,l9,e0,r1⟩:=dF hY [aC j];have pt:=bN (vs:=rc L.length λj=> .bool (Ib G L i Q j)) (off:=j) (by rw[kH];exact N);have nk:=K4.next;have l5:k6.get q=some (.cells false (ints (zi Q))):=by rw[e0 _ om,o5 _ om];exact j0
     have o0:cY k6 (.sl q 0 Q.length o) 1 (ints (zi Q)) 0:= .inr ⟨q,Q.length,o, [],rfl,by rw[aP,aQ];simp,by rcases F with d|d;exact .inl d;exact .inr ⟨d,rfl⟩,iJ _,om,by rw[vF];exact l5⟩;obtain⟨k7,a7,p7⟩:=o0.push (bytes:=8) (SV.one (v:= aC j) (id:=Y) om l9 (.kn 1)) (n:=Q.length) (m:=1) (by rw[aP,aQ];simp) rfl om om om;simp(disch:=omega)only[go_sem,i2,c9,lk,c0,l3,pt,e5,cT k5 (z:= aC 0) (v:= aC j) rfl rfl,hY,p9,a7];rw[eJ t];have el:ints (zi (Q++ [j]))=ints (zi Q)++ [aC j]:=by simp [zi,ints]
     have m7:=p7.next;have q0:dL (.sl q 0 Q.length o) D:=λid off n c e e2=>by cases e;omega
     have a5:(rc L.length λj'=>V.bool (Ib G L i Q j')).set j (.bool true)=rc L.length λj'=> .bool (Ib G L i (Q++ [j]) j'):=by
      rw[mS]
      exact dB λj' _=>by
       rw[Wt]
       by_cases e:j'=j
       ·rw[bF e,bF e]
       ·rw[bI e,bI e]
     refine⟨by simp [dE],sl-(t+1),om,Q++ [j],k6.next,.un 1,t+1,by rw[jZ];exact aB rfl,by rw[jZ];omega,om,⟨?_,by rw[jZ];simp,?_,?_,?_⟩,?_,?_,.inl rfl,by rw[el];exact p7.get,om,om,?_,?_,rfl⟩
     ·rw[List.nodup_append]
      exact⟨l.nd,by simp,λx hx y hy e=>by
       obtain rfl:y=j:=by simpa using hy
       exact d1 (e▸hx)⟩
     ·rw[List.getD,Dv l.ne];exact l.hd
     ·intro x hx
      rcases pH.1 hx with d|d
      ·exact l.mem x d
      ·obtain rfl:x=j:=by simpa using d
       exact⟨N,l1⟩
     ·intro k hk s' b8
      obtain⟨y,hy,ey⟩:=l.cl k hk s' b8;refine⟨y,pH.2 (.inl hy),?_⟩;rw[ey,List.getD,List.getD,List.getD,List.getD,Dv om]
     ·rw[List.getD,Dv U];exact hc
     ·rw[i4]
      intro s' b8;rcases pH.1 b8 with d|d
      ·obtain⟨y,hy,ey⟩:=d3 s' d
       exact⟨y,pH.2 (.inl hy),ey⟩
      ·obtain rfl:s'=s:=by simpa using d
       exact⟨j,pH.2 (.inr (by simp)),ej⟩
     ·rw[p7.old D om q0,e0 D om,g5,a5]
     ·refine⟨om,λx d h2=>?_⟩
      rw[p7.old x om (λid off n c e e2=>by cases e;omega),e0 x om,o5 x h2];exact i3.get x d h2
   clear l F gq hq nq gD Fa hc c7 d5 hp U b7
   clear Q q o
   rintro K hb ⟨Q,q,o,⟨g3,rfl⟩,U,a4,F,gq,hq,nq,gD,Fb⟩
   have b7:=a4.len
   simp(disch:=omega)only[go_sem]
   rw[eJ p]
   exact⟨m-(p+1),om,Q,q,o,p+1,aB rfl,om,a4,F,gq,hq,nq,gD,Fb,rfl⟩
  clear e7 B0 e8 n8 g8 o8 hZ e9 n9 g9 o9 f9 pt a5
  rintro K hb ⟨Q,q,o,⟨g3,rfl⟩,a4,F,gq,hq,nq,gD,Fb⟩
  have b7:=a4.len
  have nb:=Fb.next
  have i5:=Lm hb q (zi Q) o (by rw[aQ];omega) gq nq
  rw[aQ] at i5
  simp(disch:=omega)only[go_sem]
  refine i5.mono ?_
  rintro _ ka ⟨l',gl,pl,al,Fa⟩
  obtain rfl:=a4.sort hG E (fM _) om a2 b1 pl al
  have j3:Q.length=(kY G L i).length:=by have:=pl.length_eq;rw[aQ,aQ] at this;exact this.symm
  have na:=Fa.next
  have p1:Fr h2 ka:=⟨om,λx hx=>by rw[Fa.get x om (λe=>by have:x=q:=e;omega),Fb.get x om (λe=>by have:x=D:=e;omega)];exact b0.get x hx⟩
  have X1:=lY hG E (show i<L.length by omega)
  simp(disch:=omega)only[go_sem]
  refine (SH vx n (L.getD i []) ka n0 n7 X1 (sx.mono p1)).mono ?_
  rintro _ kb ⟨rfl,fb⟩
  have r3:=fb.next
  obtain⟨vK,ks,WK,gB,b3,aK,bK,wD,wB,wN,wn,wX,_⟩:=J.ex
  have r6:=aM.length aK
  have i7:kb.get (X+8)=some (.cells false [vL,.mp (X+3),vK,.sl (X+6) 0 L.length (.kn L.length)]):=by
   rw[fb.get _ om,Fa.get _ om (λe=>by have:X+8=q:=e;omega),Fb.get _ om (λe=>by have:X+8=D:=e;omega)];exact gB
  have c3:kb.cell (X+8) 2=some vK:=by rw[H.aF i7];rfl
  have b5:=sx.cK.2.1
  have r5:=b3.sv.dE
  obtain⟨Y,hY⟩:=exI kb.next
  obtain⟨kc,ec,mc,m4,oc,fc⟩:=dF hY [vx,aC (qF (L.getD i []) n:Nat),aC (Q.length:Int),.sl q 0 Q.length o]
  have b2: ∀x,x<Z->x≠D->kc.get x=h7.get x:=λx d h2=>by
   rw[oc x om,fb.get x om,Fa.get x om (λe=>by have:x=q:=e;omega),Fb.get x om h2]
  have l2:cY kc vK 4 (Cls.qY ks) (D+1):=b3.mono om λid off n' c e d h2=>b2 id om om
  have lr:=Co (G:=G) (L:=L) i
  obtain⟨kd,ad,pd⟩:=l2.push (bytes:=64) (y:= .sl Y 0 1 (.kn 1)) (us:= [vx,aC (qF (L.getD i []) n:Nat),aC (Q.length:Int),.sl q 0 Q.length o]) (SV.all rfl om m4 _) (n:=ks.length) (m:=1) (Re ks) rfl om om om
  have md:=pd.next
  have n2:dL vK (X+8):=λid off n' c e e2=>by have:=(b3.in _ _ _ _ e).2.1;omega
  have p5:kd.get (X+8)=some (.cells false [vL,.mp (X+3),vK,.sl (X+6) 0 L.length (.kn L.length)]):=by
   rw[pd.old _ om n2,oc _ om];exact i7
  obtain⟨ke,ee,me,ge,oe⟩:=pJ kd (X+8) [vL,.mp (X+3),.sl kc.next 0 (ks.length+1) (.un 4),.sl (X+6) 0 L.length (.kn L.length)]
  simp(disch:=omega)only[go_sem,c3,JS sx.cK.1 b5,MT b5 (w:= .sl q 0 Q.length o) rfl rfl,MI b5 (w:= .sl q 0 Q.length o) rfl,hY,ec,ad,p5,HY,ee]
  rw[eJ i]
  have i9: ∀x,x<Z-> ¬WK x->ke.get x=h7.get x:=λx d h2=>by
   rw[oe x (λe=>h2 (e▸wB)),pd.old x om (λid off n' c e e2=>h2 (e2▸bK _ _ _ _ e)),b2 x d (λe=>h2 (e▸wD))]
  have FK:Fx WK h7 ke:=⟨om,λx d h2=>i9 x om h2⟩
  have l8:Fr h2 ke:=⟨om,λx hx=>by rw[i9 x om (λd=>by have:=wX x d;omega)];exact b0.get x hx⟩
  have i6:Cls.qY (ks++ [⟨vx,qF (L.getD i []) n,Q.length,.sl q 0 Q.length o,i,⟨sx.cK.1,b5,sx.dE⟩,⟨rfl,rfl,by simp [dE]⟩⟩])=Cls.qY ks++ [vx,aC (qF (L.getD i []) n:Nat),aC (Q.length:Int),.sl q 0 Q.length o]:=by
   simp [Cls.qY,Cls.KE.enc]
  refine⟨m-(i+1),om,i+1,aB rfl,om,⟨⟨_,ks++ [⟨vx,qF (L.getD i []) n,Q.length,.sl q 0 Q.length o,i,⟨sx.cK.1,b5,sx.dE⟩,⟨rfl,rfl,by simp [dE]⟩⟩],λx=>WK x∨x=kc.next,ge,?_,?_,λid off n' c e=>by cases e;exact .inr rfl,   .inl wD,.inl wB,.inl wN,λx h=>by rcases h with h|h;have:=wn x h;omega;omega,λx h=>by rcases h with h|h;exact wX x h;omega,.inr ⟨_,_,by rw[jZ];rfl,?_⟩⟩,?_,?_,om⟩,rfl⟩
  ·rw[i6]
   exact (pd.own (b:=D+1) (Re ks) rfl om).mono om λid off n' c e d h2=>by cases e;exact oe _ om
  ·rw[(Nx i).1 hr]
   refine aM.append (aK.mono λa r k=>k.go FK om wX λx d h2=>by rcases h2 with h2|h2;exact h2;omega) ⟨⟨rfl,rfl,j3,⟨sx.mono l8,?_⟩,⟨?_,?_⟩⟩,trivial⟩
   ·rw[←hX];exact afI sx
   ·rw[j3]
    refine SV.all (ro:=false) (by rw[aP,aQ,uW]) om ?_ _
    rw[oe q om,pd.old q om (λid off n' c e e2=>by have:=wn _ (bK _ _ _ _ e);omega),oc q om,fb.get q om]
    exact gl
   ·exact λh=>by rcases h with h|h;have:=wn _ h;omega;omega
  ·rw[i6,oe _ om];exact pd.get
  ·rw[oe D om,pd.old D om (λid off n' c e e2=>by have:=(b3.in _ _ _ _ e).2.1;omega),oc D om,fb.get D om,Fa.get D om (λe=>by have:D=q:=e;omega),gD,dB λj N=>by rw[NU hG E (show i<L.length by omega) a4 a2 b1 N]]
  ·refine⟨by have:=J.old.next;omega,λx d h2=>?_⟩
   have p3:x≠X+8:=λe=>h2 (.inl e)
   have r0:x<D:=om
   rw[oe x p3,pd.old x om (λid off n' c e e2=>by have:=(b3.in _ _ _ _ e).2.1;omega),b2 x om om]
   exact J.old.get x d h2
 rintro K h7 ⟨⟨g,rfl⟩,J⟩
 exact hk L X D vL h2 h5 h7 A g hL ⟨E,om,f1.trans f2,hX,nw.sp,d9,om,hD,by rw[f5.get _ om,hm];exact a8,by rw[f5.get _ om,hm];exact f8,by rw[hm];exact J⟩
end
open Classical in
noncomputable def UN (G:List Nat->Prop)(L:LN)(K:List Nat)(j:Nat):Nat:=K.findIdx λr=>decide (cR G L r j)
structure KR (n:Nat)(G:List Nat->Prop)(L:LN)(hh:H)(a:Cls.KE)(r:Nat):Prop where
 fst:a.fst=r
 ord:a.ord=qF (L.getD r []) n
 size:a.size=(kY G L r).length
 rep:SI hh a.rep (zi (L.getD r []))
 ranks:SI hh a.ranks (zi (kY G L r))
theorem KR.mono {n:Nat}{G:List Nat->Prop}{L:LN}{h h':H}{a:Cls.KE}{r:Nat}(k:KR n G L h a r)(f:Fr h h'):KR n G L h' a r:=⟨k.fst,k.ord,k.size,k.rep.mono f,k.ranks.mono f⟩
def kLt (n:Nat)(G:List Nat->Prop)(L:LN)(r s:Nat):Prop:=qF (L.getD r []) n<qF (L.getD s []) n∨qF (L.getD r []) n=qF (L.getD s []) n/\((kY G L r).length<(kY G L s).length∨(kY G L r).length=(kY G L s).length/\r<s)
structure Cm (n:Nat)(G:List Nat->Prop)(L:LN)(K:List Nat):Prop where
 perm:K.Perm (jW G L L.length)
 asc:K.Pairwise (kLt n G L)
structure acQ (n:Nat)(G:List Nat->Prop)(L:LN)(K:List Nat)(hh:H)(v:V):Prop where
 ex: ∃B M N S cp vL ks,v= .ptr B 0/\B<hh.next/\M<hh.next/\N<hh.next/\S<hh.next/\hh.get B=some (.cells false [vL,.mp M,.sl S 0 K.length cp,.sl N 0 L.length (.kn L.length)])/\
  hh.get M=some (.wmap .str (Ie L L.length))/\hh.get N=some (.cells false (rc L.length λj=> aC (UN G L K j:Nat)))/\hh.get S=some (.cells false (Cls.qY ks))/\aM (KR n G L hh) ks K/\SP hh vL L
theorem acQ.mono {n:Nat}{G:List Nat->Prop}{L:LN}{K:List Nat}{h h':H}{v:V}(g:acQ n G L K h v)(f:Fr h h'):acQ n G L K h' v:=by
 obtain⟨B,M,N,S,o,p,r,e,d,m,c,l,j,b,q,i,a,sp⟩:=g.ex;have s:=f.next;exact⟨B,M,N,S,o,p,r,e,om,om,om,om,by rw[f.get _ d];exact j,by rw[f.get _ m];exact b,by rw[f.get _ c];exact q,by rw[f.get _ l];exact i,a.mono λ_ _ k=>k.mono f,sp.mono f⟩
section
variable {n:Nat} {G:List Nat->Prop} {L:LN} {K:List Nat} (hG:iX n G) (E:dW G L)
include hG E
omit hG E in
theorem Lz (a:0<L.length):0∈jW G L L.length:=kV.2 ⟨a,λj b=>om⟩
theorem XJ (l:K.Perm (jW G L L.length)){k:Nat}(d:k<K.length){j:Nat}(s:j∈kY G L (K.getD k 0)):UN G L K j=k:=by
 classical
 obtain⟨q,c⟩:=tA.1 s;have b:K.Nodup:=l.nodup_iff.2 (by unfold jW;exact List.Pairwise.filter _ List.nodup_range);have o: ∀r∈K,r<L.length/\HV G L r:=λr p=>kV.1 (l.mem_iff.1 p)
 unfold UN;rw[List.findIdx_eq d];have t:K.getD k 0=K[k]:=Pm.cJ d;rw[t] at c;refine⟨by simpa using c,λi hi=>?_⟩;simp only[decide_eq_false_iff_not];intro a;have h:=o K[i] (zG _);have m:=o K[k] (zG _);have:=VQ hG E h.1 m.1 h.2 m.2 a c;have f:=JX.1 b i k om d hi;exact f this
theorem MF (f:K.Perm (jW G L L.length)){j:Nat}(b:j<L.length): ∃k,k<K.length/\j∈kY G L (K.getD k 0):=by
 obtain⟨r,l,i,c⟩:=Vo hG E b;have d:r∈K:=f.mem_iff.2 (kV.2 ⟨om,i⟩);obtain⟨k,a,h⟩:=zF.1 d;exact⟨k,a,tA.2 ⟨b,by rw[Pm.cJ a,h];exact c⟩⟩
end
open Classical in
noncomputable def Qd (G:List Nat->Prop)(L:LN)(K:List Nat)(k t j:Nat):Nat:=if (∃k0,k0<k/\j∈kY G L (K.getD k0 0))∨j∈(kY G L (K.getD k 0)).take t then UN G L K j else 0
theorem RL (G:List Nat->Prop)(L:LN)(K:List Nat)(j:Nat):Qd G L K 0 0 j=0:=by
 classical
 unfold Qd;rw[bI];rintro (⟨a,h,_⟩|h)
 ·omega
 ·simp at h
theorem VY (G:List Nat->Prop)(L:LN)(K:List Nat)(k j:Nat):Qd G L K k (kY G L (K.getD k 0)).length j=Qd G L K (k+1) 0 j:=by
 classical
 unfold Qd;rw[List.take_length,List.take_zero]
 have e:((∃a,a<k/\j∈kY G L (K.getD a 0))∨j∈kY G L (K.getD k 0))↔((∃a,a<k+1/\j∈kY G L (K.getD a 0))∨j∈([]:List Nat)):=by
  constructor
  ·rintro (⟨a,c,b⟩|h)
   ·exact .inl ⟨a,om,b⟩
   ·exact .inl ⟨k,om,h⟩
  ·rintro (⟨a,c,b⟩|h)
   ·by_cases e:a=k
    ·subst e;exact .inr b
    ·exact .inl ⟨a,om,b⟩
   ·cases h
 by_cases h:((∃a,a<k/\j∈kY G L (K.getD a 0))∨j∈kY G L (K.getD k 0))
 ·rw[bF h,bF (e.1 h)]
 ·rw[bI h,bI (λx=>h (e.2 x))]
theorem PO {n:Nat}{G:List Nat->Prop}{L:LN}{K:List Nat}(hG:iX n G)(E:dW G L)(c:K.Perm (jW G L L.length)){k:Nat}(b:k<K.length){t:Nat}(a:t<(kY G L (K.getD k 0)).length)(j:Nat):
  Qd G L K k (t+1) j=if j=(kY G L (K.getD k 0)).getD t 0 then k else Qd G L K k t j:=by
 classical
 by_cases e:j=(kY G L (K.getD k 0)).getD t 0
 ·rw[bF e]
  have d:j∈kY G L (K.getD k 0):=by rw[e];exact bD a
  unfold Qd
  rw[bF (.inr (by rw[cE 0 a,e];simp))]
  exact XJ hG E c b d
 ·rw[bI e]
  unfold Qd
  rw[cE 0 a]
  simp only[pH,List.mem_singleton,e,or_false]
theorem QO {n:Nat}{G:List Nat->Prop}{L:LN}{K:List Nat}(hG:iX n G)(E:dW G L)(b:K.Perm (jW G L L.length)){j:Nat}(d:j<L.length):Qd G L K K.length 0 j=UN G L K j:=by
 classical
 obtain⟨k,a,c⟩:=MF hG E b d;unfold Qd;rw[bF (.inl ⟨k,a,c⟩)]
theorem Jl {h:H}{S:Nat}{ro:Bool}: ∀{ks:List Cls.KE} {pre:List V},h.get S=some (.cells ro (pre++Cls.qY ks))-> ∀{i:Nat} (hi:i<ks.length),h.row S (pre.length+i*4) 4=some ks[i].enc
 | [],_,_,_,hi=>by simp at hi
 |a::r,pre,g,0,_=>by
  unfold H.row;rw[g];show sub (pre++(a.enc++Cls.qY r)) (pre.length+0*4) 4=some a.enc;simp only[sub,Nat.zero_mul,Nat.add_zero];have:a.enc.length=4:=rfl;rw[bF (by rw[jZ,jZ];omega),List.drop_left,List.take_append,Tn om,this];simp
 |a::r,pre,g,i+1,hi=>by
  have b:h.get S=some (.cells ro ((pre++a.enc)++Cls.qY r)):=by rw[g,Ll];rfl
  have:=Jl b (i:=i) (by simpa using hi);rw[jZ,show a.enc.length=4 from rfl] at this;rw[show pre.length+(i+1)*4=pre.length+4+i*4 by omega];simpa using this
theorem VP (h:H)(id off:Nat)(a:Cls.KE):Wj h 4 (.ptr id off) (.agg a.enc)=dX (h.get id) h id off a.enc:=Cd h id off 4 _ rfl (by simp [Cls.KE.enc,a.hrep.2.1,a.hranks.2.1,show (aC (a.ord:Int)).one=true from rfl,show (aC (a.size:Int)).one=true from rfl])
theorem SD (b:H)(id:Nat)(a:Cls.KE)(x y z w:V):dX (some (.cells false [x,y,z,w])) b id 0 a.enc=some (b.set id (some (.cells false a.enc))):=by
 simp [dX,putAt,Cls.KE.enc]
theorem aM.ex {α β:Type}{R:α->β->Prop}{d:List α}{c:List β}(h:aM R d c){a:α}(f:a∈d): ∃b∈c,R a b:=by
 obtain⟨i,hi,rfl⟩:=zF.1 f;have j:=aM.length h;exact⟨c[i]'om,zG _,aM.get h i hi om⟩
theorem SI.lit {h:H}{v:V}{l:List Int}(s:SI h v l)(w:0<l.length): ∃id off m cap,v= .sl id off (m+1) cap/\m+1=l.length/\id<h.next/\ ∀i,i<l.length->h.cell id (off+i)=some (aC (l.getD i 0)):=by
 obtain⟨id,off,q,j,f⟩:=s.open;rcases s with ⟨_,p⟩|⟨c,a,len,cap,u,t,e,k,d,_⟩
 ·have:l.length=0:=by rw[←aP,p];rfl
  omega
 ·rw[aP,uW] at k
  have b:=q.ixa .i64 0 om om;subst e;rw[Lg om om] at b;simp only[Option.some.injEq,V.ptr.injEq] at b;obtain⟨rfl,r⟩:=b;have o:a=off:=om
  subst o;exact⟨c,a,l.length- 1,cap,by rw[show l.length- 1+1=len by omega],om,d,f⟩
theorem ahJ {W0:Nat->Prop}(vc:V)(n:Nat)(O:LN)(R:jI)(G:List Nat->Prop)(h:H)(gc:GC W0 h vc n O R G):
  Ev T 139 [vc] h (λv h'=> ∃p K,v= .tup [p,aC 0]/\acQ n G (cZ O R n 0 (bL n)) K h' p/\Cm n G (cZ O R n 0 (bL n)) K/\Fr h h'):=by
 refine WY vc n O R G h gc _ λL X D vL s h5 J A g hL e=>?_
 rw[hL]
 have hG:=gc.dN
 have E:=e.el
 obtain⟨vK,P,WK,gB,c5,aK,bK,wD,wB,wN,wn,wX,xK⟩:=e.j.ex
 have Z:=aM.length aK
 obtain⟨m,hm⟩:=exI L.length
 have h0:0<L.length:=HJ ((E.mem _).2 hG.one)
 have c6:0<P.length:=by rw[Z];exact HJ (Lz h0)
 obtain⟨S,cp,rfl,gS⟩: ∃id a4,vK= .sl id 0 P.length a4/\J.get id=some (.cells false (Cls.qY P)):=by
  rcases xK with l|l
  ·subst l;simp at c6
  ·exact l
 have wS:=bK _ _ _ _ rfl
 have nS:=wn _ wS
 have e6:J.cell (X+8) 2=some (.sl S 0 P.length cp):=by rw[H.aF gB];rfl
 show Wp T none (Tz 2 mL.fn.body) _ J _
 simp(disch:=omega)only[go_sem,Tz,QT,mL,e6]
 have hR: ∀r∈jW G L L.length,r<L.length/\HV G L r:=λr N=>kV.1 N
 have d2: ∀a∈P,a.Pp J J.next S:=λa W=>by
  obtain⟨r,N,k⟩:=aM.ex aK W;obtain⟨a3,a5⟩:=hR r N;obtain⟨l1,l2⟩:=Sr hG E a3 a5;obtain⟨id,off,m',a4,e1,e2,e3,e4⟩:=SI.lit k.ranks.si (by rw[aQ];exact l1);have ho:=k.ranks.off;rw[e1] at ho;refine⟨id,off,m',a4,e1,e3,λl=>ho (l▸wS),?_⟩;have:=e4 0 (by rw[aQ];exact l1);rw[Nat.add_zero] at this;rw[this,zi,nP _ (d:=0) l1,l2,k.fst]
 refine (Cls.TY J S J.next P cp (by rw[Z];have:=Co (G:=G) (L:=L) L.length;have:=e.le;omega) gS nS (fM _) d2).mono ?_
 rintro _ y ⟨o,a8,pm,d1,F8⟩
 obtain⟨K,hK⟩:=exI (o.map (λa:Cls.KE=>a.fst))
 have U:K.length=P.length:=by rw[←hK,jV];exact pm.length_eq
 have d7:P.map (λa:Cls.KE=>a.fst)=jW G L L.length:=by
  refine List.ext_getElem (by rw[jV];exact Z) λi l s=>?_
  rw[List.getElem_map];exact (aM.get aK i (by simpa using l) s).fst
 have pK:K.Perm (jW G L L.length):=by rw[←hK,←d7];exact pm.map _
 have kK: ∀a∈o,KO n G L X WK J a a.fst:=λa W=>by
  obtain⟨r,N,k⟩:=aM.ex aK (pm.mem_iff.1 W);rw[k.fst];exact k
 have FK:Fx WK J y:=⟨F8.next,λq l s=>F8.get q l λh3=>s (by have:q=S:=h3;rw[this];exact wS)⟩
 have c7: ∀a∈o,KO n G L X WK y a a.fst:=λa W=>(kK a W).go FK (by have:=wX S wS;omega) wX λ_ _ l=>l
 have e9:=(c5.in _ _ _ _ rfl).2.1
 have xD:=e.xD
 have n8:=F8.next
 have a0:y.get (X+8)=some (.cells false [vL,.mp (X+3),.sl S 0 P.length cp,.sl (X+6) 0 L.length (.kn L.length)]):=by
  rw[F8.get _ (wn _ wB) (λl=>by have:X+8=S:=l;omega)];exact gB
 have b7:y.cell (X+8) 2=some (.sl S 0 P.length cp):=by rw[H.aF a0];rfl
 have d6:J.get (X+6)=some (.cells false (rc L.length λ_=> aC 0)):=by
  rw[e.j.old.get _ (by rw[e.n5];omega) om];exact e.gN
 have c4:y.get (X+6)=some (.cells false (rc L.length λj=> aC (Qd G L K 0 0 j:Nat))):=by
  rw[F8.get _ (wn _ wN) (λl=>by have:X+6=S:=l;omega),d6,show (λj=>aC (Qd G L K 0 0 j:Nat))=λ_=>aC 0 from funext λj=>by rw[RL];rfl]
 have a9: ∀k,k<K.length-> ∃a,o[k]? =some a/\KO n G L X WK y a (K.getD k 0):=λk hk=>by
  have w:k<o.length:=by rw[pm.length_eq,←U];exact hk
  refine⟨o[k],dD w,?_⟩;have:=c7 _ (zG w);have e2:K.getD k 0=(o[k]).fst:=by rw[Pm.cJ hk];subst hK;rw[List.getElem_map]
  rw[e2];exact this
 have le:=e.le
 have e8:K.length<=L.length:=by rw[U,Z];exact Co _
 have nN:=wn _ wN
 rw[←U] at b7 a0
 simp(disch:=omega)only[go_sem,b7]
 refine bJ (λvs u=>(∃g:Nat->V,vs= [g 0,g 1,.nilp,aC 0,g 4,g 5,.ptr (X+8) 0,g 7,g 8,g 9,g 10,g 11,g 12,g 13,g 14,g 15,g 16,g 17,g 18,g 19,g 20,g 21,g 22,g 23,g 24,g 25,g 26,g 27,g 28,g 29,g 30,g 31,g 32,g 33,g 34,g 35,g 36,g 37,g 38,g 39,g 40,g 41,g 42,g 43,g 44,g 45])/\u.get (X+6)=some (.cells false (rc L.length λj=> aC (Qd G L K K.length 0 j:Nat)))/\Fx (· =X+6) y u) ?_ ?_
 ·refine aH (λk' vs u=> ∃(k:Nat),(∃g:Nat->V,vs= [g 0,g 1,.nilp,aC 0,g 4,g 5,.ptr (X+8) 0,g 7,g 8,g 9,g 10,g 11,g 12,g 13,g 14,g 15,g 16,g 17,g 18,g 19,g 20,g 21,g 22,g 23,g 24,g 25,g 26,g 27,g 28,g 29,g 30,g 31,g 32,g 33,g 34,g 35,g 36,g 37,.sl S 0 K.length cp,aC (K.length:Int),aC k,g 41,g 42,g 43,g 44,g 45])/\k<=K.length/\u.get (X+6)=some (.cells false (rc L.length λj=> aC (Qd G L K k 0 j:Nat)))/\Fx (· =X+6) y u/\k'=K.length-k) K.length
   ⟨0,aB rfl,iJ _,c4,Fx.refl _ _,rfl⟩ ?_
  rintro k' F h9 ⟨k,⟨g,rfl⟩,hk,B,z,rfl⟩
  have n9:=z.next
  by_cases b3:(k:Int)<(K.length:Int)
  case neg=>
   have d4:=bH b3;obtain rfl:k=K.length:=om
   simp(disch:=omega)only[go_sem,d4];exact⟨aB rfl,B,z⟩
  have d4:=bP b3
  have w:k<K.length:=om
  obtain⟨a,ea,ko⟩:=a9 k w
  have b1:k<o.length:=by rw[pm.length_eq,←U];exact w
  have a2:o[k]=a:=by rw[dD b1] at ea;simpa using ea
  have d0:h9.get S=some (.cells false (Cls.qY o)):=by rw[z.get _ om (λl=>by have:S=X+6:=l;omega)];exact a8
  have b4:h9.row S (k*4) 4=some a.enc:=by
   have:=Jl (pre:= []) (by simpa using d0) b1;rw[a2] at this;simpa using this
  obtain⟨Y,hY⟩:=exI h9.next
  obtain⟨W,b2,na,ga,oa,fa⟩:=dF hY [.aE,aC 0,aC 0,.aE]
  obtain⟨hb,b0,nb,gb,ob⟩:=pJ W Y a.enc
  have c0:hb.cell Y 3=some a.ranks:=by rw[H.aF gb];rfl
  have lr:=ko.ranks.si.lens
  rw[aQ] at lr
  obtain⟨r,N⟩:=exI (K.getD k 0)
  rw[N] at ko lr
  simp(disch:=omega)only[go_sem,d4,b4,hY,b2,VP,ga,SD,b0,c0,lr]
  have d8:r∈jW G L L.length:=by rw[←N];exact pK.mem_iff.1 (bD w)
  obtain⟨a3,a5⟩:=hR r d8
  obtain⟨l1,l2⟩:=Sr hG E a3 a5
  obtain⟨Q,a1,mR,b6,e1,e2,e3,e4⟩:=SI.lit ko.ranks.si (by rw[aQ];exact l1)
  have ho:=ko.ranks.off
  rw[e1] at ho
  have d9:Q≠X+6:=λl=>ho (l▸wN)
  obtain⟨c,hc⟩:=exI ((kY G L r).length)
  rw[aQ,hc] at e2 e4
  have f0:c<=L.length:=by
   rw[←hc];have:=List.Nodup.length_le_of_subset (Oz (G:=G) (L:=L) r) (l₂:=List.range L.length) λj hj=>Gu.2 (tA.1 hj).1
   rwa [NM] at this
  rw[hc,e1]
  have Fb:Fx (· =X+6) y hb:=⟨om,λq l s=>by rw[ob q om,oa q om];exact z.get q l s⟩
  have b5:hb.get (X+6)=some (.cells false (rc L.length λj=> aC (Qd G L K k 0 j:Nat))):=by rw[ob _ om,oa _ om];exact B
  have e0: ∀u,Fx (· =X+6) y u->u.cell (X+8) 3=some (.sl (X+6) 0 L.length (.kn L.length)):=λu f=>by
   have:u.get (X+8)=y.get (X+8):=f.get _ (by have:=wn _ wB;omega) om;rw[H.aF (this.trans a0)];rfl
  refine xE (λvs u=>(∃g:Nat->V,vs= [g 0,g 1,.nilp,aC 0,g 4,g 5,.ptr (X+8) 0,g 7,g 8,g 9,g 10,g 11,g 12,g 13,g 14,g 15,g 16,g 17,g 18,g 19,g 20,g 21,g 22,g 23,g 24,g 25,g 26,g 27,g 28,g 29,g 30,g 31,g 32,g 33,g 34,g 35,g 36,g 37,.sl S 0 K.length cp,aC (K.length:Int),aC k,g 41,g 42,g 43,g 44,g 45])/\u.get (X+6)=some (.cells false (rc L.length λj=> aC (Qd G L K (k+1) 0 j:Nat)))/\Fx (· =X+6) y u) ?_ ?_
  ·refine aH (λk' vs u=> ∃(t:Nat),(∃g:Nat->V,vs= [g 0,g 1,.nilp,aC 0,g 4,g 5,.ptr (X+8) 0,g 7,g 8,g 9,g 10,g 11,g 12,g 13,g 14,g 15,g 16,g 17,g 18,aC k,g 20,g 21,g 22,g 23,g 24,g 25,g 26,g 27,g 28,g 29,g 30,g 31,g 32,g 33,g 34,g 35,g 36,g 37,.sl S 0 K.length cp,aC (K.length:Int),aC k,g 41,.sl Q a1 (mR+1) b6,aC c,aC t,g 45])/\t<=c/\u.get (X+6)=some (.cells false (rc L.length λj=> aC (Qd G L K k t j:Nat)))/\Fx (· =X+6) y u/\k'=c-t) c
    ⟨0,aB rfl,iJ _,b5,Fb,rfl⟩ ?_
   clear b5 Fb gb ob c0 nb b0 ga oa fa na b2 b4 B z n9
   rintro k' F a7 ⟨t,⟨g2,rfl⟩,ht,b8,Fc,rfl⟩
   by_cases a6:(t:Int)<(c:Int)
   case neg=>
    have d5:=bH a6;obtain rfl:t=c:=om
    simp(disch:=omega)only[go_sem,d5];refine⟨aB rfl,?_,Fc⟩;rw[b8,show (λj=>aC (Qd G L K k t j:Nat))=λj=>aC (Qd G L K (k+1) 0 j:Nat) from funext λj=>by rw[←VY,N,hc]]
   have d5:=bP a6
   have c9:t<c:=om
   obtain⟨x,hx⟩:=exI ((kY G L r).getD t 0)
   have c3:x<L.length:=by rw[←hx];exact (tA.1 (bD om)).1
   have d3:a7.cell Q (a1+t)=some (aC x):=by
    have e5:=e4 t c9;unfold H.cell at e5 ⊢;rw[Fc.get Q e3 d9,e5,zi,nP _ (d:=0) om,hx]
   have pt:=bN (vs:=rc L.length λj=> aC (Qd G L K k t j:Nat)) (off:=x) (by rw[kH];exact c3)
   have tl:(t:Int).toNat=t:=rfl
   simp(disch:=omega)only[go_sem,d5,d3,e0 a7 Fc,b8,pt]
   rw[eJ t]
   refine⟨c-(t+1),om,t+1,aB rfl,om,?_,⟨Fc.next,λq l s=>by rw[H.aG _ s];exact Fc.get q l s⟩,rfl⟩
   rw[mS,dB λj hj=>?_]
   rw[PO hG E pK w (by rw[N];omega),N,hx]
   by_cases ej:j=x
   ·rw[bF ej,bF ej]
   ·rw[bI ej,bI ej]
  rintro F hd ⟨⟨g2,rfl⟩,c8,Fd⟩
  simp(disch:=omega)only[go_sem]
  rw[eJ k]
  exact⟨K.length-(k+1),om,k+1,aB rfl,om,c8,Fd,rfl⟩
 rintro F h9 ⟨⟨g,rfl⟩,B,z⟩
 have n9:=z.next
 simp(disch:=omega)only[go_sem]
 have n2:=e.x2
 have o9: ∀q,q<D->q≠X+8->q≠X+6->h9.get q=h5.get q:=λq l s h3=>by
  rw[z.get q (by have:=e.j.nx;omega) h3,F8.get q (by have:=e.j.nx;omega) (λh4=>by have:q=S:=h4;omega),e.j.old.get q (by rw[e.n5];exact l) (λh4=>by rcases h4 with h4|h4;exact s h4;omega)]
 have nx:=e.j.nx
 have b9:Fr s h9:=⟨om,λq hq=>by rw[o9 q om om om];exact e.f25.get q hq⟩
 have e7:Fx WK y h9:=⟨z.next,λq l s=>z.get q l λh3=>s (by have:q=X+6:=h3;rw[this];exact wN)⟩
 have c1:K.Nodup:=pK.nodup_iff.2 (by classical exact (by unfold jW;exact List.Pairwise.filter _ List.nodup_range))
 have c2:o.length=K.length:=by rw[←hK,jV]
 refine⟨.ptr (X+8) 0,K,rfl,⟨X+8,X+3,X+6,S,cp,vL,o,rfl,om,om,om,om,?_,?_,?_,?_,?_,e.sp.mono b9⟩,⟨pK,?_⟩,e.f2.trans b9⟩
 ·rw[z.get _ om om];exact a0
 ·rw[o9 _ om om om];exact e.gM
 ·rw[B,dB λj hj=>by rw[QO hG E pK hj]]
 ·rw[z.get _ om om];exact a8
 ·refine aM.mQ c2 λi l s=>?_
  obtain⟨a,ea,ko⟩:=a9 i s
  have a2:o[i]=a:=by rw[dD l] at ea;simpa using ea
  have k9:=ko.go e7 om wX λ_ _ l=>l
  rw[Pm.cJ s] at k9
  rw[a2]
  exact⟨k9.fst,k9.ord,k9.size,k9.rep.si,k9.ranks.si⟩
 ·have l:o.Pairwise λa b=>a.fst≠b.fst:=by
   have:=c1;rw[←hK] at this;exact List.pairwise_map.1 this
  rw[←hK,List.pairwise_map];refine List.Pairwise.imp_of_mem ?_ (List.Pairwise.and d1 l);rintro a b W hb ⟨s,h3⟩;have ka:=kK a W;have kb:=kK b hb;have h4: ¬(b.lt a=true):=by rw[s];simp
  rw[Cls.KE.lt_iff] at h4;unfold kLt;rw[←ka.ord,←kb.ord,←ka.size,←kb.size];omega
theorem KC {n:Nat}{G:List Nat->Prop}{L:LN}{r s:Nat}(a:kLt n G L r s)(b:kLt n G L s r):False:=by
 unfold kLt at a b;omega
theorem Cm.uniq {n:Nat}{G:List Nat->Prop}{L:LN}{K c:List Nat}(a:Cm n G L K)(b:Cm n G L c):K=c:=
 (a.perm.trans b.perm.symm).eq_of_pairwise (λ_ _ _ _ f d=>(KC f d).elim) a.asc b.asc
def uK (ks:List Cls.KE):List V:=ks.flatMap λa=> [a.rep,aC (a.ord:Int),aC (a.size:Int)]
theorem sU (b:List Cls.KE):(uK b).length=b.length*3:=by
 induction b with
 |nil=>rfl
 |cons a r ih=>
  show ([a.rep,aC (a.ord:Int),aC (a.size:Int)]++uK r).length=_;rw[jZ,ih];show 3+r.length*3=(r.length+1)*3;omega
theorem ZP {h:H}{Y:Nat}{ro:Bool}{a:Cls.KE}(g:h.get Y=some (.cells ro a.enc)):h.row Y 0 3=some [a.rep,aC (a.ord:Int),aC (a.size:Int)]:=by
 simp [H.row,g,sub,Cls.KE.enc]
theorem ME {v:V}(a:v.one=true)(x y:Int)(h:H):lQ h 3 [.aE,aC 0,aC 0] 1 [(0,3,.agg [v,aC x,aC y])]=some (.sl h.next 0 1 (.kn 1),h.new (.cells false [v,aC x,aC y])):=by
 have e:cX [V.aE,aC 0,aC 0] 3= [V.aE,aC 0,aC 0]:=rfl;simp [lQ,iS,putAt,e,a,show ∀l,(V.agg l).cells=l from λ_=>rfl,show ∀z,(aC z).one=true from λ_=>rfl]
theorem PY {W0:Nat->Prop}(vc:V)(n:Nat)(O:LN)(R:jI)(G:List Nat->Prop)(h:H)(o:GC W0 h vc n O R G)(L:LN)(hL:cZ O R n 0 (bL n)=L):
  Ev T 100 [vc] h (λv h'=> ∃vl K ks,v= .tup [vl,aC 0]/\Cm n G L K/\SV h' vl 3 (uK ks)/\aM (KR n G L h') ks K/\Fr h h'):=by
 obtain⟨U,vR,e,sO,sR⟩:=o.ch
 subst e
 refine cV Au rfl ?_
 have t:U.one=true:=oNs sO
 have r:vR.one=true:=oNt sR
 obtain⟨A,hA⟩:=exI h.next
 obtain⟨h1,e1,n1,g1,o1,f1⟩:=dF hA [aC n,U,vR]
 have bx:=bM h (v:= aC n) (u:=U) (w:=vR) rfl t r
 have rB:=aI g1
 simp(disch:=omega)only[go_sem,Au,aD,bx,hA,e1,rB]
 refine (ahJ _ n O R G h1 (o.mono f1)).mono ?_
 rw[hL]
 rintro _ f ⟨p,K,rfl,go,ik,f2⟩
 obtain⟨B,M,N,S,cp,vL,ks,rfl,hB,hM,hN,hS,gB,gM,gN,gS,aK,sp⟩:=go.ex
 have c2:f.cell B 2=some (.sl S 0 K.length cp):=by rw[H.aF gB];rfl
 have a7:=aM.length aK
 have a6:K.length<=5040:=by
  have h1:=ik.perm.length_eq;have f:=Co (G:=G) (L:=L) L.length;have h3:=jH o;have h4:=(dM o.dN o.isc).2;rw[hL] at h4;omega
 simp(disch:=omega)only[go_sem]
 refine aW (λhc=>(hc rfl).elim) (λ_=>?_)
 simp(disch:=omega)only[go_sem,c2]
 refine bJ (λvs j=> ∃b,(∃g:Nat->V,vs= [g 0,g 1,g 2,g 3,g 4,g 5,b,g 7,g 8,g 9,g 10,g 11,g 12])/\SV j b 3 (uK ks)/\Fr f j) ?_ ?_
 ·refine aH (λk' vs j=> ∃(k:Nat) (b:V),(∃g:Nat->V,vs= [g 0,g 1,g 2,g 3,.ptr B 0,g 5,b,g 7,g 8,.sl S 0 K.length cp,aC (K.length:Int),aC k,g 12])/\k<=K.length/\cY j b 3 (uK (ks.take k)) f.next/\Fr f j/\k'=K.length-k) K.length
   ⟨0,.aE,aB rfl,iJ _,cY.aE _ _ _,Fr.refl _,rfl⟩ ?_
  rintro k' F x ⟨k,b,⟨g,rfl⟩,hk,J,d,rfl⟩
  by_cases z:(k:Int)<(K.length:Int)
  case neg=>
   have Q:=bH z;obtain rfl:k=K.length:=om
   simp(disch:=omega)only[go_sem,Q];rw[Tn om] at J;exact⟨b,aB rfl,J.sv,d⟩
  have Q:=bP z
  have a9:k<K.length:=om
  have l:k<ks.length:=om
  obtain⟨a,ea⟩:=exI (ks[k])
  have a3:x.get S=aZ (Cls.qY ks):=by rw[d.get _ hS];exact gS
  have a2:x.row S (k*4) 4=some a.enc:=by
   have:=Jl (pre:= []) (by simpa using a3) l;rw[ea] at this;simpa using this
  obtain⟨Y,hY⟩:=exI x.next
  obtain⟨ha,a0,na,ga,oa,fa⟩:=dF hY [.aE,aC 0,aC 0,.aE]
  obtain⟨hb,W,nb,gb,ob⟩:=pJ ha Y a.enc
  obtain⟨Z,hZ⟩:=exI hb.next
  obtain⟨i,a1,nc,P,oc,fc⟩:=dF hZ [a.rep,aC (a.ord:Int),aC (a.size:Int)]
  have s:Fr x i:=⟨om,λq hq=>by rw[oc q om,ob q om,oa q om]⟩
  have a5:cY i b 3 (uK (ks.take k)) f.next:=J.fr s
  obtain⟨hd,ad,pd⟩:=a5.push (bytes:=40) (y:= .sl Z 0 1 (.kn 1)) (us:= [a.rep,aC (a.ord:Int),aC (a.size:Int)]) (SV.all rfl om P _) (n:=k) (m:=1) (by rw[sU,Fj];omega) rfl om om om
  simp(disch:=omega)only[go_sem,Q,a2,hY,a0,VP,ga,SD,W,ZP gb,ME a.hrep.2.1,hZ,a1,ad]
  rw[eJ k]
  have el:uK (ks.take (k+1))=uK (ks.take k)++ [a.rep,aC (a.ord:Int),aC (a.size:Int)]:=by
   rw[List.take_succ_eq_append_getElem l,ea];simp [uK]
  have n9:=d.next
  have nd:=pd.next
  have a4:Fr f hd:=⟨om,λq hq=>by rw[pd.old q om (λid a8 n' c e e2=>by have:=(J.in _ _ _ _ e).2.1;omega),s.get q om];exact d.get q hq⟩
  exact⟨K.length-(k+1),om,k+1,_,aB rfl,om,by rw[el];exact pd.own (by rw[sU,Fj];omega) rfl om,a4,rfl⟩
 rintro F x ⟨b,⟨g,rfl⟩,sv,d⟩
 simp(disch:=omega)only[go_sem]
 exact⟨b,K,ks,rfl,ik,sv,aK.mono λ_ _ k=>k.mono d,(f1.trans f2).trans d⟩
set_option maxRecDepth 100000
set_option maxRecDepth 100000
theorem QC {n:Nat}{a:List Nat}(A:bE n a)(j:n<=7):qF a n∣420:=by
 unfold qF;rw[Hb];intro c f;obtain⟨l,h,rfl⟩:=uF.1 f;obtain⟨i,hi,rfl⟩:=uF.1 h;have b:i<n:=by unfold Qh at hi;exact Gu.1 (CH.1 hi).1
 rw[Ca];have d:=(pD A b).1;have m:=BA A b;have: ∀k,k<8->0<k->k∣420:=by decide
 exact this _ om d
set_option maxRecDepth 100000
set_option maxRecDepth 100000
set_option maxRecDepth 100000
section
variable {n:Nat} {G:List Nat->Prop} {L:LN} (hG:iX n G) (E:dW G L)
end
def NC (n:Nat)(A B:List Nat->Prop)(x:List Nat):Prop:= ∀H:List Nat->Prop,iX n H->(∀a,A a->H a)->(∀y b,H y->B b->H (cW y b))->H x
section
variable {n:Nat} {A B A' B' H:List Nat->Prop}
theorem NC.le {x:List Nat}(h:NC n A B x)(d:iX n H)(c: ∀a,A a->H a)(f: ∀y b,H y->B b->H (cW y b)):H x:=h H d c f
theorem NC.of {a:List Nat}(h:A a):NC n A B a:=λ_ _ b _=>b a h
theorem NC.cj {x b:List Nat}(h:NC n A B x)(d:B b):NC n A B (cW x b):=λH c f a=>a _ _ (h H c f a) d
theorem abW (n:Nat):iX n (bE n):=⟨λh=>h,bE.one n,λa b=>a.mul b,λa=>a.inv⟩
theorem NC.dN (f: ∀a,A a->bE n a)(d: ∀b,B b->bE n b):iX n (NC n A B):=
 ⟨λh=>h _ (abW n) f λy b Y i=>qG Y (d b i),λ_ c _ _=>c.one,λh k _ c a b=>c.mul (h _ c a b) (k _ c a b),λh _ c a b=>c.inv (h _ c a b)⟩
theorem NC.same (l: ∀a,A a->bE n a)(k: ∀b,B b->bE n b)(j: ∀a,A' a->bE n a)(f: ∀b,B' b->bE n b)
  (m: ∀a,A a->A' a∨a=bL n) (r: ∀a,A' a->A a∨a=bL n) (s: ∀a,B a->B' a∨a=bL n) (o: ∀a,B' a->B a∨a=bL n) (x:List Nat):NC n A B x↔NC n A' B' x:=by
 have c: ∀{A B A' B':List Nat->Prop},(∀a,A' a->bE n a)->(∀b,B' b->bE n b)->(∀a,A a->A' a∨a=bL n)->(∀a,B a->B' a∨a=bL n)->NC n A B x->NC n A' B' x:=λ{A B A' B'} p q a b h=>
  h.le (NC.dN p q) (λz d=>by
   rcases a z d with h|rfl
   ·exact NC.of h
   ·exact (NC.dN p q).one) (λy z i d=>by
   rcases b z d with h|rfl
   ·exact i.cj h
   ·rw[mG ((NC.dN p q).cU i)];exact i)
 exact⟨c j f m s,c l k r o⟩
theorem Xw (c:iX n H)(d: ∀b,B b->bE n b)(f: ∀y b,H y->B b->H (cW y b)){g:List Nat}(h:bX n B g): ∀y,H y->H (cW y g):=by
 induction h with
 |one=>intro y a;rw[mG (c.cU a)];exact a
 | @mul z k hz hk ih=>intro y a;rw[nX (c.cU a) (hz.cU d) (d _ hk)];exact f _ _ (ih y a) hk
end
def jE (x y:List Nat):List Nat:=aX (aX (dA x) (dA y)) (aX x y)
section
variable {n:Nat} {x y:List Nat}
theorem Rh (X:bE n x)(Y:bE n y):bE n (jE x y):=(X.inv.mul Y.inv).mul (X.mul Y)
theorem JY (X:bE n x):jE x (bL n)=bL n:=by
 unfold jE;rw[oJ,bZ X.inv,bZ X,iE X]
theorem KJ (Y:bE n y):jE (bL n) y=bL n:=by
 unfold jE;rw[oJ,cL Y.inv,cL Y,iE Y]
theorem xX (X:bE n x)(Y:bE n y):jE x y=aX (dA x) (cW x y):=by
 unfold jE cW;rw[aV X.inv Y.inv (X.mul Y),aV Y.inv X Y]
end
def Ad (n:Nat)(R R':jI):List Nat->Prop:=NC n (λx=> ∃p,p∈bQ R/\ ∃q,q∈bQ R'/\x=jE p q) (λb=>b∈bQ R∨b∈bQ R')
section
variable {n:Nat} {G K:List Nat->Prop} {O O':LN} {R R':jI}
theorem Ad.dN (f:iX n G)(i:iX n K)(c:bC n G O R)(d:bC n K O' R'):iX n (Ad n R R'):=
 NC.dN (λa ⟨_,hp,_,hq,e⟩=>by rw[e];exact Rh (f.cU (bV c hp)) (i.cU (bV d hq))) (λb h=>h.elim (λh=>f.cU (bV c h)) λh=>i.cU (bV d h))
theorem Ad.le (f:iX n G)(o:iX n K)(c:bC n G O R)(d:bC n K O' R')(j: ∀y b,G y->K b->G (cW y b)){x:List Nat}(h:Ad n R R' x):G x:=by
 refine NC.le h f ?_ ?_
 ·rintro a ⟨p,m,q,l,rfl⟩
  have P:=bV c m;have Q:=bV d l;rw[xX (f.cU P) (o.cU Q)];exact f.mul (f.inv P) (j _ _ P Q)
 ·rintro y b k (i|i)
  ·have:=bV c i
   exact f.mul (f.mul (f.inv this) k) this
  ·exact j _ _ k (bV d i)
theorem Ad.self (a:iX n G)(c:bC n G O R){x:List Nat}(h:Ad n R R x):G x:=
 Ad.le a a c c (λy b f d=>a.mul (a.mul (a.inv d) f) d) h
theorem Ad.norm (j:iX n G)(i:iX n K)(c:bC n G O R)(d:bC n K O' R'){y b:List Nat}(f:Ad n R R' y)(a:K b):Ad n R R' (cW y b):=
 Xw (B:=λg=>g∈bQ R') (Ad.dN j i c d) (λb h=>i.cU (bV d h)) (λy b f a=>NC.cj f (.inr a)) (nJ i d a) y f
end
set_option maxHeartbeats 8000000
theorem Ii (h:H){v w:V}(b:v.cells= [v]/\v.one=true)(a:w.cells= [w]/\w.one=true):lQ h 1 [.aE] 2 [(0,1,v),(1,1,w)]=some (.sl h.next 0 2 (.kn 2),h.new (.cells false [v,w])):=by
 have e:List.range 2= [0,1]:=rfl;simp [lQ,rO,iS,putAt,b.1,b.2,a.1,a.2,cX,e]
theorem Pv {n:Nat}{u w:V}{a b:List Nat}{h h':H}(A:bE n a)(B:bE n b)(d:SI h u (zi a))(c:SI h w (zi b))(f:Fr h h'): ∀i,i< [u,w].length-> ∃a,bE n a/\SI h' (([u,w]:List V).getD i .undef) (zi a):=λi hi=>by
 match i,hi with
 |0,_=>exact⟨a,A,d.mono f⟩
 |1,_=>exact⟨b,B,c.mono f⟩
theorem Is {n:Nat}{a b:List Nat}(A:bE n a)(B:bE n b): ∀i,i<a.length->a.getD i 0<b.length:=λi hi=>by
 rw[B.len];exact A.iN (by rw[←A.len];exact hi)
theorem XP (u w:V)(n:Nat)(a b:List Nat)(h:H)(z:1<=n)(t:n<=64)(A:bE n a)(B:bE n b)(f:SI h u (zi a))(d:SI h w (zi b)):
  Ev T 209 [u,w] h (λv h'=> ∃x,v= .tup [x,aC 0]/\PV (λq=>q<h.next) h' x (aX a b)/\Fr h h'):=by
 refine cV Nj rfl ?_
 have k:=SV.cK f
 have i:=SV.cK d
 obtain⟨m,r,J,p,G,l⟩:=dF (h:=h) rfl [u,w]
 simp(disch:=omega)only[go_sem,Nj,aD,Ii h (v:=u) (w:=w) ⟨k.1,k.2.1⟩ ⟨i.1,i.2.1⟩,r]
 refine (Aq _ [u,w] n m z t (by simp) (SV.all rfl om p _) (Pv A B f d l)).mono ?_
 rintro _ s ⟨rfl,y⟩
 have c:=l.trans y
 simp(disch:=omega)only[go_sem]
 refine aW (λo=>(o rfl).elim) (λ_=>?_)
 simp(disch:=omega)only[go_sem]
 refine (mY qL.ok u w a b s (by rw[A.len];omega) (f.mono c) (d.mono c) (Is A B)).mono ?_
 rintro x F j
 have:=c.next
 simp(disch:=omega)only[go_sem]
 exact⟨x,rfl,j.pv om,c.trans j.fr⟩
theorem ZK (u:V)(n:Nat)(a:List Nat)(h:H)(t:1<=n)(r:n<=64)(A:bE n a)(c:SI h u (zi a)):
  Ev T 208 [u] h (λv h'=> ∃x,v= .tup [x,aC 0]/\PV (λq=>q<h.next) h' x (dA a)/\Fr h h'):=by
 refine cV Pj rfl ?_
 have f:=SV.cK c
 obtain⟨k,o,B,m,y,j⟩:=dF (h:=h) rfl [u]
 simp(disch:=omega)only[go_sem,Pj,aD,cT h (z:= .aE) f.1 f.2.1,o]
 refine (Aq _ [u] n k t r (by simp) (SV.one om m (.kn 1)) (λi hi=>⟨a,A,?_⟩)).mono ?_
 ·have:i=0:=by simpa using hi
  subst this
  exact c.mono j
 rintro _ p ⟨rfl,s⟩
 have b:=j.trans s
 simp(disch:=omega)only[go_sem]
 refine aW (λl=>(l rfl).elim) (λ_=>?_)
 simp(disch:=omega)only[go_sem]
 refine (Ce xH.ok u n a p om A (c.mono b)).mono ?_
 rintro x w d
 have:=b.next
 simp(disch:=omega)only[go_sem]
 exact⟨x,rfl,d.pv om,b.trans d.fr⟩
theorem PK (u w:V)(n:Nat)(a b:List Nat)(h:H)(P:1<=n)(N:n<=64)(A:bE n a)(B:bE n b)(l:SI h u (zi a))(k:SI h w (zi b)):
  Ev T 207 [u,w] h (λv h'=> ∃x,v= .tup [x,aC 0]/\PV (λq=>q<h.next) h' x (cW a b)/\Fr h h'):=by
 refine cV Jt rfl ?_
 have p:=SV.cK l
 have m:=SV.cK k
 obtain⟨s,J,U,G,R,r⟩:=dF (h:=h) rfl [u,w]
 simp(disch:=omega)only[go_sem,Jt,aD,Ii h (v:=u) (w:=w) ⟨p.1,p.2.1⟩ ⟨m.1,m.2.1⟩,J]
 refine (Aq _ [u,w] n s P N (by simp) (SV.all rfl om G _) (Pv A B l k r)).mono ?_
 rintro _ K ⟨rfl,O⟩
 have f:=r.trans O
 simp(disch:=omega)only[go_sem]
 refine aW (λF=>(F rfl).elim) (λ_=>?_)
 simp(disch:=omega)only[go_sem]
 refine (Ce xH.ok w n b K om B (k.mono f)).mono ?_
 rintro x t o
 have j:=f.trans o.fr
 simp(disch:=omega)only[go_sem]
 refine (mY qL.ok x u (dA b) a t (by rw[B.inv.len];omega) (o.pv (W:=λ_=>False) id).si (l.mono j) (Is B.inv A)).mono ?_
 rintro y L d
 have c:=j.trans d.fr
 simp(disch:=omega)only[go_sem]
 refine (mY qL.ok y w (aX (dA b) a) b L (by rw[(B.inv.mul A).len];omega) (d.pv (W:=λ_=>False) id).si (k.mono c) (Is (B.inv.mul A) B)).mono ?_
 rintro z Q i
 have:=c.next
 simp(disch:=omega)only[go_sem]
 exact⟨z,rfl,i.pv om,c.trans i.fr⟩
theorem SG (u w:V)(n:Nat)(a b:List Nat)(h:H)(R:1<=n)(P:n<=64)(A:bE n a)(B:bE n b)(p:SI h u (zi a))(o:SI h w (zi b)):
  Ev T 123 [u,w] h (λv h'=> ∃x,v= .tup [x,aC 0]/\PV (λq=>q<h.next) h' x (jE a b)/\Fr h h'):=by
 refine cV Ka rfl ?_
 have J:=SV.cK p
 have F:=SV.cK o
 obtain⟨L,Z,n1,O,o1,K⟩:=dF (h:=h) rfl [u,w]
 simp(disch:=omega)only[go_sem,Ka,aD,Ii h (v:=u) (w:=w) ⟨J.1,J.2.1⟩ ⟨F.1,F.2.1⟩,Z]
 refine (Aq _ [u,w] n L R P (by simp) (SV.all rfl om O _) (Pv A B p o K)).mono ?_
 rintro _ h2 ⟨rfl,Q⟩
 have k:=K.trans Q
 simp(disch:=omega)only[go_sem]
 refine aW (λY=>(Y rfl).elim) (λ_=>?_)
 simp(disch:=omega)only[go_sem]
 refine (Ce xH.ok u n a h2 om A (p.mono k)).mono ?_
 rintro x N G
 have i:=k.trans G.fr
 simp(disch:=omega)only[go_sem]
 refine (Ce xH.ok w n b N om B (o.mono i)).mono ?_
 rintro y h4 c
 have r:=i.trans c.fr
 simp(disch:=omega)only[go_sem]
 refine (mY qL.ok x y (dA a) (dA b) h4 (by rw[A.inv.len];omega) ((G.pv (W:=λ_=>False) id).si.mono c.fr) (c.pv (W:=λ_=>False) id).si (Is A.inv B.inv)).mono ?_
 rintro z U l
 have f:=r.trans l.fr
 simp(disch:=omega)only[go_sem]
 refine (mY qL.ok u w a b U (by rw[A.len];omega) (p.mono f) (o.mono f) (Is A B)).mono ?_
 rintro s h6 d
 have m:=f.trans d.fr
 simp(disch:=omega)only[go_sem]
 refine (mY qL.ok z s (aX (dA a) (dA b)) (aX a b) h6 (by rw[(A.inv.mul B.inv).len];omega) ((l.pv (W:=λ_=>False) id).si.mono d.fr) (d.pv (W:=λ_=>False) id).si (Is (A.inv.mul B.inv) (A.mul B))).mono ?_
 rintro t h7 j
 have:=m.next
 simp(disch:=omega)only[go_sem]
 exact⟨t,rfl,j.pv om,m.trans j.fr⟩
theorem aM.agS {α β:Type}{P:α->β->Prop}: ∀{a:List α} {b:List β},aM P a b->aM P (a.drop 1) (b.drop 1)
 | [], [],h=>h
 |_::_,_::_,h=>h.2
 | [],_::_,h=>h.elim
 |_::_, [],h=>h.elim
theorem Lk {n:Nat}{G:List Nat->Prop}{O:LN}{R:jI}(b:iX n G)(a:bC n G O R){i:Nat}(hi:i<n):1<=(R.getD i []).length/\(R.getD i []).length<=n:=by
 rw[a.rl i hi];have:=(a.mem i hi i).2 ⟨bL n,b.one,Fix.one n i om,fQ hi⟩;exact⟨HJ this,mT (uQ (λx c=>b.cU c) hi (a.asc i hi) (a.mem i hi)) om⟩
theorem qV {n:Nat}{G:List Nat->Prop}{O:LN}{R:jI}(c:iX n G)(a:bC n G O R):(bQ R).length<=n*n:=by
 have:=sY (n:=n) (R:=R) (i:=n) (by rw[a.lr];exact fM _) (λj b=>(Lk c a b).2);rwa [Tn (by rw[a.lr];exact fM _)] at this
theorem xV {W:Nat->Prop}(vc:V)(n:Nat)(O:LN)(R:jI)(G:List Nat->Prop)(t h:H)(s:GC W t vc n O R G)(f0:Fr t h):
  Ev T 122 [vc] h (λv h'=> ∃ws,cY h' v 1 ws h.next/\fW W t ws (bQ R)/\Fr h h'):=by
 obtain⟨vO,x,a0,p,rfl,sO,oO,pO,K,oR,aR⟩:=s.cw
 refine cV wK rfl ?_
 have k:=(SV.cK sO).2.1
 have d:=(SV.cK K).2.1
 have a:=s.isc
 have hG:=s.dN
 have n7:=s.n7
 have lR:=aM.length aR
 rw[a.lr] at lR
 obtain⟨B,hB⟩:=exI h.next
 obtain⟨Z,e1,n1,g1,o1,Y⟩:=dF hB [aC n,vO,x]
 have bx:=bM h (v:= aC n) (u:=vO) (w:=x) rfl k d
 have J:bT x=some (aC n):=by unfold bT;rw[SV.len K (n:=n) om om];rfl
 obtain⟨U,l,y,f,cR⟩:=SV.shape K n om om
 simp(disch:=omega)only[go_sem,wK,aD,bx,hB,e1,H.aF g1,J]
 refine aH (λk' c r=> ∃(i:Nat) (P:V) (ws:List V),(∃g:Nat->V,c= [g 0,g 1,g 2,P,g 4,x,aC n,aC i,g 8])/\i<=n/\cY r P 1 ws Z.next/\fW W t ws (bQ (R.take i))/\Fr Z r/\k'=n-i) n
  ⟨0,.aE, [],aB rfl,iJ _,cY.aE _ _ _,trivial,Fr.refl _,rfl⟩ ?_
 rintro k' c r ⟨i,P,ws,⟨g,rfl⟩,hi,ow,pv,F,rfl⟩
 have nF:=F.next
 by_cases o:(i:Int)<(n:Int)
 case neg=>
  have N:=bH o;obtain rfl:i=n:=om
  rw[Tn (by rw[a.lr];exact fM _)] at pv;simp(disch:=omega)only[go_sem,N];exact⟨ws,ow.le om,pv,Y.trans F⟩
 have N:=bP o
 have b:i<n:=om
 obtain⟨wr,tr,z,L,q⟩:=aM.get aR i om (by rw[a.lr];exact b)
 have er:R[i]'(by rw[a.lr];exact b)=R.getD i []:=by rw[List.getD,dD (by rw[a.lr];exact b)];rfl
 rw[er] at L
 have lw:=aM.length L
 obtain⟨r1,r2⟩:=Lk hG a b
 have ci:r.cell U (l+i)=some (p[i]'om):=by
  rw[(f0.trans (Y.trans F)).cell (f om),cR i om,dD om]
 generalize p[i]'om=vr at tr z q ci
 obtain⟨vt,Q,tt⟩:=EV tr q om
 have a2:=aM.length pv
 have sl:(bQ (R.take i)).length<=i*n:=sY (by rw[a.lr];omega) (λj hj=>(Lk hG a om).2)
 have a1:i*n<=7*7:=Nat.mul_le_mul om n7
 obtain⟨v2,h2,ea,A⟩:=cY.app (bytes:=24) ow nF (tt.mono (f0.trans (Y.trans F))) (n:=ws.length) (m:=wr.length- 1) om (by rw[AQ];omega) om om
 simp(disch:=omega)only[go_sem,N,y.ixa,ci,Q,ea]
 rw[eJ i]
 refine⟨n-(i+1),om,i+1,v2,_,aB rfl,om,A.own,?_,A.fr _ F (fM _),rfl⟩
 rw[Bf (by rw[a.lr];exact b)]
 exact aM.append pv (aM.agS L)
theorem rN {α:Type}{l:List α}{i:Nat}{d:α}(hi:i<l.length):l[i]=l.getD i d:=by rw[List.getD,dD hi];rfl
theorem FE {W:Nat->Prop}(D:Nat)(u vO vR:V)(n:Nat)(O:LN)(R:jI)(G:List Nat->Prop)(x:List Nat)(h:H)(B:GC W h (.agg [aC n,vO,vR]) n O R G)(hD:D<h.next)(gD:h.get D=some (.cells false [aC n,vO,vR]))(X:bE n x)(hu:SI h u (zi x)):
  Ev T 165 [.ptr D 0,u] h (λv h'=> ∃b,v= .bool b/\(b=true↔G x)/\Fr h h'):=by
 obtain⟨b9,c1,s,Q,e,sO,oO,pO,sR,oR,aR⟩:=B.cw
 cases e
 refine cV pN rfl ?_
 have c:=B.isc
 have o:=B.dN
 have n7:=B.n7
 have n0:=B.n0
 have lR:=aM.length aR
 have lO:=aM.length pO
 rw[c.lr] at lR
 rw[c.lo] at lO
 have a6:bT vR=some (aC n):=by unfold bT;rw[SV.len sR (n:=n) om om];rfl
 obtain⟨b7,N,a2,J,cR⟩:=SV.shape sR n om om
 obtain⟨b0,a1,b3,U,cO⟩:=SV.shape sO n om om
 have b1: ∀d,Fr h d->d.get D=some (.cells false [aC n,vO,vR]):=λd f=>by rw[f.get D hD];exact gD
 simp(disch:=omega)only[go_sem,pN,aD,H.aF gD,a6]
 refine aH (λk' m d=> ∃(i:Nat) (vx:V) (y:List Nat),(∃g:Nat->V,m= [.ptr D 0,vx,g 2,g 3,g 4,g 5,g 6,g 7,vR,aC n,aC i,g 11,g 12])/\i<=n/\SI d vx (zi y)/\bE n y/\Fix i y/\(G y↔G x)/\Fr h d/\k'=n-i) n
  ⟨0,u,x,aB rfl,iJ _,hu,X,λk hk=>om,Iff.rfl,Fr.refl _,rfl⟩ ?_
 rintro k' m d ⟨i,vx,y,⟨g,rfl⟩,hi,sy,Y,l,r,F,rfl⟩
 by_cases P:(i:Int)<(n:Int)
 case neg=>
  have d1:=bH P;obtain rfl:i=n:=om
  simp(disch:=omega)only[go_sem,d1];exact⟨true,rfl,⟨λ_=>r.1 (by rw[Fix.all Y l];exact o.one),λ_=>rfl⟩,F⟩
 have d1:=bP P
 have a:i<n:=om
 obtain⟨wr,tr,a4,pr,b5⟩:=aM.get aR i om (by rw[c.lr];exact a)
 have er:R[i]'(by rw[c.lr];exact a)=R.getD i []:=rN _
 rw[er] at pr
 have lw:=aM.length pr
 obtain⟨r1,r2⟩:=Lk o c a
 have ci: ∀d,Fr h d->d.cell b7 (N+i)=some (Q[i]'om):=λd f=>by
  rw[f.cell (J om),cR i om,dD om]
 generalize Q[i]'om=vr at tr a4 b5 ci
 have po:=aM.get pO i om (by rw[c.lo];exact a)
 have eo:O[i]'(by rw[c.lo];exact a)=O.getD i []:=rN _
 rw[eo] at po
 have co:d.cell b0 (a1+i)=some (s[i]'om):=by
  rw[F.cell (U om),cO i om,dD om]
 generalize s[i]'om=vo at po co
 obtain⟨b8,A,w,a0,t⟩:=sy.open
 rw[aQ,Y.len] at w a0 t
 obtain⟨p,hp⟩:=exI (y.getD i 0)
 have cy:d.cell b8 (A+i)=some (aC p):=by rw[t i a];congr 2;simp [zi,Y.len,a,←hp]
 have c0:(O.getD i []).length<=n:=mT (uQ (λx hx=>o.cU hx) a (c.asc i a) (c.mem i a)) om
 have fb:Fr d (H.mk d.tr (d.next+18)):=(Fr.refl d).bA om
 simp(disch:=omega)only[go_sem,d1,a2.ixa,ci d F,H.aF (b1 d F),b3.ixa,co,w.ixa,cy]
 refine (Es _ (O.getD i []) p _ om (c.asc i a) (po.si.mono (F.trans fb))).mono ?_
 rintro _ h2 ⟨k,f,rfl,b4,b2,f2⟩
 have q:=fb.trans f2
 have F2:=F.trans q
 cases f with
 |false=>
  have a3: ¬G x:=λhx=>by
   have:=b4.2 ((c.mem i a p).2 ⟨y,r.2 hx,l,hp⟩);cases this
  simp(disch:=omega)only[go_sem];exact⟨false,rfl,⟨λh=>(by cases h),λh=>absurd h a3⟩,F2⟩
 |true=>
  obtain⟨hk,a5⟩:=b2 rfl;have j:=c.rep i a k hk;rw[a5] at j;obtain⟨z,hz⟩:=exI ((R.getD i []).getD k []);rw[hz] at j;have Z:=o.cU j.mem;have a9:k<(R.getD i []).length:=by rw[c.rl i a];exact hk
  have pz:=aM.get pr k om a9;rw[show (R.getD i [])[k]=z from by rw[←hz];exact rN _] at pz;obtain⟨b6,L,a8,K,a7⟩:=tr.shape (R.getD i []).length om om;have ck:h2.cell b6 (L+k)=some (wr[k]'om):=by rw[F2.cell (K om),a7 k om,dD om]
  generalize wr[k]'om=vz at pz ck;simp(disch:=omega)only[go_sem,a8.ixa,ck];refine (ZK vz n z h2 n0 om Z (pz.si.mono F2)).mono ?_;rintro _ h3 ⟨vi,rfl,pi,f3⟩;simp(disch:=omega)only[go_sem];refine (XP vx vi n y (dA z) h3 n0 om Y Z.inv (sy.mono (q.trans f3)) pi.si).mono ?_;rintro _ h4 ⟨vm,rfl,pm,f4⟩;simp(disch:=omega)only[go_sem];rw[eJ i];refine⟨n-(i+1),om,i+1,vm,aX y (dA z),aB rfl,om,pm.si,Y.mul Z.inv,?_,?_,F.trans (q.trans (f3.trans f4)),rfl⟩
  ·refine (Fix.mul Y om l (Fix.inv Z om j.fix)).succ ?_
   rw[cM (by rw[Y.len];exact a),hp];have:=afU Z a;rwa [j.maps] at this
  ·rw[←r]
   refine⟨λhm=>?_,λhy=>o.mul hy (o.inv j.mem)⟩;have:=o.mul hm j.mem;rwa [aV Y Z.inv Z,iE Z,bZ Y] at this
section
variable {W W':Nat->Prop} {h h':H} {n D:Nat} {O l:LN} {G:List Nat->Prop}
theorem GC.congr {c:V}{R:jI}{G':List Nat->Prop}(g:GC W h c n O R G)(e: ∀x,G x↔G' x):GC W h c n O R G':=
 ⟨g.cw,g.isc.congr e,⟨λh=>g.dN.cU ((e _).2 h),(e _).1 g.dN.one,λa b=>(e _).1 (g.dN.mul ((e _).2 a) ((e _).2 b)),λa=>(e _).1 (g.dN.inv ((e _).2 a))⟩,g.n0,g.n7⟩
theorem GC.lH {a:V}{R:jI}(g:GC W h a n O R G)(b: ∀id,id<h.next->W' id->W id):GC W' h a n O R G:=g.go (Fx.refl _ _) b
structure Qa (W:Nat->Prop)(h:H)(D n:Nat)(G:List Nat->Prop):Prop where
 ex: ∃vO vR O R,h.get D=some (.cells false [aC n,vO,vR])/\GC (λid=>W id∨id=D) h (.agg [aC n,vO,vR]) n O R G
 nx:D<h.next
 nW: ¬W D
theorem Qa.go (r:Qa W h D n G)(f:Fx W h h')(c: ∀q,q<h.next->W' q->W q):Qa W' h' D n G:=by
 obtain⟨d,j,O,R,g,i⟩:=r.ex;exact⟨⟨d,j,O,R,by rw[f.get D r.nx r.nW];exact g,i.go ⟨f.next,λid a b=>f.get id a λh=>b (.inl h)⟩ λq a b=>b.imp_left (c q a)⟩,iW r.nx f.next,λh=>r.nW (c _ r.nx h)⟩
theorem Qa.fx (r:Qa W h D n G)(f:Fx W h h'):Qa W h' D n G:=r.go f λ_ _ h=>h
theorem Qa.fr (r:Qa W h D n G)(f:Fr h h'):Qa W h' D n G:=r.fx (Fx.of f)
theorem Qa.lH (r:Qa W h D n G)(a: ∀q,q<h.next->W' q->W q):Qa W' h D n G:=r.go (Fx.refl _ _) a
theorem Qa.congr {G':List Nat->Prop}(r:Qa W h D n G)(e: ∀x,G x↔G' x):Qa W h D n G':=by
 obtain⟨a,c,O,R,g,b⟩:=r.ex;exact⟨⟨a,c,O,R,g,b.congr e⟩,r.nx,r.nW⟩
theorem adW {x y z:V}(a:x.one=true)(b:y.one=true)(hz:z.one=true):rO [aC 0,.aE,.aE] [(0,3,.agg [x,y,z])]=some (.agg [x,y,z]):=by
 simp [rO,iS,putAt,V.cells,a,b,hz]
theorem VZ (n:Nat)(h:H)(L:1<=n)(y:n<=7):
  Ev T 161 [aC n] h (λv h'=> ∃D,v= .ptr D 0/\h.next<=D/\Qa (λq=>q<h.next) h' D n (λx=>x=bL n)/\Fr h h'):=by
 refine cV Bi rfl ?_
 simp(disch:=omega)only[go_sem,Bi,aD]
 refine (Lo .aE n [] h L y (by decide) ⟨[],SV.aE _ _,trivial⟩ (λ_ h=>by cases h)).mono ?_
 rintro _ m ⟨vc,O,R,rfl,p,r⟩
 obtain⟨f,i,t,B,e,sO,oO,pO,Q,oR,aR⟩:=p.cw
 subst e
 have d:=(SV.cK sO).2.1
 have c:=(SV.cK Q).2.1
 obtain⟨A,o⟩:=exI m.next
 obtain⟨k,e2,n2,z,P,f2⟩:=dF o [aC 0,.aE,.aE]
 obtain⟨j,U,n3,N,o3⟩:=pJ k A [aC n,f,i]
 obtain⟨Z,s,n4,g4,K,f4⟩:=dF (h:=j) rfl [aC n,f,i]
 simp(disch:=omega)only[go_sem,o,e2,bW k A 0 (v:= aC n) (u:=f) (w:=i) rfl d c,z,cF,U,aI N,adW (x:= aC n) rfl d c,bM j (v:= aC n) (u:=f) (w:=i) rfl d c,s]
 have n1:=r.next
 have F:Fr m Z:=⟨om,λq hq=>by rw[K q om,o3 q om,P q om]⟩
 refine⟨j.next,rfl,om,⟨⟨f,i,O,R,g4,?_⟩,om,om⟩,r.trans F⟩
 have Y:=p.congr (G':=λx=>x=bL n) λx=>⟨λJ=>bX.le (G:=λx=>x=bL n) ⟨λe=>e▸bE.one n,rfl,λa b=>by rw[a,b,cL (bE.one n)],λa=>by rw[a,oJ]⟩ (λ_ h=>by cases h) J,λe=>by rw[e];exact .one⟩
 exact (Y.lH (W':=λid=>id<h.next∨id=j.next) λid m k=>k.elim (λh=>h) λe=>om).mono F
def Jn (n:Nat)(G:List Nat->Prop)(l:LN):List Nat->Prop:=bX n (λg=>G g∨g∈l)
theorem Jn.dN (b:iX n G)(a: ∀g∈l,bE n g):iX n (Jn n G l):=bX.dN λg h=>h.elim (λh=>b.cU h) (a g)
theorem Jn.nil (a:iX n G)(x:List Nat):G x↔Jn n G [] x:=
 ⟨λh=>bX.of (λg h=>h.elim (λh=>a.cU h) λh=>by cases h) (.inl h),λh=>bX.le a (λg h=>h.elim (λh=>h) λh=>by cases h) h⟩
theorem Jn.in {x:List Nat}(b:iX n G)(a: ∀g∈l,bE n g)(c:Jn n G l x)(y:List Nat):Jn n G l y↔Jn n G (l++ [x]) y:=by
 have d:=Jn.dN b a;have f: ∀g∈l++ [x],bE n g:=λg h=>(pH.1 h).elim (a g) λh=>by rw[List.mem_singleton.1 h];exact d.cU c
 refine⟨λh=>bX.mono (λg h=>h.imp_right λh=>pH.2 (.inl h)) h,λh=>bX.le d (λg h=>?_) h⟩;rcases h with h|h
 ·exact bX.of (λg h=>h.elim (λh=>b.cU h) (a g)) (.inl h)
 ·rcases pH.1 h with h|h
  ·exact bX.of (λg h=>h.elim (λh=>b.cU h) (a g)) (.inr h)
  ·rw[List.mem_singleton.1 h];exact c
theorem Jn.push {x:List Nat}{R:jI}(a:iX n G)(f: ∀g∈l,bE n g)(X:bE n x)(c:bC n (Jn n G l) O R)(y:List Nat):bX n (· ∈bQ R++ [x]) y↔Jn n G (l++ [x]) y:=by
 have j:=Jn.dN a f;have b: ∀g∈l++ [x],bE n g:=λg h=>(pH.1 h).elim (f g) λh=>by rw[List.mem_singleton.1 h];exact X
 have i: ∀g,g∈bQ R++ [x]->bE n g:=λg h=>(pH.1 h).elim (λh=>j.cU (bV c h)) λh=>by rw[List.mem_singleton.1 h];exact X
 constructor
 ·refine λh=>bX.le (Jn.dN a b) (λg h=>?_) h
  rcases pH.1 h with h|h
  ·exact bX.mono (λg h=>h.imp_right λh=>pH.2 (.inl h)) (bV c h)
  ·exact bX.of (λg h=>h.elim (λh=>a.cU h) (b g)) (.inr (pH.2 (.inr h)))
 ·refine λh=>bX.le (bX.dN i) (λg h=>?_) h
  have d: ∀g,Jn n G l g->bX n (· ∈bQ R++ [x]) g:=λg h=>bX.mono (λg h=>pH.2 (.inl h)) (nJ j c h)
  rcases h with h|h
  ·exact d g (bX.of (λg h=>h.elim (λh=>a.cU h) (f g)) (.inl h))
  ·rcases pH.1 h with h|h
   ·exact d g (bX.of (λg h=>h.elim (λh=>a.cU h) (f g)) (.inr h))
   ·exact bX.of i (pH.2 (.inr h))
end
theorem LF (h:H)(a m:Nat)(ws:List V): ∃h',H.mk ((H.mk h.tr a).new (.cells false ws)).tr m=h'/\h'.next=m/\h'.get a=some (.cells false ws)/\ ∀q,q≠a->h'.get q=h.get q:=by
 obtain⟨i,d,j,c,f,k⟩:=dF (h:=H.mk h.tr a) rfl ws;rw[d];exact⟨_,rfl,rfl,c,λq b=>f q b⟩
theorem Bc (v:V):Mq (λ_=>False) v:=by cases v<;>first|exact id|trivial
theorem fW.KI {W:Nat->Prop}{h:H}{v:V}{ws:List V}{l:LN}(sv:SV h v 1 ws)(p:fW W h ws l):SP h v l:=by
 have a:=aM.length p
 exact⟨ws,sv,aM.mQ (by simpa using a) λi hi b=>by
  have:=(aM.get p i hi om).si
  simpa using this⟩
theorem Wv {W:Nat->Prop}(D:Nat)(N:V)(ws:List V)(n:Nat)(G:List Nat->Prop)(l:LN)(h:H)(n0:1<=n)(n7:n<=7)(hG:iX n G)(hP: ∀g∈l,bE n g)(hl:l.length<1000000)(hW: ∀q,W q->q<h.next)(hr:Qa W h D n G)(sv:SV h N 1 ws)(b7:Mq (· =D) N)(pv:fW (· =D) h ws l):
  Ev T 162 [.ptr D 0,N] h (λv h'=>v= .ptr D 0/\Qa W h' D n (Jn n G l)/\Fx (· =D) h h'):=by
 refine cV oT rfl ?_
 have lw:=aM.length pv
 have b0:bT N=some (aC (l.length:Int)):=by unfold bT;rw[SV.len sv (n:=l.length) om om];rfl
 simp(disch:=omega)only[go_sem,oT,aD,b0]
 refine aH (λk' j K=> ∃(i:Nat),(∃g:Nat->V,j= [.ptr D 0,g 1,g 2,g 3,N,aC (l.length:Int),aC i,g 7,g 8])/\i<=l.length/\Qa W K D n (Jn n G (l.take i))/\Fx (· =D) h K/\k'=l.length-i) l.length
  ⟨0,aB rfl,iJ _,hr.congr λx=>by rw[List.take_zero];exact Jn.nil hG x,Fx.refl _ _,rfl⟩ ?_
 rintro k' j K ⟨i,⟨g,rfl⟩,hi,r,F,rfl⟩
 by_cases a2:(i:Int)<(l.length:Int)
 case neg=>
  have d1:=bH a2;obtain rfl:i=l.length:=om
  simp(disch:=omega)only[go_sem,d1];exact⟨by rw[List.take_length] at r;exact r,F⟩
 have d1:=bP a2
 have p:i<l.length:=om
 obtain⟨id,a6,sh,c1,hc⟩:=(sv.fx b7 F).shape l.length om om
 have Q:=(aM.get pv i om p).fx F
 obtain⟨x,hx⟩:=exI (l.getD i [])
 rw[show l[i]=x from by rw[←hx];exact rN _] at Q
 have cx:K.cell id (a6+i)=some (ws[i]'om):=by rw[hc i om,dD om]
 generalize ws[i]'om=vx at Q cx
 have X:bE n x:=by rw[←hx];exact hP _ (bD p)
 have s: ∀g∈l.take i,bE n g:=λg hg=>hP g (List.mem_of_mem_take hg)
 have tk:l.take (i+1)=l.take i++ [x]:=by rw[←hx];exact cE [] p
 obtain⟨t,B,O,R,gD,U⟩:=r.ex
 have nD:=r.nx
 have nF:=F.next
 simp(disch:=omega)only[go_sem,d1,sh.ixa,cx]
 refine (FE D vx t B n O R _ x K U nD gD X Q.si).mono ?_
 rintro _ a ⟨bb,rfl,b3,A⟩
 have r2:=r.fr A
 have F2:Fx (· =D) h a:=F.trans (Fx.of (W:=(· =D)) A) λ_ _ h=>h
 cases bb with
 |true=>
  simp(disch:=omega)only[go_sem];rw[eJ i];exact⟨l.length-(i+1),om,i+1,aB rfl,om,r2.congr λy=>by rw[tk];exact Jn.in hG s (b3.1 rfl) y,F2,rfl⟩
 |false=>
  have a7:=U.mono A;have d:a.get D=some (.cells false [aC n,t,B]):=by rw[A.get D nD];exact gD
  have n2:=A.next;have fb:Fr a (H.mk a.tr (a.next+21)):=(Fr.refl a).bA om;simp(disch:=omega)only[go_sem,H.aF d,aI d];refine (xV _ n O R _ a (H.mk a.tr (a.next+21)) a7 fb).mono ?_;rintro vs h3 ⟨us,ow,pu,f3⟩;have a3:=fb.trans f3;have n3:a.next+21<=h3.next:=f3.next;have a9:h3.get D=some (.cells false [aC n,t,B]):=by rw[a3.get D om];exact d
  obtain⟨h4,e4,n4,g4,o4⟩:=LF h3 (a.next+12) h3.next [vx]
  have a0:Fr a h4:=⟨om,λq o=>by rw[o4 q om];exact a3.get q o⟩
  have lu:=aM.length pu;have gl:=Jn.dN hG s;have b9:=qV gl U.isc;have nn:n*n<=7*7:=Nat.mul_le_mul n7 n7;have wx:=SV.cK Q.si;have a4:cY h4 vs 1 us (a.next+21):=ow.mono om λq _ _ _ _ J _=>o4 q (by have:a.next+21<=q:=J;omega)
  obtain⟨P,a5,p5⟩:=a4.push (bytes:=24) (SV.one (v:=vx) (id:=a.next+12) om g4 (.kn 1)) (n:=us.length) (m:=1) om rfl om om om;have n5:=p5.next;have ap: ∀k,k<a.next+21->dL vs k:=λk hk b5 a6 m c e=>by have:a.next+21<=b5:=(a4.in _ _ _ _ e).2.1;omega
  have f:Fr a P:=⟨om,λq o=>by rw[p5.old q om (ap q om)];exact a0.get q o⟩
  have b8:h4.get D=some (.cells false [aC n,t,B]):=by rw[a0.get D om];exact d
  have a8:SP P (.sl h4.next 0 (us.length+1) (.un 1)) (bQ R++ [x]):=fW.KI (W:=λ_=>False) (p5.own om rfl (b:=0) om).sv
   (aM.append (aM.mono (λ_ _ k=>⟨(k.si.mono f),Bc _⟩) pu) ⟨⟨Q.si.mono (A.trans f),Bc _⟩,trivial⟩)
  have a1:P.get D=some (.cells false [aC n,t,B]):=by rw[f.get D om];exact d
  have b2:okV (P.cell D 0) (aC n)=true:=by rw[H.aF a1];simp [okV,dE]
  simp(disch:=omega)only[go_sem,H.aF a9,cT _ (z:= .aE) wx.1 wx.2.1,e4,H.aF b8,a5];refine⟨b2,?_⟩;refine (Lo _ n (bQ R++ [x]) P n0 n7 (by rw[jZ];simp;omega) a8 (λg hg=>(pH.1 hg).elim (λh=>gl.cU (bV U.isc h)) λh=>by rw[List.mem_singleton.1 h];exact X)).mono ?_;rintro _ h6 ⟨vc,O2,R2,rfl,L,f6⟩;obtain⟨uO,uR,_,_,e,sO,_,_,sR,_,_⟩:=L.cw;subst e;have Z:=(SV.cK sO).2.1;have Y:=(SV.cK sR).2.1;have b1:=f.trans f6;have n6:=f6.next;have b4:h6.get D=some (.cells false [aC n,t,B]):=by rw[f6.get D om];exact a1
  obtain⟨h7,e7,c0,g7,o7⟩:=pJ h6 D [aC n,uO,uR];simp(disch:=omega)only[go_sem,bW h6 D 0 (v:= aC n) (u:=uO) (w:=uR) rfl Z Y,b4,cF,e7];rw[eJ i]
  have F7:Fx (· =D) a h7:=⟨om,λq J o=>by rw[o7 q o,b1.get q J]⟩
  refine⟨l.length-(i+1),om,i+1,aB rfl,om,⟨⟨uO,uR,O2,R2,g7,?_⟩,om,r.nW⟩,F2.trans F7 λ_ _ h=>h,rfl⟩;have b6:=(L.congr (G':=Jn n G (l.take (i+1))) λy=>by rw[tk];exact Jn.push hG s X U.isc y).lH (W':=λid=>W id∨id=D) λid J a=>a.elim (λh=>by have:=hW _ h;omega) λe=>om
  exact b6.go ⟨om,λq J o=>o7 q λe=>o (.inr e)⟩ λ_ _ h=>h
section
variable {n:Nat}
theorem Ef {x y b:List Nat}(X:bE n x)(Y:bE n y)(B:bE n b):cW (aX x y) b=aX (cW x b) (cW y b):=by
 unfold cW;have i:=B.inv;rw[aV (i.mul X) B ((i.mul Y).mul B),←aV B (i.mul Y) B,←aV B i Y,fC B,cL Y,←aV i X Y,aV (i.mul X) Y B]
theorem Ro {b:List Nat}(B:bE n b):cW (bL n) b=bL n:=by
 unfold cW;rw[bZ B.inv,iE B]
theorem YN {l:LN}{b:List Nat}(c: ∀g∈l,bE n g)(B:bE n b)(h: ∀x∈l,bX n (· ∈l) (cW x b)){x:List Nat}(a:bX n (· ∈l) x):bX n (· ∈l) (cW x b):=by
 induction a with
 |one=>rw[Ro B];exact .one
 |mul a hg ih=>rw[Ef (a.cU c) (c _ hg) B];exact ih.app c (h _ hg)
theorem MX {c l B:LN}(f: ∀b∈B,bE n b)(p: ∀g∈c,bE n g)(d: ∀g∈l,bE n g)(m: ∀g∈c,g∈l)(o: ∀g∈l,NC n (· ∈c) (· ∈B) g)(q: ∀x∈l,∀b∈B,bX n (· ∈l) (cW x b))(x:List Nat):bX n (· ∈l) x↔NC n (· ∈c) (· ∈B) x:=
 ⟨λh=>bX.le (NC.dN p f) o h,λh=>h.le (bX.dN d) (λa j=>bX.of d (m a j)) λ_ b r i=>YN d (f b i) (λz k=>q z k b i) r⟩
end
theorem QD (id O Q P:Nat)(j:V)(B:LN)(n M:Nat)(n0:1<=n)(hn:n<=64)(hB: ∀b∈B,bE n b)(a7:B.length<1000000)(hM:M<10000000)(h:H)(J:Nat->Nat->LN->H->Prop)(l0:LN)(K:J 0 0 l0 h)
  (jF: ∀i k l hh,J i k l hh->hh.get O=aZ [.ptr P 0]/\hh.get Q=aZ [j]/\(∃vl ws,hh.get P=aZ [vl]/\SV hh vl 1 ws/\aM (λv x=>SI hh v (zi x)) ws l)/\SP hh j B/\l.length<=M/\ ∀g∈l,bE n g)
  (jf: ∀i k l hh h',J i k l hh->Fr hh h'->J i k l h')
  (jn: ∀i l hh,J i B.length l hh->J (i+1) 0 l hh)
  (hy: ∀i k l K hh v,i<l.length->k<B.length->J i k l K->Fr K hh->PV (λq=>q<K.next) hh v (cW (l.getD i []) (B.getD k []))->Ey T id [v] hh (λv h'=>v= .bool true/\ ∃l',i<l'.length/\J i (k+1) l' h')):
  Ev T 206 [.yl id,.ptr O 0,.ptr Q 0] h (λ_ h'=> ∃l,J l.length 0 l h'):=by
 refine cV oZ rfl ?_
 simp(disch:=omega)only[go_sem,oZ,aD]
 refine aH (λu a hh=> ∃(i:Nat) (l:LN),(∃g:Nat->V,a= [.yl id,.ptr O 0,.ptr Q 0,aC i,g 4,g 5,g 6,g 7,g 8,g 9,g 10,g 11])/\i<=l.length/\J i 0 l hh/\u=M-i) M
  ⟨0,l0,aB rfl,iJ _,K,rfl⟩ ?_
 rintro u a h1 ⟨i,l,⟨g,rfl⟩,hi,j1,rfl⟩
 obtain⟨c,r,⟨vl,ws,A,sv,z⟩,W,lM,hP⟩:=jF _ _ _ _ j1
 have lw:=aM.length z
 have m:bT vl=some (aC (l.length:Int)):=by unfold bT;rw[SV.len sv (n:=l.length) om om];rfl
 by_cases p:(i:Int)<(l.length:Int)
 case neg=>
  have R:=bH p;obtain rfl:i=l.length:=om
  simp(disch:=omega)only[go_sem,H.aF c,H.aF A,m,R];exact⟨l,j1⟩
 have R:=bP p
 have L:=W.lens
 rw[jV] at L
 simp(disch:=omega)only[go_sem,H.aF c,H.aF A,m,R,H.aF r,L]
 refine aH (λu a hh=> ∃(k:Nat) (l:LN),(∃g:Nat->V,a= [.yl id,.ptr O 0,.ptr Q 0,aC i,g 4,g 5,g 6,j,aC (B.length:Int),aC k,g 10,g 11])/\k<=B.length/\i<l.length/\J i k l hh/\u=B.length-k) B.length
  ⟨0,l,aB rfl,iJ _,om,j1,rfl⟩ ?_
 clear c r A sv z m R p
 rintro u a h2 ⟨k,l,⟨g,rfl⟩,hk,o,j2,rfl⟩
 obtain⟨c,r,⟨vl,ws,A,sv,z⟩,W,lM,hP⟩:=jF _ _ _ _ j2
 by_cases F:(k:Int)<(B.length:Int)
 case neg=>
  have U:=bH F;obtain rfl:k=B.length:=om
  simp(disch:=omega)only[go_sem,U];rw[eJ i];exact⟨M-(i+1),om,i+1,l,aB rfl,om,jn _ _ _ j2,rfl⟩
 have U:=bP F
 have f:k<B.length:=om
 have lw:=aM.length z
 obtain⟨a2,G,a0,a3,Z⟩:=sv.shape l.length om om
 have sx:=aM.get z i om o
 rw[show l[i]=l.getD i [] from rN _] at sx
 have cl:h2.cell a2 (G+i)=some (ws[i]'om):=by rw[Z i om,dD om]
 generalize ws[i]'om=vx at sx cl
 obtain⟨a6,a4,us,t,N,a5,a1,s⟩:=W.open
 rw[jV] at t N
 have cB:=a1 k (by rw[jV];exact f)
 have sb:=Ml s f
 generalize us.getD k V.undef=vb at cB sb
 have X:=hP _ (bD (d:= []) o)
 have Y:=hB _ (bD (d:= []) f)
 simp(disch:=omega)only[go_sem,U,t.ixa,cB,H.aF c,H.aF A,a0.ixa,cl]
 refine (PK vx vb n _ _ h2 n0 hn X Y sx sb).mono ?_
 rintro _ h3 ⟨w,rfl,pw,f3⟩
 simp(disch:=omega)only[go_sem]
 refine (hy i k l h2 h3 w o f j2 f3 pw).mono ?_
 rintro _ h4 ⟨rfl,l',y,j4⟩
 simp(disch:=omega)only[go_sem]
 rw[eJ k]
 exact⟨B.length-(k+1),om,k+1,l',aB rfl,om,y,j4,rfl⟩
set_option maxRecDepth 100000
set_option maxRecDepth 100000
structure Plc (l:LN)(x:List Nat)(k:Nat):Prop where
 le:k<=l.length
 lo: ∀i,i<k->yU (l.getD i []) x=true
 hi: ∀i,k<=i->i<l.length->yU (l.getD i []) x=false
theorem anB (J y:V)(n:Nat)(l:LN)(x:List Nat)(h:H)(hn:n<1000)(hl:l.length<1000000)(hP: ∀g∈l,bE n g)(X:bE n x)(a1:l.Pairwise Lt)(hv:SP h J l)(hx:SI h y (zi x)):
  Ev T 93 [J,y] h (λv h'=> ∃k:Nat,v= .tup [aC k,.bool (decide (x∈l))]/\Plc l x k/\(x∈l->k<l.length/\l.getD k []=x)/\Fr h h'):=by
 obtain⟨O,sv,Z⟩:=hv
 have W:=aM.length Z
 rw[jV] at W
 refine cV ajV rfl ?_
 have lv:bT J=some (aC (l.length:Int)):=by unfold bT;rw[SV.len sv (n:=l.length) om om];rfl
 obtain⟨id,Q,sh,a0,hc⟩:=SV.shape sv l.length om om
 have a: ∀i,i<l.length->(l.getD i []).length=n:=λi hi=>(hP _ (bD hi)).len
 have mono: ∀i j,i<j->j<l.length->Lt (l.getD i []) (l.getD j []):=λi j r b=>by
  have ei:l.getD i []=l[i]:=by rw[List.getD,dD om];rfl
  have ej:l.getD j []=l[j]:=by rw[List.getD,dD b];rfl
  rw[ei,ej];exact JX.1 a1 i j om b r
 have cell: ∀o,Fr h o-> ∀i,i<l.length->o.cell id (Q+i)=some (O.getD i .undef):=λo f i hi=>by
  rw[f.cell (a0 om),hc i om];simp [List.getD,show i<O.length by omega]
 simp(disch:=omega)only[go_sem,ajV,aD,lv]
 refine bJ (λvs o=> ∃k,(∃g:Nat->V,vs= [J,y,g 2,g 3,aC (k:Nat),g 5,g 6,g 7,g 8])/\Plc l x k/\Fr h o) ?_ ?_
 ·refine aH (λk' d o=> ∃(i j:Nat),(∃g:Nat->V,d= [J,y,g 2,g 3,aC i,aC j,g 6,g 7,g 8])/\i<=j/\j<=l.length/\(∀q,q<i->yU (l.getD q []) x=true)/\(∀q,j<=q->q<l.length->yU (l.getD q []) x=false)/\Fr h o/\k'=j-i) l.length
   ⟨0,l.length,aB rfl,om,om,λm hm=>om,λm r b=>om,Fr.refl h,rfl⟩ ?_
  rintro k' d o ⟨i,j,⟨g,rfl⟩,a2,hj,L,G,F,rfl⟩
  by_cases A:(i:Int)<(j:Int)
  case neg=>
   have w:=bH A;obtain rfl:i=j:=om
   simp(disch:=omega)only[go_sem,w];exact⟨i,aB rfl,⟨hj,L,G⟩,F⟩
  have w:=bP A
  obtain⟨m,hm⟩:=exI ((i+j)/2)
  have ea:(i:Int)+(j:Int)=((i+j:Nat):Int):=om
  have K:((i+j:Nat):Int).tdiv 2=(m:Int):=by rw[Int.tdiv_eq_ediv_of_nonneg om];omega
  have B:=cell o F m om
  have sm:=Ml Z (i:=m) om
  generalize O.getD m .undef=Y at B sm
  simp(disch:=omega)only[go_sem,w,ea,K,sh.ixa,B]
  refine (amF Y y n _ x o om (a m om) X.len (sm.mono F) (hx.mono F)).mono ?_
  rintro _ s ⟨rfl,N⟩
  cases hl2:yU (l.getD m []) x with
  |true=>
   simp(disch:=omega)only[go_sem];rw[eJ m];refine⟨j-(m+1),om,m+1,j,aB rfl,om,hj,λq R=>?_,G,F.trans N,rfl⟩
   by_cases e:q=m
   ·rw[e];exact hl2
   ·have r:=mono q m om om
    have b:=(Cb (by rw[a m om,X.len])).1 hl2;exact (Cb (by rw[a q om,X.len])).2 (Lt.trans (by rw[a q om,a m om]) r b)
  |false=>
   simp(disch:=omega)only[go_sem];refine⟨m-i,om,i,m,aB rfl,om,om,L,λq r b=>?_,F.trans N,rfl⟩
   by_cases e:q=m
   ·rw[e];exact hl2
   ·rw[←Bool.not_eq_true]
    intro s;have p:=mono m q om b;have z:=(Cb (by rw[a q b,X.len])).1 s;rw[(Cb (by rw[a m om,X.len])).2 (Lt.trans (by rw[a q b,a m om]) p z)] at hl2;cases hl2
 rintro d b ⟨k,⟨g,rfl⟩,P,F⟩
 have c:x∈l->k<l.length/\l.getD k []=x:=λU=>by
  obtain⟨q,R,eq⟩:=zF.1 U;have t:l.getD q []=x:=by rw[List.getD,dD R,←eq];rfl
  have r:k<=q:=Nat.le_of_not_lt λs=>by
   have:=P.lo q s;rw[t,aiP] at this;cases this
  have b:k=q:=Nat.le_antisymm r (Nat.le_of_not_lt λs=>by
   have p:=mono k q s R;rw[t] at p;have z:=P.hi k (fM _) om;rw[(Cb (by rw[a k om,X.len])).2 p] at z
   cases z)
  exact⟨om,by rw[b];exact t⟩
 by_cases hk:(k:Int)<(l.length:Int)
 ·have w:=bP hk
  have B:=cell b F k om
  have sm:=Ml Z (i:=k) om
  generalize O.getD k .undef=Y at B sm
  simp(disch:=omega)only[go_sem,lv,w,sh.ixa,B]
  refine (GV Y y _ _ b (sm.mono F) (hx.mono F) (by rw[aQ,a k om];omega) (by rw[aQ,X.len];omega)).mono ?_
  rintro _ s ⟨rfl,N⟩
  have K:decide (zi (l.getD k [])=zi x)=decide (x∈l):=by
   rw[decide_eq_decide];constructor
   ·intro p
    have z:l.getD k []=x:=List.map_inj_right (λu v b=>om)|>.1 p;rw[←z];exact bD om
   ·intro p;rw[(c p).2]
  simp(disch:=omega)only[go_sem,K]
  exact⟨k,rfl,P,c,F.trans N⟩
 ·have w:=bH hk
  have K:decide (x∈l)=false:=bH λp=>by have:=(c p).1;omega
  simp(disch:=omega)only[go_sem,lv,w]
  exact⟨k,by rw[K],P,c,F⟩
theorem anI (b d:V)(n:Nat)(l:LN)(x:List Nat)(h:H)(j:n<1000)(i:l.length<1000000)(q: ∀g∈l,bE n g)(X:bE n x)(f:l.Pairwise Lt)(m:SP h b l)(p:SI h d (zi x)):
  Ev T 37 [b,d] h (λv h'=>((∃k:Nat,v= aC k/\k<l.length/\l.getD k []=x)∨x∉l/\v= aC (-1))/\Fr h h'):=by
 refine cV ajR rfl ?_
 simp(disch:=omega)only[go_sem,ajR,aD]
 refine (anB b d n l x h j i q X f m p).mono ?_
 rintro _ s ⟨k,rfl,r,o,F⟩
 by_cases a:x∈l
 ·have c:=bP a
  simp(disch:=omega)only[go_sem,c]
  exact⟨.inl ⟨k,rfl,o a⟩,F⟩
 ·have c:=bH a
  simp(disch:=omega)only[go_sem,c]
  exact⟨.inr ⟨a,trivial⟩,F⟩
theorem Gj {g:Nat}(L:T g=some jN.fn)(u w:V)(a b:List (List Int))(h:H)(hu:SR h u a)(hw:SR h w b)(la:a.length<1000000)(lb:b.length<1000000)(ra: ∀x∈a,x.length<1000000)(rb: ∀x∈b,x.length<1000000):
  Ev T g [u,w] h (λv h'=>v= .bool (decide (a=b))/\Fr h h'):=by
 refine Ko L rfl ?_
 have y:=hu.lens
 have lw:=hw.lens
 obtain⟨P,sa,aa⟩:=hu
 obtain⟨A,sb,ab⟩:=hw
 have a1:=aM.length aa
 have a0:=aM.length ab
 obtain⟨id,m,sh,q,hc⟩:=SV.shape sa a.length om om
 obtain⟨o,k,Z,f,W⟩:=SV.shape sb b.length om om
 by_cases O:(a.length:Int)=(b.length:Int)
 case neg=>
  have N:=bP O;simp(disch:=omega)only[go_sem,jN,aD,y,lw,N];exact⟨by rw[bH];intro e;exact O (by rw[e]),Fr.refl h⟩
 have U:a.length=b.length:=om
 have N:decide ((a.length:Int)≠(b.length:Int))=false:=bH (by simpa using O)
 simp(disch:=omega)only[go_sem,jN,aD,y,lw,N]
 refine aH (λk' d c=> ∃(i:Nat),(∃g:Nat->V,d= [u,w,g 2,aC i,g 4,g 5,g 6])/\i<=a.length/\(∀j,j<i->a.getD j []=b.getD j [])/\Fr h c/\k'=a.length-i) a.length
  ⟨0,aB rfl,iJ _,λj hj=>om,Fr.refl h,rfl⟩ ?_
 rintro k' d c ⟨i,⟨g,rfl⟩,hi,hs,F,rfl⟩
 by_cases l:(i:Int)<(a.length:Int)
 case neg=>
  have Q:=bH l;obtain rfl:i=a.length:=om
  simp(disch:=omega)only[go_sem,y,Q]
  have:a=b:=by
   refine List.ext_getElem U λj h1 h2=>?_
   have:=hs j h1;rwa [List.getD,dD h1,List.getD,dD h2] at this
  exact⟨by rw[bP this],F⟩
 have Q:=bP l
 have Y:c.cell id (m+i)=some (P.getD i .undef):=by
  rw[F.cell (q om),hc i om];simp [List.getD,show i<P.length by omega]
 have G:c.cell o (k+i)=some (A.getD i .undef):=by
  rw[F.cell (f om),W i om];simp [List.getD,show i<A.length by omega]
 have s1:=akD aa (i:=i) om
 have B:=akD ab (i:=i) om
 generalize P.getD i .undef=va at Y s1
 generalize A.getD i .undef=vb at G B
 have s:=s1.dE
 have p:=B.dE
 simp(disch:=omega)only[go_sem,y,Q,sh.ixa,Y,Z.ixa,G]
 refine (GV va vb _ _ _ (s1.mono (F.trans ((Fr.refl c).bA om))) (B.mono (F.trans ((Fr.refl c).bA om))) (ra _ (bD om)) (rb _ (bD om))).mono ?_
 rintro _ t ⟨rfl,K⟩
 have F3:=F.trans (((Fr.refl c).bA om).trans K)
 have n:t.cell id (m+i)=some va:=by
  have R:Fr c t:=((Fr.refl c).bA om).trans K;rw[R.cell (by have:=q om;have:=F.next;omega)];exact Y
 have r:t.cell o (k+i)=some vb:=by
  have R:Fr c t:=((Fr.refl c).bA om).trans K;rw[R.cell (by have:=f om;have:=F.next;omega)];exact G
 by_cases z:a.getD i []=b.getD i []
 ·have J:=bP z
  simp(disch:=omega)only[go_sem,J,n,r,s,p]
  rw[eJ i]
  refine⟨a.length-(i+1),om,i+1,aB rfl,om,λj hj=>?_,F3,rfl⟩
  by_cases e:j=i
  ·rw[e];exact z
  ·exact hs j om
 ·have J:=bH z
  simp(disch:=omega)only[go_sem,J,n,r,s,p]
  exact⟨by rw[bH];intro e;exact z (by rw[e]),F3⟩
theorem Vt (u w:V)(a b:List (List Int))(h:H)(d:SR h u a)(c:SR h w b)(i:a.length<1000000)(lb:b.length<1000000)(f: ∀x∈a,x.length<1000000)(j: ∀x∈b,x.length<1000000):
  Ev T 90 [u,w] h (λv h'=>v= .bool (decide (a=b))/\Fr h h'):=Gj jN.ok u w a b h d c i lb f j
theorem Vi (u w:V)(a b:List (List Int))(h:H)(d:SR h u a)(c:SR h w b)(i:a.length<1000000)(lb:b.length<1000000)(f: ∀x∈a,x.length<1000000)(j: ∀x∈b,x.length<1000000):
  Ev T 41 [u,w] h (λv h'=>v= .bool (decide (a=b))/\Fr h h'):=Gj Kw.ok u w a b h d c i lb f j
theorem Ve (v1 v2:V)(G L:Int)(O1 O2:List (List Int))(b d:List (List (List Int)))(h:H)(c1:WI h v1 G O1 b)(c2:WI h v2 L O2 d)(c0:zV O1)(a3:zV O2)(Y:sN b)(W:sN d):
  Ev T 31 [v1,v2] h (λv h'=>v= .bool (decide (G=L/\O1=O2/\b=d))/\Fr h h'):=by
 obtain⟨Z,K,e,sO,sR⟩:=c1
 subst e
 obtain⟨uO,U,e,tO,tR⟩:=c2
 subst e
 refine cV rP rfl ?_
 have a8:Z.one=true:=oNs sO
 have a7:K.one=true:=oNt sR
 have Q:uO.one=true:=by obtain⟨_,t,_⟩:=tO;exact t.cK.2.1
 have P:U.one=true:=by obtain⟨_,t,_⟩:=tR;exact t.cK.2.1
 have b5:dE K K=true:=by obtain⟨_,t,_⟩:=sR;exact t.dE
 have J:dE U U=true:=by obtain⟨_,t,_⟩:=tR;exact t.dE
 obtain⟨A,hA⟩:=exI h.next
 obtain⟨h1,e1,n1,g1,o1,f1⟩:=dF hA [aC G,Z,K]
 obtain⟨c,e2,n2,g2,o2,f2⟩:=dF n1 [aC L,uO,U]
 have bx:=λa:H=>bM a (v:= aC G) (u:=Z) (w:=K) rfl a8 a7
 have b4:=λa:H=>bM a (v:= aC L) (u:=uO) (w:=U) rfl Q P
 have F2:=f1.trans f2
 have gA:c.get A=aZ [aC G,Z,K]:=by rw[o2 _ om];exact g1
 have a0: ∀a,Fr c a->a.cell A 0=some (aC G):=λa f=>by rw[f.cell om,H.aF gA];rfl
 have a1: ∀a,Fr c a->a.cell A 1=some Z:=λa f=>by rw[f.cell om,H.aF gA];rfl
 have a2: ∀a,Fr c a->a.cell A 2=some K:=λa f=>by rw[f.cell om,H.aF gA];rfl
 have b0: ∀a,Fr c a->a.cell (A+1) 0=some (aC L):=λa f=>by rw[f.cell om,H.aF g2];rfl
 have b1: ∀a,Fr c a->a.cell (A+1) 1=some uO:=λa f=>by rw[f.cell om,H.aF g2];rfl
 have b2: ∀a,Fr c a->a.cell (A+1) 2=some U:=λa f=>by rw[f.cell om,H.aF g2];rfl
 have r2:=Fr.refl c
 by_cases hd:G=L
 case neg=>
  have e3:=bP hd;simp(disch:=omega)only[go_sem,rP,aD,bx,b4,hA,e1,n1,e2,a0 c r2,b0 c r2,e3,Ag];exact⟨by rw[bH];exact λx=>hd x.1,F2⟩
 have e3:decide (G≠L)=false:=bH (by simpa using hd)
 simp(disch:=omega)only[go_sem,rP,aD,bx,b4,hA,e1,n1,e2,a0 c r2,b0 c r2,a1 c r2,b1 c r2,e3]
 have mem: ∀{l:List (List Int)},(∀i,i<l.length->(l.getD i []).length<1000000)-> ∀x∈l,x.length<1000000:=λhl x r=>by
  obtain⟨i,hi,rfl⟩:=zF.1 r;have:=hl i hi;rwa [List.getD,dD hi] at this
 refine (Vt Z uO O1 O2 c (sO.mono F2) (tO.mono F2) c0.1 a3.1 (mem c0.2) (mem a3.2)).mono ?_
 rintro _ h3 ⟨rfl,f3⟩
 obtain⟨wR,b3,aR,_⟩:=sR
 obtain⟨zR,z,a6,_⟩:=tR
 have d0:=Y.1
 have d3:=W.1
 have d5:=aM.length aR
 have d4:=aM.length a6
 have m:bT K=some (aC (b.length:Int)):=by unfold bT;rw[SV.len b3 (n:=b.length) om om];rfl
 have a5:bT U=some (aC (d.length:Int)):=by unfold bT;rw[SV.len z (n:=d.length) om om];rfl
 have F3:=F2.trans f3
 by_cases hO:O1=O2
 case neg=>
  have e4:=bH hO;simp(disch:=omega)only[go_sem,e4,Ag];exact⟨by rw[bH];exact λx=>hO x.2.1,F3⟩
 have e4:=bP hO
 by_cases hl:(b.length:Int)=(d.length:Int)
 case neg=>
  have e5:=bP hl;simp(disch:=omega)only[go_sem,e4,a2 h3 f3,b2 h3 f3,m,a5,e5];exact⟨by rw[bH];exact λx=>hl (by rw[x.2.2]),F3⟩
 have e5:decide ((b.length:Int)≠(d.length:Int))=false:=bH (by simpa using hl)
 have c8:b.length=d.length:=om
 obtain⟨id,c5,sh,c7,hc⟩:=SV.shape b3 b.length om om
 obtain⟨c6,b8,c3,a4,c9⟩:=SV.shape z d.length om om
 simp(disch:=omega)only[go_sem,e4,a2 h3 f3,b2 h3 f3,m,a5,e5]
 refine aH (λk' B a=> ∃(i:Nat),(∃g:Nat->V,B= [g 0,g 1,.ptr A 0,.ptr (A+1) 0,g 4,aC i,g 6,g 7,g 8])/\i<=b.length/\(∀j,j<i->b.getD j []=d.getD j [])/\Fr h3 a/\k'=b.length-i) b.length
  ⟨0,aB rfl,iJ _,λj hj=>om,Fr.refl h3,rfl⟩ ?_
 rintro k' B a ⟨i,⟨g,rfl⟩,hi,hs,F,rfl⟩
 have o:=f3.trans F
 by_cases a9:(i:Int)<(b.length:Int)
 case neg=>
  have e1:=bH a9;obtain rfl:i=b.length:=om
  simp(disch:=omega)only[go_sem,a2 a o,m,e1]
  have:b=d:=by
   refine List.ext_getElem c8 λj h1 c=>?_
   have:=hs j h1;rwa [List.getD,dD h1,List.getD,dD c] at this
  exact⟨by rw[bP ⟨hd,hO,this⟩],F3.trans F⟩
 have e1:=bP a9
 have N:i<b.length:=om
 have p: ∀r,Fr h r->r.cell id (c5+i)=some (wR.getD i .undef):=λr f=>by
  rw[f.cell (c7 om),hc i om];simp [List.getD,show i<wR.length by omega]
 have s: ∀r,Fr h r->r.cell c6 (b8+i)=some (zR.getD i .undef):=λr f=>by
  rw[f.cell (a4 om),c9 i om];simp [List.getD,show i<zR.length by omega]
 have gg: ∀{ws:List V} {R:List (List (List Int))},aM (SR h) ws R->i<R.length->SR h (ws.getD i .undef) (R.getD i []):=λ{ws R} al b7=>by
  have h1:=aM.length al;have:=aM.get al i om b7;rw[List.getD,List.getD,dD om,dD b7];exact this
 have s1:=gg aR N
 have s2:=gg a6 om
 generalize wR.getD i .undef=va at p s1
 generalize zR.getD i .undef=vb at s s2
 have b9:dE va va=true:=by obtain⟨_,t,_⟩:=s1;exact t.dE
 have b6:dE vb vb=true:=by obtain⟨_,t,_⟩:=s2;exact t.dE
 have Fh:=F3.trans F
 simp(disch:=omega)only[go_sem,a2 a o,b2 a o,m,e1,sh.ixa,c3.ixa,p a Fh,s a Fh]
 refine (Vi va vb _ _ _ (s1.mono (Fh.trans ((Fr.refl a).bA om))) (s2.mono (Fh.trans ((Fr.refl a).bA om))) (Y.2 i N).1 (W.2 i om).1 (mem (Y.2 i N).2) (mem (W.2 i om).2)).mono ?_
 rintro _ y ⟨rfl,c4⟩
 have f4:Fr a y:=((Fr.refl a).bA om).trans c4
 have q:=o.trans f4
 have k:=Fh.trans f4
 by_cases he:b.getD i []=d.getD i []
 ·have O:decide (b.getD i []=d.getD i [])=true:=bP he
  simp(disch:=omega)only[go_sem,O,a2 y q,b2 y q,p y k,s y k,b9,b6,b5,J]
  rw[eJ i]
  refine⟨b.length-(i+1),om,i+1,aB rfl,om,λj hj=>?_,F.trans f4,rfl⟩
  by_cases e:j=i
  ·rw[e];exact he
  ·exact hs j om
 ·have O:decide (b.getD i []=d.getD i [])=false:=bH he
  simp(disch:=omega)only[go_sem,O,a2 y q,b2 y q,p y k,s y k,b9,b6,b5,J]
  exact⟨by rw[bH];exact λx=>he (by rw[x.2.2]),k⟩
set_option maxRecDepth 100000
theorem akI {W:Nat->Prop}(vc:V)(n:Nat)(O:LN)(R:jI)(G:List Nat->Prop)(h:H)(d:GC W h vc n O R G):
  Ev T 96 [vc] h (λv h'=>SP h' v R.flatten/\Fr h h'):=by
 obtain⟨N,z,e,sO,sR⟩:=d.ch
 subst e
 refine cV ahK rfl ?_
 have p:N.one=true:=oNs sO
 have o:z.one=true:=oNt sR
 obtain⟨J,y,aR,_⟩:=sR
 have n7:=d.n7
 have lR:=d.isc.lr
 have lw:=aM.length aR
 rw[jV,lR] at lw
 obtain⟨A,hA⟩:=exI h.next
 obtain⟨k,e1,n1,g1,o1,K⟩:=dF hA [aC n,N,z]
 have bx:=bM h (v:= aC n) (u:=N) (w:=z) rfl p o
 have l:bT z=some (aC n):=by unfold bT;rw[SV.len y (n:=n) om om];rfl
 obtain⟨id,t,sh,a0,hc⟩:=SV.shape y n om om
 have a2: ∀b,Fr k b->b.cell A 2=some z:=λb f=>by rw[f.cell om,H.aF g1];rfl
 have rl: ∀i,i<n->(R.getD i []).length<=n/\0<(R.getD i []).length:=λi hi=>by
  refine⟨?_,(KS d.dN d.isc hi).1⟩;rw[d.isc.rl i hi];have:=uQ (λx hx=>d.dN.cU hx) hi (d.isc.asc i hi) (d.isc.mem i hi);omega
 have fl: ∀i,i<=n->((R.take i).flatten).length<=i*n:=λi hi=>by
  induction i with
  |zero=>simp
  |succ i ih=>
   have k:=(rl i om).1;rw[cE [] om,List.flatten_append,jZ,Nat.succ_mul];have:=ih om;simp only[List.flatten_cons,List.flatten_nil,vF];omega
 simp(disch:=omega)only[go_sem,ahK,aD,bx,hA,e1]
 refine aH (λk' j b=> ∃(i:Nat) (L:V) (a:List V),(∃g:Nat->V,j= [g 0,.ptr A 0,g 2,L,aC i,g 5])/\i<=n/\cY b L 1 a k.next/\aM (SI h) a (((R.take i).flatten).map zi)/\Fr k b/\k'=n-i) n
  ⟨0,.aE, [],aB rfl,iJ _,cY.aE _ _ _,trivial,Fr.refl k,rfl⟩ ?_
 rintro k' j b ⟨i,L,a,⟨g,rfl⟩,hi,Q,B,F,rfl⟩
 by_cases r:(i:Int)<(n:Int)
 case neg=>
  have d1:=bH r;obtain rfl:i=n:=om
  simp(disch:=omega)only[go_sem,a2 b F,l,d1];rw[Tn om] at B;exact⟨⟨a,Q.sv,B.mono λ_ _ s=>s.mono (K.trans F)⟩,K.trans F⟩
 have d1:=bP r
 have Y:i<n:=om
 have cc:b.cell id (t+i)=some (J.getD i .undef):=by
  rw[(K.trans F).cell (a0 om),hc i om];simp [List.getD,show i<J.length by omega]
 have sr:SR h (J.getD i .undef) ((R.getD i []).map zi):=by
  have h2:=aM.get aR i om (by rw[jV];omega);rw[List.getElem_map] at h2;rw[List.getD,List.getD,dD om,dD om];exact h2
 generalize J.getD i .undef=va at cc sr
 obtain⟨wi,si,ai⟩:=sr
 have U:=aM.length ai
 rw[jV] at U
 have hr:=rl i Y
 have P:=aM.length B
 rw[jV] at P
 have a3:=fl i om
 have a1:i*n<=7*7:=Nat.mul_le_mul om n7
 have Fh:=K.trans F
 obtain⟨hd,ad,Z⟩:=Q.push (bytes:=24) (si.mono Fh) (n:=a.length) (m:=(R.getD i []).length) om om om hr.2 om
 simp(disch:=omega)only[go_sem,a2 b F,l,d1,sh.ixa,cc,ad]
 rw[eJ i]
 have nF:=F.next
 have nd:=Z.next
 refine⟨n-(i+1),om,i+1,_,a++wi,aB rfl,om,Z.own om om om,?_,⟨om,λq hq=>?_⟩,rfl⟩
 ·rw[cE [] om,List.flatten_append,List.map_append]
  simp only[List.flatten_cons,List.flatten_nil,vF]
  exact aM.append B ai
 ·rw[Z.old q om (λid t n' c e e2=>by have:=(Q.in _ _ _ _ e).2.1;omega)]
  exact F.get q hq
set_option maxRecDepth 100000
theorem Ye {b:List Cls.KE}{i:Nat}(hi:i<b.length):(uK b)[i*3]? =some b[i].rep/\(uK b)[i*3+1]? =some (aC (b[i].ord:Int))/\(uK b)[i*3+2]? =some (aC (b[i].size:Int)):=by
 induction b generalizing i with
 |nil=>simp at hi
 |cons a r ih=>
  have e:uK (a::r)= [a.rep,aC (a.ord:Int),aC (a.size:Int)]++uK r:=rfl
  cases i with
  |zero=>exact⟨rfl,rfl,rfl⟩
  |succ i=>
   have c:=ih (i:=i) (by simpa using hi);rw[e,show (i+1)*3=i*3+3 by omega];refine⟨?_,?_,?_⟩
   ·rw[gAR (by simp)];exact c.1
   ·rw[gAR (by simp)];exact c.2.1
   ·rw[gAR (by simp)];exact c.2.2
end Go.Proofs.YtcdbmkidaecdiaaGreat
namespace Go.Pm
set_option maxRecDepth 100000
section
variable {n:Nat} {t:rL}
theorem oK.gt (T:oK n t){i p:Nat}{y:List Nat}(h:t i p=some y):i<p:=by
 have Y:=T.cU _ _ _ h;have F:=T.fix _ _ _ h;obtain⟨c,b,d⟩:=T.lt _ _ _ h;have m:=T.maps _ _ _ h;rcases Nat.lt_or_ge p i with a|a
 ·exact absurd (Y.inj c b (m.trans (F p a).symm)) oq
 ·omega
def eR (t:rL)(i p:Nat):zI:=(List.range p).filterMap (t i)
def eB (n:Nat)(t:rL)(i:Nat):zI:=(List.range i).flatMap λi=>eR t i n
theorem HB (i p:Nat):eR t i (p+1)=eR t i p++(t i p).toList:=by
 unfold eR;rw[List.range_succ,List.filterMap_append];cases h:t i p<;>simp [h]
theorem FL (i:Nat):eB n t (i+1)=eB n t i++eR t i n:=by
 unfold eB;rw[List.range_succ,List.flatMap_append];simp
theorem Vw:eB n t n=fR n t 0:=by
 unfold eB fR eR;simp
theorem yE (T:oK n t):(fR n t 0).Nodup:=by
 have f: ∀i p a k y,t i p=some y->t a k=some y->i=a/\p=k:=λi p a k y d j=>by
  have u:=T.gt d;have v:=T.gt j;have s:=T.fix _ _ _ d;have q:=T.fix _ _ _ j;have o:=T.maps _ _ _ d;have m:=T.maps _ _ _ j
  have e:i=a:=by
   rcases Nat.lt_trichotomy i a with h|h|h
   ·have:=q i h;omega
   ·exact h
   ·have:=s a h;omega
  subst e;exact⟨rfl,o.symm.trans m⟩
 rw[←Vw];unfold eB;rw[List.Nodup,List.pairwise_flatMap];refine⟨λi _=>?_,?_⟩
 ·unfold eR
  rw[List.pairwise_filterMap];refine (List.nodup_range (n:=n)).imp ?_;intro p k c y l r b e;subst e;exact c (f _ _ _ _ _ l b).2
 ·refine (List.nodup_range (n:=n)).imp ?_
  intro i a c y l r b e;subst e;obtain⟨p,_,d⟩:=List.mem_filterMap.1 l;obtain⟨k,_,j⟩:=List.mem_filterMap.1 b;exact c (f _ _ _ _ _ d j).1
def frF (n:Nat)(t:rL)(l:zI):zI:=(fR n t 0).filter λy=>decide (y∉l)
def clF (n:Nat)(t:rL)(x:List Nat)(l:zI):zI:=if (fR n t 0).length<(fR n (jJ t n x) 0).length then l++frF n (jJ t n x) l else l
structure Cx (n:Nat)(L:List Nat->Prop)(t:rL)(l:zI):Prop where
 tl:Oo n L t
 nd:l.Nodup
 mem: ∀y,y∈l↔y∈fR n t 0
variable {L:List Nat->Prop} {l:zI}
theorem Cx.cU (c:Cx n L t l): ∀y∈l,bE n y:=λy a=>c.tl.tab.MK y ((c.mem y).1 a)
theorem Cx.bound (c:Cx n L t l):l.length<=n^n:=Be c.nd c.cU
theorem Cx.start (c:Oo n L t):Cx n L t (fR n t 0):=⟨c,yE c.tab,λ_=>Iff.rfl⟩
theorem Yv {a:rL}(s:Sub t a): ∀y,y∈fR n t 0->y∈fR n a 0:=λy f=>by
 obtain⟨i,p,b,h,c,d⟩:=fV.1 f;exact fV.2 ⟨i,p,b,h,c,s _ _ _ d⟩
theorem Cx.step (c:Cx n L t l)(A: ∀g,L g->bE n g){x:List Nat}(w:bX n L x):
  Cx n L (jJ t n x) (clF n t x l)/\Sub t (jJ t n x)/\ins (jJ t n x) n 0 x=none/\ ∃m,clF n t x l=l++m:=by
 obtain⟨a,d,K⟩:=c.tl.ins A w
 have p:=yE a.tab
 refine⟨?_,d,K,?_⟩
 ·cases h:ins t n 0 x with
  |none=>
   have e:jJ t n x=t:=by unfold jJ;rw[h]
   unfold clF;rw[e,if_neg (Nat.lt_irrefl _)];exact c
  |some q=>
   obtain⟨i,r⟩:=q;have e:jJ t n x=put t i (r.getD i 0) r:=by unfold jJ;rw[h]
   obtain⟨b1,B,W,O,Z,J,_⟩:=Bu c.tl.tab n 0 x i r oq (w.cU A) (λk hk=>oq) h;have N:r∈fR n (jJ t n x) 0:=fV.2 ⟨i,r.getD i 0,Nat.zero_le _,B,W.iN B,by rw[e];unfold put;rw[if_pos ⟨rfl,rfl⟩]⟩
   have v:r∉fR n t 0:=λh=>by
    obtain⟨j,q,_,_,_,f⟩:=fV.1 h;have u:=d _ _ _ f;have Y:=a.tab.gt u;have U:=a.tab.fix _ _ _ u;have P:=a.tab.maps _ _ _ u;have R:jJ t n x i (r.getD i 0)=some r:=by rw[e];unfold put;rw[if_pos ⟨rfl,rfl⟩]
    have g2:=a.tab.gt R
    have s:i=j:=by
     rcases Nat.lt_trichotomy i j with h|h|h
     ·have:=U i h;omega
     ·exact h
     ·have:=O j h;omega
    subst s;rw[←P] at f;rw[J] at f;cases f
   have o:(fR n t 0).length<(fR n (jJ t n x) 0).length:=by
    have:(r::fR n t 0).length<=(fR n (jJ t n x) 0).length:=List.Nodup.length_le_of_subset (List.nodup_cons.2 ⟨v,yE c.tl.tab⟩) (λy b=>by
     rcases List.mem_cons.1 b with rfl|b
     ·exact N
     ·exact Yv d y b)
    rw[List.length_cons] at this;omega
   unfold clF;rw[if_pos o];refine⟨a,List.nodup_append.2 ⟨c.nd,p.filter _,λy b z G Q=>?_⟩,λy=>?_⟩
   ·subst Q
    have:=(List.mem_filter.1 G).2;simp at this;exact this b
   ·rw[List.mem_append]
    unfold frF;rw[List.mem_filter];constructor
    ·rintro (h|h)
     ·exact Yv d y ((c.mem y).1 h)
     ·exact h.1
    ·intro h
     by_cases F:y∈l
     ·exact .inl F
     ·exact .inr ⟨h,by simpa using F⟩
 ·unfold clF
  split
  ·exact⟨_,rfl⟩
  ·exact⟨[],(List.append_nil _).symm⟩
theorem Cx.gen (c:Cx n L t l): ∀y∈l,bX n L y:=λy a=>c.tl.gen y ((c.mem y).1 a)
def Pr (n:Nat)(t:rL)(l:zI)(a b:Nat):Prop:=ins t n 0 (aX (l.getD a []) (l.getD b []))=none
theorem Pr.mono {c:rL}{m:zI}{a b:Nat}(h:Pr n t l a b)(s:Sub t c)(d:a<l.length)(i:b<l.length):Pr n c (l++m) a b:=by
 have e: ∀k,k<l.length->(l++m).getD k []=l.getD k []:=λk f=>by rw[List.getD,List.getD,List.getElem?_append_left f]
 unfold Pr;rw[e a d,e b i];exact Fg s _ _ _ h
theorem Cx.closed (c:Cx n L t l)(h: ∀a b,a<l.length->b<l.length->Pr n t l a b):Jh n t:=λa b k p=>by
 obtain⟨i,hi,f⟩:=List.mem_iff_getElem.1 ((c.mem a).2 k);obtain⟨j,d,m⟩:=List.mem_iff_getElem.1 ((c.mem b).2 p);have:=h i j hi d;unfold Pr at this;have o:l.getD i []=a:=by rw[List.getD,List.getElem?_eq_getElem hi,←f];rfl
 have q:l.getD j []=b:=by rw[List.getD,List.getElem?_eq_getElem d,←m];rfl
 rwa [o,q] at this
def BH (t:rL)(i k:Nat):List Nat:=(List.range k).filter λp=>p==i||(t i p).isSome
theorem BC (T:oK n t)(i:Nat):BH t i i= []:=by
 unfold BH;refine List.filter_eq_nil_iff.2 λp b=>?_
 have:=List.mem_range.1 b;simp only[Bool.or_eq_true,beq_iff_eq,not_or];refine⟨oq,λh=>?_⟩;obtain⟨y,a⟩:=Option.isSome_iff_exists.1 h;have:=T.gt a;omega
theorem JM (i k:Nat):BH t i (k+1)=BH t i k++if k=i∨(t i k).isSome then [k] else []:=by
 unfold BH;rw[List.range_succ,List.filter_append]
 by_cases h:k=i
 ·subst h;simp
 ·have e:(k==i)=false:=by simpa using h
  cases h2:t i k<;>simp [h,h2,List.filter,e]
theorem OM (i:Nat):BH t i n=(kX n t i).orb:=rfl
theorem QG (i k:Nat):(BH t i k).Pairwise (· < ·):=List.pairwise_lt_range.filter _
end
end Go.Pm
namespace Go.Proofs.YtcdbmkidaecdiaaGreat
open Go Go.Ay Go.Pm
set_option maxRecDepth 100000
theorem Us (h:H)(x:Int):lQ h 1 [aC 0] 1 [(0,1,aC x)]=some (.sl h.next 0 1 (.kn 1),h.new (.cells false (ints [x]))):=by
 have e:cX [aC 0] 1= [aC 0]:=rfl;simp [lQ,iS,e,putAt,V.cells,V.one,ints]
theorem TB {h:H}{v:V}{sz b:Nat}{ws:List V}(o:cY h v sz ws b): ∀id off len cap,v= .sl id off len cap->b<=id:=by
 rcases o with ⟨rfl,_⟩|⟨id,n,cap,a,rfl,_,_,c,_⟩
 ·intro _ _ _ _ e;cases e
 ·intro _ _ _ _ e;cases e;exact c
theorem We (l:List Nat)(x:Nat):zi (l++ [x])=zi l++ [(x:Int)]:=by simp [zi]
theorem Tg {l:List Nat}{i:Nat}(hi:i<l.length):l.take (i+1)=l.take i++ [l.getD i 0]:=by
 rw[List.take_add_one,dD hi,cJ hi];rfl
theorem Lj (u w:V)(a b:List Nat)(h:H)(hN:a.length<=1000)(N:SI h u (zi a))(hw:SI h w (zi b))(hr: ∀i,i<a.length->a.getD i 0<b.length):
  Ev T 40 [u,w] h (λv h'=>SI h' v (zi (aX a b))/\Fr h h'/\ ∀id off len cap,v= .sl id off len cap->h.next<=id):=by
 refine cV Qu rfl ?_
 have R:=N.lens
 rw[aQ] at R
 obtain⟨id,off,Y,y,U⟩:=N.open
 rw[aQ] at Y y U
 obtain⟨K,z,B,l,A⟩:=hw.open
 rw[aQ] at B l A
 simp(disch:=omega)only[go_sem,Qu,aD]
 refine aH (λP f Q=> ∃(i:Nat) (o:V),(∃j:Nat->V,f= [u,w,j 2,o,aC i,j 5])/\i<=a.length/\cY Q o 1 (ints (zi ((aX a b).take i))) h.next/\Fr h Q/\P=a.length-i) a.length
  ⟨0,.aE,aB rfl,iJ _,cY.aE _ _ _,Fr.refl h,rfl⟩ ?_
 rintro P f c ⟨i,o,⟨jk,rfl⟩,hi,G,F,rfl⟩
 simp(disch:=omega)only[go_sem,R]
 by_cases q:(i:Int)<(a.length:Int)
 ·rw[bP q]
  have d:i<a.length:=om
  have ci:c.cell id (off+i)=some (aC (a.getD i 0:Nat)):=by rw[F.cell (y om),U i d];congr 2;simp [zi,d]
  have r:=hr i d
  have O:=cM (b:=b) d
  generalize hk:a.getD i 0=k at ci r O
  have ck:c.cell K (z+k)=some (aC (b.getD k 0:Nat)):=by rw[F.cell (l om),A k r];congr 2;simp [zi,r]
  simp(disch:=omega)only[go_sem,Y.ixa,ci,B.ixa,ck,Us]
  have p:Fr c (c.new (.cells false (ints [((b.getD k 0:Nat):Int)]))):=(Fr.refl c).new _
  have s:(c.new (.cells false (ints [((b.getD k 0:Nat):Int)]))).get c.next=some (.cells false (ints [((b.getD k 0:Nat):Int)])):=H.aL ..
  have W:(c.new (.cells false (ints [((b.getD k 0:Nat):Int)]))).next=c.next+1:=H.aU ..
  generalize c.new (.cells false (ints [((b.getD k 0:Nat):Int)]))=J at*
  have Z:SV J (.sl c.next 0 1 (.kn 1)) 1 (ints [((b.getD k 0:Nat):Int)]):=SV.all rfl om s _
  have nF:=F.next
  have hl:(aX a b).length=a.length:=eY a b
  obtain⟨v2,a0,L,t⟩:=(G.fr p).app (bytes:=8) (n:=i) (m:=1) om Z (by rw[aP,aQ,Fj,uW];omega) rfl om om
  simp(disch:=omega)only[go_sem,L]
  have x:=t.own
  rw[←uT,←O,←We,←Tg om] at x
  rw[eJ i]
  exact⟨a.length-(i+1),om,i+1,v2,aB rfl,om,x,t.fr h (F.trans p) (fM _),rfl⟩
 rw[bH q]
 obtain rfl:i=a.length:=om
 simp(disch:=omega)only[go_sem]
 rw[Tn (by rw[eY];omega)] at G
 exact⟨G.sv,F,TB G⟩
theorem aaW (n:Nat)(h:H)(G:n<=1000):
  Ev T 91 [aC n] h (λv h'=>SI h' v (zi (bL n))/\Fr h h'/\ ∀id off len cap,v= .sl id off len cap->h.next<=id):=by
 refine cV Qz rfl ?_
 simp(disch:=omega)only[go_sem,Qz,aD]
 refine aH (λu b w=> ∃(i:Nat) (o:V),(∃j:Nat->V,b= [aC n,j 1,o,aC i,j 4])/\i<=n/\cY w o 1 (ints (zi ((bL n).take i))) h.next/\Fr h w/\u=n-i) n
  ⟨0,.aE,aB rfl,iJ _,cY.aE _ _ _,Fr.refl h,rfl⟩ ?_
 rintro u b a ⟨i,o,⟨L,rfl⟩,hi,p,F,rfl⟩
 simp(disch:=omega)only[go_sem]
 by_cases d:(i:Int)<(n:Int)
 ·rw[bP d]
  have r:i<n:=om
  simp(disch:=omega)only[go_sem,Us]
  have c:Fr a (a.new (.cells false (ints [(i:Int)]))):=(Fr.refl a).new _
  have f:(a.new (.cells false (ints [(i:Int)]))).get a.next=some (.cells false (ints [(i:Int)])):=H.aL ..
  have t:(a.new (.cells false (ints [(i:Int)]))).next=a.next+1:=H.aU ..
  generalize a.new (.cells false (ints [(i:Int)]))=s at*
  have x:SV s (.sl a.next 0 1 (.kn 1)) 1 (ints [(i:Int)]):=SV.all rfl om f _
  have J:=F.next
  have K:=jG n
  obtain⟨z,B,q,k⟩:=(p.fr c).app (bytes:=8) (n:=i) (m:=1) om x (by rw[aP,aQ,Fj,uW];omega) rfl om om
  simp(disch:=omega)only[go_sem,q]
  have l:=k.own
  have y:=fQ r
  have A:zi ((bL n).take i)++ [(i:Int)]=zi ((bL n).take (i+1)):=by rw[Tg om,We,y]
  rw[←uT,A] at l
  rw[eJ i]
  exact⟨n-(i+1),om,i+1,z,aB rfl,om,l,k.fr h (F.trans c) (fM _),rfl⟩
 rw[bH d]
 obtain rfl:i=n:=om
 simp(disch:=omega)only[go_sem]
 rw[Tn (by rw[jG];omega)] at p
 exact⟨p.sv,F,TB p⟩
theorem YV (u:V)(n:Nat)(a:List Nat)(h:H)(Y:n<=1000)(A:bE n a)(y:SI h u (zi a)):
  Ev T 39 [u] h (λv h'=>AM h h' v (dA a)):=by
 refine cV Sc rfl ?_
 have l:=A.len
 have x:=y.lens
 rw[aQ,l] at x
 obtain⟨id,off,N,p,K⟩:=y.open
 rw[aQ,l] at N p K
 simp(disch:=omega)only[go_sem,Sc,aD,x,sT h n om]
 have o:Fr h (h.new (.cells false (rc n λ_=> aC 0))):=(Fr.refl h).new _
 have d:(h.new (.cells false (rc n λ_=> aC 0))).get h.next=some (.cells false (rc n λ_=> aC 0)):=H.aL ..
 have f:(h.new (.cells false (rc n λ_=> aC 0))).next=h.next+1:=H.aU ..
 generalize h.new (.cells false (rc n λ_=> aC 0))=W at*
 obtain⟨S,q⟩:=exI h.next
 rw[q] at d f
 rw[q]
 refine aH (λB c w=> ∃(i:Nat),(∃j:Nat->V,c= [u,.aE,.sl S 0 n (.kn n),aC i,j 4])/\i<=n/\
   w.get S=some (.cells false (rc n λj=>if a.idxOf j<i then aC (a.idxOf j:Nat) else aC 0))/\w.next=S+1/\Fr h w/\B=n-i) n
  ⟨0,aB rfl,iJ _,by rw[d];rfl,f,o,rfl⟩ ?_
 clear d o f
 rintro B c L ⟨i,⟨Z,rfl⟩,hi,J,O,F,rfl⟩
 simp(disch:=omega)only[go_sem,x]
 by_cases m:(i:Int)<(n:Int)
 ·rw[bP m]
  have b:i<n:=om
  have ci:L.cell id (off+i)=some (aC (a.getD i 0:Nat)):=by rw[F.cell (p om),K i b];congr 2;simp [zi,l,b]
  have r:=A.iN b
  have z:a.idxOf (a.getD i 0)=i:=A.inj (A.idx r).1 b (A.idx r).2
  generalize R:a.getD i 0=k at ci r z
  have P:decide ((k:Int)<0)=false:=bH om
  have t:decide ((n:Int)<=(k:Int))=false:=bH om
  have G:=bN (vs:=rc n λj=>if a.idxOf j<i then aC (a.idxOf j:Nat) else aC 0) (off:=k) (by rw[kH];exact r) L S (aC i)
  rw[mS] at G
  simp(disch:=omega)only[go_sem,N.ixa,ci,P,t,J,G]
  rw[eJ i]
  refine⟨n-(i+1),om,i+1,aB rfl,om,?_,O,F.set om _,rfl⟩
  congr 2
  refine dB λj s=>?_
  by_cases e:j=k
  ·rw[bF e,e,z,bF om]
  ·rw[bI e]
   have U:a.idxOf j≠i:=λQ=>e (by rw[←(A.idx s).2,Q,R])
   by_cases t:a.idxOf j<i
   ·rw[bF t,bF om]
   ·rw[bI t,bI om]
 rw[bH m]
 obtain rfl:i=n:=om
 simp(disch:=omega)only[go_sem]
 refine⟨by rw[jQ,l,q],?_,by rw[q];exact O,F⟩
 rw[q,J]
 congr 2
 rw[←Zu,jQ,l]
 exact dB λj s=>by rw[bF (A.idx s).1,xI (by rw[l];exact s)]
structure Ia (b:Nat)(W:Nat->Prop)(h:H)(n:Nat)(tv:V)(ρ:Nat->Nat)(F:Nat->Nat->V)(t:rL):Prop where
 sv:SV h tv 1 (rc n λi=> .sl (ρ i) 0 n (.kn n))
 off:Mq W tv
 row: ∀i,i<n->h.get (ρ i)=some (.cells false (rc n (F i)))
 wb: ∀i,i<n->W (ρ i)
 Nw: ∀id,W id->id<h.next
 low: ∀id,W id->b<=id
 inj: ∀i j,i<n->j<n->ρ i=ρ j->i=j
 ent: ∀i p,i<n->p<n->Slot W h (F i p) (t i p)
section
variable {b:Nat} {W:Nat->Prop} {h h':H} {n:Nat} {tv:V} {ρ:Nat->Nat} {F:Nat->Nat->V} {t:rL}
theorem Ia.open (R:Ia b W h n tv ρ F t):bT tv=some (aC n)/\ ∃id off,Sl tv 1 n id off/\ ∀i,i<n->h.cell id (off+i)=some (.sl (ρ i) 0 n (.kn n)):=by
 have s:=R.sv;have f:(rc n λi=>V.sl (ρ i) 0 n (.kn n)).length=n:=kH n _;refine⟨by unfold bT;rw[SV.len s (n:=n) om om];rfl,?_⟩;obtain⟨id,off,a,d,c⟩:=SV.shape s n om om;refine⟨id,off,a,λi hi=>?_⟩;rw[c i om,Mi hi]
theorem Ia.cell (R:Ia b W h n tv ρ F t){i p:Nat}(hi:i<n)(a:p<n):h.cell (ρ i) p=some (F i p):=Bw (R.row i hi) a
theorem Ia.mono (R:Ia b W h n tv ρ F t)(f:Fr h h'):Ia b W h' n tv ρ F t:=
 ⟨R.sv.mono f,R.off,λi hi=>by rw[f.get _ (R.Nw _ (R.wb i hi))];exact R.row i hi,R.wb,λid a=>iW (R.Nw id a) f.next,R.low,R.inj,λi p hi c=>(R.ent i p hi c).fx (Fx.of f)⟩
theorem Ia.go (R:Ia b W h n tv ρ F t){W':Nat->Prop}(f:Fx W h h')(j: ∀i,i<n->h'.get (ρ i)=h.get (ρ i))(c: ∀id,id<h.next->W' id->W id)(a: ∀id,W id->W' id)(Nw: ∀id,W' id->id<h'.next)(low: ∀id,W' id->b<=id):Ia b W' h' n tv ρ F t:=
 ⟨R.sv.fx R.off f,R.off.lH R.sv c,λi hi=>by rw[j i hi];exact R.row i hi,λi hi=>a _ (R.wb i hi),Nw,low,R.inj,λi p hi d=>(R.ent i p hi d).go f c⟩
def WB (n:Nat)(ρ:Nat->Nat)(id:Nat):Prop:= ∃i,i<n/\ρ i=id
theorem Ia.wbx (R:Ia b W h n tv ρ F t){a c:H}(f:Fx (WB n ρ) a c):Fx W a c:=f.lH λid _ d=>by
 obtain⟨i,hi,rfl⟩:=d;exact R.wb i hi
def F2 (F:Nat->Nat->V)(i p:Nat)(v:V):Nat->Nat->V:=λj q=>if j=i/\q=p then v else F j q
theorem Ia.put (R:Ia b W h n tv ρ F t){i p:Nat}(hi:i<n)(m:p<n){c:V}{x:List Nat}(o:PV W h c x):
  ∃h',dX (h.get (ρ i)) h (ρ i) p [c]=some h'/\Ia b W h' n tv ρ (F2 F i p c) (Pm.put t i p x)/\Fx (WB n ρ) h h'/\h'.next=h.next:=by
 have k:=bN (vs:=rc n (F i)) (off:=p) (by rw[kH];exact m) h (ρ i) c
 rw[R.row i hi,k,mS]
 refine⟨_,rfl,?_,Fx.set h (W:=WB n ρ) ⟨i,hi,rfl⟩ _,rfl⟩
 have f:Fx W h (h.set (ρ i) (some (.cells false (rc n λj=>if j=p then c else F i j)))):=Fx.set h (R.wb i hi) _
 refine⟨R.sv.fx R.off f,R.off,λj d=>?_,R.wb,R.Nw,R.low,R.inj,λj q d l=>?_⟩
 ·by_cases e:j=i
  ·subst e
   rw[H.aS]
   congr 2
   refine dB λq _=>?_
   unfold F2
   by_cases a:q=p
   ·rw[bF a,bF ⟨rfl,a⟩]
   ·rw[bI a,bI (λh=>a h.2)]
  ·rw[H.aG h (λa=>e (R.inj _ _ d hi a)),R.row j d]
   congr 2
   refine dB λq _=>?_
   unfold F2
   rw[bI (λh=>e h.1)]
 ·unfold F2 Pm.put
  by_cases e:j=i/\q=p
  ·rw[bF e,bF e]
   exact PV.fx o f
  ·rw[bI e,bI e]
   exact (R.ent j q d l).fx f
theorem PV.fresh {v:V}{l:List Nat}(s:SI h' v (zi l))(d: ∀id off len cap,v= .sl id off len cap->h.next<=id)(c: ∀id,W id->id<h.next):PV W h' v l:=by
 refine⟨s,?_⟩
 cases v with
 |sl id off len cap=>exact λa=>by have:=d _ _ _ _ rfl;have:=c id a;omega
 |_=>trivial
theorem Slot.nil {v:V}(s:Slot W h v none):v= .aE:=s
end
theorem Rw (b:Nat)(W:Nat->Prop)(h:H)(n:Nat)(tv:V)(ρ:Nat->Nat)(F:Nat->Nat->V)(t:rL)(vx:V)(x:List Nat)(hn:n<=64)(h0:0<n)(R:Ia b W h n tv ρ F t)(hx:PV W h vx x)(X:bE n x)(TI:oK n t):
  Ev T 87 [tv,vx] h (λv h'=> ∃F',v= .bool (ins t n 0 x).isSome/\Ia b W h' n tv ρ F' (jJ t n x)/\Fx (WB n ρ) h h'):=by
 refine cV rG rfl ?_
 obtain⟨Q,id,a5,sh,_⟩:=R.open
 simp(disch:=omega)only[go_sem,rG,aD]
 refine aH (λk' k hh=> ∃(i:Nat) (y:List Nat) (s:V),(∃g:Nat->V,k= [tv,s,g 2,aC i,g 4,g 5,g 6,g 7])/\i<=n/\ins t (n-i) i y=ins t n 0 x/\PV W hh s y/\bE n y/\Fr h hh/\k'=n-i) n
  ⟨0,x,vx,aB rfl,iJ _,rfl,hx,X,Fr.refl h,rfl⟩ ?_
 rintro k' k h2 ⟨i,y,s,⟨g,rfl⟩,hi,u,r,Y,f,rfl⟩
 have l:=R.mono f
 by_cases K:(i:Int)<(n:Int)
 case neg=>
  have G:=bH K;obtain rfl:i=n:=om
  simp(disch:=omega)only[go_sem,Q,G];rw[Nat.sub_self] at u;have a:ins t i 0 x=none:=u.symm;refine⟨F,by rw[a];rfl,?_,Fx.of f⟩;unfold jJ;rw[a];exact l
 have G:=bP K
 have c:i<n:=om
 obtain⟨a3,B,d,N,A⟩:=r.si.open
 rw[aQ,Y.len] at d N A
 have ci:h2.cell a3 (B+i)=some (aC (y.getD i 0:Nat)):=by rw[A i c];congr 2;simp [zi,Y.len,c]
 have U:=Y.iN c
 obtain⟨p,q⟩:=exI (y.getD i 0)
 rw[q] at ci U
 have o:n-i=(n-(i+1))+1:=om
 rw[o] at u
 obtain⟨_,a6,a4,J,a2⟩:=l.open
 have cr:=a2 i c
 have ce:=l.cell c U
 have O:=l.ent i p c U
 by_cases m:p=i
 ·have a:ins t (n-(i+1)) (i+1) y=ins t n 0 x:=by
   rw[←u]
   conv=>rhs;unfold ins
   rw[bF (q.trans m)]
  have P:decide ((p:Int)=(i:Int))=true:=bP om;simp(disch:=omega)only[go_sem,Q,G,d.ixa,ci,P];rw[eJ i];exact⟨n-(i+1),om,i+1,y,s,aB rfl,om,a,r,Y,f,rfl⟩
 have P:decide ((p:Int)=(i:Int))=false:=bH om
 have e3:decide ((p:Int)<0)=false:=bH om
 have e4:decide ((n:Int)<=(p:Int))=false:=bH om
 cases hto:t i p with
 |none=>
  rw[hto] at O;have a0:=O.nil;rw[a0] at ce
  have a:ins t n 0 x=some (i,y):=by
   rw[←u];unfold ins;rw[bI (by rw[q];exact m),q,hto]
  obtain⟨h3,pt,R3,L,n3⟩:=l.put c U r;simp(disch:=omega)only[go_sem,Q,G,d.ixa,ci,P,e3,e4,J.ixa,cr,ce,lG r.fG.1 r.fG.2,pt];have e5:jJ t n x=Pm.put t i p y:=by unfold jJ;rw[a];simp only;rw[q]
  refine⟨F2 F i p s,by rw[a];rfl,by rw[e5];exact R3,(Fx.of f).trans L (λ_ _ h=>h)⟩
 |some z=>
  rw[hto] at O;have Z:=TI.cU _ _ _ hto;have hz:PV W h2 (F i p) z:=O;have sn:=Hv hz (bE.ne h0 Z) false
  have a:ins t (n-(i+1)) (i+1) (aX y (dA z))=ins t n 0 x:=by
   rw[←u]
   conv=>rhs;unfold ins
   rw[bI (by rw[q];exact m),q,hto]
  generalize F i p=vz at ce hz sn;simp(disch:=omega)only[go_sem,Q,G,d.ixa,ci,P,e3,e4,J.ixa,cr,ce,sn];refine (YV vz n z h2 om Z hz.si).mono ?_;rintro w h3 nw;have L:=nw.fr;have pw:=nw.pv (W:=W) (λhw=>by have:=l.Nw _ hw;omega);simp(disch:=omega)only[go_sem];refine (Lj s w y (dA z) h3 (by rw[Y.len];omega) (r.si.mono L) pw.si (λj hj=>by rw[jQ,Z.len];exact Y.iN (by rw[←Y.len];exact hj))).mono ?_;rintro v h4 ⟨s4,f4,l4⟩;simp(disch:=omega)only[go_sem];rw[eJ i];exact⟨n-(i+1),om,i+1,_,v,aB rfl,om,a,PV.fresh s4 l4 (λid a1=>iW (l.Nw id a1) L.next),Y.mul Z.inv,(f.trans L).trans f4,rfl⟩
section
variable {h:H} {ws:List V} {l:LN} {k:Nat}
theorem uL.frb {a h':H}{x:V}{n m sz:Nat}{us:List V}(p:uL h x n m sz ws us h')(f:Fr a h){i:Nat}{b:List V}(o:cY h x i b a.next):Fr a h':=by
 have r:=f.next;refine⟨by rw[p.next];omega,λid d=>?_⟩;rw[p.old id om (λj q n c e s=>by have:=(o.in _ _ _ _ e).2.1;omega)];exact f.get id d
theorem Hi {a:H}{d v:V}(o:cY h d 1 ws a.next)(f:Fr a h)(y:ws.length<1000000){bytes:Nat}(x:bytes<=24):
  ∃h2,xQ (h.new (.cells false [v])) 1 bytes d (.sl h.next 0 1 (.kn 1))=some (.sl (h.next+1) 0 (ws.length+1) (.un 1),h2)/\cY h2 (.sl (h.next+1) 0 (ws.length+1) (.un 1)) 1 (ws++ [v]) a.next/\Fr a h2/\h2.next=h.next+2/\ ∀id,id<h.next->dL d id->h2.get id=h.get id:=by
 obtain⟨s,u,p,t,w,r⟩:=dF (h:=h) rfl [v]
 rw[u]
 have i:=o.fr r
 obtain⟨h2,j,c⟩:=i.push (bytes:=bytes) (SV.one om t (.kn 1)) (n:=ws.length) (m:=1) om rfl om om ⟨by
  have:(2*(ws.length+1)+1000)*bytes<=(2*(ws.length+1)+1000)*24:=Nat.mul_le_mul_left _ x
  omega,om⟩
 rw[p] at j
 have z:=f.next
 have q:=c.own om rfl (b:=a.next) om
 rw[p] at q
 have nx:=c.next
 exact⟨h2,j,q,uL.frb c (f.trans r) i,om,λid s h2=>by rw[c.old id om h2,w id om]⟩
theorem UO (t:rL)(i p:Nat):(eR t i p).length<=p:=by
 unfold eR;have:=List.length_filterMap_le (t i) (List.range p);rwa [NM] at this
theorem Uj (n:Nat)(t:rL): ∀i,(eB n t i).length<=i*n
 |0=>by simp [eB]
 |i+1=>by
  rw[FL,jZ,Nat.succ_mul];have:=Uj n t i;have:=UO t i n;omega
theorem yF (b:Nat)(W:Nat->Prop)(h:H)(n:Nat)(x:V)(ρ:Nat->Nat)(F:Nat->Nat->V)(t:rL)(hn:n<=64)(h0:0<n)(R:Ia b W h n x ρ F t)(TI:oK n t):
  Ev T 130 [x] h (λv h'=> ∃ws,cY h' v 1 ws h.next/\fW W h ws (fR n t 0)/\Fr h h'):=by
 refine cV pU rfl ?_
 have w:=R.open.1
 simp(disch:=omega)only[go_sem,pU,aD]
 refine aH (λs c p=> ∃(i:Nat) (d:V) (ws:List V),(∃g:Nat->V,c= [x,g 1,d,aC i,g 4,g 5,g 6,g 7])/\i<=n/\cY p d 1 ws h.next/\fW W h ws (eB n t i)/\Fr h p/\s=n-i) n
  ⟨0,.aE, [],aB rfl,iJ _,cY.aE _ _ _,trivial,Fr.refl h,rfl⟩ ?_
 rintro s c h2 ⟨i,d,ws,⟨g,rfl⟩,hi,m,a,f,rfl⟩
 by_cases r:(i:Int)<(n:Int)
 case neg=>
  have O:=bH r;obtain rfl:i=n:=om
  simp(disch:=omega)only[go_sem,w,O];rw[Vw] at a;exact⟨ws,m,a,f⟩
 have O:=bP r
 have q:i<n:=om
 simp(disch:=omega)only[go_sem,w,O]
 refine xE (λvs p=> ∃(d:V) (ws:List V),(∃g:Nat->V,vs= [x,g 1,d,aC i,g 4,g 5,g 6,g 7])/\cY p d 1 ws h.next/\fW W h ws (eB n t (i+1))/\Fr h p) ?_ ?_
 ·refine aH (λs c p=> ∃(j:Nat) (d:V) (ws:List V),(∃g:Nat->V,c= [x,g 1,d,aC i,aC j,g 5,g 6,g 7])/\j<=n/\cY p d 1 ws h.next/\fW W h ws (eB n t i++eR t i j)/\Fr h p/\s=n-j) n
   ⟨0,d,ws,aB rfl,iJ _,m,by unfold eR;rw[List.range_zero,List.filterMap_nil,vF];exact a,f,rfl⟩ ?_
  clear m a f hi g
  rintro s c L ⟨j,d,ws,⟨g,rfl⟩,hj,m,a,f,rfl⟩
  by_cases o:(j:Int)<(n:Int)
  case neg=>
   have K:=bH o;obtain rfl:j=n:=om
   simp(disch:=omega)only[go_sem,w,K];exact⟨d,ws,aB rfl,m,by rw[FL];exact a,f⟩
  have K:=bP o
  have A:j<n:=om
  have U:=R.mono f
  obtain⟨_,a0,Y,B,P⟩:=U.open
  have Z:=P i q
  have G:=U.cell q A
  have J:=R.ent i j q A
  have lw:=aM.length a
  have l1:=Uj n t i
  have l2:=UO t i j
  have l3:i*n<=64*64:=Nat.mul_le_mul om hn
  rw[jZ] at lw
  cases hto:t i j with
  |none=>
   rw[hto] at J;rw[J.nil] at G;simp(disch:=omega)only[go_sem,w,K,B.ixa,Z,G];rw[eJ j];refine⟨n-(j+1),om,j+1,d,ws,aB rfl,om,m.fr ((Fr.refl L).bA om),?_,f.bA om,rfl⟩;rw[HB,hto];simpa using a
  |some y=>
   rw[hto] at J;have u:PV W h (F i j) y:=J;have Q:=Hv u (bE.ne h0 (TI.cU _ _ _ hto)) true;generalize F i j=vz at G u Q;obtain⟨S,a1⟩:=exI L.next;simp(disch:=omega)only[go_sem,w,K,B.ixa,Z,G,Q,cT _ (z:= .aE) u.fG.1 u.fG.2];obtain⟨h4,a4,N,f4,n4,_⟩:=Hi (v:=vz) m f om (bytes:=24) om;simp(disch:=omega)only[go_sem,a4];rw[eJ j];refine⟨n-(j+1),om,j+1,_,_,aB rfl,om,N,?_,f4,rfl⟩;rw[HB,hto,←Ll];exact a.append (fW.one u)
 rintro c L ⟨d,ws,⟨g,rfl⟩,m,a,f⟩
 simp(disch:=omega)only[go_sem]
 rw[eJ i]
 exact⟨n-(i+1),om,i+1,d,ws,aB rfl,om,m,a,f,rfl⟩
theorem fW.open {W:Nat->Prop}{v:V}(sv:SV h v 1 ws)(p:fW W h ws l):bT v=some (aC (l.length:Int))/\ ∃id off,Sl v 1 l.length id off/\ ∀i,i<l.length->id<h.next/\h.cell id (off+i)=some (ws.getD i .undef)/\PV W h (ws.getD i .undef) (l.getD i []):=by
 have j:=aM.length p;refine⟨by unfold bT;rw[SV.len sv (n:=l.length) om om];rfl,?_⟩;obtain⟨id,off,c,a,d⟩:=SV.shape sv l.length om om;refine⟨id,off,c,λi hi=>⟨a om,?_,?_⟩⟩
 ·rw[d i om];simp [List.getD,show i<ws.length by omega]
 ·obtain⟨w,b,f⟩:=fW.at p hi
  rw[List.getD,b];exact f
theorem Ox {α:Type}{l:List α}{x d:α}:x∈l.take k↔ ∃q,q<k/\q<l.length/\l.getD q d=x:=by
 constructor
 ·intro h
  obtain⟨q,a,e⟩:=zF.1 h;rw[Fj] at a;refine⟨q,om,om,?_⟩;rw[List.getElem_take] at e;rw[List.getD,dD om,←e];rfl
 ·rintro⟨q,h1,h2,e⟩
  rw[List.getD,dD h2] at e;refine zF.2 ⟨q,by rw[Fj];omega,?_⟩;rw[List.getElem_take];exact e
theorem Ds {x:List Nat}(c:k<l.length):x∈l.take (k+1)↔x∈l.take k∨l.getD k []=x:=by
 rw[Ox (d:= []),Ox (d:= [])];constructor
 ·rintro⟨q,b,a,e⟩
  by_cases h:q=k
  ·subst h;exact .inr e
  ·exact .inl ⟨q,om,a,e⟩
 ·rintro (⟨q,b,a,e⟩|e)
  ·exact⟨q,om,a,e⟩
  ·exact⟨k,om,c,e⟩
theorem NR {L:LN}(a:k<L.length):(L.take (k+1)).filter (λy=>decide (y∉l))=(L.take k).filter (λy=>decide (y∉l))++if L.getD k []∈l then [] else [L.getD k []]:=by
 rw[cE [] a,List.filter_append];generalize L.getD k []=z
 by_cases e:z∈l<;>simp [e,List.filter]
theorem UP (b:Nat)(W:Nat->Prop)(h:H)(n:Nat)(tv vl:V)(wl:List V)(l:LN)(ρ:Nat->Nat)(F:Nat->Nat->V)(t:rL)(hn:n<=64)(h0:0<n)(R:Ia b W h n tv ρ F t)(TI:oK n t)(sl:SV h vl 1 wl)(pl:fW W h wl l)(hl: ∀x∈l,bE n x)(ll:l.length<1000000):
  Ev T 131 [tv,vl] h (λv h'=> ∃ws,cY h' v 1 ws h.next/\fW W h ws (frF n t l)/\Fr h h'):=by
 refine cV sC rfl ?_
 simp(disch:=omega)only[go_sem,sC,aD]
 refine (yF b W h n tv ρ F t hn h0 R TI).mono ?_
 rintro ve h1 ⟨we,oe,pe,f1⟩
 obtain⟨L,hL⟩:=exI (fR n t 0)
 have EP: ∀y∈L,bE n y:=λy hy=>TI.MK y (by rw[hL];exact hy)
 have lL:L.length<=4096:=by
  rw[←hL,←Vw];have:=Uj n t n;have:=Nat.mul_le_mul hn hn;omega
 unfold frF
 rw[hL] at pe ⊢
 have b4:fW W h1 we L:=fW.fx pe (Fx.of f1)
 have b5:=aM.length pe
 obtain⟨a1,J,m,a0,a9⟩:=fW.open oe.sv b4
 obtain⟨a2,a6,u,a8,b3⟩:=fW.open sl pl
 simp(disch:=omega)only[go_sem]
 refine aH (λk' a U=> ∃(i:Nat) (vo:V) (ws:List V),(∃g:Nat->V,a= [tv,vl,g 2,vo,ve,aC i,g 6,g 7,g 8,g 9,g 10])/\i<=L.length/\cY U vo 1 ws h1.next/\fW W h ws ((L.take i).filter λy=>decide (y∉l))/\Fr h1 U/\k'=L.length-i) L.length
  ⟨0,.aE, [],aB rfl,iJ _,cY.aE _ _ _,trivial,Fr.refl h1,rfl⟩ ?_
 rintro k' a h2 ⟨i,vo,ws,⟨g,rfl⟩,hi,ow,j,f,rfl⟩
 by_cases a3:(i:Int)<(L.length:Int)
 case neg=>
  have e1:=bH a3;obtain rfl:i=L.length:=om
  simp(disch:=omega)only[go_sem,a1,e1];rw[List.take_length] at j;exact⟨ws,ow.le f1.next,j,f1.trans f⟩
 have e1:=bP a3
 have p:i<L.length:=om
 obtain⟨i1,c1,Q⟩:=a9 i p
 have Y:=EP _ (bD (d:= []) p)
 obtain⟨y,hy⟩:=exI (L.getD i [])
 have O:PV W h (we.getD i .undef) (L.getD i []):=by
  obtain⟨w,o,h4⟩:=fW.at pe p;rw[List.getD,o];exact h4
 rw[hy] at Q Y O
 generalize we.getD i .undef=vy at c1 Q O
 simp(disch:=omega)only[go_sem,a1,e1]
 refine bJ (λvs U=>(∃g:Nat->V,vs= [tv,vl,g 2,vo,ve,aC i,.bool (decide (y∈l)),g 7,g 8,g 9,g 10])/\Fr h2 U) ?_ ?_
 ·refine aH (λk' a U=> ∃(k:Nat) (s:Bool),(∃g:Nat->V,a= [tv,vl,g 2,vo,ve,aC i,.bool s,aC k,g 8,g 9,g 10])/\k<=l.length/\(s=true↔y∈l.take k)/\Fr h2 U/\k'=l.length-k) l.length
   ⟨0,false,aB rfl,iJ _,by simp,Fr.refl h2,rfl⟩ ?_
  clear g
  rintro k' a o ⟨k,s,⟨g,rfl⟩,hk,hs,K,rfl⟩
  cases s with
  |true=>
   have q:decide (y∈l)=true:=bP (List.mem_of_mem_take (hs.1 rfl));simp(disch:=omega)only[go_sem];exact⟨by rw[q];exact aB rfl,K⟩
  |false=>
  have P:y∉l.take k:=λh=>by have:=hs.2 h;cases this
  by_cases r:(k:Int)<(l.length:Int)
  case neg=>
   have q:=bH r;obtain rfl:k=l.length:=om
   rw[List.take_length] at P;have e4:decide (y∈l)=false:=bH P;simp(disch:=omega)only[go_sem,a2,q];exact⟨by rw[e4];exact aB rfl,K⟩
  have q:=bP r
  have B:k<l.length:=om
  obtain⟨i2,c2,p2⟩:=b3 k B
  have Z:=hl _ (bD (d:= []) B)
  obtain⟨z,hz⟩:=exI (l.getD k [])
  rw[hz] at p2 Z
  generalize wl.getD k .undef=vz at c2 p2
  have c:=f.trans K
  have G:=f1.trans c
  have N:o.cell J (m+i)=some vy:=by rw[c.cell i1];exact c1
  have a7:o.cell a6 (u+k)=some vz:=by rw[G.cell i2];exact c2
  have v1:=SV.dE Q.si
  have v2:=SV.dE p2.si
  simp(disch:=omega)only[go_sem,a2,q,a0.ixa,N,a8.ixa,a7]
  have fb:Fr o (H.mk o.tr (o.next+10)):=(Fr.refl o).bA om
  refine (GV vy vz _ _ _ (Q.si.mono (c.trans fb)) (p2.si.mono (G.trans fb)) (by rw[aQ,Y.len];omega) (by rw[aQ,Z.len];omega)).mono ?_
  rintro _ h4 ⟨rfl,f4⟩
  have A:=fb.trans f4
  have b2:h4.cell J (m+i)=some vy:=by rw[(c.trans A).cell i1];exact c1
  have b1:h4.cell a6 (u+k)=some vz:=by rw[(G.trans A).cell i2];exact c2
  simp(disch:=omega)only[go_sem,b2,b1,v1,v2]
  rw[eJ k]
  refine⟨l.length-(k+1),om,k+1,_,aB rfl,om,?_,K.trans A,rfl⟩
  rw[Qf,Ds B,hz]
  exact⟨λe=> .inr (Vl e).symm,λh=>h.elim (λh=>(P h).elim) λe=>by rw[e]⟩
 rintro a o ⟨⟨g,rfl⟩,K⟩
 have c:=f.trans K
 have N:o.cell J (m+i)=some vy:=by rw[c.cell i1];exact c1
 have a5:=ow.fr K
 have b6:=aM.length j
 have b7:((L.take i).filter λy=>decide (y∉l)).length<=i:=mT (List.length_filter_le _ _) (by rw[Fj];omega)
 have ft:=NR (L:=L) (l:=l) p
 rw[hy] at ft
 by_cases hm:y∈l
 ·have q:=bP hm
  simp(disch:=omega)only[go_sem,q]
  rw[eJ i]
  rw[bF hm,vF] at ft
  exact⟨L.length-(i+1),om,i+1,vo,ws,aB rfl,om,a5,by rw[ft];exact j,c,rfl⟩
 ·have q:=bH hm
  obtain⟨h4,a4,b0,f4,n4,_⟩:=Hi (v:=vy) a5 c om (bytes:=24) om
  simp(disch:=omega)only[go_sem,q,a0.ixa,N,cT _ (z:= .aE) Q.fG.1 Q.fG.2,a4]
  rw[eJ i]
  rw[bI hm] at ft
  exact⟨L.length-(i+1),om,i+1,_,_,aB rfl,om,b0,by rw[ft];exact j.append (fW.one O),f4,rfl⟩
end
structure CJ (b:Nat)(W:Nat->Prop)(h hh:H)(n:Nat)(tv:V)(ρ:Nat->Nat)(L:List Nat->Prop)(t0:rL)(vl:V)(l:LN)(t:rL):Prop where
 ex: ∃W' F wl,Ia b W' hh n tv ρ F t/\cY hh vl 1 wl h.next/\fW W' hh wl l/\Hq W' vl/\ ∀id,id<h.next->W' id->W id
 fx:Fx W h hh
 cls:Cx n L t l
 sub:Sub t0 t
theorem abJ {n:Nat}{t:rL}{x:List Nat}{L:List Nat->Prop}{l:LN}(c:Cx n L t l)(b:oK n (jJ t n x))(h:(fR n t 0).length<(fR n (jJ t n x) 0).length):0<(frF n (jJ t n x) l).length:=by
 refine List.length_pos_iff.2 λe=>?_
 unfold frF at e;rw[List.filter_eq_nil_iff] at e
 have:(fR n (jJ t n x) 0).length<=(fR n t 0).length:=List.Nodup.length_le_of_subset (yE b) λy a=>by
  have:=e y a;simp at this;exact (c.mem y).1 this
 omega
theorem HA (n:Nat)(t:rL)(a:n<=64):(fR n t 0).length<=4096:=by
 rw[←Vw];have:=Uj n t n;have:=Nat.mul_le_mul a a;omega
theorem OX {n:Nat}{t:rL}{l m:LN}{a c:Nat}(b:a<l.length)(f:c<l.length):Pr n t (l++m) a c↔Pr n t l a c:=by
 have e: ∀k,k<l.length->(l++m).getD k []=l.getD k []:=λk d=>by rw[List.getD,List.getD,Dv d]
 unfold Pr;rw[e a b,e c f]
theorem RJ (b:Nat)(W:Nat->Prop)(h:H)(n:Nat)(y:V)(ρ:Nat->Nat)(F:Nat->Nat->V)(t:rL)(L:List Nat->Prop)(hn:n<=7)(h0:0<n)(hb:b<=h.next)(R:Ia b W h n y ρ F t)(hL: ∀g,L g->bE n g)(tl:Oo n L t):
  Ev T 88 [y] h (λ_ h'=> ∃W' F' t',Ia b W' h' n y ρ F' t'/\Oo n L t'/\Sub t t'/\Jh n t'/\Fx W h h'/\ ∀id,id<h.next->W' id->W id):=by
 have d1:n^n<=823543:=by
  have: ∀n,n<=7->n^n<=823543:=by decide
  exact this n hn
 refine cV rS rfl ?_
 simp(disch:=omega)only[go_sem,rS,aD]
 refine (yF b W h n y ρ F t om h0 R tl.tab).mono ?_
 rintro p h1 ⟨wl,U,O,f1⟩
 simp(disch:=omega)only[go_sem]
 refine aH (λk' r Z=> ∃(i:Nat) (p:V) (l:LN) (t':rL),(∃g:Nat->V,r= [y,p,aC i,g 3,g 4,g 5,g 6,g 7,g 8,g 9,g 10,g 11])/\CJ b W h Z n y ρ L t p l t'/\i<=l.length/\(∀a c,a<i->c<i->Pr n t' l a c)/\k'=1000000-i) 1000000
  ⟨0,p,fR n t 0,t,aB rfl,⟨⟨λid=>W id∨ ∃B m c,p= .sl id B m c,F,wl,?_,U,?_,λid B m c e=> .inr ⟨_,_,_,e⟩,λid G f=>?_⟩,Fx.of f1,Cx.start tl,Sub.refl t⟩,iJ _,λa c ha=>om,rfl⟩ ?_
 ·refine R.go (Fx.of f1) (λi hi=>f1.get _ (R.Nw _ (R.wb i hi))) (λid G f=>?_) (λid f=> .inl f) (λid f=>?_) (λid f=>?_)
  ·rcases f with f|⟨B,m,c,e⟩
   ·exact f
   ·have:=(U.in _ _ _ _ e).2.1;omega
  ·rcases f with f|⟨B,m,c,e⟩
   ·exact iW (R.Nw id f) f1.next
   ·exact (U.in _ _ _ _ e).1
  ·rcases f with f|⟨B,m,c,e⟩
   ·exact R.low id f
   ·have:=(U.in _ _ _ _ e).2.1;omega
 ·refine fW.go O (Fx.of f1) λid G f=>?_
  rcases f with f|⟨B,m,c,e⟩
  ·exact f
  ·have:=(U.in _ _ _ _ e).2.1;omega
 ·rcases f with f|⟨B,m,c,e⟩
  ·exact f
  ·have:=(U.in _ _ _ _ e).2.1;omega
 clear U O f1 p wl h1
 rintro k' r h1 ⟨i,p,l,s,⟨g,rfl⟩,J,hi,N,rfl⟩
 have lb:=J.cls.bound
 have a2:bT p=some (aC (l.length:Int)):=by
  obtain⟨⟨W',F',wl,_,U,O,_⟩,_⟩:=J;exact (fW.open U.sv O).1
 by_cases w:(i:Int)<(l.length:Int)
 case neg=>
  have P:=bH w;obtain rfl:i=l.length:=om
  simp(disch:=omega)only[go_sem,a2,P];obtain⟨⟨W',F',wl,R',_,_,_,hW⟩,fx,v,sub⟩:=J;exact⟨W',F',s,R',v.tl,sub,v.closed N,fx,hW⟩
 have P:=bP w
 have o:i<l.length:=om
 simp(disch:=omega)only[go_sem,a2,P]
 refine xE (λvs Z=> ∃(p:V) (l:LN) (t':rL),(∃g:Nat->V,vs= [y,p,aC i,g 3,g 4,g 5,g 6,g 7,g 8,g 9,g 10,g 11])/\CJ b W h Z n y ρ L t p l t'/\i<l.length/\ ∀a c,a<i+1->c<i+1->Pr n t' l a c) ?_ ?_
 ·refine aH (λk' r Z=> ∃(k:Nat) (p:V) (l:LN) (t':rL),(∃g:Nat->V,r= [y,p,aC i,aC k,g 4,g 5,g 6,g 7,g 8,g 9,g 10,g 11])/\k<=i+1/\CJ b W h Z n y ρ L t p l t'/\i<l.length/\(∀a c,a<i->c<i->Pr n t' l a c)/\(∀c,c<k->Pr n t' l i c/\Pr n t' l c i)/\k'=i+1-k) (i+1)
   ⟨0,p,l,s,aB rfl,iJ _,J,o,N,λc hc=>om,rfl⟩ ?_
  clear J hi N lb a2 w P o p l s g
  rintro k' r h2 ⟨k,p,l,s,⟨g,rfl⟩,hk,J,o,N,hQ,rfl⟩
  by_cases w:(k:Int)<=(i:Int)
  case neg=>
   have P:=bH w;obtain rfl:k=i+1:=om
   simp(disch:=omega)only[go_sem,P];refine⟨p,l,s,aB rfl,J,o,λa c ha hc=>?_⟩
   by_cases ea:a=i
   ·subst ea;exact (hQ c hc).1
   ·by_cases ec:c=i
    ·subst ec;exact (hQ a ha).2
    ·exact N a c om om
  have P:=bP w
  have d3:k<=i:=om
  simp(disch:=omega)only[go_sem,P]
  refine xE (λvs Z=> ∃(p:V) (l:LN) (t':rL),(∃g:Nat->V,vs= [y,p,aC i,aC k,g 4,g 5,g 6,g 7,g 8,g 9,g 10,g 11])/\CJ b W h Z n y ρ L t p l t'/\i<l.length/\(∀a c,a<i->c<i->Pr n t' l a c)/\ ∀c,c<k+1->Pr n t' l i c/\Pr n t' l c i) ?_ ?_
  ·refine aH (λk' r Z=> ∃(q:Nat) (p:V) (l:LN) (t':rL),(∃g:Nat->V,r= [y,p,aC i,aC k,aC q,g 5,g 6,g 7,g 8,g 9,g 10,g 11])/\q<=2/\CJ b W h Z n y ρ L t p l t'/\i<l.length/\(∀a c,a<i->c<i->Pr n t' l a c)/\(∀c,c<k->Pr n t' l i c/\Pr n t' l c i)/\(0<q->Pr n t' l i k)/\(1<q->Pr n t' l k i)/\k'=2-q) 2
    ⟨0,p,l,s,aB rfl,om,J,o,N,hQ,λh=>om,λh=>om,rfl⟩ ?_
   clear J N hQ w P o p l s g
   rintro k' r h3 ⟨q,p,l,s,⟨g,rfl⟩,hq,J,o,N,hQ,hA,hB,rfl⟩
   by_cases w:(q:Int)<2
   case neg=>
    have P:=bH w;have d6:q=2:=om
    simp(disch:=omega)only[go_sem,P];refine⟨p,l,s,aB rfl,J,o,N,λc hc=>?_⟩
    by_cases ec:c=k
    ·subst ec;exact⟨hA om,hB om⟩
    ·exact hQ c om
   have P:=bP w
   obtain⟨⟨W',F',wl,R',U,O,bl,hW⟩,fx,v,sub⟩:=J
   obtain⟨a2,a6,Y,b7,c0⟩:=fW.open U.sv O
   have lb:=v.bound
   obtain⟨i1,c1,p1⟩:=c0 i o
   obtain⟨_,c2,p2⟩:=c0 k om
   have ga:=v.gen _ (bD (d:= []) o)
   have gc:=v.gen _ (bD (d:= []) (show k<l.length by omega))
   obtain⟨a,ea⟩:=exI (l.getD i [])
   obtain⟨c,ec⟩:=exI (l.getD k [])
   rw[ea] at p1 ga
   rw[ec] at p2 gc
   have A:=ga.cU hL
   have C:=gc.cU hL
   generalize wl.getD i .undef=va at c1 p1
   generalize wl.getD k .undef=vc at c2 p2
   have v1:=SV.dE p1.si
   have v2:=SV.dE p2.si
   have vv:=SV.dE U.sv
   simp(disch:=omega)only[go_sem,P,b7.ixa,c1,c2]
   have fb:Fr h3 (H.mk h3.tr (h3.next+10)):=(Fr.refl h3).bA om
   refine (Lj va vc a c _ (by rw[A.len];omega) (p1.si.mono fb) (p2.si.mono fb) (λj hj=>by rw[C.len];exact A.iN (by rw[←A.len];exact hj))).mono ?_
   rintro vx h4 ⟨s4,f4,l4⟩
   have z:=fb.trans f4
   have b1:h4.cell a6 (Y+i)=some va:=by rw[z.cell i1];exact c1
   have a8:h4.cell a6 (Y+k)=some vc:=by rw[z.cell i1];exact c2
   simp(disch:=omega)only[go_sem,b1,a8,v1,v2]
   have px:PV W' h4 vx (aX a c):=PV.fresh s4 l4 (λid G=>iW (R'.Nw id G) fb.next)
   refine jT (λvs Z=> ∃(vx:V) (x:List Nat),(∃g:Nat->V,vs= [y,p,aC i,aC k,aC q,vx,g 6,g 7,g 8,g 9,g 10,g 11])/\PV W' Z vx x/\(q=0->x=aX a c)/\(q=1->x=aX c a)/\bX n L x/\Fr h3 Z) ?_ ?_
   ·refine aW (λc7=>?_) (λc7=>?_)
    ·have w1:(1:Int)=(q:Int):=om
     simp(disch:=omega)only[go_sem,b7.ixa,b1,a8]
     have a5:Fr h4 (H.mk h4.tr (h4.next+10)):=(Fr.refl h4).bA om
     refine (Lj vc va c a _ (by rw[C.len];omega) (p2.si.mono (z.trans a5)) (p1.si.mono (z.trans a5)) (λj hj=>by rw[A.len];exact C.iN (by rw[←C.len];exact hj))).mono ?_
     rintro vy h5 ⟨s5,f5,l5⟩
     have b0:=a5.trans f5
     have c6:h5.cell a6 (Y+i)=some va:=by rw[(z.trans b0).cell i1];exact c1
     have c3:h5.cell a6 (Y+k)=some vc:=by rw[(z.trans b0).cell i1];exact c2
     simp(disch:=omega)only[go_sem,c6,c3,v1,v2]
     refine .inl ⟨vy,aX c a,aB rfl,PV.fresh s5 l5 (λid G=>iW (R'.Nw id G) (z.trans a5).next),λe=>om,λ_=>rfl,gc.app hL ga,z.trans b0⟩
    ·simp(disch:=omega)only[go_sem]
     exact .inl ⟨vx,aX a c,aB rfl,px,λ_=>rfl,λe=>om,ga.app hL gc,z⟩
   clear px s4 l4 z b1 a8 f4 fb vx h4
   rintro r h4 ⟨vx,x,⟨g,rfl⟩,px,c5,c9,gx,f4⟩
   have R4:=R'.mono f4
   simp(disch:=omega)only[go_sem]
   refine (yF b W' h4 n y ρ F' s om h0 R4 v.tl.tab).mono ?_
   rintro v5 h5 ⟨w5,o5,d0,f5⟩
   have l5:bT v5=some (aC ((fR n s 0).length:Int)):=(fW.open o5.sv (fW.fx d0 (Fx.of f5))).1
   have m5:=HA n s om
   simp(disch:=omega)only[go_sem,l5]
   refine (Rw b W' h5 n y ρ F' s vx x om h0 (R4.mono f5) (PV.mono px f5) (gx.cU hL) v.tl.tab).mono ?_
   rintro _ h6 ⟨F6,rfl,R6,f6⟩
   obtain⟨u,K,a0,m,hm⟩:=v.step hL gx
   simp(disch:=omega)only[go_sem]
   refine (yF b W' h6 n y ρ F6 _ om h0 R6 u.tl.tab).mono ?_
   rintro v7 h7 ⟨w7,o7,c4,f7⟩
   have l7:bT v7=some (aC ((fR n (jJ s n x) 0).length:Int)):=(fW.open o7.sv (fW.fx c4 (Fx.of f7))).1
   have m7:=HA n (jJ s n x) om
   have R7:=R6.mono f7
   have b9:=f4.trans f5
   have a4:Fx W' h3 h7:=((Fx.of b9).trans (R4.wbx f6) (λ_ _ h=>h)).trans (Fx.of f7:Fx W' h6 h7) (λ_ _ h=>h)
   have a1: ∀j,j<n->ρ j<h.next:=λj hj=>R.Nw _ (R.wb j hj)
   have b3:cY h7 p 1 wl h.next:=by
    refine (((U.fr b9).zA f6.next λid B m c e G=>f6.get id G λf=>?_).fr f7);obtain⟨j,hj,rfl⟩:=f;have:=(U.in _ _ _ _ e).2.1;have:=a1 j hj;omega
   have Q:fW W' h7 wl l:=fW.fx O a4
   simp(disch:=omega)only[go_sem,l7]
   have a7: ∀b6 h',CJ b W h h' n y ρ L t b6 (l++m) (jJ s n x)->CJ b W h h' n y ρ L t b6 (l++m) (jJ s n x)/\i<(l++m).length/\(∀a c,a<i->c<i->Pr n (jJ s n x) (l++m) a c)/\(∀c,c<k->Pr n (jJ s n x) (l++m) i c/\Pr n (jJ s n x) (l++m) c i)/\(0<q+1->Pr n (jJ s n x) (l++m) i k)/\(1<q+1->Pr n (jJ s n x) (l++m) k i):=λb6 h' J=>by
    have b5:k<l.length:=om
    refine⟨J,by rw[jZ];omega,λa c h1 h2=>(N a c h1 h2).mono K om om,λc hc=>⟨(hQ c hc).1.mono K o om,(hQ c hc).2.mono K om o⟩,λ_=>?_,λ_=>?_⟩
    ·by_cases e0:q=0
     ·rw[OX o b5]
      unfold Pr;rw[ea,ec,←c5 e0];exact a0
     ·exact (hA om).mono K o b5
    ·have e0:q=1:=om
     rw[OX b5 o];unfold Pr;rw[ea,ec,←c9 e0];exact a0
   refine aW (λb2=>?_) (λb2=>?_)
   ·have hg:(fR n s 0).length<(fR n (jJ s n x) 0).length:=om
    have em:m=frF n (jJ s n x) l:=by
     unfold clF at hm;rw[bF hg] at hm;exact (List.append_cancel_left hm).symm
    have m0:=abJ v u.tl.tab hg
    rw[←em] at m0
    rw[hm] at u
    have c8:=u.bound
    rw[jZ] at c8
    simp(disch:=omega)only[go_sem]
    refine (UP b W' h7 n y p wl l ρ F6 _ om h0 R7 u.tl.tab b3.sv Q v.cU om).mono ?_
    rintro v8 h8 ⟨w8,o8,p8,f8⟩
    rw[←em] at p8
    have lw:=aM.length Q
    have d4:=aM.length p8
    have b8:=b3.fr f8
    have R8:=R7.mono f8
    obtain⟨h9,a9,p9⟩:=b8.push (bytes:=24) o8.sv (n:=l.length) (m:=m.length) om om om m0 ⟨om,om⟩
    have n9:=p9.next
    have a3:=p9.fx bl
    have d7:=a4.next
    have d5:=f8.next
    have d2:=fx.next
    simp(disch:=omega)only[go_sem,a9]
    rw[eJ q]
    have b4: ∀id,id<h8.next->(W' id∨id=h8.next)->W' id:=λid h1 h2=>by
     rcases h2 with h2|h2
     ·exact h2
     ·omega
    have J':CJ b W h h9 n y ρ L t (.sl h8.next 0 (l.length+m.length) (.un 1)) (l++m) (jJ s n x):=by
     refine⟨⟨λid=>W' id∨id=h8.next,F6,wl++w8,?_,p9.own om om om,?_,λid B m c e=>by cases e;exact .inr rfl,λid G f=>?_⟩,?_,u,sub.trans K⟩
     ·refine R8.go a3 (λj hj=>p9.old _ (by have:=a1 j hj;omega) λid B m c e e2=>by have:=(b8.in _ _ _ _ e).2.1;have:=a1 j hj;omega) b4 (λid f=> .inl f) (λid f=>?_) (λid f=>?_)
      ·rcases f with f|f
       ·have:=R8.Nw id f;omega
       ·omega
      ·rcases f with f|f
       ·exact R8.low id f
       ·omega
     ·exact (fW.go (fW.fx Q (Fx.of f8)) a3 b4).append (fW.go (fW.fx p8 (Fx.of f8)) a3 b4)
     ·rcases f with f|f
      ·exact hW id G f
      ·omega
     ·exact fx.trans ((a4.trans (Fx.of f8:Fx W' h7 h8) (λ_ _ h=>h)).trans a3 (λ_ _ h=>h)) hW
    obtain⟨j1,j2,j3,j4,j5,j6⟩:=a7 _ _ J'
    exact⟨2-(q+1),om,q+1,_,_,_,aB rfl,om,j1,j2,j3,j4,j5,j6,rfl⟩
   ·have hg: ¬(fR n s 0).length<(fR n (jJ s n x) 0).length:=om
    have em:m= []:=by
     unfold clF at hm;rw[bI hg] at hm;exact List.append_right_eq_self.1 hm.symm
    simp(disch:=omega)only[go_sem]
    rw[eJ q]
    have J':CJ b W h h7 n y ρ L t p (l++m) (jJ s n x):=by
     rw[hm] at u;exact⟨⟨W',F6,wl,R7,b3,by rw[em,vF];exact Q,bl,hW⟩,fx.trans a4 hW,u,sub.trans K⟩
    obtain⟨j1,j2,j3,j4,j5,j6⟩:=a7 _ _ J'
    exact⟨2-(q+1),om,q+1,_,_,_,aB rfl,om,j1,j2,j3,j4,j5,j6,rfl⟩
  rintro r h3 ⟨p,l,s,⟨g,rfl⟩,J,o,N,hQ⟩
  have lb:=J.cls.bound
  simp(disch:=omega)only[go_sem]
  rw[eJ k]
  exact⟨i+1-(k+1),om,k+1,p,l,s,aB rfl,om,J,o,N,hQ,rfl⟩
 clear J hi N lb a2 w P o p l s g
 rintro r h2 ⟨p,l,s,⟨g,rfl⟩,J,o,N⟩
 have lb:=J.cls.bound
 simp(disch:=omega)only[go_sem]
 rw[eJ i]
 exact⟨1000000-(i+1),om,i+1,p,l,s,aB rfl,J,om,N,rfl⟩
theorem Mk (t:rL)(i k:Nat):(BH t i k).length<=k:=by
 unfold BH;have:=List.length_filter_le (λp=>p==i||(t i p).isSome) (List.range k);rwa [NM] at this
theorem Xk (b:Nat)(W:Nat->Prop)(h:H)(n:Nat)(J:V)(ρ:Nat->Nat)(F:Nat->Nat->V)(t:rL)(i:Nat)(hn:n<=64)(h0:0<n)(hi:i<n)(R:Ia b W h n J ρ F t)(O:oK n t):
  Ev T 132 [J,aC i] h (λv h'=>cY h' v 1 (ints (zi (BH t i n))) h.next/\Fr h h'):=by
 refine cV rV rfl ?_
 have A:=R.open.1
 simp(disch:=omega)only[go_sem,rV,aD]
 refine aH (λL c N=> ∃(p:Nat) (m:V),(∃g:Nat->V,c= [J,aC i,g 2,m,aC p,g 5,g 6])/\i<=p/\p<=n/\cY N m 1 (ints (zi (BH t i p))) h.next/\Fr h N/\L=n-p) (n-i)
  ⟨i,.aE,aB rfl,fM _,om,by rw[BC O];exact cY.aE _ _ _,Fr.refl h,rfl⟩ ?_
 rintro L c s ⟨p,m,⟨g,rfl⟩,a1,a0,B,f,rfl⟩
 by_cases k:(p:Int)<(n:Int)
 case neg=>
  have q:=bH k;obtain rfl:p=n:=om
  simp(disch:=omega)only[go_sem,A,q];exact⟨B,f⟩
 have q:=bP k
 have l:p<n:=om
 have P:=R.mono f
 obtain⟨_,a2,Y,u,G⟩:=P.open
 have Z:=G i hi
 have w:=P.cell hi l
 have x:=R.ent i p hi l
 have ll:=Mk t i p
 have Q:=JM (t:=t) i p
 have step:(p=i∨(t i p).isSome)-> ∃d,xQ (s.new (.cells false (ints [(p:Int)]))) 1 8 m (.sl s.next 0 1 (.kn 1))=some (.sl (s.next+1) 0 ((BH t i p).length+1) (.un 1),d)/\cY d (.sl (s.next+1) 0 ((BH t i p).length+1) (.un 1)) 1 (ints (zi (BH t i (p+1)))) h.next/\Fr h d:=λhc=>by
  obtain⟨d,j,a,o,n4,_⟩:=Hi (v:= aC p) B f (by rw[aP,aQ];omega) (bytes:=8) om;rw[aP,aQ] at j a;refine⟨d,j,?_,o⟩;rw[Q,bF hc,We,uT];exact a
 by_cases r:p=i
 ·have z:decide ((p:Int)=(i:Int))=true:=bP om
  obtain⟨d,j,a,o⟩:=step (.inl r)
  simp(disch:=omega)only[go_sem,A,q,z,Us,j]
  rw[eJ p]
  exact⟨n-(p+1),om,p+1,_,aB rfl,om,om,a,o,rfl⟩
 have z:decide ((p:Int)=(i:Int))=false:=bH om
 cases hto:t i p with
 |none=>
  rw[hto] at x;rw[x.nil] at w;simp(disch:=omega)only[go_sem,A,q,z,u.ixa,Z,w];rw[eJ p];refine⟨n-(p+1),om,p+1,m,aB rfl,om,om,?_,f.bA om,rfl⟩;rw[Q,bI (by rw[hto];simp [r]),vF];exact B.fr ((Fr.refl s).bA om)
 |some y=>
  rw[hto] at x;have U:PV W h (F i p) y:=x;have K:=Hv U (bE.ne h0 (O.cU _ _ _ hto)) true;generalize F i p=vz at w U K;obtain⟨d,j,a,o⟩:=step (.inr (by rw[hto];rfl));simp(disch:=omega)only[go_sem,A,q,z,u.ixa,Z,w,K,Us,j];rw[eJ p];exact⟨n-(p+1),om,p+1,_,aB rfl,om,om,a,o,rfl⟩
theorem SL.aiF {h h':H}{v:V}{l:List Int}(c:SL h l v h')(b:0<l.length):zD h h' v l:=by
 obtain⟨_,f,e⟩:=c;obtain⟨id,rfl,a,i,d⟩:=e b;exact⟨⟨id,_,rfl,a,i,d,.inl rfl⟩,f⟩
theorem JJ (b:Nat)(W:Nat->Prop)(h:H)(n:Nat)(tv:V)(ρ:Nat->Nat)(F:Nat->Nat->V)(t:rL)(d p:Nat)(x:List Nat)(hn:n<=64)(h0:0<n)(O:d<n)(hp:p<n)(R:Ia b W h n tv ρ F t)(TI:oK n t)(tw:pI n 0 (kX n t))(a4:(kX n t d).to p=some x):
  Ev T 133 [tv,aC d,aC p] h (λv h'=>zD h h' v (zi (Kb (kX n t) (n-(d+1)) (d+1) x))):=by
 have X:=(uN TI O a4).1
 refine cV rU rfl ?_
 obtain⟨lv,c5,c0,c7,c4⟩:=R.open
 simp(disch:=omega)only[go_sem,rU,aD,lv]
 refine (aaW n h om).mono ?_
 rintro v1 h1 ⟨s1,f1,l1⟩
 simp(disch:=omega)only[go_sem]
 have b2: ∀id,W id->id<h.next:=R.Nw
 refine jT (λvs w=> ∃vx,(∃g:Nat->V,vs= [tv,aC d,aC p,g 3,vx,g 5,g 6,g 7,g 8,g 9,g 10,g 11,g 12,g 13])/\PV W w vx x/\Fr h w) ?_ ?_
 ·have r:(if p=d then some (bL n) else t d p)=some x:=a4
  refine aW (λb4=>?_) (λb4=>?_)
  ·have G:p≠d:=om
   rw[bI G] at r
   have R1:=R.mono f1
   obtain⟨_,a3,K,P,L⟩:=R1.open
   have cr:=L d O
   have ce:=R1.cell O hp
   have hS:=R1.ent d p O hp
   rw[r] at hS
   have pz:PV W h1 (F d p) x:=hS
   generalize F d p=vz at ce pz
   simp(disch:=omega)only[go_sem,P.ixa,cr,ce]
   exact .inl ⟨vz,aB rfl,pz,f1⟩
  ·have G:p=d:=om
   rw[bF G] at r
   obtain rfl:bL n=x:=Option.some.inj r
   simp(disch:=omega)only[go_sem]
   exact .inl ⟨v1,aB rfl,PV.fresh s1 l1 b2,f1⟩
 clear s1 f1 l1 v1 h1
 rintro i h1 ⟨vx,⟨g,rfl⟩,px,f1⟩
 simp(disch:=omega)only[go_sem]
 rw[eJ d]
 refine bJ (λvs w=> ∃s,(∃g:Nat->V,vs= [tv,g 1,g 2,g 3,s,g 5,g 6,g 7,g 8,g 9,g 10,g 11,g 12,g 13])/\PV W w s (Kb (kX n t) (n-(d+1)) (d+1) x)/\bE n (Kb (kX n t) (n-(d+1)) (d+1) x)/\Fr h w) ?_ ?_
 ·refine aH (λk' i w=> ∃(k:Nat) (y:List Nat) (s:V),(∃g:Nat->V,i= [tv,g 1,g 2,g 3,s,aC k,g 6,g 7,g 8,g 9,g 10,g 11,g 12,g 13])/\d<k/\k<=n/\Kb (kX n t) (n-k) k y=Kb (kX n t) (n-(d+1)) (d+1) x/\
    PV W w s y/\bE n y/\Fr h w/\k'=n-k) (n-(d+1))
   ⟨d+1,x,vx,aB rfl,om,om,rfl,px,X,f1,rfl⟩ ?_
  clear px f1 vx h1 g
  rintro k' i h2 ⟨k,y,s,⟨g,rfl⟩,c9,c6,z,hy,Y,f,rfl⟩
  by_cases a6:(k:Int)<(n:Int)
  case neg=>
   have e1:=bH a6;obtain rfl:k=n:=om
   rw[Nat.sub_self] at z;simp(disch:=omega)only[go_sem,lv,e1];have a8:y=Kb (kX k t) (k-(d+1)) (d+1) x:=z;exact⟨s,aB rfl,by rw[←a8];exact hy,by rw[←a8];exact Y,f⟩
  have l:k<n:=om
  have e1:=bP a6
  have R2:=R.mono f
  simp(disch:=omega)only[go_sem,lv,e1]
  refine (Xk b W h2 n tv ρ F t k hn h0 l R2 TI).mono ?_
  rintro vo h3 ⟨oo,f3⟩
  obtain⟨o,ho⟩:=exI ((kX n t k).orb)
  rw[show BH t k n=o from ho] at oo
  have so:SI h3 vo (zi o):=oo.sv
  have lo:=so.lens
  rw[aQ] at lo
  have jX:=(tw k (iJ _) l).1
  have d0:o.length<=n:=by rw[←ho];exact Mk t k n
  obtain⟨id,b7,sh,b0,hc⟩:=so.open
  rw[aQ] at sh b0 hc
  have a7:=PV.mono hy f3
  obtain⟨a3,K,P,B,L⟩:=a7.si.open
  rw[aQ,Y.len] at P B L
  simp(disch:=omega)only[go_sem]
  refine bJ (λvs w=>(∃g:Nat->V,vs= [tv,g 1,g 2,g 3,s,aC k,g 6,aC (oI y k o:Int),g 8,g 9,g 10,g 11,g 12,g 13])/\oI y k o<n/\oI y k o∈k::o/\Fr h3 w) ?_ ?_
  ·refine aH (λm' i w=> ∃(m b:Nat),(∃g:Nat->V,i= [tv,g 1,g 2,g 3,s,aC k,vo,aC b,aC m,g 9,g 10,g 11,g 12,g 13])/\m<=o.length/\b<n/\b∈k::o/\
     oI y b (o.drop m)=oI y k o/\Fr h3 w/\m'=o.length-m) o.length
    ⟨0,k,aB rfl,iJ _,l,Ab ..,rfl,Fr.refl h3,rfl⟩ ?_
   rintro m' i h4 ⟨m,b1,⟨g3,rfl⟩,hm,hb,A,a,N,rfl⟩
   by_cases a0:(m:Int)<(o.length:Int)
   case neg=>
    have e2:=bH a0;have em:m=o.length:=om
    rw[em,List.drop_length] at a;have a:b1=oI y k o:=a;simp(disch:=omega)only[go_sem,lo,e2];exact⟨by rw[←a];exact aB rfl,by rw[←a];exact hb,by rw[←a];exact A,N⟩
   have e2:=bP a0
   have J:m<o.length:=om
   rw[ajU _ _ J] at a
   have cq:h4.cell id (b7+m)=some (aC (o.getD m 0:Nat)):=by rw[N.cell (b0 om),hc m J];congr 2;simp [zi,J]
   have a1:o.getD m 0∈o:=by rw[cJ J];exact zG J
   have Z:=jX.lt l (by rw[ho];exact a1)
   generalize o.getD m 0=q at cq a1 Z a
   have c1:h4.cell a3 (K+q)=some (aC (y.getD q 0:Nat)):=by rw[N.cell (B om),L q Z];congr 2;simp [zi,Y.len,Z]
   have c2:h4.cell a3 (K+b1)=some (aC (y.getD b1 0:Nat)):=by rw[N.cell (B om),L b1 hb];congr 2;simp [zi,Y.len,hb]
   simp(disch:=omega)only[go_sem,lo,e2,sh.ixa,cq,P.ixa,c1,c2]
   have fb:Fr h3 (H.mk h4.tr (h4.next+12)):=N.bA om
   refine aW (λb5=>?_) (λb5=>?_)
   ·rw[bF om] at a
    simp(disch:=omega)only[go_sem,sh.ixa,cq]
    rw[eJ m]
    exact⟨o.length-(m+1),om,m+1,q,aB rfl,om,Z,Cu _ a1,a,fb,rfl⟩
   ·rw[bI om] at a
    simp(disch:=omega)only[go_sem]
    rw[eJ m]
    exact⟨o.length-(m+1),om,m+1,b1,aB rfl,om,hb,A,a,fb,rfl⟩
  rintro i h4 ⟨⟨g4,rfl⟩,hb,A,N⟩
  have a2:n-k=(n-(k+1))+1:=om
  rw[a2] at z
  have z:Kb (kX n t) (n-(k+1)) (k+1) (if oI y k (kX n t k).orb=k then y else aX (((kX n t k).to (oI y k (kX n t k).orb)).getD []) y)=Kb (kX n t) (n-(d+1)) (d+1) x:=z
  rw[ho] at z
  have R4:=R2.mono (f3.trans N)
  have a5:=PV.mono a7 N
  generalize oI y k o=q at z hb A
  by_cases Q:q=k
  ·rw[bF Q] at z
   have e0:decide ((q:Int)≠(k:Int))=false:=bH om
   simp(disch:=omega)only[go_sem,e0]
   rw[eJ k]
   exact⟨n-(k+1),om,k+1,y,s,aB rfl,om,om,z,a5,Y,(f.trans f3).trans N,rfl⟩
  rw[bI Q] at z
  have e0:decide ((q:Int)≠(k:Int))=true:=bP om
  have b8:q∈(kX n t k).orb:=by
   rcases zH.1 A with e|e
   ·exact absurd e Q
   ·rw[ho];exact e
  obtain⟨u,hu⟩:=jX.to b8
  have U:=jX.cU _ _ hu
  have a9:(if q=k then some (bL n) else t k q)=some u:=hu
  rw[bI Q] at a9
  obtain⟨_,c8,c3,b9,b6⟩:=R4.open
  have cr:=b6 k l
  have ce:=R4.cell l hb
  have hS:=R4.ent k q l hb
  rw[a9] at hS
  have pu:PV W h4 (F k q) u:=hS
  generalize F k q=vu at ce pu
  rw[hu] at z
  simp(disch:=omega)only[go_sem,e0,b9.ixa,cr,ce]
  refine (Lj vu s u y h4 (by rw[U.len];omega) pu.si a5.si (λj hj=>by rw[Y.len];exact U.iN (by rw[←U.len];exact hj))).mono ?_
  rintro v h5 ⟨s5,f5,l5⟩
  simp(disch:=omega)only[go_sem]
  rw[eJ k]
  exact⟨n-(k+1),om,k+1,_,v,aB rfl,om,om,z,PV.fresh s5 l5 R4.Nw,U.mul Y,((f.trans f3).trans N).trans f5,rfl⟩
 rintro i h2 ⟨s,⟨g2,rfl⟩,py,Y,f2⟩
 simp(disch:=omega)only[go_sem]
 refine (afK s _ h2 py.si (by rw[aQ,Y.len];omega)).mono ?_
 rintro v h3 c
 have fr:=SL.aiF c (by rw[aQ,Y.len];exact h0)
 simp(disch:=omega)only[go_sem]
 obtain⟨⟨id,b3,e1,e2,e3,e4,e5⟩,f3⟩:=fr
 exact⟨⟨id,b3,e1,by have:=f2.next;omega,e3,e4,e5⟩,f2.trans f3⟩
theorem MD (b:Nat)(W0:Nat->Prop)(h:H)(n:Nat)(tv:V)(ρ:Nat->Nat)(F:Nat->Nat->V)(t:rL)(hn:n<=64)(h0:0<n)(R:Ia b W0 h n tv ρ F t)(TI:oK n t)(tw:pI n 0 (kX n t)):
  Ev T 89 [tv] h (λv h'=> ∃O R',NL (λid=>id<h.next) h' v n O R'/\bC n (S n (kX n t) 0) O R'/\Fr h h'):=by
 refine cV sF rfl ?_
 have lv:=R.open.1
 obtain⟨τ,a8⟩:=exI (kX n t)
 obtain⟨B,hB⟩:=exI h.next
 have bl:rO [aC 0,.aE,.aE] [(0,1,aC n)]=some (.agg [aC n,.aE,.aE]):=by
  have e1:putAt [aC 0,.aE,.aE] 0 [aC n]=some [aC n,.aE,.aE]:=by simp [putAt]
  simp [rO,iS,e1,V.cells,V.one]
 obtain⟨U,a2⟩: ∃U,U=(h.new (.cells false [aC 0,.aE,.aE])).new (.cells false [aC 0,.aE,.aE]):=⟨_,rfl⟩
 have n1:U.next=B+2:=by rw[a2,H.aU,H.aU,hB]
 have g1:U.get (B+1)=aZ [aC 0,.aE,.aE]:=by
  rw[a2];have:=H.aL (h.new (.cells false [aC 0,.aE,.aE])) (.cells false [aC 0,.aE,.aE]);rwa [H.aU,hB] at this
 have g0:U.get B=aZ [aC 0,.aE,.aE]:=by rw[a2,H.bG _ (by rw[H.aU,hB];omega),←hB,H.aL]
 have f1:Fr h U:=by rw[a2];exact ((Fr.refl h).new _).new _
 simp(disch:=omega)only[go_sem,sF,aD,hB,lv,bl]
 rw[←a2]
 simp(disch:=omega)only[go_sem,bW U (B+1) 0 (v:= aC n) (u:= .aE) (w:= .aE) rfl rfl rfl,g1,cF]
 obtain⟨l,a1⟩: ∃l,l=U.set (B+1) (aZ [aC n,.aE,.aE]):=⟨_,rfl⟩
 have n2:l.next=B+2:=by rw[a1];exact n1
 have f2:Fr h l:=by rw[a1];exact f1.set om _
 have g2:l.get (B+1)=aZ [aC n,.aE,.aE]:=by rw[a1,H.aS]
 have c6:l.get B=aZ [aC 0,.aE,.aE]:=by rw[a1,H.aG _ om];exact g0
 rw[←a1]
 clear a2 a1 f1 g0 g1 n1 U
 refine aH (λk' a0 G=> ∃(i:Nat) (W:Nat->Prop) (O:LN) (R':jI) (vO K:V) (c1 b9:List V),(∃g:Nat->V,a0= [tv,.ptr B 0,.ptr (B+1) 0,aC i,g 4,g 5,g 6,g 7,g 8])/\i<=n/\Ae h G (B+1) B W n O R' vO K c1 b9/\
   G.get B=aZ [aC 0,.aE,.aE]/\O.length=i/\R'.length=i/\(∀j,j<i->ChL τ n j (O.getD j []) (R'.getD j []))/\k'=n-i) n
  ⟨0,_, [], [],_,_,_,_,aB rfl,iJ _,Ae.start om om om om om f2 g2,c6,rfl,rfl,λj hj=>om,rfl⟩ ?_
 clear f2 g2 c6 n2 l
 rintro k' a0 l ⟨i,W,O,R',vO,K,c1,b9,⟨g,rfl⟩,hi,A,gB,lO,lR,hC,rfl⟩
 by_cases d0:(i:Int)<(n:Int)
 case neg=>
  have e1:=bH d0;obtain rfl:i=n:=om
  have hr:=aI A.get;have nB:=A.fr.next;simp(disch:=omega)only[go_sem,lv,e1,hr,bW l B 0 (v:= aC i) (u:=vO) (w:=K) rfl (SV.cK A.oO.sv).2.1 (SV.cK A.oR.sv).2.1,gB,cF];have d6:=aI (h:=l.set B (aZ [aC i,vO,K])) (H.aS ..);have fB:Fx (· =B) l (l.set B (aZ [aC i,vO,K])):=Fx.set l (W:=(· =B)) rfl _;simp(disch:=omega)only[go_sem,d6]
  obtain⟨h3,c5⟩: ∃h3,h3=l.set B (aZ [aC i,vO,K]):=⟨_,rfl⟩
  rw[←c5] at fB ⊢;have A3:=A.box c5;refine⟨O,R',by rw[←hB];exact A3.chw,?_,A3.fr⟩;rw[a8] at tw ⊢;have X:=tw.chain (O:=O) (R:=R') lO lR (λj hj=>(hC j hj).1) (λj hj=>(hC j hj).2.1) (λj hj=>(hC j hj).2.2.1) (λj hj=>(hC j hj).2.2.2);exact X
 have e1:=bP d0
 have b3:i<n:=om
 have R2:=R.mono A.fr
 have jX:=(tw i (iJ _) b3).1
 rw[a8] at jX
 simp(disch:=omega)only[go_sem,lv,e1]
 refine (Xk b W0 l n tv ρ F t i hn h0 b3 R2 TI).mono ?_
 rintro vo h4 ⟨oo,f4⟩
 obtain⟨q,hq⟩:=exI (BH t i n)
 have c4:q.Pairwise (· < ·):=by rw[←hq];exact QG i n
 have a6: ∀p,p∈q↔p∈(τ i).orb:=λp=>by rw[←hq,OM,a8]
 have j0:q.length<=n:=by rw[←hq];exact Mk t i n
 have i5:0<q.length:=HJ ((a6 i).2 jX.base)
 rw[hq] at oo
 obtain⟨P,cp,rfl,j3,d9,cP⟩: ∃P cp,vo= .sl P 0 q.length cp/\l.next<=P/\P<h4.next/\ ∀k,k<q.length->h4.cell P k=some (aC (q.getD k 0:Nat)):=by
  rcases oo with ⟨_,e⟩|⟨id,m,g4,i6,e1,e2,e3,e4,e5,e6⟩
  ·have:=congrArg List.length e
   rw[aP,aQ,List.length_nil] at this;omega
  ·rw[aP,aQ,uW] at e2
   subst e2;exact⟨id,g4,e1,e4,e5,λk hk=>by rw[H.aF e6,Dv (by rw[aP,aQ];exact hk),Ip hk]⟩
 have A4:=A.mono f4
 have pq:PV W h4 (.sl P 0 q.length cp) q:=⟨oo.sv,λhw=>by have:=A.wb P hw;omega⟩
 have d5:h4.get B=aZ [aC 0,.aE,.aE]:=by rw[f4.get B (A.wb B A.d)];exact gB
 clear A gB R2 oo
 simp(disch:=omega)only[go_sem]
 refine bJ (λvs G=> ∃(L:V) (r:LN),(∃g:Nat->V,vs= [tv,.ptr B 0,.ptr (B+1) 0,aC i,.sl P 0 q.length cp,L,g 6,g 7,g 8])/\PL W G L r/\ChL τ n i q r/\Fr h4 G) ?_ ?_
 ·refine aH (λk' vs G=> ∃(k:Nat) (L:V) (ws:List V) (r:LN) (W':Nat->Prop),(∃g:Nat->V,vs= [tv,.ptr B 0,.ptr (B+1) 0,aC i,.sl P 0 q.length cp,L,aC k,g 7,g 8])/\k<=q.length/\cY G L 1 ws h4.next/\fW W' G ws r/\Hq W' L/\(∀id,W id->W' id)/\(∀id,W' id->id<G.next/\(W id∨h4.next<=id))/\r.length=k/\
    (∀j,j<k-> ∀y,(τ i).to (q.getD j 0)=some y->r.getD j []=Kb τ (n-(i+1)) (i+1) y)/\Fr h4 G/\k'=q.length-k) q.length
   ⟨0,.aE, [], [],W,aB rfl,iJ _,cY.aE _ _ _,trivial,λ_ _ _ _ e=>(by cases e),λ_ h=>h,λid h=>⟨A4.wb id h,.inl h⟩,rfl,λj hj=>om,Fr.refl _,rfl⟩ ?_
  rintro k' a0 f ⟨k,L,ws,r,W',⟨g,rfl⟩,hk,ow,b6,d7,d2,c9,lr,hr,f5,rfl⟩
  by_cases b5:(k:Int)<(q.length:Int)
  case neg=>
   have e2:=bH b5;obtain rfl:k=q.length:=om
   simp(disch:=omega)only[go_sem,e2];refine⟨L,r,aB rfl,⟨ws,ow.sv,?_,b6.lH (λid _ h=>d2 id h),cY.NN ow⟩,⟨c4,a6,lr,hr⟩,f5⟩
   cases L with
   |sl id b1 m c=>exact λh=>by have:=(ow.in _ _ _ _ rfl).2.1;have:=A4.wb id h;omega
   |_=>trivial
  have e2:=bP b5
  have b7:k<q.length:=om
  obtain⟨p,hp⟩:=exI (q.getD k 0)
  have ck:f.cell P k=some (aC p):=by
   rw[f5.cell d9,cP k b7,hp]
  have d1:p∈(τ i).orb:=(a6 p).1 (by rw[←hp,cJ b7];exact zG b7)
  have f3:=jX.lt b3 d1
  obtain⟨y,hy⟩:=jX.to d1
  have Y:=jX.cU _ _ hy
  have R5:=R.mono (A4.fr.trans f5)
  simp(disch:=omega)only[go_sem,e2,ck]
  refine (JJ b W0 f n tv ρ F t i p y hn h0 b3 f3 R5 TI tw (by rw[a8];exact hy)).mono ?_
  rw[a8]
  rintro v7 Q c8
  have f7:=c8.fr
  have p7:PV W' Q v7 (Kb τ (n-(i+1)) (i+1) y):=c8.pv λid h=>(c9 id h).1
  simp(disch:=omega)only[go_sem,cT Q (z:= .aE) p7.fG.1 p7.fG.2]
  obtain⟨N,J⟩: ∃N,N=Q.new (.cells false [v7]):=⟨_,rfl⟩
  have g8:N.get Q.next=aZ [v7]:=by rw[J,H.aL]
  have n8:N.next=Q.next+1:=by rw[J,H.aU]
  have f8:Fr Q N:=by rw[J];exact (Fr.refl Q).new _
  rw[←J]
  have b4:=f7.trans f8
  have g3:=ow.fr b4
  have i8:=aM.length b6
  obtain⟨h9,a9,p9⟩:=g3.push (bytes:=24) (SV.one om g8 (.kn 1)) (n:=k) (m:=1) om rfl om om om
  simp(disch:=omega)only[go_sem,a9]
  rw[eJ k]
  have n9:=p9.next
  have f9:Fx W' N h9:=p9.fx d7
  have i3:=b4.next
  have c7: ∀id,id<N.next->(W' id∨id=N.next)->W' id:=λid U l=>by
   rcases l with l|l
   ·exact l
   ·omega
  refine⟨q.length-(k+1),om,k+1,_,_,r++ [Kb τ (n-(i+1)) (i+1) y],λid=>W' id∨id=N.next,aB rfl,om,p9.own om rfl (by have:=f5.next;omega),?_,λid b1 m c e=>by cases e;exact .inr rfl,λid h=> .inl (d2 id h),λid h=>?_,by rw[jZ,lr];rfl,λj hj z hz=>?_,?_,rfl⟩
  ·exact (fW.go (fW.go b6 (Fx.of b4) (λ_ _ h=>h)) f9 c7).append (fW.one (PV.go (p7.mono f8) f9 c7))
  ·rcases h with h|h
   ·have:=c9 id h;exact⟨om,this.2⟩
   ·have:=f5.next;exact⟨om,.inr om⟩
  ·by_cases e:j=k
   ·subst e
    rw[hp,hy] at hz
    cases hz
    rw[←lr,kG]
   ·rw[mI om]
    exact hr j om z hz
  ·refine⟨by have:=f5.next;omega,λid b2=>?_⟩
   rw[p9.old id (by have:=f5.next;omega) (λi2 b1 m c e e2=>by have:=(ow.in _ _ _ _ e).2.1;omega),b4.get id (by have:=f5.next;omega)]
   exact f5.get id b2
 rintro a0 f ⟨L,r,⟨g,rfl⟩,pl,g9,f5⟩
 have s:=A4.mono f5
 have g5:=pq.mono f5
 have i0:f.get B=aZ [aC 0,.aE,.aE]:=by rw[f5.get B (A4.wb B A4.d)];exact d5
 have cO:f.cell (B+1) 1=some vO:=by rw[H.aF s.get];rfl
 have cR:f.cell (B+1) 2=some K:=by rw[H.aF s.get];rfl
 obtain⟨ws,c0,i1,d4,e9⟩:=pl
 have pl:PL W f L r:=⟨ws,c0,i1,d4,e9⟩
 have i9:=s.fr.next
 have c3:=s.wb _ s.c
 simp(disch:=omega)only[go_sem,cO,cR,cT _ (z:= .aE) (v:= .sl P 0 q.length cp) rfl rfl]
 obtain⟨h6,b0⟩: ∃h6:H,h6=H.mk ((H.mk f.tr (f.next+3)).new (Ob.cells false [.sl P 0 q.length cp])).tr (f.next+14):=⟨_,rfl⟩
 rw[←b0]
 have g6:h6.get (f.next+3)=aZ [.sl P 0 q.length cp]:=by rw[b0];exact H.aL (H.mk f.tr (f.next+3)) _
 have n6:h6.next=f.next+14:=by rw[b0]
 have o6: ∀k,k≠f.next+3->h6.get k=f.get k:=λk hk=>by rw[b0];exact H.bG (H.mk f.tr (f.next+3)) (by simpa using hk) _
 have f6:Fr f h6:=⟨om,λid b2=>o6 id om⟩
 have j1:=aM.length s.aO
 have i7:=aM.length s.aR
 obtain⟨Q,a7,p7⟩:=(s.oO.fr f6).push (bytes:=24) (SV.one om g6 (.kn 1)) (n:=i) (m:=1) om rfl om om om
 have n7:=p7.next
 have a4: ∀k,k<f.next->dL vO k->Q.get k=f.get k:=λk U l=>by rw[p7.old k om l,o6 k om]
 have g7:Q.cell (B+1) 2=some K:=by unfold H.cell;rw[a4 (B+1) c3 s.pO,s.get];rfl
 have eR:dE K K=true:=s.oR.sv.dE
 have c2:L.cells= [L]/\L.one=true:=⟨(SV.cK c0).1,(SV.cK c0).2.1⟩
 simp(disch:=omega)only[go_sem,a7,g7,eR,cT _ (z:= .aE) c2.1 c2.2]
 obtain⟨N,J⟩: ∃N:H,N=H.mk ((H.mk Q.tr (f.next+8)).new (Ob.cells false [L])).tr Q.next:=⟨_,rfl⟩
 rw[←J]
 have g8:N.get (f.next+8)=aZ [L]:=by rw[J];exact H.aL (H.mk Q.tr (f.next+8)) _
 have n8:N.next=Q.next:=by rw[J]
 have o8: ∀k,k≠f.next+8->N.get k=Q.get k:=λk hk=>by rw[J];exact H.bG (H.mk Q.tr (f.next+8)) (by simpa using hk) _
 have f0:cY N K 1 b9 h.next:=s.oR.mono om λid b1 m c e _ b2=>by
  rw[o8 id om,a4 id b2 (λi2 i4 n' c' e' e2=>s.IQ _ _ _ _ e' _ _ _ _ e e2.symm)]
 obtain⟨h9,a9,p9⟩:=f0.push (bytes:=24) (SV.one om g8 (.kn 1)) (n:=i) (m:=1) om rfl om om om
 have n9:=p9.next
 have e7: ∀k,f.next<=k->dL K k:=λk hk id b1 m c e e2=>by have:=(s.oR.in _ _ _ _ e).1;omega
 have a3: ∀k,k<f.next->dL vO k->dL K k->h9.get k=f.get k:=λk U l h3=>by rw[p9.old k om h3,o8 k om,a4 k U l]
 have d8:h9.get (B+1)=aZ [aC n,vO,K]:=by rw[a3 _ c3 s.pO s.pR];exact s.get
 have e8: ∀(G:H) (x:V),dX (aZ [aC n,vO,K]) G (B+1) 1 [x]=some (G.set (B+1) (aZ [aC n,x,K])):=λG x=>bN (by simp) G _ x
 have e0: ∀(G:H) (x y:V),dX (aZ [aC n,x,K]) G (B+1) 2 [y]=some (G.set (B+1) (aZ [aC n,x,y])):=λG x y=>bN (by simp) G _ y
 simp(disch:=omega)only[go_sem,a9,d8,e8,e0]
 rw[eJ i]
 obtain⟨ha,hb⟩:h6.next=f.next+14/\N.next=f.next+15:=⟨n6,om⟩
 rw[ha,hb]
 obtain⟨a5,Z⟩: ∃a5,a5=(h9.set (B+1) (aZ [aC n,.sl (f.next+14) 0 (i+1) (.un 1),K])).set (B+1) (aZ [aC n,.sl (f.next+14) 0 (i+1) (.un 1),.sl (f.next+15) 0 (i+1) (.un 1)]):=⟨_,rfl⟩
 rw[←Z]
 have b8: ∀k,k≠B+1->a5.get k=h9.get k:=λk hk=>by rw[Z,H.aG _ hk,H.aG _ hk]
 have j2:a5.next=f.next+16:=by rw[Z];show h9.next=_;omega
 have d3:=s.step (v4:= .sl P 0 q.length cp) (v5:=L) (o:=q) (r:=r) (h6:=a5) (a:=f.next+14) (b:=f.next+15) (k1:=i+1) (k2:=i+1) g5 pl om om om om om om om (by rw[Z,H.aS])
  (by rw[b8 _ om,p9.old _ om (e7 _ om),o8 _ om,←ha];exact p7.get) (by rw[b8 _ om,←hb];exact p9.get) (λk U l h3 h4=>by rw[b8 k l];exact a3 k U h3 h4)
 refine⟨n-(i+1),om,i+1,_,_,_,_,_,_,_,aB rfl,om,d3,?_,by rw[jZ,lO];rfl,by rw[jZ,lR];rfl,λj hj=>?_,rfl⟩
 ·rw[a3 B (s.wb B s.d) s.qO s.qR];exact i0
 ·by_cases e:j=i
  ·subst e
   have e1:(O++ [q]).getD j []=q:=by rw[←lO];exact kG
   have e2:(R'++ [r]).getD j []=r:=by rw[←lR];exact kG
   rw[e1,e2]
   exact g9
  ·rw[mI om,mI om]
   exact hC j om
theorem VA (h:H)(n:Nat)(a:n<=100000):Jo h 1 24 [.aE] (aC n) (aC n)=some (.sl h.next 0 n (.kn n),h.new (.cells false (rc n λ_=> .aE))):=by
 have e:cX [V.aE] n=rc n λ_=> .aE:=(Kq (by simp [cX]) λi hi=>by simp [cX,hi,Nat.mod_one]).symm
 rw[tU om (Int.le_refl _) om om,NK,uW,e]
theorem SW (n:Nat)(h:H)(hn:n<=64):Ev T 86 [aC n] h (λv h'=> ∃ρ F,Ia h.next (WB n ρ) h' n v ρ F (λ_ _=>none)/\Fr h h'):=by
 refine cV Dw rfl ?_;simp(disch:=omega)only[go_sem,Dw,aD]
 refine aH (λJ l x=> ∃(i:Nat) (u:V) (b:List Nat),(∃g:Nat->V,l= [aC n,g 1,u,aC i,g 4])/\i<=n/\b.length=i/\cY x u 1 (b.map λr=> .sl r 0 n (.kn n)) h.next/\b.Nodup/\
   (∀r∈b,h.next<=r/\r<x.next/\x.get r=some (.cells false (rc n λ_=> .aE))/\dL u r)/\Fr h x/\J=n-i) n
  ⟨0,.aE, [],aB rfl,iJ _,rfl,cY.aE _ _ _,List.nodup_nil,λr k=>absurd k List.not_mem_nil,Fr.refl h,rfl⟩ ?_
 rintro J l P ⟨i,u,b,⟨g,rfl⟩,hi,B,y,nd,k,f,rfl⟩
 by_cases q:(i:Int)<(n:Int)
 case neg=>
  have A:=bH q;obtain rfl:i=n:=om
  simp(disch:=omega)only[go_sem,A];have w: ∀j,j<i->b.getD j 0∈b:=λj d=>bD om
  refine⟨λj=>b.getD j 0,λ_ _=> .aE,⟨?_,?_,λj d=>(k _ (w j d)).2.2.1,λj d=>⟨j,d,rfl⟩,?_,?_,λa c G N e=>?_,λ_ _ _ _=>rfl⟩,f⟩
  ·have R:(rc i λj=>V.sl (b.getD j 0) 0 i (.kn i))=b.map λr=> .sl r 0 i (.kn i):=Kq (by rw[jV];exact B) λj d=>by
    rw[Ol,dD om,List.getD,dD om];rfl
   rw[R];exact y.sv
  ·cases u with
   |sl id o m c=>
    rintro⟨j,d,e⟩;exact (k _ (w j d)).2.2.2 _ _ _ _ rfl e
   |_=>trivial
  ·rintro id ⟨j,d,rfl⟩;exact (k _ (w j d)).2.1
  ·rintro id ⟨j,d,rfl⟩;exact (k _ (w j d)).1
  ·have ea:=dD (show a<b.length by omega)
   have W:=dD (show c<b.length by omega);simp only[List.getD,ea,W,Option.getD_some] at e;rcases Nat.lt_trichotomy a c with p|p|p
   ·exact absurd e (JX.1 nd a c om om p)
   ·exact p
   ·exact absurd e.symm (JX.1 nd c a om om p)
 have A:=bP q;obtain⟨S,Q⟩:=exI P.next;obtain⟨h3,e3,U,g3,o3,K⟩:=dF Q (rc n λ_=> .aE);have fn:=f.next;obtain⟨h4,O,s,f4,n4,L⟩:=Hi (v:= .sl S 0 n (.kn n)) (y.fr K) (f.trans K) (by rw[jV];omega) (bytes:=24) om;rw[jV,B,U] at O s;simp(disch:=omega)only[go_sem,A,VA P n om,Q,e3,cT _ (z:= .aE) (v:= .sl S 0 n (.kn n)) rfl rfl,U,O];rw[eJ i];have t: ∀r∈b,r<S:=λr h=>by have:=(k r h).2.1;omega
 refine⟨n-(i+1),om,i+1,_,b++ [S],aB rfl,om,by rw[jZ,B];rfl,by rw[List.map_append];exact s,List.nodup_append.2 ⟨nd,by simp,λa G c N e=>?_⟩,λr h=>?_,f4,rfl⟩
 ·have:=t a G
  simp at N;omega
 ·rcases pH.1 h with h|h
  ·obtain⟨Z,b2,b3,Y⟩:=k r h
   refine⟨Z,om,by rw[L r om Y,o3 r om];exact b3,λid o m c e=>by cases e;omega⟩
  ·simp at h
   subst h;refine⟨om,om,by rw[L _ om (λid o m c e R=>by have:=(y.in _ _ _ _ e).1;omega)];exact g3,λid o m c e=>by cases e;omega⟩
theorem afJ (Q:V)(n:Nat)(l:LN)(h:H)(n0:1<=n)(n7:n<=7)(hl:l.length<=4096)(hv:SP h Q l)(hP: ∀g∈l,bE n g):
  Ev T 30 [aC n,Q] h (λv h'=> ∃vc O R,v= .tup [vc,aC 0]/\GC (λid=>id<h.next) h' vc n O R (bX n (· ∈l))/\Fr h h'):=by
 refine cV Gq rfl ?_
 obtain⟨B,hB⟩:=exI h.next
 obtain⟨h1,e1,n1,g1,o1,f1⟩:=dF hB [aC 0,.aE,.aE]
 have d1:decide ((n:Int)<1)=false:=bH om
 have d2:decide ((64:Int)<(n:Int))=false:=bH om
 have U:=hv.lens
 rw[jV] at U
 have d3:decide ((4096:Int)<(l.length:Int))=false:=bH om
 obtain⟨id,K,ws,sh,d,a8,L,y⟩:=hv.open
 rw[jV] at sh d a8 L
 simp(disch:=omega)only[go_sem,Gq,aD,hB,e1,d1,d2,U,d3]
 refine bJ (λP r=>(∃g:Nat->V,P= [aC n,Q,.ptr B 0,g 3,g 4,g 5,g 6,g 7,g 8,g 9,g 10,g 11,g 12,g 13])/\Fr h1 r) ?_ ?_
 ·refine aH (λZ P r=> ∃(i:Nat),(∃g:Nat->V,P= [aC n,Q,.ptr B 0,g 3,aC i,g 5,g 6,g 7,g 8,g 9,g 10,g 11,g 12,g 13])/\i<=l.length/\Fr h1 r/\Z=l.length-i) l.length
   ⟨0,aB rfl,iJ _,Fr.refl h1,rfl⟩ ?_
  rintro Z p j ⟨i,⟨g,rfl⟩,hi,f,rfl⟩
  by_cases m:(i:Int)<(l.length:Int)
  ·have A:=bP m
   have a:i<l.length:=om
   have F2:=f1.trans f
   have ci:j.cell id (K+i)=some (ws.getD i .undef):=by rw[F2.cell (d om),L i a]
   have J:=Ml y a
   have X:bE n (l.getD i []):=hP _ (bD a)
   generalize ws.getD i .undef=vx at ci J
   have lx:=J.lens
   rw[aQ,X.len] at lx
   simp(disch:=omega)only[go_sem,U,A,sh.ixa,ci]
   refine (Vs vx _ j (by rw[aQ,X.len];omega) (J.mono F2)).mono ?_
   rw[EE X n0 om]
   rintro _ h3 ⟨rfl,s⟩
   have a5:h3.cell id (K+i)=some vx:=by rw[s.cell (by have:=d om;have:=F2.next;omega)];exact ci
   simp(disch:=omega)only[go_sem]
   refine aW (λL=>(L rfl).elim) (λ_=>?_)
   simp(disch:=omega)only[go_sem,sh.ixa,a5,lx]
   refine aW (λL=>(L rfl).elim) (λ_=>?_)
   simp(disch:=omega)only[go_sem]
   rw[eJ i]
   exact⟨l.length-(i+1),om,i+1,aB rfl,om,f.trans s,rfl⟩
  have A:=bH m
  simp(disch:=omega)only[go_sem,U,A]
  exact⟨aB rfl,f⟩
 rintro p j ⟨⟨g,rfl⟩,f⟩
 have F2:=f1.trans f
 have nf:=f.next
 simp(disch:=omega)only[go_sem]
 refine (SW n j om).mono ?_
 rintro N h3 ⟨ρ,F,R,s⟩
 have F3:=F2.trans s
 simp(disch:=omega)only[go_sem]
 have hL: ∀g,g∈l->bE n g:=hP
 refine bJ (λP r=> ∃(z:Nat->Nat->V) (t:rL),(∃g:Nat->V,P= [aC n,Q,.ptr B 0,g 3,g 4,g 5,N,g 7,g 8,g 9,g 10,g 11,g 12,g 13])/\Ia j.next (WB n ρ) r n N ρ z t/\Oo n (· ∈l) t/\(∀g∈l,ins t n 0 g=none)/\Fx (WB n ρ) h3 r) ?_ ?_
 ·refine aH (λZ P r=> ∃(i:Nat) (z:Nat->Nat->V) (t:rL),(∃g:Nat->V,P= [aC n,Q,.ptr B 0,g 3,g 4,g 5,N,aC i,g 8,g 9,g 10,g 11,g 12,g 13])/\i<=l.length/\Ia j.next (WB n ρ) r n N ρ z t/\Oo n (· ∈l) t/\(∀g∈l.take i,ins t n 0 g=none)/\Fx (WB n ρ) h3 r/\Z=l.length-i) l.length
   ⟨0,F,_,aB rfl,iJ _,R,⟨oK.empty n,λg Y=>by
    obtain⟨_,_,_,_,_,e⟩:=fV.1 Y
    cases e⟩,λg Y=>absurd Y List.not_mem_nil,Fx.refl _ _,rfl⟩ ?_
  rintro Z p W ⟨i,z,t,⟨g,rfl⟩,hi,R4,tl,hn,x,rfl⟩
  by_cases m:(i:Int)<(l.length:Int)
  case neg=>
   have A:=bH m;obtain rfl:i=l.length:=om
   simp(disch:=omega)only[go_sem,U,A];rw[List.take_length] at hn;exact⟨z,t,aB rfl,R4,tl,hn,x⟩
  have A:=bP m
  have a:i<l.length:=om
  have c: ∀q,WB n ρ q->j.next<=q:=R.low
  have X4:Fr h W:=F2.trans ⟨by have:=s.next;have:=x.next;omega,λq hq=>by rw[x.get q (by have:=s.next;omega) (λhw=>by have:=c q hw;omega)];exact s.get q hq⟩
  have ci:W.cell id (K+i)=some (ws.getD i .undef):=by rw[X4.cell (d om),L i a]
  have J:=Ml y a
  have X:bE n (l.getD i []):=hP _ (bD a)
  generalize ws.getD i .undef=vx at ci J
  simp(disch:=omega)only[go_sem,U,A,sh.ixa,ci]
  have px:PV (WB n ρ) W vx (l.getD i []):=by
   refine⟨J.mono X4,GL (b:=j.next) J om c⟩
  refine (Rw j.next (WB n ρ) W n N ρ z t vx _ om om R4 px X tl.tab).mono ?_
  rintro _ h5 ⟨F5,rfl,R5,f5⟩
  simp(disch:=omega)only[go_sem]
  rw[eJ i]
  obtain⟨o,k,G⟩:=tl.ins hL (x:=l.getD i []) (bX.of hL (bD a))
  refine⟨l.length-(i+1),om,i+1,F5,_,aB rfl,om,R5,o,λu hu=>?_,x.trans f5 (λ_ _ h=>h),rfl⟩
  rcases (Ds a).1 hu with hu|rfl
  ·exact Fg k _ _ _ (hn u hu)
  ·exact G
 clear g
 rintro p W ⟨z,t,⟨g,rfl⟩,R4,tl,hn,x⟩
 have x3:=x.next
 have n3:=s.next
 simp(disch:=omega)only[go_sem]
 refine (RJ j.next (WB n ρ) W n N ρ z t (· ∈l) n7 n0 om R4 hL tl).mono ?_
 rintro _ h5 ⟨W5,F5,t5,R5,o,k,a3,x5,b0⟩
 have n5:=x5.next
 have tw:=EM o.tab a3
 simp(disch:=omega)only[go_sem]
 refine (MD j.next W5 h5 n N ρ F5 t5 om n0 R5 o.tab tw).mono ?_
 rintro vc h6 ⟨O,R',ch,a4,f6⟩
 have n6:=f6.next
 have c: ∀q,WB n ρ q->j.next<=q:=R.low
 have a0:Fr j h5:=⟨om,λq hq=>by
  rw[x5.get q om (λhw=>by have:=c q hw;omega),x.get q om (λhw=>by have:=c q hw;omega)]
  exact s.get q hq⟩
 have F6:=(F2.trans a0).trans f6
 have a6:=a0.trans f6
 have g6:h6.get B=some (.cells false [aC 0,.aE,.aE]):=by rw[a6.get B om,f.get B om];exact g1
 have a7:=ch
 obtain⟨vO,vR,a9,b2,e,t1,_,_,t2,_,_⟩:=ch
 subst e
 have a2:=t1.cK.2.1
 have a1:=t2.cK.2.1
 obtain⟨h7,e7,b1,g7,o7⟩:=pJ h6 B [aC n,vO,vR]
 have r7:=aI g7
 simp(disch:=omega)only[go_sem,bW h6 B 0 (v:= aC n) (u:=vO) (w:=vR) rfl a2 a1,g6,cF,e7,r7]
 have f7:Fx (λid=>id<h5.next) h6 h7:=⟨om,λid _ d=>o7 id om⟩
 refine⟨_,O,R',rfl,⟨a7.go f7 (λid _ h=>om),a4.congr (o.group hL n0 a3 λg Y=>Fg k _ _ _ (hn g Y)),bX.dN hP,n0,n7⟩,⟨by have:=F6.next;omega,λid d=>by rw[o7 id om];exact F6.get id d⟩⟩
section
variable {h:H} {v:V} {n:Nat} {l:List Nat}
theorem lN (x:Nat)(l:List Int)(n:Int)(h:H)(ht:Tk h x l)(hl:l.length<9223372036854775808)(hn:1<=n)(A:n<1000000000):
  Ev T 43 [.ptr x 0,aC n] h (λv h'=> ∃z,v= aC z/\0<=z/\z<n/\Tk h' x l/\AU x h h'):=by
 obtain⟨c,a,r,o,b,N,hx⟩:=ht
 refine cV vM rfl ?_
 have G:h.cell x 0=some c:=by rw[H.aF r];rfl
 have s:h.cell x 1=some (aC a):=by rw[H.aF r];rfl
 have u:dE c c=true:=SV.dE o
 obtain⟨id,t,k,B,hc⟩:=o.open
 simp (disch:=first|omega|(simp only[Qn];(try omega);done)|fail) only[go_sem,vM,aD,G,s,o.lens,u]
 by_cases p:(l.length:Int)<=(a:Int)
 ·rw[bP p]
  simp (disch:=first|omega|(simp only[Qn];(try omega);done)|fail) only[go_sem]
  exact⟨0,rfl,om,om,⟨c,a,r,o.mono ((Fr.refl h).bA om),b,N,by show x<h.next+14;omega⟩,AU.of ((Fr.refl h).bA om)⟩
 ·rw[bH p]
  simp (disch:=first|omega|(simp only[Qn];(try omega);done)|fail) only[go_sem]
  rw[bH (show ¬n<1 by omega)]
  simp (disch:=first|omega|(simp only[Qn];(try omega);done)|fail) only[go_sem,s,r]
  have L:id≠x:=by
   intro e;have:=k.ixa .i64 0 om om;rcases o with ⟨_,w⟩|⟨i,K,d,f,_,_,rfl,_⟩
   ·have:(ints l).length=0:=by rw[w];rfl
    rw[aP] at this;omega
   ·have a0:d=l.length:=Option.some.inj k.len
    rw[Lg om om] at this;simp only[Option.some.injEq,V.ptr.injEq] at this;have:=b _ _ _ _ rfl;omega
  have c0:h.cell id (t+a)=some (aC (l.getD a 0)):=hc a om
  have Y:((a:Int)+1- 1).toNat=a:=om
  simp (disch:=first|omega|(simp only[Qn];(try omega);done)|fail) only[go_sem,G,s,r,k.ixa,c0,u,Y]
  have y: ∀m,(H.mk ((H.mk h.tr (h.next+14)).set x (some (.cells false [c,aC ((a:Int)+1)]))).tr m).get x=some (.cells false [c,aC ((a:Int)+1)]):=λm=>H.aS ..
  have q:AU x h (H.mk ((H.mk h.tr (h.next+14)).set x (some (.cells false [c,aC ((a:Int)+1)]))).tr (h.next+14+14)):=⟨by show h.next<=h.next+14+14;omega,λid B b=>H.aG _ b _⟩
  have Z:(H.mk ((H.mk h.tr (h.next+14)).set x (some (.cells false [c,aC ((a:Int)+1)]))).tr (h.next+14+14)).next=h.next+14+14:=rfl
  have j:=y (h.next+14+14)
  generalize H.mk ((H.mk h.tr (h.next+14)).set x (some (.cells false [c,aC ((a:Int)+1)]))).tr (h.next+14+14)=h2 at*
  refine (akK (l.getD a 0) n h2 om A).mono ?_
  rintro v F ⟨rfl,rfl⟩
  have O:F.cell x 0=some c:=by rw[H.aF j];rfl
  have P:F.cell x 1=some (aC ((a:Int)+1)):=by rw[H.aF j];rfl
  simp (disch:=first|omega|(simp only[Qn];(try omega);done)|fail) only[go_sem,O,P,u]
  have J:=akU (l.getD a 0) (show 0<n by omega)
  refine⟨_,rfl,J.1,J.2,⟨c,a+1,?_,?_,b,om,om⟩,q⟩
  ·rw[j];simp
  ·rcases o with w|⟨i,K,d,f,U,vs,rfl,W,q3,Q,q5,R⟩
   ·exact .inl w
   ·exact .inr ⟨i,K,d,f,U,vs,rfl,W,om,(q.get i q3 (λe=>by have:=b _ _ _ _ rfl;omega)).trans Q,q5,R⟩
theorem ajK (n:Nat)(h:H)(J:n<=1000):
  Ev T 91 [aC n] h (λv h'=>cY h' v 1 (ints (zi (bL n))) h.next/\Fr h h'):=by
 refine cV Qz rfl ?_
 simp (disch:=first|omega|(simp only[Qn];(try omega);done)|fail) only[go_sem,Qz,aD]
 refine aH (λw b x=> ∃(i:Nat) (o:V),(∃j:Nat->V,b= [aC n,j 1,o,aC i,j 4])/\i<=n/\cY x o 1 (ints (zi ((bL n).take i))) h.next/\Fr h x/\w=n-i) n
  ⟨0,.aE,aB rfl,iJ _,cY.aE _ _ _,Fr.refl h,rfl⟩ ?_
 rintro w b a ⟨i,o,⟨N,rfl⟩,hi,s,F,rfl⟩
 simp (disch:=first|omega|(simp only[Qn];(try omega);done)|fail) only[go_sem]
 by_cases d:(i:Int)<(n:Int)
 ·rw[bP d]
  have r:i<n:=om
  simp (disch:=first|omega|(simp only[Qn];(try omega);done)|fail) only[go_sem,Us]
  have c:Fr a (a.new (.cells false (ints [(i:Int)]))):=(Fr.refl a).new _
  have f:(a.new (.cells false (ints [(i:Int)]))).get a.next=some (.cells false (ints [(i:Int)])):=H.aL ..
  have u:(a.new (.cells false (ints [(i:Int)]))).next=a.next+1:=H.aU ..
  generalize a.new (.cells false (ints [(i:Int)]))=t at*
  have y:SV t (.sl a.next 0 1 (.kn 1)) 1 (ints [(i:Int)]):=SV.all rfl om f _
  have K:=F.next
  have L:=jG n
  obtain⟨A,G,q,k⟩:=(s.fr c).app (bytes:=8) (n:=i) (m:=1) om y (by rw[aP,aQ,Fj,uW];omega) rfl om om
  simp (disch:=first|omega|(simp only[Qn];(try omega);done)|fail) only[go_sem,q]
  have p:=k.own
  have z:=fQ r
  have B:zi ((bL n).take i)++ [(i:Int)]=zi ((bL n).take (i+1)):=by rw[Tg om,We,z]
  rw[←uT,B] at p
  rw[eJ i]
  exact⟨n-(i+1),om,i+1,A,aB rfl,om,p,k.fr h (F.trans c) (fM _),rfl⟩
 rw[bH d]
 obtain rfl:i=n:=om
 simp (disch:=first|omega|(simp only[Qn];(try omega);done)|fail) only[go_sem]
 rw[Tn (by rw[jG];omega)] at s
 exact⟨s,F⟩
structure Mp (h:H)(v:V)(n id:Nat)(l:List Nat):Prop where
 ex: ∃cap rest,v= .sl id 0 n cap/\id<h.next/\h.get id=some (.cells false (ints (zi l)++rest))
 cU:bE n l
theorem Mp.of {b:Nat}(k:0<n)(X:bE n l)(o:cY h v 1 (ints (zi l)) b): ∃id,Mp h v n id l/\b<=id:=by
 rcases o with ⟨_,e⟩|⟨id,m,c,a,rfl,d,p,f,i,j⟩
 ·have:=congrArg List.length e
  rw[aP,aQ,List.length_nil,X.len] at this;omega
 ·rw[aP,aQ,uW,X.len] at d
  subst d;exact⟨id,⟨⟨c,a,rfl,i,j⟩,X⟩,f⟩
theorem Mp.si {id:Nat}(m:Mp h v n id l):SI h v (zi l):=by
 obtain⟨⟨a,b,rfl,d,c⟩,X⟩:=m;refine .inr ⟨id,0,n,a,false,_,rfl,by rw[aP,aQ,X.len,uW],d,c,by rw[jZ,aP,aQ,X.len];omega,?_⟩;rw[List.drop_zero,uW,List.take_left' (by rw[aP,aQ,X.len])]
theorem Mp.mono {h':H}{id:Nat}(m:Mp h v n id l)(i:h.next<=h'.next)(f:h'.get id=h.get id):Mp h' v n id l:=by
 obtain⟨⟨b,a,c,j,d⟩,X⟩:=m;exact⟨⟨b,a,c,om,by rw[f];exact d⟩,X⟩
theorem akN {rest:List V}{i:Nat}(hi:i<l.length)(x:Nat):(ints (zi l)++rest).set i (aC x)=ints (zi (l.set i x))++rest:=by
 rw[List.set_append_left _ _ (by rw[aP,aQ];exact hi)];congr 1;simp [ints,zi,List.map_set]
def amT (n a b:Nat):List Nat:=(List.range n).map λj=>if j=b- 1 then a else if a<=j/\j<b then j+1 else j
theorem ajD {f:Nat->Nat}{j:Nat}(a:j<n):((List.range n).map f).getD j 0=f j:=by simp [List.getD,a]
theorem amO {a b:Nat}(d:a<b)(h2:b<=n):bE n (amT n a b):=by
 unfold amT;refine bE.TW (by simp) (λi hi=>?_) (λi j hi c h=>?_)
 ·rw[ajD hi]
  split
  ·omega
  ·split<;>omega
 ·rw[ajD hi,ajD c] at h
  split at h<;>split at h<;>(try split at h)<;>(try split at h)<;>omega
theorem amI (f:Nat->Nat):(rc n λj=>aC (f j:Nat))=ints (zi ((List.range n).map f)):=by
 have e:=Zu ((List.range n).map f);rw[jV,NM] at e;rw[←e];exact dB λj a=>by rw[ajD a]
theorem akS (h:H)(v:V)(n id a b:Nat)(P:n<=64)(m:Mp h v n id (bL n))(G:a<b)(h2:b<=n):
  Ev T 92 [v,aC a,aC b] h (λw h'=>w=v/\Mp h' v n id (amT n a b)/\AU id h h'):=by
 refine cV aiW rfl ?_
 obtain⟨⟨f,c,rfl,y,B⟩,_⟩:=m
 have O:ints (zi (bL n))=rc n λj=> aC (((if a<=j/\j<a then j+1 else j:Nat)):Int):=by
  rw[amI];congr 2;refine (yC (by simp [bL]) λi hi=>?_).symm;rw[jV,NM] at hi;rw[ajD hi,fQ hi,bI om]
 rw[O] at B
 simp (disch:=first|omega|(simp only[Qn];(try omega);done)|fail) only[go_sem,aiW,aD]
 refine bJ (λvs q=>(∃g:Nat->V,vs= [.sl id 0 n f,aC a,aC b,g 3,g 4,g 5])/\q.get id=some (.cells false ((rc n λj=> aC (((if a<=j/\j<b then j+1 else j:Nat)):Int))++c))/\AU id h q) ?_ ?_
 ·refine aH (λF d q=> ∃(i:Nat),(∃g:Nat->V,d= [.sl id 0 n f,aC a,aC b,g 3,aC i,g 5])/\a<=i/\i<=b/\q.get id=some (.cells false ((rc n λj=> aC (((if a<=j/\j<i then j+1 else j:Nat)):Int))++c))/\AU id h q/\F=b-i) (b-a)
   ⟨a,aB rfl,fM _,om,B,AU.refl _ _,rfl⟩ ?_
  rintro F d t ⟨i,⟨g,rfl⟩,K,J,r,p,rfl⟩
  by_cases k:(i:Int)<(b:Int)
  case neg=>
   have x:=bH k;obtain rfl:i=b:=om
   simp (disch:=first|omega|(simp only[Qn];(try omega);done)|fail) only[go_sem,x];exact⟨aB rfl,r,p⟩
  have x:=bP k
  have A:i<n:=om
  have z:decide ((i:Int)<0)=false:=bH om
  have s:decide ((n:Int)<=(i:Int))=false:=bH om
  have o:=bN (vs:=(rc n λj=> aC (((if a<=j/\j<i then j+1 else j:Nat)):Int))++c) (off:=i) (by rw[jZ,kH];omega) t id (aC ((i:Int)+1))
  rw[List.set_append_left _ _ (by rw[kH];exact A),mS] at o
  simp (disch:=first|omega|(simp only[Qn];(try omega);done)|fail) only[go_sem,x,z,s,r,o]
  rw[eJ i]
  refine⟨b-(i+1),om,i+1,aB rfl,om,om,?_,p.set _,rfl⟩
  congr 3
  refine dB λj L=>?_
  by_cases e:j=i
  ·rw[bF e,bF ⟨om,om⟩,e]
  ·rw[bI e]
   by_cases u:a<=j/\j<i
   ·rw[bF u,bF ⟨u.1,om⟩]
   ·rw[bI u,bI om]
 rintro d t ⟨⟨g,rfl⟩,r,p⟩
 have N:(b:Int)- 1=((b- 1:Nat):Int):=om
 have z:decide (((b- 1:Nat):Int)<0)=false:=bH om
 have s:decide ((n:Int)<=((b- 1:Nat):Int))=false:=bH om
 have o:=bN (vs:=(rc n λj=> aC (((if a<=j/\j<b then j+1 else j:Nat)):Int))++c) (off:=b- 1) (by rw[jZ,kH];omega) t id (aC a)
 rw[List.set_append_left _ _ (by rw[kH];omega),mS] at o
 simp (disch:=first|omega|(simp only[Qn];(try omega);done)|fail) only[go_sem,N,z,s,r,o]
 refine⟨⟨⟨f,c,rfl,iW y p.next,?_⟩,amO G h2⟩,p.set _⟩
 rw[H.aS]
 congr 3
 unfold amT
 rw[←amI]
 refine dB λj L=>?_
 by_cases e:j=b- 1
 ·rw[bF e,bF e]
 ·rw[bI e,bI e]
def alK (l:List Nat)(i k:Nat):List Nat:=(l.set i (l.getD k 0)).set k (l.getD i 0)
theorem amL (X:bE n l){i k:Nat}(hi:i<n)(b:k<n):bE n (alK l i k):=by
 have p:=X.len
 have at': ∀j,j<n->(alK l i k).getD j 0=if j=k then l.getD i 0 else if j=i then l.getD k 0 else l.getD j 0:=λj o=>by
  unfold alK;rw[cJ (by simp;omega),List.getElem_set]
  by_cases e:k=j
  ·rw[bF e,bF e.symm]
  ·rw[bI e,bI (Ne.symm e),List.getElem_set]
   by_cases m:i=j
   ·rw[bF m,bF m.symm]
   ·rw[bI m,bI (Ne.symm m)];exact (cJ om).symm
 refine bE.TW (by unfold alK;simp [p]) (λj o=>?_) (λa c d f h=>?_)
 ·rw[at' j o]
  split
  ·exact X.iN hi
  ·split
   ·exact X.iN b
   ·exact X.iN o
 ·rw[at' a d,at' c f] at h
  split at h<;>split at h<;>(try split at h)<;>(try split at h)
  all_goals first
   |omega
   |(have:=X.inj hi hi h;omega)
   |(have:=X.inj hi b h;omega)
   |(have:=X.inj b hi h;omega)
   |(have:=X.inj hi f h;omega)
   |(have:=X.inj d hi h;omega)
   |(have:=X.inj b b h;omega)
   |(have:=X.inj b f h;omega)
   |(have:=X.inj d b h;omega)
   |(have:=X.inj d f h;omega)
theorem amM (x:Nat)(l:List Int)(n:Nat)(h:H)(hn:n<=64)(n0:0<n)(ht:Tk h x l)(hl:l.length<9223372036854775808):
  Ev T 44 [.ptr x 0,aC n] h (λv h'=> ∃id q,Mp h' v n id q/\h.next<=id/\Tk h' x l/\AU x h h'):=by
 refine cV ajL rfl ?_
 simp (disch:=first|omega|(simp only[Qn];(try omega);done)|fail) only[go_sem,ajL,aD]
 refine (ajK n h om).mono ?_
 rintro v h1 ⟨o1,f1⟩
 obtain⟨id,m1,N⟩:=Mp.of n0 (bE.one n) o1
 have P:=m1
 obtain⟨⟨o,B,rfl,_,_⟩,_⟩:=P
 have a5:x<h.next:=by obtain⟨_,_,_,_,_,_,hx⟩:=ht;exact hx
 have R:id≠x:=om
 simp (disch:=first|omega|(simp only[Qn];(try omega);done)|fail) only[go_sem]
 refine aH (λU m b=> ∃(i:Nat) (q:List Nat),(∃g:Nat->V,m= [.ptr x 0,aC n,g 2,.sl id 0 n o,aC i,g 5,g 6])/\i<n/\Mp b (.sl id 0 n o) n id q/\Tk b x l/\AU x h b/\U=n-i) n
  ⟨0,bL n,aB rfl,n0,m1,ht.mono f1,AU.of f1,rfl⟩ ?_
 rintro U m h2 ⟨i,q,⟨g,rfl⟩,hi,G,W,f2,rfl⟩
 by_cases t:(i:Int)+1<(n:Int)
 case neg=>
  have F:=bH t;simp (disch:=first|omega|(simp only[Qn];(try omega);done)|fail) only[go_sem,F];exact⟨id,q,G,N,W,f2⟩
 have F:=bP t
 simp (disch:=first|omega|(simp only[Qn];(try omega);done)|fail) only[go_sem,F]
 refine (lN x l ((n:Int)-(i:Int)) h2 W hl om om).mono ?_
 rintro _ s ⟨z,rfl,a7,a6,t3,J⟩
 obtain⟨c,rfl⟩: ∃c:Nat,z=(c:Int):=⟨z.toNat,om⟩
 obtain⟨k,hk⟩: ∃k,k=i+c:=⟨_,rfl⟩
 have ek:(i:Int)+(c:Int)=(k:Int):=om
 have r:k<n:=om
 have m3:=G.mono J.next (J.get id (by obtain⟨⟨_,_,_,h5,_⟩,_⟩:=G;exact h5) R)
 obtain⟨⟨Y,a,e,a0,L⟩,Q⟩:=m3
 cases e
 have A:=Q.len
 have cell: ∀b:H,∀d:List Nat,d.length=n->b.get id=some (.cells false (ints (zi d)++a))-> ∀j,j<n->b.cell id j=some (aC (d.getD j 0:Nat)):=λb d O hg j p=>by
  rw[H.aF hg,Dv (by rw[aP,aQ];omega),Ip om]
 have ci:=cell s q A L i hi
 have ck:=cell s q A L k r
 have a1:decide ((i:Int)<0)=false:=bH om
 have a2:decide ((n:Int)<=(i:Int))=false:=bH om
 have a3:decide ((k:Int)<0)=false:=bH om
 have a4:decide ((n:Int)<=(k:Int))=false:=bH om
 have pt: ∀(b:H) (d:List Nat) (j y:Nat),d.length=n->j<n->dX (some (.cells false (ints (zi d)++a))) b id j [aC y]=some (b.set id (some (.cells false (ints (zi (d.set j y))++a)))):=λb d j y O p=>by
  rw[bN (by rw[jZ,aP,aQ];omega),akN om]
 simp (disch:=first|omega|(simp only[Qn];(try omega);done)|fail) only[go_sem,ek]
 simp (disch:=first|omega|(simp only[Qn];(try omega);done)|fail) only[go_sem,a1,a2,a3,a4,ci,ck,L,pt _ q i (q.getD k 0) A hi,pt _ (q.set i (q.getD k 0)) k (q.getD i 0) (by simp [A]) r]
 rw[eJ i]
 obtain⟨w,f⟩: ∃w:H,w=((H.mk s.tr (s.next+16)).set id (some (.cells false (ints (zi (q.set i (q.getD k 0)))++a)))).set id (some (.cells false (ints (zi ((q.set i (q.getD k 0)).set k (q.getD i 0)))++a))):=⟨_,rfl⟩
 rw[←f]
 have n4:w.next=s.next+16:=by rw[f];rfl
 have Z: ∀j,j≠id->w.get j=s.get j:=λj p=>by rw[f,H.aG _ p,H.aG _ p];rfl
 have g4:w.get id=some (.cells false (ints (zi (alK q i k))++a)):=by rw[f,H.aS];rfl
 refine⟨n-(i+1),om,i+1,alK q i k,aB rfl,om,⟨⟨o,a,rfl,om,g4⟩,amL Q hi r⟩,t3.low om (λj p=>Z j om),?_,rfl⟩
 have u:=f2.trans J
 have:=u.next
 exact⟨om,λj p K=>by rw[Z j om];exact u.get j p K⟩
end
theorem amH (h:H){v u:V}(a:v.one=true)(b:u.one=true):Cv h (.agg [v,u])=some (.ptr h.next 0,h.new (.cells false [v,u])):=tL h _ (by simp [a,b])
theorem amP {x y:V}(h:H)(id:Nat)(u:V):dX (aZ [x,y]) h id 1 [u]=some (h.set id (aZ [x,u])):=by
 simp [dX,putAt]
theorem alI {v z w:V}(b:v.cells= [v])(c:v.one=true):rO [z,w] [(0,1,v)]=some (.agg [v,w]):=by
 have a:putAt [z,w] 0 [v]=some [v,w]:=by simp [putAt]
 simp [rO,iS,a,b,c]
theorem AU.cell {x:Nat}{a c:H}(f:AU x a c){id off:Nat}(b:id<a.next)(h2:id≠x):c.cell id off=a.cell id off:=by unfold H.cell;rw[f.get id b h2]
structure GJ (h hh:H)(T0 C D n:Nat)(l:List Int)(gens:LN):Prop where
 ex: ∃vg ws,hh.get C=aZ [aC n,vg]/\cY hh vg 1 ws (C+1)/\fW (λid=>id<=C∨ ∃off m c,vg= .sl id off m c) hh ws gens
 tk:Tk hh T0 l
 gD:hh.get D=aZ [aC 0,.aE]
 cU: ∀g∈gens,bE n g
 nx:C<hh.next
 fr:Fr h hh
theorem akY (vl:V)(l:List Int)(s:Nat)(h:H)(hv:SI h vl l)(hl:l.length<9223372036854775808)(m1:1<=s)(m2:s<=60):
  Ev T 32 [vl,aC s] h (λv h'=> ∃(n:Nat) (vg:V) (gens:LN),v= .agg [aC n,vg]/\1<=n/\n<=s/\gens.length<=3/\(∀g∈gens,bE n g)/\SP h' vg gens/\Fr h h'):=by
 refine cV BP rfl ?_
 obtain⟨D,hD⟩:=exI h.next
 obtain⟨h1,e1,n1,g1,o1,f1⟩:=dF hD [aC 0,.aE]
 obtain⟨h2,e2,n2,g2,o2,f2⟩:=dF n1 [vl,aC 0]
 have wl:=SV.cK hv
 simp(disch:=omega)only[go_sem,BP,aD,hD,e1,alI wl.1 wl.2.1,amH h1 (v:=vl) (u:= aC 0) wl.2.1 rfl,n1,e2]
 have k6:Tk h2 (D+1) l:=⟨vl,0,g2,hv.mono (f1.trans f2),λid d len c e=>by have:=SV.in hv _ _ _ _ e;omega,iJ _,om⟩
 refine (lN (D+1) l s h2 k6 hl om om).mono ?_
 rintro _ h3 ⟨z,rfl,p6,p0,k3,f3⟩
 obtain⟨n,hn⟩: ∃n:Nat,1+z=(n:Int):=⟨(1+z).toNat,om⟩
 have n3:=f3.next
 obtain⟨C,hC⟩:=exI h3.next
 obtain⟨h4,e4,n4,g4,o4,f4⟩:=dF hC [aC 0,.aE]
 obtain⟨h5,e5,n5,g5,o5⟩:=pJ h4 C [aC n,.aE]
 simp(disch:=omega)only[go_sem,hn,hC,e4,alI (v:= aC n) (z:= aC 0) (w:= .aE) rfl rfl,Gv h4 C 0 (v:= aC n) (u:= .aE) rfl rfl,g4,TJ,e5]
 have m5:Tk h5 (D+1) l:=k3.low om (λid o=>by rw[o5 id om,o4 id om])
 refine (lN (D+1) l 4 h5 m5 hl om om).mono ?_
 rintro _ h6 ⟨z2,rfl,p1,o3,l0,f6⟩
 obtain⟨K,rfl⟩: ∃K:Nat,z2=(K:Int):=⟨z2.toNat,om⟩
 have n6:=f6.next
 simp(disch:=omega)only[go_sem]
 refine aH (λk' b3 hh=> ∃(k:Nat) (gens:LN),(∃g:Nat->V,b3= [vl,aC s,.ptr D 0,.ptr (D+1) 0,.ptr C 0,aC k,g 6,g 7,g 8,g 9,g 10])/\gens.length+k<=3/\GJ h hh (D+1) C D n l gens/\k'=k) K
  ⟨K, [],aB rfl,by simp;omega,⟨⟨.aE, [],by rw[f6.get C om om];exact g5,cY.aE _ _ _,trivial⟩,l0,?_,λg hg=>absurd hg List.not_mem_nil,om,?_⟩,rfl⟩ ?_
 ·rw[f6.get D om om,o5 D om,o4 D om,f3.get D om om,o2 D om];exact g1
 ·refine⟨om,λid o=>?_⟩
  rw[f6.get id om om,o5 id om,o4 id om,f3.get id om om,o2 id om,o1 id om]
 rintro k' b3 Z ⟨k,gens,⟨g,rfl⟩,hk,J,rfl⟩
 have cn:Z.cell C 0=some (aC n):=by
  obtain⟨⟨vg,ws,gC,_⟩,_⟩:=J;rw[H.aF gC];rfl
 by_cases j3:(0:Int)<(k':Int)
 case neg=>
  have d1:=bH j3;obtain⟨⟨vg,ws,gC,ow,c0⟩,tk,gD,cU,nx,fr⟩:=J;have rC:=PB gC;obtain⟨B,e8,n8,g8,o8⟩:=pJ Z D [aC n,vg];have r8:=PB g8;have wg:=SV.cK ow.sv;simp(disch:=omega)only[go_sem,d1,rC,Gv Z D 0 (v:= aC n) (u:=vg) rfl wg.2.1,gD,TJ,e8,r8]
  have x8:Fx (λid=>id<=C∨ ∃d m c,vg= .sl id d m c) Z B:=⟨om,λid _ Y=>o8 id (λe=>Y (.inl om))⟩
  have m7:SV B vg 1 ws:=(ow.zA (h':=B) om (λid d m c e o=>by have:=(ow.in _ _ _ _ e).2.1;exact o8 id om)).sv;refine⟨n,vg,gens,rfl,om,om,om,cU,⟨ws,m7,?_⟩,⟨by have:=fr.next;omega,λid o=>by rw[o8 id om];exact fr.get id o⟩⟩;have c9:=fW.fx c0 x8;have m8:=aM.length c9
  exact aM.mQ (by simpa using m8) λi hi hj=>by
   have:=(aM.get c9 i hi om).si;simpa using this
 have d1:=bP j3
 have nx:=J.nx
 have e0:0<n:=om
 have b2:n<=64:=om
 simp(disch:=omega)only[go_sem,d1,cn]
 refine (ajK n Z om).mono ?_
 rintro G B ⟨o6,f8⟩
 obtain⟨r,d9,j0⟩:=Mp.of e0 (bE.one n) o6
 simp(disch:=omega)only[go_sem]
 refine (lN (D+1) l 3 B (J.tk.mono f8) hl om om).mono ?_
 rintro _ h9 ⟨z3,rfl,_,_,e6,f9⟩
 have F:AU (D+1) Z h9:=(AU.of f8).trans f9
 have g6:Mp h9 G n r (bL n):=d9.mono f9.next (f9.get r (by obtain⟨⟨_,_,_,h5,_⟩,_⟩:=d9;exact h5) om)
 have p: ∀hh,AU (D+1) Z hh->hh.cell C 0=some (aC n):=λhh f=>by rw[f.cell nx om];exact cn
 simp(disch:=omega)only[go_sem]
 refine jT (λvs hh=> ∃(G:V) (x:List Nat),(∃g:Nat->V,vs= [vl,aC s,.ptr D 0,.ptr (D+1) 0,.ptr C 0,aC (k':Int),G,g 7,g 8,g 9,g 10])/\SI hh G (zi x)/\bE n x/\(∀id d len N,G= .sl id d len N->Z.next<=id)/\Tk hh (D+1) l/\AU (D+1) Z hh) ?_ ?_
 ·refine aW (λ_=>?_) (λ_=>?_)
  ·simp(disch:=omega)only[go_sem,p h9 F]
   refine (amM (D+1) l n h9 b2 e0 e6 hl).mono ?_
   rintro w W ⟨id,q,mp,o,a3,c1⟩
   have n9:=F.next
   simp(disch:=omega)only[go_sem]
   refine .inl ⟨w,q,aB rfl,mp.si,mp.cU,λf7 d len N e=>?_,a3,F.trans c1⟩
   obtain⟨⟨_,_,e2,_⟩,_⟩:=mp
   rw[e2] at e;cases e;omega
  ·simp(disch:=omega)only[go_sem,p h9 F]
   refine (lN (D+1) l n h9 e6 hl om om).mono ?_
   rintro _ W ⟨z4,rfl,a4,b4,a3,c1⟩
   obtain⟨a,rfl⟩: ∃a:Nat,z4=(a:Int):=⟨z4.toNat,om⟩
   have d3:=F.trans c1
   simp(disch:=omega)only[go_sem,p W d3]
   refine (lN (D+1) l ((n:Int)-(a:Int)) W a3 hl om om).mono ?_
   rintro _ a0 ⟨z5,rfl,a5,b5,i1,j7⟩
   obtain⟨c,rfl⟩: ∃c:Nat,z5=(c:Int):=⟨z5.toNat,om⟩
   have n7:=d3.trans j7
   have P:=c1.trans j7
   have l9:r<h9.next:=by obtain⟨⟨_,_,_,h5,_⟩,_⟩:=g6;exact h5
   have k0:Mp a0 G n r (bL n):=g6.mono P.next (P.get r l9 om)
   have eb:(a:Int)+1+(c:Int)=((a+1+c:Nat):Int):=om
   simp(disch:=omega)only[go_sem,eb]
   refine (akS a0 G n r a (a+1+c) b2 k0 om om).mono ?_
   rintro w b0 ⟨Y,i7,g3⟩
   have m0:=Y.symm
   subst m0
   have n8:=F.next
   have n9:=P.next
   have l1:=g3.next
   have d6:AU (D+1) Z b0:=⟨om,λid o c4=>by rw[g3.get id om om,P.get id om c4];exact F.get id o c4⟩
   have k2:Tk b0 (D+1) l:=i1.low l1 (λid o=>g3.get id om om)
   have j9:r<b0.next:=om
   simp(disch:=omega)only[go_sem,p b0 d6]
   refine (lN (D+1) l n b0 k2 hl om om).mono ?_
   rintro _ l5 ⟨z6,rfl,a6,b6,j4,i2⟩
   obtain⟨a2,rfl⟩: ∃a:Nat,z6=(a:Int):=⟨z6.toNat,om⟩
   simp(disch:=omega)only[go_sem]
   refine (lN (D+1) l 2 l5 j4 hl om om).mono ?_
   rintro _ y ⟨z7,rfl,a7,b7,d4,i3⟩
   have R:=(d6.trans i2).trans i3
   have O:=i2.trans i3
   have o7:=O.next
   have A:Mp y G n r _:=i7.mono O.next (O.get r j9 om)
   have g0: ∀id d len N,G= .sl id d len N->Z.next<=id:=λf7 d len N e=>by
    obtain⟨⟨_,_,e2,_⟩,_⟩:=A;rw[e2] at e;cases e;omega
   simp(disch:=omega)only[go_sem]
   refine aW (λhz=>?_) (λhz=>?_)
   ·have i4:=SV.dE A.si
    simp(disch:=omega)only[go_sem,p y R]
    have fb:Fr y (H.mk y.tr (y.next+17)):=(Fr.refl y).bA om
    refine (ajK n _ om).mono ?_
    rintro w f0 ⟨ow,j5⟩
    obtain⟨c7,d2,i8⟩:=Mp.of e0 (bE.one n) ow
    have l2:=j5.next
    have hb:(H.mk y.tr (y.next+17)).next=y.next+17:=rfl
    rw[hb] at i8 l2
    have L:=fb.trans j5
    have d0:=R.trans (AU.of L)
    have e7:c7<f0.next:=by obtain⟨⟨_,_,_,h5,_⟩,_⟩:=d2;exact h5
    simp(disch:=omega)only[go_sem,p f0 d0]
    refine (lN (D+1) l ((n:Int)-(a2:Int)) f0 (d4.mono L) hl om om).mono ?_
    rintro _ f5 ⟨z8,rfl,a8,b8,j1,b9⟩
    obtain⟨c2,rfl⟩: ∃c:Nat,z8=(c:Int):=⟨z8.toNat,om⟩
    have Q:=d0.trans b9
    have p4:=b9.next
    have n0:=R.next
    have h0:Mp f5 w n c7 (bL n):=d2.mono b9.next (b9.get c7 e7 om)
    have k8:(a2:Int)+1+(c2:Int)=((a2+1+c2:Nat):Int):=om
    simp(disch:=omega)only[go_sem,p f5 Q,k8]
    refine (akS f5 w n c7 a2 (a2+1+c2) b2 h0 om om).mono ?_
    rintro w' a1 ⟨l8,b1,c5⟩
    have k1:=l8.symm
    subst k1
    have k9:=c5.next
    have a9:AU (D+1) Z a1:=⟨by have:=Q.next;omega,λid o c4=>by rw[c5.get id (by have:=Q.next;omega) om];exact Q.get id o c4⟩
    have g7:Tk a1 (D+1) l:=j1.low k9 (λid o=>c5.get id om om)
    have i9:r<y.next:=by obtain⟨⟨_,_,_,h5,_⟩,_⟩:=A;exact h5
    have t:Mp a1 G n r _:=A.mono om (by rw[c5.get r om om,b9.get r om om,L.get r i9])
    simp(disch:=omega)only[go_sem,p a1 a9,i4]
    refine (Lj G w _ _ a1 (by rw[t.cU.len];omega) t.si b1.si (λj hj=>by rw[b1.cU.len];exact t.cU.iN (by rw[←t.cU.len];exact hj))).mono ?_
    rintro v m4 ⟨k7,j6,l7⟩
    have d7:=a9.trans (AU.of j6)
    simp(disch:=omega)only[go_sem,p m4 d7,i4]
    exact .inl ⟨v,_,aB rfl,k7,t.cU.mul b1.cU,λid d len N e=>by have:=l7 _ _ _ _ e;have:=a9.next;omega,g7.mono j6,d7⟩
   ·simp(disch:=omega)only[go_sem]
    exact .inl ⟨G,_,aB rfl,A.si,A.cU,g0,d4,R⟩
 clear d9 g6 o6 f8 e6 F G B h9 f9 j0
 rintro b3 B ⟨G,x,⟨g,rfl⟩,sx,X,g0,l6,f8⟩
 obtain⟨⟨vg,ws,gC,ow,c0⟩,_,gD,cU,_,fr⟩:=J
 have n8:=f8.next
 have U:=λid d m c (e:vg=V.sl id d m c)=>ow.in id d m c e
 have o0:=aM.length c0
 have j2:B.get C=aZ [aC n,vg]:=by rw[f8.get C nx om];exact gC
 have c8:B.cell C 1=some vg:=by rw[H.aF j2];rfl
 have p3:=fr.next
 have k5:Fr h B:=⟨om,λid o=>by rw[f8.get id om om];exact fr.get id o⟩
 have l3:cY B vg 1 ws (C+1):=ow.zA n8 λid d m c e o=>by have:=(U _ _ _ _ e).2.1;exact f8.get id o om
 have c9:fW (λid=>id<=C∨ ∃d m c,vg= .sl id d m c) B ws gens:=fW.fx c0 ⟨n8,λid o Y=>f8.get id o (λe=>Y (.inl om))⟩
 have px:PV (λid=>id<=C∨ ∃d m c,vg= .sl id d m c) B G x:=by
  refine⟨sx,?_⟩
  cases G with
  |sl id d len N=>
   have:=g0 _ _ _ _ rfl;rintro (h|⟨m9,m',c',e⟩)
   ·omega
   ·have:=(U _ _ _ _ e).1;omega
  |_=>trivial
 obtain⟨h9,e9,n9,g9,o9,f9⟩:=dF (h:=B) rfl [G]
 have l4:=l3.fr f9
 obtain⟨W,i0,c6⟩:=l4.push (bytes:=24) (SV.one om g9 (.kn 1)) (n:=gens.length) (m:=1) om rfl om om om
 have p5:=c6.next
 rw[n9] at i0
 have k4:dL vg C:=λid d m c e e2=>by have:=(U _ _ _ _ e).2.1;omega
 have j8:W.get C=aZ [aC n,vg]:=by rw[c6.old C om k4,o9 C om];exact j2
 obtain⟨a0,m6,p2,m3,i5⟩:=pJ W C [aC n,.sl (B.next+1) 0 (gens.length+1) (.un 1)]
 simp(disch:=omega)only[go_sem,c8,cT _ (z:= .aE) px.fG.1 px.fG.2,e9,i0,j8,amP,m6]
 have ek:(k':Int)- 1=((k'- 1:Nat):Int):=om
 rw[ek]
 have c3: ∀id,id<B.next->id≠C->dL vg id->a0.get id=B.get id:=λid h1 h2 h3=>by rw[i5 id h2,c6.old id om h3,o9 id om]
 have e3: ∀id,id<=C->dL vg id:=λid o f7 d m c e e2=>by have:=(U _ _ _ _ e).2.1;omega
 have d8:=c6.own om rfl (b:=C+1) om
 rw[n9] at d8
 have i6:Fx (λid=>id<=C∨ ∃d m c,vg= .sl id d m c) B a0:=⟨om,λid o Y=>c3 id o (λe=>Y (.inl om)) (λf7 d m c e e2=>Y (.inr ⟨d,m,c,e2▸e⟩))⟩
 have d5: ∀id,id<B.next->(id<=C∨ ∃d m c,V.sl (B.next+1) 0 (gens.length+1) (.un 1)= .sl id d m c)->(id<=C∨ ∃d m c,vg= .sl id d m c):=λid o Y=>by
  rcases Y with Y|⟨d,m,c,e⟩
  ·exact .inl Y
  ·cases e;omega
 refine⟨k'- 1,om,k'- 1,gens++ [x],aB rfl,by rw[jZ];simp;omega,⟨⟨_,_,m3,d8.zA om (λid d m c e o=>by cases e;exact i5 _ om),(fW.go c9 i6 d5).append (fW.one (PV.go px i6 d5))⟩,l6.low om (λid o=>c3 id om om (e3 id om)),?_,λu hu=>?_,om,⟨om,λid o=>?_⟩⟩,rfl⟩
 ·rw[c3 D om om (e3 D om),f8.get D om om];exact gD
 ·rcases pH.1 hu with hu|hu
  ·exact cU u hu
  ·simp at hu;subst hu;exact X
 ·rw[c3 id om om (e3 id om)];exact k5.get id o
theorem alU (o:V)(n:Nat)(l:LN)(h:H)(n0:1<=n)(n7:n<=64)(hl:l.length<=16)(A:SP h o l)(W: ∀g∈l,bE n g):
  Ev T 94 [.agg [aC n,o]] h (λv h'=>v= aC 0/\Fr h h'):=by
 refine cV FT rfl ?_
 obtain⟨B,L⟩:=exI h.next
 obtain⟨d,e1,n1,N,o1,K⟩:=dF L [aC n,o]
 have d1:decide ((n:Int)<1)=false:=bH om
 have d2:decide ((64:Int)<(n:Int))=false:=bH om
 have t:=A.lens
 rw[jV] at t
 have d3:decide ((16:Int)<(l.length:Int))=false:=bH om
 obtain⟨id,z,U,J,p,G,j,m⟩:=A.open
 obtain⟨a0,q,_⟩:=A
 have wv:=SV.cK q
 have Y:=SV.dE q
 rw[jV] at J p G j
 have Q: ∀a,Fr d a->a.cell B 0=some (aC n):=λa f=>by rw[f.cell om,H.aF N];rfl
 have w: ∀a,Fr d a->a.cell B 1=some o:=λa f=>by rw[f.cell om,H.aF N];rfl
 simp(disch:=omega)only[go_sem,FT,aD,L,wW h (v:= aC n) (u:=o) rfl wv.2.1,e1,Q d (Fr.refl _),w d (Fr.refl _),d1,d2,t,d3]
 refine aH (λP vs a=> ∃(i:Nat),(∃g:Nat->V,vs= [g 0,.ptr B 0,g 2,aC i,g 4,g 5,g 6,g 7,g 8,g 9])/\i<=l.length/\Fr d a/\P=l.length-i) l.length
  ⟨0,aB rfl,iJ _,Fr.refl d,rfl⟩ ?_
 rintro P O s ⟨i,⟨g,rfl⟩,hi,f,rfl⟩
 by_cases k:(i:Int)<(l.length:Int)
 case neg=>
  have y:=bH k;simp(disch:=omega)only[go_sem,w s f,t,y];exact K.trans f
 have y:=bP k
 have c:i<l.length:=om
 have F2:=K.trans f
 have cell: ∀a,Fr h a->a.cell id (z+i)=some (U.getD i .undef):=λa f=>by rw[f.cell (p om),j i c]
 have r:=Ml m c
 have X:bE n (l.getD i []):=W _ (bD c)
 generalize U.getD i .undef=vx at cell r
 have R:=r.lens
 rw[aQ,X.len] at R
 have F:=SV.dE r
 simp(disch:=omega)only[go_sem,w s f,t,y,J.ixa,cell s F2]
 refine (Vs vx _ s (by rw[aQ,X.len];omega) (r.mono F2)).mono ?_
 rw[EE X n0 om]
 rintro _ x ⟨rfl,Z⟩
 have b:=f.trans Z
 simp(disch:=omega)only[go_sem]
 refine aW (λj=>(j rfl).elim) (λ_=>?_)
 simp(disch:=omega)only[go_sem,Q x b,w x b,J.ixa,cell x (K.trans b),R,Y,F]
 refine aW (λj=>(j rfl).elim) (λ_=>?_)
 simp(disch:=omega)only[go_sem]
 rw[eJ i]
 exact⟨l.length-(i+1),om,i+1,aB rfl,om,b.bA om,rfl⟩
theorem anL (a:V)(n:Nat)(l:LN)(h:H)(t:1<=n)(J:n<=7)(Z:l.length<=16)(s:SP h a l)(q: ∀g∈l,bE n g):
  Ev T 34 [.agg [aC n,a]] h (λv h'=> ∃vc O R,v= .tup [vc,aC 0]/\GC (λid=>id<h.next) h' vc n O R (bX n (· ∈l))/\Fr h h'):=by
 refine cV ajB rfl ?_
 obtain⟨B,p⟩:=exI h.next
 obtain⟨h1,e1,F,K,o1,f1⟩:=dF p [aC n,a]
 obtain⟨y,e2,n2,L,o2,W⟩:=dF F [aC 0,.aE,.aE]
 have d:=s
 obtain⟨a0,o,_⟩:=s
 have Y:=SV.cK o
 have i:y.get B=aZ [aC n,a]:=by rw[o2 B om];exact K
 have r2:=PB i
 simp(disch:=omega)only[go_sem,ajB,aD,p,wW h (v:= aC n) (u:=a) rfl Y.2.1,e1,F,e2,r2]
 have F2:=f1.trans W
 refine (alU a n l y t om Z (d.mono F2) q).mono ?_
 rintro _ c ⟨rfl,j⟩
 have f:c.get B=aZ [aC n,a]:=by rw[j.get B om];exact i
 have c0:c.cell B 0=some (aC n):=by rw[H.aF f];rfl
 have c1:c.cell B 1=some a:=by rw[H.aF f];rfl
 simp(disch:=omega)only[go_sem]
 refine aW (λhc=>(hc rfl).elim) (λ_=>?_)
 simp(disch:=omega)only[go_sem,c0,c1]
 refine (afJ a n l c t J om (d.mono (F2.trans j)) q).mono ?_
 rintro _ k ⟨vc,O,R,rfl,z,m⟩
 have n3:=j.next
 have n4:=m.next
 have g4:k.get (B+1)=aZ [aC 0,.aE,.aE]:=by rw[m.get _ om,j.get _ om];exact L
 obtain⟨r,A,G,N,e,P,_,_,U,_,_⟩:=z.cw
 subst e
 obtain⟨h5,e5,n5,g5,x⟩:=pJ k (B+1) [aC n,r,A]
 have Q:=aI g5
 simp(disch:=omega)only[go_sem,bW k (B+1) 0 (v:= aC n) (u:=r) (w:=A) rfl P.cK.2.1 U.cK.2.1,g4,cF,e5,Q]
 have F4:=(F2.trans j).trans m
 have x5:Fx (λid=>id<c.next) k h5:=⟨om,λid _ b=>x id om⟩
 exact⟨_,O,R,rfl,z.go x5 (λid _ b=>om),⟨om,λid b=>by rw[x id om];exact F4.get id b⟩⟩
section
variable {n:Nat} {G:List Nat->Prop} {L:LN} {K:List Nat}
theorem Cm.lt (k:Cm n G L K){r:Nat}(a:r∈K):r<L.length:=(kV.1 (k.perm.mem_iff.1 a)).1
theorem Cm.nd (k:Cm n G L K):K.Nodup:=k.perm.nodup_iff.2 (by unfold jW;exact List.nodup_range.filter _)
variable (hG:iX n G) (E:dW G L) (k:Cm n G L K)
include hG E k
end
def acH (n:Nat)(x:List Nat):Nat->Nat->Nat
 |0,k=>k
 |f+1,k=>if pw n x k=bL n then k else acH n x f (k+1)
def JU (n:Nat)(x:List Nat):Nat:=acH n x 420 1
theorem HW {n:Nat}{x:List Nat}(X:bE n x): ∀f k,0<k->k<=qF x n->qF x n<=k+f->acH n x f k=qF x n
 |0,k,_,h1,h2=>by show k=_;omega
 |f+1,k,h0,h1,h2=>by
  unfold acH;split
  ·rename_i e
   exact Nat.le_antisymm h1 (Nat.le_of_dvd h0 ((Hu X k).2 e))
  ·rename_i e
   refine HW X f (k+1) om ?_ om
   by_cases h:k=qF x n
   ·exact absurd ((Hu X k).1 (by rw[h];exact Nat.dvd_refl _)) e
   ·omega
theorem aaQ {n:Nat}{x:List Nat}(X:bE n x)(a:n<=7):qF x n=JU n x:=
 (HW X 420 1 om (Ya X) (by have:=Nat.le_of_dvd om (QC X a);omega)).symm
def cRb (L:LN)(i j:Nat):Bool:=L.any λc=>cW (L.getD i []) c==L.getD j []
def LX (L:LN)(i:Nat):List Nat:=(List.range L.length).filter (cRb L i)
def AF (L:LN):List Nat:=(List.range L.length).filter λj=>(List.range j).all λi=>!cRb L i j
def afN (n:Nat)(L:LN)(r s:Nat):Bool:=decide (JU n (L.getD r [])<JU n (L.getD s [])∨JU n (L.getD r [])=JU n (L.getD s [])/\((LX L r).length<(LX L s).length∨(LX L r).length=(LX L s).length/\r<s))
section
variable {n:Nat} {G:List Nat->Prop} {L:LN} {K:List Nat}
theorem adR (E:dW G L){x y:List Nat}:cj G x y↔(L.any λc=>cW x c==y)=true:=by
 rw[List.any_eq_true];constructor
 ·rintro⟨c,hc,e⟩
  exact⟨c,(E.mem c).2 hc,by simpa using e⟩
 ·rintro⟨c,hc,e⟩
  exact⟨c,(E.mem c).1 hc,by simpa using e⟩
theorem akZ (E:dW G L){i j:Nat}:cR G L i j↔cRb L i j=true:=adR E
theorem adN (E:dW G L)(i j:Nat)(d:Decidable (cR G L i j)): @decide (cR G L i j) d=cRb L i j:=by
 rw[Py,Qf];exact akZ E
theorem HO (E:dW G L)(i:Nat):kY G L i=LX L i:=by
 unfold kY LX;exact List.filter_congr λj _=>adN E i j _
theorem Za (E:dW G L):jW G L L.length=AF L:=by
 unfold jW AF;refine List.filter_congr λj _=>?_
 classical
 rw[Py,Qf,Kv];unfold HV;constructor
 ·intro h i hi
  have:=h i (Gu.1 hi);rw[akZ E] at this;simpa using this
 ·intro h i hi
  have:=h i (Gu.2 hi);rw[akZ E];simpa using this
theorem ahP (b:iX n G)(E:dW G L): ∀x∈L,bE n x:=λx a=>b.cU ((E.mem x).1 a)
theorem TX (c:iX n G)(E:dW G L)(b:n<=7){r:Nat}(a:r<L.length):qF (L.getD r []) n=JU n (L.getD r []):=aaQ (ahP c E _ (bD a)) b
theorem abD (b:iX n G)(E:dW G L)(a:n<=7){r s:Nat}(d:r<L.length)(c:s<L.length):kLt n G L r s↔afN n L r s=true:=by
 unfold kLt afN;rw[Qf,TX b E a d,TX b E a c,HO E,HO E]
def KOk (n:Nat)(L:LN)(K:List Nat):Bool:=K.isPerm (AF L)&&decide (K.Pairwise λr s=>afN n L r s=true)
theorem KOk.isK (f:iX n G)(E:dW G L)(d:n<=7)(h:KOk n L K=true):Cm n G L K:=by
 unfold KOk at h;rw[vN,Qf] at h;have p:K.Perm (AF L):=List.isPerm_iff.1 h.1
 have b: ∀r∈K,r<L.length:=λr a=>by
  have:=p.mem_iff.1 a;unfold AF at this;exact Gu.1 (CH.1 this).1
 exact⟨by rw[Za E];exact p,List.Pairwise.imp_of_mem (λa c h=>(abD f E d (b _ a) (b _ c)).2 h) h.2⟩
theorem KOk.eq (c:iX n G)(E:dW G L)(b:n<=7){a:List Nat}(h:KOk n L a=true)(k:Cm n G L K):K=a:=k.uniq (KOk.isK c E b h)
end
def ahR (n:Nat)(S:LN)(w:List Nat):List Nat:=w.foldl (λx i=>aX x (S.getD i [])) (bL n)
theorem AL {n:Nat}{S:LN}: ∀(w:List Nat) (x:List Nat),(∀i∈w,i<S.length)->bX n (· ∈S) x->bX n (· ∈S) (w.foldl (λx i=>aX x (S.getD i [])) x)
 | [],_,_,h=>h
 |i::w,x,hw,h=>AL w _ (λj a=>hw j (by simp [a])) (h.mul (bD (hw i (by simp))))
def Ze (n:Nat)(S L:LN)(ws:LN):Bool:=
 L==ws.map (ahR n S)&&ws.all (λw=>w.all λi=>decide (i<S.length))&&decide (L.Pairwise λx y=>yU x y=true)&&L.all (λx=>x.length==n)&&L.contains (bL n)&&L.all λx=>S.all λg=>L.contains (aX x g)
theorem Ze.Xz {n:Nat}{S L:LN}{ws:LN}(h:Ze n S L ws=true):dW (bX n (· ∈S)) L:=by
 unfold Ze at h;simp only[vN,beq_iff_eq,Kv,Qf,List.contains_iff_mem] at h;obtain⟨⟨⟨⟨⟨c,l⟩,f⟩,b⟩,i⟩,k⟩:=h;refine⟨List.Pairwise.imp_of_mem (λa j h=>(Cb (by rw[b _ a,b _ j])).1 h) f,λx=>⟨λa=>?_,λa=>?_⟩⟩
 ·rw[c] at a
  obtain⟨w,d,rfl⟩:=uF.1 a;exact AL w _ (l w d) .one
 ·induction a with
  |one=>exact i
  |mul _ hg ih=>exact k _ ih _ hg
def A4:LN:= [[1,2,0,3], [0,2,3,1]]
def L3:LN:= [[0,1,2], [0,2,1], [1,0,2], [1,2,0], [2,0,1], [2,1,0]]
def anH (n:Nat)(x:List Nat):Bool:=x.length==n&&decide x.Nodup&&x.all λp=>decide (p<n)
theorem SA (h:H)(x y z:Int):lQ h 1 [aC 0] 3 [(0,1,aC x),(1,1,aC y),(2,1,aC z)]=some (.sl h.next 0 3 (.kn 3),h.new (.cells false (ints [x,y,z]))):=by
 have e:cX [aC 0] 3= [aC 0,aC 0,aC 0]:=rfl;simp [lQ,iS,e,putAt,V.cells,V.one,ints]
theorem Ec (h:H)(x y z w:Int):lQ h 1 [aC 0] 4 [(0,1,aC x),(1,1,aC y),(2,1,aC z),(3,1,aC w)]=some (.sl h.next 0 4 (.kn 4),h.new (.cells false (ints [x,y,z,w]))):=by
 have e:cX [aC 0] 4= [aC 0,aC 0,aC 0,aC 0]:=rfl;simp [lQ,iS,e,putAt,V.cells,V.one,ints]
theorem Tm (h:H){v u:V}(a:v.cells= [v]/\v.one=true)(b:u.cells= [u]/\u.one=true):lQ h 1 [.aE] 2 [(0,1,v),(1,1,u)]=some (.sl h.next 0 2 (.kn 2),h.new (.cells false [v,u])):=by
 have e:cX [V.aE] 2= [.aE,.aE]:=rfl;simp [lQ,iS,e,putAt,a.1,a.2,b.1,b.2]
theorem mW (id o m:Nat)(c:Kh):(V.sl id o m c).cells= [.sl id o m c]/\(V.sl id o m c).one=true:=⟨rfl,rfl⟩
theorem mkI {h:H}{ID:Nat}(a:h.next=ID)(l:List Int): ∃x,h.new (.cells false (ints l))=x/\x.next=ID+1/\SI x (.sl ID 0 l.length (.kn l.length)) l/\Fr h x:=by
 obtain⟨x,e,n,g,o,f⟩:=dF a (ints l);exact⟨x,e,n,SV.all (by rw[aP,uW]) om g _,f⟩
theorem SP.two {h h':H}{id:Nat}{v u:V}{a b:List Nat}(i:SI h v (zi a))(j:SI h u (zi b))(d:id<h'.next)(f:Fr h h')(g:h'.get id=aZ [v,u])(c:Kh):SP h' (.sl id 0 2 c) [a,b]:=
 ⟨[v,u],SV.all rfl d g _,i.mono f,j.mono f,trivial⟩
theorem SP.aoI {h h':H}{id:Nat}{v:V}{a:List Nat}(d:SI h v (zi a))(c:id<h'.next)(f:Fr h h')(g:h'.get id=aZ [v])(b:Kh):SP h' (.sl id 0 1 b) [a]:=
 ⟨[v],SV.all rfl c g _,d.mono f,trivial⟩
theorem GC.sl {W:Nat->Prop}{h:H}{a:V}{n:Nat}{O:LN}{R:jI}{G:List Nat->Prop}(g:GC W h a n O R G): ∃vO vR,a= .agg [aC n,vO,vR]/\vO.one=true/\vR.one=true/\dE vO vO=true/\dE vR vR=true:=by
 obtain⟨vO,vR,d,f,e,c,_,_,b,_,_⟩:=g.cw;exact⟨vO,vR,e,c.cK.2.1,b.cK.2.1,c.dE,b.dE⟩
theorem GC.el {W:Nat->Prop}{h:H}{a:V}{n:Nat}{O:LN}{R:jI}{G:List Nat->Prop}{L:LN}(g:GC W h a n O R G)(E:dW G L):cZ O R n 0 (bL n)=L:=(dM g.dN g.isc).1.uniq E
theorem Jy {v:V}{h:H}{l:List Int}(s:SI h v l):v.cells= [v]/\v.one=true:=⟨(SV.cK s).1,(SV.cK s).2.1⟩
theorem dT {i:Decidable True}: @decide True i=true:=bP trivial
def SB (h:H)(v:V)(l:List Bool):Prop:=SV h v 1 (l.map V.bool)
theorem SB.mono {h h':H}{v:V}{l:List Bool}(s:SB h v l)(f:Fr h h'):SB h' v l:=SV.mono s f
theorem SB.open {h:H}{v:V}{l:List Bool}(s:SB h v l):bT v=some (aC (l.length:Int))/\ ∃id off,Sl v 1 l.length id off/\ ∀i,i<l.length->id<h.next/\h.cell id (off+i)=some (.bool (l.getD i false)):=by
 have d:(l.map V.bool).length=l.length:=jV ..;refine⟨by unfold bT;rw[SV.len s (n:=l.length) om om];rfl,?_⟩;obtain⟨id,off,b,a,c⟩:=SV.shape s l.length om om;exact⟨id,off,b,λi hi=>⟨a om,by rw[c i om,Ol,List.getD,dD hi];rfl⟩⟩
set_option maxRecDepth 100000
theorem GC.all {W:Nat->Prop}{h:H}{a:V}{n:Nat}{O:LN}{R:jI}{G:List Nat->Prop}(g:GC W h a n O R G):dW G (cZ O R n 0 (bL n))/\(cZ O R n 0 (bL n)).length<=5040:=by
 have e:=dM g.dN g.isc;exact⟨e.1,by rw[e.2];exact jH g⟩
theorem ajN {n:Nat}{g c x:List Nat}(G':bE n g)(C:bE n c)(X:bE n x):cW (cW g x) (cW c x)=cW (cW g c) x:=by
 have e:aX x (cW c x)=aX c x:=by
  unfold cW;rw[←aV X (X.inv.mul C) X,←aV X X.inv C,fC X,cL C]
 rw[←nX G' X (qG C X),e,nX G' C X]
section
variable {n:Nat} {G H:List Nat->Prop} {L M:LN} {K K':List Nat} {x:List Nat}
variable (hG:iX n G) (E:dW G L) (k:Cm n G L K) (hH:iX n H) (F:dW H M) (k':Cm n H M K') (X:bE n x) (hx: ∀y,H y↔ ∃g,G g/\cW g x=y)
include hG E k hH F k' X hx
end
def dO (v:V)(id:Nat):Prop:= ∃off m c,v= .sl id off m c
theorem fW.sp' {W:Nat->Prop}{h:H}{v:V}{ws:List V}{l:LN}(sv:SV h v 1 ws)(p:fW W h ws l):SP h v l:=by
 refine⟨ws,sv,?_⟩;have a:=aM.length p
 exact aM.mQ (by simpa using a) λi hi b=>by
  have:=(aM.get p i hi om).si;simpa using this
theorem ML (u:V)(ws:List V)(h:H)(q:ws.length<1000000)(c:SV h u 1 ws):
  Ev T 163 [u] h (λv h'=>cY h' v 1 ws h.next/\Fr h h'):=by
 refine cV cG rfl ?_
 have b:Hg false u=some (.bool false)->Wp T none cG.fn.body (Fk cG.fn [u]) h (JN cG.fn.results λv h'=>cY h' v 1 ws h.next/\Fr h h'):=λj=>by
  have d:Fr h (h.new (.cells false [])):=(Fr.refl h).new _;have f:cY (h.new (.cells false [])) (.sl h.next 0 0 (.kn 0)) 1 [] h.next:=cY.new h 1 0 _ [] rfl (fM _);obtain⟨p,k,l,A⟩:=f.app (bytes:=24) (by rw[H.aU];omega) (c.mono d) (n:=0) (m:=ws.length) rfl om om om;simp(disch:=omega)only[go_sem,cG,aD,j,l];exact⟨by have:=A.own;rwa [List.nil_append] at this,A.fr _ d (fM _)⟩
 rcases c with ⟨rfl|⟨a,rfl⟩,rfl⟩|⟨id,i,len,o,s,r,rfl,k⟩
 ·simp(disch:=omega)only[go_sem,cG,aD]
  exact⟨cY.aE _ _ _,Fr.refl _⟩
 ·exact b rfl
 ·exact b rfl
theorem agG {n:Nat}{l:LN}{x:List Nat}(b: ∀g∈l,bE n g)(X:bE n x)(y:List Nat):Jn n (bX n (· ∈l)) [x] y↔bX n (· ∈l++ [x]) y:=by
 have a: ∀g∈l++ [x],bE n g:=λg h=>(pH.1 h).elim (b g) λh=>by rw[List.mem_singleton.1 h];exact X
 have d:=bX.dN (L:=(· ∈l)) b;constructor
 ·refine λh=>bX.le (bX.dN a) (λg h=>?_) h
  rcases h with h|h
  ·exact bX.mono (λg h=>pH.2 (.inl h)) h
  ·exact bX.of a (pH.2 (.inr h))
 ·refine λh=>bX.le (Jn.dN d λg h=>by rw[List.mem_singleton.1 h];exact X) (λg h=>?_) h
  have c: ∀g,(bX n (· ∈l) g∨g∈ [x])->bE n g:=λg h=>h.elim (λh=>h.cU b) λh=>by rw[List.mem_singleton.1 h];exact X
  rcases pH.1 h with h|h
  ·exact bX.of c (.inl (bX.of b h))
  ·exact bX.of c (.inr h)
structure ClJ (h hh:H)(D P4 P id C1 C2:Nat)(r:eH)(vby:V)(n:Nat)(l0 B:LN)(i k:Nat)(l:LN):Prop where
 ex: ∃vl ws,hh.get P=aZ [vl]/\cY hh vl 1 ws 0/\fW (λq=>q=D∨q=P∨q=id∨dO vl q) hh ws l/\Qa (λq=>q<h.next∨q=P∨q=id∨dO vl q) hh D n (bX n (· ∈l))/\ ∀q,dO vl q->h.next<=q/\q≠D/\q≠P4/\q≠P/\q≠C1/\q≠C2/\q≠id/\q<hh.next
 g4:hh.get P4=aZ [.ptr D 0]
 c1:hh.get C1=aZ [.ptr P 0]
 c2:hh.get C2=aZ [vby]
 gr:hh.get id=some (.loop r)
 fr:Fr h hh
 nx:id<hh.next
 pre: ∃t,l=l0++t/\t.Nodup/\ ∀g∈t,bE n g
 nc: ∀g∈l,NC n (· ∈l0) (· ∈B) g
 cj: ∀i' k',(i'<i∨i'=i/\k'<k)->i'<l.length->k'<B.length->bX n (· ∈l) (cW (l.getD i' []) (B.getD k' []))
theorem ClJ.fr' {h u h2:H}{D s P id o p:Nat}{r:eH}{m:V}{n:Nat}{t B:LN}{i k:Nat}{l:LN}(j:ClJ h u D s P id o p r m n t B i k l)(G:s<id/\P<id/\o<id/\p<id)(f:Fr u h2):ClJ h h2 D s P id o p r m n t B i k l:=by
 obtain⟨z,v,g,F,pv,w,A⟩:=j.ex;have nx:=j.nx;exact⟨⟨z,v,by rw[f.get P om];exact g,F.fr f,aM.mono (λ_ _ x=>x.fx (Fx.of f)) pv,w.fr f,λq y=>by obtain⟨a,b,c,d,e,g,i,k⟩:=A q y;exact⟨a,b,c,d,e,g,i,iW k f.next⟩⟩,by rw[f.get s om];exact j.g4,by rw[f.get o om];exact j.c1,by rw[f.get p om];exact j.c2,by rw[f.get id om];exact j.gr,j.fr.trans f,iW nx f.next,j.pre,j.nc,j.cj⟩
theorem Fx.wide {W W':Nat->Prop}{h h':H}(f:Fx W h h')(b: ∀q,W q->W' q):Fx W' h h':=⟨f.next,λq a c=>f.get q a λh=>c (b q h)⟩
theorem acE {n:Nat}{l:LN}{x g:List Nat}(h:bX n (· ∈l) g):bX n (· ∈l++ [x]) g:=bX.mono (λ_ h=>pH.2 (.inl h)) h
theorem Zo {l:LN}{x:List Nat}{i:Nat}(hi:i<l.length):(l++ [x]).getD i []=l.getD i []:=by
 rw[WN,WN,Dv hi]
theorem adO {n:Nat}{l:LN}(a: ∀g∈l,bE n g)(x:List Nat):Jn n (λx=>x=bL n) l x↔bX n (· ∈l) x:=
 ⟨λh=>bX.le (bX.dN a) (λg h=>h.elim (λe=>by rw[e];exact .one) λh=>bX.of a h) h,λh=>bX.mono (λg h=> .inr h) h⟩
theorem Vu (n:Nat):iX n (λx=>x=bL n):=⟨λe=>by rw[e];exact bE.one n,rfl,λa b=>by rw[a,b,cL (bE.one n)],λa=>by rw[a,oJ]⟩
theorem Qx (vl J:V)(n:Nat)(Y B:LN)(h:H)(n0:1<=n)(n7:n<=7)(b4: ∀g∈Y,bE n g)(c3: ∀b∈B,bE n b)(k2:Y.length<100000)(Bl:B.length<1000000)(sl:SP h vl Y)(sB:SP h J B):
  Ev T 124 [aC n,vl,J] h (λv h'=> ∃D,v= .ptr D 0/\h.next<=D/\Qa (λq=>q<h.next) h' D n (NC n (· ∈Y) (· ∈B))/\Fr h h'):=by
 refine cV vV rfl ?_
 have hM:n^n<=823543:=by
  have: ∀k,k<=7->k^k<=823543:=by decide
  exact this n n7
 simp(disch:=omega)only[go_sem,vV,aD]
 refine (VZ n h n0 n7).mono ?_
 rintro _ A ⟨D,rfl,hD,b1,f1⟩
 obtain⟨ws,sv,al⟩:=sl
 have lw:=aM.length al
 rw[jV] at lw
 have d0:SV h vl 1 ws:=sv
 have ins:=SV.in d0
 have nD:=b1.nx
 have f0: ∀h',Fr h h'->SV h' vl 1 ws/\Mq (· =D) vl/\fW (· =D) h' ws Y:=λh' f=>by
  refine⟨d0.mono f,?_,aM.mQ lw λi hi hj=>?_⟩
  ·cases vl with
   |sl id K m c=>exact λe=>by have:=ins _ _ _ _ rfl;omega
   |_=>trivial
  ·have s:=aM.get al i hi (by rw[jV];exact hj)
   rw[List.getElem_map] at s;refine⟨s.mono f,?_⟩;generalize ws[i]=v at s;have i2:=SV.in s
   cases v with
   |sl id K m c=>exact λe=>by have:=i2 _ _ _ _ rfl;omega
   |_=>trivial
 obtain⟨s1,j3,p1⟩:=f0 A f1
 simp(disch:=omega)only[go_sem]
 refine (Wv (W:=λq=>q<h.next) D vl ws n _ Y A n0 n7 (Vu n) b4 om (λq h=>iW h f1.next) b1 s1 j3 p1).mono ?_
 rintro _ d ⟨rfl,b2,f2⟩
 have l1:=f1.next
 have l6:=f2.next
 have j9:Fr h d:=⟨om,λq N=>by rw[f2.get q om (by show q≠D;omega)];exact f1.get q N⟩
 obtain⟨P4,d3⟩:=exI d.next
 obtain⟨h3,e3,n3,g3,o3,f3⟩:=dF d3 [.nilp]
 obtain⟨h4,e4,n4,g4,o4⟩:=pJ h3 P4 [.ptr D 0]
 have f7:Fr d h4:=⟨om,λq N=>by rw[o4 q om,o3 q om]⟩
 have pt: ∀(G:H) (id:Nat) (u w:V),dX (some (.cells false [u])) G id 0 [w]=some (G.set id (some (.cells false [w]))):=λG id u w=>bN (by simp) G _ _
 simp(disch:=omega)only[go_sem,d3,e3,lG (show (V.ptr D 0).cells= [V.ptr D 0] from rfl) rfl,g3,pt,e4]
 have d5:=j9.trans f7
 refine (ML vl ws h4 om (d0.mono d5)).mono ?_
 rintro vk h5 ⟨c8,f5⟩
 have k7:=f5.next
 obtain⟨P,hP⟩:=exI h5.next
 obtain⟨h6,e6,n6,g6,o6,f6⟩:=dF hP [.aE]
 obtain⟨h7,e7,l4,g7,o7⟩:=pJ h6 P [vk]
 have c4:Fr h5 h7:=⟨om,λq N=>by rw[o7 q om,o6 q om]⟩
 have wk:=SV.cK c8.sv
 simp(disch:=omega)only[go_sem,hP,e6,lG wk.1 wk.2.1,g6,pt,e7]
 have g1:Fr h h7:=d5.trans (f5.trans c4)
 have wB:=SV.cK (show SV h J 1 _ from sB.choose_spec.1)
 obtain⟨h8,e8,n8,g8,o8,f8⟩:=dF (h:=h7) rfl [.ptr P 0]
 obtain⟨h9,e9,n9,g9,o9,f9⟩:=dF n8 [J]
 refine Ev.mono (Q:=λv h'=>v= .fn 206 [] [.ptr h7.next 0,.ptr (h7.next+1) 0]/\h9=h') ?_ ?_
 ·refine cV rE rfl ?_
  simp(disch:=omega)only[go_sem,rE,aD,mF (x:= .ptr P 0) rfl rfl h7,e8,mF wB.1 wB.2.1 h8,n8,e9]
 rintro _ _ ⟨rfl,rfl⟩
 simp(disch:=omega)only[go_sem]
 obtain⟨C1,i7⟩:=exI h7.next
 obtain⟨C2,h0⟩:=exI (C1+1)
 obtain⟨id,c5⟩:=exI h9.next
 rw[i7] at n8 n9 g8 o8 g9 o9 ⊢
 rw[h0] at n8 n9 g9 o9 ⊢
 refine⟨rfl,uJ λr hr=>?_⟩
 rw[c5]
 have iP:r.st= .ready:=by rw[hr]
 have b8:r.pend=none:=by rw[hr]
 have oA: ∀k,k<id->(h9.new (.loop r)).get k=h9.get k:=λk hk=>H.bG h9 om _
 have nA:(h9.new (.loop r)).next=id+1:=by rw[H.aU,c5]
 have hc:P4<id/\P<id/\C1<id/\C2<id:=om
 have d1:Fr h7 h9:=f8.trans f9
 have FA:Fr h7 (h9.new (.loop r)):=d1.new _
 have c9: ∀q,dO vk q->h4.next<=q/\q<P:=λq ⟨K,m,c,e⟩=>by
  have:=c8.in _ _ _ _ e;omega
 have j8: ∀i (hi:i<ws.length) (hj:i<Y.length),PV (λq=>h.next<=q) (h9.new (.loop r)) ws[i] Y[i]:=λi hi hj=>by
  have s:=aM.get al i hi (by rw[jV];exact hj);rw[List.getElem_map] at s;refine⟨s.mono (g1.trans FA),?_⟩;generalize ws[i]=v at s;have i2:=SV.in s
  cases v with
  |sl id K m c=>exact λe=>by have:=i2 _ _ _ _ rfl;have e:h.next<=id:=e;omega
  |_=>trivial
 have J0:ClJ h (h9.new (.loop r)) D P4 P id C1 C2 r J n Y B 0 0 Y:=by
  refine⟨⟨vk,ws,by rw[oA _ om,o9 _ om,o8 _ om];exact g7,(c8.fr (c4.trans FA)).le (iJ _),aM.mQ lw λi hi hj=>(j8 i hi hj).lH λq _ N=>?_,?_,λq N=>?_⟩,by rw[oA _ om,d1.get _ om,o7 _ om,o6 _ om,f5.get _ om];exact g4,by rw[oA _ om,o9 _ om];exact g8,by rw[oA _ om];exact g9,by rw[←c5,H.aL],g1.trans FA,om,⟨[],(vF _).symm,List.nodup_nil,λ_ h=>by cases h⟩,λg hg=>NC.of hg,λi' k' h=>om⟩
  ·show h.next<=q
   rcases N with rfl|rfl|rfl|N
   ·exact hD
   ·omega
   ·omega
   ·have:=c9 q N;omega
  ·exact ((b2.lH (W':=λq=>q<h.next∨q=P∨q=id∨dO vk q) (λq A d=>by
    rcases d with e|e|e|e
    ·exact e
    ·omega
    ·omega
    ·have:=c9 q e;omega)).fr (f7.trans (f5.trans (c4.trans FA)))).congr λx=>adO b4 x
  ·have:=c9 q N;omega
 have jf: ∀i k l G h',ClJ h G D P4 P id C1 C2 r J n Y B i k l->Fr G h'->ClJ h h' D P4 P id C1 C2 r J n Y B i k l:=λi k l G h' j f=>j.fr' hc f
 have c7: ∀i k l G,ClJ h G D P4 P id C1 C2 r J n Y B i k l-> ∀g∈l,bE n g:=λi k l G j g hg=>by
  obtain⟨t,e,_,tP⟩:=j.pre;rw[e] at hg;exact (pH.1 hg).elim (b4 g) (tP g)
 refine (QD id C1 C2 P J B n (Y.length+n^n) n0 om c3 Bl om _ (λi k l G=>ClJ h G D P4 P id C1 C2 r J n Y B i k l) Y J0 ?_ jf ?_ ?_).mono ?_
 ·intro i k l G j
  obtain⟨o,a1,gP,ow,pv,bd,bl⟩:=j.ex
  refine⟨j.c1,j.c2,⟨o,a1,gP,ow.sv,aM.mono (λ_ _ x=>x.si) pv⟩,sB.mono j.fr,?_,c7 _ _ _ _ j⟩
  obtain⟨t,e,tN,tP⟩:=j.pre
  have:=Be tN tP
  rw[e,jZ]
  omega
 ·intro i l G j
  exact⟨j.ex,j.g4,j.c1,j.c2,j.gr,j.fr,j.nx,j.pre,j.nc,λi' k' h A d=>j.cj i' k' om A d⟩
 ·intro i k l ha G w a9 e5 j0 fa pw
  have j:=j0.fr' hc fa
  obtain⟨o,a1,i9,k0,d6,a6,a0⟩:=j0.ex
  have k5:=j0.nx
  have l8:=fa.next
  obtain⟨Wl,a5⟩: ∃Wl:Nat->Prop,Wl=λq=>q<h.next∨q=P∨q=id∨dO o q:=⟨_,rfl⟩
  rw[←a5] at a6
  obtain⟨x,hx⟩:=exI (cW (l.getD i []) (B.getD k []))
  rw[hx] at pw
  have U:=c7 _ _ _ _ j0
  have X:bE n x:=by rw[←hx];exact qG (U _ (bD a9)) (c3 _ (bD e5))
  refine sZ j.gr (by rw[hr];rfl) iP λhb gb nb ob=>?_
  rw[congrArg eH.assign hr,congrArg eH.vars hr,congrArg eH.pars hr]
  simp(disch:=omega)only[go_sem,List.zip_cons_cons,List.zip_nil_left]
  rw[congrArg eH.body hr]
  have i8:Fx (· =id) ha hb:=⟨om,λq A d=>by rw[ob q d,fa.get q A]⟩
  have e0:Wl id:=by rw[a5];exact .inr (.inr (.inl rfl))
  have WP:Wl P:=by rw[a5];exact .inr (.inl rfl)
  have c0:Qa Wl hb D n (bX n (· ∈l)):=a6.fx (Fx.wide i8 λq (h:q=id)=>by rw[h];exact e0)
  obtain⟨vO,vR,O,R,gD,gc⟩:=c0.ex
  have g2:=c0.nx
  have c6:SI hb w (zi x):=SV.fx pw.si (W:=(· =id)) (by
   have:=pw.off
   cases w with
   |sl q K m c=>exact λe=>this (by have e:q=id:=e;omega)
   |_=>trivial) ⟨om,λq A d=>ob q d⟩
  have f4:hb.get P4=some (.cells false [.ptr D 0]):=by rw[ob _ om];exact j.g4
  simp(disch:=omega)only[go_sem,H.aF f4]
  refine (FE D w vO vR n O R _ x hb gc g2 gD X c6).mono ?_
  rintro _ hs ⟨bb,rfl,d4,fs⟩
  have k9:=fs.next
  cases bb with
  |true=>
   simp(disch:=omega)only[go_sem];refine oX iP b8 (by rw[fs.get id om];exact gb) ⟨rfl,l,a9,?_⟩
   have F:Fr G (hs.set id (some (.loop r))):=⟨by simp only[H.bY];omega,λq N=>by
    by_cases e:q=id
    ·rw[e,H.aS];exact j.gr.symm
    ·rw[H.aG _ e,fs.get q om,ob q e]⟩
   have j2:=j.fr' hc F;refine⟨j2.ex,j2.g4,j2.c1,j2.c2,j2.gr,j2.fr,j2.nx,j2.pre,j2.nc,λi' k' h A d=>?_⟩
   by_cases e:i'=i/\k'=k
   ·rw[e.1,e.2,hx];exact d4.1 rfl
   ·exact j2.cj i' k' om A d
  |false=>
   have j6: ¬bX n (· ∈l) x:=λh=>by have:=d4.2 h;cases this
   have gl:=bX.dN (L:=(· ∈l)) U
   have i0: ∀q,Wl q->q<ha.next:=λq h=>by
    rw[a5] at h;rcases h with h|h|h|h
    ·have:=j0.fr.next;omega
    ·omega
    ·omega
    ·exact (a0 q h).2.2.2.2.2.2.2
   have wx:=SV.cK c6;have i5:hs.get P4=some (.cells false [.ptr D 0]):=by rw[fs.get _ om];exact f4
   obtain⟨S,hS⟩:=exI hs.next;obtain⟨ht,et,nt,gt,ot,ft⟩:=dF hS [w];have d8:Fr hb ht:=fs.trans ft;simp(disch:=omega)only[go_sem,H.aF i5,cT hs (z:= .aE) wx.1 wx.2.1,hS,et];refine (Wv (W:=Wl) D (.sl S 0 1 (.kn 1)) [w] n _ [x] ht n0 n7 gl (λg hg=>by rw[List.mem_singleton.1 hg];exact X) (by show 1<1000000;decide) (λq h=>by have:=i0 q h;omega) (c0.fr d8) (SV.one om gt (.kn 1)) (λe=>by have e:S=D:=e;omega) ⟨⟨c6.mono d8,?_⟩,trivial⟩).mono ?_
   ·have:=pw.off
    have nD:=a6.nx
    cases w with
    |sl q K m c=>exact λe=>this (by have e:q=D:=e;omega)
    |_=>trivial
   rintro _ Z ⟨rfl,bw,fw⟩;have l2:=fw.next
   have b0: ∀q,q<ha.next->q≠id->q≠D->Z.get q=ha.get q:=λq A d h3=>by
    rw[fw.get q om h3,ft.get q om,fs.get q om,ob q d,fa.get q A]
   have l3:=a6.nx;have PD:P≠D:=λe=>a6.nW (e▸WP)
   have d9:Z.get P=some (.cells false [o]):=by rw[b0 P om om PD];exact i9
   have m0:Fx (λq=>q=id∨q=D) ha Z:=⟨om,λq A d=>b0 q A (λe=>d (.inl e)) λe=>d (.inr e)⟩
   have d2:cY Z o 1 a1 0:=k0.mono om λq _ _ _ e _ A=>b0 q A (a0 q ⟨_,_,_,e⟩).2.2.2.2.2.2.1 (a0 q ⟨_,_,_,e⟩).2.1
   have k1:=SV.cK d2.sv;obtain⟨S2,g0⟩:=exI Z.next;obtain⟨e1,j1,k8,j4,l5,a8⟩:=dF g0 [w];have l9:=aM.length d6;obtain⟨t,el,tN,tP⟩:=j0.pre;have k3:=Be tN tP;have ll:l.length=Y.length+t.length:=by rw[el,jZ]
   obtain⟨b7,a2,p2⟩:=(d2.fr a8).push (bytes:=24) (SV.one (v:=w) (id:=S2) om j4 (.kn 1)) (n:=a1.length) (m:=1) om rfl om om om;have k4:=p2.next;have ap: ∀q,¬dO o q->dL o q:=λq N l7 K m c e e2=>N ⟨K,m,c,by rw[e2];exact e⟩
   have g5: ¬dO o P:=λh=>(a0 P h).2.2.2.1 rfl
   have i4: ¬dO o id:=λh=>(a0 id h).2.2.2.2.2.2.1 rfl
   have j5:b7.get P=some (.cells false [o]):=by rw[p2.old P om (ap P g5),a8.get P om];exact d9
   have i1:b7.get id=some (.loop (pW r)):=by rw[p2.old id om (ap id i4),a8.get id om,fw.get id om (λe=>a6.nW (e▸e0)),ft.get id om,fs.get id om];exact gb
   simp(disch:=omega)only[go_sem,H.aF d9,cT Z (z:= .aE) wx.1 wx.2.1,g0,j1,a2,j5,pt];refine oX iP b8 (by rw[H.aG _ om];exact i1) ⟨rfl,l++ [x],by rw[jZ];omega,?_⟩;obtain⟨vn,b9⟩:=exI (V.sl e1.next 0 (a1.length+1) (.un 1));rw[b9];obtain⟨hz,a3⟩:=exI ((b7.set P (some (.cells false [vn]))).set id (some (.loop r)));rw[a3];have nz:hz.next=b7.next:=by rw[←a3];rfl
   have oz: ∀q,q<Z.next->q≠P->q≠id-> ¬dO o q->hz.get q=Z.get q:=λq A d h3 h4=>by
    rw[←a3,H.aG _ h3,H.aG _ d,p2.old q om (ap q h4),a8.get q om]
   have a7: ∀q,q<ha.next->q≠P->q≠id->q≠D-> ¬dO o q->hz.get q=ha.get q:=λq A d h3 h4 h5=>by
    rw[oz q om d h3 h5,b0 q A h3 h4]
   have bn: ∀q,dO vn q->q=e1.next:=λq ⟨K,m,c,e⟩=>by rw[←b9] at e;cases e;rfl
   have nb: ∀q,(q=P4∨q=C1∨q=C2)-> ¬dO o q:=λq N h=>by
    obtain⟨_,_,b3,_,b5,b6,_⟩:=a0 q h;rcases N with e|e|e
    ·exact b3 e
    ·exact b5 e
    ·exact b6 e
   have i6:P4≠D:=om
   have Fz:Fx (λq=>q=D∨q=P∨q=id∨dO o q) ha hz:=⟨om,λq A d=>a7 q A (λe=>d (.inr (.inl e))) (λe=>d (.inr (.inr (.inl e)))) (λe=>d (.inl e)) λe=>d (.inr (.inr (.inr e)))⟩
   refine⟨⟨vn,a1++ [w],by rw[←a3,H.aG _ om,H.aS],?_,?_,?_,λq N=>?_⟩,?_,?_,?_,by rw[←a3,H.aS],⟨by have:=j0.fr.next;omega,λq N=>?_⟩,om,⟨t++ [x],by rw[el,Ll],?_,?_⟩,?_,?_⟩
   ·rw[←b9]
    exact (p2.own om rfl (iJ _)).mono om λq K m c e _ _=>by
     cases e;rw[←a3,H.aG _ om,H.aG _ om]
   ·refine aM.append (aM.mono (λv y p=>PV.go p Fz λq A d=>?_) d6) ⟨?_,trivial⟩
    ·rcases d with h|h|h|h
     ·exact .inl h
     ·exact .inr (.inl h)
     ·exact .inr (.inr (.inl h))
     ·have:=bn q h;omega
    ·have i3:Fx (λq=>q<ha.next) G hz:=⟨om,λq A d=>by
      have d: ¬q<ha.next:=d
      rw[oz q om om om (λh=>d (a0 q h).2.2.2.2.2.2.2),fw.get q om (by show q≠D;omega),ft.get q om,fs.get q om,ob q om]⟩
     refine PV.go pw i3 λq A d=>?_
     show q<ha.next;rcases d with h|h|h|h
     ·omega
     ·omega
     ·omega
     ·have:=bn q h;omega
   ·refine (bw.go (W':=λq=>q<h.next∨q=P∨q=id∨dO vn q) ⟨om,λq A d=>?_⟩ λq A d=>?_).congr λy=>agG U X y
    ·rw[a5] at d
     exact oz q A (λe=>d (.inr (.inl e))) (λe=>d (.inr (.inr (.inl e)))) λe=>d (.inr (.inr (.inr e)))
    ·rw[a5]
     rcases d with h|h|h|h
     ·exact .inl h
     ·exact .inr (.inl h)
     ·exact .inr (.inr (.inl h))
     ·have:=bn q h;omega
   ·have:=bn q N
    have:=j0.fr.next;omega
   ·rw[a7 P4 om om om i6 (nb _ (.inl rfl))];exact j0.g4
   ·rw[a7 C1 om om om om (nb _ (.inr (.inl rfl)))];exact j0.c1
   ·rw[a7 C2 om om om om (nb _ (.inr (.inr rfl)))];exact j0.c2
   ·rw[a7 q (by have:=j0.fr.next;omega) om om om (λh=>by have:=(a0 q h).1;omega)];exact j0.fr.get q N
   ·refine List.nodup_append.2 ⟨tN,(by simp),λa ha b hb e=>?_⟩
    rw[List.mem_singleton.1 hb] at e;exact j6 (bX.of U (by rw[el];exact pH.2 (.inr (e▸ha))))
   ·intro g hg
    exact (pH.1 hg).elim (tP g) λh=>by rw[List.mem_singleton.1 h];exact X
   ·intro g hg
    rcases pH.1 hg with h|h
    ·exact j0.nc g h
    ·rw[List.mem_singleton.1 h,←hx]
     exact NC.cj (j0.nc _ (bD a9)) (bD e5)
   ·intro i' k' k6 A d
    by_cases e:i'=i/\k'=k
    ·obtain⟨rfl,rfl⟩:=e
     rw[Zo a9,hx];exact bX.of (λg hg=>(pH.1 hg).elim (U g) λh=>by rw[List.mem_singleton.1 h];exact X) (pH.2 (.inr (List.mem_singleton.2 rfl)))
    ·have a4:i'<l.length:=om
     rw[Zo a4];exact acE (j0.cj i' k' om a4 d)
 ·rintro _ G ⟨l,j⟩
  refine⟨r,j.gr,by rw[iP];simp,?_⟩
  have en:r.pend.getD .norm= .norm:=by rw[b8];rfl
  rw[en]
  have nx:=j.nx
  obtain⟨o,a1,gP,ow,pv,bd,bl⟩:=j.ex
  have j7:(G.set id (some (.loop {r with st:= .out}))).get P4=some (.cells false [.ptr D 0]):=by rw[H.aG _ om];exact j.g4
  simp(disch:=omega)only[go_sem,H.aF j7]
  have fz:Fx (λq=>q<h.next∨q=P∨q=id∨dO o q) G (G.set id (some (.loop {r with st:= .out}))):=Fx.set (W:=λq=>q<h.next∨q=P∨q=id∨dO o q) _ (.inr (.inr (.inl rfl))) _
  refine⟨D,rfl,hD,?_,j.fr.set om _⟩
  refine ((bd.fx fz).congr λx=>MX c3 b4 (c7 _ _ _ _ j) ?_ j.nc ?_ x).lH ?_
  ·intro g hg
   obtain⟨t,e,_⟩:=j.pre
   rw[e];exact pH.2 (.inl hg)
  ·intro x hx b hb
   obtain⟨i',a4,rfl⟩:=zF.1 hx
   obtain⟨k',d7,rfl⟩:=zF.1 hb
   have:=j.cj i' k' (.inl a4) a4 d7
   rwa [←rN a4,←rN d7] at this
  ·exact λq _ h=> .inl h
end Go.Proofs.YtcdbmkidaecdiaaGreat
