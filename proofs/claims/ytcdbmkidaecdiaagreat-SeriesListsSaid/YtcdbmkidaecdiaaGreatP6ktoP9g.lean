/- Texts of the claim. -/
import Derived.Test.YtcdbmkidaecdiaaGreatP5qtoP6j
import Derived.Test.YtcdbmkidaecdiaaGreatDp2toP5p
import Derived.Test.YtcdbmkidaecdiaaGreatP5a
set_option maxHeartbeats 64000000
namespace Go.Proofs.YtcdbmkidaecdiaaGreat
open Go Go.Ay Go.Pm
set_option maxRecDepth 100000
section
variable {G:List Nat->Prop} {L:LN} {i j n:Nat} {Q:List Nat} {h:H} {v:V}
theorem KK {a:V}(b:a.cells= [a])(c:a.one=true)(M N m:Nat):rK [.aE,.nilm,.aE,.aE] [(0,1,a),(1,1,.mp M),(3,1,.sl N 0 m (.kn m))]=some (.agg [a,.mp M,.aE,.sl N 0 m (.kn m)]):=by
 simp [rK,gZ,putAt,b,c,show (V.mp M).cells= [V.mp M] from rfl,show (V.sl N 0 m (.kn m)).cells= [V.sl N 0 m (.kn m)] from rfl,show (V.mp M).one=true from rfl,show (V.sl N 0 m (.kn m)).one=true from rfl]
theorem KV {a:V}(b:a.one=true)(M N m:Nat)(h:H):En h (.agg [a,.mp M,.aE,.sl N 0 m (.kn m)])=some (.ptr h.next 0,h.new (.cells false [a,.mp M,.aE,.sl N 0 m (.kn m)])):=tJ h _ (by simp [b,show (V.mp M).one=true from rfl,show (V.sl N 0 m (.kn m)).one=true from rfl,show V.aE.one=true from rfl])
open Classical in
noncomputable def Im (G:List Nat->Prop)(L:LN)(i:Nat)(Q:List Nat)(j:Nat):Bool:=decide ((∃i0,i0<i/\cR G L i0 j)∨j∈Q)
theorem mN:Im G L i Q j=true↔(∃i0,i0<i/\cR G L i0 j)∨j∈Q:=by classical unfold Im;simp only[decide_eq_true_eq]
theorem QD (G:List Nat->Prop)(L:LN)(j:Nat):Im G L 0 [] j=false:=by
 rw[←Bool.not_eq_true,mN];rintro (⟨a,h,_⟩|h)
 ·omega
 ·cases h
theorem AK {k:Nat}:Im G L i (Q++ [k]) j=if j=k then true else Im G L i Q j:=by
 by_cases e:j=k
 ·rw[bJ e,mN];exact .inr (by simp [e])
 ·rw[bL e,Qk,mN,mN]
  simp [e]
theorem wG {p:Nat->Option Ay.Fn}{rd:Option Nat}{a:C}{k:Nat}{b:List V}{Q:E->List V->H->Prop}(J:List V->H->Prop)(c:Wp p rd (.loop a) b h (λe v h'=>e= .exit k/\J v h'))(h2: ∀v h',J v h'->Q .norm v h'):Wp p rd (.loop a) b h (vN k Q):=
 c.mono λe v h' x=>by
  obtain⟨rfl,x⟩:=x;rw[Aw];exact h2 v h' x
theorem cQ.ge {sz id off b:Nat}{ws:List V}(o:cQ h v sz ws b)(a:ws.length=n*sz)(k:0<sz)(s:Sl v sz n id off)(d:0<n):b<=id:=by
 have g:=s.ixa .i64 0 om om;rcases o.sv with ⟨_,rfl⟩|⟨l,c,len,m,r,t,e,f,_⟩
 ·have:=Nat.mul_pos d k
  simp at a;omega
 ·have u:=(o.in _ _ _ _ e).2.1
  subst e
  have q:0<len:=by
   have:=Nat.mul_pos d k;refine Nat.pos_of_ne_zero λp=>?_
   subst p;simp at f;rw[f] at a;simp at a;omega
  rw[Lu om om] at g;simp only[Option.some.injEq,V.ptr.injEq] at g;omega
theorem UH (d:iJ n G)(E:dZ G L)(hi:i<L.length)(o: ¬JL G L i)(j:Nat):Im G L i [] j=Im G L (i+1) [] j:=by
 obtain⟨m,g,c⟩: ∃j,j<i/\cR G L j i:=Kh λl=>o λj k c=>l ⟨j,k,c⟩
 rw[Qk,mN,mN];constructor
 ·rintro (⟨a,f,b⟩|h)
  ·exact .inl ⟨a,om,b⟩
  ·cases h
 ·rintro (⟨a,f,b⟩|h)
  ·by_cases e:a=i
   ·subst e;exact .inl ⟨m,g,wZ d E om c b⟩
   ·exact .inl ⟨a,om,b⟩
  ·cases h
theorem TE {S:LN}(m:iJ n G)(E:dZ G L)(hi:i<L.length)(b:BQ G L S i Q Q.length)(l: ∀s∈S,G s)(a: ∀x,G x->cG n (λg=>g∈S) x)(k:j<L.length):Im G L i Q j=Im G L (i+1) [] j:=by
 rw[Qk,mN,mN];constructor
 ·rintro (⟨c,f,d⟩|h)
  ·exact .inl ⟨c,om,d⟩
  ·exact .inl ⟨i,om,(b.mem j h).2⟩
 ·rintro (⟨c,f,d⟩|h)
  ·by_cases e:c=i
   ·subst e;exact .inr ((b.done m E (eH _) hi l a j).2 ⟨k,d⟩)
   ·exact .inl ⟨c,om,d⟩
  ·cases h
theorem LL (b:v.cells= [v])(a:v.one=true)(x y:Int):rK [.aE,aC 0,aC 0] [(0,1,v),(1,1,aC x),(2,1,aC y)]=some (.agg [v,aC x,aC y]):=by
 simp [rK,gZ,putAt,b,a,show ∀z,(aC z).cells= [aC z] from λ_=>rfl,show ∀z,(aC z).one=true from λ_=>rfl]
theorem NU {w:V}(c:v.one=true)(b:w.cells= [w])(a:w.one=true)(x y:Int):rK [.aE,aC 0,aC 0,.aE] [(0,3,.agg [v,aC x,aC y]),(3,1,w)]=some (.agg [v,aC x,aC y,w]):=by
 simp [rK,gZ,putAt,b,c,a,show ∀l,(V.agg l).cells=l from λ_=>rfl,show ∀z,(aC z).one=true from λ_=>rfl]
theorem KC {w:V}(b:v.one=true)(a:w.one=true)(x y:Int)(h:H):mH h 4 [.aE,aC 0,aC 0,.aE] 1 [(0,4,.agg [v,aC x,aC y,w])]=some (.sl h.next 0 1 (.kn 1),h.new (.cells false [v,aC x,aC y,w])):=by
 have e:dC [V.aE,aC 0,aC 0,.aE] 4= [V.aE,aC 0,aC 0,.aE]:=rfl;simp [mH,gZ,putAt,e,b,a,show ∀l,(V.agg l).cells=l from λ_=>rfl,show ∀z,(aC z).one=true from λ_=>rfl]
theorem Ca (k:Nat):(jY G L k).length<=k:=by
 classical
 unfold jY;exact lX (List.length_filter_le _ _) (by rw[YI];exact eH _)
theorem Re (b:List Cls.KE):(Cls.rJ b).length=b.length*4:=by
 induction b with
 |nil=>rfl
 |cons a r ih=>
  show (a.enc++Cls.rJ r).length=_;rw[iA,ih,List.length_cons];show 4+_=_;omega
theorem MH {a b c d:V}(e:H)(id:Nat)(y:V):dR (some (.cells false [a,b,c,d])) e id 2 [y]=some (e.set id (some (.cells false [a,b,y,d]))):=by
 simp [dR,putAt]
theorem agJ {sz:Nat}{ws:List V}(s:SV h v sz ws):Mf (λq=>h.next<=q) v:=by
 cases v with
 |sl id off len cap=>exact λa=>by have:=s.in _ _ _ _ rfl;omega
 |_=>trivial
structure KO (n:Nat)(G:List Nat->Prop)(L:LN)(X:Nat)(W:Nat->Prop)(hh:H)(a:Cls.KE)(r:Nat):Prop where
 fst:a.fst=r
 ord:a.ord=pI (L.getD r []) n
 size:a.size=(kG G L r).length
 rep:PV (λq=>X<=q) hh a.rep (L.getD r [])
 ranks:PV W hh a.ranks (kG G L r)
theorem KO.go {X:Nat}{W W':Nat->Prop}{h':H}{a:Cls.KE}{r:Nat}(k:KO n G L X W h a r)(f:Fx W h h')(l:X<=h.next)(e: ∀q,W q->X<=q)(c: ∀q,q<h.next->W' q->W q):KO n G L X W' h' a r:=
 ⟨k.fst,k.ord,k.size,k.rep.fx ⟨f.next,λq b d=>f.get q b λg=>d (e q g)⟩,PV.go k.ranks f c⟩
structure OfJ (n:Nat)(G:List Nat->Prop)(L:LN)(X D:Nat)(vL:V)(h5:H)(i:Nat)(hh:H):Prop where
 ex: ∃vK ks W,hh.get (X+8)=some (.cells false [vL,.mp (X+3),vK,.sl (X+6) 0 L.length (.kn L.length)])/\cQ hh vK 4 (Cls.rJ ks) (D+1)/\aM (KO n G L X W hh) ks (jY G L i)/\Dg W vK/\W D/\W (X+8)/\W (X+6)/\(∀q,W q->q<hh.next)/\(∀q,W q->X<=q)/\(ks= []∨ ∃id cap,vK= .sl id 0 ks.length cap/\hh.get id=some (.cells false (Cls.rJ ks)))
 gD:hh.get D=some (.cells false (rc L.length λj=> .bool (Im G L i [] j)))
 old:Fx (λq=>q=X+8∨D<=q) h5 hh
 nx:D<hh.next
def WA (n:Nat):C->Bool
 | .block k _=>k==n
 | .seq _ b=>WA n b
 |_=>false
def Wa (n:Nat):C->C
 | .seq a b=>if WA n a then b else Wa n b
 |c=>c
structure OfE (n:Nat)(G:List Nat->Prop)(L:LN)(X D:Nat)(vL:V)(h h2 h5 h7:H):Prop where
 el:dZ G L
 le:L.length<=5040
 f2:Fr h h2
 x2:h2.next=X
 sp:SP h2 vL L
 f25:Fr h2 h5
 xD:X+10<=D
 n5:h5.next=D
 gM:h5.get (X+3)=some (.wmap .str (Is L L.length))
 gN:h5.get (X+6)=some (.cells false (rc L.length λ_=> aC 0))
 j:OfJ n G L X D vL h5 L.length h7
theorem ZM {W0:Nat->Prop}(vc:V)(n:Nat)(O:LN)(R:fM)(G:List Nat->Prop)(h:H)(gc:GC W0 h vc n O R G)(P:V->H->Prop)
  (hk: ∀L X D vL h2 h5 h7 A (g:Nat->V),dG O R n 0 (bT n)=L->OfE n G L X D vL h h2 h5 h7->Wp T none (Wa 2 lY.fn.body) ([g 0,.ptr A 0,.nilp,aC 0,vL,g 5,.ptr (X+8) 0,g 7,g 8,g 9,g 10,g 11,g 12,g 13,g 14,g 15,g 16,g 17,g 18,g 19,g 20,g 21,g 22,g 23,g 24,g 25,g 26,g 27,g 28,g 29,g 30,g 31,g 32,g 33,g 34,g 35,g 36,g 37,g 38,g 39,g 40,g 41,g 42,g 43,g 44,g 45]) h7 (KY lY.fn.results P)):
  Ev T 139 [vc] h P:=by
 obtain⟨vO,vR,e,sO,sR⟩:=gc.ch
 subst e
 refine cT lY rfl ?_
 have j2:vO.one=true:=Vu sO
 have l2:vR.one=true:=Rd sR
 obtain⟨A,hA⟩:=exI h.next
 obtain⟨d,e1,n1,g1,o1,f1⟩:=cU hA [aC n,vO,vR]
 have bx:=aQ h (v:= aC n) (u:=vO) (w:=vR) rfl j2 l2
 have rB:=aG g1
 obtain⟨L,hL⟩:=exI (dG O R n 0 (bT n))
 obtain⟨E,ll⟩:=dL gc.dH gc.isc
 have r5:=fK gc
 rw[hL] at E ll
 have hG:=gc.dH
 have n7:=gc.n7
 have n0:=gc.n0
 simp(disch:=omega)only[go_sem,lY,aD,bx,hA,e1,rB]
 refine (Uz _ n O R G d (gc.mono f1)).mono ?_
 rw[hL]
 rintro _ h2 ⟨vL,rfl,nw⟩
 obtain⟨wL,W,c5,i6,q4,W1⟩:=nw.ex
 have i5:=aM.length i6
 obtain⟨m,hm⟩:=exI L.length
 rw[hm] at i5
 have e7:=cQ.lens c5 i5
 have c9:=c5.sv.cF.2.1
 have f2:=nw.fr
 simp(disch:=omega)only[go_sem,e7]
 refine bA (λhc=>(hc rfl).elim) (λ_=>?_)
 obtain⟨X,hX⟩:=exI h2.next
 simp(disch:=omega)only[go_sem,e7,pQ _ m om,hX,KK c5.sv.cF.1 c9,KV c9]
 obtain⟨h3,a1⟩: ∃h3:H,h3=H.mk ((H.mk ((H.mk ((H.mk h2.tr (X+3)).new (Ob.wmap Ci.str [])).tr (X+6)).new (Ob.cells false (rc m λ_=>aC 0))).tr (X+8)).new (Ob.cells false [vL,.mp (X+3),.aE,.sl (X+6) 0 m (.kn m)])).tr (X+10):=⟨_,rfl⟩
 rw[←a1]
 have n3:h3.next=X+10:=by rw[a1]
 have gB:h3.get (X+8)=some (.cells false [vL,.mp (X+3),.aE,.sl (X+6) 0 m (.kn m)]):=by rw[a1];exact H.aL (H.mk _ (X+8)) _
 have gN:h3.get (X+6)=some (.cells false (rc m λ_=>aC 0)):=by
  rw[a1];exact (H.bD (H.mk _ (X+8)) (show X+6≠X+8 by omega) _).trans (H.aL (H.mk _ (X+6)) _)
 have gM:h3.get (X+3)=some (.wmap .str (Is L 0)):=by
  rw[a1];exact (H.bD (H.mk _ (X+8)) (show X+3≠X+8 by omega) _).trans ((H.bD (H.mk _ (X+6)) (show X+3≠X+6 by omega) _).trans (H.aL (H.mk _ (X+3)) _))
 have f3:Fr h2 h3:=⟨om,λq hq=>by
  rw[a1]
  exact (H.bD (H.mk _ (X+8)) (show q≠X+8 by omega) _).trans ((H.bD (H.mk _ (X+6)) (show q≠X+6 by omega) _).trans (H.bD (H.mk _ (X+3)) (show q≠X+3 by omega) _))⟩
 clear a1
 have a0: ∀i,i<m->(L.getD i []).length<=1000/\ ∀x∈L.getD i [],x<256:=λi hi=>by
  have P:=mV hG E (show i<L.length by omega);exact⟨by rw[P.len];omega,λx hx=>by have:=P.lt x hx;omega⟩
 obtain⟨m9,k0,c3,j4,g4⟩:=SV.shape c5.sv m om om
 have f0: ∀i,i<m-> ∃vx,(∀h',Fr h2 h'->h'.cell m9 (k0+i)=some vx)/\SI h2 vx (zi (L.getD i [])):=λi hi=>by
  obtain⟨v,d,b3⟩:=dW.at i6 (i:=i) om;exact⟨v,λh' f=>by rw[f.cell (j4 om),g4 i om,d],b3.si⟩
 have hK: ∀i,i<m->isKey .str (.str (L.getD i []))=true:=λi hi=>yF (a0 i hi).1 (a0 i hi).2
 refine bQ (λvs B=>(∃g:Nat->V,vs= [g 0,.ptr A 0,.nilp,aC 0,vL,g 5,.ptr (X+8) 0,g 7,g 8,g 9,g 10,g 11,g 12,g 13,g 14,g 15,g 16,g 17,g 18,g 19,g 20,g 21,g 22,g 23,g 24,g 25,g 26,g 27,g 28,g 29,g 30,g 31,g 32,g 33,g 34,g 35,g 36,g 37,g 38,g 39,g 40,g 41,g 42,g 43,g 44,g 45])/\B.get (X+3)=some (.wmap .str (Is L m))/\Fx (· =X+3) h3 B) ?_ ?_
 ·refine aI (λk' vs B=> ∃(i:Nat),(∃g:Nat->V,vs= [g 0,.ptr A 0,.nilp,aC 0,vL,g 5,.ptr (X+8) 0,g 7,g 8,g 9,g 10,g 11,g 12,g 13,g 14,g 15,g 16,g 17,g 18,g 19,g 20,g 21,g 22,vL,aC m,aC i,g 26,g 27,g 28,g 29,g 30,g 31,g 32,g 33,g 34,g 35,g 36,g 37,g 38,g 39,g 40,g 41,g 42,g 43,g 44,g 45])/\i<=m/\B.get (X+3)=some (.wmap .str (Is L i))/\Fx (· =X+3) h3 B/\k'=m-i) m
   ⟨0,aB rfl,fR _,gM,Fx.refl _ h3,rfl⟩ ?_
  rintro k' F h4 ⟨i,⟨g,rfl⟩,hi,b5,F4,rfl⟩
  by_cases b7:(i:Int)<(m:Int)
  case neg=>
   have d4:=bE b7;obtain rfl:i=m:=om
   simp(disch:=omega)only[go_sem,d4];exact⟨aB rfl,b5,F4⟩
  have d4:=bN b7
  have a3:i<m:=om
  have b4:Fr h2 h4:=⟨by have:=F4.next;omega,λq hq=>by rw[F4.get q om om];exact f3.get q hq⟩
  have c0:h4.get (X+8)=some (.cells false [vL,.mp (X+3),.aE,.sl (X+6) 0 m (.kn m)]):=by rw[F4.get _ om om];exact gB
  obtain⟨vx,cx,sx⟩:=f0 i a3
  have c7:h4.cell (X+8) 1=some (.mp (X+3)):=by rw[H.aF c0];rfl
  simp(disch:=omega)only[go_sem,d4,c3.ixa,cx h4 b4,c7]
  refine (IN vx (L.getD i []) _ (a0 i a3).1 (a0 i a3).2 (sx.mono (b4.trans ((Fr.refl h4).bH om)))).mono ?_
  rintro _ h5 ⟨rfl,f5⟩
  have b9:Fr h4 h5:=((Fr.refl h4).bH om).trans f5
  have n4:=F4.next
  have m2:h5.get (X+3)=some (.wmap .str (Is L i)):=by rw[b9.get _ om];exact b5
  have o2:h5.cell (X+8) 1=some (.mp (X+3)):=by rw[b9.cell om];exact c7
  have pt:=λB=>Xv E.nodup (show i<L.length by omega) (hK i a3) B (X+3)
  simp(disch:=omega)only[go_sem,o2,m2,pt]
  rw[dU i]
  refine⟨by simp [dB],m-(i+1),om,i+1,aB rfl,om,rfl,⟨by have:=b9.next;show h3.next<=h5.next;omega,λq d h2=>by rw[H.aH _ (λe=>h2 e),b9.get q om];exact F4.get q d h2⟩,rfl⟩
 rintro F h4 ⟨⟨g,rfl⟩,b5,F4⟩
 have n4:=F4.next
 have b4:Fr h2 h4:=⟨om,λq hq=>by rw[F4.get q om om];exact f3.get q hq⟩
 have c0:h4.get (X+8)=some (.cells false [vL,.mp (X+3),.aE,.sl (X+6) 0 m (.kn m)]):=by rw[F4.get _ om om];exact gB
 have l0:h4.get (X+6)=some (.cells false (rc m λ_=>aC 0)):=by rw[F4.get _ om om];exact gN
 have i2:=f2.trans b4
 have rA:=aG (h:=h4) (id:=A) (ro:=false) (by rw[i2.get _ om];exact g1)
 simp(disch:=omega)only[go_sem,rA]
 refine (Tp _ n O R G h4 (gc.mono (f1.trans i2))).mono ?_
 rintro _ h5 ⟨vS,rfl,nS⟩
 have f5:=nS.fr
 obtain⟨D,hD⟩:=exI h5.next
 obtain⟨h6,e6,n6,g6,o6,f6⟩:=cU hD (rc m λ_=>V.bool false)
 simp(disch:=omega)only[go_sem,e7,Sg,hD,e6]
 have e0:=b4.trans f5
 have q7:=e0.next
 have n5:=f5.next
 obtain⟨wS,WS,d8,d1,q3,p0⟩:=nS.ex
 obtain⟨S,hS⟩:=exI (bM R)
 rw[hS] at d1
 have l5:=aM.length d1
 have a4: ∀s∈S,G s:=λs hs=>bY gc.isc (by rw[hS];exact hs)
 have a8: ∀x,G x->cG n (λg=>g∈S) x:=λx hx=>by rw[←hS];exact lF hG gc.isc hx
 obtain⟨sl,e3⟩:=exI S.length
 have q2:sl<=49:=by
  have d: ∀j,j<R.length->(R.getD j []).length<=n:=λj N=>by
   have c6:j<n:=by rw[←gc.isc.lr];exact N
   rw[gc.isc.rl j c6];have:=lQ (λx hx=>hG.cX hx) c6 (gc.isc.asc j c6) (gc.isc.mem j c6);omega
  have h2:=tH (n:=n) (R:=R) (eH _) d;rw[List.take_length,hS,e3,gc.isc.lr] at h2;have:n*n<=7*7:=Nat.mul_le_mul n7 n7;omega
 have o4:=cQ.lens d8 (l5.trans e3)
 obtain⟨a5,h0,j0,g7,o7⟩:=SV.shape d8.sv sl om om
 have m1:=cQ.ge d8 (n:=sl) om om j0
 have p4: ∀t,t<sl-> ∃vy,(∀B,Fx (λq=>q=X+8∨D<=q) h5 B->B.cell a5 (h0+t)=some vy)/\PV (λq=>q=X+8∨D<=q) h5 vy (S.getD t []):=λt ht=>by
  obtain⟨v,d,b3⟩:=dW.at d1 (i:=t) om;have hi:=g7 om;have r4:h4.next<=a5:=m1 om;refine⟨v,λB f=>?_,b3.iP λid r2 hw=>p0 id ?_⟩
  ·have e:B.get a5=h5.get a5:=f.get a5 hi om
   unfold H.cell;rw[e];have:=o7 t om;rw[d] at this;exact this
  ·rcases hw with e|e
   ·omega
   ·omega
 have J0:OfJ n G L X D vL h5 0 h6:=
  ⟨⟨.aE, [],λq=>q=D∨q=X+8∨q=X+6,by rw[f6.get _ om,f5.get _ om,hm];exact c0,cQ.aE _ _ _,trivial,λ_ _ _ _ e=>(by cases e),.inl rfl,.inr (.inl rfl),.inr (.inr rfl),λq h=>by rcases h with h|h|h<;>omega,λq h=>by rcases h with h|h|h<;>omega,.inl rfl⟩,
   by rw[g6,hm,show (λj=>V.bool (Im G L 0 [] j))=λ_=>V.bool false from funext λj=>by rw[QD]],Fx.of f6,om⟩
 refine bQ (λvs B=>(∃g:Nat->V,vs= [g 0,.ptr A 0,.nilp,aC 0,vL,g 5,.ptr (X+8) 0,g 7,g 8,g 9,g 10,g 11,g 12,g 13,g 14,g 15,g 16,g 17,g 18,g 19,g 20,g 21,g 22,g 23,g 24,g 25,g 26,g 27,g 28,g 29,g 30,g 31,g 32,g 33,g 34,g 35,g 36,g 37,g 38,g 39,g 40,g 41,g 42,g 43,g 44,g 45])/\OfJ n G L X D vL h5 m B) ?_ ?_
 ·refine aI (λk' vs B=> ∃(i:Nat),(∃g:Nat->V,vs= [g 0,.ptr A 0,.nilp,aC 0,vL,g 5,.ptr (X+8) 0,g 7,g 8,vS,.sl D 0 m (.kn m),g 11,g 12,g 13,g 14,g 15,g 16,g 17,g 18,g 19,g 20,g 21,g 22,g 23,g 24,g 25,g 26,vL,aC m,aC i,g 30,g 31,g 32,g 33,g 34,g 35,g 36,g 37,g 38,g 39,g 40,g 41,g 42,g 43,g 44,g 45])/\i<=m/\OfJ n G L X D vL h5 i B/\k'=m-i) m
   ⟨0,aB rfl,fR _,J0,rfl⟩ ?_
  clear J0
  rintro k' F h7 ⟨i,⟨g,rfl⟩,hi,J,rfl⟩
  by_cases b7:(i:Int)<(m:Int)
  case neg=>
   have d4:=bE b7;obtain rfl:i=m:=om
   simp(disch:=omega)only[go_sem,d4];exact⟨aB rfl,J⟩
  have d4:=bN b7
  have a3:i<m:=om
  have nD:=J.nx
  have a6:Fr h2 h7:=⟨om,λq hq=>by rw[J.old.get q om om];exact e0.get q hq⟩
  obtain⟨vx,cx,sx⟩:=f0 i a3
  have cD:=qF J.gD (i:=i) om
  by_cases hr:JL G L i
  case neg=>
   have d2:Im G L i [] i=true:=by
    rw[mN];exact .inl (Kh λhn=>hr λj N hc=>hn ⟨j,N,hc⟩)
   rw[d2] at cD;simp(disch:=omega)only[go_sem,d4,c3.ixa,cx h7 a6,cD];rw[dU i];refine⟨m-(i+1),om,i+1,aB rfl,om,?_,rfl⟩;refine⟨?_,?_,J.old,J.nx⟩
   ·rw[(Mn i).2 hr];exact J.ex
   ·rw[J.gD,dA λj _=>by rw[UH hG E (show i<L.length by omega) hr j]]
  have d2:Im G L i [] i=false:=by
   rw[←Bool.not_eq_true,mN];rintro (⟨j,N,hc⟩|h)
   ·exact hr j N hc
   ·cases h
  rw[d2] at cD
  obtain⟨h8,e8,n8,g8,o8⟩:=mD h7 D ((rc L.length λj=> .bool (Im G L i [] j)).set i (.bool true))
  obtain⟨Z,hZ⟩:=exI h8.next
  obtain⟨h9,e9,n9,g9,o9,f9⟩:=cU hZ [aC i]
  have pt:=bP (vs:=rc L.length λj=> .bool (Im G L i [] j)) (off:=i) (by rw[jE];omega)
  clear bx gc sO sR rB rA g4 l0 c0 g1 o1 f1 f3 gB gN gM
  simp(disch:=omega)only[go_sem,d4,c3.ixa,cx h7 a6,cD,J.gD,pt,e8,bZ h8 (z:= aC 0) (v:= aC i) rfl rfl,hZ,e9]
  have r6:h7.next=Z:=om
  have b6:(rc L.length λj=>V.bool (Im G L i [] j)).set i (.bool true)=rc L.length λj=> .bool (Im G L i [i] j):=by
   rw[kX]
   exact dA λj _=>by
    rw[show [i]= []++ [i] from rfl,AK]
    by_cases e:j=i
    ·rw[bJ e,bJ e]
    ·rw[bL e,bL e]
  have d3:Fx (· =D) h7 h9:=⟨om,λq d h2=>by rw[o9 q om,o8 q h2]⟩
  have B0:BQ G L S i [i] 0:=⟨by simp,by simp,rfl,λj N=>by
   obtain rfl:j=i:=by simpa using N
   exact⟨om,Vw hG E om⟩,λk hk=>om⟩
  refine bQ (λvs B=> ∃(Q:List Nat) (q:Nat) (o:pF),(∃g:Nat->V,vs= [g 0,.ptr A 0,.nilp,aC 0,vL,g 5,.ptr (X+8) 0,g 7,g 8,vS,.sl D 0 m (.kn m),aC i,vx,.sl q 0 Q.length o,g 14,g 15,g 16,g 17,g 18,g 19,g 20,g 21,g 22,g 23,g 24,g 25,g 26,vL,aC m,aC i,g 30,g 31,g 32,g 33,g 34,g 35,g 36,g 37,g 38,g 39,g 40,g 41,g 42,g 43,g 44,g 45])/\
    BQ G L S i Q Q.length/\(o= .un 1∨o= .kn Q.length)/\B.get q=some (.cells false (ints (zi Q)))/\Z<=q/\q<B.next/\B.get D=some (.cells false (rc L.length λj=> .bool (Im G L i Q j)))/\Fx (· =D) h7 B) ?_ ?_
  ·refine aI (λk' vs B=> ∃(Q:List Nat) (q:Nat) (o:pF) (p:Nat),(∃g:Nat->V,vs= [g 0,.ptr A 0,.nilp,aC 0,vL,g 5,.ptr (X+8) 0,g 7,g 8,vS,.sl D 0 m (.kn m),aC i,vx,.sl q 0 Q.length o,aC p,g 15,g 16,g 17,g 18,g 19,g 20,g 21,g 22,g 23,g 24,g 25,g 26,vL,aC m,aC i,g 30,g 31,g 32,g 33,g 34,g 35,g 36,g 37,g 38,g 39,g 40,g 41,g 42,g 43,g 44,g 45])/\
    p<=Q.length/\BQ G L S i Q p/\(o= .un 1∨o= .kn Q.length)/\B.get q=some (.cells false (ints (zi Q)))/\Z<=q/\q<B.next/\B.get D=some (.cells false (rc L.length λj=> .bool (Im G L i Q j)))/\Fx (· =D) h7 B/\k'=m-p) m
    ⟨[i],Z,_,0,aB rfl,fR _,B0,.inr rfl,g9,eH _,om,by rw[o9 _ om,g8,b6],d3,rfl⟩ ?_
   clear d3 B0 e8 n8 g8 o8 hZ e9 n9 g9 o9 f9 pt b6
   rintro k' F ha ⟨Q,q,o,p,⟨g2,rfl⟩,hp,l,K,gq,hq,nq,gD,Fa,rfl⟩
   have b2:=l.len
   by_cases c8:(p:Int)<(Q.length:Int)
   case neg=>
    have d5:=bE c8;obtain rfl:p=Q.length:=om
    simp(disch:=omega)only[go_sem,d5];exact⟨Q,q,o,aB rfl,l,K,gq,hq,nq,gD,Fa⟩
   have d5:=bN c8
   have U:p<Q.length:=om
   simp(disch:=omega)only[go_sem,d5,o4]
   obtain⟨c,hc⟩:=exI (Q.getD p 0)
   obtain⟨i3,m3⟩:=l.mem c (by rw[←hc];exact aW U)
   have Cp:=mV hG E i3
   refine wG (λvs B=> ∃(Q:List Nat) (q:Nat) (o:pF),(∃g:Nat->V,vs= [g 0,.ptr A 0,.nilp,aC 0,vL,g 5,.ptr (X+8) 0,g 7,g 8,vS,.sl D 0 m (.kn m),aC i,vx,.sl q 0 Q.length o,aC p,g 15,g 16,g 17,g 18,g 19,g 20,g 21,g 22,g 23,g 24,g 25,g 26,vL,aC m,aC i,g 30,g 31,g 32,g 33,g 34,g 35,g 36,g 37,g 38,g 39,g 40,g 41,g 42,g 43,g 44,g 45])/\
     p<Q.length/\BQ G L S i Q (p+1)/\(o= .un 1∨o= .kn Q.length)/\B.get q=some (.cells false (ints (zi Q)))/\Z<=q/\q<B.next/\B.get D=some (.cells false (rc L.length λj=> .bool (Im G L i Q j)))/\Fx (· =D) h7 B) ?_ ?_
   ·refine aI (λk' vs B=> ∃(Q:List Nat) (q:Nat) (o:pF) (t:Nat),(∃g:Nat->V,vs= [g 0,.ptr A 0,.nilp,aC 0,vL,g 5,.ptr (X+8) 0,g 7,g 8,vS,.sl D 0 m (.kn m),aC i,vx,.sl q 0 Q.length o,aC p,g 15,g 16,g 17,g 18,g 19,g 20,g 21,g 22,g 23,g 24,g 25,g 26,vL,aC m,aC i,g 30,g 31,g 32,vS,aC sl,aC t,g 36,g 37,g 38,g 39,g 40,g 41,g 42,g 43,g 44,g 45])/\
     p<Q.length/\t<=sl/\BQ G L S i Q p/\Q.getD p 0=c/\(∀s∈S.take t,∃j∈Q,L.getD j []=cW (L.getD c []) s)/\(o= .un 1∨o= .kn Q.length)/\B.get q=some (.cells false (ints (zi Q)))/\Z<=q/\q<B.next/\B.get D=some (.cells false (rc L.length λj=> .bool (Im G L i Q j)))/\Fx (· =D) h7 B/\k'=sl-t) sl
     ⟨Q,q,o,0,aB rfl,U,fR _,l,hc,λs hs=>(by simp at hs),K,gq,hq,nq,gD,Fa,rfl⟩ ?_
    clear l K gq hq nq gD Fa hc U b2 c8 d5 hp
    clear Q q o
    rintro k' F hb ⟨Q,q,o,t,⟨g3,rfl⟩,U,ht,l,hc,d9,K,gq,hq,nq,gD,Fb,rfl⟩
    by_cases i8:(t:Int)<(sl:Int)
    case neg=>
     have d5:=bE i8;obtain rfl:t=sl:=om
     simp(disch:=omega)only[go_sem,d5];refine⟨Q,q,o,aB rfl,U,⟨l.nd,l.ne,l.hd,l.mem,λk hk s hs=>?_⟩,K,gq,hq,nq,gD,Fb⟩
     by_cases e:k=p
     ·subst e
      rw[hc];exact d9 s (by rw[←e3,List.take_length];exact hs)
     ·exact l.cl k om s hs
    have d5:=bN i8
    have p3:t<sl:=om
    have b2:=l.len
    have nb:=Fb.next
    have f4:Fx (λq=>q=X+8∨D<=q) h5 hb:=⟨by have:=J.old.next;omega,λq d h2=>by rw[Fb.get q om (λe=>h2 (.inr (by have:q=D:=e;omega)))];exact J.old.get q d h2⟩
    have c2:Fr h2 hb:=⟨om,λq hq=>by rw[Fb.get q om (λe=>by have:q=D:=e;omega)];exact a6.get q hq⟩
    obtain⟨vy,cy,py⟩:=p4 t p3
    obtain⟨vz,cz,sz⟩:=f0 c om
    obtain⟨s,hs⟩:=exI (S.getD t [])
    rw[hs] at py
    have c1:s∈S:=by rw[←hs];exact aW om
    have Sp:=hG.cX (a4 s c1)
    have cq:hb.cell q p=some (aC c):=by rw[H.aF gq,Iq U,hc]
    simp(disch:=omega)only[go_sem,d5,j0.ixa,cy hb f4,cq,c3.ixa,cz hb c2]
    refine (Bw uG.ok vy n s _ om Sp ((py.fx f4).si.mono ((Fr.refl hb).bH om))).mono ?_
    rintro l7 k1 j3
    have K1:Fr hb k1:=((Fr.refl hb).bH om).trans j3.fr
    have l6:k1.cell q p=some (aC c):=by rw[K1.cell nq];exact cq
    have ez:=sz.dB
    simp(disch:=omega)only[go_sem,l6,cz k1 (c2.trans K1),ez]
    refine (Zf l7 vz (cY s) (L.getD c []) k1 (by rw[iR,Sp.len];omega) (j3.pv (W:=λ_=>False) id).si (sz.mono (c2.trans K1)) (λj N=>by rw[Cp.len];exact Sp.inv.gW (by rw[←Sp.inv.len];exact N))).mono ?_
    rintro p2 k2 j5
    have K2:=K1.trans j5.fr
    have P2:=Sp.inv.mul Cp
    simp(disch:=omega)only[go_sem]
    refine (Zf p2 vy _ s k2 (by rw[P2.len];omega) (j5.pv (W:=λ_=>False) id).si ((py.fx f4).si.mono K2) (λj N=>by rw[Sp.len];exact P2.gW (by rw[←P2.len];exact N))).mono ?_
    rintro p6 k3 j1
    have K3:=K2.trans j1.fr
    have P3:=P2.mul Sp
    have o0:k3.cell q p=some (aC c):=by rw[K3.cell nq];exact cq
    have f7:=(j1.pv (W:=λ_=>False) id).si
    have q8:=f7.cF.2.1
    have e4: ∃vK,k3.get (X+8)=some (.cells false [vL,.mp (X+3),vK,.sl (X+6) 0 L.length (.kn L.length)]):=by
     obtain⟨vK,_,_,gB,_⟩:=J.ex;exact⟨vK,by rw[K3.get _ om,Fb.get _ om (λe=>by have:X+8=D:=e;omega)];exact gB⟩
    obtain⟨vK,e4⟩:=e4
    have f8:k3.cell (X+8) 1=some (.mp (X+3)):=by rw[H.aF e4];rfl
    obtain⟨j,N,ej⟩: ∃j,j<L.length/\L.getD j []=cW (L.getD c []) s:=by
     have l4:cW (L.getD c []) s∈L:=(E.mem _).2 (hG.mul (hG.mul (hG.inv (a4 s c1)) (Bp E i3)) (a4 s c1));obtain⟨j,N,ej⟩:=wV.1 l4;exact⟨j,N,by rw[List.getD,dF N,←ej];rfl⟩
    have o3:aX (aX (cY s) (L.getD c [])) s=L.getD j []:=ej.symm
    rw[o3] at f7
    simp(disch:=omega)only[go_sem,o0,cz k3 (c2.trans K3),f8,ez]
    refine (IN p6 (L.getD j []) _ (a0 j om).1 (a0 j om).2 (f7.mono ((Fr.refl k3).bH om))).mono ?_
    rintro _ k4 ⟨rfl,p8⟩
    have j6:Fr k3 k4:=((Fr.refl k3).bH om).trans p8
    have K4:=K3.trans j6
    have r3:=K3.next
    have d0:k4.get (X+3)=some (.wmap .str (Is L L.length)):=by
     rw[K4.get _ om,Fb.get _ om (λe=>by have:X+3=D:=e;omega),J.old.get _ om om,f5.get _ om,hm];exact b5
    have l1:k4.cell (X+8) 1=some (.mp (X+3)):=by rw[j6.cell om];exact f8
    have lk:=λz=>Pn E.nodup N (hK j om) z
    have c4:k4.cell D j=some (.bool (Im G L i Q j)):=by rw[K4.cell om];exact qF gD N
    have j7:cR G L i j:=wZ hG E om m3 ⟨s,a4 s c1,ej.symm⟩
    have i4:S.take (t+1)=S.take t++ [s]:=by rw[dE [] om,hs]
    have j9:k4.get q=some (.cells false (ints (zi Q))):=by rw[K4.get _ nq];exact gq
    have g0:k4.get D=some (.cells false (rc L.length λj=> .bool (Im G L i Q j))):=by rw[K4.get _ om];exact gD
    have i1:Fx (· =D) h7 k4:=⟨by have:=K4.next;omega,λq d h2=>by rw[K4.get q om];exact Fb.get q d h2⟩
    cases hsn2:Im G L i Q j with
    |true=>
     rw[hsn2] at c4
     have d7:j∈Q:=by
      rcases mN.1 hsn2 with ⟨i0,d,b3⟩|d
      ·exact absurd (wZ hG E om b3 (Lr hG E om j7)) (hr i0 d)
      ·exact d
     simp(disch:=omega)only[go_sem,l1,d0,lk,c4];rw[dU t];refine⟨by simp [dB],sl-(t+1),om,Q,q,o,t+1,aB rfl,U,om,l,hc,?_,K,j9,hq,by have:=K4.next;omega,g0,i1,rfl⟩;rw[i4];intro s' a9;rcases kT.1 a9 with d|d
     ·exact d9 s' d
     ·obtain rfl:s'=s:=by simpa using d
      exact⟨j,d7,ej⟩
    |false=>
     rw[hsn2] at c4;have d7:j∉Q:=λd=>by rw[mN.2 (.inr d)] at hsn2;cases hsn2
     obtain⟨k5,e5,m5,g5,o5⟩:=mD k4 D ((rc L.length λj=> .bool (Im G L i Q j)).set j (.bool true));obtain⟨Y,hY⟩:=exI k5.next;obtain⟨k6,l8,m6,p1,d6,r1⟩:=cU hY [aC j];have pt:=bP (vs:=rc L.length λj=> .bool (Im G L i Q j)) (off:=j) (by rw[jE];exact N);have nk:=K4.next;have m0:k6.get q=some (.cells false (ints (zi Q))):=by rw[d6 _ om,o5 _ om];exact j9
     have q0:cQ k6 (.sl q 0 Q.length o) 1 (ints (zi Q)) 0:= .inr ⟨q,Q.length,o, [],rfl,by rw[aP,aN];simp,by rcases K with d|d;exact .inl d;exact .inr ⟨d,rfl⟩,fR _,om,by rw[tD];exact m0⟩;obtain⟨k7,a7,p7⟩:=q0.push (bytes:=8) (SV.one (v:= aC j) (id:=Y) om p1 (.kn 1)) (n:=Q.length) (m:=1) (by rw[aP,aN];simp) rfl om om om;simp(disch:=omega)only[go_sem,l1,d0,lk,c4,g0,pt,e5,bZ k5 (z:= aC 0) (v:= aC j) rfl rfl,hY,l8,a7];rw[dU t];have el:ints (zi (Q++ [j]))=ints (zi Q)++ [aC j]:=by simp [zi,ints]
     have m7:=p7.next;have n2:cZ (.sl q 0 Q.length o) D:=λid off n c e e2=>by cases e;omega
     have b6:(rc L.length λj'=>V.bool (Im G L i Q j')).set j (.bool true)=rc L.length λj'=> .bool (Im G L i (Q++ [j]) j'):=by
      rw[kX]
      exact dA λj' _=>by
       rw[AK]
       by_cases e:j'=j
       ·rw[bJ e,bJ e]
       ·rw[bL e,bL e]
     refine⟨by simp [dB],sl-(t+1),om,Q++ [j],k6.next,.un 1,t+1,by rw[iA];exact aB rfl,by rw[iA];omega,om,⟨?_,by rw[iA];simp,?_,?_,?_⟩,?_,?_,.inl rfl,by rw[el];exact p7.get,om,om,?_,?_,rfl⟩
     ·rw[List.nodup_append]
      exact⟨l.nd,by simp,λx hx y hy e=>by
       obtain rfl:y=j:=by simpa using hy
       exact d7 (e▸hx)⟩
     ·rw[List.getD,Ej l.ne];exact l.hd
     ·intro x hx
      rcases kT.1 hx with d|d
      ·exact l.mem x d
      ·obtain rfl:x=j:=by simpa using d
       exact⟨N,j7⟩
     ·intro k hk s' a9
      obtain⟨y,hy,ey⟩:=l.cl k hk s' a9;refine⟨y,kT.2 (.inl hy),?_⟩;rw[ey,List.getD,List.getD,List.getD,List.getD,Ej om]
     ·rw[List.getD,Ej U];exact hc
     ·rw[i4]
      intro s' a9;rcases kT.1 a9 with d|d
      ·obtain⟨y,hy,ey⟩:=d9 s' d
       exact⟨y,kT.2 (.inl hy),ey⟩
      ·obtain rfl:s'=s:=by simpa using d
       exact⟨j,kT.2 (.inr (by simp)),ej⟩
     ·rw[p7.old D om n2,d6 D om,g5,b6]
     ·refine⟨om,λx d h2=>?_⟩
      rw[p7.old x om (λid off n c e e2=>by cases e;omega),d6 x om,o5 x h2];exact i1.get x d h2
   clear l K gq hq nq gD Fa hc c8 d5 hp U b2
   clear Q q o
   rintro F hb ⟨Q,q,o,⟨g3,rfl⟩,U,a2,K,gq,hq,nq,gD,Fb⟩
   have b2:=a2.len
   simp(disch:=omega)only[go_sem]
   rw[dU p]
   exact⟨m-(p+1),om,Q,q,o,p+1,aB rfl,om,a2,K,gq,hq,nq,gD,Fb,rfl⟩
  clear d3 B0 e8 n8 g8 o8 hZ e9 n9 g9 o9 f9 pt b6
  rintro F hb ⟨Q,q,o,⟨g3,rfl⟩,a2,K,gq,hq,nq,gD,Fb⟩
  have b2:=a2.len
  have nb:=Fb.next
  have l3:=Ma hb q (zi Q) o (by rw[aN];omega) gq nq
  rw[aN] at l3
  simp(disch:=omega)only[go_sem]
  refine l3.mono ?_
  rintro _ ka ⟨l',gl,pl,al,Fa⟩
  obtain rfl:=a2.sort hG E (eH _) om a4 a8 pl al
  have i9:Q.length=(kG G L i).length:=by have:=pl.length_eq;rw[aN,aN] at this;exact this.symm
  have na:=Fa.next
  have p5:Fr h2 ka:=⟨om,λx hx=>by rw[Fa.get x om (λe=>by have:x=q:=e;omega),Fb.get x om (λe=>by have:x=D:=e;omega)];exact a6.get x hx⟩
  have X1:=mV hG E (show i<L.length by omega)
  simp(disch:=omega)only[go_sem]
  refine (QV vx n (L.getD i []) ka n0 n7 X1 (sx.mono p5)).mono ?_
  rintro _ kb ⟨rfl,fb⟩
  have q6:=fb.next
  obtain⟨vK,ks,WK,gB,b1,aK,bK,wD,wB,wN,wn,wX,_⟩:=J.ex
  have q9:=aM.length aK
  have j8:kb.get (X+8)=some (.cells false [vL,.mp (X+3),vK,.sl (X+6) 0 L.length (.kn L.length)]):=by
   rw[fb.get _ om,Fa.get _ om (λe=>by have:X+8=q:=e;omega),Fb.get _ om (λe=>by have:X+8=D:=e;omega)];exact gB
  have c7:kb.cell (X+8) 2=some vK:=by rw[H.aF j8];rfl
  have b8:=sx.cF.2.1
  have q5:=b1.sv.dB
  obtain⟨Y,hY⟩:=exI kb.next
  obtain⟨kc,ec,mc,p9,oc,fc⟩:=cU hY [vx,aC (pI (L.getD i []) n:Nat),aC (Q.length:Int),.sl q 0 Q.length o]
  have b0: ∀x,x<Z->x≠D->kc.get x=h7.get x:=λx d h2=>by
   rw[oc x om,fb.get x om,Fa.get x om (λe=>by have:x=q:=e;omega),Fb.get x om h2]
  have i7:cQ kc vK 4 (Cls.rJ ks) (D+1):=b1.mono om λid off n' c e d h2=>b0 id om om
  have lr:=Ca (G:=G) (L:=L) i
  obtain⟨kd,ad,pd⟩:=i7.push (bytes:=64) (y:= .sl Y 0 1 (.kn 1)) (us:= [vx,aC (pI (L.getD i []) n:Nat),aC (Q.length:Int),.sl q 0 Q.length o]) (SV.all rfl om p9 _) (n:=ks.length) (m:=1) (Re ks) rfl om om om
  have md:=pd.next
  have m4:cZ vK (X+8):=λid off n' c e e2=>by have:=(b1.in _ _ _ _ e).2.1;omega
  have m8:kd.get (X+8)=some (.cells false [vL,.mp (X+3),vK,.sl (X+6) 0 L.length (.kn L.length)]):=by
   rw[pd.old _ om m4,oc _ om];exact j8
  obtain⟨ke,ee,me,ge,oe⟩:=mD kd (X+8) [vL,.mp (X+3),.sl kc.next 0 (ks.length+1) (.un 4),.sl (X+6) 0 L.length (.kn L.length)]
  simp(disch:=omega)only[go_sem,c7,LL sx.cF.1 b8,NU b8 (w:= .sl q 0 Q.length o) rfl rfl,KC b8 (w:= .sl q 0 Q.length o) rfl,hY,ec,ad,m8,MH,ee]
  rw[dU i]
  have k9: ∀x,x<Z-> ¬WK x->ke.get x=h7.get x:=λx d h2=>by
   rw[oe x (λe=>h2 (e▸wB)),pd.old x om (λid off n' c e e2=>h2 (e2▸bK _ _ _ _ e)),b0 x d (λe=>h2 (e▸wD))]
  have FK:Fx WK h7 ke:=⟨om,λx d h2=>k9 x om h2⟩
  have l9:Fr h2 ke:=⟨om,λx hx=>by rw[k9 x om (λd=>by have:=wX x d;omega)];exact a6.get x hx⟩
  have k8:Cls.rJ (ks++ [⟨vx,pI (L.getD i []) n,Q.length,.sl q 0 Q.length o,i,⟨sx.cF.1,b8,sx.dB⟩,⟨rfl,rfl,by simp [dB]⟩⟩])=Cls.rJ ks++ [vx,aC (pI (L.getD i []) n:Nat),aC (Q.length:Int),.sl q 0 Q.length o]:=by
   simp [Cls.rJ,Cls.KE.enc]
  refine⟨m-(i+1),om,i+1,aB rfl,om,⟨⟨_,ks++ [⟨vx,pI (L.getD i []) n,Q.length,.sl q 0 Q.length o,i,⟨sx.cF.1,b8,sx.dB⟩,⟨rfl,rfl,by simp [dB]⟩⟩],λx=>WK x∨x=kc.next,ge,?_,?_,λid off n' c e=>by cases e;exact .inr rfl,   .inl wD,.inl wB,.inl wN,λx h=>by rcases h with h|h;have:=wn x h;omega;omega,λx h=>by rcases h with h|h;exact wX x h;omega,.inr ⟨_,_,by rw[iA];rfl,?_⟩⟩,?_,?_,om⟩,rfl⟩
  ·rw[k8]
   exact (pd.own (b:=D+1) (Re ks) rfl om).mono om λid off n' c e d h2=>by cases e;exact oe _ om
  ·rw[(Mn i).1 hr]
   refine aM.append (aK.mono λa r k=>k.go FK om wX λx d h2=>by rcases h2 with h2|h2;exact h2;omega) ⟨⟨rfl,rfl,i9,⟨sx.mono l9,?_⟩,⟨?_,?_⟩⟩,trivial⟩
   ·rw[←hX];exact agJ sx
   ·rw[i9]
    refine SV.all (ro:=false) (by rw[aP,aN,uH]) om ?_ _
    rw[oe q om,pd.old q om (λid off n' c e e2=>by have:=wn _ (bK _ _ _ _ e);omega),oc q om,fb.get q om]
    exact gl
   ·exact λh=>by rcases h with h|h;have:=wn _ h;omega;omega
  ·rw[k8,oe _ om];exact pd.get
  ·rw[oe D om,pd.old D om (λid off n' c e e2=>by have:=(b1.in _ _ _ _ e).2.1;omega),oc D om,fb.get D om,Fa.get D om (λe=>by have:D=q:=e;omega),gD,dA λj N=>by rw[TE hG E (show i<L.length by omega) a2 a4 a8 N]]
  ·refine⟨by have:=J.old.next;omega,λx d h2=>?_⟩
   have q1:x≠X+8:=λe=>h2 (.inl e)
   have r0:x<D:=om
   rw[oe x q1,pd.old x om (λid off n' c e e2=>by have:=(b1.in _ _ _ _ e).2.1;omega),b0 x om om]
   exact J.old.get x d h2
 rintro F h7 ⟨⟨g,rfl⟩,J⟩
 exact hk L X D vL h2 h5 h7 A g hL ⟨E,om,f1.trans f2,hX,nw.sp,e0,om,hD,by rw[f5.get _ om,hm];exact b5,by rw[f5.get _ om,hm];exact l0,by rw[hm];exact J⟩
end
open Classical in
noncomputable def RI (G:List Nat->Prop)(L:LN)(K:List Nat)(j:Nat):Nat:=K.findIdx λr=>decide (cR G L r j)
structure KR (n:Nat)(G:List Nat->Prop)(L:LN)(hh:H)(a:Cls.KE)(r:Nat):Prop where
 fst:a.fst=r
 ord:a.ord=pI (L.getD r []) n
 size:a.size=(kG G L r).length
 rep:SI hh a.rep (zi (L.getD r []))
 ranks:SI hh a.ranks (zi (kG G L r))
theorem KR.mono {n:Nat}{G:List Nat->Prop}{L:LN}{h h':H}{a:Cls.KE}{r:Nat}(k:KR n G L h a r)(f:Fr h h'):KR n G L h' a r:=⟨k.fst,k.ord,k.size,k.rep.mono f,k.ranks.mono f⟩
def kLt (n:Nat)(G:List Nat->Prop)(L:LN)(r s:Nat):Prop:=pI (L.getD r []) n<pI (L.getD s []) n∨pI (L.getD r []) n=pI (L.getD s []) n/\((kG G L r).length<(kG G L s).length∨(kG G L r).length=(kG G L s).length/\r<s)
structure Cn (n:Nat)(G:List Nat->Prop)(L:LN)(K:List Nat):Prop where
 perm:K.Perm (jY G L L.length)
 asc:K.Pairwise (kLt n G L)
structure aaJ (n:Nat)(G:List Nat->Prop)(L:LN)(K:List Nat)(hh:H)(v:V):Prop where
 ex: ∃B M N S cp vL ks,v= .ptr B 0/\B<hh.next/\M<hh.next/\N<hh.next/\S<hh.next/\hh.get B=some (.cells false [vL,.mp M,.sl S 0 K.length cp,.sl N 0 L.length (.kn L.length)])/\
  hh.get M=some (.wmap .str (Is L L.length))/\hh.get N=some (.cells false (rc L.length λj=> aC (RI G L K j:Nat)))/\hh.get S=some (.cells false (Cls.rJ ks))/\aM (KR n G L hh) ks K/\SP hh vL L
theorem aaJ.mono {n:Nat}{G:List Nat->Prop}{L:LN}{K:List Nat}{h h':H}{v:V}(g:aaJ n G L K h v)(f:Fr h h'):aaJ n G L K h' v:=by
 obtain⟨B,M,N,S,p,r,b,e,m,q,d,l,i,c,o,j,a,sp⟩:=g.ex;have s:=f.next;exact⟨B,M,N,S,p,r,b,e,om,om,om,om,by rw[f.get _ m];exact i,by rw[f.get _ q];exact c,by rw[f.get _ d];exact o,by rw[f.get _ l];exact j,a.mono λ_ _ k=>k.mono f,sp.mono f⟩
section
variable {n:Nat} {G:List Nat->Prop} {L:LN} {K:List Nat} (hG:iJ n G) (E:dZ G L)
include hG E
omit hG E in
theorem Ng (a:0<L.length):0∈jY G L L.length:=pU.2 ⟨a,λj b=>om⟩
theorem YW (g:K.Perm (jY G L L.length)){k:Nat}(d:k<K.length){j:Nat}(o:j∈kG G L (K.getD k 0)):RI G L K j=k:=by
 classical
 obtain⟨q,a⟩:=tG.1 o;have c:K.Nodup:=g.nodup_iff.2 (by unfold jY;exact List.Pairwise.filter _ List.nodup_range);have l: ∀r∈K,r<L.length/\JL G L r:=λr m=>pU.1 (g.mem_iff.1 m)
 unfold RI;rw[List.findIdx_eq d];have p:K.getD k 0=K[k]:=Pm.cL d;rw[p] at a;refine⟨by simpa using a,λi hi=>?_⟩;simp only[decide_eq_false_iff_not];intro e;have f:=l K[i] (Bu _);have h:=l K[k] (Bu _);have:=UI hG E f.1 h.1 f.2 h.2 e a;have b:=OP.1 c i k om d hi;exact b this
theorem MN (c:K.Perm (jY G L L.length)){j:Nat}(a:j<L.length): ∃k,k<K.length/\j∈kG G L (K.getD k 0):=by
 obtain⟨r,h,d,e⟩:=CM hG E a;have g:r∈K:=c.mem_iff.2 (pU.2 ⟨om,d⟩);obtain⟨k,b,f⟩:=wV.1 g;exact⟨k,b,tG.2 ⟨a,by rw[Pm.cL b,f];exact e⟩⟩
end
open Classical in
noncomputable def Qy (G:List Nat->Prop)(L:LN)(K:List Nat)(k t j:Nat):Nat:=if (∃k0,k0<k/\j∈kG G L (K.getD k0 0))∨j∈(kG G L (K.getD k 0)).take t then RI G L K j else 0
theorem VG (G:List Nat->Prop)(L:LN)(K:List Nat)(j:Nat):Qy G L K 0 0 j=0:=by
 classical
 unfold Qy;rw[bL];rintro (⟨a,h,_⟩|h)
 ·omega
 ·simp at h
theorem SZ (G:List Nat->Prop)(L:LN)(K:List Nat)(k j:Nat):Qy G L K k (kG G L (K.getD k 0)).length j=Qy G L K (k+1) 0 j:=by
 classical
 unfold Qy;rw[List.take_length,List.take_zero]
 have e:((∃a,a<k/\j∈kG G L (K.getD a 0))∨j∈kG G L (K.getD k 0))↔((∃a,a<k+1/\j∈kG G L (K.getD a 0))∨j∈([]:List Nat)):=by
  constructor
  ·rintro (⟨a,c,b⟩|h)
   ·exact .inl ⟨a,om,b⟩
   ·exact .inl ⟨k,om,h⟩
  ·rintro (⟨a,c,b⟩|h)
   ·by_cases e:a=k
    ·subst e;exact .inr b
    ·exact .inl ⟨a,om,b⟩
   ·cases h
 by_cases h:((∃a,a<k/\j∈kG G L (K.getD a 0))∨j∈kG G L (K.getD k 0))
 ·rw[bJ h,bJ (e.1 h)]
 ·rw[bL h,bL (λx=>h (e.2 x))]
theorem VB {n:Nat}{G:List Nat->Prop}{L:LN}{K:List Nat}(hG:iJ n G)(E:dZ G L)(d:K.Perm (jY G L L.length)){k:Nat}(b:k<K.length){t:Nat}(a:t<(kG G L (K.getD k 0)).length)(j:Nat):
  Qy G L K k (t+1) j=if j=(kG G L (K.getD k 0)).getD t 0 then k else Qy G L K k t j:=by
 classical
 by_cases e:j=(kG G L (K.getD k 0)).getD t 0
 ·rw[bJ e]
  have c:j∈kG G L (K.getD k 0):=by rw[e];exact aW a
  unfold Qy
  rw[bJ (.inr (by rw[dE 0 a,e];simp))]
  exact YW hG E d b c
 ·rw[bL e]
  unfold Qy
  rw[dE 0 a]
  simp only[kT,List.mem_singleton,e,or_false]
theorem TH {n:Nat}{G:List Nat->Prop}{L:LN}{K:List Nat}(hG:iJ n G)(E:dZ G L)(d:K.Perm (jY G L L.length)){j:Nat}(c:j<L.length):Qy G L K K.length 0 j=RI G L K j:=by
 classical
 obtain⟨k,a,b⟩:=MN hG E d c;unfold Qy;rw[bJ (.inl ⟨k,a,b⟩)]
theorem Kc {h:H}{S:Nat}{ro:Bool}: ∀{ks:List Cls.KE} {pre:List V},h.get S=some (.cells ro (pre++Cls.rJ ks))-> ∀{i:Nat} (hi:i<ks.length),h.row S (pre.length+i*4) 4=some ks[i].enc
 | [],_,_,_,hi=>by simp at hi
 |a::r,pre,g,0,_=>by
  unfold H.row;rw[g];show sub (pre++(a.enc++Cls.rJ r)) (pre.length+0*4) 4=some a.enc;simp only[sub,Nat.zero_mul,Nat.add_zero];have:a.enc.length=4:=rfl;rw[bJ (by rw[iA,iA];omega),List.drop_left,List.take_append,Lq om,this];simp
 |a::r,pre,g,i+1,hi=>by
  have b:h.get S=some (.cells ro ((pre++a.enc)++Cls.rJ r)):=by rw[g,rS];rfl
  have:=Kc b (i:=i) (by simpa using hi);rw[iA,show a.enc.length=4 from rfl] at this;rw[show pre.length+(i+1)*4=pre.length+4+i*4 by omega];simpa using this
theorem XI (h:H)(id off:Nat)(a:Cls.KE):Xh h 4 (.ptr id off) (.agg a.enc)=dR (h.get id) h id off a.enc:=By h id off 4 _ rfl (by simp [Cls.KE.enc,a.hrep.2.1,a.hranks.2.1,show (aC (a.ord:Int)).one=true from rfl,show (aC (a.size:Int)).one=true from rfl])
theorem QF (b:H)(id:Nat)(a:Cls.KE)(x y z w:V):dR (some (.cells false [x,y,z,w])) b id 0 a.enc=some (b.set id (some (.cells false a.enc))):=by
 simp [dR,putAt,Cls.KE.enc]
theorem aM.ex {α β:Type}{R:α->β->Prop}{d:List α}{c:List β}(h:aM R d c){a:α}(e:a∈d): ∃b∈c,R a b:=by
 obtain⟨i,hi,rfl⟩:=wV.1 e;have f:=aM.length h;exact⟨c[i]'om,Bu _,aM.get h i hi om⟩
theorem SI.lit {h:H}{v:V}{l:List Int}(s:SI h v l)(q:0<l.length): ∃id off m cap,v= .sl id off (m+1) cap/\m+1=l.length/\id<h.next/\ ∀i,i<l.length->h.cell id (off+i)=some (aC (l.getD i 0)):=by
 obtain⟨id,off,j,k,f⟩:=s.open;rcases s with ⟨_,g⟩|⟨b,a,len,cap,r,t,e,p,o,_⟩
 ·have:l.length=0:=by rw[←aP,g];rfl
  omega
 ·rw[aP,uH] at p
  have c:=j.ixa .i64 0 om om;subst e;rw[Lu om om] at c;simp only[Option.some.injEq,V.ptr.injEq] at c;obtain⟨rfl,u⟩:=c;have d:a=off:=om
  subst d;exact⟨b,a,l.length- 1,cap,by rw[show l.length- 1+1=len by omega],om,o,f⟩
theorem aiS {W0:Nat->Prop}(vc:V)(n:Nat)(O:LN)(R:fM)(G:List Nat->Prop)(h:H)(gc:GC W0 h vc n O R G):
  Ev T 139 [vc] h (λv h'=> ∃p K,v= .tup [p,aC 0]/\aaJ n G (dG O R n 0 (bT n)) K h' p/\Cn n G (dG O R n 0 (bT n)) K/\Fr h h'):=by
 refine ZM vc n O R G h gc _ λL X D vL s h5 J A g hL e=>?_
 rw[hL]
 have hG:=gc.dH
 have E:=e.el
 obtain⟨vK,P,WK,gB,c0,aK,bK,wD,wB,wN,wn,wX,xK⟩:=e.j.ex
 have W:=aM.length aK
 obtain⟨m,hm⟩:=exI L.length
 have h0:0<L.length:=KH ((E.mem _).2 hG.one)
 have d2:0<P.length:=by rw[W];exact KH (Ng h0)
 obtain⟨S,cp,rfl,gS⟩: ∃id a3,vK= .sl id 0 P.length a3/\J.get id=some (.cells false (Cls.rJ P)):=by
  rcases xK with l|l
  ·subst l;simp at d2
  ·exact l
 have wS:=bK _ _ _ _ rfl
 have nS:=wn _ wS
 have d1:J.cell (X+8) 2=some (.sl S 0 P.length cp):=by rw[H.aF gB];rfl
 show Wp T none (Wa 2 lY.fn.body) _ J _
 simp(disch:=omega)only[go_sem,Wa,WA,lY,d1]
 have hR: ∀r∈jY G L L.length,r<L.length/\JL G L r:=λr N=>pU.1 N
 have c9: ∀a∈P,a.Pp J J.next S:=λa ha=>by
  obtain⟨r,N,k⟩:=aM.ex aK ha;obtain⟨a4,a1⟩:=hR r N;obtain⟨l1,l2⟩:=Tu hG E a4 a1;obtain⟨id,off,m',a3,e1,e2,e3,e4⟩:=SI.lit k.ranks.si (by rw[aN];exact l1);have ho:=k.ranks.off;rw[e1] at ho;refine⟨id,off,m',a3,e1,e3,λl=>ho (l▸wS),?_⟩;have:=e4 0 (by rw[aN];exact l1);rw[Nat.add_zero] at this;rw[this,zi,iD _ (d:=0) l1,l2,k.fst]
 refine (Cls.VJ J S J.next P cp (by rw[W];have:=Ca (G:=G) (L:=L) L.length;have:=e.le;omega) gS nS (eH _) c9).mono ?_
 rintro _ y ⟨o,b3,pm,e0,F8⟩
 obtain⟨K,hK⟩:=exI (o.map (λa:Cls.KE=>a.fst))
 have U:K.length=P.length:=by rw[←hK,iN];exact pm.length_eq
 have e6:P.map (λa:Cls.KE=>a.fst)=jY G L L.length:=by
  refine List.ext_getElem (by rw[iN];exact W) λi l s=>?_
  rw[List.getElem_map];exact (aM.get aK i (by simpa using l) s).fst
 have pK:K.Perm (jY G L L.length):=by rw[←hK,←e6];exact pm.map _
 have kK: ∀a∈o,KO n G L X WK J a a.fst:=λa ha=>by
  obtain⟨r,N,k⟩:=aM.ex aK (pm.mem_iff.1 ha);rw[k.fst];exact k
 have FK:Fx WK J y:=⟨F8.next,λq l s=>F8.get q l λh3=>s (by have:q=S:=h3;rw[this];exact wS)⟩
 have d3: ∀a∈o,KO n G L X WK y a a.fst:=λa ha=>(kK a ha).go FK (by have:=wX S wS;omega) wX λ_ _ l=>l
 have e9:=(c0.in _ _ _ _ rfl).2.1
 have xD:=e.xD
 have n8:=F8.next
 have Z:y.get (X+8)=some (.cells false [vL,.mp (X+3),.sl S 0 P.length cp,.sl (X+6) 0 L.length (.kn L.length)]):=by
  rw[F8.get _ (wn _ wB) (λl=>by have:X+8=S:=l;omega)];exact gB
 have b2:y.cell (X+8) 2=some (.sl S 0 P.length cp):=by rw[H.aF Z];rfl
 have d0:J.get (X+6)=some (.cells false (rc L.length λ_=> aC 0)):=by
  rw[e.j.old.get _ (by rw[e.n5];omega) om];exact e.gN
 have c4:y.get (X+6)=some (.cells false (rc L.length λj=> aC (Qy G L K 0 0 j:Nat))):=by
  rw[F8.get _ (wn _ wN) (λl=>by have:X+6=S:=l;omega),d0,show (λj=>aC (Qy G L K 0 0 j:Nat))=λ_=>aC 0 from funext λj=>by rw[VG];rfl]
 have b4: ∀k,k<K.length-> ∃a,o[k]? =some a/\KO n G L X WK y a (K.getD k 0):=λk hk=>by
  have w:k<o.length:=by rw[pm.length_eq,←U];exact hk
  refine⟨o[k],dF w,?_⟩;have:=d3 _ (Bu w);have e2:K.getD k 0=(o[k]).fst:=by rw[Pm.cL hk];subst hK;rw[List.getElem_map]
  rw[e2];exact this
 have le:=e.le
 have e7:K.length<=L.length:=by rw[U,W];exact Ca _
 have nN:=wn _ wN
 rw[←U] at b2 Z
 simp(disch:=omega)only[go_sem,b2]
 refine bQ (λvs u=>(∃g:Nat->V,vs= [g 0,g 1,.nilp,aC 0,g 4,g 5,.ptr (X+8) 0,g 7,g 8,g 9,g 10,g 11,g 12,g 13,g 14,g 15,g 16,g 17,g 18,g 19,g 20,g 21,g 22,g 23,g 24,g 25,g 26,g 27,g 28,g 29,g 30,g 31,g 32,g 33,g 34,g 35,g 36,g 37,g 38,g 39,g 40,g 41,g 42,g 43,g 44,g 45])/\u.get (X+6)=some (.cells false (rc L.length λj=> aC (Qy G L K K.length 0 j:Nat)))/\Fx (· =X+6) y u) ?_ ?_
 ·refine aI (λk' vs u=> ∃(k:Nat),(∃g:Nat->V,vs= [g 0,g 1,.nilp,aC 0,g 4,g 5,.ptr (X+8) 0,g 7,g 8,g 9,g 10,g 11,g 12,g 13,g 14,g 15,g 16,g 17,g 18,g 19,g 20,g 21,g 22,g 23,g 24,g 25,g 26,g 27,g 28,g 29,g 30,g 31,g 32,g 33,g 34,g 35,g 36,g 37,.sl S 0 K.length cp,aC (K.length:Int),aC k,g 41,g 42,g 43,g 44,g 45])/\k<=K.length/\u.get (X+6)=some (.cells false (rc L.length λj=> aC (Qy G L K k 0 j:Nat)))/\Fx (· =X+6) y u/\k'=K.length-k) K.length
   ⟨0,aB rfl,fR _,c4,Fx.refl _ _,rfl⟩ ?_
  rintro k' F h9 ⟨k,⟨g,rfl⟩,hk,B,z,rfl⟩
  have n9:=z.next
  by_cases b7:(k:Int)<(K.length:Int)
  case neg=>
   have d4:=bE b7;obtain rfl:k=K.length:=om
   simp(disch:=omega)only[go_sem,d4];exact⟨aB rfl,B,z⟩
  have d4:=bN b7
  have w:k<K.length:=om
  obtain⟨a,ea,ko⟩:=b4 k w
  have b1:k<o.length:=by rw[pm.length_eq,←U];exact w
  have a2:o[k]=a:=by rw[dF b1] at ea;simpa using ea
  have c1:h9.get S=some (.cells false (Cls.rJ o)):=by rw[z.get _ om (λl=>by have:S=X+6:=l;omega)];exact b3
  have a9:h9.row S (k*4) 4=some a.enc:=by
   have:=Kc (pre:= []) (by simpa using c1) b1;rw[a2] at this;simpa using this
  obtain⟨Y,hY⟩:=exI h9.next
  obtain⟨ha,a5,na,ga,oa,fa⟩:=cU hY [.aE,aC 0,aC 0,.aE]
  obtain⟨hb,b0,nb,gb,ob⟩:=mD ha Y a.enc
  have a8:hb.cell Y 3=some a.ranks:=by rw[H.aF gb];rfl
  have lr:=ko.ranks.si.lens
  rw[aN] at lr
  obtain⟨r,N⟩:=exI (K.getD k 0)
  rw[N] at ko lr
  simp(disch:=omega)only[go_sem,d4,a9,hY,a5,XI,ga,QF,b0,a8,lr]
  have d9:r∈jY G L L.length:=by rw[←N];exact pK.mem_iff.1 (aW w)
  obtain⟨a4,a1⟩:=hR r d9
  obtain⟨l1,l2⟩:=Tu hG E a4 a1
  obtain⟨Q,a0,mR,b6,e1,e2,e3,e4⟩:=SI.lit ko.ranks.si (by rw[aN];exact l1)
  have ho:=ko.ranks.off
  rw[e1] at ho
  have c3:Q≠X+6:=λl=>ho (l▸wN)
  obtain⟨c,hc⟩:=exI ((kG G L r).length)
  rw[aN,hc] at e2 e4
  have e8:c<=L.length:=by
   rw[←hc];have:=List.Nodup.length_le_of_subset (Ms (G:=G) (L:=L) r) (l₂:=List.range L.length) λj hj=>Lk.2 (tG.1 hj).1
   rwa [YI] at this
  rw[hc,e1]
  have Fb:Fx (· =X+6) y hb:=⟨om,λq l s=>by rw[ob q om,oa q om];exact z.get q l s⟩
  have b5:hb.get (X+6)=some (.cells false (rc L.length λj=> aC (Qy G L K k 0 j:Nat))):=by rw[ob _ om,oa _ om];exact B
  have c6: ∀u,Fx (· =X+6) y u->u.cell (X+8) 3=some (.sl (X+6) 0 L.length (.kn L.length)):=λu f=>by
   have:u.get (X+8)=y.get (X+8):=f.get _ (by have:=wn _ wB;omega) om;rw[H.aF (this.trans Z)];rfl
  refine wG (λvs u=>(∃g:Nat->V,vs= [g 0,g 1,.nilp,aC 0,g 4,g 5,.ptr (X+8) 0,g 7,g 8,g 9,g 10,g 11,g 12,g 13,g 14,g 15,g 16,g 17,g 18,g 19,g 20,g 21,g 22,g 23,g 24,g 25,g 26,g 27,g 28,g 29,g 30,g 31,g 32,g 33,g 34,g 35,g 36,g 37,.sl S 0 K.length cp,aC (K.length:Int),aC k,g 41,g 42,g 43,g 44,g 45])/\u.get (X+6)=some (.cells false (rc L.length λj=> aC (Qy G L K (k+1) 0 j:Nat)))/\Fx (· =X+6) y u) ?_ ?_
  ·refine aI (λk' vs u=> ∃(t:Nat),(∃g:Nat->V,vs= [g 0,g 1,.nilp,aC 0,g 4,g 5,.ptr (X+8) 0,g 7,g 8,g 9,g 10,g 11,g 12,g 13,g 14,g 15,g 16,g 17,g 18,aC k,g 20,g 21,g 22,g 23,g 24,g 25,g 26,g 27,g 28,g 29,g 30,g 31,g 32,g 33,g 34,g 35,g 36,g 37,.sl S 0 K.length cp,aC (K.length:Int),aC k,g 41,.sl Q a0 (mR+1) b6,aC c,aC t,g 45])/\t<=c/\u.get (X+6)=some (.cells false (rc L.length λj=> aC (Qy G L K k t j:Nat)))/\Fx (· =X+6) y u/\k'=c-t) c
    ⟨0,aB rfl,fR _,b5,Fb,rfl⟩ ?_
   clear b5 Fb gb ob a8 nb b0 ga oa fa na a5 a9 B z n9
   rintro k' F a6 ⟨t,⟨g2,rfl⟩,ht,a7,Fc,rfl⟩
   by_cases b8:(t:Int)<(c:Int)
   case neg=>
    have d5:=bE b8;obtain rfl:t=c:=om
    simp(disch:=omega)only[go_sem,d5];refine⟨aB rfl,?_,Fc⟩;rw[a7,show (λj=>aC (Qy G L K k t j:Nat))=λj=>aC (Qy G L K (k+1) 0 j:Nat) from funext λj=>by rw[←SZ,N,hc]]
   have d5:=bN b8
   have c7:t<c:=om
   obtain⟨x,hx⟩:=exI ((kG G L r).getD t 0)
   have d7:x<L.length:=by rw[←hx];exact (tG.1 (aW om)).1
   have c2:a6.cell Q (a0+t)=some (aC x):=by
    have e5:=e4 t c7;unfold H.cell at e5 ⊢;rw[Fc.get Q e3 c3,e5,zi,iD _ (d:=0) om,hx]
   have pt:=bP (vs:=rc L.length λj=> aC (Qy G L K k t j:Nat)) (off:=x) (by rw[jE];exact d7)
   have tl:(t:Int).toNat=t:=rfl
   simp(disch:=omega)only[go_sem,d5,c2,c6 a6 Fc,a7,pt]
   rw[dU t]
   refine⟨c-(t+1),om,t+1,aB rfl,om,?_,⟨Fc.next,λq l s=>by rw[H.aH _ s];exact Fc.get q l s⟩,rfl⟩
   rw[kX,dA λj hj=>?_]
   rw[VB hG E pK w (by rw[N];omega),N,hx]
   by_cases ej:j=x
   ·rw[bJ ej,bJ ej]
   ·rw[bL ej,bL ej]
  rintro F hd ⟨⟨g2,rfl⟩,c5,Fd⟩
  simp(disch:=omega)only[go_sem]
  rw[dU k]
  exact⟨K.length-(k+1),om,k+1,aB rfl,om,c5,Fd,rfl⟩
 rintro F h9 ⟨⟨g,rfl⟩,B,z⟩
 have n9:=z.next
 simp(disch:=omega)only[go_sem]
 have n2:=e.x2
 have o9: ∀q,q<D->q≠X+8->q≠X+6->h9.get q=h5.get q:=λq l s h3=>by
  rw[z.get q (by have:=e.j.nx;omega) h3,F8.get q (by have:=e.j.nx;omega) (λh4=>by have:q=S:=h4;omega),e.j.old.get q (by rw[e.n5];exact l) (λh4=>by rcases h4 with h4|h4;exact s h4;omega)]
 have nx:=e.j.nx
 have b9:Fr s h9:=⟨om,λq hq=>by rw[o9 q om om om];exact e.f25.get q hq⟩
 have d8:Fx WK y h9:=⟨z.next,λq l s=>z.get q l λh3=>s (by have:q=X+6:=h3;rw[this];exact wN)⟩
 have c8:K.Nodup:=pK.nodup_iff.2 (by classical exact (by unfold jY;exact List.Pairwise.filter _ List.nodup_range))
 have d6:o.length=K.length:=by rw[←hK,iN]
 refine⟨.ptr (X+8) 0,K,rfl,⟨X+8,X+3,X+6,S,cp,vL,o,rfl,om,om,om,om,?_,?_,?_,?_,?_,e.sp.mono b9⟩,⟨pK,?_⟩,e.f2.trans b9⟩
 ·rw[z.get _ om om];exact Z
 ·rw[o9 _ om om om];exact e.gM
 ·rw[B,dA λj hj=>by rw[TH hG E pK hj]]
 ·rw[z.get _ om om];exact b3
 ·refine aM.kH d6 λi l s=>?_
  obtain⟨a,ea,ko⟩:=b4 i s
  have a2:o[i]=a:=by rw[dF l] at ea;simpa using ea
  have k9:=ko.go d8 om wX λ_ _ l=>l
  rw[Pm.cL s] at k9
  rw[a2]
  exact⟨k9.fst,k9.ord,k9.size,k9.rep.si,k9.ranks.si⟩
 ·have l:o.Pairwise λa b=>a.fst≠b.fst:=by
   have:=c8;rw[←hK] at this;exact List.pairwise_map.1 this
  rw[←hK,List.pairwise_map];refine List.Pairwise.imp_of_mem ?_ (List.Pairwise.and e0 l);rintro a b ha hb ⟨s,h3⟩;have ka:=kK a ha;have kb:=kK b hb;have h4: ¬(b.lt a=true):=by rw[s];simp
  rw[Cls.KE.lt_iff] at h4;unfold kLt;rw[←ka.ord,←kb.ord,←ka.size,←kb.size];omega
theorem NL {n:Nat}{G:List Nat->Prop}{L:LN}{r s:Nat}(a:kLt n G L r s)(b:kLt n G L s r):False:=by
 unfold kLt at a b;omega
theorem Cn.uniq {n:Nat}{G:List Nat->Prop}{L:LN}{K c:List Nat}(a:Cn n G L K)(b:Cn n G L c):K=c:=
 (a.perm.trans b.perm.symm).eq_of_pairwise (λ_ _ _ _ d e=>(NL d e).elim) a.asc b.asc
def uN (ks:List Cls.KE):List V:=ks.flatMap λa=> [a.rep,aC (a.ord:Int),aC (a.size:Int)]
theorem sU (b:List Cls.KE):(uN b).length=b.length*3:=by
 induction b with
 |nil=>rfl
 |cons a r ih=>
  show ([a.rep,aC (a.ord:Int),aC (a.size:Int)]++uN r).length=_;rw[iA,ih];show 3+r.length*3=(r.length+1)*3;omega
theorem acA {h:H}{Y:Nat}{ro:Bool}{a:Cls.KE}(g:h.get Y=some (.cells ro a.enc)):h.row Y 0 3=some [a.rep,aC (a.ord:Int),aC (a.size:Int)]:=by
 simp [H.row,g,sub,Cls.KE.enc]
theorem LQ {v:V}(a:v.one=true)(x y:Int)(h:H):mH h 3 [.aE,aC 0,aC 0] 1 [(0,3,.agg [v,aC x,aC y])]=some (.sl h.next 0 1 (.kn 1),h.new (.cells false [v,aC x,aC y])):=by
 have e:dC [V.aE,aC 0,aC 0] 3= [V.aE,aC 0,aC 0]:=rfl;simp [mH,gZ,putAt,e,a,show ∀l,(V.agg l).cells=l from λ_=>rfl,show ∀z,(aC z).one=true from λ_=>rfl]
theorem TL {W0:Nat->Prop}(vc:V)(n:Nat)(O:LN)(R:fM)(G:List Nat->Prop)(h:H)(l:GC W0 h vc n O R G)(L:LN)(hL:dG O R n 0 (bT n)=L):
  Ev T 100 [vc] h (λv h'=> ∃vl K ks,v= .tup [vl,aC 0]/\Cn n G L K/\SV h' vl 3 (uN ks)/\aM (KR n G L h') ks K/\Fr h h'):=by
 obtain⟨vO,vR,e,sO,sR⟩:=l.ch
 subst e
 refine cT zS rfl ?_
 have i:vO.one=true:=Vu sO
 have x:vR.one=true:=Rd sR
 obtain⟨A,hA⟩:=exI h.next
 obtain⟨h1,e1,n1,g1,o1,f1⟩:=cU hA [aC n,vO,vR]
 have bx:=aQ h (v:= aC n) (u:=vO) (w:=vR) rfl i x
 have rB:=aG g1
 simp(disch:=omega)only[go_sem,zS,aD,bx,hA,e1,rB]
 refine (aiS _ n O R G h1 (l.mono f1)).mono ?_
 rw[hL]
 rintro _ d ⟨p,K,rfl,go,ik,f2⟩
 obtain⟨B,M,N,S,cp,vL,ks,rfl,hB,hM,hN,hS,gB,gM,gN,gS,aK,sp⟩:=go.ex
 have c2:d.cell B 2=some (.sl S 0 K.length cp):=by rw[H.aF gB];rfl
 have a8:=aM.length aK
 have a6:K.length<=5040:=by
  have h1:=ik.perm.length_eq;have d:=Ca (G:=G) (L:=L) L.length;have h3:=fK l;have h4:=(dL l.dH l.isc).2;rw[hL] at h4;omega
 simp(disch:=omega)only[go_sem]
 refine bA (λhc=>(hc rfl).elim) (λ_=>?_)
 simp(disch:=omega)only[go_sem,c2]
 refine bQ (λQ r=> ∃b,(∃g:Nat->V,Q= [g 0,g 1,g 2,g 3,g 4,g 5,b,g 7,g 8,g 9,g 10,g 11,g 12])/\SV r b 3 (uN ks)/\Fr d r) ?_ ?_
 ·refine aI (λk' Q r=> ∃(k:Nat) (b:V),(∃g:Nat->V,Q= [g 0,g 1,g 2,g 3,.ptr B 0,g 5,b,g 7,g 8,.sl S 0 K.length cp,aC (K.length:Int),aC k,g 12])/\k<=K.length/\cQ r b 3 (uN (ks.take k)) d.next/\Fr d r/\k'=K.length-k) K.length
   ⟨0,.aE,aB rfl,fR _,cQ.aE _ _ _,Fr.refl _,rfl⟩ ?_
  rintro k' F z ⟨k,b,⟨g,rfl⟩,hk,J,f,rfl⟩
  by_cases o:(k:Int)<(K.length:Int)
  case neg=>
   have U:=bE o;obtain rfl:k=K.length:=om
   simp(disch:=omega)only[go_sem,U];rw[Lq om] at J;exact⟨b,aB rfl,J.sv,f⟩
  have U:=bN o
  have a7:k<K.length:=om
  have t:k<ks.length:=om
  obtain⟨a,ea⟩:=exI (ks[k])
  have W:z.get S=aY (Cls.rJ ks):=by rw[f.get _ hS];exact gS
  have a2:z.row S (k*4) 4=some a.enc:=by
   have:=Kc (pre:= []) (by simpa using W) t;rw[ea] at this;simpa using this
  obtain⟨Y,hY⟩:=exI z.next
  obtain⟨ha,P,na,ga,oa,fa⟩:=cU hY [.aE,aC 0,aC 0,.aE]
  obtain⟨hb,a3,nb,gb,ob⟩:=mD ha Y a.enc
  obtain⟨Z,hZ⟩:=exI hb.next
  obtain⟨j,a4,nc,a0,oc,fc⟩:=cU hZ [a.rep,aC (a.ord:Int),aC (a.size:Int)]
  have s:Fr z j:=⟨om,λq hq=>by rw[oc q om,ob q om,oa q om]⟩
  have a5:cQ j b 3 (uN (ks.take k)) d.next:=J.fr s
  obtain⟨hd,ad,pd⟩:=a5.push (bytes:=40) (y:= .sl Z 0 1 (.kn 1)) (us:= [a.rep,aC (a.ord:Int),aC (a.size:Int)]) (SV.all rfl om a0 _) (n:=k) (m:=1) (by rw[sU,Cq];omega) rfl om om om
  simp(disch:=omega)only[go_sem,U,a2,hY,P,XI,ga,QF,a3,acA gb,LQ a.hrep.2.1,hZ,a4,ad]
  rw[dU k]
  have el:uN (ks.take (k+1))=uN (ks.take k)++ [a.rep,aC (a.ord:Int),aC (a.size:Int)]:=by
   rw[List.take_succ_eq_append_getElem t,ea];simp [uN]
  have n9:=f.next
  have nd:=pd.next
  have a1:Fr d hd:=⟨om,λq hq=>by rw[pd.old q om (λid a9 n' c e e2=>by have:=(J.in _ _ _ _ e).2.1;omega),s.get q om];exact f.get q hq⟩
  exact⟨K.length-(k+1),om,k+1,_,aB rfl,om,by rw[el];exact pd.own (by rw[sU,Cq];omega) rfl om,a1,rfl⟩
 rintro F z ⟨b,⟨g,rfl⟩,sv,f⟩
 simp(disch:=omega)only[go_sem]
 exact⟨b,K,ks,rfl,ik,sv,aK.mono λ_ _ k=>k.mono f,(f1.trans f2).trans f⟩
set_option maxRecDepth 100000
set_option maxRecDepth 100000
theorem RF {n:Nat}{a:List Nat}(A:bC n a)(h:n<=7):pI a n∣420:=by
 unfold pI;rw[Hq];intro c d;obtain⟨l,f,rfl⟩:=vF.1 d;obtain⟨i,hi,rfl⟩:=vF.1 f;have b:i<n:=by unfold Rb at hi;exact Lk.1 (GI.1 hi).1
 rw[Bv];have e:=(oG A b).1;have g:=EG A b;have: ∀k,k<8->0<k->k∣420:=by decide
 exact this _ om e
set_option maxRecDepth 100000
set_option maxRecDepth 100000
set_option maxRecDepth 100000
section
variable {n:Nat} {G:List Nat->Prop} {L:LN} (hG:iJ n G) (E:dZ G L)
end
def NC (n:Nat)(A B:List Nat->Prop)(x:List Nat):Prop:= ∀H:List Nat->Prop,iJ n H->(∀a,A a->H a)->(∀y b,H y->B b->H (cW y b))->H x
section
variable {n:Nat} {A B A' B' H:List Nat->Prop}
theorem NC.le {x:List Nat}(h:NC n A B x)(d:iJ n H)(c: ∀a,A a->H a)(e: ∀y b,H y->B b->H (cW y b)):H x:=h H d c e
theorem NC.of {a:List Nat}(h:A a):NC n A B a:=λ_ _ b _=>b a h
theorem NC.cj {x b:List Nat}(h:NC n A B x)(c:B b):NC n A B (cW x b):=λH e d a=>a _ _ (h H e d a) c
theorem adS (n:Nat):iJ n (bC n):=⟨λh=>h,bC.one n,λa b=>a.mul b,λa=>a.inv⟩
theorem NC.dH (e: ∀a,A a->bC n a)(f: ∀b,B b->bC n b):iJ n (NC n A B):=
 ⟨λh=>h _ (adS n) e λy b Y d=>nH Y (f b d),λ_ c _ _=>c.one,λh k _ c a b=>c.mul (h _ c a b) (k _ c a b),λh _ c a b=>c.inv (h _ c a b)⟩
theorem NC.same (o: ∀a,A a->bC n a)(k: ∀b,B b->bC n b)(d: ∀a,A' a->bC n a)(e: ∀b,B' b->bC n b)
  (l: ∀a,A a->A' a∨a=bT n) (i: ∀a,A' a->A a∨a=bT n) (m: ∀a,B a->B' a∨a=bT n) (j: ∀a,B' a->B a∨a=bT n) (x:List Nat):NC n A B x↔NC n A' B' x:=by
 have c: ∀{A B A' B':List Nat->Prop},(∀a,A' a->bC n a)->(∀b,B' b->bC n b)->(∀a,A a->A' a∨a=bT n)->(∀a,B a->B' a∨a=bT n)->NC n A B x->NC n A' B' x:=λ{A B A' B'} p q a b h=>
  h.le (NC.dH p q) (λz g=>by
   rcases a z g with h|rfl
   ·exact NC.of h
   ·exact (NC.dH p q).one) (λy z f g=>by
   rcases b z g with h|rfl
   ·exact f.cj h
   ·rw[qD ((NC.dH p q).cX f)];exact f)
 exact⟨c d e l m,c o k i j⟩
theorem BF (d:iJ n H)(c: ∀b,B b->bC n b)(e: ∀y b,H y->B b->H (cW y b)){g:List Nat}(f:cG n B g): ∀y,H y->H (cW y g):=by
 induction f with
 |one=>intro y a;rw[qD (d.cX a)];exact a
 | @mul z k hz hk ih=>intro y a;rw[sV (d.cX a) (hz.cX c) (c _ hk)];exact e _ _ (ih y a) hk
end
def iQ (x y:List Nat):List Nat:=aX (aX (cY x) (cY y)) (aX x y)
section
variable {n:Nat} {x y:List Nat}
theorem wY (X:bC n x)(Y:bC n y):bC n (iQ x y):=(X.inv.mul Y.inv).mul (X.mul Y)
theorem Rh (X:bC n x):iQ x (bT n)=bT n:=by
 unfold iQ;rw[nY,cE X.inv,cE X,gG X]
theorem Si (Y:bC n y):iQ (bT n) y=bT n:=by
 unfold iQ;rw[nY,eD Y.inv,eD Y,gG Y]
theorem xW (X:bC n x)(Y:bC n y):iQ x y=aX (cY x) (cW x y):=by
 unfold iQ cW;rw[aV X.inv Y.inv (X.mul Y),aV Y.inv X Y]
end
def Au (n:Nat)(R R':fM):List Nat->Prop:=NC n (λx=> ∃p,p∈bM R/\ ∃q,q∈bM R'/\x=iQ p q) (λb=>b∈bM R∨b∈bM R')
section
variable {n:Nat} {G K:List Nat->Prop} {O O':LN} {R R':fM}
theorem Au.dH (f:iJ n G)(g:iJ n K)(c:aZ n G O R)(d:aZ n K O' R'):iJ n (Au n R R'):=
 NC.dH (λa ⟨_,hp,_,hq,e⟩=>by rw[e];exact wY (f.cX (bY c hp)) (g.cX (bY d hq))) (λb h=>h.elim (λh=>f.cX (bY c h)) λh=>g.cX (bY d h))
theorem Au.le (e:iJ n G)(l:iJ n K)(c:aZ n G O R)(d:aZ n K O' R')(g: ∀y b,G y->K b->G (cW y b)){x:List Nat}(h:Au n R R' x):G x:=by
 refine NC.le h e ?_ ?_
 ·rintro a ⟨p,k,q,j,rfl⟩
  have P:=bY c k;have Q:=bY d j;rw[xW (e.cX P) (l.cX Q)];exact e.mul (e.inv P) (g _ _ P Q)
 ·rintro y b i (f|f)
  ·have:=bY c f
   exact e.mul (e.mul (e.inv this) i) this
  ·exact g _ _ i (bY d f)
theorem Au.self (a:iJ n G)(c:aZ n G O R){x:List Nat}(h:Au n R R x):G x:=
 Au.le a a c c (λy b e d=>a.mul (a.mul (a.inv d) e) d) h
theorem Au.norm (i:iJ n G)(f:iJ n K)(c:aZ n G O R)(d:aZ n K O' R'){y b:List Nat}(e:Au n R R' y)(a:K b):Au n R R' (cW y b):=
 BF (B:=λg=>g∈bM R') (Au.dH i f c d) (λb h=>f.cX (bY d h)) (λy b e a=>NC.cj e (.inr a)) (lF f d a) y e
end
set_option maxHeartbeats 8000000
theorem Jj (h:H){v w:V}(b:v.cells= [v]/\v.one=true)(a:w.cells= [w]/\w.one=true):mH h 1 [.aE] 2 [(0,1,v),(1,1,w)]=some (.sl h.next 0 2 (.kn 2),h.new (.cells false [v,w])):=by
 have e:List.range 2= [0,1]:=rfl;simp [mH,rK,gZ,putAt,b.1,b.2,a.1,a.2,dC,e]
theorem Og {n:Nat}{u w:V}{a b:List Nat}{h h':H}(A:bC n a)(B:bC n b)(c:SI h u (zi a))(d:SI h w (zi b))(f:Fr h h'): ∀i,i< [u,w].length-> ∃a,bC n a/\SI h' (([u,w]:List V).getD i .undef) (zi a):=λi hi=>by
 match i,hi with
 |0,_=>exact⟨a,A,c.mono f⟩
 |1,_=>exact⟨b,B,d.mono f⟩
theorem tV {n:Nat}{a b:List Nat}(A:bC n a)(B:bC n b): ∀i,i<a.length->a.getD i 0<b.length:=λi hi=>by
 rw[B.len];exact A.gW (by rw[←A.len];exact hi)
theorem abK (u w:V)(n:Nat)(a b:List Nat)(h:H)(r:1<=n)(t:n<=64)(A:bC n a)(B:bC n b)(e:SI h u (zi a))(d:SI h w (zi b)):
  Ev T 209 [u,w] h (λv h'=> ∃x,v= .tup [x,aC 0]/\PV (λq=>q<h.next) h' x (aX a b)/\Fr h h'):=by
 refine cT Mu rfl ?_
 have f:=SV.cF e
 have g:=SV.cF d
 obtain⟨o,l,z,p,F,i⟩:=cU (h:=h) rfl [u,w]
 simp(disch:=omega)only[go_sem,Mu,aD,Jj h (v:=u) (w:=w) ⟨f.1,f.2.1⟩ ⟨g.1,g.2.1⟩,l]
 refine (zV _ [u,w] n o r t (by simp) (SV.all rfl om p _) (Og A B e d i)).mono ?_
 rintro _ s ⟨rfl,m⟩
 have c:=i.trans m
 simp(disch:=omega)only[go_sem]
 refine bA (λk=>(k rfl).elim) (λ_=>?_)
 simp(disch:=omega)only[go_sem]
 refine (mL pZ.ok u w a b s (by rw[A.len];omega) (e.mono c) (d.mono c) (tV A B)).mono ?_
 rintro x y j
 have:=c.next
 simp(disch:=omega)only[go_sem]
 exact⟨x,rfl,j.pv om,c.trans j.fr⟩
theorem ZZ (u:V)(n:Nat)(a:List Nat)(h:H)(o:1<=n)(r:n<=64)(A:bC n a)(c:SI h u (zi a)):
  Ev T 208 [u] h (λv h'=> ∃x,v= .tup [x,aC 0]/\PV (λq=>q<h.next) h' x (cY a)/\Fr h h'):=by
 refine cT Nv rfl ?_
 have d:=SV.cF c
 obtain⟨l,j,t,m,w,e⟩:=cU (h:=h) rfl [u]
 simp(disch:=omega)only[go_sem,Nv,aD,bZ h (z:= .aE) d.1 d.2.1,j]
 refine (zV _ [u] n l o r (by simp) (SV.one om m (.kn 1)) (λi hi=>⟨a,A,?_⟩)).mono ?_
 ·have:i=0:=by simpa using hi
  subst this
  exact c.mono e
 rintro _ p ⟨rfl,k⟩
 have b:=e.trans k
 simp(disch:=omega)only[go_sem]
 refine bA (λg=>(g rfl).elim) (λ_=>?_)
 simp(disch:=omega)only[go_sem]
 refine (Bw yH.ok u n a p om A (c.mono b)).mono ?_
 rintro x s f
 have:=b.next
 simp(disch:=omega)only[go_sem]
 exact⟨x,rfl,f.pv om,b.trans f.fr⟩
theorem QX (u w:V)(n:Nat)(a b:List Nat)(h:H)(J:1<=n)(N:n<=64)(A:bC n a)(B:bC n b)(j:SI h u (zi a))(i:SI h w (zi b)):
  Ev T 207 [u,w] h (λv h'=> ∃x,v= .tup [x,aC 0]/\PV (λq=>q<h.next) h' x (cW a b)/\Fr h h'):=by
 refine cT Ks rfl ?_
 have k:=SV.cF j
 have l:=SV.cF i
 obtain⟨F,r,P,G,Q,m⟩:=cU (h:=h) rfl [u,w]
 simp(disch:=omega)only[go_sem,Ks,aD,Jj h (v:=u) (w:=w) ⟨k.1,k.2.1⟩ ⟨l.1,l.2.1⟩,r]
 refine (zV _ [u,w] n F J N (by simp) (SV.all rfl om G _) (Og A B j i m)).mono ?_
 rintro _ L ⟨rfl,t⟩
 have g:=m.trans t
 simp(disch:=omega)only[go_sem]
 refine bA (λp=>(p rfl).elim) (λ_=>?_)
 simp(disch:=omega)only[go_sem]
 refine (Bw yH.ok w n b L om B (i.mono g)).mono ?_
 rintro x s o
 have e:=g.trans o.fr
 simp(disch:=omega)only[go_sem]
 refine (mL pZ.ok x u (cY b) a s (by rw[B.inv.len];omega) (o.pv (W:=λ_=>False) id).si (j.mono e) (tV B.inv A)).mono ?_
 rintro y K d
 have c:=e.trans d.fr
 simp(disch:=omega)only[go_sem]
 refine (mL pZ.ok y w (aX (cY b) a) b K (by rw[(B.inv.mul A).len];omega) (d.pv (W:=λ_=>False) id).si (i.mono c) (tV (B.inv.mul A) B)).mono ?_
 rintro z O f
 have:=c.next
 simp(disch:=omega)only[go_sem]
 exact⟨z,rfl,f.pv om,c.trans f.fr⟩
theorem PH (u w:V)(n:Nat)(a b:List Nat)(h:H)(Z:1<=n)(Q:n<=64)(A:bC n a)(B:bC n b)(m:SI h u (zi a))(l:SI h w (zi b)):
  Ev T 123 [u,w] h (λv h'=> ∃x,v= .tup [x,aC 0]/\PV (λq=>q<h.next) h' x (iQ a b)/\Fr h h'):=by
 refine cT Lf rfl ?_
 have p:=SV.cF m
 have r:=SV.cF l
 obtain⟨O,L,n1,P,o1,F⟩:=cU (h:=h) rfl [u,w]
 simp(disch:=omega)only[go_sem,Lf,aD,Jj h (v:=u) (w:=w) ⟨p.1,p.2.1⟩ ⟨r.1,r.2.1⟩,L]
 refine (zV _ [u,w] n O Z Q (by simp) (SV.all rfl om P _) (Og A B m l F)).mono ?_
 rintro _ h2 ⟨rfl,N⟩
 have k:=F.trans N
 simp(disch:=omega)only[go_sem]
 refine bA (λK=>(K rfl).elim) (λ_=>?_)
 simp(disch:=omega)only[go_sem]
 refine (Bw yH.ok u n a h2 om A (m.mono k)).mono ?_
 rintro x Y G
 have i:=k.trans G.fr
 simp(disch:=omega)only[go_sem]
 refine (Bw yH.ok w n b Y om B (l.mono i)).mono ?_
 rintro y R d
 have o:=i.trans d.fr
 simp(disch:=omega)only[go_sem]
 refine (mL pZ.ok x y (cY a) (cY b) R (by rw[A.inv.len];omega) ((G.pv (W:=λ_=>False) id).si.mono d.fr) (d.pv (W:=λ_=>False) id).si (tV A.inv B.inv)).mono ?_
 rintro z U j
 have c:=o.trans j.fr
 simp(disch:=omega)only[go_sem]
 refine (mL pZ.ok u w a b U (by rw[A.len];omega) (m.mono c) (l.mono c) (tV A B)).mono ?_
 rintro s J e
 have f:=c.trans e.fr
 simp(disch:=omega)only[go_sem]
 refine (mL pZ.ok z s (aX (cY a) (cY b)) (aX a b) J (by rw[(A.inv.mul B.inv).len];omega) ((j.pv (W:=λ_=>False) id).si.mono e.fr) (e.pv (W:=λ_=>False) id).si (tV (A.inv.mul B.inv) (A.mul B))).mono ?_
 rintro t h7 g
 have:=f.next
 simp(disch:=omega)only[go_sem]
 exact⟨t,rfl,g.pv om,f.trans g.fr⟩
theorem aM.aiW {α β:Type}{P:α->β->Prop}: ∀{a:List α} {b:List β},aM P a b->aM P (a.drop 1) (b.drop 1)
 | [], [],h=>h
 |_::_,_::_,h=>h.2
 | [],_::_,h=>h.elim
 |_::_, [],h=>h.elim
theorem Mc {n:Nat}{G:List Nat->Prop}{O:LN}{R:fM}(b:iJ n G)(a:aZ n G O R){i:Nat}(hi:i<n):1<=(R.getD i []).length/\(R.getD i []).length<=n:=by
 rw[a.rl i hi];have:=(a.mem i hi i).2 ⟨bT n,b.one,Fix.one n i om,fF hi⟩;exact⟨KH this,lX (lQ (λx c=>b.cX c) hi (a.asc i hi) (a.mem i hi)) om⟩
theorem qZ {n:Nat}{G:List Nat->Prop}{O:LN}{R:fM}(c:iJ n G)(a:aZ n G O R):(bM R).length<=n*n:=by
 have:=tH (n:=n) (R:=R) (i:=n) (by rw[a.lr];exact eH _) (λj b=>(Mc c a b).2);rwa [Lq (by rw[a.lr];exact eH _)] at this
theorem xZ {W:Nat->Prop}(vc:V)(n:Nat)(O:LN)(R:fM)(G:List Nat->Prop)(t h:H)(q:GC W t vc n O R G)(f0:Fr t h):
  Ev T 122 [vc] h (λv h'=> ∃ws,cQ h' v 1 ws h.next/\dW W t ws (bM R)/\Fr h h'):=by
 obtain⟨vO,s,a0,e,rfl,sO,oO,pO,z,oR,aR⟩:=q.cw
 refine cT xH rfl ?_
 have d:=(SV.cF sO).2.1
 have o:=(SV.cF z).2.1
 have a:=q.isc
 have hG:=q.dH
 have n7:=q.n7
 have lR:=aM.length aR
 rw[a.lr] at lR
 obtain⟨B,hB⟩:=exI h.next
 obtain⟨Z,e1,n1,g1,o1,Q⟩:=cU hB [aC n,vO,s]
 have bx:=aQ h (v:= aC n) (u:=vO) (w:=s) rfl d o
 have P:bF s=some (aC n):=by unfold bF;rw[SV.len z (n:=n) om om];rfl
 obtain⟨y,l,K,p,cR⟩:=SV.shape z n om om
 simp(disch:=omega)only[go_sem,xH,aD,bx,hB,e1,H.aF g1,P]
 refine aI (λk' c r=> ∃(i:Nat) (L:V) (ws:List V),(∃g:Nat->V,c= [g 0,g 1,g 2,L,g 4,s,aC n,aC i,g 8])/\i<=n/\cQ r L 1 ws Z.next/\dW W t ws (bM (R.take i))/\Fr Z r/\k'=n-i) n
  ⟨0,.aE, [],aB rfl,fR _,cQ.aE _ _ _,trivial,Fr.refl _,rfl⟩ ?_
 rintro k' c r ⟨i,L,ws,⟨g,rfl⟩,hi,ow,pv,F,rfl⟩
 have nF:=F.next
 by_cases f:(i:Int)<(n:Int)
 case neg=>
  have U:=bE f;obtain rfl:i=n:=om
  rw[Lq (by rw[a.lr];exact eH _)] at pv;simp(disch:=omega)only[go_sem,U];exact⟨ws,ow.le om,pv,Q.trans F⟩
 have U:=bN f
 have b:i<n:=om
 obtain⟨wr,Y,N,x,k⟩:=aM.get aR i om (by rw[a.lr];exact b)
 have er:R[i]'(by rw[a.lr];exact b)=R.getD i []:=by rw[List.getD,dF (by rw[a.lr];exact b)];rfl
 rw[er] at x
 have lw:=aM.length x
 obtain⟨r1,r2⟩:=Mc hG a b
 have ci:r.cell y (l+i)=some (e[i]'om):=by
  rw[(f0.trans (Q.trans F)).cell (p om),cR i om,dF om]
 generalize e[i]'om=vr at Y N k ci
 obtain⟨vt,J,tt⟩:=JH Y k om
 have a2:=aM.length pv
 have sl:(bM (R.take i)).length<=i*n:=tH (by rw[a.lr];omega) (λj hj=>(Mc hG a om).2)
 have a1:i*n<=7*7:=Nat.mul_le_mul om n7
 obtain⟨v2,h2,ea,A⟩:=cQ.app (bytes:=24) ow nF (tt.mono (f0.trans (Q.trans F))) (n:=ws.length) (m:=wr.length- 1) om (by rw[BM];omega) om om
 simp(disch:=omega)only[go_sem,U,K.ixa,ci,J,ea]
 rw[dU i]
 refine⟨n-(i+1),om,i+1,v2,_,aB rfl,om,A.own,?_,A.fr _ F (eH _),rfl⟩
 rw[zX (by rw[a.lr];exact b)]
 exact aM.append pv (aM.aiW x)
theorem mG {α:Type}{l:List α}{i:Nat}{d:α}(hi:i<l.length):l[i]=l.getD i d:=by rw[List.getD,dF hi];rfl
theorem IE {W:Nat->Prop}(D:Nat)(u vO vR:V)(n:Nat)(O:LN)(R:fM)(G:List Nat->Prop)(x:List Nat)(h:H)(A:GC W h (.agg [aC n,vO,vR]) n O R G)(hD:D<h.next)(gD:h.get D=some (.cells false [aC n,vO,vR]))(X:bC n x)(hu:SI h u (zi x)):
  Ev T 165 [.ptr D 0,u] h (λv h'=> ∃b,v= .bool b/\(b=true↔G x)/\Fr h h'):=by
 obtain⟨c1,b9,t,B,e,sO,oO,pO,sR,oR,aR⟩:=A.cw
 cases e
 refine cT pE rfl ?_
 have c:=A.isc
 have q:=A.dH
 have n7:=A.n7
 have n0:=A.n0
 have lR:=aM.length aR
 have lO:=aM.length pO
 rw[c.lr] at lR
 rw[c.lo] at lO
 have b6:bF vR=some (aC n):=by unfold bF;rw[SV.len sR (n:=n) om om];rfl
 obtain⟨a7,N,b1,a1,cR⟩:=SV.shape sR n om om
 obtain⟨a9,L,a8,Q,cO⟩:=SV.shape sO n om om
 have a3: ∀d,Fr h d->d.get D=some (.cells false [aC n,vO,vR]):=λd f=>by rw[f.get D hD];exact gD
 simp(disch:=omega)only[go_sem,pE,aD,H.aF gD,b6]
 refine aI (λk' m d=> ∃(i:Nat) (vx:V) (y:List Nat),(∃g:Nat->V,m= [.ptr D 0,vx,g 2,g 3,g 4,g 5,g 6,g 7,vR,aC n,aC i,g 11,g 12])/\i<=n/\SI d vx (zi y)/\bC n y/\Fix i y/\(G y↔G x)/\Fr h d/\k'=n-i) n
  ⟨0,u,x,aB rfl,fR _,hu,X,λk hk=>om,Iff.rfl,Fr.refl _,rfl⟩ ?_
 rintro k' m d ⟨i,vx,y,⟨g,rfl⟩,hi,sy,Y,l,o,F,rfl⟩
 by_cases J:(i:Int)<(n:Int)
 case neg=>
  have d1:=bE J;obtain rfl:i=n:=om
  simp(disch:=omega)only[go_sem,d1];exact⟨true,rfl,⟨λ_=>o.1 (by rw[Fix.all Y l];exact q.one),λ_=>rfl⟩,F⟩
 have d1:=bN J
 have a:i<n:=om
 obtain⟨wr,tr,b4,pr,b0⟩:=aM.get aR i om (by rw[c.lr];exact a)
 have er:R[i]'(by rw[c.lr];exact a)=R.getD i []:=mG _
 rw[er] at pr
 have lw:=aM.length pr
 obtain⟨r1,r2⟩:=Mc q c a
 have ci: ∀d,Fr h d->d.cell a7 (N+i)=some (B[i]'om):=λd f=>by
  rw[f.cell (a1 om),cR i om,dF om]
 generalize B[i]'om=vr at tr b4 b0 ci
 have po:=aM.get pO i om (by rw[c.lo];exact a)
 have eo:O[i]'(by rw[c.lo];exact a)=O.getD i []:=mG _
 rw[eo] at po
 have co:d.cell a9 (L+i)=some (t[i]'om):=by
  rw[F.cell (Q om),cO i om,dF om]
 generalize t[i]'om=vo at po co
 obtain⟨b8,a0,P,U,w⟩:=sy.open
 rw[aN,Y.len] at P U w
 obtain⟨p,hp⟩:=exI (y.getD i 0)
 have cy:d.cell b8 (a0+i)=some (aC p):=by rw[w i a];congr 2;simp [zi,Y.len,a,←hp]
 have c0:(O.getD i []).length<=n:=lX (lQ (λx hx=>q.cX hx) a (c.asc i a) (c.mem i a)) om
 have fb:Fr d (H.mk d.tr (d.next+18)):=(Fr.refl d).bH om
 simp(disch:=omega)only[go_sem,d1,b1.ixa,ci d F,H.aF (a3 d F),a8.ixa,co,P.ixa,cy]
 refine (Ea _ (O.getD i []) p _ om (c.asc i a) (po.si.mono (F.trans fb))).mono ?_
 rintro _ h2 ⟨k,f,rfl,a2,b3,f2⟩
 have r:=fb.trans f2
 have F2:=F.trans r
 cases f with
 |false=>
  have a4: ¬G x:=λhx=>by
   have:=a2.2 ((c.mem i a p).2 ⟨y,o.2 hx,l,hp⟩);cases this
  simp(disch:=omega)only[go_sem];exact⟨false,rfl,⟨λh=>(by cases h),λh=>absurd h a4⟩,F2⟩
 |true=>
  obtain⟨hk,a6⟩:=b3 rfl;have j:=c.rep i a k hk;rw[a6] at j;obtain⟨z,hz⟩:=exI ((R.getD i []).getD k []);rw[hz] at j;have Z:=q.cX j.mem;have b5:k<(R.getD i []).length:=by rw[c.rl i a];exact hk
  have pz:=aM.get pr k om b5;rw[show (R.getD i [])[k]=z from by rw[←hz];exact mG _] at pz;obtain⟨b2,K,b7,s,a5⟩:=tr.shape (R.getD i []).length om om;have ck:h2.cell b2 (K+k)=some (wr[k]'om):=by rw[F2.cell (s om),a5 k om,dF om]
  generalize wr[k]'om=vz at pz ck;simp(disch:=omega)only[go_sem,b7.ixa,ck];refine (ZZ vz n z h2 n0 om Z (pz.si.mono F2)).mono ?_;rintro _ h3 ⟨vi,rfl,pi,f3⟩;simp(disch:=omega)only[go_sem];refine (abK vx vi n y (cY z) h3 n0 om Y Z.inv (sy.mono (r.trans f3)) pi.si).mono ?_;rintro _ h4 ⟨vm,rfl,pm,f4⟩;simp(disch:=omega)only[go_sem];rw[dU i];refine⟨n-(i+1),om,i+1,vm,aX y (cY z),aB rfl,om,pm.si,Y.mul Z.inv,?_,?_,F.trans (r.trans (f3.trans f4)),rfl⟩
  ·refine (Fix.mul Y om l (Fix.inv Z om j.fix)).succ ?_
   rw[cM (by rw[Y.len];exact a),hp];have:=sW Z a;rwa [j.maps] at this
  ·rw[←o]
   refine⟨λhm=>?_,λhy=>q.mul hy (q.inv j.mem)⟩;have:=q.mul hm j.mem;rwa [aV Y Z.inv Z,gG Z,cE Y] at this
section
variable {W W':Nat->Prop} {h h':H} {n D:Nat} {O l:LN} {G:List Nat->Prop}
theorem GC.congr {c:V}{R:fM}{G':List Nat->Prop}(g:GC W h c n O R G)(e: ∀x,G x↔G' x):GC W h c n O R G':=
 ⟨g.cw,g.isc.congr e,⟨λh=>g.dH.cX ((e _).2 h),(e _).1 g.dH.one,λa b=>(e _).1 (g.dH.mul ((e _).2 a) ((e _).2 b)),λa=>(e _).1 (g.dH.inv ((e _).2 a))⟩,g.n0,g.n7⟩
theorem GC.iP {a:V}{R:fM}(g:GC W h a n O R G)(b: ∀id,id<h.next->W' id->W id):GC W' h a n O R G:=g.go (Fx.refl _ _) b
structure Qo (W:Nat->Prop)(h:H)(D n:Nat)(G:List Nat->Prop):Prop where
 ex: ∃vO vR O R,h.get D=some (.cells false [aC n,vO,vR])/\GC (λid=>W id∨id=D) h (.agg [aC n,vO,vR]) n O R G
 nx:D<h.next
 nW: ¬W D
theorem Qo.go (r:Qo W h D n G)(f:Fx W h h')(c: ∀q,q<h.next->W' q->W q):Qo W' h' D n G:=by
 obtain⟨i,d,O,R,g,e⟩:=r.ex;exact⟨⟨i,d,O,R,by rw[f.get D r.nx r.nW];exact g,e.go ⟨f.next,λid a b=>f.get id a λh=>b (.inl h)⟩ λq a b=>b.imp_left (c q a)⟩,jB r.nx f.next,λh=>r.nW (c _ r.nx h)⟩
theorem Qo.fx (r:Qo W h D n G)(f:Fx W h h'):Qo W h' D n G:=r.go f λ_ _ h=>h
theorem Qo.fr (r:Qo W h D n G)(f:Fr h h'):Qo W h' D n G:=r.fx (Fx.of f)
theorem Qo.iP (r:Qo W h D n G)(a: ∀q,q<h.next->W' q->W q):Qo W' h D n G:=r.go (Fx.refl _ _) a
theorem Qo.congr {G':List Nat->Prop}(r:Qo W h D n G)(e: ∀x,G x↔G' x):Qo W h D n G':=by
 obtain⟨a,b,O,R,g,c⟩:=r.ex;exact⟨⟨a,b,O,R,g,c.congr e⟩,r.nx,r.nW⟩
theorem aiC {x y z:V}(c:x.one=true)(b:y.one=true)(a:z.one=true):rK [aC 0,.aE,.aE] [(0,3,.agg [x,y,z])]=some (.agg [x,y,z]):=by
 simp [rK,gZ,putAt,V.cells,c,b,a]
theorem PG (n:Nat)(h:H)(n0:1<=n)(N:n<=7):
  Ev T 161 [aC n] h (λv h'=> ∃D,v= .ptr D 0/\h.next<=D/\Qo (λq=>q<h.next) h' D n (λx=>x=bT n)/\Fr h h'):=by
 refine cT Aq rfl ?_
 simp(disch:=omega)only[go_sem,Aq,aD]
 refine (Mb .aE n [] h n0 N (by decide) ⟨[],SV.aE _ _,trivial⟩ (λ_ h=>by cases h)).mono ?_
 rintro _ k ⟨vc,O,R,rfl,m,o⟩
 obtain⟨g,f,t,Y,e,sO,oO,pO,r,oR,aR⟩:=m.cw
 subst e
 have c:=(SV.cF sO).2.1
 have d:=(SV.cF r).2.1
 obtain⟨A,p⟩:=exI k.next
 obtain⟨j,y,n2,Q,s,f2⟩:=cU p [aC 0,.aE,.aE]
 obtain⟨i,Z,n3,K,z⟩:=mD j A [aC n,g,f]
 obtain⟨J,L,n4,U,P,f4⟩:=cU (h:=i) rfl [aC n,g,f]
 simp(disch:=omega)only[go_sem,p,y,bI j A 0 (v:= aC n) (u:=g) (w:=f) rfl c d,Q,bG,Z,aG K,aiC (x:= aC n) rfl c d,aQ i (v:= aC n) (u:=g) (w:=f) rfl c d,L]
 have n1:=o.next
 have F:Fr k J:=⟨om,λq hq=>by rw[P q om,z q om,s q om]⟩
 refine⟨i.next,rfl,om,⟨⟨g,f,O,R,U,?_⟩,om,om⟩,o.trans F⟩
 have B:=m.congr (G':=λx=>x=bT n) λx=>⟨λhx=>cG.le (G:=λx=>x=bT n) ⟨λe=>e▸bC.one n,rfl,λa b=>by rw[a,b,eD (bC.one n)],λa=>by rw[a,nY]⟩ (λ_ h=>by cases h) hx,λe=>by rw[e];exact .one⟩
 exact (B.iP (W':=λid=>id<h.next∨id=i.next) λid k j=>j.elim (λh=>h) λe=>om).mono F
def Jn (n:Nat)(G:List Nat->Prop)(l:LN):List Nat->Prop:=cG n (λg=>G g∨g∈l)
theorem Jn.dH (b:iJ n G)(a: ∀g∈l,bC n g):iJ n (Jn n G l):=cG.dH λg h=>h.elim (λh=>b.cX h) (a g)
theorem Jn.nil (a:iJ n G)(x:List Nat):G x↔Jn n G [] x:=
 ⟨λh=>cG.of (λg h=>h.elim (λh=>a.cX h) λh=>by cases h) (.inl h),λh=>cG.le a (λg h=>h.elim (λh=>h) λh=>by cases h) h⟩
theorem Jn.in {x:List Nat}(b:iJ n G)(a: ∀g∈l,bC n g)(c:Jn n G l x)(y:List Nat):Jn n G l y↔Jn n G (l++ [x]) y:=by
 have d:=Jn.dH b a;have e: ∀g∈l++ [x],bC n g:=λg h=>(kT.1 h).elim (a g) λh=>by rw[List.mem_singleton.1 h];exact d.cX c
 refine⟨λh=>cG.mono (λg h=>h.imp_right λh=>kT.2 (.inl h)) h,λh=>cG.le d (λg h=>?_) h⟩;rcases h with h|h
 ·exact cG.of (λg h=>h.elim (λh=>b.cX h) (a g)) (.inl h)
 ·rcases kT.1 h with h|h
  ·exact cG.of (λg h=>h.elim (λh=>b.cX h) (a g)) (.inr h)
  ·rw[List.mem_singleton.1 h];exact c
theorem Jn.push {x:List Nat}{R:fM}(d:iJ n G)(e: ∀g∈l,bC n g)(X:bC n x)(c:aZ n (Jn n G l) O R)(y:List Nat):cG n (· ∈bM R++ [x]) y↔Jn n G (l++ [x]) y:=by
 have f:=Jn.dH d e;have b: ∀g∈l++ [x],bC n g:=λg h=>(kT.1 h).elim (e g) λh=>by rw[List.mem_singleton.1 h];exact X
 have i: ∀g,g∈bM R++ [x]->bC n g:=λg h=>(kT.1 h).elim (λh=>f.cX (bY c h)) λh=>by rw[List.mem_singleton.1 h];exact X
 constructor
 ·refine λh=>cG.le (Jn.dH d b) (λg h=>?_) h
  rcases kT.1 h with h|h
  ·exact cG.mono (λg h=>h.imp_right λh=>kT.2 (.inl h)) (bY c h)
  ·exact cG.of (λg h=>h.elim (λh=>d.cX h) (b g)) (.inr (kT.2 (.inr h)))
 ·refine λh=>cG.le (cG.dH i) (λg h=>?_) h
  have a: ∀g,Jn n G l g->cG n (· ∈bM R++ [x]) g:=λg h=>cG.mono (λg h=>kT.2 (.inl h)) (lF f c h)
  rcases h with h|h
  ·exact a g (cG.of (λg h=>h.elim (λh=>d.cX h) (e g)) (.inl h))
  ·rcases kT.1 h with h|h
   ·exact a g (cG.of (λg h=>h.elim (λh=>d.cX h) (e g)) (.inr h))
   ·exact cG.of i (kT.2 (.inr h))
end
theorem aaH (h:H)(a m:Nat)(ws:List V): ∃h',H.mk ((H.mk h.tr a).new (.cells false ws)).tr m=h'/\h'.next=m/\h'.get a=some (.cells false ws)/\ ∀q,q≠a->h'.get q=h.get q:=by
 obtain⟨f,e,i,d,c,g⟩:=cU (h:=H.mk h.tr a) rfl ws;rw[e];exact⟨_,rfl,rfl,d,λq b=>c q b⟩
theorem uD (v:V):Mf (λ_=>False) v:=by cases v<;>first|exact id|trivial
theorem dW.Xg {W:Nat->Prop}{h:H}{v:V}{ws:List V}{l:LN}(sv:SV h v 1 ws)(p:dW W h ws l):SP h v l:=by
 have a:=aM.length p
 exact⟨ws,sv,aM.kH (by simpa using a) λi hi b=>by
  have:=(aM.get p i hi om).si
  simpa using this⟩
theorem AL {W:Nat->Prop}(D:Nat)(vl:V)(ws:List V)(n:Nat)(G:List Nat->Prop)(l:LN)(h:H)(n0:1<=n)(n7:n<=7)(hG:iJ n G)(hP: ∀g∈l,bC n g)(hl:l.length<1000000)(hW: ∀q,W q->q<h.next)(hr:Qo W h D n G)(sv:SV h vl 1 ws)(b6:Mf (· =D) vl)(pv:dW (· =D) h ws l):
  Ev T 162 [.ptr D 0,vl] h (λv h'=>v= .ptr D 0/\Qo W h' D n (Jn n G l)/\Fx (· =D) h h'):=by
 refine cT nL rfl ?_
 have lw:=aM.length pv
 have a8:bF vl=some (aC (l.length:Int)):=by unfold bF;rw[SV.len sv (n:=l.length) om om];rfl
 simp(disch:=omega)only[go_sem,nL,aD,a8]
 refine aI (λk' j Z=> ∃(i:Nat),(∃g:Nat->V,j= [.ptr D 0,g 1,g 2,g 3,vl,aC (l.length:Int),aC i,g 7,g 8])/\i<=l.length/\Qo W Z D n (Jn n G (l.take i))/\Fx (· =D) h Z/\k'=l.length-i) l.length
  ⟨0,aB rfl,fR _,hr.congr λx=>by rw[List.take_zero];exact Jn.nil hG x,Fx.refl _ _,rfl⟩ ?_
 rintro k' j Z ⟨i,⟨g,rfl⟩,hi,r,F,rfl⟩
 by_cases U:(i:Int)<(l.length:Int)
 case neg=>
  have d1:=bE U;obtain rfl:i=l.length:=om
  simp(disch:=omega)only[go_sem,d1];exact⟨by rw[List.take_length] at r;exact r,F⟩
 have d1:=bN U
 have s:i<l.length:=om
 obtain⟨id,a1,sh,b7,hc⟩:=(sv.fx b6 F).shape l.length om om
 have px:=(aM.get pv i om s).fx F
 obtain⟨x,hx⟩:=exI (l.getD i [])
 rw[show l[i]=x from by rw[←hx];exact mG _] at px
 have cx:Z.cell id (a1+i)=some (ws[i]'om):=by rw[hc i om,dF om]
 generalize ws[i]'om=vx at px cx
 have X:bC n x:=by rw[←hx];exact hP _ (aW s)
 have o: ∀g∈l.take i,bC n g:=λg hg=>hP g (List.mem_of_mem_take hg)
 have tk:l.take (i+1)=l.take i++ [x]:=by rw[←hx];exact dE [] s
 obtain⟨B,A,O,R,gD,N⟩:=r.ex
 have nD:=r.nx
 have nF:=F.next
 simp(disch:=omega)only[go_sem,d1,sh.ixa,cx]
 refine (IE D vx B A n O R _ x Z N nD gD X px.si).mono ?_
 rintro _ a ⟨bb,rfl,b3,t⟩
 have r2:=r.fr t
 have F2:Fx (· =D) h a:=F.trans (Fx.of (W:=(· =D)) t) λ_ _ h=>h
 cases bb with
 |true=>
  simp(disch:=omega)only[go_sem];rw[dU i];exact⟨l.length-(i+1),om,i+1,aB rfl,om,r2.congr λy=>by rw[tk];exact Jn.in hG o (b3.1 rfl) y,F2,rfl⟩
 |false=>
  have a7:=N.mono t;have d:a.get D=some (.cells false [aC n,B,A]):=by rw[t.get D nD];exact gD
  have n2:=t.next;have fb:Fr a (H.mk a.tr (a.next+21)):=(Fr.refl a).bH om;simp(disch:=omega)only[go_sem,H.aF d,aG d];refine (xZ _ n O R _ a (H.mk a.tr (a.next+21)) a7 fb).mono ?_;rintro vs h3 ⟨us,ow,pu,f3⟩;have J:=fb.trans f3;have n3:a.next+21<=h3.next:=f3.next;have a4:h3.get D=some (.cells false [aC n,B,A]):=by rw[J.get D om];exact d
  obtain⟨h4,e4,n4,g4,o4⟩:=aaH h3 (a.next+12) h3.next [vx]
  have Y:Fr a h4:=⟨om,λq p=>by rw[o4 q om];exact J.get q p⟩
  have lu:=aM.length pu;have gl:=Jn.dH hG o;have b8:=qZ gl N.isc;have nn:n*n<=7*7:=Nat.mul_le_mul n7 n7;have wx:=SV.cF px.si;have a0:cQ h4 vs 1 us (a.next+21):=ow.mono om λq _ _ _ _ K _=>o4 q (by have:a.next+21<=q:=K;omega)
  obtain⟨Q,a5,p5⟩:=a0.push (bytes:=24) (SV.one (v:=vx) (id:=a.next+12) om g4 (.kn 1)) (n:=us.length) (m:=1) om rfl om om om;have n5:=p5.next;have ap: ∀k,k<a.next+21->cZ vs k:=λk hk b4 a1 m c e=>by have:a.next+21<=b4:=(a0.in _ _ _ _ e).2.1;omega
  have f:Fr a Q:=⟨om,λq p=>by rw[p5.old q om (ap q om)];exact Y.get q p⟩
  have a6:h4.get D=some (.cells false [aC n,B,A]):=by rw[Y.get D om];exact d
  have b0:SP Q (.sl h4.next 0 (us.length+1) (.un 1)) (bM R++ [x]):=dW.Xg (W:=λ_=>False) (p5.own om rfl (b:=0) om).sv
   (aM.append (aM.mono (λ_ _ k=>⟨(k.si.mono f),uD _⟩) pu) ⟨⟨px.si.mono (t.trans f),uD _⟩,trivial⟩)
  have a3:Q.get D=some (.cells false [aC n,B,A]):=by rw[f.get D om];exact d
  have b1:WU (Q.cell D 0) (aC n)=true:=by rw[H.aF a3];simp [WU,dB]
  simp(disch:=omega)only[go_sem,H.aF a4,bZ _ (z:= .aE) wx.1 wx.2.1,e4,H.aF a6,a5];refine⟨b1,?_⟩;refine (Mb _ n (bM R++ [x]) Q n0 n7 (by rw[iA];simp;omega) b0 (λg hg=>(kT.1 hg).elim (λh=>gl.cX (bY N.isc h)) λh=>by rw[List.mem_singleton.1 h];exact X)).mono ?_;rintro _ h6 ⟨vc,O2,R2,rfl,P,f6⟩;obtain⟨uO,uR,_,_,e,sO,_,_,sR,_,_⟩:=P.cw;subst e;have L:=(SV.cF sO).2.1;have a2:=(SV.cF sR).2.1;have a9:=f.trans f6;have n6:=f6.next;have b2:h6.get D=some (.cells false [aC n,B,A]):=by rw[f6.get D om];exact a3
  obtain⟨h7,e7,b9,g7,o7⟩:=mD h6 D [aC n,uO,uR];simp(disch:=omega)only[go_sem,bI h6 D 0 (v:= aC n) (u:=uO) (w:=uR) rfl L a2,b2,bG,e7];rw[dU i]
  have F7:Fx (· =D) a h7:=⟨om,λq K p=>by rw[o7 q p,a9.get q K]⟩
  refine⟨l.length-(i+1),om,i+1,aB rfl,om,⟨⟨uO,uR,O2,R2,g7,?_⟩,om,r.nW⟩,F2.trans F7 λ_ _ h=>h,rfl⟩;have b5:=(P.congr (G':=Jn n G (l.take (i+1))) λy=>by rw[tk];exact Jn.push hG o X N.isc y).iP (W':=λid=>W id∨id=D) λid K a=>a.elim (λh=>by have:=hW _ h;omega) λe=>om
  exact b5.go ⟨om,λq K p=>o7 q λe=>p (.inr e)⟩ λ_ _ h=>h
section
variable {n:Nat}
theorem Em {x y b:List Nat}(X:bC n x)(Y:bC n y)(B:bC n b):cW (aX x y) b=aX (cW x b) (cW y b):=by
 unfold cW;have i:=B.inv;rw[aV (i.mul X) B ((i.mul Y).mul B),←aV B (i.mul Y) B,←aV B i Y,fQ B,eD Y,←aV i X Y,aV (i.mul X) Y B]
theorem Rq {b:List Nat}(B:bC n b):cW (bT n) b=bT n:=by
 unfold cW;rw[cE B.inv,gG B]
theorem IM {l:LN}{b:List Nat}(a: ∀g∈l,bC n g)(B:bC n b)(h: ∀x∈l,cG n (· ∈l) (cW x b)){x:List Nat}(c:cG n (· ∈l) x):cG n (· ∈l) (cW x b):=by
 induction c with
 |one=>rw[Rq B];exact .one
 |mul c hg ih=>rw[Em (c.cX a) (a _ hg) B];exact ih.app a (h _ hg)
theorem NI {c l B:LN}(f: ∀b∈B,bC n b)(k: ∀g∈c,bC n g)(d: ∀g∈l,bC n g)(p: ∀g∈c,g∈l)(q: ∀g∈l,NC n (· ∈c) (· ∈B) g)(i: ∀x∈l,∀b∈B,cG n (· ∈l) (cW x b))(x:List Nat):cG n (· ∈l) x↔NC n (· ∈c) (· ∈B) x:=
 ⟨λh=>cG.le (NC.dH k f) q h,λh=>h.le (cG.dH d) (λa j=>cG.of d (p a j)) λ_ b o e=>IM d (f b e) (λz m=>i z m b e) o⟩
end
theorem QI (id O N P:Nat)(p:V)(B:LN)(n M:Nat)(n0:1<=n)(hn:n<=64)(hB: ∀b∈B,bC n b)(a5:B.length<1000000)(hM:M<10000000)(h:H)(J:Nat->Nat->LN->H->Prop)(l0:LN)(A:J 0 0 l0 h)
  (jF: ∀i k l hh,J i k l hh->hh.get O=aY [.ptr P 0]/\hh.get N=aY [p]/\(∃vl ws,hh.get P=aY [vl]/\SV hh vl 1 ws/\aM (λv x=>SI hh v (zi x)) ws l)/\SP hh p B/\l.length<=M/\ ∀g∈l,bC n g)
  (jf: ∀i k l hh h',J i k l hh->Fr hh h'->J i k l h')
  (jn: ∀i l hh,J i B.length l hh->J (i+1) 0 l hh)
  (hy: ∀i k l A hh v,i<l.length->k<B.length->J i k l A->Fr A hh->PV (λq=>q<A.next) hh v (cW (l.getD i []) (B.getD k []))->Ey T id [v] hh (λv h'=>v= .bool true/\ ∃l',i<l'.length/\J i (k+1) l' h')):
  Ev T 206 [.yl id,.ptr O 0,.ptr N 0] h (λ_ h'=> ∃l,J l.length 0 l h'):=by
 refine cT oN rfl ?_
 simp(disch:=omega)only[go_sem,oN,aD]
 refine aI (λK a hh=> ∃(i:Nat) (l:LN),(∃g:Nat->V,a= [.yl id,.ptr O 0,.ptr N 0,aC i,g 4,g 5,g 6,g 7,g 8,g 9,g 10,g 11])/\i<=l.length/\J i 0 l hh/\K=M-i) M
  ⟨0,l0,aB rfl,fR _,A,rfl⟩ ?_
 rintro K a h1 ⟨i,l,⟨g,rfl⟩,hi,j1,rfl⟩
 obtain⟨c,j,⟨vl,ws,F,sv,u⟩,sB,lM,hP⟩:=jF _ _ _ _ j1
 have lw:=aM.length u
 have f:bF vl=some (aC (l.length:Int)):=by unfold bF;rw[SV.len sv (n:=l.length) om om];rfl
 by_cases m:(i:Int)<(l.length:Int)
 case neg=>
  have Q:=bE m;obtain rfl:i=l.length:=om
  simp(disch:=omega)only[go_sem,H.aF c,H.aF F,f,Q];exact⟨l,j1⟩
 have Q:=bN m
 have s:=sB.lens
 rw[iN] at s
 simp(disch:=omega)only[go_sem,H.aF c,H.aF F,f,Q,H.aF j,s]
 refine aI (λK a hh=> ∃(k:Nat) (l:LN),(∃g:Nat->V,a= [.yl id,.ptr O 0,.ptr N 0,aC i,g 4,g 5,g 6,p,aC (B.length:Int),aC k,g 10,g 11])/\k<=B.length/\i<l.length/\J i k l hh/\K=B.length-k) B.length
  ⟨0,l,aB rfl,fR _,om,j1,rfl⟩ ?_
 clear c j F sv u f Q m
 rintro K a h2 ⟨k,l,⟨g,rfl⟩,hk,o,j2,rfl⟩
 obtain⟨c,j,⟨vl,ws,F,sv,u⟩,sB,lM,hP⟩:=jF _ _ _ _ j2
 by_cases z:(k:Int)<(B.length:Int)
 case neg=>
  have U:=bE z;obtain rfl:k=B.length:=om
  simp(disch:=omega)only[go_sem,U];rw[dU i];exact⟨M-(i+1),om,i+1,l,aB rfl,om,jn _ _ _ j2,rfl⟩
 have U:=bN z
 have e:k<B.length:=om
 have lw:=aM.length u
 obtain⟨Z,y,R,a1,a0⟩:=sv.shape l.length om om
 have sx:=aM.get u i om o
 rw[show l[i]=l.getD i [] from mG _] at sx
 have cl:h2.cell Z (y+i)=some (ws[i]'om):=by rw[a0 i om,dF om]
 generalize ws[i]'om=vx at sx cl
 obtain⟨a4,a2,us,G,L,a3,W,t⟩:=sB.open
 rw[iN] at G L
 have cB:=W k (by rw[iN];exact e)
 have sb:=Ae t e
 generalize us.getD k V.undef=vb at cB sb
 have X:=hP _ (aW (d:= []) o)
 have Y:=hB _ (aW (d:= []) e)
 simp(disch:=omega)only[go_sem,U,G.ixa,cB,H.aF c,H.aF F,R.ixa,cl]
 refine (QX vx vb n _ _ h2 n0 hn X Y sx sb).mono ?_
 rintro _ h3 ⟨w,rfl,pw,f3⟩
 simp(disch:=omega)only[go_sem]
 refine (hy i k l h2 h3 w o e j2 f3 pw).mono ?_
 rintro _ h4 ⟨rfl,l',r,j4⟩
 simp(disch:=omega)only[go_sem]
 rw[dU k]
 exact⟨B.length-(k+1),om,k+1,l',aB rfl,om,r,j4,rfl⟩
set_option maxRecDepth 100000
set_option maxRecDepth 100000
structure Plc (l:LN)(x:List Nat)(k:Nat):Prop where
 le:k<=l.length
 lo: ∀i,i<k->yV (l.getD i []) x=true
 hi: ∀i,k<=i->i<l.length->yV (l.getD i []) x=false
theorem Gi {g:Nat}(G:T g=some jD.fn)(u w:V)(a b:List (List Int))(h:H)(hu:SR h u a)(hw:SR h w b)(la:a.length<1000000)(lb:b.length<1000000)(ra: ∀x∈a,x.length<1000000)(rb: ∀x∈b,x.length<1000000):
  Ev T g [u,w] h (λv h'=>v= .bool (decide (a=b))/\Fr h h'):=by
 refine Kg G rfl ?_
 have z:=hu.lens
 have lw:=hw.lens
 obtain⟨B,sa,aa⟩:=hu
 obtain⟨Z,sb,ab⟩:=hw
 have a0:=aM.length aa
 have a1:=aM.length ab
 obtain⟨id,n,sh,l,hc⟩:=SV.shape sa a.length om om
 obtain⟨q,d,L,f,K⟩:=SV.shape sb b.length om om
 by_cases R:(a.length:Int)=(b.length:Int)
 case neg=>
  have Y:=bN R;simp(disch:=omega)only[go_sem,jD,aD,z,lw,Y];exact⟨by rw[bE];intro e;exact R (by rw[e]),Fr.refl h⟩
 have A:a.length=b.length:=om
 have Y:decide ((a.length:Int)≠(b.length:Int))=false:=bE (by simpa using R)
 simp(disch:=omega)only[go_sem,jD,aD,z,lw,Y]
 refine aI (λk' k c=> ∃(i:Nat),(∃g:Nat->V,k= [u,w,g 2,aC i,g 4,g 5,g 6])/\i<=a.length/\(∀j,j<i->a.getD j []=b.getD j [])/\Fr h c/\k'=a.length-i) a.length
  ⟨0,aB rfl,fR _,λj hj=>om,Fr.refl h,rfl⟩ ?_
 rintro k' k c ⟨i,⟨g,rfl⟩,hi,hs,F,rfl⟩
 by_cases r:(i:Int)<(a.length:Int)
 case neg=>
  have J:=bE r;obtain rfl:i=a.length:=om
  simp(disch:=omega)only[go_sem,z,J]
  have:a=b:=by
   refine List.ext_getElem A λj h1 h2=>?_
   have:=hs j h1;rwa [List.getD,dF h1,List.getD,dF h2] at this
  exact⟨by rw[bN this],F⟩
 have J:=bN r
 have W:c.cell id (n+i)=some (B.getD i .undef):=by
  rw[F.cell (l om),hc i om];simp [List.getD,show i<B.length by omega]
 have c2:c.cell q (d+i)=some (Z.getD i .undef):=by
  rw[F.cell (f om),K i om];simp [List.getD,show i<Z.length by omega]
 have U:=Vy aa (i:=i) om
 have N:=Vy ab (i:=i) om
 generalize B.getD i .undef=va at W U
 generalize Z.getD i .undef=vb at c2 N
 have o:=U.dB
 have p:=N.dB
 simp(disch:=omega)only[go_sem,z,J,sh.ixa,W,L.ixa,c2]
 refine (IB va vb _ _ _ (U.mono (F.trans ((Fr.refl c).bH om))) (N.mono (F.trans ((Fr.refl c).bH om))) (ra _ (aW om)) (rb _ (aW om))).mono ?_
 rintro _ y ⟨rfl,P⟩
 have F3:=F.trans (((Fr.refl c).bH om).trans P)
 have s:y.cell id (n+i)=some va:=by
  have Q:Fr c y:=((Fr.refl c).bH om).trans P;rw[Q.cell (by have:=l om;have:=F.next;omega)];exact W
 have m:y.cell q (d+i)=some vb:=by
  have Q:Fr c y:=((Fr.refl c).bH om).trans P;rw[Q.cell (by have:=f om;have:=F.next;omega)];exact c2
 by_cases t:a.getD i []=b.getD i []
 ·have O:=bN t
  simp(disch:=omega)only[go_sem,O,s,m,o,p]
  rw[dU i]
  refine⟨a.length-(i+1),om,i+1,aB rfl,om,λj hj=>?_,F3,rfl⟩
  by_cases e:j=i
  ·rw[e];exact t
  ·exact hs j om
 ·have O:=bE t
  simp(disch:=omega)only[go_sem,O,s,m,o,p]
  exact⟨by rw[bE];intro e;exact t (by rw[e]),F3⟩
theorem Us (u w:V)(a b:List (List Int))(h:H)(e:SR h u a)(c:SR h w b)(d:a.length<1000000)(lb:b.length<1000000)(g: ∀x∈a,x.length<1000000)(f: ∀x∈b,x.length<1000000):
  Ev T 90 [u,w] h (λv h'=>v= .bool (decide (a=b))/\Fr h h'):=Gi jD.ok u w a b h e c d lb g f
theorem Wt (u w:V)(a b:List (List Int))(h:H)(e:SR h u a)(c:SR h w b)(d:a.length<1000000)(lb:b.length<1000000)(g: ∀x∈a,x.length<1000000)(f: ∀x∈b,x.length<1000000):
  Ev T 41 [u,w] h (λv h'=>v= .bool (decide (a=b))/\Fr h h'):=Gi Ll.ok u w a b h e c d lb g f
theorem Ew (v1 v2:V)(J L:Int)(O1 O2:List (List Int))(b d:List (List (List Int)))(h:H)(c1:Ig h v1 J O1 b)(c2:Ig h v2 L O2 d)(b9:jK O1)(a5:jK O2)(P:sQ b)(Q:sQ d):
  Ev T 31 [v1,v2] h (λv h'=>v= .bool (decide (J=L/\O1=O2/\b=d))/\Fr h h'):=by
 obtain⟨vO,G,e,sO,sR⟩:=c1
 subst e
 obtain⟨uO,U,e,tO,tR⟩:=c2
 subst e
 refine cT rR rfl ?_
 have a6:vO.one=true:=Vu sO
 have c0:G.one=true:=Rd sR
 have Y:uO.one=true:=by obtain⟨_,t,_⟩:=tO;exact t.cF.2.1
 have O:U.one=true:=by obtain⟨_,t,_⟩:=tR;exact t.cF.2.1
 have b4:dB G G=true:=by obtain⟨_,t,_⟩:=sR;exact t.dB
 have B:dB U U=true:=by obtain⟨_,t,_⟩:=tR;exact t.dB
 obtain⟨A,hA⟩:=exI h.next
 obtain⟨h1,Z,n1,g1,o1,f1⟩:=cU hA [aC J,vO,G]
 obtain⟨c,e2,n2,g2,o2,f2⟩:=cU n1 [aC L,uO,U]
 have bx:=λa:H=>aQ a (v:= aC J) (u:=vO) (w:=G) rfl a6 c0
 have a8:=λa:H=>aQ a (v:= aC L) (u:=uO) (w:=U) rfl Y O
 have F2:=f1.trans f2
 have gA:c.get A=aY [aC J,vO,G]:=by rw[o2 _ om];exact g1
 have a0: ∀a,Fr c a->a.cell A 0=some (aC J):=λa f=>by rw[f.cell om,H.aF gA];rfl
 have a1: ∀a,Fr c a->a.cell A 1=some vO:=λa f=>by rw[f.cell om,H.aF gA];rfl
 have a2: ∀a,Fr c a->a.cell A 2=some G:=λa f=>by rw[f.cell om,H.aF gA];rfl
 have b0: ∀a,Fr c a->a.cell (A+1) 0=some (aC L):=λa f=>by rw[f.cell om,H.aF g2];rfl
 have b1: ∀a,Fr c a->a.cell (A+1) 1=some uO:=λa f=>by rw[f.cell om,H.aF g2];rfl
 have b2: ∀a,Fr c a->a.cell (A+1) 2=some U:=λa f=>by rw[f.cell om,H.aF g2];rfl
 have r2:=Fr.refl c
 by_cases hd:J=L
 case neg=>
  have e3:=bN hd;simp(disch:=omega)only[go_sem,rR,aD,bx,a8,hA,Z,n1,e2,a0 c r2,b0 c r2,e3,rD];exact⟨by rw[bE];exact λx=>hd x.1,F2⟩
 have e3:decide (J≠L)=false:=bE (by simpa using hd)
 simp(disch:=omega)only[go_sem,rR,aD,bx,a8,hA,Z,n1,e2,a0 c r2,b0 c r2,a1 c r2,b1 c r2,e3]
 have mem: ∀{l:List (List Int)},(∀i,i<l.length->(l.getD i []).length<1000000)-> ∀x∈l,x.length<1000000:=λhl x q=>by
  obtain⟨i,hi,rfl⟩:=wV.1 q;have:=hl i hi;rwa [List.getD,dF hi] at this
 refine (Us vO uO O1 O2 c (sO.mono F2) (tO.mono F2) b9.1 a5.1 (mem b9.2) (mem a5.2)).mono ?_
 rintro _ h3 ⟨rfl,f3⟩
 obtain⟨wR,b8,aR,_⟩:=sR
 obtain⟨zR,z,a3,_⟩:=tR
 have d0:=P.1
 have d3:=Q.1
 have d4:=aM.length aR
 have d5:=aM.length a3
 have m:bF G=some (aC (b.length:Int)):=by unfold bF;rw[SV.len b8 (n:=b.length) om om];rfl
 have b3:bF U=some (aC (d.length:Int)):=by unfold bF;rw[SV.len z (n:=d.length) om om];rfl
 have F3:=F2.trans f3
 by_cases hO:O1=O2
 case neg=>
  have e4:=bE hO;simp(disch:=omega)only[go_sem,e4,rD];exact⟨by rw[bE];exact λx=>hO x.2.1,F3⟩
 have e4:=bN hO
 by_cases hl:(b.length:Int)=(d.length:Int)
 case neg=>
  have e5:=bN hl;simp(disch:=omega)only[go_sem,e4,a2 h3 f3,b2 h3 f3,m,b3,e5];exact⟨by rw[bE];exact λx=>hl (by rw[x.2.2]),F3⟩
 have e5:decide ((b.length:Int)≠(d.length:Int))=false:=bE (by simpa using hl)
 have c7:b.length=d.length:=om
 obtain⟨id,c9,sh,c4,hc⟩:=SV.shape b8 b.length om om
 obtain⟨c5,a4,c8,b6,c3⟩:=SV.shape z d.length om om
 simp(disch:=omega)only[go_sem,e4,a2 h3 f3,b2 h3 f3,m,b3,e5]
 refine aI (λk' K a=> ∃(i:Nat),(∃g:Nat->V,K= [g 0,g 1,.ptr A 0,.ptr (A+1) 0,g 4,aC i,g 6,g 7,g 8])/\i<=b.length/\(∀j,j<i->b.getD j []=d.getD j [])/\Fr h3 a/\k'=b.length-i) b.length
  ⟨0,aB rfl,fR _,λj hj=>om,Fr.refl h3,rfl⟩ ?_
 rintro k' K a ⟨i,⟨g,rfl⟩,hi,hs,F,rfl⟩
 have p:=f3.trans F
 by_cases b5:(i:Int)<(b.length:Int)
 case neg=>
  have Z:=bE b5;obtain rfl:i=b.length:=om
  simp(disch:=omega)only[go_sem,a2 a p,m,Z]
  have:b=d:=by
   refine List.ext_getElem c7 λj h1 c=>?_
   have:=hs j h1;rwa [List.getD,dF h1,List.getD,dF c] at this
  exact⟨by rw[bN ⟨hd,hO,this⟩],F3.trans F⟩
 have Z:=bN b5
 have W:i<b.length:=om
 have r: ∀q,Fr h q->q.cell id (c9+i)=some (wR.getD i .undef):=λq f=>by
  rw[f.cell (c4 om),hc i om];simp [List.getD,show i<wR.length by omega]
 have o: ∀q,Fr h q->q.cell c5 (a4+i)=some (zR.getD i .undef):=λq f=>by
  rw[f.cell (b6 om),c3 i om];simp [List.getD,show i<zR.length by omega]
 have gg: ∀{ws:List V} {R:List (List (List Int))},aM (SR h) ws R->i<R.length->SR h (ws.getD i .undef) (R.getD i []):=λ{ws R} al b7=>by
  have h1:=aM.length al;have:=aM.get al i om b7;rw[List.getD,List.getD,dF om,dF b7];exact this
 have s1:=gg aR W
 have s2:=gg a3 om
 generalize wR.getD i .undef=va at r s1
 generalize zR.getD i .undef=vb at o s2
 have a7:dB va va=true:=by obtain⟨_,t,_⟩:=s1;exact t.dB
 have a9:dB vb vb=true:=by obtain⟨_,t,_⟩:=s2;exact t.dB
 have Fh:=F3.trans F
 simp(disch:=omega)only[go_sem,a2 a p,b2 a p,m,Z,sh.ixa,c8.ixa,r a Fh,o a Fh]
 refine (Wt va vb _ _ _ (s1.mono (Fh.trans ((Fr.refl a).bH om))) (s2.mono (Fh.trans ((Fr.refl a).bH om))) (P.2 i W).1 (Q.2 i om).1 (mem (P.2 i W).2) (mem (Q.2 i om).2)).mono ?_
 rintro _ s ⟨rfl,c6⟩
 have f4:Fr a s:=((Fr.refl a).bH om).trans c6
 have y:=p.trans f4
 have k:=Fh.trans f4
 by_cases he:b.getD i []=d.getD i []
 ·have N:decide (b.getD i []=d.getD i [])=true:=bN he
  simp(disch:=omega)only[go_sem,N,a2 s y,b2 s y,r s k,o s k,a7,a9,b4,B]
  rw[dU i]
  refine⟨b.length-(i+1),om,i+1,aB rfl,om,λj hj=>?_,F.trans f4,rfl⟩
  by_cases e:j=i
  ·rw[e];exact he
  ·exact hs j om
 ·have N:decide (b.getD i []=d.getD i [])=false:=bE he
  simp(disch:=omega)only[go_sem,N,a2 s y,b2 s y,r s k,o s k,a7,a9,b4,B]
  exact⟨by rw[bE];exact λx=>he (by rw[x.2.2]),k⟩
set_option maxRecDepth 100000
set_option maxRecDepth 100000
set_option maxRecDepth 100000
theorem Zd {b:List Cls.KE}{i:Nat}(hi:i<b.length):(uN b)[i*3]? =some b[i].rep/\(uN b)[i*3+1]? =some (aC (b[i].ord:Int))/\(uN b)[i*3+2]? =some (aC (b[i].size:Int)):=by
 induction b generalizing i with
 |nil=>simp at hi
 |cons a r ih=>
  have e:uN (a::r)= [a.rep,aC (a.ord:Int),aC (a.size:Int)]++uN r:=rfl
  cases i with
  |zero=>exact⟨rfl,rfl,rfl⟩
  |succ i=>
   have c:=ih (i:=i) (by simpa using hi);rw[e,show (i+1)*3=i*3+3 by omega];refine⟨?_,?_,?_⟩
   ·rw[Eb (by simp)];exact c.1
   ·rw[Eb (by simp)];exact c.2.1
   ·rw[Eb (by simp)];exact c.2.2
end Go.Proofs.YtcdbmkidaecdiaaGreat
namespace Go.Pm
set_option maxRecDepth 100000
section
variable {n:Nat} {t:rN}
theorem oI.gt (T:oI n t){i p:Nat}{y:List Nat}(h:t i p=some y):i<p:=by
 have Y:=T.cX _ _ _ h;have F:=T.fix _ _ _ h;obtain⟨b,c,d⟩:=T.lt _ _ _ h;have m:=T.maps _ _ _ h;rcases Nat.lt_or_ge p i with a|a
 ·exact absurd (Y.inj b c (m.trans (F p a).symm)) oq
 ·omega
def eR (t:rN)(i p:Nat):zJ:=(List.range p).filterMap (t i)
def eB (n:Nat)(t:rN)(i:Nat):zJ:=(List.range i).flatMap λi=>eR t i n
theorem HL (i p:Nat):eR t i (p+1)=eR t i p++(t i p).toList:=by
 unfold eR;rw[List.range_succ,List.filterMap_append];cases h:t i p<;>simp [h]
theorem IX (i:Nat):eB n t (i+1)=eB n t i++eR t i n:=by
 unfold eB;rw[List.range_succ,List.flatMap_append];simp
theorem Wo:eB n t n=fJ n t 0:=by
 unfold eB fJ eR;simp
theorem yL (T:oI n t):(fJ n t 0).Nodup:=by
 have d: ∀i p b g y,t i p=some y->t b g=some y->i=b/\p=g:=λi p b g y f j=>by
  have u:=T.gt f;have s:=T.gt j;have o:=T.fix _ _ _ f;have m:=T.fix _ _ _ j;have r:=T.maps _ _ _ f;have l:=T.maps _ _ _ j
  have e:i=b:=by
   rcases Nat.lt_trichotomy i b with h|h|h
   ·have:=m i h;omega
   ·exact h
   ·have:=o b h;omega
  subst e;exact⟨rfl,r.symm.trans l⟩
 rw[←Wo];unfold eB;rw[List.Nodup,List.pairwise_flatMap];refine⟨λi _=>?_,?_⟩
 ·unfold eR
  rw[List.pairwise_filterMap];refine (List.nodup_range (n:=n)).imp ?_;intro p g c y k q a e;subst e;exact c (d _ _ _ _ _ k a).2
 ·refine (List.nodup_range (n:=n)).imp ?_
  intro i b c y k q a e;subst e;obtain⟨p,_,f⟩:=List.mem_filterMap.1 k;obtain⟨g,_,j⟩:=List.mem_filterMap.1 a;exact c (d _ _ _ _ _ f j).1
def frF (n:Nat)(t:rN)(l:zJ):zJ:=(fJ n t 0).filter λy=>decide (y∉l)
def clF (n:Nat)(t:rN)(x:List Nat)(l:zJ):zJ:=if (fJ n t 0).length<(fJ n (iX t n x) 0).length then l++frF n (iX t n x) l else l
structure Cm (n:Nat)(L:List Nat->Prop)(t:rN)(l:zJ):Prop where
 tl:Ox n L t
 nd:l.Nodup
 mem: ∀y,y∈l↔y∈fJ n t 0
variable {L:List Nat->Prop} {l:zJ}
theorem Cm.cX (c:Cm n L t l): ∀y∈l,bC n y:=λy a=>c.tl.tab.LW y ((c.mem y).1 a)
theorem Cm.bound (c:Cm n L t l):l.length<=n^n:=Bc c.nd c.cX
theorem Cm.start (c:Ox n L t):Cm n L t (fJ n t 0):=⟨c,yL c.tab,λ_=>Iff.rfl⟩
theorem Yy {a:rN}(s:Sub t a): ∀y,y∈fJ n t 0->y∈fJ n a 0:=λy c=>by
 obtain⟨i,p,b,d,e,f⟩:=fP.1 c;exact fP.2 ⟨i,p,b,d,e,s _ _ _ f⟩
theorem Cm.step (c:Cm n L t l)(A: ∀g,L g->bC n g){x:List Nat}(F:cG n L x):
  Cm n L (iX t n x) (clF n t x l)/\Sub t (iX t n x)/\ins (iX t n x) n 0 x=none/\ ∃m,clF n t x l=l++m:=by
 obtain⟨a,f,O⟩:=c.tl.ins A F
 have o:=yL a.tab
 refine⟨?_,f,O,?_⟩
 ·cases h:ins t n 0 x with
  |none=>
   have e:iX t n x=t:=by unfold iX;rw[h]
   unfold clF;rw[e,if_neg (Nat.lt_irrefl _)];exact c
  |some q=>
   obtain⟨i,r⟩:=q;have e:iX t n x=put t i (r.getD i 0) r:=by unfold iX;rw[h]
   obtain⟨b1,w,P,K,b5,N,_⟩:=Bn c.tl.tab n 0 x i r oq (F.cX A) (λk Z=>oq) h;have W:r∈fJ n (iX t n x) 0:=fP.2 ⟨i,r.getD i 0,Nat.zero_le _,w,P.gW w,by rw[e];unfold put;rw[if_pos ⟨rfl,rfl⟩]⟩
   have v:r∉fJ n t 0:=λh=>by
    obtain⟨j,q,_,_,_,d⟩:=fP.1 h;have s:=f _ _ _ d;have Y:=a.tab.gt s;have Q:=a.tab.fix _ _ _ s;have U:=a.tab.maps _ _ _ s;have G:iX t n x i (r.getD i 0)=some r:=by rw[e];unfold put;rw[if_pos ⟨rfl,rfl⟩]
    have g2:=a.tab.gt G
    have p:i=j:=by
     rcases Nat.lt_trichotomy i j with h|h|h
     ·have:=Q i h;omega
     ·exact h
     ·have:=K j h;omega
    subst p;rw[←U] at d;rw[N] at d;cases d
   have u:(fJ n t 0).length<(fJ n (iX t n x) 0).length:=by
    have:(r::fJ n t 0).length<=(fJ n (iX t n x) 0).length:=List.Nodup.length_le_of_subset (List.nodup_cons.2 ⟨v,yL c.tl.tab⟩) (λy b=>by
     rcases List.mem_cons.1 b with rfl|b
     ·exact W
     ·exact Yy f y b)
    rw[List.length_cons] at this;omega
   unfold clF;rw[if_pos u];refine⟨a,List.nodup_append.2 ⟨c.nd,o.filter _,λy b z R J=>?_⟩,λy=>?_⟩
   ·subst J
    have:=(List.mem_filter.1 R).2;simp at this;exact this b
   ·rw[List.mem_append]
    unfold frF;rw[List.mem_filter];constructor
    ·rintro (h|h)
     ·exact Yy f y ((c.mem y).1 h)
     ·exact h.1
    ·intro h
     by_cases B:y∈l
     ·exact .inl B
     ·exact .inr ⟨h,by simpa using B⟩
 ·unfold clF
  split
  ·exact⟨_,rfl⟩
  ·exact⟨[],(List.append_nil _).symm⟩
theorem Cm.gen (c:Cm n L t l): ∀y∈l,cG n L y:=λy a=>c.tl.gen y ((c.mem y).1 a)
def Pr (n:Nat)(t:rN)(l:zJ)(a b:Nat):Prop:=ins t n 0 (aX (l.getD a []) (l.getD b []))=none
theorem Pr.mono {c:rN}{m:zJ}{a b:Nat}(h:Pr n t l a b)(s:Sub t c)(f:a<l.length)(d:b<l.length):Pr n c (l++m) a b:=by
 have e: ∀k,k<l.length->(l++m).getD k []=l.getD k []:=λk g=>by rw[List.getD,List.getD,List.getElem?_append_left g]
 unfold Pr;rw[e a f,e b d];exact Fp s _ _ _ h
theorem Cm.closed (c:Cm n L t l)(h: ∀a b,a<l.length->b<l.length->Pr n t l a b):Jw n t:=λa b f g=>by
 obtain⟨i,hi,e⟩:=List.mem_iff_getElem.1 ((c.mem a).2 f);obtain⟨j,d,o⟩:=List.mem_iff_getElem.1 ((c.mem b).2 g);have:=h i j hi d;unfold Pr at this;have m:l.getD i []=a:=by rw[List.getD,List.getElem?_eq_getElem hi,←e];rfl
 have k:l.getD j []=b:=by rw[List.getD,List.getElem?_eq_getElem d,←o];rfl
 rwa [m,k] at this
def Ck (t:rN)(i k:Nat):List Nat:=(List.range k).filter λp=>p==i||(t i p).isSome
theorem CE (T:oI n t)(i:Nat):Ck t i i= []:=by
 unfold Ck;refine List.filter_eq_nil_iff.2 λp b=>?_
 have:=List.mem_range.1 b;simp only[Bool.or_eq_true,beq_iff_eq,not_or];refine⟨oq,λh=>?_⟩;obtain⟨y,a⟩:=Option.isSome_iff_exists.1 h;have:=T.gt a;omega
theorem MC (i k:Nat):Ck t i (k+1)=Ck t i k++if k=i∨(t i k).isSome then [k] else []:=by
 unfold Ck;rw[List.range_succ,List.filter_append]
 by_cases h:k=i
 ·subst h;simp
 ·have e:(k==i)=false:=by simpa using h
  cases h2:t i k<;>simp [h,h2,List.filter,e]
theorem UQ (i:Nat):Ck t i n=(kF n t i).orb:=rfl
theorem RO (i k:Nat):(Ck t i k).Pairwise (· < ·):=List.pairwise_lt_range.filter _
end
end Go.Pm
namespace Go.Proofs.YtcdbmkidaecdiaaGreat
open Go Go.Ay Go.Pm
set_option maxRecDepth 100000
theorem Wk (h:H)(x:Int):mH h 1 [aC 0] 1 [(0,1,aC x)]=some (.sl h.next 0 1 (.kn 1),h.new (.cells false (ints [x]))):=by
 have e:dC [aC 0] 1= [aC 0]:=rfl;simp [mH,gZ,e,putAt,V.cells,V.one,ints]
theorem TP {h:H}{v:V}{sz b:Nat}{ws:List V}(o:cQ h v sz ws b): ∀id off len cap,v= .sl id off len cap->b<=id:=by
 rcases o with ⟨rfl,_⟩|⟨id,n,cap,a,rfl,_,_,c,_⟩
 ·intro _ _ _ _ e;cases e
 ·intro _ _ _ _ e;cases e;exact c
theorem Vv (l:List Nat)(x:Nat):zi (l++ [x])=zi l++ [(x:Int)]:=by simp [zi]
theorem Tz {l:List Nat}{i:Nat}(hi:i<l.length):l.take (i+1)=l.take i++ [l.getD i 0]:=by
 rw[List.take_add_one,dF hi,cL hi];rfl
theorem qM (u w:V)(a b:List Nat)(h:H)(hN:a.length<=1000)(Q:SI h u (zi a))(Y:SI h w (zi b))(hr: ∀i,i<a.length->a.getD i 0<b.length):
  Ev T 40 [u,w] h (λv h'=>SI h' v (zi (aX a b))/\Fr h h'/\ ∀id off len cap,v= .sl id off len cap->h.next<=id):=by
 refine cT Sy rfl ?_
 have R:=Q.lens
 rw[aN] at R
 obtain⟨id,off,O,q,K⟩:=Q.open
 rw[aN] at O q K
 obtain⟨J,l,s,e,p⟩:=Y.open
 rw[aN] at s e p
 simp(disch:=omega)only[go_sem,Sy,aD]
 refine aI (λP g U=> ∃(i:Nat) (o:V),(∃j:Nat->V,g= [u,w,j 2,o,aC i,j 5])/\i<=a.length/\cQ U o 1 (ints (zi ((aX a b).take i))) h.next/\Fr h U/\P=a.length-i) a.length
  ⟨0,.aE,aB rfl,fR _,cQ.aE _ _ _,Fr.refl h,rfl⟩ ?_
 rintro P g c ⟨i,o,⟨jk,rfl⟩,hi,A,F,rfl⟩
 simp(disch:=omega)only[go_sem,R]
 by_cases y:(i:Int)<(a.length:Int)
 ·rw[bN y]
  have d:i<a.length:=om
  have ci:c.cell id (off+i)=some (aC (a.getD i 0:Nat)):=by rw[F.cell (q om),K i d];congr 2;simp [zi,d]
  have r:=hr i d
  have N:=cM (b:=b) d
  generalize hk:a.getD i 0=k at ci r N
  have Z:c.cell J (l+k)=some (aC (b.getD k 0:Nat)):=by rw[F.cell (e om),p k r];congr 2;simp [zi,r]
  simp(disch:=omega)only[go_sem,O.ixa,ci,s.ixa,Z,Wk]
  have f:Fr c (c.new (.cells false (ints [((b.getD k 0:Nat):Int)]))):=(Fr.refl c).new _
  have z:(c.new (.cells false (ints [((b.getD k 0:Nat):Int)]))).get c.next=some (.cells false (ints [((b.getD k 0:Nat):Int)])):=H.aL ..
  have L:(c.new (.cells false (ints [((b.getD k 0:Nat):Int)]))).next=c.next+1:=H.aU ..
  generalize c.new (.cells false (ints [((b.getD k 0:Nat):Int)]))=B at*
  have sx:SV B (.sl c.next 0 1 (.kn 1)) 1 (ints [((b.getD k 0:Nat):Int)]):=SV.all rfl om z _
  have nF:=F.next
  have hl:(aX a b).length=a.length:=eV a b
  obtain⟨v2,W,G,t⟩:=(A.fr f).app (bytes:=8) (n:=i) (m:=1) om sx (by rw[aP,aN,Cq,uH];omega) rfl om om
  simp(disch:=omega)only[go_sem,G]
  have x:=t.own
  rw[←uW,←N,←Vv,←Tz om] at x
  rw[dU i]
  exact⟨a.length-(i+1),om,i+1,v2,aB rfl,om,x,t.fr h (F.trans f) (eH _),rfl⟩
 rw[bE y]
 obtain rfl:i=a.length:=om
 simp(disch:=omega)only[go_sem]
 rw[Lq (by rw[eV];omega)] at A
 exact⟨A.sv,F,TP A⟩
theorem adP (n:Nat)(h:H)(B:n<=1000):
  Ev T 91 [aC n] h (λv h'=>SI h' v (zi (bT n))/\Fr h h'/\ ∀id off len cap,v= .sl id off len cap->h.next<=id):=by
 refine cT Sr rfl ?_
 simp(disch:=omega)only[go_sem,Sr,aD]
 refine aI (λs c t=> ∃(i:Nat) (o:V),(∃j:Nat->V,c= [aC n,j 1,o,aC i,j 4])/\i<=n/\cQ t o 1 (ints (zi ((bT n).take i))) h.next/\Fr h t/\s=n-i) n
  ⟨0,.aE,aB rfl,fR _,cQ.aE _ _ _,Fr.refl h,rfl⟩ ?_
 rintro s c a ⟨i,o,⟨G,rfl⟩,hi,k,F,rfl⟩
 simp(disch:=omega)only[go_sem]
 by_cases e:(i:Int)<(n:Int)
 ·rw[bN e]
  have p:i<n:=om
  simp(disch:=omega)only[go_sem,Wk]
  have b:Fr a (a.new (.cells false (ints [(i:Int)]))):=(Fr.refl a).new _
  have g:(a.new (.cells false (ints [(i:Int)]))).get a.next=some (.cells false (ints [(i:Int)])):=H.aL ..
  have r:(a.new (.cells false (ints [(i:Int)]))).next=a.next+1:=H.aU ..
  generalize a.new (.cells false (ints [(i:Int)]))=l at*
  have y:SV l (.sl a.next 0 1 (.kn 1)) 1 (ints [(i:Int)]):=SV.all rfl om g _
  have J:=F.next
  have A:=iU n
  obtain⟨z,u,q,f⟩:=(k.fr b).app (bytes:=8) (n:=i) (m:=1) om y (by rw[aP,aN,Cq,uH];omega) rfl om om
  simp(disch:=omega)only[go_sem,q]
  have d:=f.own
  have w:=fF p
  have x:zi ((bT n).take i)++ [(i:Int)]=zi ((bT n).take (i+1)):=by rw[Tz om,Vv,w]
  rw[←uW,x] at d
  rw[dU i]
  exact⟨n-(i+1),om,i+1,z,aB rfl,om,d,f.fr h (F.trans b) (eH _),rfl⟩
 rw[bE e]
 obtain rfl:i=n:=om
 simp(disch:=omega)only[go_sem]
 rw[Lq (by rw[iU];omega)] at k
 exact⟨k.sv,F,TP k⟩
theorem Ic (u:V)(n:Nat)(a:List Nat)(h:H)(Y:n<=1000)(A:bC n a)(K:SI h u (zi a)):
  Ev T 39 [u] h (λv h'=>Yo h h' v (cY a)):=by
 refine cT Tq rfl ?_
 have g:=A.len
 have t:=K.lens
 rw[aN,g] at t
 obtain⟨id,off,z,m,x⟩:=K.open
 rw[aN,g] at z m x
 simp(disch:=omega)only[go_sem,Tq,aD,t,pQ h n om]
 have l:Fr h (h.new (.cells false (rc n λ_=> aC 0))):=(Fr.refl h).new _
 have f:(h.new (.cells false (rc n λ_=> aC 0))).get h.next=some (.cells false (rc n λ_=> aC 0)):=H.aL ..
 have d:(h.new (.cells false (rc n λ_=> aC 0))).next=h.next+1:=H.aU ..
 generalize h.new (.cells false (rc n λ_=> aC 0))=W at*
 obtain⟨S,o⟩:=exI h.next
 rw[o] at f d
 rw[o]
 refine aI (λB c w=> ∃(i:Nat),(∃j:Nat->V,c= [u,.aE,.sl S 0 n (.kn n),aC i,j 4])/\i<=n/\
   w.get S=some (.cells false (rc n λj=>if a.idxOf j<i then aC (a.idxOf j:Nat) else aC 0))/\w.next=S+1/\Fr h w/\B=n-i) n
  ⟨0,aB rfl,fR _,by rw[f];rfl,d,l,rfl⟩ ?_
 clear f l d
 rintro B c L ⟨i,⟨U,rfl⟩,hi,G,J,F,rfl⟩
 simp(disch:=omega)only[go_sem,t]
 by_cases p:(i:Int)<(n:Int)
 ·rw[bN p]
  have b:i<n:=om
  have ci:L.cell id (off+i)=some (aC (a.getD i 0:Nat)):=by rw[F.cell (m om),x i b];congr 2;simp [zi,g,b]
  have r:=A.gW b
  have N:a.idxOf (a.getD i 0)=i:=A.inj (A.idx r).1 b (A.idx r).2
  generalize Q:a.getD i 0=k at ci r N
  have O:decide ((k:Int)<0)=false:=bE om
  have q:decide ((n:Int)<=(k:Int))=false:=bE om
  have y:=bP (vs:=rc n λj=>if a.idxOf j<i then aC (a.idxOf j:Nat) else aC 0) (off:=k) (by rw[jE];exact r) L S (aC i)
  rw[kX] at y
  simp(disch:=omega)only[go_sem,z.ixa,ci,O,q,G,y]
  rw[dU i]
  refine⟨n-(i+1),om,i+1,aB rfl,om,?_,J,F.set om _,rfl⟩
  congr 2
  refine dA λj s=>?_
  by_cases e:j=k
  ·rw[bJ e,e,N,bJ om]
  ·rw[bL e]
   have P:a.idxOf j≠i:=λR=>e (by rw[←(A.idx s).2,R,Q])
   by_cases q:a.idxOf j<i
   ·rw[bJ q,bJ om]
   ·rw[bL q,bL om]
 rw[bE p]
 obtain rfl:i=n:=om
 simp(disch:=omega)only[go_sem]
 refine⟨by rw[iR,g,o],?_,by rw[o];exact J,F⟩
 rw[o,G]
 congr 2
 rw[←Xt,iR,g]
 exact dA λj s=>by rw[bJ (A.idx s).1,yD (by rw[g];exact s)]
structure Io (b:Nat)(W:Nat->Prop)(h:H)(n:Nat)(tv:V)(ρ:Nat->Nat)(F:Nat->Nat->V)(t:rN):Prop where
 sv:SV h tv 1 (rc n λi=> .sl (ρ i) 0 n (.kn n))
 off:Mf W tv
 row: ∀i,i<n->h.get (ρ i)=some (.cells false (rc n (F i)))
 wb: ∀i,i<n->W (ρ i)
 Nl: ∀id,W id->id<h.next
 low: ∀id,W id->b<=id
 inj: ∀i j,i<n->j<n->ρ i=ρ j->i=j
 ent: ∀i p,i<n->p<n->Slot W h (F i p) (t i p)
section
variable {b:Nat} {W:Nat->Prop} {h h':H} {n:Nat} {tv:V} {ρ:Nat->Nat} {F:Nat->Nat->V} {t:rN}
theorem Io.open (R:Io b W h n tv ρ F t):bF tv=some (aC n)/\ ∃id off,Sl tv 1 n id off/\ ∀i,i<n->h.cell id (off+i)=some (.sl (ρ i) 0 n (.kn n)):=by
 have s:=R.sv;have e:(rc n λi=>V.sl (ρ i) 0 n (.kn n)).length=n:=jE n _;refine⟨by unfold bF;rw[SV.len s (n:=n) om om];rfl,?_⟩;obtain⟨id,off,c,d,a⟩:=SV.shape s n om om;refine⟨id,off,c,λi hi=>?_⟩;rw[a i om,Je hi]
theorem Io.cell (R:Io b W h n tv ρ F t){i p:Nat}(hi:i<n)(a:p<n):h.cell (ρ i) p=some (F i p):=qF (R.row i hi) a
theorem Io.mono (R:Io b W h n tv ρ F t)(f:Fr h h'):Io b W h' n tv ρ F t:=
 ⟨R.sv.mono f,R.off,λi hi=>by rw[f.get _ (R.Nl _ (R.wb i hi))];exact R.row i hi,R.wb,λid a=>jB (R.Nl id a) f.next,R.low,R.inj,λi p hi c=>(R.ent i p hi c).fx (Fx.of f)⟩
theorem Io.go (R:Io b W h n tv ρ F t){W':Nat->Prop}(f:Fx W h h')(e: ∀i,i<n->h'.get (ρ i)=h.get (ρ i))(c: ∀id,id<h.next->W' id->W id)(a: ∀id,W id->W' id)(Nl: ∀id,W' id->id<h'.next)(low: ∀id,W' id->b<=id):Io b W' h' n tv ρ F t:=
 ⟨R.sv.fx R.off f,R.off.iP R.sv c,λi hi=>by rw[e i hi];exact R.row i hi,λi hi=>a _ (R.wb i hi),Nl,low,R.inj,λi p hi d=>(R.ent i p hi d).go f c⟩
def WB (n:Nat)(ρ:Nat->Nat)(id:Nat):Prop:= ∃i,i<n/\ρ i=id
theorem Io.wbx (R:Io b W h n tv ρ F t){a c:H}(f:Fx (WB n ρ) a c):Fx W a c:=f.iP λid _ d=>by
 obtain⟨i,hi,rfl⟩:=d;exact R.wb i hi
def F2 (F:Nat->Nat->V)(i p:Nat)(v:V):Nat->Nat->V:=λj q=>if j=i/\q=p then v else F j q
theorem Io.put (R:Io b W h n tv ρ F t){i p:Nat}(hi:i<n)(m:p<n){c:V}{x:List Nat}(l:PV W h c x):
  ∃h',dR (h.get (ρ i)) h (ρ i) p [c]=some h'/\Io b W h' n tv ρ (F2 F i p c) (Pm.put t i p x)/\Fx (WB n ρ) h h'/\h'.next=h.next:=by
 have k:=bP (vs:=rc n (F i)) (off:=p) (by rw[jE];exact m) h (ρ i) c
 rw[R.row i hi,k,kX]
 refine⟨_,rfl,?_,Fx.set h (W:=WB n ρ) ⟨i,hi,rfl⟩ _,rfl⟩
 have f:Fx W h (h.set (ρ i) (some (.cells false (rc n λj=>if j=p then c else F i j)))):=Fx.set h (R.wb i hi) _
 refine⟨R.sv.fx R.off f,R.off,λj d=>?_,R.wb,R.Nl,R.low,R.inj,λj q d g=>?_⟩
 ·by_cases e:j=i
  ·subst e
   rw[H.aS]
   congr 2
   refine dA λq _=>?_
   unfold F2
   by_cases a:q=p
   ·rw[bJ a,bJ ⟨rfl,a⟩]
   ·rw[bL a,bL (λh=>a h.2)]
  ·rw[H.aH h (λa=>e (R.inj _ _ d hi a)),R.row j d]
   congr 2
   refine dA λq _=>?_
   unfold F2
   rw[bL (λh=>e h.1)]
 ·unfold F2 Pm.put
  by_cases e:j=i/\q=p
  ·rw[bJ e,bJ e]
   exact PV.fx l f
  ·rw[bL e,bL e]
   exact (R.ent j q d g).fx f
theorem PV.fresh {v:V}{l:List Nat}(s:SI h' v (zi l))(a: ∀id off len cap,v= .sl id off len cap->h.next<=id)(c: ∀id,W id->id<h.next):PV W h' v l:=by
 refine⟨s,?_⟩
 cases v with
 |sl id off len cap=>exact λd=>by have:=a _ _ _ _ rfl;have:=c id d;omega
 |_=>trivial
theorem Slot.nil {v:V}(s:Slot W h v none):v= .aE:=s
end
theorem Tf (b:Nat)(W:Nat->Prop)(h:H)(n:Nat)(tv:V)(ρ:Nat->Nat)(F:Nat->Nat->V)(t:rN)(vx:V)(x:List Nat)(hn:n<=64)(h0:0<n)(R:Io b W h n tv ρ F t)(hx:PV W h vx x)(X:bC n x)(TI:oI n t):
  Ev T 87 [tv,vx] h (λv h'=> ∃F',v= .bool (ins t n 0 x).isSome/\Io b W h' n tv ρ F' (iX t n x)/\Fx (WB n ρ) h h'):=by
 refine cT rI rfl ?_
 obtain⟨P,id,a6,sh,_⟩:=R.open
 simp(disch:=omega)only[go_sem,rI,aD]
 refine aI (λk' e hh=> ∃(i:Nat) (y:List Nat) (r:V),(∃g:Nat->V,e= [tv,r,g 2,aC i,g 4,g 5,g 6,g 7])/\i<=n/\ins t (n-i) i y=ins t n 0 x/\PV W hh r y/\bC n y/\Fr h hh/\k'=n-i) n
  ⟨0,x,vx,aB rfl,fR _,rfl,hx,X,Fr.refl h,rfl⟩ ?_
 rintro k' e h2 ⟨i,y,r,⟨g,rfl⟩,hi,q,s,Y,f,rfl⟩
 have m:=R.mono f
 by_cases G:(i:Int)<(n:Int)
 case neg=>
  have u:=bE G;obtain rfl:i=n:=om
  simp(disch:=omega)only[go_sem,P,u];rw[Nat.sub_self] at q;have a:ins t i 0 x=none:=q.symm;refine⟨F,by rw[a];rfl,?_,Fx.of f⟩;unfold iX;rw[a];exact m
 have u:=bN G
 have c:i<n:=om
 obtain⟨a3,L,d,K,A⟩:=s.si.open
 rw[aN,Y.len] at d K A
 have ci:h2.cell a3 (L+i)=some (aC (y.getD i 0:Nat)):=by rw[A i c];congr 2;simp [zi,Y.len,c]
 have Q:=Y.gW c
 obtain⟨p,k⟩:=exI (y.getD i 0)
 rw[k] at ci Q
 have o:n-i=(n-(i+1))+1:=om
 rw[o] at q
 obtain⟨_,a5,a4,J,a0⟩:=m.open
 have cr:=a0 i c
 have O:=m.cell c Q
 have U:=m.ent i p c Q
 by_cases l:p=i
 ·have a:ins t (n-(i+1)) (i+1) y=ins t n 0 x:=by
   rw[←q]
   conv=>rhs;unfold ins
   rw[bJ (k.trans l)]
  have N:decide ((p:Int)=(i:Int))=true:=bN om;simp(disch:=omega)only[go_sem,P,u,d.ixa,ci,N];rw[dU i];exact⟨n-(i+1),om,i+1,y,r,aB rfl,om,a,s,Y,f,rfl⟩
 have N:decide ((p:Int)=(i:Int))=false:=bE om
 have e3:decide ((p:Int)<0)=false:=bE om
 have e4:decide ((n:Int)<=(p:Int))=false:=bE om
 cases hto:t i p with
 |none=>
  rw[hto] at U;have a2:=U.nil;rw[a2] at O
  have a:ins t n 0 x=some (i,y):=by
   rw[←q];unfold ins;rw[bL (by rw[k];exact l),k,hto]
  obtain⟨h3,pt,R3,B,n3⟩:=m.put c Q s;simp(disch:=omega)only[go_sem,P,u,d.ixa,ci,N,e3,e4,J.ixa,cr,O,kL s.dP.1 s.dP.2,pt];have e5:iX t n x=Pm.put t i p y:=by unfold iX;rw[a];simp only;rw[k]
  refine⟨F2 F i p r,by rw[a];rfl,by rw[e5];exact R3,(Fx.of f).trans B (λ_ _ h=>h)⟩
 |some z=>
  rw[hto] at U;have Z:=TI.cX _ _ _ hto;have hz:PV W h2 (F i p) z:=U;have sn:=Ie hz (bC.ne h0 Z) false
  have a:ins t (n-(i+1)) (i+1) (aX y (cY z))=ins t n 0 x:=by
   rw[←q]
   conv=>rhs;unfold ins
   rw[bL (by rw[k];exact l),k,hto]
  generalize F i p=vz at O hz sn;simp(disch:=omega)only[go_sem,P,u,d.ixa,ci,N,e3,e4,J.ixa,cr,O,sn];refine (Ic vz n z h2 om Z hz.si).mono ?_;rintro w h3 nw;have B:=nw.fr;have pw:=nw.pv (W:=W) (λhw=>by have:=m.Nl _ hw;omega);simp(disch:=omega)only[go_sem];refine (qM r w y (cY z) h3 (by rw[Y.len];omega) (s.si.mono B) pw.si (λj hj=>by rw[iR,Z.len];exact Y.gW (by rw[←Y.len];exact hj))).mono ?_;rintro v h4 ⟨s4,f4,l4⟩;simp(disch:=omega)only[go_sem];rw[dU i];exact⟨n-(i+1),om,i+1,_,v,aB rfl,om,a,PV.fresh s4 l4 (λid a1=>jB (m.Nl id a1) B.next),Y.mul Z.inv,(f.trans B).trans f4,rfl⟩
section
variable {h:H} {ws:List V} {l:LN} {k:Nat}
theorem uV.frb {a h':H}{x:V}{n m sz:Nat}{us:List V}(p:uV h x n m sz ws us h')(f:Fr a h){g:Nat}{b:List V}(o:cQ h x g b a.next):Fr a h':=by
 have q:=f.next;refine⟨by rw[p.next];omega,λid d=>?_⟩;rw[p.old id om (λj i n c e r=>by have:=(o.in _ _ _ _ e).2.1;omega)];exact f.get id d
theorem yB {a:H}{d v:V}(o:cQ h d 1 ws a.next)(f:Fr a h)(w:ws.length<1000000){bytes:Nat}(t:bytes<=24):
  ∃h2,yE (h.new (.cells false [v])) 1 bytes d (.sl h.next 0 1 (.kn 1))=some (.sl (h.next+1) 0 (ws.length+1) (.un 1),h2)/\cQ h2 (.sl (h.next+1) 0 (ws.length+1) (.un 1)) 1 (ws++ [v]) a.next/\Fr a h2/\h2.next=h.next+2/\ ∀id,id<h.next->cZ d id->h2.get id=h.get id:=by
 obtain⟨q,u,g,s,r,i⟩:=cU (h:=h) rfl [v]
 rw[u]
 have e:=o.fr i
 obtain⟨h2,p,c⟩:=e.push (bytes:=bytes) (SV.one om s (.kn 1)) (n:=ws.length) (m:=1) om rfl om om ⟨by
  have:(2*(ws.length+1)+1000)*bytes<=(2*(ws.length+1)+1000)*24:=Nat.mul_le_mul_left _ t
  omega,om⟩
 rw[g] at p
 have x:=f.next
 have j:=c.own om rfl (b:=a.next) om
 rw[g] at j
 have nx:=c.next
 exact⟨h2,p,j,uV.frb c (f.trans i) e,om,λid q h2=>by rw[c.old id om h2,r id om]⟩
theorem QT (t:rN)(i p:Nat):(eR t i p).length<=p:=by
 unfold eR;have:=List.length_filterMap_le (t i) (List.range p);rwa [YI] at this
theorem Wr (n:Nat)(t:rN): ∀i,(eB n t i).length<=i*n
 |0=>by simp [eB]
 |i+1=>by
  rw[IX,iA,Nat.succ_mul];have:=Wr n t i;have:=QT t i n;omega
theorem yS (b:Nat)(W:Nat->Prop)(h:H)(n:Nat)(x:V)(ρ:Nat->Nat)(F:Nat->Nat->V)(t:rN)(hn:n<=64)(h0:0<n)(R:Io b W h n x ρ F t)(TI:oI n t):
  Ev T 130 [x] h (λv h'=> ∃ws,cQ h' v 1 ws h.next/\dW W h ws (fJ n t 0)/\Fr h h'):=by
 refine cT oZ rfl ?_
 have u:=R.open.1
 simp(disch:=omega)only[go_sem,oZ,aD]
 refine aI (λw c o=> ∃(i:Nat) (d:V) (ws:List V),(∃g:Nat->V,c= [x,g 1,d,aC i,g 4,g 5,g 6,g 7])/\i<=n/\cQ o d 1 ws h.next/\dW W h ws (eB n t i)/\Fr h o/\w=n-i) n
  ⟨0,.aE, [],aB rfl,fR _,cQ.aE _ _ _,trivial,Fr.refl h,rfl⟩ ?_
 rintro w c h2 ⟨i,d,ws,⟨g,rfl⟩,hi,e,a,f,rfl⟩
 by_cases A:(i:Int)<(n:Int)
 case neg=>
  have L:=bE A;obtain rfl:i=n:=om
  simp(disch:=omega)only[go_sem,u,L];rw[Wo] at a;exact⟨ws,e,a,f⟩
 have L:=bN A
 have p:i<n:=om
 simp(disch:=omega)only[go_sem,u,L]
 refine wG (λvs o=> ∃(d:V) (ws:List V),(∃g:Nat->V,vs= [x,g 1,d,aC i,g 4,g 5,g 6,g 7])/\cQ o d 1 ws h.next/\dW W h ws (eB n t (i+1))/\Fr h o) ?_ ?_
 ·refine aI (λw c o=> ∃(j:Nat) (d:V) (ws:List V),(∃g:Nat->V,c= [x,g 1,d,aC i,aC j,g 5,g 6,g 7])/\j<=n/\cQ o d 1 ws h.next/\dW W h ws (eB n t i++eR t i j)/\Fr h o/\w=n-j) n
   ⟨0,d,ws,aB rfl,fR _,e,by unfold eR;rw[List.range_zero,List.filterMap_nil,tD];exact a,f,rfl⟩ ?_
  clear e a f hi g
  rintro w c O ⟨j,d,ws,⟨g,rfl⟩,hj,e,a,f,rfl⟩
  by_cases m:(j:Int)<(n:Int)
  case neg=>
   have B:=bE m;obtain rfl:j=n:=om
   simp(disch:=omega)only[go_sem,u,B];exact⟨d,ws,aB rfl,e,by rw[IX];exact a,f⟩
  have B:=bN m
  have r:j<n:=om
  have U:=R.mono f
  obtain⟨_,a1,P,q,N⟩:=U.open
  have Q:=N i p
  have G:=U.cell p r
  have J:=R.ent i j p r
  have Z:=aM.length a
  have l1:=Wr n t i
  have l2:=QT t i j
  have l3:i*n<=64*64:=Nat.mul_le_mul om hn
  rw[iA] at Z
  cases hto:t i j with
  |none=>
   rw[hto] at J;rw[J.nil] at G;simp(disch:=omega)only[go_sem,u,B,q.ixa,Q,G];rw[dU j];refine⟨n-(j+1),om,j+1,d,ws,aB rfl,om,e.fr ((Fr.refl O).bH om),?_,f.bH om,rfl⟩;rw[HL,hto];simpa using a
  |some y=>
   rw[hto] at J;have s:PV W h (F i j) y:=J;have Y:=Ie s (bC.ne h0 (TI.cX _ _ _ hto)) true;generalize F i j=vz at G s Y;obtain⟨S,a0⟩:=exI O.next;simp(disch:=omega)only[go_sem,u,B,q.ixa,Q,G,Y,bZ _ (z:= .aE) s.dP.1 s.dP.2];obtain⟨h4,a4,K,f4,n4,_⟩:=yB (v:=vz) e f om (bytes:=24) om;simp(disch:=omega)only[go_sem,a4];rw[dU j];refine⟨n-(j+1),om,j+1,_,_,aB rfl,om,K,?_,f4,rfl⟩;rw[HL,hto,←rS];exact a.append (dW.one s)
 rintro c O ⟨d,ws,⟨g,rfl⟩,e,a,f⟩
 simp(disch:=omega)only[go_sem]
 rw[dU i]
 exact⟨n-(i+1),om,i+1,d,ws,aB rfl,om,e,a,f,rfl⟩
theorem dW.open {W:Nat->Prop}{v:V}(sv:SV h v 1 ws)(p:dW W h ws l):bF v=some (aC (l.length:Int))/\ ∃id off,Sl v 1 l.length id off/\ ∀i,i<l.length->id<h.next/\h.cell id (off+i)=some (ws.getD i .undef)/\PV W h (ws.getD i .undef) (l.getD i []):=by
 have f:=aM.length p;refine⟨by unfold bF;rw[SV.len sv (n:=l.length) om om];rfl,?_⟩;obtain⟨id,off,d,a,b⟩:=SV.shape sv l.length om om;refine⟨id,off,d,λi hi=>⟨a om,?_,?_⟩⟩
 ·rw[b i om];simp [List.getD,show i<ws.length by omega]
 ·obtain⟨w,c,e⟩:=dW.at p hi
  rw[List.getD,c];exact e
theorem Nj {α:Type}{l:List α}{x d:α}:x∈l.take k↔ ∃q,q<k/\q<l.length/\l.getD q d=x:=by
 constructor
 ·intro h
  obtain⟨q,a,e⟩:=wV.1 h;rw[Cq] at a;refine⟨q,om,om,?_⟩;rw[List.getElem_take] at e;rw[List.getD,dF om,←e];rfl
 ·rintro⟨q,h1,h2,e⟩
  rw[List.getD,dF h2] at e;refine wV.2 ⟨q,by rw[Cq];omega,?_⟩;rw[List.getElem_take];exact e
theorem De {x:List Nat}(b:k<l.length):x∈l.take (k+1)↔x∈l.take k∨l.getD k []=x:=by
 rw[Nj (d:= []),Nj (d:= [])];constructor
 ·rintro⟨q,c,a,e⟩
  by_cases h:q=k
  ·subst h;exact .inr e
  ·exact .inl ⟨q,om,a,e⟩
 ·rintro (⟨q,c,a,e⟩|e)
  ·exact⟨q,om,a,e⟩
  ·exact⟨k,om,b,e⟩
theorem WX {L:LN}(a:k<L.length):(L.take (k+1)).filter (λy=>decide (y∉l))=(L.take k).filter (λy=>decide (y∉l))++if L.getD k []∈l then [] else [L.getD k []]:=by
 rw[dE [] a,List.filter_append];generalize L.getD k []=z
 by_cases e:z∈l<;>simp [e,List.filter]
theorem WM (b:Nat)(W:Nat->Prop)(h:H)(n:Nat)(tv vl:V)(wl:List V)(l:LN)(ρ:Nat->Nat)(F:Nat->Nat->V)(t:rN)(hn:n<=64)(h0:0<n)(R:Io b W h n tv ρ F t)(TI:oI n t)(sl:SV h vl 1 wl)(pl:dW W h wl l)(hl: ∀x∈l,bC n x)(ll:l.length<1000000):
  Ev T 131 [tv,vl] h (λv h'=> ∃ws,cQ h' v 1 ws h.next/\dW W h ws (frF n t l)/\Fr h h'):=by
 refine cT sG rfl ?_
 simp(disch:=omega)only[go_sem,sG,aD]
 refine (yS b W h n tv ρ F t hn h0 R TI).mono ?_
 rintro ve h1 ⟨we,oe,pe,f1⟩
 obtain⟨L,hL⟩:=exI (fJ n t 0)
 have EP: ∀y∈L,bC n y:=λy hy=>TI.LW y (by rw[hL];exact hy)
 have lL:L.length<=4096:=by
  rw[←hL,←Wo];have:=Wr n t n;have:=Nat.mul_le_mul hn hn;omega
 unfold frF
 rw[hL] at pe ⊢
 have b3:dW W h1 we L:=dW.fx pe (Fx.of f1)
 have b6:=aM.length pe
 obtain⟨a6,G,m,a5,a8⟩:=dW.open oe.sv b3
 obtain⟨a0,a2,r,b2,a7⟩:=dW.open sl pl
 simp(disch:=omega)only[go_sem]
 refine aI (λk' a hh=> ∃(i:Nat) (Q:V) (ws:List V),(∃g:Nat->V,a= [tv,vl,g 2,Q,ve,aC i,g 6,g 7,g 8,g 9,g 10])/\i<=L.length/\cQ hh Q 1 ws h1.next/\dW W h ws ((L.take i).filter λy=>decide (y∉l))/\Fr h1 hh/\k'=L.length-i) L.length
  ⟨0,.aE, [],aB rfl,fR _,cQ.aE _ _ _,trivial,Fr.refl h1,rfl⟩ ?_
 rintro k' a h2 ⟨i,Q,ws,⟨g,rfl⟩,hi,ow,j,f,rfl⟩
 by_cases a3:(i:Int)<(L.length:Int)
 case neg=>
  have e1:=bE a3;obtain rfl:i=L.length:=om
  simp(disch:=omega)only[go_sem,a6,e1];rw[List.take_length] at j;exact⟨ws,ow.le f1.next,j,f1.trans f⟩
 have e1:=bN a3
 have q:i<L.length:=om
 obtain⟨i1,c1,U⟩:=a8 i q
 have Y:=EP _ (aW (d:= []) q)
 obtain⟨y,hy⟩:=exI (L.getD i [])
 have J:PV W h (we.getD i .undef) (L.getD i []):=by
  obtain⟨w,o,h4⟩:=dW.at pe q;rw[List.getD,o];exact h4
 rw[hy] at U Y J
 generalize we.getD i .undef=vy at c1 U J
 simp(disch:=omega)only[go_sem,a6,e1]
 refine bQ (λvs hh=>(∃g:Nat->V,vs= [tv,vl,g 2,Q,ve,aC i,.bool (decide (y∈l)),g 7,g 8,g 9,g 10])/\Fr h2 hh) ?_ ?_
 ·refine aI (λk' a hh=> ∃(k:Nat) (s:Bool),(∃g:Nat->V,a= [tv,vl,g 2,Q,ve,aC i,.bool s,aC k,g 8,g 9,g 10])/\k<=l.length/\(s=true↔y∈l.take k)/\Fr h2 hh/\k'=l.length-k) l.length
   ⟨0,false,aB rfl,fR _,by simp,Fr.refl h2,rfl⟩ ?_
  clear g
  rintro k' a o ⟨k,s,⟨g,rfl⟩,hk,hs,B,rfl⟩
  cases s with
  |true=>
   have p:decide (y∈l)=true:=bN (List.mem_of_mem_take (hs.1 rfl));simp(disch:=omega)only[go_sem];exact⟨by rw[p];exact aB rfl,B⟩
  |false=>
  have P:y∉l.take k:=λh=>by have:=hs.2 h;cases this
  by_cases u:(k:Int)<(l.length:Int)
  case neg=>
   have p:=bE u;obtain rfl:k=l.length:=om
   rw[List.take_length] at P;have e4:decide (y∈l)=false:=bE P;simp(disch:=omega)only[go_sem,a0,p];exact⟨by rw[e4];exact aB rfl,B⟩
  have p:=bN u
  have O:k<l.length:=om
  obtain⟨i2,c2,p2⟩:=a7 k O
  have Z:=hl _ (aW (d:= []) O)
  obtain⟨z,hz⟩:=exI (l.getD k [])
  rw[hz] at p2 Z
  generalize wl.getD k .undef=vz at c2 p2
  have c:=f.trans B
  have A:=f1.trans c
  have N:o.cell G (m+i)=some vy:=by rw[c.cell i1];exact c1
  have a9:o.cell a2 (r+k)=some vz:=by rw[A.cell i2];exact c2
  have v1:=SV.dB U.si
  have v2:=SV.dB p2.si
  simp(disch:=omega)only[go_sem,a0,p,a5.ixa,N,b2.ixa,a9]
  have fb:Fr o (H.mk o.tr (o.next+10)):=(Fr.refl o).bH om
  refine (IB vy vz _ _ _ (U.si.mono (c.trans fb)) (p2.si.mono (A.trans fb)) (by rw[aN,Y.len];omega) (by rw[aN,Z.len];omega)).mono ?_
  rintro _ h4 ⟨rfl,f4⟩
  have K:=fb.trans f4
  have b4:h4.cell G (m+i)=some vy:=by rw[(c.trans K).cell i1];exact c1
  have b0:h4.cell a2 (r+k)=some vz:=by rw[(A.trans K).cell i2];exact c2
  simp(disch:=omega)only[go_sem,b4,b0,v1,v2]
  rw[dU k]
  refine⟨l.length-(k+1),om,k+1,_,aB rfl,om,?_,B.trans K,rfl⟩
  rw[Ss,De O,hz]
  exact⟨λe=> .inr (Vf e).symm,λh=>h.elim (λh=>(P h).elim) λe=>by rw[e]⟩
 rintro a o ⟨⟨g,rfl⟩,B⟩
 have c:=f.trans B
 have N:o.cell G (m+i)=some vy:=by rw[c.cell i1];exact c1
 have a1:=ow.fr B
 have b5:=aM.length j
 have b7:((L.take i).filter λy=>decide (y∉l)).length<=i:=lX (List.length_filter_le _ _) (by rw[Cq];omega)
 have ft:=WX (L:=L) (l:=l) q
 rw[hy] at ft
 by_cases hm:y∈l
 ·have p:=bN hm
  simp(disch:=omega)only[go_sem,p]
  rw[dU i]
  rw[bJ hm,tD] at ft
  exact⟨L.length-(i+1),om,i+1,Q,ws,aB rfl,om,a1,by rw[ft];exact j,c,rfl⟩
 ·have p:=bE hm
  obtain⟨h4,a4,b1,f4,n4,_⟩:=yB (v:=vy) a1 c om (bytes:=24) om
  simp(disch:=omega)only[go_sem,p,a5.ixa,N,bZ _ (z:= .aE) U.dP.1 U.dP.2,a4]
  rw[dU i]
  rw[bL hm] at ft
  exact⟨L.length-(i+1),om,i+1,_,_,aB rfl,om,b1,by rw[ft];exact j.append (dW.one J),f4,rfl⟩
end
structure CJ (b:Nat)(W:Nat->Prop)(h hh:H)(n:Nat)(tv:V)(ρ:Nat->Nat)(L:List Nat->Prop)(t0:rN)(vl:V)(l:LN)(t:rN):Prop where
 ex: ∃W' F wl,Io b W' hh n tv ρ F t/\cQ hh vl 1 wl h.next/\dW W' hh wl l/\Dg W' vl/\ ∀id,id<h.next->W' id->W id
 fx:Fx W h hh
 cls:Cm n L t l
 sub:Sub t0 t
theorem acQ {n:Nat}{t:rN}{x:List Nat}{L:List Nat->Prop}{l:LN}(c:Cm n L t l)(a:oI n (iX t n x))(h:(fJ n t 0).length<(fJ n (iX t n x) 0).length):0<(frF n (iX t n x) l).length:=by
 refine List.length_pos_iff.2 λe=>?_
 unfold frF at e;rw[List.filter_eq_nil_iff] at e
 have:(fJ n (iX t n x) 0).length<=(fJ n t 0).length:=List.Nodup.length_le_of_subset (yL a) λy b=>by
  have:=e y b;simp at this;exact (c.mem y).1 this
 omega
theorem GR (n:Nat)(t:rN)(a:n<=64):(fJ n t 0).length<=4096:=by
 rw[←Wo];have:=Wr n t n;have:=Nat.mul_le_mul a a;omega
theorem PF {n:Nat}{t:rN}{l m:LN}{a c:Nat}(d:a<l.length)(b:c<l.length):Pr n t (l++m) a c↔Pr n t l a c:=by
 have e: ∀k,k<l.length->(l++m).getD k []=l.getD k []:=λk f=>by rw[List.getD,List.getD,Ej f]
 unfold Pr;rw[e a d,e c b]
theorem TK (b:Nat)(W:Nat->Prop)(h:H)(n:Nat)(y:V)(ρ:Nat->Nat)(F:Nat->Nat->V)(t:rN)(L:List Nat->Prop)(hn:n<=7)(h0:0<n)(hb:b<=h.next)(R:Io b W h n y ρ F t)(hL: ∀g,L g->bC n g)(tl:Ox n L t):
  Ev T 88 [y] h (λ_ h'=> ∃W' F' t',Io b W' h' n y ρ F' t'/\Ox n L t'/\Sub t t'/\Jw n t'/\Fx W h h'/\ ∀id,id<h.next->W' id->W id):=by
 have d6:n^n<=823543:=by
  have: ∀n,n<=7->n^n<=823543:=by decide
  exact this n hn
 refine cT rU rfl ?_
 simp(disch:=omega)only[go_sem,rU,aD]
 refine (yS b W h n y ρ F t om h0 R tl.tab).mono ?_
 rintro p h1 ⟨Z,P,N,f1⟩
 simp(disch:=omega)only[go_sem]
 refine aI (λk' r hh=> ∃(i:Nat) (p:V) (l:LN) (t':rN),(∃g:Nat->V,r= [y,p,aC i,g 3,g 4,g 5,g 6,g 7,g 8,g 9,g 10,g 11])/\CJ b W h hh n y ρ L t p l t'/\i<=l.length/\(∀a c,a<i->c<i->Pr n t' l a c)/\k'=1000000-i) 1000000
  ⟨0,p,fJ n t 0,t,aB rfl,⟨⟨λid=>W id∨ ∃G m c,p= .sl id G m c,F,Z,?_,P,?_,λid G m c e=> .inr ⟨_,_,_,e⟩,λid B f=>?_⟩,Fx.of f1,Cm.start tl,Sub.refl t⟩,fR _,λa c ha=>om,rfl⟩ ?_
 ·refine R.go (Fx.of f1) (λi hi=>f1.get _ (R.Nl _ (R.wb i hi))) (λid B f=>?_) (λid f=> .inl f) (λid f=>?_) (λid f=>?_)
  ·rcases f with f|⟨G,m,c,e⟩
   ·exact f
   ·have:=(P.in _ _ _ _ e).2.1;omega
  ·rcases f with f|⟨G,m,c,e⟩
   ·exact jB (R.Nl id f) f1.next
   ·exact (P.in _ _ _ _ e).1
  ·rcases f with f|⟨G,m,c,e⟩
   ·exact R.low id f
   ·have:=(P.in _ _ _ _ e).2.1;omega
 ·refine dW.go N (Fx.of f1) λid B f=>?_
  rcases f with f|⟨G,m,c,e⟩
  ·exact f
  ·have:=(P.in _ _ _ _ e).2.1;omega
 ·rcases f with f|⟨G,m,c,e⟩
  ·exact f
  ·have:=(P.in _ _ _ _ e).2.1;omega
 clear P N f1 p Z h1
 rintro k' r h1 ⟨i,p,l,s,⟨g,rfl⟩,J,hi,O,rfl⟩
 have lb:=J.cls.bound
 have a0:bF p=some (aC (l.length:Int)):=by
  obtain⟨⟨W',F',Z,_,P,N,_⟩,_⟩:=J;exact (dW.open P.sv N).1
 by_cases v:(i:Int)<(l.length:Int)
 case neg=>
  have Y:=bE v;obtain rfl:i=l.length:=om
  simp(disch:=omega)only[go_sem,a0,Y];obtain⟨⟨W',F',Z,R',_,_,_,hW⟩,fx,w,sub⟩:=J;exact⟨W',F',s,R',w.tl,sub,w.closed O,fx,hW⟩
 have Y:=bN v
 have o:i<l.length:=om
 simp(disch:=omega)only[go_sem,a0,Y]
 refine wG (λvs hh=> ∃(p:V) (l:LN) (t':rN),(∃g:Nat->V,vs= [y,p,aC i,g 3,g 4,g 5,g 6,g 7,g 8,g 9,g 10,g 11])/\CJ b W h hh n y ρ L t p l t'/\i<l.length/\ ∀a c,a<i+1->c<i+1->Pr n t' l a c) ?_ ?_
 ·refine aI (λk' r hh=> ∃(k:Nat) (p:V) (l:LN) (t':rN),(∃g:Nat->V,r= [y,p,aC i,aC k,g 4,g 5,g 6,g 7,g 8,g 9,g 10,g 11])/\k<=i+1/\CJ b W h hh n y ρ L t p l t'/\i<l.length/\(∀a c,a<i->c<i->Pr n t' l a c)/\(∀c,c<k->Pr n t' l i c/\Pr n t' l c i)/\k'=i+1-k) (i+1)
   ⟨0,p,l,s,aB rfl,fR _,J,o,O,λc hc=>om,rfl⟩ ?_
  clear J hi O lb a0 v Y o p l s g
  rintro k' r h2 ⟨k,p,l,s,⟨g,rfl⟩,hk,J,o,O,hQ,rfl⟩
  by_cases v:(k:Int)<=(i:Int)
  case neg=>
   have Y:=bE v;obtain rfl:k=i+1:=om
   simp(disch:=omega)only[go_sem,Y];refine⟨p,l,s,aB rfl,J,o,λa c ha hc=>?_⟩
   by_cases ea:a=i
   ·subst ea;exact (hQ c hc).1
   ·by_cases ec:c=i
    ·subst ec;exact (hQ a ha).2
    ·exact O a c om om
  have Y:=bN v
  have d1:k<=i:=om
  simp(disch:=omega)only[go_sem,Y]
  refine wG (λvs hh=> ∃(p:V) (l:LN) (t':rN),(∃g:Nat->V,vs= [y,p,aC i,aC k,g 4,g 5,g 6,g 7,g 8,g 9,g 10,g 11])/\CJ b W h hh n y ρ L t p l t'/\i<l.length/\(∀a c,a<i->c<i->Pr n t' l a c)/\ ∀c,c<k+1->Pr n t' l i c/\Pr n t' l c i) ?_ ?_
  ·refine aI (λk' r hh=> ∃(q:Nat) (p:V) (l:LN) (t':rN),(∃g:Nat->V,r= [y,p,aC i,aC k,aC q,g 5,g 6,g 7,g 8,g 9,g 10,g 11])/\q<=2/\CJ b W h hh n y ρ L t p l t'/\i<l.length/\(∀a c,a<i->c<i->Pr n t' l a c)/\(∀c,c<k->Pr n t' l i c/\Pr n t' l c i)/\(0<q->Pr n t' l i k)/\(1<q->Pr n t' l k i)/\k'=2-q) 2
    ⟨0,p,l,s,aB rfl,om,J,o,O,hQ,λh=>om,λh=>om,rfl⟩ ?_
   clear J O hQ v Y o p l s g
   rintro k' r h3 ⟨q,p,l,s,⟨g,rfl⟩,hq,J,o,O,hQ,hA,hB,rfl⟩
   by_cases v:(q:Int)<2
   case neg=>
    have Y:=bE v;have d3:q=2:=om
    simp(disch:=omega)only[go_sem,Y];refine⟨p,l,s,aB rfl,J,o,O,λc hc=>?_⟩
    by_cases ec:c=k
    ·subst ec;exact⟨hA om,hB om⟩
    ·exact hQ c om
   have Y:=bN v
   obtain⟨⟨W',F',Z,R',P,N,bl,hW⟩,fx,w,sub⟩:=J
   obtain⟨a0,a3,Q,b7,b8⟩:=dW.open P.sv N
   have lb:=w.bound
   obtain⟨i1,c1,p1⟩:=b8 i o
   obtain⟨_,c2,p2⟩:=b8 k om
   have ga:=w.gen _ (aW (d:= []) o)
   have gc:=w.gen _ (aW (d:= []) (show k<l.length by omega))
   obtain⟨a,ea⟩:=exI (l.getD i [])
   obtain⟨c,ec⟩:=exI (l.getD k [])
   rw[ea] at p1 ga
   rw[ec] at p2 gc
   have A:=ga.cX hL
   have C:=gc.cX hL
   generalize Z.getD i .undef=va at c1 p1
   generalize Z.getD k .undef=vc at c2 p2
   have v1:=SV.dB p1.si
   have v2:=SV.dB p2.si
   have vv:=SV.dB P.sv
   simp(disch:=omega)only[go_sem,Y,b7.ixa,c1,c2]
   have fb:Fr h3 (H.mk h3.tr (h3.next+10)):=(Fr.refl h3).bH om
   refine (qM va vc a c _ (by rw[A.len];omega) (p1.si.mono fb) (p2.si.mono fb) (λj hj=>by rw[C.len];exact A.gW (by rw[←A.len];exact hj))).mono ?_
   rintro vx h4 ⟨s4,f4,l4⟩
   have z:=fb.trans f4
   have b3:h4.cell a3 (Q+i)=some va:=by rw[z.cell i1];exact c1
   have b0:h4.cell a3 (Q+k)=some vc:=by rw[z.cell i1];exact c2
   simp(disch:=omega)only[go_sem,b3,b0,v1,v2]
   have px:PV W' h4 vx (aX a c):=PV.fresh s4 l4 (λid B=>jB (R'.Nl id B) fb.next)
   refine mZ (λvs hh=> ∃(vx:V) (x:List Nat),(∃g:Nat->V,vs= [y,p,aC i,aC k,aC q,vx,g 6,g 7,g 8,g 9,g 10,g 11])/\PV W' hh vx x/\(q=0->x=aX a c)/\(q=1->x=aX c a)/\cG n L x/\Fr h3 hh) ?_ ?_
   ·refine bA (λc6=>?_) (λc6=>?_)
    ·have w1:(1:Int)=(q:Int):=om
     simp(disch:=omega)only[go_sem,b7.ixa,b3,b0]
     have a5:Fr h4 (H.mk h4.tr (h4.next+10)):=(Fr.refl h4).bH om
     refine (qM vc va c a _ (by rw[C.len];omega) (p2.si.mono (z.trans a5)) (p1.si.mono (z.trans a5)) (λj hj=>by rw[A.len];exact C.gW (by rw[←C.len];exact hj))).mono ?_
     rintro vy h5 ⟨s5,f5,l5⟩
     have b1:=a5.trans f5
     have c3:h5.cell a3 (Q+i)=some va:=by rw[(z.trans b1).cell i1];exact c1
     have c8:h5.cell a3 (Q+k)=some vc:=by rw[(z.trans b1).cell i1];exact c2
     simp(disch:=omega)only[go_sem,c3,c8,v1,v2]
     refine .inl ⟨vy,aX c a,aB rfl,PV.fresh s5 l5 (λid B=>jB (R'.Nl id B) (z.trans a5).next),λe=>om,λ_=>rfl,gc.app hL ga,z.trans b1⟩
    ·simp(disch:=omega)only[go_sem]
     exact .inl ⟨vx,aX a c,aB rfl,px,λ_=>rfl,λe=>om,ga.app hL gc,z⟩
   clear px s4 l4 z b3 b0 f4 fb vx h4
   rintro r h4 ⟨vx,x,⟨g,rfl⟩,px,c5,c9,gx,f4⟩
   have R4:=R'.mono f4
   simp(disch:=omega)only[go_sem]
   refine (yS b W' h4 n y ρ F' s om h0 R4 w.tl.tab).mono ?_
   rintro v5 h5 ⟨w5,o5,c7,f5⟩
   have l5:bF v5=some (aC ((fJ n s 0).length:Int)):=(dW.open o5.sv (dW.fx c7 (Fx.of f5))).1
   have m5:=GR n s om
   simp(disch:=omega)only[go_sem,l5]
   refine (Tf b W' h5 n y ρ F' s vx x om h0 (R4.mono f5) (PV.mono px f5) (gx.cX hL) w.tl.tab).mono ?_
   rintro _ h6 ⟨F6,rfl,R6,f6⟩
   obtain⟨u,K,a2,m,hm⟩:=w.step hL gx
   simp(disch:=omega)only[go_sem]
   refine (yS b W' h6 n y ρ F6 _ om h0 R6 u.tl.tab).mono ?_
   rintro v7 h7 ⟨w7,o7,d0,f7⟩
   have l7:bF v7=some (aC ((fJ n (iX s n x) 0).length:Int)):=(dW.open o7.sv (dW.fx d0 (Fx.of f7))).1
   have m7:=GR n (iX s n x) om
   have R7:=R6.mono f7
   have b9:=f4.trans f5
   have a6:Fx W' h3 h7:=((Fx.of b9).trans (R4.wbx f6) (λ_ _ h=>h)).trans (Fx.of f7:Fx W' h6 h7) (λ_ _ h=>h)
   have a1: ∀j,j<n->ρ j<h.next:=λj hj=>R.Nl _ (R.wb j hj)
   have a8:cQ h7 p 1 Z h.next:=by
    refine (((P.fr b9).zI f6.next λid G m c e B=>f6.get id B λf=>?_).fr f7);obtain⟨j,hj,rfl⟩:=f;have:=(P.in _ _ _ _ e).2.1;have:=a1 j hj;omega
   have U:dW W' h7 Z l:=dW.fx N a6
   simp(disch:=omega)only[go_sem,l7]
   have a7: ∀b6 h',CJ b W h h' n y ρ L t b6 (l++m) (iX s n x)->CJ b W h h' n y ρ L t b6 (l++m) (iX s n x)/\i<(l++m).length/\(∀a c,a<i->c<i->Pr n (iX s n x) (l++m) a c)/\(∀c,c<k->Pr n (iX s n x) (l++m) i c/\Pr n (iX s n x) (l++m) c i)/\(0<q+1->Pr n (iX s n x) (l++m) i k)/\(1<q+1->Pr n (iX s n x) (l++m) k i):=λb6 h' J=>by
    have b2:k<l.length:=om
    refine⟨J,by rw[iA];omega,λa c h1 h2=>(O a c h1 h2).mono K om om,λc hc=>⟨(hQ c hc).1.mono K o om,(hQ c hc).2.mono K om o⟩,λ_=>?_,λ_=>?_⟩
    ·by_cases e0:q=0
     ·rw[PF o b2]
      unfold Pr;rw[ea,ec,←c5 e0];exact a2
     ·exact (hA om).mono K o b2
    ·have e0:q=1:=om
     rw[PF b2 o];unfold Pr;rw[ea,ec,←c9 e0];exact a2
   refine bA (λb5=>?_) (λb5=>?_)
   ·have hg:(fJ n s 0).length<(fJ n (iX s n x) 0).length:=om
    have em:m=frF n (iX s n x) l:=by
     unfold clF at hm;rw[bJ hg] at hm;exact (List.append_cancel_left hm).symm
    have m0:=acQ w u.tl.tab hg
    rw[←em] at m0
    rw[hm] at u
    have c4:=u.bound
    rw[iA] at c4
    simp(disch:=omega)only[go_sem]
    refine (WM b W' h7 n y p Z l ρ F6 _ om h0 R7 u.tl.tab a8.sv U w.cX om).mono ?_
    rintro v8 h8 ⟨w8,o8,p8,f8⟩
    rw[←em] at p8
    have lw:=aM.length U
    have d7:=aM.length p8
    have c0:=a8.fr f8
    have R8:=R7.mono f8
    obtain⟨h9,a9,p9⟩:=c0.push (bytes:=24) o8.sv (n:=l.length) (m:=m.length) om om om m0 ⟨om,om⟩
    have n9:=p9.next
    have a4:=p9.fx bl
    have d4:=a6.next
    have d2:=f8.next
    have d5:=fx.next
    simp(disch:=omega)only[go_sem,a9]
    rw[dU q]
    have b4: ∀id,id<h8.next->(W' id∨id=h8.next)->W' id:=λid h1 h2=>by
     rcases h2 with h2|h2
     ·exact h2
     ·omega
    have J':CJ b W h h9 n y ρ L t (.sl h8.next 0 (l.length+m.length) (.un 1)) (l++m) (iX s n x):=by
     refine⟨⟨λid=>W' id∨id=h8.next,F6,Z++w8,?_,p9.own om om om,?_,λid G m c e=>by cases e;exact .inr rfl,λid B f=>?_⟩,?_,u,sub.trans K⟩
     ·refine R8.go a4 (λj hj=>p9.old _ (by have:=a1 j hj;omega) λid G m c e e2=>by have:=(c0.in _ _ _ _ e).2.1;have:=a1 j hj;omega) b4 (λid f=> .inl f) (λid f=>?_) (λid f=>?_)
      ·rcases f with f|f
       ·have:=R8.Nl id f;omega
       ·omega
      ·rcases f with f|f
       ·exact R8.low id f
       ·omega
     ·exact (dW.go (dW.fx U (Fx.of f8)) a4 b4).append (dW.go (dW.fx p8 (Fx.of f8)) a4 b4)
     ·rcases f with f|f
      ·exact hW id B f
      ·omega
     ·exact fx.trans ((a6.trans (Fx.of f8:Fx W' h7 h8) (λ_ _ h=>h)).trans a4 (λ_ _ h=>h)) hW
    obtain⟨j1,j2,j3,j4,j5,j6⟩:=a7 _ _ J'
    exact⟨2-(q+1),om,q+1,_,_,_,aB rfl,om,j1,j2,j3,j4,j5,j6,rfl⟩
   ·have hg: ¬(fJ n s 0).length<(fJ n (iX s n x) 0).length:=om
    have em:m= []:=by
     unfold clF at hm;rw[bL hg] at hm;exact List.append_right_eq_self.1 hm.symm
    simp(disch:=omega)only[go_sem]
    rw[dU q]
    have J':CJ b W h h7 n y ρ L t p (l++m) (iX s n x):=by
     rw[hm] at u;exact⟨⟨W',F6,Z,R7,a8,by rw[em,tD];exact U,bl,hW⟩,fx.trans a6 hW,u,sub.trans K⟩
    obtain⟨j1,j2,j3,j4,j5,j6⟩:=a7 _ _ J'
    exact⟨2-(q+1),om,q+1,_,_,_,aB rfl,om,j1,j2,j3,j4,j5,j6,rfl⟩
  rintro r h3 ⟨p,l,s,⟨g,rfl⟩,J,o,O,hQ⟩
  have lb:=J.cls.bound
  simp(disch:=omega)only[go_sem]
  rw[dU k]
  exact⟨i+1-(k+1),om,k+1,p,l,s,aB rfl,om,J,o,O,hQ,rfl⟩
 clear J hi O lb a0 v Y o p l s g
 rintro r h2 ⟨p,l,s,⟨g,rfl⟩,J,o,O⟩
 have lb:=J.cls.bound
 simp(disch:=omega)only[go_sem]
 rw[dU i]
 exact⟨1000000-(i+1),om,i+1,p,l,s,aB rfl,J,om,O,rfl⟩
theorem Py (t:rN)(i k:Nat):(Ck t i k).length<=k:=by
 unfold Ck;have:=List.length_filter_le (λp=>p==i||(t i p).isSome) (List.range k);rwa [YI] at this
theorem Zn (b:Nat)(W:Nat->Prop)(h:H)(n:Nat)(G:V)(ρ:Nat->Nat)(F:Nat->Nat->V)(t:rN)(i:Nat)(hn:n<=64)(h0:0<n)(hi:i<n)(R:Io b W h n G ρ F t)(K:oI n t):
  Ev T 132 [G,aC i] h (λv h'=>cQ h' v 1 (ints (zi (Ck t i n))) h.next/\Fr h h'):=by
 refine cT rW rfl ?_
 have x:=R.open.1
 simp(disch:=omega)only[go_sem,rW,aD]
 refine aI (λP c Y=> ∃(p:Nat) (l:V),(∃g:Nat->V,c= [G,aC i,g 2,l,aC p,g 5,g 6])/\i<=p/\p<=n/\cQ Y l 1 (ints (zi (Ck t i p))) h.next/\Fr h Y/\P=n-p) (n-i)
  ⟨i,.aE,aB rfl,eH _,om,by rw[CE K];exact cQ.aE _ _ _,Fr.refl h,rfl⟩ ?_
 rintro P c s ⟨p,l,⟨g,rfl⟩,a2,a1,B,f,rfl⟩
 by_cases r:(p:Int)<(n:Int)
 case neg=>
  have j:=bE r;obtain rfl:p=n:=om
  simp(disch:=omega)only[go_sem,x,j];exact⟨B,f⟩
 have j:=bN r
 have o:p<n:=om
 have O:=R.mono f
 obtain⟨_,a0,J,k,A⟩:=O.open
 have L:=A i hi
 have w:=O.cell hi o
 have z:=R.ent i p hi o
 have ll:=Py t i p
 have Q:=MC (t:=t) i p
 have step:(p=i∨(t i p).isSome)-> ∃d,yE (s.new (.cells false (ints [(p:Int)]))) 1 8 l (.sl s.next 0 1 (.kn 1))=some (.sl (s.next+1) 0 ((Ck t i p).length+1) (.un 1),d)/\cQ d (.sl (s.next+1) 0 ((Ck t i p).length+1) (.un 1)) 1 (ints (zi (Ck t i (p+1)))) h.next/\Fr h d:=λZ=>by
  obtain⟨d,e,a,m,n4,_⟩:=yB (v:= aC p) B f (by rw[aP,aN];omega) (bytes:=8) om;rw[aP,aN] at e a;refine⟨d,e,?_,m⟩;rw[Q,bJ Z,Vv,uW];exact a
 by_cases q:p=i
 ·have u:decide ((p:Int)=(i:Int))=true:=bN om
  obtain⟨d,e,a,m⟩:=step (.inl q)
  simp(disch:=omega)only[go_sem,x,j,u,Wk,e]
  rw[dU p]
  exact⟨n-(p+1),om,p+1,_,aB rfl,om,om,a,m,rfl⟩
 have u:decide ((p:Int)=(i:Int))=false:=bE om
 cases hto:t i p with
 |none=>
  rw[hto] at z;rw[z.nil] at w;simp(disch:=omega)only[go_sem,x,j,u,k.ixa,L,w];rw[dU p];refine⟨n-(p+1),om,p+1,l,aB rfl,om,om,?_,f.bH om,rfl⟩;rw[Q,bL (by rw[hto];simp [q]),tD];exact B.fr ((Fr.refl s).bH om)
 |some y=>
  rw[hto] at z;have N:PV W h (F i p) y:=z;have U:=Ie N (bC.ne h0 (K.cX _ _ _ hto)) true;generalize F i p=vz at w N U;obtain⟨d,e,a,m⟩:=step (.inr (by rw[hto];rfl));simp(disch:=omega)only[go_sem,x,j,u,k.ixa,L,w,U,Wk,e];rw[dU p];exact⟨n-(p+1),om,p+1,_,aB rfl,om,om,a,m,rfl⟩
theorem RT.ajC {h h':H}{v:V}{l:List Int}(c:RT h l v h')(b:0<l.length):zH h h' v l:=by
 obtain⟨_,f,e⟩:=c;obtain⟨id,rfl,a,d,g⟩:=e b;exact⟨⟨id,_,rfl,a,d,g,.inl rfl⟩,f⟩
theorem MI (b:Nat)(W:Nat->Prop)(h:H)(n:Nat)(tv:V)(ρ:Nat->Nat)(F:Nat->Nat->V)(t:rN)(d p:Nat)(x:List Nat)(hn:n<=64)(h0:0<n)(P:d<n)(hp:p<n)(R:Io b W h n tv ρ F t)(TI:oI n t)(tw:oT n 0 (kF n t))(a9:(kF n t d).to p=some x):
  Ev T 133 [tv,aC d,aC p] h (λv h'=>zH h h' v (zi (Ki (kF n t) (n-(d+1)) (d+1) x))):=by
 have X:=(uQ TI P a9).1
 refine cT sI rfl ?_
 obtain⟨lv,c5,c0,c6,c7⟩:=R.open
 simp(disch:=omega)only[go_sem,sI,aD,lv]
 refine (adP n h om).mono ?_
 rintro v1 h1 ⟨s1,f1,l1⟩
 simp(disch:=omega)only[go_sem]
 have a7: ∀id,W id->id<h.next:=R.Nl
 refine mZ (λvs z=> ∃vx,(∃g:Nat->V,vs= [tv,aC d,aC p,g 3,vx,g 5,g 6,g 7,g 8,g 9,g 10,g 11,g 12,g 13])/\PV W z vx x/\Fr h z) ?_ ?_
 ·have r:(if p=d then some (bT n) else t d p)=some x:=a9
  refine bA (λb4=>?_) (λb4=>?_)
  ·have J:p≠d:=om
   rw[bL J] at r
   have R1:=R.mono f1
   obtain⟨_,a2,A,Z,B⟩:=R1.open
   have cr:=B d P
   have ce:=R1.cell P hp
   have hS:=R1.ent d p P hp
   rw[r] at hS
   have pz:PV W h1 (F d p) x:=hS
   generalize F d p=vz at ce pz
   simp(disch:=omega)only[go_sem,Z.ixa,cr,ce]
   exact .inl ⟨vz,aB rfl,pz,f1⟩
  ·have J:p=d:=om
   rw[bJ J] at r
   obtain rfl:bT n=x:=Option.some.inj r
   simp(disch:=omega)only[go_sem]
   exact .inl ⟨v1,aB rfl,PV.fresh s1 l1 a7,f1⟩
 clear s1 f1 l1 v1 h1
 rintro i h1 ⟨vx,⟨g,rfl⟩,px,f1⟩
 simp(disch:=omega)only[go_sem]
 rw[dU d]
 refine bQ (λvs z=> ∃s,(∃g:Nat->V,vs= [tv,g 1,g 2,g 3,s,g 5,g 6,g 7,g 8,g 9,g 10,g 11,g 12,g 13])/\PV W z s (Ki (kF n t) (n-(d+1)) (d+1) x)/\bC n (Ki (kF n t) (n-(d+1)) (d+1) x)/\Fr h z) ?_ ?_
 ·refine aI (λk' i z=> ∃(k:Nat) (y:List Nat) (s:V),(∃g:Nat->V,i= [tv,g 1,g 2,g 3,s,aC k,g 6,g 7,g 8,g 9,g 10,g 11,g 12,g 13])/\d<k/\k<=n/\Ki (kF n t) (n-k) k y=Ki (kF n t) (n-(d+1)) (d+1) x/\
    PV W z s y/\bC n y/\Fr h z/\k'=n-k) (n-(d+1))
   ⟨d+1,x,vx,aB rfl,om,om,rfl,px,X,f1,rfl⟩ ?_
  clear px f1 vx h1 g
  rintro k' i h2 ⟨k,y,s,⟨g,rfl⟩,c4,d0,w,hy,Y,f,rfl⟩
  by_cases a8:(k:Int)<(n:Int)
  case neg=>
   have e1:=bE a8;obtain rfl:k=n:=om
   rw[Nat.sub_self] at w;simp(disch:=omega)only[go_sem,lv,e1];have b2:y=Ki (kF k t) (k-(d+1)) (d+1) x:=w;exact⟨s,aB rfl,by rw[←b2];exact hy,by rw[←b2];exact Y,f⟩
  have l:k<n:=om
  have e1:=bN a8
  have R2:=R.mono f
  simp(disch:=omega)only[go_sem,lv,e1]
  refine (Zn b W h2 n tv ρ F t k hn h0 l R2 TI).mono ?_
  rintro vo h3 ⟨oo,f3⟩
  obtain⟨o,ho⟩:=exI ((kF n t k).orb)
  rw[show Ck t k n=o from ho] at oo
  have so:SI h3 vo (zi o):=oo.sv
  have lo:=so.lens
  rw[aN] at lo
  have jO:=(tw k (fR _) l).1
  have c8:o.length<=n:=by rw[←ho];exact Py t k n
  obtain⟨id,b7,sh,a4,hc⟩:=so.open
  rw[aN] at sh a4 hc
  have a6:=PV.mono hy f3
  obtain⟨a2,A,Z,G,B⟩:=a6.si.open
  rw[aN,Y.len] at Z G B
  simp(disch:=omega)only[go_sem]
  refine bQ (λvs z=>(∃g:Nat->V,vs= [tv,g 1,g 2,g 3,s,aC k,g 6,aC (oH y k o:Int),g 8,g 9,g 10,g 11,g 12,g 13])/\oH y k o<n/\oH y k o∈k::o/\Fr h3 z) ?_ ?_
  ·refine aI (λm' i z=> ∃(m b:Nat),(∃g:Nat->V,i= [tv,g 1,g 2,g 3,s,aC k,vo,aC b,aC m,g 9,g 10,g 11,g 12,g 13])/\m<=o.length/\b<n/\b∈k::o/\
     oH y b (o.drop m)=oH y k o/\Fr h3 z/\m'=o.length-m) o.length
    ⟨0,k,aB rfl,fR _,l,Co ..,rfl,Fr.refl h3,rfl⟩ ?_
   rintro m' i h4 ⟨m,b1,⟨g3,rfl⟩,hm,hb,L,a,N,rfl⟩
   by_cases a0:(m:Int)<(o.length:Int)
   case neg=>
    have e2:=bE a0;have em:m=o.length:=om
    rw[em,List.drop_length] at a;have a:b1=oH y k o:=a;simp(disch:=omega)only[go_sem,lo,e2];exact⟨by rw[←a];exact aB rfl,by rw[←a];exact hb,by rw[←a];exact L,N⟩
   have e2:=bN a0
   have K:m<o.length:=om
   rw[Sz _ _ K] at a
   have cq:h4.cell id (b7+m)=some (aC (o.getD m 0:Nat)):=by rw[N.cell (a4 om),hc m K];congr 2;simp [zi,K]
   have a1:o.getD m 0∈o:=by rw[cL K];exact Bu K
   have Q:=jO.lt l (by rw[ho];exact a1)
   generalize o.getD m 0=q at cq a1 Q a
   have c1:h4.cell a2 (A+q)=some (aC (y.getD q 0:Nat)):=by rw[N.cell (G om),B q Q];congr 2;simp [zi,Y.len,Q]
   have c2:h4.cell a2 (A+b1)=some (aC (y.getD b1 0:Nat)):=by rw[N.cell (G om),B b1 hb];congr 2;simp [zi,Y.len,hb]
   simp(disch:=omega)only[go_sem,lo,e2,sh.ixa,cq,Z.ixa,c1,c2]
   have fb:Fr h3 (H.mk h4.tr (h4.next+12)):=N.bH om
   refine bA (λb3=>?_) (λb3=>?_)
   ·rw[bJ om] at a
    simp(disch:=omega)only[go_sem,sh.ixa,cq]
    rw[dU m]
    exact⟨o.length-(m+1),om,m+1,q,aB rfl,om,Q,Cu _ a1,a,fb,rfl⟩
   ·rw[bL om] at a
    simp(disch:=omega)only[go_sem]
    rw[dU m]
    exact⟨o.length-(m+1),om,m+1,b1,aB rfl,om,hb,L,a,fb,rfl⟩
  rintro i h4 ⟨⟨g4,rfl⟩,hb,L,N⟩
  have a3:n-k=(n-(k+1))+1:=om
  rw[a3] at w
  have w:Ki (kF n t) (n-(k+1)) (k+1) (if oH y k (kF n t k).orb=k then y else aX (((kF n t k).to (oH y k (kF n t k).orb)).getD []) y)=Ki (kF n t) (n-(d+1)) (d+1) x:=w
  rw[ho] at w
  have R4:=R2.mono (f3.trans N)
  have a5:=PV.mono a6 N
  generalize oH y k o=q at w hb L
  by_cases O:q=k
  ·rw[bJ O] at w
   have e0:decide ((q:Int)≠(k:Int))=false:=bE om
   simp(disch:=omega)only[go_sem,e0]
   rw[dU k]
   exact⟨n-(k+1),om,k+1,y,s,aB rfl,om,om,w,a5,Y,(f.trans f3).trans N,rfl⟩
  rw[bL O] at w
  have e0:decide ((q:Int)≠(k:Int))=true:=bN om
  have b9:q∈(kF n t k).orb:=by
   rcases Gr.1 L with e|e
   ·exact absurd e O
   ·rw[ho];exact e
  obtain⟨u,hu⟩:=jO.to b9
  have U:=jO.cX _ _ hu
  have b0:(if q=k then some (bT n) else t k q)=some u:=hu
  rw[bL O] at b0
  obtain⟨_,c9,c3,b6,b5⟩:=R4.open
  have cr:=b5 k l
  have ce:=R4.cell l hb
  have hS:=R4.ent k q l hb
  rw[b0] at hS
  have pu:PV W h4 (F k q) u:=hS
  generalize F k q=vu at ce pu
  rw[hu] at w
  simp(disch:=omega)only[go_sem,e0,b6.ixa,cr,ce]
  refine (qM vu s u y h4 (by rw[U.len];omega) pu.si a5.si (λj hj=>by rw[Y.len];exact U.gW (by rw[←U.len];exact hj))).mono ?_
  rintro v h5 ⟨s5,f5,l5⟩
  simp(disch:=omega)only[go_sem]
  rw[dU k]
  exact⟨n-(k+1),om,k+1,_,v,aB rfl,om,om,w,PV.fresh s5 l5 R4.Nl,U.mul Y,((f.trans f3).trans N).trans f5,rfl⟩
 rintro i h2 ⟨s,⟨g2,rfl⟩,py,Y,f2⟩
 simp(disch:=omega)only[go_sem]
 refine (EN s _ h2 py.si (by rw[aN,Y.len];omega)).mono ?_
 rintro v h3 c
 have fr:=RT.ajC c (by rw[aN,Y.len];exact h0)
 simp(disch:=omega)only[go_sem]
 obtain⟨⟨id,b8,e1,e2,e3,e4,e5⟩,f3⟩:=fr
 exact⟨⟨id,b8,e1,by have:=f2.next;omega,e3,e4,e5⟩,f2.trans f3⟩
theorem ND (b:Nat)(W0:Nat->Prop)(h:H)(n:Nat)(tv:V)(ρ:Nat->Nat)(F:Nat->Nat->V)(t:rN)(hn:n<=64)(h0:0<n)(R:Io b W0 h n tv ρ F t)(TI:oI n t)(tw:oT n 0 (kF n t)):
  Ev T 89 [tv] h (λv h'=> ∃O R',OL (λid=>id<h.next) h' v n O R'/\aZ n (S n (kF n t) 0) O R'/\Fr h h'):=by
 refine cT sE rfl ?_
 have lv:=R.open.1
 obtain⟨τ,a5⟩:=exI (kF n t)
 obtain⟨B,hB⟩:=exI h.next
 have bl:rK [aC 0,.aE,.aE] [(0,1,aC n)]=some (.agg [aC n,.aE,.aE]):=by
  have e1:putAt [aC 0,.aE,.aE] 0 [aC n]=some [aC n,.aE,.aE]:=by simp [putAt]
  simp [rK,gZ,e1,V.cells,V.one]
 obtain⟨U,a2⟩: ∃U,U=(h.new (.cells false [aC 0,.aE,.aE])).new (.cells false [aC 0,.aE,.aE]):=⟨_,rfl⟩
 have n1:U.next=B+2:=by rw[a2,H.aU,H.aU,hB]
 have g1:U.get (B+1)=aY [aC 0,.aE,.aE]:=by
  rw[a2];have:=H.aL (h.new (.cells false [aC 0,.aE,.aE])) (.cells false [aC 0,.aE,.aE]);rwa [H.aU,hB] at this
 have g0:U.get B=aY [aC 0,.aE,.aE]:=by rw[a2,H.bD _ (by rw[H.aU,hB];omega),←hB,H.aL]
 have f1:Fr h U:=by rw[a2];exact ((Fr.refl h).new _).new _
 simp(disch:=omega)only[go_sem,sE,aD,hB,lv,bl]
 rw[←a2]
 simp(disch:=omega)only[go_sem,bI U (B+1) 0 (v:= aC n) (u:= .aE) (w:= .aE) rfl rfl rfl,g1,bG]
 obtain⟨l,a1⟩: ∃l,l=U.set (B+1) (aY [aC n,.aE,.aE]):=⟨_,rfl⟩
 have n2:l.next=B+2:=by rw[a1];exact n1
 have f2:Fr h l:=by rw[a1];exact f1.set om _
 have g2:l.get (B+1)=aY [aC n,.aE,.aE]:=by rw[a1,H.aS]
 have d2:l.get B=aY [aC 0,.aE,.aE]:=by rw[a1,H.aH _ om];exact g0
 rw[←a1]
 clear a2 a1 f1 g0 g1 n1 U
 refine aI (λk' a0 G=> ∃(i:Nat) (W:Nat->Prop) (O:LN) (R':fM) (vO K:V) (c7 b9:List V),(∃g:Nat->V,a0= [tv,.ptr B 0,.ptr (B+1) 0,aC i,g 4,g 5,g 6,g 7,g 8])/\i<=n/\yC h G (B+1) B W n O R' vO K c7 b9/\
   G.get B=aY [aC 0,.aE,.aE]/\O.length=i/\R'.length=i/\(∀j,j<i->ChL τ n j (O.getD j []) (R'.getD j []))/\k'=n-i) n
  ⟨0,_, [], [],_,_,_,_,aB rfl,fR _,yC.start om om om om om f2 g2,d2,rfl,rfl,λj hj=>om,rfl⟩ ?_
 clear f2 g2 d2 n2 l
 rintro k' a0 l ⟨i,W,O,R',vO,K,c7,b9,⟨g,rfl⟩,hi,A,gB,lO,lR,hC,rfl⟩
 by_cases c8:(i:Int)<(n:Int)
 case neg=>
  have e1:=bE c8;obtain rfl:i=n:=om
  have hr:=aG A.get;have nB:=A.fr.next;simp(disch:=omega)only[go_sem,lv,e1,hr,bI l B 0 (v:= aC i) (u:=vO) (w:=K) rfl (SV.cF A.oO.sv).2.1 (SV.cF A.oR.sv).2.1,gB,bG];have i0:=aG (h:=l.set B (aY [aC i,vO,K])) (H.aS ..);have fB:Fx (· =B) l (l.set B (aY [aC i,vO,K])):=Fx.set l (W:=(· =B)) rfl _;simp(disch:=omega)only[go_sem,i0]
  obtain⟨h3,c1⟩: ∃h3,h3=l.set B (aY [aC i,vO,K]):=⟨_,rfl⟩
  rw[←c1] at fB ⊢;have A3:=A.box c1;refine⟨O,R',by rw[←hB];exact A3.chw,?_,A3.fr⟩;rw[a5] at tw ⊢;have X:=tw.chain (O:=O) (R:=R') lO lR (λj hj=>(hC j hj).1) (λj hj=>(hC j hj).2.1) (λj hj=>(hC j hj).2.2.1) (λj hj=>(hC j hj).2.2.2);exact X
 have e1:=bN c8
 have b1:i<n:=om
 have R2:=R.mono A.fr
 have jO:=(tw i (fR _) b1).1
 rw[a5] at jO
 simp(disch:=omega)only[go_sem,lv,e1]
 refine (Zn b W0 l n tv ρ F t i hn h0 b1 R2 TI).mono ?_
 rintro vo h4 ⟨oo,f4⟩
 obtain⟨q,hq⟩:=exI (Ck t i n)
 have c6:q.Pairwise (· < ·):=by rw[←hq];exact RO i n
 have a4: ∀p,p∈q↔p∈(τ i).orb:=λp=>by rw[←hq,UQ,a5]
 have j3:q.length<=n:=by rw[←hq];exact Py t i n
 have i6:0<q.length:=KH ((a4 i).2 jO.base)
 rw[hq] at oo
 obtain⟨P,cp,rfl,j0,d9,cP⟩: ∃P cp,vo= .sl P 0 q.length cp/\l.next<=P/\P<h4.next/\ ∀k,k<q.length->h4.cell P k=some (aC (q.getD k 0:Nat)):=by
  rcases oo with ⟨_,e⟩|⟨id,m,e9,i5,e1,e2,e3,e4,e5,e6⟩
  ·have:=congrArg List.length e
   rw[aP,aN,List.length_nil] at this;omega
  ·rw[aP,aN,uH] at e2
   subst e2;exact⟨id,e9,e1,e4,e5,λk hk=>by rw[H.aF e6,Ej (by rw[aP,aN];exact hk),Iq hk]⟩
 have A4:=A.mono f4
 have pq:PV W h4 (.sl P 0 q.length cp) q:=⟨oo.sv,λhw=>by have:=A.wb P hw;omega⟩
 have g5:h4.get B=aY [aC 0,.aE,.aE]:=by rw[f4.get B (A.wb B A.d)];exact gB
 clear A gB R2 oo
 simp(disch:=omega)only[go_sem]
 refine bQ (λvs G=> ∃(N:V) (r:LN),(∃g:Nat->V,vs= [tv,.ptr B 0,.ptr (B+1) 0,aC i,.sl P 0 q.length cp,N,g 6,g 7,g 8])/\PL W G N r/\ChL τ n i q r/\Fr h4 G) ?_ ?_
 ·refine aI (λk' vs G=> ∃(k:Nat) (N:V) (ws:List V) (r:LN) (W':Nat->Prop),(∃g:Nat->V,vs= [tv,.ptr B 0,.ptr (B+1) 0,aC i,.sl P 0 q.length cp,N,aC k,g 7,g 8])/\k<=q.length/\cQ G N 1 ws h4.next/\dW W' G ws r/\Dg W' N/\(∀id,W id->W' id)/\(∀id,W' id->id<G.next/\(W id∨h4.next<=id))/\r.length=k/\
    (∀j,j<k-> ∀y,(τ i).to (q.getD j 0)=some y->r.getD j []=Ki τ (n-(i+1)) (i+1) y)/\Fr h4 G/\k'=q.length-k) q.length
   ⟨0,.aE, [], [],W,aB rfl,fR _,cQ.aE _ _ _,trivial,λ_ _ _ _ e=>(by cases e),λ_ h=>h,λid h=>⟨A4.wb id h,.inl h⟩,rfl,λj hj=>om,Fr.refl _,rfl⟩ ?_
  rintro k' a0 f ⟨k,N,ws,r,W',⟨g,rfl⟩,hk,ow,b7,i1,d0,c3,lr,hr,f5,rfl⟩
  by_cases b5:(k:Int)<(q.length:Int)
  case neg=>
   have e2:=bE b5;obtain rfl:k=q.length:=om
   simp(disch:=omega)only[go_sem,e2];refine⟨N,r,aB rfl,⟨ws,ow.sv,?_,b7.iP (λid _ h=>d0 id h),cQ.GF ow⟩,⟨c6,a4,lr,hr⟩,f5⟩
   cases N with
   |sl id b4 m c=>exact λh=>by have:=(ow.in _ _ _ _ rfl).2.1;have:=A4.wb id h;omega
   |_=>trivial
  have e2:=bN b5
  have b6:k<q.length:=om
  obtain⟨p,hp⟩:=exI (q.getD k 0)
  have ck:f.cell P k=some (aC p):=by
   rw[f5.cell d9,cP k b6,hp]
  have c4:p∈(τ i).orb:=(a4 p).1 (by rw[←hp,cL b6];exact Bu b6)
  have f3:=jO.lt b1 c4
  obtain⟨y,hy⟩:=jO.to c4
  have Y:=jO.cX _ _ hy
  have R5:=R.mono (A4.fr.trans f5)
  simp(disch:=omega)only[go_sem,e2,ck]
  refine (MI b W0 f n tv ρ F t i p y hn h0 b1 f3 R5 TI tw (by rw[a5];exact hy)).mono ?_
  rw[a5]
  rintro v7 Q c5
  have f7:=c5.fr
  have p7:PV W' Q v7 (Ki τ (n-(i+1)) (i+1) y):=c5.pv λid h=>(c3 id h).1
  simp(disch:=omega)only[go_sem,bZ Q (z:= .aE) p7.dP.1 p7.dP.2]
  obtain⟨L,J⟩: ∃L,L=Q.new (.cells false [v7]):=⟨_,rfl⟩
  have g8:L.get Q.next=aY [v7]:=by rw[J,H.aL]
  have n8:L.next=Q.next+1:=by rw[J,H.aU]
  have f8:Fr Q L:=by rw[J];exact (Fr.refl Q).new _
  rw[←J]
  have b2:=f7.trans f8
  have g7:=ow.fr b2
  have i9:=aM.length b7
  obtain⟨h9,a9,p9⟩:=g7.push (bytes:=24) (SV.one om g8 (.kn 1)) (n:=k) (m:=1) om rfl om om om
  simp(disch:=omega)only[go_sem,a9]
  rw[dU k]
  have n9:=p9.next
  have f9:Fx W' L h9:=p9.fx i1
  have d8:=b2.next
  have c9: ∀id,id<L.next->(W' id∨id=L.next)->W' id:=λid U l=>by
   rcases l with l|l
   ·exact l
   ·omega
  refine⟨q.length-(k+1),om,k+1,_,_,r++ [Ki τ (n-(i+1)) (i+1) y],λid=>W' id∨id=L.next,aB rfl,om,p9.own om rfl (by have:=f5.next;omega),?_,λid b4 m c e=>by cases e;exact .inr rfl,λid h=> .inl (d0 id h),λid h=>?_,by rw[iA,lr];rfl,λj hj z hz=>?_,?_,rfl⟩
  ·exact (dW.go (dW.go b7 (Fx.of b2) (λ_ _ h=>h)) f9 c9).append (dW.one (PV.go (p7.mono f8) f9 c9))
  ·rcases h with h|h
   ·have:=c3 id h;exact⟨om,this.2⟩
   ·have:=f5.next;exact⟨om,.inr om⟩
  ·by_cases e:j=k
   ·subst e
    rw[hp,hy] at hz
    cases hz
    rw[←lr,jU]
   ·rw[lZ om]
    exact hr j om z hz
  ·refine⟨by have:=f5.next;omega,λid b3=>?_⟩
   rw[p9.old id (by have:=f5.next;omega) (λf0 b4 m c e e2=>by have:=(ow.in _ _ _ _ e).2.1;omega),b2.get id (by have:=f5.next;omega)]
   exact f5.get id b3
 rintro a0 f ⟨N,r,⟨g,rfl⟩,pl,e7,f5⟩
 have s:=A4.mono f5
 have d6:=pq.mono f5
 have g3:f.get B=aY [aC 0,.aE,.aE]:=by rw[f5.get B (A4.wb B A4.d)];exact g5
 have cO:f.cell (B+1) 1=some vO:=by rw[H.aF s.get];rfl
 have cR:f.cell (B+1) 2=some K:=by rw[H.aF s.get];rfl
 obtain⟨ws,b8,d5,e0,g4⟩:=pl
 have pl:PL W f N r:=⟨ws,b8,d5,e0,g4⟩
 have j2:=s.fr.next
 have c2:=s.wb _ s.c
 simp(disch:=omega)only[go_sem,cO,cR,bZ _ (z:= .aE) (v:= .sl P 0 q.length cp) rfl rfl]
 obtain⟨h6,b0⟩: ∃h6:H,h6=H.mk ((H.mk f.tr (f.next+3)).new (Ob.cells false [.sl P 0 q.length cp])).tr (f.next+14):=⟨_,rfl⟩
 rw[←b0]
 have g6:h6.get (f.next+3)=aY [.sl P 0 q.length cp]:=by rw[b0];exact H.aL (H.mk f.tr (f.next+3)) _
 have n6:h6.next=f.next+14:=by rw[b0]
 have o6: ∀k,k≠f.next+3->h6.get k=f.get k:=λk hk=>by rw[b0];exact H.bD (H.mk f.tr (f.next+3)) (by simpa using hk) _
 have f6:Fr f h6:=⟨om,λid b3=>o6 id om⟩
 have i8:=aM.length s.aO
 have i7:=aM.length s.aR
 obtain⟨Q,a7,p7⟩:=(s.oO.fr f6).push (bytes:=24) (SV.one om g6 (.kn 1)) (n:=i) (m:=1) om rfl om om om
 have n7:=p7.next
 have a3: ∀k,k<f.next->cZ vO k->Q.get k=f.get k:=λk U l=>by rw[p7.old k om l,o6 k om]
 have i2:Q.cell (B+1) 2=some K:=by unfold H.cell;rw[a3 (B+1) c2 s.pO,s.get];rfl
 have eR:dB K K=true:=s.oR.sv.dB
 have d1:N.cells= [N]/\N.one=true:=⟨(SV.cF b8).1,(SV.cF b8).2.1⟩
 simp(disch:=omega)only[go_sem,a7,i2,eR,bZ _ (z:= .aE) d1.1 d1.2]
 obtain⟨L,J⟩: ∃L:H,L=H.mk ((H.mk Q.tr (f.next+8)).new (Ob.cells false [N])).tr Q.next:=⟨_,rfl⟩
 rw[←J]
 have g8:L.get (f.next+8)=aY [N]:=by rw[J];exact H.aL (H.mk Q.tr (f.next+8)) _
 have n8:L.next=Q.next:=by rw[J]
 have o8: ∀k,k≠f.next+8->L.get k=Q.get k:=λk hk=>by rw[J];exact H.bD (H.mk Q.tr (f.next+8)) (by simpa using hk) _
 have d3:cQ L K 1 b9 h.next:=s.oR.mono om λid b4 m c e _ b3=>by
  rw[o8 id om,a3 id b3 (λf0 i4 n' c' e' e2=>s.IF _ _ _ _ e' _ _ _ _ e e2.symm)]
 obtain⟨h9,a9,p9⟩:=d3.push (bytes:=24) (SV.one om g8 (.kn 1)) (n:=i) (m:=1) om rfl om om om
 have n9:=p9.next
 have g9: ∀k,f.next<=k->cZ K k:=λk hk id b4 m c e e2=>by have:=(s.oR.in _ _ _ _ e).1;omega
 have a8: ∀k,k<f.next->cZ vO k->cZ K k->h9.get k=f.get k:=λk U l h3=>by rw[p9.old k om h3,o8 k om,a3 k U l]
 have i3:h9.get (B+1)=aY [aC n,vO,K]:=by rw[a8 _ c2 s.pO s.pR];exact s.get
 have d4: ∀(G:H) (x:V),dR (aY [aC n,vO,K]) G (B+1) 1 [x]=some (G.set (B+1) (aY [aC n,x,K])):=λG x=>bP (by simp) G _ x
 have e8: ∀(G:H) (x y:V),dR (aY [aC n,x,K]) G (B+1) 2 [y]=some (G.set (B+1) (aY [aC n,x,y])):=λG x y=>bP (by simp) G _ y
 simp(disch:=omega)only[go_sem,a9,i3,d4,e8]
 rw[dU i]
 obtain⟨ha,hb⟩:h6.next=f.next+14/\L.next=f.next+15:=⟨n6,om⟩
 rw[ha,hb]
 obtain⟨a6,Z⟩: ∃a6,a6=(h9.set (B+1) (aY [aC n,.sl (f.next+14) 0 (i+1) (.un 1),K])).set (B+1) (aY [aC n,.sl (f.next+14) 0 (i+1) (.un 1),.sl (f.next+15) 0 (i+1) (.un 1)]):=⟨_,rfl⟩
 rw[←Z]
 have c0: ∀k,k≠B+1->a6.get k=h9.get k:=λk hk=>by rw[Z,H.aH _ hk,H.aH _ hk]
 have j1:a6.next=f.next+16:=by rw[Z];show h9.next=_;omega
 have d7:=s.step (v4:= .sl P 0 q.length cp) (v5:=N) (o:=q) (r:=r) (h6:=a6) (a:=f.next+14) (b:=f.next+15) (k1:=i+1) (k2:=i+1) d6 pl om om om om om om om (by rw[Z,H.aS])
  (by rw[c0 _ om,p9.old _ om (g9 _ om),o8 _ om,←ha];exact p7.get) (by rw[c0 _ om,←hb];exact p9.get) (λk U l h3 h4=>by rw[c0 k l];exact a8 k U h3 h4)
 refine⟨n-(i+1),om,i+1,_,_,_,_,_,_,_,aB rfl,om,d7,?_,by rw[iA,lO];rfl,by rw[iA,lR];rfl,λj hj=>?_,rfl⟩
 ·rw[a8 B (s.wb B s.d) s.qO s.qR];exact g3
 ·by_cases e:j=i
  ·subst e
   have e1:(O++ [q]).getD j []=q:=by rw[←lO];exact jU
   have e2:(R'++ [r]).getD j []=r:=by rw[←lR];exact jU
   rw[e1,e2]
   exact e7
  ·rw[lZ om,lZ om]
   exact hC j om
theorem PO (h:H)(n:Nat)(a:n<=100000):Iv h 1 24 [.aE] (aC n) (aC n)=some (.sl h.next 0 n (.kn n),h.new (.cells false (rc n λ_=> .aE))):=by
 have e:dC [V.aE] n=rc n λ_=> .aE:=(Kp (by simp [dC]) λi hi=>by simp [dC,hi,Nat.mod_one]).symm
 rw[tC om (Int.le_refl _) om om,OM,uH,e]
theorem VC (n:Nat)(h:H)(hn:n<=64):Ev T 86 [aC n] h (λv h'=> ∃ρ F,Io h.next (WB n ρ) h' n v ρ F (λ_ _=>none)/\Fr h h'):=by
 refine cT Dl rfl ?_;simp(disch:=omega)only[go_sem,Dl,aD]
 refine aI (λO k x=> ∃(i:Nat) (t:V) (b:List Nat),(∃g:Nat->V,k= [aC n,g 1,t,aC i,g 4])/\i<=n/\b.length=i/\cQ x t 1 (b.map λr=> .sl r 0 n (.kn n)) h.next/\b.Nodup/\
   (∀r∈b,h.next<=r/\r<x.next/\x.get r=some (.cells false (rc n λ_=> .aE))/\cZ t r)/\Fr h x/\O=n-i) n
  ⟨0,.aE, [],aB rfl,fR _,rfl,cQ.aE _ _ _,List.nodup_nil,λr l=>absurd l List.not_mem_nil,Fr.refl h,rfl⟩ ?_
 rintro O k U ⟨i,t,b,⟨g,rfl⟩,hi,B,A,nd,l,f,rfl⟩
 by_cases u:(i:Int)<(n:Int)
 case neg=>
  have y:=bE u;obtain rfl:i=n:=om
  simp(disch:=omega)only[go_sem,y];have w: ∀j,j<i->b.getD j 0∈b:=λj d=>aW om
  refine⟨λj=>b.getD j 0,λ_ _=> .aE,⟨?_,?_,λj d=>(l _ (w j d)).2.2.1,λj d=>⟨j,d,rfl⟩,?_,?_,λa c R G e=>?_,λ_ _ _ _=>rfl⟩,f⟩
  ·have K:(rc i λj=>V.sl (b.getD j 0) 0 i (.kn i))=b.map λr=> .sl r 0 i (.kn i):=Kp (by rw[iN];exact B) λj d=>by
    rw[Wy,dF om,List.getD,dF om];rfl
   rw[K];exact A.sv
  ·cases t with
   |sl id o m c=>
    rintro⟨j,d,e⟩;exact (l _ (w j d)).2.2.2 _ _ _ _ rfl e
   |_=>trivial
  ·rintro id ⟨j,d,rfl⟩;exact (l _ (w j d)).2.1
  ·rintro id ⟨j,d,rfl⟩;exact (l _ (w j d)).1
  ·have ea:=dF (show a<b.length by omega)
   have Z:=dF (show c<b.length by omega);simp only[List.getD,ea,Z,Option.getD_some] at e;rcases Nat.lt_trichotomy a c with s|s|s
   ·exact absurd e (OP.1 nd a c om om s)
   ·exact s
   ·exact absurd e.symm (OP.1 nd c a om om s)
 have y:=bN u;obtain⟨S,Q⟩:=exI U.next;obtain⟨h3,e3,J,g3,Y,N⟩:=cU Q (rc n λ_=> .aE);have fn:=f.next;obtain⟨h4,L,p,f4,n4,P⟩:=yB (v:= .sl S 0 n (.kn n)) (A.fr N) (f.trans N) (by rw[iN];omega) (bytes:=24) om;rw[iN,B,J] at L p;simp(disch:=omega)only[go_sem,y,PO U n om,Q,e3,bZ _ (z:= .aE) (v:= .sl S 0 n (.kn n)) rfl rfl,J,L];rw[dU i];have q: ∀r∈b,r<S:=λr h=>by have:=(l r h).2.1;omega
 refine⟨n-(i+1),om,i+1,_,b++ [S],aB rfl,om,by rw[iA,B];rfl,by rw[List.map_append];exact p,List.nodup_append.2 ⟨nd,by simp,λa R c G e=>?_⟩,λr h=>?_,f4,rfl⟩
 ·have:=q a R
  simp at G;omega
 ·rcases kT.1 h with h|h
  ·obtain⟨b1,b2,b3,W⟩:=l r h
   refine⟨b1,om,by rw[P r om W,Y r om];exact b3,λid o m c e=>by cases e;omega⟩
  ·simp at h
   subst h;refine⟨om,om,by rw[P _ om (λid o m c e K=>by have:=(A.in _ _ _ _ e).1;omega)];exact g3,λid o m c e=>by cases e;omega⟩
theorem tB (U:V)(n:Nat)(l:LN)(h:H)(n0:1<=n)(n7:n<=7)(hl:l.length<=4096)(hv:SP h U l)(hP: ∀g∈l,bC n g):
  Ev T 30 [aC n,U] h (λv h'=> ∃vc O R,v= .tup [vc,aC 0]/\GC (λid=>id<h.next) h' vc n O R (cG n (· ∈l))/\Fr h h'):=by
 refine cT Eu rfl ?_
 obtain⟨B,hB⟩:=exI h.next
 obtain⟨h1,e1,n1,g1,o1,f1⟩:=cU hB [aC 0,.aE,.aE]
 have d1:decide ((n:Int)<1)=false:=bE om
 have d2:decide ((64:Int)<(n:Int))=false:=bE om
 have Q:=hv.lens
 rw[iN] at Q
 have d3:decide ((4096:Int)<(l.length:Int))=false:=bE om
 obtain⟨id,L,ws,sh,d,a3,K,y⟩:=hv.open
 rw[iN] at sh d a3 K
 simp(disch:=omega)only[go_sem,Eu,aD,hB,e1,d1,d2,Q,d3]
 refine bQ (λA s=>(∃g:Nat->V,A= [aC n,U,.ptr B 0,g 3,g 4,g 5,g 6,g 7,g 8,g 9,g 10,g 11,g 12,g 13])/\Fr h1 s) ?_ ?_
 ·refine aI (λk' A s=> ∃(i:Nat),(∃g:Nat->V,A= [aC n,U,.ptr B 0,g 3,aC i,g 5,g 6,g 7,g 8,g 9,g 10,g 11,g 12,g 13])/\i<=l.length/\Fr h1 s/\k'=l.length-i) l.length
   ⟨0,aB rfl,fR _,Fr.refl h1,rfl⟩ ?_
  rintro k' p j ⟨i,⟨g,rfl⟩,hi,f,rfl⟩
  by_cases m:(i:Int)<(l.length:Int)
  ·have G:=bN m
   have a:i<l.length:=om
   have F2:=f1.trans f
   have ci:j.cell id (L+i)=some (ws.getD i .undef):=by rw[F2.cell (d om),K i a]
   have J:=Ae y a
   have X:bC n (l.getD i []):=hP _ (aW a)
   generalize ws.getD i .undef=vx at ci J
   have lx:=J.lens
   rw[aN,X.len] at lx
   simp(disch:=omega)only[go_sem,Q,G,sh.ixa,ci]
   refine (sN vx _ j (by rw[aN,X.len];omega) (J.mono F2)).mono ?_
   rw[Ph X n0 om]
   rintro _ h3 ⟨rfl,r⟩
   have a5:h3.cell id (L+i)=some vx:=by rw[r.cell (by have:=d om;have:=F2.next;omega)];exact ci
   simp(disch:=omega)only[go_sem]
   refine bA (λK=>(K rfl).elim) (λ_=>?_)
   simp(disch:=omega)only[go_sem,sh.ixa,a5,lx]
   refine bA (λK=>(K rfl).elim) (λ_=>?_)
   simp(disch:=omega)only[go_sem]
   rw[dU i]
   exact⟨l.length-(i+1),om,i+1,aB rfl,om,f.trans r,rfl⟩
  have G:=bE m
  simp(disch:=omega)only[go_sem,Q,G]
  exact⟨aB rfl,f⟩
 rintro p j ⟨⟨g,rfl⟩,f⟩
 have F2:=f1.trans f
 have nf:=f.next
 simp(disch:=omega)only[go_sem]
 refine (VC n j om).mono ?_
 rintro P h3 ⟨ρ,F,R,r⟩
 have F3:=F2.trans r
 simp(disch:=omega)only[go_sem]
 have hL: ∀g,g∈l->bC n g:=hP
 refine bQ (λA s=> ∃(z:Nat->Nat->V) (t:rN),(∃g:Nat->V,A= [aC n,U,.ptr B 0,g 3,g 4,g 5,P,g 7,g 8,g 9,g 10,g 11,g 12,g 13])/\Io j.next (WB n ρ) s n P ρ z t/\Ox n (· ∈l) t/\(∀g∈l,ins t n 0 g=none)/\Fx (WB n ρ) h3 s) ?_ ?_
 ·refine aI (λk' A s=> ∃(i:Nat) (z:Nat->Nat->V) (t:rN),(∃g:Nat->V,A= [aC n,U,.ptr B 0,g 3,g 4,g 5,P,aC i,g 8,g 9,g 10,g 11,g 12,g 13])/\i<=l.length/\Io j.next (WB n ρ) s n P ρ z t/\Ox n (· ∈l) t/\(∀g∈l.take i,ins t n 0 g=none)/\Fx (WB n ρ) h3 s/\k'=l.length-i) l.length
   ⟨0,F,_,aB rfl,fR _,R,⟨oI.empty n,λg hg=>by
    obtain⟨_,_,_,_,_,e⟩:=fP.1 hg
    cases e⟩,λg hg=>absurd hg List.not_mem_nil,Fx.refl _ _,rfl⟩ ?_
  rintro k' p W ⟨i,z,t,⟨g,rfl⟩,hi,R4,tl,hn,x,rfl⟩
  by_cases m:(i:Int)<(l.length:Int)
  case neg=>
   have G:=bE m;obtain rfl:i=l.length:=om
   simp(disch:=omega)only[go_sem,Q,G];rw[List.take_length] at hn;exact⟨z,t,aB rfl,R4,tl,hn,x⟩
  have G:=bN m
  have a:i<l.length:=om
  have c: ∀q,WB n ρ q->j.next<=q:=R.low
  have X4:Fr h W:=F2.trans ⟨by have:=r.next;have:=x.next;omega,λq hq=>by rw[x.get q (by have:=r.next;omega) (λY=>by have:=c q Y;omega)];exact r.get q hq⟩
  have ci:W.cell id (L+i)=some (ws.getD i .undef):=by rw[X4.cell (d om),K i a]
  have J:=Ae y a
  have X:bC n (l.getD i []):=hP _ (aW a)
  generalize ws.getD i .undef=vx at ci J
  simp(disch:=omega)only[go_sem,Q,G,sh.ixa,ci]
  have px:PV (WB n ρ) W vx (l.getD i []):=by
   refine⟨J.mono X4,Wv (b:=j.next) J om c⟩
  refine (Tf j.next (WB n ρ) W n P ρ z t vx _ om om R4 px X tl.tab).mono ?_
  rintro _ h5 ⟨F5,rfl,R5,f5⟩
  simp(disch:=omega)only[go_sem]
  rw[dU i]
  obtain⟨o,k,N⟩:=tl.ins hL (x:=l.getD i []) (cG.of hL (aW a))
  refine⟨l.length-(i+1),om,i+1,F5,_,aB rfl,om,R5,o,λu hu=>?_,x.trans f5 (λ_ _ h=>h),rfl⟩
  rcases (De a).1 hu with hu|rfl
  ·exact Fp k _ _ _ (hn u hu)
  ·exact N
 clear g
 rintro p W ⟨z,t,⟨g,rfl⟩,R4,tl,hn,x⟩
 have x3:=x.next
 have n3:=r.next
 simp(disch:=omega)only[go_sem]
 refine (TK j.next (WB n ρ) W n P ρ z t (· ∈l) n7 n0 om R4 hL tl).mono ?_
 rintro _ h5 ⟨W5,F5,t5,R5,o,k,a0,x5,b1⟩
 have n5:=x5.next
 have tw:=JK o.tab a0
 simp(disch:=omega)only[go_sem]
 refine (ND j.next W5 h5 n P ρ F5 t5 om n0 R5 o.tab tw).mono ?_
 rintro vc h6 ⟨O,R',ch,a6,f6⟩
 have n6:=f6.next
 have c: ∀q,WB n ρ q->j.next<=q:=R.low
 have a2:Fr j h5:=⟨om,λq hq=>by
  rw[x5.get q om (λY=>by have:=c q Y;omega),x.get q om (λY=>by have:=c q Y;omega)]
  exact r.get q hq⟩
 have F6:=(F2.trans a2).trans f6
 have a7:=a2.trans f6
 have g6:h6.get B=some (.cells false [aC 0,.aE,.aE]):=by rw[a7.get B om,f.get B om];exact g1
 have a4:=ch
 obtain⟨vO,vR,a8,a9,e,t1,_,_,t2,_,_⟩:=ch
 subst e
 have Z:=t1.cF.2.1
 have a1:=t2.cF.2.1
 obtain⟨h7,e7,b0,g7,o7⟩:=mD h6 B [aC n,vO,vR]
 have r7:=aG g7
 simp(disch:=omega)only[go_sem,bI h6 B 0 (v:= aC n) (u:=vO) (w:=vR) rfl Z a1,g6,bG,e7,r7]
 have f7:Fx (λid=>id<h5.next) h6 h7:=⟨om,λid _ d=>o7 id om⟩
 refine⟨_,O,R',rfl,⟨a4.go f7 (λid _ h=>om),a6.congr (o.group hL n0 a0 λg hg=>Fp k _ _ _ (hn g hg)),cG.dH hP,n0,n7⟩,⟨by have:=F6.next;omega,λid d=>by rw[o7 id om];exact F6.get id d⟩⟩
section
variable {h:H} {v:V} {n:Nat} {l:List Nat}
structure Mp (h:H)(v:V)(n id:Nat)(l:List Nat):Prop where
 ex: ∃cap rest,v= .sl id 0 n cap/\id<h.next/\h.get id=aY (ints (zi l)++rest)
 cX:bC n l
theorem Mp.of {b:Nat}(j:0<n)(X:bC n l)(o:cQ h v 1 (ints (zi l)) b): ∃id,Mp h v n id l/\b<=id:=by
 rcases o with ⟨_,e⟩|⟨id,m,c,a,rfl,d,k,f,g,i⟩
 ·have:=congrArg List.length e
  rw[aP,aN,List.length_nil,X.len] at this;omega
 ·rw[aP,aN,uH,X.len] at d
  subst d;exact⟨id,⟨⟨c,a,rfl,g,i⟩,X⟩,f⟩
theorem Mp.si {id:Nat}(m:Mp h v n id l):SI h v (zi l):=by
 obtain⟨⟨a,b,rfl,c,d⟩,X⟩:=m;refine .inr ⟨id,0,n,a,false,_,rfl,by rw[aP,aN,X.len,uH],c,d,by rw[iA,aP,aN,X.len];omega,?_⟩;rw[List.drop_zero,uH,List.take_left' (by rw[aP,aN,X.len])]
theorem Mp.mono {h':H}{id:Nat}(m:Mp h v n id l)(g:h.next<=h'.next)(d:h'.get id=h.get id):Mp h' v n id l:=by
 obtain⟨⟨b,a,c,f,e⟩,X⟩:=m;exact⟨⟨b,a,c,om,by rw[d];exact e⟩,X⟩
end
theorem BV.cell {x:Nat}{a c:H}(f:BV x a c){id off:Nat}(b:id<a.next)(h2:id≠x):c.cell id off=a.cell id off:=by unfold H.cell;rw[f.get id b h2]
set_option maxRecDepth 100000
section
variable {n:Nat} {G:List Nat->Prop} {L:LN} {K:List Nat}
theorem Cn.lt (k:Cn n G L K){r:Nat}(a:r∈K):r<L.length:=(pU.1 (k.perm.mem_iff.1 a)).1
theorem Cn.nd (k:Cn n G L K):K.Nodup:=k.perm.nodup_iff.2 (by unfold jY;exact List.nodup_range.filter _)
variable (hG:iJ n G) (E:dZ G L) (k:Cn n G L K)
include hG E k
end
def acM (n:Nat)(x:List Nat):Nat->Nat->Nat
 |0,k=>k
 |f+1,k=>if pw n x k=bT n then k else acM n x f (k+1)
def KF (n:Nat)(x:List Nat):Nat:=acM n x 420 1
theorem GX {n:Nat}{x:List Nat}(X:bC n x): ∀f k,0<k->k<=pI x n->pI x n<=k+f->acM n x f k=pI x n
 |0,k,_,h1,h2=>by show k=_;omega
 |f+1,k,h0,h1,h2=>by
  unfold acM;split
  ·rename_i e
   exact Nat.le_antisymm h1 (Nat.le_of_dvd h0 ((Hz X k).2 e))
  ·rename_i e
   refine GX X f (k+1) om ?_ om
   by_cases h:k=pI x n
   ·exact absurd ((Hz X k).1 (by rw[h];exact Nat.dvd_refl _)) e
   ·omega
theorem ZG {n:Nat}{x:List Nat}(X:bC n x)(a:n<=7):pI x n=KF n x:=
 (GX X 420 1 om (AN X) (by have:=Nat.le_of_dvd om (RF X a);omega)).symm
def cRb (L:LN)(i j:Nat):Bool:=L.any λc=>cW (L.getD i []) c==L.getD j []
def NM (L:LN)(i:Nat):List Nat:=(List.range L.length).filter (cRb L i)
def AU (L:LN):List Nat:=(List.range L.length).filter λj=>(List.range j).all λi=>!cRb L i j
def afJ (n:Nat)(L:LN)(r s:Nat):Bool:=decide (KF n (L.getD r [])<KF n (L.getD s [])∨KF n (L.getD r [])=KF n (L.getD s [])/\((NM L r).length<(NM L s).length∨(NM L r).length=(NM L s).length/\r<s))
section
variable {n:Nat} {G:List Nat->Prop} {L:LN} {K:List Nat}
theorem ahL (E:dZ G L){x y:List Nat}:cj G x y↔(L.any λc=>cW x c==y)=true:=by
 rw[List.any_eq_true];constructor
 ·rintro⟨c,hc,e⟩
  exact⟨c,(E.mem c).2 hc,by simpa using e⟩
 ·rintro⟨c,hc,e⟩
  exact⟨c,(E.mem c).1 hc,by simpa using e⟩
theorem DS (E:dZ G L){i j:Nat}:cR G L i j↔cRb L i j=true:=ahL E
theorem agR (E:dZ G L)(i j:Nat)(d:Decidable (cR G L i j)): @decide (cR G L i j) d=cRb L i j:=by
 rw[Qk,Ss];exact DS E
theorem JN (E:dZ G L)(i:Nat):kG G L i=NM L i:=by
 unfold kG NM;exact List.filter_congr λj _=>agR E i j _
theorem WL (E:dZ G L):jY G L L.length=AU L:=by
 unfold jY AU;refine List.filter_congr λj _=>?_
 classical
 rw[Qk,Ss,Lw];unfold JL;constructor
 ·intro h i hi
  have:=h i (Lk.1 hi);rw[DS E] at this;simpa using this
 ·intro h i hi
  have:=h i (Lk.2 hi);rw[DS E];simpa using this
theorem ajE (a:iJ n G)(E:dZ G L): ∀x∈L,bC n x:=λx b=>a.cX ((E.mem x).1 b)
theorem RY (c:iJ n G)(E:dZ G L)(a:n<=7){r:Nat}(b:r<L.length):pI (L.getD r []) n=KF n (L.getD r []):=ZG (ajE c E _ (aW b)) a
theorem YU (a:iJ n G)(E:dZ G L)(b:n<=7){r s:Nat}(d:r<L.length)(c:s<L.length):kLt n G L r s↔afJ n L r s=true:=by
 unfold kLt afJ;rw[Ss,RY a E b d,RY a E b c,JN E,JN E]
def KOk (n:Nat)(L:LN)(K:List Nat):Bool:=K.isPerm (AU L)&&decide (K.Pairwise λr s=>afJ n L r s=true)
theorem KOk.isK (d:iJ n G)(E:dZ G L)(e:n<=7)(h:KOk n L K=true):Cn n G L K:=by
 unfold KOk at h;rw[vV,Ss] at h;have p:K.Perm (AU L):=List.isPerm_iff.1 h.1
 have b: ∀r∈K,r<L.length:=λr a=>by
  have:=p.mem_iff.1 a;unfold AU at this;exact Lk.1 (GI.1 this).1
 exact⟨by rw[WL E];exact p,List.Pairwise.imp_of_mem (λa c h=>(YU d E e (b _ a) (b _ c)).2 h) h.2⟩
theorem KOk.eq (c:iJ n G)(E:dZ G L)(b:n<=7){a:List Nat}(h:KOk n L a=true)(k:Cn n G L K):K=a:=k.uniq (KOk.isK c E b h)
end
def ajU (n:Nat)(S:LN)(w:List Nat):List Nat:=w.foldl (λx i=>aX x (S.getD i [])) (bT n)
theorem Yk {n:Nat}{S:LN}: ∀(w:List Nat) (x:List Nat),(∀i∈w,i<S.length)->cG n (· ∈S) x->cG n (· ∈S) (w.foldl (λx i=>aX x (S.getD i [])) x)
 | [],_,_,h=>h
 |i::w,x,hw,h=>Yk w _ (λj a=>hw j (by simp [a])) (h.mul (aW (hw i (by simp))))
def EI (n:Nat)(S L:LN)(ws:LN):Bool:=
 L==ws.map (ajU n S)&&ws.all (λw=>w.all λi=>decide (i<S.length))&&decide (L.Pairwise λx y=>yV x y=true)&&L.all (λx=>x.length==n)&&L.contains (bT n)&&L.all λx=>S.all λg=>L.contains (aX x g)
theorem EI.FX {n:Nat}{S L:LN}{ws:LN}(h:EI n S L ws=true):dZ (cG n (· ∈S)) L:=by
 unfold EI at h;simp only[vV,beq_iff_eq,Lw,Ss,List.contains_iff_mem] at h;obtain⟨⟨⟨⟨⟨d,g⟩,j⟩,b⟩,i⟩,c⟩:=h;refine⟨List.Pairwise.imp_of_mem (λa f h=>(Bz (by rw[b _ a,b _ f])).1 h) j,λx=>⟨λa=>?_,λa=>?_⟩⟩
 ·rw[d] at a
  obtain⟨w,e,rfl⟩:=vF.1 a;exact Yk w _ (g w e) .one
 ·induction a with
  |one=>exact i
  |mul _ hg ih=>exact c _ ih _ hg
def A4:LN:= [[1,2,0,3], [0,2,3,1]]
def L3:LN:= [[0,1,2], [0,2,1], [1,0,2], [1,2,0], [2,0,1], [2,1,0]]
theorem ahU (h:H)(x y z:Int):mH h 1 [aC 0] 3 [(0,1,aC x),(1,1,aC y),(2,1,aC z)]=some (.sl h.next 0 3 (.kn 3),h.new (.cells false (ints [x,y,z]))):=by
 have e:dC [aC 0] 3= [aC 0,aC 0,aC 0]:=rfl;simp [mH,gZ,e,putAt,V.cells,V.one,ints]
theorem Ur (h:H)(x y z w:Int):mH h 1 [aC 0] 4 [(0,1,aC x),(1,1,aC y),(2,1,aC z),(3,1,aC w)]=some (.sl h.next 0 4 (.kn 4),h.new (.cells false (ints [x,y,z,w]))):=by
 have e:dC [aC 0] 4= [aC 0,aC 0,aC 0,aC 0]:=rfl;simp [mH,gZ,e,putAt,V.cells,V.one,ints]
theorem Xb (h:H){v u:V}(b:v.cells= [v]/\v.one=true)(a:u.cells= [u]/\u.one=true):mH h 1 [.aE] 2 [(0,1,v),(1,1,u)]=some (.sl h.next 0 2 (.kn 2),h.new (.cells false [v,u])):=by
 have e:dC [V.aE] 2= [.aE,.aE]:=rfl;simp [mH,gZ,e,putAt,b.1,b.2,a.1,a.2]
theorem qW (id o m:Nat)(c:pF):(V.sl id o m c).cells= [.sl id o m c]/\(V.sl id o m c).one=true:=⟨rfl,rfl⟩
theorem mkI {h:H}{ID:Nat}(a:h.next=ID)(l:List Int): ∃x,h.new (.cells false (ints l))=x/\x.next=ID+1/\SI x (.sl ID 0 l.length (.kn l.length)) l/\Fr h x:=by
 obtain⟨x,e,n,g,o,f⟩:=cU a (ints l);exact⟨x,e,n,SV.all (by rw[aP,uH]) om g _,f⟩
theorem SP.two {h h':H}{id:Nat}{v u:V}{a b:List Nat}(i:SI h v (zi a))(e:SI h u (zi b))(c:id<h'.next)(f:Fr h h')(g:h'.get id=aY [v,u])(d:pF):SP h' (.sl id 0 2 d) [a,b]:=
 ⟨[v,u],SV.all rfl c g _,i.mono f,e.mono f,trivial⟩
theorem GC.sl {W:Nat->Prop}{h:H}{c:V}{n:Nat}{O:LN}{R:fM}{G:List Nat->Prop}(g:GC W h c n O R G): ∃vO vR,c= .agg [aC n,vO,vR]/\vO.one=true/\vR.one=true/\dB vO vO=true/\dB vR vR=true:=by
 obtain⟨vO,vR,d,f,e,a,_,_,b,_,_⟩:=g.cw;exact⟨vO,vR,e,a.cF.2.1,b.cF.2.1,a.dB,b.dB⟩
theorem GC.el {W:Nat->Prop}{h:H}{a:V}{n:Nat}{O:LN}{R:fM}{G:List Nat->Prop}{L:LN}(g:GC W h a n O R G)(E:dZ G L):dG O R n 0 (bT n)=L:=(dL g.dH g.isc).1.uniq E
def SB (h:H)(v:V)(l:List Bool):Prop:=SV h v 1 (l.map V.bool)
theorem SB.mono {h h':H}{v:V}{l:List Bool}(s:SB h v l)(f:Fr h h'):SB h' v l:=SV.mono s f
theorem SB.open {h:H}{v:V}{l:List Bool}(s:SB h v l):bF v=some (aC (l.length:Int))/\ ∃id off,Sl v 1 l.length id off/\ ∀i,i<l.length->id<h.next/\h.cell id (off+i)=some (.bool (l.getD i false)):=by
 have d:(l.map V.bool).length=l.length:=iN ..;refine⟨by unfold bF;rw[SV.len s (n:=l.length) om om];rfl,?_⟩;obtain⟨id,off,c,a,b⟩:=SV.shape s l.length om om;exact⟨id,off,c,λi hi=>⟨a om,by rw[b i om,Wy,List.getD,dF hi];rfl⟩⟩
set_option maxRecDepth 100000
theorem GC.all {W:Nat->Prop}{h:H}{a:V}{n:Nat}{O:LN}{R:fM}{G:List Nat->Prop}(g:GC W h a n O R G):dZ G (dG O R n 0 (bT n))/\(dG O R n 0 (bT n)).length<=5040:=by
 have e:=dL g.dH g.isc;exact⟨e.1,by rw[e.2];exact fK g⟩
section
variable {n:Nat} {G H:List Nat->Prop} {L M:LN} {K K':List Nat} {x:List Nat}
variable (hG:iJ n G) (E:dZ G L) (k:Cn n G L K) (hH:iJ n H) (F:dZ H M) (k':Cn n H M K') (X:bC n x) (hx: ∀y,H y↔ ∃g,G g/\cW g x=y)
include hG E k hH F k' X hx
end
def dD (v:V)(id:Nat):Prop:= ∃off m c,v= .sl id off m c
theorem LH (u:V)(ws:List V)(h:H)(q:ws.length<1000000)(c:SV h u 1 ws):
  Ev T 163 [u] h (λv h'=>cQ h' v 1 ws h.next/\Fr h h'):=by
 refine cT cJ rfl ?_
 have b:Fj false u=some (.bool false)->Wp T none cJ.fn.body (Af cJ.fn [u]) h (KY cJ.fn.results λv h'=>cQ h' v 1 ws h.next/\Fr h h'):=λg=>by
  have d:Fr h (h.new (.cells false [])):=(Fr.refl h).new _;have i:cQ (h.new (.cells false [])) (.sl h.next 0 0 (.kn 0)) 1 [] h.next:=cQ.new h 1 0 _ [] rfl (eH _);obtain⟨p,k,e,A⟩:=i.app (bytes:=24) (by rw[H.aU];omega) (c.mono d) (n:=0) (m:=ws.length) rfl om om om;simp(disch:=omega)only[go_sem,cJ,aD,g,e];exact⟨by have:=A.own;rwa [List.nil_append] at this,A.fr _ d (eH _)⟩
 rcases c with ⟨rfl|⟨a,rfl⟩,rfl⟩|⟨id,f,len,j,l,o,rfl,k⟩
 ·simp(disch:=omega)only[go_sem,cJ,aD]
  exact⟨cQ.aE _ _ _,Fr.refl _⟩
 ·exact b rfl
 ·exact b rfl
theorem agG {n:Nat}{l:LN}{x:List Nat}(b: ∀g∈l,bC n g)(X:bC n x)(y:List Nat):Jn n (cG n (· ∈l)) [x] y↔cG n (· ∈l++ [x]) y:=by
 have a: ∀g∈l++ [x],bC n g:=λg h=>(kT.1 h).elim (b g) λh=>by rw[List.mem_singleton.1 h];exact X
 have d:=cG.dH (L:=(· ∈l)) b;constructor
 ·refine λh=>cG.le (cG.dH a) (λg h=>?_) h
  rcases h with h|h
  ·exact cG.mono (λg h=>kT.2 (.inl h)) h
  ·exact cG.of a (kT.2 (.inr h))
 ·refine λh=>cG.le (Jn.dH d λg h=>by rw[List.mem_singleton.1 h];exact X) (λg h=>?_) h
  have c: ∀g,(cG n (· ∈l) g∨g∈ [x])->bC n g:=λg h=>h.elim (λh=>h.cX b) λh=>by rw[List.mem_singleton.1 h];exact X
  rcases kT.1 h with h|h
  ·exact cG.of c (.inl (cG.of b h))
  ·exact cG.of c (.inr h)
structure ClJ (h hh:H)(D P4 P id C1 C2:Nat)(r:dY)(vby:V)(n:Nat)(l0 B:LN)(i k:Nat)(l:LN):Prop where
 ex: ∃vl ws,hh.get P=aY [vl]/\cQ hh vl 1 ws 0/\dW (λq=>q=D∨q=P∨q=id∨dD vl q) hh ws l/\Qo (λq=>q<h.next∨q=P∨q=id∨dD vl q) hh D n (cG n (· ∈l))/\ ∀q,dD vl q->h.next<=q/\q≠D/\q≠P4/\q≠P/\q≠C1/\q≠C2/\q≠id/\q<hh.next
 g4:hh.get P4=aY [.ptr D 0]
 c1:hh.get C1=aY [.ptr P 0]
 c2:hh.get C2=aY [vby]
 gr:hh.get id=some (.loop r)
 fr:Fr h hh
 nx:id<hh.next
 pre: ∃t,l=l0++t/\t.Nodup/\ ∀g∈t,bC n g
 nc: ∀g∈l,NC n (· ∈l0) (· ∈B) g
 cj: ∀i' k',(i'<i∨i'=i/\k'<k)->i'<l.length->k'<B.length->cG n (· ∈l) (cW (l.getD i' []) (B.getD k' []))
theorem ClJ.fr' {h u h2:H}{D s P id o p:Nat}{r:dY}{m:V}{n:Nat}{t B:LN}{i k:Nat}{l:LN}(j:ClJ h u D s P id o p r m n t B i k l)(G:s<id/\P<id/\o<id/\p<id)(f:Fr u h2):ClJ h h2 D s P id o p r m n t B i k l:=by
 obtain⟨y,w,g,z,pv,A,F⟩:=j.ex;have nx:=j.nx;exact⟨⟨y,w,by rw[f.get P om];exact g,z.fr f,aM.mono (λ_ _ x=>x.fx (Fx.of f)) pv,A.fr f,λq v=>by obtain⟨a,b,c,d,e,g,i,k⟩:=F q v;exact⟨a,b,c,d,e,g,i,jB k f.next⟩⟩,by rw[f.get s om];exact j.g4,by rw[f.get o om];exact j.c1,by rw[f.get p om];exact j.c2,by rw[f.get id om];exact j.gr,j.fr.trans f,jB nx f.next,j.pre,j.nc,j.cj⟩
theorem Fx.wide {W W':Nat->Prop}{h h':H}(f:Fx W h h')(a: ∀q,W q->W' q):Fx W' h h':=⟨f.next,λq b c=>f.get q b λh=>c (a q h)⟩
theorem adK {n:Nat}{l:LN}{x g:List Nat}(h:cG n (· ∈l) g):cG n (· ∈l++ [x]) g:=cG.mono (λ_ h=>kT.2 (.inl h)) h
theorem Xl {l:LN}{x:List Nat}{i:Nat}(hi:i<l.length):(l++ [x]).getD i []=l.getD i []:=by
 rw[UT,UT,Ej hi]
theorem ahP {n:Nat}{l:LN}(a: ∀g∈l,bC n g)(x:List Nat):Jn n (λx=>x=bT n) l x↔cG n (· ∈l) x:=
 ⟨λh=>cG.le (cG.dH a) (λg h=>h.elim (λe=>by rw[e];exact .one) λh=>cG.of a h) h,λh=>cG.mono (λg h=> .inr h) h⟩
theorem Uo (n:Nat):iJ n (λx=>x=bT n):=⟨λe=>by rw[e];exact bC.one n,rfl,λa b=>by rw[a,b,eD (bC.one n)],λa=>by rw[a,nY]⟩
theorem Sx (vl J:V)(n:Nat)(U B:LN)(h:H)(n0:1<=n)(n7:n<=7)(b4: ∀g∈U,bC n g)(c9: ∀b∈B,bC n b)(k2:U.length<100000)(Bl:B.length<1000000)(sl:SP h vl U)(sB:SP h J B):
  Ev T 124 [aC n,vl,J] h (λv h'=> ∃D,v= .ptr D 0/\h.next<=D/\Qo (λq=>q<h.next) h' D n (NC n (· ∈U) (· ∈B))/\Fr h h'):=by
 refine cT wH rfl ?_
 have hM:n^n<=823543:=by
  have: ∀k,k<=7->k^k<=823543:=by decide
  exact this n n7
 simp(disch:=omega)only[go_sem,wH,aD]
 refine (PG n h n0 n7).mono ?_
 rintro _ A ⟨D,rfl,hD,b1,f1⟩
 obtain⟨ws,sv,al⟩:=sl
 have lw:=aM.length al
 rw[iN] at lw
 have c8:SV h vl 1 ws:=sv
 have ins:=SV.in c8
 have nD:=b1.nx
 have e1: ∀h',Fr h h'->SV h' vl 1 ws/\Mf (· =D) vl/\dW (· =D) h' ws U:=λh' f=>by
  refine⟨c8.mono f,?_,aM.kH lw λi hi hj=>?_⟩
  ·cases vl with
   |sl id K m c=>exact λe=>by have:=ins _ _ _ _ rfl;omega
   |_=>trivial
  ·have s:=aM.get al i hi (by rw[iN];exact hj)
   rw[List.getElem_map] at s;refine⟨s.mono f,?_⟩;generalize ws[i]=v at s;have i2:=SV.in s
   cases v with
   |sl id K m c=>exact λe=>by have:=i2 _ _ _ _ rfl;omega
   |_=>trivial
 obtain⟨s1,j8,p1⟩:=e1 A f1
 simp(disch:=omega)only[go_sem]
 refine (AL (W:=λq=>q<h.next) D vl ws n _ U A n0 n7 (Uo n) b4 om (λq h=>jB h f1.next) b1 s1 j8 p1).mono ?_
 rintro _ d ⟨rfl,b2,f2⟩
 have k7:=f1.next
 have k5:=f2.next
 have g5:Fr h d:=⟨om,λq N=>by rw[f2.get q om (by show q≠D;omega)];exact f1.get q N⟩
 obtain⟨P4,g0⟩:=exI d.next
 obtain⟨h3,e3,n3,g3,o3,f3⟩:=cU g0 [.nilp]
 obtain⟨h4,e4,n4,g4,o4⟩:=mD h3 P4 [.ptr D 0]
 have d3:Fr d h4:=⟨om,λq N=>by rw[o4 q om,o3 q om]⟩
 have pt: ∀(G:H) (id:Nat) (u w:V),dR (some (.cells false [u])) G id 0 [w]=some (G.set id (some (.cells false [w]))):=λG id u w=>bP (by simp) G _ _
 simp(disch:=omega)only[go_sem,g0,e3,kL (show (V.ptr D 0).cells= [V.ptr D 0] from rfl) rfl,g3,pt,e4]
 have d9:=g5.trans d3
 refine (LH vl ws h4 om (c8.mono d9)).mono ?_
 rintro vk h5 ⟨c4,f5⟩
 have k9:=f5.next
 obtain⟨P,hP⟩:=exI h5.next
 obtain⟨h6,e6,n6,g6,o6,f6⟩:=cU hP [.aE]
 obtain⟨h7,e7,l1,g7,o7⟩:=mD h6 P [vk]
 have d0:Fr h5 h7:=⟨om,λq N=>by rw[o7 q om,o6 q om]⟩
 have wk:=SV.cF c4.sv
 simp(disch:=omega)only[go_sem,hP,e6,kL wk.1 wk.2.1,g6,pt,e7]
 have d4:Fr h h7:=d9.trans (f5.trans d0)
 have wB:=SV.cF (show SV h J 1 _ from sB.choose_spec.1)
 obtain⟨h8,e8,n8,g8,o8,f8⟩:=cU (h:=h7) rfl [.ptr P 0]
 obtain⟨h9,e9,n9,g9,o9,f9⟩:=cU n8 [J]
 refine Ev.mono (Q:=λv h'=>v= .fn 206 [] [.ptr h7.next 0,.ptr (h7.next+1) 0]/\h9=h') ?_ ?_
 ·refine cT qU rfl ?_
  simp(disch:=omega)only[go_sem,qU,aD,kW (x:= .ptr P 0) rfl rfl h7,e8,kW wB.1 wB.2.1 h8,n8,e9]
 rintro _ _ ⟨rfl,rfl⟩
 simp(disch:=omega)only[go_sem]
 obtain⟨C1,i1⟩:=exI h7.next
 obtain⟨C2,k0⟩:=exI (C1+1)
 obtain⟨id,c3⟩:=exI h9.next
 rw[i1] at n8 n9 g8 o8 g9 o9 ⊢
 rw[k0] at n8 n9 g9 o9 ⊢
 refine⟨rfl,uT λr hr=>?_⟩
 rw[c3]
 have iB:r.st= .ready:=by rw[hr]
 have b8:r.pend=none:=by rw[hr]
 have oA: ∀k,k<id->(h9.new (.loop r)).get k=h9.get k:=λk hk=>H.bD h9 om _
 have nA:(h9.new (.loop r)).next=id+1:=by rw[H.aU,c3]
 have hc:P4<id/\P<id/\C1<id/\C2<id:=om
 have d5:Fr h7 h9:=f8.trans f9
 have FA:Fr h7 (h9.new (.loop r)):=d5.new _
 have c0: ∀q,dD vk q->h4.next<=q/\q<P:=λq ⟨K,m,c,e⟩=>by
  have:=c4.in _ _ _ _ e;omega
 have j6: ∀i (hi:i<ws.length) (hj:i<U.length),PV (λq=>h.next<=q) (h9.new (.loop r)) ws[i] U[i]:=λi hi hj=>by
  have s:=aM.get al i hi (by rw[iN];exact hj);rw[List.getElem_map] at s;refine⟨s.mono (d4.trans FA),?_⟩;generalize ws[i]=v at s;have i2:=SV.in s
  cases v with
  |sl id K m c=>exact λe=>by have:=i2 _ _ _ _ rfl;have e:h.next<=id:=e;omega
  |_=>trivial
 have J0:ClJ h (h9.new (.loop r)) D P4 P id C1 C2 r J n U B 0 0 U:=by
  refine⟨⟨vk,ws,by rw[oA _ om,o9 _ om,o8 _ om];exact g7,(c4.fr (d0.trans FA)).le (fR _),aM.kH lw λi hi hj=>(j6 i hi hj).iP λq _ N=>?_,?_,λq N=>?_⟩,by rw[oA _ om,d5.get _ om,o7 _ om,o6 _ om,f5.get _ om];exact g4,by rw[oA _ om,o9 _ om];exact g8,by rw[oA _ om];exact g9,by rw[←c3,H.aL],d4.trans FA,om,⟨[],(tD _).symm,List.nodup_nil,λ_ h=>by cases h⟩,λg hg=>NC.of hg,λi' k' h=>om⟩
  ·show h.next<=q
   rcases N with rfl|rfl|rfl|N
   ·exact hD
   ·omega
   ·omega
   ·have:=c0 q N;omega
  ·exact ((b2.iP (W':=λq=>q<h.next∨q=P∨q=id∨dD vk q) (λq A d=>by
    rcases d with e|e|e|e
    ·exact e
    ·omega
    ·omega
    ·have:=c0 q e;omega)).fr (d3.trans (f5.trans (d0.trans FA)))).congr λx=>ahP b4 x
  ·have:=c0 q N;omega
 have jf: ∀i k l G h',ClJ h G D P4 P id C1 C2 r J n U B i k l->Fr G h'->ClJ h h' D P4 P id C1 C2 r J n U B i k l:=λi k l G h' j f=>j.fr' hc f
 have c7: ∀i k l G,ClJ h G D P4 P id C1 C2 r J n U B i k l-> ∀g∈l,bC n g:=λi k l G j g hg=>by
  obtain⟨t,e,_,tP⟩:=j.pre;rw[e] at hg;exact (kT.1 hg).elim (b4 g) (tP g)
 refine (QI id C1 C2 P J B n (U.length+n^n) n0 om c9 Bl om _ (λi k l G=>ClJ h G D P4 P id C1 C2 r J n U B i k l) U J0 ?_ jf ?_ ?_).mono ?_
 ·intro i k l G j
  obtain⟨o,a1,gP,ow,pv,bd,bl⟩:=j.ex
  refine⟨j.c1,j.c2,⟨o,a1,gP,ow.sv,aM.mono (λ_ _ x=>x.si) pv⟩,sB.mono j.fr,?_,c7 _ _ _ _ j⟩
  obtain⟨t,e,tN,tP⟩:=j.pre
  have:=Bc tN tP
  rw[e,iA]
  omega
 ·intro i l G j
  exact⟨j.ex,j.g4,j.c1,j.c2,j.gr,j.fr,j.nx,j.pre,j.nc,λi' k' h A d=>j.cj i' k' om A d⟩
 ·intro i k l ha G w b0 f4 j0 fa pw
  have j:=j0.fr' hc fa
  obtain⟨o,a1,i3,j5,f0,a6,Z⟩:=j0.ex
  have l7:=j0.nx
  have l6:=fa.next
  obtain⟨Wl,a4⟩: ∃Wl:Nat->Prop,Wl=λq=>q<h.next∨q=P∨q=id∨dD o q:=⟨_,rfl⟩
  rw[←a4] at a6
  obtain⟨x,hx⟩:=exI (cW (l.getD i []) (B.getD k []))
  rw[hx] at pw
  have a0:=c7 _ _ _ _ j0
  have X:bC n x:=by rw[←hx];exact nH (a0 _ (aW b0)) (c9 _ (aW f4))
  refine tE j.gr (by rw[hr];rfl) iB λhb gb nb ob=>?_
  rw[congrArg dY.assign hr,congrArg dY.vars hr,congrArg dY.pars hr]
  simp(disch:=omega)only[go_sem,List.zip_cons_cons,List.zip_nil_left]
  rw[congrArg dY.body hr]
  have j3:Fx (· =id) ha hb:=⟨om,λq A d=>by rw[ob q d,fa.get q A]⟩
  have d1:Wl id:=by rw[a4];exact .inr (.inr (.inl rfl))
  have WP:Wl P:=by rw[a4];exact .inr (.inl rfl)
  have b9:Qo Wl hb D n (cG n (· ∈l)):=a6.fx (Fx.wide j3 λq (h:q=id)=>by rw[h];exact d1)
  obtain⟨vO,vR,O,R,gD,gc⟩:=b9.ex
  have i0:=b9.nx
  have c5:SI hb w (zi x):=SV.fx pw.si (W:=(· =id)) (by
   have:=pw.off
   cases w with
   |sl q K m c=>exact λe=>this (by have e:q=id:=e;omega)
   |_=>trivial) ⟨om,λq A d=>ob q d⟩
  have f7:hb.get P4=some (.cells false [.ptr D 0]):=by rw[ob _ om];exact j.g4
  simp(disch:=omega)only[go_sem,H.aF f7]
  refine (IE D w vO vR n O R _ x hb gc i0 gD X c5).mono ?_
  rintro _ hs ⟨bb,rfl,d6,fs⟩
  have l8:=fs.next
  cases bb with
  |true=>
   simp(disch:=omega)only[go_sem];refine oP iB b8 (by rw[fs.get id om];exact gb) ⟨rfl,l,b0,?_⟩
   have F:Fr G (hs.set id (some (.loop r))):=⟨by simp only[H.cH];omega,λq N=>by
    by_cases e:q=id
    ·rw[e,H.aS];exact j.gr.symm
    ·rw[H.aH _ e,fs.get q om,ob q e]⟩
   have j2:=j.fr' hc F;refine⟨j2.ex,j2.g4,j2.c1,j2.c2,j2.gr,j2.fr,j2.nx,j2.pre,j2.nc,λi' k' h A d=>?_⟩
   by_cases e:i'=i/\k'=k
   ·rw[e.1,e.2,hx];exact d6.1 rfl
   ·exact j2.cj i' k' om A d
  |false=>
   have i9: ¬cG n (· ∈l) x:=λh=>by have:=d6.2 h;cases this
   have gl:=cG.dH (L:=(· ∈l)) a0
   have j7: ∀q,Wl q->q<ha.next:=λq h=>by
    rw[a4] at h;rcases h with h|h|h|h
    ·have:=j0.fr.next;omega
    ·omega
    ·omega
    ·exact (Z q h).2.2.2.2.2.2.2
   have wx:=SV.cF c5;have i8:hs.get P4=some (.cells false [.ptr D 0]):=by rw[fs.get _ om];exact f7
   obtain⟨S,hS⟩:=exI hs.next;obtain⟨ht,et,nt,gt,ot,ft⟩:=cU hS [w];have g1:Fr hb ht:=fs.trans ft;simp(disch:=omega)only[go_sem,H.aF i8,bZ hs (z:= .aE) wx.1 wx.2.1,hS,et];refine (AL (W:=Wl) D (.sl S 0 1 (.kn 1)) [w] n _ [x] ht n0 n7 gl (λg hg=>by rw[List.mem_singleton.1 hg];exact X) (by show 1<1000000;decide) (λq h=>by have:=j7 q h;omega) (b9.fr g1) (SV.one om gt (.kn 1)) (λe=>by have e:S=D:=e;omega) ⟨⟨c5.mono g1,?_⟩,trivial⟩).mono ?_
   ·have:=pw.off
    have nD:=a6.nx
    cases w with
    |sl q K m c=>exact λe=>this (by have e:q=D:=e;omega)
    |_=>trivial
   rintro _ Y ⟨rfl,bw,fw⟩;have l4:=fw.next
   have b7: ∀q,q<ha.next->q≠id->q≠D->Y.get q=ha.get q:=λq A d h3=>by
    rw[fw.get q om h3,ft.get q om,fs.get q om,ob q d,fa.get q A]
   have l3:=a6.nx;have PD:P≠D:=λe=>a6.nW (e▸WP)
   have e0:Y.get P=some (.cells false [o]):=by rw[b7 P om om PD];exact i3
   have l9:Fx (λq=>q=id∨q=D) ha Y:=⟨om,λq A d=>b7 q A (λe=>d (.inl e)) λe=>d (.inr e)⟩
   have e5:cQ Y o 1 a1 0:=j5.mono om λq _ _ _ e _ A=>b7 q A (Z q ⟨_,_,_,e⟩).2.2.2.2.2.2.1 (Z q ⟨_,_,_,e⟩).2.1
   have k4:=SV.cF e5.sv;obtain⟨S2,d8⟩:=exI Y.next;obtain⟨d7,i7,k1,i6,k6,a9⟩:=cU d8 [w];have m0:=aM.length f0;obtain⟨t,el,tN,tP⟩:=j0.pre;have k3:=Bc tN tP;have ll:l.length=U.length+t.length:=by rw[el,iA]
   obtain⟨a8,a2,p2⟩:=(e5.fr a9).push (bytes:=24) (SV.one (v:=w) (id:=S2) om i6 (.kn 1)) (n:=a1.length) (m:=1) om rfl om om om;have k8:=p2.next;have ap: ∀q,¬dD o q->cZ o q:=λq N l2 K m c e e2=>N ⟨K,m,c,by rw[e2];exact e⟩
   have h0: ¬dD o P:=λh=>(Z P h).2.2.2.1 rfl
   have j4: ¬dD o id:=λh=>(Z id h).2.2.2.2.2.2.1 rfl
   have g2:a8.get P=some (.cells false [o]):=by rw[p2.old P om (ap P h0),a9.get P om];exact e0
   have i5:a8.get id=some (.loop (oV r)):=by rw[p2.old id om (ap id j4),a9.get id om,fw.get id om (λe=>a6.nW (e▸d1)),ft.get id om,fs.get id om];exact gb
   simp(disch:=omega)only[go_sem,H.aF e0,bZ Y (z:= .aE) wx.1 wx.2.1,d8,i7,a2,g2,pt];refine oP iB b8 (by rw[H.aH _ om];exact i5) ⟨rfl,l++ [x],by rw[iA];omega,?_⟩;obtain⟨vn,c6⟩:=exI (V.sl d7.next 0 (a1.length+1) (.un 1));rw[c6];obtain⟨hz,a3⟩:=exI ((a8.set P (some (.cells false [vn]))).set id (some (.loop r)));rw[a3];have nz:hz.next=a8.next:=by rw[←a3];rfl
   have oz: ∀q,q<Y.next->q≠P->q≠id-> ¬dD o q->hz.get q=Y.get q:=λq A d h3 h4=>by
    rw[←a3,H.aH _ h3,H.aH _ d,p2.old q om (ap q h4),a9.get q om]
   have a7: ∀q,q<ha.next->q≠P->q≠id->q≠D-> ¬dD o q->hz.get q=ha.get q:=λq A d h3 h4 h5=>by
    rw[oz q om d h3 h5,b7 q A h3 h4]
   have bn: ∀q,dD vn q->q=d7.next:=λq ⟨K,m,c,e⟩=>by rw[←c6] at e;cases e;rfl
   have nb: ∀q,(q=P4∨q=C1∨q=C2)-> ¬dD o q:=λq N h=>by
    obtain⟨_,_,b3,_,b5,b6,_⟩:=Z q h;rcases N with e|e|e
    ·exact b3 e
    ·exact b5 e
    ·exact b6 e
   have i4:P4≠D:=om
   have Fz:Fx (λq=>q=D∨q=P∨q=id∨dD o q) ha hz:=⟨om,λq A d=>a7 q A (λe=>d (.inr (.inl e))) (λe=>d (.inr (.inr (.inl e)))) (λe=>d (.inl e)) λe=>d (.inr (.inr (.inr e)))⟩
   refine⟨⟨vn,a1++ [w],by rw[←a3,H.aH _ om,H.aS],?_,?_,?_,λq N=>?_⟩,?_,?_,?_,by rw[←a3,H.aS],⟨by have:=j0.fr.next;omega,λq N=>?_⟩,om,⟨t++ [x],by rw[el,rS],?_,?_⟩,?_,?_⟩
   ·rw[←c6]
    exact (p2.own om rfl (fR _)).mono om λq K m c e _ _=>by
     cases e;rw[←a3,H.aH _ om,H.aH _ om]
   ·refine aM.append (aM.mono (λv y p=>PV.go p Fz λq A d=>?_) f0) ⟨?_,trivial⟩
    ·rcases d with h|h|h|h
     ·exact .inl h
     ·exact .inr (.inl h)
     ·exact .inr (.inr (.inl h))
     ·have:=bn q h;omega
    ·have j1:Fx (λq=>q<ha.next) G hz:=⟨om,λq A d=>by
      have d: ¬q<ha.next:=d
      rw[oz q om om om (λh=>d (Z q h).2.2.2.2.2.2.2),fw.get q om (by show q≠D;omega),ft.get q om,fs.get q om,ob q om]⟩
     refine PV.go pw j1 λq A d=>?_
     show q<ha.next;rcases d with h|h|h|h
     ·omega
     ·omega
     ·omega
     ·have:=bn q h;omega
   ·refine (bw.go (W':=λq=>q<h.next∨q=P∨q=id∨dD vn q) ⟨om,λq A d=>?_⟩ λq A d=>?_).congr λy=>agG a0 X y
    ·rw[a4] at d
     exact oz q A (λe=>d (.inr (.inl e))) (λe=>d (.inr (.inr (.inl e)))) λe=>d (.inr (.inr (.inr e)))
    ·rw[a4]
     rcases d with h|h|h|h
     ·exact .inl h
     ·exact .inr (.inl h)
     ·exact .inr (.inr (.inl h))
     ·have:=bn q h;omega
   ·have:=bn q N
    have:=j0.fr.next;omega
   ·rw[a7 P4 om om om i4 (nb _ (.inl rfl))];exact j0.g4
   ·rw[a7 C1 om om om om (nb _ (.inr (.inl rfl)))];exact j0.c1
   ·rw[a7 C2 om om om om (nb _ (.inr (.inr rfl)))];exact j0.c2
   ·rw[a7 q (by have:=j0.fr.next;omega) om om om (λh=>by have:=(Z q h).1;omega)];exact j0.fr.get q N
   ·refine List.nodup_append.2 ⟨tN,(by simp),λa ha b hb e=>?_⟩
    rw[List.mem_singleton.1 hb] at e;exact i9 (cG.of a0 (by rw[el];exact kT.2 (.inr (e▸ha))))
   ·intro g hg
    exact (kT.1 hg).elim (tP g) λh=>by rw[List.mem_singleton.1 h];exact X
   ·intro g hg
    rcases kT.1 hg with h|h
    ·exact j0.nc g h
    ·rw[List.mem_singleton.1 h,←hx]
     exact NC.cj (j0.nc _ (aW b0)) (aW f4)
   ·intro i' k' l5 A d
    by_cases e:i'=i/\k'=k
    ·obtain⟨rfl,rfl⟩:=e
     rw[Xl b0,hx];exact cG.of (λg hg=>(kT.1 hg).elim (a0 g) λh=>by rw[List.mem_singleton.1 h];exact X) (kT.2 (.inr (List.mem_singleton.2 rfl)))
    ·have a5:i'<l.length:=om
     rw[Xl a5];exact adK (j0.cj i' k' om a5 d)
 ·rintro _ G ⟨l,j⟩
  refine⟨r,j.gr,by rw[iB];simp,?_⟩
  have en:r.pend.getD .norm= .norm:=by rw[b8];rfl
  rw[en]
  have nx:=j.nx
  obtain⟨o,a1,gP,ow,pv,bd,bl⟩:=j.ex
  have j9:(G.set id (some (.loop {r with st:= .out}))).get P4=some (.cells false [.ptr D 0]):=by rw[H.aH _ om];exact j.g4
  simp(disch:=omega)only[go_sem,H.aF j9]
  have fz:Fx (λq=>q<h.next∨q=P∨q=id∨dD o q) G (G.set id (some (.loop {r with st:= .out}))):=Fx.set (W:=λq=>q<h.next∨q=P∨q=id∨dD o q) _ (.inr (.inr (.inl rfl))) _
  refine⟨D,rfl,hD,?_,j.fr.set om _⟩
  refine ((bd.fx fz).congr λx=>NI c9 b4 (c7 _ _ _ _ j) ?_ j.nc ?_ x).iP ?_
  ·intro g hg
   obtain⟨t,e,_⟩:=j.pre
   rw[e];exact kT.2 (.inl hg)
  ·intro x hx b hb
   obtain⟨i',a5,rfl⟩:=wV.1 hx
   obtain⟨k',d2,rfl⟩:=wV.1 hb
   have:=j.cj i' k' (.inl a5) a5 d2
   rwa [←mG a5,←mG d2] at this
  ·exact λq _ h=> .inl h
theorem GC.one {W:Nat->Prop}{h:H}{a b:V}{d:Int}{n:Nat}{O:LN}{R:fM}{G:List Nat->Prop}(g:GC W h (.agg [aC d,a,b]) n O R G):d=(n:Int)/\a.one=true/\b.one=true:=by
 obtain⟨_,_,_,_,e,f,_,_,c,_,_⟩:=g.cw;cases e;exact⟨rfl,(SV.cF f).2.1,(SV.cF c).2.1⟩
theorem GC.shape {W:Nat->Prop}{h:H}{a:V}{n:Nat}{O:LN}{R:fM}{G:List Nat->Prop}(g:GC W h a n O R G): ∃vO vR,a= .agg [aC n,vO,vR]/\vO.one=true/\vR.one=true:=by
 obtain⟨vO,vR,_,_,e,c,_,_,b,_,_⟩:=g.cw;exact⟨vO,vR,e,(SV.cF c).2.1,(SV.cF b).2.1⟩
theorem SY {W W':Nat->Prop}(t s:V)(n:Nat)(O Z:LN)(R Y:fM)(G G':List Nat->Prop)(h:H)(r:GC W h t n O R G)(x:GC W' h s n Z Y G'):
  Ev T 121 [t,s] h (λv h'=>v= aC 0/\Fr h h'):=by
 obtain⟨k,i,rfl,P,y⟩:=r.shape
 obtain⟨g,j,rfl,Q,A⟩:=x.shape
 refine cT An rfl ?_
 obtain⟨B,l⟩:=exI h.next
 obtain⟨L,J,m,N,o1,f1⟩:=cU l [aC n,k,i]
 obtain⟨c,F,n2,g2,z,K⟩:=cU m [aC n,g,j]
 have F2:=f1.trans K
 have p: ∀b,Fr c b->b.get B=aY [aC n,k,i]:=λb f=>by rw[f.get B om,z B om];exact N
 have q: ∀b,Fr c b->b.get (B+1)=aY [aC n,g,j]:=λb f=>by rw[f.get (B+1) om];exact g2
 have r2:=Fr.refl c
 simp(disch:=omega)only[go_sem,An,aD,aQ h (v:= aC n) (u:=k) (w:=i) rfl P y,l,J,aQ L (v:= aC n) (u:=g) (w:=j) rfl Q A,m,F,aG (p c r2)]
 refine ((r.mono F2).check).mono ?_
 rintro _ h3 ⟨rfl,e⟩
 simp(disch:=omega)only[go_sem]
 refine bA (λd=>(d rfl).elim) (λ_=>?_)
 simp(disch:=omega)only[go_sem,aG (q h3 e)]
 refine ((x.mono (F2.trans e)).check).mono ?_
 rintro _ o ⟨rfl,U⟩
 have a:=e.trans U
 simp(disch:=omega)only[go_sem]
 refine bA (λd=>(d rfl).elim) (λ_=>?_)
 have d1:decide ((n:Int)≠(n:Int))=false:=bE (λh=>h rfl)
 simp(disch:=omega)only[go_sem,H.aF (p o a),H.aF (q o a),d1]
 exact F2.trans a
def BY (A B:LN):LN:=A.flatMap λp=>B.map (iQ p)
theorem Cd {A B:LN}{x:List Nat}:x∈BY A B↔ ∃p,p∈A/\ ∃q,q∈B/\x=iQ p q:=by
 unfold BY;simp only[List.mem_flatMap,vF];exact⟨λ⟨p,hp,q,hq,e⟩=>⟨p,hp,q,hq,e.symm⟩,λ⟨p,hp,q,hq,e⟩=>⟨p,hp,q,hq,e.symm⟩⟩
theorem Ff (A B:LN):(BY A B).length=A.length*B.length:=by
 induction A with
 |nil=>simp [BY]
 |cons a A ih=>
  unfold BY at ih ⊢;rw[List.flatMap_cons,iA,ih,iN,List.length_cons,Nat.succ_mul,Nat.add_comm]
def BU (A B:LN)(i k:Nat):LN:=BY (A.take i) B++(B.take k).map (iQ (A.getD i []))
theorem Zv (A B:LN){i k:Nat}(a:k<B.length):BU A B i (k+1)=BU A B i k++ [iQ (A.getD i []) (B.getD k [])]:=by
 unfold BU;rw[dE [] a,List.map_append,←rS];rfl
theorem GS (A B:LN){i:Nat}(hi:i<A.length):BU A B i B.length=BU A B (i+1) 0:=by
 unfold BU;rw[List.take_length,List.take_zero,List.map_nil,tD,dE [] hi];unfold BY;rw[List.flatMap_append];simp
theorem GY (A B:LN):BU A B A.length 0=BY A B:=by
 unfold BU;rw[List.take_length,List.take_zero,List.map_nil,tD]
theorem JG {A B:LN}{i k:Nat}(hi:i<=A.length)(a:k<=B.length):(BU A B i k).length<=(A.length+1)*B.length:=by
 unfold BU;rw[iA,Ff,Cq,iN,Cq,Nat.min_eq_left hi,Nat.min_eq_left a,Nat.succ_mul];have:=Nat.mul_le_mul_right B.length hi;omega
section
variable {h:H} {v:V} {ws:List V} {b k n:Nat} {A S Q:LN} {y x:List Nat}
def NR (h:H)(v:V)(ws:List V)(b:Nat):Prop:= ∃id cap rest,v= .sl id 0 ws.length cap/\b<=id/\id<h.next/\h.get id=aY (ws++rest)/\(cap= .un 1∨cap= .kn 1/\ws.length+rest.length=1)
theorem NR.sv (t:NR h v ws b):SV h v 1 ws:=by
 obtain⟨id,a,c,rfl,f,d,e,_⟩:=t;exact .inr ⟨id,0,_,a,false,_,rfl,(uH _).symm,d,e,by rw[iA];omega,by rw[List.drop_zero,uH,List.take_left' rfl]⟩
theorem NR.zI {h':H}(t:NR h v ws b)(l:h.next<=h'.next)(f: ∀id,dD v id->h'.get id=h.get id):NR h' v ws b:=by
 obtain⟨id,c,a,e,d,j,g,i⟩:=t;exact⟨id,c,a,e,d,om,by rw[f id ⟨_,_,_,e⟩];exact g,i⟩
theorem NR.in (t:NR h v ws b){id:Nat}(f:dD v id):b<=id/\id<h.next:=by
 obtain⟨i,d,a,rfl,c,g,_⟩:=t;obtain⟨_,_,_,e⟩:=f;cases e;exact⟨c,g⟩
theorem NR.push {y:V}{S:Nat}{c:pF}(t:NR h v ws b)(o:SV h (.sl S 0 1 c) 1 [y])(r:b<=h.next)(N:ws.length<1000000):
  ∃v' h',yE h 1 24 v (.sl S 0 1 c)=some (v',h')/\NR h' v' (ws++ [y]) b/\(∀k,k<h.next-> ¬dD v k->h'.get k=h.get k)/\h.next<=h'.next/\h'.next<=h.next+1/\ ∀k,dD v' k->dD v k∨k=h.next:=by
 have w:yE h 1 24 v (.sl S 0 1 c)=Ay.yA h 1 24 v 1 [y]:=by
  simp only[yE,o.len (n:=1) rfl om,o.slice]
 rw[w]
 have q:=t.sv
 have f:=q.len (n:=ws.length) om om
 have m:=q.slice
 obtain⟨id,i,d,rfl,B,J,p,L⟩:=t
 unfold Ay.yA
 simp only[f,m]
 rw[bL om,bJ ⟨om,om⟩]
 have a: ∀g:H,g.next=h.next->(∀k,k<h.next->k≠id->g.get k=h.get k)-> ∃v' h',some (V.sl h.next 0 (ws.length+1) (.un 1),g.new (.cells false (ws++ [y])))=some (v',h')/\NR h' v' (ws++ [y]) b/\(∀k,k<h.next-> ¬dD (.sl id 0 ws.length i) k->h'.get k=h.get k)/\h.next<=h'.next/\h'.next<=h.next+1/\ ∀k,dD v' k->dD (.sl id 0 ws.length i) k∨k=h.next:=by
  intro g G K;refine⟨_,_,rfl,⟨h.next,_, [],by rw[iA];rfl,r,by rw[H.aU];omega,by rw[←G,H.aL,tD],.inl rfl⟩,λk j l=>?_,by rw[H.aU];omega,by rw[H.aU];omega,λk ⟨_,_,_,e⟩=>by cases e;exact .inr rfl⟩;rw[H.bD g om];exact K k j (λe=>l ⟨_,_,_,by rw[e]⟩)
 rcases L with rfl|⟨rfl,u⟩
 ·simp only[p,if_true]
  exact a (h.set id none) rfl (λk _ j=>H.aH h j none)
 ·simp only
  by_cases e:ws.length+1<=1
  ·rw[bJ e]
   have s:ws= []:=WE om
   subst s
   obtain⟨z,rfl⟩: ∃z,d= [z]:=List.length_eq_one_iff.1 (by simpa using u)
   have F:h.put id (0+([]:List V).length*1) [y]=some (h.set id (aY [y])):=by
    simp [H.put,p,putAt]
   rw[F]
   refine⟨_,_,rfl,⟨id,_, [],rfl,B,J,by rw[H.aS];rfl,.inr ⟨rfl,rfl⟩⟩,λk j l=>H.aH h (λe=>l ⟨0,0,.kn 1,by rw[e];rfl⟩) _,eH _,Nat.le_succ _,λk ⟨_,_,_,e⟩=>by cases e;exact .inl ⟨_,_,_,rfl⟩⟩
  ·rw[bL e]
   exact a h rfl (λ_ _ _=>rfl)
def DX (A:LN)(k:Nat)(y:List Nat):LN:=A.take k++y::A.drop k
theorem nZ {z:List Nat}:z∈DX A k y↔z=y∨z∈A:=by
 unfold DX;rw[kT,Gr];constructor
 ·rintro (h|h|h)
  ·exact .inr (List.mem_of_mem_take h)
  ·exact .inl h
  ·exact .inr (List.mem_of_mem_drop h)
 ·rintro (h|h)
  ·exact .inr (.inl h)
  ·rw[←List.take_append_drop k A,kT] at h
   rcases h with h|h
   ·exact .inl h
   ·exact .inr (.inr h)
theorem UE {a b:List Nat}(A:bC n a)(B:bC n b)(s: ¬Lt a b)(h2:a≠b):Lt b a:=by
 have h: ∃i,i<n/\a.getD i 0≠b.getD i 0:=Kh λh=>h2 (yM (by rw[A.len,B.len]) λi hi=>Kh λf=>h ⟨i,by rw[←A.len];exact hi,f⟩)
 obtain⟨i,hi,c⟩:=h
 have q: ∃i,(i<n/\a.getD i 0≠b.getD i 0)/\ ∀j,j<i-> ¬(j<n/\a.getD j 0≠b.getD j 0):=by
  revert hi c
  induction i using Nat.strongRecOn with
  |ind i ih=>
   intro hi c
   by_cases h: ∃j,j<i/\j<n/\a.getD j 0≠b.getD j 0
   ·obtain⟨j,f,g,r⟩:=h
    exact ih j f g r
   ·exact⟨i,⟨hi,c⟩,λj d m=>h ⟨j,d,m⟩⟩
 obtain⟨k,⟨o,l⟩,e⟩:=q;have p: ∀j,j<k->a.getD j 0=b.getD j 0:=λj d=>Kh λf=>e j d ⟨om,f⟩
 rcases Nat.lt_or_gt_of_ne l with g|g
 ·exact (s ⟨k,by rw[A.len];exact o,p,g⟩).elim
 ·exact⟨k,by rw[B.len];exact o,λj d=>(p j d).symm,g⟩
theorem XQ (l: ∀x∈A,bC n x)(Y:bC n y)(c:A.Pairwise Lt)(p:Plc A y k)(s:y∉A):(DX A k y).Pairwise Lt:=by
 unfold DX;rw[List.pairwise_append];have at': ∀{z:List Nat},z∈A.take k-> ∃i,i<k/\i<A.length/\A.getD i []=z:=λh=>(Nj (d:= [])).1 h
 have r: ∀{z:List Nat},z∈A.drop k-> ∃i,k<=i/\i<A.length/\A.getD i []=z:=λh=>by
  obtain⟨q,o,e⟩:=wV.1 h;rw[BM] at o;rw[List.getElem_drop] at e;exact⟨k+q,om,om,by rw[List.getD,dF om,←e];rfl⟩
 have m: ∀z∈A.take k,Lt z y:=λz a=>by
  obtain⟨i,j,f,rfl⟩:=at' a;exact (Bz (by rw[(l _ (aW f)).len,Y.len])).1 (p.lo i j)
 have hi: ∀z∈A.drop k,Lt y z:=λz a=>by
  obtain⟨i,j,f,rfl⟩:=r a;have Z:=l _ (aW (d:= []) f);refine UE Z Y (λh=>?_) (λe=>s (by rw[←e];exact aW f));have:=p.hi i j f;rw[(Bz (by rw[Z.len,Y.len])).2 h] at this;cases this
 refine⟨c.sublist (List.take_sublist k A),List.pairwise_cons.2 ⟨hi,c.sublist (List.drop_sublist k A)⟩,λz a w g=>?_⟩;rcases Gr.1 g with rfl|g
 ·exact m z a
 ·have Z:=l z (List.mem_of_mem_take a)
  exact Lt.trans (by rw[Z.len,Y.len]) (m z a) (hi w g)
structure ElJ (n:Nat)(S A Q:LN):Prop where
 asc:A.Pairwise Lt
 gen: ∀x∈A,cG n (· ∈S) x
 one:bT n∈A
 sub: ∀x∈Q,x∈A
 cl: ∀x∈A,x∉Q-> ∀g∈S,aX x g∈A
theorem ElJ.start (n:Nat)(S:LN):ElJ n S [bT n] [bT n]:=
 ⟨List.pairwise_singleton _ _,λx a=>by simp at a;subst a;exact .one,by simp,λx a=>a,λx a h=>absurd a h⟩
theorem ElJ.done (j:ElJ n S A []):dZ (cG n (· ∈S)) A:=by
 refine⟨j.asc,λx=>⟨j.gen x,λh=>?_⟩⟩
 induction h with
 |one=>exact j.one
 |mul _ hg ih=>exact j.cl _ ih List.not_mem_nil _ hg
structure YH (n:Nat)(S:LN)(x:List Nat)(i:Nat)(A Q:LN):Prop where
 asc:A.Pairwise Lt
 gen: ∀x∈A,cG n (· ∈S) x
 one:bT n∈A
 sub: ∀x∈Q,x∈A
 mem:x∈A
 cl: ∀z∈A,z∉Q->z=x∨ ∀g∈S,aX z g∈A
 dn: ∀j,j<i->aX x (S.getD j [])∈A
theorem YH.start (j:ElJ n S A (Q++ [x])):YH n S x 0 A Q:=
 ⟨j.asc,j.gen,j.one,λz a=>j.sub z (by simp [a]),j.sub x (by simp),λz a c=>by
  by_cases e:z=x
  ·exact .inl e
  ·exact .inr (j.cl z a (by simp [c,e])),λj d=>om⟩
theorem YH.done (j:YH n S x S.length A Q):ElJ n S A Q:=
 ⟨j.asc,j.gen,j.one,j.sub,λz d c g a=>by
  rcases j.cl z d c with rfl|h
  ·obtain⟨i,hi,e⟩:=wV.1 a
   have:=j.dn i hi;rwa [List.getD,dF hi,Option.getD_some,e] at this
  ·exact h g a⟩
theorem YH.skip {i:Nat}(j:YH n S x i A Q)(h:aX x (S.getD i [])∈A):YH n S x (i+1) A Q:=
 ⟨j.asc,j.gen,j.one,j.sub,j.mem,j.cl,λk a=>by
  by_cases e:k=i
  ·rw[e];exact h
  ·exact j.dn k om⟩
theorem YH.step {i:Nat}(j:YH n S x i A Q)(l: ∀g∈S,bC n g)(hi:i<S.length)(h:aX x (S.getD i [])∉A)(p:Plc A (aX x (S.getD i [])) k):YH n S x (i+1) (DX A k (aX x (S.getD i []))) (Q++ [aX x (S.getD i [])]):=by
 have m:=j.gen x j.mem;have d:cG n (· ∈S) (aX x (S.getD i [])):=m.mul (aW hi);obtain⟨y,f⟩:=exI (aX x (S.getD i []));rw[f] at d h p ⊢;refine⟨XQ (λz a=>(j.gen z a).cX l) (d.cX l) j.asc p h,λz a=>?_,nZ.2 (.inr j.one),λz a=>?_,nZ.2 (.inr j.mem),λz a c=>?_,λq c=>?_⟩
 ·rcases nZ.1 a with rfl|a
  ·exact d
  ·exact j.gen z a
 ·rcases kT.1 a with a|a
  ·exact nZ.2 (.inr (j.sub z a))
  ·simp at a;exact nZ.2 (.inl a)
 ·rcases nZ.1 a with rfl|a
  ·exact absurd (by simp) c
  ·rcases j.cl z a (λh=>c (by simp [h])) with e|r
   ·exact .inl e
   ·exact .inr λg o=>nZ.2 (.inr (r g o))
 ·by_cases e:q=i
  ·rw[e,f];exact nZ.2 (.inl rfl)
  ·exact nZ.2 (.inr (j.dn q om))
theorem dW.DX {W:Nat->Prop}{c:List V}(p:dW W h c A)(q:PV W h v y)(g:k<=A.length):dW W h (c.take k++v::c.drop k) (Go.Proofs.YtcdbmkidaecdiaaGreat.DX A k y):=by
 have f:=aM.length p
 have t: ∀(k:Nat) (c:List V) (A:LN),dW W h c A->dW W h (c.take k) (A.take k)/\dW W h (c.drop k) (A.drop k):=by
  intro k
  induction k with
  |zero=>intro c A p;exact⟨trivial,p⟩
  |succ k ih=>
   intro c A p
   cases c with
   |nil=>cases A with
    |nil=>exact⟨trivial,trivial⟩
    |cons=>exact p.elim
   |cons a c=>cases A with
    |nil=>exact p.elim
    |cons b A=>
     obtain⟨d,e⟩:=ih c A p.2
     exact⟨⟨p.1,d⟩,e⟩
 obtain⟨d,e⟩:=t k c A p;exact d.append ⟨q,e⟩
theorem NR.own (t:NR h v ws b)(j:0<ws.length):cQ h v 1 ws b:=by
 obtain⟨id,c,a,rfl,f,g,i,d⟩:=t;refine .inr ⟨id,ws.length,c,a,rfl,(uH _).symm,?_,f,g,i⟩;rcases d with d|⟨rfl,l⟩
 ·exact .inl d
 ·have e:ws.length=1:=om
  exact .inr ⟨by rw[e],WE om⟩
end
section
variable {n:Nat} {G:List Nat->Prop} {L:LN} {K:List Nat}
variable (hG:iJ n G) (E:dZ G L) (k:Cn n G L K)
include hG E k
end
section
variable {n:Nat} {G:List Nat->Prop} {L:LN}
variable (hG:iJ n G) (E:dZ G L)
include hG E
end
set_option maxRecDepth 100000
set_option maxRecDepth 100000
set_option maxRecDepth 100000
def wrC (C:LN)(k s j:Nat):Prop:=(∃q,q<k/\j∈C.getD q [])∨j∈(C.getD k []).take s
open Classical in
noncomputable def OO (C:LN)(x:List Nat)(k s j:Nat):V:=if wrC C k s j then aC (x.getD j 0:Nat) else aC 0
section
variable {O:List (List Int)} {R:List (List (List Int))}
theorem sK {h:H}{v:V}(s:SR h v O):bF v=some (aC (O.length:Int))/\dB v v=true/\v.cells= [v]/\v.one=true/\ ∃(id off:Nat) (ws:List V),Sl v 1 O.length id off/\ ∀i,i<O.length->id<h.next/\h.cell id (off+i)=some (ws.getD i V.undef)/\SI h (ws.getD i V.undef) (O.getD i []):=by
 have e:=s.lens;obtain⟨ws,sv,b⟩:=s;have f:=aM.length b;obtain⟨id,off,d,a,c⟩:=SV.shape sv O.length om om;exact⟨e,SV.dB sv,(SV.cF sv).1,(SV.cF sv).2.1,id,off,ws,d,λi hi=>⟨a om,by rw[c i om];simp [List.getD,show i<ws.length by omega],Vy b hi⟩⟩
theorem Ao {h:H}{v:V}(s:SRR h v R):bF v=some (aC (R.length:Int))/\dB v v=true/\v.cells= [v]/\v.one=true/\ ∃(id off:Nat) (ws:List V),Sl v 1 R.length id off/\ ∀i,i<R.length->id<h.next/\h.cell id (off+i)=some (ws.getD i V.undef)/\SR h (ws.getD i V.undef) (R.getD i []):=by
 obtain⟨ws,sv,b,_⟩:=s;have e:=aM.length b;obtain⟨id,off,d,a,c⟩:=SV.shape sv R.length om om;refine⟨by unfold bF;rw[SV.len sv (n:=R.length) om om];rfl,SV.dB sv,(SV.cF sv).1,(SV.cF sv).2.1,id,off,ws,d,λi hi=>⟨a om,by rw[c i om];simp [List.getD,show i<ws.length by omega],?_⟩⟩;have:=aM.get b i om hi;rw[List.getD,List.getD,dF (show i<ws.length by omega),dF hi];exact this
structure FrR (n:Nat)(O:List (List Int))(R:List (List (List Int)))(i k:Nat):Prop where
 row: ∀j,j<i->(O.getD j []).length<=n/\(O.getD j []).length=(R.getD j []).length
 perm: ∀j,j<i-> ∀x∈R.getD j [],x.length=n/\mC x=true
 last: ∀x∈(R.getD i []).take k,x.length=n/\mC x=true
theorem FrR.nat {n:Nat}(f:FrR n O R n 0)(j:R.length=n): ∃R':fM,R=R'.map (List.map zi)/\ ∀g∈R'.flatten,bC n g:=by
 have a: ∀r∈R,∀x∈r,x.length=n/\mC x=true:=λr c x b=>by
  obtain⟨i,hi,rfl⟩:=wV.1 c;exact f.perm i om x (by rw[List.getD,dF hi];exact b)
 refine⟨R.map (List.map (List.map Int.toNat)),?_,λg d=>?_⟩
 ·rw[List.map_map]
  refine (List.map_id R).symm.trans (Wd λr c=>?_);show r=(r.map (List.map Int.toNat)).map zi;rw[List.map_map];exact (List.map_id r).symm.trans (Wd λx b=>(Kb (a r c x b).2).1)
 ·obtain⟨h,e,d⟩:=List.mem_flatten.1 d
  obtain⟨r,c,rfl⟩:=vF.1 e;obtain⟨x,b,rfl⟩:=vF.1 d;have:=(Kb (a r c x b).2).2;rwa [(a r c x b).1] at this
theorem FrR.next {n:Nat}{i k:Nat}(f:FrR n O R i k)(c:(R.getD i []).length<=k)(d:(O.getD i []).length<=n)(h2:(O.getD i []).length=(R.getD i []).length):FrR n O R (i+1) 0:=by
 have b:=f.last;rw[Lq c] at b;refine⟨λj g=>?_,λj g=>?_,λx a=>by rw[List.take_zero] at a;cases a⟩
 ·by_cases e:j=i
  ·subst e;exact⟨d,h2⟩
  ·exact f.row j om
 ·by_cases e:j=i
  ·subst e;exact b
  ·exact f.perm j om
theorem HI {x:List Int}(a:1<=x.length)(h2:x.length<=64):Sb x=0↔mC x=true:=by
 unfold Sb;rw[bL om];constructor
 ·intro h
  split at h
  ·assumption
  ·omega
 ·intro h;rw[bJ h]
theorem Rf (vc:V)(d:Int)(O:List (List Int))(R:List (List (List Int)))(h:H)(hc:Ig h vc d O R)(hd:d<=7∨64<d)(so:jK O)(sr:lK R):
  Ev T 95 [vc] h (λv h'=>v= aC (jL d O R)/\Fr h h'):=by
 have c9:=hc
 obtain⟨vO,vR,rfl,sO,sR⟩:=hc
 refine cT kC rfl ?_
 obtain⟨lO,e2,_,a3,c3,a5,b1,a0,cO⟩:=sK sO
 obtain⟨lR,e0,_,b7,b9,b5,b2,q,cR⟩:=Ao sR
 obtain⟨B,hB⟩:=exI h.next
 obtain⟨b,e1,n1,g1,o1,p⟩:=cU hB [aC d,vO,vR]
 have c0: ∀a,Fr b a->a.cell B 0=some (aC d):=λa f=>by rw[f.cell om,H.aF g1];rfl
 have c1: ∀a,Fr b a->a.cell B 1=some vO:=λa f=>by rw[f.cell om,H.aF g1];rfl
 have K: ∀a,Fr b a->a.cell B 2=some vR:=λa f=>by rw[f.cell om,H.aF g1];rfl
 have rB: ∀a,Fr b a->a.row B 0 3=some [aC d,vO,vR]:=λa f=>aG (by rw[f.get B om];exact g1)
 have bx:=aQ h (v:= aC d) (u:=vO) (w:=vR) rfl a3 b7
 by_cases a1:d<1
 ·have x1:=bN a1
  simp(disch:=omega)only[go_sem,kC,aD,bx,hB,e1,c0 b (Fr.refl _),x1]
  exact⟨by unfold jL;rw[bJ (.inl a1)],p⟩
 have x1:=bE a1
 by_cases a2:64<d
 ·have x2:=bN a2
  simp(disch:=omega)only[go_sem,kC,aD,bx,hB,e1,c0 b (Fr.refl _),x1,x2]
  exact⟨by unfold jL;rw[bJ (.inr a2)],p⟩
 have x2:=bE a2
 obtain⟨n,rfl⟩: ∃n:Nat,d=(n:Int):=⟨d.toNat,om⟩
 have G:1<=n:=om
 have c7:n<=7:=om
 by_cases d7:O.length=n
 case neg=>
  have x3:decide ((O.length:Int)≠(n:Int))=true:=bN om;simp(disch:=omega)only[go_sem,kC,aD,bx,hB,e1,c0 b (Fr.refl _),x1,x2,c1 b (Fr.refl _),lO,x3];exact⟨by rw[xA G om (λf=>d7 f.lo)],p⟩
 have x3:decide ((O.length:Int)≠(n:Int))=false:=bE om
 by_cases b0:R.length=n
 case neg=>
  have x4:decide ((R.length:Int)≠(n:Int))=true:=bN om;simp(disch:=omega)only[go_sem,kC,aD,bx,hB,e1,c0 b (Fr.refl _),x1,x2,c1 b (Fr.refl _),lO,x3,K b (Fr.refl _),lR,x4];exact⟨by rw[xA G om (λf=>b0 f.lr)],p⟩
 have x4:decide ((R.length:Int)≠(n:Int))=false:=bE om
 simp(disch:=omega)only[go_sem,kC,aD,bx,hB,e1,c0 b (Fr.refl _),x1,x2,c1 b (Fr.refl _),lO,x3,K b (Fr.refl _),lR,x4]
 have Y: ¬OT n O R->jL (n:Int) O R=3:=xA G om
 refine aI (λk' l a=> ∃(i:Nat) (J:V) (A:List V),(∃g:Nat->V,l= [g 0,.ptr B 0,g 2,aC n,J,aC i,g 6,g 7,g 8,g 9,g 10,g 11,g 12,g 13,g 14,g 15])/\i<=n/\cQ a J 1 A b.next/\aM (SI b) A (R.take i).flatten/\FrR n O R i 0/\Fr b a/\k'=n-i) n
   ⟨0,.aE, [],aB rfl,fR _,cQ.aE _ _ _,trivial,⟨λj hj=>om,λj hj=>om,λx Z=>by rw[List.take_zero] at Z;cases Z⟩,Fr.refl b,rfl⟩ ?_
 rintro k' l e ⟨i,J,A,⟨g,rfl⟩,hi,ow,t,fr,F,rfl⟩
 by_cases b4:(i:Int)<(n:Int)
 case pos=>
  have d1:=bN b4;have L:i<n:=om
  obtain⟨i1,ci,si⟩:=cO i om;obtain⟨j1,cj,sj⟩:=cR i om;have lo:=si.lens;have d0:=SV.dB si;obtain⟨lr,c8,_,_,c5,a4,b3,P,cr⟩:=sK sj;have W: ∀a,Fr b a->a.cell c3 (a5+i)=some (b1.getD i V.undef):=λa f=>by rw[(p.trans f).cell i1];exact ci
  have o: ∀a,Fr b a->a.cell b9 (b5+i)=some (b2.getD i V.undef):=λa f=>by rw[(p.trans f).cell j1];exact cj
  generalize b1.getD i V.undef=vo at W lo d0;generalize b2.getD i V.undef=vr at o lr c8 P sj;have d9:(R.getD i []).length<1000000:=sr.2 i om
  by_cases q1:(n:Int)<((O.getD i []).length:Int)
  case pos=>
   have y1:=bN q1;simp(disch:=omega)only[go_sem,d1,c1 e F,K e F,a0.ixa,q.ixa,W e F,o e F,lo,lr,y1];exact⟨by rw[Y λf=>by have:=f.row i L;omega],p.trans (F.bH om)⟩
  have y1:=bE q1
  by_cases q2:(O.getD i []).length=(R.getD i []).length
  case neg=>
   have y2:decide (((O.getD i []).length:Int)≠((R.getD i []).length:Int))=true:=bN om;simp(disch:=omega)only[go_sem,d1,c1 e F,K e F,a0.ixa,q.ixa,W e F,o e F,lo,lr,y1,y2];exact⟨by rw[Y λf=>by have:=f.row i L;omega],p.trans (F.bH om)⟩
  have y2:decide (((O.getD i []).length:Int)≠((R.getD i []).length:Int))=false:=bE om;have Fb:Fr b (H.mk e.tr (e.next+23)):=F.bH om;have a8:cQ (H.mk e.tr (e.next+23)) J 1 A b.next:=ow.fr ((Fr.refl e).bH om);simp(disch:=omega)only[go_sem,d1,c1 e F,K e F,a0.ixa,q.ixa,W e F,o e F,lo,lr,y1,y2];generalize (H.mk e.tr (e.next+23))=h3 at*;refine aI (λk' l a=> ∃(k:Nat) (J:V) (A:List V),(∃g:Nat->V,l= [g 0,.ptr B 0,g 2,aC n,J,aC i,aC k,g 7,g 8,g 9,g 10,g 11,g 12,g 13,g 14,g 15])/\k<=(R.getD i []).length/\cQ a J 1 A b.next/\aM (SI b) A ((R.take i).flatten++(R.getD i []).take k)/\FrR n O R i k/\Fr b a/\k'=(R.getD i []).length-k) (R.getD i []).length
   ⟨0,J,A,aB rfl,fR _,a8,by rw[List.take_zero,tD];exact t,fr,Fb,rfl⟩ ?_
  clear ow a8 t fr Fb;rintro k' l r ⟨k,J,A,⟨g,rfl⟩,hk,ow,t,fr,s,rfl⟩
  by_cases b6:(k:Int)<((R.getD i []).length:Int)
  case neg=>
   have d2:=bE b6;have a7:(R.getD i []).length<=k:=om
   rw[Lq a7,←Th om] at t;simp(disch:=omega)only[go_sem,K r s,q.ixa,o r s,lr,d2];rw[dU i];exact⟨n-(i+1),om,i+1,J,A,aB rfl,om,ow,t,fr.next a7 om q2,s,rfl⟩
  have d2:=bN b6;have N:k<(R.getD i []).length:=om
  obtain⟨k1,ck,sk⟩:=cr k N;have Q: ∀a,Fr b a->a.cell c5 (a4+k)=some (b3.getD k V.undef):=λa f=>by rw[(p.trans f).cell k1];exact ck
  generalize b3.getD k V.undef=vx at Q sk;have mx:(R.getD i []).getD k []∈R.getD i []:=aW N;obtain⟨x,Z⟩:=exI ((R.getD i []).getD k []);rw[Z] at sk mx;have lx:=sk.lens;have e5:=SV.dB sk
  by_cases q3:x.length=n
  case neg=>
   have y3:decide ((x.length:Int)≠(n:Int))=true:=bN om;simp(disch:=omega)only[go_sem,K r s,q.ixa,o r s,lr,d2,P.ixa,Q r s,lx,y3];exact⟨by rw[Y λf=>q3 (f.perm i L x mx).1],p.trans s⟩
  have y3:decide ((x.length:Int)≠(n:Int))=false:=bE om;simp(disch:=omega)only[go_sem,K r s,q.ixa,o r s,lr,d2,P.ixa,Q r s,lx,y3];refine (sN vx x _ om (sk.mono (p.trans s))).mono ?_;rintro _ h5 ⟨rfl,f5⟩;have U:=s.trans f5
  by_cases q4:Sb x=0
  case neg=>
   have y4:=bN q4;simp(disch:=omega)only[go_sem,y4];exact⟨by rw[Y λf=>q4 ((HI om om).2 (f.perm i L x mx).2)],p.trans U⟩
  have y4:decide (Sb x≠0)=false:=bE om;have ok:=(HI om om).1 q4;have a9:=t.length
  have d8:((R.take i).flatten++(R.getD i []).take k).length<=400:=by
   have b:=oM (m:=7) (R:=R) (i:=i) om (λj hj=>by have:=fr.row j hj;omega);have e:i*7<=7*7:=Nat.mul_le_mul_right 7 om;rw[iA,Cq];omega
  have one:=SV.cF sk;obtain⟨h6,a6,d4,f6,n6,o6⟩:=yB (v:=vx) (ow.fr f5) U om (bytes:=24) om;simp(disch:=omega)only[go_sem,y4,K h5 U,q.ixa,o h5 U,P.ixa,Q h5 U,bZ _ (z:= .aE) one.1 one.2.1,a6];rw[dU k];refine⟨(R.getD i []).length-(k+1),om,k+1,_,_,aB rfl,om,d4,?_,⟨fr.row,fr.perm,λy hy=>?_⟩,f6,rfl⟩
  ·rw[dE [] N,Z,←rS]
   exact t.append ⟨sk.mono p,trivial⟩
  ·rw[dE [] N,Z] at hy
   rcases kT.1 hy with hy|hy
   ·exact fr.last y hy
   ·rw[List.mem_singleton.1 hy];exact⟨q3,ok⟩
 have d1:=bE b4
 obtain rfl:i=n:=om
 rw[Lq om] at t
 obtain⟨R',eR,hP⟩:=fr.nat b0
 have eF:R.flatten=R'.flatten.map zi:=by rw[eR,List.map_flatten]
 have fl:R.flatten.length<=49:=by
  have b:=oM (m:=7) (R:=R) (i:=R.length) om (λj hj=>by have:=fr.row j om;omega);have e:R.length*7<=7*7:=Nat.mul_le_mul_right 7 om;rw[Lq om] at b;omega
 have e3:R'.flatten.length<=49:=by rw[eF,iN] at fl;exact fl
 have a9:=t.length
 have d3:=cQ.lens ow a9
 have d5:decide ((4096:Int)<(R.flatten.length:Int))=false:=bE om
 rw[eF] at t
 simp(disch:=omega)only[go_sem,d1,d3,d5]
 refine (tB J i R'.flatten e G c7 om ⟨A,ow.sv,t.mono λ_ _ x=>x.mono F⟩ hP).mono ?_
 rintro _ h3 ⟨vm,O2,R2,rfl,gc,f3⟩
 obtain⟨_,⟨uO,uR,rfl,tO,tR⟩⟩:True/\Ig h3 vm (i:Int) (O2.map zi) (R2.map (List.map zi)):=⟨trivial,gc.ch⟩
 obtain⟨_,_,_,d6,_⟩:=sK tO
 obtain⟨_,_,_,c4,_⟩:=Ao tR
 obtain⟨M,hM⟩:=exI h3.next
 obtain⟨r,e4,n4,g4,o4,f4⟩:=cU hM [aC 0,.aE,.aE]
 have e6:=f3.next
 have nF:=F.next
 have U:Fr h3 (r.set M (aY [aC i,uO,uR])):=f4.set om _
 have g5:(r.set M (aY [aC i,uO,uR])).get M=aY [aC i,uO,uR]:=H.aS ..
 simp(disch:=omega)only[go_sem,hM,e4,bI r M 0 (v:= aC i) (u:=uO) (w:=uR) rfl d6 c4,g4,bG]
 generalize r.set M (aY [aC i,uO,uR])=h5 at U g5 ⊢
 have G5:Fr b h5:=(F.trans f3).trans U
 obtain⟨b8,c6⟩:=gc.small
 simp(disch:=omega)only[go_sem,rB h5 G5,aG g5]
 refine (Ew _ _ (i:Int) (i:Int) O (O2.map zi) R (R2.map (List.map zi)) h5 (c9.mono (p.trans G5)) (Ig.mono ⟨uO,uR,rfl,tO,tR⟩ U) so b8 (sr.inn (λj hj x Z=>(fr.perm j om x Z).1) om) c6).mono ?_
 rintro _ h6 ⟨rfl,f6⟩
 have iff:=CU.iff (O:=O) G om hP gc.isc
 rw[←eR] at iff
 by_cases hq:(i:Int)=(i:Int)/\O=O2.map zi/\R=R2.map (List.map zi)
 ·have ed:=bN hq
  rw[ed]
  simp(disch:=omega)only[go_sem]
  refine⟨?_,p.trans (G5.trans f6)⟩
  unfold jL
  rw[bL om,bJ (iff.2 hq.2)]
 ·have ed:=bE hq
  rw[ed]
  simp(disch:=omega)only[go_sem]
  refine⟨?_,p.trans (G5.trans f6)⟩
  unfold jL
  rw[bL om,bL (λc=>hq ⟨rfl,iff.1 c⟩)]
end
theorem JX {W:Nat->Prop}(vc:V)(n:Nat)(O:LN)(R:fM)(G:List Nat->Prop)(h:H)(l:GC W h vc n O R G):
  Ev T 148 [vc] h (λv h'=> ∃S,v= .tup [.sl S 0 (n+1) (.kn (n+1)),.bool true]/\h.next<=S/\S<h'.next/\h'.get S=some (.cells false (rc (n+1) λj=> aC (fV O (n-j) j:Nat)))/\Fr h h'):=by
 obtain⟨Q,q,e,sO,sR⟩:=l.ch
 subst e
 refine cT Cy rfl ?_
 have p:=l.isc
 have n0:=l.n0
 have n7:=l.n7
 obtain⟨wO,tO,aO⟩:=sO
 have lO:=aO.length
 rw[iN,p.lo] at lO
 have y:=tO.cF.2.1
 have N:q.one=true:=Rd sR
 obtain⟨B,hB⟩:=exI h.next
 obtain⟨h1,e1,n1,g1,o1,f1⟩:=cU hB [aC n,Q,q]
 have bx:=aQ h (v:= aC n) (u:=Q) (w:=q) rfl y N
 have en:(n:Int)+1=((n+1:Nat):Int):=om
 have U:=pQ h1 (n+1) om
 rw[n1] at U
 obtain⟨A,x,n2,g2,o2,f2⟩:=cU n1 (rc (n+1) λ_=> aC 0)
 rw[x] at U
 have f:A.get B=some (.cells false [aC n,Q,q]):=by rw[o2 _ om];exact g1
 have pt: ∀(b:H) (S:Nat) (F:Nat->V) (k:Nat) (v:V),k<n+1->dR (some (.cells false (rc (n+1) F))) b S k [v]=some (b.set S (some (.cells false (rc (n+1) λj=>if j=k then v else F j)))):=λb S F k v Y=>by rw[bP (by rw[jE];exact Y),kX]
 obtain⟨h3,e3,n3,g3,o3⟩:=mD A (B+1) (rc (n+1) λj=>if j=n then aC 1 else aC 0)
 have o:h3.get B=some (.cells false [aC n,Q,q]):=by rw[o3 _ om];exact f
 have a5:n<n+1:=om
 simp(disch:=omega)only[go_sem,Cy,aD,bx,hB,e1,H.aF g1,en,U,H.aF f,g2,pt _ _ _ n _ a5,e3,H.aF o]
 have F3:Fr h h3:=⟨om,λk Y=>by rw[o3 _ om,o2 _ om,o1 _ om]⟩
 have a1: ∀i,i<=n->0<fV O (n-i) i/\fV O (n-i) i<=823543:=λi hi=>by
  refine⟨xX _ _ λj h1 A=>(l.row om).1,lX (EU (m:=7) om _ _ λj h1 A=>by have:=(l.row (j:=j) om).2;omega) ?_⟩;exact lX (Nat.pow_le_pow_right om (show n-i<=7 by omega)) (by decide)
 refine aI (λr c b=> ∃(i:Nat),(∃g:Nat->V,c= [g 0,.ptr B 0,g 2,g 3,.sl (B+1) 0 (n+1) (.kn (n+1)),aC ((i:Int)- 1),g 6,g 7])/\i<=n/\b.get B=some (.cells false [aC n,Q,q])/\
   b.get (B+1)=some (.cells false (rc (n+1) λj=>if i<=j then aC (fV O (n-j) j:Nat) else aC 0))/\B+1<b.next/\Fr h b/\r=i) n
  ⟨n,aB rfl,eH _,o,?_,om,F3,rfl⟩ ?_
 ·rw[g3]
  congr 2
  refine dA λj hj=>?_
  by_cases e:j=n
  ·subst e;rw[bJ rfl,bJ (eH _),Nat.sub_self];rfl
  ·rw[bL e,bL om]
 clear g3 o o3 n3 e3 h3 F3 f g2 o2 n2 x U A f2
 rintro r c h4 ⟨i,⟨g,rfl⟩,hi,gB,gS,nx,F,Y⟩
 subst Y
 by_cases z:(0:Int)<=(r:Int)- 1
 case neg=>
  have Z:=bE z;obtain rfl:r=0:=om
  simp(disch:=omega)only[go_sem,Z];refine⟨B+1,rfl,om,nx,?_,F⟩;rw[gS];congr 2
 have Z:=bN z
 obtain⟨i,rfl⟩: ∃i,r=i+1:=⟨r- 1,om⟩
 have ei:((i+1:Nat):Int)- 1=(i:Int):=om
 have eI:(i:Int)+1=((i+1:Nat):Int):=om
 rw[ei] at Z ⊢
 have a:=gE aO (i:=i) (by rw[iN,p.lo];omega) .undef []
 rw[iD zi (d:= []) (by rw[p.lo];omega)] at a
 obtain⟨a4,L,a3,a7,a2⟩:=(tO.mono F).shape n om om
 have co:h4.cell a4 (L+i)=some (wO.getD i .undef):=by rw[a2 i om,List.getD,dF om];rfl
 generalize wO.getD i .undef=vo at a co
 have lo:=a.lens
 rw[aN] at lo
 obtain⟨m,hm⟩:=exI ((O.getD i []).length)
 rw[hm] at lo
 have K:=l.row (j:=i) om
 rw[hm] at K
 have cS:h4.cell (B+1) (i+1)=some (aC ((fV O (n-(i+1)) (i+1):Nat):Int)):=by rw[qF gS om,bJ (eH _)]
 obtain⟨s,hs⟩:=exI (fV O (n-(i+1)) (i+1))
 rw[hs] at cS
 have t:=a1 (i+1) om
 rw[hs] at t
 have P:(1000000000000000000:Int).tdiv (m:Int)=((1000000000000000000/m:Nat):Int):=by
  rw[show (1000000000000000000:Int)=((1000000000000000000:Nat):Int) from rfl,Int.tdiv_eq_ediv_of_nonneg om];rfl
 have hq:100000000000000000<=1000000000000000000/m:=by
  rw[Nat.le_div_iff_mul_le om];omega
 have a9:1000000000000000000/m<=1000000000000000000:=Nat.div_le_self _ _
 have d2:decide (((1000000000000000000/m:Nat):Int)<(s:Int))=false:=bE om
 have J:(s:Int)*(m:Int)=((m*s:Nat):Int):=by rw[Int.mul_comm];rfl
 have a8:m*s<=7*823543:=Nat.mul_le_mul om t.2
 have a0:i<n+1:=om
 have a6:(m:Int)≠0:=om
 simp(disch:=omega)only[go_sem,Z,H.aF gB,a3.ixa,co,lo,eI,cS,P,a6,d2,J,gS,pt _ _ _ i _ a0]
 refine⟨i,om,i,aB rfl,om,gB,?_,om,?_,rfl⟩
 ·congr 2
  refine dA λj hj=>?_
  by_cases e:j=i
  ·subst e
   rw[bJ rfl,bJ (eH _),show n-j=(n-(j+1))+1 by omega]
   unfold fV
   rw[hm,hs]
  ·rw[bL e]
   by_cases x:i+1<=j
   ·rw[bJ x,bJ om]
   ·rw[bL x,bL om]
 ·exact (F.bH om).set om _
section
variable {n:Nat} {G:List Nat->Prop} {O:LN} {R:fM}
end
set_option maxRecDepth 100000
theorem DC {g h:H}{d v:V}{a:List V}{ls:LN}{x:List Nat}{b:Nat}(o:cQ h d 1 a g.next)(f:Fr g h)(r:a.length<1000000)(z:b<=g.next)(p:dW (λq=>q<b∨dD d q) h a ls)(pv:PV (λq=>q<b∨dD d q) h v x):
  ∃h2,yE (h.new (.cells false [v])) 1 24 d (.sl h.next 0 1 (.kn 1))=some (.sl (h.next+1) 0 (a.length+1) (.un 1),h2)/\cQ h2 (.sl (h.next+1) 0 (a.length+1) (.un 1)) 1 (a++ [v]) g.next/\dW (λq=>q<b∨dD (.sl (h.next+1) 0 (a.length+1) (.un 1)) q) h2 (a++ [v]) (ls++ [x])/\Fr g h2/\h2.next=h.next+2:=by
 obtain⟨h2,s,y,u,w,n⟩:=yB (v:=v) o f r (bytes:=24) om
 have j:Fx (λq=>q<b∨dD d q) h h2:=⟨om,λq k h2=>n q k λid i m c e t=>h2 (.inr ⟨i,m,c,t▸e⟩)⟩
 have l: ∀q,q<h.next->(q<b∨dD (.sl (h.next+1) 0 (a.length+1) (.un 1)) q)->(q<b∨dD d q):=λq k h2=>by
  rcases h2 with h2|⟨_,_,_,e⟩
  ·exact .inl h2
  ·cases e;omega
 exact⟨h2,s,y,(dW.go p j l).append (dW.one (PV.go pv j l)),u,w⟩
theorem PV.UN {h h':H}{a v:V}{d:List V}{b sz c:Nat}{x:List Nat}(o:cQ h a sz d b)(f:c<=h.next)(p:PV (λq=>q<h.next) h' v x):PV (λq=>q<c∨dD a q) h' v x:=
 p.iP λq _ e=>by
  rcases e with e|⟨_,_,_,e⟩
  ·omega
  ·exact (o.in _ _ _ _ e).1
theorem dW.fr {h h':H}{W:Nat->Prop}{vs:List V}{ls:LN}(p:dW W h vs ls)(f:Fr h h'):dW W h' vs ls:=p.mono λ_ _ x=>⟨x.si.mono f,x.off⟩
theorem GC.Pg {W:Nat->Prop}{h:H}{a:V}{n:Nat}{O:LN}{R:fM}{G:List Nat->Prop}(g:GC W h a n O R G):Ev T 95 [a] h (λv h'=>v= aC 0/\Fr h h'):=by
 obtain⟨b,sr⟩:=g.small;have:=Rf a (n:Int) (O.map zi) (R.map (List.map zi)) h g.ch (.inl (by have:=g.n7;omega)) b sr.out;rwa [g.chk] at this
end Go.Proofs.YtcdbmkidaecdiaaGreat
