/- Texts of the claim. -/
import Derived.Test.YtapfcpkecmmagaaGreatP5etoR1
import Derived.Test.YtapfcpkecmmagaaGreatDp2toP5d
import Derived.Test.YtapfcpkecmmagaaGreatP5a
set_option maxHeartbeats 32000000
namespace Go.Proofs.YtapfcpkecmmagaaGreat
open Go Go.Ay Go.Pm
set_option maxRecDepth 100000
section
variable {G:List Nat->Prop} {L:LN} {i j n:Nat} {Q:List Nat} {h:H} {v:V}
theorem of_bad (p:V)(d:Int)(O:List (List Int))(R:List (List (List Int)))(h:H)(c:ChI h p d O R)(t:d<=7∨64<d)(x:SmallO O)(sr:SmallR R)(o:chkE d O R≠0):
  Ev T 56 [p] h (λv h'=>v= .tup [.nilp,aB (chkE d O R)]/\Fr h h'):=by
 have f:=c
 obtain⟨k,g,e,A,s⟩:=c
 subst e
 refine bH c_classes_of rfl rfl ?_
 have a:k.one=true:=tH A
 have b:g.one=true:=sT s
 obtain⟨B,m⟩:=IP h.next
 obtain⟨q,z,e,r,e,l⟩:=dL m [aB d,k,g]
 have y:=bF h (v:= aB d) (u:=k) (w:=g) rfl a b
 have a:=aS r
 simp(disch:=omega)only[go_sem,c_classes_of,aF,y,m,z,a]
 refine (list_bad _ d O R q (f.mono l) t x sr o).mono ?_
 rintro _ a ⟨rfl,a⟩
 simp(disch:=omega)only[go_sem]
 refine bB (λ_=>?_) (λc=>(c o).elim)
 simp(disch:=omega)only[go_sem]
 exact l.trans a
theorem bld_group {a:V}(c:a.cells= [a])(b:a.one=true)(M N m:Nat):kU [.aD,.nilm,.aD,.aD] [(0,1,a),(1,1,.mp M),(3,1,.sl N 0 m (.kn m))]=some (.agg [a,.mp M,.aD,.sl N 0 m (.kn m)]):=by
 simp [kU,gG,putAt,c,b,show (V.mp M).cells= [V.mp M] from rfl,show (V.sl N 0 m (.kn m)).cells= [V.sl N 0 m (.kn m)] from rfl,show (V.mp M).one=true from rfl,show (V.sl N 0 m (.kn m)).one=true from rfl]
theorem box_group {a:V}(b:a.one=true)(M N m:Nat)(h:H):Bk h (.agg [a,.mp M,.aD,.sl N 0 m (.kn m)])=some (.ptr h.next 0,h.new (.cells false [a,.mp M,.aD,.sl N 0 m (.kn m)])):=rT h _ (by simp [b,show (V.mp M).one=true from rfl,show (V.sl N 0 m (.kn m)).one=true from rfl,show V.aD.one=true from rfl])
open Classical in
noncomputable def snC (G:List Nat->Prop)(L:LN)(i:Nat)(Q:List Nat)(j:Nat):Bool:=decide ((∃i0,i0<i/\cR G L i0 j)∨j∈Q)
theorem snC_iff:snC G L i Q j=true↔(∃i0,i0<i/\cR G L i0 j)∨j∈Q:=by classical unfold snC;simp only[decide_eq_true_eq]
theorem snC_zero (G:List Nat->Prop)(L:LN)(j:Nat):snC G L 0 [] j=false:=by
 rw[←Bool.not_eq_true,snC_iff];rintro (⟨a,h,_⟩|h)
 ·omega
 ·cases h
theorem snC_push {k:Nat}:snC G L i (Q++ [k]) j=if j=k then true else snC G L i Q j:=by
 by_cases e:j=k
 ·rw[aV e,snC_iff];exact .inr (by simp [e])
 ·rw[aZ e,wW,snC_iff,snC_iff]
  simp [e]
theorem loop_end {p:Nat->Option Ay.Fn}{rd:Option Nat}{a:C}{k:Nat}{b:List V}{Q:E->List V->H->Prop}(J:List V->H->Prop)(c:Wp p rd (.loop a) b h (λe v h'=>e= .exit k/\J v h'))(h2: ∀v h',J v h'->Q .norm v h'):Wp p rd (.loop a) b h (oJ k Q):=
 c.mono λe v h' x=>by
  obtain⟨rfl,x⟩:=x;rw[rQ];exact h2 v h' x
theorem Own.ge {sz id off b:Nat}{ws:List V}(o:Own h v sz ws b)(a:ws.length=n*sz)(c:0<sz)(s:Sl v sz n id off)(k:0<n):b<=id:=by
 have g:=s.ixa .i64 0 om om;rcases o.sv with ⟨_,rfl⟩|⟨f,f,len,f,f,f,e,d,_⟩
 ·have:=Nat.mul_pos k c
  simp at a;omega
 ·have f:=(o.in _ _ _ _ e).2.1
  subst e
  have e:0<len:=by
   have:=Nat.mul_pos k c;refine Nat.pos_of_ne_zero λl=>?_
   subst l;simp at d;rw[d] at a;simp at a;omega
  rw[sD om om] at g;simp only[Option.some.injEq,V.ptr.injEq] at g;omega
theorem snC_skip (k:mD n G)(E:eQ G L)(hi:i<L.length)(g: ¬isR G L i)(j:Nat):snC G L i [] j=snC G L (i+1) [] j:=by
 obtain⟨o,l,c⟩: ∃j,j<i/\cR G L j i:=Bz λf=>g λj m c=>f ⟨j,m,c⟩
 rw[wW,snC_iff,snC_iff];constructor
 ·rintro (⟨b,d,a⟩|h)
  ·exact .inl ⟨b,om,a⟩
  ·cases h
 ·rintro (⟨b,d,a⟩|h)
  ·by_cases e:b=i
   ·subst e;exact .inl ⟨o,l,cR_trans k E om c a⟩
   ·exact .inl ⟨b,om,a⟩
  ·cases h
theorem snC_done {S:LN}(l:mD n G)(E:eQ G L)(hi:i<L.length)(b:BQ G L S i Q Q.length)(k: ∀s∈S,G s)(a: ∀x,G x->fA n (λg=>g∈S) x)(m:j<L.length):snC G L i Q j=snC G L (i+1) [] j:=by
 rw[wW,snC_iff,snC_iff];constructor
 ·rintro (⟨d,f,c⟩|h)
  ·exact .inl ⟨d,om,c⟩
  ·exact .inl ⟨i,om,(b.mem j h).2⟩
 ·rintro (⟨d,f,c⟩|h)
  ·by_cases e:d=i
   ·subst e;exact .inr ((b.done l E (fH _) hi k a j).2 ⟨m,c⟩)
   ·exact .inl ⟨d,om,c⟩
  ·cases h
theorem bld_three (a:v.cells= [v])(b:v.one=true)(x y:Int):kU [.aD,aB 0,aB 0] [(0,1,v),(1,1,aB x),(2,1,aB y)]=some (.agg [v,aB x,aB y]):=by
 simp [kU,gG,putAt,a,b,show ∀z,(aB z).cells= [aB z] from λ_=>rfl,show ∀z,(aB z).one=true from λ_=>rfl]
theorem bld_class {w:V}(c:v.one=true)(b:w.cells= [w])(a:w.one=true)(x y:Int):kU [.aD,aB 0,aB 0,.aD] [(0,3,.agg [v,aB x,aB y]),(3,1,w)]=some (.agg [v,aB x,aB y,w]):=by
 simp [kU,gG,putAt,b,c,a,show ∀l,(V.agg l).cells=l from λ_=>rfl,show ∀z,(aB z).one=true from λ_=>rfl]
theorem bls_class {w:V}(b:v.one=true)(a:w.one=true)(x y:Int)(h:H):pF h 4 [.aD,aB 0,aB 0,.aD] 1 [(0,4,.agg [v,aB x,aB y,w])]=some (.sl h.next 0 1 (.kn 1),h.new (.cells false [v,aB x,aB y,w])):=by
 have e:dN [V.aD,aB 0,aB 0,.aD] 4= [V.aD,aB 0,aB 0,.aD]:=rfl;simp [pF,gG,putAt,e,b,a,show ∀l,(V.agg l).cells=l from λ_=>rfl,show ∀z,(aB z).one=true from λ_=>rfl]
theorem repsC_len (k:Nat):(repsC G L k).length<=k:=by
 classical
 unfold repsC;exact jC (List.length_filter_le _ _) (by rw[zE];exact fH _)
theorem kflat_len (ks:List Cls.KE):(Cls.kflat ks).length=ks.length*4:=by
 induction ks with
 |nil=>rfl
 |cons a r ih=>
  show (a.enc++Cls.kflat r).length=_;rw[jD,ih,List.length_cons];show 4+_=_;omega
theorem put_third {a b c d:V}(hh:H)(id:Nat)(y:V):dS (some (.cells false [a,b,c,d])) hh id 2 [y]=some (hh.set id (some (.cells false [a,b,y,d]))):=by
 simp [dS,putAt]
theorem off_lt {sz:Nat}{ws:List V}(s:SV h v sz ws):Ho (λq=>h.next<=q) v:=by
 cases v with
 |sl id off len cap=>exact λa=>by have:=s.in _ _ _ _ rfl;omega
 |_=>trivial
structure KO (n:Nat)(G:List Nat->Prop)(L:LN)(X:Nat)(W:Nat->Prop)(hh:H)(a:Cls.KE)(r:Nat):Prop where
 fst:a.fst=r
 ord:a.ord=dW (L.getD r []) n
 size:a.size=(orbC G L r).length
 rep:PV (λq=>X<=q) hh a.rep (L.getD r [])
 ranks:PV W hh a.ranks (orbC G L r)
theorem KO.go {X:Nat}{W b:Nat->Prop}{h':H}{a:Cls.KE}{r:Nat}(k:KO n G L X W h a r)(f:Fx W h h')(l:X<=h.next)(g: ∀q,W q->X<=q)(c: ∀q,q<h.next->b q->W q):KO n G L X b h' a r:=
 ⟨k.fst,k.ord,k.size,k.rep.fx ⟨f.next,λq d e=>f.get q d λd=>e (g q d)⟩,PV.go k.ranks f c⟩
structure OfJ (n:Nat)(G:List Nat->Prop)(L:LN)(X D:Nat)(vL:V)(h5:H)(i:Nat)(hh:H):Prop where
 ex: ∃vK ks W,hh.get (X+8)=some (.cells false [vL,.mp (X+3),vK,.sl (X+6) 0 L.length (.kn L.length)])/\Own hh vK 4 (Cls.kflat ks) (D+1)/\All2 (KO n G L X W hh) ks (repsC G L i)/\BlkIn W vK/\W D/\W (X+8)/\W (X+6)/\(∀q,W q->q<hh.next)/\(∀q,W q->X<=q)/\(ks= []∨ ∃id cap,vK= .sl id 0 ks.length cap/\hh.get id=some (.cells false (Cls.kflat ks)))
 gD:hh.get D=some (.cells false (rc L.length λj=> .bool (snC G L i [] j)))
 old:Fx (λq=>q=X+8∨D<=q) h5 hh
 nx:D<hh.next
def endsB (n:Nat):C->Bool
 | .block k _=>k==n
 | .seq _ b=>endsB n b
 |_=>false
def afterB (n:Nat):C->C
 | .seq a b=>if endsB n a then b else afterB n b
 |c=>c
structure OfE (n:Nat)(G:List Nat->Prop)(L:LN)(X D:Nat)(vL:V)(h h2 h5 h7:H):Prop where
 el:eQ G L
 le:L.length<=5040
 f2:Fr h h2
 x2:h2.next=X
 sp:SP h2 vL L
 f25:Fr h2 h5
 xD:X+10<=D
 n5:h5.next=D
 gM:h5.get (X+3)=some (.wmap .str (wmp L L.length))
 gN:h5.get (X+6)=some (.cells false (rc L.length λ_=> aB 0))
 j:OfJ n G L X D vL h5 L.length h7
theorem of_walk {W0:Nat->Prop}(vc:V)(n:Nat)(O:LN)(R:jL)(G:List Nat->Prop)(h:H)(gc:GC W0 h vc n O R G)(P:V->H->Prop)
  (hk: ∀L X D vL h2 h5 h7 A (g:Nat->V),cI O R n 0 (cG n)=L->OfE n G L X D vL h h2 h5 h7->Wp T none (afterB 2 c_classes_of.body) ([g 0,.ptr A 0,.nilp,aB 0,vL,g 5,.ptr (X+8) 0,g 7,g 8,g 9,g 10,g 11,g 12,g 13,g 14,g 15,g 16,g 17,g 18,g 19,g 20,g 21,g 22,g 23,g 24,g 25,g 26,g 27,g 28,g 29,g 30,g 31,g 32,g 33,g 34,g 35,g 36,g 37,g 38,g 39,g 40,g 41,g 42,g 43,g 44,g 45]) h7 (Tg c_classes_of.results P)):
  Ev T 56 [vc] h P:=by
 obtain⟨vO,vR,e,sO,sR⟩:=gc.ch
 subst e
 refine bH c_classes_of rfl rfl ?_
 have i7:vO.one=true:=tH sO
 have f4:vR.one=true:=sT sR
 obtain⟨A,hA⟩:=IP h.next
 obtain⟨d,e1,n1,g1,o1,f1⟩:=dL hA [aB n,vO,vR]
 have bx:=bF h (v:= aB n) (u:=vO) (w:=vR) rfl i7 f4
 have rB:=aS g1
 obtain⟨L,hL⟩:=IP (cI O R n 0 (cG n))
 obtain⟨E,ll⟩:=eJ gc.grp gc.isc
 have f4:=szF_fact gc
 rw[hL] at E ll
 have hG:=gc.grp
 have n7:=gc.n7
 have n0:=gc.n0
 simp(disch:=omega)only[go_sem,c_classes_of,aF,bx,hA,e1,rB]
 refine (list_ok _ n O R G d (gc.mono f1)).mono ?_
 rw[hL]
 rintro _ h2 ⟨vL,rfl,nw⟩
 obtain⟨wL,W,b9,e3,f4,W1⟩:=nw.ex
 have f4:=All2.length e3
 obtain⟨m,hm⟩:=IP L.length
 rw[hm] at f4
 have d1:=Own.lens b9 f4
 have c7:=b9.sv.dC.2.1
 have f2:=nw.fr
 simp(disch:=omega)only[go_sem,d1]
 refine bB (λhc=>(hc rfl).elim) (λ_=>?_)
 obtain⟨X,hX⟩:=IP h2.next
 simp(disch:=omega)only[go_sem,d1,mks_zeros _ m om,hX,bld_group b9.sv.dC.1 c7,box_group c7]
 obtain⟨h3,a0⟩: ∃h3:H,h3=H.mk ((H.mk ((H.mk ((H.mk h2.tr (X+3)).new (Ob.wmap pW.str [])).tr (X+6)).new (Ob.cells false (rc m λ_=>aB 0))).tr (X+8)).new (Ob.cells false [vL,.mp (X+3),.aD,.sl (X+6) 0 m (.kn m)])).tr (X+10):=⟨_,rfl⟩
 rw[←a0]
 have n3:h3.next=X+10:=by rw[a0]
 have gB:h3.get (X+8)=some (.cells false [vL,.mp (X+3),.aD,.sl (X+6) 0 m (.kn m)]):=by rw[a0];exact H.aN (H.mk _ (X+8)) _
 have gN:h3.get (X+6)=some (.cells false (rc m λ_=>aB 0)):=by
  rw[a0];exact (H.bJ (H.mk _ (X+8)) (show X+6≠X+8 by omega) _).trans (H.aN (H.mk _ (X+6)) _)
 have gM:h3.get (X+3)=some (.wmap .str (wmp L 0)):=by
  rw[a0];exact (H.bJ (H.mk _ (X+8)) (show X+3≠X+8 by omega) _).trans ((H.bJ (H.mk _ (X+6)) (show X+3≠X+6 by omega) _).trans (H.aN (H.mk _ (X+3)) _))
 have f3:Fr h2 h3:=⟨om,λq U=>by
  rw[a0]
  exact (H.bJ (H.mk _ (X+8)) (show q≠X+8 by omega) _).trans ((H.bJ (H.mk _ (X+6)) (show q≠X+6 by omega) _).trans (H.bJ (H.mk _ (X+3)) (show q≠X+3 by omega) _))⟩
 clear a0
 have N: ∀i,i<m->(L.getD i []).length<=1000/\ ∀x∈L.getD i [],x<256:=λi hi=>by
  have P:=el_isP hG E (show i<L.length by omega);exact⟨by rw[P.len];omega,λx hx=>by have:=P.lt x hx;omega⟩
 obtain⟨f4,a0,c2,c7,f8⟩:=SV.shape b9.sv m om om
 have d9: ∀i,i<m-> ∃vx,(∀h',Fr h2 h'->h'.cell f4 (a0+i)=some vx)/\SI h2 vx (zi (L.getD i [])):=λi hi=>by
  obtain⟨v,d,b4⟩:=PVs.at e3 (i:=i) om;exact⟨v,λh' f=>by rw[f.cell (c7 om),f8 i om,d],b4.si⟩
 have hK: ∀i,i<m->isKey .str (.str (L.getD i []))=true:=λi hi=>isKey_word (N i hi).1 (N i hi).2
 refine bW (λvs o=>(∃g:Nat->V,vs= [g 0,.ptr A 0,.nilp,aB 0,vL,g 5,.ptr (X+8) 0,g 7,g 8,g 9,g 10,g 11,g 12,g 13,g 14,g 15,g 16,g 17,g 18,g 19,g 20,g 21,g 22,g 23,g 24,g 25,g 26,g 27,g 28,g 29,g 30,g 31,g 32,g 33,g 34,g 35,g 36,g 37,g 38,g 39,g 40,g 41,g 42,g 43,g 44,g 45])/\o.get (X+3)=some (.wmap .str (wmp L m))/\Fx (· =X+3) h3 o) ?_ ?_
 ·refine aH (λk' vs o=> ∃(i:Nat),(∃g:Nat->V,vs= [g 0,.ptr A 0,.nilp,aB 0,vL,g 5,.ptr (X+8) 0,g 7,g 8,g 9,g 10,g 11,g 12,g 13,g 14,g 15,g 16,g 17,g 18,g 19,g 20,g 21,g 22,vL,aB m,aB i,g 26,g 27,g 28,g 29,g 30,g 31,g 32,g 33,g 34,g 35,g 36,g 37,g 38,g 39,g 40,g 41,g 42,g 43,g 44,g 45])/\i<=m/\o.get (X+3)=some (.wmap .str (wmp L i))/\Fx (· =X+3) h3 o/\k'=m-i) m
   ⟨0,aA rfl,eY _,gM,Fx.refl _ h3,rfl⟩ ?_
  rintro k' B h4 ⟨i,⟨g,rfl⟩,hi,b1,F4,rfl⟩
  by_cases b5:(i:Int)<(m:Int)
  case neg=>
   have d4:=bM b5;obtain rfl:i=m:=om
   simp(disch:=omega)only[go_sem,d4];exact⟨aA rfl,b1,F4⟩
  have d4:=bV b5
  have a1:i<m:=om
  have a4:Fr h2 h4:=⟨by have:=F4.next;omega,λq U=>by rw[F4.get q om om];exact f3.get q U⟩
  have c0:h4.get (X+8)=some (.cells false [vL,.mp (X+3),.aD,.sl (X+6) 0 m (.kn m)]):=by rw[F4.get _ om om];exact gB
  obtain⟨vx,cx,sx⟩:=d9 i a1
  have c3:h4.cell (X+8) 1=some (.mp (X+3)):=by rw[H.aG c0];rfl
  simp(disch:=omega)only[go_sem,d4,c2.ixa,cx h4 a4,c3]
  refine (word_ok vx (L.getD i []) _ (N i a1).1 (N i a1).2 (sx.mono (a4.trans ((Fr.refl h4).bL om)))).mono ?_
  rintro _ h5 ⟨rfl,f5⟩
  have b8:Fr h4 h5:=((Fr.refl h4).bL om).trans f5
  have n4:=F4.next
  have a0:h5.get (X+3)=some (.wmap .str (wmp L i)):=by rw[b8.get _ om];exact b1
  have b9:h5.cell (X+8) 1=some (.mp (X+3)):=by rw[b8.cell om];exact c3
  have pt:=λo=>mswO_new E.nodup (show i<L.length by omega) (hK i a1) o (X+3)
  simp(disch:=omega)only[go_sem,b9,a0,pt]
  rw[dX i]
  refine⟨by simp [dJ],m-(i+1),om,i+1,aA rfl,om,rfl,⟨by have:=b8.next;show h3.next<=h5.next;omega,λq d h2=>by rw[H.aI _ (λe=>h2 e),b8.get q om];exact F4.get q d h2⟩,rfl⟩
 rintro B h4 ⟨⟨g,rfl⟩,b1,F4⟩
 have n4:=F4.next
 have a4:Fr h2 h4:=⟨om,λq U=>by rw[F4.get q om om];exact f3.get q U⟩
 have c0:h4.get (X+8)=some (.cells false [vL,.mp (X+3),.aD,.sl (X+6) 0 m (.kn m)]):=by rw[F4.get _ om om];exact gB
 have f7:h4.get (X+6)=some (.cells false (rc m λ_=>aB 0)):=by rw[F4.get _ om om];exact gN
 have a0:=f2.trans a4
 have rA:=aS (h:=h4) (id:=A) (ro:=false) (by rw[a0.get _ om];exact g1)
 simp(disch:=omega)only[go_sem,rA]
 refine (strong_ok _ n O R G h4 (gc.mono (f1.trans a0))).mono ?_
 rintro _ h5 ⟨vS,rfl,nS⟩
 have f5:=nS.fr
 obtain⟨D,hD⟩:=IP h5.next
 obtain⟨h6,e6,n6,g6,o6,f6⟩:=dL hD (rc m λ_=>V.bool false)
 simp(disch:=omega)only[go_sem,d1,mks_bools,hD,e6]
 have d3:=a4.trans f5
 have a0:=d3.next
 have n5:=f5.next
 obtain⟨wS,WS,b8,a4,a0,f4⟩:=nS.ex
 obtain⟨S,hS⟩:=IP (strongL R)
 rw[hS] at a4
 have b9:=All2.length a4
 have a2: ∀s∈S,G s:=λs hs=>strong_mem gc.isc (by rw[hS];exact hs)
 have a9: ∀x,G x->fA n (λg=>g∈S) x:=λx hx=>by rw[←hS];exact strong_gen hG gc.isc hx
 obtain⟨sl,d0⟩:=IP S.length
 have a0:sl<=49:=by
  have d: ∀j,j<R.length->(R.getD j []).length<=n:=λj K=>by
   have a0:j<n:=by rw[←gc.isc.lr];exact K
   rw[gc.isc.rl j a0];have:=orb_len (λx hx=>hG.isP hx) a0 (gc.isc.asc j a0) (gc.isc.mem j a0);omega
  have h2:=strong_len (n:=n) (R:=R) (fH _) d;rw[List.take_length,hS,d0,gc.isc.lr] at h2;have:n*n<=7*7:=Nat.mul_le_mul n7 n7;omega
 have j1:=Own.lens b8 (b9.trans d0)
 obtain⟨a0,c7,h0,b9,e3⟩:=SV.shape b8.sv sl om om
 have d1:=Own.ge b8 (n:=sl) om om h0
 have j8: ∀t,t<sl-> ∃vy,(∀o,Fx (λq=>q=X+8∨D<=q) h5 o->o.cell a0 (c7+t)=some vy)/\PV (λq=>q=X+8∨D<=q) h5 vy (S.getD t []):=λt ht=>by
  obtain⟨v,d,b4⟩:=PVs.at a4 (i:=t) om;have hi:=b9 om;have a4:h4.next<=a0:=d1 om;refine⟨v,λo f=>?_,b4.weak λid a4 hw=>f4 id ?_⟩
  ·have e:o.get a0=h5.get a0:=f.get a0 hi om
   unfold H.cell;rw[e];have:=e3 t om;rw[d] at this;exact this
  ·rcases hw with e|e
   ·omega
   ·omega
 have J0:OfJ n G L X D vL h5 0 h6:=
  ⟨⟨.aD, [],λq=>q=D∨q=X+8∨q=X+6,by rw[f6.get _ om,f5.get _ om,hm];exact c0,Own.aD _ _ _,trivial,λ_ _ _ _ e=>(by cases e),.inl rfl,.inr (.inl rfl),.inr (.inr rfl),λq h=>by rcases h with h|h|h<;>omega,λq h=>by rcases h with h|h|h<;>omega,.inl rfl⟩,
   by rw[g6,hm,show (λj=>V.bool (snC G L 0 [] j))=λ_=>V.bool false from funext λj=>by rw[snC_zero]],Fx.of f6,om⟩
 refine bW (λvs o=>(∃g:Nat->V,vs= [g 0,.ptr A 0,.nilp,aB 0,vL,g 5,.ptr (X+8) 0,g 7,g 8,g 9,g 10,g 11,g 12,g 13,g 14,g 15,g 16,g 17,g 18,g 19,g 20,g 21,g 22,g 23,g 24,g 25,g 26,g 27,g 28,g 29,g 30,g 31,g 32,g 33,g 34,g 35,g 36,g 37,g 38,g 39,g 40,g 41,g 42,g 43,g 44,g 45])/\OfJ n G L X D vL h5 m o) ?_ ?_
 ·refine aH (λk' vs o=> ∃(i:Nat),(∃g:Nat->V,vs= [g 0,.ptr A 0,.nilp,aB 0,vL,g 5,.ptr (X+8) 0,g 7,g 8,vS,.sl D 0 m (.kn m),g 11,g 12,g 13,g 14,g 15,g 16,g 17,g 18,g 19,g 20,g 21,g 22,g 23,g 24,g 25,g 26,vL,aB m,aB i,g 30,g 31,g 32,g 33,g 34,g 35,g 36,g 37,g 38,g 39,g 40,g 41,g 42,g 43,g 44,g 45])/\i<=m/\OfJ n G L X D vL h5 i o/\k'=m-i) m
   ⟨0,aA rfl,eY _,J0,rfl⟩ ?_
  clear J0
  rintro k' B h7 ⟨i,⟨g,rfl⟩,hi,J,rfl⟩
  by_cases b5:(i:Int)<(m:Int)
  case neg=>
   have d4:=bM b5;obtain rfl:i=m:=om
   simp(disch:=omega)only[go_sem,d4];exact⟨aA rfl,J⟩
  have d4:=bV b5
  have a1:i<m:=om
  have f:=J.nx
  have b3:Fr h2 h7:=⟨om,λq U=>by rw[J.old.get q om om];exact d3.get q U⟩
  obtain⟨vx,cx,sx⟩:=d9 i a1
  have cD:=gO J.gD (i:=i) om
  by_cases hr:isR G L i
  case neg=>
   have d7:snC G L i [] i=true:=by
    rw[snC_iff];exact .inl (Bz λf=>hr λj K hc=>f ⟨j,K,hc⟩)
   rw[d7] at cD;simp(disch:=omega)only[go_sem,d4,c2.ixa,cx h7 b3,cD];rw[dX i];refine⟨m-(i+1),om,i+1,aA rfl,om,?_,rfl⟩;refine⟨?_,?_,J.old,J.nx⟩
   ·rw[(repsC_succ i).2 hr];exact J.ex
   ·rw[J.gD,aX λj _=>by rw[snC_skip hG E (show i<L.length by omega) hr j]]
  have d7:snC G L i [] i=false:=by
   rw[←Bool.not_eq_true,snC_iff];rintro (⟨j,K,hc⟩|h)
   ·exact hr j K hc
   ·cases h
  rw[d7] at cD
  obtain⟨f,e8,n8,g8,o8⟩:=nP h7 D ((rc L.length λj=> .bool (snC G L i [] j)).set i (.bool true))
  obtain⟨Z,hZ⟩:=IP f.next
  obtain⟨h9,e9,n9,g9,o9,f9⟩:=dL hZ [aB i]
  have pt:=bE (vs:=rc L.length λj=> .bool (snC G L i [] j)) (off:=i) (by rw[cK];omega)
  clear bx gc sO sR rB rA f8 f7 c0 g1 o1 f1 f3 gB gN gM
  simp(disch:=omega)only[go_sem,d4,c2.ixa,cx h7 b3,cD,J.gD,pt,e8,cJ f (z:= aB 0) (v:= aB i) rfl rfl,hZ,e9]
  have f:h7.next=Z:=om
  have a5:(rc L.length λj=>V.bool (snC G L i [] j)).set i (.bool true)=rc L.length λj=> .bool (snC G L i [i] j):=by
   rw[eG]
   exact aX λj _=>by
    rw[show [i]= []++ [i] from rfl,snC_push]
    by_cases e:j=i
    ·rw[aV e,aV e]
    ·rw[aZ e,aZ e]
  have d8:Fx (· =D) h7 h9:=⟨om,λq d h2=>by rw[o9 q om,o8 q h2]⟩
  have B0:BQ G L S i [i] 0:=⟨by simp,by simp,rfl,λj K=>by
   obtain rfl:j=i:=by simpa using K
   exact⟨om,cR_refl hG E om⟩,λk hk=>om⟩
  refine bW (λvs o=> ∃(Q:List Nat) (q:Nat) (l:mE),(∃g:Nat->V,vs= [g 0,.ptr A 0,.nilp,aB 0,vL,g 5,.ptr (X+8) 0,g 7,g 8,vS,.sl D 0 m (.kn m),aB i,vx,.sl q 0 Q.length l,g 14,g 15,g 16,g 17,g 18,g 19,g 20,g 21,g 22,g 23,g 24,g 25,g 26,vL,aB m,aB i,g 30,g 31,g 32,g 33,g 34,g 35,g 36,g 37,g 38,g 39,g 40,g 41,g 42,g 43,g 44,g 45])/\
    BQ G L S i Q Q.length/\(l= .un 1∨l= .kn Q.length)/\o.get q=some (.cells false (ints (zi Q)))/\Z<=q/\q<o.next/\o.get D=some (.cells false (rc L.length λj=> .bool (snC G L i Q j)))/\Fx (· =D) h7 o) ?_ ?_
  ·refine aH (λk' vs o=> ∃(Q:List Nat) (q:Nat) (l:mE) (p:Nat),(∃g:Nat->V,vs= [g 0,.ptr A 0,.nilp,aB 0,vL,g 5,.ptr (X+8) 0,g 7,g 8,vS,.sl D 0 m (.kn m),aB i,vx,.sl q 0 Q.length l,aB p,g 15,g 16,g 17,g 18,g 19,g 20,g 21,g 22,g 23,g 24,g 25,g 26,vL,aB m,aB i,g 30,g 31,g 32,g 33,g 34,g 35,g 36,g 37,g 38,g 39,g 40,g 41,g 42,g 43,g 44,g 45])/\
    p<=Q.length/\BQ G L S i Q p/\(l= .un 1∨l= .kn Q.length)/\o.get q=some (.cells false (ints (zi Q)))/\Z<=q/\q<o.next/\o.get D=some (.cells false (rc L.length λj=> .bool (snC G L i Q j)))/\Fx (· =D) h7 o/\k'=m-p) m
    ⟨[i],Z,_,0,aA rfl,eY _,B0,.inr rfl,g9,fH _,om,by rw[o9 _ om,g8,a5],d8,rfl⟩ ?_
   clear d8 B0 e8 n8 g8 o8 hZ e9 n9 g9 o9 f9 pt a5
   rintro k' B f ⟨Q,q,l,p,⟨f,rfl⟩,hp,a,r,gq,U,nq,gD,Fa,rfl⟩
   have a6:=a.len
   by_cases b7:(p:Int)<(Q.length:Int)
   case neg=>
    have d5:=bM b7;obtain rfl:p=Q.length:=om
    simp(disch:=omega)only[go_sem,d5];exact⟨Q,q,l,aA rfl,a,r,gq,U,nq,gD,Fa⟩
   have d5:=bV b7
   have F:p<Q.length:=om
   simp(disch:=omega)only[go_sem,d5,j1]
   obtain⟨c,hc⟩:=IP (Q.getD p 0)
   obtain⟨i2,j2⟩:=a.mem c (by rw[←hc];exact getD_mem F)
   have Cp:=el_isP hG E i2
   refine loop_end (λvs o=> ∃(Q:List Nat) (q:Nat) (l:mE),(∃g:Nat->V,vs= [g 0,.ptr A 0,.nilp,aB 0,vL,g 5,.ptr (X+8) 0,g 7,g 8,vS,.sl D 0 m (.kn m),aB i,vx,.sl q 0 Q.length l,aB p,g 15,g 16,g 17,g 18,g 19,g 20,g 21,g 22,g 23,g 24,g 25,g 26,vL,aB m,aB i,g 30,g 31,g 32,g 33,g 34,g 35,g 36,g 37,g 38,g 39,g 40,g 41,g 42,g 43,g 44,g 45])/\
     p<Q.length/\BQ G L S i Q (p+1)/\(l= .un 1∨l= .kn Q.length)/\o.get q=some (.cells false (ints (zi Q)))/\Z<=q/\q<o.next/\o.get D=some (.cells false (rc L.length λj=> .bool (snC G L i Q j)))/\Fx (· =D) h7 o) ?_ ?_
   ·refine aH (λk' vs o=> ∃(Q:List Nat) (q:Nat) (l:mE) (t:Nat),(∃g:Nat->V,vs= [g 0,.ptr A 0,.nilp,aB 0,vL,g 5,.ptr (X+8) 0,g 7,g 8,vS,.sl D 0 m (.kn m),aB i,vx,.sl q 0 Q.length l,aB p,g 15,g 16,g 17,g 18,g 19,g 20,g 21,g 22,g 23,g 24,g 25,g 26,vL,aB m,aB i,g 30,g 31,g 32,vS,aB sl,aB t,g 36,g 37,g 38,g 39,g 40,g 41,g 42,g 43,g 44,g 45])/\
     p<Q.length/\t<=sl/\BQ G L S i Q p/\Q.getD p 0=c/\(∀s∈S.take t,∃j∈Q,L.getD j []=conjP (L.getD c []) s)/\(l= .un 1∨l= .kn Q.length)/\o.get q=some (.cells false (ints (zi Q)))/\Z<=q/\q<o.next/\o.get D=some (.cells false (rc L.length λj=> .bool (snC G L i Q j)))/\Fx (· =D) h7 o/\k'=sl-t) sl
     ⟨Q,q,l,0,aA rfl,F,eY _,a,hc,λs hs=>(by simp at hs),r,gq,U,nq,gD,Fa,rfl⟩ ?_
    clear a r gq U nq gD Fa hc F a6 b7 d5 hp
    clear Q q l
    rintro k' B hb ⟨Q,q,l,t,⟨g3,rfl⟩,F,ht,a,hc,d6,r,gq,U,nq,gD,Fb,rfl⟩
    by_cases g0:(t:Int)<(sl:Int)
    case neg=>
     have d5:=bM g0;obtain rfl:t=sl:=om
     simp(disch:=omega)only[go_sem,d5];refine⟨Q,q,l,aA rfl,F,⟨a.nd,a.ne,a.hd,a.mem,λk hk s hs=>?_⟩,r,gq,U,nq,gD,Fb⟩
     by_cases e:k=p
     ·subst e
      rw[hc];exact d6 s (by rw[←d0,List.take_length];exact hs)
     ·exact a.cl k om s hs
    have d5:=bV g0
    have f:t<sl:=om
    have a6:=a.len
    have nb:=Fb.next
    have c8:Fx (λq=>q=X+8∨D<=q) h5 hb:=⟨by have:=J.old.next;omega,λq d h2=>by rw[Fb.get q om (λe=>h2 (.inr (by have:q=D:=e;omega)))];exact J.old.get q d h2⟩
    have c5:Fr h2 hb:=⟨om,λq U=>by rw[Fb.get q om (λe=>by have:q=D:=e;omega)];exact b3.get q U⟩
    obtain⟨vy,o,py⟩:=j8 t f
    obtain⟨vz,cz,sz⟩:=d9 c om
    obtain⟨s,hs⟩:=IP (S.getD t [])
    rw[hs] at py
    have c1:s∈S:=by rw[←hs];exact getD_mem om
    have Sp:=hG.isP (a2 s c1)
    have cq:hb.cell q p=some (aB c):=by rw[H.aG gq,tY F,hc]
    simp(disch:=omega)only[go_sem,d5,h0.ixa,o hb c8,cq,c2.ixa,cz hb c5]
    refine (inv_gen (rfl:T 85=some c_classes_element_inverse) vy n s _ om Sp ((py.fx c8).si.mono ((Fr.refl hb).bL om))).mono ?_
    rintro a0 o f
    have K1:Fr hb o:=((Fr.refl hb).bL om).trans f.fr
    have a1:o.cell q p=some (aB c):=by rw[K1.cell nq];exact cq
    have ez:=sz.dJ
    simp(disch:=omega)only[go_sem,a1,cz o (c5.trans K1),ez]
    refine (times_ok a0 vz (dH s) (L.getD c []) o (by rw[fV,Sp.len];omega) (f.pv (W:=λ_=>False) id).si (sz.mono (c5.trans K1)) (λj K=>by rw[Cp.len];exact Sp.inv.dZ (by rw[←Sp.inv.len];exact K))).mono ?_
    rintro a0 k2 f
    have K2:=K1.trans f.fr
    have o:=Sp.inv.mul Cp
    simp(disch:=omega)only[go_sem]
    refine (times_ok a0 vy _ s k2 (by rw[o.len];omega) (f.pv (W:=λ_=>False) id).si ((py.fx c8).si.mono K2) (λj K=>by rw[Sp.len];exact o.dZ (by rw[←o.len];exact K))).mono ?_
    rintro j6 k3 f
    have K3:=K2.trans f.fr
    have P3:=o.mul Sp
    have i8:k3.cell q p=some (aB c):=by rw[K3.cell nq];exact cq
    have e0:=(f.pv (W:=λ_=>False) id).si
    have f:=e0.dC.2.1
    have f: ∃vK,k3.get (X+8)=some (.cells false [vL,.mp (X+3),vK,.sl (X+6) 0 L.length (.kn L.length)]):=by
     obtain⟨vK,_,_,gB,_⟩:=J.ex;exact⟨vK,by rw[K3.get _ om,Fb.get _ om (λe=>by have:X+8=D:=e;omega)];exact gB⟩
    obtain⟨vK,f⟩:=f
    have i4:k3.cell (X+8) 1=some (.mp (X+3)):=by rw[H.aG f];rfl
    obtain⟨j,K,ej⟩: ∃j,j<L.length/\L.getD j []=conjP (L.getD c []) s:=by
     have f:conjP (L.getD c []) s∈L:=(E.mem _).2 (hG.mul (hG.mul (hG.inv (a2 s c1)) (el_mem E i2)) (a2 s c1));obtain⟨j,K,ej⟩:=vJ.1 f;exact⟨j,K,by rw[List.getD,eX K,←ej];rfl⟩
    have f:bD (bD (dH s) (L.getD c [])) s=L.getD j []:=ej.symm
    rw[f] at e0
    simp(disch:=omega)only[go_sem,i8,cz k3 (c5.trans K3),i4,ez]
    refine (word_ok j6 (L.getD j []) _ (N j om).1 (N j om).2 (e0.mono ((Fr.refl k3).bL om))).mono ?_
    rintro _ k4 ⟨rfl,o⟩
    have f:Fr k3 k4:=((Fr.refl k3).bL om).trans o
    have K4:=K3.trans f
    have o:=K3.next
    have c6:k4.get (X+3)=some (.wmap .str (wmp L L.length)):=by
     rw[K4.get _ om,Fb.get _ om (λe=>by have:X+3=D:=e;omega),J.old.get _ om om,f5.get _ om,hm];exact b1
    have g7:k4.cell (X+8) 1=some (.mp (X+3)):=by rw[f.cell om];exact i4
    have lk:=λz=>lkwO_hit E.nodup K (hK j om) z
    have c4:k4.cell D j=some (.bool (snC G L i Q j)):=by rw[K4.cell om];exact gO gD K
    have f0:cR G L i j:=cR_trans hG E om j2 ⟨s,a2 s c1,ej.symm⟩
    have i1:S.take (t+1)=S.take t++ [s]:=by rw[take_getD [] om,hs]
    have i6:k4.get q=some (.cells false (ints (zi Q))):=by rw[K4.get _ nq];exact gq
    have e7:k4.get D=some (.cells false (rc L.length λj=> .bool (snC G L i Q j))):=by rw[K4.get _ om];exact gD
    have g4:Fx (· =D) h7 k4:=⟨by have:=K4.next;omega,λq d h2=>by rw[K4.get q om];exact Fb.get q d h2⟩
    cases hsn2:snC G L i Q j with
    |true=>
     rw[hsn2] at c4
     have d2:j∈Q:=by
      rcases snC_iff.1 hsn2 with ⟨f,d,b4⟩|d
      ·exact absurd (cR_trans hG E om b4 (cR_symm hG E om f0)) (hr f d)
      ·exact d
     simp(disch:=omega)only[go_sem,g7,c6,lk,c4];rw[dX t];refine⟨by simp [dJ],sl-(t+1),om,Q,q,l,t+1,aA rfl,F,om,a,hc,?_,r,i6,U,by have:=K4.next;omega,e7,g4,rfl⟩;rw[i1];intro s' b0;rcases sP.1 b0 with d|d
     ·exact d6 s' d
     ·obtain rfl:s'=s:=by simpa using d
      exact⟨j,d2,ej⟩
    |false=>
     rw[hsn2] at c4;have d2:j∉Q:=λd=>by rw[snC_iff.2 (.inr d)] at hsn2;cases hsn2
     obtain⟨k5,e5,f,g5,o5⟩:=nP k4 D ((rc L.length λj=> .bool (snC G L i Q j)).set j (.bool true));obtain⟨Y,hY⟩:=IP k5.next;obtain⟨k6,i9,f,j0,c9,f⟩:=dL hY [aB j];have pt:=bE (vs:=rc L.length λj=> .bool (snC G L i Q j)) (off:=j) (by rw[cK];exact K);have f:=K4.next;have j7:k6.get q=some (.cells false (ints (zi Q))):=by rw[c9 _ om,o5 _ om];exact i6
     have k0:Own k6 (.sl q 0 Q.length l) 1 (ints (zi Q)) 0:= .inr ⟨q,Q.length,l, [],rfl,by rw[aL,aQ];simp,by rcases r with d|d;exact .inl d;exact .inr ⟨d,rfl⟩,eY _,om,by rw[pN];exact j7⟩;obtain⟨f,a7,p7⟩:=k0.push (bytes:=8) (SV.one (v:= aB j) (id:=Y) om j0 (.kn 1)) (n:=Q.length) (m:=1) (by rw[aL,aQ];simp) rfl om om om;simp(disch:=omega)only[go_sem,g7,c6,lk,c4,e7,pt,e5,cJ k5 (z:= aB 0) (v:= aB j) rfl rfl,hY,i9,a7];rw[dX t];have el:ints (zi (Q++ [j]))=ints (zi Q)++ [aB j]:=by simp [zi,ints]
     have f:=p7.next;have j5:dF (.sl q 0 Q.length l) D:=λid off n c e e2=>by cases e;omega
     have a5:(rc L.length λf=>V.bool (snC G L i Q f)).set j (.bool true)=rc L.length λf=> .bool (snC G L i (Q++ [j]) f):=by
      rw[eG]
      exact aX λf _=>by
       rw[snC_push]
       by_cases e:f=j
       ·rw[aV e,aV e]
       ·rw[aZ e,aZ e]
     refine⟨by simp [dJ],sl-(t+1),om,Q++ [j],k6.next,.un 1,t+1,by rw[jD];exact aA rfl,by rw[jD];omega,om,⟨?_,by rw[jD];simp,?_,?_,?_⟩,?_,?_,.inl rfl,by rw[el];exact p7.get,om,om,?_,?_,rfl⟩
     ·rw[List.nodup_append]
      exact⟨a.nd,by simp,λx hx y hy e=>by
       obtain rfl:y=j:=by simpa using hy
       exact d2 (e▸hx)⟩
     ·rw[List.getD,vY a.ne];exact a.hd
     ·intro x hx
      rcases sP.1 hx with d|d
      ·exact a.mem x d
      ·obtain rfl:x=j:=by simpa using d
       exact⟨K,f0⟩
     ·intro k hk s' b0
      obtain⟨y,hy,f⟩:=a.cl k hk s' b0;refine⟨y,sP.2 (.inl hy),?_⟩;rw[f,List.getD,List.getD,List.getD,List.getD,vY om]
     ·rw[List.getD,vY F];exact hc
     ·rw[i1]
      intro s' b0;rcases sP.1 b0 with d|d
      ·obtain⟨y,hy,f⟩:=d6 s' d
       exact⟨y,sP.2 (.inl hy),f⟩
      ·obtain rfl:s'=s:=by simpa using d
       exact⟨j,sP.2 (.inr (by simp)),ej⟩
     ·rw[p7.old D om j5,c9 D om,g5,a5]
     ·refine⟨om,λx d h2=>?_⟩
      rw[p7.old x om (λid off n c e e2=>by cases e;omega),c9 x om,o5 x h2];exact g4.get x d h2
   clear a r gq U nq gD Fa hc b7 d5 hp F a6
   clear Q q l
   rintro B hb ⟨Q,q,l,⟨g3,rfl⟩,F,a3,r,gq,U,nq,gD,Fb⟩
   have a6:=a3.len
   simp(disch:=omega)only[go_sem]
   rw[dX p]
   exact⟨m-(p+1),om,Q,q,l,p+1,aA rfl,om,a3,r,gq,U,nq,gD,Fb,rfl⟩
  clear d8 B0 e8 n8 g8 o8 hZ e9 n9 g9 o9 f9 pt a5
  rintro B hb ⟨Q,q,l,⟨g3,rfl⟩,a3,r,gq,U,nq,gD,Fb⟩
  have a6:=a3.len
  have nb:=Fb.next
  have a:=sort_ok hb q (zi Q) l (by rw[aQ];omega) gq nq
  rw[aQ] at a
  simp(disch:=omega)only[go_sem]
  refine a.mono ?_
  rintro _ ka ⟨a,gl,pl,al,Fa⟩
  obtain rfl:=a3.sort hG E (fH _) om a2 a9 pl al
  have e4:Q.length=(orbC G L i).length:=by have:=pl.length_eq;rw[aQ,aQ] at this;exact this.symm
  have a:=Fa.next
  have a:Fr h2 ka:=⟨om,λx hx=>by rw[Fa.get x om (λe=>by have:x=q:=e;omega),Fb.get x om (λe=>by have:x=D:=e;omega)];exact b3.get x hx⟩
  have f:=el_isP hG E (show i<L.length by omega)
  simp(disch:=omega)only[go_sem]
  refine (order_ok vx n (L.getD i []) ka n0 n7 f (sx.mono a)).mono ?_
  rintro _ kb ⟨rfl,fb⟩
  have a:=fb.next
  obtain⟨vK,ks,WK,gB,b2,aK,bK,wD,wB,wN,wn,wX,_⟩:=J.ex
  have a:=All2.length aK
  have i5:kb.get (X+8)=some (.cells false [vL,.mp (X+3),vK,.sl (X+6) 0 L.length (.kn L.length)]):=by
   rw[fb.get _ om,Fa.get _ om (λe=>by have:X+8=q:=e;omega),Fb.get _ om (λe=>by have:X+8=D:=e;omega)];exact gB
  have c3:kb.cell (X+8) 2=some vK:=by rw[H.aG i5];rfl
  have a8:=sx.dC.2.1
  have a:=b2.sv.dJ
  obtain⟨Y,hY⟩:=IP kb.next
  obtain⟨kc,ec,a,j3,oc,a⟩:=dL hY [vx,aB (dW (L.getD i []) n:Nat),aB (Q.length:Int),.sl q 0 Q.length l]
  have b6: ∀x,x<Z->x≠D->kc.get x=h7.get x:=λx d h2=>by
   rw[oc x om,fb.get x om,Fa.get x om (λe=>by have:x=q:=e;omega),Fb.get x om h2]
  have a:Own kc vK 4 (Cls.kflat ks) (D+1):=b2.mono om λid off n' c e d h2=>b6 id om om
  have lr:=repsC_len (G:=G) (L:=L) i
  obtain⟨kd,ad,pd⟩:=a.push (bytes:=64) (y:= .sl Y 0 1 (.kn 1)) (us:= [vx,aB (dW (L.getD i []) n:Nat),aB (Q.length:Int),.sl q 0 Q.length l]) (SV.all rfl om j3 _) (n:=ks.length) (m:=1) (kflat_len ks) rfl om om om
  have a:=pd.next
  have a:dF vK (X+8):=λid off n' c e e2=>by have:=(b2.in _ _ _ _ e).2.1;omega
  have j4:kd.get (X+8)=some (.cells false [vL,.mp (X+3),vK,.sl (X+6) 0 L.length (.kn L.length)]):=by
   rw[pd.old _ om a,oc _ om];exact i5
  obtain⟨ke,ee,a,ge,oe⟩:=nP kd (X+8) [vL,.mp (X+3),.sl kc.next 0 (ks.length+1) (.un 4),.sl (X+6) 0 L.length (.kn L.length)]
  simp(disch:=omega)only[go_sem,c3,bld_three sx.dC.1 a8,bld_class a8 (w:= .sl q 0 Q.length l) rfl rfl,bls_class a8 (w:= .sl q 0 Q.length l) rfl,hY,ec,ad,j4,put_third,ee]
  rw[dX i]
  have a: ∀x,x<Z-> ¬WK x->ke.get x=h7.get x:=λx d h2=>by
   rw[oe x (λe=>h2 (e▸wB)),pd.old x om (λid off n' c e e2=>h2 (e2▸bK _ _ _ _ e)),b6 x d (λe=>h2 (e▸wD))]
  have FK:Fx WK h7 ke:=⟨om,λx d h2=>a x om h2⟩
  have j9:Fr h2 ke:=⟨om,λx hx=>by rw[a x om (λd=>by have:=wX x d;omega)];exact b3.get x hx⟩
  have i3:Cls.kflat (ks++ [⟨vx,dW (L.getD i []) n,Q.length,.sl q 0 Q.length l,i,⟨sx.dC.1,a8,sx.dJ⟩,⟨rfl,rfl,by simp [dJ]⟩⟩])=Cls.kflat ks++ [vx,aB (dW (L.getD i []) n:Nat),aB (Q.length:Int),.sl q 0 Q.length l]:=by
   simp [Cls.kflat,Cls.KE.enc]
  refine⟨m-(i+1),om,i+1,aA rfl,om,⟨⟨_,ks++ [⟨vx,dW (L.getD i []) n,Q.length,.sl q 0 Q.length l,i,⟨sx.dC.1,a8,sx.dJ⟩,⟨rfl,rfl,by simp [dJ]⟩⟩],λx=>WK x∨x=kc.next,ge,?_,?_,λid off n' c e=>by cases e;exact .inr rfl,   .inl wD,.inl wB,.inl wN,λx h=>by rcases h with h|h;have:=wn x h;omega;omega,λx h=>by rcases h with h|h;exact wX x h;omega,.inr ⟨_,_,by rw[jD];rfl,?_⟩⟩,?_,?_,om⟩,rfl⟩
  ·rw[i3]
   exact (pd.own (b:=D+1) (kflat_len ks) rfl om).mono om λid off n' c e d h2=>by cases e;exact oe _ om
  ·rw[(repsC_succ i).1 hr]
   refine All2.append (aK.mono λa r k=>k.go FK om wX λx d h2=>by rcases h2 with h2|h2;exact h2;omega) ⟨⟨rfl,rfl,e4,⟨sx.mono j9,?_⟩,⟨?_,?_⟩⟩,trivial⟩
   ·rw[←hX];exact off_lt sx
   ·rw[e4]
    refine SV.all (ro:=false) (by rw[aL,aQ,jY]) om ?_ _
    rw[oe q om,pd.old q om (λid off n' c e e2=>by have:=wn _ (bK _ _ _ _ e);omega),oc q om,fb.get q om]
    exact gl
   ·exact λh=>by rcases h with h|h;have:=wn _ h;omega;omega
  ·rw[i3,oe _ om];exact pd.get
  ·rw[oe D om,pd.old D om (λid off n' c e e2=>by have:=(b2.in _ _ _ _ e).2.1;omega),oc D om,fb.get D om,Fa.get D om (λe=>by have:D=q:=e;omega),gD,aX λj K=>by rw[snC_done hG E (show i<L.length by omega) a3 a2 a9 K]]
  ·refine⟨by have:=J.old.next;omega,λx d h2=>?_⟩
   have a:x≠X+8:=λe=>h2 (.inl e)
   have f:x<D:=om
   rw[oe x a,pd.old x om (λid off n' c e e2=>by have:=(b2.in _ _ _ _ e).2.1;omega),b6 x om om]
   exact J.old.get x d h2
 rintro B h7 ⟨⟨g,rfl⟩,J⟩
 exact hk L X D vL h2 h5 h7 A g hL ⟨E,om,f1.trans f2,hX,nw.sp,d3,om,hD,by rw[f5.get _ om,hm];exact b1,by rw[f5.get _ om,hm];exact f7,by rw[hm];exact J⟩
end
open Classical in
noncomputable def numC (G:List Nat->Prop)(L:LN)(K:List Nat)(j:Nat):Nat:=K.findIdx λr=>decide (cR G L r j)
structure KR (n:Nat)(G:List Nat->Prop)(L:LN)(hh:H)(a:Cls.KE)(r:Nat):Prop where
 fst:a.fst=r
 ord:a.ord=dW (L.getD r []) n
 size:a.size=(orbC G L r).length
 rep:SI hh a.rep (zi (L.getD r []))
 ranks:SI hh a.ranks (zi (orbC G L r))
theorem KR.mono {n:Nat}{G:List Nat->Prop}{L:LN}{h h':H}{a:Cls.KE}{r:Nat}(k:KR n G L h a r)(f:Fr h h'):KR n G L h' a r:=⟨k.fst,k.ord,k.size,k.rep.mono f,k.ranks.mono f⟩
def kLt (n:Nat)(G:List Nat->Prop)(L:LN)(r s:Nat):Prop:=dW (L.getD r []) n<dW (L.getD s []) n∨dW (L.getD r []) n=dW (L.getD s []) n/\((orbC G L r).length<(orbC G L s).length∨(orbC G L r).length=(orbC G L s).length/\r<s)
structure IsK (n:Nat)(G:List Nat->Prop)(L:LN)(K:List Nat):Prop where
 perm:K.Perm (repsC G L L.length)
 asc:K.Pairwise (kLt n G L)
structure GrpO (n:Nat)(G:List Nat->Prop)(L:LN)(K:List Nat)(hh:H)(v:V):Prop where
 ex: ∃B M N S cp vL ks,v= .ptr B 0/\B<hh.next/\M<hh.next/\N<hh.next/\S<hh.next/\hh.get B=some (.cells false [vL,.mp M,.sl S 0 K.length cp,.sl N 0 L.length (.kn L.length)])/\
  hh.get M=some (.wmap .str (wmp L L.length))/\hh.get N=some (.cells false (rc L.length λj=> aB (numC G L K j:Nat)))/\hh.get S=some (.cells false (Cls.kflat ks))/\All2 (KR n G L hh) ks K/\SP hh vL L
theorem GrpO.mono {n:Nat}{G:List Nat->Prop}{L:LN}{K:List Nat}{h h':H}{v:V}(g:GrpO n G L K h v)(f:Fr h h'):GrpO n G L K h' v:=by
 obtain⟨B,M,N,S,c,j,b,e,d,o,p,i,l,m,q,k,a,sp⟩:=g.ex;have r:=f.next;exact⟨B,M,N,S,c,j,b,e,om,om,om,om,by rw[f.get _ d];exact l,by rw[f.get _ o];exact m,by rw[f.get _ p];exact q,by rw[f.get _ i];exact k,a.mono λ_ _ k=>k.mono f,sp.mono f⟩
section
variable {n:Nat} {G:List Nat->Prop} {L:LN} {K:List Nat} (hG:mD n G) (E:eQ G L)
include hG E
omit hG E in
theorem repsC_zero_mem (a:0<L.length):0∈repsC G L L.length:=repsC_mem.2 ⟨a,λj b=>om⟩
theorem numC_at (f:K.Perm (repsC G L L.length)){k:Nat}(b:k<K.length){j:Nat}(l:j∈orbC G L (K.getD k 0)):numC G L K j=k:=by
 classical
 obtain⟨a,a⟩:=orbC_mem.1 l;have c:K.Nodup:=f.nodup_iff.2 (by unfold repsC;exact List.Pairwise.filter _ List.nodup_range);have h: ∀r∈K,r<L.length/\isR G L r:=λr d=>repsC_mem.1 (f.mem_iff.1 d)
 unfold numC;rw[List.findIdx_eq b];have d:K.getD k 0=K[k]:=Pm.bP b;rw[d] at a;refine⟨by simpa using a,λi hi=>?_⟩;simp only[decide_eq_false_iff_not];intro d;have e:=h K[i] (wT _);have g:=h K[k] (wT _);have:=rep_uniq hG E e.1 g.1 e.2 g.2 d a;have a:=Po.1 c i k om b hi;exact a this
theorem num_cover (c:K.Perm (repsC G L L.length)){j:Nat}(a:j<L.length): ∃k,k<K.length/\j∈orbC G L (K.getD k 0):=by
 obtain⟨r,b,b,f⟩:=rep_ex hG E a;have d:r∈K:=c.mem_iff.2 (repsC_mem.2 ⟨om,b⟩);obtain⟨k,b,e⟩:=vJ.1 d;exact⟨k,b,orbC_mem.2 ⟨a,by rw[Pm.bP b,e];exact f⟩⟩
end
open Classical in
noncomputable def nuC (G:List Nat->Prop)(L:LN)(K:List Nat)(k t j:Nat):Nat:=if (∃k0,k0<k/\j∈orbC G L (K.getD k0 0))∨j∈(orbC G L (K.getD k 0)).take t then numC G L K j else 0
theorem nuC_zero (G:List Nat->Prop)(L:LN)(K:List Nat)(j:Nat):nuC G L K 0 0 j=0:=by
 classical
 unfold nuC;rw[aZ];rintro (⟨a,h,_⟩|h)
 ·omega
 ·simp at h
theorem nuC_next (G:List Nat->Prop)(L:LN)(K:List Nat)(k j:Nat):nuC G L K k (orbC G L (K.getD k 0)).length j=nuC G L K (k+1) 0 j:=by
 classical
 unfold nuC;rw[List.take_length,List.take_zero]
 have e:((∃a,a<k/\j∈orbC G L (K.getD a 0))∨j∈orbC G L (K.getD k 0))↔((∃a,a<k+1/\j∈orbC G L (K.getD a 0))∨j∈([]:List Nat)):=by
  constructor
  ·rintro (⟨a,c,b⟩|h)
   ·exact .inl ⟨a,om,b⟩
   ·exact .inl ⟨k,om,h⟩
  ·rintro (⟨a,c,b⟩|h)
   ·by_cases e:a=k
    ·subst e;exact .inr b
    ·exact .inl ⟨a,om,b⟩
   ·cases h
 by_cases h:((∃a,a<k/\j∈orbC G L (K.getD a 0))∨j∈orbC G L (K.getD k 0))
 ·rw[aV h,aV (e.1 h)]
 ·rw[aZ h,aZ (λx=>h (e.2 x))]
theorem nuC_step {n:Nat}{G:List Nat->Prop}{L:LN}{K:List Nat}(hG:mD n G)(E:eQ G L)(c:K.Perm (repsC G L L.length)){k:Nat}(b:k<K.length){t:Nat}(a:t<(orbC G L (K.getD k 0)).length)(j:Nat):
  nuC G L K k (t+1) j=if j=(orbC G L (K.getD k 0)).getD t 0 then k else nuC G L K k t j:=by
 classical
 by_cases e:j=(orbC G L (K.getD k 0)).getD t 0
 ·rw[aV e]
  have d:j∈orbC G L (K.getD k 0):=by rw[e];exact getD_mem a
  unfold nuC
  rw[aV (.inr (by rw[take_getD 0 a,e];simp))]
  exact numC_at hG E c b d
 ·rw[aZ e]
  unfold nuC
  rw[take_getD 0 a]
  simp only[sP,List.mem_singleton,e,or_false]
theorem nuC_done {n:Nat}{G:List Nat->Prop}{L:LN}{K:List Nat}(hG:mD n G)(E:eQ G L)(b:K.Perm (repsC G L L.length)){j:Nat}(d:j<L.length):nuC G L K K.length 0 j=numC G L K j:=by
 classical
 obtain⟨k,a,c⟩:=num_cover hG E b d;unfold nuC;rw[aV (.inl ⟨k,a,c⟩)]
theorem row_kflat {h:H}{S:Nat}{ro:Bool}: ∀{ks:List Cls.KE} {pre:List V},h.get S=some (.cells ro (pre++Cls.kflat ks))-> ∀{i:Nat} (hi:i<ks.length),h.row S (pre.length+i*4) 4=some ks[i].enc
 | [],_,_,_,hi=>by simp at hi
 |a::r,pre,g,0,_=>by
  unfold H.row;rw[g];show sub (pre++(a.enc++Cls.kflat r)) (pre.length+0*4) 4=some a.enc;simp only[sub,Nat.zero_mul,Nat.add_zero];have:a.enc.length=4:=rfl;rw[aV (by rw[jD,jD];omega),List.drop_left,List.take_append,yR om,this];simp
 |a::r,pre,g,i+1,hi=>by
  have b:h.get S=some (.cells ro ((pre++a.enc)++Cls.kflat r)):=by rw[g,oH];rfl
  have:=row_kflat b (i:=i) (by simpa using hi);rw[jD,show a.enc.length=4 from rfl] at this;rw[show pre.length+(i+1)*4=pre.length+4+i*4 by omega];simpa using this
theorem stV_ke (h:H)(id off:Nat)(a:Cls.KE):Kz h 4 (.ptr id off) (.agg a.enc)=dS (h.get id) h id off a.enc:=pY h id off 4 _ rfl (by simp [Cls.KE.enc,a.hrep.2.1,a.hranks.2.1,show (aB (a.ord:Int)).one=true from rfl,show (aB (a.size:Int)).one=true from rfl])
theorem put_ke (hh:H)(id:Nat)(a:Cls.KE)(x y z w:V):dS (some (.cells false [x,y,z,w])) hh id 0 a.enc=some (hh.set id (some (.cells false a.enc))):=by
 simp [dS,putAt,Cls.KE.enc]
theorem All2.ex {α β:Type}{R:α->β->Prop}{as:List α}{c:List β}(h:All2 R as c){a:α}(d:a∈as): ∃b∈c,R a b:=by
 obtain⟨i,hi,rfl⟩:=vJ.1 d;have e:=All2.length h;exact⟨c[i]'om,wT _,All2.get h i hi om⟩
theorem SI.lit {h:H}{v:V}{l:List Int}(s:SI h v l)(p:0<l.length): ∃id off m cap,v= .sl id off (m+1) cap/\m+1=l.length/\id<h.next/\ ∀i,i<l.length->h.cell id (off+i)=some (aB (l.getD i 0)):=by
 obtain⟨id,off,d,g,j⟩:=s.open;rcases s with ⟨_,g⟩|⟨b,a,len,cap,q,q,e,f,o,_⟩
 ·have:l.length=0:=by rw[←aL,g];rfl
  omega
 ·rw[aL,jY] at f
  have c:=d.ixa .i64 0 om om;subst e;rw[sD om om] at c;simp only[Option.some.injEq,V.ptr.injEq] at c;obtain⟨rfl,d⟩:=c;have k:a=off:=om
  subst k;exact⟨b,a,l.length- 1,cap,by rw[show l.length- 1+1=len by omega],om,o,j⟩
theorem of_ok {W0:Nat->Prop}(vc:V)(n:Nat)(O:LN)(R:jL)(G:List Nat->Prop)(h:H)(gc:GC W0 h vc n O R G):
  Ev T 56 [vc] h (λv h'=> ∃p K,v= .tup [p,aB 0]/\GrpO n G (cI O R n 0 (cG n)) K h' p/\IsK n G (cI O R n 0 (cG n)) K/\Fr h h'):=by
 refine of_walk vc n O R G h gc _ λL X D vL o h5 F A g m e=>?_
 rw[m]
 have hG:=gc.grp
 have E:=e.el
 obtain⟨vK,f,WK,gB,c2,aK,bK,m,wB,wN,wn,wX,xK⟩:=e.j.ex
 have N:=All2.length aK
 obtain⟨m,m⟩:=IP L.length
 have m:0<L.length:=Py ((E.mem _).2 hG.one)
 have c4:0<f.length:=by rw[N];exact Py (repsC_zero_mem m)
 obtain⟨S,Z,rfl,gS⟩: ∃id Y,vK= .sl id 0 f.length Y/\F.get id=some (.cells false (Cls.kflat f)):=by
  rcases xK with l|l
  ·subst l;simp at c4
  ·exact l
 have wS:=bK _ _ _ _ rfl
 have nS:=wn _ wS
 have c6:F.cell (X+8) 2=some (.sl S 0 f.length Z):=by rw[H.aG gB];rfl
 show Wp T none (afterB 2 c_classes_of.body) _ F _
 simp(disch:=omega)only[go_sem,afterB,endsB,c_classes_of,c6]
 have hR: ∀r∈repsC G L L.length,r<L.length/\isR G L r:=λr J=>repsC_mem.1 J
 have m: ∀a∈f,a.Pp F F.next S:=λa Q=>by
  obtain⟨r,J,k⟩:=All2.ex aK Q;obtain⟨a3,a2⟩:=hR r J;obtain⟨l1,l2⟩:=orbC_head hG E a3 a2;obtain⟨id,off,A,Y,e1,e2,e3,e4⟩:=SI.lit k.ranks.si (by rw[aQ];exact l1);have ho:=k.ranks.off;rw[e1] at ho;refine⟨id,off,A,Y,e1,e3,λl=>ho (l▸wS),?_⟩;have:=e4 0 (by rw[aQ];exact l1);rw[Nat.add_zero] at this;rw[this,zi,gd_map _ (d:=0) l1,l2,k.fst]
 refine (Cls.csort_ok F S F.next f Z (by rw[N];have:=repsC_len (G:=G) (L:=L) L.length;have:=e.le;omega) gS nS (fH _) m).mono ?_
 rintro _ w ⟨b,b6,pm,c9,F8⟩
 obtain⟨K,hK⟩:=IP (b.map (λa:Cls.KE=>a.fst))
 have W:K.length=f.length:=by rw[←hK,iK];exact pm.length_eq
 have m:f.map (λa:Cls.KE=>a.fst)=repsC G L L.length:=by
  refine List.ext_getElem (by rw[iK];exact N) λi l o=>?_
  rw[List.getElem_map];exact (All2.get aK i (by simpa using l) o).fst
 have pK:K.Perm (repsC G L L.length):=by rw[←hK,←m];exact pm.map _
 have kK: ∀a∈b,KO n G L X WK F a a.fst:=λa Q=>by
  obtain⟨r,J,k⟩:=All2.ex aK (pm.mem_iff.1 Q);rw[k.fst];exact k
 have m:Fx WK F w:=⟨F8.next,λq l o=>F8.get q l λh3=>o (by have:q=S:=h3;rw[this];exact wS)⟩
 have c0: ∀a∈b,KO n G L X WK w a a.fst:=λa Q=>(kK a Q).go m (by have:=wX S wS;omega) wX λ_ _ l=>l
 have m:=(c2.in _ _ _ _ rfl).2.1
 have m:=e.xD
 have m:=F8.next
 have P:w.get (X+8)=some (.cells false [vL,.mp (X+3),.sl S 0 f.length Z,.sl (X+6) 0 L.length (.kn L.length)]):=by
  rw[F8.get _ (wn _ wB) (λl=>by have:X+8=S:=l;omega)];exact gB
 have a9:w.cell (X+8) 2=some (.sl S 0 f.length Z):=by rw[H.aG P];rfl
 have f:F.get (X+6)=some (.cells false (rc L.length λ_=> aB 0)):=by
  rw[e.j.old.get _ (by rw[e.n5];omega) om];exact e.gN
 have c7:w.get (X+6)=some (.cells false (rc L.length λj=> aB (nuC G L K 0 0 j:Nat))):=by
  rw[F8.get _ (wn _ wN) (λl=>by have:X+6=S:=l;omega),f,show (λj=>aB (nuC G L K 0 0 j:Nat))=λ_=>aB 0 from funext λj=>by rw[nuC_zero];rfl]
 have b4: ∀k,k<K.length-> ∃a,b[k]? =some a/\KO n G L X WK w a (K.getD k 0):=λk hk=>by
  have u:k<b.length:=by rw[pm.length_eq,←W];exact hk
  refine⟨b[k],eX u,?_⟩;have:=c0 _ (wT u);have e2:K.getD k 0=(b[k]).fst:=by rw[Pm.bP hk];subst hK;rw[List.getElem_map]
  rw[e2];exact this
 have le:=e.le
 have f:K.length<=L.length:=by rw[W,N];exact repsC_len _
 have f:=wn _ wN
 rw[←W] at a9 P
 simp(disch:=omega)only[go_sem,a9]
 refine bW (λvs s=>(∃g:Nat->V,vs= [g 0,g 1,.nilp,aB 0,g 4,g 5,.ptr (X+8) 0,g 7,g 8,g 9,g 10,g 11,g 12,g 13,g 14,g 15,g 16,g 17,g 18,g 19,g 20,g 21,g 22,g 23,g 24,g 25,g 26,g 27,g 28,g 29,g 30,g 31,g 32,g 33,g 34,g 35,g 36,g 37,g 38,g 39,g 40,g 41,g 42,g 43,g 44,g 45])/\s.get (X+6)=some (.cells false (rc L.length λj=> aB (nuC G L K K.length 0 j:Nat)))/\Fx (· =X+6) w s) ?_ ?_
 ·refine aH (λk' vs s=> ∃(k:Nat),(∃g:Nat->V,vs= [g 0,g 1,.nilp,aB 0,g 4,g 5,.ptr (X+8) 0,g 7,g 8,g 9,g 10,g 11,g 12,g 13,g 14,g 15,g 16,g 17,g 18,g 19,g 20,g 21,g 22,g 23,g 24,g 25,g 26,g 27,g 28,g 29,g 30,g 31,g 32,g 33,g 34,g 35,g 36,g 37,.sl S 0 K.length Z,aB (K.length:Int),aB k,g 41,g 42,g 43,g 44,g 45])/\k<=K.length/\s.get (X+6)=some (.cells false (rc L.length λj=> aB (nuC G L K k 0 j:Nat)))/\Fx (· =X+6) w s/\k'=K.length-k) K.length
   ⟨0,aA rfl,eY _,c7,Fx.refl _ _,rfl⟩ ?_
  rintro k' B h9 ⟨k,⟨g,rfl⟩,hk,z,y,rfl⟩
  have n9:=y.next
  by_cases b1:(k:Int)<(K.length:Int)
  case neg=>
   have d4:=bM b1;obtain rfl:k=K.length:=om
   simp(disch:=omega)only[go_sem,d4];exact⟨aA rfl,z,y⟩
  have d4:=bV b1
  have u:k<K.length:=om
  obtain⟨a,ea,ko⟩:=b4 k u
  have f:k<b.length:=by rw[pm.length_eq,←W];exact u
  have a1:b[k]=a:=by rw[eX f] at ea;simpa using ea
  have m:h9.get S=some (.cells false (Cls.kflat b)):=by rw[y.get _ om (λl=>by have:S=X+6:=l;omega)];exact b6
  have a8:h9.row S (k*4) 4=some a.enc:=by
   have:=row_kflat (pre:= []) (by simpa using m) f;rw[a1] at this;simpa using this
  obtain⟨Y,hY⟩:=IP h9.next
  obtain⟨Q,a6,na,ga,oa,fa⟩:=dL hY [.aD,aB 0,aB 0,.aD]
  obtain⟨hb,b5,nb,gb,ob⟩:=nP Q Y a.enc
  have a5:hb.cell Y 3=some a.ranks:=by rw[H.aG gb];rfl
  have f:=ko.ranks.si.lens
  rw[aQ] at f
  obtain⟨r,J⟩:=IP (K.getD k 0)
  rw[J] at ko f
  simp(disch:=omega)only[go_sem,d4,a8,hY,a6,stV_ke,ga,put_ke,b5,a5,f]
  have f:r∈repsC G L L.length:=by rw[←J];exact pK.mem_iff.1 (getD_mem u)
  obtain⟨a3,a2⟩:=hR r f
  obtain⟨l1,l2⟩:=orbC_head hG E a3 a2
  obtain⟨U,a0,mR,b3,e1,e2,e3,e4⟩:=SI.lit ko.ranks.si (by rw[aQ];exact l1)
  have ho:=ko.ranks.off
  rw[e1] at ho
  have c3:U≠X+6:=λl=>ho (l▸wN)
  obtain⟨c,hc⟩:=IP ((orbC G L r).length)
  rw[aQ,hc] at e2 e4
  have f:c<=L.length:=by
   rw[←hc];have:=List.Nodup.length_le_of_subset (orbC_nodup (G:=G) (L:=L) r) (l₂:=List.range L.length) λj hj=>Ae.2 (orbC_mem.1 hj).1
   rwa [zE] at this
  rw[hc,e1]
  have Fb:Fx (· =X+6) w hb:=⟨om,λq l o=>by rw[ob q om,oa q om];exact y.get q l o⟩
  have a4:hb.get (X+6)=some (.cells false (rc L.length λj=> aB (nuC G L K k 0 j:Nat))):=by rw[ob _ om,oa _ om];exact z
  have c8: ∀s,Fx (· =X+6) w s->s.cell (X+8) 3=some (.sl (X+6) 0 L.length (.kn L.length)):=λs f=>by
   have:s.get (X+8)=w.get (X+8):=f.get _ (by have:=wn _ wB;omega) om;rw[H.aG (this.trans P)];rfl
  refine loop_end (λvs s=>(∃g:Nat->V,vs= [g 0,g 1,.nilp,aB 0,g 4,g 5,.ptr (X+8) 0,g 7,g 8,g 9,g 10,g 11,g 12,g 13,g 14,g 15,g 16,g 17,g 18,g 19,g 20,g 21,g 22,g 23,g 24,g 25,g 26,g 27,g 28,g 29,g 30,g 31,g 32,g 33,g 34,g 35,g 36,g 37,.sl S 0 K.length Z,aB (K.length:Int),aB k,g 41,g 42,g 43,g 44,g 45])/\s.get (X+6)=some (.cells false (rc L.length λj=> aB (nuC G L K (k+1) 0 j:Nat)))/\Fx (· =X+6) w s) ?_ ?_
  ·refine aH (λk' vs s=> ∃(t:Nat),(∃g:Nat->V,vs= [g 0,g 1,.nilp,aB 0,g 4,g 5,.ptr (X+8) 0,g 7,g 8,g 9,g 10,g 11,g 12,g 13,g 14,g 15,g 16,g 17,g 18,aB k,g 20,g 21,g 22,g 23,g 24,g 25,g 26,g 27,g 28,g 29,g 30,g 31,g 32,g 33,g 34,g 35,g 36,g 37,.sl S 0 K.length Z,aB (K.length:Int),aB k,g 41,.sl U a0 (mR+1) b3,aB c,aB t,g 45])/\t<=c/\s.get (X+6)=some (.cells false (rc L.length λj=> aB (nuC G L K k t j:Nat)))/\Fx (· =X+6) w s/\k'=c-t) c
    ⟨0,aA rfl,eY _,a4,Fb,rfl⟩ ?_
   clear a4 Fb gb ob a5 nb b5 ga oa fa na a6 a8 z y n9
   rintro k' B b2 ⟨t,⟨g2,rfl⟩,f,a7,Fc,rfl⟩
   by_cases b0:(t:Int)<(c:Int)
   case neg=>
    have d5:=bM b0;obtain rfl:t=c:=om
    simp(disch:=omega)only[go_sem,d5];refine⟨aA rfl,?_,Fc⟩;rw[a7,show (λj=>aB (nuC G L K k t j:Nat))=λj=>aB (nuC G L K (k+1) 0 j:Nat) from funext λj=>by rw[←nuC_next,J,hc]]
   have d5:=bV b0
   have f:t<c:=om
   obtain⟨x,hx⟩:=IP ((orbC G L r).getD t 0)
   have m:x<L.length:=by rw[←hx];exact (orbC_mem.1 (getD_mem om)).1
   have c5:b2.cell U (a0+t)=some (aB x):=by
    have r:=e4 t f;unfold H.cell at r ⊢;rw[Fc.get U e3 c3,r,zi,gd_map _ (d:=0) om,hx]
   have pt:=bE (vs:=rc L.length λj=> aB (nuC G L K k t j:Nat)) (off:=x) (by rw[cK];exact m)
   have f:(t:Int).toNat=t:=rfl
   simp(disch:=omega)only[go_sem,d5,c5,c8 b2 Fc,a7,pt]
   rw[dX t]
   refine⟨c-(t+1),om,t+1,aA rfl,om,?_,⟨Fc.next,λq l o=>by rw[H.aI _ o];exact Fc.get q l o⟩,rfl⟩
   rw[eG,aX λj hj=>?_]
   rw[nuC_step hG E pK u (by rw[J];omega),J,hx]
   by_cases c:j=x
   ·rw[aV c,aV c]
   ·rw[aZ c,aZ c]
  rintro B c ⟨⟨g2,rfl⟩,b8,Fd⟩
  simp(disch:=omega)only[go_sem]
  rw[dX k]
  exact⟨K.length-(k+1),om,k+1,aA rfl,om,b8,Fd,rfl⟩
 rintro B h9 ⟨⟨g,rfl⟩,z,y⟩
 have n9:=y.next
 simp(disch:=omega)only[go_sem]
 have c:=e.x2
 have o9: ∀q,q<D->q≠X+8->q≠X+6->h9.get q=h5.get q:=λq l o h3=>by
  rw[y.get q (by have:=e.j.nx;omega) h3,F8.get q (by have:=e.j.nx;omega) (λh4=>by have:q=S:=h4;omega),e.j.old.get q (by rw[e.n5];exact l) (λh4=>by rcases h4 with h4|h4;exact o h4;omega)]
 have c:=e.j.nx
 have b7:Fr o h9:=⟨om,λq c=>by rw[o9 q om om om];exact e.f25.get q c⟩
 have c1:Fx WK w h9:=⟨y.next,λq l o=>y.get q l λh3=>o (by have:q=X+6:=h3;rw[this];exact wN)⟩
 have d0:K.Nodup:=pK.nodup_iff.2 (by classical exact (by unfold repsC;exact List.Pairwise.filter _ List.nodup_range))
 have b9:b.length=K.length:=by rw[←hK,iK]
 refine⟨.ptr (X+8) 0,K,rfl,⟨X+8,X+3,X+6,S,Z,vL,b,rfl,om,om,om,om,?_,?_,?_,?_,?_,e.sp.mono b7⟩,⟨pK,?_⟩,e.f2.trans b7⟩
 ·rw[y.get _ om om];exact P
 ·rw[o9 _ om om om];exact e.gM
 ·rw[z,aX λj hj=>by rw[nuC_done hG E pK hj]]
 ·rw[y.get _ om om];exact b6
 ·refine All2.iC b9 λi l o=>?_
  obtain⟨a,ea,ko⟩:=b4 i o
  have a1:b[i]=a:=by rw[eX l] at ea;simpa using ea
  have c:=ko.go c1 om wX λ_ _ l=>l
  rw[Pm.bP o] at c
  rw[a1]
  exact⟨c.fst,c.ord,c.size,c.rep.si,c.ranks.si⟩
 ·have l:b.Pairwise λa b=>a.fst≠b.fst:=by
   have:=d0;rw[←hK] at this;exact List.pairwise_map.1 this
  rw[←hK,List.pairwise_map];refine List.Pairwise.imp_of_mem ?_ (List.Pairwise.and c9 l);rintro a b Q hb ⟨o,h3⟩;have e:=kK a Q;have c:=kK b hb;have h4: ¬(b.lt a=true):=by rw[o];simp
  rw[Cls.KE.lt_iff] at h4;unfold kLt;rw[←e.ord,←c.ord,←e.size,←c.size];omega
theorem kLt_asymm {n:Nat}{G:List Nat->Prop}{L:LN}{r s:Nat}(a:kLt n G L r s)(b:kLt n G L s r):False:=by
 unfold kLt at a b;omega
theorem IsK.uniq {n:Nat}{G:List Nat->Prop}{L:LN}{K c:List Nat}(a:IsK n G L K)(b:IsK n G L c):K=c:=
 (a.perm.trans b.perm.symm).eq_of_pairwise (λ_ _ _ _ e d=>(kLt_asymm e d).elim) a.asc b.asc
noncomputable def numsL (G:List Nat->Prop)(L:LN)(K:List Nat):List Nat:=(List.range L.length).map (numC G L K)
theorem rc_nums (G:List Nat->Prop)(L:LN)(K:List Nat):(rc L.length λj=>aB (numC G L K j:Nat))=ints (zi (numsL G L K)):=by
 refine xT (by rw[aL,aQ];simp [numsL]) λi hi=>?_
 rw[tY (by simpa [numsL] using hi)];have:(numsL G L K).getD i 0=numC G L K i:=by simp [numsL,hi]
 rw[this]
theorem map_ok {x:Nat->Prop}(g:V)(n:Nat)(O:LN)(R:jL)(G:List Nat->Prop)(h:H)(f:GC x h g n O R G)(L:LN)(s:cI O R n 0 (cG n)=L):
  Ev T 21 [g] h (λv h'=> ∃vl K,v= .tup [vl,aB 0]/\IsK n G L K/\SI h' vl (zi (numsL G L K))/\Fr h h'):=by
 obtain⟨c,d,e,A,o⟩:=f.ch
 subst e
 refine bH c_classes_Map rfl rfl ?_
 have b:c.one=true:=tH A
 have a:d.one=true:=sT o
 obtain⟨A,j⟩:=IP h.next
 obtain⟨y,p,e,l,e,k⟩:=dL j [aB n,c,d]
 have F:=bF h (v:= aB n) (u:=c) (w:=d) rfl b a
 have a:=aS l
 simp(disch:=omega)only[go_sem,c_classes_Map,aF,F,j,p,a]
 refine (of_ok _ n O R G y (f.mono k)).mono ?_
 rw[s]
 rintro _ q ⟨p,K,rfl,go,r,z⟩
 obtain⟨B,M,N,S,a,a,a,rfl,a,a,t,a,b,a,i,a,a,sp⟩:=go.ex
 have m:q.cell B 3=some (.sl N 0 L.length (.kn L.length)):=by rw[H.aG b];rfl
 simp(disch:=omega)only[go_sem]
 refine bB (λa=>(a rfl).elim) (λ_=>?_)
 simp(disch:=omega)only[go_sem,m]
 rw[rc_nums] at i
 exact⟨_,K,rfl,r,SV.all (by rw[aL,aQ];simp [numsL]) t i _,k.trans z⟩
def list3 (ks:List Cls.KE):List V:=ks.flatMap λa=> [a.rep,aB (a.ord:Int),aB (a.size:Int)]
theorem list3_len (ks:List Cls.KE):(list3 ks).length=ks.length*3:=by
 induction ks with
 |nil=>rfl
 |cons a r ih=>
  show ([a.rep,aB (a.ord:Int),aB (a.size:Int)]++list3 r).length=_;rw[jD,ih];show 3+r.length*3=(r.length+1)*3;omega
theorem row_ke3 {h:H}{Y:Nat}{ro:Bool}{a:Cls.KE}(g:h.get Y=some (.cells ro a.enc)):h.row Y 0 3=some [a.rep,aB (a.ord:Int),aB (a.size:Int)]:=by
 simp [H.row,g,sub,Cls.KE.enc]
theorem bls_three {v:V}(a:v.one=true)(x y:Int)(h:H):pF h 3 [.aD,aB 0,aB 0] 1 [(0,3,.agg [v,aB x,aB y])]=some (.sl h.next 0 1 (.kn 1),h.new (.cells false [v,aB x,aB y])):=by
 have e:dN [V.aD,aB 0,aB 0] 3= [V.aD,aB 0,aB 0]:=rfl;simp [pF,gG,putAt,e,a,show ∀l,(V.agg l).cells=l from λ_=>rfl,show ∀z,(aB z).one=true from λ_=>rfl]
theorem clist_bad (m:V)(d:Int)(O:List (List Int))(R:List (List (List Int)))(h:H)(c:ChI h m d O R)(q:d<=7∨64<d)(r:SmallO O)(sr:SmallR R)(l:chkE d O R≠0):
  Ev T 20 [m] h (λv h'=>v= .tup [.aD,aB (chkE d O R)]/\Fr h h'):=by
 have f:=c
 obtain⟨i,g,e,x,p⟩:=c
 subst e
 refine bH c_classes_List rfl rfl ?_
 have a:i.one=true:=tH x
 have b:g.one=true:=sT p
 obtain⟨B,k⟩:=IP h.next
 obtain⟨n,t,e,o,e,j⟩:=dL k [aB d,i,g]
 have s:=bF h (v:= aB d) (u:=i) (w:=g) rfl a b
 have a:=aS o
 simp(disch:=omega)only[go_sem,c_classes_List,aF,s,k,t,a]
 refine (of_bad _ d O R n (f.mono j) q r sr l).mono ?_
 rintro _ a ⟨rfl,a⟩
 simp(disch:=omega)only[go_sem]
 refine bB (λ_=>?_) (λc=>(c l).elim)
 simp(disch:=omega)only[go_sem]
 exact j.trans a
theorem clist_ok {W0:Nat->Prop}(vc:V)(n:Nat)(O:LN)(R:jL)(G:List Nat->Prop)(h:H)(r:GC W0 h vc n O R G)(L:LN)(hL:cI O R n 0 (cG n)=L):
  Ev T 20 [vc] h (λv h'=> ∃vl K ks,v= .tup [vl,aB 0]/\IsK n G L K/\SV h' vl 3 (list3 ks)/\All2 (KR n G L h') ks K/\Fr h h'):=by
 obtain⟨F,N,e,sO,A⟩:=r.ch
 subst e
 refine bH c_classes_List rfl rfl ?_
 have p:F.one=true:=tH sO
 have f:N.one=true:=sT A
 obtain⟨A,Z⟩:=IP h.next
 obtain⟨h1,e1,A,g1,A,f1⟩:=dL Z [aB n,F,N]
 have bx:=bF h (v:= aB n) (u:=F) (w:=N) rfl p f
 have f:=aS g1
 simp(disch:=omega)only[go_sem,c_classes_List,aF,bx,Z,e1,f]
 refine (of_ok _ n O R G h1 (r.mono f1)).mono ?_
 rw[hL]
 rintro _ c ⟨p,K,rfl,go,ik,f2⟩
 obtain⟨B,M,N,S,cp,f,ks,rfl,f,f,f,hS,f,p,p,gS,aK,sp⟩:=go.ex
 have c2:c.cell B 2=some (.sl S 0 K.length cp):=by rw[H.aG f];rfl
 have f:=All2.length aK
 have f:K.length<=5040:=by
  have h1:=ik.perm.length_eq;have c:=repsC_len (G:=G) (L:=L) L.length;have f:=szF_fact r;have f:=(eJ r.grp r.isc).2;rw[hL] at f;omega
 simp(disch:=omega)only[go_sem]
 refine bB (λf=>(f rfl).elim) (λ_=>?_)
 simp(disch:=omega)only[go_sem,c2]
 refine bW (λp f=> ∃b,(∃g:Nat->V,p= [g 0,g 1,g 2,g 3,g 4,g 5,b,g 7,g 8,g 9,g 10,g 11,g 12])/\SV f b 3 (list3 ks)/\Fr c f) ?_ ?_
 ·refine aH (λY p f=> ∃(k:Nat) (b:V),(∃g:Nat->V,p= [g 0,g 1,g 2,g 3,.ptr B 0,g 5,b,g 7,g 8,.sl S 0 K.length cp,aB (K.length:Int),aB k,g 12])/\k<=K.length/\Own f b 3 (list3 (ks.take k)) c.next/\Fr c f/\Y=K.length-k) K.length
   ⟨0,.aD,aA rfl,eY _,Own.aD _ _ _,Fr.refl _,rfl⟩ ?_
  rintro Y i j ⟨k,b,⟨g,rfl⟩,f,t,d,rfl⟩
  by_cases l:(k:Int)<(K.length:Int)
  case neg=>
   have P:=bM l;obtain rfl:k=K.length:=om
   simp(disch:=omega)only[go_sem,P];rw[yR om] at t;exact⟨b,aA rfl,t.sv,d⟩
  have P:=bV l
  have f:k<K.length:=om
  have o:k<ks.length:=om
  obtain⟨a,ea⟩:=IP (ks[k])
  have f:j.get S=bX (Cls.kflat ks):=by rw[d.get _ hS];exact gS
  have a0:j.row S (k*4) 4=some a.enc:=by
   have:=row_kflat (pre:= []) (by simpa using f) o;rw[ea] at this;simpa using this
  obtain⟨Y,hY⟩:=IP j.next
  obtain⟨f,U,l,ga,l,p⟩:=dL hY [.aD,aB 0,aB 0,.aD]
  obtain⟨p,W,A,gb,A⟩:=nP f Y a.enc
  obtain⟨Z,hZ⟩:=IP p.next
  obtain⟨f,J,p,x,p,B⟩:=dL hZ [a.rep,aB (a.ord:Int),aB (a.size:Int)]
  have s:Fr j f:=⟨om,λq hq=>by rw[p q om,A q om,l q om]⟩
  have l:Own f b 3 (list3 (ks.take k)) c.next:=t.fr s
  obtain⟨hd,ad,z⟩:=l.push (bytes:=40) (y:= .sl Z 0 1 (.kn 1)) (us:= [a.rep,aB (a.ord:Int),aB (a.size:Int)]) (SV.all rfl om x _) (n:=k) (m:=1) (by rw[list3_len,xV];omega) rfl om om om
  simp(disch:=omega)only[go_sem,P,a0,hY,U,stV_ke,ga,put_ke,W,row_ke3 gb,bls_three a.hrep.2.1,hZ,J,ad]
  rw[dX k]
  have el:list3 (ks.take (k+1))=list3 (ks.take k)++ [a.rep,aB (a.ord:Int),aB (a.size:Int)]:=by
   rw[List.take_succ_eq_append_getElem o,ea];simp [list3]
  have a:=d.next
  have nd:=z.next
  have Q:Fr c hd:=⟨om,λq hq=>by rw[z.old q om (λid a a c e a=>by have:=(t.in _ _ _ _ e).2.1;omega),s.get q om];exact d.get q hq⟩
  exact⟨K.length-(k+1),om,k+1,_,aA rfl,om,by rw[el];exact z.own (by rw[list3_len,xV];omega) rfl om,Q,rfl⟩
 rintro i j ⟨b,⟨g,rfl⟩,sv,d⟩
 simp(disch:=omega)only[go_sem]
 exact⟨b,K,ks,rfl,ik,sv,aK.mono λ_ _ k=>k.mono d,(f1.trans f2).trans d⟩
section
variable {h:H} {n:Nat}
theorem u8_rc:([.int .u8 0,.int .u8 0,.int .u8 0,.int .u8 0,.int .u8 0,.int .u8 0,.int .u8 0,.int .u8 0,.int .u8 0,.int .u8 0,.int .u8 0,.int .u8 0,.int .u8 0,.int .u8 0,.int .u8 0,.int .u8 0,.int .u8 0,.int .u8 0,.int .u8 0,.int .u8 0,.int .u8 0,.int .u8 0,.int .u8 0,.int .u8 0,.int .u8 0,.int .u8 0,.int .u8 0,.int .u8 0,.int .u8 0,.int .u8 0,.int .u8 0,.int .u8 0,.int .u8 0,.int .u8 0,.int .u8 0,.int .u8 0,.int .u8 0,.int .u8 0,.int .u8 0,.int .u8 0,.int .u8 0,.int .u8 0,.int .u8 0,.int .u8 0,.int .u8 0,.int .u8 0,.int .u8 0,.int .u8 0,.int .u8 0,.int .u8 0,.int .u8 0,.int .u8 0,.int .u8 0,.int .u8 0,.int .u8 0,.int .u8 0,.int .u8 0,.int .u8 0,.int .u8 0,.int .u8 0,.int .u8 0,.int .u8 0,.int .u8 0,.int .u8 0]:List V)=rc 64 λ_=> .int .u8 0:=rfl
def kyV (x:List Nat):V:= .agg (rc 64 λi=> .int .u8 ((x.getD i 0:Nat):Int))
theorem row_all {id:Nat}{ws:List V}(b:ws.length=n)(a:h.get id=some (.cells false ws)):h.row id 0 n=some ws:=by
 unfold H.row;rw[a];simp only[sub];rw[aV om,List.drop_zero,yR om]
theorem putO_all {vs ws:List V}(a:vs.length=n)(h2:ws.length=n)(h:H)(id:Nat):dS (some (.cells false vs)) h id 0 ws=some (h.set id (some (.cells false ws))):=by
 simp only[dS,putAt];rw[aV om,Option.map_some,List.take_zero,List.nil_append,List.drop_of_length_le om,pN]
theorem rc_one {f:Nat->V}(b: ∀i,(f i).one=true):(rc n f).all V.one=true:=by
 rw[yQ];intro v a;obtain⟨i,_,rfl⟩:=pU.1 a;exact b i
set_option maxHeartbeats 8000000
theorem keyOf_ok (u:V)(n:Nat)(x:List Nat)(h:H)(Z:n<=64)(X:bT n x)(z:SI h u (zi x)):
  Ev T 40 [u] h (λv h'=>v=kyV x/\Fr h h'):=by
 refine bH c_algebra_keyOf rfl rfl ?_
 have l:=X.len
 have r:=z.lens
 rw[aQ,l] at r
 obtain⟨id,off,o,b,w⟩:=z.open
 rw[aQ,l] at o b w
 obtain⟨A,s⟩:=IP h.next
 obtain⟨g,N,g,B,Y,P⟩:=dL s (rc 64 λ_=> .int .u8 0)
 obtain⟨Y,f,U,G,O,R⟩:=dL g (rc 64 λ_=> .int .u8 0)
 simp(disch:=omega)only[go_sem,c_algebra_keyOf,aF,u8_rc,s,N,g,f,r]
 refine aH (λp a g=> ∃(i:Nat),(∃j:Nat->V,a= [j 0,.ptr A 0,.ptr (A+1) 0,j 3,j 4,u,aB n,aB i,j 8])/\i<=n/\
   g.get (A+1)=some (.cells false (rc 64 λj=> .int .u8 ((if j<i then x.getD j 0 else 0:Nat):Int)))/\g.get A=some (.cells false (rc 64 λ_=> .int .u8 0))/\g.next=A+1+1/\Fr h g/\p=n-i) n
  ⟨0,aA rfl,eY _,G,by rw[O A om];exact B,U,P.trans R,rfl⟩ ?_
 rintro p a d ⟨i,⟨j,rfl⟩,hi,t,y,Q,F,rfl⟩
 by_cases c:(i:Int)<(n:Int)
 ·have k:=bV c
  have a:i<n:=om
  have ci:d.cell id (off+i)=some (aB (x.getD i 0:Nat)):=by rw[F.cell (b om),w i a];congr 2;simp [zi,l,a]
  have r:x.getD i 0<n:=X.dZ a
  obtain⟨p,q⟩:=IP (x.getD i 0)
  rw[q] at ci r
  have a:=bE (vs:=rc 64 λj=> .int .u8 ((if j<i then x.getD j 0 else 0:Nat):Int)) (off:=i) (by rw[cK];omega) d (A+1) (.int .u8 (p:Int))
  rw[eG] at a
  simp(disch:=omega)only[go_sem,k,o.ixa,ci,wrap_u8_in,t,a]
  rw[dX i]
  refine⟨n-(i+1),om,i+1,aA rfl,om,?_,?_,Q,F.set om _,rfl⟩
  ·congr 2
   refine aX λj W=>?_
   by_cases e:j=i
   ·rw[aV e,aV om,e,q]
   ·rw[aZ e]
    by_cases f:j<i
    ·rw[aV f,aV om]
    ·rw[aZ f,aZ om]
  ·exact y
 have k:=bM c
 obtain rfl:i=n:=om
 have m:=row_all (n:=64) (by rw[cK]) t
 have J:(rc 64 λj=>V.int .u8 ((if j<i then x.getD j 0 else 0:Nat):Int))=rc 64 λj=> .int .u8 ((x.getD j 0:Nat):Int):=by
  refine aX λj W=>?_
  by_cases e:j<i
  ·rw[aV e]
  ·rw[aZ e,Cs,List.getElem?_eq_none om];rfl
 rw[J] at m
 have L:=putO_all (vs:=rc 64 λ_=> .int .u8 0) (ws:=rc 64 λj=> .int .u8 ((x.getD j 0:Nat):Int)) (n:=64) (by rw[cK]) (by rw[cK]) d A
 have K:=pY d A 0 64 (rc 64 λj=> .int .u8 ((x.getD j 0:Nat):Int)) (by rw[cK]) (rc_one λ_=>rfl)
 simp(disch:=omega)only[go_sem,k,m,K,y,L]
 have a:=row_all (h:=d.set A (some (.cells false (rc 64 λj=> .int .u8 ((x.getD j 0:Nat):Int))))) (n:=64) (by rw[cK]) (H.aT ..)
 simp(disch:=omega)only[go_sem,a]
 exact⟨rfl,F.set om _⟩
theorem quot_ok (u w:V)(n:Nat)(x y:List Nat)(h:H)(hn:n<=64)(X:bT n x)(Y:bT n y)(W:SI h u (zi x))(hw:SI h w (zi y)):
  Ev T 80 [u,w] h (λv h'=>v=kyV (bD (dH x) y)/\Fr h h'):=by
 refine bH c_algebra_quotient rfl rfl ?_
 have r:=X.len
 have R:=W.lens
 rw[aQ,r] at R
 obtain⟨id,off,G,l,U⟩:=W.open
 rw[aQ,r] at G l U
 have O:=Y.len
 obtain⟨t,m,g,c,f⟩:=hw.open
 rw[aQ,O] at g c f
 have Q:=X.inv.mul Y
 obtain⟨A,K⟩:=IP h.next
 obtain⟨q,e1,q,g1,o1,f1⟩:=dL K (rc 64 λ_=> .int .u8 0)
 obtain⟨h2,o,n2,g2,o2,f2⟩:=dL q (rc 64 λ_=> .int .u8 0)
 simp(disch:=omega)only[go_sem,c_algebra_quotient,aF,u8_rc,K,e1,q,o,R]
 refine aH (λJ a q=> ∃(i:Nat),(∃j:Nat->V,a= [j 0,w,.ptr A 0,.ptr (A+1) 0,j 4,j 5,u,aB n,aB i,j 9])/\i<=n/\
   q.get (A+1)=some (.cells false (rc 64 λj=> .int .u8 ((if x.idxOf j<i then (bD (dH x) y).getD j 0 else 0:Nat):Int)))/\q.get A=some (.cells false (rc 64 λ_=> .int .u8 0))/\q.next=A+1+1/\Fr h q/\J=n-i) n
  ⟨0,aA rfl,eY _,g2,by rw[o2 A om];exact g1,n2,f1.trans f2,rfl⟩ ?_
 rintro J a d ⟨i,⟨j,rfl⟩,hi,L,N,n3,F,rfl⟩
 by_cases k:(i:Int)<(n:Int)
 ·have z:=bV k
  have a:i<n:=om
  have ci:d.cell id (off+i)=some (aB (x.getD i 0:Nat)):=by rw[F.cell (l om),U i a];congr 2;simp [zi,r,a]
  have r:x.getD i 0<n:=X.dZ a
  obtain⟨p,s⟩:=IP (x.getD i 0)
  rw[s] at ci r
  have l:d.cell t (m+i)=some (aB (y.getD i 0:Nat)):=by rw[F.cell (c om),f i a];congr 2;simp [zi,O,a]
  have c:y.getD i 0<n:=Y.dZ a
  have ip:x.idxOf p=i:=by rw[←lQ om,←s];exact nH X a
  have P:(bD (dH x) y).getD p 0=y.getD i 0:=by rw[cX (by rw[X.inv.len];exact r),←s,nH X a]
  obtain⟨q,a⟩:=IP (y.getD i 0)
  rw[a] at l c P
  have a:=bE (vs:=rc 64 λj=> .int .u8 ((if x.idxOf j<i then (bD (dH x) y).getD j 0 else 0:Nat):Int)) (off:=p) (by rw[cK];omega) d (A+1) (.int .u8 (q:Int))
  rw[eG] at a
  simp(disch:=omega)only[go_sem,z,G.ixa,ci,g.ixa,l,wrap_u8_in,L,a]
  rw[dX i]
  refine⟨n-(i+1),om,i+1,aA rfl,om,?_,?_,n3,F.set om _,rfl⟩
  ·congr 2
   refine aX λj hj=>?_
   by_cases e:j=p
   ·rw[aV e,aV (by rw[e,ip];omega),e,P]
   ·rw[aZ e]
    have ne:x.idxOf j≠i:=λh=>e (by
     by_cases b:j<n
     ·rw[←s,←h,←lQ om,DY X b]
     ·have:x.idxOf j=x.length:=List.idxOf_eq_length λa=>b (X.lt j a)
      omega)
    by_cases o:x.idxOf j<i
    ·rw[aV o,aV om]
    ·rw[aZ o,aZ om]
  ·exact N
 have z:=bM k
 obtain rfl:i=n:=om
 have B:=row_all (n:=64) (by rw[cK]) L
 have Z:(rc 64 λj=>V.int .u8 ((if x.idxOf j<i then (bD (dH x) y).getD j 0 else 0:Nat):Int))=rc 64 λj=> .int .u8 (((bD (dH x) y).getD j 0:Nat):Int):=by
  refine aX λj hj=>?_
  by_cases e:x.idxOf j<i
  ·rw[aV e]
  ·have b: ¬j<i:=λb=>e (by rw[←lQ om];exact X.inv.dZ b)
   rw[aZ e,Cs,List.getElem?_eq_none (by rw[Q.len];omega)];rfl
 rw[Z] at B
 have pa:=putO_all (vs:=rc 64 λ_=> .int .u8 0) (ws:=rc 64 λj=> .int .u8 (((bD (dH x) y).getD j 0:Nat):Int)) (n:=64) (by rw[cK]) (by rw[cK]) d A
 have sa:=pY d A 0 64 (rc 64 λj=> .int .u8 (((bD (dH x) y).getD j 0:Nat):Int)) (by rw[cK]) (rc_one λ_=>rfl)
 simp(disch:=omega)only[go_sem,z,B,sa,N,pa]
 have a:=row_all (h:=d.set A (some (.cells false (rc 64 λj=> .int .u8 (((bD (dH x) y).getD j 0:Nat):Int))))) (n:=64) (by rw[cK]) (H.aT ..)
 simp(disch:=omega)only[go_sem,a]
 exact⟨rfl,F.set om _⟩
theorem sp_open {v:V}{L:LN}(s:SP h v L):cV v=some (aB (L.length:Int))/\dJ v v=true/\ ∃(id off:Nat) (ws:List V),Sl v 1 L.length id off/\ ∀i,i<L.length->id<h.next/\h.cell id (off+i)=some (ws.getD i V.undef)/\SI h (ws.getD i V.undef) (zi (L.getD i [])):=by
 have f:=s.lens;rw[iK] at f;obtain⟨id,off,ws,d,b,c,e,a⟩:=s.open;rw[iK] at d b c e;obtain⟨c,c,_⟩:=s;exact⟨f,SV.dJ c,id,off,ws,d,λi hi=>⟨b om,e i hi,sp_at a hi⟩⟩
theorem eqVs_map {α:Type}(f g:α->V): ∀l:List α,nJ (l.map f) (l.map g)=l.all λi=>dJ (f i) (g i)
 | []=>rfl
 |a::l=>by
  rw[List.map_cons,List.map_cons,List.all_cons,←eqVs_map f g l]
  rfl
theorem kyV_eq (f:n<=64)(a b:List Nat)(A:bT n a)(B:bT n b):dJ (kyV a) (kyV b)=decide (a=b):=by
 show nJ (rc 64 _) (rc 64 _)=_;unfold rc;rw[eqVs_map,wW,yQ,Cr];constructor
 ·intro h
  refine List.ext_getElem (by rw[A.len,B.len]) λi c d=>?_
  have:=h i (Ae.2 (by have:=A.len;omega));have e:((a.getD i 0:Nat):Int)=((b.getD i 0:Nat):Int):=by simpa [dJ] using this
  rw[Pm.bP c,Pm.bP d] at e;omega
 ·rintro rfl i _
  simp [dJ]
theorem kyV_key (e:n<=64)(a:List Nat)(A:bT n a):isKey (.arr 64 .u8) (kyV a)=true:=by
 unfold isKey kyV;simp only;rw[cK,bV rfl,Bool.true_and,yQ];intro v b;obtain⟨i,hi,rfl⟩:=pU.1 b
 have:a.getD i 0<256:=by
  by_cases h:i<a.length
  ·have:=A.dZ (i:=i) (by rw[←A.len];exact h);omega
  ·rw[Cs,List.getElem?_eq_none om];decide
 have d:IntKind.min .u8=0:=rfl;have c:IntKind.max .u8=255:=rfl;simp only[d,c,pQ,Cr];exact⟨trivial,om,om⟩
structure DatO (n:Nat)(G:List Nat->Prop)(L:LN)(K:List Nat)(hh:H)(D:Nat):Prop where
 ex: ∃vL vC M l ks,hh.get D=some (.cells false [vL,vC,.mp M])/\D<hh.next/\M<hh.next/\SP hh vL L/\SV hh vC 3 (list3 ks)/\All2 (KR n G L hh) ks K/\hh.get M=some (.wmap (.arr 64 .u8) (gH kyV l))/\(∀p∈l,bT n p.1)/\ ∀i,i<L.length->Cc l (L.getD i [])=some (aB (numC G L K i:Nat))
theorem DatO.mono {G:List Nat->Prop}{L:LN}{K:List Nat}{h':H}{D:Nat}(d:DatO n G L K h D)(f:Fr h h'):DatO n G L K h' D:=by
 obtain⟨k,q,M,l,c,g,a,b,j,m,o,p,i,e⟩:=d.ex;exact⟨k,q,M,l,c,by rw[f.get _ a];exact g,iO a f.next,iO b f.next,j.mono f,m.mono f,o.mono λ_ _ k=>KR.mono k f,by rw[f.get _ b];exact p,i,e⟩
theorem class_ok (D:Nat)(u:V)(n:Nat)(G:List Nat->Prop)(L:LN)(K:List Nat)(x:List Nat)(h:H)(e:n<=64)(d:DatO n G L K h D)(X:bT n x)(r:x∈L)(i:SI h u (zi x)):
  Ev T 47 [.ptr D 0,u] h (λv h'=>v= aB (numC G L K (L.idxOf x):Nat)/\Fr h h'):=by
 refine bH c_algebra_data_class rfl rfl ?_
 obtain⟨p,s,M,l,f,g,c,q,f,f,f,t,o,m⟩:=d.ex
 have k:=i.dJ
 simp(disch:=omega)only[go_sem,c_algebra_data_class,aF,H.aG g]
 have b:=(Fr.refl h).bL (n:=h.next+8) om
 refine (keyOf_ok u n x _ e X (i.mono b)).mono ?_
 rintro _ a ⟨rfl,f⟩
 have F:=b.trans f
 have j:a.get D=some (.cells false [p,s,.mp M]):=by rw[F.get _ c];exact g
 have c:a.get M=some (.wmap (.arr 64 .u8) (gH kyV l)):=by rw[F.get _ q];exact t
 have a:=List.idxOf_lt_length_of_mem r
 have f:L.getD (L.idxOf x) []=x:=by rw[Cs,eX a];exact List.getElem_idxOf a
 have b:=m (L.idxOf x) a
 rw[f] at b
 have f:=λz=>oA (kyV_eq e) (λa A=>kyV_key e a A) (P:=bT n) o X z
 rw[b] at f
 simp(disch:=omega)only[go_sem,H.aG j,k,c,f]
 exact⟨by simp [dJ],rfl,F⟩
end
set_option maxHeartbeats 16000000
theorem load_bad (j:V)(d:Int)(O:List (List Int))(R:List (List (List Int)))(h:H)(l:ChI h j d O R)(p:d<=7∨64<d)(q:SmallO O)(sr:SmallR R)(k:chkE d O R≠0):
  Ev T 38 [j] h (λv h'=>v= .tup [.nilp,aB (chkE d O R)]/\Fr h h'):=by
 have c:=l
 obtain⟨f,e,rfl,t,o⟩:=l
 refine bH c_algebra_load rfl rfl ?_
 have a:f.one=true:=tH t
 have b:e.one=true:=sT o
 obtain⟨B,i⟩:=IP h.next
 obtain⟨m,s,o,n,o,g⟩:=dL i [aB d,f,e]
 have r:=bF h (v:= aB d) (u:=f) (w:=e) rfl a b
 simp(disch:=omega)only[go_sem,c_algebra_load,aF,r,i,s,aS n]
 refine (clist_bad _ d O R m (c.mono g) p q sr k).mono ?_
 rintro _ a ⟨rfl,b⟩
 have a:=bV k
 simp(disch:=omega)only[go_sem,a]
 exact g.trans b
theorem bld_dat {v:V}(M:Nat)(b:v.cells= [v])(a:v.one=true):kU [.aD,.aD,.nilm] [(1,1,v),(2,1,.mp M)]=some (.agg [.aD,v,.mp M]):=by
 simp [kU,gG,putAt,b,a,show (V.mp M).cells= [V.mp M] from rfl,show (V.mp M).one=true from rfl]
theorem load_ok {W0:Nat->Prop}(vc:V)(n:Nat)(O:LN)(R:jL)(G:List Nat->Prop)(h:H)(z:GC W0 h vc n O R G)(L:LN)(hL:cI O R n 0 (cG n)=L):
  Ev T 38 [vc] h (λv h'=> ∃K,IsK n G L K/\Fr h h'/\(64<K.length/\v= .tup [.nilp,aB 5]∨K.length<=64/\ ∃D,v= .tup [.ptr D 0,aB 0]/\DatO n G L K h' D)):=by
 have p:=z
 obtain⟨vO,vR,rfl,sO,sR⟩:=z.ch
 refine bH c_algebra_load rfl rfl ?_
 have b2:vO.one=true:=tH sO
 have f:vR.one=true:=sT sR
 have n7:=z.n7
 have hG:=z.grp
 obtain⟨E,ll⟩:=eJ z.grp z.isc
 have b7:=szF_fact z
 rw[hL] at E ll
 obtain⟨B,hB⟩:=IP h.next
 obtain⟨o,e1,n1,g1,o1,f1⟩:=dL hB [aB n,vO,vR]
 have bx:=bF h (v:= aB n) (u:=vO) (w:=vR) rfl b2 f
 have rB: ∀y,Fr o y->y.row B 0 3=some [aB n,vO,vR]:=λy f=>aS (by rw[f.get B om];exact g1)
 simp(disch:=omega)only[go_sem,c_algebra_load,aF,bx,hB,e1,rB o (Fr.refl _)]
 refine (clist_ok _ n O R G o (p.mono f1) L hL).mono ?_
 rintro _ a ⟨m,K,ks,rfl,ik,s4,a4,f2⟩
 have f:=All2.length a4
 have B:K.length<=5040:=by
  rw[ik.perm.length_eq];unfold repsC;exact jC (List.length_filter_le _ _) (by rw[zE];omega)
 have s:cV m=some (aB (K.length:Int)):=by unfold cV;rw[SV.len s4 (n:=ks.length) (list3_len ks) om,f];rfl
 have w4:=s4.dC
 simp(disch:=omega)only[go_sem]
 refine bB (λN=>(N rfl).elim) (λ_=>?_)
 by_cases f:(64:Int)<(K.length:Int)
 ·have d1:=bV f
  simp(disch:=omega)only[go_sem,s,d1]
  exact⟨K,ik,f1.trans f2,.inl ⟨om,trivial⟩⟩
 have d1:=bM f
 obtain⟨M,hM⟩:=IP a.next
 obtain⟨f,e3⟩:=IP (a.new (.wmap (.arr 64 .u8) []))
 have n3:f.next=M+1:=by rw[←e3,H.aY,hM]
 have g3:f.get M=some (.wmap (.arr 64 .u8) []):=by rw[←e3,←hM];exact H.aN a _
 have B: ∀k,k≠M->f.get k=a.get k:=λk hk=>by rw[←e3];exact H.bJ a om _
 obtain⟨P,e4,n4,g4,o4,f4⟩:=dL n3 [.aD,m,.mp M]
 have a5:Fr a P:=⟨om,λq Z=>by rw[o4 q om,B q om]⟩
 have a9:=f2.trans a5
 have ba:=rT f [.aD,m,.mp M] (by simp [w4.2.1,show V.aD.one=true from rfl,show (V.mp M).one=true from rfl])
 simp(disch:=omega)only[go_sem,s,d1,hM,e3,bld_dat M w4.1 w4.2.1,ba,n3,e4,rB P a9]
 refine (list_ok _ n O R G P (p.mono (f1.trans a9))).mono ?_
 rw[hL]
 rintro _ h5 ⟨b,rfl,f⟩
 have pl:=f.pl
 have f5:=f.fr
 have wL:b.cells= [b]/\b.one=true:=by obtain⟨ws,s,_⟩:=pl;exact⟨s.dC.1,s.dC.2.1⟩
 have f:=f5.next
 have g5:h5.get (M+1)=bX [.aD,m,.mp M]:=by rw[f5.get _ om];exact g4
 obtain⟨h6,f,s,g6,o6⟩:=nP h5 (M+1) [b,m,.mp M]
 have p6:dS (bX [.aD,m,.mp M]) h5 (M+1) 0 [b]=some h6:=by rw[bE (by simp),←f];rfl
 have b0:Fr a h6:=⟨om,λq Z=>by rw[o6 q om,f5.get q om];exact a5.get q Z⟩
 have f:=f2.trans b0
 simp(disch:=omega)only[go_sem,g5,fZ wL.1 wL.2,p6,rB h6 f]
 refine (map_ok _ n O R G h6 (p.mono (f1.trans f)) L hL).mono ?_
 rintro _ Y ⟨v7,f,rfl,b4,s7,f7⟩
 obtain rfl:=ik.uniq b4
 have f:=f7.next
 have b5:=b0.trans f7
 have g7:Y.get (M+1)=bX [b,m,.mp M]:=by rw[f7.get _ om];exact g6
 have U:Y.get M=some (.wmap (.arr 64 .u8) []):=by rw[f7.get _ om,o6 _ om,f5.get _ om,o4 _ om];exact g3
 have a2:PL (λid=>id<P.next) Y b L:=by
  refine PL.go pl ⟨om,λid o a=>?_⟩ (λid o a=>a);rw[f7.get _ om,o6 _ om]
 have f:=a2.sp
 obtain⟨p,s,b6,a6,ws,a3,cL⟩:=sp_open f
 have f:(zi (numsL G L K)).length=L.length:=by rw[aQ];simp [numsL]
 obtain⟨a1,r,Q,c,a8⟩:=s7.open
 rw[f] at Q c a8
 have b3:=s7.dJ
 simp(disch:=omega)only[go_sem,H.aG g7,p]
 have nM: ∀{id f:Nat} {v:V},Y.cell id f=some v->id≠M:=λN e=>by
  rw[e] at N;unfold H.cell at N;rw[U] at N;cases N
 refine aH (λk' t y=> ∃(i:Nat) (l:List (List Nat×V)),(∃g:Nat->V,t= [g 0,g 1,g 2,g 3,g 4,g 5,.ptr (M+1) 0,v7,g 8,g 9,g 10,g 11,b,aB (L.length:Int),aB i,g 15])/\i<=L.length/\y.get M=some (.wmap (.arr 64 .u8) (gH kyV l))/\(∀p∈l,bT n p.1)/\(∀j,j<i->Cc l (L.getD j [])=some (aB (numC G L K j:Nat)))/\Fx (· =M) Y y/\k'=L.length-i) L.length
  ⟨0, [],aA rfl,eY _,U,λ_ h=>(by cases h),λj hj=>om,Fx.refl _ _,rfl⟩ ?_
 rintro k' t J ⟨i,l,⟨g,rfl⟩,hi,gM,kl,lk,F,rfl⟩
 have f:=F.next
 have A:Fr a J:=⟨om,λq Z=>by rw[F.get q om (by show q≠M;omega)];exact b5.get q Z⟩
 have a0:PL (λid=>id<P.next) J b L:=PL.go a2 ⟨f,λid o a=>F.get id o (λe=>a (by rw[e];show M<P.next;omega))⟩ (λid o a=>a)
 have g8:J.get (M+1)=bX [b,m,.mp M]:=by rw[F.get _ om (by show M+1≠M;omega)];exact g7
 by_cases a7:(i:Int)<(L.length:Int)
 case neg=>
  have d3:=bM a7;obtain rfl:i=L.length:=om
  simp(disch:=omega)only[go_sem,d3];refine⟨K,ik,(f1.trans f2).trans ⟨om,λq Z=>A.get q om⟩|>.trans (Fr.refl _),.inr ⟨om,M+1,rfl,?_⟩⟩;exact⟨b,m,M,l,ks,g8,om,om,a0.sp,s4.mono A,a4.mono λ_ _ k=>KR.mono k A,gM,kl,lk⟩
 have d3:=bV a7
 have d:i<L.length:=om
 obtain⟨_,_,b6,a6,ws,a3,cL⟩:=sp_open a0.sp
 obtain⟨a,c1,s1⟩:=cL i d
 generalize ws.getD i V.undef=f at c1 s1
 have X:=el_isP hG E d
 obtain⟨x,hx⟩:=IP (L.getD i [])
 rw[hx] at s1 X
 have a:=a8 i d
 rw[show (zi (numsL G L K)).getD i 0=((numC G L K i:Nat):Int) from by simp [numsL,zi,d]] at a
 have cN:J.cell a1 (r+i)=some (aB (numC G L K i:Nat)):=by rw[F.cell (c om) (nM a)];exact a
 have ex:=s1.dJ
 simp(disch:=omega)only[go_sem,d3,a3.ixa,c1,H.aG g8,Q.ixa,cN]
 have fb:=(Fr.refl J).bL (n:=J.next+11) om
 refine (keyOf_ok f n x _ om X (s1.mono fb)).mono ?_
 rintro _ h9 ⟨rfl,a⟩
 have F9:=fb.trans a
 have g:h9.get (M+1)=bX [b,m,.mp M]:=by rw[F9.get _ om];exact g8
 have b:h9.get M=some (.wmap (.arr 64 .u8) (gH kyV l)):=by rw[F9.get _ om];exact gM
 have f:h9.cell a1 (r+i)=some (aB (numC G L K i:Nat)):=by rw[F9.cell (by have:=c om;omega)];exact cN
 have c:=λy=>Xu (kyV_eq (n:=n) om) (λa A=>kyV_key (n:=n) om a A) kl X (aB (numC G L K i:Nat)) y M
 simp(disch:=omega)only[go_sem,H.aG g,f,b3,b,c]
 rw[dX i]
 refine⟨by simp [dJ],L.length-(i+1),om,i+1,_,aA rfl,om,rfl,xB X kl,λj hj=>?_,(F.trans (Fx.of (W:=(· =M)) F9) λ_ _ h=>h).trans (Fx.set h9 (W:=(· =M)) rfl _) (λ_ _ h=>h),rfl⟩
 rw[yU]
 by_cases e:L.getD j []=x
 ·rw[aV e,nd_inj E.nodup om d (e.trans hx.symm)]
 ·rw[aZ e]
  refine lk j ?_
  rcases Nat.lt_or_ge j i with h|h
  ·exact h
  ·exact absurd (by rw[show j=i by omega];exact hx) e
set_option maxRecDepth 100000
set_option maxRecDepth 100000
theorem ordP_420 {n:Nat}{a:List Nat}(A:bT n a)(e:n<=7):dW a n∣420:=by
 unfold dW;rw[pD];intro c b;obtain⟨l,d,rfl⟩:=pU.1 b;obtain⟨i,hi,rfl⟩:=pU.1 d;have b:i<n:=by unfold yS at hi;exact Ae.1 (Sq.1 hi).1
 rw[iZ];have c:=(iT A b).1;have d:=zZ A b;have: ∀k,k<8->0<k->k∣420:=by decide
 exact this _ om c
set_option maxRecDepth 100000
theorem pw_sq {n:Nat}{a:List Nat}(A:bT n a): ∀k,pw n (bD a a) k=pw n a (2*k)
 |0=>rfl
 |k+1=>by
  show bD (pw n (bD a a) k) (bD a a)=pw n a (2*k+2);rw[pw_sq A k,←bN (iB A _) A A];rfl
theorem pw_one' {n:Nat}{a:List Nat}(A:bT n a):pw n a 1=a:=fG A
theorem el_first {n:Nat}{G:List Nat->Prop}{L:LN}(d:mD n G)(E:eQ G L):0<L.length/\L.getD 0 []=cG n:=by
 have c:=(E.mem _).2 d.one;have a:=Py c;refine⟨a,?_⟩;obtain⟨i,hi,e⟩:=vJ.1 c;have b:L.getD 0 []=L[0]:=by rw[List.getD,eX a];rfl
 by_cases h:i=0
 ·subst h;rw[b,e]
 ·have c:=Po.1 E.asc 0 i a hi om
  rw[e] at c;have X:=el_isP d E a;rw[b] at X;rcases one_le X with a|a
  ·rw[b,←a]
  ·exact (c.asymm a).elim
section
variable {n:Nat} {G:List Nat->Prop} {L:LN} (hG:mD n G) (E:eQ G L)
end
set_option maxRecDepth 100000
set_option maxRecDepth 100000
structure Plc (l:LN)(x:List Nat)(k:Nat):Prop where
 le:k<=l.length
 lo: ∀i,i<k->lessB (l.getD i []) x=true
 hi: ∀i,k<=i->i<l.length->lessB (l.getD i []) x=false
theorem place_ok (B y:V)(n:Nat)(l:LN)(x:List Nat)(h:H)(hn:n<1000)(hl:l.length<1000000)(hP: ∀g∈l,bT n g)(X:bT n x)(Q:l.Pairwise Lt)(hv:SP h B l)(hx:SI h y (zi x)):
  Ev T 54 [B,y] h (λv h'=> ∃k:Nat,v= .tup [aB k,.bool (decide (x∈l))]/\Plc l x k/\(x∈l->k<l.length/\l.getD k []=x)/\Fr h h'):=by
 obtain⟨N,sv,R⟩:=hv
 have f:=All2.length R
 rw[iK] at f
 refine bH c_kit_place rfl rfl ?_
 have P:cV B=some (aB (l.length:Int)):=by unfold cV;rw[SV.len sv (n:=l.length) om om];rfl
 obtain⟨id,Z,sh,U,hc⟩:=SV.shape sv l.length om om
 have a: ∀i,i<l.length->(l.getD i []).length=n:=λi hi=>(hP _ (getD_mem hi)).len
 have mono: ∀i j,i<j->j<l.length->Lt (l.getD i []) (l.getD j []):=λi j s b=>by
  have ei:l.getD i []=l[i]:=by rw[List.getD,eX om];rfl
  have ej:l.getD j []=l[j]:=by rw[List.getD,eX b];rfl
  rw[ei,ej];exact Po.1 Q i j om b s
 have cell: ∀p,Fr h p-> ∀i,i<l.length->p.cell id (Z+i)=some (N.getD i .undef):=λp f i hi=>by
  rw[f.cell (U om),hc i om];simp [List.getD,show i<N.length by omega]
 simp(disch:=omega)only[go_sem,c_kit_place,aF,P]
 refine bW (λf p=> ∃k,(∃g:Nat->V,f= [B,y,g 2,g 3,aB (k:Nat),g 5,g 6,g 7,g 8])/\Plc l x k/\Fr h p) ?_ ?_
 ·refine aH (λk' d p=> ∃(i j:Nat),(∃g:Nat->V,d= [B,y,g 2,g 3,aB i,aB j,g 6,g 7,g 8])/\i<=j/\j<=l.length/\(∀q,q<i->lessB (l.getD q []) x=true)/\(∀q,j<=q->q<l.length->lessB (l.getD q []) x=false)/\Fr h p/\k'=j-i) l.length
   ⟨0,l.length,aA rfl,om,om,λm hm=>om,λm s b=>om,Fr.refl h,rfl⟩ ?_
  rintro k' d p ⟨i,j,⟨g,rfl⟩,f,hj,A,K,F,rfl⟩
  by_cases J:(i:Int)<(j:Int)
  case neg=>
   have r:=bM J;obtain rfl:i=j:=om
   simp(disch:=omega)only[go_sem,r];exact⟨i,aA rfl,⟨hj,A,K⟩,F⟩
  have r:=bV J
  obtain⟨m,hm⟩:=IP ((i+j)/2)
  have ea:(i:Int)+(j:Int)=((i+j:Nat):Int):=om
  have G:((i+j:Nat):Int).tdiv 2=(m:Int):=by rw[Int.tdiv_eq_ediv_of_nonneg om];omega
  have z:=cell p F m om
  have sm:=sp_at R (i:=m) om
  generalize N.getD m .undef=Y at z sm
  simp(disch:=omega)only[go_sem,r,ea,G,sh.ixa,z]
  refine (less_ok Y y n _ x p om (a m om) X.len (sm.mono F) (hx.mono F)).mono ?_
  rintro _ u ⟨rfl,O⟩
  cases hl2:lessB (l.getD m []) x with
  |true=>
   simp(disch:=omega)only[go_sem];rw[dX m];refine⟨j-(m+1),om,m+1,j,aA rfl,om,hj,λq W=>?_,K,F.trans O,rfl⟩
   by_cases e:q=m
   ·rw[e];exact hl2
   ·have s:=mono q m om om
    have b:=(lessB_iff (by rw[a m om,X.len])).1 hl2;exact (lessB_iff (by rw[a q om,X.len])).2 (Lt.trans (by rw[a q om,a m om]) s b)
  |false=>
   simp(disch:=omega)only[go_sem];refine⟨m-i,om,i,m,aA rfl,om,om,A,λq s b=>?_,F.trans O,rfl⟩
   by_cases e:q=m
   ·rw[e];exact hl2
   ·rw[←Bool.not_eq_true]
    intro u;have o:=mono m q om b;have w:=(lessB_iff (by rw[a q b,X.len])).1 u;rw[(lessB_iff (by rw[a m om,X.len])).2 (Lt.trans (by rw[a q b,a m om]) o w)] at hl2;cases hl2
 rintro d b ⟨k,⟨g,rfl⟩,L,F⟩
 have c:x∈l->k<l.length/\l.getD k []=x:=λd=>by
  obtain⟨q,W,eq⟩:=vJ.1 d;have t:l.getD q []=x:=by rw[List.getD,eX W,←eq];rfl
  have s:k<=q:=Nat.le_of_not_lt λu=>by
   have:=L.lo q u;rw[t,lessB_self] at this;cases this
  have b:k=q:=Nat.le_antisymm s (Nat.le_of_not_lt λu=>by
   have o:=mono k q u W;rw[t] at o;have w:=L.hi k (fH _) om;rw[(lessB_iff (by rw[a k om,X.len])).2 o] at w
   cases w)
  exact⟨om,by rw[b];exact t⟩
 by_cases hk:(k:Int)<(l.length:Int)
 ·have r:=bV hk
  have z:=cell b F k om
  have sm:=sp_at R (i:=k) om
  generalize N.getD k .undef=Y at z sm
  simp(disch:=omega)only[go_sem,P,r,sh.ixa,z]
  refine (same_ok Y y _ _ b (sm.mono F) (hx.mono F) (by rw[aQ,a k om];omega) (by rw[aQ,X.len];omega)).mono ?_
  rintro _ u ⟨rfl,O⟩
  have G:decide (zi (l.getD k [])=zi x)=decide (x∈l):=by
   rw[decide_eq_decide];constructor
   ·intro o
    have w:l.getD k []=x:=List.map_inj_right (λu v b=>om)|>.1 o;rw[←w];exact getD_mem om
   ·intro o;rw[(c o).2]
  simp(disch:=omega)only[go_sem,G]
  exact⟨k,rfl,L,c,F.trans O⟩
 ·have r:=bM hk
  have G:decide (x∈l)=false:=bM λo=>by have:=(c o).1;omega
  simp(disch:=omega)only[go_sem,P,r]
  exact⟨k,by rw[G],L,c,F⟩
theorem index_ok (e b:V)(n:Nat)(l:LN)(x:List Nat)(h:H)(i:n<1000)(m:l.length<1000000)(o: ∀g∈l,bT n g)(X:bT n x)(c:l.Pairwise Lt)(f:SP h e l)(p:SI h b (zi x)):
  Ev T 109 [e,b] h (λv h'=>((∃k:Nat,v= aB k/\k<l.length/\l.getD k []=x)∨x∉l/\v= aB (-1))/\Fr h h'):=by
 refine bH c_kit_Index rfl rfl ?_
 simp(disch:=omega)only[go_sem,c_kit_Index,aF]
 refine (place_ok e b n l x h i m o X c f p).mono ?_
 rintro _ q ⟨k,rfl,q,j,F⟩
 by_cases a:x∈l
 ·have d:=bV a
  simp(disch:=omega)only[go_sem,d]
  exact⟨.inl ⟨k,rfl,j a⟩,F⟩
 ·have d:=bM a
  simp(disch:=omega)only[go_sem,d]
  exact⟨.inr ⟨a,trivial⟩,F⟩
theorem sameRows_gen {g:Nat}(N:T g=some c_kit_SameLists_int)(u w:V)(a b:List (List Int))(h:H)(hu:SR h u a)(hw:SR h w b)(la:a.length<1000000)(lb:b.length<1000000)(ra: ∀x∈a,x.length<1000000)(rb: ∀x∈b,x.length<1000000):
  Ev T g [u,w] h (λv h'=>v= .bool (decide (a=b))/\Fr h h'):=by
 refine yH N rfl ?_
 have t:=hu.lens
 have lw:=hw.lens
 obtain⟨Q,B,aa⟩:=hu
 obtain⟨R,P,ab⟩:=hw
 have a0:=All2.length aa
 have a0:=All2.length ab
 obtain⟨id,s,sh,p,hc⟩:=SV.shape B a.length om om
 obtain⟨n,k,A,f,U⟩:=SV.shape P b.length om om
 by_cases B:(a.length:Int)=(b.length:Int)
 case neg=>
  have P:=bV B;simp(disch:=omega)only[go_sem,c_kit_SameLists_int,aF,t,lw,P];exact⟨by rw[bM];intro e;exact B (by rw[e]),Fr.refl h⟩
 have J:a.length=b.length:=om
 have P:decide ((a.length:Int)≠(b.length:Int))=false:=bM (by simpa using B)
 simp(disch:=omega)only[go_sem,c_kit_SameLists_int,aF,t,lw,P]
 refine aH (λk' d c=> ∃(i:Nat),(∃g:Nat->V,d= [u,w,g 2,aB i,g 4,g 5,g 6])/\i<=a.length/\(∀j,j<i->a.getD j []=b.getD j [])/\Fr h c/\k'=a.length-i) a.length
  ⟨0,aA rfl,eY _,λj hj=>om,Fr.refl h,rfl⟩ ?_
 rintro k' d c ⟨i,⟨g,rfl⟩,hi,Z,F,rfl⟩
 by_cases r:(i:Int)<(a.length:Int)
 case neg=>
  have L:=bM r;obtain rfl:i=a.length:=om
  simp(disch:=omega)only[go_sem,t,L]
  have:a=b:=by
   refine List.ext_getElem J λj d B=>?_
   have:=Z j d;rwa [List.getD,eX d,List.getD,eX B] at this
  exact⟨by rw[bV this],F⟩
 have L:=bV r
 have G:c.cell id (s+i)=some (Q.getD i .undef):=by
  rw[F.cell (p om),hc i om];simp [List.getD,show i<Q.length by omega]
 have K:c.cell n (k+i)=some (R.getD i .undef):=by
  rw[F.cell (f om),U i om];simp [List.getD,show i<R.length by omega]
 have W:=Hf aa (i:=i) om
 have Y:=Hf ab (i:=i) om
 generalize Q.getD i .undef=va at G W
 generalize R.getD i .undef=vb at K Y
 have o:=W.dJ
 have q:=Y.dJ
 simp(disch:=omega)only[go_sem,t,L,sh.ixa,G,A.ixa,K]
 refine (same_ok va vb _ _ _ (W.mono (F.trans ((Fr.refl c).bL om))) (Y.mono (F.trans ((Fr.refl c).bL om))) (ra _ (getD_mem om)) (rb _ (getD_mem om))).mono ?_
 rintro _ z ⟨rfl,r⟩
 have F3:=F.trans (((Fr.refl c).bL om).trans r)
 have l:z.cell id (s+i)=some va:=by
  have d:Fr c z:=((Fr.refl c).bL om).trans r;rw[d.cell (by have:=p om;have:=F.next;omega)];exact G
 have m:z.cell n (k+i)=some vb:=by
  have d:Fr c z:=((Fr.refl c).bL om).trans r;rw[d.cell (by have:=f om;have:=F.next;omega)];exact K
 by_cases y:a.getD i []=b.getD i []
 ·have O:=bV y
  simp(disch:=omega)only[go_sem,O,l,m,o,q]
  rw[dX i]
  refine⟨a.length-(i+1),om,i+1,aA rfl,om,λj hj=>?_,F3,rfl⟩
  by_cases e:j=i
  ·rw[e];exact y
  ·exact Z j om
 ·have O:=bM y
  simp(disch:=omega)only[go_sem,O,l,m,o,q]
  exact⟨by rw[bM];intro e;exact y (by rw[e]),F3⟩
theorem sameLists_ok (u w:V)(a b:List (List Int))(h:H)(e:SR h u a)(g:SR h w b)(d:a.length<1000000)(lb:b.length<1000000)(f: ∀x∈a,x.length<1000000)(c: ∀x∈b,x.length<1000000):
  Ev T 32 [u,w] h (λv h'=>v= .bool (decide (a=b))/\Fr h h'):=sameRows_gen (rfl:T 32=some c_kit_SameLists_int) u w a b h e g d lb f c
theorem samePerms_ok (u w:V)(a b:List (List Int))(h:H)(e:SR h u a)(g:SR h w b)(d:a.length<1000000)(lb:b.length<1000000)(f: ∀x∈a,x.length<1000000)(c: ∀x∈b,x.length<1000000):
  Ev T 167 [u,w] h (λv h'=>v= .bool (decide (a=b))/\Fr h h'):=sameRows_gen (rfl:T 167=some c_kit_SamePerms) u w a b h e g d lb f c
theorem sameChain_ok (v1 v2:V)(G L:Int)(O1 O2:List (List Int))(b d:List (List (List Int)))(h:H)(c1:ChI h v1 G O1 b)(c2:ChI h v2 L O2 d)(b4:SmallO O1)(b5:SmallO O2)(O:SmallRR b)(N:SmallRR d):
  Ev T 126 [v1,v2] h (λv h'=>v= .bool (decide (G=L/\O1=O2/\b=d))/\Fr h h'):=by
 obtain⟨W,K,e,sO,sR⟩:=c1
 subst e
 obtain⟨uO,R,e,tO,tR⟩:=c2
 subst e
 refine bH c_kit_SameChain rfl rfl ?_
 have b9:W.one=true:=tH sO
 have a4:K.one=true:=sT sR
 have Q:uO.one=true:=by obtain⟨_,t,_⟩:=tO;exact t.dC.2.1
 have l:R.one=true:=by obtain⟨_,t,_⟩:=tR;exact t.dC.2.1
 have a8:dJ K K=true:=by obtain⟨_,t,_⟩:=sR;exact t.dJ
 have z:dJ R R=true:=by obtain⟨_,t,_⟩:=tR;exact t.dJ
 obtain⟨A,hA⟩:=IP h.next
 obtain⟨h1,Z,n1,g1,o1,f1⟩:=dL hA [aB G,W,K]
 obtain⟨c,e2,n2,g2,o2,f2⟩:=dL n1 [aB L,uO,R]
 have bx:=λa:H=>bF a (v:= aB G) (u:=W) (w:=K) rfl b9 a4
 have a6:=λa:H=>bF a (v:= aB L) (u:=uO) (w:=R) rfl Q l
 have F2:=f1.trans f2
 have gA:c.get A=bX [aB G,W,K]:=by rw[o2 _ om];exact g1
 have a0: ∀a,Fr c a->a.cell A 0=some (aB G):=λa f=>by rw[f.cell om,H.aG gA];rfl
 have a1: ∀a,Fr c a->a.cell A 1=some W:=λa f=>by rw[f.cell om,H.aG gA];rfl
 have Y: ∀a,Fr c a->a.cell A 2=some K:=λa f=>by rw[f.cell om,H.aG gA];rfl
 have b0: ∀a,Fr c a->a.cell (A+1) 0=some (aB L):=λa f=>by rw[f.cell om,H.aG g2];rfl
 have b1: ∀a,Fr c a->a.cell (A+1) 1=some uO:=λa f=>by rw[f.cell om,H.aG g2];rfl
 have b2: ∀a,Fr c a->a.cell (A+1) 2=some R:=λa f=>by rw[f.cell om,H.aG g2];rfl
 have l:=Fr.refl c
 by_cases hd:G=L
 case neg=>
  have Q:=bV hd;simp(disch:=omega)only[go_sem,c_kit_SameChain,aF,bx,a6,hA,Z,n1,e2,a0 c l,b0 c l,Q,lW];exact⟨by rw[bM];exact λx=>hd x.1,F2⟩
 have Q:decide (G≠L)=false:=bM (by simpa using hd)
 simp(disch:=omega)only[go_sem,c_kit_SameChain,aF,bx,a6,hA,Z,n1,e2,a0 c l,b0 c l,a1 c l,b1 c l,Q]
 have mem: ∀{l:List (List Int)},(∀i,i<l.length->(l.getD i []).length<1000000)-> ∀x∈l,x.length<1000000:=λhl x r=>by
  obtain⟨i,hi,rfl⟩:=vJ.1 r;have:=hl i hi;rwa [List.getD,eX hi] at this
 refine (sameLists_ok W uO O1 O2 c (sO.mono F2) (tO.mono F2) b4.1 b5.1 (mem b4.2) (mem b5.2)).mono ?_
 rintro _ h3 ⟨rfl,f3⟩
 obtain⟨wR,b8,aR,_⟩:=sR
 obtain⟨zR,J,a7,_⟩:=tR
 have l:=O.1
 have l:=N.1
 have l:=All2.length aR
 have l:=All2.length a7
 have o:cV K=some (aB (b.length:Int)):=by unfold cV;rw[SV.len b8 (n:=b.length) om om];rfl
 have a3:cV R=some (aB (d.length:Int)):=by unfold cV;rw[SV.len J (n:=d.length) om om];rfl
 have F3:=F2.trans f3
 by_cases hO:O1=O2
 case neg=>
  have l:=bM hO;simp(disch:=omega)only[go_sem,l,lW];exact⟨by rw[bM];exact λx=>hO x.2.1,F3⟩
 have l:=bV hO
 by_cases hl:(b.length:Int)=(d.length:Int)
 case neg=>
  have K:=bV hl;simp(disch:=omega)only[go_sem,l,Y h3 f3,b2 h3 f3,o,a3,K];exact⟨by rw[bM];exact λx=>hl (by rw[x.2.2]),F3⟩
 have K:decide ((b.length:Int)≠(d.length:Int))=false:=bM (by simpa using hl)
 have c3:b.length=d.length:=om
 obtain⟨id,c5,sh,c6,hc⟩:=SV.shape b8 b.length om om
 obtain⟨c0,b7,c7,b6,c4⟩:=SV.shape J d.length om om
 simp(disch:=omega)only[go_sem,l,Y h3 f3,b2 h3 f3,o,a3,K]
 refine aH (λk' B a=> ∃(i:Nat),(∃g:Nat->V,B= [g 0,g 1,.ptr A 0,.ptr (A+1) 0,g 4,aB i,g 6,g 7,g 8])/\i<=b.length/\(∀j,j<i->b.getD j []=d.getD j [])/\Fr h3 a/\k'=b.length-i) b.length
  ⟨0,aA rfl,eY _,λj hj=>om,Fr.refl h3,rfl⟩ ?_
 rintro k' B a ⟨i,⟨g,rfl⟩,hi,hs,F,rfl⟩
 have p:=f3.trans F
 by_cases b3:(i:Int)<(b.length:Int)
 case neg=>
  have Z:=bM b3;obtain rfl:i=b.length:=om
  simp(disch:=omega)only[go_sem,Y a p,o,Z]
  have:b=d:=by
   refine List.ext_getElem c3 λj h1 c=>?_
   have:=hs j h1;rwa [List.getD,eX h1,List.getD,eX c] at this
  exact⟨by rw[bV ⟨hd,hO,this⟩],F3.trans F⟩
 have Z:=bV b3
 have P:i<b.length:=om
 have y: ∀r,Fr h r->r.cell id (c5+i)=some (wR.getD i .undef):=λr f=>by
  rw[f.cell (c6 om),hc i om];simp [List.getD,show i<wR.length by omega]
 have q: ∀r,Fr h r->r.cell c0 (b7+i)=some (zR.getD i .undef):=λr f=>by
  rw[f.cell (b6 om),c4 i om];simp [List.getD,show i<zR.length by omega]
 have g: ∀{c:List V} {R:List (List (List Int))},All2 (SR h) c R->i<R.length->SR h (c.getD i .undef) (R.getD i []):=λ{c R} f c=>by
  have h1:=All2.length f;have:=All2.get f i om c;rw[List.getD,List.getD,eX om,eX c];exact this
 have s1:=g aR P
 have s2:=g a7 om
 generalize wR.getD i .undef=va at y s1
 generalize zR.getD i .undef=c at q s2
 have a5:dJ va va=true:=by obtain⟨_,t,_⟩:=s1;exact t.dJ
 have a9:dJ c c=true:=by obtain⟨_,t,_⟩:=s2;exact t.dJ
 have Fh:=F3.trans F
 simp(disch:=omega)only[go_sem,Y a p,b2 a p,o,Z,sh.ixa,c7.ixa,y a Fh,q a Fh]
 refine (samePerms_ok va c _ _ _ (s1.mono (Fh.trans ((Fr.refl a).bL om))) (s2.mono (Fh.trans ((Fr.refl a).bL om))) (O.2 i P).1 (N.2 i om).1 (mem (O.2 i P).2) (mem (N.2 i om).2)).mono ?_
 rintro _ s ⟨rfl,c⟩
 have f4:Fr a s:=((Fr.refl a).bL om).trans c
 have m:=p.trans f4
 have k:=Fh.trans f4
 by_cases he:b.getD i []=d.getD i []
 ·have U:decide (b.getD i []=d.getD i [])=true:=bV he
  simp(disch:=omega)only[go_sem,U,Y s m,b2 s m,y s k,q s k,a5,a9,a8,z]
  rw[dX i]
  refine⟨b.length-(i+1),om,i+1,aA rfl,om,λj hj=>?_,F.trans f4,rfl⟩
  by_cases e:j=i
  ·rw[e];exact he
  ·exact hs j om
 ·have U:decide (b.getD i []=d.getD i [])=false:=bM he
  simp(disch:=omega)only[go_sem,U,Y s m,b2 s m,y s k,q s k,a5,a9,a8,z]
  exact⟨by rw[bM];exact λx=>he (by rw[x.2.2]),k⟩
set_option maxRecDepth 100000
theorem kstrong_ok {W:Nat->Prop}(vc:V)(n:Nat)(O:LN)(R:jL)(G:List Nat->Prop)(h:H)(d:GC W h vc n O R G):
  Ev T 122 [vc] h (λv h'=>SP h' v R.flatten/\Fr h h'):=by
 obtain⟨x,o,e,sO,Q⟩:=d.ch
 subst e
 refine bH c_kit_Strong rfl rfl ?_
 have s:x.one=true:=tH sO
 have f:o.one=true:=sT Q
 obtain⟨t,p,U,_⟩:=Q
 have n7:=d.n7
 have Q:=d.isc.lr
 have lw:=All2.length U
 rw[iK,Q] at lw
 obtain⟨A,hA⟩:=IP h.next
 obtain⟨r,e1,Q,g1,Q,z⟩:=dL hA [aB n,x,o]
 have bx:=bF h (v:= aB n) (u:=x) (w:=o) rfl s f
 have j:cV o=some (aB n):=by unfold cV;rw[SV.len p (n:=n) om om];rfl
 obtain⟨id,l,sh,P,hc⟩:=SV.shape p n om om
 have a2: ∀b,Fr r b->b.cell A 2=some o:=λb f=>by rw[f.cell om,H.aG g1];rfl
 have Y: ∀i,i<n->(R.getD i []).length<=n/\0<(R.getD i []).length:=λi hi=>by
  refine⟨?_,(first_one d.grp d.isc hi).1⟩;rw[d.isc.rl i hi];have:=orb_len (λx f=>d.grp.isP f) hi (d.isc.asc i hi) (d.isc.mem i hi);omega
 have fl: ∀i,i<=n->((R.take i).flatten).length<=i*n:=λi hi=>by
  induction i with
  |zero=>simp
  |succ i ih=>
   have r:=(Y i om).1;rw[take_getD [] om,List.flatten_append,jD,Nat.succ_mul];have:=ih om;simp only[List.flatten_cons,List.flatten_nil,pN];omega
 simp(disch:=omega)only[go_sem,c_kit_Strong,aF,bx,hA,e1]
 refine aH (λZ c b=> ∃(i:Nat) (K:V) (a:List V),(∃g:Nat->V,c= [g 0,.ptr A 0,g 2,K,aB i,g 5])/\i<=n/\Own b K 1 a r.next/\All2 (SI h) a (((R.take i).flatten).map zi)/\Fr r b/\Z=n-i) n
  ⟨0,.aD, [],aA rfl,eY _,Own.aD _ _ _,trivial,Fr.refl r,rfl⟩ ?_
 rintro Z c b ⟨i,K,a,⟨g,rfl⟩,hi,L,y,F,rfl⟩
 by_cases k:(i:Int)<(n:Int)
 case neg=>
  have J:=bM k;obtain rfl:i=n:=om
  simp(disch:=omega)only[go_sem,a2 b F,j,J];rw[yR om] at y;exact⟨⟨a,L.sv,y.mono λ_ _ s=>s.mono (z.trans F)⟩,z.trans F⟩
 have J:=bV k
 have N:i<n:=om
 have cc:b.cell id (l+i)=some (t.getD i .undef):=by
  rw[(z.trans F).cell (P om),hc i om];simp [List.getD,show i<t.length by omega]
 have sr:SR h (t.getD i .undef) ((R.getD i []).map zi):=by
  have c:=All2.get U i om (by rw[iK];omega);rw[List.getElem_map] at c;rw[List.getD,List.getD,eX om,eX om];exact c
 generalize t.getD i .undef=c at cc sr
 obtain⟨g,si,ai⟩:=sr
 have c:=All2.length ai
 rw[iK] at c
 have f:=Y i N
 have c:=All2.length y
 rw[iK] at c
 have c:=fl i om
 have c:i*n<=7*7:=Nat.mul_le_mul om n7
 have c:=z.trans F
 obtain⟨k,k,B⟩:=L.push (bytes:=24) (si.mono c) (n:=a.length) (m:=(R.getD i []).length) om om om f.2 om
 simp(disch:=omega)only[go_sem,a2 b F,j,J,sh.ixa,cc,k]
 rw[dX i]
 have b:=F.next
 have nd:=B.next
 refine⟨n-(i+1),om,i+1,_,a++g,aA rfl,om,B.own om om om,?_,⟨om,λq hq=>?_⟩,rfl⟩
 ·rw[take_getD [] om,List.flatten_append,List.map_append]
  simp only[List.flatten_cons,List.flatten_nil,pN]
  exact All2.append y ai
 ·rw[B.old q om (λid l a c e a=>by have:=(L.in _ _ _ _ e).2.1;omega)]
  exact F.get q hq
theorem rgcd_ok (a b:Nat)(h:H)(l:a<1000000)(k:b<1000000):Ev T 162 [aB a,aB b] h (λv h'=>v= aB (Nat.gcd a b:Nat)/\Fr h h'):=by
 refine bH c_ref01_gcd rfl rfl ?_;simp(disch:=omega)only[go_sem,c_ref01_gcd,aF];refine aH (λc d j=> ∃(x y:Nat),(∃g:Nat->V,d= [aB x,aB y,g 2,g 3])/\x<1000000/\y<1000000/\Nat.gcd x y=Nat.gcd a b/\Fr h j/\c=y) b
  ⟨a,b,aA rfl,l,k,rfl,Fr.refl h,rfl⟩ ?_
 rintro c d j ⟨x,y,⟨g,rfl⟩,d,m,i,F,n⟩;subst n
 by_cases e:(c:Int)=0
 ·have f:decide ((c:Int)≠0)=false:=bM (by simpa using e)
  obtain rfl:c=0:=om
  simp(disch:=omega)only[go_sem,f];rw[←i,Nat.gcd_zero_right];exact⟨rfl,F⟩
 ·have f:=bV e
  have g:(x:Int).tmod (c:Int)=((x%c:Nat):Int):=tmod_nat x c;have d:=Nat.mod_lt x (show c>0 by omega);simp(disch:=omega)only[go_sem,f,e,g];exact⟨x%c,d,c,x%c,aA rfl,m,om,by rw[Nat.gcd_comm,←Nat.gcd_rec,Nat.gcd_comm];exact i,F.bL om,rfl⟩
theorem list3_at {ks:List Cls.KE}{i:Nat}(hi:i<ks.length):(list3 ks)[i*3]? =some ks[i].rep/\(list3 ks)[i*3+1]? =some (aB (ks[i].ord:Int))/\(list3 ks)[i*3+2]? =some (aB (ks[i].size:Int)):=by
 induction ks generalizing i with
 |nil=>simp at hi
 |cons a r ih=>
  have e:list3 (a::r)= [a.rep,aB (a.ord:Int),aB (a.size:Int)]++list3 r:=rfl
  cases i with
  |zero=>exact⟨rfl,rfl,rfl⟩
  |succ i=>
   have b:=ih (i:=i) (by simpa using hi);rw[e,show (i+1)*3=i*3+3 by omega];refine⟨?_,?_,?_⟩
   ·rw[Dw (by simp)];exact b.1
   ·rw[Dw (by simp)];exact b.2.1
   ·rw[Dw (by simp)];exact b.2.2
noncomputable def quK (G:List Nat->Prop)(L:LN)(K:List Nat)(a k:Nat):Nat:=numC G L K (L.idxOf (bD (dH (L.getD a [])) (L.getD (K.getD k 0) [])))
noncomputable def cstA (G:List Nat->Prop)(L:LN)(K:List Nat)(i k t j:Nat):Nat:=((List.range t).filter λa=>decide (numC G L K a=i/\quK G L K a k=j)).length
noncomputable def cstK (G:List Nat->Prop)(L:LN)(K:List Nat)(i j k:Nat):Nat:=cstA G L K i k L.length j
section
variable {n:Nat} {G:List Nat->Prop} {L:LN} {K:List Nat}
theorem cstA_succ (i k t j:Nat):cstA G L K i k (t+1) j=cstA G L K i k t j+if numC G L K t=i/\quK G L K t k=j then 1 else 0:=by
 unfold cstA;rw[List.range_succ,List.filter_append,jD]
 by_cases h:numC G L K t=i/\quK G L K t k=j<;>simp [h]
theorem cstA_le (i k t j:Nat):cstA G L K i k t j<=t:=by
 unfold cstA;exact jC (List.length_filter_le _ _) (by rw[zE];exact fH _)
def pkV (p:Nat×Nat):V:= .agg [aB (p.1:Int),aB (p.2:Int)]
def PkP (p:Nat×Nat):Prop:=p.1<1000000/\p.2<1000000
theorem pkV_eq (a b:Nat×Nat)(_:PkP a)(_:PkP b):dJ (pkV a) (pkV b)=decide (a=b):=by
 show nJ [_,_] [_,_]=_;simp only[nJ,dJ,Bool.and_true,beq_self_eq_true,Bool.true_and];rw[wW,pQ,beq_iff_eq,beq_iff_eq,Cr,Prod.ext_iff];omega
theorem pkV_key (a:Nat×Nat)(h:PkP a):isKey (.arr 2 .i64) (pkV a)=true:=by
 obtain⟨d,d⟩:=h;unfold isKey pkV;have c:IntKind.min .i64= -9223372036854775808:=rfl;have b:IntKind.max .i64=9223372036854775807:=rfl;simp only[List.all_cons,List.all_nil,c,b,Bool.and_true,pQ,Cr];exact⟨rfl,⟨trivial,om,om⟩,trivial,om,om⟩
theorem bld_pk (x y:Int):kU [aB 0,aB 0] [(0,1,aB x),(1,1,aB y)]=some (.agg [aB x,aB y]):=rfl
theorem row3c {h:H}{id o:Nat}{a b c:V}(g:h.cell id o=some a)(d:h.cell id (o+1)=some b)(f:h.cell id (o+2)=some c):h.row id o 3=some [a,b,c]:=by
 unfold H.cell at g d f;unfold H.row;split at g
 ·rename_i q i e
  rw[e] at d f;have d:i[o+1]? =some b:=d;have f:i[o+2]? =some c:=f;obtain⟨m,j⟩:=xQ.1 g;obtain⟨lb,k⟩:=xQ.1 d;obtain⟨l,p⟩:=xQ.1 f;rw[e];simp only[sub];rw[aV om,Tb m,Tb lb,Tb l,j,k,p]
  rfl
 ·cases g
structure KS (n:Nat)(G:List Nat->Prop)(L:LN)(hh:H)(a:Cls.KE)(r:Nat):Prop where
 ord:a.ord=dW (L.getD r []) n
 size:a.size=(orbC G L r).length
 rep:SI hh a.rep (zi (L.getD r []))
theorem cls_openS {hh:H}{b:V}{ks:List Cls.KE}(l:K.length<1000000)(s:SV hh b 3 (list3 ks))(al:All2 (KS n G L hh) ks K):
  cV b=some (aB (K.length:Int))/\dJ b b=true/\ ∃id off,Sl b 3 K.length id off/\ ∀k,k<K.length->id<hh.next/\ ∃rep,hh.cell id (off+k*3)=some rep/\hh.cell id (off+k*3+2)=some (aB ((orbC G L (K.getD k 0)).length:Int))/\hh.row id (off+k*3) 3=some [rep,aB (dW (L.getD (K.getD k 0) []) n:Int),aB ((orbC G L (K.getD k 0)).length:Int)]/\SI hh rep (zi (L.getD (K.getD k 0) [])):=by
 have a:=All2.length al
 have c:=list3_len ks
 obtain⟨id,off,e,f,d⟩:=s.shape K.length (by rw[c,a]) om
 refine⟨by unfold cV;rw[SV.len s (n:=ks.length) c om,a];rfl,s.dJ,id,off,e,λk a=>?_⟩
 obtain⟨e,h,j⟩:=list3_at (ks:=ks) (i:=k) om
 have c:=All2.get al k om a
 rw[←Pm.bP a] at c
 have g:=(d (k*3) om).trans e
 have e:=(d (k*3+1) om).trans h
 have a:=(d (k*3+2) om).trans j
 rw[c.ord] at e
 rw[c.size] at a
 rw[←Nat.add_assoc] at e a
 exact⟨f om,_,g,a,row3c g e a,c.rep⟩
theorem cls_open {hh:H}{a:V}{ks:List Cls.KE}(b:K.length<1000000)(s:SV hh a 3 (list3 ks))(al:All2 (KR n G L hh) ks K):
  cV a=some (aB (K.length:Int))/\dJ a a=true/\ ∃id off,Sl a 3 K.length id off/\ ∀k,k<K.length->id<hh.next/\ ∃rep,hh.cell id (off+k*3)=some rep/\hh.cell id (off+k*3+2)=some (aB ((orbC G L (K.getD k 0)).length:Int))/\hh.row id (off+k*3) 3=some [rep,aB (dW (L.getD (K.getD k 0) []) n:Int),aB ((orbC G L (K.getD k 0)).length:Int)]/\SI hh rep (zi (L.getD (K.getD k 0) [])):=
 cls_openS b s (al.mono λ_ _ k=>⟨k.ord,k.size,k.rep⟩)
end
section
variable {x:List Nat}
section
variable {n:Nat} {G:List Nat->Prop} {L:LN} {K:List Nat}
theorem idx_el (E:eQ G L){y:List Nat}(b:G y):L.idxOf y<L.length/\L.getD (L.idxOf y) []=y:=by
 have c:=(E.mem y).2 b;have a:=Ye.2 c;refine⟨a,?_⟩;rw[List.getD,eX a];simp
theorem IsK.lt (k:IsK n G L K){r:Nat}(a:r∈K):r<L.length:=(repsC_mem.1 (k.perm.mem_iff.1 a)).1
theorem IsK.nd (k:IsK n G L K):K.Nodup:=k.perm.nodup_iff.2 (by unfold repsC;exact List.nodup_range.filter _)
theorem grp_pw (a:mD n G){x:List Nat}(b:G x): ∀k,G (pw n x k)
 |0=>a.one
 |k+1=>a.mul (grp_pw a b k) b
theorem pw_cong (X:bT n x){a b:Nat}(h:a%dW x n=b%dW x n):pw n x a=pw n x b:=by
 rw[Xc X a,Xc X b,h]
noncomputable def zp (n:Nat)(x:List Nat)(z:Int):List Nat:=pw n x (z%(dW x n:Nat)).toNat
theorem zp_eq (X:bT n x){z:Int}{a:Nat}(h:(a:Int)%(dW x n:Nat)=z%(dW x n:Nat)):zp n x z=pw n x a:=by
 have o:=nI X;unfold zp;refine pw_cong X ?_;have c:=Int.emod_nonneg z (b:=(dW x n:Nat)) om;have c:=Int.emod_lt_of_pos z (b:=(dW x n:Nat)) om;have c:(z%(dW x n:Nat)).toNat%dW x n=(z%(dW x n:Nat)).toNat:=Nat.mod_eq_of_lt om;rw[c];omega
variable (hG:mD n G) (E:eQ G L) (k:IsK n G L K)
include hG E k
theorem numC_ok {j:Nat}(a:j<L.length):numC G L K j<K.length/\cR G L (K.getD (numC G L K j) 0) j:=by
 obtain⟨i,hi,h⟩:=num_cover hG E k.perm a;have e:=numC_at hG E k.perm hi h;rw[e];exact⟨hi,(orbC_mem.1 h).2⟩
omit hG E k in
theorem ordP_one_iff (X:bT n x):dW x n=1↔x=cG n:=by
 constructor
 ·intro h
  have:=(kL X 1).1 (by rw[h];exact Nat.dvd_refl _);rwa [pw_one' X] at this
 ·intro h
  have:=(kL X 1).2 (by rw[pw_one' X];exact h);exact Nat.dvd_one.1 this
theorem K_first:0<K.length/\K.getD 0 0=0:=by
 obtain⟨d,b⟩:=el_first hG E;have f:0∈K:=k.perm.mem_iff.2 (repsC_mem.2 ⟨d,λj g=>om⟩);have a:=Py f;refine⟨a,?_⟩;obtain⟨i,hi,c⟩:=vJ.1 f
 by_cases e:i=0
 ·subst e;rw[List.getD,eX a];exact c
 ·have:=Po.1 k.asc 0 i a hi om
  rw[c] at this;have e:dW (L.getD 0 []) n=1:=(ordP_one_iff (by rw[b];exact bT.one n)).2 b;have c:K[0]<L.length:=k.lt (wT a);have X:=el_isP hG E c;have p:=nI X;unfold kLt at this;rw[e] at this;have f:dW (L.getD K[0] []) n=1:=om
  have e:=(ordP_one_iff X).1 f;rw[←b] at e;have:=nd_inj E.nodup c d e;rw[List.getD,eX a];exact this
end
end
end Go.Proofs.YtapfcpkecmmagaaGreat
namespace Go.Pm
set_option maxRecDepth 100000
section
variable {n:Nat} {t:mF}
theorem kF.gt (T:kF n t){i p:Nat}{y:List Nat}(h:t i p=some y):i<p:=by
 have Y:=T.isP _ _ _ h;have F:=T.fix _ _ _ h;obtain⟨b,c,a⟩:=T.lt _ _ _ h;have m:=T.maps _ _ _ h;rcases Nat.lt_or_ge p i with a|a
 ·exact absurd (Y.inj b c (m.trans (F p a).symm)) oq
 ·omega
def eR (t:mF)(i p:Nat):qX:=(List.range p).filterMap (t i)
def eB (n:Nat)(t:mF)(i:Nat):qX:=(List.range i).flatMap λi=>eR t i n
theorem Nl (i p:Nat):eR t i (p+1)=eR t i p++(t i p).toList:=by
 unfold eR;rw[List.range_succ,List.filterMap_append];cases h:t i p<;>simp [h]
theorem Od (i:Nat):eB n t (i+1)=eB n t i++eR t i n:=by
 unfold eB;rw[List.range_succ,List.flatMap_append];simp
theorem Hb:eB n t n=eU n t 0:=by
 unfold eB eU eR;simp
theorem qH (T:kF n t):(eU n t 0).Nodup:=by
 have g: ∀i p b j y,t i p=some y->t b j=some y->i=b/\p=j:=λi p b j y d f=>by
  have h:=T.gt d;have h:=T.gt f;have l:=T.fix _ _ _ d;have r:=T.fix _ _ _ f;have m:=T.maps _ _ _ d;have q:=T.maps _ _ _ f
  have e:i=b:=by
   rcases Nat.lt_trichotomy i b with h|h|h
   ·have:=r i h;omega
   ·exact h
   ·have:=l b h;omega
  subst e;exact⟨rfl,m.symm.trans q⟩
 rw[←Hb];unfold eB;rw[List.Nodup,List.pairwise_flatMap];refine⟨λi _=>?_,?_⟩
 ·unfold eR
  rw[List.pairwise_filterMap];refine (List.nodup_range (n:=n)).imp ?_;intro p j c y k o a e;subst e;exact c (g _ _ _ _ _ k a).2
 ·refine (List.nodup_range (n:=n)).imp ?_
  intro i b c y k o a e;subst e;obtain⟨p,_,d⟩:=List.mem_filterMap.1 k;obtain⟨j,_,f⟩:=List.mem_filterMap.1 a;exact c (g _ _ _ _ _ d f).1
def DF (n:Nat)(t:mF)(l:qX):qX:=(eU n t 0).filter λy=>decide (y∉l)
def ET (n:Nat)(t:mF)(x:List Nat)(l:qX):qX:=if (eU n t 0).length<(eU n (iA t n x) 0).length then l++DF n (iA t n x) l else l
structure sQ (n:Nat)(L:List Nat->Prop)(t:mF)(l:qX):Prop where
 tl:Az n L t
 nd:l.Nodup
 mem: ∀y,y∈l↔y∈eU n t 0
variable {L:List Nat->Prop} {l:qX}
theorem sQ.isP (c:sQ n L t l): ∀y∈l,bT n y:=λy a=>c.tl.tab.Ru y ((c.mem y).1 a)
theorem sQ.bound (c:sQ n L t l):l.length<=n^n:=Bv c.nd c.isP
theorem sQ.start (c:Az n L t):sQ n L t (eU n t 0):=⟨c,qH c.tab,λ_=>Iff.rfl⟩
theorem Kl {a:mF}(s:Sub t a): ∀y,y∈eU n t 0->y∈eU n a 0:=λy e=>by
 obtain⟨i,p,b,c,f,d⟩:=fE.1 e;exact fE.2 ⟨i,p,b,c,f,s _ _ _ d⟩
theorem sQ.step (c:sQ n L t l)(v: ∀g,L g->bT n g){x:List Nat}(A:fA n L x):
  sQ n L (iA t n x) (ET n t x l)/\Sub t (iA t n x)/\ins (iA t n x) n 0 x=none/\ ∃m,ET n t x l=l++m:=by
 obtain⟨a,f,k⟩:=c.tl.ins v A
 have o:=qH a.tab
 refine⟨?_,f,k,?_⟩
 ·cases h:ins t n 0 x with
  |none=>
   have e:iA t n x=t:=by unfold iA;rw[h]
   unfold ET;rw[e,if_neg (Nat.lt_irrefl _)];exact c
  |some q=>
   obtain⟨i,r⟩:=q;have e:iA t n x=put t i (r.getD i 0) r:=by unfold iA;rw[h]
   obtain⟨k,w,B,F,k,G,_⟩:=rV c.tl.tab n 0 x i r oq (A.isP v) (λk k=>oq) h;have z:r∈eU n (iA t n x) 0:=fE.2 ⟨i,r.getD i 0,Nat.zero_le _,w,B.dZ w,by rw[e];unfold put;rw[if_pos ⟨rfl,rfl⟩]⟩
   have p:r∉eU n t 0:=λh=>by
    obtain⟨j,q,_,_,_,d⟩:=fE.1 h;have k:=f _ _ _ d;have q:=a.tab.gt k;have K:=a.tab.fix _ _ _ k;have O:=a.tab.maps _ _ _ k;have P:iA t n x i (r.getD i 0)=some r:=by rw[e];unfold put;rw[if_pos ⟨rfl,rfl⟩]
    have e:=a.tab.gt P
    have s:i=j:=by
     rcases Nat.lt_trichotomy i j with h|h|h
     ·have:=K i h;omega
     ·exact h
     ·have:=F j h;omega
    subst s;rw[←O] at d;rw[G] at d;cases d
   have u:(eU n t 0).length<(eU n (iA t n x) 0).length:=by
    have:(r::eU n t 0).length<=(eU n (iA t n x) 0).length:=List.Nodup.length_le_of_subset (List.nodup_cons.2 ⟨p,qH c.tl.tab⟩) (λy b=>by
     rcases List.mem_cons.1 b with rfl|b
     ·exact z
     ·exact Kl f y b)
    rw[List.length_cons] at this;omega
   unfold ET;rw[if_pos u];refine⟨a,List.nodup_append.2 ⟨c.nd,o.filter _,λy b z J N=>?_⟩,λy=>?_⟩
   ·subst N
    have:=(List.mem_filter.1 J).2;simp at this;exact this b
   ·rw[List.mem_append]
    unfold DF;rw[List.mem_filter];constructor
    ·rintro (h|h)
     ·exact Kl f y ((c.mem y).1 h)
     ·exact h.1
    ·intro h
     by_cases a:y∈l
     ·exact .inl a
     ·exact .inr ⟨h,by simpa using a⟩
 ·unfold ET
  split
  ·exact⟨_,rfl⟩
  ·exact⟨[],(List.append_nil _).symm⟩
theorem sQ.gen (c:sQ n L t l): ∀y∈l,fA n L y:=λy a=>c.tl.gen y ((c.mem y).1 a)
def Pr (n:Nat)(t:mF)(l:qX)(a b:Nat):Prop:=ins t n 0 (bD (l.getD a []) (l.getD b []))=none
theorem Pr.mono {c:mF}{m:qX}{a b:Nat}(h:Pr n t l a b)(s:Sub t c)(g:a<l.length)(d:b<l.length):Pr n c (l++m) a b:=by
 have e: ∀k,k<l.length->(l++m).getD k []=l.getD k []:=λk f=>by rw[List.getD,List.getD,List.getElem?_append_left f]
 unfold Pr;rw[e a g,e b d];exact vH s _ _ _ h
theorem sQ.closed (c:sQ n L t l)(h: ∀a b,a<l.length->b<l.length->Pr n t l a b):wQ n t:=λa b o e=>by
 obtain⟨i,hi,m⟩:=List.mem_iff_getElem.1 ((c.mem a).2 o);obtain⟨j,d,k⟩:=List.mem_iff_getElem.1 ((c.mem b).2 e);have:=h i j hi d;unfold Pr at this;have g:l.getD i []=a:=by rw[List.getD,List.getElem?_eq_getElem hi,←m];rfl
 have f:l.getD j []=b:=by rw[List.getD,List.getElem?_eq_getElem d,←k];rfl
 rwa [g,f] at this
def sW (t:mF)(i k:Nat):List Nat:=(List.range k).filter λp=>p==i||(t i p).isSome
theorem Me (T:kF n t)(i:Nat):sW t i i= []:=by
 unfold sW;refine List.filter_eq_nil_iff.2 λp a=>?_
 have:=List.mem_range.1 a;simp only[Bool.or_eq_true,beq_iff_eq,not_or];refine⟨oq,λh=>?_⟩;obtain⟨y,a⟩:=Option.isSome_iff_exists.1 h;have:=T.gt a;omega
theorem Pn (i k:Nat):sW t i (k+1)=sW t i k++if k=i∨(t i k).isSome then [k] else []:=by
 unfold sW;rw[List.range_succ,List.filter_append]
 by_cases h:k=i
 ·subst h;simp
 ·have e:(k==i)=false:=by simpa using h
  cases h2:t i k<;>simp [h,h2,List.filter,e]
theorem Tm (i:Nat):sW t i n=(iW n t i).orb:=rfl
theorem We (i k:Nat):(sW t i k).Pairwise (· < ·):=List.pairwise_lt_range.filter _
end
end Go.Pm
namespace Go.Proofs.YtapfcpkecmmagaaGreat
open Go Go.Ay Go.Pm
set_option maxRecDepth 100000
theorem bls_i1 (h:H)(x:Int):pF h 1 [aB 0] 1 [(0,1,aB x)]=some (.sl h.next 0 1 (.kn 1),h.new (.cells false (ints [x]))):=by
 have e:dN [aB 0] 1= [aB 0]:=rfl;simp [pF,gG,e,putAt,V.cells,V.one,ints]
theorem Own_ge {h:H}{v:V}{sz b:Nat}{ws:List V}(o:Own h v sz ws b): ∀id off len cap,v= .sl id off len cap->b<=id:=by
 rcases o with ⟨rfl,_⟩|⟨id,n,cap,a,rfl,_,_,c,_⟩
 ·intro _ _ _ _ e;cases e
 ·intro _ _ _ _ e;cases e;exact c
theorem zi_snoc (l:List Nat)(x:Nat):zi (l++ [x])=zi l++ [(x:Int)]:=by simp [zi]
theorem take_snoc {l:List Nat}{i:Nat}(hi:i<l.length):l.take (i+1)=l.take i++ [l.getD i 0]:=by
 rw[List.take_add_one,eX hi,bP hi];rfl
theorem kmul_ok (u w:V)(a b:List Nat)(h:H)(hN:a.length<=1000)(U:SI h u (zi a))(Y:SI h w (zi b))(W: ∀i,i<a.length->a.getD i 0<b.length):
  Ev T 24 [u,w] h (λv h'=>SI h' v (zi (bD a b))/\Fr h h'/\ ∀id off len cap,v= .sl id off len cap->h.next<=id):=by
 refine bH c_kit_Mul rfl rfl ?_
 have O:=U.lens
 rw[aQ] at O
 obtain⟨id,off,L,q,Q⟩:=U.open
 rw[aQ] at L q Q
 obtain⟨B,s,z,f,t⟩:=Y.open
 rw[aQ] at z f t
 simp(disch:=omega)only[go_sem,c_kit_Mul,aF]
 refine aH (λN e P=> ∃(i:Nat) (o:V),(∃j:Nat->V,e= [u,w,j 2,o,aB i,j 5])/\i<=a.length/\Own P o 1 (ints (zi ((bD a b).take i))) h.next/\Fr h P/\N=a.length-i) a.length
  ⟨0,.aD,aA rfl,eY _,Own.aD _ _ _,Fr.refl h,rfl⟩ ?_
 rintro N e c ⟨i,o,⟨jk,rfl⟩,hi,A,F,rfl⟩
 simp(disch:=omega)only[go_sem,O]
 by_cases y:(i:Int)<(a.length:Int)
 ·rw[bV y]
  have d:i<a.length:=om
  have ci:c.cell id (off+i)=some (aB (a.getD i 0:Nat)):=by rw[F.cell (q om),Q i d];congr 2;simp [zi,d]
  have r:=W i d
  have R:=cX (b:=b) d
  generalize hk:a.getD i 0=k at ci r R
  have ck:c.cell B (s+k)=some (aB (b.getD k 0:Nat)):=by rw[F.cell (f om),t k r];congr 2;simp [zi,r]
  simp(disch:=omega)only[go_sem,L.ixa,ci,z.ixa,ck,bls_i1]
  have g:Fr c (c.new (.cells false (ints [((b.getD k 0:Nat):Int)]))):=(Fr.refl c).new _
  have l:(c.new (.cells false (ints [((b.getD k 0:Nat):Int)]))).get c.next=some (.cells false (ints [((b.getD k 0:Nat):Int)])):=H.aN ..
  have K:(c.new (.cells false (ints [((b.getD k 0:Nat):Int)]))).next=c.next+1:=H.aY ..
  generalize c.new (.cells false (ints [((b.getD k 0:Nat):Int)]))=J at*
  have sx:SV J (.sl c.next 0 1 (.kn 1)) 1 (ints [((b.getD k 0:Nat):Int)]):=SV.all rfl om l _
  have nF:=F.next
  have hl:(bD a b).length=a.length:=eH a b
  obtain⟨Z,a0,G,p⟩:=(A.fr g).app (bytes:=8) (n:=i) (m:=1) om sx (by rw[aL,aQ,xV,jY];omega) rfl om om
  simp(disch:=omega)only[go_sem,G]
  have x:=p.own
  rw[←jZ,←R,←zi_snoc,←take_snoc om] at x
  rw[dX i]
  exact⟨a.length-(i+1),om,i+1,Z,aA rfl,om,x,p.fr h (F.trans g) (fH _),rfl⟩
 rw[bM y]
 obtain rfl:i=a.length:=om
 simp(disch:=omega)only[go_sem]
 rw[yR (by rw[eH];omega)] at A
 exact⟨A.sv,F,Own_ge A⟩
theorem kone_ok (n:Nat)(h:H)(G:n<=1000):
  Ev T 51 [aB n] h (λv h'=>SI h' v (zi (cG n))/\Fr h h'/\ ∀id off len cap,v= .sl id off len cap->h.next<=id):=by
 refine bH c_kit_One rfl rfl ?_
 simp(disch:=omega)only[go_sem,c_kit_One,aF]
 refine aH (λt c s=> ∃(i:Nat) (o:V),(∃j:Nat->V,c= [aB n,j 1,o,aB i,j 4])/\i<=n/\Own s o 1 (ints (zi ((cG n).take i))) h.next/\Fr h s/\t=n-i) n
  ⟨0,.aD,aA rfl,eY _,Own.aD _ _ _,Fr.refl h,rfl⟩ ?_
 rintro t c a ⟨i,o,⟨B,rfl⟩,hi,k,F,rfl⟩
 simp(disch:=omega)only[go_sem]
 by_cases g:(i:Int)<(n:Int)
 ·rw[bV g]
  have q:i<n:=om
  simp(disch:=omega)only[go_sem,bls_i1]
  have b:Fr a (a.new (.cells false (ints [(i:Int)]))):=(Fr.refl a).new _
  have d:(a.new (.cells false (ints [(i:Int)]))).get a.next=some (.cells false (ints [(i:Int)])):=H.aN ..
  have r:(a.new (.cells false (ints [(i:Int)]))).next=a.next+1:=H.aY ..
  generalize a.new (.cells false (ints [(i:Int)]))=l at*
  have w:SV l (.sl a.next 0 1 (.kn 1)) 1 (ints [(i:Int)]):=SV.all rfl om d _
  have J:=F.next
  have A:=gU n
  obtain⟨x,u,p,f⟩:=(k.fr b).app (bytes:=8) (n:=i) (m:=1) om w (by rw[aL,aQ,xV,jY];omega) rfl om om
  simp(disch:=omega)only[go_sem,p]
  have e:=f.own
  have y:=eP q
  have z:zi ((cG n).take i)++ [(i:Int)]=zi ((cG n).take (i+1)):=by rw[take_snoc om,zi_snoc,y]
  rw[←jZ,z] at e
  rw[dX i]
  exact⟨n-(i+1),om,i+1,x,aA rfl,om,e,f.fr h (F.trans b) (fH _),rfl⟩
 rw[bM g]
 obtain rfl:i=n:=om
 simp(disch:=omega)only[go_sem]
 rw[yR (by rw[gU];omega)] at k
 exact⟨k.sv,F,Own_ge k⟩
theorem kinv_ok (u:V)(n:Nat)(a:List Nat)(h:H)(U:n<=1000)(A:bT n a)(N:SI h u (zi a)):
  Ev T 25 [u] h (λv h'=>Jl h h' v (dH a)):=by
 refine bH c_kit_Inv rfl rfl ?_
 have g:=A.len
 have t:=N.lens
 rw[aQ,g] at t
 obtain⟨id,off,y,m,K⟩:=N.open
 rw[aQ,g] at y m K
 simp(disch:=omega)only[go_sem,c_kit_Inv,aF,t,mks_zeros h n om]
 have l:Fr h (h.new (.cells false (rc n λ_=> aB 0))):=(Fr.refl h).new _
 have d:(h.new (.cells false (rc n λ_=> aB 0))).get h.next=some (.cells false (rc n λ_=> aB 0)):=H.aN ..
 have f:(h.new (.cells false (rc n λ_=> aB 0))).next=h.next+1:=H.aY ..
 generalize h.new (.cells false (rc n λ_=> aB 0))=Y at*
 obtain⟨S,o⟩:=IP h.next
 rw[o] at d f
 rw[o]
 refine aH (λB c w=> ∃(i:Nat),(∃j:Nat->V,c= [u,.aD,.sl S 0 n (.kn n),aB i,j 4])/\i<=n/\
   w.get S=some (.cells false (rc n λj=>if a.idxOf j<i then aB (a.idxOf j:Nat) else aB 0))/\w.next=S+1/\Fr h w/\B=n-i) n
  ⟨0,aA rfl,eY _,by rw[d];rfl,f,l,rfl⟩ ?_
 clear d l f
 rintro B c z ⟨i,⟨W,rfl⟩,hi,J,x,F,rfl⟩
 simp(disch:=omega)only[go_sem,t]
 by_cases p:(i:Int)<(n:Int)
 ·rw[bV p]
  have b:i<n:=om
  have ci:z.cell id (off+i)=some (aB (a.getD i 0:Nat)):=by rw[F.cell (m om),K i b];congr 2;simp [zi,g,b]
  have r:=A.dZ b
  have L:a.idxOf (a.getD i 0)=i:=A.inj (A.idx r).1 b (A.idx r).2
  generalize R:a.getD i 0=k at ci r L
  have P:decide ((k:Int)<0)=false:=bM om
  have q:decide ((n:Int)<=(k:Int))=false:=bM om
  have G:=bE (vs:=rc n λj=>if a.idxOf j<i then aB (a.idxOf j:Nat) else aB 0) (off:=k) (by rw[cK];exact r) z S (aB i)
  rw[eG] at G
  simp(disch:=omega)only[go_sem,y.ixa,ci,P,q,J,G]
  rw[dX i]
  refine⟨n-(i+1),om,i+1,aA rfl,om,?_,x,F.set om _,rfl⟩
  congr 2
  refine aX λj s=>?_
  by_cases e:j=k
  ·rw[aV e,e,L,aV om]
  ·rw[aZ e]
   have O:a.idxOf j≠i:=λQ=>e (by rw[←(A.idx s).2,Q,R])
   by_cases q:a.idxOf j<i
   ·rw[aV q,aV om]
   ·rw[aZ q,aZ om]
 rw[bM p]
 obtain rfl:i=n:=om
 simp(disch:=omega)only[go_sem]
 refine⟨by rw[fV,g,o],?_,by rw[o];exact x,F⟩
 rw[o,J]
 congr 2
 rw[←Du,fV,g]
 exact aX λj s=>by rw[aV (A.idx s).1,lQ (by rw[g];exact s)]
structure TbR (b:Nat)(W:Nat->Prop)(h:H)(n:Nat)(tv:V)(ρ:Nat->Nat)(F:Nat->Nat->V)(t:mF):Prop where
 sv:SV h tv 1 (rc n λi=> .sl (ρ i) 0 n (.kn n))
 off:Ho W tv
 row: ∀i,i<n->h.get (ρ i)=some (.cells false (rc n (F i)))
 wb: ∀i,i<n->W (ρ i)
 win: ∀id,W id->id<h.next
 low: ∀id,W id->b<=id
 inj: ∀i j,i<n->j<n->ρ i=ρ j->i=j
 ent: ∀i p,i<n->p<n->Slot W h (F i p) (t i p)
section
variable {b:Nat} {W:Nat->Prop} {h h':H} {n:Nat} {tv:V} {ρ:Nat->Nat} {F:Nat->Nat->V} {t:mF}
theorem TbR.open (R:TbR b W h n tv ρ F t):cV tv=some (aB n)/\ ∃id off,Sl tv 1 n id off/\ ∀i,i<n->h.cell id (off+i)=some (.sl (ρ i) 0 n (.kn n)):=by
 have s:=R.sv;have a:(rc n λi=>V.sl (ρ i) 0 n (.kn n)).length=n:=cK n _;refine⟨by unfold cV;rw[SV.len s (n:=n) om om];rfl,?_⟩;obtain⟨id,off,a,c,c⟩:=SV.shape s n om om;refine⟨id,off,a,λi hi=>?_⟩;rw[c i om,iP hi]
theorem TbR.cell (R:TbR b W h n tv ρ F t){i p:Nat}(hi:i<n)(a:p<n):h.cell (ρ i) p=some (F i p):=gO (R.row i hi) a
theorem TbR.mono (R:TbR b W h n tv ρ F t)(f:Fr h h'):TbR b W h' n tv ρ F t:=
 ⟨R.sv.mono f,R.off,λi hi=>by rw[f.get _ (R.win _ (R.wb i hi))];exact R.row i hi,R.wb,λid a=>iO (R.win id a) f.next,R.low,R.inj,λi p hi a=>(R.ent i p hi a).fx (Fx.of f)⟩
theorem TbR.go (R:TbR b W h n tv ρ F t){a:Nat->Prop}(f:Fx W h h')(g: ∀i,i<n->h'.get (ρ i)=h.get (ρ i))(d: ∀id,id<h.next->a id->W id)(c: ∀id,W id->a id)(win: ∀id,a id->id<h'.next)(low: ∀id,a id->b<=id):TbR b a h' n tv ρ F t:=
 ⟨R.sv.fx R.off f,R.off.weak R.sv d,λi hi=>by rw[g i hi];exact R.row i hi,λi hi=>c _ (R.wb i hi),win,low,R.inj,λi p hi e=>(R.ent i p hi e).go f d⟩
def WB (n:Nat)(ρ:Nat->Nat)(id:Nat):Prop:= ∃i,i<n/\ρ i=id
theorem TbR.wbx (R:TbR b W h n tv ρ F t){a c:H}(f:Fx (WB n ρ) a c):Fx W a c:=f.weak λid _ d=>by
 obtain⟨i,hi,rfl⟩:=d;exact R.wb i hi
def F2 (F:Nat->Nat->V)(i p:Nat)(v:V):Nat->Nat->V:=λj q=>if j=i/\q=p then v else F j q
theorem TbR.put (R:TbR b W h n tv ρ F t){i p:Nat}(hi:i<n)(g:p<n){c:V}{x:List Nat}(l:PV W h c x):
  ∃h',dS (h.get (ρ i)) h (ρ i) p [c]=some h'/\TbR b W h' n tv ρ (F2 F i p c) (Pm.put t i p x)/\Fx (WB n ρ) h h'/\h'.next=h.next:=by
 have k:=bE (vs:=rc n (F i)) (off:=p) (by rw[cK];exact g) h (ρ i) c
 rw[R.row i hi,k,eG]
 refine⟨_,rfl,?_,Fx.set h (W:=WB n ρ) ⟨i,hi,rfl⟩ _,rfl⟩
 have f:Fx W h (h.set (ρ i) (some (.cells false (rc n λj=>if j=p then c else F i j)))):=Fx.set h (R.wb i hi) _
 refine⟨R.sv.fx R.off f,R.off,λj d=>?_,R.wb,R.win,R.low,R.inj,λj q d m=>?_⟩
 ·by_cases e:j=i
  ·subst e
   rw[H.aT]
   congr 2
   refine aX λq _=>?_
   unfold F2
   by_cases a:q=p
   ·rw[aV a,aV ⟨rfl,a⟩]
   ·rw[aZ a,aZ (λh=>a h.2)]
  ·rw[H.aI h (λa=>e (R.inj _ _ d hi a)),R.row j d]
   congr 2
   refine aX λq _=>?_
   unfold F2
   rw[aZ (λh=>e h.1)]
 ·unfold F2 Pm.put
  by_cases e:j=i/\q=p
  ·rw[aV e,aV e]
   exact PV.fx l f
  ·rw[aZ e,aZ e]
   exact (R.ent j q d m).fx f
theorem PV.fresh {v:V}{l:List Nat}(s:SI h' v (zi l))(a: ∀id off len cap,v= .sl id off len cap->h.next<=id)(d: ∀id,W id->id<h.next):PV W h' v l:=by
 refine⟨s,?_⟩
 cases v with
 |sl id off len cap=>exact λc=>by have:=a _ _ _ _ rfl;have:=d id c;omega
 |_=>trivial
theorem Slot.nil {v:V}(s:Slot W h v none):v= .aD:=s
end
theorem insert_ok (b:Nat)(W:Nat->Prop)(h:H)(n:Nat)(tv:V)(ρ:Nat->Nat)(F:Nat->Nat->V)(t:mF)(P:V)(x:List Nat)(hn:n<=64)(h0:0<n)(R:TbR b W h n tv ρ F t)(hx:PV W h P x)(X:bT n x)(TI:kF n t):
  Ev T 164 [tv,P] h (λv h'=> ∃F',v= .bool (ins t n 0 x).isSome/\TbR b W h' n tv ρ F' (iA t n x)/\Fx (WB n ρ) h h'):=by
 refine bH c_ref08_Table_insert rfl rfl ?_
 obtain⟨J,id,a0,sh,_⟩:=R.open
 simp(disch:=omega)only[go_sem,c_ref08_Table_insert,aF]
 refine aH (λO e hh=> ∃(i:Nat) (y:List Nat) (m:V),(∃g:Nat->V,e= [tv,m,g 2,aB i,g 4,g 5,g 6,g 7])/\i<=n/\ins t (n-i) i y=ins t n 0 x/\PV W hh m y/\bT n y/\Fr h hh/\O=n-i) n
  ⟨0,x,P,aA rfl,eY _,rfl,hx,X,Fr.refl h,rfl⟩ ?_
 rintro O e L ⟨i,y,m,⟨g,rfl⟩,hi,o,q,Y,f,rfl⟩
 have l:=R.mono f
 by_cases r:(i:Int)<(n:Int)
 case neg=>
  have s:=bM r;obtain rfl:i=n:=om
  simp(disch:=omega)only[go_sem,J,s];rw[Nat.sub_self] at o;have a:ins t i 0 x=none:=o.symm;refine⟨F,by rw[a];rfl,?_,Fx.of f⟩;unfold iA;rw[a];exact l
 have s:=bV r
 have c:i<n:=om
 obtain⟨O,r,d,g,e⟩:=q.si.open
 rw[aQ,Y.len] at d g e
 have ci:L.cell O (r+i)=some (aB (y.getD i 0:Nat)):=by rw[e i c];congr 2;simp [zi,Y.len,c]
 have K:=Y.dZ c
 obtain⟨p,j⟩:=IP (y.getD i 0)
 rw[j] at ci K
 have e:n-i=(n-(i+1))+1:=om
 rw[e] at o
 obtain⟨_,e,e,w,e⟩:=l.open
 have cr:=e i c
 have A:=l.cell c K
 have B:=l.ent i p c K
 by_cases k:p=i
 ·have a:ins t (n-(i+1)) (i+1) y=ins t n 0 x:=by
   rw[←o]
   conv=>rhs;unfold ins
   rw[aV (j.trans k)]
  have G:decide ((p:Int)=(i:Int))=true:=bV om;simp(disch:=omega)only[go_sem,J,s,d.ixa,ci,G];rw[dX i];exact⟨n-(i+1),om,i+1,y,m,aA rfl,om,a,q,Y,f,rfl⟩
 have G:decide ((p:Int)=(i:Int))=false:=bM om
 have Q:decide ((p:Int)<0)=false:=bM om
 have e4:decide ((n:Int)<=(p:Int))=false:=bM om
 cases hto:t i p with
 |none=>
  rw[hto] at B;have e:=B.nil;rw[e] at A
  have a:ins t n 0 x=some (i,y):=by
   rw[←o];unfold ins;rw[aZ (by rw[j];exact k),j,hto]
  obtain⟨h3,e,R3,u,g⟩:=l.put c K q;simp(disch:=omega)only[go_sem,J,s,d.ixa,ci,G,Q,e4,w.ixa,cr,A,fZ q.dQ.1 q.dQ.2,e];have e5:iA t n x=Pm.put t i p y:=by unfold iA;rw[a];simp only;rw[j]
  refine⟨F2 F i p m,by rw[a];rfl,by rw[e5];exact R3,(Fx.of f).trans u (λ_ _ h=>h)⟩
 |some z=>
  rw[hto] at B;have Z:=TI.isP _ _ _ hto;have N:PV W L (F i p) z:=B;have U:=uY N (bT.ne h0 Z) false
  have a:ins t (n-(i+1)) (i+1) (bD y (dH z))=ins t n 0 x:=by
   rw[←o]
   conv=>rhs;unfold ins
   rw[aZ (by rw[j];exact k),j,hto]
  generalize F i p=c at A N U;simp(disch:=omega)only[go_sem,J,s,d.ixa,ci,G,Q,e4,w.ixa,cr,A,U];refine (kinv_ok c n z L om Z N.si).mono ?_;rintro w h3 c;have u:=c.fr;have pw:=c.pv (W:=W) (λc=>by have:=l.win _ c;omega);simp(disch:=omega)only[go_sem];refine (kmul_ok m w y (dH z) h3 (by rw[Y.len];omega) (q.si.mono u) pw.si (λj c=>by rw[fV,Z.len];exact Y.dZ (by rw[←Y.len];exact c))).mono ?_;rintro v c ⟨s4,f4,l4⟩;simp(disch:=omega)only[go_sem];rw[dX i];exact⟨n-(i+1),om,i+1,_,v,aA rfl,om,a,PV.fresh s4 l4 (λid a=>iO (l.win id a) u.next),Y.mul Z.inv,(f.trans u).trans f4,rfl⟩
section
variable {h:H} {ws:List V} {l:LN} {k:Nat}
theorem Pushd.frb {g h':H}{x:V}{n m sz:Nat}{us:List V}(p:Pushd h x n m sz ws us h')(f:Fr g h){a:Nat}{d:List V}(o:Own h x a d g.next):Fr g h':=by
 have b:=f.next;refine⟨by rw[p.next];omega,λid b=>?_⟩;rw[p.old id om (λc c n c e c=>by have:=(o.in _ _ _ _ e).2.1;omega)];exact f.get id b
theorem app_one {a:H}{d v:V}(o:Own h d 1 ws a.next)(f:Fr a h)(w:ws.length<1000000){bytes:Nat}(s:bytes<=24):
  ∃h2,qV (h.new (.cells false [v])) 1 bytes d (.sl h.next 0 1 (.kn 1))=some (.sl (h.next+1) 0 (ws.length+1) (.un 1),h2)/\Own h2 (.sl (h.next+1) 0 (ws.length+1) (.un 1)) 1 (ws++ [v]) a.next/\Fr a h2/\h2.next=h.next+2/\ ∀id,id<h.next->dF d id->h2.get id=h.get id:=by
 obtain⟨r,u,i,t,q,g⟩:=dL (h:=h) rfl [v]
 rw[u]
 have e:=o.fr g
 obtain⟨h2,j,c⟩:=e.push (bytes:=bytes) (SV.one om t (.kn 1)) (n:=ws.length) (m:=1) om rfl om om ⟨by
  have:(2*(ws.length+1)+1000)*bytes<=(2*(ws.length+1)+1000)*24:=Nat.mul_le_mul_left _ s
  omega,om⟩
 rw[i] at j
 have t:=f.next
 have p:=c.own om rfl (b:=a.next) om
 rw[i] at p
 have i:=c.next
 exact⟨h2,j,p,Pushd.frb c (f.trans g) e,om,λid r h2=>by rw[c.old id om h2,q id om]⟩
theorem eR_len (t:mF)(i p:Nat):(eR t i p).length<=p:=by
 unfold eR;have:=List.length_filterMap_le (t i) (List.range p);rwa [zE] at this
theorem eB_len (n:Nat)(t:mF): ∀i,(eB n t i).length<=i*n
 |0=>by simp [eB]
 |i+1=>by
  rw[Od,jD,Nat.succ_mul];have:=eB_len n t i;have:=eR_len t i n;omega
theorem entries_ok (b:Nat)(W:Nat->Prop)(h:H)(n:Nat)(x:V)(ρ:Nat->Nat)(F:Nat->Nat->V)(t:mF)(Q:n<=64)(Y:0<n)(R:TbR b W h n x ρ F t)(U:kF n t):
  Ev T 182 [x] h (λv h'=> ∃ws,Own h' v 1 ws h.next/\PVs W h ws (eU n t 0)/\Fr h h'):=by
 refine bH c_ref08_Table_entries rfl rfl ?_
 have q:=R.open.1
 simp(disch:=omega)only[go_sem,c_ref08_Table_entries,aF]
 refine aH (λr c m=> ∃(i:Nat) (d:V) (ws:List V),(∃g:Nat->V,c= [x,g 1,d,aB i,g 4,g 5,g 6,g 7])/\i<=n/\Own m d 1 ws h.next/\PVs W h ws (eB n t i)/\Fr h m/\r=n-i) n
  ⟨0,.aD, [],aA rfl,eY _,Own.aD _ _ _,trivial,Fr.refl h,rfl⟩ ?_
 rintro r c Z ⟨i,d,ws,⟨g,rfl⟩,hi,e,a,f,rfl⟩
 by_cases u:(i:Int)<(n:Int)
 case neg=>
  have K:=bM u;obtain rfl:i=n:=om
  simp(disch:=omega)only[go_sem,q,K];rw[Hb] at a;exact⟨ws,e,a,f⟩
 have K:=bV u
 have p:i<n:=om
 simp(disch:=omega)only[go_sem,q,K]
 refine loop_end (λu m=> ∃(d:V) (ws:List V),(∃g:Nat->V,u= [x,g 1,d,aB i,g 4,g 5,g 6,g 7])/\Own m d 1 ws h.next/\PVs W h ws (eB n t (i+1))/\Fr h m) ?_ ?_
 ·refine aH (λr c m=> ∃(j:Nat) (d:V) (ws:List V),(∃g:Nat->V,c= [x,g 1,d,aB i,aB j,g 5,g 6,g 7])/\j<=n/\Own m d 1 ws h.next/\PVs W h ws (eB n t i++eR t i j)/\Fr h m/\r=n-j) n
   ⟨0,d,ws,aA rfl,eY _,e,by unfold eR;rw[List.range_zero,List.filterMap_nil,pN];exact a,f,rfl⟩ ?_
  clear e a f hi g
  rintro r c L ⟨j,d,ws,⟨g,rfl⟩,m,e,a,f,rfl⟩
  by_cases o:(j:Int)<(n:Int)
  case neg=>
   have G:=bM o;obtain rfl:j=n:=om
   simp(disch:=omega)only[go_sem,q,G];exact⟨d,ws,aA rfl,e,by rw[Od];exact a,f⟩
  have G:=bV o
  have m:j<n:=om
  have r:=R.mono f
  obtain⟨_,o,o,w,o⟩:=r.open
  have O:=o i p
  have A:=r.cell p m
  have B:=R.ent i j p m
  have m:=All2.length a
  have o:=eB_len n t i
  have o:=eR_len t i j
  have o:i*n<=64*64:=Nat.mul_le_mul om Q
  rw[jD] at m
  cases hto:t i j with
  |none=>
   rw[hto] at B;rw[B.nil] at A;simp(disch:=omega)only[go_sem,q,G,w.ixa,O,A];rw[dX j];refine⟨n-(j+1),om,j+1,d,ws,aA rfl,om,e.fr ((Fr.refl L).bL om),?_,f.bL om,rfl⟩;rw[Nl,hto];simpa using a
  |some y=>
   rw[hto] at B;have s:PV W h (F i j) y:=B;have N:=uY s (bT.ne Y (U.isP _ _ _ hto)) true;generalize F i j=m at A s N;obtain⟨S,o⟩:=IP L.next;simp(disch:=omega)only[go_sem,q,G,w.ixa,O,A,N,cJ _ (z:= .aD) s.dQ.1 s.dQ.2];obtain⟨o,o,J,P,p,_⟩:=app_one (v:=m) e f om (bytes:=24) om;simp(disch:=omega)only[go_sem,o];rw[dX j];refine⟨n-(j+1),om,j+1,_,_,aA rfl,om,J,?_,P,rfl⟩;rw[Nl,hto,←oH];exact a.append (PVs.one s)
 rintro c L ⟨d,ws,⟨g,rfl⟩,e,a,f⟩
 simp(disch:=omega)only[go_sem]
 rw[dX i]
 exact⟨n-(i+1),om,i+1,d,ws,aA rfl,om,e,a,f,rfl⟩
theorem PVs.open {W:Nat->Prop}{v:V}(sv:SV h v 1 ws)(p:PVs W h ws l):cV v=some (aB (l.length:Int))/\ ∃id off,Sl v 1 l.length id off/\ ∀i,i<l.length->id<h.next/\h.cell id (off+i)=some (ws.getD i .undef)/\PV W h (ws.getD i .undef) (l.getD i []):=by
 have a:=All2.length p;refine⟨by unfold cV;rw[SV.len sv (n:=l.length) om om];rfl,?_⟩;obtain⟨id,off,b,a,c⟩:=SV.shape sv l.length om om;refine⟨id,off,b,λi hi=>⟨a om,?_,?_⟩⟩
 ·rw[c i om];simp [List.getD,show i<ws.length by omega]
 ·obtain⟨w,a,b⟩:=PVs.at p hi
  rw[List.getD,a];exact b
theorem mem_take {α:Type}{l:List α}{x d:α}:x∈l.take k↔ ∃q,q<k/\q<l.length/\l.getD q d=x:=by
 constructor
 ·intro h
  obtain⟨q,a,e⟩:=vJ.1 h;rw[xV] at a;refine⟨q,om,om,?_⟩;rw[List.getElem_take] at e;rw[List.getD,eX om,←e];rfl
 ·rintro⟨q,h1,h2,e⟩
  rw[List.getD,eX h2] at e;refine vJ.2 ⟨q,by rw[xV];omega,?_⟩;rw[List.getElem_take];exact e
theorem mem_take_succ {x:List Nat}(c:k<l.length):x∈l.take (k+1)↔x∈l.take k∨l.getD k []=x:=by
 rw[mem_take (d:= []),mem_take (d:= [])];constructor
 ·rintro⟨q,b,a,e⟩
  by_cases h:q=k
  ·subst h;exact .inr e
  ·exact .inl ⟨q,om,a,e⟩
 ·rintro (⟨q,b,a,e⟩|e)
  ·exact⟨q,om,a,e⟩
  ·exact⟨k,om,c,e⟩
theorem frF_take {L:LN}(a:k<L.length):(L.take (k+1)).filter (λy=>decide (y∉l))=(L.take k).filter (λy=>decide (y∉l))++if L.getD k []∈l then [] else [L.getD k []]:=by
 rw[take_getD [] a,List.filter_append];generalize L.getD k []=z
 by_cases e:z∈l<;>simp [e,List.filter]
theorem fresh_ok (b:Nat)(W:Nat->Prop)(h:H)(n:Nat)(tv vl:V)(wl:List V)(l:LN)(ρ:Nat->Nat)(F:Nat->Nat->V)(t:mF)(hn:n<=64)(h0:0<n)(R:TbR b W h n tv ρ F t)(TI:kF n t)(sl:SV h vl 1 wl)(pl:PVs W h wl l)(hl: ∀x∈l,bT n x)(ll:l.length<1000000):
  Ev T 183 [tv,vl] h (λv h'=> ∃ws,Own h' v 1 ws h.next/\PVs W h ws (DF n t l)/\Fr h h'):=by
 refine bH c_ref08_Table_fresh rfl rfl ?_
 simp(disch:=omega)only[go_sem,c_ref08_Table_fresh,aF]
 refine (entries_ok b W h n tv ρ F t hn h0 R TI).mono ?_
 rintro ve h1 ⟨we,oe,pe,f1⟩
 obtain⟨L,hL⟩:=IP (eU n t 0)
 have EP: ∀y∈L,bT n y:=λy hy=>TI.Ru y (by rw[hL];exact hy)
 have lL:L.length<=4096:=by
  rw[←hL,←Hb];have:=eB_len n t n;have:=Nat.mul_le_mul hn hn;omega
 unfold DF
 rw[hL] at pe ⊢
 have a9:PVs W h1 we L:=PVs.fx pe (Fx.of f1)
 have b1:=All2.length pe
 obtain⟨a5,B,m,a2,b0⟩:=PVs.open oe.sv a9
 obtain⟨a3,a1,e,a6,a8⟩:=PVs.open sl pl
 simp(disch:=omega)only[go_sem]
 refine aH (λk' a U=> ∃(i:Nat) (Q:V) (ws:List V),(∃g:Nat->V,a= [tv,vl,g 2,Q,ve,aB i,g 6,g 7,g 8,g 9,g 10])/\i<=L.length/\Own U Q 1 ws h1.next/\PVs W h ws ((L.take i).filter λy=>decide (y∉l))/\Fr h1 U/\k'=L.length-i) L.length
  ⟨0,.aD, [],aA rfl,eY _,Own.aD _ _ _,trivial,Fr.refl h1,rfl⟩ ?_
 rintro k' a h2 ⟨i,Q,ws,⟨g,rfl⟩,hi,ow,j,f,rfl⟩
 by_cases w:(i:Int)<(L.length:Int)
 case neg=>
  have e1:=bM w;obtain rfl:i=L.length:=om
  simp(disch:=omega)only[go_sem,a5,e1];rw[List.take_length] at j;exact⟨ws,ow.le f1.next,j,f1.trans f⟩
 have e1:=bV w
 have q:i<L.length:=om
 obtain⟨i1,c1,P⟩:=b0 i q
 have Y:=EP _ (getD_mem (d:= []) q)
 obtain⟨y,hy⟩:=IP (L.getD i [])
 have A:PV W h (we.getD i .undef) (L.getD i []):=by
  obtain⟨w,o,h4⟩:=PVs.at pe q;rw[List.getD,o];exact h4
 rw[hy] at P Y A
 generalize we.getD i .undef=vy at c1 P A
 simp(disch:=omega)only[go_sem,a5,e1]
 refine bW (λw U=>(∃g:Nat->V,w= [tv,vl,g 2,Q,ve,aB i,.bool (decide (y∈l)),g 7,g 8,g 9,g 10])/\Fr h2 U) ?_ ?_
 ·refine aH (λk' a U=> ∃(k:Nat) (s:Bool),(∃g:Nat->V,a= [tv,vl,g 2,Q,ve,aB i,.bool s,aB k,g 8,g 9,g 10])/\k<=l.length/\(s=true↔y∈l.take k)/\Fr h2 U/\k'=l.length-k) l.length
   ⟨0,false,aA rfl,eY _,by simp,Fr.refl h2,rfl⟩ ?_
  clear g
  rintro k' a o ⟨k,s,⟨g,rfl⟩,w,hs,O,rfl⟩
  cases s with
  |true=>
   have p:decide (y∈l)=true:=bV (List.mem_of_mem_take (hs.1 rfl));simp(disch:=omega)only[go_sem];exact⟨by rw[p];exact aA rfl,O⟩
  |false=>
  have u:y∉l.take k:=λh=>by have:=hs.2 h;cases this
  by_cases r:(k:Int)<(l.length:Int)
  case neg=>
   have p:=bM r;obtain rfl:k=l.length:=om
   rw[List.take_length] at u;have s:decide (y∈l)=false:=bM u;simp(disch:=omega)only[go_sem,a3,p];exact⟨by rw[s];exact aA rfl,O⟩
  have p:=bV r
  have G:k<l.length:=om
  obtain⟨i2,c2,p2⟩:=a8 k G
  have Z:=hl _ (getD_mem (d:= []) G)
  obtain⟨z,hz⟩:=IP (l.getD k [])
  rw[hz] at p2 Z
  generalize wl.getD k .undef=vz at c2 p2
  have c:=f.trans O
  have K:=f1.trans c
  have J:o.cell B (m+i)=some vy:=by rw[c.cell i1];exact c1
  have r:o.cell a1 (e+k)=some vz:=by rw[K.cell i2];exact c2
  have v1:=SV.dJ P.si
  have v2:=SV.dJ p2.si
  simp(disch:=omega)only[go_sem,a3,p,a2.ixa,J,a6.ixa,r]
  have fb:Fr o (H.mk o.tr (o.next+10)):=(Fr.refl o).bL om
  refine (same_ok vy vz _ _ _ (P.si.mono (c.trans fb)) (p2.si.mono (K.trans fb)) (by rw[aQ,Y.len];omega) (by rw[aQ,Z.len];omega)).mono ?_
  rintro _ h4 ⟨rfl,f4⟩
  have N:=fb.trans f4
  have s:h4.cell B (m+i)=some vy:=by rw[(c.trans N).cell i1];exact c1
  have r:h4.cell a1 (e+k)=some vz:=by rw[(K.trans N).cell i2];exact c2
  simp(disch:=omega)only[go_sem,s,r,v1,v2]
  rw[dX k]
  refine⟨l.length-(k+1),om,k+1,_,aA rfl,om,?_,O.trans N,rfl⟩
  rw[Cr,mem_take_succ G,hz]
  exact⟨λe=> .inr (zi_inj e).symm,λh=>h.elim (λh=>(u h).elim) λe=>by rw[e]⟩
 rintro a o ⟨⟨g,rfl⟩,O⟩
 have c:=f.trans O
 have J:o.cell B (m+i)=some vy:=by rw[c.cell i1];exact c1
 have a0:=ow.fr O
 have a:=All2.length j
 have a:((L.take i).filter λy=>decide (y∉l)).length<=i:=jC (List.length_filter_le _ _) (by rw[xV];omega)
 have ft:=frF_take (L:=L) (l:=l) q
 rw[hy] at ft
 by_cases hm:y∈l
 ·have p:=bV hm
  simp(disch:=omega)only[go_sem,p]
  rw[dX i]
  rw[aV hm,pN] at ft
  exact⟨L.length-(i+1),om,i+1,Q,ws,aA rfl,om,a0,by rw[ft];exact j,c,rfl⟩
 ·have p:=bM hm
  obtain⟨h4,a,a7,f4,e,_⟩:=app_one (v:=vy) a0 c om (bytes:=24) om
  simp(disch:=omega)only[go_sem,p,a2.ixa,J,cJ _ (z:= .aD) P.dQ.1 P.dQ.2,a]
  rw[dX i]
  rw[aZ hm] at ft
  exact⟨L.length-(i+1),om,i+1,_,_,aA rfl,om,a7,by rw[ft];exact j.append (PVs.one A),f4,rfl⟩
end
structure CJ (b:Nat)(W:Nat->Prop)(h hh:H)(n:Nat)(tv:V)(ρ:Nat->Nat)(L:List Nat->Prop)(t0:mF)(vl:V)(l:LN)(t:mF):Prop where
 ex: ∃W' F wl,TbR b W' hh n tv ρ F t/\Own hh vl 1 wl h.next/\PVs W' hh wl l/\BlkIn W' vl/\ ∀id,id<h.next->W' id->W id
 fx:Fx W h hh
 cls:sQ n L t l
 sub:Sub t0 t
theorem clF_pos {n:Nat}{t:mF}{x:List Nat}{L:List Nat->Prop}{l:LN}(c:sQ n L t l)(b:kF n (iA t n x))(h:(eU n t 0).length<(eU n (iA t n x) 0).length):0<(DF n (iA t n x) l).length:=by
 refine List.length_pos_iff.2 λe=>?_
 unfold DF at e;rw[List.filter_eq_nil_iff] at e
 have:(eU n (iA t n x) 0).length<=(eU n t 0).length:=List.Nodup.length_le_of_subset (qH b) λy a=>by
  have:=e y a;simp at this;exact (c.mem y).1 this
 omega
theorem ents_le (n:Nat)(t:mF)(a:n<=64):(eU n t 0).length<=4096:=by
 rw[←Hb];have:=eB_len n t n;have:=Nat.mul_le_mul a a;omega
theorem Pr_app {n:Nat}{t:mF}{l m:LN}{a c:Nat}(f:a<l.length)(d:c<l.length):Pr n t (l++m) a c↔Pr n t l a c:=by
 have e: ∀k,k<l.length->(l++m).getD k []=l.getD k []:=λk b=>by rw[List.getD,List.getD,vY b]
 unfold Pr;rw[e a f,e c d]
theorem close_ok (b:Nat)(W:Nat->Prop)(h:H)(n:Nat)(w:V)(ρ:Nat->Nat)(F:Nat->Nat->V)(t:mF)(L:List Nat->Prop)(hn:n<=7)(h0:0<n)(hb:b<=h.next)(R:TbR b W h n w ρ F t)(hL: ∀g,L g->bT n g)(tl:Az n L t):
  Ev T 165 [w] h (λ_ h'=> ∃W' F' t',TbR b W' h' n w ρ F' t'/\Az n L t'/\Sub t t'/\wQ n t'/\Fx W h h'/\ ∀id,id<h.next->W' id->W id):=by
 have b4:n^n<=823543:=by
  have: ∀n,n<=7->n^n<=823543:=by decide
  exact this n hn
 refine bH c_ref08_Table_close rfl rfl ?_
 simp(disch:=omega)only[go_sem,c_ref08_Table_close,aF]
 refine (entries_ok b W h n w ρ F t om h0 R tl.tab).mono ?_
 rintro p h1 ⟨Y,P,N,f1⟩
 simp(disch:=omega)only[go_sem]
 refine aH (λk' r Z=> ∃(i:Nat) (p:V) (l:LN) (t':mF),(∃g:Nat->V,r= [w,p,aB i,g 3,g 4,g 5,g 6,g 7,g 8,g 9,g 10,g 11])/\CJ b W h Z n w ρ L t p l t'/\i<=l.length/\(∀a c,a<i->c<i->Pr n t' l a c)/\k'=1000000-i) 1000000
  ⟨0,p,eU n t 0,t,aA rfl,⟨⟨λid=>W id∨ ∃y m c,p= .sl id y m c,F,Y,?_,P,?_,λid y m c e=> .inr ⟨_,_,_,e⟩,λid B f=>?_⟩,Fx.of f1,sQ.start tl,Sub.refl t⟩,eY _,λa c ha=>om,rfl⟩ ?_
 ·refine R.go (Fx.of f1) (λi hi=>f1.get _ (R.win _ (R.wb i hi))) (λid B f=>?_) (λid f=> .inl f) (λid f=>?_) (λid f=>?_)
  ·rcases f with f|⟨y,m,c,e⟩
   ·exact f
   ·have:=(P.in _ _ _ _ e).2.1;omega
  ·rcases f with f|⟨y,m,c,e⟩
   ·exact iO (R.win id f) f1.next
   ·exact (P.in _ _ _ _ e).1
  ·rcases f with f|⟨y,m,c,e⟩
   ·exact R.low id f
   ·have:=(P.in _ _ _ _ e).2.1;omega
 ·refine PVs.go N (Fx.of f1) λid B f=>?_
  rcases f with f|⟨y,m,c,e⟩
  ·exact f
  ·have:=(P.in _ _ _ _ e).2.1;omega
 ·rcases f with f|⟨y,m,c,e⟩
  ·exact f
  ·have:=(P.in _ _ _ _ e).2.1;omega
 clear P N f1 p Y h1
 rintro k' r h1 ⟨i,p,l,s,⟨g,rfl⟩,J,hi,K,rfl⟩
 have lb:=J.cls.bound
 have a2:cV p=some (aB (l.length:Int)):=by
  obtain⟨⟨W',F',Y,_,P,N,_⟩,_⟩:=J;exact (PVs.open P.sv N).1
 by_cases v:(i:Int)<(l.length:Int)
 case neg=>
  have U:=bM v;obtain rfl:i=l.length:=om
  simp(disch:=omega)only[go_sem,a2,U];obtain⟨⟨W',F',Y,R',_,_,_,hW⟩,fx,cls,sub⟩:=J;exact⟨W',F',s,R',cls.tl,sub,cls.closed K,fx,hW⟩
 have U:=bV v
 have o:i<l.length:=om
 simp(disch:=omega)only[go_sem,a2,U]
 refine loop_end (λvs Z=> ∃(p:V) (l:LN) (t':mF),(∃g:Nat->V,vs= [w,p,aB i,g 3,g 4,g 5,g 6,g 7,g 8,g 9,g 10,g 11])/\CJ b W h Z n w ρ L t p l t'/\i<l.length/\ ∀a c,a<i+1->c<i+1->Pr n t' l a c) ?_ ?_
 ·refine aH (λk' r Z=> ∃(k:Nat) (p:V) (l:LN) (t':mF),(∃g:Nat->V,r= [w,p,aB i,aB k,g 4,g 5,g 6,g 7,g 8,g 9,g 10,g 11])/\k<=i+1/\CJ b W h Z n w ρ L t p l t'/\i<l.length/\(∀a c,a<i->c<i->Pr n t' l a c)/\(∀c,c<k->Pr n t' l i c/\Pr n t' l c i)/\k'=i+1-k) (i+1)
   ⟨0,p,l,s,aA rfl,eY _,J,o,K,λc hc=>om,rfl⟩ ?_
  clear J hi K lb a2 v U o p l s g
  rintro k' r h2 ⟨k,p,l,s,⟨g,rfl⟩,hk,J,o,K,hQ,rfl⟩
  by_cases v:(k:Int)<=(i:Int)
  case neg=>
   have U:=bM v;obtain rfl:k=i+1:=om
   simp(disch:=omega)only[go_sem,U];refine⟨p,l,s,aA rfl,J,o,λa c ha hc=>?_⟩
   by_cases ea:a=i
   ·subst ea;exact (hQ c hc).1
   ·by_cases ec:c=i
    ·subst ec;exact (hQ a ha).2
    ·exact K a c om om
  have U:=bV v
  have b4:k<=i:=om
  simp(disch:=omega)only[go_sem,U]
  refine loop_end (λvs Z=> ∃(p:V) (l:LN) (t':mF),(∃g:Nat->V,vs= [w,p,aB i,aB k,g 4,g 5,g 6,g 7,g 8,g 9,g 10,g 11])/\CJ b W h Z n w ρ L t p l t'/\i<l.length/\(∀a c,a<i->c<i->Pr n t' l a c)/\ ∀c,c<k+1->Pr n t' l i c/\Pr n t' l c i) ?_ ?_
  ·refine aH (λk' r Z=> ∃(q:Nat) (p:V) (l:LN) (t':mF),(∃g:Nat->V,r= [w,p,aB i,aB k,aB q,g 5,g 6,g 7,g 8,g 9,g 10,g 11])/\q<=2/\CJ b W h Z n w ρ L t p l t'/\i<l.length/\(∀a c,a<i->c<i->Pr n t' l a c)/\(∀c,c<k->Pr n t' l i c/\Pr n t' l c i)/\(0<q->Pr n t' l i k)/\(1<q->Pr n t' l k i)/\k'=2-q) 2
    ⟨0,p,l,s,aA rfl,om,J,o,K,hQ,λh=>om,λh=>om,rfl⟩ ?_
   clear J K hQ v U o p l s g
   rintro k' r h3 ⟨q,p,l,s,⟨g,rfl⟩,hq,J,o,K,hQ,hA,hB,rfl⟩
   by_cases v:(q:Int)<2
   case neg=>
    have U:=bM v;have b4:q=2:=om
    simp(disch:=omega)only[go_sem,U];refine⟨p,l,s,aA rfl,J,o,K,λc hc=>?_⟩
    by_cases ec:c=k
    ·subst ec;exact⟨hA om,hB om⟩
    ·exact hQ c om
   have U:=bV v
   obtain⟨⟨W',F',Y,R',P,N,bl,hW⟩,fx,cls,sub⟩:=J
   obtain⟨a2,a4,Q,b5,b4⟩:=PVs.open P.sv N
   have lb:=cls.bound
   obtain⟨i1,c1,p1⟩:=b4 i o
   obtain⟨_,c2,p2⟩:=b4 k om
   have ga:=cls.gen _ (getD_mem (d:= []) o)
   have gc:=cls.gen _ (getD_mem (d:= []) (show k<l.length by omega))
   obtain⟨a,ea⟩:=IP (l.getD i [])
   obtain⟨c,ec⟩:=IP (l.getD k [])
   rw[ea] at p1 ga
   rw[ec] at p2 gc
   have A:=ga.isP hL
   have C:=gc.isP hL
   generalize Y.getD i .undef=va at c1 p1
   generalize Y.getD k .undef=vc at c2 p2
   have v1:=SV.dJ p1.si
   have v2:=SV.dJ p2.si
   have vv:=SV.dJ P.sv
   simp(disch:=omega)only[go_sem,U,b5.ixa,c1,c2]
   have fb:Fr h3 (H.mk h3.tr (h3.next+10)):=(Fr.refl h3).bL om
   refine (kmul_ok va vc a c _ (by rw[A.len];omega) (p1.si.mono fb) (p2.si.mono fb) (λj hj=>by rw[C.len];exact A.dZ (by rw[←A.len];exact hj))).mono ?_
   rintro vx h4 ⟨s4,f4,l4⟩
   have z:=fb.trans f4
   have b2:h4.cell a4 (Q+i)=some va:=by rw[z.cell i1];exact c1
   have b1:h4.cell a4 (Q+k)=some vc:=by rw[z.cell i1];exact c2
   simp(disch:=omega)only[go_sem,b2,b1,v1,v2]
   have px:PV W' h4 vx (bD a c):=PV.fresh s4 l4 (λid B=>iO (R'.win id B) fb.next)
   refine kB (λvs Z=> ∃(vx:V) (x:List Nat),(∃g:Nat->V,vs= [w,p,aB i,aB k,aB q,vx,g 6,g 7,g 8,g 9,g 10,g 11])/\PV W' Z vx x/\(q=0->x=bD a c)/\(q=1->x=bD c a)/\fA n L x/\Fr h3 Z) ?_ ?_
   ·refine bB (λZ=>?_) (λZ=>?_)
    ·have Z:(1:Int)=(q:Int):=om
     simp(disch:=omega)only[go_sem,b5.ixa,b2,b1]
     have a5:Fr h4 (H.mk h4.tr (h4.next+10)):=(Fr.refl h4).bL om
     refine (kmul_ok vc va c a _ (by rw[C.len];omega) (p2.si.mono (z.trans a5)) (p1.si.mono (z.trans a5)) (λj hj=>by rw[A.len];exact C.dZ (by rw[←C.len];exact hj))).mono ?_
     rintro vy h5 ⟨s5,f5,l5⟩
     have b3:=a5.trans f5
     have Z:h5.cell a4 (Q+i)=some va:=by rw[(z.trans b3).cell i1];exact c1
     have A:h5.cell a4 (Q+k)=some vc:=by rw[(z.trans b3).cell i1];exact c2
     simp(disch:=omega)only[go_sem,Z,A,v1,v2]
     refine .inl ⟨vy,bD c a,aA rfl,PV.fresh s5 l5 (λid B=>iO (R'.win id B) (z.trans a5).next),λe=>om,λ_=>rfl,gc.app hL ga,z.trans b3⟩
    ·simp(disch:=omega)only[go_sem]
     exact .inl ⟨vx,bD a c,aA rfl,px,λ_=>rfl,λe=>om,ga.app hL gc,z⟩
   clear px s4 l4 z b2 b1 f4 fb vx h4
   rintro r h4 ⟨vx,x,⟨g,rfl⟩,px,b7,b8,gx,f4⟩
   have R4:=R'.mono f4
   simp(disch:=omega)only[go_sem]
   refine (entries_ok b W' h4 n w ρ F' s om h0 R4 cls.tl.tab).mono ?_
   rintro Q h5 ⟨z,A,z,f5⟩
   have l5:cV Q=some (aB ((eU n s 0).length:Int)):=(PVs.open A.sv (PVs.fx z (Fx.of f5))).1
   have z:=ents_le n s om
   simp(disch:=omega)only[go_sem,l5]
   refine (insert_ok b W' h5 n w ρ F' s vx x om h0 (R4.mono f5) (PV.mono px f5) (gx.isP hL) cls.tl.tab).mono ?_
   rintro _ h6 ⟨F6,rfl,Z,Q⟩
   obtain⟨u,G,a1,m,hm⟩:=cls.step hL gx
   simp(disch:=omega)only[go_sem]
   refine (entries_ok b W' h6 n w ρ F6 _ om h0 Z u.tl.tab).mono ?_
   rintro v7 h7 ⟨z,o7,z,A⟩
   have l7:cV v7=some (aB ((eU n (iA s n x) 0).length:Int)):=(PVs.open o7.sv (PVs.fx z (Fx.of A))).1
   have z:=ents_le n (iA s n x) om
   have R7:=Z.mono A
   have z:=f4.trans f5
   have a6:Fx W' h3 h7:=((Fx.of z).trans (R4.wbx Q) (λ_ _ h=>h)).trans (Fx.of A:Fx W' h6 h7) (λ_ _ h=>h)
   have a0: ∀j,j<n->ρ j<h.next:=λj hj=>R.win _ (R.wb j hj)
   have b0:Own h7 p 1 Y h.next:=by
    refine (((P.fr z).keep Q.next λid y m c e B=>Q.get id B λf=>?_).fr A);obtain⟨j,hj,rfl⟩:=f;have:=(P.in _ _ _ _ e).2.1;have:=a0 j hj;omega
   have O:PVs W' h7 Y l:=PVs.fx N a6
   simp(disch:=omega)only[go_sem,l7]
   have a7: ∀z h',CJ b W h h' n w ρ L t z (l++m) (iA s n x)->CJ b W h h' n w ρ L t z (l++m) (iA s n x)/\i<(l++m).length/\(∀a c,a<i->c<i->Pr n (iA s n x) (l++m) a c)/\(∀c,c<k->Pr n (iA s n x) (l++m) i c/\Pr n (iA s n x) (l++m) c i)/\(0<q+1->Pr n (iA s n x) (l++m) i k)/\(1<q+1->Pr n (iA s n x) (l++m) k i):=λz h' J=>by
    have z:k<l.length:=om
    refine⟨J,by rw[jD];omega,λa c h1 h2=>(K a c h1 h2).mono G om om,λc hc=>⟨(hQ c hc).1.mono G o om,(hQ c hc).2.mono G om o⟩,λ_=>?_,λ_=>?_⟩
    ·by_cases a:q=0
     ·rw[Pr_app o z]
      unfold Pr;rw[ea,ec,←b7 a];exact a1
     ·exact (hA om).mono G o z
    ·have a:q=1:=om
     rw[Pr_app z o];unfold Pr;rw[ea,ec,←b8 a];exact a1
   refine bB (λa=>?_) (λa=>?_)
   ·have hg:(eU n s 0).length<(eU n (iA s n x) 0).length:=om
    have em:m=DF n (iA s n x) l:=by
     unfold ET at hm;rw[aV hg] at hm;exact (List.append_cancel_left hm).symm
    have z:=clF_pos cls u.tl.tab hg
    rw[←em] at z
    rw[hm] at u
    have a:=u.bound
    rw[jD] at a
    simp(disch:=omega)only[go_sem]
    refine (fresh_ok b W' h7 n w p Y l ρ F6 _ om h0 R7 u.tl.tab b0.sv O cls.isP om).mono ?_
    rintro a h8 ⟨a,P,p8,f8⟩
    rw[←em] at p8
    have A:=All2.length O
    have A:=All2.length p8
    have b6:=b0.fr f8
    have R8:=R7.mono f8
    obtain⟨N,A,p9⟩:=b6.push (bytes:=24) P.sv (n:=l.length) (m:=m.length) om om om z ⟨om,om⟩
    have z:=p9.next
    have a3:=p9.fx bl
    have z:=a6.next
    have z:=f8.next
    have z:=fx.next
    simp(disch:=omega)only[go_sem,A]
    rw[dX q]
    have a8: ∀id,id<h8.next->(W' id∨id=h8.next)->W' id:=λid h1 h2=>by
     rcases h2 with h2|h2
     ·exact h2
     ·omega
    have J':CJ b W h N n w ρ L t (.sl h8.next 0 (l.length+m.length) (.un 1)) (l++m) (iA s n x):=by
     refine⟨⟨λid=>W' id∨id=h8.next,F6,Y++a,?_,p9.own om om om,?_,λid y m c e=>by cases e;exact .inr rfl,λid B f=>?_⟩,?_,u,sub.trans G⟩
     ·refine R8.go a3 (λj hj=>p9.old _ (by have:=a0 j hj;omega) λid y m c e a=>by have:=(b6.in _ _ _ _ e).2.1;have:=a0 j hj;omega) a8 (λid f=> .inl f) (λid f=>?_) (λid f=>?_)
      ·rcases f with f|f
       ·have:=R8.win id f;omega
       ·omega
      ·rcases f with f|f
       ·exact R8.low id f
       ·omega
     ·exact (PVs.go (PVs.fx O (Fx.of f8)) a3 a8).append (PVs.go (PVs.fx p8 (Fx.of f8)) a3 a8)
     ·rcases f with f|f
      ·exact hW id B f
      ·omega
     ·exact fx.trans ((a6.trans (Fx.of f8:Fx W' h7 h8) (λ_ _ h=>h)).trans a3 (λ_ _ h=>h)) hW
    obtain⟨j1,j2,j3,j4,j5,j6⟩:=a7 _ _ J'
    exact⟨2-(q+1),om,q+1,_,_,_,aA rfl,om,j1,j2,j3,j4,j5,j6,rfl⟩
   ·have hg: ¬(eU n s 0).length<(eU n (iA s n x) 0).length:=om
    have em:m= []:=by
     unfold ET at hm;rw[aZ hg] at hm;exact List.append_right_eq_self.1 hm.symm
    simp(disch:=omega)only[go_sem]
    rw[dX q]
    have J':CJ b W h h7 n w ρ L t p (l++m) (iA s n x):=by
     rw[hm] at u;exact⟨⟨W',F6,Y,R7,b0,by rw[em,pN];exact O,bl,hW⟩,fx.trans a6 hW,u,sub.trans G⟩
    obtain⟨j1,j2,j3,j4,j5,j6⟩:=a7 _ _ J'
    exact⟨2-(q+1),om,q+1,_,_,_,aA rfl,om,j1,j2,j3,j4,j5,j6,rfl⟩
  rintro r h3 ⟨p,l,s,⟨g,rfl⟩,J,o,K,hQ⟩
  have lb:=J.cls.bound
  simp(disch:=omega)only[go_sem]
  rw[dX k]
  exact⟨i+1-(k+1),om,k+1,p,l,s,aA rfl,om,J,o,K,hQ,rfl⟩
 clear J hi K lb a2 v U o p l s g
 rintro r h2 ⟨p,l,s,⟨g,rfl⟩,J,o,K⟩
 have lb:=J.cls.bound
 simp(disch:=omega)only[go_sem]
 rw[dX i]
 exact⟨1000000-(i+1),om,i+1,p,l,s,aA rfl,J,om,K,rfl⟩
theorem orbK_len (t:mF)(i k:Nat):(sW t i k).length<=k:=by
 unfold sW;have:=List.length_filter_le (λp=>p==i||(t i p).isSome) (List.range k);rwa [zE] at this
theorem orbit_ok (b:Nat)(W:Nat->Prop)(h:H)(n:Nat)(A:V)(ρ:Nat->Nat)(F:Nat->Nat->V)(t:mF)(i:Nat)(Q:n<=64)(P:0<n)(hi:i<n)(R:TbR b W h n A ρ F t)(K:kF n t):
  Ev T 184 [A,aB i] h (λv h'=>Own h' v 1 (ints (zi (sW t i n))) h.next/\Fr h h'):=by
 refine bH c_ref08_Table_orbit rfl rfl ?_
 have u:=R.open.1
 simp(disch:=omega)only[go_sem,c_ref08_Table_orbit,aF]
 refine aH (λJ c N=> ∃(p:Nat) (o:V),(∃g:Nat->V,c= [A,aB i,g 2,o,aB p,g 5,g 6])/\i<=p/\p<=n/\Own N o 1 (ints (zi (sW t i p))) h.next/\Fr h N/\J=n-p) (n-i)
  ⟨i,.aD,aA rfl,fH _,om,by rw[Me K];exact Own.aD _ _ _,Fr.refl h,rfl⟩ ?_
 rintro J c j ⟨p,o,⟨g,rfl⟩,c,c,z,f,rfl⟩
 by_cases q:(p:Int)<(n:Int)
 case neg=>
  have l:=bM q;obtain rfl:p=n:=om
  simp(disch:=omega)only[go_sem,u,l];exact⟨z,f⟩
 have l:=bV q
 have c:p<n:=om
 have q:=R.mono f
 obtain⟨_,g,g,r,g⟩:=q.open
 have O:=g i hi
 have s:=q.cell hi c
 have w:=R.ent i p hi c
 have c:=orbK_len t i p
 have B:=Pn (t:=t) i p
 have step:(p=i∨(t i p).isSome)-> ∃d,qV (j.new (.cells false (ints [(p:Int)]))) 1 8 o (.sl j.next 0 1 (.kn 1))=some (.sl (j.next+1) 0 ((sW t i p).length+1) (.un 1),d)/\Own d (.sl (j.next+1) 0 ((sW t i p).length+1) (.un 1)) 1 (ints (zi (sW t i (p+1)))) h.next/\Fr h d:=λc=>by
  obtain⟨d,e,a,k,g,_⟩:=app_one (v:= aB p) z f (by rw[aL,aQ];omega) (bytes:=8) om;rw[aL,aQ] at e a;refine⟨d,e,?_,k⟩;rw[B,aV c,zi_snoc,jZ];exact a
 by_cases m:p=i
 ·have x:decide ((p:Int)=(i:Int))=true:=bV om
  obtain⟨d,e,a,k⟩:=step (.inl m)
  simp(disch:=omega)only[go_sem,u,l,x,bls_i1,e]
  rw[dX p]
  exact⟨n-(p+1),om,p+1,_,aA rfl,om,om,a,k,rfl⟩
 have x:decide ((p:Int)=(i:Int))=false:=bM om
 cases hto:t i p with
 |none=>
  rw[hto] at w;rw[w.nil] at s;simp(disch:=omega)only[go_sem,u,l,x,r.ixa,O,s];rw[dX p];refine⟨n-(p+1),om,p+1,o,aA rfl,om,om,?_,f.bL om,rfl⟩;rw[B,aZ (by rw[hto];simp [m]),pN];exact z.fr ((Fr.refl j).bL om)
 |some y=>
  rw[hto] at w;have L:PV W h (F i p) y:=w;have G:=uY L (bT.ne P (K.isP _ _ _ hto)) true;generalize F i p=c at s L G;obtain⟨d,e,a,k⟩:=step (.inr (by rw[hto];rfl));simp(disch:=omega)only[go_sem,u,l,x,r.ixa,O,s,G,bls_i1,e];rw[dX p];exact⟨n-(p+1),om,p+1,_,aA rfl,om,om,a,k,rfl⟩
theorem Copy.frsh {h h':H}{v:V}{l:List Int}(c:Copy h l v h')(g:0<l.length):Frsh h h' v l:=by
 obtain⟨_,f,e⟩:=c;obtain⟨id,rfl,b,d,a⟩:=e g;exact⟨⟨id,_,rfl,b,d,a,.inl rfl⟩,f⟩
theorem tleast_ok (b:Nat)(W:Nat->Prop)(h:H)(n:Nat)(Z:V)(ρ:Nat->Nat)(F:Nat->Nat->V)(t:mF)(d p:Nat)(x:List Nat)(hn:n<=64)(h0:0<n)(L:d<n)(hp:p<n)(R:TbR b W h n Z ρ F t)(TI:kF n t)(tw:kM n 0 (iW n t))(a7:(iW n t d).to p=some x):
  Ev T 185 [Z,aB d,aB p] h (λv h'=>Frsh h h' v (zi (xY (iW n t) (n-(d+1)) (d+1) x))):=by
 have X:=(nY TI L a7).1
 refine bH c_ref08_Table_least rfl rfl ?_
 obtain⟨lv,b2,b2,b2,b2⟩:=R.open
 simp(disch:=omega)only[go_sem,c_ref08_Table_least,aF,lv]
 refine (kone_ok n h om).mono ?_
 rintro v1 h1 ⟨s1,f1,l1⟩
 simp(disch:=omega)only[go_sem]
 have a4: ∀id,W id->id<h.next:=R.win
 refine kB (λvs j=> ∃vx,(∃g:Nat->V,vs= [Z,aB d,aB p,g 3,vx,g 5,g 6,g 7,g 8,g 9,g 10,g 11,g 12,g 13])/\PV W j vx x/\Fr h j) ?_ ?_
 ·have e:(if p=d then some (cG n) else t d p)=some x:=a7
  refine bB (λb2=>?_) (λb2=>?_)
  ·have w:p≠d:=om
   rw[aZ w] at e
   have R1:=R.mono f1
   obtain⟨_,a1,A,N,s⟩:=R1.open
   have cr:=s d L
   have ce:=R1.cell L hp
   have hS:=R1.ent d p L hp
   rw[e] at hS
   have pz:PV W h1 (F d p) x:=hS
   generalize F d p=vz at ce pz
   simp(disch:=omega)only[go_sem,N.ixa,cr,ce]
   exact .inl ⟨vz,aA rfl,pz,f1⟩
  ·have w:p=d:=om
   rw[aV w] at e
   obtain rfl:cG n=x:=Option.some.inj e
   simp(disch:=omega)only[go_sem]
   exact .inl ⟨v1,aA rfl,PV.fresh s1 l1 a4,f1⟩
 clear s1 f1 l1 v1 h1
 rintro c h1 ⟨vx,⟨g,rfl⟩,px,f1⟩
 simp(disch:=omega)only[go_sem]
 rw[dX d]
 refine bW (λvs j=> ∃l,(∃g:Nat->V,vs= [Z,g 1,g 2,g 3,l,g 5,g 6,g 7,g 8,g 9,g 10,g 11,g 12,g 13])/\PV W j l (xY (iW n t) (n-(d+1)) (d+1) x)/\bT n (xY (iW n t) (n-(d+1)) (d+1) x)/\Fr h j) ?_ ?_
 ·refine aH (λk' c j=> ∃(k:Nat) (y:List Nat) (l:V),(∃g:Nat->V,c= [Z,g 1,g 2,g 3,l,aB k,g 6,g 7,g 8,g 9,g 10,g 11,g 12,g 13])/\d<k/\k<=n/\xY (iW n t) (n-k) k y=xY (iW n t) (n-(d+1)) (d+1) x/\
    PV W j l y/\bT n y/\Fr h j/\k'=n-k) (n-(d+1))
   ⟨d+1,x,vx,aA rfl,om,om,rfl,px,X,f1,rfl⟩ ?_
  clear px f1 vx h1 g
  rintro k' c h2 ⟨k,y,l,⟨g,rfl⟩,e,e,r,hy,Y,f,rfl⟩
  by_cases a6:(k:Int)<(n:Int)
  case neg=>
   have e1:=bM a6;obtain rfl:k=n:=om
   rw[Nat.sub_self] at r;simp(disch:=omega)only[go_sem,lv,e1];have a2:y=xY (iW k t) (k-(d+1)) (d+1) x:=r;exact⟨l,aA rfl,by rw[←a2];exact hy,by rw[←a2];exact Y,f⟩
  have i:k<n:=om
  have e1:=bV a6
  have R2:=R.mono f
  simp(disch:=omega)only[go_sem,lv,e1]
  refine (orbit_ok b W h2 n Z ρ F t k hn h0 i R2 TI).mono ?_
  rintro vo h3 ⟨e,f3⟩
  obtain⟨o,ho⟩:=IP ((iW n t k).orb)
  rw[show sW t k n=o from ho] at e
  have w:SI h3 vo (zi o):=e.sv
  have lo:=w.lens
  rw[aQ] at lo
  have iL:=(tw k (eY _) i).1
  have e:o.length<=n:=by rw[←ho];exact orbK_len t k n
  obtain⟨id,b0,sh,a8,hc⟩:=w.open
  rw[aQ] at sh a8 hc
  have a3:=PV.mono hy f3
  obtain⟨a1,A,N,z,s⟩:=a3.si.open
  rw[aQ,Y.len] at N z s
  simp(disch:=omega)only[go_sem]
  refine bW (λvs j=>(∃g:Nat->V,vs= [Z,g 1,g 2,g 3,l,aB k,g 6,aB (kI y k o:Int),g 8,g 9,g 10,g 11,g 12,g 13])/\kI y k o<n/\kI y k o∈k::o/\Fr h3 j) ?_ ?_
  ·refine aH (λm' c j=> ∃(m b:Nat),(∃g:Nat->V,c= [Z,g 1,g 2,g 3,l,aB k,vo,aB b,aB m,g 9,g 10,g 11,g 12,g 13])/\m<=o.length/\b<n/\b∈k::o/\
     kI y b (o.drop m)=kI y k o/\Fr h3 j/\m'=o.length-m) o.length
    ⟨0,k,aA rfl,eY _,i,zA ..,rfl,Fr.refl h3,rfl⟩ ?_
   rintro m' c P ⟨m,b1,⟨e,rfl⟩,e,O,B,a,G,rfl⟩
   by_cases Q:(m:Int)<(o.length:Int)
   case neg=>
    have e2:=bM Q;have e:m=o.length:=om
    rw[e,List.drop_length] at a;have a:b1=kI y k o:=a;simp(disch:=omega)only[go_sem,lo,e2];exact⟨by rw[←a];exact aA rfl,by rw[←a];exact O,by rw[←a];exact B,G⟩
   have e2:=bV Q
   have e:m<o.length:=om
   rw[best_drop _ _ e] at a
   have cq:P.cell id (b0+m)=some (aB (o.getD m 0:Nat)):=by rw[G.cell (a8 om),hc m e];congr 2;simp [zi,e]
   have a0:o.getD m 0∈o:=by rw[bP e];exact wT e
   have K:=iL.lt i (by rw[ho];exact a0)
   generalize o.getD m 0=q at cq a0 K a
   have e:P.cell a1 (A+q)=some (aB (y.getD q 0:Nat)):=by rw[G.cell (z om),s q K];congr 2;simp [zi,Y.len,K]
   have g:P.cell a1 (A+b1)=some (aB (y.getD b1 0:Nat)):=by rw[G.cell (z om),s b1 O];congr 2;simp [zi,Y.len,O]
   simp(disch:=omega)only[go_sem,lo,e2,sh.ixa,cq,N.ixa,e,g]
   have fb:Fr h3 (H.mk P.tr (P.next+12)):=G.bL om
   refine bB (λe=>?_) (λe=>?_)
   ·rw[aV om] at a
    simp(disch:=omega)only[go_sem,sh.ixa,cq]
    rw[dX m]
    exact⟨o.length-(m+1),om,m+1,q,aA rfl,om,K,xS _ a0,a,fb,rfl⟩
   ·rw[aZ om] at a
    simp(disch:=omega)only[go_sem]
    rw[dX m]
    exact⟨o.length-(m+1),om,m+1,b1,aA rfl,om,O,B,a,fb,rfl⟩
  rintro c P ⟨⟨a,rfl⟩,O,B,G⟩
  have a:n-k=(n-(k+1))+1:=om
  rw[a] at r
  have r:xY (iW n t) (n-(k+1)) (k+1) (if kI y k (iW n t k).orb=k then y else bD (((iW n t k).to (kI y k (iW n t k).orb)).getD []) y)=xY (iW n t) (n-(d+1)) (d+1) x:=r
  rw[ho] at r
  have R4:=R2.mono (f3.trans G)
  have a5:=PV.mono a3 G
  generalize kI y k o=q at r O B
  by_cases J:q=k
  ·rw[aV J] at r
   have e0:decide ((q:Int)≠(k:Int))=false:=bM om
   simp(disch:=omega)only[go_sem,e0]
   rw[dX k]
   exact⟨n-(k+1),om,k+1,y,l,aA rfl,om,om,r,a5,Y,(f.trans f3).trans G,rfl⟩
  rw[aZ J] at r
  have e0:decide ((q:Int)≠(k:Int))=true:=bV om
  have a:q∈(iW n t k).orb:=by
   rcases Dk.1 B with e|e
   ·exact absurd e J
   ·rw[ho];exact e
  obtain⟨u,hu⟩:=iL.to a
  have U:=iL.isP _ _ hu
  have a:(if q=k then some (cG n) else t k q)=some u:=hu
  rw[aZ J] at a
  obtain⟨_,e,e,a9,e⟩:=R4.open
  have cr:=e k i
  have ce:=R4.cell i O
  have hS:=R4.ent k q i O
  rw[a] at hS
  have pu:PV W P (F k q) u:=hS
  generalize F k q=a at ce pu
  rw[hu] at r
  simp(disch:=omega)only[go_sem,e0,a9.ixa,cr,ce]
  refine (kmul_ok a l u y P (by rw[U.len];omega) pu.si a5.si (λj a=>by rw[Y.len];exact U.dZ (by rw[←U.len];exact a))).mono ?_
  rintro v a ⟨s5,f5,l5⟩
  simp(disch:=omega)only[go_sem]
  rw[dX k]
  exact⟨n-(k+1),om,k+1,_,v,aA rfl,om,om,r,PV.fresh s5 l5 R4.win,U.mul Y,((f.trans f3).trans G).trans f5,rfl⟩
 rintro c h2 ⟨l,⟨a,rfl⟩,a,Y,e⟩
 simp(disch:=omega)only[go_sem]
 refine (own_ok l _ h2 a.si (by rw[aQ,Y.len];omega)).mono ?_
 rintro v h3 c
 have fr:=Copy.frsh c (by rw[aQ,Y.len];exact h0)
 simp(disch:=omega)only[go_sem]
 obtain⟨⟨id,a,e1,e2,c,f,g⟩,f3⟩:=fr
 exact⟨⟨id,a,e1,by have:=e.next;omega,c,f,g⟩,e.trans f3⟩
theorem rchain_ok (b:Nat)(W0:Nat->Prop)(h:H)(n:Nat)(tv:V)(ρ:Nat->Nat)(F:Nat->Nat->V)(t:mF)(hn:n<=64)(h0:0<n)(R:TbR b W0 h n tv ρ F t)(TI:kF n t)(tw:kM n 0 (iW n t)):
  Ev T 166 [tv] h (λv h'=> ∃O R',ChW (λid=>id<h.next) h' v n O R'/\dU n (S n (iW n t) 0) O R'/\Fr h h'):=by
 refine bH c_ref08_Table_chain rfl rfl ?_
 have lv:=R.open.1
 obtain⟨τ,a5⟩:=IP (iW n t)
 obtain⟨B,hB⟩:=IP h.next
 have bl:kU [aB 0,.aD,.aD] [(0,1,aB n)]=some (.agg [aB n,.aD,.aD]):=by
  have e1:putAt [aB 0,.aD,.aD] 0 [aB n]=some [aB n,.aD,.aD]:=by simp [putAt]
  simp [kU,gG,e1,V.cells,V.one]
 obtain⟨Q,a0⟩: ∃Q,Q=(h.new (.cells false [aB 0,.aD,.aD])).new (.cells false [aB 0,.aD,.aD]):=⟨_,rfl⟩
 have n1:Q.next=B+2:=by rw[a0,H.aY,H.aY,hB]
 have g1:Q.get (B+1)=bX [aB 0,.aD,.aD]:=by
  rw[a0];have:=H.aN (h.new (.cells false [aB 0,.aD,.aD])) (.cells false [aB 0,.aD,.aD]);rwa [H.aY,hB] at this
 have g0:Q.get B=bX [aB 0,.aD,.aD]:=by rw[a0,H.bJ _ (by rw[H.aY,hB];omega),←hB,H.aN]
 have f1:Fr h Q:=by rw[a0];exact ((Fr.refl h).new _).new _
 simp(disch:=omega)only[go_sem,c_ref08_Table_chain,aF,hB,lv,bl]
 rw[←a0]
 simp(disch:=omega)only[go_sem,dO Q (B+1) 0 (v:= aB n) (u:= .aD) (w:= .aD) rfl rfl rfl,g1,dD]
 obtain⟨l,Y⟩: ∃l,l=Q.set (B+1) (bX [aB n,.aD,.aD]):=⟨_,rfl⟩
 have n2:l.next=B+2:=by rw[Y];exact n1
 have f2:Fr h l:=by rw[Y];exact f1.set om _
 have g2:l.get (B+1)=bX [aB n,.aD,.aD]:=by rw[Y,H.aT]
 have b7:l.get B=bX [aB 0,.aD,.aD]:=by rw[Y,H.aI _ om];exact g0
 rw[←Y]
 clear a0 Y f1 g0 g1 n1 Q
 refine aH (λk' U G=> ∃(i:Nat) (W:Nat->Prop) (O:LN) (R':jL) (vO J:V) (c1 b6:List V),(∃g:Nat->V,U= [tv,.ptr B 0,.ptr (B+1) 0,aB i,g 4,g 5,g 6,g 7,g 8])/\i<=n/\CAcc h G (B+1) B W n O R' vO J c1 b6/\
   G.get B=bX [aB 0,.aD,.aD]/\O.length=i/\R'.length=i/\(∀j,j<i->ChL τ n j (O.getD j []) (R'.getD j []))/\k'=n-i) n
  ⟨0,_, [], [],_,_,_,_,aA rfl,eY _,CAcc.start om om om om om f2 g2,b7,rfl,rfl,λj hj=>om,rfl⟩ ?_
 clear f2 g2 b7 n2 l
 rintro k' U l ⟨i,W,O,R',vO,J,c1,b6,⟨g,rfl⟩,hi,A,gB,lO,lR,hC,rfl⟩
 by_cases c4:(i:Int)<(n:Int)
 case neg=>
  have e1:=bM c4;obtain rfl:i=n:=om
  have hr:=aS A.get;have Y:=A.fr.next;simp(disch:=omega)only[go_sem,lv,e1,hr,dO l B 0 (v:= aB i) (u:=vO) (w:=J) rfl (SV.dC A.oO.sv).2.1 (SV.dC A.oR.sv).2.1,gB,dD];have c6:=aS (h:=l.set B (bX [aB i,vO,J])) (H.aT ..);have fB:Fx (· =B) l (l.set B (bX [aB i,vO,J])):=Fx.set l (W:=(· =B)) rfl _;simp(disch:=omega)only[go_sem,c6]
  obtain⟨h3,c3⟩: ∃h3,h3=l.set B (bX [aB i,vO,J]):=⟨_,rfl⟩
  rw[←c3] at fB ⊢;have Y:=A.box c3;refine⟨O,R',by rw[←hB];exact Y.chw,?_,Y.fr⟩;rw[a5] at tw ⊢;have X:=tw.chain (O:=O) (R:=R') lO lR (λj hj=>(hC j hj).1) (λj hj=>(hC j hj).2.1) (λj hj=>(hC j hj).2.2.1) (λj hj=>(hC j hj).2.2.2);exact X
 have e1:=bV c4
 have b2:i<n:=om
 have R2:=R.mono A.fr
 have iL:=(tw i (eY _) b2).1
 rw[a5] at iL
 simp(disch:=omega)only[go_sem,lv,e1]
 refine (orbit_ok b W0 l n tv ρ F t i hn h0 b2 R2 TI).mono ?_
 rintro vo h4 ⟨oo,f4⟩
 obtain⟨q,Y⟩:=IP (sW t i n)
 have c0:q.Pairwise (· < ·):=by rw[←Y];exact We i n
 have a4: ∀p,p∈q↔p∈(τ i).orb:=λp=>by rw[←Y,Tm,a5]
 have a0:q.length<=n:=by rw[←Y];exact orbK_len t i n
 have a0:0<q.length:=Py ((a4 i).2 iL.base)
 rw[Y] at oo
 obtain⟨P,cp,rfl,Y,c9,cP⟩: ∃P cp,vo= .sl P 0 q.length cp/\l.next<=P/\P<h4.next/\ ∀k,k<q.length->h4.cell P k=some (aB (q.getD k 0:Nat)):=by
  rcases oo with ⟨_,e⟩|⟨id,m,c8,Y,e1,e2,Y,e4,e5,e6⟩
  ·have:=congrArg List.length e
   rw[aL,aQ,List.length_nil] at this;omega
  ·rw[aL,aQ,jY] at e2
   subst e2;exact⟨id,c8,e1,e4,e5,λk hk=>by rw[H.aG e6,vY (by rw[aL,aQ];exact hk),tY hk]⟩
 have A4:=A.mono f4
 have pq:PV W h4 (.sl P 0 q.length cp) q:=⟨oo.sv,λY=>by have:=A.wb P Y;omega⟩
 have d3:h4.get B=bX [aB 0,.aD,.aD]:=by rw[f4.get B (A.wb B A.d)];exact gB
 clear A gB R2 oo
 simp(disch:=omega)only[go_sem]
 refine bW (λA G=> ∃(L:V) (r:LN),(∃g:Nat->V,A= [tv,.ptr B 0,.ptr (B+1) 0,aB i,.sl P 0 q.length cp,L,g 6,g 7,g 8])/\PL W G L r/\ChL τ n i q r/\Fr h4 G) ?_ ?_
 ·refine aH (λk' A G=> ∃(k:Nat) (L:V) (ws:List V) (r:LN) (W':Nat->Prop),(∃g:Nat->V,A= [tv,.ptr B 0,.ptr (B+1) 0,aB i,.sl P 0 q.length cp,L,aB k,g 7,g 8])/\k<=q.length/\Own G L 1 ws h4.next/\PVs W' G ws r/\BlkIn W' L/\(∀id,W id->W' id)/\(∀id,W' id->id<G.next/\(W id∨h4.next<=id))/\r.length=k/\
    (∀j,j<k-> ∀y,(τ i).to (q.getD j 0)=some y->r.getD j []=xY τ (n-(i+1)) (i+1) y)/\Fr h4 G/\k'=q.length-k) q.length
   ⟨0,.aD, [], [],W,aA rfl,eY _,Own.aD _ _ _,trivial,λ_ _ _ _ e=>(by cases e),λ_ h=>h,λid h=>⟨A4.wb id h,.inl h⟩,rfl,λj hj=>om,Fr.refl _,rfl⟩ ?_
  rintro k' U f ⟨k,L,ws,r,W',⟨g,rfl⟩,hk,ow,b5,d6,c2,c5,lr,hr,f5,rfl⟩
  by_cases b3:(k:Int)<(q.length:Int)
  case neg=>
   have e2:=bM b3;obtain rfl:k=q.length:=om
   simp(disch:=omega)only[go_sem,e2];refine⟨L,r,aA rfl,⟨ws,ow.sv,?_,b5.weak (λid _ h=>c2 id h),Own.capOk ow⟩,⟨c0,a4,lr,hr⟩,f5⟩
   cases L with
   |sl id a8 m c=>exact λh=>by have:=(ow.in _ _ _ _ rfl).2.1;have:=A4.wb id h;omega
   |_=>trivial
  have e2:=bV b3
  have A:k<q.length:=om
  obtain⟨p,hp⟩:=IP (q.getD k 0)
  have ck:f.cell P k=some (aB p):=by
   rw[f5.cell c9,cP k A,hp]
  have Y:p∈(τ i).orb:=(a4 p).1 (by rw[←hp,bP A];exact wT A)
  have A:=iL.lt b2 Y
  obtain⟨y,hy⟩:=iL.to Y
  have Y:=iL.isP _ _ hy
  have Y:=R.mono (A4.fr.trans f5)
  simp(disch:=omega)only[go_sem,e2,ck]
  refine (tleast_ok b W0 f n tv ρ F t i p y hn h0 b2 A Y TI tw (by rw[a5];exact hy)).mono ?_
  rw[a5]
  rintro v7 N p
  have f7:=p.fr
  have p7:PV W' N v7 (xY τ (n-(i+1)) (i+1) y):=p.pv λid h=>(c5 id h).1
  simp(disch:=omega)only[go_sem,cJ N (z:= .aD) p7.dQ.1 p7.dQ.2]
  obtain⟨K,x⟩: ∃K,K=N.new (.cells false [v7]):=⟨_,rfl⟩
  have g8:K.get N.next=bX [v7]:=by rw[x,H.aN]
  have n8:K.next=N.next+1:=by rw[x,H.aY]
  have f8:Fr N K:=by rw[x];exact (Fr.refl N).new _
  rw[←x]
  have a6:=f7.trans f8
  have p:=ow.fr a6
  have A:=All2.length b5
  obtain⟨h9,a9,p9⟩:=p.push (bytes:=24) (SV.one om g8 (.kn 1)) (n:=k) (m:=1) om rfl om om om
  simp(disch:=omega)only[go_sem,a9]
  rw[dX k]
  have n9:=p9.next
  have f9:Fx W' K h9:=p9.fx d6
  have p:=a6.next
  have b9: ∀id,id<K.next->(W' id∨id=K.next)->W' id:=λid Q l=>by
   rcases l with l|l
   ·exact l
   ·omega
  refine⟨q.length-(k+1),om,k+1,_,_,r++ [xY τ (n-(i+1)) (i+1) y],λid=>W' id∨id=K.next,aA rfl,om,p9.own om rfl (by have:=f5.next;omega),?_,λid a8 m c e=>by cases e;exact .inr rfl,λid h=> .inl (c2 id h),λid h=>?_,by rw[jD,lr];rfl,λj hj z hz=>?_,?_,rfl⟩
  ·exact (PVs.go (PVs.go b5 (Fx.of a6) (λ_ _ h=>h)) f9 b9).append (PVs.one (PV.go (p7.mono f8) f9 b9))
  ·rcases h with h|h
   ·have:=c5 id h;exact⟨om,this.2⟩
   ·have:=f5.next;exact⟨om,.inr om⟩
  ·by_cases e:j=k
   ·subst e
    rw[hp,hy] at hz
    cases hz
    rw[←lr,getD_app_new]
   ·rw[getD_app_old om]
    exact hr j om z hz
  ·refine⟨by have:=f5.next;omega,λid b1=>?_⟩
   rw[p9.old id (by have:=f5.next;omega) (λd0 a8 m c e e2=>by have:=(ow.in _ _ _ _ e).2.1;omega),a6.get id (by have:=f5.next;omega)]
   exact f5.get id b1
 rintro U f ⟨L,r,⟨g,rfl⟩,pl,c7,f5⟩
 have s:=A4.mono f5
 have d5:=pq.mono f5
 have d4:f.get B=bX [aB 0,.aD,.aD]:=by rw[f5.get B (A4.wb B A4.d)];exact d3
 have cO:f.cell (B+1) 1=some vO:=by rw[H.aG s.get];rfl
 have cR:f.cell (B+1) 2=some J:=by rw[H.aG s.get];rfl
 obtain⟨ws,b4,p,g,A⟩:=pl
 have pl:PL W f L r:=⟨ws,b4,p,g,A⟩
 have g:=s.fr.next
 have b8:=s.wb _ s.c
 simp(disch:=omega)only[go_sem,cO,cR,cJ _ (z:= .aD) (v:= .sl P 0 q.length cp) rfl rfl]
 obtain⟨h6,b0⟩: ∃h6:H,h6=H.mk ((H.mk f.tr (f.next+3)).new (Ob.cells false [.sl P 0 q.length cp])).tr (f.next+14):=⟨_,rfl⟩
 rw[←b0]
 have A:h6.get (f.next+3)=bX [.sl P 0 q.length cp]:=by rw[b0];exact H.aN (H.mk f.tr (f.next+3)) _
 have n6:h6.next=f.next+14:=by rw[b0]
 have o6: ∀k,k≠f.next+3->h6.get k=f.get k:=λk hk=>by rw[b0];exact H.bJ (H.mk f.tr (f.next+3)) (by simpa using hk) _
 have p:Fr f h6:=⟨om,λid b1=>o6 id om⟩
 have g:=All2.length s.aO
 have g:=All2.length s.aR
 obtain⟨N,a7,p7⟩:=(s.oO.fr p).push (bytes:=24) (SV.one om A (.kn 1)) (n:=i) (m:=1) om rfl om om om
 have g:=p7.next
 have a1: ∀k,k<f.next->dF vO k->N.get k=f.get k:=λk Q l=>by rw[p7.old k om l,o6 k om]
 have d7:N.cell (B+1) 2=some J:=by unfold H.cell;rw[a1 (B+1) b8 s.pO,s.get];rfl
 have eR:dJ J J=true:=s.oR.sv.dJ
 have g:L.cells= [L]/\L.one=true:=⟨(SV.dC b4).1,(SV.dC b4).2.1⟩
 simp(disch:=omega)only[go_sem,a7,d7,eR,cJ _ (z:= .aD) g.1 g.2]
 obtain⟨K,x⟩: ∃K:H,K=H.mk ((H.mk N.tr (f.next+8)).new (Ob.cells false [L])).tr N.next:=⟨_,rfl⟩
 rw[←x]
 have g8:K.get (f.next+8)=bX [L]:=by rw[x];exact H.aN (H.mk N.tr (f.next+8)) _
 have n8:K.next=N.next:=by rw[x]
 have o8: ∀k,k≠f.next+8->K.get k=N.get k:=λk hk=>by rw[x];exact H.bJ (H.mk N.tr (f.next+8)) (by simpa using hk) _
 have g:Own K J 1 b6 h.next:=s.oR.mono om λid a8 m c e _ b1=>by
  rw[o8 id om,a1 id b1 (λd0 p p p p e2=>s.dis _ _ _ _ p _ _ _ _ e e2.symm)]
 obtain⟨h9,a9,p9⟩:=g.push (bytes:=24) (SV.one om g8 (.kn 1)) (n:=i) (m:=1) om rfl om om om
 have n9:=p9.next
 have d1: ∀k,f.next<=k->dF J k:=λk hk id a8 m c e e2=>by have:=(s.oR.in _ _ _ _ e).1;omega
 have a3: ∀k,k<f.next->dF vO k->dF J k->h9.get k=f.get k:=λk Q l h3=>by rw[p9.old k om h3,o8 k om,a1 k Q l]
 have m:h9.get (B+1)=bX [aB n,vO,J]:=by rw[a3 _ b8 s.pO s.pR];exact s.get
 have g: ∀(G:H) (x:V),dS (bX [aB n,vO,J]) G (B+1) 1 [x]=some (G.set (B+1) (bX [aB n,x,J])):=λG x=>bE (by simp) G _ x
 have c: ∀(G:H) (x y:V),dS (bX [aB n,x,J]) G (B+1) 2 [y]=some (G.set (B+1) (bX [aB n,x,y])):=λG x y=>bE (by simp) G _ y
 simp(disch:=omega)only[go_sem,a9,m,g,c]
 rw[dX i]
 obtain⟨ha,hb⟩:h6.next=f.next+14/\K.next=f.next+15:=⟨n6,om⟩
 rw[ha,hb]
 obtain⟨a2,Z⟩: ∃a2,a2=(h9.set (B+1) (bX [aB n,.sl (f.next+14) 0 (i+1) (.un 1),J])).set (B+1) (bX [aB n,.sl (f.next+14) 0 (i+1) (.un 1),.sl (f.next+15) 0 (i+1) (.un 1)]):=⟨_,rfl⟩
 rw[←Z]
 have c: ∀k,k≠B+1->a2.get k=h9.get k:=λk hk=>by rw[Z,H.aI _ hk,H.aI _ hk]
 have g:a2.next=f.next+16:=by rw[Z];show h9.next=_;omega
 have d2:=s.step (v4:= .sl P 0 q.length cp) (v5:=L) (o:=q) (r:=r) (h6:=a2) (a:=f.next+14) (b:=f.next+15) (k1:=i+1) (k2:=i+1) d5 pl om om om om om om om (by rw[Z,H.aT])
  (by rw[c _ om,p9.old _ om (d1 _ om),o8 _ om,←ha];exact p7.get) (by rw[c _ om,←hb];exact p9.get) (λk Q l h3 h4=>by rw[c k l];exact a3 k Q h3 h4)
 refine⟨n-(i+1),om,i+1,_,_,_,_,_,_,_,aA rfl,om,d2,?_,by rw[jD,lO];rfl,by rw[jD,lR];rfl,λj hj=>?_,rfl⟩
 ·rw[a3 B (s.wb B s.d) s.qO s.qR];exact d4
 ·by_cases e:j=i
  ·subst e
   have e1:(O++ [q]).getD j []=q:=by rw[←lO];exact getD_app_new
   have e2:(R'++ [r]).getD j []=r:=by rw[←lR];exact getD_app_new
   rw[e1,e2]
   exact c7
  ·rw[getD_app_old om,getD_app_old om]
   exact hC j om
theorem mks_nils (h:H)(n:Nat)(a:n<=100000):uJ h 1 24 [.aD] (aB n) (aB n)=some (.sl h.next 0 n (.kn n),h.new (.cells false (rc n λ_=> .aD))):=by
 have e:dN [V.aD] n=rc n λ_=> .aD:=(xT (by simp [dN]) λi hi=>by simp [dN,hi,Nat.mod_one]).symm
 rw[lZ om (Int.le_refl _) om om,Cd,jY,e]
theorem empty_ok (n:Nat)(h:H)(W:n<=64):Ev T 163 [aB n] h (λv h'=> ∃ρ F,TbR h.next (WB n ρ) h' n v ρ F (λ_ _=>none)/\Fr h h'):=by
 refine bH c_ref08_empty rfl rfl ?_;simp(disch:=omega)only[go_sem,c_ref08_empty,aF]
 refine aH (λJ l u=> ∃(i:Nat) (q:V) (b:List Nat),(∃g:Nat->V,l= [aB n,g 1,q,aB i,g 4])/\i<=n/\b.length=i/\Own u q 1 (b.map λr=> .sl r 0 n (.kn n)) h.next/\b.Nodup/\
   (∀r∈b,h.next<=r/\r<u.next/\u.get r=some (.cells false (rc n λ_=> .aD))/\dF q r)/\Fr h u/\J=n-i) n
  ⟨0,.aD, [],aA rfl,eY _,rfl,Own.aD _ _ _,List.nodup_nil,λr k=>absurd k List.not_mem_nil,Fr.refl h,rfl⟩ ?_
 rintro J l G ⟨i,q,b,⟨g,rfl⟩,hi,A,x,nd,k,f,rfl⟩
 by_cases t:(i:Int)<(n:Int)
 case neg=>
  have y:=bM t;obtain rfl:i=n:=om
  simp(disch:=omega)only[go_sem,y];have w: ∀j,j<i->b.getD j 0∈b:=λj d=>getD_mem om
  refine⟨λj=>b.getD j 0,λ_ _=> .aD,⟨?_,?_,λj d=>(k _ (w j d)).2.2.1,λj d=>⟨j,d,rfl⟩,?_,?_,λa c N P e=>?_,λ_ _ _ _=>rfl⟩,f⟩
  ·have K:(rc i λj=>V.sl (b.getD j 0) 0 i (.kn i))=b.map λr=> .sl r 0 i (.kn i):=xT (by rw[iK];exact A) λj d=>by
    rw[Kt,eX om,List.getD,eX om];rfl
   rw[K];exact x.sv
  ·cases q with
   |sl id o m c=>
    rintro⟨j,d,e⟩;exact (k _ (w j d)).2.2.2 _ _ _ _ rfl e
   |_=>trivial
  ·rintro id ⟨j,d,rfl⟩;exact (k _ (w j d)).2.1
  ·rintro id ⟨j,d,rfl⟩;exact (k _ (w j d)).1
  ·have g:=eX (show a<b.length by omega)
   have d:=eX (show c<b.length by omega);simp only[List.getD,g,d,Option.getD_some] at e;rcases Nat.lt_trichotomy a c with d|d|d
   ·exact absurd e (Po.1 nd a c om om d)
   ·exact d
   ·exact absurd e.symm (Po.1 nd c a om om d)
 have y:=bV t;obtain⟨S,d⟩:=IP G.next;obtain⟨g,j,L,R,U,g⟩:=dL d (rc n λ_=> .aD);have l:=f.next;obtain⟨l,B,p,Q,l,O⟩:=app_one (v:= .sl S 0 n (.kn n)) (x.fr g) (f.trans g) (by rw[iK];omega) (bytes:=24) om;rw[iK,A,L] at B p;simp(disch:=omega)only[go_sem,y,mks_nils G n om,d,j,cJ _ (z:= .aD) (v:= .sl S 0 n (.kn n)) rfl rfl,L,B];rw[dX i];have s: ∀r∈b,r<S:=λr h=>by have:=(k r h).2.1;omega
 refine⟨n-(i+1),om,i+1,_,b++ [S],aA rfl,om,by rw[jD,A];rfl,by rw[List.map_append];exact p,List.nodup_append.2 ⟨nd,by simp,λa N c P e=>?_⟩,λr h=>?_,Q,rfl⟩
 ·have:=s a N
  simp at P;omega
 ·rcases sP.1 h with h|h
  ·obtain⟨d,a,a,b⟩:=k r h
   refine⟨d,om,by rw[O r om b,U r om];exact a,λid o m c e=>by cases e;omega⟩
  ·simp at h
   subst h;refine⟨om,om,by rw[O _ om (λid o m c e K=>by have:=(x.in _ _ _ _ e).1;omega)];exact R,λid o m c e=>by cases e;omega⟩
theorem rmake_ok (Q:V)(n:Nat)(l:LN)(h:H)(n0:1<=n)(n7:n<=7)(hl:l.length<=4096)(hv:SP h Q l)(hP: ∀g∈l,bT n g):
  Ev T 125 [aB n,Q] h (λv h'=> ∃vc O R,v= .tup [vc,aB 0]/\GC (λid=>id<h.next) h' vc n O R (fA n (· ∈l))/\Fr h h'):=by
 refine bH c_ref08_Make rfl rfl ?_
 obtain⟨B,hB⟩:=IP h.next
 obtain⟨h1,e1,F,g1,F,f1⟩:=dL hB [aB 0,.aD,.aD]
 have d1:decide ((n:Int)<1)=false:=bM om
 have d2:decide ((64:Int)<(n:Int))=false:=bM om
 have W:=hv.lens
 rw[iK] at W
 have d3:decide ((4096:Int)<(l.length:Int))=false:=bM om
 obtain⟨id,L,ws,sh,d,F,P,y⟩:=hv.open
 rw[iK] at sh d F P
 simp(disch:=omega)only[go_sem,c_ref08_Make,aF,hB,e1,d1,d2,W,d3]
 refine bW (λA r=>(∃g:Nat->V,A= [aB n,Q,.ptr B 0,g 3,g 4,g 5,g 6,g 7,g 8,g 9,g 10,g 11,g 12,g 13])/\Fr h1 r) ?_ ?_
 ·refine aH (λY A r=> ∃(i:Nat),(∃g:Nat->V,A= [aB n,Q,.ptr B 0,g 3,aB i,g 5,g 6,g 7,g 8,g 9,g 10,g 11,g 12,g 13])/\i<=l.length/\Fr h1 r/\Y=l.length-i) l.length
   ⟨0,aA rfl,eY _,Fr.refl h1,rfl⟩ ?_
  rintro Y k j ⟨i,⟨g,rfl⟩,hi,f,rfl⟩
  by_cases m:(i:Int)<(l.length:Int)
  ·have K:=bV m
   have a:i<l.length:=om
   have F2:=f1.trans f
   have ci:j.cell id (L+i)=some (ws.getD i .undef):=by rw[F2.cell (d om),P i a]
   have N:=sp_at y a
   have X:bT n (l.getD i []):=hP _ (getD_mem a)
   generalize ws.getD i .undef=vx at ci N
   have lx:=N.lens
   rw[aQ,X.len] at lx
   simp(disch:=omega)only[go_sem,W,K,sh.ixa,ci]
   refine (ref_Check_ok vx _ j (by rw[aQ,X.len];omega) (N.mono F2)).mono ?_
   rw[pck_zi X n0 om]
   rintro _ h3 ⟨rfl,s⟩
   have a5:h3.cell id (L+i)=some vx:=by rw[s.cell (by have:=d om;have:=F2.next;omega)];exact ci
   simp(disch:=omega)only[go_sem]
   refine bB (λP=>(P rfl).elim) (λ_=>?_)
   simp(disch:=omega)only[go_sem,sh.ixa,a5,lx]
   refine bB (λP=>(P rfl).elim) (λ_=>?_)
   simp(disch:=omega)only[go_sem]
   rw[dX i]
   exact⟨l.length-(i+1),om,i+1,aA rfl,om,f.trans s,rfl⟩
  have K:=bM m
  simp(disch:=omega)only[go_sem,W,K]
  exact⟨aA rfl,f⟩
 rintro k j ⟨⟨g,rfl⟩,f⟩
 have F2:=f1.trans f
 have F:=f.next
 simp(disch:=omega)only[go_sem]
 refine (empty_ok n j om).mono ?_
 rintro G h3 ⟨ρ,F,R,s⟩
 have F3:=F2.trans s
 simp(disch:=omega)only[go_sem]
 have hL: ∀g,g∈l->bT n g:=hP
 refine bW (λA r=> ∃(z:Nat->Nat->V) (t:mF),(∃g:Nat->V,A= [aB n,Q,.ptr B 0,g 3,g 4,g 5,G,g 7,g 8,g 9,g 10,g 11,g 12,g 13])/\TbR j.next (WB n ρ) r n G ρ z t/\Az n (· ∈l) t/\(∀g∈l,ins t n 0 g=none)/\Fx (WB n ρ) h3 r) ?_ ?_
 ·refine aH (λY A r=> ∃(i:Nat) (z:Nat->Nat->V) (t:mF),(∃g:Nat->V,A= [aB n,Q,.ptr B 0,g 3,g 4,g 5,G,aB i,g 8,g 9,g 10,g 11,g 12,g 13])/\i<=l.length/\TbR j.next (WB n ρ) r n G ρ z t/\Az n (· ∈l) t/\(∀g∈l.take i,ins t n 0 g=none)/\Fx (WB n ρ) h3 r/\Y=l.length-i) l.length
   ⟨0,F,_,aA rfl,eY _,R,⟨kF.empty n,λg hg=>by
    obtain⟨_,_,_,_,_,e⟩:=fE.1 hg
    cases e⟩,λg hg=>absurd hg List.not_mem_nil,Fx.refl _ _,rfl⟩ ?_
  rintro Y k U ⟨i,z,t,⟨g,rfl⟩,hi,R4,tl,hn,x,rfl⟩
  by_cases m:(i:Int)<(l.length:Int)
  case neg=>
   have K:=bM m;obtain rfl:i=l.length:=om
   simp(disch:=omega)only[go_sem,W,K];rw[List.take_length] at hn;exact⟨z,t,aA rfl,R4,tl,hn,x⟩
  have K:=bV m
  have a:i<l.length:=om
  have c: ∀q,WB n ρ q->j.next<=q:=R.low
  have X4:Fr h U:=F2.trans ⟨by have:=s.next;have:=x.next;omega,λq hq=>by rw[x.get q (by have:=s.next;omega) (λZ=>by have:=c q Z;omega)];exact s.get q hq⟩
  have ci:U.cell id (L+i)=some (ws.getD i .undef):=by rw[X4.cell (d om),P i a]
  have N:=sp_at y a
  have X:bT n (l.getD i []):=hP _ (getD_mem a)
  generalize ws.getD i .undef=vx at ci N
  simp(disch:=omega)only[go_sem,W,K,sh.ixa,ci]
  have m:PV (WB n ρ) U vx (l.getD i []):=by
   refine⟨N.mono X4,off_old (b:=j.next) N om c⟩
  refine (insert_ok j.next (WB n ρ) U n G ρ z t vx _ om om R4 m X tl.tab).mono ?_
  rintro _ h5 ⟨F5,rfl,R5,f5⟩
  simp(disch:=omega)only[go_sem]
  rw[dX i]
  obtain⟨o,p,J⟩:=tl.ins hL (x:=l.getD i []) (fA.of hL (getD_mem a))
  refine⟨l.length-(i+1),om,i+1,F5,_,aA rfl,om,R5,o,λu hu=>?_,x.trans f5 (λ_ _ h=>h),rfl⟩
  rcases (mem_take_succ a).1 hu with hu|rfl
  ·exact vH p _ _ _ (hn u hu)
  ·exact J
 clear g
 rintro k U ⟨z,t,⟨g,rfl⟩,R4,tl,hn,x⟩
 have a:=x.next
 have a:=s.next
 simp(disch:=omega)only[go_sem]
 refine (close_ok j.next (WB n ρ) U n G ρ z t (· ∈l) n7 n0 om R4 hL tl).mono ?_
 rintro _ h5 ⟨i,F5,m,R5,o,p,a1,k,a⟩
 have a:=k.next
 have a:=Oj o.tab a1
 simp(disch:=omega)only[go_sem]
 refine (rchain_ok j.next i h5 n G ρ F5 m om n0 R5 o.tab a).mono ?_
 rintro vc h6 ⟨O,R',ch,a4,i⟩
 have a:=i.next
 have c: ∀q,WB n ρ q->j.next<=q:=R.low
 have a:Fr j h5:=⟨om,λq hq=>by
  rw[k.get q om (λZ=>by have:=c q Z;omega),x.get q om (λZ=>by have:=c q Z;omega)]
  exact s.get q hq⟩
 have F6:=(F2.trans a).trans i
 have c:=a.trans i
 have g6:h6.get B=some (.cells false [aB 0,.aD,.aD]):=by rw[c.get B om,f.get B om];exact g1
 have a3:=ch
 obtain⟨vO,vR,a,a,e,t1,_,_,t2,_,_⟩:=ch
 subst e
 have a2:=t1.dC.2.1
 have a0:=t2.dC.2.1
 obtain⟨h7,e7,a,a,o7⟩:=nP h6 B [aB n,vO,vR]
 have r7:=aS a
 simp(disch:=omega)only[go_sem,dO h6 B 0 (v:= aB n) (u:=vO) (w:=vR) rfl a2 a0,g6,dD,e7,r7]
 have f7:Fx (λid=>id<h5.next) h6 h7:=⟨om,λid _ d=>o7 id om⟩
 refine⟨_,O,R',rfl,⟨a3.go f7 (λid _ h=>om),a4.congr (o.group hL n0 a1 λg hg=>vH p _ _ _ (hn g hg)),fA.grp hP,n0,n7⟩,⟨by have:=F6.next;omega,λid d=>by rw[o7 id om];exact F6.get id d⟩⟩
structure CstO (G:List Nat->Prop)(L:LN)(K:List Nat)(i b:Nat)(hh:H)(v:V):Prop where
 ex: ∃(Q:Nat) (ρ:Nat->Nat),v= .sl Q 0 K.length (.kn K.length)/\b<=Q/\Q<hh.next/\hh.get Q=some (.cells false (rc K.length λa=> .sl (ρ a) 0 K.length (.kn K.length)))/\ ∀a,a<K.length->Q<ρ a/\ρ a<hh.next/\hh.get (ρ a)=some (.cells false (rc K.length λk=> aB (cstK G L K i a k:Nat)))
theorem CstO.sr {G:List Nat->Prop}{L:LN}{K:List Nat}{i b:Nat}{hh:H}{v:V}(c:CstO G L K i b hh v):SR hh v ((List.range K.length).map λj=>zi ((List.range K.length).map (cstK G L K i j))):=by
 obtain⟨Q,ρ,rfl,_,e,f,d⟩:=c.ex;refine⟨(List.range K.length).map λa=> .sl (ρ a) 0 K.length (.kn K.length),?_,?_⟩
 ·exact SV.all (by rw[cK,jY]) e f _
 ·refine All2.iC (by simp) λa e f=>?_
  have h:a<K.length:=by simpa using e
  simp only[List.getElem_map,List.getElem_range];obtain⟨_,g,f⟩:=d a h
  have e:(rc K.length λk=>aB (cstK G L K i a k:Nat))=ints (zi ((List.range K.length).map (cstK G L K i a))):=by
   simp [rc,ints,zi,Function.comp_def]
  rw[e] at f;exact SV.all (by rw[aL,aQ,iK,zE,jY]) g f _
set_option maxHeartbeats 64000000
theorem consts_ok (D i:Nat)(n:Nat)(G:List Nat->Prop)(L:LN)(K:List Nat)(h:H)(n7:n<=7)(hG:mD n G)(E:eQ G L)(ik:IsK n G L K)(hl:L.length<=5040)(hr:K.length<=64)(d:DatO n G L K h D):
  Ev T 46 [.ptr D 0,aB i] h (λv h'=>CstO G L K i h.next h' v/\Fr h h'):=by
 refine bH c_algebra_data_constants rfl rfl ?_
 obtain⟨vL,vC,Mn,ln,ks,gD,hD,c9,sL,sC,f,d6,c8,b2⟩:=d.ex
 obtain⟨M,hM⟩:=IP h.next
 obtain⟨h1,e1⟩:=IP (h.new (.wmap (.arr 2 .i64) []))
 have n1:h1.next=M+1:=by rw[←e1,H.aY,hM]
 have g1:h1.get M=some (.wmap (.arr 2 .i64) []):=by rw[←e1,←hM];exact H.aN h _
 have o1: ∀k,k≠M->h1.get k=h.get k:=λk hk=>by rw[←e1];exact H.bJ h om _
 have f1:Fr h h1:=⟨om,λq hq=>o1 q om⟩
 obtain⟨r,J⟩:=IP K.length
 obtain⟨m0,b4⟩: ∃m,L.length=m:=⟨_,rfl⟩
 obtain⟨b5,eL,d8,b9,ws,b7,cL⟩:=sp_open sL
 obtain⟨a0,eC,a5,N,b8,cC⟩:=cls_open om sC f
 rw[J] at a0 b8 cC hr
 rw[b4] at b5 b7 cL b2
 have s: ∀l,Fr h l->l.get D=some (.cells false [vL,vC,.mp Mn]):=λl f=>by rw[f.get _ hD];exact gD
 simp(disch:=omega)only[go_sem,c_algebra_data_constants,aF,hM,e1,H.aG (s h1 f1),b5]
 refine bW (λvs l=> ∃(m:List ((Nat×Nat)×V)),(∃g:Nat->V,vs= [.ptr D 0,aB i,g 2,.mp M,g 4,g 5,g 6,g 7,g 8,g 9,g 10,g 11,g 12,g 13,g 14,g 15,g 16,g 17,g 18,g 19,g 20,g 21,g 22,g 23,g 24])/\l.get M=some (.wmap (.arr 2 .i64) (gH pkV m))/\(∀p∈m,PkP p.1)/\(∀j k,k<r->(Cc m (j,k)).getD (aB 0)= aB (cstA G L K i k L.length j:Nat))/\M<l.next/\Fr h l) ?_ ?_
 ·refine aH (λo b l=> ∃(t:Nat) (m:List ((Nat×Nat)×V)),(∃g:Nat->V,b= [.ptr D 0,aB i,g 2,.mp M,g 4,g 5,g 6,g 7,g 8,g 9,vL,aB m0,aB t,g 13,g 14,g 15,g 16,g 17,g 18,g 19,g 20,g 21,g 22,g 23,g 24])/\t<=m0/\l.get M=some (.wmap (.arr 2 .i64) (gH pkV m))/\(∀p∈m,PkP p.1)/\(∀j k,k<r->(Cc m (j,k)).getD (aB 0)= aB (cstA G L K i k t j:Nat))/\M<l.next/\Fr h l/\o=m0-t) m0
   ⟨0, [],aA rfl,eY _,g1,λ_ h=>(by cases h),λj k _=>rfl,om,f1,rfl⟩ ?_
  rintro o b h2 ⟨t,m,⟨g,rfl⟩,f,gM,O,lk,nM,F,rfl⟩
  by_cases Y:(t:Int)<(m0:Int)
  case neg=>
   have d1:=bM Y;obtain rfl:t=m0:=om
   simp(disch:=omega)only[go_sem,d1];exact⟨m,aA rfl,gM,O,by rw[b4];exact lk,nM,F⟩
  have d1:=bV Y
  have f:t<m0:=om
  obtain⟨b1,c1,s1⟩:=cL t f
  generalize ws.getD t V.undef=ve at c1 s1
  have X:=el_isP hG E (show t<L.length by omega)
  have a9:L.getD t []∈L:=getD_mem om
  have f:L.idxOf (L.getD t [])=t:=by
   rw[Cs,eX om];exact E.nodup.idxOf_getElem _ _
  obtain⟨x,hx⟩:=IP (L.getD t [])
  rw[hx] at s1 X a9 f
  have c2:h2.cell d8 (b9+t)=some ve:=by rw[F.cell b1];exact c1
  simp(disch:=omega)only[go_sem,d1,b7.ixa,c2]
  refine (class_ok D ve n G L K x h2 om (d.mono F) X a9 (s1.mono F)).mono ?_
  rw[f]
  rintro _ h3 ⟨rfl,f3⟩
  have F3:=F.trans f3
  have b0:h3.get M=some (.wmap (.arr 2 .i64) (gH pkV m)):=by rw[f3.get _ nM];exact gM
  have n3:=f3.next
  by_cases hi:numC G L K t=i
  case neg=>
   have d2:decide (((numC G L K t:Nat):Int)≠(i:Int))=true:=bV om;simp(disch:=omega)only[go_sem,d2];rw[dX t];refine⟨m0-(t+1),om,t+1,m,aA rfl,om,b0,O,λj k hk=>?_,om,F3,rfl⟩;rw[lk j k hk,cstA_succ,aZ (λe=>hi e.1),Nat.add_zero]
  have d2:decide (((numC G L K t:Nat):Int)≠(i:Int))=false:=bM om
  simp(disch:=omega)only[go_sem,d2,H.aG (s h3 F3),a0]
  refine aH (λo b l=> ∃(k:Nat) (m:List ((Nat×Nat)×V)),(∃g:Nat->V,b= [.ptr D 0,aB i,g 2,.mp M,ve,g 5,g 6,g 7,g 8,g 9,vL,aB m0,aB t,g 13,g 14,vC,aB r,aB k,g 18,g 19,g 20,g 21,g 22,g 23,g 24])/\k<=r/\l.get M=some (.wmap (.arr 2 .i64) (gH pkV m))/\(∀p∈m,PkP p.1)/\(∀j o,o<r->(Cc m (j,o)).getD (aB 0)= aB (cstA G L K i o (if o<k then t+1 else t) j:Nat))/\M<l.next/\Fr h l/\o=r-k) r
   ⟨0,m,aA rfl,eY _,b0,O,λj k hk=>by rw[aZ om];exact lk j k hk,om,F3,rfl⟩ ?_
  clear gM O lk nM F f3 F3 b0 n3
  rintro o b h4 ⟨k,m,⟨g',rfl⟩,hk,gM,O,lk,nM,F,rfl⟩
  by_cases y:(k:Int)<(r:Int)
  case neg=>
   have d3:=bM y;obtain rfl:k=r:=om
   simp(disch:=omega)only[go_sem,d3];rw[dX t];exact⟨m0-(t+1),om,t+1,m,aA rfl,om,gM,O,λj o a1=>by rw[lk j o a1,aV a1],nM,F,rfl⟩
  have d3:=bV y
  have P:k<r:=om
  obtain⟨bC,a2,f,_,b0,sr⟩:=cC k P
  obtain⟨z,hz⟩:=IP (L.getD (K.getD k 0) [])
  rw[hz] at sr b0
  have f:K.getD k 0<L.length:=ik.lt (getD_mem om)
  have Z:bT n z:=by rw[←hz];exact el_isP hG E f
  have c4:z∈L:=by rw[←hz];exact getD_mem f
  have w3:=sr.dC
  have f:h4.row a5 (N+k*3) 3=some [a2,aB (dW z n:Int),aB ((orbC G L (K.getD k 0)).length:Int)]:=by
   have:h4.row a5 (N+k*3) 3=h.row a5 (N+k*3) 3:=by unfold H.row;rw[F.get _ bC]
   rw[this];exact b0
  obtain⟨A,hA⟩:=IP h4.next
  obtain⟨R,e5,n5,g5,N,f5⟩:=dL hA [.aD,aB 0,aB 0]
  obtain⟨h6,e6,n6,g6,o6⟩:=nP R A [a2,aB (dW z n:Int),aB ((orbC G L (K.getD k 0)).length:Int)]
  have a6:Fr h4 h6:=⟨om,λq hq=>by rw[o6 q om,N q om]⟩
  have F6:=F.trans a6
  have c7:h6.get M=some (.wmap (.arr 2 .i64) (gH pkV m)):=by rw[a6.get _ nM];exact gM
  have N:=s1.dJ
  have N:=sr.dJ
  simp(disch:=omega)only[go_sem,d3,b8.ixa,f,hA,e5,dO R A 0 (v:=a2) (u:= aB (dW z n:Int)) (w:= aB ((orbC G L (K.getD k 0)).length:Int)) w3.2.1 rfl rfl,g5,dD,e6,H.aG (s h6 F6),H.aG g6]
  have fb:=(Fr.refl h6).bL (n:=h6.next+17) om
  refine (quot_ok ve a2 n x z _ om X Z (s1.mono (F6.trans fb)) (sr.mono (F6.trans fb))).mono ?_
  rintro _ h7 ⟨rfl,f⟩
  have a7:=fb.trans f
  have F7:=F6.trans a7
  have b3:h7.get M=some (.wmap (.arr 2 .i64) (gH pkV m)):=by rw[a7.get _ (by have:=a6.next;omega)];exact c7
  have d5:h7.get Mn=some (.wmap (.arr 64 .u8) (gH kyV ln)):=by rw[F7.get _ c9];exact d6
  have Qx:=X.inv.mul Z
  have f:G (bD (dH x) z):=hG.mul (hG.inv ((E.mem x).1 a9)) ((E.mem z).1 c4)
  obtain⟨Z,N⟩:=idx_el E f
  obtain⟨q,hq⟩:=IP (numC G L K (L.idxOf (bD (dH x) z)))
  have f:q<r:=by rw[←hq,←J];exact (numC_ok hG E ik Z).1
  have f:=b2 _ (show L.idxOf (bD (dH x) z)<m0 by omega)
  rw[N,hq] at f
  have lo:=λw=>oA (kyV_eq (n:=n) om) (λa A=>kyV_key (n:=n) om a A) c8 Qx w
  rw[f] at lo
  have PQ:PkP (q,k):=⟨by show q<1000000;omega,by show k<1000000;omega⟩
  have ql:quK G L K t k=q:=by unfold quK;rw[hx,hz];exact hq
  have lc:=lk q k P
  rw[aZ om] at lc
  obtain⟨c,hc⟩:=IP (cstA G L K i k t q)
  rw[hc] at lc
  have f:c<=t:=by rw[←hc];exact cstA_le ..
  have U:=oA pkV_eq pkV_key O PQ (aB 0)
  rw[lc] at U
  have f:V.agg [aB q,aB k]=pkV (q,k):=rfl
  obtain⟨f,f,z,h8,x,n8,o8,b6,t,w,en⟩:=Pg pkV_eq pkV_key O PQ (aB 0) (aB (c+1:Nat)) h7 M b3
  have f:=oA pkV_eq pkV_key t PQ (aB 0)
  rw[w,lc] at f
  have B:Cf (some (.wmap (.arr 2 .i64) (gH pkV m))) (.arr 2 .i64) (aB 0) false (V.agg [aB q,aB k])=_:=U
  have a4:Cf (some (.wmap (.arr 2 .i64) (gH pkV z))) (.arr 2 .i64) (aB 0) false (V.agg [aB q,aB k])=_:=f
  have d7:La (some (.wmap (.arr 2 .i64) (gH pkV m))) h7 M (.arr 2 .i64) (aB 0) (V.agg [aB q,aB k])=_:=x
  have f:=s h7 F7
  have t:h8.get D=some (.cells false [vL,vC,.mp Mn]):=by rw[o8 D om];exact f
  simp(disch:=omega)only[go_sem,H.aG f,d5,lo,Option.getD_some,bld_pk,b3,B,show (c:Int)+1=((c+1:Nat):Int) from rfl,d7,b6,a4,en]
  have f:Zj h8 (.lkw (.arr 2 .i64) (aB 0) false (.c (.mp M)) (.c (.agg [aB q,aB k]))) (aB c)=true:=by
   simp only[Zj,Gz,xv,Gm,b6,a4,Option.map_some,FG];simp [dJ]
  rw[dX k]
  have c:=F7.next
  refine⟨by simp [dJ],f,r-(k+1),om,k+1,_,aA rfl,om,rfl,xB PQ O,λj o a1=>?_,by rw[n8];have:=a7.next;omega,⟨by show h.next<=h8.next;omega,λp c=>by rw[H.aI _ om,o8 p om];exact F7.get p c⟩,rfl⟩
  rw[yU]
  by_cases e:(j,o)=(q,k)
  ·cases e
   rw[aV rfl,aV om,cstA_succ,aV ⟨hi,ql⟩,hc]
   rfl
  ·rw[aZ e,lk j o a1]
   by_cases ek:o=k
   ·subst ek
    rw[aZ om,aV om,cstA_succ,aZ (λh=>e (by rw[←h.2,ql]))]
    rfl
   ·by_cases e2:o<k
    ·rw[aV e2,aV om]
    ·rw[aZ e2,aZ om]
 rintro b hA ⟨m,⟨g,rfl⟩,gM,O,lk,nM,FA⟩
 obtain⟨Q,c⟩:=IP hA.next
 obtain⟨f,eB,f,gB,f,fB⟩:=dL c (rc r λ_=> .aD)
 simp(disch:=omega)only[go_sem,H.aG (s hA FA),a0,mks_nils hA r om,c,eB]
 refine aH (λo b l=> ∃(j:Nat) (ρ:Nat->Nat),(∃g:Nat->V,b= [.ptr D 0,g 1,g 2,.mp M,g 4,g 5,g 6,.sl Q 0 r (.kn r),g 8,g 9,g 10,g 11,g 12,g 13,g 14,g 15,g 16,g 17,g 18,aB r,aB j,g 21,g 22,g 23,g 24])/\j<=r/\l.get Q=some (.cells false (rc r λa=>if a<j then .sl (ρ a) 0 r (.kn r) else .aD))/\(∀a,a<j->Q<ρ a/\ρ a<l.next/\l.get (ρ a)=some (.cells false (rc r λk=> aB (cstK G L K i a k:Nat))))/\Fr hA l/\Q<l.next/\o=r-j) r
  ⟨0,λ_=>0,aA rfl,eY _,by rw[gB];rfl,λa h=>om,fB,om,rfl⟩ ?_
 rintro o b h2 ⟨j,ρ,⟨g',rfl⟩,c,gQ,a3,F,nQ,rfl⟩
 have F0:=FA.trans F
 by_cases Y:(j:Int)<(r:Int)
 case neg=>
  have d1:=bM Y;obtain rfl:j=r:=om
  simp(disch:=omega)only[go_sem,d1];refine⟨⟨Q,ρ,by rw[J],by have:=FA.next;omega,nQ,?_,by rw[J];exact a3⟩,F0⟩;rw[gQ,J];congr 2;exact aX λa ha=>by rw[aV ha]
 have d1:=bV Y
 have a8:j<r:=om
 obtain⟨S,hS⟩:=IP h2.next
 obtain⟨h3,e3,n3,g3,o3,f3⟩:=dL hS (rc r λ_=> aB 0)
 have c5:h3.get Q=some (.cells false (rc r λa=>if a<j then .sl (ρ a) 0 r (.kn r) else .aD)):=by rw[o3 Q om];exact gQ
 obtain⟨h4,c,f,g4,o4⟩:=nP h3 Q (rc r λa=>if a<j+1 then .sl (if a=j then S else ρ a) 0 r (.kn r) else .aD)
 have p4:dS (some (.cells false (rc r λa=>if a<j then .sl (ρ a) 0 r (.kn r) else .aD))) h3 Q j [.sl S 0 r (.kn r)]=some h4:=by
  rw[bE (by rw[cK];exact a8),eG,←c];congr 4;refine aX λa ha=>?_
  by_cases e:a=j
  ·rw[aV e,aV om,aV e]
  ·rw[aZ e]
   by_cases e2:a<j
   ·rw[aV e2,aV om,aZ e]
   ·rw[aZ e2,aZ om]
 have F4:Fr hA h4:=⟨by have:=F.next;omega,λq hq=>by rw[o4 q om,o3 q om];exact F.get q hq⟩
 have d4:h4.cell Q j=some (.sl S 0 r (.kn r)):=by
  rw[H.aG g4,iP a8,aV om,aV rfl]
 simp(disch:=omega)only[go_sem,d1,H.aG (s h2 F0),a0,mks_zeros h2 r om,hS,e3,c5,p4,d4]
 refine aH (λo b l=> ∃(k:Nat),(∃g:Nat->V,b= [.ptr D 0,g 1,g 2,.mp M,g 4,g 5,g 6,.sl Q 0 r (.kn r),aB j,g 9,g 10,g 11,g 12,g 13,g 14,g 15,g 16,g 17,g 18,aB r,aB j,g 21,aB r,aB k,g 24])/\k<=r/\l.get S=some (.cells false (rc r λa=> aB (if a<k then cstK G L K i j a else 0:Nat)))/\Fx (· =S) h4 l/\o=r-k) r
  ⟨0,aA rfl,eY _,by rw[o4 S om,g3];rfl,Fx.refl _ _,rfl⟩ ?_
 rintro o b R ⟨k,⟨b,rfl⟩,hk,gS,F5,rfl⟩
 have n5:=F5.next
 have c0:R.get Q=some (.cells false (rc r λa=>if a<j+1 then .sl (if a=j then S else ρ a) 0 r (.kn r) else .aD)):=by rw[F5.get Q om (by show Q≠S;omega)];exact g4
 have c3:Fr hA R:=⟨by have:=F4.next;omega,λq hq=>by rw[F5.get q (by have:=F4.next;omega) (by show q≠S;have:=F.next;omega)];exact F4.get q hq⟩
 by_cases y:(k:Int)<(r:Int)
 case neg=>
  have d3:=bM y;obtain rfl:k=r:=om
  simp(disch:=omega)only[go_sem,d3];rw[dX j];refine⟨k-(j+1),om,j+1,λa=>if a=j then S else ρ a,aA rfl,om,c0,λa ha=>?_,c3,om,rfl⟩;show Q<(if a=j then S else ρ a)/\(if a=j then S else ρ a)<R.next/\R.get (if a=j then S else ρ a)=_
  by_cases e:a=j
  ·subst e
   rw[aV rfl];refine⟨om,om,?_⟩;rw[gS];congr 2;exact aX λb b=>by rw[aV b]
  ·rw[aZ e]
   obtain⟨c,b,b⟩:=a3 a om;exact⟨c,om,by rw[F5.get _ om (by show ρ a≠S;omega),o4 _ om,o3 _ om];exact b⟩
 have d3:=bV y
 have P:k<r:=om
 have c6:R.get M=some (.wmap (.arr 2 .i64) (gH pkV m)):=by rw[c3.get _ nM];exact gM
 have PQ:PkP (j,k):=⟨by show j<1000000;omega,by show k<1000000;omega⟩
 have U:=oA pkV_eq pkV_key O PQ (aB 0)
 rw[lk j k P] at U
 have B:Cf (some (.wmap (.arr 2 .i64) (gH pkV m))) (.arr 2 .i64) (aB 0) false (V.agg [aB j,aB k])=some (aB (cstK G L K i j k:Nat)):=U
 have d0:R.cell Q j=some (.sl S 0 r (.kn r)):=by
  rw[H.aG c0,iP a8,aV om,aV rfl]
 have b:=λl=>bE (vs:=rc r λa=> aB (if a<k then cstK G L K i j a else 0:Nat)) (off:=k) (by rw[cK];exact P) l S (aB (cstK G L K i j k:Nat))
 simp(disch:=omega)only[go_sem,d3,d0,bld_pk,c6,B,gS,b]
 rw[dX k]
 refine⟨r-(k+1),om,k+1,aA rfl,om,?_,?_,rfl⟩
 ·rw[eG]
  congr 2
  refine aX λa ha=>?_
  by_cases e:a=k
  ·rw[aV e,aV om,e]
  ·rw[aZ e]
   by_cases e2:a<k
   ·rw[aV e2,aV om]
   ·rw[aZ e2,aZ om]
 ·refine (F5.trans (Fx.of (W:=(· =S)) ((Fr.refl R).bL (n:=R.next+12) om)) λ_ _ h=>h).trans ?_ (λ_ _ h=>h)
  exact Fx.set _ (W:=(· =S)) rfl _
set_option maxHeartbeats 16000000
noncomputable def cstM (G:List Nat->Prop)(L:LN)(K:List Nat)(i:Nat):List (List Int):=(List.range K.length).map λj=>zi ((List.range K.length).map (cstK G L K i j))
theorem const_ok {J:Nat->Prop}(x:V)(z:Int)(n:Nat)(O:LN)(R:jL)(G:List Nat->Prop)(h:H)(b:GC J h x n O R G)(L:LN)(t:cI O R n 0 (cG n)=L):
  Ev T 23 [x,aB z] h (λv h'=> ∃K,IsK n G L K/\Fr h h'/\(64<K.length/\v= .tup [.aD,aB 5]∨K.length<=64/\((z<0∨(K.length:Int)<=z)/\v= .tup [.aD,aB 2]∨ ∃(i:Nat) (vl:V),z=(i:Int)/\i<K.length/\v= .tup [vl,aB 0]/\SR h' vl (cstM G L K i)))):=by
 have m:=b
 obtain⟨p,o,rfl,P,B⟩:=b.ch
 refine bH c_algebra_Constants rfl rfl ?_
 have j:p.one=true:=tH P
 have d:o.one=true:=sT B
 obtain⟨E,B⟩:=eJ b.grp b.isc
 have P:=szF_fact b
 rw[t] at E B
 obtain⟨B,s⟩:=IP h.next
 obtain⟨N,F,B,y,B,f⟩:=dL s [aB n,p,o]
 have U:=bF h (v:= aB n) (u:=p) (w:=o) rfl j d
 simp(disch:=omega)only[go_sem,c_algebra_Constants,aF,U,s,F,aS y]
 refine (load_ok _ n O R G N (m.mono f) L t).mono ?_
 rintro _ A ⟨K,c,l,⟨a,rfl⟩|⟨a,D,rfl,g⟩⟩
 ·simp(disch:=omega)only[go_sem]
  refine bB (λ_=>?_) (λd=>(d (by decide)).elim)
  simp(disch:=omega)only[go_sem]
  exact⟨K,c,f.trans l,.inl ⟨a,trivial⟩⟩
 simp(disch:=omega)only[go_sem]
 refine bB (λd=>(d rfl).elim) (λ_=>?_)
 obtain⟨d,d,d,d,d,r,d,d,d,m,j,d,d,d⟩:=g.ex
 have e:=(cls_open om m j).1
 by_cases d:z<0
 ·have k:=bV d
  simp(disch:=omega)only[go_sem,k,lW]
  exact⟨K,c,f.trans l,.inr ⟨a,.inl ⟨.inl d,trivial⟩⟩⟩
 have k:=bM d
 by_cases d:(K.length:Int)<=z
 ·have q:=bV d
  simp(disch:=omega)only[go_sem,k,H.aG r,e,q]
  exact⟨K,c,f.trans l,.inr ⟨a,.inl ⟨.inr d,trivial⟩⟩⟩
 have q:=bM d
 obtain⟨i,rfl⟩: ∃i:Nat,z=(i:Int):=⟨z.toNat,om⟩
 simp(disch:=omega)only[go_sem,k,H.aG r,e,q]
 refine (consts_ok D i n G L K A b.n7 b.grp E c om a g).mono ?_
 rintro vl d ⟨Q,d⟩
 simp(disch:=omega)only[go_sem]
 exact⟨K,c,(f.trans l).trans d,.inr ⟨a,.inr ⟨i,vl,rfl,om,rfl,Q.sr⟩⟩⟩
set_option maxHeartbeats 8000000
theorem pinv_ok (u:V)(n:Nat)(a:List Nat)(h:H)(l:1<=n)(k:n<=64)(A:bT n a)(c:SI h u (zi a)):
  Ev T 45 [u] h (λv h'=> ∃w,v= .tup [w,aB 0]/\SI h' w (zi (dH a))/\Fr h h'):=by
 refine bH c_perm_Inv rfl rfl ?_
 have f:=SV.dC c
 obtain⟨g,m,o,i,o,e⟩:=dL (h:=h) rfl [u]
 simp(disch:=omega)only[go_sem,c_perm_Inv,aF,cJ h (z:= .aD) f.1 f.2.1,m]
 refine (first_ok _ [u] n g l k (by simp) (SV.one om i (.kn 1)) (λi hi=>⟨a,A,?_⟩)).mono ?_
 ·have:i=0:=by simpa using hi
  subst this
  exact c.mono e
 rintro _ j ⟨rfl,f⟩
 have b:=e.trans f
 simp(disch:=omega)only[go_sem]
 refine bB (λe=>(e rfl).elim) (λ_=>?_)
 simp(disch:=omega)only[go_sem]
 refine (inv_gen (rfl:T 79=some c_perm_inv) u n a j om A (c.mono b)).mono ?_
 rintro w e d
 simp(disch:=omega)only[go_sem]
 exact⟨w,rfl,(d.pv (W:=λ_=>False) id).si,b.trans d.fr⟩
theorem ppower_ok (u w:V)(n e:Nat)(a:List Nat)(h:H)(hn:n<=1000)(Z:e<1000000)(A:bT n a)(Y:SI h u (zi a))(R:SI h w (zi (cG n))):
  Ev T 70 [u,w,aB e,.fn 72 [] []] h (λv h'=>SI h' v (zi (pw n a e))/\Fr h h'):=by
 refine bH c_perm_power_api_Perm rfl rfl ?_
 simp(disch:=omega)only[go_sem,c_perm_power_api_Perm,aF]
 refine aH (λc Q J=> ∃(k:Nat) (i o:V) (x b:List Nat),(∃g:Nat->V,Q= [i,o,aB (k:Int),.fn 72 [] [],g 4,g 5,g 6])/\k<1000000/\bT n x/\bT n b/\SI J i (zi x)/\SI J o (zi b)/\bD b (pw n x k)=pw n a e/\Fr h J/\c=k) e
  ⟨e,u,w,a,cG n,aA rfl,Z,A,bT.one n,Y,R,fG (iB A e),Fr.refl h,rfl⟩ ?_
 rintro c J O ⟨k,i,o,x,b,⟨g,rfl⟩,g,X,B,q,G,m,F,hk⟩
 subst hk
 by_cases r:(0:Int)<(c:Int)
 case neg=>
  have t:=bM r;obtain rfl:c=0:=om
  simp(disch:=omega)only[go_sem,t];have f:bD b (cG n)=pw n a e:=m;rw[dA B] at f;rw[←f];exact⟨G,F⟩
 have t:=bV r
 have K: ∀k,bD x (pw n x k)=pw n x (k+1):=λk=>by
  have f:=Gi X 1 k;rw[pw_one' X] at f;rw[←f,Nat.add_comm]
 have N:=pw_sq X (c/2)
 have s:(c:Int).tmod 2=((c%2:Nat):Int):=tmod_nat c 2
 have P:(c:Int).tdiv 2=((c/2:Nat):Int):=rfl
 rcases Nat.mod_two_eq_zero_or_one c with L|L
 ·have z:decide (((0:Nat):Int)=1)=false:=rfl
  rw[L] at s
  simp(disch:=omega)only[go_sem,t,s,z]
  refine (mul_gen (rfl:T 72=some c_perm_mul) i i x x O (by rw[X.len];omega) q q (λj p=>by rw[X.len];exact X.dZ (by rw[←X.len];exact p))).mono ?_
  rintro y f l
  simp(disch:=omega)only[go_sem,P]
  refine⟨c/2,om,c/2,y,o,bD x x,b,aA rfl,om,X.mul X,B,(l.pv (W:=λ_=>False) id).si,G.mono l.fr,?_,F.trans l.fr,rfl⟩
  rw[N,show 2*(c/2)=c by omega];exact m
 ·have z:decide (((1:Nat):Int)=1)=true:=rfl
  rw[L] at s
  simp(disch:=omega)only[go_sem,t,s,z]
  refine (mul_gen (rfl:T 72=some c_perm_mul) o i b x O (by rw[B.len];omega) G q (λj p=>by rw[X.len];exact B.dZ (by rw[←B.len];exact p))).mono ?_
  rintro U f d
  simp(disch:=omega)only[go_sem]
  refine (mul_gen (rfl:T 72=some c_perm_mul) i i x x f (by rw[X.len];omega) (q.mono d.fr) (q.mono d.fr) (λj p=>by rw[X.len];exact X.dZ (by rw[←X.len];exact p))).mono ?_
  rintro y f l
  simp(disch:=omega)only[go_sem,P]
  refine⟨c/2,om,c/2,y,U,bD x x,bD b x,aA rfl,om,X.mul X,B.mul X,(l.pv (W:=λ_=>False) id).si,(d.pv (W:=λ_=>False) id).si.mono l.fr,?_,(F.trans d.fr).trans l.fr,rfl⟩
  rw[N,bN B X (iB X _),K,show 2*(c/2)+1=c by omega];exact m
theorem ppow_ok (u:V)(z:Int)(n:Nat)(a:List Nat)(h:H)(R: -9223372036854775808<=z/\z<9223372036854775808)(Q:1<=n)(J:n<=7)(A:bT n a)(i:SI h u (zi a)):
  Ev T 39 [u,aB z] h (λv h'=> ∃w,v= .tup [w,aB 0]/\SI h' w (zi (zp n a z))/\Fr h h'):=by
 refine bH c_perm_Pow rfl rfl ?_
 have s:=i.lens
 rw[aQ,A.len] at s
 simp(disch:=omega)only[go_sem,c_perm_Pow,aF]
 refine (order_ok u n a h Q J A i).mono ?_
 rintro _ r ⟨rfl,P⟩
 have G:=nI (n:=n) A
 obtain⟨o,l⟩:=IP (dW a n)
 rw[l] at G ⊢
 have G:o<=420:=Nat.le_of_dvd (by decide) (by rw[←l];exact ordP_420 A J)
 have O:=tmod_bd z (n:=(o:Int)) om
 have c:=tmod_fix z (n:=(o:Int)) om
 have G:=Int.emod_nonneg z (show (o:Int)≠0 by omega)
 have j:=Int.emod_lt_of_pos z (show (0:Int)<o by omega)
 obtain⟨m,L⟩: ∃m:Nat,z%(o:Int)=m:=⟨(z%(o:Int)).toNat,om⟩
 have K:zp n a z=pw n a m:=by unfold zp;rw[l,L];rfl
 rw[L] at c j
 obtain⟨q,p⟩:=IP (z.tmod (o:Int))
 rw[p] at O c
 simp(disch:=omega)only[go_sem]
 refine bB (λj=>(j rfl).elim) (λ_=>?_)
 have d: ∀g,Fr r g->Ev T 71 [aB n] g (λv h'=> ∃w,SI h' v (zi (cG n))/\w=v/\Fr h h'):=λg f=>by
  refine (one_gen (rfl:T 71=some c_perm_one) n g om).mono ?_;rintro w N F;exact⟨w,(F.pv (W:=λ_=>False) id).si,rfl,(P.trans f).trans F.fr⟩
 by_cases b:q<0
 ·have x:=bV b
  rw[aV b] at c
  simp(disch:=omega)only[go_sem,p,x,s,c]
  refine (d r (Fr.refl _)).mono ?_
  rintro _ k ⟨w,t,rfl,e⟩
  simp(disch:=omega)only[go_sem]
  refine (ppower_ok u w n m a k om om A (i.mono e) t).mono ?_
  rintro v N ⟨y,B⟩
  simp(disch:=omega)only[go_sem]
  exact⟨v,rfl,by rw[K];exact y,e.trans B⟩
 ·have x:=bM b
  rw[aZ b] at c
  subst c
  simp(disch:=omega)only[go_sem,p,x,s]
  refine (d r (Fr.refl _)).mono ?_
  rintro _ k ⟨w,t,rfl,e⟩
  simp(disch:=omega)only[go_sem]
  refine (ppower_ok u w n m a k om om A (i.mono e) t).mono ?_
  rintro v N ⟨y,B⟩
  simp(disch:=omega)only[go_sem]
  exact⟨v,rfl,by rw[K];exact y,e.trans B⟩
section
variable {h:H} {v:V} {n:Nat} {l:List Nat}
structure Mp (h:H)(v:V)(n id:Nat)(l:List Nat):Prop where
 ex: ∃cap rest,v= .sl id 0 n cap/\id<h.next/\h.get id=bX (ints (zi l)++rest)
 isP:bT n l
theorem Mp.of {b:Nat}(k:0<n)(X:bT n l)(o:Own h v 1 (ints (zi l)) b): ∃id,Mp h v n id l/\b<=id:=by
 rcases o with ⟨_,e⟩|⟨id,m,c,a,rfl,d,j,g,i,f⟩
 ·have:=congrArg List.length e
  rw[aL,aQ,List.length_nil,X.len] at this;omega
 ·rw[aL,aQ,jY,X.len] at d
  subst d;exact⟨id,⟨⟨c,a,rfl,i,f⟩,X⟩,g⟩
theorem Mp.si {id:Nat}(m:Mp h v n id l):SI h v (zi l):=by
 obtain⟨⟨a,b,rfl,c,d⟩,X⟩:=m;refine .inr ⟨id,0,n,a,false,_,rfl,by rw[aL,aQ,X.len,jY],c,d,by rw[jD,aL,aQ,X.len];omega,?_⟩;rw[List.drop_zero,jY,List.take_left' (by rw[aL,aQ,X.len])]
theorem Mp.mono {h':H}{id:Nat}(m:Mp h v n id l)(f:h.next<=h'.next)(e:h'.get id=h.get id):Mp h' v n id l:=by
 obtain⟨⟨b,a,d,c,c⟩,X⟩:=m;exact⟨⟨b,a,d,om,by rw[e];exact c⟩,X⟩
end
theorem FxT.cell {x:Nat}{a c:H}(f:FxT x a c){id off:Nat}(b:id<a.next)(h2:id≠x):c.cell id off=a.cell id off:=by unfold H.cell;rw[f.get id b h2]
set_option maxRecDepth 100000
def ordF (n:Nat)(x:List Nat):Nat->Nat->Nat
 |0,k=>k
 |f+1,k=>if pw n x k=cG n then k else ordF n x f (k+1)
def ordB (n:Nat)(x:List Nat):Nat:=ordF n x 420 1
theorem ordF_ok {n:Nat}{x:List Nat}(X:bT n x): ∀f k,0<k->k<=dW x n->dW x n<=k+f->ordF n x f k=dW x n
 |0,k,_,h1,h2=>by show k=_;omega
 |f+1,k,h0,h1,h2=>by
  unfold ordF;split
  ·rename_i e
   exact Nat.le_antisymm h1 (Nat.le_of_dvd h0 ((kL X k).2 e))
  ·rename_i e
   refine ordF_ok X f (k+1) om ?_ om
   by_cases h:k=dW x n
   ·exact absurd ((kL X k).1 (by rw[h];exact Nat.dvd_refl _)) e
   ·omega
theorem ordB_ok {n:Nat}{x:List Nat}(X:bT n x)(a:n<=7):dW x n=ordB n x:=
 (ordF_ok X 420 1 om (nI X) (by have:=Nat.le_of_dvd om (ordP_420 X a);omega)).symm
def cRb (L:LN)(i j:Nat):Bool:=L.any λc=>conjP (L.getD i []) c==L.getD j []
def orbB (L:LN)(i:Nat):List Nat:=(List.range L.length).filter (cRb L i)
def repsB (L:LN):List Nat:=(List.range L.length).filter λj=>(List.range j).all λi=>!cRb L i j
def numB (L:LN)(K:List Nat)(j:Nat):Nat:=K.findIdx λr=>cRb L r j
def kLtB (n:Nat)(L:LN)(r s:Nat):Bool:=decide (ordB n (L.getD r [])<ordB n (L.getD s [])∨ordB n (L.getD r [])=ordB n (L.getD s [])/\((orbB L r).length<(orbB L s).length∨(orbB L r).length=(orbB L s).length/\r<s))
section
variable {n:Nat} {G:List Nat->Prop} {L:LN} {K:List Nat}
theorem cj_iff (E:eQ G L){x y:List Nat}:cj G x y↔(L.any λc=>conjP x c==y)=true:=by
 rw[List.any_eq_true];constructor
 ·rintro⟨c,hc,e⟩
  exact⟨c,(E.mem c).2 hc,by simpa using e⟩
 ·rintro⟨c,hc,e⟩
  exact⟨c,(E.mem c).1 hc,by simpa using e⟩
theorem cR_iff (E:eQ G L){i j:Nat}:cR G L i j↔cRb L i j=true:=cj_iff E
theorem cRb_eq (E:eQ G L)(i j:Nat)(d:Decidable (cR G L i j)): @decide (cR G L i j) d=cRb L i j:=by
 rw[wW,Cr];exact cR_iff E
theorem orbC_eq (E:eQ G L)(i:Nat):orbC G L i=orbB L i:=by
 unfold orbC orbB;exact List.filter_congr λj _=>cRb_eq E i j _
theorem repsC_eq (E:eQ G L):repsC G L L.length=repsB L:=by
 unfold repsC repsB;refine List.filter_congr λj _=>?_
 classical
 rw[wW,Cr,yQ];unfold isR;constructor
 ·intro h i hi
  have:=h i (Ae.1 hi);rw[cR_iff E] at this;simpa using this
 ·intro h i hi
  have:=h i (Ae.2 hi);rw[cR_iff E];simpa using this
theorem numC_eq (E:eQ G L)(j:Nat):numC G L K j=numB L K j:=by
 unfold numC numB;congr 1;funext r;exact cRb_eq E r j _
theorem el_P (b:mD n G)(E:eQ G L): ∀x∈L,bT n x:=λx a=>b.isP ((E.mem x).1 a)
theorem ord_at (c:mD n G)(E:eQ G L)(a:n<=7){r:Nat}(b:r<L.length):dW (L.getD r []) n=ordB n (L.getD r []):=ordB_ok (el_P c E _ (getD_mem b)) a
theorem kLt_iff (a:mD n G)(E:eQ G L)(b:n<=7){r s:Nat}(d:r<L.length)(c:s<L.length):kLt n G L r s↔kLtB n L r s=true:=by
 unfold kLt kLtB;rw[Cr,ord_at a E b d,ord_at a E b c,orbC_eq E,orbC_eq E]
def KOk (n:Nat)(L:LN)(K:List Nat):Bool:=K.isPerm (repsB L)&&decide (K.Pairwise λr s=>kLtB n L r s=true)
theorem KOk.isK (d:mD n G)(E:eQ G L)(e:n<=7)(h:KOk n L K=true):IsK n G L K:=by
 unfold KOk at h;rw[pQ,Cr] at h;have p:K.Perm (repsB L):=List.isPerm_iff.1 h.1
 have b: ∀r∈K,r<L.length:=λr a=>by
  have:=p.mem_iff.1 a;unfold repsB at this;exact Ae.1 (Sq.1 this).1
 exact⟨by rw[repsC_eq E];exact p,List.Pairwise.imp_of_mem (λa c h=>(kLt_iff d E e (b _ a) (b _ c)).2 h) h.2⟩
theorem KOk.eq (b:mD n G)(E:eQ G L)(a:n<=7){K0:List Nat}(h:KOk n L K0=true)(k:IsK n G L K):K=K0:=k.uniq (KOk.isK b E a h)
end
def wval (n:Nat)(S:LN)(w:List Nat):List Nat:=w.foldl (λx i=>bD x (S.getD i [])) (cG n)
theorem wval_gen {n:Nat}{S:LN}: ∀(w:List Nat) (x:List Nat),(∀i∈w,i<S.length)->fA n (· ∈S) x->fA n (· ∈S) (w.foldl (λx i=>bD x (S.getD i [])) x)
 | [],_,_,h=>h
 |i::w,x,hw,h=>wval_gen w _ (λj a=>hw j (by simp [a])) (h.mul (getD_mem (hw i (by simp))))
def ElOk (n:Nat)(S L:LN)(ws:LN):Bool:=
 L==ws.map (wval n S)&&ws.all (λw=>w.all λi=>decide (i<S.length))&&decide (L.Pairwise λx y=>lessB x y=true)&&L.all (λx=>x.length==n)&&L.contains (cG n)&&L.all λx=>S.all λg=>L.contains (bD x g)
theorem ElOk.isEl {n:Nat}{S L:LN}{ws:LN}(h:ElOk n S L ws=true):eQ (fA n (· ∈S)) L:=by
 unfold ElOk at h;simp only[pQ,beq_iff_eq,yQ,Cr,List.contains_iff_mem] at h;obtain⟨⟨⟨⟨⟨d,e⟩,j⟩,b⟩,g⟩,i⟩:=h;refine⟨List.Pairwise.imp_of_mem (λa f h=>(lessB_iff (by rw[b _ a,b _ f])).1 h) j,λx=>⟨λa=>?_,λa=>?_⟩⟩
 ·rw[d] at a
  obtain⟨w,c,rfl⟩:=pU.1 a;exact wval_gen w _ (e w c) .one
 ·induction a with
  |one=>exact g
  |mul _ hg ih=>exact i _ ih _ hg
def C4:LN:= [[1,2,3,0]]
def A4:LN:= [[1,2,0,3], [0,2,3,1]]
def L3:LN:= [[0,1,2], [0,2,1], [1,0,2], [1,2,0], [2,0,1], [2,1,0]]
def L4:LN:= [[0,1,2,3], [1,2,3,0], [2,3,0,1], [3,0,1,2]]
theorem L4_ok:eQ (fA 4 (· ∈C4)) L4:=ElOk.isEl (ws:= [[], [0], [0,0], [0,0,0]]) (by decide+kernel)
theorem K3_ok:KOk 3 L3 [0,1,3]=true:=by decide+kernel
theorem K4_ok:KOk 4 L4 [0,2,1,3]=true:=by decide+kernel
def permB (n:Nat)(x:List Nat):Bool:=x.length==n&&decide x.Nodup&&x.all λp=>decide (p<n)
theorem permB_ok {n:Nat}{x:List Nat}(h:permB n x=true):bT n x:=by
 unfold permB at h;simp only[pQ,beq_iff_eq,yQ,Cr] at h;exact⟨h.1.1,h.1.2,h.2⟩
theorem C4_P: ∀g∈C4,bT 4 g:=λg a=>permB_ok ((yQ.1 (show C4.all (permB 4)=true by decide+kernel)) g a)
theorem bls_i3 (h:H)(x y z:Int):pF h 1 [aB 0] 3 [(0,1,aB x),(1,1,aB y),(2,1,aB z)]=some (.sl h.next 0 3 (.kn 3),h.new (.cells false (ints [x,y,z]))):=by
 have e:dN [aB 0] 3= [aB 0,aB 0,aB 0]:=rfl;simp [pF,gG,e,putAt,V.cells,V.one,ints]
theorem bls_i4 (h:H)(x y z w:Int):pF h 1 [aB 0] 4 [(0,1,aB x),(1,1,aB y),(2,1,aB z),(3,1,aB w)]=some (.sl h.next 0 4 (.kn 4),h.new (.cells false (ints [x,y,z,w]))):=by
 have e:dN [aB 0] 4= [aB 0,aB 0,aB 0,aB 0]:=rfl;simp [pF,gG,e,putAt,V.cells,V.one,ints]
theorem bls_s2 (h:H){v u:V}(b:v.cells= [v]/\v.one=true)(a:u.cells= [u]/\u.one=true):pF h 1 [.aD] 2 [(0,1,v),(1,1,u)]=some (.sl h.next 0 2 (.kn 2),h.new (.cells false [v,u])):=by
 have e:dN [V.aD] 2= [.aD,.aD]:=rfl;simp [pF,gG,e,putAt,b.1,b.2,a.1,a.2]
theorem sl_cells (id o m:Nat)(c:mE):(V.sl id o m c).cells= [.sl id o m c]/\(V.sl id o m c).one=true:=⟨rfl,rfl⟩
theorem mkI {h:H}{ID:Nat}(a:h.next=ID)(l:List Int): ∃x,h.new (.cells false (ints l))=x/\x.next=ID+1/\SI x (.sl ID 0 l.length (.kn l.length)) l/\Fr h x:=by
 obtain⟨x,e,n,g,o,f⟩:=dL a (ints l);exact⟨x,e,n,SV.all (by rw[aL,jY]) om g _,f⟩
theorem SP.two {h h':H}{id:Nat}{v u:V}{a b:List Nat}(i:SI h v (zi a))(e:SI h u (zi b))(c:id<h'.next)(f:Fr h h')(g:h'.get id=bX [v,u])(d:mE):SP h' (.sl id 0 2 d) [a,b]:=
 ⟨[v,u],SV.all rfl c g _,i.mono f,e.mono f,trivial⟩
theorem SP.one' {h h':H}{id:Nat}{v:V}{a:List Nat}(d:SI h v (zi a))(b:id<h'.next)(f:Fr h h')(g:h'.get id=bX [v])(c:mE):SP h' (.sl id 0 1 c) [a]:=
 ⟨[v],SV.all rfl b g _,d.mono f,trivial⟩
theorem GC.sl {W:Nat->Prop}{h:H}{b:V}{n:Nat}{O:LN}{R:jL}{G:List Nat->Prop}(g:GC W h b n O R G): ∃vO vR,b= .agg [aB n,vO,vR]/\vO.one=true/\vR.one=true/\dJ vO vO=true/\dJ vR vR=true:=by
 obtain⟨vO,vR,a,a,e,c,_,_,a,_,_⟩:=g.cw;exact⟨vO,vR,e,c.dC.2.1,a.dC.2.1,c.dJ,a.dJ⟩
theorem GC.el {W:Nat->Prop}{h:H}{a:V}{n:Nat}{O:LN}{R:jL}{G:List Nat->Prop}{L:LN}(g:GC W h a n O R G)(E:eQ G L):cI O R n 0 (cG n)=L:=(eJ g.grp g.isc).1.uniq E
theorem cell_one {v:V}{h:H}{l:List Int}(s:SI h v l):v.cells= [v]/\v.one=true:=⟨(SV.dC s).1,(SV.dC s).2.1⟩
def SB (h:H)(v:V)(l:List Bool):Prop:=SV h v 1 (l.map V.bool)
theorem SB.mono {h h':H}{v:V}{l:List Bool}(s:SB h v l)(f:Fr h h'):SB h' v l:=SV.mono s f
theorem SB.open {h:H}{v:V}{l:List Bool}(s:SB h v l):cV v=some (aB (l.length:Int))/\ ∃id off,Sl v 1 l.length id off/\ ∀i,i<l.length->id<h.next/\h.cell id (off+i)=some (.bool (l.getD i false)):=by
 have a:(l.map V.bool).length=l.length:=iK ..;refine⟨by unfold cV;rw[SV.len s (n:=l.length) om om];rfl,?_⟩;obtain⟨id,off,b,a,c⟩:=SV.shape s l.length om om;exact⟨id,off,b,λi hi=>⟨a om,by rw[c i om,Kt,List.getD,eX hi];rfl⟩⟩
set_option maxRecDepth 100000
theorem GC.all {W:Nat->Prop}{h:H}{a:V}{n:Nat}{O:LN}{R:jL}{G:List Nat->Prop}(g:GC W h a n O R G):eQ G (cI O R n 0 (cG n))/\(cI O R n 0 (cG n)).length<=5040:=by
 have e:=eJ g.grp g.isc;exact⟨e.1,by rw[e.2];exact szF_fact g⟩
section
variable {n:Nat} {G H:List Nat->Prop} {L M:LN} {K K':List Nat} {x:List Nat}
variable (hG:mD n G) (E:eQ G L) (k:IsK n G L K) (hH:mD n H) (F:eQ H M) (k':IsK n H M K') (X:bT n x) (hx: ∀y,H y↔ ∃g,G g/\conjP g x=y)
include hG E k hH F k' X hx
end
def BlkS (v:V)(id:Nat):Prop:= ∃off m c,v= .sl id off m c
theorem PVs.sp' {W:Nat->Prop}{h:H}{v:V}{ws:List V}{l:LN}(sv:SV h v 1 ws)(p:PVs W h ws l):SP h v l:=by
 refine⟨ws,sv,?_⟩;have a:=All2.length p
 exact All2.iC (by simpa using a) λi hi a=>by
  have:=(All2.get p i hi om).si;simpa using this
section
variable {h:H} {v:V} {ws:List V} {b k n:Nat} {x y:List Nat} {A S Q:LN}
def TdR (h:H)(v:V)(ws:List V)(b:Nat):Prop:= ∃id cap rest,v= .sl id 0 ws.length cap/\b<=id/\id<h.next/\h.get id=bX (ws++rest)/\(cap= .un 1∨cap= .kn 1/\ws.length+rest.length=1)
theorem TdR.sv (t:TdR h v ws b):SV h v 1 ws:=by
 obtain⟨id,a,c,rfl,c,e,d,_⟩:=t;exact .inr ⟨id,0,_,a,false,_,rfl,(jY _).symm,e,d,by rw[jD];omega,by rw[List.drop_zero,jY,List.take_left' rfl]⟩
theorem TdR.keep {h':H}(t:TdR h v ws b)(j:h.next<=h'.next)(f: ∀id,BlkS v id->h'.get id=h.get id):TdR h' v ws b:=by
 obtain⟨id,c,a,e,d,g,i,g⟩:=t;exact⟨id,c,a,e,d,om,by rw[f id ⟨_,_,_,e⟩];exact i,g⟩
theorem TdR.in (t:TdR h v ws b){id:Nat}(d:BlkS v id):b<=id/\id<h.next:=by
 obtain⟨i,a,a,rfl,c,f,_⟩:=t;obtain⟨_,_,_,e⟩:=d;cases e;exact⟨c,f⟩
theorem TdR.pop (t:TdR h v ws b)(m:ws.length=k+1):
  ∃v',oY 1 v none (some (aB k)) none=some v'/\TdR h v' (ws.take k) b/\ ∀id,BlkS v' id->BlkS v id:=by
 obtain⟨id,l,a,rfl,f,g,d,l⟩:=t
 have c:(ws.take k).length=k:=by rw[xV];omega
 have j:ws++a=ws.take k++(ws.drop k++a):=by rw[←oH,List.take_append_drop]
 rcases l with rfl|⟨rfl,l⟩
 ·refine⟨_,EM om om,⟨id,_,ws.drop k++a,by rw[c,Cd],f,g,by rw[d,j],.inl rfl⟩,λi ⟨_,_,_,e⟩=>by cases e;exact⟨_,_,_,rfl⟩⟩
 ·refine⟨_,EZ om om,⟨id,_,ws.drop k++a,by rw[c,Cd],f,g,by rw[d,j],.inr ⟨rfl,by rw[c,jD,Cg];omega⟩⟩,λi ⟨_,_,_,e⟩=>by cases e;exact⟨_,_,_,rfl⟩⟩
theorem TdR.push {y:V}{S:Nat}{c:mE}(t:TdR h v ws b)(o:SV h (.sl S 0 1 c) 1 [y])(u:b<=h.next)(K:ws.length<1000000):
  ∃v' h',qV h 1 24 v (.sl S 0 1 c)=some (v',h')/\TdR h' v' (ws++ [y]) b/\(∀k,k<h.next-> ¬BlkS v k->h'.get k=h.get k)/\h.next<=h'.next/\h'.next<=h.next+1/\ ∀k,BlkS v' k->BlkS v k∨k=h.next:=by
 have p:qV h 1 24 v (.sl S 0 1 c)=Ay.qB h 1 24 v 1 [y]:=by
  simp only[qV,o.len (n:=1) rfl om,o.slice]
 rw[p]
 have p:=t.sv
 have f:=p.len (n:=ws.length) om om
 have m:=p.slice
 obtain⟨id,d,i,rfl,r,w,q,F⟩:=t
 unfold Ay.qB
 simp only[f,m]
 rw[aZ om,aV ⟨om,om⟩]
 have a: ∀g:H,g.next=h.next->(∀k,k<h.next->k≠id->g.get k=h.get k)-> ∃v' h',some (V.sl h.next 0 (ws.length+1) (.un 1),g.new (.cells false (ws++ [y])))=some (v',h')/\TdR h' v' (ws++ [y]) b/\(∀k,k<h.next-> ¬BlkS (.sl id 0 ws.length d) k->h'.get k=h.get k)/\h.next<=h'.next/\h'.next<=h.next+1/\ ∀k,BlkS v' k->BlkS (.sl id 0 ws.length d) k∨k=h.next:=by
  intro g B J;refine⟨_,_,rfl,⟨h.next,_, [],by rw[jD];rfl,u,by rw[H.aY];omega,by rw[←B,H.aN,pN],.inl rfl⟩,λk j l=>?_,by rw[H.aY];omega,by rw[H.aY];omega,λk ⟨_,_,_,e⟩=>by cases e;exact .inr rfl⟩;rw[H.bJ g om];exact J k j (λe=>l ⟨_,_,_,by rw[e]⟩)
 rcases F with rfl|⟨rfl,G⟩
 ·simp only[q,if_true]
  exact a (h.set id none) rfl (λk _ j=>H.aI h j none)
 ·simp only
  by_cases e:ws.length+1<=1
  ·rw[aV e]
   have s:ws= []:=Yd om
   subst s
   obtain⟨z,rfl⟩: ∃z,i= [z]:=List.length_eq_one_iff.1 (by simpa using G)
   have d:h.put id (0+([]:List V).length*1) [y]=some (h.set id (bX [y])):=by
    simp [H.put,q,putAt]
   rw[d]
   refine⟨_,_,rfl,⟨id,_, [],rfl,r,w,by rw[H.aT];rfl,.inr ⟨rfl,rfl⟩⟩,λk j l=>H.aI h (λe=>l ⟨0,0,.kn 1,by rw[e];rfl⟩) _,fH _,Nat.le_succ _,λk ⟨_,_,_,e⟩=>by cases e;exact .inl ⟨_,_,_,rfl⟩⟩
  ·rw[aZ e]
   exact a h rfl (λ_ _ _=>rfl)
def allP (n:Nat):LN:=(rO n n).filter (permB n)
theorem allP_mem (X:bT n x):x∈allP n:=by
 unfold allP;rw[Sq];refine⟨X.mZ,?_⟩;unfold permB;simp only[pQ,beq_iff_eq,yQ,Cr];exact⟨⟨X.len,X.nd⟩,X.lt⟩
theorem perms_five (d:n<=5){l:LN}(nd:l.Nodup)(a: ∀x∈l,bT n x):l.length<=120:=by
 have h: ∀n,n<=5->(allP n).length<=120:=by decide+kernel
 exact jC (List.Nodup.length_le_of_subset nd λx c=>allP_mem (a x c)) (h n d)
theorem lt_nodup {n:Nat}(a:A.Pairwise Lt):A.Nodup:=a.imp λh e=>by rw[e] at h;exact h.irrefl
def insA (A:LN)(k:Nat)(y:List Nat):LN:=A.take k++y::A.drop k
theorem insA_mem {z:List Nat}:z∈insA A k y↔z=y∨z∈A:=by
 unfold insA;rw[sP,Dk];constructor
 ·rintro (h|h|h)
  ·exact .inr (List.mem_of_mem_take h)
  ·exact .inl h
  ·exact .inr (List.mem_of_mem_drop h)
 ·rintro (h|h)
  ·exact .inr (.inl h)
  ·rw[←List.take_append_drop k A,sP] at h
   rcases h with h|h
   ·exact .inl h
   ·exact .inr (.inr h)
theorem insA_len:(insA A k y).length=A.length+1:=by
 unfold insA;rw[jD,List.length_cons,xV,Cg];omega
theorem lt_total {a b:List Nat}(A:bT n a)(B:bT n b)(m: ¬Lt a b)(h2:a≠b):Lt b a:=by
 have h: ∃i,i<n/\a.getD i 0≠b.getD i 0:=Bz λh=>h2 (oP (by rw[A.len,B.len]) λi hi=>Bz λf=>h ⟨i,by rw[←A.len];exact hi,f⟩)
 obtain⟨i,hi,c⟩:=h
 have o: ∃i,(i<n/\a.getD i 0≠b.getD i 0)/\ ∀j,j<i-> ¬(j<n/\a.getD j 0≠b.getD j 0):=by
  revert hi c
  induction i using Nat.strongRecOn with
  |ind i ih=>
   intro hi c
   by_cases h: ∃j,j<i/\j<n/\a.getD j 0≠b.getD j 0
   ·obtain⟨j,f,d,e⟩:=h
    exact ih j f d e
   ·exact⟨i,⟨hi,c⟩,λj c e=>h ⟨j,c,e⟩⟩
 obtain⟨k,⟨l,g⟩,e⟩:=o;have i: ∀j,j<k->a.getD j 0=b.getD j 0:=λj c=>Bz λf=>e j c ⟨om,f⟩
 rcases Nat.lt_or_gt_of_ne g with d|d
 ·exact (m ⟨k,by rw[A.len];exact l,i,d⟩).elim
 ·exact⟨k,by rw[B.len];exact l,λj c=>(i j c).symm,d⟩
theorem insA_asc (l: ∀x∈A,bT n x)(Y:bT n y)(f:A.Pairwise Lt)(p:Plc A y k)(r:y∉A):(insA A k y).Pairwise Lt:=by
 unfold insA;rw[List.pairwise_append];have HZ: ∀{z:List Nat},z∈A.take k-> ∃i,i<k/\i<A.length/\A.getD i []=z:=λh=>(mem_take (d:= [])).1 h
 have o: ∀{z:List Nat},z∈A.drop k-> ∃i,k<=i/\i<A.length/\A.getD i []=z:=λh=>by
  obtain⟨q,s,e⟩:=vJ.1 h;rw[Cg] at s;rw[List.getElem_drop] at e;exact⟨k+q,om,om,by rw[List.getD,eX om,←e];rfl⟩
 have m: ∀z∈A.take k,Lt z y:=λz a=>by
  obtain⟨i,g,c,rfl⟩:=HZ a;exact (lessB_iff (by rw[(l _ (getD_mem c)).len,Y.len])).1 (p.lo i g)
 have hi: ∀z∈A.drop k,Lt y z:=λz a=>by
  obtain⟨i,g,c,rfl⟩:=o a;have Z:=l _ (getD_mem (d:= []) c);refine lt_total Z Y (λh=>?_) (λe=>r (by rw[←e];exact getD_mem c));have:=p.hi i g c;rw[(lessB_iff (by rw[Z.len,Y.len])).2 h] at this;cases this
 refine⟨f.sublist (List.take_sublist k A),List.pairwise_cons.2 ⟨hi,f.sublist (List.drop_sublist k A)⟩,λz a w j=>?_⟩;rcases Dk.1 j with rfl|j
 ·exact m z a
 ·have Z:=l z (List.mem_of_mem_take a)
  exact Lt.trans (by rw[Z.len,Y.len]) (m z a) (hi w j)
structure ElJ (n:Nat)(S A Q:LN):Prop where
 asc:A.Pairwise Lt
 gen: ∀x∈A,fA n (· ∈S) x
 one:cG n∈A
 sub: ∀x∈Q,x∈A
 cl: ∀x∈A,x∉Q-> ∀g∈S,bD x g∈A
theorem ElJ.start (n:Nat)(S:LN):ElJ n S [cG n] [cG n]:=
 ⟨List.pairwise_singleton _ _,λx a=>by simp at a;subst a;exact .one,by simp,λx a=>a,λx a h=>absurd a h⟩
theorem ElJ.done (j:ElJ n S A []):eQ (fA n (· ∈S)) A:=by
 refine⟨j.asc,λx=>⟨j.gen x,λh=>?_⟩⟩
 induction h with
 |one=>exact j.one
 |mul _ hg ih=>exact j.cl _ ih List.not_mem_nil _ hg
structure ElI (n:Nat)(S:LN)(x:List Nat)(i:Nat)(A Q:LN):Prop where
 asc:A.Pairwise Lt
 gen: ∀x∈A,fA n (· ∈S) x
 one:cG n∈A
 sub: ∀x∈Q,x∈A
 mem:x∈A
 cl: ∀z∈A,z∉Q->z=x∨ ∀g∈S,bD z g∈A
 dn: ∀j,j<i->bD x (S.getD j [])∈A
theorem ElI.start (j:ElJ n S A (Q++ [x])):ElI n S x 0 A Q:=
 ⟨j.asc,j.gen,j.one,λz a=>j.sub z (by simp [a]),j.sub x (by simp),λz a c=>by
  by_cases e:z=x
  ·exact .inl e
  ·exact .inr (j.cl z a (by simp [c,e])),λj a=>om⟩
theorem ElI.done (j:ElI n S x S.length A Q):ElJ n S A Q:=
 ⟨j.asc,j.gen,j.one,j.sub,λz c d g a=>by
  rcases j.cl z c d with rfl|h
  ·obtain⟨i,hi,e⟩:=vJ.1 a
   have:=j.dn i hi;rwa [List.getD,eX hi,Option.getD_some,e] at this
  ·exact h g a⟩
theorem ElI.skip {i:Nat}(j:ElI n S x i A Q)(h:bD x (S.getD i [])∈A):ElI n S x (i+1) A Q:=
 ⟨j.asc,j.gen,j.one,j.sub,j.mem,j.cl,λk a=>by
  by_cases e:k=i
  ·rw[e];exact h
  ·exact j.dn k om⟩
theorem ElI.step {i:Nat}(j:ElI n S x i A Q)(f: ∀g∈S,bT n g)(hi:i<S.length)(h:bD x (S.getD i [])∉A)(p:Plc A (bD x (S.getD i [])) k):ElI n S x (i+1) (insA A k (bD x (S.getD i []))) (Q++ [bD x (S.getD i [])]):=by
 have e:=j.gen x j.mem;have d:fA n (· ∈S) (bD x (S.getD i [])):=e.mul (getD_mem hi);obtain⟨y,l⟩:=IP (bD x (S.getD i []));rw[l] at d h p ⊢;refine⟨insA_asc (λz a=>(j.gen z a).isP f) (d.isP f) j.asc p h,λz a=>?_,insA_mem.2 (.inr j.one),λz a=>?_,insA_mem.2 (.inr j.mem),λz a c=>?_,λq c=>?_⟩
 ·rcases insA_mem.1 a with rfl|a
  ·exact d
  ·exact j.gen z a
 ·rcases sP.1 a with a|a
  ·exact insA_mem.2 (.inr (j.sub z a))
  ·simp at a;exact insA_mem.2 (.inl a)
 ·rcases insA_mem.1 a with rfl|a
  ·exact absurd (by simp) c
  ·rcases j.cl z a (λh=>c (by simp [h])) with e|a
   ·exact .inl e
   ·exact .inr λg c=>insA_mem.2 (.inr (a g c))
 ·by_cases e:q=i
  ·rw[e,l];exact insA_mem.2 (.inl rfl)
  ·exact insA_mem.2 (.inr (j.dn q om))
theorem ins_cells {A:List V}(a:k<=A.length)(z y:V):(((A++ [z]).take (k+1)++A.drop k).set k y)=A.take k++y::A.drop k:=by
 have c:(A++ [z]).take (k+1)=A.take k++ [(A++ [z]).getD k .undef]:=by
  rw[take_getD .undef (by rw[jD];simp;omega),List.take_append_of_le_length a]
 rw[c,oH,List.set_append_right _ _ (by rw[xV];omega),xV,Nat.min_eq_left a,Nat.sub_self]
 rfl
theorem PVs.insA {W:Nat->Prop}{c:List V}(p:PVs W h c A)(q:PV W h v y)(f:k<=A.length):PVs W h (c.take k++v::c.drop k) (Go.Proofs.YtapfcpkecmmagaaGreat.insA A k y):=by
 have d:=All2.length p
 have t: ∀(k:Nat) (c:List V) (A:LN),PVs W h c A->PVs W h (c.take k) (A.take k)/\PVs W h (c.drop k) (A.drop k):=by
  intro k
  induction k with
  |zero=>intro c A p;exact⟨trivial,p⟩
  |succ k ih=>
   intro c A p
   cases c with
   |nil=>cases A with
    |nil=>exact⟨trivial,trivial⟩
    |cons=>exact p.elim
   |cons a c=>cases A with
    |nil=>exact p.elim
    |cons b A=>
     obtain⟨d,e⟩:=ih c A p.2
     exact⟨⟨p.1,d⟩,e⟩
 obtain⟨d,e⟩:=t k c A p;exact d.append ⟨q,e⟩
theorem TdR.own (t:TdR h v ws b)(i:0<ws.length):Own h v 1 ws b:=by
 obtain⟨id,c,a,rfl,f,g,e,d⟩:=t;refine .inr ⟨id,ws.length,c,a,rfl,(jY _).symm,?_,f,g,e⟩;rcases d with d|⟨rfl,a⟩
 ·exact .inl d
 ·have e:ws.length=1:=om
  exact .inr ⟨by rw[e],Yd om⟩
theorem slc_lo {Q m:Nat}(a:k<=m):oY 1 (.sl Q 0 (m+1) (.un 1)) (some (aB k)) none none=some (.sl Q k (m+1-k) (.un 1)):=by
 simp only[oY,kP];rw[aV ⟨om,om⟩];simp only[if_true,Cd];rw[aV om,Nat.zero_add,jY]
theorem slc_lo1 {Q m:Nat}(a:k<=m):oY 1 (.sl Q 0 (m+1) (.un 1)) (some (aB ((k:Int)+1))) none none=some (.sl Q (if k<m then k+1 else 0) (m-k) (.un 1)):=by
 simp only[oY,kP];rw[aV ⟨om,om⟩];have e:((k:Int)+1).toNat=k+1:=om
 simp only[if_true,e]
 by_cases h:k<m
 ·rw[aV om,aV h]
  simp only[Option.some.injEq,V.sl.injEq,true_and,and_true];omega
 ·rw[aZ om,aZ h]
  simp only[Option.some.injEq,V.sl.injEq,true_and,and_true];omega
theorem cpy_ins {Q:Nat}{z:V}(l:k<=ws.length)(c:h.get Q=bX (ws++ [z])):
  Re h 1 (.sl Q (if k<ws.length then k+1 else 0) (ws.length-k) (.un 1)) (.sl Q k (ws.length+1-k) (.un 1))=some (aB (ws.length-k:Nat),h.set Q (bX ((ws++ [z]).take (k+1)++ws.drop k))):=by
 have i:mH (.sl Q (if k<ws.length then k+1 else 0) (ws.length-k) (.un 1))=some (ws.length-k):=rfl
 have g:mH (.sl Q k (ws.length+1-k) (.un 1))=some (ws.length+1-k):=rfl
 have j:min (ws.length+1-k) (ws.length-k)=ws.length-k:=om
 have f:h.row Q k (ws.length-k)=some (ws.drop k):=by
  unfold H.row;rw[c];show sub (ws++ [z]) k (ws.length-k)=_;unfold sub;rw[aV (by rw[jD];omega),List.drop_append_of_le_length l,List.take_left' (by rw[Cg])]
 have m:h.put Q (if k<ws.length then k+1 else 0) (ws.drop k)=some (h.set Q (bX ((ws++ [z]).take (k+1)++ws.drop k))):=by
  unfold H.put;rw[c];show (putAt (ws++ [z]) _ (ws.drop k)).map _=_;unfold putAt;have a:(ws++ [z]).length=ws.length+1:=by simp
  by_cases h:k<ws.length
  ·rw[aV h,aV (by rw[a,Cg];omega),Cg,List.drop_eq_nil_of_le (as:=ws++ [z]) (by rw[a];omega),pN];rfl
  ·have e:k=ws.length:=om
   rw[aZ h,aV (by rw[a,Cg];omega),e,List.drop_length,pN,pN];have d:(ws++ [z]).take (ws.length+1)=ws++ [z]:=yR (by rw[a];omega);rw[d];simp
 simp only[Re,i,g,j,jY,f,m]
structure ESt (h hh:H)(va vt:V)(A Q:LN):Prop where
 ex: ∃wa wt,TdR hh va wa h.next/\TdR hh vt wt h.next/\PVs (λq=>BlkS va q∨BlkS vt q) hh wa A/\PVs (λq=>BlkS va q∨BlkS vt q) hh wt Q
 dis: ∀q,BlkS va q-> ¬BlkS vt q
 fr:Fr h hh
theorem kelemN_ok (mo n:Nat)(vl:V)(S:LN)(h:H)(n0:1<=n)(n5:n<=5)(hS: ∀g∈S,bT n g)(hl:S.length<=16)(g6: ∀A:LN,A.Nodup->(∀x∈A,fA n (· ∈S) x)->A.length<=mo)(hv:SP h vl S):
  Ev T 18 [aB n,vl,aB mo] h (λv h'=> ∃A,eQ (fA n (· ∈S)) A/\A.length<=120/\SP h' v A/\Fr h h'):=by
 refine bH c_kit_Elements rfl rfl ?_
 have lv:=hv.lens
 rw[iK] at lv
 obtain⟨id,off,ws,sh,e5,f,hc,c4⟩:=hv.open
 rw[iK] at sh e5 f hc
 simp(disch:=omega)only[go_sem,c_kit_Elements,aF]
 refine (kone_ok n h om).mono ?_
 rintro v1 h1 ⟨s1,f1,l1⟩
 obtain⟨B,hB⟩:=IP h1.next
 obtain⟨G,e2,n2,g2,o2,f2⟩:=dL hB [v1]
 simp(disch:=omega)only[go_sem,cJ _ (z:= .aD) (cell_one s1).1 (cell_one s1).2,hB,e2]
 refine (kone_ok n G om).mono ?_
 rintro v3 h3 ⟨s3,f3,l3⟩
 obtain⟨C,hC⟩:=IP h3.next
 obtain⟨h4,e4,n4,g4,o4,f4⟩:=dL hC [v3]
 have k1:=f1.next
 have k3:=f3.next
 have F4:=((f1.trans f2).trans f3).trans f4
 have j: ∀{v:V} {Y:H},SI Y v (zi (cG n))->Fr Y h4->(∀id off len f,v= .sl id off len f->id≠B/\id≠C)->PV (λq=>BlkS (.sl B 0 1 (.kn 1)) q∨BlkS (.sl C 0 1 (.kn 1)) q) h4 v (cG n):=λ{v Y} s f g8=>by
  refine⟨s.mono f,?_⟩
  cases v with
  |sl i o m c=>
   have:=g8 _ _ _ _ rfl;rintro (⟨_,_,_,e⟩|⟨_,_,_,e⟩)
   ·cases e;omega
   ·cases e;omega
  |_=>trivial
 have e7:ESt h h4 (.sl B 0 1 (.kn 1)) (.sl C 0 1 (.kn 1)) [cG n] [cG n]:=by
  refine⟨⟨[v1], [v3],⟨B,_, [],rfl,om,om,by rw[o4 B om,f3.get B om];exact g2,.inr ⟨rfl,rfl⟩⟩,⟨C,_, [],rfl,om,om,g4,.inr ⟨rfl,rfl⟩⟩,PVs.one (j s1 ((f2.trans f3).trans f4) λi o m c e=>?_),PVs.one (j s3 f4 λi o m c e=>?_)⟩,λq ⟨_,_,_,e⟩ ⟨_,_,_,e2⟩=>by cases e;cases e2;omega,F4⟩
  ·have:=SV.in s1 _ _ _ _ e;omega
  ·have:=SV.in s3 _ _ _ _ e;have:=l3 _ _ _ _ e;omega
 simp(disch:=omega)only[go_sem,cJ _ (z:= .aD) (cell_one s3).1 (cell_one s3).2,hC,e4]
 refine aH (λk' F Y=> ∃(A Q:LN) (d l:V),(∃g:Nat->V,F= [aB n,vl,aB mo,g 3,d,l,g 6,g 7,g 8,g 9,g 10,g 11,g 12,g 13,g 14])/\ElJ n S A Q/\ESt h Y d l A Q/\Q.length<=A.length/\k'=1000- 2*A.length+Q.length) _
  ⟨_,_,_,_,aA rfl,ElJ.start n S,e7,fH _,rfl⟩ ?_
 clear e7 j g2 g4 o2 o4 e2 e4 s1 s3 l1 l3 F4 f1 f2 f3 f4 k1 k3 n2 n4 hB hC
 rintro k' F h5 ⟨A,Q,d,l,⟨g,rfl⟩,J,st,f,rfl⟩
 have f: ∀x∈A,bT n x:=λx hx=>(J.gen x hx).isP hS
 have la:=perms_five n5 (lt_nodup J.asc (n:=n)) f
 obtain⟨⟨u,wt,ta,tt,pa,pt⟩,dis,fr⟩:=st
 have a4:=All2.length pa
 have b0:=All2.length pt
 have a6:cV l=some (aB (Q.length:Int)):=by unfold cV;rw[SV.len tt.sv (n:=Q.length) om om];rfl
 by_cases w:(0:Int)<(Q.length:Int)
 case neg=>
  have d1:=bM w;have e0:Q= []:=Yd om;simp(disch:=omega)only[go_sem,a6,d1];subst e0;exact⟨A,J.done,la,PVs.sp' ta.sv pa,fr⟩
 have d1:=bV w
 obtain⟨m,f⟩: ∃m,Q.length=m+1:=⟨Q.length- 1,om⟩
 have em:(Q.length:Int)- 1=(m:Int):=om
 obtain⟨_,f,f,b3,c3⟩:=PVs.open tt.sv pt
 obtain⟨_,cx,px⟩:=c3 m om
 obtain⟨x,hx⟩:=IP (Q.getD m [])
 rw[hx] at px
 generalize wt.getD m .undef=vx at cx px
 obtain⟨R,b6,b2,L⟩:=tt.pop (k:=m) om
 have hQ:Q=Q.take m++ [x]:=by
  rw[←hx,←take_getD [] om,yR om]
 have b1:PVs (λq=>BlkS d q∨BlkS R q) h5 (wt.take m) (Q.take m):=by
  have t: ∀(k:Nat) (u:List V) (A:LN),PVs (λq=>BlkS d q∨BlkS l q) h5 u A->PVs (λq=>BlkS d q∨BlkS l q) h5 (u.take k) (A.take k):=by
   intro k
   induction k with
   |zero=>intro u A p;exact trivial
   |succ k ih=>
    intro u A p
    cases u with
    |nil=>cases A with
     |nil=>exact trivial
     |cons=>exact p.elim
    |cons a u=>cases A with
     |nil=>exact p.elim
     |cons b A=>exact⟨p.1,ih u A p.2⟩
  exact PVs.weak (t m wt Q pt) λq _ f=>f.imp (λh=>h) (L q)
 have b4:ESt h h5 d R A (Q.take m):=⟨⟨u,wt.take m,ta,b2,PVs.weak pa λq _ f=>f.imp (λh=>h) (L q),b1⟩,λq h1 G=>dis q h1 (L q G),fr⟩
 have c2:PV (λq=>BlkS d q∨BlkS R q) h5 vx x:=PV.weak px λq _ f=>f.imp (λh=>h) (L q)
 have J':ElI n S x 0 A (Q.take m):=ElI.start (by rw[←hQ];exact J)
 have f:(Q.take m).length=m:=by rw[xV];omega
 simp(disch:=omega)only[go_sem,a6,d1,em,b3.ixa,cx,b6]
 refine loop_end (λvs Y=> ∃(r O:LN) (d l:V),(∃g:Nat->V,vs= [aB n,vl,aB mo,g 3,d,l,g 6,g 7,g 8,g 9,g 10,g 11,g 12,g 13,g 14])/\ElJ n S r O/\ESt h Y d l r O/\O.length<=r.length/\1000- 2*r.length+O.length<1000- 2*A.length+Q.length) ?_ ?_
 ·refine aH (λk' F Y=> ∃(i:Nat) (r O:LN) (d l:V),(∃g:Nat->V,F= [aB n,vl,aB mo,g 3,d,l,vx,aB i,g 8,g 9,g 10,g 11,g 12,g 13,g 14])/\i<=S.length/\ElI n S x i r O/\ESt h Y d l r O/\PV (λq=>BlkS d q∨BlkS l q) Y vx x/\O.length+A.length+1=r.length+Q.length/\A.length<=r.length/\k'=S.length-i) S.length
   ⟨0,A,Q.take m,d,R,aA rfl,eY _,J',b4,c2,om,fH _,rfl⟩ ?_
  clear b4 c2 J' b1 b2 L b6 dis fr pa pt ta tt a4 b0 a6 cx px c3 b3 R g
  rintro k' F h6 ⟨i,r,O,d,l,⟨g,rfl⟩,hi,J,st,px,d7,c0,rfl⟩
  have b9: ∀x∈r,bT n x:=λx hx=>(J.gen x hx).isP hS
  have f:=perms_five n5 (lt_nodup J.asc (n:=n)) b9
  by_cases d9:(i:Int)<(S.length:Int)
  case neg=>
   have d2:=bM d9;obtain rfl:i=S.length:=om
   simp(disch:=omega)only[go_sem,lv,d2];exact⟨r,O,d,l,aA rfl,J.done,st,om,om⟩
  have d2:=bV d9
  have a5:i<S.length:=om
  obtain⟨⟨u,wt,ta,tt,pa,pt⟩,dis,fr⟩:=st
  have a4:=All2.length pa
  have b0:=All2.length pt
  have cg:h6.cell id (off+i)=some (ws.getD i .undef):=by rw[fr.cell (e5 om),hc i a5]
  have sg:=(sp_at c4 a5).mono fr
  have Gp:bT n (S.getD i []):=hS _ (getD_mem a5)
  generalize ws.getD i .undef=f at cg sg
  have X:bT n x:=b9 x J.mem
  simp(disch:=omega)only[go_sem,lv,d2,sh.ixa,cg]
  refine (kmul_ok vx f x _ h6 (by rw[X.len];omega) px.si sg (λj f=>by rw[Gp.len];exact X.dZ (by rw[←X.len];exact f))).mono ?_
  rintro vy h7 ⟨sy,f7,j⟩
  obtain⟨y,hy⟩:=IP (bD x (S.getD i []))
  have Y:bT n y:=by rw[←hy];exact X.mul Gp
  rw[hy] at sy
  have b7:=ta.keep f7.next λq w=>f7.get q (ta.in w).2
  have d0:=tt.keep f7.next λq w=>f7.get q (tt.in w).2
  have e1:=PVs.fx pa (Fx.of f7:Fx (λq=>BlkS d q∨BlkS l q) h6 h7)
  have f0:=PVs.fx pt (Fx.of f7:Fx (λq=>BlkS d q∨BlkS l q) h6 h7)
  have f5:=PV.mono px f7
  have f: ∀q,(BlkS d q∨BlkS l q)->q<h6.next:=λq w=>w.elim (λh=>(ta.in h).2) (λh=>(tt.in h).2)
  have g1:PV (λq=>BlkS d q∨BlkS l q) h7 vy y:=PV.fresh sy j f
  simp(disch:=omega)only[go_sem]
  refine (place_ok d vy n r y h7 om om b9 Y J.asc (PVs.sp' b7.sv e1) sy).mono ?_
  rintro _ h8 ⟨k,rfl,pk,_,f⟩
  have Z:=b7.keep f.next λq w=>f.get q (b7.in w).2
  have U:=d0.keep f.next λq w=>f.get q (d0.in w).2
  have c8:=PVs.fx e1 (Fx.of f:Fx (λq=>BlkS d q∨BlkS l q) h7 h8)
  have e6:=PVs.fx f0 (Fx.of f:Fx (λq=>BlkS d q∨BlkS l q) h7 h8)
  have c5:=PV.mono f5 f
  have f6:=PV.mono g1 f
  have c1:=(fr.trans f7).trans f
  by_cases a1:y∈r
  ·have d3:=bV a1
   simp(disch:=omega)only[go_sem,d3]
   rw[dX i]
   exact⟨S.length-(i+1),om,i+1,r,O,d,l,aA rfl,om,J.skip (by rw[hy];exact a1),⟨⟨u,wt,Z,U,c8,e6⟩,dis,c1⟩,c5,d7,c0,rfl⟩
  have d3:=bM a1
  have J2:=J.step hS a5 (by rw[hy];exact a1) (by rw[hy];exact pk)
  rw[hy] at J2
  have f:=perms_five n5 (lt_nodup J2.asc (n:=n)) (λx hx=>(J2.gen x hx).isP hS)
  rw[insA_len] at f
  have g3:cV d=some (aB (r.length:Int)):=by unfold cV;rw[SV.len Z.sv (n:=r.length) om om];rfl
  have f:=g6 _ (lt_nodup J2.asc (n:=n)) J2.gen
  rw[insA_len] at f
  have d4:decide ((mo:Int)<=(r.length:Int))=false:=bM om
  have f:0<r.length:=Py J.one
  obtain⟨N,hN⟩:=IP h8.next
  obtain⟨f,e9,n9,p,o9,j⟩:=dL hN [.aD]
  have f:=(Z.own om).fr j
  obtain⟨P,c9,b8⟩:=f.push (bytes:=24) (SV.one om p (.kn 1)) (n:=r.length) (m:=1) om rfl om om om
  have f:=b8.next
  rw[n9] at c9
  have hk:=pk.le
  have g5:P.get (N+1)=bX (u++ [.aD]):=by rw[←n9];exact b8.get
  obtain⟨hb,i0,f,c7⟩: ∃hb:H,H.mk P.tr (P.next+8)=hb/\hb.next=P.next+8/\ ∀q,hb.get q=P.get q:=⟨_,rfl,rfl,λ_=>rfl⟩
  have cp:=cpy_ins (k:=k) om ((c7 (N+1)).trans g5)
  rw[a4] at cp
  obtain⟨j,f,p,i1,t⟩:=nP hb (N+1) ((u++ [V.aD]).take (k+1)++u.drop k)
  rw[f] at cp
  have d5:decide ((k:Int)<0)=false:=bM om
  have d6:decide (((r.length+1:Nat):Int)<=(k:Int))=false:=bM om
  have f:((u++ [V.aD]).take (k+1)++u.drop k).length=r.length+1:=by
   rw[jD,xV,jD,Cg];simp;omega
  have b5:=bE (vs:=(u++ [V.aD]).take (k+1)++u.drop k) (off:=k) om j (N+1) vy
  rw[ins_cells om] at b5
  obtain⟨f,s,p,g7,p⟩:=nP j (N+1) (u.take k++vy::u.drop k)
  rw[s] at b5
  have a0:=cell_one sy
  have fT: ∀q,q<N-> ¬BlkS d q->f.get q=h8.get q:=λq h1 G=>by
   rw[p q om,t q om,c7,b8.old q om (λi o m c e e2=>G ⟨o,m,c,e2▸e⟩),o9 q om]
  have j:f.next=N+10:=om
  have j:=U.keep (h':=f) om λq w=>fT q (by have:=(U.in w).2;omega) (λh=>dis q h w)
  obtain⟨P,hP⟩:=IP f.next
  obtain⟨f,e8,f,m,f,a2⟩:=dL hP [vy]
  have f:=j.keep a2.next λq w=>a2.get q (j.in w).2
  have j:=c1.next
  obtain⟨c6,a3,g0,e3,W,j,j,a9⟩:=f.push (S:=P) (c:= .kn 1) (SV.one om m (.kn 1)) om om
  simp(disch:=omega)only[go_sem,d3,g3,d4,cJ _ (z:= .aD) (v:= .aD) rfl rfl,hN,e9,c9,slc_lo1 hk,slc_lo hk,i0,cp,d5,d6,i1,fZ a0.1 a0.2,b5,cJ _ (z:= .aD) a0.1 a0.2,hP,e8,g0]
  rw[dX i]
  have d8: ∀q,BlkS l q->q<N:=λq w=>by have:=(U.in w).2;omega
  have K: ∀q,q<N-> ¬BlkS d q-> ¬BlkS l q->a3.get q=h8.get q:=λq h1 G h3=>by
   rw[W q om h3,a2.get q om];exact fT q h1 G
  have xx:Fx (λq=>BlkS d q∨BlkS l q) h8 a3:=⟨om,λq h1 G=>K q om (λh=>G (.inl h)) (λh=>G (.inr h))⟩
  have ww: ∀q,q<h8.next->(BlkS (.sl (N+1) 0 (r.length+1) (.un 1)) q∨BlkS c6 q)->BlkS d q∨BlkS l q:=λq h1 G=>by
   rcases G with ⟨_,_,_,e⟩|G
   ·cases e;omega
   ·rcases a9 q G with h3|h3
    ·exact .inr h3
    ·omega
  have h0:a3.get (N+1)=bX (u.take k++vy::u.drop k):=by
   rw[W (N+1) om (λh=>by have:=d8 _ h;omega),a2.get (N+1) om];exact g7
  have a7:PV (λq=>BlkS (.sl (N+1) 0 (r.length+1) (.un 1)) q∨BlkS c6 q) a3 vy y:=PV.go f6 xx ww
  have a8:=PVs.insA (PVs.go c8 xx ww) a7 (k:=k) om
  have i2:(u.take k++vy::u.drop k).length=r.length+1:=by rw[All2.length a8,insA_len]
  refine⟨S.length-(i+1),om,i+1,_,_,_,_,aA rfl,om,J2,⟨⟨_,_,⟨N+1,_, [],by rw[i2],om,om,by rw[pN];exact h0,.inl rfl⟩,e3,a8,(PVs.go e6 xx ww).append (PVs.one a7)⟩,λq ⟨_,_,_,e⟩ G=>?_,⟨om,λq w=>?_⟩⟩,PV.go c5 xx ww,by rw[insA_len,jD];simp;omega,by rw[insA_len];omega,rfl⟩
  ·cases e
   rcases a9 _ G with h3|h3
   ·have:=d8 _ h3;omega
   ·omega
  ·rw[K q om (λh=>by have:=(Z.in h).1;omega) (λh=>by have:=(U.in h).1;omega)]
   exact c1.get q w
 clear b4 c2 J' b1 b2 L b6 dis fr pa pt ta tt a4 b0 a6 cx px c3 b3 R g
 rintro F h6 ⟨r,O,d,l,⟨g,rfl⟩,J,st,c0,c⟩
 simp(disch:=omega)only[go_sem]
 exact⟨_,c,r,O,d,l,aA rfl,J,st,c0,rfl⟩
end
section
variable {n:Nat} {G:List Nat->Prop} {L:LN} {K:List Nat}
variable (hG:mD n G) (E:eQ G L) (k:IsK n G L K)
include hG E k
end
def cntB (s:Nat->Bool)(n:Nat):Nat:=((List.range n).filter s).length
theorem cntB_succ (s:Nat->Bool)(n:Nat):cntB s (n+1)=cntB s n+if s n=true then 1 else 0:=by
 unfold cntB;rw[List.range_succ,List.filter_append,jD];cases h:s n<;>simp [List.filter,h]
theorem cntB_le (s:Nat->Bool)(n:Nat):cntB s n<=n:=by
 unfold cntB;have:=List.length_filter_le s (List.range n);rwa [zE] at this
section
variable {n:Nat} {G:List Nat->Prop} {L:LN}
variable (hG:mD n G) (E:eQ G L)
include hG E
end
set_option maxRecDepth 100000
end Go.Proofs.YtapfcpkecmmagaaGreat
