/- Texts of the claim. -/
import Derived.Test.YtapfcpkecmmagaaGreatP5etoR1
import Derived.Test.YtapfcpkecmmagaaGreatDp2toP5d
import Derived.Test.YtapfcpkecmmagaaGreatP5a
set_option maxHeartbeats 32000000
namespace Go.Proofs.YtapfcpkecmmagaaGreat
open Go Go.Ay Go.Pm
set_option maxRecDepth 100000
section
variable {G:List Nat->Prop} {L:LN} {i j n:Nat} {Q:List Nat} {h:H} {v:V}
theorem of_bad (m:V)(d:Int)(O:List (List Int))(R:List (List (List Int)))(h:H)(c:ChI h m d O R)(r:d<=7∨64<d)(s:SmallO O)(sr:SmallR R)(o:chkE d O R≠0):
  Ev T 56 [m] h (λv h'=>v= .tup [.nilp,aB (chkE d O R)]/\Fr h h'):=by
 have g:=c
 obtain⟨k,f,e,y,z⟩:=c
 subst e
 refine bH c_classes_of rfl rfl ?_
 have a:k.one=true:=rL y
 have b:f.one=true:=qZ z
 obtain⟨B,p⟩:=JR h.next
 obtain⟨A,x,e,q,e,l⟩:=dN p [aB d,k,f]
 have t:=bD h (v:= aB d) (u:=k) (w:=f) rfl a b
 have a:=aS q
 simp(disch:=omega)only[go_sem,c_classes_of,aF,t,p,x,a]
 refine (list_bad _ d O R A (g.mono l) r s sr o).mono ?_
 rintro _ a ⟨rfl,a⟩
 simp(disch:=omega)only[go_sem]
 refine bB (λ_=>?_) (λc=>(c o).elim)
 simp(disch:=omega)only[go_sem]
 exact l.trans a
theorem bld_group {a:V}(b:a.cells= [a])(c:a.one=true)(M N m:Nat):kY [.aD,.nilm,.aD,.aD] [(0,1,a),(1,1,.mp M),(3,1,.sl N 0 m (.kn m))]=some (.agg [a,.mp M,.aD,.sl N 0 m (.kn m)]):=by
 simp [kY,gI,putAt,b,c,show (V.mp M).cells= [V.mp M] from rfl,show (V.sl N 0 m (.kn m)).cells= [V.sl N 0 m (.kn m)] from rfl,show (V.mp M).one=true from rfl,show (V.sl N 0 m (.kn m)).one=true from rfl]
theorem box_group {a:V}(b:a.one=true)(M N m:Nat)(h:H):Ck h (.agg [a,.mp M,.aD,.sl N 0 m (.kn m)])=some (.ptr h.next 0,h.new (.cells false [a,.mp M,.aD,.sl N 0 m (.kn m)])):=rO h _ (by simp [b,show (V.mp M).one=true from rfl,show (V.sl N 0 m (.kn m)).one=true from rfl,show V.aD.one=true from rfl])
open Classical in
noncomputable def snC (G:List Nat->Prop)(L:LN)(i:Nat)(Q:List Nat)(j:Nat):Bool:=decide ((∃i0,i0<i/\cR G L i0 j)∨j∈Q)
theorem snC_iff:snC G L i Q j=true↔(∃i0,i0<i/\cR G L i0 j)∨j∈Q:=by classical unfold snC;simp only[decide_eq_true_eq]
theorem snC_zero (G:List Nat->Prop)(L:LN)(j:Nat):snC G L 0 [] j=false:=by
 rw[←Bool.not_eq_true,snC_iff];rintro (⟨a,h,_⟩|h)
 ·omega
 ·cases h
theorem snC_push {k:Nat}:snC G L i (Q++ [k]) j=if j=k then true else snC G L i Q j:=by
 by_cases e:j=k
 ·rw[aV e,snC_iff];exact .inr (by simp [e])
 ·rw[aZ e,xJ,snC_iff,snC_iff]
  simp [e]
theorem loop_end {p:Nat->Option Ay.Fn}{rd:Option Nat}{a:C}{k:Nat}{b:List V}{Q:E->List V->H->Prop}(J:List V->H->Prop)(c:Wp p rd (.loop a) b h (λe v h'=>e= .exit k/\J v h'))(h2: ∀v h',J v h'->Q .norm v h'):Wp p rd (.loop a) b h (oZ k Q):=
 c.mono λe v h' x=>by
  obtain⟨rfl,x⟩:=x;rw[rJ];exact h2 v h' x
theorem Own.ge {sz id off b:Nat}{ws:List V}(o:Own h v sz ws b)(a:ws.length=n*sz)(f:0<sz)(s:Sl v sz n id off)(g:0<n):b<=id:=by
 have d:=s.ixa .i64 0 om om;rcases o.sv with ⟨_,rfl⟩|⟨c,c,len,c,c,c,e,k,_⟩
 ·have:=Nat.mul_pos g f
  simp at a;omega
 ·have c:=(o.in _ _ _ _ e).2.1
  subst e
  have c:0<len:=by
   have:=Nat.mul_pos g f;refine Nat.pos_of_ne_zero λl=>?_
   subst l;simp at k;rw[k] at a;simp at a;omega
  rw[sT om om] at d;simp only[Option.some.injEq,V.ptr.injEq] at d;omega
theorem snC_skip (g:mH n G)(E:eP G L)(hi:i<L.length)(o: ¬isR G L i)(j:Nat):snC G L i [] j=snC G L (i+1) [] j:=by
 obtain⟨f,l,c⟩: ∃j,j<i/\cR G L j i:=Am λk=>o λj m c=>k ⟨j,m,c⟩
 rw[xJ,snC_iff,snC_iff];constructor
 ·rintro (⟨a,d,b⟩|h)
  ·exact .inl ⟨a,om,b⟩
  ·cases h
 ·rintro (⟨a,d,b⟩|h)
  ·by_cases e:a=i
   ·subst e;exact .inl ⟨f,l,cR_trans g E om c b⟩
   ·exact .inl ⟨a,om,b⟩
  ·cases h
theorem snC_done {S:LN}(k:mH n G)(E:eP G L)(hi:i<L.length)(b:BQ G L S i Q Q.length)(l: ∀s∈S,G s)(a: ∀x,G x->fE n (λg=>g∈S) x)(m:j<L.length):snC G L i Q j=snC G L (i+1) [] j:=by
 rw[xJ,snC_iff,snC_iff];constructor
 ·rintro (⟨c,f,d⟩|h)
  ·exact .inl ⟨c,om,d⟩
  ·exact .inl ⟨i,om,(b.mem j h).2⟩
 ·rintro (⟨c,f,d⟩|h)
  ·by_cases e:c=i
   ·subst e;exact .inr ((b.done k E (eS _) hi l a j).2 ⟨m,d⟩)
   ·exact .inl ⟨c,om,d⟩
  ·cases h
theorem bld_three (a:v.cells= [v])(b:v.one=true)(x y:Int):kY [.aD,aB 0,aB 0] [(0,1,v),(1,1,aB x),(2,1,aB y)]=some (.agg [v,aB x,aB y]):=by
 simp [kY,gI,putAt,a,b,show ∀z,(aB z).cells= [aB z] from λ_=>rfl,show ∀z,(aB z).one=true from λ_=>rfl]
theorem bld_class {w:V}(c:v.one=true)(a:w.cells= [w])(b:w.one=true)(x y:Int):kY [.aD,aB 0,aB 0,.aD] [(0,3,.agg [v,aB x,aB y]),(3,1,w)]=some (.agg [v,aB x,aB y,w]):=by
 simp [kY,gI,putAt,a,c,b,show ∀l,(V.agg l).cells=l from λ_=>rfl,show ∀z,(aB z).one=true from λ_=>rfl]
theorem bls_class {w:V}(b:v.one=true)(a:w.one=true)(x y:Int)(h:H):pG h 4 [.aD,aB 0,aB 0,.aD] 1 [(0,4,.agg [v,aB x,aB y,w])]=some (.sl h.next 0 1 (.kn 1),h.new (.cells false [v,aB x,aB y,w])):=by
 have e:dO [V.aD,aB 0,aB 0,.aD] 4= [V.aD,aB 0,aB 0,.aD]:=rfl;simp [pG,gI,putAt,e,b,a,show ∀l,(V.agg l).cells=l from λ_=>rfl,show ∀z,(aB z).one=true from λ_=>rfl]
theorem repsC_len (k:Nat):(repsC G L k).length<=k:=by
 classical
 unfold repsC;exact jK (List.length_filter_le _ _) (by rw[zU];exact eS _)
theorem kflat_len (ks:List Cls.KE):(Cls.kflat ks).length=ks.length*4:=by
 induction ks with
 |nil=>rfl
 |cons a r ih=>
  show (a.enc++Cls.kflat r).length=_;rw[iZ,ih,List.length_cons];show 4+_=_;omega
theorem put_third {a b c d:V}(hh:H)(id:Nat)(y:V):dQ (some (.cells false [a,b,c,d])) hh id 2 [y]=some (hh.set id (some (.cells false [a,b,y,d]))):=by
 simp [dQ,putAt]
theorem off_lt {sz:Nat}{ws:List V}(s:SV h v sz ws):Kj (λq=>h.next<=q) v:=by
 cases v with
 |sl id off len cap=>exact λa=>by have:=s.in _ _ _ _ rfl;omega
 |_=>trivial
structure KO (n:Nat)(G:List Nat->Prop)(L:LN)(X:Nat)(W:Nat->Prop)(hh:H)(a:Cls.KE)(r:Nat):Prop where
 fst:a.fst=r
 ord:a.ord=iH (L.getD r []) n
 size:a.size=(orbC G L r).length
 rep:PV (λq=>X<=q) hh a.rep (L.getD r [])
 ranks:PV W hh a.ranks (orbC G L r)
theorem KO.go {X:Nat}{W b:Nat->Prop}{h':H}{a:Cls.KE}{r:Nat}(k:KO n G L X W h a r)(f:Fx W h h')(l:X<=h.next)(c: ∀q,W q->X<=q)(g: ∀q,q<h.next->b q->W q):KO n G L X b h' a r:=
 ⟨k.fst,k.ord,k.size,k.rep.fx ⟨f.next,λq d e=>f.get q d λd=>e (c q d)⟩,PV.go k.ranks f g⟩
structure OfJ (n:Nat)(G:List Nat->Prop)(L:LN)(X D:Nat)(vL:V)(h5:H)(i:Nat)(hh:H):Prop where
 ex: ∃vK ks W,hh.get (X+8)=some (.cells false [vL,.mp (X+3),vK,.sl (X+6) 0 L.length (.kn L.length)])/\Own hh vK 4 (Cls.kflat ks) (D+1)/\All2 (KO n G L X W hh) ks (repsC G L i)/\BlkIn W vK/\W D/\W (X+8)/\W (X+6)/\(∀q,W q->q<hh.next)/\(∀q,W q->X<=q)/\(ks= []∨ ∃id cap,vK= .sl id 0 ks.length cap/\hh.get id=some (.cells false (Cls.kflat ks)))
 gD:hh.get D=some (.cells false (rc L.length λj=> .bool (snC G L i [] j)))
 old:Fx (λq=>q=X+8∨D<=q) h5 hh
 nx:D<hh.next
def endsB (n:Nat):C->Bool
 | .block k _=>k==n
 | .seq _ b=>endsB n b
 |_=>false
def afterB (n:Nat):C->C
 | .seq a b=>if endsB n a then b else afterB n b
 |c=>c
structure OfE (n:Nat)(G:List Nat->Prop)(L:LN)(X D:Nat)(vL:V)(h h2 h5 h7:H):Prop where
 el:eP G L
 le:L.length<=5040
 f2:Fr h h2
 x2:h2.next=X
 sp:SP h2 vL L
 f25:Fr h2 h5
 xD:X+10<=D
 n5:h5.next=D
 gM:h5.get (X+3)=some (.wmap .str (wmp L L.length))
 gN:h5.get (X+6)=some (.cells false (rc L.length λ_=> aB 0))
 j:OfJ n G L X D vL h5 L.length h7
theorem of_walk {W0:Nat->Prop}(vc:V)(n:Nat)(O:LN)(R:jL)(G:List Nat->Prop)(h:H)(gc:GC W0 h vc n O R G)(P:V->H->Prop)
  (hk: ∀L X D vL h2 h5 h7 A (g:Nat->V),cF O R n 0 (cH n)=L->OfE n G L X D vL h h2 h5 h7->Wp T none (afterB 2 c_classes_of.body) ([g 0,.ptr A 0,.nilp,aB 0,vL,g 5,.ptr (X+8) 0,g 7,g 8,g 9,g 10,g 11,g 12,g 13,g 14,g 15,g 16,g 17,g 18,g 19,g 20,g 21,g 22,g 23,g 24,g 25,g 26,g 27,g 28,g 29,g 30,g 31,g 32,g 33,g 34,g 35,g 36,g 37,g 38,g 39,g 40,g 41,g 42,g 43,g 44,g 45]) h7 (Vs c_classes_of.results P)):
  Ev T 56 [vc] h P:=by
 obtain⟨vO,vR,e,sO,sR⟩:=gc.ch
 subst e
 refine bH c_classes_of rfl rfl ?_
 have g0:vO.one=true:=rL sO
 have h0:vR.one=true:=qZ sR
 obtain⟨A,hA⟩:=JR h.next
 obtain⟨d,e1,n1,g1,o1,f1⟩:=dN hA [aB n,vO,vR]
 have bx:=bD h (v:= aB n) (u:=vO) (w:=vR) rfl g0 h0
 have rB:=aS g1
 obtain⟨L,hL⟩:=JR (cF O R n 0 (cH n))
 obtain⟨E,ll⟩:=eE gc.grp gc.isc
 have g0:=szF_fact gc
 rw[hL] at E ll
 have hG:=gc.grp
 have n7:=gc.n7
 have n0:=gc.n0
 simp(disch:=omega)only[go_sem,c_classes_of,aF,bx,hA,e1,rB]
 refine (list_ok _ n O R G d (gc.mono f1)).mono ?_
 rw[hL]
 rintro _ h2 ⟨vL,rfl,nw⟩
 obtain⟨wL,W,b9,i2,g0,W1⟩:=nw.ex
 have g0:=All2.length i2
 obtain⟨m,hm⟩:=JR L.length
 rw[hm] at g0
 have d1:=Own.lens b9 g0
 have c7:=b9.sv.dG.2.1
 have f2:=nw.fr
 simp(disch:=omega)only[go_sem,d1]
 refine bB (λhc=>(hc rfl).elim) (λ_=>?_)
 obtain⟨X,hX⟩:=JR h2.next
 simp(disch:=omega)only[go_sem,d1,mks_zeros _ m om,hX,bld_group b9.sv.dG.1 c7,box_group c7]
 obtain⟨h3,a0⟩: ∃h3:H,h3=H.mk ((H.mk ((H.mk ((H.mk h2.tr (X+3)).new (Ob.wmap qC.str [])).tr (X+6)).new (Ob.cells false (rc m λ_=>aB 0))).tr (X+8)).new (Ob.cells false [vL,.mp (X+3),.aD,.sl (X+6) 0 m (.kn m)])).tr (X+10):=⟨_,rfl⟩
 rw[←a0]
 have n3:h3.next=X+10:=by rw[a0]
 have gB:h3.get (X+8)=some (.cells false [vL,.mp (X+3),.aD,.sl (X+6) 0 m (.kn m)]):=by rw[a0];exact H.aN (H.mk _ (X+8)) _
 have gN:h3.get (X+6)=some (.cells false (rc m λ_=>aB 0)):=by
  rw[a0];exact (H.bL (H.mk _ (X+8)) (show X+6≠X+8 by omega) _).trans (H.aN (H.mk _ (X+6)) _)
 have gM:h3.get (X+3)=some (.wmap .str (wmp L 0)):=by
  rw[a0];exact (H.bL (H.mk _ (X+8)) (show X+3≠X+8 by omega) _).trans ((H.bL (H.mk _ (X+6)) (show X+3≠X+6 by omega) _).trans (H.aN (H.mk _ (X+3)) _))
 have f3:Fr h2 h3:=⟨om,λq U=>by
  rw[a0]
  exact (H.bL (H.mk _ (X+8)) (show q≠X+8 by omega) _).trans ((H.bL (H.mk _ (X+6)) (show q≠X+6 by omega) _).trans (H.bL (H.mk _ (X+3)) (show q≠X+3 by omega) _))⟩
 clear a0
 have N: ∀i,i<m->(L.getD i []).length<=1000/\ ∀x∈L.getD i [],x<256:=λi hi=>by
  have P:=el_isP hG E (show i<L.length by omega);exact⟨by rw[P.len];omega,λx hx=>by have:=P.lt x hx;omega⟩
 obtain⟨g0,c7,b8,a0,g4⟩:=SV.shape b9.sv m om om
 have d3: ∀i,i<m-> ∃vx,(∀h',Fr h2 h'->h'.cell g0 (c7+i)=some vx)/\SI h2 vx (zi (L.getD i [])):=λi hi=>by
  obtain⟨v,d,a4⟩:=PVs.at i2 (i:=i) om;exact⟨v,λh' f=>by rw[f.cell (a0 om),g4 i om,d],a4.si⟩
 have hK: ∀i,i<m->isKey .str (.str (L.getD i []))=true:=λi hi=>isKey_word (N i hi).1 (N i hi).2
 refine bX (λvs o=>(∃g:Nat->V,vs= [g 0,.ptr A 0,.nilp,aB 0,vL,g 5,.ptr (X+8) 0,g 7,g 8,g 9,g 10,g 11,g 12,g 13,g 14,g 15,g 16,g 17,g 18,g 19,g 20,g 21,g 22,g 23,g 24,g 25,g 26,g 27,g 28,g 29,g 30,g 31,g 32,g 33,g 34,g 35,g 36,g 37,g 38,g 39,g 40,g 41,g 42,g 43,g 44,g 45])/\o.get (X+3)=some (.wmap .str (wmp L m))/\Fx (· =X+3) h3 o) ?_ ?_
 ·refine aH (λk' vs o=> ∃(i:Nat),(∃g:Nat->V,vs= [g 0,.ptr A 0,.nilp,aB 0,vL,g 5,.ptr (X+8) 0,g 7,g 8,g 9,g 10,g 11,g 12,g 13,g 14,g 15,g 16,g 17,g 18,g 19,g 20,g 21,g 22,vL,aB m,aB i,g 26,g 27,g 28,g 29,g 30,g 31,g 32,g 33,g 34,g 35,g 36,g 37,g 38,g 39,g 40,g 41,g 42,g 43,g 44,g 45])/\i<=m/\o.get (X+3)=some (.wmap .str (wmp L i))/\Fx (· =X+3) h3 o/\k'=m-i) m
   ⟨0,aA rfl,fF _,gM,Fx.refl _ h3,rfl⟩ ?_
  rintro k' B h4 ⟨i,⟨g,rfl⟩,hi,b1,F4,rfl⟩
  by_cases a6:(i:Int)<(m:Int)
  case neg=>
   have d4:=bJ a6;obtain rfl:i=m:=om
   simp(disch:=omega)only[go_sem,d4];exact⟨aA rfl,b1,F4⟩
  have d4:=bM a6
  have a2:i<m:=om
  have a9:Fr h2 h4:=⟨by have:=F4.next;omega,λq U=>by rw[F4.get q om om];exact f3.get q U⟩
  have c4:h4.get (X+8)=some (.cells false [vL,.mp (X+3),.aD,.sl (X+6) 0 m (.kn m)]):=by rw[F4.get _ om om];exact gB
  obtain⟨vx,cx,sx⟩:=d3 i a2
  have c2:h4.cell (X+8) 1=some (.mp (X+3)):=by rw[H.aG c4];rfl
  simp(disch:=omega)only[go_sem,d4,b8.ixa,cx h4 a9,c2]
  refine (word_ok vx (L.getD i []) _ (N i a2).1 (N i a2).2 (sx.mono (a9.trans ((Fr.refl h4).bN om)))).mono ?_
  rintro _ h5 ⟨rfl,f5⟩
  have c1:Fr h4 h5:=((Fr.refl h4).bN om).trans f5
  have n4:=F4.next
  have b9:h5.get (X+3)=some (.wmap .str (wmp L i)):=by rw[c1.get _ om];exact b1
  have a0:h5.cell (X+8) 1=some (.mp (X+3)):=by rw[c1.cell om];exact c2
  have pt:=λo=>mswO_new E.nodup (show i<L.length by omega) (hK i a2) o (X+3)
  simp(disch:=omega)only[go_sem,a0,b9,pt]
  rw[dY i]
  refine⟨by simp [dJ],m-(i+1),om,i+1,aA rfl,om,rfl,⟨by have:=c1.next;show h3.next<=h5.next;omega,λq d h2=>by rw[H.aI _ (λe=>h2 e),c1.get q om];exact F4.get q d h2⟩,rfl⟩
 rintro B h4 ⟨⟨g,rfl⟩,b1,F4⟩
 have n4:=F4.next
 have a9:Fr h2 h4:=⟨om,λq U=>by rw[F4.get q om om];exact f3.get q U⟩
 have c4:h4.get (X+8)=some (.cells false [vL,.mp (X+3),.aD,.sl (X+6) 0 m (.kn m)]):=by rw[F4.get _ om om];exact gB
 have f8:h4.get (X+6)=some (.cells false (rc m λ_=>aB 0)):=by rw[F4.get _ om om];exact gN
 have a0:=f2.trans a9
 have rA:=aS (h:=h4) (id:=A) (ro:=false) (by rw[a0.get _ om];exact g1)
 simp(disch:=omega)only[go_sem,rA]
 refine (strong_ok _ n O R G h4 (gc.mono (f1.trans a0))).mono ?_
 rintro _ h5 ⟨vS,rfl,nS⟩
 have f5:=nS.fr
 obtain⟨D,hD⟩:=JR h5.next
 obtain⟨h6,e6,n6,g6,o6,f6⟩:=dN hD (rc m λ_=>V.bool false)
 simp(disch:=omega)only[go_sem,d1,mks_bools,hD,e6]
 have d9:=a9.trans f5
 have a0:=d9.next
 have n5:=f5.next
 obtain⟨wS,WS,a9,b9,a0,d1⟩:=nS.ex
 obtain⟨S,hS⟩:=JR (strongL R)
 rw[hS] at b9
 have c1:=All2.length b9
 have a3: ∀s∈S,G s:=λs hs=>strong_mem gc.isc (by rw[hS];exact hs)
 have b6: ∀x,G x->fE n (λg=>g∈S) x:=λx hx=>by rw[←hS];exact strong_gen hG gc.isc hx
 obtain⟨sl,d7⟩:=JR S.length
 have a0:sl<=49:=by
  have d: ∀j,j<R.length->(R.getD j []).length<=n:=λj F=>by
   have a0:j<n:=by rw[←gc.isc.lr];exact F
   rw[gc.isc.rl j a0];have:=orb_len (λx hx=>hG.isP hx) a0 (gc.isc.asc j a0) (gc.isc.mem j a0);omega
  have h2:=strong_len (n:=n) (R:=R) (eS _) d;rw[List.take_length,hS,d7,gc.isc.lr] at h2;have:n*n<=7*7:=Nat.mul_le_mul n7 n7;omega
 have i9:=Own.lens a9 (c1.trans d7)
 obtain⟨a0,c7,i3,c1,g0⟩:=SV.shape a9.sv sl om om
 have h0:=Own.ge a9 (n:=sl) om om i3
 have i8: ∀t,t<sl-> ∃vy,(∀o,Fx (λq=>q=X+8∨D<=q) h5 o->o.cell a0 (c7+t)=some vy)/\PV (λq=>q=X+8∨D<=q) h5 vy (S.getD t []):=λt ht=>by
  obtain⟨v,d,a4⟩:=PVs.at b9 (i:=t) om;have hi:=c1 om;have a9:h4.next<=a0:=h0 om;refine⟨v,λo f=>?_,a4.weak λid a9 hw=>d1 id ?_⟩
  ·have e:o.get a0=h5.get a0:=f.get a0 hi om
   unfold H.cell;rw[e];have:=g0 t om;rw[d] at this;exact this
  ·rcases hw with e|e
   ·omega
   ·omega
 have J0:OfJ n G L X D vL h5 0 h6:=
  ⟨⟨.aD, [],λq=>q=D∨q=X+8∨q=X+6,by rw[f6.get _ om,f5.get _ om,hm];exact c4,Own.aD _ _ _,trivial,λ_ _ _ _ e=>(by cases e),.inl rfl,.inr (.inl rfl),.inr (.inr rfl),λq h=>by rcases h with h|h|h<;>omega,λq h=>by rcases h with h|h|h<;>omega,.inl rfl⟩,
   by rw[g6,hm,show (λj=>V.bool (snC G L 0 [] j))=λ_=>V.bool false from funext λj=>by rw[snC_zero]],Fx.of f6,om⟩
 refine bX (λvs o=>(∃g:Nat->V,vs= [g 0,.ptr A 0,.nilp,aB 0,vL,g 5,.ptr (X+8) 0,g 7,g 8,g 9,g 10,g 11,g 12,g 13,g 14,g 15,g 16,g 17,g 18,g 19,g 20,g 21,g 22,g 23,g 24,g 25,g 26,g 27,g 28,g 29,g 30,g 31,g 32,g 33,g 34,g 35,g 36,g 37,g 38,g 39,g 40,g 41,g 42,g 43,g 44,g 45])/\OfJ n G L X D vL h5 m o) ?_ ?_
 ·refine aH (λk' vs o=> ∃(i:Nat),(∃g:Nat->V,vs= [g 0,.ptr A 0,.nilp,aB 0,vL,g 5,.ptr (X+8) 0,g 7,g 8,vS,.sl D 0 m (.kn m),g 11,g 12,g 13,g 14,g 15,g 16,g 17,g 18,g 19,g 20,g 21,g 22,g 23,g 24,g 25,g 26,vL,aB m,aB i,g 30,g 31,g 32,g 33,g 34,g 35,g 36,g 37,g 38,g 39,g 40,g 41,g 42,g 43,g 44,g 45])/\i<=m/\OfJ n G L X D vL h5 i o/\k'=m-i) m
   ⟨0,aA rfl,fF _,J0,rfl⟩ ?_
  clear J0
  rintro k' B h7 ⟨i,⟨g,rfl⟩,hi,J,rfl⟩
  by_cases a6:(i:Int)<(m:Int)
  case neg=>
   have d4:=bJ a6;obtain rfl:i=m:=om
   simp(disch:=omega)only[go_sem,d4];exact⟨aA rfl,J⟩
  have d4:=bM a6
  have a2:i<m:=om
  have f:=J.nx
  have a5:Fr h2 h7:=⟨om,λq U=>by rw[J.old.get q om om];exact d9.get q U⟩
  obtain⟨vx,cx,sx⟩:=d3 i a2
  have cD:=gU J.gD (i:=i) om
  by_cases hr:isR G L i
  case neg=>
   have c8:snC G L i [] i=true:=by
    rw[snC_iff];exact .inl (Am λf=>hr λj F hc=>f ⟨j,F,hc⟩)
   rw[c8] at cD;simp(disch:=omega)only[go_sem,d4,b8.ixa,cx h7 a5,cD];rw[dY i];refine⟨m-(i+1),om,i+1,aA rfl,om,?_,rfl⟩;refine⟨?_,?_,J.old,J.nx⟩
   ·rw[(repsC_succ i).2 hr];exact J.ex
   ·rw[J.gD,aY λj _=>by rw[snC_skip hG E (show i<L.length by omega) hr j]]
  have c8:snC G L i [] i=false:=by
   rw[←Bool.not_eq_true,snC_iff];rintro (⟨j,F,hc⟩|h)
   ·exact hr j F hc
   ·cases h
  rw[c8] at cD
  obtain⟨f,e8,n8,g8,o8⟩:=mS h7 D ((rc L.length λj=> .bool (snC G L i [] j)).set i (.bool true))
  obtain⟨Z,hZ⟩:=JR f.next
  obtain⟨h9,e9,n9,g9,o9,f9⟩:=dN hZ [aB i]
  have pt:=bF (vs:=rc L.length λj=> .bool (snC G L i [] j)) (off:=i) (by rw[cK];omega)
  clear bx gc sO sR rB rA g4 f8 c4 g1 o1 f1 f3 gB gN gM
  simp(disch:=omega)only[go_sem,d4,b8.ixa,cx h7 a5,cD,J.gD,pt,e8,cJ f (z:= aB 0) (v:= aB i) rfl rfl,hZ,e9]
  have f:h7.next=Z:=om
  have b5:(rc L.length λj=>V.bool (snC G L i [] j)).set i (.bool true)=rc L.length λj=> .bool (snC G L i [i] j):=by
   rw[eJ]
   exact aY λj _=>by
    rw[show [i]= []++ [i] from rfl,snC_push]
    by_cases e:j=i
    ·rw[aV e,aV e]
    ·rw[aZ e,aZ e]
  have d2:Fx (· =D) h7 h9:=⟨om,λq d h2=>by rw[o9 q om,o8 q h2]⟩
  have B0:BQ G L S i [i] 0:=⟨by simp,by simp,rfl,λj F=>by
   obtain rfl:j=i:=by simpa using F
   exact⟨om,cR_refl hG E om⟩,λk hk=>om⟩
  refine bX (λvs o=> ∃(Q:List Nat) (q:Nat) (l:mF),(∃g:Nat->V,vs= [g 0,.ptr A 0,.nilp,aB 0,vL,g 5,.ptr (X+8) 0,g 7,g 8,vS,.sl D 0 m (.kn m),aB i,vx,.sl q 0 Q.length l,g 14,g 15,g 16,g 17,g 18,g 19,g 20,g 21,g 22,g 23,g 24,g 25,g 26,vL,aB m,aB i,g 30,g 31,g 32,g 33,g 34,g 35,g 36,g 37,g 38,g 39,g 40,g 41,g 42,g 43,g 44,g 45])/\
    BQ G L S i Q Q.length/\(l= .un 1∨l= .kn Q.length)/\o.get q=some (.cells false (ints (zi Q)))/\Z<=q/\q<o.next/\o.get D=some (.cells false (rc L.length λj=> .bool (snC G L i Q j)))/\Fx (· =D) h7 o) ?_ ?_
  ·refine aH (λk' vs o=> ∃(Q:List Nat) (q:Nat) (l:mF) (p:Nat),(∃g:Nat->V,vs= [g 0,.ptr A 0,.nilp,aB 0,vL,g 5,.ptr (X+8) 0,g 7,g 8,vS,.sl D 0 m (.kn m),aB i,vx,.sl q 0 Q.length l,aB p,g 15,g 16,g 17,g 18,g 19,g 20,g 21,g 22,g 23,g 24,g 25,g 26,vL,aB m,aB i,g 30,g 31,g 32,g 33,g 34,g 35,g 36,g 37,g 38,g 39,g 40,g 41,g 42,g 43,g 44,g 45])/\
    p<=Q.length/\BQ G L S i Q p/\(l= .un 1∨l= .kn Q.length)/\o.get q=some (.cells false (ints (zi Q)))/\Z<=q/\q<o.next/\o.get D=some (.cells false (rc L.length λj=> .bool (snC G L i Q j)))/\Fx (· =D) h7 o/\k'=m-p) m
    ⟨[i],Z,_,0,aA rfl,fF _,B0,.inr rfl,g9,eS _,om,by rw[o9 _ om,g8,b5],d2,rfl⟩ ?_
   clear d2 B0 e8 n8 g8 o8 hZ e9 n9 g9 o9 f9 pt b5
   rintro k' B f ⟨Q,q,l,p,⟨f,rfl⟩,hp,a,r,gq,U,nq,gD,Fa,rfl⟩
   have b2:=a.len
   by_cases c5:(p:Int)<(Q.length:Int)
   case neg=>
    have d5:=bJ c5;obtain rfl:p=Q.length:=om
    simp(disch:=omega)only[go_sem,d5];exact⟨Q,q,l,aA rfl,a,r,gq,U,nq,gD,Fa⟩
   have d5:=bM c5
   have K:p<Q.length:=om
   simp(disch:=omega)only[go_sem,d5,i9]
   obtain⟨c,hc⟩:=JR (Q.getD p 0)
   obtain⟨f0,j4⟩:=a.mem c (by rw[←hc];exact getD_mem K)
   have Cp:=el_isP hG E f0
   refine loop_end (λvs o=> ∃(Q:List Nat) (q:Nat) (l:mF),(∃g:Nat->V,vs= [g 0,.ptr A 0,.nilp,aB 0,vL,g 5,.ptr (X+8) 0,g 7,g 8,vS,.sl D 0 m (.kn m),aB i,vx,.sl q 0 Q.length l,aB p,g 15,g 16,g 17,g 18,g 19,g 20,g 21,g 22,g 23,g 24,g 25,g 26,vL,aB m,aB i,g 30,g 31,g 32,g 33,g 34,g 35,g 36,g 37,g 38,g 39,g 40,g 41,g 42,g 43,g 44,g 45])/\
     p<Q.length/\BQ G L S i Q (p+1)/\(l= .un 1∨l= .kn Q.length)/\o.get q=some (.cells false (ints (zi Q)))/\Z<=q/\q<o.next/\o.get D=some (.cells false (rc L.length λj=> .bool (snC G L i Q j)))/\Fx (· =D) h7 o) ?_ ?_
   ·refine aH (λk' vs o=> ∃(Q:List Nat) (q:Nat) (l:mF) (t:Nat),(∃g:Nat->V,vs= [g 0,.ptr A 0,.nilp,aB 0,vL,g 5,.ptr (X+8) 0,g 7,g 8,vS,.sl D 0 m (.kn m),aB i,vx,.sl q 0 Q.length l,aB p,g 15,g 16,g 17,g 18,g 19,g 20,g 21,g 22,g 23,g 24,g 25,g 26,vL,aB m,aB i,g 30,g 31,g 32,vS,aB sl,aB t,g 36,g 37,g 38,g 39,g 40,g 41,g 42,g 43,g 44,g 45])/\
     p<Q.length/\t<=sl/\BQ G L S i Q p/\Q.getD p 0=c/\(∀s∈S.take t,∃j∈Q,L.getD j []=conjP (L.getD c []) s)/\(l= .un 1∨l= .kn Q.length)/\o.get q=some (.cells false (ints (zi Q)))/\Z<=q/\q<o.next/\o.get D=some (.cells false (rc L.length λj=> .bool (snC G L i Q j)))/\Fx (· =D) h7 o/\k'=sl-t) sl
     ⟨Q,q,l,0,aA rfl,K,fF _,a,hc,λs hs=>(by simp at hs),r,gq,U,nq,gD,Fa,rfl⟩ ?_
    clear a r gq U nq gD Fa hc K b2 c5 d5 hp
    clear Q q l
    rintro k' B hb ⟨Q,q,l,t,⟨g3,rfl⟩,K,ht,a,hc,d0,r,gq,U,nq,gD,Fb,rfl⟩
    by_cases g7:(t:Int)<(sl:Int)
    case neg=>
     have d5:=bJ g7;obtain rfl:t=sl:=om
     simp(disch:=omega)only[go_sem,d5];refine⟨Q,q,l,aA rfl,K,⟨a.nd,a.ne,a.hd,a.mem,λk hk s hs=>?_⟩,r,gq,U,nq,gD,Fb⟩
     by_cases e:k=p
     ·subst e
      rw[hc];exact d0 s (by rw[←d7,List.take_length];exact hs)
     ·exact a.cl k om s hs
    have d5:=bM g7
    have f:t<sl:=om
    have b2:=a.len
    have nb:=Fb.next
    have e0:Fx (λq=>q=X+8∨D<=q) h5 hb:=⟨by have:=J.old.next;omega,λq d h2=>by rw[Fb.get q om (λe=>h2 (.inr (by have:q=D:=e;omega)))];exact J.old.get q d h2⟩
    have c0:Fr h2 hb:=⟨om,λq U=>by rw[Fb.get q om (λe=>by have:q=D:=e;omega)];exact a5.get q U⟩
    obtain⟨vy,o,py⟩:=i8 t f
    obtain⟨vz,cz,sz⟩:=d3 c om
    obtain⟨s,hs⟩:=JR (S.getD t [])
    rw[hs] at py
    have c3:s∈S:=by rw[←hs];exact getD_mem om
    have Sp:=hG.isP (a3 s c3)
    have cq:hb.cell q p=some (aB c):=by rw[H.aG gq,tT K,hc]
    simp(disch:=omega)only[go_sem,d5,i3.ixa,o hb e0,cq,b8.ixa,cz hb c0]
    refine (inv_gen (rfl:T 85=some c_classes_element_inverse) vy n s _ om Sp ((py.fx e0).si.mono ((Fr.refl hb).bN om))).mono ?_
    rintro a2 o f
    have K1:Fr hb o:=((Fr.refl hb).bN om).trans f.fr
    have a0:o.cell q p=some (aB c):=by rw[K1.cell nq];exact cq
    have ez:=sz.dJ
    simp(disch:=omega)only[go_sem,a0,cz o (c0.trans K1),ez]
    refine (times_ok a2 vz (dM s) (L.getD c []) o (by rw[gG,Sp.len];omega) (f.pv (W:=λ_=>False) id).si (sz.mono (c0.trans K1)) (λj F=>by rw[Cp.len];exact Sp.inv.dZ (by rw[←Sp.inv.len];exact F))).mono ?_
    rintro a0 k2 f
    have K2:=K1.trans f.fr
    have o:=Sp.inv.mul Cp
    simp(disch:=omega)only[go_sem]
    refine (times_ok a0 vy _ s k2 (by rw[o.len];omega) (f.pv (W:=λ_=>False) id).si ((py.fx e0).si.mono K2) (λj F=>by rw[Sp.len];exact o.dZ (by rw[←o.len];exact F))).mono ?_
    rintro j3 k3 f
    have K3:=K2.trans f.fr
    have P3:=o.mul Sp
    have j6:k3.cell q p=some (aB c):=by rw[K3.cell nq];exact cq
    have d6:=(f.pv (W:=λ_=>False) id).si
    have f:=d6.dG.2.1
    have f: ∃vK,k3.get (X+8)=some (.cells false [vL,.mp (X+3),vK,.sl (X+6) 0 L.length (.kn L.length)]):=by
     obtain⟨vK,_,_,gB,_⟩:=J.ex;exact⟨vK,by rw[K3.get _ om,Fb.get _ om (λe=>by have:X+8=D:=e;omega)];exact gB⟩
    obtain⟨vK,f⟩:=f
    have f7:k3.cell (X+8) 1=some (.mp (X+3)):=by rw[H.aG f];rfl
    obtain⟨j,F,ej⟩: ∃j,j<L.length/\L.getD j []=conjP (L.getD c []) s:=by
     have f:conjP (L.getD c []) s∈L:=(E.mem _).2 (hG.mul (hG.mul (hG.inv (a3 s c3)) (el_mem E f0)) (a3 s c3));obtain⟨j,F,ej⟩:=uK.1 f;exact⟨j,F,by rw[List.getD,eV F,←ej];rfl⟩
    have f:bE (bE (dM s) (L.getD c [])) s=L.getD j []:=ej.symm
    rw[f] at d6
    simp(disch:=omega)only[go_sem,j6,cz k3 (c0.trans K3),f7,ez]
    refine (word_ok j3 (L.getD j []) _ (N j om).1 (N j om).2 (d6.mono ((Fr.refl k3).bN om))).mono ?_
    rintro _ k4 ⟨rfl,o⟩
    have f:Fr k3 k4:=((Fr.refl k3).bN om).trans o
    have K4:=K3.trans f
    have o:=K3.next
    have c6:k4.get (X+3)=some (.wmap .str (wmp L L.length)):=by
     rw[K4.get _ om,Fb.get _ om (λe=>by have:X+3=D:=e;omega),J.old.get _ om om,f5.get _ om,hm];exact b1
    have i5:k4.cell (X+8) 1=some (.mp (X+3)):=by rw[f.cell om];exact f7
    have lk:=λz=>lkwO_hit E.nodup F (hK j om) z
    have b7:k4.cell D j=some (.bool (snC G L i Q j)):=by rw[K4.cell om];exact gU gD F
    have f4:cR G L i j:=cR_trans hG E om j4 ⟨s,a3 s c3,ej.symm⟩
    have e7:S.take (t+1)=S.take t++ [s]:=by rw[take_getD [] om,hs]
    have e4:k4.get q=some (.cells false (ints (zi Q))):=by rw[K4.get _ nq];exact gq
    have i4:k4.get D=some (.cells false (rc L.length λj=> .bool (snC G L i Q j))):=by rw[K4.get _ om];exact gD
    have i6:Fx (· =D) h7 k4:=⟨by have:=K4.next;omega,λq d h2=>by rw[K4.get q om];exact Fb.get q d h2⟩
    cases hsn2:snC G L i Q j with
    |true=>
     rw[hsn2] at b7
     have d8:j∈Q:=by
      rcases snC_iff.1 hsn2 with ⟨f,d,a4⟩|d
      ·exact absurd (cR_trans hG E om a4 (cR_symm hG E om f4)) (hr f d)
      ·exact d
     simp(disch:=omega)only[go_sem,i5,c6,lk,b7];rw[dY t];refine⟨by simp [dJ],sl-(t+1),om,Q,q,l,t+1,aA rfl,K,om,a,hc,?_,r,e4,U,by have:=K4.next;omega,i4,i6,rfl⟩;rw[e7];intro s' a8;rcases sZ.1 a8 with d|d
     ·exact d0 s' d
     ·obtain rfl:s'=s:=by simpa using d
      exact⟨j,d8,ej⟩
    |false=>
     rw[hsn2] at b7;have d8:j∉Q:=λd=>by rw[snC_iff.2 (.inr d)] at hsn2;cases hsn2
     obtain⟨k5,e5,f,g5,o5⟩:=mS k4 D ((rc L.length λj=> .bool (snC G L i Q j)).set j (.bool true));obtain⟨Y,hY⟩:=JR k5.next;obtain⟨k6,j8,f,j2,c9,f⟩:=dN hY [aB j];have pt:=bF (vs:=rc L.length λj=> .bool (snC G L i Q j)) (off:=j) (by rw[cK];exact F);have f:=K4.next;have j9:k6.get q=some (.cells false (ints (zi Q))):=by rw[c9 _ om,o5 _ om];exact e4
     have j1:Own k6 (.sl q 0 Q.length l) 1 (ints (zi Q)) 0:= .inr ⟨q,Q.length,l, [],rfl,by rw[aL,aQ];simp,by rcases r with d|d;exact .inl d;exact .inr ⟨d,rfl⟩,fF _,om,by rw[qA];exact j9⟩;obtain⟨f,a7,p7⟩:=j1.push (bytes:=8) (SV.one (v:= aB j) (id:=Y) om j2 (.kn 1)) (n:=Q.length) (m:=1) (by rw[aL,aQ];simp) rfl om om om;simp(disch:=omega)only[go_sem,i5,c6,lk,b7,i4,pt,e5,cJ k5 (z:= aB 0) (v:= aB j) rfl rfl,hY,j8,a7];rw[dY t];have el:ints (zi (Q++ [j]))=ints (zi Q)++ [aB j]:=by simp [zi,ints]
     have f:=p7.next;have j5:dH (.sl q 0 Q.length l) D:=λid off n c e e2=>by cases e;omega
     have b5:(rc L.length λf=>V.bool (snC G L i Q f)).set j (.bool true)=rc L.length λf=> .bool (snC G L i (Q++ [j]) f):=by
      rw[eJ]
      exact aY λf _=>by
       rw[snC_push]
       by_cases e:f=j
       ·rw[aV e,aV e]
       ·rw[aZ e,aZ e]
     refine⟨by simp [dJ],sl-(t+1),om,Q++ [j],k6.next,.un 1,t+1,by rw[iZ];exact aA rfl,by rw[iZ];omega,om,⟨?_,by rw[iZ];simp,?_,?_,?_⟩,?_,?_,.inl rfl,by rw[el];exact p7.get,om,om,?_,?_,rfl⟩
     ·rw[List.nodup_append]
      exact⟨a.nd,by simp,λx hx y hy e=>by
       obtain rfl:y=j:=by simpa using hy
       exact d8 (e▸hx)⟩
     ·rw[List.getD,wE a.ne];exact a.hd
     ·intro x hx
      rcases sZ.1 hx with d|d
      ·exact a.mem x d
      ·obtain rfl:x=j:=by simpa using d
       exact⟨F,f4⟩
     ·intro k hk s' a8
      obtain⟨y,hy,f⟩:=a.cl k hk s' a8;refine⟨y,sZ.2 (.inl hy),?_⟩;rw[f,List.getD,List.getD,List.getD,List.getD,wE om]
     ·rw[List.getD,wE K];exact hc
     ·rw[e7]
      intro s' a8;rcases sZ.1 a8 with d|d
      ·obtain⟨y,hy,f⟩:=d0 s' d
       exact⟨y,sZ.2 (.inl hy),f⟩
      ·obtain rfl:s'=s:=by simpa using d
       exact⟨j,sZ.2 (.inr (by simp)),ej⟩
     ·rw[p7.old D om j5,c9 D om,g5,b5]
     ·refine⟨om,λx d h2=>?_⟩
      rw[p7.old x om (λid off n c e e2=>by cases e;omega),c9 x om,o5 x h2];exact i6.get x d h2
   clear a r gq U nq gD Fa hc c5 d5 hp K b2
   clear Q q l
   rintro B hb ⟨Q,q,l,⟨g3,rfl⟩,K,a1,r,gq,U,nq,gD,Fb⟩
   have b2:=a1.len
   simp(disch:=omega)only[go_sem]
   rw[dY p]
   exact⟨m-(p+1),om,Q,q,l,p+1,aA rfl,om,a1,r,gq,U,nq,gD,Fb,rfl⟩
  clear d2 B0 e8 n8 g8 o8 hZ e9 n9 g9 o9 f9 pt b5
  rintro B hb ⟨Q,q,l,⟨g3,rfl⟩,a1,r,gq,U,nq,gD,Fb⟩
  have b2:=a1.len
  have nb:=Fb.next
  have a:=sort_ok hb q (zi Q) l (by rw[aQ];omega) gq nq
  rw[aQ] at a
  simp(disch:=omega)only[go_sem]
  refine a.mono ?_
  rintro _ ka ⟨a,gl,pl,al,Fa⟩
  obtain rfl:=a1.sort hG E (eS _) om a3 b6 pl al
  have i1:Q.length=(orbC G L i).length:=by have:=pl.length_eq;rw[aQ,aQ] at this;exact this.symm
  have a:=Fa.next
  have a:Fr h2 ka:=⟨om,λx hx=>by rw[Fa.get x om (λe=>by have:x=q:=e;omega),Fb.get x om (λe=>by have:x=D:=e;omega)];exact a5.get x hx⟩
  have f:=el_isP hG E (show i<L.length by omega)
  simp(disch:=omega)only[go_sem]
  refine (order_ok vx n (L.getD i []) ka n0 n7 f (sx.mono a)).mono ?_
  rintro _ kb ⟨rfl,fb⟩
  have a:=fb.next
  obtain⟨vK,ks,WK,gB,b0,aK,bK,wD,wB,wN,wn,wX,_⟩:=J.ex
  have a:=All2.length aK
  have i7:kb.get (X+8)=some (.cells false [vL,.mp (X+3),vK,.sl (X+6) 0 L.length (.kn L.length)]):=by
   rw[fb.get _ om,Fa.get _ om (λe=>by have:X+8=q:=e;omega),Fb.get _ om (λe=>by have:X+8=D:=e;omega)];exact gB
  have c2:kb.cell (X+8) 2=some vK:=by rw[H.aG i7];rfl
  have b3:=sx.dG.2.1
  have a:=b0.sv.dJ
  obtain⟨Y,hY⟩:=JR kb.next
  obtain⟨kc,ec,a,j0,oc,a⟩:=dN hY [vx,aB (iH (L.getD i []) n:Nat),aB (Q.length:Int),.sl q 0 Q.length l]
  have b4: ∀x,x<Z->x≠D->kc.get x=h7.get x:=λx d h2=>by
   rw[oc x om,fb.get x om,Fa.get x om (λe=>by have:x=q:=e;omega),Fb.get x om h2]
  have a:Own kc vK 4 (Cls.kflat ks) (D+1):=b0.mono om λid off n' c e d h2=>b4 id om om
  have lr:=repsC_len (G:=G) (L:=L) i
  obtain⟨kd,ad,pd⟩:=a.push (bytes:=64) (y:= .sl Y 0 1 (.kn 1)) (us:= [vx,aB (iH (L.getD i []) n:Nat),aB (Q.length:Int),.sl q 0 Q.length l]) (SV.all rfl om j0 _) (n:=ks.length) (m:=1) (kflat_len ks) rfl om om om
  have a:=pd.next
  have a:dH vK (X+8):=λid off n' c e e2=>by have:=(b0.in _ _ _ _ e).2.1;omega
  have k0:kd.get (X+8)=some (.cells false [vL,.mp (X+3),vK,.sl (X+6) 0 L.length (.kn L.length)]):=by
   rw[pd.old _ om a,oc _ om];exact i7
  obtain⟨ke,ee,a,ge,oe⟩:=mS kd (X+8) [vL,.mp (X+3),.sl kc.next 0 (ks.length+1) (.un 4),.sl (X+6) 0 L.length (.kn L.length)]
  simp(disch:=omega)only[go_sem,c2,bld_three sx.dG.1 b3,bld_class b3 (w:= .sl q 0 Q.length l) rfl rfl,bls_class b3 (w:= .sl q 0 Q.length l) rfl,hY,ec,ad,k0,put_third,ee]
  rw[dY i]
  have a: ∀x,x<Z-> ¬WK x->ke.get x=h7.get x:=λx d h2=>by
   rw[oe x (λe=>h2 (e▸wB)),pd.old x om (λid off n' c e e2=>h2 (e2▸bK _ _ _ _ e)),b4 x d (λe=>h2 (e▸wD))]
  have FK:Fx WK h7 ke:=⟨om,λx d h2=>a x om h2⟩
  have j7:Fr h2 ke:=⟨om,λx hx=>by rw[a x om (λd=>by have:=wX x d;omega)];exact a5.get x hx⟩
  have e3:Cls.kflat (ks++ [⟨vx,iH (L.getD i []) n,Q.length,.sl q 0 Q.length l,i,⟨sx.dG.1,b3,sx.dJ⟩,⟨rfl,rfl,by simp [dJ]⟩⟩])=Cls.kflat ks++ [vx,aB (iH (L.getD i []) n:Nat),aB (Q.length:Int),.sl q 0 Q.length l]:=by
   simp [Cls.kflat,Cls.KE.enc]
  refine⟨m-(i+1),om,i+1,aA rfl,om,⟨⟨_,ks++ [⟨vx,iH (L.getD i []) n,Q.length,.sl q 0 Q.length l,i,⟨sx.dG.1,b3,sx.dJ⟩,⟨rfl,rfl,by simp [dJ]⟩⟩],λx=>WK x∨x=kc.next,ge,?_,?_,λid off n' c e=>by cases e;exact .inr rfl,   .inl wD,.inl wB,.inl wN,λx h=>by rcases h with h|h;have:=wn x h;omega;omega,λx h=>by rcases h with h|h;exact wX x h;omega,.inr ⟨_,_,by rw[iZ];rfl,?_⟩⟩,?_,?_,om⟩,rfl⟩
  ·rw[e3]
   exact (pd.own (b:=D+1) (kflat_len ks) rfl om).mono om λid off n' c e d h2=>by cases e;exact oe _ om
  ·rw[(repsC_succ i).1 hr]
   refine All2.append (aK.mono λa r k=>k.go FK om wX λx d h2=>by rcases h2 with h2|h2;exact h2;omega) ⟨⟨rfl,rfl,i1,⟨sx.mono j7,?_⟩,⟨?_,?_⟩⟩,trivial⟩
   ·rw[←hX];exact off_lt sx
   ·rw[i1]
    refine SV.all (ro:=false) (by rw[aL,aQ,kF]) om ?_ _
    rw[oe q om,pd.old q om (λid off n' c e e2=>by have:=wn _ (bK _ _ _ _ e);omega),oc q om,fb.get q om]
    exact gl
   ·exact λh=>by rcases h with h|h;have:=wn _ h;omega;omega
  ·rw[e3,oe _ om];exact pd.get
  ·rw[oe D om,pd.old D om (λid off n' c e e2=>by have:=(b0.in _ _ _ _ e).2.1;omega),oc D om,fb.get D om,Fa.get D om (λe=>by have:D=q:=e;omega),gD,aY λj F=>by rw[snC_done hG E (show i<L.length by omega) a1 a3 b6 F]]
  ·refine⟨by have:=J.old.next;omega,λx d h2=>?_⟩
   have a:x≠X+8:=λe=>h2 (.inl e)
   have f:x<D:=om
   rw[oe x a,pd.old x om (λid off n' c e e2=>by have:=(b0.in _ _ _ _ e).2.1;omega),b4 x om om]
   exact J.old.get x d h2
 rintro B h7 ⟨⟨g,rfl⟩,J⟩
 exact hk L X D vL h2 h5 h7 A g hL ⟨E,om,f1.trans f2,hX,nw.sp,d9,om,hD,by rw[f5.get _ om,hm];exact b1,by rw[f5.get _ om,hm];exact f8,by rw[hm];exact J⟩
end
open Classical in
noncomputable def numC (G:List Nat->Prop)(L:LN)(K:List Nat)(j:Nat):Nat:=K.findIdx λr=>decide (cR G L r j)
structure KR (n:Nat)(G:List Nat->Prop)(L:LN)(hh:H)(a:Cls.KE)(r:Nat):Prop where
 fst:a.fst=r
 ord:a.ord=iH (L.getD r []) n
 size:a.size=(orbC G L r).length
 rep:SI hh a.rep (zi (L.getD r []))
 ranks:SI hh a.ranks (zi (orbC G L r))
theorem KR.mono {n:Nat}{G:List Nat->Prop}{L:LN}{h h':H}{a:Cls.KE}{r:Nat}(k:KR n G L h a r)(f:Fr h h'):KR n G L h' a r:=⟨k.fst,k.ord,k.size,k.rep.mono f,k.ranks.mono f⟩
def kLt (n:Nat)(G:List Nat->Prop)(L:LN)(r s:Nat):Prop:=iH (L.getD r []) n<iH (L.getD s []) n∨iH (L.getD r []) n=iH (L.getD s []) n/\((orbC G L r).length<(orbC G L s).length∨(orbC G L r).length=(orbC G L s).length/\r<s)
structure IsK (n:Nat)(G:List Nat->Prop)(L:LN)(K:List Nat):Prop where
 perm:K.Perm (repsC G L L.length)
 asc:K.Pairwise (kLt n G L)
structure GrpO (n:Nat)(G:List Nat->Prop)(L:LN)(K:List Nat)(hh:H)(v:V):Prop where
 ex: ∃B M N S cp vL ks,v= .ptr B 0/\B<hh.next/\M<hh.next/\N<hh.next/\S<hh.next/\hh.get B=some (.cells false [vL,.mp M,.sl S 0 K.length cp,.sl N 0 L.length (.kn L.length)])/\
  hh.get M=some (.wmap .str (wmp L L.length))/\hh.get N=some (.cells false (rc L.length λj=> aB (numC G L K j:Nat)))/\hh.get S=some (.cells false (Cls.kflat ks))/\All2 (KR n G L hh) ks K/\SP hh vL L
theorem GrpO.mono {n:Nat}{G:List Nat->Prop}{L:LN}{K:List Nat}{h h':H}{v:V}(g:GrpO n G L K h v)(f:Fr h h'):GrpO n G L K h' v:=by
 obtain⟨B,M,N,S,c,i,k,e,q,j,b,d,l,o,m,p,a,sp⟩:=g.ex;have r:=f.next;exact⟨B,M,N,S,c,i,k,e,om,om,om,om,by rw[f.get _ q];exact l,by rw[f.get _ j];exact o,by rw[f.get _ b];exact m,by rw[f.get _ d];exact p,a.mono λ_ _ k=>k.mono f,sp.mono f⟩
section
variable {n:Nat} {G:List Nat->Prop} {L:LN} {K:List Nat} (hG:mH n G) (E:eP G L)
include hG E
omit hG E in
theorem repsC_zero_mem (a:0<L.length):0∈repsC G L L.length:=repsC_mem.2 ⟨a,λj b=>om⟩
theorem numC_at (e:K.Perm (repsC G L L.length)){k:Nat}(c:k<K.length){j:Nat}(l:j∈orbC G L (K.getD k 0)):numC G L K j=k:=by
 classical
 obtain⟨a,a⟩:=orbC_mem.1 l;have b:K.Nodup:=e.nodup_iff.2 (by unfold repsC;exact List.Pairwise.filter _ List.nodup_range);have g: ∀r∈K,r<L.length/\isR G L r:=λr d=>repsC_mem.1 (e.mem_iff.1 d)
 unfold numC;rw[List.findIdx_eq c];have d:K.getD k 0=K[k]:=Pm.bT c;rw[d] at a;refine⟨by simpa using a,λi hi=>?_⟩;simp only[decide_eq_false_iff_not];intro d;have f:=g K[i] (xR _);have h:=g K[k] (xR _);have:=rep_uniq hG E f.1 h.1 f.2 h.2 d a;have a:=Ta.1 b i k om c hi;exact a this
theorem num_cover (c:K.Perm (repsC G L L.length)){j:Nat}(a:j<L.length): ∃k,k<K.length/\j∈orbC G L (K.getD k 0):=by
 obtain⟨r,b,b,d⟩:=rep_ex hG E a;have f:r∈K:=c.mem_iff.2 (repsC_mem.2 ⟨om,b⟩);obtain⟨k,b,e⟩:=uK.1 f;exact⟨k,b,orbC_mem.2 ⟨a,by rw[Pm.bT b,e];exact d⟩⟩
end
open Classical in
noncomputable def nuC (G:List Nat->Prop)(L:LN)(K:List Nat)(k t j:Nat):Nat:=if (∃k0,k0<k/\j∈orbC G L (K.getD k0 0))∨j∈(orbC G L (K.getD k 0)).take t then numC G L K j else 0
theorem nuC_zero (G:List Nat->Prop)(L:LN)(K:List Nat)(j:Nat):nuC G L K 0 0 j=0:=by
 classical
 unfold nuC;rw[aZ];rintro (⟨a,h,_⟩|h)
 ·omega
 ·simp at h
theorem nuC_next (G:List Nat->Prop)(L:LN)(K:List Nat)(k j:Nat):nuC G L K k (orbC G L (K.getD k 0)).length j=nuC G L K (k+1) 0 j:=by
 classical
 unfold nuC;rw[List.take_length,List.take_zero]
 have e:((∃a,a<k/\j∈orbC G L (K.getD a 0))∨j∈orbC G L (K.getD k 0))↔((∃a,a<k+1/\j∈orbC G L (K.getD a 0))∨j∈([]:List Nat)):=by
  constructor
  ·rintro (⟨a,c,b⟩|h)
   ·exact .inl ⟨a,om,b⟩
   ·exact .inl ⟨k,om,h⟩
  ·rintro (⟨a,c,b⟩|h)
   ·by_cases e:a=k
    ·subst e;exact .inr b
    ·exact .inl ⟨a,om,b⟩
   ·cases h
 by_cases h:((∃a,a<k/\j∈orbC G L (K.getD a 0))∨j∈orbC G L (K.getD k 0))
 ·rw[aV h,aV (e.1 h)]
 ·rw[aZ h,aZ (λx=>h (e.2 x))]
theorem nuC_step {n:Nat}{G:List Nat->Prop}{L:LN}{K:List Nat}(hG:mH n G)(E:eP G L)(b:K.Perm (repsC G L L.length)){k:Nat}(c:k<K.length){t:Nat}(a:t<(orbC G L (K.getD k 0)).length)(j:Nat):
  nuC G L K k (t+1) j=if j=(orbC G L (K.getD k 0)).getD t 0 then k else nuC G L K k t j:=by
 classical
 by_cases e:j=(orbC G L (K.getD k 0)).getD t 0
 ·rw[aV e]
  have d:j∈orbC G L (K.getD k 0):=by rw[e];exact getD_mem a
  unfold nuC
  rw[aV (.inr (by rw[take_getD 0 a,e];simp))]
  exact numC_at hG E b c d
 ·rw[aZ e]
  unfold nuC
  rw[take_getD 0 a]
  simp only[sZ,List.mem_singleton,e,or_false]
theorem nuC_done {n:Nat}{G:List Nat->Prop}{L:LN}{K:List Nat}(hG:mH n G)(E:eP G L)(a:K.Perm (repsC G L L.length)){j:Nat}(d:j<L.length):nuC G L K K.length 0 j=numC G L K j:=by
 classical
 obtain⟨k,c,b⟩:=num_cover hG E a d;unfold nuC;rw[aV (.inl ⟨k,c,b⟩)]
theorem row_kflat {h:H}{S:Nat}{ro:Bool}: ∀{ks:List Cls.KE} {pre:List V},h.get S=some (.cells ro (pre++Cls.kflat ks))-> ∀{i:Nat} (hi:i<ks.length),h.row S (pre.length+i*4) 4=some ks[i].enc
 | [],_,_,_,hi=>by simp at hi
 |a::r,pre,g,0,_=>by
  unfold H.row;rw[g];show sub (pre++(a.enc++Cls.kflat r)) (pre.length+0*4) 4=some a.enc;simp only[sub,Nat.zero_mul,Nat.add_zero];have:a.enc.length=4:=rfl;rw[aV (by rw[iZ,iZ];omega),List.drop_left,List.take_append,yW om,this];simp
 |a::r,pre,g,i+1,hi=>by
  have b:h.get S=some (.cells ro ((pre++a.enc)++Cls.kflat r)):=by rw[g,oF];rfl
  have:=row_kflat b (i:=i) (by simpa using hi);rw[iZ,show a.enc.length=4 from rfl] at this;rw[show pre.length+(i+1)*4=pre.length+4+i*4 by omega];simpa using this
theorem stV_ke (h:H)(id off:Nat)(a:Cls.KE):Ln h 4 (.ptr id off) (.agg a.enc)=dQ (h.get id) h id off a.enc:=qE h id off 4 _ rfl (by simp [Cls.KE.enc,a.hrep.2.1,a.hranks.2.1,show (aB (a.ord:Int)).one=true from rfl,show (aB (a.size:Int)).one=true from rfl])
theorem put_ke (hh:H)(id:Nat)(a:Cls.KE)(x y z w:V):dQ (some (.cells false [x,y,z,w])) hh id 0 a.enc=some (hh.set id (some (.cells false a.enc))):=by
 simp [dQ,putAt,Cls.KE.enc]
theorem All2.ex {α β:Type}{R:α->β->Prop}{as:List α}{c:List β}(h:All2 R as c){a:α}(d:a∈as): ∃b∈c,R a b:=by
 obtain⟨i,hi,rfl⟩:=uK.1 d;have e:=All2.length h;exact⟨c[i]'om,xR _,All2.get h i hi om⟩
theorem SI.lit {h:H}{v:V}{l:List Int}(s:SI h v l)(q:0<l.length): ∃id off m cap,v= .sl id off (m+1) cap/\m+1=l.length/\id<h.next/\ ∀i,i<l.length->h.cell id (off+i)=some (aB (l.getD i 0)):=by
 obtain⟨id,off,k,f,d⟩:=s.open;rcases s with ⟨_,f⟩|⟨c,a,len,cap,p,p,e,o,g,_⟩
 ·have:l.length=0:=by rw[←aL,f];rfl
  omega
 ·rw[aL,kF] at o
  have b:=k.ixa .i64 0 om om;subst e;rw[sT om om] at b;simp only[Option.some.injEq,V.ptr.injEq] at b;obtain⟨rfl,e⟩:=b;have j:a=off:=om
  subst j;exact⟨c,a,l.length- 1,cap,by rw[show l.length- 1+1=len by omega],om,g,d⟩
theorem of_ok {W0:Nat->Prop}(vc:V)(n:Nat)(O:LN)(R:jL)(G:List Nat->Prop)(h:H)(gc:GC W0 h vc n O R G):
  Ev T 56 [vc] h (λv h'=> ∃p K,v= .tup [p,aB 0]/\GrpO n G (cF O R n 0 (cH n)) K h' p/\IsK n G (cF O R n 0 (cH n)) K/\Fr h h'):=by
 refine of_walk vc n O R G h gc _ λL X D vL o h5 F A g m e=>?_
 rw[m]
 have hG:=gc.grp
 have E:=e.el
 obtain⟨vK,f,WK,gB,c6,aK,bK,m,wB,wN,wn,wX,xK⟩:=e.j.ex
 have W:=All2.length aK
 obtain⟨m,m⟩:=JR L.length
 have m:0<L.length:=Xn ((E.mem _).2 hG.one)
 have c0:0<f.length:=by rw[W];exact Xn (repsC_zero_mem m)
 obtain⟨S,cp,rfl,gS⟩: ∃id Y,vK= .sl id 0 f.length Y/\F.get id=some (.cells false (Cls.kflat f)):=by
  rcases xK with l|l
  ·subst l;simp at c0
  ·exact l
 have wS:=bK _ _ _ _ rfl
 have nS:=wn _ wS
 have c2:F.cell (X+8) 2=some (.sl S 0 f.length cp):=by rw[H.aG gB];rfl
 show Wp T none (afterB 2 c_classes_of.body) _ F _
 simp(disch:=omega)only[go_sem,afterB,endsB,c_classes_of,c2]
 have hR: ∀r∈repsC G L L.length,r<L.length/\isR G L r:=λr J=>repsC_mem.1 J
 have m: ∀a∈f,a.Pp F F.next S:=λa P=>by
  obtain⟨r,J,k⟩:=All2.ex aK P;obtain⟨a2,a1⟩:=hR r J;obtain⟨l1,l2⟩:=orbC_head hG E a2 a1;obtain⟨id,off,A,Y,e1,e2,e3,e4⟩:=SI.lit k.ranks.si (by rw[aQ];exact l1);have ho:=k.ranks.off;rw[e1] at ho;refine⟨id,off,A,Y,e1,e3,λl=>ho (l▸wS),?_⟩;have:=e4 0 (by rw[aQ];exact l1);rw[Nat.add_zero] at this;rw[this,zi,gd_map _ (d:=0) l1,l2,k.fst]
 refine (Cls.csort_ok F S F.next f cp (by rw[W];have:=repsC_len (G:=G) (L:=L) L.length;have:=e.le;omega) gS nS (eS _) m).mono ?_
 rintro _ w ⟨b,b6,pm,b7,F8⟩
 obtain⟨K,hK⟩:=JR (b.map (λa:Cls.KE=>a.fst))
 have Q:K.length=f.length:=by rw[←hK,iR];exact pm.length_eq
 have m:f.map (λa:Cls.KE=>a.fst)=repsC G L L.length:=by
  refine List.ext_getElem (by rw[iR];exact W) λi l o=>?_
  rw[List.getElem_map];exact (All2.get aK i (by simpa using l) o).fst
 have pK:K.Perm (repsC G L L.length):=by rw[←hK,←m];exact pm.map _
 have kK: ∀a∈b,KO n G L X WK F a a.fst:=λa P=>by
  obtain⟨r,J,k⟩:=All2.ex aK (pm.mem_iff.1 P);rw[k.fst];exact k
 have m:Fx WK F w:=⟨F8.next,λq l o=>F8.get q l λh3=>o (by have:q=S:=h3;rw[this];exact wS)⟩
 have c1: ∀a∈b,KO n G L X WK w a a.fst:=λa P=>(kK a P).go m (by have:=wX S wS;omega) wX λ_ _ l=>l
 have m:=(c6.in _ _ _ _ rfl).2.1
 have m:=e.xD
 have m:=F8.next
 have U:w.get (X+8)=some (.cells false [vL,.mp (X+3),.sl S 0 f.length cp,.sl (X+6) 0 L.length (.kn L.length)]):=by
  rw[F8.get _ (wn _ wB) (λl=>by have:X+8=S:=l;omega)];exact gB
 have a7:w.cell (X+8) 2=some (.sl S 0 f.length cp):=by rw[H.aG U];rfl
 have f:F.get (X+6)=some (.cells false (rc L.length λ_=> aB 0)):=by
  rw[e.j.old.get _ (by rw[e.n5];omega) om];exact e.gN
 have b9:w.get (X+6)=some (.cells false (rc L.length λj=> aB (nuC G L K 0 0 j:Nat))):=by
  rw[F8.get _ (wn _ wN) (λl=>by have:X+6=S:=l;omega),f,show (λj=>aB (nuC G L K 0 0 j:Nat))=λ_=>aB 0 from funext λj=>by rw[nuC_zero];rfl]
 have b5: ∀k,k<K.length-> ∃a,b[k]? =some a/\KO n G L X WK w a (K.getD k 0):=λk hk=>by
  have u:k<b.length:=by rw[pm.length_eq,←Q];exact hk
  refine⟨b[k],eV u,?_⟩;have:=c1 _ (xR u);have e2:K.getD k 0=(b[k]).fst:=by rw[Pm.bT hk];subst hK;rw[List.getElem_map]
  rw[e2];exact this
 have le:=e.le
 have f:K.length<=L.length:=by rw[Q,W];exact repsC_len _
 have f:=wn _ wN
 rw[←Q] at a7 U
 simp(disch:=omega)only[go_sem,a7]
 refine bX (λvs s=>(∃g:Nat->V,vs= [g 0,g 1,.nilp,aB 0,g 4,g 5,.ptr (X+8) 0,g 7,g 8,g 9,g 10,g 11,g 12,g 13,g 14,g 15,g 16,g 17,g 18,g 19,g 20,g 21,g 22,g 23,g 24,g 25,g 26,g 27,g 28,g 29,g 30,g 31,g 32,g 33,g 34,g 35,g 36,g 37,g 38,g 39,g 40,g 41,g 42,g 43,g 44,g 45])/\s.get (X+6)=some (.cells false (rc L.length λj=> aB (nuC G L K K.length 0 j:Nat)))/\Fx (· =X+6) w s) ?_ ?_
 ·refine aH (λk' vs s=> ∃(k:Nat),(∃g:Nat->V,vs= [g 0,g 1,.nilp,aB 0,g 4,g 5,.ptr (X+8) 0,g 7,g 8,g 9,g 10,g 11,g 12,g 13,g 14,g 15,g 16,g 17,g 18,g 19,g 20,g 21,g 22,g 23,g 24,g 25,g 26,g 27,g 28,g 29,g 30,g 31,g 32,g 33,g 34,g 35,g 36,g 37,.sl S 0 K.length cp,aB (K.length:Int),aB k,g 41,g 42,g 43,g 44,g 45])/\k<=K.length/\s.get (X+6)=some (.cells false (rc L.length λj=> aB (nuC G L K k 0 j:Nat)))/\Fx (· =X+6) w s/\k'=K.length-k) K.length
   ⟨0,aA rfl,fF _,b9,Fx.refl _ _,rfl⟩ ?_
  rintro k' z h9 ⟨k,⟨g,rfl⟩,hk,B,y,rfl⟩
  have n9:=y.next
  by_cases a5:(k:Int)<(K.length:Int)
  case neg=>
   have d4:=bJ a5;obtain rfl:k=K.length:=om
   simp(disch:=omega)only[go_sem,d4];exact⟨aA rfl,B,y⟩
  have d4:=bM a5
  have u:k<K.length:=om
  obtain⟨a,ea,ko⟩:=b5 k u
  have f:k<b.length:=by rw[pm.length_eq,←Q];exact u
  have a0:b[k]=a:=by rw[eV f] at ea;simpa using ea
  have m:h9.get S=some (.cells false (Cls.kflat b)):=by rw[y.get _ om (λl=>by have:S=X+6:=l;omega)];exact b6
  have a8:h9.row S (k*4) 4=some a.enc:=by
   have:=row_kflat (pre:= []) (by simpa using m) f;rw[a0] at this;simpa using this
  obtain⟨Y,hY⟩:=JR h9.next
  obtain⟨P,a3,na,ga,oa,fa⟩:=dN hY [.aD,aB 0,aB 0,.aD]
  obtain⟨hb,b3,nb,gb,ob⟩:=mS P Y a.enc
  have a9:hb.cell Y 3=some a.ranks:=by rw[H.aG gb];rfl
  have f:=ko.ranks.si.lens
  rw[aQ] at f
  obtain⟨r,J⟩:=JR (K.getD k 0)
  rw[J] at ko f
  simp(disch:=omega)only[go_sem,d4,a8,hY,a3,stV_ke,ga,put_ke,b3,a9,f]
  have f:r∈repsC G L L.length:=by rw[←J];exact pK.mem_iff.1 (getD_mem u)
  obtain⟨a2,a1⟩:=hR r f
  obtain⟨l1,l2⟩:=orbC_head hG E a2 a1
  obtain⟨N,Z,mR,b4,e1,e2,e3,e4⟩:=SI.lit ko.ranks.si (by rw[aQ];exact l1)
  have ho:=ko.ranks.off
  rw[e1] at ho
  have c9:N≠X+6:=λl=>ho (l▸wN)
  obtain⟨c,hc⟩:=JR ((orbC G L r).length)
  rw[aQ,hc] at e2 e4
  have f:c<=L.length:=by
   rw[←hc];have:=List.Nodup.length_le_of_subset (orbC_nodup (G:=G) (L:=L) r) (l₂:=List.range L.length) λj hj=>Db.2 (orbC_mem.1 hj).1
   rwa [zU] at this
  rw[hc,e1]
  have Fb:Fx (· =X+6) w hb:=⟨om,λq l o=>by rw[ob q om,oa q om];exact y.get q l o⟩
  have b1:hb.get (X+6)=some (.cells false (rc L.length λj=> aB (nuC G L K k 0 j:Nat))):=by rw[ob _ om,oa _ om];exact B
  have c8: ∀s,Fx (· =X+6) w s->s.cell (X+8) 3=some (.sl (X+6) 0 L.length (.kn L.length)):=λs f=>by
   have:s.get (X+8)=w.get (X+8):=f.get _ (by have:=wn _ wB;omega) om;rw[H.aG (this.trans U)];rfl
  refine loop_end (λvs s=>(∃g:Nat->V,vs= [g 0,g 1,.nilp,aB 0,g 4,g 5,.ptr (X+8) 0,g 7,g 8,g 9,g 10,g 11,g 12,g 13,g 14,g 15,g 16,g 17,g 18,g 19,g 20,g 21,g 22,g 23,g 24,g 25,g 26,g 27,g 28,g 29,g 30,g 31,g 32,g 33,g 34,g 35,g 36,g 37,.sl S 0 K.length cp,aB (K.length:Int),aB k,g 41,g 42,g 43,g 44,g 45])/\s.get (X+6)=some (.cells false (rc L.length λj=> aB (nuC G L K (k+1) 0 j:Nat)))/\Fx (· =X+6) w s) ?_ ?_
  ·refine aH (λk' vs s=> ∃(t:Nat),(∃g:Nat->V,vs= [g 0,g 1,.nilp,aB 0,g 4,g 5,.ptr (X+8) 0,g 7,g 8,g 9,g 10,g 11,g 12,g 13,g 14,g 15,g 16,g 17,g 18,aB k,g 20,g 21,g 22,g 23,g 24,g 25,g 26,g 27,g 28,g 29,g 30,g 31,g 32,g 33,g 34,g 35,g 36,g 37,.sl S 0 K.length cp,aB (K.length:Int),aB k,g 41,.sl N Z (mR+1) b4,aB c,aB t,g 45])/\t<=c/\s.get (X+6)=some (.cells false (rc L.length λj=> aB (nuC G L K k t j:Nat)))/\Fx (· =X+6) w s/\k'=c-t) c
    ⟨0,aA rfl,fF _,b1,Fb,rfl⟩ ?_
   clear b1 Fb gb ob a9 nb b3 ga oa fa na a3 a8 B y n9
   rintro k' z b0 ⟨t,⟨g2,rfl⟩,f,b2,Fc,rfl⟩
   by_cases a6:(t:Int)<(c:Int)
   case neg=>
    have d5:=bJ a6;obtain rfl:t=c:=om
    simp(disch:=omega)only[go_sem,d5];refine⟨aA rfl,?_,Fc⟩;rw[b2,show (λj=>aB (nuC G L K k t j:Nat))=λj=>aB (nuC G L K (k+1) 0 j:Nat) from funext λj=>by rw[←nuC_next,J,hc]]
   have d5:=bM a6
   have f:t<c:=om
   obtain⟨x,hx⟩:=JR ((orbC G L r).getD t 0)
   have m:x<L.length:=by rw[←hx];exact (orbC_mem.1 (getD_mem om)).1
   have c5:b0.cell N (Z+t)=some (aB x):=by
    have r:=e4 t f;unfold H.cell at r ⊢;rw[Fc.get N e3 c9,r,zi,gd_map _ (d:=0) om,hx]
   have pt:=bF (vs:=rc L.length λj=> aB (nuC G L K k t j:Nat)) (off:=x) (by rw[cK];exact m)
   have f:(t:Int).toNat=t:=rfl
   simp(disch:=omega)only[go_sem,d5,c5,c8 b0 Fc,b2,pt]
   rw[dY t]
   refine⟨c-(t+1),om,t+1,aA rfl,om,?_,⟨Fc.next,λq l o=>by rw[H.aI _ o];exact Fc.get q l o⟩,rfl⟩
   rw[eJ,aY λj hj=>?_]
   rw[nuC_step hG E pK u (by rw[J];omega),J,hx]
   by_cases c:j=x
   ·rw[aV c,aV c]
   ·rw[aZ c,aZ c]
  rintro z c ⟨⟨g2,rfl⟩,c7,Fd⟩
  simp(disch:=omega)only[go_sem]
  rw[dY k]
  exact⟨K.length-(k+1),om,k+1,aA rfl,om,c7,Fd,rfl⟩
 rintro z h9 ⟨⟨g,rfl⟩,B,y⟩
 have n9:=y.next
 simp(disch:=omega)only[go_sem]
 have c:=e.x2
 have o9: ∀q,q<D->q≠X+8->q≠X+6->h9.get q=h5.get q:=λq l o h3=>by
  rw[y.get q (by have:=e.j.nx;omega) h3,F8.get q (by have:=e.j.nx;omega) (λh4=>by have:q=S:=h4;omega),e.j.old.get q (by rw[e.n5];exact l) (λh4=>by rcases h4 with h4|h4;exact o h4;omega)]
 have c:=e.j.nx
 have a4:Fr o h9:=⟨om,λq c=>by rw[o9 q om om om];exact e.f25.get q c⟩
 have c3:Fx WK w h9:=⟨y.next,λq l o=>y.get q l λh3=>o (by have:q=X+6:=h3;rw[this];exact wN)⟩
 have b8:K.Nodup:=pK.nodup_iff.2 (by classical exact (by unfold repsC;exact List.Pairwise.filter _ List.nodup_range))
 have c4:b.length=K.length:=by rw[←hK,iR]
 refine⟨.ptr (X+8) 0,K,rfl,⟨X+8,X+3,X+6,S,cp,vL,b,rfl,om,om,om,om,?_,?_,?_,?_,?_,e.sp.mono a4⟩,⟨pK,?_⟩,e.f2.trans a4⟩
 ·rw[y.get _ om om];exact U
 ·rw[o9 _ om om om];exact e.gM
 ·rw[B,aY λj hj=>by rw[nuC_done hG E pK hj]]
 ·rw[y.get _ om om];exact b6
 ·refine All2.iC c4 λi l o=>?_
  obtain⟨a,ea,ko⟩:=b5 i o
  have a0:b[i]=a:=by rw[eV l] at ea;simpa using ea
  have c:=ko.go c3 om wX λ_ _ l=>l
  rw[Pm.bT o] at c
  rw[a0]
  exact⟨c.fst,c.ord,c.size,c.rep.si,c.ranks.si⟩
 ·have l:b.Pairwise λa b=>a.fst≠b.fst:=by
   have:=b8;rw[←hK] at this;exact List.pairwise_map.1 this
  rw[←hK,List.pairwise_map];refine List.Pairwise.imp_of_mem ?_ (List.Pairwise.and b7 l);rintro a b P hb ⟨o,h3⟩;have c:=kK a P;have e:=kK b hb;have h4: ¬(b.lt a=true):=by rw[o];simp
  rw[Cls.KE.lt_iff] at h4;unfold kLt;rw[←c.ord,←e.ord,←c.size,←e.size];omega
theorem kLt_asymm {n:Nat}{G:List Nat->Prop}{L:LN}{r s:Nat}(a:kLt n G L r s)(b:kLt n G L s r):False:=by
 unfold kLt at a b;omega
theorem IsK.uniq {n:Nat}{G:List Nat->Prop}{L:LN}{K c:List Nat}(a:IsK n G L K)(b:IsK n G L c):K=c:=
 (a.perm.trans b.perm.symm).eq_of_pairwise (λ_ _ _ _ d e=>(kLt_asymm d e).elim) a.asc b.asc
noncomputable def numsL (G:List Nat->Prop)(L:LN)(K:List Nat):List Nat:=(List.range L.length).map (numC G L K)
theorem rc_nums (G:List Nat->Prop)(L:LN)(K:List Nat):(rc L.length λj=>aB (numC G L K j:Nat))=ints (zi (numsL G L K)):=by
 refine yS (by rw[aL,aQ];simp [numsL]) λi hi=>?_
 rw[tT (by simpa [numsL] using hi)];have:(numsL G L K).getD i 0=numC G L K i:=by simp [numsL,hi]
 rw[this]
theorem map_ok {z:Nat->Prop}(i:V)(n:Nat)(O:LN)(R:jL)(G:List Nat->Prop)(h:H)(g:GC z h i n O R G)(L:LN)(r:cF O R n 0 (cH n)=L):
  Ev T 21 [i] h (λv h'=> ∃vl K,v= .tup [vl,aB 0]/\IsK n G L K/\SI h' vl (zi (numsL G L K))/\Fr h h'):=by
 obtain⟨d,c,e,y,o⟩:=g.ch
 subst e
 refine bH c_classes_Map rfl rfl ?_
 have a:d.one=true:=rL y
 have b:c.one=true:=qZ o
 obtain⟨A,f⟩:=JR h.next
 obtain⟨F,x,e,p,e,k⟩:=dN f [aB n,d,c]
 have l:=bD h (v:= aB n) (u:=d) (w:=c) rfl a b
 have a:=aS p
 simp(disch:=omega)only[go_sem,c_classes_Map,aF,l,f,x,a]
 refine (of_ok _ n O R G F (g.mono k)).mono ?_
 rw[r]
 rintro _ J ⟨p,K,rfl,go,q,m⟩
 obtain⟨B,M,N,S,a,a,a,rfl,a,a,s,a,b,a,j,a,a,sp⟩:=go.ex
 have t:J.cell B 3=some (.sl N 0 L.length (.kn L.length)):=by rw[H.aG b];rfl
 simp(disch:=omega)only[go_sem]
 refine bB (λa=>(a rfl).elim) (λ_=>?_)
 simp(disch:=omega)only[go_sem,t]
 rw[rc_nums] at j
 exact⟨_,K,rfl,q,SV.all (by rw[aL,aQ];simp [numsL]) s j _,k.trans m⟩
def list3 (ks:List Cls.KE):List V:=ks.flatMap λa=> [a.rep,aB (a.ord:Int),aB (a.size:Int)]
theorem list3_len (ks:List Cls.KE):(list3 ks).length=ks.length*3:=by
 induction ks with
 |nil=>rfl
 |cons a r ih=>
  show ([a.rep,aB (a.ord:Int),aB (a.size:Int)]++list3 r).length=_;rw[iZ,ih];show 3+r.length*3=(r.length+1)*3;omega
theorem row_ke3 {h:H}{Y:Nat}{ro:Bool}{a:Cls.KE}(g:h.get Y=some (.cells ro a.enc)):h.row Y 0 3=some [a.rep,aB (a.ord:Int),aB (a.size:Int)]:=by
 simp [H.row,g,sub,Cls.KE.enc]
theorem bls_three {v:V}(a:v.one=true)(x y:Int)(h:H):pG h 3 [.aD,aB 0,aB 0] 1 [(0,3,.agg [v,aB x,aB y])]=some (.sl h.next 0 1 (.kn 1),h.new (.cells false [v,aB x,aB y])):=by
 have e:dO [V.aD,aB 0,aB 0] 3= [V.aD,aB 0,aB 0]:=rfl;simp [pG,gI,putAt,e,a,show ∀l,(V.agg l).cells=l from λ_=>rfl,show ∀z,(aB z).one=true from λ_=>rfl]
theorem clist_bad (k:V)(d:Int)(O:List (List Int))(R:List (List (List Int)))(h:H)(c:ChI h k d O R)(o:d<=7∨64<d)(p:SmallO O)(sr:SmallR R)(l:chkE d O R≠0):
  Ev T 20 [k] h (λv h'=>v= .tup [.aD,aB (chkE d O R)]/\Fr h h'):=by
 have g:=c
 obtain⟨i,f,e,s,t⟩:=c
 subst e
 refine bH c_classes_List rfl rfl ?_
 have a:i.one=true:=rL s
 have b:f.one=true:=qZ t
 obtain⟨B,m⟩:=JR h.next
 obtain⟨x,r,e,n,e,j⟩:=dN m [aB d,i,f]
 have q:=bD h (v:= aB d) (u:=i) (w:=f) rfl a b
 have a:=aS n
 simp(disch:=omega)only[go_sem,c_classes_List,aF,q,m,r,a]
 refine (of_bad _ d O R x (g.mono j) o p sr l).mono ?_
 rintro _ a ⟨rfl,a⟩
 simp(disch:=omega)only[go_sem]
 refine bB (λ_=>?_) (λc=>(c l).elim)
 simp(disch:=omega)only[go_sem]
 exact j.trans a
theorem clist_ok {W0:Nat->Prop}(vc:V)(n:Nat)(O:LN)(R:jL)(G:List Nat->Prop)(h:H)(l:GC W0 h vc n O R G)(L:LN)(hL:cF O R n 0 (cH n)=L):
  Ev T 20 [vc] h (λv h'=> ∃vl K ks,v= .tup [vl,aB 0]/\IsK n G L K/\SV h' vl 3 (list3 ks)/\All2 (KR n G L h') ks K/\Fr h h'):=by
 obtain⟨J,N,e,sO,A⟩:=l.ch
 subst e
 refine bH c_classes_List rfl rfl ?_
 have o:J.one=true:=rL sO
 have p:N.one=true:=qZ A
 obtain⟨A,Y⟩:=JR h.next
 obtain⟨h1,e1,A,g1,A,f1⟩:=dN Y [aB n,J,N]
 have bx:=bD h (v:= aB n) (u:=J) (w:=N) rfl o p
 have o:=aS g1
 simp(disch:=omega)only[go_sem,c_classes_List,aF,bx,Y,e1,o]
 refine (of_ok _ n O R G h1 (l.mono f1)).mono ?_
 rw[hL]
 rintro _ c ⟨p,K,rfl,go,ik,f2⟩
 obtain⟨B,M,N,S,Z,o,ks,rfl,o,o,o,hS,o,p,p,gS,aK,sp⟩:=go.ex
 have c2:c.cell B 2=some (.sl S 0 K.length Z):=by rw[H.aG o];rfl
 have o:=All2.length aK
 have o:K.length<=5040:=by
  have h1:=ik.perm.length_eq;have c:=repsC_len (G:=G) (L:=L) L.length;have o:=szF_fact l;have o:=(eE l.grp l.isc).2;rw[hL] at o;omega
 simp(disch:=omega)only[go_sem]
 refine bB (λo=>(o rfl).elim) (λ_=>?_)
 simp(disch:=omega)only[go_sem,c2]
 refine bX (λp o=> ∃b,(∃g:Nat->V,p= [g 0,g 1,g 2,g 3,g 4,g 5,b,g 7,g 8,g 9,g 10,g 11,g 12])/\SV o b 3 (list3 ks)/\Fr c o) ?_ ?_
 ·refine aH (λk' p o=> ∃(k:Nat) (b:V),(∃g:Nat->V,p= [g 0,g 1,g 2,g 3,.ptr B 0,g 5,b,g 7,g 8,.sl S 0 K.length Z,aB (K.length:Int),aB k,g 12])/\k<=K.length/\Own o b 3 (list3 (ks.take k)) c.next/\Fr c o/\k'=K.length-k) K.length
   ⟨0,.aD,aA rfl,fF _,Own.aD _ _ _,Fr.refl _,rfl⟩ ?_
  rintro k' f i ⟨k,b,⟨g,rfl⟩,o,t,d,rfl⟩
  by_cases j:(k:Int)<(K.length:Int)
  case neg=>
   have x:=bJ j;obtain rfl:k=K.length:=om
   simp(disch:=omega)only[go_sem,x];rw[yW om] at t;exact⟨b,aA rfl,t.sv,d⟩
  have x:=bM j
  have j:k<K.length:=om
  have r:k<ks.length:=om
  obtain⟨a,ea⟩:=JR (ks[k])
  have j:i.get S=bW (Cls.kflat ks):=by rw[d.get _ hS];exact gS
  have F:i.row S (k*4) 4=some a.enc:=by
   have:=row_kflat (pre:= []) (by simpa using j) r;rw[ea] at this;simpa using this
  obtain⟨Y,hY⟩:=JR i.next
  obtain⟨o,z,j,ga,A,j⟩:=dN hY [.aD,aB 0,aB 0,.aD]
  obtain⟨j,U,p,gb,p⟩:=mS o Y a.enc
  obtain⟨Z,hZ⟩:=JR j.next
  obtain⟨j,W,o,Q,o,B⟩:=dN hZ [a.rep,aB (a.ord:Int),aB (a.size:Int)]
  have s:Fr i j:=⟨om,λq hq=>by rw[o q om,p q om,A q om]⟩
  have o:Own j b 3 (list3 (ks.take k)) c.next:=t.fr s
  obtain⟨hd,ad,P⟩:=o.push (bytes:=40) (y:= .sl Z 0 1 (.kn 1)) (us:= [a.rep,aB (a.ord:Int),aB (a.size:Int)]) (SV.all rfl om Q _) (n:=k) (m:=1) (by rw[list3_len,xF];omega) rfl om om om
  simp(disch:=omega)only[go_sem,x,F,hY,z,stV_ke,ga,put_ke,U,row_ke3 gb,bls_three a.hrep.2.1,hZ,W,ad]
  rw[dY k]
  have el:list3 (ks.take (k+1))=list3 (ks.take k)++ [a.rep,aB (a.ord:Int),aB (a.size:Int)]:=by
   rw[List.take_succ_eq_append_getElem r,ea];simp [list3]
  have a:=d.next
  have nd:=P.next
  have a0:Fr c hd:=⟨om,λq hq=>by rw[P.old q om (λid a a c e a=>by have:=(t.in _ _ _ _ e).2.1;omega),s.get q om];exact d.get q hq⟩
  exact⟨K.length-(k+1),om,k+1,_,aA rfl,om,by rw[el];exact P.own (by rw[list3_len,xF];omega) rfl om,a0,rfl⟩
 rintro f i ⟨b,⟨g,rfl⟩,sv,d⟩
 simp(disch:=omega)only[go_sem]
 exact⟨b,K,ks,rfl,ik,sv,aK.mono λ_ _ k=>k.mono d,(f1.trans f2).trans d⟩
section
variable {h:H} {n:Nat}
theorem u8_rc:([.int .u8 0,.int .u8 0,.int .u8 0,.int .u8 0,.int .u8 0,.int .u8 0,.int .u8 0,.int .u8 0,.int .u8 0,.int .u8 0,.int .u8 0,.int .u8 0,.int .u8 0,.int .u8 0,.int .u8 0,.int .u8 0,.int .u8 0,.int .u8 0,.int .u8 0,.int .u8 0,.int .u8 0,.int .u8 0,.int .u8 0,.int .u8 0,.int .u8 0,.int .u8 0,.int .u8 0,.int .u8 0,.int .u8 0,.int .u8 0,.int .u8 0,.int .u8 0,.int .u8 0,.int .u8 0,.int .u8 0,.int .u8 0,.int .u8 0,.int .u8 0,.int .u8 0,.int .u8 0,.int .u8 0,.int .u8 0,.int .u8 0,.int .u8 0,.int .u8 0,.int .u8 0,.int .u8 0,.int .u8 0,.int .u8 0,.int .u8 0,.int .u8 0,.int .u8 0,.int .u8 0,.int .u8 0,.int .u8 0,.int .u8 0,.int .u8 0,.int .u8 0,.int .u8 0,.int .u8 0,.int .u8 0,.int .u8 0,.int .u8 0,.int .u8 0]:List V)=rc 64 λ_=> .int .u8 0:=rfl
def kyV (x:List Nat):V:= .agg (rc 64 λi=> .int .u8 ((x.getD i 0:Nat):Int))
theorem row_all {id:Nat}{ws:List V}(b:ws.length=n)(a:h.get id=some (.cells false ws)):h.row id 0 n=some ws:=by
 unfold H.row;rw[a];simp only[sub];rw[aV om,List.drop_zero,yW om]
theorem putO_all {vs ws:List V}(a:vs.length=n)(h2:ws.length=n)(h:H)(id:Nat):dQ (some (.cells false vs)) h id 0 ws=some (h.set id (some (.cells false ws))):=by
 simp only[dQ,putAt];rw[aV om,Option.map_some,List.take_zero,List.nil_append,List.drop_of_length_le om,qA]
theorem rc_one {f:Nat->V}(a: ∀i,(f i).one=true):(rc n f).all V.one=true:=by
 rw[zE];intro v b;obtain⟨i,_,rfl⟩:=pU.1 b;exact a i
set_option maxHeartbeats 8000000
theorem keyOf_ok (u:V)(n:Nat)(x:List Nat)(h:H)(Z:n<=64)(X:bV n x)(y:SI h u (zi x)):
  Ev T 40 [u] h (λv h'=>v=kyV x/\Fr h h'):=by
 refine bH c_algebra_keyOf rfl rfl ?_
 have l:=X.len
 have z:=y.lens
 rw[aQ,l] at z
 obtain⟨id,off,q,b,p⟩:=y.open
 rw[aQ,l] at q b p
 obtain⟨A,g⟩:=JR h.next
 obtain⟨m,P,m,L,Y,O⟩:=dN g (rc 64 λ_=> .int .u8 0)
 obtain⟨Y,f,U,G,J,B⟩:=dN m (rc 64 λ_=> .int .u8 0)
 simp(disch:=omega)only[go_sem,c_algebra_keyOf,aF,u8_rc,g,P,m,f,z]
 refine aH (λr a g=> ∃(i:Nat),(∃j:Nat->V,a= [j 0,.ptr A 0,.ptr (A+1) 0,j 3,j 4,u,aB n,aB i,j 8])/\i<=n/\
   g.get (A+1)=some (.cells false (rc 64 λj=> .int .u8 ((if j<i then x.getD j 0 else 0:Nat):Int)))/\g.get A=some (.cells false (rc 64 λ_=> .int .u8 0))/\g.next=A+1+1/\Fr h g/\r=n-i) n
  ⟨0,aA rfl,fF _,G,by rw[J A om];exact L,U,O.trans B,rfl⟩ ?_
 rintro r a c ⟨i,⟨j,rfl⟩,hi,t,w,R,F,rfl⟩
 by_cases d:(i:Int)<(n:Int)
 ·have k:=bM d
  have a:i<n:=om
  have ci:c.cell id (off+i)=some (aB (x.getD i 0:Nat)):=by rw[F.cell (b om),p i a];congr 2;simp [zi,l,a]
  have r:x.getD i 0<n:=X.dZ a
  obtain⟨p,o⟩:=JR (x.getD i 0)
  rw[o] at ci r
  have a:=bF (vs:=rc 64 λj=> .int .u8 ((if j<i then x.getD j 0 else 0:Nat):Int)) (off:=i) (by rw[cK];omega) c (A+1) (.int .u8 (p:Int))
  rw[eJ] at a
  simp(disch:=omega)only[go_sem,k,q.ixa,ci,wrap_u8_in,t,a]
  rw[dY i]
  refine⟨n-(i+1),om,i+1,aA rfl,om,?_,?_,R,F.set om _,rfl⟩
  ·congr 2
   refine aY λj W=>?_
   by_cases e:j=i
   ·rw[aV e,aV om,e,o]
   ·rw[aZ e]
    by_cases f:j<i
    ·rw[aV f,aV om]
    ·rw[aZ f,aZ om]
  ·exact w
 have k:=bJ d
 obtain rfl:i=n:=om
 have s:=row_all (n:=64) (by rw[cK]) t
 have K:(rc 64 λj=>V.int .u8 ((if j<i then x.getD j 0 else 0:Nat):Int))=rc 64 λj=> .int .u8 ((x.getD j 0:Nat):Int):=by
  refine aY λj W=>?_
  by_cases e:j<i
  ·rw[aV e]
  ·rw[aZ e,zB,List.getElem?_eq_none om];rfl
 rw[K] at s
 have N:=putO_all (vs:=rc 64 λ_=> .int .u8 0) (ws:=rc 64 λj=> .int .u8 ((x.getD j 0:Nat):Int)) (n:=64) (by rw[cK]) (by rw[cK]) c A
 have Q:=qE c A 0 64 (rc 64 λj=> .int .u8 ((x.getD j 0:Nat):Int)) (by rw[cK]) (rc_one λ_=>rfl)
 simp(disch:=omega)only[go_sem,k,s,Q,w,N]
 have a:=row_all (h:=c.set A (some (.cells false (rc 64 λj=> .int .u8 ((x.getD j 0:Nat):Int))))) (n:=64) (by rw[cK]) (H.aT ..)
 simp(disch:=omega)only[go_sem,a]
 exact⟨rfl,F.set om _⟩
theorem quot_ok (u w:V)(n:Nat)(x y:List Nat)(h:H)(hn:n<=64)(X:bV n x)(Y:bV n y)(K:SI h u (zi x))(hw:SI h w (zi y)):
  Ev T 80 [u,w] h (λv h'=>v=kyV (bE (dM x) y)/\Fr h h'):=by
 refine bH c_algebra_quotient rfl rfl ?_
 have r:=X.len
 have L:=K.lens
 rw[aQ,r] at L
 obtain⟨id,off,O,f,G⟩:=K.open
 rw[aQ,r] at O f G
 have P:=Y.len
 obtain⟨z,g,l,c,m⟩:=hw.open
 rw[aQ,P] at l c m
 have Q:=X.inv.mul Y
 obtain⟨A,q⟩:=JR h.next
 obtain⟨B,e1,B,Z,o1,f1⟩:=dN q (rc 64 λ_=> .int .u8 0)
 obtain⟨h2,o,n2,g2,o2,f2⟩:=dN B (rc 64 λ_=> .int .u8 0)
 simp(disch:=omega)only[go_sem,c_algebra_quotient,aF,u8_rc,q,e1,B,o,L]
 refine aH (λJ a q=> ∃(i:Nat),(∃j:Nat->V,a= [j 0,w,.ptr A 0,.ptr (A+1) 0,j 4,j 5,u,aB n,aB i,j 9])/\i<=n/\
   q.get (A+1)=some (.cells false (rc 64 λj=> .int .u8 ((if x.idxOf j<i then (bE (dM x) y).getD j 0 else 0:Nat):Int)))/\q.get A=some (.cells false (rc 64 λ_=> .int .u8 0))/\q.next=A+1+1/\Fr h q/\J=n-i) n
  ⟨0,aA rfl,fF _,g2,by rw[o2 A om];exact Z,n2,f1.trans f2,rfl⟩ ?_
 rintro J a d ⟨i,⟨j,rfl⟩,hi,U,W,n3,F,rfl⟩
 by_cases k:(i:Int)<(n:Int)
 ·have t:=bM k
  have a:i<n:=om
  have ci:d.cell id (off+i)=some (aB (x.getD i 0:Nat)):=by rw[F.cell (f om),G i a];congr 2;simp [zi,r,a]
  have r:x.getD i 0<n:=X.dZ a
  obtain⟨p,s⟩:=JR (x.getD i 0)
  rw[s] at ci r
  have f:d.cell z (g+i)=some (aB (y.getD i 0:Nat)):=by rw[F.cell (c om),m i a];congr 2;simp [zi,P,a]
  have c:y.getD i 0<n:=Y.dZ a
  have ip:x.idxOf p=i:=by rw[←lU om,←s];exact mX X a
  have N:(bE (dM x) y).getD p 0=y.getD i 0:=by rw[dB (by rw[X.inv.len];exact r),←s,mX X a]
  obtain⟨q,a⟩:=JR (y.getD i 0)
  rw[a] at f c N
  have a:=bF (vs:=rc 64 λj=> .int .u8 ((if x.idxOf j<i then (bE (dM x) y).getD j 0 else 0:Nat):Int)) (off:=p) (by rw[cK];omega) d (A+1) (.int .u8 (q:Int))
  rw[eJ] at a
  simp(disch:=omega)only[go_sem,t,O.ixa,ci,l.ixa,f,wrap_u8_in,U,a]
  rw[dY i]
  refine⟨n-(i+1),om,i+1,aA rfl,om,?_,?_,n3,F.set om _,rfl⟩
  ·congr 2
   refine aY λj hj=>?_
   by_cases e:j=p
   ·rw[aV e,aV (by rw[e,ip];omega),e,N]
   ·rw[aZ e]
    have ne:x.idxOf j≠i:=λh=>e (by
     by_cases b:j<n
     ·rw[←s,←h,←lU om,FB X b]
     ·have:x.idxOf j=x.length:=List.idxOf_eq_length λa=>b (X.lt j a)
      omega)
    by_cases o:x.idxOf j<i
    ·rw[aV o,aV om]
    ·rw[aZ o,aZ om]
  ·exact W
 have t:=bJ k
 obtain rfl:i=n:=om
 have R:=row_all (n:=64) (by rw[cK]) U
 have ek:(rc 64 λj=>V.int .u8 ((if x.idxOf j<i then (bE (dM x) y).getD j 0 else 0:Nat):Int))=rc 64 λj=> .int .u8 (((bE (dM x) y).getD j 0:Nat):Int):=by
  refine aY λj hj=>?_
  by_cases e:x.idxOf j<i
  ·rw[aV e]
  ·have b: ¬j<i:=λb=>e (by rw[←lU om];exact X.inv.dZ b)
   rw[aZ e,zB,List.getElem?_eq_none (by rw[Q.len];omega)];rfl
 rw[ek] at R
 have pa:=putO_all (vs:=rc 64 λ_=> .int .u8 0) (ws:=rc 64 λj=> .int .u8 (((bE (dM x) y).getD j 0:Nat):Int)) (n:=64) (by rw[cK]) (by rw[cK]) d A
 have sa:=qE d A 0 64 (rc 64 λj=> .int .u8 (((bE (dM x) y).getD j 0:Nat):Int)) (by rw[cK]) (rc_one λ_=>rfl)
 simp(disch:=omega)only[go_sem,t,R,sa,W,pa]
 have a:=row_all (h:=d.set A (some (.cells false (rc 64 λj=> .int .u8 (((bE (dM x) y).getD j 0:Nat):Int))))) (n:=64) (by rw[cK]) (H.aT ..)
 simp(disch:=omega)only[go_sem,a]
 exact⟨rfl,F.set om _⟩
theorem sp_open {v:V}{L:LN}(s:SP h v L):dA v=some (aB (L.length:Int))/\dJ v v=true/\ ∃(id off:Nat) (ws:List V),Sl v 1 L.length id off/\ ∀i,i<L.length->id<h.next/\h.cell id (off+i)=some (ws.getD i V.undef)/\SI h (ws.getD i V.undef) (zi (L.getD i [])):=by
 have e:=s.lens;rw[iR] at e;obtain⟨id,off,ws,f,b,c,d,a⟩:=s.open;rw[iR] at f b c d;obtain⟨c,c,_⟩:=s;exact⟨e,SV.dJ c,id,off,ws,f,λi hi=>⟨b om,d i hi,sp_at a hi⟩⟩
theorem eqVs_map {α:Type}(f g:α->V): ∀l:List α,nJ (l.map f) (l.map g)=l.all λi=>dJ (f i) (g i)
 | []=>rfl
 |a::l=>by
  rw[List.map_cons,List.map_cons,List.all_cons,←eqVs_map f g l]
  rfl
theorem kyV_eq (f:n<=64)(a b:List Nat)(A:bV n a)(B:bV n b):dJ (kyV a) (kyV b)=decide (a=b):=by
 show nJ (rc 64 _) (rc 64 _)=_;unfold rc;rw[eqVs_map,xJ,zE,Co];constructor
 ·intro h
  refine List.ext_getElem (by rw[A.len,B.len]) λi c d=>?_
  have:=h i (Db.2 (by have:=A.len;omega));have e:((a.getD i 0:Nat):Int)=((b.getD i 0:Nat):Int):=by simpa [dJ] using this
  rw[Pm.bT c,Pm.bT d] at e;omega
 ·rintro rfl i _
  simp [dJ]
theorem kyV_key (e:n<=64)(a:List Nat)(A:bV n a):isKey (.arr 64 .u8) (kyV a)=true:=by
 unfold isKey kyV;simp only;rw[cK,bM rfl,Bool.true_and,zE];intro v d;obtain⟨i,hi,rfl⟩:=pU.1 d
 have:a.getD i 0<256:=by
  by_cases h:i<a.length
  ·have:=A.dZ (i:=i) (by rw[←A.len];exact h);omega
  ·rw[zB,List.getElem?_eq_none om];decide
 have c:IntKind.min .u8=0:=rfl;have b:IntKind.max .u8=255:=rfl;simp only[c,b,pF,Co];exact⟨trivial,om,om⟩
structure DatO (n:Nat)(G:List Nat->Prop)(L:LN)(K:List Nat)(hh:H)(D:Nat):Prop where
 ex: ∃vL vC M l ks,hh.get D=some (.cells false [vL,vC,.mp M])/\D<hh.next/\M<hh.next/\SP hh vL L/\SV hh vC 3 (list3 ks)/\All2 (KR n G L hh) ks K/\hh.get M=some (.wmap (.arr 64 .u8) (gJ kyV l))/\(∀p∈l,bV n p.1)/\ ∀i,i<L.length->Cr l (L.getD i [])=some (aB (numC G L K i:Nat))
theorem DatO.mono {G:List Nat->Prop}{L:LN}{K:List Nat}{h':H}{D:Nat}(d:DatO n G L K h D)(f:Fr h h'):DatO n G L K h' D:=by
 obtain⟨e,o,M,l,i,g,b,a,c,k,m,q,p,j⟩:=d.ex;exact⟨e,o,M,l,i,by rw[f.get _ b];exact g,iP b f.next,iP a f.next,c.mono f,k.mono f,m.mono λ_ _ k=>KR.mono k f,by rw[f.get _ a];exact q,p,j⟩
theorem class_ok (D:Nat)(u:V)(n:Nat)(G:List Nat->Prop)(L:LN)(K:List Nat)(x:List Nat)(h:H)(f:n<=64)(d:DatO n G L K h D)(X:bV n x)(m:x∈L)(i:SI h u (zi x)):
  Ev T 47 [.ptr D 0,u] h (λv h'=>v= aB (numC G L K (L.idxOf x):Nat)/\Fr h h'):=by
 refine bH c_algebra_data_class rfl rfl ?_
 obtain⟨e,r,M,l,c,g,p,k,c,c,c,t,s,o⟩:=d.ex
 have q:=i.dJ
 simp(disch:=omega)only[go_sem,c_algebra_data_class,aF,H.aG g]
 have a:=(Fr.refl h).bN (n:=h.next+8) om
 refine (keyOf_ok u n x _ f X (i.mono a)).mono ?_
 rintro _ b ⟨rfl,c⟩
 have F:=a.trans c
 have j:b.get D=some (.cells false [e,r,.mp M]):=by rw[F.get _ p];exact g
 have c:b.get M=some (.wmap (.arr 64 .u8) (gJ kyV l)):=by rw[F.get _ k];exact t
 have e:=List.idxOf_lt_length_of_mem m
 have a:L.getD (L.idxOf x) []=x:=by rw[zB,eV e];exact List.getElem_idxOf e
 have b:=o (L.idxOf x) e
 rw[a] at b
 have e:=λz=>oP (kyV_eq f) (λa A=>kyV_key f a A) (P:=bV n) s X z
 rw[b] at e
 simp(disch:=omega)only[go_sem,H.aG j,q,c,e]
 exact⟨by simp [dJ],rfl,F⟩
end
set_option maxHeartbeats 16000000
theorem load_bad (j:V)(d:Int)(O:List (List Int))(R:List (List (List Int)))(h:H)(g:ChI h j d O R)(n:d<=7∨64<d)(o:SmallO O)(sr:SmallR R)(k:chkE d O R≠0):
  Ev T 38 [j] h (λv h'=>v= .tup [.nilp,aB (chkE d O R)]/\Fr h h'):=by
 have e:=g
 obtain⟨f,c,rfl,r,s⟩:=g
 refine bH c_algebra_load rfl rfl ?_
 have a:f.one=true:=rL r
 have b:c.one=true:=qZ s
 obtain⟨B,l⟩:=JR h.next
 obtain⟨t,q,r,m,r,i⟩:=dN l [aB d,f,c]
 have p:=bD h (v:= aB d) (u:=f) (w:=c) rfl a b
 simp(disch:=omega)only[go_sem,c_algebra_load,aF,p,l,q,aS m]
 refine (clist_bad _ d O R t (e.mono i) n o sr k).mono ?_
 rintro _ a ⟨rfl,a⟩
 have b:=bM k
 simp(disch:=omega)only[go_sem,b]
 exact i.trans a
theorem bld_dat {v:V}(M:Nat)(a:v.cells= [v])(b:v.one=true):kY [.aD,.aD,.nilm] [(1,1,v),(2,1,.mp M)]=some (.agg [.aD,v,.mp M]):=by
 simp [kY,gI,putAt,a,b,show (V.mp M).cells= [V.mp M] from rfl,show (V.mp M).one=true from rfl]
theorem load_ok {W0:Nat->Prop}(vc:V)(n:Nat)(O:LN)(R:jL)(G:List Nat->Prop)(h:H)(z:GC W0 h vc n O R G)(L:LN)(hL:cF O R n 0 (cH n)=L):
  Ev T 38 [vc] h (λv h'=> ∃K,IsK n G L K/\Fr h h'/\(64<K.length/\v= .tup [.nilp,aB 5]∨K.length<=64/\ ∃D,v= .tup [.ptr D 0,aB 0]/\DatO n G L K h' D)):=by
 have p:=z
 obtain⟨vO,vR,rfl,sO,sR⟩:=z.ch
 refine bH c_algebra_load rfl rfl ?_
 have a6:vO.one=true:=rL sO
 have f:vR.one=true:=qZ sR
 have n7:=z.n7
 have hG:=z.grp
 obtain⟨E,ll⟩:=eE z.grp z.isc
 have b6:=szF_fact z
 rw[hL] at E ll
 obtain⟨B,hB⟩:=JR h.next
 obtain⟨t,e1,n1,g1,o1,f1⟩:=dN hB [aB n,vO,vR]
 have bx:=bD h (v:= aB n) (u:=vO) (w:=vR) rfl a6 f
 have rB: ∀y,Fr t y->y.row B 0 3=some [aB n,vO,vR]:=λy f=>aS (by rw[f.get B om];exact g1)
 simp(disch:=omega)only[go_sem,c_algebra_load,aF,bx,hB,e1,rB t (Fr.refl _)]
 refine (clist_ok _ n O R G t (p.mono f1) L hL).mono ?_
 rintro _ a ⟨m,K,ks,rfl,ik,s4,a4,f2⟩
 have f:=All2.length a4
 have B:K.length<=5040:=by
  rw[ik.perm.length_eq];unfold repsC;exact jK (List.length_filter_le _ _) (by rw[zU];omega)
 have a2:dA m=some (aB (K.length:Int)):=by unfold dA;rw[SV.len s4 (n:=ks.length) (list3_len ks) om,f];rfl
 have w4:=s4.dG
 simp(disch:=omega)only[go_sem]
 refine bB (λJ=>(J rfl).elim) (λ_=>?_)
 by_cases f:(64:Int)<(K.length:Int)
 ·have d1:=bM f
  simp(disch:=omega)only[go_sem,a2,d1]
  exact⟨K,ik,f1.trans f2,.inl ⟨om,trivial⟩⟩
 have d1:=bJ f
 obtain⟨M,hM⟩:=JR a.next
 obtain⟨f,e3⟩:=JR (a.new (.wmap (.arr 64 .u8) []))
 have n3:f.next=M+1:=by rw[←e3,H.aX,hM]
 have g3:f.get M=some (.wmap (.arr 64 .u8) []):=by rw[←e3,←hM];exact H.aN a _
 have B: ∀k,k≠M->f.get k=a.get k:=λk hk=>by rw[←e3];exact H.bL a om _
 obtain⟨P,e4,n4,g4,o4,f4⟩:=dN n3 [.aD,m,.mp M]
 have a1:Fr a P:=⟨om,λq hq=>by rw[o4 q om,B q om]⟩
 have s:=f2.trans a1
 have ba:=rO f [.aD,m,.mp M] (by simp [w4.2.1,show V.aD.one=true from rfl,show (V.mp M).one=true from rfl])
 simp(disch:=omega)only[go_sem,a2,d1,hM,e3,bld_dat M w4.1 w4.2.1,ba,n3,e4,rB P s]
 refine (list_ok _ n O R G P (p.mono (f1.trans s))).mono ?_
 rw[hL]
 rintro _ h5 ⟨b,rfl,f⟩
 have pl:=f.pl
 have f5:=f.fr
 have wL:b.cells= [b]/\b.one=true:=by obtain⟨ws,s,_⟩:=pl;exact⟨s.dG.1,s.dG.2.1⟩
 have f:=f5.next
 have g5:h5.get (M+1)=bW [.aD,m,.mp M]:=by rw[f5.get _ om];exact g4
 obtain⟨h6,f,s,g6,o6⟩:=mS h5 (M+1) [b,m,.mp M]
 have p6:dQ (bW [.aD,m,.mp M]) h5 (M+1) 0 [b]=some h6:=by rw[bF (by simp),←f];rfl
 have a8:Fr a h6:=⟨om,λq hq=>by rw[o6 q om,f5.get q om];exact a1.get q hq⟩
 have f:=f2.trans a8
 simp(disch:=omega)only[go_sem,g5,fU wL.1 wL.2,p6,rB h6 f]
 refine (map_ok _ n O R G h6 (p.mono (f1.trans f)) L hL).mono ?_
 rintro _ h7 ⟨v7,f,rfl,b5,s7,Z⟩
 obtain rfl:=ik.uniq b5
 have f:=Z.next
 have b3:=a8.trans Z
 have g7:h7.get (M+1)=bW [b,m,.mp M]:=by rw[Z.get _ om];exact g6
 have a7:h7.get M=some (.wmap (.arr 64 .u8) []):=by rw[Z.get _ om,o6 _ om,f5.get _ om,o4 _ om];exact g3
 have a0:PL (λid=>id<P.next) h7 b L:=by
  refine PL.go pl ⟨om,λid t a=>?_⟩ (λid t a=>a);rw[Z.get _ om,o6 _ om]
 have p:=a0.sp
 obtain⟨f,s,b2,b0,ws,Q,cL⟩:=sp_open p
 have p:(zi (numsL G L K)).length=L.length:=by rw[aQ];simp [numsL]
 obtain⟨a5,r,a3,c,U⟩:=s7.open
 rw[p] at a3 c U
 have b4:=s7.dJ
 simp(disch:=omega)only[go_sem,H.aG g7,f]
 have nM: ∀{id f:Nat} {v:V},h7.cell id f=some v->id≠M:=λJ e=>by
  rw[e] at J;unfold H.cell at J;rw[a7] at J;cases J
 refine aH (λk' o y=> ∃(i:Nat) (l:List (List Nat×V)),(∃g:Nat->V,o= [g 0,g 1,g 2,g 3,g 4,g 5,.ptr (M+1) 0,v7,g 8,g 9,g 10,g 11,b,aB (L.length:Int),aB i,g 15])/\i<=L.length/\y.get M=some (.wmap (.arr 64 .u8) (gJ kyV l))/\(∀p∈l,bV n p.1)/\(∀j,j<i->Cr l (L.getD j [])=some (aB (numC G L K j:Nat)))/\Fx (· =M) h7 y/\k'=L.length-i) L.length
  ⟨0, [],aA rfl,fF _,a7,λ_ h=>(by cases h),λj hj=>om,Fx.refl _ _,rfl⟩ ?_
 rintro k' o N ⟨i,l,⟨g,rfl⟩,hi,gM,kl,lk,F,rfl⟩
 have f:=F.next
 have A:Fr a N:=⟨om,λq hq=>by rw[F.get q om (by show q≠M;omega)];exact b3.get q hq⟩
 have a9:PL (λid=>id<P.next) N b L:=PL.go a0 ⟨f,λid t a=>F.get id t (λe=>a (by rw[e];show M<P.next;omega))⟩ (λid t a=>a)
 have g8:N.get (M+1)=bW [b,m,.mp M]:=by rw[F.get _ om (by show M+1≠M;omega)];exact g7
 by_cases Y:(i:Int)<(L.length:Int)
 case neg=>
  have d3:=bJ Y;obtain rfl:i=L.length:=om
  simp(disch:=omega)only[go_sem,d3];refine⟨K,ik,(f1.trans f2).trans ⟨om,λq hq=>A.get q om⟩|>.trans (Fr.refl _),.inr ⟨om,M+1,rfl,?_⟩⟩;exact⟨b,m,M,l,ks,g8,om,om,a9.sp,s4.mono A,a4.mono λ_ _ k=>KR.mono k A,gM,kl,lk⟩
 have d3:=bM Y
 have d:i<L.length:=om
 obtain⟨_,_,b2,b0,ws,Q,cL⟩:=sp_open a9.sp
 obtain⟨a,c1,s1⟩:=cL i d
 generalize ws.getD i V.undef=f at c1 s1
 have X:=el_isP hG E d
 obtain⟨x,hx⟩:=JR (L.getD i [])
 rw[hx] at s1 X
 have a:=U i d
 rw[show (zi (numsL G L K)).getD i 0=((numC G L K i:Nat):Int) from by simp [numsL,zi,d]] at a
 have cN:N.cell a5 (r+i)=some (aB (numC G L K i:Nat)):=by rw[F.cell (c om) (nM a)];exact a
 have ex:=s1.dJ
 simp(disch:=omega)only[go_sem,d3,Q.ixa,c1,H.aG g8,a3.ixa,cN]
 have fb:=(Fr.refl N).bN (n:=N.next+11) om
 refine (keyOf_ok f n x _ om X (s1.mono fb)).mono ?_
 rintro _ h9 ⟨rfl,a⟩
 have F9:=fb.trans a
 have g:h9.get (M+1)=bW [b,m,.mp M]:=by rw[F9.get _ om];exact g8
 have b:h9.get M=some (.wmap (.arr 64 .u8) (gJ kyV l)):=by rw[F9.get _ om];exact gM
 have f:h9.cell a5 (r+i)=some (aB (numC G L K i:Nat)):=by rw[F9.cell (by have:=c om;omega)];exact cN
 have c:=λy=>Xi (kyV_eq (n:=n) om) (λa A=>kyV_key (n:=n) om a A) kl X (aB (numC G L K i:Nat)) y M
 simp(disch:=omega)only[go_sem,H.aG g,f,b4,b,c]
 rw[dY i]
 refine⟨by simp [dJ],L.length-(i+1),om,i+1,_,aA rfl,om,rfl,xC X kl,λj hj=>?_,(F.trans (Fx.of (W:=(· =M)) F9) λ_ _ h=>h).trans (Fx.set h9 (W:=(· =M)) rfl _) (λ_ _ h=>h),rfl⟩
 rw[zO]
 by_cases e:L.getD j []=x
 ·rw[aV e,nd_inj E.nodup om d (e.trans hx.symm)]
 ·rw[aZ e]
  refine lk j ?_
  rcases Nat.lt_or_ge j i with h|h
  ·exact h
  ·exact absurd (by rw[show j=i by omega];exact hx) e
set_option maxRecDepth 100000
set_option maxRecDepth 100000
theorem ordP_420 {n:Nat}{a:List Nat}(A:bV n a)(e:n<=7):iH a n∣420:=by
 unfold iH;rw[pY];intro c b;obtain⟨l,d,rfl⟩:=pU.1 b;obtain⟨i,hi,rfl⟩:=pU.1 d;have b:i<n:=by unfold Dd at hi;exact Db.1 (Vz.1 hi).1
 rw[qF];have c:=(jX A b).1;have d:=Fy A b;have: ∀k,k<8->0<k->k∣420:=by decide
 exact this _ om c
set_option maxRecDepth 100000
theorem pw_sq {n:Nat}{a:List Nat}(A:bV n a): ∀k,pw n (bE a a) k=pw n a (2*k)
 |0=>rfl
 |k+1=>by
  show bE (pw n (bE a a) k) (bE a a)=pw n a (2*k+2);rw[pw_sq A k,←bP (jQ A _) A A];rfl
theorem pw_one' {n:Nat}{a:List Nat}(A:bV n a):pw n a 1=a:=fO A
theorem el_first {n:Nat}{G:List Nat->Prop}{L:LN}(d:mH n G)(E:eP G L):0<L.length/\L.getD 0 []=cH n:=by
 have c:=(E.mem _).2 d.one;have a:=Xn c;refine⟨a,?_⟩;obtain⟨i,hi,e⟩:=uK.1 c;have b:L.getD 0 []=L[0]:=by rw[List.getD,eV a];rfl
 by_cases h:i=0
 ·subst h;rw[b,e]
 ·have c:=Ta.1 E.asc 0 i a hi om
  rw[e] at c;have X:=el_isP d E a;rw[b] at X;rcases one_le X with a|a
  ·rw[b,←a]
  ·exact (c.asymm a).elim
section
variable {n:Nat} {G:List Nat->Prop} {L:LN} (hG:mH n G) (E:eP G L)
end
set_option maxRecDepth 100000
set_option maxRecDepth 100000
structure Plc (l:LN)(x:List Nat)(k:Nat):Prop where
 le:k<=l.length
 lo: ∀i,i<k->lessB (l.getD i []) x=true
 hi: ∀i,k<=i->i<l.length->lessB (l.getD i []) x=false
theorem place_ok (A y:V)(n:Nat)(l:LN)(x:List Nat)(h:H)(hn:n<1000)(hl:l.length<1000000)(hP: ∀g∈l,bV n g)(X:bV n x)(Z:l.Pairwise Lt)(hv:SP h A l)(hx:SI h y (zi x)):
  Ev T 54 [A,y] h (λv h'=> ∃k:Nat,v= .tup [aB k,.bool (decide (x∈l))]/\Plc l x k/\(x∈l->k<l.length/\l.getD k []=x)/\Fr h h'):=by
 obtain⟨O,sv,U⟩:=hv
 have W:=All2.length U
 rw[iR] at W
 refine bH c_kit_place rfl rfl ?_
 have Y:dA A=some (aB (l.length:Int)):=by unfold dA;rw[SV.len sv (n:=l.length) om om];rfl
 obtain⟨id,f,sh,Q,hc⟩:=SV.shape sv l.length om om
 have a: ∀i,i<l.length->(l.getD i []).length=n:=λi hi=>(hP _ (getD_mem hi)).len
 have mono: ∀i j,i<j->j<l.length->Lt (l.getD i []) (l.getD j []):=λi j t b=>by
  have ei:l.getD i []=l[i]:=by rw[List.getD,eV om];rfl
  have ej:l.getD j []=l[j]:=by rw[List.getD,eV b];rfl
  rw[ei,ej];exact Ta.1 Z i j om b t
 have cell: ∀o,Fr h o-> ∀i,i<l.length->o.cell id (f+i)=some (O.getD i .undef):=λo f i hi=>by
  rw[f.cell (Q om),hc i om];simp [List.getD,show i<O.length by omega]
 simp(disch:=omega)only[go_sem,c_kit_place,aF,Y]
 refine bX (λf o=> ∃k,(∃g:Nat->V,f= [A,y,g 2,g 3,aB (k:Nat),g 5,g 6,g 7,g 8])/\Plc l x k/\Fr h o) ?_ ?_
 ·refine aH (λk' d o=> ∃(i j:Nat),(∃g:Nat->V,d= [A,y,g 2,g 3,aB i,aB j,g 6,g 7,g 8])/\i<=j/\j<=l.length/\(∀q,q<i->lessB (l.getD q []) x=true)/\(∀q,j<=q->q<l.length->lessB (l.getD q []) x=false)/\Fr h o/\k'=j-i) l.length
   ⟨0,l.length,aA rfl,om,om,λm hm=>om,λm t b=>om,Fr.refl h,rfl⟩ ?_
  rintro k' d o ⟨i,j,⟨g,rfl⟩,f,hj,G,z,F,rfl⟩
  by_cases K:(i:Int)<(j:Int)
  case neg=>
   have r:=bJ K;obtain rfl:i=j:=om
   simp(disch:=omega)only[go_sem,r];exact⟨i,aA rfl,⟨hj,G,z⟩,F⟩
  have r:=bM K
  obtain⟨m,hm⟩:=JR ((i+j)/2)
  have ea:(i:Int)+(j:Int)=((i+j:Nat):Int):=om
  have J:((i+j:Nat):Int).tdiv 2=(m:Int):=by rw[Int.tdiv_eq_ediv_of_nonneg om];omega
  have B:=cell o F m om
  have sm:=sp_at U (i:=m) om
  generalize O.getD m .undef=P at B sm
  simp(disch:=omega)only[go_sem,r,ea,J,sh.ixa,B]
  refine (less_ok P y n _ x o om (a m om) X.len (sm.mono F) (hx.mono F)).mono ?_
  rintro _ s ⟨rfl,L⟩
  cases hl2:lessB (l.getD m []) x with
  |true=>
   simp(disch:=omega)only[go_sem];rw[dY m];refine⟨j-(m+1),om,m+1,j,aA rfl,om,hj,λq R=>?_,z,F.trans L,rfl⟩
   by_cases e:q=m
   ·rw[e];exact hl2
   ·have t:=mono q m om om
    have b:=(lessB_iff (by rw[a m om,X.len])).1 hl2;exact (lessB_iff (by rw[a q om,X.len])).2 (Lt.trans (by rw[a q om,a m om]) t b)
  |false=>
   simp(disch:=omega)only[go_sem];refine⟨m-i,om,i,m,aA rfl,om,om,G,λq t b=>?_,F.trans L,rfl⟩
   by_cases e:q=m
   ·rw[e];exact hl2
   ·rw[←Bool.not_eq_true]
    intro s;have p:=mono m q om b;have w:=(lessB_iff (by rw[a q b,X.len])).1 s;rw[(lessB_iff (by rw[a m om,X.len])).2 (Lt.trans (by rw[a q b,a m om]) p w)] at hl2;cases hl2
 rintro d b ⟨k,⟨g,rfl⟩,N,F⟩
 have c:x∈l->k<l.length/\l.getD k []=x:=λd=>by
  obtain⟨q,R,eq⟩:=uK.1 d;have u:l.getD q []=x:=by rw[List.getD,eV R,←eq];rfl
  have t:k<=q:=Nat.le_of_not_lt λs=>by
   have:=N.lo q s;rw[u,lessB_self] at this;cases this
  have b:k=q:=Nat.le_antisymm t (Nat.le_of_not_lt λs=>by
   have p:=mono k q s R;rw[u] at p;have w:=N.hi k (eS _) om;rw[(lessB_iff (by rw[a k om,X.len])).2 p] at w
   cases w)
  exact⟨om,by rw[b];exact u⟩
 by_cases hk:(k:Int)<(l.length:Int)
 ·have r:=bM hk
  have B:=cell b F k om
  have sm:=sp_at U (i:=k) om
  generalize O.getD k .undef=P at B sm
  simp(disch:=omega)only[go_sem,Y,r,sh.ixa,B]
  refine (same_ok P y _ _ b (sm.mono F) (hx.mono F) (by rw[aQ,a k om];omega) (by rw[aQ,X.len];omega)).mono ?_
  rintro _ s ⟨rfl,L⟩
  have J:decide (zi (l.getD k [])=zi x)=decide (x∈l):=by
   rw[decide_eq_decide];constructor
   ·intro p
    have w:l.getD k []=x:=List.map_inj_right (λu v b=>om)|>.1 p;rw[←w];exact getD_mem om
   ·intro p;rw[(c p).2]
  simp(disch:=omega)only[go_sem,J]
  exact⟨k,rfl,N,c,F.trans L⟩
 ·have r:=bJ hk
  have J:decide (x∈l)=false:=bJ λp=>by have:=(c p).1;omega
  simp(disch:=omega)only[go_sem,Y,r]
  exact⟨k,by rw[J],N,c,F⟩
theorem index_ok (b e:V)(n:Nat)(l:LN)(x:List Nat)(h:H)(m:n<1000)(i:l.length<1000000)(j: ∀g∈l,bV n g)(X:bV n x)(d:l.Pairwise Lt)(p:SP h b l)(o:SI h e (zi x)):
  Ev T 109 [b,e] h (λv h'=>((∃k:Nat,v= aB k/\k<l.length/\l.getD k []=x)∨x∉l/\v= aB (-1))/\Fr h h'):=by
 refine bH c_kit_Index rfl rfl ?_
 simp(disch:=omega)only[go_sem,c_kit_Index,aF]
 refine (place_ok b e n l x h m i j X d p o).mono ?_
 rintro _ q ⟨k,rfl,q,f,F⟩
 by_cases a:x∈l
 ·have c:=bM a
  simp(disch:=omega)only[go_sem,c]
  exact⟨.inl ⟨k,rfl,f a⟩,F⟩
 ·have c:=bJ a
  simp(disch:=omega)only[go_sem,c]
  exact⟨.inr ⟨a,trivial⟩,F⟩
theorem sameRows_gen {g:Nat}(J:T g=some c_kit_SameLists_int)(u w:V)(a b:List (List Int))(h:H)(hu:SR h u a)(hw:SR h w b)(la:a.length<1000000)(lb:b.length<1000000)(ra: ∀x∈a,x.length<1000000)(rb: ∀x∈b,x.length<1000000):
  Ev T g [u,w] h (λv h'=>v= .bool (decide (a=b))/\Fr h h'):=by
 refine yN J rfl ?_
 have y:=hu.lens
 have lw:=hw.lens
 obtain⟨L,sa,aa⟩:=hu
 obtain⟨Y,W,ab⟩:=hw
 have R:=All2.length aa
 have R:=All2.length ab
 obtain⟨id,l,sh,m,hc⟩:=SV.shape sa a.length om om
 obtain⟨n,k,U,d,B⟩:=SV.shape W b.length om om
 by_cases W:(a.length:Int)=(b.length:Int)
 case neg=>
  have R:=bM W;simp(disch:=omega)only[go_sem,c_kit_SameLists_int,aF,y,lw,R];exact⟨by rw[bJ];intro e;exact W (by rw[e]),Fr.refl h⟩
 have O:a.length=b.length:=om
 have R:decide ((a.length:Int)≠(b.length:Int))=false:=bJ (by simpa using W)
 simp(disch:=omega)only[go_sem,c_kit_SameLists_int,aF,y,lw,R]
 refine aH (λk' f c=> ∃(i:Nat),(∃g:Nat->V,f= [u,w,g 2,aB i,g 4,g 5,g 6])/\i<=a.length/\(∀j,j<i->a.getD j []=b.getD j [])/\Fr h c/\k'=a.length-i) a.length
  ⟨0,aA rfl,fF _,λj hj=>om,Fr.refl h,rfl⟩ ?_
 rintro k' f c ⟨i,⟨g,rfl⟩,hi,hs,F,rfl⟩
 by_cases s:(i:Int)<(a.length:Int)
 case neg=>
  have Q:=bJ s;obtain rfl:i=a.length:=om
  simp(disch:=omega)only[go_sem,y,Q]
  have:a=b:=by
   refine List.ext_getElem O λj f O=>?_
   have:=hs j f;rwa [List.getD,eV f,List.getD,eV O] at this
  exact⟨by rw[bM this],F⟩
 have Q:=bM s
 have K:c.cell id (l+i)=some (L.getD i .undef):=by
  rw[F.cell (m om),hc i om];simp [List.getD,show i<L.length by omega]
 have P:c.cell n (k+i)=some (Y.getD i .undef):=by
  rw[F.cell (d om),B i om];simp [List.getD,show i<Y.length by omega]
 have A:=Ge aa (i:=i) om
 have G:=Ge ab (i:=i) om
 generalize L.getD i .undef=Z at K A
 generalize Y.getD i .undef=vb at P G
 have p:=A.dJ
 have r:=G.dJ
 simp(disch:=omega)only[go_sem,y,Q,sh.ixa,K,U.ixa,P]
 refine (same_ok Z vb _ _ _ (A.mono (F.trans ((Fr.refl c).bN om))) (G.mono (F.trans ((Fr.refl c).bN om))) (ra _ (getD_mem om)) (rb _ (getD_mem om))).mono ?_
 rintro _ t ⟨rfl,f⟩
 have F3:=F.trans (((Fr.refl c).bN om).trans f)
 have q:t.cell id (l+i)=some Z:=by
  have l:Fr c t:=((Fr.refl c).bN om).trans f;rw[l.cell (by have:=m om;have:=F.next;omega)];exact K
 have o:t.cell n (k+i)=some vb:=by
  have l:Fr c t:=((Fr.refl c).bN om).trans f;rw[l.cell (by have:=d om;have:=F.next;omega)];exact P
 by_cases z:a.getD i []=b.getD i []
 ·have N:=bM z
  simp(disch:=omega)only[go_sem,N,q,o,p,r]
  rw[dY i]
  refine⟨a.length-(i+1),om,i+1,aA rfl,om,λj hj=>?_,F3,rfl⟩
  by_cases e:j=i
  ·rw[e];exact z
  ·exact hs j om
 ·have N:=bJ z
  simp(disch:=omega)only[go_sem,N,q,o,p,r]
  exact⟨by rw[bJ];intro e;exact z (by rw[e]),F3⟩
theorem sameLists_ok (u w:V)(a b:List (List Int))(h:H)(f:SR h u a)(g:SR h w b)(d:a.length<1000000)(lb:b.length<1000000)(c: ∀x∈a,x.length<1000000)(e: ∀x∈b,x.length<1000000):
  Ev T 32 [u,w] h (λv h'=>v= .bool (decide (a=b))/\Fr h h'):=sameRows_gen (rfl:T 32=some c_kit_SameLists_int) u w a b h f g d lb c e
theorem samePerms_ok (u w:V)(a b:List (List Int))(h:H)(f:SR h u a)(g:SR h w b)(d:a.length<1000000)(lb:b.length<1000000)(c: ∀x∈a,x.length<1000000)(e: ∀x∈b,x.length<1000000):
  Ev T 167 [u,w] h (λv h'=>v= .bool (decide (a=b))/\Fr h h'):=sameRows_gen (rfl:T 167=some c_kit_SamePerms) u w a b h f g d lb c e
theorem sameChain_ok (v1 v2:V)(B P:Int)(O1 O2:List (List Int))(b d:List (List (List Int)))(h:H)(c1:ChI h v1 B O1 b)(c2:ChI h v2 P O2 d)(b7:SmallO O1)(a8:SmallO O2)(O:SmallRR b)(L:SmallRR d):
  Ev T 126 [v1,v2] h (λv h'=>v= .bool (decide (B=P/\O1=O2/\b=d))/\Fr h h'):=by
 obtain⟨W,G,e,sO,sR⟩:=c1
 subst e
 obtain⟨uO,N,e,tO,tR⟩:=c2
 subst e
 refine bH c_kit_SameChain rfl rfl ?_
 have b5:W.one=true:=rL sO
 have b9:G.one=true:=qZ sR
 have R:uO.one=true:=by obtain⟨_,t,_⟩:=tO;exact t.dG.2.1
 have l:N.one=true:=by obtain⟨_,t,_⟩:=tR;exact t.dG.2.1
 have a6:dJ G G=true:=by obtain⟨_,t,_⟩:=sR;exact t.dJ
 have J:dJ N N=true:=by obtain⟨_,t,_⟩:=tR;exact t.dJ
 obtain⟨A,hA⟩:=JR h.next
 obtain⟨h1,Z,n1,g1,o1,f1⟩:=dN hA [aB B,W,G]
 obtain⟨c,e2,n2,g2,o2,f2⟩:=dN n1 [aB P,uO,N]
 have bx:=λa:H=>bD a (v:= aB B) (u:=W) (w:=G) rfl b5 b9
 have b3:=λa:H=>bD a (v:= aB P) (u:=uO) (w:=N) rfl R l
 have F2:=f1.trans f2
 have gA:c.get A=bW [aB B,W,G]:=by rw[o2 _ om];exact g1
 have a0: ∀a,Fr c a->a.cell A 0=some (aB B):=λa f=>by rw[f.cell om,H.aG gA];rfl
 have a1: ∀a,Fr c a->a.cell A 1=some W:=λa f=>by rw[f.cell om,H.aG gA];rfl
 have a2: ∀a,Fr c a->a.cell A 2=some G:=λa f=>by rw[f.cell om,H.aG gA];rfl
 have b0: ∀a,Fr c a->a.cell (A+1) 0=some (aB P):=λa f=>by rw[f.cell om,H.aG g2];rfl
 have b1: ∀a,Fr c a->a.cell (A+1) 1=some uO:=λa f=>by rw[f.cell om,H.aG g2];rfl
 have b2: ∀a,Fr c a->a.cell (A+1) 2=some N:=λa f=>by rw[f.cell om,H.aG g2];rfl
 have l:=Fr.refl c
 by_cases hd:B=P
 case neg=>
  have R:=bM hd;simp(disch:=omega)only[go_sem,c_kit_SameChain,aF,bx,b3,hA,Z,n1,e2,a0 c l,b0 c l,R,fG];exact⟨by rw[bJ];exact λx=>hd x.1,F2⟩
 have R:decide (B≠P)=false:=bJ (by simpa using hd)
 simp(disch:=omega)only[go_sem,c_kit_SameChain,aF,bx,b3,hA,Z,n1,e2,a0 c l,b0 c l,a1 c l,b1 c l,R]
 have mem: ∀{l:List (List Int)},(∀i,i<l.length->(l.getD i []).length<1000000)-> ∀x∈l,x.length<1000000:=λhl x r=>by
  obtain⟨i,hi,rfl⟩:=uK.1 r;have:=hl i hi;rwa [List.getD,eV hi] at this
 refine (sameLists_ok W uO O1 O2 c (sO.mono F2) (tO.mono F2) b7.1 a8.1 (mem b7.2) (mem a8.2)).mono ?_
 rintro _ Y ⟨rfl,f3⟩
 obtain⟨wR,a5,aR,_⟩:=sR
 obtain⟨zR,K,a3,_⟩:=tR
 have l:=O.1
 have l:=L.1
 have l:=All2.length aR
 have l:=All2.length a3
 have s:dA G=some (aB (b.length:Int)):=by unfold dA;rw[SV.len a5 (n:=b.length) om om];rfl
 have b6:dA N=some (aB (d.length:Int)):=by unfold dA;rw[SV.len K (n:=d.length) om om];rfl
 have F3:=F2.trans f3
 by_cases hO:O1=O2
 case neg=>
  have l:=bJ hO;simp(disch:=omega)only[go_sem,l,fG];exact⟨by rw[bJ];exact λx=>hO x.2.1,F3⟩
 have l:=bM hO
 by_cases hl:(b.length:Int)=(d.length:Int)
 case neg=>
  have G:=bM hl;simp(disch:=omega)only[go_sem,l,a2 Y f3,b2 Y f3,s,b6,G];exact⟨by rw[bJ];exact λx=>hl (by rw[x.2.2]),F3⟩
 have G:decide ((b.length:Int)≠(d.length:Int))=false:=bJ (by simpa using hl)
 have c6:b.length=d.length:=om
 obtain⟨id,c5,sh,c0,hc⟩:=SV.shape a5 b.length om om
 obtain⟨c3,b8,c7,b4,c4⟩:=SV.shape K d.length om om
 simp(disch:=omega)only[go_sem,l,a2 Y f3,b2 Y f3,s,b6,G]
 refine aH (λk' z a=> ∃(i:Nat),(∃g:Nat->V,z= [g 0,g 1,.ptr A 0,.ptr (A+1) 0,g 4,aB i,g 6,g 7,g 8])/\i<=b.length/\(∀j,j<i->b.getD j []=d.getD j [])/\Fr Y a/\k'=b.length-i) b.length
  ⟨0,aA rfl,fF _,λj hj=>om,Fr.refl Y,rfl⟩ ?_
 rintro k' z a ⟨i,⟨g,rfl⟩,hi,hs,F,rfl⟩
 have q:=f3.trans F
 by_cases a9:(i:Int)<(b.length:Int)
 case neg=>
  have Z:=bJ a9;obtain rfl:i=b.length:=om
  simp(disch:=omega)only[go_sem,a2 a q,s,Z]
  have:b=d:=by
   refine List.ext_getElem c6 λj h1 c=>?_
   have:=hs j h1;rwa [List.getD,eV h1,List.getD,eV c] at this
  exact⟨by rw[bM ⟨hd,hO,this⟩],F3.trans F⟩
 have Z:=bM a9
 have Q:i<b.length:=om
 have m: ∀r,Fr h r->r.cell id (c5+i)=some (wR.getD i .undef):=λr f=>by
  rw[f.cell (c0 om),hc i om];simp [List.getD,show i<wR.length by omega]
 have o: ∀r,Fr h r->r.cell c3 (b8+i)=some (zR.getD i .undef):=λr f=>by
  rw[f.cell (b4 om),c4 i om];simp [List.getD,show i<zR.length by omega]
 have f: ∀{c:List V} {R:List (List (List Int))},All2 (SR h) c R->i<R.length->SR h (c.getD i .undef) (R.getD i []):=λ{c R} g c=>by
  have h1:=All2.length g;have:=All2.get g i om c;rw[List.getD,List.getD,eV om,eV c];exact this
 have s1:=f aR Q
 have s2:=f a3 om
 generalize wR.getD i .undef=va at m s1
 generalize zR.getD i .undef=c at o s2
 have a4:dJ va va=true:=by obtain⟨_,t,_⟩:=s1;exact t.dJ
 have a7:dJ c c=true:=by obtain⟨_,t,_⟩:=s2;exact t.dJ
 have Fh:=F3.trans F
 simp(disch:=omega)only[go_sem,a2 a q,b2 a q,s,Z,sh.ixa,c7.ixa,m a Fh,o a Fh]
 refine (samePerms_ok va c _ _ _ (s1.mono (Fh.trans ((Fr.refl a).bN om))) (s2.mono (Fh.trans ((Fr.refl a).bN om))) (O.2 i Q).1 (L.2 i om).1 (mem (O.2 i Q).2) (mem (L.2 i om).2)).mono ?_
 rintro _ y ⟨rfl,c⟩
 have f4:Fr a y:=((Fr.refl a).bN om).trans c
 have p:=q.trans f4
 have k:=Fh.trans f4
 by_cases he:b.getD i []=d.getD i []
 ·have U:decide (b.getD i []=d.getD i [])=true:=bM he
  simp(disch:=omega)only[go_sem,U,a2 y p,b2 y p,m y k,o y k,a4,a7,a6,J]
  rw[dY i]
  refine⟨b.length-(i+1),om,i+1,aA rfl,om,λj hj=>?_,F.trans f4,rfl⟩
  by_cases e:j=i
  ·rw[e];exact he
  ·exact hs j om
 ·have U:decide (b.getD i []=d.getD i [])=false:=bJ he
  simp(disch:=omega)only[go_sem,U,a2 y p,b2 y p,m y k,o y k,a4,a7,a6,J]
  exact⟨by rw[bJ];exact λx=>he (by rw[x.2.2]),k⟩
set_option maxRecDepth 100000
theorem kstrong_ok {W:Nat->Prop}(vc:V)(n:Nat)(O:LN)(R:jL)(G:List Nat->Prop)(h:H)(d:GC W h vc n O R G):
  Ev T 122 [vc] h (λv h'=>SP h' v R.flatten/\Fr h h'):=by
 obtain⟨x,l,e,sO,sR⟩:=d.ch
 subst e
 refine bH c_kit_Strong rfl rfl ?_
 have p:x.one=true:=rL sO
 have s:l.one=true:=qZ sR
 obtain⟨t,f,aR,_⟩:=sR
 have n7:=d.n7
 have lR:=d.isc.lr
 have lw:=All2.length aR
 rw[iR,lR] at lw
 obtain⟨A,Q⟩:=JR h.next
 obtain⟨r,e1,n1,g1,o1,z⟩:=dN Q [aB n,x,l]
 have bx:=bD h (v:= aB n) (u:=x) (w:=l) rfl p s
 have k:dA l=some (aB n):=by unfold dA;rw[SV.len f (n:=n) om om];rfl
 obtain⟨id,o,sh,B,hc⟩:=SV.shape f n om om
 have a2: ∀b,Fr r b->b.cell A 2=some l:=λb f=>by rw[f.cell om,H.aG g1];rfl
 have Z: ∀i,i<n->(R.getD i []).length<=n/\0<(R.getD i []).length:=λi hi=>by
  refine⟨?_,(first_one d.grp d.isc hi).1⟩;rw[d.isc.rl i hi];have:=orb_len (λx f=>d.grp.isP f) hi (d.isc.asc i hi) (d.isc.mem i hi);omega
 have fl: ∀i,i<=n->((R.take i).flatten).length<=i*n:=λi hi=>by
  induction i with
  |zero=>simp
  |succ i ih=>
   have r:=(Z i om).1;rw[take_getD [] om,List.flatten_append,iZ,Nat.succ_mul];have:=ih om;simp only[List.flatten_cons,List.flatten_nil,qA];omega
 simp(disch:=omega)only[go_sem,c_kit_Strong,aF,bx,Q,e1]
 refine aH (λY c b=> ∃(i:Nat) (L:V) (a:List V),(∃g:Nat->V,c= [g 0,.ptr A 0,g 2,L,aB i,g 5])/\i<=n/\Own b L 1 a r.next/\All2 (SI h) a (((R.take i).flatten).map zi)/\Fr r b/\Y=n-i) n
  ⟨0,.aD, [],aA rfl,fF _,Own.aD _ _ _,trivial,Fr.refl r,rfl⟩ ?_
 rintro Y c b ⟨i,L,a,⟨g,rfl⟩,hi,P,y,F,rfl⟩
 by_cases j:(i:Int)<(n:Int)
 case neg=>
  have K:=bJ j;obtain rfl:i=n:=om
  simp(disch:=omega)only[go_sem,a2 b F,k,K];rw[yW om] at y;exact⟨⟨a,P.sv,y.mono λ_ _ s=>s.mono (z.trans F)⟩,z.trans F⟩
 have K:=bM j
 have N:i<n:=om
 have cc:b.cell id (o+i)=some (t.getD i .undef):=by
  rw[(z.trans F).cell (B om),hc i om];simp [List.getD,show i<t.length by omega]
 have sr:SR h (t.getD i .undef) ((R.getD i []).map zi):=by
  have c:=All2.get aR i om (by rw[iR];omega);rw[List.getElem_map] at c;rw[List.getD,List.getD,eV om,eV om];exact c
 generalize t.getD i .undef=c at cc sr
 obtain⟨g,si,U⟩:=sr
 have c:=All2.length U
 rw[iR] at c
 have f:=Z i N
 have c:=All2.length y
 rw[iR] at c
 have c:=fl i om
 have c:i*n<=7*7:=Nat.mul_le_mul om n7
 have c:=z.trans F
 obtain⟨j,j,J⟩:=P.push (bytes:=24) (si.mono c) (n:=a.length) (m:=(R.getD i []).length) om om om f.2 om
 simp(disch:=omega)only[go_sem,a2 b F,k,K,sh.ixa,cc,j]
 rw[dY i]
 have b:=F.next
 have nd:=J.next
 refine⟨n-(i+1),om,i+1,_,a++g,aA rfl,om,J.own om om om,?_,⟨om,λq hq=>?_⟩,rfl⟩
 ·rw[take_getD [] om,List.flatten_append,List.map_append]
  simp only[List.flatten_cons,List.flatten_nil,qA]
  exact All2.append y U
 ·rw[J.old q om (λid o a c e a=>by have:=(P.in _ _ _ _ e).2.1;omega)]
  exact F.get q hq
theorem rgcd_ok (a b:Nat)(h:H)(l:a<1000000)(n:b<1000000):Ev T 162 [aB a,aB b] h (λv h'=>v= aB (Nat.gcd a b:Nat)/\Fr h h'):=by
 refine bH c_ref01_gcd rfl rfl ?_;simp(disch:=omega)only[go_sem,c_ref01_gcd,aF];refine aH (λc d j=> ∃(x y:Nat),(∃g:Nat->V,d= [aB x,aB y,g 2,g 3])/\x<1000000/\y<1000000/\Nat.gcd x y=Nat.gcd a b/\Fr h j/\c=y) b
  ⟨a,b,aA rfl,l,n,rfl,Fr.refl h,rfl⟩ ?_
 rintro c d j ⟨x,y,⟨g,rfl⟩,d,k,i,F,m⟩;subst m
 by_cases e:(c:Int)=0
 ·have f:decide ((c:Int)≠0)=false:=bJ (by simpa using e)
  obtain rfl:c=0:=om
  simp(disch:=omega)only[go_sem,f];rw[←i,Nat.gcd_zero_right];exact⟨rfl,F⟩
 ·have f:=bM e
  have g:(x:Int).tmod (c:Int)=((x%c:Nat):Int):=tmod_nat x c;have d:=Nat.mod_lt x (show c>0 by omega);simp(disch:=omega)only[go_sem,f,e,g];exact⟨x%c,d,c,x%c,aA rfl,k,om,by rw[Nat.gcd_comm,←Nat.gcd_rec,Nat.gcd_comm];exact i,F.bN om,rfl⟩
theorem list3_at {ks:List Cls.KE}{i:Nat}(hi:i<ks.length):(list3 ks)[i*3]? =some ks[i].rep/\(list3 ks)[i*3+1]? =some (aB (ks[i].ord:Int))/\(list3 ks)[i*3+2]? =some (aB (ks[i].size:Int)):=by
 induction ks generalizing i with
 |nil=>simp at hi
 |cons a r ih=>
  have e:list3 (a::r)= [a.rep,aB (a.ord:Int),aB (a.size:Int)]++list3 r:=rfl
  cases i with
  |zero=>exact⟨rfl,rfl,rfl⟩
  |succ i=>
   have b:=ih (i:=i) (by simpa using hi);rw[e,show (i+1)*3=i*3+3 by omega];refine⟨?_,?_,?_⟩
   ·rw[Cq (by simp)];exact b.1
   ·rw[Cq (by simp)];exact b.2.1
   ·rw[Cq (by simp)];exact b.2.2
noncomputable def quK (G:List Nat->Prop)(L:LN)(K:List Nat)(a k:Nat):Nat:=numC G L K (L.idxOf (bE (dM (L.getD a [])) (L.getD (K.getD k 0) [])))
noncomputable def cstA (G:List Nat->Prop)(L:LN)(K:List Nat)(i k t j:Nat):Nat:=((List.range t).filter λa=>decide (numC G L K a=i/\quK G L K a k=j)).length
noncomputable def cstK (G:List Nat->Prop)(L:LN)(K:List Nat)(i j k:Nat):Nat:=cstA G L K i k L.length j
section
variable {n:Nat} {G:List Nat->Prop} {L:LN} {K:List Nat}
theorem cstA_succ (i k t j:Nat):cstA G L K i k (t+1) j=cstA G L K i k t j+if numC G L K t=i/\quK G L K t k=j then 1 else 0:=by
 unfold cstA;rw[List.range_succ,List.filter_append,iZ]
 by_cases h:numC G L K t=i/\quK G L K t k=j<;>simp [h]
theorem cstA_le (i k t j:Nat):cstA G L K i k t j<=t:=by
 unfold cstA;exact jK (List.length_filter_le _ _) (by rw[zU];exact eS _)
def pkV (p:Nat×Nat):V:= .agg [aB (p.1:Int),aB (p.2:Int)]
def PkP (p:Nat×Nat):Prop:=p.1<1000000/\p.2<1000000
theorem pkV_eq (a b:Nat×Nat)(_:PkP a)(_:PkP b):dJ (pkV a) (pkV b)=decide (a=b):=by
 show nJ [_,_] [_,_]=_;simp only[nJ,dJ,Bool.and_true,beq_self_eq_true,Bool.true_and];rw[xJ,pF,beq_iff_eq,beq_iff_eq,Co,Prod.ext_iff];omega
theorem pkV_key (a:Nat×Nat)(h:PkP a):isKey (.arr 2 .i64) (pkV a)=true:=by
 obtain⟨d,d⟩:=h;unfold isKey pkV;have b:IntKind.min .i64= -9223372036854775808:=rfl;have c:IntKind.max .i64=9223372036854775807:=rfl;simp only[List.all_cons,List.all_nil,b,c,Bool.and_true,pF,Co];exact⟨rfl,⟨trivial,om,om⟩,trivial,om,om⟩
theorem bld_pk (x y:Int):kY [aB 0,aB 0] [(0,1,aB x),(1,1,aB y)]=some (.agg [aB x,aB y]):=rfl
theorem row3c {h:H}{id o:Nat}{a b c:V}(g:h.cell id o=some a)(f:h.cell id (o+1)=some b)(d:h.cell id (o+2)=some c):h.row id o 3=some [a,b,c]:=by
 unfold H.cell at g f d;unfold H.row;split at g
 ·rename_i q i e
  rw[e] at f d;have f:i[o+1]? =some b:=f;have d:i[o+2]? =some c:=d;obtain⟨k,j⟩:=xI.1 g;obtain⟨lb,l⟩:=xI.1 f;obtain⟨p,m⟩:=xI.1 d;rw[e];simp only[sub];rw[aV om,Ts k,Ts lb,Ts p,j,l,m]
  rfl
 ·cases g
structure KS (n:Nat)(G:List Nat->Prop)(L:LN)(hh:H)(a:Cls.KE)(r:Nat):Prop where
 ord:a.ord=iH (L.getD r []) n
 size:a.size=(orbC G L r).length
 rep:SI hh a.rep (zi (L.getD r []))
theorem cls_openS {hh:H}{b:V}{ks:List Cls.KE}(l:K.length<1000000)(s:SV hh b 3 (list3 ks))(al:All2 (KS n G L hh) ks K):
  dA b=some (aB (K.length:Int))/\dJ b b=true/\ ∃id off,Sl b 3 K.length id off/\ ∀k,k<K.length->id<hh.next/\ ∃rep,hh.cell id (off+k*3)=some rep/\hh.cell id (off+k*3+2)=some (aB ((orbC G L (K.getD k 0)).length:Int))/\hh.row id (off+k*3) 3=some [rep,aB (iH (L.getD (K.getD k 0) []) n:Int),aB ((orbC G L (K.getD k 0)).length:Int)]/\SI hh rep (zi (L.getD (K.getD k 0) [])):=by
 have a:=All2.length al
 have c:=list3_len ks
 obtain⟨id,off,e,f,d⟩:=s.shape K.length (by rw[c,a]) om
 refine⟨by unfold dA;rw[SV.len s (n:=ks.length) c om,a];rfl,s.dJ,id,off,e,λk c=>?_⟩
 obtain⟨e,j,h⟩:=list3_at (ks:=ks) (i:=k) om
 have a:=All2.get al k om c
 rw[←Pm.bT c] at a
 have g:=(d (k*3) om).trans e
 have e:=(d (k*3+1) om).trans j
 have c:=(d (k*3+2) om).trans h
 rw[a.ord] at e
 rw[a.size] at c
 rw[←Nat.add_assoc] at e c
 exact⟨f om,_,g,c,row3c g e c,a.rep⟩
theorem cls_open {hh:H}{a:V}{ks:List Cls.KE}(b:K.length<1000000)(s:SV hh a 3 (list3 ks))(al:All2 (KR n G L hh) ks K):
  dA a=some (aB (K.length:Int))/\dJ a a=true/\ ∃id off,Sl a 3 K.length id off/\ ∀k,k<K.length->id<hh.next/\ ∃rep,hh.cell id (off+k*3)=some rep/\hh.cell id (off+k*3+2)=some (aB ((orbC G L (K.getD k 0)).length:Int))/\hh.row id (off+k*3) 3=some [rep,aB (iH (L.getD (K.getD k 0) []) n:Int),aB ((orbC G L (K.getD k 0)).length:Int)]/\SI hh rep (zi (L.getD (K.getD k 0) [])):=
 cls_openS b s (al.mono λ_ _ k=>⟨k.ord,k.size,k.rep⟩)
end
section
variable {n:Nat} {G:List Nat->Prop} {L:LN} {K:List Nat}
theorem idx_el (E:eP G L){y:List Nat}(c:G y):L.idxOf y<L.length/\L.getD (L.idxOf y) []=y:=by
 have b:=(E.mem y).2 c;have a:=Za.2 b;refine⟨a,?_⟩;rw[List.getD,eV a];simp
theorem IsK.lt (k:IsK n G L K){r:Nat}(a:r∈K):r<L.length:=(repsC_mem.1 (k.perm.mem_iff.1 a)).1
theorem IsK.nd (k:IsK n G L K):K.Nodup:=k.perm.nodup_iff.2 (by unfold repsC;exact List.nodup_range.filter _)
noncomputable def zp (n:Nat)(x:List Nat)(z:Int):List Nat:=pw n x (z%(iH x n:Nat)).toNat
variable (hG:mH n G) (E:eP G L) (k:IsK n G L K)
include hG E k
theorem numC_ok {j:Nat}(a:j<L.length):numC G L K j<K.length/\cR G L (K.getD (numC G L K j) 0) j:=by
 obtain⟨i,hi,h⟩:=num_cover hG E k.perm a;have e:=numC_at hG E k.perm hi h;rw[e];exact⟨hi,(orbC_mem.1 h).2⟩
omit hG E k in
theorem ordP_one_iff {x:List Nat}(X:bV n x):iH x n=1↔x=cH n:=by
 constructor
 ·intro h
  have:=(pL X 1).1 (by rw[h];exact Nat.dvd_refl _);rwa [pw_one' X] at this
 ·intro h
  have:=(pL X 1).2 (by rw[pw_one' X];exact h);exact Nat.dvd_one.1 this
theorem K_first:0<K.length/\K.getD 0 0=0:=by
 obtain⟨f,b⟩:=el_first hG E;have c:0∈K:=k.perm.mem_iff.2 (repsC_mem.2 ⟨f,λj g=>om⟩);have a:=Xn c;refine⟨a,?_⟩;obtain⟨i,hi,d⟩:=uK.1 c
 by_cases e:i=0
 ·subst e;rw[List.getD,eV a];exact d
 ·have:=Ta.1 k.asc 0 i a hi om
  rw[d] at this;have c:iH (L.getD 0 []) n=1:=(ordP_one_iff (by rw[b];exact bV.one n)).2 b;have d:K[0]<L.length:=k.lt (xR a);have X:=el_isP hG E d;have p:=uW X;unfold kLt at this;rw[c] at this;have e:iH (L.getD K[0] []) n=1:=om
  have c:=(ordP_one_iff X).1 e;rw[←b] at c;have:=nd_inj E.nodup d f c;rw[List.getD,eV a];exact this
end
end Go.Proofs.YtapfcpkecmmagaaGreat
namespace Go.Pm
set_option maxRecDepth 100000
section
variable {n:Nat} {t:mE}
theorem kN.gt (T:kN n t){i p:Nat}{y:List Nat}(h:t i p=some y):i<p:=by
 have Y:=T.isP _ _ _ h;have F:=T.fix _ _ _ h;obtain⟨c,b,a⟩:=T.lt _ _ _ h;have m:=T.maps _ _ _ h;rcases Nat.lt_or_ge p i with a|a
 ·exact absurd (Y.inj c b (m.trans (F p a).symm)) oq
 ·omega
def eR (t:mE)(i p:Nat):rC:=(List.range p).filterMap (t i)
def eB (n:Nat)(t:mE)(i:Nat):rC:=(List.range i).flatMap λi=>eR t i n
theorem Qc (i p:Nat):eR t i (p+1)=eR t i p++(t i p).toList:=by
 unfold eR;rw[List.range_succ,List.filterMap_append];cases h:t i p<;>simp [h]
theorem Nu (i:Nat):eB n t (i+1)=eB n t i++eR t i n:=by
 unfold eB;rw[List.range_succ,List.flatMap_append];simp
theorem Gv:eB n t n=eU n t 0:=by
 unfold eB eU eR;simp
theorem qT (T:kN n t):(eU n t 0).Nodup:=by
 have g: ∀i p b d y,t i p=some y->t b d=some y->i=b/\p=d:=λi p b d y f j=>by
  have h:=T.gt f;have h:=T.gt j;have l:=T.fix _ _ _ f;have m:=T.fix _ _ _ j;have o:=T.maps _ _ _ f;have r:=T.maps _ _ _ j
  have e:i=b:=by
   rcases Nat.lt_trichotomy i b with h|h|h
   ·have:=m i h;omega
   ·exact h
   ·have:=l b h;omega
  subst e;exact⟨rfl,o.symm.trans r⟩
 rw[←Gv];unfold eB;rw[List.Nodup,List.pairwise_flatMap];refine⟨λi _=>?_,?_⟩
 ·unfold eR
  rw[List.pairwise_filterMap];refine (List.nodup_range (n:=n)).imp ?_;intro p d c y k q a e;subst e;exact c (g _ _ _ _ _ k a).2
 ·refine (List.nodup_range (n:=n)).imp ?_
  intro i b c y k q a e;subst e;obtain⟨p,_,f⟩:=List.mem_filterMap.1 k;obtain⟨d,_,j⟩:=List.mem_filterMap.1 a;exact c (g _ _ _ _ _ f j).1
def DN (n:Nat)(t:mE)(l:rC):rC:=(eU n t 0).filter λy=>decide (y∉l)
def DL (n:Nat)(t:mE)(x:List Nat)(l:rC):rC:=if (eU n t 0).length<(eU n (iD t n x) 0).length then l++DN n (iD t n x) l else l
structure sW (n:Nat)(L:List Nat->Prop)(t:mE)(l:rC):Prop where
 tl:Ao n L t
 nd:l.Nodup
 mem: ∀y,y∈l↔y∈eU n t 0
variable {L:List Nat->Prop} {l:rC}
theorem sW.isP (c:sW n L t l): ∀y∈l,bV n y:=λy a=>c.tl.tab.Sh y ((c.mem y).1 a)
theorem sW.bound (c:sW n L t l):l.length<=n^n:=Bz c.nd c.isP
theorem sW.start (c:Ao n L t):sW n L t (eU n t 0):=⟨c,qT c.tab,λ_=>Iff.rfl⟩
theorem Kb {a:mE}(s:Sub t a): ∀y,y∈eU n t 0->y∈eU n a 0:=λy b=>by
 obtain⟨i,p,c,f,d,e⟩:=fH.1 b;exact fH.2 ⟨i,p,c,f,d,s _ _ _ e⟩
theorem sW.step (c:sW n L t l)(v: ∀g,L g->bV n g){x:List Nat}(w:fE n L x):
  sW n L (iD t n x) (DL n t x l)/\Sub t (iD t n x)/\ins (iD t n x) n 0 x=none/\ ∃m,DL n t x l=l++m:=by
 obtain⟨a,d,k⟩:=c.tl.ins v w
 have s:=qT a.tab
 refine⟨?_,d,k,?_⟩
 ·cases h:ins t n 0 x with
  |none=>
   have e:iD t n x=t:=by unfold iD;rw[h]
   unfold DL;rw[e,if_neg (Nat.lt_irrefl _)];exact c
  |some q=>
   obtain⟨i,r⟩:=q;have e:iD t n x=put t i (r.getD i 0) r:=by unfold iD;rw[h]
   obtain⟨k,z,G,A,k,J,_⟩:=rH c.tl.tab n 0 x i r oq (w.isP v) (λk k=>oq) h;have O:r∈eU n (iD t n x) 0:=fH.2 ⟨i,r.getD i 0,Nat.zero_le _,z,G.dZ z,by rw[e];unfold put;rw[if_pos ⟨rfl,rfl⟩]⟩
   have p:r∉eU n t 0:=λh=>by
    obtain⟨j,q,_,_,_,f⟩:=fH.1 h;have k:=d _ _ _ f;have q:=a.tab.gt k;have K:=a.tab.fix _ _ _ k;have B:=a.tab.maps _ _ _ k;have P:iD t n x i (r.getD i 0)=some r:=by rw[e];unfold put;rw[if_pos ⟨rfl,rfl⟩]
    have e:=a.tab.gt P
    have o:i=j:=by
     rcases Nat.lt_trichotomy i j with h|h|h
     ·have:=K i h;omega
     ·exact h
     ·have:=A j h;omega
    subst o;rw[←B] at f;rw[J] at f;cases f
   have u:(eU n t 0).length<(eU n (iD t n x) 0).length:=by
    have:(r::eU n t 0).length<=(eU n (iD t n x) 0).length:=List.Nodup.length_le_of_subset (List.nodup_cons.2 ⟨p,qT c.tl.tab⟩) (λy b=>by
     rcases List.mem_cons.1 b with rfl|b
     ·exact O
     ·exact Kb d y b)
    rw[List.length_cons] at this;omega
   unfold DL;rw[if_pos u];refine⟨a,List.nodup_append.2 ⟨c.nd,s.filter _,λy b z N F=>?_⟩,λy=>?_⟩
   ·subst F
    have:=(List.mem_filter.1 N).2;simp at this;exact this b
   ·rw[List.mem_append]
    unfold DN;rw[List.mem_filter];constructor
    ·rintro (h|h)
     ·exact Kb d y ((c.mem y).1 h)
     ·exact h.1
    ·intro h
     by_cases a:y∈l
     ·exact .inl a
     ·exact .inr ⟨h,by simpa using a⟩
 ·unfold DL
  split
  ·exact⟨_,rfl⟩
  ·exact⟨[],(List.append_nil _).symm⟩
theorem sW.gen (c:sW n L t l): ∀y∈l,fE n L y:=λy a=>c.tl.gen y ((c.mem y).1 a)
def Pr (n:Nat)(t:mE)(l:rC)(a b:Nat):Prop:=ins t n 0 (bE (l.getD a []) (l.getD b []))=none
theorem Pr.mono {c:mE}{m:rC}{a b:Nat}(h:Pr n t l a b)(s:Sub t c)(f:a<l.length)(d:b<l.length):Pr n c (l++m) a b:=by
 have e: ∀k,k<l.length->(l++m).getD k []=l.getD k []:=λk g=>by rw[List.getD,List.getD,List.getElem?_append_left g]
 unfold Pr;rw[e a f,e b d];exact vE s _ _ _ h
theorem sW.closed (c:sW n L t l)(h: ∀a b,a<l.length->b<l.length->Pr n t l a b):xH n t:=λa b k f=>by
 obtain⟨i,hi,o⟩:=List.mem_iff_getElem.1 ((c.mem a).2 k);obtain⟨j,d,m⟩:=List.mem_iff_getElem.1 ((c.mem b).2 f);have:=h i j hi d;unfold Pr at this;have g:l.getD i []=a:=by rw[List.getD,List.getElem?_eq_getElem hi,←o];rfl
 have e:l.getD j []=b:=by rw[List.getD,List.getElem?_eq_getElem d,←m];rfl
 rwa [g,e] at this
def sU (t:mE)(i k:Nat):List Nat:=(List.range k).filter λp=>p==i||(t i p).isSome
theorem Li (T:kN n t)(i:Nat):sU t i i= []:=by
 unfold sU;refine List.filter_eq_nil_iff.2 λp a=>?_
 have:=List.mem_range.1 a;simp only[Bool.or_eq_true,beq_iff_eq,not_or];refine⟨oq,λh=>?_⟩;obtain⟨y,a⟩:=Option.isSome_iff_exists.1 h;have:=T.gt a;omega
theorem Qz (i k:Nat):sU t i (k+1)=sU t i k++if k=i∨(t i k).isSome then [k] else []:=by
 unfold sU;rw[List.range_succ,List.filter_append]
 by_cases h:k=i
 ·subst h;simp
 ·have e:(k==i)=false:=by simpa using h
  cases h2:t i k<;>simp [h,h2,List.filter,e]
theorem Yj (i:Nat):sU t i n=(iX n t i).orb:=rfl
theorem Yh (i k:Nat):(sU t i k).Pairwise (· < ·):=List.pairwise_lt_range.filter _
end
end Go.Pm
namespace Go.Proofs.YtapfcpkecmmagaaGreat
open Go Go.Ay Go.Pm
set_option maxRecDepth 100000
theorem bls_i1 (h:H)(x:Int):pG h 1 [aB 0] 1 [(0,1,aB x)]=some (.sl h.next 0 1 (.kn 1),h.new (.cells false (ints [x]))):=by
 have e:dO [aB 0] 1= [aB 0]:=rfl;simp [pG,gI,e,putAt,V.cells,V.one,ints]
theorem Own_ge {h:H}{v:V}{sz b:Nat}{ws:List V}(o:Own h v sz ws b): ∀id off len cap,v= .sl id off len cap->b<=id:=by
 rcases o with ⟨rfl,_⟩|⟨id,n,cap,a,rfl,_,_,c,_⟩
 ·intro _ _ _ _ e;cases e
 ·intro _ _ _ _ e;cases e;exact c
theorem zi_snoc (l:List Nat)(x:Nat):zi (l++ [x])=zi l++ [(x:Int)]:=by simp [zi]
theorem take_snoc {l:List Nat}{i:Nat}(hi:i<l.length):l.take (i+1)=l.take i++ [l.getD i 0]:=by
 rw[List.take_add_one,eV hi,bT hi];rfl
theorem kmul_ok (u w:V)(a b:List Nat)(h:H)(hN:a.length<=1000)(P:SI h u (zi a))(hw:SI h w (zi b))(hr: ∀i,i<a.length->a.getD i 0<b.length):
  Ev T 24 [u,w] h (λv h'=>SI h' v (zi (bE a b))/\Fr h h'/\ ∀id off len cap,v= .sl id off len cap->h.next<=id):=by
 refine bH c_kit_Mul rfl rfl ?_
 have R:=P.lens
 rw[aQ] at R
 obtain⟨id,off,L,l,N⟩:=P.open
 rw[aQ] at L l N
 obtain⟨B,t,x,e,p⟩:=hw.open
 rw[aQ] at x e p
 simp(disch:=omega)only[go_sem,c_kit_Mul,aF]
 refine aH (λO f U=> ∃(i:Nat) (o:V),(∃j:Nat->V,f= [u,w,j 2,o,aB i,j 5])/\i<=a.length/\Own U o 1 (ints (zi ((bE a b).take i))) h.next/\Fr h U/\O=a.length-i) a.length
  ⟨0,.aD,aA rfl,fF _,Own.aD _ _ _,Fr.refl h,rfl⟩ ?_
 rintro O f c ⟨i,o,⟨jk,rfl⟩,hi,A,F,rfl⟩
 simp(disch:=omega)only[go_sem,R]
 by_cases z:(i:Int)<(a.length:Int)
 ·rw[bM z]
  have d:i<a.length:=om
  have ci:c.cell id (off+i)=some (aB (a.getD i 0:Nat)):=by rw[F.cell (l om),N i d];congr 2;simp [zi,d]
  have r:=hr i d
  have Q:=dB (b:=b) d
  generalize hk:a.getD i 0=k at ci r Q
  have Y:c.cell B (t+k)=some (aB (b.getD k 0:Nat)):=by rw[F.cell (e om),p k r];congr 2;simp [zi,r]
  simp(disch:=omega)only[go_sem,L.ixa,ci,x.ixa,Y,bls_i1]
  have g:Fr c (c.new (.cells false (ints [((b.getD k 0:Nat):Int)]))):=(Fr.refl c).new _
  have y:(c.new (.cells false (ints [((b.getD k 0:Nat):Int)]))).get c.next=some (.cells false (ints [((b.getD k 0:Nat):Int)])):=H.aN ..
  have K:(c.new (.cells false (ints [((b.getD k 0:Nat):Int)]))).next=c.next+1:=H.aX ..
  generalize c.new (.cells false (ints [((b.getD k 0:Nat):Int)]))=G at*
  have Z:SV G (.sl c.next 0 1 (.kn 1)) 1 (ints [((b.getD k 0:Nat):Int)]):=SV.all rfl om y _
  have nF:=F.next
  have hl:(bE a b).length=a.length:=eH a b
  obtain⟨v2,W,J,s⟩:=(A.fr g).app (bytes:=8) (n:=i) (m:=1) om Z (by rw[aL,aQ,xF,kF];omega) rfl om om
  simp(disch:=omega)only[go_sem,J]
  have q:=s.own
  rw[←iN,←Q,←zi_snoc,←take_snoc om] at q
  rw[dY i]
  exact⟨a.length-(i+1),om,i+1,v2,aA rfl,om,q,s.fr h (F.trans g) (eS _),rfl⟩
 rw[bJ z]
 obtain rfl:i=a.length:=om
 simp(disch:=omega)only[go_sem]
 rw[yW (by rw[eH];omega)] at A
 exact⟨A.sv,F,Own_ge A⟩
theorem kone_ok (n:Nat)(h:H)(B:n<=1000):
  Ev T 51 [aB n] h (λv h'=>SI h' v (zi (cH n))/\Fr h h'/\ ∀id off len cap,v= .sl id off len cap->h.next<=id):=by
 refine bH c_kit_One rfl rfl ?_
 simp(disch:=omega)only[go_sem,c_kit_One,aF]
 refine aH (λr b t=> ∃(i:Nat) (o:V),(∃j:Nat->V,b= [aB n,j 1,o,aB i,j 4])/\i<=n/\Own t o 1 (ints (zi ((cH n).take i))) h.next/\Fr h t/\r=n-i) n
  ⟨0,.aD,aA rfl,fF _,Own.aD _ _ _,Fr.refl h,rfl⟩ ?_
 rintro r b a ⟨i,o,⟨A,rfl⟩,hi,k,F,rfl⟩
 simp(disch:=omega)only[go_sem]
 by_cases g:(i:Int)<(n:Int)
 ·rw[bM g]
  have p:i<n:=om
  simp(disch:=omega)only[go_sem,bls_i1]
  have c:Fr a (a.new (.cells false (ints [(i:Int)]))):=(Fr.refl a).new _
  have f:(a.new (.cells false (ints [(i:Int)]))).get a.next=some (.cells false (ints [(i:Int)])):=H.aN ..
  have s:(a.new (.cells false (ints [(i:Int)]))).next=a.next+1:=H.aX ..
  generalize a.new (.cells false (ints [(i:Int)]))=l at*
  have y:SV l (.sl a.next 0 1 (.kn 1)) 1 (ints [(i:Int)]):=SV.all rfl om f _
  have G:=F.next
  have J:=gY n
  obtain⟨z,x,q,d⟩:=(k.fr c).app (bytes:=8) (n:=i) (m:=1) om y (by rw[aL,aQ,xF,kF];omega) rfl om om
  simp(disch:=omega)only[go_sem,q]
  have e:=d.own
  have w:=eX p
  have u:zi ((cH n).take i)++ [(i:Int)]=zi ((cH n).take (i+1)):=by rw[take_snoc om,zi_snoc,w]
  rw[←iN,u] at e
  rw[dY i]
  exact⟨n-(i+1),om,i+1,z,aA rfl,om,e,d.fr h (F.trans c) (eS _),rfl⟩
 rw[bJ g]
 obtain rfl:i=n:=om
 simp(disch:=omega)only[go_sem]
 rw[yW (by rw[gY];omega)] at k
 exact⟨k.sv,F,Own_ge k⟩
theorem kinv_ok (u:V)(n:Nat)(a:List Nat)(h:H)(Y:n<=1000)(A:bV n a)(L:SI h u (zi a)):
  Ev T 25 [u] h (λv h'=>Ku h h' v (dM a)):=by
 refine bH c_kit_Inv rfl rfl ?_
 have g:=A.len
 have t:=L.lens
 rw[aQ,g] at t
 obtain⟨id,off,y,l,B⟩:=L.open
 rw[aQ,g] at y l B
 simp(disch:=omega)only[go_sem,c_kit_Inv,aF,t,mks_zeros h n om]
 have m:Fr h (h.new (.cells false (rc n λ_=> aB 0))):=(Fr.refl h).new _
 have d:(h.new (.cells false (rc n λ_=> aB 0))).get h.next=some (.cells false (rc n λ_=> aB 0)):=H.aN ..
 have f:(h.new (.cells false (rc n λ_=> aB 0))).next=h.next+1:=H.aX ..
 generalize h.new (.cells false (rc n λ_=> aB 0))=W at*
 obtain⟨S,o⟩:=JR h.next
 rw[o] at d f
 rw[o]
 refine aH (λG c w=> ∃(i:Nat),(∃j:Nat->V,c= [u,.aD,.sl S 0 n (.kn n),aB i,j 4])/\i<=n/\
   w.get S=some (.cells false (rc n λj=>if a.idxOf j<i then aB (a.idxOf j:Nat) else aB 0))/\w.next=S+1/\Fr h w/\G=n-i) n
  ⟨0,aA rfl,fF _,by rw[d];rfl,f,m,rfl⟩ ?_
 clear d m f
 rintro G c N ⟨i,⟨U,rfl⟩,hi,z,K,F,rfl⟩
 simp(disch:=omega)only[go_sem,t]
 by_cases p:(i:Int)<(n:Int)
 ·rw[bM p]
  have b:i<n:=om
  have ci:N.cell id (off+i)=some (aB (a.getD i 0:Nat)):=by rw[F.cell (l om),B i b];congr 2;simp [zi,g,b]
  have r:=A.dZ b
  have J:a.idxOf (a.getD i 0)=i:=A.inj (A.idx r).1 b (A.idx r).2
  generalize P:a.getD i 0=k at ci r J
  have Q:decide ((k:Int)<0)=false:=bJ om
  have q:decide ((n:Int)<=(k:Int))=false:=bJ om
  have x:=bF (vs:=rc n λj=>if a.idxOf j<i then aB (a.idxOf j:Nat) else aB 0) (off:=k) (by rw[cK];exact r) N S (aB i)
  rw[eJ] at x
  simp(disch:=omega)only[go_sem,y.ixa,ci,Q,q,z,x]
  rw[dY i]
  refine⟨n-(i+1),om,i+1,aA rfl,om,?_,K,F.set om _,rfl⟩
  congr 2
  refine aY λj s=>?_
  by_cases e:j=k
  ·rw[aV e,e,J,aV om]
  ·rw[aZ e]
   have R:a.idxOf j≠i:=λO=>e (by rw[←(A.idx s).2,O,P])
   by_cases q:a.idxOf j<i
   ·rw[aV q,aV om]
   ·rw[aZ q,aZ om]
 rw[bJ p]
 obtain rfl:i=n:=om
 simp(disch:=omega)only[go_sem]
 refine⟨by rw[gG,g,o],?_,by rw[o];exact K,F⟩
 rw[o,z]
 congr 2
 rw[←Kp,gG,g]
 exact aY λj s=>by rw[aV (A.idx s).1,lU (by rw[g];exact s)]
structure TbR (b:Nat)(W:Nat->Prop)(h:H)(n:Nat)(tv:V)(ρ:Nat->Nat)(F:Nat->Nat->V)(t:mE):Prop where
 sv:SV h tv 1 (rc n λi=> .sl (ρ i) 0 n (.kn n))
 off:Kj W tv
 row: ∀i,i<n->h.get (ρ i)=some (.cells false (rc n (F i)))
 wb: ∀i,i<n->W (ρ i)
 win: ∀id,W id->id<h.next
 low: ∀id,W id->b<=id
 inj: ∀i j,i<n->j<n->ρ i=ρ j->i=j
 ent: ∀i p,i<n->p<n->Slot W h (F i p) (t i p)
section
variable {b:Nat} {W:Nat->Prop} {h h':H} {n:Nat} {tv:V} {ρ:Nat->Nat} {F:Nat->Nat->V} {t:mE}
theorem TbR.open (R:TbR b W h n tv ρ F t):dA tv=some (aB n)/\ ∃id off,Sl tv 1 n id off/\ ∀i,i<n->h.cell id (off+i)=some (.sl (ρ i) 0 n (.kn n)):=by
 have s:=R.sv;have a:(rc n λi=>V.sl (ρ i) 0 n (.kn n)).length=n:=cK n _;refine⟨by unfold dA;rw[SV.len s (n:=n) om om];rfl,?_⟩;obtain⟨id,off,c,a,a⟩:=SV.shape s n om om;refine⟨id,off,c,λi hi=>?_⟩;rw[a i om,kA hi]
theorem TbR.cell (R:TbR b W h n tv ρ F t){i p:Nat}(hi:i<n)(a:p<n):h.cell (ρ i) p=some (F i p):=gU (R.row i hi) a
theorem TbR.mono (R:TbR b W h n tv ρ F t)(f:Fr h h'):TbR b W h' n tv ρ F t:=
 ⟨R.sv.mono f,R.off,λi hi=>by rw[f.get _ (R.win _ (R.wb i hi))];exact R.row i hi,R.wb,λid a=>iP (R.win id a) f.next,R.low,R.inj,λi p hi a=>(R.ent i p hi a).fx (Fx.of f)⟩
theorem TbR.go (R:TbR b W h n tv ρ F t){a:Nat->Prop}(f:Fx W h h')(g: ∀i,i<n->h'.get (ρ i)=h.get (ρ i))(d: ∀id,id<h.next->a id->W id)(c: ∀id,W id->a id)(win: ∀id,a id->id<h'.next)(low: ∀id,a id->b<=id):TbR b a h' n tv ρ F t:=
 ⟨R.sv.fx R.off f,R.off.weak R.sv d,λi hi=>by rw[g i hi];exact R.row i hi,λi hi=>c _ (R.wb i hi),win,low,R.inj,λi p hi e=>(R.ent i p hi e).go f d⟩
def WB (n:Nat)(ρ:Nat->Nat)(id:Nat):Prop:= ∃i,i<n/\ρ i=id
theorem TbR.wbx (R:TbR b W h n tv ρ F t){a c:H}(f:Fx (WB n ρ) a c):Fx W a c:=f.weak λid _ d=>by
 obtain⟨i,hi,rfl⟩:=d;exact R.wb i hi
def F2 (F:Nat->Nat->V)(i p:Nat)(v:V):Nat->Nat->V:=λj q=>if j=i/\q=p then v else F j q
theorem TbR.put (R:TbR b W h n tv ρ F t){i p:Nat}(hi:i<n)(g:p<n){c:V}{x:List Nat}(l:PV W h c x):
  ∃h',dQ (h.get (ρ i)) h (ρ i) p [c]=some h'/\TbR b W h' n tv ρ (F2 F i p c) (Pm.put t i p x)/\Fx (WB n ρ) h h'/\h'.next=h.next:=by
 have k:=bF (vs:=rc n (F i)) (off:=p) (by rw[cK];exact g) h (ρ i) c
 rw[R.row i hi,k,eJ]
 refine⟨_,rfl,?_,Fx.set h (W:=WB n ρ) ⟨i,hi,rfl⟩ _,rfl⟩
 have f:Fx W h (h.set (ρ i) (some (.cells false (rc n λj=>if j=p then c else F i j)))):=Fx.set h (R.wb i hi) _
 refine⟨R.sv.fx R.off f,R.off,λj d=>?_,R.wb,R.win,R.low,R.inj,λj q d m=>?_⟩
 ·by_cases e:j=i
  ·subst e
   rw[H.aT]
   congr 2
   refine aY λq _=>?_
   unfold F2
   by_cases a:q=p
   ·rw[aV a,aV ⟨rfl,a⟩]
   ·rw[aZ a,aZ (λh=>a h.2)]
  ·rw[H.aI h (λa=>e (R.inj _ _ d hi a)),R.row j d]
   congr 2
   refine aY λq _=>?_
   unfold F2
   rw[aZ (λh=>e h.1)]
 ·unfold F2 Pm.put
  by_cases e:j=i/\q=p
  ·rw[aV e,aV e]
   exact PV.fx l f
  ·rw[aZ e,aZ e]
   exact (R.ent j q d m).fx f
theorem PV.fresh {v:V}{l:List Nat}(s:SI h' v (zi l))(a: ∀id off len cap,v= .sl id off len cap->h.next<=id)(d: ∀id,W id->id<h.next):PV W h' v l:=by
 refine⟨s,?_⟩
 cases v with
 |sl id off len cap=>exact λc=>by have:=a _ _ _ _ rfl;have:=d id c;omega
 |_=>trivial
theorem Slot.nil {v:V}(s:Slot W h v none):v= .aD:=s
end
theorem insert_ok (b:Nat)(W:Nat->Prop)(h:H)(n:Nat)(tv:V)(ρ:Nat->Nat)(F:Nat->Nat->V)(t:mE)(L:V)(x:List Nat)(hn:n<=64)(h0:0<n)(R:TbR b W h n tv ρ F t)(hx:PV W h L x)(X:bV n x)(TI:kN n t):
  Ev T 164 [tv,L] h (λv h'=> ∃F',v= .bool (ins t n 0 x).isSome/\TbR b W h' n tv ρ F' (iD t n x)/\Fx (WB n ρ) h h'):=by
 refine bH c_ref08_Table_insert rfl rfl ?_
 obtain⟨J,id,a0,sh,_⟩:=R.open
 simp(disch:=omega)only[go_sem,c_ref08_Table_insert,aF]
 refine aH (λP e hh=> ∃(i:Nat) (y:List Nat) (m:V),(∃g:Nat->V,e= [tv,m,g 2,aB i,g 4,g 5,g 6,g 7])/\i<=n/\ins t (n-i) i y=ins t n 0 x/\PV W hh m y/\bV n y/\Fr h hh/\P=n-i) n
  ⟨0,x,L,aA rfl,fF _,rfl,hx,X,Fr.refl h,rfl⟩ ?_
 rintro P e O ⟨i,y,m,⟨g,rfl⟩,hi,o,q,Y,f,rfl⟩
 have l:=R.mono f
 by_cases s:(i:Int)<(n:Int)
 case neg=>
  have r:=bJ s;obtain rfl:i=n:=om
  simp(disch:=omega)only[go_sem,J,r];rw[Nat.sub_self] at o;have a:ins t i 0 x=none:=o.symm;refine⟨F,by rw[a];rfl,?_,Fx.of f⟩;unfold iD;rw[a];exact l
 have r:=bM s
 have c:i<n:=om
 obtain⟨P,e,d,s,g⟩:=q.si.open
 rw[aQ,Y.len] at d s g
 have ci:O.cell P (e+i)=some (aB (y.getD i 0:Nat)):=by rw[g i c];congr 2;simp [zi,Y.len,c]
 have B:=Y.dZ c
 obtain⟨p,j⟩:=JR (y.getD i 0)
 rw[j] at ci B
 have e:n-i=(n-(i+1))+1:=om
 rw[e] at o
 obtain⟨_,e,e,w,e⟩:=l.open
 have cr:=e i c
 have K:=l.cell c B
 have G:=l.ent i p c B
 by_cases k:p=i
 ·have a:ins t (n-(i+1)) (i+1) y=ins t n 0 x:=by
   rw[←o]
   conv=>rhs;unfold ins
   rw[aV (j.trans k)]
  have A:decide ((p:Int)=(i:Int))=true:=bM om;simp(disch:=omega)only[go_sem,J,r,d.ixa,ci,A];rw[dY i];exact⟨n-(i+1),om,i+1,y,m,aA rfl,om,a,q,Y,f,rfl⟩
 have A:decide ((p:Int)=(i:Int))=false:=bJ om
 have Q:decide ((p:Int)<0)=false:=bJ om
 have U:decide ((n:Int)<=(p:Int))=false:=bJ om
 cases hto:t i p with
 |none=>
  rw[hto] at G;have e:=G.nil;rw[e] at K
  have a:ins t n 0 x=some (i,y):=by
   rw[←o];unfold ins;rw[aZ (by rw[j];exact k),j,hto]
  obtain⟨h3,e,R3,u,g⟩:=l.put c B q;simp(disch:=omega)only[go_sem,J,r,d.ixa,ci,A,Q,U,w.ixa,cr,K,fU q.dR.1 q.dR.2,e];have e5:iD t n x=Pm.put t i p y:=by unfold iD;rw[a];simp only;rw[j]
  refine⟨F2 F i p m,by rw[a];rfl,by rw[e5];exact R3,(Fx.of f).trans u (λ_ _ h=>h)⟩
 |some z=>
  rw[hto] at G;have Z:=TI.isP _ _ _ hto;have N:PV W O (F i p) z:=G;have sn:=vX N (bV.ne h0 Z) false
  have a:ins t (n-(i+1)) (i+1) (bE y (dM z))=ins t n 0 x:=by
   rw[←o]
   conv=>rhs;unfold ins
   rw[aZ (by rw[j];exact k),j,hto]
  generalize F i p=c at K N sn;simp(disch:=omega)only[go_sem,J,r,d.ixa,ci,A,Q,U,w.ixa,cr,K,sn];refine (kinv_ok c n z O om Z N.si).mono ?_;rintro w h3 c;have u:=c.fr;have pw:=c.pv (W:=W) (λc=>by have:=l.win _ c;omega);simp(disch:=omega)only[go_sem];refine (kmul_ok m w y (dM z) h3 (by rw[Y.len];omega) (q.si.mono u) pw.si (λj c=>by rw[gG,Z.len];exact Y.dZ (by rw[←Y.len];exact c))).mono ?_;rintro v c ⟨s4,f4,l4⟩;simp(disch:=omega)only[go_sem];rw[dY i];exact⟨n-(i+1),om,i+1,_,v,aA rfl,om,a,PV.fresh s4 l4 (λid a=>iP (l.win id a) u.next),Y.mul Z.inv,(f.trans u).trans f4,rfl⟩
section
variable {h:H} {ws:List V} {l:LN} {k:Nat}
theorem Pushd.frb {b h':H}{x:V}{n m sz:Nat}{us:List V}(p:Pushd h x n m sz ws us h')(f:Fr b h){d:Nat}{g:List V}(o:Own h x d g b.next):Fr b h':=by
 have a:=f.next;refine⟨by rw[p.next];omega,λid a=>?_⟩;rw[p.old id om (λc c n c e c=>by have:=(o.in _ _ _ _ e).2.1;omega)];exact f.get id a
theorem app_one {a:H}{d v:V}(o:Own h d 1 ws a.next)(f:Fr a h)(w:ws.length<1000000){bytes:Nat}(t:bytes<=24):
  ∃h2,qY (h.new (.cells false [v])) 1 bytes d (.sl h.next 0 1 (.kn 1))=some (.sl (h.next+1) 0 (ws.length+1) (.un 1),h2)/\Own h2 (.sl (h.next+1) 0 (ws.length+1) (.un 1)) 1 (ws++ [v]) a.next/\Fr a h2/\h2.next=h.next+2/\ ∀id,id<h.next->dH d id->h2.get id=h.get id:=by
 obtain⟨s,u,p,q,r,e⟩:=dN (h:=h) rfl [v]
 rw[u]
 have i:=o.fr e
 obtain⟨h2,j,c⟩:=i.push (bytes:=bytes) (SV.one om q (.kn 1)) (n:=ws.length) (m:=1) om rfl om om ⟨by
  have:(2*(ws.length+1)+1000)*bytes<=(2*(ws.length+1)+1000)*24:=Nat.mul_le_mul_left _ t
  omega,om⟩
 rw[p] at j
 have q:=f.next
 have g:=c.own om rfl (b:=a.next) om
 rw[p] at g
 have p:=c.next
 exact⟨h2,j,g,Pushd.frb c (f.trans e) i,om,λid s h2=>by rw[c.old id om h2,r id om]⟩
theorem eR_len (t:mE)(i p:Nat):(eR t i p).length<=p:=by
 unfold eR;have:=List.length_filterMap_le (t i) (List.range p);rwa [zU] at this
theorem eB_len (n:Nat)(t:mE): ∀i,(eB n t i).length<=i*n
 |0=>by simp [eB]
 |i+1=>by
  rw[Nu,iZ,Nat.succ_mul];have:=eB_len n t i;have:=eR_len t i n;omega
theorem entries_ok (b:Nat)(W:Nat->Prop)(h:H)(n:Nat)(r:V)(ρ:Nat->Nat)(F:Nat->Nat->V)(t:mE)(Y:n<=64)(P:0<n)(R:TbR b W h n r ρ F t)(U:kN n t):
  Ev T 182 [r] h (λv h'=> ∃ws,Own h' v 1 ws h.next/\PVs W h ws (eU n t 0)/\Fr h h'):=by
 refine bH c_ref08_Table_entries rfl rfl ?_
 have w:=R.open.1
 simp(disch:=omega)only[go_sem,c_ref08_Table_entries,aF]
 refine aH (λs c m=> ∃(i:Nat) (d:V) (ws:List V),(∃g:Nat->V,c= [r,g 1,d,aB i,g 4,g 5,g 6,g 7])/\i<=n/\Own m d 1 ws h.next/\PVs W h ws (eB n t i)/\Fr h m/\s=n-i) n
  ⟨0,.aD, [],aA rfl,fF _,Own.aD _ _ _,trivial,Fr.refl h,rfl⟩ ?_
 rintro s c Z ⟨i,d,ws,⟨g,rfl⟩,hi,e,a,f,rfl⟩
 by_cases x:(i:Int)<(n:Int)
 case neg=>
  have L:=bJ x;obtain rfl:i=n:=om
  simp(disch:=omega)only[go_sem,w,L];rw[Gv] at a;exact⟨ws,e,a,f⟩
 have L:=bM x
 have p:i<n:=om
 simp(disch:=omega)only[go_sem,w,L]
 refine loop_end (λx m=> ∃(d:V) (ws:List V),(∃g:Nat->V,x= [r,g 1,d,aB i,g 4,g 5,g 6,g 7])/\Own m d 1 ws h.next/\PVs W h ws (eB n t (i+1))/\Fr h m) ?_ ?_
 ·refine aH (λs c m=> ∃(j:Nat) (d:V) (ws:List V),(∃g:Nat->V,c= [r,g 1,d,aB i,aB j,g 5,g 6,g 7])/\j<=n/\Own m d 1 ws h.next/\PVs W h ws (eB n t i++eR t i j)/\Fr h m/\s=n-j) n
   ⟨0,d,ws,aA rfl,fF _,e,by unfold eR;rw[List.range_zero,List.filterMap_nil,qA];exact a,f,rfl⟩ ?_
  clear e a f hi g
  rintro s c K ⟨j,d,ws,⟨g,rfl⟩,m,e,a,f,rfl⟩
  by_cases o:(j:Int)<(n:Int)
  case neg=>
   have A:=bJ o;obtain rfl:j=n:=om
   simp(disch:=omega)only[go_sem,w,A];exact⟨d,ws,aA rfl,e,by rw[Nu];exact a,f⟩
  have A:=bM o
  have m:j<n:=om
  have s:=R.mono f
  obtain⟨_,o,o,u,o⟩:=s.open
  have O:=o i p
  have G:=s.cell p m
  have B:=R.ent i j p m
  have m:=All2.length a
  have o:=eB_len n t i
  have o:=eR_len t i j
  have o:i*n<=64*64:=Nat.mul_le_mul om Y
  rw[iZ] at m
  cases hto:t i j with
  |none=>
   rw[hto] at B;rw[B.nil] at G;simp(disch:=omega)only[go_sem,w,A,u.ixa,O,G];rw[dY j];refine⟨n-(j+1),om,j+1,d,ws,aA rfl,om,e.fr ((Fr.refl K).bN om),?_,f.bN om,rfl⟩;rw[Qc,hto];simpa using a
  |some y=>
   rw[hto] at B;have q:PV W h (F i j) y:=B;have N:=vX q (bV.ne P (U.isP _ _ _ hto)) true;generalize F i j=o at G q N;obtain⟨S,m⟩:=JR K.next;simp(disch:=omega)only[go_sem,w,A,u.ixa,O,G,N,cJ _ (z:= .aD) q.dR.1 q.dR.2];obtain⟨m,m,J,Q,p,_⟩:=app_one (v:=o) e f om (bytes:=24) om;simp(disch:=omega)only[go_sem,m];rw[dY j];refine⟨n-(j+1),om,j+1,_,_,aA rfl,om,J,?_,Q,rfl⟩;rw[Qc,hto,←oF];exact a.append (PVs.one q)
 rintro c K ⟨d,ws,⟨g,rfl⟩,e,a,f⟩
 simp(disch:=omega)only[go_sem]
 rw[dY i]
 exact⟨n-(i+1),om,i+1,d,ws,aA rfl,om,e,a,f,rfl⟩
theorem PVs.open {W:Nat->Prop}{v:V}(sv:SV h v 1 ws)(p:PVs W h ws l):dA v=some (aB (l.length:Int))/\ ∃id off,Sl v 1 l.length id off/\ ∀i,i<l.length->id<h.next/\h.cell id (off+i)=some (ws.getD i .undef)/\PV W h (ws.getD i .undef) (l.getD i []):=by
 have a:=All2.length p;refine⟨by unfold dA;rw[SV.len sv (n:=l.length) om om];rfl,?_⟩;obtain⟨id,off,c,a,b⟩:=SV.shape sv l.length om om;refine⟨id,off,c,λi hi=>⟨a om,?_,?_⟩⟩
 ·rw[b i om];simp [List.getD,show i<ws.length by omega]
 ·obtain⟨w,a,b⟩:=PVs.at p hi
  rw[List.getD,a];exact b
theorem mem_take {α:Type}{l:List α}{x d:α}:x∈l.take k↔ ∃q,q<k/\q<l.length/\l.getD q d=x:=by
 constructor
 ·intro h
  obtain⟨q,a,e⟩:=uK.1 h;rw[xF] at a;refine⟨q,om,om,?_⟩;rw[List.getElem_take] at e;rw[List.getD,eV om,←e];rfl
 ·rintro⟨q,h1,h2,e⟩
  rw[List.getD,eV h2] at e;refine uK.2 ⟨q,by rw[xF];omega,?_⟩;rw[List.getElem_take];exact e
theorem mem_take_succ {x:List Nat}(c:k<l.length):x∈l.take (k+1)↔x∈l.take k∨l.getD k []=x:=by
 rw[mem_take (d:= []),mem_take (d:= [])];constructor
 ·rintro⟨q,b,a,e⟩
  by_cases h:q=k
  ·subst h;exact .inr e
  ·exact .inl ⟨q,om,a,e⟩
 ·rintro (⟨q,b,a,e⟩|e)
  ·exact⟨q,om,a,e⟩
  ·exact⟨k,om,c,e⟩
theorem frF_take {L:LN}(a:k<L.length):(L.take (k+1)).filter (λy=>decide (y∉l))=(L.take k).filter (λy=>decide (y∉l))++if L.getD k []∈l then [] else [L.getD k []]:=by
 rw[take_getD [] a,List.filter_append];generalize L.getD k []=z
 by_cases e:z∈l<;>simp [e,List.filter]
theorem fresh_ok (b:Nat)(W:Nat->Prop)(h:H)(n:Nat)(Q vl:V)(wl:List V)(l:LN)(ρ:Nat->Nat)(F:Nat->Nat->V)(t:mE)(hn:n<=64)(h0:0<n)(R:TbR b W h n Q ρ F t)(TI:kN n t)(sl:SV h vl 1 wl)(pl:PVs W h wl l)(hl: ∀x∈l,bV n x)(ll:l.length<1000000):
  Ev T 183 [Q,vl] h (λv h'=> ∃ws,Own h' v 1 ws h.next/\PVs W h ws (DN n t l)/\Fr h h'):=by
 refine bH c_ref08_Table_fresh rfl rfl ?_
 simp(disch:=omega)only[go_sem,c_ref08_Table_fresh,aF]
 refine (entries_ok b W h n Q ρ F t hn h0 R TI).mono ?_
 rintro ve h1 ⟨we,oe,pe,f1⟩
 obtain⟨L,hL⟩:=JR (eU n t 0)
 have EP: ∀y∈L,bV n y:=λy hy=>TI.Sh y (by rw[hL];exact hy)
 have lL:L.length<=4096:=by
  rw[←hL,←Gv];have:=eB_len n t n;have:=Nat.mul_le_mul hn hn;omega
 unfold DN
 rw[hL] at pe ⊢
 have a7:PVs W h1 we L:=PVs.fx pe (Fx.of f1)
 have b1:=All2.length pe
 obtain⟨a5,A,m,a2,a8⟩:=PVs.open oe.sv a7
 obtain⟨a3,a1,e,b0,a6⟩:=PVs.open sl pl
 simp(disch:=omega)only[go_sem]
 refine aH (λk' a hh=> ∃(i:Nat) (P:V) (ws:List V),(∃g:Nat->V,a= [Q,vl,g 2,P,ve,aB i,g 6,g 7,g 8,g 9,g 10])/\i<=L.length/\Own hh P 1 ws h1.next/\PVs W h ws ((L.take i).filter λy=>decide (y∉l))/\Fr h1 hh/\k'=L.length-i) L.length
  ⟨0,.aD, [],aA rfl,fF _,Own.aD _ _ _,trivial,Fr.refl h1,rfl⟩ ?_
 rintro k' a h2 ⟨i,P,ws,⟨g,rfl⟩,hi,ow,j,f,rfl⟩
 by_cases w:(i:Int)<(L.length:Int)
 case neg=>
  have e1:=bJ w;obtain rfl:i=L.length:=om
  simp(disch:=omega)only[go_sem,a5,e1];rw[List.take_length] at j;exact⟨ws,ow.le f1.next,j,f1.trans f⟩
 have e1:=bM w
 have q:i<L.length:=om
 obtain⟨i1,c1,U⟩:=a8 i q
 have Y:=EP _ (getD_mem (d:= []) q)
 obtain⟨y,hy⟩:=JR (L.getD i [])
 have O:PV W h (we.getD i .undef) (L.getD i []):=by
  obtain⟨w,o,h4⟩:=PVs.at pe q;rw[List.getD,o];exact h4
 rw[hy] at U Y O
 generalize we.getD i .undef=vy at c1 U O
 simp(disch:=omega)only[go_sem,a5,e1]
 refine bX (λw hh=>(∃g:Nat->V,w= [Q,vl,g 2,P,ve,aB i,.bool (decide (y∈l)),g 7,g 8,g 9,g 10])/\Fr h2 hh) ?_ ?_
 ·refine aH (λk' a hh=> ∃(k:Nat) (s:Bool),(∃g:Nat->V,a= [Q,vl,g 2,P,ve,aB i,.bool s,aB k,g 8,g 9,g 10])/\k<=l.length/\(s=true↔y∈l.take k)/\Fr h2 hh/\k'=l.length-k) l.length
   ⟨0,false,aA rfl,fF _,by simp,Fr.refl h2,rfl⟩ ?_
  clear g
  rintro k' a o ⟨k,s,⟨g,rfl⟩,w,hs,B,rfl⟩
  cases s with
  |true=>
   have p:decide (y∈l)=true:=bM (List.mem_of_mem_take (hs.1 rfl));simp(disch:=omega)only[go_sem];exact⟨by rw[p];exact aA rfl,B⟩
  |false=>
  have G:y∉l.take k:=λh=>by have:=hs.2 h;cases this
  by_cases r:(k:Int)<(l.length:Int)
  case neg=>
   have p:=bJ r;obtain rfl:k=l.length:=om
   rw[List.take_length] at G;have s:decide (y∈l)=false:=bJ G;simp(disch:=omega)only[go_sem,a3,p];exact⟨by rw[s];exact aA rfl,B⟩
  have p:=bM r
  have J:k<l.length:=om
  obtain⟨i2,c2,p2⟩:=a6 k J
  have Z:=hl _ (getD_mem (d:= []) J)
  obtain⟨z,hz⟩:=JR (l.getD k [])
  rw[hz] at p2 Z
  generalize wl.getD k .undef=vz at c2 p2
  have c:=f.trans B
  have N:=f1.trans c
  have K:o.cell A (m+i)=some vy:=by rw[c.cell i1];exact c1
  have r:o.cell a1 (e+k)=some vz:=by rw[N.cell i2];exact c2
  have v1:=SV.dJ U.si
  have v2:=SV.dJ p2.si
  simp(disch:=omega)only[go_sem,a3,p,a2.ixa,K,b0.ixa,r]
  have fb:Fr o (H.mk o.tr (o.next+10)):=(Fr.refl o).bN om
  refine (same_ok vy vz _ _ _ (U.si.mono (c.trans fb)) (p2.si.mono (N.trans fb)) (by rw[aQ,Y.len];omega) (by rw[aQ,Z.len];omega)).mono ?_
  rintro _ h4 ⟨rfl,f4⟩
  have u:=fb.trans f4
  have r:h4.cell A (m+i)=some vy:=by rw[(c.trans u).cell i1];exact c1
  have s:h4.cell a1 (e+k)=some vz:=by rw[(N.trans u).cell i2];exact c2
  simp(disch:=omega)only[go_sem,r,s,v1,v2]
  rw[dY k]
  refine⟨l.length-(k+1),om,k+1,_,aA rfl,om,?_,B.trans u,rfl⟩
  rw[Co,mem_take_succ J,hz]
  exact⟨λe=> .inr (zi_inj e).symm,λh=>h.elim (λh=>(G h).elim) λe=>by rw[e]⟩
 rintro a o ⟨⟨g,rfl⟩,B⟩
 have c:=f.trans B
 have K:o.cell A (m+i)=some vy:=by rw[c.cell i1];exact c1
 have a0:=ow.fr B
 have a:=All2.length j
 have a:((L.take i).filter λy=>decide (y∉l)).length<=i:=jK (List.length_filter_le _ _) (by rw[xF];omega)
 have ft:=frF_take (L:=L) (l:=l) q
 rw[hy] at ft
 by_cases hm:y∈l
 ·have p:=bM hm
  simp(disch:=omega)only[go_sem,p]
  rw[dY i]
  rw[aV hm,qA] at ft
  exact⟨L.length-(i+1),om,i+1,P,ws,aA rfl,om,a0,by rw[ft];exact j,c,rfl⟩
 ·have p:=bJ hm
  obtain⟨h4,a,a9,f4,e,_⟩:=app_one (v:=vy) a0 c om (bytes:=24) om
  simp(disch:=omega)only[go_sem,p,a2.ixa,K,cJ _ (z:= .aD) U.dR.1 U.dR.2,a]
  rw[dY i]
  rw[aZ hm] at ft
  exact⟨L.length-(i+1),om,i+1,_,_,aA rfl,om,a9,by rw[ft];exact j.append (PVs.one O),f4,rfl⟩
end
structure CJ (b:Nat)(W:Nat->Prop)(h hh:H)(n:Nat)(tv:V)(ρ:Nat->Nat)(L:List Nat->Prop)(t0:mE)(vl:V)(l:LN)(t:mE):Prop where
 ex: ∃W' F wl,TbR b W' hh n tv ρ F t/\Own hh vl 1 wl h.next/\PVs W' hh wl l/\BlkIn W' vl/\ ∀id,id<h.next->W' id->W id
 fx:Fx W h hh
 cls:sW n L t l
 sub:Sub t0 t
theorem clF_pos {n:Nat}{t:mE}{x:List Nat}{L:List Nat->Prop}{l:LN}(c:sW n L t l)(b:kN n (iD t n x))(h:(eU n t 0).length<(eU n (iD t n x) 0).length):0<(DN n (iD t n x) l).length:=by
 refine List.length_pos_iff.2 λe=>?_
 unfold DN at e;rw[List.filter_eq_nil_iff] at e
 have:(eU n (iD t n x) 0).length<=(eU n t 0).length:=List.Nodup.length_le_of_subset (qT b) λy a=>by
  have:=e y a;simp at this;exact (c.mem y).1 this
 omega
theorem ents_le (n:Nat)(t:mE)(a:n<=64):(eU n t 0).length<=4096:=by
 rw[←Gv];have:=eB_len n t n;have:=Nat.mul_le_mul a a;omega
theorem Pr_app {n:Nat}{t:mE}{l m:LN}{a c:Nat}(d:a<l.length)(b:c<l.length):Pr n t (l++m) a c↔Pr n t l a c:=by
 have e: ∀k,k<l.length->(l++m).getD k []=l.getD k []:=λk f=>by rw[List.getD,List.getD,wE f]
 unfold Pr;rw[e a d,e c b]
theorem close_ok (b:Nat)(W:Nat->Prop)(h:H)(n:Nat)(w:V)(ρ:Nat->Nat)(F:Nat->Nat->V)(t:mE)(L:List Nat->Prop)(hn:n<=7)(h0:0<n)(hb:b<=h.next)(R:TbR b W h n w ρ F t)(hL: ∀g,L g->bV n g)(tl:Ao n L t):
  Ev T 165 [w] h (λ_ h'=> ∃W' F' t',TbR b W' h' n w ρ F' t'/\Ao n L t'/\Sub t t'/\xH n t'/\Fx W h h'/\ ∀id,id<h.next->W' id->W id):=by
 have b6:n^n<=823543:=by
  have: ∀n,n<=7->n^n<=823543:=by decide
  exact this n hn
 refine bH c_ref08_Table_close rfl rfl ?_
 simp(disch:=omega)only[go_sem,c_ref08_Table_close,aF]
 refine (entries_ok b W h n w ρ F t om h0 R tl.tab).mono ?_
 rintro p h1 ⟨Y,Q,K,f1⟩
 simp(disch:=omega)only[go_sem]
 refine aH (λk' r Z=> ∃(i:Nat) (p:V) (l:LN) (t':mE),(∃g:Nat->V,r= [w,p,aB i,g 3,g 4,g 5,g 6,g 7,g 8,g 9,g 10,g 11])/\CJ b W h Z n w ρ L t p l t'/\i<=l.length/\(∀a c,a<i->c<i->Pr n t' l a c)/\k'=1000000-i) 1000000
  ⟨0,p,eU n t 0,t,aA rfl,⟨⟨λid=>W id∨ ∃B m c,p= .sl id B m c,F,Y,?_,Q,?_,λid B m c e=> .inr ⟨_,_,_,e⟩,λid y f=>?_⟩,Fx.of f1,sW.start tl,Sub.refl t⟩,fF _,λa c ha=>om,rfl⟩ ?_
 ·refine R.go (Fx.of f1) (λi hi=>f1.get _ (R.win _ (R.wb i hi))) (λid y f=>?_) (λid f=> .inl f) (λid f=>?_) (λid f=>?_)
  ·rcases f with f|⟨B,m,c,e⟩
   ·exact f
   ·have:=(Q.in _ _ _ _ e).2.1;omega
  ·rcases f with f|⟨B,m,c,e⟩
   ·exact iP (R.win id f) f1.next
   ·exact (Q.in _ _ _ _ e).1
  ·rcases f with f|⟨B,m,c,e⟩
   ·exact R.low id f
   ·have:=(Q.in _ _ _ _ e).2.1;omega
 ·refine PVs.go K (Fx.of f1) λid y f=>?_
  rcases f with f|⟨B,m,c,e⟩
  ·exact f
  ·have:=(Q.in _ _ _ _ e).2.1;omega
 ·rcases f with f|⟨B,m,c,e⟩
  ·exact f
  ·have:=(Q.in _ _ _ _ e).2.1;omega
 clear Q K f1 p Y h1
 rintro k' r h1 ⟨i,p,l,s,⟨g,rfl⟩,J,hi,N,rfl⟩
 have lb:=J.cls.bound
 have a0:dA p=some (aB (l.length:Int)):=by
  obtain⟨⟨W',F',Y,_,Q,K,_⟩,_⟩:=J;exact (PVs.open Q.sv K).1
 by_cases v:(i:Int)<(l.length:Int)
 case neg=>
  have U:=bJ v;obtain rfl:i=l.length:=om
  simp(disch:=omega)only[go_sem,a0,U];obtain⟨⟨W',F',Y,R',_,_,_,hW⟩,fx,cls,sub⟩:=J;exact⟨W',F',s,R',cls.tl,sub,cls.closed N,fx,hW⟩
 have U:=bM v
 have o:i<l.length:=om
 simp(disch:=omega)only[go_sem,a0,U]
 refine loop_end (λvs Z=> ∃(p:V) (l:LN) (t':mE),(∃g:Nat->V,vs= [w,p,aB i,g 3,g 4,g 5,g 6,g 7,g 8,g 9,g 10,g 11])/\CJ b W h Z n w ρ L t p l t'/\i<l.length/\ ∀a c,a<i+1->c<i+1->Pr n t' l a c) ?_ ?_
 ·refine aH (λk' r Z=> ∃(k:Nat) (p:V) (l:LN) (t':mE),(∃g:Nat->V,r= [w,p,aB i,aB k,g 4,g 5,g 6,g 7,g 8,g 9,g 10,g 11])/\k<=i+1/\CJ b W h Z n w ρ L t p l t'/\i<l.length/\(∀a c,a<i->c<i->Pr n t' l a c)/\(∀c,c<k->Pr n t' l i c/\Pr n t' l c i)/\k'=i+1-k) (i+1)
   ⟨0,p,l,s,aA rfl,fF _,J,o,N,λc hc=>om,rfl⟩ ?_
  clear J hi N lb a0 v U o p l s g
  rintro k' r h2 ⟨k,p,l,s,⟨g,rfl⟩,hk,J,o,N,hQ,rfl⟩
  by_cases v:(k:Int)<=(i:Int)
  case neg=>
   have U:=bJ v;obtain rfl:k=i+1:=om
   simp(disch:=omega)only[go_sem,U];refine⟨p,l,s,aA rfl,J,o,λa c ha hc=>?_⟩
   by_cases ea:a=i
   ·subst ea;exact (hQ c hc).1
   ·by_cases ec:c=i
    ·subst ec;exact (hQ a ha).2
    ·exact N a c om om
  have U:=bM v
  have b6:k<=i:=om
  simp(disch:=omega)only[go_sem,U]
  refine loop_end (λvs Z=> ∃(p:V) (l:LN) (t':mE),(∃g:Nat->V,vs= [w,p,aB i,aB k,g 4,g 5,g 6,g 7,g 8,g 9,g 10,g 11])/\CJ b W h Z n w ρ L t p l t'/\i<l.length/\(∀a c,a<i->c<i->Pr n t' l a c)/\ ∀c,c<k+1->Pr n t' l i c/\Pr n t' l c i) ?_ ?_
  ·refine aH (λk' r Z=> ∃(q:Nat) (p:V) (l:LN) (t':mE),(∃g:Nat->V,r= [w,p,aB i,aB k,aB q,g 5,g 6,g 7,g 8,g 9,g 10,g 11])/\q<=2/\CJ b W h Z n w ρ L t p l t'/\i<l.length/\(∀a c,a<i->c<i->Pr n t' l a c)/\(∀c,c<k->Pr n t' l i c/\Pr n t' l c i)/\(0<q->Pr n t' l i k)/\(1<q->Pr n t' l k i)/\k'=2-q) 2
    ⟨0,p,l,s,aA rfl,om,J,o,N,hQ,λh=>om,λh=>om,rfl⟩ ?_
   clear J N hQ v U o p l s g
   rintro k' r h3 ⟨q,p,l,s,⟨g,rfl⟩,hq,J,o,N,hQ,hA,hB,rfl⟩
   by_cases v:(q:Int)<2
   case neg=>
    have U:=bJ v;have b6:q=2:=om
    simp(disch:=omega)only[go_sem,U];refine⟨p,l,s,aA rfl,J,o,N,λc hc=>?_⟩
    by_cases ec:c=k
    ·subst ec;exact⟨hA om,hB om⟩
    ·exact hQ c om
   have U:=bM v
   obtain⟨⟨W',F',Y,R',Q,K,bl,hW⟩,fx,cls,sub⟩:=J
   obtain⟨a0,a6,P,b4,b6⟩:=PVs.open Q.sv K
   have lb:=cls.bound
   obtain⟨i1,c1,p1⟩:=b6 i o
   obtain⟨_,c2,p2⟩:=b6 k om
   have ga:=cls.gen _ (getD_mem (d:= []) o)
   have gc:=cls.gen _ (getD_mem (d:= []) (show k<l.length by omega))
   obtain⟨a,ea⟩:=JR (l.getD i [])
   obtain⟨c,ec⟩:=JR (l.getD k [])
   rw[ea] at p1 ga
   rw[ec] at p2 gc
   have A:=ga.isP hL
   have C:=gc.isP hL
   generalize Y.getD i .undef=va at c1 p1
   generalize Y.getD k .undef=vc at c2 p2
   have v1:=SV.dJ p1.si
   have v2:=SV.dJ p2.si
   have vv:=SV.dJ Q.sv
   simp(disch:=omega)only[go_sem,U,b4.ixa,c1,c2]
   have fb:Fr h3 (H.mk h3.tr (h3.next+10)):=(Fr.refl h3).bN om
   refine (kmul_ok va vc a c _ (by rw[A.len];omega) (p1.si.mono fb) (p2.si.mono fb) (λj hj=>by rw[C.len];exact A.dZ (by rw[←A.len];exact hj))).mono ?_
   rintro vx h4 ⟨s4,f4,l4⟩
   have z:=fb.trans f4
   have b2:h4.cell a6 (P+i)=some va:=by rw[z.cell i1];exact c1
   have b3:h4.cell a6 (P+k)=some vc:=by rw[z.cell i1];exact c2
   simp(disch:=omega)only[go_sem,b2,b3,v1,v2]
   have px:PV W' h4 vx (bE a c):=PV.fresh s4 l4 (λid y=>iP (R'.win id y) fb.next)
   refine kE (λvs Z=> ∃(vx:V) (x:List Nat),(∃g:Nat->V,vs= [w,p,aB i,aB k,aB q,vx,g 6,g 7,g 8,g 9,g 10,g 11])/\PV W' Z vx x/\(q=0->x=bE a c)/\(q=1->x=bE c a)/\fE n L x/\Fr h3 Z) ?_ ?_
   ·refine bB (λZ=>?_) (λZ=>?_)
    ·have Z:(1:Int)=(q:Int):=om
     simp(disch:=omega)only[go_sem,b4.ixa,b2,b3]
     have a4:Fr h4 (H.mk h4.tr (h4.next+10)):=(Fr.refl h4).bN om
     refine (kmul_ok vc va c a _ (by rw[C.len];omega) (p2.si.mono (z.trans a4)) (p1.si.mono (z.trans a4)) (λj hj=>by rw[A.len];exact C.dZ (by rw[←C.len];exact hj))).mono ?_
     rintro vy h5 ⟨s5,f5,l5⟩
     have b1:=a4.trans f5
     have A:h5.cell a6 (P+i)=some va:=by rw[(z.trans b1).cell i1];exact c1
     have Z:h5.cell a6 (P+k)=some vc:=by rw[(z.trans b1).cell i1];exact c2
     simp(disch:=omega)only[go_sem,A,Z,v1,v2]
     refine .inl ⟨vy,bE c a,aA rfl,PV.fresh s5 l5 (λid y=>iP (R'.win id y) (z.trans a4).next),λe=>om,λ_=>rfl,gc.app hL ga,z.trans b1⟩
    ·simp(disch:=omega)only[go_sem]
     exact .inl ⟨vx,bE a c,aA rfl,px,λ_=>rfl,λe=>om,ga.app hL gc,z⟩
   clear px s4 l4 z b2 b3 f4 fb vx h4
   rintro r h4 ⟨vx,x,⟨g,rfl⟩,px,b8,b7,gx,f4⟩
   have R4:=R'.mono f4
   simp(disch:=omega)only[go_sem]
   refine (entries_ok b W' h4 n w ρ F' s om h0 R4 cls.tl.tab).mono ?_
   rintro P h5 ⟨z,A,z,f5⟩
   have l5:dA P=some (aB ((eU n s 0).length:Int)):=(PVs.open A.sv (PVs.fx z (Fx.of f5))).1
   have z:=ents_le n s om
   simp(disch:=omega)only[go_sem,l5]
   refine (insert_ok b W' h5 n w ρ F' s vx x om h0 (R4.mono f5) (PV.mono px f5) (gx.isP hL) cls.tl.tab).mono ?_
   rintro _ h6 ⟨F6,rfl,Z,P⟩
   obtain⟨u,G,a2,m,hm⟩:=cls.step hL gx
   simp(disch:=omega)only[go_sem]
   refine (entries_ok b W' h6 n w ρ F6 _ om h0 Z u.tl.tab).mono ?_
   rintro v7 h7 ⟨z,o7,z,A⟩
   have l7:dA v7=some (aB ((eU n (iD s n x) 0).length:Int)):=(PVs.open o7.sv (PVs.fx z (Fx.of A))).1
   have z:=ents_le n (iD s n x) om
   have R7:=Z.mono A
   have z:=f4.trans f5
   have a3:Fx W' h3 h7:=((Fx.of z).trans (R4.wbx P) (λ_ _ h=>h)).trans (Fx.of A:Fx W' h6 h7) (λ_ _ h=>h)
   have a1: ∀j,j<n->ρ j<h.next:=λj hj=>R.win _ (R.wb j hj)
   have b0:Own h7 p 1 Y h.next:=by
    refine (((Q.fr z).keep P.next λid B m c e y=>P.get id y λf=>?_).fr A);obtain⟨j,hj,rfl⟩:=f;have:=(Q.in _ _ _ _ e).2.1;have:=a1 j hj;omega
   have O:PVs W' h7 Y l:=PVs.fx K a3
   simp(disch:=omega)only[go_sem,l7]
   have a7: ∀z h',CJ b W h h' n w ρ L t z (l++m) (iD s n x)->CJ b W h h' n w ρ L t z (l++m) (iD s n x)/\i<(l++m).length/\(∀a c,a<i->c<i->Pr n (iD s n x) (l++m) a c)/\(∀c,c<k->Pr n (iD s n x) (l++m) i c/\Pr n (iD s n x) (l++m) c i)/\(0<q+1->Pr n (iD s n x) (l++m) i k)/\(1<q+1->Pr n (iD s n x) (l++m) k i):=λz h' J=>by
    have z:k<l.length:=om
    refine⟨J,by rw[iZ];omega,λa c h1 h2=>(N a c h1 h2).mono G om om,λc hc=>⟨(hQ c hc).1.mono G o om,(hQ c hc).2.mono G om o⟩,λ_=>?_,λ_=>?_⟩
    ·by_cases a:q=0
     ·rw[Pr_app o z]
      unfold Pr;rw[ea,ec,←b8 a];exact a2
     ·exact (hA om).mono G o z
    ·have a:q=1:=om
     rw[Pr_app z o];unfold Pr;rw[ea,ec,←b7 a];exact a2
   refine bB (λa=>?_) (λa=>?_)
   ·have hg:(eU n s 0).length<(eU n (iD s n x) 0).length:=om
    have em:m=DN n (iD s n x) l:=by
     unfold DL at hm;rw[aV hg] at hm;exact (List.append_cancel_left hm).symm
    have z:=clF_pos cls u.tl.tab hg
    rw[←em] at z
    rw[hm] at u
    have a:=u.bound
    rw[iZ] at a
    simp(disch:=omega)only[go_sem]
    refine (fresh_ok b W' h7 n w p Y l ρ F6 _ om h0 R7 u.tl.tab b0.sv O cls.isP om).mono ?_
    rintro a h8 ⟨P,K,p8,f8⟩
    rw[←em] at p8
    have a:=All2.length O
    have a:=All2.length p8
    have b5:=b0.fr f8
    have R8:=R7.mono f8
    obtain⟨A,a,p9⟩:=b5.push (bytes:=24) K.sv (n:=l.length) (m:=m.length) om om om z ⟨om,om⟩
    have z:=p9.next
    have a5:=p9.fx bl
    have z:=a3.next
    have z:=f8.next
    have z:=fx.next
    simp(disch:=omega)only[go_sem,a]
    rw[dY q]
    have a8: ∀id,id<h8.next->(W' id∨id=h8.next)->W' id:=λid h1 h2=>by
     rcases h2 with h2|h2
     ·exact h2
     ·omega
    have J':CJ b W h A n w ρ L t (.sl h8.next 0 (l.length+m.length) (.un 1)) (l++m) (iD s n x):=by
     refine⟨⟨λid=>W' id∨id=h8.next,F6,Y++P,?_,p9.own om om om,?_,λid B m c e=>by cases e;exact .inr rfl,λid y f=>?_⟩,?_,u,sub.trans G⟩
     ·refine R8.go a5 (λj hj=>p9.old _ (by have:=a1 j hj;omega) λid B m c e a=>by have:=(b5.in _ _ _ _ e).2.1;have:=a1 j hj;omega) a8 (λid f=> .inl f) (λid f=>?_) (λid f=>?_)
      ·rcases f with f|f
       ·have:=R8.win id f;omega
       ·omega
      ·rcases f with f|f
       ·exact R8.low id f
       ·omega
     ·exact (PVs.go (PVs.fx O (Fx.of f8)) a5 a8).append (PVs.go (PVs.fx p8 (Fx.of f8)) a5 a8)
     ·rcases f with f|f
      ·exact hW id y f
      ·omega
     ·exact fx.trans ((a3.trans (Fx.of f8:Fx W' h7 h8) (λ_ _ h=>h)).trans a5 (λ_ _ h=>h)) hW
    obtain⟨j1,j2,j3,j4,j5,j6⟩:=a7 _ _ J'
    exact⟨2-(q+1),om,q+1,_,_,_,aA rfl,om,j1,j2,j3,j4,j5,j6,rfl⟩
   ·have hg: ¬(eU n s 0).length<(eU n (iD s n x) 0).length:=om
    have em:m= []:=by
     unfold DL at hm;rw[aZ hg] at hm;exact List.append_right_eq_self.1 hm.symm
    simp(disch:=omega)only[go_sem]
    rw[dY q]
    have J':CJ b W h h7 n w ρ L t p (l++m) (iD s n x):=by
     rw[hm] at u;exact⟨⟨W',F6,Y,R7,b0,by rw[em,qA];exact O,bl,hW⟩,fx.trans a3 hW,u,sub.trans G⟩
    obtain⟨j1,j2,j3,j4,j5,j6⟩:=a7 _ _ J'
    exact⟨2-(q+1),om,q+1,_,_,_,aA rfl,om,j1,j2,j3,j4,j5,j6,rfl⟩
  rintro r h3 ⟨p,l,s,⟨g,rfl⟩,J,o,N,hQ⟩
  have lb:=J.cls.bound
  simp(disch:=omega)only[go_sem]
  rw[dY k]
  exact⟨i+1-(k+1),om,k+1,p,l,s,aA rfl,om,J,o,N,hQ,rfl⟩
 clear J hi N lb a0 v U o p l s g
 rintro r h2 ⟨p,l,s,⟨g,rfl⟩,J,o,N⟩
 have lb:=J.cls.bound
 simp(disch:=omega)only[go_sem]
 rw[dY i]
 exact⟨1000000-(i+1),om,i+1,p,l,s,aA rfl,J,om,N,rfl⟩
theorem orbK_len (t:mE)(i k:Nat):(sU t i k).length<=k:=by
 unfold sU;have:=List.length_filter_le (λp=>p==i||(t i p).isSome) (List.range k);rwa [zU] at this
theorem orbit_ok (b:Nat)(W:Nat->Prop)(h:H)(n:Nat)(A:V)(ρ:Nat->Nat)(F:Nat->Nat->V)(t:mE)(i:Nat)(Q:n<=64)(P:0<n)(hi:i<n)(R:TbR b W h n A ρ F t)(N:kN n t):
  Ev T 184 [A,aB i] h (λv h'=>Own h' v 1 (ints (zi (sU t i n))) h.next/\Fr h h'):=by
 refine bH c_ref08_Table_orbit rfl rfl ?_
 have w:=R.open.1
 simp(disch:=omega)only[go_sem,c_ref08_Table_orbit,aF]
 refine aH (λK c O=> ∃(p:Nat) (j:V),(∃g:Nat->V,c= [A,aB i,g 2,j,aB p,g 5,g 6])/\i<=p/\p<=n/\Own O j 1 (ints (zi (sU t i p))) h.next/\Fr h O/\K=n-p) (n-i)
  ⟨i,.aD,aA rfl,eS _,om,by rw[Li N];exact Own.aD _ _ _,Fr.refl h,rfl⟩ ?_
 rintro K c r ⟨p,j,⟨g,rfl⟩,c,c,z,f,rfl⟩
 by_cases q:(p:Int)<(n:Int)
 case neg=>
  have l:=bJ q;obtain rfl:p=n:=om
  simp(disch:=omega)only[go_sem,w,l];exact⟨z,f⟩
 have l:=bM q
 have c:p<n:=om
 have q:=R.mono f
 obtain⟨_,g,g,m,g⟩:=q.open
 have J:=g i hi
 have x:=q.cell hi c
 have u:=R.ent i p hi c
 have c:=orbK_len t i p
 have L:=Qz (t:=t) i p
 have step:(p=i∨(t i p).isSome)-> ∃d,qY (r.new (.cells false (ints [(p:Int)]))) 1 8 j (.sl r.next 0 1 (.kn 1))=some (.sl (r.next+1) 0 ((sU t i p).length+1) (.un 1),d)/\Own d (.sl (r.next+1) 0 ((sU t i p).length+1) (.un 1)) 1 (ints (zi (sU t i (p+1)))) h.next/\Fr h d:=λc=>by
  obtain⟨d,e,a,k,g,_⟩:=app_one (v:= aB p) z f (by rw[aL,aQ];omega) (bytes:=8) om;rw[aL,aQ] at e a;refine⟨d,e,?_,k⟩;rw[L,aV c,zi_snoc,iN];exact a
 by_cases o:p=i
 ·have s:decide ((p:Int)=(i:Int))=true:=bM om
  obtain⟨d,e,a,k⟩:=step (.inl o)
  simp(disch:=omega)only[go_sem,w,l,s,bls_i1,e]
  rw[dY p]
  exact⟨n-(p+1),om,p+1,_,aA rfl,om,om,a,k,rfl⟩
 have s:decide ((p:Int)=(i:Int))=false:=bJ om
 cases hto:t i p with
 |none=>
  rw[hto] at u;rw[u.nil] at x;simp(disch:=omega)only[go_sem,w,l,s,m.ixa,J,x];rw[dY p];refine⟨n-(p+1),om,p+1,j,aA rfl,om,om,?_,f.bN om,rfl⟩;rw[L,aZ (by rw[hto];simp [o]),qA];exact z.fr ((Fr.refl r).bN om)
 |some y=>
  rw[hto] at u;have G:PV W h (F i p) y:=u;have B:=vX G (bV.ne P (N.isP _ _ _ hto)) true;generalize F i p=c at x G B;obtain⟨d,e,a,k⟩:=step (.inr (by rw[hto];rfl));simp(disch:=omega)only[go_sem,w,l,s,m.ixa,J,x,B,bls_i1,e];rw[dY p];exact⟨n-(p+1),om,p+1,_,aA rfl,om,om,a,k,rfl⟩
theorem Copy.frsh {h h':H}{v:V}{l:List Int}(c:Copy h l v h')(d:0<l.length):Frsh h h' v l:=by
 obtain⟨_,f,e⟩:=c;obtain⟨id,rfl,a,g,b⟩:=e d;exact⟨⟨id,_,rfl,a,g,b,.inl rfl⟩,f⟩
theorem tleast_ok (b:Nat)(W:Nat->Prop)(h:H)(n:Nat)(P:V)(ρ:Nat->Nat)(F:Nat->Nat->V)(t:mE)(d p:Nat)(x:List Nat)(hn:n<=64)(h0:0<n)(K:d<n)(hp:p<n)(R:TbR b W h n P ρ F t)(TI:kN n t)(tw:kW n 0 (iX n t))(a4:(iX n t d).to p=some x):
  Ev T 185 [P,aB d,aB p] h (λv h'=>Frsh h h' v (zi (xX (iX n t) (n-(d+1)) (d+1) x))):=by
 have X:=(oE TI K a4).1
 refine bH c_ref08_Table_least rfl rfl ?_
 obtain⟨lv,a9,a9,a9,a9⟩:=R.open
 simp(disch:=omega)only[go_sem,c_ref08_Table_least,aF,lv]
 refine (kone_ok n h om).mono ?_
 rintro v1 h1 ⟨s1,f1,l1⟩
 simp(disch:=omega)only[go_sem]
 have a2: ∀id,W id->id<h.next:=R.win
 refine kE (λvs j=> ∃vx,(∃g:Nat->V,vs= [P,aB d,aB p,g 3,vx,g 5,g 6,g 7,g 8,g 9,g 10,g 11,g 12,g 13])/\PV W j vx x/\Fr h j) ?_ ?_
 ·have e:(if p=d then some (cH n) else t d p)=some x:=a4
  refine bB (λa9=>?_) (λa9=>?_)
  ·have A:p≠d:=om
   rw[aZ A] at e
   have R1:=R.mono f1
   obtain⟨_,a0,B,L,s⟩:=R1.open
   have cr:=s d K
   have ce:=R1.cell K hp
   have hS:=R1.ent d p K hp
   rw[e] at hS
   have pz:PV W h1 (F d p) x:=hS
   generalize F d p=vz at ce pz
   simp(disch:=omega)only[go_sem,L.ixa,cr,ce]
   exact .inl ⟨vz,aA rfl,pz,f1⟩
  ·have A:p=d:=om
   rw[aV A] at e
   obtain rfl:cH n=x:=Option.some.inj e
   simp(disch:=omega)only[go_sem]
   exact .inl ⟨v1,aA rfl,PV.fresh s1 l1 a2,f1⟩
 clear s1 f1 l1 v1 h1
 rintro c h1 ⟨vx,⟨g,rfl⟩,px,f1⟩
 simp(disch:=omega)only[go_sem]
 rw[dY d]
 refine bX (λvs j=> ∃l,(∃g:Nat->V,vs= [P,g 1,g 2,g 3,l,g 5,g 6,g 7,g 8,g 9,g 10,g 11,g 12,g 13])/\PV W j l (xX (iX n t) (n-(d+1)) (d+1) x)/\bV n (xX (iX n t) (n-(d+1)) (d+1) x)/\Fr h j) ?_ ?_
 ·refine aH (λk' c j=> ∃(k:Nat) (y:List Nat) (l:V),(∃g:Nat->V,c= [P,g 1,g 2,g 3,l,aB k,g 6,g 7,g 8,g 9,g 10,g 11,g 12,g 13])/\d<k/\k<=n/\xX (iX n t) (n-k) k y=xX (iX n t) (n-(d+1)) (d+1) x/\
    PV W j l y/\bV n y/\Fr h j/\k'=n-k) (n-(d+1))
   ⟨d+1,x,vx,aA rfl,om,om,rfl,px,X,f1,rfl⟩ ?_
  clear px f1 vx h1 g
  rintro k' c h2 ⟨k,y,l,⟨g,rfl⟩,e,e,r,hy,Y,f,rfl⟩
  by_cases a6:(k:Int)<(n:Int)
  case neg=>
   have e1:=bJ a6;obtain rfl:k=n:=om
   rw[Nat.sub_self] at r;simp(disch:=omega)only[go_sem,lv,e1];have a8:y=xX (iX k t) (k-(d+1)) (d+1) x:=r;exact⟨l,aA rfl,by rw[←a8];exact hy,by rw[←a8];exact Y,f⟩
  have i:k<n:=om
  have e1:=bM a6
  have R2:=R.mono f
  simp(disch:=omega)only[go_sem,lv,e1]
  refine (orbit_ok b W h2 n P ρ F t k hn h0 i R2 TI).mono ?_
  rintro A h3 ⟨oo,f3⟩
  obtain⟨o,ho⟩:=JR ((iX n t k).orb)
  rw[show sU t k n=o from ho] at oo
  have e:SI h3 A (zi o):=oo.sv
  have lo:=e.lens
  rw[aQ] at lo
  have iO:=(tw k (fF _) i).1
  have a2:o.length<=n:=by rw[←ho];exact orbK_len t k n
  obtain⟨id,b0,sh,a3,hc⟩:=e.open
  rw[aQ] at sh a3 hc
  have a5:=PV.mono hy f3
  obtain⟨a0,B,L,w,s⟩:=a5.si.open
  rw[aQ,Y.len] at L w s
  simp(disch:=omega)only[go_sem]
  refine bX (λvs j=>(∃g:Nat->V,vs= [P,g 1,g 2,g 3,l,aB k,g 6,aB (kP y k o:Int),g 8,g 9,g 10,g 11,g 12,g 13])/\kP y k o<n/\kP y k o∈k::o/\Fr h3 j) ?_ ?_
  ·refine aH (λm' c j=> ∃(m b:Nat),(∃g:Nat->V,c= [P,g 1,g 2,g 3,l,aB k,A,aB b,aB m,g 9,g 10,g 11,g 12,g 13])/\m<=o.length/\b<n/\b∈k::o/\
     kP y b (o.drop m)=kP y k o/\Fr h3 j/\m'=o.length-m) o.length
    ⟨0,k,aA rfl,fF _,i,zJ ..,rfl,Fr.refl h3,rfl⟩ ?_
   rintro m' c Q ⟨m,b1,⟨e,rfl⟩,e,O,z,a,G,rfl⟩
   by_cases Z:(m:Int)<(o.length:Int)
   case neg=>
    have e2:=bJ Z;have e:m=o.length:=om
    rw[e,List.drop_length] at a;have a:b1=kP y k o:=a;simp(disch:=omega)only[go_sem,lo,e2];exact⟨by rw[←a];exact aA rfl,by rw[←a];exact O,by rw[←a];exact z,G⟩
   have e2:=bM Z
   have e:m<o.length:=om
   rw[best_drop _ _ e] at a
   have cq:Q.cell id (b0+m)=some (aB (o.getD m 0:Nat)):=by rw[G.cell (a3 om),hc m e];congr 2;simp [zi,e]
   have a1:o.getD m 0∈o:=by rw[bT e];exact xR e
   have N:=iO.lt i (by rw[ho];exact a1)
   generalize o.getD m 0=q at cq a1 N a
   have e:Q.cell a0 (B+q)=some (aB (y.getD q 0:Nat)):=by rw[G.cell (w om),s q N];congr 2;simp [zi,Y.len,N]
   have g:Q.cell a0 (B+b1)=some (aB (y.getD b1 0:Nat)):=by rw[G.cell (w om),s b1 O];congr 2;simp [zi,Y.len,O]
   simp(disch:=omega)only[go_sem,lo,e2,sh.ixa,cq,L.ixa,e,g]
   have fb:Fr h3 (H.mk Q.tr (Q.next+12)):=G.bN om
   refine bB (λe=>?_) (λe=>?_)
   ·rw[aV om] at a
    simp(disch:=omega)only[go_sem,sh.ixa,cq]
    rw[dY m]
    exact⟨o.length-(m+1),om,m+1,q,aA rfl,om,N,yK _ a1,a,fb,rfl⟩
   ·rw[aZ om] at a
    simp(disch:=omega)only[go_sem]
    rw[dY m]
    exact⟨o.length-(m+1),om,m+1,b1,aA rfl,om,O,z,a,fb,rfl⟩
  rintro c Q ⟨⟨a,rfl⟩,O,z,G⟩
  have a:n-k=(n-(k+1))+1:=om
  rw[a] at r
  have r:xX (iX n t) (n-(k+1)) (k+1) (if kP y k (iX n t k).orb=k then y else bE (((iX n t k).to (kP y k (iX n t k).orb)).getD []) y)=xX (iX n t) (n-(d+1)) (d+1) x:=r
  rw[ho] at r
  have R4:=R2.mono (f3.trans G)
  have a7:=PV.mono a5 G
  generalize kP y k o=q at r O z
  by_cases J:q=k
  ·rw[aV J] at r
   have e0:decide ((q:Int)≠(k:Int))=false:=bJ om
   simp(disch:=omega)only[go_sem,e0]
   rw[dY k]
   exact⟨n-(k+1),om,k+1,y,l,aA rfl,om,om,r,a7,Y,(f.trans f3).trans G,rfl⟩
  rw[aZ J] at r
  have e0:decide ((q:Int)≠(k:Int))=true:=bM om
  have a:q∈(iX n t k).orb:=by
   rcases Dw.1 z with e|e
   ·exact absurd e J
   ·rw[ho];exact e
  obtain⟨u,hu⟩:=iO.to a
  have U:=iO.isP _ _ hu
  have a:(if q=k then some (cH n) else t k q)=some u:=hu
  rw[aZ J] at a
  obtain⟨_,e,e,b2,e⟩:=R4.open
  have cr:=e k i
  have ce:=R4.cell i O
  have hS:=R4.ent k q i O
  rw[a] at hS
  have pu:PV W Q (F k q) u:=hS
  generalize F k q=a at ce pu
  rw[hu] at r
  simp(disch:=omega)only[go_sem,e0,b2.ixa,cr,ce]
  refine (kmul_ok a l u y Q (by rw[U.len];omega) pu.si a7.si (λj a=>by rw[Y.len];exact U.dZ (by rw[←U.len];exact a))).mono ?_
  rintro v a ⟨s5,f5,l5⟩
  simp(disch:=omega)only[go_sem]
  rw[dY k]
  exact⟨n-(k+1),om,k+1,_,v,aA rfl,om,om,r,PV.fresh s5 l5 R4.win,U.mul Y,((f.trans f3).trans G).trans f5,rfl⟩
 rintro c h2 ⟨l,⟨a,rfl⟩,a,Y,e⟩
 simp(disch:=omega)only[go_sem]
 refine (own_ok l _ h2 a.si (by rw[aQ,Y.len];omega)).mono ?_
 rintro v h3 c
 have fr:=Copy.frsh c (by rw[aQ,Y.len];exact h0)
 simp(disch:=omega)only[go_sem]
 obtain⟨⟨id,a,e1,e2,c,f,g⟩,f3⟩:=fr
 exact⟨⟨id,a,e1,by have:=e.next;omega,c,f,g⟩,e.trans f3⟩
theorem rchain_ok (b:Nat)(W0:Nat->Prop)(h:H)(n:Nat)(tv:V)(ρ:Nat->Nat)(F:Nat->Nat->V)(t:mE)(hn:n<=64)(h0:0<n)(R:TbR b W0 h n tv ρ F t)(TI:kN n t)(tw:kW n 0 (iX n t)):
  Ev T 166 [tv] h (λv h'=> ∃O R',ChW (λid=>id<h.next) h' v n O R'/\dW n (S n (iX n t) 0) O R'/\Fr h h'):=by
 refine bH c_ref08_Table_chain rfl rfl ?_
 have lv:=R.open.1
 obtain⟨τ,a2⟩:=JR (iX n t)
 obtain⟨B,hB⟩:=JR h.next
 have bl:kY [aB 0,.aD,.aD] [(0,1,aB n)]=some (.agg [aB n,.aD,.aD]):=by
  have e1:putAt [aB 0,.aD,.aD] 0 [aB n]=some [aB n,.aD,.aD]:=by simp [putAt]
  simp [kY,gI,e1,V.cells,V.one]
 obtain⟨Q,a0⟩: ∃Q,Q=(h.new (.cells false [aB 0,.aD,.aD])).new (.cells false [aB 0,.aD,.aD]):=⟨_,rfl⟩
 have n1:Q.next=B+2:=by rw[a0,H.aX,H.aX,hB]
 have g1:Q.get (B+1)=bW [aB 0,.aD,.aD]:=by
  rw[a0];have:=H.aN (h.new (.cells false [aB 0,.aD,.aD])) (.cells false [aB 0,.aD,.aD]);rwa [H.aX,hB] at this
 have g0:Q.get B=bW [aB 0,.aD,.aD]:=by rw[a0,H.bL _ (by rw[H.aX,hB];omega),←hB,H.aN]
 have f1:Fr h Q:=by rw[a0];exact ((Fr.refl h).new _).new _
 simp(disch:=omega)only[go_sem,c_ref08_Table_chain,aF,hB,lv,bl]
 rw[←a0]
 simp(disch:=omega)only[go_sem,dK Q (B+1) 0 (v:= aB n) (u:= .aD) (w:= .aD) rfl rfl rfl,g1,cW]
 obtain⟨l,Y⟩: ∃l,l=Q.set (B+1) (bW [aB n,.aD,.aD]):=⟨_,rfl⟩
 have n2:l.next=B+2:=by rw[Y];exact n1
 have f2:Fr h l:=by rw[Y];exact f1.set om _
 have g2:l.get (B+1)=bW [aB n,.aD,.aD]:=by rw[Y,H.aT]
 have c0:l.get B=bW [aB 0,.aD,.aD]:=by rw[Y,H.aI _ om];exact g0
 rw[←Y]
 clear a0 Y f1 g0 g1 n1 Q
 refine aH (λk' Z G=> ∃(i:Nat) (W:Nat->Prop) (O:LN) (R':jL) (vO J:V) (b9 b5:List V),(∃g:Nat->V,Z= [tv,.ptr B 0,.ptr (B+1) 0,aB i,g 4,g 5,g 6,g 7,g 8])/\i<=n/\CAcc h G (B+1) B W n O R' vO J b9 b5/\
   G.get B=bW [aB 0,.aD,.aD]/\O.length=i/\R'.length=i/\(∀j,j<i->ChL τ n j (O.getD j []) (R'.getD j []))/\k'=n-i) n
  ⟨0,_, [], [],_,_,_,_,aA rfl,fF _,CAcc.start om om om om om f2 g2,c0,rfl,rfl,λj hj=>om,rfl⟩ ?_
 clear f2 g2 c0 n2 l
 rintro k' Z l ⟨i,W,O,R',vO,J,b9,b5,⟨g,rfl⟩,hi,A,gB,lO,lR,hC,rfl⟩
 by_cases b7:(i:Int)<(n:Int)
 case neg=>
  have e1:=bJ b7;obtain rfl:i=n:=om
  have hr:=aS A.get;have Y:=A.fr.next;simp(disch:=omega)only[go_sem,lv,e1,hr,dK l B 0 (v:= aB i) (u:=vO) (w:=J) rfl (SV.dG A.oO.sv).2.1 (SV.dG A.oR.sv).2.1,gB,cW];have c9:=aS (h:=l.set B (bW [aB i,vO,J])) (H.aT ..);have fB:Fx (· =B) l (l.set B (bW [aB i,vO,J])):=Fx.set l (W:=(· =B)) rfl _;simp(disch:=omega)only[go_sem,c9]
  obtain⟨h3,c4⟩: ∃h3,h3=l.set B (bW [aB i,vO,J]):=⟨_,rfl⟩
  rw[←c4] at fB ⊢;have Y:=A.box c4;refine⟨O,R',by rw[←hB];exact Y.chw,?_,Y.fr⟩;rw[a2] at tw ⊢;have X:=tw.chain (O:=O) (R:=R') lO lR (λj hj=>(hC j hj).1) (λj hj=>(hC j hj).2.1) (λj hj=>(hC j hj).2.2.1) (λj hj=>(hC j hj).2.2.2);exact X
 have e1:=bM b7
 have b2:i<n:=om
 have R2:=R.mono A.fr
 have iO:=(tw i (fF _) b2).1
 rw[a2] at iO
 simp(disch:=omega)only[go_sem,lv,e1]
 refine (orbit_ok b W0 l n tv ρ F t i hn h0 b2 R2 TI).mono ?_
 rintro vo h4 ⟨oo,f4⟩
 obtain⟨q,Y⟩:=JR (sU t i n)
 have c1:q.Pairwise (· < ·):=by rw[←Y];exact Yh i n
 have a4: ∀p,p∈q↔p∈(τ i).orb:=λp=>by rw[←Y,Yj,a2]
 have a0:q.length<=n:=by rw[←Y];exact orbK_len t i n
 have a0:0<q.length:=Xn ((a4 i).2 iO.base)
 rw[Y] at oo
 obtain⟨P,cp,rfl,Y,d6,cP⟩: ∃P cp,vo= .sl P 0 q.length cp/\l.next<=P/\P<h4.next/\ ∀k,k<q.length->h4.cell P k=some (aB (q.getD k 0:Nat)):=by
  rcases oo with ⟨_,e⟩|⟨id,m,d3,Y,e1,e2,Y,e4,e5,e6⟩
  ·have:=congrArg List.length e
   rw[aL,aQ,List.length_nil] at this;omega
  ·rw[aL,aQ,kF] at e2
   subst e2;exact⟨id,d3,e1,e4,e5,λk hk=>by rw[H.aG e6,wE (by rw[aL,aQ];exact hk),tT hk]⟩
 have A4:=A.mono f4
 have pq:PV W h4 (.sl P 0 q.length cp) q:=⟨oo.sv,λY=>by have:=A.wb P Y;omega⟩
 have d4:h4.get B=bW [aB 0,.aD,.aD]:=by rw[f4.get B (A.wb B A.d)];exact gB
 clear A gB R2 oo
 simp(disch:=omega)only[go_sem]
 refine bX (λA G=> ∃(L:V) (r:LN),(∃g:Nat->V,A= [tv,.ptr B 0,.ptr (B+1) 0,aB i,.sl P 0 q.length cp,L,g 6,g 7,g 8])/\PL W G L r/\ChL τ n i q r/\Fr h4 G) ?_ ?_
 ·refine aH (λk' A G=> ∃(k:Nat) (L:V) (ws:List V) (r:LN) (W':Nat->Prop),(∃g:Nat->V,A= [tv,.ptr B 0,.ptr (B+1) 0,aB i,.sl P 0 q.length cp,L,aB k,g 7,g 8])/\k<=q.length/\Own G L 1 ws h4.next/\PVs W' G ws r/\BlkIn W' L/\(∀id,W id->W' id)/\(∀id,W' id->id<G.next/\(W id∨h4.next<=id))/\r.length=k/\
    (∀j,j<k-> ∀y,(τ i).to (q.getD j 0)=some y->r.getD j []=xX τ (n-(i+1)) (i+1) y)/\Fr h4 G/\k'=q.length-k) q.length
   ⟨0,.aD, [], [],W,aA rfl,fF _,Own.aD _ _ _,trivial,λ_ _ _ _ e=>(by cases e),λ_ h=>h,λid h=>⟨A4.wb id h,.inl h⟩,rfl,λj hj=>om,Fr.refl _,rfl⟩ ?_
  rintro k' Z f ⟨k,L,ws,r,W',⟨g,rfl⟩,hk,ow,b4,d7,c5,c2,lr,hr,f5,rfl⟩
  by_cases b3:(k:Int)<(q.length:Int)
  case neg=>
   have e2:=bJ b3;obtain rfl:k=q.length:=om
   simp(disch:=omega)only[go_sem,e2];refine⟨L,r,aA rfl,⟨ws,ow.sv,?_,b4.weak (λid _ h=>c5 id h),Own.capOk ow⟩,⟨c1,a4,lr,hr⟩,f5⟩
   cases L with
   |sl id b0 m c=>exact λh=>by have:=(ow.in _ _ _ _ rfl).2.1;have:=A4.wb id h;omega
   |_=>trivial
  have e2:=bM b3
  have A:k<q.length:=om
  obtain⟨p,hp⟩:=JR (q.getD k 0)
  have ck:f.cell P k=some (aB p):=by
   rw[f5.cell d6,cP k A,hp]
  have Y:p∈(τ i).orb:=(a4 p).1 (by rw[←hp,bT A];exact xR A)
  have A:=iO.lt b2 Y
  obtain⟨y,hy⟩:=iO.to Y
  have Y:=iO.isP _ _ hy
  have Y:=R.mono (A4.fr.trans f5)
  simp(disch:=omega)only[go_sem,e2,ck]
  refine (tleast_ok b W0 f n tv ρ F t i p y hn h0 b2 A Y TI tw (by rw[a2];exact hy)).mono ?_
  rw[a2]
  rintro v7 N p
  have f7:=p.fr
  have p7:PV W' N v7 (xX τ (n-(i+1)) (i+1) y):=p.pv λid h=>(c2 id h).1
  simp(disch:=omega)only[go_sem,cJ N (z:= .aD) p7.dR.1 p7.dR.2]
  obtain⟨K,x⟩: ∃K,K=N.new (.cells false [v7]):=⟨_,rfl⟩
  have g8:K.get N.next=bW [v7]:=by rw[x,H.aN]
  have n8:K.next=N.next+1:=by rw[x,H.aX]
  have f8:Fr N K:=by rw[x];exact (Fr.refl N).new _
  rw[←x]
  have a6:=f7.trans f8
  have p:=ow.fr a6
  have A:=All2.length b4
  obtain⟨h9,a9,p9⟩:=p.push (bytes:=24) (SV.one om g8 (.kn 1)) (n:=k) (m:=1) om rfl om om om
  simp(disch:=omega)only[go_sem,a9]
  rw[dY k]
  have n9:=p9.next
  have f9:Fx W' K h9:=p9.fx d7
  have p:=a6.next
  have b8: ∀id,id<K.next->(W' id∨id=K.next)->W' id:=λid Q l=>by
   rcases l with l|l
   ·exact l
   ·omega
  refine⟨q.length-(k+1),om,k+1,_,_,r++ [xX τ (n-(i+1)) (i+1) y],λid=>W' id∨id=K.next,aA rfl,om,p9.own om rfl (by have:=f5.next;omega),?_,λid b0 m c e=>by cases e;exact .inr rfl,λid h=> .inl (c5 id h),λid h=>?_,by rw[iZ,lr];rfl,λj hj z hz=>?_,?_,rfl⟩
  ·exact (PVs.go (PVs.go b4 (Fx.of a6) (λ_ _ h=>h)) f9 b8).append (PVs.one (PV.go (p7.mono f8) f9 b8))
  ·rcases h with h|h
   ·have:=c2 id h;exact⟨om,this.2⟩
   ·have:=f5.next;exact⟨om,.inr om⟩
  ·by_cases e:j=k
   ·subst e
    rw[hp,hy] at hz
    cases hz
    rw[←lr,getD_app_new]
   ·rw[getD_app_old om]
    exact hr j om z hz
  ·refine⟨by have:=f5.next;omega,λid a8=>?_⟩
   rw[p9.old id (by have:=f5.next;omega) (λc8 b0 m c e e2=>by have:=(ow.in _ _ _ _ e).2.1;omega),a6.get id (by have:=f5.next;omega)]
   exact f5.get id a8
 rintro Z f ⟨L,r,⟨g,rfl⟩,pl,d2,f5⟩
 have s:=A4.mono f5
 have c6:=pq.mono f5
 have d1:f.get B=bW [aB 0,.aD,.aD]:=by rw[f5.get B (A4.wb B A4.d)];exact d4
 have cO:f.cell (B+1) 1=some vO:=by rw[H.aG s.get];rfl
 have cR:f.cell (B+1) 2=some J:=by rw[H.aG s.get];rfl
 obtain⟨ws,b6,p,A,g⟩:=pl
 have pl:PL W f L r:=⟨ws,b6,p,A,g⟩
 have g:=s.fr.next
 have c3:=s.wb _ s.c
 simp(disch:=omega)only[go_sem,cO,cR,cJ _ (z:= .aD) (v:= .sl P 0 q.length cp) rfl rfl]
 obtain⟨h6,b1⟩: ∃h6:H,h6=H.mk ((H.mk f.tr (f.next+3)).new (Ob.cells false [.sl P 0 q.length cp])).tr (f.next+14):=⟨_,rfl⟩
 rw[←b1]
 have p:h6.get (f.next+3)=bW [.sl P 0 q.length cp]:=by rw[b1];exact H.aN (H.mk f.tr (f.next+3)) _
 have n6:h6.next=f.next+14:=by rw[b1]
 have o6: ∀k,k≠f.next+3->h6.get k=f.get k:=λk hk=>by rw[b1];exact H.bL (H.mk f.tr (f.next+3)) (by simpa using hk) _
 have g:Fr f h6:=⟨om,λid a8=>o6 id om⟩
 have A:=All2.length s.aO
 have A:=All2.length s.aR
 obtain⟨N,a7,p7⟩:=(s.oO.fr g).push (bytes:=24) (SV.one om p (.kn 1)) (n:=i) (m:=1) om rfl om om om
 have g:=p7.next
 have a5: ∀k,k<f.next->dH vO k->N.get k=f.get k:=λk Q l=>by rw[p7.old k om l,o6 k om]
 have d5:N.cell (B+1) 2=some J:=by unfold H.cell;rw[a5 (B+1) c3 s.pO,s.get];rfl
 have eR:dJ J J=true:=s.oR.sv.dJ
 have g:L.cells= [L]/\L.one=true:=⟨(SV.dG b6).1,(SV.dG b6).2.1⟩
 simp(disch:=omega)only[go_sem,a7,d5,eR,cJ _ (z:= .aD) g.1 g.2]
 obtain⟨K,x⟩: ∃K:H,K=H.mk ((H.mk N.tr (f.next+8)).new (Ob.cells false [L])).tr N.next:=⟨_,rfl⟩
 rw[←x]
 have g8:K.get (f.next+8)=bW [L]:=by rw[x];exact H.aN (H.mk N.tr (f.next+8)) _
 have n8:K.next=N.next:=by rw[x]
 have o8: ∀k,k≠f.next+8->K.get k=N.get k:=λk hk=>by rw[x];exact H.bL (H.mk N.tr (f.next+8)) (by simpa using hk) _
 have g:Own K J 1 b5 h.next:=s.oR.mono om λid b0 m c e _ a8=>by
  rw[o8 id om,a5 id a8 (λc8 p p p p e2=>s.dis _ _ _ _ p _ _ _ _ e e2.symm)]
 obtain⟨h9,a9,p9⟩:=g.push (bytes:=24) (SV.one om g8 (.kn 1)) (n:=i) (m:=1) om rfl om om om
 have n9:=p9.next
 have c7: ∀k,f.next<=k->dH J k:=λk hk id b0 m c e e2=>by have:=(s.oR.in _ _ _ _ e).1;omega
 have a3: ∀k,k<f.next->dH vO k->dH J k->h9.get k=f.get k:=λk Q l h3=>by rw[p9.old k om h3,o8 k om,a5 k Q l]
 have m:h9.get (B+1)=bW [aB n,vO,J]:=by rw[a3 _ c3 s.pO s.pR];exact s.get
 have c: ∀(G:H) (x:V),dQ (bW [aB n,vO,J]) G (B+1) 1 [x]=some (G.set (B+1) (bW [aB n,x,J])):=λG x=>bF (by simp) G _ x
 have g: ∀(G:H) (x y:V),dQ (bW [aB n,x,J]) G (B+1) 2 [y]=some (G.set (B+1) (bW [aB n,x,y])):=λG x y=>bF (by simp) G _ y
 simp(disch:=omega)only[go_sem,a9,m,c,g]
 rw[dY i]
 obtain⟨ha,hb⟩:h6.next=f.next+14/\K.next=f.next+15:=⟨n6,om⟩
 rw[ha,hb]
 obtain⟨a1,U⟩: ∃a1,a1=(h9.set (B+1) (bW [aB n,.sl (f.next+14) 0 (i+1) (.un 1),J])).set (B+1) (bW [aB n,.sl (f.next+14) 0 (i+1) (.un 1),.sl (f.next+15) 0 (i+1) (.un 1)]):=⟨_,rfl⟩
 rw[←U]
 have c: ∀k,k≠B+1->a1.get k=h9.get k:=λk hk=>by rw[U,H.aI _ hk,H.aI _ hk]
 have g:a1.next=f.next+16:=by rw[U];show h9.next=_;omega
 have d0:=s.step (v4:= .sl P 0 q.length cp) (v5:=L) (o:=q) (r:=r) (h6:=a1) (a:=f.next+14) (b:=f.next+15) (k1:=i+1) (k2:=i+1) c6 pl om om om om om om om (by rw[U,H.aT])
  (by rw[c _ om,p9.old _ om (c7 _ om),o8 _ om,←ha];exact p7.get) (by rw[c _ om,←hb];exact p9.get) (λk Q l h3 h4=>by rw[c k l];exact a3 k Q h3 h4)
 refine⟨n-(i+1),om,i+1,_,_,_,_,_,_,_,aA rfl,om,d0,?_,by rw[iZ,lO];rfl,by rw[iZ,lR];rfl,λj hj=>?_,rfl⟩
 ·rw[a3 B (s.wb B s.d) s.qO s.qR];exact d1
 ·by_cases e:j=i
  ·subst e
   have e1:(O++ [q]).getD j []=q:=by rw[←lO];exact getD_app_new
   have e2:(R'++ [r]).getD j []=r:=by rw[←lR];exact getD_app_new
   rw[e1,e2]
   exact d2
  ·rw[getD_app_old om,getD_app_old om]
   exact hC j om
theorem mks_nils (h:H)(n:Nat)(a:n<=100000):vH h 1 24 [.aD] (aB n) (aB n)=some (.sl h.next 0 n (.kn n),h.new (.cells false (rc n λ_=> .aD))):=by
 have e:dO [V.aD] n=rc n λ_=> .aD:=(yS (by simp [dO]) λi hi=>by simp [dO,hi,Nat.mod_one]).symm
 rw[lZ om (Int.le_refl _) om om,De,kF,e]
theorem empty_ok (n:Nat)(h:H)(W:n<=64):Ev T 163 [aB n] h (λv h'=> ∃ρ F,TbR h.next (WB n ρ) h' n v ρ F (λ_ _=>none)/\Fr h h'):=by
 refine bH c_ref08_empty rfl rfl ?_;simp(disch:=omega)only[go_sem,c_ref08_empty,aF]
 refine aH (λK k w=> ∃(i:Nat) (p:V) (b:List Nat),(∃g:Nat->V,k= [aB n,g 1,p,aB i,g 4])/\i<=n/\b.length=i/\Own w p 1 (b.map λr=> .sl r 0 n (.kn n)) h.next/\b.Nodup/\
   (∀r∈b,h.next<=r/\r<w.next/\w.get r=some (.cells false (rc n λ_=> .aD))/\dH p r)/\Fr h w/\K=n-i) n
  ⟨0,.aD, [],aA rfl,fF _,rfl,Own.aD _ _ _,List.nodup_nil,λr l=>absurd l List.not_mem_nil,Fr.refl h,rfl⟩ ?_
 rintro K k P ⟨i,p,b,⟨g,rfl⟩,hi,A,x,nd,l,f,rfl⟩
 by_cases s:(i:Int)<(n:Int)
 case neg=>
  have y:=bJ s;obtain rfl:i=n:=om
  simp(disch:=omega)only[go_sem,y];have u: ∀j,j<i->b.getD j 0∈b:=λj d=>getD_mem om
  refine⟨λj=>b.getD j 0,λ_ _=> .aD,⟨?_,?_,λj d=>(l _ (u j d)).2.2.1,λj d=>⟨j,d,rfl⟩,?_,?_,λa c B J e=>?_,λ_ _ _ _=>rfl⟩,f⟩
  ·have G:(rc i λj=>V.sl (b.getD j 0) 0 i (.kn i))=b.map λr=> .sl r 0 i (.kn i):=yS (by rw[iR];exact A) λj d=>by
    rw[Lc,eV om,List.getD,eV om];rfl
   rw[G];exact x.sv
  ·cases p with
   |sl id o m c=>
    rintro⟨j,d,e⟩;exact (l _ (u j d)).2.2.2 _ _ _ _ rfl e
   |_=>trivial
  ·rintro id ⟨j,d,rfl⟩;exact (l _ (u j d)).2.1
  ·rintro id ⟨j,d,rfl⟩;exact (l _ (u j d)).1
  ·have g:=eV (show a<b.length by omega)
   have d:=eV (show c<b.length by omega);simp only[List.getD,g,d,Option.getD_some] at e;rcases Nat.lt_trichotomy a c with d|d|d
   ·exact absurd e (Ta.1 nd a c om om d)
   ·exact d
   ·exact absurd e.symm (Ta.1 nd c a om om d)
 have y:=bM s;obtain⟨S,g⟩:=JR P.next;obtain⟨d,j,O,Q,R,d⟩:=dN g (rc n λ_=> .aD);have k:=f.next;obtain⟨k,N,q,U,k,L⟩:=app_one (v:= .sl S 0 n (.kn n)) (x.fr d) (f.trans d) (by rw[iR];omega) (bytes:=24) om;rw[iR,A,O] at N q;simp(disch:=omega)only[go_sem,y,mks_nils P n om,g,j,cJ _ (z:= .aD) (v:= .sl S 0 n (.kn n)) rfl rfl,O,N];rw[dY i];have t: ∀r∈b,r<S:=λr h=>by have:=(l r h).2.1;omega
 refine⟨n-(i+1),om,i+1,_,b++ [S],aA rfl,om,by rw[iZ,A];rfl,by rw[List.map_append];exact q,List.nodup_append.2 ⟨nd,by simp,λa B c J e=>?_⟩,λr h=>?_,U,rfl⟩
 ·have:=t a B
  simp at J;omega
 ·rcases sZ.1 h with h|h
  ·obtain⟨d,a,b,a⟩:=l r h
   refine⟨d,om,by rw[L r om a,R r om];exact b,λid o m c e=>by cases e;omega⟩
  ·simp at h
   subst h;refine⟨om,om,by rw[L _ om (λid o m c e G=>by have:=(x.in _ _ _ _ e).1;omega)];exact Q,λid o m c e=>by cases e;omega⟩
theorem rmake_ok (Q:V)(n:Nat)(l:LN)(h:H)(Z:1<=n)(n7:n<=7)(hl:l.length<=4096)(hv:SP h Q l)(hP: ∀g∈l,bV n g):
  Ev T 125 [aB n,Q] h (λv h'=> ∃vc O R,v= .tup [vc,aB 0]/\GC (λid=>id<h.next) h' vc n O R (fE n (· ∈l))/\Fr h h'):=by
 refine bH c_ref08_Make rfl rfl ?_
 obtain⟨B,hB⟩:=JR h.next
 obtain⟨h1,e1,F,g1,F,f1⟩:=dN hB [aB 0,.aD,.aD]
 have d1:decide ((n:Int)<1)=false:=bJ om
 have d2:decide ((64:Int)<(n:Int))=false:=bJ om
 have U:=hv.lens
 rw[iR] at U
 have d3:decide ((4096:Int)<(l.length:Int))=false:=bJ om
 obtain⟨id,K,ws,sh,d,F,G,y⟩:=hv.open
 rw[iR] at sh d F G
 simp(disch:=omega)only[go_sem,c_ref08_Make,aF,hB,e1,d1,d2,U,d3]
 refine bX (λN s=>(∃g:Nat->V,N= [aB n,Q,.ptr B 0,g 3,g 4,g 5,g 6,g 7,g 8,g 9,g 10,g 11,g 12,g 13])/\Fr h1 s) ?_ ?_
 ·refine aH (λk' N s=> ∃(i:Nat),(∃g:Nat->V,N= [aB n,Q,.ptr B 0,g 3,aB i,g 5,g 6,g 7,g 8,g 9,g 10,g 11,g 12,g 13])/\i<=l.length/\Fr h1 s/\k'=l.length-i) l.length
   ⟨0,aA rfl,fF _,Fr.refl h1,rfl⟩ ?_
  rintro k' k j ⟨i,⟨g,rfl⟩,hi,f,rfl⟩
  by_cases o:(i:Int)<(l.length:Int)
  ·have A:=bM o
   have a:i<l.length:=om
   have F2:=f1.trans f
   have ci:j.cell id (K+i)=some (ws.getD i .undef):=by rw[F2.cell (d om),G i a]
   have L:=sp_at y a
   have X:bV n (l.getD i []):=hP _ (getD_mem a)
   generalize ws.getD i .undef=Y at ci L
   have lx:=L.lens
   rw[aQ,X.len] at lx
   simp(disch:=omega)only[go_sem,U,A,sh.ixa,ci]
   refine (ref_Check_ok Y _ j (by rw[aQ,X.len];omega) (L.mono F2)).mono ?_
   rw[pck_zi X Z om]
   rintro _ h3 ⟨rfl,r⟩
   have a4:h3.cell id (K+i)=some Y:=by rw[r.cell (by have:=d om;have:=F2.next;omega)];exact ci
   simp(disch:=omega)only[go_sem]
   refine bB (λG=>(G rfl).elim) (λ_=>?_)
   simp(disch:=omega)only[go_sem,sh.ixa,a4,lx]
   refine bB (λG=>(G rfl).elim) (λ_=>?_)
   simp(disch:=omega)only[go_sem]
   rw[dY i]
   exact⟨l.length-(i+1),om,i+1,aA rfl,om,f.trans r,rfl⟩
  have A:=bJ o
  simp(disch:=omega)only[go_sem,U,A]
  exact⟨aA rfl,f⟩
 rintro k j ⟨⟨g,rfl⟩,f⟩
 have F2:=f1.trans f
 have F:=f.next
 simp(disch:=omega)only[go_sem]
 refine (empty_ok n j om).mono ?_
 rintro P h3 ⟨ρ,F,R,r⟩
 have F3:=F2.trans r
 simp(disch:=omega)only[go_sem]
 have hL: ∀g,g∈l->bV n g:=hP
 refine bX (λN s=> ∃(z:Nat->Nat->V) (t:mE),(∃g:Nat->V,N= [aB n,Q,.ptr B 0,g 3,g 4,g 5,P,g 7,g 8,g 9,g 10,g 11,g 12,g 13])/\TbR j.next (WB n ρ) s n P ρ z t/\Ao n (· ∈l) t/\(∀g∈l,ins t n 0 g=none)/\Fx (WB n ρ) h3 s) ?_ ?_
 ·refine aH (λk' N s=> ∃(i:Nat) (z:Nat->Nat->V) (t:mE),(∃g:Nat->V,N= [aB n,Q,.ptr B 0,g 3,g 4,g 5,P,aB i,g 8,g 9,g 10,g 11,g 12,g 13])/\i<=l.length/\TbR j.next (WB n ρ) s n P ρ z t/\Ao n (· ∈l) t/\(∀g∈l.take i,ins t n 0 g=none)/\Fx (WB n ρ) h3 s/\k'=l.length-i) l.length
   ⟨0,F,_,aA rfl,fF _,R,⟨kN.empty n,λg hg=>by
    obtain⟨_,_,_,_,_,e⟩:=fH.1 hg
    cases e⟩,λg hg=>absurd hg List.not_mem_nil,Fx.refl _ _,rfl⟩ ?_
  rintro k' k W ⟨i,z,t,⟨g,rfl⟩,hi,R4,tl,hn,x,rfl⟩
  by_cases o:(i:Int)<(l.length:Int)
  case neg=>
   have A:=bJ o;obtain rfl:i=l.length:=om
   simp(disch:=omega)only[go_sem,U,A];rw[List.take_length] at hn;exact⟨z,t,aA rfl,R4,tl,hn,x⟩
  have A:=bM o
  have a:i<l.length:=om
  have c: ∀q,WB n ρ q->j.next<=q:=R.low
  have X4:Fr h W:=F2.trans ⟨by have:=r.next;have:=x.next;omega,λq hq=>by rw[x.get q (by have:=r.next;omega) (λhw=>by have:=c q hw;omega)];exact r.get q hq⟩
  have ci:W.cell id (K+i)=some (ws.getD i .undef):=by rw[X4.cell (d om),G i a]
  have L:=sp_at y a
  have X:bV n (l.getD i []):=hP _ (getD_mem a)
  generalize ws.getD i .undef=Y at ci L
  simp(disch:=omega)only[go_sem,U,A,sh.ixa,ci]
  have o:PV (WB n ρ) W Y (l.getD i []):=by
   refine⟨L.mono X4,off_old (b:=j.next) L om c⟩
  refine (insert_ok j.next (WB n ρ) W n P ρ z t Y _ om om R4 o X tl.tab).mono ?_
  rintro _ h5 ⟨F5,rfl,R5,f5⟩
  simp(disch:=omega)only[go_sem]
  rw[dY i]
  obtain⟨p,m,J⟩:=tl.ins hL (x:=l.getD i []) (fE.of hL (getD_mem a))
  refine⟨l.length-(i+1),om,i+1,F5,_,aA rfl,om,R5,p,λu hu=>?_,x.trans f5 (λ_ _ h=>h),rfl⟩
  rcases (mem_take_succ a).1 hu with hu|rfl
  ·exact vE m _ _ _ (hn u hu)
  ·exact J
 clear g
 rintro k W ⟨z,t,⟨g,rfl⟩,R4,tl,hn,x⟩
 have a:=x.next
 have a:=r.next
 simp(disch:=omega)only[go_sem]
 refine (close_ok j.next (WB n ρ) W n P ρ z t (· ∈l) n7 Z om R4 hL tl).mono ?_
 rintro _ h5 ⟨a,F5,o,R5,p,m,a0,k,i⟩
 have i:=k.next
 have i:=Ot p.tab a0
 simp(disch:=omega)only[go_sem]
 refine (rchain_ok j.next a h5 n P ρ F5 o om Z R5 p.tab i).mono ?_
 rintro vc h6 ⟨O,R',ch,a3,i⟩
 have a:=i.next
 have c: ∀q,WB n ρ q->j.next<=q:=R.low
 have a:Fr j h5:=⟨om,λq hq=>by
  rw[k.get q om (λhw=>by have:=c q hw;omega),x.get q om (λhw=>by have:=c q hw;omega)]
  exact r.get q hq⟩
 have F6:=(F2.trans a).trans i
 have c:=a.trans i
 have g6:h6.get B=some (.cells false [aB 0,.aD,.aD]):=by rw[c.get B om,f.get B om];exact g1
 have a5:=ch
 obtain⟨vO,vR,a,a,e,t1,_,_,t2,_,_⟩:=ch
 subst e
 have a1:=t1.dG.2.1
 have a2:=t2.dG.2.1
 obtain⟨h7,e7,a,a,o7⟩:=mS h6 B [aB n,vO,vR]
 have r7:=aS a
 simp(disch:=omega)only[go_sem,dK h6 B 0 (v:= aB n) (u:=vO) (w:=vR) rfl a1 a2,g6,cW,e7,r7]
 have f7:Fx (λid=>id<h5.next) h6 h7:=⟨om,λid _ d=>o7 id om⟩
 refine⟨_,O,R',rfl,⟨a5.go f7 (λid _ h=>om),a3.congr (p.group hL Z a0 λg hg=>vE m _ _ _ (hn g hg)),fE.grp hP,Z,n7⟩,⟨by have:=F6.next;omega,λid d=>by rw[o7 id om];exact F6.get id d⟩⟩
structure CstO (G:List Nat->Prop)(L:LN)(K:List Nat)(i b:Nat)(hh:H)(v:V):Prop where
 ex: ∃(Q:Nat) (ρ:Nat->Nat),v= .sl Q 0 K.length (.kn K.length)/\b<=Q/\Q<hh.next/\hh.get Q=some (.cells false (rc K.length λa=> .sl (ρ a) 0 K.length (.kn K.length)))/\ ∀a,a<K.length->Q<ρ a/\ρ a<hh.next/\hh.get (ρ a)=some (.cells false (rc K.length λk=> aB (cstK G L K i a k:Nat)))
theorem CstO.sr {G:List Nat->Prop}{L:LN}{K:List Nat}{i b:Nat}{hh:H}{v:V}(c:CstO G L K i b hh v):SR hh v ((List.range K.length).map λj=>zi ((List.range K.length).map (cstK G L K i j))):=by
 obtain⟨Q,ρ,rfl,_,f,e,d⟩:=c.ex;refine⟨(List.range K.length).map λa=> .sl (ρ a) 0 K.length (.kn K.length),?_,?_⟩
 ·exact SV.all (by rw[cK,kF]) f e _
 ·refine All2.iC (by simp) λa e f=>?_
  have h:a<K.length:=by simpa using e
  simp only[List.getElem_map,List.getElem_range];obtain⟨_,g,f⟩:=d a h
  have e:(rc K.length λk=>aB (cstK G L K i a k:Nat))=ints (zi ((List.range K.length).map (cstK G L K i a))):=by
   simp [rc,ints,zi,Function.comp_def]
  rw[e] at f;exact SV.all (by rw[aL,aQ,iR,zU,kF]) g f _
set_option maxHeartbeats 64000000
theorem consts_ok (D i:Nat)(n:Nat)(G:List Nat->Prop)(L:LN)(K:List Nat)(h:H)(n7:n<=7)(hG:mH n G)(E:eP G L)(ik:IsK n G L K)(hl:L.length<=5040)(hr:K.length<=64)(d:DatO n G L K h D):
  Ev T 46 [.ptr D 0,aB i] h (λv h'=>CstO G L K i h.next h' v/\Fr h h'):=by
 refine bH c_algebra_data_constants rfl rfl ?_
 obtain⟨vL,vC,Mn,ln,f,gD,hD,c6,sL,sC,al,c9,d8,c0⟩:=d.ex
 obtain⟨M,hM⟩:=JR h.next
 obtain⟨h1,e1⟩:=JR (h.new (.wmap (.arr 2 .i64) []))
 have f:h1.next=M+1:=by rw[←e1,H.aX,hM]
 have g1:h1.get M=some (.wmap (.arr 2 .i64) []):=by rw[←e1,←hM];exact H.aN h _
 have f: ∀k,k≠M->h1.get k=h.get k:=λk hk=>by rw[←e1];exact H.bL h om _
 have f1:Fr h h1:=⟨om,λq hq=>f q om⟩
 obtain⟨r,N⟩:=JR K.length
 obtain⟨m0,c3⟩: ∃m,L.length=m:=⟨_,rfl⟩
 obtain⟨b5,f,c7,b9,ws,b2,cL⟩:=sp_open sL
 obtain⟨a0,f,a6,y,b3,cC⟩:=cls_open om sC al
 rw[N] at a0 b3 cC hr
 rw[c3] at b5 b2 cL c0
 have s: ∀l,Fr h l->l.get D=some (.cells false [vL,vC,.mp Mn]):=λl f=>by rw[f.get _ hD];exact gD
 simp(disch:=omega)only[go_sem,c_algebra_data_constants,aF,hM,e1,H.aG (s h1 f1),b5]
 refine bX (λvs l=> ∃(m:List ((Nat×Nat)×V)),(∃g:Nat->V,vs= [.ptr D 0,aB i,g 2,.mp M,g 4,g 5,g 6,g 7,g 8,g 9,g 10,g 11,g 12,g 13,g 14,g 15,g 16,g 17,g 18,g 19,g 20,g 21,g 22,g 23,g 24])/\l.get M=some (.wmap (.arr 2 .i64) (gJ pkV m))/\(∀p∈m,PkP p.1)/\(∀j k,k<r->(Cr m (j,k)).getD (aB 0)= aB (cstA G L K i k L.length j:Nat))/\M<l.next/\Fr h l) ?_ ?_
 ·refine aH (λo b l=> ∃(t:Nat) (m:List ((Nat×Nat)×V)),(∃g:Nat->V,b= [.ptr D 0,aB i,g 2,.mp M,g 4,g 5,g 6,g 7,g 8,g 9,vL,aB m0,aB t,g 13,g 14,g 15,g 16,g 17,g 18,g 19,g 20,g 21,g 22,g 23,g 24])/\t<=m0/\l.get M=some (.wmap (.arr 2 .i64) (gJ pkV m))/\(∀p∈m,PkP p.1)/\(∀j k,k<r->(Cr m (j,k)).getD (aB 0)= aB (cstA G L K i k t j:Nat))/\M<l.next/\Fr h l/\o=m0-t) m0
   ⟨0, [],aA rfl,fF _,g1,λ_ h=>(by cases h),λj k _=>rfl,om,f1,rfl⟩ ?_
  rintro o b h2 ⟨t,m,⟨g,rfl⟩,f,gM,Y,lk,nM,F,rfl⟩
  by_cases J:(t:Int)<(m0:Int)
  case neg=>
   have d1:=bJ J;obtain rfl:t=m0:=om
   simp(disch:=omega)only[go_sem,d1];exact⟨m,aA rfl,gM,Y,by rw[c3];exact lk,nM,F⟩
  have d1:=bM J
  have f:t<m0:=om
  obtain⟨b1,c1,s1⟩:=cL t f
  generalize ws.getD t V.undef=ve at c1 s1
  have X:=el_isP hG E (show t<L.length by omega)
  have a7:L.getD t []∈L:=getD_mem om
  have f:L.idxOf (L.getD t [])=t:=by
   rw[zB,eV om];exact E.nodup.idxOf_getElem _ _
  obtain⟨x,hx⟩:=JR (L.getD t [])
  rw[hx] at s1 X a7 f
  have c2:h2.cell c7 (b9+t)=some ve:=by rw[F.cell b1];exact c1
  simp(disch:=omega)only[go_sem,d1,b2.ixa,c2]
  refine (class_ok D ve n G L K x h2 om (d.mono F) X a7 (s1.mono F)).mono ?_
  rw[f]
  rintro _ h3 ⟨rfl,f3⟩
  have F3:=F.trans f3
  have b0:h3.get M=some (.wmap (.arr 2 .i64) (gJ pkV m)):=by rw[f3.get _ nM];exact gM
  have n3:=f3.next
  by_cases hi:numC G L K t=i
  case neg=>
   have d2:decide (((numC G L K t:Nat):Int)≠(i:Int))=true:=bM om;simp(disch:=omega)only[go_sem,d2];rw[dY t];refine⟨m0-(t+1),om,t+1,m,aA rfl,om,b0,Y,λj k hk=>?_,om,F3,rfl⟩;rw[lk j k hk,cstA_succ,aZ (λe=>hi e.1),Nat.add_zero]
  have d2:decide (((numC G L K t:Nat):Int)≠(i:Int))=false:=bJ om
  simp(disch:=omega)only[go_sem,d2,H.aG (s h3 F3),a0]
  refine aH (λo b l=> ∃(k:Nat) (m:List ((Nat×Nat)×V)),(∃g:Nat->V,b= [.ptr D 0,aB i,g 2,.mp M,ve,g 5,g 6,g 7,g 8,g 9,vL,aB m0,aB t,g 13,g 14,vC,aB r,aB k,g 18,g 19,g 20,g 21,g 22,g 23,g 24])/\k<=r/\l.get M=some (.wmap (.arr 2 .i64) (gJ pkV m))/\(∀p∈m,PkP p.1)/\(∀j o,o<r->(Cr m (j,o)).getD (aB 0)= aB (cstA G L K i o (if o<k then t+1 else t) j:Nat))/\M<l.next/\Fr h l/\o=r-k) r
   ⟨0,m,aA rfl,fF _,b0,Y,λj k hk=>by rw[aZ om];exact lk j k hk,om,F3,rfl⟩ ?_
  clear gM Y lk nM F f3 F3 b0 n3
  rintro o b h4 ⟨k,m,⟨g',rfl⟩,hk,gM,Y,lk,nM,F,rfl⟩
  by_cases U:(k:Int)<(r:Int)
  case neg=>
   have d3:=bJ U;obtain rfl:k=r:=om
   simp(disch:=omega)only[go_sem,d3];rw[dY t];exact⟨m0-(t+1),om,t+1,m,aA rfl,om,gM,Y,λj o a1=>by rw[lk j o a1,aV a1],nM,F,rfl⟩
  have d3:=bM U
  have O:k<r:=om
  obtain⟨bC,a2,f,_,f,sr⟩:=cC k O
  obtain⟨z,hz⟩:=JR (L.getD (K.getD k 0) [])
  rw[hz] at sr f
  have b0:K.getD k 0<L.length:=ik.lt (getD_mem om)
  have Z:bV n z:=by rw[←hz];exact el_isP hG E b0
  have d5:z∈L:=by rw[←hz];exact getD_mem b0
  have w3:=sr.dG
  have r4:h4.row a6 (y+k*3) 3=some [a2,aB (iH z n:Int),aB ((orbC G L (K.getD k 0)).length:Int)]:=by
   have:h4.row a6 (y+k*3) 3=h.row a6 (y+k*3) 3:=by unfold H.row;rw[F.get _ bC]
   rw[this];exact f
  obtain⟨A,hA⟩:=JR h4.next
  obtain⟨P,e5,n5,g5,f,y⟩:=dN hA [.aD,aB 0,aB 0]
  obtain⟨h6,e6,y,g6,y⟩:=mS P A [a2,aB (iH z n:Int),aB ((orbC G L (K.getD k 0)).length:Int)]
  have a8:Fr h4 h6:=⟨om,λq hq=>by rw[y q om,f q om]⟩
  have F6:=F.trans a8
  have d4:h6.get M=some (.wmap (.arr 2 .i64) (gJ pkV m)):=by rw[a8.get _ nM];exact gM
  have f:=s1.dJ
  have f:=sr.dJ
  simp(disch:=omega)only[go_sem,d3,b3.ixa,r4,hA,e5,dK P A 0 (v:=a2) (u:= aB (iH z n:Int)) (w:= aB ((orbC G L (K.getD k 0)).length:Int)) w3.2.1 rfl rfl,g5,cW,e6,H.aG (s h6 F6),H.aG g6]
  have fb:=(Fr.refl h6).bN (n:=h6.next+17) om
  refine (quot_ok ve a2 n x z _ om X Z (s1.mono (F6.trans fb)) (sr.mono (F6.trans fb))).mono ?_
  rintro _ h7 ⟨rfl,f⟩
  have a5:=fb.trans f
  have F7:=F6.trans a5
  have b8:h7.get M=some (.wmap (.arr 2 .i64) (gJ pkV m)):=by rw[a5.get _ (by have:=a8.next;omega)];exact d4
  have d6:h7.get Mn=some (.wmap (.arr 64 .u8) (gJ kyV ln)):=by rw[F7.get _ c6];exact c9
  have Qx:=X.inv.mul Z
  have f:G (bE (dM x) z):=hG.mul (hG.inv ((E.mem x).1 a7)) ((E.mem z).1 d5)
  obtain⟨Z,y⟩:=idx_el E f
  obtain⟨q,hq⟩:=JR (numC G L K (L.idxOf (bE (dM x) z)))
  have f:q<r:=by rw[←hq,←N];exact (numC_ok hG E ik Z).1
  have f:=c0 _ (show L.idxOf (bE (dM x) z)<m0 by omega)
  rw[y,hq] at f
  have lo:=λw=>oP (kyV_eq (n:=n) om) (λa A=>kyV_key (n:=n) om a A) d8 Qx w
  rw[f] at lo
  have PQ:PkP (q,k):=⟨by show q<1000000;omega,by show k<1000000;omega⟩
  have ql:quK G L K t k=q:=by unfold quK;rw[hx,hz];exact hq
  have lc:=lk q k O
  rw[aZ om] at lc
  obtain⟨c,hc⟩:=JR (cstA G L K i k t q)
  rw[hc] at lc
  have f:c<=t:=by rw[←hc];exact cstA_le ..
  have R:=oP pkV_eq pkV_key Y PQ (aB 0)
  rw[lc] at R
  have f:V.agg [aB q,aB k]=pkV (q,k):=rfl
  obtain⟨f,f,y,h8,x,n8,o8,b4,t,w,en⟩:=Oz pkV_eq pkV_key Y PQ (aB 0) (aB (c+1:Nat)) h7 M b8
  have f:=oP pkV_eq pkV_key t PQ (aB 0)
  rw[w,lc] at f
  have B:Cs (some (.wmap (.arr 2 .i64) (gJ pkV m))) (.arr 2 .i64) (aB 0) false (V.agg [aB q,aB k])=_:=R
  have a3:Cs (some (.wmap (.arr 2 .i64) (gJ pkV y))) (.arr 2 .i64) (aB 0) false (V.agg [aB q,aB k])=_:=f
  have c5:Mw (some (.wmap (.arr 2 .i64) (gJ pkV m))) h7 M (.arr 2 .i64) (aB 0) (V.agg [aB q,aB k])=_:=x
  have f:=s h7 F7
  have t:h8.get D=some (.cells false [vL,vC,.mp Mn]):=by rw[o8 D om];exact f
  simp(disch:=omega)only[go_sem,H.aG f,d6,lo,Option.getD_some,bld_pk,b8,B,show (c:Int)+1=((c+1:Nat):Int) from rfl,c5,b4,a3,en]
  have f:BD h8 (.lkw (.arr 2 .i64) (aB 0) false (.c (.mp M)) (.c (.agg [aB q,aB k]))) (aB c)=true:=by
   simp only[BD,Hj,xv,Hp,b4,a3,Option.map_some,HC];simp [dJ]
  rw[dY k]
  have c:=F7.next
  refine⟨by simp [dJ],f,r-(k+1),om,k+1,_,aA rfl,om,rfl,xC PQ Y,λj o a1=>?_,by rw[n8];have:=a5.next;omega,⟨by show h.next<=h8.next;omega,λp c=>by rw[H.aI _ om,o8 p om];exact F7.get p c⟩,rfl⟩
  rw[zO]
  by_cases e:(j,o)=(q,k)
  ·cases e
   rw[aV rfl,aV om,cstA_succ,aV ⟨hi,ql⟩,hc]
   rfl
  ·rw[aZ e,lk j o a1]
   by_cases ek:o=k
   ·subst ek
    rw[aZ om,aV om,cstA_succ,aZ (λh=>e (by rw[←h.2,ql]))]
    rfl
   ·by_cases e2:o<k
    ·rw[aV e2,aV om]
    ·rw[aZ e2,aZ om]
 rintro b hA ⟨m,⟨g,rfl⟩,gM,Y,lk,nM,FA⟩
 obtain⟨Q,c⟩:=JR hA.next
 obtain⟨f,eB,f,gB,f,fB⟩:=dN c (rc r λ_=> .aD)
 simp(disch:=omega)only[go_sem,H.aG (s hA FA),a0,mks_nils hA r om,c,eB]
 refine aH (λo b l=> ∃(j:Nat) (ρ:Nat->Nat),(∃g:Nat->V,b= [.ptr D 0,g 1,g 2,.mp M,g 4,g 5,g 6,.sl Q 0 r (.kn r),g 8,g 9,g 10,g 11,g 12,g 13,g 14,g 15,g 16,g 17,g 18,aB r,aB j,g 21,g 22,g 23,g 24])/\j<=r/\l.get Q=some (.cells false (rc r λa=>if a<j then .sl (ρ a) 0 r (.kn r) else .aD))/\(∀a,a<j->Q<ρ a/\ρ a<l.next/\l.get (ρ a)=some (.cells false (rc r λk=> aB (cstK G L K i a k:Nat))))/\Fr hA l/\Q<l.next/\o=r-j) r
  ⟨0,λ_=>0,aA rfl,fF _,by rw[gB];rfl,λa h=>om,fB,om,rfl⟩ ?_
 rintro o b h2 ⟨j,ρ,⟨g',rfl⟩,c,gQ,a4,F,nQ,rfl⟩
 have F0:=FA.trans F
 by_cases J:(j:Int)<(r:Int)
 case neg=>
  have d1:=bJ J;obtain rfl:j=r:=om
  simp(disch:=omega)only[go_sem,d1];refine⟨⟨Q,ρ,by rw[N],by have:=FA.next;omega,nQ,?_,by rw[N];exact a4⟩,F0⟩;rw[gQ,N];congr 2;exact aY λa ha=>by rw[aV ha]
 have d1:=bM J
 have a9:j<r:=om
 obtain⟨S,hS⟩:=JR h2.next
 obtain⟨h3,e3,n3,g3,o3,f3⟩:=dN hS (rc r λ_=> aB 0)
 have c8:h3.get Q=some (.cells false (rc r λa=>if a<j then .sl (ρ a) 0 r (.kn r) else .aD)):=by rw[o3 Q om];exact gQ
 obtain⟨h4,c,f,g4,o4⟩:=mS h3 Q (rc r λa=>if a<j+1 then .sl (if a=j then S else ρ a) 0 r (.kn r) else .aD)
 have p4:dQ (some (.cells false (rc r λa=>if a<j then .sl (ρ a) 0 r (.kn r) else .aD))) h3 Q j [.sl S 0 r (.kn r)]=some h4:=by
  rw[bF (by rw[cK];exact a9),eJ,←c];congr 4;refine aY λa ha=>?_
  by_cases e:a=j
  ·rw[aV e,aV om,aV e]
  ·rw[aZ e]
   by_cases e2:a<j
   ·rw[aV e2,aV om,aZ e]
   ·rw[aZ e2,aZ om]
 have F4:Fr hA h4:=⟨by have:=F.next;omega,λq hq=>by rw[o4 q om,o3 q om];exact F.get q hq⟩
 have c4:h4.cell Q j=some (.sl S 0 r (.kn r)):=by
  rw[H.aG g4,kA a9,aV om,aV rfl]
 simp(disch:=omega)only[go_sem,d1,H.aG (s h2 F0),a0,mks_zeros h2 r om,hS,e3,c8,p4,c4]
 refine aH (λo b l=> ∃(k:Nat),(∃g:Nat->V,b= [.ptr D 0,g 1,g 2,.mp M,g 4,g 5,g 6,.sl Q 0 r (.kn r),aB j,g 9,g 10,g 11,g 12,g 13,g 14,g 15,g 16,g 17,g 18,aB r,aB j,g 21,aB r,aB k,g 24])/\k<=r/\l.get S=some (.cells false (rc r λa=> aB (if a<k then cstK G L K i j a else 0:Nat)))/\Fx (· =S) h4 l/\o=r-k) r
  ⟨0,aA rfl,fF _,by rw[o4 S om,g3];rfl,Fx.refl _ _,rfl⟩ ?_
 rintro o b P ⟨k,⟨b,rfl⟩,hk,gS,F5,rfl⟩
 have n5:=F5.next
 have b7:P.get Q=some (.cells false (rc r λa=>if a<j+1 then .sl (if a=j then S else ρ a) 0 r (.kn r) else .aD)):=by rw[F5.get Q om (by show Q≠S;omega)];exact g4
 have b6:Fr hA P:=⟨by have:=F4.next;omega,λq hq=>by rw[F5.get q (by have:=F4.next;omega) (by show q≠S;have:=F.next;omega)];exact F4.get q hq⟩
 by_cases U:(k:Int)<(r:Int)
 case neg=>
  have d3:=bJ U;obtain rfl:k=r:=om
  simp(disch:=omega)only[go_sem,d3];rw[dY j];refine⟨k-(j+1),om,j+1,λa=>if a=j then S else ρ a,aA rfl,om,b7,λa ha=>?_,b6,om,rfl⟩;show Q<(if a=j then S else ρ a)/\(if a=j then S else ρ a)<P.next/\P.get (if a=j then S else ρ a)=_
  by_cases e:a=j
  ·subst e
   rw[aV rfl];refine⟨om,om,?_⟩;rw[gS];congr 2;exact aY λb b=>by rw[aV b]
  ·rw[aZ e]
   obtain⟨c,b,b⟩:=a4 a om;exact⟨c,om,by rw[F5.get _ om (by show ρ a≠S;omega),o4 _ om,o3 _ om];exact b⟩
 have d3:=bM U
 have O:k<r:=om
 have d0:P.get M=some (.wmap (.arr 2 .i64) (gJ pkV m)):=by rw[b6.get _ nM];exact gM
 have PQ:PkP (j,k):=⟨by show j<1000000;omega,by show k<1000000;omega⟩
 have R:=oP pkV_eq pkV_key Y PQ (aB 0)
 rw[lk j k O] at R
 have B:Cs (some (.wmap (.arr 2 .i64) (gJ pkV m))) (.arr 2 .i64) (aB 0) false (V.agg [aB j,aB k])=some (aB (cstK G L K i j k:Nat)):=R
 have d7:P.cell Q j=some (.sl S 0 r (.kn r)):=by
  rw[H.aG b7,kA a9,aV om,aV rfl]
 have b:=λl=>bF (vs:=rc r λa=> aB (if a<k then cstK G L K i j a else 0:Nat)) (off:=k) (by rw[cK];exact O) l S (aB (cstK G L K i j k:Nat))
 simp(disch:=omega)only[go_sem,d3,d7,bld_pk,d0,B,gS,b]
 rw[dY k]
 refine⟨r-(k+1),om,k+1,aA rfl,om,?_,?_,rfl⟩
 ·rw[eJ]
  congr 2
  refine aY λa ha=>?_
  by_cases e:a=k
  ·rw[aV e,aV om,e]
  ·rw[aZ e]
   by_cases e2:a<k
   ·rw[aV e2,aV om]
   ·rw[aZ e2,aZ om]
 ·refine (F5.trans (Fx.of (W:=(· =S)) ((Fr.refl P).bN (n:=P.next+12) om)) λ_ _ h=>h).trans ?_ (λ_ _ h=>h)
  exact Fx.set _ (W:=(· =S)) rfl _
set_option maxHeartbeats 16000000
noncomputable def cstM (G:List Nat->Prop)(L:LN)(K:List Nat)(i:Nat):List (List Int):=(List.range K.length).map λj=>zi ((List.range K.length).map (cstK G L K i j))
theorem const_bad (j s:V)(d:Int)(O:List (List Int))(R:List (List (List Int)))(h:H)(g:ChI h j d O R)(n:d<=7∨64<d)(o:SmallO O)(sr:SmallR R)(k:chkE d O R≠0):
  Ev T 23 [j,s] h (λv h'=>v= .tup [.aD,aB (chkE d O R)]/\Fr h h'):=by
 have e:=g
 obtain⟨f,c,rfl,r,t⟩:=g
 refine bH c_algebra_Constants rfl rfl ?_
 have a:f.one=true:=rL r
 have b:c.one=true:=qZ t
 obtain⟨B,l⟩:=JR h.next
 obtain⟨x,q,r,m,r,i⟩:=dN l [aB d,f,c]
 have p:=bD h (v:= aB d) (u:=f) (w:=c) rfl a b
 simp(disch:=omega)only[go_sem,c_algebra_Constants,aF,p,l,q,aS m]
 refine (load_bad _ d O R x (e.mono i) n o sr k).mono ?_
 rintro _ a ⟨rfl,a⟩
 have b:=bM k
 simp(disch:=omega)only[go_sem,b]
 exact i.trans a
theorem const_ok {P:Nat->Prop}(r:V)(z:Int)(n:Nat)(O:LN)(R:jL)(G:List Nat->Prop)(h:H)(b:GC P h r n O R G)(L:LN)(s:cF O R n 0 (cH n)=L):
  Ev T 23 [r,aB z] h (λv h'=> ∃K,IsK n G L K/\Fr h h'/\(64<K.length/\v= .tup [.aD,aB 5]∨K.length<=64/\((z<0∨(K.length:Int)<=z)/\v= .tup [.aD,aB 2]∨ ∃(i:Nat) (vl:V),z=(i:Int)/\i<K.length/\v= .tup [vl,aB 0]/\SR h' vl (cstM G L K i)))):=by
 have p:=b
 obtain⟨o,m,rfl,B,A⟩:=b.ch
 refine bH c_algebra_Constants rfl rfl ?_
 have d:o.one=true:=rL B
 have j:m.one=true:=qZ A
 obtain⟨E,A⟩:=eE b.grp b.isc
 have B:=szF_fact b
 rw[s] at E A
 obtain⟨B,t⟩:=JR h.next
 obtain⟨Q,N,A,J,A,f⟩:=dN t [aB n,o,m]
 have F:=bD h (v:= aB n) (u:=o) (w:=m) rfl d j
 simp(disch:=omega)only[go_sem,c_algebra_Constants,aF,F,t,N,aS J]
 refine (load_ok _ n O R G Q (p.mono f) L s).mono ?_
 rintro _ U ⟨K,c,k,⟨a,rfl⟩|⟨a,D,rfl,e⟩⟩
 ·simp(disch:=omega)only[go_sem]
  refine bB (λ_=>?_) (λd=>(d (by decide)).elim)
  simp(disch:=omega)only[go_sem]
  exact⟨K,c,f.trans k,.inl ⟨a,trivial⟩⟩
 simp(disch:=omega)only[go_sem]
 refine bB (λd=>(d rfl).elim) (λ_=>?_)
 obtain⟨d,d,d,d,d,x,d,d,d,d,m,j,j,j⟩:=e.ex
 have g:=(cls_open om d m).1
 by_cases d:z<0
 ·have l:=bM d
  simp(disch:=omega)only[go_sem,l,fG]
  exact⟨K,c,f.trans k,.inr ⟨a,.inl ⟨.inl d,trivial⟩⟩⟩
 have l:=bJ d
 by_cases d:(K.length:Int)<=z
 ·have q:=bM d
  simp(disch:=omega)only[go_sem,l,H.aG x,g,q]
  exact⟨K,c,f.trans k,.inr ⟨a,.inl ⟨.inr d,trivial⟩⟩⟩
 have q:=bJ d
 obtain⟨i,rfl⟩: ∃i:Nat,z=(i:Int):=⟨z.toNat,om⟩
 simp(disch:=omega)only[go_sem,l,H.aG x,g,q]
 refine (consts_ok D i n G L K U b.n7 b.grp E c om a e).mono ?_
 rintro vl d ⟨y,d⟩
 simp(disch:=omega)only[go_sem]
 exact⟨K,c,(f.trans k).trans d,.inr ⟨a,.inr ⟨i,vl,rfl,om,rfl,y.sr⟩⟩⟩
set_option maxHeartbeats 8000000
theorem ppower_ok (u w:V)(n e:Nat)(a:List Nat)(h:H)(hn:n<=1000)(Z:e<1000000)(A:bV n a)(Y:SI h u (zi a))(hw:SI h w (zi (cH n))):
  Ev T 70 [u,w,aB e,.fn 72 [] []] h (λv h'=>SI h' v (zi (pw n a e))/\Fr h h'):=by
 refine bH c_perm_power_api_Perm rfl rfl ?_
 simp(disch:=omega)only[go_sem,c_perm_power_api_Perm,aF]
 refine aH (λc R L=> ∃(k:Nat) (f o:V) (x b:List Nat),(∃g:Nat->V,R= [f,o,aB (k:Int),.fn 72 [] [],g 4,g 5,g 6])/\k<1000000/\bV n x/\bV n b/\SI L f (zi x)/\SI L o (zi b)/\bE b (pw n x k)=pw n a e/\Fr h L/\c=k) e
  ⟨e,u,w,a,cH n,aA rfl,Z,A,bV.one n,Y,hw,fO (jQ A e),Fr.refl h,rfl⟩ ?_
 rintro c L P ⟨k,f,o,x,b,⟨g,rfl⟩,g,X,B,p,G,l,F,Q⟩
 subst Q
 by_cases q:(0:Int)<(c:Int)
 case neg=>
  have t:=bJ q;obtain rfl:c=0:=om
  simp(disch:=omega)only[go_sem,t];have i:bE b (cH n)=pw n a e:=l;rw[dD B] at i;rw[←i];exact⟨G,F⟩
 have t:=bM q
 have y: ∀k,bE x (pw n x k)=pw n x (k+1):=λk=>by
  have i:=Mv X 1 k;rw[pw_one' X] at i;rw[←i,Nat.add_comm]
 have O:=pw_sq X (c/2)
 have s:(c:Int).tmod 2=((c%2:Nat):Int):=tmod_nat c 2
 have N:(c:Int).tdiv 2=((c/2:Nat):Int):=rfl
 rcases Nat.mod_two_eq_zero_or_one c with J|J
 ·have z:decide (((0:Nat):Int)=1)=false:=rfl
  rw[J] at s
  simp(disch:=omega)only[go_sem,t,s,z]
  refine (mul_gen (rfl:T 72=some c_perm_mul) f f x x P (by rw[X.len];omega) p p (λj r=>by rw[X.len];exact X.dZ (by rw[←X.len];exact r))).mono ?_
  rintro K i m
  simp(disch:=omega)only[go_sem,N]
  refine⟨c/2,om,c/2,K,o,bE x x,b,aA rfl,om,X.mul X,B,(m.pv (W:=λ_=>False) id).si,G.mono m.fr,?_,F.trans m.fr,rfl⟩
  rw[O,show 2*(c/2)=c by omega];exact l
 ·have z:decide (((1:Nat):Int)=1)=true:=rfl
  rw[J] at s
  simp(disch:=omega)only[go_sem,t,s,z]
  refine (mul_gen (rfl:T 72=some c_perm_mul) o f b x P (by rw[B.len];omega) G p (λj r=>by rw[X.len];exact B.dZ (by rw[←B.len];exact r))).mono ?_
  rintro U i d
  simp(disch:=omega)only[go_sem]
  refine (mul_gen (rfl:T 72=some c_perm_mul) f f x x i (by rw[X.len];omega) (p.mono d.fr) (p.mono d.fr) (λj r=>by rw[X.len];exact X.dZ (by rw[←X.len];exact r))).mono ?_
  rintro K f m
  simp(disch:=omega)only[go_sem,N]
  refine⟨c/2,om,c/2,K,U,bE x x,bE b x,aA rfl,om,X.mul X,B.mul X,(m.pv (W:=λ_=>False) id).si,(d.pv (W:=λ_=>False) id).si.mono m.fr,?_,(F.trans d.fr).trans m.fr,rfl⟩
  rw[O,bP B X (jQ X _),y,show 2*(c/2)+1=c by omega];exact l
theorem ppow_ok (u:V)(z:Int)(n:Nat)(a:List Nat)(h:H)(R: -9223372036854775808<=z/\z<9223372036854775808)(O:1<=n)(N:n<=7)(A:bV n a)(g:SI h u (zi a)):
  Ev T 39 [u,aB z] h (λv h'=> ∃w,v= .tup [w,aB 0]/\SI h' w (zi (zp n a z))/\Fr h h'):=by
 refine bH c_perm_Pow rfl rfl ?_
 have x:=g.lens
 rw[aQ,A.len] at x
 simp(disch:=omega)only[go_sem,c_perm_Pow,aF]
 refine (order_ok u n a h O N A g).mono ?_
 rintro _ y ⟨rfl,P⟩
 have G:=uW (n:=n) A
 obtain⟨o,t⟩:=JR (iH a n)
 rw[t] at G ⊢
 have G:o<=420:=Nat.le_of_dvd (by decide) (by rw[←t];exact ordP_420 A N)
 have Q:=tmod_bd z (n:=(o:Int)) om
 have c:=tmod_fix z (n:=(o:Int)) om
 have G:=Int.emod_nonneg z (show (o:Int)≠0 by omega)
 have p:=Int.emod_lt_of_pos z (show (0:Int)<o by omega)
 obtain⟨m,L⟩: ∃m:Nat,z%(o:Int)=m:=⟨(z%(o:Int)).toNat,om⟩
 have F:zp n a z=pw n a m:=by unfold zp;rw[t,L];rfl
 rw[L] at c p
 obtain⟨q,l⟩:=JR (z.tmod (o:Int))
 rw[l] at Q c
 simp(disch:=omega)only[go_sem]
 refine bB (λo=>(o rfl).elim) (λ_=>?_)
 have e: ∀i,Fr y i->Ev T 71 [aB n] i (λv h'=> ∃w,SI h' v (zi (cH n))/\w=v/\Fr h h'):=λi f=>by
  refine (one_gen (rfl:T 71=some c_perm_one) n i om).mono ?_;rintro w K J;exact⟨w,(J.pv (W:=λ_=>False) id).si,rfl,(P.trans f).trans J.fr⟩
 by_cases b:q<0
 ·have s:=bM b
  rw[aV b] at c
  simp(disch:=omega)only[go_sem,l,s,x,c]
  refine (e y (Fr.refl _)).mono ?_
  rintro _ B ⟨w,r,rfl,d⟩
  simp(disch:=omega)only[go_sem]
  refine (ppower_ok u w n m a B om om A (g.mono d) r).mono ?_
  rintro v K ⟨j,k⟩
  simp(disch:=omega)only[go_sem]
  exact⟨v,rfl,by rw[F];exact j,d.trans k⟩
 ·have s:=bJ b
  rw[aZ b] at c
  subst c
  simp(disch:=omega)only[go_sem,l,s,x]
  refine (e y (Fr.refl _)).mono ?_
  rintro _ B ⟨w,r,rfl,d⟩
  simp(disch:=omega)only[go_sem]
  refine (ppower_ok u w n m a B om om A (g.mono d) r).mono ?_
  rintro v K ⟨j,k⟩
  simp(disch:=omega)only[go_sem]
  exact⟨v,rfl,by rw[F];exact j,d.trans k⟩
section
variable {h:H} {v:V} {n:Nat} {l:List Nat}
structure Mp (h:H)(v:V)(n id:Nat)(l:List Nat):Prop where
 ex: ∃cap rest,v= .sl id 0 n cap/\id<h.next/\h.get id=bW (ints (zi l)++rest)
 isP:bV n l
theorem Mp.of {b:Nat}(k:0<n)(X:bV n l)(o:Own h v 1 (ints (zi l)) b): ∃id,Mp h v n id l/\b<=id:=by
 rcases o with ⟨_,e⟩|⟨id,m,c,a,rfl,d,j,f,g,i⟩
 ·have:=congrArg List.length e
  rw[aL,aQ,List.length_nil,X.len] at this;omega
 ·rw[aL,aQ,kF,X.len] at d
  subst d;exact⟨id,⟨⟨c,a,rfl,g,i⟩,X⟩,f⟩
theorem Mp.si {id:Nat}(m:Mp h v n id l):SI h v (zi l):=by
 obtain⟨⟨a,b,rfl,c,d⟩,X⟩:=m;refine .inr ⟨id,0,n,a,false,_,rfl,by rw[aL,aQ,X.len,kF],c,d,by rw[iZ,aL,aQ,X.len];omega,?_⟩;rw[List.drop_zero,kF,List.take_left' (by rw[aL,aQ,X.len])]
theorem Mp.mono {h':H}{id:Nat}(m:Mp h v n id l)(f:h.next<=h'.next)(c:h'.get id=h.get id):Mp h' v n id l:=by
 obtain⟨⟨b,a,d,e,e⟩,X⟩:=m;exact⟨⟨b,a,d,om,by rw[c];exact e⟩,X⟩
end
theorem FxT.cell {x:Nat}{a c:H}(f:FxT x a c){id off:Nat}(b:id<a.next)(h2:id≠x):c.cell id off=a.cell id off:=by unfold H.cell;rw[f.get id b h2]
set_option maxRecDepth 100000
def ordF (n:Nat)(x:List Nat):Nat->Nat->Nat
 |0,k=>k
 |f+1,k=>if pw n x k=cH n then k else ordF n x f (k+1)
def ordB (n:Nat)(x:List Nat):Nat:=ordF n x 420 1
theorem ordF_ok {n:Nat}{x:List Nat}(X:bV n x): ∀f k,0<k->k<=iH x n->iH x n<=k+f->ordF n x f k=iH x n
 |0,k,_,h1,h2=>by show k=_;omega
 |f+1,k,h0,h1,h2=>by
  unfold ordF;split
  ·rename_i e
   exact Nat.le_antisymm h1 (Nat.le_of_dvd h0 ((pL X k).2 e))
  ·rename_i e
   refine ordF_ok X f (k+1) om ?_ om
   by_cases h:k=iH x n
   ·exact absurd ((pL X k).1 (by rw[h];exact Nat.dvd_refl _)) e
   ·omega
theorem ordB_ok {n:Nat}{x:List Nat}(X:bV n x)(a:n<=7):iH x n=ordB n x:=
 (ordF_ok X 420 1 om (uW X) (by have:=Nat.le_of_dvd om (ordP_420 X a);omega)).symm
def cRb (L:LN)(i j:Nat):Bool:=L.any λc=>conjP (L.getD i []) c==L.getD j []
def orbB (L:LN)(i:Nat):List Nat:=(List.range L.length).filter (cRb L i)
def repsB (L:LN):List Nat:=(List.range L.length).filter λj=>(List.range j).all λi=>!cRb L i j
def numB (L:LN)(K:List Nat)(j:Nat):Nat:=K.findIdx λr=>cRb L r j
def kLtB (n:Nat)(L:LN)(r s:Nat):Bool:=decide (ordB n (L.getD r [])<ordB n (L.getD s [])∨ordB n (L.getD r [])=ordB n (L.getD s [])/\((orbB L r).length<(orbB L s).length∨(orbB L r).length=(orbB L s).length/\r<s))
section
variable {n:Nat} {G:List Nat->Prop} {L:LN} {K:List Nat}
theorem cj_iff (E:eP G L){x y:List Nat}:cj G x y↔(L.any λc=>conjP x c==y)=true:=by
 rw[List.any_eq_true];constructor
 ·rintro⟨c,hc,e⟩
  exact⟨c,(E.mem c).2 hc,by simpa using e⟩
 ·rintro⟨c,hc,e⟩
  exact⟨c,(E.mem c).1 hc,by simpa using e⟩
theorem cR_iff (E:eP G L){i j:Nat}:cR G L i j↔cRb L i j=true:=cj_iff E
theorem cRb_eq (E:eP G L)(i j:Nat)(d:Decidable (cR G L i j)): @decide (cR G L i j) d=cRb L i j:=by
 rw[xJ,Co];exact cR_iff E
theorem orbC_eq (E:eP G L)(i:Nat):orbC G L i=orbB L i:=by
 unfold orbC orbB;exact List.filter_congr λj _=>cRb_eq E i j _
theorem repsC_eq (E:eP G L):repsC G L L.length=repsB L:=by
 unfold repsC repsB;refine List.filter_congr λj _=>?_
 classical
 rw[xJ,Co,zE];unfold isR;constructor
 ·intro h i hi
  have:=h i (Db.1 hi);rw[cR_iff E] at this;simpa using this
 ·intro h i hi
  have:=h i (Db.2 hi);rw[cR_iff E];simpa using this
theorem numC_eq (E:eP G L)(j:Nat):numC G L K j=numB L K j:=by
 unfold numC numB;congr 1;funext r;exact cRb_eq E r j _
theorem el_P (b:mH n G)(E:eP G L): ∀x∈L,bV n x:=λx a=>b.isP ((E.mem x).1 a)
theorem ord_at (a:mH n G)(E:eP G L)(c:n<=7){r:Nat}(b:r<L.length):iH (L.getD r []) n=ordB n (L.getD r []):=ordB_ok (el_P a E _ (getD_mem b)) c
theorem kLt_iff (a:mH n G)(E:eP G L)(b:n<=7){r s:Nat}(d:r<L.length)(c:s<L.length):kLt n G L r s↔kLtB n L r s=true:=by
 unfold kLt kLtB;rw[Co,ord_at a E b d,ord_at a E b c,orbC_eq E,orbC_eq E]
def KOk (n:Nat)(L:LN)(K:List Nat):Bool:=K.isPerm (repsB L)&&decide (K.Pairwise λr s=>kLtB n L r s=true)
theorem KOk.isK (d:mH n G)(E:eP G L)(e:n<=7)(h:KOk n L K=true):IsK n G L K:=by
 unfold KOk at h;rw[pF,Co] at h;have p:K.Perm (repsB L):=List.isPerm_iff.1 h.1
 have b: ∀r∈K,r<L.length:=λr a=>by
  have:=p.mem_iff.1 a;unfold repsB at this;exact Db.1 (Vz.1 this).1
 exact⟨by rw[repsC_eq E];exact p,List.Pairwise.imp_of_mem (λa c h=>(kLt_iff d E e (b _ a) (b _ c)).2 h) h.2⟩
theorem KOk.eq (a:mH n G)(E:eP G L)(b:n<=7){K0:List Nat}(h:KOk n L K0=true)(k:IsK n G L K):K=K0:=k.uniq (KOk.isK a E b h)
end
def wval (n:Nat)(S:LN)(w:List Nat):List Nat:=w.foldl (λx i=>bE x (S.getD i [])) (cH n)
theorem wval_gen {n:Nat}{S:LN}: ∀(w:List Nat) (x:List Nat),(∀i∈w,i<S.length)->fE n (· ∈S) x->fE n (· ∈S) (w.foldl (λx i=>bE x (S.getD i [])) x)
 | [],_,_,h=>h
 |i::w,x,hw,h=>wval_gen w _ (λj a=>hw j (by simp [a])) (h.mul (getD_mem (hw i (by simp))))
def ElOk (n:Nat)(S L:LN)(ws:LN):Bool:=
 L==ws.map (wval n S)&&ws.all (λw=>w.all λi=>decide (i<S.length))&&decide (L.Pairwise λx y=>lessB x y=true)&&L.all (λx=>x.length==n)&&L.contains (cH n)&&L.all λx=>S.all λg=>L.contains (bE x g)
theorem ElOk.isEl {n:Nat}{S L:LN}{ws:LN}(h:ElOk n S L ws=true):eP (fE n (· ∈S)) L:=by
 unfold ElOk at h;simp only[pF,beq_iff_eq,zE,Co,List.contains_iff_mem] at h;obtain⟨⟨⟨⟨⟨e,i⟩,f⟩,b⟩,c⟩,g⟩:=h;refine⟨List.Pairwise.imp_of_mem (λa d h=>(lessB_iff (by rw[b _ a,b _ d])).1 h) f,λx=>⟨λa=>?_,λa=>?_⟩⟩
 ·rw[e] at a
  obtain⟨w,j,rfl⟩:=pU.1 a;exact wval_gen w _ (i w j) .one
 ·induction a with
  |one=>exact c
  |mul _ hg ih=>exact g _ ih _ hg
def C4:LN:= [[1,2,3,0]]
def A4:LN:= [[1,2,0,3], [0,2,3,1]]
def L3:LN:= [[0,1,2], [0,2,1], [1,0,2], [1,2,0], [2,0,1], [2,1,0]]
def L4:LN:= [[0,1,2,3], [1,2,3,0], [2,3,0,1], [3,0,1,2]]
theorem L4_ok:eP (fE 4 (· ∈C4)) L4:=ElOk.isEl (ws:= [[], [0], [0,0], [0,0,0]]) (by decide+kernel)
theorem K3_ok:KOk 3 L3 [0,1,3]=true:=by decide+kernel
theorem K4_ok:KOk 4 L4 [0,2,1,3]=true:=by decide+kernel
def permB (n:Nat)(x:List Nat):Bool:=x.length==n&&decide x.Nodup&&x.all λp=>decide (p<n)
theorem permB_ok {n:Nat}{x:List Nat}(h:permB n x=true):bV n x:=by
 unfold permB at h;simp only[pF,beq_iff_eq,zE,Co] at h;exact⟨h.1.1,h.1.2,h.2⟩
theorem C4_P: ∀g∈C4,bV 4 g:=λg a=>permB_ok ((zE.1 (show C4.all (permB 4)=true by decide+kernel)) g a)
theorem bls_i3 (h:H)(x y z:Int):pG h 1 [aB 0] 3 [(0,1,aB x),(1,1,aB y),(2,1,aB z)]=some (.sl h.next 0 3 (.kn 3),h.new (.cells false (ints [x,y,z]))):=by
 have e:dO [aB 0] 3= [aB 0,aB 0,aB 0]:=rfl;simp [pG,gI,e,putAt,V.cells,V.one,ints]
theorem bls_i4 (h:H)(x y z w:Int):pG h 1 [aB 0] 4 [(0,1,aB x),(1,1,aB y),(2,1,aB z),(3,1,aB w)]=some (.sl h.next 0 4 (.kn 4),h.new (.cells false (ints [x,y,z,w]))):=by
 have e:dO [aB 0] 4= [aB 0,aB 0,aB 0,aB 0]:=rfl;simp [pG,gI,e,putAt,V.cells,V.one,ints]
theorem bls_s2 (h:H){v u:V}(a:v.cells= [v]/\v.one=true)(b:u.cells= [u]/\u.one=true):pG h 1 [.aD] 2 [(0,1,v),(1,1,u)]=some (.sl h.next 0 2 (.kn 2),h.new (.cells false [v,u])):=by
 have e:dO [V.aD] 2= [.aD,.aD]:=rfl;simp [pG,gI,e,putAt,a.1,a.2,b.1,b.2]
theorem sl_cells (id o m:Nat)(c:mF):(V.sl id o m c).cells= [.sl id o m c]/\(V.sl id o m c).one=true:=⟨rfl,rfl⟩
theorem mkI {h:H}{ID:Nat}(a:h.next=ID)(l:List Int): ∃x,h.new (.cells false (ints l))=x/\x.next=ID+1/\SI x (.sl ID 0 l.length (.kn l.length)) l/\Fr h x:=by
 obtain⟨x,e,n,g,o,f⟩:=dN a (ints l);exact⟨x,e,n,SV.all (by rw[aL,kF]) om g _,f⟩
theorem SP.two {h h':H}{id:Nat}{v u:V}{a b:List Nat}(e:SI h v (zi a))(i:SI h u (zi b))(c:id<h'.next)(f:Fr h h')(g:h'.get id=bW [v,u])(d:mF):SP h' (.sl id 0 2 d) [a,b]:=
 ⟨[v,u],SV.all rfl c g _,e.mono f,i.mono f,trivial⟩
theorem SP.one' {h h':H}{id:Nat}{v:V}{a:List Nat}(d:SI h v (zi a))(b:id<h'.next)(f:Fr h h')(g:h'.get id=bW [v])(c:mF):SP h' (.sl id 0 1 c) [a]:=
 ⟨[v],SV.all rfl b g _,d.mono f,trivial⟩
theorem GC.sl {W:Nat->Prop}{h:H}{b:V}{n:Nat}{O:LN}{R:jL}{G:List Nat->Prop}(g:GC W h b n O R G): ∃vO vR,b= .agg [aB n,vO,vR]/\vO.one=true/\vR.one=true/\dJ vO vO=true/\dJ vR vR=true:=by
 obtain⟨vO,vR,a,a,e,c,_,_,a,_,_⟩:=g.cw;exact⟨vO,vR,e,c.dG.2.1,a.dG.2.1,c.dJ,a.dJ⟩
theorem GC.el {W:Nat->Prop}{h:H}{a:V}{n:Nat}{O:LN}{R:jL}{G:List Nat->Prop}{L:LN}(g:GC W h a n O R G)(E:eP G L):cF O R n 0 (cH n)=L:=(eE g.grp g.isc).1.uniq E
theorem cell_one {v:V}{h:H}{l:List Int}(s:SI h v l):v.cells= [v]/\v.one=true:=⟨(SV.dG s).1,(SV.dG s).2.1⟩
def SB (h:H)(v:V)(l:List Bool):Prop:=SV h v 1 (l.map V.bool)
theorem SB.mono {h h':H}{v:V}{l:List Bool}(s:SB h v l)(f:Fr h h'):SB h' v l:=SV.mono s f
theorem SB.open {h:H}{v:V}{l:List Bool}(s:SB h v l):dA v=some (aB (l.length:Int))/\ ∃id off,Sl v 1 l.length id off/\ ∀i,i<l.length->id<h.next/\h.cell id (off+i)=some (.bool (l.getD i false)):=by
 have a:(l.map V.bool).length=l.length:=iR ..;refine⟨by unfold dA;rw[SV.len s (n:=l.length) om om];rfl,?_⟩;obtain⟨id,off,c,a,b⟩:=SV.shape s l.length om om;exact⟨id,off,c,λi hi=>⟨a om,by rw[b i om,Lc,List.getD,eV hi];rfl⟩⟩
set_option maxRecDepth 100000
theorem GC.all {W:Nat->Prop}{h:H}{a:V}{n:Nat}{O:LN}{R:jL}{G:List Nat->Prop}(g:GC W h a n O R G):eP G (cF O R n 0 (cH n))/\(cF O R n 0 (cH n)).length<=5040:=by
 have e:=eE g.grp g.isc;exact⟨e.1,by rw[e.2];exact szF_fact g⟩
section
variable {n:Nat} {G H:List Nat->Prop} {L M:LN} {K K':List Nat} {x:List Nat}
variable (hG:mH n G) (E:eP G L) (k:IsK n G L K) (hH:mH n H) (F:eP H M) (k':IsK n H M K') (X:bV n x) (hx: ∀y,H y↔ ∃g,G g/\conjP g x=y)
include hG E k hH F k' X hx
end
def BlkS (v:V)(id:Nat):Prop:= ∃off m c,v= .sl id off m c
theorem PVs.sp' {W:Nat->Prop}{h:H}{v:V}{ws:List V}{l:LN}(sv:SV h v 1 ws)(p:PVs W h ws l):SP h v l:=by
 refine⟨ws,sv,?_⟩;have a:=All2.length p
 exact All2.iC (by simpa using a) λi hi a=>by
  have:=(All2.get p i hi om).si;simpa using this
section
variable {h:H} {v:V} {ws:List V} {b k n:Nat} {x y:List Nat} {A S Q:LN}
def TdR (h:H)(v:V)(ws:List V)(b:Nat):Prop:= ∃id cap rest,v= .sl id 0 ws.length cap/\b<=id/\id<h.next/\h.get id=bW (ws++rest)/\(cap= .un 1∨cap= .kn 1/\ws.length+rest.length=1)
theorem TdR.sv (t:TdR h v ws b):SV h v 1 ws:=by
 obtain⟨id,a,c,rfl,c,e,d,_⟩:=t;exact .inr ⟨id,0,_,a,false,_,rfl,(kF _).symm,e,d,by rw[iZ];omega,by rw[List.drop_zero,kF,List.take_left' rfl]⟩
theorem TdR.keep {h':H}(t:TdR h v ws b)(j:h.next<=h'.next)(d: ∀id,BlkS v id->h'.get id=h.get id):TdR h' v ws b:=by
 obtain⟨id,c,a,e,f,g,g,i⟩:=t;exact⟨id,c,a,e,f,om,by rw[d id ⟨_,_,_,e⟩];exact g,i⟩
theorem TdR.in (t:TdR h v ws b){id:Nat}(d:BlkS v id):b<=id/\id<h.next:=by
 obtain⟨i,a,a,rfl,c,f,_⟩:=t;obtain⟨_,_,_,e⟩:=d;cases e;exact⟨c,f⟩
theorem TdR.pop (t:TdR h v ws b)(m:ws.length=k+1):
  ∃v',nE 1 v none (some (aB k)) none=some v'/\TdR h v' (ws.take k) b/\ ∀id,BlkS v' id->BlkS v id:=by
 obtain⟨id,l,a,rfl,d,j,f,l⟩:=t
 have c:(ws.take k).length=k:=by rw[xF];omega
 have g:ws++a=ws.take k++(ws.drop k++a):=by rw[←oF,List.take_append_drop]
 rcases l with rfl|⟨rfl,l⟩
 ·refine⟨_,Ya om om,⟨id,_,ws.drop k++a,by rw[c,De],d,j,by rw[f,g],.inl rfl⟩,λi ⟨_,_,_,e⟩=>by cases e;exact⟨_,_,_,rfl⟩⟩
 ·refine⟨_,EW om om,⟨id,_,ws.drop k++a,by rw[c,De],d,j,by rw[f,g],.inr ⟨rfl,by rw[c,iZ,Cw];omega⟩⟩,λi ⟨_,_,_,e⟩=>by cases e;exact⟨_,_,_,rfl⟩⟩
theorem TdR.push {y:V}{S:Nat}{c:mF}(t:TdR h v ws b)(o:SV h (.sl S 0 1 c) 1 [y])(F:b<=h.next)(K:ws.length<1000000):
  ∃v' h',qY h 1 24 v (.sl S 0 1 c)=some (v',h')/\TdR h' v' (ws++ [y]) b/\(∀k,k<h.next-> ¬BlkS v k->h'.get k=h.get k)/\h.next<=h'.next/\h'.next<=h.next+1/\ ∀k,BlkS v' k->BlkS v k∨k=h.next:=by
 have q:qY h 1 24 v (.sl S 0 1 c)=Ay.oT h 1 24 v 1 [y]:=by
  simp only[qY,o.len (n:=1) rfl om,o.slice]
 rw[q]
 have q:=t.sv
 have a:=q.len (n:=ws.length) om om
 have m:=q.slice
 obtain⟨id,i,d,rfl,B,J,p,G⟩:=t
 unfold Ay.oT
 simp only[a,m]
 rw[aZ om,aV ⟨om,om⟩]
 have f: ∀g:H,g.next=h.next->(∀k,k<h.next->k≠id->g.get k=h.get k)-> ∃v' h',some (V.sl h.next 0 (ws.length+1) (.un 1),g.new (.cells false (ws++ [y])))=some (v',h')/\TdR h' v' (ws++ [y]) b/\(∀k,k<h.next-> ¬BlkS (.sl id 0 ws.length i) k->h'.get k=h.get k)/\h.next<=h'.next/\h'.next<=h.next+1/\ ∀k,BlkS v' k->BlkS (.sl id 0 ws.length i) k∨k=h.next:=by
  intro g w r;refine⟨_,_,rfl,⟨h.next,_, [],by rw[iZ];rfl,F,by rw[H.aX];omega,by rw[←w,H.aN,qA],.inl rfl⟩,λk j l=>?_,by rw[H.aX];omega,by rw[H.aX];omega,λk ⟨_,_,_,e⟩=>by cases e;exact .inr rfl⟩;rw[H.bL g om];exact r k j (λe=>l ⟨_,_,_,by rw[e]⟩)
 rcases G with rfl|⟨rfl,s⟩
 ·simp only[p,if_true]
  exact f (h.set id none) rfl (λk _ j=>H.aI h j none)
 ·simp only
  by_cases e:ws.length+1<=1
  ·rw[aV e]
   have u:ws= []:=Yx om
   subst u
   obtain⟨z,rfl⟩: ∃z,d= [z]:=List.length_eq_one_iff.1 (by simpa using s)
   have a:h.put id (0+([]:List V).length*1) [y]=some (h.set id (bW [y])):=by
    simp [H.put,p,putAt]
   rw[a]
   refine⟨_,_,rfl,⟨id,_, [],rfl,B,J,by rw[H.aT];rfl,.inr ⟨rfl,rfl⟩⟩,λk j l=>H.aI h (λe=>l ⟨0,0,.kn 1,by rw[e];rfl⟩) _,eS _,Nat.le_succ _,λk ⟨_,_,_,e⟩=>by cases e;exact .inl ⟨_,_,_,rfl⟩⟩
  ·rw[aZ e]
   exact f h rfl (λ_ _ _=>rfl)
def allP (n:Nat):LN:=(rX n n).filter (permB n)
theorem allP_mem (X:bV n x):x∈allP n:=by
 unfold allP;rw[Vz];refine⟨X.mU,?_⟩;unfold permB;simp only[pF,beq_iff_eq,zE,Co];exact⟨⟨X.len,X.nd⟩,X.lt⟩
theorem perms_five (d:n<=5){l:LN}(nd:l.Nodup)(c: ∀x∈l,bV n x):l.length<=120:=by
 have h: ∀n,n<=5->(allP n).length<=120:=by decide+kernel
 exact jK (List.Nodup.length_le_of_subset nd λx a=>allP_mem (c x a)) (h n d)
theorem lt_nodup {n:Nat}(a:A.Pairwise Lt):A.Nodup:=a.imp λh e=>by rw[e] at h;exact h.irrefl
def insA (A:LN)(k:Nat)(y:List Nat):LN:=A.take k++y::A.drop k
theorem insA_mem {z:List Nat}:z∈insA A k y↔z=y∨z∈A:=by
 unfold insA;rw[sZ,Dw];constructor
 ·rintro (h|h|h)
  ·exact .inr (List.mem_of_mem_take h)
  ·exact .inl h
  ·exact .inr (List.mem_of_mem_drop h)
 ·rintro (h|h)
  ·exact .inr (.inl h)
  ·rw[←List.take_append_drop k A,sZ] at h
   rcases h with h|h
   ·exact .inl h
   ·exact .inr (.inr h)
theorem insA_len:(insA A k y).length=A.length+1:=by
 unfold insA;rw[iZ,List.length_cons,xF,Cw];omega
theorem lt_total {a b:List Nat}(A:bV n a)(B:bV n b)(m: ¬Lt a b)(h2:a≠b):Lt b a:=by
 have h: ∃i,i<n/\a.getD i 0≠b.getD i 0:=Am λh=>h2 (oU (by rw[A.len,B.len]) λi hi=>Am λd=>h ⟨i,by rw[←A.len];exact hi,d⟩)
 obtain⟨i,hi,c⟩:=h
 have l: ∃i,(i<n/\a.getD i 0≠b.getD i 0)/\ ∀j,j<i-> ¬(j<n/\a.getD j 0≠b.getD j 0):=by
  revert hi c
  induction i using Nat.strongRecOn with
  |ind i ih=>
   intro hi c
   by_cases h: ∃j,j<i/\j<n/\a.getD j 0≠b.getD j 0
   ·obtain⟨j,d,e,f⟩:=h
    exact ih j d e f
   ·exact⟨i,⟨hi,c⟩,λj f c=>h ⟨j,f,c⟩⟩
 obtain⟨k,⟨i,g⟩,c⟩:=l;have l: ∀j,j<k->a.getD j 0=b.getD j 0:=λj f=>Am λd=>c j f ⟨om,d⟩
 rcases Nat.lt_or_gt_of_ne g with e|e
 ·exact (m ⟨k,by rw[A.len];exact i,l,e⟩).elim
 ·exact⟨k,by rw[B.len];exact i,λj f=>(l j f).symm,e⟩
theorem insA_asc (g: ∀x∈A,bV n x)(Y:bV n y)(c:A.Pairwise Lt)(p:Plc A y k)(o:y∉A):(insA A k y).Pairwise Lt:=by
 unfold insA;rw[List.pairwise_append];have IW: ∀{z:List Nat},z∈A.take k-> ∃i,i<k/\i<A.length/\A.getD i []=z:=λh=>(mem_take (d:= [])).1 h
 have r: ∀{z:List Nat},z∈A.drop k-> ∃i,k<=i/\i<A.length/\A.getD i []=z:=λh=>by
  obtain⟨q,s,e⟩:=uK.1 h;rw[Cw] at s;rw[List.getElem_drop] at e;exact⟨k+q,om,om,by rw[List.getD,eV om,←e];rfl⟩
 have m: ∀z∈A.take k,Lt z y:=λz a=>by
  obtain⟨i,l,f,rfl⟩:=IW a;exact (lessB_iff (by rw[(g _ (getD_mem f)).len,Y.len])).1 (p.lo i l)
 have hi: ∀z∈A.drop k,Lt y z:=λz a=>by
  obtain⟨i,l,f,rfl⟩:=r a;have Z:=g _ (getD_mem (d:= []) f);refine lt_total Z Y (λh=>?_) (λe=>o (by rw[←e];exact getD_mem f));have:=p.hi i l f;rw[(lessB_iff (by rw[Z.len,Y.len])).2 h] at this;cases this
 refine⟨c.sublist (List.take_sublist k A),List.pairwise_cons.2 ⟨hi,c.sublist (List.drop_sublist k A)⟩,λz a w j=>?_⟩;rcases Dw.1 j with rfl|j
 ·exact m z a
 ·have Z:=g z (List.mem_of_mem_take a)
  exact Lt.trans (by rw[Z.len,Y.len]) (m z a) (hi w j)
structure ElJ (n:Nat)(S A Q:LN):Prop where
 asc:A.Pairwise Lt
 gen: ∀x∈A,fE n (· ∈S) x
 one:cH n∈A
 sub: ∀x∈Q,x∈A
 cl: ∀x∈A,x∉Q-> ∀g∈S,bE x g∈A
theorem ElJ.start (n:Nat)(S:LN):ElJ n S [cH n] [cH n]:=
 ⟨List.pairwise_singleton _ _,λx a=>by simp at a;subst a;exact .one,by simp,λx a=>a,λx a h=>absurd a h⟩
theorem ElJ.done (j:ElJ n S A []):eP (fE n (· ∈S)) A:=by
 refine⟨j.asc,λx=>⟨j.gen x,λh=>?_⟩⟩
 induction h with
 |one=>exact j.one
 |mul _ hg ih=>exact j.cl _ ih List.not_mem_nil _ hg
structure ElI (n:Nat)(S:LN)(x:List Nat)(i:Nat)(A Q:LN):Prop where
 asc:A.Pairwise Lt
 gen: ∀x∈A,fE n (· ∈S) x
 one:cH n∈A
 sub: ∀x∈Q,x∈A
 mem:x∈A
 cl: ∀z∈A,z∉Q->z=x∨ ∀g∈S,bE z g∈A
 dn: ∀j,j<i->bE x (S.getD j [])∈A
theorem ElI.start (j:ElJ n S A (Q++ [x])):ElI n S x 0 A Q:=
 ⟨j.asc,j.gen,j.one,λz a=>j.sub z (by simp [a]),j.sub x (by simp),λz a c=>by
  by_cases e:z=x
  ·exact .inl e
  ·exact .inr (j.cl z a (by simp [c,e])),λj a=>om⟩
theorem ElI.done (j:ElI n S x S.length A Q):ElJ n S A Q:=
 ⟨j.asc,j.gen,j.one,j.sub,λz c d g a=>by
  rcases j.cl z c d with rfl|h
  ·obtain⟨i,hi,e⟩:=uK.1 a
   have:=j.dn i hi;rwa [List.getD,eV hi,Option.getD_some,e] at this
  ·exact h g a⟩
theorem ElI.skip {i:Nat}(j:ElI n S x i A Q)(h:bE x (S.getD i [])∈A):ElI n S x (i+1) A Q:=
 ⟨j.asc,j.gen,j.one,j.sub,j.mem,j.cl,λk a=>by
  by_cases e:k=i
  ·rw[e];exact h
  ·exact j.dn k om⟩
theorem ElI.step {i:Nat}(j:ElI n S x i A Q)(l: ∀g∈S,bV n g)(hi:i<S.length)(h:bE x (S.getD i [])∉A)(p:Plc A (bE x (S.getD i [])) k):ElI n S x (i+1) (insA A k (bE x (S.getD i []))) (Q++ [bE x (S.getD i [])]):=by
 have e:=j.gen x j.mem;have c:fE n (· ∈S) (bE x (S.getD i [])):=e.mul (getD_mem hi);obtain⟨y,f⟩:=JR (bE x (S.getD i []));rw[f] at c h p ⊢;refine⟨insA_asc (λz a=>(j.gen z a).isP l) (c.isP l) j.asc p h,λz a=>?_,insA_mem.2 (.inr j.one),λz a=>?_,insA_mem.2 (.inr j.mem),λz a d=>?_,λq d=>?_⟩
 ·rcases insA_mem.1 a with rfl|a
  ·exact c
  ·exact j.gen z a
 ·rcases sZ.1 a with a|a
  ·exact insA_mem.2 (.inr (j.sub z a))
  ·simp at a;exact insA_mem.2 (.inl a)
 ·rcases insA_mem.1 a with rfl|a
  ·exact absurd (by simp) d
  ·rcases j.cl z a (λh=>d (by simp [h])) with e|c
   ·exact .inl e
   ·exact .inr λg a=>insA_mem.2 (.inr (c g a))
 ·by_cases e:q=i
  ·rw[e,f];exact insA_mem.2 (.inl rfl)
  ·exact insA_mem.2 (.inr (j.dn q om))
theorem ins_cells {A:List V}(a:k<=A.length)(z y:V):(((A++ [z]).take (k+1)++A.drop k).set k y)=A.take k++y::A.drop k:=by
 have c:(A++ [z]).take (k+1)=A.take k++ [(A++ [z]).getD k .undef]:=by
  rw[take_getD .undef (by rw[iZ];simp;omega),List.take_append_of_le_length a]
 rw[c,oF,List.set_append_right _ _ (by rw[xF];omega),xF,Nat.min_eq_left a,Nat.sub_self]
 rfl
theorem PVs.insA {W:Nat->Prop}{c:List V}(p:PVs W h c A)(q:PV W h v y)(f:k<=A.length):PVs W h (c.take k++v::c.drop k) (Go.Proofs.YtapfcpkecmmagaaGreat.insA A k y):=by
 have d:=All2.length p
 have t: ∀(k:Nat) (c:List V) (A:LN),PVs W h c A->PVs W h (c.take k) (A.take k)/\PVs W h (c.drop k) (A.drop k):=by
  intro k
  induction k with
  |zero=>intro c A p;exact⟨trivial,p⟩
  |succ k ih=>
   intro c A p
   cases c with
   |nil=>cases A with
    |nil=>exact⟨trivial,trivial⟩
    |cons=>exact p.elim
   |cons a c=>cases A with
    |nil=>exact p.elim
    |cons b A=>
     obtain⟨d,e⟩:=ih c A p.2
     exact⟨⟨p.1,d⟩,e⟩
 obtain⟨d,e⟩:=t k c A p;exact d.append ⟨q,e⟩
theorem TdR.own (t:TdR h v ws b)(i:0<ws.length):Own h v 1 ws b:=by
 obtain⟨id,c,a,rfl,e,g,f,d⟩:=t;refine .inr ⟨id,ws.length,c,a,rfl,(kF _).symm,?_,e,g,f⟩;rcases d with d|⟨rfl,a⟩
 ·exact .inl d
 ·have e:ws.length=1:=om
  exact .inr ⟨by rw[e],Yx om⟩
theorem slc_lo {Q m:Nat}(a:k<=m):nE 1 (.sl Q 0 (m+1) (.un 1)) (some (aB k)) none none=some (.sl Q k (m+1-k) (.un 1)):=by
 simp only[nE,kS];rw[aV ⟨om,om⟩];simp only[if_true,De];rw[aV om,Nat.zero_add,kF]
theorem slc_lo1 {Q m:Nat}(a:k<=m):nE 1 (.sl Q 0 (m+1) (.un 1)) (some (aB ((k:Int)+1))) none none=some (.sl Q (if k<m then k+1 else 0) (m-k) (.un 1)):=by
 simp only[nE,kS];rw[aV ⟨om,om⟩];have e:((k:Int)+1).toNat=k+1:=om
 simp only[if_true,e]
 by_cases h:k<m
 ·rw[aV om,aV h]
  simp only[Option.some.injEq,V.sl.injEq,true_and,and_true];omega
 ·rw[aZ om,aZ h]
  simp only[Option.some.injEq,V.sl.injEq,true_and,and_true];omega
theorem cpy_ins {Q:Nat}{z:V}(l:k<=ws.length)(c:h.get Q=bW (ws++ [z])):
  Sj h 1 (.sl Q (if k<ws.length then k+1 else 0) (ws.length-k) (.un 1)) (.sl Q k (ws.length+1-k) (.un 1))=some (aB (ws.length-k:Nat),h.set Q (bW ((ws++ [z]).take (k+1)++ws.drop k))):=by
 have j:mG (.sl Q (if k<ws.length then k+1 else 0) (ws.length-k) (.un 1))=some (ws.length-k):=rfl
 have d:mG (.sl Q k (ws.length+1-k) (.un 1))=some (ws.length+1-k):=rfl
 have i:min (ws.length+1-k) (ws.length-k)=ws.length-k:=om
 have g:h.row Q k (ws.length-k)=some (ws.drop k):=by
  unfold H.row;rw[c];show sub (ws++ [z]) k (ws.length-k)=_;unfold sub;rw[aV (by rw[iZ];omega),List.drop_append_of_le_length l,List.take_left' (by rw[Cw])]
 have f:h.put Q (if k<ws.length then k+1 else 0) (ws.drop k)=some (h.set Q (bW ((ws++ [z]).take (k+1)++ws.drop k))):=by
  unfold H.put;rw[c];show (putAt (ws++ [z]) _ (ws.drop k)).map _=_;unfold putAt;have a:(ws++ [z]).length=ws.length+1:=by simp
  by_cases h:k<ws.length
  ·rw[aV h,aV (by rw[a,Cw];omega),Cw,List.drop_eq_nil_of_le (as:=ws++ [z]) (by rw[a];omega),qA];rfl
  ·have e:k=ws.length:=om
   rw[aZ h,aV (by rw[a,Cw];omega),e,List.drop_length,qA,qA];have e:(ws++ [z]).take (ws.length+1)=ws++ [z]:=yW (by rw[a];omega);rw[e];simp
 simp only[Sj,j,d,i,kF,g,f]
structure ESt (h hh:H)(va vt:V)(A Q:LN):Prop where
 ex: ∃wa wt,TdR hh va wa h.next/\TdR hh vt wt h.next/\PVs (λq=>BlkS va q∨BlkS vt q) hh wa A/\PVs (λq=>BlkS va q∨BlkS vt q) hh wt Q
 dis: ∀q,BlkS va q-> ¬BlkS vt q
 fr:Fr h hh
theorem kelemN_ok (mo n:Nat)(vl:V)(S:LN)(h:H)(n0:1<=n)(n5:n<=5)(hS: ∀g∈S,bV n g)(hl:S.length<=16)(e8: ∀A:LN,A.Nodup->(∀x∈A,fE n (· ∈S) x)->A.length<=mo)(hv:SP h vl S):
  Ev T 18 [aB n,vl,aB mo] h (λv h'=> ∃A,eP (fE n (· ∈S)) A/\A.length<=120/\SP h' v A/\Fr h h'):=by
 refine bH c_kit_Elements rfl rfl ?_
 have lv:=hv.lens
 rw[iR] at lv
 obtain⟨id,off,ws,sh,c4,f,hc,e1⟩:=hv.open
 rw[iR] at sh c4 f hc
 simp(disch:=omega)only[go_sem,c_kit_Elements,aF]
 refine (kone_ok n h om).mono ?_
 rintro v1 h1 ⟨s1,f1,l1⟩
 obtain⟨B,hB⟩:=JR h1.next
 obtain⟨G,e2,n2,g2,o2,f2⟩:=dN hB [v1]
 simp(disch:=omega)only[go_sem,cJ _ (z:= .aD) (cell_one s1).1 (cell_one s1).2,hB,e2]
 refine (kone_ok n G om).mono ?_
 rintro v3 h3 ⟨s3,f3,l3⟩
 obtain⟨C,hC⟩:=JR h3.next
 obtain⟨h4,e4,n4,g4,o4,f4⟩:=dN hC [v3]
 have k1:=f1.next
 have k3:=f3.next
 have F4:=((f1.trans f2).trans f3).trans f4
 have j: ∀{v:V} {Y:H},SI Y v (zi (cH n))->Fr Y h4->(∀id off len f,v= .sl id off len f->id≠B/\id≠C)->PV (λq=>BlkS (.sl B 0 1 (.kn 1)) q∨BlkS (.sl C 0 1 (.kn 1)) q) h4 v (cH n):=λ{v Y} s f g6=>by
  refine⟨s.mono f,?_⟩
  cases v with
  |sl i o m c=>
   have:=g6 _ _ _ _ rfl;rintro (⟨_,_,_,e⟩|⟨_,_,_,e⟩)
   ·cases e;omega
   ·cases e;omega
  |_=>trivial
 have c5:ESt h h4 (.sl B 0 1 (.kn 1)) (.sl C 0 1 (.kn 1)) [cH n] [cH n]:=by
  refine⟨⟨[v1], [v3],⟨B,_, [],rfl,om,om,by rw[o4 B om,f3.get B om];exact g2,.inr ⟨rfl,rfl⟩⟩,⟨C,_, [],rfl,om,om,g4,.inr ⟨rfl,rfl⟩⟩,PVs.one (j s1 ((f2.trans f3).trans f4) λi o m c e=>?_),PVs.one (j s3 f4 λi o m c e=>?_)⟩,λq ⟨_,_,_,e⟩ ⟨_,_,_,e2⟩=>by cases e;cases e2;omega,F4⟩
  ·have:=SV.in s1 _ _ _ _ e;omega
  ·have:=SV.in s3 _ _ _ _ e;have:=l3 _ _ _ _ e;omega
 simp(disch:=omega)only[go_sem,cJ _ (z:= .aD) (cell_one s3).1 (cell_one s3).2,hC,e4]
 refine aH (λk' F Y=> ∃(A Q:LN) (d l:V),(∃g:Nat->V,F= [aB n,vl,aB mo,g 3,d,l,g 6,g 7,g 8,g 9,g 10,g 11,g 12,g 13,g 14])/\ElJ n S A Q/\ESt h Y d l A Q/\Q.length<=A.length/\k'=1000- 2*A.length+Q.length) _
  ⟨_,_,_,_,aA rfl,ElJ.start n S,c5,eS _,rfl⟩ ?_
 clear c5 j g2 g4 o2 o4 e2 e4 s1 s3 l1 l3 F4 f1 f2 f3 f4 k1 k3 n2 n4 hB hC
 rintro k' F h5 ⟨A,Q,d,l,⟨g,rfl⟩,J,st,f,rfl⟩
 have f: ∀x∈A,bV n x:=λx hx=>(J.gen x hx).isP hS
 have la:=perms_five n5 (lt_nodup J.asc (n:=n)) f
 obtain⟨⟨u,wt,ta,tt,pa,pt⟩,dis,fr⟩:=st
 have a4:=All2.length pa
 have c1:=All2.length pt
 have a0:dA l=some (aB (Q.length:Int)):=by unfold dA;rw[SV.len tt.sv (n:=Q.length) om om];rfl
 by_cases w:(0:Int)<(Q.length:Int)
 case neg=>
  have d1:=bJ w;have e0:Q= []:=Yx om;simp(disch:=omega)only[go_sem,a0,d1];subst e0;exact⟨A,J.done,la,PVs.sp' ta.sv pa,fr⟩
 have d1:=bM w
 obtain⟨m,f⟩: ∃m,Q.length=m+1:=⟨Q.length- 1,om⟩
 have em:(Q.length:Int)- 1=(m:Int):=om
 obtain⟨_,f,f,b7,c0⟩:=PVs.open tt.sv pt
 obtain⟨_,cx,px⟩:=c0 m om
 obtain⟨x,hx⟩:=JR (Q.getD m [])
 rw[hx] at px
 generalize wt.getD m .undef=vx at cx px
 obtain⟨L,b1,b9,O⟩:=tt.pop (k:=m) om
 have hQ:Q=Q.take m++ [x]:=by
  rw[←hx,←take_getD [] om,yW om]
 have b5:PVs (λq=>BlkS d q∨BlkS L q) h5 (wt.take m) (Q.take m):=by
  have t: ∀(k:Nat) (u:List V) (A:LN),PVs (λq=>BlkS d q∨BlkS l q) h5 u A->PVs (λq=>BlkS d q∨BlkS l q) h5 (u.take k) (A.take k):=by
   intro k
   induction k with
   |zero=>intro u A p;exact trivial
   |succ k ih=>
    intro u A p
    cases u with
    |nil=>cases A with
     |nil=>exact trivial
     |cons=>exact p.elim
    |cons a u=>cases A with
     |nil=>exact p.elim
     |cons b A=>exact⟨p.1,ih u A p.2⟩
  exact PVs.weak (t m wt Q pt) λq _ f=>f.imp (λh=>h) (O q)
 have b8:ESt h h5 d L A (Q.take m):=⟨⟨u,wt.take m,ta,b9,PVs.weak pa λq _ f=>f.imp (λh=>h) (O q),b5⟩,λq h1 G=>dis q h1 (O q G),fr⟩
 have c3:PV (λq=>BlkS d q∨BlkS L q) h5 vx x:=PV.weak px λq _ f=>f.imp (λh=>h) (O q)
 have J':ElI n S x 0 A (Q.take m):=ElI.start (by rw[←hQ];exact J)
 have f:(Q.take m).length=m:=by rw[xF];omega
 simp(disch:=omega)only[go_sem,a0,d1,em,b7.ixa,cx,b1]
 refine loop_end (λvs Y=> ∃(r R:LN) (d l:V),(∃g:Nat->V,vs= [aB n,vl,aB mo,g 3,d,l,g 6,g 7,g 8,g 9,g 10,g 11,g 12,g 13,g 14])/\ElJ n S r R/\ESt h Y d l r R/\R.length<=r.length/\1000- 2*r.length+R.length<1000- 2*A.length+Q.length) ?_ ?_
 ·refine aH (λk' F Y=> ∃(i:Nat) (r R:LN) (d l:V),(∃g:Nat->V,F= [aB n,vl,aB mo,g 3,d,l,vx,aB i,g 8,g 9,g 10,g 11,g 12,g 13,g 14])/\i<=S.length/\ElI n S x i r R/\ESt h Y d l r R/\PV (λq=>BlkS d q∨BlkS l q) Y vx x/\R.length+A.length+1=r.length+Q.length/\A.length<=r.length/\k'=S.length-i) S.length
   ⟨0,A,Q.take m,d,L,aA rfl,fF _,J',b8,c3,om,eS _,rfl⟩ ?_
  clear b8 c3 J' b5 b9 O b1 dis fr pa pt ta tt a4 c1 a0 cx px c0 b7 L g
  rintro k' F h6 ⟨i,r,R,d,l,⟨g,rfl⟩,hi,J,st,px,e3,b4,rfl⟩
  have b0: ∀x∈r,bV n x:=λx hx=>(J.gen x hx).isP hS
  have f:=perms_five n5 (lt_nodup J.asc (n:=n)) b0
  by_cases c8:(i:Int)<(S.length:Int)
  case neg=>
   have d2:=bJ c8;obtain rfl:i=S.length:=om
   simp(disch:=omega)only[go_sem,lv,d2];exact⟨r,R,d,l,aA rfl,J.done,st,om,om⟩
  have d2:=bM c8
  have Z:i<S.length:=om
  obtain⟨⟨u,wt,ta,tt,pa,pt⟩,dis,fr⟩:=st
  have a4:=All2.length pa
  have c1:=All2.length pt
  have cg:h6.cell id (off+i)=some (ws.getD i .undef):=by rw[fr.cell (c4 om),hc i Z]
  have sg:=(sp_at e1 Z).mono fr
  have Gp:bV n (S.getD i []):=hS _ (getD_mem Z)
  generalize ws.getD i .undef=f at cg sg
  have X:bV n x:=b0 x J.mem
  simp(disch:=omega)only[go_sem,lv,d2,sh.ixa,cg]
  refine (kmul_ok vx f x _ h6 (by rw[X.len];omega) px.si sg (λj f=>by rw[Gp.len];exact X.dZ (by rw[←X.len];exact f))).mono ?_
  rintro vy h7 ⟨sy,f7,j⟩
  obtain⟨y,hy⟩:=JR (bE x (S.getD i []))
  have Y:bV n y:=by rw[←hy];exact X.mul Gp
  rw[hy] at sy
  have c2:=ta.keep f7.next λq w=>f7.get q (ta.in w).2
  have e6:=tt.keep f7.next λq w=>f7.get q (tt.in w).2
  have c7:=PVs.fx pa (Fx.of f7:Fx (λq=>BlkS d q∨BlkS l q) h6 h7)
  have g1:=PVs.fx pt (Fx.of f7:Fx (λq=>BlkS d q∨BlkS l q) h6 h7)
  have g7:=PV.mono px f7
  have f: ∀q,(BlkS d q∨BlkS l q)->q<h6.next:=λq w=>w.elim (λh=>(ta.in h).2) (λh=>(tt.in h).2)
  have i0:PV (λq=>BlkS d q∨BlkS l q) h7 vy y:=PV.fresh sy j f
  simp(disch:=omega)only[go_sem]
  refine (place_ok d vy n r y h7 om om b0 Y J.asc (PVs.sp' c2.sv c7) sy).mono ?_
  rintro _ h8 ⟨k,rfl,pk,_,f⟩
  have a5:=c2.keep f.next λq w=>f.get q (c2.in w).2
  have W:=e6.keep f.next λq w=>f.get q (e6.in w).2
  have e5:=PVs.fx c7 (Fx.of f:Fx (λq=>BlkS d q∨BlkS l q) h7 h8)
  have e7:=PVs.fx g1 (Fx.of f:Fx (λq=>BlkS d q∨BlkS l q) h7 h8)
  have d7:=PV.mono g7 f
  have g3:=PV.mono i0 f
  have b2:=(fr.trans f7).trans f
  by_cases a1:y∈r
  ·have d3:=bM a1
   simp(disch:=omega)only[go_sem,d3]
   rw[dY i]
   exact⟨S.length-(i+1),om,i+1,r,R,d,l,aA rfl,om,J.skip (by rw[hy];exact a1),⟨⟨u,wt,a5,W,e5,e7⟩,dis,b2⟩,d7,e3,b4,rfl⟩
  have d3:=bJ a1
  have J2:=J.step hS Z (by rw[hy];exact a1) (by rw[hy];exact pk)
  rw[hy] at J2
  have f:=perms_five n5 (lt_nodup J2.asc (n:=n)) (λx hx=>(J2.gen x hx).isP hS)
  rw[insA_len] at f
  have g8:dA d=some (aB (r.length:Int)):=by unfold dA;rw[SV.len a5.sv (n:=r.length) om om];rfl
  have f:=e8 _ (lt_nodup J2.asc (n:=n)) J2.gen
  rw[insA_len] at f
  have d4:decide ((mo:Int)<=(r.length:Int))=false:=bJ om
  have f:0<r.length:=Xn J.one
  obtain⟨N,hN⟩:=JR h8.next
  obtain⟨f,e9,n9,p,o9,j⟩:=dN hN [.aD]
  have f:=(a5.own om).fr j
  obtain⟨P,d9,b6⟩:=f.push (bytes:=24) (SV.one om p (.kn 1)) (n:=r.length) (m:=1) om rfl om om om
  have f:=b6.next
  rw[n9] at d9
  have hk:=pk.le
  have f5:P.get (N+1)=bW (u++ [.aD]):=by rw[←n9];exact b6.get
  obtain⟨hb,h0,f,c6⟩: ∃hb:H,H.mk P.tr (P.next+8)=hb/\hb.next=P.next+8/\ ∀q,hb.get q=P.get q:=⟨_,rfl,rfl,λ_=>rfl⟩
  have cp:=cpy_ins (k:=k) om ((c6 (N+1)).trans f5)
  rw[a4] at cp
  obtain⟨j,f,p,f6,p⟩:=mS hb (N+1) ((u++ [V.aD]).take (k+1)++u.drop k)
  rw[f] at cp
  have d5:decide ((k:Int)<0)=false:=bJ om
  have d6:decide (((r.length+1:Nat):Int)<=(k:Int))=false:=bJ om
  have f:((u++ [V.aD]).take (k+1)++u.drop k).length=r.length+1:=by
   rw[iZ,xF,iZ,Cw];simp;omega
  have b3:=bF (vs:=(u++ [V.aD]).take (k+1)++u.drop k) (off:=k) om j (N+1) vy
  rw[ins_cells om] at b3
  obtain⟨f,s,t,i2,t⟩:=mS j (N+1) (u.take k++vy::u.drop k)
  rw[s] at b3
  have a6:=cell_one sy
  have fT: ∀q,q<N-> ¬BlkS d q->f.get q=h8.get q:=λq h1 G=>by
   rw[t q om,p q om,c6,b6.old q om (λi o m c e e2=>G ⟨o,m,c,e2▸e⟩),o9 q om]
  have j:f.next=N+10:=om
  have j:=W.keep (h':=f) om λq w=>fT q (by have:=(W.in w).2;omega) (λh=>dis q h w)
  obtain⟨P,hP⟩:=JR f.next
  obtain⟨f,f0,f,m,f,a3⟩:=dN hP [vy]
  have f:=j.keep a3.next λq w=>a3.get q (j.in w).2
  have j:=b2.next
  obtain⟨d0,a2,g0,d8,U,j,j,a9⟩:=f.push (S:=P) (c:= .kn 1) (SV.one om m (.kn 1)) om om
  simp(disch:=omega)only[go_sem,d3,g8,d4,cJ _ (z:= .aD) (v:= .aD) rfl rfl,hN,e9,d9,slc_lo1 hk,slc_lo hk,h0,cp,d5,d6,f6,fU a6.1 a6.2,b3,cJ _ (z:= .aD) a6.1 a6.2,hP,f0,g0]
  rw[dY i]
  have c9: ∀q,BlkS l q->q<N:=λq w=>by have:=(W.in w).2;omega
  have K: ∀q,q<N-> ¬BlkS d q-> ¬BlkS l q->a2.get q=h8.get q:=λq h1 G h3=>by
   rw[U q om h3,a3.get q om];exact fT q h1 G
  have xx:Fx (λq=>BlkS d q∨BlkS l q) h8 a2:=⟨om,λq h1 G=>K q om (λh=>G (.inl h)) (λh=>G (.inr h))⟩
  have ww: ∀q,q<h8.next->(BlkS (.sl (N+1) 0 (r.length+1) (.un 1)) q∨BlkS d0 q)->BlkS d q∨BlkS l q:=λq h1 G=>by
   rcases G with ⟨_,_,_,e⟩|G
   ·cases e;omega
   ·rcases a9 q G with h3|h3
    ·exact .inr h3
    ·omega
  have i1:a2.get (N+1)=bW (u.take k++vy::u.drop k):=by
   rw[U (N+1) om (λh=>by have:=c9 _ h;omega),a3.get (N+1) om];exact i2
  have a8:PV (λq=>BlkS (.sl (N+1) 0 (r.length+1) (.un 1)) q∨BlkS d0 q) a2 vy y:=PV.go g3 xx ww
  have a7:=PVs.insA (PVs.go e5 xx ww) a8 (k:=k) om
  have g5:(u.take k++vy::u.drop k).length=r.length+1:=by rw[All2.length a7,insA_len]
  refine⟨S.length-(i+1),om,i+1,_,_,_,_,aA rfl,om,J2,⟨⟨_,_,⟨N+1,_, [],by rw[g5],om,om,by rw[qA];exact i1,.inl rfl⟩,d8,a7,(PVs.go e7 xx ww).append (PVs.one a8)⟩,λq ⟨_,_,_,e⟩ G=>?_,⟨om,λq w=>?_⟩⟩,PV.go d7 xx ww,by rw[insA_len,iZ];simp;omega,by rw[insA_len];omega,rfl⟩
  ·cases e
   rcases a9 _ G with h3|h3
   ·have:=c9 _ h3;omega
   ·omega
  ·rw[K q om (λh=>by have:=(a5.in h).1;omega) (λh=>by have:=(W.in h).1;omega)]
   exact b2.get q w
 clear b8 c3 J' b5 b9 O b1 dis fr pa pt ta tt a4 c1 a0 cx px c0 b7 L g
 rintro F h6 ⟨r,R,d,l,⟨g,rfl⟩,J,st,b4,c⟩
 simp(disch:=omega)only[go_sem]
 exact⟨_,c,r,R,d,l,aA rfl,J,st,b4,rfl⟩
end
section
variable {n:Nat} {G:List Nat->Prop} {L:LN} {K:List Nat}
variable (hG:mH n G) (E:eP G L) (k:IsK n G L K)
include hG E k
end
def cntB (s:Nat->Bool)(n:Nat):Nat:=((List.range n).filter s).length
theorem cntB_succ (s:Nat->Bool)(n:Nat):cntB s (n+1)=cntB s n+if s n=true then 1 else 0:=by
 unfold cntB;rw[List.range_succ,List.filter_append,iZ];cases h:s n<;>simp [List.filter,h]
theorem cntB_le (s:Nat->Bool)(n:Nat):cntB s n<=n:=by
 unfold cntB;have:=List.length_filter_le s (List.range n);rwa [zU] at this
section
variable {n:Nat} {G:List Nat->Prop} {L:LN}
variable (hG:mH n G) (E:eP G L)
include hG E
end
set_option maxRecDepth 100000
end Go.Proofs.YtapfcpkecmmagaaGreat
