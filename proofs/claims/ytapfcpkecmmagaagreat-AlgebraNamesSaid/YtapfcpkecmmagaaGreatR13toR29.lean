/- Texts of the claim. -/
import Derived.Test.YtapfcpkecmmagaaGreatSc7toR6
set_option maxHeartbeats 64000000
namespace Go.Proofs.YtapfcpkecmmagaaGreat
open Go Go.Ay Go.Pm
set_option maxRecDepth 100000
set_option maxHeartbeats 32000000
theorem Bv (f:Nat)(cs:List V)(vl:V)(l:List Int)(h:H)(p:Int->Bool)(ll:l.length<1000000)(sl:SI h vl l)
  (hf: ∀i,i<l.length-> ∀hh,Fr h hh->Ev T f ([aA (l.getD i 0)]++cs) hh (λv h'=>v= .bool (p (l.getD i 0))/\Fr hh h')):
  Ev T 57 [vl,.fn f [] cs] h (λv h'=>v= .bool (l.any p)/\Fr h h'):=by
 refine bL fQ rfl rfl ?_
 simp(disch:=omega)only[go_sem,fQ,aE]
 refine Ev.mono (Q:=λv h'=> ∃z,v= aA z/\decide (0<=z)=l.any p/\Fr h h') ?_ ?_
 ·refine bL dY rfl rfl ?_
  have lv:=sl.lens
  obtain⟨id,off,sh,hid,hc⟩:=sl.open
  simp(disch:=omega)only[go_sem,dY,aE,lv]
  refine aJ (λk' vars hh=> ∃(i:Nat),(∃g:Nat->V,vars= [vl,.fn f [] cs,g 2,g 3,aA (l.length:Int),aA i,g 6,g 7])/\i<=l.length/\(∀j,j<i->p (l.getD j 0)=false)/\Fr h hh/\k'=l.length-i) l.length
   ⟨0,aB rfl,lW _,λj hj=>by omega,Fr.refl _,rfl⟩ ?_
  rintro k' vars hh ⟨i,⟨g,rfl⟩,hi,pre,F,rfl⟩
  by_cases hlt:(i:Int)<(l.length:Int)
  ·have d1:=oD hlt
   have hi':i<l.length:=by omega
   have c1:hh.cell id (off+i)=some (aA (l.getD i 0)):=by rw[F.cell (hid (by omega)),hc i hi']
   simp(disch:=omega)only[go_sem,d1,sh.ixa,c1]
   refine (hf i hi' hh F).mono ?_
   rintro _ h2 ⟨rfl,f2⟩
   cases he:p (l.getD i 0) with
   |true=>
    simp(disch:=omega)only[go_sem];refine⟨_,rfl,?_,F.trans f2⟩;rw[oD (by omega)];symm;exact List.any_eq_true.2 ⟨_,bI hi',he⟩
   |false=>
    simp(disch:=omega)only[go_sem];rw[jP i];refine⟨l.length-(i+1),by omega,i+1,aB rfl,by omega,λj hj=>?_,F.trans f2,rfl⟩
    by_cases e:j=i
    ·rw[e];exact he
    ·exact pre j (by omega)
  have d1:=kU hlt
  obtain rfl:i=l.length:=by omega
  simp(disch:=omega)only[go_sem,d1]
  refine⟨_,rfl,?_,F⟩
  symm
  rw[kU (by omega)]
  refine List.any_eq_false.2 λx hx=>?_
  obtain⟨j,hj,ej⟩:=Fg.1 hx
  have:=pre j hj
  rw[List.getD_eq_getElem?_getD,iI hj] at this
  rw[←ej]
  simpa using this
 rintro _ h2 ⟨z,rfl,hz,f2⟩
 simp(disch:=omega)only[go_sem,hz]
 exact f2
def Gd (r i:Nat):List Int:=(List.range r).map λk=>if k=i then 1 else 0
theorem Sw (r i:Nat):(Gd r i).length=r:=by simp [Gd]
theorem Ue (r i:Nat): ∀v∈Gd r i, -((1:Nat):Int)<=v/\v<=(1:Nat):=λv hv=>by
 obtain⟨k,_,rfl⟩:=wQ.1 hv;split<;>omega
noncomputable def Bq (G:List Nat->Prop)(L:LN)(K:List Nat)(l:List Nat):List Int:=l.foldl (λc i=>(List.range K.length).map (FB G L K (Gd K.length i) c)) (Gd K.length 0)
theorem De (G:List Nat->Prop)(L:LN)(K:List Nat)(l:List Nat){k:Nat}(hk:k<l.length):Bq G L K (l.take (k+1))=(List.range K.length).map (FB G L K (Gd K.length (l.getD k 0)) (Bq G L K (l.take k))):=by
 have e:l.take (k+1)=l.take k++ [l.getD k 0]:=by
  rw[List.take_add_one,iI hk,List.getD_eq_getElem?_getD,iI hk];rfl
 unfold Bq;rw[e,List.foldl_append];rfl
theorem Sj (G:List Nat->Prop)(L:LN)(K:List Nat)(l:List Nat): ∀k,k<=l.length->(Bq G L K (l.take k)).length=K.length
 |0,_=>by unfold Bq;exact Sw _ _
 |k+1,h=>by rw[De G L K l (by omega),sQ,List.length_range]
theorem KQ (G:List Nat->Prop)(L:LN)(K:List Nat)(l:List Nat)(hl:L.length<=5040): ∀k,k<=l.length-> ∀v∈Bq G L K (l.take k), -((5040^k:Nat):Int)<=v/\v<=(5040^k:Nat)
 |0,_=>by unfold Bq;exact Ue _ _
 |k+1,h=>by
  rw[De G L K l (by omega)];intro v hv;obtain⟨q,_,rfl⟩:=wQ.1 hv;have b:=CO (G:=G) (L:=L) (K:=K) (Ue K.length (l.getD k 0)) (KQ G L K l hl k (by omega)) q;have:L.length*(1*5040^k)<=5040^(k+1):=by rw[Nat.one_mul,Nat.pow_succ,Nat.mul_comm];exact Nat.mul_le_mul_left _ hl
  omega
structure Xl (n:Nat)(G:List Nat->Prop)(L:LN)(K:List Nat)(D E:Nat)(hh:H):Prop where
 d:Gm n G L K hh D
 g:hh.get E=some (.cells false [.ptr D 0])
 nx:E<hh.next
theorem Xl.mono {n:Nat}{G:List Nat->Prop}{L:LN}{K:List Nat}{D E:Nat}{h h':H}(c:Xl n G L K D E h)(f:Fr h h'):Xl n G L K D E h':=⟨c.d.mono f,by rw[f.get _ c.nx];exact c.g,kN c.nx f.next⟩
theorem EO (D E:Nat)(x:Int)(n:Nat)(G:List Nat->Prop)(L:LN)(K:List Nat)(h:H)(hr:K.length<=64)(c:Xl n G L K D E h):
  Ev T 62 [aA x,.ptr E 0] h (λv h'=>v= .bool (decide (x<0∨(K.length:Int)<=x))/\Fr h h'):=by
 refine bL kS rfl rfl ?_
 obtain⟨vL,vC,Mn,ln,ks,gD,hD,hMn,sL,sC,al,gMn,kln,lkn⟩:=c.d.ex
 have lvC:=(nH (by omega) sC al).1
 by_cases hz:x<0
 ·have d1:decide (x<0)=true:=decide_eq_true hz
  simp(disch:=omega)only[go_sem,kS,aE,d1,Iz]
  exact⟨by rw[decide_eq_true (.inl hz)],Fr.refl _⟩
 have d1:decide (x<0)=false:=decide_eq_false hz
 simp(disch:=omega)only[go_sem,kS,aE,d1,H.aF c.g,H.aF gD,lvC]
 refine⟨?_,Fr.refl _⟩
 congr 1
 rw[decide_eq_decide]
 omega
theorem Lb (D E i:Nat)(n:Nat)(G:List Nat->Prop)(L:LN)(K:List Nat)(h:H)(hr:K.length<=64)(c:Xl n G L K D E h)(hi:i<K.length):
  Ev T 63 [aA i,.ptr E 0] h (λv h'=>EK h.next K.length (λk=>if k=i then 1 else 0) h' v/\Fr h h'):=by
 refine bL nO rfl rfl ?_
 obtain⟨vL,vC,Mn,ln,ks,gD,hD,hMn,sL,sC,al,gMn,kln,lkn⟩:=c.d.ex
 have lvC:=(nH (by omega) sC al).1
 obtain⟨S,hS⟩:=exI h.next
 obtain⟨h1,e1,n1,g1,o1,f1⟩:=iD hS (rc K.length λ_=> aA 0)
 have pt:=λhh=>aZ (vs:=rc K.length λ_=> aA 0) (off:=i) (by rw[dX];exact hi) hh S (aA 1)
 simp(disch:=omega)only[go_sem,nO,aE,H.aF c.g,H.aF gD,lvC,lU h K.length (by omega),hS,e1,g1,pt]
 refine⟨⟨S,rfl,by omega,by show S<h1.next;omega,?_⟩,f1.set (by omega) _⟩
 rw[H.aQ,jL]
 congr 2
 refine bH λa _=>?_
 by_cases e:a=i
 ·rw[if_pos e,if_pos e]
 ·rw[if_neg e,if_neg e]
theorem EG (D E Z i:Nat)(vo vk:V)(n:Nat)(G:List Nat->Prop)(L:LN)(K:List Nat)(y:List Int)(Y:Nat)(h:H)(n7:n<=7)(hG:tL n G)(Ee:fN G L)(ik:Bs n G L K)(hl:L.length<=5040)(hr:K.length<=64)(c:Xl n G L K D E h)(hi:i<K.length)
  (gZ:h.get Z=some (.cells false [.fn 63 [] [.ptr E 0]])) (hZ:Z<h.next) (hy: ∀v∈y, -(Y:Int)<=v/\v<=Y) (hY:Y*5040<=4000000000000000000) (ly:y.length=K.length) (sy:SI h vo y):
  Ev T 65 [vo,vk,aA i,.ptr E 0,.ptr Z 0] h (λv h'=>EK h.next K.length (FB G L K (Gd K.length i) y) h' v/\Fr h h'):=by
 refine bL nP rfl rfl ?_
 have ey:=sy.eP
 simp(disch:=omega)only[go_sem,nP,aE,H.aF c.g,H.aF gZ]
 have fb:=(Fr.refl h).bM (n:=h.next+7) (by omega)
 refine (Lb D E i n G L K _ hr (c.mono fb) hi).mono ?_
 rintro v1 h1 ⟨r1,f1⟩
 have F1:=fb.trans f1
 have c1:=c.mono F1
 have e1:=r1.si.eP
 simp(disch:=omega)only[go_sem,H.aF c1.g]
 have si1:=r1.si
 have ei:(List.range K.length).map (λk=>if k=i then (1:Int) else 0)=Gd K.length i:=rfl
 rw[ei] at si1
 refine (LU D v1 vo n G L K (Gd K.length i) y 1 Y h1 n7 hG Ee ik hl hr c1.d (Ue _ _) hy (by rw[Nat.one_mul];exact hY) (Sw _ _) ly si1 (sy.mono F1)).mono ?_
 rintro v2 h2 ⟨⟨S,rfl,bS,nS,gS⟩,f2⟩
 have n1:=F1.next
 simp(disch:=omega)only[go_sem]
 exact⟨⟨S,rfl,by omega,nS,gS⟩,F1.trans f2⟩
theorem Np {W0:Nat->Prop}(vc vl:V)(l:List Int)(n:Nat)(O:LN)(R:oQ)(G:List Nat->Prop)(h:H)(ll:l.length<1000000)(sl:SI h vl l)(gc:GC W0 h vc n O R G)(L:LN)(hL:cV O R n 0 (bZ n)=L):
  Ev T 30 [vc,vl] h (λv h'=> ∃K,Bs n G L K/\Fr h h'/\(64<K.length/\v= .tup [aA 0,aA 5]∨K.length<=64/\(5<l.length/\v= .tup [aA 0,aA 4]∨l.length<=5/\((∃x∈l,x<0∨(K.length:Int)<=x)/\v= .tup [aA 0,aA 2]∨ ∃l':List Nat,l=zi l'/\(∀i∈l',i<K.length)/\v= .tup [aA ((Bq G L K l').getD 0 0),aA 0])))):=by
 have gc0:=gc
 obtain⟨vO,vR,rfl,sO,sR⟩:=gc.ch
 refine bL qH rfl rfl ?_
 have oneO:vO.one=true:=Tt sO
 have oneR:vR.one=true:=Tq sR
 have n7:=gc.n7
 have hG:=gc.kY
 obtain⟨Ee,lle⟩:=jH gc.kY gc.isc
 have ll5:=mK gc
 rw[hL] at Ee lle
 have lvl:=sl.lens
 obtain⟨B,hB⟩:=exI h.next
 obtain⟨h1,e1,n1,g1,o1,f1⟩:=iD hB [aA n,vO,vR]
 have bx:=dB h (v:= aA n) (u:=vO) (w:=vR) rfl oneO oneR
 simp(disch:=omega)only[go_sem,qH,aE,bx,hB,e1,bB g1]
 refine (Ar _ n O R G h1 (gc0.mono f1) L hL).mono ?_
 rintro _ h2 ⟨K,ik,f2,⟨k64,rfl⟩|⟨k64,D,rfl,dat⟩⟩
 ·obtain⟨E,hE⟩:=exI h2.next
  obtain⟨h3,e3,n3,g3,o3,f3⟩:=iD hE [.nilp]
  have pt:=λhh=>aZ (vs:= [V.nilp]) (off:=0) (by simp) hh E .nilp
  simp(disch:=omega)only[go_sem,hE,e3,kO (show V.nilp.cells= [V.nilp] from rfl) rfl,g3,pt]
  refine aW (λ_=>?_) (λhc=>(hc (by decide)).elim)
  simp(disch:=omega)only[go_sem]
  exact⟨K,ik,((f1.trans f2).trans f3).set (by have:=f2.next;omega) _,.inl ⟨k64,trivial⟩⟩
 obtain⟨E,hE⟩:=exI h2.next
 obtain⟨h3,e3,n3,g3,o3,f3⟩:=iD hE [.nilp]
 obtain⟨h4,e4,n4,g4,o4⟩:=Ju h3 E [.ptr D 0]
 have pt:fJ (some (.cells false [V.nilp])) h3 E 0 [.ptr D 0]=some h4:=by rw[aZ (by simp),←e4];rfl
 have f24:Fr h2 h4:=⟨by omega,λq hq=>by rw[o4 q (by omega),o3 q (by omega)]⟩
 have F4:=(f1.trans f2).trans f24
 have ce4:Xl n G L K D E h4:=⟨dat.mono f24,g4,by omega⟩
 simp(disch:=omega)only[go_sem,hE,e3,kO (show (V.ptr D 0).cells= [V.ptr D 0] from rfl) rfl,g3,pt]
 refine aW (λhc=>(hc rfl).elim) (λ_=>?_)
 by_cases h5:(5:Int)<(l.length:Int)
 ·have d1:decide ((5:Int)<(l.length:Int))=true:=decide_eq_true h5
  simp(disch:=omega)only[go_sem,lvl,d1]
  exact⟨K,ik,F4,.inr ⟨k64,.inl ⟨by omega,trivial⟩⟩⟩
 have d1:decide ((5:Int)<(l.length:Int))=false:=decide_eq_false h5
 simp(disch:=omega)only[go_sem,lvl,d1]
 refine (Bv 62 [.ptr E 0] vl l h4 (λx=>decide (x<0∨(K.length:Int)<=x)) ll (sl.mono F4) (λi hi hh f=>EO D E _ n G L K hh k64 (ce4.mono f))).mono ?_
 rintro _ h5' ⟨rfl,f5⟩
 have F5:=F4.trans f5
 cases hany:l.any (λx=>decide (x<0∨(K.length:Int)<=x)) with
 |true=>
  simp(disch:=omega)only[go_sem];obtain⟨x,hx,hd⟩:=List.any_eq_true.1 hany;exact⟨K,ik,F5,.inr ⟨k64,.inr ⟨by omega,.inl ⟨⟨x,hx,by simpa using hd⟩,trivial⟩⟩⟩⟩
 |false=>
  have hall: ∀x∈l,0<=x/\x<(K.length:Int):=λx hx=>by
   have:=List.any_eq_false.1 hany x hx;simp only[decide_eq_true_iff] at this;omega
  obtain⟨l',hl'⟩: ∃l':List Nat,l=zi l':=⟨l.map Int.toNat,by
   unfold zi;rw[List.map_map];refine (List.map_id' l).symm.trans (List.map_congr_left λx hx=>?_);have:=hall x hx
   show x=((x.toNat:Nat):Int)
   omega⟩
  have hk': ∀i∈l',i<K.length:=λi hi=>by
   have:=hall (i:Int) (by rw[hl'];exact wQ.2 ⟨i,hi,rfl⟩);omega
  have ce5:=ce4.mono f5;obtain⟨Z,hZ⟩:=exI h5'.next;obtain⟨h6,e6,n6,g6,o6,f6⟩:=iD hZ [.nilf];obtain⟨h7,e7,n7',g7,o7⟩:=Ju h6 Z [.fn 63 [] [.ptr E 0]];have pt7:fJ (some (.cells false [V.nilf])) h6 Z 0 [.fn 63 [] [.ptr E 0]]=some h7:=by rw[aZ (by simp),←e7];rfl
  have f57:Fr h5' h7:=⟨by omega,λq hq=>by rw[o7 q (by omega),o6 q (by omega)]⟩
  have ce7:=ce5.mono f57;have F7:=F5.trans f57;have Kpos:0<K.length:=(Xu hG Ee ik).1;simp(disch:=omega)only[go_sem,hZ,e6,kO (show (V.fn 63 [] [.ptr E 0]).cells= [V.fn 63 [] [.ptr E 0]] from rfl) rfl,g6,pt7,H.aF g7];refine (Lb D E 0 n G L K h7 k64 ce7 Kpos).mono ?_;rintro v8 h8 ⟨r8,f8⟩;have ce8:=ce7.mono f8;have g8:h8.get Z=some (.cells false [.fn 63 [] [.ptr E 0]]):=by rw[f8.get Z (by omega)];exact g7
  have F8:=F7.trans f8;simp(disch:=omega)only[go_sem];refine (Ru 65 [.ptr E 0,.ptr Z 0] vl v8 l h8 ll (λi v hh=>SI hh v (Bq G L K (l'.take i))/\Fr h8 hh) (λi v hh s=>sl.mono (F8.trans s.2)) ⟨?_,Fr.refl _⟩ ?_).mono ?_
  ·exact r8.si
  ·rintro i v hh hi ⟨sv,f⟩
   have hil:i<l'.length:=by rw[hl',aS] at hi;exact hi
   have ei:l.getD i 0=((l'.getD i 0:Nat):Int):=by rw[hl'];exact nT (λk:Nat=>(k:Int)) (d:=0) hil
   rw[ei]
   have h4l:5040^i*5040<=4000000000000000000:=by
    have:i<=4:=by omega
    exact Nat.le_trans (Nat.mul_le_mul_right _ (Nat.pow_le_pow_right (by decide) this)) (by decide)
   refine (EG D E Z (l'.getD i 0) v _ n G L K (Bq G L K (l'.take i)) (5040^i) hh n7 hG Ee ik (by omega) k64 (ce8.mono f) (hk' _ (bI hil)) (by rw[f.get Z (by have:=f8.next;omega)];exact g8) (by have:=f8.next;have:=f.next;omega) (KQ G L K l' (by omega) i (by omega)) h4l (Sj G L K l' i (by omega)) sv).mono ?_;rintro v' h' ⟨r',f'⟩;refine⟨?_,f.trans f'⟩;rw[De G L K l' hil];exact r'.si
  ·rintro v h9 ⟨sv,f9⟩
   have el:l.length=l'.length:=by rw[hl',aS]
   rw[el,List.take_length] at sv;obtain⟨id,off,sh,hid,hc⟩:=sv.open;have l0:(Bq G L K l').length=K.length:=by have:=Sj G L K l' l'.length (iL _);rwa [List.take_length] at this
   rw[l0] at sh hid hc;have c0:h9.cell id off=some (aA ((Bq G L K l').getD 0 0)):=hc 0 Kpos;simp(disch:=omega)only[go_sem,sh.ixa,c0];exact⟨K,ik,F8.trans f9,.inr ⟨k64,.inr ⟨by omega,.inr ⟨l',hl',hk',rfl⟩⟩⟩⟩
set_option maxHeartbeats 8000000
theorem RC (u:V)(n:Nat)(a:List Nat)(h:H)(n0:1<=n)(hn:n<=64)(A:bG n a)(hu:SI h u (zi a)):
  Ev T 45 [u] h (λv h'=> ∃w,v= .tup [w,aA 0]/\SI h' w (zi (dI a))/\Fr h h'):=by
 refine bL Af rfl rfl ?_
 have wu:=SV.dZ hu
 obtain⟨h1,e1,n1,g1,o1,f1⟩:=iD (h:=h) rfl [u]
 simp(disch:=omega)only[go_sem,Af,aE,dO h (z:= .aC) wu.1 wu.2.1,e1]
 refine (Qd _ [u] n h1 n0 hn (by simp) (SV.one (by omega) g1 (.kn 1)) (λi hi=>⟨a,A,?_⟩)).mono ?_
 ·have:i=0:=by simpa using hi
  subst this
  exact hu.mono f1
 rintro _ h2 ⟨rfl,f2⟩
 have f02:=f1.trans f2
 simp(disch:=omega)only[go_sem]
 refine aW (λhc=>(hc rfl).elim) (λ_=>?_)
 simp(disch:=omega)only[go_sem]
 refine (Nk (rfl:T 79=some Ha) u n a h2 (by omega) A (hu.mono f02)).mono ?_
 rintro w h3 np
 simp(disch:=omega)only[go_sem]
 exact⟨w,rfl,(np.pv (W:=λ_=>False) id).si,f02.trans np.fr⟩
theorem Kr (u w:V)(n e:Nat)(a:List Nat)(h:H)(hn:n<=1000)(he:e<1000000)(A:bG n a)(hu:SI h u (zi a))(hw:SI h w (zi (bZ n))):
  Ev T 70 [u,w,aA e,.fn 72 [] []] h (λv h'=>SI h' v (zi (pw n a e))/\Fr h h'):=by
 refine bL kI rfl rfl ?_
 simp(disch:=omega)only[go_sem,kI,aE]
 refine aJ (λk' vs hh=> ∃(e':Nat) (vx va:V) (x b:List Nat),(∃g:Nat->V,vs= [vx,va,aA (e':Int),.fn 72 [] [],g 4,g 5,g 6])/\e'<1000000/\bG n x/\bG n b/\SI hh vx (zi x)/\SI hh va (zi b)/\aV b (pw n x e')=pw n a e/\Fr h hh/\k'=e') e
  ⟨e,u,w,a,bZ n,aB rfl,he,A,bG.one n,hu,hw,fV (mJ A e),Fr.refl h,rfl⟩ ?_
 rintro k' vars h1 ⟨e',vx,va,x,b,⟨g,rfl⟩,hl,X,B,sx,sb,heq,F,hk⟩
 subst hk
 by_cases hlt:(0:Int)<(k':Int)
 case neg=>
  have d1:=kU hlt;obtain rfl:k'=0:=by omega
  simp(disch:=omega)only[go_sem,d1];have h2:aV b (bZ n)=pw n a e:=heq;rw[cI B] at h2;rw[←h2];exact⟨sb,F⟩
 have d1:=oD hlt
 have hpx: ∀k,aV x (pw n x k)=pw n x (k+1):=λk=>by
  have h2:=Vs X 1 k;rw[Ou X] at h2;rw[←h2,Nat.add_comm]
 have sq:=UD X (k'/2)
 have tm:(k':Int).tmod 2=((k'%2:Nat):Int):=Rh k' 2
 have td:(k':Int).tdiv 2=((k'/2:Nat):Int):=rfl
 rcases Nat.mod_two_eq_zero_or_one k' with hm|hm
 ·have d2:decide (((0:Nat):Int)=1)=false:=rfl
  rw[hm] at tm
  simp(disch:=omega)only[go_sem,d1,tm,d2]
  refine (qL (rfl:T 72=some vI) vx vx x x h1 (by rw[X.len];omega) sx sx (λj hj=>by rw[X.len];exact X.fW (by rw[←X.len];exact hj))).mono ?_
  rintro v1 h2 np
  simp(disch:=omega)only[go_sem,td]
  refine⟨k'/2,by omega,k'/2,v1,va,aV x x,b,aB rfl,by omega,X.mul X,B,(np.pv (W:=λ_=>False) id).si,sb.mono np.fr,?_,F.trans np.fr,rfl⟩
  rw[sq,show 2*(k'/2)=k' by omega];exact heq
 ·have d2:decide (((1:Nat):Int)=1)=true:=rfl
  rw[hm] at tm
  simp(disch:=omega)only[go_sem,d1,tm,d2]
  refine (qL (rfl:T 72=some vI) va vx b x h1 (by rw[B.len];omega) sb sx (λj hj=>by rw[X.len];exact B.fW (by rw[←B.len];exact hj))).mono ?_
  rintro v0 h2 np0
  simp(disch:=omega)only[go_sem]
  refine (qL (rfl:T 72=some vI) vx vx x x h2 (by rw[X.len];omega) (sx.mono np0.fr) (sx.mono np0.fr) (λj hj=>by rw[X.len];exact X.fW (by rw[←X.len];exact hj))).mono ?_
  rintro v1 h3 np
  simp(disch:=omega)only[go_sem,td]
  refine⟨k'/2,by omega,k'/2,v1,v0,aV x x,aV b x,aB rfl,by omega,X.mul X,B.mul X,(np.pv (W:=λ_=>False) id).si,(np0.pv (W:=λ_=>False) id).si.mono np.fr,?_,(F.trans np0.fr).trans np.fr,rfl⟩
  rw[sq,aX B X (mJ X _),hpx,show 2*(k'/2)+1=k' by omega];exact heq
theorem QM (u:V)(z:Int)(n:Nat)(a:List Nat)(h:H)(hz: -9223372036854775808<=z/\z<9223372036854775808)(n0:1<=n)(hn:n<=7)(A:bG n a)(hu:SI h u (zi a)):
  Ev T 39 [u,aA z] h (λv h'=> ∃w,v= .tup [w,aA 0]/\SI h' w (zi (zp n a z))/\Fr h h'):=by
 refine bL Aj rfl rfl ?_
 have lu:=hu.lens
 rw[aS,A.len] at lu
 simp(disch:=omega)only[go_sem,Aj,aE]
 refine (Sr u n a h n0 hn A hu).mono ?_
 rintro _ h1 ⟨rfl,f1⟩
 have op:=Cj (n:=n) A
 obtain⟨o,ho⟩:=exI (jR a n)
 rw[ho] at op ⊢
 have o420:o<=420:=Nat.le_of_dvd (by decide) (by rw[←ho];exact Qf A hn)
 have hb:=Yb z (n:=(o:Int)) (by omega)
 have hf:=HN z (n:=(o:Int)) (by omega)
 have hm0:=Int.emod_nonneg z (show (o:Int)≠0 by omega)
 have hm1:=Int.emod_lt_of_pos z (show (0:Int)<o by omega)
 obtain⟨m,hm⟩: ∃m:Nat,z%(o:Int)=m:=⟨(z%(o:Int)).toNat,by omega⟩
 have ez:zp n a z=pw n a m:=by unfold zp;rw[ho,hm];rfl
 rw[hm] at hf hm1
 obtain⟨q,hq⟩:=exI (z.tmod (o:Int))
 rw[hq] at hb hf
 simp(disch:=omega)only[go_sem]
 refine aW (λhc=>(hc rfl).elim) (λ_=>?_)
 have fin: ∀hh,Fr h1 hh->Ev T 71 [aA n] hh (λv h'=> ∃w,SI h' v (zi (bZ n))/\w=v/\Fr h h'):=λhh f=>by
  refine (Fm (rfl:T 71=some Gg) n hh (by omega)).mono ?_;rintro w h3 np;exact⟨w,(np.pv (W:=λ_=>False) id).si,rfl,(f1.trans f).trans np.fr⟩
 by_cases hneg:q<0
 ·have d1:decide (q<0)=true:=decide_eq_true hneg
  rw[if_pos hneg] at hf
  simp(disch:=omega)only[go_sem,hq,d1,lu,hf]
  refine (fin h1 (Fr.refl _)).mono ?_
  rintro _ h2 ⟨w,sw,rfl,f2⟩
  simp(disch:=omega)only[go_sem]
  refine (Kr u w n m a h2 (by omega) (by omega) A (hu.mono f2) sw).mono ?_
  rintro v h3 ⟨s3,f3⟩
  simp(disch:=omega)only[go_sem]
  exact⟨v,rfl,by rw[ez];exact s3,f2.trans f3⟩
 ·have d1:decide (q<0)=false:=decide_eq_false hneg
  rw[if_neg hneg] at hf
  subst hf
  simp(disch:=omega)only[go_sem,hq,d1,lu]
  refine (fin h1 (Fr.refl _)).mono ?_
  rintro _ h2 ⟨w,sw,rfl,f2⟩
  simp(disch:=omega)only[go_sem]
  refine (Kr u w n m a h2 (by omega) (by omega) A (hu.mono f2) sw).mono ?_
  rintro v h3 ⟨s3,f3⟩
  simp(disch:=omega)only[go_sem]
  exact⟨v,rfl,by rw[ez];exact s3,f2.trans f3⟩
set_option maxHeartbeats 32000000
theorem JP (D f:Nat)(fs:List V)(g:Nat->Int)(n:Nat)(G:List Nat->Prop)(L:LN)(K:List Nat)(h:H)(hr:K.length<=64)(d:Gm n G L K h D)
  (hf: ∀i,i<K.length-> ∀hh,Fr h hh->Ev T f (fs++ [aA i]) hh (λv h'=>v= aA (g i)/\Fr hh h')):
  Ev T 41 [.ptr D 0,.fn f fs []] h (λv h'=>EK h.next K.length g h' v/\Fr h h'):=by
 refine bL lY rfl rfl ?_
 obtain⟨vL,vC,Mn,ln,ks,gD,hD,hMn,sL,sC,al,gMn,kln,lkn⟩:=d.ex
 have lvC:=(nH (by omega) sC al).1
 obtain⟨r,hrr⟩:=exI K.length
 rw[hrr] at lvC hr hf
 obtain⟨S,hS⟩:=exI h.next
 obtain⟨h1,e1,n1,g1,o1,f1⟩:=iD hS (rc r λ_=> aA 0)
 simp(disch:=omega)only[go_sem,lY,aE,H.aF gD,lvC,lU h r (by omega),hS,e1]
 refine aJ (λk' vars hh=> ∃(i:Nat),(∃j:Nat->V,vars= [j 0,.fn f fs [],j 2,.sl S 0 r (.kn r),j 4,aA r,aA i,j 7])/\i<=r/\hh.get S=some (.cells false (rc r λk=> aA (if k<i then g k else 0)))/\Fr h hh/\S<hh.next/\k'=r-i) r
  ⟨0,aB rfl,lW _,g1,f1,by omega,rfl⟩ ?_
 rintro k' vars hh ⟨i,⟨j,rfl⟩,hi,gS,F,nS,rfl⟩
 by_cases hlt:(i:Int)<(r:Int)
 ·have d1:=oD hlt
  have hi':i<r:=by omega
  simp(disch:=omega)only[go_sem,d1]
  refine (hf i hi' hh F).mono ?_
  rintro _ h2 ⟨rfl,f2⟩
  have gS2:h2.get S=some (.cells false (rc r λk=> aA (if k<i then g k else 0))):=by rw[f2.get S nS];exact gS
  have pt:=λhh=>aZ (vs:=rc r λk=> aA (if k<i then g k else 0)) (off:=i) (by rw[dX];exact hi') hh S (aA (g i))
  simp(disch:=omega)only[go_sem,gS2,pt]
  rw[jP i]
  have n2:=f2.next
  refine⟨r-(i+1),by omega,i+1,aB rfl,by omega,?_,(F.trans f2).set (by omega) _,by show S<h2.next;omega,rfl⟩
  rw[jL]
  congr 2
  refine bH λa ha=>?_
  by_cases e:a=i
  ·rw[if_pos e,if_pos (by omega),e]
  ·rw[if_neg e]
   by_cases e2:a<i
   ·rw[if_pos e2,if_pos (by omega)]
   ·rw[if_neg e2,if_neg (by omega)]
 have d1:=kU hlt
 obtain rfl:i=r:=by omega
 simp(disch:=omega)only[go_sem,d1]
 refine⟨⟨S,by rw[hrr],by omega,nS,?_⟩,F⟩
 rw[gS,hrr]
 congr 2
 exact bH λa ha=>by rw[if_pos ha]
noncomputable def GY (n:Nat)(L:LN)(z:Int)(t:Nat)(y:List Nat):Nat:=((List.range t).filter λa=>decide (zp n (L.getD a []) z=y)).length
theorem filter_one {α:Type}(p:α->Bool)(a:α):([a].filter p).length=if p a=true then 1 else 0:=by
 cases h:p a<;>simp [h]
theorem MY (n:Nat)(L:LN)(z:Int)(t:Nat)(y:List Nat):GY n L z (t+1) y=GY n L z t y+if zp n (L.getD t []) z=y then 1 else 0:=by
 unfold GY;rw[List.range_succ,List.filter_append,pQ];rw[filter_one];simp only[decide_eq_true_iff]
theorem US (n:Nat)(L:LN)(z:Int)(t:Nat)(y:List Nat):GY n L z t y<=t:=by
 unfold GY;exact Nat.le_trans (List.length_filter_le _ _) (by rw[List.length_range];exact iL _)
noncomputable def NX (n:Nat)(L:LN)(K:List Nat)(z:Int)(i:Nat):Nat:=GY n L z L.length (L.getD (K.getD i 0) [])
theorem XY (D M:Nat):vN [.nilp,.nilm] [(0,1,.ptr D 0),(1,1,.mp M)]=some (.agg [.ptr D 0,.mp M]):=rfl
theorem Vo (D M i:Nat)(n:Nat)(G:List Nat->Prop)(L:LN)(K:List Nat)(h:H)(z:Int)(m:List (List Nat×V))(n7:n<=7)(hG:tL n G)(E:fN G L)(ik:Bs n G L K)(hr:K.length<=64)(d:Gm n G L K h D)(hi:i<K.length)
  (gM:h.get M=some (.wmap (.arr 64 .u8) (iK Ps m))) (hM:M<h.next) (pm: ∀p∈m,bG n p.1) (lk: ∀y,bG n y->(Jq m y).getD (aA 0)= aA (GY n L z L.length y:Nat)):
  Ev T 42 [.agg [.ptr D 0,.mp M],aA i] h (λv h'=>v= aA (NX n L K z i:Nat)/\Fr h h'):=by
 refine bL mN rfl rfl ?_
 obtain⟨vL,vC,Mn,ln,ks,gD,hD,hMn,sL,sC,al,gMn,kln,lkn⟩:=d.ex
 obtain⟨lvC,eC,idC,offC,shC,cC⟩:=nH (by omega) sC al
 obtain⟨bC,rep,cr,_,rw3,sr⟩:=cC i hi
 have hKi:K.getD i 0<L.length:=ik.lt (bI hi)
 obtain⟨x,hx⟩:=exI (L.getD (K.getD i 0) [])
 rw[hx] at sr
 have X:bG n x:=by rw[←hx];exact mD hG E hKi
 obtain⟨A,hA⟩:=exI h.next
 obtain⟨h1,e1,n1,g1,o1,f1⟩:=iD hA [.ptr D 0,.mp M]
 have gD1:h1.get D=some (.cells false [vL,vC,.mp Mn]):=by rw[f1.get _ hD];exact gD
 have cr1:h1.cell idC (offC+i*3)=some rep:=by rw[f1.cell bC];exact cr
 simp(disch:=omega)only[go_sem,mN,aE,Kk h (v:= .ptr D 0) (u:= .mp M) rfl rfl,hA,e1,H.aF g1,H.aF gD1,shC.ixa,cr1]
 have fb:=(Fr.refl h1).bM (n:=h1.next+14) (by omega)
 refine (Bz rep n x _ (by omega) X (sr.mono (f1.trans fb))).mono ?_
 rintro _ h2 ⟨rfl,f2⟩
 have F2:=f1.trans (fb.trans f2)
 have g2:h2.get A=some (.cells false [.ptr D 0,.mp M]):=by rw[(fb.trans f2).get A (by omega)];exact g1
 have gM2:h2.get M=some (.wmap (.arr 64 .u8) (iK Ps m)):=by rw[F2.get _ hM];exact gM
 have lo:=sU (Ip (n:=n) (by omega)) (λa A=>Cc (n:=n) (by omega) a A) pm X (aA 0)
 rw[lk x X] at lo
 simp(disch:=omega)only[go_sem,H.aF g2,gM2,lo]
 refine⟨by simp [eP],by unfold NX;rw[hx],F2⟩
theorem Rb {W0:Nat->Prop}(vc:V)(z:Int)(n:Nat)(O:LN)(R:oQ)(G:List Nat->Prop)(h:H)(hz: -9223372036854775808<=z/\z<9223372036854775808)(gc:GC W0 h vc n O R G)(L:LN)(hL:cV O R n 0 (bZ n)=L):
  Ev T 12 [vc,aA z] h (λv h'=> ∃K,Bs n G L K/\Fr h h'/\(64<K.length/\v= .tup [.aC,aA 5]∨K.length<=64/\ ∃vl,v= .tup [vl,aA 0]/\SI h' vl (zi ((List.range K.length).map (NX n L K z))))):=by
 have gc0:=gc
 obtain⟨vO,vR,rfl,sO,sR⟩:=gc.ch
 refine bL qB rfl rfl ?_
 have oneO:vO.one=true:=Tt sO
 have oneR:vR.one=true:=Tq sR
 have n7:=gc.n7
 have n0:=gc.n0
 have hG:=gc.kY
 obtain⟨E,ll⟩:=jH gc.kY gc.isc
 have ll5:=mK gc
 rw[hL] at E ll
 obtain⟨B,hB⟩:=exI h.next
 obtain⟨h1,e1,n1,g1,o1,f1⟩:=iD hB [aA n,vO,vR]
 have bx:=dB h (v:= aA n) (u:=vO) (w:=vR) rfl oneO oneR
 simp(disch:=omega)only[go_sem,qB,aE,bx,hB,e1,bB g1]
 refine (Ar _ n O R G h1 (gc0.mono f1) L hL).mono ?_
 rintro _ h2 ⟨K,ik,f2,⟨k64,rfl⟩|⟨k64,D,rfl,dat⟩⟩
 ·simp(disch:=omega)only[go_sem]
  refine aW (λ_=>?_) (λhc=>(hc (by decide)).elim)
  simp(disch:=omega)only[go_sem]
  exact⟨K,ik,f1.trans f2,.inl ⟨k64,trivial⟩⟩
 simp(disch:=omega)only[go_sem]
 refine aW (λhc=>(hc rfl).elim) (λ_=>?_)
 have F2:=f1.trans f2
 obtain⟨vL,vC,Mn,ln,ks,gD,hD,hMn,sL,sC,al,gMn,kln,lkn⟩:=dat.ex
 obtain⟨lvL,eL,idL,offL,ws,shL,cL⟩:=yC sL
 obtain⟨m0,hm0⟩: ∃m,L.length=m:=⟨_,rfl⟩
 rw[hm0] at lvL shL cL
 obtain⟨M,hM⟩:=exI h2.next
 obtain⟨h3,e3⟩:=exI (h2.new (.wmap (.arr 64 .u8) []))
 have n3:h3.next=M+1:=by rw[←e3,H.aT,hM]
 have g3:h3.get M=some (.wmap (.arr 64 .u8) []):=by rw[←e3,←hM];exact H.aL h2 _
 have o3: ∀k,k≠M->h3.get k=h2.get k:=λk hk=>by rw[←e3];exact H.aY h2 (by omega) _
 obtain⟨h4,e4,n4,g4,o4,f4⟩:=iD n3 [.nilp,.nilm]
 obtain⟨h5,e5,n5,g5,o5⟩:=Ju h4 (M+1) [.ptr D 0,.mp M]
 have F25:Fr h2 h5:=⟨by omega,λq hq=>by rw[o5 q (by omega),o4 q (by omega),o3 q (by omega)]⟩
 have gM5:h5.get M=some (.wmap (.arr 64 .u8) []):=by rw[o5 M (by omega),o4 M (by omega)];exact g3
 have gD5: ∀hh,Fr h2 hh->hh.get D=some (.cells false [vL,vC,.mp Mn]):=λhh f=>by rw[f.get _ hD];exact gD
 simp(disch:=omega)only[go_sem,hM,e3,XY,n3,e4,LH h4 (M+1) 0 (v:= .ptr D 0) (u:= .mp M) rfl rfl,g4,Qk,e5,H.aF (gD5 h5 F25),lvL]
 refine cU (λvs hh=> ∃(m:List (List Nat×V)),(∃g:Nat->V,vs= [g 0,g 1,g 2,g 3,g 4,.ptr D 0,g 6,.ptr (M+1) 0,g 8,g 9,g 10,g 11,g 12,g 13,g 14])/\hh.get M=some (.wmap (.arr 64 .u8) (iK Ps m))/\hh.get (M+1)=some (.cells false [.ptr D 0,.mp M])/\(∀p∈m,bG n p.1)/\(∀y,bG n y->(Jq m y).getD (aA 0)= aA (GY n L z L.length y:Nat))/\M+1<hh.next/\Fr h2 hh) ?_ ?_
 ·refine aJ (λk' vars hh=> ∃(t:Nat) (m:List (List Nat×V)),(∃g:Nat->V,vars= [g 0,aA z,g 2,g 3,g 4,.ptr D 0,g 6,.ptr (M+1) 0,g 8,g 9,g 10,vL,aA m0,aA t,g 14])/\t<=m0/\hh.get M=some (.wmap (.arr 64 .u8) (iK Ps m))/\hh.get (M+1)=some (.cells false [.ptr D 0,.mp M])/\(∀p∈m,bG n p.1)/\(∀y,bG n y->(Jq m y).getD (aA 0)= aA (GY n L z t y:Nat))/\M+1<hh.next/\Fr h2 hh/\k'=m0-t) m0
   ⟨0, [],aB rfl,lW _,gM5,g5,λ_ h=>(by cases h),λy _=>rfl,by omega,F25,rfl⟩ ?_
  rintro k' vars h6 ⟨t,m,⟨g,rfl⟩,ht,gM,gR,pm,lk,nM,F,rfl⟩
  by_cases hlt:(t:Int)<(m0:Int)
  case neg=>
   have d1:=kU hlt;obtain rfl:t=m0:=by omega
   simp(disch:=omega)only[go_sem,d1];exact⟨m,aB rfl,gM,gR,pm,by rw[hm0];exact lk,nM,F⟩
  have d1:=oD hlt
  have htl:t<m0:=by omega
  obtain⟨b1,c1,s1⟩:=cL t htl
  generalize ws.getD t V.undef=ve at c1 s1
  have X:=mD hG E (show t<L.length by omega)
  have c2:h6.cell idL (offL+t)=some ve:=by rw[F.cell b1];exact c1
  simp(disch:=omega)only[go_sem,d1,shL.ixa,c2]
  refine (QM ve z n (L.getD t []) h6 hz n0 n7 X (s1.mono F)).mono ?_
  rintro _ h7 ⟨w,rfl,sw,f7⟩
  have F7:=F.trans f7
  have n7':=f7.next
  have gM7:h7.get M=some (.wmap (.arr 64 .u8) (iK Ps m)):=by rw[f7.get _ (by omega)];exact gM
  have gR7:h7.get (M+1)=some (.cells false [.ptr D 0,.mp M]):=by rw[f7.get _ (by omega)];exact gR
  obtain⟨y,hy⟩:=exI (zp n (L.getD t []) z)
  have Y:bG n y:=by rw[←hy];exact mJ X _
  rw[hy] at sw
  simp(disch:=omega)only[go_sem,H.aF gR7]
  have fb:=(Fr.refl h7).bM (n:=h7.next+9) (by omega)
  refine (Bz w n y _ (by omega) Y (sw.mono fb)).mono ?_
  rintro _ h8 ⟨rfl,f8⟩
  have f78:=fb.trans f8
  have F8:=F7.trans f78
  have gM8:h8.get M=some (.wmap (.arr 64 .u8) (iK Ps m)):=by rw[f78.get _ (by omega)];exact gM7
  have gR8:h8.get (M+1)=some (.cells false [.ptr D 0,.mp M]):=by rw[f78.get _ (by omega)];exact gR7
  have hE:=λa b=>Ip (n:=n) (by omega) a b
  have hk:=λa=>Cc (n:=n) (by omega) a
  have lc:=lk y Y
  obtain⟨c,hc⟩:=exI (GY n L z t y)
  rw[hc] at lc
  have cle:c<=t:=by rw[←hc];exact US ..
  have lo2:=sU hE hk pm Y (aA 0)
  rw[lc] at lo2
  obtain⟨we,ni,m1,h9,ee,n9,o9,gM9,pm1,lk9,en⟩:=Ys hE hk pm Y (aA 0) (aA (c+1:Nat)) h8 M gM8
  have lo3:=sU hE hk pm1 Y (aA 0)
  rw[lk9,lc] at lo3
  have n78:=f78.next
  have ok:SC h9 (.lkw (.arr 64 .u8) (aA 0) false (.c (.mp M)) (.c (Ps y))) (aA c)=true:=by
   simp only[SC,Mw,xv,Oj,gM9,lo3,Option.map_some,ZF];simp [eP]
  have gR9:h9.get (M+1)=some (.cells false [.ptr D 0,.mp M]):=by rw[o9 (M+1) (by omega)];exact gR8
  simp(disch:=omega)only[go_sem,H.aF gR8,gM8,lo2,show (c:Int)+1=((c+1:Nat):Int) from rfl,ee,gM9,ok,en]
  rw[jP t]
  have nF:=F7.next
  refine⟨by simp [eP],m0-(t+1),by omega,t+1,_,aB rfl,by omega,rfl,gR9,Cs Y pm,λy' Y'=>?_,by show M+1<h9.next;omega,⟨by show h2.next<=h9.next;omega,λp hp=>by rw[H.aH _ (by omega),o9 p (by omega)];exact F8.get p hp⟩,rfl⟩
  rw[Fw,MY,hy]
  by_cases e:y'=y
  ·rw[if_pos e,if_pos e.symm,e,hc];rfl
  ·rw[if_neg e,if_neg (λh=>e h.symm),lk y' Y'];rfl
 rintro vars hA ⟨m,⟨g,rfl⟩,gM,gR,pm,lk,nM,FA⟩
 have rr:=OU gR
 simp(disch:=omega)only[go_sem,rr]
 refine (JP D 42 [.agg [.ptr D 0,.mp M]] (λi=>((NX n L K z i:Nat):Int)) n G L K hA k64 (dat.mono FA) (λi hi hh f=>Vo D M i n G L K hh z m n7 hG E ik k64 (dat.mono (FA.trans f)) hi (by rw[f.get M (by omega)];exact gM) (by have:=f.next;omega) pm lk)).mono ?_
 rintro vl hB ⟨ro,fB⟩
 have s:=ro.si
 have e:(List.range K.length).map (λi=>((NX n L K z i:Nat):Int))=zi ((List.range K.length).map (NX n L K z)):=by
  unfold zi;rw[List.map_map];rfl
 rw[e] at s
 simp(disch:=omega)only[go_sem]
 exact⟨K,ik,(F2.trans FA).trans fB,.inr ⟨k64,vl,rfl,s⟩⟩
set_option maxHeartbeats 32000000
noncomputable def OF (G:List Nat->Prop)(L:LN)(K:List Nat)(i:Nat):Nat:=jC G L K (L.idxOf (dI (L.getD (K.getD i 0) [])))
noncomputable def tB (G:List Nat->Prop)(L:LN)(K:List Nat)(k:Nat):Nat->Nat
 |0=>0
 |i+1=>tB G L K k i+sM G L K (OF G L K i) i k*(L.length/(iP G L (K.getD i 0)).length)
theorem Xr {G:List Nat->Prop}{L:LN}{K:List Nat}(i j k:Nat):sM G L K i j k<=L.length:=AA ..
theorem Yw {G:List Nat->Prop}{L:LN}{K:List Nat}(k:Nat): ∀i,tB G L K k i<=i*(L.length*L.length)
 |0=>lW _
 |i+1=>by
  rw[tB,Nat.succ_mul];exact Nat.add_le_add (Yw k i) (Nat.mul_le_mul (Xr ..) (Nat.div_le_self _ _))
theorem Xy {W0:Nat->Prop}(vc:V)(n:Nat)(O:LN)(R:oQ)(G:List Nat->Prop)(h:H)(gc:GC W0 h vc n O R G)(L:LN)(hL:cV O R n 0 (bZ n)=L):
  Ev T 14 [vc] h (λv h'=> ∃K,Bs n G L K/\Fr h h'/\(64<K.length/\v= .tup [.aC,aA 5]∨K.length<=64/\ ∃vl,v= .tup [vl,aA 0]/\SI h' vl (zi ((List.range K.length).map λk=>tB G L K k K.length)))):=by
 have gc0:=gc
 obtain⟨vO,vR,rfl,sO,sR⟩:=gc.ch
 refine bL fK rfl rfl ?_
 have oneO:vO.one=true:=Tt sO
 have oneR:vR.one=true:=Tq sR
 have n7:=gc.n7
 have n0:=gc.n0
 have hG:=gc.kY
 obtain⟨E,ll⟩:=jH gc.kY gc.isc
 have ll5:=mK gc
 rw[hL] at E ll
 obtain⟨B,hB⟩:=exI h.next
 obtain⟨h1,e1,n1,g1,o1,f1⟩:=iD hB [aA n,vO,vR]
 have bx:=dB h (v:= aA n) (u:=vO) (w:=vR) rfl oneO oneR
 simp(disch:=omega)only[go_sem,fK,aE,bx,hB,e1,bB g1]
 refine (Ar _ n O R G h1 (gc0.mono f1) L hL).mono ?_
 rintro _ h2 ⟨K,ik,f2,⟨k64,rfl⟩|⟨k64,D,rfl,dat⟩⟩
 ·simp(disch:=omega)only[go_sem]
  refine aW (λ_=>?_) (λhc=>(hc (by decide)).elim)
  simp(disch:=omega)only[go_sem]
  exact⟨K,ik,f1.trans f2,.inl ⟨k64,trivial⟩⟩
 simp(disch:=omega)only[go_sem]
 refine aW (λhc=>(hc rfl).elim) (λ_=>?_)
 have F2:=f1.trans f2
 obtain⟨vL,vC,Mn,ln,ks,gD,hD,hMn,sL,sC,al,gMn,kln,lkn⟩:=dat.ex
 obtain⟨r,hrr⟩:=exI K.length
 obtain⟨lvC,eC,idC,offC,shC,cC⟩:=nH (by omega) sC al
 obtain⟨lvL,eL,_⟩:=yC sL
 rw[hrr] at lvC shC cC k64
 have hl:L.length<=5040:=by omega
 obtain⟨S,hS⟩:=exI h2.next
 obtain⟨h3,e3,n3,g3,o3,f3⟩:=iD hS (rc r λ_=> aA 0)
 have gD': ∀hh,Fr h2 hh->hh.get D=some (.cells false [vL,vC,.mp Mn]):=λhh f=>by rw[f.get _ hD];exact gD
 simp(disch:=omega)only[go_sem,H.aF gD,lvC,lU h2 r (by omega),hS,e3,H.aF (gD' h3 f3)]
 refine aJ (λk' vars hh=> ∃(i:Nat),(∃g:Nat->V,vars= [g 0,g 1,g 2,g 3,.ptr D 0,g 5,.sl S 0 r (.kn r),g 7,g 8,g 9,g 10,g 11,g 12,g 13,vC,aA r,aA i,g 17,g 18,g 19,g 20,g 21])/\i<=r/\hh.get S=some (.cells false (rc r λk=> aA (tB G L K k i:Nat)))/\Fr h2 hh/\S<hh.next/\k'=r-i) r
  ⟨0,aB rfl,lW _,g3,f3,by omega,rfl⟩ ?_
 rintro k' vars h4 ⟨i,⟨g,rfl⟩,hi,gS,F,nS,rfl⟩
 by_cases hlt:(i:Int)<(r:Int)
 case neg=>
  have d1:=kU hlt;obtain rfl:i=r:=by omega
  simp(disch:=omega)only[go_sem,d1];refine⟨K,ik,F2.trans F,.inr ⟨by omega,_,rfl,?_⟩⟩
  have e:(rc i λk=>aA (tB G L K k i:Nat))=ints (zi ((List.range i).map λk=>tB G L K k i)):=by
   simp [rc,ints,zi,Function.comp_def]
  rw[e] at gS;rw[hrr];exact SV.all (by rw[aM,aS,sQ,List.length_range,Nat.mul_one]) nS gS _
 have d1:=oD hlt
 have hir:i<r:=by omega
 obtain⟨bC,rep,cr,cz,rw3,sr⟩:=cC i hir
 have hKi:K.getD i 0<L.length:=ik.lt (bI (by omega))
 obtain⟨z,hz⟩:=exI (L.getD (K.getD i 0) [])
 obtain⟨c,hc⟩:=exI ((iP G L (K.getD i 0)).length)
 rw[hz] at sr rw3
 rw[hc] at rw3
 have c0:0<c:=by rw[←hc];exact List.length_pos_of_mem (nI.2 ⟨hKi,Fo hG E hKi⟩)
 have Z:bG n z:=by rw[←hz];exact mD hG E hKi
 have hzG:G z:=by rw[←hz];exact Dk E hKi
 have w3:=sr.dZ
 have r4:h4.row idC (offC+i*3) 3=some [rep,aA (jR z n:Int),aA c]:=by
  have:h4.row idC (offC+i*3) 3=h2.row idC (offC+i*3) 3:=by unfold H.row;rw[F.get _ bC]
  rw[this];exact rw3
 obtain⟨A,hA⟩:=exI h4.next
 obtain⟨h5,e5,n5,g5,o5,f5⟩:=iD hA [.aC,aA 0,aA 0]
 obtain⟨h6,e6,n6,g6,o6⟩:=Ju h5 A [rep,aA (jR z n:Int),aA c]
 have f46:Fr h4 h6:=⟨by omega,λq hq=>by rw[o6 q (by omega),o5 q (by omega)]⟩
 have F6:=F.trans f46
 simp(disch:=omega)only[go_sem,d1,shC.ixa,r4,hA,e5,mL h5 A 0 (v:=rep) (u:= aA (jR z n:Int)) (w:= aA c) w3.2.1 rfl rfl,g5,kA,e6,H.aF g6]
 refine (RC rep n z h6 n0 (by omega) Z (sr.mono F6)).mono ?_
 rintro _ h7 ⟨w,rfl,sw,f7⟩
 have F7:=F6.trans f7
 have g7:h7.get A=some (.cells false [rep,aA (jR z n:Int),aA c]):=by rw[f7.get _ (by omega)];exact g6
 have lvL7:dR vL=some (aA (L.length:Int)):=lvL
 have td:(L.length:Int).tdiv (c:Int)=((L.length/c:Nat):Int):=rfl
 have hdv:L.length/c<=5040:=Nat.le_trans (Nat.div_le_self _ _) hl
 have dvl:L.length/c<=L.length:=Nat.div_le_self _ _
 obtain⟨dv,hdv'⟩:=exI (L.length/c)
 rw[hdv'] at td hdv dvl
 have wr:IntKind.i64.wrap (dv:Int)=(dv:Int):=Xx (by omega) (by omega)
 simp(disch:=omega)only[go_sem,H.aF (gD' h7 F7),H.aF g7,lvL,td,wr]
 have fb:=(Fr.refl h7).bM (n:=h7.next+9) (by omega)
 have hGi:G (dI z):=hG.inv hzG
 refine (Rd D w n G L K (dI z) _ (by omega) (dat.mono (F7.trans fb)) Z.inv ((E.mem _).2 hGi) (sw.mono fb)).mono ?_
 rintro _ h8 ⟨rfl,f8⟩
 have F8:=F7.trans (fb.trans f8)
 have eiv:jC G L K (L.idxOf (dI z))=OF G L K i:=by unfold OF;rw[hz]
 rw[eiv]
 simp(disch:=omega)only[go_sem]
 refine (Cx D (OF G L K i) n G L K h8 n7 hG E ik hl (by omega) (dat.mono F8)).mono ?_
 rintro vm h9 ⟨⟨Q,ρ,rfl,bQ,nQ,gQ,rows⟩,f9⟩
 rw[hrr] at gQ rows
 obtain⟨rq,rn,rg⟩:=rows i hir
 have F9:=F8.trans f9
 have n46:=f46.next
 have n7':=f7.next
 have n8:=(fb.trans f8).next
 have n9:=f9.next
 have gS9:h9.get S=some (.cells false (rc r λk=> aA (tB G L K k i:Nat))):=by
  rw[f9.get S (by omega),(fb.trans f8).get S (by omega),f7.get S (by omega),f46.get S nS];exact gS
 have cQ:h9.cell Q i=some (.sl (ρ i) 0 r (.kn r)):=by rw[H.aF gQ,oT hir]
 rw[hrr]
 simp(disch:=omega)only[go_sem,cQ]
 have hLL:L.length*L.length<=5040*5040:=Nat.mul_le_mul hl hl
 refine aJ (λk' vars hh=> ∃(k:Nat),(∃g:Nat->V,vars= [g 0,g 1,g 2,g 3,.ptr D 0,g 5,.sl S 0 r (.kn r),g 7,g 8,g 9,aA dv,g 11,g 12,g 13,vC,aA r,aA i,g 17,.sl (ρ i) 0 r (.kn r),aA r,aA k,g 21])/\k<=r/\hh.get S=some (.cells false (rc r λa=> aA (tB G L K a (if a<k then i+1 else i):Nat)))/\Fx (· =S) h9 hh/\k'=r-k) r
  ⟨0,aB rfl,lW _,gS9,Fx.refl _ _,rfl⟩ ?_
 rintro k' vars hc' ⟨k,⟨g',rfl⟩,hk,gSc,Fc,rfl⟩
 have nc:=Fc.next
 have F2c:Fr h2 hc':=⟨by have:=F9.next;omega,λq hq=>by rw[Fc.get q (by have:=F9.next;omega) (by show q≠S;omega)];exact F9.get q hq⟩
 by_cases hlk:(k:Int)<(r:Int)
 case neg=>
  have d3:decide ((k:Int)<(r:Int))=false:=decide_eq_false hlk;obtain rfl:k=r:=by omega
  simp(disch:=omega)only[go_sem,d3];rw[jP i];refine⟨k-(i+1),by omega,i+1,aB rfl,by omega,?_,F2c,by omega,rfl⟩;rw[gSc];congr 2;exact bH λa ha=>by rw[if_pos ha]
 have d3:decide ((k:Int)<(r:Int))=true:=decide_eq_true hlk
 have hkr:k<r:=by omega
 have cR:hc'.cell (ρ i) k=some (aA (sM G L K (OF G L K i) i k:Nat)):=by
  rw[Fc.cell rn (by show ρ i≠S;omega),H.aF rg,oT hkr]
 have cS:hc'.cell S k=some (aA (tB G L K k i:Nat)):=by
  rw[H.aF gSc,oT hkr,if_neg (by omega)]
 have b1:=Yw (G:=G) (L:=L) (K:=K) k i
 have b1':i*(L.length*L.length)<=64*(5040*5040):=Nat.mul_le_mul (by omega) hLL
 have b2:sM G L K (OF G L K i) i k*dv<=5040*5040:=Nat.mul_le_mul (Nat.le_trans (Xr ..) hl) hdv
 have cs:tB G L K k (i+1)=tB G L K k i+sM G L K (OF G L K i) i k*dv:=by rw[tB,hc,hdv']
 obtain⟨u,hu⟩:=exI (sM G L K (OF G L K i) i k)
 rw[hu] at cR b2 cs
 obtain⟨s,hs⟩:=exI (tB G L K k i)
 rw[hs] at cS b1 cs
 have em:(u:Int)*(dv:Int)=((u*dv:Nat):Int):=rfl
 obtain⟨w2,hw⟩: ∃w,u*dv=w:=⟨_,rfl⟩
 rw[hw] at b2 cs em
 have ea:(s:Int)+(w2:Int)=((s+w2:Nat):Int):=rfl
 have pS:=λhh=>aZ (vs:=rc r λa=> aA (tB G L K a (if a<k then i+1 else i):Nat)) (off:=k) (by rw[dX];exact hkr) hh S (aA (s+w2:Nat))
 simp(disch:=omega)only[go_sem,d3,cR,cS,em,ea,gSc,pS]
 rw[jP k]
 refine⟨r-(k+1),by omega,k+1,aB rfl,by omega,?_,Fc.trans (Fx.set _ (W:=(· =S)) rfl _) (λ_ _ h=>h),rfl⟩
 rw[jL]
 congr 2
 refine bH λa ha=>?_
 by_cases e:a=k
 ·rw[if_pos e,if_pos (by omega),e,cs]
 ·rw[if_neg e]
  by_cases e2:a<k
  ·rw[if_pos e2,if_pos (by omega)]
  ·rw[if_neg e2,if_neg (by omega)]
def quB (L:LN)(K:List Nat)(a k:Nat):Nat:=CA L K (L.idxOf (aV (dI (L.getD a [])) (L.getD (K.getD k 0) [])))
def MX (L:LN)(K:List Nat)(i j k:Nat):Nat:=((List.range L.length).filter λa=>decide (CA L K a=i/\quB L K a k=j)).length
def ZS (L:LN)(K:List Nat)(x y:List Int)(k:Nat):Int:=sm L.length λa=>x.getD (CA L K a) 0*y.getD (quB L K a k) 0
def QZ (L:LN)(K:List Nat)(l:List Nat):List Int:=l.foldl (λc i=>(List.range K.length).map (ZS L K (Gd K.length i) c)) (Gd K.length 0)
def zpB (n:Nat)(x:List Nat)(z:Int):List Nat:=pw n x (z%(Wr n x:Nat)).toNat
def rtB (n:Nat)(L:LN)(K:List Nat)(z:Int)(i:Nat):Nat:=((List.range L.length).filter λa=>decide (zpB n (L.getD a []) z=L.getD (K.getD i 0) [])).length
section
variable {n:Nat} {G:List Nat->Prop} {L:LN} {K:List Nat}
theorem Zf (E:fN G L)(a k:Nat):Wg G L K a k=quB L K a k:=Ga E _
theorem Ia (E:fN G L)(i j k:Nat):sM G L K i j k=MX L K i j k:=by
 unfold sM Ff MX;congr 2;funext a;rw[Ga E,Zf E]
theorem Zl (E:fN G L)(x y:List Int)(k:Nat):FB G L K x y k=ZS L K x y k:=by
 unfold FB ZS;exact uS λa _=>by rw[Ga E,Zf E]
theorem Qh (E:fN G L)(l:List Nat):Bq G L K l=QZ L K l:=by
 unfold Bq QZ;congr 1;funext c i;exact List.map_congr_left λk _=>Zl E _ _ k
theorem Zj (hG:tL n G)(E:fN G L)(hn:n<=7)(z:Int)(i:Nat):NX n L K z i=rtB n L K z i:=by
 unfold NX GY rtB;congr 1;refine List.filter_congr λa ha=>?_
 unfold zp zpB;rw[Wt hG E hn (Na.1 ha)]
end
def T3:LN:= [[1,2,0], [1,0,2]]
theorem gY:fN (eQ 3 (· ∈T3)) L3:=JO.ZN (ws:= [[], [0,1], [1], [0], [0,0], [1,0]]) (by decide+kernel)
theorem VA: ∀g∈T3,bG 3 g:=λg hg=>Rt ((show ∀g∈T3,Lr 3 g=true by decide+kernel) g hg)
theorem Zt {G:List Nat->Prop}{L:LN}(E:fN G L){A:LN}(nd:A.Nodup)(h: ∀x∈A,G x):A.length<=L.length:=List.Nodup.length_le_of_subset nd λx hx=>(E.mem x).2 (h x hx)
theorem Gi (h:H):Ev T 34 [] h (λv h'=> ∃O R,GC (λid=>id<h.next) h' v 3 O R (eQ 3 (· ∈T3))/\Fr h h'):=by
 refine bL uA rfl rfl ?_;obtain⟨B,hB⟩:=exI h.next;obtain⟨h1,e1,n1,g1,o1,f1⟩:=iD hB [aA 0,.aC,.aC];obtain⟨h2,e2,n2,s2,f2⟩:=yO n1 [1,2,0];obtain⟨h3,e3,n3,s3,f3⟩:=yO n2 [1,0,2];obtain⟨h4,e4,n4,g4,o4,f4⟩:=iD n3 [.sl (B+1) 0 3 (.kn 3),.sl (B+1+1) 0 3 (.kn 3)];have F14:=(f2.trans f3).trans f4;have sp4:SP h4 (.sl (B+1+1+1) 0 2 (.kn 2)) T3:=SP.two (a:= [1,2,0]) (b:= [1,0,2]) (h:=h3) (s2.mono f3) s3 (by omega) f4 g4 _;simp(disch:=omega)only[go_sem,uA,aE,hB,e1,n1,lB,e2,n2,e3,n3,NF _ (pN ..) (pN ..),e4];refine (Kp 10 3 _ T3 h4 (by omega) (by omega) VA (by decide) (λA nd hA=>Nat.le_trans (Zt gY nd hA) (by decide)) sp4).mono ?_;rintro vA h5 ⟨A,EA,lA,sA,f5⟩;simp(disch:=omega)only[go_sem];refine (Gw vA 3 _ A h5 (by omega) (by omega) (eQ.kY VA) EA (by omega) sA).mono ?_;rintro vc h6 ⟨O,R,cw,isc,f6⟩
 have gc:GC (λid=>id<h5.next) h6 vc 3 O R (eQ 3 (· ∈T3)):=⟨cw,isc,eQ.kY VA,by omega,by omega⟩
 obtain⟨u,w,rfl,a,b,_,_⟩:=gc.sl;have F16:=(F14.trans f5).trans f6;have n5:=(F14.trans f5).next
 have n6:=f6.next;have g6:h6.get B=some (.cells false [aA 0,.aC,.aC]):=by rw[F16.get B (by omega)];exact g1
 obtain⟨h7,e7,n7,g7,o7⟩:=Ju h6 B [aA (3:Nat),u,w];simp(disch:=omega)only[go_sem,mL h6 B 0 (v:= aA (3:Nat)) (u:=u) (w:=w) rfl a b,g6,kA,e7,bB g7];exact⟨O,R,gc.go (⟨by omega,λid h1 h2=>o7 id (by show id≠B;have: ¬id<h5.next:=h2;omega)⟩:Fx (λid=>id<h5.next) h6 h7) (λid h1 h2=>by show id<h5.next;omega),⟨by omega,λq hq=>by rw[o7 q (by omega),F16.get q (by omega),o1 q (by omega)]⟩⟩
theorem Yx (h:H):Ev T 35 [] h (λv h'=> ∃O R,GC (λid=>id<h.next) h' v 4 O R (eQ 4 (· ∈C4))/\Fr h h'):=by
 refine bL vD rfl rfl ?_;obtain⟨B,hB⟩:=exI h.next;obtain⟨h1,e1,n1,g1,o1,f1⟩:=iD hB [aA 0,.aC,.aC];obtain⟨h2,e2,n2,s2,f2⟩:=yO n1 [1,2,3,0];obtain⟨h4,e4,n4,g4,o4,f4⟩:=iD n2 [.sl (B+1) 0 4 (.kn 4)];have F14:=f2.trans f4;have sp4:SP h4 (.sl (B+1+1) 0 1 (.kn 1)) C4:=SP.aaM (a:= [1,2,3,0]) (h:=h2) s2 (by omega) f4 g4 _;simp(disch:=omega)only[go_sem,vD,aE,hB,e1,n1,Xb,e2,n2,dO _ (z:= .aC) (v:= .sl (B+1) 0 4 (.kn 4)) rfl rfl,e4];refine (Kp 10 4 _ C4 h4 (by omega) (by omega) WW (by decide) (λA nd hA=>Nat.le_trans (Zt Gn nd hA) (by decide)) sp4).mono ?_;rintro vA h5 ⟨A,EA,lA,sA,f5⟩;simp(disch:=omega)only[go_sem];refine (Gw vA 4 _ A h5 (by omega) (by omega) (eQ.kY WW) EA (by omega) sA).mono ?_;rintro vc h6 ⟨O,R,cw,isc,f6⟩
 have gc:GC (λid=>id<h5.next) h6 vc 4 O R (eQ 4 (· ∈C4)):=⟨cw,isc,eQ.kY WW,by omega,by omega⟩
 obtain⟨u,w,rfl,a,b,_,_⟩:=gc.sl;have F16:=(F14.trans f5).trans f6;have n5:=(F14.trans f5).next
 have n6:=f6.next;have g6:h6.get B=some (.cells false [aA 0,.aC,.aC]):=by rw[F16.get B (by omega)];exact g1
 obtain⟨h7,e7,n7,g7,o7⟩:=Ju h6 B [aA (4:Nat),u,w];simp(disch:=omega)only[go_sem,mL h6 B 0 (v:= aA (4:Nat)) (u:=u) (w:=w) rfl a b,g6,kA,e7,bB g7];exact⟨O,R,gc.go (⟨by omega,λid h1 h2=>o7 id (by show id≠B;have: ¬id<h5.next:=h2;omega)⟩:Fx (λid=>id<h5.next) h6 h7) (λid h1 h2=>by show id<h5.next;omega),⟨by omega,λq hq=>by rw[o7 q (by omega),F16.get q (by omega),o1 q (by omega)]⟩⟩
set_option maxHeartbeats 16000000
theorem Bj (v w:V)(a b:List Int)(h:H)(sa:SI h v a)(sb:SI h w b)(la:a.length<1000000)(lb:b.length<1000000):
  Ev T 36 [v,aA 0,w] h (λv h'=>v= .bool (decide (a=b))/\Fr h h'):=by
 refine bL zT rfl rfl ?_
 simp(disch:=omega)only[go_sem,zT,aE,decide_true]
 refine (Oy v w a b h sa sb la lb).mono ?_
 rintro _ h1 ⟨rfl,f1⟩
 simp(disch:=omega)only[go_sem]
 exact f1
theorem HO (h:H){v u w:V}(hv:v.cells= [v]/\v.one=true)(hu:u.cells= [u]/\u.one=true)(hw:w.cells= [w]/\w.one=true):qS h 1 [.aC] 3 [(0,1,v),(1,1,u),(2,1,w)]=some (.sl h.next 0 3 (.kn 3),h.new (.cells false [v,u,w])):=by
 have e:dK [V.aC] 3= [.aC,.aC,.aC]:=rfl;simp [qS,iZ,e,putAt,hv.1,hv.2,hu.1,hu.2,hw.1,hw.2]
theorem TF:(List.range 3).map (λj=>zi ((List.range 3).map (MX L3 [0,1,3] 1 j)))= [[0,1,0], [3,0,3], [0,2,0]]:=by decide+kernel
theorem PW:(QZ L3 [0,1,3] [1,1,2]).getD 0 0=6:=by decide+kernel
theorem VT:zi ((List.range 4).map (rtB 4 L4 [0,2,1,3] 2))= [2,2,0,0]:=by decide+kernel
theorem GP (h:H):Ev T 10 [] h (λv h'=>v= .bool true/\Fr h h'):=by
 refine bL tK rfl rfl ?_;simp(disch:=omega)only[go_sem,tK,aE];refine (Gi h).mono ?_;rintro vc h1 ⟨O,R,gc,f1⟩;simp(disch:=omega)only[go_sem];refine (Gc vc 1 3 O R _ h1 gc L3 (gc.el gY)).mono ?_;rintro w1 h2 ⟨K,ik,f2,hv⟩;obtain rfl:K= [0,1,3]:=Jr.eq gc.kY gY (by omega) wK ik
 obtain⟨vl,rfl,sl⟩: ∃vl,w1=V.tup [vl,aA 0]/\SR h2 vl (AV (eQ 3 (· ∈T3)) L3 [0,1,3] 1):=by
  rcases hv with ⟨h1,_⟩|⟨_,⟨h1,_⟩|⟨i,vl,e,_,rfl,s⟩⟩
  ·simp at h1
  ·simp at h1
  ·obtain rfl:i=1:=by omega
   exact⟨vl,rfl,s⟩
 clear hv
 have ec:AV (eQ 3 (· ∈T3)) L3 [0,1,3] 1= [[0,1,0], [3,0,3], [0,2,0]]:=by
  rw[←TF];unfold AV;exact List.map_congr_left λj _=>by congr 1;exact List.map_congr_left λk _=>Ia gY _ _ _
 rw[ec] at sl;simp(disch:=omega)only[go_sem];refine (Gi h2).mono ?_;rintro vc2 h3 ⟨O2,R2,gc2,f3⟩;obtain⟨h4,e4,n4,s4,f4⟩:=yO (h:=h3) rfl [1,1,2];simp(disch:=omega)only[go_sem,lB,e4];refine (Np vc2 _ [1,1,2] 3 O2 R2 _ h4 (by decide) s4 (gc2.mono f4) L3 (gc2.el gY)).mono ?_;rintro w2 h5 ⟨K,ik2,f5,hv⟩;obtain rfl:K= [0,1,3]:=Jr.eq gc2.kY gY (by omega) wK ik2
 obtain rfl:w2=V.tup [aA 6,aA 0]:=by
  rcases hv with ⟨h1,_⟩|⟨_,⟨h1,_⟩|⟨_,⟨⟨x,hx,h1⟩,_⟩|⟨l',e,_,rfl⟩⟩⟩
  ·simp at h1
  ·simp at h1
  ·simp only[List.length_cons,List.length_nil] at h1
   simp only[List.mem_cons,List.not_mem_nil,or_false] at hx;omega
  ·have el:l'= [1,1,2]:=Tv (e.symm.trans (by decide))
   rw[el,Qh gY,PW]
 clear hv;simp(disch:=omega)only[go_sem];refine (Yx h5).mono ?_;rintro vc3 h6 ⟨O3,R3,gc3,f6⟩;simp(disch:=omega)only[go_sem];refine (Rb vc3 2 4 O3 R3 _ h6 (by omega) gc3 L4 (gc3.el Gn)).mono ?_;rintro w3 h7 ⟨K,ik3,f7,hv⟩;obtain rfl:K= [0,2,1,3]:=Jr.eq gc3.kY Gn (by omega) TS ik3
 obtain⟨vr,rfl,sr⟩: ∃vl,w3=V.tup [vl,aA 0]/\SI h7 vl [2,2,0,0]:=by
  rcases hv with ⟨h1,_⟩|⟨_,vl,rfl,s⟩
  ·simp at h1
  ·refine⟨vl,rfl,?_⟩
   have e:zi ((List.range [0,2,1,3].length).map (NX 4 L4 [0,2,1,3] 2))= [2,2,0,0]:=by
    rw[←VT];congr 1;exact List.map_congr_left λi _=>Zj gc3.kY Gn (by omega) _ _
   rw[e] at s;exact s
 clear hv;obtain⟨ha,ea,na,sa,fa⟩:=yO (h:=h7) rfl [0,1,0];obtain⟨hb,eb,nb,sb,fb⟩:=yO na [3,0,3];obtain⟨hc,ec',nc,sc,fc⟩:=yO nb [0,2,0];have F17:=(((((f1.trans f2).trans f3).trans f4).trans f5).trans f6).trans f7;simp(disch:=omega)only[go_sem,decide_true,lB,ea,na,eb,nb,ec'];obtain⟨A,hA⟩:=exI h7.next;rw[hA] at na nb nc sa sb sc ⊢;obtain⟨hd,ed,nd,gd,od,fd⟩:=iD nc [.sl A 0 3 (.kn 3),.sl (A+1) 0 3 (.kn 3),.sl (A+1+1) 0 3 (.kn 3)];have f7d:=((fa.trans fb).trans fc).trans fd
 have sw:SR hd (.sl (A+1+1+1) 0 3 (.kn 3)) [[0,1,0], [3,0,3], [0,2,0]]:=⟨_,SV.all (by rfl) (by omega) gd _,sa.mono ((fb.trans fc).trans fd),sb.mono (fc.trans fd),sc.mono fd,trivial⟩
 simp(disch:=omega)only[go_sem,HO _ (pN ..) (pN ..) (pN ..),nc,ed];refine (Ca vl _ _ _ hd (sl.mono ((((f3.trans f4).trans f5).trans f6).trans (f7.trans f7d))) sw (by decide) (by decide) (by decide) (by decide)).mono ?_;rintro _ h8 ⟨rfl,f8⟩;rw[decide_eq_true rfl];obtain⟨he,ee,ne,se,fe⟩:=yO (h:=h8) rfl [2,2,0,0];simp(disch:=omega)only[go_sem,decide_true,Xb,ee];refine (Bj vr _ _ _ he (sr.mono ((f7d.trans f8).trans fe)) se (by decide) (by decide)).mono ?_;rintro _ h9 ⟨rfl,f9⟩;rw[decide_eq_true rfl];simp(disch:=omega)only[go_sem];exact (((F17.trans f7d).trans f8).trans fe).trans f9
def gs:LN->(List Nat->Int)->Int
 | [],_=>0
 |x::l,f=>f x+gs l f
section
variable {n:Nat} {G:List Nat->Prop} {L:LN} {K:List Nat}
end
section
variable {n:Nat} {G:List Nat->Prop} {L:LN} {K:List Nat} (hG:tL n G) (E:fN G L) (ik:Bs n G L K)
include hG E ik
end
section
variable {n:Nat} {G:List Nat->Prop} {L:LN} {K:List Nat} (hG:tL n G) (E:fN G L) (ik:Bs n G L K)
include hG E ik
end
theorem IM (h:H)(x y:Int):qS h 1 [aA 0] 2 [(0,1,aA x),(1,1,aA y)]=some (.sl h.next 0 2 (.kn 2),h.new (.cells false (ints [x,y]))):=by
 have e:dK [aA 0] 2= [aA 0,aA 0]:=rfl;simp [qS,iZ,e,putAt,V.cells,ints,V.one]
end Go.Proofs.YtapfcpkecmmagaaGreat
namespace Go.Proofs.YtapfcpkecmmagaaGreat
open Go Go.Ay
set_option maxRecDepth 100000
theorem Mk (ρ:X->V)(h:H)(x:X)(hx:ρ x= .aC):cG ρ h (.caps x)=some (aA 0,h):=by
 simp only[cG,hx]
theorem SL (n:Nat)(h:H)(hn0:0<n)(hn:n<1000000):Ev T 95 [.aC,aA n] h (λv h'=>eX h' v 1 (ints []) h.next/\Fr h h'):=by
 refine bL kM rfl rfl ?_;simp(disch:=omega)only[go_sem,kM,aE];rw[decide_eq_false (show ¬((n:Int)<0) by omega)];simp(disch:=omega)only[go_sem];rw[Mk _ _ _ rfl];simp(disch:=omega)only[go_sem];rw[decide_eq_true (show 0<(n:Int)-(0- 0) by omega)];simp(disch:=omega)only[go_sem];rw[Mk _ _ _ rfl];have ea:=KS (h:=h) (sz:=1) (bytes:=8) (zero:= [aA 0]) (x:= .aC) (n:=(n:Int)-(0- 0)) (by omega) (by omega) (by omega) rfl;obtain⟨v,h',e,a⟩:=(eX.aC h 1 h.next).tX (bytes:=8) (iL _) (n:=0) (m:=n) (us:=ints (List.replicate n 0)) rfl (by rw[aM,List.length_replicate,Nat.mul_one]) (by omega) (by omega);rw[show ((n:Int)-(0- 0)).toNat=n by omega,Nat.mul_one,yM,e] at ea;simp(disch:=omega)only[go_sem,JE,ea];rcases a.dZ with ⟨h1,_⟩|⟨id,rfl,h2,h3,h4⟩
 ·omega
 have es:rG 1 (.sl id 0 n (.un 1)) none (some (aA 0)) none=some (.sl id 0 0 (.un 1)):=LZ (by omega) (by omega);simp(disch:=omega)only[go_sem,es];exact⟨.inr ⟨id,0,.un 1,_,rfl,rfl,.inl rfl,h2,h3,by rw[h4];rfl⟩,a.fr h (Fr.refl h) (iL _)⟩
theorem AF (id:Nat)(ua ub:V)(a b:List Int)(h:H)(hg:h.get id=bX [ua,ub])(hid:id<h.next)(ha:SI h ua a)(hb:SI h ub b)(h0:0<a.length+b.length)(la:a.length<10000)(lb:b.length<10000):
  Ev T 58 [.sl id 0 2 (.kn 2)] h (λv h'=>eX h' v 1 (ints (a++b)) h.next/\Fr h h'):=by
 refine bL jM rfl rfl ?_
 have lens2:dR (.sl id 0 2 (.kn 2))=some (aA 2):=rfl
 have c0:h.cell id 0=some ua:=by rw[H.aF hg];rfl
 have c1:h.cell id 1=some ub:=by rw[H.aF hg];rfl
 have i0:Jw 1 (.sl id 0 2 (.kn 2)) (aA 0)=some (.ptr id 0):=by rw[yQ (by omega) (by omega)];rfl
 have i1:Jw 1 (.sl id 0 2 (.kn 2)) (aA 1)=some (.ptr id 1):=by rw[yQ (by omega) (by omega)];rfl
 simp(disch:=omega)only[go_sem,jM,aE,lens2]
 refine jF ?_
 simp(disch:=omega)only[go_sem,i0,c0,ha.lens]
 rw[decide_eq_true (show (0:Int)<2 by omega)]
 simp(disch:=omega)only[go_sem,i0,c0,ha.lens]
 rw[decide_eq_false (show ¬(0+(a.length:Int))<0 by omega)]
 simp(disch:=omega)only[go_sem]
 rw[show (0:Int)+1=1 from rfl,Int.zero_add]
 refine jF ?_
 simp(disch:=omega)only[go_sem]
 rw[decide_eq_true (show (1:Int)<2 by omega)]
 simp(disch:=omega)only[go_sem,i1,c1,hb.lens]
 rw[decide_eq_false (show ¬((a.length:Int)+(b.length:Int))<0 by omega)]
 simp(disch:=omega)only[go_sem]
 rw[show (1:Int)+1=2 from rfl]
 refine jF ?_
 simp(disch:=omega)only[go_sem]
 rw[decide_eq_false (show ¬(2:Int)<2 by omega)]
 simp(disch:=omega)only[go_sem]
 rw[show (a.length:Int)+(b.length:Int)=((a.length+b.length:Nat):Int) by omega]
 refine (SL (a.length+b.length) h h0 (by omega)).mono ?_
 rintro v h1 ⟨o1,f1⟩
 have c0:h1.cell id 0=some ua:=by rw[f1.cell hid];exact c0
 obtain⟨v2,h2,e2,a2⟩:=o1.app (bytes:=8) (n:=0) (m:=a.length) f1.next (SV.mono ha f1) rfl (by rw[aM,Nat.mul_one]) (by omega) (by omega)
 have f2:=a2.fr h f1 (iL _)
 have c1:h2.cell id 1=some ub:=by rw[f2.cell hid];exact c1
 have o2:=a2.own
 rw[←mX] at o2
 obtain⟨v3,h3,e3,a3⟩:=o2.app (bytes:=8) (n:=a.length) (m:=b.length) f2.next (SV.mono hb f2) (by rw[aM,Nat.mul_one];simp) (by rw[aM,Nat.mul_one]) (by omega) (by omega)
 have f3:=a3.fr h f2 (iL _)
 simp(disch:=omega)only[go_sem,lens2]
 refine jF ?_
 simp(disch:=omega)only[go_sem]
 rw[decide_eq_true (show (0:Int)<2 by omega)]
 simp(disch:=omega)only[go_sem,i0,c0,e2]
 rw[show (0:Int)+1=1 from rfl]
 refine jF ?_
 simp(disch:=omega)only[go_sem]
 rw[decide_eq_true (show (1:Int)<2 by omega)]
 simp(disch:=omega)only[go_sem,i1,c1,e3]
 rw[show (1:Int)+1=2 from rfl]
 refine jF ?_
 simp(disch:=omega)only[go_sem]
 rw[decide_eq_false (show ¬(2:Int)<2 by omega)]
 simp(disch:=omega)only[go_sem]
 have o3:=a3.own
 rw[←mX] at o3
 exact⟨o3,f3⟩
end Go.Proofs.YtapfcpkecmmagaaGreat
namespace Go.Proofs.YtapfcpkecmmagaaGreat
open Go Go.Ay Go.Pm
set_option maxRecDepth 100000
def xC (x:Int):Bool:=decide (x< -10000∨10000<x)
theorem MW (x:Int)(h:H):Ev T 59 [aA x] h (λv h'=>v= .bool (xC x)/\Fr h h'):=by
 refine bL qA rfl rfl ?_;simp(disch:=omega)only[go_sem,qA,aE]
 by_cases h1:x< -10000
 ·have d1:decide (x< -10000)=true:=decide_eq_true h1
  have:xC x=true:=decide_eq_true (.inl h1);simp(disch:=omega)only[go_sem,d1,this];exact Fr.refl h
 ·have d1:decide (x< -10000)=false:=decide_eq_false h1
  have:xC x=decide (10000<x):=by unfold xC;exact decide_eq_decide.2 ⟨λh=>h.resolve_left h1,.inr⟩
  simp(disch:=omega)only[go_sem,d1,this];exact Fr.refl h
theorem Ow {W0:Nat->Prop}(vc vx vy:V)(x y:List Int)(n:Nat)(O:LN)(R:oQ)(G:List Nat->Prop)(h:H)(lx:x.length<10000)(ly:y.length<10000)(sx:SI h vx x)(sy:SI h vy y)(gc:GC W0 h vc n O R G)(L:LN)(hL:cV O R n 0 (bZ n)=L):
  Ev T 28 [vc,vx,vy] h (λv h'=> ∃K,Bs n G L K/\Fr h h'/\(64<K.length/\v= .tup [.aC,aA 5]∨K.length<=64/\(¬(x.length=K.length/\y.length=K.length)/\v= .tup [.aC,aA 10]∨x.length=K.length/\y.length=K.length/\((x++y).any xC=true/\v= .tup [.aC,aA 2]∨(x++y).any xC=false/\ ∃w,v= .tup [w,aA 0]/\SI h' w ((List.range K.length).map (FB G L K x y)))))):=by
 have gc0:=gc
 obtain⟨vO,vR,rfl,sO,sR⟩:=gc.ch
 refine bL tT rfl rfl ?_
 have oneO:vO.one=true:=Tt sO
 have oneR:vR.one=true:=Tq sR
 have n7:=gc.n7
 have hG:=gc.kY
 obtain⟨Ee,lle⟩:=jH gc.kY gc.isc
 have ll5:=mK gc
 rw[hL] at Ee lle
 have lvx:=sx.lens
 have lvy:=sy.lens
 obtain⟨B,hB⟩:=exI h.next
 obtain⟨h1,e1,n1,g1,o1,f1⟩:=iD hB [aA n,vO,vR]
 have bx:=dB h (v:= aA n) (u:=vO) (w:=vR) rfl oneO oneR
 simp(disch:=omega)only[go_sem,tT,aE,bx,hB,e1,bB g1]
 refine (Ar _ n O R G h1 (gc0.mono f1) L hL).mono ?_
 rintro _ h2 ⟨K,ik,f2,⟨k64,rfl⟩|⟨k64,D,rfl,dat⟩⟩
 ·simp(disch:=omega)only[go_sem]
  refine aW (λ_=>?_) (λhc=>(hc (by decide)).elim)
  simp(disch:=omega)only[go_sem]
  exact⟨K,ik,f1.trans f2,.inl ⟨k64,trivial⟩⟩
 simp(disch:=omega)only[go_sem]
 refine aW (λhc=>(hc rfl).elim) (λ_=>?_)
 have F2:=f1.trans f2
 have dat0:=dat
 obtain⟨vL,vC,Mn,ln,ks,gD,hD,hMn,sL,sC,al,gMn,kln,lkn⟩:=dat.ex
 obtain⟨k0,_⟩:=Xu hG Ee ik
 obtain⟨lvC,eC,idC,offC,shC,cC⟩:=nH (by omega) sC al
 clear shC cC
 by_cases ex:(x.length:Int)=(K.length:Int)
 case neg=>
  have d1:decide ((x.length:Int)≠(K.length:Int))=true:=decide_eq_true ex;simp(disch:=omega)only[go_sem,lvx,H.aF gD,lvC,d1];exact⟨K,ik,F2,.inr ⟨k64,.inl ⟨λe=>ex (by omega),trivial⟩⟩⟩
 have d1:decide ((x.length:Int)≠(K.length:Int))=false:=decide_eq_false (λe=>e ex)
 by_cases ey:(y.length:Int)=(K.length:Int)
 case neg=>
  have d2:decide ((y.length:Int)≠(K.length:Int))=true:=decide_eq_true ey;simp(disch:=omega)only[go_sem,lvx,lvy,H.aF gD,lvC,d1,d2];exact⟨K,ik,F2,.inr ⟨k64,.inl ⟨λe=>ey (by omega),trivial⟩⟩⟩
 have d2:decide ((y.length:Int)≠(K.length:Int))=false:=decide_eq_false (λe=>e ey)
 have wx:=sx.dZ
 have wy:=sy.dZ
 obtain⟨P,hP⟩:=exI h2.next
 obtain⟨h3,e3,n3,g3,o3,f3⟩:=iD hP [vx,vy]
 have bs:=NF h2 (v:=vx) (u:=vy) ⟨wx.1,wx.2.1⟩ ⟨wy.1,wy.2.1⟩
 rw[hP] at bs
 simp(disch:=omega)only[go_sem,lvx,lvy,H.aF gD,lvC,d1,d2,bs,e3]
 refine (AF P vx vy x y h3 g3 (by omega) (sx.mono (F2.trans f3)) (sy.mono (F2.trans f3)) (by omega) lx ly).mono ?_
 rintro vz h4 ⟨oz,f4⟩
 simp(disch:=omega)only[go_sem]
 refine (Bv 59 [] vz (x++y) h4 xC (by rw[pQ];omega) oz.sv (λi hi hh f=>MW _ _)).mono ?_
 rintro _ h5 ⟨rfl,f5⟩
 have F5:=((F2.trans f3).trans f4).trans f5
 cases hany:(x++y).any xC with
 |true=>
  simp(disch:=omega)only[go_sem];exact⟨K,ik,F5,.inr ⟨k64,.inr ⟨by omega,by omega,.inl trivial⟩⟩⟩
 |false=>
  have hb: ∀z∈x++y, -(10000:Int)<=z/\z<=10000:=λz hz=>by
   have:=List.any_eq_false.1 hany z hz;unfold xC at this;simp only[decide_eq_true_iff] at this;omega
  simp(disch:=omega)only[go_sem];have fb:=(Fr.refl h5).bM (n:=h5.next+9) (by omega);refine (LU D vx vy n G L K x y 10000 10000 h5 n7 hG Ee ik (by omega) k64 (dat0.mono ((f3.trans f4).trans f5)) (λv hv=>hb v (List.mem_append_left _ hv)) (λv hv=>hb v (List.mem_append_right _ hv)) (by decide) (by omega) (by omega) (sx.mono F5) (sy.mono F5)).mono ?_;rintro v6 h6 ⟨r6,f6⟩;simp(disch:=omega)only[go_sem];exact⟨K,ik,F5.trans f6,.inr ⟨k64,.inr ⟨by omega,by omega,.inr ⟨_,rfl,r6.si⟩⟩⟩⟩
theorem JS (vc:V)(d:Int)(O:List (List Int))(R:List (List (List Int)))(h:H)(hc:ET h vc d O R)(hd:d<=7∨64<d)(so:rZ O)(sr:rM R)(hb:sF d O R≠0):
  Ev T 14 [vc] h (λv h'=>v= .tup [.aC,aA (sF d O R)]/\Fr h h'):=by
 have hc0:=hc
 obtain⟨vO,vR,rfl,sO,sR⟩:=hc
 refine bL fK rfl rfl ?_
 have oneO:vO.one=true:=Tt sO
 have oneR:vR.one=true:=Tq sR
 obtain⟨B,hB⟩:=exI h.next
 obtain⟨h1,e1,n1,g1,o1,f1⟩:=iD hB [aA d,vO,vR]
 have bx:=dB h (v:= aA d) (u:=vO) (w:=vR) rfl oneO oneR
 simp(disch:=omega)only[go_sem,fK,aE,bx,hB,e1,bB g1]
 refine (FN _ d O R h1 (hc0.mono f1) hd so sr hb).mono ?_
 rintro _ h2 ⟨rfl,f2⟩
 have d1:decide (sF d O R≠0)=true:=decide_eq_true hb
 simp(disch:=omega)only[go_sem,d1]
 exact f1.trans f2
theorem CJ (h:H):Ev T 14 [.agg [aA 0,.aC,.aC]] h (λv h'=>v= .tup [.aC,aA 2]/\Fr h h'):=by
 have e:sF 0 [] []=2:=by decide+kernel
 have:=JS (.agg [aA 0,.aC,.aC]) 0 [] [] h ⟨.aC,.aC,rfl,⟨[],SV.aC _ _,trivial⟩,⟨[],SV.aC _ _,trivial,λw hw=>absurd hw List.not_mem_nil⟩⟩ (by omega) (by simp [rZ]) (by simp [rM]) (by rw[e];decide);rwa [e] at this
def ivB (L:LN)(K:List Nat)(i:Nat):Nat:=CA L K (L.idxOf (dI (L.getD (K.getD i 0) [])))
def LY (L:LN)(K:List Nat)(k:Nat):Nat->Nat
 |0=>0
 |i+1=>LY L K k i+MX L K (ivB L K i) i k*(L.length/(Vn L (K.getD i 0)).length)
theorem Hw {G:List Nat->Prop}{L:LN}{K:List Nat}(E:fN G L)(k:Nat): ∀i,tB G L K k i=LY L K k i
 |0=>rfl
 |i+1=>by rw[tB,LY,Hw E k i,Ia E,Nc E];unfold OF ivB;rw[Ga E]
section
variable {W0:Nat->Prop} {h:H} {vc:V} {O:LN} {R:oQ}
theorem RY (i:Nat)(hi:i<3)(out:List (List Int))(ho:(List.range 3).map (λj=>zi ((List.range 3).map (MX L3 [0,1,3] i j)))=out)(gc:GC W0 h vc 3 O R (eQ 3 (· ∈T3))):
  Ev T 23 [vc,aA i] h (λv h'=> ∃w,v= .tup [w,aA 0]/\SR h' w out/\Fr h h'):=by
 refine (Gc vc (i:Int) 3 O R _ h gc L3 (gc.el gY)).mono ?_
 rintro v h' ⟨K,ik,f,hv⟩
 obtain rfl:K= [0,1,3]:=Jr.eq gc.kY gY (by omega) wK ik
 rcases hv with ⟨h1,_⟩|⟨_,⟨h1,_⟩|⟨i',w,e,_,rfl,s⟩⟩
 ·simp at h1
 ·simp only[List.length_cons,List.length_nil] at h1;omega
 ·obtain rfl:i'=i:=by omega
  refine⟨w,rfl,?_,f⟩
  have ec:AV (eQ 3 (· ∈T3)) L3 [0,1,3] i'=out:=by
   rw[←ho];unfold AV;exact List.map_congr_left λj _=>by congr 1;exact List.map_congr_left λk _=>Ia gY _ _ _
  rwa [ec] at s
theorem Wb (gc:GC W0 h vc 3 O R (eQ 3 (· ∈T3))):
  Ev T 23 [vc,aA 3] h (λv h'=>v= .tup [.aC,aA 2]/\Fr h h'):=by
 refine (Gc vc 3 3 O R _ h gc L3 (gc.el gY)).mono ?_
 rintro v h' ⟨K,ik,f,hv⟩
 obtain rfl:K= [0,1,3]:=Jr.eq gc.kY gY (by omega) wK ik
 rcases hv with ⟨h1,_⟩|⟨_,⟨h1,rfl⟩|⟨i',w,e,h1,_⟩⟩
 ·simp at h1
 ·exact⟨rfl,f⟩
 ·simp only[List.length_cons,List.length_nil] at h1;omega
theorem MQ (vx vy:V)(x y out:List Int)(lx:x.length=3)(ly:y.length=3)(hb:(x++y).any xC=false)(ho:(List.range 3).map (ZS L3 [0,1,3] x y)=out)(sx:SI h vx x)(sy:SI h vy y)(gc:GC W0 h vc 3 O R (eQ 3 (· ∈T3))):
  Ev T 28 [vc,vx,vy] h (λv h'=> ∃w,v= .tup [w,aA 0]/\SI h' w out/\Fr h h'):=by
 refine (Ow vc vx vy x y 3 O R _ h (by omega) (by omega) sx sy gc L3 (gc.el gY)).mono ?_
 rintro v h' ⟨K,ik,f,hv⟩
 obtain rfl:K= [0,1,3]:=Jr.eq gc.kY gY (by omega) wK ik
 rcases hv with ⟨h1,_⟩|⟨_,⟨h1,_⟩|⟨_,_,⟨h1,_⟩|⟨_,w,rfl,s⟩⟩⟩
 ·simp at h1
 ·exact (h1 ⟨lx,ly⟩).elim
 ·rw[hb] at h1;cases h1
 ·refine⟨w,rfl,?_,f⟩
  have e:(List.range [0,1,3].length).map (FB (eQ 3 (· ∈T3)) L3 [0,1,3] x y)=out:=by
   rw[←ho];exact List.map_congr_left λk _=>Zl gY _ _ k
  rwa [e] at s
theorem Un (vx vy:V)(x y:List Int)(lx:x.length<3)(ly:y.length<10000)(sx:SI h vx x)(sy:SI h vy y)(gc:GC W0 h vc 3 O R (eQ 3 (· ∈T3))):
  Ev T 28 [vc,vx,vy] h (λv h'=>v= .tup [.aC,aA 10]/\Fr h h'):=by
 refine (Ow vc vx vy x y 3 O R _ h (by omega) ly sx sy gc L3 (gc.el gY)).mono ?_
 rintro v h' ⟨K,ik,f,hv⟩
 obtain rfl:K= [0,1,3]:=Jr.eq gc.kY gY (by omega) wK ik
 rcases hv with ⟨h1,_⟩|⟨_,⟨h1,rfl⟩|⟨h1,_⟩⟩
 ·simp at h1
 ·exact⟨rfl,f⟩
 ·simp only[List.length_cons,List.length_nil] at h1;omega
theorem AR (vx vy:V)(x y:List Int)(lx:x.length=3)(ly:y.length=3)(hb:(x++y).any xC=true)(sx:SI h vx x)(sy:SI h vy y)(gc:GC W0 h vc 3 O R (eQ 3 (· ∈T3))):
  Ev T 28 [vc,vx,vy] h (λv h'=>v= .tup [.aC,aA 2]/\Fr h h'):=by
 refine (Ow vc vx vy x y 3 O R _ h (by omega) (by omega) sx sy gc L3 (gc.el gY)).mono ?_
 rintro v h' ⟨K,ik,f,hv⟩
 obtain rfl:K= [0,1,3]:=Jr.eq gc.kY gY (by omega) wK ik
 rcases hv with ⟨h1,_⟩|⟨_,⟨h1,_⟩|⟨_,_,⟨_,rfl⟩|⟨h1,_⟩⟩⟩
 ·simp at h1
 ·exact (h1 ⟨lx,ly⟩).elim
 ·exact⟨rfl,f⟩
 ·rw[hb] at h1;cases h1
theorem Za (vl:V)(l:List Nat)(out:Int)(ll:l.length<=5)(hl: ∀i∈l,i<3)(ho:(QZ L3 [0,1,3] l).getD 0 0=out)(sl:SI h vl (zi l))(gc:GC W0 h vc 3 O R (eQ 3 (· ∈T3))):
  Ev T 30 [vc,vl] h (λv h'=>v= .tup [aA out,aA 0]/\Fr h h'):=by
 refine (Np vc vl (zi l) 3 O R _ h (by rw[aS];omega) sl gc L3 (gc.el gY)).mono ?_
 rintro v h' ⟨K,ik,f,hv⟩
 obtain rfl:K= [0,1,3]:=Jr.eq gc.kY gY (by omega) wK ik
 rcases hv with ⟨h1,_⟩|⟨_,⟨h1,_⟩|⟨_,⟨⟨x,hx,h1⟩,_⟩|⟨l',e,_,rfl⟩⟩⟩
 ·simp at h1
 ·rw[aS] at h1;omega
 ·obtain⟨i,hi,rfl⟩:=wQ.1 hx
  have:=hl i hi
  simp only[List.length_cons,List.length_nil] at h1
  omega
 ·have el:l'=l:=Tv e.symm
  rw[el,Qh gY,ho]
  exact⟨rfl,f⟩
theorem Wm (vl:V)(l:List Int)(ll:5<l.length)(l2:l.length<1000000)(sl:SI h vl l)(gc:GC W0 h vc 3 O R (eQ 3 (· ∈T3))):
  Ev T 30 [vc,vl] h (λv h'=>v= .tup [aA 0,aA 4]/\Fr h h'):=by
 refine (Np vc vl l 3 O R _ h l2 sl gc L3 (gc.el gY)).mono ?_
 rintro v h' ⟨K,ik,f,hv⟩
 obtain rfl:K= [0,1,3]:=Jr.eq gc.kY gY (by omega) wK ik
 rcases hv with ⟨h1,_⟩|⟨_,⟨h1,rfl⟩|⟨h1,_⟩⟩
 ·simp at h1
 ·exact⟨rfl,f⟩
 ·omega
theorem IZ (vl:V)(l:List Int)(ll:l.length<=5)(hx: ∃x∈l,3<=x)(sl:SI h vl l)(gc:GC W0 h vc 3 O R (eQ 3 (· ∈T3))):
  Ev T 30 [vc,vl] h (λv h'=>v= .tup [aA 0,aA 2]/\Fr h h'):=by
 refine (Np vc vl l 3 O R _ h (by omega) sl gc L3 (gc.el gY)).mono ?_
 rintro v h' ⟨K,ik,f,hv⟩
 obtain rfl:K= [0,1,3]:=Jr.eq gc.kY gY (by omega) wK ik
 rcases hv with ⟨h1,_⟩|⟨_,⟨h1,_⟩|⟨_,⟨_,rfl⟩|⟨l',e,h1,_⟩⟩⟩
 ·simp at h1
 ·omega
 ·exact⟨rfl,f⟩
 ·obtain⟨x,hx,h3⟩:=hx
  rw[e] at hx
  obtain⟨i,hi,rfl⟩:=wQ.1 hx
  have:=h1 i hi
  simp only[List.length_cons,List.length_nil] at this
  omega
theorem VG (z:Int)(out:List Int)(hz: -9223372036854775808<=z/\z<9223372036854775808)(ho:zi ((List.range 3).map (rtB 3 L3 [0,1,3] z))=out)(gc:GC W0 h vc 3 O R (eQ 3 (· ∈T3))):
  Ev T 12 [vc,aA z] h (λv h'=> ∃w,v= .tup [w,aA 0]/\SI h' w out/\Fr h h'):=by
 refine (Rb vc z 3 O R _ h hz gc L3 (gc.el gY)).mono ?_
 rintro v h' ⟨K,ik,f,hv⟩
 obtain rfl:K= [0,1,3]:=Jr.eq gc.kY gY (by omega) wK ik
 rcases hv with ⟨h1,_⟩|⟨_,w,rfl,s⟩
 ·simp at h1
 ·refine⟨w,rfl,?_,f⟩
  have e:zi ((List.range [0,1,3].length).map (NX 3 L3 [0,1,3] z))=out:=by
   rw[←ho];congr 1;exact List.map_congr_left λi _=>Zj gc.kY gY (by omega) _ _
  rwa [e] at s
theorem WJ (gc:GC W0 h vc 3 O R (eQ 3 (· ∈T3))):
  Ev T 14 [vc] h (λv h'=> ∃w,v= .tup [w,aA 0]/\SI h' w [18,0,9]/\Fr h h'):=by
 refine (Xy vc 3 O R _ h gc L3 (gc.el gY)).mono ?_
 rintro v h' ⟨K,ik,f,hv⟩
 obtain rfl:K= [0,1,3]:=Jr.eq gc.kY gY (by omega) wK ik
 rcases hv with ⟨h1,_⟩|⟨_,w,rfl,s⟩
 ·simp at h1
 ·refine⟨w,rfl,?_,f⟩
  have e:zi ((List.range [0,1,3].length).map λk=>tB (eQ 3 (· ∈T3)) L3 [0,1,3] k [0,1,3].length)= [18,0,9]:=by
   rw[show (λk=>tB (eQ 3 (· ∈T3)) L3 [0,1,3] k [0,1,3].length)=λk=>LY L3 [0,1,3] k 3 from funext λk=>Hw gY k 3];decide+kernel
  rwa [e] at s
theorem WV (gc:GC W0 h vc 4 O R (eQ 4 (· ∈C4))):
  Ev T 14 [vc] h (λv h'=> ∃w,v= .tup [w,aA 0]/\SI h' w [16,0,0,0]/\Fr h h'):=by
 refine (Xy vc 4 O R _ h gc L4 (gc.el Gn)).mono ?_
 rintro v h' ⟨K,ik,f,hv⟩
 obtain rfl:K= [0,2,1,3]:=Jr.eq gc.kY Gn (by omega) TS ik
 rcases hv with ⟨h1,_⟩|⟨_,w,rfl,s⟩
 ·simp at h1
 ·refine⟨w,rfl,?_,f⟩
  have e:zi ((List.range [0,2,1,3].length).map λk=>tB (eQ 4 (· ∈C4)) L4 [0,2,1,3] k [0,2,1,3].length)= [16,0,0,0]:=by
   rw[show (λk=>tB (eQ 4 (· ∈C4)) L4 [0,2,1,3] k [0,2,1,3].length)=λk=>LY L4 [0,2,1,3] k 4 from funext λk=>Hw Gn k 4];decide+kernel
  rwa [e] at s
end
theorem HP (h:H):Ev T 8 [] h (λv h'=>v= .bool true/\Fr h h'):=by
 refine bL kX rfl rfl ?_;have dT:decide True=true:=rfl;simp(disch:=omega)only[go_sem,kX,aE];refine (GP h).mono ?_;rintro _ h1 ⟨rfl,f1⟩;simp(disch:=omega)only[go_sem];refine (Gi h1).mono ?_;rintro vc1 h2 ⟨O1,R1,gc1,f2⟩;simp(disch:=omega)only[go_sem];refine (Yx h2).mono ?_;rintro vc2 h3 ⟨O2,R2,gc2,f3⟩;obtain⟨u1,w1,rfl,a1,b1,_,_⟩:=gc1.sl;obtain⟨u2,w2,rfl,a2,b2,_,_⟩:=gc2.sl;obtain⟨C,hC⟩:=exI h3.next;obtain⟨h4,e4,n4,g4,o4,f4⟩:=iD hC [aA 0,.aC,.aC];obtain⟨h5,e5,n5,g5,o5,f5⟩:=iD n4 [aA 0,.aC,.aC];obtain⟨h6,e6,n6,g6,o6⟩:=Ju h5 C [aA (3:Nat),u1,w1];obtain⟨h7,e7,n7,g7,o7⟩:=Ju h6 (C+1) [aA (4:Nat),u2,w2];have g45:h5.get C=bX [aA 0,.aC,.aC]:=by rw[o5 C (by omega)];exact g4
 have g56:h6.get (C+1)=bX [aA 0,.aC,.aC]:=by rw[o6 (C+1) (by omega)];exact g5
 have g67:h7.get C=bX [aA (3:Nat),u1,w1]:=by rw[o7 C (by omega)];exact g6
 have f37:Fr h3 h7:=⟨by omega,λq hq=>by rw[o7 q (by omega),o6 q (by omega),o5 q (by omega),o4 q (by omega)]⟩
 have F07:Fr h h7:=((f1.trans f2).trans f3).trans f37;have G1: ∀hh,Fr h7 hh->GC (λid=>id<h1.next) hh (.agg [aA (3:Nat),u1,w1]) 3 O1 R1 (eQ 3 (· ∈T3)):=λhh f=>gc1.mono ((f3.trans f37).trans f)
 have G2: ∀hh,Fr h7 hh->GC (λid=>id<h2.next) hh (.agg [aA (4:Nat),u2,w2]) 4 O2 R2 (eQ 4 (· ∈C4)):=λhh f=>gc2.mono (f37.trans f)
 have r1: ∀hh,Fr h7 hh->hh.row C 0 3=some [aA (3:Nat),u1,w1]:=λhh f=>bB (by rw[f.get _ (by omega)];exact g67)
 have r2: ∀hh,Fr h7 hh->hh.row (C+1) 0 3=some [aA (4:Nat),u2,w2]:=λhh f=>bB (by rw[f.get _ (by omega)];exact g7)
 have F7:Fr h7 h7:=Fr.refl h7;have p1:=mL h5 C 0 (v:= aA (3:Nat)) (u:=u1) (w:=w1) rfl a1 b1;have p2:=mL h6 (C+1) 0 (v:= aA (4:Nat)) (u:=u2) (w:=w2) rfl a2 b2;simp(disch:=omega)only[go_sem,hC,e4,n4,e5,p1,g45,kA,e6,p2,g56,e7,r1 h7 F7];refine (RY 2 (by omega) [[0,0,1], [0,2,0], [2,0,1]] (by decide+kernel) (G1 h7 F7)).mono ?_;rintro _ h8 ⟨v3,rfl,tv3,f8⟩;have F8:=F7.trans f8;simp(disch:=omega)only[go_sem,r1 h8 F8];refine (Wb (G1 h8 F8)).mono ?_;rintro _ h9 ⟨rfl,f9⟩;have F9:=F8.trans f9;obtain⟨h10,e10,n10,s10,f10⟩:=yO (h:=h9) rfl [0,0,1];have F10:=F9.trans f10;obtain⟨h11,e11,n11,s11,f11⟩:=yO n10 [0,2,0];have F11:=F10.trans f11;obtain⟨h12,e12,n12,s12,f12⟩:=yO n11 [2,0,1];have F12:=F11.trans f12;simp(disch:=omega)only[go_sem,dT,lB,e10,n10,e11,n11,e12];obtain⟨A,hA⟩:=exI h9.next;rw[hA] at n10 n11 n12 s10 s11 s12 ⊢;obtain⟨h13,e13,n13,g13,o13,f13⟩:=iD n12 [.sl A 0 3 (.kn 3),.sl (A+1) 0 3 (.kn 3),.sl (A+1+1) 0 3 (.kn 3)];have F13:=F12.trans f13
 have sw:SR h13 (.sl (A+1+1+1) 0 3 (.kn 3)) [[0,0,1], [0,2,0], [2,0,1]]:=⟨_,SV.all (by rfl) (by omega) g13 _,s10.mono ((f11.trans f12).trans f13),s11.mono (f12.trans f13),s12.mono f13,trivial⟩
 simp(disch:=omega)only[go_sem,HO _ (pN ..) (pN ..) (pN ..),n12,e13];refine (Ca v3 _ _ _ h13 (tv3.mono ((((f9.trans f10).trans f11).trans f12).trans f13)) sw (by decide) (by decide) (by decide) (by decide)).mono ?_;rintro _ h14 ⟨rfl,f14⟩;have F14:=F13.trans f14;rw[decide_eq_true rfl];obtain⟨h15,e15,n15,s15,f15⟩:=yO (h:=h14) rfl [1,1,1];have F15:=F14.trans f15;obtain⟨h16,e16,n16,s16,f16⟩:=yO n15 [1,1,1];have F16:=F15.trans f16;simp(disch:=omega)only[go_sem,dT,r1 h14 F14,lB,e15,n15,e16];refine (MQ _ _ [1,1,1] [1,1,1] [6,6,6] rfl rfl (by decide) (by decide+kernel) (s15.mono f16) s16 (G1 h16 F16)).mono ?_;rintro _ h17 ⟨x1,rfl,tx1,f17⟩;have F17:=F16.trans f17;obtain⟨h18,e18,n18,s18,f18⟩:=yO (h:=h17) rfl [0,1,0];have F18:=F17.trans f18;obtain⟨h19,e19,n19,s19,f19⟩:=yO n18 [0,1,0];have F19:=F18.trans f19;simp(disch:=omega)only[go_sem,dT,r1 h17 F17,lB,e18,n18,e19];refine (MQ _ _ [0,1,0] [0,1,0] [3,0,3] rfl rfl (by decide) (by decide+kernel) (s18.mono f19) s19 (G1 h19 F19)).mono ?_;rintro _ h20 ⟨x2,rfl,tx2,f20⟩;have F20:=F19.trans f20;obtain⟨h21,e21,n21,s21,f21⟩:=yO (h:=h20) rfl [1,0];have F21:=F20.trans f21;obtain⟨h22,e22,n22,s22,f22⟩:=yO n21 [1,0,0];have F22:=F21.trans f22;simp(disch:=omega)only[go_sem,dT,r1 h20 F20,IM,lB,e21,n21,e22];refine (Un _ _ [1,0] [1,0,0] (by decide) (by decide) (s21.mono f22) s22 (G1 h22 F22)).mono ?_;rintro _ h23 ⟨rfl,f23⟩;have F23:=F22.trans f23;obtain⟨h24,e24,n24,s24,f24⟩:=yO (h:=h23) rfl [10000,0,0];have F24:=F23.trans f24;obtain⟨h25,e25,n25,s25,f25⟩:=yO n24 [-10000,0,0];have F25:=F24.trans f25;simp(disch:=omega)only[go_sem,dT,r1 h23 F23,lB,e24,n24,e25];refine (MQ _ _ [10000,0,0] [-10000,0,0] [-100000000,0,0] rfl rfl (by decide) (by decide+kernel) (s24.mono f25) s25 (G1 h25 F25)).mono ?_;rintro _ h26 ⟨x4,rfl,tx4,f26⟩;have F26:=F25.trans f26;obtain⟨h27,e27,n27,s27,f27⟩:=yO (h:=h26) rfl [0,0,10001];have F27:=F26.trans f27;obtain⟨h28,e28,n28,s28,f28⟩:=yO n27 [0,0,0];have F28:=F27.trans f28;simp(disch:=omega)only[go_sem,dT,r1 h26 F26,lB,e27,n27,e28];refine (AR _ _ [0,0,10001] [0,0,0] rfl rfl (by decide) (s27.mono f28) s28 (G1 h28 F28)).mono ?_;rintro _ h29 ⟨rfl,f29⟩;have F29:=F28.trans f29;obtain⟨h30,e30,n30,s30,f30⟩:=yO (h:=h29) rfl [6,6,6];have F30:=F29.trans f30;simp(disch:=omega)only[go_sem,dT,lB,e30];refine (Bj x1 _ [6,6,6] _ h30 (tx1.mono ((((((((((((f18.trans f19).trans f20).trans f21).trans f22).trans f23).trans f24).trans f25).trans f26).trans f27).trans f28).trans f29).trans f30)) s30 (by decide) (by decide)).mono ?_;rintro _ h31 ⟨rfl,f31⟩;have F31:=F30.trans f31;rw[decide_eq_true rfl];obtain⟨h32,e32,n32,s32,f32⟩:=yO (h:=h31) rfl [3,0,3];have F32:=F31.trans f32;simp(disch:=omega)only[go_sem,dT,lB,e32];refine (Bj x2 _ [3,0,3] _ h32 (tx2.mono (((((((((((f21.trans f22).trans f23).trans f24).trans f25).trans f26).trans f27).trans f28).trans f29).trans f30).trans f31).trans f32)) s32 (by decide) (by decide)).mono ?_;rintro _ h33 ⟨rfl,f33⟩;have F33:=F32.trans f33;rw[decide_eq_true rfl];obtain⟨h34,e34,n34,s34,f34⟩:=yO (h:=h33) rfl [-100000000,0,0];have F34:=F33.trans f34;simp(disch:=omega)only[go_sem,dT,lB,e34];refine (Bj x4 _ [-100000000,0,0] _ h34 (tx4.mono (((((((f27.trans f28).trans f29).trans f30).trans f31).trans f32).trans f33).trans f34)) s34 (by decide) (by decide)).mono ?_;rintro _ h35 ⟨rfl,f35⟩;have F35:=F34.trans f35;rw[decide_eq_true rfl];obtain⟨h36,e36,n36,s36,f36⟩:=yO (h:=h35) rfl [1,1];have F36:=F35.trans f36;simp(disch:=omega)only[go_sem,dT,r1 h35 F35,IM,e36];refine (Za _ [1,1] 3 (by decide) (by decide) (by decide+kernel) s36 (G1 h36 F36)).mono ?_;rintro _ h37 ⟨rfl,f37⟩;have F37:=F36.trans f37;obtain⟨h38,e38,n38,s38,f38⟩:=yO (h:=h37) rfl [1];have F38:=F37.trans f38;simp(disch:=omega)only[go_sem,dT,r1 h37 F37,Iy,e38];refine (Za _ [1] 0 (by decide) (by decide) (by decide+kernel) s38 (G1 h38 F38)).mono ?_;rintro _ h39 ⟨rfl,f39⟩;have F39:=F38.trans f39;simp(disch:=omega)only[go_sem,dT,r1 h39 F39];refine (Za _ [] 1 (by decide) (by decide) (by decide+kernel) (SI.aC _) (G1 h39 F39)).mono ?_;rintro _ h40 ⟨rfl,f40⟩;have F40:=F39.trans f40;obtain⟨h41,e41,n41,s41,f41⟩:=yO (h:=h40) rfl [2,2,2];have F41:=F40.trans f41;simp(disch:=omega)only[go_sem,dT,r1 h40 F40,lB,e41];refine (Za _ [2,2,2] 2 (by decide) (by decide) (by decide+kernel) s41 (G1 h41 F41)).mono ?_;rintro _ h42 ⟨rfl,f42⟩;have F42:=F41.trans f42;obtain⟨h43,e43,n43,s43,f43⟩:=yO (h:=h42) rfl [0,0,0,0,0,0];have F43:=F42.trans f43;simp(disch:=omega)only[go_sem,dT,r1 h42 F42,XS,e43];refine (Wm _ [0,0,0,0,0,0] (by decide) (by decide) s43 (G1 h43 F43)).mono ?_;rintro _ h44 ⟨rfl,f44⟩;have F44:=F43.trans f44;obtain⟨h45,e45,n45,s45,f45⟩:=yO (h:=h44) rfl [3];have F45:=F44.trans f45;simp(disch:=omega)only[go_sem,dT,r1 h44 F44,Iy,e45];refine (IZ _ [3] (by decide) (by simp) s45 (G1 h45 F45)).mono ?_;rintro _ h46 ⟨rfl,f46⟩;have F46:=F45.trans f46;simp(disch:=omega)only[go_sem,dT,r1 h46 F46];refine (VG (2) [4,0,1] (by omega) (by decide+kernel) (G1 h46 F46)).mono ?_;rintro _ h47 ⟨y1,rfl,ty1,f47⟩;have F47:=F46.trans f47;simp(disch:=omega)only[go_sem,dT,r1 h47 F47];refine (VG (0) [6,0,0] (by omega) (by decide+kernel) (G1 h47 F47)).mono ?_;rintro _ h48 ⟨y2,rfl,ty2,f48⟩;have F48:=F47.trans f48;simp(disch:=omega)only[go_sem,dT,r1 h48 F48];refine (VG (-1) [1,1,1] (by omega) (by decide+kernel) (G1 h48 F48)).mono ?_;rintro _ h49 ⟨y3,rfl,ty3,f49⟩;have F49:=F48.trans f49;simp(disch:=omega)only[go_sem,dT,r1 h49 F49];refine (WJ (G1 h49 F49)).mono ?_;rintro _ h50 ⟨z1,rfl,tz1,f50⟩;have F50:=F49.trans f50;simp(disch:=omega)only[go_sem,dT,r2 h50 F50];refine (WV (G2 h50 F50)).mono ?_;rintro _ h51 ⟨z2,rfl,tz2,f51⟩;have F51:=F50.trans f51;simp(disch:=omega)only[go_sem,dT];refine (CJ h51).mono ?_;rintro _ h52 ⟨rfl,f52⟩;have F52:=F51.trans f52;obtain⟨h53,e53,n53,s53,f53⟩:=yO (h:=h52) rfl [4,0,1];have F53:=F52.trans f53;simp(disch:=omega)only[go_sem,dT,lB,e53];refine (Bj y1 _ [4,0,1] _ h53 (ty1.mono (((((f48.trans f49).trans f50).trans f51).trans f52).trans f53)) s53 (by decide) (by decide)).mono ?_;rintro _ h54 ⟨rfl,f54⟩;have F54:=F53.trans f54;rw[decide_eq_true rfl];obtain⟨h55,e55,n55,s55,f55⟩:=yO (h:=h54) rfl [6,0,0];have F55:=F54.trans f55;simp(disch:=omega)only[go_sem,dT,lB,e55];refine (Bj y2 _ [6,0,0] _ h55 (ty2.mono ((((((f49.trans f50).trans f51).trans f52).trans f53).trans f54).trans f55)) s55 (by decide) (by decide)).mono ?_;rintro _ h56 ⟨rfl,f56⟩;have F56:=F55.trans f56;rw[decide_eq_true rfl];obtain⟨h57,e57,n57,s57,f57⟩:=yO (h:=h56) rfl [1,1,1];have F57:=F56.trans f57;simp(disch:=omega)only[go_sem,dT,lB,e57];refine (Bj y3 _ [1,1,1] _ h57 (ty3.mono (((((((f50.trans f51).trans f52).trans f53).trans f54).trans f55).trans f56).trans f57)) s57 (by decide) (by decide)).mono ?_;rintro _ h58 ⟨rfl,f58⟩;have F58:=F57.trans f58;rw[decide_eq_true rfl];obtain⟨h59,e59,n59,s59,f59⟩:=yO (h:=h58) rfl [18,0,9];have F59:=F58.trans f59;simp(disch:=omega)only[go_sem,dT,lB,e59];refine (Bj z1 _ [18,0,9] _ h59 (tz1.mono ((((((((f51.trans f52).trans f53).trans f54).trans f55).trans f56).trans f57).trans f58).trans f59)) s59 (by decide) (by decide)).mono ?_;rintro _ h60 ⟨rfl,f60⟩;have F60:=F59.trans f60;rw[decide_eq_true rfl];obtain⟨h61,e61,n61,s61,f61⟩:=yO (h:=h60) rfl [16,0,0,0];have F61:=F60.trans f61;simp(disch:=omega)only[go_sem,dT,Xb,e61];refine (Bj z2 _ [16,0,0,0] _ h61 (tz2.mono (((((((((f52.trans f53).trans f54).trans f55).trans f56).trans f57).trans f58).trans f59).trans f60).trans f61)) s61 (by decide) (by decide)).mono ?_;rintro _ h62 ⟨rfl,f62⟩;have F62:=F61.trans f62;rw[decide_eq_true rfl];simp(disch:=omega)only[go_sem,dT];exact F07.trans F62
end Go.Proofs.YtapfcpkecmmagaaGreat
