/- Texts of the claim. -/
import Derived.Test.YtapfcpkecmmagaaGreatSc5toR6
import Derived.Test.YtapfcpkecmmagaaGreatP4atoSc4
set_option maxHeartbeats 32000000
namespace Go.Proofs.YtapfcpkecmmagaaGreat
open Go Go.Ay Go.Pm
set_option maxRecDepth 100000
set_option maxHeartbeats 32000000
theorem contains_gen (f:Nat)(cs:List V)(vl:V)(l:List Int)(h:H)(p:Int->Bool)(ll:l.length<1000000)(sl:SI h vl l)
  (hf: ∀i,i<l.length-> ∀hh,Fr h hh->Ev T f ([.int .i64 (l.getD i 0)]++cs) hh (λv h'=>v= .bool (p (l.getD i 0))/\Fr hh h')):
  Ev T 57 [vl,.fn f [] cs] h (λv h'=>v= .bool (l.any p)/\Fr h h'):=by
 refine bP c_slices_ContainsFunc_int_int rfl rfl ?_
 simp(disch:=omega)only[go_sem,c_slices_ContainsFunc_int_int,aE]
 refine Ev.mono (Q:=λv h'=> ∃z,v= .int .i64 z/\decide (0<=z)=l.any p/\Fr h h') ?_ ?_
 ·refine bP c_slices_IndexFunc_int_int rfl rfl ?_
  have lv:=sl.lens
  obtain⟨id,off,sh,hid,hc⟩:=sl.open
  simp(disch:=omega)only[go_sem,c_slices_IndexFunc_int_int,aE,lv]
  refine aJ (λk' vars hh=> ∃(i:Nat),(∃g:Nat->V,vars= [vl,.fn f [] cs,g 2,g 3,.int .i64 (l.length:Int),.int .i64 (i:Int),g 6,g 7])/\i<=l.length/\(∀j,j<i->p (l.getD j 0)=false)/\Fr h hh/\k'=l.length-i) l.length
   ⟨0,aA rfl,gK _,λj hj=>by omega,Fr.refl _,rfl⟩ ?_
  rintro k' vars hh ⟨i,⟨g,rfl⟩,hi,pre,F,rfl⟩
  by_cases hlt:(i:Int)<(l.length:Int)
  ·have d1:decide ((i:Int)<(l.length:Int))=true:=decide_eq_true hlt
   have hi':i<l.length:=by omega
   have c1:hh.cell id (off+i)=some (.int .i64 (l.getD i 0)):=by rw[F.cell (hid (by omega)),hc i hi']
   simp(disch:=omega)only[go_sem,d1,sh.ixa,c1]
   refine (hf i hi' hh F).mono ?_
   rintro _ h2 ⟨rfl,f2⟩
   cases he:p (l.getD i 0) with
   |true=>
    simp(disch:=omega)only[go_sem];refine⟨_,rfl,?_,F.trans f2⟩;rw[decide_eq_true (by omega)];symm;exact List.any_eq_true.2 ⟨_,getD_mem hi',he⟩
   |false=>
    simp(disch:=omega)only[go_sem];rw[show (i:Int)+1=((i+1:Nat):Int) from by omega];refine⟨l.length-(i+1),by omega,i+1,aA rfl,by omega,λj hj=>?_,F.trans f2,rfl⟩
    by_cases e:j=i
    ·rw[e];exact he
    ·exact pre j (by omega)
  have d1:decide ((i:Int)<(l.length:Int))=false:=decide_eq_false hlt
  obtain rfl:i=l.length:=by omega
  simp(disch:=omega)only[go_sem,d1]
  refine⟨_,rfl,?_,F⟩
  symm
  rw[decide_eq_false (by omega)]
  refine List.any_eq_false.2 λx hx=>?_
  obtain⟨j,hj,ej⟩:=uH.1 hx
  have:=pre j hj
  rw[List.getD_eq_getElem?_getD,eQ hj] at this
  rw[←ej]
  simpa using this
 rintro _ h2 ⟨z,rfl,hz,f2⟩
 simp(disch:=omega)only[go_sem,hz]
 exact f2
def indL (r i:Nat):List Int:=(List.range r).map λk=>if k=i then 1 else 0
theorem indL_len (r i:Nat):(indL r i).length=r:=by simp [indL]
theorem indL_b (r i:Nat): ∀v∈indL r i, -((1:Nat):Int)<=v/\v<=(1:Nat):=λv hv=>by
 obtain⟨k,_,rfl⟩:=jH.1 hv;split<;>omega
noncomputable def cntL (G:List Nat->Prop)(L:List (List Nat))(K:List Nat)(l:List Nat):List Int:=l.foldl (λc i=>(List.range K.length).map (mlF G L K (indL K.length i) c)) (indL K.length 0)
theorem cntL_take (G:List Nat->Prop)(L:List (List Nat))(K:List Nat)(l:List Nat){k:Nat}(hk:k<l.length):cntL G L K (l.take (k+1))=(List.range K.length).map (mlF G L K (indL K.length (l.getD k 0)) (cntL G L K (l.take k))):=by
 have e:l.take (k+1)=l.take k++ [l.getD k 0]:=by
  rw[List.take_add_one,eQ hk,List.getD_eq_getElem?_getD,eQ hk];rfl
 unfold cntL;rw[e,List.foldl_append];rfl
theorem cntL_len (G:List Nat->Prop)(L:List (List Nat))(K:List Nat)(l:List Nat): ∀k,k<=l.length->(cntL G L K (l.take k)).length=K.length
 |0,_=>by unfold cntL;exact indL_len _ _
 |k+1,h=>by rw[cntL_take G L K l (by omega),jS,List.length_range]
theorem cntL_b (G:List Nat->Prop)(L:List (List Nat))(K:List Nat)(l:List Nat)(hl:L.length<=5040): ∀k,k<=l.length-> ∀v∈cntL G L K (l.take k), -((5040^k:Nat):Int)<=v/\v<=(5040^k:Nat)
 |0,_=>by unfold cntL;exact indL_b _ _
 |k+1,h=>by
  rw[cntL_take G L K l (by omega)];intro v hv;obtain⟨q,_,rfl⟩:=jH.1 hv;have b:=mlF_bound (G:=G) (L:=L) (K:=K) (indL_b K.length (l.getD k 0)) (cntL_b G L K l hl k (by omega)) q;have:L.length*(1*5040^k)<=5040^(k+1):=by rw[Nat.one_mul,Nat.pow_succ,Nat.mul_comm];exact Nat.mul_le_mul_left _ hl
  omega
structure CntE (n:Nat)(G:List Nat->Prop)(L:List (List Nat))(K:List Nat)(D E:Nat)(hh:H):Prop where
 d:DatO n G L K hh D
 g:hh.get E=some (.cells false [.ptr D 0])
 nx:E<hh.next
theorem CntE.mono {n:Nat}{G:List Nat->Prop}{L:List (List Nat)}{K:List Nat}{D E:Nat}{h h':H}(c:CntE n G L K D E h)(f:Fr h h'):CntE n G L K D E h':=⟨c.d.mono f,by rw[f.get _ c.nx];exact c.g,gE c.nx f.next⟩
theorem count1_ok (D E:Nat)(x:Int)(n:Nat)(G:List Nat->Prop)(L:List (List Nat))(K:List Nat)(h:H)(hr:K.length<=64)(c:CntE n G L K D E h):
  Ev T 62 [.int .i64 x,.ptr E 0] h (λv h'=>v= .bool (decide (x<0∨(K.length:Int)<=x))/\Fr h h'):=by
 refine bP c_algebra_Count_1 rfl rfl ?_
 obtain⟨vL,vC,Mn,ln,ks,gD,hD,hMn,sL,sC,al,gMn,kln,lkn⟩:=c.d.ex
 have lvC:=(cls_open (by omega) sC al).1
 by_cases hz:x<0
 ·have d1:decide (x<0)=true:=decide_eq_true hz
  simp(disch:=omega)only[go_sem,c_algebra_Count_1,aE,d1,vY]
  exact⟨by rw[decide_eq_true (.inl hz)],Fr.refl _⟩
 have d1:decide (x<0)=false:=decide_eq_false hz
 simp(disch:=omega)only[go_sem,c_algebra_Count_1,aE,d1,H.aF c.g,H.aF gD,lvC]
 refine⟨?_,Fr.refl _⟩
 congr 1
 rw[decide_eq_decide]
 omega
theorem count2_ok (D E i:Nat)(n:Nat)(G:List Nat->Prop)(L:List (List Nat))(K:List Nat)(h:H)(hr:K.length<=64)(c:CntE n G L K D E h)(hi:i<K.length):
  Ev T 63 [.int .i64 (i:Int),.ptr E 0] h (λv h'=>RowO h.next K.length (λk=>if k=i then 1 else 0) h' v/\Fr h h'):=by
 refine bP c_algebra_Count_2 rfl rfl ?_
 obtain⟨vL,vC,Mn,ln,ks,gD,hD,hMn,sL,sC,al,gMn,kln,lkn⟩:=c.d.ex
 have lvC:=(cls_open (by omega) sC al).1
 obtain⟨S,hS⟩: ∃S,h.next=S:=⟨_,rfl⟩
 obtain⟨h1,e1,n1,g1,o1,f1⟩:=fC hS (rc K.length λ_=> .int .i64 0)
 have pt:=λhh=>bE (vs:=rc K.length λ_=> .int .i64 0) (off:=i) (by rw[cV];exact hi) hh S (.int .i64 1)
 simp(disch:=omega)only[go_sem,c_algebra_Count_2,aE,H.aF c.g,H.aF gD,lvC,mks_zeros h K.length (by omega),hS,e1,g1,pt]
 refine⟨⟨S,rfl,by omega,by show S<h1.next;omega,?_⟩,f1.set (by omega) _⟩
 rw[H.aT,eY]
 congr 2
 refine bH λa _=>?_
 by_cases e:a=i
 ·rw[if_pos e,if_pos e]
 ·rw[if_neg e,if_neg e]
theorem count3_ok (D E Z i:Nat)(vo vk:V)(n:Nat)(G:List Nat->Prop)(L:List (List Nat))(K:List Nat)(y:List Int)(Y:Nat)(h:H)(n7:n<=7)(hG:iL n G)(Ee:cX G L)(ik:IsK n G L K)(hl:L.length<=5040)(hr:K.length<=64)(c:CntE n G L K D E h)(hi:i<K.length)
  (gZ:h.get Z=some (.cells false [.fn 63 [] [.ptr E 0]])) (hZ:Z<h.next) (hy: ∀v∈y, -(Y:Int)<=v/\v<=Y) (hY:Y*5040<=4000000000000000000) (ly:y.length=K.length) (sy:SI h vo y):
  Ev T 65 [vo,vk,.int .i64 (i:Int),.ptr E 0,.ptr Z 0] h (λv h'=>RowO h.next K.length (mlF G L K (indL K.length i) y) h' v/\Fr h h'):=by
 refine bP c_algebra_Count_3 rfl rfl ?_
 have ey:=sy.dI
 simp(disch:=omega)only[go_sem,c_algebra_Count_3,aE,H.aF c.g,H.aF gZ]
 have fb:=(Fr.refl h).bJ (n:=h.next+7) (by omega)
 refine (count2_ok D E i n G L K _ hr (c.mono fb) hi).mono ?_
 rintro v1 h1 ⟨r1,f1⟩
 have F1:=fb.trans f1
 have c1:=c.mono F1
 have e1:=r1.si.dI
 simp(disch:=omega)only[go_sem,H.aF c1.g]
 have si1:=r1.si
 have ei:(List.range K.length).map (λk=>if k=i then (1:Int) else 0)=indL K.length i:=rfl
 rw[ei] at si1
 refine (mul_ok D v1 vo n G L K (indL K.length i) y 1 Y h1 n7 hG Ee ik hl hr c1.d (indL_b _ _) hy (by rw[Nat.one_mul];exact hY) (indL_len _ _) ly si1 (sy.mono F1)).mono ?_
 rintro v2 h2 ⟨⟨S,rfl,bS,nS,gS⟩,f2⟩
 have n1:=F1.next
 simp(disch:=omega)only[go_sem]
 exact⟨⟨S,rfl,by omega,nS,gS⟩,F1.trans f2⟩
theorem cnt_ok {W0:Nat->Prop}(vc vl:V)(l:List Int)(n:Nat)(O:List (List Nat))(R:List (List (List Nat)))(G:List Nat->Prop)(h:H)(ll:l.length<1000000)(sl:SI h vl l)(gc:GC W0 h vc n O R G)(L:List (List Nat))(hL:cU O R n 0 (aW n)=L):
  Ev T 30 [vc,vl] h (λv h'=> ∃K,IsK n G L K/\Fr h h'/\(64<K.length/\v= .tup [.int .i64 0,.int .i64 5]∨K.length<=64/\(5<l.length/\v= .tup [.int .i64 0,.int .i64 4]∨l.length<=5/\((∃x∈l,x<0∨(K.length:Int)<=x)/\v= .tup [.int .i64 0,.int .i64 2]∨ ∃l':List Nat,l=zi l'/\(∀i∈l',i<K.length)/\v= .tup [.int .i64 ((cntL G L K l').getD 0 0),.int .i64 0])))):=by
 have gc0:=gc
 obtain⟨vO,vR,rfl,sO,sR⟩:=gc.ch
 refine bP c_algebra_Count rfl rfl ?_
 have oneO:vO.one=true:=by obtain⟨_,t,_⟩:=sO;exact t.cW.2.1
 have oneR:vR.one=true:=by obtain⟨_,t,_⟩:=sR;exact t.cW.2.1
 have n7:=gc.n7
 have hG:=gc.grp
 obtain⟨Ee,lle⟩:=fQ gc.grp gc.isc
 have ll5:=szF_fact gc
 rw[hL] at Ee lle
 have lvl:=sl.lens
 obtain⟨B,hB⟩: ∃B,h.next=B:=⟨_,rfl⟩
 obtain⟨h1,e1,n1,g1,o1,f1⟩:=fC hB [.int .i64 (n:Int),vO,vR]
 have bx:=dQ h (v:= .int .i64 (n:Int)) (u:=vO) (w:=vR) rfl oneO oneR
 simp(disch:=omega)only[go_sem,c_algebra_Count,aE,bx,hB,e1,bU g1]
 refine (load_ok _ n O R G h1 (gc0.mono f1) L hL).mono ?_
 rintro _ h2 ⟨K,ik,f2,⟨k64,rfl⟩|⟨k64,D,rfl,dat⟩⟩
 ·obtain⟨E,hE⟩: ∃E,h2.next=E:=⟨_,rfl⟩
  obtain⟨h3,e3,n3,g3,o3,f3⟩:=fC hE [.nilp]
  have pt:=λhh=>bE (vs:= [V.nilp]) (off:=0) (by simp) hh E .nilp
  simp(disch:=omega)only[go_sem,hE,e3,gH (show V.nilp.cells= [V.nilp] from rfl) rfl,g3,pt]
  refine bD (λ_=>?_) (λhc=>(hc (by decide)).elim)
  simp(disch:=omega)only[go_sem]
  exact⟨K,ik,((f1.trans f2).trans f3).set (by have:=f2.next;omega) _,.inl ⟨k64,trivial⟩⟩
 obtain⟨E,hE⟩: ∃E,h2.next=E:=⟨_,rfl⟩
 obtain⟨h3,e3,n3,g3,o3,f3⟩:=fC hE [.nilp]
 obtain⟨h4,e4,n4,g4,o4⟩:=uB h3 E [.ptr D 0]
 have pt:dV (some (.cells false [V.nilp])) h3 E 0 [.ptr D 0]=some h4:=by rw[bE (by simp),←e4];rfl
 have f24:Fr h2 h4:=⟨by omega,λq hq=>by rw[o4 q (by omega),o3 q (by omega)]⟩
 have F4:=(f1.trans f2).trans f24
 have ce4:CntE n G L K D E h4:=⟨dat.mono f24,g4,by omega⟩
 simp(disch:=omega)only[go_sem,hE,e3,gH (show (V.ptr D 0).cells= [V.ptr D 0] from rfl) rfl,g3,pt]
 refine bD (λhc=>(hc rfl).elim) (λ_=>?_)
 by_cases h5:(5:Int)<(l.length:Int)
 ·have d1:decide ((5:Int)<(l.length:Int))=true:=decide_eq_true h5
  simp(disch:=omega)only[go_sem,lvl,d1]
  exact⟨K,ik,F4,.inr ⟨k64,.inl ⟨by omega,trivial⟩⟩⟩
 have d1:decide ((5:Int)<(l.length:Int))=false:=decide_eq_false h5
 simp(disch:=omega)only[go_sem,lvl,d1]
 refine (contains_gen 62 [.ptr E 0] vl l h4 (λx=>decide (x<0∨(K.length:Int)<=x)) ll (sl.mono F4) (λi hi hh f=>count1_ok D E _ n G L K hh k64 (ce4.mono f))).mono ?_
 rintro _ h5' ⟨rfl,f5⟩
 have F5:=F4.trans f5
 cases hany:l.any (λx=>decide (x<0∨(K.length:Int)<=x)) with
 |true=>
  simp(disch:=omega)only[go_sem];obtain⟨x,hx,hd⟩:=List.any_eq_true.1 hany;exact⟨K,ik,F5,.inr ⟨k64,.inr ⟨by omega,.inl ⟨⟨x,hx,by simpa using hd⟩,trivial⟩⟩⟩⟩
 |false=>
  have hall: ∀x∈l,0<=x/\x<(K.length:Int):=λx hx=>by
   have:=List.any_eq_false.1 hany x hx;simp only[decide_eq_true_iff] at this;omega
  obtain⟨l',hl'⟩: ∃l':List Nat,l=zi l':=⟨l.map Int.toNat,by
   unfold zi;rw[List.map_map];refine (List.map_id' l).symm.trans (List.map_congr_left λx hx=>?_);have:=hall x hx
   show x=((x.toNat:Nat):Int)
   omega⟩
  have hk': ∀i∈l',i<K.length:=λi hi=>by
   have:=hall (i:Int) (by rw[hl'];exact jH.2 ⟨i,hi,rfl⟩);omega
  have ce5:=ce4.mono f5
  obtain⟨Z,hZ⟩: ∃Z,h5'.next=Z:=⟨_,rfl⟩
  obtain⟨h6,e6,n6,g6,o6,f6⟩:=fC hZ [.nilf];obtain⟨h7,e7,n7',g7,o7⟩:=uB h6 Z [.fn 63 [] [.ptr E 0]];have pt7:dV (some (.cells false [V.nilf])) h6 Z 0 [.fn 63 [] [.ptr E 0]]=some h7:=by rw[bE (by simp),←e7];rfl
  have f57:Fr h5' h7:=⟨by omega,λq hq=>by rw[o7 q (by omega),o6 q (by omega)]⟩
  have ce7:=ce5.mono f57;have F7:=F5.trans f57;have Kpos:0<K.length:=(K_first hG Ee ik).1;simp(disch:=omega)only[go_sem,hZ,e6,gH (show (V.fn 63 [] [.ptr E 0]).cells= [V.fn 63 [] [.ptr E 0]] from rfl) rfl,g6,pt7,H.aF g7];refine (count2_ok D E 0 n G L K h7 k64 ce7 Kpos).mono ?_;rintro v8 h8 ⟨r8,f8⟩;have ce8:=ce7.mono f8;have g8:h8.get Z=some (.cells false [.fn 63 [] [.ptr E 0]]):=by rw[f8.get Z (by omega)];exact g7
  have F8:=F7.trans f8;simp(disch:=omega)only[go_sem];refine (fold_gen 65 [.ptr E 0,.ptr Z 0] vl v8 l h8 ll (λi v hh=>SI hh v (cntL G L K (l'.take i))/\Fr h8 hh) (λi v hh s=>sl.mono (F8.trans s.2)) ⟨?_,Fr.refl _⟩ ?_).mono ?_
  ·exact r8.si
  ·rintro i v hh hi ⟨sv,f⟩
   have hil:i<l'.length:=by rw[hl',aU] at hi;exact hi
   have ei:l.getD i 0=((l'.getD i 0:Nat):Int):=by rw[hl'];exact gd_map (λk:Nat=>(k:Int)) (d:=0) hil
   rw[ei]
   have h4l:5040^i*5040<=4000000000000000000:=by
    have:i<=4:=by omega
    exact Nat.le_trans (Nat.mul_le_mul_right _ (Nat.pow_le_pow_right (by decide) this)) (by decide)
   refine (count3_ok D E Z (l'.getD i 0) v _ n G L K (cntL G L K (l'.take i)) (5040^i) hh n7 hG Ee ik (by omega) k64 (ce8.mono f) (hk' _ (getD_mem hil)) (by rw[f.get Z (by have:=f8.next;omega)];exact g8) (by have:=f8.next;have:=f.next;omega) (cntL_b G L K l' (by omega) i (by omega)) h4l (cntL_len G L K l' i (by omega)) sv).mono ?_;rintro v' h' ⟨r',f'⟩;refine⟨?_,f.trans f'⟩;rw[cntL_take G L K l' hil];exact r'.si
  ·rintro v h9 ⟨sv,f9⟩
   have el:l.length=l'.length:=by rw[hl',aU]
   rw[el,List.take_length] at sv;obtain⟨id,off,sh,hid,hc⟩:=sv.open;have l0:(cntL G L K l').length=K.length:=by have:=cntL_len G L K l' l'.length (eP _);rwa [List.take_length] at this
   rw[l0] at sh hid hc;have c0:h9.cell id off=some (.int .i64 ((cntL G L K l').getD 0 0)):=hc 0 Kpos;simp(disch:=omega)only[go_sem,sh.ixa,c0];exact⟨K,ik,F8.trans f9,.inr ⟨k64,.inr ⟨by omega,.inr ⟨l',hl',hk',rfl⟩⟩⟩⟩
set_option maxHeartbeats 8000000
theorem pinv_ok (u:V)(n:Nat)(a:List Nat)(h:H)(n0:1<=n)(hn:n<=64)(A:aX n a)(hu:SI h u (zi a)):
  Ev T 45 [u] h (λv h'=> ∃w,v= .tup [w,.int .i64 0]/\SI h' w (zi (bX a))/\Fr h h'):=by
 refine bP c_perm_Inv rfl rfl ?_
 have wu:=SV.cW hu
 obtain⟨h1,e1,n1,g1,o1,f1⟩:=fC (h:=h) rfl [u]
 simp(disch:=omega)only[go_sem,c_perm_Inv,aE,dC h (z:= .aB) wu.1 wu.2.1,e1]
 refine (first_ok _ [u] n h1 n0 hn (by simp) (SV.one (by omega) g1 (.kn 1)) (λi hi=>⟨a,A,?_⟩)).mono ?_
 ·have:i=0:=by simpa using hi
  subst this
  exact hu.mono f1
 rintro _ h2 ⟨rfl,f2⟩
 have f02:=f1.trans f2
 simp(disch:=omega)only[go_sem]
 refine bD (λhc=>(hc rfl).elim) (λ_=>?_)
 simp(disch:=omega)only[go_sem]
 refine (inv_gen (rfl:T 79=some c_perm_inv) u n a h2 (by omega) A (hu.mono f02)).mono ?_
 rintro w h3 np
 simp(disch:=omega)only[go_sem]
 exact⟨w,rfl,(np.pv (W:=λ_=>False) id).si,f02.trans np.fr⟩
theorem ppower_ok (u w:V)(n e:Nat)(a:List Nat)(h:H)(hn:n<=1000)(he:e<1000000)(A:aX n a)(hu:SI h u (zi a))(hw:SI h w (zi (aW n))):
  Ev T 70 [u,w,.int .i64 (e:Int),.fn 72 [] []] h (λv h'=>SI h' v (zi (pw n a e))/\Fr h h'):=by
 refine bP c_perm_power_api_Perm rfl rfl ?_
 simp(disch:=omega)only[go_sem,c_perm_power_api_Perm,aE]
 refine aJ (λk' vs hh=> ∃(e':Nat) (vx va:V) (x b:List Nat),(∃g:Nat->V,vs= [vx,va,.int .i64 (e':Int),.fn 72 [] [],g 4,g 5,g 6])/\e'<1000000/\aX n x/\aX n b/\SI hh vx (zi x)/\SI hh va (zi b)/\aQ b (pw n x e')=pw n a e/\Fr h hh/\k'=e') e
  ⟨e,u,w,a,aW n,aA rfl,he,A,aX.one n,hu,hw,bW (aY A e),Fr.refl h,rfl⟩ ?_
 rintro k' vars h1 ⟨e',vx,va,x,b,⟨g,rfl⟩,hl,X,B,sx,sb,heq,F,hk⟩
 subst hk
 by_cases hlt:(0:Int)<(k':Int)
 case neg=>
  have d1:decide ((0:Int)<(k':Int))=false:=decide_eq_false hlt;obtain rfl:k'=0:=by omega
  simp(disch:=omega)only[go_sem,d1];have h2:aQ b (aW n)=pw n a e:=heq;rw[bB B] at h2;rw[←h2];exact⟨sb,F⟩
 have d1:decide ((0:Int)<(k':Int))=true:=decide_eq_true hlt
 have hpx: ∀k,aQ x (pw n x k)=pw n x (k+1):=λk=>by
  have h2:=fZ X 1 k;rw[pw_one' X] at h2;rw[←h2,Nat.add_comm]
 have sq:=pw_sq X (k'/2)
 have tm:(k':Int).tmod 2=((k'%2:Nat):Int):=tmod_nat k' 2
 have td:(k':Int).tdiv 2=((k'/2:Nat):Int):=rfl
 rcases Nat.mod_two_eq_zero_or_one k' with hm|hm
 ·have d2:decide (((0:Nat):Int)=1)=false:=rfl
  rw[hm] at tm
  simp(disch:=omega)only[go_sem,d1,tm,d2]
  refine (mul_gen (rfl:T 72=some c_perm_mul) vx vx x x h1 (by rw[X.len];omega) sx sx (λj hj=>by rw[X.len];exact X.dU (by rw[←X.len];exact hj))).mono ?_
  rintro v1 h2 np
  simp(disch:=omega)only[go_sem,td]
  refine⟨k'/2,by omega,k'/2,v1,va,aQ x x,b,aA rfl,by omega,X.mul X,B,(np.pv (W:=λ_=>False) id).si,sb.mono np.fr,?_,F.trans np.fr,rfl⟩
  rw[sq,show 2*(k'/2)=k' by omega];exact heq
 ·have d2:decide (((1:Nat):Int)=1)=true:=rfl
  rw[hm] at tm
  simp(disch:=omega)only[go_sem,d1,tm,d2]
  refine (mul_gen (rfl:T 72=some c_perm_mul) va vx b x h1 (by rw[B.len];omega) sb sx (λj hj=>by rw[X.len];exact B.dU (by rw[←B.len];exact hj))).mono ?_
  rintro v0 h2 np0
  simp(disch:=omega)only[go_sem]
  refine (mul_gen (rfl:T 72=some c_perm_mul) vx vx x x h2 (by rw[X.len];omega) (sx.mono np0.fr) (sx.mono np0.fr) (λj hj=>by rw[X.len];exact X.dU (by rw[←X.len];exact hj))).mono ?_
  rintro v1 h3 np
  simp(disch:=omega)only[go_sem,td]
  refine⟨k'/2,by omega,k'/2,v1,v0,aQ x x,aQ b x,aA rfl,by omega,X.mul X,B.mul X,(np.pv (W:=λ_=>False) id).si,(np0.pv (W:=λ_=>False) id).si.mono np.fr,?_,(F.trans np0.fr).trans np.fr,rfl⟩
  rw[sq,aI B X (aY X _),hpx,show 2*(k'/2)+1=k' by omega];exact heq
theorem ppow_ok (u:V)(z:Int)(n:Nat)(a:List Nat)(h:H)(hz: -9223372036854775808<=z/\z<9223372036854775808)(n0:1<=n)(hn:n<=7)(A:aX n a)(hu:SI h u (zi a)):
  Ev T 39 [u,.int .i64 z] h (λv h'=> ∃w,v= .tup [w,.int .i64 0]/\SI h' w (zi (zp n a z))/\Fr h h'):=by
 refine bP c_perm_Pow rfl rfl ?_
 have lu:=hu.lens
 rw[aU,A.len] at lu
 simp(disch:=omega)only[go_sem,c_perm_Pow,aE]
 refine (order_ok u n a h n0 hn A hu).mono ?_
 rintro _ h1 ⟨rfl,f1⟩
 have op:=kA (n:=n) A
 obtain⟨o,ho⟩: ∃o,cM a n=o:=⟨_,rfl⟩
 rw[ho] at op ⊢
 have o420:o<=420:=Nat.le_of_dvd (by decide) (by rw[←ho];exact ordP_420 A hn)
 have hb:=tmod_bd z (n:=(o:Int)) (by omega)
 have hf:=tmod_fix z (n:=(o:Int)) (by omega)
 have hm0:=Int.emod_nonneg z (show (o:Int)≠0 by omega)
 have hm1:=Int.emod_lt_of_pos z (show (0:Int)<o by omega)
 obtain⟨m,hm⟩: ∃m:Nat,z%(o:Int)=m:=⟨(z%(o:Int)).toNat,by omega⟩
 have ez:zp n a z=pw n a m:=by unfold zp;rw[ho,hm];rfl
 rw[hm] at hf hm1
 obtain⟨q,hq⟩: ∃q,z.tmod (o:Int)=q:=⟨_,rfl⟩
 rw[hq] at hb hf
 simp(disch:=omega)only[go_sem]
 refine bD (λhc=>(hc rfl).elim) (λ_=>?_)
 have fin: ∀hh,Fr h1 hh->Ev T 71 [.int .i64 (n:Int)] hh (λv h'=> ∃w,SI h' v (zi (aW n))/\w=v/\Fr h h'):=λhh f=>by
  refine (one_gen (rfl:T 71=some c_perm_one) n hh (by omega)).mono ?_;rintro w h3 np;exact⟨w,(np.pv (W:=λ_=>False) id).si,rfl,(f1.trans f).trans np.fr⟩
 by_cases hneg:q<0
 ·have d1:decide (q<0)=true:=decide_eq_true hneg
  rw[if_pos hneg] at hf
  simp(disch:=omega)only[go_sem,hq,d1,lu,hf]
  refine (fin h1 (Fr.refl _)).mono ?_
  rintro _ h2 ⟨w,sw,rfl,f2⟩
  simp(disch:=omega)only[go_sem]
  refine (ppower_ok u w n m a h2 (by omega) (by omega) A (hu.mono f2) sw).mono ?_
  rintro v h3 ⟨s3,f3⟩
  simp(disch:=omega)only[go_sem]
  exact⟨v,rfl,by rw[ez];exact s3,f2.trans f3⟩
 ·have d1:decide (q<0)=false:=decide_eq_false hneg
  rw[if_neg hneg] at hf
  subst hf
  simp(disch:=omega)only[go_sem,hq,d1,lu]
  refine (fin h1 (Fr.refl _)).mono ?_
  rintro _ h2 ⟨w,sw,rfl,f2⟩
  simp(disch:=omega)only[go_sem]
  refine (ppower_ok u w n m a h2 (by omega) (by omega) A (hu.mono f2) sw).mono ?_
  rintro v h3 ⟨s3,f3⟩
  simp(disch:=omega)only[go_sem]
  exact⟨v,rfl,by rw[ez];exact s3,f2.trans f3⟩
set_option maxHeartbeats 32000000
noncomputable def ivK (G:List Nat->Prop)(L:List (List Nat))(K:List Nat)(i:Nat):Nat:=numC G L K (L.idxOf (bX (L.getD (K.getD i 0) [])))
noncomputable def comS (G:List Nat->Prop)(L:List (List Nat))(K:List Nat)(k:Nat):Nat->Nat
 |0=>0
 |i+1=>comS G L K k i+cstK G L K (ivK G L K i) i k*(L.length/(orbC G L (K.getD i 0)).length)
theorem cstK_le {G:List Nat->Prop}{L:List (List Nat)}{K:List Nat}(i j k:Nat):cstK G L K i j k<=L.length:=cstA_le ..
theorem comS_le {G:List Nat->Prop}{L:List (List Nat)}{K:List Nat}(k:Nat): ∀i,comS G L K k i<=i*(L.length*L.length)
 |0=>gK _
 |i+1=>by
  rw[comS,Nat.succ_mul];exact Nat.add_le_add (comS_le k i) (Nat.mul_le_mul (cstK_le ..) (Nat.div_le_self _ _))
theorem comm_ok {W0:Nat->Prop}(vc:V)(n:Nat)(O:List (List Nat))(R:List (List (List Nat)))(G:List Nat->Prop)(h:H)(gc:GC W0 h vc n O R G)(L:List (List Nat))(hL:cU O R n 0 (aW n)=L):
  Ev T 14 [vc] h (λv h'=> ∃K,IsK n G L K/\Fr h h'/\(64<K.length/\v= .tup [.aB,.int .i64 5]∨K.length<=64/\ ∃vl,v= .tup [vl,.int .i64 0]/\SI h' vl (zi ((List.range K.length).map λk=>comS G L K k K.length)))):=by
 have gc0:=gc
 obtain⟨vO,vR,rfl,sO,sR⟩:=gc.ch
 refine bP c_algebra_Commutators rfl rfl ?_
 have oneO:vO.one=true:=by obtain⟨_,t,_⟩:=sO;exact t.cW.2.1
 have oneR:vR.one=true:=by obtain⟨_,t,_⟩:=sR;exact t.cW.2.1
 have n7:=gc.n7
 have n0:=gc.n0
 have hG:=gc.grp
 obtain⟨E,ll⟩:=fQ gc.grp gc.isc
 have ll5:=szF_fact gc
 rw[hL] at E ll
 obtain⟨B,hB⟩: ∃B,h.next=B:=⟨_,rfl⟩
 obtain⟨h1,e1,n1,g1,o1,f1⟩:=fC hB [.int .i64 (n:Int),vO,vR]
 have bx:=dQ h (v:= .int .i64 (n:Int)) (u:=vO) (w:=vR) rfl oneO oneR
 simp(disch:=omega)only[go_sem,c_algebra_Commutators,aE,bx,hB,e1,bU g1]
 refine (load_ok _ n O R G h1 (gc0.mono f1) L hL).mono ?_
 rintro _ h2 ⟨K,ik,f2,⟨k64,rfl⟩|⟨k64,D,rfl,dat⟩⟩
 ·simp(disch:=omega)only[go_sem]
  refine bD (λ_=>?_) (λhc=>(hc (by decide)).elim)
  simp(disch:=omega)only[go_sem]
  exact⟨K,ik,f1.trans f2,.inl ⟨k64,trivial⟩⟩
 simp(disch:=omega)only[go_sem]
 refine bD (λhc=>(hc rfl).elim) (λ_=>?_)
 have F2:=f1.trans f2
 obtain⟨vL,vC,Mn,ln,ks,gD,hD,hMn,sL,sC,al,gMn,kln,lkn⟩:=dat.ex
 obtain⟨r,hrr⟩: ∃r,K.length=r:=⟨_,rfl⟩
 obtain⟨lvC,eC,idC,offC,shC,cC⟩:=cls_open (by omega) sC al
 obtain⟨lvL,eL,_⟩:=sp_open sL
 rw[hrr] at lvC shC cC k64
 have hl:L.length<=5040:=by omega
 obtain⟨S,hS⟩: ∃S,h2.next=S:=⟨_,rfl⟩
 obtain⟨h3,e3,n3,g3,o3,f3⟩:=fC hS (rc r λ_=> .int .i64 0)
 have gD': ∀hh,Fr h2 hh->hh.get D=some (.cells false [vL,vC,.mp Mn]):=λhh f=>by rw[f.get _ hD];exact gD
 simp(disch:=omega)only[go_sem,H.aF gD,lvC,mks_zeros h2 r (by omega),hS,e3,H.aF (gD' h3 f3)]
 refine aJ (λk' vars hh=> ∃(i:Nat),(∃g:Nat->V,vars= [g 0,g 1,g 2,g 3,.ptr D 0,g 5,.sl S 0 r (.kn r),g 7,g 8,g 9,g 10,g 11,g 12,g 13,vC,.int .i64 (r:Int),.int .i64 (i:Int),g 17,g 18,g 19,g 20,g 21])/\i<=r/\hh.get S=some (.cells false (rc r λk=> .int .i64 ((comS G L K k i:Nat):Int)))/\Fr h2 hh/\S<hh.next/\k'=r-i) r
  ⟨0,aA rfl,gK _,g3,f3,by omega,rfl⟩ ?_
 rintro k' vars h4 ⟨i,⟨g,rfl⟩,hi,gS,F,nS,rfl⟩
 by_cases hlt:(i:Int)<(r:Int)
 case neg=>
  have d1:decide ((i:Int)<(r:Int))=false:=decide_eq_false hlt;obtain rfl:i=r:=by omega
  simp(disch:=omega)only[go_sem,d1];refine⟨K,ik,F2.trans F,.inr ⟨by omega,_,rfl,?_⟩⟩
  have e:(rc i λk=>V.int .i64 ((comS G L K k i:Nat):Int))=ints (zi ((List.range i).map λk=>comS G L K k i)):=by
   simp [rc,ints,zi,Function.comp_def]
  rw[e] at gS;rw[hrr];exact SV.all (by rw[aN,aU,jS,List.length_range,Nat.mul_one]) nS gS _
 have d1:decide ((i:Int)<(r:Int))=true:=decide_eq_true hlt
 have hir:i<r:=by omega
 obtain⟨bC,rep,cr,cz,rw3,sr⟩:=cC i hir
 have hKi:K.getD i 0<L.length:=ik.lt (getD_mem (by omega))
 obtain⟨z,hz⟩: ∃z,L.getD (K.getD i 0) []=z:=⟨_,rfl⟩
 obtain⟨c,hc⟩: ∃c,(orbC G L (K.getD i 0)).length=c:=⟨_,rfl⟩
 rw[hz] at sr rw3
 rw[hc] at rw3
 have c0:0<c:=by rw[←hc];exact List.length_pos_of_mem (orbC_mem.2 ⟨hKi,cR_refl hG E hKi⟩)
 have Z:aX n z:=by rw[←hz];exact el_isP hG E hKi
 have hzG:G z:=by rw[←hz];exact el_mem E hKi
 have w3:=sr.cW
 have r4:h4.row idC (offC+i*3) 3=some [rep,.int .i64 (cM z n:Int),.int .i64 (c:Int)]:=by
  have:h4.row idC (offC+i*3) 3=h2.row idC (offC+i*3) 3:=by unfold H.row;rw[F.get _ bC]
  rw[this];exact rw3
 obtain⟨A,hA⟩: ∃A,h4.next=A:=⟨_,rfl⟩
 obtain⟨h5,e5,n5,g5,o5,f5⟩:=fC hA [.aB,.int .i64 0,.int .i64 0]
 obtain⟨h6,e6,n6,g6,o6⟩:=uB h5 A [rep,.int .i64 (cM z n:Int),.int .i64 (c:Int)]
 have f46:Fr h4 h6:=⟨by omega,λq hq=>by rw[o6 q (by omega),o5 q (by omega)]⟩
 have F6:=F.trans f46
 simp(disch:=omega)only[go_sem,d1,shC.ixa,r4,hA,e5,iM h5 A 0 (v:=rep) (u:= .int .i64 (cM z n:Int)) (w:= .int .i64 (c:Int)) w3.2.1 rfl rfl,g5,fH,e6,H.aF g6]
 refine (pinv_ok rep n z h6 n0 (by omega) Z (sr.mono F6)).mono ?_
 rintro _ h7 ⟨w,rfl,sw,f7⟩
 have F7:=F6.trans f7
 have g7:h7.get A=some (.cells false [rep,.int .i64 (cM z n:Int),.int .i64 (c:Int)]):=by rw[f7.get _ (by omega)];exact g6
 have lvL7:dB vL=some (.int .i64 (L.length:Int)):=lvL
 have td:(L.length:Int).tdiv (c:Int)=((L.length/c:Nat):Int):=rfl
 have hdv:L.length/c<=5040:=Nat.le_trans (Nat.div_le_self _ _) hl
 have dvl:L.length/c<=L.length:=Nat.div_le_self _ _
 obtain⟨dv,hdv'⟩: ∃dv,L.length/c=dv:=⟨_,rfl⟩
 rw[hdv'] at td hdv dvl
 have wr:IntKind.i64.wrap (dv:Int)=(dv:Int):=Hf (by omega) (by omega)
 simp(disch:=omega)only[go_sem,H.aF (gD' h7 F7),H.aF g7,lvL,td,wr]
 have fb:=(Fr.refl h7).bJ (n:=h7.next+9) (by omega)
 have hGi:G (bX z):=hG.inv hzG
 refine (class_ok D w n G L K (bX z) _ (by omega) (dat.mono (F7.trans fb)) Z.inv ((E.mem _).2 hGi) (sw.mono fb)).mono ?_
 rintro _ h8 ⟨rfl,f8⟩
 have F8:=F7.trans (fb.trans f8)
 have eiv:numC G L K (L.idxOf (bX z))=ivK G L K i:=by unfold ivK;rw[hz]
 rw[eiv]
 simp(disch:=omega)only[go_sem]
 refine (consts_ok D (ivK G L K i) n G L K h8 n7 hG E ik hl (by omega) (dat.mono F8)).mono ?_
 rintro vm h9 ⟨⟨Q,ρ,rfl,bQ,nQ,gQ,rows⟩,f9⟩
 rw[hrr] at gQ rows
 obtain⟨rq,rn,rg⟩:=rows i hir
 have F9:=F8.trans f9
 have n46:=f46.next
 have n7':=f7.next
 have n8:=(fb.trans f8).next
 have n9:=f9.next
 have gS9:h9.get S=some (.cells false (rc r λk=> .int .i64 ((comS G L K k i:Nat):Int))):=by
  rw[f9.get S (by omega),(fb.trans f8).get S (by omega),f7.get S (by omega),f46.get S nS];exact gS
 have cQ:h9.cell Q i=some (.sl (ρ i) 0 r (.kn r)):=by rw[H.aF gQ,jC hir]
 rw[hrr]
 simp(disch:=omega)only[go_sem,cQ]
 have hLL:L.length*L.length<=5040*5040:=Nat.mul_le_mul hl hl
 refine aJ (λk' vars hh=> ∃(k:Nat),(∃g:Nat->V,vars= [g 0,g 1,g 2,g 3,.ptr D 0,g 5,.sl S 0 r (.kn r),g 7,g 8,g 9,.int .i64 (dv:Int),g 11,g 12,g 13,vC,.int .i64 (r:Int),.int .i64 (i:Int),g 17,.sl (ρ i) 0 r (.kn r),.int .i64 (r:Int),.int .i64 (k:Int),g 21])/\k<=r/\hh.get S=some (.cells false (rc r λa=> .int .i64 ((comS G L K a (if a<k then i+1 else i):Nat):Int)))/\Fx (· =S) h9 hh/\k'=r-k) r
  ⟨0,aA rfl,gK _,gS9,Fx.refl _ _,rfl⟩ ?_
 rintro k' vars hc' ⟨k,⟨g',rfl⟩,hk,gSc,Fc,rfl⟩
 have nc:=Fc.next
 have F2c:Fr h2 hc':=⟨by have:=F9.next;omega,λq hq=>by rw[Fc.get q (by have:=F9.next;omega) (by show q≠S;omega)];exact F9.get q hq⟩
 by_cases hlk:(k:Int)<(r:Int)
 case neg=>
  have d3:decide ((k:Int)<(r:Int))=false:=decide_eq_false hlk;obtain rfl:k=r:=by omega
  simp(disch:=omega)only[go_sem,d3];rw[show (i:Int)+1=((i+1:Nat):Int) from by omega];refine⟨k-(i+1),by omega,i+1,aA rfl,by omega,?_,F2c,by omega,rfl⟩;rw[gSc];congr 2;exact bH λa ha=>by rw[if_pos ha]
 have d3:decide ((k:Int)<(r:Int))=true:=decide_eq_true hlk
 have hkr:k<r:=by omega
 have cR:hc'.cell (ρ i) k=some (.int .i64 ((cstK G L K (ivK G L K i) i k:Nat):Int)):=by
  rw[Fc.cell rn (by show ρ i≠S;omega),H.aF rg,jC hkr]
 have cS:hc'.cell S k=some (.int .i64 ((comS G L K k i:Nat):Int)):=by
  rw[H.aF gSc,jC hkr,if_neg (by omega)]
 have b1:=comS_le (G:=G) (L:=L) (K:=K) k i
 have b1':i*(L.length*L.length)<=64*(5040*5040):=Nat.mul_le_mul (by omega) hLL
 have b2:cstK G L K (ivK G L K i) i k*dv<=5040*5040:=Nat.mul_le_mul (Nat.le_trans (cstK_le ..) hl) hdv
 have cs:comS G L K k (i+1)=comS G L K k i+cstK G L K (ivK G L K i) i k*dv:=by rw[comS,hc,hdv']
 obtain⟨u,hu⟩: ∃u,cstK G L K (ivK G L K i) i k=u:=⟨_,rfl⟩
 rw[hu] at cR b2 cs
 obtain⟨s,hs⟩: ∃s,comS G L K k i=s:=⟨_,rfl⟩
 rw[hs] at cS b1 cs
 have em:(u:Int)*(dv:Int)=((u*dv:Nat):Int):=rfl
 obtain⟨w2,hw⟩: ∃w,u*dv=w:=⟨_,rfl⟩
 rw[hw] at b2 cs em
 have ea:(s:Int)+(w2:Int)=((s+w2:Nat):Int):=rfl
 have pS:=λhh=>bE (vs:=rc r λa=> .int .i64 ((comS G L K a (if a<k then i+1 else i):Nat):Int)) (off:=k) (by rw[cV];exact hkr) hh S (.int .i64 ((s+w2:Nat):Int))
 simp(disch:=omega)only[go_sem,d3,cR,cS,em,ea,gSc,pS]
 rw[show (k:Int)+1=((k+1:Nat):Int) from by omega]
 refine⟨r-(k+1),by omega,k+1,aA rfl,by omega,?_,Fc.trans (Fx.set _ (W:=(· =S)) rfl _) (λ_ _ h=>h),rfl⟩
 rw[eY]
 congr 2
 refine bH λa ha=>?_
 by_cases e:a=k
 ·rw[if_pos e,if_pos (by omega),e,cs]
 ·rw[if_neg e]
  by_cases e2:a<k
  ·rw[if_pos e2,if_pos (by omega)]
  ·rw[if_neg e2,if_neg (by omega)]
section
variable {n:Nat} {G:List Nat->Prop} {L:List (List Nat)} {K:List Nat} (hG:iL n G) (E:cX G L) (ik:IsK n G L K)
include hG E ik
theorem one_rep:L.getD (K.getD 0 0) []=aW n:=by
 rw[(K_first hG E ik).2];exact (el_first hG E).2
theorem cl_inv {x:List Nat}(hx:G x):clE G L K (bX x)=ivK G L K (clE G L K x):=by
 have hk:=cl_lt hG E ik hx;have hr:=el_mem E (ik.lt (getD_mem (d:=0) hk));obtain⟨c,hc,e⟩:=(cl_same hG E ik hr hx).1 (cl_rep hG E ik hk);show _=clE G L K (bX (L.getD (K.getD (clE G L K x) 0) []));generalize clE G L K x=k at*;rw[←e,←conj_invP (hG.isP hr) (hG.isP hc),cl_conj hG E ik (hG.inv hr) hc]
theorem cst_zero {i a:Nat}(hi:i<K.length):((cstK G L K i a 0:Nat):Int)=if a=ivK G L K i then ((szK G L K i:Nat):Int) else 0:=by
 rw[cst_nn E,one_rep hG E ik];unfold nnE
 by_cases h:a=ivK G L K i
 ·rw[if_pos h,sz_gs hG E ik hi]
  refine gs_congr λx hx=>?_
  have hx':=(E.mem x).1 hx;rw[bB (hG.isP hx').inv,cl_inv hG E ik hx']
  by_cases e:clE G L K x=i
  ·rw[if_pos ⟨e,by rw[e,h]⟩,if_pos e]
  ·rw[if_neg (λh=>e h.1),if_neg e]
 ·rw[if_neg h,gs_congr (g:=λ_=>0) λx hx=>?_,gs_nul]
  have hx':=(E.mem x).1 hx;rw[bB (hG.isP hx').inv,cl_inv hG E ik hx'];rw[if_neg];rintro⟨e1,e2⟩;rw[e1] at e2;exact h e2.symm
end
section
variable {n:Nat} {G:List Nat->Prop} {L:List (List Nat)} {K:List Nat} (hG:iL n G) (E:cX G L) (ik:IsK n G L K)
include hG E ik
omit hG E ik in
theorem gs_filter (p:List Nat->Prop)[DecidablePred p]: ∀l:List (List Nat),(gs l λx=>if p x then 1 else 0)=((l.filter λx=>decide (p x)).length:Nat)
 | []=>rfl
 |a::l=>by
  show (if p a then 1 else 0)+gs l _=_;rw[gs_filter p l]
  by_cases h:p a
  ·rw[if_pos h,List.filter_cons_of_pos (by simpa using h),List.length_cons];omega
  ·rw[if_neg h,List.filter_cons_of_neg (by simpa using h)];omega
theorem iv_iv {x:List Nat}(hx:G x){i:Nat}(hi:i<K.length):clE G L K (bX x)=i↔clE G L K x=ivK G L K i:=by
 have X:=hG.isP hx;constructor
 ·rintro rfl
  have:=cl_inv hG E ik (hG.inv hx);rwa [lM X] at this
 ·intro h
  obtain⟨y,hy,rfl⟩: ∃y,G y/\clE G L K y=i:=⟨_,el_mem E (ik.lt (getD_mem (d:=0) hi)),cl_rep hG E ik hi⟩
  rw[←cl_inv hG E ik hy] at h;obtain⟨c,hc,e⟩:=(cl_same hG E ik hx (hG.inv hy)).1 h;have C:=hG.isP hc;refine ((cl_same hG E ik (hG.inv hx) hy).2 ⟨c,hc,?_⟩);rw[conj_invP X C,e,lM (hG.isP hy)]
omit hG E ik in
theorem comS_sm (k:Nat): ∀r,((comS G L K k r:Nat):Int)=sm r λi=>((cstK G L K (ivK G L K i) i k:Nat):Int)*((L.length/szK G L K i:Nat):Int)
 |0=>rfl
 |r+1=>by rw[dS,←comS_sm k r,comS,Int.natCast_add,Int.natCast_mul];rfl
end
section
variable {x:List Nat}
theorem nodup_map {α β:Type}{l:List α}{φ:α->β}(nd:l.Nodup)(h: ∀a∈l,∀b∈l,φ a=φ b->a=b):(l.map φ).Nodup:=by
 rw[List.nodup_iff_pairwise_ne,List.pairwise_map];exact (List.nodup_iff_pairwise_ne.1 nd).imp_of_mem λha hb hne e=>hne (h _ ha _ hb e)
theorem pw_inj_le {n:Nat}(X:aX n x){i j:Nat}(hj:j<cM x n)(hij:i<=j)(e:pw n x i=pw n x j):i=j:=by
 obtain⟨d,rfl⟩: ∃d,j=i+d:=⟨j-i,by omega⟩
 rw[fZ X] at e
 have h:pw n x d=aW n:=by
  refine fF (aY X d) (aX.one n) (aY X i) ?_;rw[bB (aY X i)];exact e.symm
 have:=(bL X d).2 h;rcases Nat.eq_zero_or_pos d with h0|h0
 ·omega
 ·have:=Nat.le_of_dvd h0 this
  omega
theorem pw_inj {n:Nat}(X:aX n x){i j:Nat}(hi:i<cM x n)(hj:j<cM x n)(e:pw n x i=pw n x j):i=j:=by
 rcases Nat.le_total i j with h|h
 ·exact pw_inj_le X hj h e
 ·exact (pw_inj_le X hi h e.symm).symm
theorem sum_split {α:Type}(g:α->Nat)(p:α->Bool): ∀A:List α,(A.map g).sum=((A.filter p).map g).sum+((A.filter λx=>!p x).map g).sum
 | []=>rfl
 |a::A=>by
  have ih:=sum_split g p A;cases h:p a<;>simp [List.filter_cons,h,ih]<;>omega
theorem part_dvd {α:Type}(d:Nat)(R:α->α->Bool)(g:α->Nat):
  ∀(n:Nat) (A:List α),A.length<=n->(∀x∈A,R x x=true)->(∀x∈A,∀y∈A,R x y=true->R y x=true)->(∀x∈A,∀y∈A,∀z∈A,R x y=true->R y z=true->R x z=true)->(∀x∈A,d∣((A.filter (R x)).map g).sum)->d∣(A.map g).sum
 |_, [],_,_,_,_,_=>Nat.dvd_zero d
 |0,a::A,hn,_,_,_,_=>by simp at hn
 |n+1,a::A,hn,refl,symm,trans,h=>by
  rw[sum_split g (R a)];have sub: ∀{x},x∈(a::A).filter (λy=>!R a y)->x∈a::A:=λhx=>(jY.1 hx).1
  refine Nat.dvd_add (h a (by simp)) (part_dvd d R g n _ ?_ (λx hx=>refl x (sub hx)) (λx hx y hy=>symm x (sub hx) y (sub hy)) (λx hx y hy z hz=>trans x (sub hx) y (sub hy) z (sub hz)) ?_)
  ·have:R a a=true:=refl a (by simp)
   rw[List.filter_cons_of_neg (by simp [this])];have:=List.length_filter_le (λx=>!R a x) A;simp only[List.length_cons] at hn;omega
  ·intro x hx
   obtain⟨h1,h2⟩:=jY.1 hx
   have e:((a::A).filter λy=>!R a y).filter (R x)=(a::A).filter (R x):=by
    rw[List.filter_filter];refine List.filter_congr λy hy=>?_
    cases hxy:R x y with
    |false=>simp
    |true=>
     have:R a y=false:=by
      cases hay:R a y with
      |false=>rfl
      |true=>
       have:=trans a (by simp) y hy x h1 hay (symm x h1 y hy hxy);rw[this] at h2;cases h2
     simp [this]
   rw[e];exact h x h1
theorem sum_ones {α:Type}: ∀A:List α,(A.map λ_=>1).sum=A.length
 | []=>rfl
 |a::A=>by rw[List.map_cons,List.sum_cons,sum_ones A,List.length_cons,Nat.add_comm]
section
variable {n:Nat} {G:List Nat->Prop} {L:List (List Nat)} (hG:iL n G) (E:cX G L)
include hG E
theorem ord_dvd (hx:G x):cM x n∣L.length:=by
 have X:=hG.isP hx;have o0:=kA X
 have inj: ∀a,aX n a-> ∀i j,i<cM x n->j<cM x n->aQ a (pw n x i)=aQ a (pw n x j)->i=j:=λa A i j hi hj e=>by
  have e2:=fF (aY X i) (aY X j) A e;exact pw_inj X hi hj e2
 rw[←sum_ones L];refine part_dvd (cM x n) (λa b=>(List.range (cM x n)).any λi=>decide (b=aQ a (pw n x i))) (λ_=>1) L.length L (eP _) ?_ ?_ ?_ ?_
 ·intro a ha
  have A:=hG.isP ((E.mem a).1 ha);exact List.any_eq_true.2 ⟨0,rH.2 o0,decide_eq_true (bB A).symm⟩
 ·intro a ha b hb h
  have A:=hG.isP ((E.mem a).1 ha);obtain⟨i,hi,e⟩:=List.any_eq_true.1 h;have hi:=rH.1 hi;obtain rfl:=of_decide_eq_true e;refine List.any_eq_true.2 ⟨(cM x n-i)%cM x n,rH.2 (Nat.mod_lt _ o0),decide_eq_true ?_⟩;rw[←zO X,aI A (aY X _) (aY X _),←fZ X,Nat.add_sub_cancel' (Nat.le_of_lt hi),(bL X _).1 (Nat.dvd_refl _),bB A]
 ·intro a ha b hb c hc h1 h2
  have A:=hG.isP ((E.mem a).1 ha);obtain⟨i,hi,e⟩:=List.any_eq_true.1 h1;obtain⟨j,hj,e2⟩:=List.any_eq_true.1 h2;obtain rfl:=of_decide_eq_true e;obtain rfl:=of_decide_eq_true e2;refine List.any_eq_true.2 ⟨(i+j)%cM x n,rH.2 (Nat.mod_lt _ o0),decide_eq_true ?_⟩;rw[←zO X,aI A (aY X _) (aY X _),←fZ X]
 ·intro a ha
  have ha':=(E.mem a).1 ha;have A:=hG.isP ha';rw[sum_ones]
  have p:(L.filter λb=>(List.range (cM x n)).any λi=>decide (b=aQ a (pw n x i))).Perm ((List.range (cM x n)).map λi=>aQ a (pw n x i)):=by
   refine perm_of (E.nodup.filter _) ?_ λb=>?_
   ·refine nodup_map (List.nodup_range) λi hi j hj e=>inj a A i j (rH.1 hi) (rH.1 hj) e
   ·rw[jY,List.any_eq_true,jH]
    constructor
    ·rintro⟨_,i,hi,e⟩
     exact⟨i,hi,(of_decide_eq_true e).symm⟩
    ·rintro⟨i,hi,rfl⟩
     exact⟨(E.mem _).2 (hG.mul ha' (grp_pw hG hx i)),i,hi,decide_eq_true rfl⟩
  rw[p.length_eq,jS,List.length_range];exact Nat.dvd_refl _
end
end
theorem bez (a b:Nat): ∃s t:Int,s*a+t*b=(Nat.gcd a b:Nat):=by
 induction a,b using Nat.gcd.induction with
 |H0 n=>exact⟨0,1,by simp⟩
 |H1 m n hm ih=>
  obtain⟨s,t,e⟩:=ih;refine⟨t-s*(n/m:Nat),s,?_⟩;rw[Nat.gcd_rec m n,←e];have h:=Nat.div_add_mod n m
  have h2:((n:Nat):Int)=(m:Int)*((n/m:Nat):Int)+((n%m:Nat):Int):=by
   rw[←Int.natCast_mul,←Int.natCast_add,h]
  rw[h2,Int.sub_mul,Int.mul_add,Int.mul_comm (m:Int) ((n/m:Nat):Int),←Int.mul_assoc,Int.add_comm (s*((n%m:Nat):Int))];omega
theorem crt {a b:Nat}(h:Nat.gcd a b=1)(a0:0<a)(b0:0<b): ∃e:Nat,e%a=1%a/\b∣e:=by
 obtain⟨s,t,e⟩:=bez a b;rw[h] at e;have ab:0<a*b:=Nat.mul_pos a0 b0;have h1:=Int.emod_nonneg (t*b) (b:=((a*b:Nat):Int)) (by omega)
 obtain⟨k,hk⟩: ∃k:Nat,(t*b)%((a*b:Nat):Int)=(k:Int):=⟨_,(Int.toNat_of_nonneg h1).symm⟩
 refine⟨k,?_,?_⟩
 ·have h2:((k:Nat):Int)%(a:Int)=1%(a:Int):=by
   rw[←hk,Int.emod_emod_of_dvd _ (Int.ofNat_dvd.2 ⟨b,rfl⟩),show t*(b:Int)=1+(-s)*(a:Int) by rw[Int.neg_mul];omega,Int.add_mul_emod_self_right]
  exact Int.ofNat.inj h2
 ·have h2:((k:Nat):Int)%(b:Int)=0:=by
   rw[←hk,Int.emod_emod_of_dvd _ (Int.ofNat_dvd.2 ⟨a,Nat.mul_comm _ _⟩),Int.mul_emod_left]
  exact Int.ofNat_dvd.1 (Int.dvd_of_emod_eq_zero h2)
def fN (n:Nat)(L:List (List Nat))(m:Nat):Nat:=(L.filter λx=>decide (pw n x m=aW n)).length
theorem pw_com {n:Nat}{x y:List Nat}(X:aX n x)(Y:aX n y)(h:aQ x y=aQ y x): ∀k,aQ (pw n x k) y=aQ y (pw n x k)
 |0=>by rw[show pw n x 0=aW n from rfl,bW Y,bB Y]
 |k+1=>by
  rw[show pw n x (k+1)=aQ (pw n x k) x from rfl,aI (aY X k) X Y,h,←aI (aY X k) Y X,pw_com X Y h k,aI Y (aY X k) X]
theorem pw_prod {n:Nat}{x y:List Nat}(X:aX n x)(Y:aX n y)(h:aQ x y=aQ y x): ∀k,pw n (aQ x y) k=aQ (pw n x k) (pw n y k)
 |0=>by rw[show pw n x 0=aW n from rfl,show pw n y 0=aW n from rfl,bW (aX.one n)];rfl
 |k+1=>by
  rw[show pw n (aQ x y) (k+1)=aQ (pw n (aQ x y) k) (aQ x y) from rfl,pw_prod X Y h k,show pw n x (k+1)=aQ (pw n x k) x from rfl,show pw n y (k+1)=aQ (pw n y k) y from rfl,aI (aY X k) (aY Y k) (X.mul Y),←aI (aY Y k) X Y,pw_com Y X h.symm k,aI X (aY Y k) Y,←aI (aY X k) X ((aY Y k).mul Y)]
theorem fib {α β:Type}[DecidableEq β](φ:α->β): ∀(B:List β) (A:List α),B.Nodup->(∀x∈A,φ x∈B)->A.length=(B.map λz=>(A.filter λx=>decide (φ x=z)).length).sum
 | [],A,_,h=>by
  cases A with
  |nil=>rfl
  |cons a A=>exact absurd (h a (by simp)) List.not_mem_nil
 |z::B,A,nd,h=>by
  rw[List.nodup_cons] at nd;have e:=sum_split (λ_=>1) (λx=>decide (φ x=z)) A
  rw[sum_ones,sum_ones,sum_ones,fib φ B (A.filter λx=>!decide (φ x=z)) nd.2 λx hx=>by
   obtain⟨h1,h2⟩:=jY.1 hx;rcases List.mem_cons.1 (h x h1) with e|e
   ·simp [e] at h2
   ·exact e] at e
  rw[e,List.map_cons,List.sum_cons];congr 2;refine List.map_congr_left λw hw=>?_
  rw[List.filter_filter];congr 1;refine List.filter_congr λx _=>?_
  by_cases h1:φ x=w
  ·have:φ x≠z:=λe=>nd.1 (by rw[←e,h1];exact hw)
   simp [h1,this];rintro rfl;exact nd.1 hw
  ·simp [h1]
section
variable {n:Nat} {G:List Nat->Prop} {L:List (List Nat)} (hG:iL n G) (E:cX G L)
include hG E
theorem f_split {a b:Nat}(hab:Nat.gcd a b=1)(a0:0<a)(b0:0<b):fN n L (a*b)=((L.filter λz=>decide (pw n z a=aW n)).map λz=>fN n (cenL L z) b).sum:=by
 obtain⟨e,e1,e2⟩:=crt hab a0 b0;obtain⟨e',e3,e4⟩:=crt (show Nat.gcd b a=1 by rw[Nat.gcd_comm];exact hab) b0 a0
 have one: ∀{x:List Nat},aX n x->pw n x (a*b)=aW n->pw n x (e+e')=x:=λ{x} X h=>by
  have h1:=(bL X _).2 h
  have h2:(a:Int)∣(e:Int)+(e':Int)- 1:=by
   have k1:(e:Int)%(a:Int)=1%(a:Int):=by exact congrArg Int.ofNat e1
   have k2:(a:Int)∣(e:Int)- 1:=Int.dvd_of_emod_eq_zero (by rw[Int.sub_emod,k1];simp);have k3:(a:Int)∣(e':Int):=Int.ofNat_dvd.2 e4;have:=Int.dvd_add k2 k3;rwa [show (e:Int)- 1+(e':Int)=(e:Int)+(e':Int)- 1 by omega] at this
  have h3:(b:Int)∣(e:Int)+(e':Int)- 1:=by
   have k1:(e':Int)%(b:Int)=1%(b:Int):=by exact congrArg Int.ofNat e3
   have k2:(b:Int)∣(e':Int)- 1:=Int.dvd_of_emod_eq_zero (by rw[Int.sub_emod,k1];simp);have k3:(b:Int)∣(e:Int):=Int.ofNat_dvd.2 e2;have:=Int.dvd_add k2 k3;rwa [show (e':Int)- 1+(e:Int)=(e:Int)+(e':Int)- 1 by omega] at this
  have h4:a*b∣((e:Int)+(e':Int)- 1).natAbs:=Nat.Coprime.mul_dvd_of_dvd_of_dvd hab (Int.ofNat_dvd_left.1 h2) (Int.ofNat_dvd_left.1 h3);have h5:((cM x n:Nat):Int)∣(e:Int)+(e':Int)- 1:=Int.ofNat_dvd_left.2 (Nat.dvd_trans h1 h4)
  have h6:pw n x (e+e')=pw n x 1:=by
   refine pw_cong X ?_;have:=Int.emod_emod_of_dvd ((e:Int)+(e':Int)- 1) (Int.dvd_refl ((cM x n:Nat):Int))
   have h7:((e+e':Nat):Int)%((cM x n:Nat):Int)=((1:Nat):Int)%((cM x n:Nat):Int):=by
    have:((e+e':Nat):Int)=1+((e:Int)+(e':Int)- 1):=by omega
    rw[this];obtain⟨q,hq⟩:=h5;rw[hq,Int.add_mul_emod_self_left];rfl
   exact Int.ofNat.inj h7
  rw[h6,pw_one' X]
 rw[show fN n L (a*b)=(L.filter λx=>decide (pw n x (a*b)=aW n)).length from rfl,fib (λx=>pw n x e) (L.filter λz=>decide (pw n z a=aW n)) _ (E.nodup.filter _) λx hx=>?_]
 ·congr 1
  refine List.map_congr_left λz hz=>?_
  obtain⟨hz1,hz2⟩:=jY.1 hz;have hz2:=of_decide_eq_true hz2;have hzG:=(E.mem z).1 hz1;have Z:=hG.isP hzG
  have p:((L.filter λx=>decide (pw n x (a*b)=aW n)).filter λx=>decide (pw n x e=z)).Perm (((cenL L z).filter λu=>decide (pw n u b=aW n)).map (aQ z)):=by
   refine perm_of ((E.nodup.filter _).filter _) (nodup_map ((E.nodup.filter _).filter _) λu hu v hv h=>?_) λx=>?_
   ·have U:=hG.isP ((E.mem u).1 (jY.1 (jY.1 hu).1).1)
    have V:=hG.isP ((E.mem v).1 (jY.1 (jY.1 hv).1).1);exact fF U V Z h
   ·rw[jH]
    constructor
    ·intro hx
     obtain⟨hx,h1⟩:=jY.1 hx;obtain⟨hx,h2⟩:=jY.1 hx;have h1:=of_decide_eq_true h1;have h2:=of_decide_eq_true h2;have hxG:=(E.mem x).1 hx;have X:=hG.isP hxG;refine⟨pw n x e',jY.2 ⟨jY.2 ⟨(E.mem _).2 (grp_pw hG hxG _),decide_eq_true ?_⟩,decide_eq_true ?_⟩,?_⟩
     ·rw[←h1,←fZ X,←fZ X,Nat.add_comm]
     ·rw[pw_mul' X]
      refine (bL X _).1 (Nat.dvd_trans ((bL X _).2 h2) ?_);exact Nat.mul_dvd_mul e4 (Nat.dvd_refl b)
     ·rw[←h1,←fZ X,one X h2]
    ·rintro⟨u,hu,rfl⟩
     obtain⟨hu,h1⟩:=jY.1 hu;obtain⟨hu,h2⟩:=jY.1 hu;have h1:=of_decide_eq_true h1;have h2:=of_decide_eq_true h2;have huG:=(E.mem u).1 hu;have U:=hG.isP huG;have oz:=(bL Z _).2 hz2;have ou:=(bL U _).2 h1;refine jY.2 ⟨jY.2 ⟨(E.mem _).2 (hG.mul hzG huG),decide_eq_true ?_⟩,decide_eq_true ?_⟩
     ·rw[pw_prod Z U h2,(bL Z _).1 (Nat.dvd_trans oz ⟨b,rfl⟩),(bL U _).1 (Nat.dvd_trans ou ⟨a,Nat.mul_comm _ _⟩),bW (aX.one n)]
     ·rw[pw_prod Z U h2,(bL U _).1 (Nat.dvd_trans ou e2),bB (aY Z e),pw_cong Z (b:=1) ?_,pw_one' Z]
      have:=congrArg (· %cM z n) e1;simp only[Nat.mod_mod_of_dvd _ oz] at this;exact this
  rw[p.length_eq,jS]
  rfl
 ·obtain⟨hx,h1⟩:=jY.1 hx
  have h1:=of_decide_eq_true h1;have hxG:=(E.mem x).1 hx;have X:=hG.isP hxG;refine jY.2 ⟨(E.mem _).2 (grp_pw hG hxG _),decide_eq_true ?_⟩;rw[pw_mul' X];refine (bL X _).1 (Nat.dvd_trans ((bL X _).2 h1) ?_);rw[Nat.mul_comm e a];exact Nat.mul_dvd_mul (Nat.dvd_refl a) e2
end
structure Prm (p:Nat):Prop where
 two:2<=p
 euc: ∀a b,p∣a*b->p∣a∨p∣b
open Classical in
theorem isEl_sub {G B:List Nat->Prop}{L:List (List Nat)}(E:cX G L)(h: ∀x,B x->G x):cX B (L.filter λx=>decide (B x)):=
 ⟨E.asc.filter _,λx=>by
  rw[jY,decide_eq_true_iff,E.mem]
  exact⟨λh=>h.2,λhx=>⟨h x hx,hx⟩⟩⟩
theorem least_of {P:Nat->Prop}: ∀k,P k-> ∃t,P t/\ ∀s,s<t-> ¬P s:=by
 classical
 intro k
 induction k using Nat.strongRecOn with
 |_ k ih=>
  intro hk
  by_cases h: ∃s,s<k/\P s
  ·obtain⟨s,hs,ps⟩:=h
   exact ih s hs ps
  ·exact⟨k,hk,λs hs ps=>h ⟨s,hs,ps⟩⟩
theorem chain_step {n m:Nat}{Z B:List Nat->Prop}{LZ LB:List (List Nat)}(hZ:iL n Z)(EZ:cX Z LZ)(com: ∀x y,Z x->Z y->aQ x y=aQ y x)(exp: ∀x,Z x->pw n x m=aW n)(hB:iL n B)(EB:cX B LB)(sub: ∀x,B x->Z x){x:List Nat}(hx:Z x)(hxB: ¬B x)(m0:0<m):
  ∃(B':List Nat->Prop) (LB':List (List Nat)) (t:Nat),iL n B'/\cX B' LB'/\(∀y,B' y->Z y)/\(∀y,B y->B' y)/\B' x/\t∣m/\LB'.length=t*LB.length:=by
 classical
 have X:=hZ.isP hx
 have pB: ∀k,B (pw n x k)-> ∀q,B (pw n x (k*q)):=λk hk q=>by rw[←pw_mul' X];exact grp_pw hB hk q
 obtain⟨t,⟨t0,tB⟩,tl⟩:=least_of (P:=λk=>0<k/\B (pw n x k)) m ⟨m0,by rw[exp x hx];exact hB.one⟩
 have tm: ∀k,B (pw n x k)->t∣k:=λk hk=>by
  rcases Nat.eq_zero_or_pos (k%t) with h0|h0
  ·exact Nat.dvd_of_mod_eq_zero h0
  ·refine absurd ⟨h0,?_⟩ (tl (k%t) (Nat.mod_lt _ t0))
   have h1:aQ (pw n x (t*(k/t))) (pw n x (k%t))=pw n x k:=by rw[←fZ X,Nat.div_add_mod]
   have h2:pw n x (k%t)=aQ (bX (pw n x (t*(k/t)))) (pw n x k):=by
    rw[←h1,←aI (aY X _).inv (aY X _) (aY X _),cZ (aY X _),bW (aY X _)]
   rw[h2];exact hB.mul (hB.inv (pB t tB _)) hk
 have o0:=kA X
 let B':List Nat->Prop:=λy=> ∃b i,B b/\y=aQ b (pw n x i)
 have Bx: ∀i,Z (pw n x i):=λi=>grp_pw hZ hx i
 have hB':iL n B':={
  isP:=λ⟨b,i,hb,e⟩=>by rw[e];exact (hB.isP hb).mul (aY X i)
  one:=⟨aW n,0,hB.one,(bW (aX.one n)).symm⟩
  mul:=λ{y z} ⟨b,i,hb,e⟩ ⟨c,j,hc,e2⟩=>⟨aQ b c,i+j,hB.mul hb hc,by
   rw[e,e2,fZ X,aI (hB.isP hb) (aY X i) ((hB.isP hc).mul (aY X j)),←aI (aY X i) (hB.isP hc) (aY X j),com _ _ (Bx i) (sub c hc),aI (hB.isP hc) (aY X i) (aY X j),←aI (hB.isP hb) (hB.isP hc) ((aY X i).mul (aY X j))]⟩
  inv:=λ{y} ⟨b,i,hb,e⟩=>⟨bX b,cM x n*i-i,hB.inv hb,by
   have Bb:=hB.isP hb;have hi:i<=cM x n*i:=Nat.le_mul_of_pos_left i o0
   have e3:aQ (pw n x (cM x n*i-i)) (pw n x i)=aW n:=by
    rw[←fZ X,Nat.sub_add_cancel hi];exact (bL X _).1 ⟨i,rfl⟩
   have e4:bX (pw n x i)=pw n x (cM x n*i-i):=by
    refine iY (aY X i).inv (aY X _) (aY X i) ?_;rw[cZ (aY X i),e3]
   rw[e,rZ Bb (aY X i),e4,com _ _ (Bx _) (sub _ (hB.inv hb))]⟩}
 have sub': ∀y,B' y->Z y:=λy ⟨b,i,hb,e⟩=>by rw[e];exact hZ.mul (sub b hb) (Bx i)
 have E':=isEl_sub EZ sub'
 refine⟨B',_,t,hB',E',sub',λy hy=>⟨y,0,hy,(bB (hB.isP hy)).symm⟩,⟨aW n,1,hB.one,by rw[pw_one' X,bW X]⟩,tm m (by rw[exp x hx];exact hB.one),?_⟩
 have p:(LZ.filter λy=>decide (B' y)).Perm ((List.range t).flatMap λi=>LB.map λb=>aQ b (pw n x i)):=by
  refine perm_of E'.nodup ?_ λy=>?_
  ·rw[List.nodup_iff_pairwise_ne,List.pairwise_flatMap]
   refine⟨λi hi=>List.nodup_iff_pairwise_ne.1 (nodup_map EB.nodup λb hb c hc e=>iY (hB.isP ((EB.mem b).1 hb)) (hB.isP ((EB.mem c).1 hc)) (aY X i) e),?_⟩;refine (List.pairwise_lt_range (n:=t)).imp_of_mem λ{i j} hi hj hij u hu v hv e=>?_
   obtain⟨b,hb,rfl⟩:=jH.1 hu;obtain⟨c,hc,rfl⟩:=jH.1 hv;have hb:=(EB.mem b).1 hb;have hc:=(EB.mem c).1 hc;have hj:=rH.1 hj;have e2:pw n x j=aQ (pw n x (j-i)) (pw n x i):=by rw[←fZ X,Nat.sub_add_cancel (Nat.le_of_lt hij)]
   rw[e2,←aI (hB.isP hc) (aY X _) (aY X i)] at e;have e3:=iY (hB.isP hb) ((hB.isP hc).mul (aY X _)) (aY X i) e
   have e4:pw n x (j-i)=aQ (bX c) b:=by
    rw[e3,←aI (hB.isP hc).inv (hB.isP hc) (aY X _),cZ (hB.isP hc),bW (aY X _)]
   exact tl (j-i) (by omega) ⟨by omega,by rw[e4];exact hB.mul (hB.inv hc) hb⟩
  ·rw[E'.mem,List.mem_flatMap]
   constructor
   ·rintro⟨b,i,hb,rfl⟩
    refine⟨i%t,rH.2 (Nat.mod_lt _ t0),jH.2 ⟨aQ b (pw n x (t*(i/t))),(EB.mem _).2 (hB.mul hb (pB t tB _)),?_⟩⟩;rw[aI (hB.isP hb) (aY X _) (aY X _),←fZ X,Nat.div_add_mod]
   ·rintro⟨i,_,hy⟩
    obtain⟨b,hb,rfl⟩:=jH.1 hy;exact⟨b,i,(EB.mem b).1 hb,rfl⟩
 rw[p.length_eq]
 have: ∀s,((List.range s).flatMap λi=>LB.map λb=>aQ b (pw n x i)).length=s*LB.length:=λs=>by
  induction s with
  |zero=>simp
  |succ s ih=>rw[List.range_succ,List.flatMap_append,jD,ih,Nat.succ_mul];simp
 exact this t
theorem comm_prime {n m p:Nat}{Z:List Nat->Prop}{LZ:List (List Nat)}(hp:Prm p)(hm: ¬p∣m)(m0:0<m)(hZ:iL n Z)(EZ:cX Z LZ)(com: ∀x y,Z x->Z y->aQ x y=aQ y x)(exp: ∀x,Z x->pw n x m=aW n): ¬p∣LZ.length:=by
 classical
 have key: ∀(k:Nat) (B:List Nat->Prop) (LB:List (List Nat)),iL n B->cX B LB->(∀x,B x->Z x)->LZ.length-LB.length<=k-> ¬p∣LB.length-> ¬p∣LZ.length:=by
  intro k
  induction k with
  |zero=>
   intro B LB hB EB sub hk hl;have h1:=List.Nodup.length_le_of_subset EB.nodup (l₂:=LZ) λz hz=>(EZ.mem z).2 (sub z ((EB.mem z).1 hz))
   rwa [show LZ.length=LB.length by omega]
  |succ k ih=>
   intro B LB hB EB sub hk hl;have h1:=List.Nodup.length_le_of_subset EB.nodup (l₂:=LZ) λz hz=>(EZ.mem z).2 (sub z ((EB.mem z).1 hz))
   by_cases h: ∀x,Z x->B x
   ·have h2:=List.Nodup.length_le_of_subset EZ.nodup (l₂:=LB) λz hz=>(EB.mem z).2 (h z ((EZ.mem z).1 hz))
    rwa [show LZ.length=LB.length by omega]
   ·obtain⟨x,hx⟩:=Classical.not_forall.1 h
    obtain⟨hx,hxB⟩:=Classical.not_imp.1 hx;obtain⟨B',LB',t,hB',EB',sub',inc,hx',ht,hlen⟩:=chain_step hZ EZ com exp hB EB sub hx hxB m0
    have h3:(x::LB).length<=LB'.length:=List.Nodup.length_le_of_subset (List.nodup_cons.2 ⟨λhm=>hxB ((EB.mem x).1 hm),EB.nodup⟩) λz hz=>by
     rcases List.mem_cons.1 hz with rfl|hz
     ·exact (EB'.mem _).2 hx'
     ·exact (EB'.mem z).2 (inc z ((EB.mem z).1 hz))
    rw[List.length_cons] at h3;refine ih B' LB' hB' EB' sub' (by omega) λhd=>?_
    rw[hlen] at hd;rcases hp.euc _ _ hd with h4|h4
    ·exact hm (Nat.dvd_trans h4 ht)
    ·exact hl h4
 refine key LZ.length (λx=>x=aW n) [aW n] ⟨λh=>by rw[h];exact aX.one n,rfl,λh1 h2=>by rw[h1,h2,bW (aX.one n)],λh=>by rw[h,nI]⟩ ⟨List.pairwise_singleton _ _,λx=>List.mem_singleton⟩ (λx h=>by rw[h];exact hZ.one) (by omega) λhd=>?_
 have h5:=Nat.le_of_dvd (show 0<1 by omega) hd;have:=hp.two;omega
theorem Prm.cop {p m:Nat}(hp:Prm p)(hm: ¬p∣m):Nat.gcd p m=1:=by
 have h2:=hp.two;obtain⟨q,hq⟩:=Nat.gcd_dvd_left p m;have hg:=Nat.gcd_dvd_right p m;rcases hp.euc (Nat.gcd p m) q ⟨1,by rw[Nat.mul_one];exact hq.symm⟩ with h|h
 ·exact absurd (Nat.dvd_trans h hg) hm
 ·obtain⟨s,hs⟩:=h
  have h3:p*1=p*(Nat.gcd p m*s):=by rw[Nat.mul_one,Nat.mul_left_comm,←hs,←hq]
  have h4:=Nat.eq_of_mul_eq_mul_left (by omega) h3;exact Nat.eq_one_of_mul_eq_one_right h4.symm
theorem Prm.cop_pow {p m:Nat}(hp:Prm p)(hm: ¬p∣m)(j:Nat):Nat.gcd m (p^j)=1:=by
 rw[Nat.gcd_comm];exact Nat.Coprime.pow_left j (hp.cop hm)
section
variable {n:Nat} {G:List Nat->Prop} {L:List (List Nat)} (hG:iL n G) (E:cX G L)
include hG
theorem cenz_grp {z:List Nat}(hz:G z):iL n (λg=>G g/\aQ z g=aQ g z) where
 isP h:=hG.isP h.1
 one:=⟨hG.one,by rw[bB (hG.isP hz),bW (hG.isP hz)]⟩
 mul:=λ{x y} ⟨hx,ex⟩ ⟨hy,ey⟩=>⟨hG.mul hx hy,by
  have X:=hG.isP hx;have Y:=hG.isP hy;have Z:=hG.isP hz
  rw[←aI Z X Y,ex,aI X Z Y,ey,aI X Y Z]⟩
 inv:=λ{x} ⟨hx,ex⟩=>⟨hG.inv hx,by
  have X:=hG.isP hx;have Z:=hG.isP hz;refine fF (Z.mul X.inv) (X.inv.mul Z) X ?_
  rw[←aI X Z X.inv,←ex,aI Z X X.inv,dL X,bB Z,←aI X X.inv Z,dL X,bW Z]⟩
include E
omit hG in
theorem cen_el (z:List Nat):cX (λg=>G g/\aQ z g=aQ g z) (cenL L z):=
 ⟨E.asc.filter _,λx=>by
  unfold cenL
  rw[jY,decide_eq_true_iff,E.mem]⟩
open Classical in
theorem cls_len {z:List Nat}(hz:G z):L.length=(L.filter λw=>decide (cj G z w)).length*(cenL L z).length:=by
 obtain⟨h1,h2⟩:=idx_el E hz;have os:=orbit_stab hG E h1;rw[h2] at os
 have p:(L.filter λw=>decide (cj G z w)).Perm ((orbC G L (L.idxOf z)).map λj=>L.getD j []):=by
  refine perm_of (E.nodup.filter _) (nodup_map (by unfold orbC;exact List.nodup_range.filter _) λi hi j hj e=>?_) λw=>?_
  ·have hi:=(orbC_mem.1 hi).1
   have hj:=(orbC_mem.1 hj).1;rw[←idx_at E hi,←idx_at E hj,e]
  ·rw[jY,decide_eq_true_iff,jH]
   constructor
   ·rintro⟨hw,hc⟩
    have hw':=(E.mem w).1 hw;obtain⟨k1,k2⟩:=idx_el E hw';refine⟨L.idxOf w,orbC_mem.2 ⟨k1,?_⟩,k2⟩;unfold cR;rw[h2,k2];exact hc
   ·rintro⟨j,hj,rfl⟩
    obtain⟨k1,k2⟩:=orbC_mem.1 hj;unfold cR at k2;rw[h2] at k2;exact⟨(E.mem _).2 (el_mem E k1),k2⟩
 rw[p.length_eq,jS];exact os
theorem f_conj {z c:List Nat}(hz:G z)(hc:G c)(q:Nat):fN n (cenL L (conjP z c)) q=fN n (cenL L z) q:=by
 have C:=hG.isP hc;have Z:=hG.isP hz
 have p:((cenL L (conjP z c)).filter λu=>decide (pw n u q=aW n)).Perm (((cenL L z).filter λu=>decide (pw n u q=aW n)).map λu=>conjP u c):=by
  have nd: ∀z,((cenL L z).filter λu=>decide (pw n u q=aW n)).Nodup:=λz=>(E.nodup.filter _).filter _
  refine perm_of (nd _) (nodup_map (nd _) λu hu v hv e=>?_) λw=>?_
  ·have U:=hG.isP ((E.mem u).1 (jY.1 (jY.1 hu).1).1)
   have V:=hG.isP ((E.mem v).1 (jY.1 (jY.1 hv).1).1);exact conjP_inj U V C e
  ·rw[jH]
   have mem: ∀z u,u∈(cenL L z).filter (λu=>decide (pw n u q=aW n))↔G u/\aQ z u=aQ u z/\pw n u q=aW n:=λz u=>by
    unfold cenL;rw[jY,jY,decide_eq_true_iff,decide_eq_true_iff,E.mem,and_assoc]
   have one:conjP (aW n) c=aW n:=by
    unfold conjP;rw[bB C.inv,cZ C]
   constructor
   ·intro hw
    obtain⟨h1,h2,h3⟩:=(mem _ _).1 hw;have W:=hG.isP h1
    have e1:conjP (conjP w (bX c)) c=w:=by
     have:=conjP_inv W C.inv;rwa [lM C] at this
    have X:=hG.isP (cj_mem hG h1 ⟨bX c,hG.inv hc,rfl⟩);refine⟨conjP w (bX c),(mem _ _).2 ⟨cj_mem hG h1 ⟨bX c,hG.inv hc,rfl⟩,?_,?_⟩,e1⟩
    ·refine conjP_inj (Z.mul X) (X.mul Z) C ?_
     rw[conjP_mulP Z X C,conjP_mulP X Z C,e1,h2]
    ·refine conjP_inj (aY X q) (aX.one n) C ?_
     rw[conj_pw X C,e1,h3,one]
   ·rintro⟨u,hu,rfl⟩
    obtain⟨h1,h2,h3⟩:=(mem _ _).1 hu;have U:=hG.isP h1;refine (mem _ _).2 ⟨cj_mem hG h1 ⟨c,hc,rfl⟩,?_,?_⟩
    ·rw[←conjP_mulP Z U C,h2,conjP_mulP U Z C]
    ·rw[←conj_pw U C,h3,one]
 show (List.filter _ _).length=(List.filter _ _).length;rw[p.length_eq,jS]
end
theorem sum_same {α:Type}(g:α->Nat)(c:Nat): ∀A:List α,(∀x∈A,g x=c)->(A.map g).sum=A.length*c
 | [],_=>by simp
 |a::A,h=>by
  rw[List.map_cons,List.sum_cons,sum_same g c A λx hx=>h x (by simp [hx]),h a (by simp),List.length_cons,Nat.succ_mul,Nat.add_comm]
section
variable {n:Nat} {G:List Nat->Prop} {L:List (List Nat)} (hG:iL n G) (E:cX G L)
include hG E
open Classical in
theorem cls_sum (d:Nat)(P:List Nat->Prop)(g:List Nat->Nat)(hP: ∀x c,G x->G c->(P (conjP x c)↔P x))(hg: ∀x c,G x->G c->P x->g (conjP x c)=g x)(hd: ∀z,G z->P z->d∣(L.filter λw=>decide (cj G z w)).length*g z):d∣((L.filter λx=>decide (P x)).map g).sum:=by
 have mem: ∀{x},x∈L.filter (λx=>decide (P x))->G x/\P x:=λhx=>by
  obtain⟨h1,h2⟩:=jY.1 hx;exact⟨(E.mem _).1 h1,of_decide_eq_true h2⟩
 refine part_dvd d (λx y=>decide (cj G x y)) g _ _ (eP _) ?_ ?_ ?_ ?_
 ·intro x hx
  exact decide_eq_true (cj_refl hG (hG.isP (mem hx).1))
 ·intro x hx y hy h
  exact decide_eq_true (cj_symm hG (hG.isP (mem hx).1) (of_decide_eq_true h))
 ·intro x hx y hy z hz h1 h2
  exact decide_eq_true (cj_trans hG (hG.isP (mem hx).1) (of_decide_eq_true h1) (of_decide_eq_true h2))
 ·intro z hz
  obtain⟨hzG,hzP⟩:=mem hz
  have e:(L.filter λx=>decide (P x)).filter (λy=>decide (cj G z y))=L.filter λw=>decide (cj G z w):=by
   rw[List.filter_filter];refine List.filter_congr λy hy=>?_
   by_cases h:cj G z y
   ·obtain⟨c,hc,rfl⟩:=h
    have h1:=(hP z c hzG hc).2 hzP
    have h2:cj G z (conjP z c):=⟨c,hc,rfl⟩
    simp [h1,h2]
   ·simp [h]
  rw[e,sum_same g (g z) _ λy hy=>?_]
  ·exact hd z hzG hzP
  ·obtain⟨_,h⟩:=jY.1 hy
   obtain⟨c,hc,rfl⟩:=of_decide_eq_true h;exact hg z c hzG hc hzP
omit hG E in
theorem all_fN {m:Nat}(h: ∀x∈L,pw n x m=aW n):fN n L m=L.length:=by
 unfold fN;rw[List.filter_eq_self.2 λx hx=>decide_eq_true (h x hx)]
end
theorem cop_dvd {q a b:Nat}(h:Nat.gcd q b=1)(hd:q∣a*b):q∣a:=Nat.Coprime.dvd_of_dvd_mul_right h hd
theorem fN_gcd {n:Nat}{G:List Nat->Prop}{L:List (List Nat)}(hG:iL n G)(E:cX G L)(q:Nat):fN n L q=fN n L (Nat.gcd L.length q):=by
 unfold fN;congr 1;refine List.filter_congr λx hx=>?_
 have hx':=(E.mem x).1 hx;have X:=hG.isP hx';have ho:=ord_dvd hG E hx';refine decide_eq_decide.2 ?_;rw[←bL X,←bL X];exact⟨λh=>Nat.dvd_gcd ho h,λh=>Nat.dvd_trans h (Nat.gcd_dvd_right _ _)⟩
theorem p_part {p:Nat}(hp:Prm p): ∀k,0<k-> ∃i m,k=p^i*m/\ ¬p∣m:=by
 intro k
 induction k using Nat.strongRecOn with
 |_ k ih=>
  intro k0
  by_cases h:p∣k
  ·obtain⟨q,hq⟩:=h
   have h2:=hp.two;have q0:0<q:=Nat.pos_of_ne_zero λe=>by rw[e] at hq;omega
   have hlt:q<k:=by
    rw[hq];have:=Nat.mul_le_mul_right q h2;omega
   obtain⟨i,m,e,hm⟩:=ih q hlt q0;exact⟨i+1,m,by rw[hq,e,Nat.pow_succ,Nat.mul_comm (p^i) p,Nat.mul_assoc],hm⟩
  ·exact⟨0,k,by simp,h⟩
theorem pow_le {p i j m:Nat}(hp:Prm p)(hm: ¬p∣m)(h:p^i∣p^j*m):i<=j:=by
 rcases Nat.lt_or_ge j i with hlt|hge
 ·exfalso
  have h1:p^(j+1)∣p^j*m:=Nat.dvd_trans (Nat.pow_dvd_pow p hlt) h;rw[Nat.pow_succ] at h1;exact hm (Nat.dvd_of_mul_dvd_mul_left (Nat.pow_pos (by have:=hp.two;omega)) h1)
 ·exact hge
open Classical in
theorem pel {p:Nat}(hp:Prm p){n:Nat}: ∀(N:Nat) (G:List Nat->Prop) (L:List (List Nat)),iL n G->cX G L->L.length<=N-> ∀j m,L.length=p^j*m-> ¬p∣m->p^j∣fN n L (p^j):=by
 intro N
 induction N with
 |zero=>
  intro G L hG E hl;have:=List.length_pos_of_mem ((E.mem _).2 hG.one);omega
 |succ N ih=>
  intro G L hG E hl j m hlen hm;have L0:=List.length_pos_of_mem ((E.mem _).2 hG.one);have m0:0<m:=Nat.pos_of_ne_zero λe=>hm (by rw[e];exact Nat.dvd_zero p)
  have q0:0<p^j:=Nat.pow_pos (by have:=hp.two;omega);have hs:=f_split hG E (hp.cop_pow hm j) m0 q0;rw[all_fN λx hx=>?_] at hs
  ·rw[sum_split _ (λz=>decide (∀y,G y->aQ z y=aQ y z))] at hs
   obtain⟨Q,hQ⟩: ∃Q:List Nat->Prop,∀z,Q z↔G z/\pw n z m=aW n/\ ∀y,G y->aQ z y=aQ y z:=⟨_,λz=>Iff.rfl⟩
   obtain⟨P,hP⟩: ∃P:List Nat->Prop,∀z,P z↔pw n z m=aW n/\ ¬ ∀y,G y->aQ z y=aQ y z:=⟨_,λz=>Iff.rfl⟩
   have hA:((L.filter λz=>decide (pw n z m=aW n)).filter λz=>decide (∀y,G y->aQ z y=aQ y z))=L.filter λz=>decide (Q z):=by
    rw[List.filter_filter];refine List.filter_congr λz hz=>?_
    have hz':=(E.mem z).1 hz;rw[←Bool.decide_and];exact decide_eq_decide.2 ⟨λh=>(hQ z).2 ⟨hz',h.2,h.1⟩,λh=>⟨((hQ z).1 h).2.2,((hQ z).1 h).2.1⟩⟩
   have hB:((L.filter λz=>decide (pw n z m=aW n)).filter λz=>!decide (∀y,G y->aQ z y=aQ y z))=L.filter λz=>decide (P z):=by
    rw[List.filter_filter];refine List.filter_congr λz hz=>?_
    rw[←decide_not,←Bool.decide_and];exact decide_eq_decide.2 ⟨λh=>(hP z).2 ⟨h.2,h.1⟩,λh=>⟨((hP z).1 h).2,((hP z).1 h).1⟩⟩
   rw[hA,hB,sum_same _ (fN n L (p^j)) _ λz hz=>?_] at hs
   ·have d2:=cls_sum hG E (p^j) P (λz=>fN n (cenL L z) (p^j)) ?_ ?_ ?_
    ·have d1:p^j∣L.length:=⟨m,hlen⟩
     rw[hs] at d1;have d3:=(Nat.dvd_add_left d2).1 d1;have np:=comm_prime (n:=n) (m:=m) (Z:=Q) hp hm m0 ?_ (isEl_sub E λz hz=>((hQ z).1 hz).1) ?_ ?_
     ·rw[Nat.mul_comm] at d3
      refine cop_dvd ?_ d3;rw[Nat.gcd_comm];exact hp.cop_pow np j
     ·refine⟨λh=>hG.isP ((hQ _).1 h).1,(hQ _).2 ⟨hG.one,?_,λy hy=>by rw[bW (hG.isP hy),bB (hG.isP hy)]⟩,λ{x y} h1 h2=>?_,λ{x} h=>?_⟩
      ·exact (bL (aX.one n) m).1 (Nat.dvd_trans ((bL (aX.one n) 1).2 (pw_one' (aX.one n))) (Nat.one_dvd m))
      ·obtain⟨x1,x2,x3⟩:=(hQ x).1 h1
       obtain⟨y1,y2,y3⟩:=(hQ y).1 h2;have X:=hG.isP x1;have Y:=hG.isP y1;refine (hQ _).2 ⟨hG.mul x1 y1,by rw[pw_prod X Y (x3 y y1),x2,y2,bW (aX.one n)],λw hw=>?_⟩;have W:=hG.isP hw;rw[aI X Y W,y3 w hw,←aI X W Y,x3 w hw,aI W X Y]
      ·obtain⟨x1,x2,x3⟩:=(hQ x).1 h
       have X:=hG.isP x1;refine (hQ _).2 ⟨hG.inv x1,?_,λw hw=>?_⟩
       ·have h1:=pw_prod X X.inv (by rw[dL X,cZ X]) m
        rw[dL X,x2,bW (aY X.inv m)] at h1;rw[←h1];exact (bL (aX.one n) m).1 (Nat.dvd_trans ((bL (aX.one n) 1).2 (pw_one' (aX.one n))) (Nat.one_dvd m))
       ·exact ((cenz_grp hG hw).inv ⟨x1,(x3 w hw).symm⟩).2.symm
     ·intro x y hx hy
      exact ((hQ x).1 hx).2.2 y ((hQ y).1 hy).1
     ·exact λx hx=>((hQ x).1 hx).2.1
    ·intro x c hx hc
     have X:=hG.isP hx;have C:=hG.isP hc
     have one: ∀{x c:List Nat},aX n x->aX n c->pw n x m=aW n->pw n (conjP x c) m=aW n:=λ{x c} X C h=>by
      rw[←conj_pw X C,h];unfold conjP;rw[bB C.inv,cZ C]
     have cen: ∀{x c:List Nat},G x->G c->(∀y,G y->aQ x y=aQ y x)->conjP x c=x:=λ{x c} hx hc h=>(conjP_fix (hG.isP hx) (hG.isP hc)).2 (h c hc)
     have back:conjP (conjP x c) (bX c)=x:=conjP_inv X C;have hxc:G (conjP x c):=cj_mem hG hx ⟨c,hc,rfl⟩;rw[hP,hP];constructor
     ·rintro⟨h1,h2⟩
      refine⟨by have:=one (hG.isP hxc) C.inv h1;rwa [back] at this,λh=>h2 ?_⟩;rw[cen hx hc h];exact h
     ·rintro⟨h1,h2⟩
      refine⟨one X C h1,λh=>h2 ?_⟩;have:=cen hxc (hG.inv hc) h;rw[back] at this;rw[this];exact h
    ·intro x c hx hc _
     exact f_conj hG E hx hc _
    ·intro z hz hPz
     obtain⟨_,hnc⟩:=(hP z).1 hPz;have cl:=cls_len hG E hz;have EC:=cen_el E z;have GC':=cenz_grp hG hz;have C0:=List.length_pos_of_mem ((EC.mem _).2 GC'.one)
     have hlt:(cenL L z).length<=N:=by
      have h1:(cenL L z).length≠L.length:=λe=>hnc λy hy=>by
       have h2:=List.length_filter_eq_length_iff.1 (show (L.filter λg=>decide (aQ z g=aQ g z)).length=L.length from e) y ((E.mem y).2 hy);exact of_decide_eq_true h2
      have h2:(cenL L z).length<=L.length:=List.length_filter_le _ _;omega
     obtain⟨i,m',hi,hm'⟩:=p_part hp _ C0;have key:=ih _ _ GC' EC hlt i m' hi hm';have hij:i<=j:=pow_le hp hm (by rw[←hlen,cl,hi];exact⟨(L.filter λw=>decide (cj G z w)).length*m',by rw[Nat.mul_left_comm]⟩)
     have e1:fN n (cenL L z) (p^j)=fN n (cenL L z) (p^i):=by
      rw[fN_gcd GC' EC (p^j),fN_gcd GC' EC (p^i),hi];congr 1
      obtain⟨d,rfl⟩: ∃d,j=i+d:=⟨j-i,by omega⟩
      rw[Nat.pow_add,Nat.gcd_mul_left,hp.cop_pow hm' d,show Nat.gcd (p^i*m') (p^i)=p^i from Nat.gcd_eq_right ⟨m',rfl⟩,Nat.mul_one]
     rw[e1];obtain⟨s,hs'⟩:=key;rw[hs',←Nat.mul_assoc];refine Nat.dvd_trans ?_ (Nat.dvd_mul_right _ s);refine cop_dvd (b:=m') (by rw[Nat.gcd_comm];exact hp.cop_pow hm' j) ?_;rw[Nat.mul_assoc,←hi,←cl,hlen];exact Nat.dvd_mul_right _ _
   ·obtain⟨_,h⟩:=jY.1 hz
    have h3:=((hQ z).1 (of_decide_eq_true h)).2.2
    have:cenL L z=L:=by
     unfold cenL;exact List.filter_eq_self.2 λy hy=>decide_eq_true (h3 y ((E.mem y).1 hy))
    rw[this]
  ·have hx':=(E.mem x).1 hx
   refine (bL (hG.isP hx') _).1 ?_;rw[Nat.mul_comm,←hlen];exact ord_dvd hG E hx'
theorem prime_of: ∀n,2<=n-> ∃p,Prm p/\p∣n:=by
 intro n hn;obtain⟨p,⟨h2,hd⟩,hl⟩:=least_of (P:=λd=>2<=d/\d∣n) n ⟨hn,Nat.dvd_refl n⟩;refine⟨p,⟨h2,λa b h=>?_⟩,hd⟩
 by_cases ha:p∣a
 ·exact .inl ha
 ·right
  have hg:Nat.gcd p a=1:=by
   have g1:=Nat.gcd_dvd_left p a;have g0:0<Nat.gcd p a:=Nat.gcd_pos_of_pos_left _ (by omega);have gle:=Nat.le_of_dvd (by omega) g1;rcases Nat.lt_or_ge (Nat.gcd p a) 2 with h|h
   ·omega
   ·rcases Nat.lt_or_ge (Nat.gcd p a) p with h3|h3
    ·exact absurd ⟨h,Nat.dvd_trans g1 hd⟩ (hl _ h3)
    ·exact absurd (by rw[←show Nat.gcd p a=p by omega];exact Nat.gcd_dvd_right p a) ha
  exact Nat.Coprime.dvd_of_dvd_mul_left hg h
theorem all_primes (x:Nat): ∀n,0<n->(∀p,Prm p-> ∀k m,n=p^k*m-> ¬p∣m->p^k∣x)->n∣x:=by
 intro n
 induction n using Nat.strongRecOn with
 |_ n ih=>
  intro n0 h;rcases Nat.lt_or_ge n 2 with h1|h1
  ·rw[show n=1 by omega];exact Nat.one_dvd x
  ·obtain⟨p,hp,hd⟩:=prime_of n h1
   obtain⟨k,m,e,hm⟩:=p_part hp n n0;have hk:=h p hp k m e hm;have h2:=hp.two;have m0:0<m:=Nat.pos_of_ne_zero λe2=>hm (by rw[e2];exact Nat.dvd_zero p)
   have k0:k≠0:=λe2=>hm (by rw[e2,Nat.pow_zero,Nat.one_mul] at e;rw[←e];exact hd)
   have hlt:m<n:=by
    obtain⟨k',rfl⟩: ∃k',k=k'+1:=⟨k- 1,by omega⟩
    rw[e,Nat.pow_succ];have h3:1<=p^k':=Nat.pow_pos (by omega);have h4:1*2<=p^k'*p:=Nat.mul_le_mul h3 h2;have h5:=Nat.mul_le_mul_right m h4;omega
   have hmx:m∣x:=ih m hlt m0 λq hq i m' e' hm'=>by
    by_cases hqp:q∣p^k
    ·rcases Nat.eq_zero_or_pos i with hi|hi
     ·rw[hi,Nat.pow_zero];exact Nat.one_dvd x
     ·exfalso
      have hqm:q∣m:=by
       rw[e'];exact Nat.dvd_trans (Nat.dvd_trans ⟨1,by simp⟩ (Nat.pow_dvd_pow q hi)) (Nat.dvd_mul_right _ _)
      have hc:=hp.cop_pow hm k;have:q∣Nat.gcd m (p^k):=Nat.dvd_gcd hqm hqp;rw[hc] at this;have:=Nat.le_of_dvd (by omega) this;have:=hq.two;omega
    ·refine h q hq i (p^k*m') (by rw[e,e',Nat.mul_left_comm]) λhd'=>?_
     rcases hq.euc _ _ hd' with h3|h3
     ·exact hqp h3
     ·exact hm' h3
   rw[e];exact Nat.Coprime.mul_dvd_of_dvd_of_dvd (by rw[Nat.coprime_comm];exact hp.cop_pow hm k) hk hmx
open Classical in
theorem frob_full {p:Nat}(hp:Prm p){n:Nat}{G:List Nat->Prop}{L:List (List Nat)}(hG:iL n G)(E:cX G L){j m m1:Nat}(hlen:L.length=p^j*m)(hm: ¬p∣m)(h1:m1∣m):p^j∣fN n L (m1*p^j):=by
 have L0:=List.length_pos_of_mem ((E.mem _).2 hG.one);have hm1: ¬p∣m1:=λh=>hm (Nat.dvd_trans h h1)
 have m0:0<m1:=Nat.pos_of_ne_zero λe=>hm1 (by rw[e];exact Nat.dvd_zero p)
 have q0:0<p^j:=Nat.pow_pos (by have:=hp.two;omega);rw[f_split hG E (hp.cop_pow hm1 j) m0 q0]
 obtain⟨P,hP⟩: ∃P:List Nat->Prop,∀z,P z↔pw n z m1=aW n:=⟨_,λz=>Iff.rfl⟩
 have hB:(L.filter λz=>decide (pw n z m1=aW n))=L.filter λz=>decide (P z):=List.filter_congr λz _=>decide_eq_decide.2 (hP z).symm
 rw[hB];refine cls_sum hG E (p^j) P (λz=>fN n (cenL L z) (p^j)) ?_ ?_ ?_
 ·intro x c hx hc
  have one: ∀{x c:List Nat},aX n x->aX n c->pw n x m1=aW n->pw n (conjP x c) m1=aW n:=λ{x c} X C h=>by
   rw[←conj_pw X C,h];unfold conjP;rw[bB C.inv,cZ C]
  have X:=hG.isP hx;have C:=hG.isP hc;rw[hP,hP];refine⟨λh=>?_,one X C⟩;have:=one (hG.isP (cj_mem hG hx ⟨c,hc,rfl⟩)) C.inv h;rwa [conjP_inv X C] at this
 ·intro x c hx hc _
  exact f_conj hG E hx hc _
 ·intro z hz _
  have cl:=cls_len hG E hz;have EC:=cen_el E z;have GC':=cenz_grp hG hz;have C0:=List.length_pos_of_mem ((EC.mem _).2 GC'.one);obtain⟨i,m',hi,hm'⟩:=p_part hp _ C0;have key:=pel hp _ _ _ GC' EC (eP _) i m' hi hm';have hij:i<=j:=pow_le hp hm (by rw[←hlen,cl,hi];exact⟨(L.filter λw=>decide (cj G z w)).length*m',by rw[Nat.mul_left_comm]⟩)
  have e1:fN n (cenL L z) (p^j)=fN n (cenL L z) (p^i):=by
   rw[fN_gcd GC' EC (p^j),fN_gcd GC' EC (p^i),hi];congr 1
   obtain⟨d,rfl⟩: ∃d,j=i+d:=⟨j-i,by omega⟩
   rw[Nat.pow_add,Nat.gcd_mul_left,hp.cop_pow hm' d,show Nat.gcd (p^i*m') (p^i)=p^i from Nat.gcd_eq_right ⟨m',rfl⟩,Nat.mul_one]
  rw[e1];obtain⟨s,hs'⟩:=key;rw[hs',←Nat.mul_assoc];refine Nat.dvd_trans ?_ (Nat.dvd_mul_right _ s);refine cop_dvd (b:=m') (by rw[Nat.gcd_comm];exact hp.cop_pow hm' j) ?_;rw[Nat.mul_assoc,←hi,←cl,hlen];exact Nat.dvd_mul_right _ _
section
variable {u v:List Nat}
def upL (n p k:Nat)(u:List Nat):List (List Nat):=(List.range (p^k)).map λi=>pw n u (1+p*i)
section
variable {n p k:Nat} (hp:Prm p)
include hp
theorem up_ord (U:aX n u)(h1:pw n u (p^(k+1))=aW n)(h2: ¬pw n u (p^k)=aW n):cM u n=p^(k+1):=by
 have hd:=(bL U _).2 h1;obtain⟨i,m,e,hm⟩:=p_part hp _ (kA U);have hi:i<=k+1:=pow_le (j:=k+1) (m:=1) hp (λh=>by have:=Nat.le_of_dvd (by omega) h;have:=hp.two;omega) (by rw[Nat.mul_one];exact Nat.dvd_trans ⟨m,e⟩ hd)
 have m1:m=1:=by
  have:m∣Nat.gcd m (p^(k+1)):=Nat.dvd_gcd (Nat.dvd_refl m) (Nat.dvd_trans ⟨p^i,by rw[e,Nat.mul_comm]⟩ hd);rw[hp.cop_pow hm] at this;exact Nat.dvd_one.1 this
 rw[m1,Nat.mul_one] at e;rcases Nat.lt_or_ge i (k+1) with h|h
 ·exact absurd ((bL U _).1 (by rw[e];exact Nat.pow_dvd_pow p (by omega))) h2
 ·rw[e,show i=k+1 by omega]
theorem up_nodup (U:aX n u)(ho:cM u n=p^(k+1)):(upL n p k u).Nodup:=by
 refine nodup_map List.nodup_range λi hi j hj e=>?_
 have hi:=rH.1 hi;have hj:=rH.1 hj;have h2:=hp.two;rw[fZ U,fZ U] at e;have e2:=fF (aY U _) (aY U _) (aY U 1) e
 have bd: ∀i,i<p^k->p*i<cM u n:=λi hi=>by
  rw[ho,Nat.pow_succ,Nat.mul_comm (p^k) p];exact Nat.mul_lt_mul_of_pos_left hi (by omega)
 exact Nat.eq_of_mul_eq_mul_left (by omega) (pw_inj U (bd i hi) (bd j hj) e2)
omit hp in
theorem up_mem (U:aX n u)(ho:cM u n=p^(k+1))(hp0:0<p)(i:Nat):pw n u (1+p*i)∈upL n p k u:=by
 refine jH.2 ⟨i%p^k,rH.2 (Nat.mod_lt _ (Nat.pow_pos hp0)),?_⟩;refine pw_cong U ?_;rw[ho,Nat.pow_succ,Nat.mul_comm (p^k) p,←Nat.add_mod_mod,←Nat.add_mod_mod 1 (p*i),Nat.mul_mod_mul_left,Nat.mul_mod_mul_left,Nat.mod_mod]
theorem up_sub (U:aX n u)(ho:cM u n=p^(k+1))(hv:v∈upL n p k u): ∀w∈upL n p k v,w∈upL n p k u:=by
 intro w hw;obtain⟨i,_,rfl⟩:=jH.1 hv;obtain⟨j,_,rfl⟩:=jH.1 hw;rw[pw_mul' U]
 have:(1+p*i)*(1+p*j)=1+p*(i+j+i*(p*j)):=by
  simp only[Nat.add_mul,Nat.mul_add,Nat.one_mul,Nat.mul_one,Nat.mul_assoc];omega
 rw[this];exact up_mem U ho (by have:=hp.two;omega) _
theorem up_order (U:aX n u)(ho:cM u n=p^(k+1))(hv:v∈upL n p k u):cM v n=p^(k+1):=by
 obtain⟨i,_,rfl⟩:=jH.1 hv;have V:=aY U (1+p*i);refine up_ord hp V ?_ ?_
 ·rw[pw_mul' U]
  exact (bL U _).1 (by rw[ho];exact Nat.dvd_mul_left _ _)
 ·intro h
  rw[pw_mul' U] at h;have h1:=(bL U _).2 h;rw[ho,Nat.pow_succ,Nat.mul_comm (1+p*i)] at h1;have h2:=Nat.dvd_of_mul_dvd_mul_left (Nat.pow_pos (by have:=hp.two;omega)) h1;have h3:p∣1:=(Nat.dvd_add_left (Nat.dvd_mul_right p i)).1 h2;have:=Nat.le_of_dvd (by omega) h3;have:=hp.two;omega
theorem up_symm (U:aX n u)(ho:cM u n=p^(k+1))(hv:v∈upL n p k u):u∈upL n p k v:=by
 have V:aX n v:=by obtain⟨i,_,rfl⟩:=jH.1 hv;exact aY U _
 have hov:=up_order hp U ho hv;have h1:=up_nodup hp V hov
 have hu:u∈upL n p k u:=by
  have:=up_mem U ho (by have:=hp.two;omega) 0;rwa [Nat.mul_zero,Nat.add_zero,pw_one' U] at this
 refine xG λhn=>?_
 have h2:(u::upL n p k v).Nodup:=List.nodup_cons.2 ⟨hn,h1⟩
 have h3:=List.Nodup.length_le_of_subset h2 (l₂:=upL n p k u) λw hw=>by
  rcases List.mem_cons.1 hw with rfl|hw
  ·exact hu
  ·exact up_sub hp U ho hv w hw
 simp [upL] at h3;omega
end
end
section
variable {h:H} {v:V} {n:Nat} {l:List Nat}
theorem takeB_ok (x:Nat)(l:List Int)(n:Int)(h:H)(ht:Tk h x l)(hl:l.length<9223372036854775808)(hn:1<=n)(hn2:n<1000000000):
  Ev T 50 [.ptr x 0,aC n] h (λv h'=> ∃z,v= aC z/\0<=z/\z<n/\Tk h' x l/\FxT x h h'):=by
 obtain⟨vl,a,hg,hs,hne,ha,hx⟩:=ht
 refine bP c_kit_Taker_Take rfl rfl ?_
 have g0:h.cell x 0=some vl:=by rw[H.aF hg];rfl
 have g1:h.cell x 1=some (aC a):=by rw[H.aF hg];rfl
 have ev:dI vl vl=true:=SV.dI hs
 obtain⟨id,off,hsl,hid,hc⟩:=hs.open
 simp (disch:=first|omega|(simp only[Qn];(try omega);done)|fail) only[go_sem,c_kit_Taker_Take,aE,g0,g1,hs.lens,ev]
 by_cases hal:(l.length:Int)<=(a:Int)
 ·rw[decide_eq_true hal]
  simp (disch:=first|omega|(simp only[Qn];(try omega);done)|fail) only[go_sem]
  exact⟨0,rfl,by omega,by omega,⟨vl,a,hg,hs.mono ((Fr.refl h).bJ (by omega)),hne,ha,by show x<h.next+14;omega⟩,FxT.of ((Fr.refl h).bJ (by omega))⟩
 ·rw[decide_eq_false hal]
  simp (disch:=first|omega|(simp only[Qn];(try omega);done)|fail) only[go_sem]
  rw[decide_eq_false (show ¬n<1 by omega)]
  simp (disch:=first|omega|(simp only[Qn];(try omega);done)|fail) only[go_sem,g1,hg]
  have hne2:id≠x:=by
   intro e;have:=hsl.ixa .i64 0 (by omega) (by omega);rcases hs with ⟨_,h0⟩|⟨id',o',len',cap',_,_,rfl,_⟩
   ·have:(ints l).length=0:=by rw[h0];rfl
    rw[aN] at this;omega
   ·have hll:len'=l.length:=Option.some.inj hsl.len
    rw[rR (by omega) (by omega)] at this;simp only[Option.some.injEq,V.ptr.injEq] at this;have:=hne _ _ _ _ rfl;omega
  have c0:h.cell id (off+a)=some (aC (l.getD a 0)):=hc a (by omega)
  have ea:((a:Int)+1- 1).toNat=a:=by omega
  simp (disch:=first|omega|(simp only[Qn];(try omega);done)|fail) only[go_sem,g0,g1,hg,hsl.ixa,c0,ev,ea]
  have hgg: ∀m,(H.mk ((H.mk h.tr (h.next+14)).set x (some (.cells false [vl,aC ((a:Int)+1)]))).tr m).get x=some (.cells false [vl,aC ((a:Int)+1)]):=λm=>H.aT ..
  have hfx:FxT x h (H.mk ((H.mk h.tr (h.next+14)).set x (some (.cells false [vl,aC ((a:Int)+1)]))).tr (h.next+14+14)):=⟨by show h.next<=h.next+14+14;omega,λid hid hne=>H.aH _ hne _⟩
  have hnn:(H.mk ((H.mk h.tr (h.next+14)).set x (some (.cells false [vl,aC ((a:Int)+1)]))).tr (h.next+14+14)).next=h.next+14+14:=rfl
  have hgx:=hgg (h.next+14+14)
  generalize H.mk ((H.mk h.tr (h.next+14)).set x (some (.cells false [vl,aC ((a:Int)+1)]))).tr (h.next+14+14)=h2 at*
  refine (pick_ok (l.getD a 0) n h2 (by omega) hn2).mono ?_
  rintro v h3 ⟨rfl,rfl⟩
  have k0:h3.cell x 0=some vl:=by rw[H.aF hgx];rfl
  have k1:h3.cell x 1=some (aC ((a:Int)+1)):=by rw[H.aF hgx];rfl
  simp (disch:=first|omega|(simp only[Qn];(try omega);done)|fail) only[go_sem,k0,k1,ev]
  have hr:=tmod_range (l.getD a 0) (show 0<n by omega)
  refine⟨_,rfl,hr.1,hr.2,⟨vl,a+1,?_,?_,hne,by omega,by omega⟩,hfx⟩
  ·rw[hgx];simp
  ·rcases hs with h0|⟨id',o',len',cap',ro,vs,rfl,q2,q3,q4,q5,q6⟩
   ·exact .inl h0
   ·exact .inr ⟨id',o',len',cap',ro,vs,rfl,q2,by omega,(hfx.get id' q3 (λe=>by have:=hne _ _ _ _ rfl;omega)).trans q4,q5,q6⟩
theorem koneO_ok (n:Nat)(h:H)(hN:n<=1000):
  Ev T 51 [aC n] h (λv h'=>Own h' v 1 (ints (zi (aW n))) h.next/\Fr h h'):=by
 refine bP c_kit_One rfl rfl ?_
 simp (disch:=first|omega|(simp only[Qn];(try omega);done)|fail) only[go_sem,c_kit_One,aE]
 refine aJ (λk' vars hh=> ∃(i:Nat) (o:V),(∃j:Nat->V,vars= [aC n,j 1,o,aC i,j 4])/\i<=n/\Own hh o 1 (ints (zi ((aW n).take i))) h.next/\Fr h hh/\k'=n-i) n
  ⟨0,.aB,aA rfl,gK _,Own.aB _ _ _,Fr.refl h,rfl⟩ ?_
 rintro k' vars h2 ⟨i,o,⟨jk,rfl⟩,hi,oO,F,rfl⟩
 simp (disch:=first|omega|(simp only[Qn];(try omega);done)|fail) only[go_sem]
 by_cases hlt:(i:Int)<(n:Int)
 ·rw[decide_eq_true hlt]
  have hi':i<n:=by omega
  simp (disch:=first|omega|(simp only[Qn];(try omega);done)|fail) only[go_sem,bls_i1]
  have hf31:Fr h2 (h2.new (.cells false (ints [(i:Int)]))):=(Fr.refl h2).new _
  have hg31:(h2.new (.cells false (ints [(i:Int)]))).get h2.next=some (.cells false (ints [(i:Int)])):=H.aM ..
  have hn31:(h2.new (.cells false (ints [(i:Int)]))).next=h2.next+1:=H.aV ..
  generalize h2.new (.cells false (ints [(i:Int)]))=h31 at*
  have sx:SV h31 (.sl h2.next 0 1 (.kn 1)) 1 (ints [(i:Int)]):=SV.all rfl (by omega) hg31 _
  have nF:=F.next
  have hl:=eJ n
  obtain⟨v2,h32,e32,a32⟩:=(oO.fr hf31).app (bytes:=8) (n:=i) (m:=1) (by omega) sx (by rw[aN,aU,xL,Nat.mul_one];omega) rfl (by omega) (by omega)
  simp (disch:=first|omega|(simp only[Qn];(try omega);done)|fail) only[go_sem,e32]
  have t32:=a32.own
  have hm:=dM hi'
  have e1:zi ((aW n).take i)++ [(i:Int)]=zi ((aW n).take (i+1)):=by rw[take_snoc (by omega),zi_snoc,hm]
  rw[←kB,e1] at t32
  rw[iO i]
  exact⟨n-(i+1),by omega,i+1,v2,aA rfl,by omega,t32,a32.fr h (F.trans hf31) (eP _),rfl⟩
 rw[decide_eq_false hlt]
 obtain rfl:i=n:=by omega
 simp (disch:=first|omega|(simp only[Qn];(try omega);done)|fail) only[go_sem]
 rw[List.take_of_length_le (by rw[eJ];omega)] at oO
 exact⟨oO,F⟩
structure Mp (h:H)(v:V)(n id:Nat)(l:List Nat):Prop where
 ex: ∃cap rest,v= .sl id 0 n cap/\id<h.next/\h.get id=some (.cells false (ints (zi l)++rest))
 isP:aX n l
theorem Mp.of {b:Nat}(h0:0<n)(X:aX n l)(o:Own h v 1 (ints (zi l)) b): ∃id,Mp h v n id l/\b<=id:=by
 rcases o with ⟨_,e⟩|⟨id,m,cap,rest,rfl,e2,e3,e4,e5,e6⟩
 ·have:=congrArg List.length e
  rw[aN,aU,List.length_nil,X.len] at this;omega
 ·rw[aN,aU,Nat.mul_one,X.len] at e2
  subst e2;exact⟨id,⟨⟨cap,rest,rfl,e5,e6⟩,X⟩,e4⟩
theorem Mp.si {id:Nat}(m:Mp h v n id l):SI h v (zi l):=by
 obtain⟨⟨cap,rest,rfl,h1,h2⟩,X⟩:=m;refine .inr ⟨id,0,n,cap,false,_,rfl,by rw[aN,aU,X.len,Nat.mul_one],h1,h2,by rw[jD,aN,aU,X.len];omega,?_⟩;rw[List.drop_zero,Nat.mul_one,List.take_left' (by rw[aN,aU,X.len])]
theorem Mp.mono {h':H}{id:Nat}(m:Mp h v n id l)(hn:h.next<=h'.next)(hg:h'.get id=h.get id):Mp h' v n id l:=by
 obtain⟨⟨cap,rest,h1,h2,h3⟩,X⟩:=m;exact⟨⟨cap,rest,h1,by omega,by rw[hg];exact h3⟩,X⟩
theorem ints_set_zi {rest:List V}{i:Nat}(hi:i<l.length)(x:Nat):(ints (zi l)++rest).set i (aC x)=ints (zi (l.set i x))++rest:=by
 rw[List.set_append_left _ _ (by rw[aN,aU];exact hi)];congr 1;simp [ints,zi,List.map_set]
def cycP (n a b:Nat):List Nat:=(List.range n).map λj=>if j=b- 1 then a else if a<=j/\j<b then j+1 else j
theorem map_at {f:Nat->Nat}{j:Nat}(hj:j<n):((List.range n).map f).getD j 0=f j:=by simp [List.getD,hj]
theorem cycP_isP {a b:Nat}(h1:a<b)(h2:b<=n):aX n (cycP n a b):=by
 unfold cycP;refine aX.Bf (by simp) (λi hi=>?_) (λi j hi hj h=>?_)
 ·rw[map_at hi]
  split
  ·omega
  ·split<;>omega
 ·rw[map_at hi,map_at hj] at h
  split at h<;>split at h<;>(try split at h)<;>(try split at h)<;>omega
theorem rc_nat (f:Nat->Nat):(rc n λj=>aC (f j:Nat))=ints (zi ((List.range n).map f)):=by
 have e:=Da ((List.range n).map f);rw[jS,List.length_range] at e;rw[←e];exact bH λj hj=>by rw[map_at hj]
theorem cycle_ok (h:H)(v:V)(n id a b:Nat)(hn:n<=64)(m:Mp h v n id (aW n))(h1:a<b)(h2:b<=n):
  Ev T 53 [v,aC a,aC b] h (λw h'=>w=v/\Mp h' v n id (cycP n a b)/\FxT id h h'):=by
 refine bP c_kit_cycle rfl rfl ?_
 obtain⟨⟨cap,rest,rfl,hid,hg⟩,_⟩:=m
 have e0:ints (zi (aW n))=rc n λj=> aC (((if a<=j/\j<a then j+1 else j:Nat)):Int):=by
  rw[rc_nat];congr 2;refine (lW (by simp [aW]) λi hi=>?_).symm;rw[jS,List.length_range] at hi;rw[map_at hi,dM hi,if_neg (by omega)]
 rw[e0] at hg
 simp (disch:=first|omega|(simp only[Qn];(try omega);done)|fail) only[go_sem,c_kit_cycle,aE]
 refine cF (λvs hh=>(∃g:Nat->V,vs= [.sl id 0 n cap,aC a,aC b,g 3,g 4,g 5])/\hh.get id=some (.cells false ((rc n λj=> aC (((if a<=j/\j<b then j+1 else j:Nat)):Int))++rest))/\FxT id h hh) ?_ ?_
 ·refine aJ (λk' vars hh=> ∃(i:Nat),(∃g:Nat->V,vars= [.sl id 0 n cap,aC a,aC b,g 3,aC i,g 5])/\a<=i/\i<=b/\hh.get id=some (.cells false ((rc n λj=> aC (((if a<=j/\j<i then j+1 else j:Nat)):Int))++rest))/\FxT id h hh/\k'=b-i) (b-a)
   ⟨a,aA rfl,eP _,by omega,hg,FxT.refl _ _,rfl⟩ ?_
  rintro k' vars h3 ⟨i,⟨g,rfl⟩,hi1,hi2,g3,f3,rfl⟩
  by_cases hlt:(i:Int)<(b:Int)
  case neg=>
   have e1:=iG hlt;obtain rfl:i=b:=by omega
   simp (disch:=first|omega|(simp only[Qn];(try omega);done)|fail) only[go_sem,e1];exact⟨aA rfl,g3,f3⟩
  have e1:=mF hlt
  have hin:i<n:=by omega
  have e3:decide ((i:Int)<0)=false:=iG (by omega)
  have e4:decide ((n:Int)<=(i:Int))=false:=iG (by omega)
  have pt:=bE (vs:=(rc n λj=> aC (((if a<=j/\j<i then j+1 else j:Nat)):Int))++rest) (off:=i) (by rw[jD,cV];omega) h3 id (aC ((i:Int)+1))
  rw[List.set_append_left _ _ (by rw[cV];exact hin),eY] at pt
  simp (disch:=first|omega|(simp only[Qn];(try omega);done)|fail) only[go_sem,e1,e3,e4,g3,pt]
  rw[iO i]
  refine⟨b-(i+1),by omega,i+1,aA rfl,by omega,by omega,?_,f3.set _,rfl⟩
  congr 3
  refine bH λj hj=>?_
  by_cases e:j=i
  ·rw[if_pos e,if_pos ⟨by omega,by omega⟩,e]
  ·rw[if_neg e]
   by_cases e5:a<=j/\j<i
   ·rw[if_pos e5,if_pos ⟨e5.1,by omega⟩]
   ·rw[if_neg e5,if_neg (by omega)]
 rintro vars h3 ⟨⟨g,rfl⟩,g3,f3⟩
 have eb:(b:Int)- 1=((b- 1:Nat):Int):=by omega
 have e3:decide (((b- 1:Nat):Int)<0)=false:=iG (by omega)
 have e4:decide ((n:Int)<=((b- 1:Nat):Int))=false:=iG (by omega)
 have pt:=bE (vs:=(rc n λj=> aC (((if a<=j/\j<b then j+1 else j:Nat)):Int))++rest) (off:=b- 1) (by rw[jD,cV];omega) h3 id (aC a)
 rw[List.set_append_left _ _ (by rw[cV];omega),eY] at pt
 simp (disch:=first|omega|(simp only[Qn];(try omega);done)|fail) only[go_sem,eb,e3,e4,g3,pt]
 refine⟨⟨⟨cap,rest,rfl,gE hid f3.next,?_⟩,cycP_isP h1 h2⟩,f3.set _⟩
 rw[H.aT]
 congr 3
 unfold cycP
 rw[←rc_nat]
 refine bH λj hj=>?_
 by_cases e:j=b- 1
 ·rw[if_pos e,if_pos e]
 ·rw[if_neg e,if_neg e]
def swpP (l:List Nat)(i k:Nat):List Nat:=(l.set i (l.getD k 0)).set k (l.getD i 0)
theorem swpP_isP (X:aX n l){i k:Nat}(hi:i<n)(hk:k<n):aX n (swpP l i k):=by
 have hl:=X.len
 have Xl: ∀j,j<n->(swpP l i k).getD j 0=if j=k then l.getD i 0 else if j=i then l.getD k 0 else l.getD j 0:=λj hj=>by
  unfold swpP;rw[cG (by simp;omega),List.getElem_set]
  by_cases e:k=j
  ·rw[if_pos e,if_pos e.symm]
  ·rw[if_neg e,if_neg (Ne.symm e),List.getElem_set]
   by_cases e2:i=j
   ·rw[if_pos e2,if_pos e2.symm]
   ·rw[if_neg e2,if_neg (Ne.symm e2)];exact (cG (by omega)).symm
 refine aX.Bf (by unfold swpP;simp [hl]) (λj hj=>?_) (λa c ha hc h=>?_)
 ·rw[Xl j hj]
  split
  ·exact X.dU hi
  ·split
   ·exact X.dU hk
   ·exact X.dU hj
 ·rw[Xl a ha,Xl c hc] at h
  split at h<;>split at h<;>(try split at h)<;>(try split at h)
  all_goals first
   |omega
   |(have:=X.inj hi hi h;omega)
   |(have:=X.inj hi hk h;omega)
   |(have:=X.inj hk hi h;omega)
   |(have:=X.inj hi hc h;omega)
   |(have:=X.inj ha hi h;omega)
   |(have:=X.inj hk hk h;omega)
   |(have:=X.inj hk hc h;omega)
   |(have:=X.inj ha hk h;omega)
   |(have:=X.inj ha hc h;omega)
theorem kperm_ok (x:Nat)(l:List Int)(n:Nat)(h:H)(hn:n<=64)(n0:0<n)(ht:Tk h x l)(hl:l.length<9223372036854775808):
  Ev T 52 [.ptr x 0,aC n] h (λv h'=> ∃id q,Mp h' v n id q/\h.next<=id/\Tk h' x l/\FxT x h h'):=by
 refine bP c_kit_Perm rfl rfl ?_
 simp (disch:=first|omega|(simp only[Qn];(try omega);done)|fail) only[go_sem,c_kit_Perm,aE]
 refine (koneO_ok n h (by omega)).mono ?_
 rintro v h1 ⟨o1,f1⟩
 obtain⟨id,m1,hid⟩:=Mp.of n0 (aX.one n) o1
 have m1':=m1
 obtain⟨⟨cap,rest0,rfl,_,_⟩,_⟩:=m1'
 have hxn:x<h.next:=by obtain⟨_,_,_,_,_,_,hx⟩:=ht;exact hx
 have hne:id≠x:=by omega
 simp (disch:=first|omega|(simp only[Qn];(try omega);done)|fail) only[go_sem]
 refine aJ (λk' vars hh=> ∃(i:Nat) (q:List Nat),(∃g:Nat->V,vars= [.ptr x 0,aC n,g 2,.sl id 0 n cap,aC i,g 5,g 6])/\i<n/\Mp hh (.sl id 0 n cap) n id q/\Tk hh x l/\FxT x h hh/\k'=n-i) n
  ⟨0,aW n,aA rfl,n0,m1,ht.mono f1,FxT.of f1,rfl⟩ ?_
 rintro k' vars h2 ⟨i,q,⟨g,rfl⟩,hi,m2,t2,f2,rfl⟩
 by_cases hlt:(i:Int)+1<(n:Int)
 case neg=>
  have e1:=iG hlt;simp (disch:=first|omega|(simp only[Qn];(try omega);done)|fail) only[go_sem,e1];exact⟨id,q,m2,hid,t2,f2⟩
 have e1:=mF hlt
 simp (disch:=first|omega|(simp only[Qn];(try omega);done)|fail) only[go_sem,e1]
 refine (takeB_ok x l ((n:Int)-(i:Int)) h2 t2 hl (by omega) (by omega)).mono ?_
 rintro _ h3 ⟨z,rfl,hz0,hz1,t3,f3⟩
 obtain⟨c,rfl⟩: ∃c:Nat,z=(c:Int):=⟨z.toNat,by omega⟩
 obtain⟨k,hk⟩: ∃k,k=i+c:=⟨_,rfl⟩
 have ek:(i:Int)+(c:Int)=(k:Int):=by omega
 have hkn:k<n:=by omega
 have m3:=m2.mono f3.next (f3.get id (by obtain⟨⟨_,_,_,h5,_⟩,_⟩:=m2;exact h5) hne)
 obtain⟨⟨cap',rest,e,hid3,g3⟩,Q⟩:=m3
 cases e
 have ql:=Q.len
 have cell: ∀hh:H,∀l':List Nat,l'.length=n->hh.get id=some (.cells false (ints (zi l')++rest))-> ∀j,j<n->hh.cell id j=some (aC (l'.getD j 0:Nat)):=λhh l' hl' hg j hj=>by
  rw[H.aF hg,wY (by rw[aN,aU];omega),qZ (by omega)]
 have ci:=cell h3 q ql g3 i hi
 have ck:=cell h3 q ql g3 k hkn
 have a1:decide ((i:Int)<0)=false:=iG (by omega)
 have a2:decide ((n:Int)<=(i:Int))=false:=iG (by omega)
 have a3:decide ((k:Int)<0)=false:=iG (by omega)
 have a4:decide ((n:Int)<=(k:Int))=false:=iG (by omega)
 have pt: ∀(hh:H) (l':List Nat) (j y:Nat),l'.length=n->j<n->dV (some (.cells false (ints (zi l')++rest))) hh id j [aC y]=some (hh.set id (some (.cells false (ints (zi (l'.set j y))++rest)))):=λhh l' j y hl' hj=>by
  rw[bE (by rw[jD,aN,aU];omega),ints_set_zi (by omega)]
 simp (disch:=first|omega|(simp only[Qn];(try omega);done)|fail) only[go_sem,ek]
 simp (disch:=first|omega|(simp only[Qn];(try omega);done)|fail) only[go_sem,a1,a2,a3,a4,ci,ck,g3,pt _ q i (q.getD k 0) ql hi,pt _ (q.set i (q.getD k 0)) k (q.getD i 0) (by simp [ql]) hkn]
 rw[iO i]
 obtain⟨h4,h4e⟩: ∃h4:H,h4=((H.mk h3.tr (h3.next+16)).set id (some (.cells false (ints (zi (q.set i (q.getD k 0)))++rest)))).set id (some (.cells false (ints (zi ((q.set i (q.getD k 0)).set k (q.getD i 0)))++rest))):=⟨_,rfl⟩
 rw[←h4e]
 have n4:h4.next=h3.next+16:=by rw[h4e];rfl
 have o4: ∀j,j≠id->h4.get j=h3.get j:=λj hj=>by rw[h4e,H.aH _ hj,H.aH _ hj];rfl
 have g4:h4.get id=some (.cells false (ints (zi (swpP q i k))++rest)):=by rw[h4e,H.aT];rfl
 refine⟨n-(i+1),by omega,i+1,swpP q i k,aA rfl,by omega,⟨⟨cap,rest,rfl,by omega,g4⟩,swpP_isP Q hi hkn⟩,t3.low (by omega) (λj hj=>o4 j (by omega)),?_,rfl⟩
 have f23:=f2.trans f3
 have:=f23.next
 exact⟨by omega,λj hj hjx=>by rw[o4 j (by omega)];exact f23.get j hj hjx⟩
end
theorem boxV_two (h:H){v u:V}(hv1:v.one=true)(hu1:u.one=true):uI h (.agg [v,u])=some (.ptr h.next 0,h.new (.cells false [v,u])):=nP h _ (by simp [hv1,hu1])
theorem putO_snd {x y:V}(h:H)(id:Nat)(u:V):dV (cE [x,y]) h id 1 [u]=some (h.set id (cE [x,u])):=by
 simp [dV,putAt]
theorem bld_fst {v z w:V}(hc:v.cells= [v])(ho:v.one=true):mM [z,w] [(0,1,v)]=some (.agg [v,w]):=by
 have e1:putAt [z,w] 0 [v]=some [v,w]:=by simp [putAt]
 simp [mM,fU,e1,hc,ho]
theorem FxT.cell {x:Nat}{a c:H}(f:FxT x a c){id off:Nat}(h1:id<a.next)(h2:id≠x):c.cell id off=a.cell id off:=by unfold H.cell;rw[f.get id h1 h2]
structure GJ (h hh:H)(T0 C D n:Nat)(l:List Int)(gens:LN):Prop where
 ex: ∃vg ws,hh.get C=cE [aC n,vg]/\Own hh vg 1 ws (C+1)/\PVs (λid=>id<=C∨ ∃off m c,vg= .sl id off m c) hh ws gens
 tk:Tk hh T0 l
 gD:hh.get D=cE [aC 0,.aB]
 isP: ∀g∈gens,aX n g
 nx:C<hh.next
 fr:Fr h hh
theorem groupOf_ok (vl:V)(l:List Int)(most:Nat)(h:H)(hv:SI h vl l)(hl:l.length<9223372036854775808)(m1:1<=most)(m2:most<=60):
  Ev T 17 [vl,aC most] h (λv h'=> ∃(n:Nat) (vg:V) (gens:LN),v= .agg [aC n,vg]/\1<=n/\n<=most/\gens.length<=3/\(∀g∈gens,aX n g)/\SP h' vg gens/\Fr h h'):=by
 refine bP c_kit_GroupOf rfl rfl ?_
 obtain⟨D,hD⟩:=AS h.next
 obtain⟨h1,e1,n1,g1,o1,f1⟩:=fC hD [aC 0,.aB]
 obtain⟨h2,e2,n2,g2,o2,f2⟩:=fC n1 [vl,aC 0]
 have wl:=SV.cW hv
 simp(disch:=omega)only[go_sem,c_kit_GroupOf,aE,hD,e1,bld_fst wl.1 wl.2.1,boxV_two h1 (v:=vl) (u:= aC 0) wl.2.1 rfl,n1,e2]
 have tk2:Tk h2 (D+1) l:=⟨vl,0,g2,hv.mono (f1.trans f2),λid off len c e=>by have:=SV.in hv _ _ _ _ e;omega,gK _,by omega⟩
 refine (takeB_ok (D+1) l most h2 tk2 hl (by omega) (by omega)).mono ?_
 rintro _ h3 ⟨z,rfl,hz0,hz1,tk3,f3⟩
 obtain⟨n,hn⟩: ∃n:Nat,1+z=(n:Int):=⟨(1+z).toNat,by omega⟩
 have n3:=f3.next
 obtain⟨C,hC⟩:=AS h3.next
 obtain⟨h4,e4,n4,g4,o4,f4⟩:=fC hC [aC 0,.aB]
 obtain⟨h5,e5,n5,g5,o5⟩:=uB h4 C [aC n,.aB]
 simp(disch:=omega)only[go_sem,hn,hC,e4,bld_fst (v:= aC n) (z:= aC 0) (w:= .aB) rfl rfl,rJ h4 C 0 (v:= aC n) (u:= .aB) rfl rfl,g4,oX,e5]
 have tk5:Tk h5 (D+1) l:=tk3.low (by omega) (λid hid=>by rw[o5 id (by omega),o4 id (by omega)])
 refine (takeB_ok (D+1) l 4 h5 tk5 hl (by omega) (by omega)).mono ?_
 rintro _ h6 ⟨z2,rfl,hk0,hk1,tk6,f6⟩
 obtain⟨K,rfl⟩: ∃K:Nat,z2=(K:Int):=⟨z2.toNat,by omega⟩
 have n6:=f6.next
 simp(disch:=omega)only[go_sem]
 refine aJ (λk' vars hh=> ∃(k:Nat) (gens:LN),(∃g:Nat->V,vars= [vl,aC most,.ptr D 0,.ptr (D+1) 0,.ptr C 0,aC k,g 6,g 7,g 8,g 9,g 10])/\gens.length+k<=3/\GJ h hh (D+1) C D n l gens/\k'=k) K
  ⟨K, [],aA rfl,by simp;omega,⟨⟨.aB, [],by rw[f6.get C (by omega) (by omega)];exact g5,Own.aB _ _ _,trivial⟩,tk6,?_,λg hg=>absurd hg List.not_mem_nil,by omega,?_⟩,rfl⟩ ?_
 ·rw[f6.get D (by omega) (by omega),o5 D (by omega),o4 D (by omega),f3.get D (by omega) (by omega),o2 D (by omega)];exact g1
 ·refine⟨by omega,λid hid=>?_⟩
  rw[f6.get id (by omega) (by omega),o5 id (by omega),o4 id (by omega),f3.get id (by omega) (by omega),o2 id (by omega),o1 id (by omega)]
 rintro k' vars h7 ⟨k,gens,⟨g,rfl⟩,hk,J,rfl⟩
 have cn:h7.cell C 0=some (aC n):=by
  obtain⟨⟨vg,ws,gC,_⟩,_⟩:=J;rw[H.aF gC];rfl
 by_cases hlt:(0:Int)<(k':Int)
 case neg=>
  have d1:=iG hlt;obtain⟨⟨vg,ws,gC,ow,pvs⟩,tk,gD,isP,nx,fr⟩:=J;have rC:=zW gC;obtain⟨h8,e8,n8,g8,o8⟩:=uB h7 D [aC n,vg];have r8:=zW g8;have wg:=SV.cW ow.sv;simp(disch:=omega)only[go_sem,d1,rC,rJ h7 D 0 (v:= aC n) (u:=vg) rfl wg.2.1,gD,oX,e8,r8]
  have x8:Fx (λid=>id<=C∨ ∃off m c,vg= .sl id off m c) h7 h8:=⟨by omega,λid _ hw=>o8 id (λe=>hw (.inl (by omega)))⟩
  have sv8:SV h8 vg 1 ws:=(ow.keep (h':=h8) (by omega) (λid off m c e hid=>by have:=(ow.in _ _ _ _ e).2.1;exact o8 id (by omega))).sv;refine⟨n,vg,gens,rfl,by omega,by omega,by omega,isP,⟨ws,sv8,?_⟩,⟨by have:=fr.next;omega,λid hid=>by rw[o8 id (by omega)];exact fr.get id hid⟩⟩;have pv8:=PVs.fx pvs x8;have hl8:=All2.length pv8
  exact All2.iS (by simpa using hl8) λi hi hj=>by
   have:=(All2.get pv8 i hi (by omega)).si;simpa using this
 have d1:=mF hlt
 have nx:=J.nx
 have hn0:0<n:=by omega
 have hn64:n<=64:=by omega
 simp(disch:=omega)only[go_sem,d1,cn]
 refine (koneO_ok n h7 (by omega)).mono ?_
 rintro v6 h8 ⟨o6,f8⟩
 obtain⟨id6,mp8,hid6⟩:=Mp.of hn0 (aX.one n) o6
 simp(disch:=omega)only[go_sem]
 refine (takeB_ok (D+1) l 3 h8 (J.tk.mono f8) hl (by omega) (by omega)).mono ?_
 rintro _ h9 ⟨z3,rfl,_,_,tk9,f9⟩
 have fT9:FxT (D+1) h7 h9:=(FxT.of f8).trans f9
 have mp9:Mp h9 v6 n id6 (aW n):=mp8.mono f9.next (f9.get id6 (by obtain⟨⟨_,_,_,h5,_⟩,_⟩:=mp8;exact h5) (by omega))
 have cell7: ∀hh,FxT (D+1) h7 hh->hh.cell C 0=some (aC n):=λhh f=>by rw[f.cell nx (by omega)];exact cn
 simp(disch:=omega)only[go_sem]
 refine jQ (λvs hh=> ∃(v6:V) (x:List Nat),(∃g:Nat->V,vs= [vl,aC most,.ptr D 0,.ptr (D+1) 0,.ptr C 0,aC (k':Int),v6,g 7,g 8,g 9,g 10])/\SI hh v6 (zi x)/\aX n x/\(∀id off len cap,v6= .sl id off len cap->h7.next<=id)/\Tk hh (D+1) l/\FxT (D+1) h7 hh) ?_ ?_
 ·refine bD (λ_=>?_) (λ_=>?_)
  ·simp(disch:=omega)only[go_sem,cell7 h9 fT9]
   refine (kperm_ok (D+1) l n h9 hn64 hn0 tk9 hl).mono ?_
   rintro w h10 ⟨id,q,mp,hid,tk10,f10⟩
   have n9:=fT9.next
   simp(disch:=omega)only[go_sem]
   refine .inl ⟨w,q,aA rfl,mp.si,mp.isP,λid' off len cap e=>?_,tk10,fT9.trans f10⟩
   obtain⟨⟨_,_,e2,_⟩,_⟩:=mp
   rw[e2] at e;cases e;omega
  ·simp(disch:=omega)only[go_sem,cell7 h9 fT9]
   refine (takeB_ok (D+1) l n h9 tk9 hl (by omega) (by omega)).mono ?_
   rintro _ h10 ⟨z4,rfl,a4,b4,tk10,f10⟩
   obtain⟨a,rfl⟩: ∃a:Nat,z4=(a:Int):=⟨z4.toNat,by omega⟩
   have fT10:=fT9.trans f10
   simp(disch:=omega)only[go_sem,cell7 h10 fT10]
   refine (takeB_ok (D+1) l ((n:Int)-(a:Int)) h10 tk10 hl (by omega) (by omega)).mono ?_
   rintro _ h11 ⟨z5,rfl,a5,b5,tk11,f11⟩
   obtain⟨c,rfl⟩: ∃c:Nat,z5=(c:Int):=⟨z5.toNat,by omega⟩
   have fT11:=fT10.trans f11
   have f911:=f10.trans f11
   have id9:id6<h9.next:=by obtain⟨⟨_,_,_,h5,_⟩,_⟩:=mp9;exact h5
   have mp11:Mp h11 v6 n id6 (aW n):=mp9.mono f911.next (f911.get id6 id9 (by omega))
   have eb:(a:Int)+1+(c:Int)=((a+1+c:Nat):Int):=by omega
   simp(disch:=omega)only[go_sem,eb]
   refine (cycle_ok h11 v6 n id6 a (a+1+c) hn64 mp11 (by omega) (by omega)).mono ?_
   rintro w h12 ⟨hw,mp12,f12⟩
   have hw':=hw.symm
   subst hw'
   have n8:=fT9.next
   have n9:=f911.next
   have n12:=f12.next
   have fT12:FxT (D+1) h7 h12:=⟨by omega,λid hid hne=>by rw[f12.get id (by omega) (by omega),f911.get id (by omega) hne];exact fT9.get id hid hne⟩
   have tk12:Tk h12 (D+1) l:=tk11.low n12 (λid hid=>f12.get id (by omega) (by omega))
   have id12:id6<h12.next:=by omega
   simp(disch:=omega)only[go_sem,cell7 h12 fT12]
   refine (takeB_ok (D+1) l n h12 tk12 hl (by omega) (by omega)).mono ?_
   rintro _ h13 ⟨z6,rfl,a6,b6,tk13,f13⟩
   obtain⟨a2,rfl⟩: ∃a:Nat,z6=(a:Int):=⟨z6.toNat,by omega⟩
   simp(disch:=omega)only[go_sem]
   refine (takeB_ok (D+1) l 2 h13 tk13 hl (by omega) (by omega)).mono ?_
   rintro _ h14 ⟨z7,rfl,a7,b7,tk14,f14⟩
   have fT14:=(fT12.trans f13).trans f14
   have f1214:=f13.trans f14
   have n14:=f1214.next
   have mp14:Mp h14 v6 n id6 _:=mp12.mono f1214.next (f1214.get id6 id12 (by omega))
   have fr6: ∀id off len cap,v6= .sl id off len cap->h7.next<=id:=λid' off len cap e=>by
    obtain⟨⟨_,_,e2,_⟩,_⟩:=mp14;rw[e2] at e;cases e;omega
   simp(disch:=omega)only[go_sem]
   refine bD (λhz=>?_) (λhz=>?_)
   ·have v6e:=SV.dI mp14.si
    simp(disch:=omega)only[go_sem,cell7 h14 fT14]
    have fb:Fr h14 (H.mk h14.tr (h14.next+17)):=(Fr.refl h14).bJ (by omega)
    refine (koneO_ok n _ (by omega)).mono ?_
    rintro w h15 ⟨ow,f15⟩
    obtain⟨idw,mp15,hidw⟩:=Mp.of hn0 (aX.one n) ow
    have n15:=f15.next
    have hb:(H.mk h14.tr (h14.next+17)).next=h14.next+17:=rfl
    rw[hb] at hidw n15
    have f1415:=fb.trans f15
    have fT15:=fT14.trans (FxT.of f1415)
    have idw15:idw<h15.next:=by obtain⟨⟨_,_,_,h5,_⟩,_⟩:=mp15;exact h5
    simp(disch:=omega)only[go_sem,cell7 h15 fT15]
    refine (takeB_ok (D+1) l ((n:Int)-(a2:Int)) h15 (tk14.mono f1415) hl (by omega) (by omega)).mono ?_
    rintro _ h16 ⟨z8,rfl,a8,b8,tk16,f16⟩
    obtain⟨c2,rfl⟩: ∃c:Nat,z8=(c:Int):=⟨z8.toNat,by omega⟩
    have fT16:=fT15.trans f16
    have n16:=f16.next
    have n147:=fT14.next
    have mp16:Mp h16 w n idw (aW n):=mp15.mono f16.next (f16.get idw idw15 (by omega))
    have eb2:(a2:Int)+1+(c2:Int)=((a2+1+c2:Nat):Int):=by omega
    simp(disch:=omega)only[go_sem,cell7 h16 fT16,eb2]
    refine (cycle_ok h16 w n idw a2 (a2+1+c2) hn64 mp16 (by omega) (by omega)).mono ?_
    rintro w' h17 ⟨hw2,mp17,f17⟩
    have hw2':=hw2.symm
    subst hw2'
    have n17:=f17.next
    have fT17:FxT (D+1) h7 h17:=⟨by have:=fT16.next;omega,λid hid hne=>by rw[f17.get id (by have:=fT16.next;omega) (by omega)];exact fT16.get id hid hne⟩
    have tk17:Tk h17 (D+1) l:=tk16.low n17 (λid hid=>f17.get id (by omega) (by omega))
    have id14:id6<h14.next:=by obtain⟨⟨_,_,_,h5,_⟩,_⟩:=mp14;exact h5
    have mp617:Mp h17 v6 n id6 _:=mp14.mono (by omega) (by rw[f17.get id6 (by omega) (by omega),f16.get id6 (by omega) (by omega),f1415.get id6 id14])
    simp(disch:=omega)only[go_sem,cell7 h17 fT17,v6e]
    refine (kmul_ok v6 w _ _ h17 (by rw[mp617.isP.len];omega) mp617.si mp17.si (λj hj=>by rw[mp17.isP.len];exact mp617.isP.dU (by rw[←mp617.isP.len];exact hj))).mono ?_
    rintro v h18 ⟨s18,f18,l18⟩
    have fT18:=fT17.trans (FxT.of f18)
    simp(disch:=omega)only[go_sem,cell7 h18 fT18,v6e]
    exact .inl ⟨v,_,aA rfl,s18,mp617.isP.mul mp17.isP,λid off len cap e=>by have:=l18 _ _ _ _ e;have:=fT17.next;omega,tk17.mono f18,fT18⟩
   ·simp(disch:=omega)only[go_sem]
    exact .inl ⟨v6,_,aA rfl,mp14.si,mp14.isP,fr6,tk14,fT14⟩
 clear mp8 mp9 o6 f8 tk9 fT9 v6 h8 h9 f9 hid6
 rintro vars h8 ⟨v6,x,⟨g,rfl⟩,sx,X,fr6,tk8,f8⟩
 obtain⟨⟨vg,ws,gC,ow,pvs⟩,_,gD,isP,_,fr⟩:=J
 have n8:=f8.next
 have hvin:=λid off m c (e:vg=V.sl id off m c)=>ow.in id off m c e
 have hlw:=All2.length pvs
 have gC8:h8.get C=cE [aC n,vg]:=by rw[f8.get C nx (by omega)];exact gC
 have c8:h8.cell C 1=some vg:=by rw[H.aF gC8];rfl
 have frn:=fr.next
 have Fr8:Fr h h8:=⟨by omega,λid hid=>by rw[f8.get id (by omega) (by omega)];exact fr.get id hid⟩
 have ow8:Own h8 vg 1 ws (C+1):=ow.keep n8 λid off m c e hid=>by have:=(hvin _ _ _ _ e).2.1;exact f8.get id hid (by omega)
 have pv8:PVs (λid=>id<=C∨ ∃off m c,vg= .sl id off m c) h8 ws gens:=PVs.fx pvs ⟨n8,λid hid hw=>f8.get id hid (λe=>hw (.inl (by omega)))⟩
 have px:PV (λid=>id<=C∨ ∃off m c,vg= .sl id off m c) h8 v6 x:=by
  refine⟨sx,?_⟩
  cases v6 with
  |sl id off len cap=>
   have:=fr6 _ _ _ _ rfl;rintro (h|⟨off',m',c',e⟩)
   ·omega
   ·have:=(hvin _ _ _ _ e).1;omega
  |_=>trivial
 obtain⟨h9,e9,n9,g9,o9,f9⟩:=fC (h:=h8) rfl [v6]
 have ow9:=ow8.fr f9
 obtain⟨h10,a10,p10⟩:=ow9.push (bytes:=24) (SV.one (by omega) g9 (.kn 1)) (n:=gens.length) (m:=1) (by omega) rfl (by omega) (by omega) (by omega)
 have n10:=p10.next
 rw[n9] at a10
 have apC:dA vg C:=λid off m c e e2=>by have:=(hvin _ _ _ _ e).2.1;omega
 have gC10:h10.get C=cE [aC n,vg]:=by rw[p10.old C (by omega) apC,o9 C (by omega)];exact gC8
 obtain⟨h11,e11,n11,g11,o11⟩:=uB h10 C [aC n,.sl (h8.next+1) 0 (gens.length+1) (.un 1)]
 simp(disch:=omega)only[go_sem,c8,dC _ (z:= .aB) px.eN.1 px.eN.2,e9,a10,gC10,putO_snd,e11]
 have ek:(k':Int)- 1=((k'- 1:Nat):Int):=by omega
 rw[ek]
 have old: ∀id,id<h8.next->id≠C->dA vg id->h11.get id=h8.get id:=λid h1 h2 h3=>by rw[o11 id h2,p10.old id (by omega) h3,o9 id (by omega)]
 have apl: ∀id,id<=C->dA vg id:=λid hid id' off m c e e2=>by have:=(hvin _ _ _ _ e).2.1;omega
 have ow11:=p10.own (by omega) rfl (b:=C+1) (by omega)
 rw[n9] at ow11
 have x11:Fx (λid=>id<=C∨ ∃off m c,vg= .sl id off m c) h8 h11:=⟨by omega,λid hid hw=>old id hid (λe=>hw (.inl (by omega))) (λid' off m c e e2=>hw (.inr ⟨off,m,c,e2▸e⟩))⟩
 have hw11: ∀id,id<h8.next->(id<=C∨ ∃off m c,V.sl (h8.next+1) 0 (gens.length+1) (.un 1)= .sl id off m c)->(id<=C∨ ∃off m c,vg= .sl id off m c):=λid hid hw=>by
  rcases hw with hw|⟨off,m,c,e⟩
  ·exact .inl hw
  ·cases e;omega
 refine⟨k'- 1,by omega,k'- 1,gens++ [x],aA rfl,by rw[jD];simp;omega,⟨⟨_,_,g11,ow11.keep (by omega) (λid off m c e hid=>by cases e;exact o11 _ (by omega)),(PVs.go pv8 x11 hw11).append (PVs.one (PV.go px x11 hw11))⟩,tk8.low (by omega) (λid hid=>old id (by omega) (by omega) (apl id (by omega))),?_,λu hu=>?_,by omega,⟨by omega,λid hid=>?_⟩⟩,rfl⟩
 ·rw[old D (by omega) (by omega) (apl D (by omega)),f8.get D (by omega) (by omega)];exact gD
 ·rcases xH.1 hu with hu|hu
  ·exact isP u hu
  ·simp at hu;subst hu;exact X
 ·rw[old id (by omega) (by omega) (apl id (by omega))];exact Fr8.get id hid
set_option maxRecDepth 100000
def ordF (n:Nat)(x:List Nat):Nat->Nat->Nat
 |0,k=>k
 |f+1,k=>if pw n x k=aW n then k else ordF n x f (k+1)
def ordB (n:Nat)(x:List Nat):Nat:=ordF n x 420 1
theorem ordF_ok {n:Nat}{x:List Nat}(X:aX n x): ∀f k,0<k->k<=cM x n->cM x n<=k+f->ordF n x f k=cM x n
 |0,k,_,h1,h2=>by show k=_;omega
 |f+1,k,h0,h1,h2=>by
  unfold ordF;split
  ·rename_i e
   exact Nat.le_antisymm h1 (Nat.le_of_dvd h0 ((bL X k).2 e))
  ·rename_i e
   refine ordF_ok X f (k+1) (by omega) ?_ (by omega)
   by_cases h:k=cM x n
   ·exact absurd ((bL X k).1 (by rw[h];exact Nat.dvd_refl _)) e
   ·omega
theorem ordB_ok {n:Nat}{x:List Nat}(X:aX n x)(hn:n<=7):cM x n=ordB n x:=
 (ordF_ok X 420 1 (by omega) (kA X) (by have:=Nat.le_of_dvd (by omega) (ordP_420 X hn);omega)).symm
def cRb (L:LN)(i j:Nat):Bool:=L.any λc=>conjP (L.getD i []) c==L.getD j []
def orbB (L:LN)(i:Nat):List Nat:=(List.range L.length).filter (cRb L i)
def repsB (L:LN):List Nat:=(List.range L.length).filter λj=>(List.range j).all λi=>!cRb L i j
def numB (L:LN)(K:List Nat)(j:Nat):Nat:=K.findIdx λr=>cRb L r j
def kLtB (n:Nat)(L:LN)(r s:Nat):Bool:=decide (ordB n (L.getD r [])<ordB n (L.getD s [])∨ordB n (L.getD r [])=ordB n (L.getD s [])/\((orbB L r).length<(orbB L s).length∨(orbB L r).length=(orbB L s).length/\r<s))
section
variable {n:Nat} {G:List Nat->Prop} {L:LN} {K:List Nat}
theorem cj_iff (E:cX G L){x y:List Nat}:cj G x y↔(L.any λc=>conjP x c==y)=true:=by
 rw[List.any_eq_true];constructor
 ·rintro⟨c,hc,e⟩
  exact⟨c,(E.mem c).2 hc,by simpa using e⟩
 ·rintro⟨c,hc,e⟩
  exact⟨c,(E.mem c).1 hc,by simpa using e⟩
theorem cR_iff (E:cX G L){i j:Nat}:cR G L i j↔cRb L i j=true:=cj_iff E
theorem cRb_eq (E:cX G L)(i j:Nat)(d:Decidable (cR G L i j)): @decide (cR G L i j) d=cRb L i j:=by
 rw[Bool.eq_iff_iff,decide_eq_true_iff];exact cR_iff E
theorem orbC_eq (E:cX G L)(i:Nat):orbC G L i=orbB L i:=by
 unfold orbC orbB;exact List.filter_congr λj _=>cRb_eq E i j _
theorem repsC_eq (E:cX G L):repsC G L L.length=repsB L:=by
 unfold repsC repsB;refine List.filter_congr λj _=>?_
 classical
 rw[Bool.eq_iff_iff,decide_eq_true_iff,List.all_eq_true];unfold isR;constructor
 ·intro h i hi
  have:=h i (rH.1 hi);rw[cR_iff E] at this;simpa using this
 ·intro h i hi
  have:=h i (rH.2 hi);rw[cR_iff E];simpa using this
theorem numC_eq (E:cX G L)(j:Nat):numC G L K j=numB L K j:=by
 unfold numC numB;congr 1;funext r;exact cRb_eq E r j _
theorem el_P (hG:iL n G)(E:cX G L): ∀x∈L,aX n x:=λx hx=>hG.isP ((E.mem x).1 hx)
theorem ord_at (hG:iL n G)(E:cX G L)(hn:n<=7){r:Nat}(hr:r<L.length):cM (L.getD r []) n=ordB n (L.getD r []):=ordB_ok (el_P hG E _ (getD_mem hr)) hn
theorem kLt_iff (hG:iL n G)(E:cX G L)(hn:n<=7){r s:Nat}(hr:r<L.length)(hs:s<L.length):kLt n G L r s↔kLtB n L r s=true:=by
 unfold kLt kLtB;rw[decide_eq_true_iff,ord_at hG E hn hr,ord_at hG E hn hs,orbC_eq E,orbC_eq E]
def KOk (n:Nat)(L:LN)(K:List Nat):Bool:=K.isPerm (repsB L)&&decide (K.Pairwise λr s=>kLtB n L r s=true)
theorem KOk.isK (hG:iL n G)(E:cX G L)(hn:n<=7)(h:KOk n L K=true):IsK n G L K:=by
 unfold KOk at h;rw[Bool.and_eq_true,decide_eq_true_iff] at h;have p:K.Perm (repsB L):=List.isPerm_iff.1 h.1
 have hm: ∀r∈K,r<L.length:=λr hr=>by
  have:=p.mem_iff.1 hr;unfold repsB at this;exact rH.1 (jY.1 this).1
 exact⟨by rw[repsC_eq E];exact p,List.Pairwise.imp_of_mem (λhr hs h=>(kLt_iff hG E hn (hm _ hr) (hm _ hs)).2 h) h.2⟩
theorem KOk.eq (hG:iL n G)(E:cX G L)(hn:n<=7){K0:List Nat}(h:KOk n L K0=true)(k:IsK n G L K):K=K0:=k.uniq (KOk.isK hG E hn h)
end
def wval (n:Nat)(S:LN)(w:List Nat):List Nat:=w.foldl (λx i=>aQ x (S.getD i [])) (aW n)
theorem wval_gen {n:Nat}{S:LN}: ∀(w:List Nat) (x:List Nat),(∀i∈w,i<S.length)->dF n (· ∈S) x->dF n (· ∈S) (w.foldl (λx i=>aQ x (S.getD i [])) x)
 | [],_,_,h=>h
 |i::w,x,hw,h=>wval_gen w _ (λj hj=>hw j (by simp [hj])) (h.mul (getD_mem (hw i (by simp))))
def ElOk (n:Nat)(S L:LN)(ws:LN):Bool:=
 L==ws.map (wval n S)&&ws.all (λw=>w.all λi=>decide (i<S.length))&&decide (L.Pairwise λx y=>lessB x y=true)&&L.all (λx=>x.length==n)&&L.contains (aW n)&&L.all λx=>S.all λg=>L.contains (aQ x g)
theorem ElOk.isEl {n:Nat}{S L:LN}{ws:LN}(h:ElOk n S L ws=true):cX (dF n (· ∈S)) L:=by
 unfold ElOk at h;simp only[Bool.and_eq_true,beq_iff_eq,List.all_eq_true,decide_eq_true_iff,List.contains_iff_mem] at h;obtain⟨⟨⟨⟨⟨h1,h2⟩,h3⟩,h4⟩,h5⟩,h6⟩:=h;refine⟨List.Pairwise.imp_of_mem (λhx hy h=>(lessB_iff (by rw[h4 _ hx,h4 _ hy])).1 h) h3,λx=>⟨λhx=>?_,λhx=>?_⟩⟩
 ·rw[h1] at hx
  obtain⟨w,hw,rfl⟩:=jH.1 hx;exact wval_gen w _ (h2 w hw) .one
 ·induction hx with
  |one=>exact h5
  |mul _ hg ih=>exact h6 _ ih _ hg
def C4:LN:= [[1,2,3,0]]
def A4:LN:= [[1,2,0,3], [0,2,3,1]]
def L3:LN:= [[0,1,2], [0,2,1], [1,0,2], [1,2,0], [2,0,1], [2,1,0]]
def L4:LN:= [[0,1,2,3], [1,2,3,0], [2,3,0,1], [3,0,1,2]]
theorem L4_ok:cX (dF 4 (· ∈C4)) L4:=ElOk.isEl (ws:= [[], [0], [0,0], [0,0,0]]) (by decide+kernel)
theorem K3_ok:KOk 3 L3 [0,1,3]=true:=by decide+kernel
theorem K4_ok:KOk 4 L4 [0,2,1,3]=true:=by decide+kernel
def permB (n:Nat)(x:List Nat):Bool:=x.length==n&&decide x.Nodup&&x.all λp=>decide (p<n)
theorem permB_ok {n:Nat}{x:List Nat}(h:permB n x=true):aX n x:=by
 unfold permB at h;simp only[Bool.and_eq_true,beq_iff_eq,List.all_eq_true,decide_eq_true_iff] at h;exact⟨h.1.1,h.1.2,h.2⟩
theorem C4_P: ∀g∈C4,aX 4 g:=λg hg=>permB_ok ((List.all_eq_true.1 (show C4.all (permB 4)=true by decide+kernel)) g hg)
theorem bls_i3 (h:H)(x y z:Int):nG h 1 [aC 0] 3 [(0,1,aC x),(1,1,aC y),(2,1,aC z)]=some (.sl h.next 0 3 (.kn 3),h.new (.cells false (ints [x,y,z]))):=by
 have e:dG [aC 0] 3= [aC 0,aC 0,aC 0]:=rfl;simp [nG,fU,e,putAt,V.cells,V.one,ints]
theorem bls_i4 (h:H)(x y z w:Int):nG h 1 [aC 0] 4 [(0,1,aC x),(1,1,aC y),(2,1,aC z),(3,1,aC w)]=some (.sl h.next 0 4 (.kn 4),h.new (.cells false (ints [x,y,z,w]))):=by
 have e:dG [aC 0] 4= [aC 0,aC 0,aC 0,aC 0]:=rfl;simp [nG,fU,e,putAt,V.cells,V.one,ints]
theorem bls_s2 (h:H){v u:V}(hv:v.cells= [v]/\v.one=true)(hu:u.cells= [u]/\u.one=true):nG h 1 [.aB] 2 [(0,1,v),(1,1,u)]=some (.sl h.next 0 2 (.kn 2),h.new (.cells false [v,u])):=by
 have e:dG [V.aB] 2= [.aB,.aB]:=rfl;simp [nG,fU,e,putAt,hv.1,hv.2,hu.1,hu.2]
theorem sl_cells (id o m:Nat)(c:kL):(V.sl id o m c).cells= [.sl id o m c]/\(V.sl id o m c).one=true:=⟨rfl,rfl⟩
theorem mkI {h:H}{ID:Nat}(hid:h.next=ID)(l:List Int): ∃x,h.new (.cells false (ints l))=x/\x.next=ID+1/\SI x (.sl ID 0 l.length (.kn l.length)) l/\Fr h x:=by
 obtain⟨x,e,n,g,o,f⟩:=fC hid (ints l);exact⟨x,e,n,SV.all (by rw[aN,Nat.mul_one]) (by omega) g _,f⟩
theorem SP.two {h h':H}{id:Nat}{v u:V}{a b:List Nat}(hv:SI h v (zi a))(hu:SI h u (zi b))(hid:id<h'.next)(f:Fr h h')(g:h'.get id=cE [v,u])(cap:kL):SP h' (.sl id 0 2 cap) [a,b]:=
 ⟨[v,u],SV.all rfl hid g _,hv.mono f,hu.mono f,trivial⟩
theorem SP.one' {h h':H}{id:Nat}{v:V}{a:List Nat}(hv:SI h v (zi a))(hid:id<h'.next)(f:Fr h h')(g:h'.get id=cE [v])(cap:kL):SP h' (.sl id 0 1 cap) [a]:=
 ⟨[v],SV.all rfl hid g _,hv.mono f,trivial⟩
theorem GC.sl {W:Nat->Prop}{h:H}{vc:V}{n:Nat}{O:LN}{R:lU}{G:List Nat->Prop}(g:GC W h vc n O R G): ∃vO vR,vc= .agg [aC n,vO,vR]/\vO.one=true/\vR.one=true/\dI vO vO=true/\dI vR vR=true:=by
 obtain⟨vO,vR,wsO,wsR,e,t1,_,_,t2,_,_⟩:=g.cw;exact⟨vO,vR,e,t1.cW.2.1,t2.cW.2.1,t1.dI,t2.dI⟩
theorem GC.el {W:Nat->Prop}{h:H}{vc:V}{n:Nat}{O:LN}{R:lU}{G:List Nat->Prop}{L:LN}(g:GC W h vc n O R G)(E:cX G L):cU O R n 0 (aW n)=L:=(fQ g.grp g.isc).1.uniq E
theorem cell_one {v:V}{h:H}{l:List Int}(s:SI h v l):v.cells= [v]/\v.one=true:=⟨(SV.cW s).1,(SV.cW s).2.1⟩
theorem dT {i:Decidable True}: @decide True i=true:=decide_eq_true trivial
def SB (h:H)(v:V)(l:List Bool):Prop:=SV h v 1 (l.map V.bool)
theorem SB.mono {h h':H}{v:V}{l:List Bool}(s:SB h v l)(f:Fr h h'):SB h' v l:=SV.mono s f
theorem SB.open {h:H}{v:V}{l:List Bool}(s:SB h v l):dB v=some (aC (l.length:Int))/\ ∃id off,Sl v 1 l.length id off/\ ∀i,i<l.length->id<h.next/\h.cell id (off+i)=some (.bool (l.getD i false)):=by
 have hl:(l.map V.bool).length=l.length:=jS ..;refine⟨by unfold dB;rw[SV.len s (n:=l.length) (by omega) (by omega)];rfl,?_⟩;obtain⟨id,off,sh,hid,hc⟩:=SV.shape s l.length (by omega) (by omega);exact⟨id,off,sh,λi hi=>⟨hid (by omega),by rw[hc i (by omega),List.getElem?_map,List.getD,eQ hi];rfl⟩⟩
set_option maxRecDepth 100000
theorem GC.all {W:Nat->Prop}{h:H}{vc:V}{n:Nat}{O:LN}{R:lU}{G:List Nat->Prop}(g:GC W h vc n O R G):cX G (cU O R n 0 (aW n))/\(cU O R n 0 (aW n)).length<=5040:=by
 have e:=fQ g.grp g.isc;exact⟨e.1,by rw[e.2];exact szF_fact g⟩
def BlkS (v:V)(id:Nat):Prop:= ∃off m c,v= .sl id off m c
theorem PVs.sp' {W:Nat->Prop}{h:H}{v:V}{ws:List V}{l:LN}(sv:SV h v 1 ws)(p:PVs W h ws l):SP h v l:=by
 refine⟨ws,sv,?_⟩;have hl:=All2.length p
 exact All2.iS (by simpa using hl) λi hi hj=>by
  have:=(All2.get p i hi (by omega)).si;simpa using this
section
variable {h:H} {v:V} {ws:List V} {b k n:Nat} {x y:List Nat} {A S Q:LN}
def TdR (h:H)(v:V)(ws:List V)(b:Nat):Prop:= ∃id cap rest,v= .sl id 0 ws.length cap/\b<=id/\id<h.next/\h.get id=cE (ws++rest)/\(cap= .un 1∨cap= .kn 1/\ws.length+rest.length=1)
theorem TdR.sv (t:TdR h v ws b):SV h v 1 ws:=by
 obtain⟨id,cap,rest,rfl,h1,h2,h3,_⟩:=t;exact .inr ⟨id,0,_,cap,false,_,rfl,(Nat.mul_one _).symm,h2,h3,by rw[jD];omega,by rw[List.drop_zero,Nat.mul_one,List.take_left' rfl]⟩
theorem TdR.keep {h':H}(t:TdR h v ws b)(hn:h.next<=h'.next)(hg: ∀id,BlkS v id->h'.get id=h.get id):TdR h' v ws b:=by
 obtain⟨id,cap,rest,e,h1,h2,h3,h4⟩:=t;exact⟨id,cap,rest,e,h1,by omega,by rw[hg id ⟨_,_,_,e⟩];exact h3,h4⟩
theorem TdR.in (t:TdR h v ws b){id:Nat}(hb:BlkS v id):b<=id/\id<h.next:=by
 obtain⟨i,cap,rest,rfl,h1,h2,_⟩:=t;obtain⟨_,_,_,e⟩:=hb;cases e;exact⟨h1,h2⟩
theorem TdR.pop (t:TdR h v ws b)(hk:ws.length=k+1):
  ∃v',nJ 1 v none (some (aC k)) none=some v'/\TdR h v' (ws.take k) b/\ ∀id,BlkS v' id->BlkS v id:=by
 obtain⟨id,cap,rest,rfl,h1,h2,h3,h4⟩:=t
 have hl:(ws.take k).length=k:=by rw[xL];omega
 have hr:ws++rest=ws.take k++(ws.drop k++rest):=by rw[←List.append_assoc,List.take_append_drop]
 rcases h4 with rfl|⟨rfl,h5⟩
 ·refine⟨_,Vv (by omega) (by omega),⟨id,_,ws.drop k++rest,by rw[hl,Int.toNat_natCast],h1,h2,by rw[h3,hr],.inl rfl⟩,λi ⟨_,_,_,e⟩=>by cases e;exact⟨_,_,_,rfl⟩⟩
 ·refine⟨_,Vj (by omega) (by omega),⟨id,_,ws.drop k++rest,by rw[hl,Int.toNat_natCast],h1,h2,by rw[h3,hr],.inr ⟨rfl,by rw[hl,jD,List.length_drop];omega⟩⟩,λi ⟨_,_,_,e⟩=>by cases e;exact⟨_,_,_,rfl⟩⟩
theorem TdR.push {y:V}{S:Nat}{c:kL}(t:TdR h v ws b)(hS:SV h (.sl S 0 1 c) 1 [y])(hb:b<=h.next)(hw:ws.length<1000000):
  ∃v' h',qX h 1 24 v (.sl S 0 1 c)=some (v',h')/\TdR h' v' (ws++ [y]) b/\(∀k,k<h.next-> ¬BlkS v k->h'.get k=h.get k)/\h.next<=h'.next/\h'.next<=h.next+1/\ ∀k,BlkS v' k->BlkS v k∨k=h.next:=by
 have e1:qX h 1 24 v (.sl S 0 1 c)=Ay.oE h 1 24 v 1 [y]:=by
  simp only[qX,hS.len (n:=1) rfl (by omega),hS.slice]
 rw[e1]
 have hx:=t.sv
 have hlen:=hx.len (n:=ws.length) (by omega) (by omega)
 have hsl:=hx.slice
 obtain⟨id,cap,rest,rfl,h1,h2,h3,h4⟩:=t
 unfold Ay.oE
 simp only[hlen,hsl]
 rw[if_neg (by omega),if_pos ⟨by omega,by omega⟩]
 have key: ∀g:H,g.next=h.next->(∀k,k<h.next->k≠id->g.get k=h.get k)-> ∃v' h',some (V.sl h.next 0 (ws.length+1) (.un 1),g.new (.cells false (ws++ [y])))=some (v',h')/\TdR h' v' (ws++ [y]) b/\(∀k,k<h.next-> ¬BlkS (.sl id 0 ws.length cap) k->h'.get k=h.get k)/\h.next<=h'.next/\h'.next<=h.next+1/\ ∀k,BlkS v' k->BlkS (.sl id 0 ws.length cap) k∨k=h.next:=by
  intro g gn gg;refine⟨_,_,rfl,⟨h.next,_, [],by rw[jD];rfl,hb,by rw[H.aV];omega,by rw[←gn,H.aM,List.append_nil],.inl rfl⟩,λk hk ha=>?_,by rw[H.aV];omega,by rw[H.aV];omega,λk ⟨_,_,_,e⟩=>by cases e;exact .inr rfl⟩;rw[H.bG g (by omega)];exact gg k hk (λe=>ha ⟨_,_,_,by rw[e]⟩)
 rcases h4 with rfl|⟨rfl,h5⟩
 ·simp only[h3,if_true]
  exact key (h.set id none) rfl (λk _ hk=>H.aH h hk none)
 ·simp only
  by_cases e:ws.length+1<=1
  ·rw[if_pos e]
   have e0:ws= []:=List.eq_nil_of_length_eq_zero (by omega)
   subst e0
   obtain⟨z,rfl⟩: ∃z,rest= [z]:=List.length_eq_one_iff.1 (by simpa using h5)
   have hp:h.put id (0+([]:List V).length*1) [y]=some (h.set id (cE [y])):=by
    simp [H.put,h3,putAt]
   rw[hp]
   refine⟨_,_,rfl,⟨id,_, [],rfl,h1,h2,by rw[H.aT];rfl,.inr ⟨rfl,rfl⟩⟩,λk hk ha=>H.aH h (λe=>ha ⟨0,0,.kn 1,by rw[e];rfl⟩) _,eP _,Nat.le_succ _,λk ⟨_,_,_,e⟩=>by cases e;exact .inl ⟨_,_,_,rfl⟩⟩
  ·rw[if_neg e]
   exact key h rfl (λ_ _ _=>rfl)
def allP (n:Nat):LN:=(oU n n).filter (permB n)
theorem allP_mem (X:aX n x):x∈allP n:=by
 unfold allP;rw[jY];refine⟨X.lJ,?_⟩;unfold permB;simp only[Bool.and_eq_true,beq_iff_eq,List.all_eq_true,decide_eq_true_iff];exact⟨⟨X.len,X.nd⟩,X.lt⟩
theorem perms_five (hn:n<=5){l:LN}(nd:l.Nodup)(hP: ∀x∈l,aX n x):l.length<=120:=by
 have h: ∀n,n<=5->(allP n).length<=120:=by decide+kernel
 exact Nat.le_trans (List.Nodup.length_le_of_subset nd λx hx=>allP_mem (hP x hx)) (h n hn)
theorem lt_nodup {n:Nat}(asc:A.Pairwise Lt):A.Nodup:=asc.imp λh e=>by rw[e] at h;exact h.irrefl
def insA (A:LN)(k:Nat)(y:List Nat):LN:=A.take k++y::A.drop k
theorem insA_mem {z:List Nat}:z∈insA A k y↔z=y∨z∈A:=by
 unfold insA;rw[xH,List.mem_cons];constructor
 ·rintro (h|h|h)
  ·exact .inr (List.mem_of_mem_take h)
  ·exact .inl h
  ·exact .inr (List.mem_of_mem_drop h)
 ·rintro (h|h)
  ·exact .inr (.inl h)
  ·rw[←List.take_append_drop k A,xH] at h
   rcases h with h|h
   ·exact .inl h
   ·exact .inr (.inr h)
theorem insA_len:(insA A k y).length=A.length+1:=by
 unfold insA;rw[jD,List.length_cons,xL,List.length_drop];omega
theorem lt_total {a b:List Nat}(A:aX n a)(B:aX n b)(h1: ¬Lt a b)(h2:a≠b):Lt b a:=by
 have h: ∃i,i<n/\a.getD i 0≠b.getD i 0:=xG λh=>h2 (lW (by rw[A.len,B.len]) λi hi=>xG λh3=>h ⟨i,by rw[←A.len];exact hi,h3⟩)
 obtain⟨i,hi,hne⟩:=h
 have hw: ∃i,(i<n/\a.getD i 0≠b.getD i 0)/\ ∀j,j<i-> ¬(j<n/\a.getD j 0≠b.getD j 0):=by
  revert hi hne
  induction i using Nat.strongRecOn with
  |ind i ih=>
   intro hi hne
   by_cases h: ∃j,j<i/\j<n/\a.getD j 0≠b.getD j 0
   ·obtain⟨j,h3,h4,h5⟩:=h
    exact ih j h3 h4 h5
   ·exact⟨i,⟨hi,hne⟩,λj hj hjn=>h ⟨j,hj,hjn⟩⟩
 obtain⟨k,⟨hk,hk2⟩,hmin⟩:=hw;have he: ∀j,j<k->a.getD j 0=b.getD j 0:=λj hj=>xG λh3=>hmin j hj ⟨by omega,h3⟩
 rcases Nat.lt_or_gt_of_ne hk2 with h4|h4
 ·exact (h1 ⟨k,by rw[A.len];exact hk,he,h4⟩).elim
 ·exact⟨k,by rw[B.len];exact hk,λj hj=>(he j hj).symm,h4⟩
theorem insA_asc (hP: ∀x∈A,aX n x)(Y:aX n y)(asc:A.Pairwise Lt)(p:Plc A y k)(hy:y∉A):(insA A k y).Pairwise Lt:=by
 unfold insA;rw[List.pairwise_append];have Xl: ∀{z:List Nat},z∈A.take k-> ∃i,i<k/\i<A.length/\A.getD i []=z:=λh=>(mem_take (d:= [])).1 h
 have bt: ∀{z:List Nat},z∈A.drop k-> ∃i,k<=i/\i<A.length/\A.getD i []=z:=λh=>by
  obtain⟨q,hq,e⟩:=uH.1 h;rw[List.length_drop] at hq;rw[List.getElem_drop] at e;exact⟨k+q,by omega,by omega,by rw[List.getD,eQ (by omega),←e];rfl⟩
 have lo: ∀z∈A.take k,Lt z y:=λz hz=>by
  obtain⟨i,h1,h2,rfl⟩:=Xl hz;exact (lessB_iff (by rw[(hP _ (getD_mem h2)).len,Y.len])).1 (p.lo i h1)
 have hi: ∀z∈A.drop k,Lt y z:=λz hz=>by
  obtain⟨i,h1,h2,rfl⟩:=bt hz;have Z:=hP _ (getD_mem (d:= []) h2);refine lt_total Z Y (λh=>?_) (λe=>hy (by rw[←e];exact getD_mem h2));have:=p.hi i h1 h2;rw[(lessB_iff (by rw[Z.len,Y.len])).2 h] at this;cases this
 refine⟨asc.sublist (List.take_sublist k A),List.pairwise_cons.2 ⟨hi,asc.sublist (List.drop_sublist k A)⟩,λz hz w hw=>?_⟩;rcases List.mem_cons.1 hw with rfl|hw
 ·exact lo z hz
 ·have Z:=hP z (List.mem_of_mem_take hz)
  exact Lt.trans (by rw[Z.len,Y.len]) (lo z hz) (hi w hw)
structure ElJ (n:Nat)(S A Q:LN):Prop where
 asc:A.Pairwise Lt
 gen: ∀x∈A,dF n (· ∈S) x
 one:aW n∈A
 sub: ∀x∈Q,x∈A
 cl: ∀x∈A,x∉Q-> ∀g∈S,aQ x g∈A
theorem ElJ.start (n:Nat)(S:LN):ElJ n S [aW n] [aW n]:=
 ⟨List.pairwise_singleton _ _,λx hx=>by simp at hx;subst hx;exact .one,by simp,λx hx=>hx,λx hx h=>absurd hx h⟩
theorem ElJ.done (j:ElJ n S A []):cX (dF n (· ∈S)) A:=by
 refine⟨j.asc,λx=>⟨j.gen x,λh=>?_⟩⟩
 induction h with
 |one=>exact j.one
 |mul _ hg ih=>exact j.cl _ ih List.not_mem_nil _ hg
structure ElI (n:Nat)(S:LN)(x:List Nat)(i:Nat)(A Q:LN):Prop where
 asc:A.Pairwise Lt
 gen: ∀x∈A,dF n (· ∈S) x
 one:aW n∈A
 sub: ∀x∈Q,x∈A
 mem:x∈A
 cl: ∀z∈A,z∉Q->z=x∨ ∀g∈S,aQ z g∈A
 dn: ∀j,j<i->aQ x (S.getD j [])∈A
theorem ElI.start (j:ElJ n S A (Q++ [x])):ElI n S x 0 A Q:=
 ⟨j.asc,j.gen,j.one,λz hz=>j.sub z (by simp [hz]),j.sub x (by simp),λz hz hq=>by
  by_cases e:z=x
  ·exact .inl e
  ·exact .inr (j.cl z hz (by simp [hq,e])),λj hj=>by omega⟩
theorem ElI.done (j:ElI n S x S.length A Q):ElJ n S A Q:=
 ⟨j.asc,j.gen,j.one,j.sub,λz hz hq g hg=>by
  rcases j.cl z hz hq with rfl|h
  ·obtain⟨i,hi,e⟩:=uH.1 hg
   have:=j.dn i hi;rwa [List.getD,eQ hi,Option.getD_some,e] at this
  ·exact h g hg⟩
theorem ElI.skip {i:Nat}(j:ElI n S x i A Q)(h:aQ x (S.getD i [])∈A):ElI n S x (i+1) A Q:=
 ⟨j.asc,j.gen,j.one,j.sub,j.mem,j.cl,λk hk=>by
  by_cases e:k=i
  ·rw[e];exact h
  ·exact j.dn k (by omega)⟩
theorem ElI.step {i:Nat}(j:ElI n S x i A Q)(hS: ∀g∈S,aX n g)(hi:i<S.length)(h:aQ x (S.getD i [])∉A)(p:Plc A (aQ x (S.getD i [])) k):ElI n S x (i+1) (insA A k (aQ x (S.getD i []))) (Q++ [aQ x (S.getD i [])]):=by
 have gx:=j.gen x j.mem;have gy:dF n (· ∈S) (aQ x (S.getD i [])):=gx.mul (getD_mem hi);obtain⟨y,hy⟩:=AS (aQ x (S.getD i []));rw[hy] at gy h p ⊢;refine⟨insA_asc (λz hz=>(j.gen z hz).isP hS) (gy.isP hS) j.asc p h,λz hz=>?_,insA_mem.2 (.inr j.one),λz hz=>?_,insA_mem.2 (.inr j.mem),λz hz hq=>?_,λq hq=>?_⟩
 ·rcases insA_mem.1 hz with rfl|hz
  ·exact gy
  ·exact j.gen z hz
 ·rcases xH.1 hz with hz|hz
  ·exact insA_mem.2 (.inr (j.sub z hz))
  ·simp at hz;exact insA_mem.2 (.inl hz)
 ·rcases insA_mem.1 hz with rfl|hz
  ·exact absurd (by simp) hq
  ·rcases j.cl z hz (λh=>hq (by simp [h])) with e|h2
   ·exact .inl e
   ·exact .inr λg hg=>insA_mem.2 (.inr (h2 g hg))
 ·by_cases e:q=i
  ·rw[e,hy];exact insA_mem.2 (.inl rfl)
  ·exact insA_mem.2 (.inr (j.dn q (by omega)))
theorem ins_cells {A:List V}(hk:k<=A.length)(z y:V):(((A++ [z]).take (k+1)++A.drop k).set k y)=A.take k++y::A.drop k:=by
 have h1:(A++ [z]).take (k+1)=A.take k++ [(A++ [z]).getD k .undef]:=by
  rw[take_getD .undef (by rw[jD];simp;omega),List.take_append_of_le_length hk]
 rw[h1,List.append_assoc,List.set_append_right _ _ (by rw[xL];omega),xL,Nat.min_eq_left hk,Nat.sub_self]
 rfl
theorem PVs.insA {W:Nat->Prop}{wa:List V}(p:PVs W h wa A)(q:PV W h v y)(hk:k<=A.length):PVs W h (wa.take k++v::wa.drop k) (Go.Proofs.YtapfcpkecmmagaaGreat.insA A k y):=by
 have hl:=All2.length p
 have t: ∀(k:Nat) (wa:List V) (A:LN),PVs W h wa A->PVs W h (wa.take k) (A.take k)/\PVs W h (wa.drop k) (A.drop k):=by
  intro k
  induction k with
  |zero=>intro wa A p;exact⟨trivial,p⟩
  |succ k ih=>
   intro wa A p
   cases wa with
   |nil=>cases A with
    |nil=>exact⟨trivial,trivial⟩
    |cons=>exact p.elim
   |cons a wa=>cases A with
    |nil=>exact p.elim
    |cons b A=>
     obtain⟨h1,h2⟩:=ih wa A p.2
     exact⟨⟨p.1,h1⟩,h2⟩
 obtain⟨h1,h2⟩:=t k wa A p;exact h1.append ⟨q,h2⟩
theorem TdR.own (t:TdR h v ws b)(h0:0<ws.length):Own h v 1 ws b:=by
 obtain⟨id,cap,rest,rfl,h1,h2,h3,h4⟩:=t;refine .inr ⟨id,ws.length,cap,rest,rfl,(Nat.mul_one _).symm,?_,h1,h2,h3⟩;rcases h4 with h4|⟨rfl,h5⟩
 ·exact .inl h4
 ·have e:ws.length=1:=by omega
  exact .inr ⟨by rw[e],List.eq_nil_of_length_eq_zero (by omega)⟩
theorem slc_lo {Q m:Nat}(hk:k<=m):nJ 1 (.sl Q 0 (m+1) (.un 1)) (some (aC k)) none none=some (.sl Q k (m+1-k) (.un 1)):=by
 simp only[nJ,jF];rw[if_pos ⟨by omega,by omega⟩];simp only[if_true,Int.toNat_natCast];rw[if_pos (by omega),Nat.zero_add,Nat.mul_one]
theorem slc_lo1 {Q m:Nat}(hk:k<=m):nJ 1 (.sl Q 0 (m+1) (.un 1)) (some (aC ((k:Int)+1))) none none=some (.sl Q (if k<m then k+1 else 0) (m-k) (.un 1)):=by
 simp only[nJ,jF];rw[if_pos ⟨by omega,by omega⟩];have e:((k:Int)+1).toNat=k+1:=by omega
 simp only[if_true,e]
 by_cases h:k<m
 ·rw[if_pos (by omega),if_pos h]
  simp only[Option.some.injEq,V.sl.injEq,true_and,and_true];omega
 ·rw[if_neg (by omega),if_neg h]
  simp only[Option.some.injEq,V.sl.injEq,true_and,and_true];omega
theorem cpy_ins {Q:Nat}{z:V}(hk:k<=ws.length)(hg:h.get Q=cE (ws++ [z])):
  Jz h 1 (.sl Q (if k<ws.length then k+1 else 0) (ws.length-k) (.un 1)) (.sl Q k (ws.length+1-k) (.un 1))=some (aC (ws.length-k:Nat),h.set Q (cE ((ws++ [z]).take (k+1)++ws.drop k))):=by
 have e1:kM (.sl Q (if k<ws.length then k+1 else 0) (ws.length-k) (.un 1))=some (ws.length-k):=rfl
 have e2:kM (.sl Q k (ws.length+1-k) (.un 1))=some (ws.length+1-k):=rfl
 have e3:min (ws.length+1-k) (ws.length-k)=ws.length-k:=by omega
 have e4:h.row Q k (ws.length-k)=some (ws.drop k):=by
  unfold H.row;rw[hg];show sub (ws++ [z]) k (ws.length-k)=_;unfold sub;rw[if_pos (by rw[jD];omega),List.drop_append_of_le_length hk,List.take_left' (by rw[List.length_drop])]
 have e5:h.put Q (if k<ws.length then k+1 else 0) (ws.drop k)=some (h.set Q (cE ((ws++ [z]).take (k+1)++ws.drop k))):=by
  unfold H.put;rw[hg];show (putAt (ws++ [z]) _ (ws.drop k)).map _=_;unfold putAt;have hl:(ws++ [z]).length=ws.length+1:=by simp
  by_cases h:k<ws.length
  ·rw[if_pos h,if_pos (by rw[hl,List.length_drop];omega),List.length_drop,List.drop_eq_nil_of_le (as:=ws++ [z]) (by rw[hl];omega),List.append_nil];rfl
  ·have e:k=ws.length:=by omega
   rw[if_neg h,if_pos (by rw[hl,List.length_drop];omega),e,List.drop_length,List.append_nil,List.append_nil];have e6:(ws++ [z]).take (ws.length+1)=ws++ [z]:=List.take_of_length_le (by rw[hl];omega);rw[e6];simp
 simp only[Jz,e1,e2,e3,Nat.mul_one,e4,e5]
structure ESt (h hh:H)(va vt:V)(A Q:LN):Prop where
 ex: ∃wa wt,TdR hh va wa h.next/\TdR hh vt wt h.next/\PVs (λq=>BlkS va q∨BlkS vt q) hh wa A/\PVs (λq=>BlkS va q∨BlkS vt q) hh wt Q
 dis: ∀q,BlkS va q-> ¬BlkS vt q
 fr:Fr h hh
theorem kelemN_ok (mo n:Nat)(vl:V)(S:LN)(h:H)(n0:1<=n)(n5:n<=5)(hS: ∀g∈S,aX n g)(hl:S.length<=16)(hmo: ∀A:LN,A.Nodup->(∀x∈A,dF n (· ∈S) x)->A.length<=mo)(hv:SP h vl S):
  Ev T 18 [aC n,vl,aC mo] h (λv h'=> ∃A,cX (dF n (· ∈S)) A/\A.length<=120/\SP h' v A/\Fr h h'):=by
 refine bP c_kit_Elements rfl rfl ?_
 have lv:=hv.lens
 rw[jS] at lv
 obtain⟨id,off,ws,sh,hid,hwl,hc,hall⟩:=hv.open
 rw[jS] at sh hid hwl hc
 simp(disch:=omega)only[go_sem,c_kit_Elements,aE]
 refine (kone_ok n h (by omega)).mono ?_
 rintro v1 h1 ⟨s1,f1,l1⟩
 obtain⟨B,hB⟩:=AS h1.next
 obtain⟨h2,e2,n2,g2,o2,f2⟩:=fC hB [v1]
 simp(disch:=omega)only[go_sem,dC _ (z:= .aB) (cell_one s1).1 (cell_one s1).2,hB,e2]
 refine (kone_ok n h2 (by omega)).mono ?_
 rintro v3 h3 ⟨s3,f3,l3⟩
 obtain⟨C,hC⟩:=AS h3.next
 obtain⟨h4,e4,n4,g4,o4,f4⟩:=fC hC [v3]
 have k1:=f1.next
 have k3:=f3.next
 have F4:=((f1.trans f2).trans f3).trans f4
 have one4: ∀{v:V} {hh:H},SI hh v (zi (aW n))->Fr hh h4->(∀id off len cap,v= .sl id off len cap->id≠B/\id≠C)->PV (λq=>BlkS (.sl B 0 1 (.kn 1)) q∨BlkS (.sl C 0 1 (.kn 1)) q) h4 v (aW n):=λ{v hh} s f hne=>by
  refine⟨s.mono f,?_⟩
  cases v with
  |sl i o m c=>
   have:=hne _ _ _ _ rfl;rintro (⟨_,_,_,e⟩|⟨_,_,_,e⟩)
   ·cases e;omega
   ·cases e;omega
  |_=>trivial
 have st4:ESt h h4 (.sl B 0 1 (.kn 1)) (.sl C 0 1 (.kn 1)) [aW n] [aW n]:=by
  refine⟨⟨[v1], [v3],⟨B,_, [],rfl,by omega,by omega,by rw[o4 B (by omega),f3.get B (by omega)];exact g2,.inr ⟨rfl,rfl⟩⟩,⟨C,_, [],rfl,by omega,by omega,g4,.inr ⟨rfl,rfl⟩⟩,PVs.one (one4 s1 ((f2.trans f3).trans f4) λi o m c e=>?_),PVs.one (one4 s3 f4 λi o m c e=>?_)⟩,λq ⟨_,_,_,e⟩ ⟨_,_,_,e2⟩=>by cases e;cases e2;omega,F4⟩
  ·have:=SV.in s1 _ _ _ _ e;omega
  ·have:=SV.in s3 _ _ _ _ e;have:=l3 _ _ _ _ e;omega
 simp(disch:=omega)only[go_sem,dC _ (z:= .aB) (cell_one s3).1 (cell_one s3).2,hC,e4]
 refine aJ (λk' vars hh=> ∃(A Q:LN) (va vt:V),(∃g:Nat->V,vars= [aC n,vl,aC mo,g 3,va,vt,g 6,g 7,g 8,g 9,g 10,g 11,g 12,g 13,g 14])/\ElJ n S A Q/\ESt h hh va vt A Q/\Q.length<=A.length/\k'=1000- 2*A.length+Q.length) _
  ⟨_,_,_,_,aA rfl,ElJ.start n S,st4,eP _,rfl⟩ ?_
 clear st4 one4 g2 g4 o2 o4 e2 e4 s1 s3 l1 l3 F4 f1 f2 f3 f4 k1 k3 n2 n4 hB hC
 rintro k' vars h5 ⟨A,Q,va,vt,⟨g,rfl⟩,J,st,hqa,rfl⟩
 have AP: ∀x∈A,aX n x:=λx hx=>(J.gen x hx).isP hS
 have la:=perms_five n5 (lt_nodup J.asc (n:=n)) AP
 obtain⟨⟨wa,wt,ta,tt,pa,pt⟩,dis,fr⟩:=st
 have lwa:=All2.length pa
 have lwt:=All2.length pt
 have lt5:dB vt=some (aC (Q.length:Int)):=by unfold dB;rw[SV.len tt.sv (n:=Q.length) (by omega) (by omega)];rfl
 by_cases hq:(0:Int)<(Q.length:Int)
 case neg=>
  have d1:=iG hq;have e0:Q= []:=List.eq_nil_of_length_eq_zero (by omega);simp(disch:=omega)only[go_sem,lt5,d1];subst e0;exact⟨A,J.done,la,PVs.sp' ta.sv pa,fr⟩
 have d1:=mF hq
 obtain⟨m,hm⟩: ∃m,Q.length=m+1:=⟨Q.length- 1,by omega⟩
 have em:(Q.length:Int)- 1=(m:Int):=by omega
 obtain⟨_,idt,offt,sht,hct⟩:=PVs.open tt.sv pt
 obtain⟨_,cx,px⟩:=hct m (by omega)
 obtain⟨x,hx⟩:=AS (Q.getD m [])
 rw[hx] at px
 generalize wt.getD m .undef=vx at cx px
 obtain⟨vt',sl5,tt',bt'⟩:=tt.pop (k:=m) (by omega)
 have hQ:Q=Q.take m++ [x]:=by
  rw[←hx,←take_getD [] (by omega),List.take_of_length_le (by omega)]
 have ptk:PVs (λq=>BlkS va q∨BlkS vt' q) h5 (wt.take m) (Q.take m):=by
  have t: ∀(k:Nat) (wa:List V) (A:LN),PVs (λq=>BlkS va q∨BlkS vt q) h5 wa A->PVs (λq=>BlkS va q∨BlkS vt q) h5 (wa.take k) (A.take k):=by
   intro k
   induction k with
   |zero=>intro wa A p;exact trivial
   |succ k ih=>
    intro wa A p
    cases wa with
    |nil=>cases A with
     |nil=>exact trivial
     |cons=>exact p.elim
    |cons a wa=>cases A with
     |nil=>exact p.elim
     |cons b A=>exact⟨p.1,ih wa A p.2⟩
  exact PVs.weak (t m wt Q pt) λq _ hw=>hw.imp (λh=>h) (bt' q)
 have st':ESt h h5 va vt' A (Q.take m):=⟨⟨wa,wt.take m,ta,tt',PVs.weak pa λq _ hw=>hw.imp (λh=>h) (bt' q),ptk⟩,λq h1 h2=>dis q h1 (bt' q h2),fr⟩
 have px':PV (λq=>BlkS va q∨BlkS vt' q) h5 vx x:=PV.weak px λq _ hw=>hw.imp (λh=>h) (bt' q)
 have J':ElI n S x 0 A (Q.take m):=ElI.start (by rw[←hQ];exact J)
 have lq':(Q.take m).length=m:=by rw[xL];omega
 simp(disch:=omega)only[go_sem,lt5,d1,em,sht.ixa,cx,sl5]
 refine loop_end (λvs hh=> ∃(A' Q':LN) (va vt:V),(∃g:Nat->V,vs= [aC n,vl,aC mo,g 3,va,vt,g 6,g 7,g 8,g 9,g 10,g 11,g 12,g 13,g 14])/\ElJ n S A' Q'/\ESt h hh va vt A' Q'/\Q'.length<=A'.length/\1000- 2*A'.length+Q'.length<1000- 2*A.length+Q.length) ?_ ?_
 ·refine aJ (λk' vars hh=> ∃(i:Nat) (A' Q':LN) (va vt:V),(∃g:Nat->V,vars= [aC n,vl,aC mo,g 3,va,vt,vx,aC i,g 8,g 9,g 10,g 11,g 12,g 13,g 14])/\i<=S.length/\ElI n S x i A' Q'/\ESt h hh va vt A' Q'/\PV (λq=>BlkS va q∨BlkS vt q) hh vx x/\Q'.length+A.length+1=A'.length+Q.length/\A.length<=A'.length/\k'=S.length-i) S.length
   ⟨0,A,Q.take m,va,vt',aA rfl,gK _,J',st',px',by omega,eP _,rfl⟩ ?_
  clear st' px' J' ptk tt' bt' sl5 dis fr pa pt ta tt lwa lwt lt5 cx px hct sht vt' g
  rintro k' vars h6 ⟨i,A',Q',va,vt,⟨g,rfl⟩,hi,J,st,px,hcnt,hle,rfl⟩
  have AP': ∀x∈A',aX n x:=λx hx=>(J.gen x hx).isP hS
  have la':=perms_five n5 (lt_nodup J.asc (n:=n)) AP'
  by_cases hlt:(i:Int)<(S.length:Int)
  case neg=>
   have d2:=iG hlt;obtain rfl:i=S.length:=by omega
   simp(disch:=omega)only[go_sem,lv,d2];exact⟨A',Q',va,vt,aA rfl,J.done,st,by omega,by omega⟩
  have d2:=mF hlt
  have hiS:i<S.length:=by omega
  obtain⟨⟨wa,wt,ta,tt,pa,pt⟩,dis,fr⟩:=st
  have lwa:=All2.length pa
  have lwt:=All2.length pt
  have cg:h6.cell id (off+i)=some (ws.getD i .undef):=by rw[fr.cell (hid (by omega)),hc i hiS]
  have sg:=(sp_at hall hiS).mono fr
  have Gp:aX n (S.getD i []):=hS _ (getD_mem hiS)
  generalize ws.getD i .undef=vg at cg sg
  have X:aX n x:=AP' x J.mem
  simp(disch:=omega)only[go_sem,lv,d2,sh.ixa,cg]
  refine (kmul_ok vx vg x _ h6 (by rw[X.len];omega) px.si sg (λj hj=>by rw[Gp.len];exact X.dU (by rw[←X.len];exact hj))).mono ?_
  rintro vy h7 ⟨sy,f7,l7⟩
  obtain⟨y,hy⟩:=AS (aQ x (S.getD i []))
  have Y:aX n y:=by rw[←hy];exact X.mul Gp
  rw[hy] at sy
  have ta7:=ta.keep f7.next λq hq=>f7.get q (ta.in hq).2
  have tt7:=tt.keep f7.next λq hq=>f7.get q (tt.in hq).2
  have pa7:=PVs.fx pa (Fx.of f7:Fx (λq=>BlkS va q∨BlkS vt q) h6 h7)
  have pt7:=PVs.fx pt (Fx.of f7:Fx (λq=>BlkS va q∨BlkS vt q) h6 h7)
  have px7:=PV.mono px f7
  have hWlt: ∀q,(BlkS va q∨BlkS vt q)->q<h6.next:=λq hq=>hq.elim (λh=>(ta.in h).2) (λh=>(tt.in h).2)
  have py7:PV (λq=>BlkS va q∨BlkS vt q) h7 vy y:=PV.fresh sy l7 hWlt
  simp(disch:=omega)only[go_sem]
  refine (place_ok va vy n A' y h7 (by omega) (by omega) AP' Y J.asc (PVs.sp' ta7.sv pa7) sy).mono ?_
  rintro _ h8 ⟨k,rfl,pk,_,f8⟩
  have ta8:=ta7.keep f8.next λq hq=>f8.get q (ta7.in hq).2
  have tt8:=tt7.keep f8.next λq hq=>f8.get q (tt7.in hq).2
  have pa8:=PVs.fx pa7 (Fx.of f8:Fx (λq=>BlkS va q∨BlkS vt q) h7 h8)
  have pt8:=PVs.fx pt7 (Fx.of f8:Fx (λq=>BlkS va q∨BlkS vt q) h7 h8)
  have px8:=PV.mono px7 f8
  have py8:=PV.mono py7 f8
  have fr8:=(fr.trans f7).trans f8
  by_cases hyA:y∈A'
  ·have d3:decide (y∈A')=true:=decide_eq_true hyA
   simp(disch:=omega)only[go_sem,d3]
   rw[iO i]
   exact⟨S.length-(i+1),by omega,i+1,A',Q',va,vt,aA rfl,by omega,J.skip (by rw[hy];exact hyA),⟨⟨wa,wt,ta8,tt8,pa8,pt8⟩,dis,fr8⟩,px8,hcnt,hle,rfl⟩
  have d3:decide (y∈A')=false:=decide_eq_false hyA
  have J2:=J.step hS hiS (by rw[hy];exact hyA) (by rw[hy];exact pk)
  rw[hy] at J2
  have la2:=perms_five n5 (lt_nodup J2.asc (n:=n)) (λx hx=>(J2.gen x hx).isP hS)
  rw[insA_len] at la2
  have lva:dB va=some (aC (A'.length:Int)):=by unfold dB;rw[SV.len ta8.sv (n:=A'.length) (by omega) (by omega)];rfl
  have la3:=hmo _ (lt_nodup J2.asc (n:=n)) J2.gen
  rw[insA_len] at la3
  have d4:decide ((mo:Int)<=(A'.length:Int))=false:=iG (by omega)
  have hA0:0<A'.length:=List.length_pos_of_mem J.one
  obtain⟨N,hN⟩:=AS h8.next
  obtain⟨h9,e9,n9,g9,o9,f9⟩:=fC hN [.aB]
  have ow9:=(ta8.own (by omega)).fr f9
  obtain⟨h10,a10,p10⟩:=ow9.push (bytes:=24) (SV.one (by omega) g9 (.kn 1)) (n:=A'.length) (m:=1) (by omega) rfl (by omega) (by omega) (by omega)
  have n10:=p10.next
  rw[n9] at a10
  have hk:=pk.le
  have g10:h10.get (N+1)=cE (wa++ [.aB]):=by rw[←n9];exact p10.get
  obtain⟨hb,ehb,nhb,ghb⟩: ∃hb:H,H.mk h10.tr (h10.next+8)=hb/\hb.next=h10.next+8/\ ∀q,hb.get q=h10.get q:=⟨_,rfl,rfl,λ_=>rfl⟩
  have cp:=cpy_ins (k:=k) (by omega) ((ghb (N+1)).trans g10)
  rw[lwa] at cp
  obtain⟨h11,e11,n11,g11,o11⟩:=uB hb (N+1) ((wa++ [V.aB]).take (k+1)++wa.drop k)
  rw[e11] at cp
  have d5:decide ((k:Int)<0)=false:=iG (by omega)
  have d6:decide (((A'.length+1:Nat):Int)<=(k:Int))=false:=iG (by omega)
  have hl11:((wa++ [V.aB]).take (k+1)++wa.drop k).length=A'.length+1:=by
   rw[jD,xL,jD,List.length_drop];simp;omega
  have pt1:=bE (vs:=(wa++ [V.aB]).take (k+1)++wa.drop k) (off:=k) (by omega) h11 (N+1) vy
  rw[ins_cells (by omega)] at pt1
  obtain⟨h12,e12,n12,g12,o12⟩:=uB h11 (N+1) (wa.take k++vy::wa.drop k)
  rw[e12] at pt1
  have cvy:=cell_one sy
  have fT: ∀q,q<N-> ¬BlkS va q->h12.get q=h8.get q:=λq h1 h2=>by
   rw[o12 q (by omega),o11 q (by omega),ghb,p10.old q (by omega) (λi o m c e e2=>h2 ⟨o,m,c,e2▸e⟩),o9 q (by omega)]
  have n12':h12.next=N+10:=by omega
  have tt12:=tt8.keep (h':=h12) (by omega) λq hq=>fT q (by have:=(tt8.in hq).2;omega) (λh=>dis q h hq)
  obtain⟨P,hP⟩:=AS h12.next
  obtain⟨h13,e13,n13,g13,o13,f13⟩:=fC hP [vy]
  have tt13:=tt12.keep f13.next λq hq=>f13.get q (tt12.in hq).2
  have frn:=fr8.next
  obtain⟨vt2,h14,a14,tt14,old14,hn1,hn2,bk14⟩:=tt13.push (S:=P) (c:= .kn 1) (SV.one (by omega) g13 (.kn 1)) (by omega) (by omega)
  simp(disch:=omega)only[go_sem,d3,lva,d4,dC _ (z:= .aB) (v:= .aB) rfl rfl,hN,e9,a10,slc_lo1 hk,slc_lo hk,ehb,cp,d5,d6,g11,gH cvy.1 cvy.2,pt1,dC _ (z:= .aB) cvy.1 cvy.2,hP,e13,a14]
  rw[iO i]
  have htN: ∀q,BlkS vt q->q<N:=λq hq=>by have:=(tt8.in hq).2;omega
  have oldAll: ∀q,q<N-> ¬BlkS va q-> ¬BlkS vt q->h14.get q=h8.get q:=λq h1 h2 h3=>by
   rw[old14 q (by omega) h3,f13.get q (by omega)];exact fT q h1 h2
  have xx:Fx (λq=>BlkS va q∨BlkS vt q) h8 h14:=⟨by omega,λq h1 h2=>oldAll q (by omega) (λh=>h2 (.inl h)) (λh=>h2 (.inr h))⟩
  have ww: ∀q,q<h8.next->(BlkS (.sl (N+1) 0 (A'.length+1) (.un 1)) q∨BlkS vt2 q)->BlkS va q∨BlkS vt q:=λq h1 h2=>by
   rcases h2 with ⟨_,_,_,e⟩|h2
   ·cases e;omega
   ·rcases bk14 q h2 with h3|h3
    ·exact .inr h3
    ·omega
  have g14:h14.get (N+1)=cE (wa.take k++vy::wa.drop k):=by
   rw[old14 (N+1) (by omega) (λh=>by have:=htN _ h;omega),f13.get (N+1) (by omega)];exact g12
  have py14:PV (λq=>BlkS (.sl (N+1) 0 (A'.length+1) (.un 1)) q∨BlkS vt2 q) h14 vy y:=PV.go py8 xx ww
  have pa14:=PVs.insA (PVs.go pa8 xx ww) py14 (k:=k) (by omega)
  have lia:(wa.take k++vy::wa.drop k).length=A'.length+1:=by rw[All2.length pa14,insA_len]
  refine⟨S.length-(i+1),by omega,i+1,_,_,_,_,aA rfl,by omega,J2,⟨⟨_,_,⟨N+1,_, [],by rw[lia],by omega,by omega,by rw[List.append_nil];exact g14,.inl rfl⟩,tt14,pa14,(PVs.go pt8 xx ww).append (PVs.one py14)⟩,λq ⟨_,_,_,e⟩ h2=>?_,⟨by omega,λq hq=>?_⟩⟩,PV.go px8 xx ww,by rw[insA_len,jD];simp;omega,by rw[insA_len];omega,rfl⟩
  ·cases e
   rcases bk14 _ h2 with h3|h3
   ·have:=htN _ h3;omega
   ·omega
  ·rw[oldAll q (by omega) (λh=>by have:=(ta8.in h).1;omega) (λh=>by have:=(tt8.in h).1;omega)]
   exact fr8.get q hq
 clear st' px' J' ptk tt' bt' sl5 dis fr pa pt ta tt lwa lwt lt5 cx px hct sht vt' g
 rintro vars h6 ⟨A',Q',va,vt,⟨g,rfl⟩,J,st,hle,hms⟩
 simp(disch:=omega)only[go_sem]
 exact⟨_,hms,A',Q',va,vt,aA rfl,J,st,hle,rfl⟩
end
section
variable {n i p:Nat} {G:List Nat->Prop} {o:List Nat} {r:List (List Nat)}
structure ChP (n:Nat)(G:List Nat->Prop)(i p:Nat)(o:List Nat)(r:List (List Nat)):Prop where
 asc:o.Pairwise (· < ·)
 mem: ∀q,q∈o↔q<p/\ ∃x,G x/\Fix i x/\x.getD i 0=q
 len:r.length=o.length
 rep: ∀t,t<o.length->tZ n G i (o.getD t 0) (r.getD t [])
theorem ChP.start (n:Nat)(G:List Nat->Prop)(i:Nat):ChP n G i 0 [] []:=⟨.nil,λq=>by simp,rfl,λt h=>by cases h⟩
theorem ChP.skip (c:ChP n G i p o r)(h: ∀x,G x->Fix i x->x.getD i 0≠p):ChP n G i (p+1) o r:=
 ⟨c.asc,λq=>by
  rw[c.mem];constructor
  ·rintro⟨h1,h2⟩;exact⟨by omega,h2⟩
  ·rintro⟨h1,x,gx,fx,ex⟩
   refine⟨?_,x,gx,fx,ex⟩;rcases Nat.lt_or_ge q p with h2|h2
   ·exact h2
   ·exact absurd (by omega) (h x gx fx),c.len,c.rep⟩
theorem ChP.step (c:ChP n G i p o r){x:List Nat}(hx:tZ n G i p x):ChP n G i (p+1) (o++ [p]) (r++ [x]):=by
 refine⟨List.pairwise_append.2 ⟨c.asc,List.pairwise_singleton _ _,λa ha b hb=>?_⟩,λq=>?_,by rw[jD,jD,c.len];rfl,λt ht=>?_⟩
 ·rw[List.mem_singleton.1 hb];exact ((c.mem a).1 ha).1
 ·rw[xH,c.mem,List.mem_singleton]
  constructor
  ·rintro (⟨h1,h2⟩|rfl)
   ·exact⟨by omega,h2⟩
   ·exact⟨by omega,x,hx.mem,hx.fix,hx.maps⟩
  ·rintro⟨h1,h2⟩
   rcases Nat.lt_or_ge q p with h3|h3
   ·exact .inl ⟨h3,h2⟩
   ·exact .inr (by omega)
 ·by_cases e:t=o.length
  ·subst e
   have e1:(o++ [p]).getD o.length 0=p:=by simp [List.getD]
   have e2:(r++ [x]).getD o.length []=x:=by rw[←c.len];exact getD_app_new
   rw[e1,e2];exact hx
  ·have ht':t<o.length:=by rw[jD] at ht;simp at ht;omega
   have e1:(o++ [p]).getD t 0=o.getD t 0:=by simp [List.getD,wY ht']
   rw[e1,getD_app_old (by rw[c.len];exact ht')];exact c.rep t ht'
theorem ChP.le (c:ChP n G i p o r):o.length<=p:=by
 have nd:o.Nodup:=c.asc.imp λh=>by omega
 have:=List.Nodup.length_le_of_subset nd (l₂:=List.range p) λq hq=>rH.2 ((c.mem q).1 hq).1
 rwa [List.length_range] at this
theorem first_rep {A:List (List Nat)}(E:cX G A){k:Nat}(hk:k<A.length)(h1:Fix i (A.getD k []))(h2:(A.getD k []).getD i 0=p)(h3: ∀k',k'<k-> ¬((A.getD k' []).getD i 0=p/\Fix i (A.getD k' []))):tZ n G i p (A.getD k []):=by
 refine⟨el_mem E hk,h1,h2,λy gy fy my=>?_⟩;obtain⟨m,hm,em⟩:=uH.1 ((E.mem y).2 gy);have em':A.getD m []=y:=by rw[List.getD_eq_getElem?_getD,eQ hm];exact em
 rcases Nat.lt_trichotomy m k with h|h|h
 ·exact absurd ⟨by rw[em'];exact my,by rw[em'];exact fy⟩ (h3 m h)
 ·subst h;rw[em'];exact .inl rfl
 ·rw[←em']
  have:=List.pairwise_iff_getElem.1 E.asc k m hk hm h;rw[List.getD_eq_getElem?_getD,eQ hk,List.getD_eq_getElem?_getD,eQ hm];exact .inr this
end
set_option maxHeartbeats 64000000
def Two (b:Nat)(vo vr:V)(q:Nat):Prop:=q<b∨BlkS vo q∨BlkS vr q
theorem chainOf_ok (vA:V)(n:Nat)(G:List Nat->Prop)(A:List (List Nat))(h:H)(h0:0<n)(hn:n<=7)(hG:iL n G)(E:cX G A)(hA:A.length<=5040)(sA:SP h vA A):
  Ev T 19 [.int .i64 (n:Int),vA] h (λv h'=> ∃O R',ChW (λid=>id<h.next) h' v n O R'/\dK n G O R'/\Fr h h'):=by
 refine bP c_kit_ChainOf rfl rfl ?_
 obtain⟨lvA,eA,idA,offA,wA,shA,cA⟩:=sp_open sA
 obtain⟨m,hm⟩: ∃m,A.length=m:=⟨_,rfl⟩
 rw[hm] at lvA shA cA
 obtain⟨B,hB⟩: ∃B,h.next=B:=⟨_,rfl⟩
 have bl:mM [.int .i64 0,.aB,.aB] [(0,1,.int .i64 (n:Int))]=some (.agg [.int .i64 (n:Int),.aB,.aB]):=by
  have e1:putAt [.int .i64 0,.aB,.aB] 0 [V.int .i64 (n:Int)]=some [.int .i64 (n:Int),.aB,.aB]:=by simp [putAt]
  simp [mM,fU,e1,V.cells,V.one]
 obtain⟨ha,ea,na,ga,oa,fa⟩:=fC hB [.int .i64 0,.aB,.aB]
 obtain⟨h1,e1,n1,g1,o1,f1'⟩:=fC na [.int .i64 0,.aB,.aB]
 obtain⟨h2,e2,n2,g2,o2⟩:=uB h1 (B+1) [.int .i64 (n:Int),.aB,.aB]
 have f2:Fr h h2:=⟨by omega,λq hq=>by rw[o2 q (by omega),o1 q (by omega),oa q (by omega)]⟩
 have n2':h2.next=B+2:=by omega
 have g20:h2.get B=some (.cells false [.int .i64 0,.aB,.aB]):=by rw[o2 B (by omega),o1 B (by omega)];exact ga
 simp(disch:=omega)only[go_sem,c_kit_ChainOf,aE,hB,ea,na,e1,bl,iM h1 (B+1) 0 (v:= .int .i64 (n:Int)) (u:= .aB) (w:= .aB) rfl rfl rfl,g1,fH,e2]
 refine aJ (λk' vars hh=> ∃(i:Nat) (W:Nat->Prop) (O:List (List Nat)) (R':List (List (List Nat))) (vO vR:V) (wsO wsR:List V),(∃g:Nat->V,vars= [.int .i64 (n:Int),vA,.ptr B 0,.ptr (B+1) 0,.int .i64 (i:Int),g 5,g 6,g 7,g 8,g 9,g 10,g 11,g 12,g 13,g 14,g 15])/\i<=n/\CAcc h hh (B+1) B W n O R' vO vR wsO wsR/\
   hh.get B=some (.cells false [.int .i64 0,.aB,.aB])/\O.length=i/\R'.length=i/\(∀j,j<i->ChP n G j n (O.getD j []) (R'.getD j []))/\k'=n-i) n
  ⟨0,_, [], [],_,_,_,_,aA rfl,gK _,CAcc.start (by omega) (by omega) (by omega) (by omega) (by omega) f2 g2,g20,rfl,rfl,λj hj=>by omega,rfl⟩ ?_
 clear f2 g2 g20 n2 n2' o2 e2 g1 o1 e1 n1 f1' ga oa ea na fa
 rintro k' vars h2 ⟨i,W,O,R',vO,vR,wsO,wsR,⟨g,rfl⟩,hi,AC,gB,lO,lR,hC,rfl⟩
 by_cases hlt:(i:Int)<(n:Int)
 case neg=>
  have e1:decide ((i:Int)<(n:Int))=false:=decide_eq_false hlt;obtain rfl:i=n:=by omega
  have hr:=bU AC.get;have nB:=AC.fr.next;simp(disch:=omega)only[go_sem,e1,hr,iM h2 B 0 (v:= .int .i64 (i:Int)) (u:=vO) (w:=vR) rfl (SV.cW AC.oO.sv).2.1 (SV.cW AC.oR.sv).2.1,gB,fH];have hr2:=bU (h:=h2.set B (some (.cells false [.int .i64 (i:Int),vO,vR]))) (H.aT ..);have fB:Fx (· =B) h2 (h2.set B (some (.cells false [.int .i64 (i:Int),vO,vR]))):=Fx.set h2 (W:=(· =B)) rfl _;simp(disch:=omega)only[go_sem,hr2]
  obtain⟨h3,h3e⟩: ∃h3,h3=h2.set B (some (.cells false [.int .i64 (i:Int),vO,vR])):=⟨_,rfl⟩
  rw[←h3e] at fB ⊢;have A3:=AC.box h3e;refine⟨O,R',by rw[←hB];exact A3.chw,⟨lO,lR,λj hj=>(hC j hj).asc,λj hj p=>?_,λj hj=>(hC j hj).len,λj hj=>(hC j hj).rep⟩,A3.fr⟩;rw[(hC j hj).mem];constructor
  ·exact λh=>h.2
  ·rintro⟨x,gx,fx,ex⟩
   exact⟨by rw[←ex];exact (hG.isP gx).dU hj,x,gx,fx,ex⟩
 have e1:decide ((i:Int)<(n:Int))=true:=decide_eq_true hlt
 have hin:i<n:=by omega
 have sAi:=sA.mono AC.fr
 simp(disch:=omega)only[go_sem,e1]
 obtain⟨h4,h4e⟩: ∃h4,h2=h4:=⟨_,rfl⟩
 subst h4e
 refine cF (λvs hh=> ∃(vo vr:V) (q:List Nat) (r:List (List Nat)),(∃g:Nat->V,vs= [.int .i64 (n:Int),vA,.ptr B 0,.ptr (B+1) 0,.int .i64 (i:Int),vo,vr,g 7,g 8,g 9,g 10,g 11,g 12,g 13,g 14,g 15])/\PV W hh vo q/\PL W hh vr r/\ChP n G i n q r/\Fr h2 hh) ?_ ?_
 ·refine aJ (λk' vs hh=> ∃(p:Nat) (vo vr:V) (ws:List V) (q:List Nat) (r:List (List Nat)),(∃g:Nat->V,vs= [.int .i64 (n:Int),vA,.ptr B 0,.ptr (B+1) 0,.int .i64 (i:Int),vo,vr,.int .i64 (p:Int),g 8,g 9,g 10,g 11,g 12,g 13,g 14,g 15])/\p<=n/\Own hh vo 1 (ints (zi q)) h2.next/\Own hh vr 1 ws h2.next/\PVs (Two h2.next vo vr) hh ws r/\(∀x,BlkS vo x-> ¬BlkS vr x)/\ChP n G i p q r/\Fr h2 hh/\k'=n-p) n
   ⟨0,.aB,.aB, [], [], [],aA rfl,gK _,Own.aB _ _ _,Own.aB _ _ _,trivial,(λ_ ⟨_,_,_,e⟩=>by cases e),ChP.start n G i,Fr.refl _,rfl⟩ ?_
  rintro k' vars h5 ⟨p,vo,vr,ws,q,r,⟨g,rfl⟩,hp,oo,ow,pvs,dis,cp,f5,rfl⟩
  by_cases hlt2:(p:Int)<(n:Int)
  case neg=>
   have d2:decide ((p:Int)<(n:Int))=false:=decide_eq_false hlt2;obtain rfl:p=n:=by omega
   simp(disch:=omega)only[go_sem,d2];refine⟨vo,vr,q,r,aA rfl,⟨oo.sv,?_⟩,⟨ws,ow.sv,?_,pvs.weak (λid _ h=> .inl (AC.wb id h)),Own.capOk ow⟩,cp,f5⟩
   ·cases vo with
    |sl id off m c=>exact λh=>by have:=(oo.in _ _ _ _ rfl).2.1;have:=AC.wb id h;omega
    |_=>trivial
   ·cases vr with
    |sl id off m c=>exact λh=>by have:=(ow.in _ _ _ _ rfl).2.1;have:=AC.wb id h;omega
    |_=>trivial
  have d2:decide ((p:Int)<(n:Int))=true:=decide_eq_true hlt2
  have hpn:p<n:=by omega
  simp(disch:=omega)only[go_sem,d2]
  refine loop_end (λvs hh=> ∃(vo vr:V) (ws:List V) (q:List Nat) (r:List (List Nat)),(∃g:Nat->V,vs= [.int .i64 (n:Int),vA,.ptr B 0,.ptr (B+1) 0,.int .i64 (i:Int),vo,vr,.int .i64 (p:Int),g 8,g 9,g 10,g 11,g 12,g 13,g 14,g 15])/\Own hh vo 1 (ints (zi q)) h2.next/\Own hh vr 1 ws h2.next/\PVs (Two h2.next vo vr) hh ws r/\(∀x,BlkS vo x-> ¬BlkS vr x)/\ChP n G i (p+1) q r/\Fr h2 hh) ?_ ?_
  ·refine aJ (λk' vs hh=> ∃(k:Nat),(∃g:Nat->V,vs= [.int .i64 (n:Int),vA,.ptr B 0,.ptr (B+1) 0,.int .i64 (i:Int),vo,vr,.int .i64 (p:Int),.int .i64 (k:Int),g 9,g 10,g 11,g 12,g 13,g 14,g 15])/\k<=m/\(∀k',k'<k-> ¬((A.getD k' []).getD i 0=p/\Fix i (A.getD k' [])))/\Own hh vo 1 (ints (zi q)) h2.next/\Own hh vr 1 ws h2.next/\PVs (Two h2.next vo vr) hh ws r/\Fr h2 hh/\k'=m-k) m
    ⟨0,aA rfl,gK _,λk' h=>by omega,oo,ow,pvs,f5,rfl⟩ ?_
   clear oo ow pvs f5
   rintro k' vars h6 ⟨k,⟨g',rfl⟩,hk,hno,oo,ow,pvs,f6,rfl⟩
   by_cases hlk:(k:Int)<(m:Int)
   case neg=>
    have d3:decide ((k:Int)<(m:Int))=false:=decide_eq_false hlk;obtain rfl:k=m:=by omega
    simp(disch:=omega)only[go_sem,lvA,d3];refine⟨vo,vr,ws,q,r,aA rfl,oo,ow,pvs,dis,cp.skip λx gx fx ex=>?_,f6⟩;obtain⟨j,hj,ej⟩:=uH.1 ((E.mem x).2 gx);have ej':A.getD j []=x:=by rw[List.getD_eq_getElem?_getD,eQ hj];exact ej
    exact hno j (by omega) ⟨by rw[ej'];exact ex,by rw[ej'];exact fx⟩
   have d3:decide ((k:Int)<(m:Int))=true:=decide_eq_true hlk
   have hkm:k<m:=by omega
   obtain⟨bA,cAk,sx⟩:=cA k hkm
   have F6:=AC.fr.trans f6
   generalize wA.getD k V.undef=vx at cAk sx
   have X:=el_isP hG E (show k<A.length by omega)
   obtain⟨x,hx⟩: ∃x,A.getD k []=x:=⟨_,rfl⟩
   rw[hx] at sx X
   have cx:h6.cell idA (offA+k)=some vx:=by rw[F6.cell bA];exact cAk
   obtain⟨idx,offx,shx,hidx,hcx⟩:=(sx.mono F6).open
   have lxn:(zi x).length=n:=by rw[aU,X.len]
   rw[lxn] at shx hidx hcx
   have cxj: ∀j,j<n->h6.cell idx (offx+j)=some (.int .i64 ((x.getD j 0:Nat):Int)):=λj hj=>by
    rw[hcx j hj];congr 2;simp [zi,X.len,hj]
   simp(disch:=omega)only[go_sem,lvA,d3,shA.ixa,cx,shx.ixa,cxj i hin]
   refine cF (λvs hh=>hh=h6/\ ∃b:Bool,(∃g:Nat->V,vs= [.int .i64 (n:Int),vA,.ptr B 0,.ptr (B+1) 0,.int .i64 (i:Int),vo,vr,.int .i64 (p:Int),.int .i64 (k:Int),.bool b,g 10,g 11,g 12,g 13,g 14,g 15])/\(b=true↔x.getD i 0=p/\Fix i x)) ?_ ?_
   ·refine aJ (λk' vs hh=>hh=h6/\ ∃(j:Nat) (b:Bool),(∃g:Nat->V,vs= [.int .i64 (n:Int),vA,.ptr B 0,.ptr (B+1) 0,.int .i64 (i:Int),vo,vr,.int .i64 (p:Int),.int .i64 (k:Int),.bool b,.int .i64 (j:Int),g 11,g 12,g 13,g 14,g 15])/\j<=i/\(b=true↔x.getD i 0=p/\Fix j x)/\k'=i-j) i
     ⟨rfl,0,_,aA rfl,gK _,by rw[decide_eq_true_iff];exact⟨λh=>⟨by omega,λj hj=>by omega⟩,λh=>by rw[h.1]⟩,rfl⟩ ?_
    rintro k' vars hh ⟨rfl,j,b,⟨g,rfl⟩,hj,hb,rfl⟩
    cases b with
    |false=>
     simp(disch:=omega)only[go_sem,vY];refine⟨false,aA rfl,⟨λh=>(by cases h),λh=>?_⟩⟩;exact hb.2 ⟨h.1,λj' hj'=>h.2 j' (by omega)⟩
    |true=>
     have hb1:=hb.1 rfl
     by_cases hji:(j:Int)<(i:Int)
     ·have d4:decide ((j:Int)<(i:Int))=true:=decide_eq_true hji
      simp(disch:=omega)only[go_sem,d4,shA.ixa,cx,shx.ixa,cxj j (by omega)];rw[show (j:Int)+1=((j+1:Nat):Int) from by omega];refine⟨i-(j+1),by omega,j+1,_,aA rfl,by omega,?_,rfl⟩;rw[decide_eq_true_iff];constructor
      ·intro h
       refine⟨hb1.1,λj' hj'=>?_⟩
       by_cases e:j'=j
       ·subst e;omega
       ·exact hb1.2 j' (by omega)
      ·intro h
       rw[h.2 j (by omega)]
     ·have d4:decide ((j:Int)<(i:Int))=false:=decide_eq_false hji
      obtain rfl:j=i:=by omega
      simp(disch:=omega)only[go_sem,d4];exact⟨true,aA rfl,hb⟩
   rintro vars hh ⟨rfl,b,⟨g,rfl⟩,hb⟩
   cases b with
   |false=>
    simp(disch:=omega)only[go_sem];rw[show (k:Int)+1=((k+1:Nat):Int) from by omega];refine⟨m-(k+1),by omega,k+1,aA rfl,by omega,λk' hk' h=>?_,oo,ow,pvs,f6,rfl⟩
    by_cases e:k'=k
    ·rw[e,hx] at h
     have:=hb.2 h;cases this
    ·exact hno k' (by omega) h
   |true=>
    have hb1:=hb.1 rfl;have rep:=first_rep (n:=n) E (show k<A.length by omega) (by rw[hx];exact hb1.2) (by rw[hx];exact hb1.1) hno;rw[hx] at rep;simp(disch:=omega)only[go_sem,shA.ixa,cx,bls_i1]
    obtain⟨hd,hde⟩: ∃hd:H,hd=H.mk ((H.mk hh.tr (hh.next+2)).new (Ob.cells false (ints [(p:Int)]))).tr (hh.next+14):=⟨_,rfl⟩
    rw[←hde]
    obtain⟨Q,hQ⟩: ∃Q,hh.next+2=Q:=⟨_,rfl⟩
    rw[hQ] at hde ⊢;have gd:hd.get Q=some (.cells false (ints [(p:Int)])):=by rw[hde];exact H.aM (H.mk hh.tr Q) _
    have od: ∀k,k≠Q->hd.get k=hh.get k:=λk hk=>by rw[hde];exact H.bG (H.mk hh.tr Q) hk _
    have nd:hd.next=hh.next+14:=by rw[hde]
    have fd:Fr hh hd:=⟨by omega,λk hk=>od k (by omega)⟩
    have n6:=f6.next;have cpl:=cp.le;have ood:=oo.fr fd;have owd:=ow.fr fd;have hin1:=λid off m c (e:vo=V.sl id off m c)=>oo.in id off m c e
    have hin2:=λid off m c (e:vr=V.sl id off m c)=>ow.in id off m c e
    obtain⟨h7,a7,p7⟩:=ood.push (bytes:=8) (SV.one (v:= .int .i64 (p:Int)) (id:=Q) (by omega) gd (.kn 1)) (n:=q.length) (m:=1) (by rw[aN,aU,Nat.mul_one]) rfl (by omega) (by omega) (by omega);have n7:=p7.next;have old7: ∀k,k<hh.next->dA vo k->h7.get k=hh.get k:=λk h1 h2=>by rw[p7.old k (by omega) h2,od k (by omega)]
    have apo: ∀k,k<h2.next->dA vo k:=λk hk id off m c e e2=>by have:=hin1 _ _ _ _ e;omega
    have F7:Fr h2 h7:=⟨by omega,λk hk=>by rw[old7 k (by omega) (apo k hk)];exact f6.get k hk⟩
    have F07:=AC.fr.trans F7;have cx7:h7.cell idA (offA+k)=some vx:=by rw[F07.cell bA];exact cAk
    have evx:=sx.dI;have ow7:Own h7 vr 1 ws h2.next:=owd.mono (by omega) λid off m c e _ hid=>p7.old id (by omega) λid' off' m' c' e' e2=>dis id ⟨off',m',c',by rw[e2];exact e'⟩ ⟨off,m,c,e⟩
    simp(disch:=omega)only[go_sem,a7,cx7,evx];refine (own_ok vx (zi x) h7 (sx.mono F07) (by rw[lxn];omega)).mono ?_;rintro v25 h8 ⟨ow25,f8,_⟩;have c25:=cell_one (show SI h8 v25 (zi x) from ow25.sv);have n8:=f8.next;simp(disch:=omega)only[go_sem,dC _ (z:= .aB) c25.1 c25.2]
    obtain⟨he,hee⟩: ∃he:H,he=H.mk ((H.mk h8.tr (hh.next+10)).new (Ob.cells false [v25])).tr h8.next:=⟨_,rfl⟩
    rw[←hee]
    obtain⟨S,hS⟩: ∃S,hh.next+10=S:=⟨_,rfl⟩
    rw[hS] at hee ⊢;have ge:he.get S=some (.cells false [v25]):=by rw[hee];exact H.aM (H.mk h8.tr S) _
    have oe: ∀k,k≠S->he.get k=h8.get k:=λk hk=>by rw[hee];exact H.bG (H.mk h8.tr S) hk _
    have ne:he.next=h8.next:=by rw[hee]
    have hin3:=λid off m c (e:v25=V.sl id off m c)=>ow25.in id off m c e
    have ow8:Own he vr 1 ws h2.next:=ow7.mono (by omega) λid off m c e h1 hid=>by
     have:=(hin2 _ _ _ _ e).1;rw[oe id (by omega),f8.get id hid]
    have hws:=All2.length pvs;obtain⟨h9,a9,p9⟩:=ow8.push (bytes:=24) (SV.one (v:=v25) (id:=S) (by omega) ge (.kn 1)) (n:=q.length) (m:=1) (by rw[hws,cp.len,Nat.mul_one]) rfl (by omega) (by omega) (by omega);have n9:=p9.next;simp(disch:=omega)only[go_sem,a9];have apv: ∀{v:V} {k:Nat},¬BlkS v k->dA v k:=λhk id off m c e e2=>hk ⟨off,m,c,by rw[e2];exact e⟩
    have old9: ∀k,k<hh.next->dA vo k->dA vr k->h9.get k=hh.get k:=λk h1 h2 h3=>by rw[p9.old k (by omega) h3,oe k (by omega),f8.get k (by omega),old7 k h1 h2]
    have apr: ∀k,k<h2.next->dA vr k:=λk hk id off m c e e2=>by have:=hin2 _ _ _ _ e;omega
    have fx:Fx (Two h2.next vo vr) hh h9:=⟨by omega,λk h1 h2=>old9 k h1 (apv λh=>h2 (.inr (.inl h))) (apv λh=>h2 (.inr (.inr h)))⟩
    have hw: ∀k,k<hh.next->Two h2.next (.sl hd.next 0 (q.length+1) (.un 1)) (.sl he.next 0 (q.length+1) (.un 1)) k->Two h2.next vo vr k:=λk h1 h2=>by
     rcases h2 with h|⟨_,_,_,e⟩|⟨_,_,_,e⟩
     ·exact .inl h
     ·cases e;omega
     ·cases e;omega
    have pnew:PV (Two h2.next (.sl hd.next 0 (q.length+1) (.un 1)) (.sl he.next 0 (q.length+1) (.un 1))) h9 v25 x:=by
     have s8:SI h8 v25 (zi x):=ow25.sv;refine⟨SV.fx (W:=λk=>k=S∨BlkS vr k) s8 ?_ ⟨by omega,λk h1 h2=>by rw[p9.old k (by omega) (apv λh=>h2 (.inr h)),oe k λe=>h2 (.inl e)]⟩,?_⟩
     ·cases v25 with
      |sl id off m c=>
       have h3:=hin3 _ _ _ _ rfl;rintro (e|⟨_,_,_,e⟩)
       ·omega
       ·have:=hin2 _ _ _ _ e;omega
      |_=>trivial
     ·cases v25 with
      |sl id off m c=>
       have h3:=hin3 _ _ _ _ rfl;rintro (e|⟨_,_,_,e⟩|⟨_,_,_,e⟩)
       ·omega
       ·cases e;omega
       ·cases e;omega
      |_=>trivial
    have o7:=p7.own (b:=h2.next) (by rw[aN,aU,Nat.mul_one]) rfl (by omega);have e7:ints (zi q)++ [V.int .i64 (p:Int)]=ints (zi (q++ [p])):=by rw[zi_snoc,kB];rfl
    rw[e7] at o7;refine⟨_,_,ws++ [v25],q++ [p],r++ [x],aA rfl,o7.mono (by omega) λid off m c e _ h1=>by cases e;rw[p9.old _ (by omega) (λid off m c e e2=>by have:=hin2 _ _ _ _ e;omega),oe _ (by omega),f8.get _ (by omega)],p9.own (by rw[hws,cp.len,Nat.mul_one]) rfl (by omega),(PVs.go pvs fx hw).append (PVs.one pnew),λk ⟨_,_,_,e1⟩ ⟨_,_,_,e2⟩=>by have a:=(V.sl.inj e1).1;have b:=(V.sl.inj e2).1;omega,cp.step rep,⟨by omega,λk hk=>by rw[old9 k (by omega) (apo k hk) (apr k hk)];exact f6.get k hk⟩⟩
  rintro vars h6 ⟨vo',vr',ws',q',r',⟨g',rfl⟩,oo',ow',pvs',dis',cp',f6⟩
  simp(disch:=omega)only[go_sem]
  rw[show (p:Int)+1=((p+1:Nat):Int) from by omega]
  exact⟨n-(p+1),by omega,p+1,vo',vr',ws',q',r',aA rfl,by omega,oo',ow',pvs',dis',cp',f6,rfl⟩
 rintro vars h5 ⟨vo,vr,q,r,⟨g,rfl⟩,pq5,pl,hcl,f5⟩
 have A5:=AC.mono f5
 have wo:vo.cells= [vo]/\vo.one=true:=pq5.eN
 have gB5:h5.get B=some (.cells false [.int .i64 0,.aB,.aB]):=by rw[f5.get B (AC.wb B AC.d)];exact gB
 have cO:h5.cell (B+1) 1=some vO:=by rw[H.aF A5.get];rfl
 have cR:h5.cell (B+1) 2=some vR:=by rw[H.aF A5.get];rfl
 obtain⟨ws,pl1,pl2,pl3,pl4⟩:=pl
 have pl:PL W h5 vr r:=⟨ws,pl1,pl2,pl3,pl4⟩
 have fn5:=A5.fr.next
 have cn5:=A5.wb _ A5.c
 simp(disch:=omega)only[go_sem,cO,cR,dC _ (z:= .aB) (v:=vo) wo.1 wo.2]
 obtain⟨h6,h6e⟩: ∃h6:H,h6=H.mk ((H.mk h5.tr (h5.next+3)).new (Ob.cells false [vo])).tr (h5.next+14):=⟨_,rfl⟩
 rw[←h6e]
 have g6:h6.get (h5.next+3)=some (.cells false [vo]):=by rw[h6e];exact H.aM (H.mk h5.tr (h5.next+3)) _
 have n6:h6.next=h5.next+14:=by rw[h6e]
 have o6: ∀k,k≠h5.next+3->h6.get k=h5.get k:=λk hk=>by rw[h6e];exact H.bG (H.mk h5.tr (h5.next+3)) (by simpa using hk) _
 have f6:Fr h5 h6:=⟨by omega,λid hid=>o6 id (by omega)⟩
 have hwO:=All2.length A5.aO
 have hwR:=All2.length A5.aR
 obtain⟨h7,a7,p7⟩:=(A5.oO.fr f6).push (bytes:=24) (SV.one (by omega) g6 (.kn 1)) (n:=i) (m:=1) (by omega) rfl (by omega) (by omega) (by omega)
 have n7:=p7.next
 have oldO: ∀k,k<h5.next->dA vO k->h7.get k=h5.get k:=λk h1 h2=>by rw[p7.old k (by omega) h2,o6 k (by omega)]
 have cR7:h7.cell (B+1) 2=some vR:=by unfold H.cell;rw[oldO (B+1) cn5 A5.pO,A5.get];rfl
 have eR:dI vR vR=true:=A5.oR.sv.dI
 have svr:vr.cells= [vr]/\vr.one=true:=⟨(SV.cW pl1).1,(SV.cW pl1).2.1⟩
 simp(disch:=omega)only[go_sem,a7,cR7,eR,dC _ (z:= .aB) svr.1 svr.2]
 obtain⟨h8,h8e⟩: ∃h8:H,h8=H.mk ((H.mk h7.tr (h5.next+8)).new (Ob.cells false [vr])).tr h7.next:=⟨_,rfl⟩
 rw[←h8e]
 have g8:h8.get (h5.next+8)=some (.cells false [vr]):=by rw[h8e];exact H.aM (H.mk h7.tr (h5.next+8)) _
 have n8:h8.next=h7.next:=by rw[h8e]
 have o8: ∀k,k≠h5.next+8->h8.get k=h7.get k:=λk hk=>by rw[h8e];exact H.bG (H.mk h7.tr (h5.next+8)) (by simpa using hk) _
 have oR8:Own h8 vR 1 wsR h.next:=A5.oR.mono (by omega) λid off m c e _ hid=>by
  rw[o8 id (by omega),oldO id hid (λid' off' n' c' e' e2=>A5.dis _ _ _ _ e' _ _ _ _ e e2.symm)]
 obtain⟨h9,a9,p9⟩:=oR8.push (bytes:=24) (SV.one (by omega) g8 (.kn 1)) (n:=i) (m:=1) (by omega) rfl (by omega) (by omega) (by omega)
 have n9:=p9.next
 have apR: ∀k,h5.next<=k->dA vR k:=λk hk id off m c e e2=>by have:=(A5.oR.in _ _ _ _ e).1;omega
 have old9: ∀k,k<h5.next->dA vO k->dA vR k->h9.get k=h5.get k:=λk h1 h2 h3=>by rw[p9.old k (by omega) h3,o8 k (by omega),oldO k h1 h2]
 have gC9:h9.get (B+1)=some (.cells false [.int .i64 (n:Int),vO,vR]):=by rw[old9 _ cn5 A5.pO A5.pR];exact A5.get
 have pt1: ∀(hh:H) (x:V),dV (some (.cells false [.int .i64 (n:Int),vO,vR])) hh (B+1) 1 [x]=some (hh.set (B+1) (some (.cells false [.int .i64 (n:Int),x,vR]))):=λhh x=>bE (by simp) hh _ x
 have pt2: ∀(hh:H) (x y:V),dV (some (.cells false [.int .i64 (n:Int),x,vR])) hh (B+1) 2 [y]=some (hh.set (B+1) (some (.cells false [.int .i64 (n:Int),x,y]))):=λhh x y=>bE (by simp) hh _ y
 simp(disch:=omega)only[go_sem,a9,gC9,pt1,pt2]
 rw[show (i:Int)+1=((i+1:Nat):Int) from by omega]
 obtain⟨ha,hb⟩:h6.next=h5.next+14/\h8.next=h5.next+15:=⟨n6,by omega⟩
 rw[ha,hb]
 obtain⟨h10,h10e⟩: ∃h10,h10=(h9.set (B+1) (some (.cells false [.int .i64 (n:Int),.sl (h5.next+14) 0 (i+1) (.un 1),vR]))).set (B+1) (some (.cells false [.int .i64 (n:Int),.sl (h5.next+14) 0 (i+1) (.un 1),.sl (h5.next+15) 0 (i+1) (.un 1)])):=⟨_,rfl⟩
 rw[←h10e]
 have o10: ∀k,k≠B+1->h10.get k=h9.get k:=λk hk=>by rw[h10e,H.aH _ hk,H.aH _ hk]
 have n10:h10.next=h5.next+16:=by rw[h10e];show h9.next=_;omega
 have A10:=A5.step (v4:=vo) (v5:=vr) (o:=q) (r:=r) (h6:=h10) (a:=h5.next+14) (b:=h5.next+15) (k1:=i+1) (k2:=i+1) pq5 pl (by omega) (by omega) (by omega) (by omega) (by omega) (by omega) (by omega) (by rw[h10e,H.aT])
  (by rw[o10 _ (by omega),p9.old _ (by omega) (apR _ (by omega)),o8 _ (by omega),←ha];exact p7.get) (by rw[o10 _ (by omega),←hb];exact p9.get) (λk h1 h2 h3 h4=>by rw[o10 k h2];exact old9 k h1 h3 h4)
 refine⟨n-(i+1),by omega,i+1,_,_,_,_,_,_,_,aA rfl,by omega,A10,?_,by rw[jD,lO];rfl,by rw[jD,lR];rfl,λj hj=>?_,rfl⟩
 ·rw[old9 B (A5.wb B A5.d) A5.qO A5.qR];exact gB5
 ·by_cases e:j=i
  ·subst e
   have e1:(O++ [q]).getD j []=q:=by rw[←lO];exact getD_app_new
   have e2:(R'++ [r]).getD j []=r:=by rw[←lR];exact getD_app_new
   rw[e1,e2]
   exact hcl
  ·rw[getD_app_old (by omega),getD_app_old (by omega)]
   exact hC j (by omega)
set_option maxHeartbeats 32000000
theorem each_gen (D f:Nat)(fs:List V)(g:Nat->Int)(n:Nat)(G:List Nat->Prop)(L:List (List Nat))(K:List Nat)(h:H)(hr:K.length<=64)(d:DatO n G L K h D)
  (hf: ∀i,i<K.length-> ∀hh,Fr h hh->Ev T f (fs++ [.int .i64 (i:Int)]) hh (λv h'=>v= .int .i64 (g i)/\Fr hh h')):
  Ev T 41 [.ptr D 0,.fn f fs []] h (λv h'=>RowO h.next K.length g h' v/\Fr h h'):=by
 refine bP c_algebra_data_each rfl rfl ?_
 obtain⟨vL,vC,Mn,ln,ks,gD,hD,hMn,sL,sC,al,gMn,kln,lkn⟩:=d.ex
 have lvC:=(cls_open (by omega) sC al).1
 obtain⟨r,hrr⟩: ∃r,K.length=r:=⟨_,rfl⟩
 rw[hrr] at lvC hr hf
 obtain⟨S,hS⟩: ∃S,h.next=S:=⟨_,rfl⟩
 obtain⟨h1,e1,n1,g1,o1,f1⟩:=fC hS (rc r λ_=> .int .i64 0)
 simp(disch:=omega)only[go_sem,c_algebra_data_each,aE,H.aF gD,lvC,mks_zeros h r (by omega),hS,e1]
 refine aJ (λk' vars hh=> ∃(i:Nat),(∃j:Nat->V,vars= [j 0,.fn f fs [],j 2,.sl S 0 r (.kn r),j 4,.int .i64 (r:Int),.int .i64 (i:Int),j 7])/\i<=r/\hh.get S=some (.cells false (rc r λk=> .int .i64 (if k<i then g k else 0)))/\Fr h hh/\S<hh.next/\k'=r-i) r
  ⟨0,aA rfl,gK _,g1,f1,by omega,rfl⟩ ?_
 rintro k' vars hh ⟨i,⟨j,rfl⟩,hi,gS,F,nS,rfl⟩
 by_cases hlt:(i:Int)<(r:Int)
 ·have d1:decide ((i:Int)<(r:Int))=true:=decide_eq_true hlt
  have hi':i<r:=by omega
  simp(disch:=omega)only[go_sem,d1]
  refine (hf i hi' hh F).mono ?_
  rintro _ h2 ⟨rfl,f2⟩
  have gS2:h2.get S=some (.cells false (rc r λk=> .int .i64 (if k<i then g k else 0))):=by rw[f2.get S nS];exact gS
  have pt:=λhh=>bE (vs:=rc r λk=> .int .i64 (if k<i then g k else 0)) (off:=i) (by rw[cV];exact hi') hh S (.int .i64 (g i))
  simp(disch:=omega)only[go_sem,gS2,pt]
  rw[show (i:Int)+1=((i+1:Nat):Int) from by omega]
  have n2:=f2.next
  refine⟨r-(i+1),by omega,i+1,aA rfl,by omega,?_,(F.trans f2).set (by omega) _,by show S<h2.next;omega,rfl⟩
  rw[eY]
  congr 2
  refine bH λa ha=>?_
  by_cases e:a=i
  ·rw[if_pos e,if_pos (by omega),e]
  ·rw[if_neg e]
   by_cases e2:a<i
   ·rw[if_pos e2,if_pos (by omega)]
   ·rw[if_neg e2,if_neg (by omega)]
 have d1:decide ((i:Int)<(r:Int))=false:=decide_eq_false hlt
 obtain rfl:i=r:=by omega
 simp(disch:=omega)only[go_sem,d1]
 refine⟨⟨S,by rw[hrr],by omega,nS,?_⟩,F⟩
 rw[gS,hrr]
 congr 2
 exact bH λa ha=>by rw[if_pos ha]
noncomputable def rtA (n:Nat)(L:List (List Nat))(z:Int)(t:Nat)(y:List Nat):Nat:=((List.range t).filter λa=>decide (zp n (L.getD a []) z=y)).length
theorem filter_one {α:Type}(p:α->Bool)(a:α):([a].filter p).length=if p a=true then 1 else 0:=by
 cases h:p a<;>simp [h]
theorem rtA_succ (n:Nat)(L:List (List Nat))(z:Int)(t:Nat)(y:List Nat):rtA n L z (t+1) y=rtA n L z t y+if zp n (L.getD t []) z=y then 1 else 0:=by
 unfold rtA;rw[List.range_succ,List.filter_append,jD];rw[filter_one];simp only[decide_eq_true_iff]
theorem rtA_le (n:Nat)(L:List (List Nat))(z:Int)(t:Nat)(y:List Nat):rtA n L z t y<=t:=by
 unfold rtA;exact Nat.le_trans (List.length_filter_le _ _) (by rw[List.length_range];exact eP _)
noncomputable def rtK (n:Nat)(L:List (List Nat))(K:List Nat)(z:Int)(i:Nat):Nat:=rtA n L z L.length (L.getD (K.getD i 0) [])
theorem bld_rt (D M:Nat):mM [.nilp,.nilm] [(0,1,.ptr D 0),(1,1,.mp M)]=some (.agg [.ptr D 0,.mp M]):=rfl
theorem rootsOf_ok (D M i:Nat)(n:Nat)(G:List Nat->Prop)(L:List (List Nat))(K:List Nat)(h:H)(z:Int)(m:List (List Nat×V))(n7:n<=7)(hG:iL n G)(E:cX G L)(ik:IsK n G L K)(hr:K.length<=64)(d:DatO n G L K h D)(hi:i<K.length)
  (gM:h.get M=some (.wmap (.arr 64 .u8) (fA kyV m))) (hM:M<h.next) (pm: ∀p∈m,aX n p.1) (lk: ∀y,aX n y->(xI m y).getD (.int .i64 0)= .int .i64 ((rtA n L z L.length y:Nat):Int)):
  Ev T 42 [.agg [.ptr D 0,.mp M],.int .i64 (i:Int)] h (λv h'=>v= .int .i64 ((rtK n L K z i:Nat):Int)/\Fr h h'):=by
 refine bP c_algebra_roots_of rfl rfl ?_
 obtain⟨vL,vC,Mn,ln,ks,gD,hD,hMn,sL,sC,al,gMn,kln,lkn⟩:=d.ex
 obtain⟨lvC,eC,idC,offC,shC,cC⟩:=cls_open (by omega) sC al
 obtain⟨bC,rep,cr,_,rw3,sr⟩:=cC i hi
 have hKi:K.getD i 0<L.length:=ik.lt (getD_mem hi)
 obtain⟨x,hx⟩: ∃x,L.getD (K.getD i 0) []=x:=⟨_,rfl⟩
 rw[hx] at sr
 have X:aX n x:=by rw[←hx];exact el_isP hG E hKi
 obtain⟨A,hA⟩: ∃A,h.next=A:=⟨_,rfl⟩
 obtain⟨h1,e1,n1,g1,o1,f1⟩:=fC hA [.ptr D 0,.mp M]
 have gD1:h1.get D=some (.cells false [vL,vC,.mp Mn]):=by rw[f1.get _ hD];exact gD
 have cr1:h1.cell idC (offC+i*3)=some rep:=by rw[f1.cell bC];exact cr
 simp(disch:=omega)only[go_sem,c_algebra_roots_of,aE,yC h (v:= .ptr D 0) (u:= .mp M) rfl rfl,hA,e1,H.aF g1,H.aF gD1,shC.ixa,cr1]
 have fb:=(Fr.refl h1).bJ (n:=h1.next+14) (by omega)
 refine (keyOf_ok rep n x _ (by omega) X (sr.mono (f1.trans fb))).mono ?_
 rintro _ h2 ⟨rfl,f2⟩
 have F2:=f1.trans (fb.trans f2)
 have g2:h2.get A=some (.cells false [.ptr D 0,.mp M]):=by rw[(fb.trans f2).get A (by omega)];exact g1
 have gM2:h2.get M=some (.wmap (.arr 64 .u8) (fA kyV m)):=by rw[F2.get _ hM];exact gM
 have lo:=mC (kyV_eq (n:=n) (by omega)) (λa A=>kyV_key (n:=n) (by omega) a A) pm X (.int .i64 0)
 rw[lk x X] at lo
 simp(disch:=omega)only[go_sem,H.aF g2,gM2,lo]
 refine⟨by simp [dI],by unfold rtK;rw[hx],F2⟩
theorem roots_ok {W0:Nat->Prop}(vc:V)(z:Int)(n:Nat)(O:List (List Nat))(R:List (List (List Nat)))(G:List Nat->Prop)(h:H)(hz: -9223372036854775808<=z/\z<9223372036854775808)(gc:GC W0 h vc n O R G)(L:List (List Nat))(hL:cU O R n 0 (aW n)=L):
  Ev T 12 [vc,.int .i64 z] h (λv h'=> ∃K,IsK n G L K/\Fr h h'/\(64<K.length/\v= .tup [.aB,.int .i64 5]∨K.length<=64/\ ∃vl,v= .tup [vl,.int .i64 0]/\SI h' vl (zi ((List.range K.length).map (rtK n L K z))))):=by
 have gc0:=gc
 obtain⟨vO,vR,rfl,sO,sR⟩:=gc.ch
 refine bP c_algebra_Roots rfl rfl ?_
 have oneO:vO.one=true:=by obtain⟨_,t,_⟩:=sO;exact t.cW.2.1
 have oneR:vR.one=true:=by obtain⟨_,t,_⟩:=sR;exact t.cW.2.1
 have n7:=gc.n7
 have n0:=gc.n0
 have hG:=gc.grp
 obtain⟨E,ll⟩:=fQ gc.grp gc.isc
 have ll5:=szF_fact gc
 rw[hL] at E ll
 obtain⟨B,hB⟩: ∃B,h.next=B:=⟨_,rfl⟩
 obtain⟨h1,e1,n1,g1,o1,f1⟩:=fC hB [.int .i64 (n:Int),vO,vR]
 have bx:=dQ h (v:= .int .i64 (n:Int)) (u:=vO) (w:=vR) rfl oneO oneR
 simp(disch:=omega)only[go_sem,c_algebra_Roots,aE,bx,hB,e1,bU g1]
 refine (load_ok _ n O R G h1 (gc0.mono f1) L hL).mono ?_
 rintro _ h2 ⟨K,ik,f2,⟨k64,rfl⟩|⟨k64,D,rfl,dat⟩⟩
 ·simp(disch:=omega)only[go_sem]
  refine bD (λ_=>?_) (λhc=>(hc (by decide)).elim)
  simp(disch:=omega)only[go_sem]
  exact⟨K,ik,f1.trans f2,.inl ⟨k64,trivial⟩⟩
 simp(disch:=omega)only[go_sem]
 refine bD (λhc=>(hc rfl).elim) (λ_=>?_)
 have F2:=f1.trans f2
 obtain⟨vL,vC,Mn,ln,ks,gD,hD,hMn,sL,sC,al,gMn,kln,lkn⟩:=dat.ex
 obtain⟨lvL,eL,idL,offL,ws,shL,cL⟩:=sp_open sL
 obtain⟨m0,hm0⟩: ∃m,L.length=m:=⟨_,rfl⟩
 rw[hm0] at lvL shL cL
 obtain⟨M,hM⟩: ∃M,h2.next=M:=⟨_,rfl⟩
 obtain⟨h3,e3⟩: ∃h3,h2.new (.wmap (.arr 64 .u8) [])=h3:=⟨_,rfl⟩
 have n3:h3.next=M+1:=by rw[←e3,H.aV,hM]
 have g3:h3.get M=some (.wmap (.arr 64 .u8) []):=by rw[←e3,←hM];exact H.aM h2 _
 have o3: ∀k,k≠M->h3.get k=h2.get k:=λk hk=>by rw[←e3];exact H.bG h2 (by omega) _
 obtain⟨h4,e4,n4,g4,o4,f4⟩:=fC n3 [.nilp,.nilm]
 obtain⟨h5,e5,n5,g5,o5⟩:=uB h4 (M+1) [.ptr D 0,.mp M]
 have F25:Fr h2 h5:=⟨by omega,λq hq=>by rw[o5 q (by omega),o4 q (by omega),o3 q (by omega)]⟩
 have gM5:h5.get M=some (.wmap (.arr 64 .u8) []):=by rw[o5 M (by omega),o4 M (by omega)];exact g3
 have gD5: ∀hh,Fr h2 hh->hh.get D=some (.cells false [vL,vC,.mp Mn]):=λhh f=>by rw[f.get _ hD];exact gD
 simp(disch:=omega)only[go_sem,hM,e3,bld_rt,n3,e4,rJ h4 (M+1) 0 (v:= .ptr D 0) (u:= .mp M) rfl rfl,g4,oX,e5,H.aF (gD5 h5 F25),lvL]
 refine cF (λvs hh=> ∃(m:List (List Nat×V)),(∃g:Nat->V,vs= [g 0,g 1,g 2,g 3,g 4,.ptr D 0,g 6,.ptr (M+1) 0,g 8,g 9,g 10,g 11,g 12,g 13,g 14])/\hh.get M=some (.wmap (.arr 64 .u8) (fA kyV m))/\hh.get (M+1)=some (.cells false [.ptr D 0,.mp M])/\(∀p∈m,aX n p.1)/\(∀y,aX n y->(xI m y).getD (.int .i64 0)= .int .i64 ((rtA n L z L.length y:Nat):Int))/\M+1<hh.next/\Fr h2 hh) ?_ ?_
 ·refine aJ (λk' vars hh=> ∃(t:Nat) (m:List (List Nat×V)),(∃g:Nat->V,vars= [g 0,.int .i64 z,g 2,g 3,g 4,.ptr D 0,g 6,.ptr (M+1) 0,g 8,g 9,g 10,vL,.int .i64 (m0:Int),.int .i64 (t:Int),g 14])/\t<=m0/\hh.get M=some (.wmap (.arr 64 .u8) (fA kyV m))/\hh.get (M+1)=some (.cells false [.ptr D 0,.mp M])/\(∀p∈m,aX n p.1)/\(∀y,aX n y->(xI m y).getD (.int .i64 0)= .int .i64 ((rtA n L z t y:Nat):Int))/\M+1<hh.next/\Fr h2 hh/\k'=m0-t) m0
   ⟨0, [],aA rfl,gK _,gM5,g5,λ_ h=>(by cases h),λy _=>rfl,by omega,F25,rfl⟩ ?_
  rintro k' vars h6 ⟨t,m,⟨g,rfl⟩,ht,gM,gR,pm,lk,nM,F,rfl⟩
  by_cases hlt:(t:Int)<(m0:Int)
  case neg=>
   have d1:decide ((t:Int)<(m0:Int))=false:=decide_eq_false hlt;obtain rfl:t=m0:=by omega
   simp(disch:=omega)only[go_sem,d1];exact⟨m,aA rfl,gM,gR,pm,by rw[hm0];exact lk,nM,F⟩
  have d1:decide ((t:Int)<(m0:Int))=true:=decide_eq_true hlt
  have htl:t<m0:=by omega
  obtain⟨b1,c1,s1⟩:=cL t htl
  generalize ws.getD t V.undef=ve at c1 s1
  have X:=el_isP hG E (show t<L.length by omega)
  have c2:h6.cell idL (offL+t)=some ve:=by rw[F.cell b1];exact c1
  simp(disch:=omega)only[go_sem,d1,shL.ixa,c2]
  refine (ppow_ok ve z n (L.getD t []) h6 hz n0 n7 X (s1.mono F)).mono ?_
  rintro _ h7 ⟨w,rfl,sw,f7⟩
  have F7:=F.trans f7
  have n7':=f7.next
  have gM7:h7.get M=some (.wmap (.arr 64 .u8) (fA kyV m)):=by rw[f7.get _ (by omega)];exact gM
  have gR7:h7.get (M+1)=some (.cells false [.ptr D 0,.mp M]):=by rw[f7.get _ (by omega)];exact gR
  obtain⟨y,hy⟩: ∃y,zp n (L.getD t []) z=y:=⟨_,rfl⟩
  have Y:aX n y:=by rw[←hy];exact aY X _
  rw[hy] at sw
  simp(disch:=omega)only[go_sem,H.aF gR7]
  have fb:=(Fr.refl h7).bJ (n:=h7.next+9) (by omega)
  refine (keyOf_ok w n y _ (by omega) Y (sw.mono fb)).mono ?_
  rintro _ h8 ⟨rfl,f8⟩
  have f78:=fb.trans f8
  have F8:=F7.trans f78
  have gM8:h8.get M=some (.wmap (.arr 64 .u8) (fA kyV m)):=by rw[f78.get _ (by omega)];exact gM7
  have gR8:h8.get (M+1)=some (.cells false [.ptr D 0,.mp M]):=by rw[f78.get _ (by omega)];exact gR7
  have hE:=λa b=>kyV_eq (n:=n) (by omega) a b
  have hk:=λa=>kyV_key (n:=n) (by omega) a
  have lc:=lk y Y
  obtain⟨c,hc⟩: ∃c,rtA n L z t y=c:=⟨_,rfl⟩
  rw[hc] at lc
  have cle:c<=t:=by rw[←hc];exact rtA_le ..
  have lo2:=mC hE hk pm Y (.int .i64 0)
  rw[lc] at lo2
  obtain⟨we,ni,m1,h9,ee,n9,o9,gM9,pm1,lk9,en⟩:=Ia hE hk pm Y (.int .i64 0) (.int .i64 ((c+1:Nat):Int)) h8 M gM8
  have lo3:=mC hE hk pm1 Y (.int .i64 0)
  rw[lk9,lc] at lo3
  have n78:=f78.next
  have ok:Rz h9 (.lkw (.arr 64 .u8) (.int .i64 0) false (.c (.mp M)) (.c (kyV y))) (.int .i64 (c:Int))=true:=by
   simp only[Rz,An,xv,zL,gM9,lo3,Option.map_some,Xs];simp [dI]
  have gR9:h9.get (M+1)=some (.cells false [.ptr D 0,.mp M]):=by rw[o9 (M+1) (by omega)];exact gR8
  simp(disch:=omega)only[go_sem,H.aF gR8,gM8,lo2,show (c:Int)+1=((c+1:Nat):Int) from rfl,ee,gM9,ok,en]
  rw[show (t:Int)+1=((t+1:Nat):Int) from by omega]
  have nF:=F7.next
  refine⟨by simp [dI],m0-(t+1),by omega,t+1,_,aA rfl,by omega,rfl,gR9,sV Y pm,λy' Y'=>?_,by show M+1<h9.next;omega,⟨by show h2.next<=h9.next;omega,λp hp=>by rw[H.aH _ (by omega),o9 p (by omega)];exact F8.get p hp⟩,rfl⟩
  rw[uL,rtA_succ,hy]
  by_cases e:y'=y
  ·rw[if_pos e,if_pos e.symm,e,hc];rfl
  ·rw[if_neg e,if_neg (λh=>e h.symm),lk y' Y'];rfl
 rintro vars hA ⟨m,⟨g,rfl⟩,gM,gR,pm,lk,nM,FA⟩
 have rr:=zW gR
 simp(disch:=omega)only[go_sem,rr]
 refine (each_gen D 42 [.agg [.ptr D 0,.mp M]] (λi=>((rtK n L K z i:Nat):Int)) n G L K hA k64 (dat.mono FA) (λi hi hh f=>rootsOf_ok D M i n G L K hh z m n7 hG E ik k64 (dat.mono (FA.trans f)) hi (by rw[f.get M (by omega)];exact gM) (by have:=f.next;omega) pm lk)).mono ?_
 rintro vl hB ⟨ro,fB⟩
 have s:=ro.si
 have e:(List.range K.length).map (λi=>((rtK n L K z i:Nat):Int))=zi ((List.range K.length).map (rtK n L K z)):=by
  unfold zi;rw[List.map_map];rfl
 rw[e] at s
 simp(disch:=omega)only[go_sem]
 exact⟨K,ik,(F2.trans FA).trans fB,.inr ⟨k64,vl,rfl,s⟩⟩
def quB (L:List (List Nat))(K:List Nat)(a k:Nat):Nat:=numB L K (L.idxOf (aQ (bX (L.getD a [])) (L.getD (K.getD k 0) [])))
def cstB (L:List (List Nat))(K:List Nat)(i j k:Nat):Nat:=((List.range L.length).filter λa=>decide (numB L K a=i/\quB L K a k=j)).length
def mlB (L:List (List Nat))(K:List Nat)(x y:List Int)(k:Nat):Int:=sm L.length λa=>x.getD (numB L K a) 0*y.getD (quB L K a k) 0
def cntB (L:List (List Nat))(K:List Nat)(l:List Nat):List Int:=l.foldl (λc i=>(List.range K.length).map (mlB L K (indL K.length i) c)) (indL K.length 0)
def zpB (n:Nat)(x:List Nat)(z:Int):List Nat:=pw n x (z%(ordB n x:Nat)).toNat
def rtB (n:Nat)(L:List (List Nat))(K:List Nat)(z:Int)(i:Nat):Nat:=((List.range L.length).filter λa=>decide (zpB n (L.getD a []) z=L.getD (K.getD i 0) [])).length
section
variable {n:Nat} {G:List Nat->Prop} {L:List (List Nat)} {K:List Nat}
theorem quK_eqB (E:cX G L)(a k:Nat):quK G L K a k=quB L K a k:=numC_eq E _
theorem cstK_eqB (E:cX G L)(i j k:Nat):cstK G L K i j k=cstB L K i j k:=by
 unfold cstK cstA cstB;congr 2;funext a;rw[numC_eq E,quK_eqB E]
theorem mlF_eqB (E:cX G L)(x y:List Int)(k:Nat):mlF G L K x y k=mlB L K x y k:=by
 unfold mlF mlB;exact eI λa _=>by rw[numC_eq E,quK_eqB E]
theorem cntL_eqB (E:cX G L)(l:List Nat):cntL G L K l=cntB L K l:=by
 unfold cntL cntB;congr 1;funext c i;exact List.map_congr_left λk _=>mlF_eqB E _ _ k
theorem rtK_eqB (hG:iL n G)(E:cX G L)(hn:n<=7)(z:Int)(i:Nat):rtK n L K z i=rtB n L K z i:=by
 unfold rtK rtA rtB;congr 1;refine List.filter_congr λa ha=>?_
 unfold zp zpB;rw[ord_at hG E hn (rH.1 ha)]
end
def T3:List (List Nat):= [[1,2,0], [1,0,2]]
theorem T3_el:cX (dF 3 (· ∈T3)) L3:=ElOk.isEl (ws:= [[], [0,1], [1], [0], [0,0], [1,0]]) (by decide+kernel)
theorem T3_P: ∀g∈T3,aX 3 g:=λg hg=>permB_ok ((show ∀g∈T3,permB 3 g=true by decide+kernel) g hg)
theorem el_most {G:List Nat->Prop}{L:List (List Nat)}(E:cX G L){A:List (List Nat)}(nd:A.Nodup)(h: ∀x∈A,G x):A.length<=L.length:=List.Nodup.length_le_of_subset nd λx hx=>(E.mem x).2 (h x hx)
theorem three_ok (h:H):Ev T 34 [] h (λv h'=> ∃O R,GC (λid=>id<h.next) h' v 3 O R (dF 3 (· ∈T3))/\Fr h h'):=by
 refine bP c_law27_three rfl rfl ?_
 obtain⟨B,hB⟩: ∃B,h.next=B:=⟨_,rfl⟩
 obtain⟨h1,e1,n1,g1,o1,f1⟩:=fC hB [.int .i64 0,.aB,.aB];obtain⟨h2,e2,n2,s2,f2⟩:=mkI n1 [1,2,0];obtain⟨h3,e3,n3,s3,f3⟩:=mkI n2 [1,0,2];obtain⟨h4,e4,n4,g4,o4,f4⟩:=fC n3 [.sl (B+1) 0 3 (.kn 3),.sl (B+1+1) 0 3 (.kn 3)];have F14:=(f2.trans f3).trans f4;have sp4:SP h4 (.sl (B+1+1+1) 0 2 (.kn 2)) T3:=SP.two (a:= [1,2,0]) (b:= [1,0,2]) (h:=h3) (s2.mono f3) s3 (by omega) f4 g4 _;simp(disch:=omega)only[go_sem,c_law27_three,aE,hB,e1,n1,bls_i3,e2,n2,e3,n3,bls_s2 _ (sl_cells ..) (sl_cells ..),e4];refine (kelemN_ok 10 3 _ T3 h4 (by omega) (by omega) T3_P (by decide) (λA nd hA=>Nat.le_trans (el_most T3_el nd hA) (by decide)) sp4).mono ?_;rintro vA h5 ⟨A,EA,lA,sA,f5⟩;simp(disch:=omega)only[go_sem];refine (chainOf_ok vA 3 _ A h5 (by omega) (by omega) (dF.grp T3_P) EA (by omega) sA).mono ?_;rintro vc h6 ⟨O,R,cw,isc,f6⟩
 have gc:GC (λid=>id<h5.next) h6 vc 3 O R (dF 3 (· ∈T3)):=⟨cw,isc,dF.grp T3_P,by omega,by omega⟩
 obtain⟨u,w,rfl,a,b,_,_⟩:=gc.sl;have F16:=(F14.trans f5).trans f6;have n5:=(F14.trans f5).next
 have n6:=f6.next;have g6:h6.get B=some (.cells false [.int .i64 0,.aB,.aB]):=by rw[F16.get B (by omega)];exact g1
 obtain⟨h7,e7,n7,g7,o7⟩:=uB h6 B [.int .i64 (3:Nat),u,w];simp(disch:=omega)only[go_sem,iM h6 B 0 (v:= .int .i64 (3:Nat)) (u:=u) (w:=w) rfl a b,g6,fH,e7,bU g7];exact⟨O,R,gc.go (⟨by omega,λid h1 h2=>o7 id (by show id≠B;have: ¬id<h5.next:=h2;omega)⟩:Fx (λid=>id<h5.next) h6 h7) (λid h1 h2=>by show id<h5.next;omega),⟨by omega,λq hq=>by rw[o7 q (by omega),F16.get q (by omega),o1 q (by omega)]⟩⟩
theorem four_ok (h:H):Ev T 35 [] h (λv h'=> ∃O R,GC (λid=>id<h.next) h' v 4 O R (dF 4 (· ∈C4))/\Fr h h'):=by
 refine bP c_law27_four rfl rfl ?_
 obtain⟨B,hB⟩: ∃B,h.next=B:=⟨_,rfl⟩
 obtain⟨h1,e1,n1,g1,o1,f1⟩:=fC hB [.int .i64 0,.aB,.aB];obtain⟨h2,e2,n2,s2,f2⟩:=mkI n1 [1,2,3,0];obtain⟨h4,e4,n4,g4,o4,f4⟩:=fC n2 [.sl (B+1) 0 4 (.kn 4)];have F14:=f2.trans f4;have sp4:SP h4 (.sl (B+1+1) 0 1 (.kn 1)) C4:=SP.one' (a:= [1,2,3,0]) (h:=h2) s2 (by omega) f4 g4 _;simp(disch:=omega)only[go_sem,c_law27_four,aE,hB,e1,n1,bls_i4,e2,n2,dC _ (z:= .aB) (v:= .sl (B+1) 0 4 (.kn 4)) rfl rfl,e4];refine (kelemN_ok 10 4 _ C4 h4 (by omega) (by omega) C4_P (by decide) (λA nd hA=>Nat.le_trans (el_most L4_ok nd hA) (by decide)) sp4).mono ?_;rintro vA h5 ⟨A,EA,lA,sA,f5⟩;simp(disch:=omega)only[go_sem];refine (chainOf_ok vA 4 _ A h5 (by omega) (by omega) (dF.grp C4_P) EA (by omega) sA).mono ?_;rintro vc h6 ⟨O,R,cw,isc,f6⟩
 have gc:GC (λid=>id<h5.next) h6 vc 4 O R (dF 4 (· ∈C4)):=⟨cw,isc,dF.grp C4_P,by omega,by omega⟩
 obtain⟨u,w,rfl,a,b,_,_⟩:=gc.sl;have F16:=(F14.trans f5).trans f6;have n5:=(F14.trans f5).next
 have n6:=f6.next;have g6:h6.get B=some (.cells false [.int .i64 0,.aB,.aB]):=by rw[F16.get B (by omega)];exact g1
 obtain⟨h7,e7,n7,g7,o7⟩:=uB h6 B [.int .i64 (4:Nat),u,w];simp(disch:=omega)only[go_sem,iM h6 B 0 (v:= .int .i64 (4:Nat)) (u:=u) (w:=w) rfl a b,g6,fH,e7,bU g7];exact⟨O,R,gc.go (⟨by omega,λid h1 h2=>o7 id (by show id≠B;have: ¬id<h5.next:=h2;omega)⟩:Fx (λid=>id<h5.next) h6 h7) (λid h1 h2=>by show id<h5.next;omega),⟨by omega,λq hq=>by rw[o7 q (by omega),F16.get q (by omega),o1 q (by omega)]⟩⟩
theorem group_ok (vl:V)(l:List Int)(h:H)(hv:SI h vl l)(hl:l.length<9223372036854775808):
  Ev T 26 [vl] h (λv h'=> ∃(n:Nat) (S:List (List Nat)) (O:List (List Nat)) (R:List (List (List Nat))),1<=n/\n<=5/\(∀g∈S,aX n g)/\GC (λid=>id<h.next) h' v n O R (dF n (· ∈S))/\Fr h h'):=by
 refine bP c_law27_group rfl rfl ?_
 obtain⟨B,hB⟩: ∃B,h.next=B:=⟨_,rfl⟩
 obtain⟨h1,e1,n1,g1,o1,f1⟩:=fC hB [.int .i64 0,.aB,.aB]
 simp(disch:=omega)only[go_sem,c_law27_group,aE,hB,e1]
 refine (groupOf_ok vl l 5 h1 (hv.mono f1) hl (by omega) (by omega)).mono ?_
 rintro _ h2 ⟨n,vg,S,rfl,hn1,hn5,hg3,gP,sg,f2⟩
 obtain⟨Q,hQ⟩: ∃Q,h2.next=Q:=⟨_,rfl⟩
 obtain⟨h3,e3,n3,g3,o3,f3⟩:=fC hQ [.int .i64 0,.aB]
 obtain⟨h4,e4,n4,g4,o4⟩:=uB h3 Q [.int .i64 (n:Int),vg]
 have wg:vg.one=true/\dI vg vg=true:=by obtain⟨ws,s,_⟩:=sg;exact⟨s.cW.2.1,s.dI⟩
 have f24:Fr h2 h4:=⟨by omega,λq hq=>by rw[o4 q (by omega),o3 q (by omega)]⟩
 have n2:=f2.next
 have cg: ∀hh,Fr h4 hh->hh.get Q=some (.cells false [.int .i64 (n:Int),vg]):=λhh f=>by rw[f.get Q (by omega)];exact g4
 simp(disch:=omega)only[go_sem,hQ,e3,rJ h3 Q 0 (v:= .int .i64 (n:Int)) (u:=vg) rfl wg.1,g3,oX,e4,H.aF g4]
 have fb:=(Fr.refl h4).bJ (n:=h4.next+9) (by omega)
 refine (kelemN_ok 200 n vg S _ hn1 hn5 gP (by omega) (λA nd hA=>Nat.le_trans (perms_five hn5 nd λx hx=>(hA x hx).isP gP) (by decide)) (sg.mono (f24.trans fb))).mono ?_
 rintro vA h5 ⟨A,EA,lA,sA,f5⟩
 have F45:=fb.trans f5
 simp(disch:=omega)only[go_sem,H.aF (cg h5 F45)]
 refine (chainOf_ok vA n _ A h5 (by omega) (by omega) (dF.grp gP) EA (by omega) sA).mono ?_
 rintro vc h6 ⟨O,R,cw,isc,f6⟩
 have gc:GC (λid=>id<h5.next) h6 vc n O R (dF n (· ∈S)):=⟨cw,isc,dF.grp gP,by omega,by omega⟩
 obtain⟨u,w,rfl,a,b,_,_⟩:=gc.sl
 have F16:=((f2.trans f24).trans F45).trans f6
 have n5:=((f2.trans f24).trans F45).next
 have n6:=f6.next
 have g6:h6.get B=some (.cells false [.int .i64 0,.aB,.aB]):=by rw[F16.get B (by omega)];exact g1
 obtain⟨h7,e7,n7,g7,o7⟩:=uB h6 B [.int .i64 (n:Int),u,w]
 simp(disch:=omega)only[go_sem,H.aF (cg h6 (F45.trans f6)),iM h6 B 0 (v:= .int .i64 (n:Int)) (u:=u) (w:=w) rfl a b,g6,fH,e7,bU g7]
 exact⟨n,S,O,R,hn1,hn5,gP,gc.go (⟨by omega,λid h1 h2=>o7 id (by show id≠B;have: ¬id<h5.next:=h2;omega)⟩:Fx (λid=>id<h5.next) h6 h7) (λid h1 h2=>by show id<h5.next;omega),⟨by omega,λq hq=>by rw[o7 q (by omega),F16.get q (by omega),o1 q (by omega)]⟩⟩
set_option maxHeartbeats 16000000
theorem is_ok (v w:V)(a b:List Int)(h:H)(sa:SI h v a)(sb:SI h w b)(la:a.length<1000000)(lb:b.length<1000000):
  Ev T 36 [v,.int .i64 0,w] h (λv h'=>v= .bool (decide (a=b))/\Fr h h'):=by
 refine bP c_law27_is rfl rfl ?_
 simp(disch:=omega)only[go_sem,c_law27_is,aE,decide_true]
 refine (same_ok v w a b h sa sb la lb).mono ?_
 rintro _ h1 ⟨rfl,f1⟩
 simp(disch:=omega)only[go_sem]
 exact f1
theorem bls_r3 (h:H){v u w:V}(hv:v.cells= [v]/\v.one=true)(hu:u.cells= [u]/\u.one=true)(hw:w.cells= [w]/\w.one=true):nG h 1 [.aB] 3 [(0,1,v),(1,1,u),(2,1,w)]=some (.sl h.next 0 3 (.kn 3),h.new (.cells false [v,u,w])):=by
 have e:dG [V.aB] 3= [.aB,.aB,.aB]:=rfl;simp [nG,fU,e,putAt,hv.1,hv.2,hu.1,hu.2,hw.1,hw.2]
theorem cst_val:(List.range 3).map (λj=>zi ((List.range 3).map (cstB L3 [0,1,3] 1 j)))= [[0,1,0], [3,0,3], [0,2,0]]:=by decide+kernel
theorem cnt_val:(cntB L3 [0,1,3] [1,1,2]).getD 0 0=6:=by decide+kernel
theorem rt_val:zi ((List.range 4).map (rtB 4 L4 [0,2,1,3] 2))= [2,2,0,0]:=by decide+kernel
theorem lives_ok (h:H):Ev T 10 [] h (λv h'=>v= .bool true/\Fr h h'):=by
 refine bP c_law27_lives rfl rfl ?_;simp(disch:=omega)only[go_sem,c_law27_lives,aE];refine (three_ok h).mono ?_;rintro vc h1 ⟨O,R,gc,f1⟩;simp(disch:=omega)only[go_sem];refine (const_ok vc 1 3 O R _ h1 gc L3 (gc.el T3_el)).mono ?_;rintro w1 h2 ⟨K,ik,f2,hv⟩;obtain rfl:K= [0,1,3]:=KOk.eq gc.grp T3_el (by omega) K3_ok ik
 obtain⟨vl,rfl,sl⟩: ∃vl,w1=V.tup [vl,.int .i64 0]/\SR h2 vl (cstM (dF 3 (· ∈T3)) L3 [0,1,3] 1):=by
  rcases hv with ⟨h1,_⟩|⟨_,⟨h1,_⟩|⟨i,vl,e,_,rfl,s⟩⟩
  ·simp at h1
  ·simp at h1
  ·obtain rfl:i=1:=by omega
   exact⟨vl,rfl,s⟩
 clear hv
 have ec:cstM (dF 3 (· ∈T3)) L3 [0,1,3] 1= [[0,1,0], [3,0,3], [0,2,0]]:=by
  rw[←cst_val];unfold cstM;exact List.map_congr_left λj _=>by congr 1;exact List.map_congr_left λk _=>cstK_eqB T3_el _ _ _
 rw[ec] at sl;simp(disch:=omega)only[go_sem];refine (three_ok h2).mono ?_;rintro vc2 h3 ⟨O2,R2,gc2,f3⟩;obtain⟨h4,e4,n4,s4,f4⟩:=mkI (h:=h3) rfl [1,1,2];simp(disch:=omega)only[go_sem,bls_i3,e4];refine (cnt_ok vc2 _ [1,1,2] 3 O2 R2 _ h4 (by decide) s4 (gc2.mono f4) L3 (gc2.el T3_el)).mono ?_;rintro w2 h5 ⟨K,ik2,f5,hv⟩;obtain rfl:K= [0,1,3]:=KOk.eq gc2.grp T3_el (by omega) K3_ok ik2
 obtain rfl:w2=V.tup [.int .i64 6,.int .i64 0]:=by
  rcases hv with ⟨h1,_⟩|⟨_,⟨h1,_⟩|⟨_,⟨⟨x,hx,h1⟩,_⟩|⟨l',e,_,rfl⟩⟩⟩
  ·simp at h1
  ·simp at h1
  ·simp only[List.length_cons,List.length_nil] at h1
   simp only[List.mem_cons,List.not_mem_nil,or_false] at hx;omega
  ·have el:l'= [1,1,2]:=zi_inj (e.symm.trans (by decide))
   rw[el,cntL_eqB T3_el,cnt_val]
 clear hv;simp(disch:=omega)only[go_sem];refine (four_ok h5).mono ?_;rintro vc3 h6 ⟨O3,R3,gc3,f6⟩;simp(disch:=omega)only[go_sem];refine (roots_ok vc3 2 4 O3 R3 _ h6 (by omega) gc3 L4 (gc3.el L4_ok)).mono ?_;rintro w3 h7 ⟨K,ik3,f7,hv⟩;obtain rfl:K= [0,2,1,3]:=KOk.eq gc3.grp L4_ok (by omega) K4_ok ik3
 obtain⟨vr,rfl,sr⟩: ∃vl,w3=V.tup [vl,.int .i64 0]/\SI h7 vl [2,2,0,0]:=by
  rcases hv with ⟨h1,_⟩|⟨_,vl,rfl,s⟩
  ·simp at h1
  ·refine⟨vl,rfl,?_⟩
   have e:zi ((List.range [0,2,1,3].length).map (rtK 4 L4 [0,2,1,3] 2))= [2,2,0,0]:=by
    rw[←rt_val];congr 1;exact List.map_congr_left λi _=>rtK_eqB gc3.grp L4_ok (by omega) _ _
   rw[e] at s;exact s
 clear hv;obtain⟨ha,ea,na,sa,fa⟩:=mkI (h:=h7) rfl [0,1,0];obtain⟨hb,eb,nb,sb,fb⟩:=mkI na [3,0,3];obtain⟨hc,ec',nc,sc,fc⟩:=mkI nb [0,2,0];have F17:=(((((f1.trans f2).trans f3).trans f4).trans f5).trans f6).trans f7;simp(disch:=omega)only[go_sem,decide_true,bls_i3,ea,na,eb,nb,ec']
 obtain⟨A,hA⟩: ∃A,h7.next=A:=⟨_,rfl⟩
 rw[hA] at na nb nc sa sb sc ⊢;obtain⟨hd,ed,nd,gd,od,fd⟩:=fC nc [.sl A 0 3 (.kn 3),.sl (A+1) 0 3 (.kn 3),.sl (A+1+1) 0 3 (.kn 3)];have f7d:=((fa.trans fb).trans fc).trans fd
 have sw:SR hd (.sl (A+1+1+1) 0 3 (.kn 3)) [[0,1,0], [3,0,3], [0,2,0]]:=⟨_,SV.all (by rfl) (by omega) gd _,sa.mono ((fb.trans fc).trans fd),sb.mono (fc.trans fd),sc.mono fd,trivial⟩
 simp(disch:=omega)only[go_sem,bls_r3 _ (sl_cells ..) (sl_cells ..) (sl_cells ..),nc,ed];refine (sameLists_ok vl _ _ _ hd (sl.mono ((((f3.trans f4).trans f5).trans f6).trans (f7.trans f7d))) sw (by decide) (by decide) (by decide) (by decide)).mono ?_;rintro _ h8 ⟨rfl,f8⟩;rw[decide_eq_true rfl];obtain⟨he,ee,ne,se,fe⟩:=mkI (h:=h8) rfl [2,2,0,0];simp(disch:=omega)only[go_sem,decide_true,bls_i4,ee];refine (is_ok vr _ _ _ he (sr.mono ((f7d.trans f8).trans fe)) se (by decide) (by decide)).mono ?_;rintro _ h9 ⟨rfl,f9⟩;rw[decide_eq_true rfl];simp(disch:=omega)only[go_sem];exact (((F17.trans f7d).trans f8).trans fe).trans f9
theorem row_nat {h:H}{v:V}{n:Nat}{f:Nat->Nat}(s:SV h v 1 (rc n λk=> .int .i64 ((f k:Nat):Int))):dB v=some (.int .i64 (n:Int))/\ ∃id off,Sl v 1 n id off/\ ∀k,k<n->id<h.next/\h.cell id (off+k)=some (.int .i64 ((f k:Nat):Int)):=by
 have hl:(rc n λk=>V.int .i64 ((f k:Nat):Int)).length=n:=cV n _;refine⟨by unfold dB;rw[SV.len s (n:=n) (by omega) (by omega)];rfl,?_⟩;obtain⟨id,off,sh,hid,hc⟩:=SV.shape s n (by omega) (by omega);exact⟨id,off,sh,λk hk=>⟨hid (by omega),by rw[hc k (by omega),jC hk]⟩⟩
theorem szK_le {n:Nat}{G:List Nat->Prop}{L:List (List Nat)}{K:List Nat}(k:Nat):szK G L K k<=L.length:=by
 unfold szK orbC;exact Nat.le_trans (List.length_filter_le _ _) (by rw[List.length_range];exact eP _)
theorem nat_row {h:H}{v:V}{n:Nat}{f:Nat->Nat}(s:SI h v (zi ((List.range n).map f))):dB v=some (.int .i64 (n:Int))/\ ∃id off,Sl v 1 n id off/\ ∀k,k<n->id<h.next/\h.cell id (off+k)=some (.int .i64 ((f k:Nat):Int)):=by
 refine row_nat (f:=f) ?_;have e:(rc n λk=>V.int .i64 ((f k:Nat):Int))=ints (zi ((List.range n).map f)):=by simp [rc,ints,zi,Function.comp_def]
 rw[e];exact s
noncomputable def mlL (G:List Nat->Prop)(L:List (List Nat))(K:List Nat)(x y:List Int):List Int:=(List.range K.length).map (mlF G L K x y)
theorem mlL_len {G:List Nat->Prop}{L:List (List Nat)}{K:List Nat}(x y:List Int):(mlL G L K x y).length=K.length:=by unfold mlL;simp
section
variable {n:Nat} {G:List Nat->Prop} {L:List (List Nat)} {K:List Nat} (hG:iL n G) (E:cX G L) (ik:IsK n G L K)
include hG E ik
end
end Go.Proofs.YtapfcpkecmmagaaGreat
namespace Go.Proofs.YtapfcpkecmmagaaGreat
open Go Go.Ay
set_option maxRecDepth 100000
set_option maxRecDepth 100000
end Go.Proofs.YtapfcpkecmmagaaGreat
namespace Go.Proofs.YtapfcpkecmmagaaGreat
open Go Go.Ay Go.Pm
set_option maxRecDepth 100000
set_option maxRecDepth 100000
theorem FxT.own {D b:Nat}{h h':H}{v:V}{ws:List V}(o:Own h v 1 ws b)(hD:D<b)(f:FxT D h h'):Own h' v 1 ws b:=
 o.mono f.next λid _ _ _ _ hb hid=>f.get id hid (by omega)
structure Cen (r:Nat)(B:Nat)(x:List Int):Prop where
 len:x.length=r
 bd: ∀e∈x, -(B:Int)<=e/\e<=B
theorem Cen.more {r B B':Nat}{x:List Int}(c:Cen r B x)(h:B<=B'):Cen r B' x:=⟨c.len,λe he=>by have:=c.bd e he;omega⟩
theorem Cen.ml {B B':Nat}{G:List Nat->Prop}{L:List (List Nat)}{K:List Nat}{x y:List Int}(cx:Cen K.length B x)(cy:Cen K.length B' y):Cen K.length (L.length*(B*B')) (mlL G L K x y):=⟨mlL_len x y,λe he=>by
 obtain⟨k,_,rfl⟩:=jH.1 he
 exact mlF_bound cx.bd cy.bd k⟩
theorem gs_const (c:Int): ∀l:List (List Nat),gs l (λ_=>c)=c*(l.length:Nat)
 | []=>by simp [gs]
 |a::l=>by
  show c+gs l (λ_=>c)=_;rw[gs_const c l,List.length_cons,Int.natCast_add,Int.mul_add];omega
section
variable {n:Nat} {G:List Nat->Prop} {L:List (List Nat)} {K:List Nat} (hG:iL n G) (E:cX G L) (ik:IsK n G L K)
include hG E ik
theorem size_sum:sm K.length (λk=>((szK G L K k:Nat):Int))=(L.length:Nat):=by
 have h:=sum_cl hG E ik (λ_=>1);rw[gs_const,Int.one_mul] at h;rw[←h];exact eI λk _=>(Int.one_mul _).symm
omit hG E ik in
theorem rt_gs (z:Int)(i:Nat):((rtK n L K z i:Nat):Int)=gs L λx=>if zp n x z=L.getD (K.getD i 0) [] then 1 else 0:=by
 rw[←sm_gs,sm_count,Int.one_mul]
 rfl
theorem rt_cl (z:Int){y:List Nat}(hy:G y):((rtK n L K z (clE G L K y):Nat):Int)=gs L λx=>if zp n x z=y then 1 else 0:=by
 have hk:=cl_lt hG E ik hy;have hr:=el_mem E (ik.lt (getD_mem (d:=0) hk));obtain⟨c,hc,e⟩:=(cl_same hG E ik hr hy).1 (cl_rep hG E ik hk);rw[rt_gs];generalize clE G L K y=k at*;have C:=hG.isP hc
 rw[←e,←gs_bij E (λx=>if zp n x z=conjP (L.getD (K.getD k 0) []) c then 1 else 0) (λx=>conjP x c) (λx hx=>cj_mem hG hx ⟨c,hc,rfl⟩) λx y hx hy e=>by
  have:=congrArg (λw=>conjP w (bX c)) e
  simpa only[conjP_inv (hG.isP hx) C,conjP_inv (hG.isP hy) C] using this]
 refine gs_congr λx hx=>?_
 have X:=hG.isP ((E.mem x).1 hx);have R:=hG.isP hr
 have ez:zp n (conjP x c) z=conjP (zp n x z) c:=by
  unfold zp;rw[ordP_conj X C,conj_pw X C]
 have Y:=aY X (z%(cM x n:Nat)).toNat
 by_cases h:zp n x z=L.getD (K.getD k 0) []
 ·rw[if_pos h,if_pos (by rw[ez,h])]
 ·rw[if_neg h,if_neg λh2=>h (conjP_inj Y R C (by rw[←h2,ez]))]
theorem rt_sum (z:Int):sm K.length (λk=>((rtK n L K z k:Nat):Int)*((szK G L K k:Nat):Int))=(L.length:Nat):=by
 rw[sum_cl hG E ik (λk=>((rtK n L K z k:Nat):Int)),gs_congr λy hy=>rt_cl hG E ik z ((E.mem y).1 hy),gs_swap];rw[gs_congr (g:=λ_=>1) λx hx=>?_,gs_const,Int.one_mul];have hx':=(E.mem x).1 hx;refine (gs_congr λy _=>?_).trans (gs_one (zp n x z) 1 E.nodup ((E.mem _).2 (grp_pw hG hx' _)))
 by_cases h:zp n x z=y
 ·rw[if_pos h,if_pos h.symm]
 ·rw[if_neg h,if_neg λe=>h e.symm]
theorem iv_lt {i:Nat}(hi:i<K.length):ivK G L K i<K.length:=by
 have h:=cl_inv hG E ik (el_mem E (ik.lt (getD_mem (d:=0) hi)));rw[cl_rep hG E ik hi] at h;rw[←h];exact cl_lt hG E ik (hG.inv (el_mem E (ik.lt (getD_mem hi))))
theorem sz_iv {i:Nat}(hi:i<K.length):szK G L K (ivK G L K i)=szK G L K i:=by
 have h1:=sz_gs hG E ik hi;have h2:=sz_gs hG E ik (iv_lt hG E ik hi)
 have:((szK G L K (ivK G L K i):Nat):Int)=((szK G L K i:Nat):Int):=by
  rw[h1,h2,←gs_bij E (λx=>if clE G L K x=i then 1 else 0) bX (λx hx=>hG.inv hx) λa b ha hb e=>by rw[←lM (hG.isP ha),←lM (hG.isP hb),e]];refine gs_congr λx hx=>?_
  have iv:=iv_iv hG E ik ((E.mem x).1 hx) hi
  by_cases h:clE G L K (bX x)=i
  ·rw[if_pos h,if_pos (iv.1 h)]
  ·rw[if_neg h,if_neg λe=>h (iv.2 e)]
 omega
theorem iv_inv {i:Nat}(hi:i<K.length):ivK G L K (ivK G L K i)=i:=by
 have hx:=el_mem E (ik.lt (getD_mem (d:=0) hi));have h:=cl_rep hG E ik hi;have h1:=cl_inv hG E ik (hG.inv hx);rw[lM (hG.isP hx),cl_inv hG E ik hx,h] at h1;exact h1.symm
theorem sz_div {i:Nat}(hi:i<K.length):szK G L K i*(L.length/szK G L K i)=L.length:=by
 have hr:=ik.lt (getD_mem (d:=0) hi);exact Nat.mul_div_cancel' ⟨_,orbit_stab hG E hr⟩
theorem com_zero:comS G L K 0 K.length=K.length*L.length:=by
 have h:=comS_sm (G:=G) (L:=L) (K:=K) 0 K.length
 rw[eI (g:=λ_=>((L.length:Nat):Int)) λi hi=>by
  rw[cst_zero hG E ik (iv_lt hG E ik hi),iv_inv hG E ik hi,if_pos rfl,sz_iv hG E ik hi,←Int.natCast_mul,sz_div hG E ik hi]] at h
 have e: ∀r:Nat,sm r (λ_=>((L.length:Nat):Int))=((r*L.length:Nat):Int):=λr=>by
  induction r with
  |zero=>simp [jW]
  |succ r ih=>rw[dS,ih,Nat.succ_mul,Int.natCast_add]
 rw[e] at h;exact Int.ofNat.inj h
theorem com_sum:sm K.length (λk=>((comS G L K k K.length:Nat):Int)*((szK G L K k:Nat):Int))=(L.length:Nat)*(L.length:Nat):=by
 rw[eI (g:=λk=>sm K.length λi=>((L.length/szK G L K i:Nat):Int)*(((cstK G L K (ivK G L K i) i k:Nat):Int)*((szK G L K k:Nat):Int))) λk hk=>by
  rw[comS_sm,←Ta]
  exact eI λi _=>by rw[Int.mul_comm (((cstK G L K (ivK G L K i) i k:Nat):Int)),Int.mul_assoc],Uh]
 rw[eI (g:=λi=>((L.length:Nat):Int)*((szK G L K i:Nat):Int)) λi hi=>by
  rw[Mv,cst_sum hG E ik (iv_lt hG E ik hi) hi,sz_iv hG E ik hi,←Int.mul_assoc,Int.mul_comm ((L.length/szK G L K i:Nat):Int),←Int.natCast_mul,sz_div hG E ik hi],Mv,size_sum hG E ik]
end
theorem frob_walk (hF: ∀(n:Nat) (G:List Nat->Prop) (L:List (List Nat)) (K:List Nat),iL n G->cX G L->IsK n G L K->L.length<=120-> ∀z:Int,Nat.gcd L.length (z%(L.length:Nat)).toNat∣rtK n L K z 0)(u:V)(l:List Int)(z:Int)(h:H)(hz: -9223372036854775808<=z/\z<9223372036854775808)(hu:SI h u l)(hl:(l.length:Int)<=2^63- 1):
  Ev T 5 [u,.int .i64 z] h (λv h'=>v= .bool true/\Fr h h'):=by
 refine bP c_law27_AlgebraFrobenius rfl rfl ?_
 simp(disch:=omega)only[go_sem,c_law27_AlgebraFrobenius,aE]
 refine (lives_ok h).mono ?_
 rintro _ h1 ⟨rfl,f1⟩
 have lu:=hu.lens
 have dT:decide True=true:=rfl
 have d0:decide ((0:Int)≠0)=false:=rfl
 by_cases h60:(60:Int)<(l.length:Int)
 case pos=>
  have d1:decide ((60:Int)<(l.length:Int))=true:=decide_eq_true h60;simp(disch:=omega)only[go_sem,lu,d1];exact f1
 have d1:decide ((60:Int)<(l.length:Int))=false:=decide_eq_false h60
 simp(disch:=omega)only[go_sem,lu,d1]
 refine (group_ok u l h1 (hu.mono f1) (by omega)).mono ?_
 rintro vc h2 ⟨n,S,O,R,hn1,hn5,hS,gc,f2⟩
 obtain⟨E,hLl⟩:=fQ gc.grp gc.isc
 have ll5:=szF_fact gc
 obtain⟨L,hL⟩: ∃L,cU O R n 0 (aW n)=L:=⟨_,rfl⟩
 rw[hL] at E hLl
 have hG:=gc.grp
 have L120:L.length<=120:=perms_five hn5 E.nodup λx hx=>hG.isP ((E.mem x).1 hx)
 obtain⟨u1,w1,rfl,a1,b1,_,_⟩:=gc.sl
 obtain⟨C,hC⟩: ∃C,h2.next=C:=⟨_,rfl⟩
 obtain⟨h3,e3,n3,g3,o3,f3⟩:=fC hC [.int .i64 0,.aB,.aB]
 obtain⟨h4,e4,n4,g4,o4⟩:=uB h3 C [.int .i64 (n:Int),u1,w1]
 have F24:Fr h2 h4:=⟨by omega,λid hid=>by rw[o4 id (by omega),o3 id (by omega)]⟩
 have gc4:=gc.mono F24
 have rC: ∀hh,Fr h4 hh->hh.row C 0 3=some [.int .i64 (n:Int),u1,w1]:=λhh f=>bU (by rw[f.get _ (by omega)];exact g4)
 have F04:=(f1.trans f2).trans F24
 simp(disch:=omega)only[go_sem,hC,e3,iM h3 C 0 (v:= .int .i64 (n:Int)) (u:=u1) (w:=w1) rfl a1 b1,g3,fH,e4,rC h4 (Fr.refl _)]
 refine (clist_ok _ n O R _ h4 gc4 L hL).mono ?_
 rintro _ h5 ⟨v5,K,ks,rfl,ik,sC,al,f5⟩
 simp(disch:=omega)only[go_sem,rC h5 f5]
 refine (roots_ok _ z n O R _ h5 hz (gc4.mono f5) L hL).mono ?_
 rintro w h6 ⟨K',ik',f6,hw⟩
 obtain rfl:=ik'.uniq ik
 have F6:=f5.trans f6
 have kl:K'.length<=5040:=Nat.le_trans (by rw[ik.perm.length_eq];exact repsC_len _) (by omega)
 obtain⟨k0,_⟩:=K_first hG E ik
 obtain⟨lvC,eC,idC,offC,shC,cC⟩:=cls_open (by omega) sC al
 obtain⟨r,hr⟩: ∃r,K'.length=r:=⟨_,rfl⟩
 rw[hr] at lvC shC cC k0 kl hw
 obtain⟨v6,er,rfl,hv⟩: ∃v6 er,w=V.tup [v6,.int .i64 er]/\(64<r/\er=5∨r<=64/\er=0/\SI h6 v6 (zi ((List.range r).map (rtK n L K' z)))):=by
  rcases hw with ⟨h1,rfl⟩|⟨h1,v6,rfl,s⟩
  ·exact⟨_,_,rfl,.inl ⟨h1,rfl⟩⟩
  ·exact⟨_,_,rfl,.inr ⟨h1,rfl,s⟩⟩
 clear hw
 simp(disch:=omega)only[go_sem,rC h6 F6]
 refine (comm_ok _ n O R _ h6 (gc4.mono F6) L hL).mono ?_
 rintro w h7 ⟨K2,ik2,f7,hw⟩
 obtain rfl:=ik2.uniq ik
 have F7:=F6.trans f7
 rw[hr] at hw
 obtain⟨v8,er',rfl,hv'⟩: ∃v8 er',w=V.tup [v8,.int .i64 er']/\(64<r/\er'=5∨r<=64/\er'=0/\SI h7 v8 (zi ((List.range r).map λk=>comS (dF n (· ∈S)) L K2 k r))):=by
  rcases hw with ⟨h1,rfl⟩|⟨h1,v8,rfl,s⟩
  ·exact⟨_,_,rfl,.inl ⟨h1,rfl⟩⟩
  ·exact⟨_,_,rfl,.inr ⟨h1,rfl,s⟩⟩
 clear hw
 have dT:decide True=true:=rfl
 by_cases k64:(64:Int)<(r:Int)
 ·have d6:decide ((64:Int)<(r:Int))=true:=decide_eq_true k64
  obtain rfl:er=5:=by omega
  simp(disch:=omega)only[go_sem,lvC,d6,dT]
  exact F04.trans F7
 have d6:decide ((64:Int)<(r:Int))=false:=decide_eq_false k64
 obtain⟨rfl,s6⟩:er=0/\SI h6 v6 (zi ((List.range r).map (rtK n L K2 z))):=by
  rcases hv with ⟨h1,_⟩|⟨_,h2,h3⟩
  ·omega
  ·exact⟨h2,h3⟩
 obtain⟨rfl,s8⟩:er'=0/\SI h7 v8 (zi ((List.range r).map λk=>comS (dF n (· ∈S)) L K2 k r)):=by
  rcases hv' with ⟨h1,_⟩|⟨_,h2,h3⟩
  ·omega
  ·exact⟨h2,h3⟩
 clear hv hv'
 obtain⟨l6,id6,o6,sh6,c6⟩:=nat_row s6
 obtain⟨l8,id8,o8,sh8,c8⟩:=nat_row s8
 have d2:decide ((r:Int)<1)=false:=decide_eq_false (by omega)
 have d5:decide ((r:Int)≠(r:Int))=false:=decide_eq_false (by simp)
 simp(disch:=omega)only[go_sem,lvC,d6,d0,l6,l8,d2,d5]
 have N0:0<L.length:=(el_first hG E).1
 have zB: ∀k,szK (dF n (· ∈S)) L K2 k<=120:=λk=>Nat.le_trans (szK_le (n:=n) k) L120
 have rB: ∀k,rtK n L K2 z k<=120:=λk=>Nat.le_trans (by
  unfold rtK rtA
  exact Nat.le_trans (List.length_filter_le _ _) (by rw[List.length_range];exact eP _)) L120
 have cB: ∀k,comS (dF n (· ∈S)) L K2 k r<=921600:=λk=>Nat.le_trans (comS_le k r) (Nat.le_trans (Nat.mul_le_mul (show r<=64 by omega) (Nat.mul_le_mul L120 L120)) (by decide))
 have e1:=size_sum hG E ik2
 have e2:=rt_sum hG E ik2 z
 have e3:=com_sum hG E ik2
 rw[hr] at e1 e2 e3
 refine cF (λvs hh=>(∃g:Nat->V,vs= [g 0,.int .i64 z,g 2,g 3,g 4,g 5,v6,g 7,v8,g 9,.int .i64 (r:Int),.int .i64 (L.length:Nat),.int .i64 (L.length:Nat),.int .i64 ((L.length:Nat)*(L.length:Nat)),g 14,g 15,g 16,g 17,g 18,g 19,g 20,g 21,g 22,g 23])/\Fr h7 hh) ?_ ?_
 ·refine aJ (λk' vars hh=> ∃(k:Nat),(∃g:Nat->V,vars= [g 0,.int .i64 z,g 2,g 3,v5,g 5,v6,g 7,v8,g 9,.int .i64 (r:Int),.int .i64 (sm k λk=>((szK (dF n (· ∈S)) L K2 k:Nat):Int)),.int .i64 (sm k λk=>((rtK n L K2 z k:Nat):Int)*((szK (dF n (· ∈S)) L K2 k:Nat):Int)),.int .i64 (sm k λk=>((comS (dF n (· ∈S)) L K2 k r:Nat):Int)*((szK (dF n (· ∈S)) L K2 k:Nat):Int)),.int .i64 (k:Int),g 15,g 16,g 17,g 18,g 19,g 20,g 21,g 22,g 23])/\k<=r/\Fr h7 hh/\k'=r-k) r
   ⟨0,aA rfl,gK _,Fr.refl h7,rfl⟩ ?_
  rintro k' vars h8 ⟨k,⟨g,rfl⟩,hk,f8,rfl⟩
  by_cases hlt:(k:Int)<(r:Int)
  case neg=>
   have e4:decide ((k:Int)<(r:Int))=false:=decide_eq_false hlt;obtain rfl:k=r:=by omega
   rw[e1,e2,e3];simp(disch:=omega)only[go_sem,e4];exact⟨aA rfl,f8⟩
  have e4:decide ((k:Int)<(r:Int))=true:=decide_eq_true hlt
  have hkr:k<r:=by omega
  obtain⟨a1,a2⟩:=c6 k hkr
  obtain⟨b1,b2⟩:=c8 k hkr
  obtain⟨z1,_,_,z2,_,_⟩:=cC k hkr
  have xa: ∀hh,Fr h7 hh->hh.cell id6 (o6+k)=some (.int .i64 ((rtK n L K2 z k:Nat):Int)):=λhh f=>by rw[(f7.trans f).cell a1];exact a2
  have xb: ∀hh,Fr h7 hh->hh.cell id8 (o8+k)=some (.int .i64 ((comS (dF n (· ∈S)) L K2 k r:Nat):Int)):=λhh f=>by rw[f.cell b1];exact b2
  have xz: ∀hh,Fr h7 hh->hh.cell idC (offC+k*3+2)=some (.int .i64 ((szK (dF n (· ∈S)) L K2 k:Nat):Int)):=λhh f=>by rw[(f6.trans (f7.trans f)).cell z1];exact z2
  have b1:=sm_bound (n:=k) (B:=120) (f:=λk=>((szK (dF n (· ∈S)) L K2 k:Nat):Int)) (λq _=>⟨by omega,Int.ofNat_le.2 (zB q)⟩)
  have b2:=sm_bound (n:=k) (B:=120*120) (f:=λk=>((rtK n L K2 z k:Nat):Int)*((szK (dF n (· ∈S)) L K2 k:Nat):Int)) (λq _=>mul_bound ⟨by omega,Int.ofNat_le.2 (rB q)⟩ ⟨by omega,Int.ofNat_le.2 (zB q)⟩)
  have b3:=sm_bound (n:=k) (B:=921600*120) (f:=λk=>((comS (dF n (· ∈S)) L K2 k r:Nat):Int)*((szK (dF n (· ∈S)) L K2 k:Nat):Int)) (λq _=>mul_bound ⟨by omega,Int.ofNat_le.2 (cB q)⟩ ⟨by omega,Int.ofNat_le.2 (zB q)⟩)
  have b4:=mul_bound (X:=120) (Y:=120) (x:=((rtK n L K2 z k:Nat):Int)) (y:=((szK (dF n (· ∈S)) L K2 k:Nat):Int)) ⟨by omega,Int.ofNat_le.2 (rB k)⟩ ⟨by omega,Int.ofNat_le.2 (zB k)⟩
  have b5:=mul_bound (X:=921600) (Y:=120) (x:=((comS (dF n (· ∈S)) L K2 k r:Nat):Int)) (y:=((szK (dF n (· ∈S)) L K2 k:Nat):Int)) ⟨by omega,Int.ofNat_le.2 (cB k)⟩ ⟨by omega,Int.ofNat_le.2 (zB k)⟩
  have b6:=zB k
  have bk2:k*(120*120)<=64*(120*120):=Nat.mul_le_mul (by omega) (eP _)
  have bk3:k*(921600*120)<=64*(921600*120):=Nat.mul_le_mul (by omega) (eP _)
  have s1:sm (k+1) (λk=>((szK (dF n (· ∈S)) L K2 k:Nat):Int))=sm k (λk=>((szK (dF n (· ∈S)) L K2 k:Nat):Int))+((szK (dF n (· ∈S)) L K2 k:Nat):Int):=dS _ _
  have s2:sm (k+1) (λk=>((rtK n L K2 z k:Nat):Int)*((szK (dF n (· ∈S)) L K2 k:Nat):Int))=sm k (λk=>((rtK n L K2 z k:Nat):Int)*((szK (dF n (· ∈S)) L K2 k:Nat):Int))+((rtK n L K2 z k:Nat):Int)*((szK (dF n (· ∈S)) L K2 k:Nat):Int):=dS _ _
  have s3:sm (k+1) (λk=>((comS (dF n (· ∈S)) L K2 k r:Nat):Int)*((szK (dF n (· ∈S)) L K2 k:Nat):Int))=sm k (λk=>((comS (dF n (· ∈S)) L K2 k r:Nat):Int)*((szK (dF n (· ∈S)) L K2 k:Nat):Int))+((comS (dF n (· ∈S)) L K2 k r:Nat):Int)*((szK (dF n (· ∈S)) L K2 k:Nat):Int):=dS _ _
  have x1:=xz h8 f8
  simp(disch:=omega)only[go_sem,e4,shC.ixa,xz h8 f8,sh6.ixa,xa h8 f8,sh8.ixa,xb h8 f8]
  rw[show (k:Int)+1=((k+1:Nat):Int) from by omega,←s1,←s2,←s3]
  exact⟨r-(k+1),by omega,k+1,aA rfl,by omega,f8.bJ (by omega),rfl⟩
 rintro vars h8 ⟨⟨g,rfl⟩,f8⟩
 have d7:decide (((L.length:Nat):Int)<1)=false:=decide_eq_false (by omega)
 simp(disch:=omega)only[go_sem,d7]
 refine (pick_ok z ((L.length:Nat):Int) h8 (by omega) (by omega)).mono ?_
 rintro _ hx ⟨rfl,e⟩
 obtain rfl:=e.symm
 have zm1:=Int.emod_nonneg z (b:=((L.length:Nat):Int)) (by omega)
 have zm2:=Int.emod_lt_of_pos z (b:=((L.length:Nat):Int)) (by omega)
 obtain⟨b0,hb0⟩: ∃b0:Nat,z%((L.length:Nat):Int)=(b0:Int):=⟨(z%((L.length:Nat):Int)).toNat,by omega⟩
 have hd:=hF n _ L K2 hG E ik2 L120 z
 rw[hb0,Int.toNat_natCast] at hd
 rw[hb0]
 have hb1:b0<L.length:=by omega
 obtain⟨d,hdd⟩: ∃d,Nat.gcd L.length b0=d:=⟨_,rfl⟩
 rw[hdd] at hd
 have dpos:0<d:=by rw[←hdd];exact Nat.gcd_pos_of_pos_left _ N0
 have dle:d<=L.length:=by rw[←hdd];exact Nat.le_of_dvd N0 (Nat.gcd_dvd_left _ _)
 simp(disch:=omega)only[go_sem]
 refine cF (λvs hh=>(∃g:Nat->V,vs= [g 0,g 1,g 2,g 3,g 4,g 5,v6,g 7,v8,g 9,.int .i64 (r:Int),.int .i64 (L.length:Nat),.int .i64 (L.length:Nat),.int .i64 ((L.length:Nat)*(L.length:Nat)),g 14,.int .i64 (d:Int),g 16,g 17,g 18,g 19,g 20,g 21,g 22,g 23])/\Fr h7 hh) ?_ ?_
 ·refine aJ (λk' vars hh=> ∃(a b:Nat),(∃g:Nat->V,vars= [g 0,g 1,g 2,g 3,g 4,g 5,v6,g 7,v8,g 9,.int .i64 (r:Int),.int .i64 (L.length:Nat),.int .i64 (L.length:Nat),.int .i64 ((L.length:Nat)*(L.length:Nat)),g 14,.int .i64 (a:Int),.int .i64 (b:Int),g 17,g 18,g 19,g 20,g 21,g 22,g 23])/\a<=L.length/\b<=L.length/\Nat.gcd a b=d/\Fr h7 hh/\k'=b) b0
   ⟨L.length,b0,aA rfl,eP _,by omega,hdd,f8,rfl⟩ ?_
  rintro k' vars h9 ⟨a,b,⟨g,rfl⟩,ha,hb,hg,f9,rfl⟩
  by_cases hz0:(k':Int)=0
  ·have e5:decide ((k':Int)≠0)=false:=decide_eq_false (λe=>e hz0)
   obtain rfl:k'=0:=by omega
   rw[Nat.gcd_zero_right] at hg
   subst hg
   simp(disch:=omega)only[go_sem,e5]
   exact⟨aA rfl,f9⟩
  have e5:decide ((k':Int)≠0)=true:=decide_eq_true hz0
  have tm:(a:Int).tmod (k':Int)=((a%k':Nat):Int):=rfl
  have ml:a%k'<k':=Nat.mod_lt _ (by omega)
  obtain⟨q,hq⟩: ∃q,a%k'=q:=⟨_,rfl⟩
  rw[hq] at tm ml
  simp(disch:=omega)only[go_sem,e5,tm]
  refine⟨q,ml,k',q,aA rfl,hb,by omega,?_,f9.bJ (by omega),rfl⟩
  rw[←hq,←hg,Nat.gcd_comm a k',Nat.gcd_rec k' a,Nat.gcd_comm]
 rintro vars h9 ⟨⟨g',rfl⟩,f9⟩
 obtain⟨a1,a2⟩:=c6 0 k0
 obtain⟨b1,b2⟩:=c8 0 k0
 have xa:h9.cell id6 o6=some (.int .i64 ((rtK n L K2 z 0:Nat):Int)):=by rw[(f7.trans f9).cell a1];exact a2
 have cz:=com_zero hG E ik2
 rw[hr] at cz
 have xb:h9.cell id8 o8=some (.int .i64 ((r*L.length:Nat):Int)):=by rw[f9.cell b1,←cz];exact b2
 have tm:((rtK n L K2 z 0:Nat):Int).tmod (d:Int)=0:=by
  show ((rtK n L K2 z 0%d:Nat):Int)=0;rw[Nat.mod_eq_zero_of_dvd hd];rfl
 have m1:(r:Int)*((L.length:Nat):Int)=((r*L.length:Nat):Int):=rfl
 have b1:r*L.length<=64*120:=Nat.mul_le_mul (by omega) L120
 have b2:=mul_bound (X:=120) (Y:=120) (x:=((L.length:Nat):Int)) (y:=((L.length:Nat):Int)) ⟨by omega,by omega⟩ ⟨by omega,by omega⟩
 simp(disch:=omega)only[go_sem,dT,sh6.ixa,sh8.ixa,xa,xb,tm,m1]
 exact F04.trans (F7.trans f9)
section
variable {n p:Nat} (hp:Prm p) {G:List Nat->Prop} {L:List (List Nat)} (hG:iL n G) (E:cX G L)
include hp hG E
theorem frob_step {k m1:Nat}(hm1: ¬p∣m1)(m0:0<m1): ∃d,fN n L (p^(k+1)*m1)=fN n L (p^k*m1)+d/\p^k∣d:=by
 have q0: ∀j,0<p^j:=λj=>Nat.pow_pos (by have:=hp.two;omega)
 have cop: ∀j,Nat.gcd (p^j) m1=1:=λj=>by rw[Nat.gcd_comm];exact hp.cop_pow hm1 j
 rw[f_split hG E (cop (k+1)) (q0 _) m0,f_split hG E (cop k) (q0 _) m0,sum_split _ (λz=>decide (pw n z (p^k)=aW n))]
 have hA:((L.filter λz=>decide (pw n z (p^(k+1))=aW n)).filter λz=>decide (pw n z (p^k)=aW n))=L.filter λz=>decide (pw n z (p^k)=aW n):=by
  rw[List.filter_filter];refine List.filter_congr λz hz=>?_
  have Z:=hG.isP ((E.mem z).1 hz);rw[←Bool.decide_and];refine decide_eq_decide.2 ⟨λh=>h.1,λh=>⟨h,?_⟩⟩;exact (bL Z _).1 (Nat.dvd_trans ((bL Z _).2 h) (Nat.pow_dvd_pow p (by omega)))
 rw[hA];refine⟨_,rfl,?_⟩
 have mem: ∀{z},z∈((L.filter λz=>decide (pw n z (p^(k+1))=aW n)).filter λz=>!decide (pw n z (p^k)=aW n))->G z/\cM z n=p^(k+1):=λ{z} hz=>by
  obtain⟨h1,h2⟩:=jY.1 hz;obtain⟨h1,h3⟩:=jY.1 h1;have hz':=(E.mem z).1 h1;exact⟨hz',up_ord hp (hG.isP hz') (of_decide_eq_true h3) (by simpa using h2)⟩
 refine part_dvd (p^k) (λu v=>decide (v∈upL n p k u)) _ _ _ (eP _) ?_ ?_ ?_ ?_
 ·intro u hu
  obtain⟨h1,h2⟩:=mem hu;have U:=hG.isP h1;have:=up_mem U h2 (by have:=hp.two;omega) 0;rw[Nat.mul_zero,Nat.add_zero,pw_one' U] at this;exact decide_eq_true this
 ·intro u hu v hv h
  obtain⟨h1,h2⟩:=mem hu;exact decide_eq_true (up_symm hp (hG.isP h1) h2 (of_decide_eq_true h))
 ·intro u hu v hv w hw h h'
  obtain⟨h1,h2⟩:=mem hu;exact decide_eq_true (up_sub hp (hG.isP h1) h2 (of_decide_eq_true h) w (of_decide_eq_true h'))
 ·intro u hu
  obtain⟨h1,h2⟩:=mem hu;have U:=hG.isP h1
  have hpm:(((L.filter λz=>decide (pw n z (p^(k+1))=aW n)).filter λz=>!decide (pw n z (p^k)=aW n)).filter λv=>decide (v∈upL n p k u)).Perm (upL n p k u):=by
   refine perm_of (((E.nodup.filter _).filter _).filter _) (up_nodup hp U h2) λv=>?_
   rw[jY,decide_eq_true_iff];refine⟨λh=>h.2,λh=>⟨?_,h⟩⟩;have ho:=up_order hp U h2 h;obtain⟨i,_,rfl⟩:=jH.1 h;have V:=aY U (1+p*i);refine jY.2 ⟨jY.2 ⟨(E.mem _).2 (grp_pw hG h1 _),decide_eq_true ((bL V _).1 (by rw[ho];exact Nat.dvd_refl _))⟩,?_⟩
   have: ¬pw n (pw n u (1+p*i)) (p^k)=aW n:=λe=>by
    have h3:=(bL V _).2 e;rw[ho] at h3;have:=pow_le (m:=1) hp (λh=>by have:=Nat.le_of_dvd (by omega) h;have:=hp.two;omega) (by rw[Nat.mul_one];exact h3);omega
   simp [this]
  rw[sum_same _ (fN n (cenL L u) m1) _ λv hv=>?_,hpm.length_eq]
  ·unfold upL
   rw[jS,List.length_range];exact Nat.dvd_mul_right _ _
  ·obtain⟨_,hv⟩:=jY.1 hv
   have hv:=of_decide_eq_true hv;have hs:=up_symm hp U h2 hv;have V:aX n v:=by obtain⟨i,_,rfl⟩:=jH.1 hv;exact aY U _
   have:cenL L v=cenL L u:=by
    unfold cenL;refine List.filter_congr λy hy=>decide_eq_decide.2 ?_
    have Y:=hG.isP ((E.mem y).1 hy);constructor
    ·intro h
     obtain⟨i,_,e⟩:=jH.1 hs;rw[←e];exact pw_com V Y h _
    ·intro h
     obtain⟨i,_,e⟩:=jH.1 hv;rw[←e];exact pw_com U Y h _
   show fN n (cenL L v) m1=_;rw[this]
theorem frob_down {j m m1:Nat}(hlen:L.length=p^j*m)(hm: ¬p∣m)(h1:m1∣m): ∀d k,k+d=j->p^k∣fN n L (p^k*m1):=by
 have L0:=List.length_pos_of_mem ((E.mem _).2 hG.one);have hm1: ¬p∣m1:=λh=>hm (Nat.dvd_trans h h1)
 have m0:0<m1:=Nat.pos_of_ne_zero λe=>hm1 (by rw[e];exact Nat.dvd_zero p)
 intro d
 induction d with
 |zero=>
  intro k hk;obtain rfl:k=j:=by omega
  rw[Nat.mul_comm];exact frob_full hp hG E hlen hm h1
 |succ d ih=>
  intro k hk;have h2:=ih (k+1) (by omega);obtain⟨e,he,hd⟩:=frob_step hp hG E (k:=k) hm1 m0;rw[he] at h2;exact (Nat.dvd_add_left hd).1 (Nat.dvd_trans (Nat.pow_dvd_pow p (by omega)) h2)
end
theorem frobenius {n:Nat}{G:List Nat->Prop}{L:List (List Nat)}(hG:iL n G)(E:cX G L){q:Nat}(hq:q∣L.length):q∣fN n L q:=by
 have L0:=List.length_pos_of_mem ((E.mem _).2 hG.one);have q0:0<q:=Nat.pos_of_ne_zero λe=>by rw[e] at hq;have:=Nat.eq_zero_of_zero_dvd hq;omega
 refine all_primes _ q q0 λp hp k m1 e hm1=>?_
 obtain⟨j,m,hj,hm⟩:=p_part hp _ L0;have hkj:k<=j:=pow_le hp hm (by rw[←hj];exact Nat.dvd_trans ⟨m1,e⟩ hq)
 have hmm:m1∣m:=by
  refine cop_dvd (b:=p^j) (hp.cop_pow hm1 j) ?_;rw[Nat.mul_comm,←hj];exact Nat.dvd_trans ⟨p^k,by rw[e,Nat.mul_comm]⟩ hq
 rw[e];exact frob_down hp hG E hj hm hmm (j-k) k (by omega)
theorem frob_rt (n:Nat)(G:List Nat->Prop)(L:List (List Nat))(K:List Nat)(hG:iL n G)(E:cX G L)(ik:IsK n G L K)(z:Int):Nat.gcd L.length (z%(L.length:Nat)).toNat∣rtK n L K z 0:=by
 have h:=frobenius hG E (Nat.gcd_dvd_left L.length (z%(L.length:Nat)).toNat)
 have e:rtK n L K z 0=fN n L (Nat.gcd L.length (z%(L.length:Nat)).toNat):=by
  have L0:=List.length_pos_of_mem ((E.mem _).2 hG.one)
  have h1:((rtK n L K z 0:Nat):Int)=((fN n L (Nat.gcd L.length (z%(L.length:Nat)).toNat):Nat):Int):=by
   rw[rt_gs,one_rep hG E ik,gs_filter];unfold fN;congr 2;refine List.filter_congr λx hx=>decide_eq_decide.2 ?_
   have hx':=(E.mem x).1 hx;have X:=hG.isP hx';have ho:=ord_dvd hG E hx';have o0:=kA X;have zm:=Int.emod_nonneg z (b:=((L.length:Nat):Int)) (by omega);have zo:=Int.emod_nonneg z (b:=((cM x n:Nat):Int)) (by omega);rw[←bL X];unfold zp;rw[←bL X]
   have k1:cM x n∣(z%((cM x n:Nat):Int)).toNat↔((cM x n:Nat):Int)∣z:=by
    rw[←Int.ofNat_dvd,Int.toNat_of_nonneg zo]
    exact⟨λh=>by
     have:=Int.emod_eq_zero_of_dvd h;rw[Int.emod_emod] at this
     exact Int.dvd_of_emod_eq_zero this,λh=>by rw[Int.emod_eq_zero_of_dvd h];exact Int.dvd_zero _⟩
   have k2:cM x n∣(z%((L.length:Nat):Int)).toNat↔((cM x n:Nat):Int)∣z:=by
    rw[←Int.ofNat_dvd,Int.toNat_of_nonneg zm];constructor
    ·intro h
     refine Int.dvd_of_emod_eq_zero ?_;rw[←Int.emod_emod_of_dvd z (Int.ofNat_dvd.2 ho)];exact Int.emod_eq_zero_of_dvd h
    ·intro h
     refine Int.dvd_of_emod_eq_zero ?_;rw[Int.emod_emod_of_dvd z (Int.ofNat_dvd.2 ho)];exact Int.emod_eq_zero_of_dvd h
   rw[k1,←k2];exact⟨λh=>Nat.dvd_gcd ho h,λh=>Nat.dvd_trans h (Nat.gcd_dvd_right _ _)⟩
  exact Int.ofNat.inj h1
 rw[e];exact h
theorem frob_ok (u:V)(l:List Int)(z:Int)(h:H)(hz: -9223372036854775808<=z/\z<9223372036854775808)(hu:SI h u l)(hl:(l.length:Int)<=2^63- 1):
  Ev T 5 [u,.int .i64 z] h (λv h'=>v= .bool true/\Fr h h'):=
 frob_walk (λn G L K hG E ik _ z=>frob_rt n G L K hG E ik z) u l z h hz hu hl
end Go.Proofs.YtapfcpkecmmagaaGreat
