/- Texts of the claim. -/
import Derived.Test.YtapfcpkecmmagaaGreatSc7toR7
set_option maxHeartbeats 64000000
namespace Go.Proofs.YtapfcpkecmmagaaGreat
open Go Go.Ay Go.Pm
set_option maxRecDepth 100000
structure XR (G:List Nat->Prop)(L:LN)(K:List Nat)(i b:Nat)(hh:H)(v:V):Prop where
 ex: ∃(Q:Nat) (ρ:Nat->Nat),v= .sl Q 0 K.length (.kn K.length)/\b<=Q/\Q<hh.next/\hh.get Q=some (.cells false (rc K.length λa=> .sl (ρ a) 0 K.length (.kn K.length)))/\ ∀a,a<K.length->Q<ρ a/\ρ a<hh.next/\hh.get (ρ a)=some (.cells false (rc K.length λk=> aB (zQ G L K i a k:Nat)))
theorem XR.sr {G:List Nat->Prop}{L:LN}{K:List Nat}{i b:Nat}{hh:H}{v:V}(c:XR G L K i b hh v):SR hh v ((List.range K.length).map λj=>zi ((List.range K.length).map (zQ G L K i j))):=by
 obtain⟨Q,ρ,rfl,_,nQ,gQ,rows⟩:=c.ex;refine⟨(List.range K.length).map λa=> .sl (ρ a) 0 K.length (.kn K.length),?_,?_⟩
 ·exact SV.all (by rw[dJ,Nat.mul_one]) nQ gQ _
 ·refine cE.mK (by simp) λa h1 h2=>?_
  have ha:a<K.length:=by simpa using h1
  simp only[List.getElem_map,List.getElem_range];obtain⟨_,r2,r3⟩:=rows a ha
  have e:(rc K.length λk=>aB (zQ G L K i a k:Nat))=ints (zi ((List.range K.length).map (zQ G L K i a))):=by
   simp [rc,ints,zi,Function.comp_def]
  rw[e] at r3;exact SV.all (by rw[aI,aS,rF,List.length_range,Nat.mul_one]) r2 r3 _
set_option maxHeartbeats 64000000
theorem Lq (D i:Nat)(n:Nat)(G:List Nat->Prop)(L:LN)(K:List Nat)(h:H)(n7:n<=7)(hG:sW n G)(E:fI G L)(ik:Bi n G L K)(hl:L.length<=5040)(hr:K.length<=64)(d:Ka n G L K h D):
  Ev T 46 [.ptr D 0,aB i] h (λv h'=>XR G L K i h.next h' v/\Fr h h'):=by
 refine bL iZ rfl rfl ?_
 obtain⟨vL,vC,Mn,ln,ks,gD,hD,hMn,sL,sC,al,gMn,kln,lkn⟩:=d.ex
 obtain⟨M,hM⟩:=exI h.next
 obtain⟨h1,e1⟩:=exI (h.new (.wmap (.arr 2 .i64) []))
 have n1:h1.next=M+1:=by rw[←e1,H.aU,hM]
 have g1:h1.get M=some (.wmap (.arr 2 .i64) []):=by rw[←e1,←hM];exact H.aL h _
 have o1: ∀k,k≠M->h1.get k=h.get k:=λk hk=>by rw[←e1];exact H.bB h (by omega) _
 have f1:Fr h h1:=⟨by omega,λq hq=>o1 q (by omega)⟩
 obtain⟨r,hrr⟩:=exI K.length
 obtain⟨m0,hm0⟩: ∃m,L.length=m:=⟨_,rfl⟩
 obtain⟨lvL,eL,idL,offL,ws,shL,cL⟩:=Cz sL
 obtain⟨lvC,eC,idC,offC,shC,cC⟩:=nX (by omega) sC al
 rw[hrr] at lvC shC cC hr
 rw[hm0] at lvL shL cL lkn
 have gD1: ∀hh,Fr h hh->hh.get D=some (.cells false [vL,vC,.mp Mn]):=λhh f=>by rw[f.get _ hD];exact gD
 simp(disch:=omega)only[go_sem,iZ,aE,hM,e1,H.aF (gD1 h1 f1),lvL]
 refine cI (λvs hh=> ∃(m:List ((Nat×Nat)×V)),(∃g:Nat->V,vs= [.ptr D 0,aB i,g 2,.mp M,g 4,g 5,g 6,g 7,g 8,g 9,g 10,g 11,g 12,g 13,g 14,g 15,g 16,g 17,g 18,g 19,g 20,g 21,g 22,g 23,g 24])/\hh.get M=some (.wmap (.arr 2 .i64) (iM Us m))/\(∀p∈m,WL p.1)/\(∀j k,k<r->(Kq m (j,k)).getD (aB 0)= aB (Gf G L K i k L.length j:Nat))/\M<hh.next/\Fr h hh) ?_ ?_
 ·refine aJ (λk' vars hh=> ∃(t:Nat) (m:List ((Nat×Nat)×V)),(∃g:Nat->V,vars= [.ptr D 0,aB i,g 2,.mp M,g 4,g 5,g 6,g 7,g 8,g 9,vL,aB m0,aB t,g 13,g 14,g 15,g 16,g 17,g 18,g 19,g 20,g 21,g 22,g 23,g 24])/\t<=m0/\hh.get M=some (.wmap (.arr 2 .i64) (iM Us m))/\(∀p∈m,WL p.1)/\(∀j k,k<r->(Kq m (j,k)).getD (aB 0)= aB (Gf G L K i k t j:Nat))/\M<hh.next/\Fr h hh/\k'=m0-t) m0
   ⟨0, [],aA rfl,lB _,g1,λ_ h=>(by cases h),λj k _=>rfl,by omega,f1,rfl⟩ ?_
  rintro k' vars h2 ⟨t,m,⟨g,rfl⟩,ht,gM,pm,lk,nM,F,rfl⟩
  by_cases hlt:(t:Int)<(m0:Int)
  case neg=>
   have d1:=iV hlt;obtain rfl:t=m0:=by omega
   simp(disch:=omega)only[go_sem,d1];exact⟨m,aA rfl,gM,pm,by rw[hm0];exact lk,nM,F⟩
  have d1:=mO hlt
  have htl:t<m0:=by omega
  obtain⟨b1,c1,s1⟩:=cL t htl
  generalize ws.getD t V.undef=ve at c1 s1
  have X:=mP hG E (show t<L.length by omega)
  have hxL:L.getD t []∈L:=bD (by omega)
  have ix:L.idxOf (L.getD t [])=t:=by
   rw[List.getD_eq_getElem?_getD,gW (by omega)];exact E.nodup.idxOf_getElem _ _
  obtain⟨x,hx⟩:=exI (L.getD t [])
  rw[hx] at s1 X hxL ix
  have c2:h2.cell idL (offL+t)=some ve:=by rw[F.cell b1];exact c1
  simp(disch:=omega)only[go_sem,d1,shL.ixa,c2]
  refine (LF D ve n G L K x h2 (by omega) (d.mono F) X hxL (s1.mono F)).mono ?_
  rw[ix]
  rintro _ h3 ⟨rfl,f3⟩
  have F3:=F.trans f3
  have gM3:h3.get M=some (.wmap (.arr 2 .i64) (iM Us m)):=by rw[f3.get _ nM];exact gM
  have n3:=f3.next
  by_cases hi:iD G L K t=i
  case neg=>
   have d2:decide (((iD G L K t:Nat):Int)≠(i:Int))=true:=mO (by omega);simp(disch:=omega)only[go_sem,d2];rw[jE t];refine⟨m0-(t+1),by omega,t+1,m,aA rfl,by omega,gM3,pm,λj k hk=>?_,by omega,F3,rfl⟩;rw[lk j k hk,Dy,if_neg (λe=>hi e.1),Nat.add_zero]
  have d2:decide (((iD G L K t:Nat):Int)≠(i:Int))=false:=iV (by omega)
  simp(disch:=omega)only[go_sem,d2,H.aF (gD1 h3 F3),lvC]
  refine aJ (λk' vars hh=> ∃(k:Nat) (m:List ((Nat×Nat)×V)),(∃g:Nat->V,vars= [.ptr D 0,aB i,g 2,.mp M,ve,g 5,g 6,g 7,g 8,g 9,vL,aB m0,aB t,g 13,g 14,vC,aB r,aB k,g 18,g 19,g 20,g 21,g 22,g 23,g 24])/\k<=r/\hh.get M=some (.wmap (.arr 2 .i64) (iM Us m))/\(∀p∈m,WL p.1)/\(∀j k',k'<r->(Kq m (j,k')).getD (aB 0)= aB (Gf G L K i k' (if k'<k then t+1 else t) j:Nat))/\M<hh.next/\Fr h hh/\k'=r-k) r
   ⟨0,m,aA rfl,lB _,gM3,pm,λj k hk=>by rw[if_neg (by omega)];exact lk j k hk,by omega,F3,rfl⟩ ?_
  clear gM pm lk nM F f3 F3 gM3 n3
  rintro k' vars h4 ⟨k,m,⟨g',rfl⟩,hk,gM,pm,lk,nM,F,rfl⟩
  by_cases hlk:(k:Int)<(r:Int)
  case neg=>
   have d3:decide ((k:Int)<(r:Int))=false:=decide_eq_false hlk;obtain rfl:k=r:=by omega
   simp(disch:=omega)only[go_sem,d3];rw[jE t];exact⟨m0-(t+1),by omega,t+1,m,aA rfl,by omega,gM,pm,λj k' hk'=>by rw[lk j k' hk',if_pos hk'],nM,F,rfl⟩
  have d3:decide ((k:Int)<(r:Int))=true:=decide_eq_true hlk
  have hkr:k<r:=by omega
  obtain⟨bC,rep,cr,_,rw3,sr⟩:=cC k hkr
  obtain⟨z,hz⟩:=exI (L.getD (K.getD k 0) [])
  rw[hz] at sr rw3
  have hKk:K.getD k 0<L.length:=ik.lt (bD (by omega))
  have Z:bE n z:=by rw[←hz];exact mP hG E hKk
  have hzL:z∈L:=by rw[←hz];exact bD hKk
  have w3:=sr.dU
  have r4:h4.row idC (offC+k*3) 3=some [rep,aB (kV z n:Int),aB ((jF G L (K.getD k 0)).length:Int)]:=by
   have:h4.row idC (offC+k*3) 3=h.row idC (offC+k*3) 3:=by unfold H.row;rw[F.get _ bC]
   rw[this];exact rw3
  obtain⟨A,hA⟩:=exI h4.next
  obtain⟨h5,e5,n5,g5,o5,f5⟩:=iL hA [.aC,aB 0,aB 0]
  obtain⟨h6,e6,n6,g6,o6⟩:=Fj h5 A [rep,aB (kV z n:Int),aB ((jF G L (K.getD k 0)).length:Int)]
  have f46:Fr h4 h6:=⟨by omega,λq hq=>by rw[o6 q (by omega),o5 q (by omega)]⟩
  have F6:=F.trans f46
  have gM6:h6.get M=some (.wmap (.arr 2 .i64) (iM Us m)):=by rw[f46.get _ nM];exact gM
  have evx:=s1.eM
  have evr:=sr.eM
  simp(disch:=omega)only[go_sem,d3,shC.ixa,r4,hA,e5,nV h5 A 0 (v:=rep) (u:= aB (kV z n:Int)) (w:= aB ((jF G L (K.getD k 0)).length:Int)) w3.2.1 rfl rfl,g5,jV,e6,H.aF (gD1 h6 F6),H.aF g6]
  have fb:=(Fr.refl h6).bM (n:=h6.next+17) (by omega)
  refine (PR ve rep n x z _ (by omega) X Z (s1.mono (F6.trans fb)) (sr.mono (F6.trans fb))).mono ?_
  rintro _ h7 ⟨rfl,f7⟩
  have f67:=fb.trans f7
  have F7:=F6.trans f67
  have gM7:h7.get M=some (.wmap (.arr 2 .i64) (iM Us m)):=by rw[f67.get _ (by have:=f46.next;omega)];exact gM6
  have gN7:h7.get Mn=some (.wmap (.arr 64 .u8) (iM Qt ln)):=by rw[F7.get _ hMn];exact gMn
  have Qx:=X.inv.mul Z
  have hGx:G (aT (cM x) z):=hG.mul (hG.inv ((E.mem x).1 hxL)) ((E.mem z).1 hzL)
  obtain⟨iq,eq'⟩:=Eo E hGx
  obtain⟨q,hq⟩:=exI (iD G L K (L.idxOf (aT (cM x) z)))
  have hqr:q<r:=by rw[←hq,←hrr];exact (wF hG E ik iq).1
  have lk1:=lkn _ (show L.idxOf (aT (cM x) z)<m0 by omega)
  rw[eq',hq] at lk1
  have lo:=λw=>tA (Jj (n:=n) (by omega)) (λa A=>Cn (n:=n) (by omega) a A) kln Qx w
  rw[lk1] at lo
  have PQ:WL (q,k):=⟨by show q<1000000;omega,by show k<1000000;omega⟩
  have ql:Wz G L K t k=q:=by unfold Wz;rw[hx,hz];exact hq
  have lc:=lk q k hkr
  rw[if_neg (by omega)] at lc
  obtain⟨c,hc⟩:=exI (Gf G L K i k t q)
  rw[hc] at lc
  have cle:c<=t:=by rw[←hc];exact RD ..
  have lo2:=tA Ov Gm pm PQ (aB 0)
  rw[lc] at lo2
  have epk:V.agg [aB q,aB k]=Us (q,k):=rfl
  obtain⟨we,ni,m1,h8,ee,n8,o8,gM8,pm1,lk8,en⟩:=Ze Ov Gm pm PQ (aB 0) (aB (c+1:Nat)) h7 M gM7
  have lo3:=tA Ov Gm pm1 PQ (aB 0)
  rw[lk8,lc] at lo3
  have lo2':Lh (some (.wmap (.arr 2 .i64) (iM Us m))) (.arr 2 .i64) (aB 0) false (V.agg [aB q,aB k])=_:=lo2
  have lo3':Lh (some (.wmap (.arr 2 .i64) (iM Us m1))) (.arr 2 .i64) (aB 0) false (V.agg [aB q,aB k])=_:=lo3
  have ee':We (some (.wmap (.arr 2 .i64) (iM Us m))) h7 M (.arr 2 .i64) (aB 0) (V.agg [aB q,aB k])=_:=ee
  have gD7:=gD1 h7 F7
  have gD8:h8.get D=some (.cells false [vL,vC,.mp Mn]):=by rw[o8 D (by omega)];exact gD7
  simp(disch:=omega)only[go_sem,H.aF gD7,gN7,lo,Option.getD_some,LY,gM7,lo2',show (c:Int)+1=((c+1:Nat):Int) from rfl,ee',gM8,lo3',en]
  have ok:RQ h8 (.lkw (.arr 2 .i64) (aB 0) false (.c (.mp M)) (.c (.agg [aB q,aB k]))) (aB c)=true:=by
   simp only[RQ,Qr,xv,Pk,gM8,lo3',Option.map_some,okV];simp [eM]
  rw[jE k]
  have n7':=F7.next
  refine⟨by simp [eM],ok,r-(k+1),by omega,k+1,_,aA rfl,by omega,rfl,Di PQ pm,λj k' hk'=>?_,by rw[n8];have:=f67.next;omega,⟨by show h.next<=h8.next;omega,λp hp=>by rw[H.aH _ (by omega),o8 p (by omega)];exact F7.get p hp⟩,rfl⟩
  rw[Gj]
  by_cases e:(j,k')=(q,k)
  ·cases e
   rw[if_pos rfl,if_pos (by omega),Dy,if_pos ⟨hi,ql⟩,hc]
   rfl
  ·rw[if_neg e,lk j k' hk']
   by_cases ek:k'=k
   ·subst ek
    rw[if_neg (by omega),if_pos (by omega),Dy,if_neg (λh=>e (by rw[←h.2,ql]))]
    rfl
   ·by_cases e2:k'<k
    ·rw[if_pos e2,if_pos (by omega)]
    ·rw[if_neg e2,if_neg (by omega)]
 rintro vars hA ⟨m,⟨g,rfl⟩,gM,pm,lk,nM,FA⟩
 obtain⟨Q,hQ⟩:=exI hA.next
 obtain⟨hB,eB,nB,gB,oB,fB⟩:=iL hQ (rc r λ_=> .aC)
 simp(disch:=omega)only[go_sem,H.aF (gD1 hA FA),lvC,IS hA r (by omega),hQ,eB]
 refine aJ (λk' vars hh=> ∃(j:Nat) (ρ:Nat->Nat),(∃g:Nat->V,vars= [.ptr D 0,g 1,g 2,.mp M,g 4,g 5,g 6,.sl Q 0 r (.kn r),g 8,g 9,g 10,g 11,g 12,g 13,g 14,g 15,g 16,g 17,g 18,aB r,aB j,g 21,g 22,g 23,g 24])/\j<=r/\hh.get Q=some (.cells false (rc r λa=>if a<j then .sl (ρ a) 0 r (.kn r) else .aC))/\(∀a,a<j->Q<ρ a/\ρ a<hh.next/\hh.get (ρ a)=some (.cells false (rc r λk=> aB (zQ G L K i a k:Nat))))/\Fr hA hh/\Q<hh.next/\k'=r-j) r
  ⟨0,λ_=>0,aA rfl,lB _,by rw[gB];rfl,λa h=>by omega,fB,by omega,rfl⟩ ?_
 rintro k' vars h2 ⟨j,ρ,⟨g',rfl⟩,hj,gQ,rows,F,nQ,rfl⟩
 have F0:=FA.trans F
 by_cases hlt:(j:Int)<(r:Int)
 case neg=>
  have d1:=iV hlt;obtain rfl:j=r:=by omega
  simp(disch:=omega)only[go_sem,d1];refine⟨⟨Q,ρ,by rw[hrr],by have:=FA.next;omega,nQ,?_,by rw[hrr];exact rows⟩,F0⟩;rw[gQ,hrr];congr 2;exact bI λa ha=>by rw[if_pos ha]
 have d1:=mO hlt
 have hjr:j<r:=by omega
 obtain⟨S,hS⟩:=exI h2.next
 obtain⟨h3,e3,n3,g3,o3,f3⟩:=iL hS (rc r λ_=> aB 0)
 have gQ3:h3.get Q=some (.cells false (rc r λa=>if a<j then .sl (ρ a) 0 r (.kn r) else .aC)):=by rw[o3 Q (by omega)];exact gQ
 obtain⟨h4,e4,n4,g4,o4⟩:=Fj h3 Q (rc r λa=>if a<j+1 then .sl (if a=j then S else ρ a) 0 r (.kn r) else .aC)
 have p4:fL (some (.cells false (rc r λa=>if a<j then .sl (ρ a) 0 r (.kn r) else .aC))) h3 Q j [.sl S 0 r (.kn r)]=some h4:=by
  rw[aY (by rw[dJ];exact hjr),iX,←e4];congr 4;refine bI λa ha=>?_
  by_cases e:a=j
  ·rw[if_pos e,if_pos (by omega),if_pos e]
  ·rw[if_neg e]
   by_cases e2:a<j
   ·rw[if_pos e2,if_pos (by omega),if_neg e]
   ·rw[if_neg e2,if_neg (by omega)]
 have F4:Fr hA h4:=⟨by have:=F.next;omega,λq hq=>by rw[o4 q (by omega),o3 q (by omega)];exact F.get q hq⟩
 have cQ4:h4.cell Q j=some (.sl S 0 r (.kn r)):=by
  rw[H.aF g4,uN hjr,if_pos (by omega),if_pos rfl]
 simp(disch:=omega)only[go_sem,d1,H.aF (gD1 h2 F0),lvC,mX h2 r (by omega),hS,e3,gQ3,p4,cQ4]
 refine aJ (λk' vars hh=> ∃(k:Nat),(∃g:Nat->V,vars= [.ptr D 0,g 1,g 2,.mp M,g 4,g 5,g 6,.sl Q 0 r (.kn r),aB j,g 9,g 10,g 11,g 12,g 13,g 14,g 15,g 16,g 17,g 18,aB r,aB j,g 21,aB r,aB k,g 24])/\k<=r/\hh.get S=some (.cells false (rc r λa=> aB (if a<k then zQ G L K i j a else 0:Nat)))/\Fx (· =S) h4 hh/\k'=r-k) r
  ⟨0,aA rfl,lB _,by rw[o4 S (by omega),g3];rfl,Fx.refl _ _,rfl⟩ ?_
 rintro k' vars h5 ⟨k,⟨g'',rfl⟩,hk,gS,F5,rfl⟩
 have n5:=F5.next
 have gQ5:h5.get Q=some (.cells false (rc r λa=>if a<j+1 then .sl (if a=j then S else ρ a) 0 r (.kn r) else .aC)):=by rw[F5.get Q (by omega) (by show Q≠S;omega)];exact g4
 have FA5:Fr hA h5:=⟨by have:=F4.next;omega,λq hq=>by rw[F5.get q (by have:=F4.next;omega) (by show q≠S;have:=F.next;omega)];exact F4.get q hq⟩
 by_cases hlk:(k:Int)<(r:Int)
 case neg=>
  have d3:decide ((k:Int)<(r:Int))=false:=decide_eq_false hlk;obtain rfl:k=r:=by omega
  simp(disch:=omega)only[go_sem,d3];rw[jE j];refine⟨k-(j+1),by omega,j+1,λa=>if a=j then S else ρ a,aA rfl,by omega,gQ5,λa ha=>?_,FA5,by omega,rfl⟩;show Q<(if a=j then S else ρ a)/\(if a=j then S else ρ a)<h5.next/\h5.get (if a=j then S else ρ a)=_
  by_cases e:a=j
  ·subst e
   rw[if_pos rfl];refine⟨by omega,by omega,?_⟩;rw[gS];congr 2;exact bI λb hb=>by rw[if_pos hb]
  ·rw[if_neg e]
   obtain⟨r1,r2,r3⟩:=rows a (by omega);exact⟨r1,by omega,by rw[F5.get _ (by omega) (by show ρ a≠S;omega),o4 _ (by omega),o3 _ (by omega)];exact r3⟩
 have d3:decide ((k:Int)<(r:Int))=true:=decide_eq_true hlk
 have hkr:k<r:=by omega
 have gM5:h5.get M=some (.wmap (.arr 2 .i64) (iM Us m)):=by rw[FA5.get _ nM];exact gM
 have PQ:WL (j,k):=⟨by show j<1000000;omega,by show k<1000000;omega⟩
 have lo2:=tA Ov Gm pm PQ (aB 0)
 rw[lk j k hkr] at lo2
 have lo2':Lh (some (.wmap (.arr 2 .i64) (iM Us m))) (.arr 2 .i64) (aB 0) false (V.agg [aB j,aB k])=some (aB (zQ G L K i j k:Nat)):=lo2
 have cQ5:h5.cell Q j=some (.sl S 0 r (.kn r)):=by
  rw[H.aF gQ5,uN hjr,if_pos (by omega),if_pos rfl]
 have pS:=λhh=>aY (vs:=rc r λa=> aB (if a<k then zQ G L K i j a else 0:Nat)) (off:=k) (by rw[dJ];exact hkr) hh S (aB (zQ G L K i j k:Nat))
 simp(disch:=omega)only[go_sem,d3,cQ5,LY,gM5,lo2',gS,pS]
 rw[jE k]
 refine⟨r-(k+1),by omega,k+1,aA rfl,by omega,?_,?_,rfl⟩
 ·rw[iX]
  congr 2
  refine bI λa ha=>?_
  by_cases e:a=k
  ·rw[if_pos e,if_pos (by omega),e]
  ·rw[if_neg e]
   by_cases e2:a<k
   ·rw[if_pos e2,if_pos (by omega)]
   ·rw[if_neg e2,if_neg (by omega)]
 ·refine (F5.trans (Fx.of (W:=(· =S)) ((Fr.refl h5).bM (n:=h5.next+12) (by omega))) λ_ _ h=>h).trans ?_ (λ_ _ h=>h)
  exact Fx.set _ (W:=(· =S)) rfl _
set_option maxHeartbeats 32000000
theorem Sa (f:Nat)(cs:List V)(vl vo:V)(l:List Int)(h:H)(ll:l.length<1000000)(I:Nat->V->H->Prop)(hI: ∀i v hh,I i v hh->SI hh vl l)(h0:I 0 vo h)
  (step: ∀i v hh,i<l.length->I i v hh->Ev T f ([v,aB i,aB (l.getD i 0)]++cs) hh (λv' h'=>I (i+1) v' h')):
  Ev T 64 [vl,vo,.fn f [] cs] h (λv h'=>I l.length v h'):=by
 refine bL jZ rfl rfl ?_
 have lv:=(hI _ _ _ h0).lens
 simp(disch:=omega)only[go_sem,jZ,aE,lv]
 refine aJ (λk' vars hh=> ∃(i:Nat) (v:V),(∃g:Nat->V,vars= [g 0,v,.fn f [] cs,g 3,g 4,g 5,vl,aB (l.length:Int),aB i,g 9])/\i<=l.length/\I i v hh/\k'=l.length-i) l.length
  ⟨0,vo,aA rfl,lB _,h0,rfl⟩ ?_
 rintro k' vars hh ⟨i,v,⟨g,rfl⟩,hi,inv,rfl⟩
 by_cases hlt:(i:Int)<(l.length:Int)
 ·have d1:=mO hlt
  have hi':i<l.length:=by omega
  obtain⟨id,off,sh,hid,hc⟩:=(hI _ _ _ inv).open
  have c1:=hc i hi'
  simp(disch:=omega)only[go_sem,d1,sh.ixa,c1]
  refine (step i v hh hi' inv).mono ?_
  rintro v' h2 inv2
  simp(disch:=omega)only[go_sem]
  rw[jE i]
  exact⟨l.length-(i+1),by omega,i+1,v',aA rfl,by omega,inv2,rfl⟩
 have d1:=iV hlt
 obtain rfl:i=l.length:=by omega
 simp(disch:=omega)only[go_sem,d1]
 exact inv
theorem TR (D S B1 B2 i:Nat)(vy:V)(n:Nat)(G:List Nat->Prop)(L:LN)(K:List Nat)(x y:List Int)(X Y:Nat)(h:H)(n7:n<=7)(hG:sW n G)(E:fI G L)(ik:Bi n G L K)(hl:L.length<=5040)(hr:K.length<=64)(d:Ka n G L K h D)
  (hx: ∀v∈x, -(X:Int)<=v/\v<=X) (hy: ∀v∈y, -(Y:Int)<=v/\v<=Y) (hXY:X*Y*5040<=4000000000000000000) (ly:y.length=K.length) (sy:SI h vy y) (hy': ∀id off m c,vy= .sl id off m c->id≠S) (hi:i<K.length)
  (g1:h.get B1=some (.cells false [.ptr D 0])) (g2:h.get B2=some (.cells false [vy])) (h1:B1<h.next) (h2:B2<h.next) (nS:S<h.next) (e1:B1≠S) (e2:B2≠S) (gS:h.get S=some (.cells false (rc K.length λk=> aB (Gk G L K x y k i 0)))):
  Ev T 96 [.sl S 0 K.length (.kn K.length),aB i,aB (x.getD i 0),.ptr B1 0,.ptr B2 0] h (λv h'=>v= .sl S 0 K.length (.kn K.length)/\h'.get S=some (.cells false (rc K.length λk=> aB (Gk G L K x y k (i+1) 0)))/\Fx (· =S) h h'):=by
 obtain⟨r,hrr⟩:=exI K.length
 refine bL iT rfl rfl ?_
 by_cases h0:x.getD i 0=0
 ·have d1:decide (x.getD i 0=0)=true:=decide_eq_true h0
  simp(disch:=omega)only[go_sem,iT,aE,d1]
  exact⟨by rw[gS];congr 2;exact bI λk _=>by rw[NA h0],Fx.refl _ _⟩
 have d1:decide (x.getD i 0=0)=false:=decide_eq_false h0
 simp(disch:=omega)only[go_sem,iT,aE,d1,H.aF g1]
 refine (Lq D i n G L K h n7 hG E ik hl hr d).mono ?_
 rintro vm ha ⟨⟨Q,ρ,rfl,bQ,nQ,gQ,rows⟩,fa⟩
 rw[hrr] at gS hr ly hi gQ rows
 have na:=fa.next
 have gSa:ha.get S=some (.cells false (rc r λk=> aB (Gk G L K x y k i 0))):=by rw[fa.get S nS];exact gS
 have hM:L.length*(X*Y)<=4000000000000000000:=Nat.le_trans (Nat.mul_le_mul_right _ hl) (by rw[Nat.mul_comm];exact hXY)
 have hsy:=λhh (f:Fx (· =S) ha hh)=>(show SI hh vy y from by
  have s2:=sy.mono fa;refine SV.fx s2 ?_ f
  cases vy with
  |sl q off m c=>exact λe=>hy' _ _ _ _ rfl e
  |_=>trivial)
 rw[hrr]
 simp(disch:=omega)only[go_sem]
 refine aJ (λk' vars hh=> ∃(j:Nat),(∃g:Nat->V,vars= [.sl S 0 r (.kn r),g 1,aB (x.getD i 0),g 3,.ptr B2 0,g 5,g 6,g 7,g 8,g 9,g 10,.sl Q 0 r (.kn r),aB r,aB j,g 14,g 15,g 16,g 17,g 18])/\j<=r/\hh.get S=some (.cells false (rc r λk=> aB (Gk G L K x y k i j)))/\Fx (· =S) ha hh/\k'=r-j) r
  ⟨0,aA rfl,lB _,gSa,Fx.refl _ _,rfl⟩ ?_
 rintro k' vars hb ⟨j,⟨g,rfl⟩,hj,gSb,Fb,rfl⟩
 have nb:=Fb.next
 by_cases hlt:(j:Int)<(r:Int)
 case neg=>
  have d2:=iV hlt;obtain rfl:j=r:=by omega
  simp(disch:=omega)only[go_sem,d2];refine⟨?_,⟨by omega,λid h1 h2=>by rw[Fb.get id (by omega) h2,fa.get id h1]⟩⟩;rw[gSb];congr 2;exact bI λk hk=>by rw[←hrr,RT (λa ha=>XW hG E ik ha (by omega))]
 have d2:=mO hlt
 have hjr:j<r:=by omega
 obtain⟨rq,rn,rg⟩:=rows j hjr
 have cQ:hb.cell Q j=some (.sl (ρ j) 0 r (.kn r)):=by
  rw[Fb.cell nQ (by show Q≠S;omega),H.aF gQ,uN hjr]
 simp(disch:=omega)only[go_sem,d2,cQ]
 refine aJ (λk' vars hh=> ∃(k:Nat),(∃g:Nat->V,vars= [.sl S 0 r (.kn r),g 1,aB (x.getD i 0),g 3,.ptr B2 0,g 5,aB j,g 7,g 8,g 9,g 10,.sl Q 0 r (.kn r),aB r,aB j,g 14,.sl (ρ j) 0 r (.kn r),aB r,aB k,g 18])/\k<=r/\hh.get S=some (.cells false (rc r λa=> aB (Gk G L K x y a i (if a<k then j+1 else j))))/\Fx (· =S) ha hh/\k'=r-k) r
  ⟨0,aA rfl,lB _,gSb,Fb,rfl⟩ ?_
 rintro k' vars hc ⟨k,⟨g',rfl⟩,hk,gSc,Fc,rfl⟩
 have nc:=Fc.next
 by_cases hlk:(k:Int)<(r:Int)
 case neg=>
  have d3:decide ((k:Int)<(r:Int))=false:=decide_eq_false hlk;obtain rfl:k=r:=by omega
  simp(disch:=omega)only[go_sem,d3];rw[jE j];refine⟨k-(j+1),by omega,j+1,aA rfl,by omega,?_,Fc,rfl⟩;rw[gSc];congr 2;exact bI λa ha=>by rw[if_pos ha]
 have d3:decide ((k:Int)<(r:Int))=true:=decide_eq_true hlk
 have hkr:k<r:=by omega
 have cR:hc.cell (ρ j) k=some (aB (zQ G L K i j k:Nat)):=by
  rw[Fc.cell rn (by show ρ j≠S;omega),H.aF rg,uN hkr]
 have cS:hc.cell S k=some (aB (Gk G L K x y k i j)):=by
  rw[H.aF gSc,uN hkr,if_neg (by omega)]
 have cB:hc.cell B2 0=some vy:=by
  rw[Fc.cell (by omega) (by show B2≠S;omega),fa.cell h2,H.aF g2];rfl
 obtain⟨idy,offy,shy,hidy,hcy⟩:=(hsy hc Fc).open
 rw[ly] at shy hidy hcy
 have cY:=hcy j hjr
 have b1:=Ei (kE hx i) (kE hy j)
 have b2:=Mc (G:=G) (L:=L) (K:=K) hx hy k i j
 have b3:=Mc (G:=G) (L:=L) (K:=K) hx hy k i (j+1)
 rw[Ub] at b3
 have hXYs:X*Y<=L.length*(X*Y):=Nat.le_mul_of_pos_left _ (by have:=ik.lt (bD (d:=0) (show 0<K.length by omega));omega)
 obtain⟨u,hu⟩:=exI (x.getD i 0*y.getD j 0)
 obtain⟨w,hw⟩:=exI (u*((zQ G L K i j k:Nat):Int))
 obtain⟨s,hs⟩:=exI (Gk G L K x y k i j)
 rw[hu,hs] at b3
 rw[hu] at b1
 rw[hs] at b2 cS
 rw[hw] at b3
 have pS:=λhh=>aY (vs:=rc r λa=> aB (Gk G L K x y a i (if a<k then j+1 else j))) (off:=k) (by rw[dJ];exact hkr) hh S (aB (s+w))
 simp(disch:=omega)only[go_sem,d3,cR,cS,cB,shy.ixa,cY,hu,hw,gSc,pS]
 rw[jE k]
 refine⟨r-(k+1),by omega,k+1,aA rfl,by omega,?_,?_,rfl⟩
 ·rw[iX]
  congr 2
  refine bI λa ha=>?_
  by_cases e:a=k
  ·rw[if_pos e,if_pos (by omega),e,Ub,hu,hs,hw]
  ·rw[if_neg e]
   by_cases e2:a<k
   ·rw[if_pos e2,if_pos (by omega)]
   ·rw[if_neg e2,if_neg (by omega)]
 ·refine (Fc.trans (Fx.of (W:=(· =S)) ((Fr.refl hc).bM (n:=hc.next+15) (by omega))) λ_ _ h=>h).trans ?_ (λ_ _ h=>h)
  exact Fx.set _ (W:=(· =S)) rfl _
structure DI (b r:Nat)(f:Nat->Int)(hh:H)(v:V):Prop where
 ex: ∃S,v= .sl S 0 r (.kn r)/\b<=S/\S<hh.next/\hh.get S=some (.cells false (rc r λk=> aB (f k)))
theorem DI.si {b r:Nat}{f:Nat->Int}{hh:H}{v:V}(o:DI b r f hh v):SI hh v ((List.range r).map f):=by
 obtain⟨S,rfl,_,nS,gS⟩:=o.ex
 have e:(rc r λk=>aB (f k))=ints ((List.range r).map f):=by
  simp [rc,ints,Function.comp_def]
 rw[e] at gS;exact SV.all (by rw[aI,rF,List.length_range,Nat.mul_one]) nS gS _
theorem MQ (D:Nat)(vx vy:V)(n:Nat)(G:List Nat->Prop)(L:LN)(K:List Nat)(x y:List Int)(X Y:Nat)(h:H)(n7:n<=7)(hG:sW n G)(E:fI G L)(ik:Bi n G L K)(hl:L.length<=5040)(hr:K.length<=64)(d:Ka n G L K h D)
  (hx: ∀v∈x, -(X:Int)<=v/\v<=X) (hy: ∀v∈y, -(Y:Int)<=v/\v<=Y) (hXY:X*Y*5040<=4000000000000000000) (lx:x.length=K.length) (ly:y.length=K.length) (sx:SI h vx x) (sy:SI h vy y):
  Ev T 60 [.ptr D 0,vx,vy] h (λv h'=>DI h.next K.length (Qh G L K x y) h' v/\Fr h h'):=by
 refine bL mU rfl rfl ?_
 obtain⟨vL,vC,Mn,ln,ks,gD,hD,hMn,sL,sC,al,gMn,kln,lkn⟩:=d.ex
 have lvC:=(nX (by omega) sC al).1
 obtain⟨B,hB⟩:=exI h.next
 obtain⟨h1,e1,n1,g1,o1,f1⟩:=iL hB [.ptr D 0]
 obtain⟨h2,e2,n2,g2,o2,f2⟩:=iL n1 [vy]
 obtain⟨h3,e3,n3,g3,o3,f3⟩:=iL n2 (rc K.length λ_=> aB 0)
 have wy:=SV.dU sy
 have F2:=f1.trans f2
 have F3:=F2.trans f3
 have gB2:h2.get B=some (.cells false [.ptr D 0]):=by rw[o2 B (by omega)];exact g1
 have gD2:h2.get D=some (.cells false [vL,vC,.mp Mn]):=by rw[F2.get _ hD];exact gD
 have gB3:h3.get B=some (.cells false [.ptr D 0]):=by rw[o3 B (by omega)];exact gB2
 have gC3:h3.get (B+1)=some (.cells false [vy]):=by rw[o3 (B+1) (by omega)];exact g2
 have b1:=nJ (x:= .ptr D 0) rfl rfl h
 have b2:=nJ wy.1 wy.2.1 h1
 simp(disch:=omega)only[go_sem,mU,aE,b1,hB,e1,b2,n1,e2,H.aF gB2,H.aF gD2,lvC,mX h2 K.length (by omega),n2,e3]
 have hsx:=SV.in sx
 have hsy:=SV.in sy
 refine (Sa _ [.ptr B 0,.ptr (B+1) 0] vx (.sl (B+1+1) 0 K.length (.kn K.length)) x h3 (by omega) (λi v hh=>v= .sl (B+1+1) 0 K.length (.kn K.length)/\hh.get (B+1+1)=some (.cells false (rc K.length λk=> aB (Gk G L K x y k i 0)))/\Fx (· =B+1+1) h3 hh) ?_ ?_ ?_).mono ?_
 ·rintro i v hh ⟨_,_,F⟩
  refine SV.fx (sx.mono F3) ?_ F
  cases vx with
  |sl q off m c=>exact λe=>by have:=hsx _ _ _ _ rfl;omega
  |_=>trivial
 ·exact⟨rfl,by rw[g3];congr 2;exact bI λk _=>by rw[IN],Fx.refl _ _⟩
 ·rintro i v hh hi ⟨rfl,gS,F⟩
  have nF:=F.next
  have gg: ∀id,id<B+1+1->hh.get id=h3.get id:=λid h1=>F.get id (by omega) (by show id≠B+1+1;omega)
  have F0:Fr h hh:=⟨by omega,λq hq=>by rw[gg q (by omega)];exact F3.get q hq⟩
  refine (TR D (B+1+1) B (B+1) i vy n G L K x y X Y hh n7 hG E ik hl hr (d.mono F0) hx hy hXY ly (sy.mono F0) (λid off m c e=>by have:=hsy _ _ _ _ e;omega) (by omega) (by rw[gg _ (by omega)];exact gB3) (by rw[gg _ (by omega)];exact gC3) (by omega) (by omega) (by omega) (by omega) (by omega) gS).mono ?_
  rintro v' h' ⟨rfl,g',f'⟩
  exact⟨rfl,g',F.trans f' λ_ _ h=>h⟩
 ·rintro v h4 ⟨rfl,gS,F⟩
  have nF:=F.next
  simp(disch:=omega)only[go_sem]
  refine⟨⟨B+1+1,rfl,by omega,by omega,?_⟩,⟨by omega,λq hq=>by rw[F.get q (by omega) (by show q≠B+1+1;omega)];exact F3.get q hq⟩⟩
  rw[gS]
  congr 2
  exact bI λk _=>by rw[lx,TS λa ha=>(wF hG E ik ha).1]
set_option maxHeartbeats 16000000
noncomputable def SQ (G:List Nat->Prop)(L:LN)(K:List Nat)(i:Nat):List (List Int):=(List.range K.length).map λj=>zi ((List.range K.length).map (zQ G L K i j))
theorem GH {W0:Nat->Prop}(vc:V)(z:Int)(n:Nat)(O:LN)(R:oV)(G:List Nat->Prop)(h:H)(gc:GC W0 h vc n O R G)(L:LN)(hL:cX O R n 0 (bH n)=L):
  Ev T 23 [vc,aB z] h (λv h'=> ∃K,Bi n G L K/\Fr h h'/\(64<K.length/\v= .tup [.aC,aB 5]∨K.length<=64/\((z<0∨(K.length:Int)<=z)/\v= .tup [.aC,aB 2]∨ ∃(i:Nat) (vl:V),z=(i:Int)/\i<K.length/\v= .tup [vl,aB 0]/\SR h' vl (SQ G L K i)))):=by
 have gc0:=gc
 obtain⟨vO,vR,rfl,sO,sR⟩:=gc.ch
 refine bL lX rfl rfl ?_
 have oneO:vO.one=true:=PE sO
 have oneR:vR.one=true:=PC sR
 obtain⟨E,ll⟩:=jN gc.nH gc.isc
 have ll5:=nI gc
 rw[hL] at E ll
 obtain⟨B,hB⟩:=exI h.next
 obtain⟨h1,e1,n1,g1,o1,f1⟩:=iL hB [aB n,vO,vR]
 have bx:=eZ h (v:= aB n) (u:=vO) (w:=vR) rfl oneO oneR
 simp(disch:=omega)only[go_sem,lX,aE,bx,hB,e1,bW g1]
 refine (Gt _ n O R G h1 (gc0.mono f1) L hL).mono ?_
 rintro _ h2 ⟨K,ik,f2,⟨k64,rfl⟩|⟨k64,D,rfl,dat⟩⟩
 ·simp(disch:=omega)only[go_sem]
  refine aX (λ_=>?_) (λhc=>(hc (by decide)).elim)
  simp(disch:=omega)only[go_sem]
  exact⟨K,ik,f1.trans f2,.inl ⟨k64,trivial⟩⟩
 simp(disch:=omega)only[go_sem]
 refine aX (λhc=>(hc rfl).elim) (λ_=>?_)
 obtain⟨vL,vC,Mn,ln,ks,gD,hD,hMn,sL,sC,al,gMn,kln,lkn⟩:=dat.ex
 have lvC:=(nX (by omega) sC al).1
 by_cases hz:z<0
 ·have d1:decide (z<0)=true:=decide_eq_true hz
  simp(disch:=omega)only[go_sem,d1,Hx]
  exact⟨K,ik,f1.trans f2,.inr ⟨k64,.inl ⟨.inl hz,trivial⟩⟩⟩
 have d1:decide (z<0)=false:=decide_eq_false hz
 by_cases hk:(K.length:Int)<=z
 ·have d2:=mO hk
  simp(disch:=omega)only[go_sem,d1,H.aF gD,lvC,d2]
  exact⟨K,ik,f1.trans f2,.inr ⟨k64,.inl ⟨.inr hk,trivial⟩⟩⟩
 have d2:=iV hk
 obtain⟨i,rfl⟩: ∃i:Nat,z=(i:Int):=⟨z.toNat,by omega⟩
 simp(disch:=omega)only[go_sem,d1,H.aF gD,lvC,d2]
 refine (Lq D i n G L K h2 gc.n7 gc.nH E ik (by omega) k64 dat).mono ?_
 rintro vl h3 ⟨s3,f3⟩
 simp(disch:=omega)only[go_sem]
 exact⟨K,ik,(f1.trans f2).trans f3,.inr ⟨k64,.inr ⟨i,vl,rfl,by omega,rfl,s3.sr⟩⟩⟩
set_option maxHeartbeats 32000000
theorem Cs (f:Nat)(cs:List V)(vl:V)(l:List Int)(h:H)(p:Int->Bool)(ll:l.length<1000000)(sl:SI h vl l)
  (hf: ∀i,i<l.length-> ∀hh,Fr h hh->Ev T f ([aB (l.getD i 0)]++cs) hh (λv h'=>v= .bool (p (l.getD i 0))/\Fr hh h')):
  Ev T 57 [vl,.fn f [] cs] h (λv h'=>v= .bool (l.any p)/\Fr h h'):=by
 refine bL fV rfl rfl ?_
 simp(disch:=omega)only[go_sem,fV,aE]
 refine Ev.mono (Q:=λv h'=> ∃z,v= aB z/\decide (0<=z)=l.any p/\Fr h h') ?_ ?_
 ·refine bL eD rfl rfl ?_
  have lv:=sl.lens
  obtain⟨id,off,sh,hid,hc⟩:=sl.open
  simp(disch:=omega)only[go_sem,eD,aE,lv]
  refine aJ (λk' vars hh=> ∃(i:Nat),(∃g:Nat->V,vars= [vl,.fn f [] cs,g 2,g 3,aB (l.length:Int),aB i,g 6,g 7])/\i<=l.length/\(∀j,j<i->p (l.getD j 0)=false)/\Fr h hh/\k'=l.length-i) l.length
   ⟨0,aA rfl,lB _,λj hj=>by omega,Fr.refl _,rfl⟩ ?_
  rintro k' vars hh ⟨i,⟨g,rfl⟩,hi,pre,F,rfl⟩
  by_cases hlt:(i:Int)<(l.length:Int)
  ·have d1:=mO hlt
   have hi':i<l.length:=by omega
   have c1:hh.cell id (off+i)=some (aB (l.getD i 0)):=by rw[F.cell (hid (by omega)),hc i hi']
   simp(disch:=omega)only[go_sem,d1,sh.ixa,c1]
   refine (hf i hi' hh F).mono ?_
   rintro _ h2 ⟨rfl,f2⟩
   cases he:p (l.getD i 0) with
   |true=>
    simp(disch:=omega)only[go_sem];refine⟨_,rfl,?_,F.trans f2⟩;rw[mO (by omega)];symm;exact List.any_eq_true.2 ⟨_,bD hi',he⟩
   |false=>
    simp(disch:=omega)only[go_sem];rw[jE i];refine⟨l.length-(i+1),by omega,i+1,aA rfl,by omega,λj hj=>?_,F.trans f2,rfl⟩
    by_cases e:j=i
    ·rw[e];exact he
    ·exact pre j (by omega)
  have d1:=iV hlt
  obtain rfl:i=l.length:=by omega
  simp(disch:=omega)only[go_sem,d1]
  refine⟨_,rfl,?_,F⟩
  symm
  rw[iV (by omega)]
  refine List.any_eq_false.2 λx hx=>?_
  obtain⟨j,hj,ej⟩:=Gg.1 hx
  have:=pre j hj
  rw[List.getD_eq_getElem?_getD,gW hj] at this
  rw[←ej]
  simpa using this
 rintro _ h2 ⟨z,rfl,hz,f2⟩
 simp(disch:=omega)only[go_sem,hz]
 exact f2
def uF (r i:Nat):List Int:=(List.range r).map λk=>if k=i then 1 else 0
theorem Um (r i:Nat):(uF r i).length=r:=by simp [uF]
theorem Vp (r i:Nat): ∀v∈uF r i, -((1:Nat):Int)<=v/\v<=(1:Nat):=λv hv=>by
 obtain⟨k,_,rfl⟩:=vT.1 hv;split<;>omega
noncomputable def Bw (G:List Nat->Prop)(L:LN)(K:List Nat)(l:List Nat):List Int:=l.foldl (λc i=>(List.range K.length).map (Qh G L K (uF K.length i) c)) (uF K.length 0)
theorem Dt (G:List Nat->Prop)(L:LN)(K:List Nat)(l:List Nat){k:Nat}(hk:k<l.length):Bw G L K (l.take (k+1))=(List.range K.length).map (Qh G L K (uF K.length (l.getD k 0)) (Bw G L K (l.take k))):=by
 have e:l.take (k+1)=l.take k++ [l.getD k 0]:=by
  rw[List.take_add_one,gW hk,List.getD_eq_getElem?_getD,gW hk];rfl
 unfold Bw;rw[e,List.foldl_append];rfl
theorem Tf (G:List Nat->Prop)(L:LN)(K:List Nat)(l:List Nat): ∀k,k<=l.length->(Bw G L K (l.take k)).length=K.length
 |0,_=>by unfold Bw;exact Um _ _
 |k+1,h=>by rw[Dt G L K l (by omega),rF,List.length_range]
theorem HY (G:List Nat->Prop)(L:LN)(K:List Nat)(l:List Nat)(hl:L.length<=5040): ∀k,k<=l.length-> ∀v∈Bw G L K (l.take k), -((5040^k:Nat):Int)<=v/\v<=(5040^k:Nat)
 |0,_=>by unfold Bw;exact Vp _ _
 |k+1,h=>by
  rw[Dt G L K l (by omega)];intro v hv;obtain⟨q,_,rfl⟩:=vT.1 hv;have b:=Nb (G:=G) (L:=L) (K:=K) (Vp K.length (l.getD k 0)) (HY G L K l hl k (by omega)) q;have:L.length*(1*5040^k)<=5040^(k+1):=by rw[Nat.one_mul,Nat.pow_succ,Nat.mul_comm];exact Nat.mul_le_mul_left _ hl
  omega
structure Xs (n:Nat)(G:List Nat->Prop)(L:LN)(K:List Nat)(D E:Nat)(hh:H):Prop where
 d:Ka n G L K hh D
 g:hh.get E=some (.cells false [.ptr D 0])
 nx:E<hh.next
theorem Xs.mono {n:Nat}{G:List Nat->Prop}{L:LN}{K:List Nat}{D E:Nat}{h h':H}(c:Xs n G L K D E h)(f:Fr h h'):Xs n G L K D E h':=⟨c.d.mono f,by rw[f.get _ c.nx];exact c.g,kL c.nx f.next⟩
theorem BO (D E:Nat)(x:Int)(n:Nat)(G:List Nat->Prop)(L:LN)(K:List Nat)(h:H)(hr:K.length<=64)(c:Xs n G L K D E h):
  Ev T 62 [aB x,.ptr E 0] h (λv h'=>v= .bool (decide (x<0∨(K.length:Int)<=x))/\Fr h h'):=by
 refine bL kQ rfl rfl ?_
 obtain⟨vL,vC,Mn,ln,ks,gD,hD,hMn,sL,sC,al,gMn,kln,lkn⟩:=c.d.ex
 have lvC:=(nX (by omega) sC al).1
 by_cases hz:x<0
 ·have d1:decide (x<0)=true:=decide_eq_true hz
  simp(disch:=omega)only[go_sem,kQ,aE,d1,Hx]
  exact⟨by rw[decide_eq_true (.inl hz)],Fr.refl _⟩
 have d1:decide (x<0)=false:=decide_eq_false hz
 simp(disch:=omega)only[go_sem,kQ,aE,d1,H.aF c.g,H.aF gD,lvC]
 refine⟨?_,Fr.refl _⟩
 congr 1
 rw[decide_eq_decide]
 omega
theorem Li (D E i:Nat)(n:Nat)(G:List Nat->Prop)(L:LN)(K:List Nat)(h:H)(hr:K.length<=64)(c:Xs n G L K D E h)(hi:i<K.length):
  Ev T 63 [aB i,.ptr E 0] h (λv h'=>DI h.next K.length (λk=>if k=i then 1 else 0) h' v/\Fr h h'):=by
 refine bL nZ rfl rfl ?_
 obtain⟨vL,vC,Mn,ln,ks,gD,hD,hMn,sL,sC,al,gMn,kln,lkn⟩:=c.d.ex
 have lvC:=(nX (by omega) sC al).1
 obtain⟨S,hS⟩:=exI h.next
 obtain⟨h1,e1,n1,g1,o1,f1⟩:=iL hS (rc K.length λ_=> aB 0)
 have pt:=λhh=>aY (vs:=rc K.length λ_=> aB 0) (off:=i) (by rw[dJ];exact hi) hh S (aB 1)
 simp(disch:=omega)only[go_sem,nZ,aE,H.aF c.g,H.aF gD,lvC,mX h K.length (by omega),hS,e1,g1,pt]
 refine⟨⟨S,rfl,by omega,by show S<h1.next;omega,?_⟩,f1.set (by omega) _⟩
 rw[H.aQ,iX]
 congr 2
 refine bI λa _=>?_
 by_cases e:a=i
 ·rw[if_pos e,if_pos e]
 ·rw[if_neg e,if_neg e]
theorem FG (D E Z i:Nat)(vo vk:V)(n:Nat)(G:List Nat->Prop)(L:LN)(K:List Nat)(y:List Int)(Y:Nat)(h:H)(n7:n<=7)(hG:sW n G)(Ee:fI G L)(ik:Bi n G L K)(hl:L.length<=5040)(hr:K.length<=64)(c:Xs n G L K D E h)(hi:i<K.length)
  (gZ:h.get Z=some (.cells false [.fn 63 [] [.ptr E 0]])) (hZ:Z<h.next) (hy: ∀v∈y, -(Y:Int)<=v/\v<=Y) (hY:Y*5040<=4000000000000000000) (ly:y.length=K.length) (sy:SI h vo y):
  Ev T 65 [vo,vk,aB i,.ptr E 0,.ptr Z 0] h (λv h'=>DI h.next K.length (Qh G L K (uF K.length i) y) h' v/\Fr h h'):=by
 refine bL nU rfl rfl ?_
 have ey:=sy.eM
 simp(disch:=omega)only[go_sem,nU,aE,H.aF c.g,H.aF gZ]
 have fb:=(Fr.refl h).bM (n:=h.next+7) (by omega)
 refine (Li D E i n G L K _ hr (c.mono fb) hi).mono ?_
 rintro v1 h1 ⟨r1,f1⟩
 have F1:=fb.trans f1
 have c1:=c.mono F1
 have e1:=r1.si.eM
 simp(disch:=omega)only[go_sem,H.aF c1.g]
 have si1:=r1.si
 have ei:(List.range K.length).map (λk=>if k=i then (1:Int) else 0)=uF K.length i:=rfl
 rw[ei] at si1
 refine (MQ D v1 vo n G L K (uF K.length i) y 1 Y h1 n7 hG Ee ik hl hr c1.d (Vp _ _) hy (by rw[Nat.one_mul];exact hY) (Um _ _) ly si1 (sy.mono F1)).mono ?_
 rintro v2 h2 ⟨⟨S,rfl,bS,nS,gS⟩,f2⟩
 have n1:=F1.next
 simp(disch:=omega)only[go_sem]
 exact⟨⟨S,rfl,by omega,nS,gS⟩,F1.trans f2⟩
theorem WN {W0:Nat->Prop}(vc vl:V)(l:List Int)(n:Nat)(O:LN)(R:oV)(G:List Nat->Prop)(h:H)(ll:l.length<1000000)(sl:SI h vl l)(gc:GC W0 h vc n O R G)(L:LN)(hL:cX O R n 0 (bH n)=L):
  Ev T 30 [vc,vl] h (λv h'=> ∃K,Bi n G L K/\Fr h h'/\(64<K.length/\v= .tup [aB 0,aB 5]∨K.length<=64/\(5<l.length/\v= .tup [aB 0,aB 4]∨l.length<=5/\((∃x∈l,x<0∨(K.length:Int)<=x)/\v= .tup [aB 0,aB 2]∨ ∃l':List Nat,l=zi l'/\(∀i∈l',i<K.length)/\v= .tup [aB ((Bw G L K l').getD 0 0),aB 0])))):=by
 have gc0:=gc
 obtain⟨vO,vR,rfl,sO,sR⟩:=gc.ch
 refine bL qP rfl rfl ?_
 have oneO:vO.one=true:=PE sO
 have oneR:vR.one=true:=PC sR
 have n7:=gc.n7
 have hG:=gc.nH
 obtain⟨Ee,lle⟩:=jN gc.nH gc.isc
 have ll5:=nI gc
 rw[hL] at Ee lle
 have lvl:=sl.lens
 obtain⟨B,hB⟩:=exI h.next
 obtain⟨h1,e1,n1,g1,o1,f1⟩:=iL hB [aB n,vO,vR]
 have bx:=eZ h (v:= aB n) (u:=vO) (w:=vR) rfl oneO oneR
 simp(disch:=omega)only[go_sem,qP,aE,bx,hB,e1,bW g1]
 refine (Gt _ n O R G h1 (gc0.mono f1) L hL).mono ?_
 rintro _ h2 ⟨K,ik,f2,⟨k64,rfl⟩|⟨k64,D,rfl,dat⟩⟩
 ·obtain⟨E,hE⟩:=exI h2.next
  obtain⟨h3,e3,n3,g3,o3,f3⟩:=iL hE [.nilp]
  have pt:=λhh=>aY (vs:= [V.nilp]) (off:=0) (by simp) hh E .nilp
  simp(disch:=omega)only[go_sem,hE,e3,kS (show V.nilp.cells= [V.nilp] from rfl) rfl,g3,pt]
  refine aX (λ_=>?_) (λhc=>(hc (by decide)).elim)
  simp(disch:=omega)only[go_sem]
  exact⟨K,ik,((f1.trans f2).trans f3).set (by have:=f2.next;omega) _,.inl ⟨k64,trivial⟩⟩
 obtain⟨E,hE⟩:=exI h2.next
 obtain⟨h3,e3,n3,g3,o3,f3⟩:=iL hE [.nilp]
 obtain⟨h4,e4,n4,g4,o4⟩:=Fj h3 E [.ptr D 0]
 have pt:fL (some (.cells false [V.nilp])) h3 E 0 [.ptr D 0]=some h4:=by rw[aY (by simp),←e4];rfl
 have f24:Fr h2 h4:=⟨by omega,λq hq=>by rw[o4 q (by omega),o3 q (by omega)]⟩
 have F4:=(f1.trans f2).trans f24
 have ce4:Xs n G L K D E h4:=⟨dat.mono f24,g4,by omega⟩
 simp(disch:=omega)only[go_sem,hE,e3,kS (show (V.ptr D 0).cells= [V.ptr D 0] from rfl) rfl,g3,pt]
 refine aX (λhc=>(hc rfl).elim) (λ_=>?_)
 by_cases h5:(5:Int)<(l.length:Int)
 ·have d1:decide ((5:Int)<(l.length:Int))=true:=decide_eq_true h5
  simp(disch:=omega)only[go_sem,lvl,d1]
  exact⟨K,ik,F4,.inr ⟨k64,.inl ⟨by omega,trivial⟩⟩⟩
 have d1:decide ((5:Int)<(l.length:Int))=false:=decide_eq_false h5
 simp(disch:=omega)only[go_sem,lvl,d1]
 refine (Cs 62 [.ptr E 0] vl l h4 (λx=>decide (x<0∨(K.length:Int)<=x)) ll (sl.mono F4) (λi hi hh f=>BO D E _ n G L K hh k64 (ce4.mono f))).mono ?_
 rintro _ h5' ⟨rfl,f5⟩
 have F5:=F4.trans f5
 cases hany:l.any (λx=>decide (x<0∨(K.length:Int)<=x)) with
 |true=>
  simp(disch:=omega)only[go_sem];obtain⟨x,hx,hd⟩:=List.any_eq_true.1 hany;exact⟨K,ik,F5,.inr ⟨k64,.inr ⟨by omega,.inl ⟨⟨x,hx,by simpa using hd⟩,trivial⟩⟩⟩⟩
 |false=>
  have hall: ∀x∈l,0<=x/\x<(K.length:Int):=λx hx=>by
   have:=List.any_eq_false.1 hany x hx;simp only[decide_eq_true_iff] at this;omega
  obtain⟨l',hl'⟩: ∃l':List Nat,l=zi l':=⟨l.map Int.toNat,by
   unfold zi;rw[List.map_map];refine (List.map_id' l).symm.trans (List.map_congr_left λx hx=>?_);have:=hall x hx
   show x=((x.toNat:Nat):Int)
   omega⟩
  have hk': ∀i∈l',i<K.length:=λi hi=>by
   have:=hall (i:Int) (by rw[hl'];exact vT.2 ⟨i,hi,rfl⟩);omega
  have ce5:=ce4.mono f5;obtain⟨Z,hZ⟩:=exI h5'.next;obtain⟨h6,e6,n6,g6,o6,f6⟩:=iL hZ [.nilf];obtain⟨h7,e7,n7',g7,o7⟩:=Fj h6 Z [.fn 63 [] [.ptr E 0]];have pt7:fL (some (.cells false [V.nilf])) h6 Z 0 [.fn 63 [] [.ptr E 0]]=some h7:=by rw[aY (by simp),←e7];rfl
  have f57:Fr h5' h7:=⟨by omega,λq hq=>by rw[o7 q (by omega),o6 q (by omega)]⟩
  have ce7:=ce5.mono f57;have F7:=F5.trans f57;have Kpos:0<K.length:=(Ha hG Ee ik).1;simp(disch:=omega)only[go_sem,hZ,e6,kS (show (V.fn 63 [] [.ptr E 0]).cells= [V.fn 63 [] [.ptr E 0]] from rfl) rfl,g6,pt7,H.aF g7];refine (Li D E 0 n G L K h7 k64 ce7 Kpos).mono ?_;rintro v8 h8 ⟨r8,f8⟩;have ce8:=ce7.mono f8;have g8:h8.get Z=some (.cells false [.fn 63 [] [.ptr E 0]]):=by rw[f8.get Z (by omega)];exact g7
  have F8:=F7.trans f8;simp(disch:=omega)only[go_sem];refine (Sa 65 [.ptr E 0,.ptr Z 0] vl v8 l h8 ll (λi v hh=>SI hh v (Bw G L K (l'.take i))/\Fr h8 hh) (λi v hh s=>sl.mono (F8.trans s.2)) ⟨?_,Fr.refl _⟩ ?_).mono ?_
  ·exact r8.si
  ·rintro i v hh hi ⟨sv,f⟩
   have hil:i<l'.length:=by rw[hl',aS] at hi;exact hi
   have ei:l.getD i 0=((l'.getD i 0:Nat):Int):=by rw[hl'];exact oA (λk:Nat=>(k:Int)) (d:=0) hil
   rw[ei]
   have h4l:5040^i*5040<=4000000000000000000:=by
    have:i<=4:=by omega
    exact Nat.le_trans (Nat.mul_le_mul_right _ (Nat.pow_le_pow_right (by decide) this)) (by decide)
   refine (FG D E Z (l'.getD i 0) v _ n G L K (Bw G L K (l'.take i)) (5040^i) hh n7 hG Ee ik (by omega) k64 (ce8.mono f) (hk' _ (bD hil)) (by rw[f.get Z (by have:=f8.next;omega)];exact g8) (by have:=f8.next;have:=f.next;omega) (HY G L K l' (by omega) i (by omega)) h4l (Tf G L K l' i (by omega)) sv).mono ?_;rintro v' h' ⟨r',f'⟩;refine⟨?_,f.trans f'⟩;rw[Dt G L K l' hil];exact r'.si
  ·rintro v h9 ⟨sv,f9⟩
   have el:l.length=l'.length:=by rw[hl',aS]
   rw[el,List.take_length] at sv;obtain⟨id,off,sh,hid,hc⟩:=sv.open;have l0:(Bw G L K l').length=K.length:=by have:=Tf G L K l' l'.length (iI _);rwa [List.take_length] at this
   rw[l0] at sh hid hc;have c0:h9.cell id off=some (aB ((Bw G L K l').getD 0 0)):=hc 0 Kpos;simp(disch:=omega)only[go_sem,sh.ixa,c0];exact⟨K,ik,F8.trans f9,.inr ⟨k64,.inr ⟨by omega,.inr ⟨l',hl',hk',rfl⟩⟩⟩⟩
set_option maxHeartbeats 8000000
theorem Lx (u w:V)(n e:Nat)(a:List Nat)(h:H)(hn:n<=1000)(he:e<1000000)(A:bE n a)(hu:SI h u (zi a))(hw:SI h w (zi (bH n))):
  Ev T 70 [u,w,aB e,.fn 72 [] []] h (λv h'=>SI h' v (zi (pw n a e))/\Fr h h'):=by
 refine bL kI rfl rfl ?_
 simp(disch:=omega)only[go_sem,kI,aE]
 refine aJ (λk' vs hh=> ∃(e':Nat) (vx va:V) (x b:List Nat),(∃g:Nat->V,vs= [vx,va,aB (e':Int),.fn 72 [] [],g 4,g 5,g 6])/\e'<1000000/\bE n x/\bE n b/\SI hh vx (zi x)/\SI hh va (zi b)/\aT b (pw n x e')=pw n a e/\Fr h hh/\k'=e') e
  ⟨e,u,w,a,bH n,aA rfl,he,A,bE.one n,hu,hw,fA (lY A e),Fr.refl h,rfl⟩ ?_
 rintro k' vars h1 ⟨e',vx,va,x,b,⟨g,rfl⟩,hl,X,B,sx,sb,heq,F,hk⟩
 subst hk
 by_cases hlt:(0:Int)<(k':Int)
 case neg=>
  have d1:=iV hlt;obtain rfl:k'=0:=by omega
  simp(disch:=omega)only[go_sem,d1];have h2:aT b (bH n)=pw n a e:=heq;rw[cG B] at h2;rw[←h2];exact⟨sb,F⟩
 have d1:=mO hlt
 have hpx: ∀k,aT x (pw n x k)=pw n x (k+1):=λk=>by
  have h2:=Xr X 1 k;rw[Oh X] at h2;rw[←h2,Nat.add_comm]
 have sq:=WI X (k'/2)
 have tm:(k':Int).tmod 2=((k'%2:Nat):Int):=Sg k' 2
 have td:(k':Int).tdiv 2=((k'/2:Nat):Int):=rfl
 rcases Nat.mod_two_eq_zero_or_one k' with hm|hm
 ·have d2:decide (((0:Nat):Int)=1)=false:=rfl
  rw[hm] at tm
  simp(disch:=omega)only[go_sem,d1,tm,d2]
  refine (qX (rfl:T 72=some vW) vx vx x x h1 (by rw[X.len];omega) sx sx (λj hj=>by rw[X.len];exact X.fH (by rw[←X.len];exact hj))).mono ?_
  rintro v1 h2 np
  simp(disch:=omega)only[go_sem,td]
  refine⟨k'/2,by omega,k'/2,v1,va,aT x x,b,aA rfl,by omega,X.mul X,B,(np.pv (W:=λ_=>False) id).si,sb.mono np.fr,?_,F.trans np.fr,rfl⟩
  rw[sq,show 2*(k'/2)=k' by omega];exact heq
 ·have d2:decide (((1:Nat):Int)=1)=true:=rfl
  rw[hm] at tm
  simp(disch:=omega)only[go_sem,d1,tm,d2]
  refine (qX (rfl:T 72=some vW) va vx b x h1 (by rw[B.len];omega) sb sx (λj hj=>by rw[X.len];exact B.fH (by rw[←B.len];exact hj))).mono ?_
  rintro v0 h2 np0
  simp(disch:=omega)only[go_sem]
  refine (qX (rfl:T 72=some vW) vx vx x x h2 (by rw[X.len];omega) (sx.mono np0.fr) (sx.mono np0.fr) (λj hj=>by rw[X.len];exact X.fH (by rw[←X.len];exact hj))).mono ?_
  rintro v1 h3 np
  simp(disch:=omega)only[go_sem,td]
  refine⟨k'/2,by omega,k'/2,v1,v0,aT x x,aT b x,aA rfl,by omega,X.mul X,B.mul X,(np.pv (W:=λ_=>False) id).si,(np0.pv (W:=λ_=>False) id).si.mono np.fr,?_,(F.trans np0.fr).trans np.fr,rfl⟩
  rw[sq,aV B X (lY X _),hpx,show 2*(k'/2)+1=k' by omega];exact heq
theorem SK (u:V)(z:Int)(n:Nat)(a:List Nat)(h:H)(hz: -9223372036854775808<=z/\z<9223372036854775808)(n0:1<=n)(hn:n<=7)(A:bE n a)(hu:SI h u (zi a)):
  Ev T 39 [u,aB z] h (λv h'=> ∃w,v= .tup [w,aB 0]/\SI h' w (zi (zp n a z))/\Fr h h'):=by
 refine bL Be rfl rfl ?_
 have lu:=hu.lens
 rw[aS,A.len] at lu
 simp(disch:=omega)only[go_sem,Be,aE]
 refine (Tx u n a h n0 hn A hu).mono ?_
 rintro _ h1 ⟨rfl,f1⟩
 have op:=Cg (n:=n) A
 obtain⟨o,ho⟩:=exI (kV a n)
 rw[ho] at op ⊢
 have o420:o<=420:=Nat.le_of_dvd (by decide) (by rw[←ho];exact Rl A hn)
 have hb:=Qo z (n:=(o:Int)) (by omega)
 have hf:=Sj z (n:=(o:Int)) (by omega)
 have hm0:=Int.emod_nonneg z (show (o:Int)≠0 by omega)
 have hm1:=Int.emod_lt_of_pos z (show (0:Int)<o by omega)
 obtain⟨m,hm⟩: ∃m:Nat,z%(o:Int)=m:=⟨(z%(o:Int)).toNat,by omega⟩
 have ez:zp n a z=pw n a m:=by unfold zp;rw[ho,hm];rfl
 rw[hm] at hf hm1
 obtain⟨q,hq⟩:=exI (z.tmod (o:Int))
 rw[hq] at hb hf
 simp(disch:=omega)only[go_sem]
 refine aX (λhc=>(hc rfl).elim) (λ_=>?_)
 have fin: ∀hh,Fr h1 hh->Ev T 71 [aB n] hh (λv h'=> ∃w,SI h' v (zi (bH n))/\w=v/\Fr h h'):=λhh f=>by
  refine (Gw (rfl:T 71=some Hi) n hh (by omega)).mono ?_;rintro w h3 np;exact⟨w,(np.pv (W:=λ_=>False) id).si,rfl,(f1.trans f).trans np.fr⟩
 by_cases hneg:q<0
 ·have d1:decide (q<0)=true:=decide_eq_true hneg
  rw[if_pos hneg] at hf
  simp(disch:=omega)only[go_sem,hq,d1,lu,hf]
  refine (fin h1 (Fr.refl _)).mono ?_
  rintro _ h2 ⟨w,sw,rfl,f2⟩
  simp(disch:=omega)only[go_sem]
  refine (Lx u w n m a h2 (by omega) (by omega) A (hu.mono f2) sw).mono ?_
  rintro v h3 ⟨s3,f3⟩
  simp(disch:=omega)only[go_sem]
  exact⟨v,rfl,by rw[ez];exact s3,f2.trans f3⟩
 ·have d1:decide (q<0)=false:=decide_eq_false hneg
  rw[if_neg hneg] at hf
  subst hf
  simp(disch:=omega)only[go_sem,hq,d1,lu]
  refine (fin h1 (Fr.refl _)).mono ?_
  rintro _ h2 ⟨w,sw,rfl,f2⟩
  simp(disch:=omega)only[go_sem]
  refine (Lx u w n m a h2 (by omega) (by omega) A (hu.mono f2) sw).mono ?_
  rintro v h3 ⟨s3,f3⟩
  simp(disch:=omega)only[go_sem]
  exact⟨v,rfl,by rw[ez];exact s3,f2.trans f3⟩
set_option maxHeartbeats 32000000
theorem IU (D f:Nat)(fs:List V)(g:Nat->Int)(n:Nat)(G:List Nat->Prop)(L:LN)(K:List Nat)(h:H)(hr:K.length<=64)(d:Ka n G L K h D)
  (hf: ∀i,i<K.length-> ∀hh,Fr h hh->Ev T f (fs++ [aB i]) hh (λv h'=>v= aB (g i)/\Fr hh h')):
  Ev T 41 [.ptr D 0,.fn f fs []] h (λv h'=>DI h.next K.length g h' v/\Fr h h'):=by
 refine bL mD rfl rfl ?_
 obtain⟨vL,vC,Mn,ln,ks,gD,hD,hMn,sL,sC,al,gMn,kln,lkn⟩:=d.ex
 have lvC:=(nX (by omega) sC al).1
 obtain⟨r,hrr⟩:=exI K.length
 rw[hrr] at lvC hr hf
 obtain⟨S,hS⟩:=exI h.next
 obtain⟨h1,e1,n1,g1,o1,f1⟩:=iL hS (rc r λ_=> aB 0)
 simp(disch:=omega)only[go_sem,mD,aE,H.aF gD,lvC,mX h r (by omega),hS,e1]
 refine aJ (λk' vars hh=> ∃(i:Nat),(∃j:Nat->V,vars= [j 0,.fn f fs [],j 2,.sl S 0 r (.kn r),j 4,aB r,aB i,j 7])/\i<=r/\hh.get S=some (.cells false (rc r λk=> aB (if k<i then g k else 0)))/\Fr h hh/\S<hh.next/\k'=r-i) r
  ⟨0,aA rfl,lB _,g1,f1,by omega,rfl⟩ ?_
 rintro k' vars hh ⟨i,⟨j,rfl⟩,hi,gS,F,nS,rfl⟩
 by_cases hlt:(i:Int)<(r:Int)
 ·have d1:=mO hlt
  have hi':i<r:=by omega
  simp(disch:=omega)only[go_sem,d1]
  refine (hf i hi' hh F).mono ?_
  rintro _ h2 ⟨rfl,f2⟩
  have gS2:h2.get S=some (.cells false (rc r λk=> aB (if k<i then g k else 0))):=by rw[f2.get S nS];exact gS
  have pt:=λhh=>aY (vs:=rc r λk=> aB (if k<i then g k else 0)) (off:=i) (by rw[dJ];exact hi') hh S (aB (g i))
  simp(disch:=omega)only[go_sem,gS2,pt]
  rw[jE i]
  have n2:=f2.next
  refine⟨r-(i+1),by omega,i+1,aA rfl,by omega,?_,(F.trans f2).set (by omega) _,by show S<h2.next;omega,rfl⟩
  rw[iX]
  congr 2
  refine bI λa ha=>?_
  by_cases e:a=i
  ·rw[if_pos e,if_pos (by omega),e]
  ·rw[if_neg e]
   by_cases e2:a<i
   ·rw[if_pos e2,if_pos (by omega)]
   ·rw[if_neg e2,if_neg (by omega)]
 have d1:=iV hlt
 obtain rfl:i=r:=by omega
 simp(disch:=omega)only[go_sem,d1]
 refine⟨⟨S,by rw[hrr],by omega,nS,?_⟩,F⟩
 rw[gS,hrr]
 congr 2
 exact bI λa ha=>by rw[if_pos ha]
noncomputable def NC (n:Nat)(L:LN)(z:Int)(t:Nat)(y:List Nat):Nat:=((List.range t).filter λa=>decide (zp n (L.getD a []) z=y)).length
theorem filter_one {α:Type}(p:α->Bool)(a:α):([a].filter p).length=if p a=true then 1 else 0:=by
 cases h:p a<;>simp [h]
theorem HO (n:Nat)(L:LN)(z:Int)(t:Nat)(y:List Nat):NC n L z (t+1) y=NC n L z t y+if zp n (L.getD t []) z=y then 1 else 0:=by
 unfold NC;rw[List.range_succ,List.filter_append,oH];rw[filter_one];simp only[decide_eq_true_iff]
theorem WQ (n:Nat)(L:LN)(z:Int)(t:Nat)(y:List Nat):NC n L z t y<=t:=by
 unfold NC;exact Nat.le_trans (List.length_filter_le _ _) (by rw[List.length_range];exact iI _)
noncomputable def PI (n:Nat)(L:LN)(K:List Nat)(z:Int)(i:Nat):Nat:=NC n L z L.length (L.getD (K.getD i 0) [])
theorem ZX (D M:Nat):uC [.nilp,.nilm] [(0,1,.ptr D 0),(1,1,.mp M)]=some (.agg [.ptr D 0,.mp M]):=rfl
theorem Vx (D M i:Nat)(n:Nat)(G:List Nat->Prop)(L:LN)(K:List Nat)(h:H)(z:Int)(m:List (List Nat×V))(n7:n<=7)(hG:sW n G)(E:fI G L)(ik:Bi n G L K)(hr:K.length<=64)(d:Ka n G L K h D)(hi:i<K.length)
  (gM:h.get M=some (.wmap (.arr 64 .u8) (iM Qt m))) (hM:M<h.next) (pm: ∀p∈m,bE n p.1) (lk: ∀y,bE n y->(Kq m y).getD (aB 0)= aB (NC n L z L.length y:Nat)):
  Ev T 42 [.agg [.ptr D 0,.mp M],aB i] h (λv h'=>v= aB (PI n L K z i:Nat)/\Fr h h'):=by
 refine bL mN rfl rfl ?_
 obtain⟨vL,vC,Mn,ln,ks,gD,hD,hMn,sL,sC,al,gMn,kln,lkn⟩:=d.ex
 obtain⟨lvC,eC,idC,offC,shC,cC⟩:=nX (by omega) sC al
 obtain⟨bC,rep,cr,_,rw3,sr⟩:=cC i hi
 have hKi:K.getD i 0<L.length:=ik.lt (bD hi)
 obtain⟨x,hx⟩:=exI (L.getD (K.getD i 0) [])
 rw[hx] at sr
 have X:bE n x:=by rw[←hx];exact mP hG E hKi
 obtain⟨A,hA⟩:=exI h.next
 obtain⟨h1,e1,n1,g1,o1,f1⟩:=iL hA [.ptr D 0,.mp M]
 have gD1:h1.get D=some (.cells false [vL,vC,.mp Mn]):=by rw[f1.get _ hD];exact gD
 have cr1:h1.cell idC (offC+i*3)=some rep:=by rw[f1.cell bC];exact cr
 simp(disch:=omega)only[go_sem,mN,aE,Mo h (v:= .ptr D 0) (u:= .mp M) rfl rfl,hA,e1,H.aF g1,H.aF gD1,shC.ixa,cr1]
 have fb:=(Fr.refl h1).bM (n:=h1.next+14) (by omega)
 refine (Br rep n x _ (by omega) X (sr.mono (f1.trans fb))).mono ?_
 rintro _ h2 ⟨rfl,f2⟩
 have F2:=f1.trans (fb.trans f2)
 have g2:h2.get A=some (.cells false [.ptr D 0,.mp M]):=by rw[(fb.trans f2).get A (by omega)];exact g1
 have gM2:h2.get M=some (.wmap (.arr 64 .u8) (iM Qt m)):=by rw[F2.get _ hM];exact gM
 have lo:=tA (Jj (n:=n) (by omega)) (λa A=>Cn (n:=n) (by omega) a A) pm X (aB 0)
 rw[lk x X] at lo
 simp(disch:=omega)only[go_sem,H.aF g2,gM2,lo]
 refine⟨by simp [eM],by unfold PI;rw[hx],F2⟩
theorem KL {W0:Nat->Prop}(vc:V)(z:Int)(n:Nat)(O:LN)(R:oV)(G:List Nat->Prop)(h:H)(hz: -9223372036854775808<=z/\z<9223372036854775808)(gc:GC W0 h vc n O R G)(L:LN)(hL:cX O R n 0 (bH n)=L):
  Ev T 12 [vc,aB z] h (λv h'=> ∃K,Bi n G L K/\Fr h h'/\(64<K.length/\v= .tup [.aC,aB 5]∨K.length<=64/\ ∃vl,v= .tup [vl,aB 0]/\SI h' vl (zi ((List.range K.length).map (PI n L K z))))):=by
 have gc0:=gc
 obtain⟨vO,vR,rfl,sO,sR⟩:=gc.ch
 refine bL qL rfl rfl ?_
 have oneO:vO.one=true:=PE sO
 have oneR:vR.one=true:=PC sR
 have n7:=gc.n7
 have n0:=gc.n0
 have hG:=gc.nH
 obtain⟨E,ll⟩:=jN gc.nH gc.isc
 have ll5:=nI gc
 rw[hL] at E ll
 obtain⟨B,hB⟩:=exI h.next
 obtain⟨h1,e1,n1,g1,o1,f1⟩:=iL hB [aB n,vO,vR]
 have bx:=eZ h (v:= aB n) (u:=vO) (w:=vR) rfl oneO oneR
 simp(disch:=omega)only[go_sem,qL,aE,bx,hB,e1,bW g1]
 refine (Gt _ n O R G h1 (gc0.mono f1) L hL).mono ?_
 rintro _ h2 ⟨K,ik,f2,⟨k64,rfl⟩|⟨k64,D,rfl,dat⟩⟩
 ·simp(disch:=omega)only[go_sem]
  refine aX (λ_=>?_) (λhc=>(hc (by decide)).elim)
  simp(disch:=omega)only[go_sem]
  exact⟨K,ik,f1.trans f2,.inl ⟨k64,trivial⟩⟩
 simp(disch:=omega)only[go_sem]
 refine aX (λhc=>(hc rfl).elim) (λ_=>?_)
 have F2:=f1.trans f2
 obtain⟨vL,vC,Mn,ln,ks,gD,hD,hMn,sL,sC,al,gMn,kln,lkn⟩:=dat.ex
 obtain⟨lvL,eL,idL,offL,ws,shL,cL⟩:=Cz sL
 obtain⟨m0,hm0⟩: ∃m,L.length=m:=⟨_,rfl⟩
 rw[hm0] at lvL shL cL
 obtain⟨M,hM⟩:=exI h2.next
 obtain⟨h3,e3⟩:=exI (h2.new (.wmap (.arr 64 .u8) []))
 have n3:h3.next=M+1:=by rw[←e3,H.aU,hM]
 have g3:h3.get M=some (.wmap (.arr 64 .u8) []):=by rw[←e3,←hM];exact H.aL h2 _
 have o3: ∀k,k≠M->h3.get k=h2.get k:=λk hk=>by rw[←e3];exact H.bB h2 (by omega) _
 obtain⟨h4,e4,n4,g4,o4,f4⟩:=iL n3 [.nilp,.nilm]
 obtain⟨h5,e5,n5,g5,o5⟩:=Fj h4 (M+1) [.ptr D 0,.mp M]
 have F25:Fr h2 h5:=⟨by omega,λq hq=>by rw[o5 q (by omega),o4 q (by omega),o3 q (by omega)]⟩
 have gM5:h5.get M=some (.wmap (.arr 64 .u8) []):=by rw[o5 M (by omega),o4 M (by omega)];exact g3
 have gD5: ∀hh,Fr h2 hh->hh.get D=some (.cells false [vL,vC,.mp Mn]):=λhh f=>by rw[f.get _ hD];exact gD
 simp(disch:=omega)only[go_sem,hM,e3,ZX,n3,e4,Cx h4 (M+1) 0 (v:= .ptr D 0) (u:= .mp M) rfl rfl,g4,yH,e5,H.aF (gD5 h5 F25),lvL]
 refine cI (λvs hh=> ∃(m:List (List Nat×V)),(∃g:Nat->V,vs= [g 0,g 1,g 2,g 3,g 4,.ptr D 0,g 6,.ptr (M+1) 0,g 8,g 9,g 10,g 11,g 12,g 13,g 14])/\hh.get M=some (.wmap (.arr 64 .u8) (iM Qt m))/\hh.get (M+1)=some (.cells false [.ptr D 0,.mp M])/\(∀p∈m,bE n p.1)/\(∀y,bE n y->(Kq m y).getD (aB 0)= aB (NC n L z L.length y:Nat))/\M+1<hh.next/\Fr h2 hh) ?_ ?_
 ·refine aJ (λk' vars hh=> ∃(t:Nat) (m:List (List Nat×V)),(∃g:Nat->V,vars= [g 0,aB z,g 2,g 3,g 4,.ptr D 0,g 6,.ptr (M+1) 0,g 8,g 9,g 10,vL,aB m0,aB t,g 14])/\t<=m0/\hh.get M=some (.wmap (.arr 64 .u8) (iM Qt m))/\hh.get (M+1)=some (.cells false [.ptr D 0,.mp M])/\(∀p∈m,bE n p.1)/\(∀y,bE n y->(Kq m y).getD (aB 0)= aB (NC n L z t y:Nat))/\M+1<hh.next/\Fr h2 hh/\k'=m0-t) m0
   ⟨0, [],aA rfl,lB _,gM5,g5,λ_ h=>(by cases h),λy _=>rfl,by omega,F25,rfl⟩ ?_
  rintro k' vars h6 ⟨t,m,⟨g,rfl⟩,ht,gM,gR,pm,lk,nM,F,rfl⟩
  by_cases hlt:(t:Int)<(m0:Int)
  case neg=>
   have d1:=iV hlt;obtain rfl:t=m0:=by omega
   simp(disch:=omega)only[go_sem,d1];exact⟨m,aA rfl,gM,gR,pm,by rw[hm0];exact lk,nM,F⟩
  have d1:=mO hlt
  have htl:t<m0:=by omega
  obtain⟨b1,c1,s1⟩:=cL t htl
  generalize ws.getD t V.undef=ve at c1 s1
  have X:=mP hG E (show t<L.length by omega)
  have c2:h6.cell idL (offL+t)=some ve:=by rw[F.cell b1];exact c1
  simp(disch:=omega)only[go_sem,d1,shL.ixa,c2]
  refine (SK ve z n (L.getD t []) h6 hz n0 n7 X (s1.mono F)).mono ?_
  rintro _ h7 ⟨w,rfl,sw,f7⟩
  have F7:=F.trans f7
  have n7':=f7.next
  have gM7:h7.get M=some (.wmap (.arr 64 .u8) (iM Qt m)):=by rw[f7.get _ (by omega)];exact gM
  have gR7:h7.get (M+1)=some (.cells false [.ptr D 0,.mp M]):=by rw[f7.get _ (by omega)];exact gR
  obtain⟨y,hy⟩:=exI (zp n (L.getD t []) z)
  have Y:bE n y:=by rw[←hy];exact lY X _
  rw[hy] at sw
  simp(disch:=omega)only[go_sem,H.aF gR7]
  have fb:=(Fr.refl h7).bM (n:=h7.next+9) (by omega)
  refine (Br w n y _ (by omega) Y (sw.mono fb)).mono ?_
  rintro _ h8 ⟨rfl,f8⟩
  have f78:=fb.trans f8
  have F8:=F7.trans f78
  have gM8:h8.get M=some (.wmap (.arr 64 .u8) (iM Qt m)):=by rw[f78.get _ (by omega)];exact gM7
  have gR8:h8.get (M+1)=some (.cells false [.ptr D 0,.mp M]):=by rw[f78.get _ (by omega)];exact gR7
  have hE:=λa b=>Jj (n:=n) (by omega) a b
  have hk:=λa=>Cn (n:=n) (by omega) a
  have lc:=lk y Y
  obtain⟨c,hc⟩:=exI (NC n L z t y)
  rw[hc] at lc
  have cle:c<=t:=by rw[←hc];exact WQ ..
  have lo2:=tA hE hk pm Y (aB 0)
  rw[lc] at lo2
  obtain⟨we,ni,m1,h9,ee,n9,o9,gM9,pm1,lk9,en⟩:=Ze hE hk pm Y (aB 0) (aB (c+1:Nat)) h8 M gM8
  have lo3:=tA hE hk pm1 Y (aB 0)
  rw[lk9,lc] at lo3
  have n78:=f78.next
  have ok:RQ h9 (.lkw (.arr 64 .u8) (aB 0) false (.c (.mp M)) (.c (Qt y))) (aB c)=true:=by
   simp only[RQ,Qr,xv,Pk,gM9,lo3,Option.map_some,okV];simp [eM]
  have gR9:h9.get (M+1)=some (.cells false [.ptr D 0,.mp M]):=by rw[o9 (M+1) (by omega)];exact gR8
  simp(disch:=omega)only[go_sem,H.aF gR8,gM8,lo2,show (c:Int)+1=((c+1:Nat):Int) from rfl,ee,gM9,ok,en]
  rw[jE t]
  have nF:=F7.next
  refine⟨by simp [eM],m0-(t+1),by omega,t+1,_,aA rfl,by omega,rfl,gR9,Di Y pm,λy' Y'=>?_,by show M+1<h9.next;omega,⟨by show h2.next<=h9.next;omega,λp hp=>by rw[H.aH _ (by omega),o9 p (by omega)];exact F8.get p hp⟩,rfl⟩
  rw[Gj,HO,hy]
  by_cases e:y'=y
  ·rw[if_pos e,if_pos e.symm,e,hc];rfl
  ·rw[if_neg e,if_neg (λh=>e h.symm),lk y' Y'];rfl
 rintro vars hA ⟨m,⟨g,rfl⟩,gM,gR,pm,lk,nM,FA⟩
 have rr:=Qf gR
 simp(disch:=omega)only[go_sem,rr]
 refine (IU D 42 [.agg [.ptr D 0,.mp M]] (λi=>((PI n L K z i:Nat):Int)) n G L K hA k64 (dat.mono FA) (λi hi hh f=>Vx D M i n G L K hh z m n7 hG E ik k64 (dat.mono (FA.trans f)) hi (by rw[f.get M (by omega)];exact gM) (by have:=f.next;omega) pm lk)).mono ?_
 rintro vl hB ⟨ro,fB⟩
 have s:=ro.si
 have e:(List.range K.length).map (λi=>((PI n L K z i:Nat):Int))=zi ((List.range K.length).map (PI n L K z)):=by
  unfold zi;rw[List.map_map];rfl
 rw[e] at s
 simp(disch:=omega)only[go_sem]
 exact⟨K,ik,(F2.trans FA).trans fB,.inr ⟨k64,vl,rfl,s⟩⟩
set_option maxHeartbeats 32000000
def quB (L:LN)(K:List Nat)(a k:Nat):Nat:=NR L K (L.idxOf (aT (cM (L.getD a [])) (L.getD (K.getD k 0) [])))
def WY (L:LN)(K:List Nat)(i j k:Nat):Nat:=((List.range L.length).filter λa=>decide (NR L K a=i/\quB L K a k=j)).length
def mlB (L:LN)(K:List Nat)(x y:List Int)(k:Nat):Int:=sm L.length λa=>x.getD (NR L K a) 0*y.getD (quB L K a k) 0
def YM (L:LN)(K:List Nat)(l:List Nat):List Int:=l.foldl (λc i=>(List.range K.length).map (mlB L K (uF K.length i) c)) (uF K.length 0)
def zpB (n:Nat)(x:List Nat)(z:Int):List Nat:=pw n x (z%(Vn n x:Nat)).toNat
def rtB (n:Nat)(L:LN)(K:List Nat)(z:Int)(i:Nat):Nat:=((List.range L.length).filter λa=>decide (zpB n (L.getD a []) z=L.getD (K.getD i 0) [])).length
section
variable {n:Nat} {G:List Nat->Prop} {L:LN} {K:List Nat}
theorem Zq (E:fI G L)(a k:Nat):Wz G L K a k=quB L K a k:=Nw E _
theorem JL (E:fI G L)(i j k:Nat):zQ G L K i j k=WY L K i j k:=by
 unfold zQ Gf WY;congr 2;funext a;rw[Nw E,Zq E]
theorem TO (E:fI G L)(x y:List Int)(k:Nat):Qh G L K x y k=mlB L K x y k:=by
 unfold Qh mlB;exact pP λa _=>by rw[Nw E,Zq E]
theorem KQ (E:fI G L)(l:List Nat):Bw G L K l=YM L K l:=by
 unfold Bw YM;congr 1;funext c i;exact List.map_congr_left λk _=>TO E _ _ k
theorem TU (hG:sW n G)(E:fI G L)(hn:n<=7)(z:Int)(i:Nat):PI n L K z i=rtB n L K z i:=by
 unfold PI NC rtB;congr 1;refine List.filter_congr λa ha=>?_
 unfold zp zpB;rw[Xl hG E hn (Hm.1 ha)]
end
def T3:LN:= [[1,2,0], [1,0,2]]
theorem Kh:fI (fC 3 (· ∈T3)) L3:=HM.aaS (ws:= [[], [0,1], [1], [0], [0,0], [1,0]]) (by decide+kernel)
theorem XQ: ∀g∈T3,bE 3 g:=λg hg=>Qy ((show ∀g∈T3,My 3 g=true by decide+kernel) g hg)
theorem Yw {G:List Nat->Prop}{L:LN}(E:fI G L){A:LN}(nd:A.Nodup)(h: ∀x∈A,G x):A.length<=L.length:=List.Nodup.length_le_of_subset nd λx hx=>(E.mem x).2 (h x hx)
theorem Sq (h:H):Ev T 34 [] h (λv h'=> ∃O R,GC (λid=>id<h.next) h' v 3 O R (fC 3 (· ∈T3))/\Fr h h'):=by
 refine bL uK rfl rfl ?_;obtain⟨B,hB⟩:=exI h.next;obtain⟨h1,e1,n1,g1,o1,f1⟩:=iL hB [aB 0,.aC,.aC];obtain⟨h2,e2,n2,s2,f2⟩:=VY n1 [1,2,0];obtain⟨h3,e3,n3,s3,f3⟩:=VY n2 [1,0,2];obtain⟨h4,e4,n4,g4,o4,f4⟩:=iL n3 [.sl (B+1) 0 3 (.kn 3),.sl (B+1+1) 0 3 (.kn 3)];have F14:=(f2.trans f3).trans f4;have sp4:SP h4 (.sl (B+1+1+1) 0 2 (.kn 2)) T3:=SP.two (a:= [1,2,0]) (b:= [1,0,2]) (h:=h3) (s2.mono f3) s3 (by omega) f4 g4 _;simp(disch:=omega)only[go_sem,uK,aE,hB,e1,n1,Vz,e2,n2,e3,n3,KX _ (yI ..) (yI ..),e4];refine (Dr 10 3 _ T3 h4 (by omega) (by omega) XQ (by decide) (λA nd hA=>Nat.le_trans (Yw Kh nd hA) (by decide)) sp4).mono ?_;rintro vA h5 ⟨A,EA,lA,sA,f5⟩;simp(disch:=omega)only[go_sem];refine (Ai vA 3 _ A h5 (by omega) (by omega) (fC.nH XQ) EA (by omega) sA).mono ?_;rintro vc h6 ⟨O,R,cw,isc,f6⟩
 have gc:GC (λid=>id<h5.next) h6 vc 3 O R (fC 3 (· ∈T3)):=⟨cw,isc,fC.nH XQ,by omega,by omega⟩
 obtain⟨u,w,rfl,a,b,_,_⟩:=gc.sl;have F16:=(F14.trans f5).trans f6;have n5:=(F14.trans f5).next
 have n6:=f6.next;have g6:h6.get B=some (.cells false [aB 0,.aC,.aC]):=by rw[F16.get B (by omega)];exact g1
 obtain⟨h7,e7,n7,g7,o7⟩:=Fj h6 B [aB (3:Nat),u,w];simp(disch:=omega)only[go_sem,nV h6 B 0 (v:= aB (3:Nat)) (u:=u) (w:=w) rfl a b,g6,jV,e7,bW g7];exact⟨O,R,gc.go (⟨by omega,λid h1 h2=>o7 id (by show id≠B;have: ¬id<h5.next:=h2;omega)⟩:Fx (λid=>id<h5.next) h6 h7) (λid h1 h2=>by show id<h5.next;omega),⟨by omega,λq hq=>by rw[o7 q (by omega),F16.get q (by omega),o1 q (by omega)]⟩⟩
theorem UW (h:H):Ev T 35 [] h (λv h'=> ∃O R,GC (λid=>id<h.next) h' v 4 O R (fC 4 (· ∈C4))/\Fr h h'):=by
 refine bL wW rfl rfl ?_;obtain⟨B,hB⟩:=exI h.next;obtain⟨h1,e1,n1,g1,o1,f1⟩:=iL hB [aB 0,.aC,.aC];obtain⟨h2,e2,n2,s2,f2⟩:=VY n1 [1,2,3,0];obtain⟨h4,e4,n4,g4,o4,f4⟩:=iL n2 [.sl (B+1) 0 4 (.kn 4)];have F14:=f2.trans f4;have sp4:SP h4 (.sl (B+1+1) 0 1 (.kn 1)) C4:=SP.abN (a:= [1,2,3,0]) (h:=h2) s2 (by omega) f4 g4 _;simp(disch:=omega)only[go_sem,wW,aE,hB,e1,n1,JQ,e2,n2,dP _ (z:= .aC) (v:= .sl (B+1) 0 4 (.kn 4)) rfl rfl,e4];refine (Dr 10 4 _ C4 h4 (by omega) (by omega) XE (by decide) (λA nd hA=>Nat.le_trans (Yw Zj nd hA) (by decide)) sp4).mono ?_;rintro vA h5 ⟨A,EA,lA,sA,f5⟩;simp(disch:=omega)only[go_sem];refine (Ai vA 4 _ A h5 (by omega) (by omega) (fC.nH XE) EA (by omega) sA).mono ?_;rintro vc h6 ⟨O,R,cw,isc,f6⟩
 have gc:GC (λid=>id<h5.next) h6 vc 4 O R (fC 4 (· ∈C4)):=⟨cw,isc,fC.nH XE,by omega,by omega⟩
 obtain⟨u,w,rfl,a,b,_,_⟩:=gc.sl;have F16:=(F14.trans f5).trans f6;have n5:=(F14.trans f5).next
 have n6:=f6.next;have g6:h6.get B=some (.cells false [aB 0,.aC,.aC]):=by rw[F16.get B (by omega)];exact g1
 obtain⟨h7,e7,n7,g7,o7⟩:=Fj h6 B [aB (4:Nat),u,w];simp(disch:=omega)only[go_sem,nV h6 B 0 (v:= aB (4:Nat)) (u:=u) (w:=w) rfl a b,g6,jV,e7,bW g7];exact⟨O,R,gc.go (⟨by omega,λid h1 h2=>o7 id (by show id≠B;have: ¬id<h5.next:=h2;omega)⟩:Fx (λid=>id<h5.next) h6 h7) (λid h1 h2=>by show id<h5.next;omega),⟨by omega,λq hq=>by rw[o7 q (by omega),F16.get q (by omega),o1 q (by omega)]⟩⟩
theorem NX (vl:V)(l:List Int)(h:H)(hv:SI h vl l)(hl:l.length<9223372036854775808):
  Ev T 26 [vl] h (λv h'=> ∃(n:Nat) (S:LN) (O:LN) (R:oV),1<=n/\n<=5/\(∀g∈S,bE n g)/\GC (λid=>id<h.next) h' v n O R (fC n (· ∈S))/\Fr h h'):=by
 refine bL tM rfl rfl ?_
 obtain⟨B,hB⟩:=exI h.next
 obtain⟨h1,e1,n1,g1,o1,f1⟩:=iL hB [aB 0,.aC,.aC]
 simp(disch:=omega)only[go_sem,tM,aE,hB,e1]
 refine (Vg vl l 5 h1 (hv.mono f1) hl (by omega) (by omega)).mono ?_
 rintro _ h2 ⟨n,vg,S,rfl,hn1,hn5,hg3,gP,sg,f2⟩
 obtain⟨Q,hQ⟩:=exI h2.next
 obtain⟨h3,e3,n3,g3,o3,f3⟩:=iL hQ [aB 0,.aC]
 obtain⟨h4,e4,n4,g4,o4⟩:=Fj h3 Q [aB n,vg]
 have wg:vg.one=true/\eM vg vg=true:=by obtain⟨ws,s,_⟩:=sg;exact⟨s.dU.2.1,s.eM⟩
 have f24:Fr h2 h4:=⟨by omega,λq hq=>by rw[o4 q (by omega),o3 q (by omega)]⟩
 have n2:=f2.next
 have cg: ∀hh,Fr h4 hh->hh.get Q=some (.cells false [aB n,vg]):=λhh f=>by rw[f.get Q (by omega)];exact g4
 simp(disch:=omega)only[go_sem,hQ,e3,Cx h3 Q 0 (v:= aB n) (u:=vg) rfl wg.1,g3,yH,e4,H.aF g4]
 have fb:=(Fr.refl h4).bM (n:=h4.next+9) (by omega)
 refine (Dr 200 n vg S _ hn1 hn5 gP (by omega) (λA nd hA=>Nat.le_trans (rM hn5 nd λx hx=>(hA x hx).dV gP) (by decide)) (sg.mono (f24.trans fb))).mono ?_
 rintro vA h5 ⟨A,EA,lA,sA,f5⟩
 have F45:=fb.trans f5
 simp(disch:=omega)only[go_sem,H.aF (cg h5 F45)]
 refine (Ai vA n _ A h5 (by omega) (by omega) (fC.nH gP) EA (by omega) sA).mono ?_
 rintro vc h6 ⟨O,R,cw,isc,f6⟩
 have gc:GC (λid=>id<h5.next) h6 vc n O R (fC n (· ∈S)):=⟨cw,isc,fC.nH gP,by omega,by omega⟩
 obtain⟨u,w,rfl,a,b,_,_⟩:=gc.sl
 have F16:=((f2.trans f24).trans F45).trans f6
 have n5:=((f2.trans f24).trans F45).next
 have n6:=f6.next
 have g6:h6.get B=some (.cells false [aB 0,.aC,.aC]):=by rw[F16.get B (by omega)];exact g1
 obtain⟨h7,e7,n7,g7,o7⟩:=Fj h6 B [aB n,u,w]
 simp(disch:=omega)only[go_sem,H.aF (cg h6 (F45.trans f6)),nV h6 B 0 (v:= aB n) (u:=u) (w:=w) rfl a b,g6,jV,e7,bW g7]
 exact⟨n,S,O,R,hn1,hn5,gP,gc.go (⟨by omega,λid h1 h2=>o7 id (by show id≠B;have: ¬id<h5.next:=h2;omega)⟩:Fx (λid=>id<h5.next) h6 h7) (λid h1 h2=>by show id<h5.next;omega),⟨by omega,λq hq=>by rw[o7 q (by omega),F16.get q (by omega),o1 q (by omega)]⟩⟩
set_option maxHeartbeats 16000000
theorem aaM (v w:V)(a b:List Int)(h:H)(sa:SI h v a)(sb:SI h w b)(la:a.length<1000000)(lb:b.length<1000000):
  Ev T 36 [v,aB 0,w] h (λv h'=>v= .bool (decide (a=b))/\Fr h h'):=by
 refine bL Ae rfl rfl ?_
 simp(disch:=omega)only[go_sem,Ae,aE,decide_true]
 refine (wY v w a b h sa sb la lb).mono ?_
 rintro _ h1 ⟨rfl,f1⟩
 simp(disch:=omega)only[go_sem]
 exact f1
theorem XO (h:H){v u w:V}(hv:v.cells= [v]/\v.one=true)(hu:u.cells= [u]/\u.one=true)(hw:w.cells= [w]/\w.one=true):tN h 1 [.aC] 3 [(0,1,v),(1,1,u),(2,1,w)]=some (.sl h.next 0 3 (.kn 3),h.new (.cells false [v,u,w])):=by
 have e:dS [V.aC] 3= [.aC,.aC,.aC]:=rfl;simp [tN,jK,e,putAt,hv.1,hv.2,hu.1,hu.2,hw.1,hw.2]
theorem RJ:(List.range 3).map (λj=>zi ((List.range 3).map (WY L3 [0,1,3] 1 j)))= [[0,1,0], [3,0,3], [0,2,0]]:=by decide+kernel
theorem RF:(YM L3 [0,1,3] [1,1,2]).getD 0 0=6:=by decide+kernel
theorem YN:zi ((List.range 4).map (rtB 4 L4 [0,2,1,3] 2))= [2,2,0,0]:=by decide+kernel
theorem HP (h:H):Ev T 10 [] h (λv h'=>v= .bool true/\Fr h h'):=by
 refine bL tX rfl rfl ?_;simp(disch:=omega)only[go_sem,tX,aE];refine (Sq h).mono ?_;rintro vc h1 ⟨O,R,gc,f1⟩;simp(disch:=omega)only[go_sem];refine (GH vc 1 3 O R _ h1 gc L3 (gc.el Kh)).mono ?_;rintro w1 h2 ⟨K,ik,f2,hv⟩;obtain rfl:K= [0,1,3]:=JB.eq gc.nH Kh (by omega) VU ik
 obtain⟨vl,rfl,sl⟩: ∃vl,w1=V.tup [vl,aB 0]/\SR h2 vl (SQ (fC 3 (· ∈T3)) L3 [0,1,3] 1):=by
  rcases hv with ⟨h1,_⟩|⟨_,⟨h1,_⟩|⟨i,vl,e,_,rfl,s⟩⟩
  ·simp at h1
  ·simp at h1
  ·obtain rfl:i=1:=by omega
   exact⟨vl,rfl,s⟩
 clear hv
 have ec:SQ (fC 3 (· ∈T3)) L3 [0,1,3] 1= [[0,1,0], [3,0,3], [0,2,0]]:=by
  rw[←RJ];unfold SQ;exact List.map_congr_left λj _=>by congr 1;exact List.map_congr_left λk _=>JL Kh _ _ _
 rw[ec] at sl;simp(disch:=omega)only[go_sem];refine (Sq h2).mono ?_;rintro vc2 h3 ⟨O2,R2,gc2,f3⟩;obtain⟨h4,e4,n4,s4,f4⟩:=VY (h:=h3) rfl [1,1,2];simp(disch:=omega)only[go_sem,Vz,e4];refine (WN vc2 _ [1,1,2] 3 O2 R2 _ h4 (by decide) s4 (gc2.mono f4) L3 (gc2.el Kh)).mono ?_;rintro w2 h5 ⟨K,ik2,f5,hv⟩;obtain rfl:K= [0,1,3]:=JB.eq gc2.nH Kh (by omega) VU ik2
 obtain rfl:w2=V.tup [aB 6,aB 0]:=by
  rcases hv with ⟨h1,_⟩|⟨_,⟨h1,_⟩|⟨_,⟨⟨x,hx,h1⟩,_⟩|⟨l',e,_,rfl⟩⟩⟩
  ·simp at h1
  ·simp at h1
  ·simp only[List.length_cons,List.length_nil] at h1
   simp only[List.mem_cons,List.not_mem_nil,or_false] at hx;omega
  ·have el:l'= [1,1,2]:=LU (e.symm.trans (by decide))
   rw[el,KQ Kh,RF]
 clear hv;simp(disch:=omega)only[go_sem];refine (UW h5).mono ?_;rintro vc3 h6 ⟨O3,R3,gc3,f6⟩;simp(disch:=omega)only[go_sem];refine (KL vc3 2 4 O3 R3 _ h6 (by omega) gc3 L4 (gc3.el Zj)).mono ?_;rintro w3 h7 ⟨K,ik3,f7,hv⟩;obtain rfl:K= [0,2,1,3]:=JB.eq gc3.nH Zj (by omega) aaT ik3
 obtain⟨vr,rfl,sr⟩: ∃vl,w3=V.tup [vl,aB 0]/\SI h7 vl [2,2,0,0]:=by
  rcases hv with ⟨h1,_⟩|⟨_,vl,rfl,s⟩
  ·simp at h1
  ·refine⟨vl,rfl,?_⟩
   have e:zi ((List.range [0,2,1,3].length).map (PI 4 L4 [0,2,1,3] 2))= [2,2,0,0]:=by
    rw[←YN];congr 1;exact List.map_congr_left λi _=>TU gc3.nH Zj (by omega) _ _
   rw[e] at s;exact s
 clear hv;obtain⟨ha,ea,na,sa,fa⟩:=VY (h:=h7) rfl [0,1,0];obtain⟨hb,eb,nb,sb,fb⟩:=VY na [3,0,3];obtain⟨hc,ec',nc,sc,fc⟩:=VY nb [0,2,0];have F17:=(((((f1.trans f2).trans f3).trans f4).trans f5).trans f6).trans f7;simp(disch:=omega)only[go_sem,decide_true,Vz,ea,na,eb,nb,ec'];obtain⟨A,hA⟩:=exI h7.next;rw[hA] at na nb nc sa sb sc ⊢;obtain⟨hd,ed,nd,gd,od,fd⟩:=iL nc [.sl A 0 3 (.kn 3),.sl (A+1) 0 3 (.kn 3),.sl (A+1+1) 0 3 (.kn 3)];have f7d:=((fa.trans fb).trans fc).trans fd
 have sw:SR hd (.sl (A+1+1+1) 0 3 (.kn 3)) [[0,1,0], [3,0,3], [0,2,0]]:=⟨_,SV.all (by rfl) (by omega) gd _,sa.mono ((fb.trans fc).trans fd),sb.mono (fc.trans fd),sc.mono fd,trivial⟩
 simp(disch:=omega)only[go_sem,XO _ (yI ..) (yI ..) (yI ..),nc,ed];refine (Qk vl _ _ _ hd (sl.mono ((((f3.trans f4).trans f5).trans f6).trans (f7.trans f7d))) sw (by decide) (by decide) (by decide) (by decide)).mono ?_;rintro _ h8 ⟨rfl,f8⟩;rw[decide_eq_true rfl];obtain⟨he,ee,ne,se,fe⟩:=VY (h:=h8) rfl [2,2,0,0];simp(disch:=omega)only[go_sem,decide_true,JQ,ee];refine (aaM vr _ _ _ he (sr.mono ((f7d.trans f8).trans fe)) se (by decide) (by decide)).mono ?_;rintro _ h9 ⟨rfl,f9⟩;rw[decide_eq_true rfl];simp(disch:=omega)only[go_sem];exact (((F17.trans f7d).trans f8).trans fe).trans f9
def gs:LN->(List Nat->Int)->Int
 | [],_=>0
 |x::l,f=>f x+gs l f
theorem nK {f g:List Nat->Int}: ∀{l:LN},(∀x∈l,f x=g x)->gs l f=gs l g
 | [],_=>rfl
 |x::l,h=>by
  rw[gs,gs,h x (by simp),nK λy hy=>h y (by simp [hy])]
theorem TZ {f:List Nat->Int}{l m:LN}(p:l.Perm m):gs l f=gs m f:=by
 induction p with
 |nil=>rfl
 |cons x _ ih=>rw[gs,gs,ih]
 |swap x y l=>rw[gs,gs,gs,gs];omega
 |trans _ _ h1 h2=>rw[h1,h2]
theorem IC (φ:List Nat->List Nat)(f:List Nat->Int): ∀l,gs (l.map φ) f=gs l λx=>f (φ x)
 | []=>rfl
 |x::l=>by rw[List.map_cons,gs,gs,IC φ f l]
theorem Xj (f g:List Nat->Int): ∀l,gs l (λx=>f x+g x)=gs l f+gs l g
 | []=>rfl
 |x::l=>by rw[gs,gs,gs,Xj f g l];omega
theorem Vc (c:Int)(f:List Nat->Int): ∀l,gs l (λx=>c*f x)=c*gs l f
 | []=>by rw[gs,gs,Int.mul_zero]
 |x::l=>by rw[gs,gs,Vc c f l,Int.mul_add]
theorem Wg: ∀l,gs l (λ_=>0)=0
 | []=>rfl
 |x::l=>by rw[gs,Wg l];rfl
theorem Zh (f:List Nat->List Nat->Int)(m:LN): ∀l,gs l (λx=>gs m λy=>f x y)=gs m λy=>gs l λx=>f x y
 | []=>(Wg m).symm
 |x::l=>by rw[gs,Zh f m l,←Xj];rfl
theorem aaO (f:List Nat->Int)(l:LN):sm l.length (λa=>f (l.getD a []))=gs l f:=by
 induction l with
 |nil=>rfl
 |cons x l ih=>
  rw[List.length_cons,OC,gs,←ih]
  rfl
theorem aaA (x:List Nat)(c:Int){l:LN}(nd:l.Nodup)(hx:x∈l):gs l (λy=>if y=x then c else 0)=c:=by
 induction l with
 |nil=>cases hx
 |cons y l ih=>
  rw[List.nodup_cons] at nd;rw[gs]
  by_cases e:y=x
  ·subst e
   rw[if_pos rfl,nK (g:=λ_=>0) λz hz=>by rw[if_neg (λe=>nd.1 (by rw[←e];exact hz))],Wg];omega
  ·rw[if_neg e,ih nd.2 (by rcases List.mem_cons.1 hx with h|h;exact absurd h.symm e;exact h)];omega
theorem Ys {α:Type}[DecidableEq α]: ∀{l m:List α},l.Nodup->m.Nodup->(∀x,x∈l↔x∈m)->l.Perm m
 | [], [],_,_,_=> .nil
 | [],y::m,_,_,h=>by have:=(h y).2 (by simp);simp at this
 |x::l,m,h1,h2,h=>by
  have hx:x∈m:=(h x).1 (by simp);rw[List.nodup_cons] at h1;refine (List.Perm.cons x (Ys h1.2 (h2.erase x) λy=>?_)).trans (List.perm_cons_erase hx).symm;rw[h2.mem_erase_iff,←h y,List.mem_cons];constructor
  ·exact λhy=>⟨λe=>h1.1 (by rw[←e];exact hy),.inr hy⟩
  ·rintro⟨hne,rfl|hy⟩
   ·exact absurd rfl hne
   ·exact hy
theorem RC {l:LN}(nd:l.Nodup){φ:List Nat->List Nat}(nd2:(l.map φ).Nodup)(sub: ∀x∈l,φ x∈l){y:List Nat}(hy:y∈l):y∈l.map φ:=by
 refine Lf λhn=>?_
 have h1:(y::l.map φ).Nodup:=List.nodup_cons.2 ⟨hn,nd2⟩
 have h2:=List.Nodup.length_le_of_subset h1 (l₂:=l) λz hz=>by
  rcases List.mem_cons.1 hz with rfl|hz
  ·exact hy
  ·obtain⟨w,hw,rfl⟩:=vT.1 hz
   exact sub w hw
 rw[List.length_cons,rF] at h2;omega
section
variable {n:Nat} {G:List Nat->Prop} {L:LN} {K:List Nat}
theorem NF (E:fI G L)(φ:List Nat->List Nat)(h1: ∀x,G x->G (φ x))(h2: ∀x y,G x->G y->φ x=φ y->x=y):(L.map φ).Perm L:=by
 have nd:(L.map φ).Nodup:=by
  rw[List.nodup_iff_pairwise_ne,List.pairwise_map];exact (List.nodup_iff_pairwise_ne.1 E.nodup).imp_of_mem λha hb hne e=>hne (h2 _ _ ((E.mem _).1 ha) ((E.mem _).1 hb) e)
 refine Ys nd E.nodup λy=>⟨λhy=>?_,λhy=>RC E.nodup nd (λx hx=>(E.mem _).2 (h1 x ((E.mem x).1 hx))) hy⟩
 obtain⟨x,hx,rfl⟩:=vT.1 hy;exact (E.mem _).2 (h1 x ((E.mem x).1 hx))
theorem Va (E:fI G L)(f:List Nat->Int)(φ:List Nat->List Nat)(h1: ∀x,G x->G (φ x))(h2: ∀x y,G x->G y->φ x=φ y->x=y):gs L (λx=>f (φ x))=gs L f:=by
 rw[←IC,TZ (NF E φ h1 h2)]
noncomputable def Yn (G:List Nat->Prop)(L:LN)(K:List Nat)(x:List Nat):Nat:=iD G L K (L.idxOf x)
theorem YK (E:fI G L){a:Nat}(ha:a<L.length):L.idxOf (L.getD a [])=a:=by
 rw[List.getD_eq_getElem?_getD,gW ha];exact E.nodup.idxOf_getElem _ _
theorem HI (E:fI G L){a:Nat}(ha:a<L.length):Yn G L K (L.getD a [])=iD G L K a:=by unfold Yn;rw[YK E ha]
end
theorem CU {n:Nat}{x c:List Nat}(X:bE n x)(C:bE n c):iC (cM x) c=cM (iC x c):=by
 unfold iC;rw[yT (C.inv.mul X) C,yT C.inv X,xU C,←aV C.inv X.inv C]
section
variable {n:Nat} {G:List Nat->Prop} {L:LN} {K:List Nat} (hG:sW n G) (E:fI G L) (ik:Bi n G L K)
include hG E ik
theorem IM {x:List Nat}(hx:G x):Yn G L K x<K.length:=(wF hG E ik (Eo E hx).1).1
theorem KJ {k:Nat}(hk:k<K.length):Yn G L K (L.getD (K.getD k 0) [])=k:=by
 have h:=ik.lt (bD (d:=0) hk);rw[HI E h];exact (Jt hG E ik.perm hk h).2 (Gx hG E h)
theorem Yu {x y:List Nat}(hx:G x)(hy:G y):Yn G L K x=Yn G L K y↔cj G x y:=by
 obtain⟨i1,e1⟩:=Eo E hx;obtain⟨i2,e2⟩:=Eo E hy;have h1:=wF hG E ik i1;have h2:=wF hG E ik i2;unfold Yn;constructor
 ·intro e
  rw[←e] at h2;have:=pZ hG E i1 (By hG E (ik.lt (bD (d:=0) h1.1)) h1.2) h2.2;unfold cR at this;rwa [e1,e2] at this
 ·intro c
  refine DS hG E ik i1 i2 ?_;unfold cR;rw[e1,e2];exact c
theorem Nv {x c:List Nat}(hx:G x)(hc:G c):Yn G L K (iC x c)=Yn G L K x:=
 ((Yu hG E ik hx (KD hG hx ⟨c,hc,rfl⟩)).2 ⟨c,hc,rfl⟩).symm
end
theorem RH {r i k:Nat}(hk:k<r):(uF r i).getD k 0=if k=i then 1 else 0:=by
 unfold uF;rw[List.getD_eq_getElem?_getD,List.getElem?_map,List.getElem?_range hk];rfl
section
variable {n:Nat} {G:List Nat->Prop} {L:LN} {K:List Nat} (hG:sW n G) (E:fI G L) (ik:Bi n G L K)
include E in
theorem VX (x y:List Int)(k:Nat):Qh G L K x y k=gs L λw=>x.getD (Yn G L K w) 0*y.getD (Yn G L K (aT (cM w) (L.getD (K.getD k 0) []))) 0:=by
 unfold Qh;rw[←aaO];exact pP λa ha=>by rw[HI E ha];rfl
include hG E ik
theorem XI {y:List Nat}(hy:G y):Yn G L K y=0↔y=bH n:=FM hG E ik hy
end
set_option maxRecDepth 100000
noncomputable def fK (G:List Nat->Prop)(L:LN)(K:List Nat)(x:List Int)(w:List Nat):Int:=x.getD (Yn G L K w) 0
noncomputable def Md (G:List Nat->Prop)(L:LN)(K:List Nat)(x y:List Int):List Int:=(List.range K.length).map (Qh G L K x y)
theorem pF {G:List Nat->Prop}{L:LN}{K:List Nat}(x y:List Int):(Md G L K x y).length=K.length:=by unfold Md;simp
theorem Cv {r k:Nat}(f:Nat->Int)(hk:k<r):((List.range r).map f).getD k 0=f k:=by
 rw[List.getD_eq_getElem?_getD,List.getElem?_map,List.getElem?_range hk];rfl
section
variable {n:Nat} {G:List Nat->Prop} {L:LN} {K:List Nat} (hG:sW n G) (E:fI G L) (ik:Bi n G L K)
include hG E ik
theorem VW (x y:List Int){z:List Nat}(hz:G z):fK G L K (Md G L K x y) z=gs L λw=>fK G L K x w*fK G L K y (aT (cM w) z):=by
 have hk:=IM hG E ik hz;have hr:=Ak E (ik.lt (bD (d:=0) hk));obtain⟨c,hc,e⟩:=(Yu hG E ik hr hz).1 (KJ hG E ik hk);show (Md G L K x y).getD (Yn G L K z) 0=_;generalize Yn G L K z=k at*;unfold Md;rw[Cv _ hk,VX E];have C:=hG.dV hc
 rw[←e,←Va E (λw=>fK G L K x w*fK G L K y (aT (cM w) (iC (L.getD (K.getD k 0) []) c))) (λx=>iC x c) (λx hx=>KD hG hx ⟨c,hc,rfl⟩) λx y hx hy e=>by
  have:=congrArg (λw=>iC w (cM c)) e
  simpa only[zK (hG.dV hx) C,zK (hG.dV hy) C] using this]
 refine nK λw hw=>?_
 have hw':=(E.mem w).1 hw;have W:=hG.dV hw';unfold fK;rw[Nv hG E ik hw' hc,←CU W C,←Wq W.inv (hG.dV hr) C,Nv hG E ik (hG.mul (hG.inv hw') hr) hc]
omit hG ik in
theorem yO (x y:List Int)(k:Nat):Qh G L K x y k=gs L λw=>fK G L K x w*fK G L K y (aT (cM w) (L.getD (K.getD k 0) [])):=VX E x y k
omit hG in
theorem Hb {k:Nat}(hk:k<K.length):G (L.getD (K.getD k 0) []):=Ak E (ik.lt (bD (d:=0) hk))
theorem RA (x y:List Int):Md G L K x y=Md G L K y x:=by
 refine List.map_congr_left λk hk=>?_
 have hz:=Hb E ik (Hm.1 hk);rw[yO E,yO E];generalize L.getD (K.getD k 0) []=z at hz;have Z:=hG.dV hz
 rw[←Va E (λw=>fK G L K y w*fK G L K x (aT (cM w) z)) (λw=>aT (cM w) z) (λw hw=>hG.mul (hG.inv hw) hz) λa b ha hb e=>by
  have A:=hG.dV ha;have B:=hG.dV hb
  rw[←xU A,←xU B,Ca A.inv B.inv Z e]]
 refine nK λw hw=>?_
 have hw':=(E.mem w).1 hw;have W:=hG.dV hw';show _=fK G L K y (aT (cM w) z)*fK G L K x (aT (cM (aT (cM w) z)) z);rw[yT W.inv Z,xU W,Int.mul_comm];congr 1;unfold fK;rw[show aT (aT (cM z) w) z=iC w z from rfl,Nv hG E ik hw' hz]
theorem OG (x y t:List Int):Md G L K (Md G L K x y) t=Md G L K x (Md G L K y t):=by
 refine List.map_congr_left λk hk=>?_
 have hz:=Hb E ik (Hm.1 hk);rw[yO E,yO E];generalize L.getD (K.getD k 0) []=z at hz;have Z:=hG.dV hz
 rw[nK (g:=λw=>gs L λv=>fK G L K t (aT (cM w) z)*(fK G L K x v*fK G L K y (aT (cM v) w))) λw hw=>by
  rw[VW hG E ik x y ((E.mem w).1 hw),Int.mul_comm,←Vc],Zh]
 refine nK λv hv=>?_
 have hv':=(E.mem v).1 hv;have V:=hG.dV hv';rw[VW hG E ik y t (hG.mul (hG.inv hv') hz),←Vc,←Va E (λu=>fK G L K x v*(fK G L K y u*fK G L K t (aT (cM u) (aT (cM v) z)))) (λw=>aT (cM v) w) (λw hw=>hG.mul (hG.inv hv') hw) λa b ha hb e=>tG (hG.dV ha) (hG.dV hb) V.inv e];refine nK λw hw=>?_
 have W:=hG.dV ((E.mem w).1 hw);show _=fK G L K x v*(fK G L K y (aT (cM v) w)*fK G L K t (aT (cM (aT (cM v) w)) (aT (cM v) z)));rw[yT V.inv W,xU V,aV W.inv V (V.inv.mul Z),←aV V V.inv Z,gK V,fA Z,Int.mul_comm,Int.mul_assoc]
theorem QF (x y t:List Int):Md G L K x ((List.range K.length).map λi=>y.getD i 0+t.getD i 0)=(List.range K.length).map λi=>Qh G L K x y i+Qh G L K x t i:=by
 refine List.map_congr_left λk hk=>?_
 have hz:=Hb E ik (Hm.1 hk);rw[yO E,yO E,yO E,←Xj];refine nK λw hw=>?_
 have hw':=(E.mem w).1 hw;have:=IM hG E ik (hG.mul (hG.inv hw') hz);unfold fK;rw[Cv _ this,Int.mul_add]
theorem TE {x:List Int}(hx:x.length=K.length):Md G L K (uF K.length 0) x=x:=by
 refine List.ext_getElem (by rw[pF,hx]) λk h1 h2=>?_
 rw[pF] at h1;have hz:=Hb E ik h1
 have e1:(Md G L K (uF K.length 0) x).getD k 0=x.getD k 0:=by
  unfold Md;rw[Cv _ h1,yO E,nK (g:=λw=>if w=bH n then x.getD k 0 else 0) λw hw=>?_,aaA _ _ E.nodup ((E.mem _).2 hG.one)];have hw':=(E.mem w).1 hw;have c0:=XI hG E ik hw';unfold fK;rw[RH (IM hG E ik hw')]
  by_cases e:w=bH n
  ·rw[if_pos (c0.2 e),if_pos e,Int.one_mul,e,vF,fA (hG.dV hz),KJ hG E ik h1]
  ·rw[if_neg (λh=>e (c0.1 h)),if_neg e,Int.zero_mul]
 rwa [List.getD_eq_getElem?_getD,List.getD_eq_getElem?_getD,gW (by rw[pF];exact h1),gW h2] at e1
end
end Go.Proofs.YtapfcpkecmmagaaGreat
namespace Go.Proofs.YtapfcpkecmmagaaGreat
open Go Go.Ay
set_option maxRecDepth 100000
theorem Lk (ρ:X->V)(h:H)(x:X)(hx:ρ x= .aC):cJ ρ h (.caps x)=some (aB 0,h):=by
 simp only[cJ,hx]
theorem VN (n:Nat)(h:H)(hn0:0<n)(hn:n<1000000):Ev T 95 [.aC,aB n] h (λv h'=>dQ h' v 1 (ints []) h.next/\Fr h h'):=by
 refine bL kH rfl rfl ?_;simp(disch:=omega)only[go_sem,kH,aE];rw[decide_eq_false (show ¬((n:Int)<0) by omega)];simp(disch:=omega)only[go_sem];rw[Lk _ _ _ rfl];simp(disch:=omega)only[go_sem];rw[decide_eq_true (show 0<(n:Int)-(0- 0) by omega)];simp(disch:=omega)only[go_sem];rw[Lk _ _ _ rfl];have ea:=JN (h:=h) (sz:=1) (bytes:=8) (zero:= [aB 0]) (x:= .aC) (n:=(n:Int)-(0- 0)) (by omega) (by omega) (by omega) rfl;obtain⟨v,h',e,a⟩:=(dQ.aC h 1 h.next).uA (bytes:=8) (iI _) (n:=0) (m:=n) (us:=ints (List.replicate n 0)) rfl (by rw[aI,List.length_replicate,Nat.mul_one]) (by omega) (by omega);rw[show ((n:Int)-(0- 0)).toNat=n by omega,Nat.mul_one,zB,e] at ea;simp(disch:=omega)only[go_sem,HW,ea];rcases a.dU with ⟨h1,_⟩|⟨id,rfl,h2,h3,h4⟩
 ·omega
 have es:rU 1 (.sl id 0 n (.un 1)) none (some (aB 0)) none=some (.sl id 0 0 (.un 1)):=IL (by omega) (by omega);simp(disch:=omega)only[go_sem,es];exact⟨.inr ⟨id,0,.un 1,_,rfl,rfl,.inl rfl,h2,h3,by rw[h4];rfl⟩,a.fr h (Fr.refl h) (iI _)⟩
theorem CA (id:Nat)(ua ub:V)(a b:List Int)(h:H)(hg:h.get id=bY [ua,ub])(hid:id<h.next)(ha:SI h ua a)(hb:SI h ub b)(h0:0<a.length+b.length)(la:a.length<10000)(lb:b.length<10000):
  Ev T 58 [.sl id 0 2 (.kn 2)] h (λv h'=>dQ h' v 1 (ints (a++b)) h.next/\Fr h h'):=by
 refine bL jQ rfl rfl ?_
 have lens2:dY (.sl id 0 2 (.kn 2))=some (aB 2):=rfl
 have c0:h.cell id 0=some ua:=by rw[H.aF hg];rfl
 have c1:h.cell id 1=some ub:=by rw[H.aF hg];rfl
 have i0:Ku 1 (.sl id 0 2 (.kn 2)) (aB 0)=some (.ptr id 0):=by rw[wE (by omega) (by omega)];rfl
 have i1:Ku 1 (.sl id 0 2 (.kn 2)) (aB 1)=some (.ptr id 1):=by rw[wE (by omega) (by omega)];rfl
 simp(disch:=omega)only[go_sem,jQ,aE,lens2]
 refine jL ?_
 simp(disch:=omega)only[go_sem,i0,c0,ha.lens]
 rw[decide_eq_true (show (0:Int)<2 by omega)]
 simp(disch:=omega)only[go_sem,i0,c0,ha.lens]
 rw[decide_eq_false (show ¬(0+(a.length:Int))<0 by omega)]
 simp(disch:=omega)only[go_sem]
 rw[show (0:Int)+1=1 from rfl,Int.zero_add]
 refine jL ?_
 simp(disch:=omega)only[go_sem]
 rw[decide_eq_true (show (1:Int)<2 by omega)]
 simp(disch:=omega)only[go_sem,i1,c1,hb.lens]
 rw[decide_eq_false (show ¬((a.length:Int)+(b.length:Int))<0 by omega)]
 simp(disch:=omega)only[go_sem]
 rw[show (1:Int)+1=2 from rfl]
 refine jL ?_
 simp(disch:=omega)only[go_sem]
 rw[decide_eq_false (show ¬(2:Int)<2 by omega)]
 simp(disch:=omega)only[go_sem]
 rw[show (a.length:Int)+(b.length:Int)=((a.length+b.length:Nat):Int) by omega]
 refine (VN (a.length+b.length) h h0 (by omega)).mono ?_
 rintro v h1 ⟨o1,f1⟩
 have c0:h1.cell id 0=some ua:=by rw[f1.cell hid];exact c0
 obtain⟨v2,h2,e2,a2⟩:=o1.app (bytes:=8) (n:=0) (m:=a.length) f1.next (SV.mono ha f1) rfl (by rw[aI,Nat.mul_one]) (by omega) (by omega)
 have f2:=a2.fr h f1 (iI _)
 have c1:h2.cell id 1=some ub:=by rw[f2.cell hid];exact c1
 have o2:=a2.own
 rw[←lG] at o2
 obtain⟨v3,h3,e3,a3⟩:=o2.app (bytes:=8) (n:=a.length) (m:=b.length) f2.next (SV.mono hb f2) (by rw[aI,Nat.mul_one];simp) (by rw[aI,Nat.mul_one]) (by omega) (by omega)
 have f3:=a3.fr h f2 (iI _)
 simp(disch:=omega)only[go_sem,lens2]
 refine jL ?_
 simp(disch:=omega)only[go_sem]
 rw[decide_eq_true (show (0:Int)<2 by omega)]
 simp(disch:=omega)only[go_sem,i0,c0,e2]
 rw[show (0:Int)+1=1 from rfl]
 refine jL ?_
 simp(disch:=omega)only[go_sem]
 rw[decide_eq_true (show (1:Int)<2 by omega)]
 simp(disch:=omega)only[go_sem,i1,c1,e3]
 rw[show (1:Int)+1=2 from rfl]
 refine jL ?_
 simp(disch:=omega)only[go_sem]
 rw[decide_eq_false (show ¬(2:Int)<2 by omega)]
 simp(disch:=omega)only[go_sem]
 have o3:=a3.own
 rw[←lG] at o3
 exact⟨o3,f3⟩
end Go.Proofs.YtapfcpkecmmagaaGreat
namespace Go.Proofs.YtapfcpkecmmagaaGreat
open Go Go.Ay Go.Pm
set_option maxRecDepth 100000
def zV (x:Int):Bool:=decide (x< -10000∨10000<x)
theorem MB (x:Int)(h:H):Ev T 59 [aB x] h (λv h'=>v= .bool (zV x)/\Fr h h'):=by
 refine bL qH rfl rfl ?_;simp(disch:=omega)only[go_sem,qH,aE]
 by_cases h1:x< -10000
 ·have d1:decide (x< -10000)=true:=decide_eq_true h1
  have:zV x=true:=decide_eq_true (.inl h1);simp(disch:=omega)only[go_sem,d1,this];exact Fr.refl h
 ·have d1:decide (x< -10000)=false:=decide_eq_false h1
  have:zV x=decide (10000<x):=by unfold zV;exact decide_eq_decide.2 ⟨λh=>h.resolve_left h1,.inr⟩
  simp(disch:=omega)only[go_sem,d1,this];exact Fr.refl h
theorem AZ {W0:Nat->Prop}(vc vx vy:V)(x y:List Int)(n:Nat)(O:LN)(R:oV)(G:List Nat->Prop)(h:H)(lx:x.length<10000)(ly:y.length<10000)(sx:SI h vx x)(sy:SI h vy y)(gc:GC W0 h vc n O R G)(L:LN)(hL:cX O R n 0 (bH n)=L):
  Ev T 28 [vc,vx,vy] h (λv h'=> ∃K,Bi n G L K/\Fr h h'/\(64<K.length/\v= .tup [.aC,aB 5]∨K.length<=64/\(¬(x.length=K.length/\y.length=K.length)/\v= .tup [.aC,aB 10]∨x.length=K.length/\y.length=K.length/\((x++y).any zV=true/\v= .tup [.aC,aB 2]∨(x++y).any zV=false/\ ∃w,v= .tup [w,aB 0]/\SI h' w ((List.range K.length).map (Qh G L K x y)))))):=by
 have gc0:=gc
 obtain⟨vO,vR,rfl,sO,sR⟩:=gc.ch
 refine bL tV rfl rfl ?_
 have oneO:vO.one=true:=PE sO
 have oneR:vR.one=true:=PC sR
 have n7:=gc.n7
 have hG:=gc.nH
 obtain⟨Ee,lle⟩:=jN gc.nH gc.isc
 have ll5:=nI gc
 rw[hL] at Ee lle
 have lvx:=sx.lens
 have lvy:=sy.lens
 obtain⟨B,hB⟩:=exI h.next
 obtain⟨h1,e1,n1,g1,o1,f1⟩:=iL hB [aB n,vO,vR]
 have bx:=eZ h (v:= aB n) (u:=vO) (w:=vR) rfl oneO oneR
 simp(disch:=omega)only[go_sem,tV,aE,bx,hB,e1,bW g1]
 refine (Gt _ n O R G h1 (gc0.mono f1) L hL).mono ?_
 rintro _ h2 ⟨K,ik,f2,⟨k64,rfl⟩|⟨k64,D,rfl,dat⟩⟩
 ·simp(disch:=omega)only[go_sem]
  refine aX (λ_=>?_) (λhc=>(hc (by decide)).elim)
  simp(disch:=omega)only[go_sem]
  exact⟨K,ik,f1.trans f2,.inl ⟨k64,trivial⟩⟩
 simp(disch:=omega)only[go_sem]
 refine aX (λhc=>(hc rfl).elim) (λ_=>?_)
 have F2:=f1.trans f2
 have dat0:=dat
 obtain⟨vL,vC,Mn,ln,ks,gD,hD,hMn,sL,sC,al,gMn,kln,lkn⟩:=dat.ex
 obtain⟨k0,_⟩:=Ha hG Ee ik
 obtain⟨lvC,eC,idC,offC,shC,cC⟩:=nX (by omega) sC al
 clear shC cC
 by_cases ex:(x.length:Int)=(K.length:Int)
 case neg=>
  have d1:decide ((x.length:Int)≠(K.length:Int))=true:=decide_eq_true ex;simp(disch:=omega)only[go_sem,lvx,H.aF gD,lvC,d1];exact⟨K,ik,F2,.inr ⟨k64,.inl ⟨λe=>ex (by omega),trivial⟩⟩⟩
 have d1:decide ((x.length:Int)≠(K.length:Int))=false:=decide_eq_false (λe=>e ex)
 by_cases ey:(y.length:Int)=(K.length:Int)
 case neg=>
  have d2:decide ((y.length:Int)≠(K.length:Int))=true:=decide_eq_true ey;simp(disch:=omega)only[go_sem,lvx,lvy,H.aF gD,lvC,d1,d2];exact⟨K,ik,F2,.inr ⟨k64,.inl ⟨λe=>ey (by omega),trivial⟩⟩⟩
 have d2:decide ((y.length:Int)≠(K.length:Int))=false:=decide_eq_false (λe=>e ey)
 have wx:=sx.dU
 have wy:=sy.dU
 obtain⟨P,hP⟩:=exI h2.next
 obtain⟨h3,e3,n3,g3,o3,f3⟩:=iL hP [vx,vy]
 have bs:=KX h2 (v:=vx) (u:=vy) ⟨wx.1,wx.2.1⟩ ⟨wy.1,wy.2.1⟩
 rw[hP] at bs
 simp(disch:=omega)only[go_sem,lvx,lvy,H.aF gD,lvC,d1,d2,bs,e3]
 refine (CA P vx vy x y h3 g3 (by omega) (sx.mono (F2.trans f3)) (sy.mono (F2.trans f3)) (by omega) lx ly).mono ?_
 rintro vz h4 ⟨oz,f4⟩
 simp(disch:=omega)only[go_sem]
 refine (Cs 59 [] vz (x++y) h4 zV (by rw[oH];omega) oz.sv (λi hi hh f=>MB _ _)).mono ?_
 rintro _ h5 ⟨rfl,f5⟩
 have F5:=((F2.trans f3).trans f4).trans f5
 cases hany:(x++y).any zV with
 |true=>
  simp(disch:=omega)only[go_sem];exact⟨K,ik,F5,.inr ⟨k64,.inr ⟨by omega,by omega,.inl trivial⟩⟩⟩
 |false=>
  have hb: ∀z∈x++y, -(10000:Int)<=z/\z<=10000:=λz hz=>by
   have:=List.any_eq_false.1 hany z hz;unfold zV at this;simp only[decide_eq_true_iff] at this;omega
  simp(disch:=omega)only[go_sem];have fb:=(Fr.refl h5).bM (n:=h5.next+9) (by omega);refine (MQ D vx vy n G L K x y 10000 10000 h5 n7 hG Ee ik (by omega) k64 (dat0.mono ((f3.trans f4).trans f5)) (λv hv=>hb v (List.mem_append_left _ hv)) (λv hv=>hb v (List.mem_append_right _ hv)) (by decide) (by omega) (by omega) (sx.mono F5) (sy.mono F5)).mono ?_;rintro v6 h6 ⟨r6,f6⟩;simp(disch:=omega)only[go_sem];exact⟨K,ik,F5.trans f6,.inr ⟨k64,.inr ⟨by omega,by omega,.inr ⟨_,rfl,r6.si⟩⟩⟩⟩
section
variable {b:Nat} {h:H} {v:V} {ws:List V}
theorem Yq (h:H)(x:Int):tN h 1 [aB 0] 1 [(0,1,aB x)]=some (.sl h.next 0 1 (.kn 1),h.new (.cells false [aB x])):=Jm h x
theorem sZ.own {D:Nat}{h':H}(o:dQ h v 1 ws b)(hD:D<b)(f:sZ D h h'):dQ h' v 1 ws b:=
 o.mono f.next λid _ _ _ _ hb hid=>f.get id hid (by omega)
theorem TX {vl:V}(o:dQ h vl 1 ws b)(hb:b<=h.next)(hl:ws.length<1000000):
  ∃h2 w,xJ (h.new (.cells false [v])) 1 8 vl (.sl h.next 0 1 (.kn 1))=some (w,h2)/\dQ h2 w 1 (ws++ [v]) b/\(∀id,id<b->h2.get id=h.get id)/\h2.next=h.next+2:=by
 obtain⟨h2,a2,o2,f2,n2,_⟩:=PN (h0:={h with next:=b}) (h:=h) (v:=v) o ⟨hb,λ_ _=>rfl⟩ hl (bytes:=8) (by omega)
 exact⟨h2,_,a2,o2,λid hid=>f2.get id hid,n2⟩
theorem Rt {vl:V}{O:Nat}(o:dQ h vl 1 ws b)(hb:b<=h.next)(hl:ws.length<1000000)(hO:O<h.next)(gO:h.get O=bY [v]):
  ∃h2 w,xJ h 1 8 vl (.sl O 0 1 (.kn 1))=some (w,h2)/\dQ h2 w 1 (ws++ [v]) b/\(∀id,id<b->h2.get id=h.get id)/\h2.next=h.next+1:=by
 obtain⟨h2,a2,p2⟩:=o.push (bytes:=8) (SV.one hO gO (.kn 1)) (n:=ws.length) (m:=1) (by omega) rfl (by omega) (by omega) ⟨by omega,by omega⟩
 exact⟨h2,_,a2,p2.own (by omega) rfl hb,λid hid=>p2.old id (by omega) λid' off n c e e2=>by have:=(o.in _ _ _ _ e).2.1;omega,p2.next⟩
theorem mkX (h:H)(a m:Nat)(v:V): ∃h',H.mk ((H.mk h.tr a).new (.cells false [v])).tr m=h'/\h'.next=m/\h'.get a=bY [v]/\ ∀q,q≠a->h'.get q=h.get q:=by
 obtain⟨h1,e1,n1,g1,o1,f1⟩:=iL (h:=H.mk h.tr a) rfl [v];rw[e1];exact⟨_,rfl,rfl,g1,λq hq=>o1 q hq⟩
theorem Ax (D:Nat)(l:List Int)(r:Nat)(h:H)(ht:Tk h D l)(hl:l.length<9223372036854775808)(hr:r<1000000):
  Ev T 33 [.ptr D 0,aB r] h (λv h'=> ∃x:List Int,x.length=r/\(∀e∈x, -3<=e/\e<=3)/\dQ h' v 1 (ints x) h.next/\Tk h' D l/\sZ D h h'):=by
 have hD:D<h.next:=by obtain⟨_,_,_,_,_,_,hx⟩:=ht;exact hx
 refine bL qG rfl rfl ?_
 simp(disch:=omega)only[go_sem,qG,aE]
 refine aJ (λk' vars hh=> ∃(i:Nat) (vx:V) (x:List Int),(∃g:Nat->V,vars= [.ptr D 0,aB r,g 2,vx,aB i,g 5])/\i<=r/\x.length=i/\(∀e∈x, -3<=e/\e<=3)/\dQ hh vx 1 (ints x) h.next/\Tk hh D l/\sZ D h hh/\k'=r-i) r
  ⟨0,.aC, [],aA rfl,lB _,rfl,by simp,dQ.aC _ _ _,ht,sZ.refl _ _,rfl⟩ ?_
 rintro k' vars h1 ⟨i,vx,x,⟨g,rfl⟩,hi,lx,bx,ox,t1,f1,rfl⟩
 by_cases hlt:(i:Int)<(r:Int)
 case neg=>
  have d1:=iV hlt;simp(disch:=omega)only[go_sem,d1];exact⟨x,by omega,bx,ox,t1,f1⟩
 have d1:=mO hlt
 simp(disch:=omega)only[go_sem,d1]
 refine (mF D l 7 h1 t1 hl (by omega) (by omega)).mono ?_
 rintro _ h2 ⟨z,rfl,z0,z7,t2,f2⟩
 have F2:=f1.trans f2
 have o2:=sZ.own ox hD f2
 obtain⟨h3,w,a3,o3,g3,n3⟩:=TX (v:= aB (z- 3)) o2 F2.next (by rw[aI];omega)
 simp(disch:=omega)only[go_sem,Yq,a3]
 rw[jE i]
 have e:ints x++ [aB (z- 3)]=ints (x++ [z- 3]):=by simp [ints]
 rw[e] at o3
 refine⟨r-(i+1),by omega,i+1,w,x++ [z- 3],aA rfl,by omega,by simp [lx],?_,o3,?_,?_,rfl⟩
 ·intro e he
  rcases Gl.1 he with he|he
  ·exact bx e he
  ·simp only[List.mem_singleton] at he;omega
 ·exact t2.low (by omega) λid hid=>g3 id (by omega)
 ·exact⟨by have:=F2.next;omega,λid h1 h2=>by rw[g3 id h1,F2.get id h1 h2]⟩
end
theorem FD {r:Nat}(h:0<r):(ints (List.replicate r 0)).set 0 (aB 1)=ints (uF r 0):=by
 have e0:(ints (List.replicate r 0)).set 0 (aB 1)=ints ((List.replicate r 0).set 0 1):=by unfold ints;rw[List.map_set]
 rw[e0];unfold uF ints;congr 1;refine List.ext_getElem (by simp) λi h1 h2=>?_
 simp only[List.getElem_set,List.getElem_map,List.getElem_range,List.getElem_replicate]
 by_cases e:i=0
 ·rw[if_pos e.symm,if_pos e]
 ·rw[if_neg (λh=>e h.symm),if_neg e]
theorem Gi {l:List Int}{i:Nat}(h:i<l.length):(ints l)[i]? =some (aB (l.getD i 0)):=by
 unfold ints;rw[List.getElem?_map,gW h,List.getD_eq_getElem?_getD,gW h];rfl
structure Ns (r:Nat)(B:Nat)(x:List Int):Prop where
 len:x.length=r
 bd: ∀e∈x, -(B:Int)<=e/\e<=B
theorem Ns.more {r B B':Nat}{x:List Int}(c:Ns r B x)(h:B<=B'):Ns r B' x:=⟨c.len,λe he=>by have:=c.bd e he;omega⟩
theorem Ns.ml {B B':Nat}{G:List Nat->Prop}{L:LN}{K:List Nat}{x y:List Int}(cx:Ns K.length B x)(cy:Ns K.length B' y):Ns K.length (L.length*(B*B')) (Md G L K x y):=⟨pF x y,λe he=>by
 obtain⟨k,_,rfl⟩:=vT.1 he
 exact Nb cx.bd cy.bd k⟩
theorem nE {W0:Nat->Prop}(vc vx vy:V)(x y:List Int)(n:Nat)(O:LN)(R:oV)(G:List Nat->Prop)(h:H)(K:List Nat)(k64:K.length<=64)(cx:Ns K.length 10000 x)(cy:Ns K.length 10000 y)(sx:SI h vx x)(sy:SI h vy y)(gc:GC W0 h vc n O R G)(L:LN)(hL:cX O R n 0 (bH n)=L)(ik:Bi n G L K):
  Ev T 28 [vc,vx,vy] h (λv h'=> ∃w,v= .tup [w,aB 0]/\SI h' w (Md G L K x y)/\Fr h h'):=by
 have lx:=cx.len
 have ly:=cy.len
 refine (AZ vc vx vy x y n O R G h (by omega) (by omega) sx sy gc L hL).mono ?_
 rintro v h' ⟨K',ik',f,hv⟩
 obtain rfl:=ik'.uniq ik
 rcases hv with ⟨h1,_⟩|⟨_,⟨h1,_⟩|⟨_,_,⟨h1,_⟩|⟨_,w,rfl,s⟩⟩⟩
 ·omega
 ·exact (h1 ⟨lx,ly⟩).elim
 ·obtain⟨e,he,hb⟩:=List.any_eq_true.1 h1
  unfold zV at hb
  have hb:=of_decide_eq_true hb
  have:=(Gl.1 he).elim (cx.bd e) (cy.bd e)
  omega
 ·exact⟨w,rfl,s,f⟩
theorem QQ (u u':V)(l m:List Int)(h:H)(hu:SI h u l)(hu':SI h u' m)(hl:(l.length:Int)<=2^63- 1)(hm:(m.length:Int)<=2^63- 1):
  Ev T 7 [u,u'] h (λv h'=>v= .bool true/\Fr h h'):=by
 refine bL mC rfl rfl ?_
 simp(disch:=omega)only[go_sem,mC,aE]
 refine (HP h).mono ?_
 rintro _ h1 ⟨rfl,f1⟩
 have lu:=hu.lens
 have lu':=hu'.lens
 have dT:decide True=true:=rfl
 have d0:decide ((0:Int)≠0)=false:=rfl
 by_cases h60:(60:Int)<(l.length:Int)
 case pos=>
  have d1:decide ((60:Int)<(l.length:Int))=true:=decide_eq_true h60;simp(disch:=omega)only[go_sem,lu,lu',d1];exact f1
 have d1:decide ((60:Int)<(l.length:Int))=false:=decide_eq_false h60
 by_cases h61:(60:Int)<(m.length:Int)
 case pos=>
  have d2:decide ((60:Int)<(m.length:Int))=true:=decide_eq_true h61;simp(disch:=omega)only[go_sem,lu,lu',d1,d2];exact f1
 have d2:decide ((60:Int)<(m.length:Int))=false:=decide_eq_false h61
 simp(disch:=omega)only[go_sem,lu,lu',d1,d2]
 refine (NX u l h1 (hu.mono f1) (by omega)).mono ?_
 rintro vc h2 ⟨n,S,O,R,hn1,hn5,hS,gc,f2⟩
 obtain⟨E,hLl⟩:=jN gc.nH gc.isc
 obtain⟨L,hL⟩:=exI (cX O R n 0 (bH n))
 rw[hL] at E hLl
 have hG:=gc.nH
 have L120:L.length<=120:=rM hn5 E.nodup λx hx=>hG.dV ((E.mem x).1 hx)
 obtain⟨u1,w1,rfl,a1,b1,_,_⟩:=gc.sl
 obtain⟨C,hC⟩:=exI h2.next
 obtain⟨h3,e3,n3,g3,o3,f3⟩:=iL hC [aB 0,.aC,.aC]
 obtain⟨h4,e4,n4,g4,o4⟩:=Fj h3 C [aB n,u1,w1]
 have F24:Fr h2 h4:=⟨by omega,λid hid=>by rw[o4 id (by omega),o3 id (by omega)]⟩
 have gc4:=gc.mono F24
 have rC: ∀hh,Fr h4 hh->hh.row C 0 3=some [aB n,u1,w1]:=λhh f=>bW (by rw[f.get _ (by omega)];exact g4)
 have F04:=(f1.trans f2).trans F24
 simp(disch:=omega)only[go_sem,hC,e3,nV h3 C 0 (v:= aB n) (u:=u1) (w:=w1) rfl a1 b1,g3,jV,e4,rC h4 (Fr.refl _)]
 refine (Te _ n O R _ h4 gc4 L hL).mono ?_
 rintro _ h5 ⟨v5,K,ks,rfl,ik,sC,al,f5⟩
 have kl:K.length<=120:=Nat.le_trans (by rw[ik.perm.length_eq];exact uR _) L120
 obtain⟨k0,_⟩:=Ha hG E ik
 obtain⟨lvC,_⟩:=nX (by omega) sC al
 obtain⟨r,hr⟩:=exI K.length
 rw[hr] at lvC k0 kl
 have d3:decide ((r:Int)<1)=false:=iV (by omega)
 have d4:decide ((200:Int)<(r:Int))=false:=iV (by omega)
 have wl:=SV.dU (hu'.mono (F04.trans f5))
 obtain⟨D,hD⟩:=exI h5.next
 obtain⟨h6,e6,n6,g6,o6,f6⟩:=iL hD [u',aB 0]
 simp(disch:=omega)only[go_sem,lvC,d0,d3,d4,Pv wl.1 wl.2.1,Uq h5 (v:=u') (u:= aB 0) wl.2.1 rfl,hD,e6]
 have F6:=f5.trans f6
 have n5:=f5.next
 have tk6:Tk h6 D m:=⟨u',0,g6,hu'.mono (F04.trans F6),λid off len c e=>by have:=SV.in (hu'.mono (F04.trans f5)) _ _ _ _ e;omega,lB _,by omega⟩
 refine (Ax D m r h6 tk6 (by omega) (by omega)).mono ?_
 rintro vx h7 ⟨x,lx,bx,ox,tk7,f7⟩
 simp(disch:=omega)only[go_sem]
 refine (Ax D m r h7 tk7 (by omega) (by omega)).mono ?_
 rintro vy h8 ⟨y,ly,by',oy,tk8,f8⟩
 simp(disch:=omega)only[go_sem]
 refine (Ax D m r h8 tk8 (by omega) (by omega)).mono ?_
 rintro vz h9 ⟨z,lz,bz,oz,tk9,f9⟩
 have n7:=f7.next
 have n8:=f8.next
 have F9:Fr h4 h9:=sZ.fr F6 (by omega) ((f7.trans f8).trans f9)
 have sx9:SI h9 vx x:=(sZ.own (sZ.own ox (by omega) f8) (by omega) f9).sv
 have sy9:SI h9 vy y:=(sZ.own oy (by omega) f9).sv
 have sz9:SI h9 vz z:=oz.sv
 have F09:=F04.trans F9
 clear tk6 tk7 tk8 tk9 ox oy oz f7 f8 f9
 have gc9:=gc4.mono F9
 by_cases k64:(64:Int)<(r:Int)
 ·have d5:decide ((64:Int)<(r:Int))=true:=decide_eq_true k64
  simp(disch:=omega)only[go_sem,d5,rC h9 F9]
  refine (AZ _ vx vy x y n O R _ h9 (by omega) (by omega) sx9 sy9 gc9 L hL).mono ?_
  rintro v h10 ⟨K',ik',f10,hv⟩
  obtain rfl:=ik'.uniq ik
  rcases hv with ⟨_,rfl⟩|⟨h1,_⟩
  ·simp(disch:=omega)only[go_sem,dT]
   exact F09.trans f10
  ·omega
 have d5:decide ((64:Int)<(r:Int))=false:=decide_eq_false k64
 have k64':K.length<=64:=by omega
 have cx:Ns K.length 3 x:=⟨by omega,λe he=>bx e he⟩
 have cy:Ns K.length 3 y:=⟨by omega,λe he=>by' e he⟩
 have cz:Ns K.length 3 z:=⟨by omega,λe he=>bz e he⟩
 have hb:L.length*(3*3)<=10000:=Nat.le_trans (Nat.mul_le_mul_right _ L120) (by decide)
 have cxy:=(Ns.ml (G:=fC n (· ∈S)) (L:=L) cx cy).more hb
 have cyx:=(Ns.ml (G:=fC n (· ∈S)) (L:=L) cy cx).more hb
 have cyz:=(Ns.ml (G:=fC n (· ∈S)) (L:=L) cy cz).more hb
 simp(disch:=omega)only[go_sem,d5,rC h9 F9]
 refine (nE _ vx vy x y n O R _ h9 K k64' (cx.more (by omega)) (cy.more (by omega)) sx9 sy9 gc9 L hL ik).mono ?_
 rintro _ h10 ⟨v12,rfl,s12,f10⟩
 have F10:=F9.trans f10
 simp(disch:=omega)only[go_sem,rC h10 F10]
 refine (nE _ vy vx y x n O R _ h10 K k64' (cy.more (by omega)) (cx.more (by omega)) (sy9.mono f10) (sx9.mono f10) (gc4.mono F10) L hL ik).mono ?_
 rintro _ h11 ⟨v14,rfl,s14,f11⟩
 have F11:=F10.trans f11
 simp(disch:=omega)only[go_sem,rC h11 F11]
 refine (nE _ vy vz y z n O R _ h11 K k64' (cy.more (by omega)) (cz.more (by omega)) (sy9.mono (f10.trans f11)) (sz9.mono (f10.trans f11)) (gc4.mono F11) L hL ik).mono ?_
 rintro _ h12 ⟨v16,rfl,s16,f12⟩
 have F12:=F11.trans f12
 have l12:=s12.lens
 have l16:=s16.lens
 rw[pF,hr] at l12 l16
 have d6:decide ((r:Int)≠(r:Int))=false:=decide_eq_false (by simp)
 simp(disch:=omega)only[go_sem,d0,l12,l16,d6]
 refine (wY v12 v14 _ _ h12 (s12.mono (f11.trans f12)) (s14.mono f12) (by rw[pF];omega) (by rw[pF];omega)).mono ?_
 rintro _ h13 ⟨rfl,f13⟩
 have F13:=F12.trans f13
 simp(disch:=omega)only[go_sem,decide_eq_true (RA hG E ik x y),rC h13 F13]
 have f913:=((f10.trans f11).trans f12).trans f13
 refine (nE _ v12 vz _ z n O R _ h13 K k64' cxy (cz.more (by omega)) (s12.mono ((f11.trans f12).trans f13)) (sz9.mono f913) (gc4.mono F13) L hL ik).mono ?_
 rintro _ h14 ⟨v18,rfl,s18,f14⟩
 have F14:=F13.trans f14
 simp(disch:=omega)only[go_sem,rC h14 F14]
 refine (nE _ vx v16 x _ n O R _ h14 K k64' (cx.more (by omega)) cyz (sx9.mono (f913.trans f14)) (s16.mono (f13.trans f14)) (gc4.mono F14) L hL ik).mono ?_
 rintro _ h15 ⟨v20,rfl,s20,f15⟩
 have F15:=F14.trans f15
 simp(disch:=omega)only[go_sem,d0]
 refine (wY v18 v20 _ _ h15 (s18.mono f15) s20 (by rw[pF];omega) (by rw[pF];omega)).mono ?_
 rintro _ h16 ⟨rfl,f16⟩
 have F16:=F15.trans f16
 obtain⟨Q,hQ⟩:=exI h16.next
 obtain⟨h17,e17,n17,g17,o17,f17⟩:=iL hQ (ints (List.replicate r 0))
 obtain⟨h18,e18,n18,g18,o18⟩:=Fj h17 Q ((ints (List.replicate r 0)).set 0 (aB 1))
 have f618:Fr h16 h18:=⟨by omega,λid hid=>by rw[o18 id (by omega),o17 id (by omega)]⟩
 have F18:=F16.trans f618
 have pS:fL (some (.cells false (ints (List.replicate r 0)))) h17 Q 0 [aB 1]=some h18:=by rw[aY (by rw[aI,List.length_replicate];exact k0),←e18]
 simp(disch:=omega)only[go_sem,decide_eq_true (OG hG E ik x y z),hQ,e17,g17,pS,rC h18 F18]
 rw[FD k0] at g18
 have s1:SI h18 (.sl Q 0 r (.kn r)) (uF r 0):=SV.all (by rw[aI];unfold uF;simp) (by omega) g18 _
 have c1:Ns K.length 10000 (uF r 0):=⟨by unfold uF;simp [hr],λe he=>by
  obtain⟨k,_,rfl⟩:=vT.1 he
  by_cases h:k=0
  ·rw[if_pos h];omega
  ·rw[if_neg h];omega⟩
 have f918:=(((f913.trans f14).trans f15).trans f16).trans f618
 refine (nE _ _ vx _ x n O R _ h18 K k64' c1 (cx.more (by omega)) s1 (sx9.mono f918) (gc4.mono F18) L hL ik).mono ?_
 rintro _ h19 ⟨v23,rfl,s23,f19⟩
 have F19:=F18.trans f19
 have f919:=f918.trans f19
 rw[←hr,TE hG E ik cx.len] at s23
 have sy19:=sy9.mono f919
 have sz19:=sz9.mono f919
 obtain⟨idy,offy,shy,hidy,ycc⟩:=sy19.shape r (by rw[aI];omega) (by omega)
 obtain⟨idz,offz,shz,hidz,zcc⟩:=sz19.shape r (by rw[aI];omega) (by omega)
 simp(disch:=omega)only[go_sem]
 refine cI (λvs hh=> ∃w,(∃g:Nat->V,vs= [g 0,g 1,g 2,.ptr C 0,g 4,g 5,aB r,g 7,vx,g 9,vz,g 11,v12,g 13,g 14,g 15,g 16,g 17,g 18,g 19,g 20,g 21,g 22,v23,aB 0,w,.aC,g 27,g 28,g 29,g 30,g 31,g 32,g 33,g 34,g 35,g 36,g 37,g 38,g 39,g 40,g 41])/\SI hh w ((List.range r).map λi=>y.getD i 0+z.getD i 0)/\Fr h19 hh) ?_ ?_
 ·refine aJ (λk' vars hh=> ∃(i:Nat) (w:V),(∃g:Nat->V,vars= [g 0,g 1,g 2,.ptr C 0,g 4,g 5,aB r,g 7,vx,vy,vz,g 11,v12,g 13,g 14,g 15,g 16,g 17,g 18,g 19,g 20,g 21,g 22,v23,aB 0,w,.aC,aB i,g 28,g 29,g 30,g 31,g 32,g 33,g 34,g 35,g 36,g 37,g 38,g 39,g 40,g 41])/\i<=r/\dQ hh w 1 (ints ((List.range i).map λi=>y.getD i 0+z.getD i 0)) h19.next/\Fr h19 hh/\k'=r-i) r
   ⟨0,.aC,aA rfl,lB _,dQ.aC _ _ _,Fr.refl h19,rfl⟩ ?_
  rintro k' vars h20 ⟨i,w,⟨g,rfl⟩,hi,ow,f20,rfl⟩
  by_cases hlt:(i:Int)<(r:Int)
  case neg=>
   have e1:=iV hlt;obtain rfl:i=r:=by omega
   simp(disch:=omega)only[go_sem,e1];exact⟨w,aA rfl,ow.sv,f20⟩
  have e1:=mO hlt
  have hir:i<r:=by omega
  have yc: ∀hh,Fr h19 hh->hh.cell idy (offy+i)=some (aB (y.getD i 0)):=λhh f=>by rw[f.cell (hidy (by omega)),ycc i (by rw[aI];omega),Gi (by omega)]
  have zc: ∀hh,Fr h19 hh->hh.cell idz (offz+i)=some (aB (z.getD i 0)):=λhh f=>by rw[f.cell (hidz (by omega)),zcc i (by rw[aI];omega),Gi (by omega)]
  have yb:=kE cy.bd i
  have zb:=kE cz.bd i
  obtain⟨h21,e21,n21,g21,o21⟩:=mkX h20 (h20.next+10) (h20.next+13) (aB (y.getD i 0+z.getD i 0))
  have ow1:dQ h21 w 1 (ints ((List.range i).map λi=>y.getD i 0+z.getD i 0)) h19.next:=ow.mono (by omega) λid _ _ _ _ _ hid=>o21 id (by omega)
  obtain⟨h22,w2,a22,o22,g22,n22⟩:=Rt ow1 (by have:=f20.next;omega) (by rw[aI,rF,List.length_range];omega) (by omega) g21
  simp(disch:=omega)only[go_sem,e1,shy.ixa,yc h20 f20,shz.ixa,zc h20 f20,Yq,e21,a22]
  rw[jE i]
  have e:ints ((List.range i).map λi=>y.getD i 0+z.getD i 0)++ [aB (y.getD i 0+z.getD i 0)]=ints ((List.range (i+1)).map λi=>y.getD i 0+z.getD i 0):=by simp [ints,List.range_succ]
  rw[e] at o22
  have fn:=f20.next
  exact⟨r-(i+1),by omega,i+1,w2,aA rfl,by omega,o22,⟨by omega,λid hid=>by rw[g22 id hid,o21 id (by omega),f20.get id hid]⟩,rfl⟩
 clear ycc zcc shy shz hidy hidz sy19 sz19
 rintro vars h20 ⟨w,⟨g,rfl⟩,sw,f20⟩
 have F20:=F19.trans f20
 have f920:=f919.trans f20
 have cs:Ns K.length 6 ((List.range r).map λi=>y.getD i 0+z.getD i 0):=⟨by simp [hr],λe he=>by
  obtain⟨k,_,rfl⟩:=vT.1 he;have yb:=kE cy.bd k;have zb:=kE cz.bd k;show _<=y.getD k 0+z.getD k 0/\y.getD k 0+z.getD k 0<=_
  omega⟩
 simp(disch:=omega)only[go_sem,rC h20 F20]
 refine (nE _ vx vz x z n O R _ h20 K k64' (cx.more (by omega)) (cz.more (by omega)) (sx9.mono f920) (sz9.mono f920) (gc4.mono F20) L hL ik).mono ?_
 rintro _ h21 ⟨v28,rfl,s28,f21⟩
 have F21:=F20.trans f21
 simp(disch:=omega)only[go_sem,rC h21 F21]
 refine (nE _ vx w x _ n O R _ h21 K k64' (cx.more (by omega)) (cs.more (by omega)) (sx9.mono (f920.trans f21)) (sw.mono f21) (gc4.mono F21) L hL ik).mono ?_
 rintro _ h22 ⟨v30,rfl,s30,f22⟩
 have F22:=F21.trans f22
 have s28':=s28.mono f22
 have s12':=s12.mono ((((((((f11.trans f12).trans f13).trans f14).trans f15).trans f16).trans f618).trans f19).trans ((f20.trans f21).trans f22))
 have l28:=s28.lens
 rw[pF,hr] at l28
 obtain⟨A,hA⟩:=exI (Md (fC n (· ∈S)) L K x y)
 obtain⟨A',hA'⟩: ∃A,Md (fC n (· ∈S)) L K x z=A:=⟨_,rfl⟩
 have cA:=(Ns.ml (G:=fC n (· ∈S)) (L:=L) cx cy).more hb
 have cA':=(Ns.ml (G:=fC n (· ∈S)) (L:=L) cx cz).more hb
 rw[hA] at s12' cA
 rw[hA'] at s28' cA'
 have lA:=cA.len
 have lA':=cA'.len
 obtain⟨idy,offy,shy,hidy,ycc⟩:=s12'.shape r (by rw[aI];omega) (by omega)
 obtain⟨idz,offz,shz,hidz,zcc⟩:=s28'.shape r (by rw[aI];omega) (by omega)
 simp(disch:=omega)only[go_sem,d0,l28,d6]
 refine cI (λvs hh=> ∃w,(∃g:Nat->V,vs= [g 0,g 1,g 2,g 3,g 4,g 5,g 6,g 7,vx,g 9,g 10,g 11,g 12,g 13,g 14,g 15,g 16,g 17,g 18,g 19,g 20,g 21,g 22,v23,aB 0,g 25,w,g 27,g 28,g 29,v30,aB 0,g 32,g 33,g 34,g 35,g 36,g 37,g 38,g 39,g 40,g 41])/\SI hh w ((List.range r).map λi=>A.getD i 0+A'.getD i 0)/\Fr h22 hh) ?_ ?_
 ·refine aJ (λk' vars hh=> ∃(i:Nat) (w:V),(∃g:Nat->V,vars= [g 0,g 1,g 2,g 3,g 4,g 5,aB r,g 7,vx,g 9,g 10,g 11,v12,g 13,g 14,g 15,g 16,g 17,g 18,g 19,g 20,g 21,g 22,v23,aB 0,g 25,w,g 27,v28,g 29,v30,aB 0,aB i,g 33,g 34,g 35,g 36,g 37,g 38,g 39,g 40,g 41])/\i<=r/\dQ hh w 1 (ints ((List.range i).map λi=>A.getD i 0+A'.getD i 0)) h22.next/\Fr h22 hh/\k'=r-i) r
   ⟨0,.aC,aA rfl,lB _,dQ.aC _ _ _,Fr.refl h22,rfl⟩ ?_
  rintro k' vars h23 ⟨i,w,⟨g,rfl⟩,hi,ow,f23,rfl⟩
  by_cases hlt:(i:Int)<(r:Int)
  case neg=>
   have e1:=iV hlt;obtain rfl:i=r:=by omega
   simp(disch:=omega)only[go_sem,e1];exact⟨w,aA rfl,ow.sv,f23⟩
  have e1:=mO hlt
  have hir:i<r:=by omega
  have yc: ∀hh,Fr h22 hh->hh.cell idy (offy+i)=some (aB (A.getD i 0)):=λhh f=>by rw[f.cell (hidy (by omega)),ycc i (by rw[aI];omega),Gi (by omega)]
  have zc: ∀hh,Fr h22 hh->hh.cell idz (offz+i)=some (aB (A'.getD i 0)):=λhh f=>by rw[f.cell (hidz (by omega)),zcc i (by rw[aI];omega),Gi (by omega)]
  have yb:=kE cA.bd i
  have zb:=kE cA'.bd i
  obtain⟨h24,e24,n24,g24,o24⟩:=mkX h23 (h23.next+10) (h23.next+13) (aB (A.getD i 0+A'.getD i 0))
  have ow1:dQ h24 w 1 (ints ((List.range i).map λi=>A.getD i 0+A'.getD i 0)) h22.next:=ow.mono (by omega) λid _ _ _ _ _ hid=>o24 id (by omega)
  obtain⟨h25,w2,a25,o25,g25,n25⟩:=Rt ow1 (by have:=f23.next;omega) (by rw[aI,rF,List.length_range];omega) (by omega) g24
  simp(disch:=omega)only[go_sem,e1,shy.ixa,yc h23 f23,shz.ixa,zc h23 f23,Yq,e24,a25]
  rw[jE i]
  have e:ints ((List.range i).map λi=>A.getD i 0+A'.getD i 0)++ [aB (A.getD i 0+A'.getD i 0)]=ints ((List.range (i+1)).map λi=>A.getD i 0+A'.getD i 0):=by simp [ints,List.range_succ]
  rw[e] at o25
  have fn:=f23.next
  exact⟨r-(i+1),by omega,i+1,w2,aA rfl,by omega,o25,⟨by omega,λid hid=>by rw[g25 id hid,o24 id (by omega),f23.get id hid]⟩,rfl⟩
 rintro vars h23 ⟨w',⟨g',rfl⟩,sw',f23⟩
 simp(disch:=omega)only[go_sem,dT]
 have F23:=F22.trans f23
 refine (wY v23 vx x x h23 (s23.mono (((f20.trans f21).trans f22).trans f23)) (sx9.mono (((f920.trans f21).trans f22).trans f23)) (by omega) (by omega)).mono ?_
 rintro _ h24 ⟨rfl,f24⟩
 simp(disch:=omega)only[go_sem,dT]
 have ed:=QF hG E ik x y z
 rw[hr] at ed
 rw[ed] at s30
 have ee:((List.range r).map λi=>A.getD i 0+A'.getD i 0)=(List.range r).map λi=>Qh (fC n (· ∈S)) L K x y i+Qh (fC n (· ∈S)) L K x z i:=List.map_congr_left λi hi=>by
  have:=Hm.1 hi;rw[←hA,←hA'];unfold Md;rw[Cv _ (by omega),Cv _ (by omega)]
 rw[ee] at sw'
 refine (wY v30 w' _ _ h24 (s30.mono (f23.trans f24)) (sw'.mono f24) (by simp;omega) (by simp;omega)).mono ?_
 rintro _ h25 ⟨rfl,f25⟩
 simp(disch:=omega)only[go_sem,dT]
 exact F04.trans ((F23.trans f24).trans f25)
end Go.Proofs.YtapfcpkecmmagaaGreat
