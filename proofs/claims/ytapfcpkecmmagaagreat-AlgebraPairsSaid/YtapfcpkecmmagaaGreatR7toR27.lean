/- Texts of the claim. -/
import Derived.Test.YtapfcpkecmmagaaGreatSc7toR12
import Derived.Test.YtapfcpkecmmagaaGreatDp2toP4a
set_option maxHeartbeats 64000000
namespace Go.Proofs.YtapfcpkecmmagaaGreat
open Go Go.Ay Go.Pm
set_option maxRecDepth 100000
theorem Sq (n:Nat)(c:Int)(p:Nat->Prop)[DecidablePred p]:sm n (λa=>if p a then c else 0)=c*(((List.range n).filter λa=>decide (p a)).length:Nat):=by
 induction n with
 |zero=>simp [wZ]
 |succ n ih=>
  rw[kA,ih,List.range_succ,List.filter_append,oS]
  by_cases h:p n
  ·simp [h,Int.mul_add]
  ·simp [h]
theorem yB {n:Nat}{B:Nat}{f:Nat->Int}(h: ∀a,a<n-> -(B:Int)<=f a/\f a<=B): -((n*B:Nat):Int)<=sm n f/\sm n f<=((n*B:Nat):Int):=by
 induction n with
 |zero=>simp [wZ]
 |succ n ih=>
  have h1:=ih λa ha=>h a (by omega)
  have h2:=h n (by omega);rw[kA,Nat.succ_mul];generalize n*B=c at*;omega
theorem Ft {x y:Int}{X Y:Nat}(hx: -(X:Int)<=x/\x<=X)(hy: -(Y:Int)<=y/\y<=Y): -((X*Y:Nat):Int)<=x*y/\x*y<=((X*Y:Nat):Int):=by
 have h:(x*y).natAbs<=X*Y:=by
  rw[Int.natAbs_mul];exact Nat.mul_le_mul (by omega) (by omega)
 omega
noncomputable def Hj (G:List Nat->Prop)(L:LN)(K:List Nat)(x y:List Int)(k i j:Nat):Int:=sm L.length λa=>if fQ G L K a<i∨fQ G L K a=i/\Vp G L K a k<j then x.getD (fQ G L K a) 0*y.getD (Vp G L K a k) 0 else 0
noncomputable def QH (G:List Nat->Prop)(L:LN)(K:List Nat)(x y:List Int)(k:Nat):Int:=sm L.length λa=>x.getD (fQ G L K a) 0*y.getD (Vp G L K a k) 0
section
variable {n:Nat} {G:List Nat->Prop} {L:LN} {K:List Nat} {x y:List Int}
theorem KF (k:Nat):Hj G L K x y k 0 0=0:=by
 unfold Hj;exact Ut λa _=>by rw[if_neg (by omega)]
theorem Vk (k i j:Nat):Hj G L K x y k i (j+1)=Hj G L K x y k i j+x.getD i 0*y.getD j 0*(nP G L K i j k:Nat):=by
 unfold Hj nP Ga;rw[←Sq L.length (x.getD i 0*y.getD j 0) λa=>fQ G L K a=i/\Vp G L K a k=j,←KQ];refine kS λa _=>?_
 by_cases h:fQ G L K a=i/\Vp G L K a k=j
 ·obtain⟨h1,h2⟩:=h
  subst h1;subst h2;rw[if_pos (by omega),if_neg (by omega),if_pos ⟨rfl,rfl⟩,Int.zero_add]
 ·rw[if_neg h,Int.add_zero]
  by_cases h2:fQ G L K a<i∨fQ G L K a=i/\Vp G L K a k<j
  ·rw[if_pos h2,if_pos (by omega)]
  ·rw[if_neg h2,if_neg (by omega)]
theorem TC {k r:Nat}(hq: ∀a,a<L.length->Vp G L K a k<r)(i:Nat):Hj G L K x y k i r=Hj G L K x y k (i+1) 0:=by
 unfold Hj;refine kS λa ha=>?_
 have:=hq a ha
 by_cases h:fQ G L K a<i∨fQ G L K a=i
 ·rw[if_pos (by omega),if_pos (by omega)]
 ·rw[if_neg (by omega),if_neg (by omega)]
theorem MX {i:Nat}(h0:x.getD i 0=0)(k:Nat):Hj G L K x y k i 0=Hj G L K x y k (i+1) 0:=by
 unfold Hj;refine kS λa _=>?_
 by_cases h:fQ G L K a=i
 ·rw[if_neg (by omega),if_pos (by omega),h,h0,Int.zero_mul]
 ·by_cases h2:fQ G L K a<i
  ·rw[if_pos (by omega),if_pos (by omega)]
  ·rw[if_neg (by omega),if_neg (by omega)]
theorem UF {r:Nat}(hn: ∀a,a<L.length->fQ G L K a<r)(k:Nat):Hj G L K x y k r 0=QH G L K x y k:=by
 unfold Hj QH;exact kS λa ha=>by rw[if_pos (.inl (hn a ha))]
theorem vV {l:List Int}{B:Nat}(h: ∀v∈l, -(B:Int)<=v/\v<=B)(i:Nat): -(B:Int)<=l.getD i 0/\l.getD i 0<=B:=by
 by_cases hi:i<l.length
 ·exact h _ (bB hi)
 ·rw[List.getD_eq_getElem?_getD,List.getElem?_eq_none (by omega)];simp
theorem Mw {X Y:Nat}(hx: ∀v∈x, -(X:Int)<=v/\v<=X)(hy: ∀v∈y, -(Y:Int)<=v/\v<=Y)(k i j:Nat): -((L.length*(X*Y):Nat):Int)<=Hj G L K x y k i j/\Hj G L K x y k i j<=((L.length*(X*Y):Nat):Int):=by
 refine yB λa _=>?_
 split
 ·exact Ft (vV hx _) (vV hy _)
 ·omega
theorem EV {X Y:Nat}(hx: ∀v∈x, -(X:Int)<=v/\v<=X)(hy: ∀v∈y, -(Y:Int)<=v/\v<=Y)(k:Nat): -((L.length*(X*Y):Nat):Int)<=QH G L K x y k/\QH G L K x y k<=((L.length*(X*Y):Nat):Int):=
 yB λ_ _=>Ft (vV hx _) (vV hy _)
theorem aaE (hG:rO n G)(E:fL G L)(ik:Ap n G L K){a k:Nat}(ha:a<L.length)(hk:k<K.length):Vp G L K a k<K.length:=by
 unfold Vp;have hKk:=ik.lt (bB (d:=0) hk);have hy:G (aS (cF (L.getD a [])) (L.getD (K.getD k 0) [])):=hG.mul (hG.inv (tF E ha)) (tF E hKk);exact (tV hG E ik (Eg E hy).1).1
end
structure YU (G:List Nat->Prop)(L:LN)(K:List Nat)(i b:Nat)(hh:H)(v:V):Prop where
 ex: ∃(Q:Nat) (ρ:Nat->Nat),v= .sl Q 0 K.length (.kn K.length)/\b<=Q/\Q<hh.next/\hh.get Q=some (.cells false (rc K.length λa=> .sl (ρ a) 0 K.length (.kn K.length)))/\ ∀a,a<K.length->Q<ρ a/\ρ a<hh.next/\hh.get (ρ a)=some (.cells false (rc K.length λk=> aB (nP G L K i a k:Nat)))
theorem YU.sr {G:List Nat->Prop}{L:LN}{K:List Nat}{i b:Nat}{hh:H}{v:V}(c:YU G L K i b hh v):SR hh v ((List.range K.length).map λj=>zi ((List.range K.length).map (nP G L K i j))):=by
 obtain⟨Q,ρ,rfl,_,nQ,gQ,rows⟩:=c.ex;refine⟨(List.range K.length).map λa=> .sl (ρ a) 0 K.length (.kn K.length),?_,?_⟩
 ·exact SV.all (by rw[cZ,Nat.mul_one]) nQ gQ _
 ·refine bY.nC (by simp) λa h1 h2=>?_
  have ha:a<K.length:=by simpa using h1
  simp only[List.getElem_map,List.getElem_range];obtain⟨_,r2,r3⟩:=rows a ha
  have e:(rc K.length λk=>aB (nP G L K i a k:Nat))=ints (zi ((List.range K.length).map (nP G L K i a))):=by
   simp [rc,ints,zi,Function.comp_def]
  rw[e] at r3;exact SV.all (by rw[aJ,aP,qX,List.length_range,Nat.mul_one]) r2 r3 _
set_option maxHeartbeats 64000000
theorem Fz (D i:Nat)(n:Nat)(G:List Nat->Prop)(L:LN)(K:List Nat)(h:H)(n7:n<=7)(hG:rO n G)(E:fL G L)(ik:Ap n G L K)(hl:L.length<=5040)(hr:K.length<=64)(d:Ib n G L K h D):
  Ev T 46 [.ptr D 0,aB i] h (λv h'=>YU G L K i h.next h' v/\Fr h h'):=by
 refine bN jJ rfl rfl ?_
 obtain⟨vL,vC,Mn,ln,ks,gD,hD,hMn,sL,sC,al,gMn,kln,lkn⟩:=d.ex
 obtain⟨M,hM⟩:=exI h.next
 obtain⟨h1,e1⟩:=exI (h.new (.wmap (.arr 2 .i64) []))
 have n1:h1.next=M+1:=by rw[←e1,H.aV,hM]
 have g1:h1.get M=some (.wmap (.arr 2 .i64) []):=by rw[←e1,←hM];exact H.aL h _
 have o1: ∀k,k≠M->h1.get k=h.get k:=λk hk=>by rw[←e1];exact H.bE h (by omega) _
 have f1:Fr h h1:=⟨by omega,λq hq=>o1 q (by omega)⟩
 obtain⟨r,hrr⟩:=exI K.length
 obtain⟨m0,hm0⟩: ∃m,L.length=m:=⟨_,rfl⟩
 obtain⟨lvL,eL,idL,offL,ws,shL,cL⟩:=wV sL
 obtain⟨lvC,eC,idC,offC,shC,cC⟩:=oF (by omega) sC al
 rw[hrr] at lvC shC cC hr
 rw[hm0] at lvL shL cL lkn
 have gD1: ∀hh,Fr h hh->hh.get D=some (.cells false [vL,vC,.mp Mn]):=λhh f=>by rw[f.get _ hD];exact gD
 simp(disch:=omega)only[go_sem,jJ,aF,hM,e1,H.aE (gD1 h1 f1),lvL]
 refine cV (λvs hh=> ∃(m:List ((Nat×Nat)×V)),(∃g:Nat->V,vs= [.ptr D 0,aB i,g 2,.mp M,g 4,g 5,g 6,g 7,g 8,g 9,g 10,g 11,g 12,g 13,g 14,g 15,g 16,g 17,g 18,g 19,g 20,g 21,g 22,g 23,g 24])/\hh.get M=some (.wmap (.arr 2 .i64) (iW Vr m))/\(∀p∈m,WQ p.1)/\(∀j k,k<r->(Kz m (j,k)).getD (aB 0)= aB (Ga G L K i k L.length j:Nat))/\M<hh.next/\Fr h hh) ?_ ?_
 ·refine aI (λk' vars hh=> ∃(t:Nat) (m:List ((Nat×Nat)×V)),(∃g:Nat->V,vars= [.ptr D 0,aB i,g 2,.mp M,g 4,g 5,g 6,g 7,g 8,g 9,vL,aB m0,aB t,g 13,g 14,g 15,g 16,g 17,g 18,g 19,g 20,g 21,g 22,g 23,g 24])/\t<=m0/\hh.get M=some (.wmap (.arr 2 .i64) (iW Vr m))/\(∀p∈m,WQ p.1)/\(∀j k,k<r->(Kz m (j,k)).getD (aB 0)= aB (Ga G L K i k t j:Nat))/\M<hh.next/\Fr h hh/\k'=m0-t) m0
   ⟨0, [],aA rfl,lG _,g1,λ_ h=>(by cases h),λj k _=>rfl,by omega,f1,rfl⟩ ?_
  rintro k' vars h2 ⟨t,m,⟨g,rfl⟩,ht,gM,pm,lk,nM,F,rfl⟩
  by_cases hlt:(t:Int)<(m0:Int)
  case neg=>
   have d1:=jC hlt;obtain rfl:t=m0:=by omega
   simp(disch:=omega)only[go_sem,d1];exact⟨m,aA rfl,gM,pm,by rw[hm0];exact lk,nM,F⟩
  have d1:=nL hlt
  have htl:t<m0:=by omega
  obtain⟨b1,c1,s1⟩:=cL t htl
  generalize ws.getD t V.undef=ve at c1 s1
  have X:=jU hG E (show t<L.length by omega)
  have hxL:L.getD t []∈L:=bB (by omega)
  have ix:L.idxOf (L.getD t [])=t:=by
   rw[List.getD_eq_getElem?_getD,iK (by omega)];exact E.nodup.idxOf_getElem _ _
  obtain⟨x,hx⟩:=exI (L.getD t [])
  rw[hx] at s1 X hxL ix
  have c2:h2.cell idL (offL+t)=some ve:=by rw[F.cell b1];exact c1
  simp(disch:=omega)only[go_sem,d1,shL.ixa,c2]
  refine (Uf D ve n G L K x h2 (by omega) (d.mono F) X hxL (s1.mono F)).mono ?_
  rw[ix]
  rintro _ h3 ⟨rfl,f3⟩
  have F3:=F.trans f3
  have gM3:h3.get M=some (.wmap (.arr 2 .i64) (iW Vr m)):=by rw[f3.get _ nM];exact gM
  have n3:=f3.next
  by_cases hi:fQ G L K t=i
  case neg=>
   have d2:decide (((fQ G L K t:Nat):Int)≠(i:Int))=true:=nL (by omega);simp(disch:=omega)only[go_sem,d2];rw[iJ t];refine⟨m0-(t+1),by omega,t+1,m,aA rfl,by omega,gM3,pm,λj k hk=>?_,by omega,F3,rfl⟩;rw[lk j k hk,Er,if_neg (λe=>hi e.1),Nat.add_zero]
  have d2:decide (((fQ G L K t:Nat):Int)≠(i:Int))=false:=jC (by omega)
  simp(disch:=omega)only[go_sem,d2,H.aE (gD1 h3 F3),lvC]
  refine aI (λk' vars hh=> ∃(k:Nat) (m:List ((Nat×Nat)×V)),(∃g:Nat->V,vars= [.ptr D 0,aB i,g 2,.mp M,ve,g 5,g 6,g 7,g 8,g 9,vL,aB m0,aB t,g 13,g 14,vC,aB r,aB k,g 18,g 19,g 20,g 21,g 22,g 23,g 24])/\k<=r/\hh.get M=some (.wmap (.arr 2 .i64) (iW Vr m))/\(∀p∈m,WQ p.1)/\(∀j k',k'<r->(Kz m (j,k')).getD (aB 0)= aB (Ga G L K i k' (if k'<k then t+1 else t) j:Nat))/\M<hh.next/\Fr h hh/\k'=r-k) r
   ⟨0,m,aA rfl,lG _,gM3,pm,λj k hk=>by rw[if_neg (by omega)];exact lk j k hk,by omega,F3,rfl⟩ ?_
  clear gM pm lk nM F f3 F3 gM3 n3
  rintro k' vars h4 ⟨k,m,⟨g',rfl⟩,hk,gM,pm,lk,nM,F,rfl⟩
  by_cases hlk:(k:Int)<(r:Int)
  case neg=>
   have d3:decide ((k:Int)<(r:Int))=false:=decide_eq_false hlk;obtain rfl:k=r:=by omega
   simp(disch:=omega)only[go_sem,d3];rw[iJ t];exact⟨m0-(t+1),by omega,t+1,m,aA rfl,by omega,gM,pm,λj k' hk'=>by rw[lk j k' hk',if_pos hk'],nM,F,rfl⟩
  have d3:decide ((k:Int)<(r:Int))=true:=decide_eq_true hlk
  have hkr:k<r:=by omega
  obtain⟨bC,rep,cr,_,rw3,sr⟩:=cC k hkr
  obtain⟨z,hz⟩:=exI (L.getD (K.getD k 0) [])
  rw[hz] at sr rw3
  have hKk:K.getD k 0<L.length:=ik.lt (bB (by omega))
  have Z:bG n z:=by rw[←hz];exact jU hG E hKk
  have hzL:z∈L:=by rw[←hz];exact bB hKk
  have w3:=sr.eD
  have r4:h4.row idC (offC+k*3) 3=some [rep,aB (jZ z n:Int),aB ((gO G L (K.getD k 0)).length:Int)]:=by
   have:h4.row idC (offC+k*3) 3=h.row idC (offC+k*3) 3:=by unfold H.row;rw[F.get _ bC]
   rw[this];exact rw3
  obtain⟨A,hA⟩:=exI h4.next
  obtain⟨h5,e5,n5,g5,o5,f5⟩:=iX hA [.aC,aB 0,aB 0]
  obtain⟨h6,e6,n6,g6,o6⟩:=Bv h5 A [rep,aB (jZ z n:Int),aB ((gO G L (K.getD k 0)).length:Int)]
  have f46:Fr h4 h6:=⟨by omega,λq hq=>by rw[o6 q (by omega),o5 q (by omega)]⟩
  have F6:=F.trans f46
  have gM6:h6.get M=some (.wmap (.arr 2 .i64) (iW Vr m)):=by rw[f46.get _ nM];exact gM
  have evx:=s1.eN
  have evr:=sr.eN
  simp(disch:=omega)only[go_sem,d3,shC.ixa,r4,hA,e5,nX h5 A 0 (v:=rep) (u:= aB (jZ z n:Int)) (w:= aB ((gO G L (K.getD k 0)).length:Int)) w3.2.1 rfl rfl,g5,kM,e6,H.aE (gD1 h6 F6),H.aE g6]
  have fb:=(Fr.refl h6).bJ (n:=h6.next+17) (by omega)
  refine (QX ve rep n x z _ (by omega) X Z (s1.mono (F6.trans fb)) (sr.mono (F6.trans fb))).mono ?_
  rintro _ h7 ⟨rfl,f7⟩
  have f67:=fb.trans f7
  have F7:=F6.trans f67
  have gM7:h7.get M=some (.wmap (.arr 2 .i64) (iW Vr m)):=by rw[f67.get _ (by have:=f46.next;omega)];exact gM6
  have gN7:h7.get Mn=some (.wmap (.arr 64 .u8) (iW Rl ln)):=by rw[F7.get _ hMn];exact gMn
  have Qx:=X.inv.mul Z
  have hGx:G (aS (cF x) z):=hG.mul (hG.inv ((E.mem x).1 hxL)) ((E.mem z).1 hzL)
  obtain⟨iq,eq'⟩:=Eg E hGx
  obtain⟨q,hq⟩:=exI (fQ G L K (L.idxOf (aS (cF x) z)))
  have hqr:q<r:=by rw[←hq,←hrr];exact (tV hG E ik iq).1
  have lk1:=lkn _ (show L.idxOf (aS (cF x) z)<m0 by omega)
  rw[eq',hq] at lk1
  have lo:=λw=>tS (Iq (n:=n) (by omega)) (λa A=>Cc (n:=n) (by omega) a A) kln Qx w
  rw[lk1] at lo
  have PQ:WQ (q,k):=⟨by show q<1000000;omega,by show k<1000000;omega⟩
  have ql:Vp G L K t k=q:=by unfold Vp;rw[hx,hz];exact hq
  have lc:=lk q k hkr
  rw[if_neg (by omega)] at lc
  obtain⟨c,hc⟩:=exI (Ga G L K i k t q)
  rw[hc] at lc
  have cle:c<=t:=by rw[←hc];exact BS ..
  have lo2:=tS Po Hn pm PQ (aB 0)
  rw[lc] at lo2
  have epk:V.agg [aB q,aB k]=Vr (q,k):=rfl
  obtain⟨we,ni,m1,h8,ee,n8,o8,gM8,pm1,lk8,en⟩:=AE Po Hn pm PQ (aB 0) (aB (c+1:Nat)) h7 M gM7
  have lo3:=tS Po Hn pm1 PQ (aB 0)
  rw[lk8,lc] at lo3
  have lo2':Ld (some (.wmap (.arr 2 .i64) (iW Vr m))) (.arr 2 .i64) (aB 0) false (V.agg [aB q,aB k])=_:=lo2
  have lo3':Ld (some (.wmap (.arr 2 .i64) (iW Vr m1))) (.arr 2 .i64) (aB 0) false (V.agg [aB q,aB k])=_:=lo3
  have ee':Xs (some (.wmap (.arr 2 .i64) (iW Vr m))) h7 M (.arr 2 .i64) (aB 0) (V.agg [aB q,aB k])=_:=ee
  have gD7:=gD1 h7 F7
  have gD8:h8.get D=some (.cells false [vL,vC,.mp Mn]):=by rw[o8 D (by omega)];exact gD7
  simp(disch:=omega)only[go_sem,H.aE gD7,gN7,lo,Option.getD_some,NY,gM7,lo2',show (c:Int)+1=((c+1:Nat):Int) from rfl,ee',gM8,lo3',en]
  have ok:SN h8 (.lkw (.arr 2 .i64) (aB 0) false (.c (.mp M)) (.c (.agg [aB q,aB k]))) (aB c)=true:=by
   simp only[SN,Oq,xv,Qc,gM8,lo3',Option.map_some,okV];simp [eN]
  rw[iJ k]
  have n7':=F7.next
  refine⟨by simp [eN],ok,r-(k+1),by omega,k+1,_,aA rfl,by omega,rfl,Ec PQ pm,λj k' hk'=>?_,by rw[n8];have:=f67.next;omega,⟨by show h.next<=h8.next;omega,λp hp=>by rw[H.aH _ (by omega),o8 p (by omega)];exact F7.get p hp⟩,rfl⟩
  rw[Hl]
  by_cases e:(j,k')=(q,k)
  ·cases e
   rw[if_pos rfl,if_pos (by omega),Er,if_pos ⟨hi,ql⟩,hc]
   rfl
  ·rw[if_neg e,lk j k' hk']
   by_cases ek:k'=k
   ·subst ek
    rw[if_neg (by omega),if_pos (by omega),Er,if_neg (λh=>e (by rw[←h.2,ql]))]
    rfl
   ·by_cases e2:k'<k
    ·rw[if_pos e2,if_pos (by omega)]
    ·rw[if_neg e2,if_neg (by omega)]
 rintro vars hA ⟨m,⟨g,rfl⟩,gM,pm,lk,nM,FA⟩
 obtain⟨Q,hQ⟩:=exI hA.next
 obtain⟨hB,eB,nB,gB,oB,fB⟩:=iX hQ (rc r λ_=> .aC)
 simp(disch:=omega)only[go_sem,H.aE (gD1 hA FA),lvC,KC hA r (by omega),hQ,eB]
 refine aI (λk' vars hh=> ∃(j:Nat) (ρ:Nat->Nat),(∃g:Nat->V,vars= [.ptr D 0,g 1,g 2,.mp M,g 4,g 5,g 6,.sl Q 0 r (.kn r),g 8,g 9,g 10,g 11,g 12,g 13,g 14,g 15,g 16,g 17,g 18,aB r,aB j,g 21,g 22,g 23,g 24])/\j<=r/\hh.get Q=some (.cells false (rc r λa=>if a<j then .sl (ρ a) 0 r (.kn r) else .aC))/\(∀a,a<j->Q<ρ a/\ρ a<hh.next/\hh.get (ρ a)=some (.cells false (rc r λk=> aB (nP G L K i a k:Nat))))/\Fr hA hh/\Q<hh.next/\k'=r-j) r
  ⟨0,λ_=>0,aA rfl,lG _,by rw[gB];rfl,λa h=>by omega,fB,by omega,rfl⟩ ?_
 rintro k' vars h2 ⟨j,ρ,⟨g',rfl⟩,hj,gQ,rows,F,nQ,rfl⟩
 have F0:=FA.trans F
 by_cases hlt:(j:Int)<(r:Int)
 case neg=>
  have d1:=jC hlt;obtain rfl:j=r:=by omega
  simp(disch:=omega)only[go_sem,d1];refine⟨⟨Q,ρ,by rw[hrr],by have:=FA.next;omega,nQ,?_,by rw[hrr];exact rows⟩,F0⟩;rw[gQ,hrr];congr 2;exact aU λa ha=>by rw[if_pos ha]
 have d1:=nL hlt
 have hjr:j<r:=by omega
 obtain⟨S,hS⟩:=exI h2.next
 obtain⟨h3,e3,n3,g3,o3,f3⟩:=iX hS (rc r λ_=> aB 0)
 have gQ3:h3.get Q=some (.cells false (rc r λa=>if a<j then .sl (ρ a) 0 r (.kn r) else .aC)):=by rw[o3 Q (by omega)];exact gQ
 obtain⟨h4,e4,n4,g4,o4⟩:=Bv h3 Q (rc r λa=>if a<j+1 then .sl (if a=j then S else ρ a) 0 r (.kn r) else .aC)
 have p4:fI (some (.cells false (rc r λa=>if a<j then .sl (ρ a) 0 r (.kn r) else .aC))) h3 Q j [.sl S 0 r (.kn r)]=some h4:=by
  rw[aX (by rw[cZ];exact hjr),fW,←e4];congr 4;refine aU λa ha=>?_
  by_cases e:a=j
  ·rw[if_pos e,if_pos (by omega),if_pos e]
  ·rw[if_neg e]
   by_cases e2:a<j
   ·rw[if_pos e2,if_pos (by omega),if_neg e]
   ·rw[if_neg e2,if_neg (by omega)]
 have F4:Fr hA h4:=⟨by have:=F.next;omega,λq hq=>by rw[o4 q (by omega),o3 q (by omega)];exact F.get q hq⟩
 have cQ4:h4.cell Q j=some (.sl S 0 r (.kn r)):=by
  rw[H.aE g4,kF hjr,if_pos (by omega),if_pos rfl]
 simp(disch:=omega)only[go_sem,d1,H.aE (gD1 h2 F0),lvC,kT h2 r (by omega),hS,e3,gQ3,p4,cQ4]
 refine aI (λk' vars hh=> ∃(k:Nat),(∃g:Nat->V,vars= [.ptr D 0,g 1,g 2,.mp M,g 4,g 5,g 6,.sl Q 0 r (.kn r),aB j,g 9,g 10,g 11,g 12,g 13,g 14,g 15,g 16,g 17,g 18,aB r,aB j,g 21,aB r,aB k,g 24])/\k<=r/\hh.get S=some (.cells false (rc r λa=> aB (if a<k then nP G L K i j a else 0:Nat)))/\Fx (· =S) h4 hh/\k'=r-k) r
  ⟨0,aA rfl,lG _,by rw[o4 S (by omega),g3];rfl,Fx.refl _ _,rfl⟩ ?_
 rintro k' vars h5 ⟨k,⟨g'',rfl⟩,hk,gS,F5,rfl⟩
 have n5:=F5.next
 have gQ5:h5.get Q=some (.cells false (rc r λa=>if a<j+1 then .sl (if a=j then S else ρ a) 0 r (.kn r) else .aC)):=by rw[F5.get Q (by omega) (by show Q≠S;omega)];exact g4
 have FA5:Fr hA h5:=⟨by have:=F4.next;omega,λq hq=>by rw[F5.get q (by have:=F4.next;omega) (by show q≠S;have:=F.next;omega)];exact F4.get q hq⟩
 by_cases hlk:(k:Int)<(r:Int)
 case neg=>
  have d3:decide ((k:Int)<(r:Int))=false:=decide_eq_false hlk;obtain rfl:k=r:=by omega
  simp(disch:=omega)only[go_sem,d3];rw[iJ j];refine⟨k-(j+1),by omega,j+1,λa=>if a=j then S else ρ a,aA rfl,by omega,gQ5,λa ha=>?_,FA5,by omega,rfl⟩;show Q<(if a=j then S else ρ a)/\(if a=j then S else ρ a)<h5.next/\h5.get (if a=j then S else ρ a)=_
  by_cases e:a=j
  ·subst e
   rw[if_pos rfl];refine⟨by omega,by omega,?_⟩;rw[gS];congr 2;exact aU λb hb=>by rw[if_pos hb]
  ·rw[if_neg e]
   obtain⟨r1,r2,r3⟩:=rows a (by omega);exact⟨r1,by omega,by rw[F5.get _ (by omega) (by show ρ a≠S;omega),o4 _ (by omega),o3 _ (by omega)];exact r3⟩
 have d3:decide ((k:Int)<(r:Int))=true:=decide_eq_true hlk
 have hkr:k<r:=by omega
 have gM5:h5.get M=some (.wmap (.arr 2 .i64) (iW Vr m)):=by rw[FA5.get _ nM];exact gM
 have PQ:WQ (j,k):=⟨by show j<1000000;omega,by show k<1000000;omega⟩
 have lo2:=tS Po Hn pm PQ (aB 0)
 rw[lk j k hkr] at lo2
 have lo2':Ld (some (.wmap (.arr 2 .i64) (iW Vr m))) (.arr 2 .i64) (aB 0) false (V.agg [aB j,aB k])=some (aB (nP G L K i j k:Nat)):=lo2
 have cQ5:h5.cell Q j=some (.sl S 0 r (.kn r)):=by
  rw[H.aE gQ5,kF hjr,if_pos (by omega),if_pos rfl]
 have pS:=λhh=>aX (vs:=rc r λa=> aB (if a<k then nP G L K i j a else 0:Nat)) (off:=k) (by rw[cZ];exact hkr) hh S (aB (nP G L K i j k:Nat))
 simp(disch:=omega)only[go_sem,d3,cQ5,NY,gM5,lo2',gS,pS]
 rw[iJ k]
 refine⟨r-(k+1),by omega,k+1,aA rfl,by omega,?_,?_,rfl⟩
 ·rw[fW]
  congr 2
  refine aU λa ha=>?_
  by_cases e:a=k
  ·rw[if_pos e,if_pos (by omega),e]
  ·rw[if_neg e]
   by_cases e2:a<k
   ·rw[if_pos e2,if_pos (by omega)]
   ·rw[if_neg e2,if_neg (by omega)]
 ·refine (F5.trans (Fx.of (W:=(· =S)) ((Fr.refl h5).bJ (n:=h5.next+12) (by omega))) λ_ _ h=>h).trans ?_ (λ_ _ h=>h)
  exact Fx.set _ (W:=(· =S)) rfl _
set_option maxHeartbeats 32000000
theorem Tx (f:Nat)(cs:List V)(vl vo:V)(l:List Int)(h:H)(ll:l.length<1000000)(I:Nat->V->H->Prop)(hI: ∀i v hh,I i v hh->SI hh vl l)(h0:I 0 vo h)
  (step: ∀i v hh,i<l.length->I i v hh->Ev T f ([v,aB i,aB (l.getD i 0)]++cs) hh (λv' h'=>I (i+1) v' h')):
  Ev T 64 [vl,vo,.fn f [] cs] h (λv h'=>I l.length v h'):=by
 refine bN kB rfl rfl ?_
 have lv:=(hI _ _ _ h0).lens
 simp(disch:=omega)only[go_sem,kB,aF,lv]
 refine aI (λk' vars hh=> ∃(i:Nat) (v:V),(∃g:Nat->V,vars= [g 0,v,.fn f [] cs,g 3,g 4,g 5,vl,aB (l.length:Int),aB i,g 9])/\i<=l.length/\I i v hh/\k'=l.length-i) l.length
  ⟨0,vo,aA rfl,lG _,h0,rfl⟩ ?_
 rintro k' vars hh ⟨i,v,⟨g,rfl⟩,hi,inv,rfl⟩
 by_cases hlt:(i:Int)<(l.length:Int)
 ·have d1:=nL hlt
  have hi':i<l.length:=by omega
  obtain⟨id,off,sh,hid,hc⟩:=(hI _ _ _ inv).open
  have c1:=hc i hi'
  simp(disch:=omega)only[go_sem,d1,sh.ixa,c1]
  refine (step i v hh hi' inv).mono ?_
  rintro v' h2 inv2
  simp(disch:=omega)only[go_sem]
  rw[iJ i]
  exact⟨l.length-(i+1),by omega,i+1,v',aA rfl,by omega,inv2,rfl⟩
 have d1:=jC hlt
 obtain rfl:i=l.length:=by omega
 simp(disch:=omega)only[go_sem,d1]
 exact inv
theorem RK (D S B1 B2 i:Nat)(vy:V)(n:Nat)(G:List Nat->Prop)(L:LN)(K:List Nat)(x y:List Int)(X Y:Nat)(h:H)(n7:n<=7)(hG:rO n G)(E:fL G L)(ik:Ap n G L K)(hl:L.length<=5040)(hr:K.length<=64)(d:Ib n G L K h D)
  (hx: ∀v∈x, -(X:Int)<=v/\v<=X) (hy: ∀v∈y, -(Y:Int)<=v/\v<=Y) (hXY:X*Y*5040<=4000000000000000000) (ly:y.length=K.length) (sy:SI h vy y) (hy': ∀id off m c,vy= .sl id off m c->id≠S) (hi:i<K.length)
  (g1:h.get B1=some (.cells false [.ptr D 0])) (g2:h.get B2=some (.cells false [vy])) (h1:B1<h.next) (h2:B2<h.next) (nS:S<h.next) (e1:B1≠S) (e2:B2≠S) (gS:h.get S=some (.cells false (rc K.length λk=> aB (Hj G L K x y k i 0)))):
  Ev T 96 [.sl S 0 K.length (.kn K.length),aB i,aB (x.getD i 0),.ptr B1 0,.ptr B2 0] h (λv h'=>v= .sl S 0 K.length (.kn K.length)/\h'.get S=some (.cells false (rc K.length λk=> aB (Hj G L K x y k (i+1) 0)))/\Fx (· =S) h h'):=by
 obtain⟨r,hrr⟩:=exI K.length
 refine bN jD rfl rfl ?_
 by_cases h0:x.getD i 0=0
 ·have d1:decide (x.getD i 0=0)=true:=decide_eq_true h0
  simp(disch:=omega)only[go_sem,jD,aF,d1]
  exact⟨by rw[gS];congr 2;exact aU λk _=>by rw[MX h0],Fx.refl _ _⟩
 have d1:decide (x.getD i 0=0)=false:=decide_eq_false h0
 simp(disch:=omega)only[go_sem,jD,aF,d1,H.aE g1]
 refine (Fz D i n G L K h n7 hG E ik hl hr d).mono ?_
 rintro vm ha ⟨⟨Q,ρ,rfl,bQ,nQ,gQ,rows⟩,fa⟩
 rw[hrr] at gS hr ly hi gQ rows
 have na:=fa.next
 have gSa:ha.get S=some (.cells false (rc r λk=> aB (Hj G L K x y k i 0))):=by rw[fa.get S nS];exact gS
 have hM:L.length*(X*Y)<=4000000000000000000:=Nat.le_trans (Nat.mul_le_mul_right _ hl) (by rw[Nat.mul_comm];exact hXY)
 have hsy:=λhh (f:Fx (· =S) ha hh)=>(show SI hh vy y from by
  have s2:=sy.mono fa;refine SV.fx s2 ?_ f
  cases vy with
  |sl q off m c=>exact λe=>hy' _ _ _ _ rfl e
  |_=>trivial)
 rw[hrr]
 simp(disch:=omega)only[go_sem]
 refine aI (λk' vars hh=> ∃(j:Nat),(∃g:Nat->V,vars= [.sl S 0 r (.kn r),g 1,aB (x.getD i 0),g 3,.ptr B2 0,g 5,g 6,g 7,g 8,g 9,g 10,.sl Q 0 r (.kn r),aB r,aB j,g 14,g 15,g 16,g 17,g 18])/\j<=r/\hh.get S=some (.cells false (rc r λk=> aB (Hj G L K x y k i j)))/\Fx (· =S) ha hh/\k'=r-j) r
  ⟨0,aA rfl,lG _,gSa,Fx.refl _ _,rfl⟩ ?_
 rintro k' vars hb ⟨j,⟨g,rfl⟩,hj,gSb,Fb,rfl⟩
 have nb:=Fb.next
 by_cases hlt:(j:Int)<(r:Int)
 case neg=>
  have d2:=jC hlt;obtain rfl:j=r:=by omega
  simp(disch:=omega)only[go_sem,d2];refine⟨?_,⟨by omega,λid h1 h2=>by rw[Fb.get id (by omega) h2,fa.get id h1]⟩⟩;rw[gSb];congr 2;exact aU λk hk=>by rw[←hrr,TC (λa ha=>aaE hG E ik ha (by omega))]
 have d2:=nL hlt
 have hjr:j<r:=by omega
 obtain⟨rq,rn,rg⟩:=rows j hjr
 have cQ:hb.cell Q j=some (.sl (ρ j) 0 r (.kn r)):=by
  rw[Fb.cell nQ (by show Q≠S;omega),H.aE gQ,kF hjr]
 simp(disch:=omega)only[go_sem,d2,cQ]
 refine aI (λk' vars hh=> ∃(k:Nat),(∃g:Nat->V,vars= [.sl S 0 r (.kn r),g 1,aB (x.getD i 0),g 3,.ptr B2 0,g 5,aB j,g 7,g 8,g 9,g 10,.sl Q 0 r (.kn r),aB r,aB j,g 14,.sl (ρ j) 0 r (.kn r),aB r,aB k,g 18])/\k<=r/\hh.get S=some (.cells false (rc r λa=> aB (Hj G L K x y a i (if a<k then j+1 else j))))/\Fx (· =S) ha hh/\k'=r-k) r
  ⟨0,aA rfl,lG _,gSb,Fb,rfl⟩ ?_
 rintro k' vars hc ⟨k,⟨g',rfl⟩,hk,gSc,Fc,rfl⟩
 have nc:=Fc.next
 by_cases hlk:(k:Int)<(r:Int)
 case neg=>
  have d3:decide ((k:Int)<(r:Int))=false:=decide_eq_false hlk;obtain rfl:k=r:=by omega
  simp(disch:=omega)only[go_sem,d3];rw[iJ j];refine⟨k-(j+1),by omega,j+1,aA rfl,by omega,?_,Fc,rfl⟩;rw[gSc];congr 2;exact aU λa ha=>by rw[if_pos ha]
 have d3:decide ((k:Int)<(r:Int))=true:=decide_eq_true hlk
 have hkr:k<r:=by omega
 have cR:hc.cell (ρ j) k=some (aB (nP G L K i j k:Nat)):=by
  rw[Fc.cell rn (by show ρ j≠S;omega),H.aE rg,kF hkr]
 have cS:hc.cell S k=some (aB (Hj G L K x y k i j)):=by
  rw[H.aE gSc,kF hkr,if_neg (by omega)]
 have cB:hc.cell B2 0=some vy:=by
  rw[Fc.cell (by omega) (by show B2≠S;omega),fa.cell h2,H.aE g2];rfl
 obtain⟨idy,offy,shy,hidy,hcy⟩:=(hsy hc Fc).open
 rw[ly] at shy hidy hcy
 have cY:=hcy j hjr
 have b1:=Ft (vV hx i) (vV hy j)
 have b2:=Mw (G:=G) (L:=L) (K:=K) hx hy k i j
 have b3:=Mw (G:=G) (L:=L) (K:=K) hx hy k i (j+1)
 rw[Vk] at b3
 have hXYs:X*Y<=L.length*(X*Y):=Nat.le_mul_of_pos_left _ (by have:=ik.lt (bB (d:=0) (show 0<K.length by omega));omega)
 obtain⟨u,hu⟩:=exI (x.getD i 0*y.getD j 0)
 obtain⟨w,hw⟩:=exI (u*((nP G L K i j k:Nat):Int))
 obtain⟨s,hs⟩:=exI (Hj G L K x y k i j)
 rw[hu,hs] at b3
 rw[hu] at b1
 rw[hs] at b2 cS
 rw[hw] at b3
 have pS:=λhh=>aX (vs:=rc r λa=> aB (Hj G L K x y a i (if a<k then j+1 else j))) (off:=k) (by rw[cZ];exact hkr) hh S (aB (s+w))
 simp(disch:=omega)only[go_sem,d3,cR,cS,cB,shy.ixa,cY,hu,hw,gSc,pS]
 rw[iJ k]
 refine⟨r-(k+1),by omega,k+1,aA rfl,by omega,?_,?_,rfl⟩
 ·rw[fW]
  congr 2
  refine aU λa ha=>?_
  by_cases e:a=k
  ·rw[if_pos e,if_pos (by omega),e,Vk,hu,hs,hw]
  ·rw[if_neg e]
   by_cases e2:a<k
   ·rw[if_pos e2,if_pos (by omega)]
   ·rw[if_neg e2,if_neg (by omega)]
 ·refine (Fc.trans (Fx.of (W:=(· =S)) ((Fr.refl hc).bJ (n:=hc.next+15) (by omega))) λ_ _ h=>h).trans ?_ (λ_ _ h=>h)
  exact Fx.set _ (W:=(· =S)) rfl _
structure GO (b r:Nat)(f:Nat->Int)(hh:H)(v:V):Prop where
 ex: ∃S,v= .sl S 0 r (.kn r)/\b<=S/\S<hh.next/\hh.get S=some (.cells false (rc r λk=> aB (f k)))
theorem GO.si {b r:Nat}{f:Nat->Int}{hh:H}{v:V}(o:GO b r f hh v):SI hh v ((List.range r).map f):=by
 obtain⟨S,rfl,_,nS,gS⟩:=o.ex
 have e:(rc r λk=>aB (f k))=ints ((List.range r).map f):=by
  simp [rc,ints,Function.comp_def]
 rw[e] at gS;exact SV.all (by rw[aJ,qX,List.length_range,Nat.mul_one]) nS gS _
theorem XX (D:Nat)(vx vy:V)(n:Nat)(G:List Nat->Prop)(L:LN)(K:List Nat)(x y:List Int)(X Y:Nat)(h:H)(n7:n<=7)(hG:rO n G)(E:fL G L)(ik:Ap n G L K)(hl:L.length<=5040)(hr:K.length<=64)(d:Ib n G L K h D)
  (hx: ∀v∈x, -(X:Int)<=v/\v<=X) (hy: ∀v∈y, -(Y:Int)<=v/\v<=Y) (hXY:X*Y*5040<=4000000000000000000) (lx:x.length=K.length) (ly:y.length=K.length) (sx:SI h vx x) (sy:SI h vy y):
  Ev T 60 [.ptr D 0,vx,vy] h (λv h'=>GO h.next K.length (QH G L K x y) h' v/\Fr h h'):=by
 refine bN mZ rfl rfl ?_
 obtain⟨vL,vC,Mn,ln,ks,gD,hD,hMn,sL,sC,al,gMn,kln,lkn⟩:=d.ex
 have lvC:=(oF (by omega) sC al).1
 obtain⟨B,hB⟩:=exI h.next
 obtain⟨h1,e1,n1,g1,o1,f1⟩:=iX hB [.ptr D 0]
 obtain⟨h2,e2,n2,g2,o2,f2⟩:=iX n1 [vy]
 obtain⟨h3,e3,n3,g3,o3,f3⟩:=iX n2 (rc K.length λ_=> aB 0)
 have wy:=SV.eD sy
 have F2:=f1.trans f2
 have F3:=F2.trans f3
 have gB2:h2.get B=some (.cells false [.ptr D 0]):=by rw[o2 B (by omega)];exact g1
 have gD2:h2.get D=some (.cells false [vL,vC,.mp Mn]):=by rw[F2.get _ hD];exact gD
 have gB3:h3.get B=some (.cells false [.ptr D 0]):=by rw[o3 B (by omega)];exact gB2
 have gC3:h3.get (B+1)=some (.cells false [vy]):=by rw[o3 (B+1) (by omega)];exact g2
 have b1:=oH (x:= .ptr D 0) rfl rfl h
 have b2:=oH wy.1 wy.2.1 h1
 simp(disch:=omega)only[go_sem,mZ,aF,b1,hB,e1,b2,n1,e2,H.aE gB2,H.aE gD2,lvC,kT h2 K.length (by omega),n2,e3]
 have hsx:=SV.in sx
 have hsy:=SV.in sy
 refine (Tx _ [.ptr B 0,.ptr (B+1) 0] vx (.sl (B+1+1) 0 K.length (.kn K.length)) x h3 (by omega) (λi v hh=>v= .sl (B+1+1) 0 K.length (.kn K.length)/\hh.get (B+1+1)=some (.cells false (rc K.length λk=> aB (Hj G L K x y k i 0)))/\Fx (· =B+1+1) h3 hh) ?_ ?_ ?_).mono ?_
 ·rintro i v hh ⟨_,_,F⟩
  refine SV.fx (sx.mono F3) ?_ F
  cases vx with
  |sl q off m c=>exact λe=>by have:=hsx _ _ _ _ rfl;omega
  |_=>trivial
 ·exact⟨rfl,by rw[g3];congr 2;exact aU λk _=>by rw[KF],Fx.refl _ _⟩
 ·rintro i v hh hi ⟨rfl,gS,F⟩
  have nF:=F.next
  have gg: ∀id,id<B+1+1->hh.get id=h3.get id:=λid h1=>F.get id (by omega) (by show id≠B+1+1;omega)
  have F0:Fr h hh:=⟨by omega,λq hq=>by rw[gg q (by omega)];exact F3.get q hq⟩
  refine (RK D (B+1+1) B (B+1) i vy n G L K x y X Y hh n7 hG E ik hl hr (d.mono F0) hx hy hXY ly (sy.mono F0) (λid off m c e=>by have:=hsy _ _ _ _ e;omega) (by omega) (by rw[gg _ (by omega)];exact gB3) (by rw[gg _ (by omega)];exact gC3) (by omega) (by omega) (by omega) (by omega) (by omega) gS).mono ?_
  rintro v' h' ⟨rfl,g',f'⟩
  exact⟨rfl,g',F.trans f' λ_ _ h=>h⟩
 ·rintro v h4 ⟨rfl,gS,F⟩
  have nF:=F.next
  simp(disch:=omega)only[go_sem]
  refine⟨⟨B+1+1,rfl,by omega,by omega,?_⟩,⟨by omega,λq hq=>by rw[F.get q (by omega) (by show q≠B+1+1;omega)];exact F3.get q hq⟩⟩
  rw[gS]
  congr 2
  exact aU λk _=>by rw[lx,UF λa ha=>(tV hG E ik ha).1]
set_option maxHeartbeats 16000000
noncomputable def Lg (G:List Nat->Prop)(L:LN)(K:List Nat)(i:Nat):List (List Int):=(List.range K.length).map λj=>zi ((List.range K.length).map (nP G L K i j))
theorem Rz {W0:Nat->Prop}(vc:V)(z:Int)(n:Nat)(O:LN)(R:qI)(G:List Nat->Prop)(h:H)(gc:GC W0 h vc n O R G)(L:LN)(hL:dD O R n 0 (bW n)=L):
  Ev T 23 [vc,aB z] h (λv h'=> ∃K,Ap n G L K/\Fr h h'/\(64<K.length/\v= .tup [.aC,aB 5]∨K.length<=64/\((z<0∨(K.length:Int)<=z)/\v= .tup [.aC,aB 2]∨ ∃(i:Nat) (vl:V),z=(i:Int)/\i<K.length/\v= .tup [vl,aB 0]/\SR h' vl (Lg G L K i)))):=by
 have gc0:=gc
 obtain⟨vO,vR,rfl,sO,sR⟩:=gc.ch
 refine bN mM rfl rfl ?_
 have oneO:vO.one=true:=QE sO
 have oneR:vR.one=true:=QF sR
 obtain⟨E,ll⟩:=kV gc.oG gc.isc
 have ll5:=nT gc
 rw[hL] at E ll
 obtain⟨B,hB⟩:=exI h.next
 obtain⟨h1,e1,n1,g1,o1,f1⟩:=iX hB [aB n,vO,vR]
 have bx:=fJ h (v:= aB n) (u:=vO) (w:=vR) rfl oneO oneR
 simp(disch:=omega)only[go_sem,mM,aF,bx,hB,e1,bX g1]
 refine (Hp _ n O R G h1 (gc0.mono f1) L hL).mono ?_
 rintro _ h2 ⟨K,ik,f2,⟨k64,rfl⟩|⟨k64,D,rfl,dat⟩⟩
 ·simp(disch:=omega)only[go_sem]
  refine aZ (λ_=>?_) (λhc=>(hc (by decide)).elim)
  simp(disch:=omega)only[go_sem]
  exact⟨K,ik,f1.trans f2,.inl ⟨k64,trivial⟩⟩
 simp(disch:=omega)only[go_sem]
 refine aZ (λhc=>(hc rfl).elim) (λ_=>?_)
 obtain⟨vL,vC,Mn,ln,ks,gD,hD,hMn,sL,sC,al,gMn,kln,lkn⟩:=dat.ex
 have lvC:=(oF (by omega) sC al).1
 by_cases hz:z<0
 ·have d1:decide (z<0)=true:=decide_eq_true hz
  simp(disch:=omega)only[go_sem,d1,Km]
  exact⟨K,ik,f1.trans f2,.inr ⟨k64,.inl ⟨.inl hz,trivial⟩⟩⟩
 have d1:decide (z<0)=false:=decide_eq_false hz
 by_cases hk:(K.length:Int)<=z
 ·have d2:=nL hk
  simp(disch:=omega)only[go_sem,d1,H.aE gD,lvC,d2]
  exact⟨K,ik,f1.trans f2,.inr ⟨k64,.inl ⟨.inr hk,trivial⟩⟩⟩
 have d2:=jC hk
 obtain⟨i,rfl⟩: ∃i:Nat,z=(i:Int):=⟨z.toNat,by omega⟩
 simp(disch:=omega)only[go_sem,d1,H.aE gD,lvC,d2]
 refine (Fz D i n G L K h2 gc.n7 gc.oG E ik (by omega) k64 dat).mono ?_
 rintro vl h3 ⟨s3,f3⟩
 simp(disch:=omega)only[go_sem]
 exact⟨K,ik,(f1.trans f2).trans f3,.inr ⟨k64,.inr ⟨i,vl,rfl,by omega,rfl,s3.sr⟩⟩⟩
set_option maxHeartbeats 32000000
theorem Qh (f:Nat)(cs:List V)(vl:V)(l:List Int)(h:H)(p:Int->Bool)(ll:l.length<1000000)(sl:SI h vl l)
  (hf: ∀i,i<l.length-> ∀hh,Fr h hh->Ev T f ([aB (l.getD i 0)]++cs) hh (λv h'=>v= .bool (p (l.getD i 0))/\Fr hh h')):
  Ev T 57 [vl,.fn f [] cs] h (λv h'=>v= .bool (l.any p)/\Fr h h'):=by
 refine bN gH rfl rfl ?_
 simp(disch:=omega)only[go_sem,gH,aF]
 refine Ev.mono (Q:=λv h'=> ∃z,v= aB z/\decide (0<=z)=l.any p/\Fr h h') ?_ ?_
 ·refine bN eG rfl rfl ?_
  have lv:=sl.lens
  obtain⟨id,off,sh,hid,hc⟩:=sl.open
  simp(disch:=omega)only[go_sem,eG,aF,lv]
  refine aI (λk' vars hh=> ∃(i:Nat),(∃g:Nat->V,vars= [vl,.fn f [] cs,g 2,g 3,aB (l.length:Int),aB i,g 6,g 7])/\i<=l.length/\(∀j,j<i->p (l.getD j 0)=false)/\Fr h hh/\k'=l.length-i) l.length
   ⟨0,aA rfl,lG _,λj hj=>by omega,Fr.refl _,rfl⟩ ?_
  rintro k' vars hh ⟨i,⟨g,rfl⟩,hi,pre,F,rfl⟩
  by_cases hlt:(i:Int)<(l.length:Int)
  ·have d1:=nL hlt
   have hi':i<l.length:=by omega
   have c1:hh.cell id (off+i)=some (aB (l.getD i 0)):=by rw[F.cell (hid (by omega)),hc i hi']
   simp(disch:=omega)only[go_sem,d1,sh.ixa,c1]
   refine (hf i hi' hh F).mono ?_
   rintro _ h2 ⟨rfl,f2⟩
   cases he:p (l.getD i 0) with
   |true=>
    simp(disch:=omega)only[go_sem];refine⟨_,rfl,?_,F.trans f2⟩;rw[nL (by omega)];symm;exact List.any_eq_true.2 ⟨_,bB hi',he⟩
   |false=>
    simp(disch:=omega)only[go_sem];rw[iJ i];refine⟨l.length-(i+1),by omega,i+1,aA rfl,by omega,λj hj=>?_,F.trans f2,rfl⟩
    by_cases e:j=i
    ·rw[e];exact he
    ·exact pre j (by omega)
  have d1:=jC hlt
  obtain rfl:i=l.length:=by omega
  simp(disch:=omega)only[go_sem,d1]
  refine⟨_,rfl,?_,F⟩
  symm
  rw[jC (by omega)]
  refine List.any_eq_false.2 λx hx=>?_
  obtain⟨j,hj,ej⟩:=Gx.1 hx
  have:=pre j hj
  rw[List.getD_eq_getElem?_getD,iK hj] at this
  rw[←ej]
  simpa using this
 rintro _ h2 ⟨z,rfl,hz,f2⟩
 simp(disch:=omega)only[go_sem,hz]
 exact f2
def Ih (r i:Nat):List Int:=(List.range r).map λk=>if k=i then 1 else 0
theorem Sn (r i:Nat):(Ih r i).length=r:=by simp [Ih]
theorem Yp (r i:Nat): ∀v∈Ih r i, -((1:Nat):Int)<=v/\v<=(1:Nat):=λv hv=>by
 obtain⟨k,_,rfl⟩:=xV.1 hv;split<;>omega
noncomputable def Cn (G:List Nat->Prop)(L:LN)(K:List Nat)(l:List Nat):List Int:=l.foldl (λc i=>(List.range K.length).map (QH G L K (Ih K.length i) c)) (Ih K.length 0)
theorem Fg (G:List Nat->Prop)(L:LN)(K:List Nat)(l:List Nat){k:Nat}(hk:k<l.length):Cn G L K (l.take (k+1))=(List.range K.length).map (QH G L K (Ih K.length (l.getD k 0)) (Cn G L K (l.take k))):=by
 have e:l.take (k+1)=l.take k++ [l.getD k 0]:=by
  rw[List.take_add_one,iK hk,List.getD_eq_getElem?_getD,iK hk];rfl
 unfold Cn;rw[e,List.foldl_append];rfl
theorem Va (G:List Nat->Prop)(L:LN)(K:List Nat)(l:List Nat): ∀k,k<=l.length->(Cn G L K (l.take k)).length=K.length
 |0,_=>by unfold Cn;exact Sn _ _
 |k+1,h=>by rw[Fg G L K l (by omega),qX,List.length_range]
theorem LQ (G:List Nat->Prop)(L:LN)(K:List Nat)(l:List Nat)(hl:L.length<=5040): ∀k,k<=l.length-> ∀v∈Cn G L K (l.take k), -((5040^k:Nat):Int)<=v/\v<=(5040^k:Nat)
 |0,_=>by unfold Cn;exact Yp _ _
 |k+1,h=>by
  rw[Fg G L K l (by omega)];intro v hv;obtain⟨q,_,rfl⟩:=xV.1 hv;have b:=EV (G:=G) (L:=L) (K:=K) (Yp K.length (l.getD k 0)) (LQ G L K l hl k (by omega)) q;have:L.length*(1*5040^k)<=5040^(k+1):=by rw[Nat.one_mul,Nat.pow_succ,Nat.mul_comm];exact Nat.mul_le_mul_left _ hl
  omega
structure Yc (n:Nat)(G:List Nat->Prop)(L:LN)(K:List Nat)(D E:Nat)(hh:H):Prop where
 d:Ib n G L K hh D
 g:hh.get E=some (.cells false [.ptr D 0])
 nx:E<hh.next
theorem Yc.mono {n:Nat}{G:List Nat->Prop}{L:LN}{K:List Nat}{D E:Nat}{h h':H}(c:Yc n G L K D E h)(f:Fr h h'):Yc n G L K D E h':=⟨c.d.mono f,by rw[f.get _ c.nx];exact c.g,kY c.nx f.next⟩
theorem CR (D E:Nat)(x:Int)(n:Nat)(G:List Nat->Prop)(L:LN)(K:List Nat)(h:H)(hr:K.length<=64)(c:Yc n G L K D E h):
  Ev T 62 [aB x,.ptr E 0] h (λv h'=>v= .bool (decide (x<0∨(K.length:Int)<=x))/\Fr h h'):=by
 refine bN lF rfl rfl ?_
 obtain⟨vL,vC,Mn,ln,ks,gD,hD,hMn,sL,sC,al,gMn,kln,lkn⟩:=c.d.ex
 have lvC:=(oF (by omega) sC al).1
 by_cases hz:x<0
 ·have d1:decide (x<0)=true:=decide_eq_true hz
  simp(disch:=omega)only[go_sem,lF,aF,d1,Km]
  exact⟨by rw[decide_eq_true (.inl hz)],Fr.refl _⟩
 have d1:decide (x<0)=false:=decide_eq_false hz
 simp(disch:=omega)only[go_sem,lF,aF,d1,H.aE c.g,H.aE gD,lvC]
 refine⟨?_,Fr.refl _⟩
 congr 1
 rw[decide_eq_decide]
 omega
theorem Mk (D E i:Nat)(n:Nat)(G:List Nat->Prop)(L:LN)(K:List Nat)(h:H)(hr:K.length<=64)(c:Yc n G L K D E h)(hi:i<K.length):
  Ev T 63 [aB i,.ptr E 0] h (λv h'=>GO h.next K.length (λk=>if k=i then 1 else 0) h' v/\Fr h h'):=by
 refine bN oD rfl rfl ?_
 obtain⟨vL,vC,Mn,ln,ks,gD,hD,hMn,sL,sC,al,gMn,kln,lkn⟩:=c.d.ex
 have lvC:=(oF (by omega) sC al).1
 obtain⟨S,hS⟩:=exI h.next
 obtain⟨h1,e1,n1,g1,o1,f1⟩:=iX hS (rc K.length λ_=> aB 0)
 have pt:=λhh=>aX (vs:=rc K.length λ_=> aB 0) (off:=i) (by rw[cZ];exact hi) hh S (aB 1)
 simp(disch:=omega)only[go_sem,oD,aF,H.aE c.g,H.aE gD,lvC,kT h K.length (by omega),hS,e1,g1,pt]
 refine⟨⟨S,rfl,by omega,by show S<h1.next;omega,?_⟩,f1.set (by omega) _⟩
 rw[H.aT,fW]
 congr 2
 refine aU λa _=>?_
 by_cases e:a=i
 ·rw[if_pos e,if_pos e]
 ·rw[if_neg e,if_neg e]
theorem DC (D E Z i:Nat)(vo vk:V)(n:Nat)(G:List Nat->Prop)(L:LN)(K:List Nat)(y:List Int)(Y:Nat)(h:H)(n7:n<=7)(hG:rO n G)(Ee:fL G L)(ik:Ap n G L K)(hl:L.length<=5040)(hr:K.length<=64)(c:Yc n G L K D E h)(hi:i<K.length)
  (gZ:h.get Z=some (.cells false [.fn 63 [] [.ptr E 0]])) (hZ:Z<h.next) (hy: ∀v∈y, -(Y:Int)<=v/\v<=Y) (hY:Y*5040<=4000000000000000000) (ly:y.length=K.length) (sy:SI h vo y):
  Ev T 65 [vo,vk,aB i,.ptr E 0,.ptr Z 0] h (λv h'=>GO h.next K.length (QH G L K (Ih K.length i) y) h' v/\Fr h h'):=by
 refine bN oA rfl rfl ?_
 have ey:=sy.eN
 simp(disch:=omega)only[go_sem,oA,aF,H.aE c.g,H.aE gZ]
 have fb:=(Fr.refl h).bJ (n:=h.next+7) (by omega)
 refine (Mk D E i n G L K _ hr (c.mono fb) hi).mono ?_
 rintro v1 h1 ⟨r1,f1⟩
 have F1:=fb.trans f1
 have c1:=c.mono F1
 have e1:=r1.si.eN
 simp(disch:=omega)only[go_sem,H.aE c1.g]
 have si1:=r1.si
 have ei:(List.range K.length).map (λk=>if k=i then (1:Int) else 0)=Ih K.length i:=rfl
 rw[ei] at si1
 refine (XX D v1 vo n G L K (Ih K.length i) y 1 Y h1 n7 hG Ee ik hl hr c1.d (Yp _ _) hy (by rw[Nat.one_mul];exact hY) (Sn _ _) ly si1 (sy.mono F1)).mono ?_
 rintro v2 h2 ⟨⟨S,rfl,bS,nS,gS⟩,f2⟩
 have n1:=F1.next
 simp(disch:=omega)only[go_sem]
 exact⟨⟨S,rfl,by omega,nS,gS⟩,F1.trans f2⟩
theorem YI {W0:Nat->Prop}(vc vl:V)(l:List Int)(n:Nat)(O:LN)(R:qI)(G:List Nat->Prop)(h:H)(ll:l.length<1000000)(sl:SI h vl l)(gc:GC W0 h vc n O R G)(L:LN)(hL:dD O R n 0 (bW n)=L):
  Ev T 30 [vc,vl] h (λv h'=> ∃K,Ap n G L K/\Fr h h'/\(64<K.length/\v= .tup [aB 0,aB 5]∨K.length<=64/\(5<l.length/\v= .tup [aB 0,aB 4]∨l.length<=5/\((∃x∈l,x<0∨(K.length:Int)<=x)/\v= .tup [aB 0,aB 2]∨ ∃l':List Nat,l=zi l'/\(∀i∈l',i<K.length)/\v= .tup [aB ((Cn G L K l').getD 0 0),aB 0])))):=by
 have gc0:=gc
 obtain⟨vO,vR,rfl,sO,sR⟩:=gc.ch
 refine bN qW rfl rfl ?_
 have oneO:vO.one=true:=QE sO
 have oneR:vR.one=true:=QF sR
 have n7:=gc.n7
 have hG:=gc.oG
 obtain⟨Ee,lle⟩:=kV gc.oG gc.isc
 have ll5:=nT gc
 rw[hL] at Ee lle
 have lvl:=sl.lens
 obtain⟨B,hB⟩:=exI h.next
 obtain⟨h1,e1,n1,g1,o1,f1⟩:=iX hB [aB n,vO,vR]
 have bx:=fJ h (v:= aB n) (u:=vO) (w:=vR) rfl oneO oneR
 simp(disch:=omega)only[go_sem,qW,aF,bx,hB,e1,bX g1]
 refine (Hp _ n O R G h1 (gc0.mono f1) L hL).mono ?_
 rintro _ h2 ⟨K,ik,f2,⟨k64,rfl⟩|⟨k64,D,rfl,dat⟩⟩
 ·obtain⟨E,hE⟩:=exI h2.next
  obtain⟨h3,e3,n3,g3,o3,f3⟩:=iX hE [.nilp]
  have pt:=λhh=>aX (vs:= [V.nilp]) (off:=0) (by simp) hh E .nilp
  simp(disch:=omega)only[go_sem,hE,e3,lE (show V.nilp.cells= [V.nilp] from rfl) rfl,g3,pt]
  refine aZ (λ_=>?_) (λhc=>(hc (by decide)).elim)
  simp(disch:=omega)only[go_sem]
  exact⟨K,ik,((f1.trans f2).trans f3).set (by have:=f2.next;omega) _,.inl ⟨k64,trivial⟩⟩
 obtain⟨E,hE⟩:=exI h2.next
 obtain⟨h3,e3,n3,g3,o3,f3⟩:=iX hE [.nilp]
 obtain⟨h4,e4,n4,g4,o4⟩:=Bv h3 E [.ptr D 0]
 have pt:fI (some (.cells false [V.nilp])) h3 E 0 [.ptr D 0]=some h4:=by rw[aX (by simp),←e4];rfl
 have f24:Fr h2 h4:=⟨by omega,λq hq=>by rw[o4 q (by omega),o3 q (by omega)]⟩
 have F4:=(f1.trans f2).trans f24
 have ce4:Yc n G L K D E h4:=⟨dat.mono f24,g4,by omega⟩
 simp(disch:=omega)only[go_sem,hE,e3,lE (show (V.ptr D 0).cells= [V.ptr D 0] from rfl) rfl,g3,pt]
 refine aZ (λhc=>(hc rfl).elim) (λ_=>?_)
 by_cases h5:(5:Int)<(l.length:Int)
 ·have d1:decide ((5:Int)<(l.length:Int))=true:=decide_eq_true h5
  simp(disch:=omega)only[go_sem,lvl,d1]
  exact⟨K,ik,F4,.inr ⟨k64,.inl ⟨by omega,trivial⟩⟩⟩
 have d1:decide ((5:Int)<(l.length:Int))=false:=decide_eq_false h5
 simp(disch:=omega)only[go_sem,lvl,d1]
 refine (Qh 62 [.ptr E 0] vl l h4 (λx=>decide (x<0∨(K.length:Int)<=x)) ll (sl.mono F4) (λi hi hh f=>CR D E _ n G L K hh k64 (ce4.mono f))).mono ?_
 rintro _ h5' ⟨rfl,f5⟩
 have F5:=F4.trans f5
 cases hany:l.any (λx=>decide (x<0∨(K.length:Int)<=x)) with
 |true=>
  simp(disch:=omega)only[go_sem];obtain⟨x,hx,hd⟩:=List.any_eq_true.1 hany;exact⟨K,ik,F5,.inr ⟨k64,.inr ⟨by omega,.inl ⟨⟨x,hx,by simpa using hd⟩,trivial⟩⟩⟩⟩
 |false=>
  have hall: ∀x∈l,0<=x/\x<(K.length:Int):=λx hx=>by
   have:=List.any_eq_false.1 hany x hx;simp only[decide_eq_true_iff] at this;omega
  obtain⟨l',hl'⟩: ∃l':List Nat,l=zi l':=⟨l.map Int.toNat,by
   unfold zi;rw[List.map_map];refine (List.map_id' l).symm.trans (List.map_congr_left λx hx=>?_);have:=hall x hx
   show x=((x.toNat:Nat):Int)
   omega⟩
  have hk': ∀i∈l',i<K.length:=λi hi=>by
   have:=hall (i:Int) (by rw[hl'];exact xV.2 ⟨i,hi,rfl⟩);omega
  have ce5:=ce4.mono f5;obtain⟨Z,hZ⟩:=exI h5'.next;obtain⟨h6,e6,n6,g6,o6,f6⟩:=iX hZ [.nilf];obtain⟨h7,e7,n7',g7,o7⟩:=Bv h6 Z [.fn 63 [] [.ptr E 0]];have pt7:fI (some (.cells false [V.nilf])) h6 Z 0 [.fn 63 [] [.ptr E 0]]=some h7:=by rw[aX (by simp),←e7];rfl
  have f57:Fr h5' h7:=⟨by omega,λq hq=>by rw[o7 q (by omega),o6 q (by omega)]⟩
  have ce7:=ce5.mono f57;have F7:=F5.trans f57;have Kpos:0<K.length:=(AY hG Ee ik).1;simp(disch:=omega)only[go_sem,hZ,e6,lE (show (V.fn 63 [] [.ptr E 0]).cells= [V.fn 63 [] [.ptr E 0]] from rfl) rfl,g6,pt7,H.aE g7];refine (Mk D E 0 n G L K h7 k64 ce7 Kpos).mono ?_;rintro v8 h8 ⟨r8,f8⟩;have ce8:=ce7.mono f8;have g8:h8.get Z=some (.cells false [.fn 63 [] [.ptr E 0]]):=by rw[f8.get Z (by omega)];exact g7
  have F8:=F7.trans f8;simp(disch:=omega)only[go_sem];refine (Tx 65 [.ptr E 0,.ptr Z 0] vl v8 l h8 ll (λi v hh=>SI hh v (Cn G L K (l'.take i))/\Fr h8 hh) (λi v hh s=>sl.mono (F8.trans s.2)) ⟨?_,Fr.refl _⟩ ?_).mono ?_
  ·exact r8.si
  ·rintro i v hh hi ⟨sv,f⟩
   have hil:i<l'.length:=by rw[hl',aP] at hi;exact hi
   have ei:l.getD i 0=((l'.getD i 0:Nat):Int):=by rw[hl'];exact oK (λk:Nat=>(k:Int)) (d:=0) hil
   rw[ei]
   have h4l:5040^i*5040<=4000000000000000000:=by
    have:i<=4:=by omega
    exact Nat.le_trans (Nat.mul_le_mul_right _ (Nat.pow_le_pow_right (by decide) this)) (by decide)
   refine (DC D E Z (l'.getD i 0) v _ n G L K (Cn G L K (l'.take i)) (5040^i) hh n7 hG Ee ik (by omega) k64 (ce8.mono f) (hk' _ (bB hil)) (by rw[f.get Z (by have:=f8.next;omega)];exact g8) (by have:=f8.next;have:=f.next;omega) (LQ G L K l' (by omega) i (by omega)) h4l (Va G L K l' i (by omega)) sv).mono ?_;rintro v' h' ⟨r',f'⟩;refine⟨?_,f.trans f'⟩;rw[Fg G L K l' hil];exact r'.si
  ·rintro v h9 ⟨sv,f9⟩
   have el:l.length=l'.length:=by rw[hl',aP]
   rw[el,List.take_length] at sv;obtain⟨id,off,sh,hid,hc⟩:=sv.open;have l0:(Cn G L K l').length=K.length:=by have:=Va G L K l' l'.length (jA _);rwa [List.take_length] at this
   rw[l0] at sh hid hc;have c0:h9.cell id off=some (aB ((Cn G L K l').getD 0 0)):=hc 0 Kpos;simp(disch:=omega)only[go_sem,sh.ixa,c0];exact⟨K,ik,F8.trans f9,.inr ⟨k64,.inr ⟨by omega,.inr ⟨l',hl',hk',rfl⟩⟩⟩⟩
set_option maxHeartbeats 8000000
theorem TB (u:V)(n:Nat)(a:List Nat)(h:H)(n0:1<=n)(hn:n<=64)(A:bG n a)(hu:SI h u (zi a)):
  Ev T 45 [u] h (λv h'=> ∃w,v= .tup [w,aB 0]/\SI h' w (zi (cF a))/\Fr h h'):=by
 refine bN Ao rfl rfl ?_
 have wu:=SV.eD hu
 obtain⟨h1,e1,n1,g1,o1,f1⟩:=iX (h:=h) rfl [u]
 simp(disch:=omega)only[go_sem,Ao,aF,dL h (z:= .aC) wu.1 wu.2.1,e1]
 refine (Uo _ [u] n h1 n0 hn (by simp) (SV.one (by omega) g1 (.kn 1)) (λi hi=>⟨a,A,?_⟩)).mono ?_
 ·have:i=0:=by simpa using hi
  subst this
  exact hu.mono f1
 rintro _ h2 ⟨rfl,f2⟩
 have f02:=f1.trans f2
 simp(disch:=omega)only[go_sem]
 refine aZ (λhc=>(hc rfl).elim) (λ_=>?_)
 simp(disch:=omega)only[go_sem]
 refine (Oj (rfl:T 79=some Kx) u n a h2 (by omega) A (hu.mono f02)).mono ?_
 rintro w h3 np
 simp(disch:=omega)only[go_sem]
 exact⟨w,rfl,(np.pv (W:=λ_=>False) id).si,f02.trans np.fr⟩
theorem Mc (u w:V)(n e:Nat)(a:List Nat)(h:H)(hn:n<=1000)(he:e<1000000)(A:bG n a)(hu:SI h u (zi a))(hw:SI h w (zi (bW n))):
  Ev T 70 [u,w,aB e,.fn 72 [] []] h (λv h'=>SI h' v (zi (pw n a e))/\Fr h h'):=by
 refine bN kX rfl rfl ?_
 simp(disch:=omega)only[go_sem,kX,aF]
 refine aI (λk' vs hh=> ∃(e':Nat) (vx va:V) (x b:List Nat),(∃g:Nat->V,vs= [vx,va,aB (e':Int),.fn 72 [] [],g 4,g 5,g 6])/\e'<1000000/\bG n x/\bG n b/\SI hh vx (zi x)/\SI hh va (zi b)/\aS b (pw n x e')=pw n a e/\Fr h hh/\k'=e') e
  ⟨e,u,w,a,bW n,aA rfl,he,A,bG.one n,hu,hw,eY (mL A e),Fr.refl h,rfl⟩ ?_
 rintro k' vars h1 ⟨e',vx,va,x,b,⟨g,rfl⟩,hl,X,B,sx,sb,heq,F,hk⟩
 subst hk
 by_cases hlt:(0:Int)<(k':Int)
 case neg=>
  have d1:=jC hlt;obtain rfl:k'=0:=by omega
  simp(disch:=omega)only[go_sem,d1];have h2:aS b (bW n)=pw n a e:=heq;rw[cI B] at h2;rw[←h2];exact⟨sb,F⟩
 have d1:=nL hlt
 have hpx: ∀k,aS x (pw n x k)=pw n x (k+1):=λk=>by
  have h2:=Vz X 1 k;rw[Qf X] at h2;rw[←h2,Nat.add_comm]
 have sq:=WZ X (k'/2)
 have tm:(k':Int).tmod 2=((k'%2:Nat):Int):=Ta k' 2
 have td:(k':Int).tdiv 2=((k'/2:Nat):Int):=rfl
 rcases Nat.mod_two_eq_zero_or_one k' with hm|hm
 ·have d2:decide (((0:Nat):Int)=1)=false:=rfl
  rw[hm] at tm
  simp(disch:=omega)only[go_sem,d1,tm,d2]
  refine (rI (rfl:T 72=some xG) vx vx x x h1 (by rw[X.len];omega) sx sx (λj hj=>by rw[X.len];exact X.eZ (by rw[←X.len];exact hj))).mono ?_
  rintro v1 h2 np
  simp(disch:=omega)only[go_sem,td]
  refine⟨k'/2,by omega,k'/2,v1,va,aS x x,b,aA rfl,by omega,X.mul X,B,(np.pv (W:=λ_=>False) id).si,sb.mono np.fr,?_,F.trans np.fr,rfl⟩
  rw[sq,show 2*(k'/2)=k' by omega];exact heq
 ·have d2:decide (((1:Nat):Int)=1)=true:=rfl
  rw[hm] at tm
  simp(disch:=omega)only[go_sem,d1,tm,d2]
  refine (rI (rfl:T 72=some xG) va vx b x h1 (by rw[B.len];omega) sb sx (λj hj=>by rw[X.len];exact B.eZ (by rw[←B.len];exact hj))).mono ?_
  rintro v0 h2 np0
  simp(disch:=omega)only[go_sem]
  refine (rI (rfl:T 72=some xG) vx vx x x h2 (by rw[X.len];omega) (sx.mono np0.fr) (sx.mono np0.fr) (λj hj=>by rw[X.len];exact X.eZ (by rw[←X.len];exact hj))).mono ?_
  rintro v1 h3 np
  simp(disch:=omega)only[go_sem,td]
  refine⟨k'/2,by omega,k'/2,v1,v0,aS x x,aS b x,aA rfl,by omega,X.mul X,B.mul X,(np.pv (W:=λ_=>False) id).si,(np0.pv (W:=λ_=>False) id).si.mono np.fr,?_,(F.trans np0.fr).trans np.fr,rfl⟩
  rw[sq,aW B X (mL X _),hpx,show 2*(k'/2)+1=k' by omega];exact heq
theorem QJ (u:V)(z:Int)(n:Nat)(a:List Nat)(h:H)(hz: -9223372036854775808<=z/\z<9223372036854775808)(n0:1<=n)(hn:n<=7)(A:bG n a)(hu:SI h u (zi a)):
  Ev T 39 [u,aB z] h (λv h'=> ∃w,v= .tup [w,aB 0]/\SI h' w (zi (zp n a z))/\Fr h h'):=by
 refine bN Bi rfl rfl ?_
 have lu:=hu.lens
 rw[aP,A.len] at lu
 simp(disch:=omega)only[go_sem,Bi,aF]
 refine (Sj u n a h n0 hn A hu).mono ?_
 rintro _ h1 ⟨rfl,f1⟩
 have op:=Cb (n:=n) A
 obtain⟨o,ho⟩:=exI (jZ a n)
 rw[ho] at op ⊢
 have o420:o<=420:=Nat.le_of_dvd (by decide) (by rw[←ho];exact Rt A hn)
 have hb:=Pg z (n:=(o:Int)) (by omega)
 have hf:=Sb z (n:=(o:Int)) (by omega)
 have hm0:=Int.emod_nonneg z (show (o:Int)≠0 by omega)
 have hm1:=Int.emod_lt_of_pos z (show (0:Int)<o by omega)
 obtain⟨m,hm⟩: ∃m:Nat,z%(o:Int)=m:=⟨(z%(o:Int)).toNat,by omega⟩
 have ez:zp n a z=pw n a m:=by unfold zp;rw[ho,hm];rfl
 rw[hm] at hf hm1
 obtain⟨q,hq⟩:=exI (z.tmod (o:Int))
 rw[hq] at hb hf
 simp(disch:=omega)only[go_sem]
 refine aZ (λhc=>(hc rfl).elim) (λ_=>?_)
 have fin: ∀hh,Fr h1 hh->Ev T 71 [aB n] hh (λv h'=> ∃w,SI h' v (zi (bW n))/\w=v/\Fr h h'):=λhh f=>by
  refine (Hd (rfl:T 71=some Jc) n hh (by omega)).mono ?_;rintro w h3 np;exact⟨w,(np.pv (W:=λ_=>False) id).si,rfl,(f1.trans f).trans np.fr⟩
 by_cases hneg:q<0
 ·have d1:decide (q<0)=true:=decide_eq_true hneg
  rw[if_pos hneg] at hf
  simp(disch:=omega)only[go_sem,hq,d1,lu,hf]
  refine (fin h1 (Fr.refl _)).mono ?_
  rintro _ h2 ⟨w,sw,rfl,f2⟩
  simp(disch:=omega)only[go_sem]
  refine (Mc u w n m a h2 (by omega) (by omega) A (hu.mono f2) sw).mono ?_
  rintro v h3 ⟨s3,f3⟩
  simp(disch:=omega)only[go_sem]
  exact⟨v,rfl,by rw[ez];exact s3,f2.trans f3⟩
 ·have d1:decide (q<0)=false:=decide_eq_false hneg
  rw[if_neg hneg] at hf
  subst hf
  simp(disch:=omega)only[go_sem,hq,d1,lu]
  refine (fin h1 (Fr.refl _)).mono ?_
  rintro _ h2 ⟨w,sw,rfl,f2⟩
  simp(disch:=omega)only[go_sem]
  refine (Mc u w n m a h2 (by omega) (by omega) A (hu.mono f2) sw).mono ?_
  rintro v h3 ⟨s3,f3⟩
  simp(disch:=omega)only[go_sem]
  exact⟨v,rfl,by rw[ez];exact s3,f2.trans f3⟩
set_option maxHeartbeats 32000000
theorem PN (D f:Nat)(fs:List V)(g:Nat->Int)(n:Nat)(G:List Nat->Prop)(L:LN)(K:List Nat)(h:H)(hr:K.length<=64)(d:Ib n G L K h D)
  (hf: ∀i,i<K.length-> ∀hh,Fr h hh->Ev T f (fs++ [aB i]) hh (λv h'=>v= aB (g i)/\Fr hh h')):
  Ev T 41 [.ptr D 0,.fn f fs []] h (λv h'=>GO h.next K.length g h' v/\Fr h h'):=by
 refine bN mN rfl rfl ?_
 obtain⟨vL,vC,Mn,ln,ks,gD,hD,hMn,sL,sC,al,gMn,kln,lkn⟩:=d.ex
 have lvC:=(oF (by omega) sC al).1
 obtain⟨r,hrr⟩:=exI K.length
 rw[hrr] at lvC hr hf
 obtain⟨S,hS⟩:=exI h.next
 obtain⟨h1,e1,n1,g1,o1,f1⟩:=iX hS (rc r λ_=> aB 0)
 simp(disch:=omega)only[go_sem,mN,aF,H.aE gD,lvC,kT h r (by omega),hS,e1]
 refine aI (λk' vars hh=> ∃(i:Nat),(∃j:Nat->V,vars= [j 0,.fn f fs [],j 2,.sl S 0 r (.kn r),j 4,aB r,aB i,j 7])/\i<=r/\hh.get S=some (.cells false (rc r λk=> aB (if k<i then g k else 0)))/\Fr h hh/\S<hh.next/\k'=r-i) r
  ⟨0,aA rfl,lG _,g1,f1,by omega,rfl⟩ ?_
 rintro k' vars hh ⟨i,⟨j,rfl⟩,hi,gS,F,nS,rfl⟩
 by_cases hlt:(i:Int)<(r:Int)
 ·have d1:=nL hlt
  have hi':i<r:=by omega
  simp(disch:=omega)only[go_sem,d1]
  refine (hf i hi' hh F).mono ?_
  rintro _ h2 ⟨rfl,f2⟩
  have gS2:h2.get S=some (.cells false (rc r λk=> aB (if k<i then g k else 0))):=by rw[f2.get S nS];exact gS
  have pt:=λhh=>aX (vs:=rc r λk=> aB (if k<i then g k else 0)) (off:=i) (by rw[cZ];exact hi') hh S (aB (g i))
  simp(disch:=omega)only[go_sem,gS2,pt]
  rw[iJ i]
  have n2:=f2.next
  refine⟨r-(i+1),by omega,i+1,aA rfl,by omega,?_,(F.trans f2).set (by omega) _,by show S<h2.next;omega,rfl⟩
  rw[fW]
  congr 2
  refine aU λa ha=>?_
  by_cases e:a=i
  ·rw[if_pos e,if_pos (by omega),e]
  ·rw[if_neg e]
   by_cases e2:a<i
   ·rw[if_pos e2,if_pos (by omega)]
   ·rw[if_neg e2,if_neg (by omega)]
 have d1:=jC hlt
 obtain rfl:i=r:=by omega
 simp(disch:=omega)only[go_sem,d1]
 refine⟨⟨S,by rw[hrr],by omega,nS,?_⟩,F⟩
 rw[gS,hrr]
 congr 2
 exact aU λa ha=>by rw[if_pos ha]
noncomputable def IX (n:Nat)(L:LN)(z:Int)(t:Nat)(y:List Nat):Nat:=((List.range t).filter λa=>decide (zp n (L.getD a []) z=y)).length
theorem filter_one {α:Type}(p:α->Bool)(a:α):([a].filter p).length=if p a=true then 1 else 0:=by
 cases h:p a<;>simp [h]
theorem NV (n:Nat)(L:LN)(z:Int)(t:Nat)(y:List Nat):IX n L z (t+1) y=IX n L z t y+if zp n (L.getD t []) z=y then 1 else 0:=by
 unfold IX;rw[List.range_succ,List.filter_append,oS];rw[filter_one];simp only[decide_eq_true_iff]
theorem YA (n:Nat)(L:LN)(z:Int)(t:Nat)(y:List Nat):IX n L z t y<=t:=by
 unfold IX;exact Nat.le_trans (List.length_filter_le _ _) (by rw[List.length_range];exact jA _)
noncomputable def TO (n:Nat)(L:LN)(K:List Nat)(z:Int)(i:Nat):Nat:=IX n L z L.length (L.getD (K.getD i 0) [])
theorem YV (D M:Nat):uK [.nilp,.nilm] [(0,1,.ptr D 0),(1,1,.mp M)]=some (.agg [.ptr D 0,.mp M]):=rfl
theorem Wy (D M i:Nat)(n:Nat)(G:List Nat->Prop)(L:LN)(K:List Nat)(h:H)(z:Int)(m:List (List Nat×V))(n7:n<=7)(hG:rO n G)(E:fL G L)(ik:Ap n G L K)(hr:K.length<=64)(d:Ib n G L K h D)(hi:i<K.length)
  (gM:h.get M=some (.wmap (.arr 64 .u8) (iW Rl m))) (hM:M<h.next) (pm: ∀p∈m,bG n p.1) (lk: ∀y,bG n y->(Kz m y).getD (aB 0)= aB (IX n L z L.length y:Nat)):
  Ev T 42 [.agg [.ptr D 0,.mp M],aB i] h (λv h'=>v= aB (TO n L K z i:Nat)/\Fr h h'):=by
 refine bN nE rfl rfl ?_
 obtain⟨vL,vC,Mn,ln,ks,gD,hD,hMn,sL,sC,al,gMn,kln,lkn⟩:=d.ex
 obtain⟨lvC,eC,idC,offC,shC,cC⟩:=oF (by omega) sC al
 obtain⟨bC,rep,cr,_,rw3,sr⟩:=cC i hi
 have hKi:K.getD i 0<L.length:=ik.lt (bB hi)
 obtain⟨x,hx⟩:=exI (L.getD (K.getD i 0) [])
 rw[hx] at sr
 have X:bG n x:=by rw[←hx];exact jU hG E hKi
 obtain⟨A,hA⟩:=exI h.next
 obtain⟨h1,e1,n1,g1,o1,f1⟩:=iX hA [.ptr D 0,.mp M]
 have gD1:h1.get D=some (.cells false [vL,vC,.mp Mn]):=by rw[f1.get _ hD];exact gD
 have cr1:h1.cell idC (offC+i*3)=some rep:=by rw[f1.cell bC];exact cr
 simp(disch:=omega)only[go_sem,nE,aF,Nb h (v:= .ptr D 0) (u:= .mp M) rfl rfl,hA,e1,H.aE g1,H.aE gD1,shC.ixa,cr1]
 have fb:=(Fr.refl h1).bJ (n:=h1.next+14) (by omega)
 refine (Dc rep n x _ (by omega) X (sr.mono (f1.trans fb))).mono ?_
 rintro _ h2 ⟨rfl,f2⟩
 have F2:=f1.trans (fb.trans f2)
 have g2:h2.get A=some (.cells false [.ptr D 0,.mp M]):=by rw[(fb.trans f2).get A (by omega)];exact g1
 have gM2:h2.get M=some (.wmap (.arr 64 .u8) (iW Rl m)):=by rw[F2.get _ hM];exact gM
 have lo:=tS (Iq (n:=n) (by omega)) (λa A=>Cc (n:=n) (by omega) a A) pm X (aB 0)
 rw[lk x X] at lo
 simp(disch:=omega)only[go_sem,H.aE g2,gM2,lo]
 refine⟨by simp [eN],by unfold TO;rw[hx],F2⟩
theorem OD {W0:Nat->Prop}(vc:V)(z:Int)(n:Nat)(O:LN)(R:qI)(G:List Nat->Prop)(h:H)(hz: -9223372036854775808<=z/\z<9223372036854775808)(gc:GC W0 h vc n O R G)(L:LN)(hL:dD O R n 0 (bW n)=L):
  Ev T 12 [vc,aB z] h (λv h'=> ∃K,Ap n G L K/\Fr h h'/\(64<K.length/\v= .tup [.aC,aB 5]∨K.length<=64/\ ∃vl,v= .tup [vl,aB 0]/\SI h' vl (zi ((List.range K.length).map (TO n L K z))))):=by
 have gc0:=gc
 obtain⟨vO,vR,rfl,sO,sR⟩:=gc.ch
 refine bN rE rfl rfl ?_
 have oneO:vO.one=true:=QE sO
 have oneR:vR.one=true:=QF sR
 have n7:=gc.n7
 have n0:=gc.n0
 have hG:=gc.oG
 obtain⟨E,ll⟩:=kV gc.oG gc.isc
 have ll5:=nT gc
 rw[hL] at E ll
 obtain⟨B,hB⟩:=exI h.next
 obtain⟨h1,e1,n1,g1,o1,f1⟩:=iX hB [aB n,vO,vR]
 have bx:=fJ h (v:= aB n) (u:=vO) (w:=vR) rfl oneO oneR
 simp(disch:=omega)only[go_sem,rE,aF,bx,hB,e1,bX g1]
 refine (Hp _ n O R G h1 (gc0.mono f1) L hL).mono ?_
 rintro _ h2 ⟨K,ik,f2,⟨k64,rfl⟩|⟨k64,D,rfl,dat⟩⟩
 ·simp(disch:=omega)only[go_sem]
  refine aZ (λ_=>?_) (λhc=>(hc (by decide)).elim)
  simp(disch:=omega)only[go_sem]
  exact⟨K,ik,f1.trans f2,.inl ⟨k64,trivial⟩⟩
 simp(disch:=omega)only[go_sem]
 refine aZ (λhc=>(hc rfl).elim) (λ_=>?_)
 have F2:=f1.trans f2
 obtain⟨vL,vC,Mn,ln,ks,gD,hD,hMn,sL,sC,al,gMn,kln,lkn⟩:=dat.ex
 obtain⟨lvL,eL,idL,offL,ws,shL,cL⟩:=wV sL
 obtain⟨m0,hm0⟩: ∃m,L.length=m:=⟨_,rfl⟩
 rw[hm0] at lvL shL cL
 obtain⟨M,hM⟩:=exI h2.next
 obtain⟨h3,e3⟩:=exI (h2.new (.wmap (.arr 64 .u8) []))
 have n3:h3.next=M+1:=by rw[←e3,H.aV,hM]
 have g3:h3.get M=some (.wmap (.arr 64 .u8) []):=by rw[←e3,←hM];exact H.aL h2 _
 have o3: ∀k,k≠M->h3.get k=h2.get k:=λk hk=>by rw[←e3];exact H.bE h2 (by omega) _
 obtain⟨h4,e4,n4,g4,o4,f4⟩:=iX n3 [.nilp,.nilm]
 obtain⟨h5,e5,n5,g5,o5⟩:=Bv h4 (M+1) [.ptr D 0,.mp M]
 have F25:Fr h2 h5:=⟨by omega,λq hq=>by rw[o5 q (by omega),o4 q (by omega),o3 q (by omega)]⟩
 have gM5:h5.get M=some (.wmap (.arr 64 .u8) []):=by rw[o5 M (by omega),o4 M (by omega)];exact g3
 have gD5: ∀hh,Fr h2 hh->hh.get D=some (.cells false [vL,vC,.mp Mn]):=λhh f=>by rw[f.get _ hD];exact gD
 simp(disch:=omega)only[go_sem,hM,e3,YV,n3,e4,Cz h4 (M+1) 0 (v:= .ptr D 0) (u:= .mp M) rfl rfl,g4,zA,e5,H.aE (gD5 h5 F25),lvL]
 refine cV (λvs hh=> ∃(m:List (List Nat×V)),(∃g:Nat->V,vs= [g 0,g 1,g 2,g 3,g 4,.ptr D 0,g 6,.ptr (M+1) 0,g 8,g 9,g 10,g 11,g 12,g 13,g 14])/\hh.get M=some (.wmap (.arr 64 .u8) (iW Rl m))/\hh.get (M+1)=some (.cells false [.ptr D 0,.mp M])/\(∀p∈m,bG n p.1)/\(∀y,bG n y->(Kz m y).getD (aB 0)= aB (IX n L z L.length y:Nat))/\M+1<hh.next/\Fr h2 hh) ?_ ?_
 ·refine aI (λk' vars hh=> ∃(t:Nat) (m:List (List Nat×V)),(∃g:Nat->V,vars= [g 0,aB z,g 2,g 3,g 4,.ptr D 0,g 6,.ptr (M+1) 0,g 8,g 9,g 10,vL,aB m0,aB t,g 14])/\t<=m0/\hh.get M=some (.wmap (.arr 64 .u8) (iW Rl m))/\hh.get (M+1)=some (.cells false [.ptr D 0,.mp M])/\(∀p∈m,bG n p.1)/\(∀y,bG n y->(Kz m y).getD (aB 0)= aB (IX n L z t y:Nat))/\M+1<hh.next/\Fr h2 hh/\k'=m0-t) m0
   ⟨0, [],aA rfl,lG _,gM5,g5,λ_ h=>(by cases h),λy _=>rfl,by omega,F25,rfl⟩ ?_
  rintro k' vars h6 ⟨t,m,⟨g,rfl⟩,ht,gM,gR,pm,lk,nM,F,rfl⟩
  by_cases hlt:(t:Int)<(m0:Int)
  case neg=>
   have d1:=jC hlt;obtain rfl:t=m0:=by omega
   simp(disch:=omega)only[go_sem,d1];exact⟨m,aA rfl,gM,gR,pm,by rw[hm0];exact lk,nM,F⟩
  have d1:=nL hlt
  have htl:t<m0:=by omega
  obtain⟨b1,c1,s1⟩:=cL t htl
  generalize ws.getD t V.undef=ve at c1 s1
  have X:=jU hG E (show t<L.length by omega)
  have c2:h6.cell idL (offL+t)=some ve:=by rw[F.cell b1];exact c1
  simp(disch:=omega)only[go_sem,d1,shL.ixa,c2]
  refine (QJ ve z n (L.getD t []) h6 hz n0 n7 X (s1.mono F)).mono ?_
  rintro _ h7 ⟨w,rfl,sw,f7⟩
  have F7:=F.trans f7
  have n7':=f7.next
  have gM7:h7.get M=some (.wmap (.arr 64 .u8) (iW Rl m)):=by rw[f7.get _ (by omega)];exact gM
  have gR7:h7.get (M+1)=some (.cells false [.ptr D 0,.mp M]):=by rw[f7.get _ (by omega)];exact gR
  obtain⟨y,hy⟩:=exI (zp n (L.getD t []) z)
  have Y:bG n y:=by rw[←hy];exact mL X _
  rw[hy] at sw
  simp(disch:=omega)only[go_sem,H.aE gR7]
  have fb:=(Fr.refl h7).bJ (n:=h7.next+9) (by omega)
  refine (Dc w n y _ (by omega) Y (sw.mono fb)).mono ?_
  rintro _ h8 ⟨rfl,f8⟩
  have f78:=fb.trans f8
  have F8:=F7.trans f78
  have gM8:h8.get M=some (.wmap (.arr 64 .u8) (iW Rl m)):=by rw[f78.get _ (by omega)];exact gM7
  have gR8:h8.get (M+1)=some (.cells false [.ptr D 0,.mp M]):=by rw[f78.get _ (by omega)];exact gR7
  have hE:=λa b=>Iq (n:=n) (by omega) a b
  have hk:=λa=>Cc (n:=n) (by omega) a
  have lc:=lk y Y
  obtain⟨c,hc⟩:=exI (IX n L z t y)
  rw[hc] at lc
  have cle:c<=t:=by rw[←hc];exact YA ..
  have lo2:=tS hE hk pm Y (aB 0)
  rw[lc] at lo2
  obtain⟨we,ni,m1,h9,ee,n9,o9,gM9,pm1,lk9,en⟩:=AE hE hk pm Y (aB 0) (aB (c+1:Nat)) h8 M gM8
  have lo3:=tS hE hk pm1 Y (aB 0)
  rw[lk9,lc] at lo3
  have n78:=f78.next
  have ok:SN h9 (.lkw (.arr 64 .u8) (aB 0) false (.c (.mp M)) (.c (Rl y))) (aB c)=true:=by
   simp only[SN,Oq,xv,Qc,gM9,lo3,Option.map_some,okV];simp [eN]
  have gR9:h9.get (M+1)=some (.cells false [.ptr D 0,.mp M]):=by rw[o9 (M+1) (by omega)];exact gR8
  simp(disch:=omega)only[go_sem,H.aE gR8,gM8,lo2,show (c:Int)+1=((c+1:Nat):Int) from rfl,ee,gM9,ok,en]
  rw[iJ t]
  have nF:=F7.next
  refine⟨by simp [eN],m0-(t+1),by omega,t+1,_,aA rfl,by omega,rfl,gR9,Ec Y pm,λy' Y'=>?_,by show M+1<h9.next;omega,⟨by show h2.next<=h9.next;omega,λp hp=>by rw[H.aH _ (by omega),o9 p (by omega)];exact F8.get p hp⟩,rfl⟩
  rw[Hl,NV,hy]
  by_cases e:y'=y
  ·rw[if_pos e,if_pos e.symm,e,hc];rfl
  ·rw[if_neg e,if_neg (λh=>e h.symm),lk y' Y'];rfl
 rintro vars hA ⟨m,⟨g,rfl⟩,gM,gR,pm,lk,nM,FA⟩
 have rr:=Pe gR
 simp(disch:=omega)only[go_sem,rr]
 refine (PN D 42 [.agg [.ptr D 0,.mp M]] (λi=>((TO n L K z i:Nat):Int)) n G L K hA k64 (dat.mono FA) (λi hi hh f=>Wy D M i n G L K hh z m n7 hG E ik k64 (dat.mono (FA.trans f)) hi (by rw[f.get M (by omega)];exact gM) (by have:=f.next;omega) pm lk)).mono ?_
 rintro vl hB ⟨ro,fB⟩
 have s:=ro.si
 have e:(List.range K.length).map (λi=>((TO n L K z i:Nat):Int))=zi ((List.range K.length).map (TO n L K z)):=by
  unfold zi;rw[List.map_map];rfl
 rw[e] at s
 simp(disch:=omega)only[go_sem]
 exact⟨K,ik,(F2.trans FA).trans fB,.inr ⟨k64,vl,rfl,s⟩⟩
set_option maxHeartbeats 32000000
noncomputable def HH (G:List Nat->Prop)(L:LN)(K:List Nat)(i:Nat):Nat:=fQ G L K (L.idxOf (cF (L.getD (K.getD i 0) [])))
noncomputable def rU (G:List Nat->Prop)(L:LN)(K:List Nat)(k:Nat):Nat->Nat
 |0=>0
 |i+1=>rU G L K k i+nP G L K (HH G L K i) i k*(L.length/(gO G L (K.getD i 0)).length)
theorem CD {G:List Nat->Prop}{L:LN}{K:List Nat}(i j k:Nat):nP G L K i j k<=L.length:=BS ..
theorem BM {G:List Nat->Prop}{L:LN}{K:List Nat}(k:Nat): ∀i,rU G L K k i<=i*(L.length*L.length)
 |0=>lG _
 |i+1=>by
  rw[rU,Nat.succ_mul];exact Nat.add_le_add (BM k i) (Nat.mul_le_mul (CD ..) (Nat.div_le_self _ _))
theorem RO {W0:Nat->Prop}(vc:V)(n:Nat)(O:LN)(R:qI)(G:List Nat->Prop)(h:H)(gc:GC W0 h vc n O R G)(L:LN)(hL:dD O R n 0 (bW n)=L):
  Ev T 14 [vc] h (λv h'=> ∃K,Ap n G L K/\Fr h h'/\(64<K.length/\v= .tup [.aC,aB 5]∨K.length<=64/\ ∃vl,v= .tup [vl,aB 0]/\SI h' vl (zi ((List.range K.length).map λk=>rU G L K k K.length)))):=by
 have gc0:=gc
 obtain⟨vO,vR,rfl,sO,sR⟩:=gc.ch
 refine bN kW rfl rfl ?_
 have oneO:vO.one=true:=QE sO
 have oneR:vR.one=true:=QF sR
 have n7:=gc.n7
 have n0:=gc.n0
 have hG:=gc.oG
 obtain⟨E,ll⟩:=kV gc.oG gc.isc
 have ll5:=nT gc
 rw[hL] at E ll
 obtain⟨B,hB⟩:=exI h.next
 obtain⟨h1,e1,n1,g1,o1,f1⟩:=iX hB [aB n,vO,vR]
 have bx:=fJ h (v:= aB n) (u:=vO) (w:=vR) rfl oneO oneR
 simp(disch:=omega)only[go_sem,kW,aF,bx,hB,e1,bX g1]
 refine (Hp _ n O R G h1 (gc0.mono f1) L hL).mono ?_
 rintro _ h2 ⟨K,ik,f2,⟨k64,rfl⟩|⟨k64,D,rfl,dat⟩⟩
 ·simp(disch:=omega)only[go_sem]
  refine aZ (λ_=>?_) (λhc=>(hc (by decide)).elim)
  simp(disch:=omega)only[go_sem]
  exact⟨K,ik,f1.trans f2,.inl ⟨k64,trivial⟩⟩
 simp(disch:=omega)only[go_sem]
 refine aZ (λhc=>(hc rfl).elim) (λ_=>?_)
 have F2:=f1.trans f2
 obtain⟨vL,vC,Mn,ln,ks,gD,hD,hMn,sL,sC,al,gMn,kln,lkn⟩:=dat.ex
 obtain⟨r,hrr⟩:=exI K.length
 obtain⟨lvC,eC,idC,offC,shC,cC⟩:=oF (by omega) sC al
 obtain⟨lvL,eL,_⟩:=wV sL
 rw[hrr] at lvC shC cC k64
 have hl:L.length<=5040:=by omega
 obtain⟨S,hS⟩:=exI h2.next
 obtain⟨h3,e3,n3,g3,o3,f3⟩:=iX hS (rc r λ_=> aB 0)
 have gD': ∀hh,Fr h2 hh->hh.get D=some (.cells false [vL,vC,.mp Mn]):=λhh f=>by rw[f.get _ hD];exact gD
 simp(disch:=omega)only[go_sem,H.aE gD,lvC,kT h2 r (by omega),hS,e3,H.aE (gD' h3 f3)]
 refine aI (λk' vars hh=> ∃(i:Nat),(∃g:Nat->V,vars= [g 0,g 1,g 2,g 3,.ptr D 0,g 5,.sl S 0 r (.kn r),g 7,g 8,g 9,g 10,g 11,g 12,g 13,vC,aB r,aB i,g 17,g 18,g 19,g 20,g 21])/\i<=r/\hh.get S=some (.cells false (rc r λk=> aB (rU G L K k i:Nat)))/\Fr h2 hh/\S<hh.next/\k'=r-i) r
  ⟨0,aA rfl,lG _,g3,f3,by omega,rfl⟩ ?_
 rintro k' vars h4 ⟨i,⟨g,rfl⟩,hi,gS,F,nS,rfl⟩
 by_cases hlt:(i:Int)<(r:Int)
 case neg=>
  have d1:=jC hlt;obtain rfl:i=r:=by omega
  simp(disch:=omega)only[go_sem,d1];refine⟨K,ik,F2.trans F,.inr ⟨by omega,_,rfl,?_⟩⟩
  have e:(rc i λk=>aB (rU G L K k i:Nat))=ints (zi ((List.range i).map λk=>rU G L K k i)):=by
   simp [rc,ints,zi,Function.comp_def]
  rw[e] at gS;rw[hrr];exact SV.all (by rw[aJ,aP,qX,List.length_range,Nat.mul_one]) nS gS _
 have d1:=nL hlt
 have hir:i<r:=by omega
 obtain⟨bC,rep,cr,cz,rw3,sr⟩:=cC i hir
 have hKi:K.getD i 0<L.length:=ik.lt (bB (by omega))
 obtain⟨z,hz⟩:=exI (L.getD (K.getD i 0) [])
 obtain⟨c,hc⟩:=exI ((gO G L (K.getD i 0)).length)
 rw[hz] at sr rw3
 rw[hc] at rw3
 have c0:0<c:=by rw[←hc];exact List.length_pos_of_mem (jP.2 ⟨hKi,De hG E hKi⟩)
 have Z:bG n z:=by rw[←hz];exact jU hG E hKi
 have hzG:G z:=by rw[←hz];exact tF E hKi
 have w3:=sr.eD
 have r4:h4.row idC (offC+i*3) 3=some [rep,aB (jZ z n:Int),aB c]:=by
  have:h4.row idC (offC+i*3) 3=h2.row idC (offC+i*3) 3:=by unfold H.row;rw[F.get _ bC]
  rw[this];exact rw3
 obtain⟨A,hA⟩:=exI h4.next
 obtain⟨h5,e5,n5,g5,o5,f5⟩:=iX hA [.aC,aB 0,aB 0]
 obtain⟨h6,e6,n6,g6,o6⟩:=Bv h5 A [rep,aB (jZ z n:Int),aB c]
 have f46:Fr h4 h6:=⟨by omega,λq hq=>by rw[o6 q (by omega),o5 q (by omega)]⟩
 have F6:=F.trans f46
 simp(disch:=omega)only[go_sem,d1,shC.ixa,r4,hA,e5,nX h5 A 0 (v:=rep) (u:= aB (jZ z n:Int)) (w:= aB c) w3.2.1 rfl rfl,g5,kM,e6,H.aE g6]
 refine (TB rep n z h6 n0 (by omega) Z (sr.mono F6)).mono ?_
 rintro _ h7 ⟨w,rfl,sw,f7⟩
 have F7:=F6.trans f7
 have g7:h7.get A=some (.cells false [rep,aB (jZ z n:Int),aB c]):=by rw[f7.get _ (by omega)];exact g6
 have lvL7:dM vL=some (aB (L.length:Int)):=lvL
 have td:(L.length:Int).tdiv (c:Int)=((L.length/c:Nat):Int):=rfl
 have hdv:L.length/c<=5040:=Nat.le_trans (Nat.div_le_self _ _) hl
 have dvl:L.length/c<=L.length:=Nat.div_le_self _ _
 obtain⟨dv,hdv'⟩:=exI (L.length/c)
 rw[hdv'] at td hdv dvl
 have wr:IntKind.i64.wrap (dv:Int)=(dv:Int):=Zu (by omega) (by omega)
 simp(disch:=omega)only[go_sem,H.aE (gD' h7 F7),H.aE g7,lvL,td,wr]
 have fb:=(Fr.refl h7).bJ (n:=h7.next+9) (by omega)
 have hGi:G (cF z):=hG.inv hzG
 refine (Uf D w n G L K (cF z) _ (by omega) (dat.mono (F7.trans fb)) Z.inv ((E.mem _).2 hGi) (sw.mono fb)).mono ?_
 rintro _ h8 ⟨rfl,f8⟩
 have F8:=F7.trans (fb.trans f8)
 have eiv:fQ G L K (L.idxOf (cF z))=HH G L K i:=by unfold HH;rw[hz]
 rw[eiv]
 simp(disch:=omega)only[go_sem]
 refine (Fz D (HH G L K i) n G L K h8 n7 hG E ik hl (by omega) (dat.mono F8)).mono ?_
 rintro vm h9 ⟨⟨Q,ρ,rfl,bQ,nQ,gQ,rows⟩,f9⟩
 rw[hrr] at gQ rows
 obtain⟨rq,rn,rg⟩:=rows i hir
 have F9:=F8.trans f9
 have n46:=f46.next
 have n7':=f7.next
 have n8:=(fb.trans f8).next
 have n9:=f9.next
 have gS9:h9.get S=some (.cells false (rc r λk=> aB (rU G L K k i:Nat))):=by
  rw[f9.get S (by omega),(fb.trans f8).get S (by omega),f7.get S (by omega),f46.get S nS];exact gS
 have cQ:h9.cell Q i=some (.sl (ρ i) 0 r (.kn r)):=by rw[H.aE gQ,kF hir]
 rw[hrr]
 simp(disch:=omega)only[go_sem,cQ]
 have hLL:L.length*L.length<=5040*5040:=Nat.mul_le_mul hl hl
 refine aI (λk' vars hh=> ∃(k:Nat),(∃g:Nat->V,vars= [g 0,g 1,g 2,g 3,.ptr D 0,g 5,.sl S 0 r (.kn r),g 7,g 8,g 9,aB dv,g 11,g 12,g 13,vC,aB r,aB i,g 17,.sl (ρ i) 0 r (.kn r),aB r,aB k,g 21])/\k<=r/\hh.get S=some (.cells false (rc r λa=> aB (rU G L K a (if a<k then i+1 else i):Nat)))/\Fx (· =S) h9 hh/\k'=r-k) r
  ⟨0,aA rfl,lG _,gS9,Fx.refl _ _,rfl⟩ ?_
 rintro k' vars hc' ⟨k,⟨g',rfl⟩,hk,gSc,Fc,rfl⟩
 have nc:=Fc.next
 have F2c:Fr h2 hc':=⟨by have:=F9.next;omega,λq hq=>by rw[Fc.get q (by have:=F9.next;omega) (by show q≠S;omega)];exact F9.get q hq⟩
 by_cases hlk:(k:Int)<(r:Int)
 case neg=>
  have d3:decide ((k:Int)<(r:Int))=false:=decide_eq_false hlk;obtain rfl:k=r:=by omega
  simp(disch:=omega)only[go_sem,d3];rw[iJ i];refine⟨k-(i+1),by omega,i+1,aA rfl,by omega,?_,F2c,by omega,rfl⟩;rw[gSc];congr 2;exact aU λa ha=>by rw[if_pos ha]
 have d3:decide ((k:Int)<(r:Int))=true:=decide_eq_true hlk
 have hkr:k<r:=by omega
 have cR:hc'.cell (ρ i) k=some (aB (nP G L K (HH G L K i) i k:Nat)):=by
  rw[Fc.cell rn (by show ρ i≠S;omega),H.aE rg,kF hkr]
 have cS:hc'.cell S k=some (aB (rU G L K k i:Nat)):=by
  rw[H.aE gSc,kF hkr,if_neg (by omega)]
 have b1:=BM (G:=G) (L:=L) (K:=K) k i
 have b1':i*(L.length*L.length)<=64*(5040*5040):=Nat.mul_le_mul (by omega) hLL
 have b2:nP G L K (HH G L K i) i k*dv<=5040*5040:=Nat.mul_le_mul (Nat.le_trans (CD ..) hl) hdv
 have cs:rU G L K k (i+1)=rU G L K k i+nP G L K (HH G L K i) i k*dv:=by rw[rU,hc,hdv']
 obtain⟨u,hu⟩:=exI (nP G L K (HH G L K i) i k)
 rw[hu] at cR b2 cs
 obtain⟨s,hs⟩:=exI (rU G L K k i)
 rw[hs] at cS b1 cs
 have em:(u:Int)*(dv:Int)=((u*dv:Nat):Int):=rfl
 obtain⟨w2,hw⟩: ∃w,u*dv=w:=⟨_,rfl⟩
 rw[hw] at b2 cs em
 have ea:(s:Int)+(w2:Int)=((s+w2:Nat):Int):=rfl
 have pS:=λhh=>aX (vs:=rc r λa=> aB (rU G L K a (if a<k then i+1 else i):Nat)) (off:=k) (by rw[cZ];exact hkr) hh S (aB (s+w2:Nat))
 simp(disch:=omega)only[go_sem,d3,cR,cS,em,ea,gSc,pS]
 rw[iJ k]
 refine⟨r-(k+1),by omega,k+1,aA rfl,by omega,?_,Fc.trans (Fx.set _ (W:=(· =S)) rfl _) (λ_ _ h=>h),rfl⟩
 rw[fW]
 congr 2
 refine aU λa ha=>?_
 by_cases e:a=k
 ·rw[if_pos e,if_pos (by omega),e,cs]
 ·rw[if_neg e]
  by_cases e2:a<k
  ·rw[if_pos e2,if_pos (by omega)]
  ·rw[if_neg e2,if_neg (by omega)]
def quB (L:LN)(K:List Nat)(a k:Nat):Nat:=JY L K (L.idxOf (aS (cF (L.getD a [])) (L.getD (K.getD k 0) [])))
def aaO (L:LN)(K:List Nat)(i j k:Nat):Nat:=((List.range L.length).filter λa=>decide (JY L K a=i/\quB L K a k=j)).length
def mlB (L:LN)(K:List Nat)(x y:List Int)(k:Nat):Int:=sm L.length λa=>x.getD (JY L K a) 0*y.getD (quB L K a k) 0
def ZQ (L:LN)(K:List Nat)(l:List Nat):List Int:=l.foldl (λc i=>(List.range K.length).map (mlB L K (Ih K.length i) c)) (Ih K.length 0)
def zpB (n:Nat)(x:List Nat)(z:Int):List Nat:=pw n x (z%(Yz n x:Nat)).toNat
def rtB (n:Nat)(L:LN)(K:List Nat)(z:Int)(i:Nat):Nat:=((List.range L.length).filter λa=>decide (zpB n (L.getD a []) z=L.getD (K.getD i 0) [])).length
section
variable {n:Nat} {G:List Nat->Prop} {L:LN} {K:List Nat}
theorem AW (E:fL G L)(a k:Nat):Vp G L K a k=quB L K a k:=Qa E _
theorem MS (E:fL G L)(i j k:Nat):nP G L K i j k=aaO L K i j k:=by
 unfold nP Ga aaO;congr 2;funext a;rw[Qa E,AW E]
theorem UQ (E:fL G L)(x y:List Int)(k:Nat):QH G L K x y k=mlB L K x y k:=by
 unfold QH mlB;exact kS λa _=>by rw[Qa E,AW E]
theorem JP (E:fL G L)(l:List Nat):Cn G L K l=ZQ L K l:=by
 unfold Cn ZQ;congr 1;funext c i;exact List.map_congr_left λk _=>UQ E _ _ k
theorem SU (hG:rO n G)(E:fL G L)(hn:n<=7)(z:Int)(i:Nat):TO n L K z i=rtB n L K z i:=by
 unfold TO IX rtB;congr 1;refine List.filter_congr λa ha=>?_
 unfold zp zpB;rw[Wb hG E hn (Pl.1 ha)]
end
def T3:LN:= [[1,2,0], [1,0,2]]
theorem Im:fL (fF 3 (· ∈T3)) L3:=PE.abV (ws:= [[], [0,1], [1], [0], [0,0], [1,0]]) (by decide+kernel)
theorem aaP: ∀g∈T3,bG 3 g:=λg hg=>Rq ((show ∀g∈T3,Oa 3 g=true by decide+kernel) g hg)
theorem AR {G:List Nat->Prop}{L:LN}(E:fL G L){A:LN}(nd:A.Nodup)(h: ∀x∈A,G x):A.length<=L.length:=List.Nodup.length_le_of_subset nd λx hx=>(E.mem x).2 (h x hx)
theorem Ty (h:H):Ev T 34 [] h (λv h'=> ∃O R,GC (λid=>id<h.next) h' v 3 O R (fF 3 (· ∈T3))/\Fr h h'):=by
 refine bN uJ rfl rfl ?_;obtain⟨B,hB⟩:=exI h.next;obtain⟨h1,e1,n1,g1,o1,f1⟩:=iX hB [aB 0,.aC,.aC];obtain⟨h2,e2,n2,s2,f2⟩:=WY n1 [1,2,0];obtain⟨h3,e3,n3,s3,f3⟩:=WY n2 [1,0,2];obtain⟨h4,e4,n4,g4,o4,f4⟩:=iX n3 [.sl (B+1) 0 3 (.kn 3),.sl (B+1+1) 0 3 (.kn 3)];have F14:=(f2.trans f3).trans f4;have sp4:SP h4 (.sl (B+1+1+1) 0 2 (.kn 2)) T3:=SP.two (a:= [1,2,0]) (b:= [1,0,2]) (h:=h3) (s2.mono f3) s3 (by omega) f4 g4 _;simp(disch:=omega)only[go_sem,uJ,aF,hB,e1,n1,Wa,e2,n2,e3,n3,aaC _ (yY ..) (yY ..),e4];refine (Et 10 3 _ T3 h4 (by omega) (by omega) aaP (by decide) (λA nd hA=>Nat.le_trans (AR Im nd hA) (by decide)) sp4).mono ?_;rintro vA h5 ⟨A,EA,lA,sA,f5⟩;simp(disch:=omega)only[go_sem];refine (Bd vA 3 _ A h5 (by omega) (by omega) (fF.oG aaP) EA (by omega) sA).mono ?_;rintro vc h6 ⟨O,R,cw,isc,f6⟩
 have gc:GC (λid=>id<h5.next) h6 vc 3 O R (fF 3 (· ∈T3)):=⟨cw,isc,fF.oG aaP,by omega,by omega⟩
 obtain⟨u,w,rfl,a,b,_,_⟩:=gc.sl;have F16:=(F14.trans f5).trans f6;have n5:=(F14.trans f5).next
 have n6:=f6.next;have g6:h6.get B=some (.cells false [aB 0,.aC,.aC]):=by rw[F16.get B (by omega)];exact g1
 obtain⟨h7,e7,n7,g7,o7⟩:=Bv h6 B [aB (3:Nat),u,w];simp(disch:=omega)only[go_sem,nX h6 B 0 (v:= aB (3:Nat)) (u:=u) (w:=w) rfl a b,g6,kM,e7,bX g7];exact⟨O,R,gc.go (⟨by omega,λid h1 h2=>o7 id (by show id≠B;have: ¬id<h5.next:=h2;omega)⟩:Fx (λid=>id<h5.next) h6 h7) (λid h1 h2=>by show id<h5.next;omega),⟨by omega,λq hq=>by rw[o7 q (by omega),F16.get q (by omega),o1 q (by omega)]⟩⟩
theorem WG (h:H):Ev T 35 [] h (λv h'=> ∃O R,GC (λid=>id<h.next) h' v 4 O R (fF 4 (· ∈C4))/\Fr h h'):=by
 refine bN wE rfl rfl ?_;obtain⟨B,hB⟩:=exI h.next;obtain⟨h1,e1,n1,g1,o1,f1⟩:=iX hB [aB 0,.aC,.aC];obtain⟨h2,e2,n2,s2,f2⟩:=WY n1 [1,2,3,0];obtain⟨h4,e4,n4,g4,o4,f4⟩:=iX n2 [.sl (B+1) 0 4 (.kn 4)];have F14:=f2.trans f4;have sp4:SP h4 (.sl (B+1+1) 0 1 (.kn 1)) C4:=SP.acP (a:= [1,2,3,0]) (h:=h2) s2 (by omega) f4 g4 _;simp(disch:=omega)only[go_sem,wE,aF,hB,e1,n1,PF,e2,n2,dL _ (z:= .aC) (v:= .sl (B+1) 0 4 (.kn 4)) rfl rfl,e4];refine (Et 10 4 _ C4 h4 (by omega) (by omega) ZF (by decide) (λA nd hA=>Nat.le_trans (AR AS nd hA) (by decide)) sp4).mono ?_;rintro vA h5 ⟨A,EA,lA,sA,f5⟩;simp(disch:=omega)only[go_sem];refine (Bd vA 4 _ A h5 (by omega) (by omega) (fF.oG ZF) EA (by omega) sA).mono ?_;rintro vc h6 ⟨O,R,cw,isc,f6⟩
 have gc:GC (λid=>id<h5.next) h6 vc 4 O R (fF 4 (· ∈C4)):=⟨cw,isc,fF.oG ZF,by omega,by omega⟩
 obtain⟨u,w,rfl,a,b,_,_⟩:=gc.sl;have F16:=(F14.trans f5).trans f6;have n5:=(F14.trans f5).next
 have n6:=f6.next;have g6:h6.get B=some (.cells false [aB 0,.aC,.aC]):=by rw[F16.get B (by omega)];exact g1
 obtain⟨h7,e7,n7,g7,o7⟩:=Bv h6 B [aB (4:Nat),u,w];simp(disch:=omega)only[go_sem,nX h6 B 0 (v:= aB (4:Nat)) (u:=u) (w:=w) rfl a b,g6,kM,e7,bX g7];exact⟨O,R,gc.go (⟨by omega,λid h1 h2=>o7 id (by show id≠B;have: ¬id<h5.next:=h2;omega)⟩:Fx (λid=>id<h5.next) h6 h7) (λid h1 h2=>by show id<h5.next;omega),⟨by omega,λq hq=>by rw[o7 q (by omega),F16.get q (by omega),o1 q (by omega)]⟩⟩
set_option maxHeartbeats 16000000
theorem abK (v w:V)(a b:List Int)(h:H)(sa:SI h v a)(sb:SI h w b)(la:a.length<1000000)(lb:b.length<1000000):
  Ev T 36 [v,aB 0,w] h (λv h'=>v= .bool (decide (a=b))/\Fr h h'):=by
 refine bN Ba rfl rfl ?_
 simp(disch:=omega)only[go_sem,Ba,aF,decide_true]
 refine (qA v w a b h sa sb la lb).mono ?_
 rintro _ h1 ⟨rfl,f1⟩
 simp(disch:=omega)only[go_sem]
 exact f1
theorem aaZ (h:H){v u w:V}(hv:v.cells= [v]/\v.one=true)(hu:u.cells= [u]/\u.one=true)(hw:w.cells= [w]/\w.one=true):uY h 1 [.aC] 3 [(0,1,v),(1,1,u),(2,1,w)]=some (.sl h.next 0 3 (.kn 3),h.new (.cells false [v,u,w])):=by
 have e:eE [V.aC] 3= [.aC,.aC,.aC]:=rfl;simp [uY,jQ,e,putAt,hv.1,hv.2,hu.1,hu.2,hw.1,hw.2]
theorem TU:(List.range 3).map (λj=>zi ((List.range 3).map (aaO L3 [0,1,3] 1 j)))= [[0,1,0], [3,0,3], [0,2,0]]:=by decide+kernel
theorem QS:(ZQ L3 [0,1,3] [1,1,2]).getD 0 0=6:=by decide+kernel
theorem YG:zi ((List.range 4).map (rtB 4 L4 [0,2,1,3] 2))= [2,2,0,0]:=by decide+kernel
theorem OJ (h:H):Ev T 10 [] h (λv h'=>v= .bool true/\Fr h h'):=by
 refine bN uC rfl rfl ?_;simp(disch:=omega)only[go_sem,uC,aF];refine (Ty h).mono ?_;rintro vc h1 ⟨O,R,gc,f1⟩;simp(disch:=omega)only[go_sem];refine (Rz vc 1 3 O R _ h1 gc L3 (gc.el Im)).mono ?_;rintro w1 h2 ⟨K,ik,f2,hv⟩;obtain rfl:K= [0,1,3]:=HJ.eq gc.oG Im (by omega) XE ik
 obtain⟨vl,rfl,sl⟩: ∃vl,w1=V.tup [vl,aB 0]/\SR h2 vl (Lg (fF 3 (· ∈T3)) L3 [0,1,3] 1):=by
  rcases hv with ⟨h1,_⟩|⟨_,⟨h1,_⟩|⟨i,vl,e,_,rfl,s⟩⟩
  ·simp at h1
  ·simp at h1
  ·obtain rfl:i=1:=by omega
   exact⟨vl,rfl,s⟩
 clear hv
 have ec:Lg (fF 3 (· ∈T3)) L3 [0,1,3] 1= [[0,1,0], [3,0,3], [0,2,0]]:=by
  rw[←TU];unfold Lg;exact List.map_congr_left λj _=>by congr 1;exact List.map_congr_left λk _=>MS Im _ _ _
 rw[ec] at sl;simp(disch:=omega)only[go_sem];refine (Ty h2).mono ?_;rintro vc2 h3 ⟨O2,R2,gc2,f3⟩;obtain⟨h4,e4,n4,s4,f4⟩:=WY (h:=h3) rfl [1,1,2];simp(disch:=omega)only[go_sem,Wa,e4];refine (YI vc2 _ [1,1,2] 3 O2 R2 _ h4 (by decide) s4 (gc2.mono f4) L3 (gc2.el Im)).mono ?_;rintro w2 h5 ⟨K,ik2,f5,hv⟩;obtain rfl:K= [0,1,3]:=HJ.eq gc2.oG Im (by omega) XE ik2
 obtain rfl:w2=V.tup [aB 6,aB 0]:=by
  rcases hv with ⟨h1,_⟩|⟨_,⟨h1,_⟩|⟨_,⟨⟨x,hx,h1⟩,_⟩|⟨l',e,_,rfl⟩⟩⟩
  ·simp at h1
  ·simp at h1
  ·simp only[List.length_cons,List.length_nil] at h1
   simp only[List.mem_cons,List.not_mem_nil,or_false] at hx;omega
  ·have el:l'= [1,1,2]:=Be (e.symm.trans (by decide))
   rw[el,JP Im,QS]
 clear hv;simp(disch:=omega)only[go_sem];refine (WG h5).mono ?_;rintro vc3 h6 ⟨O3,R3,gc3,f6⟩;simp(disch:=omega)only[go_sem];refine (OD vc3 2 4 O3 R3 _ h6 (by omega) gc3 L4 (gc3.el AS)).mono ?_;rintro w3 h7 ⟨K,ik3,f7,hv⟩;obtain rfl:K= [0,2,1,3]:=HJ.eq gc3.oG AS (by omega) acG ik3
 obtain⟨vr,rfl,sr⟩: ∃vl,w3=V.tup [vl,aB 0]/\SI h7 vl [2,2,0,0]:=by
  rcases hv with ⟨h1,_⟩|⟨_,vl,rfl,s⟩
  ·simp at h1
  ·refine⟨vl,rfl,?_⟩
   have e:zi ((List.range [0,2,1,3].length).map (TO 4 L4 [0,2,1,3] 2))= [2,2,0,0]:=by
    rw[←YG];congr 1;exact List.map_congr_left λi _=>SU gc3.oG AS (by omega) _ _
   rw[e] at s;exact s
 clear hv;obtain⟨ha,ea,na,sa,fa⟩:=WY (h:=h7) rfl [0,1,0];obtain⟨hb,eb,nb,sb,fb⟩:=WY na [3,0,3];obtain⟨hc,ec',nc,sc,fc⟩:=WY nb [0,2,0];have F17:=(((((f1.trans f2).trans f3).trans f4).trans f5).trans f6).trans f7;simp(disch:=omega)only[go_sem,decide_true,Wa,ea,na,eb,nb,ec'];obtain⟨A,hA⟩:=exI h7.next;rw[hA] at na nb nc sa sb sc ⊢;obtain⟨hd,ed,nd,gd,od,fd⟩:=iX nc [.sl A 0 3 (.kn 3),.sl (A+1) 0 3 (.kn 3),.sl (A+1+1) 0 3 (.kn 3)];have f7d:=((fa.trans fb).trans fc).trans fd
 have sw:SR hd (.sl (A+1+1+1) 0 3 (.kn 3)) [[0,1,0], [3,0,3], [0,2,0]]:=⟨_,SV.all (by rfl) (by omega) gd _,sa.mono ((fb.trans fc).trans fd),sb.mono (fc.trans fd),sc.mono fd,trivial⟩
 simp(disch:=omega)only[go_sem,aaZ _ (yY ..) (yY ..) (yY ..),nc,ed];refine (Qj vl _ _ _ hd (sl.mono ((((f3.trans f4).trans f5).trans f6).trans (f7.trans f7d))) sw (by decide) (by decide) (by decide) (by decide)).mono ?_;rintro _ h8 ⟨rfl,f8⟩;rw[decide_eq_true rfl];obtain⟨he,ee,ne,se,fe⟩:=WY (h:=h8) rfl [2,2,0,0];simp(disch:=omega)only[go_sem,decide_true,PF,ee];refine (abK vr _ _ _ he (sr.mono ((f7d.trans f8).trans fe)) se (by decide) (by decide)).mono ?_;rintro _ h9 ⟨rfl,f9⟩;rw[decide_eq_true rfl];simp(disch:=omega)only[go_sem];exact (((F17.trans f7d).trans f8).trans fe).trans f9
def gs:LN->(List Nat->Int)->Int
 | [],_=>0
 |x::l,f=>f x+gs l f
theorem oN {f g:List Nat->Int}: ∀{l:LN},(∀x∈l,f x=g x)->gs l f=gs l g
 | [],_=>rfl
 |x::l,h=>by
  rw[gs,gs,h x (by simp),oN λy hy=>h y (by simp [hy])]
theorem QV {f:List Nat->Int}{l m:LN}(p:l.Perm m):gs l f=gs m f:=by
 induction p with
 |nil=>rfl
 |cons x _ ih=>rw[gs,gs,ih]
 |swap x y l=>rw[gs,gs,gs,gs];omega
 |trans _ _ h1 h2=>rw[h1,h2]
theorem QB (φ:List Nat->List Nat)(f:List Nat->Int): ∀l,gs (l.map φ) f=gs l λx=>f (φ x)
 | []=>rfl
 |x::l=>by rw[List.map_cons,gs,gs,QB φ f l]
theorem NK (c:Int)(f:List Nat->Int): ∀l,gs l (λx=>c*f x)=c*gs l f
 | []=>by rw[gs,gs,Int.mul_zero]
 |x::l=>by rw[gs,gs,NK c f l,Int.mul_add]
theorem Yd: ∀l,gs l (λ_=>0)=0
 | []=>rfl
 |x::l=>by rw[gs,Yd l];rfl
theorem XD (f:List Nat->Nat->Int)(r:Nat): ∀l,gs l (λx=>sm r λk=>f x k)=sm r λk=>gs l λx=>f x k
 | []=>(JK r).symm
 |x::l=>by rw[gs,XD f r l,←KQ];rfl
theorem Vf (f:List Nat->Int)(l:LN):sm l.length (λa=>f (l.getD a []))=gs l f:=by
 induction l with
 |nil=>rfl
 |cons x l ih=>
  rw[List.length_cons,OS,gs,←ih]
  rfl
theorem abD (x:List Nat)(c:Int){l:LN}(nd:l.Nodup)(hx:x∈l):gs l (λy=>if y=x then c else 0)=c:=by
 induction l with
 |nil=>cases hx
 |cons y l ih=>
  rw[List.nodup_cons] at nd;rw[gs]
  by_cases e:y=x
  ·subst e
   rw[if_pos rfl,oN (g:=λ_=>0) λz hz=>by rw[if_neg (λe=>nd.1 (by rw[←e];exact hz))],Yd];omega
  ·rw[if_neg e,ih nd.2 (by rcases List.mem_cons.1 hx with h|h;exact absurd h.symm e;exact h)];omega
theorem BO {α:Type}[DecidableEq α]: ∀{l m:List α},l.Nodup->m.Nodup->(∀x,x∈l↔x∈m)->l.Perm m
 | [], [],_,_,_=> .nil
 | [],y::m,_,_,h=>by have:=(h y).2 (by simp);simp at this
 |x::l,m,h1,h2,h=>by
  have hx:x∈m:=(h x).1 (by simp);rw[List.nodup_cons] at h1;refine (List.Perm.cons x (BO h1.2 (h2.erase x) λy=>?_)).trans (List.perm_cons_erase hx).symm;rw[h2.mem_erase_iff,←h y,List.mem_cons];constructor
  ·exact λhy=>⟨λe=>h1.1 (by rw[←e];exact hy),.inr hy⟩
  ·rintro⟨hne,rfl|hy⟩
   ·exact absurd rfl hne
   ·exact hy
theorem QU {l:LN}(nd:l.Nodup){φ:List Nat->List Nat}(nd2:(l.map φ).Nodup)(sub: ∀x∈l,φ x∈l){y:List Nat}(hy:y∈l):y∈l.map φ:=by
 refine Ln λhn=>?_
 have h1:(y::l.map φ).Nodup:=List.nodup_cons.2 ⟨hn,nd2⟩
 have h2:=List.Nodup.length_le_of_subset h1 (l₂:=l) λz hz=>by
  rcases List.mem_cons.1 hz with rfl|hz
  ·exact hy
  ·obtain⟨w,hw,rfl⟩:=xV.1 hz
   exact sub w hw
 rw[List.length_cons,qX] at h2;omega
section
variable {n:Nat} {G:List Nat->Prop} {L:LN} {K:List Nat}
theorem HQ (E:fL G L)(φ:List Nat->List Nat)(h1: ∀x,G x->G (φ x))(h2: ∀x y,G x->G y->φ x=φ y->x=y):(L.map φ).Perm L:=by
 have nd:(L.map φ).Nodup:=by
  rw[List.nodup_iff_pairwise_ne,List.pairwise_map];exact (List.nodup_iff_pairwise_ne.1 E.nodup).imp_of_mem λha hb hne e=>hne (h2 _ _ ((E.mem _).1 ha) ((E.mem _).1 hb) e)
 refine BO nd E.nodup λy=>⟨λhy=>?_,λhy=>QU E.nodup nd (λx hx=>(E.mem _).2 (h1 x ((E.mem x).1 hx))) hy⟩
 obtain⟨x,hx,rfl⟩:=xV.1 hy;exact (E.mem _).2 (h1 x ((E.mem x).1 hx))
theorem PY (E:fL G L)(f:List Nat->Int)(φ:List Nat->List Nat)(h1: ∀x,G x->G (φ x))(h2: ∀x y,G x->G y->φ x=φ y->x=y):gs L (λx=>f (φ x))=gs L f:=by
 rw[←QB,QV (HQ E φ h1 h2)]
noncomputable def xS (G:List Nat->Prop)(L:LN)(K:List Nat)(x:List Nat):Nat:=fQ G L K (L.idxOf x)
theorem aaA (E:fL G L){a:Nat}(ha:a<L.length):L.idxOf (L.getD a [])=a:=by
 rw[List.getD_eq_getElem?_getD,iK ha];exact E.nodup.idxOf_getElem _ _
theorem Py (E:fL G L){a:Nat}(ha:a<L.length):xS G L K (L.getD a [])=fQ G L K a:=by unfold xS;rw[aaA E ha]
end
theorem Nq {n:Nat}{x c:List Nat}(X:bG n x)(C:bG n c):fS (cF x) c=cF (fS x c):=by
 unfold fS;rw[Cy (C.inv.mul X) C,Cy C.inv X,rT C,←aW C.inv X.inv C]
noncomputable def nnE (G:List Nat->Prop)(L:LN)(K:List Nat)(i j:Nat)(z:List Nat):Int:=gs L λx=>if xS G L K x=i/\xS G L K (aS (cF x) z)=j then 1 else 0
noncomputable def szK (G:List Nat->Prop)(L:LN)(K:List Nat)(k:Nat):Nat:=(gO G L (K.getD k 0)).length
section
variable {n:Nat} {G:List Nat->Prop} {L:LN} {K:List Nat} (hG:rO n G) (E:fL G L) (ik:Ap n G L K)
include hG E ik
theorem XH {x:List Nat}(hx:G x):xS G L K x<K.length:=(tV hG E ik (Eg E hx).1).1
theorem IJ {k:Nat}(hk:k<K.length):xS G L K (L.getD (K.getD k 0) [])=k:=by
 have h:=ik.lt (bB (d:=0) hk);rw[Py E h];exact (Ud hG E ik.perm hk h).2 (De hG E h)
theorem Bw {x y:List Nat}(hx:G x)(hy:G y):xS G L K x=xS G L K y↔cj G x y:=by
 obtain⟨i1,e1⟩:=Eg E hx;obtain⟨i2,e2⟩:=Eg E hy;have h1:=tV hG E ik i1;have h2:=tV hG E ik i2;unfold xS;constructor
 ·intro e
  rw[←e] at h2;have:=mQ hG E i1 (zN hG E (ik.lt (bB (d:=0) h1.1)) h1.2) h2.2;unfold cR at this;rwa [e1,e2] at this
 ·intro c
  refine EB hG E ik i1 i2 ?_;unfold cR;rw[e1,e2];exact c
theorem BV {x c:List Nat}(hx:G x)(hc:G c):xS G L K (fS x c)=xS G L K x:=
 ((Bw hG E ik hx (Xg hG hx ⟨c,hc,rfl⟩)).2 ⟨c,hc,rfl⟩).symm
omit hG ik in
theorem HL {i j k:Nat}:((nP G L K i j k:Nat):Int)=nnE G L K i j (L.getD (K.getD k 0) []):=by
 unfold nnE;rw[←Vf];unfold nP Ga;have:=Sq L.length 1 λa=>fQ G L K a=i/\Vp G L K a k=j
 rw[Int.one_mul] at this;rw[←this];exact kS λa ha=>by rw[Py E ha];rfl
end
section
variable {n:Nat} {G:List Nat->Prop} {L:LN} {K:List Nat} (hG:rO n G) (E:fL G L) (ik:Ap n G L K)
include hG E ik
theorem ND {x:List Nat}(hx:G x):xS G L K (cF x)=HH G L K (xS G L K x):=by
 have hk:=XH hG E ik hx;have hr:=tF E (ik.lt (bB (d:=0) hk));obtain⟨c,hc,e⟩:=(Bw hG E ik hr hx).1 (IJ hG E ik hk);show _=xS G L K (cF (L.getD (K.getD (xS G L K x) 0) []));generalize xS G L K x=k at*;rw[←e,←Nq (hG.dS hr) (hG.dS hc),BV hG E ik (hG.inv hr) hc]
end
theorem QY {h:H}{v:V}{n:Nat}{f:Nat->Nat}(s:SV h v 1 (rc n λk=> aB (f k:Nat))):dM v=some (aB n)/\ ∃id off,Sl v 1 n id off/\ ∀k,k<n->id<h.next/\h.cell id (off+k)=some (aB (f k:Nat)):=by
 have hl:(rc n λk=>aB (f k:Nat)).length=n:=cZ n _;refine⟨by unfold dM;rw[SV.len s (n:=n) (by omega) (by omega)];rfl,?_⟩;obtain⟨id,off,sh,hid,hc⟩:=SV.shape s n (by omega) (by omega);exact⟨id,off,sh,λk hk=>⟨hid (by omega),by rw[hc k (by omega),kF hk]⟩⟩
theorem MT {G:List Nat->Prop}{L:LN}{K:List Nat}(i:Nat):(Lg G L K i).length=K.length:=by unfold Lg;simp
theorem SS {G:List Nat->Prop}{L:LN}{K:List Nat}(i:Nat){a:Nat}(ha:a<K.length):(Lg G L K i).getD a []=zi ((List.range K.length).map (nP G L K i a)):=by
 unfold Lg;rw[List.getD_eq_getElem?_getD,List.getElem?_map,List.getElem?_range ha];rfl
theorem Oo {h:H}{v:V}{n:Nat}{f:Nat->Nat}(s:SI h v (zi ((List.range n).map f))):dM v=some (aB n)/\ ∃id off,Sl v 1 n id off/\ ∀k,k<n->id<h.next/\h.cell id (off+k)=some (aB (f k:Nat)):=by
 refine QY (f:=f) ?_;have e:(rc n λk=>aB (f k:Nat))=ints (zi ((List.range n).map f)):=by simp [rc,ints,zi,Function.comp_def]
 rw[e];exact s
section
variable {n:Nat} {G:List Nat->Prop} {L:LN} {K:List Nat} (hG:rO n G) (E:fL G L) (ik:Ap n G L K)
include hG E ik
end
end Go.Proofs.YtapfcpkecmmagaaGreat
namespace Go.Proofs.YtapfcpkecmmagaaGreat
open Go Go.Ay
set_option maxRecDepth 100000
set_option maxRecDepth 100000
end Go.Proofs.YtapfcpkecmmagaaGreat
namespace Go.Proofs.YtapfcpkecmmagaaGreat
open Go Go.Ay Go.Pm
set_option maxRecDepth 100000
set_option maxRecDepth 100000
theorem xY.own {D b:Nat}{h h':H}{v:V}{ws:List V}(o:fC h v 1 ws b)(hD:D<b)(f:xY D h h'):fC h' v 1 ws b:=
 o.mono f.next λid _ _ _ _ hb hid=>f.get id hid (by omega)
structure Cen (r:Nat)(B:Nat)(x:List Int):Prop where
 len:x.length=r
 bd: ∀e∈x, -(B:Int)<=e/\e<=B
theorem Cen.more {r B B':Nat}{x:List Int}(c:Cen r B x)(h:B<=B'):Cen r B' x:=⟨c.len,λe he=>by have:=c.bd e he;omega⟩
section
variable {n:Nat} {G:List Nat->Prop} {L:LN} {K:List Nat} (hG:rO n G) (E:fL G L) (ik:Ap n G L K)
include hG E ik
theorem XQ {i:Nat}(hi:i<L.length):gO G L (K.getD (fQ G L K i) 0)=gO G L i:=by
 classical
 obtain⟨h1,h2⟩:=tV hG E ik hi;have hr:=ik.lt (bB (d:=0) h1);unfold gO;refine List.filter_congr λj hj=>?_
 rw[Bool.eq_iff_iff,decide_eq_true_iff,decide_eq_true_iff];exact⟨λh=>mQ hG E hi (zN hG E hr h2) h,λh=>mQ hG E hr h2 h⟩
omit E ik in
theorem mul_eq {x y z:List Nat}(hx:G x)(hy:G y)(hz:G z):aS x y=z↔y=aS (cF x) z:=by
 have X:=hG.dS hx;have Y:=hG.dS hy;have Z:=hG.dS hz;constructor
 ·rintro rfl;rw[←aW X.inv X Y,gG X,eY Y]
 ·rintro rfl;rw[←aW X X.inv Z,iA X,eY Z]
theorem Xi (i j:Nat){k:Nat}(hk:k<K.length):(gs L λx=>gs L λy=>if xS G L K x=i/\xS G L K y=j/\aS x y=L.getD (K.getD k 0) [] then 1 else 0)=((nP G L K i j k:Nat):Int):=by
 have hz:=tF E (ik.lt (bB (d:=0) hk));rw[HL E];generalize L.getD (K.getD k 0) []=z at hz;unfold nnE;refine oN λx hx=>?_
 have hx':=(E.mem x).1 hx;have hw:=hG.mul (hG.inv hx') hz;rw[←abD (aS (cF x) z) (if xS G L K x=i/\xS G L K (aS (cF x) z)=j then 1 else 0) E.nodup ((E.mem _).2 hw)];refine oN λy hy=>?_
 have hy':=(E.mem y).1 hy;have me:=mul_eq hG hx' hy' hz
 by_cases e:y=aS (cF x) z
 ·have e2:=me.2 e
  rw[if_pos e]
  by_cases c:xS G L K x=i/\xS G L K (aS (cF x) z)=j
  ·rw[if_pos c,if_pos ⟨c.1,by rw[e];exact c.2,e2⟩]
  ·rw[if_neg c,if_neg (λh=>c ⟨h.1,by rw[←e];exact h.2.1⟩)]
 ·rw[if_neg e,if_neg (λh=>e (me.1 h.2.2))]
omit hG E ik in
theorem Mf (p:List Nat->Prop)[DecidablePred p]: ∀l:LN,(gs l λx=>if p x then 1 else 0)=((l.filter λx=>decide (p x)).length:Nat)
 | []=>rfl
 |a::l=>by
  show (if p a then 1 else 0)+gs l _=_;rw[Mf p l]
  by_cases h:p a
  ·rw[if_pos h,List.filter_cons_of_pos (by simpa using h),List.length_cons];omega
  ·rw[if_neg h,List.filter_cons_of_neg (by simpa using h)];omega
theorem Xe {x c:List Nat}(hx:G x)(hc:G c):(gs L λy=>if fS x y=c then 1 else 0)=if xS G L K c=xS G L K x then ((L.length/szK G L K (xS G L K x):Nat):Int) else 0:=by
 have X:=hG.dS hx
 by_cases h:xS G L K c=xS G L K x
 case neg=>
  rw[if_neg h,oN (g:=λ_=>0) λy hy=>?_,Yd];have hy':=(E.mem y).1 hy;rw[if_neg];rintro rfl;exact h (BV hG E ik hx hy')
 rw[if_pos h];obtain⟨y0,hy0,rfl⟩:=(Bw hG E ik hx hc).1 h.symm;have Y0:=hG.dS hy0;rw[←PY E (λy=>if fS x y=fS x y0 then 1 else 0) (λy=>aS y y0) (λy hy=>hG.mul hy hy0) λa b ha hb e=>xE (hG.dS ha) (hG.dS hb) Y0 e]
 have e1:(gs L λy=>if fS x (aS y y0)=fS x y0 then 1 else 0)=gs L λy=>if aS x y=aS y x then 1 else 0:=oN λy hy=>by
  have Y:=hG.dS ((E.mem y).1 hy)
  have k1:fS x (aS y y0)=fS x y0↔aS x y=aS y x:=by
   rw[rS X Y Y0,←Fv X Y];exact⟨λe=>GH (Ly X Y) X Y0 e,λe=>by rw[e]⟩
  by_cases h2:aS x y=aS y x
  ·rw[if_pos (k1.2 h2),if_pos h2]
  ·rw[if_neg (λe=>h2 (k1.1 e)),if_neg h2]
 rw[e1,Mf];have hi:=Eg E hx;have os:=Wk hG E hi.1;rw[hi.2,←XQ hG E ik hi.1] at os;show ((MD L x).length:Int)=_;have e2:szK G L K (xS G L K x)=(gO G L (K.getD (fQ G L K (L.idxOf x)) 0)).length:=rfl;rw[e2];generalize (gO G L (K.getD (fQ G L K (L.idxOf x)) 0)).length=a at*
 have a0:0<a:=by
  rcases Nat.eq_zero_or_pos a with e|e
  ·have:=hi.1
   rw[e,Nat.zero_mul] at os;omega
  ·exact e
 rw[os,Nat.mul_div_cancel_left _ a0]
theorem abZ {x:List Nat}(hx:G x){i:Nat}(hi:i<K.length):xS G L K (cF x)=i↔xS G L K x=HH G L K i:=by
 have X:=hG.dS hx;constructor
 ·rintro rfl
  have:=ND hG E ik (hG.inv hx);rwa [rT X] at this
 ·intro h
  obtain⟨y,hy,rfl⟩: ∃y,G y/\xS G L K y=i:=⟨_,tF E (ik.lt (bB (d:=0) hi)),IJ hG E ik hi⟩
  rw[←ND hG E ik hy] at h;obtain⟨c,hc,e⟩:=(Bw hG E ik hx (hG.inv hy)).1 h;have C:=hG.dS hc;refine ((Bw hG E ik (hG.inv hx) hy).2 ⟨c,hc,?_⟩);rw[Nq X C,e,rT (hG.dS hy)]
omit hG E ik in
theorem BP (k:Nat): ∀r,((rU G L K k r:Nat):Int)=sm r λi=>((nP G L K (HH G L K i) i k:Nat):Int)*((L.length/szK G L K i:Nat):Int)
 |0=>rfl
 |r+1=>by rw[kA,←BP k r,rU,Int.natCast_add,Int.natCast_mul];rfl
theorem Xl {k:Nat}(hk:k<K.length):(gs L λx=>gs L λy=>if aS (cF (aS y x)) (aS x y)=L.getD (K.getD k 0) [] then 1 else 0)=((rU G L K k K.length:Nat):Int):=by
 have hz:=tF E (ik.lt (bB (d:=0) hk));rw[BP];obtain⟨z,hze⟩:=exI (L.getD (K.getD k 0) []);rw[hze] at hz ⊢;have Z:=hG.dS hz;rw[oN (g:=λx=>sm K.length λi=>if xS G L K x=i then (if xS G L K (aS x z)=i then ((L.length/szK G L K i:Nat):Int) else 0) else 0) λx hx=>?_,XD]
 ·refine kS λi hi=>?_
  rw[HL E,hze];unfold nnE;rw[Int.mul_comm,←NK,←PY E (λx=>((L.length/szK G L K i:Nat):Int)*if xS G L K x=HH G L K i/\xS G L K (aS (cF x) z)=i then 1 else 0) cF (λx hx=>hG.inv hx) λa b ha hb e=>by rw[←rT (hG.dS ha),←rT (hG.dS hb),e]];refine oN λx hx=>?_
  have hx':=(E.mem x).1 hx;have iv:=abZ hG E ik (hG.inv hx') (i:=i) hi;rw[rT (hG.dS hx')] at iv ⊢
  by_cases h1:xS G L K x=i
  ·by_cases h2:xS G L K (aS x z)=i
   ·rw[if_pos h1,if_pos h2,if_pos ⟨iv.1 h1,h2⟩,Int.mul_one]
   ·rw[if_pos h1,if_neg h2,if_neg (λh=>h2 h.2),Int.mul_zero]
  ·rw[if_neg h1,if_neg (λh=>h1 (iv.2 h.1)),Int.mul_zero]
 ·have hx':=(E.mem x).1 hx
  have X:=hG.dS hx';have hxz:=hG.mul hx' hz;rw[IF (XH hG E ik hx') (λi=>if xS G L K (aS x z)=i then ((L.length/szK G L K i:Nat):Int) else 0),←Xe hG E ik hx' hxz];refine oN λy hy=>?_
  have hy':=(E.mem y).1 hy;have Y:=hG.dS hy'
  have e1:aS (cF (aS y x)) (aS x y)=aS (cF x) (fS x y):=by
   rw[Cy Y X,aW X.inv Y.inv (X.mul Y),←aW Y.inv X Y];rfl
  have me:=mul_eq hG (hG.inv hx') (Xg hG hx' ⟨y,hy',rfl⟩) hz;rw[rT X] at me;rw[e1]
  by_cases h:fS x y=aS x z
  ·rw[if_pos h,if_pos (me.2 h)]
  ·rw[if_neg h,if_neg (λe=>h (me.1 e))]
end
noncomputable def pF (G:List Nat->Prop)(L:LN)(K:List Nat)(i j k a b:Nat):Int:=if fQ G L K a=i/\fQ G L K b=j/\aS (L.getD a []) (L.getD b [])=L.getD (K.getD k 0) [] then 1 else 0
def pC (L:LN)(K:List Nat)(k a b:Nat):Int:=if aS (cF (aS (L.getD b []) (L.getD a []))) (aS (L.getD a []) (L.getD b []))=L.getD (K.getD k 0) [] then 1 else 0
def ps (N:Nat)(f:Nat->Nat->Int)(a b:Nat):Int:=sm a (λx=>sm N (f x))+sm b (f a)
theorem Zy (N:Nat)(f:Nat->Nat->Int)(a b:Nat):ps N f a (b+1)=ps N f a b+f a b:=by unfold ps;rw[kA,Int.add_assoc]
theorem NZ (N:Nat)(f:Nat->Nat->Int)(a:Nat):ps N f (a+1) 0=ps N f a N:=by unfold ps;rw[kA,wZ,Int.add_zero]
theorem Vi {N:Nat}{f:Nat->Nat->Int}(hf: ∀a b,0<=f a b/\f a b<=1){a b:Nat}(ha:a<=N)(hb:b<=N)(hN:N<=120): -20000<=ps N f a b/\ps N f a b<=20000:=by
 have h1:=yB (n:=a) (B:=N*1) (f:=λx=>sm N (f x)) λx _=>yB λy _=>⟨by have:=hf x y;omega,(hf x y).2⟩
 have h2:=yB (n:=b) (B:=1) (f:=f a) λy _=>⟨by have:=hf a y;omega,(hf a y).2⟩
 have h3:a*(N*1)<=120*120:=Nat.mul_le_mul (by omega) (by omega);unfold ps;omega
theorem acA {G:List Nat->Prop}{L:LN}{K:List Nat}(i j k a b:Nat):0<=pF G L K i j k a b/\pF G L K i j k a b<=1:=by unfold pF;split<;>omega
theorem abX {L:LN}{K:List Nat}(k a b:Nat):0<=pC L K k a b/\pC L K k a b<=1:=by unfold pC;split<;>omega
section
variable {n:Nat} {G:List Nat->Prop} {L:LN} {K:List Nat} (hG:rO n G) (E:fL G L) (ik:Ap n G L K)
include hG E ik
theorem aaX (i j:Nat){k:Nat}(hk:k<K.length):ps L.length (pF G L K i j k) L.length 0=((nP G L K i j k:Nat):Int):=by
 rw[←Xi hG E ik i j hk];unfold ps;rw[wZ,Int.add_zero,←Vf];refine kS λa ha=>?_
 rw[←Vf];refine kS λb hb=>?_
 rw[Py E ha,Py E hb];rfl
theorem YX {k:Nat}(hk:k<K.length):ps L.length (pC L K k) L.length 0=((rU G L K k K.length:Nat):Int):=by
 rw[←Xl hG E ik hk];unfold ps;rw[wZ,Int.add_zero,←Vf];refine kS λa ha=>?_
 rw[←Vf]
 rfl
end
theorem WW (r:Nat)(f:Nat->Nat):ints (zi ((List.range r).map f))=rc r λk=> aB (f k:Nat):=by simp [rc,ints,zi,Function.comp_def]
theorem NH {W:Nat->Prop}{v:V}{b:Nat}(hv: ∀id off len c,v= .sl id off len c->b<=id)(hW: ∀id,W id->id<b):Vl W v:=by
 unfold Vl;split
 ·intro hw
  have:=hv _ _ _ _ rfl;have:=hW _ hw;omega
 ·trivial
theorem abN (h:H)(a m:Nat)(ws:List V): ∃h',H.mk ((H.mk h.tr a).new (.cells false ws)).tr m=h'/\h'.next=m/\h'.get a=some (.cells false ws)/\ ∀q,q≠a->h'.get q=h.get q:=by
 obtain⟨h1,e1,n1,g1,o1,f1⟩:=iX (h:=H.mk h.tr a) rfl ws;rw[e1];exact⟨_,rfl,rfl,g1,λq hq=>o1 q hq⟩
theorem JF (u:V)(l:List Int)(i0 j0:Int)(h:H)(hu:SI h u l)(hl:(l.length:Int)<=2^63- 1):
  Ev T 4 [u,aB i0,aB j0] h (λv h'=>v= .bool true/\Fr h h'):=by
 refine bN lY rfl rfl ?_
 simp(disch:=omega)only[go_sem,lY,aF]
 refine (OJ h).mono ?_
 rintro _ h1 ⟨rfl,f1⟩
 have lu:=hu.lens
 have dT:decide True=true:=rfl
 have d0:decide ((0:Int)≠0)=false:=rfl
 by_cases h60:(60:Int)<(l.length:Int)
 case pos=>
  have d1:decide ((60:Int)<(l.length:Int))=true:=decide_eq_true h60;simp(disch:=omega)only[go_sem,lu,d1];exact f1
 have d1:decide ((60:Int)<(l.length:Int))=false:=decide_eq_false h60
 simp(disch:=omega)only[go_sem,lu,d1]
 refine (Xm u l 5 h1 (hu.mono f1) (by omega) (by omega) (by omega)).mono ?_
 rintro _ h2 ⟨n,vg,S,rfl,hn1,hn5,hg3,gP,sg,f2⟩
 obtain⟨Q,hQ⟩:=exI h2.next
 obtain⟨h3,e3,n3,g3,o3,f3⟩:=iX hQ [aB 0,.aC]
 obtain⟨h4,e4,n4,g4,o4⟩:=Bv h3 Q [aB n,vg]
 have wg:vg.one=true/\eN vg vg=true:=by obtain⟨ws,s,_⟩:=sg;exact⟨s.eD.2.1,s.eN⟩
 have f24:Fr h2 h4:=⟨by omega,λq hq=>by rw[o4 q (by omega),o3 q (by omega)]⟩
 have cg: ∀hh,Fr h4 hh->hh.get Q=some (.cells false [aB n,vg]):=λhh f=>by rw[f.get Q (by omega)];exact g4
 simp(disch:=omega)only[go_sem,hQ,e3,Cz h3 Q 0 (v:= aB n) (u:=vg) rfl wg.1,g3,zA,e4,H.aE g4]
 refine (Et 120 n vg S h4 hn1 hn5 gP (by omega) (λA nd hA=>wF hn5 nd λx hx=>(hA x hx).dS gP) (sg.mono f24)).mono ?_
 rintro vA h5 ⟨L,E,L120,sA,f5⟩
 simp(disch:=omega)only[go_sem,H.aE (cg h5 f5)]
 refine (Bd vA n _ L h5 (by omega) (by omega) (fF.oG gP) E (by omega) sA).mono ?_
 rintro vc h6 ⟨O,R,cw,isc,f6⟩
 have hG:rO n (fF n (· ∈S)):=fF.oG gP
 have gc:GC (λid=>id<h5.next) h6 vc n O R (fF n (· ∈S)):=⟨cw,isc,hG,by omega,by omega⟩
 have hL:=gc.el E
 obtain⟨u1,w1,rfl,a1,b1,_,_⟩:=gc.sl
 obtain⟨C,hC⟩:=exI h6.next
 obtain⟨h7,e7,n7,g7,o7,f7⟩:=iX hC [aB 0,.aC,.aC]
 obtain⟨h8,e8,n8,g8,o8⟩:=Bv h7 C [aB n,u1,w1]
 have F68:Fr h6 h8:=⟨by omega,λid hid=>by rw[o8 id (by omega),o7 id (by omega)]⟩
 have gc8:=gc.mono F68
 have rC: ∀hh,Fr h8 hh->hh.row C 0 3=some [aB n,u1,w1]:=λhh f=>bX (by rw[f.get _ (by omega)];exact g8)
 have F08:=((((f1.trans f2).trans f24).trans f5).trans f6).trans F68
 have sA8:=sA.mono (f6.trans F68)
 simp(disch:=omega)only[go_sem,hC,e7,nX h7 C 0 (v:= aB n) (u:=u1) (w:=w1) rfl a1 b1,g7,kM,e8,rC h8 (Fr.refl _)]
 refine (So _ n O R _ h8 gc8 L hL).mono ?_
 rintro _ h9 ⟨v7,K,ks,rfl,ik,sC,al,f9⟩
 simp(disch:=omega)only[go_sem,rC h9 f9]
 refine (MW _ n O R _ h9 (gc8.mono f9) L hL).mono ?_
 rintro _ h10 ⟨v9,K',rfl,ik',sT,f10⟩
 obtain rfl:=ik'.uniq ik
 have F10:=f9.trans f10
 have rl:K'.length<=L.length:=by rw[ik.perm.length_eq];exact vF _
 have kl:K'.length<=120:=by omega
 obtain⟨k0,_⟩:=AY hG E ik
 obtain⟨lvC,eC,idC,offC,shC,cC⟩:=oF (by omega) sC al
 obtain⟨lvT,idT,offT,shT,cT⟩:=Oo sT
 obtain⟨lvA,eA,idA,offA,ws,shA,cA⟩:=wV sA8
 obtain⟨r,hr⟩:=exI K'.length
 obtain⟨N,hN⟩:=exI L.length
 rw[hr] at lvC shC cC k0 kl rl
 rw[hN] at lvT shT cT lvA shA cA rl L120
 have d2:decide ((r:Int)<1)=false:=jC (by omega)
 have d3:decide ((N:Int)<(r:Int))=false:=jC (by omega)
 have d4:decide ((N:Int)≠(N:Int))=false:=decide_eq_false (by simp)
 have d5:decide ((r:Int)≠(r:Int))=false:=decide_eq_false (by simp)
 simp(disch:=omega)only[go_sem,lvC,lvT,lvA,d0,d2,d3,d4]
 refine (Qs i0 (r:Int) h10 (by omega) (by omega)).mono ?_
 rintro _ hx ⟨rfl,e⟩
 obtain rfl:=e.symm
 simp(disch:=omega)only[go_sem]
 refine (Qs j0 (r:Int) h10 (by omega) (by omega)).mono ?_
 rintro _ hx ⟨rfl,e⟩
 obtain rfl:=e.symm
 obtain⟨i,hi,ir⟩: ∃i:Nat,i0%(r:Int)=(i:Int)/\i<r:=⟨(i0%(r:Int)).toNat,by have:=Int.emod_nonneg i0 (b:=(r:Int)) (by omega);omega,by have:=Int.emod_nonneg i0 (b:=(r:Int)) (by omega);have:=Int.emod_lt_of_pos i0 (b:=(r:Int)) (by omega);omega⟩
 obtain⟨j,hj,jr⟩: ∃j:Nat,j0%(r:Int)=(j:Int)/\j<r:=⟨(j0%(r:Int)).toNat,by have:=Int.emod_nonneg j0 (b:=(r:Int)) (by omega);omega,by have:=Int.emod_nonneg j0 (b:=(r:Int)) (by omega);have:=Int.emod_lt_of_pos j0 (b:=(r:Int)) (by omega);omega⟩
 rw[hi,hj]
 simp(disch:=omega)only[go_sem,rC h10 F10]
 refine (Rz _ (i:Int) n O R _ h10 (gc8.mono F10) L hL).mono ?_
 rintro w h11 ⟨K2,ik2,f11,hw⟩
 obtain rfl:=ik2.uniq ik
 have F11:=F10.trans f11
 rw[hr] at hw
 obtain⟨vm,er,rfl,hv⟩: ∃vm er,w=V.tup [vm,aB er]/\(64<r/\er=5∨r<=64/\er=0/\SR h11 vm (Lg (fF n (· ∈S)) L K2 i)):=by
  rcases hw with ⟨h1,rfl⟩|⟨h1,⟨h2,_⟩|⟨i',vm,e,_,rfl,s⟩⟩
  ·exact⟨_,_,rfl,.inl ⟨h1,rfl⟩⟩
  ·omega
  ·obtain rfl:i'=i:=by omega
   exact⟨_,_,rfl,.inr ⟨h1,rfl,s⟩⟩
 clear hw
 simp(disch:=omega)only[go_sem,rC h11 F11]
 refine (RO _ n O R _ h11 (gc8.mono F11) L hL).mono ?_
 rintro w' h12 ⟨K3,ik3,f12,hw⟩
 obtain rfl:=ik3.uniq ik
 have F12:=F11.trans f12
 rw[hr] at hw
 obtain⟨vk,er',rfl,hv'⟩: ∃vk er',w'=V.tup [vk,aB er']/\(64<r/\er'=5∨r<=64/\er'=0/\SI h12 vk (zi ((List.range r).map λk=>rU (fF n (· ∈S)) L K3 k r))):=by
  rcases hw with ⟨h1,rfl⟩|⟨h1,vk,rfl,s⟩
  ·exact⟨_,_,rfl,.inl ⟨h1,rfl⟩⟩
  ·exact⟨_,_,rfl,.inr ⟨h1,rfl,s⟩⟩
 clear hw
 by_cases k64:(64:Int)<(r:Int)
 ·have d6:decide ((64:Int)<(r:Int))=true:=decide_eq_true k64
  obtain rfl:er=5:=by omega
  obtain rfl:er'=5:=by omega
  simp(disch:=omega)only[go_sem,d6,dT]
  exact F08.trans F12
 have d6:decide ((64:Int)<(r:Int))=false:=decide_eq_false k64
 obtain⟨rfl,sM⟩:er=0/\SR h11 vm (Lg (fF n (· ∈S)) L K3 i):=by
  rcases hv with ⟨h1,_⟩|⟨_,h2,h3⟩
  ·omega
  ·exact⟨h2,h3⟩
 obtain⟨rfl,sK⟩:er'=0/\SI h12 vk (zi ((List.range r).map λk=>rU (fF n (· ∈S)) L K3 k r)):=by
  rcases hv' with ⟨h1,_⟩|⟨_,h2,h3⟩
  ·omega
  ·exact⟨h2,h3⟩
 clear hv hv'
 obtain⟨lvM,eM,_,_,idM,offM,ms,shM,cM⟩:=srO sM
 rw[MT,hr] at lvM shM cM
 obtain⟨m1,m2,sj⟩:=cM j jr
 rw[SS i (by omega),hr] at sj
 obtain⟨lj,_⟩:=Oo sj
 obtain⟨lK,_⟩:=Oo sK
 have x2: ∀hh,Fr h11 hh->hh.cell idM (offM+j)=some (ms.getD j V.undef):=λhh f=>by rw[f.cell m1];exact m2
 obtain⟨h13,e13,n13,g13,o13⟩:=abN h12 (h12.next+1) (h12.next+2) (ints (List.replicate r 0))
 obtain⟨h14,e14,n14,g14,o14⟩:=abN h13 (h12.next+3) (h12.next+6) (ints (List.replicate r 0))
 rw[←e13] at e14
 have e15:H.mk ((H.mk ((H.mk h12.tr (h12.next+1)).new (.cells false (ints (List.replicate r 0)))).tr (h12.next+3)).new (.cells false (ints (List.replicate r 0)))).tr (h12.next+6)=h14:=e14
 simp(disch:=omega)only[go_sem,d6,d0,lvM,d5,shM.ixa,x2 h12 f12,lj,lK]
 rw[e15]
 clear e13 e14 e15
 have gP14:h14.get (h12.next+1)=some (.cells false (ints (List.replicate r 0))):=by rw[o14 _ (by omega)];exact g13
 have f14:Fr h12 h14:=⟨by omega,λid hid=>by rw[o14 id (by omega),o13 id (by omega)]⟩
 obtain⟨P,hP⟩:=exI (h12.next+1)
 obtain⟨D,hD⟩:=exI (h12.next+3)
 rw[hP] at gP14
 rw[hD] at g14
 rw[hP,hD]
 have ez:ints (List.replicate r 0)=rc r λ_=> aB 0:=by simp [ints,rc,List.map_const']
 obtain⟨f,hf⟩: ∃f:Nat->Nat->Nat->Int,f=λk=>pF (fF n (· ∈S)) L K3 i j k:=⟨_,rfl⟩
 obtain⟨c,hc⟩: ∃c:Nat->Nat->Nat->Int,c=λk=>pC L K3 k:=⟨_,rfl⟩
 have f01: ∀k a b,0<=f k a b/\f k a b<=1:=λk a b=>by rw[hf];exact acA ..
 have c01: ∀k a b,0<=c k a b/\c k a b<=1:=λk a b=>by rw[hc];exact abX ..
 have F14:=F12.trans f14
 rw[ez] at gP14 g14
 refine cV (λvs hh=>(∃g:Nat->V,vs= [g 0,g 1,aB j,g 3,g 4,g 5,g 6,g 7,g 8,g 9,g 10,g 11,vm,g 13,vk,g 15,.sl P 0 r (.kn r),.sl D 0 r (.kn r),g 18,g 19,g 20,g 21,g 22,g 23,g 24,g 25,g 26,g 27,g 28,g 29,g 30,g 31,g 32])/\hh.get P=some (.cells false (rc r λk=> aB (ps N (f k) N 0)))/\hh.get D=some (.cells false (rc r λk=> aB (ps N (c k) N 0)))/\Fr h12 hh/\D<hh.next) ?_ ?_
 ·refine aI (λk' vars hh=> ∃(a:Nat),(∃g:Nat->V,vars= [g 0,aB i,aB j,g 3,g 4,vA,g 6,v7,g 8,v9,g 10,aB r,vm,g 13,vk,g 15,.sl P 0 r (.kn r),.sl D 0 r (.kn r),aB a,g 19,g 20,g 21,g 22,g 23,g 24,g 25,g 26,g 27,g 28,g 29,g 30,g 31,g 32])/\a<=N/\hh.get P=some (.cells false (rc r λk=> aB (ps N (f k) a 0)))/\hh.get D=some (.cells false (rc r λk=> aB (ps N (c k) a 0)))/\Fr h12 hh/\D<hh.next/\k'=N-a) N
   ⟨0,aA rfl,lG _,gP14,g14,f14,by omega,rfl⟩ ?_
  rintro k' vars h16 ⟨a,⟨g,rfl⟩,ha,gP,gD,f16,nD,rfl⟩
  by_cases hlt:(a:Int)<(N:Int)
  case neg=>
   have e1:=jC hlt;obtain rfl:a=N:=by omega
   simp(disch:=omega)only[go_sem,lvA,e1];exact⟨aA rfl,gP,gD,f16,nD⟩
  have e1:=nL hlt
  have haN:a<N:=by omega
  simp(disch:=omega)only[go_sem,lvA,e1]
  refine aI (λk' vars hh=> ∃(b:Nat),(∃g:Nat->V,vars= [g 0,aB i,aB j,g 3,g 4,vA,g 6,v7,g 8,v9,g 10,aB r,vm,g 13,vk,g 15,.sl P 0 r (.kn r),.sl D 0 r (.kn r),aB a,aB b,g 20,g 21,g 22,g 23,g 24,g 25,g 26,g 27,g 28,g 29,g 30,g 31,g 32])/\b<=N/\hh.get P=some (.cells false (rc r λk=> aB (ps N (f k) a b)))/\hh.get D=some (.cells false (rc r λk=> aB (ps N (c k) a b)))/\Fr h12 hh/\D<hh.next/\k'=N-b) N
   ⟨0,aA rfl,lG _,gP,gD,f16,nD,rfl⟩ ?_
  clear gP gD f16 nD
  rintro k' vars h17 ⟨b,⟨g,rfl⟩,hb,gP,gD,f17,nD,rfl⟩
  by_cases hltb:(b:Int)<(N:Int)
  case neg=>
   have e2:decide ((b:Int)<(N:Int))=false:=decide_eq_false hltb;obtain rfl:b=N:=by omega
   simp(disch:=omega)only[go_sem,lvA,e2];rw[iJ a];refine⟨b-(a+1),by omega,a+1,aA rfl,by omega,?_,?_,f17,nD,rfl⟩
   ·rw[gP];congr 2;exact aU λk _=>by rw[NZ]
   ·rw[gD];congr 2;exact aU λk _=>by rw[NZ]
  have e2:decide ((b:Int)<(N:Int))=true:=decide_eq_true hltb
  have hbN:b<N:=by omega
  obtain⟨a1,a2,a3⟩:=cA a haN
  obtain⟨b1,b2,b3⟩:=cA b hbN
  have A:bG n (L.getD a []):=jU hG E (by omega)
  have B:bG n (L.getD b []):=jU hG E (by omega)
  have F8: ∀hh,Fr h12 hh->Fr h8 hh:=λhh f=>F12.trans f
  have xa: ∀hh,Fr h12 hh->hh.cell idA (offA+a)=some (ws.getD a V.undef):=λhh f=>by rw[(F8 hh f).cell a1];exact a2
  have xb: ∀hh,Fr h12 hh->hh.cell idA (offA+b)=some (ws.getD b V.undef):=λhh f=>by rw[(F8 hh f).cell b1];exact b2
  have fb:=f17.bJ (n:=h17.next+10) (by omega)
  simp(disch:=omega)only[go_sem,lvA,e2,shA.ixa,xa h17 f17,xb h17 f17]
  refine (By _ _ (L.getD a []) (L.getD b []) _ (by rw[A.len];omega) (a3.mono (F8 _ fb)) (b3.mono (F8 _ fb)) (λq hq=>by rw[B.len];rw[A.len] at hq;exact A.eZ hq)).mono ?_
  rintro vx h18 ⟨sx,f18,gx⟩
  have F18:=fb.trans f18
  have fb2:=F18.bJ (n:=h18.next+13) (by omega)
  simp(disch:=omega)only[go_sem,shA.ixa,xa h18 F18,xb h18 F18]
  refine (By _ _ (L.getD b []) (L.getD a []) _ (by rw[B.len];omega) (b3.mono (F8 _ fb2)) (a3.mono (F8 _ fb2)) (λq hq=>by rw[A.len];rw[B.len] at hq;exact B.eZ hq)).mono ?_
  rintro vy h19 ⟨sy,f19,_⟩
  simp(disch:=omega)only[go_sem]
  refine (WI vy n _ h19 (by omega) (B.mul A) sy).mono ?_
  rintro vi h20 ni
  have f20:=ni.fr
  have si:SI h20 vi (zi (cF (aS (L.getD b []) (L.getD a [])))):=(ni.pv (W:=λ_=>False) id).si
  simp(disch:=omega)only[go_sem]
  have fb3:Fr h18 {h18 with next:=h18.next+13}:=(Fr.refl h18).bJ (by omega)
  have AB:=A.mul B
  have BA:=(B.mul A).inv
  refine (By _ _ _ _ h20 (by rw[BA.len];omega) si (sx.mono (fb3.trans (f19.trans f20))) (λq hq=>by rw[AB.len];rw[BA.len] at hq;exact BA.eZ hq)).mono ?_
  rintro vz h21 ⟨sz,f21,gz⟩
  simp(disch:=omega)only[go_sem]
  have f1821:Fr h18 h21:=fb3.trans (f19.trans (f20.trans f21))
  have f1721:Fr h17 h21:=((Fr.refl h17).bJ (n:=h17.next+10) (by omega)).trans (f18.trans f1821)
  have n21:=f1721.next
  have F21:Fr h12 h21:=f17.trans f1721
  have gP21:h21.get P=_:=(f1721.get P (by omega)).trans gP
  have gD21:h21.get D=_:=(f1721.get D (by omega)).trans gD
  obtain⟨W,hW⟩: ∃W:Nat->Prop,W=λid=>id=P∨id=D:=⟨_,rfl⟩
  have WP:W P:=by rw[hW];exact .inl rfl
  have WD:W D:=by rw[hW];exact .inr rfl
  have W12: ∀id,W id->h12.next<=id/\id<h17.next:=λid hid=>by
   rw[hW] at hid;rcases hid with rfl|rfl
   ·omega
   ·omega
  have Ox:Vl W vx:=NH gx λid hid=>by have:=W12 id hid;show id<h17.next+10;omega
  have Oz:Vl W vz:=NH gz λid hid=>by have:=W12 id hid;have:=f19.next;have:=f20.next;have:=f18.next;have:=fb3.next;have h5:h17.next+10<=h18.next:=f18.next;show id<h20.next;have h6:h18.next+13<=h19.next:=f19.next;omega
  have sx21:=sx.mono f1821
  have R12: ∀hh,Fx W h21 hh->Fr h12 hh:=λhh fx=>⟨by have:=F21.next;have:=fx.next;omega,λid hid=>by rw[fx.get id (by have:=F21.next;omega) λh=>by have:=W12 id h;omega,F21.get id hid]⟩
  have R9: ∀hh,Fx W h21 hh->Fr h9 hh:=λhh fx=>(f10.trans (f11.trans f12)).trans (R12 hh fx)
  obtain⟨t1,t2⟩:=cT a haN
  obtain⟨t3,t4⟩:=cT b hbN
  have ta: ∀hh,Fx W h21 hh->hh.cell idT (offT+a)=some (aB ((fQ (fF n (· ∈S)) L K3 a:Nat):Int)):=λhh fx=>by rw[((f11.trans f12).trans (R12 hh fx)).cell t1];exact t2
  have tb: ∀hh,Fx W h21 hh->hh.cell idT (offT+b)=some (aB ((fQ (fF n (· ∈S)) L K3 b:Nat):Int)):=λhh fx=>by rw[((f11.trans f12).trans (R12 hh fx)).cell t3];exact t4
  have iP:h21.get P=some (.cells false (rc r λq=> aB (ps N (f q) a b+if q<0 then f q a b else 0))):=by
   rw[gP21];congr 2;exact aU λq _=>by rw[if_neg (by omega),Int.add_zero]
  have iD:h21.get D=some (.cells false (rc r λq=> aB (ps N (c q) a b+if q<0 then c q a b else 0))):=by
   rw[gD21];congr 2;exact aU λq _=>by rw[if_neg (by omega),Int.add_zero]
  refine aI (λk' vars hh=> ∃(k:Nat),(∃g:Nat->V,vars= [g 0,aB i,aB j,g 3,g 4,vA,g 6,v7,g 8,v9,g 10,aB r,vm,g 13,vk,g 15,.sl P 0 r (.kn r),.sl D 0 r (.kn r),aB a,aB b,vx,vz,aB k,g 23,g 24,g 25,g 26,g 27,g 28,g 29,g 30,g 31,g 32])/\k<=r/\hh.get P=some (.cells false (rc r λq=> aB (ps N (f q) a b+if q<k then f q a b else 0)))/\hh.get D=some (.cells false (rc r λq=> aB (ps N (c q) a b+if q<k then c q a b else 0)))/\Fx W h21 hh/\k'=r-k) r
   ⟨0,aA rfl,lG _,iP,iD,Fx.refl _ _,rfl⟩ ?_
  clear gP gD gP21 gD21
  rintro k' vars h22 ⟨k,⟨g,rfl⟩,hk,gP,gD,fx,rfl⟩
  have n22:=fx.next
  by_cases hlk:(k:Int)<(r:Int)
  case neg=>
   have e3:decide ((k:Int)<(r:Int))=false:=decide_eq_false hlk;obtain rfl:k=r:=by omega
   simp(disch:=omega)only[go_sem,e3];rw[iJ b];refine⟨N-(b+1),by omega,b+1,aA rfl,by omega,?_,?_,R12 _ fx,by omega,rfl⟩
   ·rw[gP];congr 2;exact aU λq hq=>by rw[if_pos hq,Zy]
   ·rw[gD];congr 2;exact aU λq hq=>by rw[if_pos hq,Zy]
  have e3:decide ((k:Int)<(r:Int))=true:=decide_eq_true hlk
  have hkr:k<r:=by omega
  obtain⟨bC,rep,cr,_,_,sr⟩:=cC k hkr
  have Rk:bG n (L.getD (K3.getD k 0) []):=jU hG E (ik3.lt (bB (by omega)))
  have cr': ∀hh,Fx W h21 hh->hh.cell idC (offC+k*3)=some rep:=λhh fx=>by rw[(R9 hh fx).cell bC];exact cr
  have pb:=Vi (f01 k) (show a<=N by omega) (show b<=N by omega) L120
  have cb':=Vi (c01 k) (show a<=N by omega) (show b<=N by omega) L120
  by_cases ca:((fQ (fF n (· ∈S)) L K3 a:Nat):Int)=(i:Int)
  case neg=>
   have e4:=decide_eq_false ca;simp(disch:=omega)only[go_sem,e3,shT.ixa,ta h22 fx,e4,shC.ixa,cr' h22 fx];have f0:f k a b=0:=by rw[hf];exact if_neg λe=>ca (by rw[e.1])
   have gPT:h22.get P=some (.cells false (rc r λq=> aB (ps N (f q) a b+if q<k+1 then f q a b else 0))):=by
    rw[gP];congr 2;refine aU λq hq=>?_
    by_cases e:q=k
    ·rw[if_neg (by omega),if_pos (by omega),e,f0]
    ·by_cases e2:q<k
     ·rw[if_pos e2,if_pos (by omega)]
     ·rw[if_neg e2,if_neg (by omega)]
   refine (qA vz rep _ _ h22 (SV.fx sz Oz fx) (sr.mono (R9 _ fx)) (by rw[aP,(BA.mul AB).len];omega) (by rw[aP,Rk.len];omega)).mono ?_;rintro _ hU ⟨rfl,fU⟩;have gPU:hU.get P=some (.cells false (rc r λq=> aB (ps N (f q) a b+if q<k+1 then f q a b else 0))):=by rw[fU.get P (by have:=fx.next;omega)];exact gPT
   have gDU:hU.get D=some (.cells false (rc r λq=> aB (ps N (c q) a b+if q<k then c q a b else 0))):=by rw[fU.get D (by have:=fx.next;omega)];exact gD
   have fxU:Fx W h21 hU:=fx.trans (W':=W) (Fx.of fU) λ_ _ h=>h
   by_cases cc:zi (aS (cF (aS (L.getD b []) (L.getD a []))) (aS (L.getD a []) (L.getD b [])))=zi (L.getD (K3.getD k 0) [])
   ·have dU:hU.cell D k=some (aB (ps N (c k) a b)):=by rw[H.aE gDU,kF hkr,if_neg (by omega),Int.add_zero]
    obtain⟨hV,eV,nV,gV,oV⟩:=Bv hU D ((rc r λq=> aB (ps N (c q) a b+if q<k then c q a b else 0)).set k (aB (ps N (c k) a b+1)));have pS:fI (some (.cells false (rc r λq=> aB (ps N (c q) a b+if q<k then c q a b else 0)))) hU D k [aB (ps N (c k) a b+1)]=some hV:=by rw[aX (by rw[cZ];exact hkr),←eV]
    have c1:c k a b=1:=by rw[hc];exact if_pos (Be cc)
    simp(disch:=omega)only[go_sem,decide_eq_true cc,dU,gDU,pS];rw[iJ k];refine⟨r-(k+1),by omega,k+1,aA rfl,by omega,(oV P (by omega)).trans gPU,?_,⟨by have:=fxU.next;omega,λid h1 h2=>by rw[oV id (λe=>h2 (by rw[e];exact WD)),fxU.get id h1 h2]⟩,rfl⟩
    ·rw[gV,fW]
     congr 2;refine aU λq hq=>?_
     by_cases e:q=k
     ·rw[if_pos e,if_pos (by omega),e,c1]
     ·rw[if_neg e]
      by_cases e2:q<k
      ·rw[if_pos e2,if_pos (by omega)]
      ·rw[if_neg e2,if_neg (by omega)]
   ·have c0:c k a b=0:=by rw[hc];exact if_neg λe=>cc (by rw[e])
    simp(disch:=omega)only[go_sem,decide_eq_false cc];rw[iJ k];refine⟨r-(k+1),by omega,k+1,aA rfl,by omega,gPU,?_,fxU,rfl⟩;rw[gDU];congr 2;refine aU λq hq=>?_
    by_cases e:q=k
    ·rw[if_neg (by omega),if_pos (by omega),e,c0]
    ·by_cases e2:q<k
     ·rw[if_pos e2,if_pos (by omega)]
     ·rw[if_neg e2,if_neg (by omega)]
  by_cases cb:((fQ (fF n (· ∈S)) L K3 b:Nat):Int)=(j:Int)
  case neg=>
   have e4:=decide_eq_true ca;have e5:=decide_eq_false cb;simp(disch:=omega)only[go_sem,e3,shT.ixa,ta h22 fx,tb h22 fx,e4,e5,shC.ixa,cr' h22 fx];have f0:f k a b=0:=by rw[hf];exact if_neg λe=>cb (by rw[e.2.1])
   have gPT:h22.get P=some (.cells false (rc r λq=> aB (ps N (f q) a b+if q<k+1 then f q a b else 0))):=by
    rw[gP];congr 2;refine aU λq hq=>?_
    by_cases e:q=k
    ·rw[if_neg (by omega),if_pos (by omega),e,f0]
    ·by_cases e2:q<k
     ·rw[if_pos e2,if_pos (by omega)]
     ·rw[if_neg e2,if_neg (by omega)]
   refine (qA vz rep _ _ h22 (SV.fx sz Oz fx) (sr.mono (R9 _ fx)) (by rw[aP,(BA.mul AB).len];omega) (by rw[aP,Rk.len];omega)).mono ?_;rintro _ hU ⟨rfl,fU⟩;have gPU:hU.get P=some (.cells false (rc r λq=> aB (ps N (f q) a b+if q<k+1 then f q a b else 0))):=by rw[fU.get P (by have:=fx.next;omega)];exact gPT
   have gDU:hU.get D=some (.cells false (rc r λq=> aB (ps N (c q) a b+if q<k then c q a b else 0))):=by rw[fU.get D (by have:=fx.next;omega)];exact gD
   have fxU:Fx W h21 hU:=fx.trans (W':=W) (Fx.of fU) λ_ _ h=>h
   by_cases cc:zi (aS (cF (aS (L.getD b []) (L.getD a []))) (aS (L.getD a []) (L.getD b [])))=zi (L.getD (K3.getD k 0) [])
   ·have dU:hU.cell D k=some (aB (ps N (c k) a b)):=by rw[H.aE gDU,kF hkr,if_neg (by omega),Int.add_zero]
    obtain⟨hV,eV,nV,gV,oV⟩:=Bv hU D ((rc r λq=> aB (ps N (c q) a b+if q<k then c q a b else 0)).set k (aB (ps N (c k) a b+1)));have pS:fI (some (.cells false (rc r λq=> aB (ps N (c q) a b+if q<k then c q a b else 0)))) hU D k [aB (ps N (c k) a b+1)]=some hV:=by rw[aX (by rw[cZ];exact hkr),←eV]
    have c1:c k a b=1:=by rw[hc];exact if_pos (Be cc)
    simp(disch:=omega)only[go_sem,decide_eq_true cc,dU,gDU,pS];rw[iJ k];refine⟨r-(k+1),by omega,k+1,aA rfl,by omega,(oV P (by omega)).trans gPU,?_,⟨by have:=fxU.next;omega,λid h1 h2=>by rw[oV id (λe=>h2 (by rw[e];exact WD)),fxU.get id h1 h2]⟩,rfl⟩
    ·rw[gV,fW]
     congr 2;refine aU λq hq=>?_
     by_cases e:q=k
     ·rw[if_pos e,if_pos (by omega),e,c1]
     ·rw[if_neg e]
      by_cases e2:q<k
      ·rw[if_pos e2,if_pos (by omega)]
      ·rw[if_neg e2,if_neg (by omega)]
   ·have c0:c k a b=0:=by rw[hc];exact if_neg λe=>cc (by rw[e])
    simp(disch:=omega)only[go_sem,decide_eq_false cc];rw[iJ k];refine⟨r-(k+1),by omega,k+1,aA rfl,by omega,gPU,?_,fxU,rfl⟩;rw[gDU];congr 2;refine aU λq hq=>?_
    by_cases e:q=k
    ·rw[if_neg (by omega),if_pos (by omega),e,c0]
    ·by_cases e2:q<k
     ·rw[if_pos e2,if_pos (by omega)]
     ·rw[if_neg e2,if_neg (by omega)]
  have e4:=decide_eq_true ca
  have e5:=decide_eq_true cb
  simp(disch:=omega)only[go_sem,e3,shT.ixa,ta h22 fx,tb h22 fx,e4,e5,shC.ixa,cr' h22 fx]
  refine (qA vx rep _ _ h22 (SV.fx sx21 Ox fx) (sr.mono (R9 _ fx)) (by rw[aP,AB.len];omega) (by rw[aP,Rk.len];omega)).mono ?_
  rintro _ h23 ⟨rfl,f23⟩
  have fx3:Fx W h21 h23:=fx.trans (W':=W) (Fx.of f23) λ_ _ h=>h
  have gP3:h23.get P=_:=(f23.get P (by omega)).trans gP
  have gD3:h23.get D=_:=(f23.get D (by omega)).trans gD
  by_cases cs:zi (aS (L.getD a []) (L.getD b []))=zi (L.getD (K3.getD k 0) [])
  case neg=>
   simp(disch:=omega)only[go_sem,decide_eq_false cs,shC.ixa,cr' h23 fx3];have f0:f k a b=0:=by rw[hf];exact if_neg λe=>cs (by rw[e.2.2])
   have gPT:h23.get P=some (.cells false (rc r λq=> aB (ps N (f q) a b+if q<k+1 then f q a b else 0))):=by
    rw[gP3];congr 2;refine aU λq hq=>?_
    by_cases e:q=k
    ·rw[if_neg (by omega),if_pos (by omega),e,f0]
    ·by_cases e2:q<k
     ·rw[if_pos e2,if_pos (by omega)]
     ·rw[if_neg e2,if_neg (by omega)]
   refine (qA vz rep _ _ h23 (SV.fx sz Oz fx3) (sr.mono (R9 _ fx3)) (by rw[aP,(BA.mul AB).len];omega) (by rw[aP,Rk.len];omega)).mono ?_;rintro _ hU ⟨rfl,fU⟩;have gPU:hU.get P=some (.cells false (rc r λq=> aB (ps N (f q) a b+if q<k+1 then f q a b else 0))):=by rw[fU.get P (by have:=fx3.next;omega)];exact gPT
   have gDU:hU.get D=some (.cells false (rc r λq=> aB (ps N (c q) a b+if q<k then c q a b else 0))):=by rw[fU.get D (by have:=fx3.next;omega)];exact gD3
   have fxU:Fx W h21 hU:=fx3.trans (W':=W) (Fx.of fU) λ_ _ h=>h
   by_cases cc:zi (aS (cF (aS (L.getD b []) (L.getD a []))) (aS (L.getD a []) (L.getD b [])))=zi (L.getD (K3.getD k 0) [])
   ·have dU:hU.cell D k=some (aB (ps N (c k) a b)):=by rw[H.aE gDU,kF hkr,if_neg (by omega),Int.add_zero]
    obtain⟨hV,eV,nV,gV,oV⟩:=Bv hU D ((rc r λq=> aB (ps N (c q) a b+if q<k then c q a b else 0)).set k (aB (ps N (c k) a b+1)));have pS:fI (some (.cells false (rc r λq=> aB (ps N (c q) a b+if q<k then c q a b else 0)))) hU D k [aB (ps N (c k) a b+1)]=some hV:=by rw[aX (by rw[cZ];exact hkr),←eV]
    have c1:c k a b=1:=by rw[hc];exact if_pos (Be cc)
    simp(disch:=omega)only[go_sem,decide_eq_true cc,dU,gDU,pS];rw[iJ k];refine⟨r-(k+1),by omega,k+1,aA rfl,by omega,(oV P (by omega)).trans gPU,?_,⟨by have:=fxU.next;omega,λid h1 h2=>by rw[oV id (λe=>h2 (by rw[e];exact WD)),fxU.get id h1 h2]⟩,rfl⟩
    ·rw[gV,fW]
     congr 2;refine aU λq hq=>?_
     by_cases e:q=k
     ·rw[if_pos e,if_pos (by omega),e,c1]
     ·rw[if_neg e]
      by_cases e2:q<k
      ·rw[if_pos e2,if_pos (by omega)]
      ·rw[if_neg e2,if_neg (by omega)]
   ·have c0:c k a b=0:=by rw[hc];exact if_neg λe=>cc (by rw[e])
    simp(disch:=omega)only[go_sem,decide_eq_false cc];rw[iJ k];refine⟨r-(k+1),by omega,k+1,aA rfl,by omega,gPU,?_,fxU,rfl⟩;rw[gDU];congr 2;refine aU λq hq=>?_
    by_cases e:q=k
    ·rw[if_neg (by omega),if_pos (by omega),e,c0]
    ·by_cases e2:q<k
     ·rw[if_pos e2,if_pos (by omega)]
     ·rw[if_neg e2,if_neg (by omega)]
  have dP:h23.cell P k=some (aB (ps N (f k) a b)):=by rw[H.aE gP3,kF hkr,if_neg (by omega),Int.add_zero]
  obtain⟨h24,e24,n24,g24,o24⟩:=Bv h23 P ((rc r λq=> aB (ps N (f q) a b+if q<k then f q a b else 0)).set k (aB (ps N (f k) a b+1)))
  have pP:fI (some (.cells false (rc r λq=> aB (ps N (f q) a b+if q<k then f q a b else 0)))) h23 P k [aB (ps N (f k) a b+1)]=some h24:=by rw[aX (by rw[cZ];exact hkr),←e24]
  have f1:f k a b=1:=by rw[hf];exact if_pos ⟨by omega,by omega,Be cs⟩
  have n23:=f23.next
  have fx4:Fx W h21 h24:=⟨by have:=fx3.next;omega,λid h1 h2=>by rw[o24 id (λe=>h2 (by rw[e];exact WP)),fx3.get id h1 h2]⟩
  have gD4:h24.get D=_:=(o24 D (by omega)).trans gD3
  have gPT:h24.get P=some (.cells false (rc r λq=> aB (ps N (f q) a b+if q<k+1 then f q a b else 0))):=by
   rw[g24,fW];congr 2;refine aU λq hq=>?_
   by_cases e:q=k
   ·rw[if_pos e,if_pos (by omega),e,f1]
   ·rw[if_neg e]
    by_cases e2:q<k
    ·rw[if_pos e2,if_pos (by omega)]
    ·rw[if_neg e2,if_neg (by omega)]
  simp(disch:=omega)only[go_sem,decide_eq_true cs,dP,gP3,pP,shC.ixa,cr' h24 fx4]
  refine (qA vz rep _ _ h24 (SV.fx sz Oz fx4) (sr.mono (R9 _ fx4)) (by rw[aP,(BA.mul AB).len];omega) (by rw[aP,Rk.len];omega)).mono ?_
  rintro _ hU ⟨rfl,fU⟩
  have gPU:hU.get P=some (.cells false (rc r λq=> aB (ps N (f q) a b+if q<k+1 then f q a b else 0))):=by rw[fU.get P (by have:=fx4.next;omega)];exact gPT
  have gDU:hU.get D=some (.cells false (rc r λq=> aB (ps N (c q) a b+if q<k then c q a b else 0))):=by rw[fU.get D (by have:=fx4.next;omega)];exact gD4
  have fxU:Fx W h21 hU:=fx4.trans (W':=W) (Fx.of fU) λ_ _ h=>h
  by_cases cc:zi (aS (cF (aS (L.getD b []) (L.getD a []))) (aS (L.getD a []) (L.getD b [])))=zi (L.getD (K3.getD k 0) [])
  ·have dU:hU.cell D k=some (aB (ps N (c k) a b)):=by rw[H.aE gDU,kF hkr,if_neg (by omega),Int.add_zero]
   obtain⟨hV,eV,nV,gV,oV⟩:=Bv hU D ((rc r λq=> aB (ps N (c q) a b+if q<k then c q a b else 0)).set k (aB (ps N (c k) a b+1)))
   have pS:fI (some (.cells false (rc r λq=> aB (ps N (c q) a b+if q<k then c q a b else 0)))) hU D k [aB (ps N (c k) a b+1)]=some hV:=by rw[aX (by rw[cZ];exact hkr),←eV]
   have c1:c k a b=1:=by rw[hc];exact if_pos (Be cc)
   simp(disch:=omega)only[go_sem,decide_eq_true cc,dU,gDU,pS]
   rw[iJ k]
   refine⟨r-(k+1),by omega,k+1,aA rfl,by omega,(oV P (by omega)).trans gPU,?_,⟨by have:=fxU.next;omega,λid h1 h2=>by rw[oV id (λe=>h2 (by rw[e];exact WD)),fxU.get id h1 h2]⟩,rfl⟩
   ·rw[gV,fW]
    congr 2
    refine aU λq hq=>?_
    by_cases e:q=k
    ·rw[if_pos e,if_pos (by omega),e,c1]
    ·rw[if_neg e]
     by_cases e2:q<k
     ·rw[if_pos e2,if_pos (by omega)]
     ·rw[if_neg e2,if_neg (by omega)]
  ·have c0:c k a b=0:=by rw[hc];exact if_neg λe=>cc (by rw[e])
   simp(disch:=omega)only[go_sem,decide_eq_false cc]
   rw[iJ k]
   refine⟨r-(k+1),by omega,k+1,aA rfl,by omega,gPU,?_,fxU,rfl⟩
   rw[gDU]
   congr 2
   refine aU λq hq=>?_
   by_cases e:q=k
   ·rw[if_neg (by omega),if_pos (by omega),e,c0]
   ·by_cases e2:q<k
    ·rw[if_pos e2,if_pos (by omega)]
    ·rw[if_neg e2,if_neg (by omega)]
 rintro vars h22 ⟨⟨g,rfl⟩,gP,gD,f22,nD⟩
 have ep:(rc r λk=>aB (ps N (f k) N 0))=ints (zi ((List.range r).map (nP (fF n (· ∈S)) L K3 i j))):=by
  rw[WW];exact aU λk hk=>by rw[hf,←hN,aaX hG E ik3 i j (by omega)]
 have ec:(rc r λk=>aB (ps N (c k) N 0))=ints (zi ((List.range r).map λk=>rU (fF n (· ∈S)) L K3 k r)):=by
  rw[WW];exact aU λk hk=>by rw[hc,←hN,YX hG E ik3 (by omega),hr]
 rw[ep] at gP
 rw[ec] at gD
 have sP:SI h22 (.sl P 0 r (.kn r)) (zi ((List.range r).map (nP (fF n (· ∈S)) L K3 i j))):=SV.all (by rw[aJ,aP,qX,List.length_range,Nat.mul_one]) (by omega) gP _
 have sD:SI h22 (.sl D 0 r (.kn r)) (zi ((List.range r).map λk=>rU (fF n (· ∈S)) L K3 k r)):=SV.all (by rw[aJ,aP,qX,List.length_range,Nat.mul_one]) nD gD _
 simp(disch:=omega)only[go_sem,shM.ixa,x2 h22 (f12.trans f22)]
 refine (qA _ _ _ _ h22 sP (sj.mono (f12.trans f22)) (by simp [zi];omega) (by simp [zi];omega)).mono ?_
 rintro _ h23 ⟨rfl,f23⟩
 simp(disch:=omega)only[go_sem,dT]
 refine (qA _ _ _ _ h23 (sD.mono f23) (sK.mono (f22.trans f23)) (by simp [zi];omega) (by simp [zi];omega)).mono ?_
 rintro _ h24 ⟨rfl,f24'⟩
 simp(disch:=omega)only[go_sem,dT]
 exact F08.trans (F12.trans (f22.trans (f23.trans f24')))
end Go.Proofs.YtapfcpkecmmagaaGreat
