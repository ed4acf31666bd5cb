/- Texts of the claim. -/
import Derived.Test.YtapfcpkecmmagaaGreatSc7toR11
import Derived.Test.YtapfcpkecmmagaaGreatDp2toP4a
set_option maxHeartbeats 32000000
namespace Go.Proofs.YtapfcpkecmmagaaGreat
open Go Go.Ay Go.Pm
set_option maxRecDepth 100000
set_option maxHeartbeats 64000000
def Two (b:Nat)(vo vr:V)(q:Nat):Prop:=q<b∨fI vo q∨fI vr q
theorem Ai (vA:V)(n:Nat)(G:List Nat->Prop)(A:LN)(h:H)(h0:0<n)(hn:n<=7)(hG:sZ n G)(E:fL G A)(hA:A.length<=5040)(sA:SP h vA A):
  Ev T 19 [aB n,vA] h (λv h'=> ∃O R',GP (λid=>id<h.next) h' v n O R'/\eU n G O R'/\Fr h h'):=by
 refine bN tM rfl rfl ?_
 obtain⟨lvA,eA,idA,offA,wA,shA,cA⟩:=Bn sA
 obtain⟨m,hm⟩:=exI A.length
 rw[hm] at lvA shA cA
 obtain⟨B,hB⟩:=exI h.next
 have bl:tZ [aB 0,.aC,.aC] [(0,1,aB n)]=some (.agg [aB n,.aC,.aC]):=by
  have e1:putAt [aB 0,.aC,.aC] 0 [aB n]=some [aB n,.aC,.aC]:=by simp [putAt]
  simp [tZ,jL,e1,V.cells,V.one]
 obtain⟨ha,ea,na,ga,oa,fa⟩:=iX hB [aB 0,.aC,.aC]
 obtain⟨h1,e1,n1,g1,o1,f1'⟩:=iX na [aB 0,.aC,.aC]
 obtain⟨h2,e2,n2,g2,o2⟩:=Fq h1 (B+1) [aB n,.aC,.aC]
 have f2:Fr h h2:=⟨by omega,λq hq=>by rw[o2 q (by omega),o1 q (by omega),oa q (by omega)]⟩
 have n2':h2.next=B+2:=by omega
 have g20:h2.get B=some (.cells false [aB 0,.aC,.aC]):=by rw[o2 B (by omega),o1 B (by omega)];exact ga
 simp(disch:=omega)only[go_sem,tM,aE,hB,ea,na,e1,bl,nZ h1 (B+1) 0 (v:= aB n) (u:= .aC) (w:= .aC) rfl rfl rfl,g1,jW,e2]
 refine aI (λk' vars hh=> ∃(i:Nat) (W:Nat->Prop) (O:LN) (R':pF) (vO vR:V) (wsO wsR:List V),(∃g:Nat->V,vars= [aB n,vA,.ptr B 0,.ptr (B+1) 0,aB i,g 5,g 6,g 7,g 8,g 9,g 10,g 11,g 12,g 13,g 14,g 15])/\i<=n/\xU h hh (B+1) B W n O R' vO vR wsO wsR/\
   hh.get B=some (.cells false [aB 0,.aC,.aC])/\O.length=i/\R'.length=i/\(∀j,j<i->Vx n G j n (O.getD j []) (R'.getD j []))/\k'=n-i) n
  ⟨0,_, [], [],_,_,_,_,aA rfl,lL _,xU.start (by omega) (by omega) (by omega) (by omega) (by omega) f2 g2,g20,rfl,rfl,λj hj=>by omega,rfl⟩ ?_
 clear f2 g2 g20 n2 n2' o2 e2 g1 o1 e1 n1 f1' ga oa ea na fa
 rintro k' vars h2 ⟨i,W,O,R',vO,vR,wsO,wsR,⟨g,rfl⟩,hi,AC,gB,lO,lR,hC,rfl⟩
 by_cases hlt:(i:Int)<(n:Int)
 case neg=>
  have e1:=iZ hlt;obtain rfl:i=n:=by omega
  have hr:=bZ AC.get;have nB:=AC.fr.next;simp(disch:=omega)only[go_sem,e1,hr,nZ h2 B 0 (v:= aB i) (u:=vO) (w:=vR) rfl (SV.eI AC.oO.sv).2.1 (SV.eI AC.oR.sv).2.1,gB,jW];have hr2:=bZ (h:=h2.set B (some (.cells false [aB i,vO,vR]))) (H.aS ..);have fB:Fx (· =B) h2 (h2.set B (some (.cells false [aB i,vO,vR]))):=Fx.set h2 (W:=(· =B)) rfl _;simp(disch:=omega)only[go_sem,hr2]
  obtain⟨h3,h3e⟩: ∃h3,h3=h2.set B (some (.cells false [aB i,vO,vR])):=⟨_,rfl⟩
  rw[←h3e] at fB ⊢;have A3:=AC.box h3e;refine⟨O,R',by rw[←hB];exact A3.chw,⟨lO,lR,λj hj=>(hC j hj).asc,λj hj p=>?_,λj hj=>(hC j hj).len,λj hj=>(hC j hj).rep⟩,A3.fr⟩;rw[(hC j hj).mem];constructor
  ·exact λh=>h.2
  ·rintro⟨x,gx,fx,ex⟩
   exact⟨by rw[←ex];exact (hG.dY gx).eY hj,x,gx,fx,ex⟩
 have e1:=mL hlt
 have hin:i<n:=by omega
 have sAi:=sA.mono AC.fr
 simp(disch:=omega)only[go_sem,e1]
 obtain⟨h4,h4e⟩:=exI h2
 subst h4e
 refine cI (λvs hh=> ∃(vo vr:V) (q:List Nat) (r:LN),(∃g:Nat->V,vs= [aB n,vA,.ptr B 0,.ptr (B+1) 0,aB i,vo,vr,g 7,g 8,g 9,g 10,g 11,g 12,g 13,g 14,g 15])/\PV W hh vo q/\PL W hh vr r/\Vx n G i n q r/\Fr h2 hh) ?_ ?_
 ·refine aI (λk' vs hh=> ∃(p:Nat) (vo vr:V) (ws:List V) (q:List Nat) (r:LN),(∃g:Nat->V,vs= [aB n,vA,.ptr B 0,.ptr (B+1) 0,aB i,vo,vr,aB p,g 8,g 9,g 10,g 11,g 12,g 13,g 14,g 15])/\p<=n/\eZ hh vo 1 (ints (zi q)) h2.next/\eZ hh vr 1 ws h2.next/\jN (Two h2.next vo vr) hh ws r/\(∀x,fI vo x-> ¬fI vr x)/\Vx n G i p q r/\Fr h2 hh/\k'=n-p) n
   ⟨0,.aC,.aC, [], [], [],aA rfl,lL _,eZ.aC _ _ _,eZ.aC _ _ _,trivial,(λ_ ⟨_,_,_,e⟩=>by cases e),Vx.start n G i,Fr.refl _,rfl⟩ ?_
  rintro k' vars h5 ⟨p,vo,vr,ws,q,r,⟨g,rfl⟩,hp,oo,ow,pvs,Gj,cp,f5,rfl⟩
  by_cases hlt2:(p:Int)<(n:Int)
  case neg=>
   have d2:=iZ hlt2;obtain rfl:p=n:=by omega
   simp(disch:=omega)only[go_sem,d2];refine⟨vo,vr,q,r,aA rfl,⟨oo.sv,?_⟩,⟨ws,ow.sv,?_,pvs.tA (λid _ h=> .inl (AC.wb id h)),eZ.LL ow⟩,cp,f5⟩
   ·cases vo with
    |sl id off m c=>exact λh=>by have:=(oo.in _ _ _ _ rfl).2.1;have:=AC.wb id h;omega
    |_=>trivial
   ·cases vr with
    |sl id off m c=>exact λh=>by have:=(ow.in _ _ _ _ rfl).2.1;have:=AC.wb id h;omega
    |_=>trivial
  have d2:=mL hlt2
  have hpn:p<n:=by omega
  simp(disch:=omega)only[go_sem,d2]
  refine Ce (λvs hh=> ∃(vo vr:V) (ws:List V) (q:List Nat) (r:LN),(∃g:Nat->V,vs= [aB n,vA,.ptr B 0,.ptr (B+1) 0,aB i,vo,vr,aB p,g 8,g 9,g 10,g 11,g 12,g 13,g 14,g 15])/\eZ hh vo 1 (ints (zi q)) h2.next/\eZ hh vr 1 ws h2.next/\jN (Two h2.next vo vr) hh ws r/\(∀x,fI vo x-> ¬fI vr x)/\Vx n G i (p+1) q r/\Fr h2 hh) ?_ ?_
  ·refine aI (λk' vs hh=> ∃(k:Nat),(∃g:Nat->V,vs= [aB n,vA,.ptr B 0,.ptr (B+1) 0,aB i,vo,vr,aB p,aB k,g 9,g 10,g 11,g 12,g 13,g 14,g 15])/\k<=m/\(∀k',k'<k-> ¬((A.getD k' []).getD i 0=p/\Fix i (A.getD k' [])))/\eZ hh vo 1 (ints (zi q)) h2.next/\eZ hh vr 1 ws h2.next/\jN (Two h2.next vo vr) hh ws r/\Fr h2 hh/\k'=m-k) m
    ⟨0,aA rfl,lL _,λk' h=>by omega,oo,ow,pvs,f5,rfl⟩ ?_
   clear oo ow pvs f5
   rintro k' vars h6 ⟨k,⟨g',rfl⟩,hk,hno,oo,ow,pvs,f6,rfl⟩
   by_cases hlk:(k:Int)<(m:Int)
   case neg=>
    have d3:decide ((k:Int)<(m:Int))=false:=decide_eq_false hlk;obtain rfl:k=m:=by omega
    simp(disch:=omega)only[go_sem,lvA,d3];refine⟨vo,vr,ws,q,r,aA rfl,oo,ow,pvs,Gj,cp.skip λx gx fx ex=>?_,f6⟩;obtain⟨j,hj,ej⟩:=Ge.1 ((E.mem x).2 gx);have ej':A.getD j []=x:=by rw[List.getD_eq_getElem?_getD,iD hj];exact ej
    exact hno j (by omega) ⟨by rw[ej'];exact ex,by rw[ej'];exact fx⟩
   have d3:decide ((k:Int)<(m:Int))=true:=decide_eq_true hlk
   have hkm:k<m:=by omega
   obtain⟨bA,cAk,sx⟩:=cA k hkm
   have F6:=AC.fr.trans f6
   generalize wA.getD k V.undef=vx at cAk sx
   have X:=kP hG E (show k<A.length by omega)
   obtain⟨x,hx⟩:=exI (A.getD k [])
   rw[hx] at sx X
   have cx:h6.cell idA (offA+k)=some vx:=by rw[F6.cell bA];exact cAk
   obtain⟨idx,offx,shx,hidx,hcx⟩:=(sx.mono F6).open
   have lxn:(zi x).length=n:=by rw[aT,X.len]
   rw[lxn] at shx hidx hcx
   have cxj: ∀j,j<n->h6.cell idx (offx+j)=some (aB (x.getD j 0:Nat)):=λj hj=>by
    rw[hcx j hj];congr 2;simp [zi,X.len,hj]
   simp(disch:=omega)only[go_sem,lvA,d3,shA.ixa,cx,shx.ixa,cxj i hin]
   refine cI (λvs hh=>hh=h6/\ ∃b:Bool,(∃g:Nat->V,vs= [aB n,vA,.ptr B 0,.ptr (B+1) 0,aB i,vo,vr,aB p,aB k,.bool b,g 10,g 11,g 12,g 13,g 14,g 15])/\(b=true↔x.getD i 0=p/\Fix i x)) ?_ ?_
   ·refine aI (λk' vs hh=>hh=h6/\ ∃(j:Nat) (b:Bool),(∃g:Nat->V,vs= [aB n,vA,.ptr B 0,.ptr (B+1) 0,aB i,vo,vr,aB p,aB k,.bool b,aB j,g 11,g 12,g 13,g 14,g 15])/\j<=i/\(b=true↔x.getD i 0=p/\Fix j x)/\k'=i-j) i
     ⟨rfl,0,_,aA rfl,lL _,by rw[decide_eq_true_iff];exact⟨λh=>⟨by omega,λj hj=>by omega⟩,λh=>by rw[h.1]⟩,rfl⟩ ?_
    rintro k' vars hh ⟨rfl,j,b,⟨g,rfl⟩,hj,hb,rfl⟩
    cases b with
    |false=>
     simp(disch:=omega)only[go_sem,Ki];refine⟨false,aA rfl,⟨λh=>(by cases h),λh=>?_⟩⟩;exact hb.2 ⟨h.1,λj' hj'=>h.2 j' (by omega)⟩
    |true=>
     have hb1:=hb.1 rfl
     by_cases hji:(j:Int)<(i:Int)
     ·have d4:decide ((j:Int)<(i:Int))=true:=decide_eq_true hji
      simp(disch:=omega)only[go_sem,d4,shA.ixa,cx,shx.ixa,cxj j (by omega)];rw[jJ j];refine⟨i-(j+1),by omega,j+1,_,aA rfl,by omega,?_,rfl⟩;rw[decide_eq_true_iff];constructor
      ·intro h
       refine⟨hb1.1,λj' hj'=>?_⟩
       by_cases e:j'=j
       ·subst e;omega
       ·exact hb1.2 j' (by omega)
      ·intro h
       rw[h.2 j (by omega)]
     ·have d4:decide ((j:Int)<(i:Int))=false:=decide_eq_false hji
      obtain rfl:j=i:=by omega
      simp(disch:=omega)only[go_sem,d4];exact⟨true,aA rfl,hb⟩
   rintro vars hh ⟨rfl,b,⟨g,rfl⟩,hb⟩
   cases b with
   |false=>
    simp(disch:=omega)only[go_sem];rw[jJ k];refine⟨m-(k+1),by omega,k+1,aA rfl,by omega,λk' hk' h=>?_,oo,ow,pvs,f6,rfl⟩
    by_cases e:k'=k
    ·rw[e,hx] at h
     have:=hb.2 h;cases this
    ·exact hno k' (by omega) h
   |true=>
    have hb1:=hb.1 rfl;have rep:=EC (n:=n) E (show k<A.length by omega) (by rw[hx];exact hb1.2) (by rw[hx];exact hb1.1) hno;rw[hx] at rep;simp(disch:=omega)only[go_sem,shA.ixa,cx,Po]
    obtain⟨hd,hde⟩: ∃hd:H,hd=H.mk ((H.mk hh.tr (hh.next+2)).new (Ob.cells false (ints [(p:Int)]))).tr (hh.next+14):=⟨_,rfl⟩
    rw[←hde];obtain⟨Q,hQ⟩:=exI (hh.next+2);rw[hQ] at hde ⊢;have gd:hd.get Q=some (.cells false (ints [(p:Int)])):=by rw[hde];exact H.aM (H.mk hh.tr Q) _
    have od: ∀k,k≠Q->hd.get k=hh.get k:=λk hk=>by rw[hde];exact H.bD (H.mk hh.tr Q) hk _
    have nd:hd.next=hh.next+14:=by rw[hde]
    have fd:Fr hh hd:=⟨by omega,λk hk=>od k (by omega)⟩
    have n6:=f6.next;have cpl:=cp.le;have ood:=oo.fr fd;have owd:=ow.fr fd;have hin1:=λid off m c (e:vo=V.sl id off m c)=>oo.in id off m c e
    have hin2:=λid off m c (e:vr=V.sl id off m c)=>ow.in id off m c e
    obtain⟨h7,a7,p7⟩:=ood.push (bytes:=8) (SV.one (v:= aB p) (id:=Q) (by omega) gd (.kn 1)) (n:=q.length) (m:=1) (by rw[aN,aT,Nat.mul_one]) rfl (by omega) (by omega) (by omega);have n7:=p7.next;have old7: ∀k,k<hh.next->dO vo k->h7.get k=hh.get k:=λk h1 h2=>by rw[p7.old k (by omega) h2,od k (by omega)]
    have apo: ∀k,k<h2.next->dO vo k:=λk hk id off m c e e2=>by have:=hin1 _ _ _ _ e;omega
    have F7:Fr h2 h7:=⟨by omega,λk hk=>by rw[old7 k (by omega) (apo k hk)];exact f6.get k hk⟩
    have F07:=AC.fr.trans F7;have cx7:h7.cell idA (offA+k)=some vx:=by rw[F07.cell bA];exact cAk
    have evx:=sx.eH;have ow7:eZ h7 vr 1 ws h2.next:=owd.mono (by omega) λid off m c e _ hid=>p7.old id (by omega) λid' off' m' c' e' e2=>Gj id ⟨off',m',c',by rw[e2];exact e'⟩ ⟨off,m,c,e⟩
    simp(disch:=omega)only[go_sem,a7,cx7,evx];refine (aaU vx (zi x) h7 (sx.mono F07) (by rw[lxn];omega)).mono ?_;rintro v25 h8 ⟨ow25,f8,_⟩;have c25:=uK (show SI h8 v25 (zi x) from ow25.sv);have n8:=f8.next;simp(disch:=omega)only[go_sem,dV _ (z:= .aC) c25.1 c25.2]
    obtain⟨he,hee⟩: ∃he:H,he=H.mk ((H.mk h8.tr (hh.next+10)).new (Ob.cells false [v25])).tr h8.next:=⟨_,rfl⟩
    rw[←hee];obtain⟨S,hS⟩:=exI (hh.next+10);rw[hS] at hee ⊢;have ge:he.get S=some (.cells false [v25]):=by rw[hee];exact H.aM (H.mk h8.tr S) _
    have oe: ∀k,k≠S->he.get k=h8.get k:=λk hk=>by rw[hee];exact H.bD (H.mk h8.tr S) hk _
    have ne:he.next=h8.next:=by rw[hee]
    have hin3:=λid off m c (e:v25=V.sl id off m c)=>ow25.in id off m c e
    have ow8:eZ he vr 1 ws h2.next:=ow7.mono (by omega) λid off m c e h1 hid=>by
     have:=(hin2 _ _ _ _ e).1;rw[oe id (by omega),f8.get id hid]
    have hws:=cF.length pvs;obtain⟨h9,a9,p9⟩:=ow8.push (bytes:=24) (SV.one (v:=v25) (id:=S) (by omega) ge (.kn 1)) (n:=q.length) (m:=1) (by rw[hws,cp.len,Nat.mul_one]) rfl (by omega) (by omega) (by omega);have n9:=p9.next;simp(disch:=omega)only[go_sem,a9];have apv: ∀{v:V} {k:Nat},¬fI v k->dO v k:=λhk id off m c e e2=>hk ⟨off,m,c,by rw[e2];exact e⟩
    have old9: ∀k,k<hh.next->dO vo k->dO vr k->h9.get k=hh.get k:=λk h1 h2 h3=>by rw[p9.old k (by omega) h3,oe k (by omega),f8.get k (by omega),old7 k h1 h2]
    have apr: ∀k,k<h2.next->dO vr k:=λk hk id off m c e e2=>by have:=hin2 _ _ _ _ e;omega
    have fx:Fx (Two h2.next vo vr) hh h9:=⟨by omega,λk h1 h2=>old9 k h1 (apv λh=>h2 (.inr (.inl h))) (apv λh=>h2 (.inr (.inr h)))⟩
    have hw: ∀k,k<hh.next->Two h2.next (.sl hd.next 0 (q.length+1) (.un 1)) (.sl he.next 0 (q.length+1) (.un 1)) k->Two h2.next vo vr k:=λk h1 h2=>by
     rcases h2 with h|⟨_,_,_,e⟩|⟨_,_,_,e⟩
     ·exact .inl h
     ·cases e;omega
     ·cases e;omega
    have pnew:PV (Two h2.next (.sl hd.next 0 (q.length+1) (.un 1)) (.sl he.next 0 (q.length+1) (.un 1))) h9 v25 x:=by
     have s8:SI h8 v25 (zi x):=ow25.sv;refine⟨SV.fx (W:=λk=>k=S∨fI vr k) s8 ?_ ⟨by omega,λk h1 h2=>by rw[p9.old k (by omega) (apv λh=>h2 (.inr h)),oe k λe=>h2 (.inl e)]⟩,?_⟩
     ·cases v25 with
      |sl id off m c=>
       have h3:=hin3 _ _ _ _ rfl;rintro (e|⟨_,_,_,e⟩)
       ·omega
       ·have:=hin2 _ _ _ _ e;omega
      |_=>trivial
     ·cases v25 with
      |sl id off m c=>
       have h3:=hin3 _ _ _ _ rfl;rintro (e|⟨_,_,_,e⟩|⟨_,_,_,e⟩)
       ·omega
       ·cases e;omega
       ·cases e;omega
      |_=>trivial
    have o7:=p7.own (b:=h2.next) (by rw[aN,aT,Nat.mul_one]) rfl (by omega);have e7:ints (zi q)++ [aB p]=ints (zi (q++ [p])):=by rw[Gv,pU];rfl
    rw[e7] at o7;refine⟨_,_,ws++ [v25],q++ [p],r++ [x],aA rfl,o7.mono (by omega) λid off m c e _ h1=>by cases e;rw[p9.old _ (by omega) (λid off m c e e2=>by have:=hin2 _ _ _ _ e;omega),oe _ (by omega),f8.get _ (by omega)],p9.own (by rw[hws,cp.len,Nat.mul_one]) rfl (by omega),(jN.go pvs fx hw).append (jN.one pnew),λk ⟨_,_,_,e1⟩ ⟨_,_,_,e2⟩=>by have a:=(V.sl.inj e1).1;have b:=(V.sl.inj e2).1;omega,cp.step rep,⟨by omega,λk hk=>by rw[old9 k (by omega) (apo k hk) (apr k hk)];exact f6.get k hk⟩⟩
  rintro vars h6 ⟨vo',vr',ws',q',r',⟨g',rfl⟩,oo',ow',pvs',dis',cp',f6⟩
  simp(disch:=omega)only[go_sem]
  rw[jJ p]
  exact⟨n-(p+1),by omega,p+1,vo',vr',ws',q',r',aA rfl,by omega,oo',ow',pvs',dis',cp',f6,rfl⟩
 rintro vars h5 ⟨vo,vr,q,r,⟨g,rfl⟩,pq5,pl,hcl,f5⟩
 have A5:=AC.mono f5
 have wo:vo.cells= [vo]/\vo.one=true:=pq5.gX
 have gB5:h5.get B=some (.cells false [aB 0,.aC,.aC]):=by rw[f5.get B (AC.wb B AC.d)];exact gB
 have cO:h5.cell (B+1) 1=some vO:=by rw[H.aF A5.get];rfl
 have cR:h5.cell (B+1) 2=some vR:=by rw[H.aF A5.get];rfl
 obtain⟨ws,pl1,pl2,pl3,pl4⟩:=pl
 have pl:PL W h5 vr r:=⟨ws,pl1,pl2,pl3,pl4⟩
 have fn5:=A5.fr.next
 have cn5:=A5.wb _ A5.c
 simp(disch:=omega)only[go_sem,cO,cR,dV _ (z:= .aC) (v:=vo) wo.1 wo.2]
 obtain⟨h6,h6e⟩: ∃h6:H,h6=H.mk ((H.mk h5.tr (h5.next+3)).new (Ob.cells false [vo])).tr (h5.next+14):=⟨_,rfl⟩
 rw[←h6e]
 have g6:h6.get (h5.next+3)=some (.cells false [vo]):=by rw[h6e];exact H.aM (H.mk h5.tr (h5.next+3)) _
 have n6:h6.next=h5.next+14:=by rw[h6e]
 have o6: ∀k,k≠h5.next+3->h6.get k=h5.get k:=λk hk=>by rw[h6e];exact H.bD (H.mk h5.tr (h5.next+3)) (by simpa using hk) _
 have f6:Fr h5 h6:=⟨by omega,λid hid=>o6 id (by omega)⟩
 have hwO:=cF.length A5.aO
 have hwR:=cF.length A5.aR
 obtain⟨h7,a7,p7⟩:=(A5.oO.fr f6).push (bytes:=24) (SV.one (by omega) g6 (.kn 1)) (n:=i) (m:=1) (by omega) rfl (by omega) (by omega) (by omega)
 have n7:=p7.next
 have oldO: ∀k,k<h5.next->dO vO k->h7.get k=h5.get k:=λk h1 h2=>by rw[p7.old k (by omega) h2,o6 k (by omega)]
 have cR7:h7.cell (B+1) 2=some vR:=by unfold H.cell;rw[oldO (B+1) cn5 A5.pO,A5.get];rfl
 have eR:eH vR vR=true:=A5.oR.sv.eH
 have svr:vr.cells= [vr]/\vr.one=true:=⟨(SV.eI pl1).1,(SV.eI pl1).2.1⟩
 simp(disch:=omega)only[go_sem,a7,cR7,eR,dV _ (z:= .aC) svr.1 svr.2]
 obtain⟨h8,h8e⟩: ∃h8:H,h8=H.mk ((H.mk h7.tr (h5.next+8)).new (Ob.cells false [vr])).tr h7.next:=⟨_,rfl⟩
 rw[←h8e]
 have g8:h8.get (h5.next+8)=some (.cells false [vr]):=by rw[h8e];exact H.aM (H.mk h7.tr (h5.next+8)) _
 have n8:h8.next=h7.next:=by rw[h8e]
 have o8: ∀k,k≠h5.next+8->h8.get k=h7.get k:=λk hk=>by rw[h8e];exact H.bD (H.mk h7.tr (h5.next+8)) (by simpa using hk) _
 have oR8:eZ h8 vR 1 wsR h.next:=A5.oR.mono (by omega) λid off m c e _ hid=>by
  rw[o8 id (by omega),oldO id hid (λid' off' n' c' e' e2=>A5.Gj _ _ _ _ e' _ _ _ _ e e2.symm)]
 obtain⟨h9,a9,p9⟩:=oR8.push (bytes:=24) (SV.one (by omega) g8 (.kn 1)) (n:=i) (m:=1) (by omega) rfl (by omega) (by omega) (by omega)
 have n9:=p9.next
 have apR: ∀k,h5.next<=k->dO vR k:=λk hk id off m c e e2=>by have:=(A5.oR.in _ _ _ _ e).1;omega
 have old9: ∀k,k<h5.next->dO vO k->dO vR k->h9.get k=h5.get k:=λk h1 h2 h3=>by rw[p9.old k (by omega) h3,o8 k (by omega),oldO k h1 h2]
 have gC9:h9.get (B+1)=some (.cells false [aB n,vO,vR]):=by rw[old9 _ cn5 A5.pO A5.pR];exact A5.get
 have pt1: ∀(hh:H) (x:V),fO (some (.cells false [aB n,vO,vR])) hh (B+1) 1 [x]=some (hh.set (B+1) (some (.cells false [aB n,x,vR]))):=λhh x=>aZ (by simp) hh _ x
 have pt2: ∀(hh:H) (x y:V),fO (some (.cells false [aB n,x,vR])) hh (B+1) 2 [y]=some (hh.set (B+1) (some (.cells false [aB n,x,y]))):=λhh x y=>aZ (by simp) hh _ y
 simp(disch:=omega)only[go_sem,a9,gC9,pt1,pt2]
 rw[jJ i]
 obtain⟨ha,hb⟩:h6.next=h5.next+14/\h8.next=h5.next+15:=⟨n6,by omega⟩
 rw[ha,hb]
 obtain⟨h10,h10e⟩: ∃h10,h10=(h9.set (B+1) (some (.cells false [aB n,.sl (h5.next+14) 0 (i+1) (.un 1),vR]))).set (B+1) (some (.cells false [aB n,.sl (h5.next+14) 0 (i+1) (.un 1),.sl (h5.next+15) 0 (i+1) (.un 1)])):=⟨_,rfl⟩
 rw[←h10e]
 have o10: ∀k,k≠B+1->h10.get k=h9.get k:=λk hk=>by rw[h10e,H.aH _ hk,H.aH _ hk]
 have n10:h10.next=h5.next+16:=by rw[h10e];show h9.next=_;omega
 have A10:=A5.step (v4:=vo) (v5:=vr) (o:=q) (r:=r) (h6:=h10) (a:=h5.next+14) (b:=h5.next+15) (k1:=i+1) (k2:=i+1) pq5 pl (by omega) (by omega) (by omega) (by omega) (by omega) (by omega) (by omega) (by rw[h10e,H.aS])
  (by rw[o10 _ (by omega),p9.old _ (by omega) (apR _ (by omega)),o8 _ (by omega),←ha];exact p7.get) (by rw[o10 _ (by omega),←hb];exact p9.get) (λk h1 h2 h3 h4=>by rw[o10 k h2];exact old9 k h1 h3 h4)
 refine⟨n-(i+1),by omega,i+1,_,_,_,_,_,_,_,aA rfl,by omega,A10,?_,by rw[oF,lO];rfl,by rw[oF,lR];rfl,λj hj=>?_,rfl⟩
 ·rw[old9 B (A5.wb B A5.d) A5.qO A5.qR];exact gB5
 ·by_cases e:j=i
  ·subst e
   have e1:(O++ [q]).getD j []=q:=by rw[←lO];exact kB
   have e2:(R'++ [r]).getD j []=r:=by rw[←lR];exact kB
   rw[e1,e2]
   exact hcl
  ·rw[lT (by omega),lT (by omega)]
   exact hC j (by omega)
theorem Jj (n:Nat)(c:Int)(p:Nat->Prop)[DecidablePred p]:sm n (λa=>if p a then c else 0)=c*(((List.range n).filter λa=>decide (p a)).length:Nat):=by
 induction n with
 |zero=>simp [Gs]
 |succ n ih=>
  rw[lP,ih,List.range_succ,List.filter_append,oF]
  by_cases h:p n
  ·simp [h,Int.mul_add]
  ·simp [h]
theorem He {n:Nat}{B:Nat}{f:Nat->Int}(h: ∀a,a<n-> -(B:Int)<=f a/\f a<=B): -((n*B:Nat):Int)<=sm n f/\sm n f<=((n*B:Nat):Int):=by
 induction n with
 |zero=>simp [Gs]
 |succ n ih=>
  have h1:=ih λa ha=>h a (by omega)
  have h2:=h n (by omega);rw[lP,Nat.succ_mul];generalize n*B=c at*;omega
theorem rH {x y:Int}{X Y:Nat}(hx: -(X:Int)<=x/\x<=X)(hy: -(Y:Int)<=y/\y<=Y): -((X*Y:Nat):Int)<=x*y/\x*y<=((X*Y:Nat):Int):=by
 have h:(x*y).natAbs<=X*Y:=by
  rw[Int.natAbs_mul];exact Nat.mul_le_mul (by omega) (by omega)
 omega
noncomputable def Gz (G:List Nat->Prop)(L:LN)(K:List Nat)(x y:List Int)(k i j:Nat):Int:=sm L.length λa=>if fS G L K a<i∨fS G L K a=i/\Uz G L K a k<j then x.getD (fS G L K a) 0*y.getD (Uz G L K a k) 0 else 0
noncomputable def Uy (G:List Nat->Prop)(L:LN)(K:List Nat)(x y:List Int)(k:Nat):Int:=sm L.length λa=>x.getD (fS G L K a) 0*y.getD (Uz G L K a k) 0
section
variable {n:Nat} {G:List Nat->Prop} {L:LN} {K:List Nat} {x y:List Int}
theorem NN (k:Nat):Gz G L K x y k 0 0=0:=by
 unfold Gz;exact Sa λa _=>by rw[if_neg (by omega)]
theorem Rh (k i j:Nat):Gz G L K x y k i (j+1)=Gz G L K x y k i j+x.getD i 0*y.getD j 0*(kN G L K i j k:Nat):=by
 unfold Gz kN Dx;rw[←Jj L.length (x.getD i 0*y.getD j 0) λa=>fS G L K a=i/\Uz G L K a k=j,←JP];refine lC λa _=>?_
 by_cases h:fS G L K a=i/\Uz G L K a k=j
 ·obtain⟨h1,h2⟩:=h
  subst h1;subst h2;rw[if_pos (by omega),if_neg (by omega),if_pos ⟨rfl,rfl⟩,Int.zero_add]
 ·rw[if_neg h,Int.add_zero]
  by_cases h2:fS G L K a<i∨fS G L K a=i/\Uz G L K a k<j
  ·rw[if_pos h2,if_pos (by omega)]
  ·rw[if_neg h2,if_neg (by omega)]
theorem UM {k r:Nat}(hq: ∀a,a<L.length->Uz G L K a k<r)(i:Nat):Gz G L K x y k i r=Gz G L K x y k (i+1) 0:=by
 unfold Gz;refine lC λa ha=>?_
 have:=hq a ha
 by_cases h:fS G L K a<i∨fS G L K a=i
 ·rw[if_pos (by omega),if_pos (by omega)]
 ·rw[if_neg (by omega),if_neg (by omega)]
theorem LR {i:Nat}(h0:x.getD i 0=0)(k:Nat):Gz G L K x y k i 0=Gz G L K x y k (i+1) 0:=by
 unfold Gz;refine lC λa _=>?_
 by_cases h:fS G L K a=i
 ·rw[if_neg (by omega),if_pos (by omega),h,h0,Int.zero_mul]
 ·by_cases h2:fS G L K a<i
  ·rw[if_pos (by omega),if_pos (by omega)]
  ·rw[if_neg (by omega),if_neg (by omega)]
theorem VV {r:Nat}(hn: ∀a,a<L.length->fS G L K a<r)(k:Nat):Gz G L K x y k r 0=Uy G L K x y k:=by
 unfold Gz Uy;exact lC λa ha=>by rw[if_pos (.inl (hn a ha))]
theorem uM {l:List Int}{B:Nat}(h: ∀v∈l, -(B:Int)<=v/\v<=B)(i:Nat): -(B:Int)<=l.getD i 0/\l.getD i 0<=B:=by
 by_cases hi:i<l.length
 ·exact h _ (bB hi)
 ·rw[List.getD_eq_getElem?_getD,List.getElem?_eq_none (by omega)];simp
theorem Mb {X Y:Nat}(hx: ∀v∈x, -(X:Int)<=v/\v<=X)(hy: ∀v∈y, -(Y:Int)<=v/\v<=Y)(k i j:Nat): -((L.length*(X*Y):Nat):Int)<=Gz G L K x y k i j/\Gz G L K x y k i j<=((L.length*(X*Y):Nat):Int):=by
 refine He λa _=>?_
 split
 ·exact rH (uM hx _) (uM hy _)
 ·omega
theorem BP {X Y:Nat}(hx: ∀v∈x, -(X:Int)<=v/\v<=X)(hy: ∀v∈y, -(Y:Int)<=v/\v<=Y)(k:Nat): -((L.length*(X*Y):Nat):Int)<=Uy G L K x y k/\Uy G L K x y k<=((L.length*(X*Y):Nat):Int):=
 He λ_ _=>rH (uM hx _) (uM hy _)
theorem XR (hG:sZ n G)(E:fL G L)(ik:Dh n G L K){a k:Nat}(ha:a<L.length)(hk:k<K.length):Uz G L K a k<K.length:=by
 unfold Uz;have hKk:=ik.lt (bB (d:=0) hk);have hy:G (aU (dA (L.getD a [])) (L.getD (K.getD k 0) [])):=hG.mul (hG.inv (vN E ha)) (vN E hKk);exact (vJ hG E ik (Er E hy).1).1
end
structure aaM (G:List Nat->Prop)(L:LN)(K:List Nat)(i b:Nat)(hh:H)(v:V):Prop where
 ex: ∃(Q:Nat) (ρ:Nat->Nat),v= .sl Q 0 K.length (.kn K.length)/\b<=Q/\Q<hh.next/\hh.get Q=some (.cells false (rc K.length λa=> .sl (ρ a) 0 K.length (.kn K.length)))/\ ∀a,a<K.length->Q<ρ a/\ρ a<hh.next/\hh.get (ρ a)=some (.cells false (rc K.length λk=> aB (kN G L K i a k:Nat)))
theorem aaM.sr {G:List Nat->Prop}{L:LN}{K:List Nat}{i b:Nat}{hh:H}{v:V}(c:aaM G L K i b hh v):SR hh v ((List.range K.length).map λj=>zi ((List.range K.length).map (kN G L K i j))):=by
 obtain⟨Q,ρ,rfl,_,nQ,gQ,rows⟩:=c.ex;refine⟨(List.range K.length).map λa=> .sl (ρ a) 0 K.length (.kn K.length),?_,?_⟩
 ·exact SV.all (by rw[dG,Nat.mul_one]) nQ gQ _
 ·refine cF.mZ (by simp) λa h1 h2=>?_
  have ha:a<K.length:=by simpa using h1
  simp only[List.getElem_map,List.getElem_range];obtain⟨_,r2,r3⟩:=rows a ha
  have e:(rc K.length λk=>aB (kN G L K i a k:Nat))=ints (zi ((List.range K.length).map (kN G L K i a))):=by
   simp [rc,ints,zi,Function.comp_def]
  rw[e] at r3;exact SV.all (by rw[aN,aT,rK,List.length_range,Nat.mul_one]) r2 r3 _
set_option maxHeartbeats 64000000
theorem Ln (D i:Nat)(n:Nat)(G:List Nat->Prop)(L:LN)(K:List Nat)(h:H)(n7:n<=7)(hG:sZ n G)(E:fL G L)(ik:Dh n G L K)(hl:L.length<=5040)(hr:K.length<=64)(d:Ip n G L K h D):
  Ev T 46 [.ptr D 0,aB i] h (λv h'=>aaM G L K i h.next h' v/\Fr h h'):=by
 refine bN jD rfl rfl ?_
 obtain⟨vL,vC,Mn,ln,ks,gD,hD,hMn,sL,sC,al,gMn,kln,lkn⟩:=d.ex
 obtain⟨M,hM⟩:=exI h.next
 obtain⟨h1,e1⟩:=exI (h.new (.wmap (.arr 2 .i64) []))
 have n1:h1.next=M+1:=by rw[←e1,H.aV,hM]
 have g1:h1.get M=some (.wmap (.arr 2 .i64) []):=by rw[←e1,←hM];exact H.aM h _
 have o1: ∀k,k≠M->h1.get k=h.get k:=λk hk=>by rw[←e1];exact H.bD h (by omega) _
 have f1:Fr h h1:=⟨by omega,λq hq=>o1 q (by omega)⟩
 obtain⟨r,hrr⟩:=exI K.length
 obtain⟨m0,hm0⟩: ∃m,L.length=m:=⟨_,rfl⟩
 obtain⟨lvL,eL,idL,offL,ws,shL,cL⟩:=Bn sL
 obtain⟨lvC,eC,idC,offC,shC,cC⟩:=pP (by omega) sC al
 rw[hrr] at lvC shC cC hr
 rw[hm0] at lvL shL cL lkn
 have gD1: ∀hh,Fr h hh->hh.get D=some (.cells false [vL,vC,.mp Mn]):=λhh f=>by rw[f.get _ hD];exact gD
 simp(disch:=omega)only[go_sem,jD,aE,hM,e1,H.aF (gD1 h1 f1),lvL]
 refine cI (λvs hh=> ∃(m:List ((Nat×Nat)×V)),(∃g:Nat->V,vs= [.ptr D 0,aB i,g 2,.mp M,g 4,g 5,g 6,g 7,g 8,g 9,g 10,g 11,g 12,g 13,g 14,g 15,g 16,g 17,g 18,g 19,g 20,g 21,g 22,g 23,g 24])/\hh.get M=some (.wmap (.arr 2 .i64) (iO Uu m))/\(∀p∈m,WM p.1)/\(∀j k,k<r->(Kq m (j,k)).getD (aB 0)= aB (Dx G L K i k L.length j:Nat))/\M<hh.next/\Fr h hh) ?_ ?_
 ·refine aI (λk' vars hh=> ∃(t:Nat) (m:List ((Nat×Nat)×V)),(∃g:Nat->V,vars= [.ptr D 0,aB i,g 2,.mp M,g 4,g 5,g 6,g 7,g 8,g 9,vL,aB m0,aB t,g 13,g 14,g 15,g 16,g 17,g 18,g 19,g 20,g 21,g 22,g 23,g 24])/\t<=m0/\hh.get M=some (.wmap (.arr 2 .i64) (iO Uu m))/\(∀p∈m,WM p.1)/\(∀j k,k<r->(Kq m (j,k)).getD (aB 0)= aB (Dx G L K i k t j:Nat))/\M<hh.next/\Fr h hh/\k'=m0-t) m0
   ⟨0, [],aA rfl,lL _,g1,λ_ h=>(by cases h),λj k _=>rfl,by omega,f1,rfl⟩ ?_
  rintro k' vars h2 ⟨t,m,⟨g,rfl⟩,ht,gM,pm,lk,nM,F,rfl⟩
  by_cases hlt:(t:Int)<(m0:Int)
  case neg=>
   have d1:=iZ hlt;obtain rfl:t=m0:=by omega
   simp(disch:=omega)only[go_sem,d1];exact⟨m,aA rfl,gM,pm,by rw[hm0];exact lk,nM,F⟩
  have d1:=mL hlt
  have htl:t<m0:=by omega
  obtain⟨b1,c1,s1⟩:=cL t htl
  generalize ws.getD t V.undef=ve at c1 s1
  have X:=kP hG E (show t<L.length by omega)
  have hxL:L.getD t []∈L:=bB (by omega)
  have ix:L.idxOf (L.getD t [])=t:=by
   rw[List.getD_eq_getElem?_getD,iD (by omega)];exact E.nodup.idxOf_getElem _ _
  obtain⟨x,hx⟩:=exI (L.getD t [])
  rw[hx] at s1 X hxL ix
  have c2:h2.cell idL (offL+t)=some ve:=by rw[F.cell b1];exact c1
  simp(disch:=omega)only[go_sem,d1,shL.ixa,c2]
  refine (PK D ve n G L K x h2 (by omega) (d.mono F) X hxL (s1.mono F)).mono ?_
  rw[ix]
  rintro _ h3 ⟨rfl,f3⟩
  have F3:=F.trans f3
  have gM3:h3.get M=some (.wmap (.arr 2 .i64) (iO Uu m)):=by rw[f3.get _ nM];exact gM
  have n3:=f3.next
  by_cases hi:fS G L K t=i
  case neg=>
   have d2:decide (((fS G L K t:Nat):Int)≠(i:Int))=true:=mL (by omega);simp(disch:=omega)only[go_sem,d2];rw[jJ t];refine⟨m0-(t+1),by omega,t+1,m,aA rfl,by omega,gM3,pm,λj k hk=>?_,by omega,F3,rfl⟩;rw[lk j k hk,Dz,if_neg (λe=>hi e.1),Nat.add_zero]
  have d2:decide (((fS G L K t:Nat):Int)≠(i:Int))=false:=iZ (by omega)
  simp(disch:=omega)only[go_sem,d2,H.aF (gD1 h3 F3),lvC]
  refine aI (λk' vars hh=> ∃(k:Nat) (m:List ((Nat×Nat)×V)),(∃g:Nat->V,vars= [.ptr D 0,aB i,g 2,.mp M,ve,g 5,g 6,g 7,g 8,g 9,vL,aB m0,aB t,g 13,g 14,vC,aB r,aB k,g 18,g 19,g 20,g 21,g 22,g 23,g 24])/\k<=r/\hh.get M=some (.wmap (.arr 2 .i64) (iO Uu m))/\(∀p∈m,WM p.1)/\(∀j k',k'<r->(Kq m (j,k')).getD (aB 0)= aB (Dx G L K i k' (if k'<k then t+1 else t) j:Nat))/\M<hh.next/\Fr h hh/\k'=r-k) r
   ⟨0,m,aA rfl,lL _,gM3,pm,λj k hk=>by rw[if_neg (by omega)];exact lk j k hk,by omega,F3,rfl⟩ ?_
  clear gM pm lk nM F f3 F3 gM3 n3
  rintro k' vars h4 ⟨k,m,⟨g',rfl⟩,hk,gM,pm,lk,nM,F,rfl⟩
  by_cases hlk:(k:Int)<(r:Int)
  case neg=>
   have d3:decide ((k:Int)<(r:Int))=false:=decide_eq_false hlk;obtain rfl:k=r:=by omega
   simp(disch:=omega)only[go_sem,d3];rw[jJ t];exact⟨m0-(t+1),by omega,t+1,m,aA rfl,by omega,gM,pm,λj k' hk'=>by rw[lk j k' hk',if_pos hk'],nM,F,rfl⟩
  have d3:decide ((k:Int)<(r:Int))=true:=decide_eq_true hlk
  have hkr:k<r:=by omega
  obtain⟨bC,rep,cr,_,rw3,sr⟩:=cC k hkr
  obtain⟨z,hz⟩:=exI (L.getD (K.getD k 0) [])
  rw[hz] at sr rw3
  have hKk:K.getD k 0<L.length:=ik.lt (bB (by omega))
  have Z:bF n z:=by rw[←hz];exact kP hG E hKk
  have hzL:z∈L:=by rw[←hz];exact bB hKk
  have w3:=sr.eI
  have r4:h4.row idC (offC+k*3) 3=some [rep,aB (fN z n:Int),aB ((iN G L (K.getD k 0)).length:Int)]:=by
   have:h4.row idC (offC+k*3) 3=h.row idC (offC+k*3) 3:=by unfold H.row;rw[F.get _ bC]
   rw[this];exact rw3
  obtain⟨A,hA⟩:=exI h4.next
  obtain⟨h5,e5,n5,g5,o5,f5⟩:=iX hA [.aC,aB 0,aB 0]
  obtain⟨h6,e6,n6,g6,o6⟩:=Fq h5 A [rep,aB (fN z n:Int),aB ((iN G L (K.getD k 0)).length:Int)]
  have f46:Fr h4 h6:=⟨by omega,λq hq=>by rw[o6 q (by omega),o5 q (by omega)]⟩
  have F6:=F.trans f46
  have gM6:h6.get M=some (.wmap (.arr 2 .i64) (iO Uu m)):=by rw[f46.get _ nM];exact gM
  have evx:=s1.eH
  have evr:=sr.eH
  simp(disch:=omega)only[go_sem,d3,shC.ixa,r4,hA,e5,nZ h5 A 0 (v:=rep) (u:= aB (fN z n:Int)) (w:= aB ((iN G L (K.getD k 0)).length:Int)) w3.2.1 rfl rfl,g5,jW,e6,H.aF (gD1 h6 F6),H.aF g6]
  have fb:=(Fr.refl h6).bJ (n:=h6.next+17) (by omega)
  refine (SQ ve rep n x z _ (by omega) X Z (s1.mono (F6.trans fb)) (sr.mono (F6.trans fb))).mono ?_
  rintro _ h7 ⟨rfl,f7⟩
  have f67:=fb.trans f7
  have F7:=F6.trans f67
  have gM7:h7.get M=some (.wmap (.arr 2 .i64) (iO Uu m)):=by rw[f67.get _ (by have:=f46.next;omega)];exact gM6
  have gN7:h7.get Mn=some (.wmap (.arr 64 .u8) (iO Rd ln)):=by rw[F7.get _ hMn];exact gMn
  have Qx:=X.inv.mul Z
  have hGx:G (aU (dA x) z):=hG.mul (hG.inv ((E.mem x).1 hxL)) ((E.mem z).1 hzL)
  obtain⟨iq,eq'⟩:=Er E hGx
  obtain⟨q,hq⟩:=exI (fS G L K (L.idxOf (aU (dA x) z)))
  have hqr:q<r:=by rw[←hq,←hrr];exact (vJ hG E ik iq).1
  have lk1:=lkn _ (show L.idxOf (aU (dA x) z)<m0 by omega)
  rw[eq',hq] at lk1
  have lo:=λw=>tI (Ji (n:=n) (by omega)) (λa A=>Cz (n:=n) (by omega) a A) kln Qx w
  rw[lk1] at lo
  have PQ:WM (q,k):=⟨by show q<1000000;omega,by show k<1000000;omega⟩
  have ql:Uz G L K t k=q:=by unfold Uz;rw[hx,hz];exact hq
  have lc:=lk q k hkr
  rw[if_neg (by omega)] at lc
  obtain⟨c,hc⟩:=exI (Dx G L K i k t q)
  rw[hc] at lc
  have cle:c<=t:=by rw[←hc];exact AJ ..
  have lo2:=tI Qs Gr pm PQ (aB 0)
  rw[lc] at lo2
  have epk:V.agg [aB q,aB k]=Uu (q,k):=rfl
  obtain⟨we,ni,m1,h8,ee,n8,o8,gM8,pm1,lk8,en⟩:=BI Qs Gr pm PQ (aB 0) (aB (c+1:Nat)) h7 M gM7
  have lo3:=tI Qs Gr pm1 PQ (aB 0)
  rw[lk8,lc] at lo3
  have lo2':Kv (some (.wmap (.arr 2 .i64) (iO Uu m))) (.arr 2 .i64) (aB 0) false (V.agg [aB q,aB k])=_:=lo2
  have lo3':Kv (some (.wmap (.arr 2 .i64) (iO Uu m1))) (.arr 2 .i64) (aB 0) false (V.agg [aB q,aB k])=_:=lo3
  have ee':Vb (some (.wmap (.arr 2 .i64) (iO Uu m))) h7 M (.arr 2 .i64) (aB 0) (V.agg [aB q,aB k])=_:=ee
  have gD7:=gD1 h7 F7
  have gD8:h8.get D=some (.cells false [vL,vC,.mp Mn]):=by rw[o8 D (by omega)];exact gD7
  simp(disch:=omega)only[go_sem,H.aF gD7,gN7,lo,Option.getD_some,NJ,gM7,lo2',show (c:Int)+1=((c+1:Nat):Int) from rfl,ee',gM8,lo3',en]
  have ok:UR h8 (.lkw (.arr 2 .i64) (aB 0) false (.c (.mp M)) (.c (.agg [aB q,aB k]))) (aB c)=true:=by
   simp only[UR,Pd,xv,Qc,gM8,lo3',Option.map_some,okV];simp [eH]
  rw[jJ k]
  have n7':=F7.next
  refine⟨by simp [eH],ok,r-(k+1),by omega,k+1,_,aA rfl,by omega,rfl,Ec PQ pm,λj k' hk'=>?_,by rw[n8];have:=f67.next;omega,⟨by show h.next<=h8.next;omega,λp hp=>by rw[H.aH _ (by omega),o8 p (by omega)];exact F7.get p hp⟩,rfl⟩
  rw[Gk]
  by_cases e:(j,k')=(q,k)
  ·cases e
   rw[if_pos rfl,if_pos (by omega),Dz,if_pos ⟨hi,ql⟩,hc]
   rfl
  ·rw[if_neg e,lk j k' hk']
   by_cases ek:k'=k
   ·subst ek
    rw[if_neg (by omega),if_pos (by omega),Dz,if_neg (λh=>e (by rw[←h.2,ql]))]
    rfl
   ·by_cases e2:k'<k
    ·rw[if_pos e2,if_pos (by omega)]
    ·rw[if_neg e2,if_neg (by omega)]
 rintro vars hA ⟨m,⟨g,rfl⟩,gM,pm,lk,nM,FA⟩
 obtain⟨Q,hQ⟩:=exI hA.next
 obtain⟨hB,eB,nB,gB,oB,fB⟩:=iX hQ (rc r λ_=> .aC)
 simp(disch:=omega)only[go_sem,H.aF (gD1 hA FA),lvC,NF hA r (by omega),hQ,eB]
 refine aI (λk' vars hh=> ∃(j:Nat) (ρ:Nat->Nat),(∃g:Nat->V,vars= [.ptr D 0,g 1,g 2,.mp M,g 4,g 5,g 6,.sl Q 0 r (.kn r),g 8,g 9,g 10,g 11,g 12,g 13,g 14,g 15,g 16,g 17,g 18,aB r,aB j,g 21,g 22,g 23,g 24])/\j<=r/\hh.get Q=some (.cells false (rc r λa=>if a<j then .sl (ρ a) 0 r (.kn r) else .aC))/\(∀a,a<j->Q<ρ a/\ρ a<hh.next/\hh.get (ρ a)=some (.cells false (rc r λk=> aB (kN G L K i a k:Nat))))/\Fr hA hh/\Q<hh.next/\k'=r-j) r
  ⟨0,λ_=>0,aA rfl,lL _,by rw[gB];rfl,λa h=>by omega,fB,by omega,rfl⟩ ?_
 rintro k' vars h2 ⟨j,ρ,⟨g',rfl⟩,hj,gQ,rows,F,nQ,rfl⟩
 have F0:=FA.trans F
 by_cases hlt:(j:Int)<(r:Int)
 case neg=>
  have d1:=iZ hlt;obtain rfl:j=r:=by omega
  simp(disch:=omega)only[go_sem,d1];refine⟨⟨Q,ρ,by rw[hrr],by have:=FA.next;omega,nQ,?_,by rw[hrr];exact rows⟩,F0⟩;rw[gQ,hrr];congr 2;exact bH λa ha=>by rw[if_pos ha]
 have d1:=mL hlt
 have hjr:j<r:=by omega
 obtain⟨S,hS⟩:=exI h2.next
 obtain⟨h3,e3,n3,g3,o3,f3⟩:=iX hS (rc r λ_=> aB 0)
 have gQ3:h3.get Q=some (.cells false (rc r λa=>if a<j then .sl (ρ a) 0 r (.kn r) else .aC)):=by rw[o3 Q (by omega)];exact gQ
 obtain⟨h4,e4,n4,g4,o4⟩:=Fq h3 Q (rc r λa=>if a<j+1 then .sl (if a=j then S else ρ a) 0 r (.kn r) else .aC)
 have p4:fO (some (.cells false (rc r λa=>if a<j then .sl (ρ a) 0 r (.kn r) else .aC))) h3 Q j [.sl S 0 r (.kn r)]=some h4:=by
  rw[aZ (by rw[dG];exact hjr),iR,←e4];congr 4;refine bH λa ha=>?_
  by_cases e:a=j
  ·rw[if_pos e,if_pos (by omega),if_pos e]
  ·rw[if_neg e]
   by_cases e2:a<j
   ·rw[if_pos e2,if_pos (by omega),if_neg e]
   ·rw[if_neg e2,if_neg (by omega)]
 have F4:Fr hA h4:=⟨by have:=F.next;omega,λq hq=>by rw[o4 q (by omega),o3 q (by omega)];exact F.get q hq⟩
 have cQ4:h4.cell Q j=some (.sl S 0 r (.kn r)):=by
  rw[H.aF g4,sK hjr,if_pos (by omega),if_pos rfl]
 simp(disch:=omega)only[go_sem,d1,H.aF (gD1 h2 F0),lvC,lQ h2 r (by omega),hS,e3,gQ3,p4,cQ4]
 refine aI (λk' vars hh=> ∃(k:Nat),(∃g:Nat->V,vars= [.ptr D 0,g 1,g 2,.mp M,g 4,g 5,g 6,.sl Q 0 r (.kn r),aB j,g 9,g 10,g 11,g 12,g 13,g 14,g 15,g 16,g 17,g 18,aB r,aB j,g 21,aB r,aB k,g 24])/\k<=r/\hh.get S=some (.cells false (rc r λa=> aB (if a<k then kN G L K i j a else 0:Nat)))/\Fx (· =S) h4 hh/\k'=r-k) r
  ⟨0,aA rfl,lL _,by rw[o4 S (by omega),g3];rfl,Fx.refl _ _,rfl⟩ ?_
 rintro k' vars h5 ⟨k,⟨g'',rfl⟩,hk,gS,F5,rfl⟩
 have n5:=F5.next
 have gQ5:h5.get Q=some (.cells false (rc r λa=>if a<j+1 then .sl (if a=j then S else ρ a) 0 r (.kn r) else .aC)):=by rw[F5.get Q (by omega) (by show Q≠S;omega)];exact g4
 have FA5:Fr hA h5:=⟨by have:=F4.next;omega,λq hq=>by rw[F5.get q (by have:=F4.next;omega) (by show q≠S;have:=F.next;omega)];exact F4.get q hq⟩
 by_cases hlk:(k:Int)<(r:Int)
 case neg=>
  have d3:decide ((k:Int)<(r:Int))=false:=decide_eq_false hlk;obtain rfl:k=r:=by omega
  simp(disch:=omega)only[go_sem,d3];rw[jJ j];refine⟨k-(j+1),by omega,j+1,λa=>if a=j then S else ρ a,aA rfl,by omega,gQ5,λa ha=>?_,FA5,by omega,rfl⟩;show Q<(if a=j then S else ρ a)/\(if a=j then S else ρ a)<h5.next/\h5.get (if a=j then S else ρ a)=_
  by_cases e:a=j
  ·subst e
   rw[if_pos rfl];refine⟨by omega,by omega,?_⟩;rw[gS];congr 2;exact bH λb hb=>by rw[if_pos hb]
  ·rw[if_neg e]
   obtain⟨r1,r2,r3⟩:=rows a (by omega);exact⟨r1,by omega,by rw[F5.get _ (by omega) (by show ρ a≠S;omega),o4 _ (by omega),o3 _ (by omega)];exact r3⟩
 have d3:decide ((k:Int)<(r:Int))=true:=decide_eq_true hlk
 have hkr:k<r:=by omega
 have gM5:h5.get M=some (.wmap (.arr 2 .i64) (iO Uu m)):=by rw[FA5.get _ nM];exact gM
 have PQ:WM (j,k):=⟨by show j<1000000;omega,by show k<1000000;omega⟩
 have lo2:=tI Qs Gr pm PQ (aB 0)
 rw[lk j k hkr] at lo2
 have lo2':Kv (some (.wmap (.arr 2 .i64) (iO Uu m))) (.arr 2 .i64) (aB 0) false (V.agg [aB j,aB k])=some (aB (kN G L K i j k:Nat)):=lo2
 have cQ5:h5.cell Q j=some (.sl S 0 r (.kn r)):=by
  rw[H.aF gQ5,sK hjr,if_pos (by omega),if_pos rfl]
 have pS:=λhh=>aZ (vs:=rc r λa=> aB (if a<k then kN G L K i j a else 0:Nat)) (off:=k) (by rw[dG];exact hkr) hh S (aB (kN G L K i j k:Nat))
 simp(disch:=omega)only[go_sem,d3,cQ5,NJ,gM5,lo2',gS,pS]
 rw[jJ k]
 refine⟨r-(k+1),by omega,k+1,aA rfl,by omega,?_,?_,rfl⟩
 ·rw[iR]
  congr 2
  refine bH λa ha=>?_
  by_cases e:a=k
  ·rw[if_pos e,if_pos (by omega),e]
  ·rw[if_neg e]
   by_cases e2:a<k
   ·rw[if_pos e2,if_pos (by omega)]
   ·rw[if_neg e2,if_neg (by omega)]
 ·refine (F5.trans (Fx.of (W:=(· =S)) ((Fr.refl h5).bJ (n:=h5.next+12) (by omega))) λ_ _ h=>h).trans ?_ (λ_ _ h=>h)
  exact Fx.set _ (W:=(· =S)) rfl _
set_option maxHeartbeats 32000000
theorem Tv (f:Nat)(cs:List V)(vl vo:V)(l:List Int)(h:H)(ll:l.length<1000000)(I:Nat->V->H->Prop)(hI: ∀i v hh,I i v hh->SI hh vl l)(h0:I 0 vo h)
  (step: ∀i v hh,i<l.length->I i v hh->Ev T f ([v,aB i,aB (l.getD i 0)]++cs) hh (λv' h'=>I (i+1) v' h')):
  Ev T 64 [vl,vo,.fn f [] cs] h (λv h'=>I l.length v h'):=by
 refine bN jV rfl rfl ?_
 have lv:=(hI _ _ _ h0).lens
 simp(disch:=omega)only[go_sem,jV,aE,lv]
 refine aI (λk' vars hh=> ∃(i:Nat) (v:V),(∃g:Nat->V,vars= [g 0,v,.fn f [] cs,g 3,g 4,g 5,vl,aB (l.length:Int),aB i,g 9])/\i<=l.length/\I i v hh/\k'=l.length-i) l.length
  ⟨0,vo,aA rfl,lL _,h0,rfl⟩ ?_
 rintro k' vars hh ⟨i,v,⟨g,rfl⟩,hi,inv,rfl⟩
 by_cases hlt:(i:Int)<(l.length:Int)
 ·have d1:=mL hlt
  have hi':i<l.length:=by omega
  obtain⟨id,off,sh,hid,hc⟩:=(hI _ _ _ inv).open
  have c1:=hc i hi'
  simp(disch:=omega)only[go_sem,d1,sh.ixa,c1]
  refine (step i v hh hi' inv).mono ?_
  rintro v' h2 inv2
  simp(disch:=omega)only[go_sem]
  rw[jJ i]
  exact⟨l.length-(i+1),by omega,i+1,v',aA rfl,by omega,inv2,rfl⟩
 have d1:=iZ hlt
 obtain rfl:i=l.length:=by omega
 simp(disch:=omega)only[go_sem,d1]
 exact inv
theorem RL (D S B1 B2 i:Nat)(vy:V)(n:Nat)(G:List Nat->Prop)(L:LN)(K:List Nat)(x y:List Int)(X Y:Nat)(h:H)(n7:n<=7)(hG:sZ n G)(E:fL G L)(ik:Dh n G L K)(hl:L.length<=5040)(hr:K.length<=64)(d:Ip n G L K h D)
  (hx: ∀v∈x, -(X:Int)<=v/\v<=X) (hy: ∀v∈y, -(Y:Int)<=v/\v<=Y) (hXY:X*Y*5040<=4000000000000000000) (ly:y.length=K.length) (sy:SI h vy y) (hy': ∀id off m c,vy= .sl id off m c->id≠S) (hi:i<K.length)
  (g1:h.get B1=some (.cells false [.ptr D 0])) (g2:h.get B2=some (.cells false [vy])) (h1:B1<h.next) (h2:B2<h.next) (nS:S<h.next) (e1:B1≠S) (e2:B2≠S) (gS:h.get S=some (.cells false (rc K.length λk=> aB (Gz G L K x y k i 0)))):
  Ev T 96 [.sl S 0 K.length (.kn K.length),aB i,aB (x.getD i 0),.ptr B1 0,.ptr B2 0] h (λv h'=>v= .sl S 0 K.length (.kn K.length)/\h'.get S=some (.cells false (rc K.length λk=> aB (Gz G L K x y k (i+1) 0)))/\Fx (· =S) h h'):=by
 obtain⟨r,hrr⟩:=exI K.length
 refine bN iW rfl rfl ?_
 by_cases h0:x.getD i 0=0
 ·have d1:decide (x.getD i 0=0)=true:=decide_eq_true h0
  simp(disch:=omega)only[go_sem,iW,aE,d1]
  exact⟨by rw[gS];congr 2;exact bH λk _=>by rw[LR h0],Fx.refl _ _⟩
 have d1:decide (x.getD i 0=0)=false:=decide_eq_false h0
 simp(disch:=omega)only[go_sem,iW,aE,d1,H.aF g1]
 refine (Ln D i n G L K h n7 hG E ik hl hr d).mono ?_
 rintro vm ha ⟨⟨Q,ρ,rfl,bQ,nQ,gQ,rows⟩,fa⟩
 rw[hrr] at gS hr ly hi gQ rows
 have na:=fa.next
 have gSa:ha.get S=some (.cells false (rc r λk=> aB (Gz G L K x y k i 0))):=by rw[fa.get S nS];exact gS
 have hM:L.length*(X*Y)<=4000000000000000000:=Nat.le_trans (Nat.mul_le_mul_right _ hl) (by rw[Nat.mul_comm];exact hXY)
 have hsy:=λhh (f:Fx (· =S) ha hh)=>(show SI hh vy y from by
  have s2:=sy.mono fa;refine SV.fx s2 ?_ f
  cases vy with
  |sl q off m c=>exact λe=>hy' _ _ _ _ rfl e
  |_=>trivial)
 rw[hrr]
 simp(disch:=omega)only[go_sem]
 refine aI (λk' vars hh=> ∃(j:Nat),(∃g:Nat->V,vars= [.sl S 0 r (.kn r),g 1,aB (x.getD i 0),g 3,.ptr B2 0,g 5,g 6,g 7,g 8,g 9,g 10,.sl Q 0 r (.kn r),aB r,aB j,g 14,g 15,g 16,g 17,g 18])/\j<=r/\hh.get S=some (.cells false (rc r λk=> aB (Gz G L K x y k i j)))/\Fx (· =S) ha hh/\k'=r-j) r
  ⟨0,aA rfl,lL _,gSa,Fx.refl _ _,rfl⟩ ?_
 rintro k' vars hb ⟨j,⟨g,rfl⟩,hj,gSb,Fb,rfl⟩
 have nb:=Fb.next
 by_cases hlt:(j:Int)<(r:Int)
 case neg=>
  have d2:=iZ hlt;obtain rfl:j=r:=by omega
  simp(disch:=omega)only[go_sem,d2];refine⟨?_,⟨by omega,λid h1 h2=>by rw[Fb.get id (by omega) h2,fa.get id h1]⟩⟩;rw[gSb];congr 2;exact bH λk hk=>by rw[←hrr,UM (λa ha=>XR hG E ik ha (by omega))]
 have d2:=mL hlt
 have hjr:j<r:=by omega
 obtain⟨rq,rn,rg⟩:=rows j hjr
 have cQ:hb.cell Q j=some (.sl (ρ j) 0 r (.kn r)):=by
  rw[Fb.cell nQ (by show Q≠S;omega),H.aF gQ,sK hjr]
 simp(disch:=omega)only[go_sem,d2,cQ]
 refine aI (λk' vars hh=> ∃(k:Nat),(∃g:Nat->V,vars= [.sl S 0 r (.kn r),g 1,aB (x.getD i 0),g 3,.ptr B2 0,g 5,aB j,g 7,g 8,g 9,g 10,.sl Q 0 r (.kn r),aB r,aB j,g 14,.sl (ρ j) 0 r (.kn r),aB r,aB k,g 18])/\k<=r/\hh.get S=some (.cells false (rc r λa=> aB (Gz G L K x y a i (if a<k then j+1 else j))))/\Fx (· =S) ha hh/\k'=r-k) r
  ⟨0,aA rfl,lL _,gSb,Fb,rfl⟩ ?_
 rintro k' vars hc ⟨k,⟨g',rfl⟩,hk,gSc,Fc,rfl⟩
 have nc:=Fc.next
 by_cases hlk:(k:Int)<(r:Int)
 case neg=>
  have d3:decide ((k:Int)<(r:Int))=false:=decide_eq_false hlk;obtain rfl:k=r:=by omega
  simp(disch:=omega)only[go_sem,d3];rw[jJ j];refine⟨k-(j+1),by omega,j+1,aA rfl,by omega,?_,Fc,rfl⟩;rw[gSc];congr 2;exact bH λa ha=>by rw[if_pos ha]
 have d3:decide ((k:Int)<(r:Int))=true:=decide_eq_true hlk
 have hkr:k<r:=by omega
 have cR:hc.cell (ρ j) k=some (aB (kN G L K i j k:Nat)):=by
  rw[Fc.cell rn (by show ρ j≠S;omega),H.aF rg,sK hkr]
 have cS:hc.cell S k=some (aB (Gz G L K x y k i j)):=by
  rw[H.aF gSc,sK hkr,if_neg (by omega)]
 have cB:hc.cell B2 0=some vy:=by
  rw[Fc.cell (by omega) (by show B2≠S;omega),fa.cell h2,H.aF g2];rfl
 obtain⟨idy,offy,shy,hidy,hcy⟩:=(hsy hc Fc).open
 rw[ly] at shy hidy hcy
 have cY:=hcy j hjr
 have b1:=rH (uM hx i) (uM hy j)
 have b2:=Mb (G:=G) (L:=L) (K:=K) hx hy k i j
 have b3:=Mb (G:=G) (L:=L) (K:=K) hx hy k i (j+1)
 rw[Rh] at b3
 have hXYs:X*Y<=L.length*(X*Y):=Nat.le_mul_of_pos_left _ (by have:=ik.lt (bB (d:=0) (show 0<K.length by omega));omega)
 obtain⟨u,hu⟩:=exI (x.getD i 0*y.getD j 0)
 obtain⟨w,hw⟩:=exI (u*((kN G L K i j k:Nat):Int))
 obtain⟨s,hs⟩:=exI (Gz G L K x y k i j)
 rw[hu,hs] at b3
 rw[hu] at b1
 rw[hs] at b2 cS
 rw[hw] at b3
 have pS:=λhh=>aZ (vs:=rc r λa=> aB (Gz G L K x y a i (if a<k then j+1 else j))) (off:=k) (by rw[dG];exact hkr) hh S (aB (s+w))
 simp(disch:=omega)only[go_sem,d3,cR,cS,cB,shy.ixa,cY,hu,hw,gSc,pS]
 rw[jJ k]
 refine⟨r-(k+1),by omega,k+1,aA rfl,by omega,?_,?_,rfl⟩
 ·rw[iR]
  congr 2
  refine bH λa ha=>?_
  by_cases e:a=k
  ·rw[if_pos e,if_pos (by omega),e,Rh,hu,hs,hw]
  ·rw[if_neg e]
   by_cases e2:a<k
   ·rw[if_pos e2,if_pos (by omega)]
   ·rw[if_neg e2,if_neg (by omega)]
 ·refine (Fc.trans (Fx.of (W:=(· =S)) ((Fr.refl hc).bJ (n:=hc.next+15) (by omega))) λ_ _ h=>h).trans ?_ (λ_ _ h=>h)
  exact Fx.set _ (W:=(· =S)) rfl _
structure DT (b r:Nat)(f:Nat->Int)(hh:H)(v:V):Prop where
 ex: ∃S,v= .sl S 0 r (.kn r)/\b<=S/\S<hh.next/\hh.get S=some (.cells false (rc r λk=> aB (f k)))
theorem DT.si {b r:Nat}{f:Nat->Int}{hh:H}{v:V}(o:DT b r f hh v):SI hh v ((List.range r).map f):=by
 obtain⟨S,rfl,_,nS,gS⟩:=o.ex
 have e:(rc r λk=>aB (f k))=ints ((List.range r).map f):=by
  simp [rc,ints,Function.comp_def]
 rw[e] at gS;exact SV.all (by rw[aN,rK,List.length_range,Nat.mul_one]) nS gS _
theorem XF (D:Nat)(vx vy:V)(n:Nat)(G:List Nat->Prop)(L:LN)(K:List Nat)(x y:List Int)(X Y:Nat)(h:H)(n7:n<=7)(hG:sZ n G)(E:fL G L)(ik:Dh n G L K)(hl:L.length<=5040)(hr:K.length<=64)(d:Ip n G L K h D)
  (hx: ∀v∈x, -(X:Int)<=v/\v<=X) (hy: ∀v∈y, -(Y:Int)<=v/\v<=Y) (hXY:X*Y*5040<=4000000000000000000) (lx:x.length=K.length) (ly:y.length=K.length) (sx:SI h vx x) (sy:SI h vy y):
  Ev T 60 [.ptr D 0,vx,vy] h (λv h'=>DT h.next K.length (Uy G L K x y) h' v/\Fr h h'):=by
 refine bN mQ rfl rfl ?_
 obtain⟨vL,vC,Mn,ln,ks,gD,hD,hMn,sL,sC,al,gMn,kln,lkn⟩:=d.ex
 have lvC:=(pP (by omega) sC al).1
 obtain⟨B,hB⟩:=exI h.next
 obtain⟨h1,e1,n1,g1,o1,f1⟩:=iX hB [.ptr D 0]
 obtain⟨h2,e2,n2,g2,o2,f2⟩:=iX n1 [vy]
 obtain⟨h3,e3,n3,g3,o3,f3⟩:=iX n2 (rc K.length λ_=> aB 0)
 have wy:=SV.eI sy
 have F2:=f1.trans f2
 have F3:=F2.trans f3
 have gB2:h2.get B=some (.cells false [.ptr D 0]):=by rw[o2 B (by omega)];exact g1
 have gD2:h2.get D=some (.cells false [vL,vC,.mp Mn]):=by rw[F2.get _ hD];exact gD
 have gB3:h3.get B=some (.cells false [.ptr D 0]):=by rw[o3 B (by omega)];exact gB2
 have gC3:h3.get (B+1)=some (.cells false [vy]):=by rw[o3 (B+1) (by omega)];exact g2
 have b1:=nV (x:= .ptr D 0) rfl rfl h
 have b2:=nV wy.1 wy.2.1 h1
 simp(disch:=omega)only[go_sem,mQ,aE,b1,hB,e1,b2,n1,e2,H.aF gB2,H.aF gD2,lvC,lQ h2 K.length (by omega),n2,e3]
 have hsx:=SV.in sx
 have hsy:=SV.in sy
 refine (Tv _ [.ptr B 0,.ptr (B+1) 0] vx (.sl (B+1+1) 0 K.length (.kn K.length)) x h3 (by omega) (λi v hh=>v= .sl (B+1+1) 0 K.length (.kn K.length)/\hh.get (B+1+1)=some (.cells false (rc K.length λk=> aB (Gz G L K x y k i 0)))/\Fx (· =B+1+1) h3 hh) ?_ ?_ ?_).mono ?_
 ·rintro i v hh ⟨_,_,F⟩
  refine SV.fx (sx.mono F3) ?_ F
  cases vx with
  |sl q off m c=>exact λe=>by have:=hsx _ _ _ _ rfl;omega
  |_=>trivial
 ·exact⟨rfl,by rw[g3];congr 2;exact bH λk _=>by rw[NN],Fx.refl _ _⟩
 ·rintro i v hh hi ⟨rfl,gS,F⟩
  have nF:=F.next
  have gg: ∀id,id<B+1+1->hh.get id=h3.get id:=λid h1=>F.get id (by omega) (by show id≠B+1+1;omega)
  have F0:Fr h hh:=⟨by omega,λq hq=>by rw[gg q (by omega)];exact F3.get q hq⟩
  refine (RL D (B+1+1) B (B+1) i vy n G L K x y X Y hh n7 hG E ik hl hr (d.mono F0) hx hy hXY ly (sy.mono F0) (λid off m c e=>by have:=hsy _ _ _ _ e;omega) (by omega) (by rw[gg _ (by omega)];exact gB3) (by rw[gg _ (by omega)];exact gC3) (by omega) (by omega) (by omega) (by omega) (by omega) gS).mono ?_
  rintro v' h' ⟨rfl,g',f'⟩
  exact⟨rfl,g',F.trans f' λ_ _ h=>h⟩
 ·rintro v h4 ⟨rfl,gS,F⟩
  have nF:=F.next
  simp(disch:=omega)only[go_sem]
  refine⟨⟨B+1+1,rfl,by omega,by omega,?_⟩,⟨by omega,λq hq=>by rw[F.get q (by omega) (by show q≠B+1+1;omega)];exact F3.get q hq⟩⟩
  rw[gS]
  congr 2
  exact bH λk _=>by rw[lx,VV λa ha=>(vJ hG E ik ha).1]
set_option maxHeartbeats 16000000
noncomputable def Pc (G:List Nat->Prop)(L:LN)(K:List Nat)(i:Nat):List (List Int):=(List.range K.length).map λj=>zi ((List.range K.length).map (kN G L K i j))
theorem Su {W0:Nat->Prop}(vc:V)(z:Int)(n:Nat)(O:LN)(R:pF)(G:List Nat->Prop)(h:H)(gc:GC W0 h vc n O R G)(L:LN)(hL:dC O R n 0 (bI n)=L):
  Ev T 23 [vc,aB z] h (λv h'=> ∃K,Dh n G L K/\Fr h h'/\(64<K.length/\v= .tup [.aC,aB 5]∨K.length<=64/\((z<0∨(K.length:Int)<=z)/\v= .tup [.aC,aB 2]∨ ∃(i:Nat) (vl:V),z=(i:Int)/\i<K.length/\v= .tup [vl,aB 0]/\SR h' vl (Pc G L K i)))):=by
 have gc0:=gc
 obtain⟨vO,vR,rfl,sO,sR⟩:=gc.ch
 refine bN mF rfl rfl ?_
 have oneO:vO.one=true:=PS sO
 have oneR:vR.one=true:=PO sR
 obtain⟨E,ll⟩:=iT gc.nC gc.isc
 have ll5:=mN gc
 rw[hL] at E ll
 obtain⟨B,hB⟩:=exI h.next
 obtain⟨h1,e1,n1,g1,o1,f1⟩:=iX hB [aB n,vO,vR]
 have bx:=fG h (v:= aB n) (u:=vO) (w:=vR) rfl oneO oneR
 simp(disch:=omega)only[go_sem,mF,aE,bx,hB,e1,bZ g1]
 refine (Ph _ n O R G h1 (gc0.mono f1) L hL).mono ?_
 rintro _ h2 ⟨K,ik,f2,⟨k64,rfl⟩|⟨k64,D,rfl,dat⟩⟩
 ·simp(disch:=omega)only[go_sem]
  refine aY (λ_=>?_) (λhc=>(hc (by decide)).elim)
  simp(disch:=omega)only[go_sem]
  exact⟨K,ik,f1.trans f2,.inl ⟨k64,trivial⟩⟩
 simp(disch:=omega)only[go_sem]
 refine aY (λhc=>(hc rfl).elim) (λ_=>?_)
 obtain⟨vL,vC,Mn,ln,ks,gD,hD,hMn,sL,sC,al,gMn,kln,lkn⟩:=dat.ex
 have lvC:=(pP (by omega) sC al).1
 by_cases hz:z<0
 ·have d1:decide (z<0)=true:=decide_eq_true hz
  simp(disch:=omega)only[go_sem,d1,Ki]
  exact⟨K,ik,f1.trans f2,.inr ⟨k64,.inl ⟨.inl hz,trivial⟩⟩⟩
 have d1:decide (z<0)=false:=decide_eq_false hz
 by_cases hk:(K.length:Int)<=z
 ·have d2:=mL hk
  simp(disch:=omega)only[go_sem,d1,H.aF gD,lvC,d2]
  exact⟨K,ik,f1.trans f2,.inr ⟨k64,.inl ⟨.inr hk,trivial⟩⟩⟩
 have d2:=iZ hk
 obtain⟨i,rfl⟩: ∃i:Nat,z=(i:Int):=⟨z.toNat,by omega⟩
 simp(disch:=omega)only[go_sem,d1,H.aF gD,lvC,d2]
 refine (Ln D i n G L K h2 gc.n7 gc.nC E ik (by omega) k64 dat).mono ?_
 rintro vl h3 ⟨s3,f3⟩
 simp(disch:=omega)only[go_sem]
 exact⟨K,ik,(f1.trans f2).trans f3,.inr ⟨k64,.inr ⟨i,vl,rfl,by omega,rfl,s3.sr⟩⟩⟩
set_option maxHeartbeats 32000000
theorem Nu (f:Nat)(cs:List V)(vl:V)(l:List Int)(h:H)(p:Int->Bool)(ll:l.length<1000000)(sl:SI h vl l)
  (hf: ∀i,i<l.length-> ∀hh,Fr h hh->Ev T f ([aB (l.getD i 0)]++cs) hh (λv h'=>v= .bool (p (l.getD i 0))/\Fr hh h')):
  Ev T 57 [vl,.fn f [] cs] h (λv h'=>v= .bool (l.any p)/\Fr h h'):=by
 refine bN fW rfl rfl ?_
 simp(disch:=omega)only[go_sem,fW,aE]
 refine Ev.mono (Q:=λv h'=> ∃z,v= aB z/\decide (0<=z)=l.any p/\Fr h h') ?_ ?_
 ·refine bN eD rfl rfl ?_
  have lv:=sl.lens
  obtain⟨id,off,sh,hid,hc⟩:=sl.open
  simp(disch:=omega)only[go_sem,eD,aE,lv]
  refine aI (λk' vars hh=> ∃(i:Nat),(∃g:Nat->V,vars= [vl,.fn f [] cs,g 2,g 3,aB (l.length:Int),aB i,g 6,g 7])/\i<=l.length/\(∀j,j<i->p (l.getD j 0)=false)/\Fr h hh/\k'=l.length-i) l.length
   ⟨0,aA rfl,lL _,λj hj=>by omega,Fr.refl _,rfl⟩ ?_
  rintro k' vars hh ⟨i,⟨g,rfl⟩,hi,pre,F,rfl⟩
  by_cases hlt:(i:Int)<(l.length:Int)
  ·have d1:=mL hlt
   have hi':i<l.length:=by omega
   have c1:hh.cell id (off+i)=some (aB (l.getD i 0)):=by rw[F.cell (hid (by omega)),hc i hi']
   simp(disch:=omega)only[go_sem,d1,sh.ixa,c1]
   refine (hf i hi' hh F).mono ?_
   rintro _ h2 ⟨rfl,f2⟩
   cases he:p (l.getD i 0) with
   |true=>
    simp(disch:=omega)only[go_sem];refine⟨_,rfl,?_,F.trans f2⟩;rw[mL (by omega)];symm;exact List.any_eq_true.2 ⟨_,bB hi',he⟩
   |false=>
    simp(disch:=omega)only[go_sem];rw[jJ i];refine⟨l.length-(i+1),by omega,i+1,aA rfl,by omega,λj hj=>?_,F.trans f2,rfl⟩
    by_cases e:j=i
    ·rw[e];exact he
    ·exact pre j (by omega)
  have d1:=iZ hlt
  obtain rfl:i=l.length:=by omega
  simp(disch:=omega)only[go_sem,d1]
  refine⟨_,rfl,?_,F⟩
  symm
  rw[iZ (by omega)]
  refine List.any_eq_false.2 λx hx=>?_
  obtain⟨j,hj,ej⟩:=Ge.1 hx
  have:=pre j hj
  rw[List.getD_eq_getElem?_getD,iD hj] at this
  rw[←ej]
  simpa using this
 rintro _ h2 ⟨z,rfl,hz,f2⟩
 simp(disch:=omega)only[go_sem,hz]
 exact f2
def pN (r i:Nat):List Int:=(List.range r).map λk=>if k=i then 1 else 0
theorem To (r i:Nat):(pN r i).length=r:=by simp [pN]
theorem Yk (r i:Nat): ∀v∈pN r i, -((1:Nat):Int)<=v/\v<=(1:Nat):=λv hv=>by
 obtain⟨k,_,rfl⟩:=xB.1 hv;split<;>omega
noncomputable def Ao (G:List Nat->Prop)(L:LN)(K:List Nat)(l:List Nat):List Int:=l.foldl (λc i=>(List.range K.length).map (Uy G L K (pN K.length i) c)) (pN K.length 0)
theorem Ej (G:List Nat->Prop)(L:LN)(K:List Nat)(l:List Nat){k:Nat}(hk:k<l.length):Ao G L K (l.take (k+1))=(List.range K.length).map (Uy G L K (pN K.length (l.getD k 0)) (Ao G L K (l.take k))):=by
 have e:l.take (k+1)=l.take k++ [l.getD k 0]:=by
  rw[List.take_add_one,iD hk,List.getD_eq_getElem?_getD,iD hk];rfl
 unfold Ao;rw[e,List.foldl_append];rfl
theorem Tf (G:List Nat->Prop)(L:LN)(K:List Nat)(l:List Nat): ∀k,k<=l.length->(Ao G L K (l.take k)).length=K.length
 |0,_=>by unfold Ao;exact To _ _
 |k+1,h=>by rw[Ej G L K l (by omega),rK,List.length_range]
theorem OE (G:List Nat->Prop)(L:LN)(K:List Nat)(l:List Nat)(hl:L.length<=5040): ∀k,k<=l.length-> ∀v∈Ao G L K (l.take k), -((5040^k:Nat):Int)<=v/\v<=(5040^k:Nat)
 |0,_=>by unfold Ao;exact Yk _ _
 |k+1,h=>by
  rw[Ej G L K l (by omega)];intro v hv;obtain⟨q,_,rfl⟩:=xB.1 hv;have b:=BP (G:=G) (L:=L) (K:=K) (Yk K.length (l.getD k 0)) (OE G L K l hl k (by omega)) q;have:L.length*(1*5040^k)<=5040^(k+1):=by rw[Nat.one_mul,Nat.pow_succ,Nat.mul_comm];exact Nat.mul_le_mul_left _ hl
  omega
structure Xp (n:Nat)(G:List Nat->Prop)(L:LN)(K:List Nat)(D E:Nat)(hh:H):Prop where
 d:Ip n G L K hh D
 g:hh.get E=some (.cells false [.ptr D 0])
 nx:E<hh.next
theorem Xp.mono {n:Nat}{G:List Nat->Prop}{L:LN}{K:List Nat}{D E:Nat}{h h':H}(c:Xp n G L K D E h)(f:Fr h h'):Xp n G L K D E h':=⟨c.d.mono f,by rw[f.get _ c.nx];exact c.g,kO c.nx f.next⟩
theorem DO (D E:Nat)(x:Int)(n:Nat)(G:List Nat->Prop)(L:LN)(K:List Nat)(h:H)(hr:K.length<=64)(c:Xp n G L K D E h):
  Ev T 62 [aB x,.ptr E 0] h (λv h'=>v= .bool (decide (x<0∨(K.length:Int)<=x))/\Fr h h'):=by
 refine bN kU rfl rfl ?_
 obtain⟨vL,vC,Mn,ln,ks,gD,hD,hMn,sL,sC,al,gMn,kln,lkn⟩:=c.d.ex
 have lvC:=(pP (by omega) sC al).1
 by_cases hz:x<0
 ·have d1:decide (x<0)=true:=decide_eq_true hz
  simp(disch:=omega)only[go_sem,kU,aE,d1,Ki]
  exact⟨by rw[decide_eq_true (.inl hz)],Fr.refl _⟩
 have d1:decide (x<0)=false:=decide_eq_false hz
 simp(disch:=omega)only[go_sem,kU,aE,d1,H.aF c.g,H.aF gD,lvC]
 refine⟨?_,Fr.refl _⟩
 congr 1
 rw[decide_eq_decide]
 omega
theorem Nc (D E i:Nat)(n:Nat)(G:List Nat->Prop)(L:LN)(K:List Nat)(h:H)(hr:K.length<=64)(c:Xp n G L K D E h)(hi:i<K.length):
  Ev T 63 [aB i,.ptr E 0] h (λv h'=>DT h.next K.length (λk=>if k=i then 1 else 0) h' v/\Fr h h'):=by
 refine bN oD rfl rfl ?_
 obtain⟨vL,vC,Mn,ln,ks,gD,hD,hMn,sL,sC,al,gMn,kln,lkn⟩:=c.d.ex
 have lvC:=(pP (by omega) sC al).1
 obtain⟨S,hS⟩:=exI h.next
 obtain⟨h1,e1,n1,g1,o1,f1⟩:=iX hS (rc K.length λ_=> aB 0)
 have pt:=λhh=>aZ (vs:=rc K.length λ_=> aB 0) (off:=i) (by rw[dG];exact hi) hh S (aB 1)
 simp(disch:=omega)only[go_sem,oD,aE,H.aF c.g,H.aF gD,lvC,lQ h K.length (by omega),hS,e1,g1,pt]
 refine⟨⟨S,rfl,by omega,by show S<h1.next;omega,?_⟩,f1.set (by omega) _⟩
 rw[H.aS,iR]
 congr 2
 refine bH λa _=>?_
 by_cases e:a=i
 ·rw[if_pos e,if_pos e]
 ·rw[if_neg e,if_neg e]
theorem EG (D E Z i:Nat)(vo vk:V)(n:Nat)(G:List Nat->Prop)(L:LN)(K:List Nat)(y:List Int)(Y:Nat)(h:H)(n7:n<=7)(hG:sZ n G)(Ee:fL G L)(ik:Dh n G L K)(hl:L.length<=5040)(hr:K.length<=64)(c:Xp n G L K D E h)(hi:i<K.length)
  (gZ:h.get Z=some (.cells false [.fn 63 [] [.ptr E 0]])) (hZ:Z<h.next) (hy: ∀v∈y, -(Y:Int)<=v/\v<=Y) (hY:Y*5040<=4000000000000000000) (ly:y.length=K.length) (sy:SI h vo y):
  Ev T 65 [vo,vk,aB i,.ptr E 0,.ptr Z 0] h (λv h'=>DT h.next K.length (Uy G L K (pN K.length i) y) h' v/\Fr h h'):=by
 refine bN nJ rfl rfl ?_
 have ey:=sy.eH
 simp(disch:=omega)only[go_sem,nJ,aE,H.aF c.g,H.aF gZ]
 have fb:=(Fr.refl h).bJ (n:=h.next+7) (by omega)
 refine (Nc D E i n G L K _ hr (c.mono fb) hi).mono ?_
 rintro v1 h1 ⟨r1,f1⟩
 have F1:=fb.trans f1
 have c1:=c.mono F1
 have e1:=r1.si.eH
 simp(disch:=omega)only[go_sem,H.aF c1.g]
 have si1:=r1.si
 have ei:(List.range K.length).map (λk=>if k=i then (1:Int) else 0)=pN K.length i:=rfl
 rw[ei] at si1
 refine (XF D v1 vo n G L K (pN K.length i) y 1 Y h1 n7 hG Ee ik hl hr c1.d (Yk _ _) hy (by rw[Nat.one_mul];exact hY) (To _ _) ly si1 (sy.mono F1)).mono ?_
 rintro v2 h2 ⟨⟨S,rfl,bS,nS,gS⟩,f2⟩
 have n1:=F1.next
 simp(disch:=omega)only[go_sem]
 exact⟨⟨S,rfl,by omega,nS,gS⟩,F1.trans f2⟩
theorem IH {W0:Nat->Prop}(vc vl:V)(l:List Int)(n:Nat)(O:LN)(R:pF)(G:List Nat->Prop)(h:H)(ll:l.length<1000000)(sl:SI h vl l)(gc:GC W0 h vc n O R G)(L:LN)(hL:dC O R n 0 (bI n)=L):
  Ev T 30 [vc,vl] h (λv h'=> ∃K,Dh n G L K/\Fr h h'/\(64<K.length/\v= .tup [aB 0,aB 5]∨K.length<=64/\(5<l.length/\v= .tup [aB 0,aB 4]∨l.length<=5/\((∃x∈l,x<0∨(K.length:Int)<=x)/\v= .tup [aB 0,aB 2]∨ ∃l':List Nat,l=zi l'/\(∀i∈l',i<K.length)/\v= .tup [aB ((Ao G L K l').getD 0 0),aB 0])))):=by
 have gc0:=gc
 obtain⟨vO,vR,rfl,sO,sR⟩:=gc.ch
 refine bN qM rfl rfl ?_
 have oneO:vO.one=true:=PS sO
 have oneR:vR.one=true:=PO sR
 have n7:=gc.n7
 have hG:=gc.nC
 obtain⟨Ee,lle⟩:=iT gc.nC gc.isc
 have ll5:=mN gc
 rw[hL] at Ee lle
 have lvl:=sl.lens
 obtain⟨B,hB⟩:=exI h.next
 obtain⟨h1,e1,n1,g1,o1,f1⟩:=iX hB [aB n,vO,vR]
 have bx:=fG h (v:= aB n) (u:=vO) (w:=vR) rfl oneO oneR
 simp(disch:=omega)only[go_sem,qM,aE,bx,hB,e1,bZ g1]
 refine (Ph _ n O R G h1 (gc0.mono f1) L hL).mono ?_
 rintro _ h2 ⟨K,ik,f2,⟨k64,rfl⟩|⟨k64,D,rfl,dat⟩⟩
 ·obtain⟨E,hE⟩:=exI h2.next
  obtain⟨h3,e3,n3,g3,o3,f3⟩:=iX hE [.nilp]
  have pt:=λhh=>aZ (vs:= [V.nilp]) (off:=0) (by simp) hh E .nilp
  simp(disch:=omega)only[go_sem,hE,e3,kS (show V.nilp.cells= [V.nilp] from rfl) rfl,g3,pt]
  refine aY (λ_=>?_) (λhc=>(hc (by decide)).elim)
  simp(disch:=omega)only[go_sem]
  exact⟨K,ik,((f1.trans f2).trans f3).set (by have:=f2.next;omega) _,.inl ⟨k64,trivial⟩⟩
 obtain⟨E,hE⟩:=exI h2.next
 obtain⟨h3,e3,n3,g3,o3,f3⟩:=iX hE [.nilp]
 obtain⟨h4,e4,n4,g4,o4⟩:=Fq h3 E [.ptr D 0]
 have pt:fO (some (.cells false [V.nilp])) h3 E 0 [.ptr D 0]=some h4:=by rw[aZ (by simp),←e4];rfl
 have f24:Fr h2 h4:=⟨by omega,λq hq=>by rw[o4 q (by omega),o3 q (by omega)]⟩
 have F4:=(f1.trans f2).trans f24
 have ce4:Xp n G L K D E h4:=⟨dat.mono f24,g4,by omega⟩
 simp(disch:=omega)only[go_sem,hE,e3,kS (show (V.ptr D 0).cells= [V.ptr D 0] from rfl) rfl,g3,pt]
 refine aY (λhc=>(hc rfl).elim) (λ_=>?_)
 by_cases h5:(5:Int)<(l.length:Int)
 ·have d1:decide ((5:Int)<(l.length:Int))=true:=decide_eq_true h5
  simp(disch:=omega)only[go_sem,lvl,d1]
  exact⟨K,ik,F4,.inr ⟨k64,.inl ⟨by omega,trivial⟩⟩⟩
 have d1:decide ((5:Int)<(l.length:Int))=false:=decide_eq_false h5
 simp(disch:=omega)only[go_sem,lvl,d1]
 refine (Nu 62 [.ptr E 0] vl l h4 (λx=>decide (x<0∨(K.length:Int)<=x)) ll (sl.mono F4) (λi hi hh f=>DO D E _ n G L K hh k64 (ce4.mono f))).mono ?_
 rintro _ h5' ⟨rfl,f5⟩
 have F5:=F4.trans f5
 cases hany:l.any (λx=>decide (x<0∨(K.length:Int)<=x)) with
 |true=>
  simp(disch:=omega)only[go_sem];obtain⟨x,hx,hd⟩:=List.any_eq_true.1 hany;exact⟨K,ik,F5,.inr ⟨k64,.inr ⟨by omega,.inl ⟨⟨x,hx,by simpa using hd⟩,trivial⟩⟩⟩⟩
 |false=>
  have hall: ∀x∈l,0<=x/\x<(K.length:Int):=λx hx=>by
   have:=List.any_eq_false.1 hany x hx;simp only[decide_eq_true_iff] at this;omega
  obtain⟨l',hl'⟩: ∃l':List Nat,l=zi l':=⟨l.map Int.toNat,by
   unfold zi;rw[List.map_map];refine (List.map_id' l).symm.trans (List.map_congr_left λx hx=>?_);have:=hall x hx
   show x=((x.toNat:Nat):Int)
   omega⟩
  have hk': ∀i∈l',i<K.length:=λi hi=>by
   have:=hall (i:Int) (by rw[hl'];exact xB.2 ⟨i,hi,rfl⟩);omega
  have ce5:=ce4.mono f5;obtain⟨Z,hZ⟩:=exI h5'.next;obtain⟨h6,e6,n6,g6,o6,f6⟩:=iX hZ [.nilf];obtain⟨h7,e7,n7',g7,o7⟩:=Fq h6 Z [.fn 63 [] [.ptr E 0]];have pt7:fO (some (.cells false [V.nilf])) h6 Z 0 [.fn 63 [] [.ptr E 0]]=some h7:=by rw[aZ (by simp),←e7];rfl
  have f57:Fr h5' h7:=⟨by omega,λq hq=>by rw[o7 q (by omega),o6 q (by omega)]⟩
  have ce7:=ce5.mono f57;have F7:=F5.trans f57;have Kpos:0<K.length:=(Cc hG Ee ik).1;simp(disch:=omega)only[go_sem,hZ,e6,kS (show (V.fn 63 [] [.ptr E 0]).cells= [V.fn 63 [] [.ptr E 0]] from rfl) rfl,g6,pt7,H.aF g7];refine (Nc D E 0 n G L K h7 k64 ce7 Kpos).mono ?_;rintro v8 h8 ⟨r8,f8⟩;have ce8:=ce7.mono f8;have g8:h8.get Z=some (.cells false [.fn 63 [] [.ptr E 0]]):=by rw[f8.get Z (by omega)];exact g7
  have F8:=F7.trans f8;simp(disch:=omega)only[go_sem];refine (Tv 65 [.ptr E 0,.ptr Z 0] vl v8 l h8 ll (λi v hh=>SI hh v (Ao G L K (l'.take i))/\Fr h8 hh) (λi v hh s=>sl.mono (F8.trans s.2)) ⟨?_,Fr.refl _⟩ ?_).mono ?_
  ·exact r8.si
  ·rintro i v hh hi ⟨sv,f⟩
   have hil:i<l'.length:=by rw[hl',aT] at hi;exact hi
   have ei:l.getD i 0=((l'.getD i 0:Nat):Int):=by rw[hl'];exact nX (λk:Nat=>(k:Int)) (d:=0) hil
   rw[ei]
   have h4l:5040^i*5040<=4000000000000000000:=by
    have:i<=4:=by omega
    exact Nat.le_trans (Nat.mul_le_mul_right _ (Nat.pow_le_pow_right (by decide) this)) (by decide)
   refine (EG D E Z (l'.getD i 0) v _ n G L K (Ao G L K (l'.take i)) (5040^i) hh n7 hG Ee ik (by omega) k64 (ce8.mono f) (hk' _ (bB hil)) (by rw[f.get Z (by have:=f8.next;omega)];exact g8) (by have:=f8.next;have:=f.next;omega) (OE G L K l' (by omega) i (by omega)) h4l (Tf G L K l' i (by omega)) sv).mono ?_;rintro v' h' ⟨r',f'⟩;refine⟨?_,f.trans f'⟩;rw[Ej G L K l' hil];exact r'.si
  ·rintro v h9 ⟨sv,f9⟩
   have el:l.length=l'.length:=by rw[hl',aT]
   rw[el,List.take_length] at sv;obtain⟨id,off,sh,hid,hc⟩:=sv.open;have l0:(Ao G L K l').length=K.length:=by have:=Tf G L K l' l'.length (iP _);rwa [List.take_length] at this
   rw[l0] at sh hid hc;have c0:h9.cell id off=some (aB ((Ao G L K l').getD 0 0)):=hc 0 Kpos;simp(disch:=omega)only[go_sem,sh.ixa,c0];exact⟨K,ik,F8.trans f9,.inr ⟨k64,.inr ⟨by omega,.inr ⟨l',hl',hk',rfl⟩⟩⟩⟩
set_option maxHeartbeats 8000000
theorem Ni (u w:V)(n e:Nat)(a:List Nat)(h:H)(hn:n<=1000)(he:e<1000000)(A:bF n a)(hu:SI h u (zi a))(hw:SI h w (zi (bI n))):
  Ev T 70 [u,w,aB e,.fn 72 [] []] h (λv h'=>SI h' v (zi (pw n a e))/\Fr h h'):=by
 refine bN kI rfl rfl ?_
 simp(disch:=omega)only[go_sem,kI,aE]
 refine aI (λk' vs hh=> ∃(e':Nat) (vx va:V) (x b:List Nat),(∃g:Nat->V,vs= [vx,va,aB (e':Int),.fn 72 [] [],g 4,g 5,g 6])/\e'<1000000/\bF n x/\bF n b/\SI hh vx (zi x)/\SI hh va (zi b)/\aU b (pw n x e')=pw n a e/\Fr h hh/\k'=e') e
  ⟨e,u,w,a,bI n,aA rfl,he,A,bF.one n,hu,hw,fF (jR A e),Fr.refl h,rfl⟩ ?_
 rintro k' vars h1 ⟨e',vx,va,x,b,⟨g,rfl⟩,hl,X,B,sx,sb,heq,F,hk⟩
 subst hk
 by_cases hlt:(0:Int)<(k':Int)
 case neg=>
  have d1:=iZ hlt;obtain rfl:k'=0:=by omega
  simp(disch:=omega)only[go_sem,d1];have h2:aU b (bI n)=pw n a e:=heq;rw[bU B] at h2;rw[←h2];exact⟨sb,F⟩
 have d1:=mL hlt
 have hpx: ∀k,aU x (pw n x k)=pw n x (k+1):=λk=>by
  have h2:=Hs X 1 k;rw[Gl X] at h2;rw[←h2,Nat.add_comm]
 have sq:=KT X (k'/2)
 have tm:(k':Int).tmod 2=((k'%2:Nat):Int):=Tl k' 2
 have td:(k':Int).tdiv 2=((k'/2:Nat):Int):=rfl
 rcases Nat.mod_two_eq_zero_or_one k' with hm|hm
 ·have d2:decide (((0:Nat):Int)=1)=false:=rfl
  rw[hm] at tm
  simp(disch:=omega)only[go_sem,d1,tm,d2]
  refine (rF (rfl:T 72=some vV) vx vx x x h1 (by rw[X.len];omega) sx sx (λj hj=>by rw[X.len];exact X.eY (by rw[←X.len];exact hj))).mono ?_
  rintro v1 h2 np
  simp(disch:=omega)only[go_sem,td]
  refine⟨k'/2,by omega,k'/2,v1,va,aU x x,b,aA rfl,by omega,X.mul X,B,(np.pv (W:=λ_=>False) id).si,sb.mono np.fr,?_,F.trans np.fr,rfl⟩
  rw[sq,show 2*(k'/2)=k' by omega];exact heq
 ·have d2:decide (((1:Nat):Int)=1)=true:=rfl
  rw[hm] at tm
  simp(disch:=omega)only[go_sem,d1,tm,d2]
  refine (rF (rfl:T 72=some vV) va vx b x h1 (by rw[B.len];omega) sb sx (λj hj=>by rw[X.len];exact B.eY (by rw[←B.len];exact hj))).mono ?_
  rintro v0 h2 np0
  simp(disch:=omega)only[go_sem]
  refine (rF (rfl:T 72=some vV) vx vx x x h2 (by rw[X.len];omega) (sx.mono np0.fr) (sx.mono np0.fr) (λj hj=>by rw[X.len];exact X.eY (by rw[←X.len];exact hj))).mono ?_
  rintro v1 h3 np
  simp(disch:=omega)only[go_sem,td]
  refine⟨k'/2,by omega,k'/2,v1,v0,aU x x,aU b x,aA rfl,by omega,X.mul X,B.mul X,(np.pv (W:=λ_=>False) id).si,(np0.pv (W:=λ_=>False) id).si.mono np.fr,?_,(F.trans np0.fr).trans np.fr,rfl⟩
  rw[sq,aW B X (jR X _),hpx,show 2*(k'/2)+1=k' by omega];exact heq
theorem UQ (u:V)(z:Int)(n:Nat)(a:List Nat)(h:H)(hz: -9223372036854775808<=z/\z<9223372036854775808)(n0:1<=n)(hn:n<=7)(A:bF n a)(hu:SI h u (zi a)):
  Ev T 39 [u,aB z] h (λv h'=> ∃w,v= .tup [w,aB 0]/\SI h' w (zi (zp n a z))/\Fr h h'):=by
 refine bN Bd rfl rfl ?_
 have lu:=hu.lens
 rw[aT,A.len] at lu
 simp(disch:=omega)only[go_sem,Bd,aE]
 refine (Rj u n a h n0 hn A hu).mono ?_
 rintro _ h1 ⟨rfl,f1⟩
 have op:=rY (n:=n) A
 obtain⟨o,ho⟩:=exI (fN a n)
 rw[ho] at op ⊢
 have o420:o<=420:=Nat.le_of_dvd (by decide) (by rw[←ho];exact Tb A hn)
 have hb:=Pg z (n:=(o:Int)) (by omega)
 have hf:=Sj z (n:=(o:Int)) (by omega)
 have hm0:=Int.emod_nonneg z (show (o:Int)≠0 by omega)
 have hm1:=Int.emod_lt_of_pos z (show (0:Int)<o by omega)
 obtain⟨m,hm⟩: ∃m:Nat,z%(o:Int)=m:=⟨(z%(o:Int)).toNat,by omega⟩
 have ez:zp n a z=pw n a m:=by unfold zp;rw[ho,hm];rfl
 rw[hm] at hf hm1
 obtain⟨q,hq⟩:=exI (z.tmod (o:Int))
 rw[hq] at hb hf
 simp(disch:=omega)only[go_sem]
 refine aY (λhc=>(hc rfl).elim) (λ_=>?_)
 have fin: ∀hh,Fr h1 hh->Ev T 71 [aB n] hh (λv h'=> ∃w,SI h' v (zi (bI n))/\w=v/\Fr h h'):=λhh f=>by
  refine (Gw (rfl:T 71=some Hx) n hh (by omega)).mono ?_;rintro w h3 np;exact⟨w,(np.pv (W:=λ_=>False) id).si,rfl,(f1.trans f).trans np.fr⟩
 by_cases hneg:q<0
 ·have d1:decide (q<0)=true:=decide_eq_true hneg
  rw[if_pos hneg] at hf
  simp(disch:=omega)only[go_sem,hq,d1,lu,hf]
  refine (fin h1 (Fr.refl _)).mono ?_
  rintro _ h2 ⟨w,sw,rfl,f2⟩
  simp(disch:=omega)only[go_sem]
  refine (Ni u w n m a h2 (by omega) (by omega) A (hu.mono f2) sw).mono ?_
  rintro v h3 ⟨s3,f3⟩
  simp(disch:=omega)only[go_sem]
  exact⟨v,rfl,by rw[ez];exact s3,f2.trans f3⟩
 ·have d1:decide (q<0)=false:=decide_eq_false hneg
  rw[if_neg hneg] at hf
  subst hf
  simp(disch:=omega)only[go_sem,hq,d1,lu]
  refine (fin h1 (Fr.refl _)).mono ?_
  rintro _ h2 ⟨w,sw,rfl,f2⟩
  simp(disch:=omega)only[go_sem]
  refine (Ni u w n m a h2 (by omega) (by omega) A (hu.mono f2) sw).mono ?_
  rintro v h3 ⟨s3,f3⟩
  simp(disch:=omega)only[go_sem]
  exact⟨v,rfl,by rw[ez];exact s3,f2.trans f3⟩
set_option maxHeartbeats 32000000
theorem MN (D f:Nat)(fs:List V)(g:Nat->Int)(n:Nat)(G:List Nat->Prop)(L:LN)(K:List Nat)(h:H)(hr:K.length<=64)(d:Ip n G L K h D)
  (hf: ∀i,i<K.length-> ∀hh,Fr h hh->Ev T f (fs++ [aB i]) hh (λv h'=>v= aB (g i)/\Fr hh h')):
  Ev T 41 [.ptr D 0,.fn f fs []] h (λv h'=>DT h.next K.length g h' v/\Fr h h'):=by
 refine bN mJ rfl rfl ?_
 obtain⟨vL,vC,Mn,ln,ks,gD,hD,hMn,sL,sC,al,gMn,kln,lkn⟩:=d.ex
 have lvC:=(pP (by omega) sC al).1
 obtain⟨r,hrr⟩:=exI K.length
 rw[hrr] at lvC hr hf
 obtain⟨S,hS⟩:=exI h.next
 obtain⟨h1,e1,n1,g1,o1,f1⟩:=iX hS (rc r λ_=> aB 0)
 simp(disch:=omega)only[go_sem,mJ,aE,H.aF gD,lvC,lQ h r (by omega),hS,e1]
 refine aI (λk' vars hh=> ∃(i:Nat),(∃j:Nat->V,vars= [j 0,.fn f fs [],j 2,.sl S 0 r (.kn r),j 4,aB r,aB i,j 7])/\i<=r/\hh.get S=some (.cells false (rc r λk=> aB (if k<i then g k else 0)))/\Fr h hh/\S<hh.next/\k'=r-i) r
  ⟨0,aA rfl,lL _,g1,f1,by omega,rfl⟩ ?_
 rintro k' vars hh ⟨i,⟨j,rfl⟩,hi,gS,F,nS,rfl⟩
 by_cases hlt:(i:Int)<(r:Int)
 ·have d1:=mL hlt
  have hi':i<r:=by omega
  simp(disch:=omega)only[go_sem,d1]
  refine (hf i hi' hh F).mono ?_
  rintro _ h2 ⟨rfl,f2⟩
  have gS2:h2.get S=some (.cells false (rc r λk=> aB (if k<i then g k else 0))):=by rw[f2.get S nS];exact gS
  have pt:=λhh=>aZ (vs:=rc r λk=> aB (if k<i then g k else 0)) (off:=i) (by rw[dG];exact hi') hh S (aB (g i))
  simp(disch:=omega)only[go_sem,gS2,pt]
  rw[jJ i]
  have n2:=f2.next
  refine⟨r-(i+1),by omega,i+1,aA rfl,by omega,?_,(F.trans f2).set (by omega) _,by show S<h2.next;omega,rfl⟩
  rw[iR]
  congr 2
  refine bH λa ha=>?_
  by_cases e:a=i
  ·rw[if_pos e,if_pos (by omega),e]
  ·rw[if_neg e]
   by_cases e2:a<i
   ·rw[if_pos e2,if_pos (by omega)]
   ·rw[if_neg e2,if_neg (by omega)]
 have d1:=iZ hlt
 obtain rfl:i=r:=by omega
 simp(disch:=omega)only[go_sem,d1]
 refine⟨⟨S,by rw[hrr],by omega,nS,?_⟩,F⟩
 rw[gS,hrr]
 congr 2
 exact bH λa ha=>by rw[if_pos ha]
noncomputable def NA (n:Nat)(L:LN)(z:Int)(t:Nat)(y:List Nat):Nat:=((List.range t).filter λa=>decide (zp n (L.getD a []) z=y)).length
theorem filter_one {α:Type}(p:α->Bool)(a:α):([a].filter p).length=if p a=true then 1 else 0:=by
 cases h:p a<;>simp [h]
theorem GW (n:Nat)(L:LN)(z:Int)(t:Nat)(y:List Nat):NA n L z (t+1) y=NA n L z t y+if zp n (L.getD t []) z=y then 1 else 0:=by
 unfold NA;rw[List.range_succ,List.filter_append,oF];rw[filter_one];simp only[decide_eq_true_iff]
theorem YK (n:Nat)(L:LN)(z:Int)(t:Nat)(y:List Nat):NA n L z t y<=t:=by
 unfold NA;exact Nat.le_trans (List.length_filter_le _ _) (by rw[List.length_range];exact iP _)
noncomputable def PZ (n:Nat)(L:LN)(K:List Nat)(z:Int)(i:Nat):Nat:=NA n L z L.length (L.getD (K.getD i 0) [])
theorem ZB (D M:Nat):tZ [.nilp,.nilm] [(0,1,.ptr D 0),(1,1,.mp M)]=some (.agg [.ptr D 0,.mp M]):=rfl
theorem Xe (D M i:Nat)(n:Nat)(G:List Nat->Prop)(L:LN)(K:List Nat)(h:H)(z:Int)(m:List (List Nat×V))(n7:n<=7)(hG:sZ n G)(E:fL G L)(ik:Dh n G L K)(hr:K.length<=64)(d:Ip n G L K h D)(hi:i<K.length)
  (gM:h.get M=some (.wmap (.arr 64 .u8) (iO Rd m))) (hM:M<h.next) (pm: ∀p∈m,bF n p.1) (lk: ∀y,bF n y->(Kq m y).getD (aB 0)= aB (NA n L z L.length y:Nat)):
  Ev T 42 [.agg [.ptr D 0,.mp M],aB i] h (λv h'=>v= aB (PZ n L K z i:Nat)/\Fr h h'):=by
 refine bN mY rfl rfl ?_
 obtain⟨vL,vC,Mn,ln,ks,gD,hD,hMn,sL,sC,al,gMn,kln,lkn⟩:=d.ex
 obtain⟨lvC,eC,idC,offC,shC,cC⟩:=pP (by omega) sC al
 obtain⟨bC,rep,cr,_,rw3,sr⟩:=cC i hi
 have hKi:K.getD i 0<L.length:=ik.lt (bB hi)
 obtain⟨x,hx⟩:=exI (L.getD (K.getD i 0) [])
 rw[hx] at sr
 have X:bF n x:=by rw[←hx];exact kP hG E hKi
 obtain⟨A,hA⟩:=exI h.next
 obtain⟨h1,e1,n1,g1,o1,f1⟩:=iX hA [.ptr D 0,.mp M]
 have gD1:h1.get D=some (.cells false [vL,vC,.mp Mn]):=by rw[f1.get _ hD];exact gD
 have cr1:h1.cell idC (offC+i*3)=some rep:=by rw[f1.cell bC];exact cr
 simp(disch:=omega)only[go_sem,mY,aE,Lq h (v:= .ptr D 0) (u:= .mp M) rfl rfl,hA,e1,H.aF g1,H.aF gD1,shC.ixa,cr1]
 have fb:=(Fr.refl h1).bJ (n:=h1.next+14) (by omega)
 refine (By rep n x _ (by omega) X (sr.mono (f1.trans fb))).mono ?_
 rintro _ h2 ⟨rfl,f2⟩
 have F2:=f1.trans (fb.trans f2)
 have g2:h2.get A=some (.cells false [.ptr D 0,.mp M]):=by rw[(fb.trans f2).get A (by omega)];exact g1
 have gM2:h2.get M=some (.wmap (.arr 64 .u8) (iO Rd m)):=by rw[F2.get _ hM];exact gM
 have lo:=tI (Ji (n:=n) (by omega)) (λa A=>Cz (n:=n) (by omega) a A) pm X (aB 0)
 rw[lk x X] at lo
 simp(disch:=omega)only[go_sem,H.aF g2,gM2,lo]
 refine⟨by simp [eH],by unfold PZ;rw[hx],F2⟩
theorem HW {W0:Nat->Prop}(vc:V)(z:Int)(n:Nat)(O:LN)(R:pF)(G:List Nat->Prop)(h:H)(hz: -9223372036854775808<=z/\z<9223372036854775808)(gc:GC W0 h vc n O R G)(L:LN)(hL:dC O R n 0 (bI n)=L):
  Ev T 12 [vc,aB z] h (λv h'=> ∃K,Dh n G L K/\Fr h h'/\(64<K.length/\v= .tup [.aC,aB 5]∨K.length<=64/\ ∃vl,v= .tup [vl,aB 0]/\SI h' vl (zi ((List.range K.length).map (PZ n L K z))))):=by
 have gc0:=gc
 obtain⟨vO,vR,rfl,sO,sR⟩:=gc.ch
 refine bN qP rfl rfl ?_
 have oneO:vO.one=true:=PS sO
 have oneR:vR.one=true:=PO sR
 have n7:=gc.n7
 have n0:=gc.n0
 have hG:=gc.nC
 obtain⟨E,ll⟩:=iT gc.nC gc.isc
 have ll5:=mN gc
 rw[hL] at E ll
 obtain⟨B,hB⟩:=exI h.next
 obtain⟨h1,e1,n1,g1,o1,f1⟩:=iX hB [aB n,vO,vR]
 have bx:=fG h (v:= aB n) (u:=vO) (w:=vR) rfl oneO oneR
 simp(disch:=omega)only[go_sem,qP,aE,bx,hB,e1,bZ g1]
 refine (Ph _ n O R G h1 (gc0.mono f1) L hL).mono ?_
 rintro _ h2 ⟨K,ik,f2,⟨k64,rfl⟩|⟨k64,D,rfl,dat⟩⟩
 ·simp(disch:=omega)only[go_sem]
  refine aY (λ_=>?_) (λhc=>(hc (by decide)).elim)
  simp(disch:=omega)only[go_sem]
  exact⟨K,ik,f1.trans f2,.inl ⟨k64,trivial⟩⟩
 simp(disch:=omega)only[go_sem]
 refine aY (λhc=>(hc rfl).elim) (λ_=>?_)
 have F2:=f1.trans f2
 obtain⟨vL,vC,Mn,ln,ks,gD,hD,hMn,sL,sC,al,gMn,kln,lkn⟩:=dat.ex
 obtain⟨lvL,eL,idL,offL,ws,shL,cL⟩:=Bn sL
 obtain⟨m0,hm0⟩: ∃m,L.length=m:=⟨_,rfl⟩
 rw[hm0] at lvL shL cL
 obtain⟨M,hM⟩:=exI h2.next
 obtain⟨h3,e3⟩:=exI (h2.new (.wmap (.arr 64 .u8) []))
 have n3:h3.next=M+1:=by rw[←e3,H.aV,hM]
 have g3:h3.get M=some (.wmap (.arr 64 .u8) []):=by rw[←e3,←hM];exact H.aM h2 _
 have o3: ∀k,k≠M->h3.get k=h2.get k:=λk hk=>by rw[←e3];exact H.bD h2 (by omega) _
 obtain⟨h4,e4,n4,g4,o4,f4⟩:=iX n3 [.nilp,.nilm]
 obtain⟨h5,e5,n5,g5,o5⟩:=Fq h4 (M+1) [.ptr D 0,.mp M]
 have F25:Fr h2 h5:=⟨by omega,λq hq=>by rw[o5 q (by omega),o4 q (by omega),o3 q (by omega)]⟩
 have gM5:h5.get M=some (.wmap (.arr 64 .u8) []):=by rw[o5 M (by omega),o4 M (by omega)];exact g3
 have gD5: ∀hh,Fr h2 hh->hh.get D=some (.cells false [vL,vC,.mp Mn]):=λhh f=>by rw[f.get _ hD];exact gD
 simp(disch:=omega)only[go_sem,hM,e3,ZB,n3,e4,Bx h4 (M+1) 0 (v:= .ptr D 0) (u:= .mp M) rfl rfl,g4,yD,e5,H.aF (gD5 h5 F25),lvL]
 refine cI (λvs hh=> ∃(m:List (List Nat×V)),(∃g:Nat->V,vs= [g 0,g 1,g 2,g 3,g 4,.ptr D 0,g 6,.ptr (M+1) 0,g 8,g 9,g 10,g 11,g 12,g 13,g 14])/\hh.get M=some (.wmap (.arr 64 .u8) (iO Rd m))/\hh.get (M+1)=some (.cells false [.ptr D 0,.mp M])/\(∀p∈m,bF n p.1)/\(∀y,bF n y->(Kq m y).getD (aB 0)= aB (NA n L z L.length y:Nat))/\M+1<hh.next/\Fr h2 hh) ?_ ?_
 ·refine aI (λk' vars hh=> ∃(t:Nat) (m:List (List Nat×V)),(∃g:Nat->V,vars= [g 0,aB z,g 2,g 3,g 4,.ptr D 0,g 6,.ptr (M+1) 0,g 8,g 9,g 10,vL,aB m0,aB t,g 14])/\t<=m0/\hh.get M=some (.wmap (.arr 64 .u8) (iO Rd m))/\hh.get (M+1)=some (.cells false [.ptr D 0,.mp M])/\(∀p∈m,bF n p.1)/\(∀y,bF n y->(Kq m y).getD (aB 0)= aB (NA n L z t y:Nat))/\M+1<hh.next/\Fr h2 hh/\k'=m0-t) m0
   ⟨0, [],aA rfl,lL _,gM5,g5,λ_ h=>(by cases h),λy _=>rfl,by omega,F25,rfl⟩ ?_
  rintro k' vars h6 ⟨t,m,⟨g,rfl⟩,ht,gM,gR,pm,lk,nM,F,rfl⟩
  by_cases hlt:(t:Int)<(m0:Int)
  case neg=>
   have d1:=iZ hlt;obtain rfl:t=m0:=by omega
   simp(disch:=omega)only[go_sem,d1];exact⟨m,aA rfl,gM,gR,pm,by rw[hm0];exact lk,nM,F⟩
  have d1:=mL hlt
  have htl:t<m0:=by omega
  obtain⟨b1,c1,s1⟩:=cL t htl
  generalize ws.getD t V.undef=ve at c1 s1
  have X:=kP hG E (show t<L.length by omega)
  have c2:h6.cell idL (offL+t)=some ve:=by rw[F.cell b1];exact c1
  simp(disch:=omega)only[go_sem,d1,shL.ixa,c2]
  refine (UQ ve z n (L.getD t []) h6 hz n0 n7 X (s1.mono F)).mono ?_
  rintro _ h7 ⟨w,rfl,sw,f7⟩
  have F7:=F.trans f7
  have n7':=f7.next
  have gM7:h7.get M=some (.wmap (.arr 64 .u8) (iO Rd m)):=by rw[f7.get _ (by omega)];exact gM
  have gR7:h7.get (M+1)=some (.cells false [.ptr D 0,.mp M]):=by rw[f7.get _ (by omega)];exact gR
  obtain⟨y,hy⟩:=exI (zp n (L.getD t []) z)
  have Y:bF n y:=by rw[←hy];exact jR X _
  rw[hy] at sw
  simp(disch:=omega)only[go_sem,H.aF gR7]
  have fb:=(Fr.refl h7).bJ (n:=h7.next+9) (by omega)
  refine (By w n y _ (by omega) Y (sw.mono fb)).mono ?_
  rintro _ h8 ⟨rfl,f8⟩
  have f78:=fb.trans f8
  have F8:=F7.trans f78
  have gM8:h8.get M=some (.wmap (.arr 64 .u8) (iO Rd m)):=by rw[f78.get _ (by omega)];exact gM7
  have gR8:h8.get (M+1)=some (.cells false [.ptr D 0,.mp M]):=by rw[f78.get _ (by omega)];exact gR7
  have hE:=λa b=>Ji (n:=n) (by omega) a b
  have hk:=λa=>Cz (n:=n) (by omega) a
  have lc:=lk y Y
  obtain⟨c,hc⟩:=exI (NA n L z t y)
  rw[hc] at lc
  have cle:c<=t:=by rw[←hc];exact YK ..
  have lo2:=tI hE hk pm Y (aB 0)
  rw[lc] at lo2
  obtain⟨we,ni,m1,h9,ee,n9,o9,gM9,pm1,lk9,en⟩:=BI hE hk pm Y (aB 0) (aB (c+1:Nat)) h8 M gM8
  have lo3:=tI hE hk pm1 Y (aB 0)
  rw[lk9,lc] at lo3
  have n78:=f78.next
  have ok:UR h9 (.lkw (.arr 64 .u8) (aB 0) false (.c (.mp M)) (.c (Rd y))) (aB c)=true:=by
   simp only[UR,Pd,xv,Qc,gM9,lo3,Option.map_some,okV];simp [eH]
  have gR9:h9.get (M+1)=some (.cells false [.ptr D 0,.mp M]):=by rw[o9 (M+1) (by omega)];exact gR8
  simp(disch:=omega)only[go_sem,H.aF gR8,gM8,lo2,show (c:Int)+1=((c+1:Nat):Int) from rfl,ee,gM9,ok,en]
  rw[jJ t]
  have nF:=F7.next
  refine⟨by simp [eH],m0-(t+1),by omega,t+1,_,aA rfl,by omega,rfl,gR9,Ec Y pm,λy' Y'=>?_,by show M+1<h9.next;omega,⟨by show h2.next<=h9.next;omega,λp hp=>by rw[H.aH _ (by omega),o9 p (by omega)];exact F8.get p hp⟩,rfl⟩
  rw[Gk,GW,hy]
  by_cases e:y'=y
  ·rw[if_pos e,if_pos e.symm,e,hc];rfl
  ·rw[if_neg e,if_neg (λh=>e h.symm),lk y' Y'];rfl
 rintro vars hA ⟨m,⟨g,rfl⟩,gM,gR,pm,lk,nM,FA⟩
 have rr:=Pv gR
 simp(disch:=omega)only[go_sem,rr]
 refine (MN D 42 [.agg [.ptr D 0,.mp M]] (λi=>((PZ n L K z i:Nat):Int)) n G L K hA k64 (dat.mono FA) (λi hi hh f=>Xe D M i n G L K hh z m n7 hG E ik k64 (dat.mono (FA.trans f)) hi (by rw[f.get M (by omega)];exact gM) (by have:=f.next;omega) pm lk)).mono ?_
 rintro vl hB ⟨ro,fB⟩
 have s:=ro.si
 have e:(List.range K.length).map (λi=>((PZ n L K z i:Nat):Int))=zi ((List.range K.length).map (PZ n L K z)):=by
  unfold zi;rw[List.map_map];rfl
 rw[e] at s
 simp(disch:=omega)only[go_sem]
 exact⟨K,ik,(F2.trans FA).trans fB,.inr ⟨k64,vl,rfl,s⟩⟩
set_option maxHeartbeats 32000000
noncomputable def PW (G:List Nat->Prop)(L:LN)(K:List Nat)(i:Nat):Nat:=fS G L K (L.idxOf (dA (L.getD (K.getD i 0) [])))
theorem RK {G:List Nat->Prop}{L:LN}{K:List Nat}(i j k:Nat):kN G L K i j k<=L.length:=AJ ..
def quB (L:LN)(K:List Nat)(a k:Nat):Nat:=PH L K (L.idxOf (aU (dA (L.getD a [])) (L.getD (K.getD k 0) [])))
def YJ (L:LN)(K:List Nat)(i j k:Nat):Nat:=((List.range L.length).filter λa=>decide (PH L K a=i/\quB L K a k=j)).length
def mlB (L:LN)(K:List Nat)(x y:List Int)(k:Nat):Int:=sm L.length λa=>x.getD (PH L K a) 0*y.getD (quB L K a k) 0
def XO (L:LN)(K:List Nat)(l:List Nat):List Int:=l.foldl (λc i=>(List.range K.length).map (mlB L K (pN K.length i) c)) (pN K.length 0)
def zpB (n:Nat)(x:List Nat)(z:Int):List Nat:=pw n x (z%(Vd n x:Nat)).toNat
def rtB (n:Nat)(L:LN)(K:List Nat)(z:Int)(i:Nat):Nat:=((List.range L.length).filter λa=>decide (zpB n (L.getD a []) z=L.getD (K.getD i 0) [])).length
section
variable {n:Nat} {G:List Nat->Prop} {L:LN} {K:List Nat}
theorem AY (E:fL G L)(a k:Nat):Uz G L K a k=quB L K a k:=Pj E _
theorem NL (E:fL G L)(i j k:Nat):kN G L K i j k=YJ L K i j k:=by
 unfold kN Dx YJ;congr 2;funext a;rw[Pj E,AY E]
theorem RU (E:fL G L)(x y:List Int)(k:Nat):Uy G L K x y k=mlB L K x y k:=by
 unfold Uy mlB;exact lC λa _=>by rw[Pj E,AY E]
theorem GS (E:fL G L)(l:List Nat):Ao G L K l=XO L K l:=by
 unfold Ao XO;congr 1;funext c i;exact List.map_congr_left λk _=>RU E _ _ k
theorem QZ (hG:sZ n G)(E:fL G L)(hn:n<=7)(z:Int)(i:Nat):PZ n L K z i=rtB n L K z i:=by
 unfold PZ NA rtB;congr 1;refine List.filter_congr λa ha=>?_
 unfold zp zpB;rw[Vw hG E hn (Kw.1 ha)]
end
def T3:LN:= [[1,2,0], [1,0,2]]
theorem Io:fL (dS 3 (· ∈T3)) L3:=OG.abE (ws:= [[], [0,1], [1], [0], [0,0], [1,0]]) (by decide+kernel)
theorem XB: ∀g∈T3,bF 3 g:=λg hg=>Tg ((show ∀g∈T3,Lu 3 g=true by decide+kernel) g hg)
theorem Zg {G:List Nat->Prop}{L:LN}(E:fL G L){A:LN}(nd:A.Nodup)(h: ∀x∈A,G x):A.length<=L.length:=List.Nodup.length_le_of_subset nd λx hx=>(E.mem x).2 (h x hx)
theorem Rg (h:H):Ev T 34 [] h (λv h'=> ∃O R,GC (λid=>id<h.next) h' v 3 O R (dS 3 (· ∈T3))/\Fr h h'):=by
 refine bN uJ rfl rfl ?_;obtain⟨B,hB⟩:=exI h.next;obtain⟨h1,e1,n1,g1,o1,f1⟩:=iX hB [aB 0,.aC,.aC];obtain⟨h2,e2,n2,s2,f2⟩:=VM n1 [1,2,0];obtain⟨h3,e3,n3,s3,f3⟩:=VM n2 [1,0,2];obtain⟨h4,e4,n4,g4,o4,f4⟩:=iX n3 [.sl (B+1) 0 3 (.kn 3),.sl (B+1+1) 0 3 (.kn 3)];have F14:=(f2.trans f3).trans f4;have sp4:SP h4 (.sl (B+1+1+1) 0 2 (.kn 2)) T3:=SP.two (a:= [1,2,0]) (b:= [1,0,2]) (h:=h3) (s2.mono f3) s3 (by omega) f4 g4 _;simp(disch:=omega)only[go_sem,uJ,aE,hB,e1,n1,Vl,e2,n2,e3,n3,ZY _ (xN ..) (xN ..),e4];refine (El 10 3 _ T3 h4 (by omega) (by omega) XB (by decide) (λA nd hA=>Nat.le_trans (Zg Io nd hA) (by decide)) sp4).mono ?_;rintro vA h5 ⟨A,EA,lA,sA,f5⟩;simp(disch:=omega)only[go_sem];refine (Ai vA 3 _ A h5 (by omega) (by omega) (dS.nC XB) EA (by omega) sA).mono ?_;rintro vc h6 ⟨O,R,cw,isc,f6⟩
 have gc:GC (λid=>id<h5.next) h6 vc 3 O R (dS 3 (· ∈T3)):=⟨cw,isc,dS.nC XB,by omega,by omega⟩
 obtain⟨u,w,rfl,a,b,_,_⟩:=gc.sl;have F16:=(F14.trans f5).trans f6;have n5:=(F14.trans f5).next
 have n6:=f6.next;have g6:h6.get B=some (.cells false [aB 0,.aC,.aC]):=by rw[F16.get B (by omega)];exact g1
 obtain⟨h7,e7,n7,g7,o7⟩:=Fq h6 B [aB (3:Nat),u,w];simp(disch:=omega)only[go_sem,nZ h6 B 0 (v:= aB (3:Nat)) (u:=u) (w:=w) rfl a b,g6,jW,e7,bZ g7];exact⟨O,R,gc.go (⟨by omega,λid h1 h2=>o7 id (by show id≠B;have: ¬id<h5.next:=h2;omega)⟩:Fx (λid=>id<h5.next) h6 h7) (λid h1 h2=>by show id<h5.next;omega),⟨by omega,λq hq=>by rw[o7 q (by omega),F16.get q (by omega),o1 q (by omega)]⟩⟩
theorem UE (h:H):Ev T 35 [] h (λv h'=> ∃O R,GC (λid=>id<h.next) h' v 4 O R (dS 4 (· ∈C4))/\Fr h h'):=by
 refine bN vT rfl rfl ?_;obtain⟨B,hB⟩:=exI h.next;obtain⟨h1,e1,n1,g1,o1,f1⟩:=iX hB [aB 0,.aC,.aC];obtain⟨h2,e2,n2,s2,f2⟩:=VM n1 [1,2,3,0];obtain⟨h4,e4,n4,g4,o4,f4⟩:=iX n2 [.sl (B+1) 0 4 (.kn 4)];have F14:=f2.trans f4;have sp4:SP h4 (.sl (B+1+1) 0 1 (.kn 1)) C4:=SP.abW (a:= [1,2,3,0]) (h:=h2) s2 (by omega) f4 g4 _;simp(disch:=omega)only[go_sem,vT,aE,hB,e1,n1,IM,e2,n2,dV _ (z:= .aC) (v:= .sl (B+1) 0 4 (.kn 4)) rfl rfl,e4];refine (El 10 4 _ C4 h4 (by omega) (by omega) aaE (by decide) (λA nd hA=>Nat.le_trans (Zg Zw nd hA) (by decide)) sp4).mono ?_;rintro vA h5 ⟨A,EA,lA,sA,f5⟩;simp(disch:=omega)only[go_sem];refine (Ai vA 4 _ A h5 (by omega) (by omega) (dS.nC aaE) EA (by omega) sA).mono ?_;rintro vc h6 ⟨O,R,cw,isc,f6⟩
 have gc:GC (λid=>id<h5.next) h6 vc 4 O R (dS 4 (· ∈C4)):=⟨cw,isc,dS.nC aaE,by omega,by omega⟩
 obtain⟨u,w,rfl,a,b,_,_⟩:=gc.sl;have F16:=(F14.trans f5).trans f6;have n5:=(F14.trans f5).next
 have n6:=f6.next;have g6:h6.get B=some (.cells false [aB 0,.aC,.aC]):=by rw[F16.get B (by omega)];exact g1
 obtain⟨h7,e7,n7,g7,o7⟩:=Fq h6 B [aB (4:Nat),u,w];simp(disch:=omega)only[go_sem,nZ h6 B 0 (v:= aB (4:Nat)) (u:=u) (w:=w) rfl a b,g6,jW,e7,bZ g7];exact⟨O,R,gc.go (⟨by omega,λid h1 h2=>o7 id (by show id≠B;have: ¬id<h5.next:=h2;omega)⟩:Fx (λid=>id<h5.next) h6 h7) (λid h1 h2=>by show id<h5.next;omega),⟨by omega,λq hq=>by rw[o7 q (by omega),F16.get q (by omega),o1 q (by omega)]⟩⟩
theorem HK (vl:V)(l:List Int)(h:H)(hv:SI h vl l)(hl:l.length<9223372036854775808):
  Ev T 26 [vl] h (λv h'=> ∃(n:Nat) (S:LN) (O:LN) (R:pF),1<=n/\n<=5/\(∀g∈S,bF n g)/\GC (λid=>id<h.next) h' v n O R (dS n (· ∈S))/\Fr h h'):=by
 refine bN tP rfl rfl ?_
 obtain⟨B,hB⟩:=exI h.next
 obtain⟨h1,e1,n1,g1,o1,f1⟩:=iX hB [aB 0,.aC,.aC]
 simp(disch:=omega)only[go_sem,tP,aE,hB,e1]
 refine (Vg vl l 5 h1 (hv.mono f1) hl (by omega) (by omega)).mono ?_
 rintro _ h2 ⟨n,vg,S,rfl,hn1,hn5,hg3,gP,sg,f2⟩
 obtain⟨Q,hQ⟩:=exI h2.next
 obtain⟨h3,e3,n3,g3,o3,f3⟩:=iX hQ [aB 0,.aC]
 obtain⟨h4,e4,n4,g4,o4⟩:=Fq h3 Q [aB n,vg]
 have wg:vg.one=true/\eH vg vg=true:=by obtain⟨ws,s,_⟩:=sg;exact⟨s.eI.2.1,s.eH⟩
 have f24:Fr h2 h4:=⟨by omega,λq hq=>by rw[o4 q (by omega),o3 q (by omega)]⟩
 have n2:=f2.next
 have cg: ∀hh,Fr h4 hh->hh.get Q=some (.cells false [aB n,vg]):=λhh f=>by rw[f.get Q (by omega)];exact g4
 simp(disch:=omega)only[go_sem,hQ,e3,Bx h3 Q 0 (v:= aB n) (u:=vg) rfl wg.1,g3,yD,e4,H.aF g4]
 have fb:=(Fr.refl h4).bJ (n:=h4.next+9) (by omega)
 refine (El 200 n vg S _ hn1 hn5 gP (by omega) (λA nd hA=>Nat.le_trans (wU hn5 nd λx hx=>(hA x hx).dY gP) (by decide)) (sg.mono (f24.trans fb))).mono ?_
 rintro vA h5 ⟨A,EA,lA,sA,f5⟩
 have F45:=fb.trans f5
 simp(disch:=omega)only[go_sem,H.aF (cg h5 F45)]
 refine (Ai vA n _ A h5 (by omega) (by omega) (dS.nC gP) EA (by omega) sA).mono ?_
 rintro vc h6 ⟨O,R,cw,isc,f6⟩
 have gc:GC (λid=>id<h5.next) h6 vc n O R (dS n (· ∈S)):=⟨cw,isc,dS.nC gP,by omega,by omega⟩
 obtain⟨u,w,rfl,a,b,_,_⟩:=gc.sl
 have F16:=((f2.trans f24).trans F45).trans f6
 have n5:=((f2.trans f24).trans F45).next
 have n6:=f6.next
 have g6:h6.get B=some (.cells false [aB 0,.aC,.aC]):=by rw[F16.get B (by omega)];exact g1
 obtain⟨h7,e7,n7,g7,o7⟩:=Fq h6 B [aB n,u,w]
 simp(disch:=omega)only[go_sem,H.aF (cg h6 (F45.trans f6)),nZ h6 B 0 (v:= aB n) (u:=u) (w:=w) rfl a b,g6,jW,e7,bZ g7]
 exact⟨n,S,O,R,hn1,hn5,gP,gc.go (⟨by omega,λid h1 h2=>o7 id (by show id≠B;have: ¬id<h5.next:=h2;omega)⟩:Fx (λid=>id<h5.next) h6 h7) (λid h1 h2=>by show id<h5.next;omega),⟨by omega,λq hq=>by rw[o7 q (by omega),F16.get q (by omega),o1 q (by omega)]⟩⟩
set_option maxHeartbeats 16000000
theorem abB (v w:V)(a b:List Int)(h:H)(sa:SI h v a)(sb:SI h w b)(la:a.length<1000000)(lb:b.length<1000000):
  Ev T 36 [v,aB 0,w] h (λv h'=>v= .bool (decide (a=b))/\Fr h h'):=by
 refine bN Bg rfl rfl ?_
 simp(disch:=omega)only[go_sem,Bg,aE,decide_true]
 refine (Qt v w a b h sa sb la lb).mono ?_
 rintro _ h1 ⟨rfl,f1⟩
 simp(disch:=omega)only[go_sem]
 exact f1
theorem aaG (h:H){v u w:V}(hv:v.cells= [v]/\v.one=true)(hu:u.cells= [u]/\u.one=true)(hw:w.cells= [w]/\w.one=true):tC h 1 [.aC] 3 [(0,1,v),(1,1,u),(2,1,w)]=some (.sl h.next 0 3 (.kn 3),h.new (.cells false [v,u,w])):=by
 have e:dW [V.aC] 3= [.aC,.aC,.aC]:=rfl;simp [tC,jL,e,putAt,hv.1,hv.2,hu.1,hu.2,hw.1,hw.2]
theorem UN:(List.range 3).map (λj=>zi ((List.range 3).map (YJ L3 [0,1,3] 1 j)))= [[0,1,0], [3,0,3], [0,2,0]]:=by decide+kernel
theorem QR:(XO L3 [0,1,3] [1,1,2]).getD 0 0=6:=by decide+kernel
theorem XP:zi ((List.range 4).map (rtB 4 L4 [0,2,1,3] 2))= [2,2,0,0]:=by decide+kernel
theorem HN (h:H):Ev T 10 [] h (λv h'=>v= .bool true/\Fr h h'):=by
 refine bN uB rfl rfl ?_;simp(disch:=omega)only[go_sem,uB,aE];refine (Rg h).mono ?_;rintro vc h1 ⟨O,R,gc,f1⟩;simp(disch:=omega)only[go_sem];refine (Su vc 1 3 O R _ h1 gc L3 (gc.el Io)).mono ?_;rintro w1 h2 ⟨K,ik,f2,hv⟩;obtain rfl:K= [0,1,3]:=LS.eq gc.nC Io (by omega) WC ik
 obtain⟨vl,rfl,sl⟩: ∃vl,w1=V.tup [vl,aB 0]/\SR h2 vl (Pc (dS 3 (· ∈T3)) L3 [0,1,3] 1):=by
  rcases hv with ⟨h1,_⟩|⟨_,⟨h1,_⟩|⟨i,vl,e,_,rfl,s⟩⟩
  ·simp at h1
  ·simp at h1
  ·obtain rfl:i=1:=by omega
   exact⟨vl,rfl,s⟩
 clear hv
 have ec:Pc (dS 3 (· ∈T3)) L3 [0,1,3] 1= [[0,1,0], [3,0,3], [0,2,0]]:=by
  rw[←UN];unfold Pc;exact List.map_congr_left λj _=>by congr 1;exact List.map_congr_left λk _=>NL Io _ _ _
 rw[ec] at sl;simp(disch:=omega)only[go_sem];refine (Rg h2).mono ?_;rintro vc2 h3 ⟨O2,R2,gc2,f3⟩;obtain⟨h4,e4,n4,s4,f4⟩:=VM (h:=h3) rfl [1,1,2];simp(disch:=omega)only[go_sem,Vl,e4];refine (IH vc2 _ [1,1,2] 3 O2 R2 _ h4 (by decide) s4 (gc2.mono f4) L3 (gc2.el Io)).mono ?_;rintro w2 h5 ⟨K,ik2,f5,hv⟩;obtain rfl:K= [0,1,3]:=LS.eq gc2.nC Io (by omega) WC ik2
 obtain rfl:w2=V.tup [aB 6,aB 0]:=by
  rcases hv with ⟨h1,_⟩|⟨_,⟨h1,_⟩|⟨_,⟨⟨x,hx,h1⟩,_⟩|⟨l',e,_,rfl⟩⟩⟩
  ·simp at h1
  ·simp at h1
  ·simp only[List.length_cons,List.length_nil] at h1
   simp only[List.mem_cons,List.not_mem_nil,or_false] at hx;omega
  ·have el:l'= [1,1,2]:=Wn (e.symm.trans (by decide))
   rw[el,GS Io,QR]
 clear hv;simp(disch:=omega)only[go_sem];refine (UE h5).mono ?_;rintro vc3 h6 ⟨O3,R3,gc3,f6⟩;simp(disch:=omega)only[go_sem];refine (HW vc3 2 4 O3 R3 _ h6 (by omega) gc3 L4 (gc3.el Zw)).mono ?_;rintro w3 h7 ⟨K,ik3,f7,hv⟩;obtain rfl:K= [0,2,1,3]:=LS.eq gc3.nC Zw (by omega) abO ik3
 obtain⟨vr,rfl,sr⟩: ∃vl,w3=V.tup [vl,aB 0]/\SI h7 vl [2,2,0,0]:=by
  rcases hv with ⟨h1,_⟩|⟨_,vl,rfl,s⟩
  ·simp at h1
  ·refine⟨vl,rfl,?_⟩
   have e:zi ((List.range [0,2,1,3].length).map (PZ 4 L4 [0,2,1,3] 2))= [2,2,0,0]:=by
    rw[←XP];congr 1;exact List.map_congr_left λi _=>QZ gc3.nC Zw (by omega) _ _
   rw[e] at s;exact s
 clear hv;obtain⟨ha,ea,na,sa,fa⟩:=VM (h:=h7) rfl [0,1,0];obtain⟨hb,eb,nb,sb,fb⟩:=VM na [3,0,3];obtain⟨hc,ec',nc,sc,fc⟩:=VM nb [0,2,0];have F17:=(((((f1.trans f2).trans f3).trans f4).trans f5).trans f6).trans f7;simp(disch:=omega)only[go_sem,decide_true,Vl,ea,na,eb,nb,ec'];obtain⟨A,hA⟩:=exI h7.next;rw[hA] at na nb nc sa sb sc ⊢;obtain⟨hd,ed,nd,gd,od,fd⟩:=iX nc [.sl A 0 3 (.kn 3),.sl (A+1) 0 3 (.kn 3),.sl (A+1+1) 0 3 (.kn 3)];have f7d:=((fa.trans fb).trans fc).trans fd
 have sw:SR hd (.sl (A+1+1+1) 0 3 (.kn 3)) [[0,1,0], [3,0,3], [0,2,0]]:=⟨_,SV.all (by rfl) (by omega) gd _,sa.mono ((fb.trans fc).trans fd),sb.mono (fc.trans fd),sc.mono fd,trivial⟩
 simp(disch:=omega)only[go_sem,aaG _ (xN ..) (xN ..) (xN ..),nc,ed];refine (Qd vl _ _ _ hd (sl.mono ((((f3.trans f4).trans f5).trans f6).trans (f7.trans f7d))) sw (by decide) (by decide) (by decide) (by decide)).mono ?_;rintro _ h8 ⟨rfl,f8⟩;rw[decide_eq_true rfl];obtain⟨he,ee,ne,se,fe⟩:=VM (h:=h8) rfl [2,2,0,0];simp(disch:=omega)only[go_sem,decide_true,IM,ee];refine (abB vr _ _ _ he (sr.mono ((f7d.trans f8).trans fe)) se (by decide) (by decide)).mono ?_;rintro _ h9 ⟨rfl,f9⟩;rw[decide_eq_true rfl];simp(disch:=omega)only[go_sem];exact (((F17.trans f7d).trans f8).trans fe).trans f9
def gs:LN->(List Nat->Int)->Int
 | [],_=>0
 |x::l,f=>f x+gs l f
theorem kE {f g:List Nat->Int}: ∀{l:LN},(∀x∈l,f x=g x)->gs l f=gs l g
 | [],_=>rfl
 |x::l,h=>by
  rw[gs,gs,h x (by simp),kE λy hy=>h y (by simp [hy])]
theorem TH {f:List Nat->Int}{l m:LN}(p:l.Perm m):gs l f=gs m f:=by
 induction p with
 |nil=>rfl
 |cons x _ ih=>rw[gs,gs,ih]
 |swap x y l=>rw[gs,gs,gs,gs];omega
 |trans _ _ h1 h2=>rw[h1,h2]
theorem OI (φ:List Nat->List Nat)(f:List Nat->Int): ∀l,gs (l.map φ) f=gs l λx=>f (φ x)
 | []=>rfl
 |x::l=>by rw[List.map_cons,gs,gs,OI φ f l]
theorem HB (f g:List Nat->Int): ∀l,gs l (λx=>f x+g x)=gs l f+gs l g
 | []=>rfl
 |x::l=>by rw[gs,gs,gs,HB f g l];omega
theorem Xa (c:Int)(f:List Nat->Int): ∀l,gs l (λx=>c*f x)=c*gs l f
 | []=>by rw[gs,gs,Int.mul_zero]
 |x::l=>by rw[gs,gs,Xa c f l,Int.mul_add]
theorem Jt: ∀l,gs l (λ_=>0)=0
 | []=>rfl
 |x::l=>by rw[gs,Jt l];rfl
theorem BM (f:List Nat->List Nat->Int)(m:LN): ∀l,gs l (λx=>gs m λy=>f x y)=gs m λy=>gs l λx=>f x y
 | []=>(Jt m).symm
 |x::l=>by rw[gs,BM f m l,←HB];rfl
theorem WA (f:List Nat->Nat->Int)(r:Nat): ∀l,gs l (λx=>sm r λk=>f x k)=sm r λk=>gs l λx=>f x k
 | []=>(HS r).symm
 |x::l=>by rw[gs,WA f r l,←JP];rfl
theorem JB (f:List Nat->Int)(l:LN):sm l.length (λa=>f (l.getD a []))=gs l f:=by
 induction l with
 |nil=>rfl
 |cons x l ih=>
  rw[List.length_cons,MB,gs,←ih]
  rfl
theorem ZS (x:List Nat)(c:Int){l:LN}(nd:l.Nodup)(hx:x∈l):gs l (λy=>if y=x then c else 0)=c:=by
 induction l with
 |nil=>cases hx
 |cons y l ih=>
  rw[List.nodup_cons] at nd;rw[gs]
  by_cases e:y=x
  ·subst e
   rw[if_pos rfl,kE (g:=λ_=>0) λz hz=>by rw[if_neg (λe=>nd.1 (by rw[←e];exact hz))],Jt];omega
  ·rw[if_neg e,ih nd.2 (by rcases List.mem_cons.1 hx with h|h;exact absurd h.symm e;exact h)];omega
theorem AX {α:Type}[DecidableEq α]: ∀{l m:List α},l.Nodup->m.Nodup->(∀x,x∈l↔x∈m)->l.Perm m
 | [], [],_,_,_=> .nil
 | [],y::m,_,_,h=>by have:=(h y).2 (by simp);simp at this
 |x::l,m,h1,h2,h=>by
  have hx:x∈m:=(h x).1 (by simp);rw[List.nodup_cons] at h1;refine (List.Perm.cons x (AX h1.2 (h2.erase x) λy=>?_)).trans (List.perm_cons_erase hx).symm;rw[h2.mem_erase_iff,←h y,List.mem_cons];constructor
  ·exact λhy=>⟨λe=>h1.1 (by rw[←e];exact hy),.inr hy⟩
  ·rintro⟨hne,rfl|hy⟩
   ·exact absurd rfl hne
   ·exact hy
theorem VK {l:LN}(nd:l.Nodup){φ:List Nat->List Nat}(nd2:(l.map φ).Nodup)(sub: ∀x∈l,φ x∈l){y:List Nat}(hy:y∈l):y∈l.map φ:=by
 refine Kt λhn=>?_
 have h1:(y::l.map φ).Nodup:=List.nodup_cons.2 ⟨hn,nd2⟩
 have h2:=List.Nodup.length_le_of_subset h1 (l₂:=l) λz hz=>by
  rcases List.mem_cons.1 hz with rfl|hz
  ·exact hy
  ·obtain⟨w,hw,rfl⟩:=xB.1 hz
   exact sub w hw
 rw[List.length_cons,rK] at h2;omega
section
variable {n:Nat} {G:List Nat->Prop} {L:LN} {K:List Nat}
theorem ND (E:fL G L)(φ:List Nat->List Nat)(h1: ∀x,G x->G (φ x))(h2: ∀x y,G x->G y->φ x=φ y->x=y):(L.map φ).Perm L:=by
 have nd:(L.map φ).Nodup:=by
  rw[List.nodup_iff_pairwise_ne,List.pairwise_map];exact (List.nodup_iff_pairwise_ne.1 E.nodup).imp_of_mem λha hb hne e=>hne (h2 _ _ ((E.mem _).1 ha) ((E.mem _).1 hb) e)
 refine AX nd E.nodup λy=>⟨λhy=>?_,λhy=>VK E.nodup nd (λx hx=>(E.mem _).2 (h1 x ((E.mem x).1 hx))) hy⟩
 obtain⟨x,hx,rfl⟩:=xB.1 hy;exact (E.mem _).2 (h1 x ((E.mem x).1 hx))
theorem Vu (E:fL G L)(f:List Nat->Int)(φ:List Nat->List Nat)(h1: ∀x,G x->G (φ x))(h2: ∀x y,G x->G y->φ x=φ y->x=y):gs L (λx=>f (φ x))=gs L f:=by
 rw[←OI,TH (ND E φ h1 h2)]
noncomputable def zD (G:List Nat->Prop)(L:LN)(K:List Nat)(x:List Nat):Nat:=fS G L K (L.idxOf x)
theorem YG (E:fL G L){a:Nat}(ha:a<L.length):L.idxOf (L.getD a [])=a:=by
 rw[List.getD_eq_getElem?_getD,iD ha];exact E.nodup.idxOf_getElem _ _
theorem Qz (E:fL G L){a:Nat}(ha:a<L.length):zD G L K (L.getD a [])=fS G L K a:=by unfold zD;rw[YG E ha]
end
section
variable {x c:List Nat} {k i j:Nat}
theorem Mc {n:Nat}(X:bF n x)(C:bF n c):iM (dA x) c=dA (iM x c):=by
 unfold iM;rw[Jr (C.inv.mul X) C,Jr C.inv X,Cf C,←aW C.inv X.inv C]
noncomputable def PR (G:List Nat->Prop)(L:LN)(K:List Nat)(i j:Nat)(z:List Nat):Int:=gs L λx=>if zD G L K x=i/\zD G L K (aU (dA x) z)=j then 1 else 0
noncomputable def Ew (G:List Nat->Prop)(L:LN)(K:List Nat)(k:Nat):Nat:=(iN G L (K.getD k 0)).length
section
variable {n:Nat} {G:List Nat->Prop} {L:LN} {K:List Nat} (hG:sZ n G) (E:fL G L) (ik:Dh n G L K)
include hG E ik
theorem Ho (hx:G x):zD G L K x<K.length:=(vJ hG E ik (Er E hx).1).1
theorem Yn (hk:k<K.length):zD G L K (L.getD (K.getD k 0) [])=k:=by
 have h:=ik.lt (bB (d:=0) hk);rw[Qz E h];exact (Bz hG E ik.perm hk h).2 (Gu hG E h)
theorem Qy {y:List Nat}(hx:G x)(hy:G y):zD G L K x=zD G L K y↔cj G x y:=by
 obtain⟨i1,e1⟩:=Er E hx;obtain⟨i2,e2⟩:=Er E hy;have h1:=vJ hG E ik i1;have h2:=vJ hG E ik i2;unfold zD;constructor
 ·intro e
  rw[←e] at h2;have:=qE hG E i1 (Cv hG E (ik.lt (bB (d:=0) h1.1)) h1.2) h2.2;unfold cR at this;rwa [e1,e2] at this
 ·intro c
  refine GD hG E ik i1 i2 ?_;unfold cR;rw[e1,e2];exact c
theorem Qu (hx:G x)(hc:G c):zD G L K (iM x c)=zD G L K x:=
 ((Qy hG E ik hx (PE hG hx ⟨c,hc,rfl⟩)).2 ⟨c,hc,rfl⟩).symm
theorem Zj (hk:k<K.length):((Ew G L K k:Nat):Int)=gs L λx=>if zD G L K x=k then 1 else 0:=by
 unfold Ew iN;rw[←JB];have:=Jj L.length 1 λa=>fS G L K a=k
 rw[Int.one_mul] at this;rw[lC (g:=λa=>if fS G L K a=k then 1 else 0) λa ha=>by rw[Qz E ha],this];congr 2;refine List.filter_congr λa ha=>?_
 rw[decide_eq_decide];exact (Bz hG E ik.perm hk (Kw.1 ha)).symm
omit hG ik in
theorem Wa:((kN G L K i j k:Nat):Int)=PR G L K i j (L.getD (K.getD k 0) []):=by
 unfold PR;rw[←JB];unfold kN Dx;have:=Jj L.length 1 λa=>fS G L K a=i/\Uz G L K a k=j
 rw[Int.one_mul] at this;rw[←this];exact lC λa ha=>by rw[Qz E ha];rfl
theorem SL {z:List Nat}(hz:G z)(hc:G c):PR G L K i j (iM z c)=PR G L K i j z:=by
 unfold PR;have C:=hG.dY hc
 rw[←Vu E _ (λx=>iM x c) (λx hx=>PE hG hx ⟨c,hc,rfl⟩) λx y hx hy e=>by
  have:=congrArg (λw=>iM w (dA c)) e
  simpa only[zL (hG.dY hx) C,zL (hG.dY hy) C] using this]
 refine kE λx hx=>?_
 have hx':=(E.mem x).1 hx;have X:=hG.dY hx';rw[Qu hG E ik hx' hc,←Mc X C,←Wx X.inv (hG.dY hz) C,Qu hG E ik (hG.mul (hG.inv hx') hz) hc]
theorem aaW {z:List Nat}(hz:G z):PR G L K i j z=((kN G L K i j (zD G L K z):Nat):Int):=by
 have hk:=Ho hG E ik hz;rw[Wa E];have hr:=vN E (ik.lt (bB (d:=0) hk));obtain⟨c,hc,e⟩:=(Qy hG E ik hr hz).1 (Yn hG E ik hk);generalize zD G L K z=k at*;rw[←e,SL hG E ik hr hc]
theorem aaB (f:Nat->Int):sm K.length (λk=>f k*((Ew G L K k:Nat):Int))=gs L λz=>f (zD G L K z):=by
 rw[lC (g:=λk=>gs L λz=>f k*if zD G L K z=k then 1 else 0) λk hk=>by rw[Zj hG E ik hk,Xa],←WA];refine kE λz hz=>?_
 have hz':=(E.mem z).1 hz;rw[aaF (Ho hG E ik hz') (f:=λk=>f k*if zD G L K z=k then 1 else 0) λk _ hne=>by rw[if_neg (λe=>hne e.symm),Int.mul_zero],if_pos rfl,Int.mul_one]
theorem QG {a:Nat}(hi:i<K.length)(ha:a<K.length):sm K.length (λk=>((kN G L K i a k:Nat):Int)*((Ew G L K k:Nat):Int))=((Ew G L K i:Nat):Int)*((Ew G L K a:Nat):Int):=by
 rw[aaB hG E ik (λk=>((kN G L K i a k:Nat):Int)),kE (g:=λz=>PR G L K i a z) λz hz=>(aaW hG E ik ((E.mem z).1 hz)).symm];unfold PR;rw[BM,Zj hG E ik hi,Zj hG E ik ha,Int.mul_comm,←Xa];refine kE λx hx=>?_
 have hx':=(E.mem x).1 hx;have X:=hG.dY hx'
 by_cases h:zD G L K x=i
 ·rw[if_pos h,Int.mul_one,←Vu E (λw=>if zD G L K w=a then 1 else 0) (λz=>aU (dA x) z) (λz hz=>hG.mul (hG.inv hx') hz) λy z hy hz e=>by
   exact qC (hG.dY hy) (hG.dY hz) X.inv e]
  refine kE λz _=>?_
  by_cases h2:zD G L K (aU (dA x) z)=a
  ·rw[if_pos ⟨h,h2⟩,if_pos h2]
  ·rw[if_neg (λe=>h2 e.2),if_neg h2]
 ·rw[if_neg h,Int.mul_zero,kE (g:=λ_=>0) λz _=>by rw[if_neg (λe=>h e.1)],Jt]
end
end
theorem Ha {r i k:Nat}(hk:k<r):(pN r i).getD k 0=if k=i then 1 else 0:=by
 unfold pN;rw[List.getD_eq_getElem?_getD,List.getElem?_map,List.getElem?_range hk];rfl
theorem ZW {n:Nat}{x:List Nat}(X:bF n x):zp n x (-1)=dA x:=by
 have o0:=rY X
 have e:zp n x (-1)=pw n x (fN x n- 1):=aaZ X (by
  rw[show ((fN x n- 1:Nat):Int)= -1+(fN x n:Nat)*1 by omega,Int.add_mul_emod_self_left])
 rw[e];refine Cx (jR X _) X.inv X ?_;rw[fM X];have:aU (pw n x (fN x n- 1)) x=pw n x (fN x n- 1+1):=rfl;rw[this,Nat.sub_add_cancel o0,(pQ X _).1 (Nat.dvd_refl _)]
section
variable {n:Nat} {G:List Nat->Prop} {L:LN} {K:List Nat} (hG:sZ n G) (E:fL G L) (ik:Dh n G L K)
include E in
theorem VZ (x y:List Int)(k:Nat):Uy G L K x y k=gs L λw=>x.getD (zD G L K w) 0*y.getD (zD G L K (aU (dA w) (L.getD (K.getD k 0) []))) 0:=by
 unfold Uy;rw[←JB];exact lC λa ha=>by rw[Qz E ha];rfl
include hG E ik
theorem Zp:L.getD (K.getD 0 0) []=bI n:=by
 rw[(Cc hG E ik).2];exact (Db hG E).2
theorem HT {y:List Nat}(hy:G y):zD G L K y=0↔y=bI n:=DL hG E ik hy
theorem MT {x:List Nat}(hx:G x):zD G L K (dA x)=PW G L K (zD G L K x):=by
 have hk:=Ho hG E ik hx;have hr:=vN E (ik.lt (bB (d:=0) hk));obtain⟨c,hc,e⟩:=(Qy hG E ik hr hx).1 (Yn hG E ik hk);show _=zD G L K (dA (L.getD (K.getD (zD G L K x) 0) []));generalize zD G L K x=k at*;rw[←e,←Mc (hG.dY hr) (hG.dY hc),Qu hG E ik (hG.inv hr) hc]
theorem YE {i:Nat}(hi:i<K.length):Qq n G L K (-1) (K.getD i 0)=PW G L K i:=by
 have h:=ik.lt (bB (d:=0) hi);rw[VW];unfold PW;rw[ZW (kP hG E h)]
theorem IU {i a:Nat}(hi:i<K.length):((kN G L K i a 0:Nat):Int)=if a=PW G L K i then ((Ew G L K i:Nat):Int) else 0:=by
 rw[Wa E,Zp hG E ik];unfold PR
 by_cases h:a=PW G L K i
 ·rw[if_pos h,Zj hG E ik hi]
  refine kE λx hx=>?_
  have hx':=(E.mem x).1 hx;rw[bU (hG.dY hx').inv,MT hG E ik hx']
  by_cases e:zD G L K x=i
  ·rw[if_pos ⟨e,by rw[e,h]⟩,if_pos e]
  ·rw[if_neg (λh=>e h.1),if_neg e]
 ·rw[if_neg h,kE (g:=λ_=>0) λx hx=>?_,Jt]
  have hx':=(E.mem x).1 hx;rw[bU (hG.dY hx').inv,MT hG E ik hx'];rw[if_neg];rintro⟨e1,e2⟩;rw[e1] at e2;exact h e2.symm
theorem XJ {i:Nat}(hi:i<K.length):(List.range K.length).map (Uy G L K (pN K.length i) (pN K.length 0))=pN K.length i:=by
 unfold pN;refine List.map_congr_left λk hk=>?_
 have hk:=Kw.1 hk;have hzk:=vN E (ik.lt (bB (d:=0) hk));have Zk:=hG.dY hzk;have:=VZ (K:=K) E (pN K.length i) (pN K.length 0) k;unfold pN at this;rw[this];rw[kE (g:=λw=>if w=L.getD (K.getD k 0) [] then (if k=i then 1 else 0) else 0) λw hw=>?_,ZS _ _ E.nodup ((E.mem _).2 hzk)];have hw':=(E.mem w).1 hw;have W:=hG.dY hw';have hq:=hG.mul (hG.inv hw') hzk;have a1:=Ha (i:=i) (Ho hG E ik hw');have a2:=Ha (i:=0) (Ho hG E ik hq);unfold pN at a1 a2;rw[a1,a2]
 by_cases e:w=L.getD (K.getD k 0) []
 ·rw[if_pos e]
  have:aU (dA w) (L.getD (K.getD k 0) [])=bI n:=by rw[←e,fM W]
  rw[this,if_pos ((HT hG E ik hG.one).2 rfl),Int.mul_one,e,Yn hG E ik hk]
 ·rw[if_neg e]
  have: ¬zD G L K (aU (dA w) (L.getD (K.getD k 0) []))=0:=λh=>e (by
   have h2:=(HT hG E ik hq).1 h;refine qC W Zk W.inv ?_
   rw[fM W,h2])
  rw[if_neg this,Int.mul_zero]
theorem UP {i j:Nat}(hi:i<K.length)(hj:j<K.length):(Ao G L K [i,j]).getD 0 0=((kN G L K i j 0:Nat):Int):=by
 have hK:=(Cc hG E ik).1;show ((List.range K.length).map (Uy G L K (pN K.length j) ((List.range K.length).map (Uy G L K (pN K.length i) (pN K.length 0))))).getD 0 0=_;rw[XJ hG E ik hi,List.getD_eq_getElem?_getD,List.getElem?_map,List.getElem?_range hK];show Uy G L K (pN K.length j) (pN K.length i) 0=_;rw[VZ E,Wa E,Zp hG E ik];unfold PR
 rw[←Vu E (λx=>if zD G L K x=i/\zD G L K (aU (dA x) (bI n))=j then 1 else 0) dA (λx hx=>hG.inv hx) λx y hx hy e=>by
  have:=congrArg dA e
  rwa [Cf (hG.dY hx),Cf (hG.dY hy)] at this]
 refine kE λx hx=>?_
 have hx':=(E.mem x).1 hx;have X:=hG.dY hx';rw[bU X.inv,bU X.inv.inv,Cf X,Ha (Ho hG E ik hx'),Ha (Ho hG E ik (hG.inv hx'))]
 by_cases h1:zD G L K x=j
 ·by_cases h2:zD G L K (dA x)=i
  ·rw[if_pos h1,if_pos h2,if_pos ⟨h2,h1⟩];rfl
  ·rw[if_pos h1,if_neg h2,if_neg (λh=>h2 h.1)];rfl
 ·rw[if_neg h1,Int.zero_mul,if_neg (λh=>h1 h.2)]
end
section
variable {n:Nat} {G:List Nat->Prop} {L:LN} {K:List Nat}
theorem AV {h:H}{v:V}{f:Nat->Nat}(s:SV h v 1 (rc n λk=> aB (f k:Nat))):dN v=some (aB n)/\ ∃id off,Sl v 1 n id off/\ ∀k,k<n->id<h.next/\h.cell id (off+k)=some (aB (f k:Nat)):=by
 have hl:(rc n λk=>aB (f k:Nat)).length=n:=dG n _;refine⟨by unfold dN;rw[SV.len s (n:=n) (by omega) (by omega)];rfl,?_⟩;obtain⟨id,off,sh,hid,hc⟩:=SV.shape s n (by omega) (by omega);exact⟨id,off,sh,λk hk=>⟨hid (by omega),by rw[hc k (by omega),sK hk]⟩⟩
theorem aaT {n:Nat}(k:Nat):Ew G L K k<=L.length:=by
 unfold Ew iN;exact Nat.le_trans (List.length_filter_le _ _) (by rw[List.length_range];exact iP _)
theorem KF (i:Nat):(Pc G L K i).length=K.length:=by unfold Pc;simp
theorem PY (i:Nat){a:Nat}(ha:a<K.length):(Pc G L K i).getD a []=zi ((List.range K.length).map (kN G L K i a)):=by
 unfold Pc;rw[List.getD_eq_getElem?_getD,List.getElem?_map,List.getElem?_range ha];rfl
theorem PT {h:H}{v:V}{f:Nat->Nat}(s:SI h v (zi ((List.range n).map f))):dN v=some (aB n)/\ ∃id off,Sl v 1 n id off/\ ∀k,k<n->id<h.next/\h.cell id (off+k)=some (aB (f k:Nat)):=by
 refine AV (f:=f) ?_;have e:(rc n λk=>aB (f k:Nat))=ints (zi ((List.range n).map f)):=by simp [rc,ints,zi,Function.comp_def]
 rw[e];exact s
theorem aaJ (h:H)(x y:Int):tC h 1 [aB 0] 2 [(0,1,aB x),(1,1,aB y)]=some (.sl h.next 0 2 (.kn 2),h.new (.cells false (ints [x,y]))):=by
 have e:dW [aB 0] 2= [aB 0,aB 0]:=rfl;simp [tC,jL,e,putAt,V.cells,ints,V.one]
theorem VF (u:V)(l:List Int)(i0 j0:Int)(h:H)(hu:SI h u l)(hl:(l.length:Int)<=2^63- 1):
  Ev T 9 [u,aB i0,aB j0] h (λv h'=>v= .bool true/\Fr h h'):=by
 refine bN lZ rfl rfl ?_
 simp(disch:=omega)only[go_sem,lZ,aE]
 refine (HN h).mono ?_
 rintro _ h1 ⟨rfl,f1⟩
 have lu:=hu.lens
 have dT:decide True=true:=rfl
 have d0:decide ((0:Int)≠0)=false:=rfl
 by_cases h60:(60:Int)<(l.length:Int)
 case pos=>
  have d1:decide ((60:Int)<(l.length:Int))=true:=decide_eq_true h60;simp(disch:=omega)only[go_sem,lu,d1];exact f1
 have d1:decide ((60:Int)<(l.length:Int))=false:=decide_eq_false h60
 simp(disch:=omega)only[go_sem,lu,d1]
 refine (HK u l h1 (hu.mono f1) (by omega)).mono ?_
 rintro vc h2 ⟨n,S,O,R,hn1,hn5,hS,gc,f2⟩
 obtain⟨E,hLl⟩:=iT gc.nC gc.isc
 have ll5:=mN gc
 obtain⟨L,hL⟩:=exI (dC O R n 0 (bI n))
 rw[hL] at E hLl
 have hG:=gc.nC
 obtain⟨u1,w1,rfl,a1,b1,_,_⟩:=gc.sl
 obtain⟨C,hC⟩:=exI h2.next
 obtain⟨h3,e3,n3,g3,o3,f3⟩:=iX hC [aB 0,.aC,.aC]
 obtain⟨h4,e4,n4,g4,o4⟩:=Fq h3 C [aB n,u1,w1]
 have F24:Fr h2 h4:=⟨by omega,λid hid=>by rw[o4 id (by omega),o3 id (by omega)]⟩
 have gc4:=gc.mono F24
 have rC: ∀hh,Fr h4 hh->hh.row C 0 3=some [aB n,u1,w1]:=λhh f=>bZ (by rw[f.get _ (by omega)];exact g4)
 have F04:=(f1.trans f2).trans F24
 simp(disch:=omega)only[go_sem,hC,e3,nZ h3 C 0 (v:= aB n) (u:=u1) (w:=w1) rfl a1 b1,g3,jW,e4,rC h4 (Fr.refl _)]
 refine (Tz _ n O R _ h4 gc4 L hL).mono ?_
 rintro _ h5 ⟨v5,K,ks,rfl,ik,sC,al,f5⟩
 simp(disch:=omega)only[go_sem,rC h5 f5]
 refine (UW _ (-1) n O R _ h5 (gc4.mono f5) L (by omega) hL).mono ?_
 rintro _ h6 ⟨K',v7,ik',rfl,s7,f6⟩
 obtain rfl:=ik'.uniq ik
 have F6:=f5.trans f6
 have kl:K'.length<=5040:=Nat.le_trans (by rw[ik.perm.length_eq];exact rG _) (by omega)
 obtain⟨k0,_⟩:=Cc hG E ik
 obtain⟨lvC,eC,idC,offC,shC,cC⟩:=pP (by omega) sC al
 obtain⟨lvP,idP,offP,shP,cP⟩:=AV s7
 obtain⟨r,hr⟩:=exI K'.length
 rw[hr] at lvC shC cC lvP shP cP k0 kl
 have d2:decide ((r:Int)<1)=false:=iZ (by omega)
 have d3:decide ((r:Int)≠(r:Int))=false:=decide_eq_false (by simp)
 simp(disch:=omega)only[go_sem,lvC,lvP,d0,d2,d3]
 refine (Pu i0 (r:Int) h6 (by omega) (by omega)).mono ?_
 rintro _ hx ⟨rfl,e⟩
 obtain rfl:=e.symm
 simp(disch:=omega)only[go_sem]
 refine (Pu j0 (r:Int) h6 (by omega) (by omega)).mono ?_
 rintro _ hx ⟨rfl,e⟩
 obtain rfl:=e.symm
 obtain⟨i,hi,ir⟩: ∃i:Nat,i0%(r:Int)=(i:Int)/\i<r:=⟨(i0%(r:Int)).toNat,by have:=Int.emod_nonneg i0 (b:=(r:Int)) (by omega);omega,by have:=Int.emod_nonneg i0 (b:=(r:Int)) (by omega);have:=Int.emod_lt_of_pos i0 (b:=(r:Int)) (by omega);omega⟩
 obtain⟨j,hj,jr⟩: ∃j:Nat,j0%(r:Int)=(j:Int)/\j<r:=⟨(j0%(r:Int)).toNat,by have:=Int.emod_nonneg j0 (b:=(r:Int)) (by omega);omega,by have:=Int.emod_nonneg j0 (b:=(r:Int)) (by omega);have:=Int.emod_lt_of_pos j0 (b:=(r:Int)) (by omega);omega⟩
 rw[hi,hj]
 simp(disch:=omega)only[go_sem,rC h6 F6]
 refine (Su _ (i:Int) n O R _ h6 (gc4.mono F6) L hL).mono ?_
 rintro w h7 ⟨K2,ik2,f7,hw⟩
 obtain rfl:=ik2.uniq ik
 rw[hr] at hw
 have F7:=F6.trans f7
 rcases hw with ⟨k64,rfl⟩|⟨k64,hw⟩
 ·have d4:decide ((64:Int)<(r:Int))=true:=mL (by omega)
  simp(disch:=omega)only[go_sem,d4]
  exact⟨rfl,F04.trans F7⟩
 have d4:decide ((64:Int)<(r:Int))=false:=iZ (by omega)
 obtain⟨vm,rfl,sM⟩: ∃vm,w=V.tup [vm,aB 0]/\SR h7 vm (Pc (dS n (· ∈S)) L K2 i):=by
  rcases hw with ⟨h1,_⟩|⟨i',vm,e,_,rfl,s⟩
  ·omega
  ·obtain rfl:i'=i:=by omega
   exact⟨vm,rfl,s⟩
 clear hw
 obtain⟨lvM,eM,_,_,idM,offM,ws,shM,cM⟩:=srO sM
 rw[KF,hr] at lvM shM cM
 have cM': ∀a,a<r->idM<h7.next/\h7.cell idM (offM+a)=some (ws.getD a V.undef)/\dN (ws.getD a V.undef)=some (aB r)/\ ∃id off,Sl (ws.getD a V.undef) 1 r id off/\ ∀k,k<r->id<h7.next/\h7.cell id (off+k)=some (aB ((kN (dS n (· ∈S)) L K2 i a k:Nat):Int)):=by
  intro a ha;obtain⟨c1,c2,c3⟩:=cM a ha;rw[PY i (by omega),hr] at c3;exact⟨c1,c2,PT c3⟩
 clear cM
 simp(disch:=omega)only[go_sem,lvM,d0,d3,d4]
 have L7:L.length<=5040:=by omega
 have cB: ∀a k,kN (dS n (· ∈S)) L K2 i a k<=5040:=λa k=>Nat.le_trans (RK ..) L7
 have zB: ∀k,Ew (dS n (· ∈S)) L K2 k<=5040:=λk=>Nat.le_trans (aaT (n:=n) k) L7
 have zI:=cC i ir
 obtain⟨zi1,_,_,zi2,_,_⟩:=zI
 refine cI (λvs hh=>(∃g:Nat->V,vs= [g 0,aB i,aB j,g 3,.ptr C 0,g 5,g 6,g 7,g 8,g 9,vm,g 11,g 12,g 13,g 14,g 15,g 16,g 17,g 18,g 19,g 20,g 21,g 22,g 23,g 24,g 25,g 26,g 27])/\Fr h7 hh) ?_ ?_
 ·refine aI (λk' vars hh=> ∃(a:Nat),(∃g:Nat->V,vars= [g 0,aB i,aB j,g 3,.ptr C 0,v5,g 6,v7,g 8,aB r,vm,g 11,aB a,g 13,g 14,g 15,g 16,g 17,g 18,g 19,g 20,g 21,g 22,g 23,g 24,g 25,g 26,g 27])/\a<=r/\Fr h7 hh/\k'=r-a) r
   ⟨0,aA rfl,lL _,Fr.refl h7,rfl⟩ ?_
  rintro k' vars h8 ⟨a,⟨g,rfl⟩,ha,f8,rfl⟩
  by_cases hlt:(a:Int)<(r:Int)
  case neg=>
   have e1:=iZ hlt;simp(disch:=omega)only[go_sem,e1];exact⟨aA rfl,f8⟩
  have e1:=mL hlt
  have har:a<r:=by omega
  obtain⟨m1,m2,m3,idR,offR,shR,cR⟩:=cM' a har
  have x2: ∀hh,Fr h7 hh->hh.cell idM (offM+a)=some (ws.getD a V.undef):=λhh f=>by rw[f.cell m1];exact m2
  obtain⟨za1,_,_,za2,_,_⟩:=cC a har
  simp(disch:=omega)only[go_sem,e1,shM.ixa,x2 h8 f8,m3,d3]
  refine cI (λvs hh=>(∃g:Nat->V,vs= [g 0,aB i,aB j,g 3,.ptr C 0,v5,g 6,v7,g 8,aB r,vm,g 11,aB a,aB (((Ew (dS n (· ∈S)) L K2 i:Nat):Int)*((Ew (dS n (· ∈S)) L K2 a:Nat):Int)),g 14,g 15,g 16,g 17,g 18,g 19,g 20,g 21,g 22,g 23,g 24,g 25,g 26,g 27])/\Fr h7 hh) ?_ ?_
  ·refine aI (λk' vars hh=> ∃(k:Nat),(∃g:Nat->V,vars= [g 0,aB i,aB j,g 3,.ptr C 0,v5,g 6,v7,g 8,aB r,vm,g 11,aB a,aB (sm k λk=>((kN (dS n (· ∈S)) L K2 i a k:Nat):Int)*((Ew (dS n (· ∈S)) L K2 k:Nat):Int)),aB k,g 15,g 16,g 17,g 18,g 19,g 20,g 21,g 22,g 23,g 24,g 25,g 26,g 27])/\k<=r/\Fr h7 hh/\k'=r-k) r
    ⟨0,aA rfl,lL _,f8,rfl⟩ ?_
   rintro k' vars h9 ⟨k,⟨g',rfl⟩,hk,f9,rfl⟩
   by_cases hlk:(k:Int)<(r:Int)
   case neg=>
    have e2:decide ((k:Int)<(r:Int))=false:=decide_eq_false hlk;obtain rfl:k=r:=by omega
    have:=QG hG E ik2 (i:=i) (a:=a) (by omega) (by omega);rw[hr] at this;rw[this];simp(disch:=omega)only[go_sem,e2];exact⟨aA rfl,f9⟩
   have e2:decide ((k:Int)<(r:Int))=true:=decide_eq_true hlk
   have hkr:k<r:=by omega
   obtain⟨y1,y2⟩:=cR k hkr
   obtain⟨zk1,_,_,zk2,_,_⟩:=cC k hkr
   have y3:h9.cell idR (offR+k)=some (aB ((kN (dS n (· ∈S)) L K2 i a k:Nat):Int)):=by rw[f9.cell y1];exact y2
   have zk3:h9.cell idC (offC+k*3+2)=some (aB ((Ew (dS n (· ∈S)) L K2 k:Nat):Int)):=by rw[(f6.trans (f7.trans f9)).cell (by have:=f5.next;omega)];exact zk2
   have bS:=He (n:=k) (B:=5040*5040) (f:=λk=>((kN (dS n (· ∈S)) L K2 i a k:Nat):Int)*((Ew (dS n (· ∈S)) L K2 k:Nat):Int)) (λq _=>rH ⟨by omega,Int.ofNat_le.2 (cB a q)⟩ ⟨by omega,Int.ofNat_le.2 (zB q)⟩)
   have bT:=rH (X:=5040) (Y:=5040) (x:=((kN (dS n (· ∈S)) L K2 i a k:Nat):Int)) (y:=((Ew (dS n (· ∈S)) L K2 k:Nat):Int)) ⟨by omega,Int.ofNat_le.2 (cB a k)⟩ ⟨by omega,Int.ofNat_le.2 (zB k)⟩
   have bk:k*(5040*5040)<=64*(5040*5040):=Nat.mul_le_mul (by omega) (iP _)
   have es:sm (k+1) (λk=>((kN (dS n (· ∈S)) L K2 i a k:Nat):Int)*((Ew (dS n (· ∈S)) L K2 k:Nat):Int))=sm k (λk=>((kN (dS n (· ∈S)) L K2 i a k:Nat):Int)*((Ew (dS n (· ∈S)) L K2 k:Nat):Int))+((kN (dS n (· ∈S)) L K2 i a k:Nat):Int)*((Ew (dS n (· ∈S)) L K2 k:Nat):Int):=lP _ _
   have xx: ∀n,({h9 with next:=n}:H).cell=h9.cell:=λ_=>rfl
   simp(disch:=omega)only[go_sem,e2,shM.ixa,x2 h9 f9,shR.ixa,y3,shC.ixa,zk3]
   rw[show (k:Int)+1=((k+1:Nat):Int) from by omega,←es]
   exact⟨r-(k+1),by omega,k+1,aA rfl,by omega,f9.bJ (by omega),rfl⟩
  rintro vars h9 ⟨⟨g',rfl⟩,f9⟩
  obtain⟨p1,p2⟩:=cP i ir
  rw[YE hG E ik2 (by omega)] at p2
  have p3:h9.cell idP (offP+i)=some (aB ((PW (dS n (· ∈S)) L K2 i:Nat):Int)):=by rw[(f7.trans f9).cell p1];exact p2
  have zi3:h9.cell idC (offC+i*3+2)=some (aB ((Ew (dS n (· ∈S)) L K2 i:Nat):Int)):=by rw[(f6.trans (f7.trans f9)).cell (by have:=f5.next;omega)];exact zi2
  have za3:h9.cell idC (offC+a*3+2)=some (aB ((Ew (dS n (· ∈S)) L K2 a:Nat):Int)):=by rw[(f6.trans (f7.trans f9)).cell (by have:=f5.next;omega)];exact za2
  obtain⟨y1,y2⟩:=cR 0 k0
  have cz:=IU hG E ik2 (i:=i) (a:=a) (by omega)
  have y3:h9.cell idR offR=some (aB ((kN (dS n (· ∈S)) L K2 i a 0:Nat):Int)):=by rw[f9.cell y1];exact y2
  rw[cz] at y3
  have bT:=rH (X:=5040) (Y:=5040) (x:=((Ew (dS n (· ∈S)) L K2 i:Nat):Int)) (y:=((Ew (dS n (· ∈S)) L K2 a:Nat):Int)) ⟨by omega,Int.ofNat_le.2 (zB i)⟩ ⟨by omega,Int.ofNat_le.2 (zB a)⟩
  obtain⟨t,ht⟩: ∃t:Int,((Ew (dS n (· ∈S)) L K2 i:Nat):Int)*((Ew (dS n (· ∈S)) L K2 a:Nat):Int)=t:=⟨_,rfl⟩
  rw[ht] at bT ⊢
  have dt:decide (t≠t)=false:=decide_eq_false (by simp)
  have s0:=shR.ixa
  by_cases hai:a=PW (dS n (· ∈S)) L K2 i
  ·rw[if_pos hai] at y3
   have e3:decide ((a:Int)=((PW (dS n (· ∈S)) L K2 i:Nat):Int))=true:=mL (by omega)
   have e4:decide (((Ew (dS n (· ∈S)) L K2 i:Nat):Int)≠((Ew (dS n (· ∈S)) L K2 i:Nat):Int))=false:=decide_eq_false (by simp)
   simp(disch:=omega)only[go_sem,shP.ixa,p3,e3,shC.ixa,zi3,za3,ht,dt,shM.ixa,x2 h9 f9,shR.ixa,y3,e4]
   rw[jJ a]
   exact⟨r-(a+1),by omega,a+1,aA rfl,by omega,f9.bJ (by omega),rfl⟩
  ·rw[if_neg hai] at y3
   have e3:decide ((a:Int)=((PW (dS n (· ∈S)) L K2 i:Nat):Int))=false:=iZ (by omega)
   simp(disch:=omega)only[go_sem,shP.ixa,p3,e3,shC.ixa,zi3,za3,ht,dt,shM.ixa,x2 h9 f9,shR.ixa,y3,d0]
   rw[jJ a]
   exact⟨r-(a+1),by omega,a+1,aA rfl,by omega,f9.bJ (by omega),rfl⟩
 rintro vars h8 ⟨⟨g,rfl⟩,f8⟩
 have F8:=F7.trans f8
 obtain⟨h9,e9,n9,s9,f9⟩:=VM (h:=h8) rfl [(i:Int),(j:Int)]
 simp(disch:=omega)only[go_sem,rC h8 F8,aaJ,e9]
 refine (IH _ _ [(i:Int),(j:Int)] n O R _ h9 (by simp) s9 (gc4.mono (F8.trans f9)) L hL).mono ?_
 rintro w2 h10 ⟨K3,ik3,f10,hv⟩
 obtain rfl:=ik3.uniq ik
 obtain rfl:w2=V.tup [aB ((kN (dS n (· ∈S)) L K3 i j 0:Nat):Int),aB 0]:=by
  rcases hv with ⟨h1,_⟩|⟨_,⟨h1,_⟩|⟨_,⟨⟨x,hx,h1⟩,_⟩|⟨l',e,_,rfl⟩⟩⟩
  ·omega
  ·simp at h1
  ·simp only[List.mem_cons,List.not_mem_nil,or_false] at hx
   omega
  ·have el:l'= [i,j]:=Wn (e.symm.trans rfl)
   rw[el,UP hG E ik3 (by omega) (by omega)]
 clear hv
 obtain⟨m1,m2,m3,idR,offR,shR,cR⟩:=cM' j jr
 obtain⟨y1,y2⟩:=cR 0 k0
 have F10:=f8.trans (f9.trans f10)
 have x2:h10.cell idM (offM+j)=some (ws.getD j V.undef):=by rw[F10.cell m1];exact m2
 have y3:h10.cell idR offR=some (aB ((kN (dS n (· ∈S)) L K3 i j 0:Nat):Int)):=by rw[F10.cell y1];exact y2
 simp(disch:=omega)only[go_sem,shM.ixa,x2,shR.ixa,y3,dT]
 exact F04.trans (F7.trans F10)
end
end Go.Proofs.YtapfcpkecmmagaaGreat
