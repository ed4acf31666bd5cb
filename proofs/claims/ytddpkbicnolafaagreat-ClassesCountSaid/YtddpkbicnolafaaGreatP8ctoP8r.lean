/- Texts of the claim. -/
import Derived.Test.YtddpkbicnolafaaGreatSc5toP8b
import Derived.Test.YtddpkbicnolafaaGreatDp2toP4a
import Derived.Test.YtddpkbicnolafaaGreatP5otoSc4
set_option maxHeartbeats 64000000
namespace Go.Proofs.YtddpkbicnolafaaGreat
open Go Go.Ay Go.Pm
set_option maxRecDepth 100000
structure CJ (b:Nat)(W:Nat->Prop)(h hh:H)(n:Nat)(tv:V)(ρ:Nat->Nat)(L:List Nat->Prop)(t0:uS)(vl:V)(l:LN)(t:uS):Prop where
 ex: ∃W' F wl,Nm b W' hh n tv ρ F t/\eJ hh vl 1 wl h.next/\gI W' hh wl l/\Lf W' vl/\ ∀id,id<h.next->W' id->W id
 fx:Fx W h hh
 cls:Hs n L t l
 sub:Sub t0 t
theorem ahM {n:Nat}{t:uS}{x:List Nat}{L:List Nat->Prop}{l:LN}(c:Hs n L t l)(T':rK n (kB t n x))(h:(fQ n t 0).length<(fQ n (kB t n x) 0).length):0<(frF n (kB t n x) l).length:=by
 refine List.length_pos_iff.2 λe=>?_
 unfold frF at e
 rw[List.filter_eq_nil_iff] at e
 have:(fQ n (kB t n x) 0).length<=(fQ n t 0).length:=List.Nodup.length_le_of_subset (Cc T') λy hy=>by
  have:=e y hy
  simp at this
  exact (c.mem y).1 this
 omega
theorem RF (n:Nat)(t:uS)(hn:n<=64):(fQ n t 0).length<=4096:=by
 rw[←CK]
 have:=CZ n t n
 have:=Nat.mul_le_mul hn hn
 omega
theorem adQ {n:Nat}{t:uS}{l m:LN}{a c:Nat}(ha:a<l.length)(hc:c<l.length):Pr n t (l++m) a c↔Pr n t l a c:=by
 have e: ∀k,k<l.length->(l++m).getD k []=l.getD k []:=λk hk=>by rw[List.getD,List.getD,Se hk]
 unfold Pr
 rw[e a ha,e c hc]
theorem aaJ (b:Nat)(W:Nat->Prop)(h:H)(n:Nat)(tv:V)(ρ:Nat->Nat)(F:Nat->Nat->V)(t:uS)(L:List Nat->Prop)(hn:n<=7)(h0:0<n)(hb:b<=h.next)(R:Nm b W h n tv ρ F t)(hL: ∀g,L g->bM n g)(tl:Tv n L t):
  Ev T Hn [tv] h (λ_ h'=> ∃W' F' t',Nm b W' h' n tv ρ F' t'/\Tv n L t'/\Sub t t'/\Nr n t'/\Fx W h h'/\ ∀id,id<h.next->W' id->W id):=by
 have hnn:n^n<=823543:=by
  have: ∀n,n<=7->n^n<=823543:=by decide
  exact this n hn
 refine aX Il rfl ?_
 simp (disch:=omega) only[go_sem,kM,aF]
 refine (Bm b W h n tv ρ F t (by omega) h0 R tl.Rh).mono ?_
 rintro vl h1 ⟨wl,ow,pvs,f1⟩
 simp (disch:=omega) only[go_sem]
 refine aJ (λk' vars hh=> ∃(i:Nat) (vl:V) (l:LN) (t':uS),(∃g:Nat->V,vars= [tv,vl,aB i,g 3,g 4,g 5,g 6,g 7,g 8,g 9,g 10,g 11])/\CJ b W h hh n tv ρ L t vl l t'/\i<=l.length/\(∀a c,a<i->c<i->Pr n t' l a c)/\k'=1000000-i) 1000000
  ⟨0,vl,fQ n t 0,t,aA rfl,⟨⟨λid=>W id∨ ∃off m c,vl= .sl id off m c,F,wl,?_,ow,?_,λid off m c e=> .inr ⟨_,_,_,e⟩,λid hid hw=>?_⟩,Fx.of f1,Hs.start tl,Sub.refl t⟩,lI _,λa c ha=>by omega,rfl⟩ ?_
 ·refine R.go (Fx.of f1) (λi hi=>f1.get _ (R.Uw _ (R.wb i hi))) (λid hid hw=>?_) (λid hw=> .inl hw) (λid hw=>?_) (λid hw=>?_)
  ·rcases hw with hw|⟨off,m,c,e⟩
   ·exact hw
   ·have:=(ow.in _ _ _ _ e).2.1;omega
  ·rcases hw with hw|⟨off,m,c,e⟩
   ·exact mO (R.Uw id hw) f1.next
   ·exact (ow.in _ _ _ _ e).1
  ·rcases hw with hw|⟨off,m,c,e⟩
   ·exact R.low id hw
   ·have:=(ow.in _ _ _ _ e).2.1;omega
 ·refine gI.go pvs (Fx.of f1) λid hid hw=>?_
  rcases hw with hw|⟨off,m,c,e⟩
  ·exact hw
  ·have:=(ow.in _ _ _ _ e).2.1;omega
 ·rcases hw with hw|⟨off,m,c,e⟩
  ·exact hw
  ·have:=(ow.in _ _ _ _ e).2.1;omega
 clear ow pvs f1 vl wl h1
 rintro k' vars h1 ⟨i,vl,l,t1,⟨g,rfl⟩,J,hi,hP,rfl⟩
 have lb:=J.cls.bound
 have lvl:dN vl=some (aB (l.length:Int)):=by
  obtain⟨⟨W',F',wl,_,ow,pvs,_⟩,_⟩:=J
  exact (gI.open ow.sv pvs).1
 by_cases hlt:(i:Int)<(l.length:Int)
 case neg=>
  have e1:=eX hlt
  obtain rfl:i=l.length:=by omega
  simp (disch:=omega) only[go_sem,lvl,e1]
  obtain⟨⟨W',F',wl,R',_,_,_,hW⟩,fx,cls,sub⟩:=J
  exact⟨W',F',t1,R',cls.tl,sub,cls.closed hP,fx,hW⟩
 have e1:=jZ hlt
 have hil:i<l.length:=by omega
 simp (disch:=omega) only[go_sem,lvl,e1]
 refine Aa (λvs hh=> ∃(vl:V) (l:LN) (t':uS),(∃g:Nat->V,vs= [tv,vl,aB i,g 3,g 4,g 5,g 6,g 7,g 8,g 9,g 10,g 11])/\CJ b W h hh n tv ρ L t vl l t'/\i<l.length/\ ∀a c,a<i+1->c<i+1->Pr n t' l a c) ?_ ?_
 ·refine aJ (λk' vars hh=> ∃(k:Nat) (vl:V) (l:LN) (t':uS),(∃g:Nat->V,vars= [tv,vl,aB i,aB k,g 4,g 5,g 6,g 7,g 8,g 9,g 10,g 11])/\k<=i+1/\CJ b W h hh n tv ρ L t vl l t'/\i<l.length/\(∀a c,a<i->c<i->Pr n t' l a c)/\(∀c,c<k->Pr n t' l i c/\Pr n t' l c i)/\k'=i+1-k) (i+1)
   ⟨0,vl,l,t1,aA rfl,lI _,J,hil,hP,λc hc=>by omega,rfl⟩ ?_
  clear J hi hP lb lvl hlt e1 hil vl l t1 g
  rintro k' vars h2 ⟨k,vl,l,t1,⟨g,rfl⟩,hk,J,hil,hP,hQ,rfl⟩
  by_cases hlt:(k:Int)<=(i:Int)
  case neg=>
   have e1:=eX hlt
   obtain rfl:k=i+1:=by omega
   simp (disch:=omega) only[go_sem,e1]
   refine⟨vl,l,t1,aA rfl,J,hil,λa c ha hc=>?_⟩
   by_cases ea:a=i
   ·subst ea;exact (hQ c hc).1
   ·by_cases ec:c=i
    ·subst ec;exact (hQ a ha).2
    ·exact hP a c (by omega) (by omega)
  have e1:=jZ hlt
  have hki:k<=i:=by omega
  simp (disch:=omega) only[go_sem,e1]
  refine Aa (λvs hh=> ∃(vl:V) (l:LN) (t':uS),(∃g:Nat->V,vs= [tv,vl,aB i,aB k,g 4,g 5,g 6,g 7,g 8,g 9,g 10,g 11])/\CJ b W h hh n tv ρ L t vl l t'/\i<l.length/\(∀a c,a<i->c<i->Pr n t' l a c)/\ ∀c,c<k+1->Pr n t' l i c/\Pr n t' l c i) ?_ ?_
  ·refine aJ (λk' vars hh=> ∃(q:Nat) (vl:V) (l:LN) (t':uS),(∃g:Nat->V,vars= [tv,vl,aB i,aB k,aB q,g 5,g 6,g 7,g 8,g 9,g 10,g 11])/\q<=2/\CJ b W h hh n tv ρ L t vl l t'/\i<l.length/\(∀a c,a<i->c<i->Pr n t' l a c)/\(∀c,c<k->Pr n t' l i c/\Pr n t' l c i)/\(0<q->Pr n t' l i k)/\(1<q->Pr n t' l k i)/\k'=2-q) 2
    ⟨0,vl,l,t1,aA rfl,by omega,J,hil,hP,hQ,λh=>by omega,λh=>by omega,rfl⟩ ?_
   clear J hP hQ hlt e1 hil vl l t1 g
   rintro k' vars h3 ⟨q,vl,l,t1,⟨g,rfl⟩,hq,J,hil,hP,hQ,hA,hB,rfl⟩
   by_cases hlt:(q:Int)<2
   case neg=>
    have e1:=eX hlt
    have hq2:q=2:=by omega
    simp (disch:=omega) only[go_sem,e1]
    refine⟨vl,l,t1,aA rfl,J,hil,hP,λc hc=>?_⟩
    by_cases ec:c=k
    ·subst ec;exact⟨hA (by omega),hB (by omega)⟩
    ·exact hQ c (by omega)
   have e1:=jZ hlt
   obtain⟨⟨W',F',wl,R',ow,pvs,bl,hW⟩,fx,cls,sub⟩:=J
   obtain⟨lvl,idl,offl,shl,hcl⟩:=gI.open ow.sv pvs
   have lb:=cls.bound
   obtain⟨i1,c1,p1⟩:=hcl i hil
   obtain⟨_,c2,p2⟩:=hcl k (by omega)
   have ga:=cls.gen _ (bF (d:= []) hil)
   have gc:=cls.gen _ (bF (d:= []) (show k<l.length by omega))
   obtain⟨a,ea⟩: ∃a,l.getD i []=a:=⟨_,rfl⟩
   obtain⟨c,ec⟩: ∃c,l.getD k []=c:=⟨_,rfl⟩
   rw[ea] at p1 ga
   rw[ec] at p2 gc
   have A:=ga.dV hL
   have C:=gc.dV hL
   generalize wl.getD i .undef=va at c1 p1
   generalize wl.getD k .undef=vc at c2 p2
   have v1:=SV.eQ p1.si
   have v2:=SV.eQ p2.si
   have vv:=SV.eQ ow.sv
   simp (disch:=omega) only[go_sem,e1,shl.ixa,c1,c2]
   have fb:Fr h3 (H.mk h3.tr (h3.next+10)):=(Fr.refl h3).bG (by omega)
   refine (yR va vc a c _ (by rw[A.len];omega) (p1.si.mono fb) (p2.si.mono fb) (λj hj=>by rw[C.len];exact A.eM (by rw[←A.len];exact hj))).mono ?_
   rintro vx h4 ⟨s4,f4,l4⟩
   have f34:=fb.trans f4
   have c14:h4.cell idl (offl+i)=some va:=by rw[f34.cell i1];exact c1
   have c24:h4.cell idl (offl+k)=some vc:=by rw[f34.cell i1];exact c2
   simp (disch:=omega) only[go_sem,c14,c24,v1,v2]
   have px:PV W' h4 vx (bD a c):=PV.fresh s4 l4 (λid hid=>mO (R'.Uw id hid) fb.next)
   refine nX (λvs hh=> ∃(vx:V) (x:List Nat),(∃g:Nat->V,vs= [tv,vl,aB i,aB k,aB q,vx,g 6,g 7,g 8,g 9,g 10,g 11])/\PV W' hh vx x/\(q=0->x=bD a c)/\(q=1->x=bD c a)/\eH n L x/\Fr h3 hh) ?_ ?_
   ·refine aZ (λhq1=>?_) (λhq1=>?_)
    ·have w1:(1:Int)=(q:Int):=by omega
     simp (disch:=omega) only[go_sem,shl.ixa,c14,c24]
     have fb4:Fr h4 (H.mk h4.tr (h4.next+10)):=(Fr.refl h4).bG (by omega)
     refine (yR vc va c a _ (by rw[C.len];omega) (p2.si.mono (f34.trans fb4)) (p1.si.mono (f34.trans fb4)) (λj hj=>by rw[A.len];exact C.eM (by rw[←C.len];exact hj))).mono ?_
     rintro vy h5 ⟨s5,f5,l5⟩
     have f45:=fb4.trans f5
     have c15:h5.cell idl (offl+i)=some va:=by rw[(f34.trans f45).cell i1];exact c1
     have c25:h5.cell idl (offl+k)=some vc:=by rw[(f34.trans f45).cell i1];exact c2
     simp (disch:=omega) only[go_sem,c15,c25,v1,v2]
     refine .inl ⟨vy,bD c a,aA rfl,PV.fresh s5 l5 (λid hid=>mO (R'.Uw id hid) (f34.trans fb4).next),λe=>by omega,λ_=>rfl,gc.app hL ga,f34.trans f45⟩
    ·simp (disch:=omega) only[go_sem]
     exact .inl ⟨vx,bD a c,aA rfl,px,λ_=>rfl,λe=>by omega,ga.app hL gc,f34⟩
   clear px s4 l4 f34 c14 c24 f4 fb vx h4
   rintro vars h4 ⟨vx,x,⟨g,rfl⟩,px,hx0,hx1,gx,f4⟩
   have R4:=R'.mono f4
   simp (disch:=omega) only[go_sem]
   refine (Bm b W' h4 n tv ρ F' t1 (by omega) h0 R4 cls.tl.Rh).mono ?_
   rintro v5 h5 ⟨w5,o5,pe5,f5⟩
   have l5:dN v5=some (aB ((fQ n t1 0).length:Int)):=(gI.open o5.sv (gI.fx pe5 (Fx.of f5))).1
   have m5:=RF n t1 (by omega)
   simp (disch:=omega) only[go_sem,l5]
   refine (AA b W' h5 n tv ρ F' t1 vx x (by omega) h0 (R4.mono f5) (PV.mono px f5) (gx.dV hL) cls.tl.Rh).mono ?_
   rintro _ h6 ⟨F6,rfl,R6,f6⟩
   obtain⟨cls',sub',hnone,m,hm⟩:=cls.step hL gx
   simp (disch:=omega) only[go_sem]
   refine (Bm b W' h6 n tv ρ F6 _ (by omega) h0 R6 cls'.tl.Rh).mono ?_
   rintro v7 h7 ⟨w7,o7,pe7,f7⟩
   have l7:dN v7=some (aB ((fQ n (kB t1 n x) 0).length:Int)):=(gI.open o7.sv (gI.fx pe7 (Fx.of f7))).1
   have m7:=RF n (kB t1 n x) (by omega)
   have R7:=R6.mono f7
   have f35:=f4.trans f5
   have x37:Fx W' h3 h7:=((Fx.of f35).trans (R4.wbx f6) (λ_ _ h=>h)).trans (Fx.of f7:Fx W' h6 h7) (λ_ _ h=>h)
   have hrow: ∀j,j<n->ρ j<h.next:=λj hj=>R.Uw _ (R.wb j hj)
   have ow7:eJ h7 vl 1 wl h.next:=by
    refine (((ow.fr f35).uB f6.next λid off m c e hid=>f6.get id hid λhw=>?_).fr f7)
    obtain⟨j,hj,rfl⟩:=hw
    have:=(ow.in _ _ _ _ e).2.1
    have:=hrow j hj
    omega
   have pvs7:gI W' h7 wl l:=gI.fx pvs x37
   simp (disch:=omega) only[go_sem,l7]
   have hfin: ∀vl' h',CJ b W h h' n tv ρ L t vl' (l++m) (kB t1 n x)->CJ b W h h' n tv ρ L t vl' (l++m) (kB t1 n x)/\i<(l++m).length/\(∀a c,a<i->c<i->Pr n (kB t1 n x) (l++m) a c)/\(∀c,c<k->Pr n (kB t1 n x) (l++m) i c/\Pr n (kB t1 n x) (l++m) c i)/\(0<q+1->Pr n (kB t1 n x) (l++m) i k)/\(1<q+1->Pr n (kB t1 n x) (l++m) k i):=λvl' h' J=>by
    have hkl:k<l.length:=by omega
    refine⟨J,by rw[qU];omega,λa c h1 h2=>(hP a c h1 h2).mono sub' (by omega) (by omega),λc hc=>⟨(hQ c hc).1.mono sub' hil (by omega),(hQ c hc).2.mono sub' (by omega) hil⟩,λ_=>?_,λ_=>?_⟩
    ·by_cases e0:q=0
     ·rw[adQ hil hkl]
      unfold Pr
      rw[ea,ec,←hx0 e0]
      exact hnone
     ·exact (hA (by omega)).mono sub' hil hkl
    ·have e0:q=1:=by omega
     rw[adQ hkl hil]
     unfold Pr
     rw[ea,ec,←hx1 e0]
     exact hnone
   refine aZ (λhgrow=>?_) (λhgrow=>?_)
   ·have hg:(fQ n t1 0).length<(fQ n (kB t1 n x) 0).length:=by omega
    have em:m=frF n (kB t1 n x) l:=by
     unfold clF at hm
     rw[if_pos hg] at hm
     exact (List.append_cancel_left hm).symm
    have m0:=ahM cls cls'.tl.Rh hg
    rw[←em] at m0
    rw[hm] at cls'
    have lb2:=cls'.bound
    rw[qU] at lb2
    simp (disch:=omega) only[go_sem]
    refine (YG b W' h7 n tv vl wl l ρ F6 _ (by omega) h0 R7 cls'.tl.Rh ow7.sv pvs7 cls.dV (by omega)).mono ?_
    rintro v8 h8 ⟨w8,o8,p8,f8⟩
    rw[←em] at p8
    have lw:=bH.length pvs7
    have lw8:=bH.length p8
    have ow8:=ow7.fr f8
    have R8:=R7.mono f8
    obtain⟨h9,a9,p9⟩:=ow8.push (bytes:=24) o8.sv (n:=l.length) (m:=m.length) (by omega) (by omega) (by omega) m0 ⟨by omega,by omega⟩
    have n9:=p9.next
    have x89:=p9.fx bl
    have hnx:=x37.next
    have f8n:=f8.next
    have hfn:=fx.next
    simp (disch:=omega) only[go_sem,a9]
    rw[gU q]
    have hw9: ∀id,id<h8.next->(W' id∨id=h8.next)->W' id:=λid h1 h2=>by
     rcases h2 with h2|h2
     ·exact h2
     ·omega
    have J':CJ b W h h9 n tv ρ L t (.sl h8.next 0 (l.length+m.length) (.un 1)) (l++m) (kB t1 n x):=by
     refine⟨⟨λid=>W' id∨id=h8.next,F6,wl++w8,?_,p9.own (by omega) (by omega) (by omega),?_,λid off m c e=>by cases e;exact .inr rfl,λid hid hw=>?_⟩,?_,cls',sub.trans sub'⟩
     ·refine R8.go x89 (λj hj=>p9.old _ (by have:=hrow j hj;omega) λid off m c e e2=>by have:=(ow8.in _ _ _ _ e).2.1;have:=hrow j hj;omega) hw9 (λid hw=> .inl hw) (λid hw=>?_) (λid hw=>?_)
      ·rcases hw with hw|hw
       ·have:=R8.Uw id hw;omega
       ·omega
      ·rcases hw with hw|hw
       ·exact R8.low id hw
       ·omega
     ·exact (gI.go (gI.fx pvs7 (Fx.of f8)) x89 hw9).append (gI.go (gI.fx p8 (Fx.of f8)) x89 hw9)
     ·rcases hw with hw|hw
      ·exact hW id hid hw
      ·omega
     ·exact fx.trans ((x37.trans (Fx.of f8:Fx W' h7 h8) (λ_ _ h=>h)).trans x89 (λ_ _ h=>h)) hW
    obtain⟨j1,j2,j3,j4,j5,j6⟩:=hfin _ _ J'
    exact⟨2-(q+1),by omega,q+1,_,_,_,aA rfl,by omega,j1,j2,j3,j4,j5,j6,rfl⟩
   ·have hg: ¬(fQ n t1 0).length<(fQ n (kB t1 n x) 0).length:=by omega
    have em:m= []:=by
     unfold clF at hm
     rw[if_neg hg] at hm
     exact List.append_right_eq_self.1 hm.symm
    simp (disch:=omega) only[go_sem]
    rw[gU q]
    have J':CJ b W h h7 n tv ρ L t vl (l++m) (kB t1 n x):=by
     rw[hm] at cls'
     exact⟨⟨W',F6,wl,R7,ow7,by rw[em,List.append_nil];exact pvs7,bl,hW⟩,fx.trans x37 hW,cls',sub.trans sub'⟩
    obtain⟨j1,j2,j3,j4,j5,j6⟩:=hfin _ _ J'
    exact⟨2-(q+1),by omega,q+1,_,_,_,aA rfl,by omega,j1,j2,j3,j4,j5,j6,rfl⟩
  rintro vars h3 ⟨vl,l,t1,⟨g,rfl⟩,J,hil,hP,hQ⟩
  have lb:=J.cls.bound
  simp (disch:=omega) only[go_sem]
  rw[gU k]
  exact⟨i+1-(k+1),by omega,k+1,vl,l,t1,aA rfl,by omega,J,hil,hP,hQ,rfl⟩
 clear J hi hP lb lvl hlt e1 hil vl l t1 g
 rintro vars h2 ⟨vl,l,t1,⟨g,rfl⟩,J,hil,hP⟩
 have lb:=J.cls.bound
 simp (disch:=omega) only[go_sem]
 rw[gU i]
 exact⟨1000000-(i+1),by omega,i+1,vl,l,t1,aA rfl,J,by omega,hP,rfl⟩
theorem Wt (t:uS)(i k:Nat):(Hf t i k).length<=k:=by
 unfold Hf
 have:=List.length_filter_le (λp=>p==i||(t i p).isSome) (List.range k)
 rwa [List.length_range] at this
theorem JL (b:Nat)(W:Nat->Prop)(h:H)(n:Nat)(tv:V)(ρ:Nat->Nat)(F:Nat->Nat->V)(t:uS)(i:Nat)(hn:n<=64)(h0:0<n)(hi:i<n)(R:Nm b W h n tv ρ F t)(TI:rK n t):
  Ev T Hj [tv,aB i] h (λv h'=>eJ h' v 1 (ints (zi (Hf t i n))) h.next/\Fr h h'):=by
 refine aX Io rfl ?_
 have lv:=R.open.1
 simp (disch:=omega) only[go_sem,kL,aF]
 refine aJ (λk' vars hh=> ∃(p:Nat) (vl:V),(∃g:Nat->V,vars= [tv,aB i,g 2,vl,aB p,g 5,g 6])/\i<=p/\p<=n/\eJ hh vl 1 (ints (zi (Hf t i p))) h.next/\Fr h hh/\k'=n-p) (n-i)
  ⟨i,.aC,aA rfl,iT _,by omega,by rw[NC TI];exact eJ.aC _ _ _,Fr.refl h,rfl⟩ ?_
 rintro k' vars h2 ⟨p,vl,⟨g,rfl⟩,hp1,hp2,ow,f,rfl⟩
 by_cases hlt:(p:Int)<(n:Int)
 case neg=>
  have e1:=eX hlt
  obtain rfl:p=n:=by omega
  simp (disch:=omega) only[go_sem,lv,e1]
  exact⟨ow,f⟩
 have e1:=jZ hlt
 have hpn:p<n:=by omega
 have R3:=R.mono f
 obtain⟨_,id2,off2,sh2,hc2⟩:=R3.open
 have cr:=hc2 i hi
 have ce:=R3.cell hi hpn
 have hS:=R.ent i p hi hpn
 have ll:=Wt t i p
 have hs:=RV (t:=t) i p
 have step:(p=i∨(t i p).isSome)-> ∃h4,Ep (h2.new (.cells false (ints [(p:Int)]))) 1 8 vl (.sl h2.next 0 1 (.kn 1))=some (.sl (h2.next+1) 0 ((Hf t i p).length+1) (.un 1),h4)/\eJ h4 (.sl (h2.next+1) 0 ((Hf t i p).length+1) (.un 1)) 1 (ints (zi (Hf t i (p+1)))) h.next/\Fr h h4:=λhc=>by
  obtain⟨h4,a4,ow4,f4,n4,_⟩:=Rz (v:= aB p) ow f (by rw[aS,aT];omega) (bytes:=8) (by omega)
  rw[aS,aT] at a4 ow4
  refine⟨h4,a4,?_,f4⟩
  rw[hs,if_pos hc,Ry,tX]
  exact ow4
 by_cases hpi:p=i
 ·have e2:decide ((p:Int)=(i:Int))=true:=jZ (by omega)
  obtain⟨h4,a4,ow4,f4⟩:=step (.inl hpi)
  simp (disch:=omega) only[go_sem,lv,e1,e2,Pt,a4]
  rw[gU p]
  exact⟨n-(p+1),by omega,p+1,_,aA rfl,by omega,by omega,ow4,f4,rfl⟩
 have e2:decide ((p:Int)=(i:Int))=false:=eX (by omega)
 cases hto:t i p with
 |none=>
  rw[hto] at hS
  rw[hS.nil] at ce
  simp (disch:=omega) only[go_sem,lv,e1,e2,sh2.ixa,cr,ce]
  rw[gU p]
  refine⟨n-(p+1),by omega,p+1,vl,aA rfl,by omega,by omega,?_,f.bG (by omega),rfl⟩
  rw[hs,if_neg (by rw[hto];simp [hpi]),List.append_nil]
  exact ow.fr ((Fr.refl h2).bG (by omega))
 |some y=>
  rw[hto] at hS
  have pz:PV W h (F i p) y:=hS
  have sn:=Nk pz (bM.ne h0 (TI.dV _ _ _ hto)) true
  generalize F i p=vz at ce pz sn
  obtain⟨h4,a4,ow4,f4⟩:=step (.inr (by rw[hto];rfl))
  simp (disch:=omega) only[go_sem,lv,e1,e2,sh2.ixa,cr,ce,sn,Pt,a4]
  rw[gU p]
  exact⟨n-(p+1),by omega,p+1,_,aA rfl,by omega,by omega,ow4,f4,rfl⟩
theorem acO.anZ {h h':H}{v:V}{l:List Int}(c:acO h l v h')(h0:0<l.length):Ck h h' v l:=by
 obtain⟨_,f,e⟩:=c
 obtain⟨id,rfl,h1,h2,h3⟩:=e h0
 exact⟨⟨id,_,rfl,h1,h2,h3,.inl rfl⟩,f⟩
theorem VP (b:Nat)(W:Nat->Prop)(h:H)(n:Nat)(tv:V)(ρ:Nat->Nat)(F:Nat->Nat->V)(t:uS)(i0 p:Nat)(x:List Nat)(hn:n<=64)(h0:0<n)(hi0:i0<n)(hp:p<n)(R:Nm b W h n tv ρ F t)(TI:rK n t)(tw:sB n 0 (mS n t))(hto:(mS n t i0).to p=some x):
  Ev T Hr [tv,aB i0,aB p] h (λv h'=>Ck h h' v (zi (Qm (mS n t) (n-(i0+1)) (i0+1) x))):=by
 have X:=(yY TI hi0 hto).1
 refine aX Hp rfl ?_
 obtain⟨lv,id9,off9,sh9,hc9⟩:=R.open
 simp (disch:=omega) only[go_sem,kS,aF,lv]
 refine (BT n h (by omega)).mono ?_
 rintro v1 h1 ⟨s1,f1,l1⟩
 simp (disch:=omega) only[go_sem]
 have hwin: ∀id,W id->id<h.next:=R.Uw
 refine nX (λvs hh=> ∃vx,(∃g:Nat->V,vs= [tv,aB i0,aB p,g 3,vx,g 5,g 6,g 7,g 8,g 9,g 10,g 11,g 12,g 13])/\PV W hh vx x/\Fr h hh) ?_ ?_
 ·have hto':(if p=i0 then some (bZ n) else t i0 p)=some x:=hto
  refine aZ (λhpi=>?_) (λhpi=>?_)
  ·have hpi':p≠i0:=by omega
   rw[if_neg hpi'] at hto'
   have R1:=R.mono f1
   obtain⟨_,id2,off2,sh2,hc2⟩:=R1.open
   have cr:=hc2 i0 hi0
   have ce:=R1.cell hi0 hp
   have hS:=R1.ent i0 p hi0 hp
   rw[hto'] at hS
   have pz:PV W h1 (F i0 p) x:=hS
   generalize F i0 p=vz at ce pz
   simp (disch:=omega) only[go_sem,sh2.ixa,cr,ce]
   exact .inl ⟨vz,aA rfl,pz,f1⟩
  ·have hpi':p=i0:=by omega
   rw[if_pos hpi'] at hto'
   obtain rfl:bZ n=x:=Option.some.inj hto'
   simp (disch:=omega) only[go_sem]
   exact .inl ⟨v1,aA rfl,PV.fresh s1 l1 hwin,f1⟩
 clear s1 f1 l1 v1 h1
 rintro vars h1 ⟨vx,⟨g,rfl⟩,px,f1⟩
 simp (disch:=omega) only[go_sem]
 rw[gU i0]
 refine bI (λvs hh=> ∃vy,(∃g:Nat->V,vs= [tv,g 1,g 2,g 3,vy,g 5,g 6,g 7,g 8,g 9,g 10,g 11,g 12,g 13])/\PV W hh vy (Qm (mS n t) (n-(i0+1)) (i0+1) x)/\bM n (Qm (mS n t) (n-(i0+1)) (i0+1) x)/\Fr h hh) ?_ ?_
 ·refine aJ (λk' vars hh=> ∃(k:Nat) (y:List Nat) (vy:V),(∃g:Nat->V,vars= [tv,g 1,g 2,g 3,vy,aB k,g 6,g 7,g 8,g 9,g 10,g 11,g 12,g 13])/\i0<k/\k<=n/\Qm (mS n t) (n-k) k y=Qm (mS n t) (n-(i0+1)) (i0+1) x/\
    PV W hh vy y/\bM n y/\Fr h hh/\k'=n-k) (n-(i0+1))
   ⟨i0+1,x,vx,aA rfl,by omega,by omega,rfl,px,X,f1,rfl⟩ ?_
  clear px f1 vx h1 g
  rintro k' vars h2 ⟨k,y,vy,⟨g,rfl⟩,hi1,hi2,hs,hy,Y,f,rfl⟩
  by_cases hlt:(k:Int)<(n:Int)
  case neg=>
   have e1:=eX hlt
   obtain rfl:k=n:=by omega
   rw[Nat.sub_self] at hs
   simp (disch:=omega) only[go_sem,lv,e1]
   have hs':y=Qm (mS k t) (k-(i0+1)) (i0+1) x:=hs
   exact⟨vy,aA rfl,by rw[←hs'];exact hy,by rw[←hs'];exact Y,f⟩
  have hkn:k<n:=by omega
  have e1:=jZ hlt
  have R2:=R.mono f
  simp (disch:=omega) only[go_sem,lv,e1]
  refine (JL b W h2 n tv ρ F t k hn h0 hkn R2 TI).mono ?_
  rintro vo h3 ⟨oo,f3⟩
  obtain⟨o,ho⟩: ∃o,(mS n t k).orb=o:=⟨_,rfl⟩
  rw[show Hf t k n=o from ho] at oo
  have so:SI h3 vo (zi o):=oo.sv
  have lo:=so.lens
  rw[aT] at lo
  have lT:=(tw k (lI _) hkn).1
  have hlo:o.length<=n:=by rw[←ho];exact Wt t k n
  obtain⟨id,off,sh,hid,hc⟩:=so.open
  rw[aT] at sh hid hc
  have hy3:=PV.mono hy f3
  obtain⟨id2,off2,sh2,hid2,hc2⟩:=hy3.si.open
  rw[aT,Y.len] at sh2 hid2 hc2
  simp (disch:=omega) only[go_sem]
  refine bI (λvs hh=>(∃g:Nat->V,vs= [tv,g 1,g 2,g 3,vy,aB k,g 6,aB (rD y k o:Int),g 8,g 9,g 10,g 11,g 12,g 13])/\rD y k o<n/\rD y k o∈k::o/\Fr h3 hh) ?_ ?_
  ·refine aJ (λm' vars hh=> ∃(m b:Nat),(∃g:Nat->V,vars= [tv,g 1,g 2,g 3,vy,aB k,vo,aB b,aB m,g 9,g 10,g 11,g 12,g 13])/\m<=o.length/\b<n/\b∈k::o/\
     rD y b (o.drop m)=rD y k o/\Fr h3 hh/\m'=o.length-m) o.length
    ⟨0,k,aA rfl,lI _,hkn,List.mem_cons_self ..,rfl,Fr.refl h3,rfl⟩ ?_
   rintro m' vars h4 ⟨m,b1,⟨g3,rfl⟩,hm,hb,hbm,hbest,f4,rfl⟩
   by_cases hlt2:(m:Int)<(o.length:Int)
   case neg=>
    have e2:=eX hlt2
    have em:m=o.length:=by omega
    rw[em,List.drop_length] at hbest
    have hbest:b1=rD y k o:=hbest
    simp (disch:=omega) only[go_sem,lo,e2]
    exact⟨by rw[←hbest];exact aA rfl,by rw[←hbest];exact hb,by rw[←hbest];exact hbm,f4⟩
   have e2:=jZ hlt2
   have hm':m<o.length:=by omega
   rw[AJ _ _ hm'] at hbest
   have cq:h4.cell id (off+m)=some (aB (o.getD m 0:Nat)):=by rw[f4.cell (hid (by omega)),hc m hm'];congr 2;simp [zi,hm']
   have hqm:o.getD m 0∈o:=by rw[bV hm'];exact List.getElem_mem hm'
   have hqn:=lT.lt hkn (by rw[ho];exact hqm)
   generalize o.getD m 0=q at cq hqm hqn hbest
   have c1:h4.cell id2 (off2+q)=some (aB (y.getD q 0:Nat)):=by rw[f4.cell (hid2 (by omega)),hc2 q hqn];congr 2;simp [zi,Y.len,hqn]
   have c2:h4.cell id2 (off2+b1)=some (aB (y.getD b1 0:Nat)):=by rw[f4.cell (hid2 (by omega)),hc2 b1 hb];congr 2;simp [zi,Y.len,hb]
   simp (disch:=omega) only[go_sem,lo,e2,sh.ixa,cq,sh2.ixa,c1,c2]
   have fb:Fr h3 (H.mk h4.tr (h4.next+12)):=f4.bG (by omega)
   refine aZ (λhxx=>?_) (λhxx=>?_)
   ·rw[if_pos (by omega)] at hbest
    simp (disch:=omega) only[go_sem,sh.ixa,cq]
    rw[gU m]
    exact⟨o.length-(m+1),by omega,m+1,q,aA rfl,by omega,hqn,List.mem_cons_of_mem _ hqm,hbest,fb,rfl⟩
   ·rw[if_neg (by omega)] at hbest
    simp (disch:=omega) only[go_sem]
    rw[gU m]
    exact⟨o.length-(m+1),by omega,m+1,b1,aA rfl,by omega,hb,hbm,hbest,fb,rfl⟩
  rintro vars h4 ⟨⟨g4,rfl⟩,hb,hbm,f4⟩
  have hstep:n-k=(n-(k+1))+1:=by omega
  rw[hstep] at hs
  have hs:Qm (mS n t) (n-(k+1)) (k+1) (if rD y k (mS n t k).orb=k then y else bD (((mS n t k).to (rD y k (mS n t k).orb)).getD []) y)=Qm (mS n t) (n-(i0+1)) (i0+1) x:=hs
  rw[ho] at hs
  have R4:=R2.mono (f3.trans f4)
  have hy4:=PV.mono hy3 f4
  generalize rD y k o=q at hs hb hbm
  by_cases hbk:q=k
  ·rw[if_pos hbk] at hs
   have e0:decide ((q:Int)≠(k:Int))=false:=eX (by omega)
   simp (disch:=omega) only[go_sem,e0]
   rw[gU k]
   exact⟨n-(k+1),by omega,k+1,y,vy,aA rfl,by omega,by omega,hs,hy4,Y,(f.trans f3).trans f4,rfl⟩
  rw[if_neg hbk] at hs
  have e0:decide ((q:Int)≠(k:Int))=true:=jZ (by omega)
  have hbo:q∈(mS n t k).orb:=by
   rcases List.mem_cons.1 hbm with e|e
   ·exact absurd e hbk
   ·rw[ho];exact e
  obtain⟨u,hu⟩:=lT.to hbo
  have U:=lT.dV _ _ hu
  have hu':(if q=k then some (bZ n) else t k q)=some u:=hu
  rw[if_neg hbk] at hu'
  obtain⟨_,id5,off5,sh5,hc5⟩:=R4.open
  have cr:=hc5 k hkn
  have ce:=R4.cell hkn hb
  have hS:=R4.ent k q hkn hb
  rw[hu'] at hS
  have pu:PV W h4 (F k q) u:=hS
  generalize F k q=vu at ce pu
  rw[hu] at hs
  simp (disch:=omega) only[go_sem,e0,sh5.ixa,cr,ce]
  refine (yR vu vy u y h4 (by rw[U.len];omega) pu.si hy4.si (λj hj=>by rw[Y.len];exact U.eM (by rw[←U.len];exact hj))).mono ?_
  rintro v h5 ⟨s5,f5,l5⟩
  simp (disch:=omega) only[go_sem]
  rw[gU k]
  exact⟨n-(k+1),by omega,k+1,_,v,aA rfl,by omega,by omega,hs,PV.fresh s5 l5 R4.Uw,U.mul Y,((f.trans f3).trans f4).trans f5,rfl⟩
 rintro vars h2 ⟨vy,⟨g2,rfl⟩,py,Y,f2⟩
 simp (disch:=omega) only[go_sem]
 refine (amV vy _ h2 py.si (by rw[aT,Y.len];omega)).mono ?_
 rintro v h3 c
 have fr:=acO.anZ c (by rw[aT,Y.len];exact h0)
 simp (disch:=omega) only[go_sem]
 obtain⟨⟨id,cap,e1,e2,e3,e4,e5⟩,f3⟩:=fr
 exact⟨⟨id,cap,e1,by have:=f2.next;omega,e3,e4,e5⟩,f2.trans f3⟩
theorem VF (b:Nat)(W0:Nat->Prop)(h:H)(n:Nat)(tv:V)(ρ:Nat->Nat)(F:Nat->Nat->V)(t:uS)(hn:n<=64)(h0:0<n)(R:Nm b W0 h n tv ρ F t)(TI:rK n t)(tw:sB n 0 (mS n t)):
  Ev T Ht [tv] h (λv h'=> ∃O R',WY (λid=>id<h.next) h' v n O R'/\eD n (S n (mS n t) 0) O R'/\Fr h h'):=by
 refine aX Hk rfl ?_
 have lv:=R.open.1
 obtain⟨τ,hτ⟩: ∃τ,mS n t=τ:=⟨_,rfl⟩
 obtain⟨B,hB⟩: ∃B,h.next=B:=⟨_,rfl⟩
 have bl:Eg [aB 0,.aC,.aC] [(0,1,aB n)]=some (.agg [aB n,.aC,.aC]):=by
  have e1:putAt [aB 0,.aC,.aC] 0 [aB n]=some [aB n,.aC,.aC]:=by simp [putAt]
  simp [Eg,jH,e1,V.cells,V.one]
 obtain⟨h1,h1e⟩: ∃h1,h1=(h.new (.cells false [aB 0,.aC,.aC])).new (.cells false [aB 0,.aC,.aC]):=⟨_,rfl⟩
 have n1:h1.next=B+2:=by rw[h1e,H.aY,H.aY,hB]
 have g1:h1.get (B+1)=bT [aB 0,.aC,.aC]:=by
  rw[h1e]
  have:=H.aQ (h.new (.cells false [aB 0,.aC,.aC])) (.cells false [aB 0,.aC,.aC])
  rwa [H.aY,hB] at this
 have g0:h1.get B=bT [aB 0,.aC,.aC]:=by rw[h1e,H.bN _ (by rw[H.aY,hB];omega),←hB,H.aQ]
 have f1:Fr h h1:=by rw[h1e];exact ((Fr.refl h).new _).new _
 simp (disch:=omega) only[go_sem,kU,aF,hB,lv,bl]
 rw[←h1e]
 simp (disch:=omega) only[go_sem,dR h1 (B+1) 0 (v:= aB n) (u:= .aC) (w:= .aC) rfl rfl rfl,g1,dX]
 obtain⟨h2,h2e⟩: ∃h2,h2=h1.set (B+1) (bT [aB n,.aC,.aC]):=⟨_,rfl⟩
 have n2:h2.next=B+2:=by rw[h2e];exact n1
 have f2:Fr h h2:=by rw[h2e];exact f1.set (by omega) _
 have g2:h2.get (B+1)=bT [aB n,.aC,.aC]:=by rw[h2e,H.aV]
 have g20:h2.get B=bT [aB 0,.aC,.aC]:=by rw[h2e,H.aH _ (by omega)];exact g0
 rw[←h2e]
 clear h1e h2e f1 g0 g1 n1 h1
 refine aJ (λk' vars hh=> ∃(i:Nat) (W:Nat->Prop) (O:LN) (R':qK) (vO vR:V) (wsO wsR:List V),(∃g:Nat->V,vars= [tv,.ptr B 0,.ptr (B+1) 0,aB i,g 4,g 5,g 6,g 7,g 8])/\i<=n/\El h hh (B+1) B W n O R' vO vR wsO wsR/\
   hh.get B=bT [aB 0,.aC,.aC]/\O.length=i/\R'.length=i/\(∀j,j<i->ChL τ n j (O.getD j []) (R'.getD j []))/\k'=n-i) n
  ⟨0,_, [], [],_,_,_,_,aA rfl,lI _,El.start (by omega) (by omega) (by omega) (by omega) (by omega) f2 g2,g20,rfl,rfl,λj hj=>by omega,rfl⟩ ?_
 clear f2 g2 g20 n2 h2
 rintro k' vars h2 ⟨i,W,O,R',vO,vR,wsO,wsR,⟨g,rfl⟩,hi,A,gB,lO,lR,hC,rfl⟩
 by_cases hlt:(i:Int)<(n:Int)
 case neg=>
  have e1:=eX hlt
  obtain rfl:i=n:=by omega
  have hr:=aW A.get
  have nB:=A.fr.next
  simp (disch:=omega) only[go_sem,lv,e1,hr,dR h2 B 0 (v:= aB i) (u:=vO) (w:=vR) rfl (SV.cY A.oO.sv).2.1 (SV.cY A.oR.sv).2.1,gB,dX]
  have hr2:=aW (h:=h2.set B (bT [aB i,vO,vR])) (H.aV ..)
  have fB:Fx (· =B) h2 (h2.set B (bT [aB i,vO,vR])):=Fx.set h2 (W:=(· =B)) rfl _
  simp (disch:=omega) only[go_sem,hr2]
  obtain⟨h3,h3e⟩: ∃h3,h3=h2.set B (bT [aB i,vO,vR]):=⟨_,rfl⟩
  rw[←h3e] at fB ⊢
  have A3:=A.box h3e
  refine⟨O,R',by rw[←hB];exact A3.chw,?_,A3.fr⟩
  rw[hτ] at tw ⊢
  have X:=tw.chain (O:=O) (R:=R') lO lR (λj hj=>(hC j hj).1) (λj hj=>(hC j hj).2.1) (λj hj=>(hC j hj).2.2.1) (λj hj=>(hC j hj).2.2.2)
  exact X
 have e1:=jZ hlt
 have hin:i<n:=by omega
 have R2:=R.mono A.fr
 have lT:=(tw i (lI _) hin).1
 rw[hτ] at lT
 simp (disch:=omega) only[go_sem,lv,e1]
 refine (JL b W0 h2 n tv ρ F t i hn h0 hin R2 TI).mono ?_
 rintro vo h4 ⟨oo,f4⟩
 obtain⟨q,hq⟩: ∃q,Hf t i n=q:=⟨_,rfl⟩
 have ascq:q.Pairwise (· < ·):=by rw[←hq];exact aaO i n
 have memq: ∀p,p∈q↔p∈(τ i).orb:=λp=>by rw[←hq,XZ,hτ]
 have hql:q.length<=n:=by rw[←hq];exact Wt t i n
 have hpos:0<q.length:=List.length_pos_of_mem ((memq i).2 lT.base)
 rw[hq] at oo
 obtain⟨P,cp,rfl,hP1,hP2,cP⟩: ∃P cp,vo= .sl P 0 q.length cp/\h2.next<=P/\P<h4.next/\ ∀k,k<q.length->h4.cell P k=some (aB (q.getD k 0:Nat)):=by
  rcases oo with ⟨_,e⟩|⟨id,m,cap,rest,e1,e2,e3,e4,e5,e6⟩
  ·have:=congrArg List.length e
   rw[aS,aT,List.length_nil] at this
   omega
  ·rw[aS,aT,Nat.mul_one] at e2
   subst e2
   exact⟨id,cap,e1,e4,e5,λk hk=>by rw[H.aG e6,Se (by rw[aS,aT];exact hk),Ee hk]⟩
 have A4:=A.mono f4
 have pq:PV W h4 (.sl P 0 q.length cp) q:=⟨oo.sv,λhw=>by have:=A.wb P hw;omega⟩
 have gB4:h4.get B=bT [aB 0,.aC,.aC]:=by rw[f4.get B (A.wb B A.d)];exact gB
 clear A gB R2 oo
 simp (disch:=omega) only[go_sem]
 refine bI (λvs hh=> ∃(vr:V) (r:LN),(∃g:Nat->V,vs= [tv,.ptr B 0,.ptr (B+1) 0,aB i,.sl P 0 q.length cp,vr,g 6,g 7,g 8])/\PL W hh vr r/\ChL τ n i q r/\Fr h4 hh) ?_ ?_
 ·refine aJ (λk' vs hh=> ∃(k:Nat) (vr:V) (ws:List V) (r:LN) (W':Nat->Prop),(∃g:Nat->V,vs= [tv,.ptr B 0,.ptr (B+1) 0,aB i,.sl P 0 q.length cp,vr,aB k,g 7,g 8])/\k<=q.length/\eJ hh vr 1 ws h4.next/\gI W' hh ws r/\Lf W' vr/\(∀id,W id->W' id)/\(∀id,W' id->id<hh.next/\(W id∨h4.next<=id))/\r.length=k/\
    (∀j,j<k-> ∀y,(τ i).to (q.getD j 0)=some y->r.getD j []=Qm τ (n-(i+1)) (i+1) y)/\Fr h4 hh/\k'=q.length-k) q.length
   ⟨0,.aC, [], [],W,aA rfl,lI _,eJ.aC _ _ _,trivial,λ_ _ _ _ e=>(by cases e),λ_ h=>h,λid h=>⟨A4.wb id h,.inl h⟩,rfl,λj hj=>by omega,Fr.refl _,rfl⟩ ?_
  rintro k' vars h5 ⟨k,vr,ws,r,W',⟨g,rfl⟩,hk,ow,pvs,bl',hW1,hW2,lr,hr,f5,rfl⟩
  by_cases hlt2:(k:Int)<(q.length:Int)
  case neg=>
   have e2:=eX hlt2
   obtain rfl:k=q.length:=by omega
   simp (disch:=omega) only[go_sem,e2]
   refine⟨vr,r,aA rfl,⟨ws,ow.sv,?_,pvs.xH (λid _ h=>hW1 id h),eJ.aeD ow⟩,⟨ascq,memq,lr,hr⟩,f5⟩
   cases vr with
   |sl id off m c=>exact λh=>by have:=(ow.in _ _ _ _ rfl).2.1;have:=A4.wb id h;omega
   |_=>trivial
  have e2:=jZ hlt2
  have hk':k<q.length:=by omega
  obtain⟨p,hp⟩: ∃p,q.getD k 0=p:=⟨_,rfl⟩
  have ck:h5.cell P k=some (aB p):=by
   rw[f5.cell hP2,cP k hk',hp]
  have hpm:p∈(τ i).orb:=(memq p).1 (by rw[←hp,bV hk'];exact List.getElem_mem hk')
  have hpn:=lT.lt hin hpm
  obtain⟨y,hy⟩:=lT.to hpm
  have Y:=lT.dV _ _ hy
  have R5:=R.mono (A4.fr.trans f5)
  simp (disch:=omega) only[go_sem,e2,ck]
  refine (VP b W0 h5 n tv ρ F t i p y hn h0 hin hpn R5 TI tw (by rw[hτ];exact hy)).mono ?_
  rw[hτ]
  rintro v7 h7 fr7
  have f7:=fr7.fr
  have p7:PV W' h7 v7 (Qm τ (n-(i+1)) (i+1) y):=fr7.pv λid h=>(hW2 id h).1
  simp (disch:=omega) only[go_sem,dG h7 (z:= .aC) p7.eV.1 p7.eV.2]
  obtain⟨h8,h8e⟩: ∃h8,h8=h7.new (.cells false [v7]):=⟨_,rfl⟩
  have g8:h8.get h7.next=bT [v7]:=by rw[h8e,H.aQ]
  have n8:h8.next=h7.next+1:=by rw[h8e,H.aY]
  have f8:Fr h7 h8:=by rw[h8e];exact (Fr.refl h7).new _
  rw[←h8e]
  have f58:=f7.trans f8
  have ow8:=ow.fr f58
  have hws:=bH.length pvs
  obtain⟨h9,a9,p9⟩:=ow8.push (bytes:=24) (SV.one (by omega) g8 (.kn 1)) (n:=k) (m:=1) (by omega) rfl (by omega) (by omega) (by omega)
  simp (disch:=omega) only[go_sem,a9]
  rw[gU k]
  have n9:=p9.next
  have f9:Fx W' h8 h9:=p9.fx bl'
  have hnext:=f58.next
  have hw9: ∀id,id<h8.next->(W' id∨id=h8.next)->W' id:=λid h1 h2=>by
   rcases h2 with h2|h2
   ·exact h2
   ·omega
  refine⟨q.length-(k+1),by omega,k+1,_,_,r++ [Qm τ (n-(i+1)) (i+1) y],λid=>W' id∨id=h8.next,aA rfl,by omega,p9.own (by omega) rfl (by have:=f5.next;omega),?_,λid off m c e=>by cases e;exact .inr rfl,λid h=> .inl (hW1 id h),λid h=>?_,by rw[qU,lr];rfl,λj hj z hz=>?_,?_,rfl⟩
  ·exact (gI.go (gI.go pvs (Fx.of f58) (λ_ _ h=>h)) f9 hw9).append (gI.one (PV.go (p7.mono f8) f9 hw9))
  ·rcases h with h|h
   ·have:=hW2 id h;exact⟨by omega,this.2⟩
   ·have:=f5.next;exact⟨by omega,.inr (by omega)⟩
  ·by_cases e:j=k
   ·subst e
    rw[hp,hy] at hz
    cases hz
    rw[←lr,mB]
   ·rw[oL (by omega)]
    exact hr j (by omega) z hz
  ·refine⟨by have:=f5.next;omega,λid hid=>?_⟩
   rw[p9.old id (by have:=f5.next;omega) (λid' off m c e e2=>by have:=(ow.in _ _ _ _ e).2.1;omega),f58.get id (by have:=f5.next;omega)]
   exact f5.get id hid
 rintro vars h5 ⟨vr,r,⟨g,rfl⟩,pl,hcl,f5⟩
 have A5:=A4.mono f5
 have pq5:=pq.mono f5
 have gB5:h5.get B=bT [aB 0,.aC,.aC]:=by rw[f5.get B (A4.wb B A4.d)];exact gB4
 have cO:h5.cell (B+1) 1=some vO:=by rw[H.aG A5.get];rfl
 have cR:h5.cell (B+1) 2=some vR:=by rw[H.aG A5.get];rfl
 obtain⟨ws,pl1,pl2,pl3,pl4⟩:=pl
 have pl:PL W h5 vr r:=⟨ws,pl1,pl2,pl3,pl4⟩
 have fn5:=A5.fr.next
 have cn5:=A5.wb _ A5.c
 simp (disch:=omega) only[go_sem,cO,cR,dG _ (z:= .aC) (v:= .sl P 0 q.length cp) rfl rfl]
 obtain⟨h6,h6e⟩: ∃h6:H,h6=H.mk ((H.mk h5.tr (h5.next+3)).new (Ob.cells false [.sl P 0 q.length cp])).tr (h5.next+14):=⟨_,rfl⟩
 rw[←h6e]
 have g6:h6.get (h5.next+3)=bT [.sl P 0 q.length cp]:=by rw[h6e];exact H.aQ (H.mk h5.tr (h5.next+3)) _
 have n6:h6.next=h5.next+14:=by rw[h6e]
 have o6: ∀k,k≠h5.next+3->h6.get k=h5.get k:=λk hk=>by rw[h6e];exact H.bN (H.mk h5.tr (h5.next+3)) (by simpa using hk) _
 have f6:Fr h5 h6:=⟨by omega,λid hid=>o6 id (by omega)⟩
 have hwO:=bH.length A5.aO
 have hwR:=bH.length A5.aR
 obtain⟨h7,a7,p7⟩:=(A5.oO.fr f6).push (bytes:=24) (SV.one (by omega) g6 (.kn 1)) (n:=i) (m:=1) (by omega) rfl (by omega) (by omega) (by omega)
 have n7:=p7.next
 have oldO: ∀k,k<h5.next->eA vO k->h7.get k=h5.get k:=λk h1 h2=>by rw[p7.old k (by omega) h2,o6 k (by omega)]
 have cR7:h7.cell (B+1) 2=some vR:=by unfold H.cell;rw[oldO (B+1) cn5 A5.pO,A5.get];rfl
 have eR:eQ vR vR=true:=A5.oR.sv.eQ
 have svr:vr.cells= [vr]/\vr.one=true:=⟨(SV.cY pl1).1,(SV.cY pl1).2.1⟩
 simp (disch:=omega) only[go_sem,a7,cR7,eR,dG _ (z:= .aC) svr.1 svr.2]
 obtain⟨h8,h8e⟩: ∃h8:H,h8=H.mk ((H.mk h7.tr (h5.next+8)).new (Ob.cells false [vr])).tr h7.next:=⟨_,rfl⟩
 rw[←h8e]
 have g8:h8.get (h5.next+8)=bT [vr]:=by rw[h8e];exact H.aQ (H.mk h7.tr (h5.next+8)) _
 have n8:h8.next=h7.next:=by rw[h8e]
 have o8: ∀k,k≠h5.next+8->h8.get k=h7.get k:=λk hk=>by rw[h8e];exact H.bN (H.mk h7.tr (h5.next+8)) (by simpa using hk) _
 have oR8:eJ h8 vR 1 wsR h.next:=A5.oR.mono (by omega) λid off m c e _ hid=>by
  rw[o8 id (by omega),oldO id hid (λid' off' n' c' e' e2=>A5.Yw _ _ _ _ e' _ _ _ _ e e2.symm)]
 obtain⟨h9,a9,p9⟩:=oR8.push (bytes:=24) (SV.one (by omega) g8 (.kn 1)) (n:=i) (m:=1) (by omega) rfl (by omega) (by omega) (by omega)
 have n9:=p9.next
 have apR: ∀k,h5.next<=k->eA vR k:=λk hk id off m c e e2=>by have:=(A5.oR.in _ _ _ _ e).1;omega
 have old9: ∀k,k<h5.next->eA vO k->eA vR k->h9.get k=h5.get k:=λk h1 h2 h3=>by rw[p9.old k (by omega) h3,o8 k (by omega),oldO k h1 h2]
 have gC9:h9.get (B+1)=bT [aB n,vO,vR]:=by rw[old9 _ cn5 A5.pO A5.pR];exact A5.get
 have pt1: ∀(hh:H) (x:V),fJ (bT [aB n,vO,vR]) hh (B+1) 1 [x]=some (hh.set (B+1) (bT [aB n,x,vR])):=λhh x=>bQ (by simp) hh _ x
 have pt2: ∀(hh:H) (x y:V),fJ (bT [aB n,x,vR]) hh (B+1) 2 [y]=some (hh.set (B+1) (bT [aB n,x,y])):=λhh x y=>bQ (by simp) hh _ y
 simp (disch:=omega) only[go_sem,a9,gC9,pt1,pt2]
 rw[gU i]
 obtain⟨ha,hb⟩:h6.next=h5.next+14/\h8.next=h5.next+15:=⟨n6,by omega⟩
 rw[ha,hb]
 obtain⟨h10,h10e⟩: ∃h10,h10=(h9.set (B+1) (bT [aB n,.sl (h5.next+14) 0 (i+1) (.un 1),vR])).set (B+1) (bT [aB n,.sl (h5.next+14) 0 (i+1) (.un 1),.sl (h5.next+15) 0 (i+1) (.un 1)]):=⟨_,rfl⟩
 rw[←h10e]
 have o10: ∀k,k≠B+1->h10.get k=h9.get k:=λk hk=>by rw[h10e,H.aH _ hk,H.aH _ hk]
 have n10:h10.next=h5.next+16:=by rw[h10e];show h9.next=_;omega
 have A10:=A5.step (v4:= .sl P 0 q.length cp) (v5:=vr) (o:=q) (r:=r) (h6:=h10) (a:=h5.next+14) (b:=h5.next+15) (k1:=i+1) (k2:=i+1) pq5 pl (by omega) (by omega) (by omega) (by omega) (by omega) (by omega) (by omega) (by rw[h10e,H.aV])
  (by rw[o10 _ (by omega),p9.old _ (by omega) (apR _ (by omega)),o8 _ (by omega),←ha];exact p7.get) (by rw[o10 _ (by omega),←hb];exact p9.get) (λk h1 h2 h3 h4=>by rw[o10 k h2];exact old9 k h1 h3 h4)
 refine⟨n-(i+1),by omega,i+1,_,_,_,_,_,_,_,aA rfl,by omega,A10,?_,by rw[qU,lO];rfl,by rw[qU,lR];rfl,λj hj=>?_,rfl⟩
 ·rw[old9 B (A5.wb B A5.d) A5.qO A5.qR];exact gB5
 ·by_cases e:j=i
  ·subst e
   have e1:(O++ [q]).getD j []=q:=by rw[←lO];exact mB
   have e2:(R'++ [r]).getD j []=r:=by rw[←lR];exact mB
   rw[e1,e2]
   exact hcl
  ·rw[oL (by omega),oL (by omega)]
   exact hC j (by omega)
theorem abU (h:H)(n:Nat)(hn:n<=100000):Pd h 1 24 [.aC] (aB n) (aB n)=some (.sl h.next 0 n (.kn n),h.new (.cells false (rc n λ_=> .aC))):=by
 have e:dP [V.aC] n=rc n λ_=> .aC:=(Lw (by simp [dP]) λi hi=>by simp [dP,hi,Nat.mod_one]).symm
 rw[xJ (by omega) (Int.le_refl _) (by omega) (by omega),Int.toNat_natCast,Nat.mul_one,e]
theorem YM (n:Nat)(h:H)(hn:n<=64):Ev T Yx [aB n] h (λv h'=> ∃ρ F,Nm h.next (WB n ρ) h' n v ρ F (λ_ _=>none)/\Fr h h'):=by
 refine aX Ya rfl ?_
 simp (disch:=omega) only[go_sem,tQ,aF]
 refine aJ (λk' vars hh=> ∃(i:Nat) (vl:V) (rs:List Nat),(∃g:Nat->V,vars= [aB n,g 1,vl,aB i,g 4])/\i<=n/\rs.length=i/\eJ hh vl 1 (rs.map λr=> .sl r 0 n (.kn n)) h.next/\rs.Nodup/\
   (∀r∈rs,h.next<=r/\r<hh.next/\hh.get r=some (.cells false (rc n λ_=> .aC))/\eA vl r)/\Fr h hh/\k'=n-i) n
  ⟨0,.aC, [],aA rfl,lI _,rfl,eJ.aC _ _ _,List.nodup_nil,λr hr=>absurd hr List.not_mem_nil,Fr.refl h,rfl⟩ ?_
 rintro k' vars h2 ⟨i,vl,rs,⟨g,rfl⟩,hi,lr,ow,nd,hr,f,rfl⟩
 by_cases hlt:(i:Int)<(n:Int)
 case neg=>
  have e1:=eX hlt
  obtain rfl:i=n:=by omega
  simp (disch:=omega) only[go_sem,e1]
  have hm: ∀j,j<i->rs.getD j 0∈rs:=λj hj=>bF (by omega)
  refine⟨λj=>rs.getD j 0,λ_ _=> .aC,⟨?_,?_,λj hj=>(hr _ (hm j hj)).2.2.1,λj hj=>⟨j,hj,rfl⟩,?_,?_,λa c ha hc e=>?_,λ_ _ _ _=>rfl⟩,f⟩
  ·have e2:(rc i λj=>V.sl (rs.getD j 0) 0 i (.kn i))=rs.map λr=> .sl r 0 i (.kn i):=Lw (by rw[nW];exact lr) λj hj=>by
    rw[List.getElem?_map,iH (by omega),List.getD,iH (by omega)];rfl
   rw[e2]
   exact ow.sv
  ·cases vl with
   |sl id off m c=>
    rintro⟨j,hj,e⟩
    exact (hr _ (hm j hj)).2.2.2 _ _ _ _ rfl e
   |_=>trivial
  ·rintro id ⟨j,hj,rfl⟩;exact (hr _ (hm j hj)).2.1
  ·rintro id ⟨j,hj,rfl⟩;exact (hr _ (hm j hj)).1
  ·have ea:=iH (show a<rs.length by omega)
   have ec:=iH (show c<rs.length by omega)
   simp only[List.getD,ea,ec,Option.getD_some] at e
   rcases Nat.lt_trichotomy a c with h1|h1|h1
   ·exact absurd e (List.pairwise_iff_getElem.1 nd a c (by omega) (by omega) h1)
   ·exact h1
   ·exact absurd e.symm (List.pairwise_iff_getElem.1 nd c a (by omega) (by omega) h1)
 have e1:=jZ hlt
 obtain⟨S,hS⟩: ∃S,h2.next=S:=⟨_,rfl⟩
 obtain⟨h3,e3,n3,g3,o3,f3⟩:=iB hS (rc n λ_=> .aC)
 have fn:=f.next
 obtain⟨h4,a4,ow4,f4,n4,o4⟩:=Rz (v:= .sl S 0 n (.kn n)) (ow.fr f3) (f.trans f3) (by rw[nW];omega) (bytes:=24) (by omega)
 rw[nW,lr,n3] at a4 ow4
 simp (disch:=omega) only[go_sem,e1,abU h2 n (by omega),hS,e3,dG _ (z:= .aC) (v:= .sl S 0 n (.kn n)) rfl rfl,n3,a4]
 rw[gU i]
 have hlt2: ∀r∈rs,r<S:=λr h=>by have:=(hr r h).2.1;omega
 refine⟨n-(i+1),by omega,i+1,_,rs++ [S],aA rfl,by omega,by rw[qU,lr];rfl,by rw[List.map_append];exact ow4,List.nodup_append.2 ⟨nd,by simp,λa ha c hc e=>?_⟩,λr h=>?_,f4,rfl⟩
 ·have:=hlt2 a ha
  simp at hc;omega
 ·rcases Rl.1 h with h|h
  ·obtain⟨b1,b2,b3,b4⟩:=hr r h
   refine⟨b1,by omega,by rw[o4 r (by omega) b4,o3 r (by omega)];exact b3,λid off m c e=>by cases e;omega⟩
  ·simp at h
   subst h
   refine⟨by omega,by omega,by rw[o4 _ (by omega) (λid off m c e e2=>by have:=(ow.in _ _ _ _ e).1;omega)];exact g3,λid off m c e=>by cases e;omega⟩
theorem Ku (vl:V)(n:Nat)(l:LN)(h:H)(n0:1<=n)(n7:n<=7)(hl:l.length<=4096)(hv:SP h vl l)(hP: ∀g∈l,bM n g):
  Ev T BS [aB n,vl] h (λv h'=> ∃vc O R,v= .tup [vc,aB 0]/\GC (λid=>id<h.next) h' vc n O R (eH n (· ∈l))/\Fr h h'):=by
 refine aX BU rfl ?_
 obtain⟨B,hB⟩: ∃B,h.next=B:=⟨_,rfl⟩
 obtain⟨h1,e1,n1,g1,o1,f1⟩:=iB hB [aB 0,.aC,.aC]
 have d1:decide ((n:Int)<1)=false:=eX (by omega)
 have d2:decide ((64:Int)<(n:Int))=false:=eX (by omega)
 have lv:=hv.lens
 rw[nW] at lv
 have d3:decide ((4096:Int)<(l.length:Int))=false:=eX (by omega)
 obtain⟨id,off,ws,sh,hid,hwl,hc,hall⟩:=hv.open
 rw[nW] at sh hid hwl hc
 simp (disch:=omega) only[go_sem,wE,aF,hB,e1,d1,d2,lv,d3]
 refine bI (λvs hh=>(∃g:Nat->V,vs= [aB n,vl,.ptr B 0,g 3,g 4,g 5,g 6,g 7,g 8,g 9,g 10,g 11,g 12,g 13])/\Fr h1 hh) ?_ ?_
 ·refine aJ (λk' vs hh=> ∃(i:Nat),(∃g:Nat->V,vs= [aB n,vl,.ptr B 0,g 3,aB i,g 5,g 6,g 7,g 8,g 9,g 10,g 11,g 12,g 13])/\i<=l.length/\Fr h1 hh/\k'=l.length-i) l.length
   ⟨0,aA rfl,lI _,Fr.refl h1,rfl⟩ ?_
  rintro k' vars h2 ⟨i,⟨g,rfl⟩,hi,f,rfl⟩
  by_cases hlt:(i:Int)<(l.length:Int)
  ·have d4:=jZ hlt
   have hi':i<l.length:=by omega
   have F2:=f1.trans f
   have ci:h2.cell id (off+i)=some (ws.getD i .undef):=by rw[F2.cell (hid (by omega)),hc i hi']
   have s0:=Da hall hi'
   have X:bM n (l.getD i []):=hP _ (bF hi')
   generalize ws.getD i .undef=vx at ci s0
   have lx:=s0.lens
   rw[aT,X.len] at lx
   simp (disch:=omega) only[go_sem,lv,d4,sh.ixa,ci]
   refine (Lx vx _ h2 (by rw[aT,X.len];omega) (s0.mono F2)).mono ?_
   rw[Tz X n0 (by omega)]
   rintro _ h3 ⟨rfl,f3⟩
   have ci3:h3.cell id (off+i)=some vx:=by rw[f3.cell (by have:=hid (by omega);have:=F2.next;omega)];exact ci
   simp (disch:=omega) only[go_sem]
   refine aZ (λhc=>(hc rfl).elim) (λ_=>?_)
   simp (disch:=omega) only[go_sem,sh.ixa,ci3,lx]
   refine aZ (λhc=>(hc rfl).elim) (λ_=>?_)
   simp (disch:=omega) only[go_sem]
   rw[gU i]
   exact⟨l.length-(i+1),by omega,i+1,aA rfl,by omega,f.trans f3,rfl⟩
  have d4:=eX hlt
  simp (disch:=omega) only[go_sem,lv,d4]
  exact⟨aA rfl,f⟩
 rintro vars h2 ⟨⟨g,rfl⟩,f⟩
 have F2:=f1.trans f
 have nf:=f.next
 simp (disch:=omega) only[go_sem]
 refine (YM n h2 (by omega)).mono ?_
 rintro tv h3 ⟨ρ,F,R,f3⟩
 have F3:=F2.trans f3
 simp (disch:=omega) only[go_sem]
 have hL: ∀g,g∈l->bM n g:=hP
 refine bI (λvs hh=> ∃(F':Nat->Nat->V) (t:uS),(∃g:Nat->V,vs= [aB n,vl,.ptr B 0,g 3,g 4,g 5,tv,g 7,g 8,g 9,g 10,g 11,g 12,g 13])/\Nm h2.next (WB n ρ) hh n tv ρ F' t/\Tv n (· ∈l) t/\(∀g∈l,ins t n 0 g=none)/\Fx (WB n ρ) h3 hh) ?_ ?_
 ·refine aJ (λk' vs hh=> ∃(i:Nat) (F':Nat->Nat->V) (t:uS),(∃g:Nat->V,vs= [aB n,vl,.ptr B 0,g 3,g 4,g 5,tv,aB i,g 8,g 9,g 10,g 11,g 12,g 13])/\i<=l.length/\Nm h2.next (WB n ρ) hh n tv ρ F' t/\Tv n (· ∈l) t/\(∀g∈l.take i,ins t n 0 g=none)/\Fx (WB n ρ) h3 hh/\k'=l.length-i) l.length
   ⟨0,F,_,aA rfl,lI _,R,⟨rK.empty n,λg hg=>by
    obtain⟨_,_,_,_,_,e⟩:=fZ.1 hg
    cases e⟩,λg hg=>absurd hg List.not_mem_nil,Fx.refl _ _,rfl⟩ ?_
  rintro k' vars h4 ⟨i,F',t,⟨g,rfl⟩,hi,R4,tl,hn,x,rfl⟩
  by_cases hlt:(i:Int)<(l.length:Int)
  case neg=>
   have d4:=eX hlt
   obtain rfl:i=l.length:=by omega
   simp (disch:=omega) only[go_sem,lv,d4]
   rw[List.take_length] at hn
   exact⟨F',t,aA rfl,R4,tl,hn,x⟩
  have d4:=jZ hlt
  have hi':i<l.length:=by omega
  have lowB: ∀q,WB n ρ q->h2.next<=q:=R.low
  have X4:Fr h h4:=F2.trans ⟨by have:=f3.next;have:=x.next;omega,λq hq=>by rw[x.get q (by have:=f3.next;omega) (λhw=>by have:=lowB q hw;omega)];exact f3.get q hq⟩
  have ci:h4.cell id (off+i)=some (ws.getD i .undef):=by rw[X4.cell (hid (by omega)),hc i hi']
  have s0:=Da hall hi'
  have X:bM n (l.getD i []):=hP _ (bF hi')
  generalize ws.getD i .undef=vx at ci s0
  simp (disch:=omega) only[go_sem,lv,d4,sh.ixa,ci]
  have px:PV (WB n ρ) h4 vx (l.getD i []):=by
   refine⟨s0.mono X4,RA (b:=h2.next) s0 (by omega) lowB⟩
  refine (AA h2.next (WB n ρ) h4 n tv ρ F' t vx _ (by omega) (by omega) R4 px X tl.Rh).mono ?_
  rintro _ h5 ⟨F5,rfl,R5,f5⟩
  simp (disch:=omega) only[go_sem]
  rw[gU i]
  obtain⟨tl5,sub5,hnone⟩:=tl.ins hL (x:=l.getD i []) (eH.of hL (bF hi'))
  refine⟨l.length-(i+1),by omega,i+1,F5,_,aA rfl,by omega,R5,tl5,λu hu=>?_,x.trans f5 (λ_ _ h=>h),rfl⟩
  rcases (Ja hi').1 hu with hu|rfl
  ·exact Lc sub5 _ _ _ (hn u hu)
  ·exact hnone
 clear g
 rintro vars h4 ⟨F',t,⟨g,rfl⟩,R4,tl,hn,x⟩
 have x3:=x.next
 have n3:=f3.next
 simp (disch:=omega) only[go_sem]
 refine (aaJ h2.next (WB n ρ) h4 n tv ρ F' t (· ∈l) n7 n0 (by omega) R4 hL tl).mono ?_
 rintro _ h5 ⟨W5,F5,t5,R5,tl5,sub5,cl5,x5,hw5⟩
 have n5:=x5.next
 have tw:=PJ tl5.Rh cl5
 simp (disch:=omega) only[go_sem]
 refine (VF h2.next W5 h5 n tv ρ F5 t5 (by omega) n0 R5 tl5.Rh tw).mono ?_
 rintro vc h6 ⟨O,R',ch,isc,f6⟩
 have n6:=f6.next
 have lowB: ∀q,WB n ρ q->h2.next<=q:=R.low
 have F5':Fr h2 h5:=⟨by omega,λq hq=>by
  rw[x5.get q (by omega) (λhw=>by have:=lowB q hw;omega),x.get q (by omega) (λhw=>by have:=lowB q hw;omega)]
  exact f3.get q hq⟩
 have F6:=(F2.trans F5').trans f6
 have F26:=F5'.trans f6
 have g6:h6.get B=some (.cells false [aB 0,.aC,.aC]):=by rw[F26.get B (by omega),f.get B (by omega)];exact g1
 have ch0:=ch
 obtain⟨vO,vR,wsO,wsR,e,t1,_,_,t2,_,_⟩:=ch
 subst e
 have oneO:=t1.cY.2.1
 have oneR:=t2.cY.2.1
 obtain⟨h7,e7,n7',g7,o7⟩:=zY h6 B [aB n,vO,vR]
 have r7:=aW g7
 simp (disch:=omega) only[go_sem,dR h6 B 0 (v:= aB n) (u:=vO) (w:=vR) rfl oneO oneR,g6,dX,e7,r7]
 have f7:Fx (λid=>id<h5.next) h6 h7:=⟨by omega,λid _ hid=>o7 id (by omega)⟩
 refine⟨_,O,R',rfl,⟨ch0.go f7 (λid _ h=>by omega),isc.congr (tl5.group hL n0 cl5 λg hg=>Lc sub5 _ _ _ (hn g hg)),eH.jY hP,n0,n7⟩,⟨by have:=F6.next;omega,λid hid=>by rw[o7 id (by omega)];exact F6.get id hid⟩⟩
theorem rX (x:Nat)(l:List Int)(n:Int)(h:H)(ht:Tk h x l)(hl:l.length<9223372036854775808)(hn:1<=n)(hn2:n<1000000000):
  Ev T Ou [.ptr x 0,aB n] h (λv h'=> ∃z,v= aB z/\0<=z/\z<n/\Tk h' x l/\Gs x h h'):=by
 obtain⟨vl,a,hg,hs,hne,ha,hx⟩:=ht
 refine aX Og rfl ?_
 have g0:h.cell x 0=some vl:=by rw[H.aG hg];rfl
 have g1:h.cell x 1=some (aB a):=by rw[H.aG hg];rfl
 have ev:eQ vl vl=true:=SV.eQ hs
 obtain⟨id,off,hsl,hid,hc⟩:=hs.open
 simp (disch:=first|omega|(simp only[Qn];(try omega);done)|fail) only[go_sem,oJ,aF,g0,g1,hs.lens,ev]
 by_cases hal:(l.length:Int)<=(a:Int)
 ·rw[decide_eq_true hal]
  simp (disch:=first|omega|(simp only[Qn];(try omega);done)|fail) only[go_sem]
  exact⟨0,rfl,by omega,by omega,⟨vl,a,hg,hs.mono ((Fr.refl h).bG (by omega)),hne,ha,by show x<h.next+14;omega⟩,Gs.of ((Fr.refl h).bG (by omega))⟩
 ·rw[decide_eq_false hal]
  simp (disch:=first|omega|(simp only[Qn];(try omega);done)|fail) only[go_sem]
  rw[decide_eq_false (show ¬n<1 by omega)]
  simp (disch:=first|omega|(simp only[Qn];(try omega);done)|fail) only[go_sem,g1,hg]
  have hne2:id≠x:=by
   intro e
   have:=hsl.ixa .i64 0 (by omega) (by omega)
   rcases hs with ⟨_,h0⟩|⟨id',o',len',cap',_,_,rfl,_⟩
   ·have:(ints l).length=0:=by rw[h0];rfl
    rw[aS] at this;omega
   ·have hll:len'=l.length:=Option.some.inj hsl.len
    rw[Lz (by omega) (by omega)] at this
    simp only[Option.some.injEq,V.ptr.injEq] at this
    have:=hne _ _ _ _ rfl;omega
  have c0:h.cell id (off+a)=some (aB (l.getD a 0)):=hc a (by omega)
  have ea:((a:Int)+1- 1).toNat=a:=by omega
  simp (disch:=first|omega|(simp only[Qn];(try omega);done)|fail) only[go_sem,g0,g1,hg,hsl.ixa,c0,ev,ea]
  have hgg: ∀m,(H.mk ((H.mk h.tr (h.next+14)).set x (some (.cells false [vl,aB ((a:Int)+1)]))).tr m).get x=some (.cells false [vl,aB ((a:Int)+1)]):=λm=>H.aV ..
  have hfx:Gs x h (H.mk ((H.mk h.tr (h.next+14)).set x (some (.cells false [vl,aB ((a:Int)+1)]))).tr (h.next+14+14)):=⟨by show h.next<=h.next+14+14;omega,λid hid hne=>H.aH _ hne _⟩
  have hnn:(H.mk ((H.mk h.tr (h.next+14)).set x (some (.cells false [vl,aB ((a:Int)+1)]))).tr (h.next+14+14)).next=h.next+14+14:=rfl
  have hgx:=hgg (h.next+14+14)
  generalize H.mk ((H.mk h.tr (h.next+14)).set x (some (.cells false [vl,aB ((a:Int)+1)]))).tr (h.next+14+14)=h2 at*
  refine (aiR (l.getD a 0) n h2 (by omega) hn2).mono ?_
  rintro v h3 ⟨rfl,rfl⟩
  have k0:h3.cell x 0=some vl:=by rw[H.aG hgx];rfl
  have k1:h3.cell x 1=some (aB ((a:Int)+1)):=by rw[H.aG hgx];rfl
  simp (disch:=first|omega|(simp only[Qn];(try omega);done)|fail) only[go_sem,k0,k1,ev]
  have hr:=KW (l.getD a 0) (show 0<n by omega)
  refine⟨_,rfl,hr.1,hr.2,⟨vl,a+1,?_,?_,hne,by omega,by omega⟩,hfx⟩
  ·rw[hgx];simp
  ·rcases hs with h0|⟨id',o',len',cap',ro,vs,rfl,q2,q3,q4,q5,q6⟩
   ·exact .inl h0
   ·exact .inr ⟨id',o',len',cap',ro,vs,rfl,q2,by omega,(hfx.get id' q3 (λe=>by have:=hne _ _ _ _ rfl;omega)).trans q4,q5,q6⟩
theorem Uj (n:Nat)(h:H)(hN:n<=1000):
  Ev T Zh [aB n] h (λv h'=>eJ h' v 1 (ints (zi (bZ n))) h.next/\Fr h h'):=by
 refine aX Zn rfl ?_
 simp (disch:=first|omega|(simp only[Qn];(try omega);done)|fail) only[go_sem,Au,aF]
 refine aJ (λk' vars hh=> ∃(i:Nat) (o:V),(∃j:Nat->V,vars= [aB n,j 1,o,aB i,j 4])/\i<=n/\eJ hh o 1 (ints (zi ((bZ n).take i))) h.next/\Fr h hh/\k'=n-i) n
  ⟨0,.aC,aA rfl,lI _,eJ.aC _ _ _,Fr.refl h,rfl⟩ ?_
 rintro k' vars h2 ⟨i,o,⟨jk,rfl⟩,hi,oO,F,rfl⟩
 simp (disch:=first|omega|(simp only[Qn];(try omega);done)|fail) only[go_sem]
 by_cases hlt:(i:Int)<(n:Int)
 ·rw[decide_eq_true hlt]
  have hi':i<n:=by omega
  simp (disch:=first|omega|(simp only[Qn];(try omega);done)|fail) only[go_sem,Pt]
  have hf31:Fr h2 (h2.new (.cells false (ints [(i:Int)]))):=(Fr.refl h2).new _
  have hg31:(h2.new (.cells false (ints [(i:Int)]))).get h2.next=some (.cells false (ints [(i:Int)])):=H.aQ ..
  have hn31:(h2.new (.cells false (ints [(i:Int)]))).next=h2.next+1:=H.aY ..
  generalize h2.new (.cells false (ints [(i:Int)]))=h31 at*
  have sx:SV h31 (.sl h2.next 0 1 (.kn 1)) 1 (ints [(i:Int)]):=SV.all rfl (by omega) hg31 _
  have nF:=F.next
  have hl:=iN n
  obtain⟨v2,h32,e32,a32⟩:=(oO.fr hf31).app (bytes:=8) (n:=i) (m:=1) (by omega) sx (by rw[aS,aT,Rt,Nat.mul_one];omega) rfl (by omega) (by omega)
  simp (disch:=first|omega|(simp only[Qn];(try omega);done)|fail) only[go_sem,e32]
  have t32:=a32.own
  have hm:=fG hi'
  have e1:zi ((bZ n).take i)++ [(i:Int)]=zi ((bZ n).take (i+1)):=by rw[Pv (by omega),Ry,hm]
  rw[←tX,e1] at t32
  rw[gU i]
  exact⟨n-(i+1),by omega,i+1,v2,aA rfl,by omega,t32,a32.fr h (F.trans hf31) (iT _),rfl⟩
 rw[decide_eq_false hlt]
 obtain rfl:i=n:=by omega
 simp (disch:=first|omega|(simp only[Qn];(try omega);done)|fail) only[go_sem]
 rw[List.take_of_length_le (by rw[iN];omega)] at oO
 exact⟨oO,F⟩
structure Mp (h:H)(v:V)(n id:Nat)(l:List Nat):Prop where
 ex: ∃cap rest,v= .sl id 0 n cap/\id<h.next/\h.get id=some (.cells false (ints (zi l)++rest))
 dV:bM n l
theorem Mp.of {h:H}{v:V}{n b:Nat}{l:List Nat}(h0:0<n)(X:bM n l)(o:eJ h v 1 (ints (zi l)) b): ∃id,Mp h v n id l/\b<=id:=by
 rcases o with ⟨_,e⟩|⟨id,m,cap,rest,rfl,e2,e3,e4,e5,e6⟩
 ·have:=congrArg List.length e
  rw[aS,aT,List.length_nil,X.len] at this
  omega
 ·rw[aS,aT,Nat.mul_one,X.len] at e2
  subst e2
  exact⟨id,⟨⟨cap,rest,rfl,e5,e6⟩,X⟩,e4⟩
theorem Mp.si {h:H}{v:V}{n id:Nat}{l:List Nat}(m:Mp h v n id l):SI h v (zi l):=by
 obtain⟨⟨cap,rest,rfl,h1,h2⟩,X⟩:=m
 refine .inr ⟨id,0,n,cap,false,_,rfl,by rw[aS,aT,X.len,Nat.mul_one],h1,h2,by rw[qU,aS,aT,X.len];omega,?_⟩
 rw[List.drop_zero,Nat.mul_one,List.take_left' (by rw[aS,aT,X.len])]
theorem Mp.mono {h h':H}{v:V}{n id:Nat}{l:List Nat}(m:Mp h v n id l)(hn:h.next<=h'.next)(hg:h'.get id=h.get id):Mp h' v n id l:=by
 obtain⟨⟨cap,rest,h1,h2,h3⟩,X⟩:=m
 exact⟨⟨cap,rest,h1,by omega,by rw[hg];exact h3⟩,X⟩
theorem JU {l:List Nat}{rest:List V}{i:Nat}(hi:i<l.length)(x:Nat):(ints (zi l)++rest).set i (aB x)=ints (zi (l.set i x))++rest:=by
 rw[List.set_append_left _ _ (by rw[aS,aT];exact hi)]
 congr 1
 simp [ints,zi,List.map_set]
def ahZ (n a b:Nat):List Nat:=(List.range n).map λj=>if j=b- 1 then a else if a<=j/\j<b then j+1 else j
theorem Ss {n:Nat}{f:Nat->Nat}{j:Nat}(hj:j<n):((List.range n).map f).getD j 0=f j:=by simp [List.getD,hj]
theorem XC {n a b:Nat}(h1:a<b)(h2:b<=n):bM n (ahZ n a b):=by
 unfold ahZ
 refine bM.EL (by simp) (λi hi=>?_) (λi j hi hj h=>?_)
 ·rw[Ss hi]
  split
  ·omega
  ·split<;>omega
 ·rw[Ss hi,Ss hj] at h
  split at h<;>split at h<;>(try split at h)<;>(try split at h)<;>omega
theorem YX {n:Nat}(f:Nat->Nat):(rc n λj=>aB (f j:Nat))=ints (zi ((List.range n).map f)):=by
 have e:=Sz ((List.range n).map f)
 rw[nW,List.length_range] at e
 rw[←e]
 exact cF λj hj=>by rw[Ss hj]
theorem IZ (h:H)(v:V)(n id a b:Nat)(hn:n<=64)(m:Mp h v n id (bZ n))(h1:a<b)(h2:b<=n):
  Ev T FY [v,aB a,aB b] h (λw h'=>w=v/\Mp h' v n id (ahZ n a b)/\Gs id h h'):=by
 refine aX GO rfl ?_
 obtain⟨⟨cap,rest,rfl,hid,hg⟩,_⟩:=m
 have e0:ints (zi (bZ n))=rc n λj=> aB (((if a<=j/\j<a then j+1 else j:Nat)):Int):=by
  rw[YX]
  congr 2
  refine (xL (by simp [bZ]) λi hi=>?_).symm
  rw[nW,List.length_range] at hi
  rw[Ss hi,fG hi,if_neg (by omega)]
 rw[e0] at hg
 simp (disch:=first|omega|(simp only[Qn];(try omega);done)|fail) only[go_sem,zC,aF]
 refine bI (λvs hh=>(∃g:Nat->V,vs= [.sl id 0 n cap,aB a,aB b,g 3,g 4,g 5])/\hh.get id=some (.cells false ((rc n λj=> aB (((if a<=j/\j<b then j+1 else j:Nat)):Int))++rest))/\Gs id h hh) ?_ ?_
 ·refine aJ (λk' vars hh=> ∃(i:Nat),(∃g:Nat->V,vars= [.sl id 0 n cap,aB a,aB b,g 3,aB i,g 5])/\a<=i/\i<=b/\hh.get id=some (.cells false ((rc n λj=> aB (((if a<=j/\j<i then j+1 else j:Nat)):Int))++rest))/\Gs id h hh/\k'=b-i) (b-a)
   ⟨a,aA rfl,iT _,by omega,hg,Gs.refl _ _,rfl⟩ ?_
  rintro k' vars h3 ⟨i,⟨g,rfl⟩,hi1,hi2,g3,f3,rfl⟩
  by_cases hlt:(i:Int)<(b:Int)
  case neg=>
   have e1:=eX hlt
   obtain rfl:i=b:=by omega
   simp (disch:=first|omega|(simp only[Qn];(try omega);done)|fail) only[go_sem,e1]
   exact⟨aA rfl,g3,f3⟩
  have e1:=jZ hlt
  have hin:i<n:=by omega
  have e3:decide ((i:Int)<0)=false:=eX (by omega)
  have e4:decide ((n:Int)<=(i:Int))=false:=eX (by omega)
  have pt:=bQ (vs:=(rc n λj=> aB (((if a<=j/\j<i then j+1 else j:Nat)):Int))++rest) (off:=i) (by rw[qU,gO];omega) h3 id (aB ((i:Int)+1))
  rw[List.set_append_left _ _ (by rw[gO];exact hin),kY] at pt
  simp (disch:=first|omega|(simp only[Qn];(try omega);done)|fail) only[go_sem,e1,e3,e4,g3,pt]
  rw[gU i]
  refine⟨b-(i+1),by omega,i+1,aA rfl,by omega,by omega,?_,f3.set _,rfl⟩
  congr 3
  refine cF λj hj=>?_
  by_cases e:j=i
  ·rw[if_pos e,if_pos ⟨by omega,by omega⟩,e]
  ·rw[if_neg e]
   by_cases e5:a<=j/\j<i
   ·rw[if_pos e5,if_pos ⟨e5.1,by omega⟩]
   ·rw[if_neg e5,if_neg (by omega)]
 rintro vars h3 ⟨⟨g,rfl⟩,g3,f3⟩
 have eb:(b:Int)- 1=((b- 1:Nat):Int):=by omega
 have e3:decide (((b- 1:Nat):Int)<0)=false:=eX (by omega)
 have e4:decide ((n:Int)<=((b- 1:Nat):Int))=false:=eX (by omega)
 have pt:=bQ (vs:=(rc n λj=> aB (((if a<=j/\j<b then j+1 else j:Nat)):Int))++rest) (off:=b- 1) (by rw[qU,gO];omega) h3 id (aB a)
 rw[List.set_append_left _ _ (by rw[gO];omega),kY] at pt
 simp (disch:=first|omega|(simp only[Qn];(try omega);done)|fail) only[go_sem,eb,e3,e4,g3,pt]
 refine⟨⟨⟨cap,rest,rfl,mO hid f3.next,?_⟩,XC h1 h2⟩,f3.set _⟩
 rw[H.aV]
 congr 3
 unfold ahZ
 rw[←YX]
 refine cF λj hj=>?_
 by_cases e:j=b- 1
 ·rw[if_pos e,if_pos e]
 ·rw[if_neg e,if_neg e]
def TO (l:List Nat)(i k:Nat):List Nat:=(l.set i (l.getD k 0)).set k (l.getD i 0)
theorem YU {n:Nat}{l:List Nat}(X:bM n l){i k:Nat}(hi:i<n)(hk:k<n):bM n (TO l i k):=by
 have hl:=X.len
 have at': ∀j,j<n->(TO l i k).getD j 0=if j=k then l.getD i 0 else if j=i then l.getD k 0 else l.getD j 0:=λj hj=>by
  unfold TO
  rw[bV (by simp;omega),List.getElem_set]
  by_cases e:k=j
  ·rw[if_pos e,if_pos e.symm]
  ·rw[if_neg e,if_neg (Ne.symm e),List.getElem_set]
   by_cases e2:i=j
   ·rw[if_pos e2,if_pos e2.symm]
   ·rw[if_neg e2,if_neg (Ne.symm e2)];exact (bV (by omega)).symm
 refine bM.EL (by unfold TO;simp [hl]) (λj hj=>?_) (λa c ha hc h=>?_)
 ·rw[at' j hj]
  split
  ·exact X.eM hi
  ·split
   ·exact X.eM hk
   ·exact X.eM hj
 ·rw[at' a ha,at' c hc] at h
  split at h<;>split at h<;>(try split at h)<;>(try split at h)
  all_goals first
   |omega
   |(have:=X.inj hi hi h;omega)
   |(have:=X.inj hi hk h;omega)
   |(have:=X.inj hk hi h;omega)
   |(have:=X.inj hi hc h;omega)
   |(have:=X.inj ha hi h;omega)
   |(have:=X.inj hk hk h;omega)
   |(have:=X.inj hk hc h;omega)
   |(have:=X.inj ha hk h;omega)
   |(have:=X.inj ha hc h;omega)
theorem YV (x:Nat)(l:List Int)(n:Nat)(h:H)(hn:n<=64)(n0:0<n)(ht:Tk h x l)(hl:l.length<9223372036854775808):
  Ev T MS [.ptr x 0,aB n] h (λv h'=> ∃id q,Mp h' v n id q/\h.next<=id/\Tk h' x l/\Gs x h h'):=by
 refine aX MB rfl ?_
 simp (disch:=first|omega|(simp only[Qn];(try omega);done)|fail) only[go_sem,Bo,aF]
 refine (Uj n h (by omega)).mono ?_
 rintro v h1 ⟨o1,f1⟩
 obtain⟨id,m1,hid⟩:=Mp.of n0 (bM.one n) o1
 have m1':=m1
 obtain⟨⟨cap,rest0,rfl,_,_⟩,_⟩:=m1'
 have hxn:x<h.next:=by obtain⟨_,_,_,_,_,_,hx⟩:=ht;exact hx
 have hne:id≠x:=by omega
 simp (disch:=first|omega|(simp only[Qn];(try omega);done)|fail) only[go_sem]
 refine aJ (λk' vars hh=> ∃(i:Nat) (q:List Nat),(∃g:Nat->V,vars= [.ptr x 0,aB n,g 2,.sl id 0 n cap,aB i,g 5,g 6])/\i<n/\Mp hh (.sl id 0 n cap) n id q/\Tk hh x l/\Gs x h hh/\k'=n-i) n
  ⟨0,bZ n,aA rfl,n0,m1,ht.mono f1,Gs.of f1,rfl⟩ ?_
 rintro k' vars h2 ⟨i,q,⟨g,rfl⟩,hi,m2,t2,f2,rfl⟩
 by_cases hlt:(i:Int)+1<(n:Int)
 case neg=>
  have e1:=eX hlt
  simp (disch:=first|omega|(simp only[Qn];(try omega);done)|fail) only[go_sem,e1]
  exact⟨id,q,m2,hid,t2,f2⟩
 have e1:=jZ hlt
 simp (disch:=first|omega|(simp only[Qn];(try omega);done)|fail) only[go_sem,e1]
 refine (rX x l ((n:Int)-(i:Int)) h2 t2 hl (by omega) (by omega)).mono ?_
 rintro _ h3 ⟨z,rfl,hz0,hz1,t3,f3⟩
 obtain⟨c,rfl⟩: ∃c:Nat,z=(c:Int):=⟨z.toNat,by omega⟩
 obtain⟨k,hk⟩: ∃k,k=i+c:=⟨_,rfl⟩
 have ek:(i:Int)+(c:Int)=(k:Int):=by omega
 have hkn:k<n:=by omega
 have m3:=m2.mono f3.next (f3.get id (by obtain⟨⟨_,_,_,h5,_⟩,_⟩:=m2;exact h5) hne)
 obtain⟨⟨cap',rest,e,hid3,g3⟩,Q⟩:=m3
 cases e
 have ql:=Q.len
 have cell: ∀hh:H,∀l':List Nat,l'.length=n->hh.get id=some (.cells false (ints (zi l')++rest))-> ∀j,j<n->hh.cell id j=some (aB (l'.getD j 0:Nat)):=λhh l' hl' hg j hj=>by
  rw[H.aG hg,Se (by rw[aS,aT];omega),Ee (by omega)]
 have ci:=cell h3 q ql g3 i hi
 have ck:=cell h3 q ql g3 k hkn
 have a1:decide ((i:Int)<0)=false:=eX (by omega)
 have a2:decide ((n:Int)<=(i:Int))=false:=eX (by omega)
 have a3:decide ((k:Int)<0)=false:=eX (by omega)
 have a4:decide ((n:Int)<=(k:Int))=false:=eX (by omega)
 have pt: ∀(hh:H) (l':List Nat) (j y:Nat),l'.length=n->j<n->fJ (some (.cells false (ints (zi l')++rest))) hh id j [aB y]=some (hh.set id (some (.cells false (ints (zi (l'.set j y))++rest)))):=λhh l' j y hl' hj=>by
  rw[bQ (by rw[qU,aS,aT];omega),JU (by omega)]
 simp (disch:=first|omega|(simp only[Qn];(try omega);done)|fail) only[go_sem,ek]
 simp (disch:=first|omega|(simp only[Qn];(try omega);done)|fail) only[go_sem,a1,a2,a3,a4,ci,ck,g3,pt _ q i (q.getD k 0) ql hi,pt _ (q.set i (q.getD k 0)) k (q.getD i 0) (by simp [ql]) hkn]
 rw[gU i]
 obtain⟨h4,h4e⟩: ∃h4:H,h4=((H.mk h3.tr (h3.next+16)).set id (some (.cells false (ints (zi (q.set i (q.getD k 0)))++rest)))).set id (some (.cells false (ints (zi ((q.set i (q.getD k 0)).set k (q.getD i 0)))++rest))):=⟨_,rfl⟩
 rw[←h4e]
 have n4:h4.next=h3.next+16:=by rw[h4e];rfl
 have o4: ∀j,j≠id->h4.get j=h3.get j:=λj hj=>by rw[h4e,H.aH _ hj,H.aH _ hj];rfl
 have g4:h4.get id=some (.cells false (ints (zi (TO q i k))++rest)):=by rw[h4e,H.aV];rfl
 refine⟨n-(i+1),by omega,i+1,TO q i k,aA rfl,by omega,⟨⟨cap,rest,rfl,by omega,g4⟩,YU Q hi hkn⟩,t3.low (by omega) (λj hj=>o4 j (by omega)),?_,rfl⟩
 have f23:=f2.trans f3
 have:=f23.next
 exact⟨by omega,λj hj hjx=>by rw[o4 j (by omega)];exact f23.get j hj hjx⟩
theorem abQ (h:H){v u:V}(hv1:v.one=true)(hu1:u.one=true):Qq h (.agg [v,u])=some (.ptr h.next 0,h.new (.cells false [v,u])):=Fm h _ (by simp [hv1,hu1])
theorem XI {x y:V}(h:H)(id:Nat)(u:V):fJ (bT [x,y]) h id 1 [u]=some (h.set id (bT [x,u])):=by
 simp [fJ,putAt]
theorem OT {v z w:V}(hc:v.cells= [v])(ho:v.one=true):Eg [z,w] [(0,1,v)]=some (.agg [v,w]):=by
 have e1:putAt [z,w] 0 [v]=some [v,w]:=by simp [putAt]
 simp [Eg,jH,e1,hc,ho]
theorem Gs.cell {x:Nat}{a c:H}(f:Gs x a c){id off:Nat}(h1:id<a.next)(h2:id≠x):c.cell id off=a.cell id off:=by unfold H.cell;rw[f.get id h1 h2]
structure GJ (h hh:H)(T0 C D n:Nat)(l:List Int)(gens:LN):Prop where
 ex: ∃vg ws,hh.get C=bT [aB n,vg]/\eJ hh vg 1 ws (C+1)/\gI (λid=>id<=C∨ ∃off m c,vg= .sl id off m c) hh ws gens
 tk:Tk hh T0 l
 gD:hh.get D=bT [aB 0,.aC]
 dV: ∀g∈gens,bM n g
 nx:C<hh.next
 fr:Fr h hh
theorem LG (vl:V)(l:List Int)(most:Nat)(h:H)(hv:SI h vl l)(hl:l.length<9223372036854775808)(m1:1<=most)(m2:most<=60):
  Ev T Ye [vl,aB most] h (λv h'=> ∃(n:Nat) (vg:V) (gens:LN),v= .agg [aB n,vg]/\1<=n/\n<=most/\gens.length<=3/\(∀g∈gens,bM n g)/\SP h' vg gens/\Fr h h'):=by
 refine aX Xq rfl ?_
 obtain⟨D,hD⟩: ∃D,h.next=D:=⟨_,rfl⟩
 obtain⟨h1,e1,n1,g1,o1,f1⟩:=iB hD [aB 0,.aC]
 obtain⟨h2,e2,n2,g2,o2,f2⟩:=iB n1 [vl,aB 0]
 have wl:=SV.cY hv
 simp (disch:=omega) only[go_sem,tM,aF,hD,e1,OT wl.1 wl.2.1,abQ h1 (v:=vl) (u:= aB 0) wl.2.1 rfl,n1,e2]
 have tk2:Tk h2 (D+1) l:=⟨vl,0,g2,hv.mono (f1.trans f2),λid off len c e=>by have:=SV.in hv _ _ _ _ e;omega,lI _,by omega⟩
 refine (rX (D+1) l most h2 tk2 hl (by omega) (by omega)).mono ?_
 rintro _ h3 ⟨z,rfl,hz0,hz1,tk3,f3⟩
 obtain⟨n,hn⟩: ∃n:Nat,1+z=(n:Int):=⟨(1+z).toNat,by omega⟩
 have n3:=f3.next
 obtain⟨C,hC⟩: ∃C,h3.next=C:=⟨_,rfl⟩
 obtain⟨h4,e4,n4,g4,o4,f4⟩:=iB hC [aB 0,.aC]
 obtain⟨h5,e5,n5,g5,o5⟩:=zY h4 C [aB n,.aC]
 simp (disch:=omega) only[go_sem,hn,hC,e4,OT (v:= aB n) (z:= aB 0) (w:= .aC) rfl rfl,Vv h4 C 0 (v:= aB n) (u:= .aC) rfl rfl,g4,Me,e5]
 have tk5:Tk h5 (D+1) l:=tk3.low (by omega) (λid hid=>by rw[o5 id (by omega),o4 id (by omega)])
 refine (rX (D+1) l 4 h5 tk5 hl (by omega) (by omega)).mono ?_
 rintro _ h6 ⟨z2,rfl,hk0,hk1,tk6,f6⟩
 obtain⟨K,rfl⟩: ∃K:Nat,z2=(K:Int):=⟨z2.toNat,by omega⟩
 have n6:=f6.next
 simp (disch:=omega) only[go_sem]
 refine aJ (λk' vars hh=> ∃(k:Nat) (gens:LN),(∃g:Nat->V,vars= [vl,aB most,.ptr D 0,.ptr (D+1) 0,.ptr C 0,aB k,g 6,g 7,g 8,g 9,g 10])/\gens.length+k<=3/\GJ h hh (D+1) C D n l gens/\k'=k) K
  ⟨K, [],aA rfl,by simp;omega,⟨⟨.aC, [],by rw[f6.get C (by omega) (by omega)];exact g5,eJ.aC _ _ _,trivial⟩,tk6,?_,λg hg=>absurd hg List.not_mem_nil,by omega,?_⟩,rfl⟩ ?_
 ·rw[f6.get D (by omega) (by omega),o5 D (by omega),o4 D (by omega),f3.get D (by omega) (by omega),o2 D (by omega)];exact g1
 ·refine⟨by omega,λid hid=>?_⟩
  rw[f6.get id (by omega) (by omega),o5 id (by omega),o4 id (by omega),f3.get id (by omega) (by omega),o2 id (by omega),o1 id (by omega)]
 rintro k' vars h7 ⟨k,gens,⟨g,rfl⟩,hk,J,rfl⟩
 have cn:h7.cell C 0=some (aB n):=by
  obtain⟨⟨vg,ws,gC,_⟩,_⟩:=J
  rw[H.aG gC];rfl
 by_cases hlt:(0:Int)<(k':Int)
 case neg=>
  have d1:=eX hlt
  obtain⟨⟨vg,ws,gC,ow,pvs⟩,tk,gD,dV,nx,fr⟩:=J
  have rC:=Ro gC
  obtain⟨h8,e8,n8,g8,o8⟩:=zY h7 D [aB n,vg]
  have r8:=Ro g8
  have wg:=SV.cY ow.sv
  simp (disch:=omega) only[go_sem,d1,rC,Vv h7 D 0 (v:= aB n) (u:=vg) rfl wg.2.1,gD,Me,e8,r8]
  have x8:Fx (λid=>id<=C∨ ∃off m c,vg= .sl id off m c) h7 h8:=⟨by omega,λid _ hw=>o8 id (λe=>hw (.inl (by omega)))⟩
  have sv8:SV h8 vg 1 ws:=(ow.uB (h':=h8) (by omega) (λid off m c e hid=>by have:=(ow.in _ _ _ _ e).2.1;exact o8 id (by omega))).sv
  refine⟨n,vg,gens,rfl,by omega,by omega,by omega,dV,⟨ws,sv8,?_⟩,⟨by have:=fr.next;omega,λid hid=>by rw[o8 id (by omega)];exact fr.get id hid⟩⟩
  have pv8:=gI.fx pvs x8
  have hl8:=bH.length pv8
  exact bH.oT (by simpa using hl8) λi hi hj=>by
   have:=(bH.get pv8 i hi (by omega)).si
   simpa using this
 have d1:=jZ hlt
 have nx:=J.nx
 have hn0:0<n:=by omega
 have hn64:n<=64:=by omega
 simp (disch:=omega) only[go_sem,d1,cn]
 refine (Uj n h7 (by omega)).mono ?_
 rintro v6 h8 ⟨o6,f8⟩
 obtain⟨id6,mp8,hid6⟩:=Mp.of hn0 (bM.one n) o6
 simp (disch:=omega) only[go_sem]
 refine (rX (D+1) l 3 h8 (J.tk.mono f8) hl (by omega) (by omega)).mono ?_
 rintro _ h9 ⟨z3,rfl,_,_,tk9,f9⟩
 have fT9:Gs (D+1) h7 h9:=(Gs.of f8).trans f9
 have mp9:Mp h9 v6 n id6 (bZ n):=mp8.mono f9.next (f9.get id6 (by obtain⟨⟨_,_,_,h5,_⟩,_⟩:=mp8;exact h5) (by omega))
 have cell7: ∀hh,Gs (D+1) h7 hh->hh.cell C 0=some (aB n):=λhh f=>by rw[f.cell nx (by omega)];exact cn
 simp (disch:=omega) only[go_sem]
 refine nX (λvs hh=> ∃(v6:V) (x:List Nat),(∃g:Nat->V,vs= [vl,aB most,.ptr D 0,.ptr (D+1) 0,.ptr C 0,aB (k':Int),v6,g 7,g 8,g 9,g 10])/\SI hh v6 (zi x)/\bM n x/\(∀id off len cap,v6= .sl id off len cap->h7.next<=id)/\Tk hh (D+1) l/\Gs (D+1) h7 hh) ?_ ?_
 ·refine aZ (λ_=>?_) (λ_=>?_)
  ·simp (disch:=omega) only[go_sem,cell7 h9 fT9]
   refine (YV (D+1) l n h9 hn64 hn0 tk9 hl).mono ?_
   rintro w h10 ⟨id,q,mp,hid,tk10,f10⟩
   have n9:=fT9.next
   simp (disch:=omega) only[go_sem]
   refine .inl ⟨w,q,aA rfl,mp.si,mp.dV,λid' off len cap e=>?_,tk10,fT9.trans f10⟩
   obtain⟨⟨_,_,e2,_⟩,_⟩:=mp
   rw[e2] at e;cases e;omega
  ·simp (disch:=omega) only[go_sem,cell7 h9 fT9]
   refine (rX (D+1) l n h9 tk9 hl (by omega) (by omega)).mono ?_
   rintro _ h10 ⟨z4,rfl,a4,b4,tk10,f10⟩
   obtain⟨a,rfl⟩: ∃a:Nat,z4=(a:Int):=⟨z4.toNat,by omega⟩
   have fT10:=fT9.trans f10
   simp (disch:=omega) only[go_sem,cell7 h10 fT10]
   refine (rX (D+1) l ((n:Int)-(a:Int)) h10 tk10 hl (by omega) (by omega)).mono ?_
   rintro _ h11 ⟨z5,rfl,a5,b5,tk11,f11⟩
   obtain⟨c,rfl⟩: ∃c:Nat,z5=(c:Int):=⟨z5.toNat,by omega⟩
   have fT11:=fT10.trans f11
   have f911:=f10.trans f11
   have id9:id6<h9.next:=by obtain⟨⟨_,_,_,h5,_⟩,_⟩:=mp9;exact h5
   have mp11:Mp h11 v6 n id6 (bZ n):=mp9.mono f911.next (f911.get id6 id9 (by omega))
   have eb:(a:Int)+1+(c:Int)=((a+1+c:Nat):Int):=by omega
   simp (disch:=omega) only[go_sem,eb]
   refine (IZ h11 v6 n id6 a (a+1+c) hn64 mp11 (by omega) (by omega)).mono ?_
   rintro w h12 ⟨hw,mp12,f12⟩
   have hw':=hw.symm
   subst hw'
   have n8:=fT9.next
   have n9:=f911.next
   have n12:=f12.next
   have fT12:Gs (D+1) h7 h12:=⟨by omega,λid hid hne=>by rw[f12.get id (by omega) (by omega),f911.get id (by omega) hne];exact fT9.get id hid hne⟩
   have tk12:Tk h12 (D+1) l:=tk11.low n12 (λid hid=>f12.get id (by omega) (by omega))
   have id12:id6<h12.next:=by omega
   simp (disch:=omega) only[go_sem,cell7 h12 fT12]
   refine (rX (D+1) l n h12 tk12 hl (by omega) (by omega)).mono ?_
   rintro _ h13 ⟨z6,rfl,a6,b6,tk13,f13⟩
   obtain⟨a2,rfl⟩: ∃a:Nat,z6=(a:Int):=⟨z6.toNat,by omega⟩
   simp (disch:=omega) only[go_sem]
   refine (rX (D+1) l 2 h13 tk13 hl (by omega) (by omega)).mono ?_
   rintro _ h14 ⟨z7,rfl,a7,b7,tk14,f14⟩
   have fT14:=(fT12.trans f13).trans f14
   have f1214:=f13.trans f14
   have n14:=f1214.next
   have mp14:Mp h14 v6 n id6 _:=mp12.mono f1214.next (f1214.get id6 id12 (by omega))
   have fr6: ∀id off len cap,v6= .sl id off len cap->h7.next<=id:=λid' off len cap e=>by
    obtain⟨⟨_,_,e2,_⟩,_⟩:=mp14
    rw[e2] at e;cases e;omega
   simp (disch:=omega) only[go_sem]
   refine aZ (λhz=>?_) (λhz=>?_)
   ·have v6e:=SV.eQ mp14.si
    simp (disch:=omega) only[go_sem,cell7 h14 fT14]
    have fb:Fr h14 (H.mk h14.tr (h14.next+17)):=(Fr.refl h14).bG (by omega)
    refine (Uj n _ (by omega)).mono ?_
    rintro w h15 ⟨ow,f15⟩
    obtain⟨idw,mp15,hidw⟩:=Mp.of hn0 (bM.one n) ow
    have n15:=f15.next
    have hb:(H.mk h14.tr (h14.next+17)).next=h14.next+17:=rfl
    rw[hb] at hidw n15
    have f1415:=fb.trans f15
    have fT15:=fT14.trans (Gs.of f1415)
    have idw15:idw<h15.next:=by obtain⟨⟨_,_,_,h5,_⟩,_⟩:=mp15;exact h5
    simp (disch:=omega) only[go_sem,cell7 h15 fT15]
    refine (rX (D+1) l ((n:Int)-(a2:Int)) h15 (tk14.mono f1415) hl (by omega) (by omega)).mono ?_
    rintro _ h16 ⟨z8,rfl,a8,b8,tk16,f16⟩
    obtain⟨c2,rfl⟩: ∃c:Nat,z8=(c:Int):=⟨z8.toNat,by omega⟩
    have fT16:=fT15.trans f16
    have n16:=f16.next
    have n147:=fT14.next
    have mp16:Mp h16 w n idw (bZ n):=mp15.mono f16.next (f16.get idw idw15 (by omega))
    have eb2:(a2:Int)+1+(c2:Int)=((a2+1+c2:Nat):Int):=by omega
    simp (disch:=omega) only[go_sem,cell7 h16 fT16,eb2]
    refine (IZ h16 w n idw a2 (a2+1+c2) hn64 mp16 (by omega) (by omega)).mono ?_
    rintro w' h17 ⟨hw2,mp17,f17⟩
    have hw2':=hw2.symm
    subst hw2'
    have n17:=f17.next
    have fT17:Gs (D+1) h7 h17:=⟨by have:=fT16.next;omega,λid hid hne=>by rw[f17.get id (by have:=fT16.next;omega) (by omega)];exact fT16.get id hid hne⟩
    have tk17:Tk h17 (D+1) l:=tk16.low n17 (λid hid=>f17.get id (by omega) (by omega))
    have id14:id6<h14.next:=by obtain⟨⟨_,_,_,h5,_⟩,_⟩:=mp14;exact h5
    have mp617:Mp h17 v6 n id6 _:=mp14.mono (by omega) (by rw[f17.get id6 (by omega) (by omega),f16.get id6 (by omega) (by omega),f1415.get id6 id14])
    simp (disch:=omega) only[go_sem,cell7 h17 fT17,v6e]
    refine (yR v6 w _ _ h17 (by rw[mp617.dV.len];omega) mp617.si mp17.si (λj hj=>by rw[mp17.dV.len];exact mp617.dV.eM (by rw[←mp617.dV.len];exact hj))).mono ?_
    rintro v h18 ⟨s18,f18,l18⟩
    have fT18:=fT17.trans (Gs.of f18)
    simp (disch:=omega) only[go_sem,cell7 h18 fT18,v6e]
    exact .inl ⟨v,_,aA rfl,s18,mp617.dV.mul mp17.dV,λid off len cap e=>by have:=l18 _ _ _ _ e;have:=fT17.next;omega,tk17.mono f18,fT18⟩
   ·simp (disch:=omega) only[go_sem]
    exact .inl ⟨v6,_,aA rfl,mp14.si,mp14.dV,fr6,tk14,fT14⟩
 clear mp8 mp9 o6 f8 tk9 fT9 v6 h8 h9 f9 hid6
 rintro vars h8 ⟨v6,x,⟨g,rfl⟩,sx,X,fr6,tk8,f8⟩
 obtain⟨⟨vg,ws,gC,ow,pvs⟩,_,gD,dV,_,fr⟩:=J
 have n8:=f8.next
 have hvin:=λid off m c (e:vg=V.sl id off m c)=>ow.in id off m c e
 have hlw:=bH.length pvs
 have gC8:h8.get C=bT [aB n,vg]:=by rw[f8.get C nx (by omega)];exact gC
 have c8:h8.cell C 1=some vg:=by rw[H.aG gC8];rfl
 have frn:=fr.next
 have Fr8:Fr h h8:=⟨by omega,λid hid=>by rw[f8.get id (by omega) (by omega)];exact fr.get id hid⟩
 have ow8:eJ h8 vg 1 ws (C+1):=ow.uB n8 λid off m c e hid=>by have:=(hvin _ _ _ _ e).2.1;exact f8.get id hid (by omega)
 have pv8:gI (λid=>id<=C∨ ∃off m c,vg= .sl id off m c) h8 ws gens:=gI.fx pvs ⟨n8,λid hid hw=>f8.get id hid (λe=>hw (.inl (by omega)))⟩
 have px:PV (λid=>id<=C∨ ∃off m c,vg= .sl id off m c) h8 v6 x:=by
  refine⟨sx,?_⟩
  cases v6 with
  |sl id off len cap=>
   have:=fr6 _ _ _ _ rfl
   rintro (h|⟨off',m',c',e⟩)
   ·omega
   ·have:=(hvin _ _ _ _ e).1;omega
  |_=>trivial
 obtain⟨h9,e9,n9,g9,o9,f9⟩:=iB (h:=h8) rfl [v6]
 have ow9:=ow8.fr f9
 obtain⟨h10,a10,p10⟩:=ow9.push (bytes:=24) (SV.one (by omega) g9 (.kn 1)) (n:=gens.length) (m:=1) (by omega) rfl (by omega) (by omega) (by omega)
 have n10:=p10.next
 rw[n9] at a10
 have apC:eA vg C:=λid off m c e e2=>by have:=(hvin _ _ _ _ e).2.1;omega
 have gC10:h10.get C=bT [aB n,vg]:=by rw[p10.old C (by omega) apC,o9 C (by omega)];exact gC8
 obtain⟨h11,e11,n11,g11,o11⟩:=zY h10 C [aB n,.sl (h8.next+1) 0 (gens.length+1) (.un 1)]
 simp (disch:=omega) only[go_sem,c8,dG _ (z:= .aC) px.eV.1 px.eV.2,e9,a10,gC10,XI,e11]
 have ek:(k':Int)- 1=((k'- 1:Nat):Int):=by omega
 rw[ek]
 have old: ∀id,id<h8.next->id≠C->eA vg id->h11.get id=h8.get id:=λid h1 h2 h3=>by rw[o11 id h2,p10.old id (by omega) h3,o9 id (by omega)]
 have apl: ∀id,id<=C->eA vg id:=λid hid id' off m c e e2=>by have:=(hvin _ _ _ _ e).2.1;omega
 have ow11:=p10.own (by omega) rfl (b:=C+1) (by omega)
 rw[n9] at ow11
 have x11:Fx (λid=>id<=C∨ ∃off m c,vg= .sl id off m c) h8 h11:=⟨by omega,λid hid hw=>old id hid (λe=>hw (.inl (by omega))) (λid' off m c e e2=>hw (.inr ⟨off,m,c,e2▸e⟩))⟩
 have hw11: ∀id,id<h8.next->(id<=C∨ ∃off m c,V.sl (h8.next+1) 0 (gens.length+1) (.un 1)= .sl id off m c)->(id<=C∨ ∃off m c,vg= .sl id off m c):=λid hid hw=>by
  rcases hw with hw|⟨off,m,c,e⟩
  ·exact .inl hw
  ·cases e;omega
 refine⟨k'- 1,by omega,k'- 1,gens++ [x],aA rfl,by rw[qU];simp;omega,⟨⟨_,_,g11,ow11.uB (by omega) (λid off m c e hid=>by cases e;exact o11 _ (by omega)),(gI.go pv8 x11 hw11).append (gI.one (PV.go px x11 hw11))⟩,tk8.low (by omega) (λid hid=>old id (by omega) (by omega) (apl id (by omega))),?_,λu hu=>?_,by omega,⟨by omega,λid hid=>?_⟩⟩,rfl⟩
 ·rw[old D (by omega) (by omega) (apl D (by omega)),f8.get D (by omega) (by omega)];exact gD
 ·rcases Rl.1 hu with hu|hu
  ·exact dV u hu
  ·simp at hu;subst hu;exact X
 ·rw[old id (by omega) (by omega) (apl id (by omega))];exact Fr8.get id hid
theorem TD (vg:V)(n:Nat)(l:LN)(h:H)(n0:1<=n)(n7:n<=64)(hl:l.length<=16)(hv:SP h vg l)(hP: ∀g∈l,bM n g):
  Ev T Yd [.agg [aB n,vg]] h (λv h'=>v= aB 0/\Fr h h'):=by
 refine aX Zd rfl ?_
 obtain⟨B,hB⟩: ∃B,h.next=B:=⟨_,rfl⟩
 obtain⟨h1,e1,n1,g1,o1,f1⟩:=iB hB [aB n,vg]
 have d1:decide ((n:Int)<1)=false:=eX (by omega)
 have d2:decide ((64:Int)<(n:Int))=false:=eX (by omega)
 have lv:=hv.lens
 rw[nW] at lv
 have d3:decide ((16:Int)<(l.length:Int))=false:=eX (by omega)
 obtain⟨id,off,ws,sh,hid,hwl,hc,hall⟩:=hv.open
 obtain⟨ws',sv',_⟩:=hv
 have wv:=SV.cY sv'
 have ev:=SV.eQ sv'
 rw[nW] at sh hid hwl hc
 have cA: ∀hh,Fr h1 hh->hh.cell B 0=some (aB n):=λhh f=>by rw[f.cell (by omega),H.aG g1];rfl
 have cB: ∀hh,Fr h1 hh->hh.cell B 1=some vg:=λhh f=>by rw[f.cell (by omega),H.aG g1];rfl
 simp (disch:=omega) only[go_sem,tH,aF,hB,Pn h (v:= aB n) (u:=vg) rfl wv.2.1,e1,cA h1 (Fr.refl _),cB h1 (Fr.refl _),d1,d2,lv,d3]
 refine aJ (λk' vs hh=> ∃(i:Nat),(∃g:Nat->V,vs= [g 0,.ptr B 0,g 2,aB i,g 4,g 5,g 6,g 7,g 8,g 9])/\i<=l.length/\Fr h1 hh/\k'=l.length-i) l.length
  ⟨0,aA rfl,lI _,Fr.refl h1,rfl⟩ ?_
 rintro k' vars h2 ⟨i,⟨g,rfl⟩,hi,f,rfl⟩
 by_cases hlt:(i:Int)<(l.length:Int)
 case neg=>
  have d4:=eX hlt
  simp (disch:=omega) only[go_sem,cB h2 f,lv,d4]
  exact f1.trans f
 have d4:=jZ hlt
 have hi':i<l.length:=by omega
 have F2:=f1.trans f
 have cell: ∀hh,Fr h hh->hh.cell id (off+i)=some (ws.getD i .undef):=λhh f=>by rw[f.cell (hid (by omega)),hc i hi']
 have s0:=Da hall hi'
 have X:bM n (l.getD i []):=hP _ (bF hi')
 generalize ws.getD i .undef=vx at cell s0
 have lx:=s0.lens
 rw[aT,X.len] at lx
 have evx:=SV.eQ s0
 simp (disch:=omega) only[go_sem,cB h2 f,lv,d4,sh.ixa,cell h2 F2]
 refine (Lx vx _ h2 (by rw[aT,X.len];omega) (s0.mono F2)).mono ?_
 rw[Tz X n0 (by omega)]
 rintro _ h3 ⟨rfl,f3⟩
 have f13:=f.trans f3
 simp (disch:=omega) only[go_sem]
 refine aZ (λhc=>(hc rfl).elim) (λ_=>?_)
 simp (disch:=omega) only[go_sem,cA h3 f13,cB h3 f13,sh.ixa,cell h3 (f1.trans f13),lx,ev,evx]
 refine aZ (λhc=>(hc rfl).elim) (λ_=>?_)
 simp (disch:=omega) only[go_sem]
 rw[gU i]
 exact⟨l.length-(i+1),by omega,i+1,aA rfl,by omega,f13.bG (by omega),rfl⟩
theorem ajV (vg:V)(n:Nat)(l:LN)(h:H)(n0:1<=n)(n7:n<=7)(hl:l.length<=16)(hv:SP h vg l)(hP: ∀g∈l,bM n g):
  Ev T MV [.agg [aB n,vg]] h (λv h'=> ∃vc O R,v= .tup [vc,aB 0]/\GC (λid=>id<h.next) h' vc n O R (eH n (· ∈l))/\Fr h h'):=by
 refine aX KU rfl ?_
 obtain⟨B,hB⟩: ∃B,h.next=B:=⟨_,rfl⟩
 obtain⟨h1,e1,n1,g1,o1,f1⟩:=iB hB [aB n,vg]
 obtain⟨h2,e2,n2,g2,o2,f2⟩:=iB n1 [aB 0,.aC,.aC]
 have hv0:=hv
 obtain⟨ws',sv',_⟩:=hv
 have wv:=SV.cY sv'
 have g12:h2.get B=bT [aB n,vg]:=by rw[o2 B (by omega)];exact g1
 have r2:=Ro g12
 simp (disch:=omega) only[go_sem,By,aF,hB,Pn h (v:= aB n) (u:=vg) rfl wv.2.1,e1,n1,e2,r2]
 have F2:=f1.trans f2
 refine (TD vg n l h2 n0 (by omega) hl (hv0.mono F2) hP).mono ?_
 rintro _ h3 ⟨rfl,f3⟩
 have g13:h3.get B=bT [aB n,vg]:=by rw[f3.get B (by omega)];exact g12
 have c0:h3.cell B 0=some (aB n):=by rw[H.aG g13];rfl
 have c1:h3.cell B 1=some vg:=by rw[H.aG g13];rfl
 simp (disch:=omega) only[go_sem]
 refine aZ (λhc=>(hc rfl).elim) (λ_=>?_)
 simp (disch:=omega) only[go_sem,c0,c1]
 refine (Ku vg n l h3 n0 n7 (by omega) (hv0.mono (F2.trans f3)) hP).mono ?_
 rintro _ h4 ⟨vc,O,R,rfl,gc,f4⟩
 have n3:=f3.next
 have n4:=f4.next
 have g4:h4.get (B+1)=bT [aB 0,.aC,.aC]:=by rw[f4.get _ (by omega),f3.get _ (by omega)];exact g2
 obtain⟨vO,vR,wsO,wsR,e,t1,_,_,t2,_,_⟩:=gc.cw
 subst e
 obtain⟨h5,e5,n5,g5,o5⟩:=zY h4 (B+1) [aB n,vO,vR]
 have r5:=aW g5
 simp (disch:=omega) only[go_sem,dR h4 (B+1) 0 (v:= aB n) (u:=vO) (w:=vR) rfl t1.cY.2.1 t2.cY.2.1,g4,dX,e5,r5]
 have F4:=(F2.trans f3).trans f4
 have x5:Fx (λid=>id<h3.next) h4 h5:=⟨by omega,λid _ hid=>o5 id (by omega)⟩
 exact⟨_,O,R,rfl,gc.go x5 (λid _ hid=>by omega),⟨by omega,λid hid=>by rw[o5 id (by omega)];exact F4.get id hid⟩⟩
section
variable {n:Nat} {G:List Nat->Prop} {L:LN} {K:List Nat}
theorem ZV (E:gK G L){y:List Nat}(hy:G y):L.idxOf y<L.length/\L.getD (L.idxOf y) []=y:=by
 have h1:=(E.mem y).2 hy
 have h2:=List.idxOf_lt_length_iff.2 h1
 refine⟨h2,?_⟩
 rw[List.getD,iH h2]
 simp
theorem Sh.lt (k:Sh n G L K){r:Nat}(hr:r∈K):r<L.length:=(jJ.1 (k.perm.mem_iff.1 hr)).1
theorem Sh.nd (k:Sh n G L K):K.Nodup:=k.perm.nodup_iff.2 (by unfold jT;exact List.nodup_range.filter _)
variable (hG:yF n G) (E:gK G L) (k:Sh n G L K)
include hG E k
theorem Kw {j:Nat}(hj:j<L.length):pE G L K j<K.length/\cR G L (K.getD (pE G L K j) 0) j:=by
 obtain⟨i,hi,h⟩:=Pq hG E k.perm hj
 have e:=Sd hG E k.perm hi h
 rw[e]
 exact⟨hi,(iM.1 h).2⟩
end
def afO (n:Nat)(x:List Nat):Nat->Nat->Nat
 |0,k=>k
 |f+1,k=>if pw n x k=bZ n then k else afO n x f (k+1)
def DP (n:Nat)(x:List Nat):Nat:=afO n x 420 1
theorem QS {n:Nat}{x:List Nat}(X:bM n x): ∀f k,0<k->k<=pZ x n->pZ x n<=k+f->afO n x f k=pZ x n
 |0,k,_,h1,h2=>by show k=_;omega
 |f+1,k,h0,h1,h2=>by
  unfold afO
  split
  ·rename_i e
   exact Nat.le_antisymm h1 (Nat.le_of_dvd h0 ((Ll X k).2 e))
  ·rename_i e
   refine QS X f (k+1) (by omega) ?_ (by omega)
   by_cases h:k=pZ x n
   ·exact absurd ((Ll X k).1 (by rw[h];exact Nat.dvd_refl _)) e
   ·omega
theorem aiY {n:Nat}{x:List Nat}(X:bM n x)(hn:n<=7):pZ x n=DP n x:=
 (QS X 420 1 (by omega) (Vc X) (by have:=Nat.le_of_dvd (by omega) (HJ X hn);omega)).symm
def cRb (L:LN)(i j:Nat):Bool:=L.any λc=>kC (L.getD i []) c==L.getD j []
def IB (L:LN)(i:Nat):List Nat:=(List.range L.length).filter (cRb L i)
def FX (L:LN):List Nat:=(List.range L.length).filter λj=>(List.range j).all λi=>!cRb L i j
def SK (L:LN)(K:List Nat)(j:Nat):Nat:=K.findIdx λr=>cRb L r j
def alP (n:Nat)(L:LN)(r s:Nat):Bool:=decide (DP n (L.getD r [])<DP n (L.getD s [])∨DP n (L.getD r [])=DP n (L.getD s [])/\((IB L r).length<(IB L s).length∨(IB L r).length=(IB L s).length/\r<s))
def MG (n:Nat)(L:LN)(K:List Nat)(z:Int)(r:Nat):Nat:=SK L K (L.idxOf (pw n (L.getD r []) (z%(DP n (L.getD r []):Nat)).toNat))
def aiE (n:Nat)(L:LN)(K:List Nat):Nat:=uU (K.map λr=>DP n (L.getD r []))
def IX (L:LN)(r:Nat):Bool:=L.any λc=>kC (L.getD r []) c==eN (L.getD r [])
section
variable {n:Nat} {G:List Nat->Prop} {L:LN} {K:List Nat}
theorem adA (E:gK G L){x y:List Nat}:cj G x y↔(L.any λc=>kC x c==y)=true:=by
 rw[List.any_eq_true]
 constructor
 ·rintro⟨c,hc,e⟩
  exact⟨c,(E.mem c).2 hc,by simpa using e⟩
 ·rintro⟨c,hc,e⟩
  exact⟨c,(E.mem c).1 hc,by simpa using e⟩
theorem LF (E:gK G L){i j:Nat}:cR G L i j↔cRb L i j=true:=adA E
theorem XT (E:gK G L)(i j:Nat)(d:Decidable (cR G L i j)): @decide (cR G L i j) d=cRb L i j:=by
 rw[Bool.eq_iff_iff,decide_eq_true_iff]
 exact LF E
theorem Sc (E:gK G L)(i:Nat):dW G L i=IB L i:=by
 unfold dW IB
 exact List.filter_congr λj _=>XT E i j _
theorem ZK (E:gK G L):jT G L L.length=FX L:=by
 unfold jT FX
 refine List.filter_congr λj _=>?_
 classical
 rw[Bool.eq_iff_iff,decide_eq_true_iff,List.all_eq_true]
 unfold OY
 constructor
 ·intro h i hi
  have:=h i (Kq.1 hi)
  rw[LF E] at this
  simpa using this
 ·intro h i hi
  have:=h i (Kq.2 hi)
  rw[LF E]
  simpa using this
theorem DW (E:gK G L)(j:Nat):pE G L K j=SK L K j:=by
 unfold pE SK
 congr 1
 funext r
 exact XT E r j _
theorem VK (E:gK G L)(r:Nat):zH G L r=IX L r:=by
 unfold zH IX
 classical
 rw[Bool.eq_iff_iff,decide_eq_true_iff]
 exact adA E
theorem aoD (hG:yF n G)(E:gK G L): ∀x∈L,bM n x:=λx hx=>hG.dV ((E.mem x).1 hx)
theorem Xg (hG:yF n G)(E:gK G L)(hn:n<=7){r:Nat}(hr:r<L.length):pZ (L.getD r []) n=DP n (L.getD r []):=aiY (aoD hG E _ (bF hr)) hn
theorem afM (hG:yF n G)(E:gK G L)(hn:n<=7){r s:Nat}(hr:r<L.length)(hs:s<L.length):kLt n G L r s↔alP n L r s=true:=by
 unfold kLt alP
 rw[decide_eq_true_iff,Xg hG E hn hr,Xg hG E hn hs,Sc E,Sc E]
def Si (n:Nat)(L:LN)(K:List Nat):Bool:=K.isPerm (FX L)&&decide (K.Pairwise λr s=>alP n L r s=true)
theorem Si.isK (hG:yF n G)(E:gK G L)(hn:n<=7)(h:Si n L K=true):Sh n G L K:=by
 unfold Si at h
 rw[Bool.and_eq_true,decide_eq_true_iff] at h
 have p:K.Perm (FX L):=List.isPerm_iff.1 h.1
 have hm: ∀r∈K,r<L.length:=λr hr=>by
  have:=p.mem_iff.1 hr
  unfold FX at this
  exact Kq.1 (BF.1 this).1
 exact⟨by rw[ZK E];exact p,List.Pairwise.imp_of_mem (λhr hs h=>(afM hG E hn (hm _ hr) (hm _ hs)).2 h) h.2⟩
theorem Si.eq (hG:yF n G)(E:gK G L)(hn:n<=7){K0:List Nat}(h:Si n L K0=true)(k:Sh n G L K):K=K0:=k.uniq (Si.isK hG E hn h)
theorem adZ (hG:yF n G)(E:gK G L)(hn:n<=7)(z:Int){r:Nat}(hr:r<L.length):Xp n G L K z r=MG n L K z r:=by
 unfold Xp MG
 rw[DW E,Xg hG E hn hr]
theorem GF (hG:yF n G)(E:gK G L)(hn:n<=7)(k:Sh n G L K):afU n L K=aiE n L K:=by
 unfold afU aiE
 congr 1
 exact List.map_congr_left λr hr=>Xg hG E hn (k.lt hr)
end
def anU (n:Nat)(S:LN)(w:List Nat):List Nat:=w.foldl (λx i=>bD x (S.getD i [])) (bZ n)
theorem FO {n:Nat}{S:LN}: ∀(w:List Nat) (x:List Nat),(∀i∈w,i<S.length)->eH n (· ∈S) x->eH n (· ∈S) (w.foldl (λx i=>bD x (S.getD i [])) x)
 | [],_,_,h=>h
 |i::w,x,hw,h=>FO w _ (λj hj=>hw j (by simp [hj])) (h.mul (bF (hw i (by simp))))
def TR (n:Nat)(S L:LN)(ws:LN):Bool:=
 L==ws.map (anU n S)&&ws.all (λw=>w.all λi=>decide (i<S.length))&&decide (L.Pairwise λx y=>vG x y=true)&&L.all (λx=>x.length==n)&&L.contains (bZ n)&&L.all λx=>S.all λg=>L.contains (bD x g)
theorem TR.alR {n:Nat}{S L:LN}{ws:LN}(h:TR n S L ws=true):gK (eH n (· ∈S)) L:=by
 unfold TR at h
 simp only[Bool.and_eq_true,beq_iff_eq,List.all_eq_true,decide_eq_true_iff,List.contains_iff_mem] at h
 obtain⟨⟨⟨⟨⟨h1,h2⟩,h3⟩,h4⟩,h5⟩,h6⟩:=h
 refine⟨List.Pairwise.imp_of_mem (λhx hy h=>(oB (by rw[h4 _ hx,h4 _ hy])).1 h) h3,λx=>⟨λhx=>?_,λhx=>?_⟩⟩
 ·rw[h1] at hx
  obtain⟨w,hw,rfl⟩:=Iw.1 hx
  exact FO w _ (h2 w hw) .one
 ·induction hx with
  |one=>exact h5
  |mul _ hg ih=>exact h6 _ ih _ hg
def S3:LN:= [[1,0,2], [0,2,1]]
def C4:LN:= [[1,2,3,0]]
def A4:LN:= [[1,2,0,3], [0,2,3,1]]
def L3:LN:= [[0,1,2], [0,2,1], [1,0,2], [1,2,0], [2,0,1], [2,1,0]]
def L4:LN:= [[0,1,2,3], [1,2,3,0], [2,3,0,1], [3,0,1,2]]
def LA:LN:= [[0,1,2,3], [0,2,3,1], [0,3,1,2], [1,0,3,2], [1,2,0,3], [1,3,2,0], [2,0,1,3], [2,1,3,0], [2,3,0,1], [3,0,2,1], [3,1,0,2], [3,2,1,0]]
theorem pF:gK (eH 3 (· ∈S3)) L3:=TR.alR (ws:= [[], [1], [0], [1,0], [0,1], [0,1,0]]) (by decide+kernel)
theorem Jb:gK (eH 4 (· ∈C4)) L4:=TR.alR (ws:= [[], [0], [0,0], [0,0,0]]) (by decide+kernel)
theorem Zj:gK (eH 4 (· ∈A4)) LA:=TR.alR (ws:= [[], [1], [1,1], [1,0], [0], [1,1,0], [0,0], [1,0,0], [0,1], [0,0,1], [0,1,1], [0,1,1,0]]) (by decide+kernel)
theorem Qd:Si 3 L3 [0,1,3]=true:=by decide+kernel
theorem QD:Si 4 L4 [0,2,1,3]=true:=by decide+kernel
theorem abW:Si 4 LA [0,3,1,2]=true:=by decide+kernel
def Xf (n:Nat)(x:List Nat):Bool:=x.length==n&&decide x.Nodup&&x.all λp=>decide (p<n)
theorem Wv {n:Nat}{x:List Nat}(h:Xf n x=true):bM n x:=by
 unfold Xf at h
 simp only[Bool.and_eq_true,beq_iff_eq,List.all_eq_true,decide_eq_true_iff] at h
 exact⟨h.1.1,h.1.2,h.2⟩
theorem anW: ∀g∈S3,bM 3 g:=λg hg=>Wv ((List.all_eq_true.1 (show S3.all (Xf 3)=true by decide+kernel)) g hg)
theorem anN: ∀g∈C4,bM 4 g:=λg hg=>Wv ((List.all_eq_true.1 (show C4.all (Xf 4)=true by decide+kernel)) g hg)
theorem anY: ∀g∈A4,bM 4 g:=λg hg=>Wv ((List.all_eq_true.1 (show A4.all (Xf 4)=true by decide+kernel)) g hg)
def aeP (n:Nat)(L:LN)(K:List Nat):List (List Int×Nat×Nat):=K.map λr=>(zi (L.getD r []),DP n (L.getD r []),(IB L r).length)
theorem Ls {n:Nat}{G:List Nat->Prop}{L:LN}{h:H}(hG:yF n G)(E:gK G L)(hn:n<=7): ∀{ks:List Cls.KE} {K:List Nat},(∀r∈K,r<L.length)->bH (KR n G L h) ks K->bH (XL h) ks (aeP n L K)
 | [], [],_,_=>trivial
 | [],_::_,_,h=>h.elim
 |_::_, [],_,h=>h.elim
 |a::ks,r::K,hK,h=>⟨⟨h.1.rep,h.1.ord.trans (Xg hG E hn (hK r (by simp))),h.1.size.trans (by rw[Sc E])⟩,Ls hG E hn (λr hr=>hK r (by simp [hr])) h.2⟩
theorem Jw (h:H)(x y z:Int):sD h 1 [aB 0] 3 [(0,1,aB x),(1,1,aB y),(2,1,aB z)]=some (.sl h.next 0 3 (.kn 3),h.new (.cells false (ints [x,y,z]))):=by
 have e:dP [aB 0] 3= [aB 0,aB 0,aB 0]:=rfl
 simp [sD,jH,e,putAt,V.cells,V.one,ints]
theorem Wy (h:H)(x y z w:Int):sD h 1 [aB 0] 4 [(0,1,aB x),(1,1,aB y),(2,1,aB z),(3,1,aB w)]=some (.sl h.next 0 4 (.kn 4),h.new (.cells false (ints [x,y,z,w]))):=by
 have e:dP [aB 0] 4= [aB 0,aB 0,aB 0,aB 0]:=rfl
 simp [sD,jH,e,putAt,V.cells,V.one,ints]
theorem akU (h:H)(x y z w u v:Int):sD h 1 [aB 0] 6 [(0,1,aB x),(1,1,aB y),(2,1,aB z),(3,1,aB w),(4,1,aB u),(5,1,aB v)]=some (.sl h.next 0 6 (.kn 6),h.new (.cells false (ints [x,y,z,w,u,v]))):=by
 have e:dP [aB 0] 6= [aB 0,aB 0,aB 0,aB 0,aB 0,aB 0]:=rfl
 simp [sD,jH,e,putAt,V.cells,V.one,ints]
theorem aeC (h:H){v u:V}(hv:v.cells= [v]/\v.one=true)(hu:u.cells= [u]/\u.one=true):sD h 1 [.aC] 2 [(0,1,v),(1,1,u)]=some (.sl h.next 0 2 (.kn 2),h.new (.cells false [v,u])):=by
 have e:dP [V.aC] 2= [.aC,.aC]:=rfl
 simp [sD,jH,e,putAt,hv.1,hv.2,hu.1,hu.2]
theorem Mo (id o m:Nat)(c:uQ):(V.sl id o m c).cells= [.sl id o m c]/\(V.sl id o m c).one=true:=⟨rfl,rfl⟩
theorem Sb {h:H}{ID:Nat}(hid:h.next=ID)(l:List Int): ∃x,h.new (.cells false (ints l))=x/\x.next=ID+1/\SI x (.sl ID 0 l.length (.kn l.length)) l/\Fr h x:=by
 obtain⟨x,e,n,g,o,f⟩:=iB hid (ints l)
 exact⟨x,e,n,SV.all (by rw[aS,Nat.mul_one]) (by omega) g _,f⟩
theorem SP.two {h h':H}{id:Nat}{v u:V}{a b:List Nat}(hv:SI h v (zi a))(hu:SI h u (zi b))(hid:id<h'.next)(f:Fr h h')(g:h'.get id=bT [v,u])(cap:uQ):SP h' (.sl id 0 2 cap) [a,b]:=
 ⟨[v,u],SV.all rfl hid g _,hv.mono f,hu.mono f,trivial⟩
theorem SP.aoA {h h':H}{id:Nat}{v:V}{a:List Nat}(hv:SI h v (zi a))(hid:id<h'.next)(f:Fr h h')(g:h'.get id=bT [v])(cap:uQ):SP h' (.sl id 0 1 cap) [a]:=
 ⟨[v],SV.all rfl hid g _,hv.mono f,trivial⟩
theorem GC.sl {W:Nat->Prop}{h:H}{vc:V}{n:Nat}{O:LN}{R:qK}{G:List Nat->Prop}(g:GC W h vc n O R G): ∃vO vR,vc= .agg [aB n,vO,vR]/\vO.one=true/\vR.one=true/\eQ vO vO=true/\eQ vR vR=true:=by
 obtain⟨vO,vR,wsO,wsR,e,t1,_,_,t2,_,_⟩:=g.cw
 exact⟨vO,vR,e,t1.cY.2.1,t2.cY.2.1,t1.eQ,t2.eQ⟩
theorem BH (h:H):Ev T Wq [] h (λv h'=> ∃c1 c2 c3 O1 R1 O2 R2 O3 R3,v= .tup [c1,c2,c3]/\GC (λid=>id<h.next) h' c1 3 O1 R1 (eH 3 (· ∈S3))/\GC (λid=>id<h.next) h' c2 4 O2 R2 (eH 4 (· ∈C4))/\GC (λid=>id<h.next) h' c3 4 O3 R3 (eH 4 (· ∈A4))/\Fr h h'):=by
 refine aX To rfl ?_
 obtain⟨B,hB⟩: ∃B,h.next=B:=⟨_,rfl⟩
 obtain⟨h1,e1,n1,g1,o1,f1⟩:=iB hB [aB 0,.aC,.aC]
 obtain⟨h2,e2,n2,g2,o2,f2⟩:=iB n1 [aB 0,.aC,.aC]
 obtain⟨h3,e3,n3,g3,o3,f3⟩:=iB n2 [aB 0,.aC,.aC]
 obtain⟨h4,e4,n4,s4,f4⟩:=Sb n3 [1,0,2]
 obtain⟨h5,e5,n5,s5,f5⟩:=Sb n4 [0,2,1]
 obtain⟨h6,e6,n6,g6,o6,f6⟩:=iB n5 [.sl (B+1+1+1) 0 3 (.kn 3),.sl (B+1+1+1+1) 0 3 (.kn 3)]
 have F03:=(f1.trans f2).trans f3
 have F36:=(f4.trans f5).trans f6
 have sp6:SP h6 (.sl (B+1+1+1+1+1) 0 2 (.kn 2)) S3:=SP.two (a:= [1,0,2]) (b:= [0,2,1]) (h:=h5) (s4.mono f5) s5 (by omega) f6 g6 _
 simp (disch:=omega) only[go_sem,rL,aF,hB,e1,n1,e2,n2,e3,n3,Jw,e4,n4,e5,n5,aeC _ (Mo ..) (Mo ..),e6]
 refine (Ku _ 3 S3 h6 (by omega) (by omega) (by decide) sp6 anW).mono ?_
 rintro _ h7 ⟨c1,O1,R1,rfl,gc1,f7⟩
 have x1:=gc1.sl
 obtain⟨u1,w1,rfl,a1,b1,ea1,eb1⟩:=x1
 have n7:=f7.next
 have g7:h7.get B=bT [aB 0,.aC,.aC]:=by rw[f7.get B (by omega),F36.get B (by omega),o3 B (by omega),o2 B (by omega)];exact g1
 obtain⟨h8,e8,n8,g8,o8⟩:=zY h7 B [aB (3:Nat),u1,w1]
 obtain⟨Q,hQ⟩: ∃Q,h7.next=Q:=⟨_,rfl⟩
 rw[hQ] at n8
 obtain⟨h9,e9,n9,s9,f9⟩:=Sb n8 [1,2,3,0]
 obtain⟨h10,e10,n10,g10,o10,f10⟩:=iB n9 [.sl Q 0 4 (.kn 4)]
 have F810:=f9.trans f10
 have sp10:SP h10 (.sl (Q+1) 0 1 (.kn 1)) C4:=SP.aoA (a:= [1,2,3,0]) (h:=h9) s9 (by omega) f10 g10 _
 have st1:=dR h7 B 0 (v:= aB (3:Nat)) (u:=u1) (w:=w1) rfl a1 b1
 simp (disch:=omega) only[go_sem,st1,g7,dX,e8,n8,Wy,e9,n9,dG _ (z:= .aC) (v:= .sl Q 0 4 (.kn 4)) rfl rfl,e10]
 have F03n:=F03.next
 have W3: ∀{a c:H},a.next<=c.next->(∀id,B+3<=id->id<a.next->c.get id=a.get id)->Fx (λid=>id<B+3) a c:=λhn hg=>⟨hn,λid h1 h2=>hg id (by omega) h1⟩
 have gcA:GC (λid=>id<B+3) h8 _ 3 O1 R1 _:=gc1.go (⟨by omega,λid h1 h2=>o8 id (by omega)⟩:Fx (λid=>id<h6.next) h7 h8) (λid h1 h2=>by omega)
 refine (Ku _ 4 C4 h10 (by omega) (by omega) (by decide) sp10 anN).mono ?_
 rintro _ h11 ⟨c2,O2,R2,rfl,gc2,f11⟩
 have x2:=gc2.sl
 obtain⟨u2,w2,rfl,a2,b2,ea2,eb2⟩:=x2
 have n11:=f11.next
 have F811:=F810.trans f11
 have g23:h3.get (B+1)=bT [aB 0,.aC,.aC]:=by rw[o3 _ (by omega)];exact g2
 have g711: ∀id,id<B+3->id≠B->h11.get id=h3.get id:=λid hid hne=>by rw[F811.get id (by omega),o8 id hne,f7.get id (by omega),F36.get id (by omega)]
 obtain⟨h12,e12,n12,g12,o12⟩:=zY h11 (B+1) [aB (4:Nat),u2,w2]
 obtain⟨P,hP⟩: ∃P,h11.next=P:=⟨_,rfl⟩
 rw[hP] at n12
 have gcB:GC (λid=>id<B+3) h12 _ 4 O2 R2 _:=gc2.go (⟨by omega,λid h1 h2=>o12 id (by omega)⟩:Fx (λid=>id<h10.next) h11 h12) (λid h1 h2=>by omega)
 obtain⟨h13,e13,n13,s13,f13⟩:=Sb n12 [1,2,0,3]
 obtain⟨h14,e14,n14,s14,f14⟩:=Sb n13 [0,2,3,1]
 obtain⟨h15,e15,n15,g15,o15,f15⟩:=iB n14 [.sl P 0 4 (.kn 4),.sl (P+1) 0 4 (.kn 4)]
 have F1215:=(f13.trans f14).trans f15
 have sp15:SP h15 (.sl (P+1+1) 0 2 (.kn 2)) A4:=SP.two (a:= [1,2,0,3]) (b:= [0,2,3,1]) (h:=h14) (s13.mono f14) s14 (by omega) f15 g15 _
 have st2:=dR h11 (B+1) 0 (v:= aB (4:Nat)) (u:=u2) (w:=w2) rfl a2 b2
 have g11b:h11.get (B+1)=bT [aB 0,.aC,.aC]:=by rw[g711 _ (by omega) (by omega)];exact g23
 simp (disch:=omega) only[go_sem,st2,g11b,dX,e12,n12,Wy,e13,n13,e14,n14,aeC _ (Mo ..) (Mo ..),e15]
 refine (Ku _ 4 A4 h15 (by omega) (by omega) (by decide) sp15 anY).mono ?_
 rintro _ h16 ⟨c3,O3,R3,rfl,gc3,f16⟩
 have x3:=gc3.sl
 obtain⟨u3,w3,rfl,a3,b3,ea3,eb3⟩:=x3
 have n16:=f16.next
 have F1216:=F1215.trans f16
 obtain⟨h17,e17,n17,g17,o17⟩:=zY h16 (B+1+1) [aB (4:Nat),u3,w3]
 have gcC:GC (λid=>id<B+3) h17 _ 4 O3 R3 _:=gc3.go (⟨by omega,λid h1 h2=>o17 id (by omega)⟩:Fx (λid=>id<h15.next) h16 h17) (λid h1 h2=>by omega)
 have st3:=dR h16 (B+1+1) 0 (v:= aB (4:Nat)) (u:=u3) (w:=w3) rfl a3 b3
 have g16c:h16.get (B+1+1)=bT [aB 0,.aC,.aC]:=by rw[F1216.get _ (by omega),o12 _ (by omega),g711 _ (by omega) (by omega)];exact g3
 have gA:h17.get B=bT [aB (3:Nat),u1,w1]:=by rw[o17 B (by omega),F1216.get B (by omega),o12 B (by omega),F811.get B (by omega)];exact g8
 have gB:h17.get (B+1)=bT [aB (4:Nat),u2,w2]:=by rw[o17 _ (by omega),F1216.get _ (by omega)];exact g12
 obtain⟨hb,ehb,nhb⟩: ∃hb:H,H.mk h17.tr (h17.next+6)=hb/\hb.next=h17.next+6:=⟨_,rfl,rfl⟩
 have fb:Fr h17 hb:=by rw[←ehb];exact (Fr.refl h17).bG (by omega)
 obtain⟨h18,e18,n18,g18,o18⟩:=zY hb B [aB (3:Nat),u1,w1]
 obtain⟨h19,e19,n19,g19,o19⟩:=zY h18 (B+1) [aB (4:Nat),u2,w2]
 obtain⟨h20,e20,n20,g20,o20⟩:=zY h19 (B+1+1) [aB (4:Nat),u3,w3]
 have bA:hb.get B=bT [aB (3:Nat),u1,w1]:=by rw[fb.get _ (by omega)];exact gA
 have bB:hb.get (B+1)=bT [aB (4:Nat),u2,w2]:=by rw[fb.get _ (by omega)];exact gB
 have bC:hb.get (B+1+1)=bT [aB (4:Nat),u3,w3]:=by rw[fb.get _ (by omega)];exact g17
 have k18B:h18.get (B+1)=bT [aB (4:Nat),u2,w2]:=by rw[o18 _ (by omega)];exact bB
 have k18C:h18.get (B+1+1)=bT [aB (4:Nat),u3,w3]:=by rw[o18 _ (by omega)];exact bC
 have k19C:h19.get (B+1+1)=bT [aB (4:Nat),u3,w3]:=by rw[o19 _ (by omega)];exact k18C
 have k20A:h20.get B=bT [aB (3:Nat),u1,w1]:=by rw[o20 _ (by omega),o19 _ (by omega)];exact g18
 have k20B:h20.get (B+1)=bT [aB (4:Nat),u2,w2]:=by rw[o20 _ (by omega)];exact g19
 simp (disch:=omega) only[go_sem,st3,g16c,dX,e17,aW gA,aW gB,aW g17]
 rw[ehb]
 have t1:=dR hb B 0 (v:= aB (3:Nat)) (u:=u1) (w:=w1) rfl a1 b1
 have t2:=dR h18 (B+1) 0 (v:= aB (4:Nat)) (u:=u2) (w:=w2) rfl a2 b2
 have t3:=dR h19 (B+1+1) 0 (v:= aB (4:Nat)) (u:=u3) (w:=w3) rfl a3 b3
 have q1:eQ (.agg [aB (3:Nat),u1,w1]) (.agg [aB (3:Nat),u1,w1])=true:=by simp [eQ,yK,ea1,eb1]
 have q2:eQ (.agg [aB (4:Nat),u2,w2]) (.agg [aB (4:Nat),u2,w2])=true:=by simp [eQ,yK,ea2,eb2]
 have q3:eQ (.agg [aB (4:Nat),u3,w3]) (.agg [aB (4:Nat),u3,w3])=true:=by simp [eQ,yK,ea3,eb3]
 simp (disch:=omega) only[go_sem,t1,bA,dX,e18,aW k18B,aW k18C,t2,k18B,e19,aW k19C,t3,k19C,e20,q1,q2,q3,aW k20A,aW k20B,aW g20]
 have X1:Fx (λid=>id<B+3) h8 h17:=⟨by omega,λid h1 h2=>by rw[o17 id (by omega),F1216.get id (by omega),o12 id (by omega),F811.get id (by omega)]⟩
 have X2:Fx (λid=>id<B+3) h12 h17:=⟨by omega,λid h1 h2=>by rw[o17 id (by omega),F1216.get id (by omega)]⟩
 have X3:Fx (λid=>id<B+3) h17 h20:=⟨by omega,λid h1 h2=>by rw[o20 id (by omega),o19 id (by omega),o18 id (by omega),fb.get id (by omega)]⟩
 have low: ∀{v n O R G},GC (λid=>id<B+3) h17 v n O R G->GC (λid=>id<B) h20 v n O R G:=λg=>g.go X3 (λid _ hid=>by omega)
 refine⟨_,_,_,O1,R1,O2,R2,O3,R3,rfl,low (gcA.go X1 (λid _ h=>h)),low (gcB.go X2 (λid _ h=>h)),low gcC,⟨by omega,λid hid=>?_⟩⟩
 rw[o20 id (by omega),o19 id (by omega),o18 id (by omega),fb.get id (by omega),o17 id (by omega),F1216.get id (by omega),o12 id (by omega),g711 id (by omega) (by omega),F03.get id hid]
theorem GC.el {W:Nat->Prop}{h:H}{vc:V}{n:Nat}{O:LN}{R:qK}{G:List Nat->Prop}{L:LN}(g:GC W h vc n O R G)(E:gK G L):dI O R n 0 (bZ n)=L:=(eY g.jY g.isc).1.uniq E
theorem BY {n:Nat}{G:List Nat->Prop}{L:LN}{K:List Nat}(hG:yF n G)(E:gK G L)(hn:n<=7)(k:Sh n G L K)(z:Int):(rc K.length λi=>aB (Xp n G L K z (K.getD i 0):Nat))=ints (zi (K.map (MG n L K z))):=by
 have e:=Sz (K.map (MG n L K z))
 rw[nW] at e
 rw[←e]
 refine cF λi hi=>?_
 rw[adZ hG E hn z (k.lt (bF hi))]
 congr 2
 rw[List.getD,List.getD,List.getElem?_map,iH hi];rfl
theorem Fl {v:V}{h:H}{l:List Int}(s:SI h v l):v.cells= [v]/\v.one=true:=⟨(SV.cY s).1,(SV.cY s).2.1⟩
theorem alN (h:H)(A B C m:Nat)(x y z u v w:Int):sD h 3 [.aC,aB 0,aB 0] 3 [(0,3,.agg [.sl A 0 m (.kn m),aB x,aB y]),(3,3,.agg [.sl B 0 m (.kn m),aB z,aB u]),(6,3,.agg [.sl C 0 m (.kn m),aB v,aB w])]=some (.sl h.next 0 3 (.kn 3),h.new (.cells false [.sl A 0 m (.kn m),aB x,aB y,.sl B 0 m (.kn m),aB z,aB u,.sl C 0 m (.kn m),aB v,aB w])):=by
 have e:dP [V.aC,aB 0,aB 0] 9= [.aC,aB 0,aB 0,.aC,aB 0,aB 0,.aC,aB 0,aB 0]:=rfl
 simp [sD,jH,e,putAt,V.cells,V.one]
theorem amM (h:H)(A B C D m:Nat)(x y z u v w s t:Int):sD h 3 [.aC,aB 0,aB 0] 4 [(0,3,.agg [.sl A 0 m (.kn m),aB x,aB y]),(3,3,.agg [.sl B 0 m (.kn m),aB z,aB u]),(6,3,.agg [.sl C 0 m (.kn m),aB v,aB w]),(9,3,.agg [.sl D 0 m (.kn m),aB s,aB t])]=some (.sl h.next 0 4 (.kn 4),h.new (.cells false [.sl A 0 m (.kn m),aB x,aB y,.sl B 0 m (.kn m),aB z,aB u,.sl C 0 m (.kn m),aB v,aB w,.sl D 0 m (.kn m),aB s,aB t])):=by
 have e:dP [V.aC,aB 0,aB 0] 12= [.aC,aB 0,aB 0,.aC,aB 0,aB 0,.aC,aB 0,aB 0,.aC,aB 0,aB 0]:=rfl
 simp [sD,jH,e,putAt,V.cells,V.one]
theorem dT {i:Decidable True}: @decide True i=true:=decide_eq_true trivial
def zG (rep:V)(h:H)(l:List Int)(s:SI h rep l)(o z:Nat):Cls.KE:=⟨rep,o,z,.aC,0,⟨(SV.cY s).1,(SV.cY s).2.1,SV.eQ s⟩,⟨rfl,rfl,rfl⟩⟩
theorem acY (h:H):Ev T Ym [] h (λv h'=>v= .bool true/\Fr h h'):=by
 refine aX Yf rfl ?_
 simp (disch:=omega) only[go_sem,tF,aF]
 refine (BH h).mono ?_
 rintro _ h1 ⟨c1,c2,c3,O1,R1,O2,R2,O3,R3,rfl,gA,gB,gC,f1⟩
 have L1:=gA.el pF
 have L2:=gB.el Jb
 obtain⟨u1,w1,rfl,a1,b1,_,_⟩:=gA.sl
 obtain⟨u2,w2,rfl,a2,b2,_,_⟩:=gB.sl
 obtain⟨u3,w3,rfl,a3,b3,_,_⟩:=gC.sl
 obtain⟨B,hB⟩: ∃B,h1.next=B:=⟨_,rfl⟩
 obtain⟨h2,e2,n2,g2,o2,f2⟩:=iB hB [aB 0,.aC,.aC]
 obtain⟨h3,e3,n3,g3,o3,f3⟩:=iB n2 [aB 0,.aC,.aC]
 obtain⟨h4,e4,n4,g4,o4,f4⟩:=iB n3 [aB 0,.aC,.aC]
 obtain⟨h5,e5,n5,g5,o5⟩:=zY h4 B [aB (3:Nat),u1,w1]
 obtain⟨h6,e6,n6,g6,o6⟩:=zY h5 (B+1) [aB (4:Nat),u2,w2]
 obtain⟨h7,e7,n7,g7,o7⟩:=zY h6 (B+1+1) [aB (4:Nat),u3,w3]
 have q4:h4.get B=some (.cells false [aB 0,.aC,.aC]):=by rw[o4 _ (by omega),o3 _ (by omega)];exact g2
 have q5:h5.get (B+1)=some (.cells false [aB 0,.aC,.aC]):=by rw[o5 _ (by omega),o4 _ (by omega)];exact g3
 have q6:h6.get (B+1+1)=some (.cells false [aB 0,.aC,.aC]):=by rw[o6 _ (by omega),o5 _ (by omega)];exact g4
 have F17:Fr h1 h7:=⟨by omega,λid hid=>by rw[o7 id (by omega),o6 id (by omega),o5 id (by omega),o4 id (by omega),o3 id (by omega),o2 id (by omega)]⟩
 have r1:h7.get B=some (.cells false [aB (3:Nat),u1,w1]):=by rw[o7 _ (by omega),o6 _ (by omega)];exact g5
 have r2:h7.get (B+1)=some (.cells false [aB (4:Nat),u2,w2]):=by rw[o7 _ (by omega)];exact g6
 simp (disch:=omega) only[go_sem,hB,e2,n2,e3,n3,e4,dR h4 B 0 (v:= aB (3:Nat)) (u:=u1) (w:=w1) rfl a1 b1,q4,dX,e5,
  dR h5 (B+1) 0 (v:= aB (4:Nat)) (u:=u2) (w:=w2) rfl a2 b2,q5,e6,
  dR h6 (B+1+1) 0 (v:= aB (4:Nat)) (u:=u3) (w:=w3) rfl a3 b3,q6,e7,aW r1]
 refine (Nh _ 3 O1 R1 _ h7 (gA.mono F17) L3 L1).mono ?_
 rintro _ h8 ⟨vl,K,ks,rfl,ik,sl8,al8,f8⟩
 obtain rfl:=Si.eq gA.jY pF (by omega) Qd ik
 have x2:h8.get (B+1)=some (.cells false [aB (4:Nat),u2,w2]):=by rw[f8.get _ (by omega)];exact r2
 simp (disch:=omega) only[go_sem,aW x2]
 refine (BP _ 3 4 O2 R2 _ h8 (gB.mono (F17.trans f8)) L4 (by omega) L2).mono ?_
 rintro _ h9 ⟨K,vp,ik2,rfl,sp9,f9⟩
 obtain rfl:=Si.eq gB.jY Jb (by omega) QD ik2
 rw[BY gB.jY Jb (by omega) ik2,show ([0,2,1,3]:List Nat).map (MG 4 L4 [0,2,1,3] 3)= [0,1,3,2] by decide+kernel] at sp9
 have f79:=f8.trans f9
 have x1:h9.get B=some (.cells false [aB (3:Nat),u1,w1]):=by rw[f79.get _ (by omega)];exact r1
 simp (disch:=omega) only[go_sem,aW x1]
 refine (PS _ 3 O1 R1 _ h9 (gA.mono (F17.trans f79)) L3 L1).mono ?_
 rintro _ h10 ⟨K,ik3,rfl,f10⟩
 obtain rfl:=Si.eq gA.jY pF (by omega) Qd ik3
 rw[GF gA.jY pF (by omega) ik3,show aiE 3 L3 [0,1,3]=6 by decide+kernel]
 obtain⟨Q,hQ⟩: ∃Q,h10.next=Q:=⟨_,rfl⟩
 obtain⟨h11,e11,n11,s11,f11⟩:=Sb hQ [0,1,2]
 obtain⟨h12,e12,n12,s12,f12⟩:=Sb n11 [0,2,1]
 obtain⟨h13,e13,n13,s13,f13⟩:=Sb n12 [1,2,0]
 obtain⟨h14,e14,n14,g14,o14,f14⟩:=iB n13 [.sl Q 0 3 (.kn 3),aB 1,aB 1,.sl (Q+1) 0 3 (.kn 3),aB 2,aB 3,.sl (Q+1+1) 0 3 (.kn 3),aB 3,aB 2]
 simp (disch:=omega) only[go_sem,dT,hQ,Jw,e11,n11,e12,n12,e13,n13,qJ (v:= .sl Q 0 3 (.kn 3)) rfl rfl,qJ (v:= .sl (Q+1) 0 3 (.kn 3)) rfl rfl,qJ (v:= .sl (Q+1+1) 0 3 (.kn 3)) rfl rfl,alN,e14]
 have F814:=((((((f9.trans f10).trans f11).trans f12).trans f13).trans f14))
 have F914:=f10.trans (((f11.trans f12).trans f13).trans f14)
 have z11:SI h14 (.sl Q 0 3 (.kn 3)) [0,1,2]:=s11.mono ((f12.trans f13).trans f14)
 have z12:SI h14 (.sl (Q+1) 0 3 (.kn 3)) [0,2,1]:=s12.mono (f13.trans f14)
 have z13:SI h14 (.sl (Q+1+1) 0 3 (.kn 3)) [1,2,0]:=s13.mono f14
 have see:bH (XL h14) [zG _ _ _ z11 1 1,zG _ _ _ z12 2 3,zG _ _ _ z13 3 2] [([0,1,2],1,1),([0,2,1],2,3),([1,2,0],3,2)]:=⟨⟨z11,rfl,rfl⟩,⟨z12,rfl,rfl⟩,⟨z13,rfl,rfl⟩,trivial⟩
 have sl14:SV h14 (.sl (Q+1+1+1) 0 3 (.kn 3)) 3 (sS [zG _ _ _ z11 1 1,zG _ _ _ z12 2 3,zG _ _ _ z13 3 2]):=SV.all rfl (by omega) g14 _
 have see8:=Ls gA.jY pF (by omega) (λr hr=>ik.lt hr) (al8.mono λ_ _ x=>x.mono F814)
 have hks:=bH.length al8
 refine (Fy vl _ ks _ _ _ h14 (sl8.mono F814) sl14 see8 see (by rw[hks];decide) (show 3<1000000 by decide) (by decide) (by decide)).mono ?_
 rw[show decide (aeP 3 L3 [0,1,3]= [([0,1,2],1,1),([0,2,1],2,3),([1,2,0],3,2)])=true by decide+kernel]
 rintro _ h15 ⟨rfl,f15⟩
 obtain⟨P,hP⟩: ∃P,h15.next=P:=⟨_,rfl⟩
 obtain⟨h16,e16,n16,s16,f16⟩:=Sb hP [0,1,3,2]
 simp (disch:=omega) only[go_sem,dT,hP,Wy,e16]
 refine (yN vp _ _ _ h16 (SI.mono (show SI h9 vp (zi [0,1,3,2]) from sp9) (F914.trans (f15.trans f16))) s16 (by decide) (by decide)).mono ?_
 rw[show decide (zi [0,1,3,2]= [0,1,3,2])=true by decide+kernel]
 rintro _ h17 ⟨rfl,f17⟩
 have e6:decide (((6:Nat):Int)=6)=true:=rfl
 simp (disch:=omega) only[go_sem,dT,e6]
 exact (((f1.trans F17).trans f8).trans F814).trans ((f15.trans f16).trans f17)
def SB (h:H)(v:V)(l:List Bool):Prop:=SV h v 1 (l.map V.bool)
theorem SB.mono {h h':H}{v:V}{l:List Bool}(s:SB h v l)(f:Fr h h'):SB h' v l:=SV.mono s f
theorem SB.open {h:H}{v:V}{l:List Bool}(s:SB h v l):dN v=some (aB (l.length:Int))/\ ∃id off,Sl v 1 l.length id off/\ ∀i,i<l.length->id<h.next/\h.cell id (off+i)=some (.bool (l.getD i false)):=by
 have hl:(l.map V.bool).length=l.length:=nW ..
 refine⟨by unfold dN;rw[SV.len s (n:=l.length) (by omega) (by omega)];rfl,?_⟩
 obtain⟨id,off,sh,hid,hc⟩:=SV.shape s l.length (by omega) (by omega)
 exact⟨id,off,sh,λi hi=>⟨hid (by omega),by rw[hc i (by omega),List.getElem?_map,List.getD,iH hi];rfl⟩⟩
theorem HL (va vb:V)(a b:List Bool)(h:H)(ha:SB h va a)(hb:SB h vb b)(hla:a.length<1000000)(hlb:b.length<1000000):Ev T Ra [va,vb] h (λv h'=>v= .bool (decide (a=b))/\Fr h h'):=by
 refine aX Qv rfl ?_
 obtain⟨la,id,off,hsl,hc⟩:=ha.open
 obtain⟨lb,id2,off2,hsl2,hc2⟩:=hb.open
 simp (disch:=omega) only[go_sem,pG,aF,la,lb]
 refine aZ (λhne=>?_) (λheq=>?_)
 ·simp (disch:=omega) only[go_sem]
  have:a≠b:=λe=>hne (by rw[e])
  exact⟨by rw[decide_eq_false this],Fr.refl h⟩
 have heq:a.length=b.length:=by omega
 simp (disch:=omega) only[go_sem,la]
 refine aJ (λk vars h2=> ∃(i:Nat),(∃g:Nat->V,vars= [va,vb,g 2,aB i,g 4,g 5,g 6])/\i<=a.length/\(∀j,j<i->a.getD j false=b.getD j false)/\Fr h h2/\k=a.length-i) a.length
  ⟨0,aA rfl,lI _,λj hj=>by omega,Fr.refl h,rfl⟩ ?_
 rintro k vars h2 ⟨i,⟨g,rfl⟩,hi,hpre,hf2,rfl⟩
 by_cases hlt:(i:Int)<(a.length:Int)
 case neg=>
  have e1:=eX hlt
  simp (disch:=omega) only[go_sem,la,e1]
  have:a=b:=by
   refine List.ext_getElem heq λj h1 h2=>?_
   have:=hpre j (by omega)
   rwa [List.getD,iH h1,List.getD,iH h2] at this
  exact⟨by rw[decide_eq_true this],hf2⟩
 have e1:=jZ hlt
 have hia:i<a.length:=by omega
 obtain⟨i1,c1⟩:=hc i hia
 obtain⟨i2,c2⟩:=hc2 i (by omega)
 have c1':=(hf2.cell (off:=off+i) i1).trans c1
 have c2':=(hf2.cell (off:=off2+i) i2).trans c2
 generalize hA:a.getD i false=x at c1' c1
 generalize hB:b.getD i false=y at c2' c2
 by_cases hxy:x=y
 ·subst hxy
  have eb:(x==x)=true:=by cases x<;>rfl
  simp (disch:=omega) only[go_sem,la,e1,hsl.ixa,hsl2.ixa,c1',c2',eb]
  rw[gU i]
  refine⟨a.length-(i+1),by omega,i+1,aA rfl,by omega,λj hj=>?_,hf2.bG (by omega),rfl⟩
  by_cases h3:j=i
  ·rw[h3,hA,hB]
  ·exact hpre j (by omega)
 ·have eb:(x==y)=false:=by cases x<;>cases y<;>first|rfl|exact absurd rfl hxy
  simp (disch:=omega) only[go_sem,la,e1,hsl.ixa,hsl2.ixa,c1',c2',eb]
  have:a≠b:=λe=>hxy (by rw[←hA,←hB,e])
  exact⟨by rw[decide_eq_false this],hf2.bG (by omega)⟩
def WU (n:Nat)(M:LN)(i:Nat):List Nat:=(List.range n).filter λp=>M.any λx=>(List.range i).all (λj=>x.getD j 0==j)&&x.getD i 0==p
theorem VT {n:Nat}{G:List Nat->Prop}{M:LN}{O:LN}{R:qK}(hG:yF n G)(c:eD n G O R)(E:gK G M):O=(List.range n).map (WU n M):=by
 refine Es (d:= []) (by rw[c.lo];simp) λi hi=>?_
 rw[c.lo] at hi
 have e:((List.range n).map (WU n M)).getD i []=WU n M i:=by simp [List.getD,hi]
 rw[e]
 refine Tf (c.asc i hi) (by unfold WU;exact List.pairwise_lt_range.filter _) λp=>?_
 rw[c.mem i hi]
 unfold WU
 rw[BF,Kq,List.any_eq_true]
 constructor
 ·rintro⟨x,hx,hf,hp⟩
  refine⟨by rw[←hp];exact (hG.dV hx).eM hi,x,(E.mem x).2 hx,?_⟩
  rw[Bool.and_eq_true,List.all_eq_true]
  exact⟨λj hj=>by simpa using hf j (Kq.1 hj),by simpa using hp⟩
 ·rintro⟨_,x,hx,h⟩
  rw[Bool.and_eq_true,List.all_eq_true] at h
  exact⟨x,(E.mem x).1 hx,λj hj=>by simpa using h.1 j (Kq.2 hj),by simpa using h.2⟩
theorem agS {n:Nat}{G:List Nat->Prop}{L:LN}{K:List Nat}(E:gK G L):Ab G L K=(List.range L.length).map (SK L K):=by
 unfold Ab
 exact List.map_congr_left λj _=>DW E j
theorem HS {G:List Nat->Prop}{L:LN}{K:List Nat}(E:gK G L):(rc K.length λi=>V.bool (zH G L (K.getD i 0)))=(K.map (IX L)).map V.bool:=by
 refine Lw (by simp) λi hi=>?_
 rw[List.getElem?_map,List.getElem?_map,iH hi,VK E,List.getD,iH hi];rfl
theorem YZ (h:H)(x y z w:Bool):sD h 1 [.bool false] 4 [(0,1,.bool x),(1,1,.bool y),(2,1,.bool z),(3,1,.bool w)]=some (.sl h.next 0 4 (.kn 4),h.new (.cells false [.bool x,.bool y,.bool z,.bool w])):=by
 have e:dP [V.bool false] 4= [.bool false,.bool false,.bool false,.bool false]:=rfl
 simp [sD,jH,e,putAt,V.cells,V.one]
theorem acD (h:H)(A B C a b c:Nat):sD h 1 [.aC] 3 [(0,1,.sl A 0 a (.kn a)),(1,1,.sl B 0 b (.kn b)),(2,1,.sl C 0 c (.kn c))]=some (.sl h.next 0 3 (.kn 3),h.new (.cells false [.sl A 0 a (.kn a),.sl B 0 b (.kn b),.sl C 0 c (.kn c)])):=by
 have e:dP [V.aC] 3= [.aC,.aC,.aC]:=rfl
 simp [sD,jH,e,putAt,V.cells,V.one]
theorem mkB {h:H}{ID:Nat}(hid:h.next=ID)(l:List Bool): ∃x,h.new (.cells false (l.map V.bool))=x/\x.next=ID+1/\SB x (.sl ID 0 l.length (.kn l.length)) l/\Fr h x:=by
 obtain⟨x,e,n,g,o,f⟩:=iB hid (l.map V.bool)
 exact⟨x,e,n,SV.all (by rw[nW,Nat.mul_one]) (by omega) g _,f⟩
theorem XW (h:H):Ev T Ej [] h (λv h'=>v= .bool true/\Fr h h'):=by
 refine aX Gi rfl ?_
 simp (disch:=omega) only[go_sem,jN,aF]
 refine (BH h).mono ?_
 rintro _ h1 ⟨c1,c2,c3,O1,R1,O2,R2,O3,R3,rfl,gA,gB,gC,f1⟩
 have L1:=gA.el pF
 have L2:=gB.el Jb
 have L3e:=gC.el Zj
 obtain⟨u1,w1,rfl,a1,b1,_,_⟩:=gA.sl
 obtain⟨u2,w2,rfl,a2,b2,_,_⟩:=gB.sl
 obtain⟨u3,w3,rfl,a3,b3,_,_⟩:=gC.sl
 obtain⟨B,hB⟩: ∃B,h1.next=B:=⟨_,rfl⟩
 obtain⟨h2,e2,n2,g2,o2,f2⟩:=iB hB [aB 0,.aC,.aC]
 obtain⟨h3,e3,n3,g3,o3,f3⟩:=iB n2 [aB 0,.aC,.aC]
 obtain⟨h4,e4,n4,g4,o4,f4⟩:=iB n3 [aB 0,.aC,.aC]
 obtain⟨h5,e5,n5,g5,o5⟩:=zY h4 B [aB (3:Nat),u1,w1]
 obtain⟨h6,e6,n6,g6,o6⟩:=zY h5 (B+1) [aB (4:Nat),u2,w2]
 obtain⟨h7,e7,n7,g7,o7⟩:=zY h6 (B+1+1) [aB (4:Nat),u3,w3]
 have q4:h4.get B=bT [aB 0,.aC,.aC]:=by rw[o4 _ (by omega),o3 _ (by omega)];exact g2
 have q5:h5.get (B+1)=bT [aB 0,.aC,.aC]:=by rw[o5 _ (by omega),o4 _ (by omega)];exact g3
 have q6:h6.get (B+1+1)=bT [aB 0,.aC,.aC]:=by rw[o6 _ (by omega),o5 _ (by omega)];exact g4
 have F17:Fr h1 h7:=⟨by omega,λid hid=>by rw[o7 id (by omega),o6 id (by omega),o5 id (by omega),o4 id (by omega),o3 id (by omega),o2 id (by omega)]⟩
 have rA: ∀hh,Fr h7 hh->hh.row B 0 3=some [aB (3:Nat),u1,w1]:=λhh f=>aW (by rw[f.get _ (by omega),o7 _ (by omega),o6 _ (by omega)];exact g5)
 have rB: ∀hh,Fr h7 hh->hh.row (B+1) 0 3=some [aB (4:Nat),u2,w2]:=λhh f=>aW (by rw[f.get _ (by omega),o7 _ (by omega)];exact g6)
 have rC: ∀hh,Fr h7 hh->hh.row (B+1+1) 0 3=some [aB (4:Nat),u3,w3]:=λhh f=>aW (by rw[f.get _ (by omega)];exact g7)
 have gA7:=gA.mono F17
 have gB7:=gB.mono F17
 have gC7:=gC.mono F17
 have A7: ∀hh,Fr h7 hh->GC (λid=>id<h.next) hh _ 3 O1 R1 _:=λhh f=>gA7.mono f
 have B7: ∀hh,Fr h7 hh->GC (λid=>id<h.next) hh _ 4 O2 R2 _:=λhh f=>gB7.mono f
 have C7: ∀hh,Fr h7 hh->GC (λid=>id<h.next) hh _ 4 O3 R3 _:=λhh f=>gC7.mono f
 have F07:=f1.trans F17
 simp (disch:=omega) only[go_sem,hB,e2,n2,e3,n3,e4,dR h4 B 0 (v:= aB (3:Nat)) (u:=u1) (w:=w1) rfl a1 b1,q4,dX,e5,
  dR h5 (B+1) 0 (v:= aB (4:Nat)) (u:=u2) (w:=w2) rfl a2 b2,q5,e6,
  dR h6 (B+1+1) 0 (v:= aB (4:Nat)) (u:=u3) (w:=w3) rfl a3 b3,q6,e7,rA h7 (Fr.refl _)]
 clear e2 e3 e4 e5 e6 e7 q4 q5 q6 g2 g3 g4 g5 g6 g7 o2 o3 o4 o5 o6 o7 f2 f3 f4
 refine (abA _ 3 O1 R1 _ h7 gA7 L3 L1).mono ?_
 rintro _ h8 ⟨v4,K,rfl,ik,s4,f8⟩
 obtain rfl:=Si.eq gA.jY pF (by omega) Qd ik
 rw[agS (n:=3) pF,show (List.range L3.length).map (SK L3 [0,1,3])= [0,1,1,2,2,1] by decide+kernel] at s4
 obtain⟨Q,hQ⟩: ∃Q,h8.next=Q:=⟨_,rfl⟩
 obtain⟨h9,e9,n9,s9,f9⟩:=Sb hQ [2,0,1]
 have F9:=f8.trans f9
 simp (disch:=omega) only[go_sem,rA h8 f8,hQ,Jw,e9]
 refine (IC _ _ [2,0,1] 3 O1 R1 _ h9 (A7 h9 F9) s9 (by decide) L3 L1).mono ?_
 rintro v h10 ⟨K,ik1,f10,fs⟩
 obtain rfl:=Si.eq gA.jY pF (by omega) Qd ik1
 obtain rfl:v= .tup [aB (2:Nat),aB 0]:=by
  rcases fs with ⟨hp,_⟩|⟨_,hl,_⟩|⟨y,hy,Y,⟨i,hi,ei,e⟩|⟨hn,_⟩⟩
  ·exact absurd (show Uc [2,0,1]=0 by decide+kernel) hp
  ·exact absurd rfl hl
  ·have hy':y= [2,0,1]:=(Tl (show zi [2,0,1]=zi y from hy)).symm
   have e4:L3.getD 4 []= [2,0,1]:=rfl
   have:i=4:=Et pF.nodup hi (by decide) (by rw[ei,hy',e4])
   subst this
   rw[DW pF,show SK L3 [0,1,3] 4=2 by decide+kernel] at e
   exact e
  ·have hy':y= [2,0,1]:=(Tl (show zi [2,0,1]=zi y from hy)).symm
   exact absurd ((pF.mem _).1 (by rw[hy'];decide)) hn
 have F10:=F9.trans f10
 simp (disch:=omega) only[go_sem,rA h10 F10]
 refine (BP _ 2 3 O1 R1 _ h10 (A7 h10 F10) L3 (by omega) L1).mono ?_
 rintro _ h11 ⟨K,v8,ik2,rfl,s8,f11⟩
 obtain rfl:=Si.eq gA.jY pF (by omega) Qd ik2
 rw[BY gA.jY pF (by omega) ik2,show ([0,1,3]:List Nat).map (MG 3 L3 [0,1,3] 2)= [0,0,2] by decide+kernel] at s8
 have F11:=F10.trans f11
 simp (disch:=omega) only[go_sem,rA h11 F11]
 refine (BP _ (-1) 3 O1 R1 _ h11 (A7 h11 F11) L3 (by omega) L1).mono ?_
 rintro _ h12 ⟨K,v10,ik3,rfl,s10,f12⟩
 obtain rfl:=Si.eq gA.jY pF (by omega) Qd ik3
 rw[BY gA.jY pF (by omega) ik3,show ([0,1,3]:List Nat).map (MG 3 L3 [0,1,3] (-1))= [0,1,2] by decide+kernel] at s10
 have F12:=F11.trans f12
 obtain⟨P,hP⟩: ∃P,h12.next=P:=⟨_,rfl⟩
 obtain⟨h13,e13,n13,s13,f13⟩:=Sb hP [0,1,1,2,2,1]
 simp (disch:=omega) only[go_sem,dT,hP,akU,e13]
 refine (yN v4 _ _ _ h13 (SI.mono (show SI h8 v4 (zi [0,1,1,2,2,1]) from s4) (((f9.trans f10).trans f11).trans (f12.trans f13))) s13 (by decide) (by decide)).mono ?_
 rw[show decide (zi [0,1,1,2,2,1]= [0,1,1,2,2,1])=true by decide+kernel]
 rintro _ h14 ⟨rfl,f14⟩
 obtain⟨P2,hP2⟩: ∃P,h14.next=P:=⟨_,rfl⟩
 obtain⟨h15,e15,n15,s15,f15⟩:=Sb hP2 [0,0,2]
 have i2:decide (((2:Nat):Int)=2)=true:=rfl
 simp (disch:=omega) only[go_sem,dT,i2,hP2,Jw,e15]
 refine (yN v8 _ _ _ h15 (SI.mono (show SI h11 v8 (zi [0,0,2]) from s8) ((f12.trans f13).trans (f14.trans f15))) s15 (by decide) (by decide)).mono ?_
 rw[show decide (zi [0,0,2]= [0,0,2])=true by decide+kernel]
 rintro _ h16 ⟨rfl,f16⟩
 obtain⟨P3,hP3⟩: ∃P,h16.next=P:=⟨_,rfl⟩
 obtain⟨h17,e17,n17,s17,f17⟩:=Sb hP3 [0,1,2]
 simp (disch:=omega) only[go_sem,dT,i2,hP3,Jw,e17]
 refine (yN v10 _ _ _ h17 (SI.mono (show SI h12 v10 (zi [0,1,2]) from s10) (((f13.trans f14).trans (f15.trans f16)).trans f17)) s17 (by decide) (by decide)).mono ?_
 rw[show decide (zi [0,1,2]= [0,1,2])=true by decide+kernel]
 rintro _ h18 ⟨rfl,f18⟩
 have F18:=(((F12.trans f13).trans (f14.trans f15)).trans (f16.trans f17)).trans f18
 simp (disch:=omega) only[go_sem,dT,i2,rB h18 F18]
 clear e9 e13 e15 e17 s9 s13 s15 s17 s4 s8 s10
 refine (Nh _ 4 O2 R2 _ h18 (B7 h18 F18) L4 L2).mono ?_
 rintro _ h19 ⟨v13,K,ks,rfl,ik4,sl19,al19,f19⟩
 obtain rfl:=Si.eq gB.jY Jb (by omega) QD ik4
 have F19:=F18.trans f19
 simp (disch:=omega) only[go_sem,rB h19 F19]
 refine (FR _ 4 O2 R2 _ h19 (B7 h19 F19) L4 L2).mono ?_
 rintro _ h20 ⟨K,v15,ik5,rfl,s15,f20⟩
 obtain rfl:=Si.eq gB.jY Jb (by omega) QD ik5
 rw[HS Jb,show ([0,2,1,3]:List Nat).map (IX L4)= [true,true,false,false] by decide+kernel] at s15
 have F20:=F19.trans f20
 simp (disch:=omega) only[go_sem,rB h20 F20]
 refine (PS _ 4 O2 R2 _ h20 (B7 h20 F20) L4 L2).mono ?_
 rintro _ h21 ⟨K,ik6,rfl,f21⟩
 obtain rfl:=Si.eq gB.jY Jb (by omega) QD ik6
 rw[GF gB.jY Jb (by omega) ik6,show aiE 4 L4 [0,2,1,3]=4 by decide+kernel]
 have F21:=F20.trans f21
 obtain⟨Q2,hQ2⟩: ∃Q,h21.next=Q:=⟨_,rfl⟩
 obtain⟨h22,e22,n22,s22,f22⟩:=Sb hQ2 [0,1,2,3]
 obtain⟨h23,e23,n23,s23,f23⟩:=Sb n22 [2,3,0,1]
 obtain⟨h24,e24,n24,s24,f24⟩:=Sb n23 [1,2,3,0]
 obtain⟨h25,e25,n25,s25,f25⟩:=Sb n24 [3,0,1,2]
 obtain⟨h26,e26,n26,g26,o26,f26⟩:=iB n25 [.sl Q2 0 4 (.kn 4),aB 1,aB 1,.sl (Q2+1) 0 4 (.kn 4),aB 2,aB 1,.sl (Q2+1+1) 0 4 (.kn 4),aB 4,aB 1,.sl (Q2+1+1+1) 0 4 (.kn 4),aB 4,aB 1]
 have F2126:=(((f22.trans f23).trans f24).trans f25).trans f26
 have F1926:=(f20.trans f21).trans F2126
 have z22:SI h26 (.sl Q2 0 4 (.kn 4)) [0,1,2,3]:=s22.mono (((f23.trans f24).trans f25).trans f26)
 have z23:SI h26 (.sl (Q2+1) 0 4 (.kn 4)) [2,3,0,1]:=s23.mono ((f24.trans f25).trans f26)
 have z24:SI h26 (.sl (Q2+1+1) 0 4 (.kn 4)) [1,2,3,0]:=s24.mono (f25.trans f26)
 have z25:SI h26 (.sl (Q2+1+1+1) 0 4 (.kn 4)) [3,0,1,2]:=s25.mono f26
 have see:bH (XL h26) [zG _ _ _ z22 1 1,zG _ _ _ z23 2 1,zG _ _ _ z24 4 1,zG _ _ _ z25 4 1] [([0,1,2,3],1,1),([2,3,0,1],2,1),([1,2,3,0],4,1),([3,0,1,2],4,1)]:=⟨⟨z22,rfl,rfl⟩,⟨z23,rfl,rfl⟩,⟨z24,rfl,rfl⟩,⟨z25,rfl,rfl⟩,trivial⟩
 have sl26:SV h26 (.sl (Q2+1+1+1+1) 0 4 (.kn 4)) 3 (sS [zG _ _ _ z22 1 1,zG _ _ _ z23 2 1,zG _ _ _ z24 4 1,zG _ _ _ z25 4 1]):=SV.all rfl (by omega) g26 _
 have see19:=Ls gB.jY Jb (by omega) (λr hr=>ik4.lt hr) (al19.mono λ_ _ x=>x.mono F1926)
 have hks:=bH.length al19
 simp (disch:=omega) only[go_sem,dT,hQ2,Wy,e22,n22,e23,n23,e24,n24,e25,n25,qJ (v:= .sl Q2 0 4 (.kn 4)) rfl rfl,qJ (v:= .sl (Q2+1) 0 4 (.kn 4)) rfl rfl,qJ (v:= .sl (Q2+1+1) 0 4 (.kn 4)) rfl rfl,qJ (v:= .sl (Q2+1+1+1) 0 4 (.kn 4)) rfl rfl,amM,e26]
 refine (Fy v13 _ ks _ _ _ h26 (sl19.mono F1926) sl26 see19 see (by rw[hks];decide) (show 4<1000000 by decide) (by decide) (by decide)).mono ?_
 rw[show decide (aeP 4 L4 [0,2,1,3]= [([0,1,2,3],1,1),([2,3,0,1],2,1),([1,2,3,0],4,1),([3,0,1,2],4,1)])=true by decide+kernel]
 rintro _ h27 ⟨rfl,f27⟩
 obtain⟨P4,hP4⟩: ∃P,h27.next=P:=⟨_,rfl⟩
 obtain⟨h28,e28,n28,s28,f28⟩:=mkB hP4 [true,true,false,false]
 have e28x:h27.new (.cells false [.bool true,.bool true,.bool false,.bool false])=h28:=e28
 simp (disch:=omega) only[go_sem,dT,hP4,YZ,e28x]
 have F2028:=((f21.trans F2126).trans f27).trans f28
 refine (HL v15 _ _ _ h28 (SB.mono s15 F2028) s28 (by decide) (by decide)).mono ?_
 rw[show decide ([true,true,false,false]= [true,true,false,false])=true by decide]
 rintro _ h29 ⟨rfl,f29⟩
 have i4:decide (((4:Nat):Int)=4)=true:=rfl
 have F29:=(F20.trans F2028).trans f29
 simp (disch:=omega) only[go_sem,dT,i4,rC h29 F29]
 clear see19 see sl26 al19 sl19 e22 e23 e24 e25 e26 e28 s15 s28 z22 z23 z24 z25 s22 s23 s24 s25
 refine (Nh _ 4 O3 R3 _ h29 (C7 h29 F29) LA L3e).mono ?_
 rintro _ h30 ⟨v20,K,ks,rfl,ik7,sl30,al30,f30⟩
 obtain rfl:=Si.eq gC.jY Zj (by omega) abW ik7
 have F30:=F29.trans f30
 simp (disch:=omega) only[go_sem,rC h30 F30]
 refine (FR _ 4 O3 R3 _ h30 (C7 h30 F30) LA L3e).mono ?_
 rintro _ h31 ⟨K,v22,ik8,rfl,s22,f31⟩
 obtain rfl:=Si.eq gC.jY Zj (by omega) abW ik8
 rw[HS Zj,show ([0,3,1,2]:List Nat).map (IX LA)= [true,true,false,false] by decide+kernel] at s22
 have F31:=F30.trans f31
 have see30:=Ls gC.jY Zj (by omega) (λr hr=>ik7.lt hr) al30
 rw[show aeP 4 LA [0,3,1,2]= [([0,1,2,3],1,1),([1,0,3,2],2,3),([0,2,3,1],3,4),([0,3,1,2],3,4)] by decide+kernel] at see30
 obtain⟨k0,k1,k2,k3,rfl⟩: ∃k0 k1 k2 k3,ks= [k0,k1,k2,k3]:=by
  have:=bH.length al30
  match ks,this with
  | [a,b,c,d],_=>exact⟨a,b,c,d,rfl⟩
 obtain⟨c0,c1,c2,c3,_⟩:=see30
 have sl31:=sl30.mono f31
 obtain⟨id,off,sh,hid,hc⟩:=SV.shape sl31 4 rfl (by omega)
 have l20:dN v20=some (aB (4:Nat)):=by unfold dN;rw[SV.len sl31 (n:=4) rfl (by omega)];rfl
 have x11:h31.cell id (off+1*3+1)=some (aB 2):=by
  show h31.cell id (off+4)=_
  rw[hc 4 (show 4<12 by decide)];show some (aB (k1.ord:Int))=_;rw[c1.ord];rfl
 have x12:h31.cell id (off+1*3+2)=some (aB 3):=by
  show h31.cell id (off+5)=_
  rw[hc 5 (show 5<12 by decide)];show some (aB (k1.size:Int))=_;rw[c1.size];rfl
 have x21:h31.cell id (off+Int.toNat 2*3+1)=some (aB 3):=by
  show h31.cell id (off+7)=_
  rw[hc 7 (show 7<12 by decide)];show some (aB (k2.ord:Int))=_;rw[c2.ord];rfl
 have x22:h31.cell id (off+Int.toNat 2*3+2)=some (aB 4):=by
  show h31.cell id (off+8)=_
  rw[hc 8 (show 8<12 by decide)];show some (aB (k2.size:Int))=_;rw[c2.size];rfl
 have x32:h31.cell id (off+Int.toNat 3*3+2)=some (aB 4):=by
  show h31.cell id (off+11)=_
  rw[hc 11 (show 11<12 by decide)];show some (aB (k3.size:Int))=_;rw[c3.size];rfl
 obtain⟨P5,hP5⟩: ∃P,h31.next=P:=⟨_,rfl⟩
 obtain⟨h32,e32,n32,s32,f32⟩:=mkB hP5 [true,true,false,false]
 have e32x:h31.new (.cells false [.bool true,.bool true,.bool false,.bool false])=h32:=e32
 simp (disch:=omega) only[go_sem,dT,i4,l20,sh.ixa,x11,x12,x21,x22,x32,hP5,YZ,e32x]
 refine (HL v22 _ _ _ h32 (SB.mono s22 f32) s32 (by decide) (by decide)).mono ?_
 rw[show decide ([true,true,false,false]= [true,true,false,false])=true by decide]
 rintro _ h33 ⟨rfl,f33⟩
 have F33:=(F31.trans f32).trans f33
 simp (disch:=omega) only[go_sem,dT,i4,rA h33 F33]
 clear e32 s32 s22 x11 x12 x21 x22 x32 sh hc hid sl31 c0 c1 c2 c3
 refine (PX _ 2 3 O1 R1 _ h33 (A7 h33 F33) L3 L1).mono ?_
 rintro v h34 ⟨K,ik9,f34,hcen⟩
 obtain rfl:=Si.eq gA.jY pF (by omega) Qd ik9
 obtain⟨vr,O',R',rfl,gD⟩: ∃vr O' R',v= .tup [vr,aB 0]/\GC (λid=>id<h33.next) h34 vr 3 O' R' (Po (eH 3 (· ∈S3)) [1,2,0]):=by
  rcases hcen with ⟨hz,_⟩|⟨k,vr,O',R',hz,hk,e,g⟩
  ·rcases hz with hz|hz
   ·omega
   ·have:(([0,1,3]:List Nat).length:Int)=3:=rfl
    omega
  ·have:k=2:=by omega
   subst this
   exact⟨vr,O',R',e,g⟩
 have F34:=F33.trans f34
 have EM:gK (Po (eH 3 (· ∈S3)) [1,2,0]) (nT L3 [1,2,0]):=⟨by unfold nT;exact pF.asc.filter _,λx=>Mi pF⟩
 have hO:=VT gD.jY gD.isc EM
 rw[show (List.range 3).map (WU 3 (nT L3 [1,2,0]))= [[0,1,2], [1], [2]] by decide+kernel] at hO
 subst hO
 obtain⟨u4,w4,rfl,a4,b4,_,_⟩:=gD.sl
 have sO:SR h34 u4 [[0,1,2], [1], [2]]:=by
  obtain⟨vO,vR,e,s1,_⟩:=gD.ch
  cases e
  exact s1
 obtain⟨D,hD⟩: ∃D,h34.next=D:=⟨_,rfl⟩
 obtain⟨h35,e35,n35,g35,o35,f35⟩:=iB hD [aB 0,.aC,.aC]
 obtain⟨h36,e36,n36,g36,o36⟩:=zY h35 D [aB (3:Nat),u4,w4]
 have F3436:Fr h34 h36:=⟨by omega,λid hid=>by rw[o36 id (by omega),o35 id (by omega)]⟩
 have F36:=F34.trans F3436
 simp (disch:=omega) only[go_sem,hD,e35,dR h35 D 0 (v:= aB (3:Nat)) (u:=u4) (w:=w4) rfl a4 b4,g35,dX,e36,rA h36 F36]
 refine (TK _ 1 3 O1 R1 _ h36 (A7 h36 F36) L3 L1).mono ?_
 rintro v h37 ⟨K,ik10,f37,hel⟩
 obtain rfl:=Si.eq gA.jY pF (by omega) Qd ik10
 obtain⟨v27,rfl,s27⟩: ∃v27,v= .tup [v27,aB 0]/\SP h37 v27 [[0,2,1], [1,0,2], [2,1,0]]:=by
  rcases hel with ⟨hz,_⟩|⟨k,vl,hz,hk,e,g⟩
  ·rcases hz with hz|hz
   ·omega
   ·have:(([0,1,3]:List Nat).length:Int)=3:=rfl
    omega
  ·have:k=1:=by omega
   subst this
   rw[Sc pF,show (IB L3 (([0,1,3]:List Nat).getD 1 0)).map (λr=>L3.getD r [])= [[0,2,1], [1,0,2], [2,1,0]] by decide+kernel] at g
   exact⟨vl,e,g⟩
 have F37:=F36.trans f37
 obtain⟨P6,hP6⟩: ∃P,h37.next=P:=⟨_,rfl⟩
 obtain⟨h38,e38,n38,s38,f38⟩:=Sb hP6 [1,0,2,3]
 have F38:=F37.trans f38
 simp (disch:=omega) only[go_sem,rC h37 F37,hP6,Wy,e38]
 refine (IC _ _ [1,0,2,3] 4 O3 R3 _ h38 (C7 h38 F38) s38 (by decide) LA L3e).mono ?_
 rintro v h39 ⟨K,ik11,f39,fs⟩
 obtain rfl:=Si.eq gC.jY Zj (by omega) abW ik11
 obtain rfl:v= .tup [aB 0,aB 18]:=by
  rcases fs with ⟨hp,_⟩|⟨_,hl,_⟩|⟨y,hy,Y,⟨i,hi,ei,e⟩|⟨hn,e⟩⟩
  ·exact absurd (show Uc [1,0,2,3]=0 by decide+kernel) hp
  ·exact absurd rfl hl
  ·have hy':y= [1,0,2,3]:=(Tl (show zi [1,0,2,3]=zi y from hy)).symm
   have hm:LA.getD i []∈LA:=bF hi
   rw[ei,hy'] at hm
   exact absurd hm (by decide)
  ·exact e
 have F39:=F38.trans f39
 have g39:h39.get D=bT [aB (3:Nat),u4,w4]:=by rw[((f37.trans f38).trans f39).get D (by omega)];exact g36
 have c39:h39.cell D 1=some u4:=by rw[H.aG g39];rfl
 obtain⟨P7,hP7⟩: ∃P,h39.next=P:=⟨_,rfl⟩
 obtain⟨h40,e40,n40,s40,f40⟩:=Sb hP7 [0,1,2]
 obtain⟨h41,e41,n41,s41,f41⟩:=Sb n40 [1]
 obtain⟨h42,e42,n42,s42,f42⟩:=Sb n41 [2]
 obtain⟨h43,e43,n43,g43,o43,f43⟩:=iB n42 [.sl P7 0 3 (.kn 3),.sl (P7+1) 0 1 (.kn 1),.sl (P7+1+1) 0 1 (.kn 1)]
 have F4043:=((f41.trans f42).trans f43)
 have sr43:SR h43 (.sl (P7+1+1+1) 0 3 (.kn 3)) [[0,1,2], [1], [2]]:=⟨_,SV.all rfl (by omega) g43 _,s40.mono F4043,s41.mono (f42.trans f43),s42.mono f43,trivial⟩
 have F3943:=f40.trans F4043
 simp (disch:=omega) only[go_sem,dT,c39,hP7,Jw,e40,n40,Pt,e41,n41,e42,n42,acD,e43]
 refine (CD u4 _ _ _ h43 (sO.mono ((((F3436.trans f37).trans f38).trans f39).trans F3943)) sr43 (by decide) (by decide) (by decide) (by decide)).mono ?_
 rw[show decide (([[0,1,2], [1], [2]]:List (List Int))= [[0,1,2], [1], [2]])=true by decide]
 rintro _ h44 ⟨rfl,f44⟩
 obtain⟨P8,hP8⟩: ∃P,h44.next=P:=⟨_,rfl⟩
 obtain⟨h45,e45,n45,s45,f45⟩:=Sb hP8 [0,2,1]
 obtain⟨h46,e46,n46,s46,f46⟩:=Sb n45 [1,0,2]
 obtain⟨h47,e47,n47,s47,f47⟩:=Sb n46 [2,1,0]
 obtain⟨h48,e48,n48,g48,o48,f48⟩:=iB n47 [.sl P8 0 3 (.kn 3),.sl (P8+1) 0 3 (.kn 3),.sl (P8+1+1) 0 3 (.kn 3)]
 have F4548:=((f46.trans f47).trans f48)
 have sr48:SR h48 (.sl (P8+1+1+1) 0 3 (.kn 3)) [[0,2,1], [1,0,2], [2,1,0]]:=⟨_,SV.all rfl (by omega) g48 _,s45.mono F4548,s46.mono (f47.trans f48),s47.mono f48,trivial⟩
 have F3748:=(((f38.trans f39).trans F3943).trans f44).trans (f45.trans F4548)
 simp (disch:=omega) only[go_sem,dT,hP8,Jw,e45,n45,e46,n46,e47,n47,acD,e48]
 refine (EC v27 _ _ _ h48 (SR.mono (show SR h37 v27 [[0,2,1], [1,0,2], [2,1,0]] from s27) F3748) sr48 (by decide) (by decide) (by decide) (by decide)).mono ?_
 rw[show decide (([[0,2,1], [1,0,2], [2,1,0]]:List (List Int))= [[0,2,1], [1,0,2], [2,1,0]])=true by decide]
 rintro _ h49 ⟨rfl,f49⟩
 simp (disch:=omega) only[go_sem,dT]
 refine (acY h49).mono ?_
 rintro _ h50 ⟨rfl,f50⟩
 simp (disch:=omega) only[go_sem,dT]
 exact ((F07.trans F37).trans F3748).trans (f49.trans f50)
theorem GC.all {W:Nat->Prop}{h:H}{vc:V}{n:Nat}{O:LN}{R:qK}{G:List Nat->Prop}(g:GC W h vc n O R G):gK G (dI O R n 0 (bZ n))/\(dI O R n 0 (bZ n)).length<=5040:=by
 have e:=eY g.jY g.isc
 exact⟨e.1,by rw[e.2];exact qV g⟩
section
variable {n:Nat} {G H:List Nat->Prop} {L M:LN} {K K':List Nat} {x:List Nat}
variable (hG:yF n G) (E:gK G L) (k:Sh n G L K) (hH:yF n H) (F:gK H M) (k':Sh n H M K') (X:bM n x) (hx: ∀y,H y↔ ∃g,G g/\kC g x=y)
include hG E k hH F k' X hx
end
def iD (v:V)(id:Nat):Prop:= ∃off m c,v= .sl id off m c
theorem gI.sp' {W:Nat->Prop}{h:H}{v:V}{ws:List V}{l:LN}(sv:SV h v 1 ws)(p:gI W h ws l):SP h v l:=by
 refine⟨ws,sv,?_⟩
 have hl:=bH.length p
 exact bH.oT (by simpa using hl) λi hi hj=>by
  have:=(bH.get p i hi (by omega)).si
  simpa using this
def FN (h:H)(v:V)(ws:List V)(b:Nat):Prop:= ∃id cap rest,v= .sl id 0 ws.length cap/\b<=id/\id<h.next/\h.get id=bT (ws++rest)/\(cap= .un 1∨cap= .kn 1/\ws.length+rest.length=1)
theorem FN.sv {h:H}{v:V}{ws:List V}{b:Nat}(t:FN h v ws b):SV h v 1 ws:=by
 obtain⟨id,cap,rest,rfl,h1,h2,h3,_⟩:=t
 exact .inr ⟨id,0,_,cap,false,_,rfl,(Nat.mul_one _).symm,h2,h3,by rw[qU];omega,by rw[List.drop_zero,Nat.mul_one,List.take_left' rfl]⟩
theorem FN.uB {h h':H}{v:V}{ws:List V}{b:Nat}(t:FN h v ws b)(hn:h.next<=h'.next)(hg: ∀id,iD v id->h'.get id=h.get id):FN h' v ws b:=by
 obtain⟨id,cap,rest,e,h1,h2,h3,h4⟩:=t
 exact⟨id,cap,rest,e,h1,by omega,by rw[hg id ⟨_,_,_,e⟩];exact h3,h4⟩
theorem FN.in {h:H}{v:V}{ws:List V}{b:Nat}(t:FN h v ws b){id:Nat}(hb:iD v id):b<=id/\id<h.next:=by
 obtain⟨i,cap,rest,rfl,h1,h2,_⟩:=t
 obtain⟨_,_,_,e⟩:=hb
 cases e
 exact⟨h1,h2⟩
theorem FN.pop {h:H}{v:V}{ws:List V}{b k:Nat}(t:FN h v ws b)(hk:ws.length=k+1):
  ∃v',Ae 1 v none (some (aB k)) none=some v'/\FN h v' (ws.take k) b/\ ∀id,iD v' id->iD v id:=by
 obtain⟨id,cap,rest,rfl,h1,h2,h3,h4⟩:=t
 have hl:(ws.take k).length=k:=by rw[Rt];omega
 have hr:ws++rest=ws.take k++(ws.drop k++rest):=by rw[←List.append_assoc,List.take_append_drop]
 rcases h4 with rfl|⟨rfl,h5⟩
 ·refine⟨_,alJ (by omega) (by omega),⟨id,_,ws.drop k++rest,by rw[hl,Int.toNat_natCast],h1,h2,by rw[h3,hr],.inl rfl⟩,λi ⟨_,_,_,e⟩=>by cases e;exact⟨_,_,_,rfl⟩⟩
 ·refine⟨_,akZ (by omega) (by omega),⟨id,_,ws.drop k++rest,by rw[hl,Int.toNat_natCast],h1,h2,by rw[h3,hr],.inr ⟨rfl,by rw[hl,qU,List.length_drop];omega⟩⟩,λi ⟨_,_,_,e⟩=>by cases e;exact⟨_,_,_,rfl⟩⟩
theorem FN.push {h:H}{v y:V}{ws:List V}{b S:Nat}{c:uQ}(t:FN h v ws b)(hS:SV h (.sl S 0 1 c) 1 [y])(hb:b<=h.next)(hw:ws.length<1000000):
  ∃v' h',Ep h 1 24 v (.sl S 0 1 c)=some (v',h')/\FN h' v' (ws++ [y]) b/\(∀k,k<h.next-> ¬iD v k->h'.get k=h.get k)/\h.next<=h'.next/\h'.next<=h.next+1/\ ∀k,iD v' k->iD v k∨k=h.next:=by
 have e1:Ep h 1 24 v (.sl S 0 1 c)=Ay.Cj h 1 24 v 1 [y]:=by
  simp only[Ep,hS.len (n:=1) rfl (by omega),hS.slice]
 rw[e1]
 have hx:=t.sv
 have hlen:=hx.len (n:=ws.length) (by omega) (by omega)
 have hsl:=hx.slice
 obtain⟨id,cap,rest,rfl,h1,h2,h3,h4⟩:=t
 unfold Ay.Cj
 simp only[hlen,hsl]
 rw[if_neg (by omega),if_pos ⟨by omega,by omega⟩]
 have key: ∀g:H,g.next=h.next->(∀k,k<h.next->k≠id->g.get k=h.get k)-> ∃v' h',some (V.sl h.next 0 (ws.length+1) (.un 1),g.new (.cells false (ws++ [y])))=some (v',h')/\FN h' v' (ws++ [y]) b/\(∀k,k<h.next-> ¬iD (.sl id 0 ws.length cap) k->h'.get k=h.get k)/\h.next<=h'.next/\h'.next<=h.next+1/\ ∀k,iD v' k->iD (.sl id 0 ws.length cap) k∨k=h.next:=by
  intro g gn gg
  refine⟨_,_,rfl,⟨h.next,_, [],by rw[qU];rfl,hb,by rw[H.aY];omega,by rw[←gn,H.aQ,List.append_nil],.inl rfl⟩,λk hk ha=>?_,by rw[H.aY];omega,by rw[H.aY];omega,λk ⟨_,_,_,e⟩=>by cases e;exact .inr rfl⟩
  rw[H.bN g (by omega)]
  exact gg k hk (λe=>ha ⟨_,_,_,by rw[e]⟩)
 rcases h4 with rfl|⟨rfl,h5⟩
 ·simp only[h3,if_true]
  exact key (h.set id none) rfl (λk _ hk=>H.aH h hk none)
 ·simp only
  by_cases e:ws.length+1<=1
  ·rw[if_pos e]
   have e0:ws= []:=List.eq_nil_of_length_eq_zero (by omega)
   subst e0
   obtain⟨z,rfl⟩: ∃z,rest= [z]:=List.length_eq_one_iff.1 (by simpa using h5)
   have hp:h.put id (0+([]:List V).length*1) [y]=some (h.set id (bT [y])):=by
    simp [H.put,h3,putAt]
   rw[hp]
   refine⟨_,_,rfl,⟨id,_, [],rfl,h1,h2,by rw[H.aV];rfl,.inr ⟨rfl,rfl⟩⟩,λk hk ha=>H.aH h (λe=>ha ⟨0,0,.kn 1,by rw[e];rfl⟩) _,iT _,Nat.le_succ _,λk ⟨_,_,_,e⟩=>by cases e;exact .inl ⟨_,_,_,rfl⟩⟩
  ·rw[if_neg e]
   exact key h rfl (λ_ _ _=>rfl)
def amE (n:Nat):LN:=(Eu n n).filter (Xf n)
theorem aaV {n:Nat}{x:List Nat}(X:bM n x):x∈amE n:=by
 unfold amE
 rw[BF]
 refine⟨X.xN,?_⟩
 unfold Xf
 simp only[Bool.and_eq_true,beq_iff_eq,List.all_eq_true,decide_eq_true_iff]
 exact⟨⟨X.len,X.nd⟩,X.lt⟩
theorem Jj {n:Nat}(hn:n<=5){l:LN}(nd:l.Nodup)(hP: ∀x∈l,bM n x):l.length<=120:=by
 have h: ∀n,n<=5->(amE n).length<=120:=by decide+kernel
 exact Nat.le_trans (List.Nodup.length_le_of_subset nd λx hx=>aaV (hP x hx)) (h n hn)
theorem Sx {n:Nat}{A:LN}(asc:A.Pairwise Lt):A.Nodup:=asc.imp λh e=>by rw[e] at h;exact h.irrefl
def Yc (A:LN)(k:Nat)(y:List Nat):LN:=A.take k++y::A.drop k
theorem qX {A:LN}{k:Nat}{y z:List Nat}:z∈Yc A k y↔z=y∨z∈A:=by
 unfold Yc
 rw[Rl,List.mem_cons]
 constructor
 ·rintro (h|h|h)
  ·exact .inr (List.mem_of_mem_take h)
  ·exact .inl h
  ·exact .inr (List.mem_of_mem_drop h)
 ·rintro (h|h)
  ·exact .inr (.inl h)
  ·rw[←List.take_append_drop k A,Rl] at h
   rcases h with h|h
   ·exact .inl h
   ·exact .inr (.inr h)
theorem Mv {A:LN}{k:Nat}{y:List Nat}:(Yc A k y).length=A.length+1:=by
 unfold Yc
 rw[qU,List.length_cons,Rt,List.length_drop];omega
theorem ZN {n:Nat}{a b:List Nat}(A:bM n a)(B:bM n b)(h1: ¬Lt a b)(h2:a≠b):Lt b a:=by
 have h: ∃i,i<n/\a.getD i 0≠b.getD i 0:=Yg λh=>h2 (xL (by rw[A.len,B.len]) λi hi=>Yg λh3=>h ⟨i,by rw[←A.len];exact hi,h3⟩)
 obtain⟨i,hi,hne⟩:=h
 have hw: ∃i,(i<n/\a.getD i 0≠b.getD i 0)/\ ∀j,j<i-> ¬(j<n/\a.getD j 0≠b.getD j 0):=by
  revert hi hne
  induction i using Nat.strongRecOn with
  |ind i ih=>
   intro hi hne
   by_cases h: ∃j,j<i/\j<n/\a.getD j 0≠b.getD j 0
   ·obtain⟨j,h3,h4,h5⟩:=h
    exact ih j h3 h4 h5
   ·exact⟨i,⟨hi,hne⟩,λj hj hjn=>h ⟨j,hj,hjn⟩⟩
 obtain⟨k,⟨hk,hk2⟩,hmin⟩:=hw
 have he: ∀j,j<k->a.getD j 0=b.getD j 0:=λj hj=>Yg λh3=>hmin j hj ⟨by omega,h3⟩
 rcases Nat.lt_or_gt_of_ne hk2 with h4|h4
 ·exact (h1 ⟨k,by rw[A.len];exact hk,he,h4⟩).elim
 ·exact⟨k,by rw[B.len];exact hk,λj hj=>(he j hj).symm,h4⟩
theorem abZ {n:Nat}{A:LN}{k:Nat}{y:List Nat}(hP: ∀x∈A,bM n x)(Y:bM n y)(asc:A.Pairwise Lt)(p:Plc A y k)(hy:y∉A):(Yc A k y).Pairwise Lt:=by
 unfold Yc
 rw[List.pairwise_append]
 have at': ∀{z:List Nat},z∈A.take k-> ∃i,i<k/\i<A.length/\A.getD i []=z:=λh=>(Uf (d:= [])).1 h
 have bt: ∀{z:List Nat},z∈A.drop k-> ∃i,k<=i/\i<A.length/\A.getD i []=z:=λh=>by
  obtain⟨q,hq,e⟩:=Qe.1 h
  rw[List.length_drop] at hq
  rw[List.getElem_drop] at e
  exact⟨k+q,by omega,by omega,by rw[List.getD,iH (by omega),←e];rfl⟩
 have lo: ∀z∈A.take k,Lt z y:=λz hz=>by
  obtain⟨i,h1,h2,rfl⟩:=at' hz
  exact (oB (by rw[(hP _ (bF h2)).len,Y.len])).1 (p.lo i h1)
 have hi: ∀z∈A.drop k,Lt y z:=λz hz=>by
  obtain⟨i,h1,h2,rfl⟩:=bt hz
  have Z:=hP _ (bF (d:= []) h2)
  refine ZN Z Y (λh=>?_) (λe=>hy (by rw[←e];exact bF h2))
  have:=p.hi i h1 h2
  rw[(oB (by rw[Z.len,Y.len])).2 h] at this
  cases this
 refine⟨asc.sublist (List.take_sublist k A),List.pairwise_cons.2 ⟨hi,asc.sublist (List.drop_sublist k A)⟩,λz hz w hw=>?_⟩
 rcases List.mem_cons.1 hw with rfl|hw
 ·exact lo z hz
 ·have Z:=hP z (List.mem_of_mem_take hz)
  exact Lt.trans (by rw[Z.len,Y.len]) (lo z hz) (hi w hw)
structure ElJ (n:Nat)(S A Q:LN):Prop where
 asc:A.Pairwise Lt
 gen: ∀x∈A,eH n (· ∈S) x
 one:bZ n∈A
 sub: ∀x∈Q,x∈A
 cl: ∀x∈A,x∉Q-> ∀g∈S,bD x g∈A
theorem ElJ.start (n:Nat)(S:LN):ElJ n S [bZ n] [bZ n]:=
 ⟨List.pairwise_singleton _ _,λx hx=>by simp at hx;subst hx;exact .one,by simp,λx hx=>hx,λx hx h=>absurd hx h⟩
theorem ElJ.done {n:Nat}{S A:LN}(j:ElJ n S A []):gK (eH n (· ∈S)) A:=by
 refine⟨j.asc,λx=>⟨j.gen x,λh=>?_⟩⟩
 induction h with
 |one=>exact j.one
 |mul _ hg ih=>exact j.cl _ ih List.not_mem_nil _ hg
structure SL (n:Nat)(S:LN)(x:List Nat)(i:Nat)(A Q:LN):Prop where
 asc:A.Pairwise Lt
 gen: ∀x∈A,eH n (· ∈S) x
 one:bZ n∈A
 sub: ∀x∈Q,x∈A
 mem:x∈A
 cl: ∀z∈A,z∉Q->z=x∨ ∀g∈S,bD z g∈A
 dn: ∀j,j<i->bD x (S.getD j [])∈A
theorem SL.start {n:Nat}{S A Q:LN}{x:List Nat}(j:ElJ n S A (Q++ [x])):SL n S x 0 A Q:=
 ⟨j.asc,j.gen,j.one,λz hz=>j.sub z (by simp [hz]),j.sub x (by simp),λz hz hq=>by
  by_cases e:z=x
  ·exact .inl e
  ·exact .inr (j.cl z hz (by simp [hq,e])),λj hj=>by omega⟩
theorem SL.done {n:Nat}{S A Q:LN}{x:List Nat}(j:SL n S x S.length A Q):ElJ n S A Q:=
 ⟨j.asc,j.gen,j.one,j.sub,λz hz hq g hg=>by
  rcases j.cl z hz hq with rfl|h
  ·obtain⟨i,hi,e⟩:=Qe.1 hg
   have:=j.dn i hi
   rwa [List.getD,iH hi,Option.getD_some,e] at this
  ·exact h g hg⟩
theorem SL.skip {n:Nat}{S A Q:LN}{x:List Nat}{i:Nat}(j:SL n S x i A Q)(h:bD x (S.getD i [])∈A):SL n S x (i+1) A Q:=
 ⟨j.asc,j.gen,j.one,j.sub,j.mem,j.cl,λk hk=>by
  by_cases e:k=i
  ·rw[e];exact h
  ·exact j.dn k (by omega)⟩
theorem SL.step {n:Nat}{S A Q:LN}{x:List Nat}{i k:Nat}(j:SL n S x i A Q)(hS: ∀g∈S,bM n g)(hi:i<S.length)(h:bD x (S.getD i [])∉A)(p:Plc A (bD x (S.getD i [])) k):SL n S x (i+1) (Yc A k (bD x (S.getD i []))) (Q++ [bD x (S.getD i [])]):=by
 have gx:=j.gen x j.mem
 have gy:eH n (· ∈S) (bD x (S.getD i [])):=gx.mul (bF hi)
 obtain⟨y,hy⟩: ∃y,bD x (S.getD i [])=y:=⟨_,rfl⟩
 rw[hy] at gy h p ⊢
 refine⟨abZ (λz hz=>(j.gen z hz).dV hS) (gy.dV hS) j.asc p h,λz hz=>?_,qX.2 (.inr j.one),λz hz=>?_,qX.2 (.inr j.mem),λz hz hq=>?_,λq hq=>?_⟩
 ·rcases qX.1 hz with rfl|hz
  ·exact gy
  ·exact j.gen z hz
 ·rcases Rl.1 hz with hz|hz
  ·exact qX.2 (.inr (j.sub z hz))
  ·simp at hz;exact qX.2 (.inl hz)
 ·rcases qX.1 hz with rfl|hz
  ·exact absurd (by simp) hq
  ·rcases j.cl z hz (λh=>hq (by simp [h])) with e|h2
   ·exact .inl e
   ·exact .inr λg hg=>qX.2 (.inr (h2 g hg))
 ·by_cases e:q=i
  ·rw[e,hy];exact qX.2 (.inl rfl)
  ·exact qX.2 (.inr (j.dn q (by omega)))
theorem SS {A:List V}{k:Nat}(hk:k<=A.length)(z y:V):(((A++ [z]).take (k+1)++A.drop k).set k y)=A.take k++y::A.drop k:=by
 have h1:(A++ [z]).take (k+1)=A.take k++ [(A++ [z]).getD k .undef]:=by
  rw[iG .undef (by rw[qU];simp;omega),List.take_append_of_le_length hk]
 rw[h1,List.append_assoc,List.set_append_right _ _ (by rw[Rt];omega),Rt,Nat.min_eq_left hk,Nat.sub_self]
 rfl
theorem gI.Yc {W:Nat->Prop}{h:H}{wa:List V}{A:LN}{v:V}{y:List Nat}(p:gI W h wa A)(q:PV W h v y){k:Nat}(hk:k<=A.length):gI W h (wa.take k++v::wa.drop k) (Go.Proofs.YtddpkbicnolafaaGreat.Yc A k y):=by
 have hl:=bH.length p
 have t: ∀(k:Nat) (wa:List V) (A:LN),gI W h wa A->gI W h (wa.take k) (A.take k)/\gI W h (wa.drop k) (A.drop k):=by
  intro k
  induction k with
  |zero=>intro wa A p;exact⟨trivial,p⟩
  |succ k ih=>
   intro wa A p
   cases wa with
   |nil=>cases A with
    |nil=>exact⟨trivial,trivial⟩
    |cons=>exact p.elim
   |cons a wa=>cases A with
    |nil=>exact p.elim
    |cons b A=>
     obtain⟨h1,h2⟩:=ih wa A p.2
     exact⟨⟨p.1,h1⟩,h2⟩
 obtain⟨h1,h2⟩:=t k wa A p
 exact h1.append ⟨q,h2⟩
theorem FN.own {h:H}{v:V}{ws:List V}{b:Nat}(t:FN h v ws b)(h0:0<ws.length):eJ h v 1 ws b:=by
 obtain⟨id,cap,rest,rfl,h1,h2,h3,h4⟩:=t
 refine .inr ⟨id,ws.length,cap,rest,rfl,(Nat.mul_one _).symm,?_,h1,h2,h3⟩
 rcases h4 with h4|⟨rfl,h5⟩
 ·exact .inl h4
 ·have e:ws.length=1:=by omega
  exact .inr ⟨by rw[e],List.eq_nil_of_length_eq_zero (by omega)⟩
theorem alV {Q m k:Nat}(hk:k<=m):Ae 1 (.sl Q 0 (m+1) (.un 1)) (some (aB k)) none none=some (.sl Q k (m+1-k) (.un 1)):=by
 simp only[Ae,sE]
 rw[if_pos ⟨by omega,by omega⟩]
 simp only[if_true,Int.toNat_natCast]
 rw[if_pos (by omega),Nat.zero_add,Nat.mul_one]
theorem agJ {Q m k:Nat}(hk:k<=m):Ae 1 (.sl Q 0 (m+1) (.un 1)) (some (aB ((k:Int)+1))) none none=some (.sl Q (if k<m then k+1 else 0) (m-k) (.un 1)):=by
 simp only[Ae,sE]
 rw[if_pos ⟨by omega,by omega⟩]
 have e:((k:Int)+1).toNat=k+1:=by omega
 simp only[if_true,e]
 by_cases h:k<m
 ·rw[if_pos (by omega),if_pos h]
  simp only[Option.some.injEq,V.sl.injEq,true_and,and_true]
  omega
 ·rw[if_neg (by omega),if_neg h]
  simp only[Option.some.injEq,V.sl.injEq,true_and,and_true]
  omega
theorem ahB {h:H}{Q k:Nat}{ws:List V}{z:V}(hk:k<=ws.length)(hg:h.get Q=bT (ws++ [z])):
  VQ h 1 (.sl Q (if k<ws.length then k+1 else 0) (ws.length-k) (.un 1)) (.sl Q k (ws.length+1-k) (.un 1))=some (aB (ws.length-k:Nat),h.set Q (bT ((ws++ [z]).take (k+1)++ws.drop k))):=by
 have e1:vA (.sl Q (if k<ws.length then k+1 else 0) (ws.length-k) (.un 1))=some (ws.length-k):=rfl
 have e2:vA (.sl Q k (ws.length+1-k) (.un 1))=some (ws.length+1-k):=rfl
 have e3:min (ws.length+1-k) (ws.length-k)=ws.length-k:=by omega
 have e4:h.row Q k (ws.length-k)=some (ws.drop k):=by
  unfold H.row
  rw[hg]
  show sub (ws++ [z]) k (ws.length-k)=_
  unfold sub
  rw[if_pos (by rw[qU];omega),List.drop_append_of_le_length hk,List.take_left' (by rw[List.length_drop])]
 have e5:h.put Q (if k<ws.length then k+1 else 0) (ws.drop k)=some (h.set Q (bT ((ws++ [z]).take (k+1)++ws.drop k))):=by
  unfold H.put
  rw[hg]
  show (putAt (ws++ [z]) _ (ws.drop k)).map _=_
  unfold putAt
  have hl:(ws++ [z]).length=ws.length+1:=by simp
  by_cases h:k<ws.length
  ·rw[if_pos h,if_pos (by rw[hl,List.length_drop];omega),List.length_drop,List.drop_eq_nil_of_le (as:=ws++ [z]) (by rw[hl];omega),List.append_nil];rfl
  ·have e:k=ws.length:=by omega
   rw[if_neg h,if_pos (by rw[hl,List.length_drop];omega),e,List.drop_length,List.append_nil,List.append_nil]
   have e6:(ws++ [z]).take (ws.length+1)=ws++ [z]:=List.take_of_length_le (by rw[hl];omega)
   rw[e6]
   simp
 simp only[VQ,e1,e2,e3,Nat.mul_one,e4,e5]
structure ESt (h hh:H)(va vt:V)(A Q:LN):Prop where
 ex: ∃wa wt,FN hh va wa h.next/\FN hh vt wt h.next/\gI (λq=>iD va q∨iD vt q) hh wa A/\gI (λq=>iD va q∨iD vt q) hh wt Q
 Yw: ∀q,iD va q-> ¬iD vt q
 fr:Fr h hh
theorem aaA (n:Nat)(vl:V)(S:LN)(h:H)(n0:1<=n)(n5:n<=5)(hS: ∀g∈S,bM n g)(hl:S.length<=16)(hv:SP h vl S):
  Ev T Wi [aB n,vl,aB 120] h (λv h'=> ∃A,gK (eH n (· ∈S)) A/\A.length<=120/\SP h' v A/\Fr h h'):=by
 refine aX Wh rfl ?_
 have lv:=hv.lens
 rw[nW] at lv
 obtain⟨id,off,ws,sh,hid,hwl,hc,hall⟩:=hv.open
 rw[nW] at sh hid hwl hc
 simp (disch:=omega) only[go_sem,rQ,aF]
 refine (BT n h (by omega)).mono ?_
 rintro v1 h1 ⟨s1,f1,l1⟩
 obtain⟨B,hB⟩: ∃B,h1.next=B:=⟨_,rfl⟩
 obtain⟨h2,e2,n2,g2,o2,f2⟩:=iB hB [v1]
 simp (disch:=omega) only[go_sem,dG _ (z:= .aC) (Fl s1).1 (Fl s1).2,hB,e2]
 refine (BT n h2 (by omega)).mono ?_
 rintro v3 h3 ⟨s3,f3,l3⟩
 obtain⟨C,hC⟩: ∃C,h3.next=C:=⟨_,rfl⟩
 obtain⟨h4,e4,n4,g4,o4,f4⟩:=iB hC [v3]
 have k1:=f1.next
 have k3:=f3.next
 have F4:=((f1.trans f2).trans f3).trans f4
 have one4: ∀{v:V} {hh:H},SI hh v (zi (bZ n))->Fr hh h4->(∀id off len cap,v= .sl id off len cap->id≠B/\id≠C)->PV (λq=>iD (.sl B 0 1 (.kn 1)) q∨iD (.sl C 0 1 (.kn 1)) q) h4 v (bZ n):=λ{v hh} s f hne=>by
  refine⟨s.mono f,?_⟩
  cases v with
  |sl i o m c=>
   have:=hne _ _ _ _ rfl
   rintro (⟨_,_,_,e⟩|⟨_,_,_,e⟩)
   ·cases e;omega
   ·cases e;omega
  |_=>trivial
 have st4:ESt h h4 (.sl B 0 1 (.kn 1)) (.sl C 0 1 (.kn 1)) [bZ n] [bZ n]:=by
  refine⟨⟨[v1], [v3],⟨B,_, [],rfl,by omega,by omega,by rw[o4 B (by omega),f3.get B (by omega)];exact g2,.inr ⟨rfl,rfl⟩⟩,⟨C,_, [],rfl,by omega,by omega,g4,.inr ⟨rfl,rfl⟩⟩,gI.one (one4 s1 ((f2.trans f3).trans f4) λi o m c e=>?_),gI.one (one4 s3 f4 λi o m c e=>?_)⟩,λq ⟨_,_,_,e⟩ ⟨_,_,_,e2⟩=>by cases e;cases e2;omega,F4⟩
  ·have:=SV.in s1 _ _ _ _ e;omega
  ·have:=SV.in s3 _ _ _ _ e;have:=l3 _ _ _ _ e;omega
 simp (disch:=omega) only[go_sem,dG _ (z:= .aC) (Fl s3).1 (Fl s3).2,hC,e4]
 refine aJ (λk' vars hh=> ∃(A Q:LN) (va vt:V),(∃g:Nat->V,vars= [aB n,vl,aB 120,g 3,va,vt,g 6,g 7,g 8,g 9,g 10,g 11,g 12,g 13,g 14])/\ElJ n S A Q/\ESt h hh va vt A Q/\Q.length<=A.length/\k'=1000- 2*A.length+Q.length) _
  ⟨_,_,_,_,aA rfl,ElJ.start n S,st4,iT _,rfl⟩ ?_
 clear st4 one4 g2 g4 o2 o4 e2 e4 s1 s3 l1 l3 F4 f1 f2 f3 f4 k1 k3 n2 n4 hB hC
 rintro k' vars h5 ⟨A,Q,va,vt,⟨g,rfl⟩,J,st,hqa,rfl⟩
 have AP: ∀x∈A,bM n x:=λx hx=>(J.gen x hx).dV hS
 have la:=Jj n5 (Sx J.asc (n:=n)) AP
 obtain⟨⟨wa,wt,ta,tt,pa,pt⟩,Yw,fr⟩:=st
 have lwa:=bH.length pa
 have lwt:=bH.length pt
 have lt5:dN vt=some (aB (Q.length:Int)):=by unfold dN;rw[SV.len tt.sv (n:=Q.length) (by omega) (by omega)];rfl
 by_cases hq:(0:Int)<(Q.length:Int)
 case neg=>
  have d1:=eX hq
  have e0:Q= []:=List.eq_nil_of_length_eq_zero (by omega)
  simp (disch:=omega) only[go_sem,lt5,d1]
  subst e0
  exact⟨A,J.done,la,gI.sp' ta.sv pa,fr⟩
 have d1:=jZ hq
 obtain⟨m,hm⟩: ∃m,Q.length=m+1:=⟨Q.length- 1,by omega⟩
 have em:(Q.length:Int)- 1=(m:Int):=by omega
 obtain⟨_,idt,offt,sht,hct⟩:=gI.open tt.sv pt
 obtain⟨_,cx,px⟩:=hct m (by omega)
 obtain⟨x,hx⟩: ∃x,Q.getD m []=x:=⟨_,rfl⟩
 rw[hx] at px
 generalize wt.getD m .undef=vx at cx px
 obtain⟨vt',sl5,tt',bt'⟩:=tt.pop (k:=m) (by omega)
 have hQ:Q=Q.take m++ [x]:=by
  rw[←hx,←iG [] (by omega),List.take_of_length_le (by omega)]
 have ptk:gI (λq=>iD va q∨iD vt' q) h5 (wt.take m) (Q.take m):=by
  have t: ∀(k:Nat) (wa:List V) (A:LN),gI (λq=>iD va q∨iD vt q) h5 wa A->gI (λq=>iD va q∨iD vt q) h5 (wa.take k) (A.take k):=by
   intro k
   induction k with
   |zero=>intro wa A p;exact trivial
   |succ k ih=>
    intro wa A p
    cases wa with
    |nil=>cases A with
     |nil=>exact trivial
     |cons=>exact p.elim
    |cons a wa=>cases A with
     |nil=>exact p.elim
     |cons b A=>exact⟨p.1,ih wa A p.2⟩
  exact gI.xH (t m wt Q pt) λq _ hw=>hw.imp (λh=>h) (bt' q)
 have st':ESt h h5 va vt' A (Q.take m):=⟨⟨wa,wt.take m,ta,tt',gI.xH pa λq _ hw=>hw.imp (λh=>h) (bt' q),ptk⟩,λq h1 h2=>Yw q h1 (bt' q h2),fr⟩
 have px':PV (λq=>iD va q∨iD vt' q) h5 vx x:=PV.xH px λq _ hw=>hw.imp (λh=>h) (bt' q)
 have J':SL n S x 0 A (Q.take m):=SL.start (by rw[←hQ];exact J)
 have lq':(Q.take m).length=m:=by rw[Rt];omega
 simp (disch:=omega) only[go_sem,lt5,d1,em,sht.ixa,cx,sl5]
 refine Aa (λvs hh=> ∃(A' Q':LN) (va vt:V),(∃g:Nat->V,vs= [aB n,vl,aB 120,g 3,va,vt,g 6,g 7,g 8,g 9,g 10,g 11,g 12,g 13,g 14])/\ElJ n S A' Q'/\ESt h hh va vt A' Q'/\Q'.length<=A'.length/\1000- 2*A'.length+Q'.length<1000- 2*A.length+Q.length) ?_ ?_
 ·refine aJ (λk' vars hh=> ∃(i:Nat) (A' Q':LN) (va vt:V),(∃g:Nat->V,vars= [aB n,vl,aB 120,g 3,va,vt,vx,aB i,g 8,g 9,g 10,g 11,g 12,g 13,g 14])/\i<=S.length/\SL n S x i A' Q'/\ESt h hh va vt A' Q'/\PV (λq=>iD va q∨iD vt q) hh vx x/\Q'.length+A.length+1=A'.length+Q.length/\A.length<=A'.length/\k'=S.length-i) S.length
   ⟨0,A,Q.take m,va,vt',aA rfl,lI _,J',st',px',by omega,iT _,rfl⟩ ?_
  clear st' px' J' ptk tt' bt' sl5 Yw fr pa pt ta tt lwa lwt lt5 cx px hct sht vt' g
  rintro k' vars h6 ⟨i,A',Q',va,vt,⟨g,rfl⟩,hi,J,st,px,hcnt,hle,rfl⟩
  have AP': ∀x∈A',bM n x:=λx hx=>(J.gen x hx).dV hS
  have la':=Jj n5 (Sx J.asc (n:=n)) AP'
  by_cases hlt:(i:Int)<(S.length:Int)
  case neg=>
   have d2:=eX hlt
   obtain rfl:i=S.length:=by omega
   simp (disch:=omega) only[go_sem,lv,d2]
   exact⟨A',Q',va,vt,aA rfl,J.done,st,by omega,by omega⟩
  have d2:=jZ hlt
  have hiS:i<S.length:=by omega
  obtain⟨⟨wa,wt,ta,tt,pa,pt⟩,Yw,fr⟩:=st
  have lwa:=bH.length pa
  have lwt:=bH.length pt
  have cg:h6.cell id (off+i)=some (ws.getD i .undef):=by rw[fr.cell (hid (by omega)),hc i hiS]
  have sg:=(Da hall hiS).mono fr
  have Gp:bM n (S.getD i []):=hS _ (bF hiS)
  generalize ws.getD i .undef=vg at cg sg
  have X:bM n x:=AP' x J.mem
  simp (disch:=omega) only[go_sem,lv,d2,sh.ixa,cg]
  refine (yR vx vg x _ h6 (by rw[X.len];omega) px.si sg (λj hj=>by rw[Gp.len];exact X.eM (by rw[←X.len];exact hj))).mono ?_
  rintro vy h7 ⟨sy,f7,l7⟩
  obtain⟨y,hy⟩: ∃y,bD x (S.getD i [])=y:=⟨_,rfl⟩
  have Y:bM n y:=by rw[←hy];exact X.mul Gp
  rw[hy] at sy
  have ta7:=ta.uB f7.next λq hq=>f7.get q (ta.in hq).2
  have tt7:=tt.uB f7.next λq hq=>f7.get q (tt.in hq).2
  have pa7:=gI.fx pa (Fx.of f7:Fx (λq=>iD va q∨iD vt q) h6 h7)
  have pt7:=gI.fx pt (Fx.of f7:Fx (λq=>iD va q∨iD vt q) h6 h7)
  have px7:=PV.mono px f7
  have hWlt: ∀q,(iD va q∨iD vt q)->q<h6.next:=λq hq=>hq.elim (λh=>(ta.in h).2) (λh=>(tt.in h).2)
  have py7:PV (λq=>iD va q∨iD vt q) h7 vy y:=PV.fresh sy l7 hWlt
  simp (disch:=omega) only[go_sem]
  refine (IG va vy n A' y h7 (by omega) (by omega) AP' Y J.asc (gI.sp' ta7.sv pa7) sy).mono ?_
  rintro _ h8 ⟨k,rfl,pk,_,f8⟩
  have ta8:=ta7.uB f8.next λq hq=>f8.get q (ta7.in hq).2
  have tt8:=tt7.uB f8.next λq hq=>f8.get q (tt7.in hq).2
  have pa8:=gI.fx pa7 (Fx.of f8:Fx (λq=>iD va q∨iD vt q) h7 h8)
  have pt8:=gI.fx pt7 (Fx.of f8:Fx (λq=>iD va q∨iD vt q) h7 h8)
  have px8:=PV.mono px7 f8
  have py8:=PV.mono py7 f8
  have fr8:=(fr.trans f7).trans f8
  by_cases hyA:y∈A'
  ·have d3:decide (y∈A')=true:=decide_eq_true hyA
   simp (disch:=omega) only[go_sem,d3]
   rw[gU i]
   exact⟨S.length-(i+1),by omega,i+1,A',Q',va,vt,aA rfl,by omega,J.skip (by rw[hy];exact hyA),⟨⟨wa,wt,ta8,tt8,pa8,pt8⟩,Yw,fr8⟩,px8,hcnt,hle,rfl⟩
  have d3:decide (y∈A')=false:=decide_eq_false hyA
  have J2:=J.step hS hiS (by rw[hy];exact hyA) (by rw[hy];exact pk)
  rw[hy] at J2
  have la2:=Jj n5 (Sx J2.asc (n:=n)) (λx hx=>(J2.gen x hx).dV hS)
  rw[Mv] at la2
  have lva:dN va=some (aB (A'.length:Int)):=by unfold dN;rw[SV.len ta8.sv (n:=A'.length) (by omega) (by omega)];rfl
  have d4:decide ((120:Int)<=(A'.length:Int))=false:=eX (by omega)
  have hA0:0<A'.length:=List.length_pos_of_mem J.one
  obtain⟨N,hN⟩: ∃N,h8.next=N:=⟨_,rfl⟩
  obtain⟨h9,e9,n9,g9,o9,f9⟩:=iB hN [.aC]
  have ow9:=(ta8.own (by omega)).fr f9
  obtain⟨h10,a10,p10⟩:=ow9.push (bytes:=24) (SV.one (by omega) g9 (.kn 1)) (n:=A'.length) (m:=1) (by omega) rfl (by omega) (by omega) (by omega)
  have n10:=p10.next
  rw[n9] at a10
  have hk:=pk.le
  have g10:h10.get (N+1)=bT (wa++ [.aC]):=by rw[←n9];exact p10.get
  obtain⟨hb,ehb,nhb,ghb⟩: ∃hb:H,H.mk h10.tr (h10.next+8)=hb/\hb.next=h10.next+8/\ ∀q,hb.get q=h10.get q:=⟨_,rfl,rfl,λ_=>rfl⟩
  have cp:=ahB (k:=k) (by omega) ((ghb (N+1)).trans g10)
  rw[lwa] at cp
  obtain⟨h11,e11,n11,g11,o11⟩:=zY hb (N+1) ((wa++ [V.aC]).take (k+1)++wa.drop k)
  rw[e11] at cp
  have d5:decide ((k:Int)<0)=false:=eX (by omega)
  have d6:decide (((A'.length+1:Nat):Int)<=(k:Int))=false:=eX (by omega)
  have hl11:((wa++ [V.aC]).take (k+1)++wa.drop k).length=A'.length+1:=by
   rw[qU,Rt,qU,List.length_drop];simp;omega
  have pt1:=bQ (vs:=(wa++ [V.aC]).take (k+1)++wa.drop k) (off:=k) (by omega) h11 (N+1) vy
  rw[SS (by omega)] at pt1
  obtain⟨h12,e12,n12,g12,o12⟩:=zY h11 (N+1) (wa.take k++vy::wa.drop k)
  rw[e12] at pt1
  have cvy:=Fl sy
  have fT: ∀q,q<N-> ¬iD va q->h12.get q=h8.get q:=λq h1 h2=>by
   rw[o12 q (by omega),o11 q (by omega),ghb,p10.old q (by omega) (λi o m c e e2=>h2 ⟨o,m,c,e2▸e⟩),o9 q (by omega)]
  have n12':h12.next=N+10:=by omega
  have tt12:=tt8.uB (h':=h12) (by omega) λq hq=>fT q (by have:=(tt8.in hq).2;omega) (λh=>Yw q h hq)
  obtain⟨P,hP⟩: ∃P,h12.next=P:=⟨_,rfl⟩
  obtain⟨h13,e13,n13,g13,o13,f13⟩:=iB hP [vy]
  have tt13:=tt12.uB f13.next λq hq=>f13.get q (tt12.in hq).2
  have frn:=fr8.next
  obtain⟨vt2,h14,a14,tt14,old14,hn1,hn2,bk14⟩:=tt13.push (S:=P) (c:= .kn 1) (SV.one (by omega) g13 (.kn 1)) (by omega) (by omega)
  simp (disch:=omega) only[go_sem,d3,lva,d4,dG _ (z:= .aC) (v:= .aC) rfl rfl,hN,e9,a10,agJ hk,alV hk,ehb,cp,d5,d6,g11,kI cvy.1 cvy.2,pt1,dG _ (z:= .aC) cvy.1 cvy.2,hP,e13,a14]
  rw[gU i]
  have htN: ∀q,iD vt q->q<N:=λq hq=>by have:=(tt8.in hq).2;omega
  have oldAll: ∀q,q<N-> ¬iD va q-> ¬iD vt q->h14.get q=h8.get q:=λq h1 h2 h3=>by
   rw[old14 q (by omega) h3,f13.get q (by omega)];exact fT q h1 h2
  have xx:Fx (λq=>iD va q∨iD vt q) h8 h14:=⟨by omega,λq h1 h2=>oldAll q (by omega) (λh=>h2 (.inl h)) (λh=>h2 (.inr h))⟩
  have ww: ∀q,q<h8.next->(iD (.sl (N+1) 0 (A'.length+1) (.un 1)) q∨iD vt2 q)->iD va q∨iD vt q:=λq h1 h2=>by
   rcases h2 with ⟨_,_,_,e⟩|h2
   ·cases e;omega
   ·rcases bk14 q h2 with h3|h3
    ·exact .inr h3
    ·omega
  have g14:h14.get (N+1)=bT (wa.take k++vy::wa.drop k):=by
   rw[old14 (N+1) (by omega) (λh=>by have:=htN _ h;omega),f13.get (N+1) (by omega)];exact g12
  have py14:PV (λq=>iD (.sl (N+1) 0 (A'.length+1) (.un 1)) q∨iD vt2 q) h14 vy y:=PV.go py8 xx ww
  have pa14:=gI.Yc (gI.go pa8 xx ww) py14 (k:=k) (by omega)
  have lia:(wa.take k++vy::wa.drop k).length=A'.length+1:=by rw[bH.length pa14,Mv]
  refine⟨S.length-(i+1),by omega,i+1,_,_,_,_,aA rfl,by omega,J2,⟨⟨_,_,⟨N+1,_, [],by rw[lia],by omega,by omega,by rw[List.append_nil];exact g14,.inl rfl⟩,tt14,pa14,(gI.go pt8 xx ww).append (gI.one py14)⟩,λq ⟨_,_,_,e⟩ h2=>?_,⟨by omega,λq hq=>?_⟩⟩,PV.go px8 xx ww,by rw[Mv,qU];simp;omega,by rw[Mv];omega,rfl⟩
  ·cases e
   rcases bk14 _ h2 with h3|h3
   ·have:=htN _ h3;omega
   ·omega
  ·rw[oldAll q (by omega) (λh=>by have:=(ta8.in h).1;omega) (λh=>by have:=(tt8.in h).1;omega)]
   exact fr8.get q hq
 clear st' px' J' ptk tt' bt' sl5 Yw fr pa pt ta tt lwa lwt lt5 cx px hct sht vt' g
 rintro vars h6 ⟨A',Q',va,vt,⟨g,rfl⟩,J,st,hle,hms⟩
 simp (disch:=omega) only[go_sem]
 exact⟨_,hms,A',Q',va,vt,aA rfl,J,st,hle,rfl⟩
theorem Ua {α:Type}(f c:α->Nat): ∀(J:List Nat) (l:List α),J.Nodup->(∀g∈l,f g∈J)->(l.map c).sum=(J.map λj=>((l.filter λg=>decide (f g=j)).map c).sum).sum
 | [],l,_,h=>by
  cases l with
  |nil=>rfl
  |cons a r=>exact absurd (h a (by simp)) (by simp)
 |j::J,l,nd,h=>by
  rw[List.nodup_cons] at nd
  have split: ∀l:List α,(l.map c).sum=((l.filter λg=>decide (f g=j)).map c).sum+((l.filter λg=>!decide (f g=j)).map c).sum:=by
   intro l
   induction l with
   |nil=>rfl
   |cons a l ih=>
    by_cases e:f a=j
    ·simp [e] at ih ⊢;omega
    ·simp [e] at ih ⊢;omega
  have ih:=Ua f c J (l.filter λg=>!decide (f g=j)) nd.2 λg hg=>by
   obtain⟨h1,h2⟩:=BF.1 hg
   have:=h g h1
   rcases List.mem_cons.1 this with e|e
   ·simp [e] at h2
   ·exact e
  rw[split l,List.map_cons,List.sum_cons,ih]
  congr 2
  refine List.map_congr_left λk hk=>?_
  rw[List.filter_filter]
  congr 2
  refine List.filter_congr λg _=>?_
  by_cases e:f g=k
  ·have:f g≠j:=λe2=>nd.1 (by rw[←e2,e];exact hk)
   simp [e]
   rintro rfl
   exact this e
  ·simp [e]
section
variable {n:Nat} {G:List Nat->Prop} {L:LN} {K:List Nat}
variable (hG:yF n G) (E:gK G L) (k:Sh n G L K)
include hG E k
theorem AW {q:Nat}(hq:q<K.length):((List.range L.length).filter λj=>decide (pE G L K j=q))=dW G L (K.getD q 0):=by
 classical
 unfold dW
 refine List.filter_congr λj hj=>?_
 rw[Bool.eq_iff_iff,decide_eq_true_iff,decide_eq_true_iff]
 exact Em hG E k.perm hq (Kq.1 hj)
theorem IM {i:Nat}(hi:i<L.length):dW G L (K.getD (pE G L K i) 0)=dW G L i:=by
 classical
 obtain⟨h1,h2⟩:=Kw hG E k hi
 have hr:=k.lt (bF (d:=0) h1)
 unfold dW
 refine List.filter_congr λj hj=>?_
 rw[Bool.eq_iff_iff,decide_eq_true_iff,decide_eq_true_iff]
 exact⟨λh=>oZ hG E hi (Bi hG E hr h2) h,λh=>oZ hG E hr h2 h⟩
theorem RP:((List.range K.length).map λq=>(dW G L (K.getD q 0)).length).sum=L.length:=by
 have h:=Bt (pE G L K) (List.range K.length) (List.range L.length) List.nodup_range λj hj=>Kq.2 (Kw hG E k (Kq.1 hj)).1
 rw[List.length_range] at h
 rw[h]
 congr 1
 refine List.map_congr_left λq hq=>?_
 rw[AW hG E k (Kq.1 hq)]
theorem VJ:((List.range L.length).map λi=>(nT L (L.getD i [])).length).sum=K.length*L.length:=by
 rw[Ua (pE G L K) _ (List.range K.length) (List.range L.length) List.nodup_range λj hj=>Kq.2 (Kw hG E k (Kq.1 hj)).1]
 have e:((List.range K.length).map λq=>(((List.range L.length).filter λj=>decide (pE G L K j=q)).map λi=>(nT L (L.getD i [])).length).sum)=(List.range K.length).map λ_=>L.length:=by
  refine List.map_congr_left λq hq=>?_
  have hq:=Kq.1 hq
  rw[AW hG E k hq]
  have hr:=k.lt (bF (d:=0) hq)
  have c: ∀i∈dW G L (K.getD q 0),(nT L (L.getD i [])).length=(nT L (L.getD (K.getD q 0) [])).length:=λi hi=>by
   obtain⟨i1,i2⟩:=iM.1 hi
   have e1:=xF hG E i1
   have e2:=xF hG E hr
   have e3:dW G L i=dW G L (K.getD q 0):=by
    rw[←IM hG E k i1,(Em hG E k.perm hq i1).2 i2]
   rw[e3] at e1
   have hpos:0<(dW G L (K.getD q 0)).length:=List.length_pos_of_mem hi
   exact Nat.eq_of_mul_eq_mul_left hpos (by rw[←e1,←e2])
  rw[List.map_congr_left c,Hd]
  exact (xF hG E hr).symm
 rw[e,Hd,List.length_range]
theorem UD {i:Nat}(hi:i<L.length):vG (L.getD i []) (L.getD (K.getD (pE G L K i) 0) [])=false:=by
 obtain⟨h1,h2⟩:=Kw hG E k hi
 have hm:=bF (d:=0) h1
 obtain⟨r,er⟩: ∃r,K.getD (pE G L K i) 0=r:=⟨_,rfl⟩
 rw[er] at h2 hm ⊢
 obtain⟨hr,hR⟩:=jJ.1 (k.perm.mem_iff.1 hm)
 have hle:r<=i:=Nat.le_of_not_lt λh=>hR i h (Bi hG E hr h2)
 rw[←Bool.not_eq_true]
 intro h
 have A:=kW hG E hi
 have B:=kW hG E hr
 rw[oB (by rw[A.len,B.len])] at h
 by_cases e:r=i
 ·rw[e] at h;exact h.irrefl
 ·have h3:=List.pairwise_iff_getElem.1 E.asc r i hr hi (by omega)
  have e1:L[r]=L.getD r []:=by rw[List.getD,iH hr];rfl
  have e2:L[i]=L.getD i []:=by rw[List.getD,iH hi];rfl
  rw[e1,e2] at h3
  exact h3.asymm h
end
def Xo (O:LN):Nat->Nat
 |0=>1
 |i+1=>Xo O i*(O.getD i []).length
def yJ (s:Nat->Bool)(n:Nat):Nat:=((List.range n).filter s).length
theorem Al (s:Nat->Bool)(n:Nat):yJ s (n+1)=yJ s n+if s n=true then 1 else 0:=by
 unfold yJ
 rw[List.range_succ,List.filter_append,qU]
 cases h:s n<;>simp [List.filter,h]
theorem abG {s:Nat->Bool}{n p:Nat}(hp:p<n)(h:s p=false):yJ (λj=>if j=p then true else s j) n=yJ s n+1:=by
 induction n with
 |zero=>omega
 |succ n ih=>
  rw[Al,Al]
  by_cases e:p=n
  ·subst e
   have: ∀m,m<=p->yJ (λj=>if j=p then true else s j) m=yJ s m:=by
    intro m
    induction m with
    |zero=>intro _;rfl
    |succ m ihm=>intro hm;rw[Al,Al,ihm (by omega),if_neg (show ¬m=p by omega)]
   rw[this p (iT _)]
   simp [h]
  ·rw[ih (by omega),if_neg (show ¬n=p from λh=>e h.symm)]
   omega
theorem Wz {s t:Nat->Bool}{n:Nat}(h: ∀j,j<n->s j=t j):yJ s n=yJ t n:=by
 unfold yJ
 rw[List.filter_congr λj hj=>h j (Kq.1 hj)]
theorem PZ (s:Nat->Bool)(n:Nat):yJ s n<=n:=by
 unfold yJ
 have:=List.length_filter_le s (List.range n)
 rwa [List.length_range] at this
theorem QC {O:LN}{n:Nat}: ∀k,k<=n->Xo O k*Kr O (n-k) k=Kr O n 0
 |0,_=>by show 1*_=_;rw[Nat.one_mul];rfl
 |k+1,h=>by
  have ih:=QC (O:=O) (n:=n) k (by omega)
  have e:n-k=(n-(k+1))+1:=by omega
  rw[e] at ih
  show Xo O k*(O.getD k []).length*_=_
  rw[Nat.mul_assoc]
  exact ih
noncomputable def PH (L:LN)(i k:Nat):Nat:=L.idxOf (kC (L.getD i []) (L.getD k []))
open Classical in
noncomputable def Kp (L:LN)(i k j:Nat):Bool:=decide (∃q,q<k/\PH L i q=j)
theorem XS (L:LN)(i k j:Nat):Kp L i (k+1) j=if j=PH L i k then true else Kp L i k j:=by
 classical
 unfold Kp
 by_cases e:j=PH L i k
 ·rw[if_pos e,decide_eq_true_iff];exact⟨k,by omega,e.symm⟩
 ·rw[if_neg e,Bool.eq_iff_iff,decide_eq_true_iff,decide_eq_true_iff]
  constructor
  ·rintro⟨q,h1,h2⟩
   by_cases e2:q=k
   ·subst e2;exact absurd h2.symm e
   ·exact⟨q,by omega,h2⟩
  ·rintro⟨q,h1,h2⟩;exact⟨q,by omega,h2⟩
section
variable {n:Nat} {G:List Nat->Prop} {L:LN}
variable (hG:yF n G) (E:gK G L)
include hG E
theorem CX {i k:Nat}(hi:i<L.length)(hk:k<L.length):PH L i k<L.length/\L.getD (PH L i k) []=kC (L.getD i []) (L.getD k []):=
 ZV E (by
  have A:=Bp E hi
  have C:=Bp E hk
  exact hG.mul (hG.mul (hG.inv C) A) C)
theorem QW {i j:Nat}(hi:i<L.length)(hj:j<L.length):Kp L i L.length j=true↔cR G L i j:=by
 classical
 unfold Kp
 rw[decide_eq_true_iff]
 constructor
 ·rintro⟨q,h1,h2⟩
  refine⟨L.getD q [],Bp E h1,?_⟩
  rw[←(CX hG E hi h1).2,h2]
 ·rintro⟨c,hc,e⟩
  obtain⟨q1,q2⟩:=ZV E hc
  refine⟨L.idxOf c,q1,?_⟩
  have h:=CX hG E hi q1
  rw[q2,e] at h
  exact Et E.nodup h.1 hj h.2
theorem ajE {i:Nat}(hi:i<L.length):yJ (Kp L i L.length) L.length=(dW G L i).length:=by
 classical
 unfold yJ dW
 congr 1
 refine List.filter_congr λj hj=>?_
 rw[Bool.eq_iff_iff,decide_eq_true_iff]
 exact QW hG E hi (Kq.1 hj)
theorem afE {i:Nat}(hi:i<L.length):yJ (λq=>decide (PH L i q=i)) L.length=(nT L (L.getD i [])).length:=by
 have A:=kW hG E hi
 have h: ∀q,q<L.length->(PH L i q=i↔bD (L.getD i []) (L.getD q [])=bD (L.getD q []) (L.getD i [])):=λq hq=>by
  have p:=CX hG E hi hq
  rw[←Ar A (kW hG E hq),←p.2]
  constructor
  ·intro e;rw[e]
  ·intro e;exact Et E.nodup p.1 hi e
 unfold yJ nT
 have e:L.filter (λg=>decide (bD (L.getD i []) g=bD g (L.getD i [])))=((List.range L.length).filter λq=>decide (PH L i q=i)).map λq=>L.getD q []:=by
  have e0:L=(List.range L.length).map λq=>L.getD q []:=by
   refine List.ext_getElem (by simp) λj h1 h2=>?_
   simp [List.getD,h1]
  conv=>lhs;rw[e0]
  rw[List.filter_map]
  congr 1
  refine List.filter_congr λq hq=>?_
  rw[Bool.eq_iff_iff]
  simp only[Function.comp,decide_eq_true_iff]
  have hq:=Kq.1 hq
  have e1:((List.range L.length).map λq=>L.getD q []).getD i []=L.getD i []:=by rw[←e0]
  rw[←e0]
  exact (h q hq).symm
 rw[e,nW]
end
def Ib (f:Nat->Nat)(k:Nat):Nat:=((List.range k).map f).sum
theorem Oj (f:Nat->Nat)(k:Nat):Ib f (k+1)=Ib f k+f k:=by
 unfold Ib
 rw[List.range_succ,List.map_append,List.sum_append];simp
theorem DI {f:Nat->Nat}{m:Nat}(h: ∀j,f j<=m): ∀k,Ib f k<=k*m
 |0=>by simp [Ib]
 |k+1=>by
  rw[Oj,Nat.succ_mul]
  have:=DI h k
  have:=h k
  omega
theorem QN {G:List Nat->Prop}{L:LN}{K:List Nat}{j:Nat}(hj:j<L.length):(zi (Ab G L K)).getD j 0=((pE G L K j:Nat):Int):=by
 unfold Ab zi
 simp [List.getD,hj]
theorem QY {h:H}{v:V}{L:LN}(s:SP h v L):dN v=some (aB (L.length:Int))/\eQ v v=true/\ ∃(id off:Nat) (ws:List V),Sl v 1 L.length id off/\ ∀i,i<L.length->id<h.next/\h.cell id (off+i)=some (ws.getD i V.undef)/\SI h (ws.getD i V.undef) (zi (L.getD i [])):=by
 have lv:=s.lens
 rw[nW] at lv
 obtain⟨id,off,ws,sh,hid,hwl,hc,hall⟩:=s.open
 rw[nW] at sh hid hwl hc
 obtain⟨ws',sv',_⟩:=s
 exact⟨lv,SV.eQ sv',id,off,ws,sh,λi hi=>⟨hid (by omega),hc i hi,Da hall hi⟩⟩
theorem acF (u:V)(l:List Int)(h:H)(hu:SI h u l)(hl:(l.length:Int)<=2^63- 1):
  Ev T Eb [u] h (λv h'=>v= .bool true/\Fr h h'):=by
 refine aX Ez rfl ?_
 simp (disch:=omega) only[go_sem,jQ,aF]
 refine (XW h).mono ?_
 rintro _ h1 ⟨rfl,f1⟩
 simp (disch:=omega) only[go_sem]
 refine (LG u l 5 h1 (hu.mono f1) (by omega) (by omega) (by omega)).mono ?_
 rintro _ h2 ⟨n,vg,gens,rfl,hn1,hn5,hg3,gP,sg,f2⟩
 obtain⟨B,hB⟩: ∃B,h2.next=B:=⟨_,rfl⟩
 obtain⟨h3,e3,n3,g3,o3,f3⟩:=iB hB [aB 0,.aC]
 obtain⟨h4,e4,n4,g4,o4⟩:=zY h3 B [aB n,vg]
 have F24:Fr h2 h4:=⟨by omega,λid hid=>by rw[o4 id (by omega),o3 id (by omega)]⟩
 have wg:vg.one=true:=by obtain⟨ws,s,_⟩:=sg;exact s.cY.2.1
 have cB0:h4.cell B 0=some (aB n):=by rw[H.aG g4];rfl
 have cB1:h4.cell B 1=some vg:=by rw[H.aG g4];rfl
 simp (disch:=omega) only[go_sem,hB,e3,Vv h3 B 0 (v:= aB n) (u:=vg) rfl wg,g3,Me,e4,cB0,cB1]
 refine (aaA n vg gens h4 hn1 hn5 gP (by omega) (sg.mono F24)).mono ?_
 rintro v4 h5 ⟨L,E,hL120,s4,f5⟩
 have g5:h5.get B=some (.cells false [aB n,vg]):=by rw[f5.get B (by omega)];exact g4
 simp (disch:=omega) only[go_sem,Ro g5]
 refine (ajV vg n gens h5 hn1 (by omega) (by omega) (sg.mono (F24.trans f5)) gP).mono ?_
 rintro _ h6 ⟨vc,O,R,rfl,gc,f6⟩
 have hL:=gc.el E
 have hG:=gc.jY
 obtain⟨u1,w1,rfl,a1,b1,_,_⟩:=gc.sl
 obtain⟨C,hC⟩: ∃C,h6.next=C:=⟨_,rfl⟩
 obtain⟨h7,e7,n7,g7,o7,f7⟩:=iB hC [aB 0,.aC,.aC]
 obtain⟨h8,e8,n8,g8,o8⟩:=zY h7 C [aB n,u1,w1]
 have F68:Fr h6 h8:=⟨by omega,λid hid=>by rw[o8 id (by omega),o7 id (by omega)]⟩
 have gc8:=gc.mono F68
 have rC: ∀hh,Fr h8 hh->hh.row C 0 3=some [aB n,u1,w1]:=λhh f=>aW (by rw[f.get _ (by omega)];exact g8)
 have F08:=((((f1.trans f2).trans F24).trans f5).trans f6).trans F68
 have s48:=s4.mono (f6.trans F68)
 simp (disch:=omega) only[go_sem,hC,e7,dR h7 C 0 (v:= aB n) (u:=u1) (w:=w1) rfl a1 b1,g7,dX,e8,rC h8 (Fr.refl _)]
 refine (Nh _ n O R _ h8 gc8 L hL).mono ?_
 rintro _ h9 ⟨v6,K,ks,rfl,ik,sl9,al9,f9⟩
 simp (disch:=omega) only[go_sem,rC h9 f9]
 refine (abA _ n O R _ h9 (gc8.mono f9) L hL).mono ?_
 rintro _ h10 ⟨v8,K',rfl,ik',s8,f10⟩
 obtain rfl:=ik'.uniq ik
 have F810:=f9.trans f10
 obtain⟨l4,ev4,id4,off4,ws4,sh4,c4⟩:=QY (s48.mono F810)
 have l8:=s8.lens
 have nl:(Ab (eH n (· ∈gens)) L K').length=L.length:=by unfold Ab;simp
 rw[aT,nl] at l8
 have ev8:=SV.eQ s8
 obtain⟨id8,off8,sh8,hid8,hc8⟩:=s8.open
 rw[aT,nl] at sh8 hid8 hc8
 have hks:=bH.length al9
 have kl:K'.length<=120:=Nat.le_trans (by rw[ik.perm.length_eq];exact qL _) hL120
 have sl10:=sl9.mono f10
 have al10:bH (KR n (eH n (· ∈gens)) L h10) ks K':=al9.mono λ_ _ x=>x.mono f10
 have ev6:=SV.eQ sl10
 have l6:dN v6=some (aB (K'.length:Int)):=by unfold dN;rw[SV.len sl10 (n:=K'.length) (by rw[mP,hks]) (by omega)];rfl
 obtain⟨id6,off6,sh6,hid6,hc6⟩:=SV.shape sl10 K'.length (by rw[mP,hks]) (by omega)
 have l3:=mP ks
 have d0:decide ((0:Int)≠0)=false:=rfl
 have dl:decide ((L.length:Int)≠(L.length:Int))=false:=decide_eq_false (by simp)
 have F010:=F08.trans F810
 simp (disch:=omega) only[go_sem,d0,l8,l4,dl]
 have Lp: ∀i,i<L.length->bM n (L.getD i []):=λi hi=>kW hG E hi
 have cenle: ∀j,(nT L (L.getD j [])).length<=120:=λj=>by
  unfold nT
  exact Nat.le_trans (List.length_filter_le _ _) hL120
 refine bI (λvs hh=>(∃g:Nat->V,vs= [g 0,g 1,.bool true,g 3,v4,.ptr C 0,v6,g 7,g 8,g 9,aB (K'.length*L.length:Nat),aB 0,g 12,g 13,g 14,g 15,g 16,g 17,g 18,g 19,g 20,g 21,g 22,g 23,g 24,g 25,g 26,g 27,g 28,g 29,g 30,g 31,g 32,g 33,g 34,g 35])/\Fr h10 hh) ?_ ?_
 ·refine aJ (λk' vars hh=> ∃(i:Nat),(∃g:Nat->V,vars= [g 0,g 1,.bool true,g 3,v4,.ptr C 0,v6,g 7,v8,g 9,aB ((Ib (λj=>(nT L (L.getD j [])).length) i:Nat):Int),aB 0,aB i,g 13,g 14,g 15,g 16,g 17,g 18,g 19,g 20,g 21,g 22,g 23,g 24,g 25,g 26,g 27,g 28,g 29,g 30,g 31,g 32,g 33,g 34,g 35])/\i<=L.length/\Fr h10 hh/\k'=L.length-i) L.length
   ⟨0,aA rfl,lI _,Fr.refl h10,rfl⟩ ?_
  rintro k' vars h11 ⟨i,⟨g,rfl⟩,hi,f11,rfl⟩
  by_cases hlt:(i:Int)<(L.length:Int)
  case neg=>
   have d1:=eX hlt
   obtain rfl:i=L.length:=by omega
   have hsum:Ib (λj=>(nT L (L.getD j [])).length) L.length=K'.length*L.length:=VJ hG E ik
   simp (disch:=omega) only[go_sem,l4,d1,hsum]
   exact⟨aA rfl,f11⟩
  have d1:=jZ hlt
  have hiL:i<L.length:=by omega
  obtain⟨n1,n2⟩:=Kw hG E ik hiL
  have hless:=UD hG E ik hiL
  have horb:=IM hG E ik hiL
  obtain⟨q,hq⟩: ∃q,pE (eH n (· ∈gens)) L K' i=q:=⟨_,rfl⟩
  have c8: ∀hh,Fr h10 hh->hh.cell id8 (off8+i)=some (aB q):=λhh f=>by rw[f.cell (hid8 (by omega)),hc8 i hiL,QN hiL,hq]
  rw[hq] at n1 n2 hless horb
  obtain⟨y1,y2,y3⟩:=Lg (ks:=ks) (i:=q) (by omega)
  have kr:=bH.get al10 q (by omega) n1
  have er:K'[q]'n1=K'.getD q 0:=by rw[List.getD,iH n1];rfl
  rw[er] at kr
  have cr: ∀hh,Fr h10 hh->hh.cell id6 (off6+q*3)=some ks[q].rep:=λhh f=>by rw[f.cell (hid6 (by omega)),hc6 _ (by omega)];exact y1
  have cs: ∀hh,Fr h10 hh->hh.cell id6 (off6+q*3+2)=some (aB ((dW (eH n (· ∈gens)) L i).length:Int)):=λhh f=>by rw[f.cell (hid6 (by omega)),Nat.add_assoc,hc6 _ (by omega),y3,kr.size,horb]
  obtain⟨i4,ci4,si4⟩:=c4 i hiL
  have c4i: ∀hh,Fr h10 hh->hh.cell id4 (off4+i)=some (ws4.getD i V.undef):=λhh f=>by rw[f.cell i4];exact ci4
  have A:=Lp i hiL
  generalize ws4.getD i V.undef=vi at c4i si4
  have rP:=Lp (K'.getD q 0) (ik.lt (bF n1))
  have d2:decide ((q:Int)<0)=false:=eX (by omega)
  have d3:decide ((K'.length:Int)<=(q:Int))=false:=eX (by omega)
  have evi:=SV.eQ si4
  have evr:=ks[q].hrep.2.2
  have krep:=kr.rep
  generalize ks[q].rep=vr at cr krep evr
  simp (disch:=omega) only[go_sem,l4,d1,sh8.ixa,c8 h11 f11,d2,l6,d3,sh4.ixa,c4i h11 f11,sh6.ixa,cr h11 f11]
  have fb:Fr h11 (H.mk h11.tr (h11.next+29)):=(Fr.refl h11).bG (by omega)
  refine (PY vi vr n _ _ _ (by omega) A.len rP.len (si4.mono (f11.trans fb)) (krep.mono (f11.trans fb))).mono ?_
  rw[hless]
  rintro _ h12 ⟨rfl,f12⟩
  have F12:=(f11.trans fb).trans f12
  simp (disch:=omega) only[go_sem,sh8.ixa,c8 h12 F12,l6,sh4.ixa,c4i h12 F12,sh6.ixa,cr h12 F12,ev4,ev6,ev8,evi,evr,l4,Hb h12 L.length (by omega)]
  obtain⟨S,hS⟩: ∃S,h12.next=S:=⟨_,rfl⟩
  obtain⟨h13,e13,n13,g13,o13,f13⟩:=iB hS (rc L.length λ_=>V.bool false)
  rw[hS,e13]
  have F13:=F12.trans f13
  have hS10:h10.next<=S:=by rw[←hS];exact F12.next
  obtain⟨M,hM⟩: ∃M,Ib (λj=>(nT L (L.getD j [])).length) i=M:=⟨_,rfl⟩
  have hM1:M<=14400:=by
   rw[←hM]
   have:=DI cenle i
   omega
  rw[hM]
  refine bI (λvs hh=>(∃g:Nat->V,vs= [g 0,g 1,.bool true,g 3,v4,.ptr C 0,v6,g 7,v8,g 9,aB ((Ib (λj=>(nT L (L.getD j [])).length) (i+1):Nat):Int),aB 0,aB i,.sl S 0 L.length (.kn L.length),aB ((dW (eH n (· ∈gens)) L i).length:Int),g 15,g 16,g 17,g 18,g 19,g 20,g 21,g 22,g 23,g 24,g 25,g 26,g 27,g 28,g 29,g 30,g 31,g 32,g 33,g 34,g 35])/\hh.get S=some (.cells false (rc L.length λj=> .bool (Kp L i L.length j)))/\S<hh.next/\Fr h10 hh) ?_ ?_
  ·refine aJ (λk' vars hh=> ∃(k:Nat),(∃g:Nat->V,vars= [g 0,g 1,.bool true,g 3,v4,.ptr C 0,v6,g 7,v8,g 9,aB ((M+yJ (λq=>decide (PH L i q=i)) k:Nat):Int),aB 0,aB i,.sl S 0 L.length (.kn L.length),aB (yJ (Kp L i k) L.length:Nat),aB k,g 16,g 17,g 18,g 19,g 20,g 21,g 22,g 23,g 24,g 25,g 26,g 27,g 28,g 29,g 30,g 31,g 32,g 33,g 34,g 35])/\k<=L.length/\hh.get S=some (.cells false (rc L.length λj=> .bool (Kp L i k j)))/\S<hh.next/\Fr h10 hh/\k'=L.length-k) L.length
    ⟨0,?_,lI _,?_,by omega,F13,rfl⟩ ?_
   ·have z:Kp L i 0=λ_=>false:=by
     funext j
     unfold Kp
     exact decide_eq_false (by rintro⟨q,hq,_⟩;omega)
    have z2:yJ (λ_=>false) L.length=0:=by unfold yJ;simp
    rw[z,z2]
    exact aA rfl
   ·have z:Kp L i 0=λ_=>false:=by
     funext j
     unfold Kp
     exact decide_eq_false (by rintro⟨q,hq,_⟩;omega)
    rw[z];exact g13
   clear g g13 o13 e13 n13
   rintro k' vars h14 ⟨k,⟨g,rfl⟩,hk,gS,hSn,f14,rfl⟩
   have cB:=PZ (Kp L i k) L.length
   have cP:=PZ (λq=>decide (PH L i q=i)) k
   by_cases hlt2:(k:Int)<(L.length:Int)
   case neg=>
    have d4:=eX hlt2
    obtain rfl:k=L.length:=by omega
    simp (disch:=omega) only[go_sem,l4,d4]
    rw[ajE hG E hiL,afE hG E hiL]
    refine⟨?_,gS,hSn,f14⟩
    have e5:Ib (λj=>(nT L (L.getD j [])).length) (i+1)=M+(nT L (L.getD i [])).length:=by rw[Oj,hM]
    rw[e5]
    exact aA rfl
   have d4:=jZ hlt2
   have hkL:k<L.length:=by omega
   obtain⟨j4,cj4,sj4⟩:=c4 k hkL
   have c4k: ∀hh,Fr h10 hh->hh.cell id4 (off4+k)=some (ws4.getD k V.undef):=λhh f=>by rw[f.cell j4];exact cj4
   have Bk:=Lp k hkL
   generalize ws4.getD k V.undef=vk at c4k sj4
   have evk:=SV.eQ sj4
   simp (disch:=omega) only[go_sem,l4,d4,sh4.ixa,c4k h14 f14,c4i h14 f14]
   have fb:Fr h14 (H.mk h14.tr (h14.next+18)):=(Fr.refl h14).bG (by omega)
   have Fb:=f14.trans fb
   refine (QA vk n _ _ (by omega) Bk (sj4.mono Fb)).mono ?_
   rintro v1 h15 nw
   have F15:=Fb.trans nw.fr
   have t1:=(nw.pv (W:=λ_=>False) (λh=>h)).si
   have ev1:=SV.eQ t1
   simp (disch:=omega) only[go_sem,c4k h15 F15,c4i h15 F15,ev4,evi,evk]
   refine (yR v1 vi _ _ h15 (by rw[Bk.inv.len];omega) t1 (si4.mono F15) (λj hj=>by rw[A.len];exact Bk.inv.eM (by rw[←Bk.inv.len];exact hj))).mono ?_
   rintro v2 h16 ⟨t2,f16,_⟩
   have F16:=F15.trans f16
   have BA:=Bk.inv.mul A
   have ev2:=SV.eQ t2
   simp (disch:=omega) only[go_sem,c4k h16 F16,c4i h16 F16,ev4,evi,evk,ev1,ev2]
   refine (yR v2 vk _ _ h16 (by rw[BA.len];omega) t2 (sj4.mono F16) (λj hj=>by rw[Bk.len];exact BA.eM (by rw[←BA.len];exact hj))).mono ?_
   rintro v3 h17 ⟨t3,f17,_⟩
   have F17:=F16.trans f17
   have ev3:=SV.eQ t3
   obtain⟨p1,p2⟩:=CX hG E hiL hkL
   simp (disch:=omega) only[go_sem,c4k h17 F17,c4i h17 F17,ev4,evi,evk,ev1,ev2,ev3]
   refine (abO v4 v3 n L _ h17 (by omega) (by omega) (λx hx=>hG.dV ((E.mem x).1 hx)) (BA.mul Bk) E.asc ((s48.mono F810).mono F17) t3).mono ?_
   rintro v h18 ⟨hv,f18⟩
   obtain rfl:v= aB (PH L i k:Nat):=by
    rcases hv with ⟨p,rfl,hp,ep⟩|⟨hx,_⟩
    ·have:p=PH L i k:=Et E.nodup hp p1 (by rw[ep,p2];rfl)
     rw[this]
    ·exact absurd (show kC (L.getD i []) (L.getD k [])∈L by rw[←p2];exact bF p1) hx
   have F18:=F17.trans f18
   have f1418:Fr h14 h18:=(((fb.trans nw.fr).trans f16).trans f17).trans f18
   have gS18:h18.get S=some (.cells false (rc L.length λj=> .bool (Kp L i k j))):=by rw[f1418.get S hSn];exact gS
   have sk:=XS L i k
   have cq:=Al (λq=>decide (PH L i q=i)) k
   obtain⟨p,hp⟩: ∃p,PH L i k=p:=⟨_,rfl⟩
   rw[hp] at p1 p2 sk ⊢
   have cS:h18.cell S p=some (.bool (Kp L i k p)):=oF gS18 p1
   have e3:decide ((p:Int)<0)=false:=eX (by omega)
   have e4:decide ((L.length:Int)<=(p:Int))=false:=eX (by omega)
   have pt:=bQ (vs:=rc L.length λj=> .bool (Kp L i k j)) (off:=p) (by rw[gO];exact p1) h18 S (.bool true)
   rw[kY] at pt
   obtain⟨h19,e19,n19,g19,o19⟩:=zY h18 S (rc L.length λj=>if j=p then V.bool true else .bool (Kp L i k j))
   rw[e19] at pt
   have hr:(rc L.length λj=>if j=p then V.bool true else .bool (Kp L i k j))=rc L.length λj=> .bool (Kp L i (k+1) j):=cF λj _=>by
    rw[sk]
    split<;>rfl
   rw[hr] at g19
   have n18:=F18.next
   have n1418:=f1418.next
   have F19:Fr h10 h19:=⟨by omega,λq hq=>by rw[o19 q (by omega)];exact F18.get q hq⟩
   have cs2:yJ (Kp L i (k+1)) L.length=yJ (Kp L i k) L.length+if Kp L i k p=true then 0 else 1:=by
    rw[Wz (t:=λj=>if j=p then true else Kp L i k j) (λj _=>sk j)]
    cases hs:Kp L i k p with
    |true=>
     rw[if_pos rfl,Nat.add_zero]
     exact Wz λj _=>by
      by_cases e:j=p
      ·rw[if_pos e,e,hs]
      ·rw[if_neg e]
    |false=>
     rw[if_neg (by simp)]
     exact abG p1 hs
   have ek:(k:Int)+1=((k+1:Nat):Int):=by omega
   simp only[hp] at cq
   by_cases hpi:p=i
   ·have d5:decide ((p:Int)=(i:Int))=true:=jZ (by omega)
    rw[if_pos (decide_eq_true hpi)] at cq
    cases hs:Kp L i k p with
    |true=>
     rw[hs] at cS
     rw[hs,if_pos rfl] at cs2
     simp (disch:=omega) only[go_sem,c4k h18 F18,c4i h18 F18,ev4,evi,evk,ev1,ev2,ev3,d5,e3,e4,cS,gS18,pt]
     rw[ek]
     exact⟨L.length-(k+1),by omega,k+1,by rw[cq,cs2,Nat.add_zero];exact aA rfl,by omega,g19,by omega,F19,rfl⟩
    |false=>
     rw[hs] at cS
     rw[hs,if_neg (by simp)] at cs2
     simp (disch:=omega) only[go_sem,c4k h18 F18,c4i h18 F18,ev4,evi,evk,ev1,ev2,ev3,d5,e3,e4,cS,gS18,pt]
     rw[ek]
     exact⟨L.length-(k+1),by omega,k+1,by rw[cq,cs2];exact aA rfl,by omega,g19,by omega,F19,rfl⟩
   ·have d5:decide ((p:Int)=(i:Int))=false:=eX (by omega)
    rw[if_neg (by simpa using hpi)] at cq
    cases hs:Kp L i k p with
    |true=>
     rw[hs] at cS
     rw[hs,if_pos rfl] at cs2
     simp (disch:=omega) only[go_sem,c4k h18 F18,c4i h18 F18,ev4,evi,evk,ev1,ev2,ev3,d5,e3,e4,cS,gS18,pt]
     rw[ek]
     exact⟨L.length-(k+1),by omega,k+1,by rw[cq,cs2];exact aA rfl,by omega,g19,by omega,F19,rfl⟩
    |false=>
     rw[hs] at cS
     rw[hs,if_neg (by simp)] at cs2
     simp (disch:=omega) only[go_sem,c4k h18 F18,c4i h18 F18,ev4,evi,evk,ev1,ev2,ev3,d5,e3,e4,cS,gS18,pt]
     rw[ek]
     exact⟨L.length-(k+1),by omega,k+1,by rw[cq,cs2];exact aA rfl,by omega,g19,by omega,F19,rfl⟩
  clear g
  rintro vars h14 ⟨⟨g,rfl⟩,gS,hSn,f14⟩
  simp (disch:=omega) only[go_sem]
  have hsame: ∀j,j<L.length->(Kp L i L.length j==decide (((pE (eH n (· ∈gens)) L K' j:Nat):Int)=(q:Int)))=true:=λj hj=>by
   have e:Kp L i L.length j=decide (((pE (eH n (· ∈gens)) L K' j:Nat):Int)=(q:Int)):=by
    rw[Bool.eq_iff_iff,QW hG E hiL hj,decide_eq_true_iff]
    have hr:=ik.lt (bF (d:=0) n1)
    constructor
    ·intro h
     have:=(Em hG E ik.perm n1 hj).2 (oZ hG E hr n2 h)
     omega
    ·intro h
     exact oZ hG E hiL (Bi hG E hr n2) ((Em hG E ik.perm n1 hj).1 (by omega))
   rw[e];exact beq_self_eq_true _
  refine bI (λvs hh=>(∃g:Nat->V,vs= [g 0,g 1,.bool true,g 3,v4,.ptr C 0,v6,g 7,v8,g 9,aB ((Ib (λj=>(nT L (L.getD j [])).length) (i+1):Nat):Int),aB 0,aB i,g 13,aB ((dW (eH n (· ∈gens)) L i).length:Int),g 15,g 16,g 17,g 18,g 19,g 20,g 21,g 22,g 23,g 24,g 25,g 26,g 27,g 28,g 29,g 30,g 31,g 32,g 33,g 34,g 35])/\Fr h10 hh) ?_ ?_
  ·refine aJ (λk' vars hh=> ∃(k:Nat),(∃g:Nat->V,vars= [g 0,g 1,.bool true,g 3,v4,.ptr C 0,v6,g 7,v8,g 9,aB ((Ib (λj=>(nT L (L.getD j [])).length) (i+1):Nat):Int),aB 0,aB i,.sl S 0 L.length (.kn L.length),aB ((dW (eH n (· ∈gens)) L i).length:Int),g 15,g 16,aB k,g 18,g 19,g 20,g 21,g 22,g 23,g 24,g 25,g 26,g 27,g 28,g 29,g 30,g 31,g 32,g 33,g 34,g 35])/\k<=L.length/\Fr h14 hh/\k'=L.length-k) L.length
    ⟨0,aA rfl,lI _,Fr.refl h14,rfl⟩ ?_
   clear g
   rintro k' vars h15 ⟨k,⟨g,rfl⟩,hk,f15,rfl⟩
   have F15:=f14.trans f15
   by_cases hlt2:(k:Int)<(L.length:Int)
   case neg=>
    have d4:=eX hlt2
    simp (disch:=omega) only[go_sem,l4,d4]
    exact⟨aA rfl,F15⟩
   have d4:=jZ hlt2
   have hkL:k<L.length:=by omega
   have c8k:h15.cell id8 (off8+k)=some (aB ((pE (eH n (· ∈gens)) L K' k:Nat):Int)):=by rw[F15.cell (hid8 (by omega)),hc8 k hkL,QN hkL]
   have cS:h15.cell S k=some (.bool (Kp L i L.length k)):=by rw[f15.cell hSn];exact oF gS hkL
   have e3:decide ((k:Int)<0)=false:=eX (by omega)
   have e4:decide ((L.length:Int)<=(k:Int))=false:=eX (by omega)
   have hs:=hsame k hkL
   simp (disch:=omega) only[go_sem,l4,d4,e3,e4,cS,sh8.ixa,c8k,c8 h15 F15,hs]
   rw[gU k]
   exact⟨L.length-(k+1),by omega,k+1,aA rfl,by omega,f15.bG (by omega),rfl⟩
  clear g
  rintro vars h15 ⟨⟨g,rfl⟩,F15⟩
  have dd:decide (((dW (eH n (· ∈gens)) L i).length:Int)≠((dW (eH n (· ∈gens)) L i).length:Int))=false:=decide_eq_false (by simp)
  simp (disch:=omega) only[go_sem,sh8.ixa,c8 h15 F15,sh6.ixa,cs h15 F15,dd]
  rw[gU i]
  exact⟨L.length-(i+1),by omega,i+1,aA rfl,by omega,F15,rfl⟩
 rintro vars h11 ⟨⟨g,rfl⟩,f11⟩
 simp (disch:=omega) only[go_sem]
 refine bI (λvs hh=>(∃g:Nat->V,vs= [g 0,g 1,.bool true,g 3,v4,g 5,v6,g 7,g 8,g 9,aB (K'.length*L.length:Nat),aB (L.length:Int),g 12,g 13,g 14,g 15,g 16,g 17,g 18,g 19,g 20,g 21,g 22,g 23,g 24,g 25,g 26,g 27,g 28,g 29,g 30,g 31,g 32,g 33,g 34,g 35])/\Fr h10 hh) ?_ ?_
 ·refine aJ (λk' vars hh=> ∃(i:Nat),(∃g:Nat->V,vars= [g 0,g 1,.bool true,g 3,v4,.ptr C 0,v6,g 7,g 8,g 9,aB (K'.length*L.length:Nat),aB ((Ib (λq=>(dW (eH n (· ∈gens)) L (K'.getD q 0)).length) i:Nat):Int),g 12,g 13,g 14,g 15,g 16,g 17,aB i,g 19,g 20,g 21,g 22,g 23,g 24,g 25,g 26,g 27,g 28,g 29,g 30,g 31,g 32,g 33,g 34,g 35])/\i<=K'.length/\Fr h10 hh/\k'=K'.length-i) K'.length
   ⟨0,aA rfl,lI _,f11,rfl⟩ ?_
  clear g
  rintro k' vars h12 ⟨i,⟨g,rfl⟩,hi,f12,rfl⟩
  by_cases hlt:(i:Int)<(K'.length:Int)
  case neg=>
   have d1:=eX hlt
   obtain rfl:i=K'.length:=by omega
   have hsum:Ib (λq=>(dW (eH n (· ∈gens)) L (K'.getD q 0)).length) K'.length=L.length:=RP hG E ik
   simp (disch:=omega) only[go_sem,l6,d1,hsum]
   exact⟨aA rfl,f12⟩
  have d1:=jZ hlt
  have hiK:i<K'.length:=by omega
  obtain⟨_,_,y3⟩:=Lg (ks:=ks) (i:=i) (by omega)
  have kr:=bH.get al10 i (by omega) hiK
  have er:K'[i]'hiK=K'.getD i 0:=by rw[List.getD,iH hiK];rfl
  rw[er] at kr
  have hrL:=ik.lt (bF (d:=0) hiK)
  have OJ:=xF hG E hrL
  have hpos:0<(dW (eH n (· ∈gens)) L (K'.getD i 0)).length:=(Gl hG E hrL (jJ.1 (ik.perm.mem_iff.1 (bF (d:=0) hiK))).2).1
  have hsle:Ib (λq=>(dW (eH n (· ∈gens)) L (K'.getD q 0)).length) i<=14400:=by
   have:=DI (f:=λq=>(dW (eH n (· ∈gens)) L (K'.getD q 0)).length) (m:=120) (λj=>by
    unfold dW
    have:=List.length_filter_le (λx=> @decide (cR (eH n (· ∈gens)) L (K'.getD j 0) x) (Classical.propDecidable _)) (List.range L.length)
    rw[List.length_range] at this
    exact Nat.le_trans this hL120) i
   omega
  have hol:(dW (eH n (· ∈gens)) L (K'.getD i 0)).length<=120:=by
   have:1<=(nT L (L.getD (K'.getD i 0) [])).length:=by
    rcases Nat.eq_zero_or_pos (nT L (L.getD (K'.getD i 0) [])).length with h|h
    ·rw[h,Nat.mul_zero] at OJ;omega
    ·exact h
   have:=Nat.le_mul_of_pos_right (dW (eH n (· ∈gens)) L (K'.getD i 0)).length this
   omega
  have hss:=Oj (λq=>(dW (eH n (· ∈gens)) L (K'.getD q 0)).length) i
  have hsz:=kr.size
  obtain⟨o,ho⟩: ∃o,(dW (eH n (· ∈gens)) L (K'.getD i 0)).length=o:=⟨_,rfl⟩
  simp only[ho] at hss
  rw[ho] at OJ hpos hol hsz
  have cs: ∀hh,Fr h10 hh->hh.cell id6 (off6+i*3+2)=some (aB o):=λhh f=>by rw[f.cell (hid6 (by omega)),Nat.add_assoc,hc6 _ (by omega),y3,hsz]
  obtain⟨M,hM⟩: ∃M,Ib (λq=>(dW (eH n (· ∈gens)) L (K'.getD q 0)).length) i=M:=⟨_,rfl⟩
  rw[hM] at hsle hss ⊢
  simp (disch:=omega) only[go_sem,l6,d1,sh6.ixa,cs h12 f12,rC h12 (F810.trans f12)]
  refine (PX _ (i:Int) n O R _ h12 ((gc8.mono F810).mono f12) L hL).mono ?_
  rintro v h13 ⟨K2,ik2,f13,hcen⟩
  obtain rfl:=ik2.uniq ik
  obtain⟨vr,O',R',rfl,gD⟩: ∃vr O' R',v= .tup [vr,aB 0]/\GC (λid=>id<h12.next) h13 vr n O' R' (Po (eH n (· ∈gens)) (L.getD (K2.getD i 0) [])):=by
   rcases hcen with ⟨hz,_⟩|⟨k,vr,O',R',hz,hk,e,g⟩
   ·rcases hz with hz|hz
    ·omega
    ·omega
   ·have:k=i:=by omega
    subst this
    exact⟨vr,O',R',e,g⟩
  obtain⟨c,hc⟩: ∃c,(nT L (L.getD (K2.getD i 0) [])).length=c:=⟨_,rfl⟩
  rw[hc] at OJ
  have EM:gK (Po (eH n (· ∈gens)) (L.getD (K2.getD i 0) [])) (nT L (L.getD (K2.getD i 0) [])):=⟨by unfold nT;exact E.asc.filter _,λx=>Mi E⟩
  have hsz2:Kr O' n 0=c:=by
   have e:=eY gD.jY gD.isc
   rw[←e.2,e.1.uniq EM,hc]
  have hpre: ∀k,k<=n->Xo O' k*Kr O' (n-k) k=c:=λk hk=>by rw[QC k hk,hsz2]
  have hc0:0<c:=by
   rcases Nat.eq_zero_or_pos c with h|h
   ·rw[h,Nat.mul_zero] at OJ;omega
   ·exact h
  have hc120:c<=120:=by
   have:=Nat.le_mul_of_pos_left c hpos
   omega
  have hple: ∀k,k<=n->Xo O' k<=120:=λk hk=>by
   have e:=hpre k hk
   have:0<Kr O' (n-k) k:=by
    rcases Nat.eq_zero_or_pos (Kr O' (n-k) k) with h|h
    ·rw[h,Nat.mul_zero] at e;omega
    ·exact h
   have:=Nat.le_mul_of_pos_right (Xo O' k) this
   omega
  have hpn:Xo O' n=c:=by
   have:=hpre n (iT _)
   rwa [Nat.sub_self,show Kr O' 0 n=1 from rfl,Nat.mul_one] at this
  have lO:=gD.isc.lo
  obtain⟨u4,w4,rfl,a4,b4,_,_⟩:=gD.sl
  have sO:SP h13 u4 O':=by
   obtain⟨vO,vR,e,s1,_⟩:=gD.ch
   cases e
   exact s1
  obtain⟨D,hD⟩: ∃D,h13.next=D:=⟨_,rfl⟩
  obtain⟨h14,e14,n14,g14,o14,f14⟩:=iB hD [aB 0,.aC,.aC]
  obtain⟨h15,e15,n15,g15,o15⟩:=zY h14 D [aB n,u4,w4]
  have F1315:Fr h13 h15:=⟨by omega,λid hid=>by rw[o15 id (by omega),o14 id (by omega)]⟩
  have F15:=(f12.trans f13).trans F1315
  have cD: ∀hh,Fr h15 hh->hh.cell D 1=some u4:=λhh f=>by rw[f.cell (by omega),H.aG g15];rfl
  obtain⟨lu,_,idO,offO,wsO,shO,cO⟩:=QY (sO.mono F1315)
  rw[lO] at lu shO cO
  have d2:decide ((o:Int)<1)=false:=eX (by omega)
  simp (disch:=omega) only[go_sem,hD,e14,dR h14 D 0 (v:= aB n) (u:=u4) (w:=w4) rfl a4 b4,g14,dX,e15,d0,l6,sh6.ixa,cs h15 F15,d2]
  refine bI (λvs hh=>(∃g:Nat->V,vs= [g 0,g 1,.bool true,g 3,v4,.ptr C 0,v6,g 7,g 8,g 9,aB (K2.length*L.length:Nat),aB ((M:Int)+(o:Int)),g 12,g 13,g 14,g 15,g 16,g 17,aB i,g 19,g 20,aB c,g 22,g 23,g 24,g 25,g 26,g 27,g 28,g 29,g 30,g 31,g 32,g 33,g 34,g 35])/\Fr h10 hh) ?_ ?_
  ·refine aJ (λk' vars hh=> ∃(k:Nat),(∃g:Nat->V,vars= [g 0,g 1,.bool true,g 3,v4,.ptr C 0,v6,g 7,g 8,g 9,aB (K2.length*L.length:Nat),aB ((M:Int)+(o:Int)),g 12,g 13,g 14,g 15,g 16,g 17,aB i,.ptr D 0,g 20,aB (Xo O' k:Nat),aB k,g 23,g 24,g 25,g 26,g 27,g 28,g 29,g 30,g 31,g 32,g 33,g 34,g 35])/\k<=n/\Fr h15 hh/\k'=n-k) n
    ⟨0,aA rfl,lI _,Fr.refl h15,rfl⟩ ?_
   clear g
   rintro k' vars h16 ⟨k,⟨g,rfl⟩,hk,f16,rfl⟩
   have bp:=hple k hk
   by_cases hlt2:(k:Int)<(n:Int)
   case neg=>
    have d4:=eX hlt2
    obtain rfl:k=n:=by omega
    simp (disch:=omega) only[go_sem,cD h16 f16,lu,d4]
    exact⟨by rw[hpn];exact aA rfl,F15.trans f16⟩
   have d4:=jZ hlt2
   have hkn:k<n:=by omega
   obtain⟨i5,ci5,si5⟩:=cO k hkn
   have cO2:h16.cell idO (offO+k)=some (wsO.getD k V.undef):=by rw[f16.cell i5];exact ci5
   have lr:=si5.lens
   rw[aT] at lr
   generalize wsO.getD k V.undef=vr at cO2 lr
   have bp2:=hple (k+1) hkn
   have ep:((Xo O' k:Nat):Int)*(((O'.getD k []).length:Nat):Int)=((Xo O' (k+1):Nat):Int):=by rw[←Int.natCast_mul];rfl
   simp (disch:=omega) only[go_sem,cD h16 f16,lu,d4,shO.ixa,cO2,lr,ep]
   rw[gU k]
   exact⟨n-(k+1),by omega,k+1,aA rfl,by omega,f16,rfl⟩
  clear g
  rintro vars h16 ⟨⟨g,rfl⟩,F16⟩
  have ec:(c:Int)*(o:Int)=(L.length:Int):=by rw[←Int.natCast_mul,OJ,Nat.mul_comm]
  simp (disch:=omega) only[go_sem,l6,sh6.ixa,cs h16 F16,l4,ec,dl]
  rw[gU i]
  exact⟨K2.length-(i+1),by omega,i+1,by rw[hss,Int.natCast_add];exact aA rfl,by omega,F16,rfl⟩
 clear g
 rintro vars h12 ⟨⟨g,rfl⟩,f12⟩
 have d9:decide ((L.length:Int)=(L.length:Int))=true:=decide_eq_true rfl
 obtain⟨P,hP⟩: ∃P,K'.length*L.length=P:=⟨_,rfl⟩
 have hPb:P<=120*120:=by rw[←hP];exact Nat.mul_le_mul kl hL120
 have em:(K'.length:Int)*(L.length:Int)=(P:Int):=by rw[←hP,Int.natCast_mul]
 rw[hP]
 simp (disch:=omega) only[go_sem,dT,l4,l6,d9,em]
 exact F010.trans f12
end Go.Proofs.YtddpkbicnolafaaGreat
