/- Texts of the claim. -/
import Derived.Test.YtddpkbicnolafaaGreatSc5toP8b
import Derived.Test.YtddpkbicnolafaaGreatDp2toP4a
import Derived.Test.YtddpkbicnolafaaGreatP5otoSc4
set_option maxHeartbeats 64000000
namespace Go.Proofs.YtddpkbicnolafaaGreat
open Go Go.Ay Go.Pm
set_option maxRecDepth 100000
structure CJ (b:Nat)(W:Nat->Prop)(h hh:H)(n:Nat)(tv:V)(ρ:Nat->Nat)(L:List Nat->Prop)(t0:rJ)(vl:V)(l:LN)(t:rJ):Prop where
 ex: ∃W' F wl,Em b W' hh n tv ρ F t/\dB hh vl 1 wl h.next/\fF W' hh wl l/\Ej W' vl/\ ∀id,id<h.next->W' id->W id
 fx:Fx W h hh
 cls:Ax n L t l
 sub:Sub t0 t
theorem RO {n:Nat}{t:rJ}{x:List Nat}{L:List Nat->Prop}{l:LN}(c:Ax n L t l)(T':oT n (jP t n x))(h:(fK n t 0).length<(fK n (jP t n x) 0).length):0<(XS n (jP t n x) l).length:=by
 refine List.length_pos_iff.2 λe=>?_
 unfold XS at e;rw[List.filter_eq_nil_iff] at e
 have:(fK n (jP t n x) 0).length<=(fK n t 0).length:=List.Nodup.length_le_of_subset (xB T') λy hy=>by
  have:=e y hy;simp at this;exact (c.mem y).1 this
 omega
theorem BP (n:Nat)(t:rJ)(hn:n<=64):(fK n t 0).length<=4096:=by
 rw[←Rc];have:=Qd n t n;have:=Nat.mul_le_mul hn hn;omega
theorem JX {n:Nat}{t:rJ}{l m:LN}{a c:Nat}(ha:a<l.length)(hc:c<l.length):Pr n t (l++m) a c↔Pr n t l a c:=by
 have e: ∀k,k<l.length->(l++m).getD k []=l.getD k []:=λk hk=>by rw[List.getD,List.getD,Gt hk]
 unfold Pr;rw[e a ha,e c hc]
theorem PA (b:Nat)(W:Nat->Prop)(h:H)(n:Nat)(tv:V)(ρ:Nat->Nat)(F:Nat->Nat->V)(t:rJ)(L:List Nat->Prop)(hn:n<=7)(h0:0<n)(hb:b<=h.next)(R:Em b W h n tv ρ F t)(hL: ∀g,L g->bT n g)(tl:Kf n L t):
  Ev T 69 [tv] h (λ_ h'=> ∃W' F' t',Em b W' h' n tv ρ F' t'/\Kf n L t'/\Sub t t'/\Ex n t'/\Fx W h h'/\ ∀id,id<h.next->W' id->W id):=by
 have hnn:n^n<=823543:=by
  have: ∀n,n<=7->n^n<=823543:=by decide
  exact this n hn
 refine bH mV rfl rfl ?_
 simp(disch:=omega)only[go_sem,mV,aE]
 refine (xF b W h n tv ρ F t (by omega) h0 R tl.Bo).mono ?_
 rintro vl h1 ⟨wl,ow,pvs,f1⟩
 simp(disch:=omega)only[go_sem]
 refine aH (λk' vars hh=> ∃(i:Nat) (vl:V) (l:LN) (t':rJ),(∃g:Nat->V,vars= [tv,vl,aC i,g 3,g 4,g 5,g 6,g 7,g 8,g 9,g 10,g 11])/\CJ b W h hh n tv ρ L t vl l t'/\i<=l.length/\(∀a c,a<i->c<i->Pr n t' l a c)/\k'=1000000-i) 1000000
  ⟨0,vl,fK n t 0,t,aA rfl,⟨⟨λid=>W id∨ ∃off m c,vl= .sl id off m c,F,wl,?_,ow,?_,λid off m c e=> .inr ⟨_,_,_,e⟩,λid hid hw=>?_⟩,Fx.of f1,Ax.start tl,Sub.refl t⟩,iP _,λa c ha=>by omega,rfl⟩ ?_
 ·refine R.go (Fx.of f1) (λi hi=>f1.get _ (R.Kj _ (R.wb i hi))) (λid hid hw=>?_) (λid hw=> .inl hw) (λid hw=>?_) (λid hw=>?_)
  ·rcases hw with hw|⟨off,m,c,e⟩
   ·exact hw
   ·have:=(ow.in _ _ _ _ e).2.1;omega
  ·rcases hw with hw|⟨off,m,c,e⟩
   ·exact lA (R.Kj id hw) f1.next
   ·exact (ow.in _ _ _ _ e).1
  ·rcases hw with hw|⟨off,m,c,e⟩
   ·exact R.low id hw
   ·have:=(ow.in _ _ _ _ e).2.1;omega
 ·refine fF.go pvs (Fx.of f1) λid hid hw=>?_
  rcases hw with hw|⟨off,m,c,e⟩
  ·exact hw
  ·have:=(ow.in _ _ _ _ e).2.1;omega
 ·rcases hw with hw|⟨off,m,c,e⟩
  ·exact hw
  ·have:=(ow.in _ _ _ _ e).2.1;omega
 clear ow pvs f1 vl wl h1
 rintro k' vars h1 ⟨i,vl,l,t1,⟨g,rfl⟩,J,hi,hP,rfl⟩
 have lb:=J.cls.bound
 have lvl:cY vl=some (aC (l.length:Int)):=by
  obtain⟨⟨W',F',wl,_,ow,pvs,_⟩,_⟩:=J;exact (fF.open ow.sv pvs).1
 by_cases hlt:(i:Int)<(l.length:Int)
 case neg=>
  have e1:=eS hlt;obtain rfl:i=l.length:=by omega
  simp(disch:=omega)only[go_sem,lvl,e1];obtain⟨⟨W',F',wl,R',_,_,_,hW⟩,fx,cls,sub⟩:=J;exact⟨W',F',t1,R',cls.tl,sub,cls.closed hP,fx,hW⟩
 have e1:=iB hlt
 have hil:i<l.length:=by omega
 simp(disch:=omega)only[go_sem,lvl,e1]
 refine yR (λvs hh=> ∃(vl:V) (l:LN) (t':rJ),(∃g:Nat->V,vs= [tv,vl,aC i,g 3,g 4,g 5,g 6,g 7,g 8,g 9,g 10,g 11])/\CJ b W h hh n tv ρ L t vl l t'/\i<l.length/\ ∀a c,a<i+1->c<i+1->Pr n t' l a c) ?_ ?_
 ·refine aH (λk' vars hh=> ∃(k:Nat) (vl:V) (l:LN) (t':rJ),(∃g:Nat->V,vars= [tv,vl,aC i,aC k,g 4,g 5,g 6,g 7,g 8,g 9,g 10,g 11])/\k<=i+1/\CJ b W h hh n tv ρ L t vl l t'/\i<l.length/\(∀a c,a<i->c<i->Pr n t' l a c)/\(∀c,c<k->Pr n t' l i c/\Pr n t' l c i)/\k'=i+1-k) (i+1)
   ⟨0,vl,l,t1,aA rfl,iP _,J,hil,hP,λc hc=>by omega,rfl⟩ ?_
  clear J hi hP lb lvl hlt e1 hil vl l t1 g
  rintro k' vars h2 ⟨k,vl,l,t1,⟨g,rfl⟩,hk,J,hil,hP,hQ,rfl⟩
  by_cases hlt:(k:Int)<=(i:Int)
  case neg=>
   have e1:=eS hlt;obtain rfl:k=i+1:=by omega
   simp(disch:=omega)only[go_sem,e1];refine⟨vl,l,t1,aA rfl,J,hil,λa c ha hc=>?_⟩
   by_cases ea:a=i
   ·subst ea;exact (hQ c hc).1
   ·by_cases ec:c=i
    ·subst ec;exact (hQ a ha).2
    ·exact hP a c (by omega) (by omega)
  have e1:=iB hlt
  have hki:k<=i:=by omega
  simp(disch:=omega)only[go_sem,e1]
  refine yR (λvs hh=> ∃(vl:V) (l:LN) (t':rJ),(∃g:Nat->V,vs= [tv,vl,aC i,aC k,g 4,g 5,g 6,g 7,g 8,g 9,g 10,g 11])/\CJ b W h hh n tv ρ L t vl l t'/\i<l.length/\(∀a c,a<i->c<i->Pr n t' l a c)/\ ∀c,c<k+1->Pr n t' l i c/\Pr n t' l c i) ?_ ?_
  ·refine aH (λk' vars hh=> ∃(q:Nat) (vl:V) (l:LN) (t':rJ),(∃g:Nat->V,vars= [tv,vl,aC i,aC k,aC q,g 5,g 6,g 7,g 8,g 9,g 10,g 11])/\q<=2/\CJ b W h hh n tv ρ L t vl l t'/\i<l.length/\(∀a c,a<i->c<i->Pr n t' l a c)/\(∀c,c<k->Pr n t' l i c/\Pr n t' l c i)/\(0<q->Pr n t' l i k)/\(1<q->Pr n t' l k i)/\k'=2-q) 2
    ⟨0,vl,l,t1,aA rfl,by omega,J,hil,hP,hQ,λh=>by omega,λh=>by omega,rfl⟩ ?_
   clear J hP hQ hlt e1 hil vl l t1 g
   rintro k' vars h3 ⟨q,vl,l,t1,⟨g,rfl⟩,hq,J,hil,hP,hQ,hA,hB,rfl⟩
   by_cases hlt:(q:Int)<2
   case neg=>
    have e1:=eS hlt;have hq2:q=2:=by omega
    simp(disch:=omega)only[go_sem,e1];refine⟨vl,l,t1,aA rfl,J,hil,hP,λc hc=>?_⟩
    by_cases ec:c=k
    ·subst ec;exact⟨hA (by omega),hB (by omega)⟩
    ·exact hQ c (by omega)
   have e1:=iB hlt
   obtain⟨⟨W',F',wl,R',ow,pvs,bl,hW⟩,fx,cls,sub⟩:=J
   obtain⟨lvl,idl,offl,shl,hcl⟩:=fF.open ow.sv pvs
   have lb:=cls.bound
   obtain⟨i1,c1,p1⟩:=hcl i hil
   obtain⟨_,c2,p2⟩:=hcl k (by omega)
   have ga:=cls.gen _ (bD (d:= []) hil)
   have gc:=cls.gen _ (bD (d:= []) (show k<l.length by omega))
   obtain⟨a,ea⟩:=exI (l.getD i [])
   obtain⟨c,ec⟩:=exI (l.getD k [])
   rw[ea] at p1 ga
   rw[ec] at p2 gc
   have A:=ga.dY hL
   have C:=gc.dY hL
   generalize wl.getD i .undef=va at c1 p1
   generalize wl.getD k .undef=vc at c2 p2
   have v1:=SV.dW p1.si
   have v2:=SV.dW p2.si
   have vv:=SV.dW ow.sv
   simp(disch:=omega)only[go_sem,e1,shl.ixa,c1,c2]
   have fb:Fr h3 (H.mk h3.tr (h3.next+10)):=(Fr.refl h3).bF (by omega)
   refine (qM va vc a c _ (by rw[A.len];omega) (p1.si.mono fb) (p2.si.mono fb) (λj hj=>by rw[C.len];exact A.eX (by rw[←A.len];exact hj))).mono ?_
   rintro vx h4 ⟨s4,f4,l4⟩
   have f34:=fb.trans f4
   have c14:h4.cell idl (offl+i)=some va:=by rw[f34.cell i1];exact c1
   have c24:h4.cell idl (offl+k)=some vc:=by rw[f34.cell i1];exact c2
   simp(disch:=omega)only[go_sem,c14,c24,v1,v2]
   have px:PV W' h4 vx (aW a c):=PV.fresh s4 l4 (λid hid=>lA (R'.Kj id hid) fb.next)
   refine oG (λvs hh=> ∃(vx:V) (x:List Nat),(∃g:Nat->V,vs= [tv,vl,aC i,aC k,aC q,vx,g 6,g 7,g 8,g 9,g 10,g 11])/\PV W' hh vx x/\(q=0->x=aW a c)/\(q=1->x=aW c a)/\fG n L x/\Fr h3 hh) ?_ ?_
   ·refine aX (λhq1=>?_) (λhq1=>?_)
    ·have w1:(1:Int)=(q:Int):=by omega
     simp(disch:=omega)only[go_sem,shl.ixa,c14,c24]
     have fb4:Fr h4 (H.mk h4.tr (h4.next+10)):=(Fr.refl h4).bF (by omega)
     refine (qM vc va c a _ (by rw[C.len];omega) (p2.si.mono (f34.trans fb4)) (p1.si.mono (f34.trans fb4)) (λj hj=>by rw[A.len];exact C.eX (by rw[←C.len];exact hj))).mono ?_
     rintro vy h5 ⟨s5,f5,l5⟩
     have f45:=fb4.trans f5
     have c15:h5.cell idl (offl+i)=some va:=by rw[(f34.trans f45).cell i1];exact c1
     have c25:h5.cell idl (offl+k)=some vc:=by rw[(f34.trans f45).cell i1];exact c2
     simp(disch:=omega)only[go_sem,c15,c25,v1,v2]
     refine .inl ⟨vy,aW c a,aA rfl,PV.fresh s5 l5 (λid hid=>lA (R'.Kj id hid) (f34.trans fb4).next),λe=>by omega,λ_=>rfl,gc.app hL ga,f34.trans f45⟩
    ·simp(disch:=omega)only[go_sem]
     exact .inl ⟨vx,aW a c,aA rfl,px,λ_=>rfl,λe=>by omega,ga.app hL gc,f34⟩
   clear px s4 l4 f34 c14 c24 f4 fb vx h4
   rintro vars h4 ⟨vx,x,⟨g,rfl⟩,px,hx0,hx1,gx,f4⟩
   have R4:=R'.mono f4
   simp(disch:=omega)only[go_sem]
   refine (xF b W' h4 n tv ρ F' t1 (by omega) h0 R4 cls.tl.Bo).mono ?_
   rintro v5 h5 ⟨w5,o5,pe5,f5⟩
   have l5:cY v5=some (aC ((fK n t1 0).length:Int)):=(fF.open o5.sv (fF.fx pe5 (Fx.of f5))).1
   have m5:=BP n t1 (by omega)
   simp(disch:=omega)only[go_sem,l5]
   refine (Nu b W' h5 n tv ρ F' t1 vx x (by omega) h0 (R4.mono f5) (PV.mono px f5) (gx.dY hL) cls.tl.Bo).mono ?_
   rintro _ h6 ⟨F6,rfl,R6,f6⟩
   obtain⟨cls',sub',hnone,m,hm⟩:=cls.step hL gx
   simp(disch:=omega)only[go_sem]
   refine (xF b W' h6 n tv ρ F6 _ (by omega) h0 R6 cls'.tl.Bo).mono ?_
   rintro v7 h7 ⟨w7,o7,pe7,f7⟩
   have l7:cY v7=some (aC ((fK n (jP t1 n x) 0).length:Int)):=(fF.open o7.sv (fF.fx pe7 (Fx.of f7))).1
   have m7:=BP n (jP t1 n x) (by omega)
   have R7:=R6.mono f7
   have f35:=f4.trans f5
   have x37:Fx W' h3 h7:=((Fx.of f35).trans (R4.wbx f6) (λ_ _ h=>h)).trans (Fx.of f7:Fx W' h6 h7) (λ_ _ h=>h)
   have hrow: ∀j,j<n->ρ j<h.next:=λj hj=>R.Kj _ (R.wb j hj)
   have ow7:dB h7 vl 1 wl h.next:=by
    refine (((ow.fr f35).pG f6.next λid off m c e hid=>f6.get id hid λhw=>?_).fr f7);obtain⟨j,hj,rfl⟩:=hw;have:=(ow.in _ _ _ _ e).2.1;have:=hrow j hj;omega
   have pvs7:fF W' h7 wl l:=fF.fx pvs x37
   simp(disch:=omega)only[go_sem,l7]
   have hfin: ∀vl' h',CJ b W h h' n tv ρ L t vl' (l++m) (jP t1 n x)->CJ b W h h' n tv ρ L t vl' (l++m) (jP t1 n x)/\i<(l++m).length/\(∀a c,a<i->c<i->Pr n (jP t1 n x) (l++m) a c)/\(∀c,c<k->Pr n (jP t1 n x) (l++m) i c/\Pr n (jP t1 n x) (l++m) c i)/\(0<q+1->Pr n (jP t1 n x) (l++m) i k)/\(1<q+1->Pr n (jP t1 n x) (l++m) k i):=λvl' h' J=>by
    have hkl:k<l.length:=by omega
    refine⟨J,by rw[oL];omega,λa c h1 h2=>(hP a c h1 h2).mono sub' (by omega) (by omega),λc hc=>⟨(hQ c hc).1.mono sub' hil (by omega),(hQ c hc).2.mono sub' (by omega) hil⟩,λ_=>?_,λ_=>?_⟩
    ·by_cases e0:q=0
     ·rw[JX hil hkl]
      unfold Pr;rw[ea,ec,←hx0 e0];exact hnone
     ·exact (hA (by omega)).mono sub' hil hkl
    ·have e0:q=1:=by omega
     rw[JX hkl hil];unfold Pr;rw[ea,ec,←hx1 e0];exact hnone
   refine aX (λhgrow=>?_) (λhgrow=>?_)
   ·have hg:(fK n t1 0).length<(fK n (jP t1 n x) 0).length:=by omega
    have em:m=XS n (jP t1 n x) l:=by
     unfold WZ at hm;rw[if_pos hg] at hm;exact (List.append_cancel_left hm).symm
    have m0:=RO cls cls'.tl.Bo hg
    rw[←em] at m0
    rw[hm] at cls'
    have lb2:=cls'.bound
    rw[oL] at lb2
    simp(disch:=omega)only[go_sem]
    refine (PS b W' h7 n tv vl wl l ρ F6 _ (by omega) h0 R7 cls'.tl.Bo ow7.sv pvs7 cls.dY (by omega)).mono ?_
    rintro v8 h8 ⟨w8,o8,p8,f8⟩
    rw[←em] at p8
    have lw:=aZ.length pvs7
    have lw8:=aZ.length p8
    have ow8:=ow7.fr f8
    have R8:=R7.mono f8
    obtain⟨h9,a9,p9⟩:=ow8.push (bytes:=24) o8.sv (n:=l.length) (m:=m.length) (by omega) (by omega) (by omega) m0 ⟨by omega,by omega⟩
    have n9:=p9.next
    have x89:=p9.fx bl
    have hnx:=x37.next
    have f8n:=f8.next
    have hfn:=fx.next
    simp(disch:=omega)only[go_sem,a9]
    rw[fA q]
    have hw9: ∀id,id<h8.next->(W' id∨id=h8.next)->W' id:=λid h1 h2=>by
     rcases h2 with h2|h2
     ·exact h2
     ·omega
    have J':CJ b W h h9 n tv ρ L t (.sl h8.next 0 (l.length+m.length) (.un 1)) (l++m) (jP t1 n x):=by
     refine⟨⟨λid=>W' id∨id=h8.next,F6,wl++w8,?_,p9.own (by omega) (by omega) (by omega),?_,λid off m c e=>by cases e;exact .inr rfl,λid hid hw=>?_⟩,?_,cls',sub.trans sub'⟩
     ·refine R8.go x89 (λj hj=>p9.old _ (by have:=hrow j hj;omega) λid off m c e e2=>by have:=(ow8.in _ _ _ _ e).2.1;have:=hrow j hj;omega) hw9 (λid hw=> .inl hw) (λid hw=>?_) (λid hw=>?_)
      ·rcases hw with hw|hw
       ·have:=R8.Kj id hw;omega
       ·omega
      ·rcases hw with hw|hw
       ·exact R8.low id hw
       ·omega
     ·exact (fF.go (fF.fx pvs7 (Fx.of f8)) x89 hw9).append (fF.go (fF.fx p8 (Fx.of f8)) x89 hw9)
     ·rcases hw with hw|hw
      ·exact hW id hid hw
      ·omega
     ·exact fx.trans ((x37.trans (Fx.of f8:Fx W' h7 h8) (λ_ _ h=>h)).trans x89 (λ_ _ h=>h)) hW
    obtain⟨j1,j2,j3,j4,j5,j6⟩:=hfin _ _ J'
    exact⟨2-(q+1),by omega,q+1,_,_,_,aA rfl,by omega,j1,j2,j3,j4,j5,j6,rfl⟩
   ·have hg: ¬(fK n t1 0).length<(fK n (jP t1 n x) 0).length:=by omega
    have em:m= []:=by
     unfold WZ at hm;rw[if_neg hg] at hm;exact List.append_right_eq_self.1 hm.symm
    simp(disch:=omega)only[go_sem]
    rw[fA q]
    have J':CJ b W h h7 n tv ρ L t vl (l++m) (jP t1 n x):=by
     rw[hm] at cls';exact⟨⟨W',F6,wl,R7,ow7,by rw[em,List.append_nil];exact pvs7,bl,hW⟩,fx.trans x37 hW,cls',sub.trans sub'⟩
    obtain⟨j1,j2,j3,j4,j5,j6⟩:=hfin _ _ J'
    exact⟨2-(q+1),by omega,q+1,_,_,_,aA rfl,by omega,j1,j2,j3,j4,j5,j6,rfl⟩
  rintro vars h3 ⟨vl,l,t1,⟨g,rfl⟩,J,hil,hP,hQ⟩
  have lb:=J.cls.bound
  simp(disch:=omega)only[go_sem]
  rw[fA k]
  exact⟨i+1-(k+1),by omega,k+1,vl,l,t1,aA rfl,by omega,J,hil,hP,hQ,rfl⟩
 clear J hi hP lb lvl hlt e1 hil vl l t1 g
 rintro vars h2 ⟨vl,l,t1,⟨g,rfl⟩,J,hil,hP⟩
 have lb:=J.cls.bound
 simp(disch:=omega)only[go_sem]
 rw[fA i]
 exact⟨1000000-(i+1),by omega,i+1,vl,l,t1,aA rfl,J,by omega,hP,rfl⟩
theorem Kv (t:rJ)(i k:Nat):(Bc t i k).length<=k:=by
 unfold Bc;have:=List.length_filter_le (λp=>p==i||(t i p).isSome) (List.range k);rwa [List.length_range] at this
theorem Tu (b:Nat)(W:Nat->Prop)(h:H)(n:Nat)(tv:V)(ρ:Nat->Nat)(F:Nat->Nat->V)(t:rJ)(i:Nat)(hn:n<=64)(h0:0<n)(hi:i<n)(R:Em b W h n tv ρ F t)(TI:oT n t):
  Ev T 98 [tv,aC i] h (λv h'=>dB h' v 1 (ints (zi (Bc t i n))) h.next/\Fr h h'):=by
 refine bH nH rfl rfl ?_
 have lv:=R.open.1
 simp(disch:=omega)only[go_sem,nH,aE]
 refine aH (λk' vars hh=> ∃(p:Nat) (vl:V),(∃g:Nat->V,vars= [tv,aC i,g 2,vl,aC p,g 5,g 6])/\i<=p/\p<=n/\dB hh vl 1 (ints (zi (Bc t i p))) h.next/\Fr h hh/\k'=n-p) (n-i)
  ⟨i,.aB,aA rfl,fZ _,by omega,by rw[Wj TI];exact dB.aB _ _ _,Fr.refl h,rfl⟩ ?_
 rintro k' vars h2 ⟨p,vl,⟨g,rfl⟩,hp1,hp2,ow,f,rfl⟩
 by_cases hlt:(p:Int)<(n:Int)
 case neg=>
  have e1:=eS hlt;obtain rfl:p=n:=by omega
  simp(disch:=omega)only[go_sem,lv,e1];exact⟨ow,f⟩
 have e1:=iB hlt
 have hpn:p<n:=by omega
 have R3:=R.mono f
 obtain⟨_,id2,off2,sh2,hc2⟩:=R3.open
 have cr:=hc2 i hi
 have ce:=R3.cell hi hpn
 have hS:=R.ent i p hi hpn
 have ll:=Kv t i p
 have hs:=DB (t:=t) i p
 have step:(p=i∨(t i p).isSome)-> ∃h4,yF (h2.new (.cells false (ints [(p:Int)]))) 1 8 vl (.sl h2.next 0 1 (.kn 1))=some (.sl (h2.next+1) 0 ((Bc t i p).length+1) (.un 1),h4)/\dB h4 (.sl (h2.next+1) 0 ((Bc t i p).length+1) (.un 1)) 1 (ints (zi (Bc t i (p+1)))) h.next/\Fr h h4:=λhc=>by
  obtain⟨h4,a4,ow4,f4,n4,_⟩:=Ag (v:= aC p) ow f (by rw[aQ,aP];omega) (bytes:=8) (by omega);rw[aQ,aP] at a4 ow4;refine⟨h4,a4,?_,f4⟩;rw[hs,if_pos hc,Ih,qX];exact ow4
 by_cases hpi:p=i
 ·have e2:decide ((p:Int)=(i:Int))=true:=iB (by omega)
  obtain⟨h4,a4,ow4,f4⟩:=step (.inl hpi)
  simp(disch:=omega)only[go_sem,lv,e1,e2,Kq,a4]
  rw[fA p]
  exact⟨n-(p+1),by omega,p+1,_,aA rfl,by omega,by omega,ow4,f4,rfl⟩
 have e2:decide ((p:Int)=(i:Int))=false:=eS (by omega)
 cases hto:t i p with
 |none=>
  rw[hto] at hS;rw[hS.nil] at ce;simp(disch:=omega)only[go_sem,lv,e1,e2,sh2.ixa,cr,ce];rw[fA p];refine⟨n-(p+1),by omega,p+1,vl,aA rfl,by omega,by omega,?_,f.bF (by omega),rfl⟩;rw[hs,if_neg (by rw[hto];simp [hpi]),List.append_nil];exact ow.fr ((Fr.refl h2).bF (by omega))
 |some y=>
  rw[hto] at hS;have pz:PV W h (F i p) y:=hS;have sn:=Db pz (bT.ne h0 (TI.dY _ _ _ hto)) true;generalize F i p=vz at ce pz sn;obtain⟨h4,a4,ow4,f4⟩:=step (.inr (by rw[hto];rfl));simp(disch:=omega)only[go_sem,lv,e1,e2,sh2.ixa,cr,ce,sn,Kq,a4];rw[fA p];exact⟨n-(p+1),by omega,p+1,_,aA rfl,by omega,by omega,ow4,f4,rfl⟩
theorem OO.aaX {h h':H}{v:V}{l:List Int}(c:OO h l v h')(h0:0<l.length):xJ h h' v l:=by
 obtain⟨_,f,e⟩:=c;obtain⟨id,rfl,h1,h2,h3⟩:=e h0;exact⟨⟨id,_,rfl,h1,h2,h3,.inl rfl⟩,f⟩
theorem FN (b:Nat)(W:Nat->Prop)(h:H)(n:Nat)(tv:V)(ρ:Nat->Nat)(F:Nat->Nat->V)(t:rJ)(i0 p:Nat)(x:List Nat)(hn:n<=64)(h0:0<n)(hi0:i0<n)(hp:p<n)(R:Em b W h n tv ρ F t)(TI:oT n t)(tw:pF n 0 (lC n t))(hto:(lC n t i0).to p=some x):
  Ev T 99 [tv,aC i0,aC p] h (λv h'=>xJ h h' v (zi (He (lC n t) (n-(i0+1)) (i0+1) x))):=by
 have X:=(uG TI hi0 hto).1
 refine bH mZ rfl rfl ?_
 obtain⟨lv,id9,off9,sh9,hc9⟩:=R.open
 simp(disch:=omega)only[go_sem,mZ,aE,lv]
 refine (AR n h (by omega)).mono ?_
 rintro v1 h1 ⟨s1,f1,l1⟩
 simp(disch:=omega)only[go_sem]
 have hwin: ∀id,W id->id<h.next:=R.Kj
 refine oG (λvs hh=> ∃vx,(∃g:Nat->V,vs= [tv,aC i0,aC p,g 3,vx,g 5,g 6,g 7,g 8,g 9,g 10,g 11,g 12,g 13])/\PV W hh vx x/\Fr h hh) ?_ ?_
 ·have hto':(if p=i0 then some (cH n) else t i0 p)=some x:=hto
  refine aX (λhpi=>?_) (λhpi=>?_)
  ·have hpi':p≠i0:=by omega
   rw[if_neg hpi'] at hto'
   have R1:=R.mono f1
   obtain⟨_,id2,off2,sh2,hc2⟩:=R1.open
   have cr:=hc2 i0 hi0
   have ce:=R1.cell hi0 hp
   have hS:=R1.ent i0 p hi0 hp
   rw[hto'] at hS
   have pz:PV W h1 (F i0 p) x:=hS
   generalize F i0 p=vz at ce pz
   simp(disch:=omega)only[go_sem,sh2.ixa,cr,ce]
   exact .inl ⟨vz,aA rfl,pz,f1⟩
  ·have hpi':p=i0:=by omega
   rw[if_pos hpi'] at hto'
   obtain rfl:cH n=x:=Option.some.inj hto'
   simp(disch:=omega)only[go_sem]
   exact .inl ⟨v1,aA rfl,PV.fresh s1 l1 hwin,f1⟩
 clear s1 f1 l1 v1 h1
 rintro vars h1 ⟨vx,⟨g,rfl⟩,px,f1⟩
 simp(disch:=omega)only[go_sem]
 rw[fA i0]
 refine bJ (λvs hh=> ∃vy,(∃g:Nat->V,vs= [tv,g 1,g 2,g 3,vy,g 5,g 6,g 7,g 8,g 9,g 10,g 11,g 12,g 13])/\PV W hh vy (He (lC n t) (n-(i0+1)) (i0+1) x)/\bT n (He (lC n t) (n-(i0+1)) (i0+1) x)/\Fr h hh) ?_ ?_
 ·refine aH (λk' vars hh=> ∃(k:Nat) (y:List Nat) (vy:V),(∃g:Nat->V,vars= [tv,g 1,g 2,g 3,vy,aC k,g 6,g 7,g 8,g 9,g 10,g 11,g 12,g 13])/\i0<k/\k<=n/\He (lC n t) (n-k) k y=He (lC n t) (n-(i0+1)) (i0+1) x/\
    PV W hh vy y/\bT n y/\Fr h hh/\k'=n-k) (n-(i0+1))
   ⟨i0+1,x,vx,aA rfl,by omega,by omega,rfl,px,X,f1,rfl⟩ ?_
  clear px f1 vx h1 g
  rintro k' vars h2 ⟨k,y,vy,⟨g,rfl⟩,hi1,hi2,hs,hy,Y,f,rfl⟩
  by_cases hlt:(k:Int)<(n:Int)
  case neg=>
   have e1:=eS hlt;obtain rfl:k=n:=by omega
   rw[Nat.sub_self] at hs;simp(disch:=omega)only[go_sem,lv,e1];have hs':y=He (lC k t) (k-(i0+1)) (i0+1) x:=hs;exact⟨vy,aA rfl,by rw[←hs'];exact hy,by rw[←hs'];exact Y,f⟩
  have hkn:k<n:=by omega
  have e1:=iB hlt
  have R2:=R.mono f
  simp(disch:=omega)only[go_sem,lv,e1]
  refine (Tu b W h2 n tv ρ F t k hn h0 hkn R2 TI).mono ?_
  rintro vo h3 ⟨oo,f3⟩
  obtain⟨o,ho⟩:=exI ((lC n t k).orb)
  rw[show Bc t k n=o from ho] at oo
  have so:SI h3 vo (zi o):=oo.sv
  have lo:=so.lens
  rw[aP] at lo
  have kB:=(tw k (iP _) hkn).1
  have hlo:o.length<=n:=by rw[←ho];exact Kv t k n
  obtain⟨id,off,sh,hid,hc⟩:=so.open
  rw[aP] at sh hid hc
  have hy3:=PV.mono hy f3
  obtain⟨id2,off2,sh2,hid2,hc2⟩:=hy3.si.open
  rw[aP,Y.len] at sh2 hid2 hc2
  simp(disch:=omega)only[go_sem]
  refine bJ (λvs hh=>(∃g:Nat->V,vs= [tv,g 1,g 2,g 3,vy,aC k,g 6,aC (oY y k o:Int),g 8,g 9,g 10,g 11,g 12,g 13])/\oY y k o<n/\oY y k o∈k::o/\Fr h3 hh) ?_ ?_
  ·refine aH (λm' vars hh=> ∃(m b:Nat),(∃g:Nat->V,vars= [tv,g 1,g 2,g 3,vy,aC k,vo,aC b,aC m,g 9,g 10,g 11,g 12,g 13])/\m<=o.length/\b<n/\b∈k::o/\
     oY y b (o.drop m)=oY y k o/\Fr h3 hh/\m'=o.length-m) o.length
    ⟨0,k,aA rfl,iP _,hkn,List.mem_cons_self ..,rfl,Fr.refl h3,rfl⟩ ?_
   rintro m' vars h4 ⟨m,b1,⟨g3,rfl⟩,hm,hb,hbm,hbest,f4,rfl⟩
   by_cases hlt2:(m:Int)<(o.length:Int)
   case neg=>
    have e2:=eS hlt2;have em:m=o.length:=by omega
    rw[em,List.drop_length] at hbest;have hbest:b1=oY y k o:=hbest;simp(disch:=omega)only[go_sem,lo,e2];exact⟨by rw[←hbest];exact aA rfl,by rw[←hbest];exact hb,by rw[←hbest];exact hbm,f4⟩
   have e2:=iB hlt2
   have hm':m<o.length:=by omega
   rw[Nk _ _ hm'] at hbest
   have cq:h4.cell id (off+m)=some (aC (o.getD m 0:Nat)):=by rw[f4.cell (hid (by omega)),hc m hm'];congr 2;simp [zi,hm']
   have hqm:o.getD m 0∈o:=by rw[bG hm'];exact List.getElem_mem hm'
   have hqn:=kB.lt hkn (by rw[ho];exact hqm)
   generalize o.getD m 0=q at cq hqm hqn hbest
   have c1:h4.cell id2 (off2+q)=some (aC (y.getD q 0:Nat)):=by rw[f4.cell (hid2 (by omega)),hc2 q hqn];congr 2;simp [zi,Y.len,hqn]
   have c2:h4.cell id2 (off2+b1)=some (aC (y.getD b1 0:Nat)):=by rw[f4.cell (hid2 (by omega)),hc2 b1 hb];congr 2;simp [zi,Y.len,hb]
   simp(disch:=omega)only[go_sem,lo,e2,sh.ixa,cq,sh2.ixa,c1,c2]
   have fb:Fr h3 (H.mk h4.tr (h4.next+12)):=f4.bF (by omega)
   refine aX (λhxx=>?_) (λhxx=>?_)
   ·rw[if_pos (by omega)] at hbest
    simp(disch:=omega)only[go_sem,sh.ixa,cq]
    rw[fA m]
    exact⟨o.length-(m+1),by omega,m+1,q,aA rfl,by omega,hqn,List.mem_cons_of_mem _ hqm,hbest,fb,rfl⟩
   ·rw[if_neg (by omega)] at hbest
    simp(disch:=omega)only[go_sem]
    rw[fA m]
    exact⟨o.length-(m+1),by omega,m+1,b1,aA rfl,by omega,hb,hbm,hbest,fb,rfl⟩
  rintro vars h4 ⟨⟨g4,rfl⟩,hb,hbm,f4⟩
  have hstep:n-k=(n-(k+1))+1:=by omega
  rw[hstep] at hs
  have hs:He (lC n t) (n-(k+1)) (k+1) (if oY y k (lC n t k).orb=k then y else aW (((lC n t k).to (oY y k (lC n t k).orb)).getD []) y)=He (lC n t) (n-(i0+1)) (i0+1) x:=hs
  rw[ho] at hs
  have R4:=R2.mono (f3.trans f4)
  have hy4:=PV.mono hy3 f4
  generalize oY y k o=q at hs hb hbm
  by_cases hbk:q=k
  ·rw[if_pos hbk] at hs
   have e0:decide ((q:Int)≠(k:Int))=false:=eS (by omega)
   simp(disch:=omega)only[go_sem,e0]
   rw[fA k]
   exact⟨n-(k+1),by omega,k+1,y,vy,aA rfl,by omega,by omega,hs,hy4,Y,(f.trans f3).trans f4,rfl⟩
  rw[if_neg hbk] at hs
  have e0:decide ((q:Int)≠(k:Int))=true:=iB (by omega)
  have hbo:q∈(lC n t k).orb:=by
   rcases List.mem_cons.1 hbm with e|e
   ·exact absurd e hbk
   ·rw[ho];exact e
  obtain⟨u,hu⟩:=kB.to hbo
  have U:=kB.dY _ _ hu
  have hu':(if q=k then some (cH n) else t k q)=some u:=hu
  rw[if_neg hbk] at hu'
  obtain⟨_,id5,off5,sh5,hc5⟩:=R4.open
  have cr:=hc5 k hkn
  have ce:=R4.cell hkn hb
  have hS:=R4.ent k q hkn hb
  rw[hu'] at hS
  have pu:PV W h4 (F k q) u:=hS
  generalize F k q=vu at ce pu
  rw[hu] at hs
  simp(disch:=omega)only[go_sem,e0,sh5.ixa,cr,ce]
  refine (qM vu vy u y h4 (by rw[U.len];omega) pu.si hy4.si (λj hj=>by rw[Y.len];exact U.eX (by rw[←U.len];exact hj))).mono ?_
  rintro v h5 ⟨s5,f5,l5⟩
  simp(disch:=omega)only[go_sem]
  rw[fA k]
  exact⟨n-(k+1),by omega,k+1,_,v,aA rfl,by omega,by omega,hs,PV.fresh s5 l5 R4.Kj,U.mul Y,((f.trans f3).trans f4).trans f5,rfl⟩
 rintro vars h2 ⟨vy,⟨g2,rfl⟩,py,Y,f2⟩
 simp(disch:=omega)only[go_sem]
 refine (Qx vy _ h2 py.si (by rw[aP,Y.len];omega)).mono ?_
 rintro v h3 c
 have fr:=OO.aaX c (by rw[aP,Y.len];exact h0)
 simp(disch:=omega)only[go_sem]
 obtain⟨⟨id,cap,e1,e2,e3,e4,e5⟩,f3⟩:=fr
 exact⟨⟨id,cap,e1,by have:=f2.next;omega,e3,e4,e5⟩,f2.trans f3⟩
theorem FZ (b:Nat)(W0:Nat->Prop)(h:H)(n:Nat)(tv:V)(ρ:Nat->Nat)(F:Nat->Nat->V)(t:rJ)(hn:n<=64)(h0:0<n)(R:Em b W0 h n tv ρ F t)(TI:oT n t)(tw:pF n 0 (lC n t)):
  Ev T 70 [tv] h (λv h'=> ∃O R',GZ (λid=>id<h.next) h' v n O R'/\dM n (S n (lC n t) 0) O R'/\Fr h h'):=by
 refine bH nG rfl rfl ?_
 have lv:=R.open.1
 obtain⟨τ,hτ⟩:=exI (lC n t)
 obtain⟨B,hB⟩:=exI h.next
 have bl:uB [aC 0,.aB,.aB] [(0,1,aC n)]=some (.agg [aC n,.aB,.aB]):=by
  have e1:putAt [aC 0,.aB,.aB] 0 [aC n]=some [aC n,.aB,.aB]:=by simp [putAt]
  simp [uB,jZ,e1,V.cells,V.one]
 obtain⟨h1,h1e⟩: ∃h1,h1=(h.new (.cells false [aC 0,.aB,.aB])).new (.cells false [aC 0,.aB,.aB]):=⟨_,rfl⟩
 have n1:h1.next=B+2:=by rw[h1e,H.aV,H.aV,hB]
 have g1:h1.get (B+1)=bQ [aC 0,.aB,.aB]:=by
  rw[h1e];have:=H.aN (h.new (.cells false [aC 0,.aB,.aB])) (.cells false [aC 0,.aB,.aB]);rwa [H.aV,hB] at this
 have g0:h1.get B=bQ [aC 0,.aB,.aB]:=by rw[h1e,H.bI _ (by rw[H.aV,hB];omega),←hB,H.aN]
 have f1:Fr h h1:=by rw[h1e];exact ((Fr.refl h).new _).new _
 simp(disch:=omega)only[go_sem,nG,aE,hB,lv,bl]
 rw[←h1e]
 simp(disch:=omega)only[go_sem,cU h1 (B+1) 0 (v:= aC n) (u:= .aB) (w:= .aB) rfl rfl rfl,g1,cE]
 obtain⟨h2,h2e⟩: ∃h2,h2=h1.set (B+1) (bQ [aC n,.aB,.aB]):=⟨_,rfl⟩
 have n2:h2.next=B+2:=by rw[h2e];exact n1
 have f2:Fr h h2:=by rw[h2e];exact f1.set (by omega) _
 have g2:h2.get (B+1)=bQ [aC n,.aB,.aB]:=by rw[h2e,H.aT]
 have g20:h2.get B=bQ [aC 0,.aB,.aB]:=by rw[h2e,H.aG _ (by omega)];exact g0
 rw[←h2e]
 clear h1e h2e f1 g0 g1 n1 h1
 refine aH (λk' vars hh=> ∃(i:Nat) (W:Nat->Prop) (O:LN) (R':kW) (vO vR:V) (wsO wsR:List V),(∃g:Nat->V,vars= [tv,.ptr B 0,.ptr (B+1) 0,aC i,g 4,g 5,g 6,g 7,g 8])/\i<=n/\zK h hh (B+1) B W n O R' vO vR wsO wsR/\
   hh.get B=bQ [aC 0,.aB,.aB]/\O.length=i/\R'.length=i/\(∀j,j<i->ChL τ n j (O.getD j []) (R'.getD j []))/\k'=n-i) n
  ⟨0,_, [], [],_,_,_,_,aA rfl,iP _,zK.start (by omega) (by omega) (by omega) (by omega) (by omega) f2 g2,g20,rfl,rfl,λj hj=>by omega,rfl⟩ ?_
 clear f2 g2 g20 n2 h2
 rintro k' vars h2 ⟨i,W,O,R',vO,vR,wsO,wsR,⟨g,rfl⟩,hi,A,gB,lO,lR,hC,rfl⟩
 by_cases hlt:(i:Int)<(n:Int)
 case neg=>
  have e1:=eS hlt;obtain rfl:i=n:=by omega
  have hr:=aJ A.get;have nB:=A.fr.next;simp(disch:=omega)only[go_sem,lv,e1,hr,cU h2 B 0 (v:= aC i) (u:=vO) (w:=vR) rfl (SV.cJ A.oO.sv).2.1 (SV.cJ A.oR.sv).2.1,gB,cE];have hr2:=aJ (h:=h2.set B (bQ [aC i,vO,vR])) (H.aT ..);have fB:Fx (· =B) h2 (h2.set B (bQ [aC i,vO,vR])):=Fx.set h2 (W:=(· =B)) rfl _;simp(disch:=omega)only[go_sem,hr2]
  obtain⟨h3,h3e⟩: ∃h3,h3=h2.set B (bQ [aC i,vO,vR]):=⟨_,rfl⟩
  rw[←h3e] at fB ⊢;have A3:=A.box h3e;refine⟨O,R',by rw[←hB];exact A3.chw,?_,A3.fr⟩;rw[hτ] at tw ⊢;have X:=tw.chain (O:=O) (R:=R') lO lR (λj hj=>(hC j hj).1) (λj hj=>(hC j hj).2.1) (λj hj=>(hC j hj).2.2.1) (λj hj=>(hC j hj).2.2.2);exact X
 have e1:=iB hlt
 have hin:i<n:=by omega
 have R2:=R.mono A.fr
 have kB:=(tw i (iP _) hin).1
 rw[hτ] at kB
 simp(disch:=omega)only[go_sem,lv,e1]
 refine (Tu b W0 h2 n tv ρ F t i hn h0 hin R2 TI).mono ?_
 rintro vo h4 ⟨oo,f4⟩
 obtain⟨q,hq⟩:=exI (Bc t i n)
 have ascq:q.Pairwise (· < ·):=by rw[←hq];exact PD i n
 have memq: ∀p,p∈q↔p∈(τ i).orb:=λp=>by rw[←hq,OC,hτ]
 have hql:q.length<=n:=by rw[←hq];exact Kv t i n
 have hpos:0<q.length:=List.length_pos_of_mem ((memq i).2 kB.base)
 rw[hq] at oo
 obtain⟨P,cp,rfl,hP1,hP2,cP⟩: ∃P cp,vo= .sl P 0 q.length cp/\h2.next<=P/\P<h4.next/\ ∀k,k<q.length->h4.cell P k=some (aC (q.getD k 0:Nat)):=by
  rcases oo with ⟨_,e⟩|⟨id,m,cap,rest,e1,e2,e3,e4,e5,e6⟩
  ·have:=congrArg List.length e
   rw[aQ,aP,List.length_nil] at this;omega
  ·rw[aQ,aP,Nat.mul_one] at e2
   subst e2;exact⟨id,cap,e1,e4,e5,λk hk=>by rw[H.aF e6,Gt (by rw[aQ,aP];exact hk),Fy hk]⟩
 have A4:=A.mono f4
 have pq:PV W h4 (.sl P 0 q.length cp) q:=⟨oo.sv,λhw=>by have:=A.wb P hw;omega⟩
 have gB4:h4.get B=bQ [aC 0,.aB,.aB]:=by rw[f4.get B (A.wb B A.d)];exact gB
 clear A gB R2 oo
 simp(disch:=omega)only[go_sem]
 refine bJ (λvs hh=> ∃(vr:V) (r:LN),(∃g:Nat->V,vs= [tv,.ptr B 0,.ptr (B+1) 0,aC i,.sl P 0 q.length cp,vr,g 6,g 7,g 8])/\PL W hh vr r/\ChL τ n i q r/\Fr h4 hh) ?_ ?_
 ·refine aH (λk' vs hh=> ∃(k:Nat) (vr:V) (ws:List V) (r:LN) (W':Nat->Prop),(∃g:Nat->V,vs= [tv,.ptr B 0,.ptr (B+1) 0,aC i,.sl P 0 q.length cp,vr,aC k,g 7,g 8])/\k<=q.length/\dB hh vr 1 ws h4.next/\fF W' hh ws r/\Ej W' vr/\(∀id,W id->W' id)/\(∀id,W' id->id<hh.next/\(W id∨h4.next<=id))/\r.length=k/\
    (∀j,j<k-> ∀y,(τ i).to (q.getD j 0)=some y->r.getD j []=He τ (n-(i+1)) (i+1) y)/\Fr h4 hh/\k'=q.length-k) q.length
   ⟨0,.aB, [], [],W,aA rfl,iP _,dB.aB _ _ _,trivial,λ_ _ _ _ e=>(by cases e),λ_ h=>h,λid h=>⟨A4.wb id h,.inl h⟩,rfl,λj hj=>by omega,Fr.refl _,rfl⟩ ?_
  rintro k' vars h5 ⟨k,vr,ws,r,W',⟨g,rfl⟩,hk,ow,pvs,bl',hW1,hW2,lr,hr,f5,rfl⟩
  by_cases hlt2:(k:Int)<(q.length:Int)
  case neg=>
   have e2:=eS hlt2;obtain rfl:k=q.length:=by omega
   simp(disch:=omega)only[go_sem,e2];refine⟨vr,r,aA rfl,⟨ws,ow.sv,?_,pvs.sP (λid _ h=>hW1 id h),dB.OZ ow⟩,⟨ascq,memq,lr,hr⟩,f5⟩
   cases vr with
   |sl id off m c=>exact λh=>by have:=(ow.in _ _ _ _ rfl).2.1;have:=A4.wb id h;omega
   |_=>trivial
  have e2:=iB hlt2
  have hk':k<q.length:=by omega
  obtain⟨p,hp⟩:=exI (q.getD k 0)
  have ck:h5.cell P k=some (aC p):=by
   rw[f5.cell hP2,cP k hk',hp]
  have hpm:p∈(τ i).orb:=(memq p).1 (by rw[←hp,bG hk'];exact List.getElem_mem hk')
  have hpn:=kB.lt hin hpm
  obtain⟨y,hy⟩:=kB.to hpm
  have Y:=kB.dY _ _ hy
  have R5:=R.mono (A4.fr.trans f5)
  simp(disch:=omega)only[go_sem,e2,ck]
  refine (FN b W0 h5 n tv ρ F t i p y hn h0 hin hpn R5 TI tw (by rw[hτ];exact hy)).mono ?_
  rw[hτ]
  rintro v7 h7 fr7
  have f7:=fr7.fr
  have p7:PV W' h7 v7 (He τ (n-(i+1)) (i+1) y):=fr7.pv λid h=>(hW2 id h).1
  simp(disch:=omega)only[go_sem,cT h7 (z:= .aB) p7.dZ.1 p7.dZ.2]
  obtain⟨h8,h8e⟩: ∃h8,h8=h7.new (.cells false [v7]):=⟨_,rfl⟩
  have g8:h8.get h7.next=bQ [v7]:=by rw[h8e,H.aN]
  have n8:h8.next=h7.next+1:=by rw[h8e,H.aV]
  have f8:Fr h7 h8:=by rw[h8e];exact (Fr.refl h7).new _
  rw[←h8e]
  have f58:=f7.trans f8
  have ow8:=ow.fr f58
  have hws:=aZ.length pvs
  obtain⟨h9,a9,p9⟩:=ow8.push (bytes:=24) (SV.one (by omega) g8 (.kn 1)) (n:=k) (m:=1) (by omega) rfl (by omega) (by omega) (by omega)
  simp(disch:=omega)only[go_sem,a9]
  rw[fA k]
  have n9:=p9.next
  have f9:Fx W' h8 h9:=p9.fx bl'
  have hnext:=f58.next
  have hw9: ∀id,id<h8.next->(W' id∨id=h8.next)->W' id:=λid h1 h2=>by
   rcases h2 with h2|h2
   ·exact h2
   ·omega
  refine⟨q.length-(k+1),by omega,k+1,_,_,r++ [He τ (n-(i+1)) (i+1) y],λid=>W' id∨id=h8.next,aA rfl,by omega,p9.own (by omega) rfl (by have:=f5.next;omega),?_,λid off m c e=>by cases e;exact .inr rfl,λid h=> .inl (hW1 id h),λid h=>?_,by rw[oL,lr];rfl,λj hj z hz=>?_,?_,rfl⟩
  ·exact (fF.go (fF.go pvs (Fx.of f58) (λ_ _ h=>h)) f9 hw9).append (fF.one (PV.go (p7.mono f8) f9 hw9))
  ·rcases h with h|h
   ·have:=hW2 id h;exact⟨by omega,this.2⟩
   ·have:=f5.next;exact⟨by omega,.inr (by omega)⟩
  ·by_cases e:j=k
   ·subst e
    rw[hp,hy] at hz
    cases hz
    rw[←lr,kG]
   ·rw[mO (by omega)]
    exact hr j (by omega) z hz
  ·refine⟨by have:=f5.next;omega,λid hid=>?_⟩
   rw[p9.old id (by have:=f5.next;omega) (λid' off m c e e2=>by have:=(ow.in _ _ _ _ e).2.1;omega),f58.get id (by have:=f5.next;omega)]
   exact f5.get id hid
 rintro vars h5 ⟨vr,r,⟨g,rfl⟩,pl,hcl,f5⟩
 have A5:=A4.mono f5
 have pq5:=pq.mono f5
 have gB5:h5.get B=bQ [aC 0,.aB,.aB]:=by rw[f5.get B (A4.wb B A4.d)];exact gB4
 have cO:h5.cell (B+1) 1=some vO:=by rw[H.aF A5.get];rfl
 have cR:h5.cell (B+1) 2=some vR:=by rw[H.aF A5.get];rfl
 obtain⟨ws,pl1,pl2,pl3,pl4⟩:=pl
 have pl:PL W h5 vr r:=⟨ws,pl1,pl2,pl3,pl4⟩
 have fn5:=A5.fr.next
 have cn5:=A5.wb _ A5.c
 simp(disch:=omega)only[go_sem,cO,cR,cT _ (z:= .aB) (v:= .sl P 0 q.length cp) rfl rfl]
 obtain⟨h6,h6e⟩: ∃h6:H,h6=H.mk ((H.mk h5.tr (h5.next+3)).new (Ob.cells false [.sl P 0 q.length cp])).tr (h5.next+14):=⟨_,rfl⟩
 rw[←h6e]
 have g6:h6.get (h5.next+3)=bQ [.sl P 0 q.length cp]:=by rw[h6e];exact H.aN (H.mk h5.tr (h5.next+3)) _
 have n6:h6.next=h5.next+14:=by rw[h6e]
 have o6: ∀k,k≠h5.next+3->h6.get k=h5.get k:=λk hk=>by rw[h6e];exact H.bI (H.mk h5.tr (h5.next+3)) (by simpa using hk) _
 have f6:Fr h5 h6:=⟨by omega,λid hid=>o6 id (by omega)⟩
 have hwO:=aZ.length A5.aO
 have hwR:=aZ.length A5.aR
 obtain⟨h7,a7,p7⟩:=(A5.oO.fr f6).push (bytes:=24) (SV.one (by omega) g6 (.kn 1)) (n:=i) (m:=1) (by omega) rfl (by omega) (by omega) (by omega)
 have n7:=p7.next
 have oldO: ∀k,k<h5.next->dV vO k->h7.get k=h5.get k:=λk h1 h2=>by rw[p7.old k (by omega) h2,o6 k (by omega)]
 have cR7:h7.cell (B+1) 2=some vR:=by unfold H.cell;rw[oldO (B+1) cn5 A5.pO,A5.get];rfl
 have eR:dW vR vR=true:=A5.oR.sv.dW
 have svr:vr.cells= [vr]/\vr.one=true:=⟨(SV.cJ pl1).1,(SV.cJ pl1).2.1⟩
 simp(disch:=omega)only[go_sem,a7,cR7,eR,cT _ (z:= .aB) svr.1 svr.2]
 obtain⟨h8,h8e⟩: ∃h8:H,h8=H.mk ((H.mk h7.tr (h5.next+8)).new (Ob.cells false [vr])).tr h7.next:=⟨_,rfl⟩
 rw[←h8e]
 have g8:h8.get (h5.next+8)=bQ [vr]:=by rw[h8e];exact H.aN (H.mk h7.tr (h5.next+8)) _
 have n8:h8.next=h7.next:=by rw[h8e]
 have o8: ∀k,k≠h5.next+8->h8.get k=h7.get k:=λk hk=>by rw[h8e];exact H.bI (H.mk h7.tr (h5.next+8)) (by simpa using hk) _
 have oR8:dB h8 vR 1 wsR h.next:=A5.oR.mono (by omega) λid off m c e _ hid=>by
  rw[o8 id (by omega),oldO id hid (λid' off' n' c' e' e2=>A5.EU _ _ _ _ e' _ _ _ _ e e2.symm)]
 obtain⟨h9,a9,p9⟩:=oR8.push (bytes:=24) (SV.one (by omega) g8 (.kn 1)) (n:=i) (m:=1) (by omega) rfl (by omega) (by omega) (by omega)
 have n9:=p9.next
 have apR: ∀k,h5.next<=k->dV vR k:=λk hk id off m c e e2=>by have:=(A5.oR.in _ _ _ _ e).1;omega
 have old9: ∀k,k<h5.next->dV vO k->dV vR k->h9.get k=h5.get k:=λk h1 h2 h3=>by rw[p9.old k (by omega) h3,o8 k (by omega),oldO k h1 h2]
 have gC9:h9.get (B+1)=bQ [aC n,vO,vR]:=by rw[old9 _ cn5 A5.pO A5.pR];exact A5.get
 have pt1: ∀(hh:H) (x:V),eG (bQ [aC n,vO,vR]) hh (B+1) 1 [x]=some (hh.set (B+1) (bQ [aC n,x,vR])):=λhh x=>bP (by simp) hh _ x
 have pt2: ∀(hh:H) (x y:V),eG (bQ [aC n,x,vR]) hh (B+1) 2 [y]=some (hh.set (B+1) (bQ [aC n,x,y])):=λhh x y=>bP (by simp) hh _ y
 simp(disch:=omega)only[go_sem,a9,gC9,pt1,pt2]
 rw[fA i]
 obtain⟨ha,hb⟩:h6.next=h5.next+14/\h8.next=h5.next+15:=⟨n6,by omega⟩
 rw[ha,hb]
 obtain⟨h10,h10e⟩: ∃h10,h10=(h9.set (B+1) (bQ [aC n,.sl (h5.next+14) 0 (i+1) (.un 1),vR])).set (B+1) (bQ [aC n,.sl (h5.next+14) 0 (i+1) (.un 1),.sl (h5.next+15) 0 (i+1) (.un 1)]):=⟨_,rfl⟩
 rw[←h10e]
 have o10: ∀k,k≠B+1->h10.get k=h9.get k:=λk hk=>by rw[h10e,H.aG _ hk,H.aG _ hk]
 have n10:h10.next=h5.next+16:=by rw[h10e];show h9.next=_;omega
 have A10:=A5.step (v4:= .sl P 0 q.length cp) (v5:=vr) (o:=q) (r:=r) (h6:=h10) (a:=h5.next+14) (b:=h5.next+15) (k1:=i+1) (k2:=i+1) pq5 pl (by omega) (by omega) (by omega) (by omega) (by omega) (by omega) (by omega) (by rw[h10e,H.aT])
  (by rw[o10 _ (by omega),p9.old _ (by omega) (apR _ (by omega)),o8 _ (by omega),←ha];exact p7.get) (by rw[o10 _ (by omega),←hb];exact p9.get) (λk h1 h2 h3 h4=>by rw[o10 k h2];exact old9 k h1 h3 h4)
 refine⟨n-(i+1),by omega,i+1,_,_,_,_,_,_,_,aA rfl,by omega,A10,?_,by rw[oL,lO];rfl,by rw[oL,lR];rfl,λj hj=>?_,rfl⟩
 ·rw[old9 B (A5.wb B A5.d) A5.qO A5.qR];exact gB5
 ·by_cases e:j=i
  ·subst e
   have e1:(O++ [q]).getD j []=q:=by rw[←lO];exact kG
   have e2:(R'++ [r]).getD j []=r:=by rw[←lR];exact kG
   rw[e1,e2]
   exact hcl
  ·rw[mO (by omega),mO (by omega)]
   exact hC j (by omega)
theorem MF (h:H)(n:Nat)(hn:n<=100000):Cu h 1 24 [.aB] (aC n) (aC n)=some (.sl h.next 0 n (.kn n),h.new (.cells false (rc n λ_=> .aB))):=by
 have e:dQ [V.aB] n=rc n λ_=> .aB:=(Lk (by simp [dQ]) λi hi=>by simp [dQ,hi,Nat.mod_one]).symm
 rw[qQ (by omega) (Int.le_refl _) (by omega) (by omega),Int.toNat_natCast,Nat.mul_one,e]
theorem LS (n:Nat)(h:H)(hn:n<=64):Ev T 67 [aC n] h (λv h'=> ∃ρ F,Em h.next (WB n ρ) h' n v ρ F (λ_ _=>none)/\Fr h h'):=by
 refine bH uL rfl rfl ?_;simp(disch:=omega)only[go_sem,uL,aE]
 refine aH (λk' vars hh=> ∃(i:Nat) (vl:V) (rs:List Nat),(∃g:Nat->V,vars= [aC n,g 1,vl,aC i,g 4])/\i<=n/\rs.length=i/\dB hh vl 1 (rs.map λr=> .sl r 0 n (.kn n)) h.next/\rs.Nodup/\
   (∀r∈rs,h.next<=r/\r<hh.next/\hh.get r=some (.cells false (rc n λ_=> .aB))/\dV vl r)/\Fr h hh/\k'=n-i) n
  ⟨0,.aB, [],aA rfl,iP _,rfl,dB.aB _ _ _,List.nodup_nil,λr hr=>absurd hr List.not_mem_nil,Fr.refl h,rfl⟩ ?_
 rintro k' vars h2 ⟨i,vl,rs,⟨g,rfl⟩,hi,lr,ow,nd,hr,f,rfl⟩
 by_cases hlt:(i:Int)<(n:Int)
 case neg=>
  have e1:=eS hlt;obtain rfl:i=n:=by omega
  simp(disch:=omega)only[go_sem,e1];have hm: ∀j,j<i->rs.getD j 0∈rs:=λj hj=>bD (by omega)
  refine⟨λj=>rs.getD j 0,λ_ _=> .aB,⟨?_,?_,λj hj=>(hr _ (hm j hj)).2.2.1,λj hj=>⟨j,hj,rfl⟩,?_,?_,λa c ha hc e=>?_,λ_ _ _ _=>rfl⟩,f⟩
  ·have e2:(rc i λj=>V.sl (rs.getD j 0) 0 i (.kn i))=rs.map λr=> .sl r 0 i (.kn i):=Lk (by rw[jD];exact lr) λj hj=>by
    rw[List.getElem?_map,fS (by omega),List.getD,fS (by omega)];rfl
   rw[e2];exact ow.sv
  ·cases vl with
   |sl id off m c=>
    rintro⟨j,hj,e⟩;exact (hr _ (hm j hj)).2.2.2 _ _ _ _ rfl e
   |_=>trivial
  ·rintro id ⟨j,hj,rfl⟩;exact (hr _ (hm j hj)).2.1
  ·rintro id ⟨j,hj,rfl⟩;exact (hr _ (hm j hj)).1
  ·have ea:=fS (show a<rs.length by omega)
   have ec:=fS (show c<rs.length by omega);simp only[List.getD,ea,ec,Option.getD_some] at e;rcases Nat.lt_trichotomy a c with h1|h1|h1
   ·exact absurd e (List.pairwise_iff_getElem.1 nd a c (by omega) (by omega) h1)
   ·exact h1
   ·exact absurd e.symm (List.pairwise_iff_getElem.1 nd c a (by omega) (by omega) h1)
 have e1:=iB hlt;obtain⟨S,hS⟩:=exI h2.next;obtain⟨h3,e3,n3,g3,o3,f3⟩:=eQ hS (rc n λ_=> .aB);have fn:=f.next;obtain⟨h4,a4,ow4,f4,n4,o4⟩:=Ag (v:= .sl S 0 n (.kn n)) (ow.fr f3) (f.trans f3) (by rw[jD];omega) (bytes:=24) (by omega);rw[jD,lr,n3] at a4 ow4;simp(disch:=omega)only[go_sem,e1,MF h2 n (by omega),hS,e3,cT _ (z:= .aB) (v:= .sl S 0 n (.kn n)) rfl rfl,n3,a4];rw[fA i];have hlt2: ∀r∈rs,r<S:=λr h=>by have:=(hr r h).2.1;omega
 refine⟨n-(i+1),by omega,i+1,_,rs++ [S],aA rfl,by omega,by rw[oL,lr];rfl,by rw[List.map_append];exact ow4,List.nodup_append.2 ⟨nd,by simp,λa ha c hc e=>?_⟩,λr h=>?_,f4,rfl⟩
 ·have:=hlt2 a ha
  simp at hc;omega
 ·rcases Af.1 h with h|h
  ·obtain⟨b1,b2,b3,b4⟩:=hr r h
   refine⟨b1,by omega,by rw[o4 r (by omega) b4,o3 r (by omega)];exact b3,λid off m c e=>by cases e;omega⟩
  ·simp at h
   subst h;refine⟨by omega,by omega,by rw[o4 _ (by omega) (λid off m c e e2=>by have:=(ow.in _ _ _ _ e).1;omega)];exact g3,λid off m c e=>by cases e;omega⟩
theorem vW (vl:V)(n:Nat)(l:LN)(h:H)(n0:1<=n)(n7:n<=7)(hl:l.length<=4096)(hv:SP h vl l)(hP: ∀g∈l,bT n g):
  Ev T 44 [aC n,vl] h (λv h'=> ∃vc O R,v= .tup [vc,aC 0]/\GC (λid=>id<h.next) h' vc n O R (fG n (· ∈l))/\Fr h h'):=by
 refine bH xC rfl rfl ?_
 obtain⟨B,hB⟩:=exI h.next
 obtain⟨h1,e1,n1,g1,o1,f1⟩:=eQ hB [aC 0,.aB,.aB]
 have d1:decide ((n:Int)<1)=false:=eS (by omega)
 have d2:decide ((64:Int)<(n:Int))=false:=eS (by omega)
 have lv:=hv.lens
 rw[jD] at lv
 have d3:decide ((4096:Int)<(l.length:Int))=false:=eS (by omega)
 obtain⟨id,off,ws,sh,hid,hwl,hc,hall⟩:=hv.open
 rw[jD] at sh hid hwl hc
 simp(disch:=omega)only[go_sem,xC,aE,hB,e1,d1,d2,lv,d3]
 refine bJ (λvs hh=>(∃g:Nat->V,vs= [aC n,vl,.ptr B 0,g 3,g 4,g 5,g 6,g 7,g 8,g 9,g 10,g 11,g 12,g 13])/\Fr h1 hh) ?_ ?_
 ·refine aH (λk' vs hh=> ∃(i:Nat),(∃g:Nat->V,vs= [aC n,vl,.ptr B 0,g 3,aC i,g 5,g 6,g 7,g 8,g 9,g 10,g 11,g 12,g 13])/\i<=l.length/\Fr h1 hh/\k'=l.length-i) l.length
   ⟨0,aA rfl,iP _,Fr.refl h1,rfl⟩ ?_
  rintro k' vars h2 ⟨i,⟨g,rfl⟩,hi,f,rfl⟩
  by_cases hlt:(i:Int)<(l.length:Int)
  ·have d4:=iB hlt
   have hi':i<l.length:=by omega
   have F2:=f1.trans f
   have ci:h2.cell id (off+i)=some (ws.getD i .undef):=by rw[F2.cell (hid (by omega)),hc i hi']
   have s0:=Bg hall hi'
   have X:bT n (l.getD i []):=hP _ (bD hi')
   generalize ws.getD i .undef=vx at ci s0
   have lx:=s0.lens
   rw[aP,X.len] at lx
   simp(disch:=omega)only[go_sem,lv,d4,sh.ixa,ci]
   refine (rV vx _ h2 (by rw[aP,X.len];omega) (s0.mono F2)).mono ?_
   rw[Fl X n0 (by omega)]
   rintro _ h3 ⟨rfl,f3⟩
   have ci3:h3.cell id (off+i)=some vx:=by rw[f3.cell (by have:=hid (by omega);have:=F2.next;omega)];exact ci
   simp(disch:=omega)only[go_sem]
   refine aX (λhc=>(hc rfl).elim) (λ_=>?_)
   simp(disch:=omega)only[go_sem,sh.ixa,ci3,lx]
   refine aX (λhc=>(hc rfl).elim) (λ_=>?_)
   simp(disch:=omega)only[go_sem]
   rw[fA i]
   exact⟨l.length-(i+1),by omega,i+1,aA rfl,by omega,f.trans f3,rfl⟩
  have d4:=eS hlt
  simp(disch:=omega)only[go_sem,lv,d4]
  exact⟨aA rfl,f⟩
 rintro vars h2 ⟨⟨g,rfl⟩,f⟩
 have F2:=f1.trans f
 have nf:=f.next
 simp(disch:=omega)only[go_sem]
 refine (LS n h2 (by omega)).mono ?_
 rintro tv h3 ⟨ρ,F,R,f3⟩
 have F3:=F2.trans f3
 simp(disch:=omega)only[go_sem]
 have hL: ∀g,g∈l->bT n g:=hP
 refine bJ (λvs hh=> ∃(F':Nat->Nat->V) (t:rJ),(∃g:Nat->V,vs= [aC n,vl,.ptr B 0,g 3,g 4,g 5,tv,g 7,g 8,g 9,g 10,g 11,g 12,g 13])/\Em h2.next (WB n ρ) hh n tv ρ F' t/\Kf n (· ∈l) t/\(∀g∈l,ins t n 0 g=none)/\Fx (WB n ρ) h3 hh) ?_ ?_
 ·refine aH (λk' vs hh=> ∃(i:Nat) (F':Nat->Nat->V) (t:rJ),(∃g:Nat->V,vs= [aC n,vl,.ptr B 0,g 3,g 4,g 5,tv,aC i,g 8,g 9,g 10,g 11,g 12,g 13])/\i<=l.length/\Em h2.next (WB n ρ) hh n tv ρ F' t/\Kf n (· ∈l) t/\(∀g∈l.take i,ins t n 0 g=none)/\Fx (WB n ρ) h3 hh/\k'=l.length-i) l.length
   ⟨0,F,_,aA rfl,iP _,R,⟨oT.empty n,λg hg=>by
    obtain⟨_,_,_,_,_,e⟩:=fV.1 hg
    cases e⟩,λg hg=>absurd hg List.not_mem_nil,Fx.refl _ _,rfl⟩ ?_
  rintro k' vars h4 ⟨i,F',t,⟨g,rfl⟩,hi,R4,tl,hn,x,rfl⟩
  by_cases hlt:(i:Int)<(l.length:Int)
  case neg=>
   have d4:=eS hlt;obtain rfl:i=l.length:=by omega
   simp(disch:=omega)only[go_sem,lv,d4];rw[List.take_length] at hn;exact⟨F',t,aA rfl,R4,tl,hn,x⟩
  have d4:=iB hlt
  have hi':i<l.length:=by omega
  have lowB: ∀q,WB n ρ q->h2.next<=q:=R.low
  have X4:Fr h h4:=F2.trans ⟨by have:=f3.next;have:=x.next;omega,λq hq=>by rw[x.get q (by have:=f3.next;omega) (λhw=>by have:=lowB q hw;omega)];exact f3.get q hq⟩
  have ci:h4.cell id (off+i)=some (ws.getD i .undef):=by rw[X4.cell (hid (by omega)),hc i hi']
  have s0:=Bg hall hi'
  have X:bT n (l.getD i []):=hP _ (bD hi')
  generalize ws.getD i .undef=vx at ci s0
  simp(disch:=omega)only[go_sem,lv,d4,sh.ixa,ci]
  have px:PV (WB n ρ) h4 vx (l.getD i []):=by
   refine⟨s0.mono X4,BF (b:=h2.next) s0 (by omega) lowB⟩
  refine (Nu h2.next (WB n ρ) h4 n tv ρ F' t vx _ (by omega) (by omega) R4 px X tl.Bo).mono ?_
  rintro _ h5 ⟨F5,rfl,R5,f5⟩
  simp(disch:=omega)only[go_sem]
  rw[fA i]
  obtain⟨tl5,sub5,hnone⟩:=tl.ins hL (x:=l.getD i []) (fG.of hL (bD hi'))
  refine⟨l.length-(i+1),by omega,i+1,F5,_,aA rfl,by omega,R5,tl5,λu hu=>?_,x.trans f5 (λ_ _ h=>h),rfl⟩
  rcases (Bp hi').1 hu with hu|rfl
  ·exact Dl sub5 _ _ _ (hn u hu)
  ·exact hnone
 clear g
 rintro vars h4 ⟨F',t,⟨g,rfl⟩,R4,tl,hn,x⟩
 have x3:=x.next
 have n3:=f3.next
 simp(disch:=omega)only[go_sem]
 refine (PA h2.next (WB n ρ) h4 n tv ρ F' t (· ∈l) n7 n0 (by omega) R4 hL tl).mono ?_
 rintro _ h5 ⟨W5,F5,t5,R5,tl5,sub5,cl5,x5,hw5⟩
 have n5:=x5.next
 have tw:=Zv tl5.Bo cl5
 simp(disch:=omega)only[go_sem]
 refine (FZ h2.next W5 h5 n tv ρ F5 t5 (by omega) n0 R5 tl5.Bo tw).mono ?_
 rintro vc h6 ⟨O,R',ch,isc,f6⟩
 have n6:=f6.next
 have lowB: ∀q,WB n ρ q->h2.next<=q:=R.low
 have F5':Fr h2 h5:=⟨by omega,λq hq=>by
  rw[x5.get q (by omega) (λhw=>by have:=lowB q hw;omega),x.get q (by omega) (λhw=>by have:=lowB q hw;omega)]
  exact f3.get q hq⟩
 have F6:=(F2.trans F5').trans f6
 have F26:=F5'.trans f6
 have g6:h6.get B=some (.cells false [aC 0,.aB,.aB]):=by rw[F26.get B (by omega),f.get B (by omega)];exact g1
 have ch0:=ch
 obtain⟨vO,vR,wsO,wsR,e,t1,_,_,t2,_,_⟩:=ch
 subst e
 have oneO:=t1.cJ.2.1
 have oneR:=t2.cJ.2.1
 obtain⟨h7,e7,n7',g7,o7⟩:=uA h6 B [aC n,vO,vR]
 have r7:=aJ g7
 simp(disch:=omega)only[go_sem,cU h6 B 0 (v:= aC n) (u:=vO) (w:=vR) rfl oneO oneR,g6,cE,e7,r7]
 have f7:Fx (λid=>id<h5.next) h6 h7:=⟨by omega,λid _ hid=>o7 id (by omega)⟩
 refine⟨_,O,R',rfl,⟨ch0.go f7 (λid _ h=>by omega),isc.congr (tl5.group hL n0 cl5 λg hg=>Dl sub5 _ _ _ (hn g hg)),fG.kP hP,n0,n7⟩,⟨by have:=F6.next;omega,λid hid=>by rw[o7 id (by omega)];exact F6.get id hid⟩⟩
variable {h:H} {v:V} {n:Nat} {l:List Nat}
structure Mp (h:H)(v:V)(n id:Nat)(l:List Nat):Prop where
 ex: ∃cap rest,v= .sl id 0 n cap/\id<h.next/\h.get id=bQ (ints (zi l)++rest)
 dY:bT n l
theorem Mp.of {b:Nat}(h0:0<n)(X:bT n l)(o:dB h v 1 (ints (zi l)) b): ∃id,Mp h v n id l/\b<=id:=by
 rcases o with ⟨_,e⟩|⟨id,m,cap,rest,rfl,e2,e3,e4,e5,e6⟩
 ·have:=congrArg List.length e
  rw[aQ,aP,List.length_nil,X.len] at this;omega
 ·rw[aQ,aP,Nat.mul_one,X.len] at e2
  subst e2;exact⟨id,⟨⟨cap,rest,rfl,e5,e6⟩,X⟩,e4⟩
theorem Mp.si {id:Nat}(m:Mp h v n id l):SI h v (zi l):=by
 obtain⟨⟨cap,rest,rfl,h1,h2⟩,X⟩:=m;refine .inr ⟨id,0,n,cap,false,_,rfl,by rw[aQ,aP,X.len,Nat.mul_one],h1,h2,by rw[oL,aQ,aP,X.len];omega,?_⟩;rw[List.drop_zero,Nat.mul_one,List.take_left' (by rw[aQ,aP,X.len])]
theorem Mp.mono {h':H}{id:Nat}(m:Mp h v n id l)(hn:h.next<=h'.next)(hg:h'.get id=h.get id):Mp h' v n id l:=by
 obtain⟨⟨cap,rest,h1,h2,h3⟩,X⟩:=m;exact⟨⟨cap,rest,h1,by omega,by rw[hg];exact h3⟩,X⟩
theorem Mu.cell {x:Nat}{a c:H}(f:Mu x a c){id off:Nat}(h1:id<a.next)(h2:id≠x):c.cell id off=a.cell id off:=by unfold H.cell;rw[f.get id h1 h2]
set_option maxRecDepth 100000
section
variable {n:Nat} {G:List Nat->Prop} {L:LN} {K:List Nat}
theorem Fj.lt (k:Fj n G L K){r:Nat}(hr:r∈K):r<L.length:=(kY.1 (k.perm.mem_iff.1 hr)).1
theorem Fj.nd (k:Fj n G L K):K.Nodup:=k.perm.nodup_iff.2 (by unfold bY;exact List.nodup_range.filter _)
variable (hG:sC n G) (E:jA G L) (k:Fj n G L K)
include hG E k
end
variable {x:List Nat} {r:Nat}
def RW (n:Nat)(x:List Nat):Nat->Nat->Nat
 |0,k=>k
 |f+1,k=>if pw n x k=cH n then k else RW n x f (k+1)
def Pw (n:Nat)(x:List Nat):Nat:=RW n x 420 1
theorem Zt {n:Nat}{x:List Nat}(X:bT n x): ∀f k,0<k->k<=lW x n->lW x n<=k+f->RW n x f k=lW x n
 |0,k,_,h1,h2=>by show k=_;omega
 |f+1,k,h0,h1,h2=>by
  unfold RW;split
  ·rename_i e
   exact Nat.le_antisymm h1 (Nat.le_of_dvd h0 ((Dj X k).2 e))
  ·rename_i e
   refine Zt X f (k+1) (by omega) ?_ (by omega)
   by_cases h:k=lW x n
   ·exact absurd ((Dj X k).1 (by rw[h];exact Nat.dvd_refl _)) e
   ·omega
theorem SW {n:Nat}(X:bT n x)(hn:n<=7):lW x n=Pw n x:=
 (Zt X 420 1 (by omega) (Jk X) (by have:=Nat.le_of_dvd (by omega) (Lr X hn);omega)).symm
def cRb (L:LN)(i j:Nat):Bool:=L.any λc=>kE (L.getD i []) c==L.getD j []
def Xi (L:LN)(i:Nat):List Nat:=(List.range L.length).filter (cRb L i)
def Uj (L:LN):List Nat:=(List.range L.length).filter λj=>(List.range j).all λi=>!cRb L i j
def YB (L:LN)(K:List Nat)(j:Nat):Nat:=K.findIdx λr=>cRb L r j
def YE (n:Nat)(L:LN)(r s:Nat):Bool:=decide (Pw n (L.getD r [])<Pw n (L.getD s [])∨Pw n (L.getD r [])=Pw n (L.getD s [])/\((Xi L r).length<(Xi L s).length∨(Xi L r).length=(Xi L s).length/\r<s))
def JO (n:Nat)(L:LN)(K:List Nat)(z:Int)(r:Nat):Nat:=YB L K (L.idxOf (pw n (L.getD r []) (z%(Pw n (L.getD r []):Nat)).toNat))
def XH (n:Nat)(L:LN)(K:List Nat):Nat:=lQ (K.map λr=>Pw n (L.getD r []))
section
variable {n:Nat} {G:List Nat->Prop} {L:LN} {K:List Nat}
theorem ZL (E:jA G L){y:List Nat}:cj G x y↔(L.any λc=>kE x c==y)=true:=by
 rw[List.any_eq_true];constructor
 ·rintro⟨c,hc,e⟩
  exact⟨c,(E.mem c).2 hc,by simpa using e⟩
 ·rintro⟨c,hc,e⟩
  exact⟨c,(E.mem c).1 hc,by simpa using e⟩
theorem Yh (E:jA G L){i j:Nat}:cR G L i j↔cRb L i j=true:=ZL E
theorem ME (E:jA G L)(i j:Nat)(d:Decidable (cR G L i j)): @decide (cR G L i j) d=cRb L i j:=by
 rw[Bool.eq_iff_iff,decide_eq_true_iff];exact Yh E
theorem Rj (E:jA G L)(i:Nat):fY G L i=Xi L i:=by
 unfold fY Xi;exact List.filter_congr λj _=>ME E i j _
theorem KX (E:jA G L):bY G L L.length=Uj L:=by
 unfold bY Uj;refine List.filter_congr λj _=>?_
 classical
 rw[Bool.eq_iff_iff,decide_eq_true_iff,List.all_eq_true];unfold Ly;constructor
 ·intro h i hi
  have:=h i (Mr.1 hi);rw[Yh E] at this;simpa using this
 ·intro h i hi
  have:=h i (Mr.2 hi);rw[Yh E];simpa using this
theorem US (E:jA G L)(j:Nat):mH G L K j=YB L K j:=by
 unfold mH YB;congr 1;funext r;exact ME E r j _
theorem abQ (hG:sC n G)(E:jA G L): ∀x∈L,bT n x:=λx hx=>hG.dY ((E.mem x).1 hx)
theorem Kc (hG:sC n G)(E:jA G L)(hn:n<=7)(hr:r<L.length):lW (L.getD r []) n=Pw n (L.getD r []):=SW (abQ hG E _ (bD hr)) hn
theorem QA (hG:sC n G)(E:jA G L)(hn:n<=7){s:Nat}(hr:r<L.length)(hs:s<L.length):Re n G L r s↔YE n L r s=true:=by
 unfold Re YE;rw[decide_eq_true_iff,Kc hG E hn hr,Kc hG E hn hs,Rj E,Rj E]
def JW (n:Nat)(L:LN)(K:List Nat):Bool:=K.isPerm (Uj L)&&decide (K.Pairwise λr s=>YE n L r s=true)
theorem JW.isK (hG:sC n G)(E:jA G L)(hn:n<=7)(h:JW n L K=true):Fj n G L K:=by
 unfold JW at h;rw[Bool.and_eq_true,decide_eq_true_iff] at h;have p:K.Perm (Uj L):=List.isPerm_iff.1 h.1
 have hm: ∀r∈K,r<L.length:=λr hr=>by
  have:=p.mem_iff.1 hr;unfold Uj at this;exact Mr.1 (Vo.1 this).1
 exact⟨by rw[KX E];exact p,List.Pairwise.imp_of_mem (λhr hs h=>(QA hG E hn (hm _ hr) (hm _ hs)).2 h) h.2⟩
theorem JW.eq (hG:sC n G)(E:jA G L)(hn:n<=7){K0:List Nat}(h:JW n L K0=true)(k:Fj n G L K):K=K0:=k.uniq (JW.isK hG E hn h)
theorem OP (hG:sC n G)(E:jA G L)(hn:n<=7)(z:Int)(hr:r<L.length):Mi n G L K z r=JO n L K z r:=by
 unfold Mi JO;rw[US E,Kc hG E hn hr]
theorem KK (hG:sC n G)(E:jA G L)(hn:n<=7)(k:Fj n G L K):TQ n L K=XH n L K:=by
 unfold TQ XH;congr 1;exact List.map_congr_left λr hr=>Kc hG E hn (k.lt hr)
end
def abT (n:Nat)(S:LN)(w:List Nat):List Nat:=w.foldl (λx i=>aW x (S.getD i [])) (cH n)
theorem So {n:Nat}{S:LN}: ∀(w:List Nat) (x:List Nat),(∀i∈w,i<S.length)->fG n (· ∈S) x->fG n (· ∈S) (w.foldl (λx i=>aW x (S.getD i [])) x)
 | [],_,_,h=>h
 |i::w,x,hw,h=>So w _ (λj hj=>hw j (by simp [hj])) (h.mul (bD (hw i (by simp))))
def MH (n:Nat)(S L:LN)(ws:LN):Bool:=
 L==ws.map (abT n S)&&ws.all (λw=>w.all λi=>decide (i<S.length))&&decide (L.Pairwise λx y=>sQ x y=true)&&L.all (λx=>x.length==n)&&L.contains (cH n)&&L.all λx=>S.all λg=>L.contains (aW x g)
theorem MH.aaB {n:Nat}{S L:LN}{ws:LN}(h:MH n S L ws=true):jA (fG n (· ∈S)) L:=by
 unfold MH at h;simp only[Bool.and_eq_true,beq_iff_eq,List.all_eq_true,decide_eq_true_iff,List.contains_iff_mem] at h;obtain⟨⟨⟨⟨⟨h1,h2⟩,h3⟩,h4⟩,h5⟩,h6⟩:=h;refine⟨List.Pairwise.imp_of_mem (λhx hy h=>(mP (by rw[h4 _ hx,h4 _ hy])).1 h) h3,λx=>⟨λhx=>?_,λhx=>?_⟩⟩
 ·rw[h1] at hx
  obtain⟨w,hw,rfl⟩:=yH.1 hx;exact So w _ (h2 w hw) .one
 ·induction hx with
  |one=>exact h5
  |mul _ hg ih=>exact h6 _ ih _ hg
def S3:LN:= [[1,0,2], [0,2,1]]
def C4:LN:= [[1,2,3,0]]
def A4:LN:= [[1,2,0,3], [0,2,3,1]]
def L3:LN:= [[0,1,2], [0,2,1], [1,0,2], [1,2,0], [2,0,1], [2,1,0]]
def L4:LN:= [[0,1,2,3], [1,2,3,0], [2,3,0,1], [3,0,1,2]]
theorem Sd:jA (fG 3 (· ∈S3)) L3:=MH.aaB (ws:= [[], [1], [0], [1,0], [0,1], [0,1,0]]) (by decide+kernel)
theorem HX:jA (fG 4 (· ∈C4)) L4:=MH.aaB (ws:= [[], [0], [0,0], [0,0,0]]) (by decide+kernel)
theorem VO:JW 3 L3 [0,1,3]=true:=by decide+kernel
theorem aaN:JW 4 L4 [0,2,1,3]=true:=by decide+kernel
def Vi (n:Nat)(x:List Nat):Bool:=x.length==n&&decide x.Nodup&&x.all λp=>decide (p<n)
theorem Jr {n:Nat}(h:Vi n x=true):bT n x:=by
 unfold Vi at h;simp only[Bool.and_eq_true,beq_iff_eq,List.all_eq_true,decide_eq_true_iff] at h;exact⟨h.1.1,h.1.2,h.2⟩
theorem abG: ∀g∈S3,bT 3 g:=λg hg=>Jr ((List.all_eq_true.1 (show S3.all (Vi 3)=true by decide+kernel)) g hg)
theorem abC: ∀g∈C4,bT 4 g:=λg hg=>Jr ((List.all_eq_true.1 (show C4.all (Vi 4)=true by decide+kernel)) g hg)
theorem abH: ∀g∈A4,bT 4 g:=λg hg=>Jr ((List.all_eq_true.1 (show A4.all (Vi 4)=true by decide+kernel)) g hg)
def aaE (n:Nat)(L:LN)(K:List Nat):List (List Int×Nat×Nat):=K.map λr=>(zi (L.getD r []),Pw n (L.getD r []),(Xi L r).length)
theorem Te {n:Nat}{G:List Nat->Prop}{L:LN}{h:H}(hG:sC n G)(E:jA G L)(hn:n<=7): ∀{ks:List Cls.KE} {K:List Nat},(∀r∈K,r<L.length)->aZ (KR n G L h) ks K->aZ (FO h) ks (aaE n L K)
 | [], [],_,_=>trivial
 | [],_::_,_,h=>h.elim
 |_::_, [],_,h=>h.elim
 |a::ks,r::K,hK,h=>⟨⟨h.1.rep,h.1.ord.trans (Kc hG E hn (hK r (by simp))),h.1.size.trans (by rw[Rj E])⟩,Te hG E hn (λr hr=>hK r (by simp [hr])) h.2⟩
variable {v:V} {h:H}
theorem LW (h:H)(x y z:Int):vH h 1 [aC 0] 3 [(0,1,aC x),(1,1,aC y),(2,1,aC z)]=some (.sl h.next 0 3 (.kn 3),h.new (.cells false (ints [x,y,z]))):=by
 have e:dQ [aC 0] 3= [aC 0,aC 0,aC 0]:=rfl;simp [vH,jZ,e,putAt,V.cells,V.one,ints]
theorem Xc (h:H)(x y z w:Int):vH h 1 [aC 0] 4 [(0,1,aC x),(1,1,aC y),(2,1,aC z),(3,1,aC w)]=some (.sl h.next 0 4 (.kn 4),h.new (.cells false (ints [x,y,z,w]))):=by
 have e:dQ [aC 0] 4= [aC 0,aC 0,aC 0,aC 0]:=rfl;simp [vH,jZ,e,putAt,V.cells,V.one,ints]
theorem MJ (h:H){u:V}(hv:v.cells= [v]/\v.one=true)(hu:u.cells= [u]/\u.one=true):vH h 1 [.aB] 2 [(0,1,v),(1,1,u)]=some (.sl h.next 0 2 (.kn 2),h.new (.cells false [v,u])):=by
 have e:dQ [V.aB] 2= [.aB,.aB]:=rfl;simp [vH,jZ,e,putAt,hv.1,hv.2,hu.1,hu.2]
theorem Ee (id o m:Nat)(c:rM):(V.sl id o m c).cells= [.sl id o m c]/\(V.sl id o m c).one=true:=⟨rfl,rfl⟩
theorem SY {ID:Nat}(hid:h.next=ID)(l:List Int): ∃x,h.new (.cells false (ints l))=x/\x.next=ID+1/\SI x (.sl ID 0 l.length (.kn l.length)) l/\Fr h x:=by
 obtain⟨x,e,n,g,o,f⟩:=eQ hid (ints l);exact⟨x,e,n,SV.all (by rw[aQ,Nat.mul_one]) (by omega) g _,f⟩
theorem SP.two {h':H}{id:Nat}{u:V}{a b:List Nat}(hv:SI h v (zi a))(hu:SI h u (zi b))(hid:id<h'.next)(f:Fr h h')(g:h'.get id=bQ [v,u])(cap:rM):SP h' (.sl id 0 2 cap) [a,b]:=
 ⟨[v,u],SV.all rfl hid g _,hv.mono f,hu.mono f,trivial⟩
theorem SP.abA {h':H}{id:Nat}{a:List Nat}(hv:SI h v (zi a))(hid:id<h'.next)(f:Fr h h')(g:h'.get id=bQ [v])(cap:rM):SP h' (.sl id 0 1 cap) [a]:=
 ⟨[v],SV.all rfl hid g _,hv.mono f,trivial⟩
theorem GC.sl {W:Nat->Prop}{vc:V}{n:Nat}{O:LN}{R:kW}{G:List Nat->Prop}(g:GC W h vc n O R G): ∃vO vR,vc= .agg [aC n,vO,vR]/\vO.one=true/\vR.one=true/\dW vO vO=true/\dW vR vR=true:=by
 obtain⟨vO,vR,wsO,wsR,e,t1,_,_,t2,_,_⟩:=g.cw;exact⟨vO,vR,e,t1.cJ.2.1,t2.cJ.2.1,t1.dW,t2.dW⟩
theorem DN (h:H):Ev T 33 [] h (λv h'=> ∃c1 c2 c3 O1 R1 O2 R2 O3 R3,v= .tup [c1,c2,c3]/\GC (λid=>id<h.next) h' c1 3 O1 R1 (fG 3 (· ∈S3))/\GC (λid=>id<h.next) h' c2 4 O2 R2 (fG 4 (· ∈C4))/\GC (λid=>id<h.next) h' c3 4 O3 R3 (fG 4 (· ∈A4))/\Fr h h'):=by
 refine bH sW rfl rfl ?_;obtain⟨B,hB⟩:=exI h.next;obtain⟨h1,e1,n1,g1,o1,f1⟩:=eQ hB [aC 0,.aB,.aB];obtain⟨h2,e2,n2,g2,o2,f2⟩:=eQ n1 [aC 0,.aB,.aB];obtain⟨h3,e3,n3,g3,o3,f3⟩:=eQ n2 [aC 0,.aB,.aB];obtain⟨h4,e4,n4,s4,f4⟩:=SY n3 [1,0,2];obtain⟨h5,e5,n5,s5,f5⟩:=SY n4 [0,2,1];obtain⟨h6,e6,n6,g6,o6,f6⟩:=eQ n5 [.sl (B+1+1+1) 0 3 (.kn 3),.sl (B+1+1+1+1) 0 3 (.kn 3)];have F03:=(f1.trans f2).trans f3;have F36:=(f4.trans f5).trans f6;have sp6:SP h6 (.sl (B+1+1+1+1+1) 0 2 (.kn 2)) S3:=SP.two (a:= [1,0,2]) (b:= [0,2,1]) (h:=h5) (s4.mono f5) s5 (by omega) f6 g6 _;simp(disch:=omega)only[go_sem,sW,aE,hB,e1,n1,e2,n2,e3,n3,LW,e4,n4,e5,n5,MJ _ (Ee ..) (Ee ..),e6];refine (vW _ 3 S3 h6 (by omega) (by omega) (by decide) sp6 abG).mono ?_;rintro _ h7 ⟨c1,O1,R1,rfl,gc1,f7⟩;have x1:=gc1.sl;obtain⟨u1,w1,rfl,a1,b1,ea1,eb1⟩:=x1;have n7:=f7.next;have g7:h7.get B=bQ [aC 0,.aB,.aB]:=by rw[f7.get B (by omega),F36.get B (by omega),o3 B (by omega),o2 B (by omega)];exact g1
 obtain⟨h8,e8,n8,g8,o8⟩:=uA h7 B [aC (3:Nat),u1,w1];obtain⟨Q,hQ⟩:=exI h7.next;rw[hQ] at n8;obtain⟨h9,e9,n9,s9,f9⟩:=SY n8 [1,2,3,0];obtain⟨h10,e10,n10,g10,o10,f10⟩:=eQ n9 [.sl Q 0 4 (.kn 4)];have F810:=f9.trans f10;have sp10:SP h10 (.sl (Q+1) 0 1 (.kn 1)) C4:=SP.abA (a:= [1,2,3,0]) (h:=h9) s9 (by omega) f10 g10 _;have st1:=cU h7 B 0 (v:= aC (3:Nat)) (u:=u1) (w:=w1) rfl a1 b1;simp(disch:=omega)only[go_sem,st1,g7,cE,e8,n8,Xc,e9,n9,cT _ (z:= .aB) (v:= .sl Q 0 4 (.kn 4)) rfl rfl,e10];have F03n:=F03.next
 have W3: ∀{a c:H},a.next<=c.next->(∀id,B+3<=id->id<a.next->c.get id=a.get id)->Fx (λid=>id<B+3) a c:=λhn hg=>⟨hn,λid h1 h2=>hg id (by omega) h1⟩
 have gcA:GC (λid=>id<B+3) h8 _ 3 O1 R1 _:=gc1.go (⟨by omega,λid h1 h2=>o8 id (by omega)⟩:Fx (λid=>id<h6.next) h7 h8) (λid h1 h2=>by omega);refine (vW _ 4 C4 h10 (by omega) (by omega) (by decide) sp10 abC).mono ?_;rintro _ h11 ⟨c2,O2,R2,rfl,gc2,f11⟩;have x2:=gc2.sl;obtain⟨u2,w2,rfl,a2,b2,ea2,eb2⟩:=x2;have n11:=f11.next;have F811:=F810.trans f11;have g23:h3.get (B+1)=bQ [aC 0,.aB,.aB]:=by rw[o3 _ (by omega)];exact g2
 have g711: ∀id,id<B+3->id≠B->h11.get id=h3.get id:=λid hid hne=>by rw[F811.get id (by omega),o8 id hne,f7.get id (by omega),F36.get id (by omega)]
 obtain⟨h12,e12,n12,g12,o12⟩:=uA h11 (B+1) [aC (4:Nat),u2,w2];obtain⟨P,hP⟩:=exI h11.next;rw[hP] at n12;have gcB:GC (λid=>id<B+3) h12 _ 4 O2 R2 _:=gc2.go (⟨by omega,λid h1 h2=>o12 id (by omega)⟩:Fx (λid=>id<h10.next) h11 h12) (λid h1 h2=>by omega);obtain⟨h13,e13,n13,s13,f13⟩:=SY n12 [1,2,0,3];obtain⟨h14,e14,n14,s14,f14⟩:=SY n13 [0,2,3,1];obtain⟨h15,e15,n15,g15,o15,f15⟩:=eQ n14 [.sl P 0 4 (.kn 4),.sl (P+1) 0 4 (.kn 4)];have F1215:=(f13.trans f14).trans f15;have sp15:SP h15 (.sl (P+1+1) 0 2 (.kn 2)) A4:=SP.two (a:= [1,2,0,3]) (b:= [0,2,3,1]) (h:=h14) (s13.mono f14) s14 (by omega) f15 g15 _;have st2:=cU h11 (B+1) 0 (v:= aC (4:Nat)) (u:=u2) (w:=w2) rfl a2 b2;have g11b:h11.get (B+1)=bQ [aC 0,.aB,.aB]:=by rw[g711 _ (by omega) (by omega)];exact g23
 simp(disch:=omega)only[go_sem,st2,g11b,cE,e12,n12,Xc,e13,n13,e14,n14,MJ _ (Ee ..) (Ee ..),e15];refine (vW _ 4 A4 h15 (by omega) (by omega) (by decide) sp15 abH).mono ?_;rintro _ h16 ⟨c3,O3,R3,rfl,gc3,f16⟩;have x3:=gc3.sl;obtain⟨u3,w3,rfl,a3,b3,ea3,eb3⟩:=x3;have n16:=f16.next;have F1216:=F1215.trans f16;obtain⟨h17,e17,n17,g17,o17⟩:=uA h16 (B+1+1) [aC (4:Nat),u3,w3];have gcC:GC (λid=>id<B+3) h17 _ 4 O3 R3 _:=gc3.go (⟨by omega,λid h1 h2=>o17 id (by omega)⟩:Fx (λid=>id<h15.next) h16 h17) (λid h1 h2=>by omega);have st3:=cU h16 (B+1+1) 0 (v:= aC (4:Nat)) (u:=u3) (w:=w3) rfl a3 b3;have g16c:h16.get (B+1+1)=bQ [aC 0,.aB,.aB]:=by rw[F1216.get _ (by omega),o12 _ (by omega),g711 _ (by omega) (by omega)];exact g3
 have gA:h17.get B=bQ [aC (3:Nat),u1,w1]:=by rw[o17 B (by omega),F1216.get B (by omega),o12 B (by omega),F811.get B (by omega)];exact g8
 have gB:h17.get (B+1)=bQ [aC (4:Nat),u2,w2]:=by rw[o17 _ (by omega),F1216.get _ (by omega)];exact g12
 obtain⟨hb,ehb,nhb⟩: ∃hb:H,H.mk h17.tr (h17.next+6)=hb/\hb.next=h17.next+6:=⟨_,rfl,rfl⟩
 have fb:Fr h17 hb:=by rw[←ehb];exact (Fr.refl h17).bF (by omega)
 obtain⟨h18,e18,n18,g18,o18⟩:=uA hb B [aC (3:Nat),u1,w1];obtain⟨h19,e19,n19,g19,o19⟩:=uA h18 (B+1) [aC (4:Nat),u2,w2];obtain⟨h20,e20,n20,g20,o20⟩:=uA h19 (B+1+1) [aC (4:Nat),u3,w3];have bA:hb.get B=bQ [aC (3:Nat),u1,w1]:=by rw[fb.get _ (by omega)];exact gA
 have bB:hb.get (B+1)=bQ [aC (4:Nat),u2,w2]:=by rw[fb.get _ (by omega)];exact gB
 have bC:hb.get (B+1+1)=bQ [aC (4:Nat),u3,w3]:=by rw[fb.get _ (by omega)];exact g17
 have k18B:h18.get (B+1)=bQ [aC (4:Nat),u2,w2]:=by rw[o18 _ (by omega)];exact bB
 have k18C:h18.get (B+1+1)=bQ [aC (4:Nat),u3,w3]:=by rw[o18 _ (by omega)];exact bC
 have k19C:h19.get (B+1+1)=bQ [aC (4:Nat),u3,w3]:=by rw[o19 _ (by omega)];exact k18C
 have k20A:h20.get B=bQ [aC (3:Nat),u1,w1]:=by rw[o20 _ (by omega),o19 _ (by omega)];exact g18
 have k20B:h20.get (B+1)=bQ [aC (4:Nat),u2,w2]:=by rw[o20 _ (by omega)];exact g19
 simp(disch:=omega)only[go_sem,st3,g16c,cE,e17,aJ gA,aJ gB,aJ g17];rw[ehb];have t1:=cU hb B 0 (v:= aC (3:Nat)) (u:=u1) (w:=w1) rfl a1 b1;have t2:=cU h18 (B+1) 0 (v:= aC (4:Nat)) (u:=u2) (w:=w2) rfl a2 b2;have t3:=cU h19 (B+1+1) 0 (v:= aC (4:Nat)) (u:=u3) (w:=w3) rfl a3 b3;have q1:dW (.agg [aC (3:Nat),u1,w1]) (.agg [aC (3:Nat),u1,w1])=true:=by simp [dW,sY,ea1,eb1]
 have q2:dW (.agg [aC (4:Nat),u2,w2]) (.agg [aC (4:Nat),u2,w2])=true:=by simp [dW,sY,ea2,eb2]
 have q3:dW (.agg [aC (4:Nat),u3,w3]) (.agg [aC (4:Nat),u3,w3])=true:=by simp [dW,sY,ea3,eb3]
 simp(disch:=omega)only[go_sem,t1,bA,cE,e18,aJ k18B,aJ k18C,t2,k18B,e19,aJ k19C,t3,k19C,e20,q1,q2,q3,aJ k20A,aJ k20B,aJ g20]
 have X1:Fx (λid=>id<B+3) h8 h17:=⟨by omega,λid h1 h2=>by rw[o17 id (by omega),F1216.get id (by omega),o12 id (by omega),F811.get id (by omega)]⟩
 have X2:Fx (λid=>id<B+3) h12 h17:=⟨by omega,λid h1 h2=>by rw[o17 id (by omega),F1216.get id (by omega)]⟩
 have X3:Fx (λid=>id<B+3) h17 h20:=⟨by omega,λid h1 h2=>by rw[o20 id (by omega),o19 id (by omega),o18 id (by omega),fb.get id (by omega)]⟩
 have low: ∀{v n O R G},GC (λid=>id<B+3) h17 v n O R G->GC (λid=>id<B) h20 v n O R G:=λg=>g.go X3 (λid _ hid=>by omega)
 refine⟨_,_,_,O1,R1,O2,R2,O3,R3,rfl,low (gcA.go X1 (λid _ h=>h)),low (gcB.go X2 (λid _ h=>h)),low gcC,⟨by omega,λid hid=>?_⟩⟩;rw[o20 id (by omega),o19 id (by omega),o18 id (by omega),fb.get id (by omega),o17 id (by omega),F1216.get id (by omega),o12 id (by omega),g711 id (by omega) (by omega),F03.get id hid]
theorem GC.el {W:Nat->Prop}{h:H}{vc:V}{n:Nat}{O:LN}{R:kW}{G:List Nat->Prop}{L:LN}(g:GC W h vc n O R G)(E:jA G L):cG O R n 0 (cH n)=L:=(eE g.kP g.isc).1.uniq E
theorem SG {n:Nat}{G:List Nat->Prop}{L:LN}{K:List Nat}(hG:sC n G)(E:jA G L)(hn:n<=7)(k:Fj n G L K)(z:Int):(rc K.length λi=>aC (Mi n G L K z (K.getD i 0):Nat))=ints (zi (K.map (JO n L K z))):=by
 have e:=Oe (K.map (JO n L K z));rw[jD] at e;rw[←e];refine bN λi hi=>?_
 rw[OP hG E hn z (k.lt (bD hi))];congr 2;rw[List.getD,List.getD,List.getElem?_map,fS hi];rfl
theorem Tf {v:V}{h:H}{l:List Int}(s:SI h v l):v.cells= [v]/\v.one=true:=⟨(SV.cJ s).1,(SV.cJ s).2.1⟩
theorem YO (h:H)(A B C m:Nat)(x y z u v w:Int):vH h 3 [.aB,aC 0,aC 0] 3 [(0,3,.agg [.sl A 0 m (.kn m),aC x,aC y]),(3,3,.agg [.sl B 0 m (.kn m),aC z,aC u]),(6,3,.agg [.sl C 0 m (.kn m),aC v,aC w])]=some (.sl h.next 0 3 (.kn 3),h.new (.cells false [.sl A 0 m (.kn m),aC x,aC y,.sl B 0 m (.kn m),aC z,aC u,.sl C 0 m (.kn m),aC v,aC w])):=by
 have e:dQ [V.aB,aC 0,aC 0] 9= [.aB,aC 0,aC 0,.aB,aC 0,aC 0,.aB,aC 0,aC 0]:=rfl;simp [vH,jZ,e,putAt,V.cells,V.one]
theorem dT {i:Decidable True}: @decide True i=true:=decide_eq_true trivial
def Ov (rep:V)(h:H)(l:List Int)(s:SI h rep l)(o z:Nat):Cls.KE:=⟨rep,o,z,.aB,0,⟨(SV.cJ s).1,(SV.cJ s).2.1,SV.dW s⟩,⟨rfl,rfl,rfl⟩⟩
theorem La (h:H):Ev T 11 [] h (λv h'=>v= .bool true/\Fr h h'):=by
 refine bH uV rfl rfl ?_;simp(disch:=omega)only[go_sem,uV,aE];refine (DN h).mono ?_;rintro _ h1 ⟨c1,c2,c3,O1,R1,O2,R2,O3,R3,rfl,gA,gB,gC,f1⟩;have L1:=gA.el Sd;have L2:=gB.el HX;obtain⟨u1,w1,rfl,a1,b1,_,_⟩:=gA.sl;obtain⟨u2,w2,rfl,a2,b2,_,_⟩:=gB.sl;obtain⟨u3,w3,rfl,a3,b3,_,_⟩:=gC.sl;obtain⟨B,hB⟩:=exI h1.next;obtain⟨h2,e2,n2,g2,o2,f2⟩:=eQ hB [aC 0,.aB,.aB];obtain⟨h3,e3,n3,g3,o3,f3⟩:=eQ n2 [aC 0,.aB,.aB];obtain⟨h4,e4,n4,g4,o4,f4⟩:=eQ n3 [aC 0,.aB,.aB];obtain⟨h5,e5,n5,g5,o5⟩:=uA h4 B [aC (3:Nat),u1,w1];obtain⟨h6,e6,n6,g6,o6⟩:=uA h5 (B+1) [aC (4:Nat),u2,w2];obtain⟨h7,e7,n7,g7,o7⟩:=uA h6 (B+1+1) [aC (4:Nat),u3,w3];have q4:h4.get B=some (.cells false [aC 0,.aB,.aB]):=by rw[o4 _ (by omega),o3 _ (by omega)];exact g2
 have q5:h5.get (B+1)=some (.cells false [aC 0,.aB,.aB]):=by rw[o5 _ (by omega),o4 _ (by omega)];exact g3
 have q6:h6.get (B+1+1)=some (.cells false [aC 0,.aB,.aB]):=by rw[o6 _ (by omega),o5 _ (by omega)];exact g4
 have F17:Fr h1 h7:=⟨by omega,λid hid=>by rw[o7 id (by omega),o6 id (by omega),o5 id (by omega),o4 id (by omega),o3 id (by omega),o2 id (by omega)]⟩
 have r1:h7.get B=some (.cells false [aC (3:Nat),u1,w1]):=by rw[o7 _ (by omega),o6 _ (by omega)];exact g5
 have r2:h7.get (B+1)=some (.cells false [aC (4:Nat),u2,w2]):=by rw[o7 _ (by omega)];exact g6
 simp(disch:=omega)only[go_sem,hB,e2,n2,e3,n3,e4,cU h4 B 0 (v:= aC (3:Nat)) (u:=u1) (w:=w1) rfl a1 b1,q4,cE,e5,
  cU h5 (B+1) 0 (v:= aC (4:Nat)) (u:=u2) (w:=w2) rfl a2 b2,q5,e6,
  cU h6 (B+1+1) 0 (v:= aC (4:Nat)) (u:=u3) (w:=w3) rfl a3 b3,q6,e7,aJ r1]
 refine (JU _ 3 O1 R1 _ h7 (gA.mono F17) L3 L1).mono ?_;rintro _ h8 ⟨vl,K,ks,rfl,ik,sl8,al8,f8⟩;obtain rfl:=JW.eq gA.kP Sd (by omega) VO ik;have x2:h8.get (B+1)=some (.cells false [aC (4:Nat),u2,w2]):=by rw[f8.get _ (by omega)];exact r2
 simp(disch:=omega)only[go_sem,aJ x2];refine (UP _ 3 4 O2 R2 _ h8 (gB.mono (F17.trans f8)) L4 (by omega) L2).mono ?_;rintro _ h9 ⟨K,vp,ik2,rfl,sp9,f9⟩;obtain rfl:=JW.eq gB.kP HX (by omega) aaN ik2;rw[SG gB.kP HX (by omega) ik2,show ([0,2,1,3]:List Nat).map (JO 4 L4 [0,2,1,3] 3)= [0,1,3,2] by decide+kernel] at sp9;have f79:=f8.trans f9;have x1:h9.get B=some (.cells false [aC (3:Nat),u1,w1]):=by rw[f79.get _ (by omega)];exact r1
 simp(disch:=omega)only[go_sem,aJ x1];refine (QE _ 3 O1 R1 _ h9 (gA.mono (F17.trans f79)) L3 L1).mono ?_;rintro _ h10 ⟨K,ik3,rfl,f10⟩;obtain rfl:=JW.eq gA.kP Sd (by omega) VO ik3;rw[KK gA.kP Sd (by omega) ik3,show XH 3 L3 [0,1,3]=6 by decide+kernel];obtain⟨Q,hQ⟩:=exI h10.next;obtain⟨h11,e11,n11,s11,f11⟩:=SY hQ [0,1,2];obtain⟨h12,e12,n12,s12,f12⟩:=SY n11 [0,2,1];obtain⟨h13,e13,n13,s13,f13⟩:=SY n12 [1,2,0];obtain⟨h14,e14,n14,g14,o14,f14⟩:=eQ n13 [.sl Q 0 3 (.kn 3),aC 1,aC 1,.sl (Q+1) 0 3 (.kn 3),aC 2,aC 3,.sl (Q+1+1) 0 3 (.kn 3),aC 3,aC 2];simp(disch:=omega)only[go_sem,dT,hQ,LW,e11,n11,e12,n12,e13,n13,Am (v:= .sl Q 0 3 (.kn 3)) rfl rfl,Am (v:= .sl (Q+1) 0 3 (.kn 3)) rfl rfl,Am (v:= .sl (Q+1+1) 0 3 (.kn 3)) rfl rfl,YO,e14]
 have F814:=((((((f9.trans f10).trans f11).trans f12).trans f13).trans f14))
 have F914:=f10.trans (((f11.trans f12).trans f13).trans f14);have z11:SI h14 (.sl Q 0 3 (.kn 3)) [0,1,2]:=s11.mono ((f12.trans f13).trans f14);have z12:SI h14 (.sl (Q+1) 0 3 (.kn 3)) [0,2,1]:=s12.mono (f13.trans f14);have z13:SI h14 (.sl (Q+1+1) 0 3 (.kn 3)) [1,2,0]:=s13.mono f14
 have see:aZ (FO h14) [Ov _ _ _ z11 1 1,Ov _ _ _ z12 2 3,Ov _ _ _ z13 3 2] [([0,1,2],1,1),([0,2,1],2,3),([1,2,0],3,2)]:=⟨⟨z11,rfl,rfl⟩,⟨z12,rfl,rfl⟩,⟨z13,rfl,rfl⟩,trivial⟩
 have sl14:SV h14 (.sl (Q+1+1+1) 0 3 (.kn 3)) 3 (eV [Ov _ _ _ z11 1 1,Ov _ _ _ z12 2 3,Ov _ _ _ z13 3 2]):=SV.all rfl (by omega) g14 _;have see8:=Te gA.kP Sd (by omega) (λr hr=>ik.lt hr) (al8.mono λ_ _ x=>x.mono F814);have hks:=aZ.length al8;refine (Lp vl _ ks _ _ _ h14 (sl8.mono F814) sl14 see8 see (by rw[hks];decide) (show 3<1000000 by decide) (by decide) (by decide)).mono ?_;rw[show decide (aaE 3 L3 [0,1,3]= [([0,1,2],1,1),([0,2,1],2,3),([1,2,0],3,2)])=true by decide+kernel];rintro _ h15 ⟨rfl,f15⟩;obtain⟨P,hP⟩:=exI h15.next;obtain⟨h16,e16,n16,s16,f16⟩:=SY hP [0,1,3,2];simp(disch:=omega)only[go_sem,dT,hP,Xc,e16];refine (Ad vp _ _ _ h16 (SI.mono (show SI h9 vp (zi [0,1,3,2]) from sp9) (F914.trans (f15.trans f16))) s16 (by decide) (by decide)).mono ?_;rw[show decide (zi [0,1,3,2]= [0,1,3,2])=true by decide+kernel];rintro _ h17 ⟨rfl,f17⟩;have e6:decide (((6:Nat):Int)=6)=true:=rfl;simp(disch:=omega)only[go_sem,dT,e6];exact (((f1.trans F17).trans f8).trans F814).trans ((f15.trans f16).trans f17)
def SB (h:H)(v:V)(l:List Bool):Prop:=SV h v 1 (l.map V.bool)
theorem SB.mono {h h':H}{v:V}{l:List Bool}(s:SB h v l)(f:Fr h h'):SB h' v l:=SV.mono s f
theorem SB.open {h:H}{v:V}{l:List Bool}(s:SB h v l):cY v=some (aC (l.length:Int))/\ ∃id off,Sl v 1 l.length id off/\ ∀i,i<l.length->id<h.next/\h.cell id (off+i)=some (.bool (l.getD i false)):=by
 have hl:(l.map V.bool).length=l.length:=jD ..;refine⟨by unfold cY;rw[SV.len s (n:=l.length) (by omega) (by omega)];rfl,?_⟩;obtain⟨id,off,sh,hid,hc⟩:=SV.shape s l.length (by omega) (by omega);exact⟨id,off,sh,λi hi=>⟨hid (by omega),by rw[hc i (by omega),List.getElem?_map,List.getD,fS hi];rfl⟩⟩
set_option maxRecDepth 100000
theorem GC.all {W:Nat->Prop}{h:H}{vc:V}{n:Nat}{O:LN}{R:kW}{G:List Nat->Prop}(g:GC W h vc n O R G):jA G (cG O R n 0 (cH n))/\(cG O R n 0 (cH n)).length<=5040:=by
 have e:=eE g.kP g.isc;exact⟨e.1,by rw[e.2];exact kU g⟩
section
variable {n:Nat} {G H:List Nat->Prop} {L M:LN} {K K':List Nat} {x:List Nat}
variable (hG:sC n G) (E:jA G L) (k:Fj n G L K) (hH:sC n H) (F:jA H M) (k':Fj n H M K') (X:bT n x) (hx: ∀y,H y↔ ∃g,G g/\kE g x=y)
include hG E k hH F k' X hx
end
def kQ (v:V)(id:Nat):Prop:= ∃off m c,v= .sl id off m c
theorem fF.sp' {W:Nat->Prop}{h:H}{v:V}{ws:List V}{l:LN}(sv:SV h v 1 ws)(p:fF W h ws l):SP h v l:=by
 refine⟨ws,sv,?_⟩;have hl:=aZ.length p
 exact aZ.lJ (by simpa using hl) λi hi hj=>by
  have:=(aZ.get p i hi (by omega)).si;simpa using this
variable {h:H} {v:V} {ws:List V} {b k n:Nat} {A S Q:LN} {y x:List Nat}
def CM (h:H)(v:V)(ws:List V)(b:Nat):Prop:= ∃id cap rest,v= .sl id 0 ws.length cap/\b<=id/\id<h.next/\h.get id=bQ (ws++rest)/\(cap= .un 1∨cap= .kn 1/\ws.length+rest.length=1)
theorem CM.sv (t:CM h v ws b):SV h v 1 ws:=by
 obtain⟨id,cap,rest,rfl,h1,h2,h3,_⟩:=t;exact .inr ⟨id,0,_,cap,false,_,rfl,(Nat.mul_one _).symm,h2,h3,by rw[oL];omega,by rw[List.drop_zero,Nat.mul_one,List.take_left' rfl]⟩
theorem CM.pG {h':H}(t:CM h v ws b)(hn:h.next<=h'.next)(hg: ∀id,kQ v id->h'.get id=h.get id):CM h' v ws b:=by
 obtain⟨id,cap,rest,e,h1,h2,h3,h4⟩:=t;exact⟨id,cap,rest,e,h1,by omega,by rw[hg id ⟨_,_,_,e⟩];exact h3,h4⟩
theorem CM.in (t:CM h v ws b){id:Nat}(hb:kQ v id):b<=id/\id<h.next:=by
 obtain⟨i,cap,rest,rfl,h1,h2,_⟩:=t;obtain⟨_,_,_,e⟩:=hb;cases e;exact⟨h1,h2⟩
theorem CM.push {y:V}{S:Nat}{c:rM}(t:CM h v ws b)(hS:SV h (.sl S 0 1 c) 1 [y])(hb:b<=h.next)(hw:ws.length<1000000):
  ∃v' h',yF h 1 24 v (.sl S 0 1 c)=some (v',h')/\CM h' v' (ws++ [y]) b/\(∀k,k<h.next-> ¬kQ v k->h'.get k=h.get k)/\h.next<=h'.next/\h'.next<=h.next+1/\ ∀k,kQ v' k->kQ v k∨k=h.next:=by
 have e1:yF h 1 24 v (.sl S 0 1 c)=Ay.xA h 1 24 v 1 [y]:=by
  simp only[yF,hS.len (n:=1) rfl (by omega),hS.slice]
 rw[e1]
 have hx:=t.sv
 have hlen:=hx.len (n:=ws.length) (by omega) (by omega)
 have hsl:=hx.slice
 obtain⟨id,cap,rest,rfl,h1,h2,h3,h4⟩:=t
 unfold Ay.xA
 simp only[hlen,hsl]
 rw[if_neg (by omega),if_pos ⟨by omega,by omega⟩]
 have key: ∀g:H,g.next=h.next->(∀k,k<h.next->k≠id->g.get k=h.get k)-> ∃v' h',some (V.sl h.next 0 (ws.length+1) (.un 1),g.new (.cells false (ws++ [y])))=some (v',h')/\CM h' v' (ws++ [y]) b/\(∀k,k<h.next-> ¬kQ (.sl id 0 ws.length cap) k->h'.get k=h.get k)/\h.next<=h'.next/\h'.next<=h.next+1/\ ∀k,kQ v' k->kQ (.sl id 0 ws.length cap) k∨k=h.next:=by
  intro g gn gg;refine⟨_,_,rfl,⟨h.next,_, [],by rw[oL];rfl,hb,by rw[H.aV];omega,by rw[←gn,H.aN,List.append_nil],.inl rfl⟩,λk hk ha=>?_,by rw[H.aV];omega,by rw[H.aV];omega,λk ⟨_,_,_,e⟩=>by cases e;exact .inr rfl⟩;rw[H.bI g (by omega)];exact gg k hk (λe=>ha ⟨_,_,_,by rw[e]⟩)
 rcases h4 with rfl|⟨rfl,h5⟩
 ·simp only[h3,if_true]
  exact key (h.set id none) rfl (λk _ hk=>H.aG h hk none)
 ·simp only
  by_cases e:ws.length+1<=1
  ·rw[if_pos e]
   have e0:ws= []:=List.eq_nil_of_length_eq_zero (by omega)
   subst e0
   obtain⟨z,rfl⟩: ∃z,rest= [z]:=List.length_eq_one_iff.1 (by simpa using h5)
   have hp:h.put id (0+([]:List V).length*1) [y]=some (h.set id (bQ [y])):=by
    simp [H.put,h3,putAt]
   rw[hp]
   refine⟨_,_,rfl,⟨id,_, [],rfl,h1,h2,by rw[H.aT];rfl,.inr ⟨rfl,rfl⟩⟩,λk hk ha=>H.aG h (λe=>ha ⟨0,0,.kn 1,by rw[e];rfl⟩) _,fZ _,Nat.le_succ _,λk ⟨_,_,_,e⟩=>by cases e;exact .inl ⟨_,_,_,rfl⟩⟩
  ·rw[if_neg e]
   exact key h rfl (λ_ _ _=>rfl)
def Zi (A:LN)(k:Nat)(y:List Nat):LN:=A.take k++y::A.drop k
theorem oZ {z:List Nat}:z∈Zi A k y↔z=y∨z∈A:=by
 unfold Zi;rw[Af,List.mem_cons];constructor
 ·rintro (h|h|h)
  ·exact .inr (List.mem_of_mem_take h)
  ·exact .inl h
  ·exact .inr (List.mem_of_mem_drop h)
 ·rintro (h|h)
  ·exact .inr (.inl h)
  ·rw[←List.take_append_drop k A,Af] at h
   rcases h with h|h
   ·exact .inl h
   ·exact .inr (.inr h)
theorem OS {a b:List Nat}(A:bT n a)(B:bT n b)(h1: ¬Lt a b)(h2:a≠b):Lt b a:=by
 have h: ∃i,i<n/\a.getD i 0≠b.getD i 0:=Ic λh=>h2 (uX (by rw[A.len,B.len]) λi hi=>Ic λh3=>h ⟨i,by rw[←A.len];exact hi,h3⟩)
 obtain⟨i,hi,hne⟩:=h
 have hw: ∃i,(i<n/\a.getD i 0≠b.getD i 0)/\ ∀j,j<i-> ¬(j<n/\a.getD j 0≠b.getD j 0):=by
  revert hi hne
  induction i using Nat.strongRecOn with
  |ind i ih=>
   intro hi hne
   by_cases h: ∃j,j<i/\j<n/\a.getD j 0≠b.getD j 0
   ·obtain⟨j,h3,h4,h5⟩:=h
    exact ih j h3 h4 h5
   ·exact⟨i,⟨hi,hne⟩,λj hj hjn=>h ⟨j,hj,hjn⟩⟩
 obtain⟨k,⟨hk,hk2⟩,hmin⟩:=hw;have he: ∀j,j<k->a.getD j 0=b.getD j 0:=λj hj=>Ic λh3=>hmin j hj ⟨by omega,h3⟩
 rcases Nat.lt_or_gt_of_ne hk2 with h4|h4
 ·exact (h1 ⟨k,by rw[A.len];exact hk,he,h4⟩).elim
 ·exact⟨k,by rw[B.len];exact hk,λj hj=>(he j hj).symm,h4⟩
theorem MA (hP: ∀x∈A,bT n x)(Y:bT n y)(asc:A.Pairwise Lt)(p:Plc A y k)(hy:y∉A):(Zi A k y).Pairwise Lt:=by
 unfold Zi;rw[List.pairwise_append];have at': ∀{z:List Nat},z∈A.take k-> ∃i,i<k/\i<A.length/\A.getD i []=z:=λh=>(Lg (d:= [])).1 h
 have bt: ∀{z:List Nat},z∈A.drop k-> ∃i,k<=i/\i<A.length/\A.getD i []=z:=λh=>by
  obtain⟨q,hq,e⟩:=Dt.1 h;rw[List.length_drop] at hq;rw[List.getElem_drop] at e;exact⟨k+q,by omega,by omega,by rw[List.getD,fS (by omega),←e];rfl⟩
 have lo: ∀z∈A.take k,Lt z y:=λz hz=>by
  obtain⟨i,h1,h2,rfl⟩:=at' hz;exact (mP (by rw[(hP _ (bD h2)).len,Y.len])).1 (p.lo i h1)
 have hi: ∀z∈A.drop k,Lt y z:=λz hz=>by
  obtain⟨i,h1,h2,rfl⟩:=bt hz;have Z:=hP _ (bD (d:= []) h2);refine OS Z Y (λh=>?_) (λe=>hy (by rw[←e];exact bD h2));have:=p.hi i h1 h2;rw[(mP (by rw[Z.len,Y.len])).2 h] at this;cases this
 refine⟨asc.sublist (List.take_sublist k A),List.pairwise_cons.2 ⟨hi,asc.sublist (List.drop_sublist k A)⟩,λz hz w hw=>?_⟩;rcases List.mem_cons.1 hw with rfl|hw
 ·exact lo z hz
 ·have Z:=hP z (List.mem_of_mem_take hz)
  exact Lt.trans (by rw[Z.len,Y.len]) (lo z hz) (hi w hw)
structure ZR (n:Nat)(S A Q:LN):Prop where
 asc:A.Pairwise Lt
 gen: ∀x∈A,fG n (· ∈S) x
 one:cH n∈A
 sub: ∀x∈Q,x∈A
 cl: ∀x∈A,x∉Q-> ∀g∈S,aW x g∈A
theorem ZR.start (n:Nat)(S:LN):ZR n S [cH n] [cH n]:=
 ⟨List.pairwise_singleton _ _,λx hx=>by simp at hx;subst hx;exact .one,by simp,λx hx=>hx,λx hx h=>absurd hx h⟩
theorem ZR.done (j:ZR n S A []):jA (fG n (· ∈S)) A:=by
 refine⟨j.asc,λx=>⟨j.gen x,λh=>?_⟩⟩
 induction h with
 |one=>exact j.one
 |mul _ hg ih=>exact j.cl _ ih List.not_mem_nil _ hg
structure PW (n:Nat)(S:LN)(x:List Nat)(i:Nat)(A Q:LN):Prop where
 asc:A.Pairwise Lt
 gen: ∀x∈A,fG n (· ∈S) x
 one:cH n∈A
 sub: ∀x∈Q,x∈A
 mem:x∈A
 cl: ∀z∈A,z∉Q->z=x∨ ∀g∈S,aW z g∈A
 dn: ∀j,j<i->aW x (S.getD j [])∈A
theorem PW.start (j:ZR n S A (Q++ [x])):PW n S x 0 A Q:=
 ⟨j.asc,j.gen,j.one,λz hz=>j.sub z (by simp [hz]),j.sub x (by simp),λz hz hq=>by
  by_cases e:z=x
  ·exact .inl e
  ·exact .inr (j.cl z hz (by simp [hq,e])),λj hj=>by omega⟩
theorem PW.done (j:PW n S x S.length A Q):ZR n S A Q:=
 ⟨j.asc,j.gen,j.one,j.sub,λz hz hq g hg=>by
  rcases j.cl z hz hq with rfl|h
  ·obtain⟨i,hi,e⟩:=Dt.1 hg
   have:=j.dn i hi;rwa [List.getD,fS hi,Option.getD_some,e] at this
  ·exact h g hg⟩
theorem PW.skip {i:Nat}(j:PW n S x i A Q)(h:aW x (S.getD i [])∈A):PW n S x (i+1) A Q:=
 ⟨j.asc,j.gen,j.one,j.sub,j.mem,j.cl,λk hk=>by
  by_cases e:k=i
  ·rw[e];exact h
  ·exact j.dn k (by omega)⟩
theorem PW.step {i:Nat}(j:PW n S x i A Q)(hS: ∀g∈S,bT n g)(hi:i<S.length)(h:aW x (S.getD i [])∉A)(p:Plc A (aW x (S.getD i [])) k):PW n S x (i+1) (Zi A k (aW x (S.getD i []))) (Q++ [aW x (S.getD i [])]):=by
 have gx:=j.gen x j.mem;have gy:fG n (· ∈S) (aW x (S.getD i [])):=gx.mul (bD hi);obtain⟨y,hy⟩:=exI (aW x (S.getD i []));rw[hy] at gy h p ⊢;refine⟨MA (λz hz=>(j.gen z hz).dY hS) (gy.dY hS) j.asc p h,λz hz=>?_,oZ.2 (.inr j.one),λz hz=>?_,oZ.2 (.inr j.mem),λz hz hq=>?_,λq hq=>?_⟩
 ·rcases oZ.1 hz with rfl|hz
  ·exact gy
  ·exact j.gen z hz
 ·rcases Af.1 hz with hz|hz
  ·exact oZ.2 (.inr (j.sub z hz))
  ·simp at hz;exact oZ.2 (.inl hz)
 ·rcases oZ.1 hz with rfl|hz
  ·exact absurd (by simp) hq
  ·rcases j.cl z hz (λh=>hq (by simp [h])) with e|h2
   ·exact .inl e
   ·exact .inr λg hg=>oZ.2 (.inr (h2 g hg))
 ·by_cases e:q=i
  ·rw[e,hy];exact oZ.2 (.inl rfl)
  ·exact oZ.2 (.inr (j.dn q (by omega)))
theorem fF.Zi {W:Nat->Prop}{wa:List V}(p:fF W h wa A)(q:PV W h v y)(hk:k<=A.length):fF W h (wa.take k++v::wa.drop k) (Go.Proofs.YtddpkbicnolafaaGreat.Zi A k y):=by
 have hl:=aZ.length p
 have t: ∀(k:Nat) (wa:List V) (A:LN),fF W h wa A->fF W h (wa.take k) (A.take k)/\fF W h (wa.drop k) (A.drop k):=by
  intro k
  induction k with
  |zero=>intro wa A p;exact⟨trivial,p⟩
  |succ k ih=>
   intro wa A p
   cases wa with
   |nil=>cases A with
    |nil=>exact⟨trivial,trivial⟩
    |cons=>exact p.elim
   |cons a wa=>cases A with
    |nil=>exact p.elim
    |cons b A=>
     obtain⟨h1,h2⟩:=ih wa A p.2
     exact⟨⟨p.1,h1⟩,h2⟩
 obtain⟨h1,h2⟩:=t k wa A p;exact h1.append ⟨q,h2⟩
theorem CM.own (t:CM h v ws b)(h0:0<ws.length):dB h v 1 ws b:=by
 obtain⟨id,cap,rest,rfl,h1,h2,h3,h4⟩:=t;refine .inr ⟨id,ws.length,cap,rest,rfl,(Nat.mul_one _).symm,?_,h1,h2,h3⟩;rcases h4 with h4|⟨rfl,h5⟩
 ·exact .inl h4
 ·have e:ws.length=1:=by omega
  exact .inr ⟨by rw[e],List.eq_nil_of_length_eq_zero (by omega)⟩
section
variable {n:Nat} {G:List Nat->Prop} {L:LN} {K:List Nat}
variable (hG:sC n G) (E:jA G L) (k:Fj n G L K)
include hG E k
end
def Mm (s:Nat->Bool)(n:Nat):Nat:=((List.range n).filter s).length
theorem DV (s:Nat->Bool)(n:Nat):Mm s (n+1)=Mm s n+if s n=true then 1 else 0:=by
 unfold Mm;rw[List.range_succ,List.filter_append,oL];cases h:s n<;>simp [List.filter,h]
theorem RQ (s:Nat->Bool)(n:Nat):Mm s n<=n:=by
 unfold Mm;have:=List.length_filter_le s (List.range n);rwa [List.length_range] at this
section
variable {n:Nat} {G:List Nat->Prop} {L:LN}
variable (hG:sC n G) (E:jA G L)
include hG E
end
theorem Ie {h:H}{v:V}{L:LN}(s:SP h v L):cY v=some (aC (L.length:Int))/\dW v v=true/\ ∃(id off:Nat) (ws:List V),Sl v 1 L.length id off/\ ∀i,i<L.length->id<h.next/\h.cell id (off+i)=some (ws.getD i V.undef)/\SI h (ws.getD i V.undef) (zi (L.getD i [])):=by
 have lv:=s.lens;rw[jD] at lv;obtain⟨id,off,ws,sh,hid,hwl,hc,hall⟩:=s.open;rw[jD] at sh hid hwl hc;obtain⟨ws',sv',_⟩:=s;exact⟨lv,SV.dW sv',id,off,ws,sh,λi hi=>⟨hid (by omega),hc i hi,Bg hall hi⟩⟩
open Classical in
noncomputable def Md (a:List Nat)(n i:Nat):List Nat:=(List.range i).filter λj=>decide (jH a n j)
theorem GI (a:List Nat)(n i:Nat):(jH a n i->Md a n (i+1)=Md a n i++ [i])/\(¬jH a n i->Md a n (i+1)=Md a n i):=by
 classical
 unfold Md;rw[List.range_succ,List.filter_append];constructor
 ·intro h;simp [List.filter,h]
 ·intro h;simp [List.filter,h]
theorem Vk (a:List Nat)(n i:Nat):(Md a n i).length<=i:=by
 unfold Md;have:=List.length_filter_le (λj=> @decide (jH a n j) (Classical.propDecidable _)) (List.range i);rwa [List.length_range] at this
def YK (a:List Nat)(i s:Nat):List Nat:=(List.range s).map λt=>it a t i
theorem JM (a:List Nat)(i s:Nat):YK a i (s+1)=YK a i s++ [it a s i]:=by
 unfold YK;rw[List.range_succ,List.map_append];rfl
theorem SF (u:V)(n:Nat)(a:List Nat)(h:H)(hn:n<=64)(A:bT n a)(hu:SI h u (zi a)):
  Ev T 112 [u] h (λv h'=> ∃ws,dB h' v 1 ws h.next/\fF (λq=>q<h.next) h' ws (rW a n)/\Fr h h'):=by
 refine bH yT rfl rfl ?_
 have lu:=hu.lens
 rw[aP,A.len] at lu
 obtain⟨id,off,sh,hid,hc⟩:=hu.open
 rw[aP,A.len] at sh hid hc
 simp(disch:=omega)only[go_sem,yT,aE,lu,Gm h n (by omega)]
 obtain⟨S,hS⟩:=exI h.next
 obtain⟨h1,e1,n1,g1,o1,f1⟩:=eQ hS (rc n λ_=>V.bool false)
 rw[hS,e1]
 refine aH (λk' vars hh=> ∃(i:Nat) (vo:V) (wo:List V),(∃g:Nat->V,vars= [u,g 1,vo,.sl S 0 n (.kn n),aC i,g 5,g 6,g 7,g 8,g 9])/\i<=n/\dB hh vo 1 wo (S+1)/\fF (λq=>q<=S∨kQ vo q) hh wo ((Md a n i).map (Sq a))/\
   hh.get S=some (.cells false (rc n λj=> .bool (Aw a i 0 j)))/\S<hh.next/\Fr h hh/\k'=n-i) n
  ⟨0,.aB, [],aA rfl,iP _,dB.aB _ _ _,trivial,by rw[g1,show (rc n λj=>V.bool (Aw a 0 0 j))=rc n λ_=>V.bool false from bN λj _=>by rw[Sz]],by omega,f1,rfl⟩ ?_
 clear g1 e1 o1 f1 n1 h1
 rintro k' vars h2 ⟨i,vo,wo,⟨g,rfl⟩,hi,ow,pvs,gS,hSn,F,rfl⟩
 by_cases hlt:(i:Int)<(n:Int)
 case neg=>
  have d1:=eS hlt;obtain rfl:i=n:=by omega
  simp(disch:=omega)only[go_sem,lu,d1];exact⟨wo,ow.le (by omega),fF.sP pvs λq _ hq=> .inl (by omega),F⟩
 have d1:=iB hlt
 have hin:i<n:=by omega
 have hvin:=λj off m c (e:vo=V.sl j off m c)=>ow.in j off m c e
 have lw:=aZ.length pvs
 rw[jD] at lw
 have lf:=Vk a n i
 obtain⟨p0,p1,_⟩:=nM A hin
 have ple:=Qo A hin
 simp(disch:=omega)only[go_sem,lu,d1]
 refine bJ (λvs hh=> ∃(vc:V) (l:List Nat),(∃g:Nat->V,vs= [u,g 1,vo,.sl S 0 n (.kn n),aC i,vc,g 6,g 7,g 8,g 9])/\(jH a n i->l=Sq a i)/\(¬jH a n i->l= [])/\dB hh vc 1 (ints (zi l)) h2.next/\
   hh.get S=some (.cells false (rc n λj=> .bool (Aw a (i+1) 0 j)))/\h2.next<=hh.next/\ ∀q,q<h2.next->q≠S->hh.get q=h2.get q) ?_ ?_
 ·refine aH (λk' vars hh=> ∃(s:Nat) (vc:V),(∃g:Nat->V,vars= [u,g 1,vo,.sl S 0 n (.kn n),aC i,vc,aC (it a s i:Nat),g 7,g 8,g 9])/\s<=sE a i/\(¬jH a n i->s=0)/\dB hh vc 1 (ints (zi (YK a i s))) h2.next/\
    hh.get S=some (.cells false (rc n λj=> .bool (Aw a i s j)))/\h2.next<=hh.next/\(∀q,q<h2.next->q≠S->hh.get q=h2.get q)/\k'=sE a i-s) (sE a i)
   ⟨0,.aB,aA rfl,iP _,λ_=>rfl,dB.aB _ _ _,gS,fZ _,λ_ _ _=>rfl,rfl⟩ ?_
  clear g
  rintro k' vars h3 ⟨s,vc,⟨g,rfl⟩,hs,hs0,oc,gS3,n3,o3,rfl⟩
  have kl:=Bd A hin s
  have cS:h3.cell S (it a s i)=some (.bool (Aw a i s (it a s i))):=gZ gS3 kl
  have e3:decide (((it a s i:Nat):Int)<0)=false:=eS (by omega)
  have e4:decide ((n:Int)<=((it a s i:Nat):Int))=false:=eS (by omega)
  by_cases hnew:Aw a i s (it a s i)=true
  ·rw[hnew] at cS
   simp(disch:=omega)only[go_sem,e3,e4,cS]
   by_cases hf:jH a n i
   ·have hsp:s=sE a i:=by
     have:=Ii A hin hf hs;rw[hnew] at this;have h5: ¬s<sE a i:=λh=>by have:=this.2 h;cases this
     omega
    subst hsp;refine⟨vc,YK a i (sE a i),aA rfl,λ_=>rfl,λh=>absurd hf h,oc,?_,n3,o3⟩;rw[gS3];congr 2;exact bN λj _=>by rw[Ua A hin]
   ·obtain rfl:=hs0 hf
    refine⟨vc, [],aA rfl,λh=>absurd h hf,λ_=>rfl,oc,?_,n3,o3⟩
    rw[gS3]
    congr 2
    exact bN λj _=>by rw[Tn A hin hf]
  ·have hnew':Aw a i s (it a s i)=false:=by simpa using hnew
   rw[hnew'] at cS
   have hf:jH a n i:=Ic λhf=>by
    obtain rfl:=hs0 hf;have h2: ∃j0,j0<i/\ ∃t,it a t j0=i:=Ic λhn=>hf ((Ab A hin).2 λj0 hj t e=>hn ⟨j0,hj,t,e⟩)
    exact hnew (nQ.2 (.inl h2))
   have hsp:=(Ii A hin hf hs).1 hnew'
   have pt:=bP (vs:=rc n λj=> .bool (Aw a i s j)) (off:=it a s i) (by rw[iE];exact kl) h3 S (.bool true)
   rw[jL] at pt
   obtain⟨h4,e5,n4,g4,o4⟩:=uA h3 S (rc n λj=>if j=it a s i then V.bool true else .bool (Aw a i s j))
   rw[e5] at pt
   have hr:(rc n λj=>if j=it a s i then V.bool true else .bool (Aw a i s j))=rc n λj=> .bool (Aw a i (s+1) j):=bN λj _=>by
    rw[Td];split<;>rfl
   rw[hr] at g4
   have oc4:=oc.pG (h':=h4) (by omega) λq off m c e hq=>o4 q (by have:=(oc.in _ _ _ _ e).2.1;omega)
   have ll:(YK a i s).length=s:=by unfold YK;simp
   obtain⟨h5,e6,n5,g5,o5,f5⟩:=eQ (h:=h4) rfl [aC (it a s i:Nat)]
   obtain⟨h6,a6,p6⟩:=(oc4.fr f5).push (bytes:=8) (SV.one (by omega) g5 (.kn 1)) (n:=s) (m:=1) (by rw[aQ,aP];omega) rfl (by omega) (by omega) (by omega)
   have n6:=p6.next
   have ci:h6.cell id (off+it a s i)=some (aC (a.getD (it a s i) 0:Nat)):=by
    have hq:=hid (by omega);have hF:=F.next
    have h26:h6.get id=h2.get id:=by
     rw[p6.old id (by omega) (λq o m c e e2=>by have:=(oc.in _ _ _ _ e).2.1;omega),o5 id (by omega),o4 id (by omega),o3 id (by omega) (by omega)]
    unfold H.cell;rw[h26];show h2.cell id (off+it a s i)=_;rw[F.cell hq,hc _ kl];congr 2;simp [zi,A.len,kl]
   have bls:=Kq h4 ((it a s i:Nat):Int)
   rw[show ints [((it a s i:Nat):Int)]= [aC (it a s i:Nat)] from rfl,e6] at bls
   rw[n5] at a6
   simp(disch:=omega)only[go_sem,e3,e4,cS,gS3,pt,bls,a6,sh.ixa,ci]
   refine⟨sE a i-(s+1),by omega,s+1,.sl (h4.next+1) 0 (s+1) (.un 1),?_,by omega,λh=>absurd hf h,?_,?_,by omega,λq h1 h2=>?_,rfl⟩
   ·rw[show it a (s+1) i=a.getD (it a s i) 0 by rw[tZ a s i 1];rfl]
    exact aA rfl
   ·have t:=p6.own (by rw[aQ,aP];omega) rfl (b:=h2.next) (by omega)
    rw[JM,Ih,qX]
    rw[n5] at t
    exact t
   ·rw[p6.old S (by omega) (λq o m c e e2=>by have:=(oc.in _ _ _ _ e).2.1;omega),o5 S (by omega)];exact g4
   ·rw[p6.old q (by omega) (λq' o m c e e2=>by have:=(oc.in _ _ _ _ e).2.1;omega),o5 q (by omega),o4 q h2,o3 q h1 h2]
 clear g
 rintro vars h3 ⟨vc,l,⟨g,rfl⟩,hf1,hf0,oc,gS3,n3,o3⟩
 have F3:Fr h h3:=⟨by have:=F.next;omega,λq hq=>by rw[o3 q (by have:=F.next;omega) (by omega)];exact F.get q hq⟩
 have ow3:dB h3 vo 1 wo (S+1):=ow.pG n3 λq o m c e hq=>o3 q hq (by have:=(hvin _ _ _ _ e).2.1;omega)
 have x3:Fx (λq=>q<=S∨kQ vo q) h2 h3:=⟨n3,λq h1 h2=>o3 q h1 (λe=>h2 (.inl (by omega)))⟩
 have pvs3:=fF.fx pvs x3
 have lc:cY vc=some (aC (l.length:Int)):=by
  have:=SI.lens (show SI h3 vc (zi l) from oc.sv);rwa [aP] at this
 obtain⟨fs1,fs0⟩:=GI a n i
 by_cases hf:jH a n i
 ·have el:=hf1 hf
  have ll:l.length=sE a i:=by rw[el,xP]
  have d2:decide ((0:Int)<(l.length:Int))=true:=iB (by omega)
  have pc:PV (λq=>q<=S∨kQ vo q) h3 vc l:=by
   refine⟨oc.sv,?_⟩
   cases vc with
   |sl q o m c=>
    have h5:=(oc.in _ _ _ _ rfl).2.1;rintro (h6|⟨o',m',c',e⟩)
    ·omega
    ·have:=(hvin _ _ _ _ e).1;omega
   |_=>trivial
  obtain⟨h4,e4,n4,g4,o4,f4⟩:=eQ (h:=h3) rfl [vc]
  obtain⟨h5,a5,p5⟩:=(ow3.fr f4).push (bytes:=24) (SV.one (by omega) g4 (.kn 1)) (n:=(Md a n i).length) (m:=1) (by omega) rfl (by omega) (by omega) (by omega)
  have n5:=p5.next
  rw[n4] at a5
  simp(disch:=omega)only[go_sem,lc,d2,cT _ (z:= .aB) pc.dZ.1 pc.dZ.2,e4,a5]
  rw[fA i]
  have x5:Fx (λq=>q<=S∨kQ vo q) h3 h5:=⟨by omega,λq h1 h2=>by rw[p5.old q (by omega) (λq' o m c e e2=>h2 (.inr ⟨o,m,c,e2▸e⟩)),o4 q (by omega)]⟩
  have w5: ∀q,q<h3.next->(q<=S∨kQ (.sl (h3.next+1) 0 ((Md a n i).length+1) (.un 1)) q)->(q<=S∨kQ vo q):=λq h1 h2=>by
   rcases h2 with h2|⟨_,_,_,e⟩
   ·exact .inl h2
   ·cases e;omega
  have t:=p5.own (by omega) rfl (b:=S+1) (by omega)
  rw[n4] at t
  refine⟨n-(i+1),by omega,i+1,_,_,aA rfl,by omega,t,?_,?_,by omega,⟨by have:=F3.next;omega,λq hq=>?_⟩,rfl⟩
  ·rw[fs1 hf,List.map_append,show [i].map (Sq a)= [l] by rw[el];rfl]
   exact (fF.go pvs3 x5 w5).append (fF.one (PV.go pc x5 w5))
  ·rw[p5.old S (by omega) (λq' o m c e e2=>by have:=(hvin _ _ _ _ e).2.1;omega),o4 S (by omega)];exact gS3
  ·rw[p5.old q (by omega) (λq' o m c e e2=>by have:=(hvin _ _ _ _ e).2.1;omega),o4 q (by have:=F3.next;omega)];exact F3.get q hq
 ·have el:=hf0 hf
  have d2:decide ((0:Int)<(l.length:Int))=false:=by rw[el];rfl
  simp(disch:=omega)only[go_sem,lc,d2]
  rw[fA i]
  exact⟨n-(i+1),by omega,i+1,vo,wo,aA rfl,by omega,ow3,by rw[fs0 hf];exact pvs3,gS3,by omega,F3,rfl⟩
theorem JG {l:List Nat}{k:Nat}(hk:k<l.length):lQ (l.take (k+1))=lQ (l.take k)/Nat.gcd (lQ (l.take k)) (l.getD k 0)*l.getD k 0:=by
 unfold lQ;rw[dI 0 hk,List.foldl_append];rfl
theorem TF {l:List Nat}{m k:Nat}(h:lQ l∣m):lQ (l.take k)∣m:=by
 rw[tH] at h ⊢;exact λc hc=>h c (List.mem_of_mem_take hc)
theorem DK (u:V)(n:Nat)(a:List Nat)(h:H)(n0:1<=n)(hn:n<=7)(A:bT n a)(hu:SI h u (zi a)):
  Ev T 82 [u] h (λv h'=>v= .tup [aC (lW a n:Nat),aC 0]/\Fr h h'):=by
 refine bH vA rfl rfl ?_
 simp(disch:=omega)only[go_sem,vA,aE]
 refine (rV u _ h (by rw[aP,A.len];omega) hu).mono ?_
 rw[Fl A n0 (by omega)]
 rintro _ h1 ⟨rfl,f1⟩
 simp(disch:=omega)only[go_sem]
 refine aX (λhc=>(hc rfl).elim) (λ_=>?_)
 simp(disch:=omega)only[go_sem]
 refine (SF u n a h1 (by omega) A (hu.mono f1)).mono ?_
 rintro vl h2 ⟨wl,ol,pl,f2⟩
 have sl:=fF.sp' ol.sv pl
 obtain⟨C,hC⟩:=exI (rW a n)
 rw[hC] at sl
 obtain⟨lv,ev,id,off,ws,sh,hc⟩:=Ie sl
 have h420: ∀k,lQ ((C.map List.length).take k)∣420:=λk=>TF (by rw[←hC];exact Lr A hn)
 have h0: ∀k,0<lQ ((C.map List.length).take k):=λk=>Nat.pos_of_dvd_of_pos (h420 k) (by omega)
 have hle: ∀k,lQ ((C.map List.length).take k)<=420:=λk=>Nat.le_of_dvd (by omega) (h420 k)
 have hcl: ∀k,k<C.length->(C.getD k []).length<=420:=λk hk=>by
  have hd:=h420 (k+1);rw[tH] at hd;refine Nat.le_of_dvd (by omega) (hd _ ?_);have e:((C.map List.length).take (k+1))=(C.take (k+1)).map List.length:=by rw[List.map_take]
  rw[e];refine yH.2 ⟨C.getD k [],?_,rfl⟩;rw[dI [] hk];simp
 have hcn:C.length<=n:=by
  rw[←hC];unfold rW;rw[jD];exact Vk a n n
 simp(disch:=omega)only[go_sem]
 refine aH (λk' vars hh=> ∃(k:Nat),(∃g:Nat->V,vars= [g 0,g 1,g 2,g 3,aC ((lQ ((C.map List.length).take k):Nat):Int),vl,aC k,g 7,g 8])/\k<=C.length/\Fr h2 hh/\k'=C.length-k) C.length
  ⟨0,aA rfl,iP _,Fr.refl h2,rfl⟩ ?_
 rintro k' vars h3 ⟨k,⟨g,rfl⟩,hk,f3,rfl⟩
 by_cases hlt:(k:Int)<(C.length:Int)
 case neg=>
  have d1:=eS hlt;obtain rfl:k=C.length:=by omega
  simp(disch:=omega)only[go_sem,lv,d1];refine⟨?_,(f1.trans f2).trans f3⟩;rw[List.take_of_length_le (by rw[jD];exact fZ _),←hC];rfl
 have d1:=iB hlt
 have hkC:k<C.length:=by omega
 obtain⟨i1,c1,s1⟩:=hc k hkC
 have cell: ∀hh,Fr h2 hh->hh.cell id (off+k)=some (ws.getD k V.undef):=λhh f=>by rw[f.cell i1];exact c1
 have lc:=s1.lens
 rw[aP] at lc
 have evc:=SV.dW s1
 generalize ws.getD k V.undef=vc at cell lc evc
 obtain⟨m,hm⟩:=exI (lQ ((C.map List.length).take k))
 obtain⟨c,hcc⟩:=exI ((C.getD k []).length)
 have hm0:0<m:=by rw[←hm];exact h0 k
 have hm1:m<=420:=by rw[←hm];exact hle k
 have hc1:c<=420:=by rw[←hcc];exact hcl k hkC
 have step:lQ ((C.map List.length).take (k+1))=m/Nat.gcd m c*c:=by
  rw[JG (by rw[jD];exact hkC),hm]
  have:(C.map List.length).getD k 0=c:=by
   rw[←hcc,List.getD,List.getD,List.getElem?_map,fS hkC];rfl
  rw[this]
 have hs1:=hle (k+1)
 rw[step] at hs1
 rw[hcc] at lc
 rw[hm]
 simp(disch:=omega)only[go_sem,lv,d1,sh.ixa,cell h3 f3,lc]
 have fb:Fr h3 (H.mk h3.tr (h3.next+16)):=(Fr.refl h3).bF (by omega)
 refine (SK m c _ (by omega) (by omega)).mono ?_
 rintro _ h4 ⟨rfl,f4⟩
 have F4:=(f3.trans fb).trans f4
 have gpos:0<Nat.gcd m c:=Nat.gcd_pos_of_pos_left c hm0
 have gne:((Nat.gcd m c:Nat):Int)≠0:=by omega
 obtain⟨q,hq⟩:=exI (m/Nat.gcd m c)
 have hqm:q<=m:=by rw[←hq];exact Nat.div_le_self ..
 rw[hq] at step hs1
 obtain⟨r,hr⟩:=exI (q*c)
 rw[hr] at step hs1
 have ed:((m:Nat):Int).tdiv ((Nat.gcd m c:Nat):Int)=(q:Int):=by
  rw[Int.tdiv_eq_ediv_of_nonneg (by omega),←hq];rfl
 have em:(q:Int)*(c:Int)=(r:Int):=by rw[←Int.natCast_mul,hr]
 simp(disch:=omega)only[go_sem,cell h4 F4,lc,ev,evc,gne,ed,em]
 rw[fA k]
 exact⟨C.length-(k+1),by omega,k+1,by rw[step];exact aA rfl,by omega,F4,rfl⟩
def wrC (C:LN)(k s j:Nat):Prop:=(∃q,q<k/\j∈C.getD q [])∨j∈(C.getD k []).take s
open Classical in
noncomputable def HA (C:LN)(x:List Nat)(k s j:Nat):V:=if wrC C k s j then aC (x.getD j 0:Nat) else aC 0
variable {O:List (List Int)} {R:List (List (List Int))}
theorem sA {h:H}{v:V}(s:SR h v O):cY v=some (aC (O.length:Int))/\dW v v=true/\v.cells= [v]/\v.one=true/\ ∃(id off:Nat) (ws:List V),Sl v 1 O.length id off/\ ∀i,i<O.length->id<h.next/\h.cell id (off+i)=some (ws.getD i V.undef)/\SI h (ws.getD i V.undef) (O.getD i []):=by
 have lv:=s.lens;obtain⟨ws,sv,al⟩:=s;have hl:=aZ.length al;obtain⟨id,off,sh,hid,hc⟩:=SV.shape sv O.length (by omega) (by omega);exact⟨lv,SV.dW sv,(SV.cJ sv).1,(SV.cJ sv).2.1,id,off,ws,sh,λi hi=>⟨hid (by omega),by rw[hc i (by omega)];simp [List.getD,show i<ws.length by omega],Rs al hi⟩⟩
theorem yV {h:H}{v:V}(s:ZQ h v R):cY v=some (aC (R.length:Int))/\dW v v=true/\v.cells= [v]/\v.one=true/\ ∃(id off:Nat) (ws:List V),Sl v 1 R.length id off/\ ∀i,i<R.length->id<h.next/\h.cell id (off+i)=some (ws.getD i V.undef)/\SR h (ws.getD i V.undef) (R.getD i []):=by
 obtain⟨ws,sv,al,_⟩:=s;have hl:=aZ.length al;obtain⟨id,off,sh,hid,hc⟩:=SV.shape sv R.length (by omega) (by omega);refine⟨by unfold cY;rw[SV.len sv (n:=R.length) (by omega) (by omega)];rfl,SV.dW sv,(SV.cJ sv).1,(SV.cJ sv).2.1,id,off,ws,sh,λi hi=>⟨hid (by omega),by rw[hc i (by omega)];simp [List.getD,show i<ws.length by omega],?_⟩⟩;have:=aZ.get al i (by omega) hi;rw[List.getD,List.getD,fS (show i<ws.length by omega),fS hi];exact this
structure YI (n:Nat)(O:List (List Int))(R:List (List (List Int)))(i k:Nat):Prop where
 row: ∀j,j<i->(O.getD j []).length<=n/\(O.getD j []).length=(R.getD j []).length
 perm: ∀j,j<i-> ∀x∈R.getD j [],x.length=n/\mU x=true
 last: ∀x∈(R.getD i []).take k,x.length=n/\mU x=true
theorem YI.nat {n:Nat}(f:YI n O R n 0)(lr:R.length=n): ∃R':kW,R=R'.map (List.map zi)/\ ∀g∈R'.flatten,bT n g:=by
 have key: ∀r∈R,∀x∈r,x.length=n/\mU x=true:=λr hr x hx=>by
  obtain⟨i,hi,rfl⟩:=Dt.1 hr;exact f.perm i (by omega) x (by rw[List.getD,fS hi];exact hx)
 refine⟨R.map (List.map (List.map Int.toNat)),?_,λg hg=>?_⟩
 ·rw[List.map_map]
  refine (List.map_id R).symm.trans (List.map_congr_left λr hr=>?_);show r=(r.map (List.map Int.toNat)).map zi;rw[List.map_map];exact (List.map_id r).symm.trans (List.map_congr_left λx hx=>(Gi (key r hr x hx).2).1)
 ·obtain⟨r',hr',hg⟩:=List.mem_flatten.1 hg
  obtain⟨r,hr,rfl⟩:=yH.1 hr';obtain⟨x,hx,rfl⟩:=yH.1 hg;have:=(Gi (key r hr x hx).2).2;rwa [(key r hr x hx).1] at this
theorem YI.next {n:Nat}{i k:Nat}(f:YI n O R i k)(hk:(R.getD i []).length<=k)(h1:(O.getD i []).length<=n)(h2:(O.getD i []).length=(R.getD i []).length):YI n O R (i+1) 0:=by
 have hl:=f.last;rw[List.take_of_length_le hk] at hl;refine⟨λj hj=>?_,λj hj=>?_,λx hx=>by rw[List.take_zero] at hx;cases hx⟩
 ·by_cases e:j=i
  ·subst e;exact⟨h1,h2⟩
  ·exact f.row j (by omega)
 ·by_cases e:j=i
  ·subst e;exact hl
  ·exact f.perm j (by omega)
theorem AQ {x:List Int}(h1:1<=x.length)(h2:x.length<=64):Ma x=0↔mU x=true:=by
 unfold Ma;rw[if_neg (by omega)];constructor
 ·intro h
  split at h
  ·assumption
  ·omega
 ·intro h;rw[if_pos h]
theorem Ff (vc:V)(d:Int)(O:List (List Int))(R:List (List (List Int)))(h:H)(hc:Az h vc d O R)(hd:d<=7∨64<d)(so:lF O)(sr:lH R):
  Ev T 109 [vc] h (λv h'=>v= aC (kI d O R)/\Fr h h'):=by
 have hc0:=hc
 obtain⟨vO,vR,rfl,sO,sR⟩:=hc
 refine bH jN rfl rfl ?_
 obtain⟨lO,evO,_,oneO,idO,offO,wsO,shO,cO⟩:=sA sO
 obtain⟨lR,evR,_,oneR,idR,offR,wsR,shR,cR⟩:=yV sR
 obtain⟨B,hB⟩:=exI h.next
 obtain⟨h1,e1,n1,g1,o1,f1⟩:=eQ hB [aC d,vO,vR]
 have c0: ∀hh,Fr h1 hh->hh.cell B 0=some (aC d):=λhh f=>by rw[f.cell (by omega),H.aF g1];rfl
 have c1: ∀hh,Fr h1 hh->hh.cell B 1=some vO:=λhh f=>by rw[f.cell (by omega),H.aF g1];rfl
 have c2: ∀hh,Fr h1 hh->hh.cell B 2=some vR:=λhh f=>by rw[f.cell (by omega),H.aF g1];rfl
 have rB: ∀hh,Fr h1 hh->hh.row B 0 3=some [aC d,vO,vR]:=λhh f=>aJ (by rw[f.get B (by omega)];exact g1)
 have bx:=bE h (v:= aC d) (u:=vO) (w:=vR) rfl oneO oneR
 by_cases hd1:d<1
 ·have x1:decide (d<1)=true:=decide_eq_true hd1
  simp(disch:=omega)only[go_sem,jN,aE,bx,hB,e1,c0 h1 (Fr.refl _),x1]
  exact⟨by unfold kI;rw[if_pos (.inl hd1)],f1⟩
 have x1:decide (d<1)=false:=decide_eq_false hd1
 by_cases hd2:64<d
 ·have x2:decide (64<d)=true:=decide_eq_true hd2
  simp(disch:=omega)only[go_sem,jN,aE,bx,hB,e1,c0 h1 (Fr.refl _),x1,x2]
  exact⟨by unfold kI;rw[if_pos (.inr hd2)],f1⟩
 have x2:decide (64<d)=false:=decide_eq_false hd2
 obtain⟨n,rfl⟩: ∃n:Nat,d=(n:Int):=⟨d.toNat,by omega⟩
 have hn1:1<=n:=by omega
 have hn7:n<=7:=by omega
 by_cases hl1:O.length=n
 case neg=>
  have x3:decide ((O.length:Int)≠(n:Int))=true:=iB (by omega);simp(disch:=omega)only[go_sem,jN,aE,bx,hB,e1,c0 h1 (Fr.refl _),x1,x2,c1 h1 (Fr.refl _),lO,x3];exact⟨by rw[vZ hn1 (by omega) (λf=>hl1 f.lo)],f1⟩
 have x3:decide ((O.length:Int)≠(n:Int))=false:=eS (by omega)
 by_cases hl2:R.length=n
 case neg=>
  have x4:decide ((R.length:Int)≠(n:Int))=true:=iB (by omega);simp(disch:=omega)only[go_sem,jN,aE,bx,hB,e1,c0 h1 (Fr.refl _),x1,x2,c1 h1 (Fr.refl _),lO,x3,c2 h1 (Fr.refl _),lR,x4];exact⟨by rw[vZ hn1 (by omega) (λf=>hl2 f.lr)],f1⟩
 have x4:decide ((R.length:Int)≠(n:Int))=false:=eS (by omega)
 simp(disch:=omega)only[go_sem,jN,aE,bx,hB,e1,c0 h1 (Fr.refl _),x1,x2,c1 h1 (Fr.refl _),lO,x3,c2 h1 (Fr.refl _),lR,x4]
 have bad: ¬GX n O R->kI (n:Int) O R=3:=vZ hn1 (by omega)
 refine aH (λk' vars hh=> ∃(i:Nat) (vl:V) (wl:List V),(∃g:Nat->V,vars= [g 0,.ptr B 0,g 2,aC n,vl,aC i,g 6,g 7,g 8,g 9,g 10,g 11,g 12,g 13,g 14,g 15])/\i<=n/\dB hh vl 1 wl h1.next/\aZ (SI h1) wl (R.take i).flatten/\YI n O R i 0/\Fr h1 hh/\k'=n-i) n
   ⟨0,.aB, [],aA rfl,iP _,dB.aB _ _ _,trivial,⟨λj hj=>by omega,λj hj=>by omega,λx hx=>by rw[List.take_zero] at hx;cases hx⟩,Fr.refl h1,rfl⟩ ?_
 rintro k' vars h2 ⟨i,vl,wl,⟨g,rfl⟩,hi,ow,al,fr,F,rfl⟩
 by_cases hlt:(i:Int)<(n:Int)
 case pos=>
  have d1:=iB hlt;have hin:i<n:=by omega
  obtain⟨i1,ci,si⟩:=cO i (by omega);obtain⟨j1,cj,sj⟩:=cR i (by omega);have lo:=si.lens;have evo:=SV.dW si;obtain⟨lr,evr,_,_,idr,offr,wsr,shr,cr⟩:=sA sj;have cOi: ∀hh,Fr h1 hh->hh.cell idO (offO+i)=some (wsO.getD i V.undef):=λhh f=>by rw[(f1.trans f).cell i1];exact ci
  have cRi: ∀hh,Fr h1 hh->hh.cell idR (offR+i)=some (wsR.getD i V.undef):=λhh f=>by rw[(f1.trans f).cell j1];exact cj
  generalize wsO.getD i V.undef=vo at cOi lo evo;generalize wsR.getD i V.undef=vr at cRi lr evr shr sj;have sri:=sr.2 i (by omega)
  by_cases q1:(n:Int)<((O.getD i []).length:Int)
  case pos=>
   have y1:decide ((n:Int)<((O.getD i []).length:Int))=true:=decide_eq_true q1;simp(disch:=omega)only[go_sem,d1,c1 h2 F,c2 h2 F,shO.ixa,shR.ixa,cOi h2 F,cRi h2 F,lo,lr,y1];exact⟨by rw[bad λf=>by have:=f.row i hin;omega],f1.trans (F.bF (by omega))⟩
  have y1:decide ((n:Int)<((O.getD i []).length:Int))=false:=decide_eq_false q1
  by_cases q2:(O.getD i []).length=(R.getD i []).length
  case neg=>
   have y2:decide (((O.getD i []).length:Int)≠((R.getD i []).length:Int))=true:=iB (by omega);simp(disch:=omega)only[go_sem,d1,c1 h2 F,c2 h2 F,shO.ixa,shR.ixa,cOi h2 F,cRi h2 F,lo,lr,y1,y2];exact⟨by rw[bad λf=>by have:=f.row i hin;omega],f1.trans (F.bF (by omega))⟩
  have y2:decide (((O.getD i []).length:Int)≠((R.getD i []).length:Int))=false:=eS (by omega);have Fb:Fr h1 (H.mk h2.tr (h2.next+23)):=F.bF (by omega);have owb:dB (H.mk h2.tr (h2.next+23)) vl 1 wl h1.next:=ow.fr ((Fr.refl h2).bF (by omega));simp(disch:=omega)only[go_sem,d1,c1 h2 F,c2 h2 F,shO.ixa,shR.ixa,cOi h2 F,cRi h2 F,lo,lr,y1,y2];generalize (H.mk h2.tr (h2.next+23))=h3 at*;refine aH (λk' vars hh=> ∃(k:Nat) (vl:V) (wl:List V),(∃g:Nat->V,vars= [g 0,.ptr B 0,g 2,aC n,vl,aC i,aC k,g 7,g 8,g 9,g 10,g 11,g 12,g 13,g 14,g 15])/\k<=(R.getD i []).length/\dB hh vl 1 wl h1.next/\aZ (SI h1) wl ((R.take i).flatten++(R.getD i []).take k)/\YI n O R i k/\Fr h1 hh/\k'=(R.getD i []).length-k) (R.getD i []).length
   ⟨0,vl,wl,aA rfl,iP _,owb,by rw[List.take_zero,List.append_nil];exact al,fr,Fb,rfl⟩ ?_
  clear ow owb al fr Fb;rintro k' vars h4 ⟨k,vl,wl,⟨g,rfl⟩,hk,ow,al,fr,F4,rfl⟩
  by_cases hlk:(k:Int)<((R.getD i []).length:Int)
  case neg=>
   have d2:decide ((k:Int)<((R.getD i []).length:Int))=false:=decide_eq_false hlk;have hk2:(R.getD i []).length<=k:=by omega
   rw[List.take_of_length_le hk2,←Ni (by omega)] at al;simp(disch:=omega)only[go_sem,c2 h4 F4,shR.ixa,cRi h4 F4,lr,d2];rw[fA i];exact⟨n-(i+1),by omega,i+1,vl,wl,aA rfl,by omega,ow,al,fr.next hk2 (by omega) q2,F4,rfl⟩
  have d2:decide ((k:Int)<((R.getD i []).length:Int))=true:=decide_eq_true hlk;have hkl:k<(R.getD i []).length:=by omega
  obtain⟨k1,ck,sk⟩:=cr k hkl;have lk:=sri.2 k hkl;have cRk: ∀hh,Fr h1 hh->hh.cell idr (offr+k)=some (wsr.getD k V.undef):=λhh f=>by rw[(f1.trans f).cell k1];exact ck
  generalize wsr.getD k V.undef=vx at cRk sk;have mx:(R.getD i []).getD k []∈R.getD i []:=bD hkl;obtain⟨x,hx⟩:=exI ((R.getD i []).getD k []);rw[hx] at sk mx lk;have lx:=sk.lens;have evx:=SV.dW sk
  by_cases q3:x.length=n
  case neg=>
   have y3:decide ((x.length:Int)≠(n:Int))=true:=iB (by omega);simp(disch:=omega)only[go_sem,c2 h4 F4,shR.ixa,cRi h4 F4,lr,d2,shr.ixa,cRk h4 F4,lx,y3];exact⟨by rw[bad λf=>q3 (f.perm i hin x mx).1],f1.trans F4⟩
  have y3:decide ((x.length:Int)≠(n:Int))=false:=eS (by omega);simp(disch:=omega)only[go_sem,c2 h4 F4,shR.ixa,cRi h4 F4,lr,d2,shr.ixa,cRk h4 F4,lx,y3];refine (rV vx x _ lk (sk.mono (f1.trans F4))).mono ?_;rintro _ h5 ⟨rfl,f5⟩;have F5:=F4.trans f5
  by_cases q4:Ma x=0
  case neg=>
   have y4:decide (Ma x≠0)=true:=decide_eq_true q4;simp(disch:=omega)only[go_sem,y4];exact⟨by rw[bad λf=>q4 ((AQ (by omega) (by omega)).2 (f.perm i hin x mx).2)],f1.trans F5⟩
  have y4:decide (Ma x≠0)=false:=eS (by omega);have ok:=(AQ (by omega) (by omega)).1 q4;have hws:=al.length
  have accl:((R.take i).flatten++(R.getD i []).take k).length<=400:=by
   have h1:=nL (m:=7) (R:=R) (i:=i) (by omega) (λj hj=>by have:=fr.row j hj;omega);have h2:i*7<=7*7:=Nat.mul_le_mul_right 7 (by omega);rw[oL,Lz];omega
  have one:=SV.cJ sk;obtain⟨h6,a6,ow6,f6,n6,o6⟩:=Ag (v:=vx) (ow.fr f5) F5 (by omega) (bytes:=24) (by omega);simp(disch:=omega)only[go_sem,y4,c2 h5 F5,shR.ixa,cRi h5 F5,shr.ixa,cRk h5 F5,cT _ (z:= .aB) one.1 one.2.1,a6];rw[fA k];refine⟨(R.getD i []).length-(k+1),by omega,k+1,_,_,aA rfl,by omega,ow6,?_,⟨fr.row,fr.perm,λy hy=>?_⟩,f6,rfl⟩
  ·rw[dI [] hkl,hx,←List.append_assoc]
   exact al.append ⟨sk.mono f1,trivial⟩
  ·rw[dI [] hkl,hx] at hy
   rcases Af.1 hy with hy|hy
   ·exact fr.last y hy
   ·rw[List.mem_singleton.1 hy];exact⟨q3,ok⟩
 have d1:=eS hlt
 obtain rfl:i=n:=by omega
 rw[List.take_of_length_le (by omega)] at al
 obtain⟨R',eR,hP⟩:=fr.nat hl2
 have eF:R.flatten=R'.flatten.map zi:=by rw[eR,List.map_flatten]
 have fl:R.flatten.length<=49:=by
  have h1:=nL (m:=7) (R:=R) (i:=R.length) (by omega) (λj hj=>by have:=fr.row j (by omega);omega);have h2:R.length*7<=7*7:=Nat.mul_le_mul_right 7 (by omega);rw[List.take_of_length_le (by omega)] at h1;omega
 have hl0:R'.flatten.length<=49:=by rw[eF,jD] at fl;exact fl
 have hws:=al.length
 have lvl:=dB.lens ow hws
 have d5:decide ((4096:Int)<(R.flatten.length:Int))=false:=eS (by omega)
 rw[eF] at al
 simp(disch:=omega)only[go_sem,d1,lvl,d5]
 refine (vW vl i R'.flatten h2 hn1 hn7 (by omega) ⟨wl,ow.sv,al.mono λ_ _ x=>x.mono F⟩ hP).mono ?_
 rintro _ h3 ⟨vm,O2,R2,rfl,gc,f3⟩
 obtain⟨_,⟨uO,uR,rfl,tO,tR⟩⟩:True/\Az h3 vm (i:Int) (O2.map zi) (R2.map (List.map zi)):=⟨trivial,gc.ch⟩
 obtain⟨_,_,_,onO,_⟩:=sA tO
 obtain⟨_,_,_,onR,_⟩:=yV tR
 obtain⟨M,hM⟩:=exI h3.next
 obtain⟨h4,e4,n4,g4,o4,f4⟩:=eQ hM [aC 0,.aB,.aB]
 have nf3:=f3.next
 have nF:=F.next
 have F5:Fr h3 (h4.set M (bQ [aC i,uO,uR])):=f4.set (by omega) _
 have g5:(h4.set M (bQ [aC i,uO,uR])).get M=bQ [aC i,uO,uR]:=H.aT ..
 simp(disch:=omega)only[go_sem,hM,e4,cU h4 M 0 (v:= aC i) (u:=uO) (w:=uR) rfl onO onR,g4,cE]
 generalize h4.set M (bQ [aC i,uO,uR])=h5 at F5 g5 ⊢
 have G5:Fr h1 h5:=(F.trans f3).trans F5
 obtain⟨so2,sr2⟩:=gc.small
 simp(disch:=omega)only[go_sem,rB h5 G5,aJ g5]
 refine (xS _ _ (i:Int) (i:Int) O (O2.map zi) R (R2.map (List.map zi)) h5 (hc0.mono (f1.trans G5)) (Az.mono ⟨uO,uR,rfl,tO,tR⟩ F5) so so2 sr sr2).mono ?_
 rintro _ h6 ⟨rfl,f6⟩
 have iff:=Yr.iff (O:=O) hn1 (by omega) hP gc.isc
 rw[←eR] at iff
 by_cases hq:(i:Int)=(i:Int)/\O=O2.map zi/\R=R2.map (List.map zi)
 ·have ed:=iB hq
  rw[ed]
  simp(disch:=omega)only[go_sem]
  refine⟨?_,f1.trans (G5.trans f6)⟩
  unfold kI
  rw[if_neg (by omega),if_pos (iff.2 hq.2)]
 ·have ed:=eS hq
  rw[ed]
  simp(disch:=omega)only[go_sem]
  refine⟨?_,f1.trans (G5.trans f6)⟩
  unfold kI
  rw[if_neg (by omega),if_neg (λc=>hq ⟨rfl,iff.1 c⟩)]
theorem KP (vc vx:V)(n:Nat)(O:LN)(R:kW)(G:List Nat->Prop)(x:List Nat)(h:H)(hn0:1<=n)(hn:n<=64)(hG:sC n G)(isc:dM n G O R)(hc:Az h vc (n:Int) (O.map zi) (R.map (List.map zi)))(hx:SI h vx (zi x))(X:bT n x):
  Ev T 95 [vc,vx] h (λv h'=> ∃vr lv,v= .tup [vr,aC lv]/\(lv=(n:Int)↔G x)/\Fr h h'):=by
 obtain⟨vO,vR,rfl,sO,sR⟩:=hc
 refine bH wQ rfl rfl ?_
 obtain⟨lvO,eO,cO,oneO,idO,offO,wO,shO,cellO⟩:=sA sO
 obtain⟨lvR,eR,cR,oneR,idR,offR,wR,shR,cellR⟩:=yV sR
 rw[jD,isc.lo] at shO cellO
 rw[jD,isc.lr] at shR cellR
 obtain⟨B,hB⟩:=exI h.next
 obtain⟨h1,e1,n1,g1,o1,f1⟩:=eQ hB [aC n,vO,vR]
 have bx:=bE h (v:= aC n) (u:=vO) (w:=vR) rfl oneO oneR
 simp(disch:=omega)only[go_sem,wQ,aE,bx,hB,e1]
 refine aH (λk' vars hh=> ∃(i:Nat) (vy:V) (y:List Nat),(∃g:Nat->V,vars= [g 0,vy,.ptr B 0,g 3,g 4,aC i,g 6,g 7,g 8,g 9])/\i<=n/\SI hh vy (zi y)/\bT n y/\Fix i y/\(G y↔G x)/\Fr h1 hh/\k'=n-i) n
  ⟨0,vx,x,aA rfl,iP _,hx.mono f1,X,λk hk=>by omega,Iff.rfl,Fr.refl _,rfl⟩ ?_
 rintro k' vars h2 ⟨i,vy,y,⟨g,rfl⟩,hi,sy,Y,fixy,hGy,F2,rfl⟩
 have g2:h2.get B=some (.cells false [aC n,vO,vR]):=by rw[F2.get B (by omega)];exact g1
 have lyn:(zi y).length=n:=by rw[aP,Y.len]
 by_cases hlt:(i:Int)<(n:Int)
 case neg=>
  have d1:=eS hlt;obtain rfl:i=n:=by omega
  have ey:=sy.dW;simp(disch:=omega)only[go_sem,H.aF g2,d1,ey];refine (Qx vy (zi y) _ (sy.mono ((Fr.refl h2).bF (by omega))) (by omega)).mono ?_;rintro v h3 ⟨ow,f3,_⟩;have g3:h3.get B=some (.cells false [aC i,vO,vR]):=by rw[f3.get B (by have:=F2.next;show B<h2.next+_;omega)];exact g2
  simp(disch:=omega)only[go_sem,H.aF g3];exact⟨v,i,rfl,⟨λ_=>hGy.1 (by rw[fixy.all Y];exact hG.one),λ_=>rfl⟩,(f1.trans F2).trans (((Fr.refl h2).bF (by omega)).trans f3)⟩
 have d1:=iB hlt
 have hi':i<n:=by omega
 have F:=f1.trans F2
 obtain⟨bO,cOi,sOi⟩:=cellO i hi'
 obtain⟨bR,cRi,sRi⟩:=cellR i hi'
 rw[fI zi (d:= []) (by rw[isc.lo];exact hi')] at sOi
 rw[fI (List.map zi) (d:= []) (by rw[isc.lr];exact hi')] at sRi
 generalize wO.getD i V.undef=vo at cOi sOi
 generalize wR.getD i V.undef=vr at cRi sRi
 obtain⟨lvo,eo,co1,oneo,ido,offo,sho,cello⟩:cY vo=some (aC ((O.getD i []).length:Int))/\True/\True/\True/\ ∃ido offo,Sl vo 1 (O.getD i []).length ido offo/\ ∀k,k<(O.getD i []).length->ido<h.next/\h.cell ido (offo+k)=some (aC ((O.getD i []).getD k 0:Nat)):=by
  have l:=sOi.lens;obtain⟨a,b,s,c,d⟩:=sOi.open;rw[aP] at l s c d;refine⟨l,trivial,trivial,trivial,a,b,s,λk hk=>⟨c (by omega),?_⟩⟩;rw[d k hk];congr 2;exact fI (λk:Nat=>(k:Int)) (d:=0) (by omega)
 obtain⟨lvr,er,cr1,oner,idr,offr,wr,shr,cellr⟩:=sA sRi
 rw[jD,isc.rl i hi'] at shr cellr
 have hOl:(O.getD i []).length<=n:=Nat.le_trans (oX (λx hx=>hG.dY hx) hi' (isc.asc i hi') (isc.mem i hi')) (by omega)
 obtain⟨m,hm⟩:=exI ((O.getD i []).length)
 rw[hm] at lvo sho cello shr cellr hOl
 obtain⟨p,hp⟩:=exI (y.getD i 0)
 simp(disch:=omega)only[go_sem,H.aF g2,d1]
 refine aH (λk' vars hh=> ∃(k:Nat),(∃g:Nat->V,vars= [g 0,vy,.ptr B 0,g 3,g 4,aC i,aC k,g 7,g 8,g 9])/\k<=m/\(∀j,j<k->(O.getD i []).getD j 0≠p)/\Fr h2 hh/\k'=m-k) m
  ⟨0,aA rfl,iP _,λj hj=>by omega,Fr.refl _,rfl⟩ ?_
 rintro k' vars h3 ⟨k,⟨g',rfl⟩,hk,hj,f3,rfl⟩
 have g3:h3.get B=some (.cells false [aC n,vO,vR]):=by rw[f3.get B (by have:=F2.next;omega)];exact g2
 have F3:=F.trans f3
 have cO3:h3.cell idO (offO+i)=some vo:=by rw[F3.cell bO];exact cOi
 have cR3:h3.cell idR (offR+i)=some vr:=by rw[F3.cell bR];exact cRi
 have sy3:=sy.mono f3
 obtain⟨idy,offy,shy,hidy,hcy⟩:=sy3.open
 rw[lyn] at shy hidy hcy
 have cy:h3.cell idy (offy+i)=some (aC p):=by rw[hcy i hi'];congr 2;simp [zi,Y.len,hi',←hp]
 by_cases hkm:(k:Int)<(m:Int)
 case neg=>
  have d2:decide ((k:Int)<(m:Int))=false:=decide_eq_false hkm;obtain rfl:k=m:=by omega
  have hno: ¬G x:=λhx=>by
   have hy:=hGy.2 hx;obtain⟨j,hj1,hj2⟩:=Dt.1 ((isc.mem i hi' p).2 ⟨y,hy,fixy,hp⟩);exact hj j (by omega) (by rw[List.getD_eq_getElem?_getD,fS hj1];exact hj2)
  simp(disch:=omega)only[go_sem,H.aF g3,shO.ixa,cO3,lvo,d2];refine aX (λ_=>?_) (λhc=>(hc trivial).elim);simp(disch:=omega)only[go_sem];have fb:=(Fr.refl h3).bF (n:=h3.next+23) (by omega);refine (Qx vy (zi y) _ (sy3.mono fb) (by omega)).mono ?_;rintro v h4 ⟨ow,f4,_⟩;simp(disch:=omega)only[go_sem];exact⟨v,i,rfl,⟨λe=>by omega,λhx=>absurd hx hno⟩,F3.trans (fb.trans f4)⟩
 have d2:decide ((k:Int)<(m:Int))=true:=decide_eq_true hkm
 have hkm':k<m:=by omega
 obtain⟨b4,c4⟩:=cello k hkm'
 have c5:h3.cell ido (offo+k)=some (aC ((O.getD i []).getD k 0:Nat)):=by rw[F3.cell b4];exact c4
 obtain⟨q,hq⟩:=exI ((O.getD i []).getD k 0)
 rw[hq] at c5
 by_cases hqp:q=p
 case neg=>
  have d3:decide ((q:Int)≠(p:Int))=true:=iB (by omega);simp(disch:=omega)only[go_sem,H.aF g3,shO.ixa,cO3,lvo,d2,sho.ixa,c5,shy.ixa,cy,d3];rw[fA k];refine⟨m-(k+1),by omega,k+1,aA rfl,by omega,λj hj'=>?_,f3.bF (by omega),rfl⟩
  by_cases e:j=k
  ·rw[e,hq];exact hqp
  ·exact hj j (by omega)
 have d3:decide ((q:Int)≠(p:Int))=false:=eS (by omega)
 have d4:decide ((k:Int)=(m:Int))=false:=eS (by omega)
 have rep:=isc.rep i hi' k (by omega)
 rw[hq,hqp] at rep
 obtain⟨z,hz⟩:=exI ((R.getD i []).getD k [])
 rw[hz] at rep
 have Z:=hG.dY rep.mem
 obtain⟨br,crk,srk⟩:=cellr k hkm'
 rw[fI zi (l:=R.getD i []) (i:=k) (d:= []) (by rw[isc.rl i hi'];omega),hz] at srk
 generalize wr.getD k V.undef=vz at crk srk
 have cr3:h3.cell idr (offr+k)=some vz:=by rw[F3.cell br];exact crk
 have fb:=(Fr.refl h3).bF (n:=h3.next+23) (by omega)
 have cOb:=cO3
 simp(disch:=omega)only[go_sem,H.aF g3,shO.ixa,cO3,lvo,d2,sho.ixa,c5,shy.ixa,cy,d3,d4,shR.ixa,cR3,shr.ixa,cr3]
 refine (Rq vz n z _ (by omega) Z (srk.mono (F3.trans fb))).mono ?_
 rintro vi h4 ni
 have f4:=fb.trans ni.fr
 have pvi:SI h4 vi (zi (eH z)):=(vJ ni).si
 simp(disch:=omega)only[go_sem]
 refine (qM vy vi y (eH z) h4 (by rw[Y.len];omega) (sy3.mono f4) pvi (λj hj=>by rw[iH,Z.len];exact Y.eX (by rw[←Y.len];exact hj))).mono ?_
 rintro vm h5 ⟨sm,f5,_⟩
 simp(disch:=omega)only[go_sem]
 rw[fA i]
 refine⟨n-(i+1),by omega,i+1,_,_,aA rfl,by omega,sm,Y.mul Z.inv,?_,?_,F2.trans (f3.trans (f4.trans f5)),rfl⟩
 ·refine (Fix.mul Y (by omega) fixy (Fix.inv Z (by omega) rep.fix)).succ ?_
  rw[cQ (by rw[Y.len];exact hi'),hp]
  have:=sK Z hi'
  rwa [rep.maps] at this
 ·rw[←hGy]
  constructor
  ·intro h1
   have:=hG.mul h1 rep.mem
   rwa [aY Y Z.inv Z,iI Z,bZ Y] at this
  ·exact λh1=>hG.mul h1 (hG.inv rep.mem)
theorem WD {W:Nat->Prop}(vc vx:V)(n:Nat)(O:LN)(R:kW)(G:List Nat->Prop)(x:List Nat)(h:H)(g:GC W h vc n O R G)(hx:SI h vx (zi x))(X:bT n x):
  Ev T 61 [vc,vx] h (λv h'=> ∃b,v= .tup [.bool b,aC 0]/\(b=true↔G x)/\Fr h h'):=by
 obtain⟨vO,vR,e,sO,sR⟩:=g.ch
 have chk:=g.chk
 subst e
 refine bH Cf rfl rfl ?_
 have oneO:vO.one=true:=Hc sO
 have oneR:vR.one=true:=Eo sR
 have n0:=g.n0
 have n7:=g.n7
 obtain⟨B,hB⟩:=exI h.next
 obtain⟨h1,e1,n1,g1,o1,f1⟩:=eQ hB [aC n,vO,vR]
 have bx:=bE h (v:= aC n) (u:=vO) (w:=vR) rfl oneO oneR
 have rB:=aJ g1
 simp(disch:=omega)only[go_sem,Cf,aE,bx,hB,e1,rB]
 refine Ev.mono (Q:=λv h'=>v= aC 0/\Fr h1 h') ?_ ?_
 ·refine bH xQ rfl rfl ?_
  have bx:=bE h1 (v:= aC n) (u:=vO) (w:=vR) rfl oneO oneR
  obtain⟨h2,e2,n2,g2,o2,f2⟩:=eQ n1 [aC n,vO,vR]
  have rB:=aJ g2
  simp(disch:=omega)only[go_sem,xQ,aE,bx,n1,e2,rB]
  refine (Ff _ (n:Int) _ _ h2 (g.ch.mono (f1.trans f2)) (.inl (by omega)) g.small.1 g.small.2).mono ?_
  rw[chk]
  rintro _ h3 ⟨rfl,f3⟩
  simp(disch:=omega)only[go_sem]
  refine aX (λhc=>(hc rfl).elim) (λ_=>?_)
  simp(disch:=omega)only[go_sem]
  refine (rV vx (zi x) h3 (by rw[aP,X.len];omega) (hx.mono ((f1.trans f2).trans f3))).mono ?_
  rw[Fl X n0 (by omega)]
  rintro _ h4 ⟨rfl,f4⟩
  have g4:h4.get (B+1)=some (.cells false [aC n,vO,vR]):=by rw[f4.get _ (by have:=f3.next;omega),f3.get _ (by omega)];exact g2
  have lx:=hx.lens
  rw[aP,X.len] at lx
  simp(disch:=omega)only[go_sem]
  refine aX (λhc=>(hc rfl).elim) (λ_=>?_)
  simp(disch:=omega)only[go_sem,H.aF g4,lx]
  refine aX (λhc=>(hc rfl).elim) (λ_=>?_)
  simp(disch:=omega)only[go_sem]
  exact (f2.trans f3).trans f4
 rintro _ h2 ⟨rfl,f2⟩
 have g2:h2.get B=some (.cells false [aC n,vO,vR]):=by rw[f2.get _ (by omega)];exact g1
 have rB:=aJ g2
 simp(disch:=omega)only[go_sem]
 refine aX (λhc=>(hc rfl).elim) (λ_=>?_)
 simp(disch:=omega)only[go_sem,rB]
 refine (KP _ vx n O R G x h2 n0 (by omega) g.kP g.isc (g.ch.mono (f1.trans f2)) (hx.mono (f1.trans f2)) X).mono ?_
 rintro _ h3 ⟨vr,lv,rfl,hl,f3⟩
 have g3:h3.get B=some (.cells false [aC n,vO,vR]):=by rw[f3.get _ (by have:=f2.next;omega)];exact g2
 simp(disch:=omega)only[go_sem,H.aF g3]
 exact⟨_,rfl,by rw[decide_eq_true_eq];exact hl,(f1.trans f2).trans f3⟩
theorem GF {W:Nat->Prop}(vc:V)(n:Nat)(O:LN)(R:kW)(G:List Nat->Prop)(h:H)(gc:GC W h vc n O R G):
  Ev T 110 [vc] h (λv h'=> ∃S,v= .tup [.sl S 0 (n+1) (.kn (n+1)),.bool true]/\h.next<=S/\S<h'.next/\h'.get S=some (.cells false (rc (n+1) λj=> aC (tX O (n-j) j:Nat)))/\Fr h h'):=by
 obtain⟨vO,vR,e,sO,sR⟩:=gc.ch
 subst e
 refine bH uJ rfl rfl ?_
 have isc:=gc.isc
 have n0:=gc.n0
 have n7:=gc.n7
 obtain⟨wO,tO,aO⟩:=sO
 have lO:=aO.length
 rw[jD,isc.lo] at lO
 have oneO:=tO.cJ.2.1
 have oneR:vR.one=true:=Eo sR
 obtain⟨B,hB⟩:=exI h.next
 obtain⟨h1,e1,n1,g1,o1,f1⟩:=eQ hB [aC n,vO,vR]
 have bx:=bE h (v:= aC n) (u:=vO) (w:=vR) rfl oneO oneR
 have en:(n:Int)+1=((n+1:Nat):Int):=by omega
 have mk:=kX h1 (n+1) (by omega)
 rw[n1] at mk
 obtain⟨h2,e2,n2,g2,o2,f2⟩:=eQ n1 (rc (n+1) λ_=> aC 0)
 rw[e2] at mk
 have g12:h2.get B=some (.cells false [aC n,vO,vR]):=by rw[o2 _ (by omega)];exact g1
 have pt: ∀(hh:H) (S:Nat) (F:Nat->V) (k:Nat) (v:V),k<n+1->eG (some (.cells false (rc (n+1) F))) hh S k [v]=some (hh.set S (some (.cells false (rc (n+1) λj=>if j=k then v else F j)))):=λhh S F k v hk=>by rw[bP (by rw[iE];exact hk),jL]
 obtain⟨h3,e3,n3,g3,o3⟩:=uA h2 (B+1) (rc (n+1) λj=>if j=n then aC 1 else aC 0)
 have g13:h3.get B=some (.cells false [aC n,vO,vR]):=by rw[o3 _ (by omega)];exact g12
 have hn1:n<n+1:=by omega
 simp(disch:=omega)only[go_sem,uJ,aE,bx,hB,e1,H.aF g1,en,mk,H.aF g12,g2,pt _ _ _ n _ hn1,e3,H.aF g13]
 have F3:Fr h h3:=⟨by omega,λk hk=>by rw[o3 _ (by omega),o2 _ (by omega),o1 _ (by omega)]⟩
 have szb: ∀i,i<=n->0<tX O (n-i) i/\tX O (n-i) i<=823543:=λi hi=>by
  refine⟨Hy _ _ λj h1 h2=>(gc.row (by omega)).1,Nat.le_trans (Jg (m:=7) (by omega) _ _ λj h1 h2=>by have:=(gc.row (j:=j) (by omega)).2;omega) ?_⟩;exact Nat.le_trans (Nat.pow_le_pow_right (by omega) (show n-i<=7 by omega)) (by decide)
 refine aH (λk' vars hh=> ∃(i:Nat),(∃g:Nat->V,vars= [g 0,.ptr B 0,g 2,g 3,.sl (B+1) 0 (n+1) (.kn (n+1)),aC ((i:Int)- 1),g 6,g 7])/\i<=n/\hh.get B=some (.cells false [aC n,vO,vR])/\
   hh.get (B+1)=some (.cells false (rc (n+1) λj=>if i<=j then aC (tX O (n-j) j:Nat) else aC 0))/\B+1<hh.next/\Fr h hh/\k'=i) n
  ⟨n,aA rfl,fZ _,g13,?_,by omega,F3,rfl⟩ ?_
 ·rw[g3]
  congr 2
  refine bN λj hj=>?_
  by_cases e:j=n
  ·subst e;rw[if_pos rfl,if_pos (fZ _),Nat.sub_self];rfl
  ·rw[if_neg e,if_neg (by omega)]
 clear g3 g13 o3 n3 e3 h3 F3 g12 g2 o2 n2 e2 mk h2 f2
 rintro k' vars h4 ⟨i,⟨g,rfl⟩,hi,gB,gS,nx,F,hk⟩
 subst hk
 by_cases hlt:(0:Int)<=(k':Int)- 1
 case neg=>
  have d1:=eS hlt;obtain rfl:k'=0:=by omega
  simp(disch:=omega)only[go_sem,d1];refine⟨B+1,rfl,by omega,nx,?_,F⟩;rw[gS];congr 2
 have d1:=iB hlt
 obtain⟨i,rfl⟩: ∃i,k'=i+1:=⟨k'- 1,by omega⟩
 have ei:((i+1:Nat):Int)- 1=(i:Int):=by omega
 have eI:(i:Int)+1=((i+1:Nat):Int):=by omega
 rw[ei] at d1 ⊢
 have rowO:=eU aO (i:=i) (by rw[jD,isc.lo];omega) .undef []
 rw[fI zi (d:= []) (by rw[isc.lo];omega)] at rowO
 obtain⟨ido,offo,sho,hido,hco⟩:=(tO.mono F).shape n (by omega) (by omega)
 have co:h4.cell ido (offo+i)=some (wO.getD i .undef):=by rw[hco i (by omega),List.getD,fS (by omega)];rfl
 generalize wO.getD i .undef=vo at rowO co
 have lo:=rowO.lens
 rw[aP] at lo
 obtain⟨m,hm⟩:=exI ((O.getD i []).length)
 rw[hm] at lo
 have hrow:=gc.row (j:=i) (by omega)
 rw[hm] at hrow
 have cS:h4.cell (B+1) (i+1)=some (aC ((tX O (n-(i+1)) (i+1):Nat):Int)):=by rw[gZ gS (by omega),if_pos (fZ _)]
 obtain⟨s,hs⟩:=exI (tX O (n-(i+1)) (i+1))
 rw[hs] at cS
 have hsb:=szb (i+1) (by omega)
 rw[hs] at hsb
 have hdiv:(1000000000000000000:Int).tdiv (m:Int)=((1000000000000000000/m:Nat):Int):=by
  rw[show (1000000000000000000:Int)=((1000000000000000000:Nat):Int) from rfl,Int.tdiv_eq_ediv_of_nonneg (by omega)];rfl
 have hq:100000000000000000<=1000000000000000000/m:=by
  rw[Nat.le_div_iff_mul_le (by omega)];omega
 have hq2:1000000000000000000/m<=1000000000000000000:=Nat.div_le_self _ _
 have d2:decide (((1000000000000000000/m:Nat):Int)<(s:Int))=false:=eS (by omega)
 have hmul:(s:Int)*(m:Int)=((m*s:Nat):Int):=by rw[Int.mul_comm];rfl
 have hms:m*s<=7*823543:=Nat.mul_le_mul (by omega) hsb.2
 have hi1:i<n+1:=by omega
 have hmz:(m:Int)≠0:=by omega
 simp(disch:=omega)only[go_sem,d1,H.aF gB,sho.ixa,co,lo,eI,cS,hdiv,hmz,d2,hmul,gS,pt _ _ _ i _ hi1]
 refine⟨i,by omega,i,aA rfl,by omega,gB,?_,by omega,?_,rfl⟩
 ·congr 2
  refine bN λj hj=>?_
  by_cases e:j=i
  ·subst e
   rw[if_pos rfl,if_pos (fZ _),show n-j=(n-(j+1))+1 by omega]
   unfold tX
   rw[hm,hs]
  ·rw[if_neg e]
   by_cases e2:i+1<=j
   ·rw[if_pos e2,if_pos (by omega)]
   ·rw[if_neg e2,if_neg (by omega)]
 ·exact (F.bF (by omega)).set (by omega) _
def oI (l:List Nat)(a:Nat):Nat:=(l.filter λb=>decide (b<a)).length
theorem Xv (l:List Nat)(b a:Nat):oI (l++ [b]) a=oI l a+if b<a then 1 else 0:=by
 unfold oI;rw[List.filter_append,oL]
 by_cases h:b<a<;>simp [h]
theorem Oy: ∀{S:List Nat},S.Pairwise (· < ·)-> ∀t,t<S.length->oI S (S.getD t 0)=t
 | [],_,t,h=>by simp at h
 |x::S,hs,0,_=>by
  obtain⟨h1,_⟩:=List.pairwise_cons.1 hs;unfold oI;rw[List.length_eq_zero_iff,List.filter_eq_nil_iff];intro b hb;rcases List.mem_cons.1 hb with e|hb
  ·subst e;simp
  ·have:=h1 b hb
   simp;omega
 |x::S,hs,t+1,h=>by
  obtain⟨h1,h2⟩:=List.pairwise_cons.1 hs;have ht:t<S.length:=by simpa using h
  have ih:=Oy h2 t ht;unfold oI at ih ⊢;have e:(x::S).getD (t+1) 0=S.getD t 0:=by simp [List.getD]
  have hx:x<S.getD t 0:=h1 _ (by rw[bG ht];exact List.getElem_mem ht);rw[e,List.filter_cons,if_pos (by simpa using hx),List.length_cons,ih]
theorem UT {l:List Nat}(nd:l.Nodup){j m:Nat}(hj:j<l.length)(hm:m<l.length):oI l (l.getD m 0)=j↔m=l.idxOf ((jS l).getD j 0):=by
 have pm:=iX l;have hl:=pm.length_eq;have nS:(jS l).Nodup:=pm.nodup_iff.2 nd
 have sS:(jS l).Pairwise (· < ·):=by
  rw[List.nodup_iff_pairwise_ne] at nS;exact ((Gh l).and nS).imp λ⟨h1,h2⟩=>by omega
 have e1: ∀a,oI l a=oI (jS l) a:=λa=>by
  unfold oI;exact ((pm.filter _).length_eq).symm
 have mm:l.getD m 0∈jS l:=pm.mem_iff.2 (by rw[bG hm];exact List.getElem_mem hm);obtain⟨t,ht,et⟩:=Dt.1 mm;have es:(jS l).getD t 0=l.getD m 0:=by rw[bG ht,et]
 rw[e1,←es,Oy sS t ht];constructor
 ·rintro rfl
  rw[es,bG hm,nd.idxOf_getElem]
 ·intro h
  have hj':j<(jS l).length:=by omega
  have mj:(jS l).getD j 0∈l:=pm.mem_iff.1 (by rw[bG hj'];exact List.getElem_mem hj')
  have h2:l.getD m 0=(jS l).getD j 0:=by
   have hx:=List.idxOf_lt_length_iff.2 mj;rw[h,bG hx,List.getElem_idxOf]
  rw[←es,bG ht,bG hj'] at h2;exact (List.getElem_inj nS).1 h2
theorem AB {α:Type}(f:Nat->List α){s:Nat}(d:α)(hs:0<s): ∀(l:List Nat) (k:Nat),(∀a∈l,(f a).length=s)->k<l.length*s->
  k/s<l.length/\(l.flatMap f).getD k d=(f (l.getD (k/s) 0)).getD (k%s) d
 | [],k,_,h=>by simp at h
 |a::l,k,hl,h=>by
  have ha:=hl a (by simp);rw[List.flatMap_cons]
  by_cases hk:k<s
  ·rw[Nat.div_eq_of_lt hk,Nat.mod_eq_of_lt hk]
   refine⟨by simp,?_⟩;rw[List.getD,Gt (by omega)];simp [List.getD]
  ·have ih:=AB f d hs l (k-s) (λb hb=>hl b (List.mem_cons_of_mem _ hb)) (by rw[List.length_cons,Nat.succ_mul] at h;omega)
   have e1:k/s=(k-s)/s+1:=by rw[Nat.div_eq_sub_div hs (by omega)]
   have e2:k%s=(k-s)%s:=Nat.mod_eq_sub_mod (by omega);refine⟨by rw[e1,List.length_cons];omega,?_⟩;rw[e1,e2,List.getD,List.getElem?_append_right (by omega),ha];have:=ih.2;simp only[List.getD,List.getElem?_cons_succ] at this ⊢;exact this
section
variable {n:Nat} {G:List Nat->Prop} {O:LN} {R:kW}
theorem OA (hG:sC n G)(c:dM n G O R){d i:Nat}{x:List Nat}(hi:i+(d+1)=n)(X:bT n x){k:Nat}(hs:0<tX O d (i+1))(hk:k<tX O (d+1) i):
  k/tX O d (i+1)<(fT O x i).length/\(jS (fT O x i)).getD (k/tX O d (i+1)) 0∈fT O x i/\
   (cG O R (d+1) i x).getD k []=(cG O R d (i+1) (mT O R x i ((jS (fT O x i)).getD (k/tX O d (i+1)) 0))).getD (k%tX O d (i+1)) []:=by
 have hl:(jS (fT O x i)).length=(O.getD i []).length:=by rw[(iX _).length_eq];simp [fT]
 have ms: ∀im,im∈jS (fT O x i)↔im∈fT O x i:=λim=>(iX _).mem_iff
 obtain⟨h1,h2⟩:=AB (λim=>cG O R d (i+1) (mT O R x i im)) [] hs (jS (fT O x i)) k (λim him=>by
  obtain⟨_,_,_,_,_,_,Y,_⟩:=qV hG c X (by omega) ((ms im).1 him)
  exact (Fo hG c d (i+1) _ (by omega) Y).2.2) (by rw[hl];exact hk)
 refine⟨by rw[←(iX _).length_eq];exact h1,(ms _).1 (by rw[bG h1];exact List.getElem_mem h1),h2⟩
end
theorem Pu {h hh:H}{v:V}{l:List Nat}{b:Nat}(s:SI h v (zi l))(hb:b=l.length): ∃id off,Sl v 1 b id off/\ ∀hh,Fr h hh-> ∀k,k<b->hh.cell id (off+k)=some (aC (l.getD k 0:Nat)):=by
 subst hb;obtain⟨id,off,sh,hid,hc⟩:=s.open;rw[aP] at sh hid hc;refine⟨id,off,sh,λhh f k hk=>?_⟩;rw[f.cell (hid (by omega)),hc k hk];congr 2;rw[zi,fI _ (d:=0) hk]
theorem AO {v:V}{b:Nat}(h: ∀id off len cap,v= .sl id off len cap->b<=id):Wx (λq=>q<b) v:=by
 cases v with
 |sl id off len cap=>exact λh2=>by have:=h _ _ _ _ rfl;omega
 |_=>trivial
theorem EB {W:Nat->Prop}(vc:V)(n:Nat)(O:LN)(R:kW)(G:List Nat->Prop)(h:H)(gc:GC W h vc n O R G)(S k0:Nat)(hS:S<h.next)
  (gS:h.get S=some (.cells false (rc (n+1) λj=> aC (tX O (n-j) j:Nat)))) (hk0:k0<tX O n 0):
  Ev T 111 [vc,.sl S 0 (n+1) (.kn (n+1)),aC k0] h (λv h'=>PV (λq=>q<h.next) h' v ((cG O R n 0 (cH n)).getD k0 [])/\Fr h h'):=by
 obtain⟨vO,vR,e,sO,sR⟩:=gc.ch
 subst e
 refine bH tK rfl rfl ?_
 have isc:=gc.isc
 have n7:=gc.n7
 have hG:=gc.kP
 obtain⟨lO,evO,_,oneO,idO,offO,wsO,shO,cO⟩:=sA sO
 obtain⟨lR,evR,_,oneR,idR,offR,wsR,shR,cR⟩:=yV sR
 rw[jD,isc.lo] at shO cO
 rw[jD,isc.lr] at shR cR
 obtain⟨B,hB⟩:=exI h.next
 obtain⟨h1,e1,n1,g1,o1,f1⟩:=eQ hB [aC n,vO,vR]
 have c0: ∀hh,Fr h1 hh->hh.cell B 0=some (aC n):=λhh f=>by rw[f.cell (by omega),H.aF g1];rfl
 have c1: ∀hh,Fr h1 hh->hh.cell B 1=some vO:=λhh f=>by rw[f.cell (by omega),H.aF g1];rfl
 have c2: ∀hh,Fr h1 hh->hh.cell B 2=some vR:=λhh f=>by rw[f.cell (by omega),H.aF g1];rfl
 have cS: ∀hh,Fr h1 hh-> ∀j,j<n+1->hh.cell S j=some (aC (tX O (n-j) j:Nat)):=λhh f j hj=>by
  rw[(f1.trans f).cell hS,gZ gS hj]
 have bx:=bE h (v:= aC n) (u:=vO) (w:=vR) rfl oneO oneR
 simp(disch:=omega)only[go_sem,tK,aE,bx,hB,e1,c0 h1 (Fr.refl _)]
 refine (AR n h1 (by omega)).mono ?_
 rintro u h2 ⟨su,f2,hu⟩
 obtain⟨L,hL⟩:=exI ((cG O R n 0 (cH n)).getD k0 [])
 rw[hL]
 simp(disch:=omega)only[go_sem]
 refine aH (λk' vars hh=> ∃(i k:Nat) (u:V) (x:List Nat),(∃g:Nat->V,vars= [g 0,.sl S 0 (n+1) (.kn (n+1)),aC k,.ptr B 0,g 4,u,aC i,g 7,g 8,g 9,g 10,g 11,g 12,g 13,g 14,g 15,g 16])/\i<=n/\bT n x/\PV (λq=>q<h.next) hh u x/\k<tX O (n-i) i/\(cG O R (n-i) i x).getD k []=L/\Fr h1 hh/\k'=n-i) n
  ⟨0,k0,u,_,aA rfl,iP _,bT.one n,⟨su,AO λ_ _ _ _ e=>by have:=hu _ _ _ _ e;omega⟩,hk0,hL,f2,rfl⟩ ?_
 clear su f2 hL hk0 hu
 rintro k' vars h3 ⟨i,k,u,x,⟨g,rfl⟩,hi,X,su,hk,hL,F,rfl⟩
 by_cases hlt:(i:Int)<(n:Int)
 case neg=>
  have d1:=eS hlt;obtain rfl:i=n:=by omega
  simp(disch:=omega)only[go_sem,c0 h3 F,d1];rw[Nat.sub_self] at hk hL;have:k=0:=by unfold tX at hk;omega
  subst this;unfold cG at hL;have hL:x=L:=hL;subst hL;exact⟨by rw[←hB];exact su,f1.trans F⟩
 have d1:=iB hlt
 have hin:i<n:=by omega
 obtain⟨d,hd⟩: ∃d,n-i=d+1:=⟨n-i- 1,by omega⟩
 have hd':n-(i+1)=d:=by omega
 rw[hd] at hk hL
 have sp:0<tX O d (i+1):=Hy _ _ λj h1 h2=>(gc.row (by omega)).1
 obtain⟨a1,a2,a3⟩:=OA hG isc (d:=d) (by omega) X sp hk
 rw[hL] at a3
 have cs:=cS h3 F (i+1) (by omega)
 rw[hd'] at cs
 obtain⟨s,hs⟩:=exI (tX O d (i+1))
 rw[hs] at sp a1 a2 a3 cs
 have hkm:k%s<s:=Nat.mod_lt _ sp
 have nd:=Iu hG isc X hin
 have la: ∀m,m<(fT O x i).length->(oI (fT O x i) ((fT O x i).getD m 0)=k/s↔m=(fT O x i).idxOf ((jS (fT O x i)).getD (k/s) 0)):=λm hm=>UT nd a1 hm
 obtain⟨j0,q1,q2,q3,q4,q5,q6,_⟩:=qV hG isc X hin a2
 rw[q2] at la
 rw[q5] at a3 q6
 obtain⟨I,hI⟩:=exI (fT O x i)
 have lI:=zZ O x i
 have iat: ∀m,m<(O.getD i []).length->I.getD m 0=x.getD ((O.getD i []).getD m 0) 0:=λm hm=>by rw[←hI];exact Zy hm
 rw[hI] at la lI a1
 obtain⟨skip,hsk⟩: ∃q,k/s=q:=⟨_,rfl⟩
 rw[hsk] at la a1
 have sz7:=Jg (O:=O) (m:=7) (by omega) d (i+1) λj h1 h2=>by have:=(gc.row (j:=j) (by omega)).2;omega
 have p7:7^d<=823543:=Nat.le_trans (Nat.pow_le_pow_right (by omega) (show d<=7 by omega)) (by decide)
 have sz8:=Jg (O:=O) (m:=7) (by omega) (d+1) i λj h1 h2=>by have:=(gc.row (j:=j) (by omega)).2;omega
 have p8:7^(d+1)<=823543:=Nat.le_trans (Nat.pow_le_pow_right (by omega) (show d+1<=7 by omega)) (by decide)
 have e3:(k:Int).tdiv (s:Int)=(skip:Int):=by rw[Int.tdiv_eq_ediv_of_nonneg (by omega),←hsk];rfl
 have e4:(k:Int).tmod (s:Int)=((k%s:Nat):Int):=by rw[Int.tmod_eq_emod_of_nonneg (by omega)];rfl
 have hsz:(s:Int)≠0:=by omega
 have eI:(i:Int)+1=((i+1:Nat):Int):=by omega
 obtain⟨_,ci,si⟩:=cO i hin
 obtain⟨_,cj,sj⟩:=cR i hin
 have cOi: ∀hh,Fr h1 hh->hh.cell idO (offO+i)=some (wsO.getD i V.undef):=λhh f=>by rw[(f1.trans f).cell (by assumption)];exact ci
 have cRi: ∀hh,Fr h1 hh->hh.cell idR (offR+i)=some (wsR.getD i V.undef):=λhh f=>by rw[(f1.trans f).cell (by assumption)];exact cj
 rw[fI zi (d:= []) (by rw[isc.lo];exact hin)] at si
 rw[fI (List.map zi) (d:= []) (by rw[isc.lr];exact hin)] at sj
 generalize wsO.getD i V.undef=vo at cOi si
 generalize wsR.getD i V.undef=vr at cRi sj
 obtain⟨lr,evr,_,_,idr,offr,wsr,shr,cr⟩:=sA sj
 rw[jD,isc.rl i hin] at shr cr
 have lo:=si.lens
 rw[aP] at lo
 obtain⟨m,hm⟩:=exI ((O.getD i []).length)
 have hrow:=gc.row (j:=i) hin
 have olt: ∀j,j<m->(O.getD i []).getD j 0<n:=λj hj=>Ck hG isc hin (bD (by omega))
 rw[hm] at lo lI iat shr cr hrow q1
 obtain⟨ido,offo,sho,co⟩:=Pu (hh:=h) (b:=m) si hm.symm
 obtain⟨idx,offx,shx,cx⟩:=Pu (hh:=h) (b:=n) su.si X.len.symm
 simp(disch:=omega)only[go_sem,c0 h3 F,d1,eI,cs,e3,hsz,e4]
 have at0: ∀q:Nat,((if j0<q then j0 else 0:Nat):Int)=(if j0<q then (j0:Int) else 0):=λq=>by split<;>rfl
 refine aH (λk' vars hh=> ∃(q:Nat),(∃g:Nat->V,vars= [g 0,.sl S 0 (n+1) (.kn (n+1)),aC (k%s:Nat),.ptr B 0,g 4,u,aC i,aC skip,aC (if j0<q then j0 else 0:Nat),aC q,g 10,g 11,g 12,g 13,g 14,g 15,g 16])/\q<=m/\Fr h3 hh/\k'=m-q) m
  ⟨0,aA rfl,iP _,Fr.refl h3,rfl⟩ ?_
 rintro k' vars h4 ⟨q,⟨g,rfl⟩,hq,F4,rfl⟩
 have G4:=F.trans F4
 by_cases hlq:(q:Int)<(m:Int)
 case neg=>
  have d2:decide ((q:Int)<(m:Int))=false:=decide_eq_false hlq;have hqm:q=m:=by omega
  obtain⟨k1,ck,sk⟩:=cr j0 q1;rw[fI zi (d:= []) (by rw[isc.rl i hin];omega)] at sk;have cRk: ∀hh,Fr h1 hh->hh.cell idr (offr+j0)=some (wsr.getD j0 V.undef):=λhh f=>by rw[(f1.trans f).cell k1];exact ck
  generalize wsr.getD j0 V.undef=vg at cRk sk;have Y:=hG.dY q4.mem;generalize (R.getD i []).getD j0 []=y at sk Y a3 q6;have e5:((if j0<q then j0 else 0:Nat):Int)=(j0:Int):=by rw[if_pos (by omega)]
  simp(disch:=omega)only[go_sem,c1 h4 G4,shO.ixa,cOi h4 G4,lo,d2,c2 h4 G4,shR.ixa,cRi h4 G4,e5,shr.ixa,cRk h4 G4];refine (qM vg u y x h4 (by rw[Y.len];omega) (sk.mono (f1.trans G4)) (su.si.mono F4) (λj hj=>by rw[X.len];exact Y.eX (by rw[Y.len] at hj;exact hj))).mono ?_;rintro v h5 ⟨s5,f5,hv5⟩;simp(disch:=omega)only[go_sem];rw[eI];refine⟨n-(i+1),by omega,i+1,k%s,v,aW y x,aA rfl,by omega,q6,⟨s5,AO λ_ _ _ _ e=>by have:=hv5 _ _ _ _ e;have:=G4.next;omega⟩,by rw[hd',hs];exact hkm,by rw[hd'];exact a3.symm,G4.trans f5,rfl⟩
 have d2:decide ((q:Int)<(m:Int))=true:=decide_eq_true hlq
 have hqm:q<m:=by omega
 obtain⟨b,hb⟩:=exI (I.getD q 0)
 have hb2:=iat q hqm
 rw[hb] at hb2
 simp(disch:=omega)only[go_sem,c1 h4 G4,shO.ixa,cOi h4 G4,lo,d2]
 refine aH (λk' vars hh=> ∃(t:Nat),(∃g:Nat->V,vars= [g 0,.sl S 0 (n+1) (.kn (n+1)),aC (k%s:Nat),.ptr B 0,g 4,u,aC i,aC skip,aC (if j0<q then j0 else 0:Nat),aC q,aC (oI (I.take t) b:Nat),aC t,g 12,g 13,g 14,g 15,g 16])/\t<=m/\Fr h4 hh/\k'=m-t) m
  ⟨0,aA rfl,iP _,Fr.refl h4,rfl⟩ ?_
 rintro k' vars h5 ⟨t,⟨g,rfl⟩,ht,F5,rfl⟩
 have G5:=G4.trans F5
 by_cases hlt2:(t:Int)<(m:Int)
 case neg=>
  have d3:=eS hlt2;rw[List.take_of_length_le (show I.length<=t by omega)];have hla:=la q (by omega);rw[hb] at hla
  by_cases hq0:oI I b=skip
  ·have d4:decide (((oI I b:Nat):Int)=(skip:Int))=true:=iB (by omega)
   have hqj:=hla.1 hq0;simp(disch:=omega)only[go_sem,c1 h5 G5,shO.ixa,cOi h5 G5,lo,d3,d4];rw[fA q];refine⟨m-(q+1),by omega,q+1,?_,by omega,F4.trans F5,rfl⟩;rw[if_pos (by omega),←hqj];exact aA rfl
  ·have d4:decide (((oI I b:Nat):Int)=(skip:Int))=false:=eS (by omega)
   have hqj:q≠j0:=λe=>hq0 (hla.2 e)
   simp(disch:=omega)only[go_sem,c1 h5 G5,shO.ixa,cOi h5 G5,lo,d3,d4];rw[fA q];refine⟨m-(q+1),by omega,q+1,?_,by omega,F4.trans F5,rfl⟩
   have e6:(if j0<q+1 then j0 else 0)=if j0<q then j0 else 0:=by
    by_cases h:j0<q
    ·rw[if_pos h,if_pos (by omega)]
    ·rw[if_neg h,if_neg (by omega)]
   rw[e6];exact aA rfl
 have d3:=iB hlt2
 have htm:t<m:=by omega
 have hot:=olt t (by omega)
 have hoq:=olt q (by omega)
 have ct:=co h5 (f1.trans G5) t htm
 have cq:=co h5 (f1.trans G5) q hqm
 have hc:=iat t htm
 have step:I.take (t+1)=I.take t++ [I.getD t 0]:=dI 0 (by omega)
 generalize (O.getD i []).getD t 0=ot at ct hot hc
 generalize (O.getD i []).getD q 0=oq at cq hoq hb2
 have cxt:=cx h5 (F4.trans F5) ot hot
 have cxq:=cx h5 (F4.trans F5) oq hoq
 rw[←hc] at cxt
 rw[←hb2] at cxq
 generalize I.getD t 0=c at cxt step
 have ls:=Xv (I.take t) c b
 have ll:oI (I.take t) b<=t:=Nat.le_trans (List.length_filter_le _ _) (by rw[Lz];omega)
 rw[←step] at ls
 by_cases hcb:(c:Int)<(b:Int)
 ·have d4:decide ((c:Int)<(b:Int))=true:=decide_eq_true hcb
  rw[if_pos (by omega)] at ls
  simp(disch:=omega)only[go_sem,c1 h5 G5,shO.ixa,cOi h5 G5,lo,d3,sho.ixa,ct,cq,shx.ixa,cxt,cxq,d4]
  rw[show (t:Int)+1=((t+1:Nat):Int) from by omega,show ((oI (I.take t) b:Nat):Int)+1=((oI (I.take t) b+1:Nat):Int) from by omega,←ls]
  exact⟨m-(t+1),by omega,t+1,aA rfl,by omega,F5.bF (by omega),rfl⟩
 ·have d4:decide ((c:Int)<(b:Int))=false:=decide_eq_false hcb
  rw[if_neg (by omega)] at ls
  simp(disch:=omega)only[go_sem,c1 h5 G5,shO.ixa,cOi h5 G5,lo,d3,sho.ixa,ct,cq,shx.ixa,cxt,cxq,d4]
  rw[show (t:Int)+1=((t+1:Nat):Int) from by omega,show ((oI (I.take t) b:Nat):Int)=((oI (I.take t) b+0:Nat):Int) from by omega,←ls]
  exact⟨m-(t+1),by omega,t+1,aA rfl,by omega,F5.bF (by omega),rfl⟩
variable {h:H} {v:V} {b:Nat} {W:Nat->Prop}
theorem YN {h0:H}{vl:V}{wl:List V}{ls:LN}{x:List Nat}(o:dB h vl 1 wl h0.next)(f:Fr h0 h)(hl:wl.length<1000000)(hb:b<=h0.next)(p:fF (λq=>q<b∨kQ vl q) h wl ls)(pv:PV (λq=>q<b∨kQ vl q) h v x):
  ∃h2,yF (h.new (.cells false [v])) 1 24 vl (.sl h.next 0 1 (.kn 1))=some (.sl (h.next+1) 0 (wl.length+1) (.un 1),h2)/\dB h2 (.sl (h.next+1) 0 (wl.length+1) (.un 1)) 1 (wl++ [v]) h0.next/\fF (λq=>q<b∨kQ (.sl (h.next+1) 0 (wl.length+1) (.un 1)) q) h2 (wl++ [v]) (ls++ [x])/\Fr h0 h2/\h2.next=h.next+2:=by
 obtain⟨h2,a2,ow,f2,n2,o2⟩:=Ag (v:=v) o f hl (bytes:=24) (by omega)
 have x2:Fx (λq=>q<b∨kQ vl q) h h2:=⟨by omega,λq h1 h2=>o2 q h1 λid off m c e e2=>h2 (.inr ⟨off,m,c,e2▸e⟩)⟩
 have w2: ∀q,q<h.next->(q<b∨kQ (.sl (h.next+1) 0 (wl.length+1) (.un 1)) q)->(q<b∨kQ vl q):=λq h1 h2=>by
  rcases h2 with h2|⟨_,_,_,e⟩
  ·exact .inl h2
  ·cases e;omega
 exact⟨h2,a2,ow,(fF.go p x2 w2).append (fF.one (PV.go pv x2 w2)),f2,n2⟩
theorem PV.aaL {h':H}{vl:V}{wl:List V}{sz c:Nat}{x:List Nat}(o:dB h vl sz wl b)(hc:c<=h.next)(p:PV (λq=>q<h.next) h' v x):PV (λq=>q<c∨kQ vl q) h' v x:=
 p.sP λq _ e=>by
  rcases e with e|⟨_,_,_,e⟩
  ·omega
  ·exact (o.in _ _ _ _ e).1
theorem NP {ws:List V}{L:LN}(o:dB h v 1 ws b)(p:fF W h ws L): ∃id off,Sl v 1 L.length id off/\ ∀i,i<L.length->id<h.next/\h.cell id (off+i)=some (ws.getD i V.undef)/\PV W h (ws.getD i V.undef) (L.getD i []):=by
 have hl:=aZ.length p;obtain⟨id,off,sh,hid,hc⟩:=SV.shape o.sv L.length (by omega) (by omega);refine⟨id,off,sh,λi hi=>⟨hid (by omega),?_,eU p hi .undef []⟩⟩;rw[hc i (by omega),List.getD,fS (by omega)];rfl
theorem fF.fr {h':H}{vs:List V}{ls:LN}(p:fF W h vs ls)(f:Fr h h'):fF W h' vs ls:=p.mono λ_ _ x=>⟨x.si.mono f,x.off⟩
theorem GC.WG {vc:V}{n:Nat}{O:LN}{R:kW}{G:List Nat->Prop}(g:GC W h vc n O R G):Ev T 109 [vc] h (λv h'=>v= aC 0/\Fr h h'):=by
 obtain⟨so,sr⟩:=g.small;have:=Ff vc (n:Int) (O.map zi) (R.map (List.map zi)) h g.ch (.inl (by have:=g.n7;omega)) so sr;rwa [g.chk] at this
theorem FV (vc:V)(d:Int)(O:List (List Int))(R:List (List (List Int)))(h:H)(hc:Az h vc d O R)(hd:d<=7∨64<d)(so:lF O)(sr:lH R)(hb:kI d O R≠0):
  Ev T 80 [vc] h (λv h'=>v= .tup [.aB,aC (kI d O R)]/\Fr h h'):=by
 have hc0:=hc
 obtain⟨vO,vR,rfl,sO,sR⟩:=hc
 refine bH oN rfl rfl ?_
 have oneO:vO.one=true:=Hc sO
 have oneR:vR.one=true:=Eo sR
 obtain⟨B,hB⟩:=exI h.next
 obtain⟨h1,e1,n1,g1,o1,f1⟩:=eQ hB [aC d,vO,vR]
 have bx:=bE h (v:= aC d) (u:=vO) (w:=vR) rfl oneO oneR
 simp(disch:=omega)only[go_sem,oN,aE,bx,hB,e1,aJ g1]
 refine (Ff _ d O R h1 (hc0.mono f1) hd so sr).mono ?_
 rintro _ h4 ⟨rfl,f4⟩
 have d1:decide (kI d O R≠0)=true:=decide_eq_true hb
 simp(disch:=omega)only[go_sem,d1]
 exact f1.trans f4
theorem MV (vc:V)(n:Nat)(O:LN)(R:kW)(G:List Nat->Prop)(h:H)(gc:GC W h vc n O R G)(L:LN)(hL:cG O R n 0 (cH n)=L):
  Ev T 80 [vc] h (λv h'=> ∃vl wl,v= .tup [vl,aC 0]/\dB h' vl 1 wl h.next/\fF (λq=>q<h.next) h' wl L/\Fr h h'):=by
 have gc0:=gc
 obtain⟨vO,vR,e,sO,sR⟩:=gc.ch
 subst e
 refine bH oN rfl rfl ?_
 have isc:=gc.isc
 obtain⟨iel,ll⟩:=eE gc.kP isc
 have ll5:=kU gc
 rw[hL] at iel ll
 have oneO:vO.one=true:=Hc sO
 have oneR:vR.one=true:=Eo sR
 obtain⟨B,hB⟩:=exI h.next
 obtain⟨h1,e1,n1,g1,o1,f1⟩:=eQ hB [aC n,vO,vR]
 have bx:=bE h (v:= aC n) (u:=vO) (w:=vR) rfl oneO oneR
 have rB: ∀hh,Fr h1 hh->hh.row B 0 3=some [aC n,vO,vR]:=λhh f=>aJ (by rw[f.get B (by omega)];exact g1)
 simp(disch:=omega)only[go_sem,oN,aE,bx,hB,e1,rB h1 (Fr.refl _)]
 refine ((gc0.mono f1).WG).mono ?_
 rintro _ h2 ⟨rfl,f2⟩
 simp(disch:=omega)only[go_sem]
 refine aX (λhc=>(hc rfl).elim) (λ_=>?_)
 simp(disch:=omega)only[go_sem,rB h2 f2]
 refine (GF _ n O R G h2 (gc0.mono (f1.trans f2))).mono ?_
 rintro _ h3 ⟨S,rfl,hS1,hS2,gS,f3⟩
 have F3:=f2.trans f3
 have cS: ∀hh,Fr h3 hh->hh.cell S 0=some (aC (L.length:Int)):=λhh f=>by
  rw[f.cell hS2,gZ gS (by omega),ll];rfl
 obtain⟨m,hm⟩:=exI L.length
 have d2:decide ((5040:Int)<(m:Int))=false:=eS (by omega)
 rw[hm] at cS
 have n0:=gc.n0
 simp(disch:=omega)only[go_sem,cS h3 (Fr.refl _),d2]
 refine aH (λk' vars hh=> ∃(i:Nat) (vl:V) (wl:List V),(∃g:Nat->V,vars= [g 0,.ptr B 0,g 2,g 3,g 4,.sl S 0 (n+1) (.kn (n+1)),g 6,vl,aC i,g 9,g 10,g 11])/\i<=m/\dB hh vl 1 wl h3.next/\fF (λq=>q<B∨kQ vl q) hh wl (L.take i)/\Fr h3 hh/\k'=m-i) m
  ⟨0,.aB, [],aA rfl,iP _,dB.aB _ _ _,trivial,Fr.refl _,rfl⟩ ?_
 rintro k' vars h4 ⟨i,vl,wl,⟨g,rfl⟩,hi,ow,al,F,rfl⟩
 have G4:=F3.trans F
 have nG4:=G4.next
 have nF3:=F3.next
 have hws:=al.length
 rw[Lz] at hws
 by_cases hlt:(i:Int)<(m:Int)
 case neg=>
  have d3:=eS hlt;simp(disch:=omega)only[go_sem,cS h4 F,d3];rw[List.take_of_length_le (by omega)] at al;exact⟨_,wl,rfl,ow.le (by omega),fF.sP al λq _ hq=> .inl (by omega),f1.trans G4⟩
 have d3:=iB hlt
 simp(disch:=omega)only[go_sem,cS h4 F,d3,rB h4 G4]
 refine (EB _ n O R G h4 (gc0.mono (f1.trans G4)) S i (by have:=F.next;omega) (by rw[F.get _ hS2];exact gS) (by omega)).mono ?_
 rintro v h5 ⟨s5,f5⟩
 rw[hL] at s5
 obtain⟨h6,a6,ow6,p6,f6,n6⟩:=YN (ow.fr f5) (F.trans f5) (by omega) (b:=B) (by omega) (fF.fr al f5) (PV.aaL ow (by omega) s5)
 simp(disch:=omega)only[go_sem,cT _ (z:= .aB) s5.dZ.1 s5.dZ.2,a6]
 rw[fA i]
 refine⟨m-(i+1),by omega,i+1,_,_,aA rfl,by omega,ow6,?_,f6,rfl⟩
 rw[dI [] (by omega)]
 exact p6
variable {ks:List Cls.KE}
def Ya (a:Cls.KE):List V:= [a.rep,aC (a.ord:Int),aC (a.size:Int)]
theorem tG (a:Cls.KE)(r:List Cls.KE):eV (a::r)=Ya a++eV r:=rfl
theorem GB (a b:List Cls.KE):eV (a++b)=eV a++eV b:=by unfold eV;rw[List.flatMap_append]
theorem CD: ∀{ks:List Cls.KE} {pre:List V} {i:Nat} (a:Cls.KE),i<ks.length->putAt (pre++eV ks) (pre.length+i*3) (Ya a)=some (pre++eV (ks.set i a))
 | [],_,_,_,hi=>by simp at hi
 |b::r,pre,0,a,_=>by
  have e1:(Ya a).length=3:=rfl;have e2:(Ya b).length=3:=rfl;unfold putAt;rw[tG,List.set_cons_zero,tG,if_pos (by simp only[oL];omega),Nat.zero_mul,Nat.add_zero,List.take_left,e1,←e2,←oL,←List.append_assoc,List.drop_left,List.append_assoc]
 |b::r,pre,i+1,a,hi=>by
  have:=CD (ks:=r) (pre:=pre++Ya b) (i:=i) a (by simpa using hi);rw[oL,show (Ya b).length=3 from rfl] at this;rw[show pre.length+(i+1)*3=pre.length+3+i*3 by omega,List.set_cons_succ,tG,tG,←List.append_assoc,←List.append_assoc];exact this
theorem KN {i:Nat}(hi:i<ks.length)(h:H)(S:Nat)(a:Cls.KE):eG (some (.cells false (eV ks))) h S (0+i*3) [a.rep,aC (a.ord:Int),aC (a.size:Int)]=some (h.set S (some (.cells false (eV (ks.set i a))))):=by
 have:=CD (pre:= []) a hi;simp only[List.nil_append,List.length_nil] at this;show Option.map (λvs'=>h.set S (some (Ob.cells false vs'))) (putAt (eV ks) (0+i*3) (Ya a))=_;rw[this];rfl
def VN:Cls.KE:=⟨.aB,0,0,.aB,0,⟨rfl,rfl,rfl⟩,⟨rfl,rfl,rfl⟩⟩
theorem Vs (n:Nat):dQ [.aB,aC 0,aC 0] (n*3)=eV (List.replicate n VN):=by
 induction n with
 |zero=>rfl
 |succ n ih=>
  rw[List.replicate_succ,tG,←ih];unfold dQ;rw[show (n+1)*3=n*3+1+1+1 by omega,List.range_succ_eq_map,List.range_succ_eq_map,List.range_succ_eq_map];simp only[List.map_cons,List.map_map];refine congrArg (λl=>V.aB::aC 0::aC 0::l) (List.map_congr_left λi _=>?_);show [V.aB,aC 0,aC 0].getD ((i+3)%3) V.undef= [V.aB,aC 0,aC 0].getD (i%3) V.undef;rw[Nat.add_mod_right]
theorem abK (h:H)(n:Nat)(hn:n<=100000):Cu h 3 40 [.aB,aC 0,aC 0] (aC n) (aC n)=some (.sl h.next 0 n (.kn n),h.new (.cells false (eV (List.replicate n VN)))):=by
 rw[qQ (by omega) (Int.le_refl _) (by omega) (by omega),Int.toNat_natCast,Vs]
def Tz (M K:List Nat)(ks:List Cls.KE)(w t:Nat):List Cls.KE:=(List.range w).map λq=>if M.idxOf (K.getD q 0)<t then ks.getD (M.idxOf (K.getD q 0)) VN else VN
theorem PM (M K:List Nat)(ks:List Cls.KE)(w:Nat):Tz M K ks w 0=List.replicate w VN:=by
 unfold Tz;refine List.ext_getElem (by simp) λi h1 h2=>by simp
theorem BZ (M K:List Nat)(ks:List Cls.KE)(w t:Nat):(Tz M K ks w t).length=w:=by simp [Tz]
theorem RK {M K:List Nat}{w t:Nat}(pK:K.Perm M)(nd:M.Nodup)(hw:M.length=w)(ht:t<w):(Tz M K ks w t).set (K.idxOf (M.getD t 0)) (ks.getD t VN)=Tz M K ks w (t+1):=by
 have hK:=pK.length_eq;have ndK:=pK.nodup_iff.2 nd;have hm:M.getD t 0∈K:=pK.mem_iff.2 (bD (by omega));have hq:=List.idxOf_lt_length_iff.2 hm;have et:M.idxOf (M.getD t 0)=t:=by rw[Pm.bG (show t<M.length by omega)];exact nd.idxOf_getElem _ _
 refine List.ext_getElem (by simp [Tz]) λq h1 h2=>?_
 have hqw:q<w:=by simpa [Tz] using h1
 rw[List.getElem_set];simp only[Tz,List.getElem_map,List.getElem_range]
 by_cases e:K.idxOf (M.getD t 0)=q
 ·rw[if_pos e]
  have e2:K.getD q 0=M.getD t 0:=by rw[←e,Pm.bG hq,List.getElem_idxOf]
  rw[e2,et,if_pos (by omega)]
 ·rw[if_neg e]
  have e2:M.idxOf (K.getD q 0)≠t:=λh=>by
   have hm2:K.getD q 0∈M:=pK.mem_iff.1 (bD (by omega));have h3:=List.idxOf_lt_length_iff.2 hm2;have e3:M.getD t 0=K.getD q 0:=by rw[←h,Pm.bG h3,List.getElem_idxOf]
   rw[e3,Pm.bG (show q<K.length by omega)] at e;exact e (ndK.idxOf_getElem _ _)
  by_cases h:M.idxOf (K.getD q 0)<t
  ·rw[if_pos h,if_pos (by omega)]
  ·rw[if_neg h,if_neg (by omega)]
theorem KM {M K:List Nat}{w:Nat}(pK:K.Perm M)(hw:M.length=w){P:Cls.KE->Nat->Prop}(al:aZ P ks M):aZ P (Tz M K ks w w) K:=by
 have hK:=pK.length_eq;have lks:=aZ.length al;refine aZ.lJ (by rw[BZ];omega) λq h1 h2=>?_
 have hm2:K.getD q 0∈M:=pK.mem_iff.1 (bD (by omega));have h3:=List.idxOf_lt_length_iff.2 hm2;simp only[Tz,List.getElem_map,List.getElem_range];rw[if_pos (by omega),List.getD,fS (by omega)];have:=aZ.get al (M.idxOf (K.getD q 0)) (by omega) h3;rw[List.getElem_idxOf] at this;have e:K.getD q 0=K[q]:=Pm.bG h2;have:P ks[M.idxOf (K.getD q 0)] K[q]:=by rw[←e];exact this
 exact this
theorem Wn (a b:Cls.KE)(n:Nat)(x y:List Nat)(h:H)(hn:n<100000)(lx:x.length=n)(ly:y.length=n)(sa:SI h a.rep (zi x))(sb:SI h b.rep (zi y))(c:Bool)(hc:(a.ord<b.ord∨a.ord=b.ord/\(a.size<b.size∨a.size=b.size/\Lt x y))↔c=true):
  Ev T 83 [.agg [a.rep,aC (a.ord:Int),aC (a.size:Int)],.agg [b.rep,aC (b.ord:Int),aC (b.size:Int)]] h (λv h'=>v= .bool c/\Fr h h'):=by
 refine bH mC rfl rfl ?_
 obtain⟨B,hB⟩:=exI h.next
 obtain⟨h1,e1,n1,g1,o1,f1⟩:=eQ hB [a.rep,aC (a.ord:Int),aC (a.size:Int)]
 obtain⟨h2,e2,n2,g2,o2,f2⟩:=eQ n1 [b.rep,aC (b.ord:Int),aC (b.size:Int)]
 have bx:=bE h (v:=a.rep) (u:= aC (a.ord:Int)) (w:= aC (a.size:Int)) a.hrep.2.1 rfl rfl
 have by':=bE h1 (v:=b.rep) (u:= aC (b.ord:Int)) (w:= aC (b.size:Int)) b.hrep.2.1 rfl rfl
 have g12:h2.get B=some (.cells false [a.rep,aC (a.ord:Int),aC (a.size:Int)]):=by rw[f2.get _ (by omega)];exact g1
 have F:=f1.trans f2
 have go:=H.aF g12
 have go2:=H.aF g2
 by_cases c1:a.ord=b.ord
 case neg=>
  have d1:decide ((a.ord:Int)≠(b.ord:Int))=true:=iB (by omega);simp(disch:=omega)only[go_sem,mC,aE,bx,hB,e1,by',n1,e2,go,go2,d1];refine⟨?_,F⟩;congr 1;rw[Bool.eq_iff_iff,decide_eq_true_iff,←hc];exact⟨λh=> .inl (by omega),by rintro (h|⟨h,_⟩);omega;exact absurd h c1⟩
 have d1:decide ((a.ord:Int)≠(b.ord:Int))=false:=eS (by omega)
 by_cases c2:a.size=b.size
 case neg=>
  have d2:decide ((a.size:Int)≠(b.size:Int))=true:=iB (by omega);simp(disch:=omega)only[go_sem,mC,aE,bx,hB,e1,by',n1,e2,go,go2,d1,d2];refine⟨?_,F⟩;congr 1;rw[Bool.eq_iff_iff,decide_eq_true_iff,←hc];exact⟨λh=> .inr ⟨c1,.inl (by omega)⟩,by rintro (h|⟨_,h|⟨h,_⟩⟩);omega;omega;exact absurd h c2⟩
 have d2:decide ((a.size:Int)≠(b.size:Int))=false:=eS (by omega)
 simp(disch:=omega)only[go_sem,mC,aE,bx,hB,e1,by',n1,e2,go,go2,d1,d2]
 refine (BI a.rep b.rep n x y h2 hn lx ly (sa.mono F) (sb.mono F)).mono ?_
 rintro _ h3 ⟨rfl,f3⟩
 simp(disch:=omega)only[go_sem]
 refine⟨?_,F.trans f3⟩
 congr 1
 rw[Bool.eq_iff_iff,mP (by omega),←hc]
 exact⟨λh=> .inr ⟨c1,.inr ⟨c2,h⟩⟩,by rintro (h|⟨_,h|⟨_,h⟩⟩);omega;omega;exact h⟩
variable {i j:Nat} {Q:List Nat}
theorem BU {α:Type}{R:α->α->Prop}(irr: ∀a b,R a b-> ¬R b a)(p:α->Bool){y:α}(hp: ∀a,p a=true↔R a y): ∀{S:List α},S.Pairwise R-> ∀q,S[q]? =some y->(S.filter p).length=q
 | [],_,q,h=>by simp at h
 |x::S,hs,0,h=>by
  obtain⟨h1,_⟩:=List.pairwise_cons.1 hs;have e:x=y:=by simpa using h
  rw[List.length_eq_zero_iff,List.filter_eq_nil_iff];intro b hb hb2;have hb3:=(hp b).1 hb2;rcases List.mem_cons.1 hb with e2|hb
  ·subst e2 e;exact irr _ _ hb3 hb3
  ·subst e;exact irr _ _ hb3 (h1 b hb)
 |x::S,hs,q+1,h=>by
  obtain⟨h1,h2⟩:=List.pairwise_cons.1 hs;have h':S[q]? =some y:=by simpa using h
  have ih:=BU irr p hp h2 q h';have hx:p x=true:=(hp x).2 (h1 _ (List.mem_of_getElem? h'));rw[List.filter_cons,if_pos hx,List.length_cons,ih]
section
variable {n:Nat} {G:List Nat->Prop} {L:LN} {K:List Nat}
theorem Hj (k:Nat):(bY G L k).Nodup:=by
 unfold bY;exact List.Pairwise.filter _ List.nodup_range
theorem YC (n:Nat)(G:List Nat->Prop)(L:LN): ∃K,Fj n G L K:=by
 classical
 refine⟨(bY G L L.length).mergeSort λr s=>decide (¬Re n G L s r),List.mergeSort_perm _ _,?_⟩
 have h1:=List.pairwise_mergeSort (le:=λr s=>decide (¬Re n G L s r)) (λa b c h1 h2=>by
  simp only[decide_eq_true_eq] at h1 h2 ⊢
  unfold Re at*;omega) (λa b=>by
  simp only[Bool.or_eq_true,decide_eq_true_eq]
  unfold Re;omega) (bY G L L.length)
 have h2:((bY G L L.length).mergeSort λr s=>decide (¬Re n G L s r)).Nodup:=(List.mergeSort_perm _ _).nodup_iff.2 (Hj _);rw[List.nodup_iff_pairwise_ne] at h2;refine (h1.and h2).imp λ⟨h3,h4⟩=>?_
 simp only[decide_eq_true_eq] at h3;unfold Re at*;omega
theorem Nt {i:Nat}: ∀k,∃r,bY G L (i+k)=bY G L i++r
 |0=>⟨[],by simp⟩
 |k+1=>by
  obtain⟨r,h⟩:=Nt (i:=i) k
  by_cases hr:Ly G L (i+k)
  ·exact⟨r++ [i+k],by rw[←Nat.add_assoc,(oF _).1 hr,h,List.append_assoc]⟩
  ·exact⟨r,by rw[←Nat.add_assoc,(oF _).2 hr,h]⟩
theorem NS (hi:i<L.length)(hr:Ly G L i):(bY G L i).length<(bY G L L.length).length/\(bY G L L.length).getD (bY G L i).length 0=i:=by
 obtain⟨r,h⟩:=Nt (G:=G) (L:=L) (i:=i+1) (L.length-(i+1));rw[show i+1+(L.length-(i+1))=L.length by omega,(oF i).1 hr] at h;rw[h];simp [List.getD]
open Classical in
noncomputable def Es (G:List Nat->Prop)(L:LN)(i j:Nat):Nat:=if ∃i0,i0<i/\cR G L i0 j then mH G L (bY G L L.length) j+1 else 0
open Classical in
noncomputable def Mc (G:List Nat->Prop)(L:LN)(i:Nat)(Q:List Nat)(j:Nat):Nat:=if j∈Q then (bY G L i).length+1 else Es G L i j
theorem OB (j:Nat):Es G L 0 j=0:=by
 unfold Es;rw[if_neg];rintro⟨i0,h,_⟩;omega
theorem VD (i j:Nat):Mc G L i [] j=Es G L i j:=by
 unfold Mc;rw[if_neg (by simp)]
theorem Ui {k:Nat}:Mc G L i (Q++ [k]) j=if j=k then (bY G L i).length+1 else Mc G L i Q j:=by
 unfold Mc
 by_cases e:j=k
 ·subst e;rw[if_pos (by simp),if_pos rfl]
 ·rw[if_neg e]
  by_cases h:j∈Q
  ·rw[if_pos (by simp [h]),if_pos h]
  ·rw[if_neg (by simp [h,e]),if_neg h]
theorem BA:Es G L i j=0↔ ¬ ∃i0,i0<i/\cR G L i0 j:=by
 unfold Es
 by_cases h: ∃i0,i0<i/\cR G L i0 j
 ·rw[if_pos h];exact⟨λh2=>by omega,λh2=>absurd h h2⟩
 ·rw[if_neg h];exact⟨λ_=>h,λ_=>rfl⟩
theorem Tc:Es G L i i=0↔Ly G L i:=by
 rw[BA];exact⟨λh j hj hc=>h ⟨j,hj,hc⟩,λh ⟨j,hj,hc⟩=>h j hj hc⟩
variable (hG:sC n G) (E:jA G L)
include hG E
theorem OG (hi:i<L.length)(hr: ¬Ly G L i)(j:Nat):Es G L (i+1) j=Es G L i j:=by
 have e:(∃i0,i0<i+1/\cR G L i0 j)↔ ∃i0,i0<i/\cR G L i0 j:=by
  refine⟨λ⟨i0,h1,h2⟩=>?_,λ⟨i0,h1,h2⟩=>⟨i0,by omega,h2⟩⟩
  by_cases e:i0=i
  ·subst e
   obtain⟨k,hk,hc⟩: ∃k,k<i0/\cR G L k i0:=Ic λhn=>hr λk hk hc=>hn ⟨k,hk,hc⟩
   exact⟨k,hk,pD hG E (by omega) hc h2⟩
  ·exact⟨i0,by omega,h2⟩
 unfold Es
 by_cases h: ∃i0,i0<i/\cR G L i0 j
 ·rw[if_pos (e.2 h),if_pos h]
 ·rw[if_neg (λx=>h (e.1 x)),if_neg h]
theorem JA (hi:i<L.length)(hr:Ly G L i)(hj:j<L.length)(hc:cR G L i j):mH G L (bY G L L.length) j=(bY G L i).length:=by
 obtain⟨h1,h2⟩:=NS hi hr;exact Ar hG E (List.Perm.refl _) h1 (fW.2 ⟨hj,by rw[h2];exact hc⟩)
theorem VC (hi:i<L.length)(hr:Ly G L i)(hj:j<L.length)(hc:cR G L i j):Mc G L i Q j=0↔j∉Q:=by
 unfold Mc
 by_cases h:j∈Q
 ·rw[if_pos h];exact⟨λh2=>by omega,λh2=>absurd h h2⟩
 ·rw[if_neg h,BA]
  exact⟨λ_=>h,λ_ ⟨i0,h1,h2⟩=>hr i0 h1 (pD hG E (by omega) h2 (Du hG E hi hc))⟩
theorem LO (hi:i<L.length)(hr:Ly G L i)(hQ: ∀j,j∈Q↔j<L.length/\cR G L i j)(hj:j<L.length):Mc G L i Q j=Es G L (i+1) j:=by
 unfold Mc
 by_cases h:j∈Q
 ·have hc:=((hQ j).1 h).2
  rw[if_pos h];unfold Es;rw[if_pos ⟨i,by omega,hc⟩,JA hG E hi hr hj hc]
 ·rw[if_neg h]
  have hn: ¬cR G L i j:=λhc=>h ((hQ j).2 ⟨hj,hc⟩)
  have e:(∃i0,i0<i+1/\cR G L i0 j)↔ ∃i0,i0<i/\cR G L i0 j:=by
   refine⟨λ⟨i0,h1,h2⟩=>?_,λ⟨i0,h1,h2⟩=>⟨i0,by omega,h2⟩⟩
   by_cases e:i0=i
   ·subst e;exact absurd h2 hn
   ·exact⟨i0,by omega,h2⟩
  unfold Es
  by_cases h: ∃i0,i0<i/\cR G L i0 j
  ·rw[if_pos (e.2 h),if_pos h]
  ·rw[if_neg (λx=>h (e.1 x)),if_neg h]
theorem NX (hj:j<L.length):Es G L L.length j=mH G L (bY G L L.length) j+1:=by
 unfold Es;rw[if_pos ⟨j,hj,Ct hG E hj⟩]
omit hG in
theorem RX {r s:Nat}(hr:r<L.length)(hs:s<L.length):Lt (L.getD r []) (L.getD s [])↔r<s:=by
 have asc:=List.pairwise_iff_getElem.1 E.asc
 have up: ∀{a b:Nat},a<L.length->b<L.length->a<b->Lt (L.getD a []) (L.getD b []):=λ{a b} ha hb h=>by
  have:=asc a b ha hb h;rwa [List.getD,fS ha,List.getD,fS hb]
 refine⟨λh=>?_,up hr hs⟩;rcases Nat.lt_trichotomy r s with h1|h1|h1
 ·exact h1
 ·subst h1;exact (Lt.irrefl h).elim
 ·exact ((up hs hr h1).asymm h).elim
omit hG E in
theorem PN (ik:Fj n G L K)(p:Nat->Bool){t:Nat}(ht:t<(bY G L L.length).length)(hp: ∀u,u<(bY G L L.length).length->(p u=true↔Re n G L ((bY G L L.length).getD u 0) ((bY G L L.length).getD t 0))):
  ((List.range (bY G L L.length).length).filter p).length=K.idxOf ((bY G L L.length).getD t 0):=by
 classical
 have hm:(bY G L L.length).getD t 0∈K:=ik.perm.mem_iff.2 (bD ht)
 have hq:=List.idxOf_lt_length_iff.2 hm
 have c1:=BU (R:=Re n G L) (λa b h1 h2=>On h1 h2) (λr=>decide (Re n G L r ((bY G L L.length).getD t 0))) (y:=(bY G L L.length).getD t 0) (λa=>by simp) ik.asc (K.idxOf ((bY G L L.length).getD t 0)) (by rw[fS hq,List.getElem_idxOf])
 rw[←c1,(ik.perm.filter _).length_eq]
 generalize bY G L L.length=M at hp
 generalize M.getD t 0=y at hp
 have:(List.range M.length).filter p=(List.range M.length).filter λu=>decide (Re n G L (M.getD u 0) y):=List.filter_congr λu hu=>by
  have:=hp u (Mr.1 hu);rw[Bool.eq_iff_iff,this,decide_eq_true_iff]
 rw[this]
 have e:M=(List.range M.length).map λu=>M.getD u 0:=List.ext_getElem (by simp) λi h1 h2=>by simp [List.getD,h1]
 conv=>rhs;rw[e]
 rw[List.filter_map,jD]
 rfl
theorem IE (ik:Fj n G L K)(hj:j<L.length):mH G L (bY G L L.length) j<(bY G L L.length).length/\mH G L K j=K.idxOf ((bY G L L.length).getD (mH G L (bY G L L.length) j) 0):=by
 obtain⟨k,hk,hc⟩:=Gu hG E (List.Perm.refl _) hj;have e1:=Ar hG E (List.Perm.refl _) hk hc;rw[e1];have hm:(bY G L L.length).getD k 0∈K:=ik.perm.mem_iff.2 (bD hk);have hq:=List.idxOf_lt_length_iff.2 hm;refine⟨hk,Ar hG E ik.perm hq ?_⟩;rw[bG hq,List.getElem_idxOf];exact hc
end
variable {a b c d e f:V}
theorem QD {v:V}(ha:a.one=true)(hb:b.one=true)(hc:c.one=true)(hv:v.cells= [v])(hv1:v.one=true):uB [aC 0,.aB,.aB,.aB,.aB,.aB] [(0,3,.agg [a,b,c]),(3,1,v)]=some (.agg [a,b,c,v,.aB,.aB]):=by
 simp [uB,jZ,putAt,ha,hb,hc,hv,hv1,show (V.agg [a,b,c]).cells= [a,b,c] from rfl]
theorem xZ (h:H)(id:Nat)(ha:a.one=true)(hb:b.one=true)(hc:c.one=true)(hd:d.one=true)(he:e.one=true)(hf:f.one=true):Pj h 6 (.ptr id 0) (.agg [a,b,c,d,e,f])=eG (h.get id) h id 0 [a,b,c,d,e,f]:=Ib h id 0 6 _ rfl (by simp [ha,hb,hc,hd,he,hf])
theorem sU {x1 x2 x3 x4 x5 x6:V}(h:H)(id:Nat):eG (some (.cells false [x1,x2,x3,x4,x5,x6])) h id 0 [a,b,c,d,e,f]=some (h.set id (some (.cells false [a,b,c,d,e,f]))):=by
 simp [eG,putAt]
theorem Pk {h:H}{id:Nat}{ro:Bool}(hg:h.get id=some (.cells ro [a,b,c,d,e,f])):h.row id 0 6=some [a,b,c,d,e,f]:=by
 simp [H.row,hg,sub]
theorem Ou (vc:V)(d:Int)(O:List (List Int))(R:List (List (List Int)))(h:H)(hc:Az h vc d O R)(hd:d<=7∨64<d)(so:lF O)(sr:lH R)(hb:kI d O R≠0):
  Ev T 48 [vc] h (λv h'=>v= .tup [.agg [aC 0,.aB,.aB,.aB,.aB,.aB],aC (kI d O R)]/\Fr h h'):=by
 have hc0:=hc
 obtain⟨vO,vR,rfl,sO,sR⟩:=hc
 refine bH oP rfl rfl ?_
 have oneO:vO.one=true:=Hc sO
 have oneR:vR.one=true:=Eo sR
 obtain⟨B,hB⟩:=exI h.next
 obtain⟨h1,e1,n1,g1,o1,f1⟩:=eQ hB [aC d,vO,vR]
 obtain⟨h2,e2,n2,g2,o2,f2⟩:=eQ n1 [aC 0,.aB,.aB,.aB,.aB,.aB]
 have bx:=bE h (v:= aC d) (u:=vO) (w:=vR) rfl oneO oneR
 have rB:h2.row B 0 3=some [aC d,vO,vR]:=aJ (by rw[f2.get B (by omega)];exact g1)
 simp(disch:=omega)only[go_sem,oP,aE,bx,hB,e1,n1,e2,rB]
 refine (FV _ d O R h2 (hc0.mono (f1.trans f2)) hd so sr hb).mono ?_
 rintro _ h4 ⟨rfl,f4⟩
 have d1:decide (kI d O R≠0)=true:=decide_eq_true hb
 have g4:h4.get (B+1)=some (.cells false [aC 0,.aB,.aB,.aB,.aB,.aB]):=by rw[f4.get _ (by omega)];exact g2
 have b0:uB [aC 0,.aB,.aB,.aB,.aB,.aB] []=some (.agg [aC 0,.aB,.aB,.aB,.aB,.aB]):=rfl
 simp(disch:=omega)only[go_sem,d1,b0,xZ h4 (B+1) (a:= aC 0) (b:= .aB) (c:= .aB) (d:= .aB) (e:= .aB) (f:= .aB) rfl rfl rfl rfl rfl rfl,g4,sU,Pk (H.aT ..)]
 exact ((f1.trans f2).trans f4).set (by omega) _
theorem Yw (hh:H)(id:Nat)(y:V):eG (some (.cells false [a,b,c])) hh id 2 [y]=some (hh.set id (some (.cells false [a,b,y]))):=by
 simp [eG,putAt]
structure CA (n:Nat)(G:List Nat->Prop)(L:LN)(W:Nat->Prop)(h:H)(a:Cls.KE)(r:Nat):Prop where
 ord:a.ord=lW (L.getD r []) n
 size:a.size=(fY G L r).length
 rep:PV W h a.rep (L.getD r [])
structure ZU (n:Nat)(G:List Nat->Prop)(L:LN)(K:List Nat)(b:Nat)(vO vR:V)(hh:H)(v:V):Prop where
 ex: ∃vL S ks vM,v= .agg [aC n,vO,vR,vL,.sl S 0 K.length (.kn K.length),vM]/\b<=S/\S<hh.next/\hh.get S=some (.cells false (eV ks))/\aZ (CA n G L (λq=>q<b∨S<=q) hh) ks K/\SP hh vL L/\SI hh vM (zi (sN G L K))
theorem Yd {h:H}{id o:Nat}(ha:h.cell id o=some a)(hb:h.cell id (o+1)=some b)(hc:h.cell id (o+2)=some c):h.row id o 3=some [a,b,c]:=by
 unfold H.cell at ha hb hc;unfold H.row;split at ha
 ·rename_i ro vs e
  rw[e] at hb hc;have hb:vs[o+1]? =some b:=hb;have hc:vs[o+2]? =some c:=hc;obtain⟨la,ea⟩:=List.getElem?_eq_some_iff.1 ha;obtain⟨lb,eb⟩:=List.getElem?_eq_some_iff.1 hb;obtain⟨lc,ec⟩:=List.getElem?_eq_some_iff.1 hc;rw[e];simp only[sub];rw[if_pos (by omega),List.drop_eq_getElem_cons la,List.drop_eq_getElem_cons lb,List.drop_eq_getElem_cons lc,ea,eb,ec]
  rfl
 ·cases ha
theorem Ty {W:Nat->Prop}(vc:V)(n:Nat)(O:LN)(R:kW)(G:List Nat->Prop)(h:H)(gc:GC W h vc n O R G)(L:LN)(hL:cG O R n 0 (cH n)=L):
  Ev T 48 [vc] h (λv h'=> ∃vO vR K vg,vc= .agg [aC n,vO,vR]/\v= .tup [vg,aC 0]/\Fj n G L K/\ZU n G L K h.next vO vR h' vg/\Fr h h'):=by
 have gc0:=gc
 obtain⟨vO,vR,rfl,sO,sR⟩:=gc.ch
 refine bH oP rfl rfl ?_
 have hG:=gc.kP
 have n7:=gc.n7
 have n0:=gc.n0
 obtain⟨E,ll⟩:=eE gc.kP gc.isc
 have ll5:=kU gc
 rw[hL] at E ll
 have one3:vO.one=true/\vR.one=true:=⟨Hc sO,Eo sR⟩
 obtain⟨B,hB⟩:=exI h.next
 obtain⟨h1,e1,n1,g1,o1,f1⟩:=eQ hB [aC n,vO,vR]
 obtain⟨h2,e2,n2,g2,o2,f2⟩:=eQ n1 [aC 0,.aB,.aB,.aB,.aB,.aB]
 have bx:=bE h (v:= aC n) (u:=vO) (w:=vR) rfl one3.1 one3.2
 have rB: ∀hh,Fr h2 hh->hh.row B 0 3=some [aC n,vO,vR]:=λhh f=>aJ (by rw[f.get B (by omega),f2.get B (by omega)];exact g1)
 have F2:=f1.trans f2
 simp(disch:=omega)only[go_sem,oP,aE,bx,hB,e1,n1,e2,rB h2 (Fr.refl _)]
 refine (MV _ n O R G h2 (gc0.mono F2) L hL).mono ?_
 rintro _ h3 ⟨vL,wsL,rfl,owL,pvL,f3⟩
 have sL:SP h3 vL L:=fF.sp' owL.sv pvL
 obtain⟨m,hm⟩:=exI L.length
 have lvL:=sL.lens
 have wL:=SV.cJ (show SV h3 vL 1 _ from sL.choose_spec.1)
 rw[jD,hm] at lvL
 obtain⟨P,hP⟩:=exI h3.next
 obtain⟨h4,e4,n4,g4,o4,f4⟩:=eQ hP [aC 0,.aB,.aB,.aB,.aB,.aB]
 obtain⟨h5,e5,n5,g5,o5⟩:=uA h4 P [aC n,vO,vR,vL,.aB,.aB]
 have f45:Fr h3 h5:=⟨by omega,λq hq=>by rw[o5 q (by omega),o4 q (by omega)]⟩
 simp(disch:=omega)only[go_sem,rB h3 f3]
 refine aX (λhc=>(hc rfl).elim) (λ_=>?_)
 simp(disch:=omega)only[go_sem,rB h3 f3,QD (a:= aC n) rfl one3.1 one3.2 wL.1 wL.2.1,hP,e4,xZ h4 P (a:= aC n) (b:=vO) (c:=vR) (d:=vL) (e:= .aB) (f:= .aB) rfl one3.1 one3.2 wL.2.1 rfl rfl,g4,sU,e5,rB h5 (f3.trans f45)]
 have F5:=(F2.trans f3).trans f45
 refine (Yy _ n O R G h5 (gc0.mono F5)).mono ?_
 rintro vS h6 ⟨sS,f6⟩
 obtain⟨D,hD⟩:=exI h6.next
 obtain⟨h7,e7,n7',g7,o7,f7⟩:=eQ hD (rc m λ_=> aC 0)
 simp(disch:=omega)only[go_sem,lvL,kX _ m (by omega),hD,e7]
 obtain⟨idL,offL,shL,cL⟩:=NP owL pvL
 obtain⟨lvS,evS,idS,offS,wsS,shS,cS⟩:=Ie sS
 rw[hm] at shL cL
 obtain⟨S,hS⟩:=exI R.flatten
 have hSG: ∀s∈S,G s:=by rw[←hS];exact Ac gc0.isc
 have hSgen: ∀x,G x->fG n (λg=>g∈S) x:=λx hx=>by
  have:=(Fg hG gc0.isc x).2 hx;rw[←hS];exact this
 have sl7:R.flatten.length<=49:=by
  have h1:=nL (m:=7) (R:=R.map (List.map zi)) (i:=n) (by rw[jD,gc0.isc.lr];exact fZ _) (λj hj=>by
   rw[fI (List.map zi) (d:= []) (by rw[gc0.isc.lr];exact hj),jD,gc0.isc.rl j hj]
   have:=(gc0.row hj).2;omega)
  rw[List.take_of_length_le (by rw[jD,gc0.isc.lr];exact fZ _)] at h1;have e:(R.map (List.map zi)).flatten.length=R.flatten.length:=by simp [List.length_flatten,List.map_map,Function.comp_def]
  rw[e] at h1;have h2:n*7<=7*7:=Nat.mul_le_mul_right 7 n7;omega
 rw[hS] at lvS shS cS sl7
 obtain⟨sl,hsl⟩:=exI S.length
 rw[hsl] at lvS shS cS sl7
 have nP5:=f6.next
 have nP3:=f45.next
 have F6:=F5.trans f6
 have nF2:=F2.next
 have nf3:=f3.next
 have fD: ∀hh,Fx (· =D) h7 hh->Fr h6 hh:=λhh f=>⟨by have:=f.next;omega,λq hq=>by rw[f.get q (by omega) (λe=>by have:q=D:=e;omega)];exact o7 q (by omega)⟩
 have fD3: ∀hh,Fx (· =D) h7 hh->Fr h3 hh:=λhh f=>(f45.trans f6).trans (fD hh f)
 have cLi: ∀i,i<m-> ∀hh,Fr h3 hh->hh.cell idL (offL+i)=some (wsL.getD i V.undef):=λi hi hh f=>by rw[f.cell (cL i hi).1];exact (cL i hi).2.1
 have cSi: ∀i,i<sl-> ∀hh,Fr h6 hh->hh.cell idS (offS+i)=some (wsS.getD i V.undef):=λi hi hh f=>by rw[f.cell (cS i hi).1];exact (cS i hi).2.1
 have LP: ∀g∈L,bT n g:=λg hg=>hG.dY ((E.mem g).1 hg)
 clear e1 e2 o2 e4 g4 o4 e5 o5 bx
 refine bJ (λvs hh=> ∃(vK:V) (ks:List Cls.KE),(∃g:Nat->V,vs= [g 0,.ptr B 0,.ptr (B+1) 0,g 3,vL,g 5,.ptr P 0,g 7,.sl D 0 m (.kn m),vK,g 10,g 11,g 12,g 13,g 14,g 15,g 16,g 17,g 18,g 19,g 20,g 21,g 22,g 23,g 24,g 25,g 26,g 27,g 28,g 29,g 30,g 31,g 32,g 33])/\dB hh vK 3 (eV ks) (D+1)/\aZ (CA n G L (λq=>q<h2.next) h3) ks (bY G L m)/\hh.get D=some (.cells false (rc m λj=> aC (Es G L m j:Nat)))/\D<hh.next/\Fx (· =D) h7 hh) ?_ ?_
 ·refine aH (λk' vs hh=> ∃(i:Nat) (vK:V) (ks:List Cls.KE),(∃g:Nat->V,vs= [g 0,.ptr B 0,.ptr (B+1) 0,g 3,vL,g 5,.ptr P 0,vS,.sl D 0 m (.kn m),vK,aC i,g 11,g 12,g 13,g 14,g 15,g 16,g 17,g 18,g 19,g 20,g 21,g 22,g 23,g 24,g 25,g 26,g 27,g 28,g 29,g 30,g 31,g 32,g 33])/\i<=m/\dB hh vK 3 (eV ks) (D+1)/\aZ (CA n G L (λq=>q<h2.next) h3) ks (bY G L i)/\hh.get D=some (.cells false (rc m λj=> aC (Es G L i j:Nat)))/\D<hh.next/\Fx (· =D) h7 hh/\k'=m-i) m
   ⟨0,.aB, [],aA rfl,iP _,dB.aB _ _ _,trivial,by rw[g7,show (λj=>aC (Es G L 0 j:Nat))=λ_=>aC 0 from funext λj=>by rw[OB];rfl],by omega,Fx.refl _ _,rfl⟩ ?_
  rintro k' vars ha ⟨i,vK,ks,⟨g,rfl⟩,hi,ow,al,gD,nD,Fa,rfl⟩
  by_cases hlt:(i:Int)<(m:Int)
  case neg=>
   have d1:=eS hlt;obtain rfl:i=m:=by omega
   simp(disch:=omega)only[go_sem,lvL,d1];exact⟨vK,ks,aA rfl,ow,al,gD,nD,Fa⟩
  have d1:=iB hlt
  have him:i<m:=by omega
  have hiL:i<L.length:=by omega
  have cD:=gZ gD him
  by_cases hr:Ly G L i
  case neg=>
   have d2:decide (((Es G L i i:Nat):Int)≠0)=true:=decide_eq_true λh=>hr (Tc.1 (by omega))
   simp(disch:=omega)only[go_sem,lvL,d1,cD,d2];rw[fA i];exact⟨m-(i+1),by omega,i+1,vK,ks,aA rfl,by omega,ow,by rw[(oF i).2 hr];exact al,by rw[gD,show (λj=>aC (Es G L (i+1) j:Nat))=λj=>aC (Es G L i j:Nat) from funext λj=>by rw[OG hG E hiL hr j]],nD,Fa,rfl⟩
  have d2:decide (((Es G L i i:Nat):Int)≠0)=false:=decide_eq_false λh=>h (by rw[Tc.2 hr];rfl)
  obtain⟨_,_,pi⟩:=cL i him
  have cxi:=cLi i him
  generalize wsL.getD i V.undef=vx at cxi pi
  have si:=pi.si
  have X:=jE hG E hiL
  have f3a:=fD3 ha Fa
  simp(disch:=omega)only[go_sem,lvL,d1,cD,d2,shL.ixa,cxi ha f3a]
  refine (DK vx n (L.getD i []) ha n0 n7 X (si.mono f3a)).mono ?_
  rintro _ hb ⟨rfl,fb⟩
  obtain⟨o,ho⟩:=exI (lW (L.getD i []) n)
  rw[ho]
  have f3b:=f3a.trans fb
  have ovx:=SV.cJ si
  obtain⟨C,hC⟩:=exI hb.next
  obtain⟨hc,ec,nc,gc',oc,fc⟩:=eQ hC [.aB,aC 0,aC 0]
  obtain⟨hd,ed,nd,gd,od⟩:=uA hc C [vx,aC o,aC 0]
  have nd1:hd.next=C+1:=by omega
  obtain⟨he,ee,ne,ge,oe,fe⟩:=eQ nd1 [aC i]
  have nb:=fb.next
  have gDe:he.get D=some (.cells false (rc m λj=> aC (Es G L i j:Nat))):=by rw[oe _ (by omega),od _ (by omega),oc _ (by omega),fb.get _ (by omega)];exact gD
  obtain⟨hf,ef,nf,gf,of⟩:=uA he D ((rc m λj=> aC (Es G L i j:Nat)).set i (aC ((bY G L i).length+1:Nat)))
  have lks:=aZ.length al
  have lrp:(bY G L i).length<=i:=by
   unfold bY;refine Nat.le_trans (List.length_filter_le _ _) (by rw[List.length_range];exact fZ _)
  have lvK:cY vK=some (aC ((bY G L i).length:Int)):=by unfold cY;rw[SV.len ow.sv (n:=ks.length) (iA ks) (by omega),lks];rfl
  have bl3:uB [.aB,aC 0,aC 0] [(0,1,vx),(1,1,aC o)]=some (.agg [vx,aC o,aC 0]):=by
   simp [uB,jZ,putAt,ovx.1,ovx.2.1,show (aC o).cells= [aC o] from rfl,show (aC o).one=true from rfl]
  have pt:=bP (vs:=rc m λj=> aC (Es G L i j:Nat)) (off:=i) (by rw[iE];omega)
  have cxb:=cxi hb f3b
  simp(disch:=omega)only[go_sem,lvL,shL.ixa,cxb,bl3,hC,ec,cU hc C 0 (v:=vx) (u:= aC o) (w:= aC 0) ovx.2.1 rfl rfl,gc',cE,ed,cT hd (z:= aC 0) (v:= aC i) rfl rfl,nd1,ee,lvK,gDe,pt,show ((bY G L i).length:Int)+1=(((bY G L i).length+1:Nat):Int) from rfl,ef]
  obtain⟨pl,hpl⟩:=exI ((bY G L i).length)
  have Fbf:Fx (· =D) hb hf:=⟨by omega,λq h1 h2=>by rw[of q h2,oe q (by omega),od q (by omega),oc q (by omega)]⟩
  have F7b:Fx (· =D) h7 hb:=⟨by have:=Fa.next;omega,λq h1 h2=>by rw[fb.get q (by have:=Fa.next;omega)];exact Fa.get q h1 h2⟩
  have FT: ∀{hh},Fx (· =D) hb hh->Fx (· =D) h7 hh:=λ{hh} f=>⟨by have:=f.next;have:=F7b.next;omega,λq h1 h2=>by rw[f.get q (by have:=F7b.next;omega) h2];exact F7b.get q h1 h2⟩
  have gDf:hf.get D=some (.cells false (rc m λj=> aC (Mc G L i [i] j:Nat))):=by
   rw[gf,jL];congr 2;refine bN λj _=>?_
   rw[show [i]= []++ [i] from rfl,Ui]
   by_cases e:j=i
   ·rw[if_pos e,if_pos e]
   ·rw[if_neg e,if_neg e,VD]
  have gCf:hf.get C=some (.cells false [vx,aC o,aC 0]):=by rw[of _ (by omega),oe _ (by omega)];exact gd
  have owQ:dB hf (.sl (C+1) 0 1 (.kn 1)) 1 (ints (zi [i])) (C+1):= .inr ⟨C+1,1,.kn 1, [],rfl,rfl,.inr ⟨rfl,rfl⟩,fZ _,by omega,by rw[of _ (by omega),List.append_nil];exact ge⟩
  have B0:BQ G L S i [i] 0:=⟨by simp,by simp,rfl,λj hj=>by
   obtain rfl:j=i:=by simpa using hj
   exact⟨by omega,Ct hG E hiL⟩,λk hk=>by omega⟩
  refine bJ (λvs hh=> ∃(Q:List Nat) (vQ:V),(∃g:Nat->V,vs= [g 0,.ptr B 0,.ptr (B+1) 0,g 3,vL,g 5,.ptr P 0,vS,.sl D 0 m (.kn m),vK,aC i,g 11,.ptr C 0,vQ,g 14,g 15,g 16,g 17,g 18,g 19,g 20,g 21,g 22,g 23,g 24,g 25,g 26,g 27,g 28,g 29,g 30,g 31,g 32,g 33])/\BQ G L S i Q Q.length/\hh.get C=some (.cells false [vx,aC o,aC (Q.length:Int)])/\C<hh.next/\hh.get D=some (.cells false (rc m λj=> aC (Mc G L i Q j:Nat)))/\Fx (· =D) hb hh) ?_ ?_
  ·refine aH (λk' vs hh=> ∃(Q:List Nat) (vQ:V) (p:Nat),(∃g:Nat->V,vs= [g 0,.ptr B 0,.ptr (B+1) 0,g 3,vL,g 5,.ptr P 0,vS,.sl D 0 m (.kn m),vK,aC i,g 11,.ptr C 0,vQ,aC p,g 15,g 16,g 17,g 18,g 19,g 20,g 21,g 22,g 23,g 24,g 25,g 26,g 27,g 28,g 29,g 30,g 31,g 32,g 33])/\p<=Q.length/\BQ G L S i Q p/\dB hh vQ 1 (ints (zi Q)) (C+1)/\hh.get C=some (.cells false [vx,aC o,aC p])/\C<hh.next/\hh.get D=some (.cells false (rc m λj=> aC (Mc G L i Q j:Nat)))/\Fx (· =D) hb hh/\k'=m-p) m
    ⟨[i],_,0,aA rfl,iP _,B0,owQ,gCf,by omega,gDf,Fbf,rfl⟩ ?_
   clear gDf gCf owQ B0 Fbf ef nf gf of ee ne ge oe fe ed nd gd od ec nc gc' oc fc gDe pt cD d2
   rintro k' vars ka ⟨Q,vQ,p,⟨g2,rfl⟩,hp,BQ0,oQ,gC,nC,gD2,Fk,rfl⟩
   have hQl:=BQ0.len
   have lvQ:=dB.lens oQ (show (ints (zi Q)).length=Q.length by rw[aQ,aP])
   by_cases hpq:(p:Int)<(Q.length:Int)
   case neg=>
    have d5:decide ((p:Int)<(Q.length:Int))=false:=decide_eq_false hpq;obtain rfl:p=Q.length:=by omega
    simp(disch:=omega)only[go_sem,lvQ,d5];exact⟨Q,vQ,aA rfl,BQ0,gC,nC,gD2,Fk⟩
   have d5:decide ((p:Int)<(Q.length:Int))=true:=decide_eq_true hpq
   have hp':p<Q.length:=by omega
   obtain⟨kb,ekb,nkb,gkb,okb⟩:=uA ka C [vx,aC o,aC (p+1:Nat)]
   have pC:=Yw (a:=vx) (b:= aC o) (c:= aC p)
   simp(disch:=omega)only[go_sem,lvQ,d5,H.aF gC,gC,pC,show (p:Int)+1=((p+1:Nat):Int) from rfl,ekb]
   obtain⟨c,hcq⟩:=exI (Q.getD p 0)
   obtain⟨hcm,hcc⟩:=BQ0.mem c (by rw[←hcq];exact bD hp')
   have Cp:=jE hG E hcm
   have okb2: ∀hh,Fx (λq=>q=D∨q=C) kb hh->Fx (· =D) hb hh:=λhh f=>⟨by have:=f.next;have:=Fk.next;omega,λq h1 h2=>by rw[f.get q (by have:=Fk.next;omega) (by rintro (e|e);exact h2 e;omega),okb q (by omega)];exact Fk.get q h1 h2⟩
   have Fkb:Fx (· =D) hb kb:=okb2 kb (Fx.refl _ _)
   have nk:=Fk.next
   have oQb:dB kb vQ 1 (ints (zi Q)) (C+1):=oQ.pG (by omega) λid off n' cp e h1=>okb id (by have:=(oQ.in _ _ _ _ e).2.1;omega)
   have gDb:kb.get D=some (.cells false (rc m λj=> aC (Mc G L i Q j:Nat))):=by rw[okb D (by omega)];exact gD2
   refine aH (λk' vs hh=> ∃(Q:List Nat) (vQ:V) (t:Nat),(∃g:Nat->V,vs= [g 0,.ptr B 0,.ptr (B+1) 0,g 3,vL,g 5,.ptr P 0,vS,.sl D 0 m (.kn m),vK,aC i,g 11,.ptr C 0,vQ,aC p,aC t,g 16,g 17,g 18,g 19,g 20,g 21,g 22,g 23,g 24,g 25,g 26,g 27,g 28,g 29,g 30,g 31,g 32,g 33])/\t<=sl/\p<Q.length/\BQ G L S i Q p/\Q.getD p 0=c/\(∀s∈S.take t,∃j∈Q,L.getD j []=kE (L.getD c []) s)/\dB hh vQ 1 (ints (zi Q)) (C+1)/\hh.get C=some (.cells false [vx,aC o,aC (p+1:Nat)])/\C<hh.next/\hh.get D=some (.cells false (rc m λj=> aC (Mc G L i Q j:Nat)))/\Fx (· =D) hb hh/\k'=sl-t) sl
    ⟨Q,vQ,0,aA rfl,iP _,hp',BQ0,hcq,λs hs=>(by simp at hs),oQb,gkb,by omega,gDb,Fkb,rfl⟩ ?_
   clear BQ0 oQ gC gD2 Fk hcq hp' hQl lvQ d5 hp hpq ekb nkb gkb okb okb2 Fkb oQb gDb nk nC kb ka
   clear Q vQ
   rintro k' vars ka ⟨Q,vQ,t,⟨g3,rfl⟩,ht,hp',BQ0,hcq,hcl,oQ,gC,nC,gD2,Fk,rfl⟩
   have hQl:=BQ0.len
   by_cases htl:(t:Int)<(sl:Int)
   case neg=>
    have d5:decide ((t:Int)<(sl:Int))=false:=decide_eq_false htl;obtain rfl:t=sl:=by omega
    simp(disch:=omega)only[go_sem,lvS,d5];rw[fA p];refine⟨m-(p+1),by omega,Q,vQ,p+1,aA rfl,by omega,⟨BQ0.nd,BQ0.ne,BQ0.hd,BQ0.mem,λk hk s hs=>?_⟩,oQ,gC,nC,gD2,Fk,rfl⟩
    by_cases e:k=p
    ·subst e
     rw[hcq];exact hcl s (by rw[←hsl,List.take_length];exact hs)
    ·exact BQ0.cl k (by omega) s hs
   have d5:decide ((t:Int)<(sl:Int))=true:=decide_eq_true htl
   have ht':t<sl:=by omega
   have hpQ:p<Q.length:=hp'
   obtain⟨idq,offq,shq,cq⟩:=Pu (h:=ka) (hh:=ka) (b:=Q.length) oQ.sv rfl
   have cqp:=λhh f=>cq hh f p hpQ
   rw[hcq] at cqp
   have f6k:=fD ka (FT Fk)
   have f3k:=fD3 ka (FT Fk)
   obtain⟨_,_,sy⟩:=cS t ht'
   have cy:=cSi t ht'
   obtain⟨_,_,pz⟩:=cL c (by omega)
   have cz:=cLi c (by omega)
   generalize wsS.getD t V.undef=vy at cy sy
   generalize wsL.getD c V.undef=vz at cz pz
   have sz:=pz.si
   obtain⟨s,hs⟩:=exI (S.getD t [])
   rw[hs] at sy
   have hsS:s∈S:=by rw[←hs];exact bD (by omega)
   have Sp:=hG.dY (hSG s hsS)
   simp(disch:=omega)only[go_sem,lvS,d5,shS.ixa,cy ka f6k,shq.ixa,cqp ka (Fr.refl _),shL.ixa,cz ka f3k]
   have fb1:Fr ka (H.mk ka.tr (ka.next+19)):=(Fr.refl ka).bF (by omega)
   refine (Rq vy n s _ (by omega) Sp ((sy.mono f6k).mono fb1)).mono ?_
   rintro v38 k1 np1
   have K1:=fb1.trans np1.fr
   have ez:=SV.dW sz
   have ey:=SV.dW sy
   simp(disch:=omega)only[go_sem,cqp k1 K1,cz k1 (f3k.trans K1),cy k1 (f6k.trans K1),ez,ey]
   refine (qM v38 vz (eH s) (L.getD c []) k1 (by rw[iH,Sp.len];omega) (np1.pv (W:=λ_=>False) id).si (sz.mono (f3k.trans K1)) (λj hj=>by rw[Cp.len];exact Sp.inv.eX (by rw[←Sp.inv.len];exact hj))).mono ?_
   rintro v46 k2 ⟨s46,f46,_⟩
   have K2:=K1.trans f46
   have P2:=Sp.inv.mul Cp
   simp(disch:=omega)only[go_sem,cy k2 (f6k.trans K2),ey]
   refine (qM v46 vy _ s k2 (by rw[P2.len];omega) s46 (sy.mono (f6k.trans K2)) (λj hj=>by rw[Sp.len];exact P2.eX (by rw[←P2.len];exact hj))).mono ?_
   rintro v51 k3 ⟨s51,f51,_⟩
   have K3:=K2.trans f51
   have P3:=P2.mul Sp
   simp(disch:=omega)only[go_sem]
   have hxm:aW (aW (eH s) (L.getD c [])) s∈L:=(E.mem _).2 (hG.mul (hG.mul (hG.inv (hSG s hsS)) (Ci E hcm)) (hSG s hsS))
   refine (LV vL v51 n L _ k3 (by omega) (by omega) LP P3 E.asc (sL.mono (f3k.trans K3)) s51).mono ?_
   rintro v17 k4 ⟨hix,f4'⟩
   rcases hix with ⟨j,rfl,hj,ej⟩|⟨hno,_⟩
   case inr=>exact absurd hxm hno
   have K4:=K3.trans f4'
   have ej':L.getD j []=kE (L.getD c []) s:=ej
   have hij:cR G L i j:=pD hG E (by omega) hcc ⟨s,hSG s hsS,ej'.symm⟩
   have etk:S.take (t+1)=S.take t++ [s]:=by rw[dI [] (by omega),hs]
   have nk4:=K4.next
   have nFk:=Fk.next
   have gD4:k4.get D=some (.cells false (rc m λj=> aC (Mc G L i Q j:Nat))):=by rw[K4.get _ (by omega)];exact gD2
   have gC4:k4.get C=some (.cells false [vx,aC o,aC (p+1:Nat)]):=by rw[K4.get _ nC];exact gC
   have oQ4:=oQ.fr K4
   have F4k:Fx (· =D) hb k4:=⟨by omega,λq h1 h2=>by rw[K4.get q (by omega)];exact Fk.get q h1 h2⟩
   have cDj:=gZ gD4 (i:=j) (by omega)
   have hiff:=VC hG E (Q:=Q) hiL hr hj hij
   by_cases hjQ:j∈Q
   ·have d6:decide (((Mc G L i Q j:Nat):Int)=0)=false:=decide_eq_false λh=>hiff.1 (by omega) hjQ
    simp(disch:=omega)only[go_sem,cDj,d6]
    rw[fA t]
    refine⟨sl-(t+1),by omega,Q,vQ,t+1,aA rfl,by omega,hp',BQ0,hcq,?_,oQ4,gC4,by omega,gD4,F4k,rfl⟩
    rw[etk]
    intro s' hs'
    rcases Af.1 hs' with h1|h1
    ·exact hcl s' h1
    ·obtain rfl:s'=s:=by simpa using h1
     exact⟨j,hjQ,ej'⟩
   have d6:decide (((Mc G L i Q j:Nat):Int)=0)=true:=decide_eq_true (by rw[hiff.2 hjQ];rfl)
   obtain⟨k5,e5,m5,g5',o5'⟩:=uA k4 D ((rc m λj=> aC (Mc G L i Q j:Nat)).set j (aC (pl+1:Nat)))
   have pt:=bP (vs:=rc m λj=> aC (Mc G L i Q j:Nat)) (off:=j) (by rw[iE];omega)
   have oQ5:dB k5 vQ 1 (ints (zi Q)) (C+1):=oQ4.pG (by omega) λid off n' cp e h1=>o5' id (by have:=(oQ4.in _ _ _ _ e).2.1;omega)
   obtain⟨k6,e6',m6,g6',o6',f6'⟩:=eQ (h:=k5) rfl [aC j]
   obtain⟨k7,a7,p7⟩:=(oQ5.fr f6').push (bytes:=8) (SV.one (v:= aC j) (id:=k5.next) (by omega) g6' (.kn 1)) (n:=Q.length) (m:=1) (by rw[aQ,aP];simp) rfl (by omega) (by omega) (by omega)
   have lvK2:=lvK
   rw[hpl] at lvK2
   simp(disch:=omega)only[go_sem,cDj,d6,lvK2,show (pl:Int)+1=((pl+1:Nat):Int) from rfl,gD4,pt,e5,cT k5 (z:= aC 0) (v:= aC j) rfl rfl,e6',a7]
   rw[fA t]
   have el:ints (zi (Q++ [j]))=ints (zi Q)++ [aC j]:=by simp [zi,ints]
   have m7:=p7.next
   have apq: ∀q,q<=C->dV vQ q:=λq hq id off n' cp e e2=>by have:=(oQ5.in _ _ _ _ e).2.1;omega
   have old7: ∀q,q<=C->q≠D->k7.get q=k4.get q:=λq h1 h2=>by rw[p7.old q (by omega) (apq q h1),o6' q (by omega),o5' q h2]
   have hc0:(rc m λj'=>aC (Mc G L i Q j':Nat)).set j (aC (pl+1:Nat))=rc m λj'=> aC (Mc G L i (Q++ [j]) j':Nat):=by
    rw[jL]
    exact bN λj' _=>by
     rw[Ui,hpl]
     by_cases e:j'=j
     ·rw[if_pos e,if_pos e]
     ·rw[if_neg e,if_neg e]
   refine⟨sl-(t+1),by omega,Q++ [j],_,t+1,aA rfl,by omega,by rw[oL];omega,⟨?_,by rw[oL];simp,?_,?_,?_⟩,?_,?_,by rw[el];exact p7.own (by rw[aQ,aP];omega) rfl (by omega),by rw[old7 C (fZ _) (by omega)];exact gC4,by omega,?_,?_,rfl⟩
   ·rw[List.nodup_append]
    exact⟨BQ0.nd,by simp,λx hx y hy e=>by
     obtain rfl:y=j:=by simpa using hy
     exact hjQ (e▸hx)⟩
   ·rw[List.getD,Gt BQ0.ne];exact BQ0.hd
   ·intro x hx
    rcases Af.1 hx with h1|h1
    ·exact BQ0.mem x h1
    ·obtain rfl:x=j:=by simpa using h1
     exact⟨hj,hij⟩
   ·intro k hk s' hs'
    obtain⟨y,hy,ey⟩:=BQ0.cl k hk s' hs'
    refine⟨y,Af.2 (.inl hy),?_⟩
    rw[ey,List.getD,List.getD,List.getD,List.getD,Gt (by omega)]
   ·rw[List.getD,Gt hp'];exact hcq
   ·rw[etk]
    intro s' hs'
    rcases Af.1 hs' with h1|h1
    ·obtain⟨y,hy,ey⟩:=hcl s' h1
     exact⟨y,Af.2 (.inl hy),ey⟩
    ·obtain rfl:s'=s:=by simpa using h1
     exact⟨j,Af.2 (.inr (by simp)),ej'⟩
   ·rw[p7.old D (by omega) (apq D (by omega)),o6' D (by omega),g5',hc0]
   ·refine⟨by omega,λq h1 h2=>?_⟩
    rw[old7 q (by omega) h2]
    exact F4k.get q h1 h2
  clear gDf gCf owQ B0 Fbf ef nf gf of ee ne ge oe fe ed nd gd od ec nc gc' oc fc gDe pt cD d2
  rintro vars ka ⟨Q,vQ,⟨g2,rfl⟩,BQ1,gC,nC,gD2,Fk⟩
  have hQ:=BQ1.done hG E (fZ _) hiL hSG hSgen
  have hQo:Q.length=(fY G L i).length:=by
   have:=(List.perm_ext_iff_of_nodup BQ1.nd (qC (G:=G) (L:=L) i)).2 λj=>by rw[hQ j,fW]
   exact this.length_eq
  have hQl:=BQ1.len
  have nk:=Fk.next
  obtain⟨kc,ekc,nkc,gkc,okc,fkc⟩:=eQ (h:=ka) rfl [vx,aC o,aC (Q.length:Int)]
  have F7k:=FT Fk
  have ow':dB kc vK 3 (eV ks) (D+1):=ow.pG (by have:=fb.next;omega) λid off n' cp e h1=>by
   have h2:=(ow.in _ _ _ _ e).2.1;rw[okc id (by omega),Fk.get id (by omega) (λe=>by have:id=D:=e;omega),fb.get id (by omega)]
  obtain⟨kd,akd,pkd⟩:=ow'.push (bytes:=40) (y:= .sl ka.next 0 1 (.kn 1)) (us:= [vx,aC o,aC (Q.length:Int)]) (SV.all rfl (by omega) gkc _) (n:=ks.length) (m:=1) (by rw[iA]) rfl (by omega) (by omega) (by omega)
  have nkd:=pkd.next
  simp(disch:=omega)only[go_sem,aJ gC,Oh ovx.2.1,ekc,akd]
  rw[fA i]
  obtain⟨ke,hke1,hke2,hke3⟩: ∃a:Cls.KE,a.rep=vx/\a.ord=o/\a.size=Q.length:=⟨⟨vx,o,Q.length,.aB,0,⟨ovx.1,ovx.2.1,SV.dW si⟩,⟨rfl,rfl,rfl⟩⟩,rfl,rfl,rfl⟩
  have ap: ∀q,q<=D->dV vK q:=λq hq id off n' cp e e2=>by have:=(ow.in _ _ _ _ e).2.1;omega
  refine⟨m-(i+1),by omega,i+1,_,ks++ [ke],aA rfl,by omega,?_,?_,?_,by omega,?_,rfl⟩
  ·have t:=pkd.own (b:=D+1) (by rw[iA]) rfl (by omega)
   have e:eV (ks++ [ke])=eV ks++ [vx,aC o,aC (Q.length:Int)]:=by rw[GB];simp [eV,hke1,hke2,hke3]
   rw[e]
   exact t
  ·rw[(oF i).1 hr]
   exact al.append ⟨⟨by rw[hke2,ho],by rw[hke3,hQo],by rw[hke1];exact pi⟩,trivial⟩
  ·rw[pkd.old D (by omega) (ap D (fZ _)),okc D (by omega),gD2,bN λj hj=>by rw[LO hG E hiL hr hQ (by omega)]]
  ·refine⟨by have:=F7k.next;omega,λq h1 h2=>?_⟩
   have h2':q≠D:=h2
   rw[pkd.old q (by have:=F7k.next;omega) (ap q (by omega)),okc q (by have:=F7k.next;omega)]
   exact F7k.get q h1 h2
 rintro vars h8 ⟨vK,ks,⟨g,rfl⟩,ow,al,gD,nD,F8⟩
 obtain⟨K,ik⟩:=YC n G L
 obtain⟨M,hM⟩:=exI (bY G L m)
 rw[hM] at al
 have lks:=aZ.length al
 obtain⟨w,hw⟩:=exI M.length
 rw[hw] at lks
 have hwm:w<=m:=by
  rw[←hw,←hM];unfold bY;exact Nat.le_trans (List.length_filter_le _ _) (by rw[List.length_range];exact fZ _)
 have lvK:cY vK=some (aC w):=by unfold cY;rw[SV.len ow.sv (n:=w) (by rw[iA,lks]) (by omega)];rfl
 obtain⟨idK,offK,shK,hidK,hcK⟩:=SV.shape ow.sv w (by rw[iA,lks]) (by omega)
 rw[iA,lks] at hcK
 have f68:=fD h8 F8
 have f38:=fD3 h8 F8
 have rK: ∀i,(hi:i<w)-> ∀hh,Fr h8 hh->hh.row idK (offK+i*3) 3=some [(ks[i]'(by omega)).rep,aC ((ks[i]'(by omega)).ord:Int),aC ((ks[i]'(by omega)).size:Int)]:=λi hi hh f=>by
  obtain⟨p1,p2,p3⟩:=Ds (ks:=ks) (i:=i) (by omega);refine Yd ?_ ?_ ?_
  ·rw[f.cell (hidK (by omega)),hcK _ (by omega),p1]
  ·rw[f.cell (hidK (by omega)),Nat.add_assoc,hcK _ (by omega),p2]
  ·rw[f.cell (hidK (by omega)),Nat.add_assoc,hcK _ (by omega),p3]
 obtain⟨N,hN⟩:=exI h8.next
 obtain⟨h9,e9,n9,g9,o9,f9⟩:=eQ hN (rc w λ_=> aC 0)
 simp(disch:=omega)only[go_sem,lvK,kX _ w (by omega),hN,e9]
 have n8:=F8.next
 have fN: ∀hh,Fx (· =N) h9 hh->Fr h8 hh:=λhh f=>⟨by have:=f.next;omega,λq hq=>by rw[f.get q (by omega) (λe=>by have:q=N:=e;omega)];exact o9 q (by omega)⟩
 have KFa: ∀i,(hi:i<w)->CA n G L (λq=>q<h2.next) h3 (ks[i]'(by omega)) (M.getD i 0)/\M.getD i 0<L.length:=λi hi=>by
  have h1:=aZ.get al i (by omega) (by omega);have e:M.getD i 0=M[i]'(by omega):=bG (by omega);have hm2:M.getD i 0∈bY G L m:=by rw[hM];exact bD (by omega)
  refine⟨by rw[e];exact h1,?_⟩;have:=(kY.1 hm2).1;omega
 obtain⟨bK,hbK⟩: ∃bK:Nat->Nat->Bool,∀k i,bK k i=true↔Re n G L (M.getD k 0) (M.getD i 0):=by
  classical
  exact⟨λk i=>decide (Re n G L (M.getD k 0) (M.getD i 0)),λk i=>by simp⟩
 have nbK: ∀i,i<w->Mm (λu=>bK u i) w=K.idxOf (M.getD i 0):=λi hi=>by
  have:=PN ik (λu=>bK u i) (t:=i) (by rw[hm,hM];omega) (λu hu=>by rw[hm,hM];exact hbK u i);rw[hm,hM,hw] at this;exact this
 refine bJ (λvs hh=>(∃g:Nat->V,vs= [g 0,.ptr B 0,.ptr (B+1) 0,g 3,vL,g 5,.ptr P 0,g 7,.sl D 0 m (.kn m),vK,g 10,g 11,g 12,g 13,g 14,g 15,g 16,g 17,.sl N 0 w (.kn w),g 19,g 20,g 21,g 22,g 23,g 24,g 25,g 26,g 27,g 28,g 29,g 30,g 31,g 32,g 33])/\hh.get N=some (.cells false (rc w λt=> aC (K.idxOf (M.getD t 0):Nat)))/\N<hh.next/\Fx (· =N) h9 hh) ?_ ?_
 ·refine aH (λk' vs hh=> ∃(i:Nat),(∃g:Nat->V,vs= [g 0,.ptr B 0,.ptr (B+1) 0,g 3,vL,g 5,.ptr P 0,g 7,.sl D 0 m (.kn m),vK,g 10,g 11,g 12,g 13,g 14,g 15,g 16,g 17,.sl N 0 w (.kn w),aC i,g 20,g 21,g 22,g 23,g 24,g 25,g 26,g 27,g 28,g 29,g 30,g 31,g 32,g 33])/\i<=w/\hh.get N=some (.cells false (rc w λt=> aC (if t<i then K.idxOf (M.getD t 0) else 0:Nat)))/\N<hh.next/\Fx (· =N) h9 hh/\k'=w-i) w
   ⟨0,aA rfl,iP _,by rw[g9];rfl,by omega,Fx.refl _ _,rfl⟩ ?_
  rintro k' vars ha ⟨i,⟨g,rfl⟩,hi,gN,nN,Fa,rfl⟩
  by_cases hlt:(i:Int)<(w:Int)
  case neg=>
   have d1:=eS hlt;obtain rfl:i=w:=by omega
   simp(disch:=omega)only[go_sem,lvK,d1];exact⟨aA rfl,by rw[gN,bN λj hj=>by rw[if_pos hj]],nN,Fa⟩
  have d1:=iB hlt
  have hiw:i<w:=by omega
  simp(disch:=omega)only[go_sem,lvK,d1]
  refine aH (λk' vs hh=> ∃(k:Nat),(∃g:Nat->V,vs= [g 0,.ptr B 0,.ptr (B+1) 0,g 3,vL,g 5,.ptr P 0,g 7,.sl D 0 m (.kn m),vK,g 10,g 11,g 12,g 13,g 14,g 15,g 16,g 17,.sl N 0 w (.kn w),aC i,aC k,g 21,g 22,g 23,g 24,g 25,g 26,g 27,g 28,g 29,g 30,g 31,g 32,g 33])/\k<=w/\hh.get N=some (.cells false (rc w λt=> aC (if t<i then K.idxOf (M.getD t 0) else if t=i then Mm (λu=>bK u i) k else 0:Nat)))/\N<hh.next/\Fx (· =N) h9 hh/\k'=w-k) w
   ⟨0,aA rfl,iP _,by
    rw[gN,bN λj hj=>?_]
    by_cases e:j<i
    ·rw[if_pos e,if_pos e]
    ·rw[if_neg e,if_neg e];split<;>rfl,nN,Fa,rfl⟩ ?_
  clear gN nN Fa ha
  rintro k' vars ha ⟨k,⟨g,rfl⟩,hk,gN,nN,Fa,rfl⟩
  by_cases hlk:(k:Int)<(w:Int)
  case neg=>
   have d2:decide ((k:Int)<(w:Int))=false:=decide_eq_false hlk;obtain rfl:k=w:=by omega
   simp(disch:=omega)only[go_sem,lvK,d2];rw[fA i];refine⟨k-(i+1),by omega,i+1,aA rfl,by omega,?_,nN,Fa,rfl⟩;rw[gN,bN λj hj=>?_]
   by_cases e:j<i
   ·rw[if_pos e,if_pos (by omega)]
   ·rw[if_neg e]
    by_cases e2:j=i
    ·subst e2;rw[if_pos rfl,if_pos (by omega),nbK j hj]
    ·rw[if_neg e2,if_neg (by omega)]
  have d2:decide ((k:Int)<(w:Int))=true:=decide_eq_true hlk
  have hkw:k<w:=by omega
  have fa8:=fN ha Fa
  simp(disch:=omega)only[go_sem,lvK,d2,shK.ixa,rK k hkw ha fa8,rK i hiw ha fa8]
  obtain⟨kf1,lt1⟩:=KFa k hkw
  obtain⟨kf2,lt2⟩:=KFa i hiw
  have fbm:Fr ha (H.mk ha.tr (ha.next+9)):=(Fr.refl ha).bF (by omega)
  have ebk:(ks[k]'(by omega)).ord<(ks[i]'(by omega)).ord∨(ks[k]'(by omega)).ord=(ks[i]'(by omega)).ord/\((ks[k]'(by omega)).size<(ks[i]'(by omega)).size∨(ks[k]'(by omega)).size=(ks[i]'(by omega)).size/\Lt (L.getD (M.getD k 0) []) (L.getD (M.getD i 0) []))↔bK k i=true:=by
   rw[hbK,kf1.ord,kf1.size,kf2.ord,kf2.size,RX E lt1 lt2];rfl
  refine (Wn _ _ n (L.getD (M.getD k 0) []) (L.getD (M.getD i 0) []) _ (by omega) (jE hG E lt1).len (jE hG E lt2).len (((kf1.rep.si.mono f38).mono fa8).mono fbm) (((kf2.rep.si.mono f38).mono fa8).mono fbm) (bK k i) ebk).mono ?_
  rintro _ hb ⟨rfl,fb⟩
  have Fb:Fx (· =N) h9 hb:=⟨by have:=Fa.next;have:=fbm.next;have:=fb.next;omega,λq h1 h2=>by rw[fb.get q (by have:=Fa.next;have:=fbm.next;omega),fbm.get q (by have:=Fa.next;omega)];exact Fa.get q h1 h2⟩
  have gNb:=gN
  rw[←(fbm.trans fb).get N nN] at gNb
  have nNb:=(fbm.trans fb).next
  have cNi:=gZ gNb hiw
  rw[if_neg (by omega),if_pos rfl] at cNi
  have cs:=DV (λu=>bK u i) k
  have cl:=RQ (λu=>bK u i) k
  cases hb1:bK k i with
  |false=>
   simp(disch:=omega)only[go_sem];rw[fA k];have cs:Mm (λu=>bK u i) (k+1)=Mm (λu=>bK u i) k:=by rw[cs,hb1];rfl
   exact⟨w-(k+1),by omega,k+1,aA rfl,by omega,by rw[gNb,cs],by omega,Fb,rfl⟩
  |true=>
   rw[hb1,if_pos rfl] at cs;have pt:=bP (vs:=rc w λt=>aC (if t<i then K.idxOf (M.getD t 0) else if t=i then Mm (λu=>bK u i) k else 0:Nat)) (off:=i) (by rw[iE];omega);simp(disch:=omega)only[go_sem,cNi,gNb,pt];rw[fA k];refine⟨w-(k+1),by omega,k+1,aA rfl,by omega,?_,(show N<hb.next by omega),⟨(show h9.next<=hb.next from Fb.next),λq h1 h2=>by rw[H.aG _ h2];exact Fb.get q h1 h2⟩,rfl⟩;rw[jL];congr 2;refine bN λj hj=>?_
   by_cases e:j=i
   ·subst e
    rw[if_pos rfl,if_neg (by omega),if_pos rfl,cs];rfl
   ·rw[if_neg e,if_neg e,if_neg e]
 clear n9 g9 o9 f9 e9
 rintro vars ha ⟨⟨g,rfl⟩,gN,nN,Fa⟩
 have fa8:=fN ha Fa
 have na:=Fa.next
 have hPD:P<D:=by omega
 have gPa:ha.get P=some (.cells false [aC n,vO,vR,vL,.aB,.aB]):=by
  rw[fa8.get P (by omega),F8.get P (by omega) (λe=>by have:P=D:=e;omega),o7 P (by omega),f6.get P (by omega)];exact g5
 have gAa:ha.get (B+1)=some (.cells false [aC 0,.aB,.aB,.aB,.aB,.aB]):=by
  rw[fa8.get _ (by omega),f38.get _ (by omega),f3.get _ (by omega)];exact g2
 have gDa:ha.get D=some (.cells false (rc m λj=> aC (Es G L m j:Nat))):=by rw[fa8.get _ (by omega)];exact gD
 obtain⟨T',hT⟩:=exI ha.next
 obtain⟨hb,eb,nb,gb,ob,fb⟩:=eQ hT (eV (List.replicate w VN))
 obtain⟨hc,ec,nc,gc',oc⟩:=uA hb P [aC n,vO,vR,vL,.sl T' 0 w (.kn w),.aB]
 have gPb:hb.get P=some (.cells false [aC n,vO,vR,vL,.aB,.aB]):=by rw[fb.get _ (by omega)];exact gPa
 have p4: ∀(hh:H) (y:V),eG (some (.cells false [aC n,vO,vR,vL,.aB,.aB])) hh P 4 [y]=some (hh.set P (some (.cells false [aC n,vO,vR,vL,y,.aB]))):=λhh y=>by simp [eG,putAt]
 simp(disch:=omega)only[go_sem,lvK,abK ha w (by omega),hT,eb,gPb,p4,ec]
 have ndM:M.Nodup:=by rw[←hM];exact Hj _
 have pK:K.Perm M:=by rw[←hM,←hm];exact ik.perm
 have lK:K.length=w:=by rw[pK.length_eq,hw]
 have U0: ∀q,q<T'->q≠P->hc.get q=ha.get q:=λq h1 h2=>by rw[oc q h2,ob q (by omega)]
 have geK:0<w->D+1<=idK:=λh0=>dB.ge ow (n:=w) (by rw[iA,lks]) (by omega) shK h0
 refine bJ (λvs hh=>(∃g:Nat->V,vs= [g 0,.ptr B 0,.ptr (B+1) 0,g 3,vL,g 5,.ptr P 0,g 7,.sl D 0 m (.kn m),vK,g 10,g 11,g 12,g 13,g 14,g 15,g 16,g 17,.sl N 0 w (.kn w),g 19,g 20,g 21,g 22,g 23,g 24,g 25,g 26,g 27,g 28,g 29,g 30,g 31,g 32,g 33])/\hh.get P=some (.cells false [aC n,vO,vR,vL,.sl T' 0 w (.kn w),.aB])/\hh.get T'=some (.cells false (eV (Tz M K ks w w)))/\T'<hh.next/\ ∀q,q<T'->q≠P->hh.get q=ha.get q) ?_ ?_
 ·refine aH (λk' vs hh=> ∃(t:Nat),(∃g:Nat->V,vs= [g 0,.ptr B 0,.ptr (B+1) 0,g 3,vL,g 5,.ptr P 0,g 7,.sl D 0 m (.kn m),vK,g 10,g 11,g 12,g 13,g 14,g 15,g 16,g 17,.sl N 0 w (.kn w),g 19,g 20,aC t,g 22,g 23,g 24,g 25,g 26,g 27,g 28,g 29,g 30,g 31,g 32,g 33])/\t<=w/\hh.get P=some (.cells false [aC n,vO,vR,vL,.sl T' 0 w (.kn w),.aB])/\hh.get T'=some (.cells false (eV (Tz M K ks w t)))/\T'<hh.next/\(∀q,q<T'->q≠P->hh.get q=ha.get q)/\k'=w-t) w
   ⟨0,aA rfl,iP _,gc',by rw[oc T' (by omega),PM];exact gb,by omega,U0,rfl⟩ ?_
  clear U0 gc' oc nc ec gPb gb ob fb nb eb
  rintro k' vars hd ⟨t,⟨g,rfl⟩,ht,gP,gT,nT,U,rfl⟩
  by_cases hlt:(t:Int)<(w:Int)
  case neg=>
   have d1:=eS hlt;obtain rfl:t=w:=by omega
   simp(disch:=omega)only[go_sem,lvK,d1];exact⟨aA rfl,gP,gT,nT,U⟩
  have d1:=iB hlt
  have htw:t<w:=by omega
  have gNd:hd.get N=some (.cells false (rc w λt=> aC (K.idxOf (M.getD t 0):Nat))):=by rw[U N (by omega) (by omega)];exact gN
  have cN:=gZ gNd htw
  have hq0:K.idxOf (M.getD t 0)<w:=by
   have hm2:M.getD t 0∈K:=pK.mem_iff.2 (bD (by omega));have:=List.idxOf_lt_length_iff.2 hm2;omega
  have ks1:=RK (ks:=ks) pK ndM hw htw
  have ek:ks.getD t VN=ks[t]'(by omega):=by rw[List.getD,fS (by omega)];rfl
  rw[ek] at ks1
  generalize K.idxOf (M.getD t 0)=q0 at cN hq0 ks1
  have rKd:hd.row idK (offK+t*3) 3=some [(ks[t]'(by omega)).rep,aC ((ks[t]'(by omega)).ord:Int),aC ((ks[t]'(by omega)).size:Int)]:=by
   have h1:=rK t htw h8 (Fr.refl _);have h2:=hidK (by omega);have h3:=geK (by omega);unfold H.row at h1 ⊢;rw[U idK (by omega) (by omega),fa8.get idK h2];exact h1
  have one4:=(ks[t]'(show t<ks.length by omega)).hrep.2.1
  generalize ks[t]'(show t<ks.length by omega)=a at ks1 rKd one4
  have pt:=λhh=>KN (ks:=Tz M K ks w t) (i:=q0) (by rw[BZ];exact hq0) hh T' a
  simp only[Nat.zero_add] at pt
  simp(disch:=omega)only[go_sem,lvK,d1,H.aF gP,cN,shK.ixa,rKd,cU _ T' _ (v:=a.rep) (u:= aC (a.ord:Int)) (w:= aC (a.size:Int)) one4 rfl rfl,gT,pt]
  rw[fA t]
  refine⟨w-(t+1),by omega,t+1,aA rfl,by omega,?_,by rw[ks1],(show T'<hd.next+12 by omega),λq h1 h2=>?_,rfl⟩
  ·exact gP
  ·rw[H.aG _ (by omega)];exact U q h1 h2
 clear U0 gc' oc nc ec gPb gb ob fb nb eb hc hb
 rintro vars hb ⟨⟨g,rfl⟩,gP,gT,nT,U⟩
 simp(disch:=omega)only[go_sem]
 refine bJ (λvs hh=> ∃(vM:V),(∃g:Nat->V,vs= [g 0,.ptr B 0,.ptr (B+1) 0,g 3,vL,g 5,.ptr P 0,g 7,.sl D 0 m (.kn m),vK,g 10,g 11,g 12,g 13,g 14,g 15,g 16,g 17,.sl N 0 w (.kn w),g 19,g 20,g 21,g 22,g 23,g 24,g 25,g 26,g 27,g 28,g 29,g 30,g 31,g 32,g 33])/\hh.get P=some (.cells false [aC n,vO,vR,vL,.sl T' 0 w (.kn w),vM])/\dB hh vM 1 (ints (zi (sN G L K))) (T'+1)/\hh.get T'=some (.cells false (eV (Tz M K ks w w)))/\T'<hh.next/\ ∀q,q<T'->q≠P->hh.get q=ha.get q) ?_ ?_
 ·refine aH (λk' vs hh=> ∃(j:Nat) (vM:V),(∃g:Nat->V,vs= [g 0,.ptr B 0,.ptr (B+1) 0,g 3,vL,g 5,.ptr P 0,g 7,.sl D 0 m (.kn m),vK,g 10,g 11,g 12,g 13,g 14,g 15,g 16,g 17,.sl N 0 w (.kn w),g 19,g 20,g 21,aC j,g 23,g 24,g 25,g 26,g 27,g 28,g 29,g 30,g 31,g 32,g 33])/\j<=m/\hh.get P=some (.cells false [aC n,vO,vR,vL,.sl T' 0 w (.kn w),vM])/\dB hh vM 1 (ints (zi ((sN G L K).take j))) (T'+1)/\hh.get T'=some (.cells false (eV (Tz M K ks w w)))/\T'<hh.next/\(∀q,q<T'->q≠P->hh.get q=ha.get q)/\k'=m-j) m
   ⟨0,.aB,aA rfl,iP _,gP,dB.aB _ _ _,gT,nT,U,rfl⟩ ?_
  clear gP gT nT U hb
  rintro k' vars hb ⟨j,vM,⟨g,rfl⟩,hj,gP,oM,gT,nT,U,rfl⟩
  have lN:(sN G L K).length=m:=by simp [sN,hm]
  by_cases hlt:(j:Int)<(m:Int)
  case neg=>
   have d1:=eS hlt;obtain rfl:j=m:=by omega
   simp(disch:=omega)only[go_sem,lvL,d1];rw[List.take_of_length_le (by omega)] at oM;exact⟨vM,aA rfl,gP,oM,gT,nT,U⟩
  have d1:=iB hlt
  have hjm:j<m:=by omega
  have gDb:hb.get D=some (.cells false (rc m λj=> aC (Es G L m j:Nat))):=by rw[U D (by omega) (by omega)];exact gDa
  have gNb:hb.get N=some (.cells false (rc w λt=> aC (K.idxOf (M.getD t 0):Nat))):=by rw[U N (by omega) (by omega)];exact gN
  have cD:=gZ gDb hjm
  have ld:=NX hG E (j:=j) (by omega)
  obtain⟨q1,q2⟩:=IE hG E ik (j:=j) (by omega)
  rw[hm,hM] at ld q1 q2
  rw[ld] at cD
  rw[hw] at q1
  generalize mH G L M j=u at cD q1 q2
  have cN:=gZ gNb q1
  rw[←q2] at cN
  have eN:(sN G L K).take (j+1)=(sN G L K).take j++ [mH G L K j]:=by
   rw[dI 0 (by omega)];have:(sN G L K).getD j 0=mH G L K j:=by simp [sN,hm,hjm]
   rw[this]
  have hcK:mH G L K j<=K.length:=by unfold mH;exact List.findIdx_le_length
  generalize mH G L K j=c at cN eN hcK
  obtain⟨hc,ehc⟩: ∃hc:H,hc=H.mk ((H.mk hb.tr (hb.next+10)).new (.cells false [aC c])).tr (hb.next+14):=⟨_,rfl⟩
  have nc:hc.next=hb.next+14:=by rw[ehc]
  have gc':hc.get (hb.next+10)=some (.cells false [aC c]):=by rw[ehc];exact H.aN (H.mk hb.tr (hb.next+10)) _
  have oc: ∀q,q≠hb.next+10->hc.get q=hb.get q:=λq hq=>by rw[ehc];exact H.bI (H.mk hb.tr (hb.next+10)) hq _
  have fc:Fr hb hc:=⟨by omega,λq hq=>oc q (by omega)⟩
  obtain⟨hd,ad,pd⟩:=(oM.fr fc).push (bytes:=8) (SV.one (v:= aC c) (id:=hb.next+10) (by omega) gc' (.kn 1)) (n:=j) (m:=1) (by rw[aQ,aP,Lz];omega) rfl (by omega) (by omega) (by omega)
  have nd:=pd.next
  have apM: ∀q,q<=T'->dV vM q:=λq hq id off n' cp e e2=>by have:=(oM.in _ _ _ _ e).2.1;omega
  have od: ∀q,q<=T'->hd.get q=hb.get q:=λq hq=>by
   rw[pd.old q (by omega) (apM q hq),oc q (by omega)]
  have gPd:hd.get P=some (.cells false [aC n,vO,vR,vL,.sl T' 0 w (.kn w),vM]):=by rw[od P (by omega)];exact gP
  have p5: ∀(hh:H) (y:V),eG (some (.cells false [aC n,vO,vR,vL,.sl T' 0 w (.kn w),vM])) hh P 5 [y]=some (hh.set P (some (.cells false [aC n,vO,vR,vL,.sl T' 0 w (.kn w),y]))):=λhh y=>by simp [eG,putAt]
  simp(disch:=omega)only[go_sem,lvL,d1,H.aF gP,cD,show ((u+1:Nat):Int)- 1=(u:Int) from by omega,cN,cT _ (z:= aC 0) (v:= aC c) rfl rfl,←ehc,ad,gPd,p5]
  rw[fA j]
  have t:=pd.own (b:=T'+1) (by rw[aQ,aP,Lz];omega) rfl (by omega)
  have el:ints (zi ((sN G L K).take (j+1)))=ints (zi ((sN G L K).take j))++ [aC c]:=by rw[eN];simp [zi,ints]
  rw[←el] at t
  refine⟨m-(j+1),by omega,j+1,_,aA rfl,by omega,rfl,?_,?_,(show T'<hd.next by omega),λq h1 h2=>?_,rfl⟩
  ·exact t.mono (fZ _) λid off n' cp e h1 h2=>H.aG _ (by omega) _
  ·rw[od T' (fZ _)];exact gT
  ·rw[H.aG _ h2,od q (by omega)];exact U q h1 h2
 clear gP gT nT U hb
 rintro vars hb ⟨vM,⟨g,rfl⟩,gP,oM,gT,nT,U⟩
 have gA:hb.get (B+1)=some (.cells false [aC 0,.aB,.aB,.aB,.aB,.aB]):=by rw[U _ (by omega) (by omega)];exact gAa
 have oneM:=(SV.cJ oM.sv).2.1
 simp(disch:=omega)only[go_sem,Pk gP,xZ _ (B+1) (a:= aC n) (b:=vO) (c:=vR) (d:=vL) (e:= .sl T' 0 w (.kn w)) (f:=vM) rfl one3.1 one3.2 wL.2.1 rfl oneM,gA,sU,Pk (H.aT ..)]
 obtain⟨hz,ez⟩:=exI (hb.set (B+1) (some (.cells false [aC n,vO,vR,vL,.sl T' 0 w (.kn w),vM])))
 rw[ez]
 have nz:hz.next=hb.next:=by rw[←ez];rfl
 have oz: ∀q,q≠B+1->hz.get q=hb.get q:=λq hq=>by rw[←ez];exact H.aG _ hq _
 have x3:Fx (λq=>q<h2.next) h3 hz:=⟨by omega,λq h1 h2=>by rw[oz q (by omega),U q (by omega) (by omega),fa8.get q (by omega),f38.get q h1]⟩
 have nf38:=f38.next
 refine⟨vO,vR,K,_,rfl,rfl,ik,⟨vL,T',Tz M K ks w w,vM,by rw[lK],by omega,by omega,by rw[oz T' (by omega)];exact gT,?_,?_,?_⟩,?_⟩
 ·exact (KM pK hw al).mono λa r k=>⟨k.ord,k.size,PV.go k.rep x3 λq y1 y2=>(show q<h2.next from by omega)⟩
 ·exact fF.sp' (owL.pG x3.next λid off n' cp e h1=>x3.get id h1 (by have:=(owL.in _ _ _ _ e).2.1;omega)).sv (pvL.fx x3)
 ·exact (oM.pG (by omega) λid off n' cp e h1=>oz id (by have:=(oM.in _ _ _ _ e).2.1;omega)).sv
 ·refine⟨by omega,λq hq=>?_⟩
  rw[oz q (by omega),U q (by omega) (by omega),fa8.get q (by omega),f38.get q (by omega)]
  exact (F2.trans f3).get q (by omega)
variable {n:Nat} {G:List Nat->Prop} {L:LN}
theorem CA.go {W W':Nat->Prop}{h h':H}{a:Cls.KE}{r:Nat}(k:CA n G L W h a r)(f:Fx W h h')(hw: ∀id,id<h.next->W' id->W id):CA n G L W' h' a r:=⟨k.ord,k.size,PV.go k.rep f hw⟩
theorem CA.fr {W:Nat->Prop}{h h':H}{a:Cls.KE}{r:Nat}(k:CA n G L W h a r)(f:Fr h h'):CA n G L W h' a r:=⟨k.ord,k.size,k.rep.si.mono f,k.rep.off⟩
theorem ZU.open {K:List Nat}{b:Nat}{vO vR:V}{hh:H}{v:V}(r:ZU n G L K b vO vR hh v):
  ∃vL S ks vM,v= .agg [aC n,vO,vR,vL,.sl S 0 K.length (.kn K.length),vM]/\vL.one=true/\vM.one=true/\b<=S/\S<hh.next/\hh.get S=bQ (eV ks)/\ks.length=K.length/\aZ (CA n G L (λq=>q<b∨S<=q) hh) ks K/\SP hh vL L/\SI hh vM (zi (sN G L K)):=by
 obtain⟨vL,S,ks,vM,e,h1,h2,h3,h4,h5,h6⟩:=r.ex
 exact⟨vL,S,ks,vM,e,(SV.cJ (show SV hh vL 1 _ from h5.choose_spec.1)).2.1,(SV.cJ h6).2.1,h1,h2,h3,aZ.length h4,h4,h5,h6⟩
set_option maxHeartbeats 8000000
theorem ZU.fr {n:Nat}{G:List Nat->Prop}{L:LN}{K:List Nat}{b:Nat}{vO vR:V}{hh h':H}{v:V}(r:ZU n G L K b vO vR hh v)(f:Fr hh h'):ZU n G L K b vO vR h' v:=by
 obtain⟨vL,S,ks,vM,e,h1,h2,h3,h4,h5,h6⟩:=r.ex;exact⟨vL,S,ks,vM,e,h1,lA h2 f.next,by rw[f.get _ h2];exact h3,h4.mono λ_ _ k=>CA.fr k f,h5.mono f,h6.mono f⟩
set_option maxHeartbeats 8000000
set_option maxHeartbeats 16000000
theorem GU (vc vi:V)(d:Int)(O:List (List Int))(R:List (List (List Int)))(h:H)(hc:Az h vc d O R)(hd:d<=7∨64<d)(so:lF O)(sr:lH R)(hb:kI d O R≠0):
  Ev T 30 [vc,vi] h (λv h'=>v= .tup [.aB,aC (kI d O R)]/\Fr h h'):=by
 have hc0:=hc
 obtain⟨vO,vR,rfl,sO,sR⟩:=hc
 refine bH kA rfl rfl ?_
 have oneO:vO.one=true:=Hc sO
 have oneR:vR.one=true:=Eo sR
 obtain⟨B,hB⟩:=exI h.next
 obtain⟨h1,e1,n1,g1,o1,f1⟩:=eQ hB [aC d,vO,vR]
 have bx:=bE h (v:= aC d) (u:=vO) (w:=vR) rfl oneO oneR
 simp(disch:=omega)only[go_sem,kA,aE,bx,hB,e1,aJ g1]
 refine (Ou _ d O R h1 (hc0.mono f1) hd so sr hb).mono ?_
 rintro _ h2 ⟨rfl,f2⟩
 obtain⟨P,hP⟩:=exI h2.next
 obtain⟨h3,e3,n3,g3,o3,f3⟩:=eQ hP [aC 0,.aB,.aB,.aB,.aB,.aB]
 obtain⟨h4,e4,n4,g4,o4⟩:=uA h3 P [aC 0,.aB,.aB,.aB,.aB,.aB]
 have F:Fr h h4:=(f1.trans f2).trans ⟨by omega,λq hq=>by rw[o4 q (by omega),o3 q (by omega)]⟩
 have d1:decide (kI d O R≠0)=true:=decide_eq_true hb
 simp(disch:=omega)only[go_sem,hP,e3,xZ h3 P (a:= aC 0) (b:= .aB) (c:= .aB) (d:= .aB) (e:= .aB) (f:= .aB) rfl rfl rfl rfl rfl rfl,g3,sU,e4,d1]
 exact F
theorem KB {W:Nat->Prop}(vc:V)(z:Int)(n:Nat)(O:LN)(R:kW)(G:List Nat->Prop)(h:H)(gc:GC W h vc n O R G)(L:LN)(hL:cG O R n 0 (cH n)=L):
  Ev T 30 [vc,aC z] h (λv h'=> ∃K,Fj n G L K/\Fr h h'/\((z<0∨(K.length:Int)<=z)/\v= .tup [.aB,aC 2]∨ ∃(k:Nat) (vl:V),z=(k:Int)/\k<K.length/\v= .tup [vl,aC 0]/\SP h' vl ((fY G L (K.getD k 0)).map λr=>L.getD r []))):=by
 have gc0:=gc
 obtain⟨vO,vR,rfl,sO,sR⟩:=gc.ch
 refine bH kA rfl rfl ?_
 have oneO:vO.one=true:=Hc sO
 have oneR:vR.one=true:=Eo sR
 have n7:=gc.n7
 have n0:=gc.n0
 have hG:=gc.kP
 obtain⟨E,ll⟩:=eE gc.kP gc.isc
 have ll5:=kU gc
 rw[hL] at E ll
 obtain⟨B,hB⟩:=exI h.next
 obtain⟨h1,e1,n1,g1,o1,f1⟩:=eQ hB [aC n,vO,vR]
 have bx:=bE h (v:= aC n) (u:=vO) (w:=vR) rfl oneO oneR
 simp(disch:=omega)only[go_sem,kA,aE,bx,hB,e1,aJ g1]
 refine (Ty _ n O R G h1 (gc0.mono f1) L hL).mono ?_
 rintro _ h2 ⟨vO',vR',K,vg,ee,rfl,ik,rd,f2⟩
 cases ee
 obtain⟨vL,S,ks,vM,rfl,oneL,oneM,hbS,nS,gS,lks,al,sL,sM⟩:=rd.open
 obtain⟨P,hP⟩:=exI h2.next
 obtain⟨h3,e3,n3,g3,o3,f3⟩:=eQ hP [aC 0,.aB,.aB,.aB,.aB,.aB]
 obtain⟨h4,e4,n4,g4,o4⟩:=uA h3 P [aC n,vO,vR,vL,.sl S 0 K.length (.kn K.length),vM]
 have f24:Fr h2 h4:=⟨by omega,λq hq=>by rw[o4 q (by omega),o3 q (by omega)]⟩
 have F4:=(f1.trans f2).trans f24
 have g14:h4.get B=some (.cells false [aC n,vO,vR]):=by rw[f24.get _ (by have:=f2.next;omega),f2.get _ (by omega)];exact g1
 simp(disch:=omega)only[go_sem,hP,e3,xZ h3 P (a:= aC n) (b:=vO) (c:=vR) (d:=vL) (e:= .sl S 0 K.length (.kn K.length)) (f:=vM) rfl oneO oneR oneL rfl oneM,g3,sU,e4]
 have hKL:K.length<=5040:=by
  rw[ik.perm.length_eq];unfold bY;exact Nat.le_trans (List.length_filter_le _ _) (by rw[List.length_range];omega)
 refine aX (λhc=>(hc rfl).elim) (λ_=>?_)
 have c4:h4.cell P 4=some (.sl S 0 K.length (.kn K.length)):=by rw[H.aF g4];rfl
 by_cases hz:z<0
 ·have d1:decide (z<0)=true:=decide_eq_true hz
  simp(disch:=omega)only[go_sem,d1,kV]
  exact⟨K,ik,F4,.inl ⟨.inl hz,trivial⟩⟩
 have d1:decide (z<0)=false:=decide_eq_false hz
 by_cases hk:(K.length:Int)<=z
 ·have d2:=iB hk
  simp(disch:=omega)only[go_sem,d1,d2,c4]
  exact⟨K,ik,F4,.inl ⟨.inr hk,trivial⟩⟩
 have d2:=eS hk
 obtain⟨k,rfl⟩: ∃k:Nat,z=(k:Int):=⟨z.toNat,by omega⟩
 have hk':k<K.length:=by omega
 simp(disch:=omega)only[go_sem,d1,d2,c4]
 obtain⟨lvL,eL,idL,offL,ws,shL,cL⟩:=Ie (sL.mono f24)
 have sM4:=sM.mono f24
 have lnM:(zi (sN G L K)).length=L.length:=by rw[aP];simp [sN]
 obtain⟨idM,offM,shM,hidM,hcM⟩:=sM4.open
 rw[lnM] at shM hidM hcM
 refine aH (λk' vars hh=> ∃(i:Nat) (vo:V) (wo:List V),(∃g:Nat->V,vars= [g 0,aC k,.ptr B 0,g 3,g 4,.ptr P 0,g 6,vo,aC i,g 9,g 10,g 11,g 12])/\i<=L.length/\dB hh vo 1 wo h4.next/\fF (kQ vo) hh wo (((List.range i).filter λj=>decide (mH G L K j=k)).map λj=>L.getD j [])/\Fr h4 hh/\k'=L.length-i) L.length
  ⟨0,.aB, [],aA rfl,iP _,dB.aB _ _ _,trivial,Fr.refl h4,rfl⟩ ?_
 rintro k' vars h5 ⟨i,vo,wo,⟨g,rfl⟩,hi,ow,pvs,F,rfl⟩
 have c3':h5.cell P 3=some vL:=by rw[F.cell (by omega),H.aF g4];rfl
 have c5':h5.cell P 5=some vM:=by rw[F.cell (by omega),H.aF g4];rfl
 by_cases hlt:(i:Int)<(L.length:Int)
 case neg=>
  have d3:=eS hlt;obtain rfl:i=L.length:=by omega
  simp(disch:=omega)only[go_sem,c3',lvL,d3];refine⟨K,ik,F4.trans F,.inr ⟨k,vo,rfl,hk',rfl,?_⟩⟩
  have e:(List.range L.length).filter (λj=>decide (mH G L K j=k))=fY G L (K.getD k 0):=by
   unfold fY
   exact List.filter_congr λj hj=>by
    rw[decide_eq_decide];exact JH hG E ik.perm hk' (Mr.1 hj)
  rw[←e];exact fF.sp' ow.sv pvs
 have d3:=iB hlt
 have hiL:i<L.length:=by omega
 have cM:h5.cell idM (offM+i)=some (aC (mH G L K i:Nat)):=by
  rw[F.cell (hidM (by omega)),hcM i hiL];congr 2;simp [sN,zi,hiL]
 have es:(List.range (i+1)).filter (λj=>decide (mH G L K j=k))=(List.range i).filter (λj=>decide (mH G L K j=k))++if mH G L K i=k then [i] else []:=by
  rw[List.range_succ,List.filter_append]
  by_cases h:mH G L K i=k<;>simp [h]
 have n5:=F.next
 by_cases hnk:mH G L K i=k
 case neg=>
  have d4:decide (((mH G L K i:Nat):Int)=(k:Int))=false:=eS (by omega);rw[if_neg hnk,List.append_nil] at es;simp(disch:=omega)only[go_sem,c3',lvL,d3,c5',shM.ixa,cM,d4];rw[fA i];have fb:=(Fr.refl h5).bF (n:=h5.next+1) (by omega);exact⟨L.length-(i+1),by omega,i+1,vo,wo,aA rfl,by omega,ow,by rw[es];exact pvs,F,rfl⟩
 have d4:decide (((mH G L K i:Nat):Int)=(k:Int))=true:=iB (by omega)
 rw[if_pos hnk] at es
 obtain⟨b1,c1,s1⟩:=cL i hiL
 generalize ws.getD i V.undef=ve at c1 s1
 have cL':h5.cell idL (offL+i)=some ve:=by rw[F.cell b1];exact c1
 have X:=jE hG E hiL
 simp(disch:=omega)only[go_sem,c3',lvL,d3,c5',shM.ixa,cM,d4,shL.ixa,cL']
 refine (Qx ve _ h5 (s1.mono F) (by rw[aP,X.len];omega)).mono ?_
 rintro v1 h6 ⟨ow1,f6,_⟩
 have s6:SI h6 v1 (zi (L.getD i [])):=ow1.sv
 have c6:=Tf s6
 obtain⟨h7,e7,n7',g7,o7,f7⟩:=eQ (h:=h6) rfl [v1]
 have n6:=f6.next
 have f57:=f6.trans f7
 have hvin:=λid off m c (e:vo=V.sl id off m c)=>ow.in id off m c e
 have p7:PV (kQ vo) h7 v1 (L.getD i []):=by
  refine⟨s6.mono f7,?_⟩
  cases v1 with
  |sl q off m c=>
   have h1:=(ow1.in _ _ _ _ rfl)
   rintro⟨off',m',c',e⟩;have h2:=(hvin _ _ _ _ e);omega
  |_=>trivial
 have owd:=ow.fr f57
 have pvd:=fF.fx pvs (Fx.of f57)
 obtain⟨w,hw⟩:=exI wo.length
 have hwl:=aZ.length pvs
 have hwi:w<=i:=by
  rw[←hw,hwl,jD];exact Nat.le_trans (List.length_filter_le _ _) (by rw[List.length_range];omega)
 obtain⟨h8,a8,p8⟩:=owd.push (bytes:=24) (SV.one (v:=v1) (id:=h6.next) (by omega) g7 (.kn 1)) (n:=w) (m:=1) (by omega) rfl (by omega) (by omega) (by omega)
 have n8:=p8.next
 have F8:Fr h4 h8:=tA.frb p8 (F.trans f57) owd
 simp(disch:=omega)only[go_sem,cT _ (z:= .aB) c6.1 c6.2,e7,a8]
 rw[fA i]
 have x8:Fx (kQ vo) h7 h8:=p8.fx λq off m c e=>⟨off,m,c,e⟩
 have hw8: ∀q,q<h7.next->kQ (.sl h7.next 0 (w+1) (.un 1)) q->kQ vo q:=λq hq ⟨off,m,c,e⟩=>by cases e;omega
 refine⟨L.length-(i+1),by omega,i+1,_,_,aA rfl,by omega,p8.own (by omega) rfl (by omega),?_,F8,rfl⟩
 rw[es,List.map_append]
 exact (fF.go pvd x8 hw8).append (fF.one (PV.go p7 x8 hw8))
set_option maxHeartbeats 32000000
theorem RB {W:Nat->Prop}{h:H}{vc:V}{n:Nat}{O:LN}{R:kW}{G:List Nat->Prop}(g:GC W h vc n O R G)(n6:n<=6):tX O n 0<=720:=by
 have hl: ∀i,i<n->(O.getD i []).length<=n-i:=λi hi=>oX (λx hx=>g.kP.dY hx) hi (g.isc.asc i hi) (g.isc.mem i hi)
 have key: ∀d i,i+d=n->tX O d i<= [1,1,2,6,24,120,720].getD d 0:=by
  intro d
  induction d with
  |zero=>intro i _;simp [tX]
  |succ d ih=>
   intro i hi;unfold tX;have h1:=ih (i+1) (by omega);have h2:=hl i (by omega);have h3:(O.getD i []).length<=d+1:=by omega
   refine Nat.le_trans (Nat.mul_le_mul h3 h1) ?_;have:d<=5:=by omega
   match d,this with
   |0,_=>decide
   |1,_=>decide
   |2,_=>decide
   |3,_=>decide
   |4,_=>decide
   |5,_=>decide
 refine Nat.le_trans (key n 0 (by omega)) ?_
 match n,n6 with
 |0,_=>decide
 |1,_=>decide
 |2,_=>decide
 |3,_=>decide
 |4,_=>decide
 |5,_=>decide
 |6,_=>decide
theorem JE (vc vi:V)(d:Int)(O:List (List Int))(R:List (List (List Int)))(h:H)(hc:Az h vc d O R)(hd:d<=7∨64<d)(so:lF O)(sr:lH R)(hb:kI d O R≠0):
  Ev T 28 [vc,vi] h (λv h'=>v= .tup [.agg [aC 0,.aB,.aB],aC (kI d O R)]/\Fr h h'):=by
 have hc0:=hc
 obtain⟨vO,vR,rfl,sO,sR⟩:=hc
 refine bH iF rfl rfl ?_
 have oneO:vO.one=true:=Hc sO
 have oneR:vR.one=true:=Eo sR
 obtain⟨B,hB⟩:=exI h.next
 obtain⟨h1,e1,n1,g1,o1,f1⟩:=eQ hB [aC d,vO,vR]
 have bx:=bE h (v:= aC d) (u:=vO) (w:=vR) rfl oneO oneR
 obtain⟨hx,ex,nx,gx,ox,fx⟩:=eQ n1 [aC 0,.aB,.aB]
 have rB:hx.row B 0 3=some [aC d,vO,vR]:=aJ (by rw[fx.get B (by omega)];exact g1)
 simp(disch:=omega)only[go_sem,iF,aE,bx,hB,e1,n1,ex,rB]
 refine (Ou _ d O R hx (hc0.mono (f1.trans fx)) hd so sr hb).mono ?_
 rintro _ h2 ⟨rfl,f2⟩
 obtain⟨P,hP⟩:=exI h2.next
 obtain⟨h3,e3,n3,g3,o3,f3⟩:=eQ hP [aC 0,.aB,.aB,.aB,.aB,.aB]
 obtain⟨h4,e4,n4,g4,o4⟩:=uA h3 P [aC 0,.aB,.aB,.aB,.aB,.aB]
 have F:Fr h h4:=((f1.trans fx).trans f2).trans ⟨by omega,λq hq=>by rw[o4 q (by omega),o3 q (by omega)]⟩
 have d1:decide (kI d O R≠0)=true:=decide_eq_true hb
 have n2:=f2.next
 have gr:h4.get (B+1)=bQ [aC 0,.aB,.aB]:=by rw[o4 _ (by omega),o3 _ (by omega),f2.get _ (by omega)];exact gx
 have b0:uB [aC 0,.aB,.aB] []=some (.agg [aC 0,.aB,.aB]):=rfl
 simp(disch:=omega)only[go_sem,hP,e3,xZ h3 P (a:= aC 0) (b:= .aB) (c:= .aB) (d:= .aB) (e:= .aB) (f:= .aB) rfl rfl rfl rfl rfl rfl,g3,sU,e4,d1,b0,cU h4 (B+1) 0 (v:= aC 0) (u:= .aB) (w:= .aB) rfl rfl rfl,gr,cE,aJ (H.aT ..)]
 exact F.set (by omega) _
theorem UG {W:Nat->Prop}(vc:V)(z:Int)(n:Nat)(O:LN)(R:kW)(G:List Nat->Prop)(h:H)(n6:n<=6)(gc:GC W h vc n O R G)(L:LN)(hL:cG O R n 0 (cH n)=L):
  Ev T 28 [vc,aC z] h (λv h'=> ∃K,Fj n G L K/\Fr h h'/\((z<0∨(K.length:Int)<=z)/\v= .tup [.agg [aC 0,.aB,.aB],aC 2]∨ ∃(k:Nat) (vr:V) (O':LN) (R':kW),z=(k:Int)/\k<K.length/\v= .tup [vr,aC 0]/\GC (λid=>id<h.next) h' vr n O' R' (Co G (L.getD (K.getD k 0) [])))):=by
 have gc0:=gc
 obtain⟨vO,vR,rfl,sO,sR⟩:=gc.ch
 refine bH iF rfl rfl ?_
 have oneO:vO.one=true:=Hc sO
 have oneR:vR.one=true:=Eo sR
 have n7:=gc.n7
 have n0:=gc.n0
 have hG:=gc.kP
 obtain⟨E,ll⟩:=eE gc.kP gc.isc
 have ll5:=RB gc n6
 rw[hL] at E ll
 obtain⟨B,hB⟩:=exI h.next
 obtain⟨h1,e1,n1,g1,o1,f1⟩:=eQ hB [aC n,vO,vR]
 have bx:=bE h (v:= aC n) (u:=vO) (w:=vR) rfl oneO oneR
 obtain⟨hx,ex,nx,gx,ox,fx⟩:=eQ n1 [aC 0,.aB,.aB]
 have rB:hx.row B 0 3=some [aC n,vO,vR]:=aJ (by rw[fx.get B (by omega)];exact g1)
 simp(disch:=omega)only[go_sem,iF,aE,bx,hB,e1,n1,ex,rB]
 refine (Ty _ n O R G hx (gc0.mono (f1.trans fx)) L hL).mono ?_
 rintro _ h2 ⟨vO',vR',K,vg,ee,rfl,ik,rd,f2⟩
 cases ee
 obtain⟨vL,S,ks,vM,rfl,oneL,oneM,hbS,nS,gS,lks,al,sL,sM⟩:=rd.open
 obtain⟨P,hP⟩:=exI h2.next
 obtain⟨h3,e3,n3,g3,o3,f3⟩:=eQ hP [aC 0,.aB,.aB,.aB,.aB,.aB]
 obtain⟨h4,e4,n4,g4,o4⟩:=uA h3 P [aC n,vO,vR,vL,.sl S 0 K.length (.kn K.length),vM]
 have f24:Fr h2 h4:=⟨by omega,λq hq=>by rw[o4 q (by omega),o3 q (by omega)]⟩
 have F4:=((f1.trans fx).trans f2).trans f24
 have n2:=f2.next
 have g14:h4.get B=bQ [aC n,vO,vR]:=by rw[f24.get _ (by have:=f2.next;omega),f2.get _ (by omega),fx.get _ (by omega)];exact g1
 have gr:h4.get (B+1)=bQ [aC 0,.aB,.aB]:=by rw[f24.get _ (by omega),f2.get _ (by omega)];exact gx
 have b0:uB [aC 0,.aB,.aB] []=some (.agg [aC 0,.aB,.aB]):=rfl
 simp(disch:=omega)only[go_sem,hP,e3,xZ h3 P (a:= aC n) (b:=vO) (c:=vR) (d:=vL) (e:= .sl S 0 K.length (.kn K.length)) (f:=vM) rfl oneO oneR oneL rfl oneM,g3,sU,e4]
 have hKL:K.length<=5040:=by
  rw[ik.perm.length_eq];unfold bY;exact Nat.le_trans (List.length_filter_le _ _) (by rw[List.length_range];omega)
 refine aX (λhc=>(hc rfl).elim) (λ_=>?_)
 have c4:h4.cell P 4=some (.sl S 0 K.length (.kn K.length)):=by rw[H.aF g4];rfl
 by_cases hz:z<0
 ·have d1:decide (z<0)=true:=decide_eq_true hz
  simp(disch:=omega)only[go_sem,d1,kV,b0,cU h4 (B+1) 0 (v:= aC 0) (u:= .aB) (w:= .aB) rfl rfl rfl,gr,cE,aJ (H.aT ..)]
  exact⟨K,ik,F4.set (by omega) _,.inl ⟨.inl hz,trivial⟩⟩
 have d1:decide (z<0)=false:=decide_eq_false hz
 by_cases hk:(K.length:Int)<=z
 ·have d2:=iB hk
  simp(disch:=omega)only[go_sem,d1,d2,c4,b0,cU h4 (B+1) 0 (v:= aC 0) (u:= .aB) (w:= .aB) rfl rfl rfl,gr,cE,aJ (H.aT ..)]
  exact⟨K,ik,F4.set (by omega) _,.inl ⟨.inr hk,trivial⟩⟩
 have d2:=eS hk
 obtain⟨k,rfl⟩: ∃k:Nat,z=(k:Int):=⟨z.toNat,by omega⟩
 have hk':k<K.length:=by omega
 obtain⟨lvL,eL,idL,offL,ws,shL,cL⟩:=Ie (sL.mono f24)
 obtain⟨r,hr⟩:=exI (K.getD k 0)
 have k1:=aZ.get al k (by omega) hk'
 rw[←Pm.bG hk',hr] at k1
 have hrL:r<L.length:=by rw[←hr];exact ik.lt (bD hk')
 have X:=jE hG E hrL
 obtain⟨p1,_,_⟩:=Ds (ks:=ks) (i:=k) (by omega)
 have cS:h4.cell S (k*3)=some (ks[k]'(by omega)).rep:=by rw[f24.cell nS,H.aF gS];exact p1
 have sx:=k1.rep.si.mono f24
 generalize (ks[k]'(by omega)).rep=vx at cS sx
 obtain⟨x,hx⟩:=exI (L.getD r [])
 rw[hx] at X sx
 simp(disch:=omega)only[go_sem,d1,d2,c4,cS,H.aF g14]
 refine (vW .aB n [] h4 n0 (by omega) (by decide) ⟨[],SV.aB _ 1,trivial⟩ (λ_ h=>by cases h)).mono ?_
 rintro _ h5 ⟨vc5,O5,R5,rfl,gc5,f5⟩
 obtain⟨u5,w5,rfl,a5,b5,_,_⟩:=gc5.sl
 obtain⟨Q,hQ⟩:=exI h5.next
 obtain⟨h6,e6,n6',g6,o6,f6⟩:=eQ hQ [aC 0,.aB,.aB]
 obtain⟨h7,e7,n7',g7,o7⟩:=uA h6 Q [aC n,u5,w5]
 have n5:=f5.next
 have f57:Fr h5 h7:=⟨by omega,λq hq=>by rw[o7 q (by omega),o6 q (by omega)]⟩
 have f47:=f5.trans f57
 simp(disch:=omega)only[go_sem,hQ,e6,cU h6 Q 0 (v:= aC n) (u:=u5) (w:=w5) rfl a5 b5,g6,cE,e7]
 refine aH (λk' vars hh=> ∃(i:Nat) (vl u w:V) (wl:List V) (O':LN) (R':kW) (M:LN),(∃g:Nat->V,vars= [g 0,aC k,.ptr B 0,.ptr (B+1) 0,g 4,.ptr P 0,g 6,vx,.ptr Q 0,vl,aC i,g 11,g 12,g 13,g 14,g 15,g 16])/\i<=L.length/\dB hh vl 1 wl h7.next/\fF (λq=>q=Q∨kQ vl q) hh wl M/\hh.get Q=bQ [aC n,u,w]/\GC (λq=>q<h4.next∨q=Q∨kQ vl q) hh (.agg [aC n,u,w]) n O' R' (fG n (· ∈M))/\u.one=true/\w.one=true/\M.length<=i/\(∀g∈M,Co G x g)/\(∀j,j<i->aW x (L.getD j [])=aW (L.getD j []) x->fG n (· ∈M) (L.getD j []))/\Mu Q h7 hh/\k'=L.length-i) L.length
  ⟨0,.aB,u5,w5, [],O5,R5, [],aA rfl,iP _,dB.aB _ _ _,trivial,g7,?_,a5,b5,iP _,(λ_ h=>by cases h),(λj hj=>by omega),Mu.refl _ _,rfl⟩ ?_
 ·refine GC.go gc5 (Fx.of f57) (λid h1 h2=>?_)
  rcases h2 with h2|h2|⟨_,_,_,e⟩
  ·exact h2
  ·omega
  ·cases e
 rintro k' vars h8 ⟨i,vl,u,w,wl,O',R',M,⟨g,rfl⟩,hi,ow,pvs,gQ,gcM,au,aw,lM,hM1,hM2,F,rfl⟩
 have n8:=F.next
 have f8: ∀q,q<h7.next->q≠Q->h8.get q=h7.get q:=F.get
 have F48:Fr h4 h8:=⟨by omega,λq hq=>by rw[F.get q (by omega) (by omega)];exact f47.get q hq⟩
 have c3': ∀hh,Fr h8 hh->hh.cell P 3=some vL:=λhh f=>by rw[f.cell (by omega),F48.cell (by omega),H.aF g4];rfl
 by_cases hlt:(i:Int)<(L.length:Int)
 case neg=>
  have d3:=eS hlt;obtain rfl:i=L.length:=by omega
  have gr8:h8.get (B+1)=bQ [aC 0,.aB,.aB]:=by rw[F48.get _ (by omega)];exact gr
  have grr:=gr8;simp(disch:=omega)only[go_sem,c3' h8 (Fr.refl _),lvL,d3,aJ gQ,cU h8 (B+1) 0 (v:= aC n) (u:=u) (w:=w) rfl au aw,gr8,cE,aJ (H.aT ..)];refine⟨K,ik,(F4.trans F48).set (by omega) _,.inr ⟨k,_,O',R',rfl,hk',rfl,?_⟩⟩;rw[hr,hx]
  have e:fG n (· ∈M)=Co G x:=by
   funext g;refine propext ⟨λh=>?_,λh=>?_⟩
   ·exact fG.le (BW hG X) hM1 h
   ·obtain⟨j,hj,ej⟩:=Dt.1 ((E.mem g).2 h.1)
    have ej':L.getD j []=g:=by rw[List.getD_eq_getElem?_getD,fS hj];exact ej
    rw[←ej'];exact hM2 j hj (by rw[ej'];exact h.2)
  rw[←e];have hvin:=λid off m c (e:vl=V.sl id off m c)=>ow.in id off m c e
  exact GC.go (W:=λq=>q<h4.next∨q=Q∨kQ vl q) gcM (Fx.set h8 (W:=λq=>q<h4.next∨q=Q∨kQ vl q) (.inl (by omega)) _) (λid h1 h2=> .inl (by have:=h4.next;have:=F4.next;omega))
 have pG: ∀hh,Fr h8 hh->dB hh vl 1 wl h7.next/\fF (λq=>q=Q∨kQ vl q) hh wl M/\hh.get Q=bQ [aC n,u,w]/\GC (λq=>q<h4.next∨q=Q∨kQ vl q) hh (.agg [aC n,u,w]) n O' R' (fG n (· ∈M))/\Mu Q h7 hh:=λhh f=>⟨ow.fr f,fF.fx pvs (Fx.of f),by rw[f.get Q (by omega)];exact gQ,gcM.mono f,F.trans (Mu.of f)⟩
 have d3:=iB hlt
 have hiL:i<L.length:=by omega
 obtain⟨b1,c1,s1⟩:=cL i hiL
 generalize ws.getD i V.undef=ve at c1 s1
 have cL': ∀hh,Fr h8 hh->hh.cell idL (offL+i)=some ve:=λhh f=>by rw[f.cell (by omega),F48.cell b1];exact c1
 have Y:=jE hG E hiL
 obtain⟨y,hy⟩:=exI (L.getD i [])
 rw[hy] at Y s1
 have sy:=s1.mono F48
 have sx8:=(sx.mono F48)
 have ex:=SV.dW sx
 have ey:=SV.dW s1
 simp(disch:=omega)only[go_sem,c3' h8 (Fr.refl _),lvL,d3,shL.ixa,cL' h8 (Fr.refl _)]
 have fb':=(Fr.refl h8).bF (n:=h8.next+16) (by omega)
 refine (qM vx ve x y _ (by rw[X.len];omega) ((sx8).mono fb') (sy.mono fb') (λj hj=>by rw[Y.len];exact X.eX (by rw[←X.len];exact hj))).mono ?_
 rintro v1 h9 ⟨s1',f9,_⟩
 have F9:=fb'.trans f9
 have e1':=SV.dW s1'
 simp(disch:=omega)only[go_sem,c3' h9 F9,cL' h9 F9,ex,ey,eL]
 refine (qM ve vx y x h9 (by rw[Y.len];omega) (sy.mono F9) (sx8.mono F9) (λj hj=>by rw[X.len];exact Y.eX (by rw[←Y.len];exact hj))).mono ?_
 rintro v2 h10 ⟨s2',f10,_⟩
 have F10:=F9.trans f10
 have e2':=SV.dW s2'
 simp(disch:=omega)only[go_sem,c3' h10 F10,cL' h10 F10,ex,ey,eL,e1',e2']
 refine (Ad v1 v2 _ _ h10 (s1'.mono f10) s2' (by rw[aP,dR,X.len];omega) (by rw[aP,dR,Y.len];omega)).mono ?_
 rintro _ h11 ⟨rfl,f11⟩
 have F11:=F10.trans f11
 have hcom:decide (zi (aW x y)=zi (aW y x))=decide (aW x y=aW y x):=by
  rw[decide_eq_decide];exact⟨λh=>Zd h,λh=>by rw[h]⟩
 rw[hcom]
 have n11:=F11.next
 by_cases hxy:aW x y=aW y x
 case neg=>
  have d4:decide (aW x y=aW y x)=false:=decide_eq_false hxy;simp(disch:=omega)only[go_sem,c3' h11 F11,cL' h11 F11,ex,ey,eL,e1',e2',d4];rw[fA i];obtain⟨a1,a2,a3,a4,a5'⟩:=pG h11 F11;refine⟨L.length-(i+1),by omega,i+1,vl,u,w,wl,O',R',M,aA rfl,by omega,a1,a2,a3,a4,au,aw,by omega,hM1,λj hj hc=>?_,a5',rfl⟩
  by_cases e:j=i
  ·subst e;rw[hy] at hc;exact absurd hc hxy
  ·exact hM2 j (by omega) hc
 have d4:decide (aW x y=aW y x)=true:=decide_eq_true hxy
 obtain⟨a1,a2,a3,a4,a5'⟩:=pG h11 F11
 simp(disch:=omega)only[go_sem,c3' h11 F11,cL' h11 F11,ex,ey,eL,e1',e2',d4,aJ a3,shL.ixa]
 have hyG:G y:=by rw[←hy];exact Ci E hiL
 have fb2:=(Fr.refl h11).bF (n:=h11.next+12) (by omega)
 refine (WD _ ve n O' R' _ y _ (a4.mono fb2) (sy.mono (F11.trans fb2)) Y).mono ?_
 rintro _ h12 ⟨b,rfl,hb,f12⟩
 have F12:=(F11.trans fb2).trans f12
 obtain⟨b1',b2,b3,b4,b5'⟩:=pG h12 F12
 have eag:dW (.agg [aC n,u,w]) (.agg [aC n,u,w])=true:=by
  obtain⟨_,_,e,_,_,c1,c2⟩:=b4.sl;cases e;simp [dW,sY,c1,c2]
 cases b with
 |true=>
  simp(disch:=omega)only[go_sem,c3' h12 F12,cL' h12 F12,ex,ey,eL,aJ b3,eag];rw[fA i];refine⟨L.length-(i+1),by omega,i+1,vl,u,w,wl,O',R',M,aA rfl,by omega,b1',b2,b3,b4,au,aw,by omega,hM1,λj hj hc=>?_,b5',rfl⟩
  by_cases e:j=i
  ·subst e;rw[hy];exact hb.1 rfl
  ·exact hM2 j (by omega) hc
 |false=>
  have n12:=F12.next;obtain⟨m,hm⟩:=exI wl.length;have hml:m=M.length:=by rw[←hm];exact aZ.length b2
  have cy:=Tf sy;obtain⟨h13,e13,n13,g13,o13,f13⟩:=eQ (h:=h12) rfl [ve];have owd:=b1'.fr f13;obtain⟨h14,a14,p14⟩:=owd.push (bytes:=24) (SV.one (v:=ve) (id:=h12.next) (by omega) g13 (.kn 1)) (n:=m) (m:=1) (by omega) rfl (by omega) (by omega) (by omega);have n14:=p14.next;have hvin:=λid off m c (e:vl=V.sl id off m c)=>b1'.in id off m c e
  have pve:PV (λq=>q=Q∨kQ vl q) h13 ve y:=by
   refine⟨sy.mono (F12.trans f13),?_⟩;have hin:=SV.in s1
   cases ve with
   |sl q off m c=>
    have h1:=hin _ _ _ _ rfl;rintro (e|⟨off',m',c',e⟩)
    ·omega
    ·have h2:=(hvin _ _ _ _ e);omega
   |_=>trivial
  have x14:Fx (λq=>q=Q∨kQ vl q) h13 h14:=p14.fx λq off m c e=> .inr ⟨off,m,c,e⟩
  have hw14: ∀q,q<h13.next->(q=Q∨kQ (.sl h13.next 0 (m+1) (.un 1)) q)->(q=Q∨kQ vl q):=λq hq h=>by
   rcases h with h|⟨off,m,c,e⟩
   ·exact .inl h
   ·cases e;omega
  have pvM:=(fF.go (fF.fx b2 (Fx.of f13)) x14 hw14).append (fF.one (PV.go pve x14 hw14));have pvM':fF (λq=>q=Q∨kQ (.sl h13.next 0 (m+1) (.un 1)) q) h14 (wl++ [ve]) (M++ [y]):=pvM;have ow14:=p14.own (b:=h7.next) (by omega) rfl (by omega)
  have old14: ∀q,q<h7.next->h14.get q=h12.get q:=λq hq=>by
   rw[p14.old q (by omega) (λid off n' c e=>by have:=hvin _ _ _ _ e;omega),o13 q (by omega)]
  have gB14:h14.get B=bQ [aC n,vO,vR]:=by rw[old14 _ (by omega),(F48.trans F12).get _ (by omega)];exact g14
  have gQ14:h14.get Q=bQ [aC n,u,w]:=by rw[old14 _ (by omega)];exact b3
  simp(disch:=omega)only[go_sem,c3' h12 F12,cL' h12 F12,ex,ey,eL,aJ b3,eag,shL.ixa,cT _ (z:= .aB) cy.1 cy.2,e13,a14,H.aF gB14]
  have hM1': ∀g∈M++ [y],Co G x g:=λg hg=>by
   rcases Af.1 hg with h|h
   ·exact hM1 g h
   ·rw[List.mem_singleton.1 h];exact⟨hyG,hxy⟩
  refine (vW _ n (M++ [y]) h14 n0 (by omega) (by rw[oL,List.length_singleton];omega) (fF.sp' ow14.sv pvM) (λg hg=>hG.dY (hM1' g hg).1)).mono ?_;rintro _ h15 ⟨vc15,O15,R15,rfl,gc15,f15⟩;obtain⟨u15,w15,rfl,au15,aw15,_,_⟩:=gc15.sl;have n15:=f15.next;have gQ15:h15.get Q=bQ [aC n,u,w]:=by rw[f15.get _ (by omega)];exact gQ14
  obtain⟨h16,e16,n16,g16,o16⟩:=uA h15 Q [aC n,u15,w15];simp(disch:=omega)only[go_sem,cU h15 Q 0 (v:= aC n) (u:=u15) (w:=w15) rfl au15 aw15,gQ15,cE,e16];rw[fA i];refine⟨L.length-(i+1),by omega,i+1,_,u15,w15,wl++ [ve],O15,R15,M++ [y],aA rfl,by omega,?_,?_,g16,?_,au15,aw15,by rw[oL,List.length_singleton];omega,hM1',λj hj hc=>?_,?_,rfl⟩
  ·exact ow14.mono (by omega) λid off n' c e _ h1=>by cases e;rw[o16 _ (by omega),f15.get _ (by omega)]
  ·exact fF.go (W:=λq=>q=Q∨kQ (.sl h13.next 0 (m+1) (.un 1)) q) pvM' ⟨by omega,λid h1 h2=>by rw[o16 _ (λe=>h2 (.inl e)),f15.get _ h1]⟩ (λ_ _ h=>h)
  ·refine GC.go gc15 ⟨by omega,λid h1 h2=>o16 _ (by omega)⟩ (λid h1 h2=>?_)
   rcases h2 with h2|h2|⟨_,_,_,e⟩
   ·show id<h14.next;omega
   ·show id<h14.next;omega
   ·cases e;show h13.next<h14.next;omega
  ·by_cases e:j=i
   ·subst e;rw[hy];exact fG.of (λg hg=>hG.dY (hM1' g hg).1) (List.mem_append_right _ (List.mem_singleton_self y))
   ·exact fG.mono (λg hg=>List.mem_append_left _ hg) (hM2 j (by omega) hc)
  ·have:=b5'.next
   exact⟨by omega,λq h1 h2=>by rw[o16 _ h2,f15.get _ (by omega),old14 q h1];exact b5'.get q h1 h2⟩
theorem aaD {h:H}{vc:V}{d:Int}{O:List (List Int)}{R:List (List (List Int))}(hc:Az h vc d O R)(hd:d<=7∨64<d)(h0:kI d O R=0):
  ∃(n:Nat) (O':LN) (R':kW),d=(n:Int)/\O=O'.map zi/\R=R'.map (List.map zi)/\GC (λ_=>False) h vc n O' R' (Ka n R'):=by
 unfold kI at h0
 split at h0
 ·cases h0
 ·split at h0
  ·rename_i hn hp
   obtain⟨n,O',R',rfl,h1,h2,rfl,rfl,v⟩:=hp
   obtain⟨vO,vR,rfl,sO,sR⟩:=hc
   obtain⟨wO,tO,aO⟩:=sO
   obtain⟨wR,tR,aR,kR⟩:=sR
   have off: ∀v:V,Wx (λ_=>False) v:=λv=>by cases v<;>first|exact id|trivial
   have all: ∀{ws:List V} {l:LN},aZ (SI h) ws (l.map zi)->fF (λ_=>False) h ws l:=λ{ws l} a=>by
    have hl:=aZ.length a;rw[jD] at hl
    refine aZ.lJ hl λi hi hj=>⟨?_,off _⟩
    have:=aZ.get a i hi (by rw[jD];exact hj);rwa [List.getElem_map] at this
   refine⟨n,O',R',rfl,rfl,rfl,⟨vO,vR,wO,wR,rfl,tO,off _,all aO,tR,off _,?_⟩,v.2,v.kP,h1,by omega⟩
   have hl:=aZ.length aR
   rw[jD] at hl
   refine aZ.lJ hl λi hi hj=>?_
   have:=aZ.get aR i hi (by rw[jD];exact hj)
   rw[List.getElem_map] at this
   obtain⟨ws,s,a⟩:=this
   exact⟨ws,s,off _,all a,kR _ (List.getElem_mem _)⟩
  ·cases h0
structure Sml (d:Int)(O:List (List Int))(R:List (List (List Int))):Prop where
 deg:d<=6∨64<d
 lo:O.length<=12
 lr:R.length<=12
 ro: ∀i,i<O.length->(O.getD i []).length<=12
 rr: ∀i,i<R.length->(R.getD i []).length<=12/\ ∀k,k<(R.getD i []).length->((R.getD i []).getD k []).length<=12
theorem Sml.small {d:Int}{O:List (List Int)}{R:List (List (List Int))}(s:Sml d O R):lF O/\lH R:=
 ⟨⟨by have:=s.lo;omega,λi hi=>by have:=s.ro i hi;omega⟩,⟨by have:=s.lr;omega,λi hi=>⟨by have:=(s.rr i hi).1;omega,λk hk=>by have:=(s.rr i hi).2 k hk;omega⟩⟩⟩
theorem QO (vc:V)(d:Int)(O:List (List Int))(R:List (List (List Int)))(h:H)(hc:Az h vc d O R):
  Ev T 10 [vc] h (λv h'=>(v= .bool true∨v= .bool false/\Sml d O R)/\Fr h h'):=by
 obtain⟨vO,vR,rfl,sO,sR⟩:=hc
 refine bH mK rfl rfl ?_
 obtain⟨lO,evO,_,oneO,idO,offO,wsO,shO,cO⟩:=sA sO
 obtain⟨lR,evR,_,oneR,idR,offR,wsR,shR,cR⟩:=yV sR
 obtain⟨B,hB⟩:=exI h.next
 obtain⟨h1,e1,n1,g1,o1,f1⟩:=eQ hB [aC d,vO,vR]
 have c0: ∀hh,Fr h1 hh->hh.cell B 0=some (aC d):=λhh f=>by rw[f.cell (by omega),H.aF g1];rfl
 have c1: ∀hh,Fr h1 hh->hh.cell B 1=some vO:=λhh f=>by rw[f.cell (by omega),H.aF g1];rfl
 have c2: ∀hh,Fr h1 hh->hh.cell B 2=some vR:=λhh f=>by rw[f.cell (by omega),H.aF g1];rfl
 have bx:=bE h (v:= aC d) (u:=vO) (w:=vR) rfl oneO oneR
 have F0:=Fr.refl h1
 by_cases qA:6<d/\d<=64
 ·have y2:decide ((6:Int)<d)=true:=decide_eq_true qA.1
  have y3:decide (d<=64)=true:=decide_eq_true qA.2
  simp(disch:=omega)only[go_sem,mK,aE,bx,hB,e1,c0 h1 F0,y2,y3]
  exact⟨.inl trivial,f1⟩
 obtain⟨b2,y2⟩:=exI (decide ((6:Int)<d))
 obtain⟨b3,y3⟩:=exI (decide (d<=64))
 have hb:(b2&&b3)=false:=by
  rw[←y2,←y3,←Bool.not_eq_true,Bool.and_eq_true,decide_eq_true_iff,decide_eq_true_iff];exact qA
 have hdeg:d<=6∨64<d:=by omega
 by_cases q1:(12:Int)<(O.length:Int)
 ·have y1:decide ((12:Int)<(O.length:Int))=true:=decide_eq_true q1
  cases b2<;>cases b3<;>first|cases hb|skip
  all_goals
   simp(disch:=omega)only[go_sem,mK,aE,bx,hB,e1,c0 h1 F0,c1 h1 F0,lO,y2,y3,y1]
   exact⟨.inl trivial,f1⟩
 have y1:decide ((12:Int)<(O.length:Int))=false:=decide_eq_false q1
 by_cases q4:(12:Int)<(R.length:Int)
 ·have y4:decide ((12:Int)<(R.length:Int))=true:=decide_eq_true q4
  cases b2<;>cases b3<;>first|cases hb|skip
  all_goals
   simp(disch:=omega)only[go_sem,mK,aE,bx,hB,e1,c0 h1 F0,c1 h1 F0,lO,c2 h1 F0,lR,y2,y3,y1,y4]
   exact⟨.inl trivial,f1⟩
 have y4:decide ((12:Int)<(R.length:Int))=false:=decide_eq_false q4
 have lo12:O.length<=12:=by omega
 have lr12:R.length<=12:=by omega
 cases b2<;>cases b3<;>first|cases hb|skip
 all_goals
  simp(disch:=omega)only[go_sem,mK,aE,bx,hB,e1,c0 h1 F0,c1 h1 F0,lO,c2 h1 F0,lR,y2,y3,y1,y4]
  refine aH (λk' vars hh=> ∃(i:Nat),(∃g:Nat->V,vars= [g 0,.ptr B 0,g 2,aC i,g 4,g 5,g 6,g 7,g 8,g 9,g 10,g 11,g 12])/\i<=O.length/\(∀j,j<i->(O.getD j []).length<=12)/\Fr h1 hh/\k'=O.length-i) O.length
   ⟨0,aA rfl,iP _,λj hj=>by omega,Fr.refl _,rfl⟩ ?_
  rintro k' vars h2 ⟨i,⟨g,rfl⟩,hi,ho,F,rfl⟩
  by_cases hlt:(i:Int)<(O.length:Int)
  case pos=>
   have d1:=iB hlt;obtain⟨i1,ci,si⟩:=cO i (by omega);have cOi:h2.cell idO (offO+i)=some (wsO.getD i V.undef):=by rw[(f1.trans F).cell i1];exact ci
   have lo:=si.lens;generalize wsO.getD i V.undef=vo at cOi lo
   by_cases q5:(12:Int)<((O.getD i []).length:Int)
   ·have y5:decide ((12:Int)<((O.getD i []).length:Int))=true:=decide_eq_true q5
    simp(disch:=omega)only[go_sem,c1 h2 F,lO,d1,shO.ixa,cOi,lo,y5];exact⟨.inl trivial,f1.trans F⟩
   ·have y5:decide ((12:Int)<((O.getD i []).length:Int))=false:=decide_eq_false q5
    simp(disch:=omega)only[go_sem,c1 h2 F,lO,d1,shO.ixa,cOi,lo,y5];rw[fA i]
    exact⟨O.length-(i+1),by omega,i+1,aA rfl,by omega,λj hj=>by
     by_cases e:j=i
     ·subst e;omega
     ·exact ho j (by omega),F,rfl⟩
  have d1:=eS hlt
  simp(disch:=omega)only[go_sem,c1 h2 F,lO,d1]
  refine aH (λk' vars hh=> ∃(i:Nat),(∃g:Nat->V,vars= [g 0,.ptr B 0,g 2,g 3,aC i,g 5,g 6,g 7,g 8,g 9,g 10,g 11,g 12])/\i<=R.length/\(∀j,j<i->(R.getD j []).length<=12/\ ∀k,k<(R.getD j []).length->((R.getD j []).getD k []).length<=12)/\Fr h1 hh/\k'=R.length-i) R.length
   ⟨0,aA rfl,iP _,λj hj=>by omega,F,rfl⟩ ?_
  clear F d1
  rintro k' vars h3 ⟨t,⟨g,rfl⟩,ht,hr,F,rfl⟩
  by_cases hlt2:(t:Int)<(R.length:Int)
  case neg=>
   have d1:=eS hlt2;simp(disch:=omega)only[go_sem,c2 h3 F,lR,d1];exact⟨.inr ⟨hdeg,lo12,lr12,λj hj=>ho j (by omega),λj hj=>hr j (by omega)⟩,f1.trans F⟩
  have d1:=iB hlt2
  obtain⟨i1,ci,si⟩:=cR t (by omega)
  have cRi: ∀hh,Fr h1 hh->hh.cell idR (offR+t)=some (wsR.getD t V.undef):=λhh f=>by rw[(f1.trans f).cell i1];exact ci
  generalize wsR.getD t V.undef=vr at cRi si
  obtain⟨lr,_,_,_,idr,offr,wsr,shr,cr⟩:=sA si
  by_cases q5:(12:Int)<((R.getD t []).length:Int)
  case pos=>
   have y5:decide ((12:Int)<((R.getD t []).length:Int))=true:=decide_eq_true q5;simp(disch:=omega)only[go_sem,c2 h3 F,lR,d1,shR.ixa,cRi h3 F,lr,y5];exact⟨.inl trivial,f1.trans F⟩
  have y5:decide ((12:Int)<((R.getD t []).length:Int))=false:=decide_eq_false q5
  simp(disch:=omega)only[go_sem,c2 h3 F,lR,d1,shR.ixa,cRi h3 F,lr,y5]
  refine aH (λk' vars hh=> ∃(k:Nat),(∃g:Nat->V,vars= [g 0,.ptr B 0,g 2,g 3,aC t,aC k,g 6,g 7,g 8,g 9,g 10,g 11,g 12])/\k<=(R.getD t []).length/\(∀j,j<k->((R.getD t []).getD j []).length<=12)/\Fr h1 hh/\k'=(R.getD t []).length-k) (R.getD t []).length
   ⟨0,aA rfl,iP _,λj hj=>by omega,F,rfl⟩ ?_
  clear F d1
  rintro k' vars h4 ⟨k,⟨g,rfl⟩,hk,hrk,F,rfl⟩
  by_cases hlk:(k:Int)<((R.getD t []).length:Int)
  case neg=>
   have d1:decide ((k:Int)<((R.getD t []).length:Int))=false:=decide_eq_false hlk;simp(disch:=omega)only[go_sem,c2 h4 F,shR.ixa,cRi h4 F,lr,d1];rw[fA t]
   exact⟨R.length-(t+1),by omega,t+1,aA rfl,by omega,λj hj=>by
    by_cases e:j=t
    ·subst e;exact⟨by omega,λk' hk'=>hrk k' (by omega)⟩
    ·exact hr j (by omega),F,rfl⟩
  have d1:decide ((k:Int)<((R.getD t []).length:Int))=true:=decide_eq_true hlk
  obtain⟨k1,ck,sk⟩:=cr k (by omega)
  have cRk:h4.cell idr (offr+k)=some (wsr.getD k V.undef):=by rw[(f1.trans F).cell k1];exact ck
  generalize wsr.getD k V.undef=vx at cRk sk
  have lx:=sk.lens
  by_cases q6:(12:Int)<(((R.getD t []).getD k []).length:Int)
  case pos=>
   have y6:decide ((12:Int)<(((R.getD t []).getD k []).length:Int))=true:=decide_eq_true q6;simp(disch:=omega)only[go_sem,c2 h4 F,shR.ixa,cRi h4 F,lr,d1,shr.ixa,cRk,lx,y6];exact⟨.inl trivial,f1.trans F⟩
  have y6:decide ((12:Int)<(((R.getD t []).getD k []).length:Int))=false:=decide_eq_false q6
  simp(disch:=omega)only[go_sem,c2 h4 F,shR.ixa,cRi h4 F,lr,d1,shr.ixa,cRk,lx,y6]
  rw[fA k]
  exact⟨(R.getD t []).length-(k+1),by omega,k+1,aA rfl,by omega,λj hj=>by
   by_cases e:j=k
   ·subst e;omega
   ·exact hrk j (by omega),F,rfl⟩
theorem CA.see {n:Nat}{G:List Nat->Prop}{L:LN}{W:Nat->Prop}{h:H}{a:Cls.KE}{r:Nat}(k:CA n G L W h a r):FO h a (zi (L.getD r []),lW (L.getD r []) n,(fY G L r).length):=⟨k.rep.si,k.ord,k.size⟩
theorem KR.see {n:Nat}{G:List Nat->Prop}{L:LN}{h:H}{a:Cls.KE}{r:Nat}(k:KR n G L h a r):FO h a (zi (L.getD r []),lW (L.getD r []) n,(fY G L r).length):=⟨k.rep,k.ord,k.size⟩
end Go.Proofs.YtddpkbicnolafaaGreat
