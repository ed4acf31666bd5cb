/- Texts of the claim. -/
import Derived.Test.YtddpkbicnolafaaGreatP5otoSc5
import Derived.Test.YtddpkbicnolafaaGreatDp2toP4a
import Derived.Test.YtddpkbicnolafaaGreatP5a
set_option maxHeartbeats 32000000
namespace Go.Proofs.YtddpkbicnolafaaGreat.Cls
open Go Go.Ay Go.Sort
set_option maxRecDepth 100000
def Vr  {α:Type}[Inhabited α][O:bV α](n:Nat):Prop:= ∀(h:H) (S N a b:Nat) (lim:Int) (d:Array α) (cp:rL),N<60000->dR h S N d->a<=b->b<=N->b-a<=n->0<=lim->lim<1000000->Below bV.lt a b d->
 Ev T 107 [.sl S 0 N cp,aB a,aB b,aB lim,.fn (bV.f α) [] []] h (λ_ h'=> ∃e,dR h' S N e/\PermIn a b d e/\SortedIn bV.lt a b e/\Fx (· =S) h h')
theorem Vw  {α:Type}[Inhabited α][O:bV α](n:Nat)(ih: ∀m,m<n->Vr (α:=α) m):Vr (α:=α) n:=by
 intro h S N a b lim d cp hN A hab hbN hn hl0 hl1 hB;refine bP eL rfl rfl ?_;simp(disch:=omega)only[go_sem,eL,aE]
 refine aG (λk' vars hh=> ∃(a' b':Nat) (l':Int) (wb wp:Bool) (e:Array α),(∃g:Nat->V,vars= [.sl S 0 N cp,aB (a':Int),aB (b':Int),aB l',.fn (bV.f α) [] [],.bool wb,.bool wp,g 7,g 8,g 9,g 10,g 11,g 12,g 13,g 14,g 15,g 16,g 17,g 18,g 19,g 20,g 21,g 22,g 23])/\a'<=b'/\b'<=N/\a<=a'/\b'<=b/\0<=l'/\l'<1000000/\Below bV.lt a' b' e/\dR hh S N e/\Fx (· =S) h hh/\
   (∀R,PermIn a' b' e R->SortedIn bV.lt a' b' R->PermIn a b d R/\SortedIn bV.lt a b R)/\k'=b'-a') (b-a)
  ⟨a,b,lim,true,true,d,aA rfl,hab,hbN,gV _,gV _,hl0,hl1,hB,A,Fx.refl _ h,λR h1 h2=>⟨h1,h2⟩,rfl⟩ ?_
 clear A hB hl0 hl1;rintro k' vars h1 ⟨a',b',l',wb,wp,e,⟨g,rfl⟩,hab',hbN',haa,hbb,hl0,hl1,hB,A,F,K,rfl⟩;obtain⟨m,hm⟩:=exI (b'-a');have em:(b':Int)-(a':Int)=(m:Int):=by omega
 have ez: ∀{x:Array α} {hx:H},dR hx S N x->b'<=x.size:=λA=>by rw[A.size];exact hbN'
 by_cases h12:(m:Int)<=12
 ·have e1:decide ((m:Int)<=12)=true:=decide_eq_true h12
  simp(disch:=omega)only[go_sem,em,e1];refine (wZ h1 S N a' b' e cp (by omega) A hbN' hab').mono ?_;rintro _ h2 ⟨A2,F2⟩;obtain⟨p1,p2⟩:=insertionSort_holds (bV.swo (α:=α)) e a' b' hab' (ez A);obtain⟨q1,q2⟩:=K _ p1 p2;simp(disch:=omega)only[go_sem];exact⟨_,A2,q1,q2,fY F F2⟩
 have e1:decide ((m:Int)<=12)=false:=decide_eq_false h12
 by_cases hl:l'=0
 ·have e2:decide (l'=0)=true:=decide_eq_true hl
  simp(disch:=omega)only[go_sem,em,e1,e2];refine (yK h1 S N a' b' e cp (by omega) A hbN' hab').mono ?_;rintro _ h2 ⟨A2,F2⟩;obtain⟨p1,p2⟩:=heapSort_holds (bV.swo (α:=α)) e a' b' hab' (ez A);obtain⟨q1,q2⟩:=K _ p1 p2;simp(disch:=omega)only[go_sem];exact⟨_,A2,q1,q2,fY F F2⟩
 have e2:decide (l'=0)=false:=decide_eq_false hl;simp(disch:=omega)only[go_sem,em,e1,e2];refine oK (λvs hh=> ∃(e2:Array α) (l2:Int) (g:Nat->V),vs= [.sl S 0 N cp,aB (a':Int),aB (b':Int),aB l2,.fn (bV.f α) [] [],.bool wb,.bool wp,aB m,g 8,g 9,g 10,g 11,g 12,g 13,g 14,g 15,g 16,g 17,g 18,g 19,g 20,g 21,g 22,g 23]/\0<=l2/\l2<1000000/\dR hh S N e2/\PermIn a' b' e e2/\Fx (· =S) h hh) ?_ ?_
 ·cases wb with
  |true=>
   simp(disch:=omega)only[go_sem];exact .inl ⟨e,l',_,(aA rfl: ∃g:Nat->V,_= [.sl S 0 N cp,aB (a':Int),aB (b':Int),aB l',.fn (bV.f α) [] [],.bool true,.bool wp,aB m,g 8,g 9,g 10,g 11,g 12,g 13,g 14,g 15,g 16,g 17,g 18,g 19,g 20,g 21,g 22,g 23]).choose_spec,hl0,hl1,A,permIn_refl e a' b',F⟩
  |false=>
   simp(disch:=omega)only[go_sem];refine (Ip h1 S N a' b' e cp hN A hbN' hab').mono ?_;rintro _ h2 ⟨e2,A2,p2,F2⟩;simp(disch:=omega)only[go_sem];exact .inl ⟨e2,l'- 1,_,(aA rfl: ∃g:Nat->V,_= [.sl S 0 N cp,aB (a':Int),aB (b':Int),aB (l'- 1),.fn (bV.f α) [] [],.bool false,.bool wp,aB m,g 8,g 9,g 10,g 11,g 12,g 13,g 14,g 15,g 16,g 17,g 18,g 19,g 20,g 21,g 22,g 23]).choose_spec,by omega,by omega,A2,p2,fY F F2⟩
 clear A F hl0 hl1 hl e2 g;rintro vars h2 ⟨e2,l2,g,rfl,hl0,hl1,A,P2,F⟩;have B2:=hB.perm (by rw[←P2.1];exact ez A) P2;simp(disch:=omega)only[go_sem];refine (Jy h2 S N a' b' e2 cp (by omega) A hbN' (by omega)).mono ?_;rintro _ h3 ⟨p,t,rfl,hp1,hp2,f3⟩;have A3:=A.fr f3;have F3:=fY F (Fx.of f3);clear A F;simp(disch:=omega)only[go_sem];refine oK (λvs hh=> ∃(e3:Array α) (p2:Nat) (t2:Int) (g:Nat->V),vs= [.sl S 0 N cp,aB (a':Int),aB (b':Int),aB l2,.fn (bV.f α) [] [],.bool wb,.bool wp,aB m,aB p2,aB t2,g 10,g 11,g 12,g 13,g 14,g 15,g 16,g 17,g 18,g 19,g 20,g 21,g 22,g 23]/\a'<=p2/\p2<b'/\dR hh S N e3/\PermIn a' b' e2 e3/\Fx (· =S) h hh) ?_ ?_
 ·refine aY (λht=>?_) (λht=>?_)
  ·simp(disch:=omega)only[go_sem]
   refine (Bu h3 S N a' b' e2 cp (by omega) A3 hbN' (by omega)).mono ?_;rintro _ h4 ⟨A4,F4⟩;have e5:(b':Int)- 1-((p:Int)-(a':Int))=(((b'- 1)-(p-a'):Nat):Int):=by omega
   simp(disch:=omega)only[go_sem,e5];exact .inl ⟨_,(b'- 1)-(p-a'),1,_,(aA rfl: ∃g:Nat->V,_= [.sl S 0 N cp,aB (a':Int),aB (b':Int),aB l2,.fn (bV.f α) [] [],.bool wb,.bool wp,aB m,aB ((b'- 1)-(p-a'):Nat),aB 1,g 10,g 11,g 12,g 13,g 14,g 15,g 16,g 17,g 18,g 19,g 20,g 21,g 22,g 23]).choose_spec,by omega,by omega,A4,reverseRange_holds e2 a' b' hab' (ez A3),fY F3 F4⟩
  ·simp(disch:=omega)only[go_sem]
   exact .inl ⟨e2,p,t,_,(aA rfl: ∃g:Nat->V,_= [.sl S 0 N cp,aB (a':Int),aB (b':Int),aB l2,.fn (bV.f α) [] [],.bool wb,.bool wp,aB m,aB p,aB t,g 10,g 11,g 12,g 13,g 14,g 15,g 16,g 17,g 18,g 19,g 20,g 21,g 22,g 23]).choose_spec,hp1,hp2,A3,permIn_refl e2 a' b',F3⟩
 have ez2:=ez A3;clear A3 F3 hp1 hp2 f3 p t g;rintro vars h4 ⟨e3,p,t,g,rfl,hp1,hp2,A,P3,F⟩;have B3:=B2.perm ez2 P3;have P23:=permIn_trans _ _ _ a' b' P2 P3;have ez3:b'<=e2.size:=ez2;clear ez2 B2 hB;refine Hm (λvs hh=> ∃(e4:Array α) (g:Nat->V),vs= [.sl S 0 N cp,aB (a':Int),aB (b':Int),aB l2,.fn (bV.f α) [] [],.bool wb,.bool wp,aB m,aB p,g 9,g 10,g 11,g 12,g 13,g 14,g 15,g 16,g 17,g 18,g 19,g 20,g 21,g 22,g 23]/\dR hh S N e4/\PermIn a' b' e e4/\Below bV.lt a' b' e4/\Fx (· =S) h hh) ?_ ?_
 ·have skip: ∀(vs:List V),(∃g:Nat->V,vs= [.sl S 0 N cp,aB (a':Int),aB (b':Int),aB l2,.fn (bV.f α) [] [],.bool wb,.bool wp,aB m,aB p,g 9,g 10,g 11,g 12,g 13,g 14,g 15,g 16,g 17,g 18,g 19,g 20,g 21,g 22,g 23])-> ∃(e4:Array α) (g:Nat->V),vs= [.sl S 0 N cp,aB (a':Int),aB (b':Int),aB l2,.fn (bV.f α) [] [],.bool wb,.bool wp,aB m,aB p,g 9,g 10,g 11,g 12,g 13,g 14,g 15,g 16,g 17,g 18,g 19,g 20,g 21,g 22,g 23]/\dR h4 S N e4/\PermIn a' b' e e4/\Below bV.lt a' b' e4/\Fx (· =S) h h4:=λvs ⟨g,hv⟩=>⟨e3,g,hv,A,P23,B3,F⟩
  have run: ∀g:Nat->V,Ev T 144 [.sl S 0 N cp,aB (a':Int),aB (b':Int),.fn (bV.f α) [] []] h4 (λv h'=> ∃r:Array α×Bool,v= .bool r.2/\dR h' S N r.1/\Fx (· =S) h4 h'/\PermIn a' b' e3 r.1/\(r.2=true->SortedIn bV.lt a' b' r.1)):=λ_=>by
   refine (Bg h4 S N a' b' e3 cp (by omega) A hbN' (by omega)).mono ?_;rintro v h5 ⟨hv,A5,F5⟩;obtain⟨q1,q2⟩:=partialInsertionSort_holds (bV.swo (α:=α)) e3 a' b' (by omega) (ez A) B3;exact⟨_,hv,A5,F5,q1,q2⟩
  cases wb with
  |false=>
   simp(disch:=omega)only[go_sem];exact .inl (skip _ (aA rfl))
  |true=>cases wp with
   |false=>
    simp(disch:=omega)only[go_sem]
    exact .inl (skip _ (aA rfl))
   |true=>
    simp(disch:=omega)only[go_sem]
    refine aY (λht=>?_) (λht=>?_)
    ·simp(disch:=omega)only[go_sem]
     refine (run g).mono ?_
     rintro v h5 ⟨⟨e5,r5⟩,rfl,A5,F5,q1,q2⟩
     have A5:dR h5 S N e5:=A5
     have q1:PermIn a' b' e3 e5:=q1
     have P5:=permIn_trans _ _ _ a' b' P23 q1
     cases r5 with
     |false=>
      simp(disch:=omega)only[go_sem];exact .inl ⟨e5,_,(aA rfl: ∃g:Nat->V,_= [.sl S 0 N cp,aB (a':Int),aB (b':Int),aB l2,.fn (bV.f α) [] [],.bool true,.bool true,aB m,aB p,g 9,g 10,g 11,g 12,g 13,g 14,g 15,g 16,g 17,g 18,g 19,g 20,g 21,g 22,g 23]).choose_spec,A5,P5,B3.perm (ez A) q1,fY F F5⟩
     |true=>
      obtain⟨w1,w2⟩:=K _ P5 (q2 rfl);simp(disch:=omega)only[go_sem];exact .inr ⟨by simp,e5,A5,w1,w2,fY F F5⟩
    ·simp(disch:=omega)only[go_sem]
     exact .inl (skip _ (aA rfl))
 clear A P3 P23 B3 F P2 ez3 e3 e2;rintro vars h5 ⟨e4,g,rfl,A,P4,B4,F⟩;have ez4:=ez A;refine Hm (λvs hh=> ∃(g:Nat->V),vs= [.sl S 0 N cp,aB (a':Int),aB (b':Int),aB l2,.fn (bV.f α) [] [],.bool wb,.bool wp,aB m,aB p,g 9,g 10,g 11,g 12,g 13,g 14,g 15,g 16,g 17,g 18,g 19,g 20,g 21,g 22,g 23]/\dR hh S N e4/\Fx (· =S) h hh) ?_ ?_
 ·by_cases h0:(0:Int)<(a':Int)
  case neg=>
   have e1:decide ((0:Int)<(a':Int))=false:=decide_eq_false h0;simp(disch:=omega)only[go_sem,e1];exact .inl ⟨_,(aA rfl: ∃g:Nat->V,_= [.sl S 0 N cp,aB (a':Int),aB (b':Int),aB l2,.fn (bV.f α) [] [],.bool wb,.bool wp,aB m,aB p,g 9,g 10,g 11,g 12,g 13,g 14,g 15,g 16,g 17,g 18,g 19,g 20,g 21,g 22,g 23]).choose_spec,A.fr ((Fr.refl h5).bF (by omega)),fY F (Fx.of ((Fr.refl h5).bF (by omega)))⟩
  have e1:decide ((0:Int)<(a':Int))=true:=decide_eq_true h0;have ea:(a':Int)- 1=((a'- 1:Nat):Int):=by omega
  have c1:=A.rd (i:=a'- 1) (by omega);have c2:=A.rd (i:=p) (by omega);simp(disch:=omega)only[go_sem,e1,ea,c1,c2];refine (jT A (i:=a'- 1) (j:=p) (by omega) (by omega) _ (by omega)).mono ?_;rintro _ h6 ⟨z,rfl,hz,fh6⟩;have f6:Fr h5 h6:=Fr.trans ((Fr.refl h5).bF (by omega)) fh6;have A6:=A.fr f6;have F6:=fY F (Fx.of f6)
  cases hl:bV.lt e4[a'- 1]! e4[p]! with
  |true=>
   simp(disch:=omega)only[go_sem,hz,hl];exact .inl ⟨_,(aA rfl: ∃g:Nat->V,_= [.sl S 0 N cp,aB (a':Int),aB (b':Int),aB l2,.fn (bV.f α) [] [],.bool wb,.bool wp,aB m,aB p,g 9,g 10,g 11,g 12,g 13,g 14,g 15,g 16,g 17,g 18,g 19,g 20,g 21,g 22,g 23]).choose_spec,A6,F6⟩
  |false=>
   obtain⟨w1,w2,w3,w4,w5⟩:=round_eq (bV.swo (α:=α)) (partitionEqual_holds bV.lt) (by omega) hp1 hp2 ez4 B4 hl (Prod.eta (partitionEqual bV.lt e4 a' b' p)).symm;simp(disch:=omega)only[go_sem,hz,hl];refine (Ej h6 S N a' b' p e4 cp (by omega) A6 hbN' hp1 hp2).mono ?_;rintro _ h7 ⟨rfl,A7,F7⟩;simp(disch:=omega)only[go_sem];refine .inr ⟨by simp,b'-(partitionEqual bV.lt e4 a' b' p).1,by omega,(partitionEqual bV.lt e4 a' b' p).1,b',l2,wb,wp,_,aA rfl,w2,hbN',by omega,hbb,hl0,hl1,w4,A7,fY F6 F7,λR r1 r2=>?_,rfl⟩;obtain⟨t1,t2⟩:=w5 R r1 r2;exact K R (permIn_trans _ _ _ a' b' P4 t1) t2
 clear A F;rintro vars h6 ⟨g,rfl,A,F⟩;have e8:=Kq m (k:=8) (m:=8) rfl;simp(disch:=omega)only[go_sem];refine (xL h6 S N a' b' p e4 cp (by omega) A hbN' hp1 hp2).mono ?_;obtain⟨r,hr⟩:=exI (partition bV.lt e4 a' b' p);rw[hr];obtain⟨mid,ap,e5⟩:=r;obtain⟨w1,w2,w3,w4,w5,w6,w7⟩:=round_part (bV.swo (α:=α)) (partition_holds bV.lt) hp1 hp2 ez4 B4 hr;rintro _ h7 ⟨rfl,A7,F7⟩;have A7:dR h7 S N e5:=A7;have F7:=fY F F7;have el:(mid:Int)-(a':Int)=((mid-a':Nat):Int):=by omega
 have er:(b':Int)-(mid:Int)=((b'-mid:Nat):Int):=by omega
 have e1:(mid:Int)+1=((mid+1:Nat):Int):=by omega
 simp(disch:=omega)only[go_sem,el,er,e8];refine aY (λht=>?_) (λht=>?_)
 ·simp(disch:=omega)only[go_sem]
  refine (ih (mid-a') (by omega) h7 S N a' mid l2 e5 cp hN A7 w1 (by omega) (gV _) hl0 hl1 w4).mono ?_;rintro _ h8 ⟨L,A8,p8,s8,F8⟩;obtain⟨u1,u2⟩:=w6 L p8 s8;simp(disch:=omega)only[go_sem,e1];refine⟨b'-(mid+1),by omega,mid+1,b',l2,_,ap,L,aA rfl,by omega,hbN',by omega,hbb,hl0,hl1,u1,A8,fY F7 F8,λR r1 r2=>?_,rfl⟩;obtain⟨t1,t2⟩:=u2 R r1 r2;exact K R (permIn_trans _ _ _ a' b' P4 t1) t2
 ·simp(disch:=omega)only[go_sem,e1]
  refine (ih (b'-(mid+1)) (by omega) h7 S N (mid+1) b' l2 e5 cp hN A7 (by omega) hbN' (gV _) hl0 hl1 w5).mono ?_;rintro _ h8 ⟨L,A8,p8,s8,F8⟩;obtain⟨u1,u2⟩:=w7 L p8 s8;simp(disch:=omega)only[go_sem];refine⟨mid-a',by omega,a',mid,l2,_,ap,L,aA rfl,by omega,by omega,haa,by omega,hl0,hl1,u1,A8,fY F7 F8,λR r1 r2=>?_,rfl⟩;obtain⟨t1,t2⟩:=u2 R r1 r2;exact K R (permIn_trans _ _ _ a' b' P4 t1) t2
theorem Oe  {α:Type}[Inhabited α][O:bV α](n:Nat):Vr (α:=α) n:=by
 induction n using Nat.strongRecOn with
 |_ n ih=>exact Vw n  ih
theorem Rk {α:Type}[Inhabited α][O:bV α](h:H)(S N:Nat)(d:Array α)(cp:rL)(hN:N<60000)(A:dR h S N d):
  Ev T 74 [.sl S 0 N cp,.fn (bV.f α) [] []] h (λ_ h'=> ∃e,dR h' S N e/\PermIn 0 N d e/\SortedIn bV.lt 0 N e/\Fx (· =S) h h'):=by
 refine bP dF rfl rfl ?_
 have hb:bitsLen N<=16:=(bitsLen_le_iff _ 16).2 (by omega)
 simp(disch:=omega)only[go_sem,dF,aE,gJ (n:=(N:Int)) (by omega) (by omega)]
 refine (Xw N h (by omega)).mono ?_
 rintro _ h1 ⟨rfl,hh⟩
 subst hh
 simp(disch:=omega)only[go_sem]
 refine (Oe N h1 S N 0 N _ d cp hN A (by omega) (by omega) (by omega) (by omega) (by omega) (.inl rfl)).mono ?_
 rintro _ h2 ⟨e,A2,p,s,F⟩
 simp(disch:=omega)only[go_sem]
 exact⟨e,A2,p,s,F⟩
theorem zV (a:Int)(h:H):Ev T 147 [aB a] h (λv h'=>v= .bool false/\h'=h):=by
 refine bP kW rfl rfl ?_;have e:decide (a≠a)=false:=fF (by omega);simp(disch:=omega)only[go_sem,kW,aE,e]
def xW (a b:Int):Int:=if a<b then -1 else if b<a then 1 else 0
theorem Bh (a b:Int)(h:H):Ev T 108 [aB a,aB b] h (λv h'=>v= aB (xW a b)/\Fr h h'):=by
 refine bP oZ rfl rfl ?_;simp(disch:=omega)only[go_sem,oZ,aE];refine (zV a h).mono ?_;rintro _ h1 ⟨rfl,rfl⟩;simp(disch:=omega)only[go_sem];refine (zV b h1).mono ?_;rintro _ h2 ⟨rfl,rfl⟩;simp(disch:=omega)only[go_sem];unfold xW
 by_cases h1:a<b
 ·have d1:decide (a<b)=true:=decide_eq_true h1
  simp(disch:=omega)only[go_sem,d1,if_pos h1];exact Fr.refl _
 ·have d1:decide (a<b)=false:=decide_eq_false h1
  by_cases h3:b<a
  ·have d2:decide (b<a)=true:=decide_eq_true h3
   simp(disch:=omega)only[go_sem,d1,d2,if_neg h1,if_pos h3];exact Fr.refl _
  ·have d2:decide (b<a)=false:=decide_eq_false h3
   simp(disch:=omega)only[go_sem,d1,d2,if_neg h1,if_neg h3];exact Fr.refl _
def GP:List Int->Int
 | []=>0
 |x::r=>if x=0 then GP r else x
theorem KM {l:List Int}{i:Nat}(hi:i<l.length)(h:l.getD i 0=0):GP (l.drop i)=GP (l.drop (i+1)):=by
 rw[List.drop_eq_getElem_cons hi];show (if l[i]=0 then _ else _)=_;rw[if_pos (by rw[List.getD,fX hi] at h;exact h)]
theorem TC {l:List Int}{i:Nat}(hi:i<l.length)(h:l.getD i 0≠0):GP (l.drop i)=l.getD i 0:=by
 rw[List.drop_eq_getElem_cons hi];show (if l[i]=0 then _ else l[i])=_;have e:l.getD i 0=l[i]:=by rw[List.getD,fX hi];rfl
 rw[if_neg (by rw[←e];exact h),e]
theorem aaC (u:V)(l:List Int)(h:H)(hl:l.length<1000000)(hu:SI h u l):Ev T 79 [u] h (λv h'=>v= aB (GP l)/\Fr h h'):=by
 refine bP xF rfl rfl ?_;have lu:=hu.lens;obtain⟨id,off,sh,hid,hc⟩:=hu.open;simp(disch:=omega)only[go_sem,xF,aE,lu];refine aG (λk' vs hh=> ∃(i:Nat),(∃g:Nat->V,vs= [u,aB 0,aB 0,g 3,u,aB (l.length:Int),aB i,g 7,g 8])/\i<=l.length/\GP (l.drop i)=GP l/\Fr h hh/\k'=l.length-i) l.length
   ⟨0,aA rfl,iP _,rfl,Fr.refl h,rfl⟩ ?_
 rintro k' vars h2 ⟨i,⟨g,rfl⟩,hi,ho,f,rfl⟩
 by_cases hlt:(i:Int)<(l.length:Int)
 ·have d4:=iK hlt
  have hi':i<l.length:=by omega
  have ci:h2.cell id (off+i)=some (aB (l.getD i 0)):=by rw[f.cell (hid (by omega)),hc i hi']
  generalize hx:l.getD i 0=x at ci;simp(disch:=omega)only[go_sem,d4,sh.ixa,ci]
  by_cases hz:x=0
  ·have d5:decide (x≠0)=false:=decide_eq_false (by simpa using hz)
   simp(disch:=omega)only[go_sem,d5];rw[fJ i];exact⟨l.length-(i+1),by omega,i+1,aA rfl,by omega,by rw[←KM hi' (hx.trans hz)];exact ho,f.bF (by omega),rfl⟩
  ·have d5:decide (x≠0)=true:=decide_eq_true hz
   simp(disch:=omega)only[go_sem,d5];exact⟨by rw[←ho,TC hi' (by rw[hx];exact hz),hx],f.bF (by omega)⟩
 have d4:=fF hlt;obtain rfl:i=l.length:=by omega
 simp(disch:=omega)only[go_sem,d4];rw[List.drop_length] at ho;exact⟨by rw[←ho];rfl,f⟩
structure KE where
 rep:V
 ord:Nat
 size:Nat
 ranks:V
 fst:Nat
 hrep:rep.cells= [rep]/\rep.one=true/\eG rep rep=true
 hranks:ranks.cells= [ranks]/\ranks.one=true/\eG ranks ranks=true
instance:Inhabited KE:=⟨⟨.aC,0,0,.aC,0,⟨rfl,rfl,rfl⟩,⟨rfl,rfl,rfl⟩⟩⟩
def KE.enc (a:KE):List V:= [a.rep,aB (a.ord:Int),aB (a.size:Int),a.ranks]
def KE.cmp (a b:KE):Int:=GP [xW a.ord b.ord,xW a.size b.size,xW a.fst b.fst]
def KE.lt (a b:KE):Bool:=decide (a.cmp b<0)
theorem Cc (a:KE)(h:H):Gz h (.agg a.enc)=some (.ptr h.next 0,h.new (.cells false a.enc)):=yC h _ (by simp [KE.enc,a.hrep.2.1,a.hranks.2.1,show (aB (a.ord:Int)).one=true from rfl,show (aB (a.size:Int)).one=true from rfl])
theorem FE (a b:KE)(h:H):Ev T 76 [.agg a.enc,.agg b.enc] h (λv h'=>v= aB (xW a.ord b.ord)/\Fr h h'):=by
 refine bP lH rfl rfl ?_;obtain⟨A,hA⟩:=exI h.next;obtain⟨h1,e1,n1,g1,o1,f1⟩:=fR hA a.enc;obtain⟨h2,e2,n2,g2,o2,f2⟩:=fR n1 b.enc;have gA:h2.get A=some (.cells false a.enc):=by rw[o2 _ (by omega)];exact g1
 have cA:h2.cell A 1=some (aB (a.ord:Int)):=by rw[H.aF gA];rfl
 have cB:h2.cell (A+1) 1=some (aB (b.ord:Int)):=by rw[H.aF g2];rfl
 simp(disch:=omega)only[go_sem,lH,aE,Cc,hA,e1,n1,e2,cA,cB];refine (Bh _ _ h2).mono ?_;rintro _ h3 ⟨rfl,f3⟩;simp(disch:=omega)only[go_sem];exact (f1.trans f2).trans f3
theorem MM (a b:KE)(h:H):Ev T 77 [.agg a.enc,.agg b.enc] h (λv h'=>v= aB (xW a.size b.size)/\Fr h h'):=by
 refine bP mO rfl rfl ?_;obtain⟨A,hA⟩:=exI h.next;obtain⟨h1,e1,n1,g1,o1,f1⟩:=fR hA a.enc;obtain⟨h2,e2,n2,g2,o2,f2⟩:=fR n1 b.enc;have gA:h2.get A=some (.cells false a.enc):=by rw[o2 _ (by omega)];exact g1
 have cA:h2.cell A 2=some (aB (a.size:Int)):=by rw[H.aF gA];rfl
 have cB:h2.cell (A+1) 2=some (aB (b.size:Int)):=by rw[H.aF g2];rfl
 simp(disch:=omega)only[go_sem,mO,aE,Cc,hA,e1,n1,e2,cA,cB];refine (Bh _ _ h2).mono ?_;rintro _ h3 ⟨rfl,f3⟩;simp(disch:=omega)only[go_sem];exact (f1.trans f2).trans f3
def KE.At (h:H)(a:KE):Prop:= ∃id off n cap,a.ranks= .sl id off (n+1) cap/\id<h.next/\h.cell id off=some (aB (a.fst:Int))
theorem EB (a b:KE)(h:H)(ha:a.At h)(hb:b.At h):Ev T 78 [.agg a.enc,.agg b.enc] h (λv h'=>v= aB (xW a.fst b.fst)/\Fr h h'):=by
 refine bP lP rfl rfl ?_;obtain⟨A,hA⟩:=exI h.next;obtain⟨h1,e1,n1,g1,o1,f1⟩:=fR hA a.enc;obtain⟨h2,e2,n2,g2,o2,f2⟩:=fR n1 b.enc;obtain⟨ia,oa,na,ca,ea,la,ga⟩:=ha;obtain⟨ib,ob,nb,cb,eb,lb,gb⟩:=hb;have F2:=f1.trans f2;have gA:h2.get A=some (.cells false a.enc):=by rw[o2 _ (by omega)];exact g1
 have cA:h2.cell A 3=some a.ranks:=by rw[H.aF gA];rfl
 have cB:h2.cell (A+1) 3=some b.ranks:=by rw[H.aF g2];rfl
 rw[ea] at cA;rw[eb] at cB;have ra:h2.cell ia oa=some (aB (a.fst:Int)):=by rw[F2.cell la];exact ga
 have rb:h2.cell ib ob=some (aB (b.fst:Int)):=by rw[F2.cell lb];exact gb
 simp(disch:=omega)only[go_sem,lP,aE,Cc,hA,e1,n1,e2,cA,cB,ra,rb];refine (Bh _ _ _).mono ?_;rintro _ h3 ⟨rfl,f3⟩;have F3:Fr h2 h3:=((Fr.refl h2).bF (by omega)).trans f3;have ha:=F2.next;have cA3:h3.cell A 3=some (.sl ia oa (na+1) ca):=by rw[F3.cell (by omega)];exact cA
 have cB3:h3.cell (A+1) 3=some (.sl ib ob (nb+1) cb):=by rw[F3.cell (by omega)];exact cB
 have ra3:h3.cell ia oa=some (aB (a.fst:Int)):=by rw[F3.cell (by omega)];exact ra
 have rb3:h3.cell ib ob=some (aB (b.fst:Int)):=by rw[F3.cell (by omega)];exact rb
 simp(disch:=omega)only[go_sem,cA3,cB3,ra3,rb3];exact F2.trans F3
theorem zW {h:H}{A:Nat}{ro:Bool}{a:KE}(hg:h.get A=some (.cells ro a.enc)):h.row A 0 4=some a.enc:=by
 simp [H.row,hg,sub,KE.enc]
theorem Ee (a:KE):eG (.agg a.enc) (.agg a.enc)=true:=by
 show tS a.enc a.enc=true;simp [KE.enc,tS,eG,a.hrep.2.2,a.hranks.2.2]
theorem KE.At.fr {a:KE}{h h':H}(x:a.At h)(f:Fr h h'):a.At h':=by
 obtain⟨ia,oa,na,ca,ea,la,ga⟩:=x;exact⟨ia,oa,na,ca,ea,kZ la f.next,by rw[f.cell la];exact ga⟩
theorem We (h:H)(x y z:Int):uY h 1 [aB 0] 3 [(0,1,aB x),(1,1,aB y),(2,1,aB z)]=some (.sl h.next 0 3 (.kn 3),h.new (.cells false (ints [x,y,z]))):=rfl
theorem UU (a b:KE)(h:H)(ha:a.At h)(hb:b.At h):Ev T 75 [.agg a.enc,.agg b.enc] h (λv h'=>v= aB (a.cmp b)/\Fr h h'):=by
 refine bP tM rfl rfl ?_;obtain⟨A,hA⟩:=exI h.next;obtain⟨h1,e1,n1,g1,o1,f1⟩:=fR hA a.enc;obtain⟨h2,e2,n2,g2,o2,f2⟩:=fR n1 b.enc;have F2:=f1.trans f2;have gA:h2.get A=some (.cells false a.enc):=by rw[o2 _ (by omega)];exact g1
 simp(disch:=omega)only[go_sem,tM,aE,Cc,hA,e1,n1,e2,zW gA,zW g2,Ee,H.Uw];have hn:=F2.next;refine (FE a b _).mono ?_;rintro _ h3 ⟨rfl,f3⟩;have F3:Fr h2 h3:=((Fr.refl h2).bF (by omega)).trans f3;have gB3:h3.get (A+1)=some (.cells false b.enc):=by rw[F3.get _ (by omega)];exact g2
 simp(disch:=omega)only[go_sem,zW gB3,Ee];refine (MM a b _).mono ?_;rintro _ h4 ⟨rfl,f4⟩;have F4:=F3.trans f4;have gB4:h4.get (A+1)=some (.cells false b.enc):=by rw[F4.get _ (by omega)];exact g2
 simp(disch:=omega)only[go_sem,zW gB4,Ee];refine (EB a b _ (ha.fr (F2.trans F4)) (hb.fr (F2.trans F4))).mono ?_;rintro _ h5 ⟨rfl,f5⟩;have F5:=F4.trans f5;have gB5:h5.get (A+1)=some (.cells false b.enc):=by rw[F5.get _ (by omega)];exact g2
 simp(disch:=omega)only[go_sem,zW gB5,Ee];obtain⟨I,hI⟩:=exI (h2.next+9+9);have n5:=f5.next;have n4:=f4.next;have n3:h2.next+9+12<=h3.next:=f3.next;simp(disch:=omega)only[go_sem,hI,We]
 obtain⟨h6,h6e⟩: ∃h6:H,h6=H.mk ((H.mk h5.tr I).new (Ob.cells false (ints [xW a.ord b.ord,xW a.size b.size,xW a.fst b.fst]))).tr h5.next:=⟨_,rfl⟩
 rw[←h6e];have g6:h6.get I=bX (ints [xW a.ord b.ord,xW a.size b.size,xW a.fst b.fst]):=by rw[h6e];exact H.aN (H.mk h5.tr I) _
 have n6:h6.next=h5.next:=by rw[h6e]
 have o6: ∀k,k≠I->h6.get k=h5.get k:=λk hk=>by rw[h6e];exact H.bU (H.mk h5.tr I) (by simpa using hk) _
 have F6:Fr h2 h6:=⟨by have:=F5.next;omega,λk hk=>by rw[o6 k (by omega)];exact F5.get k hk⟩
 refine (aaC _ [xW a.ord b.ord,xW a.size b.size,xW a.fst b.fst] h6 (by simp) (SV.all (by simp [aM]) (by omega) g6 _)).mono ?_;rintro _ h7 ⟨rfl,f7⟩;have F7:=F6.trans f7;have gB7:h7.get (A+1)=some (.cells false b.enc):=by rw[F7.get _ (by omega)];exact g2
 simp(disch:=omega)only[go_sem,zW gB7,Ee];exact⟨rfl,F2.trans F7⟩
theorem KE.lt_iff (a b:KE):a.lt b=true↔a.ord<b.ord∨a.ord=b.ord/\(a.size<b.size∨a.size=b.size/\a.fst<b.fst):=by
 unfold KE.lt KE.cmp GP GP GP GP xW;rw[decide_eq_true_eq]
 repeat' split
 all_goals omega
theorem VV:SWO KE.lt where
 irrefl x:=by rw[←Bool.not_eq_true,KE.lt_iff];omega
 trans x y z h1 h2:=by rw[KE.lt_iff] at*;omega
 ntrans x y z h1 h2:=by rw[←Bool.not_eq_true,KE.lt_iff] at*;omega
def KE.Pp (hB:H)(b0 S:Nat)(a:KE):Prop:= ∃id off n cap,a.ranks= .sl id off (n+1) cap/\id<b0/\id≠S/\hB.cell id off=some (aB (a.fst:Int))
def Bb (hB:H)(b0 S:Nat)(h:H):Prop:=b0<=h.next/\ ∀q,q<b0->q≠S->h.get q=hB.get q
theorem KE.Pp.at {hB h:H}{b0 S:Nat}{a:KE}(p:a.Pp hB b0 S)(b:Bb hB b0 S h):a.At h:=by
 obtain⟨id,off,n,cap,e,h1,h2,h3⟩:=p;refine⟨id,off,n,cap,e,kZ h1 b.1,?_⟩;rw[←h3];unfold H.cell;rw[b.2 id h1 h2]
@[reducible] def ZR (hB:H)(b0 S:Nat):bV KE where
 lt:=KE.lt
 enc:=KE.enc
 P:=KE.Pp hB b0 S
 B:=Bb hB b0 S
 f:=75
 b0:=b0
 S:=S
 swo:=VV
 len _:=rfl
 one a:=by simp [KE.enc,a.hrep.2.1,a.hranks.2.1,show (aB (a.ord:Int)).one=true from rfl,show (aB (a.size:Int)).one=true from rfl]
 eqv:=Ee
 cmp h a b hb pa pb:=(UU a b h (pa.at hb) (pb.at hb)).mono λv h' ⟨e,f⟩=>⟨_,e,rfl,f⟩
 bfr h h' b f:=⟨Nat.le_trans b.1 f.next,λq h1 h2=>by rw[f.get q (kZ h1 b.1)];exact b.2 q h1 h2⟩
 bS h h' b f:=⟨Nat.le_trans b.1 f.next,λq h1 h2=>by rw[f.get q (kZ h1 b.1) h2];exact b.2 q h1 h2⟩
 bR h h' R b hR f:=⟨Nat.le_trans b.1 f.next,λq h1 h2=>by rw[f.get q (kZ h1 b.1) (λe=>by have:q=R:=e;omega)];exact b.2 q h1 h2⟩
 bn h b:=b.1
theorem Ic {l:List KE}{N:Nat}(hl:l.length=N){e:Array KE}(hp:PermIn 0 N l.toArray e)(hs:SortedIn KE.lt 0 N e):e.toList.Perm l/\e.toList.Pairwise (λa b=>KE.lt b a=false):=by
 obtain⟨p1,p2,p3⟩:=hp;have hsz:e.size=N:=by rw[p1];simpa using hl
 refine⟨?_,?_⟩
 ·have a1:(e.extract 0 N).toList=e.toList:=by rw[←hsz];simp
  have a2:(l.toArray.extract 0 N).toList=l:=by rw[←hl];simp
  rwa [a1,a2] at p3
 ·rw[List.pairwise_iff_getElem]
  intro i j hi hj hij;have hj':j<N:=by simpa [hsz] using hj
  have:=hs i j (iP _) hij hj';have e1:e[i]! =e.toList[i]:=by simp at hi;simp [hi]
  have e2:e[j]! =e.toList[j]:=by simp at hj;simp [hj]
  rw[e1,e2] at this;exact this
def oN (l:List KE):List V:=l.flatMap KE.enc
theorem NP (h:H)(S b0:Nat)(l:List KE)(cp:rL)(hN:l.length<60000)(hg:h.get S=bX (oN l))(hS:S<h.next)(hb:b0<=h.next)(hP: ∀a∈l,a.Pp h b0 S):
  Ev T 74 [.sl S 0 l.length cp,.fn 75 [] []] h (λ_ h'=> ∃l',h'.get S=bX (oN l')/\l'.Perm l/\l'.Pairwise (λa b=>KE.lt b a=false)/\Fx (· =S) h h'):=by
 letI:=ZR h b0 S
 have A:dR h S l.length l.toArray:=⟨hg,by simp,hS,rfl,⟨hb,λ_ _ _=>rfl⟩,λi hi=>by
  have hi':i<l.length:=by simpa using hi
  have:l.toArray[i]! =l[i]:=by simp [hi']
  rw[this]
  exact hP _ (List.getElem_mem hi')⟩
 refine (Rk h S l.length l.toArray cp hN A).mono ?_
 rintro _ h' ⟨e,A2,p,s,F⟩
 obtain⟨q1,q2⟩:=Ic rfl p s
 exact⟨e.toList,A2.get,q1,q2,F⟩
end Go.Proofs.YtddpkbicnolafaaGreat.Cls
namespace Go.Proofs.YtddpkbicnolafaaGreat
open Go Go.Ay Go.Pm
set_option maxRecDepth 100000
section
variable {i j p:Nat} {S:LN} {Q:List Nat}
section
variable {n:Nat} {G:List Nat->Prop} {L:LN}
theorem Qh {l:LN}(nd:l.Nodup)(hi:i<l.length)(hj:j<l.length)(e:l.getD i []=l.getD j []):i=j:=by
 have ei:l.getD i []=l[i]:=by rw[List.getD,fX hi];rfl
 have ej:l.getD j []=l[j]:=by rw[List.getD,fX hj];rfl
 rw[ei,ej] at e;have h:=List.pairwise_iff_getElem.1 nd;rcases Nat.lt_trichotomy i j with h1|h1|h1
 ·exact absurd e (h i j hi hj h1)
 ·exact h1
 ·exact absurd e.symm (h j i hj hi h1)
def cR (G:List Nat->Prop)(L:LN)(i j:Nat):Prop:=cj G (L.getD i []) (L.getD j [])
open Classical in
noncomputable def kF (G:List Nat->Prop)(L:LN)(i:Nat):List Nat:=(List.range L.length).filter λj=>decide (cR G L i j)
theorem kX:j∈kF G L i↔j<L.length/\cR G L i j:=by
 classical
 unfold kF;rw[GQ,Ot,decide_eq_true_iff]
theorem Tc (i:Nat):(kF G L i).Pairwise (· < ·):=by
 classical
 unfold kF;exact List.Pairwise.filter _ List.pairwise_lt_range
theorem Bl (i:Nat):(kF G L i).Nodup:=by
 classical
 unfold kF;exact List.Pairwise.filter _ List.nodup_range
def Lf (G:List Nat->Prop)(L:LN)(i:Nat):Prop:= ∀j,j<i-> ¬cR G L j i
open Classical in
noncomputable def cE (G:List Nat->Prop)(L:LN)(k:Nat):List Nat:=(List.range k).filter λj=>decide (Lf G L j)
theorem oC (k:Nat):(Lf G L k->cE G L (k+1)=cE G L k++ [k])/\(¬Lf G L k->cE G L (k+1)=cE G L k):=by
 classical
 unfold cE;rw[List.range_succ,List.filter_append];refine⟨λh=>?_,λh=>?_⟩
 ·rw[List.filter_cons_of_pos (by simpa using h)];rfl
 ·rw[List.filter_cons_of_neg (by simpa using h),List.filter_nil,List.append_nil]
theorem lB {k:Nat}:i∈cE G L k↔i<k/\Lf G L i:=by
 classical
 unfold cE;rw[GQ,Ot,decide_eq_true_iff]
variable (hG:tP n G) (E:iR G L)
include hG E
omit hG in
theorem zD (hi:i<L.length):G (L.getD i []):=(E.mem _).1 (bD hi)
theorem kL (hi:i<L.length):bY n (L.getD i []):=hG.fA (zD E hi)
theorem De (hi:i<L.length):cR G L i i:=RI hG (kL hG E hi)
theorem Db (hi:i<L.length)(h:cR G L i j):cR G L j i:=SK hG (kL hG E hi) h
theorem oT {k:Nat}(hi:i<L.length)(h:cR G L i j)(h2:cR G L j k):cR G L i k:=IA hG (kL hG E hi) h h2
theorem YX (hi:i<L.length): ∃r,r<=i/\Lf G L r/\cR G L r i:=by
 induction i using Nat.strongRecOn with
 |_ i ih=>
  by_cases h:Lf G L i
  ·exact⟨i,gV _,h,De hG E hi⟩
  ·obtain⟨j,hj,hc⟩: ∃j,j<i/\cR G L j i:=La λhn=>h λj hj hc=>hn ⟨j,hj,hc⟩
   obtain⟨r,h1,h2,h3⟩:=ih j hj (by omega);exact⟨r,by omega,h2,oT hG E (by omega) h3 hc⟩
theorem PN {r s:Nat}(hr:r<L.length)(hs:s<L.length)(h1:Lf G L r)(h2:Lf G L s)(c1:cR G L r i)(c2:cR G L s i):r=s:=by
 have a1:=oT hG E hr c1 (Db hG E hs c2);have a2:=oT hG E hs c2 (Db hG E hr c1);rcases Nat.lt_trichotomy r s with h|h|h
 ·exact absurd a1 (h2 r h)
 ·exact h
 ·exact absurd a2 (h1 s h)
omit hG E in
structure BQ (G:List Nat->Prop)(L S:LN)(i:Nat)(Q:List Nat)(p:Nat):Prop where
 nd:Q.Nodup
 ne:0<Q.length
 hd:Q.getD 0 0=i
 mem: ∀j∈Q,j<L.length/\cR G L i j
 cl: ∀k,k<p-> ∀s∈S,∃j∈Q,L.getD j []=oI (L.getD (Q.getD k 0) []) s
omit hG E in
theorem BQ.len (b:BQ G L S i Q p):Q.length<=L.length:=by
 have h:Q ⊆ List.range L.length:=λj hj=>Ot.2 (b.mem j hj).1
 have:=List.Nodup.length_le_of_subset b.nd h;rwa [List.length_range] at this
theorem BQ.done (b:BQ G L S i Q p)(hp:Q.length<=p)(hi:i<L.length)(hS: ∀s∈S,G s)(hgen: ∀x,G x->gO n (λg=>g∈S) x)(j:Nat):j∈Q↔j<L.length/\cR G L i j:=by
 refine⟨b.mem j,λ⟨hj,hc⟩=>?_⟩
 have key: ∃k∈Q,L.getD k []=L.getD j []:=by
  refine WO (S:=λg=>g∈S) (λg hg=>hG.fA (hS g hg)) hgen (P:=λy=> ∃k∈Q,L.getD k []=y) (kL hG E hi) ⟨i,by rw[←b.hd];exact bD b.ne,rfl⟩ ?_ hc;rintro y g Y ⟨k,hk,rfl⟩ hg;obtain⟨t,ht,et⟩:=Gk.1 hk;obtain⟨j2,h1,h2⟩:=b.cl t (by omega) g hg;have e:Q.getD t 0=k:=by rw[Pm.bJ ht,et]
  rw[e] at h2;exact⟨j2,h1,h2⟩
 obtain⟨k,hk,e⟩:=key;have hkl:=(b.mem k hk).1;rw[←Qh E.nodup hkl hj e];exact hk
theorem BQ.sort (b:BQ G L S i Q p)(hp:Q.length<=p)(hi:i<L.length)(hS: ∀s∈S,G s)(hgen: ∀x,G x->gO n (λg=>g∈S) x){l':List Int}(h1:l'.Perm (zi Q))(h2:l'.Pairwise (· <= ·)):l'=zi (kF G L i):=by
 refine Rf (h1.trans ?_) h2 ?_
 ·refine List.Perm.map _ ((List.perm_ext_iff_of_nodup b.nd (Bl i)).2 λj=>?_)
  rw[b.done hG E hp hi hS hgen j,kX]
 ·unfold zi
  rw[List.pairwise_map];exact (Tc i).imp λh=>by omega
theorem Mc (hi:i<L.length)(hr:Lf G L i):0<(kF G L i).length/\(kF G L i).getD 0 0=i:=by
 have hm:i∈kF G L i:=kX.2 ⟨hi,De hG E hi⟩;have hl:=List.length_pos_of_mem hm;refine⟨hl,?_⟩;have h0:=kX.1 (bD (d:=0) hl);obtain⟨k,hk,ek⟩:=Gk.1 hm;have asc:=List.pairwise_iff_getElem.1 (Tc (G:=G) (L:=L) i);rw[Pm.bJ hl] at*
 by_cases hk0:k=0
 ·subst hk0;exact ek
 ·have h1:=asc 0 k hl hk (by omega)
  exact absurd (Db hG E hi h0.2) (hr _ (by omega))
end
end
end Go.Proofs.YtddpkbicnolafaaGreat
namespace Go.Ay
open Go
def JZ (o:Option Ob)(h:H)(id:Nat)(s:Ak)(k y:V):Option (V×H):=match o with
 |some (.wmap sh es)=>if s=sh/\isKey s k=true then
   some (V.undef,h.set id (some (.wmap sh (match gQ k es with
    |some e=>es.set e.1 (k,y)
    |none=>es++ [(k,y)]))))
  else none
 |_=>none
def YZ (s:Ak)(h:H)(x k y:V):Option (V×H):=match x with
 | .mp id=>JZ (h.get id) h id s k y
 |_=>none
theorem UC (ρ:X->V)(h:H)(s:Ak)(x k y:X):cX ρ h (.msw s x k y)=YZ s h (ρ x) (ρ k) (ρ y):=by
 simp only[cX,YZ,JZ];cases ρ x<;>try rfl
theorem UX (s:Ak)(h:H)(id:Nat)(k y:V):YZ s h (.mp id) k y=JZ (h.get id) h id s k y:=rfl
def MJ (o:Option Ob)(s:Ak)(zero:V)(ok:Bool)(k:V):Option V:=match o with
 |some (.wmap sh es)=>if s=sh/\isKey s k=true then
   match gQ k es with
   |some e=>some (if ok then .tup [e.2,.bool true] else e.2)
   |none=>some (if ok then .tup [zero,.bool false] else zero)
  else none
 |_=>none
def XG (s:Ak)(zero:V)(ok:Bool)(h:H)(x k:V):Option V:=match x with
 | .mp id=>MJ (h.get id) s zero ok k
 |_=>none
theorem RQ (ρ:X->V)(h:H)(s:Ak)(zero:V)(ok:Bool)(x k:X):cX ρ h (.lkw s zero ok x k)=(XG s zero ok h (ρ x) (ρ k)).map (·,h):=by
 simp only[cX,XG,MJ];cases ρ x<;>try rfl
 rename_i id;simp only
 cases hg:h.get id with
 |none=>rfl
 |some o=>
  cases o<;>try rfl
  rename_i sh es;simp only
  by_cases hc:s=sh/\isKey s (ρ k)=true
  ·rw[if_pos hc,if_pos hc]
   cases gQ (ρ k) es<;>rfl
  ·rw[if_neg hc,if_neg hc];rfl
theorem UR (s:Ak)(zero:V)(ok:Bool)(h:H)(id:Nat)(k:V):XG s zero ok h (.mp id) k=MJ (h.get id) s zero ok k:=rfl
attribute [go_sem] UC UX RQ UR
end Go.Ay
namespace Go.Proofs.YtddpkbicnolafaaGreat
open Go Go.Ay Go.Pm
set_option maxRecDepth 100000
def Re (L:LN)(k:Nat):List (V×V):=(List.range k).map λi=>(V.str (L.getD i []),aB i)
theorem Fg (k:V): ∀(a b:List (V×V)),gQ k a=none->gQ k (a++b)=(gQ k b).map λq=>(q.1+a.length,q.2)
 | [],b,_=>by
  cases h:gQ k b<;>simp [h]
 |e::a,b,h=>by
  show (if eG k e.1 then some (0,e.2) else (gQ k (a++b)).map λq=>(q.1+1,q.2))=_;have h':(if eG k e.1 then some (0,e.2) else (gQ k a).map λq=>(q.1+1,q.2))=none:=h;split at h'
  ·cases h'
  ·rename_i hn
   rw[if_neg hn,Fg k a b (by cases h2:gQ k a with|none=>rfl|some x=>rw[h2] at h';cases h'),Option.map_map]
   rfl
theorem Js (L:LN)(k:Nat):Re L (k+1)=Re L k++ [(V.str (L.getD k []),aB k)]:=by
 unfold Re;rw[List.range_succ,List.map_append];rfl
theorem Je {L:LN}{w:List Nat}: ∀{k:Nat},(∀i,i<k->L.getD i []≠w)->gQ (.str w) (Re L k)=none
 |0,_=>rfl
 |k+1,h=>by
  rw[Js,Fg _ _ _ (Je λi hi=>h i (by omega))]
  have:(eG (.str w) (.str (L.getD k [])))=false:=by
   have:=h k (by omega);simp only[eG,beq_eq_false_iff_ne,ne_eq];exact λe=>this e.symm
  show Option.map _ (if eG (.str w) (.str (L.getD k [])) then _ else _)=_;rw[if_neg (by rw[this];simp)];rfl
theorem Ro {L:LN}(nd:L.Nodup): ∀{k i:Nat},k<=L.length->i<k->gQ (.str (L.getD i [])) (Re L k)=some (i,aB i)
 |0,i,_,h=>by omega
 |k+1,i,hk,h=>by
  rw[Js]
  by_cases e:i=k
  ·subst e
   rw[Fg _ _ _ (Je λj hj e=>by have:=Qh nd (by omega) (by omega) e;omega)];show Option.map _ (if eG (.str (L.getD i [])) (.str (L.getD i [])) then some (0,aB i) else _)=_;rw[if_pos (by simp [eG])];simp [Re]
  ·have ih:=Ro nd (k:=k) (by omega) (show i<k by omega)
   have key: ∀(a b:List (V×V)) (x:V) (r:Nat×V),gQ x a=some r->gQ x (a++b)=some r:=by
    intro a
    induction a with
    |nil=>intro b x r h;cases h
    |cons y a ih2=>
     intro b x r h;show (if eG x y.1 then some (0,y.2) else (gQ x (a++b)).map λq=>(q.1+1,q.2))=_;have h':(if eG x y.1 then some (0,y.2) else (gQ x a).map λq=>(q.1+1,q.2))=some r:=h
     by_cases hc:eG x y.1=true
     ·rw[if_pos hc] at h' ⊢;exact h'
     ·rw[if_neg hc] at h' ⊢
      cases h2:gQ x a with
      |none=>rw[h2] at h';cases h'
      |some r2=>rw[h2] at h';rw[ih2 b x r2 h2];exact h'
   exact key _ _ _ _ ih
theorem Jq {w:List Nat}(h1:w.length<=1000)(h2: ∀x∈w,x<256):isKey .str (.str w)=true:=by
 have e:(decide (w.length<2^62)&&w.all λn=>decide (n<256))=true:=by
  rw[Bool.and_eq_true,decide_eq_true_eq,List.all_eq_true];exact⟨by omega,λx hx=>by simpa using h2 x hx⟩
 exact e
theorem KC {L:LN}(nd:L.Nodup){k:Nat}(hk:k<L.length)(hK:isKey .str (.str (L.getD k []))=true)(hh:H)(M:Nat):
  JZ (some (.wmap .str (Re L k))) hh M .str (.str (L.getD k [])) (aB k)=some (.undef,hh.set M (some (.wmap .str (Re L (k+1))))):=by
 have e:gQ (.str (L.getD k [])) (Re L k)=none:=Je λj hj e=>by have:=Qh nd (by omega) hk e;omega
 simp only[JZ]
 rw[if_pos ⟨trivial,hK⟩,e,Js]
theorem Tv {L:LN}(nd:L.Nodup){i:Nat}(hi:i<L.length)(hK:isKey .str (.str (L.getD i []))=true)(z:V):
  MJ (some (.wmap .str (Re L L.length))) .str z false (.str (L.getD i []))=some (aB i):=by
 simp only[MJ]
 rw[if_pos ⟨trivial,hK⟩,Ro nd (gV _) hi];rfl
end Go.Proofs.YtddpkbicnolafaaGreat
namespace Go.Proofs.YtddpkbicnolafaaGreat
open Go Go.Ay Go.Pm
set_option maxRecDepth 100000
section
variable {G:List Nat->Prop} {L:LN} {i j n:Nat} {Q:List Nat} {h:H} {v:V}
theorem Yk (vc:V)(d:Int)(O:List (List Int))(R:List (List (List Int)))(h:H)(hc:Ei h vc d O R)(hd:d<=7∨64<d)(so:kN O)(sr:kS R)(hb:jC d O R≠0):
  Ev T 45 [vc] h (λv h'=>v= .tup [.nilp,aB (jC d O R)]/\Fr h h'):=by
 have hc0:=hc
 obtain⟨vO,vR,e,sO,sR⟩:=hc
 subst e
 refine bP iH rfl rfl ?_
 have oneO:vO.one=true:=Gy sO
 have oneR:vR.one=true:=Gm sR
 obtain⟨B,hB⟩:=exI h.next
 obtain⟨h1,e1,n1,g1,o1,f1⟩:=fR hB [aB d,vO,vR]
 have bx:=bM h (v:= aB d) (u:=vO) (w:=vR) rfl oneO oneR
 have rB:=aU g1
 simp(disch:=omega)only[go_sem,iH,aE,bx,hB,e1,rB]
 refine (MN _ d O R h1 (hc0.mono f1) hd so sr hb).mono ?_
 rintro _ h2 ⟨rfl,f2⟩
 simp(disch:=omega)only[go_sem]
 refine aY (λ_=>?_) (λhc=>(hc hb).elim)
 simp(disch:=omega)only[go_sem]
 exact f1.trans f2
theorem EH {vL:V}(hc:vL.cells= [vL])(ho:vL.one=true)(M N m:Nat):vN [.aC,.nilm,.aC,.aC] [(0,1,vL),(1,1,.mp M),(3,1,.sl N 0 m (.kn m))]=some (.agg [vL,.mp M,.aC,.sl N 0 m (.kn m)]):=by
 simp [vN,jY,putAt,hc,ho,show (V.mp M).cells= [V.mp M] from rfl,show (V.sl N 0 m (.kn m)).cells= [V.sl N 0 m (.kn m)] from rfl,show (V.mp M).one=true from rfl,show (V.sl N 0 m (.kn m)).one=true from rfl]
theorem FW {vL:V}(ho:vL.one=true)(M N m:Nat)(h:H):Gz h (.agg [vL,.mp M,.aC,.sl N 0 m (.kn m)])=some (.ptr h.next 0,h.new (.cells false [vL,.mp M,.aC,.sl N 0 m (.kn m)])):=yC h _ (by simp [ho,show (V.mp M).one=true from rfl,show (V.sl N 0 m (.kn m)).one=true from rfl,show V.aC.one=true from rfl])
open Classical in
noncomputable def Dx (G:List Nat->Prop)(L:LN)(i:Nat)(Q:List Nat)(j:Nat):Bool:=decide ((∃i0,i0<i/\cR G L i0 j)∨j∈Q)
theorem oA:Dx G L i Q j=true↔(∃i0,i0<i/\cR G L i0 j)∨j∈Q:=by classical unfold Dx;simp only[decide_eq_true_eq]
theorem KD (G:List Nat->Prop)(L:LN)(j:Nat):Dx G L 0 [] j=false:=by
 rw[←Bool.not_eq_true,oA];rintro (⟨i0,h,_⟩|h)
 ·omega
 ·cases h
theorem Rl {k:Nat}:Dx G L i (Q++ [k]) j=if j=k then true else Dx G L i Q j:=by
 by_cases e:j=k
 ·rw[if_pos e,oA];exact .inr (by simp [e])
 ·rw[if_neg e,Bool.eq_iff_iff,oA,oA]
  simp [e]
theorem uV {p:Nat->Option Ay.Fn}{rd:Option Nat}{a:C}{k:Nat}{vars:List V}{Q:E->List V->H->Prop}(J:List V->H->Prop)(h1:Wp p rd (.loop a) vars h (λe v h'=>e= .exit k/\J v h'))(h2: ∀v h',J v h'->Q .norm v h'):Wp p rd (.loop a) vars h (uM k Q):=
 h1.mono λe v h' x=>by
  obtain⟨rfl,x⟩:=x;rw[yS];exact h2 v h' x
theorem dG.ge {sz id off b:Nat}{ws:List V}(o:dG h v sz ws b)(hn:ws.length=n*sz)(hz:0<sz)(s:Sl v sz n id off)(h0:0<n):b<=id:=by
 have hx:=s.ixa .i64 0 (by omega) (by omega);rcases o.sv with ⟨_,rfl⟩|⟨id',off',len,cap,ro,vs,e,h2,_⟩
 ·have:=Nat.mul_pos h0 hz
  simp at hn;omega
 ·have h3:=(o.in _ _ _ _ e).2.1
  subst e
  have hl:0<len:=by
   have:=Nat.mul_pos h0 hz;refine Nat.pos_of_ne_zero λe0=>?_
   subst e0;simp at h2;rw[h2] at hn;simp at hn;omega
  rw[zQ (by omega) (by omega)] at hx;simp only[Option.some.injEq,V.ptr.injEq] at hx;omega
theorem KI (hG:tP n G)(E:iR G L)(hi:i<L.length)(hr: ¬Lf G L i)(j:Nat):Dx G L i [] j=Dx G L (i+1) [] j:=by
 obtain⟨i0,h0,hc⟩: ∃j,j<i/\cR G L j i:=La λhn=>hr λj hj hc=>hn ⟨j,hj,hc⟩
 rw[Bool.eq_iff_iff,oA,oA];constructor
 ·rintro (⟨i1,h1,h2⟩|h)
  ·exact .inl ⟨i1,by omega,h2⟩
  ·cases h
 ·rintro (⟨i1,h1,h2⟩|h)
  ·by_cases e:i1=i
   ·subst e;exact .inl ⟨i0,h0,oT hG E (by omega) hc h2⟩
   ·exact .inl ⟨i1,by omega,h2⟩
  ·cases h
theorem NJ {S:LN}(hG:tP n G)(E:iR G L)(hi:i<L.length)(b:BQ G L S i Q Q.length)(hS: ∀s∈S,G s)(hgen: ∀x,G x->gO n (λg=>g∈S) x)(hj:j<L.length):Dx G L i Q j=Dx G L (i+1) [] j:=by
 rw[Bool.eq_iff_iff,oA,oA];constructor
 ·rintro (⟨i1,h1,h2⟩|h)
  ·exact .inl ⟨i1,by omega,h2⟩
  ·exact .inl ⟨i,by omega,(b.mem j h).2⟩
 ·rintro (⟨i1,h1,h2⟩|h)
  ·by_cases e:i1=i
   ·subst e;exact .inr ((b.done hG E (gV _) hi hS hgen j).2 ⟨hj,h2⟩)
   ·exact .inl ⟨i1,by omega,h2⟩
  ·cases h
theorem zO (hc:v.cells= [v])(ho:v.one=true)(x y:Int):vN [.aC,aB 0,aB 0] [(0,1,v),(1,1,aB x),(2,1,aB y)]=some (.agg [v,aB x,aB y]):=by
 simp [vN,jY,putAt,hc,ho,show ∀z,(aB z).cells= [aB z] from λ_=>rfl,show ∀z,(aB z).one=true from λ_=>rfl]
theorem EX {w:V}(ho:v.one=true)(hc':w.cells= [w])(ho':w.one=true)(x y:Int):vN [.aC,aB 0,aB 0,.aC] [(0,3,.agg [v,aB x,aB y]),(3,1,w)]=some (.agg [v,aB x,aB y,w]):=by
 simp [vN,jY,putAt,hc',ho,ho',show ∀l,(V.agg l).cells=l from λ_=>rfl,show ∀z,(aB z).one=true from λ_=>rfl]
theorem DP {w:V}(ho:v.one=true)(ho':w.one=true)(x y:Int)(h:H):uY h 4 [.aC,aB 0,aB 0,.aC] 1 [(0,4,.agg [v,aB x,aB y,w])]=some (.sl h.next 0 1 (.kn 1),h.new (.cells false [v,aB x,aB y,w])):=by
 have e:dV [V.aC,aB 0,aB 0,.aC] 4= [V.aC,aB 0,aB 0,.aC]:=rfl;simp [uY,jY,putAt,e,ho,ho',show ∀l,(V.agg l).cells=l from λ_=>rfl,show ∀z,(aB z).one=true from λ_=>rfl]
theorem qF (k:Nat):(cE G L k).length<=k:=by
 classical
 unfold cE;exact Nat.le_trans (List.length_filter_le _ _) (by rw[List.length_range];exact gV _)
theorem Ng (ks:List Cls.KE):(Cls.oN ks).length=ks.length*4:=by
 induction ks with
 |nil=>rfl
 |cons a r ih=>
  show (a.enc++Cls.oN r).length=_;rw[pW,ih,List.length_cons];show 4+_=_;omega
theorem GA {a b c d:V}(hh:H)(id:Nat)(y:V):fG (some (.cells false [a,b,c,d])) hh id 2 [y]=some (hh.set id (some (.cells false [a,b,y,d]))):=by
 simp [fG,putAt]
theorem WV {sz:Nat}{ws:List V}(s:SV h v sz ws):Wj (λq=>h.next<=q) v:=by
 cases v with
 |sl id off len cap=>exact λh2=>by have:=s.in _ _ _ _ rfl;omega
 |_=>trivial
structure KO (n:Nat)(G:List Nat->Prop)(L:LN)(X:Nat)(W:Nat->Prop)(hh:H)(a:Cls.KE)(r:Nat):Prop where
 fst:a.fst=r
 ord:a.ord=fM (L.getD r []) n
 size:a.size=(kF G L r).length
 rep:PV (λq=>X<=q) hh a.rep (L.getD r [])
 ranks:PV W hh a.ranks (kF G L r)
theorem KO.go {X:Nat}{W W':Nat->Prop}{h':H}{a:Cls.KE}{r:Nat}(k:KO n G L X W h a r)(f:Fx W h h')(hx:X<=h.next)(hW: ∀q,W q->X<=q)(hw: ∀q,q<h.next->W' q->W q):KO n G L X W' h' a r:=
 ⟨k.fst,k.ord,k.size,k.rep.fx ⟨f.next,λq h1 h2=>f.get q h1 λh3=>h2 (hW q h3)⟩,PV.go k.ranks f hw⟩
structure OfJ (n:Nat)(G:List Nat->Prop)(L:LN)(X D:Nat)(vL:V)(h5:H)(i:Nat)(hh:H):Prop where
 ex: ∃vK ks W,hh.get (X+8)=some (.cells false [vL,.mp (X+3),vK,.sl (X+6) 0 L.length (.kn L.length)])/\dG hh vK 4 (Cls.oN ks) (D+1)/\aZ (KO n G L X W hh) ks (cE G L i)/\Cq W vK/\W D/\W (X+8)/\W (X+6)/\(∀q,W q->q<hh.next)/\(∀q,W q->X<=q)/\(ks= []∨ ∃id cap,vK= .sl id 0 ks.length cap/\hh.get id=some (.cells false (Cls.oN ks)))
 gD:hh.get D=some (.cells false (rc L.length λj=> .bool (Dx G L i [] j)))
 old:Fx (λq=>q=X+8∨D<=q) h5 hh
 nx:D<hh.next
def LW (n:Nat):C->Bool
 | .block k _=>k==n
 | .seq _ b=>LW n b
 |_=>false
def Pb (n:Nat):C->C
 | .seq a b=>if LW n a then b else Pb n b
 |c=>c
structure OfE (n:Nat)(G:List Nat->Prop)(L:LN)(X D:Nat)(vL:V)(h h2 h5 h7:H):Prop where
 el:iR G L
 le:L.length<=5040
 f2:Fr h h2
 x2:h2.next=X
 sp:SP h2 vL L
 f25:Fr h2 h5
 xD:X+10<=D
 n5:h5.next=D
 gM:h5.get (X+3)=some (.wmap .str (Re L L.length))
 gN:h5.get (X+6)=some (.cells false (rc L.length λ_=> aB 0))
 j:OfJ n G L X D vL h5 L.length h7
theorem UI {W0:Nat->Prop}(vc:V)(n:Nat)(O:LN)(R:oJ)(G:List Nat->Prop)(h:H)(gc:GC W0 h vc n O R G)(P:V->H->Prop)
  (hk: ∀L X D vL h2 h5 h7 A (g:Nat->V),cK O R n 0 (cJ n)=L->OfE n G L X D vL h h2 h5 h7->Wp T none (Pb 2 iH.body) ([g 0,.ptr A 0,.nilp,aB 0,vL,g 5,.ptr (X+8) 0,g 7,g 8,g 9,g 10,g 11,g 12,g 13,g 14,g 15,g 16,g 17,g 18,g 19,g 20,g 21,g 22,g 23,g 24,g 25,g 26,g 27,g 28,g 29,g 30,g 31,g 32,g 33,g 34,g 35,g 36,g 37,g 38,g 39,g 40,g 41,g 42,g 43,g 44,g 45]) h7 (OM iH.results P)):
  Ev T 45 [vc] h P:=by
 obtain⟨vO,vR,e,sO,sR⟩:=gc.ch
 subst e
 refine bP iH rfl rfl ?_
 have oneO:vO.one=true:=Gy sO
 have oneR:vR.one=true:=Gm sR
 obtain⟨A,hA⟩:=exI h.next
 obtain⟨h1,e1,n1,g1,o1,f1⟩:=fR hA [aB n,vO,vR]
 have bx:=bM h (v:= aB n) (u:=vO) (w:=vR) rfl oneO oneR
 have rB:=aU g1
 obtain⟨L,hL⟩:=exI (cK O R n 0 (cJ n))
 obtain⟨E,ll⟩:=fE gc.mI gc.isc
 have ll5:=kE gc
 rw[hL] at E ll
 have hG:=gc.mI
 have n7:=gc.n7
 have n0:=gc.n0
 simp(disch:=omega)only[go_sem,iH,aE,bx,hA,e1,rB]
 refine (UL _ n O R G h1 (gc.mono f1)).mono ?_
 rw[hL]
 rintro _ h2 ⟨vL,rfl,nw⟩
 obtain⟨wL,W,owL,pvL,bkL,W1⟩:=nw.ex
 have hwL:=aZ.length pvL
 obtain⟨m,hm⟩:=exI L.length
 rw[hm] at hwL
 have lvL:=dG.lens owL hwL
 have oneL:=owL.sv.dS.2.1
 have f2:=nw.fr
 simp(disch:=omega)only[go_sem,lvL]
 refine aY (λhc=>(hc rfl).elim) (λ_=>?_)
 obtain⟨X,hX⟩:=exI h2.next
 simp(disch:=omega)only[go_sem,lvL,lD _ m (by omega),hX,EH owL.sv.dS.1 oneL,FW oneL]
 obtain⟨h3,h3e⟩: ∃h3:H,h3=H.mk ((H.mk ((H.mk ((H.mk h2.tr (X+3)).new (Ob.wmap Ak.str [])).tr (X+6)).new (Ob.cells false (rc m λ_=>aB 0))).tr (X+8)).new (Ob.cells false [vL,.mp (X+3),.aC,.sl (X+6) 0 m (.kn m)])).tr (X+10):=⟨_,rfl⟩
 rw[←h3e]
 have n3:h3.next=X+10:=by rw[h3e]
 have gB:h3.get (X+8)=some (.cells false [vL,.mp (X+3),.aC,.sl (X+6) 0 m (.kn m)]):=by rw[h3e];exact H.aN (H.mk _ (X+8)) _
 have gN:h3.get (X+6)=some (.cells false (rc m λ_=>aB 0)):=by
  rw[h3e];exact (H.bU (H.mk _ (X+8)) (show X+6≠X+8 by omega) _).trans (H.aN (H.mk _ (X+6)) _)
 have gM:h3.get (X+3)=some (.wmap .str (Re L 0)):=by
  rw[h3e];exact (H.bU (H.mk _ (X+8)) (show X+3≠X+8 by omega) _).trans ((H.bU (H.mk _ (X+6)) (show X+3≠X+6 by omega) _).trans (H.aN (H.mk _ (X+3)) _))
 have f3:Fr h2 h3:=⟨by omega,λq hq=>by
  rw[h3e]
  exact (H.bU (H.mk _ (X+8)) (show q≠X+8 by omega) _).trans ((H.bU (H.mk _ (X+6)) (show q≠X+6 by omega) _).trans (H.bU (H.mk _ (X+3)) (show q≠X+3 by omega) _))⟩
 clear h3e
 have lt64: ∀i,i<m->(L.getD i []).length<=1000/\ ∀x∈L.getD i [],x<256:=λi hi=>by
  have P:=kL hG E (show i<L.length by omega);exact⟨by rw[P.len];omega,λx hx=>by have:=P.lt x hx;omega⟩
 obtain⟨idL,offL,shL,hidL,hcL⟩:=SV.shape owL.sv m (by omega) (by omega)
 have hLa: ∀i,i<m-> ∃vx,(∀h',Fr h2 h'->h'.cell idL (offL+i)=some vx)/\SI h2 vx (zi (L.getD i [])):=λi hi=>by
  obtain⟨v,h1,h2'⟩:=gG.at pvL (i:=i) (by omega);exact⟨v,λh' f=>by rw[f.cell (hidL (by omega)),hcL i (by omega),h1],h2'.si⟩
 have hK: ∀i,i<m->isKey .str (.str (L.getD i []))=true:=λi hi=>Jq (lt64 i hi).1 (lt64 i hi).2
 refine bT (λvs hh=>(∃g:Nat->V,vs= [g 0,.ptr A 0,.nilp,aB 0,vL,g 5,.ptr (X+8) 0,g 7,g 8,g 9,g 10,g 11,g 12,g 13,g 14,g 15,g 16,g 17,g 18,g 19,g 20,g 21,g 22,g 23,g 24,g 25,g 26,g 27,g 28,g 29,g 30,g 31,g 32,g 33,g 34,g 35,g 36,g 37,g 38,g 39,g 40,g 41,g 42,g 43,g 44,g 45])/\hh.get (X+3)=some (.wmap .str (Re L m))/\Fx (· =X+3) h3 hh) ?_ ?_
 ·refine aG (λk' vs hh=> ∃(i:Nat),(∃g:Nat->V,vs= [g 0,.ptr A 0,.nilp,aB 0,vL,g 5,.ptr (X+8) 0,g 7,g 8,g 9,g 10,g 11,g 12,g 13,g 14,g 15,g 16,g 17,g 18,g 19,g 20,g 21,g 22,vL,aB m,aB i,g 26,g 27,g 28,g 29,g 30,g 31,g 32,g 33,g 34,g 35,g 36,g 37,g 38,g 39,g 40,g 41,g 42,g 43,g 44,g 45])/\i<=m/\hh.get (X+3)=some (.wmap .str (Re L i))/\Fx (· =X+3) h3 hh/\k'=m-i) m
   ⟨0,aA rfl,iP _,gM,Fx.refl _ h3,rfl⟩ ?_
  rintro k' vars h4 ⟨i,⟨g,rfl⟩,hi,gM4,F4,rfl⟩
  by_cases hlt:(i:Int)<(m:Int)
  case neg=>
   have d4:=fF hlt;obtain rfl:i=m:=by omega
   simp(disch:=omega)only[go_sem,d4];exact⟨aA rfl,gM4,F4⟩
  have d4:=iK hlt
  have hi':i<m:=by omega
  have f24:Fr h2 h4:=⟨by have:=F4.next;omega,λq hq=>by rw[F4.get q (by omega) (by omega)];exact f3.get q hq⟩
  have gB4:h4.get (X+8)=some (.cells false [vL,.mp (X+3),.aC,.sl (X+6) 0 m (.kn m)]):=by rw[F4.get _ (by omega) (by omega)];exact gB
  obtain⟨vx,cx,sx⟩:=hLa i hi'
  have cB2:h4.cell (X+8) 1=some (.mp (X+3)):=by rw[H.aF gB4];rfl
  simp(disch:=omega)only[go_sem,d4,shL.ixa,cx h4 f24,cB2]
  refine (Qj vx (L.getD i []) _ (lt64 i hi').1 (lt64 i hi').2 (sx.mono (f24.trans ((Fr.refl h4).bF (by omega))))).mono ?_
  rintro _ h5 ⟨rfl,f5⟩
  have f45:Fr h4 h5:=((Fr.refl h4).bF (by omega)).trans f5
  have n4:=F4.next
  have gM5:h5.get (X+3)=some (.wmap .str (Re L i)):=by rw[f45.get _ (by omega)];exact gM4
  have cB5:h5.cell (X+8) 1=some (.mp (X+3)):=by rw[f45.cell (by omega)];exact cB2
  have pt:=λhh=>KC E.nodup (show i<L.length by omega) (hK i hi') hh (X+3)
  simp(disch:=omega)only[go_sem,cB5,gM5,pt]
  rw[fJ i]
  refine⟨by simp [eG],m-(i+1),by omega,i+1,aA rfl,by omega,rfl,⟨by have:=f45.next;show h3.next<=h5.next;omega,λq h1 h2=>by rw[H.aI _ (λe=>h2 e),f45.get q (by omega)];exact F4.get q h1 h2⟩,rfl⟩
 rintro vars h4 ⟨⟨g,rfl⟩,gM4,F4⟩
 have n4:=F4.next
 have f24:Fr h2 h4:=⟨by omega,λq hq=>by rw[F4.get q (by omega) (by omega)];exact f3.get q hq⟩
 have gB4:h4.get (X+8)=some (.cells false [vL,.mp (X+3),.aC,.sl (X+6) 0 m (.kn m)]):=by rw[F4.get _ (by omega) (by omega)];exact gB
 have gN4:h4.get (X+6)=some (.cells false (rc m λ_=>aB 0)):=by rw[F4.get _ (by omega) (by omega)];exact gN
 have f14:=f2.trans f24
 have rA:=aU (h:=h4) (id:=A) (ro:=false) (by rw[f14.get _ (by omega)];exact g1)
 simp(disch:=omega)only[go_sem,rA]
 refine (EC _ n O R G h4 (gc.mono (f1.trans f14))).mono ?_
 rintro _ h5 ⟨vS,rfl,nS⟩
 have f5:=nS.fr
 obtain⟨D,hD⟩:=exI h5.next
 obtain⟨h6,e6,n6,g6,o6,f6⟩:=fR hD (rc m λ_=>V.bool false)
 simp(disch:=omega)only[go_sem,lvL,zX,hD,e6]
 have f25:=f24.trans f5
 have hX5:=f25.next
 have n5:=f5.next
 obtain⟨wS,WS,owS,pvS,bkS,WS1⟩:=nS.ex
 obtain⟨S,hS⟩:=exI (gY R)
 rw[hS] at pvS
 have hwS:=aZ.length pvS
 have hSG: ∀s∈S,G s:=λs hs=>Is gc.isc (by rw[hS];exact hs)
 have hSgen: ∀x,G x->gO n (λg=>g∈S) x:=λx hx=>by rw[←hS];exact Wy hG gc.isc hx
 obtain⟨sl,hsl⟩:=exI S.length
 have hsl7:sl<=49:=by
  have h1: ∀j,j<R.length->(R.getD j []).length<=n:=λj hj=>by
   have hj':j<n:=by rw[←gc.isc.lr];exact hj
   rw[gc.isc.rl j hj'];have:=wV (λx hx=>hG.fA hx) hj' (gc.isc.asc j hj') (gc.isc.mem j hj');omega
  have h2:=Bs (n:=n) (R:=R) (gV _) h1;rw[List.take_length,hS,hsl,gc.isc.lr] at h2;have:n*n<=7*7:=Nat.mul_le_mul n7 n7;omega
 have lvS:=dG.lens owS (hwS.trans hsl)
 obtain⟨idS,offS,shS,hidS,hcS⟩:=SV.shape owS.sv sl (by omega) (by omega)
 have geS:=dG.ge owS (n:=sl) (by omega) (by omega) shS
 have hSa: ∀t,t<sl-> ∃vy,(∀hh,Fx (λq=>q=X+8∨D<=q) h5 hh->hh.cell idS (offS+t)=some vy)/\PV (λq=>q=X+8∨D<=q) h5 vy (S.getD t []):=λt ht=>by
  obtain⟨v,h1,h2'⟩:=gG.at pvS (i:=t) (by omega);have hi:=hidS (by omega);have hge:h4.next<=idS:=geS (by omega);refine⟨v,λhh f=>?_,h2'.sG λid hid hw=>WS1 id ?_⟩
  ·have e:hh.get idS=h5.get idS:=f.get idS hi (by omega)
   unfold H.cell;rw[e];have:=hcS t (by omega);rw[h1] at this;exact this
  ·rcases hw with e|e
   ·omega
   ·omega
 have J0:OfJ n G L X D vL h5 0 h6:=
  ⟨⟨.aC, [],λq=>q=D∨q=X+8∨q=X+6,by rw[f6.get _ (by omega),f5.get _ (by omega),hm];exact gB4,dG.aC _ _ _,trivial,λ_ _ _ _ e=>(by cases e),.inl rfl,.inr (.inl rfl),.inr (.inr rfl),λq h=>by rcases h with h|h|h<;>omega,λq h=>by rcases h with h|h|h<;>omega,.inl rfl⟩,
   by rw[g6,hm,show (λj=>V.bool (Dx G L 0 [] j))=λ_=>V.bool false from funext λj=>by rw[KD]],Fx.of f6,by omega⟩
 refine bT (λvs hh=>(∃g:Nat->V,vs= [g 0,.ptr A 0,.nilp,aB 0,vL,g 5,.ptr (X+8) 0,g 7,g 8,g 9,g 10,g 11,g 12,g 13,g 14,g 15,g 16,g 17,g 18,g 19,g 20,g 21,g 22,g 23,g 24,g 25,g 26,g 27,g 28,g 29,g 30,g 31,g 32,g 33,g 34,g 35,g 36,g 37,g 38,g 39,g 40,g 41,g 42,g 43,g 44,g 45])/\OfJ n G L X D vL h5 m hh) ?_ ?_
 ·refine aG (λk' vs hh=> ∃(i:Nat),(∃g:Nat->V,vs= [g 0,.ptr A 0,.nilp,aB 0,vL,g 5,.ptr (X+8) 0,g 7,g 8,vS,.sl D 0 m (.kn m),g 11,g 12,g 13,g 14,g 15,g 16,g 17,g 18,g 19,g 20,g 21,g 22,g 23,g 24,g 25,g 26,vL,aB m,aB i,g 30,g 31,g 32,g 33,g 34,g 35,g 36,g 37,g 38,g 39,g 40,g 41,g 42,g 43,g 44,g 45])/\i<=m/\OfJ n G L X D vL h5 i hh/\k'=m-i) m
   ⟨0,aA rfl,iP _,J0,rfl⟩ ?_
  clear J0
  rintro k' vars h7 ⟨i,⟨g,rfl⟩,hi,J,rfl⟩
  by_cases hlt:(i:Int)<(m:Int)
  case neg=>
   have d4:=fF hlt;obtain rfl:i=m:=by omega
   simp(disch:=omega)only[go_sem,d4];exact⟨aA rfl,J⟩
  have d4:=iK hlt
  have hi':i<m:=by omega
  have nD:=J.nx
  have f27:Fr h2 h7:=⟨by omega,λq hq=>by rw[J.old.get q (by omega) (by omega)];exact f25.get q hq⟩
  obtain⟨vx,cx,sx⟩:=hLa i hi'
  have cD:=iW J.gD (i:=i) (by omega)
  by_cases hr:Lf G L i
  case neg=>
   have hsn:Dx G L i [] i=true:=by
    rw[oA];exact .inl (La λhn=>hr λj hj hc=>hn ⟨j,hj,hc⟩)
   rw[hsn] at cD;simp(disch:=omega)only[go_sem,d4,shL.ixa,cx h7 f27,cD];rw[fJ i];refine⟨m-(i+1),by omega,i+1,aA rfl,by omega,?_,rfl⟩;refine⟨?_,?_,J.old,J.nx⟩
   ·rw[(oC i).2 hr];exact J.ex
   ·rw[J.gD,bL λj _=>by rw[KI hG E (show i<L.length by omega) hr j]]
  have hsn:Dx G L i [] i=false:=by
   rw[←Bool.not_eq_true,oA];rintro (⟨j,hj,hc⟩|h)
   ·exact hr j hj hc
   ·cases h
  rw[hsn] at cD
  obtain⟨h8,e8,n8,g8,o8⟩:=xX h7 D ((rc L.length λj=> .bool (Dx G L i [] j)).set i (.bool true))
  obtain⟨Z,hZ⟩:=exI h8.next
  obtain⟨h9,e9,n9,g9,o9,f9⟩:=fR hZ [aB i]
  have pt:=bW (vs:=rc L.length λj=> .bool (Dx G L i [] j)) (off:=i) (by rw[eU];omega)
  clear bx gc sO sR rB rA hcL gN4 gB4 g1 o1 f1 f3 gB gN gM
  simp(disch:=omega)only[go_sem,d4,shL.ixa,cx h7 f27,cD,J.gD,pt,e8,dB h8 (z:= aB 0) (v:= aB i) rfl rfl,hZ,e9]
  have hZ7:h7.next=Z:=by omega
  have hc0:(rc L.length λj=>V.bool (Dx G L i [] j)).set i (.bool true)=rc L.length λj=> .bool (Dx G L i [i] j):=by
   rw[iY]
   exact bL λj _=>by
    rw[show [i]= []++ [i] from rfl,Rl]
    by_cases e:j=i
    ·rw[if_pos e,if_pos e]
    ·rw[if_neg e,if_neg e]
  have F79:Fx (· =D) h7 h9:=⟨by omega,λq h1 h2=>by rw[o9 q (by omega),o8 q h2]⟩
  have B0:BQ G L S i [i] 0:=⟨by simp,by simp,rfl,λj hj=>by
   obtain rfl:j=i:=by simpa using hj
   exact⟨by omega,De hG E (by omega)⟩,λk hk=>by omega⟩
  refine bT (λvs hh=> ∃(Q:List Nat) (q:Nat) (cp:rL),(∃g:Nat->V,vs= [g 0,.ptr A 0,.nilp,aB 0,vL,g 5,.ptr (X+8) 0,g 7,g 8,vS,.sl D 0 m (.kn m),aB i,vx,.sl q 0 Q.length cp,g 14,g 15,g 16,g 17,g 18,g 19,g 20,g 21,g 22,g 23,g 24,g 25,g 26,vL,aB m,aB i,g 30,g 31,g 32,g 33,g 34,g 35,g 36,g 37,g 38,g 39,g 40,g 41,g 42,g 43,g 44,g 45])/\
    BQ G L S i Q Q.length/\(cp= .un 1∨cp= .kn Q.length)/\hh.get q=some (.cells false (ints (zi Q)))/\Z<=q/\q<hh.next/\hh.get D=some (.cells false (rc L.length λj=> .bool (Dx G L i Q j)))/\Fx (· =D) h7 hh) ?_ ?_
  ·refine aG (λk' vs hh=> ∃(Q:List Nat) (q:Nat) (cp:rL) (p:Nat),(∃g:Nat->V,vs= [g 0,.ptr A 0,.nilp,aB 0,vL,g 5,.ptr (X+8) 0,g 7,g 8,vS,.sl D 0 m (.kn m),aB i,vx,.sl q 0 Q.length cp,aB p,g 15,g 16,g 17,g 18,g 19,g 20,g 21,g 22,g 23,g 24,g 25,g 26,vL,aB m,aB i,g 30,g 31,g 32,g 33,g 34,g 35,g 36,g 37,g 38,g 39,g 40,g 41,g 42,g 43,g 44,g 45])/\
    p<=Q.length/\BQ G L S i Q p/\(cp= .un 1∨cp= .kn Q.length)/\hh.get q=some (.cells false (ints (zi Q)))/\Z<=q/\q<hh.next/\hh.get D=some (.cells false (rc L.length λj=> .bool (Dx G L i Q j)))/\Fx (· =D) h7 hh/\k'=m-p) m
    ⟨[i],Z,_,0,aA rfl,iP _,B0,.inr rfl,g9,gV _,by omega,by rw[o9 _ (by omega),g8,hc0],F79,rfl⟩ ?_
   clear F79 B0 e8 n8 g8 o8 hZ e9 n9 g9 o9 f9 pt hc0
   rintro k' vars ha ⟨Q,q,cp,p,⟨g2,rfl⟩,hp,BQ0,hcp,gq,hq,nq,gD,Fa,rfl⟩
   have hQl:=BQ0.len
   by_cases hpl:(p:Int)<(Q.length:Int)
   case neg=>
    have d5:decide ((p:Int)<(Q.length:Int))=false:=decide_eq_false hpl;obtain rfl:p=Q.length:=by omega
    simp(disch:=omega)only[go_sem,d5];exact⟨Q,q,cp,aA rfl,BQ0,hcp,gq,hq,nq,gD,Fa⟩
   have d5:decide ((p:Int)<(Q.length:Int))=true:=decide_eq_true hpl
   have hp':p<Q.length:=by omega
   simp(disch:=omega)only[go_sem,d5,lvS]
   obtain⟨c,hc⟩:=exI (Q.getD p 0)
   obtain⟨hcm,hcc⟩:=BQ0.mem c (by rw[←hc];exact bD hp')
   have Cp:=kL hG E hcm
   refine uV (λvs hh=> ∃(Q:List Nat) (q:Nat) (cp:rL),(∃g:Nat->V,vs= [g 0,.ptr A 0,.nilp,aB 0,vL,g 5,.ptr (X+8) 0,g 7,g 8,vS,.sl D 0 m (.kn m),aB i,vx,.sl q 0 Q.length cp,aB p,g 15,g 16,g 17,g 18,g 19,g 20,g 21,g 22,g 23,g 24,g 25,g 26,vL,aB m,aB i,g 30,g 31,g 32,g 33,g 34,g 35,g 36,g 37,g 38,g 39,g 40,g 41,g 42,g 43,g 44,g 45])/\
     p<Q.length/\BQ G L S i Q (p+1)/\(cp= .un 1∨cp= .kn Q.length)/\hh.get q=some (.cells false (ints (zi Q)))/\Z<=q/\q<hh.next/\hh.get D=some (.cells false (rc L.length λj=> .bool (Dx G L i Q j)))/\Fx (· =D) h7 hh) ?_ ?_
   ·refine aG (λk' vs hh=> ∃(Q:List Nat) (q:Nat) (cp:rL) (t:Nat),(∃g:Nat->V,vs= [g 0,.ptr A 0,.nilp,aB 0,vL,g 5,.ptr (X+8) 0,g 7,g 8,vS,.sl D 0 m (.kn m),aB i,vx,.sl q 0 Q.length cp,aB p,g 15,g 16,g 17,g 18,g 19,g 20,g 21,g 22,g 23,g 24,g 25,g 26,vL,aB m,aB i,g 30,g 31,g 32,vS,aB sl,aB t,g 36,g 37,g 38,g 39,g 40,g 41,g 42,g 43,g 44,g 45])/\
     p<Q.length/\t<=sl/\BQ G L S i Q p/\Q.getD p 0=c/\(∀s∈S.take t,∃j∈Q,L.getD j []=oI (L.getD c []) s)/\(cp= .un 1∨cp= .kn Q.length)/\hh.get q=some (.cells false (ints (zi Q)))/\Z<=q/\q<hh.next/\hh.get D=some (.cells false (rc L.length λj=> .bool (Dx G L i Q j)))/\Fx (· =D) h7 hh/\k'=sl-t) sl
     ⟨Q,q,cp,0,aA rfl,hp',iP _,BQ0,hc,λs hs=>(by simp at hs),hcp,gq,hq,nq,gD,Fa,rfl⟩ ?_
    clear BQ0 hcp gq hq nq gD Fa hc hp' hQl hpl d5 hp
    clear Q q cp
    rintro k' vars hb ⟨Q,q,cp,t,⟨g3,rfl⟩,hp',ht,BQ0,hc,hcl,hcp,gq,hq,nq,gD,Fb,rfl⟩
    by_cases htl:(t:Int)<(sl:Int)
    case neg=>
     have d5:decide ((t:Int)<(sl:Int))=false:=decide_eq_false htl;obtain rfl:t=sl:=by omega
     simp(disch:=omega)only[go_sem,d5];refine⟨Q,q,cp,aA rfl,hp',⟨BQ0.nd,BQ0.ne,BQ0.hd,BQ0.mem,λk hk s hs=>?_⟩,hcp,gq,hq,nq,gD,Fb⟩
     by_cases e:k=p
     ·subst e
      rw[hc];exact hcl s (by rw[←hsl,List.take_length];exact hs)
     ·exact BQ0.cl k (by omega) s hs
    have d5:decide ((t:Int)<(sl:Int))=true:=decide_eq_true htl
    have ht':t<sl:=by omega
    have hQl:=BQ0.len
    have nb:=Fb.next
    have FBb:Fx (λq=>q=X+8∨D<=q) h5 hb:=⟨by have:=J.old.next;omega,λq h1 h2=>by rw[Fb.get q (by omega) (λe=>h2 (.inr (by have:q=D:=e;omega)))];exact J.old.get q h1 h2⟩
    have f2b:Fr h2 hb:=⟨by omega,λq hq=>by rw[Fb.get q (by omega) (λe=>by have:q=D:=e;omega)];exact f27.get q hq⟩
    obtain⟨vy,cy,py⟩:=hSa t ht'
    obtain⟨vz,cz,sz⟩:=hLa c (by omega)
    obtain⟨s,hs⟩:=exI (S.getD t [])
    rw[hs] at py
    have hsS:s∈S:=by rw[←hs];exact bD (by omega)
    have Sp:=hG.fA (hSG s hsS)
    have cq:hb.cell q p=some (aB c):=by rw[H.aF gq,El hp',hc]
    simp(disch:=omega)only[go_sem,d5,shS.ixa,cy hb FBb,cq,shL.ixa,cz hb f2b]
    refine (Oo (rfl:T 50=some jA) vy n s _ (by omega) Sp ((py.fx FBb).si.mono ((Fr.refl hb).bF (by omega)))).mono ?_
    rintro v47 k1 np1
    have K1:Fr hb k1:=((Fr.refl hb).bF (by omega)).trans np1.fr
    have cq1:k1.cell q p=some (aB c):=by rw[K1.cell nq];exact cq
    have ez:=sz.eG
    simp(disch:=omega)only[go_sem,cq1,cz k1 (f2b.trans K1),ez]
    refine (yQ v47 vz (eX s) (L.getD c []) k1 (by rw[jF,Sp.len];omega) (np1.pv (W:=λ_=>False) id).si (sz.mono (f2b.trans K1)) (λj hj=>by rw[Cp.len];exact Sp.inv.fU (by rw[←Sp.inv.len];exact hj))).mono ?_
    rintro v55 k2 np2
    have K2:=K1.trans np2.fr
    have P2:=Sp.inv.mul Cp
    simp(disch:=omega)only[go_sem]
    refine (yQ v55 vy _ s k2 (by rw[P2.len];omega) (np2.pv (W:=λ_=>False) id).si ((py.fx FBb).si.mono K2) (λj hj=>by rw[Sp.len];exact P2.fU (by rw[←P2.len];exact hj))).mono ?_
    rintro v57 k3 np3
    have K3:=K2.trans np3.fr
    have P3:=P2.mul Sp
    have cq3:k3.cell q p=some (aB c):=by rw[K3.cell nq];exact cq
    have s57:=(np3.pv (W:=λ_=>False) id).si
    have o57:=s57.dS.2.1
    have gB3: ∃vK,k3.get (X+8)=some (.cells false [vL,.mp (X+3),vK,.sl (X+6) 0 L.length (.kn L.length)]):=by
     obtain⟨vK,_,_,gB,_⟩:=J.ex;exact⟨vK,by rw[K3.get _ (by omega),Fb.get _ (by omega) (λe=>by have:X+8=D:=e;omega)];exact gB⟩
    obtain⟨vK,gB3⟩:=gB3
    have cB3:k3.cell (X+8) 1=some (.mp (X+3)):=by rw[H.aF gB3];rfl
    obtain⟨j,hj,ej⟩: ∃j,j<L.length/\L.getD j []=oI (L.getD c []) s:=by
     have hm2:oI (L.getD c []) s∈L:=(E.mem _).2 (hG.mul (hG.mul (hG.inv (hSG s hsS)) (zD E hcm)) (hSG s hsS));obtain⟨j,hj,ej⟩:=Gk.1 hm2;exact⟨j,hj,by rw[List.getD,fX hj,←ej];rfl⟩
    have e57:bE (bE (eX s) (L.getD c [])) s=L.getD j []:=ej.symm
    rw[e57] at s57
    simp(disch:=omega)only[go_sem,cq3,cz k3 (f2b.trans K3),cB3,ez]
    refine (Qj v57 (L.getD j []) _ (lt64 j (by omega)).1 (lt64 j (by omega)).2 (s57.mono ((Fr.refl k3).bF (by omega)))).mono ?_
    rintro _ k4 ⟨rfl,f4'⟩
    have K34:Fr k3 k4:=((Fr.refl k3).bF (by omega)).trans f4'
    have K4:=K3.trans K34
    have n3k:=K3.next
    have gM4k:k4.get (X+3)=some (.wmap .str (Re L L.length)):=by
     rw[K4.get _ (by omega),Fb.get _ (by omega) (λe=>by have:X+3=D:=e;omega),J.old.get _ (by omega) (by omega),f5.get _ (by omega),hm];exact gM4
    have cB4:k4.cell (X+8) 1=some (.mp (X+3)):=by rw[K34.cell (by omega)];exact cB3
    have lk:=λz=>Tv E.nodup hj (hK j (by omega)) z
    have cDj:k4.cell D j=some (.bool (Dx G L i Q j)):=by rw[K4.cell (by omega)];exact iW gD hj
    have hij:cR G L i j:=oT hG E (by omega) hcc ⟨s,hSG s hsS,ej.symm⟩
    have etk:S.take (t+1)=S.take t++ [s]:=by rw[dL [] (by omega),hs]
    have gq4:k4.get q=some (.cells false (ints (zi Q))):=by rw[K4.get _ nq];exact gq
    have gD4:k4.get D=some (.cells false (rc L.length λj=> .bool (Dx G L i Q j))):=by rw[K4.get _ (by omega)];exact gD
    have F4k:Fx (· =D) h7 k4:=⟨by have:=K4.next;omega,λq h1 h2=>by rw[K4.get q (by omega)];exact Fb.get q h1 h2⟩
    cases hsn2:Dx G L i Q j with
    |true=>
     rw[hsn2] at cDj
     have hjQ:j∈Q:=by
      rcases oA.1 hsn2 with ⟨i0,h1,h2'⟩|h1
      ·exact absurd (oT hG E (by omega) h2' (Db hG E (by omega) hij)) (hr i0 h1)
      ·exact h1
     simp(disch:=omega)only[go_sem,cB4,gM4k,lk,cDj];rw[fJ t];refine⟨by simp [eG],sl-(t+1),by omega,Q,q,cp,t+1,aA rfl,hp',by omega,BQ0,hc,?_,hcp,gq4,hq,by have:=K4.next;omega,gD4,F4k,rfl⟩;rw[etk];intro s' hs';rcases Bw.1 hs' with h1|h1
     ·exact hcl s' h1
     ·obtain rfl:s'=s:=by simpa using h1
      exact⟨j,hjQ,ej⟩
    |false=>
     rw[hsn2] at cDj;have hjQ:j∉Q:=λh1=>by rw[oA.2 (.inr h1)] at hsn2;cases hsn2
     obtain⟨k5,e5,m5,g5,o5⟩:=xX k4 D ((rc L.length λj=> .bool (Dx G L i Q j)).set j (.bool true));obtain⟨Y,hY⟩:=exI k5.next;obtain⟨k6,e6',m6,g6',o6',f6'⟩:=fR hY [aB j];have pt:=bW (vs:=rc L.length λj=> .bool (Dx G L i Q j)) (off:=j) (by rw[eU];exact hj);have nk:=K4.next;have gq6:k6.get q=some (.cells false (ints (zi Q))):=by rw[o6' _ (by omega),o5 _ (by omega)];exact gq4
     have ow6:dG k6 (.sl q 0 Q.length cp) 1 (ints (zi Q)) 0:= .inr ⟨q,Q.length,cp, [],rfl,by rw[aM,aQ];simp,by rcases hcp with h1|h1;exact .inl h1;exact .inr ⟨h1,rfl⟩,iP _,by omega,by rw[List.append_nil];exact gq6⟩;obtain⟨k7,a7,p7⟩:=ow6.push (bytes:=8) (SV.one (v:= aB j) (id:=Y) (by omega) g6' (.kn 1)) (n:=Q.length) (m:=1) (by rw[aM,aQ];simp) rfl (by omega) (by omega) (by omega);simp(disch:=omega)only[go_sem,cB4,gM4k,lk,cDj,gD4,pt,e5,dB k5 (z:= aB 0) (v:= aB j) rfl rfl,hY,e6',a7];rw[fJ t];have el:ints (zi (Q++ [j]))=ints (zi Q)++ [aB j]:=by simp [zi,ints]
     have m7:=p7.next;have apD:eC (.sl q 0 Q.length cp) D:=λid off n c e e2=>by cases e;omega
     have hc0:(rc L.length λj'=>V.bool (Dx G L i Q j')).set j (.bool true)=rc L.length λj'=> .bool (Dx G L i (Q++ [j]) j'):=by
      rw[iY]
      exact bL λj' _=>by
       rw[Rl]
       by_cases e:j'=j
       ·rw[if_pos e,if_pos e]
       ·rw[if_neg e,if_neg e]
     refine⟨by simp [eG],sl-(t+1),by omega,Q++ [j],k6.next,.un 1,t+1,by rw[pW];exact aA rfl,by rw[pW];omega,by omega,⟨?_,by rw[pW];simp,?_,?_,?_⟩,?_,?_,.inl rfl,by rw[el];exact p7.get,by omega,by omega,?_,?_,rfl⟩
     ·rw[List.nodup_append]
      exact⟨BQ0.nd,by simp,λx hx y hy e=>by
       obtain rfl:y=j:=by simpa using hy
       exact hjQ (e▸hx)⟩
     ·rw[List.getD,Et BQ0.ne];exact BQ0.hd
     ·intro x hx
      rcases Bw.1 hx with h1|h1
      ·exact BQ0.mem x h1
      ·obtain rfl:x=j:=by simpa using h1
       exact⟨hj,hij⟩
     ·intro k hk s' hs'
      obtain⟨y,hy,ey⟩:=BQ0.cl k hk s' hs';refine⟨y,Bw.2 (.inl hy),?_⟩;rw[ey,List.getD,List.getD,List.getD,List.getD,Et (by omega)]
     ·rw[List.getD,Et hp'];exact hc
     ·rw[etk]
      intro s' hs';rcases Bw.1 hs' with h1|h1
      ·obtain⟨y,hy,ey⟩:=hcl s' h1
       exact⟨y,Bw.2 (.inl hy),ey⟩
      ·obtain rfl:s'=s:=by simpa using h1
       exact⟨j,Bw.2 (.inr (by simp)),ej⟩
     ·rw[p7.old D (by omega) apD,o6' D (by omega),g5,hc0]
     ·refine⟨by omega,λx h1 h2=>?_⟩
      rw[p7.old x (by omega) (λid off n c e e2=>by cases e;omega),o6' x (by omega),o5 x h2];exact F4k.get x h1 h2
   clear BQ0 hcp gq hq nq gD Fa hc hpl d5 hp hp' hQl
   clear Q q cp
   rintro vars hb ⟨Q,q,cp,⟨g3,rfl⟩,hp',BQ1,hcp,gq,hq,nq,gD,Fb⟩
   have hQl:=BQ1.len
   simp(disch:=omega)only[go_sem]
   rw[fJ p]
   exact⟨m-(p+1),by omega,Q,q,cp,p+1,aA rfl,by omega,BQ1,hcp,gq,hq,nq,gD,Fb,rfl⟩
  clear F79 B0 e8 n8 g8 o8 hZ e9 n9 g9 o9 f9 pt hc0
  rintro vars hb ⟨Q,q,cp,⟨g3,rfl⟩,BQ1,hcp,gq,hq,nq,gD,Fb⟩
  have hQl:=BQ1.len
  have nb:=Fb.next
  have srt:=Qp hb q (zi Q) cp (by rw[aQ];omega) gq nq
  rw[aQ] at srt
  simp(disch:=omega)only[go_sem]
  refine srt.mono ?_
  rintro _ ka ⟨l',gl,pl,al,Fa⟩
  obtain rfl:=BQ1.sort hG E (gV _) (by omega) hSG hSgen pl al
  have hQo:Q.length=(kF G L i).length:=by have:=pl.length_eq;rw[aQ,aQ] at this;exact this.symm
  have na:=Fa.next
  have f2a:Fr h2 ka:=⟨by omega,λx hx=>by rw[Fa.get x (by omega) (λe=>by have:x=q:=e;omega),Fb.get x (by omega) (λe=>by have:x=D:=e;omega)];exact f27.get x hx⟩
  have X1:=kL hG E (show i<L.length by omega)
  simp(disch:=omega)only[go_sem]
  refine (HJ vx n (L.getD i []) ka n0 n7 X1 (sx.mono f2a)).mono ?_
  rintro _ kb ⟨rfl,fb⟩
  have nkb:=fb.next
  obtain⟨vK,ks,WK,gB,owK,aK,bK,wD,wB,wN,wn,wX,_⟩:=J.ex
  have hks:=aZ.length aK
  have gBb:kb.get (X+8)=some (.cells false [vL,.mp (X+3),vK,.sl (X+6) 0 L.length (.kn L.length)]):=by
   rw[fb.get _ (by omega),Fa.get _ (by omega) (λe=>by have:X+8=q:=e;omega),Fb.get _ (by omega) (λe=>by have:X+8=D:=e;omega)];exact gB
  have cB2:kb.cell (X+8) 2=some vK:=by rw[H.aF gBb];rfl
  have owx:=sx.dS.2.1
  have eKo:=owK.sv.eG
  obtain⟨Y,hY⟩:=exI kb.next
  obtain⟨kc,ec,mc,gc',oc,fc⟩:=fR hY [vx,aB (fM (L.getD i []) n:Nat),aB (Q.length:Int),.sl q 0 Q.length cp]
  have old7: ∀x,x<Z->x≠D->kc.get x=h7.get x:=λx h1 h2=>by
   rw[oc x (by omega),fb.get x (by omega),Fa.get x (by omega) (λe=>by have:x=q:=e;omega),Fb.get x (by omega) h2]
  have owKc:dG kc vK 4 (Cls.oN ks) (D+1):=owK.mono (by omega) λid off n' c e h1 h2=>old7 id (by omega) (by omega)
  have lr:=qF (G:=G) (L:=L) i
  obtain⟨kd,ad,pd⟩:=owKc.push (bytes:=64) (y:= .sl Y 0 1 (.kn 1)) (us:= [vx,aB (fM (L.getD i []) n:Nat),aB (Q.length:Int),.sl q 0 Q.length cp]) (SV.all rfl (by omega) gc' _) (n:=ks.length) (m:=1) (Ng ks) rfl (by omega) (by omega) (by omega)
  have md:=pd.next
  have apB:eC vK (X+8):=λid off n' c e e2=>by have:=(owK.in _ _ _ _ e).2.1;omega
  have gBd:kd.get (X+8)=some (.cells false [vL,.mp (X+3),vK,.sl (X+6) 0 L.length (.kn L.length)]):=by
   rw[pd.old _ (by omega) apB,oc _ (by omega)];exact gBb
  obtain⟨ke,ee,me,ge,oe⟩:=xX kd (X+8) [vL,.mp (X+3),.sl kc.next 0 (ks.length+1) (.un 4),.sl (X+6) 0 L.length (.kn L.length)]
  simp(disch:=omega)only[go_sem,cB2,zO sx.dS.1 owx,EX owx (w:= .sl q 0 Q.length cp) rfl rfl,DP owx (w:= .sl q 0 Q.length cp) rfl,hY,ec,ad,gBd,GA,ee]
  rw[fJ i]
  have dPV: ∀x,x<Z-> ¬WK x->ke.get x=h7.get x:=λx h1 h2=>by
   rw[oe x (λe=>h2 (e▸wB)),pd.old x (by omega) (λid off n' c e e2=>h2 (e2▸bK _ _ _ _ e)),old7 x h1 (λe=>h2 (e▸wD))]
  have FK:Fx WK h7 ke:=⟨by omega,λx h1 h2=>dPV x (by omega) h2⟩
  have f2e:Fr h2 ke:=⟨by omega,λx hx=>by rw[dPV x (by omega) (λh1=>by have:=wX x h1;omega)];exact f27.get x hx⟩
  have e1k:Cls.oN (ks++ [⟨vx,fM (L.getD i []) n,Q.length,.sl q 0 Q.length cp,i,⟨sx.dS.1,owx,sx.eG⟩,⟨rfl,rfl,by simp [eG]⟩⟩])=Cls.oN ks++ [vx,aB (fM (L.getD i []) n:Nat),aB (Q.length:Int),.sl q 0 Q.length cp]:=by
   simp [Cls.oN,Cls.KE.enc]
  refine⟨m-(i+1),by omega,i+1,aA rfl,by omega,⟨⟨_,ks++ [⟨vx,fM (L.getD i []) n,Q.length,.sl q 0 Q.length cp,i,⟨sx.dS.1,owx,sx.eG⟩,⟨rfl,rfl,by simp [eG]⟩⟩],λx=>WK x∨x=kc.next,ge,?_,?_,λid off n' c e=>by cases e;exact .inr rfl,   .inl wD,.inl wB,.inl wN,λx h=>by rcases h with h|h;have:=wn x h;omega;omega,λx h=>by rcases h with h|h;exact wX x h;omega,.inr ⟨_,_,by rw[pW];rfl,?_⟩⟩,?_,?_,by omega⟩,rfl⟩
  ·rw[e1k]
   exact (pd.own (b:=D+1) (Ng ks) rfl (by omega)).mono (by omega) λid off n' c e h1 h2=>by cases e;exact oe _ (by omega)
  ·rw[(oC i).1 hr]
   refine aZ.append (aK.mono λa r k=>k.go FK (by omega) wX λx h1 h2=>by rcases h2 with h2|h2;exact h2;omega) ⟨⟨rfl,rfl,hQo,⟨sx.mono f2e,?_⟩,⟨?_,?_⟩⟩,trivial⟩
   ·rw[←hX];exact WV sx
   ·rw[hQo]
    refine SV.all (ro:=false) (by rw[aM,aQ,Nat.mul_one]) (by omega) ?_ _
    rw[oe q (by omega),pd.old q (by omega) (λid off n' c e e2=>by have:=wn _ (bK _ _ _ _ e);omega),oc q (by omega),fb.get q (by omega)]
    exact gl
   ·exact λh=>by rcases h with h|h;have:=wn _ h;omega;omega
  ·rw[e1k,oe _ (by omega)];exact pd.get
  ·rw[oe D (by omega),pd.old D (by omega) (λid off n' c e e2=>by have:=(owK.in _ _ _ _ e).2.1;omega),oc D (by omega),fb.get D (by omega),Fa.get D (by omega) (λe=>by have:D=q:=e;omega),gD,bL λj hj=>by rw[NJ hG E (show i<L.length by omega) BQ1 hSG hSgen hj]]
  ·refine⟨by have:=J.old.next;omega,λx h1 h2=>?_⟩
   have hx8:x≠X+8:=λe=>h2 (.inl e)
   have hxD:x<D:=by omega
   rw[oe x hx8,pd.old x (by omega) (λid off n' c e e2=>by have:=(owK.in _ _ _ _ e).2.1;omega),old7 x (by omega) (by omega)]
   exact J.old.get x h1 h2
 rintro vars h7 ⟨⟨g,rfl⟩,J⟩
 exact hk L X D vL h2 h5 h7 A g hL ⟨E,by omega,f1.trans f2,hX,nw.sp,f25,by omega,hD,by rw[f5.get _ (by omega),hm];exact gM4,by rw[f5.get _ (by omega),hm];exact gN4,by rw[hm];exact J⟩
end
open Classical in
noncomputable def oU (G:List Nat->Prop)(L:LN)(K:List Nat)(j:Nat):Nat:=K.findIdx λr=>decide (cR G L r j)
structure KR (n:Nat)(G:List Nat->Prop)(L:LN)(hh:H)(a:Cls.KE)(r:Nat):Prop where
 fst:a.fst=r
 ord:a.ord=fM (L.getD r []) n
 size:a.size=(kF G L r).length
 rep:SI hh a.rep (zi (L.getD r []))
 ranks:SI hh a.ranks (zi (kF G L r))
theorem KR.mono {n:Nat}{G:List Nat->Prop}{L:LN}{h h':H}{a:Cls.KE}{r:Nat}(k:KR n G L h a r)(f:Fr h h'):KR n G L h' a r:=⟨k.fst,k.ord,k.size,k.rep.mono f,k.ranks.mono f⟩
def Qb (n:Nat)(G:List Nat->Prop)(L:LN)(r s:Nat):Prop:=fM (L.getD r []) n<fM (L.getD s []) n∨fM (L.getD r []) n=fM (L.getD s []) n/\((kF G L r).length<(kF G L s).length∨(kF G L r).length=(kF G L s).length/\r<s)
structure Ck (n:Nat)(G:List Nat->Prop)(L:LN)(K:List Nat):Prop where
 perm:K.Perm (cE G L L.length)
 asc:K.Pairwise (Qb n G L)
structure HA (n:Nat)(G:List Nat->Prop)(L:LN)(K:List Nat)(hh:H)(v:V):Prop where
 ex: ∃B M N S cp vL ks,v= .ptr B 0/\B<hh.next/\M<hh.next/\N<hh.next/\S<hh.next/\hh.get B=some (.cells false [vL,.mp M,.sl S 0 K.length cp,.sl N 0 L.length (.kn L.length)])/\
  hh.get M=some (.wmap .str (Re L L.length))/\hh.get N=some (.cells false (rc L.length λj=> aB (oU G L K j:Nat)))/\hh.get S=some (.cells false (Cls.oN ks))/\aZ (KR n G L hh) ks K/\SP hh vL L
theorem HA.mono {n:Nat}{G:List Nat->Prop}{L:LN}{K:List Nat}{h h':H}{v:V}(g:HA n G L K h v)(f:Fr h h'):HA n G L K h' v:=by
 obtain⟨B,M,N,S,cp,vL,ks,e,hB,hM,hN,hS,gB,gM,gN,gS,a,sp⟩:=g.ex;have n1:=f.next;exact⟨B,M,N,S,cp,vL,ks,e,by omega,by omega,by omega,by omega,by rw[f.get _ hB];exact gB,by rw[f.get _ hM];exact gM,by rw[f.get _ hN];exact gN,by rw[f.get _ hS];exact gS,a.mono λ_ _ k=>k.mono f,sp.mono f⟩
section
variable {n:Nat} {G:List Nat->Prop} {L:LN} {K:List Nat} (hG:tP n G) (E:iR G L)
include hG E
omit hG E in
theorem Hp (h0:0<L.length):0∈cE G L L.length:=lB.2 ⟨h0,λj hj=>by omega⟩
theorem vW (pK:K.Perm (cE G L L.length)){k:Nat}(hk:k<K.length){j:Nat}(hj:j∈kF G L (K.getD k 0)):oU G L K j=k:=by
 classical
 obtain⟨hjl,hc⟩:=kX.1 hj;have hnd:K.Nodup:=pK.nodup_iff.2 (by unfold cE;exact List.Pairwise.filter _ List.nodup_range);have hK: ∀r∈K,r<L.length/\Lf G L r:=λr hr=>lB.1 (pK.mem_iff.1 hr)
 unfold oU;rw[List.findIdx_eq hk];have ek:K.getD k 0=K[k]:=Pm.bJ hk;rw[ek] at hc;refine⟨by simpa using hc,λi hi=>?_⟩;simp only[decide_eq_false_iff_not];intro hc2;have h1:=hK K[i] (List.getElem_mem _);have h2:=hK K[k] (List.getElem_mem _);have:=PN hG E h1.1 h2.1 h1.2 h2.2 hc2 hc;have hne:=List.pairwise_iff_getElem.1 hnd i k (by omega) hk hi;exact hne this
theorem zT (pK:K.Perm (cE G L L.length)){j:Nat}(hj:j<L.length): ∃k,k<K.length/\j∈kF G L (K.getD k 0):=by
 obtain⟨r,h1,h2,h3⟩:=YX hG E hj;have hr:r∈K:=pK.mem_iff.2 (lB.2 ⟨by omega,h2⟩);obtain⟨k,hk,ek⟩:=Gk.1 hr;exact⟨k,hk,kX.2 ⟨hj,by rw[Pm.bJ hk,ek];exact h3⟩⟩
end
open Classical in
noncomputable def Lh (G:List Nat->Prop)(L:LN)(K:List Nat)(k t j:Nat):Nat:=if (∃k0,k0<k/\j∈kF G L (K.getD k0 0))∨j∈(kF G L (K.getD k 0)).take t then oU G L K j else 0
theorem MP (G:List Nat->Prop)(L:LN)(K:List Nat)(j:Nat):Lh G L K 0 0 j=0:=by
 classical
 unfold Lh;rw[if_neg];rintro (⟨k0,h,_⟩|h)
 ·omega
 ·simp at h
theorem KB (G:List Nat->Prop)(L:LN)(K:List Nat)(k j:Nat):Lh G L K k (kF G L (K.getD k 0)).length j=Lh G L K (k+1) 0 j:=by
 classical
 unfold Lh;rw[List.take_length,List.take_zero]
 have e:((∃k0,k0<k/\j∈kF G L (K.getD k0 0))∨j∈kF G L (K.getD k 0))↔((∃k0,k0<k+1/\j∈kF G L (K.getD k0 0))∨j∈([]:List Nat)):=by
  constructor
  ·rintro (⟨k0,h1,h2⟩|h)
   ·exact .inl ⟨k0,by omega,h2⟩
   ·exact .inl ⟨k,by omega,h⟩
  ·rintro (⟨k0,h1,h2⟩|h)
   ·by_cases e:k0=k
    ·subst e;exact .inr h2
    ·exact .inl ⟨k0,by omega,h2⟩
   ·cases h
 by_cases h:((∃k0,k0<k/\j∈kF G L (K.getD k0 0))∨j∈kF G L (K.getD k 0))
 ·rw[if_pos h,if_pos (e.1 h)]
 ·rw[if_neg h,if_neg (λx=>h (e.2 x))]
theorem HB {n:Nat}{G:List Nat->Prop}{L:LN}{K:List Nat}(hG:tP n G)(E:iR G L)(pK:K.Perm (cE G L L.length)){k:Nat}(hk:k<K.length){t:Nat}(ht:t<(kF G L (K.getD k 0)).length)(j:Nat):
  Lh G L K k (t+1) j=if j=(kF G L (K.getD k 0)).getD t 0 then k else Lh G L K k t j:=by
 classical
 by_cases e:j=(kF G L (K.getD k 0)).getD t 0
 ·rw[if_pos e]
  have hj:j∈kF G L (K.getD k 0):=by rw[e];exact bD ht
  unfold Lh
  rw[if_pos (.inr (by rw[dL 0 ht,e];simp))]
  exact vW hG E pK hk hj
 ·rw[if_neg e]
  unfold Lh
  rw[dL 0 ht]
  simp only[Bw,List.mem_singleton,e,or_false]
theorem JP {n:Nat}{G:List Nat->Prop}{L:LN}{K:List Nat}(hG:tP n G)(E:iR G L)(pK:K.Perm (cE G L L.length)){j:Nat}(hj:j<L.length):Lh G L K K.length 0 j=oU G L K j:=by
 classical
 obtain⟨k,h1,h2⟩:=zT hG E pK hj;unfold Lh;rw[if_pos (.inl ⟨k,h1,h2⟩)]
theorem sE {h:H}{S:Nat}{ro:Bool}: ∀{ks:List Cls.KE} {pre:List V},h.get S=some (.cells ro (pre++Cls.oN ks))-> ∀{i:Nat} (hi:i<ks.length),h.row S (pre.length+i*4) 4=some ks[i].enc
 | [],_,_,_,hi=>by simp at hi
 |a::r,pre,g,0,_=>by
  unfold H.row;rw[g];show sub (pre++(a.enc++Cls.oN r)) (pre.length+0*4) 4=some a.enc;simp only[sub,Nat.zero_mul,Nat.add_zero];have:a.enc.length=4:=rfl;rw[if_pos (by rw[pW,pW];omega),List.drop_left,List.take_append,List.take_of_length_le (by omega),this];simp
 |a::r,pre,g,i+1,hi=>by
  have g':h.get S=some (.cells ro ((pre++a.enc)++Cls.oN r)):=by rw[g,List.append_assoc];rfl
  have:=sE g' (i:=i) (by simpa using hi);rw[pW,show a.enc.length=4 from rfl] at this;rw[show pre.length+(i+1)*4=pre.length+4+i*4 by omega];simpa using this
theorem Ky (h:H)(id off:Nat)(a:Cls.KE):Yu h 4 (.ptr id off) (.agg a.enc)=fG (h.get id) h id off a.enc:=Ho h id off 4 _ rfl (by simp [Cls.KE.enc,a.hrep.2.1,a.hranks.2.1,show (aB (a.ord:Int)).one=true from rfl,show (aB (a.size:Int)).one=true from rfl])
theorem Kl (hh:H)(id:Nat)(a:Cls.KE)(x y z w:V):fG (some (.cells false [x,y,z,w])) hh id 0 a.enc=some (hh.set id (some (.cells false a.enc))):=by
 simp [fG,putAt,Cls.KE.enc]
theorem aZ.ex {α β:Type}{R:α->β->Prop}{as:List α}{bs:List β}(h:aZ R as bs){a:α}(ha:a∈as): ∃b∈bs,R a b:=by
 obtain⟨i,hi,rfl⟩:=Gk.1 ha;have hl:=aZ.length h;exact⟨bs[i]'(by omega),List.getElem_mem _,aZ.get h i hi (by omega)⟩
theorem SI.lit {h:H}{v:V}{l:List Int}(s:SI h v l)(hl:0<l.length): ∃id off m cap,v= .sl id off (m+1) cap/\m+1=l.length/\id<h.next/\ ∀i,i<l.length->h.cell id (off+i)=some (aB (l.getD i 0)):=by
 obtain⟨id,off,sh,hid,hc⟩:=s.open;rcases s with ⟨_,h0⟩|⟨id',off',len,cap,ro,vs,e,h2,h3,_⟩
 ·have:l.length=0:=by rw[←aM,h0];rfl
  omega
 ·rw[aM,Nat.mul_one] at h2
  have hx:=sh.ixa .i64 0 (by omega) (by omega);subst e;rw[zQ (by omega) (by omega)] at hx;simp only[Option.some.injEq,V.ptr.injEq] at hx;obtain⟨rfl,h5⟩:=hx;have h6:off'=off:=by omega
  subst h6;exact⟨id',off',l.length- 1,cap,by rw[show l.length- 1+1=len by omega],by omega,h3,hc⟩
theorem AS {W0:Nat->Prop}(vc:V)(n:Nat)(O:LN)(R:oJ)(G:List Nat->Prop)(h:H)(gc:GC W0 h vc n O R G):
  Ev T 45 [vc] h (λv h'=> ∃p K,v= .tup [p,aB 0]/\HA n G (cK O R n 0 (cJ n)) K h' p/\Ck n G (cK O R n 0 (cJ n)) K/\Fr h h'):=by
 refine UI vc n O R G h gc _ λL X D vL h2 h5 h7 A g hL e=>?_
 rw[hL]
 have hG:=gc.mI
 have E:=e.el
 obtain⟨vK,ks,WK,gB,owK,aK,bK,wD,wB,wN,wn,wX,xK⟩:=e.j.ex
 have hks:=aZ.length aK
 obtain⟨m,hm⟩:=exI L.length
 have h0:0<L.length:=List.length_pos_of_mem ((E.mem _).2 hG.one)
 have hk0:0<ks.length:=by rw[hks];exact List.length_pos_of_mem (Hp h0)
 obtain⟨S,cp,rfl,gS⟩: ∃id cap,vK= .sl id 0 ks.length cap/\h7.get id=some (.cells false (Cls.oN ks)):=by
  rcases xK with h1|h1
  ·subst h1;simp at hk0
  ·exact h1
 have wS:=bK _ _ _ _ rfl
 have nS:=wn _ wS
 have cB2:h7.cell (X+8) 2=some (.sl S 0 ks.length cp):=by rw[H.aF gB];rfl
 show Wp T none (Pb 2 iH.body) _ h7 _
 simp(disch:=omega)only[go_sem,Pb,LW,iH,cB2]
 have hR: ∀r∈cE G L L.length,r<L.length/\Lf G L r:=λr hr=>lB.1 hr
 have hPp: ∀a∈ks,a.Pp h7 h7.next S:=λa ha=>by
  obtain⟨r,hr,k⟩:=aZ.ex aK ha;obtain⟨hrl,hri⟩:=hR r hr;obtain⟨l1,l2⟩:=Mc hG E hrl hri;obtain⟨id,off,m',cap,e1,e2,e3,e4⟩:=SI.lit k.ranks.si (by rw[aQ];exact l1);have ho:=k.ranks.off;rw[e1] at ho;refine⟨id,off,m',cap,e1,e3,λh1=>ho (h1▸wS),?_⟩;have:=e4 0 (by rw[aQ];exact l1);rw[Nat.add_zero] at this;rw[this,zi,kA _ (d:=0) l1,l2,k.fst]
 refine (Cls.NP h7 S h7.next ks cp (by rw[hks];have:=qF (G:=G) (L:=L) L.length;have:=e.le;omega) gS nS (gV _) hPp).mono ?_
 rintro _ h8 ⟨ks',gS8,pm,srt,F8⟩
 obtain⟨K,hK⟩:=exI (ks'.map (λa:Cls.KE=>a.fst))
 have hlK:K.length=ks.length:=by rw[←hK,lW];exact pm.length_eq
 have hkr:ks.map (λa:Cls.KE=>a.fst)=cE G L L.length:=by
  refine List.ext_getElem (by rw[lW];exact hks) λi h1 h2=>?_
  rw[List.getElem_map];exact (aZ.get aK i (by simpa using h1) h2).fst
 have pK:K.Perm (cE G L L.length):=by rw[←hK,←hkr];exact pm.map _
 have kK: ∀a∈ks',KO n G L X WK h7 a a.fst:=λa ha=>by
  obtain⟨r,hr,k⟩:=aZ.ex aK (pm.mem_iff.1 ha);rw[k.fst];exact k
 have FK:Fx WK h7 h8:=⟨F8.next,λq h1 h2=>F8.get q h1 λh3=>h2 (by have:q=S:=h3;rw[this];exact wS)⟩
 have kK8: ∀a∈ks',KO n G L X WK h8 a a.fst:=λa ha=>(kK a ha).go FK (by have:=wX S wS;omega) wX λ_ _ h1=>h1
 have hSD:=(owK.in _ _ _ _ rfl).2.1
 have xD:=e.xD
 have n8:=F8.next
 have gB8:h8.get (X+8)=some (.cells false [vL,.mp (X+3),.sl S 0 ks.length cp,.sl (X+6) 0 L.length (.kn L.length)]):=by
  rw[F8.get _ (wn _ wB) (λh1=>by have:X+8=S:=h1;omega)];exact gB
 have cB8:h8.cell (X+8) 2=some (.sl S 0 ks.length cp):=by rw[H.aF gB8];rfl
 have gN7:h7.get (X+6)=some (.cells false (rc L.length λ_=> aB 0)):=by
  rw[e.j.old.get _ (by rw[e.n5];omega) (by omega)];exact e.gN
 have gN8:h8.get (X+6)=some (.cells false (rc L.length λj=> aB (Lh G L K 0 0 j:Nat))):=by
  rw[F8.get _ (wn _ wN) (λh1=>by have:X+6=S:=h1;omega),gN7,show (λj=>aB (Lh G L K 0 0 j:Nat))=λ_=>aB 0 from funext λj=>by rw[MP];rfl]
 have hKk: ∀k,k<K.length-> ∃a,ks'[k]? =some a/\KO n G L X WK h8 a (K.getD k 0):=λk hk=>by
  have hk':k<ks'.length:=by rw[pm.length_eq,←hlK];exact hk
  refine⟨ks'[k],fX hk',?_⟩;have:=kK8 _ (List.getElem_mem hk');have e2:K.getD k 0=(ks'[k]).fst:=by rw[Pm.bJ hk];subst hK;rw[List.getElem_map]
  rw[e2];exact this
 have le:=e.le
 have hKle:K.length<=L.length:=by rw[hlK,hks];exact qF _
 have nN:=wn _ wN
 rw[←hlK] at cB8 gB8
 simp(disch:=omega)only[go_sem,cB8]
 refine bT (λvs hh=>(∃g:Nat->V,vs= [g 0,g 1,.nilp,aB 0,g 4,g 5,.ptr (X+8) 0,g 7,g 8,g 9,g 10,g 11,g 12,g 13,g 14,g 15,g 16,g 17,g 18,g 19,g 20,g 21,g 22,g 23,g 24,g 25,g 26,g 27,g 28,g 29,g 30,g 31,g 32,g 33,g 34,g 35,g 36,g 37,g 38,g 39,g 40,g 41,g 42,g 43,g 44,g 45])/\hh.get (X+6)=some (.cells false (rc L.length λj=> aB (Lh G L K K.length 0 j:Nat)))/\Fx (· =X+6) h8 hh) ?_ ?_
 ·refine aG (λk' vs hh=> ∃(k:Nat),(∃g:Nat->V,vs= [g 0,g 1,.nilp,aB 0,g 4,g 5,.ptr (X+8) 0,g 7,g 8,g 9,g 10,g 11,g 12,g 13,g 14,g 15,g 16,g 17,g 18,g 19,g 20,g 21,g 22,g 23,g 24,g 25,g 26,g 27,g 28,g 29,g 30,g 31,g 32,g 33,g 34,g 35,g 36,g 37,.sl S 0 K.length cp,aB (K.length:Int),aB k,g 41,g 42,g 43,g 44,g 45])/\k<=K.length/\hh.get (X+6)=some (.cells false (rc L.length λj=> aB (Lh G L K k 0 j:Nat)))/\Fx (· =X+6) h8 hh/\k'=K.length-k) K.length
   ⟨0,aA rfl,iP _,gN8,Fx.refl _ _,rfl⟩ ?_
  rintro k' vars h9 ⟨k,⟨g,rfl⟩,hk,gN9,F9,rfl⟩
  have n9:=F9.next
  by_cases hlt:(k:Int)<(K.length:Int)
  case neg=>
   have d4:=fF hlt;obtain rfl:k=K.length:=by omega
   simp(disch:=omega)only[go_sem,d4];exact⟨aA rfl,gN9,F9⟩
  have d4:=iK hlt
  have hk':k<K.length:=by omega
  obtain⟨a,ea,ko⟩:=hKk k hk'
  have hkl:k<ks'.length:=by rw[pm.length_eq,←hlK];exact hk'
  have ea':ks'[k]=a:=by rw[fX hkl] at ea;simpa using ea
  have gS9:h9.get S=some (.cells false (Cls.oN ks')):=by rw[F9.get _ (by omega) (λh1=>by have:S=X+6:=h1;omega)];exact gS8
  have rw9:h9.row S (k*4) 4=some a.enc:=by
   have:=sE (pre:= []) (by simpa using gS9) hkl;rw[ea'] at this;simpa using this
  obtain⟨Y,hY⟩:=exI h9.next
  obtain⟨ha,eha,na,ga,oa,fa⟩:=fR hY [.aC,aB 0,aB 0,.aC]
  obtain⟨hb,ehb,nb,gb,ob⟩:=xX ha Y a.enc
  have cb3:hb.cell Y 3=some a.ranks:=by rw[H.aF gb];rfl
  have lr:=ko.ranks.si.lens
  rw[aQ] at lr
  obtain⟨r,hr⟩:=exI (K.getD k 0)
  rw[hr] at ko lr
  simp(disch:=omega)only[go_sem,d4,rw9,hY,eha,Ky,ga,Kl,ehb,cb3,lr]
  have hrK:r∈cE G L L.length:=by rw[←hr];exact pK.mem_iff.1 (bD hk')
  obtain⟨hrl,hri⟩:=hR r hrK
  obtain⟨l1,l2⟩:=Mc hG E hrl hri
  obtain⟨idR,offR,mR,capR,e1,e2,e3,e4⟩:=SI.lit ko.ranks.si (by rw[aQ];exact l1)
  have ho:=ko.ranks.off
  rw[e1] at ho
  have hRN:idR≠X+6:=λh1=>ho (h1▸wN)
  obtain⟨c,hc⟩:=exI ((kF G L r).length)
  rw[aQ,hc] at e2 e4
  have hcl:c<=L.length:=by
   rw[←hc];have:=List.Nodup.length_le_of_subset (Bl (G:=G) (L:=L) r) (l₂:=List.range L.length) λj hj=>Ot.2 (kX.1 hj).1
   rwa [List.length_range] at this
  rw[hc,e1]
  have Fb:Fx (· =X+6) h8 hb:=⟨by omega,λq h1 h2=>by rw[ob q (by omega),oa q (by omega)];exact F9.get q h1 h2⟩
  have gNb:hb.get (X+6)=some (.cells false (rc L.length λj=> aB (Lh G L K k 0 j:Nat))):=by rw[ob _ (by omega),oa _ (by omega)];exact gN9
  have gBb: ∀hh,Fx (· =X+6) h8 hh->hh.cell (X+8) 3=some (.sl (X+6) 0 L.length (.kn L.length)):=λhh f=>by
   have:hh.get (X+8)=h8.get (X+8):=f.get _ (by have:=wn _ wB;omega) (by omega);rw[H.aF (this.trans gB8)];rfl
  refine uV (λvs hh=>(∃g:Nat->V,vs= [g 0,g 1,.nilp,aB 0,g 4,g 5,.ptr (X+8) 0,g 7,g 8,g 9,g 10,g 11,g 12,g 13,g 14,g 15,g 16,g 17,g 18,g 19,g 20,g 21,g 22,g 23,g 24,g 25,g 26,g 27,g 28,g 29,g 30,g 31,g 32,g 33,g 34,g 35,g 36,g 37,.sl S 0 K.length cp,aB (K.length:Int),aB k,g 41,g 42,g 43,g 44,g 45])/\hh.get (X+6)=some (.cells false (rc L.length λj=> aB (Lh G L K (k+1) 0 j:Nat)))/\Fx (· =X+6) h8 hh) ?_ ?_
  ·refine aG (λk' vs hh=> ∃(t:Nat),(∃g:Nat->V,vs= [g 0,g 1,.nilp,aB 0,g 4,g 5,.ptr (X+8) 0,g 7,g 8,g 9,g 10,g 11,g 12,g 13,g 14,g 15,g 16,g 17,g 18,aB k,g 20,g 21,g 22,g 23,g 24,g 25,g 26,g 27,g 28,g 29,g 30,g 31,g 32,g 33,g 34,g 35,g 36,g 37,.sl S 0 K.length cp,aB (K.length:Int),aB k,g 41,.sl idR offR (mR+1) capR,aB c,aB t,g 45])/\t<=c/\hh.get (X+6)=some (.cells false (rc L.length λj=> aB (Lh G L K k t j:Nat)))/\Fx (· =X+6) h8 hh/\k'=c-t) c
    ⟨0,aA rfl,iP _,gNb,Fb,rfl⟩ ?_
   clear gNb Fb gb ob cb3 nb ehb ga oa fa na eha rw9 gN9 F9 n9
   rintro k' vars hc' ⟨t,⟨g2,rfl⟩,ht,gNc,Fc,rfl⟩
   by_cases htl:(t:Int)<(c:Int)
   case neg=>
    have d5:decide ((t:Int)<(c:Int))=false:=decide_eq_false htl;obtain rfl:t=c:=by omega
    simp(disch:=omega)only[go_sem,d5];refine⟨aA rfl,?_,Fc⟩;rw[gNc,show (λj=>aB (Lh G L K k t j:Nat))=λj=>aB (Lh G L K (k+1) 0 j:Nat) from funext λj=>by rw[←KB,hr,hc]]
   have d5:decide ((t:Int)<(c:Int))=true:=decide_eq_true htl
   have ht':t<c:=by omega
   obtain⟨x,hx⟩:=exI ((kF G L r).getD t 0)
   have hxl:x<L.length:=by rw[←hx];exact (kX.1 (bD (by omega))).1
   have cR':hc'.cell idR (offR+t)=some (aB x):=by
    have e5:=e4 t ht';unfold H.cell at e5 ⊢;rw[Fc.get idR e3 hRN,e5,zi,kA _ (d:=0) (by omega),hx]
   have pt:=bW (vs:=rc L.length λj=> aB (Lh G L K k t j:Nat)) (off:=x) (by rw[eU];exact hxl)
   have tl:(t:Int).toNat=t:=rfl
   simp(disch:=omega)only[go_sem,d5,cR',gBb hc' Fc,gNc,pt]
   rw[fJ t]
   refine⟨c-(t+1),by omega,t+1,aA rfl,by omega,?_,⟨Fc.next,λq h1 h2=>by rw[H.aI _ h2];exact Fc.get q h1 h2⟩,rfl⟩
   rw[iY,bL λj hj=>?_]
   rw[HB hG E pK hk' (by rw[hr];omega),hr,hx]
   by_cases ej:j=x
   ·rw[if_pos ej,if_pos ej]
   ·rw[if_neg ej,if_neg ej]
  rintro vars hd ⟨⟨g2,rfl⟩,gNd,Fd⟩
  simp(disch:=omega)only[go_sem]
  rw[fJ k]
  exact⟨K.length-(k+1),by omega,k+1,aA rfl,by omega,gNd,Fd,rfl⟩
 rintro vars h9 ⟨⟨g,rfl⟩,gN9,F9⟩
 have n9:=F9.next
 simp(disch:=omega)only[go_sem]
 have n2:=e.x2
 have o9: ∀q,q<D->q≠X+8->q≠X+6->h9.get q=h5.get q:=λq h1 h2 h3=>by
  rw[F9.get q (by have:=e.j.nx;omega) h3,F8.get q (by have:=e.j.nx;omega) (λh4=>by have:q=S:=h4;omega),e.j.old.get q (by rw[e.n5];exact h1) (λh4=>by rcases h4 with h4|h4;exact h2 h4;omega)]
 have nx:=e.j.nx
 have f29:Fr h2 h9:=⟨by omega,λq hq=>by rw[o9 q (by omega) (by omega) (by omega)];exact e.f25.get q hq⟩
 have F89:Fx WK h8 h9:=⟨F9.next,λq h1 h2=>F9.get q h1 λh3=>h2 (by have:q=X+6:=h3;rw[this];exact wN)⟩
 have hnd:K.Nodup:=pK.nodup_iff.2 (by classical exact (by unfold cE;exact List.Pairwise.filter _ List.nodup_range))
 have hlk:ks'.length=K.length:=by rw[←hK,lW]
 refine⟨.ptr (X+8) 0,K,rfl,⟨X+8,X+3,X+6,S,cp,vL,ks',rfl,by omega,by omega,by omega,by omega,?_,?_,?_,?_,?_,e.sp.mono f29⟩,⟨pK,?_⟩,e.f2.trans f29⟩
 ·rw[F9.get _ (by omega) (by omega)];exact gB8
 ·rw[o9 _ (by omega) (by omega) (by omega)];exact e.gM
 ·rw[gN9,bL λj hj=>by rw[JP hG E pK hj]]
 ·rw[F9.get _ (by omega) (by omega)];exact gS8
 ·refine aZ.nM hlk λi h1 h2=>?_
  obtain⟨a,ea,ko⟩:=hKk i h2
  have ea':ks'[i]=a:=by rw[fX h1] at ea;simpa using ea
  have k9:=ko.go F89 (by omega) wX λ_ _ h1=>h1
  rw[Pm.bJ h2] at k9
  rw[ea']
  exact⟨k9.fst,k9.ord,k9.size,k9.rep.si,k9.ranks.si⟩
 ·have h1:ks'.Pairwise λa b=>a.fst≠b.fst:=by
   have:=hnd;rw[←hK] at this;exact List.pairwise_map.1 this
  rw[←hK,List.pairwise_map];refine List.Pairwise.imp_of_mem ?_ (List.Pairwise.and srt h1);rintro a b ha hb ⟨h2,h3⟩;have ka:=kK a ha;have kb:=kK b hb;have h4: ¬(b.lt a=true):=by rw[h2];simp
  rw[Cls.KE.lt_iff] at h4;unfold Qb;rw[←ka.ord,←kb.ord,←ka.size,←kb.size];omega
theorem Mk {n:Nat}{G:List Nat->Prop}{L:LN}{r s:Nat}(a:Qb n G L r s)(b:Qb n G L s r):False:=by
 unfold Qb at a b;omega
theorem Ck.uniq {n:Nat}{G:List Nat->Prop}{L:LN}{K K':List Nat}(a:Ck n G L K)(b:Ck n G L K'):K=K':=
 (a.perm.trans b.perm.symm).eq_of_pairwise (λ_ _ _ _ h1 h2=>(Mk h1 h2).elim) a.asc b.asc
noncomputable def sV (G:List Nat->Prop)(L:LN)(K:List Nat):List Nat:=(List.range L.length).map (oU G L K)
def eV (ks:List Cls.KE):List V:=ks.flatMap λa=> [a.rep,aB (a.ord:Int),aB (a.size:Int)]
theorem gX (ks:List Cls.KE):(eV ks).length=ks.length*3:=by
 induction ks with
 |nil=>rfl
 |cons a r ih=>
  show ([a.rep,aB (a.ord:Int),aB (a.size:Int)]++eV r).length=_;rw[pW,ih];show 3+r.length*3=(r.length+1)*3;omega
theorem VD {h:H}{Y:Nat}{ro:Bool}{a:Cls.KE}(g:h.get Y=some (.cells ro a.enc)):h.row Y 0 3=some [a.rep,aB (a.ord:Int),aB (a.size:Int)]:=by
 simp [H.row,g,sub,Cls.KE.enc]
theorem Nu {v:V}(ho:v.one=true)(x y:Int)(h:H):uY h 3 [.aC,aB 0,aB 0] 1 [(0,3,.agg [v,aB x,aB y])]=some (.sl h.next 0 1 (.kn 1),h.new (.cells false [v,aB x,aB y])):=by
 have e:dV [V.aC,aB 0,aB 0] 3= [V.aC,aB 0,aB 0]:=rfl;simp [uY,jY,putAt,e,ho,show ∀l,(V.agg l).cells=l from λ_=>rfl,show ∀z,(aB z).one=true from λ_=>rfl]
theorem OY {W0:Nat->Prop}(vc:V)(n:Nat)(O:LN)(R:oJ)(G:List Nat->Prop)(h:H)(gc:GC W0 h vc n O R G)(L:LN)(hL:cK O R n 0 (cJ n)=L):
  Ev T 20 [vc] h (λv h'=> ∃vl K ks,v= .tup [vl,aB 0]/\Ck n G L K/\SV h' vl 3 (eV ks)/\aZ (KR n G L h') ks K/\Fr h h'):=by
 obtain⟨vO,vR,e,sO,sR⟩:=gc.ch
 subst e
 refine bP sX rfl rfl ?_
 have oneO:vO.one=true:=Gy sO
 have oneR:vR.one=true:=Gm sR
 obtain⟨A,hA⟩:=exI h.next
 obtain⟨h1,e1,n1,g1,o1,f1⟩:=fR hA [aB n,vO,vR]
 have bx:=bM h (v:= aB n) (u:=vO) (w:=vR) rfl oneO oneR
 have rB:=aU g1
 simp(disch:=omega)only[go_sem,sX,aE,bx,hA,e1,rB]
 refine (AS _ n O R G h1 (gc.mono f1)).mono ?_
 rw[hL]
 rintro _ h2 ⟨p,K,rfl,go,ik,f2⟩
 obtain⟨B,M,N,S,cp,vL,ks,rfl,hB,hM,hN,hS,gB,gM,gN,gS,aK,sp⟩:=go.ex
 have c2:h2.cell B 2=some (.sl S 0 K.length cp):=by rw[H.aF gB];rfl
 have hlk:=aZ.length aK
 have hKle:K.length<=5040:=by
  have h1:=ik.perm.length_eq;have h2:=qF (G:=G) (L:=L) L.length;have h3:=kE gc;have h4:=(fE gc.mI gc.isc).2;rw[hL] at h4;omega
 simp(disch:=omega)only[go_sem]
 refine aY (λhc=>(hc rfl).elim) (λ_=>?_)
 simp(disch:=omega)only[go_sem,c2]
 refine bT (λvs hh=> ∃v6,(∃g:Nat->V,vs= [g 0,g 1,g 2,g 3,g 4,g 5,v6,g 7,g 8,g 9,g 10,g 11,g 12])/\SV hh v6 3 (eV ks)/\Fr h2 hh) ?_ ?_
 ·refine aG (λk' vs hh=> ∃(k:Nat) (v6:V),(∃g:Nat->V,vs= [g 0,g 1,g 2,g 3,.ptr B 0,g 5,v6,g 7,g 8,.sl S 0 K.length cp,aB (K.length:Int),aB k,g 12])/\k<=K.length/\dG hh v6 3 (eV (ks.take k)) h2.next/\Fr h2 hh/\k'=K.length-k) K.length
   ⟨0,.aC,aA rfl,iP _,dG.aC _ _ _,Fr.refl _,rfl⟩ ?_
  rintro k' vars h9 ⟨k,v6,⟨g,rfl⟩,hk,ow,F9,rfl⟩
  by_cases hlt:(k:Int)<(K.length:Int)
  case neg=>
   have d4:=fF hlt;obtain rfl:k=K.length:=by omega
   simp(disch:=omega)only[go_sem,d4];rw[List.take_of_length_le (by omega)] at ow;exact⟨v6,aA rfl,ow.sv,F9⟩
  have d4:=iK hlt
  have hk':k<K.length:=by omega
  have hkl:k<ks.length:=by omega
  obtain⟨a,ea⟩:=exI (ks[k])
  have gS9:h9.get S=bX (Cls.oN ks):=by rw[F9.get _ hS];exact gS
  have rw9:h9.row S (k*4) 4=some a.enc:=by
   have:=sE (pre:= []) (by simpa using gS9) hkl;rw[ea] at this;simpa using this
  obtain⟨Y,hY⟩:=exI h9.next
  obtain⟨ha,eha,na,ga,oa,fa⟩:=fR hY [.aC,aB 0,aB 0,.aC]
  obtain⟨hb,ehb,nb,gb,ob⟩:=xX ha Y a.enc
  obtain⟨Z,hZ⟩:=exI hb.next
  obtain⟨hc',ehc,nc,gc',oc,fc⟩:=fR hZ [a.rep,aB (a.ord:Int),aB (a.size:Int)]
  have F9c:Fr h9 hc':=⟨by omega,λq hq=>by rw[oc q (by omega),ob q (by omega),oa q (by omega)]⟩
  have owc:dG hc' v6 3 (eV (ks.take k)) h2.next:=ow.fr F9c
  obtain⟨hd,ad,pd⟩:=owc.push (bytes:=40) (y:= .sl Z 0 1 (.kn 1)) (us:= [a.rep,aB (a.ord:Int),aB (a.size:Int)]) (SV.all rfl (by omega) gc' _) (n:=k) (m:=1) (by rw[gX,Nn];omega) rfl (by omega) (by omega) (by omega)
  simp(disch:=omega)only[go_sem,d4,rw9,hY,eha,Ky,ga,Kl,ehb,VD gb,Nu a.hrep.2.1,hZ,ehc,ad]
  rw[fJ k]
  have el:eV (ks.take (k+1))=eV (ks.take k)++ [a.rep,aB (a.ord:Int),aB (a.size:Int)]:=by
   rw[List.take_succ_eq_append_getElem hkl,ea];simp [eV]
  have n9:=F9.next
  have nd:=pd.next
  have F9d:Fr h2 hd:=⟨by omega,λq hq=>by rw[pd.old q (by omega) (λid off n' c e e2=>by have:=(ow.in _ _ _ _ e).2.1;omega),F9c.get q (by omega)];exact F9.get q hq⟩
  exact⟨K.length-(k+1),by omega,k+1,_,aA rfl,by omega,by rw[el];exact pd.own (by rw[gX,Nn];omega) rfl (by omega),F9d,rfl⟩
 rintro vars h9 ⟨v6,⟨g,rfl⟩,sv,F9⟩
 simp(disch:=omega)only[go_sem]
 exact⟨v6,K,ks,rfl,ik,sv,aK.mono λ_ _ k=>k.mono F9,(f1.trans f2).trans F9⟩
set_option maxRecDepth 100000
set_option maxRecDepth 100000
theorem Cj {n:Nat}{a:List Nat}(A:bY n a)(hn:n<=7):fM a n∣420:=by
 unfold fM;rw[qU];intro c hc;obtain⟨l,hl,rfl⟩:=xU.1 hc;obtain⟨i,hi,rfl⟩:=xU.1 hl;have hin:i<n:=by unfold Hc at hi;exact Ot.1 (GQ.1 hi).1
 rw[lT];have h1:=(kV A hin).1;have h2:=Iv A hin;have: ∀k,k<8->0<k->k∣420:=by decide
 exact this _ (by omega) h1
noncomputable def DF (n:Nat)(L:LN)(K:List Nat):Nat:=jS (K.map λr=>fM (L.getD r []) n)
theorem KP (vc:V)(d:Int)(O:List (List Int))(R:List (List (List Int)))(h:H)(hc:Ei h vc d O R)(hd:d<=7∨64<d)(so:kN O)(sr:kS R)(hb:jC d O R≠0):
  Ev T 14 [vc] h (λv h'=>v= .tup [aB 0,aB (jC d O R)]/\Fr h h'):=by
 have hc0:=hc
 obtain⟨vO,vR,e,sO,sR⟩:=hc
 subst e
 refine bP iM rfl rfl ?_
 have oneO:vO.one=true:=Gy sO
 have oneR:vR.one=true:=Gm sR
 obtain⟨B,hB⟩:=exI h.next
 obtain⟨h1,e1,n1,g1,o1,f1⟩:=fR hB [aB d,vO,vR]
 have bx:=bM h (v:= aB d) (u:=vO) (w:=vR) rfl oneO oneR
 have rB:=aU g1
 simp(disch:=omega)only[go_sem,iM,aE,bx,hB,e1,rB]
 refine (Yk _ d O R h1 (hc0.mono f1) hd so sr hb).mono ?_
 rintro _ h2 ⟨rfl,f2⟩
 simp(disch:=omega)only[go_sem]
 refine aY (λ_=>?_) (λhc=>(hc hb).elim)
 simp(disch:=omega)only[go_sem]
 exact f1.trans f2
theorem Zz {W0:Nat->Prop}(vc:V)(n:Nat)(O:LN)(R:oJ)(G:List Nat->Prop)(h:H)(gc:GC W0 h vc n O R G)(L:LN)(hL:cK O R n 0 (cJ n)=L):
  Ev T 14 [vc] h (λv h'=> ∃K,Ck n G L K/\v= .tup [aB (DF n L K:Nat),aB 0]/\Fr h h'):=by
 obtain⟨vO,vR,e,sO,sR⟩:=gc.ch
 subst e
 refine bP iM rfl rfl ?_
 have oneO:vO.one=true:=Gy sO
 have oneR:vR.one=true:=Gm sR
 obtain⟨A,hA⟩:=exI h.next
 obtain⟨h1,e1,n1,g1,o1,f1⟩:=fR hA [aB n,vO,vR]
 have bx:=bM h (v:= aB n) (u:=vO) (w:=vR) rfl oneO oneR
 have rB:=aU g1
 simp(disch:=omega)only[go_sem,iM,aE,bx,hA,e1,rB]
 refine (AS _ n O R G h1 (gc.mono f1)).mono ?_
 rw[hL]
 rintro _ h2 ⟨p,K,rfl,go,ik,f2⟩
 obtain⟨B,M,N,S,cp,vL,ks,rfl,hB,hM,hN,hS,gB,gM,gN,gS,aK,sp⟩:=go.ex
 have c2:h2.cell B 2=some (.sl S 0 K.length cp):=by rw[H.aF gB];rfl
 have hlk:=aZ.length aK
 have E:=(fE gc.mI gc.isc).1
 have h4l:=(fE gc.mI gc.isc).2
 have h5l:=kE gc
 rw[hL] at E h4l
 have hKle:K.length<=5040:=by
  have h1:=ik.perm.length_eq;have h2:=qF (G:=G) (L:=L) L.length;omega
 obtain⟨W,hW⟩:=exI ((K.map λr=>fM (L.getD r []) n))
 have hWl:W.length=K.length:=by rw[←hW,lW]
 have hWd: ∀c∈W,c∣420:=λc hc=>by
  rw[←hW] at hc;obtain⟨r,hr,rfl⟩:=xU.1 hc;exact Cj (kL gc.mI E (lB.1 (ik.perm.mem_iff.1 hr)).1) gc.n7
 have hpre: ∀k,jS (W.take k)<=420/\0<jS (W.take k):=λk=>by
  have h1:jS (W.take k)∣420:=(qU _ _).2 λc hc=>hWd c (List.mem_of_mem_take hc)
  exact⟨Nat.le_of_dvd (by omega) h1,Nat.pos_of_dvd_of_pos h1 (by omega)⟩
 simp(disch:=omega)only[go_sem]
 refine aY (λhc=>(hc rfl).elim) (λ_=>?_)
 simp(disch:=omega)only[go_sem,c2]
 refine bT (λvs hh=>(∃g:Nat->V,vs= [g 0,g 1,g 2,g 3,g 4,g 5,aB (jS W:Nat),g 7,g 8,g 9,g 10,g 11,g 12,g 13,g 14,g 15])/\Fr h2 hh) ?_ ?_
 ·refine aG (λk' vs hh=> ∃(k:Nat),(∃g:Nat->V,vs= [g 0,g 1,g 2,g 3,g 4,g 5,aB (jS (W.take k):Nat),g 7,g 8,g 9,g 10,.sl S 0 K.length cp,aB (K.length:Int),aB k,g 14,g 15])/\k<=K.length/\Fr h2 hh/\k'=K.length-k) K.length
   ⟨0,aA rfl,iP _,Fr.refl _,rfl⟩ ?_
  rintro k' vars h9 ⟨k,⟨g,rfl⟩,hk,F9,rfl⟩
  by_cases hlt:(k:Int)<(K.length:Int)
  case neg=>
   have d4:=fF hlt;obtain rfl:k=K.length:=by omega
   simp(disch:=omega)only[go_sem,d4];rw[List.take_of_length_le (by omega)];exact⟨aA rfl,F9⟩
  have d4:=iK hlt
  have hk':k<K.length:=by omega
  have hkl:k<ks.length:=by omega
  obtain⟨a,ea⟩:=exI (ks[k])
  have ka:=aZ.get aK k hkl hk'
  rw[ea] at ka
  have hao:a.ord=W.getD k 0:=by rw[ka.ord,←hW,kA _ (d:=0) hk',Pm.bJ hk']
  have gS9:h9.get S=bX (Cls.oN ks):=by rw[F9.get _ hS];exact gS
  have rw9:h9.row S (k*4) 4=some a.enc:=by
   have:=sE (pre:= []) (by simpa using gS9) hkl;rw[ea] at this;simpa using this
  obtain⟨Y,hY⟩:=exI h9.next
  obtain⟨ha,eha,na,ga,oa,fa⟩:=fR hY [.aC,aB 0,aB 0,.aC]
  obtain⟨hb,ehb,nb,gb,ob⟩:=xX ha Y a.enc
  have cb1:hb.cell Y 1=some (aB (a.ord:Int)):=by rw[H.aF gb];rfl
  have F9b:Fr h9 hb:=⟨by omega,λq hq=>by rw[ob q (by omega),oa q (by omega)]⟩
  obtain⟨m,hm⟩:=exI (jS (W.take k))
  obtain⟨o,ho⟩:=exI (W.getD k 0)
  have hpk:=hpre k
  have hpk1:=hpre (k+1)
  have hs:=Al W k (by omega)
  rw[hm] at hpk
  rw[hm,ho] at hs
  have ho420:o∣420:=by rw[←ho];exact hWd _ (bD (by omega))
  have ho1:o<=420:=Nat.le_of_dvd (by omega) ho420
  have ho0:0<o:=Nat.pos_of_dvd_of_pos ho420 (by omega)
  rw[hao,ho] at cb1
  rw[hm]
  simp(disch:=omega)only[go_sem,d4,rw9,hY,eha,Ky,ga,Kl,ehb,cb1]
  refine bT (λvs hh=>(∃g:Nat->V,vs= [g 0,g 1,g 2,g 3,g 4,g 5,aB m,.ptr Y 0,aB (Nat.gcd m o:Nat),g 9,g 10,.sl S 0 K.length cp,aB (K.length:Int),aB k,g 14,g 15])/\Fr hb hh) ?_ ?_
  ·refine aG (λk' vars hh=> ∃(x y:Nat),(∃g:Nat->V,vars= [g 0,g 1,g 2,g 3,g 4,g 5,aB m,.ptr Y 0,aB x,aB y,g 10,.sl S 0 K.length cp,aB (K.length:Int),aB k,g 14,g 15])/\x<1000000/\y<1000000/\Nat.gcd x y=Nat.gcd m o/\Fr hb hh/\k'=y) o
    ⟨m,o,aA rfl,by omega,by omega,rfl,(Fr.refl hb).bF (by omega),rfl⟩ ?_
   rintro k' vars hh ⟨x,y,⟨g2,rfl⟩,hx,hy,hg,F,hk⟩
   subst hk
   by_cases hlt:(0:Int)<(k':Int)
   ·have d1:=iK hlt
    have hz:(k':Int)≠0:=by omega
    have hmm:(x:Int).tmod (k':Int)=((x%k':Nat):Int):=Ie x k'
    have hml:=Nat.mod_lt x (show k'>0 by omega)
    simp(disch:=omega)only[go_sem,d1,hz,hmm]
    exact⟨x%k',hml,k',x%k',aA rfl,hy,by omega,by rw[Nat.gcd_comm,←Nat.gcd_rec,Nat.gcd_comm];exact hg,F.bF (by omega),rfl⟩
   ·have d1:=fF hlt
    obtain rfl:k'=0:=by omega
    simp(disch:=omega)only[go_sem,d1]
    rw[←hg,Nat.gcd_zero_right]
    exact⟨aA rfl,F⟩
  rintro vars hc' ⟨⟨g2,rfl⟩,Fc⟩
  obtain⟨q,hq⟩:=exI (Nat.gcd m o)
  rw[hq]
  rw[hq] at hs
  have hq0:0<q:=by rw[←hq];exact Nat.gcd_pos_of_pos_right _ ho0
  have hqz:(q:Int)≠0:=by omega
  have hdv:(m:Int).tdiv (q:Int)=((m/q:Nat):Int):=by rw[Int.tdiv_eq_ediv_of_nonneg (by omega)];rfl
  have hdl:m/q<=m:=Nat.div_le_self _ _
  have hmu:((m/q:Nat):Int)*(o:Int)=((jS (W.take (k+1)):Nat):Int):=by rw[hs,Int.natCast_mul]
  generalize m/q=d at hdv hdl hmu hs
  have cc1:hc'.cell Y 1=some (aB o):=by rw[Fc.cell (by omega)];exact cb1
  have hp2:=hpk1.1
  obtain⟨m2,hm2⟩:=exI (jS (W.take (k+1)))
  rw[hm2] at hmu hp2
  simp(disch:=omega)only[go_sem,hqz,hdv,hmu,cc1]
  rw[fJ k]
  exact⟨K.length-(k+1),by omega,k+1,by rw[hm2];exact aA rfl,by omega,((F9.trans F9b).trans Fc).bF (by omega),rfl⟩
 rintro vars h9 ⟨⟨g,rfl⟩,F9⟩
 simp(disch:=omega)only[go_sem]
 exact⟨K,ik,by unfold DF;rw[hW],(f1.trans f2).trans F9⟩
theorem Ru {n:Nat}{G:List Nat->Prop}{L:LN}{K:List Nat}{h:H}{p:V}(go:HA n G L K h p)(hG:tP n G)(E:iR G L)(n7:n<=7)(hLl:L.length<1000000)(vx:V){i:Nat}(hi:i<L.length)(hx:SI h vx (zi (L.getD i []))):
  Ev T 46 [p,vx] h (λv h'=>v= aB (oU G L K i:Nat)/\Fr h h'):=by
 obtain⟨B,M,N,S,cp,vL,ks,rfl,hB,hM,hN,hS,gB,gM,gN,gS,aK,sp⟩:=go.ex
 refine bP mC rfl rfl ?_
 have Y:=kL hG E hi
 have hy1:(L.getD i []).length<=1000:=by rw[Y.len];omega
 have hy2: ∀z∈L.getD i [],z<256:=λz hz=>by have:=Y.lt z hz;omega
 have hK:=Jq hy1 hy2
 have cB1:h.cell B 1=some (.mp M):=by rw[H.aF gB];rfl
 have cB3:h.cell B 3=some (.sl N 0 L.length (.kn L.length)):=by rw[H.aF gB];rfl
 simp(disch:=omega)only[go_sem,mC,aE,cB1,cB3]
 refine (Qj vx _ _ hy1 hy2 (hx.mono ((Fr.refl h).bF (by omega)))).mono ?_
 rintro _ h4 ⟨rfl,f4'⟩
 have f4:Fr h h4:=((Fr.refl h).bF (by omega)).trans f4'
 have cB41:h4.cell B 1=some (.mp M):=by rw[f4.cell (by omega)];exact cB1
 have cB43:h4.cell B 3=some (.sl N 0 L.length (.kn L.length)):=by rw[f4.cell (by omega)];exact cB3
 have gM4:h4.get M=some (.wmap .str (Re L L.length)):=by rw[f4.get _ hM];exact gM
 have lk:=λz=>Tv E.nodup hi hK z
 have cN:h4.cell N i=some (aB (oU G L K i:Nat)):=by rw[f4.cell hN];exact iW gN hi
 simp(disch:=omega)only[go_sem,cB41,cB43,gM4,lk,cN]
 exact⟨by simp [eG],f4⟩
theorem Rw {n:Nat}{G:List Nat->Prop}{L:LN}{K:List Nat}(hG:tP n G)(E:iR G L)(pK:K.Perm (cE G L L.length)){k:Nat}(hk:k<K.length){j:Nat}(hj:j<L.length):oU G L K j=k↔cR G L (K.getD k 0) j:=by
 constructor
 ·intro h
  obtain⟨k2,h1,h2⟩:=zT hG E pK hj;have h3:=vW hG E pK h1 h2;obtain rfl:k2=k:=by omega
  exact (kX.1 h2).2
 ·intro h
  exact vW hG E pK hk (kX.2 ⟨hj,h⟩)
open Classical in
noncomputable def lZ (G:List Nat->Prop)(L:LN)(r:Nat):Bool:=decide (cj G (L.getD r []) (eX (L.getD r [])))
theorem FI (vc:V)(d:Int)(O:List (List Int))(R:List (List (List Int)))(h:H)(hc:Ei h vc d O R)(hd:d<=7∨64<d)(so:kN O)(sr:kS R)(hb:jC d O R≠0):
  Ev T 16 [vc] h (λv h'=>v= .tup [.aC,aB (jC d O R)]/\Fr h h'):=by
 have hc0:=hc
 obtain⟨vO,vR,e,sO,sR⟩:=hc
 subst e
 refine bP mM rfl rfl ?_
 have oneO:vO.one=true:=Gy sO
 have oneR:vR.one=true:=Gm sR
 obtain⟨B,hB⟩:=exI h.next
 obtain⟨h1,e1,n1,g1,o1,f1⟩:=fR hB [aB d,vO,vR]
 have bx:=bM h (v:= aB d) (u:=vO) (w:=vR) rfl oneO oneR
 have rB:=aU g1
 simp(disch:=omega)only[go_sem,mM,aE,bx,hB,e1,rB]
 refine (Yk _ d O R h1 (hc0.mono f1) hd so sr hb).mono ?_
 rintro _ h2 ⟨rfl,f2⟩
 simp(disch:=omega)only[go_sem]
 refine aY (λ_=>?_) (λhc=>(hc hb).elim)
 simp(disch:=omega)only[go_sem]
 exact f1.trans f2
theorem LO {W0:Nat->Prop}(vc:V)(n:Nat)(O:LN)(R:oJ)(G:List Nat->Prop)(h:H)(gc:GC W0 h vc n O R G)(L:LN)(hL:cK O R n 0 (cJ n)=L):
  Ev T 16 [vc] h (λv h'=> ∃K vl,Ck n G L K/\v= .tup [vl,aB 0]/\SV h' vl 1 (rc K.length λk=> .bool (lZ G L (K.getD k 0)))/\Fr h h'):=by
 obtain⟨vO,vR,e,sO,sR⟩:=gc.ch
 subst e
 refine bP mM rfl rfl ?_
 have oneO:vO.one=true:=Gy sO
 have oneR:vR.one=true:=Gm sR
 obtain⟨A,hA⟩:=exI h.next
 obtain⟨h1,e1,n1,g1,o1,f1⟩:=fR hA [aB n,vO,vR]
 have bx:=bM h (v:= aB n) (u:=vO) (w:=vR) rfl oneO oneR
 have rB:=aU g1
 simp(disch:=omega)only[go_sem,mM,aE,bx,hA,e1,rB]
 refine (AS _ n O R G h1 (gc.mono f1)).mono ?_
 rw[hL]
 rintro _ h2 ⟨p,K,rfl,go,ik,f2⟩
 obtain⟨B,M,N,S,cp,vL,ks,rfl,hB,hM,hN,hS,gB,gM,gN,gS,aK,sp⟩:=go.ex
 have c2:h2.cell B 2=some (.sl S 0 K.length cp):=by rw[H.aF gB];rfl
 have hlk:=aZ.length aK
 have E:=(fE gc.mI gc.isc).1
 have h4l:=(fE gc.mI gc.isc).2
 have h5l:=kE gc
 rw[hL] at E h4l
 have hG:=gc.mI
 have n7:=gc.n7
 have hKle:K.length<=5040:=by
  have h1:=ik.perm.length_eq;have h2:=qF (G:=G) (L:=L) L.length;omega
 obtain⟨D,hD⟩:=exI h2.next
 obtain⟨h3,e3,n3,g3,o3,f3⟩:=fR hD (rc K.length λ_=>V.bool false)
 have cB3:h3.cell B 2=some (.sl S 0 K.length cp):=by rw[f3.cell hB];exact c2
 simp(disch:=omega)only[go_sem]
 refine aY (λhc=>(hc rfl).elim) (λ_=>?_)
 simp(disch:=omega)only[go_sem,c2,zX,hD,e3,cB3]
 refine bT (λvs hh=>(∃g:Nat->V,vs= [g 0,g 1,g 2,g 3,g 4,g 5,.sl D 0 K.length (.kn K.length),g 7,g 8,g 9,g 10,g 11,g 12,g 13])/\hh.get D=some (.cells false (rc K.length λk=> .bool (lZ G L (K.getD k 0))))/\D<hh.next/\Fr h2 hh) ?_ ?_
 ·refine aG (λk' vs hh=> ∃(k:Nat),(∃g:Nat->V,vs= [g 0,g 1,g 2,g 3,.ptr B 0,g 5,.sl D 0 K.length (.kn K.length),g 7,g 8,g 9,.sl S 0 K.length cp,aB (K.length:Int),aB k,g 13])/\k<=K.length/\hh.get D=some (.cells false (rc K.length λj=> .bool (if j<k then lZ G L (K.getD j 0) else false)))/\D<hh.next/\Fr h2 hh/\k'=K.length-k) K.length
   ⟨0,aA rfl,iP _,by rw[g3];rfl,by omega,f3,rfl⟩ ?_
  rintro k' vars h9 ⟨k,⟨g,rfl⟩,hk,gD,nD,F9,rfl⟩
  by_cases hlt:(k:Int)<(K.length:Int)
  case neg=>
   have d4:=fF hlt;obtain rfl:k=K.length:=by omega
   simp(disch:=omega)only[go_sem,d4];refine⟨aA rfl,?_,nD,F9⟩;rw[gD,bL λj hj=>by rw[if_pos hj]]
  have d4:=iK hlt
  have hk':k<K.length:=by omega
  have hkl:k<ks.length:=by omega
  obtain⟨a,ea⟩:=exI (ks[k])
  have ka:=aZ.get aK k hkl hk'
  rw[ea,←Pm.bJ hk'] at ka
  obtain⟨r,hr⟩:=exI (K.getD k 0)
  rw[hr] at ka
  have hrK:r∈cE G L L.length:=by rw[←hr];exact ik.perm.mem_iff.1 (bD hk')
  have hrl:=(lB.1 hrK).1
  have gS9:h9.get S=some (.cells false (Cls.oN ks)):=by rw[F9.get _ hS];exact gS
  have rw9:h9.row S (k*4) 4=some a.enc:=by
   have:=sE (pre:= []) (by simpa using gS9) hkl;rw[ea] at this;simpa using this
  obtain⟨Y,hY⟩:=exI h9.next
  obtain⟨ha,eha,na,ga,oa,fa⟩:=fR hY [.aC,aB 0,aB 0,.aC]
  obtain⟨hb,ehb,nb,gb,ob⟩:=xX ha Y a.enc
  have cb0:hb.cell Y 0=some a.rep:=by rw[H.aF gb];rfl
  have F9b:Fr h9 hb:=⟨by omega,λq hq=>by rw[ob q (by omega),oa q (by omega)]⟩
  have Fb:=F9.trans F9b
  have R1:=kL hG E hrl
  simp(disch:=omega)only[go_sem,d4,rw9,hY,eha,Ky,ga,Kl,ehb,cb0]
  refine (Oo (rfl:T 50=some jA) a.rep n (L.getD r []) hb (by omega) R1 (ka.rep.mono Fb)).mono ?_
  rintro v1 hc' np1
  have Fc:=Fb.trans np1.fr
  obtain⟨j,hj,ej⟩: ∃j,j<L.length/\L.getD j []=eX (L.getD r []):=by
   have hm2:eX (L.getD r [])∈L:=(E.mem _).2 (hG.inv (zD E hrl));obtain⟨j,hj,ej⟩:=Gk.1 hm2;exact⟨j,hj,by rw[List.getD,fX hj,←ej];rfl⟩
  have s1:=(np1.pv (W:=λ_=>False) id).si
  rw[←ej] at s1
  simp(disch:=omega)only[go_sem]
  refine (Ru (go.mono Fc) hG E n7 (by omega) v1 hj s1).mono ?_
  rintro _ hd ⟨rfl,fd⟩
  have Fd:=Fc.trans fd
  have F9d:=(F9b.trans np1.fr).trans fd
  have gDd:hd.get D=some (.cells false (rc K.length λj=> .bool (if j<k then lZ G L (K.getD j 0) else false))):=by rw[F9d.get D nD];exact gD
  have er:decide (((oU G L K j:Nat):Int)=(k:Int))=lZ G L r:=by
   unfold lZ;rw[←ej];have h1:=Rw hG E ik.perm hk' hj;rw[hr] at h1
   classical
   rw[decide_eq_decide];constructor
   ·intro h2;exact h1.1 (by omega)
   ·intro h2;have:=h1.2 h2;omega
  have pt:=bW (vs:=rc K.length λj=> .bool (if j<k then lZ G L (K.getD j 0) else false)) (off:=k) (by rw[eU];exact hk')
  simp(disch:=omega)only[go_sem,er,gDd,pt]
  rw[fJ k]
  have n9d:=F9d.next
  refine⟨K.length-(k+1),by omega,k+1,aA rfl,by omega,?_,by show D<hd.next;omega,Fd.set (by omega) _,rfl⟩
  rw[iY,bL λx hx=>?_]
  by_cases ex:x=k
  ·rw[if_pos ex,if_pos (by omega),ex,hr]
  ·rw[if_neg ex]
   by_cases e2:x<k
   ·rw[if_pos e2,if_pos (by omega)]
   ·rw[if_neg e2,if_neg (by omega)]
 rintro vars h9 ⟨⟨g,rfl⟩,gD,nD,F9⟩
 simp(disch:=omega)only[go_sem]
 exact⟨K,_,ik,rfl,SV.all (by rw[eU,Nat.mul_one]) nD gD _,(f1.trans f2).trans F9⟩
theorem Zq (e:Nat)(he:e<9223372036854775808):arith .and .i64 (e:Int) 1=some (aB (e%2:Nat)):=by
 rw[Mx];congr 2;show IntKind.i64.wrap (((BitVec.ofInt 64 (e:Int)&&&BitVec.ofInt 64 (1:Int)).toNat:Nat):Int)=_;have h1:(BitVec.ofInt 64 (e:Int)).toNat=e:=by simp [BitVec.toNat_ofInt];omega
 have h2:(BitVec.ofInt 64 (1:Int)).toNat=1:=rfl;rw[BitVec.toNat_and,h1,h2,Nat.and_one_is_mod];exact BL (by omega) (by omega)
theorem AX (e:Nat):Bi .shr .i64 (e:Int) 1=some (aB (e/2:Nat)):=by
 unfold Bi;rw[if_neg (by omega)];simp only;congr 2;show Int.fdiv (e:Int) 2=_;rw[Int.fdiv_eq_ediv_of_nonneg _ (by omega)];rfl
theorem VH {n:Nat}{a:List Nat}(A:bY n a): ∀k,pw n (bE a a) k=pw n a (2*k)
 |0=>rfl
 |k+1=>by
  show bE (pw n (bE a a) k) (bE a a)=pw n a (2*k+2);rw[VH A k,←bG (lJ A _) A A];rfl
theorem TE {n:Nat}{a:List Nat}(A:bY n a):pw n a 1=a:=fQ A
theorem GV (u w:V)(n e:Nat)(a:List Nat)(h:H)(hn:n<=1000)(he:e<1000000)(A:bY n a)(hu:SI h u (zi a))(hw:SI h w (zi (cJ n))):
  Ev T 47 [u,w,aB e] h (λv h'=>SI h' v (zi (pw n a e))/\Fr h h'):=by
 refine bP fT rfl rfl ?_
 simp(disch:=omega)only[go_sem,fT,aE]
 refine aG (λk' vs hh=> ∃(e':Nat) (vx va:V) (x b:List Nat),(∃g:Nat->V,vs= [vx,va,aB (e':Int),g 3,g 4,g 5])/\e'<1000000/\bY n x/\bY n b/\SI hh vx (zi x)/\SI hh va (zi b)/\bE b (pw n x e')=pw n a e/\Fr h hh/\k'=e') e
  ⟨e,u,w,a,cJ n,aA rfl,he,A,bY.one n,hu,hw,fQ (lJ A e),Fr.refl h,rfl⟩ ?_
 rintro k' vars h1 ⟨e',vx,va,x,b,⟨g,rfl⟩,hl,X,B,sx,sb,heq,F,hk⟩
 subst hk
 by_cases hlt:(0:Int)<(k':Int)
 case neg=>
  have d1:=fF hlt;obtain rfl:k'=0:=by omega
  simp(disch:=omega)only[go_sem,d1];have h2:bE b (cJ n)=pw n a e:=heq;rw[cV B] at h2;rw[←h2];exact⟨sb,F⟩
 have d1:=iK hlt
 have hpx: ∀k,bE x (pw n x k)=pw n x (k+1):=λk=>by
  have h2:=Qu X 1 k;rw[TE X] at h2;rw[←h2,Nat.add_comm]
 have sq:=VH X (k'/2)
 rcases Nat.mod_two_eq_zero_or_one k' with hm|hm
 ·have d2:decide (((0:Nat):Int)=1)=false:=rfl
  have an:=Zq k' (by omega)
  rw[hm] at an
  simp(disch:=omega)only[go_sem,d1,an,d2]
  refine (yQ vx vx x x h1 (by rw[X.len];omega) sx sx (λj hj=>by rw[X.len];exact X.fU (by rw[←X.len];exact hj))).mono ?_
  rintro v1 h2 np
  simp(disch:=omega)only[go_sem,Dt,zG,AX]
  refine⟨k'/2,by omega,k'/2,v1,va,bE x x,b,aA rfl,by omega,X.mul X,B,(np.pv (W:=λ_=>False) id).si,sb.mono np.fr,?_,F.trans np.fr,rfl⟩
  rw[sq,show 2*(k'/2)=k' by omega];exact heq
 ·have d2:decide (((1:Nat):Int)=1)=true:=rfl
  have an:=Zq k' (by omega)
  rw[hm] at an
  simp(disch:=omega)only[go_sem,d1,an,d2]
  refine (yQ va vx b x h1 (by rw[B.len];omega) sb sx (λj hj=>by rw[X.len];exact B.fU (by rw[←B.len];exact hj))).mono ?_
  rintro v0 h2 np0
  simp(disch:=omega)only[go_sem]
  refine (yQ vx vx x x h2 (by rw[X.len];omega) (sx.mono np0.fr) (sx.mono np0.fr) (λj hj=>by rw[X.len];exact X.fU (by rw[←X.len];exact hj))).mono ?_
  rintro v1 h3 np
  simp(disch:=omega)only[go_sem,Dt,zG,AX]
  refine⟨k'/2,by omega,k'/2,v1,v0,bE x x,bE b x,aA rfl,by omega,X.mul X,B.mul X,(np.pv (W:=λ_=>False) id).si,((np0.pv (W:=λ_=>False) id).si).mono np.fr,?_,(F.trans np0.fr).trans np.fr,rfl⟩
  rw[sq,bG B X (lJ X _),hpx,show 2*(k'/2)+1=k' by omega];exact heq
theorem LZ {n:Nat}{G:List Nat->Prop}{L:LN}(hG:tP n G)(E:iR G L):0<L.length/\L.getD 0 []=cJ n:=by
 have hm:=(E.mem _).2 hG.one;have h0:=List.length_pos_of_mem hm;refine⟨h0,?_⟩;obtain⟨i,hi,ei⟩:=Gk.1 hm;have e0:L.getD 0 []=L[0]:=by rw[List.getD,fX h0];rfl
 by_cases h:i=0
 ·subst h;rw[e0,ei]
 ·have h1:=List.pairwise_iff_getElem.1 E.asc 0 i h0 hi (by omega)
  rw[ei] at h1;have X:=kL hG E h0;rw[e0] at X;rcases one_le X with h2|h2
  ·rw[e0,←h2]
  ·exact (h1.asymm h2).elim
noncomputable def rH (n:Nat)(G:List Nat->Prop)(L:LN)(K:List Nat)(z:Int)(r:Nat):Nat:=oU G L K (L.idxOf (pw n (L.getD r []) (z%(fM (L.getD r []) n:Nat)).toNat))
theorem ED (z:Int)(o:Nat)(ho:0<o):(z.tmod (o:Int)+(o:Int)).tmod (o:Int)=(((z%(o:Int)).toNat:Nat):Int):=by
 have h1:=Int.tmod_lt_of_pos z (show (0:Int)<o by omega);have h2:=Int.lt_tmod_of_pos z (show (0:Int)<o by omega);rw[Int.tmod_eq_emod_of_nonneg (by omega),Int.toNat_of_nonneg (Int.emod_nonneg _ (by omega)),Int.add_emod_right]
 conv=>rhs;rw[←Int.mul_tdiv_add_tmod z o,Int.add_comm,Int.add_mul_emod_self_left]
theorem NU (vc vz:V)(d:Int)(O:List (List Int))(R:List (List (List Int)))(h:H)(hc:Ei h vc d O R)(hd:d<=7∨64<d)(so:kN O)(sr:kS R)(hb:jC d O R≠0):
  Ev T 12 [vc,vz] h (λv h'=>v= .tup [.aC,aB (jC d O R)]/\Fr h h'):=by
 have hc0:=hc
 obtain⟨vO,vR,e,sO,sR⟩:=hc
 subst e
 refine bP kC rfl rfl ?_
 have oneO:vO.one=true:=Gy sO
 have oneR:vR.one=true:=Gm sR
 obtain⟨B,hB⟩:=exI h.next
 obtain⟨h1,e1,n1,g1,o1,f1⟩:=fR hB [aB d,vO,vR]
 have bx:=bM h (v:= aB d) (u:=vO) (w:=vR) rfl oneO oneR
 have rB:=aU g1
 simp(disch:=omega)only[go_sem,kC,aE,bx,hB,e1,rB]
 refine (Yk _ d O R h1 (hc0.mono f1) hd so sr hb).mono ?_
 rintro _ h2 ⟨rfl,f2⟩
 simp(disch:=omega)only[go_sem]
 refine aY (λ_=>?_) (λhc=>(hc hb).elim)
 simp(disch:=omega)only[go_sem]
 exact f1.trans f2
theorem Zo {W0:Nat->Prop}(vc:V)(z:Int)(n:Nat)(O:LN)(R:oJ)(G:List Nat->Prop)(h:H)(gc:GC W0 h vc n O R G)(L:LN)(hz: -9223372036854775808<=z/\z<9223372036854775808)(hL:cK O R n 0 (cJ n)=L):
  Ev T 12 [vc,aB z] h (λv h'=> ∃K vl,Ck n G L K/\v= .tup [vl,aB 0]/\SV h' vl 1 (rc K.length λk=> aB (rH n G L K z (K.getD k 0):Nat))/\Fr h h'):=by
 obtain⟨vO,vR,e,sO,sR⟩:=gc.ch
 subst e
 refine bP kC rfl rfl ?_
 have oneO:vO.one=true:=Gy sO
 have oneR:vR.one=true:=Gm sR
 obtain⟨A,hA⟩:=exI h.next
 obtain⟨h1,e1,n1,g1,o1,f1⟩:=fR hA [aB n,vO,vR]
 have bx:=bM h (v:= aB n) (u:=vO) (w:=vR) rfl oneO oneR
 have rB:=aU g1
 simp(disch:=omega)only[go_sem,kC,aE,bx,hA,e1,rB]
 refine (AS _ n O R G h1 (gc.mono f1)).mono ?_
 rw[hL]
 rintro _ h2 ⟨p,K,rfl,go,ik,f2⟩
 obtain⟨B,M,N,S,cp,vL,ks,rfl,hB,hM,hN,hS,gB,gM,gN,gS,aK,sp⟩:=go.ex
 have c2:h2.cell B 2=some (.sl S 0 K.length cp):=by rw[H.aF gB];rfl
 have hlk:=aZ.length aK
 have E:=(fE gc.mI gc.isc).1
 have h4l:=(fE gc.mI gc.isc).2
 have h5l:=kE gc
 rw[hL] at E h4l
 have hG:=gc.mI
 have n7:=gc.n7
 have hKle:K.length<=5040:=by
  have h1:=ik.perm.length_eq;have h2:=qF (G:=G) (L:=L) L.length;omega
 obtain⟨D,hD⟩:=exI h2.next
 obtain⟨h3,e3,n3,g3,o3,f3⟩:=fR hD (rc K.length λ_=>aB 0)
 have cB3:h3.cell B 2=some (.sl S 0 K.length cp):=by rw[f3.cell hB];exact c2
 simp(disch:=omega)only[go_sem]
 refine aY (λhc=>(hc rfl).elim) (λ_=>?_)
 simp(disch:=omega)only[go_sem,c2,lD _ K.length (by omega),hD,e3,cB3]
 refine bT (λvs hh=>(∃g:Nat->V,vs= [g 0,g 1,g 2,g 3,g 4,g 5,g 6,.sl D 0 K.length (.kn K.length),g 8,g 9,g 10,g 11,g 12,g 13,g 14,g 15])/\hh.get D=some (.cells false (rc K.length λk=> aB (rH n G L K z (K.getD k 0):Nat)))/\D<hh.next/\Fr h2 hh) ?_ ?_
 ·refine aG (λk' vs hh=> ∃(k:Nat),(∃g:Nat->V,vs= [g 0,aB z,g 2,g 3,g 4,.ptr B 0,g 6,.sl D 0 K.length (.kn K.length),g 8,g 9,g 10,g 11,.sl S 0 K.length cp,aB (K.length:Int),aB k,g 15])/\k<=K.length/\hh.get D=some (.cells false (rc K.length λj=> aB (if j<k then ((rH n G L K z (K.getD j 0):Nat):Int) else 0)))/\D<hh.next/\Fr h2 hh/\k'=K.length-k) K.length
   ⟨0,aA rfl,iP _,by rw[g3];rfl,by omega,f3,rfl⟩ ?_
  rintro k' vars h9 ⟨k,⟨g,rfl⟩,hk,gD,nD,F9,rfl⟩
  by_cases hlt:(k:Int)<(K.length:Int)
  case neg=>
   have d4:=fF hlt;obtain rfl:k=K.length:=by omega
   simp(disch:=omega)only[go_sem,d4];refine⟨aA rfl,?_,nD,F9⟩;rw[gD,bL λj hj=>by rw[if_pos hj]]
  have d4:=iK hlt
  have hk':k<K.length:=by omega
  have hkl:k<ks.length:=by omega
  obtain⟨a,ea⟩:=exI (ks[k])
  have ka:=aZ.get aK k hkl hk'
  rw[ea,←Pm.bJ hk'] at ka
  obtain⟨r,hr⟩:=exI (K.getD k 0)
  rw[hr] at ka
  have hrK:r∈cE G L L.length:=by rw[←hr];exact ik.perm.mem_iff.1 (bD hk')
  have hrl:=(lB.1 hrK).1
  have gS9:h9.get S=some (.cells false (Cls.oN ks)):=by rw[F9.get _ hS];exact gS
  have rw9:h9.row S (k*4) 4=some a.enc:=by
   have:=sE (pre:= []) (by simpa using gS9) hkl;rw[ea] at this;simpa using this
  obtain⟨Y,hY⟩:=exI h9.next
  obtain⟨ha,eha,na,ga,oa,fa⟩:=fR hY [.aC,aB 0,aB 0,.aC]
  obtain⟨hb,ehb,nb,gb,ob⟩:=xX ha Y a.enc
  have cb0:hb.cell Y 0=some a.rep:=by rw[H.aF gb];rfl
  have F9b:Fr h9 hb:=⟨by omega,λq hq=>by rw[ob q (by omega),oa q (by omega)]⟩
  have Fb:=F9.trans F9b
  have R1:=kL hG E hrl
  have cb1:hb.cell Y 1=some (aB (a.ord:Int)):=by rw[H.aF gb];rfl
  obtain⟨o,ho⟩:=exI (fM (L.getD r []) n)
  rw[ka.ord,ho] at cb1
  have o0:0<o:=by rw[←ho];exact vH R1
  have o1':o<=823543:=by rw[←ho];exact Nat.le_trans (Qx R1) (Ef n7)
  have hoz:(o:Int)≠0:=by omega
  have t1:=Int.tmod_lt_of_pos z (show (0:Int)<o by omega)
  have t2:=Int.lt_tmod_of_pos z (show (0:Int)<o by omega)
  have t3:=ED z o o0
  obtain⟨x,hx⟩:=exI ((z%(o:Int)).toNat)
  rw[hx] at t3
  have hxo:x<o:=by
   have:=Int.emod_lt_of_pos z (show (0:Int)<o by omega);have:=Int.emod_nonneg z hoz;omega
  obtain⟨l0,l1⟩:=LZ hG E
  obtain⟨wL,svL,aL⟩:=sp
  have hwL:=aZ.length aL
  rw[lW] at hwL
  obtain⟨idL,offL,shL,hidL,hcL⟩:=SV.shape svL L.length (by omega) (by omega)
  have se:=Hx aL l0
  rw[l1] at se
  have cl: ∀h',Fr h2 h'->h'.cell idL offL=some (wL.getD 0 .undef):=λh' f=>by
   have:=hcL 0 (by omega);rw[Nat.add_zero] at this;rw[f.cell (hidL (by omega)),this];simp [List.getD,show 0<wL.length by omega]
  generalize hv:wL.getD 0 .undef=ve at cl se
  have ix0:Qo 1 vL (aB 0)=some (.ptr idL (offL+0)):=shL.ixa .i64 0 (by omega) (by omega)
  rw[Nat.add_zero] at ix0
  have cB0: ∀h',Fr h2 h'->h'.cell B 0=some vL:=λh' f=>by rw[f.cell hB,H.aF gB];rfl
  simp(disch:=omega)only[go_sem,d4,rw9,hY,eha,Ky,ga,Kl,ehb,cb0,cb1,hoz,t3,cB0 hb Fb,ix0,cl hb Fb]
  refine (GV a.rep ve n x (L.getD r []) _ (by omega) (by omega) R1 (ka.rep.mono (Fb.trans ((Fr.refl hb).bF (by omega)))) (se.mono (Fb.trans ((Fr.refl hb).bF (by omega))))).mono ?_
  rintro v1 hc' ⟨s1,fc'⟩
  have Fbc:Fr hb hc':=((Fr.refl hb).bF (by omega)).trans fc'
  have Fc:=Fb.trans Fbc
  have hP:G (pw n (L.getD r []) x):=by
   have: ∀y,G (pw n (L.getD r []) y):=λy=>by
    induction y with
    |zero=>exact hG.one
    |succ y ih=>exact hG.mul ih (zD E hrl)
   exact this x
  have hjm:=(E.mem _).2 hP
  obtain⟨j,hj⟩:=exI (L.idxOf (pw n (L.getD r []) x))
  have hjl:j<L.length:=by rw[←hj];exact List.idxOf_lt_length_of_mem hjm
  have ej:L.getD j []=pw n (L.getD r []) x:=by
   rw[List.getD,fX hjl];subst hj;exact List.getElem_idxOf hjl
  rw[←ej] at s1
  simp(disch:=omega)only[go_sem]
  refine (Ru (go.mono Fc) hG E n7 (by omega) v1 hjl s1).mono ?_
  rintro _ hd ⟨rfl,fd⟩
  have Fd:=Fc.trans fd
  have Fbd:=Fbc.trans fd
  have F9d:=F9b.trans Fbd
  have gDd:hd.get D=some (.cells false (rc K.length λj=> aB (if j<k then ((rH n G L K z (K.getD j 0):Nat):Int) else 0))):=by rw[F9d.get D nD];exact gD
  have er:rH n G L K z r=oU G L K j:=by unfold rH;rw[ho,hx,hj]
  have cd0:hd.cell Y 0=some a.rep:=by rw[Fbd.cell (by omega)];exact cb0
  have eve:=se.eG
  have evr:=ka.rep.eG
  have evL:=svL.eG
  have pt:=bW (vs:=rc K.length λj=> aB (if j<k then ((rH n G L K z (K.getD j 0):Nat):Int) else 0)) (off:=k) (by rw[eU];exact hk')
  simp(disch:=omega)only[go_sem,cd0,cl hd Fd,cB0 hd Fd,eve,evr,evL,gDd,pt]
  rw[fJ k]
  have n9d:=F9d.next
  refine⟨K.length-(k+1),by omega,k+1,aA rfl,by omega,?_,by show D<hd.next;omega,Fd.set (by omega) _,rfl⟩
  rw[iY,bL λx hx=>?_]
  by_cases ex:x=k
  ·rw[if_pos ex,if_pos (by omega),ex,hr,er]
  ·rw[if_neg ex]
   by_cases e2:x<k
   ·rw[if_pos e2,if_pos (by omega)]
   ·rw[if_neg e2,if_neg (by omega)]
 rintro vars h9 ⟨⟨g,rfl⟩,gD,nD,F9⟩
 simp(disch:=omega)only[go_sem]
 exact⟨K,_,ik,rfl,SV.all (by rw[eU,Nat.mul_one]) nD gD _,(f1.trans f2).trans F9⟩
section
variable {n:Nat} {G:List Nat->Prop} {L:LN} (hG:tP n G) (E:iR G L)
include hG E in
end
set_option maxRecDepth 100000
set_option maxRecDepth 100000
structure Plc (l:LN)(x:List Nat)(k:Nat):Prop where
 le:k<=l.length
 lo: ∀i,i<k->tK (l.getD i []) x=true
 hi: ∀i,k<=i->i<l.length->tK (l.getD i []) x=false
theorem JC (vl vx:V)(n:Nat)(l:LN)(x:List Nat)(h:H)(hn:n<1000)(hl:l.length<1000000)(hP: ∀g∈l,bY n g)(X:bY n x)(asc:l.Pairwise Lt)(hv:SP h vl l)(hx:SI h vx (zi x)):
  Ev T 65 [vl,vx] h (λv h'=> ∃k:Nat,v= .tup [aB k,.bool (decide (x∈l))]/\Plc l x k/\(x∈l->k<l.length/\l.getD k []=x)/\Fr h h'):=by
 obtain⟨ws,sv,al⟩:=hv
 have hws:=aZ.length al
 rw[lW] at hws
 refine bP zA rfl rfl ?_
 have lv:dC vl=some (aB (l.length:Int)):=by unfold dC;rw[SV.len sv (n:=l.length) (by omega) (by omega)];rfl
 obtain⟨id,off,sh,hid,hc⟩:=SV.shape sv l.length (by omega) (by omega)
 have hlen: ∀i,i<l.length->(l.getD i []).length=n:=λi hi=>(hP _ (bD hi)).len
 have mono: ∀i j,i<j->j<l.length->Lt (l.getD i []) (l.getD j []):=λi j h1 h2=>by
  have ei:l.getD i []=l[i]:=by rw[List.getD,fX (by omega)];rfl
  have ej:l.getD j []=l[j]:=by rw[List.getD,fX h2];rfl
  rw[ei,ej];exact List.pairwise_iff_getElem.1 asc i j (by omega) h2 h1
 have cell: ∀hh,Fr h hh-> ∀i,i<l.length->hh.cell id (off+i)=some (ws.getD i .undef):=λhh f i hi=>by
  rw[f.cell (hid (by omega)),hc i (by omega)];simp [List.getD,show i<ws.length by omega]
 simp(disch:=omega)only[go_sem,zA,aE,lv]
 refine bT (λvs hh=> ∃k,(∃g:Nat->V,vs= [vl,vx,g 2,g 3,aB (k:Nat),g 5,g 6,g 7,g 8])/\Plc l x k/\Fr h hh) ?_ ?_
 ·refine aG (λk' vars hh=> ∃(i j:Nat),(∃g:Nat->V,vars= [vl,vx,g 2,g 3,aB i,aB j,g 6,g 7,g 8])/\i<=j/\j<=l.length/\(∀q,q<i->tK (l.getD q []) x=true)/\(∀q,j<=q->q<l.length->tK (l.getD q []) x=false)/\Fr h hh/\k'=j-i) l.length
   ⟨0,l.length,aA rfl,by omega,by omega,λm hm=>by omega,λm h1 h2=>by omega,Fr.refl h,rfl⟩ ?_
  rintro k' vars hh ⟨i,j,⟨g,rfl⟩,hij,hj,hlo,hhi,F,rfl⟩
  by_cases hlt:(i:Int)<(j:Int)
  case neg=>
   have e1:=fF hlt;obtain rfl:i=j:=by omega
   simp(disch:=omega)only[go_sem,e1];exact⟨i,aA rfl,⟨hj,hlo,hhi⟩,F⟩
  have e1:=iK hlt
  obtain⟨m,hm⟩:=exI ((i+j)/2)
  have ea:(i:Int)+(j:Int)=((i+j:Nat):Int):=by omega
  have ed:((i+j:Nat):Int).tdiv 2=(m:Int):=by rw[Int.tdiv_eq_ediv_of_nonneg (by omega)];omega
  have cm:=cell hh F m (by omega)
  have sm:=Hx al (i:=m) (by omega)
  generalize ws.getD m .undef=vm at cm sm
  simp(disch:=omega)only[go_sem,e1,ea,ed,sh.ixa,cm]
  refine (Zd vm vx n _ x hh (by omega) (hlen m (by omega)) X.len (sm.mono F) (hx.mono F)).mono ?_
  rintro _ h3 ⟨rfl,f3⟩
  cases hl2:tK (l.getD m []) x with
  |true=>
   simp(disch:=omega)only[go_sem];rw[fJ m];refine⟨j-(m+1),by omega,m+1,j,aA rfl,by omega,hj,λq hq=>?_,hhi,F.trans f3,rfl⟩
   by_cases e:q=m
   ·rw[e];exact hl2
   ·have h1:=mono q m (by omega) (by omega)
    have h2:=(mW (by rw[hlen m (by omega),X.len])).1 hl2;exact (mW (by rw[hlen q (by omega),X.len])).2 (Lt.trans (by rw[hlen q (by omega),hlen m (by omega)]) h1 h2)
  |false=>
   simp(disch:=omega)only[go_sem];refine⟨m-i,by omega,i,m,aA rfl,by omega,by omega,hlo,λq h1 h2=>?_,F.trans f3,rfl⟩
   by_cases e:q=m
   ·rw[e];exact hl2
   ·rw[←Bool.not_eq_true]
    intro h3;have h4:=mono m q (by omega) h2;have h5:=(mW (by rw[hlen q h2,X.len])).1 h3;rw[(mW (by rw[hlen m (by omega),X.len])).2 (Lt.trans (by rw[hlen q h2,hlen m (by omega)]) h4 h5)] at hl2;cases hl2
 rintro vars h2 ⟨k,⟨g,rfl⟩,pk,F⟩
 have hmem:x∈l->k<l.length/\l.getD k []=x:=λhx2=>by
  obtain⟨q,hq,eq⟩:=Gk.1 hx2;have eq':l.getD q []=x:=by rw[List.getD,fX hq,←eq];rfl
  have h1:k<=q:=Nat.le_of_not_lt λh3=>by
   have:=pk.lo q h3;rw[eq',vX] at this;cases this
  have h2:k=q:=Nat.le_antisymm h1 (Nat.le_of_not_lt λh3=>by
   have h4:=mono k q h3 hq;rw[eq'] at h4;have h5:=pk.hi k (gV _) (by omega);rw[(mW (by rw[hlen k (by omega),X.len])).2 h4] at h5
   cases h5)
  exact⟨by omega,by rw[h2];exact eq'⟩
 by_cases hk:(k:Int)<(l.length:Int)
 ·have e1:=iK hk
  have cm:=cell h2 F k (by omega)
  have sm:=Hx al (i:=k) (by omega)
  generalize ws.getD k .undef=vm at cm sm
  simp(disch:=omega)only[go_sem,lv,e1,sh.ixa,cm]
  refine (xH vm vx _ _ h2 (sm.mono F) (hx.mono F) (by rw[aQ,hlen k (by omega)];omega) (by rw[aQ,X.len];omega)).mono ?_
  rintro _ h3 ⟨rfl,f3⟩
  have ed:decide (zi (l.getD k [])=zi x)=decide (x∈l):=by
   rw[decide_eq_decide];constructor
   ·intro h4
    have h5:l.getD k []=x:=List.map_inj_right (λu v h2=>by omega)|>.1 h4;rw[←h5];exact bD (by omega)
   ·intro h4;rw[(hmem h4).2]
  simp(disch:=omega)only[go_sem,ed]
  exact⟨k,rfl,pk,hmem,F.trans f3⟩
 ·have e1:=fF hk
  have ed:decide (x∈l)=false:=decide_eq_false λh4=>by have:=(hmem h4).1;omega
  simp(disch:=omega)only[go_sem,lv,e1]
  exact⟨k,by rw[ed],pk,hmem,F⟩
theorem Sc (vl vx:V)(n:Nat)(l:LN)(x:List Nat)(h:H)(hn:n<1000)(hl:l.length<1000000)(hP: ∀g∈l,bY n g)(X:bY n x)(asc:l.Pairwise Lt)(hv:SP h vl l)(hx:SI h vx (zi x)):
  Ev T 39 [vl,vx] h (λv h'=>((∃k:Nat,v= aB k/\k<l.length/\l.getD k []=x)∨x∉l/\v= aB (-1))/\Fr h h'):=by
 refine bP yF rfl rfl ?_
 simp(disch:=omega)only[go_sem,yF,aE]
 refine (JC vl vx n l x h hn hl hP X asc hv hx).mono ?_
 rintro _ h2 ⟨k,rfl,pk,hm,F⟩
 by_cases hx2:x∈l
 ·have e1:decide (x∈l)=true:=decide_eq_true hx2
  simp(disch:=omega)only[go_sem,e1]
  exact⟨.inl ⟨k,rfl,hm hx2⟩,F⟩
 ·have e1:decide (x∈l)=false:=decide_eq_false hx2
  simp(disch:=omega)only[go_sem,e1]
  exact⟨.inr ⟨hx2,trivial⟩,F⟩
theorem Dq {g:Nat}(hgt:T g=some iE)(u w:V)(a b:List (List Int))(h:H)(hu:SR h u a)(hw:SR h w b)(la:a.length<1000000)(lb:b.length<1000000)(ra: ∀x∈a,x.length<1000000)(rb: ∀x∈b,x.length<1000000):
  Ev T g [u,w] h (λv h'=>v= .bool (decide (a=b))/\Fr h h'):=by
 refine Gg hgt rfl ?_
 have lu:=hu.lens
 have lw:=hw.lens
 obtain⟨wa,sa,aa⟩:=hu
 obtain⟨wb,sb,ab⟩:=hw
 have hwa:=aZ.length aa
 have hwb:=aZ.length ab
 obtain⟨id,off,sh,hid,hc⟩:=SV.shape sa a.length (by omega) (by omega)
 obtain⟨id2,off2,sh2,hid2,hc2⟩:=SV.shape sb b.length (by omega) (by omega)
 by_cases hl:(a.length:Int)=(b.length:Int)
 case neg=>
  have d1:decide ((a.length:Int)≠(b.length:Int))=true:=decide_eq_true hl;simp(disch:=omega)only[go_sem,iE,aE,lu,lw,d1];exact⟨by rw[decide_eq_false];intro e;exact hl (by rw[e]),Fr.refl h⟩
 have hl':a.length=b.length:=by omega
 have d1:decide ((a.length:Int)≠(b.length:Int))=false:=decide_eq_false (by simpa using hl)
 simp(disch:=omega)only[go_sem,iE,aE,lu,lw,d1]
 refine aG (λk' vars hh=> ∃(i:Nat),(∃g:Nat->V,vars= [u,w,g 2,aB i,g 4,g 5,g 6])/\i<=a.length/\(∀j,j<i->a.getD j []=b.getD j [])/\Fr h hh/\k'=a.length-i) a.length
  ⟨0,aA rfl,iP _,λj hj=>by omega,Fr.refl h,rfl⟩ ?_
 rintro k' vars hh ⟨i,⟨g,rfl⟩,hi,hs,F,rfl⟩
 by_cases hlt:(i:Int)<(a.length:Int)
 case neg=>
  have e1:=fF hlt;obtain rfl:i=a.length:=by omega
  simp(disch:=omega)only[go_sem,lu,e1]
  have:a=b:=by
   refine List.ext_getElem hl' λj h1 h2=>?_
   have:=hs j h1;rwa [List.getD,fX h1,List.getD,fX h2] at this
  exact⟨by rw[decide_eq_true this],F⟩
 have e1:=iK hlt
 have c1:hh.cell id (off+i)=some (wa.getD i .undef):=by
  rw[F.cell (hid (by omega)),hc i (by omega)];simp [List.getD,show i<wa.length by omega]
 have c2:hh.cell id2 (off2+i)=some (wb.getD i .undef):=by
  rw[F.cell (hid2 (by omega)),hc2 i (by omega)];simp [List.getD,show i<wb.length by omega]
 have s1:=Ow aa (i:=i) (by omega)
 have s2:=Ow ab (i:=i) (by omega)
 generalize wa.getD i .undef=va at c1 s1
 generalize wb.getD i .undef=vb at c2 s2
 have ev1:=s1.eG
 have ev2:=s2.eG
 simp(disch:=omega)only[go_sem,lu,e1,sh.ixa,c1,sh2.ixa,c2]
 refine (xH va vb _ _ _ (s1.mono (F.trans ((Fr.refl hh).bF (by omega)))) (s2.mono (F.trans ((Fr.refl hh).bF (by omega)))) (ra _ (bD (by omega))) (rb _ (bD (by omega)))).mono ?_
 rintro _ h3 ⟨rfl,f3⟩
 have F3:=F.trans (((Fr.refl hh).bF (by omega)).trans f3)
 have c1':h3.cell id (off+i)=some va:=by
  have h4:Fr hh h3:=((Fr.refl hh).bF (by omega)).trans f3;rw[h4.cell (by have:=hid (by omega);have:=F.next;omega)];exact c1
 have c2':h3.cell id2 (off2+i)=some vb:=by
  have h4:Fr hh h3:=((Fr.refl hh).bF (by omega)).trans f3;rw[h4.cell (by have:=hid2 (by omega);have:=F.next;omega)];exact c2
 by_cases he:a.getD i []=b.getD i []
 ·have d2:decide (a.getD i []=b.getD i [])=true:=decide_eq_true he
  simp(disch:=omega)only[go_sem,d2,c1',c2',ev1,ev2]
  rw[fJ i]
  refine⟨a.length-(i+1),by omega,i+1,aA rfl,by omega,λj hj=>?_,F3,rfl⟩
  by_cases e:j=i
  ·rw[e];exact he
  ·exact hs j (by omega)
 ·have d2:decide (a.getD i []=b.getD i [])=false:=decide_eq_false he
  simp(disch:=omega)only[go_sem,d2,c1',c2',ev1,ev2]
  exact⟨by rw[decide_eq_false];intro e;exact he (by rw[e]),F3⟩
theorem Py (u w:V)(a b:List (List Int))(h:H)(hu:SR h u a)(hw:SR h w b)(la:a.length<1000000)(lb:b.length<1000000)(ra: ∀x∈a,x.length<1000000)(rb: ∀x∈b,x.length<1000000):
  Ev T 34 [u,w] h (λv h'=>v= .bool (decide (a=b))/\Fr h h'):=Dq (rfl:T 34=some iE) u w a b h hu hw la lb ra rb
theorem Po (u w:V)(a b:List (List Int))(h:H)(hu:SR h u a)(hw:SR h w b)(la:a.length<1000000)(lb:b.length<1000000)(ra: ∀x∈a,x.length<1000000)(rb: ∀x∈b,x.length<1000000):
  Ev T 32 [u,w] h (λv h'=>v= .bool (decide (a=b))/\Fr h h'):=Dq (rfl:T 32=some xQ) u w a b h hu hw la lb ra rb
theorem Pz (v1 v2:V)(d1 d2:Int)(O1 O2:List (List Int))(R1 R2:List (List (List Int)))(h:H)(c1:Ei h v1 d1 O1 R1)(c2:Ei h v2 d2 O2 R2)(so1:kN O1)(so2:kN O2)(sr1:kS R1)(sr2:kS R2):
  Ev T 31 [v1,v2] h (λv h'=>v= .bool (decide (d1=d2/\O1=O2/\R1=R2))/\Fr h h'):=by
 obtain⟨vO,vR,e,sO,sR⟩:=c1
 subst e
 obtain⟨uO,uR,e,tO,tR⟩:=c2
 subst e
 refine bP oB rfl rfl ?_
 have oneO:vO.one=true:=Gy sO
 have oneR:vR.one=true:=Gm sR
 have oneO':uO.one=true:=by obtain⟨_,t,_⟩:=tO;exact t.dS.2.1
 have oneR':uR.one=true:=by obtain⟨_,t,_⟩:=tR;exact t.dS.2.1
 have eqR:eG vR vR=true:=by obtain⟨_,t,_⟩:=sR;exact t.eG
 have eqR':eG uR uR=true:=by obtain⟨_,t,_⟩:=tR;exact t.eG
 obtain⟨A,hA⟩:=exI h.next
 obtain⟨h1,e1,n1,g1,o1,f1⟩:=fR hA [aB d1,vO,vR]
 obtain⟨h2,e2,n2,g2,o2,f2⟩:=fR n1 [aB d2,uO,uR]
 have bx:=λhh:H=>bM hh (v:= aB d1) (u:=vO) (w:=vR) rfl oneO oneR
 have bx2:=λhh:H=>bM hh (v:= aB d2) (u:=uO) (w:=uR) rfl oneO' oneR'
 have F2:=f1.trans f2
 have gA:h2.get A=bX [aB d1,vO,vR]:=by rw[o2 _ (by omega)];exact g1
 have a0: ∀hh,Fr h2 hh->hh.cell A 0=some (aB d1):=λhh f=>by rw[f.cell (by omega),H.aF gA];rfl
 have a1: ∀hh,Fr h2 hh->hh.cell A 1=some vO:=λhh f=>by rw[f.cell (by omega),H.aF gA];rfl
 have a2: ∀hh,Fr h2 hh->hh.cell A 2=some vR:=λhh f=>by rw[f.cell (by omega),H.aF gA];rfl
 have b0: ∀hh,Fr h2 hh->hh.cell (A+1) 0=some (aB d2):=λhh f=>by rw[f.cell (by omega),H.aF g2];rfl
 have b1: ∀hh,Fr h2 hh->hh.cell (A+1) 1=some uO:=λhh f=>by rw[f.cell (by omega),H.aF g2];rfl
 have b2: ∀hh,Fr h2 hh->hh.cell (A+1) 2=some uR:=λhh f=>by rw[f.cell (by omega),H.aF g2];rfl
 have r2:=Fr.refl h2
 by_cases hd:d1=d2
 case neg=>
  have e3:decide (d1≠d2)=true:=decide_eq_true hd;simp(disch:=omega)only[go_sem,oB,aE,bx,bx2,hA,e1,n1,e2,a0 h2 r2,b0 h2 r2,e3,yX];exact⟨by rw[decide_eq_false];exact λx=>hd x.1,F2⟩
 have e3:decide (d1≠d2)=false:=decide_eq_false (by simpa using hd)
 simp(disch:=omega)only[go_sem,oB,aE,bx,bx2,hA,e1,n1,e2,a0 h2 r2,b0 h2 r2,a1 h2 r2,b1 h2 r2,e3]
 have mem: ∀{l:List (List Int)},(∀i,i<l.length->(l.getD i []).length<1000000)-> ∀x∈l,x.length<1000000:=λhl x hx=>by
  obtain⟨i,hi,rfl⟩:=Gk.1 hx;have:=hl i hi;rwa [List.getD,fX hi] at this
 refine (Py vO uO O1 O2 h2 (sO.mono F2) (tO.mono F2) so1.1 so2.1 (mem so1.2) (mem so2.2)).mono ?_
 rintro _ h3 ⟨rfl,f3⟩
 obtain⟨wR,svR,aR,_⟩:=sR
 obtain⟨zR,svR',aR',_⟩:=tR
 have hR1l:=sr1.1
 have hR2l:=sr2.1
 have lwR:=aZ.length aR
 have lzR:=aZ.length aR'
 have lR1:dC vR=some (aB (R1.length:Int)):=by unfold dC;rw[SV.len svR (n:=R1.length) (by omega) (by omega)];rfl
 have lR2:dC uR=some (aB (R2.length:Int)):=by unfold dC;rw[SV.len svR' (n:=R2.length) (by omega) (by omega)];rfl
 have F3:=F2.trans f3
 by_cases hO:O1=O2
 case neg=>
  have e4:decide (O1=O2)=false:=decide_eq_false hO;simp(disch:=omega)only[go_sem,e4,yX];exact⟨by rw[decide_eq_false];exact λx=>hO x.2.1,F3⟩
 have e4:decide (O1=O2)=true:=decide_eq_true hO
 by_cases hl:(R1.length:Int)=(R2.length:Int)
 case neg=>
  have e5:decide ((R1.length:Int)≠(R2.length:Int))=true:=decide_eq_true hl;simp(disch:=omega)only[go_sem,e4,a2 h3 f3,b2 h3 f3,lR1,lR2,e5];exact⟨by rw[decide_eq_false];exact λx=>hl (by rw[x.2.2]),F3⟩
 have e5:decide ((R1.length:Int)≠(R2.length:Int))=false:=decide_eq_false (by simpa using hl)
 have hl':R1.length=R2.length:=by omega
 obtain⟨id,off,sh,hid,hc⟩:=SV.shape svR R1.length (by omega) (by omega)
 obtain⟨id2,off2,sh2,hid2,hc2⟩:=SV.shape svR' R2.length (by omega) (by omega)
 simp(disch:=omega)only[go_sem,e4,a2 h3 f3,b2 h3 f3,lR1,lR2,e5]
 refine aG (λk' vars hh=> ∃(i:Nat),(∃g:Nat->V,vars= [g 0,g 1,.ptr A 0,.ptr (A+1) 0,g 4,aB i,g 6,g 7,g 8])/\i<=R1.length/\(∀j,j<i->R1.getD j []=R2.getD j [])/\Fr h3 hh/\k'=R1.length-i) R1.length
  ⟨0,aA rfl,iP _,λj hj=>by omega,Fr.refl h3,rfl⟩ ?_
 rintro k' vars hh ⟨i,⟨g,rfl⟩,hi,hs,F,rfl⟩
 have F2h:=f3.trans F
 by_cases hlt:(i:Int)<(R1.length:Int)
 case neg=>
  have e1:=fF hlt;obtain rfl:i=R1.length:=by omega
  simp(disch:=omega)only[go_sem,a2 hh F2h,lR1,e1]
  have:R1=R2:=by
   refine List.ext_getElem hl' λj h1 h2=>?_
   have:=hs j h1;rwa [List.getD,fX h1,List.getD,fX h2] at this
  exact⟨by rw[decide_eq_true ⟨hd,hO,this⟩],F3.trans F⟩
 have e1:=iK hlt
 have hi2:i<R1.length:=by omega
 have cc1: ∀hx,Fr h hx->hx.cell id (off+i)=some (wR.getD i .undef):=λhx f=>by
  rw[f.cell (hid (by omega)),hc i (by omega)];simp [List.getD,show i<wR.length by omega]
 have cc2: ∀hx,Fr h hx->hx.cell id2 (off2+i)=some (zR.getD i .undef):=λhx f=>by
  rw[f.cell (hid2 (by omega)),hc2 i (by omega)];simp [List.getD,show i<zR.length by omega]
 have gg: ∀{ws:List V} {R:List (List (List Int))},aZ (SR h) ws R->i<R.length->SR h (ws.getD i .undef) (R.getD i []):=λ{ws R} al hiR=>by
  have h1:=aZ.length al;have:=aZ.get al i (by omega) hiR;rw[List.getD,List.getD,fX (by omega),fX hiR];exact this
 have s1:=gg aR hi2
 have s2:=gg aR' (by omega)
 generalize wR.getD i .undef=va at cc1 s1
 generalize zR.getD i .undef=vb at cc2 s2
 have ev1:eG va va=true:=by obtain⟨_,t,_⟩:=s1;exact t.eG
 have ev2:eG vb vb=true:=by obtain⟨_,t,_⟩:=s2;exact t.eG
 have Fh:=F3.trans F
 simp(disch:=omega)only[go_sem,a2 hh F2h,b2 hh F2h,lR1,e1,sh.ixa,sh2.ixa,cc1 hh Fh,cc2 hh Fh]
 refine (Po va vb _ _ _ (s1.mono (Fh.trans ((Fr.refl hh).bF (by omega)))) (s2.mono (Fh.trans ((Fr.refl hh).bF (by omega)))) (sr1.2 i hi2).1 (sr2.2 i (by omega)).1 (mem (sr1.2 i hi2).2) (mem (sr2.2 i (by omega)).2)).mono ?_
 rintro _ h4 ⟨rfl,f4'⟩
 have f4:Fr hh h4:=((Fr.refl hh).bF (by omega)).trans f4'
 have F24:=F2h.trans f4
 have Fh4:=Fh.trans f4
 by_cases he:R1.getD i []=R2.getD i []
 ·have d2':decide (R1.getD i []=R2.getD i [])=true:=decide_eq_true he
  simp(disch:=omega)only[go_sem,d2',a2 h4 F24,b2 h4 F24,cc1 h4 Fh4,cc2 h4 Fh4,ev1,ev2,eqR,eqR']
  rw[fJ i]
  refine⟨R1.length-(i+1),by omega,i+1,aA rfl,by omega,λj hj=>?_,F.trans f4,rfl⟩
  by_cases e:j=i
  ·rw[e];exact he
  ·exact hs j (by omega)
 ·have d2':decide (R1.getD i []=R2.getD i [])=false:=decide_eq_false he
  simp(disch:=omega)only[go_sem,d2',a2 h4 F24,b2 h4 F24,cc1 h4 Fh4,cc2 h4 Fh4,ev1,ev2,eqR,eqR']
  exact⟨by rw[decide_eq_false];exact λx=>he (by rw[x.2.2]),Fh4⟩
set_option maxRecDepth 100000
theorem Xf {W:Nat->Prop}(vc:V)(n:Nat)(O:LN)(R:oJ)(G:List Nat->Prop)(h:H)(gc:GC W h vc n O R G):
  Ev T 81 [vc] h (λv h'=>SP h' v R.flatten/\Fr h h'):=by
 obtain⟨vO,vR,e,sO,sR⟩:=gc.ch
 subst e
 refine bP wE rfl rfl ?_
 have oneO:vO.one=true:=Gy sO
 have oneR:vR.one=true:=Gm sR
 obtain⟨wR,svR,aR,_⟩:=sR
 have n7:=gc.n7
 have lR:=gc.isc.lr
 have lw:=aZ.length aR
 rw[lW,lR] at lw
 obtain⟨A,hA⟩:=exI h.next
 obtain⟨h1,e1,n1,g1,o1,f1⟩:=fR hA [aB n,vO,vR]
 have bx:=bM h (v:= aB n) (u:=vO) (w:=vR) rfl oneO oneR
 have lvR:dC vR=some (aB n):=by unfold dC;rw[SV.len svR (n:=n) (by omega) (by omega)];rfl
 obtain⟨id,off,sh,hid,hc⟩:=SV.shape svR n (by omega) (by omega)
 have a2: ∀hh,Fr h1 hh->hh.cell A 2=some vR:=λhh f=>by rw[f.cell (by omega),H.aF g1];rfl
 have rl: ∀i,i<n->(R.getD i []).length<=n/\0<(R.getD i []).length:=λi hi=>by
  refine⟨?_,(Ly gc.mI gc.isc hi).1⟩;rw[gc.isc.rl i hi];have:=wV (λx hx=>gc.mI.fA hx) hi (gc.isc.asc i hi) (gc.isc.mem i hi);omega
 have fl: ∀i,i<=n->((R.take i).flatten).length<=i*n:=λi hi=>by
  induction i with
  |zero=>simp
  |succ i ih=>
   have h1:=(rl i (by omega)).1;rw[dL [] (by omega),List.flatten_append,pW,Nat.succ_mul];have:=ih (by omega);simp only[List.flatten_cons,List.flatten_nil,List.append_nil];omega
 simp(disch:=omega)only[go_sem,wE,aE,bx,hA,e1]
 refine aG (λk' vars hh=> ∃(i:Nat) (v3:V) (acc:List V),(∃g:Nat->V,vars= [g 0,.ptr A 0,g 2,v3,aB i,g 5])/\i<=n/\dG hh v3 1 acc h1.next/\aZ (SI h) acc (((R.take i).flatten).map zi)/\Fr h1 hh/\k'=n-i) n
  ⟨0,.aC, [],aA rfl,iP _,dG.aC _ _ _,trivial,Fr.refl h1,rfl⟩ ?_
 rintro k' vars hh ⟨i,v3,acc,⟨g,rfl⟩,hi,ow,aa,F,rfl⟩
 by_cases hlt:(i:Int)<(n:Int)
 case neg=>
  have d1:=fF hlt;obtain rfl:i=n:=by omega
  simp(disch:=omega)only[go_sem,a2 hh F,lvR,d1];rw[List.take_of_length_le (by omega)] at aa;exact⟨⟨acc,ow.sv,aa.mono λ_ _ s=>s.mono (f1.trans F)⟩,f1.trans F⟩
 have d1:=iK hlt
 have hi2:i<n:=by omega
 have cc:hh.cell id (off+i)=some (wR.getD i .undef):=by
  rw[(f1.trans F).cell (hid (by omega)),hc i (by omega)];simp [List.getD,show i<wR.length by omega]
 have sr:SR h (wR.getD i .undef) ((R.getD i []).map zi):=by
  have h2:=aZ.get aR i (by omega) (by rw[lW];omega);rw[List.getElem_map] at h2;rw[List.getD,List.getD,fX (by omega),fX (by omega)];exact h2
 generalize wR.getD i .undef=va at cc sr
 obtain⟨wi,si,ai⟩:=sr
 have lwi:=aZ.length ai
 rw[lW] at lwi
 have hr:=rl i hi2
 have hac:=aZ.length aa
 rw[lW] at hac
 have hfl:=fl i (by omega)
 have hnn:i*n<=7*7:=Nat.mul_le_mul (by omega) n7
 have Fh:=f1.trans F
 obtain⟨hd,ad,pd⟩:=ow.push (bytes:=24) (si.mono Fh) (n:=acc.length) (m:=(R.getD i []).length) (by omega) (by omega) (by omega) hr.2 (by omega)
 simp(disch:=omega)only[go_sem,a2 hh F,lvR,d1,sh.ixa,cc,ad]
 rw[fJ i]
 have nF:=F.next
 have nd:=pd.next
 refine⟨n-(i+1),by omega,i+1,_,acc++wi,aA rfl,by omega,pd.own (by omega) (by omega) (by omega),?_,⟨by omega,λq hq=>?_⟩,rfl⟩
 ·rw[dL [] (by omega),List.flatten_append,List.map_append]
  simp only[List.flatten_cons,List.flatten_nil,List.append_nil]
  exact aZ.append aa ai
 ·rw[pd.old q (by omega) (λid off n' c e e2=>by have:=(ow.in _ _ _ _ e).2.1;omega)]
  exact F.get q hq
theorem QI (a b:Nat)(h:H)(ha:a<1000000)(hb:b<1000000):Ev T 113 [aB a,aB b] h (λv h'=>v= aB (Nat.gcd a b:Nat)/\Fr h h'):=by
 refine bP yU rfl rfl ?_;simp(disch:=omega)only[go_sem,yU,aE];refine aG (λk' vars hh=> ∃(x y:Nat),(∃g:Nat->V,vars= [aB x,aB y,g 2,g 3])/\x<1000000/\y<1000000/\Nat.gcd x y=Nat.gcd a b/\Fr h hh/\k'=y) b
  ⟨a,b,aA rfl,ha,hb,rfl,Fr.refl h,rfl⟩ ?_
 rintro k' vars hh ⟨x,y,⟨g,rfl⟩,hx,hy,hg,F,hk⟩;subst hk
 by_cases hz:(k':Int)=0
 ·have d1:decide ((k':Int)≠0)=false:=decide_eq_false (by simpa using hz)
  obtain rfl:k'=0:=by omega
  simp(disch:=omega)only[go_sem,d1];rw[←hg,Nat.gcd_zero_right];exact⟨rfl,F⟩
 ·have d1:decide ((k':Int)≠0)=true:=decide_eq_true hz
  have hm:(x:Int).tmod (k':Int)=((x%k':Nat):Int):=Ie x k';have hml:=Nat.mod_lt x (show k'>0 by omega);simp(disch:=omega)only[go_sem,d1,hz,hm];exact⟨x%k',hml,k',x%k',aA rfl,hy,by omega,by rw[Nat.gcd_comm,←Nat.gcd_rec,Nat.gcd_comm];exact hg,F.bF (by omega),rfl⟩
structure EV (h:H)(a:Cls.KE)(t:List Int×Nat×Nat):Prop where
 rep:SI h a.rep t.1
 ord:a.ord=t.2.1
 size:a.size=t.2.2
theorem yL {ks:List Cls.KE}{i:Nat}(hi:i<ks.length):(eV ks)[i*3]? =some ks[i].rep/\(eV ks)[i*3+1]? =some (aB (ks[i].ord:Int))/\(eV ks)[i*3+2]? =some (aB (ks[i].size:Int)):=by
 induction ks generalizing i with
 |nil=>simp at hi
 |cons a r ih=>
  have e:eV (a::r)= [a.rep,aB (a.ord:Int),aB (a.size:Int)]++eV r:=rfl
  cases i with
  |zero=>exact⟨rfl,rfl,rfl⟩
  |succ i=>
   have h1:=ih (i:=i) (by simpa using hi);rw[e,show (i+1)*3=i*3+3 by omega];refine⟨?_,?_,?_⟩
   ·rw[List.getElem?_append_right (by simp)];exact h1.1
   ·rw[List.getElem?_append_right (by simp)];exact h1.2.1
   ·rw[List.getElem?_append_right (by simp)];exact h1.2.2
theorem Kw (u w:V)(k1 k2:List Cls.KE)(t1 t2:List (List Int×Nat×Nat))(h:H)(hu:SV h u 3 (eV k1))(hw:SV h w 3 (eV k2))(a1:aZ (EV h) k1 t1)(a2:aZ (EV h) k2 t2)(l1:k1.length<1000000)(l2:k2.length<1000000)(r1: ∀t∈t1,t.1.length<1000000)(r2: ∀t∈t2,t.1.length<1000000):
  Ev T 26 [u,w] h (λv h'=>v= .bool (decide (t1=t2))/\Fr h h'):=by
 refine bP jU rfl rfl ?_
 have m1:=aZ.length a1
 have m2:=aZ.length a2
 have lu:dC u=some (aB (k1.length:Int)):=by unfold dC;rw[SV.len hu (n:=k1.length) (gX k1) (by omega)];rfl
 have lw:dC w=some (aB (k2.length:Int)):=by unfold dC;rw[SV.len hw (n:=k2.length) (gX k2) (by omega)];rfl
 obtain⟨id,off,sh,hid,hc⟩:=SV.shape hu k1.length (gX k1) (by omega)
 obtain⟨id2,off2,sh2,hid2,hc2⟩:=SV.shape hw k2.length (gX k2) (by omega)
 rw[gX] at hc hc2
 by_cases hl:(k1.length:Int)=(k2.length:Int)
 case neg=>
  have d1:decide ((k1.length:Int)≠(k2.length:Int))=true:=decide_eq_true hl;simp(disch:=omega)only[go_sem,jU,aE,lu,lw,d1];exact⟨by rw[decide_eq_false];intro e;exact hl (by rw[m1,m2,e]),Fr.refl h⟩
 have hl':k1.length=k2.length:=by omega
 have d1:decide ((k1.length:Int)≠(k2.length:Int))=false:=decide_eq_false (by simpa using hl)
 simp(disch:=omega)only[go_sem,jU,aE,lu,lw,d1]
 refine aG (λk' vars hh=> ∃(i:Nat),(∃g:Nat->V,vars= [u,w,g 2,aB i,g 4,g 5,g 6])/\i<=k1.length/\(∀j (h1:j<t1.length) (h2:j<t2.length),j<i->t1[j]=t2[j])/\Fr h hh/\k'=k1.length-i) k1.length
  ⟨0,aA rfl,iP _,λj _ _ hj=>by omega,Fr.refl h,rfl⟩ ?_
 rintro k' vars hh ⟨i,⟨g,rfl⟩,hi,hs,F,rfl⟩
 by_cases hlt:(i:Int)<(k1.length:Int)
 case neg=>
  have e1:=fF hlt;obtain rfl:i=k1.length:=by omega
  simp(disch:=omega)only[go_sem,lu,e1];have:t1=t2:=List.ext_getElem (by omega) λj h1 h2=>hs j h1 h2 (by omega)
  exact⟨by rw[decide_eq_true this],F⟩
 have e1:=iK hlt
 have hi1:i<k1.length:=by omega
 have hi2:i<k2.length:=by omega
 have s1:=aZ.get a1 i hi1 (by omega)
 have s2:=aZ.get a2 i hi2 (by omega)
 obtain⟨p1,p2,p3⟩:=yL hi1
 obtain⟨q1,q2,q3⟩:=yL hi2
 have cu: ∀hx,Fr h hx->hx.cell id (off+i*3)=some k1[i].rep/\hx.cell id (off+i*3+1)=some (aB (k1[i].ord:Int))/\hx.cell id (off+i*3+2)=some (aB (k1[i].size:Int)):=λhx f=>by
  refine⟨?_,?_,?_⟩
  ·rw[f.cell (hid (by omega)),hc _ (by omega),p1]
  ·rw[f.cell (hid (by omega)),Nat.add_assoc,hc _ (by omega),p2]
  ·rw[f.cell (hid (by omega)),Nat.add_assoc,hc _ (by omega),p3]
 have cw: ∀hx,Fr h hx->hx.cell id2 (off2+i*3)=some k2[i].rep/\hx.cell id2 (off2+i*3+1)=some (aB (k2[i].ord:Int))/\hx.cell id2 (off2+i*3+2)=some (aB (k2[i].size:Int)):=λhx f=>by
  refine⟨?_,?_,?_⟩
  ·rw[f.cell (hid2 (by omega)),hc2 _ (by omega),q1]
  ·rw[f.cell (hid2 (by omega)),Nat.add_assoc,hc2 _ (by omega),q2]
  ·rw[f.cell (hid2 (by omega)),Nat.add_assoc,hc2 _ (by omega),q3]
 have x1:=cu hh F
 have x2:=cw hh F
 by_cases ho:(k1[i].ord:Int)=(k2[i].ord:Int)
 case neg=>
  have d2:decide ((k1[i].ord:Int)≠(k2[i].ord:Int))=true:=decide_eq_true ho;simp(disch:=omega)only[go_sem,lu,e1,sh.ixa,sh2.ixa,x1.1,x1.2.1,x1.2.2,x2.1,x2.2.1,x2.2.2,d2,yX];have fb:Fr hh (H.mk hh.tr (hh.next+38)):=(Fr.refl hh).bF (by omega);exact⟨by rw[decide_eq_false];intro e;subst e;exact ho (by rw[s1.ord,s2.ord]),F.trans fb⟩
 have d2:decide ((k1[i].ord:Int)≠(k2[i].ord:Int))=false:=decide_eq_false (by simpa using ho)
 by_cases hz:(k1[i].size:Int)=(k2[i].size:Int)
 case neg=>
  have d3:decide ((k1[i].size:Int)≠(k2[i].size:Int))=true:=decide_eq_true hz;simp(disch:=omega)only[go_sem,lu,e1,sh.ixa,sh2.ixa,x1.1,x1.2.1,x1.2.2,x2.1,x2.2.1,x2.2.2,d2,d3,yX];have fb:Fr hh (H.mk hh.tr (hh.next+38)):=(Fr.refl hh).bF (by omega);exact⟨by rw[decide_eq_false];intro e;subst e;exact hz (by rw[s1.size,s2.size]),F.trans fb⟩
 have d3:decide ((k1[i].size:Int)≠(k2[i].size:Int))=false:=decide_eq_false (by simpa using hz)
 simp(disch:=omega)only[go_sem,lu,e1,sh.ixa,sh2.ixa,x1.1,x1.2.1,x1.2.2,x2.1,x2.2.1,x2.2.2,d2,d3,yX]
 refine (xH _ _ _ _ _ (s1.rep.mono (F.trans ((Fr.refl hh).bF (by omega)))) (s2.rep.mono (F.trans ((Fr.refl hh).bF (by omega)))) (r1 _ (List.getElem_mem _)) (r2 _ (List.getElem_mem _))).mono ?_
 rintro _ h3 ⟨rfl,f3⟩
 have F3:=F.trans (((Fr.refl hh).bF (by omega)).trans f3)
 have y1:=cu h3 F3
 have y2:=cw h3 F3
 have ev1:=s1.rep.eG
 have ev2:=s2.rep.eG
 by_cases he:t1[i].1=t2[i].1
 ·have d4:decide (t1[i].1=t2[i].1)=true:=decide_eq_true he
  simp(disch:=omega)only[go_sem,d4,y1.1,y1.2.1,y1.2.2,y2.1,y2.2.1,y2.2.2,ev1,ev2]
  rw[fJ i]
  refine⟨k1.length-(i+1),by omega,i+1,aA rfl,by omega,λj h1 h2 hj=>?_,F3,rfl⟩
  by_cases e:j=i
  ·subst e
   refine Prod.ext he (Prod.ext ?_ ?_)
   ·rw[←s1.ord,←s2.ord];omega
   ·rw[←s1.size,←s2.size];omega
  ·exact hs j h1 h2 (by omega)
 ·have d4:decide (t1[i].1=t2[i].1)=false:=decide_eq_false he
  simp(disch:=omega)only[go_sem,d4,y1.1,y1.2.1,y1.2.2,y2.1,y2.2.1,y2.2.2,ev1,ev2]
  exact⟨by rw[decide_eq_false];intro e;subst e;exact he rfl,F3⟩
end Go.Proofs.YtddpkbicnolafaaGreat
namespace Go.Pm
set_option maxRecDepth 100000
section
variable {n:Nat} {t:rJ}
theorem oV.gt (T:oV n t){i p:Nat}{y:List Nat}(h:t i p=some y):i<p:=by
 have Y:=T.fA _ _ _ h;have F:=T.fix _ _ _ h;obtain⟨h1,h2,h3⟩:=T.lt _ _ _ h;have m:=T.maps _ _ _ h;rcases Nat.lt_or_ge p i with h4|h4
 ·exact absurd (Y.inj h1 h2 (m.trans (F p h4).symm)) (by omega)
 ·omega
def eR (t:rJ)(i p:Nat):xY:=(List.range p).filterMap (t i)
def eB (n:Nat)(t:rJ)(i:Nat):xY:=(List.range i).flatMap λi=>eR t i n
theorem Zk (i p:Nat):eR t i (p+1)=eR t i p++(t i p).toList:=by
 unfold eR;rw[List.range_succ,List.filterMap_append];cases h:t i p<;>simp [h]
theorem Zc (i:Nat):eB n t (i+1)=eB n t i++eR t i n:=by
 unfold eB;rw[List.range_succ,List.flatMap_append];simp
theorem Oq:eB n t n=fK n t 0:=by
 unfold eB fK eR;simp
theorem wF (T:oV n t):(fK n t 0).Nodup:=by
 have key: ∀i p i' p' y,t i p=some y->t i' p'=some y->i=i'/\p=p':=λi p i' p' y h1 h2=>by
  have g1:=T.gt h1;have g2:=T.gt h2;have f1:=T.fix _ _ _ h1;have f2:=T.fix _ _ _ h2;have m1:=T.maps _ _ _ h1;have m2:=T.maps _ _ _ h2
  have e:i=i':=by
   rcases Nat.lt_trichotomy i i' with h|h|h
   ·have:=f2 i h;omega
   ·exact h
   ·have:=f1 i' h;omega
  subst e;exact⟨rfl,m1.symm.trans m2⟩
 rw[←Oq];unfold eB;rw[List.Nodup,List.pairwise_flatMap];refine⟨λi _=>?_,?_⟩
 ·unfold eR
  rw[List.pairwise_filterMap];refine (List.nodup_range (n:=n)).imp ?_;intro p p' hne y hy y' hy' e;subst e;exact hne (key _ _ _ _ _ hy hy').2
 ·refine (List.nodup_range (n:=n)).imp ?_
  intro i i' hne y hy y' hy' e;subst e;obtain⟨p,_,h1⟩:=List.mem_filterMap.1 hy;obtain⟨p',_,h2⟩:=List.mem_filterMap.1 hy';exact hne (key _ _ _ _ _ h1 h2).1
def XK (n:Nat)(t:rJ)(l:xY):xY:=(fK n t 0).filter λy=>decide (y∉l)
def VX (n:Nat)(t:rJ)(x:List Nat)(l:xY):xY:=if (fK n t 0).length<(fK n (jL t n x) 0).length then l++XK n (jL t n x) l else l
structure Ah (n:Nat)(L:List Nat->Prop)(t:rJ)(l:xY):Prop where
 tl:Ia n L t
 nd:l.Nodup
 mem: ∀y,y∈l↔y∈fK n t 0
variable {L:List Nat->Prop} {l:xY}
theorem Ah.fA (c:Ah n L t l): ∀y∈l,bY n y:=λy hy=>c.tl.Ai.FJ y ((c.mem y).1 hy)
theorem Ah.bound (c:Ah n L t l):l.length<=n^n:=Ji c.nd c.fA
theorem Ah.start (c:Ia n L t):Ah n L t (fK n t 0):=⟨c,wF c.Ai,λ_=>Iff.rfl⟩
theorem Sb {t':rJ}(s:Sub t t'): ∀y,y∈fK n t 0->y∈fK n t' 0:=λy hy=>by
 obtain⟨i,p,h1,h2,h3,h4⟩:=fW.1 hy;exact fW.2 ⟨i,p,h1,h2,h3,s _ _ _ h4⟩
theorem Ah.step (c:Ah n L t l)(hL: ∀g,L g->bY n g){x:List Nat}(hx:gO n L x):
  Ah n L (jL t n x) (VX n t x l)/\Sub t (jL t n x)/\ins (jL t n x) n 0 x=none/\ ∃m,VX n t x l=l++m:=by
 obtain⟨a1,a2,a3⟩:=c.tl.ins hL hx
 have nd':=wF a1.Ai
 refine⟨?_,a2,a3,?_⟩
 ·cases h:ins t n 0 x with
  |none=>
   have e:jL t n x=t:=by unfold jL;rw[h]
   unfold VX;rw[e,if_neg (Nat.lt_irrefl _)];exact c
  |some q=>
   obtain⟨i,r⟩:=q;have e:jL t n x=put t i (r.getD i 0) r:=by unfold jL;rw[h]
   obtain⟨b1,b2,b3,b4,b5,b6,_⟩:=yW c.tl.Ai n 0 x i r (by omega) (hx.fA hL) (λk hk=>by omega) h;have hr:r∈fK n (jL t n x) 0:=fW.2 ⟨i,r.getD i 0,Nat.zero_le _,b2,b3.fU b2,by rw[e];unfold put;rw[if_pos ⟨rfl,rfl⟩]⟩
   have hr2:r∉fK n t 0:=λh=>by
    obtain⟨j,q,_,_,_,h4⟩:=fW.1 h;have h5:=a2 _ _ _ h4;have g1:=a1.Ai.gt h5;have f1:=a1.Ai.fix _ _ _ h5;have m1:=a1.Ai.maps _ _ _ h5;have h6:jL t n x i (r.getD i 0)=some r:=by rw[e];unfold put;rw[if_pos ⟨rfl,rfl⟩]
    have g2:=a1.Ai.gt h6
    have eij:i=j:=by
     rcases Nat.lt_trichotomy i j with h|h|h
     ·have:=f1 i h;omega
     ·exact h
     ·have:=b4 j h;omega
    subst eij;rw[←m1] at h4;rw[b6] at h4;cases h4
   have hlt:(fK n t 0).length<(fK n (jL t n x) 0).length:=by
    have:(r::fK n t 0).length<=(fK n (jL t n x) 0).length:=List.Nodup.length_le_of_subset (List.nodup_cons.2 ⟨hr2,wF c.tl.Ai⟩) (λy hy=>by
     rcases List.mem_cons.1 hy with rfl|hy
     ·exact hr
     ·exact Sb a2 y hy)
    rw[List.length_cons] at this;omega
   unfold VX;rw[if_pos hlt];refine⟨a1,List.nodup_append.2 ⟨c.nd,nd'.filter _,λy hy z hz e2=>?_⟩,λy=>?_⟩
   ·subst e2
    have:=(List.mem_filter.1 hz).2;simp at this;exact this hy
   ·rw[List.mem_append]
    unfold XK;rw[List.mem_filter];constructor
    ·rintro (h|h)
     ·exact Sb a2 y ((c.mem y).1 h)
     ·exact h.1
    ·intro h
     by_cases h2:y∈l
     ·exact .inl h2
     ·exact .inr ⟨h,by simpa using h2⟩
 ·unfold VX
  split
  ·exact⟨_,rfl⟩
  ·exact⟨[],(List.append_nil _).symm⟩
theorem Ah.gen (c:Ah n L t l): ∀y∈l,gO n L y:=λy hy=>c.tl.gen y ((c.mem y).1 hy)
def Pr (n:Nat)(t:rJ)(l:xY)(a b:Nat):Prop:=ins t n 0 (bE (l.getD a []) (l.getD b []))=none
theorem Pr.mono {t':rJ}{m:xY}{a b:Nat}(h:Pr n t l a b)(s:Sub t t')(ha:a<l.length)(hb:b<l.length):Pr n t' (l++m) a b:=by
 have e: ∀k,k<l.length->(l++m).getD k []=l.getD k []:=λk hk=>by rw[List.getD,List.getD,List.getElem?_append_left hk]
 unfold Pr;rw[e a ha,e b hb];exact Cv s _ _ _ h
theorem Ah.closed (c:Ah n L t l)(h: ∀a b,a<l.length->b<l.length->Pr n t l a b):Ff n t:=λa b ha hb=>by
 obtain⟨i,hi,ei⟩:=List.mem_iff_getElem.1 ((c.mem a).2 ha);obtain⟨j,hj,ej⟩:=List.mem_iff_getElem.1 ((c.mem b).2 hb);have:=h i j hi hj;unfold Pr at this;have e1:l.getD i []=a:=by rw[List.getD,List.getElem?_eq_getElem hi,←ei];rfl
 have e2:l.getD j []=b:=by rw[List.getD,List.getElem?_eq_getElem hj,←ej];rfl
 rwa [e1,e2] at this
def Ae (t:rJ)(i k:Nat):List Nat:=(List.range k).filter λp=>p==i||(t i p).isSome
theorem Yf (T:oV n t)(i:Nat):Ae t i i= []:=by
 unfold Ae;refine List.filter_eq_nil_iff.2 λp hp=>?_
 have:=List.mem_range.1 hp;simp only[Bool.or_eq_true,beq_iff_eq,not_or];refine⟨by omega,λh=>?_⟩;obtain⟨y,hy⟩:=Option.isSome_iff_exists.1 h;have:=T.gt hy;omega
theorem GL (i k:Nat):Ae t i (k+1)=Ae t i k++if k=i∨(t i k).isSome then [k] else []:=by
 unfold Ae;rw[List.range_succ,List.filter_append]
 by_cases h:k=i
 ·subst h;simp
 ·have e:(k==i)=false:=by simpa using h
  cases h2:t i k<;>simp [h,h2,List.filter,e]
theorem MO (i:Nat):Ae t i n=(lM n t i).orb:=rfl
theorem HZ (i k:Nat):(Ae t i k).Pairwise (· < ·):=List.pairwise_lt_range.filter _
end
end Go.Pm
namespace Go.Proofs.YtddpkbicnolafaaGreat
open Go Go.Ay Go.Pm
set_option maxRecDepth 100000
theorem Hy (h:H)(x:Int):uY h 1 [aB 0] 1 [(0,1,aB x)]=some (.sl h.next 0 1 (.kn 1),h.new (.cells false (ints [x]))):=by
 have e:dV [aB 0] 1= [aB 0]:=rfl;simp [uY,jY,e,putAt,V.cells,V.one,ints]
theorem IH {h:H}{v:V}{sz b:Nat}{ws:List V}(o:dG h v sz ws b): ∀id off len cap,v= .sl id off len cap->b<=id:=by
 rcases o with ⟨rfl,_⟩|⟨id,n,cap,rest,rfl,_,_,h3,_⟩
 ·intro _ _ _ _ e;cases e
 ·intro _ _ _ _ e;cases e;exact h3
theorem Hg (l:List Nat)(x:Nat):zi (l++ [x])=zi l++ [(x:Int)]:=by simp [zi]
theorem Ny {l:List Nat}{i:Nat}(hi:i<l.length):l.take (i+1)=l.take i++ [l.getD i 0]:=by
 rw[List.take_add_one,fX hi,bJ hi];rfl
theorem wG (u w:V)(a b:List Nat)(h:H)(hN:a.length<=1000)(hu:SI h u (zi a))(hw:SI h w (zi b))(hr: ∀i,i<a.length->a.getD i 0<b.length):
  Ev T 40 [u,w] h (λv h'=>SI h' v (zi (bE a b))/\Fr h h'/\ ∀id off len cap,v= .sl id off len cap->h.next<=id):=by
 refine bP Fz rfl rfl ?_
 have lu:=hu.lens
 rw[aQ] at lu
 obtain⟨id,off,sh,hid,hc⟩:=hu.open
 rw[aQ] at sh hid hc
 obtain⟨id2,off2,sh2,hid2,hc2⟩:=hw.open
 rw[aQ] at sh2 hid2 hc2
 simp(disch:=omega)only[go_sem,Fz,aE]
 refine aG (λk' vars hh=> ∃(i:Nat) (o:V),(∃j:Nat->V,vars= [u,w,j 2,o,aB i,j 5])/\i<=a.length/\dG hh o 1 (ints (zi ((bE a b).take i))) h.next/\Fr h hh/\k'=a.length-i) a.length
  ⟨0,.aC,aA rfl,iP _,dG.aC _ _ _,Fr.refl h,rfl⟩ ?_
 rintro k' vars h2 ⟨i,o,⟨jk,rfl⟩,hi,oO,F,rfl⟩
 simp(disch:=omega)only[go_sem,lu]
 by_cases hlt:(i:Int)<(a.length:Int)
 ·rw[decide_eq_true hlt]
  have hi':i<a.length:=by omega
  have ci:h2.cell id (off+i)=some (aB (a.getD i 0:Nat)):=by rw[F.cell (hid (by omega)),hc i hi'];congr 2;simp [zi,hi']
  have r:=hr i hi'
  have hm:=dA (b:=b) hi'
  generalize hk:a.getD i 0=k at ci r hm
  have ck:h2.cell id2 (off2+k)=some (aB (b.getD k 0:Nat)):=by rw[F.cell (hid2 (by omega)),hc2 k r];congr 2;simp [zi,r]
  simp(disch:=omega)only[go_sem,sh.ixa,ci,sh2.ixa,ck,Hy]
  have hf31:Fr h2 (h2.new (.cells false (ints [((b.getD k 0:Nat):Int)]))):=(Fr.refl h2).new _
  have hg31:(h2.new (.cells false (ints [((b.getD k 0:Nat):Int)]))).get h2.next=some (.cells false (ints [((b.getD k 0:Nat):Int)])):=H.aN ..
  have hn31:(h2.new (.cells false (ints [((b.getD k 0:Nat):Int)]))).next=h2.next+1:=H.aV ..
  generalize h2.new (.cells false (ints [((b.getD k 0:Nat):Int)]))=h31 at*
  have sx:SV h31 (.sl h2.next 0 1 (.kn 1)) 1 (ints [((b.getD k 0:Nat):Int)]):=SV.all rfl (by omega) hg31 _
  have nF:=F.next
  have hl:(bE a b).length=a.length:=fC a b
  obtain⟨v2,h32,e32,a32⟩:=(oO.fr hf31).app (bytes:=8) (n:=i) (m:=1) (by omega) sx (by rw[aM,aQ,Nn,Nat.mul_one];omega) rfl (by omega) (by omega)
  simp(disch:=omega)only[go_sem,e32]
  have t32:=a32.own
  rw[←rG,←hm,←Hg,←Ny (by omega)] at t32
  rw[fJ i]
  exact⟨a.length-(i+1),by omega,i+1,v2,aA rfl,by omega,t32,a32.fr h (F.trans hf31) (gV _),rfl⟩
 rw[decide_eq_false hlt]
 obtain rfl:i=a.length:=by omega
 simp(disch:=omega)only[go_sem]
 rw[List.take_of_length_le (by rw[fC];omega)] at oO
 exact⟨oO.sv,F,IH oO⟩
theorem BH (n:Nat)(h:H)(hN:n<=1000):
  Ev T 63 [aB n] h (λv h'=>SI h' v (zi (cJ n))/\Fr h h'/\ ∀id off len cap,v= .sl id off len cap->h.next<=id):=by
 refine bP Ew rfl rfl ?_
 simp(disch:=omega)only[go_sem,Ew,aE]
 refine aG (λk' vars hh=> ∃(i:Nat) (o:V),(∃j:Nat->V,vars= [aB n,j 1,o,aB i,j 4])/\i<=n/\dG hh o 1 (ints (zi ((cJ n).take i))) h.next/\Fr h hh/\k'=n-i) n
  ⟨0,.aC,aA rfl,iP _,dG.aC _ _ _,Fr.refl h,rfl⟩ ?_
 rintro k' vars h2 ⟨i,o,⟨jk,rfl⟩,hi,oO,F,rfl⟩
 simp(disch:=omega)only[go_sem]
 by_cases hlt:(i:Int)<(n:Int)
 ·rw[decide_eq_true hlt]
  have hi':i<n:=by omega
  simp(disch:=omega)only[go_sem,Hy]
  have hf31:Fr h2 (h2.new (.cells false (ints [(i:Int)]))):=(Fr.refl h2).new _
  have hg31:(h2.new (.cells false (ints [(i:Int)]))).get h2.next=some (.cells false (ints [(i:Int)])):=H.aN ..
  have hn31:(h2.new (.cells false (ints [(i:Int)]))).next=h2.next+1:=H.aV ..
  generalize h2.new (.cells false (ints [(i:Int)]))=h31 at*
  have sx:SV h31 (.sl h2.next 0 1 (.kn 1)) 1 (ints [(i:Int)]):=SV.all rfl (by omega) hg31 _
  have nF:=F.next
  have hl:=jG n
  obtain⟨v2,h32,e32,a32⟩:=(oO.fr hf31).app (bytes:=8) (n:=i) (m:=1) (by omega) sx (by rw[aM,aQ,Nn,Nat.mul_one];omega) rfl (by omega) (by omega)
  simp(disch:=omega)only[go_sem,e32]
  have t32:=a32.own
  have hm:=fO hi'
  have e1:zi ((cJ n).take i)++ [(i:Int)]=zi ((cJ n).take (i+1)):=by rw[Ny (by omega),Hg,hm]
  rw[←rG,e1] at t32
  rw[fJ i]
  exact⟨n-(i+1),by omega,i+1,v2,aA rfl,by omega,t32,a32.fr h (F.trans hf31) (gV _),rfl⟩
 rw[decide_eq_false hlt]
 obtain rfl:i=n:=by omega
 simp(disch:=omega)only[go_sem]
 rw[List.take_of_length_le (by rw[jG];omega)] at oO
 exact⟨oO.sv,F,IH oO⟩
theorem Zy (u:V)(n:Nat)(a:List Nat)(h:H)(hn:n<=1000)(A:bY n a)(hu:SI h u (zi a)):
  Ev T 41 [u] h (λv h'=>Ub h h' v (eX a)):=by
 refine bP Fl rfl rfl ?_
 have la:=A.len
 have lu:=hu.lens
 rw[aQ,la] at lu
 obtain⟨id,off,sh,hid,hc⟩:=hu.open
 rw[aQ,la] at sh hid hc
 simp(disch:=omega)only[go_sem,Fl,aE,lu,lD h n (by omega)]
 have hf1:Fr h (h.new (.cells false (rc n λ_=> aB 0))):=(Fr.refl h).new _
 have hg1:(h.new (.cells false (rc n λ_=> aB 0))).get h.next=some (.cells false (rc n λ_=> aB 0)):=H.aN ..
 have hn1:(h.new (.cells false (rc n λ_=> aB 0))).next=h.next+1:=H.aV ..
 generalize h.new (.cells false (rc n λ_=> aB 0))=h1 at*
 obtain⟨S,hS⟩:=exI h.next
 rw[hS] at hg1 hn1
 rw[hS]
 refine aG (λk' vars hh=> ∃(i:Nat),(∃j:Nat->V,vars= [u,.aC,.sl S 0 n (.kn n),aB i,j 4])/\i<=n/\
   hh.get S=some (.cells false (rc n λj=>if a.idxOf j<i then aB (a.idxOf j:Nat) else aB 0))/\hh.next=S+1/\Fr h hh/\k'=n-i) n
  ⟨0,aA rfl,iP _,by rw[hg1];rfl,hn1,hf1,rfl⟩ ?_
 clear hg1 hf1 hn1
 rintro k' vars h2 ⟨i,⟨jk,rfl⟩,hi,gS,lS,F,rfl⟩
 simp(disch:=omega)only[go_sem,lu]
 by_cases hlt:(i:Int)<(n:Int)
 ·rw[decide_eq_true hlt]
  have hi':i<n:=by omega
  have ci:h2.cell id (off+i)=some (aB (a.getD i 0:Nat)):=by rw[F.cell (hid (by omega)),hc i hi'];congr 2;simp [zi,la,hi']
  have r:=A.fU hi'
  have hx:a.idxOf (a.getD i 0)=i:=A.inj (A.idx r).1 hi' (A.idx r).2
  generalize hk:a.getD i 0=k at ci r hx
  have e1:decide ((k:Int)<0)=false:=fF (by omega)
  have e2:decide ((n:Int)<=(k:Int))=false:=fF (by omega)
  have pt:=bW (vs:=rc n λj=>if a.idxOf j<i then aB (a.idxOf j:Nat) else aB 0) (off:=k) (by rw[eU];exact r) h2 S (aB i)
  rw[iY] at pt
  simp(disch:=omega)only[go_sem,sh.ixa,ci,e1,e2,gS,pt]
  rw[fJ i]
  refine⟨n-(i+1),by omega,i+1,aA rfl,by omega,?_,lS,F.set (by omega) _,rfl⟩
  congr 2
  refine bL λj hj=>?_
  by_cases e:j=k
  ·rw[if_pos e,e,hx,if_pos (by omega)]
  ·rw[if_neg e]
   have hne:a.idxOf j≠i:=λe3=>e (by rw[←(A.idx hj).2,e3,hk])
   by_cases e2:a.idxOf j<i
   ·rw[if_pos e2,if_pos (by omega)]
   ·rw[if_neg e2,if_neg (by omega)]
 rw[decide_eq_false hlt]
 obtain rfl:i=n:=by omega
 simp(disch:=omega)only[go_sem]
 refine⟨by rw[jF,la,hS],?_,by rw[hS];exact lS,F⟩
 rw[hS,gS]
 congr 2
 rw[←Jx,jF,la]
 exact bL λj hj=>by rw[if_pos (A.idx hj).1,wK (by rw[la];exact hj)]
structure Dv (b:Nat)(W:Nat->Prop)(h:H)(n:Nat)(tv:V)(ρ:Nat->Nat)(F:Nat->Nat->V)(t:rJ):Prop where
 sv:SV h tv 1 (rc n λi=> .sl (ρ i) 0 n (.kn n))
 off:Wj W tv
 row: ∀i,i<n->h.get (ρ i)=some (.cells false (rc n (F i)))
 wb: ∀i,i<n->W (ρ i)
 Io: ∀id,W id->id<h.next
 low: ∀id,W id->b<=id
 inj: ∀i j,i<n->j<n->ρ i=ρ j->i=j
 ent: ∀i p,i<n->p<n->Slot W h (F i p) (t i p)
section
variable {b:Nat} {W:Nat->Prop} {h h':H} {n:Nat} {tv:V} {ρ:Nat->Nat} {F:Nat->Nat->V} {t:rJ}
theorem Dv.open (R:Dv b W h n tv ρ F t):dC tv=some (aB n)/\ ∃id off,Sl tv 1 n id off/\ ∀i,i<n->h.cell id (off+i)=some (.sl (ρ i) 0 n (.kn n)):=by
 have s:=R.sv;have hl:(rc n λi=>V.sl (ρ i) 0 n (.kn n)).length=n:=eU n _;refine⟨by unfold dC;rw[SV.len s (n:=n) (by omega) (by omega)];rfl,?_⟩;obtain⟨id,off,sh,hid,hc⟩:=SV.shape s n (by omega) (by omega);refine⟨id,off,sh,λi hi=>?_⟩;rw[hc i (by omega),Fj hi]
theorem Dv.cell (R:Dv b W h n tv ρ F t){i p:Nat}(hi:i<n)(hp:p<n):h.cell (ρ i) p=some (F i p):=iW (R.row i hi) hp
theorem Dv.mono (R:Dv b W h n tv ρ F t)(f:Fr h h'):Dv b W h' n tv ρ F t:=
 ⟨R.sv.mono f,R.off,λi hi=>by rw[f.get _ (R.Io _ (R.wb i hi))];exact R.row i hi,R.wb,λid hid=>kZ (R.Io id hid) f.next,R.low,R.inj,λi p hi hp=>(R.ent i p hi hp).fx (Fx.of f)⟩
theorem Dv.go (R:Dv b W h n tv ρ F t){W':Nat->Prop}(f:Fx W h h')(hr: ∀i,i<n->h'.get (ρ i)=h.get (ρ i))(hw: ∀id,id<h.next->W' id->W id)(hw2: ∀id,W id->W' id)(Io: ∀id,W' id->id<h'.next)(low: ∀id,W' id->b<=id):Dv b W' h' n tv ρ F t:=
 ⟨R.sv.fx R.off f,R.off.sG R.sv hw,λi hi=>by rw[hr i hi];exact R.row i hi,λi hi=>hw2 _ (R.wb i hi),Io,low,R.inj,λi p hi hp=>(R.ent i p hi hp).go f hw⟩
def WB (n:Nat)(ρ:Nat->Nat)(id:Nat):Prop:= ∃i,i<n/\ρ i=id
theorem Dv.wbx (R:Dv b W h n tv ρ F t){a c:H}(f:Fx (WB n ρ) a c):Fx W a c:=f.sG λid _ hw=>by
 obtain⟨i,hi,rfl⟩:=hw;exact R.wb i hi
def F2 (F:Nat->Nat->V)(i p:Nat)(v:V):Nat->Nat->V:=λj q=>if j=i/\q=p then v else F j q
theorem Dv.put (R:Dv b W h n tv ρ F t){i p:Nat}(hi:i<n)(hp:p<n){vx:V}{x:List Nat}(hx:PV W h vx x):
  ∃h',fG (h.get (ρ i)) h (ρ i) p [vx]=some h'/\Dv b W h' n tv ρ (F2 F i p vx) (Pm.put t i p x)/\Fx (WB n ρ) h h'/\h'.next=h.next:=by
 have pt:=bW (vs:=rc n (F i)) (off:=p) (by rw[eU];exact hp) h (ρ i) vx
 rw[R.row i hi,pt,iY]
 refine⟨_,rfl,?_,Fx.set h (W:=WB n ρ) ⟨i,hi,rfl⟩ _,rfl⟩
 have f:Fx W h (h.set (ρ i) (some (.cells false (rc n λj=>if j=p then vx else F i j)))):=Fx.set h (R.wb i hi) _
 refine⟨R.sv.fx R.off f,R.off,λj hj=>?_,R.wb,R.Io,R.low,R.inj,λj q hj hq=>?_⟩
 ·by_cases e:j=i
  ·subst e
   rw[H.aT]
   congr 2
   refine bL λq _=>?_
   unfold F2
   by_cases e2:q=p
   ·rw[if_pos e2,if_pos ⟨rfl,e2⟩]
   ·rw[if_neg e2,if_neg (λh=>e2 h.2)]
  ·rw[H.aI h (λe2=>e (R.inj _ _ hj hi e2)),R.row j hj]
   congr 2
   refine bL λq _=>?_
   unfold F2
   rw[if_neg (λh=>e h.1)]
 ·unfold F2 Pm.put
  by_cases e:j=i/\q=p
  ·rw[if_pos e,if_pos e]
   exact PV.fx hx f
  ·rw[if_neg e,if_neg e]
   exact (R.ent j q hj hq).fx f
theorem PV.fresh {v:V}{l:List Nat}(s:SI h' v (zi l))(hf: ∀id off len cap,v= .sl id off len cap->h.next<=id)(hw: ∀id,W id->id<h.next):PV W h' v l:=by
 refine⟨s,?_⟩
 cases v with
 |sl id off len cap=>exact λhx=>by have:=hf _ _ _ _ rfl;have:=hw id hx;omega
 |_=>trivial
theorem Slot.nil {v:V}(s:Slot W h v none):v= .aC:=s
end
theorem Mq (b:Nat)(W:Nat->Prop)(h:H)(n:Nat)(tv:V)(ρ:Nat->Nat)(F:Nat->Nat->V)(t:rJ)(vx:V)(x:List Nat)(hn:n<=64)(h0:0<n)(R:Dv b W h n tv ρ F t)(hx:PV W h vx x)(X:bY n x)(TI:oV n t):
  Ev T 68 [tv,vx] h (λv h'=> ∃F',v= .bool (ins t n 0 x).isSome/\Dv b W h' n tv ρ F' (jL t n x)/\Fx (WB n ρ) h h'):=by
 refine bP mF rfl rfl ?_
 obtain⟨lv,id,off,sh,_⟩:=R.open
 simp(disch:=omega)only[go_sem,mF,aE]
 refine aG (λk' vars hh=> ∃(i:Nat) (y:List Nat) (vy:V),(∃g:Nat->V,vars= [tv,vy,g 2,aB i,g 4,g 5,g 6,g 7])/\i<=n/\ins t (n-i) i y=ins t n 0 x/\PV W hh vy y/\bY n y/\Fr h hh/\k'=n-i) n
  ⟨0,x,vx,aA rfl,iP _,rfl,hx,X,Fr.refl h,rfl⟩ ?_
 rintro k' vars h2 ⟨i,y,vy,⟨g,rfl⟩,hi,hs,hy,Y,f,rfl⟩
 have R2:=R.mono f
 by_cases hlt:(i:Int)<(n:Int)
 case neg=>
  have e1:=fF hlt;obtain rfl:i=n:=by omega
  simp(disch:=omega)only[go_sem,lv,e1];rw[Nat.sub_self] at hs;have hs':ins t i 0 x=none:=hs.symm;refine⟨F,by rw[hs'];rfl,?_,Fx.of f⟩;unfold jL;rw[hs'];exact R2
 have e1:=iK hlt
 have hin:i<n:=by omega
 obtain⟨idy,offy,shy,hidy,hcy⟩:=hy.si.open
 rw[aQ,Y.len] at shy hidy hcy
 have ci:h2.cell idy (offy+i)=some (aB (y.getD i 0:Nat)):=by rw[hcy i hin];congr 2;simp [zi,Y.len,hin]
 have hp:=Y.fU hin
 obtain⟨p,ep⟩:=exI (y.getD i 0)
 rw[ep] at ci hp
 have hstep:n-i=(n-(i+1))+1:=by omega
 rw[hstep] at hs
 obtain⟨_,id2,off2,sh2,hc2⟩:=R2.open
 have cr:=hc2 i hin
 have ce:=R2.cell hin hp
 have hS:=R2.ent i p hin hp
 by_cases hpi:p=i
 ·have hs':ins t (n-(i+1)) (i+1) y=ins t n 0 x:=by
   rw[←hs]
   conv=>rhs;unfold ins
   rw[if_pos (ep.trans hpi)]
  have e2:decide ((p:Int)=(i:Int))=true:=iK (by omega);simp(disch:=omega)only[go_sem,lv,e1,shy.ixa,ci,e2];rw[fJ i];exact⟨n-(i+1),by omega,i+1,y,vy,aA rfl,by omega,hs',hy,Y,f,rfl⟩
 have e2:decide ((p:Int)=(i:Int))=false:=fF (by omega)
 have e3:decide ((p:Int)<0)=false:=fF (by omega)
 have e4:decide ((n:Int)<=(p:Int))=false:=fF (by omega)
 cases hto:t i p with
 |none=>
  rw[hto] at hS;have hS':=hS.nil;rw[hS'] at ce
  have hs':ins t n 0 x=some (i,y):=by
   rw[←hs];unfold ins;rw[if_neg (by rw[ep];exact hpi),ep,hto]
  obtain⟨h3,pt,R3,f3,n3⟩:=R2.put hin hp hy;simp(disch:=omega)only[go_sem,lv,e1,shy.ixa,ci,e2,e3,e4,sh2.ixa,cr,ce,pF hy.eA.1 hy.eA.2,pt];have e5:jL t n x=Pm.put t i p y:=by unfold jL;rw[hs'];simp only;rw[ep]
  refine⟨F2 F i p vy,by rw[hs'];rfl,by rw[e5];exact R3,(Fx.of f).trans f3 (λ_ _ h=>h)⟩
 |some z=>
  rw[hto] at hS;have Z:=TI.fA _ _ _ hto;have hz:PV W h2 (F i p) z:=hS;have sn:=Bz hz (bY.ne h0 Z) false
  have hs':ins t (n-(i+1)) (i+1) (bE y (eX z))=ins t n 0 x:=by
   rw[←hs]
   conv=>rhs;unfold ins
   rw[if_neg (by rw[ep];exact hpi),ep,hto]
  generalize F i p=vz at ce hz sn;simp(disch:=omega)only[go_sem,lv,e1,shy.ixa,ci,e2,e3,e4,sh2.ixa,cr,ce,sn];refine (Zy vz n z h2 (by omega) Z hz.si).mono ?_;rintro w h3 nw;have f3:=nw.fr;have pw:=nw.pv (W:=W) (λhw=>by have:=R2.Io _ hw;omega);simp(disch:=omega)only[go_sem];refine (wG vy w y (eX z) h3 (by rw[Y.len];omega) (hy.si.mono f3) pw.si (λj hj=>by rw[jF,Z.len];exact Y.fU (by rw[←Y.len];exact hj))).mono ?_;rintro v h4 ⟨s4,f4,l4⟩;simp(disch:=omega)only[go_sem];rw[fJ i];exact⟨n-(i+1),by omega,i+1,_,v,aA rfl,by omega,hs',PV.fresh s4 l4 (λid hid=>kZ (R2.Io id hid) f3.next),Y.mul Z.inv,(f.trans f3).trans f4,rfl⟩
section
variable {h:H} {ws:List V} {l:LN} {k:Nat}
theorem tU.frb {h0 h':H}{x:V}{n m sz:Nat}{us:List V}(p:tU h x n m sz ws us h')(f:Fr h0 h){sz':Nat}{ws':List V}(o:dG h x sz' ws' h0.next):Fr h0 h':=by
 have fn:=f.next;refine⟨by rw[p.next];omega,λid hid=>?_⟩;rw[p.old id (by omega) (λid' off n c e e2=>by have:=(o.in _ _ _ _ e).2.1;omega)];exact f.get id hid
theorem zK {h0:H}{vl v:V}(o:dG h vl 1 ws h0.next)(f:Fr h0 h)(hl:ws.length<1000000){bytes:Nat}(hb:bytes<=24):
  ∃h2,xT (h.new (.cells false [v])) 1 bytes vl (.sl h.next 0 1 (.kn 1))=some (.sl (h.next+1) 0 (ws.length+1) (.un 1),h2)/\dG h2 (.sl (h.next+1) 0 (ws.length+1) (.un 1)) 1 (ws++ [v]) h0.next/\Fr h0 h2/\h2.next=h.next+2/\ ∀id,id<h.next->eC vl id->h2.get id=h.get id:=by
 obtain⟨h1,e1,n1,g1,o1,f1⟩:=fR (h:=h) rfl [v]
 rw[e1]
 have o2:=o.fr f1
 obtain⟨h2,a2,p2⟩:=o2.push (bytes:=bytes) (SV.one (by omega) g1 (.kn 1)) (n:=ws.length) (m:=1) (by omega) rfl (by omega) (by omega) ⟨by
  have:(2*(ws.length+1)+1000)*bytes<=(2*(ws.length+1)+1000)*24:=Nat.mul_le_mul_left _ hb
  omega,by omega⟩
 rw[n1] at a2
 have fn:=f.next
 have ow:=p2.own (by omega) rfl (b:=h0.next) (by omega)
 rw[n1] at ow
 have nx:=p2.next
 exact⟨h2,a2,ow,tU.frb p2 (f.trans f1) o2,by omega,λid h1 h2=>by rw[p2.old id (by omega) h2,o1 id (by omega)]⟩
theorem IU (t:rJ)(i p:Nat):(eR t i p).length<=p:=by
 unfold eR;have:=List.length_filterMap_le (t i) (List.range p);rwa [List.length_range] at this
theorem Qe (n:Nat)(t:rJ): ∀i,(eB n t i).length<=i*n
 |0=>by simp [eB]
 |i+1=>by
  rw[Zc,pW,Nat.succ_mul];have:=Qe n t i;have:=IU t i n;omega
theorem xJ (b:Nat)(W:Nat->Prop)(h:H)(n:Nat)(tv:V)(ρ:Nat->Nat)(F:Nat->Nat->V)(t:rJ)(hn:n<=64)(h0:0<n)(R:Dv b W h n tv ρ F t)(TI:oV n t):
  Ev T 96 [tv] h (λv h'=> ∃ws,dG h' v 1 ws h.next/\gG W h ws (fK n t 0)/\Fr h h'):=by
 refine bP lG rfl rfl ?_
 have lv:=R.open.1
 simp(disch:=omega)only[go_sem,lG,aE]
 refine aG (λk' vars hh=> ∃(i:Nat) (vl:V) (ws:List V),(∃g:Nat->V,vars= [tv,g 1,vl,aB i,g 4,g 5,g 6,g 7])/\i<=n/\dG hh vl 1 ws h.next/\gG W h ws (eB n t i)/\Fr h hh/\k'=n-i) n
  ⟨0,.aC, [],aA rfl,iP _,dG.aC _ _ _,trivial,Fr.refl h,rfl⟩ ?_
 rintro k' vars h2 ⟨i,vl,ws,⟨g,rfl⟩,hi,ow,pvs,f,rfl⟩
 by_cases hlt:(i:Int)<(n:Int)
 case neg=>
  have e1:=fF hlt;obtain rfl:i=n:=by omega
  simp(disch:=omega)only[go_sem,lv,e1];rw[Oq] at pvs;exact⟨ws,ow,pvs,f⟩
 have e1:=iK hlt
 have hin:i<n:=by omega
 simp(disch:=omega)only[go_sem,lv,e1]
 refine uV (λvs hh=> ∃(vl:V) (ws:List V),(∃g:Nat->V,vs= [tv,g 1,vl,aB i,g 4,g 5,g 6,g 7])/\dG hh vl 1 ws h.next/\gG W h ws (eB n t (i+1))/\Fr h hh) ?_ ?_
 ·refine aG (λk' vars hh=> ∃(j:Nat) (vl:V) (ws:List V),(∃g:Nat->V,vars= [tv,g 1,vl,aB i,aB j,g 5,g 6,g 7])/\j<=n/\dG hh vl 1 ws h.next/\gG W h ws (eB n t i++eR t i j)/\Fr h hh/\k'=n-j) n
   ⟨0,vl,ws,aA rfl,iP _,ow,by unfold eR;rw[List.range_zero,List.filterMap_nil,List.append_nil];exact pvs,f,rfl⟩ ?_
  clear ow pvs f hi g
  rintro k' vars h3 ⟨j,vl,ws,⟨g,rfl⟩,hj,ow,pvs,f,rfl⟩
  by_cases hlt2:(j:Int)<(n:Int)
  case neg=>
   have e2:=fF hlt2;obtain rfl:j=n:=by omega
   simp(disch:=omega)only[go_sem,lv,e2];exact⟨vl,ws,aA rfl,ow,by rw[Zc];exact pvs,f⟩
  have e2:=iK hlt2
  have hjn:j<n:=by omega
  have R3:=R.mono f
  obtain⟨_,id2,off2,sh2,hc2⟩:=R3.open
  have cr:=hc2 i hin
  have ce:=R3.cell hin hjn
  have hS:=R.ent i j hin hjn
  have lw:=aZ.length pvs
  have l1:=Qe n t i
  have l2:=IU t i j
  have l3:i*n<=64*64:=Nat.mul_le_mul (by omega) hn
  rw[pW] at lw
  cases hto:t i j with
  |none=>
   rw[hto] at hS;rw[hS.nil] at ce;simp(disch:=omega)only[go_sem,lv,e2,sh2.ixa,cr,ce];rw[fJ j];refine⟨n-(j+1),by omega,j+1,vl,ws,aA rfl,by omega,ow.fr ((Fr.refl h3).bF (by omega)),?_,f.bF (by omega),rfl⟩;rw[Zk,hto];simpa using pvs
  |some y=>
   rw[hto] at hS;have pz:PV W h (F i j) y:=hS;have sn:=Bz pz (bY.ne h0 (TI.fA _ _ _ hto)) true;generalize F i j=vz at ce pz sn;obtain⟨S,hS3⟩:=exI h3.next;simp(disch:=omega)only[go_sem,lv,e2,sh2.ixa,cr,ce,sn,dB _ (z:= .aC) pz.eA.1 pz.eA.2];obtain⟨h4,a4,ow4,f4,n4,_⟩:=zK (v:=vz) ow f (by omega) (bytes:=24) (by omega);simp(disch:=omega)only[go_sem,a4];rw[fJ j];refine⟨n-(j+1),by omega,j+1,_,_,aA rfl,by omega,ow4,?_,f4,rfl⟩;rw[Zk,hto,←List.append_assoc];exact pvs.append (gG.one pz)
 rintro vars h3 ⟨vl,ws,⟨g,rfl⟩,ow,pvs,f⟩
 simp(disch:=omega)only[go_sem]
 rw[fJ i]
 exact⟨n-(i+1),by omega,i+1,vl,ws,aA rfl,by omega,ow,pvs,f,rfl⟩
theorem gG.open {W:Nat->Prop}{v:V}(sv:SV h v 1 ws)(p:gG W h ws l):dC v=some (aB (l.length:Int))/\ ∃id off,Sl v 1 l.length id off/\ ∀i,i<l.length->id<h.next/\h.cell id (off+i)=some (ws.getD i .undef)/\PV W h (ws.getD i .undef) (l.getD i []):=by
 have hl:=aZ.length p;refine⟨by unfold dC;rw[SV.len sv (n:=l.length) (by omega) (by omega)];rfl,?_⟩;obtain⟨id,off,sh,hid,hc⟩:=SV.shape sv l.length (by omega) (by omega);refine⟨id,off,sh,λi hi=>⟨hid (by omega),?_,?_⟩⟩
 ·rw[hc i (by omega)];simp [List.getD,show i<ws.length by omega]
 ·obtain⟨w,h1,h2⟩:=gG.at p hi
  rw[List.getD,h1];exact h2
theorem Jz {α:Type}{l:List α}{x d:α}:x∈l.take k↔ ∃q,q<k/\q<l.length/\l.getD q d=x:=by
 constructor
 ·intro h
  obtain⟨q,hq,e⟩:=Gk.1 h;rw[Nn] at hq;refine⟨q,by omega,by omega,?_⟩;rw[List.getElem_take] at e;rw[List.getD,fX (by omega),←e];rfl
 ·rintro⟨q,h1,h2,e⟩
  rw[List.getD,fX h2] at e;refine Gk.2 ⟨q,by rw[Nn];omega,?_⟩;rw[List.getElem_take];exact e
theorem Aj {x:List Nat}(hk:k<l.length):x∈l.take (k+1)↔x∈l.take k∨l.getD k []=x:=by
 rw[Jz (d:= []),Jz (d:= [])];constructor
 ·rintro⟨q,h1,h2,e⟩
  by_cases h:q=k
  ·subst h;exact .inr e
  ·exact .inl ⟨q,by omega,h2,e⟩
 ·rintro (⟨q,h1,h2,e⟩|e)
  ·exact⟨q,by omega,h2,e⟩
  ·exact⟨k,by omega,hk,e⟩
theorem IF {L:LN}(hk:k<L.length):(L.take (k+1)).filter (λy=>decide (y∉l))=(L.take k).filter (λy=>decide (y∉l))++if L.getD k []∈l then [] else [L.getD k []]:=by
 rw[dL [] hk,List.filter_append];generalize L.getD k []=z
 by_cases e:z∈l<;>simp [e,List.filter]
theorem ML (b:Nat)(W:Nat->Prop)(h:H)(n:Nat)(tv vl:V)(wl:List V)(l:LN)(ρ:Nat->Nat)(F:Nat->Nat->V)(t:rJ)(hn:n<=64)(h0:0<n)(R:Dv b W h n tv ρ F t)(TI:oV n t)(sl:SV h vl 1 wl)(pl:gG W h wl l)(hl: ∀x∈l,bY n x)(ll:l.length<1000000):
  Ev T 97 [tv,vl] h (λv h'=> ∃ws,dG h' v 1 ws h.next/\gG W h ws (XK n t l)/\Fr h h'):=by
 refine bP nH rfl rfl ?_
 simp(disch:=omega)only[go_sem,nH,aE]
 refine (xJ b W h n tv ρ F t hn h0 R TI).mono ?_
 rintro ve h1 ⟨we,oe,pe,f1⟩
 obtain⟨L,hL⟩:=exI (fK n t 0)
 have EP: ∀y∈L,bY n y:=λy hy=>TI.FJ y (by rw[hL];exact hy)
 have lL:L.length<=4096:=by
  rw[←hL,←Oq];have:=Qe n t n;have:=Nat.mul_le_mul hn hn;omega
 unfold XK
 rw[hL] at pe ⊢
 have pe1:gG W h1 we L:=gG.fx pe (Fx.of f1)
 have lle:=aZ.length pe
 obtain⟨lve,id1,off1,sh1,hc1⟩:=gG.open oe.sv pe1
 obtain⟨lvl,id2,off2,sh2,hc2⟩:=gG.open sl pl
 simp(disch:=omega)only[go_sem]
 refine aG (λk' vars hh=> ∃(i:Nat) (vo:V) (ws:List V),(∃g:Nat->V,vars= [tv,vl,g 2,vo,ve,aB i,g 6,g 7,g 8,g 9,g 10])/\i<=L.length/\dG hh vo 1 ws h1.next/\gG W h ws ((L.take i).filter λy=>decide (y∉l))/\Fr h1 hh/\k'=L.length-i) L.length
  ⟨0,.aC, [],aA rfl,iP _,dG.aC _ _ _,trivial,Fr.refl h1,rfl⟩ ?_
 rintro k' vars h2 ⟨i,vo,ws,⟨g,rfl⟩,hi,ow,pvs,f,rfl⟩
 by_cases hlt:(i:Int)<(L.length:Int)
 case neg=>
  have e1:=fF hlt;obtain rfl:i=L.length:=by omega
  simp(disch:=omega)only[go_sem,lve,e1];rw[List.take_length] at pvs;exact⟨ws,ow.le f1.next,pvs,f1.trans f⟩
 have e1:=iK hlt
 have hiL:i<L.length:=by omega
 obtain⟨i1,c1,p1⟩:=hc1 i hiL
 have Y:=EP _ (bD (d:= []) hiL)
 obtain⟨y,hy⟩:=exI (L.getD i [])
 have hpw:PV W h (we.getD i .undef) (L.getD i []):=by
  obtain⟨w,h3,h4⟩:=gG.at pe hiL;rw[List.getD,h3];exact h4
 rw[hy] at p1 Y hpw
 generalize we.getD i .undef=vy at c1 p1 hpw
 simp(disch:=omega)only[go_sem,lve,e1]
 refine bT (λvs hh=>(∃g:Nat->V,vs= [tv,vl,g 2,vo,ve,aB i,.bool (decide (y∈l)),g 7,g 8,g 9,g 10])/\Fr h2 hh) ?_ ?_
 ·refine aG (λk' vars hh=> ∃(k:Nat) (s:Bool),(∃g:Nat->V,vars= [tv,vl,g 2,vo,ve,aB i,.bool s,aB k,g 8,g 9,g 10])/\k<=l.length/\(s=true↔y∈l.take k)/\Fr h2 hh/\k'=l.length-k) l.length
   ⟨0,false,aA rfl,iP _,by simp,Fr.refl h2,rfl⟩ ?_
  clear g
  rintro k' vars h3 ⟨k,s,⟨g,rfl⟩,hk,hs,f3,rfl⟩
  cases s with
  |true=>
   have e3:decide (y∈l)=true:=decide_eq_true (List.mem_of_mem_take (hs.1 rfl));simp(disch:=omega)only[go_sem];exact⟨by rw[e3];exact aA rfl,f3⟩
  |false=>
  have hs':y∉l.take k:=λh=>by have:=hs.2 h;cases this
  by_cases hlt2:(k:Int)<(l.length:Int)
  case neg=>
   have e3:=fF hlt2;obtain rfl:k=l.length:=by omega
   rw[List.take_length] at hs';have e4:decide (y∈l)=false:=decide_eq_false hs';simp(disch:=omega)only[go_sem,lvl,e3];exact⟨by rw[e4];exact aA rfl,f3⟩
  have e3:=iK hlt2
  have hkl:k<l.length:=by omega
  obtain⟨i2,c2,p2⟩:=hc2 k hkl
  have Z:=hl _ (bD (d:= []) hkl)
  obtain⟨z,hz⟩:=exI (l.getD k [])
  rw[hz] at p2 Z
  generalize wl.getD k .undef=vz at c2 p2
  have F13:=f.trans f3
  have F03:=f1.trans F13
  have c13:h3.cell id1 (off1+i)=some vy:=by rw[F13.cell i1];exact c1
  have c23:h3.cell id2 (off2+k)=some vz:=by rw[F03.cell i2];exact c2
  have v1:=SV.eG p1.si
  have v2:=SV.eG p2.si
  simp(disch:=omega)only[go_sem,lvl,e3,sh1.ixa,c13,sh2.ixa,c23]
  have fb:Fr h3 (H.mk h3.tr (h3.next+10)):=(Fr.refl h3).bF (by omega)
  refine (xH vy vz _ _ _ (p1.si.mono (F13.trans fb)) (p2.si.mono (F03.trans fb)) (by rw[aQ,Y.len];omega) (by rw[aQ,Z.len];omega)).mono ?_
  rintro _ h4 ⟨rfl,f4⟩
  have f34:=fb.trans f4
  have c14:h4.cell id1 (off1+i)=some vy:=by rw[(F13.trans f34).cell i1];exact c1
  have c24:h4.cell id2 (off2+k)=some vz:=by rw[(F03.trans f34).cell i2];exact c2
  simp(disch:=omega)only[go_sem,c14,c24,v1,v2]
  rw[fJ k]
  refine⟨l.length-(k+1),by omega,k+1,_,aA rfl,by omega,?_,f3.trans f34,rfl⟩
  rw[decide_eq_true_iff,Aj hkl,hz]
  exact⟨λe=> .inr (OD e).symm,λh=>h.elim (λh=>(hs' h).elim) λe=>by rw[e]⟩
 rintro vars h3 ⟨⟨g,rfl⟩,f3⟩
 have F13:=f.trans f3
 have c13:h3.cell id1 (off1+i)=some vy:=by rw[F13.cell i1];exact c1
 have ow3:=ow.fr f3
 have hlw:=aZ.length pvs
 have hll:((L.take i).filter λy=>decide (y∉l)).length<=i:=Nat.le_trans (List.length_filter_le _ _) (by rw[Nn];omega)
 have ft:=IF (L:=L) (l:=l) hiL
 rw[hy] at ft
 by_cases hm:y∈l
 ·have e3:decide (y∈l)=true:=decide_eq_true hm
  simp(disch:=omega)only[go_sem,e3]
  rw[fJ i]
  rw[if_pos hm,List.append_nil] at ft
  exact⟨L.length-(i+1),by omega,i+1,vo,ws,aA rfl,by omega,ow3,by rw[ft];exact pvs,F13,rfl⟩
 ·have e3:decide (y∈l)=false:=decide_eq_false hm
  obtain⟨h4,a4,ow4,f4,n4,_⟩:=zK (v:=vy) ow3 F13 (by omega) (bytes:=24) (by omega)
  simp(disch:=omega)only[go_sem,e3,sh1.ixa,c13,dB _ (z:= .aC) p1.eA.1 p1.eA.2,a4]
  rw[fJ i]
  rw[if_neg hm] at ft
  exact⟨L.length-(i+1),by omega,i+1,_,_,aA rfl,by omega,ow4,by rw[ft];exact pvs.append (gG.one hpw),f4,rfl⟩
end
structure CJ (b:Nat)(W:Nat->Prop)(h hh:H)(n:Nat)(tv:V)(ρ:Nat->Nat)(L:List Nat->Prop)(t0:rJ)(vl:V)(l:LN)(t:rJ):Prop where
 ex: ∃W' F wl,Dv b W' hh n tv ρ F t/\dG hh vl 1 wl h.next/\gG W' hh wl l/\Cq W' vl/\ ∀id,id<h.next->W' id->W id
 fx:Fx W h hh
 cls:Ah n L t l
 sub:Sub t0 t
theorem PX {n:Nat}{t:rJ}{x:List Nat}{L:List Nat->Prop}{l:LN}(c:Ah n L t l)(T':oV n (jL t n x))(h:(fK n t 0).length<(fK n (jL t n x) 0).length):0<(XK n (jL t n x) l).length:=by
 refine List.length_pos_iff.2 λe=>?_
 unfold XK at e;rw[List.filter_eq_nil_iff] at e
 have:(fK n (jL t n x) 0).length<=(fK n t 0).length:=List.Nodup.length_le_of_subset (wF T') λy hy=>by
  have:=e y hy;simp at this;exact (c.mem y).1 this
 omega
theorem AB (n:Nat)(t:rJ)(hn:n<=64):(fK n t 0).length<=4096:=by
 rw[←Oq];have:=Qe n t n;have:=Nat.mul_le_mul hn hn;omega
theorem JI {n:Nat}{t:rJ}{l m:LN}{a c:Nat}(ha:a<l.length)(hc:c<l.length):Pr n t (l++m) a c↔Pr n t l a c:=by
 have e: ∀k,k<l.length->(l++m).getD k []=l.getD k []:=λk hk=>by rw[List.getD,List.getD,Et hk]
 unfold Pr;rw[e a ha,e c hc]
theorem IX (b:Nat)(W:Nat->Prop)(h:H)(n:Nat)(tv:V)(ρ:Nat->Nat)(F:Nat->Nat->V)(t:rJ)(L:List Nat->Prop)(hn:n<=7)(h0:0<n)(hb:b<=h.next)(R:Dv b W h n tv ρ F t)(hL: ∀g,L g->bY n g)(tl:Ia n L t):
  Ev T 69 [tv] h (λ_ h'=> ∃W' F' t',Dv b W' h' n tv ρ F' t'/\Ia n L t'/\Sub t t'/\Ff n t'/\Fx W h h'/\ ∀id,id<h.next->W' id->W id):=by
 have hnn:n^n<=823543:=by
  have: ∀n,n<=7->n^n<=823543:=by decide
  exact this n hn
 refine bP nO rfl rfl ?_
 simp(disch:=omega)only[go_sem,nO,aE]
 refine (xJ b W h n tv ρ F t (by omega) h0 R tl.Ai).mono ?_
 rintro vl h1 ⟨wl,ow,pvs,f1⟩
 simp(disch:=omega)only[go_sem]
 refine aG (λk' vars hh=> ∃(i:Nat) (vl:V) (l:LN) (t':rJ),(∃g:Nat->V,vars= [tv,vl,aB i,g 3,g 4,g 5,g 6,g 7,g 8,g 9,g 10,g 11])/\CJ b W h hh n tv ρ L t vl l t'/\i<=l.length/\(∀a c,a<i->c<i->Pr n t' l a c)/\k'=1000000-i) 1000000
  ⟨0,vl,fK n t 0,t,aA rfl,⟨⟨λid=>W id∨ ∃off m c,vl= .sl id off m c,F,wl,?_,ow,?_,λid off m c e=> .inr ⟨_,_,_,e⟩,λid hid hw=>?_⟩,Fx.of f1,Ah.start tl,Sub.refl t⟩,iP _,λa c ha=>by omega,rfl⟩ ?_
 ·refine R.go (Fx.of f1) (λi hi=>f1.get _ (R.Io _ (R.wb i hi))) (λid hid hw=>?_) (λid hw=> .inl hw) (λid hw=>?_) (λid hw=>?_)
  ·rcases hw with hw|⟨off,m,c,e⟩
   ·exact hw
   ·have:=(ow.in _ _ _ _ e).2.1;omega
  ·rcases hw with hw|⟨off,m,c,e⟩
   ·exact kZ (R.Io id hw) f1.next
   ·exact (ow.in _ _ _ _ e).1
  ·rcases hw with hw|⟨off,m,c,e⟩
   ·exact R.low id hw
   ·have:=(ow.in _ _ _ _ e).2.1;omega
 ·refine gG.go pvs (Fx.of f1) λid hid hw=>?_
  rcases hw with hw|⟨off,m,c,e⟩
  ·exact hw
  ·have:=(ow.in _ _ _ _ e).2.1;omega
 ·rcases hw with hw|⟨off,m,c,e⟩
  ·exact hw
  ·have:=(ow.in _ _ _ _ e).2.1;omega
 clear ow pvs f1 vl wl h1
 rintro k' vars h1 ⟨i,vl,l,t1,⟨g,rfl⟩,J,hi,hP,rfl⟩
 have lb:=J.cls.bound
 have lvl:dC vl=some (aB (l.length:Int)):=by
  obtain⟨⟨W',F',wl,_,ow,pvs,_⟩,_⟩:=J;exact (gG.open ow.sv pvs).1
 by_cases hlt:(i:Int)<(l.length:Int)
 case neg=>
  have e1:=fF hlt;obtain rfl:i=l.length:=by omega
  simp(disch:=omega)only[go_sem,lvl,e1];obtain⟨⟨W',F',wl,R',_,_,_,hW⟩,fx,cls,sub⟩:=J;exact⟨W',F',t1,R',cls.tl,sub,cls.closed hP,fx,hW⟩
 have e1:=iK hlt
 have hil:i<l.length:=by omega
 simp(disch:=omega)only[go_sem,lvl,e1]
 refine uV (λvs hh=> ∃(vl:V) (l:LN) (t':rJ),(∃g:Nat->V,vs= [tv,vl,aB i,g 3,g 4,g 5,g 6,g 7,g 8,g 9,g 10,g 11])/\CJ b W h hh n tv ρ L t vl l t'/\i<l.length/\ ∀a c,a<i+1->c<i+1->Pr n t' l a c) ?_ ?_
 ·refine aG (λk' vars hh=> ∃(k:Nat) (vl:V) (l:LN) (t':rJ),(∃g:Nat->V,vars= [tv,vl,aB i,aB k,g 4,g 5,g 6,g 7,g 8,g 9,g 10,g 11])/\k<=i+1/\CJ b W h hh n tv ρ L t vl l t'/\i<l.length/\(∀a c,a<i->c<i->Pr n t' l a c)/\(∀c,c<k->Pr n t' l i c/\Pr n t' l c i)/\k'=i+1-k) (i+1)
   ⟨0,vl,l,t1,aA rfl,iP _,J,hil,hP,λc hc=>by omega,rfl⟩ ?_
  clear J hi hP lb lvl hlt e1 hil vl l t1 g
  rintro k' vars h2 ⟨k,vl,l,t1,⟨g,rfl⟩,hk,J,hil,hP,hQ,rfl⟩
  by_cases hlt:(k:Int)<=(i:Int)
  case neg=>
   have e1:=fF hlt;obtain rfl:k=i+1:=by omega
   simp(disch:=omega)only[go_sem,e1];refine⟨vl,l,t1,aA rfl,J,hil,λa c ha hc=>?_⟩
   by_cases ea:a=i
   ·subst ea;exact (hQ c hc).1
   ·by_cases ec:c=i
    ·subst ec;exact (hQ a ha).2
    ·exact hP a c (by omega) (by omega)
  have e1:=iK hlt
  have hki:k<=i:=by omega
  simp(disch:=omega)only[go_sem,e1]
  refine uV (λvs hh=> ∃(vl:V) (l:LN) (t':rJ),(∃g:Nat->V,vs= [tv,vl,aB i,aB k,g 4,g 5,g 6,g 7,g 8,g 9,g 10,g 11])/\CJ b W h hh n tv ρ L t vl l t'/\i<l.length/\(∀a c,a<i->c<i->Pr n t' l a c)/\ ∀c,c<k+1->Pr n t' l i c/\Pr n t' l c i) ?_ ?_
  ·refine aG (λk' vars hh=> ∃(q:Nat) (vl:V) (l:LN) (t':rJ),(∃g:Nat->V,vars= [tv,vl,aB i,aB k,aB q,g 5,g 6,g 7,g 8,g 9,g 10,g 11])/\q<=2/\CJ b W h hh n tv ρ L t vl l t'/\i<l.length/\(∀a c,a<i->c<i->Pr n t' l a c)/\(∀c,c<k->Pr n t' l i c/\Pr n t' l c i)/\(0<q->Pr n t' l i k)/\(1<q->Pr n t' l k i)/\k'=2-q) 2
    ⟨0,vl,l,t1,aA rfl,by omega,J,hil,hP,hQ,λh=>by omega,λh=>by omega,rfl⟩ ?_
   clear J hP hQ hlt e1 hil vl l t1 g
   rintro k' vars h3 ⟨q,vl,l,t1,⟨g,rfl⟩,hq,J,hil,hP,hQ,hA,hB,rfl⟩
   by_cases hlt:(q:Int)<2
   case neg=>
    have e1:=fF hlt;have hq2:q=2:=by omega
    simp(disch:=omega)only[go_sem,e1];refine⟨vl,l,t1,aA rfl,J,hil,hP,λc hc=>?_⟩
    by_cases ec:c=k
    ·subst ec;exact⟨hA (by omega),hB (by omega)⟩
    ·exact hQ c (by omega)
   have e1:=iK hlt
   obtain⟨⟨W',F',wl,R',ow,pvs,bl,hW⟩,fx,cls,sub⟩:=J
   obtain⟨lvl,idl,offl,shl,hcl⟩:=gG.open ow.sv pvs
   have lb:=cls.bound
   obtain⟨i1,c1,p1⟩:=hcl i hil
   obtain⟨_,c2,p2⟩:=hcl k (by omega)
   have ga:=cls.gen _ (bD (d:= []) hil)
   have gc:=cls.gen _ (bD (d:= []) (show k<l.length by omega))
   obtain⟨a,ea⟩:=exI (l.getD i [])
   obtain⟨c,ec⟩:=exI (l.getD k [])
   rw[ea] at p1 ga
   rw[ec] at p2 gc
   have A:=ga.fA hL
   have C:=gc.fA hL
   generalize wl.getD i .undef=va at c1 p1
   generalize wl.getD k .undef=vc at c2 p2
   have v1:=SV.eG p1.si
   have v2:=SV.eG p2.si
   have vv:=SV.eG ow.sv
   simp(disch:=omega)only[go_sem,e1,shl.ixa,c1,c2]
   have fb:Fr h3 (H.mk h3.tr (h3.next+10)):=(Fr.refl h3).bF (by omega)
   refine (wG va vc a c _ (by rw[A.len];omega) (p1.si.mono fb) (p2.si.mono fb) (λj hj=>by rw[C.len];exact A.fU (by rw[←A.len];exact hj))).mono ?_
   rintro vx h4 ⟨s4,f4,l4⟩
   have f34:=fb.trans f4
   have c14:h4.cell idl (offl+i)=some va:=by rw[f34.cell i1];exact c1
   have c24:h4.cell idl (offl+k)=some vc:=by rw[f34.cell i1];exact c2
   simp(disch:=omega)only[go_sem,c14,c24,v1,v2]
   have px:PV W' h4 vx (bE a c):=PV.fresh s4 l4 (λid hid=>kZ (R'.Io id hid) fb.next)
   refine oK (λvs hh=> ∃(vx:V) (x:List Nat),(∃g:Nat->V,vs= [tv,vl,aB i,aB k,aB q,vx,g 6,g 7,g 8,g 9,g 10,g 11])/\PV W' hh vx x/\(q=0->x=bE a c)/\(q=1->x=bE c a)/\gO n L x/\Fr h3 hh) ?_ ?_
   ·refine aY (λhq1=>?_) (λhq1=>?_)
    ·have w1:(1:Int)=(q:Int):=by omega
     simp(disch:=omega)only[go_sem,shl.ixa,c14,c24]
     have fb4:Fr h4 (H.mk h4.tr (h4.next+10)):=(Fr.refl h4).bF (by omega)
     refine (wG vc va c a _ (by rw[C.len];omega) (p2.si.mono (f34.trans fb4)) (p1.si.mono (f34.trans fb4)) (λj hj=>by rw[A.len];exact C.fU (by rw[←C.len];exact hj))).mono ?_
     rintro vy h5 ⟨s5,f5,l5⟩
     have f45:=fb4.trans f5
     have c15:h5.cell idl (offl+i)=some va:=by rw[(f34.trans f45).cell i1];exact c1
     have c25:h5.cell idl (offl+k)=some vc:=by rw[(f34.trans f45).cell i1];exact c2
     simp(disch:=omega)only[go_sem,c15,c25,v1,v2]
     refine .inl ⟨vy,bE c a,aA rfl,PV.fresh s5 l5 (λid hid=>kZ (R'.Io id hid) (f34.trans fb4).next),λe=>by omega,λ_=>rfl,gc.app hL ga,f34.trans f45⟩
    ·simp(disch:=omega)only[go_sem]
     exact .inl ⟨vx,bE a c,aA rfl,px,λ_=>rfl,λe=>by omega,ga.app hL gc,f34⟩
   clear px s4 l4 f34 c14 c24 f4 fb vx h4
   rintro vars h4 ⟨vx,x,⟨g,rfl⟩,px,hx0,hx1,gx,f4⟩
   have R4:=R'.mono f4
   simp(disch:=omega)only[go_sem]
   refine (xJ b W' h4 n tv ρ F' t1 (by omega) h0 R4 cls.tl.Ai).mono ?_
   rintro v5 h5 ⟨w5,o5,pe5,f5⟩
   have l5:dC v5=some (aB ((fK n t1 0).length:Int)):=(gG.open o5.sv (gG.fx pe5 (Fx.of f5))).1
   have m5:=AB n t1 (by omega)
   simp(disch:=omega)only[go_sem,l5]
   refine (Mq b W' h5 n tv ρ F' t1 vx x (by omega) h0 (R4.mono f5) (PV.mono px f5) (gx.fA hL) cls.tl.Ai).mono ?_
   rintro _ h6 ⟨F6,rfl,R6,f6⟩
   obtain⟨cls',sub',hnone,m,hm⟩:=cls.step hL gx
   simp(disch:=omega)only[go_sem]
   refine (xJ b W' h6 n tv ρ F6 _ (by omega) h0 R6 cls'.tl.Ai).mono ?_
   rintro v7 h7 ⟨w7,o7,pe7,f7⟩
   have l7:dC v7=some (aB ((fK n (jL t1 n x) 0).length:Int)):=(gG.open o7.sv (gG.fx pe7 (Fx.of f7))).1
   have m7:=AB n (jL t1 n x) (by omega)
   have R7:=R6.mono f7
   have f35:=f4.trans f5
   have x37:Fx W' h3 h7:=((Fx.of f35).trans (R4.wbx f6) (λ_ _ h=>h)).trans (Fx.of f7:Fx W' h6 h7) (λ_ _ h=>h)
   have hrow: ∀j,j<n->ρ j<h.next:=λj hj=>R.Io _ (R.wb j hj)
   have ow7:dG h7 vl 1 wl h.next:=by
    refine (((ow.fr f35).sC f6.next λid off m c e hid=>f6.get id hid λhw=>?_).fr f7);obtain⟨j,hj,rfl⟩:=hw;have:=(ow.in _ _ _ _ e).2.1;have:=hrow j hj;omega
   have pvs7:gG W' h7 wl l:=gG.fx pvs x37
   simp(disch:=omega)only[go_sem,l7]
   have hfin: ∀vl' h',CJ b W h h' n tv ρ L t vl' (l++m) (jL t1 n x)->CJ b W h h' n tv ρ L t vl' (l++m) (jL t1 n x)/\i<(l++m).length/\(∀a c,a<i->c<i->Pr n (jL t1 n x) (l++m) a c)/\(∀c,c<k->Pr n (jL t1 n x) (l++m) i c/\Pr n (jL t1 n x) (l++m) c i)/\(0<q+1->Pr n (jL t1 n x) (l++m) i k)/\(1<q+1->Pr n (jL t1 n x) (l++m) k i):=λvl' h' J=>by
    have hkl:k<l.length:=by omega
    refine⟨J,by rw[pW];omega,λa c h1 h2=>(hP a c h1 h2).mono sub' (by omega) (by omega),λc hc=>⟨(hQ c hc).1.mono sub' hil (by omega),(hQ c hc).2.mono sub' (by omega) hil⟩,λ_=>?_,λ_=>?_⟩
    ·by_cases e0:q=0
     ·rw[JI hil hkl]
      unfold Pr;rw[ea,ec,←hx0 e0];exact hnone
     ·exact (hA (by omega)).mono sub' hil hkl
    ·have e0:q=1:=by omega
     rw[JI hkl hil];unfold Pr;rw[ea,ec,←hx1 e0];exact hnone
   refine aY (λhgrow=>?_) (λhgrow=>?_)
   ·have hg:(fK n t1 0).length<(fK n (jL t1 n x) 0).length:=by omega
    have em:m=XK n (jL t1 n x) l:=by
     unfold VX at hm;rw[if_pos hg] at hm;exact (List.append_cancel_left hm).symm
    have m0:=PX cls cls'.tl.Ai hg
    rw[←em] at m0
    rw[hm] at cls'
    have lb2:=cls'.bound
    rw[pW] at lb2
    simp(disch:=omega)only[go_sem]
    refine (ML b W' h7 n tv vl wl l ρ F6 _ (by omega) h0 R7 cls'.tl.Ai ow7.sv pvs7 cls.fA (by omega)).mono ?_
    rintro v8 h8 ⟨w8,o8,p8,f8⟩
    rw[←em] at p8
    have lw:=aZ.length pvs7
    have lw8:=aZ.length p8
    have ow8:=ow7.fr f8
    have R8:=R7.mono f8
    obtain⟨h9,a9,p9⟩:=ow8.push (bytes:=24) o8.sv (n:=l.length) (m:=m.length) (by omega) (by omega) (by omega) m0 ⟨by omega,by omega⟩
    have n9:=p9.next
    have x89:=p9.fx bl
    have hnx:=x37.next
    have f8n:=f8.next
    have hfn:=fx.next
    simp(disch:=omega)only[go_sem,a9]
    rw[fJ q]
    have hw9: ∀id,id<h8.next->(W' id∨id=h8.next)->W' id:=λid h1 h2=>by
     rcases h2 with h2|h2
     ·exact h2
     ·omega
    have J':CJ b W h h9 n tv ρ L t (.sl h8.next 0 (l.length+m.length) (.un 1)) (l++m) (jL t1 n x):=by
     refine⟨⟨λid=>W' id∨id=h8.next,F6,wl++w8,?_,p9.own (by omega) (by omega) (by omega),?_,λid off m c e=>by cases e;exact .inr rfl,λid hid hw=>?_⟩,?_,cls',sub.trans sub'⟩
     ·refine R8.go x89 (λj hj=>p9.old _ (by have:=hrow j hj;omega) λid off m c e e2=>by have:=(ow8.in _ _ _ _ e).2.1;have:=hrow j hj;omega) hw9 (λid hw=> .inl hw) (λid hw=>?_) (λid hw=>?_)
      ·rcases hw with hw|hw
       ·have:=R8.Io id hw;omega
       ·omega
      ·rcases hw with hw|hw
       ·exact R8.low id hw
       ·omega
     ·exact (gG.go (gG.fx pvs7 (Fx.of f8)) x89 hw9).append (gG.go (gG.fx p8 (Fx.of f8)) x89 hw9)
     ·rcases hw with hw|hw
      ·exact hW id hid hw
      ·omega
     ·exact fx.trans ((x37.trans (Fx.of f8:Fx W' h7 h8) (λ_ _ h=>h)).trans x89 (λ_ _ h=>h)) hW
    obtain⟨j1,j2,j3,j4,j5,j6⟩:=hfin _ _ J'
    exact⟨2-(q+1),by omega,q+1,_,_,_,aA rfl,by omega,j1,j2,j3,j4,j5,j6,rfl⟩
   ·have hg: ¬(fK n t1 0).length<(fK n (jL t1 n x) 0).length:=by omega
    have em:m= []:=by
     unfold VX at hm;rw[if_neg hg] at hm;exact List.append_right_eq_self.1 hm.symm
    simp(disch:=omega)only[go_sem]
    rw[fJ q]
    have J':CJ b W h h7 n tv ρ L t vl (l++m) (jL t1 n x):=by
     rw[hm] at cls';exact⟨⟨W',F6,wl,R7,ow7,by rw[em,List.append_nil];exact pvs7,bl,hW⟩,fx.trans x37 hW,cls',sub.trans sub'⟩
    obtain⟨j1,j2,j3,j4,j5,j6⟩:=hfin _ _ J'
    exact⟨2-(q+1),by omega,q+1,_,_,_,aA rfl,by omega,j1,j2,j3,j4,j5,j6,rfl⟩
  rintro vars h3 ⟨vl,l,t1,⟨g,rfl⟩,J,hil,hP,hQ⟩
  have lb:=J.cls.bound
  simp(disch:=omega)only[go_sem]
  rw[fJ k]
  exact⟨i+1-(k+1),by omega,k+1,vl,l,t1,aA rfl,by omega,J,hil,hP,hQ,rfl⟩
 clear J hi hP lb lvl hlt e1 hil vl l t1 g
 rintro vars h2 ⟨vl,l,t1,⟨g,rfl⟩,J,hil,hP⟩
 have lb:=J.cls.bound
 simp(disch:=omega)only[go_sem]
 rw[fJ i]
 exact⟨1000000-(i+1),by omega,i+1,vl,l,t1,aA rfl,J,by omega,hP,rfl⟩
theorem Ik (t:rJ)(i k:Nat):(Ae t i k).length<=k:=by
 unfold Ae;have:=List.length_filter_le (λp=>p==i||(t i p).isSome) (List.range k);rwa [List.length_range] at this
theorem Um (b:Nat)(W:Nat->Prop)(h:H)(n:Nat)(tv:V)(ρ:Nat->Nat)(F:Nat->Nat->V)(t:rJ)(i:Nat)(hn:n<=64)(h0:0<n)(hi:i<n)(R:Dv b W h n tv ρ F t)(TI:oV n t):
  Ev T 98 [tv,aB i] h (λv h'=>dG h' v 1 (ints (zi (Ae t i n))) h.next/\Fr h h'):=by
 refine bP nG rfl rfl ?_
 have lv:=R.open.1
 simp(disch:=omega)only[go_sem,nG,aE]
 refine aG (λk' vars hh=> ∃(p:Nat) (vl:V),(∃g:Nat->V,vars= [tv,aB i,g 2,vl,aB p,g 5,g 6])/\i<=p/\p<=n/\dG hh vl 1 (ints (zi (Ae t i p))) h.next/\Fr h hh/\k'=n-p) (n-i)
  ⟨i,.aC,aA rfl,gV _,by omega,by rw[Yf TI];exact dG.aC _ _ _,Fr.refl h,rfl⟩ ?_
 rintro k' vars h2 ⟨p,vl,⟨g,rfl⟩,hp1,hp2,ow,f,rfl⟩
 by_cases hlt:(p:Int)<(n:Int)
 case neg=>
  have e1:=fF hlt;obtain rfl:p=n:=by omega
  simp(disch:=omega)only[go_sem,lv,e1];exact⟨ow,f⟩
 have e1:=iK hlt
 have hpn:p<n:=by omega
 have R3:=R.mono f
 obtain⟨_,id2,off2,sh2,hc2⟩:=R3.open
 have cr:=hc2 i hi
 have ce:=R3.cell hi hpn
 have hS:=R.ent i p hi hpn
 have ll:=Ik t i p
 have hs:=GL (t:=t) i p
 have step:(p=i∨(t i p).isSome)-> ∃h4,xT (h2.new (.cells false (ints [(p:Int)]))) 1 8 vl (.sl h2.next 0 1 (.kn 1))=some (.sl (h2.next+1) 0 ((Ae t i p).length+1) (.un 1),h4)/\dG h4 (.sl (h2.next+1) 0 ((Ae t i p).length+1) (.un 1)) 1 (ints (zi (Ae t i (p+1)))) h.next/\Fr h h4:=λhc=>by
  obtain⟨h4,a4,ow4,f4,n4,_⟩:=zK (v:= aB p) ow f (by rw[aM,aQ];omega) (bytes:=8) (by omega);rw[aM,aQ] at a4 ow4;refine⟨h4,a4,?_,f4⟩;rw[hs,if_pos hc,Hg,rG];exact ow4
 by_cases hpi:p=i
 ·have e2:decide ((p:Int)=(i:Int))=true:=iK (by omega)
  obtain⟨h4,a4,ow4,f4⟩:=step (.inl hpi)
  simp(disch:=omega)only[go_sem,lv,e1,e2,Hy,a4]
  rw[fJ p]
  exact⟨n-(p+1),by omega,p+1,_,aA rfl,by omega,by omega,ow4,f4,rfl⟩
 have e2:decide ((p:Int)=(i:Int))=false:=fF (by omega)
 cases hto:t i p with
 |none=>
  rw[hto] at hS;rw[hS.nil] at ce;simp(disch:=omega)only[go_sem,lv,e1,e2,sh2.ixa,cr,ce];rw[fJ p];refine⟨n-(p+1),by omega,p+1,vl,aA rfl,by omega,by omega,?_,f.bF (by omega),rfl⟩;rw[hs,if_neg (by rw[hto];simp [hpi]),List.append_nil];exact ow.fr ((Fr.refl h2).bF (by omega))
 |some y=>
  rw[hto] at hS;have pz:PV W h (F i p) y:=hS;have sn:=Bz pz (bY.ne h0 (TI.fA _ _ _ hto)) true;generalize F i p=vz at ce pz sn;obtain⟨h4,a4,ow4,f4⟩:=step (.inr (by rw[hto];rfl));simp(disch:=omega)only[go_sem,lv,e1,e2,sh2.ixa,cr,ce,sn,Hy,a4];rw[fJ p];exact⟨n-(p+1),by omega,p+1,_,aA rfl,by omega,by omega,ow4,f4,rfl⟩
theorem LS.abF {h h':H}{v:V}{l:List Int}(c:LS h l v h')(h0:0<l.length):xV h h' v l:=by
 obtain⟨_,f,e⟩:=c;obtain⟨id,rfl,h1,h2,h3⟩:=e h0;exact⟨⟨id,_,rfl,h1,h2,h3,.inl rfl⟩,f⟩
theorem EZ (b:Nat)(W:Nat->Prop)(h:H)(n:Nat)(tv:V)(ρ:Nat->Nat)(F:Nat->Nat->V)(t:rJ)(i0 p:Nat)(x:List Nat)(hn:n<=64)(h0:0<n)(hi0:i0<n)(hp:p<n)(R:Dv b W h n tv ρ F t)(TI:oV n t)(tw:pM n 0 (lM n t))(hto:(lM n t i0).to p=some x):
  Ev T 99 [tv,aB i0,aB p] h (λv h'=>xV h h' v (zi (Ge (lM n t) (n-(i0+1)) (i0+1) x))):=by
 have X:=(uA TI hi0 hto).1
 refine bP nL rfl rfl ?_
 obtain⟨lv,id9,off9,sh9,hc9⟩:=R.open
 simp(disch:=omega)only[go_sem,nL,aE,lv]
 refine (BH n h (by omega)).mono ?_
 rintro v1 h1 ⟨s1,f1,l1⟩
 simp(disch:=omega)only[go_sem]
 have hwin: ∀id,W id->id<h.next:=R.Io
 refine oK (λvs hh=> ∃vx,(∃g:Nat->V,vs= [tv,aB i0,aB p,g 3,vx,g 5,g 6,g 7,g 8,g 9,g 10,g 11,g 12,g 13])/\PV W hh vx x/\Fr h hh) ?_ ?_
 ·have hto':(if p=i0 then some (cJ n) else t i0 p)=some x:=hto
  refine aY (λhpi=>?_) (λhpi=>?_)
  ·have hpi':p≠i0:=by omega
   rw[if_neg hpi'] at hto'
   have R1:=R.mono f1
   obtain⟨_,id2,off2,sh2,hc2⟩:=R1.open
   have cr:=hc2 i0 hi0
   have ce:=R1.cell hi0 hp
   have hS:=R1.ent i0 p hi0 hp
   rw[hto'] at hS
   have pz:PV W h1 (F i0 p) x:=hS
   generalize F i0 p=vz at ce pz
   simp(disch:=omega)only[go_sem,sh2.ixa,cr,ce]
   exact .inl ⟨vz,aA rfl,pz,f1⟩
  ·have hpi':p=i0:=by omega
   rw[if_pos hpi'] at hto'
   obtain rfl:cJ n=x:=Option.some.inj hto'
   simp(disch:=omega)only[go_sem]
   exact .inl ⟨v1,aA rfl,PV.fresh s1 l1 hwin,f1⟩
 clear s1 f1 l1 v1 h1
 rintro vars h1 ⟨vx,⟨g,rfl⟩,px,f1⟩
 simp(disch:=omega)only[go_sem]
 rw[fJ i0]
 refine bT (λvs hh=> ∃vy,(∃g:Nat->V,vs= [tv,g 1,g 2,g 3,vy,g 5,g 6,g 7,g 8,g 9,g 10,g 11,g 12,g 13])/\PV W hh vy (Ge (lM n t) (n-(i0+1)) (i0+1) x)/\bY n (Ge (lM n t) (n-(i0+1)) (i0+1) x)/\Fr h hh) ?_ ?_
 ·refine aG (λk' vars hh=> ∃(k:Nat) (y:List Nat) (vy:V),(∃g:Nat->V,vars= [tv,g 1,g 2,g 3,vy,aB k,g 6,g 7,g 8,g 9,g 10,g 11,g 12,g 13])/\i0<k/\k<=n/\Ge (lM n t) (n-k) k y=Ge (lM n t) (n-(i0+1)) (i0+1) x/\
    PV W hh vy y/\bY n y/\Fr h hh/\k'=n-k) (n-(i0+1))
   ⟨i0+1,x,vx,aA rfl,by omega,by omega,rfl,px,X,f1,rfl⟩ ?_
  clear px f1 vx h1 g
  rintro k' vars h2 ⟨k,y,vy,⟨g,rfl⟩,hi1,hi2,hs,hy,Y,f,rfl⟩
  by_cases hlt:(k:Int)<(n:Int)
  case neg=>
   have e1:=fF hlt;obtain rfl:k=n:=by omega
   rw[Nat.sub_self] at hs;simp(disch:=omega)only[go_sem,lv,e1];have hs':y=Ge (lM k t) (k-(i0+1)) (i0+1) x:=hs;exact⟨vy,aA rfl,by rw[←hs'];exact hy,by rw[←hs'];exact Y,f⟩
  have hkn:k<n:=by omega
  have e1:=iK hlt
  have R2:=R.mono f
  simp(disch:=omega)only[go_sem,lv,e1]
  refine (Um b W h2 n tv ρ F t k hn h0 hkn R2 TI).mono ?_
  rintro vo h3 ⟨oo,f3⟩
  obtain⟨o,ho⟩:=exI ((lM n t k).orb)
  rw[show Ae t k n=o from ho] at oo
  have so:SI h3 vo (zi o):=oo.sv
  have lo:=so.lens
  rw[aQ] at lo
  have kI:=(tw k (iP _) hkn).1
  have hlo:o.length<=n:=by rw[←ho];exact Ik t k n
  obtain⟨id,off,sh,hid,hc⟩:=so.open
  rw[aQ] at sh hid hc
  have hy3:=PV.mono hy f3
  obtain⟨id2,off2,sh2,hid2,hc2⟩:=hy3.si.open
  rw[aQ,Y.len] at sh2 hid2 hc2
  simp(disch:=omega)only[go_sem]
  refine bT (λvs hh=>(∃g:Nat->V,vs= [tv,g 1,g 2,g 3,vy,aB k,g 6,aB (pD y k o:Int),g 8,g 9,g 10,g 11,g 12,g 13])/\pD y k o<n/\pD y k o∈k::o/\Fr h3 hh) ?_ ?_
  ·refine aG (λm' vars hh=> ∃(m b:Nat),(∃g:Nat->V,vars= [tv,g 1,g 2,g 3,vy,aB k,vo,aB b,aB m,g 9,g 10,g 11,g 12,g 13])/\m<=o.length/\b<n/\b∈k::o/\
     pD y b (o.drop m)=pD y k o/\Fr h3 hh/\m'=o.length-m) o.length
    ⟨0,k,aA rfl,iP _,hkn,List.mem_cons_self ..,rfl,Fr.refl h3,rfl⟩ ?_
   rintro m' vars h4 ⟨m,b1,⟨g3,rfl⟩,hm,hb,hbm,hbest,f4,rfl⟩
   by_cases hlt2:(m:Int)<(o.length:Int)
   case neg=>
    have e2:=fF hlt2;have em:m=o.length:=by omega
    rw[em,List.drop_length] at hbest;have hbest:b1=pD y k o:=hbest;simp(disch:=omega)only[go_sem,lo,e2];exact⟨by rw[←hbest];exact aA rfl,by rw[←hbest];exact hb,by rw[←hbest];exact hbm,f4⟩
   have e2:=iK hlt2
   have hm':m<o.length:=by omega
   rw[Mm _ _ hm'] at hbest
   have cq:h4.cell id (off+m)=some (aB (o.getD m 0:Nat)):=by rw[f4.cell (hid (by omega)),hc m hm'];congr 2;simp [zi,hm']
   have hqm:o.getD m 0∈o:=by rw[bJ hm'];exact List.getElem_mem hm'
   have hqn:=kI.lt hkn (by rw[ho];exact hqm)
   generalize o.getD m 0=q at cq hqm hqn hbest
   have c1:h4.cell id2 (off2+q)=some (aB (y.getD q 0:Nat)):=by rw[f4.cell (hid2 (by omega)),hc2 q hqn];congr 2;simp [zi,Y.len,hqn]
   have c2:h4.cell id2 (off2+b1)=some (aB (y.getD b1 0:Nat)):=by rw[f4.cell (hid2 (by omega)),hc2 b1 hb];congr 2;simp [zi,Y.len,hb]
   simp(disch:=omega)only[go_sem,lo,e2,sh.ixa,cq,sh2.ixa,c1,c2]
   have fb:Fr h3 (H.mk h4.tr (h4.next+12)):=f4.bF (by omega)
   refine aY (λhxx=>?_) (λhxx=>?_)
   ·rw[if_pos (by omega)] at hbest
    simp(disch:=omega)only[go_sem,sh.ixa,cq]
    rw[fJ m]
    exact⟨o.length-(m+1),by omega,m+1,q,aA rfl,by omega,hqn,List.mem_cons_of_mem _ hqm,hbest,fb,rfl⟩
   ·rw[if_neg (by omega)] at hbest
    simp(disch:=omega)only[go_sem]
    rw[fJ m]
    exact⟨o.length-(m+1),by omega,m+1,b1,aA rfl,by omega,hb,hbm,hbest,fb,rfl⟩
  rintro vars h4 ⟨⟨g4,rfl⟩,hb,hbm,f4⟩
  have hstep:n-k=(n-(k+1))+1:=by omega
  rw[hstep] at hs
  have hs:Ge (lM n t) (n-(k+1)) (k+1) (if pD y k (lM n t k).orb=k then y else bE (((lM n t k).to (pD y k (lM n t k).orb)).getD []) y)=Ge (lM n t) (n-(i0+1)) (i0+1) x:=hs
  rw[ho] at hs
  have R4:=R2.mono (f3.trans f4)
  have hy4:=PV.mono hy3 f4
  generalize pD y k o=q at hs hb hbm
  by_cases hbk:q=k
  ·rw[if_pos hbk] at hs
   have e0:decide ((q:Int)≠(k:Int))=false:=fF (by omega)
   simp(disch:=omega)only[go_sem,e0]
   rw[fJ k]
   exact⟨n-(k+1),by omega,k+1,y,vy,aA rfl,by omega,by omega,hs,hy4,Y,(f.trans f3).trans f4,rfl⟩
  rw[if_neg hbk] at hs
  have e0:decide ((q:Int)≠(k:Int))=true:=iK (by omega)
  have hbo:q∈(lM n t k).orb:=by
   rcases List.mem_cons.1 hbm with e|e
   ·exact absurd e hbk
   ·rw[ho];exact e
  obtain⟨u,hu⟩:=kI.to hbo
  have U:=kI.fA _ _ hu
  have hu':(if q=k then some (cJ n) else t k q)=some u:=hu
  rw[if_neg hbk] at hu'
  obtain⟨_,id5,off5,sh5,hc5⟩:=R4.open
  have cr:=hc5 k hkn
  have ce:=R4.cell hkn hb
  have hS:=R4.ent k q hkn hb
  rw[hu'] at hS
  have pu:PV W h4 (F k q) u:=hS
  generalize F k q=vu at ce pu
  rw[hu] at hs
  simp(disch:=omega)only[go_sem,e0,sh5.ixa,cr,ce]
  refine (wG vu vy u y h4 (by rw[U.len];omega) pu.si hy4.si (λj hj=>by rw[Y.len];exact U.fU (by rw[←U.len];exact hj))).mono ?_
  rintro v h5 ⟨s5,f5,l5⟩
  simp(disch:=omega)only[go_sem]
  rw[fJ k]
  exact⟨n-(k+1),by omega,k+1,_,v,aA rfl,by omega,by omega,hs,PV.fresh s5 l5 R4.Io,U.mul Y,((f.trans f3).trans f4).trans f5,rfl⟩
 rintro vars h2 ⟨vy,⟨g2,rfl⟩,py,Y,f2⟩
 simp(disch:=omega)only[go_sem]
 refine (XD vy _ h2 py.si (by rw[aQ,Y.len];omega)).mono ?_
 rintro v h3 c
 have fr:=LS.abF c (by rw[aQ,Y.len];exact h0)
 simp(disch:=omega)only[go_sem]
 obtain⟨⟨id,cap,e1,e2,e3,e4,e5⟩,f3⟩:=fr
 exact⟨⟨id,cap,e1,by have:=f2.next;omega,e3,e4,e5⟩,f2.trans f3⟩
theorem EF (b:Nat)(W0:Nat->Prop)(h:H)(n:Nat)(tv:V)(ρ:Nat->Nat)(F:Nat->Nat->V)(t:rJ)(hn:n<=64)(h0:0<n)(R:Dv b W0 h n tv ρ F t)(TI:oV n t)(tw:pM n 0 (lM n t)):
  Ev T 70 [tv] h (λv h'=> ∃O R',GM (λid=>id<h.next) h' v n O R'/\eJ n (S n (lM n t) 0) O R'/\Fr h h'):=by
 refine bP nW rfl rfl ?_
 have lv:=R.open.1
 obtain⟨τ,hτ⟩:=exI (lM n t)
 obtain⟨B,hB⟩:=exI h.next
 have bl:vN [aB 0,.aC,.aC] [(0,1,aB n)]=some (.agg [aB n,.aC,.aC]):=by
  have e1:putAt [aB 0,.aC,.aC] 0 [aB n]=some [aB n,.aC,.aC]:=by simp [putAt]
  simp [vN,jY,e1,V.cells,V.one]
 obtain⟨h1,h1e⟩: ∃h1,h1=(h.new (.cells false [aB 0,.aC,.aC])).new (.cells false [aB 0,.aC,.aC]):=⟨_,rfl⟩
 have n1:h1.next=B+2:=by rw[h1e,H.aV,H.aV,hB]
 have g1:h1.get (B+1)=bX [aB 0,.aC,.aC]:=by
  rw[h1e];have:=H.aN (h.new (.cells false [aB 0,.aC,.aC])) (.cells false [aB 0,.aC,.aC]);rwa [H.aV,hB] at this
 have g0:h1.get B=bX [aB 0,.aC,.aC]:=by rw[h1e,H.bU _ (by rw[H.aV,hB];omega),←hB,H.aN]
 have f1:Fr h h1:=by rw[h1e];exact ((Fr.refl h).new _).new _
 simp(disch:=omega)only[go_sem,nW,aE,hB,lv,bl]
 rw[←h1e]
 simp(disch:=omega)only[go_sem,gI h1 (B+1) 0 (v:= aB n) (u:= .aC) (w:= .aC) rfl rfl rfl,g1,gZ]
 obtain⟨h2,h2e⟩: ∃h2,h2=h1.set (B+1) (bX [aB n,.aC,.aC]):=⟨_,rfl⟩
 have n2:h2.next=B+2:=by rw[h2e];exact n1
 have f2:Fr h h2:=by rw[h2e];exact f1.set (by omega) _
 have g2:h2.get (B+1)=bX [aB n,.aC,.aC]:=by rw[h2e,H.aT]
 have g20:h2.get B=bX [aB 0,.aC,.aC]:=by rw[h2e,H.aI _ (by omega)];exact g0
 rw[←h2e]
 clear h1e h2e f1 g0 g1 n1 h1
 refine aG (λk' vars hh=> ∃(i:Nat) (W:Nat->Prop) (O:LN) (R':oJ) (vO vR:V) (wsO wsR:List V),(∃g:Nat->V,vars= [tv,.ptr B 0,.ptr (B+1) 0,aB i,g 4,g 5,g 6,g 7,g 8])/\i<=n/\zE h hh (B+1) B W n O R' vO vR wsO wsR/\
   hh.get B=bX [aB 0,.aC,.aC]/\O.length=i/\R'.length=i/\(∀j,j<i->ChL τ n j (O.getD j []) (R'.getD j []))/\k'=n-i) n
  ⟨0,_, [], [],_,_,_,_,aA rfl,iP _,zE.start (by omega) (by omega) (by omega) (by omega) (by omega) f2 g2,g20,rfl,rfl,λj hj=>by omega,rfl⟩ ?_
 clear f2 g2 g20 n2 h2
 rintro k' vars h2 ⟨i,W,O,R',vO,vR,wsO,wsR,⟨g,rfl⟩,hi,A,gB,lO,lR,hC,rfl⟩
 by_cases hlt:(i:Int)<(n:Int)
 case neg=>
  have e1:=fF hlt;obtain rfl:i=n:=by omega
  have hr:=aU A.get;have nB:=A.fr.next;simp(disch:=omega)only[go_sem,lv,e1,hr,gI h2 B 0 (v:= aB i) (u:=vO) (w:=vR) rfl (SV.dS A.oO.sv).2.1 (SV.dS A.oR.sv).2.1,gB,gZ];have hr2:=aU (h:=h2.set B (bX [aB i,vO,vR])) (H.aT ..);have fB:Fx (· =B) h2 (h2.set B (bX [aB i,vO,vR])):=Fx.set h2 (W:=(· =B)) rfl _;simp(disch:=omega)only[go_sem,hr2]
  obtain⟨h3,h3e⟩: ∃h3,h3=h2.set B (bX [aB i,vO,vR]):=⟨_,rfl⟩
  rw[←h3e] at fB ⊢;have A3:=A.box h3e;refine⟨O,R',by rw[←hB];exact A3.chw,?_,A3.fr⟩;rw[hτ] at tw ⊢;have X:=tw.chain (O:=O) (R:=R') lO lR (λj hj=>(hC j hj).1) (λj hj=>(hC j hj).2.1) (λj hj=>(hC j hj).2.2.1) (λj hj=>(hC j hj).2.2.2);exact X
 have e1:=iK hlt
 have hin:i<n:=by omega
 have R2:=R.mono A.fr
 have kI:=(tw i (iP _) hin).1
 rw[hτ] at kI
 simp(disch:=omega)only[go_sem,lv,e1]
 refine (Um b W0 h2 n tv ρ F t i hn h0 hin R2 TI).mono ?_
 rintro vo h4 ⟨oo,f4⟩
 obtain⟨q,hq⟩:=exI (Ae t i n)
 have ascq:q.Pairwise (· < ·):=by rw[←hq];exact HZ i n
 have memq: ∀p,p∈q↔p∈(τ i).orb:=λp=>by rw[←hq,MO,hτ]
 have hql:q.length<=n:=by rw[←hq];exact Ik t i n
 have hpos:0<q.length:=List.length_pos_of_mem ((memq i).2 kI.base)
 rw[hq] at oo
 obtain⟨P,cp,rfl,hP1,hP2,cP⟩: ∃P cp,vo= .sl P 0 q.length cp/\h2.next<=P/\P<h4.next/\ ∀k,k<q.length->h4.cell P k=some (aB (q.getD k 0:Nat)):=by
  rcases oo with ⟨_,e⟩|⟨id,m,cap,rest,e1,e2,e3,e4,e5,e6⟩
  ·have:=congrArg List.length e
   rw[aM,aQ,List.length_nil] at this;omega
  ·rw[aM,aQ,Nat.mul_one] at e2
   subst e2;exact⟨id,cap,e1,e4,e5,λk hk=>by rw[H.aF e6,Et (by rw[aM,aQ];exact hk),El hk]⟩
 have A4:=A.mono f4
 have pq:PV W h4 (.sl P 0 q.length cp) q:=⟨oo.sv,λhw=>by have:=A.wb P hw;omega⟩
 have gB4:h4.get B=bX [aB 0,.aC,.aC]:=by rw[f4.get B (A.wb B A.d)];exact gB
 clear A gB R2 oo
 simp(disch:=omega)only[go_sem]
 refine bT (λvs hh=> ∃(vr:V) (r:LN),(∃g:Nat->V,vs= [tv,.ptr B 0,.ptr (B+1) 0,aB i,.sl P 0 q.length cp,vr,g 6,g 7,g 8])/\PL W hh vr r/\ChL τ n i q r/\Fr h4 hh) ?_ ?_
 ·refine aG (λk' vs hh=> ∃(k:Nat) (vr:V) (ws:List V) (r:LN) (W':Nat->Prop),(∃g:Nat->V,vs= [tv,.ptr B 0,.ptr (B+1) 0,aB i,.sl P 0 q.length cp,vr,aB k,g 7,g 8])/\k<=q.length/\dG hh vr 1 ws h4.next/\gG W' hh ws r/\Cq W' vr/\(∀id,W id->W' id)/\(∀id,W' id->id<hh.next/\(W id∨h4.next<=id))/\r.length=k/\
    (∀j,j<k-> ∀y,(τ i).to (q.getD j 0)=some y->r.getD j []=Ge τ (n-(i+1)) (i+1) y)/\Fr h4 hh/\k'=q.length-k) q.length
   ⟨0,.aC, [], [],W,aA rfl,iP _,dG.aC _ _ _,trivial,λ_ _ _ _ e=>(by cases e),λ_ h=>h,λid h=>⟨A4.wb id h,.inl h⟩,rfl,λj hj=>by omega,Fr.refl _,rfl⟩ ?_
  rintro k' vars h5 ⟨k,vr,ws,r,W',⟨g,rfl⟩,hk,ow,pvs,bl',hW1,hW2,lr,hr,f5,rfl⟩
  by_cases hlt2:(k:Int)<(q.length:Int)
  case neg=>
   have e2:=fF hlt2;obtain rfl:k=q.length:=by omega
   simp(disch:=omega)only[go_sem,e2];refine⟨vr,r,aA rfl,⟨ws,ow.sv,?_,pvs.sG (λid _ h=>hW1 id h),dG.PF ow⟩,⟨ascq,memq,lr,hr⟩,f5⟩
   cases vr with
   |sl id off m c=>exact λh=>by have:=(ow.in _ _ _ _ rfl).2.1;have:=A4.wb id h;omega
   |_=>trivial
  have e2:=iK hlt2
  have hk':k<q.length:=by omega
  obtain⟨p,hp⟩:=exI (q.getD k 0)
  have ck:h5.cell P k=some (aB p):=by
   rw[f5.cell hP2,cP k hk',hp]
  have hpm:p∈(τ i).orb:=(memq p).1 (by rw[←hp,bJ hk'];exact List.getElem_mem hk')
  have hpn:=kI.lt hin hpm
  obtain⟨y,hy⟩:=kI.to hpm
  have Y:=kI.fA _ _ hy
  have R5:=R.mono (A4.fr.trans f5)
  simp(disch:=omega)only[go_sem,e2,ck]
  refine (EZ b W0 h5 n tv ρ F t i p y hn h0 hin hpn R5 TI tw (by rw[hτ];exact hy)).mono ?_
  rw[hτ]
  rintro v7 h7 fr7
  have f7:=fr7.fr
  have p7:PV W' h7 v7 (Ge τ (n-(i+1)) (i+1) y):=fr7.pv λid h=>(hW2 id h).1
  simp(disch:=omega)only[go_sem,dB h7 (z:= .aC) p7.eA.1 p7.eA.2]
  obtain⟨h8,h8e⟩: ∃h8,h8=h7.new (.cells false [v7]):=⟨_,rfl⟩
  have g8:h8.get h7.next=bX [v7]:=by rw[h8e,H.aN]
  have n8:h8.next=h7.next+1:=by rw[h8e,H.aV]
  have f8:Fr h7 h8:=by rw[h8e];exact (Fr.refl h7).new _
  rw[←h8e]
  have f58:=f7.trans f8
  have ow8:=ow.fr f58
  have hws:=aZ.length pvs
  obtain⟨h9,a9,p9⟩:=ow8.push (bytes:=24) (SV.one (by omega) g8 (.kn 1)) (n:=k) (m:=1) (by omega) rfl (by omega) (by omega) (by omega)
  simp(disch:=omega)only[go_sem,a9]
  rw[fJ k]
  have n9:=p9.next
  have f9:Fx W' h8 h9:=p9.fx bl'
  have hnext:=f58.next
  have hw9: ∀id,id<h8.next->(W' id∨id=h8.next)->W' id:=λid h1 h2=>by
   rcases h2 with h2|h2
   ·exact h2
   ·omega
  refine⟨q.length-(k+1),by omega,k+1,_,_,r++ [Ge τ (n-(i+1)) (i+1) y],λid=>W' id∨id=h8.next,aA rfl,by omega,p9.own (by omega) rfl (by have:=f5.next;omega),?_,λid off m c e=>by cases e;exact .inr rfl,λid h=> .inl (hW1 id h),λid h=>?_,by rw[pW,lr];rfl,λj hj z hz=>?_,?_,rfl⟩
  ·exact (gG.go (gG.go pvs (Fx.of f58) (λ_ _ h=>h)) f9 hw9).append (gG.one (PV.go (p7.mono f8) f9 hw9))
  ·rcases h with h|h
   ·have:=hW2 id h;exact⟨by omega,this.2⟩
   ·have:=f5.next;exact⟨by omega,.inr (by omega)⟩
  ·by_cases e:j=k
   ·subst e
    rw[hp,hy] at hz
    cases hz
    rw[←lr,kP]
   ·rw[mU (by omega)]
    exact hr j (by omega) z hz
  ·refine⟨by have:=f5.next;omega,λid hid=>?_⟩
   rw[p9.old id (by have:=f5.next;omega) (λid' off m c e e2=>by have:=(ow.in _ _ _ _ e).2.1;omega),f58.get id (by have:=f5.next;omega)]
   exact f5.get id hid
 rintro vars h5 ⟨vr,r,⟨g,rfl⟩,pl,hcl,f5⟩
 have A5:=A4.mono f5
 have pq5:=pq.mono f5
 have gB5:h5.get B=bX [aB 0,.aC,.aC]:=by rw[f5.get B (A4.wb B A4.d)];exact gB4
 have cO:h5.cell (B+1) 1=some vO:=by rw[H.aF A5.get];rfl
 have cR:h5.cell (B+1) 2=some vR:=by rw[H.aF A5.get];rfl
 obtain⟨ws,pl1,pl2,pl3,pl4⟩:=pl
 have pl:PL W h5 vr r:=⟨ws,pl1,pl2,pl3,pl4⟩
 have fn5:=A5.fr.next
 have cn5:=A5.wb _ A5.c
 simp(disch:=omega)only[go_sem,cO,cR,dB _ (z:= .aC) (v:= .sl P 0 q.length cp) rfl rfl]
 obtain⟨h6,h6e⟩: ∃h6:H,h6=H.mk ((H.mk h5.tr (h5.next+3)).new (Ob.cells false [.sl P 0 q.length cp])).tr (h5.next+14):=⟨_,rfl⟩
 rw[←h6e]
 have g6:h6.get (h5.next+3)=bX [.sl P 0 q.length cp]:=by rw[h6e];exact H.aN (H.mk h5.tr (h5.next+3)) _
 have n6:h6.next=h5.next+14:=by rw[h6e]
 have o6: ∀k,k≠h5.next+3->h6.get k=h5.get k:=λk hk=>by rw[h6e];exact H.bU (H.mk h5.tr (h5.next+3)) (by simpa using hk) _
 have f6:Fr h5 h6:=⟨by omega,λid hid=>o6 id (by omega)⟩
 have hwO:=aZ.length A5.aO
 have hwR:=aZ.length A5.aR
 obtain⟨h7,a7,p7⟩:=(A5.oO.fr f6).push (bytes:=24) (SV.one (by omega) g6 (.kn 1)) (n:=i) (m:=1) (by omega) rfl (by omega) (by omega) (by omega)
 have n7:=p7.next
 have oldO: ∀k,k<h5.next->eC vO k->h7.get k=h5.get k:=λk h1 h2=>by rw[p7.old k (by omega) h2,o6 k (by omega)]
 have cR7:h7.cell (B+1) 2=some vR:=by unfold H.cell;rw[oldO (B+1) cn5 A5.pO,A5.get];rfl
 have eR:eG vR vR=true:=A5.oR.sv.eG
 have svr:vr.cells= [vr]/\vr.one=true:=⟨(SV.dS pl1).1,(SV.dS pl1).2.1⟩
 simp(disch:=omega)only[go_sem,a7,cR7,eR,dB _ (z:= .aC) svr.1 svr.2]
 obtain⟨h8,h8e⟩: ∃h8:H,h8=H.mk ((H.mk h7.tr (h5.next+8)).new (Ob.cells false [vr])).tr h7.next:=⟨_,rfl⟩
 rw[←h8e]
 have g8:h8.get (h5.next+8)=bX [vr]:=by rw[h8e];exact H.aN (H.mk h7.tr (h5.next+8)) _
 have n8:h8.next=h7.next:=by rw[h8e]
 have o8: ∀k,k≠h5.next+8->h8.get k=h7.get k:=λk hk=>by rw[h8e];exact H.bU (H.mk h7.tr (h5.next+8)) (by simpa using hk) _
 have oR8:dG h8 vR 1 wsR h.next:=A5.oR.mono (by omega) λid off m c e _ hid=>by
  rw[o8 id (by omega),oldO id hid (λid' off' n' c' e' e2=>A5.DM _ _ _ _ e' _ _ _ _ e e2.symm)]
 obtain⟨h9,a9,p9⟩:=oR8.push (bytes:=24) (SV.one (by omega) g8 (.kn 1)) (n:=i) (m:=1) (by omega) rfl (by omega) (by omega) (by omega)
 have n9:=p9.next
 have apR: ∀k,h5.next<=k->eC vR k:=λk hk id off m c e e2=>by have:=(A5.oR.in _ _ _ _ e).1;omega
 have old9: ∀k,k<h5.next->eC vO k->eC vR k->h9.get k=h5.get k:=λk h1 h2 h3=>by rw[p9.old k (by omega) h3,o8 k (by omega),oldO k h1 h2]
 have gC9:h9.get (B+1)=bX [aB n,vO,vR]:=by rw[old9 _ cn5 A5.pO A5.pR];exact A5.get
 have pt1: ∀(hh:H) (x:V),fG (bX [aB n,vO,vR]) hh (B+1) 1 [x]=some (hh.set (B+1) (bX [aB n,x,vR])):=λhh x=>bW (by simp) hh _ x
 have pt2: ∀(hh:H) (x y:V),fG (bX [aB n,x,vR]) hh (B+1) 2 [y]=some (hh.set (B+1) (bX [aB n,x,y])):=λhh x y=>bW (by simp) hh _ y
 simp(disch:=omega)only[go_sem,a9,gC9,pt1,pt2]
 rw[fJ i]
 obtain⟨ha,hb⟩:h6.next=h5.next+14/\h8.next=h5.next+15:=⟨n6,by omega⟩
 rw[ha,hb]
 obtain⟨h10,h10e⟩: ∃h10,h10=(h9.set (B+1) (bX [aB n,.sl (h5.next+14) 0 (i+1) (.un 1),vR])).set (B+1) (bX [aB n,.sl (h5.next+14) 0 (i+1) (.un 1),.sl (h5.next+15) 0 (i+1) (.un 1)]):=⟨_,rfl⟩
 rw[←h10e]
 have o10: ∀k,k≠B+1->h10.get k=h9.get k:=λk hk=>by rw[h10e,H.aI _ hk,H.aI _ hk]
 have n10:h10.next=h5.next+16:=by rw[h10e];show h9.next=_;omega
 have A10:=A5.step (v4:= .sl P 0 q.length cp) (v5:=vr) (o:=q) (r:=r) (h6:=h10) (a:=h5.next+14) (b:=h5.next+15) (k1:=i+1) (k2:=i+1) pq5 pl (by omega) (by omega) (by omega) (by omega) (by omega) (by omega) (by omega) (by rw[h10e,H.aT])
  (by rw[o10 _ (by omega),p9.old _ (by omega) (apR _ (by omega)),o8 _ (by omega),←ha];exact p7.get) (by rw[o10 _ (by omega),←hb];exact p9.get) (λk h1 h2 h3 h4=>by rw[o10 k h2];exact old9 k h1 h3 h4)
 refine⟨n-(i+1),by omega,i+1,_,_,_,_,_,_,_,aA rfl,by omega,A10,?_,by rw[pW,lO];rfl,by rw[pW,lR];rfl,λj hj=>?_,rfl⟩
 ·rw[old9 B (A5.wb B A5.d) A5.qO A5.qR];exact gB5
 ·by_cases e:j=i
  ·subst e
   have e1:(O++ [q]).getD j []=q:=by rw[←lO];exact kP
   have e2:(R'++ [r]).getD j []=r:=by rw[←lR];exact kP
   rw[e1,e2]
   exact hcl
  ·rw[mU (by omega),mU (by omega)]
   exact hC j (by omega)
theorem IP (h:H)(n:Nat)(hn:n<=100000):Cu h 1 24 [.aC] (aB n) (aB n)=some (.sl h.next 0 n (.kn n),h.new (.cells false (rc n λ_=> .aC))):=by
 have e:dV [V.aC] n=rc n λ_=> .aC:=(Iz (by simp [dV]) λi hi=>by simp [dV,hi,Nat.mod_one]).symm
 rw[qT (by omega) (Int.le_refl _) (by omega) (by omega),Int.toNat_natCast,Nat.mul_one,e]
theorem NM (n:Nat)(h:H)(hn:n<=64):Ev T 67 [aB n] h (λv h'=> ∃ρ F,Dv h.next (WB n ρ) h' n v ρ F (λ_ _=>none)/\Fr h h'):=by
 refine bP uH rfl rfl ?_;simp(disch:=omega)only[go_sem,uH,aE]
 refine aG (λk' vars hh=> ∃(i:Nat) (vl:V) (rs:List Nat),(∃g:Nat->V,vars= [aB n,g 1,vl,aB i,g 4])/\i<=n/\rs.length=i/\dG hh vl 1 (rs.map λr=> .sl r 0 n (.kn n)) h.next/\rs.Nodup/\
   (∀r∈rs,h.next<=r/\r<hh.next/\hh.get r=some (.cells false (rc n λ_=> .aC))/\eC vl r)/\Fr h hh/\k'=n-i) n
  ⟨0,.aC, [],aA rfl,iP _,rfl,dG.aC _ _ _,List.nodup_nil,λr hr=>absurd hr List.not_mem_nil,Fr.refl h,rfl⟩ ?_
 rintro k' vars h2 ⟨i,vl,rs,⟨g,rfl⟩,hi,lr,ow,nd,hr,f,rfl⟩
 by_cases hlt:(i:Int)<(n:Int)
 case neg=>
  have e1:=fF hlt;obtain rfl:i=n:=by omega
  simp(disch:=omega)only[go_sem,e1];have hm: ∀j,j<i->rs.getD j 0∈rs:=λj hj=>bD (by omega)
  refine⟨λj=>rs.getD j 0,λ_ _=> .aC,⟨?_,?_,λj hj=>(hr _ (hm j hj)).2.2.1,λj hj=>⟨j,hj,rfl⟩,?_,?_,λa c ha hc e=>?_,λ_ _ _ _=>rfl⟩,f⟩
  ·have e2:(rc i λj=>V.sl (rs.getD j 0) 0 i (.kn i))=rs.map λr=> .sl r 0 i (.kn i):=Iz (by rw[lW];exact lr) λj hj=>by
    rw[List.getElem?_map,fX (by omega),List.getD,fX (by omega)];rfl
   rw[e2];exact ow.sv
  ·cases vl with
   |sl id off m c=>
    rintro⟨j,hj,e⟩;exact (hr _ (hm j hj)).2.2.2 _ _ _ _ rfl e
   |_=>trivial
  ·rintro id ⟨j,hj,rfl⟩;exact (hr _ (hm j hj)).2.1
  ·rintro id ⟨j,hj,rfl⟩;exact (hr _ (hm j hj)).1
  ·have ea:=fX (show a<rs.length by omega)
   have ec:=fX (show c<rs.length by omega);simp only[List.getD,ea,ec,Option.getD_some] at e;rcases Nat.lt_trichotomy a c with h1|h1|h1
   ·exact absurd e (List.pairwise_iff_getElem.1 nd a c (by omega) (by omega) h1)
   ·exact h1
   ·exact absurd e.symm (List.pairwise_iff_getElem.1 nd c a (by omega) (by omega) h1)
 have e1:=iK hlt;obtain⟨S,hS⟩:=exI h2.next;obtain⟨h3,e3,n3,g3,o3,f3⟩:=fR hS (rc n λ_=> .aC);have fn:=f.next;obtain⟨h4,a4,ow4,f4,n4,o4⟩:=zK (v:= .sl S 0 n (.kn n)) (ow.fr f3) (f.trans f3) (by rw[lW];omega) (bytes:=24) (by omega);rw[lW,lr,n3] at a4 ow4;simp(disch:=omega)only[go_sem,e1,IP h2 n (by omega),hS,e3,dB _ (z:= .aC) (v:= .sl S 0 n (.kn n)) rfl rfl,n3,a4];rw[fJ i];have hlt2: ∀r∈rs,r<S:=λr h=>by have:=(hr r h).2.1;omega
 refine⟨n-(i+1),by omega,i+1,_,rs++ [S],aA rfl,by omega,by rw[pW,lr];rfl,by rw[List.map_append];exact ow4,List.nodup_append.2 ⟨nd,by simp,λa ha c hc e=>?_⟩,λr h=>?_,f4,rfl⟩
 ·have:=hlt2 a ha
  simp at hc;omega
 ·rcases Bw.1 h with h|h
  ·obtain⟨b1,b2,b3,b4⟩:=hr r h
   refine⟨b1,by omega,by rw[o4 r (by omega) b4,o3 r (by omega)];exact b3,λid off m c e=>by cases e;omega⟩
  ·simp at h
   subst h;refine⟨by omega,by omega,by rw[o4 _ (by omega) (λid off m c e e2=>by have:=(ow.in _ _ _ _ e).1;omega)];exact g3,λid off m c e=>by cases e;omega⟩
theorem Dh (vl:V)(n:Nat)(l:LN)(h:H)(n0:1<=n)(n7:n<=7)(hl:l.length<=4096)(hv:SP h vl l)(hP: ∀g∈l,bY n g):
  Ev T 44 [aB n,vl] h (λv h'=> ∃vc O R,v= .tup [vc,aB 0]/\GC (λid=>id<h.next) h' vc n O R (gO n (· ∈l))/\Fr h h'):=by
 refine bP xA rfl rfl ?_
 obtain⟨B,hB⟩:=exI h.next
 obtain⟨h1,e1,n1,g1,o1,f1⟩:=fR hB [aB 0,.aC,.aC]
 have d1:decide ((n:Int)<1)=false:=fF (by omega)
 have d2:decide ((64:Int)<(n:Int))=false:=fF (by omega)
 have lv:=hv.lens
 rw[lW] at lv
 have d3:decide ((4096:Int)<(l.length:Int))=false:=fF (by omega)
 obtain⟨id,off,ws,sh,hid,hwl,hc,hall⟩:=hv.open
 rw[lW] at sh hid hwl hc
 simp(disch:=omega)only[go_sem,xA,aE,hB,e1,d1,d2,lv,d3]
 refine bT (λvs hh=>(∃g:Nat->V,vs= [aB n,vl,.ptr B 0,g 3,g 4,g 5,g 6,g 7,g 8,g 9,g 10,g 11,g 12,g 13])/\Fr h1 hh) ?_ ?_
 ·refine aG (λk' vs hh=> ∃(i:Nat),(∃g:Nat->V,vs= [aB n,vl,.ptr B 0,g 3,aB i,g 5,g 6,g 7,g 8,g 9,g 10,g 11,g 12,g 13])/\i<=l.length/\Fr h1 hh/\k'=l.length-i) l.length
   ⟨0,aA rfl,iP _,Fr.refl h1,rfl⟩ ?_
  rintro k' vars h2 ⟨i,⟨g,rfl⟩,hi,f,rfl⟩
  by_cases hlt:(i:Int)<(l.length:Int)
  ·have d4:=iK hlt
   have hi':i<l.length:=by omega
   have F2:=f1.trans f
   have ci:h2.cell id (off+i)=some (ws.getD i .undef):=by rw[F2.cell (hid (by omega)),hc i hi']
   have s0:=Hx hall hi'
   have X:bY n (l.getD i []):=hP _ (bD hi')
   generalize ws.getD i .undef=vx at ci s0
   have lx:=s0.lens
   rw[aQ,X.len] at lx
   simp(disch:=omega)only[go_sem,lv,d4,sh.ixa,ci]
   refine (sA vx _ h2 (by rw[aQ,X.len];omega) (s0.mono F2)).mono ?_
   rw[Qd X n0 (by omega)]
   rintro _ h3 ⟨rfl,f3⟩
   have ci3:h3.cell id (off+i)=some vx:=by rw[f3.cell (by have:=hid (by omega);have:=F2.next;omega)];exact ci
   simp(disch:=omega)only[go_sem]
   refine aY (λhc=>(hc rfl).elim) (λ_=>?_)
   simp(disch:=omega)only[go_sem,sh.ixa,ci3,lx]
   refine aY (λhc=>(hc rfl).elim) (λ_=>?_)
   simp(disch:=omega)only[go_sem]
   rw[fJ i]
   exact⟨l.length-(i+1),by omega,i+1,aA rfl,by omega,f.trans f3,rfl⟩
  have d4:=fF hlt
  simp(disch:=omega)only[go_sem,lv,d4]
  exact⟨aA rfl,f⟩
 rintro vars h2 ⟨⟨g,rfl⟩,f⟩
 have F2:=f1.trans f
 have nf:=f.next
 simp(disch:=omega)only[go_sem]
 refine (NM n h2 (by omega)).mono ?_
 rintro tv h3 ⟨ρ,F,R,f3⟩
 have F3:=F2.trans f3
 simp(disch:=omega)only[go_sem]
 have hL: ∀g,g∈l->bY n g:=hP
 refine bT (λvs hh=> ∃(F':Nat->Nat->V) (t:rJ),(∃g:Nat->V,vs= [aB n,vl,.ptr B 0,g 3,g 4,g 5,tv,g 7,g 8,g 9,g 10,g 11,g 12,g 13])/\Dv h2.next (WB n ρ) hh n tv ρ F' t/\Ia n (· ∈l) t/\(∀g∈l,ins t n 0 g=none)/\Fx (WB n ρ) h3 hh) ?_ ?_
 ·refine aG (λk' vs hh=> ∃(i:Nat) (F':Nat->Nat->V) (t:rJ),(∃g:Nat->V,vs= [aB n,vl,.ptr B 0,g 3,g 4,g 5,tv,aB i,g 8,g 9,g 10,g 11,g 12,g 13])/\i<=l.length/\Dv h2.next (WB n ρ) hh n tv ρ F' t/\Ia n (· ∈l) t/\(∀g∈l.take i,ins t n 0 g=none)/\Fx (WB n ρ) h3 hh/\k'=l.length-i) l.length
   ⟨0,F,_,aA rfl,iP _,R,⟨oV.empty n,λg hg=>by
    obtain⟨_,_,_,_,_,e⟩:=fW.1 hg
    cases e⟩,λg hg=>absurd hg List.not_mem_nil,Fx.refl _ _,rfl⟩ ?_
  rintro k' vars h4 ⟨i,F',t,⟨g,rfl⟩,hi,R4,tl,hn,x,rfl⟩
  by_cases hlt:(i:Int)<(l.length:Int)
  case neg=>
   have d4:=fF hlt;obtain rfl:i=l.length:=by omega
   simp(disch:=omega)only[go_sem,lv,d4];rw[List.take_length] at hn;exact⟨F',t,aA rfl,R4,tl,hn,x⟩
  have d4:=iK hlt
  have hi':i<l.length:=by omega
  have lowB: ∀q,WB n ρ q->h2.next<=q:=R.low
  have X4:Fr h h4:=F2.trans ⟨by have:=f3.next;have:=x.next;omega,λq hq=>by rw[x.get q (by have:=f3.next;omega) (λhw=>by have:=lowB q hw;omega)];exact f3.get q hq⟩
  have ci:h4.cell id (off+i)=some (ws.getD i .undef):=by rw[X4.cell (hid (by omega)),hc i hi']
  have s0:=Hx hall hi'
  have X:bY n (l.getD i []):=hP _ (bD hi')
  generalize ws.getD i .undef=vx at ci s0
  simp(disch:=omega)only[go_sem,lv,d4,sh.ixa,ci]
  have px:PV (WB n ρ) h4 vx (l.getD i []):=by
   refine⟨s0.mono X4,Zt (b:=h2.next) s0 (by omega) lowB⟩
  refine (Mq h2.next (WB n ρ) h4 n tv ρ F' t vx _ (by omega) (by omega) R4 px X tl.Ai).mono ?_
  rintro _ h5 ⟨F5,rfl,R5,f5⟩
  simp(disch:=omega)only[go_sem]
  rw[fJ i]
  obtain⟨tl5,sub5,hnone⟩:=tl.ins hL (x:=l.getD i []) (gO.of hL (bD hi'))
  refine⟨l.length-(i+1),by omega,i+1,F5,_,aA rfl,by omega,R5,tl5,λu hu=>?_,x.trans f5 (λ_ _ h=>h),rfl⟩
  rcases (Aj hi').1 hu with hu|rfl
  ·exact Cv sub5 _ _ _ (hn u hu)
  ·exact hnone
 clear g
 rintro vars h4 ⟨F',t,⟨g,rfl⟩,R4,tl,hn,x⟩
 have x3:=x.next
 have n3:=f3.next
 simp(disch:=omega)only[go_sem]
 refine (IX h2.next (WB n ρ) h4 n tv ρ F' t (· ∈l) n7 n0 (by omega) R4 hL tl).mono ?_
 rintro _ h5 ⟨W5,F5,t5,R5,tl5,sub5,cl5,x5,hw5⟩
 have n5:=x5.next
 have tw:=AP tl5.Ai cl5
 simp(disch:=omega)only[go_sem]
 refine (EF h2.next W5 h5 n tv ρ F5 t5 (by omega) n0 R5 tl5.Ai tw).mono ?_
 rintro vc h6 ⟨O,R',ch,isc,f6⟩
 have n6:=f6.next
 have lowB: ∀q,WB n ρ q->h2.next<=q:=R.low
 have F5':Fr h2 h5:=⟨by omega,λq hq=>by
  rw[x5.get q (by omega) (λhw=>by have:=lowB q hw;omega),x.get q (by omega) (λhw=>by have:=lowB q hw;omega)]
  exact f3.get q hq⟩
 have F6:=(F2.trans F5').trans f6
 have F26:=F5'.trans f6
 have g6:h6.get B=some (.cells false [aB 0,.aC,.aC]):=by rw[F26.get B (by omega),f.get B (by omega)];exact g1
 have ch0:=ch
 obtain⟨vO,vR,wsO,wsR,e,t1,_,_,t2,_,_⟩:=ch
 subst e
 have oneO:=t1.dS.2.1
 have oneR:=t2.dS.2.1
 obtain⟨h7,e7,n7',g7,o7⟩:=xX h6 B [aB n,vO,vR]
 have r7:=aU g7
 simp(disch:=omega)only[go_sem,gI h6 B 0 (v:= aB n) (u:=vO) (w:=vR) rfl oneO oneR,g6,gZ,e7,r7]
 have f7:Fx (λid=>id<h5.next) h6 h7:=⟨by omega,λid _ hid=>o7 id (by omega)⟩
 refine⟨_,O,R',rfl,⟨ch0.go f7 (λid _ h=>by omega),isc.congr (tl5.group hL n0 cl5 λg hg=>Cv sub5 _ _ _ (hn g hg)),gO.mI hP,n0,n7⟩,⟨by have:=F6.next;omega,λid hid=>by rw[o7 id (by omega)];exact F6.get id hid⟩⟩
section
variable {h:H} {v:V} {n:Nat} {l:List Nat}
structure Mp (h:H)(v:V)(n id:Nat)(l:List Nat):Prop where
 ex: ∃cap rest,v= .sl id 0 n cap/\id<h.next/\h.get id=bX (ints (zi l)++rest)
 fA:bY n l
theorem Mp.of {b:Nat}(h0:0<n)(X:bY n l)(o:dG h v 1 (ints (zi l)) b): ∃id,Mp h v n id l/\b<=id:=by
 rcases o with ⟨_,e⟩|⟨id,m,cap,rest,rfl,e2,e3,e4,e5,e6⟩
 ·have:=congrArg List.length e
  rw[aM,aQ,List.length_nil,X.len] at this;omega
 ·rw[aM,aQ,Nat.mul_one,X.len] at e2
  subst e2;exact⟨id,⟨⟨cap,rest,rfl,e5,e6⟩,X⟩,e4⟩
theorem Mp.si {id:Nat}(m:Mp h v n id l):SI h v (zi l):=by
 obtain⟨⟨cap,rest,rfl,h1,h2⟩,X⟩:=m;refine .inr ⟨id,0,n,cap,false,_,rfl,by rw[aM,aQ,X.len,Nat.mul_one],h1,h2,by rw[pW,aM,aQ,X.len];omega,?_⟩;rw[List.drop_zero,Nat.mul_one,List.take_left' (by rw[aM,aQ,X.len])]
theorem Mp.mono {h':H}{id:Nat}(m:Mp h v n id l)(hn:h.next<=h'.next)(hg:h'.get id=h.get id):Mp h' v n id l:=by
 obtain⟨⟨cap,rest,h1,h2,h3⟩,X⟩:=m;exact⟨⟨cap,rest,h1,by omega,by rw[hg];exact h3⟩,X⟩
end
theorem Vc.cell {x:Nat}{a c:H}(f:Vc x a c){id off:Nat}(h1:id<a.next)(h2:id≠x):c.cell id off=a.cell id off:=by unfold H.cell;rw[f.get id h1 h2]
set_option maxRecDepth 100000
section
variable {n:Nat} {G:List Nat->Prop} {L:LN} {K:List Nat}
theorem Vt (E:iR G L){y:List Nat}(hy:G y):L.idxOf y<L.length/\L.getD (L.idxOf y) []=y:=by
 have h1:=(E.mem y).2 hy;have h2:=List.idxOf_lt_length_iff.2 h1;refine⟨h2,?_⟩;rw[List.getD,fX h2];simp
theorem Ck.lt (k:Ck n G L K){r:Nat}(hr:r∈K):r<L.length:=(lB.1 (k.perm.mem_iff.1 hr)).1
theorem Ck.nd (k:Ck n G L K):K.Nodup:=k.perm.nodup_iff.2 (by unfold cE;exact List.nodup_range.filter _)
theorem Xj (hG:tP n G){x:List Nat}(hx:G x): ∀k,G (pw n x k)
 |0=>hG.one
 |k+1=>hG.mul (Xj hG hx k) hx
theorem SM {x:List Nat}(X:bY n x){a b:Nat}(h:a%fM x n=b%fM x n):pw n x a=pw n x b:=by
 rw[MU X a,MU X b,h]
noncomputable def zp (n:Nat)(x:List Nat)(z:Int):List Nat:=pw n x (z%(fM x n:Nat)).toNat
theorem aaD {x:List Nat}(X:bY n x){z:Int}{a:Nat}(h:(a:Int)%(fM x n:Nat)=z%(fM x n:Nat)):zp n x z=pw n x a:=by
 have o:=vH X;unfold zp;refine SM X ?_;have h1:=Int.emod_nonneg z (b:=(fM x n:Nat)) (by omega);have h2:=Int.emod_lt_of_pos z (b:=(fM x n:Nat)) (by omega);have h3:(z%(fM x n:Nat)).toNat%fM x n=(z%(fM x n:Nat)).toNat:=Nat.mod_eq_of_lt (by omega);rw[h3];omega
theorem BJ (z:Int)(r:Nat):rH n G L K z r=oU G L K (L.idxOf (zp n (L.getD r []) z)):=rfl
variable (hG:tP n G) (E:iR G L) (k:Ck n G L K)
include hG E k
theorem UK {j:Nat}(hj:j<L.length):oU G L K j<K.length/\cR G L (K.getD (oU G L K j) 0) j:=by
 obtain⟨i,hi,h⟩:=zT hG E k.perm hj;have e:=vW hG E k.perm hi h;rw[e];exact⟨hi,(kX.1 h).2⟩
theorem RW (z:Int){r:Nat}(hr:r∈K):rH n G L K z r<K.length:=by
 have X:=zD E (k.lt hr);exact (UK hG E k (Vt E (Xj hG X _)).1).1
end
end Go.Proofs.YtddpkbicnolafaaGreat
