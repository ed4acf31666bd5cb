/- Texts of the claim. -/
import Derived.Test.YtddpkbicnolafaaGreatP5otoSc4
import Derived.Test.YtddpkbicnolafaaGreatDp2toP4a
import Derived.Test.YtddpkbicnolafaaGreatP5a
set_option maxHeartbeats 32000000
namespace Go.Proofs.YtddpkbicnolafaaGreat.Cls
open Go Go.Ay Go.Sort
set_option maxRecDepth 100000
variable {j i:Nat}
theorem El {α:Type}[Inhabited α]{p:α->Bool}{d:Array α}(h1:i<=j)(h2:p d[i]! =true):scanUp p d j i=scanUp p d j (i+1):=by rw[scanUp,if_pos (by simp [h1,h2])]
theorem qW {α:Type}[Inhabited α]{p:α->Bool}{d:Array α}(h: ¬(i<=j/\p d[i]! =true)):scanUp p d j i=i:=by rw[scanUp,if_neg (by simpa using h)]
theorem Kg {α:Type}[Inhabited α]{p:α->Bool}{d:Array α}(h1:i<=j+1)(h2:p d[j+1]! =true):scanDown p d i (j+1)=scanDown p d i j:=by rw[scanDown,if_pos (by simp [h1,h2])]
theorem vG {α:Type}[Inhabited α]{p:α->Bool}{d:Array α}(h: ¬(i<=j/\p d[j]! =true)):scanDown p d i j=j:=by
 cases j with
 |zero=>rfl
 |succ j=>rw[scanDown,if_neg (by simpa using h)]
theorem pP {α:Type}[Inhabited α](p:α->Bool)(d:Array α)(j i:Nat):scanUp p d j i<=max i (j+1):=by
 obtain⟨n,hn⟩:=exI (j+1-i)
 induction n generalizing i with
 |zero=>rw[qW (λh=>by have:=h.1;omega)];omega
 |succ n ih=>
  by_cases h:i<=j/\p d[i]! =true
  ·rw[El h.1 h.2]
   have:=ih (i+1) (by omega);omega
  ·rw[qW h];omega
theorem wJ {α:Type}[Inhabited α][O:bM α](h:H)(S N a b pv:Nat)(d:Array α)(cp:rM)(hN:N<1000000)(A:dO h S N d)(hb:b<=N)(hap:a<=pv)(hpb:pv<b):
  Ev T 146 [.sl S 0 N cp,aC a,aC b,aC pv,.fn (bM.f α) [] []] h (λv h'=>v= .tup [aC ((partition bM.lt d a b pv).1:Nat),.bool (partition bM.lt d a b pv).2.1]/\dO h' S N (partition bM.lt d a b pv).2.2/\Fx (· =S) h h'):=by
 refine bH dU rfl rfl ?_
 have sz:=A.size
 have c1:=A.rd (i:=a) (by omega)
 have c2:=A.rd (i:=pv) (by omega)
 simp(disch:=omega)only[go_sem,dU,aE,c1,c2,A.get,bU,bL]
 have W:=A.swap (i:=a) (j:=pv) (nx:=h.next+16) (by omega) rfl
 obtain⟨h1,h1e⟩: ∃h1,h1=((H.mk h.tr (h.next+16)).set S (bQ (flat (d.setIfInBounds a d[pv]!).toList))).set S (bQ (flat ((d.setIfInBounds a d[pv]!).setIfInBounds pv d[a]!).toList)):=⟨_,rfl⟩
 rw[←h1e] at W ⊢
 obtain⟨A1,F1⟩:=W
 obtain⟨e,he⟩:=exI (swp d a pv)
 rw[he] at A1
 clear h1e c1 c2 A
 have eb:(b:Int)- 1=((b- 1:Nat):Int):=by omega
 have ea:(a:Int)+1=((a+1:Nat):Int):=by omega
 have hP:partition bM.lt d a b pv=if scanUp (λx=>bM.lt x e[a]!) e (b- 1) (a+1)>scanDown (λx=>!bM.lt x e[a]!) e (scanUp (λx=>bM.lt x e[a]!) e (b- 1) (a+1)) (b- 1) then
   (scanDown (λx=>!bM.lt x e[a]!) e (scanUp (λx=>bM.lt x e[a]!) e (b- 1) (a+1)) (b- 1),true,swp e (scanDown (λx=>!bM.lt x e[a]!) e (scanUp (λx=>bM.lt x e[a]!) e (b- 1) (a+1)) (b- 1)) a) else
   ((partLoop bM.lt a (scanUp (λx=>bM.lt x e[a]!) e (b- 1) (a+1)+1) (scanDown (λx=>!bM.lt x e[a]!) e (scanUp (λx=>bM.lt x e[a]!) e (b- 1) (a+1)) (b- 1)- 1) (swp e (scanUp (λx=>bM.lt x e[a]!) e (b- 1) (a+1)) (scanDown (λx=>!bM.lt x e[a]!) e (scanUp (λx=>bM.lt x e[a]!) e (b- 1) (a+1)) (b- 1)))).1,false,
    swp (partLoop bM.lt a (scanUp (λx=>bM.lt x e[a]!) e (b- 1) (a+1)+1) (scanDown (λx=>!bM.lt x e[a]!) e (scanUp (λx=>bM.lt x e[a]!) e (b- 1) (a+1)) (b- 1)- 1) (swp e (scanUp (λx=>bM.lt x e[a]!) e (b- 1) (a+1)) (scanDown (λx=>!bM.lt x e[a]!) e (scanUp (λx=>bM.lt x e[a]!) e (b- 1) (a+1)) (b- 1)))).2 (partLoop bM.lt a (scanUp (λx=>bM.lt x e[a]!) e (b- 1) (a+1)+1) (scanDown (λx=>!bM.lt x e[a]!) e (scanUp (λx=>bM.lt x e[a]!) e (b- 1) (a+1)) (b- 1)- 1) (swp e (scanUp (λx=>bM.lt x e[a]!) e (b- 1) (a+1)) (scanDown (λx=>!bM.lt x e[a]!) e (scanUp (λx=>bM.lt x e[a]!) e (b- 1) (a+1)) (b- 1)))).1 a):=by
  rw[←he];rfl
 obtain⟨R,hRe⟩:=exI (partition bM.lt d a b pv)
 rw[hRe] at hP
 rw[hRe]
 simp(disch:=omega)only[go_sem,ea,eb]
 refine bJ (λvs hh=>(∃g:Nat->V,vs= [.sl S 0 N cp,aC a,aC b,aC pv,.fn (bM.f α) [] [],g 5,g 6,aC (scanUp (λx=>bM.lt x e[a]!) e (b- 1) (a+1):Nat),aC ((b- 1):Nat),g 9,g 10,g 11,g 12,g 13,g 14])/\dO hh S N e/\Fx (· =S) h hh) ?_ ?_
 ·refine aH (λk' vs hh=> ∃(k:Nat),(∃g:Nat->V,vs= [.sl S 0 N cp,aC a,aC b,aC pv,.fn (bM.f α) [] [],g 5,g 6,aC (k:Nat),aC ((b- 1):Nat),g 9,g 10,g 11,g 12,g 13,g 14])/\(a+1)<=k/\k<=N+2/\dO hh S N e/\scanUp (λx=>bM.lt x e[a]!) e (b- 1) k=scanUp (λx=>bM.lt x e[a]!) e (b- 1) (a+1)/\Fx (· =S) h hh/\k'=(b- 1)+1-k) ((b- 1)+1-(a+1))
   ⟨(a+1),aA rfl,by omega,by omega,A1,rfl,F1,rfl⟩ ?_
  rintro k' vars hs ⟨k,⟨g,rfl⟩,hk1,hk2,As,hS,Fs,rfl⟩
  by_cases hij:(k:Int)<=(((b- 1):Nat):Int)
  ·have e1:decide ((k:Int)<=(((b- 1):Nat):Int))=true:=decide_eq_true hij
   have eK:(k:Int)+1=((k+1:Nat):Int):=by omega
   have szs:=As.size
   have c1:=As.rd (i:=k) (by omega)
   have c2:=As.rd (i:=a) (by omega)
   simp(disch:=omega)only[go_sem,e1,c1,c2]
   refine (jU As (i:=k) (j:=a) (by omega) (by omega) _ (by omega)).mono ?_
   rintro _ hs2 ⟨z,rfl,hz,fhs2⟩
   have fs2:Fr hs hs2:=Fr.trans ((Fr.refl hs).bF (by omega)) fhs2
   have As2:=As.fr fs2
   have Fs2:=fX Fs (Fx.of fs2)
   cases hl:bM.lt e[k]! e[a]! with
   |false=>
    rw[qW (λhh=>by have:=hh.2;simp [hl] at this)] at hS;simp(disch:=omega)only[go_sem,hz,hl];exact⟨by rw[←hS];exact aA rfl,As2,Fs2⟩
   |true=>
    rw[El (by omega) (by simp [hl])] at hS;simp(disch:=omega)only[go_sem,hz,hl,eK];exact⟨(b- 1)+1-(k+1),by omega,k+1,aA rfl,by omega,by omega,As2,hS,Fs2,rfl⟩
  ·have e1:decide ((k:Int)<=(((b- 1):Nat):Int))=false:=decide_eq_false hij
   rw[qW (λhh=>hij (by have:=hh.1;omega))] at hS
   simp(disch:=omega)only[go_sem,e1]
   exact⟨by rw[←hS];exact aA rfl,As.fr ((Fr.refl hs).bF (by omega)),fX Fs (Fx.of ((Fr.refl hs).bF (by omega)))⟩
 ·rintro vars h9 ⟨⟨g,rfl⟩,A9,F9⟩
  have hge:=scanUp_ge (λx=>bM.lt x e[a]!) e (b- 1) (a+1)
  have hhi:=pP (λx=>bM.lt x e[a]!) e (b- 1) (a+1)
  obtain⟨i2,hi2⟩: ∃x,scanUp (λx=>bM.lt x e[a]!) e (b- 1) (a+1)=x:=⟨_,rfl⟩
  rw[hi2] at hge hhi
  rw[hi2]
  simp(disch:=omega)only[go_sem]
  refine bJ (λvs hh=>(∃g:Nat->V,vs= [.sl S 0 N cp,aC a,aC b,aC pv,.fn (bM.f α) [] [],g 5,g 6,aC (i2:Nat),aC (scanDown (λx=>!bM.lt x e[a]!) e i2 (b- 1):Nat),g 9,g 10,g 11,g 12,g 13,g 14])/\dO hh S N e/\Fx (· =S) h hh) ?_ ?_
  ·refine aH (λk' vs hh=> ∃(k:Nat),(∃g:Nat->V,vs= [.sl S 0 N cp,aC a,aC b,aC pv,.fn (bM.f α) [] [],g 5,g 6,aC (i2:Nat),aC (k:Nat),g 9,g 10,g 11,g 12,g 13,g 14])/\k<=(b- 1)/\dO hh S N e/\scanDown (λx=>!bM.lt x e[a]!) e i2 k=scanDown (λx=>!bM.lt x e[a]!) e i2 (b- 1)/\Fx (· =S) h hh/\k'=k) (b- 1)
    ⟨(b- 1),aA rfl,by omega,A9,rfl,F9,rfl⟩ ?_
   rintro k' vars hs ⟨k,⟨g,rfl⟩,hk1,As,hS,Fs,hkk⟩
   subst hkk
   by_cases hij:((i2:Nat):Int)<=(k':Int)
   ·have e1:decide (((i2:Nat):Int)<=(k':Int))=true:=decide_eq_true hij
    obtain⟨k,rfl⟩: ∃k,k'=k+1:=⟨k'- 1,by omega⟩
    have eK:((k+1:Nat):Int)- 1=(k:Int):=by omega
    have szs:=As.size
    have c1:=As.rd (i:=k+1) (by omega)
    have c2:=As.rd (i:=a) (by omega)
    simp(disch:=omega)only[go_sem,e1,c1,c2]
    refine (jU As (i:=k+1) (j:=a) (by omega) (by omega) _ (by omega)).mono ?_
    rintro _ hs2 ⟨z,rfl,hz,fhs2⟩
    have fs2:Fr hs hs2:=Fr.trans ((Fr.refl hs).bF (by omega)) fhs2
    have As2:=As.fr fs2
    have Fs2:=fX Fs (Fx.of fs2)
    cases hl:bM.lt e[k+1]! e[a]! with
    |true=>
     rw[vG (λhh=>by have:=hh.2;simp [hl] at this)] at hS;simp(disch:=omega)only[go_sem,hz,hl];exact⟨by rw[←hS];exact aA rfl,As2,Fs2⟩
    |false=>
     rw[Kg (by omega) (by simp [hl])] at hS;simp(disch:=omega)only[go_sem,hz,hl,eK];exact⟨k,by omega,k,aA rfl,by omega,As2,hS,Fs2,rfl⟩
   ·have e1:decide (((i2:Nat):Int)<=(k':Int))=false:=decide_eq_false hij
    rw[vG (λhh=>hij (by have:=hh.1;omega))] at hS
    simp(disch:=omega)only[go_sem,e1]
    exact⟨by rw[←hS];exact aA rfl,As.fr ((Fr.refl hs).bF (by omega)),fX Fs (Fx.of ((Fr.refl hs).bF (by omega)))⟩
  ·rintro vars h2 ⟨⟨g,rfl⟩,A2,F2⟩
   have hle:=scanDown_le (λx=>!bM.lt x e[a]!) e i2 (b- 1)
   obtain⟨j2,hj2⟩: ∃x,scanDown (λx=>!bM.lt x e[a]!) e i2 (b- 1)=x:=⟨_,rfl⟩
   rw[hj2] at hle
   rw[hj2]
   rw[hi2,hj2] at hP
   have sz2:=A2.size
   by_cases hgt:(j2:Int)<(i2:Int)
   ·have e1:decide ((j2:Int)<(i2:Int))=true:=decide_eq_true hgt
    rw[if_pos (by omega)] at hP
    have c1:=A2.rd (i:=j2) (by omega)
    have c2:=A2.rd (i:=a) (by omega)
    simp(disch:=omega)only[go_sem,e1,c1,c2,A2.get,bU,bL]
    have W:=A2.swap (i:=j2) (j:=a) (nx:=h2.next+16) (by omega) rfl
    rw[hP]
    exact⟨rfl,W.1,fX F2 W.2⟩
   have e1:decide ((j2:Int)<(i2:Int))=false:=decide_eq_false hgt
   rw[if_neg (by omega)] at hP
   have c1:=A2.rd (i:=i2) (by omega)
   have c2:=A2.rd (i:=j2) (by omega)
   simp(disch:=omega)only[go_sem,e1,c1,c2,A2.get,bU,bL]
   have W:=A2.swap (i:=i2) (j:=j2) (nx:=h2.next+16) (by omega) rfl
   obtain⟨h3,h3e⟩: ∃h3,h3=((H.mk h2.tr (h2.next+16)).set S (bQ (flat (e.setIfInBounds i2 e[j2]!).toList))).set S (bQ (flat ((e.setIfInBounds i2 e[j2]!).setIfInBounds j2 e[i2]!).toList)):=⟨_,rfl⟩
   rw[←h3e] at W ⊢
   obtain⟨A3,F30⟩:=W
   have F3:=fX F2 F30
   have hij2:i2<=j2:=by omega
   obtain⟨e0,he0⟩:=exI (swp e i2 j2)
   rw[he0] at A3 hP
   clear h3e c1 c2 A2 A9 F9 A1 F1 he hgt e1
   have ei:(i2:Int)+1=((i2+1:Nat):Int):=by omega
   have ej:(j2:Int)- 1=((j2- 1:Nat):Int):=by omega
   simp(disch:=omega)only[go_sem,ei,ej]
   refine bJ (λvs hh=>(∃g:Nat->V,vs= [.sl S 0 N cp,aC a,aC b,aC pv,.fn (bM.f α) [] [],g 5,g 6,g 7,aC (((partLoop bM.lt a (i2+1) (j2- 1) e0).1:Nat):Int),g 9,g 10,g 11,g 12,g 13,g 14])/\dO hh S N (partLoop bM.lt a (i2+1) (j2- 1) e0).2/\(partLoop bM.lt a (i2+1) (j2- 1) e0).1<b/\Fx (· =S) h hh) ?_ ?_
   ·refine aH (λk' vs hh=> ∃(i j:Nat) (e:Array α),(∃g:Nat->V,vs= [.sl S 0 N cp,aC a,aC b,aC pv,.fn (bM.f α) [] [],g 5,g 6,aC i,aC j,g 9,g 10,g 11,g 12,g 13,g 14])/\a<i/\i<=b+1/\j<b/\dO hh S N e/\partLoop bM.lt a i j e=partLoop bM.lt a (i2+1) (j2- 1) e0/\Fx (· =S) h hh/\k'=j) (j2- 1)
     ⟨i2+1,j2- 1,e0,aA rfl,by omega,by omega,by omega,A3,rfl,F3,rfl⟩ ?_
    obtain⟨R2,hR2⟩:=exI (partLoop bM.lt a (i2+1) (j2- 1) e0)
    rw[hR2]
    clear hP hR2 hi2 hj2 he0 ei ej hle hge hhi F3 F30 A3 sz2 h3 hij2
    clear i2 j2
    rintro k' vars h3 ⟨i,j,e,⟨g,rfl⟩,hi1,hi2,hj,A3,hL,F3,hkk⟩
    rw[partLoop_eq] at hL
    simp(disch:=omega)only[go_sem]
    refine bJ (λvs hh=>(∃g:Nat->V,vs= [.sl S 0 N cp,aC a,aC b,aC pv,.fn (bM.f α) [] [],g 5,g 6,aC (scanUp (λx=>bM.lt x e[a]!) e j i:Nat),aC (j:Nat),g 9,g 10,g 11,g 12,g 13,g 14])/\dO hh S N e/\Fx (· =S) h hh) ?_ ?_
    ·refine aH (λk' vs hh=> ∃(k:Nat),(∃g:Nat->V,vs= [.sl S 0 N cp,aC a,aC b,aC pv,.fn (bM.f α) [] [],g 5,g 6,aC (k:Nat),aC (j:Nat),g 9,g 10,g 11,g 12,g 13,g 14])/\i<=k/\k<=N+2/\dO hh S N e/\scanUp (λx=>bM.lt x e[a]!) e j k=scanUp (λx=>bM.lt x e[a]!) e j i/\Fx (· =S) h hh/\k'=j+1-k) (j+1-i)
      ⟨i,aA rfl,by omega,by omega,A3,rfl,F3,rfl⟩ ?_
     rintro k' vars hs ⟨k,⟨g,rfl⟩,hk1,hk2,As,hS,Fs,rfl⟩
     by_cases hij:(k:Int)<=((j:Nat):Int)
     ·have e1:decide ((k:Int)<=((j:Nat):Int))=true:=decide_eq_true hij
      have eK:(k:Int)+1=((k+1:Nat):Int):=by omega
      have szs:=As.size
      have c1:=As.rd (i:=k) (by omega)
      have c2:=As.rd (i:=a) (by omega)
      simp(disch:=omega)only[go_sem,e1,c1,c2]
      refine (jU As (i:=k) (j:=a) (by omega) (by omega) _ (by omega)).mono ?_
      rintro _ hs2 ⟨z,rfl,hz,fhs2⟩
      have fs2:Fr hs hs2:=Fr.trans ((Fr.refl hs).bF (by omega)) fhs2
      have As2:=As.fr fs2
      have Fs2:=fX Fs (Fx.of fs2)
      cases hl:bM.lt e[k]! e[a]! with
      |false=>
       rw[qW (λhh=>by have:=hh.2;simp [hl] at this)] at hS;simp(disch:=omega)only[go_sem,hz,hl];exact⟨by rw[←hS];exact aA rfl,As2,Fs2⟩
      |true=>
       rw[El (by omega) (by simp [hl])] at hS;simp(disch:=omega)only[go_sem,hz,hl,eK];exact⟨j+1-(k+1),by omega,k+1,aA rfl,by omega,by omega,As2,hS,Fs2,rfl⟩
     ·have e1:decide ((k:Int)<=((j:Nat):Int))=false:=decide_eq_false hij
      rw[qW (λhh=>hij (by have:=hh.1;omega))] at hS
      simp(disch:=omega)only[go_sem,e1]
      exact⟨by rw[←hS];exact aA rfl,As.fr ((Fr.refl hs).bF (by omega)),fX Fs (Fx.of ((Fr.refl hs).bF (by omega)))⟩
    ·rintro vars h9 ⟨⟨g,rfl⟩,A9,F9⟩
     have hge:=scanUp_ge (λx=>bM.lt x e[a]!) e j i
     have hhi:=pP (λx=>bM.lt x e[a]!) e j i
     obtain⟨u,hu⟩: ∃x,scanUp (λx=>bM.lt x e[a]!) e j i=x:=⟨_,rfl⟩
     rw[hu] at hge hhi
     rw[hu]
     simp(disch:=omega)only[go_sem]
     refine bJ (λvs hh=>(∃g:Nat->V,vs= [.sl S 0 N cp,aC a,aC b,aC pv,.fn (bM.f α) [] [],g 5,g 6,aC (u:Nat),aC (scanDown (λx=>!bM.lt x e[a]!) e u j:Nat),g 9,g 10,g 11,g 12,g 13,g 14])/\dO hh S N e/\Fx (· =S) h hh) ?_ ?_
     ·refine aH (λk' vs hh=> ∃(k:Nat),(∃g:Nat->V,vs= [.sl S 0 N cp,aC a,aC b,aC pv,.fn (bM.f α) [] [],g 5,g 6,aC (u:Nat),aC (k:Nat),g 9,g 10,g 11,g 12,g 13,g 14])/\k<=j/\dO hh S N e/\scanDown (λx=>!bM.lt x e[a]!) e u k=scanDown (λx=>!bM.lt x e[a]!) e u j/\Fx (· =S) h hh/\k'=k) j
       ⟨j,aA rfl,by omega,A9,rfl,F9,rfl⟩ ?_
      rintro k' vars hs ⟨k,⟨g,rfl⟩,hk1,As,hS,Fs,hkk⟩
      subst hkk
      by_cases hij:((u:Nat):Int)<=(k':Int)
      ·have e1:decide (((u:Nat):Int)<=(k':Int))=true:=decide_eq_true hij
       obtain⟨k,rfl⟩: ∃k,k'=k+1:=⟨k'- 1,by omega⟩
       have eK:((k+1:Nat):Int)- 1=(k:Int):=by omega
       have szs:=As.size
       have c1:=As.rd (i:=k+1) (by omega)
       have c2:=As.rd (i:=a) (by omega)
       simp(disch:=omega)only[go_sem,e1,c1,c2]
       refine (jU As (i:=k+1) (j:=a) (by omega) (by omega) _ (by omega)).mono ?_
       rintro _ hs2 ⟨z,rfl,hz,fhs2⟩
       have fs2:Fr hs hs2:=Fr.trans ((Fr.refl hs).bF (by omega)) fhs2
       have As2:=As.fr fs2
       have Fs2:=fX Fs (Fx.of fs2)
       cases hl:bM.lt e[k+1]! e[a]! with
       |true=>
        rw[vG (λhh=>by have:=hh.2;simp [hl] at this)] at hS;simp(disch:=omega)only[go_sem,hz,hl];exact⟨by rw[←hS];exact aA rfl,As2,Fs2⟩
       |false=>
        rw[Kg (by omega) (by simp [hl])] at hS;simp(disch:=omega)only[go_sem,hz,hl,eK];exact⟨k,by omega,k,aA rfl,by omega,As2,hS,Fs2,rfl⟩
      ·have e1:decide (((u:Nat):Int)<=(k':Int))=false:=decide_eq_false hij
       rw[vG (λhh=>hij (by have:=hh.1;omega))] at hS
       simp(disch:=omega)only[go_sem,e1]
       exact⟨by rw[←hS];exact aA rfl,As.fr ((Fr.refl hs).bF (by omega)),fX Fs (Fx.of ((Fr.refl hs).bF (by omega)))⟩
     ·rintro vars h4 ⟨⟨g,rfl⟩,A4,F4⟩
      have hle:=scanDown_le (λx=>!bM.lt x e[a]!) e u j
      obtain⟨w,hw⟩: ∃x,scanDown (λx=>!bM.lt x e[a]!) e u j=x:=⟨_,rfl⟩
      rw[hw] at hle
      rw[hw]
      rw[hu,hw] at hL
      have sz4:=A4.size
      by_cases hgt:(w:Int)<(u:Int)
      ·have e1:decide ((w:Int)<(u:Int))=true:=decide_eq_true hgt
       rw[if_pos (by omega)] at hL
       simp(disch:=omega)only[go_sem,e1]
       rw[←hL]
       exact⟨aA rfl,A4,by omega,F4⟩
      have e1:decide ((w:Int)<(u:Int))=false:=decide_eq_false hgt
      rw[if_neg (by omega)] at hL
      have c1:=A4.rd (i:=u) (by omega)
      have c2:=A4.rd (i:=w) (by omega)
      have ei:(u:Int)+1=((u+1:Nat):Int):=by omega
      have ej:(w:Int)- 1=((w- 1:Nat):Int):=by omega
      simp(disch:=omega)only[go_sem,e1,c1,c2,A4.get,bU,bL,ei,ej]
      have W:=A4.swap (i:=u) (j:=w) (nx:=h4.next+16) (by omega) rfl
      exact⟨w- 1,by omega,u+1,w- 1,_,aA rfl,by omega,by omega,by omega,W.1,hL,fX F4 W.2,rfl⟩
   ·rintro vars h5 ⟨⟨g,rfl⟩,A5,hlt5,F5⟩
    generalize partLoop bM.lt a (i2+1) (j2- 1) e0=r at hP A5 hlt5
    obtain⟨m,e5⟩:=r
    have hlt5:m<b:=hlt5
    have A5:dO h5 S N e5:=A5
    have sz5:=A5.size
    have c1:=A5.rd (i:=m) (by omega)
    have c2:=A5.rd (i:=a) (by omega)
    simp(disch:=omega)only[go_sem,c1,c2,A5.get,bU,bL]
    have W:=A5.swap (i:=m) (j:=a) (nx:=h5.next+16) (by omega) rfl
    rw[hP]
    exact⟨rfl,W.1,fX F5 W.2⟩
theorem Gb {α:Type}[Inhabited α][O:bM α](h:H)(S N a b pv:Nat)(d:Array α)(cp:rM)(hN:N<1000000)(A:dO h S N d)(hb:b<=N)(hap:a<=pv)(hpb:pv<b):
  Ev T 145 [.sl S 0 N cp,aC a,aC b,aC pv,.fn (bM.f α) [] []] h (λv h'=>v= aC ((partitionEqual bM.lt d a b pv).1:Nat)/\dO h' S N (partitionEqual bM.lt d a b pv).2/\Fx (· =S) h h'):=by
 refine bH dG rfl rfl ?_
 have sz:=A.size
 have c1:=A.rd (i:=a) (by omega)
 have c2:=A.rd (i:=pv) (by omega)
 simp(disch:=omega)only[go_sem,dG,aE,c1,c2,A.get,bU,bL]
 have W:=A.swap (i:=a) (j:=pv) (nx:=h.next+16) (by omega) rfl
 obtain⟨h1,h1e⟩: ∃h1,h1=((H.mk h.tr (h.next+16)).set S (bQ (flat (d.setIfInBounds a d[pv]!).toList))).set S (bQ (flat ((d.setIfInBounds a d[pv]!).setIfInBounds pv d[a]!).toList)):=⟨_,rfl⟩
 rw[←h1e] at W ⊢
 obtain⟨A1,F1⟩:=W
 have eb:(b:Int)- 1=((b- 1:Nat):Int):=by omega
 have ea:(a:Int)+1=((a+1:Nat):Int):=by omega
 unfold partitionEqual
 obtain⟨e0,he⟩: ∃e,swp d a pv=e:=⟨_,rfl⟩
 rw[he] at A1 ⊢
 clear h1e c1 c2 A
 simp(disch:=omega)only[go_sem,ea,eb]
 refine bJ (λvs hh=>(∃g:Nat->V,vs= [.sl S 0 N cp,aC a,aC b,aC pv,.fn (bM.f α) [] [],g 5,aC (((partEqLoop bM.lt a (a+1) (b- 1) e0).1:Nat):Int),g 7,g 8,g 9,g 10])/\dO hh S N (partEqLoop bM.lt a (a+1) (b- 1) e0).2/\Fx (· =S) h hh) ?_ ?_
 ·refine aH (λk' vs hh=> ∃(i j:Nat) (e:Array α),(∃g:Nat->V,vs= [.sl S 0 N cp,aC a,aC b,aC pv,.fn (bM.f α) [] [],g 5,aC i,aC j,g 8,g 9,g 10])/\a<i/\i<=b+1/\j<b/\dO hh S N e/\partEqLoop bM.lt a i j e=partEqLoop bM.lt a (a+1) (b- 1) e0/\Fx (· =S) h hh/\k'=j) (b- 1)
   ⟨a+1,b- 1,e0,aA rfl,by omega,by omega,by omega,A1,rfl,F1,rfl⟩ ?_
  obtain⟨R2,hR2⟩:=exI (partEqLoop bM.lt a (a+1) (b- 1) e0)
  rw[hR2]
  clear hR2 F1 A1 h1 he e0
  rintro k' vars h3 ⟨i,j,e,⟨g,rfl⟩,hi1,hi2,hj,A3,hL,F3,hkk⟩
  rw[partEqLoop_eq] at hL
  simp(disch:=omega)only[go_sem]
  refine bJ (λvs hh=>(∃g:Nat->V,vs= [.sl S 0 N cp,aC a,aC b,aC pv,.fn (bM.f α) [] [],g 5,aC (scanUp (λx=>!bM.lt e[a]! x) e j i:Nat),aC (j:Nat),g 8,g 9,g 10])/\dO hh S N e/\Fx (· =S) h hh) ?_ ?_
  ·refine aH (λk' vs hh=> ∃(k:Nat),(∃g:Nat->V,vs= [.sl S 0 N cp,aC a,aC b,aC pv,.fn (bM.f α) [] [],g 5,aC (k:Nat),aC (j:Nat),g 8,g 9,g 10])/\i<=k/\k<=N+2/\dO hh S N e/\scanUp (λx=>!bM.lt e[a]! x) e j k=scanUp (λx=>!bM.lt e[a]! x) e j i/\Fx (· =S) h hh/\k'=j+1-k) (j+1-i)
    ⟨i,aA rfl,by omega,by omega,A3,rfl,F3,rfl⟩ ?_
   rintro k' vars hs ⟨k,⟨g,rfl⟩,hk1,hk2,As,hS,Fs,rfl⟩
   by_cases hij:(k:Int)<=((j:Nat):Int)
   ·have e1:decide ((k:Int)<=((j:Nat):Int))=true:=decide_eq_true hij
    have eK:(k:Int)+1=((k+1:Nat):Int):=by omega
    have szs:=As.size
    have c1:=As.rd (i:=k) (by omega)
    have c2:=As.rd (i:=a) (by omega)
    simp(disch:=omega)only[go_sem,e1,c1,c2]
    refine (jU As (i:=a) (j:=k) (by omega) (by omega) _ (by omega)).mono ?_
    rintro _ hs2 ⟨z,rfl,hz,fhs2⟩
    have fs2:Fr hs hs2:=Fr.trans ((Fr.refl hs).bF (by omega)) fhs2
    have As2:=As.fr fs2
    have Fs2:=fX Fs (Fx.of fs2)
    cases hl:bM.lt e[a]! e[k]! with
    |true=>
     rw[qW (λhh=>by have:=hh.2;simp [hl] at this)] at hS;simp(disch:=omega)only[go_sem,hz,hl];exact⟨by rw[←hS];exact aA rfl,As2,Fs2⟩
    |false=>
     rw[El (by omega) (by simp [hl])] at hS;simp(disch:=omega)only[go_sem,hz,hl,eK];exact⟨j+1-(k+1),by omega,k+1,aA rfl,by omega,by omega,As2,hS,Fs2,rfl⟩
   ·have e1:decide ((k:Int)<=((j:Nat):Int))=false:=decide_eq_false hij
    rw[qW (λhh=>hij (by have:=hh.1;omega))] at hS
    simp(disch:=omega)only[go_sem,e1]
    exact⟨by rw[←hS];exact aA rfl,As.fr ((Fr.refl hs).bF (by omega)),fX Fs (Fx.of ((Fr.refl hs).bF (by omega)))⟩
  ·rintro vars h9 ⟨⟨g,rfl⟩,A9,F9⟩
   have hge:=scanUp_ge (λx=>!bM.lt e[a]! x) e j i
   have hhi:=pP (λx=>!bM.lt e[a]! x) e j i
   obtain⟨u,hu⟩: ∃x,scanUp (λx=>!bM.lt e[a]! x) e j i=x:=⟨_,rfl⟩
   rw[hu] at hge hhi
   rw[hu]
   simp(disch:=omega)only[go_sem]
   refine bJ (λvs hh=>(∃g:Nat->V,vs= [.sl S 0 N cp,aC a,aC b,aC pv,.fn (bM.f α) [] [],g 5,aC (u:Nat),aC (scanDown (λx=>bM.lt e[a]! x) e u j:Nat),g 8,g 9,g 10])/\dO hh S N e/\Fx (· =S) h hh) ?_ ?_
   ·refine aH (λk' vs hh=> ∃(k:Nat),(∃g:Nat->V,vs= [.sl S 0 N cp,aC a,aC b,aC pv,.fn (bM.f α) [] [],g 5,aC (u:Nat),aC (k:Nat),g 8,g 9,g 10])/\k<=j/\dO hh S N e/\scanDown (λx=>bM.lt e[a]! x) e u k=scanDown (λx=>bM.lt e[a]! x) e u j/\Fx (· =S) h hh/\k'=k) j
     ⟨j,aA rfl,by omega,A9,rfl,F9,rfl⟩ ?_
    rintro k' vars hs ⟨k,⟨g,rfl⟩,hk1,As,hS,Fs,hkk⟩
    subst hkk
    by_cases hij:((u:Nat):Int)<=(k':Int)
    ·have e1:decide (((u:Nat):Int)<=(k':Int))=true:=decide_eq_true hij
     obtain⟨k,rfl⟩: ∃k,k'=k+1:=⟨k'- 1,by omega⟩
     have eK:((k+1:Nat):Int)- 1=(k:Int):=by omega
     have szs:=As.size
     have c1:=As.rd (i:=k+1) (by omega)
     have c2:=As.rd (i:=a) (by omega)
     simp(disch:=omega)only[go_sem,e1,c1,c2]
     refine (jU As (i:=a) (j:=k+1) (by omega) (by omega) _ (by omega)).mono ?_
     rintro _ hs2 ⟨z,rfl,hz,fhs2⟩
     have fs2:Fr hs hs2:=Fr.trans ((Fr.refl hs).bF (by omega)) fhs2
     have As2:=As.fr fs2
     have Fs2:=fX Fs (Fx.of fs2)
     cases hl:bM.lt e[a]! e[k+1]! with
     |false=>
      rw[vG (λhh=>by have:=hh.2;simp [hl] at this)] at hS;simp(disch:=omega)only[go_sem,hz,hl];exact⟨by rw[←hS];exact aA rfl,As2,Fs2⟩
     |true=>
      rw[Kg (by omega) (by simp [hl])] at hS;simp(disch:=omega)only[go_sem,hz,hl,eK];exact⟨k,by omega,k,aA rfl,by omega,As2,hS,Fs2,rfl⟩
    ·have e1:decide (((u:Nat):Int)<=(k':Int))=false:=decide_eq_false hij
     rw[vG (λhh=>hij (by have:=hh.1;omega))] at hS
     simp(disch:=omega)only[go_sem,e1]
     exact⟨by rw[←hS];exact aA rfl,As.fr ((Fr.refl hs).bF (by omega)),fX Fs (Fx.of ((Fr.refl hs).bF (by omega)))⟩
   ·rintro vars h4 ⟨⟨g,rfl⟩,A4,F4⟩
    have hle:=scanDown_le (λx=>bM.lt e[a]! x) e u j
    obtain⟨w,hw⟩: ∃x,scanDown (λx=>bM.lt e[a]! x) e u j=x:=⟨_,rfl⟩
    rw[hw] at hle
    rw[hw]
    rw[hu,hw] at hL
    have sz4:=A4.size
    by_cases hgt:(w:Int)<(u:Int)
    ·have e1:decide ((w:Int)<(u:Int))=true:=decide_eq_true hgt
     rw[if_pos (by omega)] at hL
     simp(disch:=omega)only[go_sem,e1]
     rw[←hL]
     exact⟨aA rfl,A4,F4⟩
    have e1:decide ((w:Int)<(u:Int))=false:=decide_eq_false hgt
    rw[if_neg (by omega)] at hL
    have c1:=A4.rd (i:=u) (by omega)
    have c2:=A4.rd (i:=w) (by omega)
    have ei:(u:Int)+1=((u+1:Nat):Int):=by omega
    have ej:(w:Int)- 1=((w- 1:Nat):Int):=by omega
    simp(disch:=omega)only[go_sem,e1,c1,c2,A4.get,bU,bL,ei,ej]
    have W:=A4.swap (i:=u) (j:=w) (nx:=h4.next+16) (by omega) rfl
    exact⟨w- 1,by omega,u+1,w- 1,_,aA rfl,by omega,by omega,by omega,W.1,hL,fX F4 W.2,rfl⟩
 ·rintro vars h5 ⟨⟨g,rfl⟩,A5,F5⟩
  simp(disch:=omega)only[go_sem]
  exact⟨A5,F5⟩
def Yi  {α:Type}[Inhabited α][O:bM α](n:Nat):Prop:= ∀(h:H) (S N a b:Nat) (lim:Int) (d:Array α) (cp:rM),N<60000->dO h S N d->a<=b->b<=N->b-a<=n->0<=lim->lim<1000000->Below bM.lt a b d->
 Ev T 107 [.sl S 0 N cp,aC a,aC b,aC lim,.fn (bM.f α) [] []] h (λ_ h'=> ∃e,dO h' S N e/\PermIn a b d e/\SortedIn bM.lt a b e/\Fx (· =S) h h')
theorem Xt  {α:Type}[Inhabited α][O:bM α](n:Nat)(ih: ∀m,m<n->Yi (α:=α) m):Yi (α:=α) n:=by
 intro h S N a b lim d cp hN A hab hbN hn hl0 hl1 hB;refine bH eD rfl rfl ?_;simp(disch:=omega)only[go_sem,eD,aE]
 refine aH (λk' vars hh=> ∃(a' b':Nat) (l':Int) (wb wp:Bool) (e:Array α),(∃g:Nat->V,vars= [.sl S 0 N cp,aC (a':Int),aC (b':Int),aC l',.fn (bM.f α) [] [],.bool wb,.bool wp,g 7,g 8,g 9,g 10,g 11,g 12,g 13,g 14,g 15,g 16,g 17,g 18,g 19,g 20,g 21,g 22,g 23])/\a'<=b'/\b'<=N/\a<=a'/\b'<=b/\0<=l'/\l'<1000000/\Below bM.lt a' b' e/\dO hh S N e/\Fx (· =S) h hh/\
   (∀R,PermIn a' b' e R->SortedIn bM.lt a' b' R->PermIn a b d R/\SortedIn bM.lt a b R)/\k'=b'-a') (b-a)
  ⟨a,b,lim,true,true,d,aA rfl,hab,hbN,fZ _,fZ _,hl0,hl1,hB,A,Fx.refl _ h,λR h1 h2=>⟨h1,h2⟩,rfl⟩ ?_
 clear A hB hl0 hl1;rintro k' vars h1 ⟨a',b',l',wb,wp,e,⟨g,rfl⟩,hab',hbN',haa,hbb,hl0,hl1,hB,A,F,K,rfl⟩;obtain⟨m,hm⟩:=exI (b'-a');have em:(b':Int)-(a':Int)=(m:Int):=by omega
 have ez: ∀{x:Array α} {hx:H},dO hx S N x->b'<=x.size:=λA=>by rw[A.size];exact hbN'
 by_cases h12:(m:Int)<=12
 ·have e1:decide ((m:Int)<=12)=true:=decide_eq_true h12
  simp(disch:=omega)only[go_sem,em,e1];refine (wY h1 S N a' b' e cp (by omega) A hbN' hab').mono ?_;rintro _ h2 ⟨A2,F2⟩;obtain⟨p1,p2⟩:=insertionSort_holds (bM.swo (α:=α)) e a' b' hab' (ez A);obtain⟨q1,q2⟩:=K _ p1 p2;simp(disch:=omega)only[go_sem];exact⟨_,A2,q1,q2,fX F F2⟩
 have e1:decide ((m:Int)<=12)=false:=decide_eq_false h12
 by_cases hl:l'=0
 ·have e2:decide (l'=0)=true:=decide_eq_true hl
  simp(disch:=omega)only[go_sem,em,e1,e2];refine (yQ h1 S N a' b' e cp (by omega) A hbN' hab').mono ?_;rintro _ h2 ⟨A2,F2⟩;obtain⟨p1,p2⟩:=heapSort_holds (bM.swo (α:=α)) e a' b' hab' (ez A);obtain⟨q1,q2⟩:=K _ p1 p2;simp(disch:=omega)only[go_sem];exact⟨_,A2,q1,q2,fX F F2⟩
 have e2:decide (l'=0)=false:=decide_eq_false hl;simp(disch:=omega)only[go_sem,em,e1,e2];refine oG (λvs hh=> ∃(e2:Array α) (l2:Int) (g:Nat->V),vs= [.sl S 0 N cp,aC (a':Int),aC (b':Int),aC l2,.fn (bM.f α) [] [],.bool wb,.bool wp,aC m,g 8,g 9,g 10,g 11,g 12,g 13,g 14,g 15,g 16,g 17,g 18,g 19,g 20,g 21,g 22,g 23]/\0<=l2/\l2<1000000/\dO hh S N e2/\PermIn a' b' e e2/\Fx (· =S) h hh) ?_ ?_
 ·cases wb with
  |true=>
   simp(disch:=omega)only[go_sem];exact .inl ⟨e,l',_,(aA rfl: ∃g:Nat->V,_= [.sl S 0 N cp,aC (a':Int),aC (b':Int),aC l',.fn (bM.f α) [] [],.bool true,.bool wp,aC m,g 8,g 9,g 10,g 11,g 12,g 13,g 14,g 15,g 16,g 17,g 18,g 19,g 20,g 21,g 22,g 23]).choose_spec,hl0,hl1,A,permIn_refl e a' b',F⟩
  |false=>
   simp(disch:=omega)only[go_sem];refine (Jq h1 S N a' b' e cp hN A hbN' hab').mono ?_;rintro _ h2 ⟨e2,A2,p2,F2⟩;simp(disch:=omega)only[go_sem];exact .inl ⟨e2,l'- 1,_,(aA rfl: ∃g:Nat->V,_= [.sl S 0 N cp,aC (a':Int),aC (b':Int),aC (l'- 1),.fn (bM.f α) [] [],.bool false,.bool wp,aC m,g 8,g 9,g 10,g 11,g 12,g 13,g 14,g 15,g 16,g 17,g 18,g 19,g 20,g 21,g 22,g 23]).choose_spec,by omega,by omega,A2,p2,fX F F2⟩
 clear A F hl0 hl1 hl e2 g;rintro vars h2 ⟨e2,l2,g,rfl,hl0,hl1,A,P2,F⟩;have B2:=hB.perm (by rw[←P2.1];exact ez A) P2;simp(disch:=omega)only[go_sem];refine (Lq h2 S N a' b' e2 cp (by omega) A hbN' (by omega)).mono ?_;rintro _ h3 ⟨p,t,rfl,hp1,hp2,f3⟩;have A3:=A.fr f3;have F3:=fX F (Fx.of f3);clear A F;simp(disch:=omega)only[go_sem];refine oG (λvs hh=> ∃(e3:Array α) (p2:Nat) (t2:Int) (g:Nat->V),vs= [.sl S 0 N cp,aC (a':Int),aC (b':Int),aC l2,.fn (bM.f α) [] [],.bool wb,.bool wp,aC m,aC p2,aC t2,g 10,g 11,g 12,g 13,g 14,g 15,g 16,g 17,g 18,g 19,g 20,g 21,g 22,g 23]/\a'<=p2/\p2<b'/\dO hh S N e3/\PermIn a' b' e2 e3/\Fx (· =S) h hh) ?_ ?_
 ·refine aX (λht=>?_) (λht=>?_)
  ·simp(disch:=omega)only[go_sem]
   refine (Cb h3 S N a' b' e2 cp (by omega) A3 hbN' (by omega)).mono ?_;rintro _ h4 ⟨A4,F4⟩;have e5:(b':Int)- 1-((p:Int)-(a':Int))=(((b'- 1)-(p-a'):Nat):Int):=by omega
   simp(disch:=omega)only[go_sem,e5];exact .inl ⟨_,(b'- 1)-(p-a'),1,_,(aA rfl: ∃g:Nat->V,_= [.sl S 0 N cp,aC (a':Int),aC (b':Int),aC l2,.fn (bM.f α) [] [],.bool wb,.bool wp,aC m,aC ((b'- 1)-(p-a'):Nat),aC 1,g 10,g 11,g 12,g 13,g 14,g 15,g 16,g 17,g 18,g 19,g 20,g 21,g 22,g 23]).choose_spec,by omega,by omega,A4,reverseRange_holds e2 a' b' hab' (ez A3),fX F3 F4⟩
  ·simp(disch:=omega)only[go_sem]
   exact .inl ⟨e2,p,t,_,(aA rfl: ∃g:Nat->V,_= [.sl S 0 N cp,aC (a':Int),aC (b':Int),aC l2,.fn (bM.f α) [] [],.bool wb,.bool wp,aC m,aC p,aC t,g 10,g 11,g 12,g 13,g 14,g 15,g 16,g 17,g 18,g 19,g 20,g 21,g 22,g 23]).choose_spec,hp1,hp2,A3,permIn_refl e2 a' b',F3⟩
 have ez2:=ez A3;clear A3 F3 hp1 hp2 f3 p t g;rintro vars h4 ⟨e3,p,t,g,rfl,hp1,hp2,A,P3,F⟩;have B3:=B2.perm ez2 P3;have P23:=permIn_trans _ _ _ a' b' P2 P3;have ez3:b'<=e2.size:=ez2;clear ez2 B2 hB;refine Ij (λvs hh=> ∃(e4:Array α) (g:Nat->V),vs= [.sl S 0 N cp,aC (a':Int),aC (b':Int),aC l2,.fn (bM.f α) [] [],.bool wb,.bool wp,aC m,aC p,g 9,g 10,g 11,g 12,g 13,g 14,g 15,g 16,g 17,g 18,g 19,g 20,g 21,g 22,g 23]/\dO hh S N e4/\PermIn a' b' e e4/\Below bM.lt a' b' e4/\Fx (· =S) h hh) ?_ ?_
 ·have skip: ∀(vs:List V),(∃g:Nat->V,vs= [.sl S 0 N cp,aC (a':Int),aC (b':Int),aC l2,.fn (bM.f α) [] [],.bool wb,.bool wp,aC m,aC p,g 9,g 10,g 11,g 12,g 13,g 14,g 15,g 16,g 17,g 18,g 19,g 20,g 21,g 22,g 23])-> ∃(e4:Array α) (g:Nat->V),vs= [.sl S 0 N cp,aC (a':Int),aC (b':Int),aC l2,.fn (bM.f α) [] [],.bool wb,.bool wp,aC m,aC p,g 9,g 10,g 11,g 12,g 13,g 14,g 15,g 16,g 17,g 18,g 19,g 20,g 21,g 22,g 23]/\dO h4 S N e4/\PermIn a' b' e e4/\Below bM.lt a' b' e4/\Fx (· =S) h h4:=λvs ⟨g,hv⟩=>⟨e3,g,hv,A,P23,B3,F⟩
  have run: ∀g:Nat->V,Ev T 144 [.sl S 0 N cp,aC (a':Int),aC (b':Int),.fn (bM.f α) [] []] h4 (λv h'=> ∃r:Array α×Bool,v= .bool r.2/\dO h' S N r.1/\Fx (· =S) h4 h'/\PermIn a' b' e3 r.1/\(r.2=true->SortedIn bM.lt a' b' r.1)):=λ_=>by
   refine (Bs h4 S N a' b' e3 cp (by omega) A hbN' (by omega)).mono ?_;rintro v h5 ⟨hv,A5,F5⟩;obtain⟨q1,q2⟩:=partialInsertionSort_holds (bM.swo (α:=α)) e3 a' b' (by omega) (ez A) B3;exact⟨_,hv,A5,F5,q1,q2⟩
  cases wb with
  |false=>
   simp(disch:=omega)only[go_sem];exact .inl (skip _ (aA rfl))
  |true=>cases wp with
   |false=>
    simp(disch:=omega)only[go_sem]
    exact .inl (skip _ (aA rfl))
   |true=>
    simp(disch:=omega)only[go_sem]
    refine aX (λht=>?_) (λht=>?_)
    ·simp(disch:=omega)only[go_sem]
     refine (run g).mono ?_
     rintro v h5 ⟨⟨e5,r5⟩,rfl,A5,F5,q1,q2⟩
     have A5:dO h5 S N e5:=A5
     have q1:PermIn a' b' e3 e5:=q1
     have P5:=permIn_trans _ _ _ a' b' P23 q1
     cases r5 with
     |false=>
      simp(disch:=omega)only[go_sem];exact .inl ⟨e5,_,(aA rfl: ∃g:Nat->V,_= [.sl S 0 N cp,aC (a':Int),aC (b':Int),aC l2,.fn (bM.f α) [] [],.bool true,.bool true,aC m,aC p,g 9,g 10,g 11,g 12,g 13,g 14,g 15,g 16,g 17,g 18,g 19,g 20,g 21,g 22,g 23]).choose_spec,A5,P5,B3.perm (ez A) q1,fX F F5⟩
     |true=>
      obtain⟨w1,w2⟩:=K _ P5 (q2 rfl);simp(disch:=omega)only[go_sem];exact .inr ⟨by simp,e5,A5,w1,w2,fX F F5⟩
    ·simp(disch:=omega)only[go_sem]
     exact .inl (skip _ (aA rfl))
 clear A P3 P23 B3 F P2 ez3 e3 e2;rintro vars h5 ⟨e4,g,rfl,A,P4,B4,F⟩;have ez4:=ez A;refine Ij (λvs hh=> ∃(g:Nat->V),vs= [.sl S 0 N cp,aC (a':Int),aC (b':Int),aC l2,.fn (bM.f α) [] [],.bool wb,.bool wp,aC m,aC p,g 9,g 10,g 11,g 12,g 13,g 14,g 15,g 16,g 17,g 18,g 19,g 20,g 21,g 22,g 23]/\dO hh S N e4/\Fx (· =S) h hh) ?_ ?_
 ·by_cases h0:(0:Int)<(a':Int)
  case neg=>
   have e1:decide ((0:Int)<(a':Int))=false:=decide_eq_false h0;simp(disch:=omega)only[go_sem,e1];exact .inl ⟨_,(aA rfl: ∃g:Nat->V,_= [.sl S 0 N cp,aC (a':Int),aC (b':Int),aC l2,.fn (bM.f α) [] [],.bool wb,.bool wp,aC m,aC p,g 9,g 10,g 11,g 12,g 13,g 14,g 15,g 16,g 17,g 18,g 19,g 20,g 21,g 22,g 23]).choose_spec,A.fr ((Fr.refl h5).bF (by omega)),fX F (Fx.of ((Fr.refl h5).bF (by omega)))⟩
  have e1:decide ((0:Int)<(a':Int))=true:=decide_eq_true h0;have ea:(a':Int)- 1=((a'- 1:Nat):Int):=by omega
  have c1:=A.rd (i:=a'- 1) (by omega);have c2:=A.rd (i:=p) (by omega);simp(disch:=omega)only[go_sem,e1,ea,c1,c2];refine (jU A (i:=a'- 1) (j:=p) (by omega) (by omega) _ (by omega)).mono ?_;rintro _ h6 ⟨z,rfl,hz,fh6⟩;have f6:Fr h5 h6:=Fr.trans ((Fr.refl h5).bF (by omega)) fh6;have A6:=A.fr f6;have F6:=fX F (Fx.of f6)
  cases hl:bM.lt e4[a'- 1]! e4[p]! with
  |true=>
   simp(disch:=omega)only[go_sem,hz,hl];exact .inl ⟨_,(aA rfl: ∃g:Nat->V,_= [.sl S 0 N cp,aC (a':Int),aC (b':Int),aC l2,.fn (bM.f α) [] [],.bool wb,.bool wp,aC m,aC p,g 9,g 10,g 11,g 12,g 13,g 14,g 15,g 16,g 17,g 18,g 19,g 20,g 21,g 22,g 23]).choose_spec,A6,F6⟩
  |false=>
   obtain⟨w1,w2,w3,w4,w5⟩:=round_eq (bM.swo (α:=α)) (partitionEqual_holds bM.lt) (by omega) hp1 hp2 ez4 B4 hl (Prod.eta (partitionEqual bM.lt e4 a' b' p)).symm;simp(disch:=omega)only[go_sem,hz,hl];refine (Gb h6 S N a' b' p e4 cp (by omega) A6 hbN' hp1 hp2).mono ?_;rintro _ h7 ⟨rfl,A7,F7⟩;simp(disch:=omega)only[go_sem];refine .inr ⟨by simp,b'-(partitionEqual bM.lt e4 a' b' p).1,by omega,(partitionEqual bM.lt e4 a' b' p).1,b',l2,wb,wp,_,aA rfl,w2,hbN',by omega,hbb,hl0,hl1,w4,A7,fX F6 F7,λR r1 r2=>?_,rfl⟩;obtain⟨t1,t2⟩:=w5 R r1 r2;exact K R (permIn_trans _ _ _ a' b' P4 t1) t2
 clear A F;rintro vars h6 ⟨g,rfl,A,F⟩;have e8:=Lh m (k:=8) (m:=8) rfl;simp(disch:=omega)only[go_sem];refine (wJ h6 S N a' b' p e4 cp (by omega) A hbN' hp1 hp2).mono ?_;obtain⟨r,hr⟩:=exI (partition bM.lt e4 a' b' p);rw[hr];obtain⟨mid,ap,e5⟩:=r;obtain⟨w1,w2,w3,w4,w5,w6,w7⟩:=round_part (bM.swo (α:=α)) (partition_holds bM.lt) hp1 hp2 ez4 B4 hr;rintro _ h7 ⟨rfl,A7,F7⟩;have A7:dO h7 S N e5:=A7;have F7:=fX F F7;have el:(mid:Int)-(a':Int)=((mid-a':Nat):Int):=by omega
 have er:(b':Int)-(mid:Int)=((b'-mid:Nat):Int):=by omega
 have e1:(mid:Int)+1=((mid+1:Nat):Int):=by omega
 simp(disch:=omega)only[go_sem,el,er,e8];refine aX (λht=>?_) (λht=>?_)
 ·simp(disch:=omega)only[go_sem]
  refine (ih (mid-a') (by omega) h7 S N a' mid l2 e5 cp hN A7 w1 (by omega) (fZ _) hl0 hl1 w4).mono ?_;rintro _ h8 ⟨L,A8,p8,s8,F8⟩;obtain⟨u1,u2⟩:=w6 L p8 s8;simp(disch:=omega)only[go_sem,e1];refine⟨b'-(mid+1),by omega,mid+1,b',l2,_,ap,L,aA rfl,by omega,hbN',by omega,hbb,hl0,hl1,u1,A8,fX F7 F8,λR r1 r2=>?_,rfl⟩;obtain⟨t1,t2⟩:=u2 R r1 r2;exact K R (permIn_trans _ _ _ a' b' P4 t1) t2
 ·simp(disch:=omega)only[go_sem,e1]
  refine (ih (b'-(mid+1)) (by omega) h7 S N (mid+1) b' l2 e5 cp hN A7 (by omega) hbN' (fZ _) hl0 hl1 w5).mono ?_;rintro _ h8 ⟨L,A8,p8,s8,F8⟩;obtain⟨u1,u2⟩:=w7 L p8 s8;simp(disch:=omega)only[go_sem];refine⟨mid-a',by omega,a',mid,l2,_,ap,L,aA rfl,by omega,by omega,haa,by omega,hl0,hl1,u1,A8,fX F7 F8,λR r1 r2=>?_,rfl⟩;obtain⟨t1,t2⟩:=u2 R r1 r2;exact K R (permIn_trans _ _ _ a' b' P4 t1) t2
theorem Qt  {α:Type}[Inhabited α][O:bM α](n:Nat):Yi (α:=α) n:=by
 induction n using Nat.strongRecOn with
 |_ n ih=>exact Xt n  ih
theorem Tl {α:Type}[Inhabited α][O:bM α](h:H)(S N:Nat)(d:Array α)(cp:rM)(hN:N<60000)(A:dO h S N d):
  Ev T 74 [.sl S 0 N cp,.fn (bM.f α) [] []] h (λ_ h'=> ∃e,dO h' S N e/\PermIn 0 N d e/\SortedIn bM.lt 0 N e/\Fx (· =S) h h'):=by
 refine bH dD rfl rfl ?_
 have hb:bitsLen N<=16:=(bitsLen_le_iff _ 16).2 (by omega)
 simp(disch:=omega)only[go_sem,dD,aE,fO (n:=(N:Int)) (by omega) (by omega)]
 refine (Xf N h (by omega)).mono ?_
 rintro _ h1 ⟨rfl,hh⟩
 subst hh
 simp(disch:=omega)only[go_sem]
 refine (Qt N h1 S N 0 N _ d cp hN A (by omega) (by omega) (by omega) (by omega) (by omega) (.inl rfl)).mono ?_
 rintro _ h2 ⟨e,A2,p,s,F⟩
 simp(disch:=omega)only[go_sem]
 exact⟨e,A2,p,s,F⟩
theorem Al (a:Int)(h:H):Ev T 147 [aC a] h (λv h'=>v= .bool false/\h'=h):=by
 refine bH kS rfl rfl ?_;have e:decide (a≠a)=false:=eS (by omega);simp(disch:=omega)only[go_sem,kS,aE,e]
def yI (a b:Int):Int:=if a<b then -1 else if b<a then 1 else 0
theorem Cc (a b:Int)(h:H):Ev T 108 [aC a,aC b] h (λv h'=>v= aC (yI a b)/\Fr h h'):=by
 refine bH oW rfl rfl ?_;simp(disch:=omega)only[go_sem,oW,aE];refine (Al a h).mono ?_;rintro _ h1 ⟨rfl,rfl⟩;simp(disch:=omega)only[go_sem];refine (Al b h1).mono ?_;rintro _ h2 ⟨rfl,rfl⟩;simp(disch:=omega)only[go_sem];unfold yI
 by_cases h1:a<b
 ·have d1:decide (a<b)=true:=decide_eq_true h1
  simp(disch:=omega)only[go_sem,d1,if_pos h1];exact Fr.refl _
 ·have d1:decide (a<b)=false:=decide_eq_false h1
  by_cases h3:b<a
  ·have d2:decide (b<a)=true:=decide_eq_true h3
   simp(disch:=omega)only[go_sem,d1,d2,if_neg h1,if_pos h3];exact Fr.refl _
  ·have d2:decide (b<a)=false:=decide_eq_false h3
   simp(disch:=omega)only[go_sem,d1,d2,if_neg h1,if_neg h3];exact Fr.refl _
def GY:List Int->Int
 | []=>0
 |x::r=>if x=0 then GY r else x
theorem ND {l:List Int}{i:Nat}(hi:i<l.length)(h:l.getD i 0=0):GY (l.drop i)=GY (l.drop (i+1)):=by
 rw[List.drop_eq_getElem_cons hi];show (if l[i]=0 then _ else _)=_;rw[if_pos (by rw[List.getD,fS hi] at h;exact h)]
theorem RE {l:List Int}{i:Nat}(hi:i<l.length)(h:l.getD i 0≠0):GY (l.drop i)=l.getD i 0:=by
 rw[List.drop_eq_getElem_cons hi];show (if l[i]=0 then _ else l[i])=_;have e:l.getD i 0=l[i]:=by rw[List.getD,fS hi];rfl
 rw[if_neg (by rw[←e];exact h),e]
theorem aaC (u:V)(l:List Int)(h:H)(hl:l.length<1000000)(hu:SI h u l):Ev T 79 [u] h (λv h'=>v= aC (GY l)/\Fr h h'):=by
 refine bH wK rfl rfl ?_;have lu:=hu.lens;obtain⟨id,off,sh,hid,hc⟩:=hu.open;simp(disch:=omega)only[go_sem,wK,aE,lu];refine aH (λk' vs hh=> ∃(i:Nat),(∃g:Nat->V,vs= [u,aC 0,aC 0,g 3,u,aC (l.length:Int),aC i,g 7,g 8])/\i<=l.length/\GY (l.drop i)=GY l/\Fr h hh/\k'=l.length-i) l.length
   ⟨0,aA rfl,iP _,rfl,Fr.refl h,rfl⟩ ?_
 rintro k' vars h2 ⟨i,⟨g,rfl⟩,hi,ho,f,rfl⟩
 by_cases hlt:(i:Int)<(l.length:Int)
 ·have d4:=iB hlt
  have hi':i<l.length:=by omega
  have ci:h2.cell id (off+i)=some (aC (l.getD i 0)):=by rw[f.cell (hid (by omega)),hc i hi']
  generalize hx:l.getD i 0=x at ci;simp(disch:=omega)only[go_sem,d4,sh.ixa,ci]
  by_cases hz:x=0
  ·have d5:decide (x≠0)=false:=decide_eq_false (by simpa using hz)
   simp(disch:=omega)only[go_sem,d5];rw[fA i];exact⟨l.length-(i+1),by omega,i+1,aA rfl,by omega,by rw[←ND hi' (hx.trans hz)];exact ho,f.bF (by omega),rfl⟩
  ·have d5:decide (x≠0)=true:=decide_eq_true hz
   simp(disch:=omega)only[go_sem,d5];exact⟨by rw[←ho,RE hi' (by rw[hx];exact hz),hx],f.bF (by omega)⟩
 have d4:=eS hlt;obtain rfl:i=l.length:=by omega
 simp(disch:=omega)only[go_sem,d4];rw[List.drop_length] at ho;exact⟨by rw[←ho];rfl,f⟩
structure KE where
 rep:V
 ord:Nat
 size:Nat
 ranks:V
 fst:Nat
 hrep:rep.cells= [rep]/\rep.one=true/\dW rep rep=true
 hranks:ranks.cells= [ranks]/\ranks.one=true/\dW ranks ranks=true
instance:Inhabited KE:=⟨⟨.aB,0,0,.aB,0,⟨rfl,rfl,rfl⟩,⟨rfl,rfl,rfl⟩⟩⟩
def KE.enc (a:KE):List V:= [a.rep,aC (a.ord:Int),aC (a.size:Int),a.ranks]
def KE.cmp (a b:KE):Int:=GY [yI a.ord b.ord,yI a.size b.size,yI a.fst b.fst]
def KE.lt (a b:KE):Bool:=decide (a.cmp b<0)
theorem Dy (a:KE)(h:H):Jz h (.agg a.enc)=some (.ptr h.next 0,h.new (.cells false a.enc)):=Dr h _ (by simp [KE.enc,a.hrep.2.1,a.hranks.2.1,show (aC (a.ord:Int)).one=true from rfl,show (aC (a.size:Int)).one=true from rfl])
theorem CT (a b:KE)(h:H):Ev T 76 [.agg a.enc,.agg b.enc] h (λv h'=>v= aC (yI a.ord b.ord)/\Fr h h'):=by
 refine bH lE rfl rfl ?_;obtain⟨A,hA⟩:=exI h.next;obtain⟨h1,e1,n1,g1,o1,f1⟩:=eQ hA a.enc;obtain⟨h2,e2,n2,g2,o2,f2⟩:=eQ n1 b.enc;have gA:h2.get A=some (.cells false a.enc):=by rw[o2 _ (by omega)];exact g1
 have cA:h2.cell A 1=some (aC (a.ord:Int)):=by rw[H.aF gA];rfl
 have cB:h2.cell (A+1) 1=some (aC (b.ord:Int)):=by rw[H.aF g2];rfl
 simp(disch:=omega)only[go_sem,lE,aE,Dy,hA,e1,n1,e2,cA,cB];refine (Cc _ _ h2).mono ?_;rintro _ h3 ⟨rfl,f3⟩;simp(disch:=omega)only[go_sem];exact (f1.trans f2).trans f3
theorem HG (a b:KE)(h:H):Ev T 77 [.agg a.enc,.agg b.enc] h (λv h'=>v= aC (yI a.size b.size)/\Fr h h'):=by
 refine bH mF rfl rfl ?_;obtain⟨A,hA⟩:=exI h.next;obtain⟨h1,e1,n1,g1,o1,f1⟩:=eQ hA a.enc;obtain⟨h2,e2,n2,g2,o2,f2⟩:=eQ n1 b.enc;have gA:h2.get A=some (.cells false a.enc):=by rw[o2 _ (by omega)];exact g1
 have cA:h2.cell A 2=some (aC (a.size:Int)):=by rw[H.aF gA];rfl
 have cB:h2.cell (A+1) 2=some (aC (b.size:Int)):=by rw[H.aF g2];rfl
 simp(disch:=omega)only[go_sem,mF,aE,Dy,hA,e1,n1,e2,cA,cB];refine (Cc _ _ h2).mono ?_;rintro _ h3 ⟨rfl,f3⟩;simp(disch:=omega)only[go_sem];exact (f1.trans f2).trans f3
def KE.At (h:H)(a:KE):Prop:= ∃id off n cap,a.ranks= .sl id off (n+1) cap/\id<h.next/\h.cell id off=some (aC (a.fst:Int))
theorem DF (a b:KE)(h:H)(ha:a.At h)(hb:b.At h):Ev T 78 [.agg a.enc,.agg b.enc] h (λv h'=>v= aC (yI a.fst b.fst)/\Fr h h'):=by
 refine bH lD rfl rfl ?_;obtain⟨A,hA⟩:=exI h.next;obtain⟨h1,e1,n1,g1,o1,f1⟩:=eQ hA a.enc;obtain⟨h2,e2,n2,g2,o2,f2⟩:=eQ n1 b.enc;obtain⟨ia,oa,na,ca,ea,la,ga⟩:=ha;obtain⟨ib,ob,nb,cb,eb,lb,gb⟩:=hb;have F2:=f1.trans f2;have gA:h2.get A=some (.cells false a.enc):=by rw[o2 _ (by omega)];exact g1
 have cA:h2.cell A 3=some a.ranks:=by rw[H.aF gA];rfl
 have cB:h2.cell (A+1) 3=some b.ranks:=by rw[H.aF g2];rfl
 rw[ea] at cA;rw[eb] at cB;have ra:h2.cell ia oa=some (aC (a.fst:Int)):=by rw[F2.cell la];exact ga
 have rb:h2.cell ib ob=some (aC (b.fst:Int)):=by rw[F2.cell lb];exact gb
 simp(disch:=omega)only[go_sem,lD,aE,Dy,hA,e1,n1,e2,cA,cB,ra,rb];refine (Cc _ _ _).mono ?_;rintro _ h3 ⟨rfl,f3⟩;have F3:Fr h2 h3:=((Fr.refl h2).bF (by omega)).trans f3;have ha:=F2.next;have cA3:h3.cell A 3=some (.sl ia oa (na+1) ca):=by rw[F3.cell (by omega)];exact cA
 have cB3:h3.cell (A+1) 3=some (.sl ib ob (nb+1) cb):=by rw[F3.cell (by omega)];exact cB
 have ra3:h3.cell ia oa=some (aC (a.fst:Int)):=by rw[F3.cell (by omega)];exact ra
 have rb3:h3.cell ib ob=some (aC (b.fst:Int)):=by rw[F3.cell (by omega)];exact rb
 simp(disch:=omega)only[go_sem,cA3,cB3,ra3,rb3];exact F2.trans F3
theorem Aj {h:H}{A:Nat}{ro:Bool}{a:KE}(hg:h.get A=some (.cells ro a.enc)):h.row A 0 4=some a.enc:=by
 simp [H.row,hg,sub,KE.enc]
theorem Gv (a:KE):dW (.agg a.enc) (.agg a.enc)=true:=by
 show sY a.enc a.enc=true;simp [KE.enc,sY,dW,a.hrep.2.2,a.hranks.2.2]
theorem KE.At.fr {a:KE}{h h':H}(x:a.At h)(f:Fr h h'):a.At h':=by
 obtain⟨ia,oa,na,ca,ea,la,ga⟩:=x;exact⟨ia,oa,na,ca,ea,lA la f.next,by rw[f.cell la];exact ga⟩
theorem Yx (h:H)(x y z:Int):vH h 1 [aC 0] 3 [(0,1,aC x),(1,1,aC y),(2,1,aC z)]=some (.sl h.next 0 3 (.kn 3),h.new (.cells false (ints [x,y,z]))):=rfl
theorem QC (a b:KE)(h:H)(ha:a.At h)(hb:b.At h):Ev T 75 [.agg a.enc,.agg b.enc] h (λv h'=>v= aC (a.cmp b)/\Fr h h'):=by
 refine bH sV rfl rfl ?_;obtain⟨A,hA⟩:=exI h.next;obtain⟨h1,e1,n1,g1,o1,f1⟩:=eQ hA a.enc;obtain⟨h2,e2,n2,g2,o2,f2⟩:=eQ n1 b.enc;have F2:=f1.trans f2;have gA:h2.get A=some (.cells false a.enc):=by rw[o2 _ (by omega)];exact g1
 simp(disch:=omega)only[go_sem,sV,aE,Dy,hA,e1,n1,e2,Aj gA,Aj g2,Gv,H.Vw];have hn:=F2.next;refine (CT a b _).mono ?_;rintro _ h3 ⟨rfl,f3⟩;have F3:Fr h2 h3:=((Fr.refl h2).bF (by omega)).trans f3;have gB3:h3.get (A+1)=some (.cells false b.enc):=by rw[F3.get _ (by omega)];exact g2
 simp(disch:=omega)only[go_sem,Aj gB3,Gv];refine (HG a b _).mono ?_;rintro _ h4 ⟨rfl,f4⟩;have F4:=F3.trans f4;have gB4:h4.get (A+1)=some (.cells false b.enc):=by rw[F4.get _ (by omega)];exact g2
 simp(disch:=omega)only[go_sem,Aj gB4,Gv];refine (DF a b _ (ha.fr (F2.trans F4)) (hb.fr (F2.trans F4))).mono ?_;rintro _ h5 ⟨rfl,f5⟩;have F5:=F4.trans f5;have gB5:h5.get (A+1)=some (.cells false b.enc):=by rw[F5.get _ (by omega)];exact g2
 simp(disch:=omega)only[go_sem,Aj gB5,Gv];obtain⟨I,hI⟩:=exI (h2.next+9+9);have n5:=f5.next;have n4:=f4.next;have n3:h2.next+9+12<=h3.next:=f3.next;simp(disch:=omega)only[go_sem,hI,Yx]
 obtain⟨h6,h6e⟩: ∃h6:H,h6=H.mk ((H.mk h5.tr I).new (Ob.cells false (ints [yI a.ord b.ord,yI a.size b.size,yI a.fst b.fst]))).tr h5.next:=⟨_,rfl⟩
 rw[←h6e];have g6:h6.get I=bQ (ints [yI a.ord b.ord,yI a.size b.size,yI a.fst b.fst]):=by rw[h6e];exact H.aN (H.mk h5.tr I) _
 have n6:h6.next=h5.next:=by rw[h6e]
 have o6: ∀k,k≠I->h6.get k=h5.get k:=λk hk=>by rw[h6e];exact H.bI (H.mk h5.tr I) (by simpa using hk) _
 have F6:Fr h2 h6:=⟨by have:=F5.next;omega,λk hk=>by rw[o6 k (by omega)];exact F5.get k hk⟩
 refine (aaC _ [yI a.ord b.ord,yI a.size b.size,yI a.fst b.fst] h6 (by simp) (SV.all (by simp [aQ]) (by omega) g6 _)).mono ?_;rintro _ h7 ⟨rfl,f7⟩;have F7:=F6.trans f7;have gB7:h7.get (A+1)=some (.cells false b.enc):=by rw[F7.get _ (by omega)];exact g2
 simp(disch:=omega)only[go_sem,Aj gB7,Gv];exact⟨rfl,F2.trans F7⟩
theorem KE.lt_iff (a b:KE):a.lt b=true↔a.ord<b.ord∨a.ord=b.ord/\(a.size<b.size∨a.size=b.size/\a.fst<b.fst):=by
 unfold KE.lt KE.cmp GY GY GY GY yI;rw[decide_eq_true_eq]
 repeat' split
 all_goals omega
theorem XV:SWO KE.lt where
 irrefl x:=by rw[←Bool.not_eq_true,KE.lt_iff];omega
 trans x y z h1 h2:=by rw[KE.lt_iff] at*;omega
 ntrans x y z h1 h2:=by rw[←Bool.not_eq_true,KE.lt_iff] at*;omega
def KE.Pp (hB:H)(b0 S:Nat)(a:KE):Prop:= ∃id off n cap,a.ranks= .sl id off (n+1) cap/\id<b0/\id≠S/\hB.cell id off=some (aC (a.fst:Int))
def Bb (hB:H)(b0 S:Nat)(h:H):Prop:=b0<=h.next/\ ∀q,q<b0->q≠S->h.get q=hB.get q
theorem KE.Pp.at {hB h:H}{b0 S:Nat}{a:KE}(p:a.Pp hB b0 S)(b:Bb hB b0 S h):a.At h:=by
 obtain⟨id,off,n,cap,e,h1,h2,h3⟩:=p;refine⟨id,off,n,cap,e,lA h1 b.1,?_⟩;rw[←h3];unfold H.cell;rw[b.2 id h1 h2]
@[reducible] def aaF (hB:H)(b0 S:Nat):bM KE where
 lt:=KE.lt
 enc:=KE.enc
 P:=KE.Pp hB b0 S
 B:=Bb hB b0 S
 f:=75
 b0:=b0
 S:=S
 swo:=XV
 len _:=rfl
 one a:=by simp [KE.enc,a.hrep.2.1,a.hranks.2.1,show (aC (a.ord:Int)).one=true from rfl,show (aC (a.size:Int)).one=true from rfl]
 eqv:=Gv
 cmp h a b hb pa pb:=(QC a b h (pa.at hb) (pb.at hb)).mono λv h' ⟨e,f⟩=>⟨_,e,rfl,f⟩
 bfr h h' b f:=⟨Nat.le_trans b.1 f.next,λq h1 h2=>by rw[f.get q (lA h1 b.1)];exact b.2 q h1 h2⟩
 bS h h' b f:=⟨Nat.le_trans b.1 f.next,λq h1 h2=>by rw[f.get q (lA h1 b.1) h2];exact b.2 q h1 h2⟩
 bR h h' R b hR f:=⟨Nat.le_trans b.1 f.next,λq h1 h2=>by rw[f.get q (lA h1 b.1) (λe=>by have:q=R:=e;omega)];exact b.2 q h1 h2⟩
 bn h b:=b.1
theorem Jj {l:List KE}{N:Nat}(hl:l.length=N){e:Array KE}(hp:PermIn 0 N l.toArray e)(hs:SortedIn KE.lt 0 N e):e.toList.Perm l/\e.toList.Pairwise (λa b=>KE.lt b a=false):=by
 obtain⟨p1,p2,p3⟩:=hp;have hsz:e.size=N:=by rw[p1];simpa using hl
 refine⟨?_,?_⟩
 ·have a1:(e.extract 0 N).toList=e.toList:=by rw[←hsz];simp
  have a2:(l.toArray.extract 0 N).toList=l:=by rw[←hl];simp
  rwa [a1,a2] at p3
 ·rw[List.pairwise_iff_getElem]
  intro i j hi hj hij;have hj':j<N:=by simpa [hsz] using hj
  have:=hs i j (iP _) hij hj';have e1:e[i]! =e.toList[i]:=by simp at hi;simp [hi]
  have e2:e[j]! =e.toList[j]:=by simp at hj;simp [hj]
  rw[e1,e2] at this;exact this
def nP (l:List KE):List V:=l.flatMap KE.enc
theorem PT (h:H)(S b0:Nat)(l:List KE)(cp:rM)(hN:l.length<60000)(hg:h.get S=bQ (nP l))(hS:S<h.next)(hb:b0<=h.next)(hP: ∀a∈l,a.Pp h b0 S):
  Ev T 74 [.sl S 0 l.length cp,.fn 75 [] []] h (λ_ h'=> ∃l',h'.get S=bQ (nP l')/\l'.Perm l/\l'.Pairwise (λa b=>KE.lt b a=false)/\Fx (· =S) h h'):=by
 letI:=aaF h b0 S
 have A:dO h S l.length l.toArray:=⟨hg,by simp,hS,rfl,⟨hb,λ_ _ _=>rfl⟩,λi hi=>by
  have hi':i<l.length:=by simpa using hi
  have:l.toArray[i]! =l[i]:=by simp [hi']
  rw[this]
  exact hP _ (List.getElem_mem hi')⟩
 refine (Tl h S l.length l.toArray cp hN A).mono ?_
 rintro _ h' ⟨e,A2,p,s,F⟩
 obtain⟨q1,q2⟩:=Jj rfl p s
 exact⟨e.toList,A2.get,q1,q2,F⟩
end Go.Proofs.YtddpkbicnolafaaGreat.Cls
namespace Go.Proofs.YtddpkbicnolafaaGreat
open Go Go.Ay Go.Pm
set_option maxRecDepth 100000
variable {i j p:Nat} {S:LN} {Q:List Nat}
section
variable {n:Nat} {G:List Nat->Prop} {L:LN}
theorem Pn {l:LN}(nd:l.Nodup)(hi:i<l.length)(hj:j<l.length)(e:l.getD i []=l.getD j []):i=j:=by
 have ei:l.getD i []=l[i]:=by rw[List.getD,fS hi];rfl
 have ej:l.getD j []=l[j]:=by rw[List.getD,fS hj];rfl
 rw[ei,ej] at e;have h:=List.pairwise_iff_getElem.1 nd;rcases Nat.lt_trichotomy i j with h1|h1|h1
 ·exact absurd e (h i j hi hj h1)
 ·exact h1
 ·exact absurd e.symm (h j i hj hi h1)
def cR (G:List Nat->Prop)(L:LN)(i j:Nat):Prop:=cj G (L.getD i []) (L.getD j [])
open Classical in
noncomputable def fY (G:List Nat->Prop)(L:LN)(i:Nat):List Nat:=(List.range L.length).filter λj=>decide (cR G L i j)
theorem fW:j∈fY G L i↔j<L.length/\cR G L i j:=by
 classical
 unfold fY;rw[Vo,Mr,decide_eq_true_iff]
theorem Ts (i:Nat):(fY G L i).Pairwise (· < ·):=by
 classical
 unfold fY;exact List.Pairwise.filter _ List.pairwise_lt_range
theorem qC (i:Nat):(fY G L i).Nodup:=by
 classical
 unfold fY;exact List.Pairwise.filter _ List.nodup_range
def Ly (G:List Nat->Prop)(L:LN)(i:Nat):Prop:= ∀j,j<i-> ¬cR G L j i
open Classical in
noncomputable def bY (G:List Nat->Prop)(L:LN)(k:Nat):List Nat:=(List.range k).filter λj=>decide (Ly G L j)
theorem oF (k:Nat):(Ly G L k->bY G L (k+1)=bY G L k++ [k])/\(¬Ly G L k->bY G L (k+1)=bY G L k):=by
 classical
 unfold bY;rw[List.range_succ,List.filter_append];refine⟨λh=>?_,λh=>?_⟩
 ·rw[List.filter_cons_of_pos (by simpa using h)];rfl
 ·rw[List.filter_cons_of_neg (by simpa using h),List.filter_nil,List.append_nil]
theorem kY {k:Nat}:i∈bY G L k↔i<k/\Ly G L i:=by
 classical
 unfold bY;rw[Vo,Mr,decide_eq_true_iff]
variable (hG:sC n G) (E:jA G L)
include hG E
omit hG in
theorem Ci (hi:i<L.length):G (L.getD i []):=(E.mem _).1 (bD hi)
theorem jE (hi:i<L.length):bT n (L.getD i []):=hG.dY (Ci E hi)
theorem Ct (hi:i<L.length):cR G L i i:=QN hG (jE hG E hi)
theorem Du (hi:i<L.length)(h:cR G L i j):cR G L j i:=UA hG (jE hG E hi) h
theorem pD {k:Nat}(hi:i<L.length)(h:cR G L i j)(h2:cR G L j k):cR G L i k:=MK hG (jE hG E hi) h h2
theorem WM (hi:i<L.length): ∃r,r<=i/\Ly G L r/\cR G L r i:=by
 induction i using Nat.strongRecOn with
 |_ i ih=>
  by_cases h:Ly G L i
  ·exact⟨i,fZ _,h,Ct hG E hi⟩
  ·obtain⟨j,hj,hc⟩: ∃j,j<i/\cR G L j i:=Ic λhn=>h λj hj hc=>hn ⟨j,hj,hc⟩
   obtain⟨r,h1,h2,h3⟩:=ih j hj (by omega);exact⟨r,by omega,h2,pD hG E (by omega) h3 hc⟩
theorem KI {r s:Nat}(hr:r<L.length)(hs:s<L.length)(h1:Ly G L r)(h2:Ly G L s)(c1:cR G L r i)(c2:cR G L s i):r=s:=by
 have a1:=pD hG E hr c1 (Du hG E hs c2);have a2:=pD hG E hs c2 (Du hG E hr c1);rcases Nat.lt_trichotomy r s with h|h|h
 ·exact absurd a1 (h2 r h)
 ·exact h
 ·exact absurd a2 (h1 s h)
omit hG E in
structure BQ (G:List Nat->Prop)(L S:LN)(i:Nat)(Q:List Nat)(p:Nat):Prop where
 nd:Q.Nodup
 ne:0<Q.length
 hd:Q.getD 0 0=i
 mem: ∀j∈Q,j<L.length/\cR G L i j
 cl: ∀k,k<p-> ∀s∈S,∃j∈Q,L.getD j []=kE (L.getD (Q.getD k 0) []) s
omit hG E in
theorem BQ.len (b:BQ G L S i Q p):Q.length<=L.length:=by
 have h:Q ⊆ List.range L.length:=λj hj=>Mr.2 (b.mem j hj).1
 have:=List.Nodup.length_le_of_subset b.nd h;rwa [List.length_range] at this
theorem BQ.done (b:BQ G L S i Q p)(hp:Q.length<=p)(hi:i<L.length)(hS: ∀s∈S,G s)(hgen: ∀x,G x->fG n (λg=>g∈S) x)(j:Nat):j∈Q↔j<L.length/\cR G L i j:=by
 refine⟨b.mem j,λ⟨hj,hc⟩=>?_⟩
 have key: ∃k∈Q,L.getD k []=L.getD j []:=by
  refine XO (S:=λg=>g∈S) (λg hg=>hG.dY (hS g hg)) hgen (P:=λy=> ∃k∈Q,L.getD k []=y) (jE hG E hi) ⟨i,by rw[←b.hd];exact bD b.ne,rfl⟩ ?_ hc;rintro y g Y ⟨k,hk,rfl⟩ hg;obtain⟨t,ht,et⟩:=Dt.1 hk;obtain⟨j2,h1,h2⟩:=b.cl t (by omega) g hg;have e:Q.getD t 0=k:=by rw[Pm.bG ht,et]
  rw[e] at h2;exact⟨j2,h1,h2⟩
 obtain⟨k,hk,e⟩:=key;have hkl:=(b.mem k hk).1;rw[←Pn E.nodup hkl hj e];exact hk
theorem BQ.sort (b:BQ G L S i Q p)(hp:Q.length<=p)(hi:i<L.length)(hS: ∀s∈S,G s)(hgen: ∀x,G x->fG n (λg=>g∈S) x){l':List Int}(h1:l'.Perm (zi Q))(h2:l'.Pairwise (· <= ·)):l'=zi (fY G L i):=by
 refine Ux (h1.trans ?_) h2 ?_
 ·refine List.Perm.map _ ((List.perm_ext_iff_of_nodup b.nd (qC i)).2 λj=>?_)
  rw[b.done hG E hp hi hS hgen j,fW]
 ·unfold zi
  rw[List.pairwise_map];exact (Ts i).imp λh=>by omega
theorem Ge (hi:i<L.length)(hr:Ly G L i):0<(fY G L i).length/\(fY G L i).getD 0 0=i:=by
 have hm:i∈fY G L i:=fW.2 ⟨hi,Ct hG E hi⟩;have hl:=List.length_pos_of_mem hm;refine⟨hl,?_⟩;have h0:=fW.1 (bD (d:=0) hl);obtain⟨k,hk,ek⟩:=Dt.1 hm;have asc:=List.pairwise_iff_getElem.1 (Ts (G:=G) (L:=L) i);rw[Pm.bG hl] at*
 by_cases hk0:k=0
 ·subst hk0;exact ek
 ·have h1:=asc 0 k hl hk (by omega)
  exact absurd (Du hG E hi h0.2) (hr _ (by omega))
end
end Go.Proofs.YtddpkbicnolafaaGreat
namespace Go.Ay
open Go
def PK (o:Option Ob)(h:H)(id:Nat)(s:Bl)(k y:V):Option (V×H):=match o with
 |some (.wmap sh es)=>if s=sh/\isKey s k=true then
   some (V.undef,h.set id (some (.wmap sh (match gO k es with
    |some e=>es.set e.1 (k,y)
    |none=>es++ [(k,y)]))))
  else none
 |_=>none
def WA (s:Bl)(h:H)(x k y:V):Option (V×H):=match x with
 | .mp id=>PK (h.get id) h id s k y
 |_=>none
theorem TE (ρ:X->V)(h:H)(s:Bl)(x k y:X):cV ρ h (.msw s x k y)=WA s h (ρ x) (ρ k) (ρ y):=by
 simp only[cV,WA,PK];cases ρ x<;>try rfl
theorem TC (s:Bl)(h:H)(id:Nat)(k y:V):WA s h (.mp id) k y=PK (h.get id) h id s k y:=rfl
def NU (o:Option Ob)(s:Bl)(zero:V)(ok:Bool)(k:V):Option V:=match o with
 |some (.wmap sh es)=>if s=sh/\isKey s k=true then
   match gO k es with
   |some e=>some (if ok then .tup [e.2,.bool true] else e.2)
   |none=>some (if ok then .tup [zero,.bool false] else zero)
  else none
 |_=>none
def XR (s:Bl)(zero:V)(ok:Bool)(h:H)(x k:V):Option V:=match x with
 | .mp id=>NU (h.get id) s zero ok k
 |_=>none
theorem SQ (ρ:X->V)(h:H)(s:Bl)(zero:V)(ok:Bool)(x k:X):cV ρ h (.lkw s zero ok x k)=(XR s zero ok h (ρ x) (ρ k)).map (·,h):=by
 simp only[cV,XR,NU];cases ρ x<;>try rfl
 rename_i id;simp only
 cases hg:h.get id with
 |none=>rfl
 |some o=>
  cases o<;>try rfl
  rename_i sh es;simp only
  by_cases hc:s=sh/\isKey s (ρ k)=true
  ·rw[if_pos hc,if_pos hc]
   cases gO (ρ k) es<;>rfl
  ·rw[if_neg hc,if_neg hc];rfl
theorem UO (s:Bl)(zero:V)(ok:Bool)(h:H)(id:Nat)(k:V):XR s zero ok h (.mp id) k=NU (h.get id) s zero ok k:=rfl
attribute [go_sem] TE TC SQ UO
end Go.Ay
namespace Go.Proofs.YtddpkbicnolafaaGreat
open Go Go.Ay Go.Pm
set_option maxRecDepth 100000
def Sb (L:LN)(k:Nat):List (V×V):=(List.range k).map λi=>(V.str (L.getD i []),aC i)
theorem Gs (k:V): ∀(a b:List (V×V)),gO k a=none->gO k (a++b)=(gO k b).map λq=>(q.1+a.length,q.2)
 | [],b,_=>by
  cases h:gO k b<;>simp [h]
 |e::a,b,h=>by
  show (if dW k e.1 then some (0,e.2) else (gO k (a++b)).map λq=>(q.1+1,q.2))=_;have h':(if dW k e.1 then some (0,e.2) else (gO k a).map λq=>(q.1+1,q.2))=none:=h;split at h'
  ·cases h'
  ·rename_i hn
   rw[if_neg hn,Gs k a b (by cases h2:gO k a with|none=>rfl|some x=>rw[h2] at h';cases h'),Option.map_map]
   rfl
theorem Lw (L:LN)(k:Nat):Sb L (k+1)=Sb L k++ [(V.str (L.getD k []),aC k)]:=by
 unfold Sb;rw[List.range_succ,List.map_append];rfl
theorem Jp {L:LN}{w:List Nat}: ∀{k:Nat},(∀i,i<k->L.getD i []≠w)->gO (.str w) (Sb L k)=none
 |0,_=>rfl
 |k+1,h=>by
  rw[Lw,Gs _ _ _ (Jp λi hi=>h i (by omega))]
  have:(dW (.str w) (.str (L.getD k [])))=false:=by
   have:=h k (by omega);simp only[dW,beq_eq_false_iff_ne,ne_eq];exact λe=>this e.symm
  show Option.map _ (if dW (.str w) (.str (L.getD k [])) then _ else _)=_;rw[if_neg (by rw[this];simp)];rfl
theorem Sj {L:LN}(nd:L.Nodup): ∀{k i:Nat},k<=L.length->i<k->gO (.str (L.getD i [])) (Sb L k)=some (i,aC i)
 |0,i,_,h=>by omega
 |k+1,i,hk,h=>by
  rw[Lw]
  by_cases e:i=k
  ·subst e
   rw[Gs _ _ _ (Jp λj hj e=>by have:=Pn nd (by omega) (by omega) e;omega)];show Option.map _ (if dW (.str (L.getD i [])) (.str (L.getD i [])) then some (0,aC i) else _)=_;rw[if_pos (by simp [dW])];simp [Sb]
  ·have ih:=Sj nd (k:=k) (by omega) (show i<k by omega)
   have key: ∀(a b:List (V×V)) (x:V) (r:Nat×V),gO x a=some r->gO x (a++b)=some r:=by
    intro a
    induction a with
    |nil=>intro b x r h;cases h
    |cons y a ih2=>
     intro b x r h;show (if dW x y.1 then some (0,y.2) else (gO x (a++b)).map λq=>(q.1+1,q.2))=_;have h':(if dW x y.1 then some (0,y.2) else (gO x a).map λq=>(q.1+1,q.2))=some r:=h
     by_cases hc:dW x y.1=true
     ·rw[if_pos hc] at h' ⊢;exact h'
     ·rw[if_neg hc] at h' ⊢
      cases h2:gO x a with
      |none=>rw[h2] at h';cases h'
      |some r2=>rw[h2] at h';rw[ih2 b x r2 h2];exact h'
   exact key _ _ _ _ ih
theorem Kd {w:List Nat}(h1:w.length<=1000)(h2: ∀x∈w,x<256):isKey .str (.str w)=true:=by
 have e:(decide (w.length<2^62)&&w.all λn=>decide (n<256))=true:=by
  rw[Bool.and_eq_true,decide_eq_true_eq,List.all_eq_true];exact⟨by omega,λx hx=>by simpa using h2 x hx⟩
 exact e
theorem HF {L:LN}(nd:L.Nodup){k:Nat}(hk:k<L.length)(hK:isKey .str (.str (L.getD k []))=true)(hh:H)(M:Nat):
  PK (some (.wmap .str (Sb L k))) hh M .str (.str (L.getD k [])) (aC k)=some (.undef,hh.set M (some (.wmap .str (Sb L (k+1))))):=by
 have e:gO (.str (L.getD k [])) (Sb L k)=none:=Jp λj hj e=>by have:=Pn nd (by omega) hk e;omega
 simp only[PK]
 rw[if_pos ⟨trivial,hK⟩,e,Lw]
theorem Ug {L:LN}(nd:L.Nodup){i:Nat}(hi:i<L.length)(hK:isKey .str (.str (L.getD i []))=true)(z:V):
  NU (some (.wmap .str (Sb L L.length))) .str z false (.str (L.getD i []))=some (aC i):=by
 simp only[NU]
 rw[if_pos ⟨trivial,hK⟩,Sj nd (fZ _) hi];rfl
end Go.Proofs.YtddpkbicnolafaaGreat
namespace Go.Proofs.YtddpkbicnolafaaGreat
open Go Go.Ay Go.Pm
set_option maxRecDepth 100000
variable {G:List Nat->Prop} {L:LN} {i j n:Nat} {Q:List Nat} {h:H} {v:V}
theorem HO (vc:V)(d:Int)(O:List (List Int))(R:List (List (List Int)))(h:H)(hc:Az h vc d O R)(hd:d<=7∨64<d)(so:lF O)(sr:lH R)(hb:kI d O R≠0):
  Ev T 45 [vc] h (λv h'=>v= .tup [.nilp,aC (kI d O R)]/\Fr h h'):=by
 have hc0:=hc
 obtain⟨vO,vR,e,sO,sR⟩:=hc
 subst e
 refine bH iK rfl rfl ?_
 have oneO:vO.one=true:=Hc sO
 have oneR:vR.one=true:=Eo sR
 obtain⟨B,hB⟩:=exI h.next
 obtain⟨h1,e1,n1,g1,o1,f1⟩:=eQ hB [aC d,vO,vR]
 have bx:=bE h (v:= aC d) (u:=vO) (w:=vR) rfl oneO oneR
 have rB:=aJ g1
 simp(disch:=omega)only[go_sem,iK,aE,bx,hB,e1,rB]
 refine (HC _ d O R h1 (hc0.mono f1) hd so sr hb).mono ?_
 rintro _ h2 ⟨rfl,f2⟩
 simp(disch:=omega)only[go_sem]
 refine aX (λ_=>?_) (λhc=>(hc hb).elim)
 simp(disch:=omega)only[go_sem]
 exact f1.trans f2
theorem FE {vL:V}(hc:vL.cells= [vL])(ho:vL.one=true)(M N m:Nat):uB [.aB,.nilm,.aB,.aB] [(0,1,vL),(1,1,.mp M),(3,1,.sl N 0 m (.kn m))]=some (.agg [vL,.mp M,.aB,.sl N 0 m (.kn m)]):=by
 simp [uB,jZ,putAt,hc,ho,show (V.mp M).cells= [V.mp M] from rfl,show (V.sl N 0 m (.kn m)).cells= [V.sl N 0 m (.kn m)] from rfl,show (V.mp M).one=true from rfl,show (V.sl N 0 m (.kn m)).one=true from rfl]
theorem GN {vL:V}(ho:vL.one=true)(M N m:Nat)(h:H):Jz h (.agg [vL,.mp M,.aB,.sl N 0 m (.kn m)])=some (.ptr h.next 0,h.new (.cells false [vL,.mp M,.aB,.sl N 0 m (.kn m)])):=Dr h _ (by simp [ho,show (V.mp M).one=true from rfl,show (V.sl N 0 m (.kn m)).one=true from rfl,show V.aB.one=true from rfl])
open Classical in
noncomputable def En (G:List Nat->Prop)(L:LN)(i:Nat)(Q:List Nat)(j:Nat):Bool:=decide ((∃i0,i0<i/\cR G L i0 j)∨j∈Q)
theorem nV:En G L i Q j=true↔(∃i0,i0<i/\cR G L i0 j)∨j∈Q:=by classical unfold En;simp only[decide_eq_true_eq]
theorem NA (G:List Nat->Prop)(L:LN)(j:Nat):En G L 0 [] j=false:=by
 rw[←Bool.not_eq_true,nV];rintro (⟨i0,h,_⟩|h)
 ·omega
 ·cases h
theorem Tb {k:Nat}:En G L i (Q++ [k]) j=if j=k then true else En G L i Q j:=by
 by_cases e:j=k
 ·rw[if_pos e,nV];exact .inr (by simp [e])
 ·rw[if_neg e,Bool.eq_iff_iff,nV,nV]
  simp [e]
theorem yR {p:Nat->Option Ay.Fn}{rd:Option Nat}{a:C}{k:Nat}{vars:List V}{Q:E->List V->H->Prop}(J:List V->H->Prop)(h1:Wp p rd (.loop a) vars h (λe v h'=>e= .exit k/\J v h'))(h2: ∀v h',J v h'->Q .norm v h'):Wp p rd (.loop a) vars h (uY k Q):=
 h1.mono λe v h' x=>by
  obtain⟨rfl,x⟩:=x;rw[zD];exact h2 v h' x
theorem dB.ge {sz id off b:Nat}{ws:List V}(o:dB h v sz ws b)(hn:ws.length=n*sz)(hz:0<sz)(s:Sl v sz n id off)(h0:0<n):b<=id:=by
 have hx:=s.ixa .i64 0 (by omega) (by omega);rcases o.sv with ⟨_,rfl⟩|⟨id',off',len,cap,ro,vs,e,h2,_⟩
 ·have:=Nat.mul_pos h0 hz
  simp at hn;omega
 ·have h3:=(o.in _ _ _ _ e).2.1
  subst e
  have hl:0<len:=by
   have:=Nat.mul_pos h0 hz;refine Nat.pos_of_ne_zero λe0=>?_
   subst e0;simp at h2;rw[h2] at hn;simp at hn;omega
  rw[Hw (by omega) (by omega)] at hx;simp only[Option.some.injEq,V.ptr.injEq] at hx;omega
theorem KV (hG:sC n G)(E:jA G L)(hi:i<L.length)(hr: ¬Ly G L i)(j:Nat):En G L i [] j=En G L (i+1) [] j:=by
 obtain⟨i0,h0,hc⟩: ∃j,j<i/\cR G L j i:=Ic λhn=>hr λj hj hc=>hn ⟨j,hj,hc⟩
 rw[Bool.eq_iff_iff,nV,nV];constructor
 ·rintro (⟨i1,h1,h2⟩|h)
  ·exact .inl ⟨i1,by omega,h2⟩
  ·cases h
 ·rintro (⟨i1,h1,h2⟩|h)
  ·by_cases e:i1=i
   ·subst e;exact .inl ⟨i0,h0,pD hG E (by omega) hc h2⟩
   ·exact .inl ⟨i1,by omega,h2⟩
  ·cases h
theorem JD {S:LN}(hG:sC n G)(E:jA G L)(hi:i<L.length)(b:BQ G L S i Q Q.length)(hS: ∀s∈S,G s)(hgen: ∀x,G x->fG n (λg=>g∈S) x)(hj:j<L.length):En G L i Q j=En G L (i+1) [] j:=by
 rw[Bool.eq_iff_iff,nV,nV];constructor
 ·rintro (⟨i1,h1,h2⟩|h)
  ·exact .inl ⟨i1,by omega,h2⟩
  ·exact .inl ⟨i,by omega,(b.mem j h).2⟩
 ·rintro (⟨i1,h1,h2⟩|h)
  ·by_cases e:i1=i
   ·subst e;exact .inr ((b.done hG E (fZ _) hi hS hgen j).2 ⟨hj,h2⟩)
   ·exact .inl ⟨i1,by omega,h2⟩
  ·cases h
theorem Am (hc:v.cells= [v])(ho:v.one=true)(x y:Int):uB [.aB,aC 0,aC 0] [(0,1,v),(1,1,aC x),(2,1,aC y)]=some (.agg [v,aC x,aC y]):=by
 simp [uB,jZ,putAt,hc,ho,show ∀z,(aC z).cells= [aC z] from λ_=>rfl,show ∀z,(aC z).one=true from λ_=>rfl]
theorem GM {w:V}(ho:v.one=true)(hc':w.cells= [w])(ho':w.one=true)(x y:Int):uB [.aB,aC 0,aC 0,.aB] [(0,3,.agg [v,aC x,aC y]),(3,1,w)]=some (.agg [v,aC x,aC y,w]):=by
 simp [uB,jZ,putAt,hc',ho,ho',show ∀l,(V.agg l).cells=l from λ_=>rfl,show ∀z,(aC z).one=true from λ_=>rfl]
theorem CY {w:V}(ho:v.one=true)(ho':w.one=true)(x y:Int)(h:H):vH h 4 [.aB,aC 0,aC 0,.aB] 1 [(0,4,.agg [v,aC x,aC y,w])]=some (.sl h.next 0 1 (.kn 1),h.new (.cells false [v,aC x,aC y,w])):=by
 have e:dQ [V.aB,aC 0,aC 0,.aB] 4= [V.aB,aC 0,aC 0,.aB]:=rfl;simp [vH,jZ,putAt,e,ho,ho',show ∀l,(V.agg l).cells=l from λ_=>rfl,show ∀z,(aC z).one=true from λ_=>rfl]
theorem sF (k:Nat):(bY G L k).length<=k:=by
 classical
 unfold bY;exact Nat.le_trans (List.length_filter_le _ _) (by rw[List.length_range];exact fZ _)
theorem Np (ks:List Cls.KE):(Cls.nP ks).length=ks.length*4:=by
 induction ks with
 |nil=>rfl
 |cons a r ih=>
  show (a.enc++Cls.nP r).length=_;rw[oL,ih,List.length_cons];show 4+_=_;omega
theorem DW {a b c d:V}(hh:H)(id:Nat)(y:V):eG (some (.cells false [a,b,c,d])) hh id 2 [y]=some (hh.set id (some (.cells false [a,b,y,d]))):=by
 simp [eG,putAt]
theorem WX {sz:Nat}{ws:List V}(s:SV h v sz ws):Wx (λq=>h.next<=q) v:=by
 cases v with
 |sl id off len cap=>exact λh2=>by have:=s.in _ _ _ _ rfl;omega
 |_=>trivial
structure KO (n:Nat)(G:List Nat->Prop)(L:LN)(X:Nat)(W:Nat->Prop)(hh:H)(a:Cls.KE)(r:Nat):Prop where
 fst:a.fst=r
 ord:a.ord=lW (L.getD r []) n
 size:a.size=(fY G L r).length
 rep:PV (λq=>X<=q) hh a.rep (L.getD r [])
 ranks:PV W hh a.ranks (fY G L r)
theorem KO.go {X:Nat}{W W':Nat->Prop}{h':H}{a:Cls.KE}{r:Nat}(k:KO n G L X W h a r)(f:Fx W h h')(hx:X<=h.next)(hW: ∀q,W q->X<=q)(hw: ∀q,q<h.next->W' q->W q):KO n G L X W' h' a r:=
 ⟨k.fst,k.ord,k.size,k.rep.fx ⟨f.next,λq h1 h2=>f.get q h1 λh3=>h2 (hW q h3)⟩,PV.go k.ranks f hw⟩
structure OfJ (n:Nat)(G:List Nat->Prop)(L:LN)(X D:Nat)(vL:V)(h5:H)(i:Nat)(hh:H):Prop where
 ex: ∃vK ks W,hh.get (X+8)=some (.cells false [vL,.mp (X+3),vK,.sl (X+6) 0 L.length (.kn L.length)])/\dB hh vK 4 (Cls.nP ks) (D+1)/\aZ (KO n G L X W hh) ks (bY G L i)/\Ej W vK/\W D/\W (X+8)/\W (X+6)/\(∀q,W q->q<hh.next)/\(∀q,W q->X<=q)/\(ks= []∨ ∃id cap,vK= .sl id 0 ks.length cap/\hh.get id=some (.cells false (Cls.nP ks)))
 gD:hh.get D=some (.cells false (rc L.length λj=> .bool (En G L i [] j)))
 old:Fx (λq=>q=X+8∨D<=q) h5 hh
 nx:D<hh.next
def IU (n:Nat):C->Bool
 | .block k _=>k==n
 | .seq _ b=>IU n b
 |_=>false
def Qk (n:Nat):C->C
 | .seq a b=>if IU n a then b else Qk n b
 |c=>c
structure OfE (n:Nat)(G:List Nat->Prop)(L:LN)(X D:Nat)(vL:V)(h h2 h5 h7:H):Prop where
 el:jA G L
 le:L.length<=5040
 f2:Fr h h2
 x2:h2.next=X
 sp:SP h2 vL L
 f25:Fr h2 h5
 xD:X+10<=D
 n5:h5.next=D
 gM:h5.get (X+3)=some (.wmap .str (Sb L L.length))
 gN:h5.get (X+6)=some (.cells false (rc L.length λ_=> aC 0))
 j:OfJ n G L X D vL h5 L.length h7
theorem TX {W0:Nat->Prop}(vc:V)(n:Nat)(O:LN)(R:kW)(G:List Nat->Prop)(h:H)(gc:GC W0 h vc n O R G)(P:V->H->Prop)
  (hk: ∀L X D vL h2 h5 h7 A (g:Nat->V),cG O R n 0 (cH n)=L->OfE n G L X D vL h h2 h5 h7->Wp T none (Qk 2 iK.body) ([g 0,.ptr A 0,.nilp,aC 0,vL,g 5,.ptr (X+8) 0,g 7,g 8,g 9,g 10,g 11,g 12,g 13,g 14,g 15,g 16,g 17,g 18,g 19,g 20,g 21,g 22,g 23,g 24,g 25,g 26,g 27,g 28,g 29,g 30,g 31,g 32,g 33,g 34,g 35,g 36,g 37,g 38,g 39,g 40,g 41,g 42,g 43,g 44,g 45]) h7 (JZ iK.results P)):
  Ev T 45 [vc] h P:=by
 obtain⟨vO,vR,e,sO,sR⟩:=gc.ch
 subst e
 refine bH iK rfl rfl ?_
 have oneO:vO.one=true:=Hc sO
 have oneR:vR.one=true:=Eo sR
 obtain⟨A,hA⟩:=exI h.next
 obtain⟨h1,e1,n1,g1,o1,f1⟩:=eQ hA [aC n,vO,vR]
 have bx:=bE h (v:= aC n) (u:=vO) (w:=vR) rfl oneO oneR
 have rB:=aJ g1
 obtain⟨L,hL⟩:=exI (cG O R n 0 (cH n))
 obtain⟨E,ll⟩:=eE gc.kP gc.isc
 have ll5:=kU gc
 rw[hL] at E ll
 have hG:=gc.kP
 have n7:=gc.n7
 have n0:=gc.n0
 simp(disch:=omega)only[go_sem,iK,aE,bx,hA,e1,rB]
 refine (RM _ n O R G h1 (gc.mono f1)).mono ?_
 rw[hL]
 rintro _ h2 ⟨vL,rfl,nw⟩
 obtain⟨wL,W,owL,pvL,bkL,W1⟩:=nw.ex
 have hwL:=aZ.length pvL
 obtain⟨m,hm⟩:=exI L.length
 rw[hm] at hwL
 have lvL:=dB.lens owL hwL
 have oneL:=owL.sv.cJ.2.1
 have f2:=nw.fr
 simp(disch:=omega)only[go_sem,lvL]
 refine aX (λhc=>(hc rfl).elim) (λ_=>?_)
 obtain⟨X,hX⟩:=exI h2.next
 simp(disch:=omega)only[go_sem,lvL,kX _ m (by omega),hX,FE owL.sv.cJ.1 oneL,GN oneL]
 obtain⟨h3,h3e⟩: ∃h3:H,h3=H.mk ((H.mk ((H.mk ((H.mk h2.tr (X+3)).new (Ob.wmap Bl.str [])).tr (X+6)).new (Ob.cells false (rc m λ_=>aC 0))).tr (X+8)).new (Ob.cells false [vL,.mp (X+3),.aB,.sl (X+6) 0 m (.kn m)])).tr (X+10):=⟨_,rfl⟩
 rw[←h3e]
 have n3:h3.next=X+10:=by rw[h3e]
 have gB:h3.get (X+8)=some (.cells false [vL,.mp (X+3),.aB,.sl (X+6) 0 m (.kn m)]):=by rw[h3e];exact H.aN (H.mk _ (X+8)) _
 have gN:h3.get (X+6)=some (.cells false (rc m λ_=>aC 0)):=by
  rw[h3e];exact (H.bI (H.mk _ (X+8)) (show X+6≠X+8 by omega) _).trans (H.aN (H.mk _ (X+6)) _)
 have gM:h3.get (X+3)=some (.wmap .str (Sb L 0)):=by
  rw[h3e];exact (H.bI (H.mk _ (X+8)) (show X+3≠X+8 by omega) _).trans ((H.bI (H.mk _ (X+6)) (show X+3≠X+6 by omega) _).trans (H.aN (H.mk _ (X+3)) _))
 have f3:Fr h2 h3:=⟨by omega,λq hq=>by
  rw[h3e]
  exact (H.bI (H.mk _ (X+8)) (show q≠X+8 by omega) _).trans ((H.bI (H.mk _ (X+6)) (show q≠X+6 by omega) _).trans (H.bI (H.mk _ (X+3)) (show q≠X+3 by omega) _))⟩
 clear h3e
 have lt64: ∀i,i<m->(L.getD i []).length<=1000/\ ∀x∈L.getD i [],x<256:=λi hi=>by
  have P:=jE hG E (show i<L.length by omega);exact⟨by rw[P.len];omega,λx hx=>by have:=P.lt x hx;omega⟩
 obtain⟨idL,offL,shL,hidL,hcL⟩:=SV.shape owL.sv m (by omega) (by omega)
 have hLa: ∀i,i<m-> ∃vx,(∀h',Fr h2 h'->h'.cell idL (offL+i)=some vx)/\SI h2 vx (zi (L.getD i [])):=λi hi=>by
  obtain⟨v,h1,h2'⟩:=fF.at pvL (i:=i) (by omega);exact⟨v,λh' f=>by rw[f.cell (hidL (by omega)),hcL i (by omega),h1],h2'.si⟩
 have hK: ∀i,i<m->isKey .str (.str (L.getD i []))=true:=λi hi=>Kd (lt64 i hi).1 (lt64 i hi).2
 refine bJ (λvs hh=>(∃g:Nat->V,vs= [g 0,.ptr A 0,.nilp,aC 0,vL,g 5,.ptr (X+8) 0,g 7,g 8,g 9,g 10,g 11,g 12,g 13,g 14,g 15,g 16,g 17,g 18,g 19,g 20,g 21,g 22,g 23,g 24,g 25,g 26,g 27,g 28,g 29,g 30,g 31,g 32,g 33,g 34,g 35,g 36,g 37,g 38,g 39,g 40,g 41,g 42,g 43,g 44,g 45])/\hh.get (X+3)=some (.wmap .str (Sb L m))/\Fx (· =X+3) h3 hh) ?_ ?_
 ·refine aH (λk' vs hh=> ∃(i:Nat),(∃g:Nat->V,vs= [g 0,.ptr A 0,.nilp,aC 0,vL,g 5,.ptr (X+8) 0,g 7,g 8,g 9,g 10,g 11,g 12,g 13,g 14,g 15,g 16,g 17,g 18,g 19,g 20,g 21,g 22,vL,aC m,aC i,g 26,g 27,g 28,g 29,g 30,g 31,g 32,g 33,g 34,g 35,g 36,g 37,g 38,g 39,g 40,g 41,g 42,g 43,g 44,g 45])/\i<=m/\hh.get (X+3)=some (.wmap .str (Sb L i))/\Fx (· =X+3) h3 hh/\k'=m-i) m
   ⟨0,aA rfl,iP _,gM,Fx.refl _ h3,rfl⟩ ?_
  rintro k' vars h4 ⟨i,⟨g,rfl⟩,hi,gM4,F4,rfl⟩
  by_cases hlt:(i:Int)<(m:Int)
  case neg=>
   have d4:=eS hlt;obtain rfl:i=m:=by omega
   simp(disch:=omega)only[go_sem,d4];exact⟨aA rfl,gM4,F4⟩
  have d4:=iB hlt
  have hi':i<m:=by omega
  have f24:Fr h2 h4:=⟨by have:=F4.next;omega,λq hq=>by rw[F4.get q (by omega) (by omega)];exact f3.get q hq⟩
  have gB4:h4.get (X+8)=some (.cells false [vL,.mp (X+3),.aB,.sl (X+6) 0 m (.kn m)]):=by rw[F4.get _ (by omega) (by omega)];exact gB
  obtain⟨vx,cx,sx⟩:=hLa i hi'
  have cB2:h4.cell (X+8) 1=some (.mp (X+3)):=by rw[H.aF gB4];rfl
  simp(disch:=omega)only[go_sem,d4,shL.ixa,cx h4 f24,cB2]
  refine (Rx vx (L.getD i []) _ (lt64 i hi').1 (lt64 i hi').2 (sx.mono (f24.trans ((Fr.refl h4).bF (by omega))))).mono ?_
  rintro _ h5 ⟨rfl,f5⟩
  have f45:Fr h4 h5:=((Fr.refl h4).bF (by omega)).trans f5
  have n4:=F4.next
  have gM5:h5.get (X+3)=some (.wmap .str (Sb L i)):=by rw[f45.get _ (by omega)];exact gM4
  have cB5:h5.cell (X+8) 1=some (.mp (X+3)):=by rw[f45.cell (by omega)];exact cB2
  have pt:=λhh=>HF E.nodup (show i<L.length by omega) (hK i hi') hh (X+3)
  simp(disch:=omega)only[go_sem,cB5,gM5,pt]
  rw[fA i]
  refine⟨by simp [dW],m-(i+1),by omega,i+1,aA rfl,by omega,rfl,⟨by have:=f45.next;show h3.next<=h5.next;omega,λq h1 h2=>by rw[H.aG _ (λe=>h2 e),f45.get q (by omega)];exact F4.get q h1 h2⟩,rfl⟩
 rintro vars h4 ⟨⟨g,rfl⟩,gM4,F4⟩
 have n4:=F4.next
 have f24:Fr h2 h4:=⟨by omega,λq hq=>by rw[F4.get q (by omega) (by omega)];exact f3.get q hq⟩
 have gB4:h4.get (X+8)=some (.cells false [vL,.mp (X+3),.aB,.sl (X+6) 0 m (.kn m)]):=by rw[F4.get _ (by omega) (by omega)];exact gB
 have gN4:h4.get (X+6)=some (.cells false (rc m λ_=>aC 0)):=by rw[F4.get _ (by omega) (by omega)];exact gN
 have f14:=f2.trans f24
 have rA:=aJ (h:=h4) (id:=A) (ro:=false) (by rw[f14.get _ (by omega)];exact g1)
 simp(disch:=omega)only[go_sem,rA]
 refine (Mq _ n O R G h4 (gc.mono (f1.trans f14))).mono ?_
 rintro _ h5 ⟨vS,rfl,nS⟩
 have f5:=nS.fr
 obtain⟨D,hD⟩:=exI h5.next
 obtain⟨h6,e6,n6,g6,o6,f6⟩:=eQ hD (rc m λ_=>V.bool false)
 simp(disch:=omega)only[go_sem,lvL,Gm,hD,e6]
 have f25:=f24.trans f5
 have hX5:=f25.next
 have n5:=f5.next
 obtain⟨wS,WS,owS,pvS,bkS,WS1⟩:=nS.ex
 obtain⟨S,hS⟩:=exI (gG R)
 rw[hS] at pvS
 have hwS:=aZ.length pvS
 have hSG: ∀s∈S,G s:=λs hs=>sJ gc.isc (by rw[hS];exact hs)
 have hSgen: ∀x,G x->fG n (λg=>g∈S) x:=λx hx=>by rw[←hS];exact Ll hG gc.isc hx
 obtain⟨sl,hsl⟩:=exI S.length
 have hsl7:sl<=49:=by
  have h1: ∀j,j<R.length->(R.getD j []).length<=n:=λj hj=>by
   have hj':j<n:=by rw[←gc.isc.lr];exact hj
   rw[gc.isc.rl j hj'];have:=oX (λx hx=>hG.dY hx) hj' (gc.isc.asc j hj') (gc.isc.mem j hj');omega
  have h2:=xV (n:=n) (R:=R) (fZ _) h1;rw[List.take_length,hS,hsl,gc.isc.lr] at h2;have:n*n<=7*7:=Nat.mul_le_mul n7 n7;omega
 have lvS:=dB.lens owS (hwS.trans hsl)
 obtain⟨idS,offS,shS,hidS,hcS⟩:=SV.shape owS.sv sl (by omega) (by omega)
 have geS:=dB.ge owS (n:=sl) (by omega) (by omega) shS
 have hSa: ∀t,t<sl-> ∃vy,(∀hh,Fx (λq=>q=X+8∨D<=q) h5 hh->hh.cell idS (offS+t)=some vy)/\PV (λq=>q=X+8∨D<=q) h5 vy (S.getD t []):=λt ht=>by
  obtain⟨v,h1,h2'⟩:=fF.at pvS (i:=t) (by omega);have hi:=hidS (by omega);have hge:h4.next<=idS:=geS (by omega);refine⟨v,λhh f=>?_,h2'.sP λid hid hw=>WS1 id ?_⟩
  ·have e:hh.get idS=h5.get idS:=f.get idS hi (by omega)
   unfold H.cell;rw[e];have:=hcS t (by omega);rw[h1] at this;exact this
  ·rcases hw with e|e
   ·omega
   ·omega
 have J0:OfJ n G L X D vL h5 0 h6:=
  ⟨⟨.aB, [],λq=>q=D∨q=X+8∨q=X+6,by rw[f6.get _ (by omega),f5.get _ (by omega),hm];exact gB4,dB.aB _ _ _,trivial,λ_ _ _ _ e=>(by cases e),.inl rfl,.inr (.inl rfl),.inr (.inr rfl),λq h=>by rcases h with h|h|h<;>omega,λq h=>by rcases h with h|h|h<;>omega,.inl rfl⟩,
   by rw[g6,hm,show (λj=>V.bool (En G L 0 [] j))=λ_=>V.bool false from funext λj=>by rw[NA]],Fx.of f6,by omega⟩
 refine bJ (λvs hh=>(∃g:Nat->V,vs= [g 0,.ptr A 0,.nilp,aC 0,vL,g 5,.ptr (X+8) 0,g 7,g 8,g 9,g 10,g 11,g 12,g 13,g 14,g 15,g 16,g 17,g 18,g 19,g 20,g 21,g 22,g 23,g 24,g 25,g 26,g 27,g 28,g 29,g 30,g 31,g 32,g 33,g 34,g 35,g 36,g 37,g 38,g 39,g 40,g 41,g 42,g 43,g 44,g 45])/\OfJ n G L X D vL h5 m hh) ?_ ?_
 ·refine aH (λk' vs hh=> ∃(i:Nat),(∃g:Nat->V,vs= [g 0,.ptr A 0,.nilp,aC 0,vL,g 5,.ptr (X+8) 0,g 7,g 8,vS,.sl D 0 m (.kn m),g 11,g 12,g 13,g 14,g 15,g 16,g 17,g 18,g 19,g 20,g 21,g 22,g 23,g 24,g 25,g 26,vL,aC m,aC i,g 30,g 31,g 32,g 33,g 34,g 35,g 36,g 37,g 38,g 39,g 40,g 41,g 42,g 43,g 44,g 45])/\i<=m/\OfJ n G L X D vL h5 i hh/\k'=m-i) m
   ⟨0,aA rfl,iP _,J0,rfl⟩ ?_
  clear J0
  rintro k' vars h7 ⟨i,⟨g,rfl⟩,hi,J,rfl⟩
  by_cases hlt:(i:Int)<(m:Int)
  case neg=>
   have d4:=eS hlt;obtain rfl:i=m:=by omega
   simp(disch:=omega)only[go_sem,d4];exact⟨aA rfl,J⟩
  have d4:=iB hlt
  have hi':i<m:=by omega
  have nD:=J.nx
  have f27:Fr h2 h7:=⟨by omega,λq hq=>by rw[J.old.get q (by omega) (by omega)];exact f25.get q hq⟩
  obtain⟨vx,cx,sx⟩:=hLa i hi'
  have cD:=gZ J.gD (i:=i) (by omega)
  by_cases hr:Ly G L i
  case neg=>
   have hsn:En G L i [] i=true:=by
    rw[nV];exact .inl (Ic λhn=>hr λj hj hc=>hn ⟨j,hj,hc⟩)
   rw[hsn] at cD;simp(disch:=omega)only[go_sem,d4,shL.ixa,cx h7 f27,cD];rw[fA i];refine⟨m-(i+1),by omega,i+1,aA rfl,by omega,?_,rfl⟩;refine⟨?_,?_,J.old,J.nx⟩
   ·rw[(oF i).2 hr];exact J.ex
   ·rw[J.gD,bN λj _=>by rw[KV hG E (show i<L.length by omega) hr j]]
  have hsn:En G L i [] i=false:=by
   rw[←Bool.not_eq_true,nV];rintro (⟨j,hj,hc⟩|h)
   ·exact hr j hj hc
   ·cases h
  rw[hsn] at cD
  obtain⟨h8,e8,n8,g8,o8⟩:=uA h7 D ((rc L.length λj=> .bool (En G L i [] j)).set i (.bool true))
  obtain⟨Z,hZ⟩:=exI h8.next
  obtain⟨h9,e9,n9,g9,o9,f9⟩:=eQ hZ [aC i]
  have pt:=bP (vs:=rc L.length λj=> .bool (En G L i [] j)) (off:=i) (by rw[iE];omega)
  clear bx gc sO sR rB rA hcL gN4 gB4 g1 o1 f1 f3 gB gN gM
  simp(disch:=omega)only[go_sem,d4,shL.ixa,cx h7 f27,cD,J.gD,pt,e8,cT h8 (z:= aC 0) (v:= aC i) rfl rfl,hZ,e9]
  have hZ7:h7.next=Z:=by omega
  have hc0:(rc L.length λj=>V.bool (En G L i [] j)).set i (.bool true)=rc L.length λj=> .bool (En G L i [i] j):=by
   rw[jL]
   exact bN λj _=>by
    rw[show [i]= []++ [i] from rfl,Tb]
    by_cases e:j=i
    ·rw[if_pos e,if_pos e]
    ·rw[if_neg e,if_neg e]
  have F79:Fx (· =D) h7 h9:=⟨by omega,λq h1 h2=>by rw[o9 q (by omega),o8 q h2]⟩
  have B0:BQ G L S i [i] 0:=⟨by simp,by simp,rfl,λj hj=>by
   obtain rfl:j=i:=by simpa using hj
   exact⟨by omega,Ct hG E (by omega)⟩,λk hk=>by omega⟩
  refine bJ (λvs hh=> ∃(Q:List Nat) (q:Nat) (cp:rM),(∃g:Nat->V,vs= [g 0,.ptr A 0,.nilp,aC 0,vL,g 5,.ptr (X+8) 0,g 7,g 8,vS,.sl D 0 m (.kn m),aC i,vx,.sl q 0 Q.length cp,g 14,g 15,g 16,g 17,g 18,g 19,g 20,g 21,g 22,g 23,g 24,g 25,g 26,vL,aC m,aC i,g 30,g 31,g 32,g 33,g 34,g 35,g 36,g 37,g 38,g 39,g 40,g 41,g 42,g 43,g 44,g 45])/\
    BQ G L S i Q Q.length/\(cp= .un 1∨cp= .kn Q.length)/\hh.get q=some (.cells false (ints (zi Q)))/\Z<=q/\q<hh.next/\hh.get D=some (.cells false (rc L.length λj=> .bool (En G L i Q j)))/\Fx (· =D) h7 hh) ?_ ?_
  ·refine aH (λk' vs hh=> ∃(Q:List Nat) (q:Nat) (cp:rM) (p:Nat),(∃g:Nat->V,vs= [g 0,.ptr A 0,.nilp,aC 0,vL,g 5,.ptr (X+8) 0,g 7,g 8,vS,.sl D 0 m (.kn m),aC i,vx,.sl q 0 Q.length cp,aC p,g 15,g 16,g 17,g 18,g 19,g 20,g 21,g 22,g 23,g 24,g 25,g 26,vL,aC m,aC i,g 30,g 31,g 32,g 33,g 34,g 35,g 36,g 37,g 38,g 39,g 40,g 41,g 42,g 43,g 44,g 45])/\
    p<=Q.length/\BQ G L S i Q p/\(cp= .un 1∨cp= .kn Q.length)/\hh.get q=some (.cells false (ints (zi Q)))/\Z<=q/\q<hh.next/\hh.get D=some (.cells false (rc L.length λj=> .bool (En G L i Q j)))/\Fx (· =D) h7 hh/\k'=m-p) m
    ⟨[i],Z,_,0,aA rfl,iP _,B0,.inr rfl,g9,fZ _,by omega,by rw[o9 _ (by omega),g8,hc0],F79,rfl⟩ ?_
   clear F79 B0 e8 n8 g8 o8 hZ e9 n9 g9 o9 f9 pt hc0
   rintro k' vars ha ⟨Q,q,cp,p,⟨g2,rfl⟩,hp,BQ0,hcp,gq,hq,nq,gD,Fa,rfl⟩
   have hQl:=BQ0.len
   by_cases hpl:(p:Int)<(Q.length:Int)
   case neg=>
    have d5:decide ((p:Int)<(Q.length:Int))=false:=decide_eq_false hpl;obtain rfl:p=Q.length:=by omega
    simp(disch:=omega)only[go_sem,d5];exact⟨Q,q,cp,aA rfl,BQ0,hcp,gq,hq,nq,gD,Fa⟩
   have d5:decide ((p:Int)<(Q.length:Int))=true:=decide_eq_true hpl
   have hp':p<Q.length:=by omega
   simp(disch:=omega)only[go_sem,d5,lvS]
   obtain⟨c,hc⟩:=exI (Q.getD p 0)
   obtain⟨hcm,hcc⟩:=BQ0.mem c (by rw[←hc];exact bD hp')
   have Cp:=jE hG E hcm
   refine yR (λvs hh=> ∃(Q:List Nat) (q:Nat) (cp:rM),(∃g:Nat->V,vs= [g 0,.ptr A 0,.nilp,aC 0,vL,g 5,.ptr (X+8) 0,g 7,g 8,vS,.sl D 0 m (.kn m),aC i,vx,.sl q 0 Q.length cp,aC p,g 15,g 16,g 17,g 18,g 19,g 20,g 21,g 22,g 23,g 24,g 25,g 26,vL,aC m,aC i,g 30,g 31,g 32,g 33,g 34,g 35,g 36,g 37,g 38,g 39,g 40,g 41,g 42,g 43,g 44,g 45])/\
     p<Q.length/\BQ G L S i Q (p+1)/\(cp= .un 1∨cp= .kn Q.length)/\hh.get q=some (.cells false (ints (zi Q)))/\Z<=q/\q<hh.next/\hh.get D=some (.cells false (rc L.length λj=> .bool (En G L i Q j)))/\Fx (· =D) h7 hh) ?_ ?_
   ·refine aH (λk' vs hh=> ∃(Q:List Nat) (q:Nat) (cp:rM) (t:Nat),(∃g:Nat->V,vs= [g 0,.ptr A 0,.nilp,aC 0,vL,g 5,.ptr (X+8) 0,g 7,g 8,vS,.sl D 0 m (.kn m),aC i,vx,.sl q 0 Q.length cp,aC p,g 15,g 16,g 17,g 18,g 19,g 20,g 21,g 22,g 23,g 24,g 25,g 26,vL,aC m,aC i,g 30,g 31,g 32,vS,aC sl,aC t,g 36,g 37,g 38,g 39,g 40,g 41,g 42,g 43,g 44,g 45])/\
     p<Q.length/\t<=sl/\BQ G L S i Q p/\Q.getD p 0=c/\(∀s∈S.take t,∃j∈Q,L.getD j []=kE (L.getD c []) s)/\(cp= .un 1∨cp= .kn Q.length)/\hh.get q=some (.cells false (ints (zi Q)))/\Z<=q/\q<hh.next/\hh.get D=some (.cells false (rc L.length λj=> .bool (En G L i Q j)))/\Fx (· =D) h7 hh/\k'=sl-t) sl
     ⟨Q,q,cp,0,aA rfl,hp',iP _,BQ0,hc,λs hs=>(by simp at hs),hcp,gq,hq,nq,gD,Fa,rfl⟩ ?_
    clear BQ0 hcp gq hq nq gD Fa hc hp' hQl hpl d5 hp
    clear Q q cp
    rintro k' vars hb ⟨Q,q,cp,t,⟨g3,rfl⟩,hp',ht,BQ0,hc,hcl,hcp,gq,hq,nq,gD,Fb,rfl⟩
    by_cases htl:(t:Int)<(sl:Int)
    case neg=>
     have d5:decide ((t:Int)<(sl:Int))=false:=decide_eq_false htl;obtain rfl:t=sl:=by omega
     simp(disch:=omega)only[go_sem,d5];refine⟨Q,q,cp,aA rfl,hp',⟨BQ0.nd,BQ0.ne,BQ0.hd,BQ0.mem,λk hk s hs=>?_⟩,hcp,gq,hq,nq,gD,Fb⟩
     by_cases e:k=p
     ·subst e
      rw[hc];exact hcl s (by rw[←hsl,List.take_length];exact hs)
     ·exact BQ0.cl k (by omega) s hs
    have d5:decide ((t:Int)<(sl:Int))=true:=decide_eq_true htl
    have ht':t<sl:=by omega
    have hQl:=BQ0.len
    have nb:=Fb.next
    have FBb:Fx (λq=>q=X+8∨D<=q) h5 hb:=⟨by have:=J.old.next;omega,λq h1 h2=>by rw[Fb.get q (by omega) (λe=>h2 (.inr (by have:q=D:=e;omega)))];exact J.old.get q h1 h2⟩
    have f2b:Fr h2 hb:=⟨by omega,λq hq=>by rw[Fb.get q (by omega) (λe=>by have:q=D:=e;omega)];exact f27.get q hq⟩
    obtain⟨vy,cy,py⟩:=hSa t ht'
    obtain⟨vz,cz,sz⟩:=hLa c (by omega)
    obtain⟨s,hs⟩:=exI (S.getD t [])
    rw[hs] at py
    have hsS:s∈S:=by rw[←hs];exact bD (by omega)
    have Sp:=hG.dY (hSG s hsS)
    have cq:hb.cell q p=some (aC c):=by rw[H.aF gq,Fy hp',hc]
    simp(disch:=omega)only[go_sem,d5,shS.ixa,cy hb FBb,cq,shL.ixa,cz hb f2b]
    refine (Qi (rfl:T 50=some mQ) vy n s _ (by omega) Sp ((py.fx FBb).si.mono ((Fr.refl hb).bF (by omega)))).mono ?_
    rintro v47 k1 np1
    have K1:Fr hb k1:=((Fr.refl hb).bF (by omega)).trans np1.fr
    have cq1:k1.cell q p=some (aC c):=by rw[K1.cell nq];exact cq
    have ez:=sz.dW
    simp(disch:=omega)only[go_sem,cq1,cz k1 (f2b.trans K1),ez]
    refine (tC v47 vz (eH s) (L.getD c []) k1 (by rw[iH,Sp.len];omega) (np1.pv (W:=λ_=>False) id).si (sz.mono (f2b.trans K1)) (λj hj=>by rw[Cp.len];exact Sp.inv.eX (by rw[←Sp.inv.len];exact hj))).mono ?_
    rintro v55 k2 np2
    have K2:=K1.trans np2.fr
    have P2:=Sp.inv.mul Cp
    simp(disch:=omega)only[go_sem]
    refine (tC v55 vy _ s k2 (by rw[P2.len];omega) (np2.pv (W:=λ_=>False) id).si ((py.fx FBb).si.mono K2) (λj hj=>by rw[Sp.len];exact P2.eX (by rw[←P2.len];exact hj))).mono ?_
    rintro v57 k3 np3
    have K3:=K2.trans np3.fr
    have P3:=P2.mul Sp
    have cq3:k3.cell q p=some (aC c):=by rw[K3.cell nq];exact cq
    have s57:=(np3.pv (W:=λ_=>False) id).si
    have o57:=s57.cJ.2.1
    have gB3: ∃vK,k3.get (X+8)=some (.cells false [vL,.mp (X+3),vK,.sl (X+6) 0 L.length (.kn L.length)]):=by
     obtain⟨vK,_,_,gB,_⟩:=J.ex;exact⟨vK,by rw[K3.get _ (by omega),Fb.get _ (by omega) (λe=>by have:X+8=D:=e;omega)];exact gB⟩
    obtain⟨vK,gB3⟩:=gB3
    have cB3:k3.cell (X+8) 1=some (.mp (X+3)):=by rw[H.aF gB3];rfl
    obtain⟨j,hj,ej⟩: ∃j,j<L.length/\L.getD j []=kE (L.getD c []) s:=by
     have hm2:kE (L.getD c []) s∈L:=(E.mem _).2 (hG.mul (hG.mul (hG.inv (hSG s hsS)) (Ci E hcm)) (hSG s hsS));obtain⟨j,hj,ej⟩:=Dt.1 hm2;exact⟨j,hj,by rw[List.getD,fS hj,←ej];rfl⟩
    have e57:aW (aW (eH s) (L.getD c [])) s=L.getD j []:=ej.symm
    rw[e57] at s57
    simp(disch:=omega)only[go_sem,cq3,cz k3 (f2b.trans K3),cB3,ez]
    refine (Rx v57 (L.getD j []) _ (lt64 j (by omega)).1 (lt64 j (by omega)).2 (s57.mono ((Fr.refl k3).bF (by omega)))).mono ?_
    rintro _ k4 ⟨rfl,f4'⟩
    have K34:Fr k3 k4:=((Fr.refl k3).bF (by omega)).trans f4'
    have K4:=K3.trans K34
    have n3k:=K3.next
    have gM4k:k4.get (X+3)=some (.wmap .str (Sb L L.length)):=by
     rw[K4.get _ (by omega),Fb.get _ (by omega) (λe=>by have:X+3=D:=e;omega),J.old.get _ (by omega) (by omega),f5.get _ (by omega),hm];exact gM4
    have cB4:k4.cell (X+8) 1=some (.mp (X+3)):=by rw[K34.cell (by omega)];exact cB3
    have lk:=λz=>Ug E.nodup hj (hK j (by omega)) z
    have cDj:k4.cell D j=some (.bool (En G L i Q j)):=by rw[K4.cell (by omega)];exact gZ gD hj
    have hij:cR G L i j:=pD hG E (by omega) hcc ⟨s,hSG s hsS,ej.symm⟩
    have etk:S.take (t+1)=S.take t++ [s]:=by rw[dI [] (by omega),hs]
    have gq4:k4.get q=some (.cells false (ints (zi Q))):=by rw[K4.get _ nq];exact gq
    have gD4:k4.get D=some (.cells false (rc L.length λj=> .bool (En G L i Q j))):=by rw[K4.get _ (by omega)];exact gD
    have F4k:Fx (· =D) h7 k4:=⟨by have:=K4.next;omega,λq h1 h2=>by rw[K4.get q (by omega)];exact Fb.get q h1 h2⟩
    cases hsn2:En G L i Q j with
    |true=>
     rw[hsn2] at cDj
     have hjQ:j∈Q:=by
      rcases nV.1 hsn2 with ⟨i0,h1,h2'⟩|h1
      ·exact absurd (pD hG E (by omega) h2' (Du hG E (by omega) hij)) (hr i0 h1)
      ·exact h1
     simp(disch:=omega)only[go_sem,cB4,gM4k,lk,cDj];rw[fA t];refine⟨by simp [dW],sl-(t+1),by omega,Q,q,cp,t+1,aA rfl,hp',by omega,BQ0,hc,?_,hcp,gq4,hq,by have:=K4.next;omega,gD4,F4k,rfl⟩;rw[etk];intro s' hs';rcases Af.1 hs' with h1|h1
     ·exact hcl s' h1
     ·obtain rfl:s'=s:=by simpa using h1
      exact⟨j,hjQ,ej⟩
    |false=>
     rw[hsn2] at cDj;have hjQ:j∉Q:=λh1=>by rw[nV.2 (.inr h1)] at hsn2;cases hsn2
     obtain⟨k5,e5,m5,g5,o5⟩:=uA k4 D ((rc L.length λj=> .bool (En G L i Q j)).set j (.bool true));obtain⟨Y,hY⟩:=exI k5.next;obtain⟨k6,e6',m6,g6',o6',f6'⟩:=eQ hY [aC j];have pt:=bP (vs:=rc L.length λj=> .bool (En G L i Q j)) (off:=j) (by rw[iE];exact hj);have nk:=K4.next;have gq6:k6.get q=some (.cells false (ints (zi Q))):=by rw[o6' _ (by omega),o5 _ (by omega)];exact gq4
     have ow6:dB k6 (.sl q 0 Q.length cp) 1 (ints (zi Q)) 0:= .inr ⟨q,Q.length,cp, [],rfl,by rw[aQ,aP];simp,by rcases hcp with h1|h1;exact .inl h1;exact .inr ⟨h1,rfl⟩,iP _,by omega,by rw[List.append_nil];exact gq6⟩;obtain⟨k7,a7,p7⟩:=ow6.push (bytes:=8) (SV.one (v:= aC j) (id:=Y) (by omega) g6' (.kn 1)) (n:=Q.length) (m:=1) (by rw[aQ,aP];simp) rfl (by omega) (by omega) (by omega);simp(disch:=omega)only[go_sem,cB4,gM4k,lk,cDj,gD4,pt,e5,cT k5 (z:= aC 0) (v:= aC j) rfl rfl,hY,e6',a7];rw[fA t];have el:ints (zi (Q++ [j]))=ints (zi Q)++ [aC j]:=by simp [zi,ints]
     have m7:=p7.next;have apD:dV (.sl q 0 Q.length cp) D:=λid off n c e e2=>by cases e;omega
     have hc0:(rc L.length λj'=>V.bool (En G L i Q j')).set j (.bool true)=rc L.length λj'=> .bool (En G L i (Q++ [j]) j'):=by
      rw[jL]
      exact bN λj' _=>by
       rw[Tb]
       by_cases e:j'=j
       ·rw[if_pos e,if_pos e]
       ·rw[if_neg e,if_neg e]
     refine⟨by simp [dW],sl-(t+1),by omega,Q++ [j],k6.next,.un 1,t+1,by rw[oL];exact aA rfl,by rw[oL];omega,by omega,⟨?_,by rw[oL];simp,?_,?_,?_⟩,?_,?_,.inl rfl,by rw[el];exact p7.get,by omega,by omega,?_,?_,rfl⟩
     ·rw[List.nodup_append]
      exact⟨BQ0.nd,by simp,λx hx y hy e=>by
       obtain rfl:y=j:=by simpa using hy
       exact hjQ (e▸hx)⟩
     ·rw[List.getD,Gt BQ0.ne];exact BQ0.hd
     ·intro x hx
      rcases Af.1 hx with h1|h1
      ·exact BQ0.mem x h1
      ·obtain rfl:x=j:=by simpa using h1
       exact⟨hj,hij⟩
     ·intro k hk s' hs'
      obtain⟨y,hy,ey⟩:=BQ0.cl k hk s' hs';refine⟨y,Af.2 (.inl hy),?_⟩;rw[ey,List.getD,List.getD,List.getD,List.getD,Gt (by omega)]
     ·rw[List.getD,Gt hp'];exact hc
     ·rw[etk]
      intro s' hs';rcases Af.1 hs' with h1|h1
      ·obtain⟨y,hy,ey⟩:=hcl s' h1
       exact⟨y,Af.2 (.inl hy),ey⟩
      ·obtain rfl:s'=s:=by simpa using h1
       exact⟨j,Af.2 (.inr (by simp)),ej⟩
     ·rw[p7.old D (by omega) apD,o6' D (by omega),g5,hc0]
     ·refine⟨by omega,λx h1 h2=>?_⟩
      rw[p7.old x (by omega) (λid off n c e e2=>by cases e;omega),o6' x (by omega),o5 x h2];exact F4k.get x h1 h2
   clear BQ0 hcp gq hq nq gD Fa hc hpl d5 hp hp' hQl
   clear Q q cp
   rintro vars hb ⟨Q,q,cp,⟨g3,rfl⟩,hp',BQ1,hcp,gq,hq,nq,gD,Fb⟩
   have hQl:=BQ1.len
   simp(disch:=omega)only[go_sem]
   rw[fA p]
   exact⟨m-(p+1),by omega,Q,q,cp,p+1,aA rfl,by omega,BQ1,hcp,gq,hq,nq,gD,Fb,rfl⟩
  clear F79 B0 e8 n8 g8 o8 hZ e9 n9 g9 o9 f9 pt hc0
  rintro vars hb ⟨Q,q,cp,⟨g3,rfl⟩,BQ1,hcp,gq,hq,nq,gD,Fb⟩
  have hQl:=BQ1.len
  have nb:=Fb.next
  have srt:=Rn hb q (zi Q) cp (by rw[aP];omega) gq nq
  rw[aP] at srt
  simp(disch:=omega)only[go_sem]
  refine srt.mono ?_
  rintro _ ka ⟨l',gl,pl,al,Fa⟩
  obtain rfl:=BQ1.sort hG E (fZ _) (by omega) hSG hSgen pl al
  have hQo:Q.length=(fY G L i).length:=by have:=pl.length_eq;rw[aP,aP] at this;exact this.symm
  have na:=Fa.next
  have f2a:Fr h2 ka:=⟨by omega,λx hx=>by rw[Fa.get x (by omega) (λe=>by have:x=q:=e;omega),Fb.get x (by omega) (λe=>by have:x=D:=e;omega)];exact f27.get x hx⟩
  have X1:=jE hG E (show i<L.length by omega)
  simp(disch:=omega)only[go_sem]
  refine (HI vx n (L.getD i []) ka n0 n7 X1 (sx.mono f2a)).mono ?_
  rintro _ kb ⟨rfl,fb⟩
  have nkb:=fb.next
  obtain⟨vK,ks,WK,gB,owK,aK,bK,wD,wB,wN,wn,wX,_⟩:=J.ex
  have hks:=aZ.length aK
  have gBb:kb.get (X+8)=some (.cells false [vL,.mp (X+3),vK,.sl (X+6) 0 L.length (.kn L.length)]):=by
   rw[fb.get _ (by omega),Fa.get _ (by omega) (λe=>by have:X+8=q:=e;omega),Fb.get _ (by omega) (λe=>by have:X+8=D:=e;omega)];exact gB
  have cB2:kb.cell (X+8) 2=some vK:=by rw[H.aF gBb];rfl
  have owx:=sx.cJ.2.1
  have eKo:=owK.sv.dW
  obtain⟨Y,hY⟩:=exI kb.next
  obtain⟨kc,ec,mc,gc',oc,fc⟩:=eQ hY [vx,aC (lW (L.getD i []) n:Nat),aC (Q.length:Int),.sl q 0 Q.length cp]
  have old7: ∀x,x<Z->x≠D->kc.get x=h7.get x:=λx h1 h2=>by
   rw[oc x (by omega),fb.get x (by omega),Fa.get x (by omega) (λe=>by have:x=q:=e;omega),Fb.get x (by omega) h2]
  have owKc:dB kc vK 4 (Cls.nP ks) (D+1):=owK.mono (by omega) λid off n' c e h1 h2=>old7 id (by omega) (by omega)
  have lr:=sF (G:=G) (L:=L) i
  obtain⟨kd,ad,pd⟩:=owKc.push (bytes:=64) (y:= .sl Y 0 1 (.kn 1)) (us:= [vx,aC (lW (L.getD i []) n:Nat),aC (Q.length:Int),.sl q 0 Q.length cp]) (SV.all rfl (by omega) gc' _) (n:=ks.length) (m:=1) (Np ks) rfl (by omega) (by omega) (by omega)
  have md:=pd.next
  have apB:dV vK (X+8):=λid off n' c e e2=>by have:=(owK.in _ _ _ _ e).2.1;omega
  have gBd:kd.get (X+8)=some (.cells false [vL,.mp (X+3),vK,.sl (X+6) 0 L.length (.kn L.length)]):=by
   rw[pd.old _ (by omega) apB,oc _ (by omega)];exact gBb
  obtain⟨ke,ee,me,ge,oe⟩:=uA kd (X+8) [vL,.mp (X+3),.sl kc.next 0 (ks.length+1) (.un 4),.sl (X+6) 0 L.length (.kn L.length)]
  simp(disch:=omega)only[go_sem,cB2,Am sx.cJ.1 owx,GM owx (w:= .sl q 0 Q.length cp) rfl rfl,CY owx (w:= .sl q 0 Q.length cp) rfl,hY,ec,ad,gBd,DW,ee]
  rw[fA i]
  have dPV: ∀x,x<Z-> ¬WK x->ke.get x=h7.get x:=λx h1 h2=>by
   rw[oe x (λe=>h2 (e▸wB)),pd.old x (by omega) (λid off n' c e e2=>h2 (e2▸bK _ _ _ _ e)),old7 x h1 (λe=>h2 (e▸wD))]
  have FK:Fx WK h7 ke:=⟨by omega,λx h1 h2=>dPV x (by omega) h2⟩
  have f2e:Fr h2 ke:=⟨by omega,λx hx=>by rw[dPV x (by omega) (λh1=>by have:=wX x h1;omega)];exact f27.get x hx⟩
  have e1k:Cls.nP (ks++ [⟨vx,lW (L.getD i []) n,Q.length,.sl q 0 Q.length cp,i,⟨sx.cJ.1,owx,sx.dW⟩,⟨rfl,rfl,by simp [dW]⟩⟩])=Cls.nP ks++ [vx,aC (lW (L.getD i []) n:Nat),aC (Q.length:Int),.sl q 0 Q.length cp]:=by
   simp [Cls.nP,Cls.KE.enc]
  refine⟨m-(i+1),by omega,i+1,aA rfl,by omega,⟨⟨_,ks++ [⟨vx,lW (L.getD i []) n,Q.length,.sl q 0 Q.length cp,i,⟨sx.cJ.1,owx,sx.dW⟩,⟨rfl,rfl,by simp [dW]⟩⟩],λx=>WK x∨x=kc.next,ge,?_,?_,λid off n' c e=>by cases e;exact .inr rfl,   .inl wD,.inl wB,.inl wN,λx h=>by rcases h with h|h;have:=wn x h;omega;omega,λx h=>by rcases h with h|h;exact wX x h;omega,.inr ⟨_,_,by rw[oL];rfl,?_⟩⟩,?_,?_,by omega⟩,rfl⟩
  ·rw[e1k]
   exact (pd.own (b:=D+1) (Np ks) rfl (by omega)).mono (by omega) λid off n' c e h1 h2=>by cases e;exact oe _ (by omega)
  ·rw[(oF i).1 hr]
   refine aZ.append (aK.mono λa r k=>k.go FK (by omega) wX λx h1 h2=>by rcases h2 with h2|h2;exact h2;omega) ⟨⟨rfl,rfl,hQo,⟨sx.mono f2e,?_⟩,⟨?_,?_⟩⟩,trivial⟩
   ·rw[←hX];exact WX sx
   ·rw[hQo]
    refine SV.all (ro:=false) (by rw[aQ,aP,Nat.mul_one]) (by omega) ?_ _
    rw[oe q (by omega),pd.old q (by omega) (λid off n' c e e2=>by have:=wn _ (bK _ _ _ _ e);omega),oc q (by omega),fb.get q (by omega)]
    exact gl
   ·exact λh=>by rcases h with h|h;have:=wn _ h;omega;omega
  ·rw[e1k,oe _ (by omega)];exact pd.get
  ·rw[oe D (by omega),pd.old D (by omega) (λid off n' c e e2=>by have:=(owK.in _ _ _ _ e).2.1;omega),oc D (by omega),fb.get D (by omega),Fa.get D (by omega) (λe=>by have:D=q:=e;omega),gD,bN λj hj=>by rw[JD hG E (show i<L.length by omega) BQ1 hSG hSgen hj]]
  ·refine⟨by have:=J.old.next;omega,λx h1 h2=>?_⟩
   have hx8:x≠X+8:=λe=>h2 (.inl e)
   have hxD:x<D:=by omega
   rw[oe x hx8,pd.old x (by omega) (λid off n' c e e2=>by have:=(owK.in _ _ _ _ e).2.1;omega),old7 x (by omega) (by omega)]
   exact J.old.get x h1 h2
 rintro vars h7 ⟨⟨g,rfl⟩,J⟩
 exact hk L X D vL h2 h5 h7 A g hL ⟨E,by omega,f1.trans f2,hX,nw.sp,f25,by omega,hD,by rw[f5.get _ (by omega),hm];exact gM4,by rw[f5.get _ (by omega),hm];exact gN4,by rw[hm];exact J⟩
variable {h:H} {j:Nat}
open Classical in
noncomputable def mH (G:List Nat->Prop)(L:LN)(K:List Nat)(j:Nat):Nat:=K.findIdx λr=>decide (cR G L r j)
structure KR (n:Nat)(G:List Nat->Prop)(L:LN)(hh:H)(a:Cls.KE)(r:Nat):Prop where
 fst:a.fst=r
 ord:a.ord=lW (L.getD r []) n
 size:a.size=(fY G L r).length
 rep:SI hh a.rep (zi (L.getD r []))
 ranks:SI hh a.ranks (zi (fY G L r))
theorem KR.mono {n:Nat}{G:List Nat->Prop}{L:LN}{h':H}{a:Cls.KE}{r:Nat}(k:KR n G L h a r)(f:Fr h h'):KR n G L h' a r:=⟨k.fst,k.ord,k.size,k.rep.mono f,k.ranks.mono f⟩
def Re (n:Nat)(G:List Nat->Prop)(L:LN)(r s:Nat):Prop:=lW (L.getD r []) n<lW (L.getD s []) n∨lW (L.getD r []) n=lW (L.getD s []) n/\((fY G L r).length<(fY G L s).length∨(fY G L r).length=(fY G L s).length/\r<s)
structure Fj (n:Nat)(G:List Nat->Prop)(L:LN)(K:List Nat):Prop where
 perm:K.Perm (bY G L L.length)
 asc:K.Pairwise (Re n G L)
structure NL (n:Nat)(G:List Nat->Prop)(L:LN)(K:List Nat)(hh:H)(v:V):Prop where
 ex: ∃B M N S cp vL ks,v= .ptr B 0/\B<hh.next/\M<hh.next/\N<hh.next/\S<hh.next/\hh.get B=some (.cells false [vL,.mp M,.sl S 0 K.length cp,.sl N 0 L.length (.kn L.length)])/\
  hh.get M=some (.wmap .str (Sb L L.length))/\hh.get N=some (.cells false (rc L.length λj=> aC (mH G L K j:Nat)))/\hh.get S=some (.cells false (Cls.nP ks))/\aZ (KR n G L hh) ks K/\SP hh vL L
theorem NL.mono {n:Nat}{G:List Nat->Prop}{L:LN}{K:List Nat}{h':H}{v:V}(g:NL n G L K h v)(f:Fr h h'):NL n G L K h' v:=by
 obtain⟨B,M,N,S,cp,vL,ks,e,hB,hM,hN,hS,gB,gM,gN,gS,a,sp⟩:=g.ex;have n1:=f.next;exact⟨B,M,N,S,cp,vL,ks,e,by omega,by omega,by omega,by omega,by rw[f.get _ hB];exact gB,by rw[f.get _ hM];exact gM,by rw[f.get _ hN];exact gN,by rw[f.get _ hS];exact gS,a.mono λ_ _ k=>k.mono f,sp.mono f⟩
section
variable {n:Nat} {G:List Nat->Prop} {L:LN} {K:List Nat} (hG:sC n G) (E:jA G L)
include hG E
omit hG E in
theorem Jv (h0:0<L.length):0∈bY G L L.length:=kY.2 ⟨h0,λj hj=>by omega⟩
theorem Ar (pK:K.Perm (bY G L L.length)){k:Nat}(hk:k<K.length)(hj:j∈fY G L (K.getD k 0)):mH G L K j=k:=by
 classical
 obtain⟨hjl,hc⟩:=fW.1 hj;have hnd:K.Nodup:=pK.nodup_iff.2 (by unfold bY;exact List.Pairwise.filter _ List.nodup_range);have hK: ∀r∈K,r<L.length/\Ly G L r:=λr hr=>kY.1 (pK.mem_iff.1 hr)
 unfold mH;rw[List.findIdx_eq hk];have ek:K.getD k 0=K[k]:=Pm.bG hk;rw[ek] at hc;refine⟨by simpa using hc,λi hi=>?_⟩;simp only[decide_eq_false_iff_not];intro hc2;have h1:=hK K[i] (List.getElem_mem _);have h2:=hK K[k] (List.getElem_mem _);have:=KI hG E h1.1 h2.1 h1.2 h2.2 hc2 hc;have hne:=List.pairwise_iff_getElem.1 hnd i k (by omega) hk hi;exact hne this
theorem Gu (pK:K.Perm (bY G L L.length))(hj:j<L.length): ∃k,k<K.length/\j∈fY G L (K.getD k 0):=by
 obtain⟨r,h1,h2,h3⟩:=WM hG E hj;have hr:r∈K:=pK.mem_iff.2 (kY.2 ⟨by omega,h2⟩);obtain⟨k,hk,ek⟩:=Dt.1 hr;exact⟨k,hk,fW.2 ⟨hj,by rw[Pm.bG hk,ek];exact h3⟩⟩
end
open Classical in
noncomputable def Mb (G:List Nat->Prop)(L:LN)(K:List Nat)(k t j:Nat):Nat:=if (∃k0,k0<k/\j∈fY G L (K.getD k0 0))∨j∈(fY G L (K.getD k 0)).take t then mH G L K j else 0
theorem JV (G:List Nat->Prop)(L:LN)(K:List Nat)(j:Nat):Mb G L K 0 0 j=0:=by
 classical
 unfold Mb;rw[if_neg];rintro (⟨k0,h,_⟩|h)
 ·omega
 ·simp at h
theorem OQ (G:List Nat->Prop)(L:LN)(K:List Nat)(k j:Nat):Mb G L K k (fY G L (K.getD k 0)).length j=Mb G L K (k+1) 0 j:=by
 classical
 unfold Mb;rw[List.take_length,List.take_zero]
 have e:((∃k0,k0<k/\j∈fY G L (K.getD k0 0))∨j∈fY G L (K.getD k 0))↔((∃k0,k0<k+1/\j∈fY G L (K.getD k0 0))∨j∈([]:List Nat)):=by
  constructor
  ·rintro (⟨k0,h1,h2⟩|h)
   ·exact .inl ⟨k0,by omega,h2⟩
   ·exact .inl ⟨k,by omega,h⟩
  ·rintro (⟨k0,h1,h2⟩|h)
   ·by_cases e:k0=k
    ·subst e;exact .inr h2
    ·exact .inl ⟨k0,by omega,h2⟩
   ·cases h
 by_cases h:((∃k0,k0<k/\j∈fY G L (K.getD k0 0))∨j∈fY G L (K.getD k 0))
 ·rw[if_pos h,if_pos (e.1 h)]
 ·rw[if_neg h,if_neg (λx=>h (e.2 x))]
theorem PB {n:Nat}{G:List Nat->Prop}{L:LN}{K:List Nat}(hG:sC n G)(E:jA G L)(pK:K.Perm (bY G L L.length)){k:Nat}(hk:k<K.length){t:Nat}(ht:t<(fY G L (K.getD k 0)).length)(j:Nat):
  Mb G L K k (t+1) j=if j=(fY G L (K.getD k 0)).getD t 0 then k else Mb G L K k t j:=by
 classical
 by_cases e:j=(fY G L (K.getD k 0)).getD t 0
 ·rw[if_pos e]
  have hj:j∈fY G L (K.getD k 0):=by rw[e];exact bD ht
  unfold Mb
  rw[if_pos (.inr (by rw[dI 0 ht,e];simp))]
  exact Ar hG E pK hk hj
 ·rw[if_neg e]
  unfold Mb
  rw[dI 0 ht]
  simp only[Af,List.mem_singleton,e,or_false]
theorem NY {n:Nat}{G:List Nat->Prop}{L:LN}{K:List Nat}(hG:sC n G)(E:jA G L)(pK:K.Perm (bY G L L.length))(hj:j<L.length):Mb G L K K.length 0 j=mH G L K j:=by
 classical
 obtain⟨k,h1,h2⟩:=Gu hG E pK hj;unfold Mb;rw[if_pos (.inl ⟨k,h1,h2⟩)]
theorem pU {h:H}{S:Nat}{ro:Bool}: ∀{ks:List Cls.KE} {pre:List V},h.get S=some (.cells ro (pre++Cls.nP ks))-> ∀{i:Nat} (hi:i<ks.length),h.row S (pre.length+i*4) 4=some ks[i].enc
 | [],_,_,_,hi=>by simp at hi
 |a::r,pre,g,0,_=>by
  unfold H.row;rw[g];show sub (pre++(a.enc++Cls.nP r)) (pre.length+0*4) 4=some a.enc;simp only[sub,Nat.zero_mul,Nat.add_zero];have:a.enc.length=4:=rfl;rw[if_pos (by rw[oL,oL];omega),List.drop_left,List.take_append,List.take_of_length_le (by omega),this];simp
 |a::r,pre,g,i+1,hi=>by
  have g':h.get S=some (.cells ro ((pre++a.enc)++Cls.nP r)):=by rw[g,List.append_assoc];rfl
  have:=pU g' (i:=i) (by simpa using hi);rw[oL,show a.enc.length=4 from rfl] at this;rw[show pre.length+(i+1)*4=pre.length+4+i*4 by omega];simpa using this
theorem Qs (h:H)(id off:Nat)(a:Cls.KE):Pj h 4 (.ptr id off) (.agg a.enc)=eG (h.get id) h id off a.enc:=Ib h id off 4 _ rfl (by simp [Cls.KE.enc,a.hrep.2.1,a.hranks.2.1,show (aC (a.ord:Int)).one=true from rfl,show (aC (a.size:Int)).one=true from rfl])
theorem Rb (hh:H)(id:Nat)(a:Cls.KE)(x y z w:V):eG (some (.cells false [x,y,z,w])) hh id 0 a.enc=some (hh.set id (some (.cells false a.enc))):=by
 simp [eG,putAt,Cls.KE.enc]
theorem aZ.ex {α β:Type}{R:α->β->Prop}{as:List α}{bs:List β}(h:aZ R as bs){a:α}(ha:a∈as): ∃b∈bs,R a b:=by
 obtain⟨i,hi,rfl⟩:=Dt.1 ha;have hl:=aZ.length h;exact⟨bs[i]'(by omega),List.getElem_mem _,aZ.get h i hi (by omega)⟩
theorem SI.lit {v:V}{l:List Int}(s:SI h v l)(hl:0<l.length): ∃id off m cap,v= .sl id off (m+1) cap/\m+1=l.length/\id<h.next/\ ∀i,i<l.length->h.cell id (off+i)=some (aC (l.getD i 0)):=by
 obtain⟨id,off,sh,hid,hc⟩:=s.open;rcases s with ⟨_,h0⟩|⟨id',off',len,cap,ro,vs,e,h2,h3,_⟩
 ·have:l.length=0:=by rw[←aQ,h0];rfl
  omega
 ·rw[aQ,Nat.mul_one] at h2
  have hx:=sh.ixa .i64 0 (by omega) (by omega);subst e;rw[Hw (by omega) (by omega)] at hx;simp only[Option.some.injEq,V.ptr.injEq] at hx;obtain⟨rfl,h5⟩:=hx;have h6:off'=off:=by omega
  subst h6;exact⟨id',off',l.length- 1,cap,by rw[show l.length- 1+1=len by omega],by omega,h3,hc⟩
theorem Sf {W0:Nat->Prop}(vc:V)(n:Nat)(O:LN)(R:kW)(G:List Nat->Prop)(h:H)(gc:GC W0 h vc n O R G):
  Ev T 45 [vc] h (λv h'=> ∃p K,v= .tup [p,aC 0]/\NL n G (cG O R n 0 (cH n)) K h' p/\Fj n G (cG O R n 0 (cH n)) K/\Fr h h'):=by
 refine TX vc n O R G h gc _ λL X D vL h2 h5 h7 A g hL e=>?_
 rw[hL]
 have hG:=gc.kP
 have E:=e.el
 obtain⟨vK,ks,WK,gB,owK,aK,bK,wD,wB,wN,wn,wX,xK⟩:=e.j.ex
 have hks:=aZ.length aK
 obtain⟨m,hm⟩:=exI L.length
 have h0:0<L.length:=List.length_pos_of_mem ((E.mem _).2 hG.one)
 have hk0:0<ks.length:=by rw[hks];exact List.length_pos_of_mem (Jv h0)
 obtain⟨S,cp,rfl,gS⟩: ∃id cap,vK= .sl id 0 ks.length cap/\h7.get id=some (.cells false (Cls.nP ks)):=by
  rcases xK with h1|h1
  ·subst h1;simp at hk0
  ·exact h1
 have wS:=bK _ _ _ _ rfl
 have nS:=wn _ wS
 have cB2:h7.cell (X+8) 2=some (.sl S 0 ks.length cp):=by rw[H.aF gB];rfl
 show Wp T none (Qk 2 iK.body) _ h7 _
 simp(disch:=omega)only[go_sem,Qk,IU,iK,cB2]
 have hR: ∀r∈bY G L L.length,r<L.length/\Ly G L r:=λr hr=>kY.1 hr
 have hPp: ∀a∈ks,a.Pp h7 h7.next S:=λa ha=>by
  obtain⟨r,hr,k⟩:=aZ.ex aK ha;obtain⟨hrl,hri⟩:=hR r hr;obtain⟨l1,l2⟩:=Ge hG E hrl hri;obtain⟨id,off,m',cap,e1,e2,e3,e4⟩:=SI.lit k.ranks.si (by rw[aP];exact l1);have ho:=k.ranks.off;rw[e1] at ho;refine⟨id,off,m',cap,e1,e3,λh1=>ho (h1▸wS),?_⟩;have:=e4 0 (by rw[aP];exact l1);rw[Nat.add_zero] at this;rw[this,zi,fI _ (d:=0) l1,l2,k.fst]
 refine (Cls.PT h7 S h7.next ks cp (by rw[hks];have:=sF (G:=G) (L:=L) L.length;have:=e.le;omega) gS nS (fZ _) hPp).mono ?_
 rintro _ h8 ⟨ks',gS8,pm,srt,F8⟩
 obtain⟨K,hK⟩:=exI (ks'.map (λa:Cls.KE=>a.fst))
 have hlK:K.length=ks.length:=by rw[←hK,jD];exact pm.length_eq
 have hkr:ks.map (λa:Cls.KE=>a.fst)=bY G L L.length:=by
  refine List.ext_getElem (by rw[jD];exact hks) λi h1 h2=>?_
  rw[List.getElem_map];exact (aZ.get aK i (by simpa using h1) h2).fst
 have pK:K.Perm (bY G L L.length):=by rw[←hK,←hkr];exact pm.map _
 have kK: ∀a∈ks',KO n G L X WK h7 a a.fst:=λa ha=>by
  obtain⟨r,hr,k⟩:=aZ.ex aK (pm.mem_iff.1 ha);rw[k.fst];exact k
 have FK:Fx WK h7 h8:=⟨F8.next,λq h1 h2=>F8.get q h1 λh3=>h2 (by have:q=S:=h3;rw[this];exact wS)⟩
 have kK8: ∀a∈ks',KO n G L X WK h8 a a.fst:=λa ha=>(kK a ha).go FK (by have:=wX S wS;omega) wX λ_ _ h1=>h1
 have hSD:=(owK.in _ _ _ _ rfl).2.1
 have xD:=e.xD
 have n8:=F8.next
 have gB8:h8.get (X+8)=some (.cells false [vL,.mp (X+3),.sl S 0 ks.length cp,.sl (X+6) 0 L.length (.kn L.length)]):=by
  rw[F8.get _ (wn _ wB) (λh1=>by have:X+8=S:=h1;omega)];exact gB
 have cB8:h8.cell (X+8) 2=some (.sl S 0 ks.length cp):=by rw[H.aF gB8];rfl
 have gN7:h7.get (X+6)=some (.cells false (rc L.length λ_=> aC 0)):=by
  rw[e.j.old.get _ (by rw[e.n5];omega) (by omega)];exact e.gN
 have gN8:h8.get (X+6)=some (.cells false (rc L.length λj=> aC (Mb G L K 0 0 j:Nat))):=by
  rw[F8.get _ (wn _ wN) (λh1=>by have:X+6=S:=h1;omega),gN7,show (λj=>aC (Mb G L K 0 0 j:Nat))=λ_=>aC 0 from funext λj=>by rw[JV];rfl]
 have hKk: ∀k,k<K.length-> ∃a,ks'[k]? =some a/\KO n G L X WK h8 a (K.getD k 0):=λk hk=>by
  have hk':k<ks'.length:=by rw[pm.length_eq,←hlK];exact hk
  refine⟨ks'[k],fS hk',?_⟩;have:=kK8 _ (List.getElem_mem hk');have e2:K.getD k 0=(ks'[k]).fst:=by rw[Pm.bG hk];subst hK;rw[List.getElem_map]
  rw[e2];exact this
 have le:=e.le
 have hKle:K.length<=L.length:=by rw[hlK,hks];exact sF _
 have nN:=wn _ wN
 rw[←hlK] at cB8 gB8
 simp(disch:=omega)only[go_sem,cB8]
 refine bJ (λvs hh=>(∃g:Nat->V,vs= [g 0,g 1,.nilp,aC 0,g 4,g 5,.ptr (X+8) 0,g 7,g 8,g 9,g 10,g 11,g 12,g 13,g 14,g 15,g 16,g 17,g 18,g 19,g 20,g 21,g 22,g 23,g 24,g 25,g 26,g 27,g 28,g 29,g 30,g 31,g 32,g 33,g 34,g 35,g 36,g 37,g 38,g 39,g 40,g 41,g 42,g 43,g 44,g 45])/\hh.get (X+6)=some (.cells false (rc L.length λj=> aC (Mb G L K K.length 0 j:Nat)))/\Fx (· =X+6) h8 hh) ?_ ?_
 ·refine aH (λk' vs hh=> ∃(k:Nat),(∃g:Nat->V,vs= [g 0,g 1,.nilp,aC 0,g 4,g 5,.ptr (X+8) 0,g 7,g 8,g 9,g 10,g 11,g 12,g 13,g 14,g 15,g 16,g 17,g 18,g 19,g 20,g 21,g 22,g 23,g 24,g 25,g 26,g 27,g 28,g 29,g 30,g 31,g 32,g 33,g 34,g 35,g 36,g 37,.sl S 0 K.length cp,aC (K.length:Int),aC k,g 41,g 42,g 43,g 44,g 45])/\k<=K.length/\hh.get (X+6)=some (.cells false (rc L.length λj=> aC (Mb G L K k 0 j:Nat)))/\Fx (· =X+6) h8 hh/\k'=K.length-k) K.length
   ⟨0,aA rfl,iP _,gN8,Fx.refl _ _,rfl⟩ ?_
  rintro k' vars h9 ⟨k,⟨g,rfl⟩,hk,gN9,F9,rfl⟩
  have n9:=F9.next
  by_cases hlt:(k:Int)<(K.length:Int)
  case neg=>
   have d4:=eS hlt;obtain rfl:k=K.length:=by omega
   simp(disch:=omega)only[go_sem,d4];exact⟨aA rfl,gN9,F9⟩
  have d4:=iB hlt
  have hk':k<K.length:=by omega
  obtain⟨a,ea,ko⟩:=hKk k hk'
  have hkl:k<ks'.length:=by rw[pm.length_eq,←hlK];exact hk'
  have ea':ks'[k]=a:=by rw[fS hkl] at ea;simpa using ea
  have gS9:h9.get S=some (.cells false (Cls.nP ks')):=by rw[F9.get _ (by omega) (λh1=>by have:S=X+6:=h1;omega)];exact gS8
  have rw9:h9.row S (k*4) 4=some a.enc:=by
   have:=pU (pre:= []) (by simpa using gS9) hkl;rw[ea'] at this;simpa using this
  obtain⟨Y,hY⟩:=exI h9.next
  obtain⟨ha,eha,na,ga,oa,fa⟩:=eQ hY [.aB,aC 0,aC 0,.aB]
  obtain⟨hb,ehb,nb,gb,ob⟩:=uA ha Y a.enc
  have cb3:hb.cell Y 3=some a.ranks:=by rw[H.aF gb];rfl
  have lr:=ko.ranks.si.lens
  rw[aP] at lr
  obtain⟨r,hr⟩:=exI (K.getD k 0)
  rw[hr] at ko lr
  simp(disch:=omega)only[go_sem,d4,rw9,hY,eha,Qs,ga,Rb,ehb,cb3,lr]
  have hrK:r∈bY G L L.length:=by rw[←hr];exact pK.mem_iff.1 (bD hk')
  obtain⟨hrl,hri⟩:=hR r hrK
  obtain⟨l1,l2⟩:=Ge hG E hrl hri
  obtain⟨idR,offR,mR,capR,e1,e2,e3,e4⟩:=SI.lit ko.ranks.si (by rw[aP];exact l1)
  have ho:=ko.ranks.off
  rw[e1] at ho
  have hRN:idR≠X+6:=λh1=>ho (h1▸wN)
  obtain⟨c,hc⟩:=exI ((fY G L r).length)
  rw[aP,hc] at e2 e4
  have hcl:c<=L.length:=by
   rw[←hc];have:=List.Nodup.length_le_of_subset (qC (G:=G) (L:=L) r) (l₂:=List.range L.length) λj hj=>Mr.2 (fW.1 hj).1
   rwa [List.length_range] at this
  rw[hc,e1]
  have Fb:Fx (· =X+6) h8 hb:=⟨by omega,λq h1 h2=>by rw[ob q (by omega),oa q (by omega)];exact F9.get q h1 h2⟩
  have gNb:hb.get (X+6)=some (.cells false (rc L.length λj=> aC (Mb G L K k 0 j:Nat))):=by rw[ob _ (by omega),oa _ (by omega)];exact gN9
  have gBb: ∀hh,Fx (· =X+6) h8 hh->hh.cell (X+8) 3=some (.sl (X+6) 0 L.length (.kn L.length)):=λhh f=>by
   have:hh.get (X+8)=h8.get (X+8):=f.get _ (by have:=wn _ wB;omega) (by omega);rw[H.aF (this.trans gB8)];rfl
  refine yR (λvs hh=>(∃g:Nat->V,vs= [g 0,g 1,.nilp,aC 0,g 4,g 5,.ptr (X+8) 0,g 7,g 8,g 9,g 10,g 11,g 12,g 13,g 14,g 15,g 16,g 17,g 18,g 19,g 20,g 21,g 22,g 23,g 24,g 25,g 26,g 27,g 28,g 29,g 30,g 31,g 32,g 33,g 34,g 35,g 36,g 37,.sl S 0 K.length cp,aC (K.length:Int),aC k,g 41,g 42,g 43,g 44,g 45])/\hh.get (X+6)=some (.cells false (rc L.length λj=> aC (Mb G L K (k+1) 0 j:Nat)))/\Fx (· =X+6) h8 hh) ?_ ?_
  ·refine aH (λk' vs hh=> ∃(t:Nat),(∃g:Nat->V,vs= [g 0,g 1,.nilp,aC 0,g 4,g 5,.ptr (X+8) 0,g 7,g 8,g 9,g 10,g 11,g 12,g 13,g 14,g 15,g 16,g 17,g 18,aC k,g 20,g 21,g 22,g 23,g 24,g 25,g 26,g 27,g 28,g 29,g 30,g 31,g 32,g 33,g 34,g 35,g 36,g 37,.sl S 0 K.length cp,aC (K.length:Int),aC k,g 41,.sl idR offR (mR+1) capR,aC c,aC t,g 45])/\t<=c/\hh.get (X+6)=some (.cells false (rc L.length λj=> aC (Mb G L K k t j:Nat)))/\Fx (· =X+6) h8 hh/\k'=c-t) c
    ⟨0,aA rfl,iP _,gNb,Fb,rfl⟩ ?_
   clear gNb Fb gb ob cb3 nb ehb ga oa fa na eha rw9 gN9 F9 n9
   rintro k' vars hc' ⟨t,⟨g2,rfl⟩,ht,gNc,Fc,rfl⟩
   by_cases htl:(t:Int)<(c:Int)
   case neg=>
    have d5:decide ((t:Int)<(c:Int))=false:=decide_eq_false htl;obtain rfl:t=c:=by omega
    simp(disch:=omega)only[go_sem,d5];refine⟨aA rfl,?_,Fc⟩;rw[gNc,show (λj=>aC (Mb G L K k t j:Nat))=λj=>aC (Mb G L K (k+1) 0 j:Nat) from funext λj=>by rw[←OQ,hr,hc]]
   have d5:decide ((t:Int)<(c:Int))=true:=decide_eq_true htl
   have ht':t<c:=by omega
   obtain⟨x,hx⟩:=exI ((fY G L r).getD t 0)
   have hxl:x<L.length:=by rw[←hx];exact (fW.1 (bD (by omega))).1
   have cR':hc'.cell idR (offR+t)=some (aC x):=by
    have e5:=e4 t ht';unfold H.cell at e5 ⊢;rw[Fc.get idR e3 hRN,e5,zi,fI _ (d:=0) (by omega),hx]
   have pt:=bP (vs:=rc L.length λj=> aC (Mb G L K k t j:Nat)) (off:=x) (by rw[iE];exact hxl)
   have tl:(t:Int).toNat=t:=rfl
   simp(disch:=omega)only[go_sem,d5,cR',gBb hc' Fc,gNc,pt]
   rw[fA t]
   refine⟨c-(t+1),by omega,t+1,aA rfl,by omega,?_,⟨Fc.next,λq h1 h2=>by rw[H.aG _ h2];exact Fc.get q h1 h2⟩,rfl⟩
   rw[jL,bN λj hj=>?_]
   rw[PB hG E pK hk' (by rw[hr];omega),hr,hx]
   by_cases ej:j=x
   ·rw[if_pos ej,if_pos ej]
   ·rw[if_neg ej,if_neg ej]
  rintro vars hd ⟨⟨g2,rfl⟩,gNd,Fd⟩
  simp(disch:=omega)only[go_sem]
  rw[fA k]
  exact⟨K.length-(k+1),by omega,k+1,aA rfl,by omega,gNd,Fd,rfl⟩
 rintro vars h9 ⟨⟨g,rfl⟩,gN9,F9⟩
 have n9:=F9.next
 simp(disch:=omega)only[go_sem]
 have n2:=e.x2
 have o9: ∀q,q<D->q≠X+8->q≠X+6->h9.get q=h5.get q:=λq h1 h2 h3=>by
  rw[F9.get q (by have:=e.j.nx;omega) h3,F8.get q (by have:=e.j.nx;omega) (λh4=>by have:q=S:=h4;omega),e.j.old.get q (by rw[e.n5];exact h1) (λh4=>by rcases h4 with h4|h4;exact h2 h4;omega)]
 have nx:=e.j.nx
 have f29:Fr h2 h9:=⟨by omega,λq hq=>by rw[o9 q (by omega) (by omega) (by omega)];exact e.f25.get q hq⟩
 have F89:Fx WK h8 h9:=⟨F9.next,λq h1 h2=>F9.get q h1 λh3=>h2 (by have:q=X+6:=h3;rw[this];exact wN)⟩
 have hnd:K.Nodup:=pK.nodup_iff.2 (by classical exact (by unfold bY;exact List.Pairwise.filter _ List.nodup_range))
 have hlk:ks'.length=K.length:=by rw[←hK,jD]
 refine⟨.ptr (X+8) 0,K,rfl,⟨X+8,X+3,X+6,S,cp,vL,ks',rfl,by omega,by omega,by omega,by omega,?_,?_,?_,?_,?_,e.sp.mono f29⟩,⟨pK,?_⟩,e.f2.trans f29⟩
 ·rw[F9.get _ (by omega) (by omega)];exact gB8
 ·rw[o9 _ (by omega) (by omega) (by omega)];exact e.gM
 ·rw[gN9,bN λj hj=>by rw[NY hG E pK hj]]
 ·rw[F9.get _ (by omega) (by omega)];exact gS8
 ·refine aZ.lJ hlk λi h1 h2=>?_
  obtain⟨a,ea,ko⟩:=hKk i h2
  have ea':ks'[i]=a:=by rw[fS h1] at ea;simpa using ea
  have k9:=ko.go F89 (by omega) wX λ_ _ h1=>h1
  rw[Pm.bG h2] at k9
  rw[ea']
  exact⟨k9.fst,k9.ord,k9.size,k9.rep.si,k9.ranks.si⟩
 ·have h1:ks'.Pairwise λa b=>a.fst≠b.fst:=by
   have:=hnd;rw[←hK] at this;exact List.pairwise_map.1 this
  rw[←hK,List.pairwise_map];refine List.Pairwise.imp_of_mem ?_ (List.Pairwise.and srt h1);rintro a b ha hb ⟨h2,h3⟩;have ka:=kK a ha;have kb:=kK b hb;have h4: ¬(b.lt a=true):=by rw[h2];simp
  rw[Cls.KE.lt_iff] at h4;unfold Re;rw[←ka.ord,←kb.ord,←ka.size,←kb.size];omega
theorem On {n:Nat}{G:List Nat->Prop}{L:LN}{r s:Nat}(a:Re n G L r s)(b:Re n G L s r):False:=by
 unfold Re at a b;omega
theorem Fj.uniq {n:Nat}{G:List Nat->Prop}{L:LN}{K K':List Nat}(a:Fj n G L K)(b:Fj n G L K'):K=K':=
 (a.perm.trans b.perm.symm).eq_of_pairwise (λ_ _ _ _ h1 h2=>(On h1 h2).elim) a.asc b.asc
noncomputable def sN (G:List Nat->Prop)(L:LN)(K:List Nat):List Nat:=(List.range L.length).map (mH G L K)
def eV (ks:List Cls.KE):List V:=ks.flatMap λa=> [a.rep,aC (a.ord:Int),aC (a.size:Int)]
theorem iA (ks:List Cls.KE):(eV ks).length=ks.length*3:=by
 induction ks with
 |nil=>rfl
 |cons a r ih=>
  show ([a.rep,aC (a.ord:Int),aC (a.size:Int)]++eV r).length=_;rw[oL,ih];show 3+r.length*3=(r.length+1)*3;omega
theorem QH {h:H}{Y:Nat}{ro:Bool}{a:Cls.KE}(g:h.get Y=some (.cells ro a.enc)):h.row Y 0 3=some [a.rep,aC (a.ord:Int),aC (a.size:Int)]:=by
 simp [H.row,g,sub,Cls.KE.enc]
theorem Oh {v:V}(ho:v.one=true)(x y:Int)(h:H):vH h 3 [.aB,aC 0,aC 0] 1 [(0,3,.agg [v,aC x,aC y])]=some (.sl h.next 0 1 (.kn 1),h.new (.cells false [v,aC x,aC y])):=by
 have e:dQ [V.aB,aC 0,aC 0] 3= [V.aB,aC 0,aC 0]:=rfl;simp [vH,jZ,putAt,e,ho,show ∀l,(V.agg l).cells=l from λ_=>rfl,show ∀z,(aC z).one=true from λ_=>rfl]
theorem JU {W0:Nat->Prop}(vc:V)(n:Nat)(O:LN)(R:kW)(G:List Nat->Prop)(h:H)(gc:GC W0 h vc n O R G)(L:LN)(hL:cG O R n 0 (cH n)=L):
  Ev T 20 [vc] h (λv h'=> ∃vl K ks,v= .tup [vl,aC 0]/\Fj n G L K/\SV h' vl 3 (eV ks)/\aZ (KR n G L h') ks K/\Fr h h'):=by
 obtain⟨vO,vR,e,sO,sR⟩:=gc.ch
 subst e
 refine bH tI rfl rfl ?_
 have oneO:vO.one=true:=Hc sO
 have oneR:vR.one=true:=Eo sR
 obtain⟨A,hA⟩:=exI h.next
 obtain⟨h1,e1,n1,g1,o1,f1⟩:=eQ hA [aC n,vO,vR]
 have bx:=bE h (v:= aC n) (u:=vO) (w:=vR) rfl oneO oneR
 have rB:=aJ g1
 simp(disch:=omega)only[go_sem,tI,aE,bx,hA,e1,rB]
 refine (Sf _ n O R G h1 (gc.mono f1)).mono ?_
 rw[hL]
 rintro _ h2 ⟨p,K,rfl,go,ik,f2⟩
 obtain⟨B,M,N,S,cp,vL,ks,rfl,hB,hM,hN,hS,gB,gM,gN,gS,aK,sp⟩:=go.ex
 have c2:h2.cell B 2=some (.sl S 0 K.length cp):=by rw[H.aF gB];rfl
 have hlk:=aZ.length aK
 have hKle:K.length<=5040:=by
  have h1:=ik.perm.length_eq;have h2:=sF (G:=G) (L:=L) L.length;have h3:=kU gc;have h4:=(eE gc.kP gc.isc).2;rw[hL] at h4;omega
 simp(disch:=omega)only[go_sem]
 refine aX (λhc=>(hc rfl).elim) (λ_=>?_)
 simp(disch:=omega)only[go_sem,c2]
 refine bJ (λvs hh=> ∃v6,(∃g:Nat->V,vs= [g 0,g 1,g 2,g 3,g 4,g 5,v6,g 7,g 8,g 9,g 10,g 11,g 12])/\SV hh v6 3 (eV ks)/\Fr h2 hh) ?_ ?_
 ·refine aH (λk' vs hh=> ∃(k:Nat) (v6:V),(∃g:Nat->V,vs= [g 0,g 1,g 2,g 3,.ptr B 0,g 5,v6,g 7,g 8,.sl S 0 K.length cp,aC (K.length:Int),aC k,g 12])/\k<=K.length/\dB hh v6 3 (eV (ks.take k)) h2.next/\Fr h2 hh/\k'=K.length-k) K.length
   ⟨0,.aB,aA rfl,iP _,dB.aB _ _ _,Fr.refl _,rfl⟩ ?_
  rintro k' vars h9 ⟨k,v6,⟨g,rfl⟩,hk,ow,F9,rfl⟩
  by_cases hlt:(k:Int)<(K.length:Int)
  case neg=>
   have d4:=eS hlt;obtain rfl:k=K.length:=by omega
   simp(disch:=omega)only[go_sem,d4];rw[List.take_of_length_le (by omega)] at ow;exact⟨v6,aA rfl,ow.sv,F9⟩
  have d4:=iB hlt
  have hk':k<K.length:=by omega
  have hkl:k<ks.length:=by omega
  obtain⟨a,ea⟩:=exI (ks[k])
  have gS9:h9.get S=bQ (Cls.nP ks):=by rw[F9.get _ hS];exact gS
  have rw9:h9.row S (k*4) 4=some a.enc:=by
   have:=pU (pre:= []) (by simpa using gS9) hkl;rw[ea] at this;simpa using this
  obtain⟨Y,hY⟩:=exI h9.next
  obtain⟨ha,eha,na,ga,oa,fa⟩:=eQ hY [.aB,aC 0,aC 0,.aB]
  obtain⟨hb,ehb,nb,gb,ob⟩:=uA ha Y a.enc
  obtain⟨Z,hZ⟩:=exI hb.next
  obtain⟨hc',ehc,nc,gc',oc,fc⟩:=eQ hZ [a.rep,aC (a.ord:Int),aC (a.size:Int)]
  have F9c:Fr h9 hc':=⟨by omega,λq hq=>by rw[oc q (by omega),ob q (by omega),oa q (by omega)]⟩
  have owc:dB hc' v6 3 (eV (ks.take k)) h2.next:=ow.fr F9c
  obtain⟨hd,ad,pd⟩:=owc.push (bytes:=40) (y:= .sl Z 0 1 (.kn 1)) (us:= [a.rep,aC (a.ord:Int),aC (a.size:Int)]) (SV.all rfl (by omega) gc' _) (n:=k) (m:=1) (by rw[iA,Lz];omega) rfl (by omega) (by omega) (by omega)
  simp(disch:=omega)only[go_sem,d4,rw9,hY,eha,Qs,ga,Rb,ehb,QH gb,Oh a.hrep.2.1,hZ,ehc,ad]
  rw[fA k]
  have el:eV (ks.take (k+1))=eV (ks.take k)++ [a.rep,aC (a.ord:Int),aC (a.size:Int)]:=by
   rw[List.take_succ_eq_append_getElem hkl,ea];simp [eV]
  have n9:=F9.next
  have nd:=pd.next
  have F9d:Fr h2 hd:=⟨by omega,λq hq=>by rw[pd.old q (by omega) (λid off n' c e e2=>by have:=(ow.in _ _ _ _ e).2.1;omega),F9c.get q (by omega)];exact F9.get q hq⟩
  exact⟨K.length-(k+1),by omega,k+1,_,aA rfl,by omega,by rw[el];exact pd.own (by rw[iA,Lz];omega) rfl (by omega),F9d,rfl⟩
 rintro vars h9 ⟨v6,⟨g,rfl⟩,sv,F9⟩
 simp(disch:=omega)only[go_sem]
 exact⟨v6,K,ks,rfl,ik,sv,aK.mono λ_ _ k=>k.mono F9,(f1.trans f2).trans F9⟩
set_option maxRecDepth 100000
theorem Zl (vc vi:V)(d:Int)(O:List (List Int))(R:List (List (List Int)))(h:H)(hc:Az h vc d O R)(hd:d<=7∨64<d)(so:lF O)(sr:lH R)(hb:kI d O R≠0):
  Ev T 29 [vc,vi] h (λv h'=>v= .tup [.aB,aC (kI d O R)]/\Fr h h'):=by
 have hc0:=hc
 obtain⟨vO,vR,e,sO,sR⟩:=hc
 subst e
 refine bH iT rfl rfl ?_
 have oneO:vO.one=true:=Hc sO
 have oneR:vR.one=true:=Eo sR
 obtain⟨B,hB⟩:=exI h.next
 obtain⟨h1,e1,n1,g1,o1,f1⟩:=eQ hB [aC d,vO,vR]
 have bx:=bE h (v:= aC d) (u:=vO) (w:=vR) rfl oneO oneR
 have rB:=aJ g1
 simp(disch:=omega)only[go_sem,iT,aE,bx,hB,e1,rB]
 refine (HO _ d O R h1 (hc0.mono f1) hd so sr hb).mono ?_
 rintro _ h2 ⟨rfl,f2⟩
 simp(disch:=omega)only[go_sem]
 refine aX (λ_=>?_) (λhc=>(hc hb).elim)
 simp(disch:=omega)only[go_sem]
 exact f1.trans f2
theorem GS {W0:Nat->Prop}(vc:V)(z:Int)(n:Nat)(O:LN)(R:kW)(G:List Nat->Prop)(h:H)(gc:GC W0 h vc n O R G)(L:LN)(hL:cG O R n 0 (cH n)=L):
  Ev T 29 [vc,aC z] h (λv h'=> ∃K,Fj n G L K/\Fr h h'/\((z<0∨(K.length:Int)<=z)/\v= .tup [.aB,aC 2]∨ ∃(k:Nat) (vl:V),z=(k:Int)/\k<K.length/\v= .tup [vl,aC 0]/\SP h' vl ((fY G L (K.getD k 0)).map λr=>L.getD r []))):=by
 obtain⟨vO,vR,e,sO,sR⟩:=gc.ch
 subst e
 refine bH iT rfl rfl ?_
 have oneO:vO.one=true:=Hc sO
 have oneR:vR.one=true:=Eo sR
 obtain⟨A,hA⟩:=exI h.next
 obtain⟨h1,e1,n1,g1,o1,f1⟩:=eQ hA [aC n,vO,vR]
 have bx:=bE h (v:= aC n) (u:=vO) (w:=vR) rfl oneO oneR
 have rB:=aJ g1
 simp(disch:=omega)only[go_sem,iT,aE,bx,hA,e1,rB]
 refine (Sf _ n O R G h1 (gc.mono f1)).mono ?_
 rw[hL]
 rintro _ h2 ⟨p,K,rfl,go,ik,f2⟩
 obtain⟨B,M,N,S,cp,vL,ks,rfl,hB,hM,hN,hS,gB,gM,gN,gS,aK,sp⟩:=go.ex
 have F2:=f1.trans f2
 have c2:h2.cell B 2=some (.sl S 0 K.length cp):=by rw[H.aF gB];rfl
 have c0: ∀h',Fr h2 h'->h'.cell B 0=some vL:=λh' f=>by rw[f.cell hB,H.aF gB];rfl
 simp(disch:=omega)only[go_sem]
 refine aX (λhc=>(hc rfl).elim) (λ_=>?_)
 by_cases hz:z<0
 ·have d1:decide (z<0)=true:=decide_eq_true hz
  simp(disch:=omega)only[go_sem,d1,kV]
  exact⟨K,ik,F2,.inl ⟨.inl hz,trivial⟩⟩
 have d1:decide (z<0)=false:=decide_eq_false hz
 by_cases hk:(K.length:Int)<=z
 ·have d2:=iB hk
  simp(disch:=omega)only[go_sem,d1,d2,c2]
  exact⟨K,ik,F2,.inl ⟨.inr hk,trivial⟩⟩
 have d2:=eS hk
 obtain⟨k,rfl⟩: ∃k:Nat,z=(k:Int):=⟨z.toNat,by omega⟩
 have hk':k<K.length:=by omega
 have hlk:=aZ.length aK
 have hkl:k<ks.length:=by omega
 obtain⟨a,ea⟩:=exI (ks[k])
 have ka:=aZ.get aK k hkl hk'
 rw[ea,←Pm.bG hk'] at ka
 obtain⟨r,hr⟩:=exI (K.getD k 0)
 rw[hr] at ka
 have cS3:h2.cell S (k*4+3)=some a.ranks:=by
  have h3:=pU (pre:= []) (by simpa using gS) hkl;rw[ea] at h3;simp only[List.length_nil,Nat.zero_add] at h3;have h4:h2.cell S (k*4+3)=(Cls.nP ks)[k*4+3]? :=H.aF gS _;unfold H.row at h3;rw[gS] at h3;simp only[sub] at h3;split at h3
  ·rw[h4]
   have h5:=congrArg (λo=>o.map λl=>l[3]?) h3;simpa [List.getElem?_take,List.getElem?_drop,Cls.KE.enc] using h5
  ·cases h3
 obtain⟨c,hc⟩:=exI ((fY G L r).length)
 have E:=(eE gc.kP gc.isc).1
 have h4l:=(eE gc.kP gc.isc).2
 have h5l:=kU gc
 rw[hL] at E h4l
 have hcl:c<=L.length:=by
  rw[←hc];have:=List.Nodup.length_le_of_subset (qC (G:=G) (L:=L) r) (l₂:=List.range L.length) λj hj=>Mr.2 (fW.1 hj).1
  rwa [List.length_range] at this
 have lr:=ka.ranks.lens
 rw[aP,hc] at lr
 obtain⟨idR,offR,shR,hidR,hcR⟩:=ka.ranks.open
 rw[aP,hc] at shR hidR hcR
 obtain⟨wL,svL,aL⟩:=sp
 have hwL:=aZ.length aL
 rw[jD] at hwL
 obtain⟨idL,offL,shL,hidL,hcL⟩:=SV.shape svL L.length (by omega) (by omega)
 have hel: ∀x,x<L.length->SI h2 (wL.getD x .undef) (zi (L.getD x [])):=λx hx=>Bg aL hx
 simp(disch:=omega)only[go_sem,d1,d2,c2,cS3,lr]
 refine bJ (λvs hh=> ∃v7,(∃g:Nat->V,vs= [g 0,g 1,g 2,g 3,g 4,g 5,g 6,v7,g 8,g 9,g 10,g 11,g 12,g 13,g 14])/\SP hh v7 ((fY G L r).map λr=>L.getD r [])/\Fr h2 hh) ?_ ?_
 ·refine aH (λk' vs hh=> ∃(t:Nat) (v7:V),(∃g:Nat->V,vs= [g 0,g 1,g 2,g 3,g 4,.ptr B 0,g 6,v7,g 8,g 9,g 10,a.ranks,aC c,aC t,g 14])/\t<=c/\dB hh v7 1 (((fY G L r).take t).map λx=>wL.getD x .undef) h2.next/\Fr h2 hh/\k'=c-t) c
   ⟨0,.aB,aA rfl,iP _,dB.aB _ _ _,Fr.refl _,rfl⟩ ?_
  rintro k' vars h9 ⟨t,v7,⟨g,rfl⟩,ht,ow,F9,rfl⟩
  by_cases hlt:(t:Int)<(c:Int)
  case neg=>
   have d4:=eS hlt;obtain rfl:t=c:=by omega
   simp(disch:=omega)only[go_sem,d4];rw[List.take_of_length_le (by omega)] at ow;refine⟨v7,aA rfl,⟨_,ow.sv,aZ.lJ (by simp) λi h1 h2=>?_⟩,F9⟩;have h1':i<(fY G L r).length:=by simpa using h1
   simp only[List.getElem_map];exact (hel _ (fW.1 (List.getElem_mem h1')).1).mono F9
  have d4:=iB hlt
  have ht':t<c:=by omega
  obtain⟨x,hx⟩:=exI ((fY G L r).getD t 0)
  have hxl:x<L.length:=by rw[←hx];exact (fW.1 (bD (by omega))).1
  have cx:h9.cell idR (offR+t)=some (aC x):=by
   rw[F9.cell (hidR (by omega)),hcR t ht',zi,fI _ (d:=0) (by omega),hx]
  have cl:h9.cell idL (offL+x)=some (wL.getD x .undef):=by
   rw[F9.cell (hidL (by omega)),hcL x (by omega)];simp [List.getD,show x<wL.length by omega]
  have se:=hel x hxl
  generalize hv:wL.getD x .undef=ve at cl se
  obtain⟨Y,hY⟩:=exI h9.next
  obtain⟨ha,eha,na,ga,oa,fa⟩:=eQ hY [ve]
  obtain⟨hd,ad,pd⟩:=(ow.fr fa).push (bytes:=24) (SV.one (v:=ve) (id:=Y) (by omega) ga (.kn 1)) (n:=t) (m:=1) (by rw[jD,Lz];omega) rfl (by omega) (by omega) (by omega)
  simp(disch:=omega)only[go_sem,d4,shR.ixa,cx,c0 h9 F9,shL.ixa,cl,cT h9 (z:= .aB) se.cJ.1 se.cJ.2.1,hY,eha,ad]
  rw[fA t]
  have n9:=F9.next
  have nd:=pd.next
  have F9d:Fr h2 hd:=⟨by omega,λq hq=>by rw[pd.old q (by omega) (λid off n' c e e2=>by have:=(ow.in _ _ _ _ e).2.1;omega),fa.get q (by omega)];exact F9.get q hq⟩
  refine⟨c-(t+1),by omega,t+1,_,aA rfl,by omega,?_,F9d,rfl⟩
  rw[dI 0 (by omega),hx,List.map_append,List.map_cons,hv,List.map_nil]
  exact pd.own (by rw[jD,Lz];omega) rfl (by omega)
 rintro vars h9 ⟨v7,⟨g,rfl⟩,sv,F9⟩
 simp(disch:=omega)only[go_sem]
 exact⟨K,ik,F2.trans F9,.inr ⟨k,v7,rfl,hk',rfl,by rw[hr];exact sv⟩⟩
theorem Lr {n:Nat}{a:List Nat}(A:bT n a)(hn:n<=7):lW a n∣420:=by
 unfold lW;rw[tH];intro c hc;obtain⟨l,hl,rfl⟩:=yH.1 hc;obtain⟨i,hi,rfl⟩:=yH.1 hl;have hin:i<n:=by unfold Mg at hi;exact Mr.1 (Vo.1 hi).1
 rw[xP];have h1:=(nM A hin).1;have h2:=Qo A hin;have: ∀k,k<8->0<k->k∣420:=by decide
 exact this _ (by omega) h1
noncomputable def TQ (n:Nat)(L:LN)(K:List Nat):Nat:=lQ (K.map λr=>lW (L.getD r []) n)
theorem QE {W0:Nat->Prop}(vc:V)(n:Nat)(O:LN)(R:kW)(G:List Nat->Prop)(h:H)(gc:GC W0 h vc n O R G)(L:LN)(hL:cG O R n 0 (cH n)=L):
  Ev T 14 [vc] h (λv h'=> ∃K,Fj n G L K/\v= .tup [aC (TQ n L K:Nat),aC 0]/\Fr h h'):=by
 obtain⟨vO,vR,e,sO,sR⟩:=gc.ch
 subst e
 refine bH nW rfl rfl ?_
 have oneO:vO.one=true:=Hc sO
 have oneR:vR.one=true:=Eo sR
 obtain⟨A,hA⟩:=exI h.next
 obtain⟨h1,e1,n1,g1,o1,f1⟩:=eQ hA [aC n,vO,vR]
 have bx:=bE h (v:= aC n) (u:=vO) (w:=vR) rfl oneO oneR
 have rB:=aJ g1
 simp(disch:=omega)only[go_sem,nW,aE,bx,hA,e1,rB]
 refine (Sf _ n O R G h1 (gc.mono f1)).mono ?_
 rw[hL]
 rintro _ h2 ⟨p,K,rfl,go,ik,f2⟩
 obtain⟨B,M,N,S,cp,vL,ks,rfl,hB,hM,hN,hS,gB,gM,gN,gS,aK,sp⟩:=go.ex
 have c2:h2.cell B 2=some (.sl S 0 K.length cp):=by rw[H.aF gB];rfl
 have hlk:=aZ.length aK
 have E:=(eE gc.kP gc.isc).1
 have h4l:=(eE gc.kP gc.isc).2
 have h5l:=kU gc
 rw[hL] at E h4l
 have hKle:K.length<=5040:=by
  have h1:=ik.perm.length_eq;have h2:=sF (G:=G) (L:=L) L.length;omega
 obtain⟨W,hW⟩:=exI ((K.map λr=>lW (L.getD r []) n))
 have hWl:W.length=K.length:=by rw[←hW,jD]
 have hWd: ∀c∈W,c∣420:=λc hc=>by
  rw[←hW] at hc;obtain⟨r,hr,rfl⟩:=yH.1 hc;exact Lr (jE gc.kP E (kY.1 (ik.perm.mem_iff.1 hr)).1) gc.n7
 have hpre: ∀k,lQ (W.take k)<=420/\0<lQ (W.take k):=λk=>by
  have h1:lQ (W.take k)∣420:=(tH _ _).2 λc hc=>hWd c (List.mem_of_mem_take hc)
  exact⟨Nat.le_of_dvd (by omega) h1,Nat.pos_of_dvd_of_pos h1 (by omega)⟩
 simp(disch:=omega)only[go_sem]
 refine aX (λhc=>(hc rfl).elim) (λ_=>?_)
 simp(disch:=omega)only[go_sem,c2]
 refine bJ (λvs hh=>(∃g:Nat->V,vs= [g 0,g 1,g 2,g 3,g 4,g 5,aC (lQ W:Nat),g 7,g 8,g 9,g 10,g 11,g 12,g 13,g 14,g 15])/\Fr h2 hh) ?_ ?_
 ·refine aH (λk' vs hh=> ∃(k:Nat),(∃g:Nat->V,vs= [g 0,g 1,g 2,g 3,g 4,g 5,aC (lQ (W.take k):Nat),g 7,g 8,g 9,g 10,.sl S 0 K.length cp,aC (K.length:Int),aC k,g 14,g 15])/\k<=K.length/\Fr h2 hh/\k'=K.length-k) K.length
   ⟨0,aA rfl,iP _,Fr.refl _,rfl⟩ ?_
  rintro k' vars h9 ⟨k,⟨g,rfl⟩,hk,F9,rfl⟩
  by_cases hlt:(k:Int)<(K.length:Int)
  case neg=>
   have d4:=eS hlt;obtain rfl:k=K.length:=by omega
   simp(disch:=omega)only[go_sem,d4];rw[List.take_of_length_le (by omega)];exact⟨aA rfl,F9⟩
  have d4:=iB hlt
  have hk':k<K.length:=by omega
  have hkl:k<ks.length:=by omega
  obtain⟨a,ea⟩:=exI (ks[k])
  have ka:=aZ.get aK k hkl hk'
  rw[ea] at ka
  have hao:a.ord=W.getD k 0:=by rw[ka.ord,←hW,fI _ (d:=0) hk',Pm.bG hk']
  have gS9:h9.get S=bQ (Cls.nP ks):=by rw[F9.get _ hS];exact gS
  have rw9:h9.row S (k*4) 4=some a.enc:=by
   have:=pU (pre:= []) (by simpa using gS9) hkl;rw[ea] at this;simpa using this
  obtain⟨Y,hY⟩:=exI h9.next
  obtain⟨ha,eha,na,ga,oa,fa⟩:=eQ hY [.aB,aC 0,aC 0,.aB]
  obtain⟨hb,ehb,nb,gb,ob⟩:=uA ha Y a.enc
  have cb1:hb.cell Y 1=some (aC (a.ord:Int)):=by rw[H.aF gb];rfl
  have F9b:Fr h9 hb:=⟨by omega,λq hq=>by rw[ob q (by omega),oa q (by omega)]⟩
  obtain⟨m,hm⟩:=exI (lQ (W.take k))
  obtain⟨o,ho⟩:=exI (W.getD k 0)
  have hpk:=hpre k
  have hpk1:=hpre (k+1)
  have hs:=Be W k (by omega)
  rw[hm] at hpk
  rw[hm,ho] at hs
  have ho420:o∣420:=by rw[←ho];exact hWd _ (bD (by omega))
  have ho1:o<=420:=Nat.le_of_dvd (by omega) ho420
  have ho0:0<o:=Nat.pos_of_dvd_of_pos ho420 (by omega)
  rw[hao,ho] at cb1
  rw[hm]
  simp(disch:=omega)only[go_sem,d4,rw9,hY,eha,Qs,ga,Rb,ehb,cb1]
  refine bJ (λvs hh=>(∃g:Nat->V,vs= [g 0,g 1,g 2,g 3,g 4,g 5,aC m,.ptr Y 0,aC (Nat.gcd m o:Nat),g 9,g 10,.sl S 0 K.length cp,aC (K.length:Int),aC k,g 14,g 15])/\Fr hb hh) ?_ ?_
  ·refine aH (λk' vars hh=> ∃(x y:Nat),(∃g:Nat->V,vars= [g 0,g 1,g 2,g 3,g 4,g 5,aC m,.ptr Y 0,aC x,aC y,g 10,.sl S 0 K.length cp,aC (K.length:Int),aC k,g 14,g 15])/\x<1000000/\y<1000000/\Nat.gcd x y=Nat.gcd m o/\Fr hb hh/\k'=y) o
    ⟨m,o,aA rfl,by omega,by omega,rfl,(Fr.refl hb).bF (by omega),rfl⟩ ?_
   rintro k' vars hh ⟨x,y,⟨g2,rfl⟩,hx,hy,hg,F,hk⟩
   subst hk
   by_cases hlt:(0:Int)<(k':Int)
   ·have d1:=iB hlt
    have hz:(k':Int)≠0:=by omega
    have hmm:(x:Int).tmod (k':Int)=((x%k':Nat):Int):=Jf x k'
    have hml:=Nat.mod_lt x (show k'>0 by omega)
    simp(disch:=omega)only[go_sem,d1,hz,hmm]
    exact⟨x%k',hml,k',x%k',aA rfl,hy,by omega,by rw[Nat.gcd_comm,←Nat.gcd_rec,Nat.gcd_comm];exact hg,F.bF (by omega),rfl⟩
   ·have d1:=eS hlt
    obtain rfl:k'=0:=by omega
    simp(disch:=omega)only[go_sem,d1]
    rw[←hg,Nat.gcd_zero_right]
    exact⟨aA rfl,F⟩
  rintro vars hc' ⟨⟨g2,rfl⟩,Fc⟩
  obtain⟨q,hq⟩:=exI (Nat.gcd m o)
  rw[hq]
  rw[hq] at hs
  have hq0:0<q:=by rw[←hq];exact Nat.gcd_pos_of_pos_right _ ho0
  have hqz:(q:Int)≠0:=by omega
  have hdv:(m:Int).tdiv (q:Int)=((m/q:Nat):Int):=by rw[Int.tdiv_eq_ediv_of_nonneg (by omega)];rfl
  have hdl:m/q<=m:=Nat.div_le_self _ _
  have hmu:((m/q:Nat):Int)*(o:Int)=((lQ (W.take (k+1)):Nat):Int):=by rw[hs,Int.natCast_mul]
  generalize m/q=d at hdv hdl hmu hs
  have cc1:hc'.cell Y 1=some (aC o):=by rw[Fc.cell (by omega)];exact cb1
  have hp2:=hpk1.1
  obtain⟨m2,hm2⟩:=exI (lQ (W.take (k+1)))
  rw[hm2] at hmu hp2
  simp(disch:=omega)only[go_sem,hqz,hdv,hmu,cc1]
  rw[fA k]
  exact⟨K.length-(k+1),by omega,k+1,by rw[hm2];exact aA rfl,by omega,((F9.trans F9b).trans Fc).bF (by omega),rfl⟩
 rintro vars h9 ⟨⟨g,rfl⟩,F9⟩
 simp(disch:=omega)only[go_sem]
 exact⟨K,ik,by unfold TQ;rw[hW],(f1.trans f2).trans F9⟩
theorem HT {n:Nat}{G:List Nat->Prop}{L:LN}{K:List Nat}{h:H}{p:V}(go:NL n G L K h p)(hG:sC n G)(E:jA G L)(n7:n<=7)(hLl:L.length<1000000)(vx:V){i:Nat}(hi:i<L.length)(hx:SI h vx (zi (L.getD i []))):
  Ev T 46 [p,vx] h (λv h'=>v= aC (mH G L K i:Nat)/\Fr h h'):=by
 obtain⟨B,M,N,S,cp,vL,ks,rfl,hB,hM,hN,hS,gB,gM,gN,gS,aK,sp⟩:=go.ex
 refine bH lZ rfl rfl ?_
 have Y:=jE hG E hi
 have hy1:(L.getD i []).length<=1000:=by rw[Y.len];omega
 have hy2: ∀z∈L.getD i [],z<256:=λz hz=>by have:=Y.lt z hz;omega
 have hK:=Kd hy1 hy2
 have cB1:h.cell B 1=some (.mp M):=by rw[H.aF gB];rfl
 have cB3:h.cell B 3=some (.sl N 0 L.length (.kn L.length)):=by rw[H.aF gB];rfl
 simp(disch:=omega)only[go_sem,lZ,aE,cB1,cB3]
 refine (Rx vx _ _ hy1 hy2 (hx.mono ((Fr.refl h).bF (by omega)))).mono ?_
 rintro _ h4 ⟨rfl,f4'⟩
 have f4:Fr h h4:=((Fr.refl h).bF (by omega)).trans f4'
 have cB41:h4.cell B 1=some (.mp M):=by rw[f4.cell (by omega)];exact cB1
 have cB43:h4.cell B 3=some (.sl N 0 L.length (.kn L.length)):=by rw[f4.cell (by omega)];exact cB3
 have gM4:h4.get M=some (.wmap .str (Sb L L.length)):=by rw[f4.get _ hM];exact gM
 have lk:=λz=>Ug E.nodup hi hK z
 have cN:h4.cell N i=some (aC (mH G L K i:Nat)):=by rw[f4.cell hN];exact gZ gN hi
 simp(disch:=omega)only[go_sem,cB41,cB43,gM4,lk,cN]
 exact⟨by simp [dW],f4⟩
theorem JH {n:Nat}{G:List Nat->Prop}{L:LN}{K:List Nat}(hG:sC n G)(E:jA G L)(pK:K.Perm (bY G L L.length)){k:Nat}(hk:k<K.length){j:Nat}(hj:j<L.length):mH G L K j=k↔cR G L (K.getD k 0) j:=by
 constructor
 ·intro h
  obtain⟨k2,h1,h2⟩:=Gu hG E pK hj;have h3:=Ar hG E pK h1 h2;obtain rfl:k2=k:=by omega
  exact (fW.1 h2).2
 ·intro h
  exact Ar hG E pK hk (fW.2 ⟨hj,h⟩)
theorem AV (e:Nat)(he:e<9223372036854775808):arith .and .i64 (e:Int) 1=some (aC (e%2:Nat)):=by
 rw[Nw];congr 2;show IntKind.i64.wrap (((BitVec.ofInt 64 (e:Int)&&&BitVec.ofInt 64 (1:Int)).toNat:Nat):Int)=_;have h1:(BitVec.ofInt 64 (e:Int)).toNat=e:=by simp [BitVec.toNat_ofInt];omega
 have h2:(BitVec.ofInt 64 (1:Int)).toNat=1:=rfl;rw[BitVec.toNat_and,h1,h2,Nat.and_one_is_mod];exact BG (by omega) (by omega)
theorem BK (e:Nat):zU .shr .i64 (e:Int) 1=some (aC (e/2:Nat)):=by
 unfold zU;rw[if_neg (by omega)];simp only;congr 2;show Int.fdiv (e:Int) 2=_;rw[Int.fdiv_eq_ediv_of_nonneg _ (by omega)];rfl
theorem VU {n:Nat}{a:List Nat}(A:bT n a): ∀k,pw n (aW a a) k=pw n a (2*k)
 |0=>rfl
 |k+1=>by
  show aW (pw n (aW a a) k) (aW a a)=pw n a (2*k+2);rw[VU A k,←aY (nX A _) A A];rfl
theorem RD {n:Nat}{a:List Nat}(A:bT n a):pw n a 1=a:=fC A
theorem IQ (u w:V)(n e:Nat)(a:List Nat)(h:H)(hn:n<=1000)(he:e<1000000)(A:bT n a)(hu:SI h u (zi a))(hw:SI h w (zi (cH n))):
  Ev T 47 [u,w,aC e] h (λv h'=>SI h' v (zi (pw n a e))/\Fr h h'):=by
 refine bH fP rfl rfl ?_
 simp(disch:=omega)only[go_sem,fP,aE]
 refine aH (λk' vs hh=> ∃(e':Nat) (vx va:V) (x b:List Nat),(∃g:Nat->V,vs= [vx,va,aC (e':Int),g 3,g 4,g 5])/\e'<1000000/\bT n x/\bT n b/\SI hh vx (zi x)/\SI hh va (zi b)/\aW b (pw n x e')=pw n a e/\Fr h hh/\k'=e') e
  ⟨e,u,w,a,cH n,aA rfl,he,A,bT.one n,hu,hw,fC (nX A e),Fr.refl h,rfl⟩ ?_
 rintro k' vars h1 ⟨e',vx,va,x,b,⟨g,rfl⟩,hl,X,B,sx,sb,heq,F,hk⟩
 subst hk
 by_cases hlt:(0:Int)<(k':Int)
 case neg=>
  have d1:=eS hlt;obtain rfl:k'=0:=by omega
  simp(disch:=omega)only[go_sem,d1];have h2:aW b (cH n)=pw n a e:=heq;rw[bZ B] at h2;rw[←h2];exact⟨sb,F⟩
 have d1:=iB hlt
 have hpx: ∀k,aW x (pw n x k)=pw n x (k+1):=λk=>by
  have h2:=Xh X 1 k;rw[RD X] at h2;rw[←h2,Nat.add_comm]
 have sq:=VU X (k'/2)
 rcases Nat.mod_two_eq_zero_or_one k' with hm|hm
 ·have d2:decide (((0:Nat):Int)=1)=false:=rfl
  have an:=AV k' (by omega)
  rw[hm] at an
  simp(disch:=omega)only[go_sem,d1,an,d2]
  refine (tC vx vx x x h1 (by rw[X.len];omega) sx sx (λj hj=>by rw[X.len];exact X.eX (by rw[←X.len];exact hj))).mono ?_
  rintro v1 h2 np
  simp(disch:=omega)only[go_sem,An,vY,BK]
  refine⟨k'/2,by omega,k'/2,v1,va,aW x x,b,aA rfl,by omega,X.mul X,B,(np.pv (W:=λ_=>False) id).si,sb.mono np.fr,?_,F.trans np.fr,rfl⟩
  rw[sq,show 2*(k'/2)=k' by omega];exact heq
 ·have d2:decide (((1:Nat):Int)=1)=true:=rfl
  have an:=AV k' (by omega)
  rw[hm] at an
  simp(disch:=omega)only[go_sem,d1,an,d2]
  refine (tC va vx b x h1 (by rw[B.len];omega) sb sx (λj hj=>by rw[X.len];exact B.eX (by rw[←B.len];exact hj))).mono ?_
  rintro v0 h2 np0
  simp(disch:=omega)only[go_sem]
  refine (tC vx vx x x h2 (by rw[X.len];omega) (sx.mono np0.fr) (sx.mono np0.fr) (λj hj=>by rw[X.len];exact X.eX (by rw[←X.len];exact hj))).mono ?_
  rintro v1 h3 np
  simp(disch:=omega)only[go_sem,An,vY,BK]
  refine⟨k'/2,by omega,k'/2,v1,v0,aW x x,aW b x,aA rfl,by omega,X.mul X,B.mul X,(np.pv (W:=λ_=>False) id).si,((np0.pv (W:=λ_=>False) id).si).mono np.fr,?_,(F.trans np0.fr).trans np.fr,rfl⟩
  rw[sq,aY B X (nX X _),hpx,show 2*(k'/2)+1=k' by omega];exact heq
theorem OI {n:Nat}{G:List Nat->Prop}{L:LN}(hG:sC n G)(E:jA G L):0<L.length/\L.getD 0 []=cH n:=by
 have hm:=(E.mem _).2 hG.one;have h0:=List.length_pos_of_mem hm;refine⟨h0,?_⟩;obtain⟨i,hi,ei⟩:=Dt.1 hm;have e0:L.getD 0 []=L[0]:=by rw[List.getD,fS h0];rfl
 by_cases h:i=0
 ·subst h;rw[e0,ei]
 ·have h1:=List.pairwise_iff_getElem.1 E.asc 0 i h0 hi (by omega)
  rw[ei] at h1;have X:=jE hG E h0;rw[e0] at X;rcases one_le X with h2|h2
  ·rw[e0,←h2]
  ·exact (h1.asymm h2).elim
noncomputable def Mi (n:Nat)(G:List Nat->Prop)(L:LN)(K:List Nat)(z:Int)(r:Nat):Nat:=mH G L K (L.idxOf (pw n (L.getD r []) (z%(lW (L.getD r []) n:Nat)).toNat))
theorem EW (z:Int)(o:Nat)(ho:0<o):(z.tmod (o:Int)+(o:Int)).tmod (o:Int)=(((z%(o:Int)).toNat:Nat):Int):=by
 have h1:=Int.tmod_lt_of_pos z (show (0:Int)<o by omega);have h2:=Int.lt_tmod_of_pos z (show (0:Int)<o by omega);rw[Int.tmod_eq_emod_of_nonneg (by omega),Int.toNat_of_nonneg (Int.emod_nonneg _ (by omega)),Int.add_emod_right]
 conv=>rhs;rw[←Int.mul_tdiv_add_tmod z o,Int.add_comm,Int.add_mul_emod_self_left]
theorem UP {W0:Nat->Prop}(vc:V)(z:Int)(n:Nat)(O:LN)(R:kW)(G:List Nat->Prop)(h:H)(gc:GC W0 h vc n O R G)(L:LN)(hz: -9223372036854775808<=z/\z<9223372036854775808)(hL:cG O R n 0 (cH n)=L):
  Ev T 12 [vc,aC z] h (λv h'=> ∃K vl,Fj n G L K/\v= .tup [vl,aC 0]/\SV h' vl 1 (rc K.length λk=> aC (Mi n G L K z (K.getD k 0):Nat))/\Fr h h'):=by
 obtain⟨vO,vR,e,sO,sR⟩:=gc.ch
 subst e
 refine bH pN rfl rfl ?_
 have oneO:vO.one=true:=Hc sO
 have oneR:vR.one=true:=Eo sR
 obtain⟨A,hA⟩:=exI h.next
 obtain⟨h1,e1,n1,g1,o1,f1⟩:=eQ hA [aC n,vO,vR]
 have bx:=bE h (v:= aC n) (u:=vO) (w:=vR) rfl oneO oneR
 have rB:=aJ g1
 simp(disch:=omega)only[go_sem,pN,aE,bx,hA,e1,rB]
 refine (Sf _ n O R G h1 (gc.mono f1)).mono ?_
 rw[hL]
 rintro _ h2 ⟨p,K,rfl,go,ik,f2⟩
 obtain⟨B,M,N,S,cp,vL,ks,rfl,hB,hM,hN,hS,gB,gM,gN,gS,aK,sp⟩:=go.ex
 have c2:h2.cell B 2=some (.sl S 0 K.length cp):=by rw[H.aF gB];rfl
 have hlk:=aZ.length aK
 have E:=(eE gc.kP gc.isc).1
 have h4l:=(eE gc.kP gc.isc).2
 have h5l:=kU gc
 rw[hL] at E h4l
 have hG:=gc.kP
 have n7:=gc.n7
 have hKle:K.length<=5040:=by
  have h1:=ik.perm.length_eq;have h2:=sF (G:=G) (L:=L) L.length;omega
 obtain⟨D,hD⟩:=exI h2.next
 obtain⟨h3,e3,n3,g3,o3,f3⟩:=eQ hD (rc K.length λ_=>aC 0)
 have cB3:h3.cell B 2=some (.sl S 0 K.length cp):=by rw[f3.cell hB];exact c2
 simp(disch:=omega)only[go_sem]
 refine aX (λhc=>(hc rfl).elim) (λ_=>?_)
 simp(disch:=omega)only[go_sem,c2,kX _ K.length (by omega),hD,e3,cB3]
 refine bJ (λvs hh=>(∃g:Nat->V,vs= [g 0,g 1,g 2,g 3,g 4,g 5,g 6,.sl D 0 K.length (.kn K.length),g 8,g 9,g 10,g 11,g 12,g 13,g 14,g 15])/\hh.get D=some (.cells false (rc K.length λk=> aC (Mi n G L K z (K.getD k 0):Nat)))/\D<hh.next/\Fr h2 hh) ?_ ?_
 ·refine aH (λk' vs hh=> ∃(k:Nat),(∃g:Nat->V,vs= [g 0,aC z,g 2,g 3,g 4,.ptr B 0,g 6,.sl D 0 K.length (.kn K.length),g 8,g 9,g 10,g 11,.sl S 0 K.length cp,aC (K.length:Int),aC k,g 15])/\k<=K.length/\hh.get D=some (.cells false (rc K.length λj=> aC (if j<k then ((Mi n G L K z (K.getD j 0):Nat):Int) else 0)))/\D<hh.next/\Fr h2 hh/\k'=K.length-k) K.length
   ⟨0,aA rfl,iP _,by rw[g3];rfl,by omega,f3,rfl⟩ ?_
  rintro k' vars h9 ⟨k,⟨g,rfl⟩,hk,gD,nD,F9,rfl⟩
  by_cases hlt:(k:Int)<(K.length:Int)
  case neg=>
   have d4:=eS hlt;obtain rfl:k=K.length:=by omega
   simp(disch:=omega)only[go_sem,d4];refine⟨aA rfl,?_,nD,F9⟩;rw[gD,bN λj hj=>by rw[if_pos hj]]
  have d4:=iB hlt
  have hk':k<K.length:=by omega
  have hkl:k<ks.length:=by omega
  obtain⟨a,ea⟩:=exI (ks[k])
  have ka:=aZ.get aK k hkl hk'
  rw[ea,←Pm.bG hk'] at ka
  obtain⟨r,hr⟩:=exI (K.getD k 0)
  rw[hr] at ka
  have hrK:r∈bY G L L.length:=by rw[←hr];exact ik.perm.mem_iff.1 (bD hk')
  have hrl:=(kY.1 hrK).1
  have gS9:h9.get S=some (.cells false (Cls.nP ks)):=by rw[F9.get _ hS];exact gS
  have rw9:h9.row S (k*4) 4=some a.enc:=by
   have:=pU (pre:= []) (by simpa using gS9) hkl;rw[ea] at this;simpa using this
  obtain⟨Y,hY⟩:=exI h9.next
  obtain⟨ha,eha,na,ga,oa,fa⟩:=eQ hY [.aB,aC 0,aC 0,.aB]
  obtain⟨hb,ehb,nb,gb,ob⟩:=uA ha Y a.enc
  have cb0:hb.cell Y 0=some a.rep:=by rw[H.aF gb];rfl
  have F9b:Fr h9 hb:=⟨by omega,λq hq=>by rw[ob q (by omega),oa q (by omega)]⟩
  have Fb:=F9.trans F9b
  have R1:=jE hG E hrl
  have cb1:hb.cell Y 1=some (aC (a.ord:Int)):=by rw[H.aF gb];rfl
  obtain⟨o,ho⟩:=exI (lW (L.getD r []) n)
  rw[ka.ord,ho] at cb1
  have o0:0<o:=by rw[←ho];exact Jk R1
  have o1':o<=823543:=by rw[←ho];exact Nat.le_trans (Qc R1) (Ew n7)
  have hoz:(o:Int)≠0:=by omega
  have t1:=Int.tmod_lt_of_pos z (show (0:Int)<o by omega)
  have t2:=Int.lt_tmod_of_pos z (show (0:Int)<o by omega)
  have t3:=EW z o o0
  obtain⟨x,hx⟩:=exI ((z%(o:Int)).toNat)
  rw[hx] at t3
  have hxo:x<o:=by
   have:=Int.emod_lt_of_pos z (show (0:Int)<o by omega);have:=Int.emod_nonneg z hoz;omega
  obtain⟨l0,l1⟩:=OI hG E
  obtain⟨wL,svL,aL⟩:=sp
  have hwL:=aZ.length aL
  rw[jD] at hwL
  obtain⟨idL,offL,shL,hidL,hcL⟩:=SV.shape svL L.length (by omega) (by omega)
  have se:=Bg aL l0
  rw[l1] at se
  have cl: ∀h',Fr h2 h'->h'.cell idL offL=some (wL.getD 0 .undef):=λh' f=>by
   have:=hcL 0 (by omega);rw[Nat.add_zero] at this;rw[f.cell (hidL (by omega)),this];simp [List.getD,show 0<wL.length by omega]
  generalize hv:wL.getD 0 .undef=ve at cl se
  have ix0:Qu 1 vL (aC 0)=some (.ptr idL (offL+0)):=shL.ixa .i64 0 (by omega) (by omega)
  rw[Nat.add_zero] at ix0
  have cB0: ∀h',Fr h2 h'->h'.cell B 0=some vL:=λh' f=>by rw[f.cell hB,H.aF gB];rfl
  simp(disch:=omega)only[go_sem,d4,rw9,hY,eha,Qs,ga,Rb,ehb,cb0,cb1,hoz,t3,cB0 hb Fb,ix0,cl hb Fb]
  refine (IQ a.rep ve n x (L.getD r []) _ (by omega) (by omega) R1 (ka.rep.mono (Fb.trans ((Fr.refl hb).bF (by omega)))) (se.mono (Fb.trans ((Fr.refl hb).bF (by omega))))).mono ?_
  rintro v1 hc' ⟨s1,fc'⟩
  have Fbc:Fr hb hc':=((Fr.refl hb).bF (by omega)).trans fc'
  have Fc:=Fb.trans Fbc
  have hP:G (pw n (L.getD r []) x):=by
   have: ∀y,G (pw n (L.getD r []) y):=λy=>by
    induction y with
    |zero=>exact hG.one
    |succ y ih=>exact hG.mul ih (Ci E hrl)
   exact this x
  have hjm:=(E.mem _).2 hP
  obtain⟨j,hj⟩:=exI (L.idxOf (pw n (L.getD r []) x))
  have hjl:j<L.length:=by rw[←hj];exact List.idxOf_lt_length_of_mem hjm
  have ej:L.getD j []=pw n (L.getD r []) x:=by
   rw[List.getD,fS hjl];subst hj;exact List.getElem_idxOf hjl
  rw[←ej] at s1
  simp(disch:=omega)only[go_sem]
  refine (HT (go.mono Fc) hG E n7 (by omega) v1 hjl s1).mono ?_
  rintro _ hd ⟨rfl,fd⟩
  have Fd:=Fc.trans fd
  have Fbd:=Fbc.trans fd
  have F9d:=F9b.trans Fbd
  have gDd:hd.get D=some (.cells false (rc K.length λj=> aC (if j<k then ((Mi n G L K z (K.getD j 0):Nat):Int) else 0))):=by rw[F9d.get D nD];exact gD
  have er:Mi n G L K z r=mH G L K j:=by unfold Mi;rw[ho,hx,hj]
  have cd0:hd.cell Y 0=some a.rep:=by rw[Fbd.cell (by omega)];exact cb0
  have eve:=se.dW
  have evr:=ka.rep.dW
  have evL:=svL.dW
  have pt:=bP (vs:=rc K.length λj=> aC (if j<k then ((Mi n G L K z (K.getD j 0):Nat):Int) else 0)) (off:=k) (by rw[iE];exact hk')
  simp(disch:=omega)only[go_sem,cd0,cl hd Fd,cB0 hd Fd,eve,evr,evL,gDd,pt]
  rw[fA k]
  have n9d:=F9d.next
  refine⟨K.length-(k+1),by omega,k+1,aA rfl,by omega,?_,by show D<hd.next;omega,Fd.set (by omega) _,rfl⟩
  rw[jL,bN λx hx=>?_]
  by_cases ex:x=k
  ·rw[if_pos ex,if_pos (by omega),ex,hr,er]
  ·rw[if_neg ex]
   by_cases e2:x<k
   ·rw[if_pos e2,if_pos (by omega)]
   ·rw[if_neg e2,if_neg (by omega)]
 rintro vars h9 ⟨⟨g,rfl⟩,gD,nD,F9⟩
 simp(disch:=omega)only[go_sem]
 exact⟨K,_,ik,rfl,SV.all (by rw[iE,Nat.mul_one]) nD gD _,(f1.trans f2).trans F9⟩
theorem Ny {α:Type}(p:α->Bool): ∀l:List α,l.length=(l.filter p).length+(l.filter λg=>!p g).length
 | []=>rfl
 |a::l=>by
  have ih:=Ny p l;cases h:p a
  ·rw[List.filter_cons_of_neg (by simp [h]),List.filter_cons_of_pos (by simp [h]),List.length_cons,List.length_cons];omega
  ·rw[List.filter_cons_of_pos (by simp [h]),List.filter_cons_of_neg (by simp [h]),List.length_cons,List.length_cons];omega
theorem Eh {α:Type}(f:α->Nat): ∀(J:List Nat) (l:List α),J.Nodup->(∀g∈l,f g∈J)->l.length=(J.map λj=>(l.filter λg=>decide (f g=j)).length).sum
 | [],l,_,h=>by
  cases l with
  |nil=>rfl
  |cons a r=>exact absurd (h a (by simp)) (by simp)
 |j::J,l,nd,h=>by
  rw[List.nodup_cons] at nd
  have ih:=Eh f J (l.filter λg=>!decide (f g=j)) nd.2 λg hg=>by
   rw[Vo] at hg;have h2:=h g hg.1;have h3:f g≠j:=by simpa using hg.2
   simpa [h3] using h2
  have e:(J.map λj'=>((l.filter λg=>!decide (f g=j)).filter λg=>decide (f g=j')).length)=J.map λj'=>(l.filter λg=>decide (f g=j')).length:=by
   refine List.map_congr_left λj' hj'=>?_
   rw[List.filter_filter];congr 1;refine List.filter_congr λg _=>?_
   by_cases h1:f g=j'
   ·have:j'≠j:=λe=>nd.1 (e▸hj')
    simp [h1,this]
   ·simp [h1]
  rw[e] at ih;rw[List.map_cons,List.sum_cons,←ih];exact Ny (λg=>decide (f g=j)) l
theorem Oi (c:Nat): ∀J:List Nat,(J.map λ_=>c).sum=J.length*c
 | []=>by simp
 |_::J=>by rw[List.map_cons,List.sum_cons,Oi c J,List.length_cons,Nat.succ_mul,Nat.add_comm]
section
variable {n:Nat} {G:List Nat->Prop} {L:LN} (hG:sC n G) (E:jA G L)
theorem Ak {n:Nat}{x c:List Nat}(X:bT n x)(C:bT n c):kE x c=x↔aW x c=aW c x:=by
 unfold kE;constructor
 ·intro h
  have h2:aW c (aW (aW (eH c) x) c)=aW c x:=by rw[h]
  rwa [←aY C (C.inv.mul X) C,←aY C C.inv X,jG C,fC X] at h2
 ·intro h
  rw[aY C.inv X C,h,←aY C.inv C X,iI C,fC X]
def Kw (L:LN)(x:List Nat):LN:=L.filter λg=>decide (aW x g=aW g x)
include hG E in
theorem Zj {r:Nat}(hr:r<L.length):L.length=(fY G L r).length*(Kw L (L.getD r [])).length:=by
 have X:=jE hG E hr;obtain⟨x,hx⟩:=exI (L.getD r []);have hxG:G x:=by rw[←hx];exact Ci E hr
 rw[hx] at X ⊢;have hcm: ∀g∈L,kE x g∈L:=λg hg=>(E.mem _).2 (ZI hG hxG ⟨g,(E.mem _).1 hg,rfl⟩)
 have hidx: ∀y,y∈L->L.idxOf y<L.length/\L.getD (L.idxOf y) []=y:=λy hy=>by
  have h1:=List.idxOf_lt_length_of_mem hy;exact⟨h1,by rw[List.getD,fS h1];exact List.getElem_idxOf h1⟩
 rw[Eh (λg=>L.idxOf (kE x g)) (fY G L r) L (qC r) λg hg=>by
  obtain⟨h1,h2⟩:=hidx _ (hcm g hg);refine fW.2 ⟨h1,g,(E.mem _).1 hg,?_⟩
  rw[hx,h2],←Oi]
 congr 1;refine List.map_congr_left λj hj=>?_
 obtain⟨hjl,g0,hg0,e0⟩:=fW.1 hj;rw[hx] at e0;have G0:=hG.dY hg0
 have perm:((Kw L x).map λc=>aW c g0).Perm (L.filter λg=>decide (L.idxOf (kE x g)=j)):=by
  refine (List.perm_ext_iff_of_nodup ?_ (List.Pairwise.filter _ E.nodup)).2 λg=>?_
  ·unfold Kw
   refine List.pairwise_map.2 (List.Pairwise.imp_of_mem ?_ (List.Pairwise.filter _ E.nodup));intro a b ha hb hne e;exact hne (Cy (hG.dY ((E.mem _).1 (Vo.1 ha).1)) (hG.dY ((E.mem _).1 (Vo.1 hb).1)) G0 e)
  ·rw[Vo,yH,decide_eq_true_eq]
   unfold Kw;constructor
   ·rintro⟨c,hc,rfl⟩
    rw[Vo,decide_eq_true_eq] at hc;have hcG:=(E.mem _).1 hc.1;have C:=hG.dY hcG;refine⟨(E.mem _).2 (hG.mul hcG hg0),?_⟩;rw[wC X C G0,(Ak X C).2 hc.2,e0];have h1:=hidx (L.getD j []) (bD hjl);exact Pn E.nodup h1.1 hjl h1.2
   ·rintro⟨hg,hi⟩
    have hgG:=(E.mem _).1 hg;have Gp:=hG.dY hgG;have h1:=hidx _ (hcm g hg);rw[hi] at h1;have C:=Gp.mul G0.inv;refine⟨aW g (eH g0),?_,by rw[aY Gp G0.inv G0,iI G0,bZ Gp]⟩;rw[Vo,decide_eq_true_eq];refine⟨(E.mem _).2 (hG.mul hgG (hG.inv hg0)),(Ak X C).1 ?_⟩;rw[wC X Gp G0.inv,←h1.2,←e0,Ga X G0]
 rw[←perm.length_eq,jD]
end
variable {G:List Nat->Prop} {x:List Nat}
def Co (G:List Nat->Prop)(x g:List Nat):Prop:=G g/\aW x g=aW g x
theorem BW {n:Nat}(hG:sC n G)(X:bT n x):sC n (Co G x) where
 dY h:=hG.dY h.1
 one:=⟨hG.one,by rw[bZ X,fC X]⟩
 mul {a b} ha hb:=by
  have A:=hG.dY ha.1;have B:=hG.dY hb.1;exact⟨hG.mul ha.1 hb.1,by rw[←aY X A B,ha.2,aY A X B,hb.2,←aY A B X]⟩
 inv {a} ha:=by
  have A:=hG.dY ha.1;refine⟨hG.inv ha.1,?_⟩;have h1:kE x a=x:=(Ak X A).2 ha.2;have h2:=Ga X A;rw[h1] at h2;exact (Ak X A.inv).1 h2
theorem Si {L:LN}(E:jA G L){g:List Nat}:g∈Kw L x↔Co G x g:=by
 unfold Kw Co;rw[Vo,decide_eq_true_eq,E.mem]
theorem NV {H:List Nat->Prop}{L:LN}(E:jA G L){M:LN}(EH:jA H M)(hle: ∀g,H g->Co G x g)(hl:(Kw L x).length<=M.length)(g:List Nat):H g↔Co G x g:=by
 refine⟨hle g,λhg=>?_⟩;have h1:M ⊆ Kw L x:=λy hy=>(Si E).2 (hle y ((EH.mem y).1 hy))
 have h2:g∈Kw L x:=(Si E).2 hg;refine Ic λhn=>?_
 have hgM:g∉M:=λh=>hn ((EH.mem g).1 h)
 have h3:(g::M).Nodup:=List.nodup_cons.2 ⟨hgM,EH.nodup⟩
 have h4:=List.Nodup.length_le_of_subset h3 (l₂:=Kw L x) λy hy=>by
  rcases List.mem_cons.1 hy with rfl|h5
  ·exact h2
  ·exact h1 h5
 rw[List.length_cons] at h4;omega
theorem SS {W0:Nat->Prop}(vc:V)(z:Int)(n:Nat)(O:LN)(R:kW)(G:List Nat->Prop)(h:H)(gc:GC W0 h vc n O R G)(L:LN)(hL:cG O R n 0 (cH n)=L):
  Ev T 27 [vc,aC z] h (λv h'=> ∃K,Fj n G L K/\Fr h h'/\((z<0∨(K.length:Int)<=z)/\v= .tup [.agg [aC 0,.aB,.aB],aC 2]∨ ∃(k:Nat) (vr:V) (O':LN) (R':kW),z=(k:Int)/\k<K.length/\v= .tup [vr,aC 0]/\GC (λid=>id<h.next) h' vr n O' R' (Co G (L.getD (K.getD k 0) [])))):=by
 obtain⟨vO,vR,e,sO,sR⟩:=gc.ch
 subst e
 refine bH fU rfl rfl ?_
 have oneO:vO.one=true:=Hc sO
 have oneR:vR.one=true:=Eo sR
 obtain⟨A,hA⟩:=exI h.next
 obtain⟨h0,e0,n0',g0,o0,f0⟩:=eQ hA [aC n,vO,vR]
 obtain⟨h1,e1,n1,g1',o1,f1'⟩:=eQ n0' [aC 0,.aB,.aB]
 have f1:=f0.trans f1'
 have g1:h1.get A=some (.cells false [aC n,vO,vR]):=by rw[o1 _ (by omega)];exact g0
 have bx:=bE h (v:= aC n) (u:=vO) (w:=vR) rfl oneO oneR
 have rB:=aJ g1
 simp(disch:=omega)only[go_sem,fU,aE,bx,hA,e0,n0',e1,rB]
 refine (Sf _ n O R G h1 (gc.mono f1)).mono ?_
 rw[hL]
 rintro _ h2 ⟨p,K,rfl,go,ik,f2⟩
 obtain⟨B,M,N,S,cp,vL,ks,rfl,hB,hM,hN,hS,gB,gM,gN,gS,aK,sp⟩:=go.ex
 have F2:=f1.trans f2
 have c2:h2.cell B 2=some (.sl S 0 K.length cp):=by rw[H.aF gB];rfl
 have gA2:h2.get A=some (.cells false [aC n,vO,vR]):=by rw[f2.get _ (by omega)];exact g1
 have gZ2:h2.get (A+1)=some (.cells false [aC 0,.aB,.aB]):=by rw[f2.get _ (by omega)];exact g1'
 have pz: ∀(hh:H) (u v w x y z':V),eG (some (.cells false [x,y,z'])) hh (A+1) 0 [u,v,w]=some (hh.set (A+1) (some (.cells false [u,v,w]))):=λhh u v w x y z'=>cE hh _
 have n2':=f2.next
 have st0: ∀hh:H,Pj hh 3 (.ptr (A+1) 0) (.agg [aC 0,.aB,.aB])=eG (hh.get (A+1)) hh (A+1) 0 [aC 0,.aB,.aB]:=λhh=>cU hh _ _ rfl rfl rfl
 obtain⟨hz3,ez3,nz3,gz3,oz3⟩:=uA h2 (A+1) [aC 0,.aB,.aB]
 have fz:Fr h hz3:=⟨by have:=F2.next;omega,λq hq=>by rw[oz3 q (by omega)];exact F2.get q hq⟩
 have c0: ∀h',Fr h2 h'->h'.cell B 0=some vL:=λh' f=>by rw[f.cell hB,H.aF gB];rfl
 simp(disch:=omega)only[go_sem]
 refine aX (λhc=>(hc rfl).elim) (λ_=>?_)
 by_cases hz:z<0
 ·have d1:decide (z<0)=true:=decide_eq_true hz
  simp(disch:=omega)only[go_sem,d1,kV,Dv,st0,gZ2,pz,ez3,aJ gz3]
  exact⟨K,ik,fz,.inl ⟨.inl hz,trivial⟩⟩
 have d1:decide (z<0)=false:=decide_eq_false hz
 by_cases hk:(K.length:Int)<=z
 ·have d2:=iB hk
  simp(disch:=omega)only[go_sem,d1,d2,c2,Dv,st0,gZ2,pz,ez3,aJ gz3]
  exact⟨K,ik,fz,.inl ⟨.inr hk,trivial⟩⟩
 have d2:=eS hk
 obtain⟨k,rfl⟩: ∃k:Nat,z=(k:Int):=⟨z.toNat,by omega⟩
 have hk':k<K.length:=by omega
 have hlk:=aZ.length aK
 have hkl:k<ks.length:=by omega
 obtain⟨a,ea⟩:=exI (ks[k])
 have ka:=aZ.get aK k hkl hk'
 rw[ea,←Pm.bG hk'] at ka
 obtain⟨r,hr⟩:=exI (K.getD k 0)
 rw[hr] at ka
 have cSj: ∀j,j<4->h2.cell S (k*4+j)=a.enc[j]? :=λj hj=>by
  have h3:=pU (pre:= []) (by simpa using gS) hkl;rw[ea] at h3;simp only[List.length_nil,Nat.zero_add] at h3;have h4:h2.cell S (k*4+j)=(Cls.nP ks)[k*4+j]? :=H.aF gS _;unfold H.row at h3;rw[gS] at h3;simp only[sub] at h3;split at h3
  ·rw[h4]
   have h5:=congrArg (λo=>o.map λl=>l[j]?) h3;simpa [List.getElem?_take,List.getElem?_drop,hj] using h5
  ·cases h3
 have cS0:h2.cell S (k*4)=some a.rep:=cSj 0 (by omega)
 have cS2:h2.cell S (k*4+2)=some (aC (a.size:Int)):=cSj 2 (by omega)
 have E:=(eE gc.kP gc.isc).1
 have h4l:=(eE gc.kP gc.isc).2
 have h5l:=kU gc
 rw[hL] at E h4l
 have hG:=gc.kP
 have hrK:r∈bY G L L.length:=by rw[←hr];exact ik.perm.mem_iff.1 (bD hk')
 have hrl:=(kY.1 hrK).1
 have os:=Zj hG E hrl
 obtain⟨c,hc⟩:=exI ((Kw L (L.getD r [])).length)
 obtain⟨b,hb⟩:=exI ((fY G L r).length)
 have hb0:0<b:=by rw[←hb];exact (Ge hG E hrl (kY.1 hrK).2).1
 rw[hc,hb] at os
 rw[ka.size,hb] at cS2
 have hbz:(b:Int)≠0:=by omega
 have hdv:(L.length:Int).tdiv (b:Int)=(c:Int):=by
  rw[Int.tdiv_eq_ediv_of_nonneg (by omega),os];rw[Int.natCast_mul,Int.mul_ediv_cancel_left _ hbz]
 obtain⟨wL,svL,aL⟩:=sp
 have hwL:=aZ.length aL
 rw[jD] at hwL
 have lvL:cY vL=some (aC (L.length:Int)):=by unfold cY;rw[SV.len svL (n:=L.length) (by omega) (by omega)];rfl
 obtain⟨idL,offL,shL,hidL,hcL⟩:=SV.shape svL L.length (by omega) (by omega)
 have hel: ∀x,x<L.length->SI h2 (wL.getD x .undef) (zi (L.getD x [])):=λx hx=>Bg aL hx
 have cA0:h2.cell A 0=some (aC n):=by rw[H.aF gA2];rfl
 have hcb:c<=L.length:=by
  rw[os];exact Nat.le_mul_of_pos_left _ hb0
 simp(disch:=omega)only[go_sem,d1,d2,c2,cS0,cS2,c0 h2 (Fr.refl _),lvL,hbz,hdv,cA0]
 have n7:=gc.n7
 have n0:=gc.n0
 refine (BD .aB n [] _ n0 n7 (by simp) ⟨[],SV.aB _ _,trivial⟩ (λg hg=>by cases hg)).mono ?_
 rintro _ h3 ⟨vc,O1,R1,rfl,gc3,f3'⟩
 have f3:Fr h2 h3:=((Fr.refl h2).bF (by omega)).trans f3'
 have n3b:h2.next+16<=h3.next:=f3'.next
 obtain⟨vO1,vR1,e,sO1,sR1⟩:=gc3.ch
 subst e
 have oneO1:vO1.one=true:=by obtain⟨_,t,_⟩:=sO1;exact t.cJ.2.1
 have oneR1:vR1.one=true:=by obtain⟨_,t,_⟩:=sR1;exact t.cJ.2.1
 obtain⟨Y,hY⟩:=exI h3.next
 obtain⟨h4,e4,n4,g4,o4,f4⟩:=eQ hY [aC 0,.aB,.aB]
 obtain⟨h5,e5,n5,g5,o5⟩:=uA h4 Y [aC n,vO1,vR1]
 have st1: ∀(hh:H) (u w:V),u.one=true->w.one=true->Pj hh 3 (.ptr Y 0) (.agg [aC n,u,w])=eG (hh.get Y) hh Y 0 [aC n,u,w]:=λhh u w h1 h2=>cU hh _ _ rfl h1 h2
 have py: ∀(hh:H) (u v w x y z':V),eG (some (.cells false [x,y,z'])) hh Y 0 [u,v,w]=some (hh.set Y (some (.cells false [u,v,w]))):=λhh u v w x y z'=>cE hh _
 have F25:Fr h2 h5:=⟨by have:=f3.next;omega,λq hq=>by rw[o5 q (by omega),o4 q (by omega)];exact f3.get q hq⟩
 simp(disch:=omega)only[go_sem,hY,e4,st1 h4 _ _ oneO1 oneR1,g4,py,e5,c0 h5 F25,lvL]
 have X:=jE hG E hrl
 obtain⟨x,hx⟩:=exI (L.getD r [])
 rw[hx] at X hc
 have srep:=ka.rep
 rw[hx] at srep
 have CG:=BW hG X
 have g35:GC (λid=>id<A+2∨id=Y) h5 (.agg [aC n,vO1,vR1]) n O1 R1 (fG n (· ∈([]:LN))):=
  gc3.go ⟨by omega,λq h1 h2'=>by rw[o5 q (by omega),o4 q (by omega)]⟩ λid h1 h2'=>by show id<h2.next+16;rcases h2' with h3|h3<;>omega
 refine bJ (λvs hh=> ∃(vO' vR':V) (O':LN) (R':kW) (Hh:List Nat->Prop),(∃g:Nat->V,vs= [g 0,g 1,g 2,.ptr (A+1) 0,g 4,g 5,g 6,g 7,g 8,.ptr Y 0,g 10,g 11,g 12,g 13,g 14,g 15,g 16,g 17,g 18,g 19,g 20,g 21,g 22])/\hh.get Y=some (.cells false [aC n,vO',vR'])/\GC (λid=>id<A+2∨id=Y) hh (.agg [aC n,vO',vR']) n O' R' Hh/\(∀g,Hh g↔Co G x g)/\Y<hh.next/\Fx (· =Y) h5 hh) ?_ ?_
 ·refine aH (λk' vs hh=> ∃(t:Nat) (vO' vR':V) (O':LN) (R':kW) (Hh:List Nat->Prop),(∃g:Nat->V,vs= [g 0,g 1,.ptr A 0,.ptr (A+1) 0,g 4,.ptr B 0,g 6,a.rep,aC c,.ptr Y 0,g 10,g 11,g 12,g 13,g 14,g 15,vL,aC (L.length:Int),aC t,g 19,g 20,g 21,g 22])/\t<=L.length/\hh.get Y=some (.cells false [aC n,vO',vR'])/\GC (λid=>id<A+2∨id=Y) hh (.agg [aC n,vO',vR']) n O' R' Hh/\(∀g,Hh g->Co G x g)/\(∀s,s<t->Co G x (L.getD s [])->Hh (L.getD s []))/\Y<hh.next/\Fx (· =Y) h5 hh/\k'=L.length-t) L.length
   ⟨0,vO1,vR1,O1,R1,_,aA rfl,iP _,g5,g35,λg hg=>hg.le CG λy hy=>(by cases hy),λs hs=>by omega,by omega,Fx.refl _ _,rfl⟩ ?_
  clear g35 gc3 e5 g5 e4 g4 sO1 sR1
  rintro k' vars h6 ⟨t,vO',vR',O',R',Hh,⟨g,rfl⟩,ht,gY,gcH,hle,hall,nY,F6,rfl⟩
  by_cases hlt:(t:Int)<(L.length:Int)
  case neg=>
   have d4:=eS hlt;obtain rfl:t=L.length:=by omega
   simp(disch:=omega)only[go_sem,d4];refine⟨vO',vR',O',R',Hh,aA rfl,gY,gcH,λg=>⟨hle g,λhg=>?_⟩,nY,F6⟩;obtain⟨i,hi,ei⟩:=Dt.1 ((E.mem g).2 hg.1);have ei':L.getD i []=g:=by rw[List.getD,fS hi,←ei];rfl
   have:=hall i hi;rw[ei'] at this;exact this hg
  have d4:=iB hlt
  have ht':t<L.length:=by omega
  have n6:=F6.next
  have F26:Fr h2 h6:=⟨by have:=F25.next;omega,λq hq=>by rw[F6.get q (by omega) (λh1=>by have:q=Y:=h1;omega)];exact F25.get q hq⟩
  have cl: ∀h',Fr h2 h'->h'.cell idL (offL+t)=some (wL.getD t .undef):=λh' f=>by
   rw[f.cell (hidL (by omega)),hcL t (by omega)];simp [List.getD,show t<wL.length by omega]
  have se:=hel t ht'
  have sH:=gcH.ch
  generalize hv:wL.getD t .undef=ve at cl se
  obtain⟨y,hy⟩:=exI (L.getD t [])
  have Yp:=jE hG E ht'
  have yG:=Ci E ht'
  rw[hy] at se Yp yG
  have rY:=aJ gY
  simp(disch:=omega)only[go_sem,d4,shL.ixa,cl h6 F26,rY]
  refine (UE _ n O' R' Hh h6 gcH).mono ?_
  rintro _ h7 ⟨rfl,f7⟩
  have F27:=F26.trans f7
  have gY7:h7.get Y=some (.cells false [aC n,vO',vR']):=by rw[f7.get _ nY];exact gY
  have F67:Fx (· =Y) h5 h7:=⟨by have:=f7.next;omega,λq h1 h2'=>by rw[f7.get q (by omega)];exact F6.get q h1 h2'⟩
  obtain⟨EH,EHl⟩:=eE gcH.kP gcH.isc
  by_cases hsz:((tX O' n 0:Nat):Int)=(c:Int)
  ·have d5:decide (((tX O' n 0:Nat):Int)=(c:Int))=true:=decide_eq_true hsz
   simp(disch:=omega)only[go_sem,d5]
   exact⟨vO',vR',O',R',Hh,aA rfl,gY7,gcH.mono f7,NV E EH hle (by rw[hc,EHl];omega),by have:=f7.next;omega,F67⟩
  have d5:decide (((tX O' n 0:Nat):Int)=(c:Int))=false:=decide_eq_false hsz
  simp(disch:=omega)only[go_sem,d5]
  refine (tC a.rep ve x y h7 (by rw[X.len];omega) (srep.mono F27) (se.mono F27) (λj hj=>by rw[Yp.len];exact X.eX (by rw[←X.len];exact hj))).mono ?_
  rintro v1 h8 np1
  simp(disch:=omega)only[go_sem]
  have F28:=F27.trans np1.fr
  refine (tC ve a.rep y x h8 (by rw[Yp.len];omega) (se.mono F28) (srep.mono F28) (λj hj=>by rw[X.len];exact Yp.eX (by rw[←Yp.len];exact hj))).mono ?_
  rintro v2 h9 np2
  simp(disch:=omega)only[go_sem]
  have F29:=F28.trans np2.fr
  refine (Gc (rfl:T 57=some iS) v1 v2 _ _ h9 (((np1.pv (W:=λ_=>False) id).si).mono np2.fr) (np2.pv (W:=λ_=>False) id).si (by rw[aP,dR,X.len];omega) (by rw[aP,dR,Yp.len];omega)).mono ?_
  rintro _ ha ⟨rfl,fa⟩
  have F7a:=(np1.fr.trans np2.fr).trans fa
  have F2a:=F27.trans F7a
  have F5a:Fx (· =Y) h5 ha:=⟨by have:=F7a.next;have:=F67.next;omega,λq h1 h2'=>by rw[F7a.get q (by have:=F67.next;omega)];exact F67.get q h1 h2'⟩
  have nY7:Y<h7.next:=by have:=f7.next;omega
  have gYa:ha.get Y=some (.cells false [aC n,vO',vR']):=by rw[F7a.get _ nY7];exact gY7
  have gcA:=gcH.mono (f7.trans F7a)
  have nYa:Y<ha.next:=by have:=F7a.next;omega
  have hzi:(zi (aW x y)=zi (aW y x))↔aW x y=aW y x:=by
   constructor
   ·intro h1
    exact List.map_inj_right (λu v h2=>by omega)|>.1 h1
   ·intro h1;rw[h1]
  by_cases hcm:aW x y=aW y x
  case neg=>
   have d6:decide (zi (aW x y)=zi (aW y x))=false:=decide_eq_false λh1=>hcm (hzi.1 h1)
   simp(disch:=omega)only[go_sem,d6];rw[fA t];refine⟨L.length-(t+1),by omega,t+1,vO',vR',O',R',Hh,aA rfl,by omega,gYa,gcA,hle,λs hs h1=>?_,nYa,F5a,rfl⟩
   by_cases es:s=t
   ·subst es
    rw[hy] at h1;exact absurd h1.2 hcm
   ·exact hall s (by omega) h1
  have d6:decide (zi (aW x y)=zi (aW y x))=true:=decide_eq_true (hzi.2 hcm)
  simp(disch:=omega)only[go_sem,d6,aJ gYa]
  refine (aaJ _ ve n O' R' Hh y ha gcA (se.mono F2a) Yp).mono ?_
  rintro _ hb' ⟨bq,rfl,hbq,fb⟩
  have F2b:=F2a.trans fb
  have gYb:hb'.get Y=some (.cells false [aC n,vO',vR']):=by rw[fb.get _ nYa];exact gYa
  have gcB:=gcA.mono fb
  have nYb:Y<hb'.next:=by have:=fb.next;omega
  have F5b:Fx (· =Y) h5 hb':=⟨by have:=fb.next;have:=F5a.next;omega,λq h1 h2'=>by rw[fb.get q (by have:=F5a.next;omega)];exact F5a.get q h1 h2'⟩
  cases bq with
  |true=>
   simp(disch:=omega)only[go_sem];rw[fA t];refine⟨L.length-(t+1),by omega,t+1,vO',vR',O',R',Hh,aA rfl,by omega,gYb,gcB,hle,λs hs h1=>?_,nYb,F5b,rfl⟩
   by_cases es:s=t
   ·subst es;rw[hy];exact hbq.1 rfl
   ·exact hall s (by omega) h1
  |false=>
   simp(disch:=omega)only[go_sem,aJ gYb];refine (Mq _ n O' R' Hh hb' gcB).mono ?_;rintro _ hc' ⟨vS,rfl,nS⟩;have fc:=nS.fr;have F2c:=F2b.trans fc;obtain⟨wS,WS,owS,pvS,bkS,WS1⟩:=nS.ex;obtain⟨S',hS'⟩:=exI (gG R');have spS:=nS.sp;rw[hS'] at pvS spS;have hwS:=aZ.length pvS
   have hsl7:S'.length<=49:=by
    have h1: ∀j,j<R'.length->(R'.getD j []).length<=n:=λj hj=>by
     have hj':j<n:=by rw[←gcB.isc.lr];exact hj
     rw[gcB.isc.rl j hj'];have:=oX (λx hx=>gcB.kP.dY hx) hj' (gcB.isc.asc j hj') (gcB.isc.mem j hj');omega
    have h2:=xV (n:=n) (R:=R') (fZ _) h1;rw[List.take_length,hS',gcB.isc.lr] at h2;have:n*n<=7*7:=Nat.mul_le_mul n7 n7;omega
   obtain⟨Q,hQ⟩:=exI hc'.next;have cAf: ∀h',Fr h2 h'->h'.cell A 0=some (aC n):=λh' f=>by rw[f.cell (by omega)];exact cA0
   simp(disch:=omega)only[go_sem,cAf hc' F2c,cT _ (z:= .aB) se.cJ.1 se.cJ.2.1,hQ]
   obtain⟨hd,hde⟩: ∃hd:H,hd=H.mk ((H.mk hc'.tr (Q+4)).new (Ob.cells false [ve])).tr (Q+11):=⟨_,rfl⟩
   rw[←hde];have gd:hd.get (Q+4)=some (.cells false [ve]):=by rw[hde];exact H.aN (H.mk hc'.tr (Q+4)) _
   have nd':hd.next=Q+11:=by rw[hde]
   have od: ∀q,q≠Q+4->hd.get q=hc'.get q:=λq hq=>by rw[hde];exact H.bI (H.mk hc'.tr (Q+4)) (by simpa using hq) _
   have Fcd:Fr hc' hd:=⟨by omega,λq hq=>od q (by omega)⟩
   obtain⟨he,ae,pe'⟩:=(owS.fr Fcd).push (bytes:=24) (SV.one (v:=ve) (id:=Q+4) (by omega) gd (.kn 1)) (n:=S'.length) (m:=1) (by omega) rfl (by omega) (by omega) (by omega);have ne':=pe'.next;have nb':=fc.next;have apS: ∀q,q<hb'.next->dV vS q:=λq hq id off n' c e e2=>by have:=(owS.in _ _ _ _ e).2.1;omega
   have Fbe:Fr hb' he:=⟨by omega,λq hq=>by rw[pe'.old q (by omega) (apS q hq),od q (by omega)];exact fc.get q hq⟩
   have F2e:=F2b.trans Fbe;have gYe:he.get Y=some (.cells false [aC n,vO',vR']):=by rw[Fbe.get _ nYb];exact gYb
   have oe: ∀q,q<hc'.next-> ¬WS q->he.get q=hc'.get q:=λq h1 h2'=>by
    rw[pe'.old q (by omega) (λid off n' c e e2=>h2' (e2▸bkS _ _ _ _ e)),od q (by omega)]
   have FxS:Fx WS hc' he:=⟨by omega,oe⟩
   have spE:SP he (.sl hd.next 0 (S'.length+1) (.un 1)) (S'++ [y]):=by
    refine⟨wS++ [ve],SV.all (by rw[oL,hwS];simp) (by omega) pe'.get _,?_⟩;rw[List.map_append];refine aZ.append (aZ.lJ (by rw[jD];exact hwS) λi h1 h2'=>?_) ⟨se.mono F2e,trivial⟩;have h3:=(aZ.get pvS i h1 (by omega)).fx FxS;rw[List.getElem_map];exact h3.si
   simp(disch:=omega)only[go_sem,ae,cAf he F2e]
   refine (BD _ n (S'++ [y]) he n0 n7 (by rw[oL];simp;omega) spE (λg hg=>by
    rcases Af.1 hg with h1|h1
    ·exact gcB.kP.dY (sJ gcB.isc (by rw[hS'];exact h1))
    ·obtain rfl:g=y:=by simpa using h1
     exact Yp)).mono ?_
   rintro _ hf ⟨vc2,O2,R2,rfl,gc2,ff⟩;obtain⟨vO2,vR2,e2,sO2,sR2⟩:=gc2.ch;subst e2;have oneO2:vO2.one=true:=by obtain⟨_,t,_⟩:=sO2;exact t.cJ.2.1
   have oneR2:vR2.one=true:=by obtain⟨_,t,_⟩:=sR2;exact t.cJ.2.1
   have nf:=ff.next;have F2f:=F2e.trans ff;have gYf:hf.get Y=some (.cells false [aC n,vO',vR']):=by rw[ff.get _ (by omega)];exact gYe
   obtain⟨hg,eg,ng,gg,og⟩:=uA hf Y [aC n,vO2,vR2]
   have cAg:hg.cell A 0=some (aC n):=by
    have h1:=cAf hf F2f;unfold H.cell at h1 ⊢;rw[og A (by omega)];exact h1
   simp(disch:=omega)only[go_sem,st1 hf _ _ oneO2 oneR2,gYf,py,eg,cAf hf F2f,cAg];rw[fA t];refine⟨L.length-(t+1),by omega,t+1,vO2,vR2,O2,R2,fG n (· ∈S'++ [y]),aA rfl,by omega,gg,gc2.go ⟨by omega,λq h1 h2'=>og q (λe=>h2' (by show q<he.next;omega))⟩ (λid h1 h2'=>by show id<he.next;rcases h2' with h3|h3<;>omega),λg hg=>hg.le CG λz hz=>?_,λs hs h1=>?_,by omega,⟨by have:=F5b.next;omega,λq h1 h2'=>?_⟩,rfl⟩
   ·rcases Af.1 hz with h1|h1
    ·exact hle _ (sJ gcB.isc (by rw[hS'];exact h1))
    ·obtain rfl:z=y:=by simpa using h1
     exact⟨yG,hcm⟩
   ·by_cases es:s=t
    ·subst es
     rw[hy]
     exact fG.of (λg hg=>by
      rcases Af.1 hg with h1|h1
      ·exact gcB.kP.dY (sJ gcB.isc (by rw[hS'];exact h1))
      ·obtain rfl:g=y:=by simpa using h1
       exact Yp) (by simp)
    ·refine fG.mono (λg hg=>?_) (Ll gcB.kP gcB.isc (hall s (by omega) h1))
     rw[hS'] at hg;exact Af.2 (.inl hg)
   ·rw[og q (λe=>h2' e),ff.get q (by have:=F5b.next;have:=Fbe.next;omega),Fbe.get q (by have:=F5b.next;omega)]
    exact F5b.get q h1 h2'
 rintro vars h6 ⟨vO',vR',O',R',Hh,⟨g,rfl⟩,gY,gcH,hiff,nY,F6⟩
 obtain⟨_,_,e2,sO2,sR2⟩:=gcH.ch
 have oneO2:vO'.one=true:=by
  cases e2;obtain⟨_,t,_⟩:=sO2;exact t.cJ.2.1
 have oneR2:vR'.one=true:=by
  cases e2;obtain⟨_,t,_⟩:=sR2;exact t.cJ.2.1
 have n6:=F6.next
 have n25:=F25.next
 have gZ6:h6.get (A+1)=some (.cells false [aC 0,.aB,.aB]):=by rw[F6.get _ (by omega) (λh1=>by have:A+1=Y:=h1;omega),F25.get _ (by omega)];exact gZ2
 obtain⟨h7,e7,n7',g7,o7⟩:=uA h6 (A+1) [aC n,vO',vR']
 have stz:Pj h6 3 (.ptr (A+1) 0) (.agg [aC n,vO',vR'])=eG (h6.get (A+1)) h6 (A+1) 0 [aC n,vO',vR']:=cU h6 _ _ rfl oneO2 oneR2
 simp(disch:=omega)only[go_sem,aJ gY,stz,gZ6,pz,e7,aJ g7]
 have F26:Fr h2 h6:=⟨by omega,λq hq=>by rw[F6.get q (by omega) (λh1=>by have:q=Y:=h1;omega)];exact F25.get q hq⟩
 have F7:Fr h h7:=⟨by have:=F2.next;omega,λq hq=>by rw[o7 q (by omega)];exact (F2.trans F26).get q hq⟩
 refine⟨K,ik,F7,.inr ⟨k,_,O',R',rfl,hk',rfl,?_⟩⟩
 rw[hr,hx]
 have g8:=gcH.go (W':=λid=>id<h.next) (h':=h7) ⟨by omega,λq h1 h2'=>o7 q (λe=>h2' (.inl (by omega)))⟩ λid h1 h2'=> .inl (by have:id<h.next:=h2';omega)
 rw[hA] at g8
 exact⟨g8.cw,g8.isc.congr hiff,CG,n0,n7⟩
theorem KG (vc vi:V)(d:Int)(O:List (List Int))(R:List (List (List Int)))(h:H)(hc:Az h vc d O R)(hd:d<=7∨64<d)(so:lF O)(sr:lH R)(hb:kI d O R≠0):
  Ev T 27 [vc,vi] h (λv h'=>v= .tup [.agg [aC 0,.aB,.aB],aC (kI d O R)]/\Fr h h'):=by
 have hc0:=hc
 obtain⟨vO,vR,e,sO,sR⟩:=hc
 subst e
 refine bH fU rfl rfl ?_
 have oneO:vO.one=true:=Hc sO
 have oneR:vR.one=true:=Eo sR
 obtain⟨B,hB⟩:=exI h.next
 obtain⟨h0,e0,n0,g0,o0,f0⟩:=eQ hB [aC d,vO,vR]
 obtain⟨h1,e1,n1,g1,o1,f1⟩:=eQ n0 [aC 0,.aB,.aB]
 have gB:h1.get B=bQ [aC d,vO,vR]:=by rw[o1 _ (by omega)];exact g0
 have bx:=bE h (v:= aC d) (u:=vO) (w:=vR) rfl oneO oneR
 have rB:=aJ gB
 simp(disch:=omega)only[go_sem,fU,aE,bx,hB,e0,n0,e1,rB]
 refine (HO _ d O R h1 (hc0.mono (f0.trans f1)) hd so sr hb).mono ?_
 rintro _ h2 ⟨rfl,f2⟩
 simp(disch:=omega)only[go_sem]
 refine aX (λ_=>?_) (λhc=>(hc hb).elim)
 have n2:=f2.next
 have gZ2:h2.get (B+1)=bQ [aC 0,.aB,.aB]:=by rw[f2.get _ (by omega)];exact g1
 have st0: ∀hh:H,Pj hh 3 (.ptr (B+1) 0) (.agg [aC 0,.aB,.aB])=eG (hh.get (B+1)) hh (B+1) 0 [aC 0,.aB,.aB]:=λhh=>cU hh _ _ rfl rfl rfl
 obtain⟨h3,e3,n3,g3,o3⟩:=uA h2 (B+1) [aC 0,.aB,.aB]
 simp(disch:=omega)only[go_sem,Dv,st0,gZ2,cE,e3,aJ g3]
 exact⟨by omega,λq hq=>by rw[o3 q (by omega),f2.get q (by omega),o1 q (by omega),o0 q (by omega)]⟩
structure Plc (l:LN)(x:List Nat)(k:Nat):Prop where
 le:k<=l.length
 lo: ∀i,i<k->sQ (l.getD i []) x=true
 hi: ∀i,k<=i->i<l.length->sQ (l.getD i []) x=false
theorem HL (vl vx:V)(n:Nat)(l:LN)(x:List Nat)(h:H)(hn:n<1000)(hl:l.length<1000000)(hP: ∀g∈l,bT n g)(X:bT n x)(asc:l.Pairwise Lt)(hv:SP h vl l)(hx:SI h vx (zi x)):
  Ev T 65 [vl,vx] h (λv h'=> ∃k:Nat,v= .tup [aC k,.bool (decide (x∈l))]/\Plc l x k/\(x∈l->k<l.length/\l.getD k []=x)/\Fr h h'):=by
 obtain⟨ws,sv,al⟩:=hv
 have hws:=aZ.length al
 rw[jD] at hws
 refine bH zJ rfl rfl ?_
 have lv:cY vl=some (aC (l.length:Int)):=by unfold cY;rw[SV.len sv (n:=l.length) (by omega) (by omega)];rfl
 obtain⟨id,off,sh,hid,hc⟩:=SV.shape sv l.length (by omega) (by omega)
 have hlen: ∀i,i<l.length->(l.getD i []).length=n:=λi hi=>(hP _ (bD hi)).len
 have mono: ∀i j,i<j->j<l.length->Lt (l.getD i []) (l.getD j []):=λi j h1 h2=>by
  have ei:l.getD i []=l[i]:=by rw[List.getD,fS (by omega)];rfl
  have ej:l.getD j []=l[j]:=by rw[List.getD,fS h2];rfl
  rw[ei,ej];exact List.pairwise_iff_getElem.1 asc i j (by omega) h2 h1
 have cell: ∀hh,Fr h hh-> ∀i,i<l.length->hh.cell id (off+i)=some (ws.getD i .undef):=λhh f i hi=>by
  rw[f.cell (hid (by omega)),hc i (by omega)];simp [List.getD,show i<ws.length by omega]
 simp(disch:=omega)only[go_sem,zJ,aE,lv]
 refine bJ (λvs hh=> ∃k,(∃g:Nat->V,vs= [vl,vx,g 2,g 3,aC (k:Nat),g 5,g 6,g 7,g 8])/\Plc l x k/\Fr h hh) ?_ ?_
 ·refine aH (λk' vars hh=> ∃(i j:Nat),(∃g:Nat->V,vars= [vl,vx,g 2,g 3,aC i,aC j,g 6,g 7,g 8])/\i<=j/\j<=l.length/\(∀q,q<i->sQ (l.getD q []) x=true)/\(∀q,j<=q->q<l.length->sQ (l.getD q []) x=false)/\Fr h hh/\k'=j-i) l.length
   ⟨0,l.length,aA rfl,by omega,by omega,λm hm=>by omega,λm h1 h2=>by omega,Fr.refl h,rfl⟩ ?_
  rintro k' vars hh ⟨i,j,⟨g,rfl⟩,hij,hj,hlo,hhi,F,rfl⟩
  by_cases hlt:(i:Int)<(j:Int)
  case neg=>
   have e1:=eS hlt;obtain rfl:i=j:=by omega
   simp(disch:=omega)only[go_sem,e1];exact⟨i,aA rfl,⟨hj,hlo,hhi⟩,F⟩
  have e1:=iB hlt
  obtain⟨m,hm⟩:=exI ((i+j)/2)
  have ea:(i:Int)+(j:Int)=((i+j:Nat):Int):=by omega
  have ed:((i+j:Nat):Int).tdiv 2=(m:Int):=by rw[Int.tdiv_eq_ediv_of_nonneg (by omega)];omega
  have cm:=cell hh F m (by omega)
  have sm:=Bg al (i:=m) (by omega)
  generalize ws.getD m .undef=vm at cm sm
  simp(disch:=omega)only[go_sem,e1,ea,ed,sh.ixa,cm]
  refine (BI vm vx n _ x hh (by omega) (hlen m (by omega)) X.len (sm.mono F) (hx.mono F)).mono ?_
  rintro _ h3 ⟨rfl,f3⟩
  cases hl2:sQ (l.getD m []) x with
  |true=>
   simp(disch:=omega)only[go_sem];rw[fA m];refine⟨j-(m+1),by omega,m+1,j,aA rfl,by omega,hj,λq hq=>?_,hhi,F.trans f3,rfl⟩
   by_cases e:q=m
   ·rw[e];exact hl2
   ·have h1:=mono q m (by omega) (by omega)
    have h2:=(mP (by rw[hlen m (by omega),X.len])).1 hl2;exact (mP (by rw[hlen q (by omega),X.len])).2 (Lt.trans (by rw[hlen q (by omega),hlen m (by omega)]) h1 h2)
  |false=>
   simp(disch:=omega)only[go_sem];refine⟨m-i,by omega,i,m,aA rfl,by omega,by omega,hlo,λq h1 h2=>?_,F.trans f3,rfl⟩
   by_cases e:q=m
   ·rw[e];exact hl2
   ·rw[←Bool.not_eq_true]
    intro h3;have h4:=mono m q (by omega) h2;have h5:=(mP (by rw[hlen q h2,X.len])).1 h3;rw[(mP (by rw[hlen m (by omega),X.len])).2 (Lt.trans (by rw[hlen q h2,hlen m (by omega)]) h4 h5)] at hl2;cases hl2
 rintro vars h2 ⟨k,⟨g,rfl⟩,pk,F⟩
 have hmem:x∈l->k<l.length/\l.getD k []=x:=λhx2=>by
  obtain⟨q,hq,eq⟩:=Dt.1 hx2;have eq':l.getD q []=x:=by rw[List.getD,fS hq,←eq];rfl
  have h1:k<=q:=Nat.le_of_not_lt λh3=>by
   have:=pk.lo q h3;rw[eq',wU] at this;cases this
  have h2:k=q:=Nat.le_antisymm h1 (Nat.le_of_not_lt λh3=>by
   have h4:=mono k q h3 hq;rw[eq'] at h4;have h5:=pk.hi k (fZ _) (by omega);rw[(mP (by rw[hlen k (by omega),X.len])).2 h4] at h5
   cases h5)
  exact⟨by omega,by rw[h2];exact eq'⟩
 by_cases hk:(k:Int)<(l.length:Int)
 ·have e1:=iB hk
  have cm:=cell h2 F k (by omega)
  have sm:=Bg al (i:=k) (by omega)
  generalize ws.getD k .undef=vm at cm sm
  simp(disch:=omega)only[go_sem,lv,e1,sh.ixa,cm]
  refine (Ad vm vx _ _ h2 (sm.mono F) (hx.mono F) (by rw[aP,hlen k (by omega)];omega) (by rw[aP,X.len];omega)).mono ?_
  rintro _ h3 ⟨rfl,f3⟩
  have ed:decide (zi (l.getD k [])=zi x)=decide (x∈l):=by
   rw[decide_eq_decide];constructor
   ·intro h4
    have h5:l.getD k []=x:=List.map_inj_right (λu v h2=>by omega)|>.1 h4;rw[←h5];exact bD (by omega)
   ·intro h4;rw[(hmem h4).2]
  simp(disch:=omega)only[go_sem,ed]
  exact⟨k,rfl,pk,hmem,F.trans f3⟩
 ·have e1:=eS hk
  have ed:decide (x∈l)=false:=decide_eq_false λh4=>by have:=(hmem h4).1;omega
  simp(disch:=omega)only[go_sem,lv,e1]
  exact⟨k,by rw[ed],pk,hmem,F⟩
theorem LV (vl vx:V)(n:Nat)(l:LN)(x:List Nat)(h:H)(hn:n<1000)(hl:l.length<1000000)(hP: ∀g∈l,bT n g)(X:bT n x)(asc:l.Pairwise Lt)(hv:SP h vl l)(hx:SI h vx (zi x)):
  Ev T 39 [vl,vx] h (λv h'=>((∃k:Nat,v= aC k/\k<l.length/\l.getD k []=x)∨x∉l/\v= aC (-1))/\Fr h h'):=by
 refine bH yZ rfl rfl ?_
 simp(disch:=omega)only[go_sem,yZ,aE]
 refine (HL vl vx n l x h hn hl hP X asc hv hx).mono ?_
 rintro _ h2 ⟨k,rfl,pk,hm,F⟩
 by_cases hx2:x∈l
 ·have e1:decide (x∈l)=true:=decide_eq_true hx2
  simp(disch:=omega)only[go_sem,e1]
  exact⟨.inl ⟨k,rfl,hm hx2⟩,F⟩
 ·have e1:decide (x∈l)=false:=decide_eq_false hx2
  simp(disch:=omega)only[go_sem,e1]
  exact⟨.inr ⟨hx2,trivial⟩,F⟩
theorem De {g:Nat}(hgt:T g=some iG)(u w:V)(a b:List (List Int))(h:H)(hu:SR h u a)(hw:SR h w b)(la:a.length<1000000)(lb:b.length<1000000)(ra: ∀x∈a,x.length<1000000)(rb: ∀x∈b,x.length<1000000):
  Ev T g [u,w] h (λv h'=>v= .bool (decide (a=b))/\Fr h h'):=by
 refine Hf hgt rfl ?_
 have lu:=hu.lens
 have lw:=hw.lens
 obtain⟨wa,sa,aa⟩:=hu
 obtain⟨wb,sb,ab⟩:=hw
 have hwa:=aZ.length aa
 have hwb:=aZ.length ab
 obtain⟨id,off,sh,hid,hc⟩:=SV.shape sa a.length (by omega) (by omega)
 obtain⟨id2,off2,sh2,hid2,hc2⟩:=SV.shape sb b.length (by omega) (by omega)
 by_cases hl:(a.length:Int)=(b.length:Int)
 case neg=>
  have d1:decide ((a.length:Int)≠(b.length:Int))=true:=decide_eq_true hl;simp(disch:=omega)only[go_sem,iG,aE,lu,lw,d1];exact⟨by rw[decide_eq_false];intro e;exact hl (by rw[e]),Fr.refl h⟩
 have hl':a.length=b.length:=by omega
 have d1:decide ((a.length:Int)≠(b.length:Int))=false:=decide_eq_false (by simpa using hl)
 simp(disch:=omega)only[go_sem,iG,aE,lu,lw,d1]
 refine aH (λk' vars hh=> ∃(i:Nat),(∃g:Nat->V,vars= [u,w,g 2,aC i,g 4,g 5,g 6])/\i<=a.length/\(∀j,j<i->a.getD j []=b.getD j [])/\Fr h hh/\k'=a.length-i) a.length
  ⟨0,aA rfl,iP _,λj hj=>by omega,Fr.refl h,rfl⟩ ?_
 rintro k' vars hh ⟨i,⟨g,rfl⟩,hi,hs,F,rfl⟩
 by_cases hlt:(i:Int)<(a.length:Int)
 case neg=>
  have e1:=eS hlt;obtain rfl:i=a.length:=by omega
  simp(disch:=omega)only[go_sem,lu,e1]
  have:a=b:=by
   refine List.ext_getElem hl' λj h1 h2=>?_
   have:=hs j h1;rwa [List.getD,fS h1,List.getD,fS h2] at this
  exact⟨by rw[decide_eq_true this],F⟩
 have e1:=iB hlt
 have c1:hh.cell id (off+i)=some (wa.getD i .undef):=by
  rw[F.cell (hid (by omega)),hc i (by omega)];simp [List.getD,show i<wa.length by omega]
 have c2:hh.cell id2 (off2+i)=some (wb.getD i .undef):=by
  rw[F.cell (hid2 (by omega)),hc2 i (by omega)];simp [List.getD,show i<wb.length by omega]
 have s1:=Rs aa (i:=i) (by omega)
 have s2:=Rs ab (i:=i) (by omega)
 generalize wa.getD i .undef=va at c1 s1
 generalize wb.getD i .undef=vb at c2 s2
 have ev1:=s1.dW
 have ev2:=s2.dW
 simp(disch:=omega)only[go_sem,lu,e1,sh.ixa,c1,sh2.ixa,c2]
 refine (Ad va vb _ _ _ (s1.mono (F.trans ((Fr.refl hh).bF (by omega)))) (s2.mono (F.trans ((Fr.refl hh).bF (by omega)))) (ra _ (bD (by omega))) (rb _ (bD (by omega)))).mono ?_
 rintro _ h3 ⟨rfl,f3⟩
 have F3:=F.trans (((Fr.refl hh).bF (by omega)).trans f3)
 have c1':h3.cell id (off+i)=some va:=by
  have h4:Fr hh h3:=((Fr.refl hh).bF (by omega)).trans f3;rw[h4.cell (by have:=hid (by omega);have:=F.next;omega)];exact c1
 have c2':h3.cell id2 (off2+i)=some vb:=by
  have h4:Fr hh h3:=((Fr.refl hh).bF (by omega)).trans f3;rw[h4.cell (by have:=hid2 (by omega);have:=F.next;omega)];exact c2
 by_cases he:a.getD i []=b.getD i []
 ·have d2:decide (a.getD i []=b.getD i [])=true:=decide_eq_true he
  simp(disch:=omega)only[go_sem,d2,c1',c2',ev1,ev2]
  rw[fA i]
  refine⟨a.length-(i+1),by omega,i+1,aA rfl,by omega,λj hj=>?_,F3,rfl⟩
  by_cases e:j=i
  ·rw[e];exact he
  ·exact hs j (by omega)
 ·have d2:decide (a.getD i []=b.getD i [])=false:=decide_eq_false he
  simp(disch:=omega)only[go_sem,d2,c1',c2',ev1,ev2]
  exact⟨by rw[decide_eq_false];intro e;exact he (by rw[e]),F3⟩
theorem Pd (u w:V)(a b:List (List Int))(h:H)(hu:SR h u a)(hw:SR h w b)(la:a.length<1000000)(lb:b.length<1000000)(ra: ∀x∈a,x.length<1000000)(rb: ∀x∈b,x.length<1000000):
  Ev T 34 [u,w] h (λv h'=>v= .bool (decide (a=b))/\Fr h h'):=De (rfl:T 34=some iG) u w a b h hu hw la lb ra rb
theorem wH (u w:V)(a b:List (List Int))(h:H)(hu:SR h u a)(hw:SR h w b)(la:a.length<1000000)(lb:b.length<1000000)(ra: ∀x∈a,x.length<1000000)(rb: ∀x∈b,x.length<1000000):
  Ev T 32 [u,w] h (λv h'=>v= .bool (decide (a=b))/\Fr h h'):=De (rfl:T 32=some yD) u w a b h hu hw la lb ra rb
theorem xS (v1 v2:V)(d1 d2:Int)(O1 O2:List (List Int))(R1 R2:List (List (List Int)))(h:H)(c1:Az h v1 d1 O1 R1)(c2:Az h v2 d2 O2 R2)(so1:lF O1)(so2:lF O2)(sr1:lH R1)(sr2:lH R2):
  Ev T 31 [v1,v2] h (λv h'=>v= .bool (decide (d1=d2/\O1=O2/\R1=R2))/\Fr h h'):=by
 obtain⟨vO,vR,e,sO,sR⟩:=c1
 subst e
 obtain⟨uO,uR,e,tO,tR⟩:=c2
 subst e
 refine bH nU rfl rfl ?_
 have oneO:vO.one=true:=Hc sO
 have oneR:vR.one=true:=Eo sR
 have oneO':uO.one=true:=by obtain⟨_,t,_⟩:=tO;exact t.cJ.2.1
 have oneR':uR.one=true:=by obtain⟨_,t,_⟩:=tR;exact t.cJ.2.1
 have eqR:dW vR vR=true:=by obtain⟨_,t,_⟩:=sR;exact t.dW
 have eqR':dW uR uR=true:=by obtain⟨_,t,_⟩:=tR;exact t.dW
 obtain⟨A,hA⟩:=exI h.next
 obtain⟨h1,e1,n1,g1,o1,f1⟩:=eQ hA [aC d1,vO,vR]
 obtain⟨h2,e2,n2,g2,o2,f2⟩:=eQ n1 [aC d2,uO,uR]
 have bx:=λhh:H=>bE hh (v:= aC d1) (u:=vO) (w:=vR) rfl oneO oneR
 have bx2:=λhh:H=>bE hh (v:= aC d2) (u:=uO) (w:=uR) rfl oneO' oneR'
 have F2:=f1.trans f2
 have gA:h2.get A=bQ [aC d1,vO,vR]:=by rw[o2 _ (by omega)];exact g1
 have a0: ∀hh,Fr h2 hh->hh.cell A 0=some (aC d1):=λhh f=>by rw[f.cell (by omega),H.aF gA];rfl
 have a1: ∀hh,Fr h2 hh->hh.cell A 1=some vO:=λhh f=>by rw[f.cell (by omega),H.aF gA];rfl
 have a2: ∀hh,Fr h2 hh->hh.cell A 2=some vR:=λhh f=>by rw[f.cell (by omega),H.aF gA];rfl
 have b0: ∀hh,Fr h2 hh->hh.cell (A+1) 0=some (aC d2):=λhh f=>by rw[f.cell (by omega),H.aF g2];rfl
 have b1: ∀hh,Fr h2 hh->hh.cell (A+1) 1=some uO:=λhh f=>by rw[f.cell (by omega),H.aF g2];rfl
 have b2: ∀hh,Fr h2 hh->hh.cell (A+1) 2=some uR:=λhh f=>by rw[f.cell (by omega),H.aF g2];rfl
 have r2:=Fr.refl h2
 by_cases hd:d1=d2
 case neg=>
  have e3:decide (d1≠d2)=true:=decide_eq_true hd;simp(disch:=omega)only[go_sem,nU,aE,bx,bx2,hA,e1,n1,e2,a0 h2 r2,b0 h2 r2,e3,kV];exact⟨by rw[decide_eq_false];exact λx=>hd x.1,F2⟩
 have e3:decide (d1≠d2)=false:=decide_eq_false (by simpa using hd)
 simp(disch:=omega)only[go_sem,nU,aE,bx,bx2,hA,e1,n1,e2,a0 h2 r2,b0 h2 r2,a1 h2 r2,b1 h2 r2,e3]
 have mem: ∀{l:List (List Int)},(∀i,i<l.length->(l.getD i []).length<1000000)-> ∀x∈l,x.length<1000000:=λhl x hx=>by
  obtain⟨i,hi,rfl⟩:=Dt.1 hx;have:=hl i hi;rwa [List.getD,fS hi] at this
 refine (Pd vO uO O1 O2 h2 (sO.mono F2) (tO.mono F2) so1.1 so2.1 (mem so1.2) (mem so2.2)).mono ?_
 rintro _ h3 ⟨rfl,f3⟩
 obtain⟨wR,svR,aR,_⟩:=sR
 obtain⟨zR,svR',aR',_⟩:=tR
 have hR1l:=sr1.1
 have hR2l:=sr2.1
 have lwR:=aZ.length aR
 have lzR:=aZ.length aR'
 have lR1:cY vR=some (aC (R1.length:Int)):=by unfold cY;rw[SV.len svR (n:=R1.length) (by omega) (by omega)];rfl
 have lR2:cY uR=some (aC (R2.length:Int)):=by unfold cY;rw[SV.len svR' (n:=R2.length) (by omega) (by omega)];rfl
 have F3:=F2.trans f3
 by_cases hO:O1=O2
 case neg=>
  have e4:decide (O1=O2)=false:=decide_eq_false hO;simp(disch:=omega)only[go_sem,e4,kV];exact⟨by rw[decide_eq_false];exact λx=>hO x.2.1,F3⟩
 have e4:decide (O1=O2)=true:=decide_eq_true hO
 by_cases hl:(R1.length:Int)=(R2.length:Int)
 case neg=>
  have e5:decide ((R1.length:Int)≠(R2.length:Int))=true:=decide_eq_true hl;simp(disch:=omega)only[go_sem,e4,a2 h3 f3,b2 h3 f3,lR1,lR2,e5];exact⟨by rw[decide_eq_false];exact λx=>hl (by rw[x.2.2]),F3⟩
 have e5:decide ((R1.length:Int)≠(R2.length:Int))=false:=decide_eq_false (by simpa using hl)
 have hl':R1.length=R2.length:=by omega
 obtain⟨id,off,sh,hid,hc⟩:=SV.shape svR R1.length (by omega) (by omega)
 obtain⟨id2,off2,sh2,hid2,hc2⟩:=SV.shape svR' R2.length (by omega) (by omega)
 simp(disch:=omega)only[go_sem,e4,a2 h3 f3,b2 h3 f3,lR1,lR2,e5]
 refine aH (λk' vars hh=> ∃(i:Nat),(∃g:Nat->V,vars= [g 0,g 1,.ptr A 0,.ptr (A+1) 0,g 4,aC i,g 6,g 7,g 8])/\i<=R1.length/\(∀j,j<i->R1.getD j []=R2.getD j [])/\Fr h3 hh/\k'=R1.length-i) R1.length
  ⟨0,aA rfl,iP _,λj hj=>by omega,Fr.refl h3,rfl⟩ ?_
 rintro k' vars hh ⟨i,⟨g,rfl⟩,hi,hs,F,rfl⟩
 have F2h:=f3.trans F
 by_cases hlt:(i:Int)<(R1.length:Int)
 case neg=>
  have e1:=eS hlt;obtain rfl:i=R1.length:=by omega
  simp(disch:=omega)only[go_sem,a2 hh F2h,lR1,e1]
  have:R1=R2:=by
   refine List.ext_getElem hl' λj h1 h2=>?_
   have:=hs j h1;rwa [List.getD,fS h1,List.getD,fS h2] at this
  exact⟨by rw[decide_eq_true ⟨hd,hO,this⟩],F3.trans F⟩
 have e1:=iB hlt
 have hi2:i<R1.length:=by omega
 have cc1: ∀hx,Fr h hx->hx.cell id (off+i)=some (wR.getD i .undef):=λhx f=>by
  rw[f.cell (hid (by omega)),hc i (by omega)];simp [List.getD,show i<wR.length by omega]
 have cc2: ∀hx,Fr h hx->hx.cell id2 (off2+i)=some (zR.getD i .undef):=λhx f=>by
  rw[f.cell (hid2 (by omega)),hc2 i (by omega)];simp [List.getD,show i<zR.length by omega]
 have gg: ∀{ws:List V} {R:List (List (List Int))},aZ (SR h) ws R->i<R.length->SR h (ws.getD i .undef) (R.getD i []):=λ{ws R} al hiR=>by
  have h1:=aZ.length al;have:=aZ.get al i (by omega) hiR;rw[List.getD,List.getD,fS (by omega),fS hiR];exact this
 have s1:=gg aR hi2
 have s2:=gg aR' (by omega)
 generalize wR.getD i .undef=va at cc1 s1
 generalize zR.getD i .undef=vb at cc2 s2
 have ev1:dW va va=true:=by obtain⟨_,t,_⟩:=s1;exact t.dW
 have ev2:dW vb vb=true:=by obtain⟨_,t,_⟩:=s2;exact t.dW
 have Fh:=F3.trans F
 simp(disch:=omega)only[go_sem,a2 hh F2h,b2 hh F2h,lR1,e1,sh.ixa,sh2.ixa,cc1 hh Fh,cc2 hh Fh]
 refine (wH va vb _ _ _ (s1.mono (Fh.trans ((Fr.refl hh).bF (by omega)))) (s2.mono (Fh.trans ((Fr.refl hh).bF (by omega)))) (sr1.2 i hi2).1 (sr2.2 i (by omega)).1 (mem (sr1.2 i hi2).2) (mem (sr2.2 i (by omega)).2)).mono ?_
 rintro _ h4 ⟨rfl,f4'⟩
 have f4:Fr hh h4:=((Fr.refl hh).bF (by omega)).trans f4'
 have F24:=F2h.trans f4
 have Fh4:=Fh.trans f4
 by_cases he:R1.getD i []=R2.getD i []
 ·have d2':decide (R1.getD i []=R2.getD i [])=true:=decide_eq_true he
  simp(disch:=omega)only[go_sem,d2',a2 h4 F24,b2 h4 F24,cc1 h4 Fh4,cc2 h4 Fh4,ev1,ev2,eqR,eqR']
  rw[fA i]
  refine⟨R1.length-(i+1),by omega,i+1,aA rfl,by omega,λj hj=>?_,F.trans f4,rfl⟩
  by_cases e:j=i
  ·rw[e];exact he
  ·exact hs j (by omega)
 ·have d2':decide (R1.getD i []=R2.getD i [])=false:=decide_eq_false he
  simp(disch:=omega)only[go_sem,d2',a2 h4 F24,b2 h4 F24,cc1 h4 Fh4,cc2 h4 Fh4,ev1,ev2,eqR,eqR']
  exact⟨by rw[decide_eq_false];exact λx=>he (by rw[x.2.2]),Fh4⟩
set_option maxRecDepth 100000
theorem Yy {W:Nat->Prop}(vc:V)(n:Nat)(O:LN)(R:kW)(G:List Nat->Prop)(h:H)(gc:GC W h vc n O R G):
  Ev T 81 [vc] h (λv h'=>SP h' v R.flatten/\Fr h h'):=by
 obtain⟨vO,vR,e,sO,sR⟩:=gc.ch
 subst e
 refine bH wI rfl rfl ?_
 have oneO:vO.one=true:=Hc sO
 have oneR:vR.one=true:=Eo sR
 obtain⟨wR,svR,aR,_⟩:=sR
 have n7:=gc.n7
 have lR:=gc.isc.lr
 have lw:=aZ.length aR
 rw[jD,lR] at lw
 obtain⟨A,hA⟩:=exI h.next
 obtain⟨h1,e1,n1,g1,o1,f1⟩:=eQ hA [aC n,vO,vR]
 have bx:=bE h (v:= aC n) (u:=vO) (w:=vR) rfl oneO oneR
 have lvR:cY vR=some (aC n):=by unfold cY;rw[SV.len svR (n:=n) (by omega) (by omega)];rfl
 obtain⟨id,off,sh,hid,hc⟩:=SV.shape svR n (by omega) (by omega)
 have a2: ∀hh,Fr h1 hh->hh.cell A 2=some vR:=λhh f=>by rw[f.cell (by omega),H.aF g1];rfl
 have rl: ∀i,i<n->(R.getD i []).length<=n/\0<(R.getD i []).length:=λi hi=>by
  refine⟨?_,(Nr gc.kP gc.isc hi).1⟩;rw[gc.isc.rl i hi];have:=oX (λx hx=>gc.kP.dY hx) hi (gc.isc.asc i hi) (gc.isc.mem i hi);omega
 have fl: ∀i,i<=n->((R.take i).flatten).length<=i*n:=λi hi=>by
  induction i with
  |zero=>simp
  |succ i ih=>
   have h1:=(rl i (by omega)).1;rw[dI [] (by omega),List.flatten_append,oL,Nat.succ_mul];have:=ih (by omega);simp only[List.flatten_cons,List.flatten_nil,List.append_nil];omega
 simp(disch:=omega)only[go_sem,wI,aE,bx,hA,e1]
 refine aH (λk' vars hh=> ∃(i:Nat) (v3:V) (acc:List V),(∃g:Nat->V,vars= [g 0,.ptr A 0,g 2,v3,aC i,g 5])/\i<=n/\dB hh v3 1 acc h1.next/\aZ (SI h) acc (((R.take i).flatten).map zi)/\Fr h1 hh/\k'=n-i) n
  ⟨0,.aB, [],aA rfl,iP _,dB.aB _ _ _,trivial,Fr.refl h1,rfl⟩ ?_
 rintro k' vars hh ⟨i,v3,acc,⟨g,rfl⟩,hi,ow,aa,F,rfl⟩
 by_cases hlt:(i:Int)<(n:Int)
 case neg=>
  have d1:=eS hlt;obtain rfl:i=n:=by omega
  simp(disch:=omega)only[go_sem,a2 hh F,lvR,d1];rw[List.take_of_length_le (by omega)] at aa;exact⟨⟨acc,ow.sv,aa.mono λ_ _ s=>s.mono (f1.trans F)⟩,f1.trans F⟩
 have d1:=iB hlt
 have hi2:i<n:=by omega
 have cc:hh.cell id (off+i)=some (wR.getD i .undef):=by
  rw[(f1.trans F).cell (hid (by omega)),hc i (by omega)];simp [List.getD,show i<wR.length by omega]
 have sr:SR h (wR.getD i .undef) ((R.getD i []).map zi):=by
  have h2:=aZ.get aR i (by omega) (by rw[jD];omega);rw[List.getElem_map] at h2;rw[List.getD,List.getD,fS (by omega),fS (by omega)];exact h2
 generalize wR.getD i .undef=va at cc sr
 obtain⟨wi,si,ai⟩:=sr
 have lwi:=aZ.length ai
 rw[jD] at lwi
 have hr:=rl i hi2
 have hac:=aZ.length aa
 rw[jD] at hac
 have hfl:=fl i (by omega)
 have hnn:i*n<=7*7:=Nat.mul_le_mul (by omega) n7
 have Fh:=f1.trans F
 obtain⟨hd,ad,pd⟩:=ow.push (bytes:=24) (si.mono Fh) (n:=acc.length) (m:=(R.getD i []).length) (by omega) (by omega) (by omega) hr.2 (by omega)
 simp(disch:=omega)only[go_sem,a2 hh F,lvR,d1,sh.ixa,cc,ad]
 rw[fA i]
 have nF:=F.next
 have nd:=pd.next
 refine⟨n-(i+1),by omega,i+1,_,acc++wi,aA rfl,by omega,pd.own (by omega) (by omega) (by omega),?_,⟨by omega,λq hq=>?_⟩,rfl⟩
 ·rw[dI [] (by omega),List.flatten_append,List.map_append]
  simp only[List.flatten_cons,List.flatten_nil,List.append_nil]
  exact aZ.append aa ai
 ·rw[pd.old q (by omega) (λid off n' c e e2=>by have:=(ow.in _ _ _ _ e).2.1;omega)]
  exact F.get q hq
theorem SK (a b:Nat)(h:H)(ha:a<1000000)(hb:b<1000000):Ev T 113 [aC a,aC b] h (λv h'=>v= aC (Nat.gcd a b:Nat)/\Fr h h'):=by
 refine bH yL rfl rfl ?_;simp(disch:=omega)only[go_sem,yL,aE];refine aH (λk' vars hh=> ∃(x y:Nat),(∃g:Nat->V,vars= [aC x,aC y,g 2,g 3])/\x<1000000/\y<1000000/\Nat.gcd x y=Nat.gcd a b/\Fr h hh/\k'=y) b
  ⟨a,b,aA rfl,ha,hb,rfl,Fr.refl h,rfl⟩ ?_
 rintro k' vars hh ⟨x,y,⟨g,rfl⟩,hx,hy,hg,F,hk⟩;subst hk
 by_cases hz:(k':Int)=0
 ·have d1:decide ((k':Int)≠0)=false:=decide_eq_false (by simpa using hz)
  obtain rfl:k'=0:=by omega
  simp(disch:=omega)only[go_sem,d1];rw[←hg,Nat.gcd_zero_right];exact⟨rfl,F⟩
 ·have d1:decide ((k':Int)≠0)=true:=decide_eq_true hz
  have hm:(x:Int).tmod (k':Int)=((x%k':Nat):Int):=Jf x k';have hml:=Nat.mod_lt x (show k'>0 by omega);simp(disch:=omega)only[go_sem,d1,hz,hm];exact⟨x%k',hml,k',x%k',aA rfl,hy,by omega,by rw[Nat.gcd_comm,←Nat.gcd_rec,Nat.gcd_comm];exact hg,F.bF (by omega),rfl⟩
structure FO (h:H)(a:Cls.KE)(t:List Int×Nat×Nat):Prop where
 rep:SI h a.rep t.1
 ord:a.ord=t.2.1
 size:a.size=t.2.2
theorem Ds {ks:List Cls.KE}{i:Nat}(hi:i<ks.length):(eV ks)[i*3]? =some ks[i].rep/\(eV ks)[i*3+1]? =some (aC (ks[i].ord:Int))/\(eV ks)[i*3+2]? =some (aC (ks[i].size:Int)):=by
 induction ks generalizing i with
 |nil=>simp at hi
 |cons a r ih=>
  have e:eV (a::r)= [a.rep,aC (a.ord:Int),aC (a.size:Int)]++eV r:=rfl
  cases i with
  |zero=>exact⟨rfl,rfl,rfl⟩
  |succ i=>
   have h1:=ih (i:=i) (by simpa using hi);rw[e,show (i+1)*3=i*3+3 by omega];refine⟨?_,?_,?_⟩
   ·rw[List.getElem?_append_right (by simp)];exact h1.1
   ·rw[List.getElem?_append_right (by simp)];exact h1.2.1
   ·rw[List.getElem?_append_right (by simp)];exact h1.2.2
theorem Lp (u w:V)(k1 k2:List Cls.KE)(t1 t2:List (List Int×Nat×Nat))(h:H)(hu:SV h u 3 (eV k1))(hw:SV h w 3 (eV k2))(a1:aZ (FO h) k1 t1)(a2:aZ (FO h) k2 t2)(l1:k1.length<1000000)(l2:k2.length<1000000)(r1: ∀t∈t1,t.1.length<1000000)(r2: ∀t∈t2,t.1.length<1000000):
  Ev T 26 [u,w] h (λv h'=>v= .bool (decide (t1=t2))/\Fr h h'):=by
 refine bH jT rfl rfl ?_
 have m1:=aZ.length a1
 have m2:=aZ.length a2
 have lu:cY u=some (aC (k1.length:Int)):=by unfold cY;rw[SV.len hu (n:=k1.length) (iA k1) (by omega)];rfl
 have lw:cY w=some (aC (k2.length:Int)):=by unfold cY;rw[SV.len hw (n:=k2.length) (iA k2) (by omega)];rfl
 obtain⟨id,off,sh,hid,hc⟩:=SV.shape hu k1.length (iA k1) (by omega)
 obtain⟨id2,off2,sh2,hid2,hc2⟩:=SV.shape hw k2.length (iA k2) (by omega)
 rw[iA] at hc hc2
 by_cases hl:(k1.length:Int)=(k2.length:Int)
 case neg=>
  have d1:decide ((k1.length:Int)≠(k2.length:Int))=true:=decide_eq_true hl;simp(disch:=omega)only[go_sem,jT,aE,lu,lw,d1];exact⟨by rw[decide_eq_false];intro e;exact hl (by rw[m1,m2,e]),Fr.refl h⟩
 have hl':k1.length=k2.length:=by omega
 have d1:decide ((k1.length:Int)≠(k2.length:Int))=false:=decide_eq_false (by simpa using hl)
 simp(disch:=omega)only[go_sem,jT,aE,lu,lw,d1]
 refine aH (λk' vars hh=> ∃(i:Nat),(∃g:Nat->V,vars= [u,w,g 2,aC i,g 4,g 5,g 6])/\i<=k1.length/\(∀j (h1:j<t1.length) (h2:j<t2.length),j<i->t1[j]=t2[j])/\Fr h hh/\k'=k1.length-i) k1.length
  ⟨0,aA rfl,iP _,λj _ _ hj=>by omega,Fr.refl h,rfl⟩ ?_
 rintro k' vars hh ⟨i,⟨g,rfl⟩,hi,hs,F,rfl⟩
 by_cases hlt:(i:Int)<(k1.length:Int)
 case neg=>
  have e1:=eS hlt;obtain rfl:i=k1.length:=by omega
  simp(disch:=omega)only[go_sem,lu,e1];have:t1=t2:=List.ext_getElem (by omega) λj h1 h2=>hs j h1 h2 (by omega)
  exact⟨by rw[decide_eq_true this],F⟩
 have e1:=iB hlt
 have hi1:i<k1.length:=by omega
 have hi2:i<k2.length:=by omega
 have s1:=aZ.get a1 i hi1 (by omega)
 have s2:=aZ.get a2 i hi2 (by omega)
 obtain⟨p1,p2,p3⟩:=Ds hi1
 obtain⟨q1,q2,q3⟩:=Ds hi2
 have cu: ∀hx,Fr h hx->hx.cell id (off+i*3)=some k1[i].rep/\hx.cell id (off+i*3+1)=some (aC (k1[i].ord:Int))/\hx.cell id (off+i*3+2)=some (aC (k1[i].size:Int)):=λhx f=>by
  refine⟨?_,?_,?_⟩
  ·rw[f.cell (hid (by omega)),hc _ (by omega),p1]
  ·rw[f.cell (hid (by omega)),Nat.add_assoc,hc _ (by omega),p2]
  ·rw[f.cell (hid (by omega)),Nat.add_assoc,hc _ (by omega),p3]
 have cw: ∀hx,Fr h hx->hx.cell id2 (off2+i*3)=some k2[i].rep/\hx.cell id2 (off2+i*3+1)=some (aC (k2[i].ord:Int))/\hx.cell id2 (off2+i*3+2)=some (aC (k2[i].size:Int)):=λhx f=>by
  refine⟨?_,?_,?_⟩
  ·rw[f.cell (hid2 (by omega)),hc2 _ (by omega),q1]
  ·rw[f.cell (hid2 (by omega)),Nat.add_assoc,hc2 _ (by omega),q2]
  ·rw[f.cell (hid2 (by omega)),Nat.add_assoc,hc2 _ (by omega),q3]
 have x1:=cu hh F
 have x2:=cw hh F
 by_cases ho:(k1[i].ord:Int)=(k2[i].ord:Int)
 case neg=>
  have d2:decide ((k1[i].ord:Int)≠(k2[i].ord:Int))=true:=decide_eq_true ho;simp(disch:=omega)only[go_sem,lu,e1,sh.ixa,sh2.ixa,x1.1,x1.2.1,x1.2.2,x2.1,x2.2.1,x2.2.2,d2,kV];have fb:Fr hh (H.mk hh.tr (hh.next+38)):=(Fr.refl hh).bF (by omega);exact⟨by rw[decide_eq_false];intro e;subst e;exact ho (by rw[s1.ord,s2.ord]),F.trans fb⟩
 have d2:decide ((k1[i].ord:Int)≠(k2[i].ord:Int))=false:=decide_eq_false (by simpa using ho)
 by_cases hz:(k1[i].size:Int)=(k2[i].size:Int)
 case neg=>
  have d3:decide ((k1[i].size:Int)≠(k2[i].size:Int))=true:=decide_eq_true hz;simp(disch:=omega)only[go_sem,lu,e1,sh.ixa,sh2.ixa,x1.1,x1.2.1,x1.2.2,x2.1,x2.2.1,x2.2.2,d2,d3,kV];have fb:Fr hh (H.mk hh.tr (hh.next+38)):=(Fr.refl hh).bF (by omega);exact⟨by rw[decide_eq_false];intro e;subst e;exact hz (by rw[s1.size,s2.size]),F.trans fb⟩
 have d3:decide ((k1[i].size:Int)≠(k2[i].size:Int))=false:=decide_eq_false (by simpa using hz)
 simp(disch:=omega)only[go_sem,lu,e1,sh.ixa,sh2.ixa,x1.1,x1.2.1,x1.2.2,x2.1,x2.2.1,x2.2.2,d2,d3,kV]
 refine (Ad _ _ _ _ _ (s1.rep.mono (F.trans ((Fr.refl hh).bF (by omega)))) (s2.rep.mono (F.trans ((Fr.refl hh).bF (by omega)))) (r1 _ (List.getElem_mem _)) (r2 _ (List.getElem_mem _))).mono ?_
 rintro _ h3 ⟨rfl,f3⟩
 have F3:=F.trans (((Fr.refl hh).bF (by omega)).trans f3)
 have y1:=cu h3 F3
 have y2:=cw h3 F3
 have ev1:=s1.rep.dW
 have ev2:=s2.rep.dW
 by_cases he:t1[i].1=t2[i].1
 ·have d4:decide (t1[i].1=t2[i].1)=true:=decide_eq_true he
  simp(disch:=omega)only[go_sem,d4,y1.1,y1.2.1,y1.2.2,y2.1,y2.2.1,y2.2.2,ev1,ev2]
  rw[fA i]
  refine⟨k1.length-(i+1),by omega,i+1,aA rfl,by omega,λj h1 h2 hj=>?_,F3,rfl⟩
  by_cases e:j=i
  ·subst e
   refine Prod.ext he (Prod.ext ?_ ?_)
   ·rw[←s1.ord,←s2.ord];omega
   ·rw[←s1.size,←s2.size];omega
  ·exact hs j h1 h2 (by omega)
 ·have d4:decide (t1[i].1=t2[i].1)=false:=decide_eq_false he
  simp(disch:=omega)only[go_sem,d4,y1.1,y1.2.1,y1.2.2,y2.1,y2.2.1,y2.2.2,ev1,ev2]
  exact⟨by rw[decide_eq_false];intro e;subst e;exact he rfl,F3⟩
end Go.Proofs.YtddpkbicnolafaaGreat
namespace Go.Pm
set_option maxRecDepth 100000
section
variable {n:Nat} {t:rJ}
theorem oT.gt (T:oT n t){i p:Nat}{y:List Nat}(h:t i p=some y):i<p:=by
 have Y:=T.dY _ _ _ h;have F:=T.fix _ _ _ h;obtain⟨h1,h2,h3⟩:=T.lt _ _ _ h;have m:=T.maps _ _ _ h;rcases Nat.lt_or_ge p i with h4|h4
 ·exact absurd (Y.inj h1 h2 (m.trans (F p h4).symm)) (by omega)
 ·omega
def eR (t:rJ)(i p:Nat):yK:=(List.range p).filterMap (t i)
def eB (n:Nat)(t:rJ)(i:Nat):yK:=(List.range i).flatMap λi=>eR t i n
theorem AU (i p:Nat):eR t i (p+1)=eR t i p++(t i p).toList:=by
 unfold eR;rw[List.range_succ,List.filterMap_append];cases h:t i p<;>simp [h]
theorem BX (i:Nat):eB n t (i+1)=eB n t i++eR t i n:=by
 unfold eB;rw[List.range_succ,List.flatMap_append];simp
theorem Rc:eB n t n=fK n t 0:=by
 unfold eB fK eR;simp
theorem xB (T:oT n t):(fK n t 0).Nodup:=by
 have key: ∀i p i' p' y,t i p=some y->t i' p'=some y->i=i'/\p=p':=λi p i' p' y h1 h2=>by
  have g1:=T.gt h1;have g2:=T.gt h2;have f1:=T.fix _ _ _ h1;have f2:=T.fix _ _ _ h2;have m1:=T.maps _ _ _ h1;have m2:=T.maps _ _ _ h2
  have e:i=i':=by
   rcases Nat.lt_trichotomy i i' with h|h|h
   ·have:=f2 i h;omega
   ·exact h
   ·have:=f1 i' h;omega
  subst e;exact⟨rfl,m1.symm.trans m2⟩
 rw[←Rc];unfold eB;rw[List.Nodup,List.pairwise_flatMap];refine⟨λi _=>?_,?_⟩
 ·unfold eR
  rw[List.pairwise_filterMap];refine (List.nodup_range (n:=n)).imp ?_;intro p p' hne y hy y' hy' e;subst e;exact hne (key _ _ _ _ _ hy hy').2
 ·refine (List.nodup_range (n:=n)).imp ?_
  intro i i' hne y hy y' hy' e;subst e;obtain⟨p,_,h1⟩:=List.mem_filterMap.1 hy;obtain⟨p',_,h2⟩:=List.mem_filterMap.1 hy';exact hne (key _ _ _ _ _ h1 h2).1
def XS (n:Nat)(t:rJ)(l:yK):yK:=(fK n t 0).filter λy=>decide (y∉l)
def WZ (n:Nat)(t:rJ)(x:List Nat)(l:yK):yK:=if (fK n t 0).length<(fK n (jP t n x) 0).length then l++XS n (jP t n x) l else l
structure Ax (n:Nat)(L:List Nat->Prop)(t:rJ)(l:yK):Prop where
 tl:Kf n L t
 nd:l.Nodup
 mem: ∀y,y∈l↔y∈fK n t 0
variable {L:List Nat->Prop} {l:yK}
theorem Ax.dY (c:Ax n L t l): ∀y∈l,bT n y:=λy hy=>c.tl.Bo.DG y ((c.mem y).1 hy)
theorem Ax.bound (c:Ax n L t l):l.length<=n^n:=Io c.nd c.dY
theorem Ax.start (c:Kf n L t):Ax n L t (fK n t 0):=⟨c,xB c.Bo,λ_=>Iff.rfl⟩
theorem Vc {t':rJ}(s:Sub t t'): ∀y,y∈fK n t 0->y∈fK n t' 0:=λy hy=>by
 obtain⟨i,p,h1,h2,h3,h4⟩:=fV.1 hy;exact fV.2 ⟨i,p,h1,h2,h3,s _ _ _ h4⟩
theorem Ax.step (c:Ax n L t l)(hL: ∀g,L g->bT n g){x:List Nat}(hx:fG n L x):
  Ax n L (jP t n x) (WZ n t x l)/\Sub t (jP t n x)/\ins (jP t n x) n 0 x=none/\ ∃m,WZ n t x l=l++m:=by
 obtain⟨a1,a2,a3⟩:=c.tl.ins hL hx
 have nd':=xB a1.Bo
 refine⟨?_,a2,a3,?_⟩
 ·cases h:ins t n 0 x with
  |none=>
   have e:jP t n x=t:=by unfold jP;rw[h]
   unfold WZ;rw[e,if_neg (Nat.lt_irrefl _)];exact c
  |some q=>
   obtain⟨i,r⟩:=q;have e:jP t n x=put t i (r.getD i 0) r:=by unfold jP;rw[h]
   obtain⟨b1,b2,b3,b4,b5,b6,_⟩:=yO c.tl.Bo n 0 x i r (by omega) (hx.dY hL) (λk hk=>by omega) h;have hr:r∈fK n (jP t n x) 0:=fV.2 ⟨i,r.getD i 0,Nat.zero_le _,b2,b3.eX b2,by rw[e];unfold put;rw[if_pos ⟨rfl,rfl⟩]⟩
   have hr2:r∉fK n t 0:=λh=>by
    obtain⟨j,q,_,_,_,h4⟩:=fV.1 h;have h5:=a2 _ _ _ h4;have g1:=a1.Bo.gt h5;have f1:=a1.Bo.fix _ _ _ h5;have m1:=a1.Bo.maps _ _ _ h5;have h6:jP t n x i (r.getD i 0)=some r:=by rw[e];unfold put;rw[if_pos ⟨rfl,rfl⟩]
    have g2:=a1.Bo.gt h6
    have eij:i=j:=by
     rcases Nat.lt_trichotomy i j with h|h|h
     ·have:=f1 i h;omega
     ·exact h
     ·have:=b4 j h;omega
    subst eij;rw[←m1] at h4;rw[b6] at h4;cases h4
   have hlt:(fK n t 0).length<(fK n (jP t n x) 0).length:=by
    have:(r::fK n t 0).length<=(fK n (jP t n x) 0).length:=List.Nodup.length_le_of_subset (List.nodup_cons.2 ⟨hr2,xB c.tl.Bo⟩) (λy hy=>by
     rcases List.mem_cons.1 hy with rfl|hy
     ·exact hr
     ·exact Vc a2 y hy)
    rw[List.length_cons] at this;omega
   unfold WZ;rw[if_pos hlt];refine⟨a1,List.nodup_append.2 ⟨c.nd,nd'.filter _,λy hy z hz e2=>?_⟩,λy=>?_⟩
   ·subst e2
    have:=(List.mem_filter.1 hz).2;simp at this;exact this hy
   ·rw[List.mem_append]
    unfold XS;rw[List.mem_filter];constructor
    ·rintro (h|h)
     ·exact Vc a2 y ((c.mem y).1 h)
     ·exact h.1
    ·intro h
     by_cases h2:y∈l
     ·exact .inl h2
     ·exact .inr ⟨h,by simpa using h2⟩
 ·unfold WZ
  split
  ·exact⟨_,rfl⟩
  ·exact⟨[],(List.append_nil _).symm⟩
theorem Ax.gen (c:Ax n L t l): ∀y∈l,fG n L y:=λy hy=>c.tl.gen y ((c.mem y).1 hy)
def Pr (n:Nat)(t:rJ)(l:yK)(a b:Nat):Prop:=ins t n 0 (aW (l.getD a []) (l.getD b []))=none
theorem Pr.mono {t':rJ}{m:yK}{a b:Nat}(h:Pr n t l a b)(s:Sub t t')(ha:a<l.length)(hb:b<l.length):Pr n t' (l++m) a b:=by
 have e: ∀k,k<l.length->(l++m).getD k []=l.getD k []:=λk hk=>by rw[List.getD,List.getD,List.getElem?_append_left hk]
 unfold Pr;rw[e a ha,e b hb];exact Dl s _ _ _ h
theorem Ax.closed (c:Ax n L t l)(h: ∀a b,a<l.length->b<l.length->Pr n t l a b):Ex n t:=λa b ha hb=>by
 obtain⟨i,hi,ei⟩:=List.mem_iff_getElem.1 ((c.mem a).2 ha);obtain⟨j,hj,ej⟩:=List.mem_iff_getElem.1 ((c.mem b).2 hb);have:=h i j hi hj;unfold Pr at this;have e1:l.getD i []=a:=by rw[List.getD,List.getElem?_eq_getElem hi,←ei];rfl
 have e2:l.getD j []=b:=by rw[List.getD,List.getElem?_eq_getElem hj,←ej];rfl
 rwa [e1,e2] at this
def Bc (t:rJ)(i k:Nat):List Nat:=(List.range k).filter λp=>p==i||(t i p).isSome
theorem Wj (T:oT n t)(i:Nat):Bc t i i= []:=by
 unfold Bc;refine List.filter_eq_nil_iff.2 λp hp=>?_
 have:=List.mem_range.1 hp;simp only[Bool.or_eq_true,beq_iff_eq,not_or];refine⟨by omega,λh=>?_⟩;obtain⟨y,hy⟩:=Option.isSome_iff_exists.1 h;have:=T.gt hy;omega
theorem DB (i k:Nat):Bc t i (k+1)=Bc t i k++if k=i∨(t i k).isSome then [k] else []:=by
 unfold Bc;rw[List.range_succ,List.filter_append]
 by_cases h:k=i
 ·subst h;simp
 ·have e:(k==i)=false:=by simpa using h
  cases h2:t i k<;>simp [h,h2,List.filter,e]
theorem OC (i:Nat):Bc t i n=(lC n t i).orb:=rfl
theorem PD (i k:Nat):(Bc t i k).Pairwise (· < ·):=List.pairwise_lt_range.filter _
end
end Go.Pm
namespace Go.Proofs.YtddpkbicnolafaaGreat
open Go Go.Ay Go.Pm
set_option maxRecDepth 100000
theorem Kq (h:H)(x:Int):vH h 1 [aC 0] 1 [(0,1,aC x)]=some (.sl h.next 0 1 (.kn 1),h.new (.cells false (ints [x]))):=by
 have e:dQ [aC 0] 1= [aC 0]:=rfl;simp [vH,jZ,e,putAt,V.cells,V.one,ints]
theorem LQ {h:H}{v:V}{sz b:Nat}{ws:List V}(o:dB h v sz ws b): ∀id off len cap,v= .sl id off len cap->b<=id:=by
 rcases o with ⟨rfl,_⟩|⟨id,n,cap,rest,rfl,_,_,h3,_⟩
 ·intro _ _ _ _ e;cases e
 ·intro _ _ _ _ e;cases e;exact h3
theorem Ih (l:List Nat)(x:Nat):zi (l++ [x])=zi l++ [(x:Int)]:=by simp [zi]
theorem My {l:List Nat}{i:Nat}(hi:i<l.length):l.take (i+1)=l.take i++ [l.getD i 0]:=by
 rw[List.take_add_one,fS hi,bG hi];rfl
theorem qM (u w:V)(a b:List Nat)(h:H)(hN:a.length<=1000)(hu:SI h u (zi a))(hw:SI h w (zi b))(hr: ∀i,i<a.length->a.getD i 0<b.length):
  Ev T 40 [u,w] h (λv h'=>SI h' v (zi (aW a b))/\Fr h h'/\ ∀id off len cap,v= .sl id off len cap->h.next<=id):=by
 refine bH Gk rfl rfl ?_
 have lu:=hu.lens
 rw[aP] at lu
 obtain⟨id,off,sh,hid,hc⟩:=hu.open
 rw[aP] at sh hid hc
 obtain⟨id2,off2,sh2,hid2,hc2⟩:=hw.open
 rw[aP] at sh2 hid2 hc2
 simp(disch:=omega)only[go_sem,Gk,aE]
 refine aH (λk' vars hh=> ∃(i:Nat) (o:V),(∃j:Nat->V,vars= [u,w,j 2,o,aC i,j 5])/\i<=a.length/\dB hh o 1 (ints (zi ((aW a b).take i))) h.next/\Fr h hh/\k'=a.length-i) a.length
  ⟨0,.aB,aA rfl,iP _,dB.aB _ _ _,Fr.refl h,rfl⟩ ?_
 rintro k' vars h2 ⟨i,o,⟨jk,rfl⟩,hi,oO,F,rfl⟩
 simp(disch:=omega)only[go_sem,lu]
 by_cases hlt:(i:Int)<(a.length:Int)
 ·rw[decide_eq_true hlt]
  have hi':i<a.length:=by omega
  have ci:h2.cell id (off+i)=some (aC (a.getD i 0:Nat)):=by rw[F.cell (hid (by omega)),hc i hi'];congr 2;simp [zi,hi']
  have r:=hr i hi'
  have hm:=cQ (b:=b) hi'
  generalize hk:a.getD i 0=k at ci r hm
  have ck:h2.cell id2 (off2+k)=some (aC (b.getD k 0:Nat)):=by rw[F.cell (hid2 (by omega)),hc2 k r];congr 2;simp [zi,r]
  simp(disch:=omega)only[go_sem,sh.ixa,ci,sh2.ixa,ck,Kq]
  have hf31:Fr h2 (h2.new (.cells false (ints [((b.getD k 0:Nat):Int)]))):=(Fr.refl h2).new _
  have hg31:(h2.new (.cells false (ints [((b.getD k 0:Nat):Int)]))).get h2.next=some (.cells false (ints [((b.getD k 0:Nat):Int)])):=H.aN ..
  have hn31:(h2.new (.cells false (ints [((b.getD k 0:Nat):Int)]))).next=h2.next+1:=H.aV ..
  generalize h2.new (.cells false (ints [((b.getD k 0:Nat):Int)]))=h31 at*
  have sx:SV h31 (.sl h2.next 0 1 (.kn 1)) 1 (ints [((b.getD k 0:Nat):Int)]):=SV.all rfl (by omega) hg31 _
  have nF:=F.next
  have hl:(aW a b).length=a.length:=dR a b
  obtain⟨v2,h32,e32,a32⟩:=(oO.fr hf31).app (bytes:=8) (n:=i) (m:=1) (by omega) sx (by rw[aQ,aP,Lz,Nat.mul_one];omega) rfl (by omega) (by omega)
  simp(disch:=omega)only[go_sem,e32]
  have t32:=a32.own
  rw[←qX,←hm,←Ih,←My (by omega)] at t32
  rw[fA i]
  exact⟨a.length-(i+1),by omega,i+1,v2,aA rfl,by omega,t32,a32.fr h (F.trans hf31) (fZ _),rfl⟩
 rw[decide_eq_false hlt]
 obtain rfl:i=a.length:=by omega
 simp(disch:=omega)only[go_sem]
 rw[List.take_of_length_le (by rw[dR];omega)] at oO
 exact⟨oO.sv,F,LQ oO⟩
theorem AR (n:Nat)(h:H)(hN:n<=1000):
  Ev T 63 [aC n] h (λv h'=>SI h' v (zi (cH n))/\Fr h h'/\ ∀id off len cap,v= .sl id off len cap->h.next<=id):=by
 refine bH Fe rfl rfl ?_
 simp(disch:=omega)only[go_sem,Fe,aE]
 refine aH (λk' vars hh=> ∃(i:Nat) (o:V),(∃j:Nat->V,vars= [aC n,j 1,o,aC i,j 4])/\i<=n/\dB hh o 1 (ints (zi ((cH n).take i))) h.next/\Fr h hh/\k'=n-i) n
  ⟨0,.aB,aA rfl,iP _,dB.aB _ _ _,Fr.refl h,rfl⟩ ?_
 rintro k' vars h2 ⟨i,o,⟨jk,rfl⟩,hi,oO,F,rfl⟩
 simp(disch:=omega)only[go_sem]
 by_cases hlt:(i:Int)<(n:Int)
 ·rw[decide_eq_true hlt]
  have hi':i<n:=by omega
  simp(disch:=omega)only[go_sem,Kq]
  have hf31:Fr h2 (h2.new (.cells false (ints [(i:Int)]))):=(Fr.refl h2).new _
  have hg31:(h2.new (.cells false (ints [(i:Int)]))).get h2.next=some (.cells false (ints [(i:Int)])):=H.aN ..
  have hn31:(h2.new (.cells false (ints [(i:Int)]))).next=h2.next+1:=H.aV ..
  generalize h2.new (.cells false (ints [(i:Int)]))=h31 at*
  have sx:SV h31 (.sl h2.next 0 1 (.kn 1)) 1 (ints [(i:Int)]):=SV.all rfl (by omega) hg31 _
  have nF:=F.next
  have hl:=jJ n
  obtain⟨v2,h32,e32,a32⟩:=(oO.fr hf31).app (bytes:=8) (n:=i) (m:=1) (by omega) sx (by rw[aQ,aP,Lz,Nat.mul_one];omega) rfl (by omega) (by omega)
  simp(disch:=omega)only[go_sem,e32]
  have t32:=a32.own
  have hm:=fR hi'
  have e1:zi ((cH n).take i)++ [(i:Int)]=zi ((cH n).take (i+1)):=by rw[My (by omega),Ih,hm]
  rw[←qX,e1] at t32
  rw[fA i]
  exact⟨n-(i+1),by omega,i+1,v2,aA rfl,by omega,t32,a32.fr h (F.trans hf31) (fZ _),rfl⟩
 rw[decide_eq_false hlt]
 obtain rfl:i=n:=by omega
 simp(disch:=omega)only[go_sem]
 rw[List.take_of_length_le (by rw[jJ];omega)] at oO
 exact⟨oO.sv,F,LQ oO⟩
theorem Rq (u:V)(n:Nat)(a:List Nat)(h:H)(hn:n<=1000)(A:bT n a)(hu:SI h u (zi a)):
  Ev T 41 [u] h (λv h'=>Uo h h' v (eH a)):=by
 refine bH Gf rfl rfl ?_
 have la:=A.len
 have lu:=hu.lens
 rw[aP,la] at lu
 obtain⟨id,off,sh,hid,hc⟩:=hu.open
 rw[aP,la] at sh hid hc
 simp(disch:=omega)only[go_sem,Gf,aE,lu,kX h n (by omega)]
 have hf1:Fr h (h.new (.cells false (rc n λ_=> aC 0))):=(Fr.refl h).new _
 have hg1:(h.new (.cells false (rc n λ_=> aC 0))).get h.next=some (.cells false (rc n λ_=> aC 0)):=H.aN ..
 have hn1:(h.new (.cells false (rc n λ_=> aC 0))).next=h.next+1:=H.aV ..
 generalize h.new (.cells false (rc n λ_=> aC 0))=h1 at*
 obtain⟨S,hS⟩:=exI h.next
 rw[hS] at hg1 hn1
 rw[hS]
 refine aH (λk' vars hh=> ∃(i:Nat),(∃j:Nat->V,vars= [u,.aB,.sl S 0 n (.kn n),aC i,j 4])/\i<=n/\
   hh.get S=some (.cells false (rc n λj=>if a.idxOf j<i then aC (a.idxOf j:Nat) else aC 0))/\hh.next=S+1/\Fr h hh/\k'=n-i) n
  ⟨0,aA rfl,iP _,by rw[hg1];rfl,hn1,hf1,rfl⟩ ?_
 clear hg1 hf1 hn1
 rintro k' vars h2 ⟨i,⟨jk,rfl⟩,hi,gS,lS,F,rfl⟩
 simp(disch:=omega)only[go_sem,lu]
 by_cases hlt:(i:Int)<(n:Int)
 ·rw[decide_eq_true hlt]
  have hi':i<n:=by omega
  have ci:h2.cell id (off+i)=some (aC (a.getD i 0:Nat)):=by rw[F.cell (hid (by omega)),hc i hi'];congr 2;simp [zi,la,hi']
  have r:=A.eX hi'
  have hx:a.idxOf (a.getD i 0)=i:=A.inj (A.idx r).1 hi' (A.idx r).2
  generalize hk:a.getD i 0=k at ci r hx
  have e1:decide ((k:Int)<0)=false:=eS (by omega)
  have e2:decide ((n:Int)<=(k:Int))=false:=eS (by omega)
  have pt:=bP (vs:=rc n λj=>if a.idxOf j<i then aC (a.idxOf j:Nat) else aC 0) (off:=k) (by rw[iE];exact r) h2 S (aC i)
  rw[jL] at pt
  simp(disch:=omega)only[go_sem,sh.ixa,ci,e1,e2,gS,pt]
  rw[fA i]
  refine⟨n-(i+1),by omega,i+1,aA rfl,by omega,?_,lS,F.set (by omega) _,rfl⟩
  congr 2
  refine bN λj hj=>?_
  by_cases e:j=k
  ·rw[if_pos e,e,hx,if_pos (by omega)]
  ·rw[if_neg e]
   have hne:a.idxOf j≠i:=λe3=>e (by rw[←(A.idx hj).2,e3,hk])
   by_cases e2:a.idxOf j<i
   ·rw[if_pos e2,if_pos (by omega)]
   ·rw[if_neg e2,if_neg (by omega)]
 rw[decide_eq_false hlt]
 obtain rfl:i=n:=by omega
 simp(disch:=omega)only[go_sem]
 refine⟨by rw[iH,la,hS],?_,by rw[hS];exact lS,F⟩
 rw[hS,gS]
 congr 2
 rw[←Oe,iH,la]
 exact bN λj hj=>by rw[if_pos (A.idx hj).1,xL (by rw[la];exact hj)]
structure Em (b:Nat)(W:Nat->Prop)(h:H)(n:Nat)(tv:V)(ρ:Nat->Nat)(F:Nat->Nat->V)(t:rJ):Prop where
 sv:SV h tv 1 (rc n λi=> .sl (ρ i) 0 n (.kn n))
 off:Wx W tv
 row: ∀i,i<n->h.get (ρ i)=some (.cells false (rc n (F i)))
 wb: ∀i,i<n->W (ρ i)
 Kj: ∀id,W id->id<h.next
 low: ∀id,W id->b<=id
 inj: ∀i j,i<n->j<n->ρ i=ρ j->i=j
 ent: ∀i p,i<n->p<n->Slot W h (F i p) (t i p)
section
variable {b:Nat} {W:Nat->Prop} {h h':H} {n:Nat} {tv:V} {ρ:Nat->Nat} {F:Nat->Nat->V} {t:rJ}
theorem Em.open (R:Em b W h n tv ρ F t):cY tv=some (aC n)/\ ∃id off,Sl tv 1 n id off/\ ∀i,i<n->h.cell id (off+i)=some (.sl (ρ i) 0 n (.kn n)):=by
 have s:=R.sv;have hl:(rc n λi=>V.sl (ρ i) 0 n (.kn n)).length=n:=iE n _;refine⟨by unfold cY;rw[SV.len s (n:=n) (by omega) (by omega)];rfl,?_⟩;obtain⟨id,off,sh,hid,hc⟩:=SV.shape s n (by omega) (by omega);refine⟨id,off,sh,λi hi=>?_⟩;rw[hc i (by omega),Kz hi]
theorem Em.cell (R:Em b W h n tv ρ F t){i p:Nat}(hi:i<n)(hp:p<n):h.cell (ρ i) p=some (F i p):=gZ (R.row i hi) hp
theorem Em.mono (R:Em b W h n tv ρ F t)(f:Fr h h'):Em b W h' n tv ρ F t:=
 ⟨R.sv.mono f,R.off,λi hi=>by rw[f.get _ (R.Kj _ (R.wb i hi))];exact R.row i hi,R.wb,λid hid=>lA (R.Kj id hid) f.next,R.low,R.inj,λi p hi hp=>(R.ent i p hi hp).fx (Fx.of f)⟩
theorem Em.go (R:Em b W h n tv ρ F t){W':Nat->Prop}(f:Fx W h h')(hr: ∀i,i<n->h'.get (ρ i)=h.get (ρ i))(hw: ∀id,id<h.next->W' id->W id)(hw2: ∀id,W id->W' id)(Kj: ∀id,W' id->id<h'.next)(low: ∀id,W' id->b<=id):Em b W' h' n tv ρ F t:=
 ⟨R.sv.fx R.off f,R.off.sP R.sv hw,λi hi=>by rw[hr i hi];exact R.row i hi,λi hi=>hw2 _ (R.wb i hi),Kj,low,R.inj,λi p hi hp=>(R.ent i p hi hp).go f hw⟩
def WB (n:Nat)(ρ:Nat->Nat)(id:Nat):Prop:= ∃i,i<n/\ρ i=id
theorem Em.wbx (R:Em b W h n tv ρ F t){a c:H}(f:Fx (WB n ρ) a c):Fx W a c:=f.sP λid _ hw=>by
 obtain⟨i,hi,rfl⟩:=hw;exact R.wb i hi
def F2 (F:Nat->Nat->V)(i p:Nat)(v:V):Nat->Nat->V:=λj q=>if j=i/\q=p then v else F j q
theorem Em.put (R:Em b W h n tv ρ F t){i p:Nat}(hi:i<n)(hp:p<n){vx:V}{x:List Nat}(hx:PV W h vx x):
  ∃h',eG (h.get (ρ i)) h (ρ i) p [vx]=some h'/\Em b W h' n tv ρ (F2 F i p vx) (Pm.put t i p x)/\Fx (WB n ρ) h h'/\h'.next=h.next:=by
 have pt:=bP (vs:=rc n (F i)) (off:=p) (by rw[iE];exact hp) h (ρ i) vx
 rw[R.row i hi,pt,jL]
 refine⟨_,rfl,?_,Fx.set h (W:=WB n ρ) ⟨i,hi,rfl⟩ _,rfl⟩
 have f:Fx W h (h.set (ρ i) (some (.cells false (rc n λj=>if j=p then vx else F i j)))):=Fx.set h (R.wb i hi) _
 refine⟨R.sv.fx R.off f,R.off,λj hj=>?_,R.wb,R.Kj,R.low,R.inj,λj q hj hq=>?_⟩
 ·by_cases e:j=i
  ·subst e
   rw[H.aT]
   congr 2
   refine bN λq _=>?_
   unfold F2
   by_cases e2:q=p
   ·rw[if_pos e2,if_pos ⟨rfl,e2⟩]
   ·rw[if_neg e2,if_neg (λh=>e2 h.2)]
  ·rw[H.aG h (λe2=>e (R.inj _ _ hj hi e2)),R.row j hj]
   congr 2
   refine bN λq _=>?_
   unfold F2
   rw[if_neg (λh=>e h.1)]
 ·unfold F2 Pm.put
  by_cases e:j=i/\q=p
  ·rw[if_pos e,if_pos e]
   exact PV.fx hx f
  ·rw[if_neg e,if_neg e]
   exact (R.ent j q hj hq).fx f
theorem PV.fresh {v:V}{l:List Nat}(s:SI h' v (zi l))(hf: ∀id off len cap,v= .sl id off len cap->h.next<=id)(hw: ∀id,W id->id<h.next):PV W h' v l:=by
 refine⟨s,?_⟩
 cases v with
 |sl id off len cap=>exact λhx=>by have:=hf _ _ _ _ rfl;have:=hw id hx;omega
 |_=>trivial
theorem Slot.nil {v:V}(s:Slot W h v none):v= .aB:=s
end
theorem Nu (b:Nat)(W:Nat->Prop)(h:H)(n:Nat)(tv:V)(ρ:Nat->Nat)(F:Nat->Nat->V)(t:rJ)(vx:V)(x:List Nat)(hn:n<=64)(h0:0<n)(R:Em b W h n tv ρ F t)(hx:PV W h vx x)(X:bT n x)(TI:oT n t):
  Ev T 68 [tv,vx] h (λv h'=> ∃F',v= .bool (ins t n 0 x).isSome/\Em b W h' n tv ρ F' (jP t n x)/\Fx (WB n ρ) h h'):=by
 refine bH lY rfl rfl ?_
 obtain⟨lv,id,off,sh,_⟩:=R.open
 simp(disch:=omega)only[go_sem,lY,aE]
 refine aH (λk' vars hh=> ∃(i:Nat) (y:List Nat) (vy:V),(∃g:Nat->V,vars= [tv,vy,g 2,aC i,g 4,g 5,g 6,g 7])/\i<=n/\ins t (n-i) i y=ins t n 0 x/\PV W hh vy y/\bT n y/\Fr h hh/\k'=n-i) n
  ⟨0,x,vx,aA rfl,iP _,rfl,hx,X,Fr.refl h,rfl⟩ ?_
 rintro k' vars h2 ⟨i,y,vy,⟨g,rfl⟩,hi,hs,hy,Y,f,rfl⟩
 have R2:=R.mono f
 by_cases hlt:(i:Int)<(n:Int)
 case neg=>
  have e1:=eS hlt;obtain rfl:i=n:=by omega
  simp(disch:=omega)only[go_sem,lv,e1];rw[Nat.sub_self] at hs;have hs':ins t i 0 x=none:=hs.symm;refine⟨F,by rw[hs'];rfl,?_,Fx.of f⟩;unfold jP;rw[hs'];exact R2
 have e1:=iB hlt
 have hin:i<n:=by omega
 obtain⟨idy,offy,shy,hidy,hcy⟩:=hy.si.open
 rw[aP,Y.len] at shy hidy hcy
 have ci:h2.cell idy (offy+i)=some (aC (y.getD i 0:Nat)):=by rw[hcy i hin];congr 2;simp [zi,Y.len,hin]
 have hp:=Y.eX hin
 obtain⟨p,ep⟩:=exI (y.getD i 0)
 rw[ep] at ci hp
 have hstep:n-i=(n-(i+1))+1:=by omega
 rw[hstep] at hs
 obtain⟨_,id2,off2,sh2,hc2⟩:=R2.open
 have cr:=hc2 i hin
 have ce:=R2.cell hin hp
 have hS:=R2.ent i p hin hp
 by_cases hpi:p=i
 ·have hs':ins t (n-(i+1)) (i+1) y=ins t n 0 x:=by
   rw[←hs]
   conv=>rhs;unfold ins
   rw[if_pos (ep.trans hpi)]
  have e2:decide ((p:Int)=(i:Int))=true:=iB (by omega);simp(disch:=omega)only[go_sem,lv,e1,shy.ixa,ci,e2];rw[fA i];exact⟨n-(i+1),by omega,i+1,y,vy,aA rfl,by omega,hs',hy,Y,f,rfl⟩
 have e2:decide ((p:Int)=(i:Int))=false:=eS (by omega)
 have e3:decide ((p:Int)<0)=false:=eS (by omega)
 have e4:decide ((n:Int)<=(p:Int))=false:=eS (by omega)
 cases hto:t i p with
 |none=>
  rw[hto] at hS;have hS':=hS.nil;rw[hS'] at ce
  have hs':ins t n 0 x=some (i,y):=by
   rw[←hs];unfold ins;rw[if_neg (by rw[ep];exact hpi),ep,hto]
  obtain⟨h3,pt,R3,f3,n3⟩:=R2.put hin hp hy;simp(disch:=omega)only[go_sem,lv,e1,shy.ixa,ci,e2,e3,e4,sh2.ixa,cr,ce,kF hy.dZ.1 hy.dZ.2,pt];have e5:jP t n x=Pm.put t i p y:=by unfold jP;rw[hs'];simp only;rw[ep]
  refine⟨F2 F i p vy,by rw[hs'];rfl,by rw[e5];exact R3,(Fx.of f).trans f3 (λ_ _ h=>h)⟩
 |some z=>
  rw[hto] at hS;have Z:=TI.dY _ _ _ hto;have hz:PV W h2 (F i p) z:=hS;have sn:=Db hz (bT.ne h0 Z) false
  have hs':ins t (n-(i+1)) (i+1) (aW y (eH z))=ins t n 0 x:=by
   rw[←hs]
   conv=>rhs;unfold ins
   rw[if_neg (by rw[ep];exact hpi),ep,hto]
  generalize F i p=vz at ce hz sn;simp(disch:=omega)only[go_sem,lv,e1,shy.ixa,ci,e2,e3,e4,sh2.ixa,cr,ce,sn];refine (Rq vz n z h2 (by omega) Z hz.si).mono ?_;rintro w h3 nw;have f3:=nw.fr;have pw:=nw.pv (W:=W) (λhw=>by have:=R2.Kj _ hw;omega);simp(disch:=omega)only[go_sem];refine (qM vy w y (eH z) h3 (by rw[Y.len];omega) (hy.si.mono f3) pw.si (λj hj=>by rw[iH,Z.len];exact Y.eX (by rw[←Y.len];exact hj))).mono ?_;rintro v h4 ⟨s4,f4,l4⟩;simp(disch:=omega)only[go_sem];rw[fA i];exact⟨n-(i+1),by omega,i+1,_,v,aA rfl,by omega,hs',PV.fresh s4 l4 (λid hid=>lA (R2.Kj id hid) f3.next),Y.mul Z.inv,(f.trans f3).trans f4,rfl⟩
variable {h:H} {ws:List V} {l:LN} {k:Nat}
theorem tA.frb {h0 h':H}{x:V}{n m sz:Nat}{us:List V}(p:tA h x n m sz ws us h')(f:Fr h0 h){sz':Nat}{ws':List V}(o:dB h x sz' ws' h0.next):Fr h0 h':=by
 have fn:=f.next;refine⟨by rw[p.next];omega,λid hid=>?_⟩;rw[p.old id (by omega) (λid' off n c e e2=>by have:=(o.in _ _ _ _ e).2.1;omega)];exact f.get id hid
theorem Ag {h0:H}{vl v:V}(o:dB h vl 1 ws h0.next)(f:Fr h0 h)(hl:ws.length<1000000){bytes:Nat}(hb:bytes<=24):
  ∃h2,yF (h.new (.cells false [v])) 1 bytes vl (.sl h.next 0 1 (.kn 1))=some (.sl (h.next+1) 0 (ws.length+1) (.un 1),h2)/\dB h2 (.sl (h.next+1) 0 (ws.length+1) (.un 1)) 1 (ws++ [v]) h0.next/\Fr h0 h2/\h2.next=h.next+2/\ ∀id,id<h.next->dV vl id->h2.get id=h.get id:=by
 obtain⟨h1,e1,n1,g1,o1,f1⟩:=eQ (h:=h) rfl [v]
 rw[e1]
 have o2:=o.fr f1
 obtain⟨h2,a2,p2⟩:=o2.push (bytes:=bytes) (SV.one (by omega) g1 (.kn 1)) (n:=ws.length) (m:=1) (by omega) rfl (by omega) (by omega) ⟨by
  have:(2*(ws.length+1)+1000)*bytes<=(2*(ws.length+1)+1000)*24:=Nat.mul_le_mul_left _ hb
  omega,by omega⟩
 rw[n1] at a2
 have fn:=f.next
 have ow:=p2.own (by omega) rfl (b:=h0.next) (by omega)
 rw[n1] at ow
 have nx:=p2.next
 exact⟨h2,a2,ow,tA.frb p2 (f.trans f1) o2,by omega,λid h1 h2=>by rw[p2.old id (by omega) h2,o1 id (by omega)]⟩
theorem MG (t:rJ)(i p:Nat):(eR t i p).length<=p:=by
 unfold eR;have:=List.length_filterMap_le (t i) (List.range p);rwa [List.length_range] at this
theorem Qd (n:Nat)(t:rJ): ∀i,(eB n t i).length<=i*n
 |0=>by simp [eB]
 |i+1=>by
  rw[BX,oL,Nat.succ_mul];have:=Qd n t i;have:=MG t i n;omega
theorem xF (b:Nat)(W:Nat->Prop)(h:H)(n:Nat)(tv:V)(ρ:Nat->Nat)(F:Nat->Nat->V)(t:rJ)(hn:n<=64)(h0:0<n)(R:Em b W h n tv ρ F t)(TI:oT n t):
  Ev T 96 [tv] h (λv h'=> ∃ws,dB h' v 1 ws h.next/\fF W h ws (fK n t 0)/\Fr h h'):=by
 refine bH lB rfl rfl ?_
 have lv:=R.open.1
 simp(disch:=omega)only[go_sem,lB,aE]
 refine aH (λk' vars hh=> ∃(i:Nat) (vl:V) (ws:List V),(∃g:Nat->V,vars= [tv,g 1,vl,aC i,g 4,g 5,g 6,g 7])/\i<=n/\dB hh vl 1 ws h.next/\fF W h ws (eB n t i)/\Fr h hh/\k'=n-i) n
  ⟨0,.aB, [],aA rfl,iP _,dB.aB _ _ _,trivial,Fr.refl h,rfl⟩ ?_
 rintro k' vars h2 ⟨i,vl,ws,⟨g,rfl⟩,hi,ow,pvs,f,rfl⟩
 by_cases hlt:(i:Int)<(n:Int)
 case neg=>
  have e1:=eS hlt;obtain rfl:i=n:=by omega
  simp(disch:=omega)only[go_sem,lv,e1];rw[Rc] at pvs;exact⟨ws,ow,pvs,f⟩
 have e1:=iB hlt
 have hin:i<n:=by omega
 simp(disch:=omega)only[go_sem,lv,e1]
 refine yR (λvs hh=> ∃(vl:V) (ws:List V),(∃g:Nat->V,vs= [tv,g 1,vl,aC i,g 4,g 5,g 6,g 7])/\dB hh vl 1 ws h.next/\fF W h ws (eB n t (i+1))/\Fr h hh) ?_ ?_
 ·refine aH (λk' vars hh=> ∃(j:Nat) (vl:V) (ws:List V),(∃g:Nat->V,vars= [tv,g 1,vl,aC i,aC j,g 5,g 6,g 7])/\j<=n/\dB hh vl 1 ws h.next/\fF W h ws (eB n t i++eR t i j)/\Fr h hh/\k'=n-j) n
   ⟨0,vl,ws,aA rfl,iP _,ow,by unfold eR;rw[List.range_zero,List.filterMap_nil,List.append_nil];exact pvs,f,rfl⟩ ?_
  clear ow pvs f hi g
  rintro k' vars h3 ⟨j,vl,ws,⟨g,rfl⟩,hj,ow,pvs,f,rfl⟩
  by_cases hlt2:(j:Int)<(n:Int)
  case neg=>
   have e2:=eS hlt2;obtain rfl:j=n:=by omega
   simp(disch:=omega)only[go_sem,lv,e2];exact⟨vl,ws,aA rfl,ow,by rw[BX];exact pvs,f⟩
  have e2:=iB hlt2
  have hjn:j<n:=by omega
  have R3:=R.mono f
  obtain⟨_,id2,off2,sh2,hc2⟩:=R3.open
  have cr:=hc2 i hin
  have ce:=R3.cell hin hjn
  have hS:=R.ent i j hin hjn
  have lw:=aZ.length pvs
  have l1:=Qd n t i
  have l2:=MG t i j
  have l3:i*n<=64*64:=Nat.mul_le_mul (by omega) hn
  rw[oL] at lw
  cases hto:t i j with
  |none=>
   rw[hto] at hS;rw[hS.nil] at ce;simp(disch:=omega)only[go_sem,lv,e2,sh2.ixa,cr,ce];rw[fA j];refine⟨n-(j+1),by omega,j+1,vl,ws,aA rfl,by omega,ow.fr ((Fr.refl h3).bF (by omega)),?_,f.bF (by omega),rfl⟩;rw[AU,hto];simpa using pvs
  |some y=>
   rw[hto] at hS;have pz:PV W h (F i j) y:=hS;have sn:=Db pz (bT.ne h0 (TI.dY _ _ _ hto)) true;generalize F i j=vz at ce pz sn;obtain⟨S,hS3⟩:=exI h3.next;simp(disch:=omega)only[go_sem,lv,e2,sh2.ixa,cr,ce,sn,cT _ (z:= .aB) pz.dZ.1 pz.dZ.2];obtain⟨h4,a4,ow4,f4,n4,_⟩:=Ag (v:=vz) ow f (by omega) (bytes:=24) (by omega);simp(disch:=omega)only[go_sem,a4];rw[fA j];refine⟨n-(j+1),by omega,j+1,_,_,aA rfl,by omega,ow4,?_,f4,rfl⟩;rw[AU,hto,←List.append_assoc];exact pvs.append (fF.one pz)
 rintro vars h3 ⟨vl,ws,⟨g,rfl⟩,ow,pvs,f⟩
 simp(disch:=omega)only[go_sem]
 rw[fA i]
 exact⟨n-(i+1),by omega,i+1,vl,ws,aA rfl,by omega,ow,pvs,f,rfl⟩
theorem fF.open {W:Nat->Prop}{v:V}(sv:SV h v 1 ws)(p:fF W h ws l):cY v=some (aC (l.length:Int))/\ ∃id off,Sl v 1 l.length id off/\ ∀i,i<l.length->id<h.next/\h.cell id (off+i)=some (ws.getD i .undef)/\PV W h (ws.getD i .undef) (l.getD i []):=by
 have hl:=aZ.length p;refine⟨by unfold cY;rw[SV.len sv (n:=l.length) (by omega) (by omega)];rfl,?_⟩;obtain⟨id,off,sh,hid,hc⟩:=SV.shape sv l.length (by omega) (by omega);refine⟨id,off,sh,λi hi=>⟨hid (by omega),?_,?_⟩⟩
 ·rw[hc i (by omega)];simp [List.getD,show i<ws.length by omega]
 ·obtain⟨w,h1,h2⟩:=fF.at p hi
  rw[List.getD,h1];exact h2
theorem Lg {α:Type}{l:List α}{x d:α}:x∈l.take k↔ ∃q,q<k/\q<l.length/\l.getD q d=x:=by
 constructor
 ·intro h
  obtain⟨q,hq,e⟩:=Dt.1 h;rw[Lz] at hq;refine⟨q,by omega,by omega,?_⟩;rw[List.getElem_take] at e;rw[List.getD,fS (by omega),←e];rfl
 ·rintro⟨q,h1,h2,e⟩
  rw[List.getD,fS h2] at e;refine Dt.2 ⟨q,by rw[Lz];omega,?_⟩;rw[List.getElem_take];exact e
theorem Bp {x:List Nat}(hk:k<l.length):x∈l.take (k+1)↔x∈l.take k∨l.getD k []=x:=by
 rw[Lg (d:= []),Lg (d:= [])];constructor
 ·rintro⟨q,h1,h2,e⟩
  by_cases h:q=k
  ·subst h;exact .inr e
  ·exact .inl ⟨q,by omega,h2,e⟩
 ·rintro (⟨q,h1,h2,e⟩|e)
  ·exact⟨q,by omega,h2,e⟩
  ·exact⟨k,by omega,hk,e⟩
theorem IX {L:LN}(hk:k<L.length):(L.take (k+1)).filter (λy=>decide (y∉l))=(L.take k).filter (λy=>decide (y∉l))++if L.getD k []∈l then [] else [L.getD k []]:=by
 rw[dI [] hk,List.filter_append];generalize L.getD k []=z
 by_cases e:z∈l<;>simp [e,List.filter]
theorem PS (b:Nat)(W:Nat->Prop)(h:H)(n:Nat)(tv vl:V)(wl:List V)(l:LN)(ρ:Nat->Nat)(F:Nat->Nat->V)(t:rJ)(hn:n<=64)(h0:0<n)(R:Em b W h n tv ρ F t)(TI:oT n t)(sl:SV h vl 1 wl)(pl:fF W h wl l)(hl: ∀x∈l,bT n x)(ll:l.length<1000000):
  Ev T 97 [tv,vl] h (λv h'=> ∃ws,dB h' v 1 ws h.next/\fF W h ws (XS n t l)/\Fr h h'):=by
 refine bH nK rfl rfl ?_
 simp(disch:=omega)only[go_sem,nK,aE]
 refine (xF b W h n tv ρ F t hn h0 R TI).mono ?_
 rintro ve h1 ⟨we,oe,pe,f1⟩
 obtain⟨L,hL⟩:=exI (fK n t 0)
 have EP: ∀y∈L,bT n y:=λy hy=>TI.DG y (by rw[hL];exact hy)
 have lL:L.length<=4096:=by
  rw[←hL,←Rc];have:=Qd n t n;have:=Nat.mul_le_mul hn hn;omega
 unfold XS
 rw[hL] at pe ⊢
 have pe1:fF W h1 we L:=fF.fx pe (Fx.of f1)
 have lle:=aZ.length pe
 obtain⟨lve,id1,off1,sh1,hc1⟩:=fF.open oe.sv pe1
 obtain⟨lvl,id2,off2,sh2,hc2⟩:=fF.open sl pl
 simp(disch:=omega)only[go_sem]
 refine aH (λk' vars hh=> ∃(i:Nat) (vo:V) (ws:List V),(∃g:Nat->V,vars= [tv,vl,g 2,vo,ve,aC i,g 6,g 7,g 8,g 9,g 10])/\i<=L.length/\dB hh vo 1 ws h1.next/\fF W h ws ((L.take i).filter λy=>decide (y∉l))/\Fr h1 hh/\k'=L.length-i) L.length
  ⟨0,.aB, [],aA rfl,iP _,dB.aB _ _ _,trivial,Fr.refl h1,rfl⟩ ?_
 rintro k' vars h2 ⟨i,vo,ws,⟨g,rfl⟩,hi,ow,pvs,f,rfl⟩
 by_cases hlt:(i:Int)<(L.length:Int)
 case neg=>
  have e1:=eS hlt;obtain rfl:i=L.length:=by omega
  simp(disch:=omega)only[go_sem,lve,e1];rw[List.take_length] at pvs;exact⟨ws,ow.le f1.next,pvs,f1.trans f⟩
 have e1:=iB hlt
 have hiL:i<L.length:=by omega
 obtain⟨i1,c1,p1⟩:=hc1 i hiL
 have Y:=EP _ (bD (d:= []) hiL)
 obtain⟨y,hy⟩:=exI (L.getD i [])
 have hpw:PV W h (we.getD i .undef) (L.getD i []):=by
  obtain⟨w,h3,h4⟩:=fF.at pe hiL;rw[List.getD,h3];exact h4
 rw[hy] at p1 Y hpw
 generalize we.getD i .undef=vy at c1 p1 hpw
 simp(disch:=omega)only[go_sem,lve,e1]
 refine bJ (λvs hh=>(∃g:Nat->V,vs= [tv,vl,g 2,vo,ve,aC i,.bool (decide (y∈l)),g 7,g 8,g 9,g 10])/\Fr h2 hh) ?_ ?_
 ·refine aH (λk' vars hh=> ∃(k:Nat) (s:Bool),(∃g:Nat->V,vars= [tv,vl,g 2,vo,ve,aC i,.bool s,aC k,g 8,g 9,g 10])/\k<=l.length/\(s=true↔y∈l.take k)/\Fr h2 hh/\k'=l.length-k) l.length
   ⟨0,false,aA rfl,iP _,by simp,Fr.refl h2,rfl⟩ ?_
  clear g
  rintro k' vars h3 ⟨k,s,⟨g,rfl⟩,hk,hs,f3,rfl⟩
  cases s with
  |true=>
   have e3:decide (y∈l)=true:=decide_eq_true (List.mem_of_mem_take (hs.1 rfl));simp(disch:=omega)only[go_sem];exact⟨by rw[e3];exact aA rfl,f3⟩
  |false=>
  have hs':y∉l.take k:=λh=>by have:=hs.2 h;cases this
  by_cases hlt2:(k:Int)<(l.length:Int)
  case neg=>
   have e3:=eS hlt2;obtain rfl:k=l.length:=by omega
   rw[List.take_length] at hs';have e4:decide (y∈l)=false:=decide_eq_false hs';simp(disch:=omega)only[go_sem,lvl,e3];exact⟨by rw[e4];exact aA rfl,f3⟩
  have e3:=iB hlt2
  have hkl:k<l.length:=by omega
  obtain⟨i2,c2,p2⟩:=hc2 k hkl
  have Z:=hl _ (bD (d:= []) hkl)
  obtain⟨z,hz⟩:=exI (l.getD k [])
  rw[hz] at p2 Z
  generalize wl.getD k .undef=vz at c2 p2
  have F13:=f.trans f3
  have F03:=f1.trans F13
  have c13:h3.cell id1 (off1+i)=some vy:=by rw[F13.cell i1];exact c1
  have c23:h3.cell id2 (off2+k)=some vz:=by rw[F03.cell i2];exact c2
  have v1:=SV.dW p1.si
  have v2:=SV.dW p2.si
  simp(disch:=omega)only[go_sem,lvl,e3,sh1.ixa,c13,sh2.ixa,c23]
  have fb:Fr h3 (H.mk h3.tr (h3.next+10)):=(Fr.refl h3).bF (by omega)
  refine (Ad vy vz _ _ _ (p1.si.mono (F13.trans fb)) (p2.si.mono (F03.trans fb)) (by rw[aP,Y.len];omega) (by rw[aP,Z.len];omega)).mono ?_
  rintro _ h4 ⟨rfl,f4⟩
  have f34:=fb.trans f4
  have c14:h4.cell id1 (off1+i)=some vy:=by rw[(F13.trans f34).cell i1];exact c1
  have c24:h4.cell id2 (off2+k)=some vz:=by rw[(F03.trans f34).cell i2];exact c2
  simp(disch:=omega)only[go_sem,c14,c24,v1,v2]
  rw[fA k]
  refine⟨l.length-(k+1),by omega,k+1,_,aA rfl,by omega,?_,f3.trans f34,rfl⟩
  rw[decide_eq_true_iff,Bp hkl,hz]
  exact⟨λe=> .inr (Zd e).symm,λh=>h.elim (λh=>(hs' h).elim) λe=>by rw[e]⟩
 rintro vars h3 ⟨⟨g,rfl⟩,f3⟩
 have F13:=f.trans f3
 have c13:h3.cell id1 (off1+i)=some vy:=by rw[F13.cell i1];exact c1
 have ow3:=ow.fr f3
 have hlw:=aZ.length pvs
 have hll:((L.take i).filter λy=>decide (y∉l)).length<=i:=Nat.le_trans (List.length_filter_le _ _) (by rw[Lz];omega)
 have ft:=IX (L:=L) (l:=l) hiL
 rw[hy] at ft
 by_cases hm:y∈l
 ·have e3:decide (y∈l)=true:=decide_eq_true hm
  simp(disch:=omega)only[go_sem,e3]
  rw[fA i]
  rw[if_pos hm,List.append_nil] at ft
  exact⟨L.length-(i+1),by omega,i+1,vo,ws,aA rfl,by omega,ow3,by rw[ft];exact pvs,F13,rfl⟩
 ·have e3:decide (y∈l)=false:=decide_eq_false hm
  obtain⟨h4,a4,ow4,f4,n4,_⟩:=Ag (v:=vy) ow3 F13 (by omega) (bytes:=24) (by omega)
  simp(disch:=omega)only[go_sem,e3,sh1.ixa,c13,cT _ (z:= .aB) p1.dZ.1 p1.dZ.2,a4]
  rw[fA i]
  rw[if_neg hm] at ft
  exact⟨L.length-(i+1),by omega,i+1,_,_,aA rfl,by omega,ow4,by rw[ft];exact pvs.append (fF.one hpw),f4,rfl⟩
end Go.Proofs.YtddpkbicnolafaaGreat
