/- Texts of the claim. -/
import Derived.Test.YtapfcpkecmmagaaGreatP4atoSc4
import Derived.Test.YtapfcpkecmmagaaGreatDp2toSm
import Derived.Test.YtapfcpkecmmagaaGreatP5a
set_option maxHeartbeats 32000000
namespace Go.Proofs.YtapfcpkecmmagaaGreat.Cls
open Go Go.Ay Go.Sort
set_option maxRecDepth 100000
section
variable {j i:Nat}
theorem scU_t {α:Type}[Inhabited α]{p:α->Bool}{d:Array α}(h1:i<=j)(h2:p d[i]! =true):scanUp p d j i=scanUp p d j (i+1):=by rw[scanUp,if_pos (by simp [h1,h2])]
theorem scU_f {α:Type}[Inhabited α]{p:α->Bool}{d:Array α}(h: ¬(i<=j/\p d[i]! =true)):scanUp p d j i=i:=by rw[scanUp,if_neg (by simpa using h)]
theorem scD_t {α:Type}[Inhabited α]{p:α->Bool}{d:Array α}(h1:i<=j+1)(h2:p d[j+1]! =true):scanDown p d i (j+1)=scanDown p d i j:=by rw[scanDown,if_pos (by simp [h1,h2])]
theorem scD_f {α:Type}[Inhabited α]{p:α->Bool}{d:Array α}(h: ¬(i<=j/\p d[j]! =true)):scanDown p d i j=j:=by
 cases j with
 |zero=>rfl
 |succ j=>rw[scanDown,if_neg (by simpa using h)]
theorem scanUp_hi {α:Type}[Inhabited α](p:α->Bool)(d:Array α)(j i:Nat):scanUp p d j i<=max i (j+1):=by
 obtain⟨n,hn⟩:=AS (j+1-i)
 induction n generalizing i with
 |zero=>rw[scU_f (λh=>by have:=h.1;omega)];omega
 |succ n ih=>
  by_cases h:i<=j/\p d[i]! =true
  ·rw[scU_t h.1 h.2]
   have:=ih (i+1) (by omega);omega
  ·rw[scU_f h];omega
theorem partition_ok {α:Type}[Inhabited α][O:Srt α](h:H)(S N a b pv:Nat)(d:Array α)(cp:kL)(hN:N<1000000)(A:Arr h S N d)(hb:b<=N)(hap:a<=pv)(hpb:pv<b):
  Ev T 146 [.sl S 0 N cp,aC a,aC b,aC pv,.fn (Srt.f α) [] []] h (λv h'=>v= .tup [aC ((partition Srt.lt d a b pv).1:Nat),.bool (partition Srt.lt d a b pv).2.1]/\Arr h' S N (partition Srt.lt d a b pv).2.2/\Fx (· =S) h h'):=by
 refine bP c_slices_partitionCmpFunc_classes_class rfl rfl ?_
 have sz:=A.size
 have c1:=A.rd (i:=a) (by omega)
 have c2:=A.rd (i:=pv) (by omega)
 simp(disch:=omega)only[go_sem,c_slices_partitionCmpFunc_classes_class,aE,c1,c2,A.get,put_cont,put_cont']
 have W:=A.swap (i:=a) (j:=pv) (nx:=h.next+16) (by omega) rfl
 obtain⟨h1,h1e⟩: ∃h1,h1=((H.mk h.tr (h.next+16)).set S (cE (flat (d.setIfInBounds a d[pv]!).toList))).set S (cE (flat ((d.setIfInBounds a d[pv]!).setIfInBounds pv d[a]!).toList)):=⟨_,rfl⟩
 rw[←h1e] at W ⊢
 obtain⟨A1,F1⟩:=W
 obtain⟨e,he⟩:=AS (swp d a pv)
 rw[he] at A1
 clear h1e c1 c2 A
 have eb:(b:Int)- 1=((b- 1:Nat):Int):=by omega
 have ea:(a:Int)+1=((a+1:Nat):Int):=by omega
 have hP:partition Srt.lt d a b pv=if scanUp (λx=>Srt.lt x e[a]!) e (b- 1) (a+1)>scanDown (λx=>!Srt.lt x e[a]!) e (scanUp (λx=>Srt.lt x e[a]!) e (b- 1) (a+1)) (b- 1) then
   (scanDown (λx=>!Srt.lt x e[a]!) e (scanUp (λx=>Srt.lt x e[a]!) e (b- 1) (a+1)) (b- 1),true,swp e (scanDown (λx=>!Srt.lt x e[a]!) e (scanUp (λx=>Srt.lt x e[a]!) e (b- 1) (a+1)) (b- 1)) a) else
   ((partLoop Srt.lt a (scanUp (λx=>Srt.lt x e[a]!) e (b- 1) (a+1)+1) (scanDown (λx=>!Srt.lt x e[a]!) e (scanUp (λx=>Srt.lt x e[a]!) e (b- 1) (a+1)) (b- 1)- 1) (swp e (scanUp (λx=>Srt.lt x e[a]!) e (b- 1) (a+1)) (scanDown (λx=>!Srt.lt x e[a]!) e (scanUp (λx=>Srt.lt x e[a]!) e (b- 1) (a+1)) (b- 1)))).1,false,
    swp (partLoop Srt.lt a (scanUp (λx=>Srt.lt x e[a]!) e (b- 1) (a+1)+1) (scanDown (λx=>!Srt.lt x e[a]!) e (scanUp (λx=>Srt.lt x e[a]!) e (b- 1) (a+1)) (b- 1)- 1) (swp e (scanUp (λx=>Srt.lt x e[a]!) e (b- 1) (a+1)) (scanDown (λx=>!Srt.lt x e[a]!) e (scanUp (λx=>Srt.lt x e[a]!) e (b- 1) (a+1)) (b- 1)))).2 (partLoop Srt.lt a (scanUp (λx=>Srt.lt x e[a]!) e (b- 1) (a+1)+1) (scanDown (λx=>!Srt.lt x e[a]!) e (scanUp (λx=>Srt.lt x e[a]!) e (b- 1) (a+1)) (b- 1)- 1) (swp e (scanUp (λx=>Srt.lt x e[a]!) e (b- 1) (a+1)) (scanDown (λx=>!Srt.lt x e[a]!) e (scanUp (λx=>Srt.lt x e[a]!) e (b- 1) (a+1)) (b- 1)))).1 a):=by
  rw[←he];rfl
 obtain⟨R,hRe⟩:=AS (partition Srt.lt d a b pv)
 rw[hRe] at hP
 rw[hRe]
 simp(disch:=omega)only[go_sem,ea,eb]
 refine cF (λvs hh=>(∃g:Nat->V,vs= [.sl S 0 N cp,aC a,aC b,aC pv,.fn (Srt.f α) [] [],g 5,g 6,aC (scanUp (λx=>Srt.lt x e[a]!) e (b- 1) (a+1):Nat),aC ((b- 1):Nat),g 9,g 10,g 11,g 12,g 13,g 14])/\Arr hh S N e/\Fx (· =S) h hh) ?_ ?_
 ·refine aJ (λk' vs hh=> ∃(k:Nat),(∃g:Nat->V,vs= [.sl S 0 N cp,aC a,aC b,aC pv,.fn (Srt.f α) [] [],g 5,g 6,aC (k:Nat),aC ((b- 1):Nat),g 9,g 10,g 11,g 12,g 13,g 14])/\(a+1)<=k/\k<=N+2/\Arr hh S N e/\scanUp (λx=>Srt.lt x e[a]!) e (b- 1) k=scanUp (λx=>Srt.lt x e[a]!) e (b- 1) (a+1)/\Fx (· =S) h hh/\k'=(b- 1)+1-k) ((b- 1)+1-(a+1))
   ⟨(a+1),aA rfl,by omega,by omega,A1,rfl,F1,rfl⟩ ?_
  rintro k' vars hs ⟨k,⟨g,rfl⟩,hk1,hk2,As,hS,Fs,rfl⟩
  by_cases hij:(k:Int)<=(((b- 1):Nat):Int)
  ·have e1:decide ((k:Int)<=(((b- 1):Nat):Int))=true:=decide_eq_true hij
   have eK:(k:Int)+1=((k+1:Nat):Int):=by omega
   have szs:=As.size
   have c1:=As.rd (i:=k) (by omega)
   have c2:=As.rd (i:=a) (by omega)
   simp(disch:=omega)only[go_sem,e1,c1,c2]
   refine (srt_cmp As (i:=k) (j:=a) (by omega) (by omega) _ (by omega)).mono ?_
   rintro _ hs2 ⟨z,rfl,hz,fhs2⟩
   have fs2:Fr hs hs2:=Fr.trans ((Fr.refl hs).bJ (by omega)) fhs2
   have As2:=As.fr fs2
   have Fs2:=fxt Fs (Fx.of fs2)
   cases hl:Srt.lt e[k]! e[a]! with
   |false=>
    rw[scU_f (λhh=>by have:=hh.2;simp [hl] at this)] at hS;simp(disch:=omega)only[go_sem,hz,hl];exact⟨by rw[←hS];exact aA rfl,As2,Fs2⟩
   |true=>
    rw[scU_t (by omega) (by simp [hl])] at hS;simp(disch:=omega)only[go_sem,hz,hl,eK];exact⟨(b- 1)+1-(k+1),by omega,k+1,aA rfl,by omega,by omega,As2,hS,Fs2,rfl⟩
  ·have e1:decide ((k:Int)<=(((b- 1):Nat):Int))=false:=decide_eq_false hij
   rw[scU_f (λhh=>hij (by have:=hh.1;omega))] at hS
   simp(disch:=omega)only[go_sem,e1]
   exact⟨by rw[←hS];exact aA rfl,As.fr ((Fr.refl hs).bJ (by omega)),fxt Fs (Fx.of ((Fr.refl hs).bJ (by omega)))⟩
 ·rintro vars h9 ⟨⟨g,rfl⟩,A9,F9⟩
  have hge:=scanUp_ge (λx=>Srt.lt x e[a]!) e (b- 1) (a+1)
  have hhi:=scanUp_hi (λx=>Srt.lt x e[a]!) e (b- 1) (a+1)
  obtain⟨i2,hi2⟩: ∃x,scanUp (λx=>Srt.lt x e[a]!) e (b- 1) (a+1)=x:=⟨_,rfl⟩
  rw[hi2] at hge hhi
  rw[hi2]
  simp(disch:=omega)only[go_sem]
  refine cF (λvs hh=>(∃g:Nat->V,vs= [.sl S 0 N cp,aC a,aC b,aC pv,.fn (Srt.f α) [] [],g 5,g 6,aC (i2:Nat),aC (scanDown (λx=>!Srt.lt x e[a]!) e i2 (b- 1):Nat),g 9,g 10,g 11,g 12,g 13,g 14])/\Arr hh S N e/\Fx (· =S) h hh) ?_ ?_
  ·refine aJ (λk' vs hh=> ∃(k:Nat),(∃g:Nat->V,vs= [.sl S 0 N cp,aC a,aC b,aC pv,.fn (Srt.f α) [] [],g 5,g 6,aC (i2:Nat),aC (k:Nat),g 9,g 10,g 11,g 12,g 13,g 14])/\k<=(b- 1)/\Arr hh S N e/\scanDown (λx=>!Srt.lt x e[a]!) e i2 k=scanDown (λx=>!Srt.lt x e[a]!) e i2 (b- 1)/\Fx (· =S) h hh/\k'=k) (b- 1)
    ⟨(b- 1),aA rfl,by omega,A9,rfl,F9,rfl⟩ ?_
   rintro k' vars hs ⟨k,⟨g,rfl⟩,hk1,As,hS,Fs,hkk⟩
   subst hkk
   by_cases hij:((i2:Nat):Int)<=(k':Int)
   ·have e1:decide (((i2:Nat):Int)<=(k':Int))=true:=decide_eq_true hij
    obtain⟨k,rfl⟩: ∃k,k'=k+1:=⟨k'- 1,by omega⟩
    have eK:((k+1:Nat):Int)- 1=(k:Int):=by omega
    have szs:=As.size
    have c1:=As.rd (i:=k+1) (by omega)
    have c2:=As.rd (i:=a) (by omega)
    simp(disch:=omega)only[go_sem,e1,c1,c2]
    refine (srt_cmp As (i:=k+1) (j:=a) (by omega) (by omega) _ (by omega)).mono ?_
    rintro _ hs2 ⟨z,rfl,hz,fhs2⟩
    have fs2:Fr hs hs2:=Fr.trans ((Fr.refl hs).bJ (by omega)) fhs2
    have As2:=As.fr fs2
    have Fs2:=fxt Fs (Fx.of fs2)
    cases hl:Srt.lt e[k+1]! e[a]! with
    |true=>
     rw[scD_f (λhh=>by have:=hh.2;simp [hl] at this)] at hS;simp(disch:=omega)only[go_sem,hz,hl];exact⟨by rw[←hS];exact aA rfl,As2,Fs2⟩
    |false=>
     rw[scD_t (by omega) (by simp [hl])] at hS;simp(disch:=omega)only[go_sem,hz,hl,eK];exact⟨k,by omega,k,aA rfl,by omega,As2,hS,Fs2,rfl⟩
   ·have e1:decide (((i2:Nat):Int)<=(k':Int))=false:=decide_eq_false hij
    rw[scD_f (λhh=>hij (by have:=hh.1;omega))] at hS
    simp(disch:=omega)only[go_sem,e1]
    exact⟨by rw[←hS];exact aA rfl,As.fr ((Fr.refl hs).bJ (by omega)),fxt Fs (Fx.of ((Fr.refl hs).bJ (by omega)))⟩
  ·rintro vars h2 ⟨⟨g,rfl⟩,A2,F2⟩
   have hle:=scanDown_le (λx=>!Srt.lt x e[a]!) e i2 (b- 1)
   obtain⟨j2,hj2⟩: ∃x,scanDown (λx=>!Srt.lt x e[a]!) e i2 (b- 1)=x:=⟨_,rfl⟩
   rw[hj2] at hle
   rw[hj2]
   rw[hi2,hj2] at hP
   have sz2:=A2.size
   by_cases hgt:(j2:Int)<(i2:Int)
   ·have e1:decide ((j2:Int)<(i2:Int))=true:=decide_eq_true hgt
    rw[if_pos (by omega)] at hP
    have c1:=A2.rd (i:=j2) (by omega)
    have c2:=A2.rd (i:=a) (by omega)
    simp(disch:=omega)only[go_sem,e1,c1,c2,A2.get,put_cont,put_cont']
    have W:=A2.swap (i:=j2) (j:=a) (nx:=h2.next+16) (by omega) rfl
    rw[hP]
    exact⟨rfl,W.1,fxt F2 W.2⟩
   have e1:decide ((j2:Int)<(i2:Int))=false:=decide_eq_false hgt
   rw[if_neg (by omega)] at hP
   have c1:=A2.rd (i:=i2) (by omega)
   have c2:=A2.rd (i:=j2) (by omega)
   simp(disch:=omega)only[go_sem,e1,c1,c2,A2.get,put_cont,put_cont']
   have W:=A2.swap (i:=i2) (j:=j2) (nx:=h2.next+16) (by omega) rfl
   obtain⟨h3,h3e⟩: ∃h3,h3=((H.mk h2.tr (h2.next+16)).set S (cE (flat (e.setIfInBounds i2 e[j2]!).toList))).set S (cE (flat ((e.setIfInBounds i2 e[j2]!).setIfInBounds j2 e[i2]!).toList)):=⟨_,rfl⟩
   rw[←h3e] at W ⊢
   obtain⟨A3,F30⟩:=W
   have F3:=fxt F2 F30
   have hij2:i2<=j2:=by omega
   obtain⟨e0,he0⟩:=AS (swp e i2 j2)
   rw[he0] at A3 hP
   clear h3e c1 c2 A2 A9 F9 A1 F1 he hgt e1
   have ei:(i2:Int)+1=((i2+1:Nat):Int):=by omega
   have ej:(j2:Int)- 1=((j2- 1:Nat):Int):=by omega
   simp(disch:=omega)only[go_sem,ei,ej]
   refine cF (λvs hh=>(∃g:Nat->V,vs= [.sl S 0 N cp,aC a,aC b,aC pv,.fn (Srt.f α) [] [],g 5,g 6,g 7,aC (((partLoop Srt.lt a (i2+1) (j2- 1) e0).1:Nat):Int),g 9,g 10,g 11,g 12,g 13,g 14])/\Arr hh S N (partLoop Srt.lt a (i2+1) (j2- 1) e0).2/\(partLoop Srt.lt a (i2+1) (j2- 1) e0).1<b/\Fx (· =S) h hh) ?_ ?_
   ·refine aJ (λk' vs hh=> ∃(i j:Nat) (e:Array α),(∃g:Nat->V,vs= [.sl S 0 N cp,aC a,aC b,aC pv,.fn (Srt.f α) [] [],g 5,g 6,aC i,aC j,g 9,g 10,g 11,g 12,g 13,g 14])/\a<i/\i<=b+1/\j<b/\Arr hh S N e/\partLoop Srt.lt a i j e=partLoop Srt.lt a (i2+1) (j2- 1) e0/\Fx (· =S) h hh/\k'=j) (j2- 1)
     ⟨i2+1,j2- 1,e0,aA rfl,by omega,by omega,by omega,A3,rfl,F3,rfl⟩ ?_
    obtain⟨R2,hR2⟩:=AS (partLoop Srt.lt a (i2+1) (j2- 1) e0)
    rw[hR2]
    clear hP hR2 hi2 hj2 he0 ei ej hle hge hhi F3 F30 A3 sz2 h3 hij2
    clear i2 j2
    rintro k' vars h3 ⟨i,j,e,⟨g,rfl⟩,hi1,hi2,hj,A3,hL,F3,hkk⟩
    rw[partLoop_eq] at hL
    simp(disch:=omega)only[go_sem]
    refine cF (λvs hh=>(∃g:Nat->V,vs= [.sl S 0 N cp,aC a,aC b,aC pv,.fn (Srt.f α) [] [],g 5,g 6,aC (scanUp (λx=>Srt.lt x e[a]!) e j i:Nat),aC (j:Nat),g 9,g 10,g 11,g 12,g 13,g 14])/\Arr hh S N e/\Fx (· =S) h hh) ?_ ?_
    ·refine aJ (λk' vs hh=> ∃(k:Nat),(∃g:Nat->V,vs= [.sl S 0 N cp,aC a,aC b,aC pv,.fn (Srt.f α) [] [],g 5,g 6,aC (k:Nat),aC (j:Nat),g 9,g 10,g 11,g 12,g 13,g 14])/\i<=k/\k<=N+2/\Arr hh S N e/\scanUp (λx=>Srt.lt x e[a]!) e j k=scanUp (λx=>Srt.lt x e[a]!) e j i/\Fx (· =S) h hh/\k'=j+1-k) (j+1-i)
      ⟨i,aA rfl,by omega,by omega,A3,rfl,F3,rfl⟩ ?_
     rintro k' vars hs ⟨k,⟨g,rfl⟩,hk1,hk2,As,hS,Fs,rfl⟩
     by_cases hij:(k:Int)<=((j:Nat):Int)
     ·have e1:decide ((k:Int)<=((j:Nat):Int))=true:=decide_eq_true hij
      have eK:(k:Int)+1=((k+1:Nat):Int):=by omega
      have szs:=As.size
      have c1:=As.rd (i:=k) (by omega)
      have c2:=As.rd (i:=a) (by omega)
      simp(disch:=omega)only[go_sem,e1,c1,c2]
      refine (srt_cmp As (i:=k) (j:=a) (by omega) (by omega) _ (by omega)).mono ?_
      rintro _ hs2 ⟨z,rfl,hz,fhs2⟩
      have fs2:Fr hs hs2:=Fr.trans ((Fr.refl hs).bJ (by omega)) fhs2
      have As2:=As.fr fs2
      have Fs2:=fxt Fs (Fx.of fs2)
      cases hl:Srt.lt e[k]! e[a]! with
      |false=>
       rw[scU_f (λhh=>by have:=hh.2;simp [hl] at this)] at hS;simp(disch:=omega)only[go_sem,hz,hl];exact⟨by rw[←hS];exact aA rfl,As2,Fs2⟩
      |true=>
       rw[scU_t (by omega) (by simp [hl])] at hS;simp(disch:=omega)only[go_sem,hz,hl,eK];exact⟨j+1-(k+1),by omega,k+1,aA rfl,by omega,by omega,As2,hS,Fs2,rfl⟩
     ·have e1:decide ((k:Int)<=((j:Nat):Int))=false:=decide_eq_false hij
      rw[scU_f (λhh=>hij (by have:=hh.1;omega))] at hS
      simp(disch:=omega)only[go_sem,e1]
      exact⟨by rw[←hS];exact aA rfl,As.fr ((Fr.refl hs).bJ (by omega)),fxt Fs (Fx.of ((Fr.refl hs).bJ (by omega)))⟩
    ·rintro vars h9 ⟨⟨g,rfl⟩,A9,F9⟩
     have hge:=scanUp_ge (λx=>Srt.lt x e[a]!) e j i
     have hhi:=scanUp_hi (λx=>Srt.lt x e[a]!) e j i
     obtain⟨u,hu⟩: ∃x,scanUp (λx=>Srt.lt x e[a]!) e j i=x:=⟨_,rfl⟩
     rw[hu] at hge hhi
     rw[hu]
     simp(disch:=omega)only[go_sem]
     refine cF (λvs hh=>(∃g:Nat->V,vs= [.sl S 0 N cp,aC a,aC b,aC pv,.fn (Srt.f α) [] [],g 5,g 6,aC (u:Nat),aC (scanDown (λx=>!Srt.lt x e[a]!) e u j:Nat),g 9,g 10,g 11,g 12,g 13,g 14])/\Arr hh S N e/\Fx (· =S) h hh) ?_ ?_
     ·refine aJ (λk' vs hh=> ∃(k:Nat),(∃g:Nat->V,vs= [.sl S 0 N cp,aC a,aC b,aC pv,.fn (Srt.f α) [] [],g 5,g 6,aC (u:Nat),aC (k:Nat),g 9,g 10,g 11,g 12,g 13,g 14])/\k<=j/\Arr hh S N e/\scanDown (λx=>!Srt.lt x e[a]!) e u k=scanDown (λx=>!Srt.lt x e[a]!) e u j/\Fx (· =S) h hh/\k'=k) j
       ⟨j,aA rfl,by omega,A9,rfl,F9,rfl⟩ ?_
      rintro k' vars hs ⟨k,⟨g,rfl⟩,hk1,As,hS,Fs,hkk⟩
      subst hkk
      by_cases hij:((u:Nat):Int)<=(k':Int)
      ·have e1:decide (((u:Nat):Int)<=(k':Int))=true:=decide_eq_true hij
       obtain⟨k,rfl⟩: ∃k,k'=k+1:=⟨k'- 1,by omega⟩
       have eK:((k+1:Nat):Int)- 1=(k:Int):=by omega
       have szs:=As.size
       have c1:=As.rd (i:=k+1) (by omega)
       have c2:=As.rd (i:=a) (by omega)
       simp(disch:=omega)only[go_sem,e1,c1,c2]
       refine (srt_cmp As (i:=k+1) (j:=a) (by omega) (by omega) _ (by omega)).mono ?_
       rintro _ hs2 ⟨z,rfl,hz,fhs2⟩
       have fs2:Fr hs hs2:=Fr.trans ((Fr.refl hs).bJ (by omega)) fhs2
       have As2:=As.fr fs2
       have Fs2:=fxt Fs (Fx.of fs2)
       cases hl:Srt.lt e[k+1]! e[a]! with
       |true=>
        rw[scD_f (λhh=>by have:=hh.2;simp [hl] at this)] at hS;simp(disch:=omega)only[go_sem,hz,hl];exact⟨by rw[←hS];exact aA rfl,As2,Fs2⟩
       |false=>
        rw[scD_t (by omega) (by simp [hl])] at hS;simp(disch:=omega)only[go_sem,hz,hl,eK];exact⟨k,by omega,k,aA rfl,by omega,As2,hS,Fs2,rfl⟩
      ·have e1:decide (((u:Nat):Int)<=(k':Int))=false:=decide_eq_false hij
       rw[scD_f (λhh=>hij (by have:=hh.1;omega))] at hS
       simp(disch:=omega)only[go_sem,e1]
       exact⟨by rw[←hS];exact aA rfl,As.fr ((Fr.refl hs).bJ (by omega)),fxt Fs (Fx.of ((Fr.refl hs).bJ (by omega)))⟩
     ·rintro vars h4 ⟨⟨g,rfl⟩,A4,F4⟩
      have hle:=scanDown_le (λx=>!Srt.lt x e[a]!) e u j
      obtain⟨w,hw⟩: ∃x,scanDown (λx=>!Srt.lt x e[a]!) e u j=x:=⟨_,rfl⟩
      rw[hw] at hle
      rw[hw]
      rw[hu,hw] at hL
      have sz4:=A4.size
      by_cases hgt:(w:Int)<(u:Int)
      ·have e1:decide ((w:Int)<(u:Int))=true:=decide_eq_true hgt
       rw[if_pos (by omega)] at hL
       simp(disch:=omega)only[go_sem,e1]
       rw[←hL]
       exact⟨aA rfl,A4,by omega,F4⟩
      have e1:decide ((w:Int)<(u:Int))=false:=decide_eq_false hgt
      rw[if_neg (by omega)] at hL
      have c1:=A4.rd (i:=u) (by omega)
      have c2:=A4.rd (i:=w) (by omega)
      have ei:(u:Int)+1=((u+1:Nat):Int):=by omega
      have ej:(w:Int)- 1=((w- 1:Nat):Int):=by omega
      simp(disch:=omega)only[go_sem,e1,c1,c2,A4.get,put_cont,put_cont',ei,ej]
      have W:=A4.swap (i:=u) (j:=w) (nx:=h4.next+16) (by omega) rfl
      exact⟨w- 1,by omega,u+1,w- 1,_,aA rfl,by omega,by omega,by omega,W.1,hL,fxt F4 W.2,rfl⟩
   ·rintro vars h5 ⟨⟨g,rfl⟩,A5,hlt5,F5⟩
    generalize partLoop Srt.lt a (i2+1) (j2- 1) e0=r at hP A5 hlt5
    obtain⟨m,e5⟩:=r
    have hlt5:m<b:=hlt5
    have A5:Arr h5 S N e5:=A5
    have sz5:=A5.size
    have c1:=A5.rd (i:=m) (by omega)
    have c2:=A5.rd (i:=a) (by omega)
    simp(disch:=omega)only[go_sem,c1,c2,A5.get,put_cont,put_cont']
    have W:=A5.swap (i:=m) (j:=a) (nx:=h5.next+16) (by omega) rfl
    rw[hP]
    exact⟨rfl,W.1,fxt F5 W.2⟩
theorem partEq_ok {α:Type}[Inhabited α][O:Srt α](h:H)(S N a b pv:Nat)(d:Array α)(cp:kL)(hN:N<1000000)(A:Arr h S N d)(hb:b<=N)(hap:a<=pv)(hpb:pv<b):
  Ev T 145 [.sl S 0 N cp,aC a,aC b,aC pv,.fn (Srt.f α) [] []] h (λv h'=>v= aC ((partitionEqual Srt.lt d a b pv).1:Nat)/\Arr h' S N (partitionEqual Srt.lt d a b pv).2/\Fx (· =S) h h'):=by
 refine bP c_slices_partitionEqualCmpFunc_classes_class rfl rfl ?_
 have sz:=A.size
 have c1:=A.rd (i:=a) (by omega)
 have c2:=A.rd (i:=pv) (by omega)
 simp(disch:=omega)only[go_sem,c_slices_partitionEqualCmpFunc_classes_class,aE,c1,c2,A.get,put_cont,put_cont']
 have W:=A.swap (i:=a) (j:=pv) (nx:=h.next+16) (by omega) rfl
 obtain⟨h1,h1e⟩: ∃h1,h1=((H.mk h.tr (h.next+16)).set S (cE (flat (d.setIfInBounds a d[pv]!).toList))).set S (cE (flat ((d.setIfInBounds a d[pv]!).setIfInBounds pv d[a]!).toList)):=⟨_,rfl⟩
 rw[←h1e] at W ⊢
 obtain⟨A1,F1⟩:=W
 have eb:(b:Int)- 1=((b- 1:Nat):Int):=by omega
 have ea:(a:Int)+1=((a+1:Nat):Int):=by omega
 unfold partitionEqual
 obtain⟨e0,he⟩: ∃e,swp d a pv=e:=⟨_,rfl⟩
 rw[he] at A1 ⊢
 clear h1e c1 c2 A
 simp(disch:=omega)only[go_sem,ea,eb]
 refine cF (λvs hh=>(∃g:Nat->V,vs= [.sl S 0 N cp,aC a,aC b,aC pv,.fn (Srt.f α) [] [],g 5,aC (((partEqLoop Srt.lt a (a+1) (b- 1) e0).1:Nat):Int),g 7,g 8,g 9,g 10])/\Arr hh S N (partEqLoop Srt.lt a (a+1) (b- 1) e0).2/\Fx (· =S) h hh) ?_ ?_
 ·refine aJ (λk' vs hh=> ∃(i j:Nat) (e:Array α),(∃g:Nat->V,vs= [.sl S 0 N cp,aC a,aC b,aC pv,.fn (Srt.f α) [] [],g 5,aC i,aC j,g 8,g 9,g 10])/\a<i/\i<=b+1/\j<b/\Arr hh S N e/\partEqLoop Srt.lt a i j e=partEqLoop Srt.lt a (a+1) (b- 1) e0/\Fx (· =S) h hh/\k'=j) (b- 1)
   ⟨a+1,b- 1,e0,aA rfl,by omega,by omega,by omega,A1,rfl,F1,rfl⟩ ?_
  obtain⟨R2,hR2⟩:=AS (partEqLoop Srt.lt a (a+1) (b- 1) e0)
  rw[hR2]
  clear hR2 F1 A1 h1 he e0
  rintro k' vars h3 ⟨i,j,e,⟨g,rfl⟩,hi1,hi2,hj,A3,hL,F3,hkk⟩
  rw[partEqLoop_eq] at hL
  simp(disch:=omega)only[go_sem]
  refine cF (λvs hh=>(∃g:Nat->V,vs= [.sl S 0 N cp,aC a,aC b,aC pv,.fn (Srt.f α) [] [],g 5,aC (scanUp (λx=>!Srt.lt e[a]! x) e j i:Nat),aC (j:Nat),g 8,g 9,g 10])/\Arr hh S N e/\Fx (· =S) h hh) ?_ ?_
  ·refine aJ (λk' vs hh=> ∃(k:Nat),(∃g:Nat->V,vs= [.sl S 0 N cp,aC a,aC b,aC pv,.fn (Srt.f α) [] [],g 5,aC (k:Nat),aC (j:Nat),g 8,g 9,g 10])/\i<=k/\k<=N+2/\Arr hh S N e/\scanUp (λx=>!Srt.lt e[a]! x) e j k=scanUp (λx=>!Srt.lt e[a]! x) e j i/\Fx (· =S) h hh/\k'=j+1-k) (j+1-i)
    ⟨i,aA rfl,by omega,by omega,A3,rfl,F3,rfl⟩ ?_
   rintro k' vars hs ⟨k,⟨g,rfl⟩,hk1,hk2,As,hS,Fs,rfl⟩
   by_cases hij:(k:Int)<=((j:Nat):Int)
   ·have e1:decide ((k:Int)<=((j:Nat):Int))=true:=decide_eq_true hij
    have eK:(k:Int)+1=((k+1:Nat):Int):=by omega
    have szs:=As.size
    have c1:=As.rd (i:=k) (by omega)
    have c2:=As.rd (i:=a) (by omega)
    simp(disch:=omega)only[go_sem,e1,c1,c2]
    refine (srt_cmp As (i:=a) (j:=k) (by omega) (by omega) _ (by omega)).mono ?_
    rintro _ hs2 ⟨z,rfl,hz,fhs2⟩
    have fs2:Fr hs hs2:=Fr.trans ((Fr.refl hs).bJ (by omega)) fhs2
    have As2:=As.fr fs2
    have Fs2:=fxt Fs (Fx.of fs2)
    cases hl:Srt.lt e[a]! e[k]! with
    |true=>
     rw[scU_f (λhh=>by have:=hh.2;simp [hl] at this)] at hS;simp(disch:=omega)only[go_sem,hz,hl];exact⟨by rw[←hS];exact aA rfl,As2,Fs2⟩
    |false=>
     rw[scU_t (by omega) (by simp [hl])] at hS;simp(disch:=omega)only[go_sem,hz,hl,eK];exact⟨j+1-(k+1),by omega,k+1,aA rfl,by omega,by omega,As2,hS,Fs2,rfl⟩
   ·have e1:decide ((k:Int)<=((j:Nat):Int))=false:=decide_eq_false hij
    rw[scU_f (λhh=>hij (by have:=hh.1;omega))] at hS
    simp(disch:=omega)only[go_sem,e1]
    exact⟨by rw[←hS];exact aA rfl,As.fr ((Fr.refl hs).bJ (by omega)),fxt Fs (Fx.of ((Fr.refl hs).bJ (by omega)))⟩
  ·rintro vars h9 ⟨⟨g,rfl⟩,A9,F9⟩
   have hge:=scanUp_ge (λx=>!Srt.lt e[a]! x) e j i
   have hhi:=scanUp_hi (λx=>!Srt.lt e[a]! x) e j i
   obtain⟨u,hu⟩: ∃x,scanUp (λx=>!Srt.lt e[a]! x) e j i=x:=⟨_,rfl⟩
   rw[hu] at hge hhi
   rw[hu]
   simp(disch:=omega)only[go_sem]
   refine cF (λvs hh=>(∃g:Nat->V,vs= [.sl S 0 N cp,aC a,aC b,aC pv,.fn (Srt.f α) [] [],g 5,aC (u:Nat),aC (scanDown (λx=>Srt.lt e[a]! x) e u j:Nat),g 8,g 9,g 10])/\Arr hh S N e/\Fx (· =S) h hh) ?_ ?_
   ·refine aJ (λk' vs hh=> ∃(k:Nat),(∃g:Nat->V,vs= [.sl S 0 N cp,aC a,aC b,aC pv,.fn (Srt.f α) [] [],g 5,aC (u:Nat),aC (k:Nat),g 8,g 9,g 10])/\k<=j/\Arr hh S N e/\scanDown (λx=>Srt.lt e[a]! x) e u k=scanDown (λx=>Srt.lt e[a]! x) e u j/\Fx (· =S) h hh/\k'=k) j
     ⟨j,aA rfl,by omega,A9,rfl,F9,rfl⟩ ?_
    rintro k' vars hs ⟨k,⟨g,rfl⟩,hk1,As,hS,Fs,hkk⟩
    subst hkk
    by_cases hij:((u:Nat):Int)<=(k':Int)
    ·have e1:decide (((u:Nat):Int)<=(k':Int))=true:=decide_eq_true hij
     obtain⟨k,rfl⟩: ∃k,k'=k+1:=⟨k'- 1,by omega⟩
     have eK:((k+1:Nat):Int)- 1=(k:Int):=by omega
     have szs:=As.size
     have c1:=As.rd (i:=k+1) (by omega)
     have c2:=As.rd (i:=a) (by omega)
     simp(disch:=omega)only[go_sem,e1,c1,c2]
     refine (srt_cmp As (i:=a) (j:=k+1) (by omega) (by omega) _ (by omega)).mono ?_
     rintro _ hs2 ⟨z,rfl,hz,fhs2⟩
     have fs2:Fr hs hs2:=Fr.trans ((Fr.refl hs).bJ (by omega)) fhs2
     have As2:=As.fr fs2
     have Fs2:=fxt Fs (Fx.of fs2)
     cases hl:Srt.lt e[a]! e[k+1]! with
     |false=>
      rw[scD_f (λhh=>by have:=hh.2;simp [hl] at this)] at hS;simp(disch:=omega)only[go_sem,hz,hl];exact⟨by rw[←hS];exact aA rfl,As2,Fs2⟩
     |true=>
      rw[scD_t (by omega) (by simp [hl])] at hS;simp(disch:=omega)only[go_sem,hz,hl,eK];exact⟨k,by omega,k,aA rfl,by omega,As2,hS,Fs2,rfl⟩
    ·have e1:decide (((u:Nat):Int)<=(k':Int))=false:=decide_eq_false hij
     rw[scD_f (λhh=>hij (by have:=hh.1;omega))] at hS
     simp(disch:=omega)only[go_sem,e1]
     exact⟨by rw[←hS];exact aA rfl,As.fr ((Fr.refl hs).bJ (by omega)),fxt Fs (Fx.of ((Fr.refl hs).bJ (by omega)))⟩
   ·rintro vars h4 ⟨⟨g,rfl⟩,A4,F4⟩
    have hle:=scanDown_le (λx=>Srt.lt e[a]! x) e u j
    obtain⟨w,hw⟩: ∃x,scanDown (λx=>Srt.lt e[a]! x) e u j=x:=⟨_,rfl⟩
    rw[hw] at hle
    rw[hw]
    rw[hu,hw] at hL
    have sz4:=A4.size
    by_cases hgt:(w:Int)<(u:Int)
    ·have e1:decide ((w:Int)<(u:Int))=true:=decide_eq_true hgt
     rw[if_pos (by omega)] at hL
     simp(disch:=omega)only[go_sem,e1]
     rw[←hL]
     exact⟨aA rfl,A4,F4⟩
    have e1:decide ((w:Int)<(u:Int))=false:=decide_eq_false hgt
    rw[if_neg (by omega)] at hL
    have c1:=A4.rd (i:=u) (by omega)
    have c2:=A4.rd (i:=w) (by omega)
    have ei:(u:Int)+1=((u+1:Nat):Int):=by omega
    have ej:(w:Int)- 1=((w- 1:Nat):Int):=by omega
    simp(disch:=omega)only[go_sem,e1,c1,c2,A4.get,put_cont,put_cont',ei,ej]
    have W:=A4.swap (i:=u) (j:=w) (nx:=h4.next+16) (by omega) rfl
    exact⟨w- 1,by omega,u+1,w- 1,_,aA rfl,by omega,by omega,by omega,W.1,hL,fxt F4 W.2,rfl⟩
 ·rintro vars h5 ⟨⟨g,rfl⟩,A5,F5⟩
  simp(disch:=omega)only[go_sem]
  exact⟨A5,F5⟩
end
def PdqC  {α:Type}[Inhabited α][O:Srt α](n:Nat):Prop:= ∀(h:H) (S N a b:Nat) (lim:Int) (d:Array α) (cp:kL),N<60000->Arr h S N d->a<=b->b<=N->b-a<=n->0<=lim->lim<1000000->Below Srt.lt a b d->
 Ev T 113 [.sl S 0 N cp,aC a,aC b,aC lim,.fn (Srt.f α) [] []] h (λ_ h'=> ∃e,Arr h' S N e/\PermIn a b d e/\SortedIn Srt.lt a b e/\Fx (· =S) h h')
theorem pdq_ok  {α:Type}[Inhabited α][O:Srt α](n:Nat)(ih: ∀m,m<n->PdqC (α:=α) m):PdqC (α:=α) n:=by
 intro h S N a b lim d cp hN A hab hbN hn hl0 hl1 hB;refine bP c_slices_pdqsortCmpFunc_classes_class rfl rfl ?_;simp(disch:=omega)only[go_sem,c_slices_pdqsortCmpFunc_classes_class,aE]
 refine aJ (λk' vars hh=> ∃(a' b':Nat) (l':Int) (wb wp:Bool) (e:Array α),(∃g:Nat->V,vars= [.sl S 0 N cp,aC (a':Int),aC (b':Int),aC l',.fn (Srt.f α) [] [],.bool wb,.bool wp,g 7,g 8,g 9,g 10,g 11,g 12,g 13,g 14,g 15,g 16,g 17,g 18,g 19,g 20,g 21,g 22,g 23])/\a'<=b'/\b'<=N/\a<=a'/\b'<=b/\0<=l'/\l'<1000000/\Below Srt.lt a' b' e/\Arr hh S N e/\Fx (· =S) h hh/\
   (∀R,PermIn a' b' e R->SortedIn Srt.lt a' b' R->PermIn a b d R/\SortedIn Srt.lt a b R)/\k'=b'-a') (b-a)
  ⟨a,b,lim,true,true,d,aA rfl,hab,hbN,eP _,eP _,hl0,hl1,hB,A,Fx.refl _ h,λR h1 h2=>⟨h1,h2⟩,rfl⟩ ?_
 clear A hB hl0 hl1;rintro k' vars h1 ⟨a',b',l',wb,wp,e,⟨g,rfl⟩,hab',hbN',haa,hbb,hl0,hl1,hB,A,F,K,rfl⟩;obtain⟨m,hm⟩:=AS (b'-a');have em:(b':Int)-(a':Int)=(m:Int):=by omega
 have ez: ∀{x:Array α} {hx:H},Arr hx S N x->b'<=x.size:=λA=>by rw[A.size];exact hbN'
 by_cases h12:(m:Int)<=12
 ·have e1:decide ((m:Int)<=12)=true:=decide_eq_true h12
  simp(disch:=omega)only[go_sem,em,e1];refine (insertion_ok h1 S N a' b' e cp (by omega) A hbN' hab').mono ?_;rintro _ h2 ⟨A2,F2⟩;obtain⟨p1,p2⟩:=insertionSort_holds (Srt.swo (α:=α)) e a' b' hab' (ez A);obtain⟨q1,q2⟩:=K _ p1 p2;simp(disch:=omega)only[go_sem];exact⟨_,A2,q1,q2,fxt F F2⟩
 have e1:decide ((m:Int)<=12)=false:=decide_eq_false h12
 by_cases hl:l'=0
 ·have e2:decide (l'=0)=true:=decide_eq_true hl
  simp(disch:=omega)only[go_sem,em,e1,e2];refine (heapSort_ok h1 S N a' b' e cp (by omega) A hbN' hab').mono ?_;rintro _ h2 ⟨A2,F2⟩;obtain⟨p1,p2⟩:=heapSort_holds (Srt.swo (α:=α)) e a' b' hab' (ez A);obtain⟨q1,q2⟩:=K _ p1 p2;simp(disch:=omega)only[go_sem];exact⟨_,A2,q1,q2,fxt F F2⟩
 have e2:decide (l'=0)=false:=decide_eq_false hl;simp(disch:=omega)only[go_sem,em,e1,e2];refine jQ (λvs hh=> ∃(e2:Array α) (l2:Int) (g:Nat->V),vs= [.sl S 0 N cp,aC (a':Int),aC (b':Int),aC l2,.fn (Srt.f α) [] [],.bool wb,.bool wp,aC m,g 8,g 9,g 10,g 11,g 12,g 13,g 14,g 15,g 16,g 17,g 18,g 19,g 20,g 21,g 22,g 23]/\0<=l2/\l2<1000000/\Arr hh S N e2/\PermIn a' b' e e2/\Fx (· =S) h hh) ?_ ?_
 ·cases wb with
  |true=>
   simp(disch:=omega)only[go_sem];exact .inl ⟨e,l',_,(aA rfl: ∃g:Nat->V,_= [.sl S 0 N cp,aC (a':Int),aC (b':Int),aC l',.fn (Srt.f α) [] [],.bool true,.bool wp,aC m,g 8,g 9,g 10,g 11,g 12,g 13,g 14,g 15,g 16,g 17,g 18,g 19,g 20,g 21,g 22,g 23]).choose_spec,hl0,hl1,A,permIn_refl e a' b',F⟩
  |false=>
   simp(disch:=omega)only[go_sem];refine (break_ok h1 S N a' b' e cp hN A hbN' hab').mono ?_;rintro _ h2 ⟨e2,A2,p2,F2⟩;simp(disch:=omega)only[go_sem];exact .inl ⟨e2,l'- 1,_,(aA rfl: ∃g:Nat->V,_= [.sl S 0 N cp,aC (a':Int),aC (b':Int),aC (l'- 1),.fn (Srt.f α) [] [],.bool false,.bool wp,aC m,g 8,g 9,g 10,g 11,g 12,g 13,g 14,g 15,g 16,g 17,g 18,g 19,g 20,g 21,g 22,g 23]).choose_spec,by omega,by omega,A2,p2,fxt F F2⟩
 clear A F hl0 hl1 hl e2 g;rintro vars h2 ⟨e2,l2,g,rfl,hl0,hl1,A,P2,F⟩;have B2:=hB.perm (by rw[←P2.1];exact ez A) P2;simp(disch:=omega)only[go_sem];refine (pivot_ok h2 S N a' b' e2 cp (by omega) A hbN' (by omega)).mono ?_;rintro _ h3 ⟨p,t,rfl,hp1,hp2,f3⟩;have A3:=A.fr f3;have F3:=fxt F (Fx.of f3);clear A F;simp(disch:=omega)only[go_sem];refine jQ (λvs hh=> ∃(e3:Array α) (p2:Nat) (t2:Int) (g:Nat->V),vs= [.sl S 0 N cp,aC (a':Int),aC (b':Int),aC l2,.fn (Srt.f α) [] [],.bool wb,.bool wp,aC m,aC p2,aC t2,g 10,g 11,g 12,g 13,g 14,g 15,g 16,g 17,g 18,g 19,g 20,g 21,g 22,g 23]/\a'<=p2/\p2<b'/\Arr hh S N e3/\PermIn a' b' e2 e3/\Fx (· =S) h hh) ?_ ?_
 ·refine bD (λht=>?_) (λht=>?_)
  ·simp(disch:=omega)only[go_sem]
   refine (reverse_ok h3 S N a' b' e2 cp (by omega) A3 hbN' (by omega)).mono ?_;rintro _ h4 ⟨A4,F4⟩;have e5:(b':Int)- 1-((p:Int)-(a':Int))=(((b'- 1)-(p-a'):Nat):Int):=by omega
   simp(disch:=omega)only[go_sem,e5];exact .inl ⟨_,(b'- 1)-(p-a'),1,_,(aA rfl: ∃g:Nat->V,_= [.sl S 0 N cp,aC (a':Int),aC (b':Int),aC l2,.fn (Srt.f α) [] [],.bool wb,.bool wp,aC m,aC ((b'- 1)-(p-a'):Nat),aC 1,g 10,g 11,g 12,g 13,g 14,g 15,g 16,g 17,g 18,g 19,g 20,g 21,g 22,g 23]).choose_spec,by omega,by omega,A4,reverseRange_holds e2 a' b' hab' (ez A3),fxt F3 F4⟩
  ·simp(disch:=omega)only[go_sem]
   exact .inl ⟨e2,p,t,_,(aA rfl: ∃g:Nat->V,_= [.sl S 0 N cp,aC (a':Int),aC (b':Int),aC l2,.fn (Srt.f α) [] [],.bool wb,.bool wp,aC m,aC p,aC t,g 10,g 11,g 12,g 13,g 14,g 15,g 16,g 17,g 18,g 19,g 20,g 21,g 22,g 23]).choose_spec,hp1,hp2,A3,permIn_refl e2 a' b',F3⟩
 have ez2:=ez A3;clear A3 F3 hp1 hp2 f3 p t g;rintro vars h4 ⟨e3,p,t,g,rfl,hp1,hp2,A,P3,F⟩;have B3:=B2.perm ez2 P3;have P23:=permIn_trans _ _ _ a' b' P2 P3;have ez3:b'<=e2.size:=ez2;clear ez2 B2 hB;refine uO (λvs hh=> ∃(e4:Array α) (g:Nat->V),vs= [.sl S 0 N cp,aC (a':Int),aC (b':Int),aC l2,.fn (Srt.f α) [] [],.bool wb,.bool wp,aC m,aC p,g 9,g 10,g 11,g 12,g 13,g 14,g 15,g 16,g 17,g 18,g 19,g 20,g 21,g 22,g 23]/\Arr hh S N e4/\PermIn a' b' e e4/\Below Srt.lt a' b' e4/\Fx (· =S) h hh) ?_ ?_
 ·have skip: ∀(vs:List V),(∃g:Nat->V,vs= [.sl S 0 N cp,aC (a':Int),aC (b':Int),aC l2,.fn (Srt.f α) [] [],.bool wb,.bool wp,aC m,aC p,g 9,g 10,g 11,g 12,g 13,g 14,g 15,g 16,g 17,g 18,g 19,g 20,g 21,g 22,g 23])-> ∃(e4:Array α) (g:Nat->V),vs= [.sl S 0 N cp,aC (a':Int),aC (b':Int),aC l2,.fn (Srt.f α) [] [],.bool wb,.bool wp,aC m,aC p,g 9,g 10,g 11,g 12,g 13,g 14,g 15,g 16,g 17,g 18,g 19,g 20,g 21,g 22,g 23]/\Arr h4 S N e4/\PermIn a' b' e e4/\Below Srt.lt a' b' e4/\Fx (· =S) h h4:=λvs ⟨g,hv⟩=>⟨e3,g,hv,A,P23,B3,F⟩
  have run: ∀g:Nat->V,Ev T 144 [.sl S 0 N cp,aC (a':Int),aC (b':Int),.fn (Srt.f α) [] []] h4 (λv h'=> ∃r:Array α×Bool,v= .bool r.2/\Arr h' S N r.1/\Fx (· =S) h4 h'/\PermIn a' b' e3 r.1/\(r.2=true->SortedIn Srt.lt a' b' r.1)):=λ_=>by
   refine (partial_ok h4 S N a' b' e3 cp (by omega) A hbN' (by omega)).mono ?_;rintro v h5 ⟨hv,A5,F5⟩;obtain⟨q1,q2⟩:=partialInsertionSort_holds (Srt.swo (α:=α)) e3 a' b' (by omega) (ez A) B3;exact⟨_,hv,A5,F5,q1,q2⟩
  cases wb with
  |false=>
   simp(disch:=omega)only[go_sem];exact .inl (skip _ (aA rfl))
  |true=>cases wp with
   |false=>
    simp(disch:=omega)only[go_sem]
    exact .inl (skip _ (aA rfl))
   |true=>
    simp(disch:=omega)only[go_sem]
    refine bD (λht=>?_) (λht=>?_)
    ·simp(disch:=omega)only[go_sem]
     refine (run g).mono ?_
     rintro v h5 ⟨⟨e5,r5⟩,rfl,A5,F5,q1,q2⟩
     have A5:Arr h5 S N e5:=A5
     have q1:PermIn a' b' e3 e5:=q1
     have P5:=permIn_trans _ _ _ a' b' P23 q1
     cases r5 with
     |false=>
      simp(disch:=omega)only[go_sem];exact .inl ⟨e5,_,(aA rfl: ∃g:Nat->V,_= [.sl S 0 N cp,aC (a':Int),aC (b':Int),aC l2,.fn (Srt.f α) [] [],.bool true,.bool true,aC m,aC p,g 9,g 10,g 11,g 12,g 13,g 14,g 15,g 16,g 17,g 18,g 19,g 20,g 21,g 22,g 23]).choose_spec,A5,P5,B3.perm (ez A) q1,fxt F F5⟩
     |true=>
      obtain⟨w1,w2⟩:=K _ P5 (q2 rfl);simp(disch:=omega)only[go_sem];exact .inr ⟨by simp,e5,A5,w1,w2,fxt F F5⟩
    ·simp(disch:=omega)only[go_sem]
     exact .inl (skip _ (aA rfl))
 clear A P3 P23 B3 F P2 ez3 e3 e2;rintro vars h5 ⟨e4,g,rfl,A,P4,B4,F⟩;have ez4:=ez A;refine uO (λvs hh=> ∃(g:Nat->V),vs= [.sl S 0 N cp,aC (a':Int),aC (b':Int),aC l2,.fn (Srt.f α) [] [],.bool wb,.bool wp,aC m,aC p,g 9,g 10,g 11,g 12,g 13,g 14,g 15,g 16,g 17,g 18,g 19,g 20,g 21,g 22,g 23]/\Arr hh S N e4/\Fx (· =S) h hh) ?_ ?_
 ·by_cases h0:(0:Int)<(a':Int)
  case neg=>
   have e1:decide ((0:Int)<(a':Int))=false:=decide_eq_false h0;simp(disch:=omega)only[go_sem,e1];exact .inl ⟨_,(aA rfl: ∃g:Nat->V,_= [.sl S 0 N cp,aC (a':Int),aC (b':Int),aC l2,.fn (Srt.f α) [] [],.bool wb,.bool wp,aC m,aC p,g 9,g 10,g 11,g 12,g 13,g 14,g 15,g 16,g 17,g 18,g 19,g 20,g 21,g 22,g 23]).choose_spec,A.fr ((Fr.refl h5).bJ (by omega)),fxt F (Fx.of ((Fr.refl h5).bJ (by omega)))⟩
  have e1:decide ((0:Int)<(a':Int))=true:=decide_eq_true h0;have ea:(a':Int)- 1=((a'- 1:Nat):Int):=by omega
  have c1:=A.rd (i:=a'- 1) (by omega);have c2:=A.rd (i:=p) (by omega);simp(disch:=omega)only[go_sem,e1,ea,c1,c2];refine (srt_cmp A (i:=a'- 1) (j:=p) (by omega) (by omega) _ (by omega)).mono ?_;rintro _ h6 ⟨z,rfl,hz,fh6⟩;have f6:Fr h5 h6:=Fr.trans ((Fr.refl h5).bJ (by omega)) fh6;have A6:=A.fr f6;have F6:=fxt F (Fx.of f6)
  cases hl:Srt.lt e4[a'- 1]! e4[p]! with
  |true=>
   simp(disch:=omega)only[go_sem,hz,hl];exact .inl ⟨_,(aA rfl: ∃g:Nat->V,_= [.sl S 0 N cp,aC (a':Int),aC (b':Int),aC l2,.fn (Srt.f α) [] [],.bool wb,.bool wp,aC m,aC p,g 9,g 10,g 11,g 12,g 13,g 14,g 15,g 16,g 17,g 18,g 19,g 20,g 21,g 22,g 23]).choose_spec,A6,F6⟩
  |false=>
   obtain⟨w1,w2,w3,w4,w5⟩:=round_eq (Srt.swo (α:=α)) (partitionEqual_holds Srt.lt) (by omega) hp1 hp2 ez4 B4 hl (Prod.eta (partitionEqual Srt.lt e4 a' b' p)).symm;simp(disch:=omega)only[go_sem,hz,hl];refine (partEq_ok h6 S N a' b' p e4 cp (by omega) A6 hbN' hp1 hp2).mono ?_;rintro _ h7 ⟨rfl,A7,F7⟩;simp(disch:=omega)only[go_sem];refine .inr ⟨by simp,b'-(partitionEqual Srt.lt e4 a' b' p).1,by omega,(partitionEqual Srt.lt e4 a' b' p).1,b',l2,wb,wp,_,aA rfl,w2,hbN',by omega,hbb,hl0,hl1,w4,A7,fxt F6 F7,λR r1 r2=>?_,rfl⟩;obtain⟨t1,t2⟩:=w5 R r1 r2;exact K R (permIn_trans _ _ _ a' b' P4 t1) t2
 clear A F;rintro vars h6 ⟨g,rfl,A,F⟩;have e8:=tdivN m (k:=8) (m:=8) rfl;simp(disch:=omega)only[go_sem];refine (partition_ok h6 S N a' b' p e4 cp (by omega) A hbN' hp1 hp2).mono ?_;obtain⟨r,hr⟩:=AS (partition Srt.lt e4 a' b' p);rw[hr];obtain⟨mid,ap,e5⟩:=r;obtain⟨w1,w2,w3,w4,w5,w6,w7⟩:=round_part (Srt.swo (α:=α)) (partition_holds Srt.lt) hp1 hp2 ez4 B4 hr;rintro _ h7 ⟨rfl,A7,F7⟩;have A7:Arr h7 S N e5:=A7;have F7:=fxt F F7;have el:(mid:Int)-(a':Int)=((mid-a':Nat):Int):=by omega
 have er:(b':Int)-(mid:Int)=((b'-mid:Nat):Int):=by omega
 have e1:(mid:Int)+1=((mid+1:Nat):Int):=by omega
 simp(disch:=omega)only[go_sem,el,er,e8];refine bD (λht=>?_) (λht=>?_)
 ·simp(disch:=omega)only[go_sem]
  refine (ih (mid-a') (by omega) h7 S N a' mid l2 e5 cp hN A7 w1 (by omega) (eP _) hl0 hl1 w4).mono ?_;rintro _ h8 ⟨L,A8,p8,s8,F8⟩;obtain⟨u1,u2⟩:=w6 L p8 s8;simp(disch:=omega)only[go_sem,e1];refine⟨b'-(mid+1),by omega,mid+1,b',l2,_,ap,L,aA rfl,by omega,hbN',by omega,hbb,hl0,hl1,u1,A8,fxt F7 F8,λR r1 r2=>?_,rfl⟩;obtain⟨t1,t2⟩:=u2 R r1 r2;exact K R (permIn_trans _ _ _ a' b' P4 t1) t2
 ·simp(disch:=omega)only[go_sem,e1]
  refine (ih (b'-(mid+1)) (by omega) h7 S N (mid+1) b' l2 e5 cp hN A7 (by omega) hbN' (eP _) hl0 hl1 w5).mono ?_;rintro _ h8 ⟨L,A8,p8,s8,F8⟩;obtain⟨u1,u2⟩:=w7 L p8 s8;simp(disch:=omega)only[go_sem];refine⟨mid-a',by omega,a',mid,l2,_,ap,L,aA rfl,by omega,by omega,haa,by omega,hl0,hl1,u1,A8,fxt F7 F8,λR r1 r2=>?_,rfl⟩;obtain⟨t1,t2⟩:=u2 R r1 r2;exact K R (permIn_trans _ _ _ a' b' P4 t1) t2
theorem pdq_all  {α:Type}[Inhabited α][O:Srt α](n:Nat):PdqC (α:=α) n:=by
 induction n using Nat.strongRecOn with
 |_ n ih=>exact pdq_ok n  ih
theorem sortFunc_ok {α:Type}[Inhabited α][O:Srt α](h:H)(S N:Nat)(d:Array α)(cp:kL)(hN:N<60000)(A:Arr h S N d):
  Ev T 88 [.sl S 0 N cp,.fn (Srt.f α) [] []] h (λ_ h'=> ∃e,Arr h' S N e/\PermIn 0 N d e/\SortedIn Srt.lt 0 N e/\Fx (· =S) h h'):=by
 refine bP c_slices_SortFunc_classes_class_classes_class rfl rfl ?_
 have hb:bitsLen N<=16:=(bitsLen_le_iff _ 16).2 (by omega)
 simp(disch:=omega)only[go_sem,c_slices_SortFunc_classes_class_classes_class,aE,wrap_u64_in (n:=(N:Int)) (by omega) (by omega)]
 refine (len_ok N h (by omega)).mono ?_
 rintro _ h1 ⟨rfl,hh⟩
 subst hh
 simp(disch:=omega)only[go_sem]
 refine (pdq_all N h1 S N 0 N _ d cp hN A (by omega) (by omega) (by omega) (by omega) (by omega) (.inl rfl)).mono ?_
 rintro _ h2 ⟨e,A2,p,s,F⟩
 simp(disch:=omega)only[go_sem]
 exact⟨e,A2,p,s,F⟩
theorem isNaN_int (a:Int)(h:H):Ev T 147 [aC a] h (λv h'=>v= .bool false/\h'=h):=by
 refine bP c_cmp_isNaN_int rfl rfl ?_;have e:decide (a≠a)=false:=iG (by omega);simp(disch:=omega)only[go_sem,c_cmp_isNaN_int,aE,e]
def cmpI (a b:Int):Int:=if a<b then -1 else if b<a then 1 else 0
theorem compare_ok (a b:Int)(h:H):Ev T 114 [aC a,aC b] h (λv h'=>v= aC (cmpI a b)/\Fr h h'):=by
 refine bP c_cmp_Compare_int rfl rfl ?_;simp(disch:=omega)only[go_sem,c_cmp_Compare_int,aE];refine (isNaN_int a h).mono ?_;rintro _ h1 ⟨rfl,rfl⟩;simp(disch:=omega)only[go_sem];refine (isNaN_int b h1).mono ?_;rintro _ h2 ⟨rfl,rfl⟩;simp(disch:=omega)only[go_sem];unfold cmpI
 by_cases h1:a<b
 ·have d1:decide (a<b)=true:=decide_eq_true h1
  simp(disch:=omega)only[go_sem,d1,if_pos h1];exact Fr.refl _
 ·have d1:decide (a<b)=false:=decide_eq_false h1
  by_cases h3:b<a
  ·have d2:decide (b<a)=true:=decide_eq_true h3
   simp(disch:=omega)only[go_sem,d1,d2,if_neg h1,if_pos h3];exact Fr.refl _
  ·have d2:decide (b<a)=false:=decide_eq_false h3
   simp(disch:=omega)only[go_sem,d1,d2,if_neg h1,if_neg h3];exact Fr.refl _
def orI:List Int->Int
 | []=>0
 |x::r=>if x=0 then orI r else x
theorem orI_drop {l:List Int}{i:Nat}(hi:i<l.length)(h:l.getD i 0=0):orI (l.drop i)=orI (l.drop (i+1)):=by
 rw[List.drop_eq_getElem_cons hi];show (if l[i]=0 then _ else _)=_;rw[if_pos (by rw[List.getD,eQ hi] at h;exact h)]
theorem orI_hit {l:List Int}{i:Nat}(hi:i<l.length)(h:l.getD i 0≠0):orI (l.drop i)=l.getD i 0:=by
 rw[List.drop_eq_getElem_cons hi];show (if l[i]=0 then _ else l[i])=_;have e:l.getD i 0=l[i]:=by rw[List.getD,eQ hi];rfl
 rw[if_neg (by rw[←e];exact h),e]
theorem or_ok (u:V)(l:List Int)(h:H)(hl:l.length<1000000)(hu:SI h u l):Ev T 93 [u] h (λv h'=>v= aC (orI l)/\Fr h h'):=by
 refine bP c_cmp_Or_int rfl rfl ?_;have lu:=hu.lens;obtain⟨id,off,sh,hid,hc⟩:=hu.open;simp(disch:=omega)only[go_sem,c_cmp_Or_int,aE,lu];refine aJ (λk' vs hh=> ∃(i:Nat),(∃g:Nat->V,vs= [u,aC 0,aC 0,g 3,u,aC (l.length:Int),aC i,g 7,g 8])/\i<=l.length/\orI (l.drop i)=orI l/\Fr h hh/\k'=l.length-i) l.length
   ⟨0,aA rfl,gK _,rfl,Fr.refl h,rfl⟩ ?_
 rintro k' vars h2 ⟨i,⟨g,rfl⟩,hi,ho,f,rfl⟩
 by_cases hlt:(i:Int)<(l.length:Int)
 ·have d4:=mF hlt
  have hi':i<l.length:=by omega
  have ci:h2.cell id (off+i)=some (aC (l.getD i 0)):=by rw[f.cell (hid (by omega)),hc i hi']
  generalize hx:l.getD i 0=x at ci;simp(disch:=omega)only[go_sem,d4,sh.ixa,ci]
  by_cases hz:x=0
  ·have d5:decide (x≠0)=false:=decide_eq_false (by simpa using hz)
   simp(disch:=omega)only[go_sem,d5];rw[iO i];exact⟨l.length-(i+1),by omega,i+1,aA rfl,by omega,by rw[←orI_drop hi' (hx.trans hz)];exact ho,f.bJ (by omega),rfl⟩
  ·have d5:decide (x≠0)=true:=decide_eq_true hz
   simp(disch:=omega)only[go_sem,d5];exact⟨by rw[←ho,orI_hit hi' (by rw[hx];exact hz),hx],f.bJ (by omega)⟩
 have d4:=iG hlt;obtain rfl:i=l.length:=by omega
 simp(disch:=omega)only[go_sem,d4];rw[List.drop_length] at ho;exact⟨by rw[←ho];rfl,f⟩
structure KE where
 rep:V
 ord:Nat
 size:Nat
 ranks:V
 fst:Nat
 hrep:rep.cells= [rep]/\rep.one=true/\dI rep rep=true
 hranks:ranks.cells= [ranks]/\ranks.one=true/\dI ranks ranks=true
instance:Inhabited KE:=⟨⟨.aB,0,0,.aB,0,⟨rfl,rfl,rfl⟩,⟨rfl,rfl,rfl⟩⟩⟩
def KE.enc (a:KE):List V:= [a.rep,aC (a.ord:Int),aC (a.size:Int),a.ranks]
def KE.cmp (a b:KE):Int:=orI [cmpI a.ord b.ord,cmpI a.size b.size,cmpI a.fst b.fst]
def KE.lt (a b:KE):Bool:=decide (a.cmp b<0)
theorem boxV_enc (a:KE)(h:H):uI h (.agg a.enc)=some (.ptr h.next 0,h.new (.cells false a.enc)):=nP h _ (by simp [KE.enc,a.hrep.2.1,a.hranks.2.1,show (aC (a.ord:Int)).one=true from rfl,show (aC (a.size:Int)).one=true from rfl])
theorem corder_ok (a b:KE)(h:H):Ev T 90 [.agg a.enc,.agg b.enc] h (λv h'=>v= aC (cmpI a.ord b.ord)/\Fr h h'):=by
 refine bP c_classes_class_order rfl rfl ?_;obtain⟨A,hA⟩:=AS h.next;obtain⟨h1,e1,n1,g1,o1,f1⟩:=fC hA a.enc;obtain⟨h2,e2,n2,g2,o2,f2⟩:=fC n1 b.enc;have gA:h2.get A=some (.cells false a.enc):=by rw[o2 _ (by omega)];exact g1
 have cA:h2.cell A 1=some (aC (a.ord:Int)):=by rw[H.aF gA];rfl
 have cB:h2.cell (A+1) 1=some (aC (b.ord:Int)):=by rw[H.aF g2];rfl
 simp(disch:=omega)only[go_sem,c_classes_class_order,aE,boxV_enc,hA,e1,n1,e2,cA,cB];refine (compare_ok _ _ h2).mono ?_;rintro _ h3 ⟨rfl,f3⟩;simp(disch:=omega)only[go_sem];exact (f1.trans f2).trans f3
theorem csize_ok (a b:KE)(h:H):Ev T 91 [.agg a.enc,.agg b.enc] h (λv h'=>v= aC (cmpI a.size b.size)/\Fr h h'):=by
 refine bP c_classes_class_size rfl rfl ?_;obtain⟨A,hA⟩:=AS h.next;obtain⟨h1,e1,n1,g1,o1,f1⟩:=fC hA a.enc;obtain⟨h2,e2,n2,g2,o2,f2⟩:=fC n1 b.enc;have gA:h2.get A=some (.cells false a.enc):=by rw[o2 _ (by omega)];exact g1
 have cA:h2.cell A 2=some (aC (a.size:Int)):=by rw[H.aF gA];rfl
 have cB:h2.cell (A+1) 2=some (aC (b.size:Int)):=by rw[H.aF g2];rfl
 simp(disch:=omega)only[go_sem,c_classes_class_size,aE,boxV_enc,hA,e1,n1,e2,cA,cB];refine (compare_ok _ _ h2).mono ?_;rintro _ h3 ⟨rfl,f3⟩;simp(disch:=omega)only[go_sem];exact (f1.trans f2).trans f3
def KE.At (h:H)(a:KE):Prop:= ∃id off n cap,a.ranks= .sl id off (n+1) cap/\id<h.next/\h.cell id off=some (aC (a.fst:Int))
theorem cfirst_ok (a b:KE)(h:H)(ha:a.At h)(hb:b.At h):Ev T 92 [.agg a.enc,.agg b.enc] h (λv h'=>v= aC (cmpI a.fst b.fst)/\Fr h h'):=by
 refine bP c_classes_class_first rfl rfl ?_;obtain⟨A,hA⟩:=AS h.next;obtain⟨h1,e1,n1,g1,o1,f1⟩:=fC hA a.enc;obtain⟨h2,e2,n2,g2,o2,f2⟩:=fC n1 b.enc;obtain⟨ia,oa,na,ca,ea,la,ga⟩:=ha;obtain⟨ib,ob,nb,cb,eb,lb,gb⟩:=hb;have F2:=f1.trans f2;have gA:h2.get A=some (.cells false a.enc):=by rw[o2 _ (by omega)];exact g1
 have cA:h2.cell A 3=some a.ranks:=by rw[H.aF gA];rfl
 have cB:h2.cell (A+1) 3=some b.ranks:=by rw[H.aF g2];rfl
 rw[ea] at cA;rw[eb] at cB;have ra:h2.cell ia oa=some (aC (a.fst:Int)):=by rw[F2.cell la];exact ga
 have rb:h2.cell ib ob=some (aC (b.fst:Int)):=by rw[F2.cell lb];exact gb
 simp(disch:=omega)only[go_sem,c_classes_class_first,aE,boxV_enc,hA,e1,n1,e2,cA,cB,ra,rb];refine (compare_ok _ _ _).mono ?_;rintro _ h3 ⟨rfl,f3⟩;have F3:Fr h2 h3:=((Fr.refl h2).bJ (by omega)).trans f3;have ha:=F2.next;have cA3:h3.cell A 3=some (.sl ia oa (na+1) ca):=by rw[F3.cell (by omega)];exact cA
 have cB3:h3.cell (A+1) 3=some (.sl ib ob (nb+1) cb):=by rw[F3.cell (by omega)];exact cB
 have ra3:h3.cell ia oa=some (aC (a.fst:Int)):=by rw[F3.cell (by omega)];exact ra
 have rb3:h3.cell ib ob=some (aC (b.fst:Int)):=by rw[F3.cell (by omega)];exact rb
 simp(disch:=omega)only[go_sem,cA3,cB3,ra3,rb3];exact F2.trans F3
theorem row_enc {h:H}{A:Nat}{ro:Bool}{a:KE}(hg:h.get A=some (.cells ro a.enc)):h.row A 0 4=some a.enc:=by
 simp [H.row,hg,sub,KE.enc]
theorem eqV_ke (a:KE):dI (.agg a.enc) (.agg a.enc)=true:=by
 show lV a.enc a.enc=true;simp [KE.enc,lV,dI,a.hrep.2.2,a.hranks.2.2]
theorem KE.At.fr {a:KE}{h h':H}(x:a.At h)(f:Fr h h'):a.At h':=by
 obtain⟨ia,oa,na,ca,ea,la,ga⟩:=x;exact⟨ia,oa,na,ca,ea,gE la f.next,by rw[f.cell la];exact ga⟩
theorem blsV_three (h:H)(x y z:Int):nG h 1 [aC 0] 3 [(0,1,aC x),(1,1,aC y),(2,1,aC z)]=some (.sl h.next 0 3 (.kn 3),h.new (.cells false (ints [x,y,z]))):=rfl
theorem ccmp_ok (a b:KE)(h:H)(ha:a.At h)(hb:b.At h):Ev T 89 [.agg a.enc,.agg b.enc] h (λv h'=>v= aC (a.cmp b)/\Fr h h'):=by
 refine bP c_classes_of_1 rfl rfl ?_;obtain⟨A,hA⟩:=AS h.next;obtain⟨h1,e1,n1,g1,o1,f1⟩:=fC hA a.enc;obtain⟨h2,e2,n2,g2,o2,f2⟩:=fC n1 b.enc;have F2:=f1.trans f2;have gA:h2.get A=some (.cells false a.enc):=by rw[o2 _ (by omega)];exact g1
 simp(disch:=omega)only[go_sem,c_classes_of_1,aE,boxV_enc,hA,e1,n1,e2,row_enc gA,row_enc g2,eqV_ke,H.Ck];have hn:=F2.next;refine (corder_ok a b _).mono ?_;rintro _ h3 ⟨rfl,f3⟩;have F3:Fr h2 h3:=((Fr.refl h2).bJ (by omega)).trans f3;have gB3:h3.get (A+1)=some (.cells false b.enc):=by rw[F3.get _ (by omega)];exact g2
 simp(disch:=omega)only[go_sem,row_enc gB3,eqV_ke];refine (csize_ok a b _).mono ?_;rintro _ h4 ⟨rfl,f4⟩;have F4:=F3.trans f4;have gB4:h4.get (A+1)=some (.cells false b.enc):=by rw[F4.get _ (by omega)];exact g2
 simp(disch:=omega)only[go_sem,row_enc gB4,eqV_ke];refine (cfirst_ok a b _ (ha.fr (F2.trans F4)) (hb.fr (F2.trans F4))).mono ?_;rintro _ h5 ⟨rfl,f5⟩;have F5:=F4.trans f5;have gB5:h5.get (A+1)=some (.cells false b.enc):=by rw[F5.get _ (by omega)];exact g2
 simp(disch:=omega)only[go_sem,row_enc gB5,eqV_ke];obtain⟨I,hI⟩:=AS (h2.next+9+9);have n5:=f5.next;have n4:=f4.next;have n3:h2.next+9+12<=h3.next:=f3.next;simp(disch:=omega)only[go_sem,hI,blsV_three]
 obtain⟨h6,h6e⟩: ∃h6:H,h6=H.mk ((H.mk h5.tr I).new (Ob.cells false (ints [cmpI a.ord b.ord,cmpI a.size b.size,cmpI a.fst b.fst]))).tr h5.next:=⟨_,rfl⟩
 rw[←h6e];have g6:h6.get I=cE (ints [cmpI a.ord b.ord,cmpI a.size b.size,cmpI a.fst b.fst]):=by rw[h6e];exact H.aM (H.mk h5.tr I) _
 have n6:h6.next=h5.next:=by rw[h6e]
 have o6: ∀k,k≠I->h6.get k=h5.get k:=λk hk=>by rw[h6e];exact H.bG (H.mk h5.tr I) (by simpa using hk) _
 have F6:Fr h2 h6:=⟨by have:=F5.next;omega,λk hk=>by rw[o6 k (by omega)];exact F5.get k hk⟩
 refine (or_ok _ [cmpI a.ord b.ord,cmpI a.size b.size,cmpI a.fst b.fst] h6 (by simp) (SV.all (by simp [aN]) (by omega) g6 _)).mono ?_;rintro _ h7 ⟨rfl,f7⟩;have F7:=F6.trans f7;have gB7:h7.get (A+1)=some (.cells false b.enc):=by rw[F7.get _ (by omega)];exact g2
 simp(disch:=omega)only[go_sem,row_enc gB7,eqV_ke];exact⟨rfl,F2.trans F7⟩
theorem KE.lt_iff (a b:KE):a.lt b=true↔a.ord<b.ord∨a.ord=b.ord/\(a.size<b.size∨a.size=b.size/\a.fst<b.fst):=by
 unfold KE.lt KE.cmp orI orI orI orI cmpI;rw[decide_eq_true_eq]
 repeat' split
 all_goals omega
theorem ke_swo:SWO KE.lt where
 irrefl x:=by rw[←Bool.not_eq_true,KE.lt_iff];omega
 trans x y z h1 h2:=by rw[KE.lt_iff] at*;omega
 ntrans x y z h1 h2:=by rw[←Bool.not_eq_true,KE.lt_iff] at*;omega
def KE.Pp (hB:H)(b0 S:Nat)(a:KE):Prop:= ∃id off n cap,a.ranks= .sl id off (n+1) cap/\id<b0/\id≠S/\hB.cell id off=some (aC (a.fst:Int))
def Bb (hB:H)(b0 S:Nat)(h:H):Prop:=b0<=h.next/\ ∀q,q<b0->q≠S->h.get q=hB.get q
theorem KE.Pp.at {hB h:H}{b0 S:Nat}{a:KE}(p:a.Pp hB b0 S)(b:Bb hB b0 S h):a.At h:=by
 obtain⟨id,off,n,cap,e,h1,h2,h3⟩:=p;refine⟨id,off,n,cap,e,gE h1 b.1,?_⟩;rw[←h3];unfold H.cell;rw[b.2 id h1 h2]
@[reducible] def srtKE (hB:H)(b0 S:Nat):Srt KE where
 lt:=KE.lt
 enc:=KE.enc
 P:=KE.Pp hB b0 S
 B:=Bb hB b0 S
 f:=89
 b0:=b0
 S:=S
 swo:=ke_swo
 len _:=rfl
 one a:=by simp [KE.enc,a.hrep.2.1,a.hranks.2.1,show (aC (a.ord:Int)).one=true from rfl,show (aC (a.size:Int)).one=true from rfl]
 eqv:=eqV_ke
 cmp h a b hb pa pb:=(ccmp_ok a b h (pa.at hb) (pb.at hb)).mono λv h' ⟨e,f⟩=>⟨_,e,rfl,f⟩
 bfr h h' b f:=⟨Nat.le_trans b.1 f.next,λq h1 h2=>by rw[f.get q (gE h1 b.1)];exact b.2 q h1 h2⟩
 bS h h' b f:=⟨Nat.le_trans b.1 f.next,λq h1 h2=>by rw[f.get q (gE h1 b.1) h2];exact b.2 q h1 h2⟩
 bR h h' R b hR f:=⟨Nat.le_trans b.1 f.next,λq h1 h2=>by rw[f.get q (gE h1 b.1) (λe=>by have:q=R:=e;omega)];exact b.2 q h1 h2⟩
 bn h b:=b.1
theorem arr_list {l:List KE}{N:Nat}(hl:l.length=N){e:Array KE}(hp:PermIn 0 N l.toArray e)(hs:SortedIn KE.lt 0 N e):e.toList.Perm l/\e.toList.Pairwise (λa b=>KE.lt b a=false):=by
 obtain⟨p1,p2,p3⟩:=hp;have hsz:e.size=N:=by rw[p1];simpa using hl
 refine⟨?_,?_⟩
 ·have a1:(e.extract 0 N).toList=e.toList:=by rw[←hsz];simp
  have a2:(l.toArray.extract 0 N).toList=l:=by rw[←hl];simp
  rwa [a1,a2] at p3
 ·rw[List.pairwise_iff_getElem]
  intro i j hi hj hij;have hj':j<N:=by simpa [hsz] using hj
  have:=hs i j (gK _) hij hj';have e1:e[i]! =e.toList[i]:=by simp at hi;simp [hi]
  have e2:e[j]! =e.toList[j]:=by simp at hj;simp [hj]
  rw[e1,e2] at this;exact this
def kflat (l:List KE):List V:=l.flatMap KE.enc
theorem csort_ok (h:H)(S b0:Nat)(l:List KE)(cp:kL)(hN:l.length<60000)(hg:h.get S=cE (kflat l))(hS:S<h.next)(hb:b0<=h.next)(hP: ∀a∈l,a.Pp h b0 S):
  Ev T 88 [.sl S 0 l.length cp,.fn 89 [] []] h (λ_ h'=> ∃l',h'.get S=cE (kflat l')/\l'.Perm l/\l'.Pairwise (λa b=>KE.lt b a=false)/\Fx (· =S) h h'):=by
 letI:=srtKE h b0 S
 have A:Arr h S l.length l.toArray:=⟨hg,by simp,hS,rfl,⟨hb,λ_ _ _=>rfl⟩,λi hi=>by
  have hi':i<l.length:=by simpa using hi
  have:l.toArray[i]! =l[i]:=by simp [hi']
  rw[this]
  exact hP _ (List.getElem_mem hi')⟩
 refine (sortFunc_ok h S l.length l.toArray cp hN A).mono ?_
 rintro _ h' ⟨e,A2,p,s,F⟩
 obtain⟨q1,q2⟩:=arr_list rfl p s
 exact⟨e.toList,A2.get,q1,q2,F⟩
end Go.Proofs.YtapfcpkecmmagaaGreat.Cls
namespace Go.Proofs.YtapfcpkecmmagaaGreat
open Go Go.Ay Go.Pm
set_option maxRecDepth 100000
section
variable {i j p:Nat} {S:LN} {Q:List Nat}
section
variable {n:Nat} {G:List Nat->Prop} {L:LN}
theorem nd_inj {l:LN}(nd:l.Nodup)(hi:i<l.length)(hj:j<l.length)(e:l.getD i []=l.getD j []):i=j:=by
 have ei:l.getD i []=l[i]:=by rw[List.getD,eQ hi];rfl
 have ej:l.getD j []=l[j]:=by rw[List.getD,eQ hj];rfl
 rw[ei,ej] at e;have h:=List.pairwise_iff_getElem.1 nd;rcases Nat.lt_trichotomy i j with h1|h1|h1
 ·exact absurd e (h i j hi hj h1)
 ·exact h1
 ·exact absurd e.symm (h j i hj hi h1)
def cR (G:List Nat->Prop)(L:LN)(i j:Nat):Prop:=cj G (L.getD i []) (L.getD j [])
open Classical in
noncomputable def orbC (G:List Nat->Prop)(L:LN)(i:Nat):List Nat:=(List.range L.length).filter λj=>decide (cR G L i j)
theorem orbC_mem:j∈orbC G L i↔j<L.length/\cR G L i j:=by
 classical
 unfold orbC;rw[jY,rH,decide_eq_true_iff]
theorem orbC_asc (i:Nat):(orbC G L i).Pairwise (· < ·):=by
 classical
 unfold orbC;exact List.Pairwise.filter _ List.pairwise_lt_range
theorem orbC_nodup (i:Nat):(orbC G L i).Nodup:=by
 classical
 unfold orbC;exact List.Pairwise.filter _ List.nodup_range
def isR (G:List Nat->Prop)(L:LN)(i:Nat):Prop:= ∀j,j<i-> ¬cR G L j i
open Classical in
noncomputable def repsC (G:List Nat->Prop)(L:LN)(k:Nat):List Nat:=(List.range k).filter λj=>decide (isR G L j)
theorem repsC_succ (k:Nat):(isR G L k->repsC G L (k+1)=repsC G L k++ [k])/\(¬isR G L k->repsC G L (k+1)=repsC G L k):=by
 classical
 unfold repsC;rw[List.range_succ,List.filter_append];refine⟨λh=>?_,λh=>?_⟩
 ·rw[List.filter_cons_of_pos (by simpa using h)];rfl
 ·rw[List.filter_cons_of_neg (by simpa using h),List.filter_nil,List.append_nil]
theorem repsC_mem {k:Nat}:i∈repsC G L k↔i<k/\isR G L i:=by
 classical
 unfold repsC;rw[jY,rH,decide_eq_true_iff]
variable (hG:iL n G) (E:cX G L)
include hG E
omit hG in
theorem el_mem (hi:i<L.length):G (L.getD i []):=(E.mem _).1 (getD_mem hi)
theorem el_isP (hi:i<L.length):aX n (L.getD i []):=hG.isP (el_mem E hi)
theorem cR_refl (hi:i<L.length):cR G L i i:=cj_refl hG (el_isP hG E hi)
theorem cR_symm (hi:i<L.length)(h:cR G L i j):cR G L j i:=cj_symm hG (el_isP hG E hi) h
theorem cR_trans {k:Nat}(hi:i<L.length)(h:cR G L i j)(h2:cR G L j k):cR G L i k:=cj_trans hG (el_isP hG E hi) h h2
theorem rep_ex (hi:i<L.length): ∃r,r<=i/\isR G L r/\cR G L r i:=by
 induction i using Nat.strongRecOn with
 |_ i ih=>
  by_cases h:isR G L i
  ·exact⟨i,eP _,h,cR_refl hG E hi⟩
  ·obtain⟨j,hj,hc⟩: ∃j,j<i/\cR G L j i:=xG λhn=>h λj hj hc=>hn ⟨j,hj,hc⟩
   obtain⟨r,h1,h2,h3⟩:=ih j hj (by omega);exact⟨r,by omega,h2,cR_trans hG E (by omega) h3 hc⟩
theorem rep_uniq {r s:Nat}(hr:r<L.length)(hs:s<L.length)(h1:isR G L r)(h2:isR G L s)(c1:cR G L r i)(c2:cR G L s i):r=s:=by
 have a1:=cR_trans hG E hr c1 (cR_symm hG E hs c2);have a2:=cR_trans hG E hs c2 (cR_symm hG E hr c1);rcases Nat.lt_trichotomy r s with h|h|h
 ·exact absurd a1 (h2 r h)
 ·exact h
 ·exact absurd a2 (h1 s h)
omit hG E in
structure BQ (G:List Nat->Prop)(L S:LN)(i:Nat)(Q:List Nat)(p:Nat):Prop where
 nd:Q.Nodup
 ne:0<Q.length
 hd:Q.getD 0 0=i
 mem: ∀j∈Q,j<L.length/\cR G L i j
 cl: ∀k,k<p-> ∀s∈S,∃j∈Q,L.getD j []=conjP (L.getD (Q.getD k 0) []) s
omit hG E in
theorem BQ.len (b:BQ G L S i Q p):Q.length<=L.length:=by
 have h:Q ⊆ List.range L.length:=λj hj=>rH.2 (b.mem j hj).1
 have:=List.Nodup.length_le_of_subset b.nd h;rwa [List.length_range] at this
theorem BQ.done (b:BQ G L S i Q p)(hp:Q.length<=p)(hi:i<L.length)(hS: ∀s∈S,G s)(hgen: ∀x,G x->dF n (λg=>g∈S) x)(j:Nat):j∈Q↔j<L.length/\cR G L i j:=by
 refine⟨b.mem j,λ⟨hj,hc⟩=>?_⟩
 have key: ∃k∈Q,L.getD k []=L.getD j []:=by
  refine cj_ind (S:=λg=>g∈S) (λg hg=>hG.isP (hS g hg)) hgen (P:=λy=> ∃k∈Q,L.getD k []=y) (el_isP hG E hi) ⟨i,by rw[←b.hd];exact getD_mem b.ne,rfl⟩ ?_ hc;rintro y g Y ⟨k,hk,rfl⟩ hg;obtain⟨t,ht,et⟩:=uH.1 hk;obtain⟨j2,h1,h2⟩:=b.cl t (by omega) g hg;have e:Q.getD t 0=k:=by rw[Pm.cG ht,et]
  rw[e] at h2;exact⟨j2,h1,h2⟩
 obtain⟨k,hk,e⟩:=key;have hkl:=(b.mem k hk).1;rw[←nd_inj E.nodup hkl hj e];exact hk
theorem BQ.sort (b:BQ G L S i Q p)(hp:Q.length<=p)(hi:i<L.length)(hS: ∀s∈S,G s)(hgen: ∀x,G x->dF n (λg=>g∈S) x){l':List Int}(h1:l'.Perm (zi Q))(h2:l'.Pairwise (· <= ·)):l'=zi (orbC G L i):=by
 refine asc_perm (h1.trans ?_) h2 ?_
 ·refine List.Perm.map _ ((List.perm_ext_iff_of_nodup b.nd (orbC_nodup i)).2 λj=>?_)
  rw[b.done hG E hp hi hS hgen j,orbC_mem]
 ·unfold zi
  rw[List.pairwise_map];exact (orbC_asc i).imp λh=>by omega
theorem orbC_head (hi:i<L.length)(hr:isR G L i):0<(orbC G L i).length/\(orbC G L i).getD 0 0=i:=by
 have hm:i∈orbC G L i:=orbC_mem.2 ⟨hi,cR_refl hG E hi⟩;have hl:=List.length_pos_of_mem hm;refine⟨hl,?_⟩;have h0:=orbC_mem.1 (getD_mem (d:=0) hl);obtain⟨k,hk,ek⟩:=uH.1 hm;have asc:=List.pairwise_iff_getElem.1 (orbC_asc (G:=G) (L:=L) i);rw[Pm.cG hl] at*
 by_cases hk0:k=0
 ·subst hk0;exact ek
 ·have h1:=asc 0 k hl hk (by omega)
  exact absurd (cR_symm hG E hi h0.2) (hr _ (by omega))
end
end
end Go.Proofs.YtapfcpkecmmagaaGreat
namespace Go.Ay
open Go
def Gr (o:Option Ob)(h:H)(id:Nat)(s:oF)(k y:V):Option (V×H):=match o with
 |some (.wmap sh es)=>if s=sh/\isKey s k=true then
   some (V.undef,h.set id (some (.wmap sh (match dX k es with
    |some e=>es.set e.1 (k,y)
    |none=>es++ [(k,y)]))))
  else none
 |_=>none
def Vu (s:oF)(h:H)(x k y:V):Option (V×H):=match x with
 | .mp id=>Gr (h.get id) h id s k y
 |_=>none
theorem Tz (ρ:X->V)(h:H)(s:oF)(x k y:X):cI ρ h (.msw s x k y)=Vu s h (ρ x) (ρ k) (ρ y):=by
 simp only[cI,Vu,Gr];cases ρ x<;>try rfl
theorem Qq (s:oF)(h:H)(id:Nat)(k y:V):Vu s h (.mp id) k y=Gr (h.get id) h id s k y:=rfl
def xQ (o:Option Ob)(s:oF)(zero:V)(ok:Bool)(k:V):Option V:=match o with
 |some (.wmap sh es)=>if s=sh/\isKey s k=true then
   match dX k es with
   |some e=>some (if ok then .tup [e.2,.bool true] else e.2)
   |none=>some (if ok then .tup [zero,.bool false] else zero)
  else none
 |_=>none
def Wb (s:oF)(zero:V)(ok:Bool)(h:H)(x k:V):Option V:=match x with
 | .mp id=>xQ (h.get id) s zero ok k
 |_=>none
theorem An (ρ:X->V)(h:H)(s:oF)(zero:V)(ok:Bool)(x k:X):cI ρ h (.lkw s zero ok x k)=(Wb s zero ok h (ρ x) (ρ k)).map (·,h):=by
 simp only[cI,Wb,xQ];cases ρ x<;>try rfl
 rename_i id;simp only
 cases hg:h.get id with
 |none=>rfl
 |some o=>
  cases o<;>try rfl
  rename_i sh es;simp only
  by_cases hc:s=sh/\isKey s (ρ k)=true
  ·rw[if_pos hc,if_pos hc]
   cases dX (ρ k) es<;>rfl
  ·rw[if_neg hc,if_neg hc];rfl
theorem zL (s:oF)(zero:V)(ok:Bool)(h:H)(id:Nat)(k:V):Wb s zero ok h (.mp id) k=xQ (h.get id) s zero ok k:=rfl
attribute [go_sem] Tz Qq An zL
end Go.Ay
namespace Go.Proofs.YtapfcpkecmmagaaGreat
open Go Go.Ay Go.Pm
set_option maxRecDepth 100000
def wmp (L:LN)(k:Nat):List (V×V):=(List.range k).map λi=>(V.str (L.getD i []),aC i)
theorem findW_app (k:V): ∀(a b:List (V×V)),dX k a=none->dX k (a++b)=(dX k b).map λq=>(q.1+a.length,q.2)
 | [],b,_=>by
  cases h:dX k b<;>simp [h]
 |e::a,b,h=>by
  show (if dI k e.1 then some (0,e.2) else (dX k (a++b)).map λq=>(q.1+1,q.2))=_;have h':(if dI k e.1 then some (0,e.2) else (dX k a).map λq=>(q.1+1,q.2))=none:=h;split at h'
  ·cases h'
  ·rename_i hn
   rw[if_neg hn,findW_app k a b (by cases h2:dX k a with|none=>rfl|some x=>rw[h2] at h';cases h'),Option.map_map]
   rfl
theorem wmp_succ (L:LN)(k:Nat):wmp L (k+1)=wmp L k++ [(V.str (L.getD k []),aC k)]:=by
 unfold wmp;rw[List.range_succ,List.map_append];rfl
theorem wmp_none {L:LN}{w:List Nat}: ∀{k:Nat},(∀i,i<k->L.getD i []≠w)->dX (.str w) (wmp L k)=none
 |0,_=>rfl
 |k+1,h=>by
  rw[wmp_succ,findW_app _ _ _ (wmp_none λi hi=>h i (by omega))]
  have:(dI (.str w) (.str (L.getD k [])))=false:=by
   have:=h k (by omega);simp only[dI,beq_eq_false_iff_ne,ne_eq];exact λe=>this e.symm
  show Option.map _ (if dI (.str w) (.str (L.getD k [])) then _ else _)=_;rw[if_neg (by rw[this];simp)];rfl
theorem wmp_find {L:LN}(nd:L.Nodup): ∀{k i:Nat},k<=L.length->i<k->dX (.str (L.getD i [])) (wmp L k)=some (i,aC i)
 |0,i,_,h=>by omega
 |k+1,i,hk,h=>by
  rw[wmp_succ]
  by_cases e:i=k
  ·subst e
   rw[findW_app _ _ _ (wmp_none λj hj e=>by have:=nd_inj nd (by omega) (by omega) e;omega)];show Option.map _ (if dI (.str (L.getD i [])) (.str (L.getD i [])) then some (0,aC i) else _)=_;rw[if_pos (by simp [dI])];simp [wmp]
  ·have ih:=wmp_find nd (k:=k) (by omega) (show i<k by omega)
   have key: ∀(a b:List (V×V)) (x:V) (r:Nat×V),dX x a=some r->dX x (a++b)=some r:=by
    intro a
    induction a with
    |nil=>intro b x r h;cases h
    |cons y a ih2=>
     intro b x r h;show (if dI x y.1 then some (0,y.2) else (dX x (a++b)).map λq=>(q.1+1,q.2))=_;have h':(if dI x y.1 then some (0,y.2) else (dX x a).map λq=>(q.1+1,q.2))=some r:=h
     by_cases hc:dI x y.1=true
     ·rw[if_pos hc] at h' ⊢;exact h'
     ·rw[if_neg hc] at h' ⊢
      cases h2:dX x a with
      |none=>rw[h2] at h';cases h'
      |some r2=>rw[h2] at h';rw[ih2 b x r2 h2];exact h'
   exact key _ _ _ _ ih
theorem isKey_word {w:List Nat}(h1:w.length<=1000)(h2: ∀x∈w,x<256):isKey .str (.str w)=true:=by
 have e:(decide (w.length<2^62)&&w.all λn=>decide (n<256))=true:=by
  rw[Bool.and_eq_true,decide_eq_true_eq,List.all_eq_true];exact⟨by omega,λx hx=>by simpa using h2 x hx⟩
 exact e
theorem mswO_new {L:LN}(nd:L.Nodup){k:Nat}(hk:k<L.length)(hK:isKey .str (.str (L.getD k []))=true)(hh:H)(M:Nat):
  Gr (some (.wmap .str (wmp L k))) hh M .str (.str (L.getD k [])) (aC k)=some (.undef,hh.set M (some (.wmap .str (wmp L (k+1))))):=by
 have e:dX (.str (L.getD k [])) (wmp L k)=none:=wmp_none λj hj e=>by have:=nd_inj nd (by omega) hk e;omega
 simp only[Gr]
 rw[if_pos ⟨trivial,hK⟩,e,wmp_succ]
theorem lkwO_hit {L:LN}(nd:L.Nodup){i:Nat}(hi:i<L.length)(hK:isKey .str (.str (L.getD i []))=true)(z:V):
  xQ (some (.wmap .str (wmp L L.length))) .str z false (.str (L.getD i []))=some (aC i):=by
 simp only[xQ]
 rw[if_pos ⟨trivial,hK⟩,wmp_find nd (eP _) hi];rfl
end Go.Proofs.YtapfcpkecmmagaaGreat
namespace Go.Ay
open Go
set_option maxRecDepth 100000
section
variable {e:Nat×V} {y:V}
def Fp (o:Option Ob)(h:H)(id:Nat)(s:oF)(zero k:V):Option (V×H):=match o with
 |some (.wmap sh es)=>if s=sh/\isKey s k=true then
   match dX k es with
   |some e=>some (.tup [e.2,.int .i64 (e.1:Nat)],h)
   |none=>some (.tup [zero,.int .i64 es.length],h.set id (some (.wmap sh (es++ [(k,zero)]))))
  else none
 |_=>none
def Wn (s:oF)(zero:V)(h:H)(x k:V):Option (V×H):=match x with
 | .mp id=>Fp (h.get id) h id s zero k
 |_=>none
theorem Tw (ρ:X->V)(h:H)(s:oF)(zero:V)(x k:X):cI ρ h (.ent s zero x k)=Wn s zero h (ρ x) (ρ k):=by
 simp only[cI,Wn,Fp];cases ρ x<;>try rfl
theorem Qz (s:oF)(zero:V)(h:H)(id:Nat)(k:V):Wn s zero h (.mp id) k=Fp (h.get id) h id s zero k:=rfl
def Jq (o:Option Ob)(h:H)(id:Nat)(n:Int)(y:V):Option (V×H):=match o with
 |some (.wmap sh es)=>if 0<=n then
   match es[n.toNat]? with
   |some e=>some (V.undef,h.set id (some (.wmap sh (es.set n.toNat (e.1,y)))))
   |none=>none
  else none
 |_=>none
def Vw (h:H)(x s y:V):Option (V×H):=match x,s with
 | .mp id,.int .i64 n=>Jq (h.get id) h id n y
 |_,_=>none
theorem Ty (ρ:X->V)(h:H)(x s y:X):cI ρ h (.ens x s y)=Vw h (ρ x) (ρ s) (ρ y):=by
 simp only[cI,Vw,Jq];cases ρ x<;>try rfl
theorem Sr (h:H)(id:Nat)(n:Int)(y:V):Vw h (.mp id) (.int .i64 n) y=Jq (h.get id) h id n y:=rfl
attribute [go_sem] Tw Qz Ty Sr
section
variable {κ:Type} [DecidableEq κ]
def qU:List (κ×V)->κ->Option (Nat×V)
 | [],_=>none
 |p::l,a=>if a=p.1 then some (0,p.2) else (qU l a).map λq=>(q.1+1,q.2)
def fA (enc:κ->V)(l:List (κ×V)):List (V×V):=l.map λp=>(enc p.1,p.2)
def xI (l:List (κ×V))(a:κ):Option V:=(qU l a).map (·.2)
def Bc (l:List (κ×V))(a:κ)(y:V):List (κ×V):=match qU l a with
 |some e=>l.set e.1 (a,y)
 |none=>l++ [(a,y)]
theorem pV {enc:κ->V}{P:κ->Prop}(he: ∀a b,P a->P b->dI (enc a) (enc b)=decide (a=b)){a:κ}(ha:P a): ∀{l:List (κ×V)},(∀p∈l,P p.1)->dX (enc a) (fA enc l)=qU l a
 | [],_=>rfl
 |p::l,h=>by
  show (if dI (enc a) (enc p.1) then some (0,p.2) else (dX (enc a) (fA enc l)).map λq=>(q.1+1,q.2))=if a=p.1 then some (0,p.2) else (qU l a).map λq=>(q.1+1,q.2)
  rw[he a p.1 ha (h p (by simp)),pV he ha λq hq=>h q (by simp [hq])]
  by_cases e:a=p.1<;>simp [e]
theorem Oo {l:List (κ×V)}{a:κ}(h:qU l a=some e):l[e.1]? =some (a,e.2):=by
 induction l generalizing e with
 |nil=>cases h
 |cons p l ih=>
  rw[qU] at h
  by_cases c:a=p.1
  ·rw[if_pos c] at h
   cases h;simp [c]
  ·rw[if_neg c] at h
   obtain⟨q,hq,rfl⟩:=gJ.1 h;simpa using ih hq
theorem Rn (a:κ)(l m:List (κ×V))(h:qU l a=none):qU (l++m) a=(qU m a).map λq=>(q.1+l.length,q.2):=by
 induction l with
 |nil=>cases hm:qU m a<;>simp [hm]
 |cons p l ih=>
  rw[qU] at h
  by_cases c:a=p.1
  ·rw[if_pos c] at h;cases h
  ·rw[if_neg c] at h
   have h':qU l a=none:=by cases hl:qU l a with|none=>rfl|some x=>rw[hl] at h;cases h
   rw[List.cons_append,qU,if_neg c,ih h',Option.map_map]
   rfl
theorem zR (a:κ)(l m:List (κ×V))(h:qU l a=some e):qU (l++m) a=some e:=by
 induction l generalizing e with
 |nil=>cases h
 |cons p l ih=>
  rw[qU] at h;rw[List.cons_append,qU]
  by_cases c:a=p.1
  ·rw[if_pos c] at h ⊢;exact h
  ·rw[if_neg c] at h ⊢
   obtain⟨q,hq,rfl⟩:=gJ.1 h;rw[ih hq];rfl
theorem Rl (l:List (κ×V)){a:κ}(y:V)(h:qU l a=some e)(b:κ):xI (l.set e.1 (a,y)) b=if b=a then some y else xI l b:=by
 unfold xI
 induction l generalizing e with
 |nil=>cases h
 |cons p l ih=>
  rw[qU] at h
  by_cases c:a=p.1
  ·rw[if_pos c] at h
   cases h;show Option.map _ (if b=a then some (0,y) else (qU l b).map λq=>(q.1+1,q.2))=_
   by_cases d:b=a
   ·rw[if_pos d,if_pos d];rfl
   ·rw[if_neg d,if_neg d,qU,if_neg (by rw[←c];exact d)]
  ·rw[if_neg c] at h
   obtain⟨q,hq,rfl⟩:=gJ.1 h;have ih:=ih hq;show Option.map _ (if b=p.1 then some (0,p.2) else (qU (l.set q.1 (a,y)) b).map λq=>(q.1+1,q.2))=_
   by_cases d:b=p.1
   ·rw[if_pos d,if_neg (by rw[d];exact λe=>c e.symm),qU,if_pos d]
   ·rw[if_neg d,Option.map_map,qU,if_neg d,Option.map_map]
    exact ih
theorem uL (l:List (κ×V))(a:κ)(y:V)(b:κ):xI (Bc l a y) b=if b=a then some y else xI l b:=by
 unfold Bc
 cases h:qU l a with
 |some e=>exact Rl l y h b
 |none=>
  show xI (l++ [(a,y)]) b=_;unfold xI
  cases hb:qU l b with
  |some e=>
   rw[zR b l _ hb,if_neg (λe=>by rw[e,h] at hb;cases hb)]
  |none=>
   rw[Rn b l _ hb];show Option.map _ (Option.map _ (if b=a then some (0,y) else none))=_
   by_cases d:b=a
   ·rw[if_pos d,if_pos d];rfl
   ·rw[if_neg d,if_neg d];rfl
theorem sV {P:κ->Prop}{l:List (κ×V)}{a:κ}(ha:P a)(hl: ∀p∈l,P p.1): ∀p∈Bc l a y,P p.1:=by
 unfold Bc;intro p hp;split at hp
 ·rcases List.mem_or_eq_of_mem_set hp with h|rfl
  ·exact hl p h
  ·exact ha
 ·rcases xH.1 hp with h|h
  ·exact hl p h
  ·rw[List.mem_singleton.1 h];exact ha
omit [DecidableEq κ] in
theorem xA {enc:κ->V}{l:List (κ×V)}{k:Nat}{a:κ}:(fA enc l).set k (enc a,y)=fA enc (l.set k (a,y)):=by
 unfold fA;rw[List.map_set]
omit [DecidableEq κ] in
theorem yM {enc:κ->V}{l:List (κ×V)}{a:κ}:fA enc l++ [(enc a,y)]=fA enc (l++ [(a,y)]):=by
 unfold fA;rw[List.map_append];rfl
theorem Oi {enc:κ->V}{P:κ->Prop}(he: ∀a b,P a->P b->dI (enc a) (enc b)=decide (a=b)){s:oF}(hk: ∀a,P a->isKey s (enc a)=true){l:List (κ×V)}(hl: ∀p∈l,P p.1){a:κ}(ha:P a)(y:V)(h:H)(id:Nat):
  Gr (some (.wmap s (fA enc l))) h id s (enc a) y=some (.undef,h.set id (some (.wmap s (fA enc (Bc l a y))))):=by
 simp only[Gr]
 rw[if_pos ⟨trivial,hk a ha⟩,pV he ha hl]
 unfold Bc
 cases qU l a with
 |some e=>simp only[xA]
 |none=>simp only[yM]
theorem mC {enc:κ->V}{P:κ->Prop}(he: ∀a b,P a->P b->dI (enc a) (enc b)=decide (a=b)){s:oF}(hk: ∀a,P a->isKey s (enc a)=true){l:List (κ×V)}(hl: ∀p∈l,P p.1){a:κ}(ha:P a)(z:V):
  xQ (some (.wmap s (fA enc l))) s z false (enc a)=some ((xI l a).getD z):=by
 simp only[xQ]
 rw[if_pos ⟨trivial,hk a ha⟩,pV he ha hl]
 unfold xI
 cases qU l a<;>rfl
theorem Ia {enc:κ->V}{P:κ->Prop}(he: ∀a b,P a->P b->dI (enc a) (enc b)=decide (a=b)){s:oF}(hk: ∀a,P a->isKey s (enc a)=true){l:List (κ×V)}(hl: ∀p∈l,P p.1){a:κ}(ha:P a)(z y:V)(h:H)(id:Nat)(hg:h.get id=some (.wmap s (fA enc l))):
  ∃(v:V) (n:Nat) (l1:List (κ×V)) (h1:H),Fp (some (.wmap s (fA enc l))) h id s z (enc a)=some (.tup [v,.int .i64 (n:Int)],h1)/\h1.next=h.next/\(∀k,k≠id->h1.get k=h.get k)/\h1.get id=some (.wmap s (fA enc l1))/\(∀p∈l1,P p.1)/\(∀b,(xI l1 b).getD z=(xI l b).getD z)/\
   ∀hh,Jq (some (.wmap s (fA enc l1))) hh id (n:Int) y=some (.undef,hh.set id (some (.wmap s (fA enc (Bc l a y))))):=by
 have hw:=pV he ha hl
 unfold Bc
 cases hx:qU l a with
 |some e=>
  rw[hx] at hw;refine⟨e.2,e.1,l,h,?_,rfl,λ_ _=>rfl,hg,hl,λ_=>rfl,λhh=>?_⟩
  ·simp only[Fp];rw[if_pos ⟨trivial,hk a ha⟩,hw]
  ·have hs:=Oo hx
   have:(fA enc l)[(e.1:Int).toNat]? =some (enc a,e.2):=by
    rw[Int.toNat_natCast];unfold fA;rw[List.getElem?_map,hs];rfl
   simp only[Jq];rw[if_pos (by omega),this];simp only[Int.toNat_natCast,xA]
 |none=>
  rw[hx] at hw;refine⟨z,l.length,l++ [(a,z)],h.set id (some (.wmap s (fA enc (l++ [(a,z)])))),?_,rfl,λk hk=>H.aH _ hk _,H.aT ..,?_,λb=>?_,λhh=>?_⟩
  ·simp only[Fp]
   rw[if_pos ⟨trivial,hk a ha⟩,hw];simp only[yM];rw[show (fA enc l).length=l.length from by unfold fA;rw[jS]]
  ·intro p hp
   rcases xH.1 hp with h|h
   ·exact hl p h
   ·rw[List.mem_singleton.1 h];exact ha
  ·have:=uL l a z b
   unfold Bc at this;rw[hx] at this;have this:xI (l++ [(a,z)]) b=if b=a then some z else xI l b:=this
   rw[this]
   by_cases d:b=a
   ·rw[if_pos d,d];unfold xI;rw[hx];rfl
   ·rw[if_neg d]
  ·have:(fA enc (l++ [(a,z)]))[(l.length:Int).toNat]? =some (enc a,z):=by
    rw[Int.toNat_natCast];unfold fA;rw[List.getElem?_map];simp
   simp only[Jq];rw[if_pos (by omega),this];simp only[Int.toNat_natCast,xA];simp
end
end
end Go.Ay
namespace Go.Proofs.YtapfcpkecmmagaaGreat
open Go Go.Ay Go.Pm
set_option maxRecDepth 100000
section
variable {G:List Nat->Prop} {L:LN} {i j n:Nat} {Q:List Nat} {h:H} {v:V}
theorem bld_group {vL:V}(hc:vL.cells= [vL])(ho:vL.one=true)(M N m:Nat):mM [.aB,.nilm,.aB,.aB] [(0,1,vL),(1,1,.mp M),(3,1,.sl N 0 m (.kn m))]=some (.agg [vL,.mp M,.aB,.sl N 0 m (.kn m)]):=by
 simp [mM,fU,putAt,hc,ho,show (V.mp M).cells= [V.mp M] from rfl,show (V.sl N 0 m (.kn m)).cells= [V.sl N 0 m (.kn m)] from rfl,show (V.mp M).one=true from rfl,show (V.sl N 0 m (.kn m)).one=true from rfl]
theorem box_group {vL:V}(ho:vL.one=true)(M N m:Nat)(h:H):uI h (.agg [vL,.mp M,.aB,.sl N 0 m (.kn m)])=some (.ptr h.next 0,h.new (.cells false [vL,.mp M,.aB,.sl N 0 m (.kn m)])):=nP h _ (by simp [ho,show (V.mp M).one=true from rfl,show (V.sl N 0 m (.kn m)).one=true from rfl,show V.aB.one=true from rfl])
open Classical in
noncomputable def snC (G:List Nat->Prop)(L:LN)(i:Nat)(Q:List Nat)(j:Nat):Bool:=decide ((∃i0,i0<i/\cR G L i0 j)∨j∈Q)
theorem snC_iff:snC G L i Q j=true↔(∃i0,i0<i/\cR G L i0 j)∨j∈Q:=by classical unfold snC;simp only[decide_eq_true_eq]
theorem snC_zero (G:List Nat->Prop)(L:LN)(j:Nat):snC G L 0 [] j=false:=by
 rw[←Bool.not_eq_true,snC_iff];rintro (⟨i0,h,_⟩|h)
 ·omega
 ·cases h
theorem snC_push {k:Nat}:snC G L i (Q++ [k]) j=if j=k then true else snC G L i Q j:=by
 by_cases e:j=k
 ·rw[if_pos e,snC_iff];exact .inr (by simp [e])
 ·rw[if_neg e,Bool.eq_iff_iff,snC_iff,snC_iff]
  simp [e]
theorem loop_end {p:Nat->Option Ay.Fn}{rd:Option Nat}{a:C}{k:Nat}{vars:List V}{Q:E->List V->H->Prop}(J:List V->H->Prop)(h1:Wp p rd (.loop a) vars h (λe v h'=>e= .exit k/\J v h'))(h2: ∀v h',J v h'->Q .norm v h'):Wp p rd (.loop a) vars h (mN k Q):=
 h1.mono λe v h' x=>by
  obtain⟨rfl,x⟩:=x;rw[pI];exact h2 v h' x
theorem Own.ge {sz id off b:Nat}{ws:List V}(o:Own h v sz ws b)(hn:ws.length=n*sz)(hz:0<sz)(s:Sl v sz n id off)(h0:0<n):b<=id:=by
 have hx:=s.ixa .i64 0 (by omega) (by omega);rcases o.sv with ⟨_,rfl⟩|⟨id',off',len,cap,ro,vs,e,h2,_⟩
 ·have:=Nat.mul_pos h0 hz
  simp at hn;omega
 ·have h3:=(o.in _ _ _ _ e).2.1
  subst e
  have hl:0<len:=by
   have:=Nat.mul_pos h0 hz;refine Nat.pos_of_ne_zero λe0=>?_
   subst e0;simp at h2;rw[h2] at hn;simp at hn;omega
  rw[rR (by omega) (by omega)] at hx;simp only[Option.some.injEq,V.ptr.injEq] at hx;omega
theorem snC_skip (hG:iL n G)(E:cX G L)(hi:i<L.length)(hr: ¬isR G L i)(j:Nat):snC G L i [] j=snC G L (i+1) [] j:=by
 obtain⟨i0,h0,hc⟩: ∃j,j<i/\cR G L j i:=xG λhn=>hr λj hj hc=>hn ⟨j,hj,hc⟩
 rw[Bool.eq_iff_iff,snC_iff,snC_iff];constructor
 ·rintro (⟨i1,h1,h2⟩|h)
  ·exact .inl ⟨i1,by omega,h2⟩
  ·cases h
 ·rintro (⟨i1,h1,h2⟩|h)
  ·by_cases e:i1=i
   ·subst e;exact .inl ⟨i0,h0,cR_trans hG E (by omega) hc h2⟩
   ·exact .inl ⟨i1,by omega,h2⟩
  ·cases h
theorem snC_done {S:LN}(hG:iL n G)(E:cX G L)(hi:i<L.length)(b:BQ G L S i Q Q.length)(hS: ∀s∈S,G s)(hgen: ∀x,G x->dF n (λg=>g∈S) x)(hj:j<L.length):snC G L i Q j=snC G L (i+1) [] j:=by
 rw[Bool.eq_iff_iff,snC_iff,snC_iff];constructor
 ·rintro (⟨i1,h1,h2⟩|h)
  ·exact .inl ⟨i1,by omega,h2⟩
  ·exact .inl ⟨i,by omega,(b.mem j h).2⟩
 ·rintro (⟨i1,h1,h2⟩|h)
  ·by_cases e:i1=i
   ·subst e;exact .inr ((b.done hG E (eP _) hi hS hgen j).2 ⟨hj,h2⟩)
   ·exact .inl ⟨i1,by omega,h2⟩
  ·cases h
theorem bld_three (hc:v.cells= [v])(ho:v.one=true)(x y:Int):mM [.aB,aC 0,aC 0] [(0,1,v),(1,1,aC x),(2,1,aC y)]=some (.agg [v,aC x,aC y]):=by
 simp [mM,fU,putAt,hc,ho,show ∀z,(aC z).cells= [aC z] from λ_=>rfl,show ∀z,(aC z).one=true from λ_=>rfl]
theorem bld_class {w:V}(ho:v.one=true)(hc':w.cells= [w])(ho':w.one=true)(x y:Int):mM [.aB,aC 0,aC 0,.aB] [(0,3,.agg [v,aC x,aC y]),(3,1,w)]=some (.agg [v,aC x,aC y,w]):=by
 simp [mM,fU,putAt,hc',ho,ho',show ∀l,(V.agg l).cells=l from λ_=>rfl,show ∀z,(aC z).one=true from λ_=>rfl]
theorem bls_class {w:V}(ho:v.one=true)(ho':w.one=true)(x y:Int)(h:H):nG h 4 [.aB,aC 0,aC 0,.aB] 1 [(0,4,.agg [v,aC x,aC y,w])]=some (.sl h.next 0 1 (.kn 1),h.new (.cells false [v,aC x,aC y,w])):=by
 have e:dG [V.aB,aC 0,aC 0,.aB] 4= [V.aB,aC 0,aC 0,.aB]:=rfl;simp [nG,fU,putAt,e,ho,ho',show ∀l,(V.agg l).cells=l from λ_=>rfl,show ∀z,(aC z).one=true from λ_=>rfl]
theorem repsC_len (k:Nat):(repsC G L k).length<=k:=by
 classical
 unfold repsC;exact Nat.le_trans (List.length_filter_le _ _) (by rw[List.length_range];exact eP _)
theorem kflat_len (ks:List Cls.KE):(Cls.kflat ks).length=ks.length*4:=by
 induction ks with
 |nil=>rfl
 |cons a r ih=>
  show (a.enc++Cls.kflat r).length=_;rw[jD,ih,List.length_cons];show 4+_=_;omega
theorem put_third {a b c d:V}(hh:H)(id:Nat)(y:V):dV (some (.cells false [a,b,c,d])) hh id 2 [y]=some (hh.set id (some (.cells false [a,b,y,d]))):=by
 simp [dV,putAt]
theorem off_lt {sz:Nat}{ws:List V}(s:SV h v sz ws):Jg (λq=>h.next<=q) v:=by
 cases v with
 |sl id off len cap=>exact λh2=>by have:=s.in _ _ _ _ rfl;omega
 |_=>trivial
structure KO (n:Nat)(G:List Nat->Prop)(L:LN)(X:Nat)(W:Nat->Prop)(hh:H)(a:Cls.KE)(r:Nat):Prop where
 fst:a.fst=r
 ord:a.ord=cM (L.getD r []) n
 size:a.size=(orbC G L r).length
 rep:PV (λq=>X<=q) hh a.rep (L.getD r [])
 ranks:PV W hh a.ranks (orbC G L r)
theorem KO.go {X:Nat}{W W':Nat->Prop}{h':H}{a:Cls.KE}{r:Nat}(k:KO n G L X W h a r)(f:Fx W h h')(hx:X<=h.next)(hW: ∀q,W q->X<=q)(hw: ∀q,q<h.next->W' q->W q):KO n G L X W' h' a r:=
 ⟨k.fst,k.ord,k.size,k.rep.fx ⟨f.next,λq h1 h2=>f.get q h1 λh3=>h2 (hW q h3)⟩,PV.go k.ranks f hw⟩
structure OfJ (n:Nat)(G:List Nat->Prop)(L:LN)(X D:Nat)(vL:V)(h5:H)(i:Nat)(hh:H):Prop where
 ex: ∃vK ks W,hh.get (X+8)=some (.cells false [vL,.mp (X+3),vK,.sl (X+6) 0 L.length (.kn L.length)])/\Own hh vK 4 (Cls.kflat ks) (D+1)/\All2 (KO n G L X W hh) ks (repsC G L i)/\BlkIn W vK/\W D/\W (X+8)/\W (X+6)/\(∀q,W q->q<hh.next)/\(∀q,W q->X<=q)/\(ks= []∨ ∃id cap,vK= .sl id 0 ks.length cap/\hh.get id=some (.cells false (Cls.kflat ks)))
 gD:hh.get D=some (.cells false (rc L.length λj=> .bool (snC G L i [] j)))
 old:Fx (λq=>q=X+8∨D<=q) h5 hh
 nx:D<hh.next
def endsB (n:Nat):C->Bool
 | .block k _=>k==n
 | .seq _ b=>endsB n b
 |_=>false
def afterB (n:Nat):C->C
 | .seq a b=>if endsB n a then b else afterB n b
 |c=>c
structure OfE (n:Nat)(G:List Nat->Prop)(L:LN)(X D:Nat)(vL:V)(h h2 h5 h7:H):Prop where
 el:cX G L
 le:L.length<=5040
 f2:Fr h h2
 x2:h2.next=X
 sp:SP h2 vL L
 f25:Fr h2 h5
 xD:X+10<=D
 n5:h5.next=D
 gM:h5.get (X+3)=some (.wmap .str (wmp L L.length))
 gN:h5.get (X+6)=some (.cells false (rc L.length λ_=> aC 0))
 j:OfJ n G L X D vL h5 L.length h7
theorem of_walk {W0:Nat->Prop}(vc:V)(n:Nat)(O:LN)(R:lU)(G:List Nat->Prop)(h:H)(gc:GC W0 h vc n O R G)(P:V->H->Prop)
  (hk: ∀L X D vL h2 h5 h7 A (g:Nat->V),cU O R n 0 (aW n)=L->OfE n G L X D vL h h2 h5 h7->Wp T none (afterB 2 c_classes_of.body) ([g 0,.ptr A 0,.nilp,aC 0,vL,g 5,.ptr (X+8) 0,g 7,g 8,g 9,g 10,g 11,g 12,g 13,g 14,g 15,g 16,g 17,g 18,g 19,g 20,g 21,g 22,g 23,g 24,g 25,g 26,g 27,g 28,g 29,g 30,g 31,g 32,g 33,g 34,g 35,g 36,g 37,g 38,g 39,g 40,g 41,g 42,g 43,g 44,g 45]) h7 (Mb c_classes_of.results P)):
  Ev T 56 [vc] h P:=by
 obtain⟨vO,vR,e,sO,sR⟩:=gc.ch
 subst e
 refine bP c_classes_of rfl rfl ?_
 have oneO:vO.one=true:=Xo sO
 have oneR:vR.one=true:=Xy sR
 obtain⟨A,hA⟩:=AS h.next
 obtain⟨h1,e1,n1,g1,o1,f1⟩:=fC hA [aC n,vO,vR]
 have bx:=dQ h (v:= aC n) (u:=vO) (w:=vR) rfl oneO oneR
 have rB:=bU g1
 obtain⟨L,hL⟩:=AS (cU O R n 0 (aW n))
 obtain⟨E,ll⟩:=fQ gc.grp gc.isc
 have ll5:=szF_fact gc
 rw[hL] at E ll
 have hG:=gc.grp
 have n7:=gc.n7
 have n0:=gc.n0
 simp(disch:=omega)only[go_sem,c_classes_of,aE,bx,hA,e1,rB]
 refine (list_ok _ n O R G h1 (gc.mono f1)).mono ?_
 rw[hL]
 rintro _ h2 ⟨vL,rfl,nw⟩
 obtain⟨wL,W,owL,pvL,bkL,W1⟩:=nw.ex
 have hwL:=All2.length pvL
 obtain⟨m,hm⟩:=AS L.length
 rw[hm] at hwL
 have lvL:=Own.lens owL hwL
 have oneL:=owL.sv.cW.2.1
 have f2:=nw.fr
 simp(disch:=omega)only[go_sem,lvL]
 refine bD (λhc=>(hc rfl).elim) (λ_=>?_)
 obtain⟨X,hX⟩:=AS h2.next
 simp(disch:=omega)only[go_sem,lvL,mks_zeros _ m (by omega),hX,bld_group owL.sv.cW.1 oneL,box_group oneL]
 obtain⟨h3,h3e⟩: ∃h3:H,h3=H.mk ((H.mk ((H.mk ((H.mk h2.tr (X+3)).new (Ob.wmap oF.str [])).tr (X+6)).new (Ob.cells false (rc m λ_=>aC 0))).tr (X+8)).new (Ob.cells false [vL,.mp (X+3),.aB,.sl (X+6) 0 m (.kn m)])).tr (X+10):=⟨_,rfl⟩
 rw[←h3e]
 have n3:h3.next=X+10:=by rw[h3e]
 have gB:h3.get (X+8)=some (.cells false [vL,.mp (X+3),.aB,.sl (X+6) 0 m (.kn m)]):=by rw[h3e];exact H.aM (H.mk _ (X+8)) _
 have gN:h3.get (X+6)=some (.cells false (rc m λ_=>aC 0)):=by
  rw[h3e];exact (H.bG (H.mk _ (X+8)) (show X+6≠X+8 by omega) _).trans (H.aM (H.mk _ (X+6)) _)
 have gM:h3.get (X+3)=some (.wmap .str (wmp L 0)):=by
  rw[h3e];exact (H.bG (H.mk _ (X+8)) (show X+3≠X+8 by omega) _).trans ((H.bG (H.mk _ (X+6)) (show X+3≠X+6 by omega) _).trans (H.aM (H.mk _ (X+3)) _))
 have f3:Fr h2 h3:=⟨by omega,λq hq=>by
  rw[h3e]
  exact (H.bG (H.mk _ (X+8)) (show q≠X+8 by omega) _).trans ((H.bG (H.mk _ (X+6)) (show q≠X+6 by omega) _).trans (H.bG (H.mk _ (X+3)) (show q≠X+3 by omega) _))⟩
 clear h3e
 have lt64: ∀i,i<m->(L.getD i []).length<=1000/\ ∀x∈L.getD i [],x<256:=λi hi=>by
  have P:=el_isP hG E (show i<L.length by omega);exact⟨by rw[P.len];omega,λx hx=>by have:=P.lt x hx;omega⟩
 obtain⟨idL,offL,shL,hidL,hcL⟩:=SV.shape owL.sv m (by omega) (by omega)
 have hLa: ∀i,i<m-> ∃vx,(∀h',Fr h2 h'->h'.cell idL (offL+i)=some vx)/\SI h2 vx (zi (L.getD i [])):=λi hi=>by
  obtain⟨v,h1,h2'⟩:=PVs.at pvL (i:=i) (by omega);exact⟨v,λh' f=>by rw[f.cell (hidL (by omega)),hcL i (by omega),h1],h2'.si⟩
 have hK: ∀i,i<m->isKey .str (.str (L.getD i []))=true:=λi hi=>isKey_word (lt64 i hi).1 (lt64 i hi).2
 refine cF (λvs hh=>(∃g:Nat->V,vs= [g 0,.ptr A 0,.nilp,aC 0,vL,g 5,.ptr (X+8) 0,g 7,g 8,g 9,g 10,g 11,g 12,g 13,g 14,g 15,g 16,g 17,g 18,g 19,g 20,g 21,g 22,g 23,g 24,g 25,g 26,g 27,g 28,g 29,g 30,g 31,g 32,g 33,g 34,g 35,g 36,g 37,g 38,g 39,g 40,g 41,g 42,g 43,g 44,g 45])/\hh.get (X+3)=some (.wmap .str (wmp L m))/\Fx (· =X+3) h3 hh) ?_ ?_
 ·refine aJ (λk' vs hh=> ∃(i:Nat),(∃g:Nat->V,vs= [g 0,.ptr A 0,.nilp,aC 0,vL,g 5,.ptr (X+8) 0,g 7,g 8,g 9,g 10,g 11,g 12,g 13,g 14,g 15,g 16,g 17,g 18,g 19,g 20,g 21,g 22,vL,aC m,aC i,g 26,g 27,g 28,g 29,g 30,g 31,g 32,g 33,g 34,g 35,g 36,g 37,g 38,g 39,g 40,g 41,g 42,g 43,g 44,g 45])/\i<=m/\hh.get (X+3)=some (.wmap .str (wmp L i))/\Fx (· =X+3) h3 hh/\k'=m-i) m
   ⟨0,aA rfl,gK _,gM,Fx.refl _ h3,rfl⟩ ?_
  rintro k' vars h4 ⟨i,⟨g,rfl⟩,hi,gM4,F4,rfl⟩
  by_cases hlt:(i:Int)<(m:Int)
  case neg=>
   have d4:=iG hlt;obtain rfl:i=m:=by omega
   simp(disch:=omega)only[go_sem,d4];exact⟨aA rfl,gM4,F4⟩
  have d4:=mF hlt
  have hi':i<m:=by omega
  have f24:Fr h2 h4:=⟨by have:=F4.next;omega,λq hq=>by rw[F4.get q (by omega) (by omega)];exact f3.get q hq⟩
  have gB4:h4.get (X+8)=some (.cells false [vL,.mp (X+3),.aB,.sl (X+6) 0 m (.kn m)]):=by rw[F4.get _ (by omega) (by omega)];exact gB
  obtain⟨vx,cx,sx⟩:=hLa i hi'
  have cB2:h4.cell (X+8) 1=some (.mp (X+3)):=by rw[H.aF gB4];rfl
  simp(disch:=omega)only[go_sem,d4,shL.ixa,cx h4 f24,cB2]
  refine (word_ok vx (L.getD i []) _ (lt64 i hi').1 (lt64 i hi').2 (sx.mono (f24.trans ((Fr.refl h4).bJ (by omega))))).mono ?_
  rintro _ h5 ⟨rfl,f5⟩
  have f45:Fr h4 h5:=((Fr.refl h4).bJ (by omega)).trans f5
  have n4:=F4.next
  have gM5:h5.get (X+3)=some (.wmap .str (wmp L i)):=by rw[f45.get _ (by omega)];exact gM4
  have cB5:h5.cell (X+8) 1=some (.mp (X+3)):=by rw[f45.cell (by omega)];exact cB2
  have pt:=λhh=>mswO_new E.nodup (show i<L.length by omega) (hK i hi') hh (X+3)
  simp(disch:=omega)only[go_sem,cB5,gM5,pt]
  rw[iO i]
  refine⟨by simp [dI],m-(i+1),by omega,i+1,aA rfl,by omega,rfl,⟨by have:=f45.next;show h3.next<=h5.next;omega,λq h1 h2=>by rw[H.aH _ (λe=>h2 e),f45.get q (by omega)];exact F4.get q h1 h2⟩,rfl⟩
 rintro vars h4 ⟨⟨g,rfl⟩,gM4,F4⟩
 have n4:=F4.next
 have f24:Fr h2 h4:=⟨by omega,λq hq=>by rw[F4.get q (by omega) (by omega)];exact f3.get q hq⟩
 have gB4:h4.get (X+8)=some (.cells false [vL,.mp (X+3),.aB,.sl (X+6) 0 m (.kn m)]):=by rw[F4.get _ (by omega) (by omega)];exact gB
 have gN4:h4.get (X+6)=some (.cells false (rc m λ_=>aC 0)):=by rw[F4.get _ (by omega) (by omega)];exact gN
 have f14:=f2.trans f24
 have rA:=bU (h:=h4) (id:=A) (ro:=false) (by rw[f14.get _ (by omega)];exact g1)
 simp(disch:=omega)only[go_sem,rA]
 refine (strong_ok _ n O R G h4 (gc.mono (f1.trans f14))).mono ?_
 rintro _ h5 ⟨vS,rfl,nS⟩
 have f5:=nS.fr
 obtain⟨D,hD⟩:=AS h5.next
 obtain⟨h6,e6,n6,g6,o6,f6⟩:=fC hD (rc m λ_=>V.bool false)
 simp(disch:=omega)only[go_sem,lvL,mks_bools,hD,e6]
 have f25:=f24.trans f5
 have hX5:=f25.next
 have n5:=f5.next
 obtain⟨wS,WS,owS,pvS,bkS,WS1⟩:=nS.ex
 obtain⟨S,hS⟩:=AS (strongL R)
 rw[hS] at pvS
 have hwS:=All2.length pvS
 have hSG: ∀s∈S,G s:=λs hs=>strong_mem gc.isc (by rw[hS];exact hs)
 have hSgen: ∀x,G x->dF n (λg=>g∈S) x:=λx hx=>by rw[←hS];exact strong_gen hG gc.isc hx
 obtain⟨sl,hsl⟩:=AS S.length
 have hsl7:sl<=49:=by
  have h1: ∀j,j<R.length->(R.getD j []).length<=n:=λj hj=>by
   have hj':j<n:=by rw[←gc.isc.lr];exact hj
   rw[gc.isc.rl j hj'];have:=orb_len (λx hx=>hG.isP hx) hj' (gc.isc.asc j hj') (gc.isc.mem j hj');omega
  have h2:=strong_len (n:=n) (R:=R) (eP _) h1;rw[List.take_length,hS,hsl,gc.isc.lr] at h2;have:n*n<=7*7:=Nat.mul_le_mul n7 n7;omega
 have lvS:=Own.lens owS (hwS.trans hsl)
 obtain⟨idS,offS,shS,hidS,hcS⟩:=SV.shape owS.sv sl (by omega) (by omega)
 have geS:=Own.ge owS (n:=sl) (by omega) (by omega) shS
 have hSa: ∀t,t<sl-> ∃vy,(∀hh,Fx (λq=>q=X+8∨D<=q) h5 hh->hh.cell idS (offS+t)=some vy)/\PV (λq=>q=X+8∨D<=q) h5 vy (S.getD t []):=λt ht=>by
  obtain⟨v,h1,h2'⟩:=PVs.at pvS (i:=t) (by omega);have hi:=hidS (by omega);have hge:h4.next<=idS:=geS (by omega);refine⟨v,λhh f=>?_,h2'.weak λid hid hw=>WS1 id ?_⟩
  ·have e:hh.get idS=h5.get idS:=f.get idS hi (by omega)
   unfold H.cell;rw[e];have:=hcS t (by omega);rw[h1] at this;exact this
  ·rcases hw with e|e
   ·omega
   ·omega
 have J0:OfJ n G L X D vL h5 0 h6:=
  ⟨⟨.aB, [],λq=>q=D∨q=X+8∨q=X+6,by rw[f6.get _ (by omega),f5.get _ (by omega),hm];exact gB4,Own.aB _ _ _,trivial,λ_ _ _ _ e=>(by cases e),.inl rfl,.inr (.inl rfl),.inr (.inr rfl),λq h=>by rcases h with h|h|h<;>omega,λq h=>by rcases h with h|h|h<;>omega,.inl rfl⟩,
   by rw[g6,hm,show (λj=>V.bool (snC G L 0 [] j))=λ_=>V.bool false from funext λj=>by rw[snC_zero]],Fx.of f6,by omega⟩
 refine cF (λvs hh=>(∃g:Nat->V,vs= [g 0,.ptr A 0,.nilp,aC 0,vL,g 5,.ptr (X+8) 0,g 7,g 8,g 9,g 10,g 11,g 12,g 13,g 14,g 15,g 16,g 17,g 18,g 19,g 20,g 21,g 22,g 23,g 24,g 25,g 26,g 27,g 28,g 29,g 30,g 31,g 32,g 33,g 34,g 35,g 36,g 37,g 38,g 39,g 40,g 41,g 42,g 43,g 44,g 45])/\OfJ n G L X D vL h5 m hh) ?_ ?_
 ·refine aJ (λk' vs hh=> ∃(i:Nat),(∃g:Nat->V,vs= [g 0,.ptr A 0,.nilp,aC 0,vL,g 5,.ptr (X+8) 0,g 7,g 8,vS,.sl D 0 m (.kn m),g 11,g 12,g 13,g 14,g 15,g 16,g 17,g 18,g 19,g 20,g 21,g 22,g 23,g 24,g 25,g 26,vL,aC m,aC i,g 30,g 31,g 32,g 33,g 34,g 35,g 36,g 37,g 38,g 39,g 40,g 41,g 42,g 43,g 44,g 45])/\i<=m/\OfJ n G L X D vL h5 i hh/\k'=m-i) m
   ⟨0,aA rfl,gK _,J0,rfl⟩ ?_
  clear J0
  rintro k' vars h7 ⟨i,⟨g,rfl⟩,hi,J,rfl⟩
  by_cases hlt:(i:Int)<(m:Int)
  case neg=>
   have d4:=iG hlt;obtain rfl:i=m:=by omega
   simp(disch:=omega)only[go_sem,d4];exact⟨aA rfl,J⟩
  have d4:=mF hlt
  have hi':i<m:=by omega
  have nD:=J.nx
  have f27:Fr h2 h7:=⟨by omega,λq hq=>by rw[J.old.get q (by omega) (by omega)];exact f25.get q hq⟩
  obtain⟨vx,cx,sx⟩:=hLa i hi'
  have cD:=pW J.gD (i:=i) (by omega)
  by_cases hr:isR G L i
  case neg=>
   have hsn:snC G L i [] i=true:=by
    rw[snC_iff];exact .inl (xG λhn=>hr λj hj hc=>hn ⟨j,hj,hc⟩)
   rw[hsn] at cD;simp(disch:=omega)only[go_sem,d4,shL.ixa,cx h7 f27,cD];rw[iO i];refine⟨m-(i+1),by omega,i+1,aA rfl,by omega,?_,rfl⟩;refine⟨?_,?_,J.old,J.nx⟩
   ·rw[(repsC_succ i).2 hr];exact J.ex
   ·rw[J.gD,bH λj _=>by rw[snC_skip hG E (show i<L.length by omega) hr j]]
  have hsn:snC G L i [] i=false:=by
   rw[←Bool.not_eq_true,snC_iff];rintro (⟨j,hj,hc⟩|h)
   ·exact hr j hj hc
   ·cases h
  rw[hsn] at cD
  obtain⟨h8,e8,n8,g8,o8⟩:=uB h7 D ((rc L.length λj=> .bool (snC G L i [] j)).set i (.bool true))
  obtain⟨Z,hZ⟩:=AS h8.next
  obtain⟨h9,e9,n9,g9,o9,f9⟩:=fC hZ [aC i]
  have pt:=bE (vs:=rc L.length λj=> .bool (snC G L i [] j)) (off:=i) (by rw[cV];omega)
  clear bx gc sO sR rB rA hcL gN4 gB4 g1 o1 f1 f3 gB gN gM
  simp(disch:=omega)only[go_sem,d4,shL.ixa,cx h7 f27,cD,J.gD,pt,e8,dC h8 (z:= aC 0) (v:= aC i) rfl rfl,hZ,e9]
  have hZ7:h7.next=Z:=by omega
  have hc0:(rc L.length λj=>V.bool (snC G L i [] j)).set i (.bool true)=rc L.length λj=> .bool (snC G L i [i] j):=by
   rw[eY]
   exact bH λj _=>by
    rw[show [i]= []++ [i] from rfl,snC_push]
    by_cases e:j=i
    ·rw[if_pos e,if_pos e]
    ·rw[if_neg e,if_neg e]
  have F79:Fx (· =D) h7 h9:=⟨by omega,λq h1 h2=>by rw[o9 q (by omega),o8 q h2]⟩
  have B0:BQ G L S i [i] 0:=⟨by simp,by simp,rfl,λj hj=>by
   obtain rfl:j=i:=by simpa using hj
   exact⟨by omega,cR_refl hG E (by omega)⟩,λk hk=>by omega⟩
  refine cF (λvs hh=> ∃(Q:List Nat) (q:Nat) (cp:kL),(∃g:Nat->V,vs= [g 0,.ptr A 0,.nilp,aC 0,vL,g 5,.ptr (X+8) 0,g 7,g 8,vS,.sl D 0 m (.kn m),aC i,vx,.sl q 0 Q.length cp,g 14,g 15,g 16,g 17,g 18,g 19,g 20,g 21,g 22,g 23,g 24,g 25,g 26,vL,aC m,aC i,g 30,g 31,g 32,g 33,g 34,g 35,g 36,g 37,g 38,g 39,g 40,g 41,g 42,g 43,g 44,g 45])/\
    BQ G L S i Q Q.length/\(cp= .un 1∨cp= .kn Q.length)/\hh.get q=some (.cells false (ints (zi Q)))/\Z<=q/\q<hh.next/\hh.get D=some (.cells false (rc L.length λj=> .bool (snC G L i Q j)))/\Fx (· =D) h7 hh) ?_ ?_
  ·refine aJ (λk' vs hh=> ∃(Q:List Nat) (q:Nat) (cp:kL) (p:Nat),(∃g:Nat->V,vs= [g 0,.ptr A 0,.nilp,aC 0,vL,g 5,.ptr (X+8) 0,g 7,g 8,vS,.sl D 0 m (.kn m),aC i,vx,.sl q 0 Q.length cp,aC p,g 15,g 16,g 17,g 18,g 19,g 20,g 21,g 22,g 23,g 24,g 25,g 26,vL,aC m,aC i,g 30,g 31,g 32,g 33,g 34,g 35,g 36,g 37,g 38,g 39,g 40,g 41,g 42,g 43,g 44,g 45])/\
    p<=Q.length/\BQ G L S i Q p/\(cp= .un 1∨cp= .kn Q.length)/\hh.get q=some (.cells false (ints (zi Q)))/\Z<=q/\q<hh.next/\hh.get D=some (.cells false (rc L.length λj=> .bool (snC G L i Q j)))/\Fx (· =D) h7 hh/\k'=m-p) m
    ⟨[i],Z,_,0,aA rfl,gK _,B0,.inr rfl,g9,eP _,by omega,by rw[o9 _ (by omega),g8,hc0],F79,rfl⟩ ?_
   clear F79 B0 e8 n8 g8 o8 hZ e9 n9 g9 o9 f9 pt hc0
   rintro k' vars ha ⟨Q,q,cp,p,⟨g2,rfl⟩,hp,BQ0,hcp,gq,hq,nq,gD,Fa,rfl⟩
   have hQl:=BQ0.len
   by_cases hpl:(p:Int)<(Q.length:Int)
   case neg=>
    have d5:decide ((p:Int)<(Q.length:Int))=false:=decide_eq_false hpl;obtain rfl:p=Q.length:=by omega
    simp(disch:=omega)only[go_sem,d5];exact⟨Q,q,cp,aA rfl,BQ0,hcp,gq,hq,nq,gD,Fa⟩
   have d5:decide ((p:Int)<(Q.length:Int))=true:=decide_eq_true hpl
   have hp':p<Q.length:=by omega
   simp(disch:=omega)only[go_sem,d5,lvS]
   obtain⟨c,hc⟩:=AS (Q.getD p 0)
   obtain⟨hcm,hcc⟩:=BQ0.mem c (by rw[←hc];exact getD_mem hp')
   have Cp:=el_isP hG E hcm
   refine loop_end (λvs hh=> ∃(Q:List Nat) (q:Nat) (cp:kL),(∃g:Nat->V,vs= [g 0,.ptr A 0,.nilp,aC 0,vL,g 5,.ptr (X+8) 0,g 7,g 8,vS,.sl D 0 m (.kn m),aC i,vx,.sl q 0 Q.length cp,aC p,g 15,g 16,g 17,g 18,g 19,g 20,g 21,g 22,g 23,g 24,g 25,g 26,vL,aC m,aC i,g 30,g 31,g 32,g 33,g 34,g 35,g 36,g 37,g 38,g 39,g 40,g 41,g 42,g 43,g 44,g 45])/\
     p<Q.length/\BQ G L S i Q (p+1)/\(cp= .un 1∨cp= .kn Q.length)/\hh.get q=some (.cells false (ints (zi Q)))/\Z<=q/\q<hh.next/\hh.get D=some (.cells false (rc L.length λj=> .bool (snC G L i Q j)))/\Fx (· =D) h7 hh) ?_ ?_
   ·refine aJ (λk' vs hh=> ∃(Q:List Nat) (q:Nat) (cp:kL) (t:Nat),(∃g:Nat->V,vs= [g 0,.ptr A 0,.nilp,aC 0,vL,g 5,.ptr (X+8) 0,g 7,g 8,vS,.sl D 0 m (.kn m),aC i,vx,.sl q 0 Q.length cp,aC p,g 15,g 16,g 17,g 18,g 19,g 20,g 21,g 22,g 23,g 24,g 25,g 26,vL,aC m,aC i,g 30,g 31,g 32,vS,aC sl,aC t,g 36,g 37,g 38,g 39,g 40,g 41,g 42,g 43,g 44,g 45])/\
     p<Q.length/\t<=sl/\BQ G L S i Q p/\Q.getD p 0=c/\(∀s∈S.take t,∃j∈Q,L.getD j []=conjP (L.getD c []) s)/\(cp= .un 1∨cp= .kn Q.length)/\hh.get q=some (.cells false (ints (zi Q)))/\Z<=q/\q<hh.next/\hh.get D=some (.cells false (rc L.length λj=> .bool (snC G L i Q j)))/\Fx (· =D) h7 hh/\k'=sl-t) sl
     ⟨Q,q,cp,0,aA rfl,hp',gK _,BQ0,hc,λs hs=>(by simp at hs),hcp,gq,hq,nq,gD,Fa,rfl⟩ ?_
    clear BQ0 hcp gq hq nq gD Fa hc hp' hQl hpl d5 hp
    clear Q q cp
    rintro k' vars hb ⟨Q,q,cp,t,⟨g3,rfl⟩,hp',ht,BQ0,hc,hcl,hcp,gq,hq,nq,gD,Fb,rfl⟩
    by_cases htl:(t:Int)<(sl:Int)
    case neg=>
     have d5:decide ((t:Int)<(sl:Int))=false:=decide_eq_false htl;obtain rfl:t=sl:=by omega
     simp(disch:=omega)only[go_sem,d5];refine⟨Q,q,cp,aA rfl,hp',⟨BQ0.nd,BQ0.ne,BQ0.hd,BQ0.mem,λk hk s hs=>?_⟩,hcp,gq,hq,nq,gD,Fb⟩
     by_cases e:k=p
     ·subst e
      rw[hc];exact hcl s (by rw[←hsl,List.take_length];exact hs)
     ·exact BQ0.cl k (by omega) s hs
    have d5:decide ((t:Int)<(sl:Int))=true:=decide_eq_true htl
    have ht':t<sl:=by omega
    have hQl:=BQ0.len
    have nb:=Fb.next
    have FBb:Fx (λq=>q=X+8∨D<=q) h5 hb:=⟨by have:=J.old.next;omega,λq h1 h2=>by rw[Fb.get q (by omega) (λe=>h2 (.inr (by have:q=D:=e;omega)))];exact J.old.get q h1 h2⟩
    have f2b:Fr h2 hb:=⟨by omega,λq hq=>by rw[Fb.get q (by omega) (λe=>by have:q=D:=e;omega)];exact f27.get q hq⟩
    obtain⟨vy,cy,py⟩:=hSa t ht'
    obtain⟨vz,cz,sz⟩:=hLa c (by omega)
    obtain⟨s,hs⟩:=AS (S.getD t [])
    rw[hs] at py
    have hsS:s∈S:=by rw[←hs];exact getD_mem (by omega)
    have Sp:=hG.isP (hSG s hsS)
    have cq:hb.cell q p=some (aC c):=by rw[H.aF gq,qZ hp',hc]
    simp(disch:=omega)only[go_sem,d5,shS.ixa,cy hb FBb,cq,shL.ixa,cz hb f2b]
    refine (inv_gen (rfl:T 85=some c_classes_element_inverse) vy n s _ (by omega) Sp ((py.fx FBb).si.mono ((Fr.refl hb).bJ (by omega)))).mono ?_
    rintro v47 k1 np1
    have K1:Fr hb k1:=((Fr.refl hb).bJ (by omega)).trans np1.fr
    have cq1:k1.cell q p=some (aC c):=by rw[K1.cell nq];exact cq
    have ez:=sz.dI
    simp(disch:=omega)only[go_sem,cq1,cz k1 (f2b.trans K1),ez]
    refine (times_ok v47 vz (bX s) (L.getD c []) k1 (by rw[gU,Sp.len];omega) (np1.pv (W:=λ_=>False) id).si (sz.mono (f2b.trans K1)) (λj hj=>by rw[Cp.len];exact Sp.inv.dU (by rw[←Sp.inv.len];exact hj))).mono ?_
    rintro v55 k2 np2
    have K2:=K1.trans np2.fr
    have P2:=Sp.inv.mul Cp
    simp(disch:=omega)only[go_sem]
    refine (times_ok v55 vy _ s k2 (by rw[P2.len];omega) (np2.pv (W:=λ_=>False) id).si ((py.fx FBb).si.mono K2) (λj hj=>by rw[Sp.len];exact P2.dU (by rw[←P2.len];exact hj))).mono ?_
    rintro v57 k3 np3
    have K3:=K2.trans np3.fr
    have P3:=P2.mul Sp
    have cq3:k3.cell q p=some (aC c):=by rw[K3.cell nq];exact cq
    have s57:=(np3.pv (W:=λ_=>False) id).si
    have o57:=s57.cW.2.1
    have gB3: ∃vK,k3.get (X+8)=some (.cells false [vL,.mp (X+3),vK,.sl (X+6) 0 L.length (.kn L.length)]):=by
     obtain⟨vK,_,_,gB,_⟩:=J.ex;exact⟨vK,by rw[K3.get _ (by omega),Fb.get _ (by omega) (λe=>by have:X+8=D:=e;omega)];exact gB⟩
    obtain⟨vK,gB3⟩:=gB3
    have cB3:k3.cell (X+8) 1=some (.mp (X+3)):=by rw[H.aF gB3];rfl
    obtain⟨j,hj,ej⟩: ∃j,j<L.length/\L.getD j []=conjP (L.getD c []) s:=by
     have hm2:conjP (L.getD c []) s∈L:=(E.mem _).2 (hG.mul (hG.mul (hG.inv (hSG s hsS)) (el_mem E hcm)) (hSG s hsS));obtain⟨j,hj,ej⟩:=uH.1 hm2;exact⟨j,hj,by rw[List.getD,eQ hj,←ej];rfl⟩
    have e57:aQ (aQ (bX s) (L.getD c [])) s=L.getD j []:=ej.symm
    rw[e57] at s57
    simp(disch:=omega)only[go_sem,cq3,cz k3 (f2b.trans K3),cB3,ez]
    refine (word_ok v57 (L.getD j []) _ (lt64 j (by omega)).1 (lt64 j (by omega)).2 (s57.mono ((Fr.refl k3).bJ (by omega)))).mono ?_
    rintro _ k4 ⟨rfl,f4'⟩
    have K34:Fr k3 k4:=((Fr.refl k3).bJ (by omega)).trans f4'
    have K4:=K3.trans K34
    have n3k:=K3.next
    have gM4k:k4.get (X+3)=some (.wmap .str (wmp L L.length)):=by
     rw[K4.get _ (by omega),Fb.get _ (by omega) (λe=>by have:X+3=D:=e;omega),J.old.get _ (by omega) (by omega),f5.get _ (by omega),hm];exact gM4
    have cB4:k4.cell (X+8) 1=some (.mp (X+3)):=by rw[K34.cell (by omega)];exact cB3
    have lk:=λz=>lkwO_hit E.nodup hj (hK j (by omega)) z
    have cDj:k4.cell D j=some (.bool (snC G L i Q j)):=by rw[K4.cell (by omega)];exact pW gD hj
    have hij:cR G L i j:=cR_trans hG E (by omega) hcc ⟨s,hSG s hsS,ej.symm⟩
    have etk:S.take (t+1)=S.take t++ [s]:=by rw[take_getD [] (by omega),hs]
    have gq4:k4.get q=some (.cells false (ints (zi Q))):=by rw[K4.get _ nq];exact gq
    have gD4:k4.get D=some (.cells false (rc L.length λj=> .bool (snC G L i Q j))):=by rw[K4.get _ (by omega)];exact gD
    have F4k:Fx (· =D) h7 k4:=⟨by have:=K4.next;omega,λq h1 h2=>by rw[K4.get q (by omega)];exact Fb.get q h1 h2⟩
    cases hsn2:snC G L i Q j with
    |true=>
     rw[hsn2] at cDj
     have hjQ:j∈Q:=by
      rcases snC_iff.1 hsn2 with ⟨i0,h1,h2'⟩|h1
      ·exact absurd (cR_trans hG E (by omega) h2' (cR_symm hG E (by omega) hij)) (hr i0 h1)
      ·exact h1
     simp(disch:=omega)only[go_sem,cB4,gM4k,lk,cDj];rw[iO t];refine⟨by simp [dI],sl-(t+1),by omega,Q,q,cp,t+1,aA rfl,hp',by omega,BQ0,hc,?_,hcp,gq4,hq,by have:=K4.next;omega,gD4,F4k,rfl⟩;rw[etk];intro s' hs';rcases xH.1 hs' with h1|h1
     ·exact hcl s' h1
     ·obtain rfl:s'=s:=by simpa using h1
      exact⟨j,hjQ,ej⟩
    |false=>
     rw[hsn2] at cDj;have hjQ:j∉Q:=λh1=>by rw[snC_iff.2 (.inr h1)] at hsn2;cases hsn2
     obtain⟨k5,e5,m5,g5,o5⟩:=uB k4 D ((rc L.length λj=> .bool (snC G L i Q j)).set j (.bool true));obtain⟨Y,hY⟩:=AS k5.next;obtain⟨k6,e6',m6,g6',o6',f6'⟩:=fC hY [aC j];have pt:=bE (vs:=rc L.length λj=> .bool (snC G L i Q j)) (off:=j) (by rw[cV];exact hj);have nk:=K4.next;have gq6:k6.get q=some (.cells false (ints (zi Q))):=by rw[o6' _ (by omega),o5 _ (by omega)];exact gq4
     have ow6:Own k6 (.sl q 0 Q.length cp) 1 (ints (zi Q)) 0:= .inr ⟨q,Q.length,cp, [],rfl,by rw[aN,aU];simp,by rcases hcp with h1|h1;exact .inl h1;exact .inr ⟨h1,rfl⟩,gK _,by omega,by rw[List.append_nil];exact gq6⟩;obtain⟨k7,a7,p7⟩:=ow6.push (bytes:=8) (SV.one (v:= aC j) (id:=Y) (by omega) g6' (.kn 1)) (n:=Q.length) (m:=1) (by rw[aN,aU];simp) rfl (by omega) (by omega) (by omega);simp(disch:=omega)only[go_sem,cB4,gM4k,lk,cDj,gD4,pt,e5,dC k5 (z:= aC 0) (v:= aC j) rfl rfl,hY,e6',a7];rw[iO t];have el:ints (zi (Q++ [j]))=ints (zi Q)++ [aC j]:=by simp [zi,ints]
     have m7:=p7.next;have apD:dA (.sl q 0 Q.length cp) D:=λid off n c e e2=>by cases e;omega
     have hc0:(rc L.length λj'=>V.bool (snC G L i Q j')).set j (.bool true)=rc L.length λj'=> .bool (snC G L i (Q++ [j]) j'):=by
      rw[eY]
      exact bH λj' _=>by
       rw[snC_push]
       by_cases e:j'=j
       ·rw[if_pos e,if_pos e]
       ·rw[if_neg e,if_neg e]
     refine⟨by simp [dI],sl-(t+1),by omega,Q++ [j],k6.next,.un 1,t+1,by rw[jD];exact aA rfl,by rw[jD];omega,by omega,⟨?_,by rw[jD];simp,?_,?_,?_⟩,?_,?_,.inl rfl,by rw[el];exact p7.get,by omega,by omega,?_,?_,rfl⟩
     ·rw[List.nodup_append]
      exact⟨BQ0.nd,by simp,λx hx y hy e=>by
       obtain rfl:y=j:=by simpa using hy
       exact hjQ (e▸hx)⟩
     ·rw[List.getD,wY BQ0.ne];exact BQ0.hd
     ·intro x hx
      rcases xH.1 hx with h1|h1
      ·exact BQ0.mem x h1
      ·obtain rfl:x=j:=by simpa using h1
       exact⟨hj,hij⟩
     ·intro k hk s' hs'
      obtain⟨y,hy,ey⟩:=BQ0.cl k hk s' hs';refine⟨y,xH.2 (.inl hy),?_⟩;rw[ey,List.getD,List.getD,List.getD,List.getD,wY (by omega)]
     ·rw[List.getD,wY hp'];exact hc
     ·rw[etk]
      intro s' hs';rcases xH.1 hs' with h1|h1
      ·obtain⟨y,hy,ey⟩:=hcl s' h1
       exact⟨y,xH.2 (.inl hy),ey⟩
      ·obtain rfl:s'=s:=by simpa using h1
       exact⟨j,xH.2 (.inr (by simp)),ej⟩
     ·rw[p7.old D (by omega) apD,o6' D (by omega),g5,hc0]
     ·refine⟨by omega,λx h1 h2=>?_⟩
      rw[p7.old x (by omega) (λid off n c e e2=>by cases e;omega),o6' x (by omega),o5 x h2];exact F4k.get x h1 h2
   clear BQ0 hcp gq hq nq gD Fa hc hpl d5 hp hp' hQl
   clear Q q cp
   rintro vars hb ⟨Q,q,cp,⟨g3,rfl⟩,hp',BQ1,hcp,gq,hq,nq,gD,Fb⟩
   have hQl:=BQ1.len
   simp(disch:=omega)only[go_sem]
   rw[iO p]
   exact⟨m-(p+1),by omega,Q,q,cp,p+1,aA rfl,by omega,BQ1,hcp,gq,hq,nq,gD,Fb,rfl⟩
  clear F79 B0 e8 n8 g8 o8 hZ e9 n9 g9 o9 f9 pt hc0
  rintro vars hb ⟨Q,q,cp,⟨g3,rfl⟩,BQ1,hcp,gq,hq,nq,gD,Fb⟩
  have hQl:=BQ1.len
  have nb:=Fb.next
  have srt:=sort_ok hb q (zi Q) cp (by rw[aU];omega) gq nq
  rw[aU] at srt
  simp(disch:=omega)only[go_sem]
  refine srt.mono ?_
  rintro _ ka ⟨l',gl,pl,al,Fa⟩
  obtain rfl:=BQ1.sort hG E (eP _) (by omega) hSG hSgen pl al
  have hQo:Q.length=(orbC G L i).length:=by have:=pl.length_eq;rw[aU,aU] at this;exact this.symm
  have na:=Fa.next
  have f2a:Fr h2 ka:=⟨by omega,λx hx=>by rw[Fa.get x (by omega) (λe=>by have:x=q:=e;omega),Fb.get x (by omega) (λe=>by have:x=D:=e;omega)];exact f27.get x hx⟩
  have X1:=el_isP hG E (show i<L.length by omega)
  simp(disch:=omega)only[go_sem]
  refine (order_ok vx n (L.getD i []) ka n0 n7 X1 (sx.mono f2a)).mono ?_
  rintro _ kb ⟨rfl,fb⟩
  have nkb:=fb.next
  obtain⟨vK,ks,WK,gB,owK,aK,bK,wD,wB,wN,wn,wX,_⟩:=J.ex
  have hks:=All2.length aK
  have gBb:kb.get (X+8)=some (.cells false [vL,.mp (X+3),vK,.sl (X+6) 0 L.length (.kn L.length)]):=by
   rw[fb.get _ (by omega),Fa.get _ (by omega) (λe=>by have:X+8=q:=e;omega),Fb.get _ (by omega) (λe=>by have:X+8=D:=e;omega)];exact gB
  have cB2:kb.cell (X+8) 2=some vK:=by rw[H.aF gBb];rfl
  have owx:=sx.cW.2.1
  have eKo:=owK.sv.dI
  obtain⟨Y,hY⟩:=AS kb.next
  obtain⟨kc,ec,mc,gc',oc,fc⟩:=fC hY [vx,aC (cM (L.getD i []) n:Nat),aC (Q.length:Int),.sl q 0 Q.length cp]
  have old7: ∀x,x<Z->x≠D->kc.get x=h7.get x:=λx h1 h2=>by
   rw[oc x (by omega),fb.get x (by omega),Fa.get x (by omega) (λe=>by have:x=q:=e;omega),Fb.get x (by omega) h2]
  have owKc:Own kc vK 4 (Cls.kflat ks) (D+1):=owK.mono (by omega) λid off n' c e h1 h2=>old7 id (by omega) (by omega)
  have lr:=repsC_len (G:=G) (L:=L) i
  obtain⟨kd,ad,pd⟩:=owKc.push (bytes:=64) (y:= .sl Y 0 1 (.kn 1)) (us:= [vx,aC (cM (L.getD i []) n:Nat),aC (Q.length:Int),.sl q 0 Q.length cp]) (SV.all rfl (by omega) gc' _) (n:=ks.length) (m:=1) (kflat_len ks) rfl (by omega) (by omega) (by omega)
  have md:=pd.next
  have apB:dA vK (X+8):=λid off n' c e e2=>by have:=(owK.in _ _ _ _ e).2.1;omega
  have gBd:kd.get (X+8)=some (.cells false [vL,.mp (X+3),vK,.sl (X+6) 0 L.length (.kn L.length)]):=by
   rw[pd.old _ (by omega) apB,oc _ (by omega)];exact gBb
  obtain⟨ke,ee,me,ge,oe⟩:=uB kd (X+8) [vL,.mp (X+3),.sl kc.next 0 (ks.length+1) (.un 4),.sl (X+6) 0 L.length (.kn L.length)]
  simp(disch:=omega)only[go_sem,cB2,bld_three sx.cW.1 owx,bld_class owx (w:= .sl q 0 Q.length cp) rfl rfl,bls_class owx (w:= .sl q 0 Q.length cp) rfl,hY,ec,ad,gBd,put_third,ee]
  rw[iO i]
  have dPV: ∀x,x<Z-> ¬WK x->ke.get x=h7.get x:=λx h1 h2=>by
   rw[oe x (λe=>h2 (e▸wB)),pd.old x (by omega) (λid off n' c e e2=>h2 (e2▸bK _ _ _ _ e)),old7 x h1 (λe=>h2 (e▸wD))]
  have FK:Fx WK h7 ke:=⟨by omega,λx h1 h2=>dPV x (by omega) h2⟩
  have f2e:Fr h2 ke:=⟨by omega,λx hx=>by rw[dPV x (by omega) (λh1=>by have:=wX x h1;omega)];exact f27.get x hx⟩
  have e1k:Cls.kflat (ks++ [⟨vx,cM (L.getD i []) n,Q.length,.sl q 0 Q.length cp,i,⟨sx.cW.1,owx,sx.dI⟩,⟨rfl,rfl,by simp [dI]⟩⟩])=Cls.kflat ks++ [vx,aC (cM (L.getD i []) n:Nat),aC (Q.length:Int),.sl q 0 Q.length cp]:=by
   simp [Cls.kflat,Cls.KE.enc]
  refine⟨m-(i+1),by omega,i+1,aA rfl,by omega,⟨⟨_,ks++ [⟨vx,cM (L.getD i []) n,Q.length,.sl q 0 Q.length cp,i,⟨sx.cW.1,owx,sx.dI⟩,⟨rfl,rfl,by simp [dI]⟩⟩],λx=>WK x∨x=kc.next,ge,?_,?_,λid off n' c e=>by cases e;exact .inr rfl,   .inl wD,.inl wB,.inl wN,λx h=>by rcases h with h|h;have:=wn x h;omega;omega,λx h=>by rcases h with h|h;exact wX x h;omega,.inr ⟨_,_,by rw[jD];rfl,?_⟩⟩,?_,?_,by omega⟩,rfl⟩
  ·rw[e1k]
   exact (pd.own (b:=D+1) (kflat_len ks) rfl (by omega)).mono (by omega) λid off n' c e h1 h2=>by cases e;exact oe _ (by omega)
  ·rw[(repsC_succ i).1 hr]
   refine All2.append (aK.mono λa r k=>k.go FK (by omega) wX λx h1 h2=>by rcases h2 with h2|h2;exact h2;omega) ⟨⟨rfl,rfl,hQo,⟨sx.mono f2e,?_⟩,⟨?_,?_⟩⟩,trivial⟩
   ·rw[←hX];exact off_lt sx
   ·rw[hQo]
    refine SV.all (ro:=false) (by rw[aN,aU,Nat.mul_one]) (by omega) ?_ _
    rw[oe q (by omega),pd.old q (by omega) (λid off n' c e e2=>by have:=wn _ (bK _ _ _ _ e);omega),oc q (by omega),fb.get q (by omega)]
    exact gl
   ·exact λh=>by rcases h with h|h;have:=wn _ h;omega;omega
  ·rw[e1k,oe _ (by omega)];exact pd.get
  ·rw[oe D (by omega),pd.old D (by omega) (λid off n' c e e2=>by have:=(owK.in _ _ _ _ e).2.1;omega),oc D (by omega),fb.get D (by omega),Fa.get D (by omega) (λe=>by have:D=q:=e;omega),gD,bH λj hj=>by rw[snC_done hG E (show i<L.length by omega) BQ1 hSG hSgen hj]]
  ·refine⟨by have:=J.old.next;omega,λx h1 h2=>?_⟩
   have hx8:x≠X+8:=λe=>h2 (.inl e)
   have hxD:x<D:=by omega
   rw[oe x hx8,pd.old x (by omega) (λid off n' c e e2=>by have:=(owK.in _ _ _ _ e).2.1;omega),old7 x (by omega) (by omega)]
   exact J.old.get x h1 h2
 rintro vars h7 ⟨⟨g,rfl⟩,J⟩
 exact hk L X D vL h2 h5 h7 A g hL ⟨E,by omega,f1.trans f2,hX,nw.sp,f25,by omega,hD,by rw[f5.get _ (by omega),hm];exact gM4,by rw[f5.get _ (by omega),hm];exact gN4,by rw[hm];exact J⟩
end
open Classical in
noncomputable def numC (G:List Nat->Prop)(L:LN)(K:List Nat)(j:Nat):Nat:=K.findIdx λr=>decide (cR G L r j)
structure KR (n:Nat)(G:List Nat->Prop)(L:LN)(hh:H)(a:Cls.KE)(r:Nat):Prop where
 fst:a.fst=r
 ord:a.ord=cM (L.getD r []) n
 size:a.size=(orbC G L r).length
 rep:SI hh a.rep (zi (L.getD r []))
 ranks:SI hh a.ranks (zi (orbC G L r))
theorem KR.mono {n:Nat}{G:List Nat->Prop}{L:LN}{h h':H}{a:Cls.KE}{r:Nat}(k:KR n G L h a r)(f:Fr h h'):KR n G L h' a r:=⟨k.fst,k.ord,k.size,k.rep.mono f,k.ranks.mono f⟩
def kLt (n:Nat)(G:List Nat->Prop)(L:LN)(r s:Nat):Prop:=cM (L.getD r []) n<cM (L.getD s []) n∨cM (L.getD r []) n=cM (L.getD s []) n/\((orbC G L r).length<(orbC G L s).length∨(orbC G L r).length=(orbC G L s).length/\r<s)
structure IsK (n:Nat)(G:List Nat->Prop)(L:LN)(K:List Nat):Prop where
 perm:K.Perm (repsC G L L.length)
 asc:K.Pairwise (kLt n G L)
structure GrpO (n:Nat)(G:List Nat->Prop)(L:LN)(K:List Nat)(hh:H)(v:V):Prop where
 ex: ∃B M N S cp vL ks,v= .ptr B 0/\B<hh.next/\M<hh.next/\N<hh.next/\S<hh.next/\hh.get B=some (.cells false [vL,.mp M,.sl S 0 K.length cp,.sl N 0 L.length (.kn L.length)])/\
  hh.get M=some (.wmap .str (wmp L L.length))/\hh.get N=some (.cells false (rc L.length λj=> aC (numC G L K j:Nat)))/\hh.get S=some (.cells false (Cls.kflat ks))/\All2 (KR n G L hh) ks K/\SP hh vL L
theorem GrpO.mono {n:Nat}{G:List Nat->Prop}{L:LN}{K:List Nat}{h h':H}{v:V}(g:GrpO n G L K h v)(f:Fr h h'):GrpO n G L K h' v:=by
 obtain⟨B,M,N,S,cp,vL,ks,e,hB,hM,hN,hS,gB,gM,gN,gS,a,sp⟩:=g.ex;have n1:=f.next;exact⟨B,M,N,S,cp,vL,ks,e,by omega,by omega,by omega,by omega,by rw[f.get _ hB];exact gB,by rw[f.get _ hM];exact gM,by rw[f.get _ hN];exact gN,by rw[f.get _ hS];exact gS,a.mono λ_ _ k=>k.mono f,sp.mono f⟩
section
variable {n:Nat} {G:List Nat->Prop} {L:LN} {K:List Nat} (hG:iL n G) (E:cX G L)
include hG E
omit hG E in
theorem repsC_zero_mem (h0:0<L.length):0∈repsC G L L.length:=repsC_mem.2 ⟨h0,λj hj=>by omega⟩
theorem numC_at (pK:K.Perm (repsC G L L.length)){k:Nat}(hk:k<K.length){j:Nat}(hj:j∈orbC G L (K.getD k 0)):numC G L K j=k:=by
 classical
 obtain⟨hjl,hc⟩:=orbC_mem.1 hj;have hnd:K.Nodup:=pK.nodup_iff.2 (by unfold repsC;exact List.Pairwise.filter _ List.nodup_range);have hK: ∀r∈K,r<L.length/\isR G L r:=λr hr=>repsC_mem.1 (pK.mem_iff.1 hr)
 unfold numC;rw[List.findIdx_eq hk];have ek:K.getD k 0=K[k]:=Pm.cG hk;rw[ek] at hc;refine⟨by simpa using hc,λi hi=>?_⟩;simp only[decide_eq_false_iff_not];intro hc2;have h1:=hK K[i] (List.getElem_mem _);have h2:=hK K[k] (List.getElem_mem _);have:=rep_uniq hG E h1.1 h2.1 h1.2 h2.2 hc2 hc;have hne:=List.pairwise_iff_getElem.1 hnd i k (by omega) hk hi;exact hne this
theorem num_cover (pK:K.Perm (repsC G L L.length)){j:Nat}(hj:j<L.length): ∃k,k<K.length/\j∈orbC G L (K.getD k 0):=by
 obtain⟨r,h1,h2,h3⟩:=rep_ex hG E hj;have hr:r∈K:=pK.mem_iff.2 (repsC_mem.2 ⟨by omega,h2⟩);obtain⟨k,hk,ek⟩:=uH.1 hr;exact⟨k,hk,orbC_mem.2 ⟨hj,by rw[Pm.cG hk,ek];exact h3⟩⟩
end
open Classical in
noncomputable def nuC (G:List Nat->Prop)(L:LN)(K:List Nat)(k t j:Nat):Nat:=if (∃k0,k0<k/\j∈orbC G L (K.getD k0 0))∨j∈(orbC G L (K.getD k 0)).take t then numC G L K j else 0
theorem nuC_zero (G:List Nat->Prop)(L:LN)(K:List Nat)(j:Nat):nuC G L K 0 0 j=0:=by
 classical
 unfold nuC;rw[if_neg];rintro (⟨k0,h,_⟩|h)
 ·omega
 ·simp at h
theorem nuC_next (G:List Nat->Prop)(L:LN)(K:List Nat)(k j:Nat):nuC G L K k (orbC G L (K.getD k 0)).length j=nuC G L K (k+1) 0 j:=by
 classical
 unfold nuC;rw[List.take_length,List.take_zero]
 have e:((∃k0,k0<k/\j∈orbC G L (K.getD k0 0))∨j∈orbC G L (K.getD k 0))↔((∃k0,k0<k+1/\j∈orbC G L (K.getD k0 0))∨j∈([]:List Nat)):=by
  constructor
  ·rintro (⟨k0,h1,h2⟩|h)
   ·exact .inl ⟨k0,by omega,h2⟩
   ·exact .inl ⟨k,by omega,h⟩
  ·rintro (⟨k0,h1,h2⟩|h)
   ·by_cases e:k0=k
    ·subst e;exact .inr h2
    ·exact .inl ⟨k0,by omega,h2⟩
   ·cases h
 by_cases h:((∃k0,k0<k/\j∈orbC G L (K.getD k0 0))∨j∈orbC G L (K.getD k 0))
 ·rw[if_pos h,if_pos (e.1 h)]
 ·rw[if_neg h,if_neg (λx=>h (e.2 x))]
theorem nuC_step {n:Nat}{G:List Nat->Prop}{L:LN}{K:List Nat}(hG:iL n G)(E:cX G L)(pK:K.Perm (repsC G L L.length)){k:Nat}(hk:k<K.length){t:Nat}(ht:t<(orbC G L (K.getD k 0)).length)(j:Nat):
  nuC G L K k (t+1) j=if j=(orbC G L (K.getD k 0)).getD t 0 then k else nuC G L K k t j:=by
 classical
 by_cases e:j=(orbC G L (K.getD k 0)).getD t 0
 ·rw[if_pos e]
  have hj:j∈orbC G L (K.getD k 0):=by rw[e];exact getD_mem ht
  unfold nuC
  rw[if_pos (.inr (by rw[take_getD 0 ht,e];simp))]
  exact numC_at hG E pK hk hj
 ·rw[if_neg e]
  unfold nuC
  rw[take_getD 0 ht]
  simp only[xH,List.mem_singleton,e,or_false]
theorem nuC_done {n:Nat}{G:List Nat->Prop}{L:LN}{K:List Nat}(hG:iL n G)(E:cX G L)(pK:K.Perm (repsC G L L.length)){j:Nat}(hj:j<L.length):nuC G L K K.length 0 j=numC G L K j:=by
 classical
 obtain⟨k,h1,h2⟩:=num_cover hG E pK hj;unfold nuC;rw[if_pos (.inl ⟨k,h1,h2⟩)]
theorem row_kflat {h:H}{S:Nat}{ro:Bool}: ∀{ks:List Cls.KE} {pre:List V},h.get S=some (.cells ro (pre++Cls.kflat ks))-> ∀{i:Nat} (hi:i<ks.length),h.row S (pre.length+i*4) 4=some ks[i].enc
 | [],_,_,_,hi=>by simp at hi
 |a::r,pre,g,0,_=>by
  unfold H.row;rw[g];show sub (pre++(a.enc++Cls.kflat r)) (pre.length+0*4) 4=some a.enc;simp only[sub,Nat.zero_mul,Nat.add_zero];have:a.enc.length=4:=rfl;rw[if_pos (by rw[jD,jD];omega),List.drop_left,List.take_append,List.take_of_length_le (by omega),this];simp
 |a::r,pre,g,i+1,hi=>by
  have g':h.get S=some (.cells ro ((pre++a.enc)++Cls.kflat r)):=by rw[g,List.append_assoc];rfl
  have:=row_kflat g' (i:=i) (by simpa using hi);rw[jD,show a.enc.length=4 from rfl] at this;rw[show pre.length+(i+1)*4=pre.length+4+i*4 by omega];simpa using this
theorem stV_ke (h:H)(id off:Nat)(a:Cls.KE):Hg h 4 (.ptr id off) (.agg a.enc)=dV (h.get id) h id off a.enc:=pU h id off 4 _ rfl (by simp [Cls.KE.enc,a.hrep.2.1,a.hranks.2.1,show (aC (a.ord:Int)).one=true from rfl,show (aC (a.size:Int)).one=true from rfl])
theorem put_ke (hh:H)(id:Nat)(a:Cls.KE)(x y z w:V):dV (some (.cells false [x,y,z,w])) hh id 0 a.enc=some (hh.set id (some (.cells false a.enc))):=by
 simp [dV,putAt,Cls.KE.enc]
theorem All2.ex {α β:Type}{R:α->β->Prop}{as:List α}{bs:List β}(h:All2 R as bs){a:α}(ha:a∈as): ∃b∈bs,R a b:=by
 obtain⟨i,hi,rfl⟩:=uH.1 ha;have hl:=All2.length h;exact⟨bs[i]'(by omega),List.getElem_mem _,All2.get h i hi (by omega)⟩
theorem SI.lit {h:H}{v:V}{l:List Int}(s:SI h v l)(hl:0<l.length): ∃id off m cap,v= .sl id off (m+1) cap/\m+1=l.length/\id<h.next/\ ∀i,i<l.length->h.cell id (off+i)=some (aC (l.getD i 0)):=by
 obtain⟨id,off,sh,hid,hc⟩:=s.open;rcases s with ⟨_,h0⟩|⟨id',off',len,cap,ro,vs,e,h2,h3,_⟩
 ·have:l.length=0:=by rw[←aN,h0];rfl
  omega
 ·rw[aN,Nat.mul_one] at h2
  have hx:=sh.ixa .i64 0 (by omega) (by omega);subst e;rw[rR (by omega) (by omega)] at hx;simp only[Option.some.injEq,V.ptr.injEq] at hx;obtain⟨rfl,h5⟩:=hx;have h6:off'=off:=by omega
  subst h6;exact⟨id',off',l.length- 1,cap,by rw[show l.length- 1+1=len by omega],by omega,h3,hc⟩
theorem of_ok {W0:Nat->Prop}(vc:V)(n:Nat)(O:LN)(R:lU)(G:List Nat->Prop)(h:H)(gc:GC W0 h vc n O R G):
  Ev T 56 [vc] h (λv h'=> ∃p K,v= .tup [p,aC 0]/\GrpO n G (cU O R n 0 (aW n)) K h' p/\IsK n G (cU O R n 0 (aW n)) K/\Fr h h'):=by
 refine of_walk vc n O R G h gc _ λL X D vL h2 h5 h7 A g hL e=>?_
 rw[hL]
 have hG:=gc.grp
 have E:=e.el
 obtain⟨vK,ks,WK,gB,owK,aK,bK,wD,wB,wN,wn,wX,xK⟩:=e.j.ex
 have hks:=All2.length aK
 obtain⟨m,hm⟩:=AS L.length
 have h0:0<L.length:=List.length_pos_of_mem ((E.mem _).2 hG.one)
 have hk0:0<ks.length:=by rw[hks];exact List.length_pos_of_mem (repsC_zero_mem h0)
 obtain⟨S,cp,rfl,gS⟩: ∃id cap,vK= .sl id 0 ks.length cap/\h7.get id=some (.cells false (Cls.kflat ks)):=by
  rcases xK with h1|h1
  ·subst h1;simp at hk0
  ·exact h1
 have wS:=bK _ _ _ _ rfl
 have nS:=wn _ wS
 have cB2:h7.cell (X+8) 2=some (.sl S 0 ks.length cp):=by rw[H.aF gB];rfl
 show Wp T none (afterB 2 c_classes_of.body) _ h7 _
 simp(disch:=omega)only[go_sem,afterB,endsB,c_classes_of,cB2]
 have hR: ∀r∈repsC G L L.length,r<L.length/\isR G L r:=λr hr=>repsC_mem.1 hr
 have hPp: ∀a∈ks,a.Pp h7 h7.next S:=λa ha=>by
  obtain⟨r,hr,k⟩:=All2.ex aK ha;obtain⟨hrl,hri⟩:=hR r hr;obtain⟨l1,l2⟩:=orbC_head hG E hrl hri;obtain⟨id,off,m',cap,e1,e2,e3,e4⟩:=SI.lit k.ranks.si (by rw[aU];exact l1);have ho:=k.ranks.off;rw[e1] at ho;refine⟨id,off,m',cap,e1,e3,λh1=>ho (h1▸wS),?_⟩;have:=e4 0 (by rw[aU];exact l1);rw[Nat.add_zero] at this;rw[this,zi,gd_map _ (d:=0) l1,l2,k.fst]
 refine (Cls.csort_ok h7 S h7.next ks cp (by rw[hks];have:=repsC_len (G:=G) (L:=L) L.length;have:=e.le;omega) gS nS (eP _) hPp).mono ?_
 rintro _ h8 ⟨ks',gS8,pm,srt,F8⟩
 obtain⟨K,hK⟩:=AS (ks'.map (λa:Cls.KE=>a.fst))
 have hlK:K.length=ks.length:=by rw[←hK,jS];exact pm.length_eq
 have hkr:ks.map (λa:Cls.KE=>a.fst)=repsC G L L.length:=by
  refine List.ext_getElem (by rw[jS];exact hks) λi h1 h2=>?_
  rw[List.getElem_map];exact (All2.get aK i (by simpa using h1) h2).fst
 have pK:K.Perm (repsC G L L.length):=by rw[←hK,←hkr];exact pm.map _
 have kK: ∀a∈ks',KO n G L X WK h7 a a.fst:=λa ha=>by
  obtain⟨r,hr,k⟩:=All2.ex aK (pm.mem_iff.1 ha);rw[k.fst];exact k
 have FK:Fx WK h7 h8:=⟨F8.next,λq h1 h2=>F8.get q h1 λh3=>h2 (by have:q=S:=h3;rw[this];exact wS)⟩
 have kK8: ∀a∈ks',KO n G L X WK h8 a a.fst:=λa ha=>(kK a ha).go FK (by have:=wX S wS;omega) wX λ_ _ h1=>h1
 have hSD:=(owK.in _ _ _ _ rfl).2.1
 have xD:=e.xD
 have n8:=F8.next
 have gB8:h8.get (X+8)=some (.cells false [vL,.mp (X+3),.sl S 0 ks.length cp,.sl (X+6) 0 L.length (.kn L.length)]):=by
  rw[F8.get _ (wn _ wB) (λh1=>by have:X+8=S:=h1;omega)];exact gB
 have cB8:h8.cell (X+8) 2=some (.sl S 0 ks.length cp):=by rw[H.aF gB8];rfl
 have gN7:h7.get (X+6)=some (.cells false (rc L.length λ_=> aC 0)):=by
  rw[e.j.old.get _ (by rw[e.n5];omega) (by omega)];exact e.gN
 have gN8:h8.get (X+6)=some (.cells false (rc L.length λj=> aC (nuC G L K 0 0 j:Nat))):=by
  rw[F8.get _ (wn _ wN) (λh1=>by have:X+6=S:=h1;omega),gN7,show (λj=>aC (nuC G L K 0 0 j:Nat))=λ_=>aC 0 from funext λj=>by rw[nuC_zero];rfl]
 have hKk: ∀k,k<K.length-> ∃a,ks'[k]? =some a/\KO n G L X WK h8 a (K.getD k 0):=λk hk=>by
  have hk':k<ks'.length:=by rw[pm.length_eq,←hlK];exact hk
  refine⟨ks'[k],eQ hk',?_⟩;have:=kK8 _ (List.getElem_mem hk');have e2:K.getD k 0=(ks'[k]).fst:=by rw[Pm.cG hk];subst hK;rw[List.getElem_map]
  rw[e2];exact this
 have le:=e.le
 have hKle:K.length<=L.length:=by rw[hlK,hks];exact repsC_len _
 have nN:=wn _ wN
 rw[←hlK] at cB8 gB8
 simp(disch:=omega)only[go_sem,cB8]
 refine cF (λvs hh=>(∃g:Nat->V,vs= [g 0,g 1,.nilp,aC 0,g 4,g 5,.ptr (X+8) 0,g 7,g 8,g 9,g 10,g 11,g 12,g 13,g 14,g 15,g 16,g 17,g 18,g 19,g 20,g 21,g 22,g 23,g 24,g 25,g 26,g 27,g 28,g 29,g 30,g 31,g 32,g 33,g 34,g 35,g 36,g 37,g 38,g 39,g 40,g 41,g 42,g 43,g 44,g 45])/\hh.get (X+6)=some (.cells false (rc L.length λj=> aC (nuC G L K K.length 0 j:Nat)))/\Fx (· =X+6) h8 hh) ?_ ?_
 ·refine aJ (λk' vs hh=> ∃(k:Nat),(∃g:Nat->V,vs= [g 0,g 1,.nilp,aC 0,g 4,g 5,.ptr (X+8) 0,g 7,g 8,g 9,g 10,g 11,g 12,g 13,g 14,g 15,g 16,g 17,g 18,g 19,g 20,g 21,g 22,g 23,g 24,g 25,g 26,g 27,g 28,g 29,g 30,g 31,g 32,g 33,g 34,g 35,g 36,g 37,.sl S 0 K.length cp,aC (K.length:Int),aC k,g 41,g 42,g 43,g 44,g 45])/\k<=K.length/\hh.get (X+6)=some (.cells false (rc L.length λj=> aC (nuC G L K k 0 j:Nat)))/\Fx (· =X+6) h8 hh/\k'=K.length-k) K.length
   ⟨0,aA rfl,gK _,gN8,Fx.refl _ _,rfl⟩ ?_
  rintro k' vars h9 ⟨k,⟨g,rfl⟩,hk,gN9,F9,rfl⟩
  have n9:=F9.next
  by_cases hlt:(k:Int)<(K.length:Int)
  case neg=>
   have d4:=iG hlt;obtain rfl:k=K.length:=by omega
   simp(disch:=omega)only[go_sem,d4];exact⟨aA rfl,gN9,F9⟩
  have d4:=mF hlt
  have hk':k<K.length:=by omega
  obtain⟨a,ea,ko⟩:=hKk k hk'
  have hkl:k<ks'.length:=by rw[pm.length_eq,←hlK];exact hk'
  have ea':ks'[k]=a:=by rw[eQ hkl] at ea;simpa using ea
  have gS9:h9.get S=some (.cells false (Cls.kflat ks')):=by rw[F9.get _ (by omega) (λh1=>by have:S=X+6:=h1;omega)];exact gS8
  have rw9:h9.row S (k*4) 4=some a.enc:=by
   have:=row_kflat (pre:= []) (by simpa using gS9) hkl;rw[ea'] at this;simpa using this
  obtain⟨Y,hY⟩:=AS h9.next
  obtain⟨ha,eha,na,ga,oa,fa⟩:=fC hY [.aB,aC 0,aC 0,.aB]
  obtain⟨hb,ehb,nb,gb,ob⟩:=uB ha Y a.enc
  have cb3:hb.cell Y 3=some a.ranks:=by rw[H.aF gb];rfl
  have lr:=ko.ranks.si.lens
  rw[aU] at lr
  obtain⟨r,hr⟩:=AS (K.getD k 0)
  rw[hr] at ko lr
  simp(disch:=omega)only[go_sem,d4,rw9,hY,eha,stV_ke,ga,put_ke,ehb,cb3,lr]
  have hrK:r∈repsC G L L.length:=by rw[←hr];exact pK.mem_iff.1 (getD_mem hk')
  obtain⟨hrl,hri⟩:=hR r hrK
  obtain⟨l1,l2⟩:=orbC_head hG E hrl hri
  obtain⟨idR,offR,mR,capR,e1,e2,e3,e4⟩:=SI.lit ko.ranks.si (by rw[aU];exact l1)
  have ho:=ko.ranks.off
  rw[e1] at ho
  have hRN:idR≠X+6:=λh1=>ho (h1▸wN)
  obtain⟨c,hc⟩:=AS ((orbC G L r).length)
  rw[aU,hc] at e2 e4
  have hcl:c<=L.length:=by
   rw[←hc];have:=List.Nodup.length_le_of_subset (orbC_nodup (G:=G) (L:=L) r) (l₂:=List.range L.length) λj hj=>rH.2 (orbC_mem.1 hj).1
   rwa [List.length_range] at this
  rw[hc,e1]
  have Fb:Fx (· =X+6) h8 hb:=⟨by omega,λq h1 h2=>by rw[ob q (by omega),oa q (by omega)];exact F9.get q h1 h2⟩
  have gNb:hb.get (X+6)=some (.cells false (rc L.length λj=> aC (nuC G L K k 0 j:Nat))):=by rw[ob _ (by omega),oa _ (by omega)];exact gN9
  have gBb: ∀hh,Fx (· =X+6) h8 hh->hh.cell (X+8) 3=some (.sl (X+6) 0 L.length (.kn L.length)):=λhh f=>by
   have:hh.get (X+8)=h8.get (X+8):=f.get _ (by have:=wn _ wB;omega) (by omega);rw[H.aF (this.trans gB8)];rfl
  refine loop_end (λvs hh=>(∃g:Nat->V,vs= [g 0,g 1,.nilp,aC 0,g 4,g 5,.ptr (X+8) 0,g 7,g 8,g 9,g 10,g 11,g 12,g 13,g 14,g 15,g 16,g 17,g 18,g 19,g 20,g 21,g 22,g 23,g 24,g 25,g 26,g 27,g 28,g 29,g 30,g 31,g 32,g 33,g 34,g 35,g 36,g 37,.sl S 0 K.length cp,aC (K.length:Int),aC k,g 41,g 42,g 43,g 44,g 45])/\hh.get (X+6)=some (.cells false (rc L.length λj=> aC (nuC G L K (k+1) 0 j:Nat)))/\Fx (· =X+6) h8 hh) ?_ ?_
  ·refine aJ (λk' vs hh=> ∃(t:Nat),(∃g:Nat->V,vs= [g 0,g 1,.nilp,aC 0,g 4,g 5,.ptr (X+8) 0,g 7,g 8,g 9,g 10,g 11,g 12,g 13,g 14,g 15,g 16,g 17,g 18,aC k,g 20,g 21,g 22,g 23,g 24,g 25,g 26,g 27,g 28,g 29,g 30,g 31,g 32,g 33,g 34,g 35,g 36,g 37,.sl S 0 K.length cp,aC (K.length:Int),aC k,g 41,.sl idR offR (mR+1) capR,aC c,aC t,g 45])/\t<=c/\hh.get (X+6)=some (.cells false (rc L.length λj=> aC (nuC G L K k t j:Nat)))/\Fx (· =X+6) h8 hh/\k'=c-t) c
    ⟨0,aA rfl,gK _,gNb,Fb,rfl⟩ ?_
   clear gNb Fb gb ob cb3 nb ehb ga oa fa na eha rw9 gN9 F9 n9
   rintro k' vars hc' ⟨t,⟨g2,rfl⟩,ht,gNc,Fc,rfl⟩
   by_cases htl:(t:Int)<(c:Int)
   case neg=>
    have d5:decide ((t:Int)<(c:Int))=false:=decide_eq_false htl;obtain rfl:t=c:=by omega
    simp(disch:=omega)only[go_sem,d5];refine⟨aA rfl,?_,Fc⟩;rw[gNc,show (λj=>aC (nuC G L K k t j:Nat))=λj=>aC (nuC G L K (k+1) 0 j:Nat) from funext λj=>by rw[←nuC_next,hr,hc]]
   have d5:decide ((t:Int)<(c:Int))=true:=decide_eq_true htl
   have ht':t<c:=by omega
   obtain⟨x,hx⟩:=AS ((orbC G L r).getD t 0)
   have hxl:x<L.length:=by rw[←hx];exact (orbC_mem.1 (getD_mem (by omega))).1
   have cR':hc'.cell idR (offR+t)=some (aC x):=by
    have e5:=e4 t ht';unfold H.cell at e5 ⊢;rw[Fc.get idR e3 hRN,e5,zi,gd_map _ (d:=0) (by omega),hx]
   have pt:=bE (vs:=rc L.length λj=> aC (nuC G L K k t j:Nat)) (off:=x) (by rw[cV];exact hxl)
   have tl:(t:Int).toNat=t:=rfl
   simp(disch:=omega)only[go_sem,d5,cR',gBb hc' Fc,gNc,pt]
   rw[iO t]
   refine⟨c-(t+1),by omega,t+1,aA rfl,by omega,?_,⟨Fc.next,λq h1 h2=>by rw[H.aH _ h2];exact Fc.get q h1 h2⟩,rfl⟩
   rw[eY,bH λj hj=>?_]
   rw[nuC_step hG E pK hk' (by rw[hr];omega),hr,hx]
   by_cases ej:j=x
   ·rw[if_pos ej,if_pos ej]
   ·rw[if_neg ej,if_neg ej]
  rintro vars hd ⟨⟨g2,rfl⟩,gNd,Fd⟩
  simp(disch:=omega)only[go_sem]
  rw[iO k]
  exact⟨K.length-(k+1),by omega,k+1,aA rfl,by omega,gNd,Fd,rfl⟩
 rintro vars h9 ⟨⟨g,rfl⟩,gN9,F9⟩
 have n9:=F9.next
 simp(disch:=omega)only[go_sem]
 have n2:=e.x2
 have o9: ∀q,q<D->q≠X+8->q≠X+6->h9.get q=h5.get q:=λq h1 h2 h3=>by
  rw[F9.get q (by have:=e.j.nx;omega) h3,F8.get q (by have:=e.j.nx;omega) (λh4=>by have:q=S:=h4;omega),e.j.old.get q (by rw[e.n5];exact h1) (λh4=>by rcases h4 with h4|h4;exact h2 h4;omega)]
 have nx:=e.j.nx
 have f29:Fr h2 h9:=⟨by omega,λq hq=>by rw[o9 q (by omega) (by omega) (by omega)];exact e.f25.get q hq⟩
 have F89:Fx WK h8 h9:=⟨F9.next,λq h1 h2=>F9.get q h1 λh3=>h2 (by have:q=X+6:=h3;rw[this];exact wN)⟩
 have hnd:K.Nodup:=pK.nodup_iff.2 (by classical exact (by unfold repsC;exact List.Pairwise.filter _ List.nodup_range))
 have hlk:ks'.length=K.length:=by rw[←hK,jS]
 refine⟨.ptr (X+8) 0,K,rfl,⟨X+8,X+3,X+6,S,cp,vL,ks',rfl,by omega,by omega,by omega,by omega,?_,?_,?_,?_,?_,e.sp.mono f29⟩,⟨pK,?_⟩,e.f2.trans f29⟩
 ·rw[F9.get _ (by omega) (by omega)];exact gB8
 ·rw[o9 _ (by omega) (by omega) (by omega)];exact e.gM
 ·rw[gN9,bH λj hj=>by rw[nuC_done hG E pK hj]]
 ·rw[F9.get _ (by omega) (by omega)];exact gS8
 ·refine All2.iS hlk λi h1 h2=>?_
  obtain⟨a,ea,ko⟩:=hKk i h2
  have ea':ks'[i]=a:=by rw[eQ h1] at ea;simpa using ea
  have k9:=ko.go F89 (by omega) wX λ_ _ h1=>h1
  rw[Pm.cG h2] at k9
  rw[ea']
  exact⟨k9.fst,k9.ord,k9.size,k9.rep.si,k9.ranks.si⟩
 ·have h1:ks'.Pairwise λa b=>a.fst≠b.fst:=by
   have:=hnd;rw[←hK] at this;exact List.pairwise_map.1 this
  rw[←hK,List.pairwise_map];refine List.Pairwise.imp_of_mem ?_ (List.Pairwise.and srt h1);rintro a b ha hb ⟨h2,h3⟩;have ka:=kK a ha;have kb:=kK b hb;have h4: ¬(b.lt a=true):=by rw[h2];simp
  rw[Cls.KE.lt_iff] at h4;unfold kLt;rw[←ka.ord,←kb.ord,←ka.size,←kb.size];omega
theorem kLt_asymm {n:Nat}{G:List Nat->Prop}{L:LN}{r s:Nat}(a:kLt n G L r s)(b:kLt n G L s r):False:=by
 unfold kLt at a b;omega
theorem IsK.uniq {n:Nat}{G:List Nat->Prop}{L:LN}{K K':List Nat}(a:IsK n G L K)(b:IsK n G L K'):K=K':=
 (a.perm.trans b.perm.symm).eq_of_pairwise (λ_ _ _ _ h1 h2=>(kLt_asymm h1 h2).elim) a.asc b.asc
noncomputable def numsL (G:List Nat->Prop)(L:LN)(K:List Nat):List Nat:=(List.range L.length).map (numC G L K)
theorem rc_nums (G:List Nat->Prop)(L:LN)(K:List Nat):(rc L.length λj=>aC (numC G L K j:Nat))=ints (zi (numsL G L K)):=by
 refine xF (by rw[aN,aU];simp [numsL]) λi hi=>?_
 rw[qZ (by simpa [numsL] using hi)];have:(numsL G L K).getD i 0=numC G L K i:=by simp [numsL,hi]
 rw[this]
theorem map_ok {W0:Nat->Prop}(vc:V)(n:Nat)(O:LN)(R:lU)(G:List Nat->Prop)(h:H)(gc:GC W0 h vc n O R G)(L:LN)(hL:cU O R n 0 (aW n)=L):
  Ev T 21 [vc] h (λv h'=> ∃vl K,v= .tup [vl,aC 0]/\IsK n G L K/\SI h' vl (zi (numsL G L K))/\Fr h h'):=by
 obtain⟨vO,vR,e,sO,sR⟩:=gc.ch
 subst e
 refine bP c_classes_Map rfl rfl ?_
 have oneO:vO.one=true:=Xo sO
 have oneR:vR.one=true:=Xy sR
 obtain⟨A,hA⟩:=AS h.next
 obtain⟨h1,e1,n1,g1,o1,f1⟩:=fC hA [aC n,vO,vR]
 have bx:=dQ h (v:= aC n) (u:=vO) (w:=vR) rfl oneO oneR
 have rB:=bU g1
 simp(disch:=omega)only[go_sem,c_classes_Map,aE,bx,hA,e1,rB]
 refine (of_ok _ n O R G h1 (gc.mono f1)).mono ?_
 rw[hL]
 rintro _ h2 ⟨p,K,rfl,go,ik,f2⟩
 obtain⟨B,M,N,S,cp,vL,ks,rfl,hB,hM,hN,hS,gB,gM,gN,gS,a,sp⟩:=go.ex
 have c3:h2.cell B 3=some (.sl N 0 L.length (.kn L.length)):=by rw[H.aF gB];rfl
 simp(disch:=omega)only[go_sem]
 refine bD (λhc=>(hc rfl).elim) (λ_=>?_)
 simp(disch:=omega)only[go_sem,c3]
 rw[rc_nums] at gN
 exact⟨_,K,rfl,ik,SV.all (by rw[aN,aU];simp [numsL]) hN gN _,f1.trans f2⟩
def list3 (ks:List Cls.KE):List V:=ks.flatMap λa=> [a.rep,aC (a.ord:Int),aC (a.size:Int)]
theorem list3_len (ks:List Cls.KE):(list3 ks).length=ks.length*3:=by
 induction ks with
 |nil=>rfl
 |cons a r ih=>
  show ([a.rep,aC (a.ord:Int),aC (a.size:Int)]++list3 r).length=_;rw[jD,ih];show 3+r.length*3=(r.length+1)*3;omega
theorem row_ke3 {h:H}{Y:Nat}{ro:Bool}{a:Cls.KE}(g:h.get Y=some (.cells ro a.enc)):h.row Y 0 3=some [a.rep,aC (a.ord:Int),aC (a.size:Int)]:=by
 simp [H.row,g,sub,Cls.KE.enc]
theorem bls_three {v:V}(ho:v.one=true)(x y:Int)(h:H):nG h 3 [.aB,aC 0,aC 0] 1 [(0,3,.agg [v,aC x,aC y])]=some (.sl h.next 0 1 (.kn 1),h.new (.cells false [v,aC x,aC y])):=by
 have e:dG [V.aB,aC 0,aC 0] 3= [V.aB,aC 0,aC 0]:=rfl;simp [nG,fU,putAt,e,ho,show ∀l,(V.agg l).cells=l from λ_=>rfl,show ∀z,(aC z).one=true from λ_=>rfl]
theorem clist_ok {W0:Nat->Prop}(vc:V)(n:Nat)(O:LN)(R:lU)(G:List Nat->Prop)(h:H)(gc:GC W0 h vc n O R G)(L:LN)(hL:cU O R n 0 (aW n)=L):
  Ev T 20 [vc] h (λv h'=> ∃vl K ks,v= .tup [vl,aC 0]/\IsK n G L K/\SV h' vl 3 (list3 ks)/\All2 (KR n G L h') ks K/\Fr h h'):=by
 obtain⟨vO,vR,e,sO,sR⟩:=gc.ch
 subst e
 refine bP c_classes_List rfl rfl ?_
 have oneO:vO.one=true:=Xo sO
 have oneR:vR.one=true:=Xy sR
 obtain⟨A,hA⟩:=AS h.next
 obtain⟨h1,e1,n1,g1,o1,f1⟩:=fC hA [aC n,vO,vR]
 have bx:=dQ h (v:= aC n) (u:=vO) (w:=vR) rfl oneO oneR
 have rB:=bU g1
 simp(disch:=omega)only[go_sem,c_classes_List,aE,bx,hA,e1,rB]
 refine (of_ok _ n O R G h1 (gc.mono f1)).mono ?_
 rw[hL]
 rintro _ h2 ⟨p,K,rfl,go,ik,f2⟩
 obtain⟨B,M,N,S,cp,vL,ks,rfl,hB,hM,hN,hS,gB,gM,gN,gS,aK,sp⟩:=go.ex
 have c2:h2.cell B 2=some (.sl S 0 K.length cp):=by rw[H.aF gB];rfl
 have hlk:=All2.length aK
 have hKle:K.length<=5040:=by
  have h1:=ik.perm.length_eq;have h2:=repsC_len (G:=G) (L:=L) L.length;have h3:=szF_fact gc;have h4:=(fQ gc.grp gc.isc).2;rw[hL] at h4;omega
 simp(disch:=omega)only[go_sem]
 refine bD (λhc=>(hc rfl).elim) (λ_=>?_)
 simp(disch:=omega)only[go_sem,c2]
 refine cF (λvs hh=> ∃v6,(∃g:Nat->V,vs= [g 0,g 1,g 2,g 3,g 4,g 5,v6,g 7,g 8,g 9,g 10,g 11,g 12])/\SV hh v6 3 (list3 ks)/\Fr h2 hh) ?_ ?_
 ·refine aJ (λk' vs hh=> ∃(k:Nat) (v6:V),(∃g:Nat->V,vs= [g 0,g 1,g 2,g 3,.ptr B 0,g 5,v6,g 7,g 8,.sl S 0 K.length cp,aC (K.length:Int),aC k,g 12])/\k<=K.length/\Own hh v6 3 (list3 (ks.take k)) h2.next/\Fr h2 hh/\k'=K.length-k) K.length
   ⟨0,.aB,aA rfl,gK _,Own.aB _ _ _,Fr.refl _,rfl⟩ ?_
  rintro k' vars h9 ⟨k,v6,⟨g,rfl⟩,hk,ow,F9,rfl⟩
  by_cases hlt:(k:Int)<(K.length:Int)
  case neg=>
   have d4:=iG hlt;obtain rfl:k=K.length:=by omega
   simp(disch:=omega)only[go_sem,d4];rw[List.take_of_length_le (by omega)] at ow;exact⟨v6,aA rfl,ow.sv,F9⟩
  have d4:=mF hlt
  have hk':k<K.length:=by omega
  have hkl:k<ks.length:=by omega
  obtain⟨a,ea⟩:=AS (ks[k])
  have gS9:h9.get S=cE (Cls.kflat ks):=by rw[F9.get _ hS];exact gS
  have rw9:h9.row S (k*4) 4=some a.enc:=by
   have:=row_kflat (pre:= []) (by simpa using gS9) hkl;rw[ea] at this;simpa using this
  obtain⟨Y,hY⟩:=AS h9.next
  obtain⟨ha,eha,na,ga,oa,fa⟩:=fC hY [.aB,aC 0,aC 0,.aB]
  obtain⟨hb,ehb,nb,gb,ob⟩:=uB ha Y a.enc
  obtain⟨Z,hZ⟩:=AS hb.next
  obtain⟨hc',ehc,nc,gc',oc,fc⟩:=fC hZ [a.rep,aC (a.ord:Int),aC (a.size:Int)]
  have F9c:Fr h9 hc':=⟨by omega,λq hq=>by rw[oc q (by omega),ob q (by omega),oa q (by omega)]⟩
  have owc:Own hc' v6 3 (list3 (ks.take k)) h2.next:=ow.fr F9c
  obtain⟨hd,ad,pd⟩:=owc.push (bytes:=40) (y:= .sl Z 0 1 (.kn 1)) (us:= [a.rep,aC (a.ord:Int),aC (a.size:Int)]) (SV.all rfl (by omega) gc' _) (n:=k) (m:=1) (by rw[list3_len,xL];omega) rfl (by omega) (by omega) (by omega)
  simp(disch:=omega)only[go_sem,d4,rw9,hY,eha,stV_ke,ga,put_ke,ehb,row_ke3 gb,bls_three a.hrep.2.1,hZ,ehc,ad]
  rw[iO k]
  have el:list3 (ks.take (k+1))=list3 (ks.take k)++ [a.rep,aC (a.ord:Int),aC (a.size:Int)]:=by
   rw[List.take_succ_eq_append_getElem hkl,ea];simp [list3]
  have n9:=F9.next
  have nd:=pd.next
  have F9d:Fr h2 hd:=⟨by omega,λq hq=>by rw[pd.old q (by omega) (λid off n' c e e2=>by have:=(ow.in _ _ _ _ e).2.1;omega),F9c.get q (by omega)];exact F9.get q hq⟩
  exact⟨K.length-(k+1),by omega,k+1,_,aA rfl,by omega,by rw[el];exact pd.own (by rw[list3_len,xL];omega) rfl (by omega),F9d,rfl⟩
 rintro vars h9 ⟨v6,⟨g,rfl⟩,sv,F9⟩
 simp(disch:=omega)only[go_sem]
 exact⟨v6,K,ks,rfl,ik,sv,aK.mono λ_ _ k=>k.mono F9,(f1.trans f2).trans F9⟩
section
variable {h:H} {n:Nat}
theorem u8_rc:([.int .u8 0,.int .u8 0,.int .u8 0,.int .u8 0,.int .u8 0,.int .u8 0,.int .u8 0,.int .u8 0,.int .u8 0,.int .u8 0,.int .u8 0,.int .u8 0,.int .u8 0,.int .u8 0,.int .u8 0,.int .u8 0,.int .u8 0,.int .u8 0,.int .u8 0,.int .u8 0,.int .u8 0,.int .u8 0,.int .u8 0,.int .u8 0,.int .u8 0,.int .u8 0,.int .u8 0,.int .u8 0,.int .u8 0,.int .u8 0,.int .u8 0,.int .u8 0,.int .u8 0,.int .u8 0,.int .u8 0,.int .u8 0,.int .u8 0,.int .u8 0,.int .u8 0,.int .u8 0,.int .u8 0,.int .u8 0,.int .u8 0,.int .u8 0,.int .u8 0,.int .u8 0,.int .u8 0,.int .u8 0,.int .u8 0,.int .u8 0,.int .u8 0,.int .u8 0,.int .u8 0,.int .u8 0,.int .u8 0,.int .u8 0,.int .u8 0,.int .u8 0,.int .u8 0,.int .u8 0,.int .u8 0,.int .u8 0,.int .u8 0,.int .u8 0]:List V)=rc 64 λ_=> .int .u8 0:=rfl
def kyV (x:List Nat):V:= .agg (rc 64 λi=> .int .u8 ((x.getD i 0:Nat):Int))
theorem row_all {id:Nat}{ws:List V}(hl:ws.length=n)(hg:h.get id=some (.cells false ws)):h.row id 0 n=some ws:=by
 unfold H.row;rw[hg];simp only[sub];rw[if_pos (by omega),List.drop_zero,List.take_of_length_le (by omega)]
theorem putO_all {vs ws:List V}(h1:vs.length=n)(h2:ws.length=n)(h:H)(id:Nat):dV (some (.cells false vs)) h id 0 ws=some (h.set id (some (.cells false ws))):=by
 simp only[dV,putAt];rw[if_pos (by omega),Option.map_some,List.take_zero,List.nil_append,List.drop_of_length_le (by omega),List.append_nil]
theorem rc_one {f:Nat->V}(hf: ∀i,(f i).one=true):(rc n f).all V.one=true:=by
 rw[List.all_eq_true];intro v hv;obtain⟨i,_,rfl⟩:=jH.1 hv;exact hf i
set_option maxHeartbeats 8000000
theorem keyOf_ok (u:V)(n:Nat)(x:List Nat)(h:H)(hn:n<=64)(X:aX n x)(hu:SI h u (zi x)):
  Ev T 40 [u] h (λv h'=>v=kyV x/\Fr h h'):=by
 refine bP c_algebra_keyOf rfl rfl ?_
 have lx:=X.len
 have lu:=hu.lens
 rw[aU,lx] at lu
 obtain⟨id,off,sh,hid,hc⟩:=hu.open
 rw[aU,lx] at sh hid hc
 obtain⟨A,hA⟩: ∃A,h.next=A:=⟨_,rfl⟩
 obtain⟨h1,e1,n1,g1,o1,f1⟩:=fC hA (rc 64 λ_=> .int .u8 0)
 obtain⟨h2,e2,n2,g2,o2,f2⟩:=fC n1 (rc 64 λ_=> .int .u8 0)
 simp(disch:=omega)only[go_sem,c_algebra_keyOf,aE,u8_rc,hA,e1,n1,e2,lu]
 refine aJ (λk' vars hh=> ∃(i:Nat),(∃j:Nat->V,vars= [j 0,.ptr A 0,.ptr (A+1) 0,j 3,j 4,u,.int .i64 (n:Int),.int .i64 (i:Int),j 8])/\i<=n/\
   hh.get (A+1)=some (.cells false (rc 64 λj=> .int .u8 ((if j<i then x.getD j 0 else 0:Nat):Int)))/\hh.get A=some (.cells false (rc 64 λ_=> .int .u8 0))/\hh.next=A+1+1/\Fr h hh/\k'=n-i) n
  ⟨0,aA rfl,gK _,g2,by rw[o2 A (by omega)];exact g1,n2,f1.trans f2,rfl⟩ ?_
 rintro k' vars h3 ⟨i,⟨j,rfl⟩,hi,gB,gA,n3,F,rfl⟩
 by_cases hlt:(i:Int)<(n:Int)
 ·have d1:decide ((i:Int)<(n:Int))=true:=decide_eq_true hlt
  have hi':i<n:=by omega
  have ci:h3.cell id (off+i)=some (.int .i64 ((x.getD i 0:Nat):Int)):=by rw[F.cell (hid (by omega)),hc i hi'];congr 2;simp [zi,lx,hi']
  have r:x.getD i 0<n:=X.dU hi'
  obtain⟨p,hp⟩: ∃p,x.getD i 0=p:=⟨_,rfl⟩
  rw[hp] at ci r
  have pt:=bE (vs:=rc 64 λj=> .int .u8 ((if j<i then x.getD j 0 else 0:Nat):Int)) (off:=i) (by rw[cV];omega) h3 (A+1) (.int .u8 (p:Int))
  rw[eY] at pt
  simp(disch:=omega)only[go_sem,d1,sh.ixa,ci,wrap_u8_in,gB,pt]
  rw[show (i:Int)+1=((i+1:Nat):Int) from by omega]
  refine⟨n-(i+1),by omega,i+1,aA rfl,by omega,?_,?_,n3,F.set (by omega) _,rfl⟩
  ·congr 2
   refine bH λj hj=>?_
   by_cases e:j=i
   ·rw[if_pos e,if_pos (by omega),e,hp]
   ·rw[if_neg e]
    by_cases e2:j<i
    ·rw[if_pos e2,if_pos (by omega)]
    ·rw[if_neg e2,if_neg (by omega)]
  ·exact gA
 have d1:decide ((i:Int)<(n:Int))=false:=decide_eq_false hlt
 obtain rfl:i=n:=by omega
 have rr:=row_all (n:=64) (by rw[cV]) gB
 have ek:(rc 64 λj=>V.int .u8 ((if j<i then x.getD j 0 else 0:Nat):Int))=rc 64 λj=> .int .u8 ((x.getD j 0:Nat):Int):=by
  refine bH λj hj=>?_
  by_cases e:j<i
  ·rw[if_pos e]
  ·rw[if_neg e,List.getD_eq_getElem?_getD,List.getElem?_eq_none (by omega)];rfl
 rw[ek] at rr
 have pa:=putO_all (vs:=rc 64 λ_=> .int .u8 0) (ws:=rc 64 λj=> .int .u8 ((x.getD j 0:Nat):Int)) (n:=64) (by rw[cV]) (by rw[cV]) h3 A
 have sa:=pU h3 A 0 64 (rc 64 λj=> .int .u8 ((x.getD j 0:Nat):Int)) (by rw[cV]) (rc_one λ_=>rfl)
 simp(disch:=omega)only[go_sem,d1,rr,sa,gA,pa]
 have ra:=row_all (h:=h3.set A (some (.cells false (rc 64 λj=> .int .u8 ((x.getD j 0:Nat):Int))))) (n:=64) (by rw[cV]) (H.aT ..)
 simp(disch:=omega)only[go_sem,ra]
 exact⟨rfl,F.set (by omega) _⟩
theorem quot_ok (u w:V)(n:Nat)(x y:List Nat)(h:H)(hn:n<=64)(X:aX n x)(Y:aX n y)(hu:SI h u (zi x))(hw:SI h w (zi y)):
  Ev T 80 [u,w] h (λv h'=>v=kyV (aQ (bX x) y)/\Fr h h'):=by
 refine bP c_algebra_quotient rfl rfl ?_
 have lx:=X.len
 have lu:=hu.lens
 rw[aU,lx] at lu
 obtain⟨id,off,sh,hid,hc⟩:=hu.open
 rw[aU,lx] at sh hid hc
 have ly:=Y.len
 obtain⟨idy,offy,shy,hidy,hcy⟩:=hw.open
 rw[aU,ly] at shy hidy hcy
 have Q:=X.inv.mul Y
 obtain⟨A,hA⟩: ∃A,h.next=A:=⟨_,rfl⟩
 obtain⟨h1,e1,n1,g1,o1,f1⟩:=fC hA (rc 64 λ_=> .int .u8 0)
 obtain⟨h2,e2,n2,g2,o2,f2⟩:=fC n1 (rc 64 λ_=> .int .u8 0)
 simp(disch:=omega)only[go_sem,c_algebra_quotient,aE,u8_rc,hA,e1,n1,e2,lu]
 refine aJ (λk' vars hh=> ∃(i:Nat),(∃j:Nat->V,vars= [j 0,w,.ptr A 0,.ptr (A+1) 0,j 4,j 5,u,.int .i64 (n:Int),.int .i64 (i:Int),j 9])/\i<=n/\
   hh.get (A+1)=some (.cells false (rc 64 λj=> .int .u8 ((if x.idxOf j<i then (aQ (bX x) y).getD j 0 else 0:Nat):Int)))/\hh.get A=some (.cells false (rc 64 λ_=> .int .u8 0))/\hh.next=A+1+1/\Fr h hh/\k'=n-i) n
  ⟨0,aA rfl,gK _,g2,by rw[o2 A (by omega)];exact g1,n2,f1.trans f2,rfl⟩ ?_
 rintro k' vars h3 ⟨i,⟨j,rfl⟩,hi,gB,gA,n3,F,rfl⟩
 by_cases hlt:(i:Int)<(n:Int)
 ·have d1:decide ((i:Int)<(n:Int))=true:=decide_eq_true hlt
  have hi':i<n:=by omega
  have ci:h3.cell id (off+i)=some (.int .i64 ((x.getD i 0:Nat):Int)):=by rw[F.cell (hid (by omega)),hc i hi'];congr 2;simp [zi,lx,hi']
  have r:x.getD i 0<n:=X.dU hi'
  obtain⟨p,hp⟩: ∃p,x.getD i 0=p:=⟨_,rfl⟩
  rw[hp] at ci r
  have cy:h3.cell idy (offy+i)=some (.int .i64 ((y.getD i 0:Nat):Int)):=by rw[F.cell (hidy (by omega)),hcy i hi'];congr 2;simp [zi,ly,hi']
  have r2:y.getD i 0<n:=Y.dU hi'
  have ip:x.idxOf p=i:=by rw[←kU (by omega),←hp];exact lE X hi'
  have qp:(aQ (bX x) y).getD p 0=y.getD i 0:=by rw[cH (by rw[X.inv.len];exact r),←hp,lE X hi']
  obtain⟨q,hq⟩: ∃q,y.getD i 0=q:=⟨_,rfl⟩
  rw[hq] at cy r2 qp
  have pt:=bE (vs:=rc 64 λj=> .int .u8 ((if x.idxOf j<i then (aQ (bX x) y).getD j 0 else 0:Nat):Int)) (off:=p) (by rw[cV];omega) h3 (A+1) (.int .u8 (q:Int))
  rw[eY] at pt
  simp(disch:=omega)only[go_sem,d1,sh.ixa,ci,shy.ixa,cy,wrap_u8_in,gB,pt]
  rw[show (i:Int)+1=((i+1:Nat):Int) from by omega]
  refine⟨n-(i+1),by omega,i+1,aA rfl,by omega,?_,?_,n3,F.set (by omega) _,rfl⟩
  ·congr 2
   refine bH λj hj=>?_
   by_cases e:j=p
   ·rw[if_pos e,if_pos (by rw[e,ip];omega),e,qp]
   ·rw[if_neg e]
    have ne:x.idxOf j≠i:=λh=>e (by
     by_cases hjn:j<n
     ·rw[←hp,←h,←kU (by omega),Vc X hjn]
     ·have:x.idxOf j=x.length:=List.idxOf_eq_length λhm=>hjn (X.lt j hm)
      omega)
    by_cases e2:x.idxOf j<i
    ·rw[if_pos e2,if_pos (by omega)]
    ·rw[if_neg e2,if_neg (by omega)]
  ·exact gA
 have d1:decide ((i:Int)<(n:Int))=false:=decide_eq_false hlt
 obtain rfl:i=n:=by omega
 have rr:=row_all (n:=64) (by rw[cV]) gB
 have ek:(rc 64 λj=>V.int .u8 ((if x.idxOf j<i then (aQ (bX x) y).getD j 0 else 0:Nat):Int))=rc 64 λj=> .int .u8 (((aQ (bX x) y).getD j 0:Nat):Int):=by
  refine bH λj hj=>?_
  by_cases e:x.idxOf j<i
  ·rw[if_pos e]
  ·have hjn: ¬j<i:=λhjn=>e (by rw[←kU (by omega)];exact X.inv.dU hjn)
   rw[if_neg e,List.getD_eq_getElem?_getD,List.getElem?_eq_none (by rw[Q.len];omega)];rfl
 rw[ek] at rr
 have pa:=putO_all (vs:=rc 64 λ_=> .int .u8 0) (ws:=rc 64 λj=> .int .u8 (((aQ (bX x) y).getD j 0:Nat):Int)) (n:=64) (by rw[cV]) (by rw[cV]) h3 A
 have sa:=pU h3 A 0 64 (rc 64 λj=> .int .u8 (((aQ (bX x) y).getD j 0:Nat):Int)) (by rw[cV]) (rc_one λ_=>rfl)
 simp(disch:=omega)only[go_sem,d1,rr,sa,gA,pa]
 have ra:=row_all (h:=h3.set A (some (.cells false (rc 64 λj=> .int .u8 (((aQ (bX x) y).getD j 0:Nat):Int))))) (n:=64) (by rw[cV]) (H.aT ..)
 simp(disch:=omega)only[go_sem,ra]
 exact⟨rfl,F.set (by omega) _⟩
theorem sp_open {v:V}{L:List (List Nat)}(s:SP h v L):dB v=some (.int .i64 (L.length:Int))/\dI v v=true/\ ∃(id off:Nat) (ws:List V),Sl v 1 L.length id off/\ ∀i,i<L.length->id<h.next/\h.cell id (off+i)=some (ws.getD i V.undef)/\SI h (ws.getD i V.undef) (zi (L.getD i [])):=by
 have lv:=s.lens;rw[jS] at lv;obtain⟨id,off,ws,sh,hid,hwl,hc,hall⟩:=s.open;rw[jS] at sh hid hwl hc;obtain⟨ws',sv',_⟩:=s;exact⟨lv,SV.dI sv',id,off,ws,sh,λi hi=>⟨hid (by omega),hc i hi,sp_at hall hi⟩⟩
theorem eqVs_map {α:Type}(f g:α->V): ∀l:List α,lV (l.map f) (l.map g)=l.all λi=>dI (f i) (g i)
 | []=>rfl
 |a::l=>by
  rw[List.map_cons,List.map_cons,List.all_cons,←eqVs_map f g l]
  rfl
theorem kyV_eq (hn:n<=64)(a b:List Nat)(A:aX n a)(B:aX n b):dI (kyV a) (kyV b)=decide (a=b):=by
 show lV (rc 64 _) (rc 64 _)=_;unfold rc;rw[eqVs_map,Bool.eq_iff_iff,List.all_eq_true,decide_eq_true_iff];constructor
 ·intro h
  refine List.ext_getElem (by rw[A.len,B.len]) λi h1 h2=>?_
  have:=h i (rH.2 (by have:=A.len;omega));have e:((a.getD i 0:Nat):Int)=((b.getD i 0:Nat):Int):=by simpa [dI] using this
  rw[Pm.cG h1,Pm.cG h2] at e;omega
 ·rintro rfl i _
  simp [dI]
theorem kyV_key (hn:n<=64)(a:List Nat)(A:aX n a):isKey (.arr 64 .u8) (kyV a)=true:=by
 unfold isKey kyV;simp only;rw[cV,decide_eq_true rfl,Bool.true_and,List.all_eq_true];intro v hv;obtain⟨i,hi,rfl⟩:=jH.1 hv
 have:a.getD i 0<256:=by
  by_cases h:i<a.length
  ·have:=A.dU (i:=i) (by rw[←A.len];exact h);omega
  ·rw[List.getD_eq_getElem?_getD,List.getElem?_eq_none (by omega)];decide
 have e1:IntKind.min .u8=0:=rfl;have e2:IntKind.max .u8=255:=rfl;simp only[e1,e2,Bool.and_eq_true,decide_eq_true_iff];exact⟨trivial,by omega,by omega⟩
structure DatO (n:Nat)(G:List Nat->Prop)(L:List (List Nat))(K:List Nat)(hh:H)(D:Nat):Prop where
 ex: ∃vL vC M l ks,hh.get D=some (.cells false [vL,vC,.mp M])/\D<hh.next/\M<hh.next/\SP hh vL L/\SV hh vC 3 (list3 ks)/\All2 (KR n G L hh) ks K/\hh.get M=some (.wmap (.arr 64 .u8) (fA kyV l))/\(∀p∈l,aX n p.1)/\ ∀i,i<L.length->xI l (L.getD i [])=some (.int .i64 ((numC G L K i:Nat):Int))
theorem DatO.mono {G:List Nat->Prop}{L:List (List Nat)}{K:List Nat}{h':H}{D:Nat}(d:DatO n G L K h D)(f:Fr h h'):DatO n G L K h' D:=by
 obtain⟨vL,vC,M,l,ks,g,hD,hM,sL,sC,al,gM,kl,lk⟩:=d.ex;exact⟨vL,vC,M,l,ks,by rw[f.get _ hD];exact g,gE hD f.next,gE hM f.next,sL.mono f,sC.mono f,al.mono λ_ _ k=>KR.mono k f,by rw[f.get _ hM];exact gM,kl,lk⟩
theorem class_ok (D:Nat)(u:V)(n:Nat)(G:List Nat->Prop)(L:List (List Nat))(K:List Nat)(x:List Nat)(h:H)(hn:n<=64)(d:DatO n G L K h D)(X:aX n x)(hx:x∈L)(hu:SI h u (zi x)):
  Ev T 47 [.ptr D 0,u] h (λv h'=>v= .int .i64 ((numC G L K (L.idxOf x):Nat):Int)/\Fr h h'):=by
 refine bP c_algebra_data_class rfl rfl ?_
 obtain⟨vL,vC,M,l,ks,g,hD,hM,sL,sC,al,gM,kl,lk⟩:=d.ex
 have eu:=hu.dI
 simp(disch:=omega)only[go_sem,c_algebra_data_class,aE,H.aF g]
 have fb:=(Fr.refl h).bJ (n:=h.next+8) (by omega)
 refine (keyOf_ok u n x _ hn X (hu.mono fb)).mono ?_
 rintro _ h1 ⟨rfl,f1⟩
 have F:=fb.trans f1
 have g1:h1.get D=some (.cells false [vL,vC,.mp M]):=by rw[F.get _ hD];exact g
 have gM1:h1.get M=some (.wmap (.arr 64 .u8) (fA kyV l)):=by rw[F.get _ hM];exact gM
 have hl:=List.idxOf_lt_length_of_mem hx
 have hxe:L.getD (L.idxOf x) []=x:=by rw[List.getD_eq_getElem?_getD,eQ hl];exact List.getElem_idxOf hl
 have lk':=lk (L.idxOf x) hl
 rw[hxe] at lk'
 have lo:=λz=>mC (kyV_eq hn) (λa A=>kyV_key hn a A) (P:=aX n) kl X z
 rw[lk'] at lo
 simp(disch:=omega)only[go_sem,H.aF g1,eu,gM1,lo]
 exact⟨by simp [dI],rfl,F⟩
end
set_option maxHeartbeats 16000000
theorem bld_dat {v:V}(M:Nat)(hv:v.cells= [v])(h1:v.one=true):mM [.aB,.aB,.nilm] [(1,1,v),(2,1,.mp M)]=some (.agg [.aB,v,.mp M]):=by
 simp [mM,fU,putAt,hv,h1,show (V.mp M).cells= [V.mp M] from rfl,show (V.mp M).one=true from rfl]
theorem load_ok {W0:Nat->Prop}(vc:V)(n:Nat)(O:List (List Nat))(R:List (List (List Nat)))(G:List Nat->Prop)(h:H)(gc:GC W0 h vc n O R G)(L:List (List Nat))(hL:cU O R n 0 (aW n)=L):
  Ev T 38 [vc] h (λv h'=> ∃K,IsK n G L K/\Fr h h'/\(64<K.length/\v= .tup [.nilp,.int .i64 5]∨K.length<=64/\ ∃D,v= .tup [.ptr D 0,.int .i64 0]/\DatO n G L K h' D)):=by
 have gc0:=gc
 obtain⟨vO,vR,rfl,sO,sR⟩:=gc.ch
 refine bP c_algebra_load rfl rfl ?_
 have oneO:vO.one=true:=by obtain⟨_,t,_⟩:=sO;exact t.cW.2.1
 have oneR:vR.one=true:=by obtain⟨_,t,_⟩:=sR;exact t.cW.2.1
 have n7:=gc.n7
 have hG:=gc.grp
 obtain⟨E,ll⟩:=fQ gc.grp gc.isc
 have ll5:=szF_fact gc
 rw[hL] at E ll
 obtain⟨B,hB⟩: ∃B,h.next=B:=⟨_,rfl⟩
 obtain⟨h1,e1,n1,g1,o1,f1⟩:=fC hB [.int .i64 (n:Int),vO,vR]
 have bx:=dQ h (v:= .int .i64 (n:Int)) (u:=vO) (w:=vR) rfl oneO oneR
 have rB: ∀hh,Fr h1 hh->hh.row B 0 3=some [.int .i64 (n:Int),vO,vR]:=λhh f=>bU (by rw[f.get B (by omega)];exact g1)
 simp(disch:=omega)only[go_sem,c_algebra_load,aE,bx,hB,e1,rB h1 (Fr.refl _)]
 refine (clist_ok _ n O R G h1 (gc0.mono f1) L hL).mono ?_
 rintro _ h2 ⟨v4,K,ks,rfl,ik,s4,a4,f2⟩
 have lks:=All2.length a4
 have hwm:K.length<=5040:=by
  rw[ik.perm.length_eq];unfold repsC;exact Nat.le_trans (List.length_filter_le _ _) (by rw[List.length_range];omega)
 have lv4:dB v4=some (.int .i64 (K.length:Int)):=by unfold dB;rw[SV.len s4 (n:=ks.length) (list3_len ks) (by omega),lks];rfl
 have w4:=s4.cW
 simp(disch:=omega)only[go_sem]
 refine bD (λhc=>(hc rfl).elim) (λ_=>?_)
 by_cases h64:(64:Int)<(K.length:Int)
 ·have d1:decide ((64:Int)<(K.length:Int))=true:=decide_eq_true h64
  simp(disch:=omega)only[go_sem,lv4,d1]
  exact⟨K,ik,f1.trans f2,.inl ⟨by omega,trivial⟩⟩
 have d1:decide ((64:Int)<(K.length:Int))=false:=decide_eq_false h64
 obtain⟨M,hM⟩: ∃M,h2.next=M:=⟨_,rfl⟩
 obtain⟨h3,e3⟩: ∃h3,h2.new (.wmap (.arr 64 .u8) [])=h3:=⟨_,rfl⟩
 have n3:h3.next=M+1:=by rw[←e3,H.aV,hM]
 have g3:h3.get M=some (.wmap (.arr 64 .u8) []):=by rw[←e3,←hM];exact H.aM h2 _
 have o3: ∀k,k≠M->h3.get k=h2.get k:=λk hk=>by rw[←e3];exact H.bG h2 (by omega) _
 obtain⟨h4,e4,n4,g4,o4,f4⟩:=fC n3 [.aB,v4,.mp M]
 have F24:Fr h2 h4:=⟨by omega,λq hq=>by rw[o4 q (by omega),o3 q (by omega)]⟩
 have F14:=f2.trans F24
 have ba:=nP h3 [.aB,v4,.mp M] (by simp [w4.2.1,show V.aB.one=true from rfl,show (V.mp M).one=true from rfl])
 simp(disch:=omega)only[go_sem,lv4,d1,hM,e3,bld_dat M w4.1 w4.2.1,ba,n3,e4,rB h4 F14]
 refine (list_ok _ n O R G h4 (gc0.mono (f1.trans F14))).mono ?_
 rw[hL]
 rintro _ h5 ⟨vL,rfl,nw⟩
 have pl:=nw.pl
 have f5:=nw.fr
 have wL:vL.cells= [vL]/\vL.one=true:=by obtain⟨ws,s,_⟩:=pl;exact⟨s.cW.1,s.cW.2.1⟩
 have n5:=f5.next
 have g5:h5.get (M+1)=some (.cells false [.aB,v4,.mp M]):=by rw[f5.get _ (by omega)];exact g4
 obtain⟨h6,e6,n6,g6,o6⟩:=uB h5 (M+1) [vL,v4,.mp M]
 have p6:dV (some (.cells false [.aB,v4,.mp M])) h5 (M+1) 0 [vL]=some h6:=by rw[bE (by simp),←e6];rfl
 have F26:Fr h2 h6:=⟨by omega,λq hq=>by rw[o6 q (by omega),f5.get q (by omega)];exact F24.get q hq⟩
 have F16:=f2.trans F26
 simp(disch:=omega)only[go_sem,g5,gH wL.1 wL.2,p6,rB h6 F16]
 refine (map_ok _ n O R G h6 (gc0.mono (f1.trans F16)) L hL).mono ?_
 rintro _ h7 ⟨v7,K',rfl,ik',s7,f7⟩
 obtain rfl:=ik.uniq ik'
 have n7':=f7.next
 have F27:=F26.trans f7
 have g7:h7.get (M+1)=some (.cells false [vL,v4,.mp M]):=by rw[f7.get _ (by omega)];exact g6
 have gM7:h7.get M=some (.wmap (.arr 64 .u8) []):=by rw[f7.get _ (by omega),o6 _ (by omega),f5.get _ (by omega),o4 _ (by omega)];exact g3
 have pl7:PL (λid=>id<h4.next) h7 vL L:=by
  refine PL.go pl ⟨by omega,λid h1 h2=>?_⟩ (λid h1 h2=>h2);rw[f7.get _ (by omega),o6 _ (by omega)]
 have sL7:=pl7.sp
 obtain⟨lvL,eL,idL,offL,ws,shL,cL⟩:=sp_open sL7
 have lnM:(zi (numsL G L K)).length=L.length:=by rw[aU];simp [numsL]
 obtain⟨idN,offN,shN,hidN,hcN⟩:=s7.open
 rw[lnM] at shN hidN hcN
 have e7':=s7.dI
 simp(disch:=omega)only[go_sem,H.aF g7,lvL]
 have nM: ∀{id off:Nat} {v:V},h7.cell id off=some v->id≠M:=λhc e=>by
  rw[e] at hc;unfold H.cell at hc;rw[gM7] at hc;cases hc
 refine aJ (λk' vars hh=> ∃(i:Nat) (l:List (List Nat×V)),(∃g:Nat->V,vars= [g 0,g 1,g 2,g 3,g 4,g 5,.ptr (M+1) 0,v7,g 8,g 9,g 10,g 11,vL,.int .i64 (L.length:Int),.int .i64 (i:Int),g 15])/\i<=L.length/\hh.get M=some (.wmap (.arr 64 .u8) (fA kyV l))/\(∀p∈l,aX n p.1)/\(∀j,j<i->xI l (L.getD j [])=some (.int .i64 ((numC G L K j:Nat):Int)))/\Fx (· =M) h7 hh/\k'=L.length-i) L.length
  ⟨0, [],aA rfl,gK _,gM7,λ_ h=>(by cases h),λj hj=>(by omega),Fx.refl _ _,rfl⟩ ?_
 rintro k' vars h8 ⟨i,l,⟨g,rfl⟩,hi,gM,kl,lk,F,rfl⟩
 have n8:=F.next
 have F28:Fr h2 h8:=⟨by omega,λq hq=>by rw[F.get q (by omega) (by show q≠M;omega)];exact F27.get q hq⟩
 have pl8:PL (λid=>id<h4.next) h8 vL L:=PL.go pl7 ⟨n8,λid h1 h2=>F.get id h1 (λe=>h2 (by rw[e];show M<h4.next;omega))⟩ (λid h1 h2=>h2)
 have g8:h8.get (M+1)=some (.cells false [vL,v4,.mp M]):=by rw[F.get _ (by omega) (by show M+1≠M;omega)];exact g7
 by_cases hlt:(i:Int)<(L.length:Int)
 case neg=>
  have d3:decide ((i:Int)<(L.length:Int))=false:=decide_eq_false hlt;obtain rfl:i=L.length:=by omega
  simp(disch:=omega)only[go_sem,d3];refine⟨K,ik,(f1.trans f2).trans ⟨by omega,λq hq=>F28.get q (by omega)⟩|>.trans (Fr.refl _),.inr ⟨by omega,M+1,rfl,?_⟩⟩;exact⟨vL,v4,M,l,ks,g8,by omega,by omega,pl8.sp,s4.mono F28,a4.mono λ_ _ k=>KR.mono k F28,gM,kl,lk⟩
 have d3:decide ((i:Int)<(L.length:Int))=true:=decide_eq_true hlt
 have hiL:i<L.length:=by omega
 obtain⟨_,_,idL,offL,ws,shL,cL⟩:=sp_open pl8.sp
 obtain⟨b1,c1,s1⟩:=cL i hiL
 generalize ws.getD i V.undef=ve at c1 s1
 have X:=el_isP hG E hiL
 obtain⟨x,hx⟩: ∃x,L.getD i []=x:=⟨_,rfl⟩
 rw[hx] at s1 X
 have c7:=hcN i hiL
 rw[show (zi (numsL G L K)).getD i 0=((numC G L K i:Nat):Int) from by simp [numsL,zi,hiL]] at c7
 have cN:h8.cell idN (offN+i)=some (.int .i64 ((numC G L K i:Nat):Int)):=by rw[F.cell (hidN (by omega)) (nM c7)];exact c7
 have ex:=s1.dI
 simp(disch:=omega)only[go_sem,d3,shL.ixa,c1,H.aF g8,shN.ixa,cN]
 have fb:=(Fr.refl h8).bJ (n:=h8.next+11) (by omega)
 refine (keyOf_ok ve n x _ (by omega) X (s1.mono fb)).mono ?_
 rintro _ h9 ⟨rfl,f9⟩
 have F9:=fb.trans f9
 have g9:h9.get (M+1)=some (.cells false [vL,v4,.mp M]):=by rw[F9.get _ (by omega)];exact g8
 have gM9:h9.get M=some (.wmap (.arr 64 .u8) (fA kyV l)):=by rw[F9.get _ (by omega)];exact gM
 have cN9:h9.cell idN (offN+i)=some (.int .i64 ((numC G L K i:Nat):Int)):=by rw[F9.cell (by have:=hidN (by omega);omega)];exact cN
 have pm:=λhh=>Oi (kyV_eq (n:=n) (by omega)) (λa A=>kyV_key (n:=n) (by omega) a A) kl X (.int .i64 ((numC G L K i:Nat):Int)) hh M
 simp(disch:=omega)only[go_sem,H.aF g9,cN9,e7',gM9,pm]
 rw[show (i:Int)+1=((i+1:Nat):Int) from by omega]
 refine⟨by simp [dI],L.length-(i+1),by omega,i+1,_,aA rfl,by omega,rfl,sV X kl,λj hj=>?_,(F.trans (Fx.of (W:=(· =M)) F9) λ_ _ h=>h).trans (Fx.set h9 (W:=(· =M)) rfl _) (λ_ _ h=>h),rfl⟩
 rw[uL]
 by_cases e:L.getD j []=x
 ·rw[if_pos e,nd_inj E.nodup (by omega) hiL (e.trans hx.symm)]
 ·rw[if_neg e]
  refine lk j ?_
  rcases Nat.lt_or_ge j i with h|h
  ·exact h
  ·exact absurd (by rw[show j=i by omega];exact hx) e
set_option maxRecDepth 100000
set_option maxRecDepth 100000
theorem ordP_420 {n:Nat}{a:List Nat}(A:aX n a)(hn:n<=7):cM a n∣420:=by
 unfold cM;rw[rY];intro c hc;obtain⟨l,hl,rfl⟩:=jH.1 hc;obtain⟨i,hi,rfl⟩:=jH.1 hl;have hin:i<n:=by unfold xJ at hi;exact rH.1 (jY.1 hi).1
 rw[pQ];have h1:=(iZ A hin).1;have h2:=Dz A hin;have: ∀k,k<8->0<k->k∣420:=by decide
 exact this _ (by omega) h1
theorem numC_iff {n:Nat}{G:List Nat->Prop}{L:LN}{K:List Nat}(hG:iL n G)(E:cX G L)(pK:K.Perm (repsC G L L.length)){k:Nat}(hk:k<K.length){j:Nat}(hj:j<L.length):numC G L K j=k↔cR G L (K.getD k 0) j:=by
 constructor
 ·intro h
  obtain⟨k2,h1,h2⟩:=num_cover hG E pK hj;have h3:=numC_at hG E pK h1 h2;obtain rfl:k2=k:=by omega
  exact (orbC_mem.1 h2).2
 ·intro h
  exact numC_at hG E pK hk (orbC_mem.2 ⟨hj,h⟩)
theorem pw_sq {n:Nat}{a:List Nat}(A:aX n a): ∀k,pw n (aQ a a) k=pw n a (2*k)
 |0=>rfl
 |k+1=>by
  show aQ (pw n (aQ a a) k) (aQ a a)=pw n a (2*k+2);rw[pw_sq A k,←aI (aY A _) A A];rfl
theorem pw_one' {n:Nat}{a:List Nat}(A:aX n a):pw n a 1=a:=bW A
theorem el_first {n:Nat}{G:List Nat->Prop}{L:LN}(hG:iL n G)(E:cX G L):0<L.length/\L.getD 0 []=aW n:=by
 have hm:=(E.mem _).2 hG.one;have h0:=List.length_pos_of_mem hm;refine⟨h0,?_⟩;obtain⟨i,hi,ei⟩:=uH.1 hm;have e0:L.getD 0 []=L[0]:=by rw[List.getD,eQ h0];rfl
 by_cases h:i=0
 ·subst h;rw[e0,ei]
 ·have h1:=List.pairwise_iff_getElem.1 E.asc 0 i h0 hi (by omega)
  rw[ei] at h1;have X:=el_isP hG E h0;rw[e0] at X;rcases one_le X with h2|h2
  ·rw[e0,←h2]
  ·exact (h1.asymm h2).elim
theorem len_split {α:Type}(p:α->Bool): ∀l:List α,l.length=(l.filter p).length+(l.filter λg=>!p g).length
 | []=>rfl
 |a::l=>by
  have ih:=len_split p l;cases h:p a
  ·rw[List.filter_cons_of_neg (by simp [h]),List.filter_cons_of_pos (by simp [h]),List.length_cons,List.length_cons];omega
  ·rw[List.filter_cons_of_pos (by simp [h]),List.filter_cons_of_neg (by simp [h]),List.length_cons,List.length_cons];omega
theorem count_fibres {α:Type}(f:α->Nat): ∀(J:List Nat) (l:List α),J.Nodup->(∀g∈l,f g∈J)->l.length=(J.map λj=>(l.filter λg=>decide (f g=j)).length).sum
 | [],l,_,h=>by
  cases l with
  |nil=>rfl
  |cons a r=>exact absurd (h a (by simp)) (by simp)
 |j::J,l,nd,h=>by
  rw[List.nodup_cons] at nd
  have ih:=count_fibres f J (l.filter λg=>!decide (f g=j)) nd.2 λg hg=>by
   rw[jY] at hg;have h2:=h g hg.1;have h3:f g≠j:=by simpa using hg.2
   simpa [h3] using h2
  have e:(J.map λj'=>((l.filter λg=>!decide (f g=j)).filter λg=>decide (f g=j')).length)=J.map λj'=>(l.filter λg=>decide (f g=j')).length:=by
   refine List.map_congr_left λj' hj'=>?_
   rw[List.filter_filter];congr 1;refine List.filter_congr λg _=>?_
   by_cases h1:f g=j'
   ·have:j'≠j:=λe=>nd.1 (e▸hj')
    simp [h1,this]
   ·simp [h1]
  rw[e] at ih;rw[List.map_cons,List.sum_cons,←ih];exact len_split (λg=>decide (f g=j)) l
theorem sum_const (c:Nat): ∀J:List Nat,(J.map λ_=>c).sum=J.length*c
 | []=>by simp
 |_::J=>by rw[List.map_cons,List.sum_cons,sum_const c J,List.length_cons,Nat.succ_mul,Nat.add_comm]
section
variable {n:Nat} {G:List Nat->Prop} {L:LN} (hG:iL n G) (E:cX G L)
theorem conjP_fix {n:Nat}{x c:List Nat}(X:aX n x)(C:aX n c):conjP x c=x↔aQ x c=aQ c x:=by
 unfold conjP;constructor
 ·intro h
  have h2:aQ c (aQ (aQ (bX c) x) c)=aQ c x:=by rw[h]
  rwa [←aI C (C.inv.mul X) C,←aI C C.inv X,dL C,bW X] at h2
 ·intro h
  rw[aI C.inv X C,h,←aI C.inv C X,cZ C,bW X]
def cenL (L:LN)(x:List Nat):LN:=L.filter λg=>decide (aQ x g=aQ g x)
include hG E in
theorem orbit_stab {r:Nat}(hr:r<L.length):L.length=(orbC G L r).length*(cenL L (L.getD r [])).length:=by
 have X:=el_isP hG E hr;obtain⟨x,hx⟩:=AS (L.getD r []);have hxG:G x:=by rw[←hx];exact el_mem E hr
 rw[hx] at X ⊢;have hcm: ∀g∈L,conjP x g∈L:=λg hg=>(E.mem _).2 (cj_mem hG hxG ⟨g,(E.mem _).1 hg,rfl⟩)
 have hidx: ∀y,y∈L->L.idxOf y<L.length/\L.getD (L.idxOf y) []=y:=λy hy=>by
  have h1:=List.idxOf_lt_length_of_mem hy;exact⟨h1,by rw[List.getD,eQ h1];exact List.getElem_idxOf h1⟩
 rw[count_fibres (λg=>L.idxOf (conjP x g)) (orbC G L r) L (orbC_nodup r) λg hg=>by
  obtain⟨h1,h2⟩:=hidx _ (hcm g hg);refine orbC_mem.2 ⟨h1,g,(E.mem _).1 hg,?_⟩
  rw[hx,h2],←sum_const]
 congr 1;refine List.map_congr_left λj hj=>?_
 obtain⟨hjl,g0,hg0,e0⟩:=orbC_mem.1 hj;rw[hx] at e0;have G0:=hG.isP hg0
 have perm:((cenL L x).map λc=>aQ c g0).Perm (L.filter λg=>decide (L.idxOf (conjP x g)=j)):=by
  refine (List.perm_ext_iff_of_nodup ?_ (List.Pairwise.filter _ E.nodup)).2 λg=>?_
  ·unfold cenL
   refine List.pairwise_map.2 (List.Pairwise.imp_of_mem ?_ (List.Pairwise.filter _ E.nodup));intro a b ha hb hne e;exact hne (iY (hG.isP ((E.mem _).1 (jY.1 ha).1)) (hG.isP ((E.mem _).1 (jY.1 hb).1)) G0 e)
  ·rw[jY,jH,decide_eq_true_eq]
   unfold cenL;constructor
   ·rintro⟨c,hc,rfl⟩
    rw[jY,decide_eq_true_eq] at hc;have hcG:=(E.mem _).1 hc.1;have C:=hG.isP hcG;refine⟨(E.mem _).2 (hG.mul hcG hg0),?_⟩;rw[conjP_mul X C G0,(conjP_fix X C).2 hc.2,e0];have h1:=hidx (L.getD j []) (getD_mem hjl);exact nd_inj E.nodup h1.1 hjl h1.2
   ·rintro⟨hg,hi⟩
    have hgG:=(E.mem _).1 hg;have Gp:=hG.isP hgG;have h1:=hidx _ (hcm g hg);rw[hi] at h1;have C:=Gp.mul G0.inv;refine⟨aQ g (bX g0),?_,by rw[aI Gp G0.inv G0,cZ G0,bB Gp]⟩;rw[jY,decide_eq_true_eq];refine⟨(E.mem _).2 (hG.mul hgG (hG.inv hg0)),(conjP_fix X C).1 ?_⟩;rw[conjP_mul X Gp G0.inv,←h1.2,←e0,conjP_inv X G0]
 rw[←perm.length_eq,jS]
end
set_option maxRecDepth 100000
set_option maxRecDepth 100000
structure Plc (l:LN)(x:List Nat)(k:Nat):Prop where
 le:k<=l.length
 lo: ∀i,i<k->lessB (l.getD i []) x=true
 hi: ∀i,k<=i->i<l.length->lessB (l.getD i []) x=false
theorem place_ok (vl vx:V)(n:Nat)(l:LN)(x:List Nat)(h:H)(hn:n<1000)(hl:l.length<1000000)(hP: ∀g∈l,aX n g)(X:aX n x)(asc:l.Pairwise Lt)(hv:SP h vl l)(hx:SI h vx (zi x)):
  Ev T 54 [vl,vx] h (λv h'=> ∃k:Nat,v= .tup [aC k,.bool (decide (x∈l))]/\Plc l x k/\(x∈l->k<l.length/\l.getD k []=x)/\Fr h h'):=by
 obtain⟨ws,sv,al⟩:=hv
 have hws:=All2.length al
 rw[jS] at hws
 refine bP c_kit_place rfl rfl ?_
 have lv:dB vl=some (aC (l.length:Int)):=by unfold dB;rw[SV.len sv (n:=l.length) (by omega) (by omega)];rfl
 obtain⟨id,off,sh,hid,hc⟩:=SV.shape sv l.length (by omega) (by omega)
 have hlen: ∀i,i<l.length->(l.getD i []).length=n:=λi hi=>(hP _ (getD_mem hi)).len
 have mono: ∀i j,i<j->j<l.length->Lt (l.getD i []) (l.getD j []):=λi j h1 h2=>by
  have ei:l.getD i []=l[i]:=by rw[List.getD,eQ (by omega)];rfl
  have ej:l.getD j []=l[j]:=by rw[List.getD,eQ h2];rfl
  rw[ei,ej];exact List.pairwise_iff_getElem.1 asc i j (by omega) h2 h1
 have cell: ∀hh,Fr h hh-> ∀i,i<l.length->hh.cell id (off+i)=some (ws.getD i .undef):=λhh f i hi=>by
  rw[f.cell (hid (by omega)),hc i (by omega)];simp [List.getD,show i<ws.length by omega]
 simp(disch:=omega)only[go_sem,c_kit_place,aE,lv]
 refine cF (λvs hh=> ∃k,(∃g:Nat->V,vs= [vl,vx,g 2,g 3,aC (k:Nat),g 5,g 6,g 7,g 8])/\Plc l x k/\Fr h hh) ?_ ?_
 ·refine aJ (λk' vars hh=> ∃(i j:Nat),(∃g:Nat->V,vars= [vl,vx,g 2,g 3,aC i,aC j,g 6,g 7,g 8])/\i<=j/\j<=l.length/\(∀q,q<i->lessB (l.getD q []) x=true)/\(∀q,j<=q->q<l.length->lessB (l.getD q []) x=false)/\Fr h hh/\k'=j-i) l.length
   ⟨0,l.length,aA rfl,by omega,by omega,λm hm=>by omega,λm h1 h2=>by omega,Fr.refl h,rfl⟩ ?_
  rintro k' vars hh ⟨i,j,⟨g,rfl⟩,hij,hj,hlo,hhi,F,rfl⟩
  by_cases hlt:(i:Int)<(j:Int)
  case neg=>
   have e1:=iG hlt;obtain rfl:i=j:=by omega
   simp(disch:=omega)only[go_sem,e1];exact⟨i,aA rfl,⟨hj,hlo,hhi⟩,F⟩
  have e1:=mF hlt
  obtain⟨m,hm⟩:=AS ((i+j)/2)
  have ea:(i:Int)+(j:Int)=((i+j:Nat):Int):=by omega
  have ed:((i+j:Nat):Int).tdiv 2=(m:Int):=by rw[Int.tdiv_eq_ediv_of_nonneg (by omega)];omega
  have cm:=cell hh F m (by omega)
  have sm:=sp_at al (i:=m) (by omega)
  generalize ws.getD m .undef=vm at cm sm
  simp(disch:=omega)only[go_sem,e1,ea,ed,sh.ixa,cm]
  refine (less_ok vm vx n _ x hh (by omega) (hlen m (by omega)) X.len (sm.mono F) (hx.mono F)).mono ?_
  rintro _ h3 ⟨rfl,f3⟩
  cases hl2:lessB (l.getD m []) x with
  |true=>
   simp(disch:=omega)only[go_sem];rw[iO m];refine⟨j-(m+1),by omega,m+1,j,aA rfl,by omega,hj,λq hq=>?_,hhi,F.trans f3,rfl⟩
   by_cases e:q=m
   ·rw[e];exact hl2
   ·have h1:=mono q m (by omega) (by omega)
    have h2:=(lessB_iff (by rw[hlen m (by omega),X.len])).1 hl2;exact (lessB_iff (by rw[hlen q (by omega),X.len])).2 (Lt.trans (by rw[hlen q (by omega),hlen m (by omega)]) h1 h2)
  |false=>
   simp(disch:=omega)only[go_sem];refine⟨m-i,by omega,i,m,aA rfl,by omega,by omega,hlo,λq h1 h2=>?_,F.trans f3,rfl⟩
   by_cases e:q=m
   ·rw[e];exact hl2
   ·rw[←Bool.not_eq_true]
    intro h3;have h4:=mono m q (by omega) h2;have h5:=(lessB_iff (by rw[hlen q h2,X.len])).1 h3;rw[(lessB_iff (by rw[hlen m (by omega),X.len])).2 (Lt.trans (by rw[hlen q h2,hlen m (by omega)]) h4 h5)] at hl2;cases hl2
 rintro vars h2 ⟨k,⟨g,rfl⟩,pk,F⟩
 have hmem:x∈l->k<l.length/\l.getD k []=x:=λhx2=>by
  obtain⟨q,hq,eq⟩:=uH.1 hx2;have eq':l.getD q []=x:=by rw[List.getD,eQ hq,←eq];rfl
  have h1:k<=q:=Nat.le_of_not_lt λh3=>by
   have:=pk.lo q h3;rw[eq',lessB_self] at this;cases this
  have h2:k=q:=Nat.le_antisymm h1 (Nat.le_of_not_lt λh3=>by
   have h4:=mono k q h3 hq;rw[eq'] at h4;have h5:=pk.hi k (eP _) (by omega);rw[(lessB_iff (by rw[hlen k (by omega),X.len])).2 h4] at h5
   cases h5)
  exact⟨by omega,by rw[h2];exact eq'⟩
 by_cases hk:(k:Int)<(l.length:Int)
 ·have e1:=mF hk
  have cm:=cell h2 F k (by omega)
  have sm:=sp_at al (i:=k) (by omega)
  generalize ws.getD k .undef=vm at cm sm
  simp(disch:=omega)only[go_sem,lv,e1,sh.ixa,cm]
  refine (same_ok vm vx _ _ h2 (sm.mono F) (hx.mono F) (by rw[aU,hlen k (by omega)];omega) (by rw[aU,X.len];omega)).mono ?_
  rintro _ h3 ⟨rfl,f3⟩
  have ed:decide (zi (l.getD k [])=zi x)=decide (x∈l):=by
   rw[decide_eq_decide];constructor
   ·intro h4
    have h5:l.getD k []=x:=List.map_inj_right (λu v h2=>by omega)|>.1 h4;rw[←h5];exact getD_mem (by omega)
   ·intro h4;rw[(hmem h4).2]
  simp(disch:=omega)only[go_sem,ed]
  exact⟨k,rfl,pk,hmem,F.trans f3⟩
 ·have e1:=iG hk
  have ed:decide (x∈l)=false:=decide_eq_false λh4=>by have:=(hmem h4).1;omega
  simp(disch:=omega)only[go_sem,lv,e1]
  exact⟨k,by rw[ed],pk,hmem,F⟩
theorem sameRows_gen {g:Nat}(hgt:T g=some c_kit_SameLists_int)(u w:V)(a b:List (List Int))(h:H)(hu:SR h u a)(hw:SR h w b)(la:a.length<1000000)(lb:b.length<1000000)(ra: ∀x∈a,x.length<1000000)(rb: ∀x∈b,x.length<1000000):
  Ev T g [u,w] h (λv h'=>v= .bool (decide (a=b))/\Fr h h'):=by
 refine tX hgt rfl ?_
 have lu:=hu.lens
 have lw:=hw.lens
 obtain⟨wa,sa,aa⟩:=hu
 obtain⟨wb,sb,ab⟩:=hw
 have hwa:=All2.length aa
 have hwb:=All2.length ab
 obtain⟨id,off,sh,hid,hc⟩:=SV.shape sa a.length (by omega) (by omega)
 obtain⟨id2,off2,sh2,hid2,hc2⟩:=SV.shape sb b.length (by omega) (by omega)
 by_cases hl:(a.length:Int)=(b.length:Int)
 case neg=>
  have d1:decide ((a.length:Int)≠(b.length:Int))=true:=decide_eq_true hl;simp(disch:=omega)only[go_sem,c_kit_SameLists_int,aE,lu,lw,d1];exact⟨by rw[decide_eq_false];intro e;exact hl (by rw[e]),Fr.refl h⟩
 have hl':a.length=b.length:=by omega
 have d1:decide ((a.length:Int)≠(b.length:Int))=false:=decide_eq_false (by simpa using hl)
 simp(disch:=omega)only[go_sem,c_kit_SameLists_int,aE,lu,lw,d1]
 refine aJ (λk' vars hh=> ∃(i:Nat),(∃g:Nat->V,vars= [u,w,g 2,aC i,g 4,g 5,g 6])/\i<=a.length/\(∀j,j<i->a.getD j []=b.getD j [])/\Fr h hh/\k'=a.length-i) a.length
  ⟨0,aA rfl,gK _,λj hj=>by omega,Fr.refl h,rfl⟩ ?_
 rintro k' vars hh ⟨i,⟨g,rfl⟩,hi,hs,F,rfl⟩
 by_cases hlt:(i:Int)<(a.length:Int)
 case neg=>
  have e1:=iG hlt;obtain rfl:i=a.length:=by omega
  simp(disch:=omega)only[go_sem,lu,e1]
  have:a=b:=by
   refine List.ext_getElem hl' λj h1 h2=>?_
   have:=hs j h1;rwa [List.getD,eQ h1,List.getD,eQ h2] at this
  exact⟨by rw[decide_eq_true this],F⟩
 have e1:=mF hlt
 have c1:hh.cell id (off+i)=some (wa.getD i .undef):=by
  rw[F.cell (hid (by omega)),hc i (by omega)];simp [List.getD,show i<wa.length by omega]
 have c2:hh.cell id2 (off2+i)=some (wb.getD i .undef):=by
  rw[F.cell (hid2 (by omega)),hc2 i (by omega)];simp [List.getD,show i<wb.length by omega]
 have s1:=Fg aa (i:=i) (by omega)
 have s2:=Fg ab (i:=i) (by omega)
 generalize wa.getD i .undef=va at c1 s1
 generalize wb.getD i .undef=vb at c2 s2
 have ev1:=s1.dI
 have ev2:=s2.dI
 simp(disch:=omega)only[go_sem,lu,e1,sh.ixa,c1,sh2.ixa,c2]
 refine (same_ok va vb _ _ _ (s1.mono (F.trans ((Fr.refl hh).bJ (by omega)))) (s2.mono (F.trans ((Fr.refl hh).bJ (by omega)))) (ra _ (getD_mem (by omega))) (rb _ (getD_mem (by omega)))).mono ?_
 rintro _ h3 ⟨rfl,f3⟩
 have F3:=F.trans (((Fr.refl hh).bJ (by omega)).trans f3)
 have c1':h3.cell id (off+i)=some va:=by
  have h4:Fr hh h3:=((Fr.refl hh).bJ (by omega)).trans f3;rw[h4.cell (by have:=hid (by omega);have:=F.next;omega)];exact c1
 have c2':h3.cell id2 (off2+i)=some vb:=by
  have h4:Fr hh h3:=((Fr.refl hh).bJ (by omega)).trans f3;rw[h4.cell (by have:=hid2 (by omega);have:=F.next;omega)];exact c2
 by_cases he:a.getD i []=b.getD i []
 ·have d2:decide (a.getD i []=b.getD i [])=true:=decide_eq_true he
  simp(disch:=omega)only[go_sem,d2,c1',c2',ev1,ev2]
  rw[iO i]
  refine⟨a.length-(i+1),by omega,i+1,aA rfl,by omega,λj hj=>?_,F3,rfl⟩
  by_cases e:j=i
  ·rw[e];exact he
  ·exact hs j (by omega)
 ·have d2:decide (a.getD i []=b.getD i [])=false:=decide_eq_false he
  simp(disch:=omega)only[go_sem,d2,c1',c2',ev1,ev2]
  exact⟨by rw[decide_eq_false];intro e;exact he (by rw[e]),F3⟩
theorem sameLists_ok (u w:V)(a b:List (List Int))(h:H)(hu:SR h u a)(hw:SR h w b)(la:a.length<1000000)(lb:b.length<1000000)(ra: ∀x∈a,x.length<1000000)(rb: ∀x∈b,x.length<1000000):
  Ev T 32 [u,w] h (λv h'=>v= .bool (decide (a=b))/\Fr h h'):=sameRows_gen (rfl:T 32=some c_kit_SameLists_int) u w a b h hu hw la lb ra rb
set_option maxRecDepth 100000
set_option maxRecDepth 100000
set_option maxRecDepth 100000
set_option maxRecDepth 100000
theorem list3_at {ks:List Cls.KE}{i:Nat}(hi:i<ks.length):(list3 ks)[i*3]? =some ks[i].rep/\(list3 ks)[i*3+1]? =some (aC (ks[i].ord:Int))/\(list3 ks)[i*3+2]? =some (aC (ks[i].size:Int)):=by
 induction ks generalizing i with
 |nil=>simp at hi
 |cons a r ih=>
  have e:list3 (a::r)= [a.rep,aC (a.ord:Int),aC (a.size:Int)]++list3 r:=rfl
  cases i with
  |zero=>exact⟨rfl,rfl,rfl⟩
  |succ i=>
   have h1:=ih (i:=i) (by simpa using hi);rw[e,show (i+1)*3=i*3+3 by omega];refine⟨?_,?_,?_⟩
   ·rw[List.getElem?_append_right (by simp)];exact h1.1
   ·rw[List.getElem?_append_right (by simp)];exact h1.2.1
   ·rw[List.getElem?_append_right (by simp)];exact h1.2.2
noncomputable def quK (G:List Nat->Prop)(L:List (List Nat))(K:List Nat)(a k:Nat):Nat:=numC G L K (L.idxOf (aQ (bX (L.getD a [])) (L.getD (K.getD k 0) [])))
noncomputable def cstA (G:List Nat->Prop)(L:List (List Nat))(K:List Nat)(i k t j:Nat):Nat:=((List.range t).filter λa=>decide (numC G L K a=i/\quK G L K a k=j)).length
noncomputable def cstK (G:List Nat->Prop)(L:List (List Nat))(K:List Nat)(i j k:Nat):Nat:=cstA G L K i k L.length j
section
variable {n:Nat} {G:List Nat->Prop} {L:List (List Nat)} {K:List Nat}
theorem cstA_succ (i k t j:Nat):cstA G L K i k (t+1) j=cstA G L K i k t j+if numC G L K t=i/\quK G L K t k=j then 1 else 0:=by
 unfold cstA;rw[List.range_succ,List.filter_append,jD]
 by_cases h:numC G L K t=i/\quK G L K t k=j<;>simp [h]
theorem cstA_le (i k t j:Nat):cstA G L K i k t j<=t:=by
 unfold cstA;exact Nat.le_trans (List.length_filter_le _ _) (by rw[List.length_range];exact eP _)
def pkV (p:Nat×Nat):V:= .agg [.int .i64 (p.1:Int),.int .i64 (p.2:Int)]
def PkP (p:Nat×Nat):Prop:=p.1<1000000/\p.2<1000000
theorem pkV_eq (a b:Nat×Nat)(_:PkP a)(_:PkP b):dI (pkV a) (pkV b)=decide (a=b):=by
 show lV [_,_] [_,_]=_;simp only[lV,dI,Bool.and_true,beq_self_eq_true,Bool.true_and];rw[Bool.eq_iff_iff,Bool.and_eq_true,beq_iff_eq,beq_iff_eq,decide_eq_true_iff,Prod.ext_iff];omega
theorem pkV_key (a:Nat×Nat)(h:PkP a):isKey (.arr 2 .i64) (pkV a)=true:=by
 obtain⟨h1,h2⟩:=h;unfold isKey pkV;have e1:IntKind.min .i64= -9223372036854775808:=rfl;have e2:IntKind.max .i64=9223372036854775807:=rfl;simp only[List.all_cons,List.all_nil,e1,e2,Bool.and_true,Bool.and_eq_true,decide_eq_true_iff];exact⟨rfl,⟨trivial,by omega,by omega⟩,trivial,by omega,by omega⟩
theorem bld_pk (x y:Int):mM [.int .i64 0,.int .i64 0] [(0,1,.int .i64 x),(1,1,.int .i64 y)]=some (.agg [.int .i64 x,.int .i64 y]):=rfl
theorem row3c {h:H}{id o:Nat}{a b c:V}(ha:h.cell id o=some a)(hb:h.cell id (o+1)=some b)(hc:h.cell id (o+2)=some c):h.row id o 3=some [a,b,c]:=by
 unfold H.cell at ha hb hc;unfold H.row;split at ha
 ·rename_i ro vs e
  rw[e] at hb hc;have hb:vs[o+1]? =some b:=hb;have hc:vs[o+2]? =some c:=hc;obtain⟨la,ea⟩:=List.getElem?_eq_some_iff.1 ha;obtain⟨lb,eb⟩:=List.getElem?_eq_some_iff.1 hb;obtain⟨lc,ec⟩:=List.getElem?_eq_some_iff.1 hc;rw[e];simp only[sub];rw[if_pos (by omega),List.drop_eq_getElem_cons la,List.drop_eq_getElem_cons lb,List.drop_eq_getElem_cons lc,ea,eb,ec]
  rfl
 ·cases ha
structure KS (n:Nat)(G:List Nat->Prop)(L:List (List Nat))(hh:H)(a:Cls.KE)(r:Nat):Prop where
 ord:a.ord=cM (L.getD r []) n
 size:a.size=(orbC G L r).length
 rep:SI hh a.rep (zi (L.getD r []))
theorem cls_openS {hh:H}{vC:V}{ks:List Cls.KE}(hK:K.length<1000000)(s:SV hh vC 3 (list3 ks))(al:All2 (KS n G L hh) ks K):
  dB vC=some (.int .i64 (K.length:Int))/\dI vC vC=true/\ ∃id off,Sl vC 3 K.length id off/\ ∀k,k<K.length->id<hh.next/\ ∃rep,hh.cell id (off+k*3)=some rep/\hh.cell id (off+k*3+2)=some (.int .i64 ((orbC G L (K.getD k 0)).length:Int))/\hh.row id (off+k*3) 3=some [rep,.int .i64 (cM (L.getD (K.getD k 0) []) n:Int),.int .i64 ((orbC G L (K.getD k 0)).length:Int)]/\SI hh rep (zi (L.getD (K.getD k 0) [])):=by
 have lks:=All2.length al
 have l3:=list3_len ks
 obtain⟨id,off,sh,hid,hc⟩:=s.shape K.length (by rw[l3,lks]) (by omega)
 refine⟨by unfold dB;rw[SV.len s (n:=ks.length) l3 (by omega),lks];rfl,s.dI,id,off,sh,λk hk=>?_⟩
 obtain⟨p1,p2,p3⟩:=list3_at (ks:=ks) (i:=k) (by omega)
 have ka:=All2.get al k (by omega) hk
 rw[←Pm.cG hk] at ka
 have c1:=(hc (k*3) (by omega)).trans p1
 have c2:=(hc (k*3+1) (by omega)).trans p2
 have c3:=(hc (k*3+2) (by omega)).trans p3
 rw[ka.ord] at c2
 rw[ka.size] at c3
 rw[←Nat.add_assoc] at c2 c3
 exact⟨hid (by omega),_,c1,c3,row3c c1 c2 c3,ka.rep⟩
theorem cls_open {hh:H}{vC:V}{ks:List Cls.KE}(hK:K.length<1000000)(s:SV hh vC 3 (list3 ks))(al:All2 (KR n G L hh) ks K):
  dB vC=some (.int .i64 (K.length:Int))/\dI vC vC=true/\ ∃id off,Sl vC 3 K.length id off/\ ∀k,k<K.length->id<hh.next/\ ∃rep,hh.cell id (off+k*3)=some rep/\hh.cell id (off+k*3+2)=some (.int .i64 ((orbC G L (K.getD k 0)).length:Int))/\hh.row id (off+k*3) 3=some [rep,.int .i64 (cM (L.getD (K.getD k 0) []) n:Int),.int .i64 ((orbC G L (K.getD k 0)).length:Int)]/\SI hh rep (zi (L.getD (K.getD k 0) [])):=
 cls_openS hK s (al.mono λ_ _ k=>⟨k.ord,k.size,k.rep⟩)
end
section
variable {x c:List Nat}
section
variable {n:Nat} {G:List Nat->Prop} {L:LN} {K:List Nat}
theorem idx_el (E:cX G L){y:List Nat}(hy:G y):L.idxOf y<L.length/\L.getD (L.idxOf y) []=y:=by
 have h1:=(E.mem y).2 hy;have h2:=List.idxOf_lt_length_iff.2 h1;refine⟨h2,?_⟩;rw[List.getD,eQ h2];simp
theorem IsK.lt (k:IsK n G L K){r:Nat}(hr:r∈K):r<L.length:=(repsC_mem.1 (k.perm.mem_iff.1 hr)).1
theorem IsK.nd (k:IsK n G L K):K.Nodup:=k.perm.nodup_iff.2 (by unfold repsC;exact List.nodup_range.filter _)
theorem grp_pw (hG:iL n G){x:List Nat}(hx:G x): ∀k,G (pw n x k)
 |0=>hG.one
 |k+1=>hG.mul (grp_pw hG hx k) hx
theorem conj_pw {x c:List Nat}(X:aX n x)(C:aX n c): ∀k,conjP (pw n x k) c=pw n (conjP x c) k
 |0=>by
  show aQ (aQ (bX c) (aW n)) c=aW n;rw[bB C.inv,cZ C]
 |k+1=>by
  have P:=aY X k;show conjP (aQ (pw n x k) x) c=aQ (pw n (conjP x c) k) (conjP x c);rw[←conj_pw X C k];unfold conjP;rw[aI (C.inv.mul P) C (C.inv.mul X|>.mul C),←aI C (C.inv.mul X) C,←aI C C.inv X,dL C,bW X,←aI (C.inv.mul P) X C,aI C.inv P X]
theorem conj_one_iff (X:aX n x)(C:aX n c):conjP x c=aW n↔x=aW n:=by
 constructor
 ·intro h
  have e:=conjP_inv X C;rw[h] at e;rw[←e];show aQ (aQ (bX (bX c)) (aW n)) (bX c)=aW n;rw[bB C.inv.inv,cZ C.inv]
 ·rintro rfl
  show aQ (aQ (bX c) (aW n)) c=aW n;rw[bB C.inv,cZ C]
theorem ordP_conj (X:aX n x)(C:aX n c):cM (conjP x c) n=cM x n:=by
 refine Nat.dvd_antisymm ?_ ?_
 ·rw[bL (conjP_isP X C),←conj_pw X C,conj_one_iff (aY X _) C,←bL X]
  exact Nat.dvd_refl _
 ·rw[bL X,←conj_one_iff (aY X _) C,conj_pw X C,←bL (conjP_isP X C)]
  exact Nat.dvd_refl _
theorem pw_mul' {x:List Nat}(X:aX n x)(a:Nat): ∀b,pw n (pw n x a) b=pw n x (a*b)
 |0=>rfl
 |b+1=>by
  show aQ (pw n (pw n x a) b) (pw n x a)=_;rw[pw_mul' X a b,Nat.mul_succ,fZ X]
theorem pw_cong (X:aX n x){a b:Nat}(h:a%cM x n=b%cM x n):pw n x a=pw n x b:=by
 rw[zO X a,zO X b,h]
noncomputable def zp (n:Nat)(x:List Nat)(z:Int):List Nat:=pw n x (z%(cM x n:Nat)).toNat
variable (hG:iL n G) (E:cX G L) (k:IsK n G L K)
include hG E k
theorem numC_ok {j:Nat}(hj:j<L.length):numC G L K j<K.length/\cR G L (K.getD (numC G L K j) 0) j:=by
 obtain⟨i,hi,h⟩:=num_cover hG E k.perm hj;have e:=numC_at hG E k.perm hi h;rw[e];exact⟨hi,(orbC_mem.1 h).2⟩
theorem numC_same {i j:Nat}(hi:i<L.length)(hj:j<L.length)(h:cR G L i j):numC G L K i=numC G L K j:=by
 obtain⟨h1,h2⟩:=numC_ok hG E k hi;have hr:K.getD (numC G L K i) 0<L.length:=k.lt (getD_mem h1);exact ((numC_iff hG E k.perm h1 hj).2 (cR_trans hG E hr h2 h)).symm
omit hG E k in
theorem ordP_one_iff (X:aX n x):cM x n=1↔x=aW n:=by
 constructor
 ·intro h
  have:=(bL X 1).1 (by rw[h];exact Nat.dvd_refl _);rwa [pw_one' X] at this
 ·intro h
  have:=(bL X 1).2 (by rw[pw_one' X];exact h);exact Nat.dvd_one.1 this
theorem K_first:0<K.length/\K.getD 0 0=0:=by
 obtain⟨h0,h1⟩:=el_first hG E;have hm:0∈K:=k.perm.mem_iff.2 (repsC_mem.2 ⟨h0,λj hj=>by omega⟩);have hl:=List.length_pos_of_mem hm;refine⟨hl,?_⟩;obtain⟨i,hi,ei⟩:=uH.1 hm
 by_cases e:i=0
 ·subst e;rw[List.getD,eQ hl];exact ei
 ·have:=List.pairwise_iff_getElem.1 k.asc 0 i hl hi (by omega)
  rw[ei] at this;have e1:cM (L.getD 0 []) n=1:=(ordP_one_iff (by rw[h1];exact aX.one n)).2 h1;have hr:K[0]<L.length:=k.lt (List.getElem_mem hl);have X:=el_isP hG E hr;have p:=kA X;unfold kLt at this;rw[e1] at this;have h2:cM (L.getD K[0] []) n=1:=by omega
  have h3:=(ordP_one_iff X).1 h2;rw[←h1] at h3;have:=nd_inj E.nodup hr h0 h3;rw[List.getD,eQ hl];exact this
end
end
theorem sm_count (n:Nat)(c:Int)(p:Nat->Prop)[DecidablePred p]:sm n (λa=>if p a then c else 0)=c*(((List.range n).filter λa=>decide (p a)).length:Nat):=by
 induction n with
 |zero=>simp [jW]
 |succ n ih=>
  rw[dS,ih,List.range_succ,List.filter_append,jD]
  by_cases h:p n
  ·simp [h,Int.mul_add]
  ·simp [h]
theorem sm_bound {n:Nat}{B:Nat}{f:Nat->Int}(h: ∀a,a<n-> -(B:Int)<=f a/\f a<=B): -((n*B:Nat):Int)<=sm n f/\sm n f<=((n*B:Nat):Int):=by
 induction n with
 |zero=>simp [jW]
 |succ n ih=>
  have h1:=ih λa ha=>h a (by omega)
  have h2:=h n (by omega);rw[dS,Nat.succ_mul];generalize n*B=c at*;omega
theorem mul_bound {x y:Int}{X Y:Nat}(hx: -(X:Int)<=x/\x<=X)(hy: -(Y:Int)<=y/\y<=Y): -((X*Y:Nat):Int)<=x*y/\x*y<=((X*Y:Nat):Int):=by
 have h:(x*y).natAbs<=X*Y:=by
  rw[Int.natAbs_mul];exact Nat.mul_le_mul (by omega) (by omega)
 omega
noncomputable def mlS (G:List Nat->Prop)(L:List (List Nat))(K:List Nat)(x y:List Int)(k i j:Nat):Int:=sm L.length λa=>if numC G L K a<i∨numC G L K a=i/\quK G L K a k<j then x.getD (numC G L K a) 0*y.getD (quK G L K a k) 0 else 0
noncomputable def mlF (G:List Nat->Prop)(L:List (List Nat))(K:List Nat)(x y:List Int)(k:Nat):Int:=sm L.length λa=>x.getD (numC G L K a) 0*y.getD (quK G L K a k) 0
section
variable {n:Nat} {G:List Nat->Prop} {L:List (List Nat)} {K:List Nat} {x y:List Int}
theorem mlS_zero (k:Nat):mlS G L K x y k 0 0=0:=by
 unfold mlS;exact Ci λa _=>by rw[if_neg (by omega)]
theorem mlS_step (k i j:Nat):mlS G L K x y k i (j+1)=mlS G L K x y k i j+x.getD i 0*y.getD j 0*(cstK G L K i j k:Nat):=by
 unfold mlS cstK cstA;rw[←sm_count L.length (x.getD i 0*y.getD j 0) λa=>numC G L K a=i/\quK G L K a k=j,←Gj];refine eI λa _=>?_
 by_cases h:numC G L K a=i/\quK G L K a k=j
 ·obtain⟨h1,h2⟩:=h
  subst h1;subst h2;rw[if_pos (by omega),if_neg (by omega),if_pos ⟨rfl,rfl⟩,Int.zero_add]
 ·rw[if_neg h,Int.add_zero]
  by_cases h2:numC G L K a<i∨numC G L K a=i/\quK G L K a k<j
  ·rw[if_pos h2,if_pos (by omega)]
  ·rw[if_neg h2,if_neg (by omega)]
theorem mlS_row {k r:Nat}(hq: ∀a,a<L.length->quK G L K a k<r)(i:Nat):mlS G L K x y k i r=mlS G L K x y k (i+1) 0:=by
 unfold mlS;refine eI λa ha=>?_
 have:=hq a ha
 by_cases h:numC G L K a<i∨numC G L K a=i
 ·rw[if_pos (by omega),if_pos (by omega)]
 ·rw[if_neg (by omega),if_neg (by omega)]
theorem mlS_skip {i:Nat}(h0:x.getD i 0=0)(k:Nat):mlS G L K x y k i 0=mlS G L K x y k (i+1) 0:=by
 unfold mlS;refine eI λa _=>?_
 by_cases h:numC G L K a=i
 ·rw[if_neg (by omega),if_pos (by omega),h,h0,Int.zero_mul]
 ·by_cases h2:numC G L K a<i
  ·rw[if_pos (by omega),if_pos (by omega)]
  ·rw[if_neg (by omega),if_neg (by omega)]
theorem mlS_end {r:Nat}(hn: ∀a,a<L.length->numC G L K a<r)(k:Nat):mlS G L K x y k r 0=mlF G L K x y k:=by
 unfold mlS mlF;exact eI λa ha=>by rw[if_pos (.inl (hn a ha))]
theorem at_bound {l:List Int}{B:Nat}(h: ∀v∈l, -(B:Int)<=v/\v<=B)(i:Nat): -(B:Int)<=l.getD i 0/\l.getD i 0<=B:=by
 by_cases hi:i<l.length
 ·exact h _ (getD_mem hi)
 ·rw[List.getD_eq_getElem?_getD,List.getElem?_eq_none (by omega)];simp
theorem mlS_bound {X Y:Nat}(hx: ∀v∈x, -(X:Int)<=v/\v<=X)(hy: ∀v∈y, -(Y:Int)<=v/\v<=Y)(k i j:Nat): -((L.length*(X*Y):Nat):Int)<=mlS G L K x y k i j/\mlS G L K x y k i j<=((L.length*(X*Y):Nat):Int):=by
 refine sm_bound λa _=>?_
 split
 ·exact mul_bound (at_bound hx _) (at_bound hy _)
 ·omega
theorem mlF_bound {X Y:Nat}(hx: ∀v∈x, -(X:Int)<=v/\v<=X)(hy: ∀v∈y, -(Y:Int)<=v/\v<=Y)(k:Nat): -((L.length*(X*Y):Nat):Int)<=mlF G L K x y k/\mlF G L K x y k<=((L.length*(X*Y):Nat):Int):=
 sm_bound λ_ _=>mul_bound (at_bound hx _) (at_bound hy _)
theorem quK_lt (hG:iL n G)(E:cX G L)(ik:IsK n G L K){a k:Nat}(ha:a<L.length)(hk:k<K.length):quK G L K a k<K.length:=by
 unfold quK;have hKk:=ik.lt (getD_mem (d:=0) hk);have hy:G (aQ (bX (L.getD a [])) (L.getD (K.getD k 0) [])):=hG.mul (hG.inv (el_mem E ha)) (el_mem E hKk);exact (numC_ok hG E ik (idx_el E hy).1).1
end
theorem conjP_mulP {n:Nat}{a b x:List Nat}(A:aX n a)(B:aX n b)(X:aX n x):conjP (aQ a b) x=aQ (conjP a x) (conjP b x):=by
 unfold conjP;rw[aI (X.inv.mul A) X (X.inv.mul B|>.mul X),←aI X (X.inv.mul B) X,←aI X X.inv B,dL X,bW B,←aI (X.inv.mul A) B X,aI X.inv A B]
theorem conjP_inj {n:Nat}{a b x:List Nat}(A:aX n a)(B:aX n b)(X:aX n x)(h:conjP a x=conjP b x):a=b:=by
 rw[←conjP_inv A X,h,conjP_inv B X]
section
variable {n:Nat} {G H:List Nat->Prop} {L M:LN} {K K':List Nat} {x:List Nat}
variable (hG:iL n G) (E:cX G L) (k:IsK n G L K) (hH:iL n H) (F:cX H M) (k':IsK n H M K') (X:aX n x) (hx: ∀y,H y↔ ∃g,G g/\conjP g x=y)
include hG E k hH F k' X hx
end
def gs:List (List Nat)->(List Nat->Int)->Int
 | [],_=>0
 |x::l,f=>f x+gs l f
theorem gs_congr {f g:List Nat->Int}: ∀{l:List (List Nat)},(∀x∈l,f x=g x)->gs l f=gs l g
 | [],_=>rfl
 |x::l,h=>by
  rw[gs,gs,h x (by simp),gs_congr λy hy=>h y (by simp [hy])]
theorem gs_perm {f:List Nat->Int}{l m:List (List Nat)}(p:l.Perm m):gs l f=gs m f:=by
 induction p with
 |nil=>rfl
 |cons x _ ih=>rw[gs,gs,ih]
 |swap x y l=>rw[gs,gs,gs,gs];omega
 |trans _ _ h1 h2=>rw[h1,h2]
theorem gs_map (φ:List Nat->List Nat)(f:List Nat->Int): ∀l,gs (l.map φ) f=gs l λx=>f (φ x)
 | []=>rfl
 |x::l=>by rw[List.map_cons,gs,gs,gs_map φ f l]
theorem gs_add (f g:List Nat->Int): ∀l,gs l (λx=>f x+g x)=gs l f+gs l g
 | []=>rfl
 |x::l=>by rw[gs,gs,gs,gs_add f g l];omega
theorem gs_mul (c:Int)(f:List Nat->Int): ∀l,gs l (λx=>c*f x)=c*gs l f
 | []=>by rw[gs,gs,Int.mul_zero]
 |x::l=>by rw[gs,gs,gs_mul c f l,Int.mul_add]
theorem gs_nul: ∀l,gs l (λ_=>0)=0
 | []=>rfl
 |x::l=>by rw[gs,gs_nul l];rfl
theorem gs_swap (f:List Nat->List Nat->Int)(m:List (List Nat)): ∀l,gs l (λx=>gs m λy=>f x y)=gs m λy=>gs l λx=>f x y
 | []=>(gs_nul m).symm
 |x::l=>by rw[gs,gs_swap f m l,←gs_add];rfl
theorem gs_sm (f:List Nat->Nat->Int)(r:Nat): ∀l,gs l (λx=>sm r λk=>f x k)=sm r λk=>gs l λx=>f x k
 | []=>(Gi r).symm
 |x::l=>by rw[gs,gs_sm f r l,←Gj];rfl
theorem sm_gs (f:List Nat->Int)(l:List (List Nat)):sm l.length (λa=>f (l.getD a []))=gs l f:=by
 induction l with
 |nil=>rfl
 |cons x l ih=>
  rw[List.length_cons,Nc,gs,←ih]
  rfl
theorem gs_one (x:List Nat)(c:Int){l:List (List Nat)}(nd:l.Nodup)(hx:x∈l):gs l (λy=>if y=x then c else 0)=c:=by
 induction l with
 |nil=>cases hx
 |cons y l ih=>
  rw[List.nodup_cons] at nd;rw[gs]
  by_cases e:y=x
  ·subst e
   rw[if_pos rfl,gs_congr (g:=λ_=>0) λz hz=>by rw[if_neg (λe=>nd.1 (by rw[←e];exact hz))],gs_nul];omega
  ·rw[if_neg e,ih nd.2 (by rcases List.mem_cons.1 hx with h|h;exact absurd h.symm e;exact h)];omega
theorem perm_of {α:Type}[DecidableEq α]: ∀{l m:List α},l.Nodup->m.Nodup->(∀x,x∈l↔x∈m)->l.Perm m
 | [], [],_,_,_=> .nil
 | [],y::m,_,_,h=>by have:=(h y).2 (by simp);simp at this
 |x::l,m,h1,h2,h=>by
  have hx:x∈m:=(h x).1 (by simp);rw[List.nodup_cons] at h1;refine (List.Perm.cons x (perm_of h1.2 (h2.erase x) λy=>?_)).trans (List.perm_cons_erase hx).symm;rw[h2.mem_erase_iff,←h y,List.mem_cons];constructor
  ·exact λhy=>⟨λe=>h1.1 (by rw[←e];exact hy),.inr hy⟩
  ·rintro⟨hne,rfl|hy⟩
   ·exact absurd rfl hne
   ·exact hy
theorem onto_of {l:List (List Nat)}(nd:l.Nodup){φ:List Nat->List Nat}(nd2:(l.map φ).Nodup)(sub: ∀x∈l,φ x∈l){y:List Nat}(hy:y∈l):y∈l.map φ:=by
 refine xG λhn=>?_
 have h1:(y::l.map φ).Nodup:=List.nodup_cons.2 ⟨hn,nd2⟩
 have h2:=List.Nodup.length_le_of_subset h1 (l₂:=l) λz hz=>by
  rcases List.mem_cons.1 hz with rfl|hz
  ·exact hy
  ·obtain⟨w,hw,rfl⟩:=jH.1 hz
   exact sub w hw
 rw[List.length_cons,jS] at h2;omega
section
variable {n:Nat} {G:List Nat->Prop} {L:List (List Nat)} {K:List Nat}
theorem map_perm (E:cX G L)(φ:List Nat->List Nat)(h1: ∀x,G x->G (φ x))(h2: ∀x y,G x->G y->φ x=φ y->x=y):(L.map φ).Perm L:=by
 have nd:(L.map φ).Nodup:=by
  rw[List.nodup_iff_pairwise_ne,List.pairwise_map];exact (List.nodup_iff_pairwise_ne.1 E.nodup).imp_of_mem λha hb hne e=>hne (h2 _ _ ((E.mem _).1 ha) ((E.mem _).1 hb) e)
 refine perm_of nd E.nodup λy=>⟨λhy=>?_,λhy=>onto_of E.nodup nd (λx hx=>(E.mem _).2 (h1 x ((E.mem x).1 hx))) hy⟩
 obtain⟨x,hx,rfl⟩:=jH.1 hy;exact (E.mem _).2 (h1 x ((E.mem x).1 hx))
theorem gs_bij (E:cX G L)(f:List Nat->Int)(φ:List Nat->List Nat)(h1: ∀x,G x->G (φ x))(h2: ∀x y,G x->G y->φ x=φ y->x=y):gs L (λx=>f (φ x))=gs L f:=by
 rw[←gs_map,gs_perm (map_perm E φ h1 h2)]
noncomputable def clE (G:List Nat->Prop)(L:List (List Nat))(K:List Nat)(x:List Nat):Nat:=numC G L K (L.idxOf x)
theorem idx_at (E:cX G L){a:Nat}(ha:a<L.length):L.idxOf (L.getD a [])=a:=by
 rw[List.getD_eq_getElem?_getD,eQ ha];exact E.nodup.idxOf_getElem _ _
theorem clE_at (E:cX G L){a:Nat}(ha:a<L.length):clE G L K (L.getD a [])=numC G L K a:=by unfold clE;rw[idx_at E ha]
end
section
variable {x c:List Nat} {k i j:Nat}
theorem conj_invP {n:Nat}(X:aX n x)(C:aX n c):conjP (bX x) c=bX (conjP x c):=by
 unfold conjP;rw[rZ (C.inv.mul X) C,rZ C.inv X,lM C,←aI C.inv X.inv C]
noncomputable def nnE (G:List Nat->Prop)(L:List (List Nat))(K:List Nat)(i j:Nat)(z:List Nat):Int:=gs L λx=>if clE G L K x=i/\clE G L K (aQ (bX x) z)=j then 1 else 0
noncomputable def szK (G:List Nat->Prop)(L:List (List Nat))(K:List Nat)(k:Nat):Nat:=(orbC G L (K.getD k 0)).length
section
variable {n:Nat} {G:List Nat->Prop} {L:List (List Nat)} {K:List Nat} (hG:iL n G) (E:cX G L) (ik:IsK n G L K)
include hG E ik
theorem cl_lt (hx:G x):clE G L K x<K.length:=(numC_ok hG E ik (idx_el E hx).1).1
theorem cl_rep (hk:k<K.length):clE G L K (L.getD (K.getD k 0) [])=k:=by
 have h:=ik.lt (getD_mem (d:=0) hk);rw[clE_at E h];exact (numC_iff hG E ik.perm hk h).2 (cR_refl hG E h)
theorem cl_same {y:List Nat}(hx:G x)(hy:G y):clE G L K x=clE G L K y↔cj G x y:=by
 obtain⟨i1,e1⟩:=idx_el E hx;obtain⟨i2,e2⟩:=idx_el E hy;have h1:=numC_ok hG E ik i1;have h2:=numC_ok hG E ik i2;unfold clE;constructor
 ·intro e
  rw[←e] at h2;have:=cR_trans hG E i1 (cR_symm hG E (ik.lt (getD_mem (d:=0) h1.1)) h1.2) h2.2;unfold cR at this;rwa [e1,e2] at this
 ·intro c
  refine numC_same hG E ik i1 i2 ?_;unfold cR;rw[e1,e2];exact c
theorem cl_conj (hx:G x)(hc:G c):clE G L K (conjP x c)=clE G L K x:=
 ((cl_same hG E ik hx (cj_mem hG hx ⟨c,hc,rfl⟩)).2 ⟨c,hc,rfl⟩).symm
theorem sz_gs (hk:k<K.length):((szK G L K k:Nat):Int)=gs L λx=>if clE G L K x=k then 1 else 0:=by
 unfold szK orbC;rw[←sm_gs];have:=sm_count L.length 1 λa=>numC G L K a=k
 rw[Int.one_mul] at this;rw[eI (g:=λa=>if numC G L K a=k then 1 else 0) λa ha=>by rw[clE_at E ha],this];congr 2;refine List.filter_congr λa ha=>?_
 rw[decide_eq_decide];exact (numC_iff hG E ik.perm hk (rH.1 ha)).symm
omit hG ik in
theorem cst_nn:((cstK G L K i j k:Nat):Int)=nnE G L K i j (L.getD (K.getD k 0) []):=by
 unfold nnE;rw[←sm_gs];unfold cstK cstA;have:=sm_count L.length 1 λa=>numC G L K a=i/\quK G L K a k=j
 rw[Int.one_mul] at this;rw[←this];exact eI λa ha=>by rw[clE_at E ha];rfl
theorem nn_conj {z:List Nat}(hz:G z)(hc:G c):nnE G L K i j (conjP z c)=nnE G L K i j z:=by
 unfold nnE;have C:=hG.isP hc
 rw[←gs_bij E _ (λx=>conjP x c) (λx hx=>cj_mem hG hx ⟨c,hc,rfl⟩) λx y hx hy e=>by
  have:=congrArg (λw=>conjP w (bX c)) e
  simpa only[conjP_inv (hG.isP hx) C,conjP_inv (hG.isP hy) C] using this]
 refine gs_congr λx hx=>?_
 have hx':=(E.mem x).1 hx;have X:=hG.isP hx';rw[cl_conj hG E ik hx' hc,←conj_invP X C,←conjP_mulP X.inv (hG.isP hz) C,cl_conj hG E ik (hG.mul (hG.inv hx') hz) hc]
theorem nn_cl {z:List Nat}(hz:G z):nnE G L K i j z=((cstK G L K i j (clE G L K z):Nat):Int):=by
 have hk:=cl_lt hG E ik hz;rw[cst_nn E];have hr:=el_mem E (ik.lt (getD_mem (d:=0) hk));obtain⟨c,hc,e⟩:=(cl_same hG E ik hr hz).1 (cl_rep hG E ik hk);generalize clE G L K z=k at*;rw[←e,nn_conj hG E ik hr hc]
theorem sum_cl (f:Nat->Int):sm K.length (λk=>f k*((szK G L K k:Nat):Int))=gs L λz=>f (clE G L K z):=by
 rw[eI (g:=λk=>gs L λz=>f k*if clE G L K z=k then 1 else 0) λk hk=>by rw[sz_gs hG E ik hk,gs_mul],←gs_sm];refine gs_congr λz hz=>?_
 have hz':=(E.mem z).1 hz;rw[Vn (cl_lt hG E ik hz') (f:=λk=>f k*if clE G L K z=k then 1 else 0) λk _ hne=>by rw[if_neg (λe=>hne e.symm),Int.mul_zero],if_pos rfl,Int.mul_one]
theorem cst_sum {a:Nat}(hi:i<K.length)(ha:a<K.length):sm K.length (λk=>((cstK G L K i a k:Nat):Int)*((szK G L K k:Nat):Int))=((szK G L K i:Nat):Int)*((szK G L K a:Nat):Int):=by
 rw[sum_cl hG E ik (λk=>((cstK G L K i a k:Nat):Int)),gs_congr (g:=λz=>nnE G L K i a z) λz hz=>(nn_cl hG E ik ((E.mem z).1 hz)).symm];unfold nnE;rw[gs_swap,sz_gs hG E ik hi,sz_gs hG E ik ha,Int.mul_comm,←gs_mul];refine gs_congr λx hx=>?_
 have hx':=(E.mem x).1 hx;have X:=hG.isP hx'
 by_cases h:clE G L K x=i
 ·rw[if_pos h,Int.mul_one,←gs_bij E (λw=>if clE G L K w=a then 1 else 0) (λz=>aQ (bX x) z) (λz hz=>hG.mul (hG.inv hx') hz) λy z hy hz e=>by
   exact fF (hG.isP hy) (hG.isP hz) X.inv e]
  refine gs_congr λz _=>?_
  by_cases h2:clE G L K (aQ (bX x) z)=a
  ·rw[if_pos ⟨h,h2⟩,if_pos h2]
  ·rw[if_neg (λe=>h2 e.2),if_neg h2]
 ·rw[if_neg h,Int.mul_zero,gs_congr (g:=λ_=>0) λz _=>by rw[if_neg (λe=>h e.1)],gs_nul]
end
end
end Go.Proofs.YtapfcpkecmmagaaGreat
namespace Go.Pm
set_option maxRecDepth 100000
section
variable {n:Nat} {t:sP}
theorem mZ.gt (T:mZ n t){i p:Nat}{y:List Nat}(h:t i p=some y):i<p:=by
 have Y:=T.isP _ _ _ h;have F:=T.fix _ _ _ h;obtain⟨h1,h2,h3⟩:=T.lt _ _ _ h;have m:=T.maps _ _ _ h;rcases Nat.lt_or_ge p i with h4|h4
 ·exact absurd (Y.inj h1 h2 (m.trans (F p h4).symm)) (by omega)
 ·omega
def eR (t:sP)(i p:Nat):oN:=(List.range p).filterMap (t i)
def eB (n:Nat)(t:sP)(i:Nat):oN:=(List.range i).flatMap λi=>eR t i n
theorem Vi:eB n t n=eZ n t 0:=by
 unfold eB eZ eR;simp
theorem qW (T:mZ n t):(eZ n t 0).Nodup:=by
 have key: ∀i p i' p' y,t i p=some y->t i' p'=some y->i=i'/\p=p':=λi p i' p' y h1 h2=>by
  have g1:=T.gt h1;have g2:=T.gt h2;have f1:=T.fix _ _ _ h1;have f2:=T.fix _ _ _ h2;have m1:=T.maps _ _ _ h1;have m2:=T.maps _ _ _ h2
  have e:i=i':=by
   rcases Nat.lt_trichotomy i i' with h|h|h
   ·have:=f2 i h;omega
   ·exact h
   ·have:=f1 i' h;omega
  subst e;exact⟨rfl,m1.symm.trans m2⟩
 rw[←Vi];unfold eB;rw[List.Nodup,List.pairwise_flatMap];refine⟨λi _=>?_,?_⟩
 ·unfold eR
  rw[List.pairwise_filterMap];refine (List.nodup_range (n:=n)).imp ?_;intro p p' hne y hy y' hy' e;subst e;exact hne (key _ _ _ _ _ hy hy').2
 ·refine (List.nodup_range (n:=n)).imp ?_
  intro i i' hne y hy y' hy' e;subst e;obtain⟨p,_,h1⟩:=List.mem_filterMap.1 hy;obtain⟨p',_,h2⟩:=List.mem_filterMap.1 hy';exact hne (key _ _ _ _ _ h1 h2).1
def Zr (n:Nat)(t:sP)(l:oN):oN:=(eZ n t 0).filter λy=>decide (y∉l)
def Xn (n:Nat)(t:sP)(x:List Nat)(l:oN):oN:=if (eZ n t 0).length<(eZ n (mQ t n x) 0).length then l++Zr n (mQ t n x) l else l
structure Aa (n:Nat)(L:List Nat->Prop)(t:sP)(l:oN):Prop where
 tl:Ex n L t
 nd:l.Nodup
 mem: ∀y,y∈l↔y∈eZ n t 0
variable {L:List Nat->Prop} {l:oN}
theorem Aa.isP (c:Aa n L t l): ∀y∈l,aX n y:=λy hy=>c.tl.tab.Mu y ((c.mem y).1 hy)
theorem Aa.start (c:Ex n L t):Aa n L t (eZ n t 0):=⟨c,qW c.tab,λ_=>Iff.rfl⟩
theorem Bn {t':sP}(s:Sub t t'): ∀y,y∈eZ n t 0->y∈eZ n t' 0:=λy hy=>by
 obtain⟨i,p,h1,h2,h3,h4⟩:=eE.1 hy;exact eE.2 ⟨i,p,h1,h2,h3,s _ _ _ h4⟩
theorem Aa.step (c:Aa n L t l)(hL: ∀g,L g->aX n g){x:List Nat}(hx:dF n L x):
  Aa n L (mQ t n x) (Xn n t x l)/\Sub t (mQ t n x)/\ins (mQ t n x) n 0 x=none/\ ∃m,Xn n t x l=l++m:=by
 obtain⟨a1,a2,a3⟩:=c.tl.ins hL hx
 have nd':=qW a1.tab
 refine⟨?_,a2,a3,?_⟩
 ·cases h:ins t n 0 x with
  |none=>
   have e:mQ t n x=t:=by unfold mQ;rw[h]
   unfold Xn;rw[e,if_neg (Nat.lt_irrefl _)];exact c
  |some q=>
   obtain⟨i,r⟩:=q;have e:mQ t n x=put t i (r.getD i 0) r:=by unfold mQ;rw[h]
   obtain⟨b1,b2,b3,b4,b5,b6,_⟩:=oS c.tl.tab n 0 x i r (by omega) (hx.isP hL) (λk hk=>by omega) h;have hr:r∈eZ n (mQ t n x) 0:=eE.2 ⟨i,r.getD i 0,Nat.zero_le _,b2,b3.dU b2,by rw[e];unfold put;rw[if_pos ⟨rfl,rfl⟩]⟩
   have hr2:r∉eZ n t 0:=λh=>by
    obtain⟨j,q,_,_,_,h4⟩:=eE.1 h;have h5:=a2 _ _ _ h4;have g1:=a1.tab.gt h5;have f1:=a1.tab.fix _ _ _ h5;have m1:=a1.tab.maps _ _ _ h5;have h6:mQ t n x i (r.getD i 0)=some r:=by rw[e];unfold put;rw[if_pos ⟨rfl,rfl⟩]
    have g2:=a1.tab.gt h6
    have eij:i=j:=by
     rcases Nat.lt_trichotomy i j with h|h|h
     ·have:=f1 i h;omega
     ·exact h
     ·have:=b4 j h;omega
    subst eij;rw[←m1] at h4;rw[b6] at h4;cases h4
   have hlt:(eZ n t 0).length<(eZ n (mQ t n x) 0).length:=by
    have:(r::eZ n t 0).length<=(eZ n (mQ t n x) 0).length:=List.Nodup.length_le_of_subset (List.nodup_cons.2 ⟨hr2,qW c.tl.tab⟩) (λy hy=>by
     rcases List.mem_cons.1 hy with rfl|hy
     ·exact hr
     ·exact Bn a2 y hy)
    rw[List.length_cons] at this;omega
   unfold Xn;rw[if_pos hlt];refine⟨a1,List.nodup_append.2 ⟨c.nd,nd'.filter _,λy hy z hz e2=>?_⟩,λy=>?_⟩
   ·subst e2
    have:=(List.mem_filter.1 hz).2;simp at this;exact this hy
   ·rw[List.mem_append]
    unfold Zr;rw[List.mem_filter];constructor
    ·rintro (h|h)
     ·exact Bn a2 y ((c.mem y).1 h)
     ·exact h.1
    ·intro h
     by_cases h2:y∈l
     ·exact .inl h2
     ·exact .inr ⟨h,by simpa using h2⟩
 ·unfold Xn
  split
  ·exact⟨_,rfl⟩
  ·exact⟨[],(List.append_nil _).symm⟩
theorem Aa.gen (c:Aa n L t l): ∀y∈l,dF n L y:=λy hy=>c.tl.gen y ((c.mem y).1 hy)
def Pr (n:Nat)(t:sP)(l:oN)(a b:Nat):Prop:=ins t n 0 (aQ (l.getD a []) (l.getD b []))=none
theorem Pr.mono {t':sP}{m:oN}{a b:Nat}(h:Pr n t l a b)(s:Sub t t')(ha:a<l.length)(hb:b<l.length):Pr n t' (l++m) a b:=by
 have e: ∀k,k<l.length->(l++m).getD k []=l.getD k []:=λk hk=>by rw[List.getD,List.getD,List.getElem?_append_left hk]
 unfold Pr;rw[e a ha,e b hb];exact Az s _ _ _ h
end
end Go.Pm
namespace Go.Proofs.YtapfcpkecmmagaaGreat
open Go Go.Ay Go.Pm
set_option maxRecDepth 100000
theorem bls_i1 (h:H)(x:Int):nG h 1 [aC 0] 1 [(0,1,aC x)]=some (.sl h.next 0 1 (.kn 1),h.new (.cells false (ints [x]))):=by
 have e:dG [aC 0] 1= [aC 0]:=rfl;simp [nG,fU,e,putAt,V.cells,V.one,ints]
theorem Own_ge {h:H}{v:V}{sz b:Nat}{ws:List V}(o:Own h v sz ws b): ∀id off len cap,v= .sl id off len cap->b<=id:=by
 rcases o with ⟨rfl,_⟩|⟨id,n,cap,rest,rfl,_,_,h3,_⟩
 ·intro _ _ _ _ e;cases e
 ·intro _ _ _ _ e;cases e;exact h3
theorem zi_snoc (l:List Nat)(x:Nat):zi (l++ [x])=zi l++ [(x:Int)]:=by simp [zi]
theorem take_snoc {l:List Nat}{i:Nat}(hi:i<l.length):l.take (i+1)=l.take i++ [l.getD i 0]:=by
 rw[List.take_add_one,eQ hi,cG hi];rfl
theorem kmul_ok (u w:V)(a b:List Nat)(h:H)(hN:a.length<=1000)(hu:SI h u (zi a))(hw:SI h w (zi b))(hr: ∀i,i<a.length->a.getD i 0<b.length):
  Ev T 24 [u,w] h (λv h'=>SI h' v (zi (aQ a b))/\Fr h h'/\ ∀id off len cap,v= .sl id off len cap->h.next<=id):=by
 refine bP c_kit_Mul rfl rfl ?_
 have lu:=hu.lens
 rw[aU] at lu
 obtain⟨id,off,sh,hid,hc⟩:=hu.open
 rw[aU] at sh hid hc
 obtain⟨id2,off2,sh2,hid2,hc2⟩:=hw.open
 rw[aU] at sh2 hid2 hc2
 simp(disch:=omega)only[go_sem,c_kit_Mul,aE]
 refine aJ (λk' vars hh=> ∃(i:Nat) (o:V),(∃j:Nat->V,vars= [u,w,j 2,o,aC i,j 5])/\i<=a.length/\Own hh o 1 (ints (zi ((aQ a b).take i))) h.next/\Fr h hh/\k'=a.length-i) a.length
  ⟨0,.aB,aA rfl,gK _,Own.aB _ _ _,Fr.refl h,rfl⟩ ?_
 rintro k' vars h2 ⟨i,o,⟨jk,rfl⟩,hi,oO,F,rfl⟩
 simp(disch:=omega)only[go_sem,lu]
 by_cases hlt:(i:Int)<(a.length:Int)
 ·rw[decide_eq_true hlt]
  have hi':i<a.length:=by omega
  have ci:h2.cell id (off+i)=some (aC (a.getD i 0:Nat)):=by rw[F.cell (hid (by omega)),hc i hi'];congr 2;simp [zi,hi']
  have r:=hr i hi'
  have hm:=cH (b:=b) hi'
  generalize hk:a.getD i 0=k at ci r hm
  have ck:h2.cell id2 (off2+k)=some (aC (b.getD k 0:Nat)):=by rw[F.cell (hid2 (by omega)),hc2 k r];congr 2;simp [zi,r]
  simp(disch:=omega)only[go_sem,sh.ixa,ci,sh2.ixa,ck,bls_i1]
  have hf31:Fr h2 (h2.new (.cells false (ints [((b.getD k 0:Nat):Int)]))):=(Fr.refl h2).new _
  have hg31:(h2.new (.cells false (ints [((b.getD k 0:Nat):Int)]))).get h2.next=some (.cells false (ints [((b.getD k 0:Nat):Int)])):=H.aM ..
  have hn31:(h2.new (.cells false (ints [((b.getD k 0:Nat):Int)]))).next=h2.next+1:=H.aV ..
  generalize h2.new (.cells false (ints [((b.getD k 0:Nat):Int)]))=h31 at*
  have sx:SV h31 (.sl h2.next 0 1 (.kn 1)) 1 (ints [((b.getD k 0:Nat):Int)]):=SV.all rfl (by omega) hg31 _
  have nF:=F.next
  have hl:(aQ a b).length=a.length:=dP a b
  obtain⟨v2,h32,e32,a32⟩:=(oO.fr hf31).app (bytes:=8) (n:=i) (m:=1) (by omega) sx (by rw[aN,aU,xL,Nat.mul_one];omega) rfl (by omega) (by omega)
  simp(disch:=omega)only[go_sem,e32]
  have t32:=a32.own
  rw[←kB,←hm,←zi_snoc,←take_snoc (by omega)] at t32
  rw[iO i]
  exact⟨a.length-(i+1),by omega,i+1,v2,aA rfl,by omega,t32,a32.fr h (F.trans hf31) (eP _),rfl⟩
 rw[decide_eq_false hlt]
 obtain rfl:i=a.length:=by omega
 simp(disch:=omega)only[go_sem]
 rw[List.take_of_length_le (by rw[dP];omega)] at oO
 exact⟨oO.sv,F,Own_ge oO⟩
theorem kone_ok (n:Nat)(h:H)(hN:n<=1000):
  Ev T 51 [aC n] h (λv h'=>SI h' v (zi (aW n))/\Fr h h'/\ ∀id off len cap,v= .sl id off len cap->h.next<=id):=by
 refine bP c_kit_One rfl rfl ?_
 simp(disch:=omega)only[go_sem,c_kit_One,aE]
 refine aJ (λk' vars hh=> ∃(i:Nat) (o:V),(∃j:Nat->V,vars= [aC n,j 1,o,aC i,j 4])/\i<=n/\Own hh o 1 (ints (zi ((aW n).take i))) h.next/\Fr h hh/\k'=n-i) n
  ⟨0,.aB,aA rfl,gK _,Own.aB _ _ _,Fr.refl h,rfl⟩ ?_
 rintro k' vars h2 ⟨i,o,⟨jk,rfl⟩,hi,oO,F,rfl⟩
 simp(disch:=omega)only[go_sem]
 by_cases hlt:(i:Int)<(n:Int)
 ·rw[decide_eq_true hlt]
  have hi':i<n:=by omega
  simp(disch:=omega)only[go_sem,bls_i1]
  have hf31:Fr h2 (h2.new (.cells false (ints [(i:Int)]))):=(Fr.refl h2).new _
  have hg31:(h2.new (.cells false (ints [(i:Int)]))).get h2.next=some (.cells false (ints [(i:Int)])):=H.aM ..
  have hn31:(h2.new (.cells false (ints [(i:Int)]))).next=h2.next+1:=H.aV ..
  generalize h2.new (.cells false (ints [(i:Int)]))=h31 at*
  have sx:SV h31 (.sl h2.next 0 1 (.kn 1)) 1 (ints [(i:Int)]):=SV.all rfl (by omega) hg31 _
  have nF:=F.next
  have hl:=eJ n
  obtain⟨v2,h32,e32,a32⟩:=(oO.fr hf31).app (bytes:=8) (n:=i) (m:=1) (by omega) sx (by rw[aN,aU,xL,Nat.mul_one];omega) rfl (by omega) (by omega)
  simp(disch:=omega)only[go_sem,e32]
  have t32:=a32.own
  have hm:=dM hi'
  have e1:zi ((aW n).take i)++ [(i:Int)]=zi ((aW n).take (i+1)):=by rw[take_snoc (by omega),zi_snoc,hm]
  rw[←kB,e1] at t32
  rw[iO i]
  exact⟨n-(i+1),by omega,i+1,v2,aA rfl,by omega,t32,a32.fr h (F.trans hf31) (eP _),rfl⟩
 rw[decide_eq_false hlt]
 obtain rfl:i=n:=by omega
 simp(disch:=omega)only[go_sem]
 rw[List.take_of_length_le (by rw[eJ];omega)] at oO
 exact⟨oO.sv,F,Own_ge oO⟩
structure TbR (b:Nat)(W:Nat->Prop)(h:H)(n:Nat)(tv:V)(ρ:Nat->Nat)(F:Nat->Nat->V)(t:sP):Prop where
 sv:SV h tv 1 (rc n λi=> .sl (ρ i) 0 n (.kn n))
 off:Jg W tv
 row: ∀i,i<n->h.get (ρ i)=some (.cells false (rc n (F i)))
 wb: ∀i,i<n->W (ρ i)
 win: ∀id,W id->id<h.next
 low: ∀id,W id->b<=id
 inj: ∀i j,i<n->j<n->ρ i=ρ j->i=j
 ent: ∀i p,i<n->p<n->Slot W h (F i p) (t i p)
section
variable {b:Nat} {W:Nat->Prop} {h h':H} {n:Nat} {tv:V} {ρ:Nat->Nat} {F:Nat->Nat->V} {t:sP}
theorem TbR.open (R:TbR b W h n tv ρ F t):dB tv=some (aC n)/\ ∃id off,Sl tv 1 n id off/\ ∀i,i<n->h.cell id (off+i)=some (.sl (ρ i) 0 n (.kn n)):=by
 have s:=R.sv;have hl:(rc n λi=>V.sl (ρ i) 0 n (.kn n)).length=n:=cV n _;refine⟨by unfold dB;rw[SV.len s (n:=n) (by omega) (by omega)];rfl,?_⟩;obtain⟨id,off,sh,hid,hc⟩:=SV.shape s n (by omega) (by omega);refine⟨id,off,sh,λi hi=>?_⟩;rw[hc i (by omega),jC hi]
theorem TbR.cell (R:TbR b W h n tv ρ F t){i p:Nat}(hi:i<n)(hp:p<n):h.cell (ρ i) p=some (F i p):=pW (R.row i hi) hp
theorem TbR.mono (R:TbR b W h n tv ρ F t)(f:Fr h h'):TbR b W h' n tv ρ F t:=
 ⟨R.sv.mono f,R.off,λi hi=>by rw[f.get _ (R.win _ (R.wb i hi))];exact R.row i hi,R.wb,λid hid=>gE (R.win id hid) f.next,R.low,R.inj,λi p hi hp=>(R.ent i p hi hp).fx (Fx.of f)⟩
theorem TbR.go (R:TbR b W h n tv ρ F t){W':Nat->Prop}(f:Fx W h h')(hr: ∀i,i<n->h'.get (ρ i)=h.get (ρ i))(hw: ∀id,id<h.next->W' id->W id)(hw2: ∀id,W id->W' id)(win: ∀id,W' id->id<h'.next)(low: ∀id,W' id->b<=id):TbR b W' h' n tv ρ F t:=
 ⟨R.sv.fx R.off f,R.off.weak R.sv hw,λi hi=>by rw[hr i hi];exact R.row i hi,λi hi=>hw2 _ (R.wb i hi),win,low,R.inj,λi p hi hp=>(R.ent i p hi hp).go f hw⟩
def WB (n:Nat)(ρ:Nat->Nat)(id:Nat):Prop:= ∃i,i<n/\ρ i=id
def F2 (F:Nat->Nat->V)(i p:Nat)(v:V):Nat->Nat->V:=λj q=>if j=i/\q=p then v else F j q
theorem TbR.put (R:TbR b W h n tv ρ F t){i p:Nat}(hi:i<n)(hp:p<n){vx:V}{x:List Nat}(hx:PV W h vx x):
  ∃h',dV (h.get (ρ i)) h (ρ i) p [vx]=some h'/\TbR b W h' n tv ρ (F2 F i p vx) (Pm.put t i p x)/\Fx (WB n ρ) h h'/\h'.next=h.next:=by
 have pt:=bE (vs:=rc n (F i)) (off:=p) (by rw[cV];exact hp) h (ρ i) vx
 rw[R.row i hi,pt,eY]
 refine⟨_,rfl,?_,Fx.set h (W:=WB n ρ) ⟨i,hi,rfl⟩ _,rfl⟩
 have f:Fx W h (h.set (ρ i) (some (.cells false (rc n λj=>if j=p then vx else F i j)))):=Fx.set h (R.wb i hi) _
 refine⟨R.sv.fx R.off f,R.off,λj hj=>?_,R.wb,R.win,R.low,R.inj,λj q hj hq=>?_⟩
 ·by_cases e:j=i
  ·subst e
   rw[H.aT]
   congr 2
   refine bH λq _=>?_
   unfold F2
   by_cases e2:q=p
   ·rw[if_pos e2,if_pos ⟨rfl,e2⟩]
   ·rw[if_neg e2,if_neg (λh=>e2 h.2)]
  ·rw[H.aH h (λe2=>e (R.inj _ _ hj hi e2)),R.row j hj]
   congr 2
   refine bH λq _=>?_
   unfold F2
   rw[if_neg (λh=>e h.1)]
 ·unfold F2 Pm.put
  by_cases e:j=i/\q=p
  ·rw[if_pos e,if_pos e]
   exact PV.fx hx f
  ·rw[if_neg e,if_neg e]
   exact (R.ent j q hj hq).fx f
theorem PV.fresh {v:V}{l:List Nat}(s:SI h' v (zi l))(hf: ∀id off len cap,v= .sl id off len cap->h.next<=id)(hw: ∀id,W id->id<h.next):PV W h' v l:=by
 refine⟨s,?_⟩
 cases v with
 |sl id off len cap=>exact λhx=>by have:=hf _ _ _ _ rfl;have:=hw id hx;omega
 |_=>trivial
theorem Slot.nil {v:V}(s:Slot W h v none):v= .aB:=s
end
theorem PVs.open {W:Nat->Prop}{h:H}{v:V}{ws:List V}{l:LN}(sv:SV h v 1 ws)(p:PVs W h ws l):dB v=some (aC (l.length:Int))/\ ∃id off,Sl v 1 l.length id off/\ ∀i,i<l.length->id<h.next/\h.cell id (off+i)=some (ws.getD i .undef)/\PV W h (ws.getD i .undef) (l.getD i []):=by
 have hl:=All2.length p;refine⟨by unfold dB;rw[SV.len sv (n:=l.length) (by omega) (by omega)];rfl,?_⟩;obtain⟨id,off,sh,hid,hc⟩:=SV.shape sv l.length (by omega) (by omega);refine⟨id,off,sh,λi hi=>⟨hid (by omega),?_,?_⟩⟩
 ·rw[hc i (by omega)];simp [List.getD,show i<ws.length by omega]
 ·obtain⟨w,h1,h2⟩:=PVs.at p hi
  rw[List.getD,h1];exact h2
theorem mem_take {α:Type}{l:List α}{x d:α}{k:Nat}:x∈l.take k↔ ∃q,q<k/\q<l.length/\l.getD q d=x:=by
 constructor
 ·intro h
  obtain⟨q,hq,e⟩:=uH.1 h;rw[xL] at hq;refine⟨q,by omega,by omega,?_⟩;rw[List.getElem_take] at e;rw[List.getD,eQ (by omega),←e];rfl
 ·rintro⟨q,h1,h2,e⟩
  rw[List.getD,eQ h2] at e;refine uH.2 ⟨q,by rw[xL];omega,?_⟩;rw[List.getElem_take];exact e
set_option maxRecDepth 100000
set_option maxRecDepth 100000
set_option maxRecDepth 100000
theorem mks_nils (h:H)(n:Nat)(hn:n<=100000):tF h 1 24 [.aB] (aC n) (aC n)=some (.sl h.next 0 n (.kn n),h.new (.cells false (rc n λ_=> .aB))):=by
 have e:dG [V.aB] n=rc n λ_=> .aB:=(xF (by simp [dG]) λi hi=>by simp [dG,hi,Nat.mod_one]).symm
 rw[lQ (by omega) (Int.le_refl _) (by omega) (by omega),Int.toNat_natCast,Nat.mul_one,e]
structure CstO (G:List Nat->Prop)(L:List (List Nat))(K:List Nat)(i b:Nat)(hh:H)(v:V):Prop where
 ex: ∃(Q:Nat) (ρ:Nat->Nat),v= .sl Q 0 K.length (.kn K.length)/\b<=Q/\Q<hh.next/\hh.get Q=some (.cells false (rc K.length λa=> .sl (ρ a) 0 K.length (.kn K.length)))/\ ∀a,a<K.length->Q<ρ a/\ρ a<hh.next/\hh.get (ρ a)=some (.cells false (rc K.length λk=> .int .i64 ((cstK G L K i a k:Nat):Int)))
theorem CstO.sr {G:List Nat->Prop}{L:List (List Nat)}{K:List Nat}{i b:Nat}{hh:H}{v:V}(c:CstO G L K i b hh v):SR hh v ((List.range K.length).map λj=>zi ((List.range K.length).map (cstK G L K i j))):=by
 obtain⟨Q,ρ,rfl,_,nQ,gQ,rows⟩:=c.ex;refine⟨(List.range K.length).map λa=> .sl (ρ a) 0 K.length (.kn K.length),?_,?_⟩
 ·exact SV.all (by rw[cV,Nat.mul_one]) nQ gQ _
 ·refine All2.iS (by simp) λa h1 h2=>?_
  have ha:a<K.length:=by simpa using h1
  simp only[List.getElem_map,List.getElem_range];obtain⟨_,r2,r3⟩:=rows a ha
  have e:(rc K.length λk=>V.int .i64 ((cstK G L K i a k:Nat):Int))=ints (zi ((List.range K.length).map (cstK G L K i a))):=by
   simp [rc,ints,zi,Function.comp_def]
  rw[e] at r3;exact SV.all (by rw[aN,aU,jS,List.length_range,Nat.mul_one]) r2 r3 _
set_option maxHeartbeats 64000000
theorem consts_ok (D i:Nat)(n:Nat)(G:List Nat->Prop)(L:List (List Nat))(K:List Nat)(h:H)(n7:n<=7)(hG:iL n G)(E:cX G L)(ik:IsK n G L K)(hl:L.length<=5040)(hr:K.length<=64)(d:DatO n G L K h D):
  Ev T 46 [.ptr D 0,.int .i64 (i:Int)] h (λv h'=>CstO G L K i h.next h' v/\Fr h h'):=by
 refine bP c_algebra_data_constants rfl rfl ?_
 obtain⟨vL,vC,Mn,ln,ks,gD,hD,hMn,sL,sC,al,gMn,kln,lkn⟩:=d.ex
 obtain⟨M,hM⟩: ∃M,h.next=M:=⟨_,rfl⟩
 obtain⟨h1,e1⟩: ∃h1,h.new (.wmap (.arr 2 .i64) [])=h1:=⟨_,rfl⟩
 have n1:h1.next=M+1:=by rw[←e1,H.aV,hM]
 have g1:h1.get M=some (.wmap (.arr 2 .i64) []):=by rw[←e1,←hM];exact H.aM h _
 have o1: ∀k,k≠M->h1.get k=h.get k:=λk hk=>by rw[←e1];exact H.bG h (by omega) _
 have f1:Fr h h1:=⟨by omega,λq hq=>o1 q (by omega)⟩
 obtain⟨r,hrr⟩: ∃r,K.length=r:=⟨_,rfl⟩
 obtain⟨m0,hm0⟩: ∃m,L.length=m:=⟨_,rfl⟩
 obtain⟨lvL,eL,idL,offL,ws,shL,cL⟩:=sp_open sL
 obtain⟨lvC,eC,idC,offC,shC,cC⟩:=cls_open (by omega) sC al
 rw[hrr] at lvC shC cC hr
 rw[hm0] at lvL shL cL lkn
 have gD1: ∀hh,Fr h hh->hh.get D=some (.cells false [vL,vC,.mp Mn]):=λhh f=>by rw[f.get _ hD];exact gD
 simp(disch:=omega)only[go_sem,c_algebra_data_constants,aE,hM,e1,H.aF (gD1 h1 f1),lvL]
 refine cF (λvs hh=> ∃(m:List ((Nat×Nat)×V)),(∃g:Nat->V,vs= [.ptr D 0,.int .i64 (i:Int),g 2,.mp M,g 4,g 5,g 6,g 7,g 8,g 9,g 10,g 11,g 12,g 13,g 14,g 15,g 16,g 17,g 18,g 19,g 20,g 21,g 22,g 23,g 24])/\hh.get M=some (.wmap (.arr 2 .i64) (fA pkV m))/\(∀p∈m,PkP p.1)/\(∀j k,k<r->(xI m (j,k)).getD (.int .i64 0)= .int .i64 ((cstA G L K i k L.length j:Nat):Int))/\M<hh.next/\Fr h hh) ?_ ?_
 ·refine aJ (λk' vars hh=> ∃(t:Nat) (m:List ((Nat×Nat)×V)),(∃g:Nat->V,vars= [.ptr D 0,.int .i64 (i:Int),g 2,.mp M,g 4,g 5,g 6,g 7,g 8,g 9,vL,.int .i64 (m0:Int),.int .i64 (t:Int),g 13,g 14,g 15,g 16,g 17,g 18,g 19,g 20,g 21,g 22,g 23,g 24])/\t<=m0/\hh.get M=some (.wmap (.arr 2 .i64) (fA pkV m))/\(∀p∈m,PkP p.1)/\(∀j k,k<r->(xI m (j,k)).getD (.int .i64 0)= .int .i64 ((cstA G L K i k t j:Nat):Int))/\M<hh.next/\Fr h hh/\k'=m0-t) m0
   ⟨0, [],aA rfl,gK _,g1,λ_ h=>(by cases h),λj k _=>rfl,by omega,f1,rfl⟩ ?_
  rintro k' vars h2 ⟨t,m,⟨g,rfl⟩,ht,gM,pm,lk,nM,F,rfl⟩
  by_cases hlt:(t:Int)<(m0:Int)
  case neg=>
   have d1:decide ((t:Int)<(m0:Int))=false:=decide_eq_false hlt;obtain rfl:t=m0:=by omega
   simp(disch:=omega)only[go_sem,d1];exact⟨m,aA rfl,gM,pm,by rw[hm0];exact lk,nM,F⟩
  have d1:decide ((t:Int)<(m0:Int))=true:=decide_eq_true hlt
  have htl:t<m0:=by omega
  obtain⟨b1,c1,s1⟩:=cL t htl
  generalize ws.getD t V.undef=ve at c1 s1
  have X:=el_isP hG E (show t<L.length by omega)
  have hxL:L.getD t []∈L:=getD_mem (by omega)
  have ix:L.idxOf (L.getD t [])=t:=by
   rw[List.getD_eq_getElem?_getD,eQ (by omega)];exact E.nodup.idxOf_getElem _ _
  obtain⟨x,hx⟩: ∃x,L.getD t []=x:=⟨_,rfl⟩
  rw[hx] at s1 X hxL ix
  have c2:h2.cell idL (offL+t)=some ve:=by rw[F.cell b1];exact c1
  simp(disch:=omega)only[go_sem,d1,shL.ixa,c2]
  refine (class_ok D ve n G L K x h2 (by omega) (d.mono F) X hxL (s1.mono F)).mono ?_
  rw[ix]
  rintro _ h3 ⟨rfl,f3⟩
  have F3:=F.trans f3
  have gM3:h3.get M=some (.wmap (.arr 2 .i64) (fA pkV m)):=by rw[f3.get _ nM];exact gM
  have n3:=f3.next
  by_cases hi:numC G L K t=i
  case neg=>
   have d2:decide (((numC G L K t:Nat):Int)≠(i:Int))=true:=decide_eq_true (by omega);simp(disch:=omega)only[go_sem,d2];rw[show (t:Int)+1=((t+1:Nat):Int) from by omega];refine⟨m0-(t+1),by omega,t+1,m,aA rfl,by omega,gM3,pm,λj k hk=>?_,by omega,F3,rfl⟩;rw[lk j k hk,cstA_succ,if_neg (λe=>hi e.1),Nat.add_zero]
  have d2:decide (((numC G L K t:Nat):Int)≠(i:Int))=false:=decide_eq_false (by omega)
  simp(disch:=omega)only[go_sem,d2,H.aF (gD1 h3 F3),lvC]
  refine aJ (λk' vars hh=> ∃(k:Nat) (m:List ((Nat×Nat)×V)),(∃g:Nat->V,vars= [.ptr D 0,.int .i64 (i:Int),g 2,.mp M,ve,g 5,g 6,g 7,g 8,g 9,vL,.int .i64 (m0:Int),.int .i64 (t:Int),g 13,g 14,vC,.int .i64 (r:Int),.int .i64 (k:Int),g 18,g 19,g 20,g 21,g 22,g 23,g 24])/\k<=r/\hh.get M=some (.wmap (.arr 2 .i64) (fA pkV m))/\(∀p∈m,PkP p.1)/\(∀j k',k'<r->(xI m (j,k')).getD (.int .i64 0)= .int .i64 ((cstA G L K i k' (if k'<k then t+1 else t) j:Nat):Int))/\M<hh.next/\Fr h hh/\k'=r-k) r
   ⟨0,m,aA rfl,gK _,gM3,pm,λj k hk=>by rw[if_neg (by omega)];exact lk j k hk,by omega,F3,rfl⟩ ?_
  clear gM pm lk nM F f3 F3 gM3 n3
  rintro k' vars h4 ⟨k,m,⟨g',rfl⟩,hk,gM,pm,lk,nM,F,rfl⟩
  by_cases hlk:(k:Int)<(r:Int)
  case neg=>
   have d3:decide ((k:Int)<(r:Int))=false:=decide_eq_false hlk;obtain rfl:k=r:=by omega
   simp(disch:=omega)only[go_sem,d3];rw[show (t:Int)+1=((t+1:Nat):Int) from by omega];exact⟨m0-(t+1),by omega,t+1,m,aA rfl,by omega,gM,pm,λj k' hk'=>by rw[lk j k' hk',if_pos hk'],nM,F,rfl⟩
  have d3:decide ((k:Int)<(r:Int))=true:=decide_eq_true hlk
  have hkr:k<r:=by omega
  obtain⟨bC,rep,cr,_,rw3,sr⟩:=cC k hkr
  obtain⟨z,hz⟩: ∃z,L.getD (K.getD k 0) []=z:=⟨_,rfl⟩
  rw[hz] at sr rw3
  have hKk:K.getD k 0<L.length:=ik.lt (getD_mem (by omega))
  have Z:aX n z:=by rw[←hz];exact el_isP hG E hKk
  have hzL:z∈L:=by rw[←hz];exact getD_mem hKk
  have w3:=sr.cW
  have r4:h4.row idC (offC+k*3) 3=some [rep,.int .i64 (cM z n:Int),.int .i64 ((orbC G L (K.getD k 0)).length:Int)]:=by
   have:h4.row idC (offC+k*3) 3=h.row idC (offC+k*3) 3:=by unfold H.row;rw[F.get _ bC]
   rw[this];exact rw3
  obtain⟨A,hA⟩: ∃A,h4.next=A:=⟨_,rfl⟩
  obtain⟨h5,e5,n5,g5,o5,f5⟩:=fC hA [.aB,.int .i64 0,.int .i64 0]
  obtain⟨h6,e6,n6,g6,o6⟩:=uB h5 A [rep,.int .i64 (cM z n:Int),.int .i64 ((orbC G L (K.getD k 0)).length:Int)]
  have f46:Fr h4 h6:=⟨by omega,λq hq=>by rw[o6 q (by omega),o5 q (by omega)]⟩
  have F6:=F.trans f46
  have gM6:h6.get M=some (.wmap (.arr 2 .i64) (fA pkV m)):=by rw[f46.get _ nM];exact gM
  have evx:=s1.dI
  have evr:=sr.dI
  simp(disch:=omega)only[go_sem,d3,shC.ixa,r4,hA,e5,iM h5 A 0 (v:=rep) (u:= .int .i64 (cM z n:Int)) (w:= .int .i64 ((orbC G L (K.getD k 0)).length:Int)) w3.2.1 rfl rfl,g5,fH,e6,H.aF (gD1 h6 F6),H.aF g6]
  have fb:=(Fr.refl h6).bJ (n:=h6.next+17) (by omega)
  refine (quot_ok ve rep n x z _ (by omega) X Z (s1.mono (F6.trans fb)) (sr.mono (F6.trans fb))).mono ?_
  rintro _ h7 ⟨rfl,f7⟩
  have f67:=fb.trans f7
  have F7:=F6.trans f67
  have gM7:h7.get M=some (.wmap (.arr 2 .i64) (fA pkV m)):=by rw[f67.get _ (by have:=f46.next;omega)];exact gM6
  have gN7:h7.get Mn=some (.wmap (.arr 64 .u8) (fA kyV ln)):=by rw[F7.get _ hMn];exact gMn
  have Qx:=X.inv.mul Z
  have hGx:G (aQ (bX x) z):=hG.mul (hG.inv ((E.mem x).1 hxL)) ((E.mem z).1 hzL)
  obtain⟨iq,eq'⟩:=idx_el E hGx
  obtain⟨q,hq⟩: ∃q,numC G L K (L.idxOf (aQ (bX x) z))=q:=⟨_,rfl⟩
  have hqr:q<r:=by rw[←hq,←hrr];exact (numC_ok hG E ik iq).1
  have lk1:=lkn _ (show L.idxOf (aQ (bX x) z)<m0 by omega)
  rw[eq',hq] at lk1
  have lo:=λw=>mC (kyV_eq (n:=n) (by omega)) (λa A=>kyV_key (n:=n) (by omega) a A) kln Qx w
  rw[lk1] at lo
  have PQ:PkP (q,k):=⟨by show q<1000000;omega,by show k<1000000;omega⟩
  have ql:quK G L K t k=q:=by unfold quK;rw[hx,hz];exact hq
  have lc:=lk q k hkr
  rw[if_neg (by omega)] at lc
  obtain⟨c,hc⟩: ∃c,cstA G L K i k t q=c:=⟨_,rfl⟩
  rw[hc] at lc
  have cle:c<=t:=by rw[←hc];exact cstA_le ..
  have lo2:=mC pkV_eq pkV_key pm PQ (.int .i64 0)
  rw[lc] at lo2
  have epk:V.agg [.int .i64 (q:Int),.int .i64 (k:Int)]=pkV (q,k):=rfl
  obtain⟨we,ni,m1,h8,ee,n8,o8,gM8,pm1,lk8,en⟩:=Ia pkV_eq pkV_key pm PQ (.int .i64 0) (.int .i64 ((c+1:Nat):Int)) h7 M gM7
  have lo3:=mC pkV_eq pkV_key pm1 PQ (.int .i64 0)
  rw[lk8,lc] at lo3
  have lo2':xQ (some (.wmap (.arr 2 .i64) (fA pkV m))) (.arr 2 .i64) (.int .i64 0) false (V.agg [.int .i64 (q:Int),.int .i64 (k:Int)])=_:=lo2
  have lo3':xQ (some (.wmap (.arr 2 .i64) (fA pkV m1))) (.arr 2 .i64) (.int .i64 0) false (V.agg [.int .i64 (q:Int),.int .i64 (k:Int)])=_:=lo3
  have ee':Fp (some (.wmap (.arr 2 .i64) (fA pkV m))) h7 M (.arr 2 .i64) (.int .i64 0) (V.agg [.int .i64 (q:Int),.int .i64 (k:Int)])=_:=ee
  have gD7:=gD1 h7 F7
  have gD8:h8.get D=some (.cells false [vL,vC,.mp Mn]):=by rw[o8 D (by omega)];exact gD7
  simp(disch:=omega)only[go_sem,H.aF gD7,gN7,lo,Option.getD_some,bld_pk,gM7,lo2',show (c:Int)+1=((c+1:Nat):Int) from rfl,ee',gM8,lo3',en]
  have ok:Rz h8 (.lkw (.arr 2 .i64) (.int .i64 0) false (.c (.mp M)) (.c (.agg [.int .i64 (q:Int),.int .i64 (k:Int)]))) (.int .i64 (c:Int))=true:=by
   simp only[Rz,An,xv,zL,gM8,lo3',Option.map_some,Xs];simp [dI]
  rw[show (k:Int)+1=((k+1:Nat):Int) from by omega]
  have n7':=F7.next
  refine⟨by simp [dI],ok,r-(k+1),by omega,k+1,_,aA rfl,by omega,rfl,sV PQ pm,λj k' hk'=>?_,by rw[n8];have:=f67.next;omega,⟨by show h.next<=h8.next;omega,λp hp=>by rw[H.aH _ (by omega),o8 p (by omega)];exact F7.get p hp⟩,rfl⟩
  rw[uL]
  by_cases e:(j,k')=(q,k)
  ·cases e
   rw[if_pos rfl,if_pos (by omega),cstA_succ,if_pos ⟨hi,ql⟩,hc]
   rfl
  ·rw[if_neg e,lk j k' hk']
   by_cases ek:k'=k
   ·subst ek
    rw[if_neg (by omega),if_pos (by omega),cstA_succ,if_neg (λh=>e (by rw[←h.2,ql]))]
    rfl
   ·by_cases e2:k'<k
    ·rw[if_pos e2,if_pos (by omega)]
    ·rw[if_neg e2,if_neg (by omega)]
 rintro vars hA ⟨m,⟨g,rfl⟩,gM,pm,lk,nM,FA⟩
 obtain⟨Q,hQ⟩: ∃Q,hA.next=Q:=⟨_,rfl⟩
 obtain⟨hB,eB,nB,gB,oB,fB⟩:=fC hQ (rc r λ_=> .aB)
 simp(disch:=omega)only[go_sem,H.aF (gD1 hA FA),lvC,mks_nils hA r (by omega),hQ,eB]
 refine aJ (λk' vars hh=> ∃(j:Nat) (ρ:Nat->Nat),(∃g:Nat->V,vars= [.ptr D 0,g 1,g 2,.mp M,g 4,g 5,g 6,.sl Q 0 r (.kn r),g 8,g 9,g 10,g 11,g 12,g 13,g 14,g 15,g 16,g 17,g 18,.int .i64 (r:Int),.int .i64 (j:Int),g 21,g 22,g 23,g 24])/\j<=r/\hh.get Q=some (.cells false (rc r λa=>if a<j then .sl (ρ a) 0 r (.kn r) else .aB))/\(∀a,a<j->Q<ρ a/\ρ a<hh.next/\hh.get (ρ a)=some (.cells false (rc r λk=> .int .i64 ((cstK G L K i a k:Nat):Int))))/\Fr hA hh/\Q<hh.next/\k'=r-j) r
  ⟨0,λ_=>0,aA rfl,gK _,by rw[gB];rfl,λa h=>by omega,fB,by omega,rfl⟩ ?_
 rintro k' vars h2 ⟨j,ρ,⟨g',rfl⟩,hj,gQ,rows,F,nQ,rfl⟩
 have F0:=FA.trans F
 by_cases hlt:(j:Int)<(r:Int)
 case neg=>
  have d1:decide ((j:Int)<(r:Int))=false:=decide_eq_false hlt;obtain rfl:j=r:=by omega
  simp(disch:=omega)only[go_sem,d1];refine⟨⟨Q,ρ,by rw[hrr],by have:=FA.next;omega,nQ,?_,by rw[hrr];exact rows⟩,F0⟩;rw[gQ,hrr];congr 2;exact bH λa ha=>by rw[if_pos ha]
 have d1:decide ((j:Int)<(r:Int))=true:=decide_eq_true hlt
 have hjr:j<r:=by omega
 obtain⟨S,hS⟩: ∃S,h2.next=S:=⟨_,rfl⟩
 obtain⟨h3,e3,n3,g3,o3,f3⟩:=fC hS (rc r λ_=> .int .i64 0)
 have gQ3:h3.get Q=some (.cells false (rc r λa=>if a<j then .sl (ρ a) 0 r (.kn r) else .aB)):=by rw[o3 Q (by omega)];exact gQ
 obtain⟨h4,e4,n4,g4,o4⟩:=uB h3 Q (rc r λa=>if a<j+1 then .sl (if a=j then S else ρ a) 0 r (.kn r) else .aB)
 have p4:dV (some (.cells false (rc r λa=>if a<j then .sl (ρ a) 0 r (.kn r) else .aB))) h3 Q j [.sl S 0 r (.kn r)]=some h4:=by
  rw[bE (by rw[cV];exact hjr),eY,←e4];congr 4;refine bH λa ha=>?_
  by_cases e:a=j
  ·rw[if_pos e,if_pos (by omega),if_pos e]
  ·rw[if_neg e]
   by_cases e2:a<j
   ·rw[if_pos e2,if_pos (by omega),if_neg e]
   ·rw[if_neg e2,if_neg (by omega)]
 have F4:Fr hA h4:=⟨by have:=F.next;omega,λq hq=>by rw[o4 q (by omega),o3 q (by omega)];exact F.get q hq⟩
 have cQ4:h4.cell Q j=some (.sl S 0 r (.kn r)):=by
  rw[H.aF g4,jC hjr,if_pos (by omega),if_pos rfl]
 simp(disch:=omega)only[go_sem,d1,H.aF (gD1 h2 F0),lvC,mks_zeros h2 r (by omega),hS,e3,gQ3,p4,cQ4]
 refine aJ (λk' vars hh=> ∃(k:Nat),(∃g:Nat->V,vars= [.ptr D 0,g 1,g 2,.mp M,g 4,g 5,g 6,.sl Q 0 r (.kn r),.int .i64 (j:Int),g 9,g 10,g 11,g 12,g 13,g 14,g 15,g 16,g 17,g 18,.int .i64 (r:Int),.int .i64 (j:Int),g 21,.int .i64 (r:Int),.int .i64 (k:Int),g 24])/\k<=r/\hh.get S=some (.cells false (rc r λa=> .int .i64 ((if a<k then cstK G L K i j a else 0:Nat):Int)))/\Fx (· =S) h4 hh/\k'=r-k) r
  ⟨0,aA rfl,gK _,by rw[o4 S (by omega),g3];rfl,Fx.refl _ _,rfl⟩ ?_
 rintro k' vars h5 ⟨k,⟨g'',rfl⟩,hk,gS,F5,rfl⟩
 have n5:=F5.next
 have gQ5:h5.get Q=some (.cells false (rc r λa=>if a<j+1 then .sl (if a=j then S else ρ a) 0 r (.kn r) else .aB)):=by rw[F5.get Q (by omega) (by show Q≠S;omega)];exact g4
 have FA5:Fr hA h5:=⟨by have:=F4.next;omega,λq hq=>by rw[F5.get q (by have:=F4.next;omega) (by show q≠S;have:=F.next;omega)];exact F4.get q hq⟩
 by_cases hlk:(k:Int)<(r:Int)
 case neg=>
  have d3:decide ((k:Int)<(r:Int))=false:=decide_eq_false hlk;obtain rfl:k=r:=by omega
  simp(disch:=omega)only[go_sem,d3];rw[show (j:Int)+1=((j+1:Nat):Int) from by omega];refine⟨k-(j+1),by omega,j+1,λa=>if a=j then S else ρ a,aA rfl,by omega,gQ5,λa ha=>?_,FA5,by omega,rfl⟩;show Q<(if a=j then S else ρ a)/\(if a=j then S else ρ a)<h5.next/\h5.get (if a=j then S else ρ a)=_
  by_cases e:a=j
  ·subst e
   rw[if_pos rfl];refine⟨by omega,by omega,?_⟩;rw[gS];congr 2;exact bH λb hb=>by rw[if_pos hb]
  ·rw[if_neg e]
   obtain⟨r1,r2,r3⟩:=rows a (by omega);exact⟨r1,by omega,by rw[F5.get _ (by omega) (by show ρ a≠S;omega),o4 _ (by omega),o3 _ (by omega)];exact r3⟩
 have d3:decide ((k:Int)<(r:Int))=true:=decide_eq_true hlk
 have hkr:k<r:=by omega
 have gM5:h5.get M=some (.wmap (.arr 2 .i64) (fA pkV m)):=by rw[FA5.get _ nM];exact gM
 have PQ:PkP (j,k):=⟨by show j<1000000;omega,by show k<1000000;omega⟩
 have lo2:=mC pkV_eq pkV_key pm PQ (.int .i64 0)
 rw[lk j k hkr] at lo2
 have lo2':xQ (some (.wmap (.arr 2 .i64) (fA pkV m))) (.arr 2 .i64) (.int .i64 0) false (V.agg [.int .i64 (j:Int),.int .i64 (k:Int)])=some (.int .i64 ((cstK G L K i j k:Nat):Int)):=lo2
 have cQ5:h5.cell Q j=some (.sl S 0 r (.kn r)):=by
  rw[H.aF gQ5,jC hjr,if_pos (by omega),if_pos rfl]
 have pS:=λhh=>bE (vs:=rc r λa=> .int .i64 ((if a<k then cstK G L K i j a else 0:Nat):Int)) (off:=k) (by rw[cV];exact hkr) hh S (.int .i64 ((cstK G L K i j k:Nat):Int))
 simp(disch:=omega)only[go_sem,d3,cQ5,bld_pk,gM5,lo2',gS,pS]
 rw[show (k:Int)+1=((k+1:Nat):Int) from by omega]
 refine⟨r-(k+1),by omega,k+1,aA rfl,by omega,?_,?_,rfl⟩
 ·rw[eY]
  congr 2
  refine bH λa ha=>?_
  by_cases e:a=k
  ·rw[if_pos e,if_pos (by omega),e]
  ·rw[if_neg e]
   by_cases e2:a<k
   ·rw[if_pos e2,if_pos (by omega)]
   ·rw[if_neg e2,if_neg (by omega)]
 ·refine (F5.trans (Fx.of (W:=(· =S)) ((Fr.refl h5).bJ (n:=h5.next+12) (by omega))) λ_ _ h=>h).trans ?_ (λ_ _ h=>h)
  exact Fx.set _ (W:=(· =S)) rfl _
set_option maxHeartbeats 32000000
theorem fold_gen (f:Nat)(cs:List V)(vl vo:V)(l:List Int)(h:H)(ll:l.length<1000000)(I:Nat->V->H->Prop)(hI: ∀i v hh,I i v hh->SI hh vl l)(h0:I 0 vo h)
  (step: ∀i v hh,i<l.length->I i v hh->Ev T f ([v,.int .i64 (i:Int),.int .i64 (l.getD i 0)]++cs) hh (λv' h'=>I (i+1) v' h')):
  Ev T 64 [vl,vo,.fn f [] cs] h (λv h'=>I l.length v h'):=by
 refine bP c_algebra_fold_int_int rfl rfl ?_
 have lv:=(hI _ _ _ h0).lens
 simp(disch:=omega)only[go_sem,c_algebra_fold_int_int,aE,lv]
 refine aJ (λk' vars hh=> ∃(i:Nat) (v:V),(∃g:Nat->V,vars= [g 0,v,.fn f [] cs,g 3,g 4,g 5,vl,.int .i64 (l.length:Int),.int .i64 (i:Int),g 9])/\i<=l.length/\I i v hh/\k'=l.length-i) l.length
  ⟨0,vo,aA rfl,gK _,h0,rfl⟩ ?_
 rintro k' vars hh ⟨i,v,⟨g,rfl⟩,hi,inv,rfl⟩
 by_cases hlt:(i:Int)<(l.length:Int)
 ·have d1:decide ((i:Int)<(l.length:Int))=true:=decide_eq_true hlt
  have hi':i<l.length:=by omega
  obtain⟨id,off,sh,hid,hc⟩:=(hI _ _ _ inv).open
  have c1:=hc i hi'
  simp(disch:=omega)only[go_sem,d1,sh.ixa,c1]
  refine (step i v hh hi' inv).mono ?_
  rintro v' h2 inv2
  simp(disch:=omega)only[go_sem]
  rw[show (i:Int)+1=((i+1:Nat):Int) from by omega]
  exact⟨l.length-(i+1),by omega,i+1,v',aA rfl,by omega,inv2,rfl⟩
 have d1:decide ((i:Int)<(l.length:Int))=false:=decide_eq_false hlt
 obtain rfl:i=l.length:=by omega
 simp(disch:=omega)only[go_sem,d1]
 exact inv
theorem mul1_ok (D S B1 B2 i:Nat)(vy:V)(n:Nat)(G:List Nat->Prop)(L:List (List Nat))(K:List Nat)(x y:List Int)(X Y:Nat)(h:H)(n7:n<=7)(hG:iL n G)(E:cX G L)(ik:IsK n G L K)(hl:L.length<=5040)(hr:K.length<=64)(d:DatO n G L K h D)
  (hx: ∀v∈x, -(X:Int)<=v/\v<=X) (hy: ∀v∈y, -(Y:Int)<=v/\v<=Y) (hXY:X*Y*5040<=4000000000000000000) (ly:y.length=K.length) (sy:SI h vy y) (hy': ∀id off m c,vy= .sl id off m c->id≠S) (hi:i<K.length)
  (g1:h.get B1=some (.cells false [.ptr D 0])) (g2:h.get B2=some (.cells false [vy])) (h1:B1<h.next) (h2:B2<h.next) (nS:S<h.next) (e1:B1≠S) (e2:B2≠S) (gS:h.get S=some (.cells false (rc K.length λk=> .int .i64 (mlS G L K x y k i 0)))):
  Ev T 96 [.sl S 0 K.length (.kn K.length),.int .i64 (i:Int),.int .i64 (x.getD i 0),.ptr B1 0,.ptr B2 0] h (λv h'=>v= .sl S 0 K.length (.kn K.length)/\h'.get S=some (.cells false (rc K.length λk=> .int .i64 (mlS G L K x y k (i+1) 0)))/\Fx (· =S) h h'):=by
 obtain⟨r,hrr⟩: ∃r,K.length=r:=⟨_,rfl⟩
 refine bP c_algebra_data_mul_1 rfl rfl ?_
 by_cases h0:x.getD i 0=0
 ·have d1:decide (x.getD i 0=0)=true:=decide_eq_true h0
  simp(disch:=omega)only[go_sem,c_algebra_data_mul_1,aE,d1]
  exact⟨by rw[gS];congr 2;exact bH λk _=>by rw[mlS_skip h0],Fx.refl _ _⟩
 have d1:decide (x.getD i 0=0)=false:=decide_eq_false h0
 simp(disch:=omega)only[go_sem,c_algebra_data_mul_1,aE,d1,H.aF g1]
 refine (consts_ok D i n G L K h n7 hG E ik hl hr d).mono ?_
 rintro vm ha ⟨⟨Q,ρ,rfl,bQ,nQ,gQ,rows⟩,fa⟩
 rw[hrr] at gS hr ly hi gQ rows
 have na:=fa.next
 have gSa:ha.get S=some (.cells false (rc r λk=> .int .i64 (mlS G L K x y k i 0))):=by rw[fa.get S nS];exact gS
 have hM:L.length*(X*Y)<=4000000000000000000:=Nat.le_trans (Nat.mul_le_mul_right _ hl) (by rw[Nat.mul_comm];exact hXY)
 have hsy:=λhh (f:Fx (· =S) ha hh)=>(show SI hh vy y from by
  have s2:=sy.mono fa;refine SV.fx s2 ?_ f
  cases vy with
  |sl q off m c=>exact λe=>hy' _ _ _ _ rfl e
  |_=>trivial)
 rw[hrr]
 simp(disch:=omega)only[go_sem]
 refine aJ (λk' vars hh=> ∃(j:Nat),(∃g:Nat->V,vars= [.sl S 0 r (.kn r),g 1,.int .i64 (x.getD i 0),g 3,.ptr B2 0,g 5,g 6,g 7,g 8,g 9,g 10,.sl Q 0 r (.kn r),.int .i64 (r:Int),.int .i64 (j:Int),g 14,g 15,g 16,g 17,g 18])/\j<=r/\hh.get S=some (.cells false (rc r λk=> .int .i64 (mlS G L K x y k i j)))/\Fx (· =S) ha hh/\k'=r-j) r
  ⟨0,aA rfl,gK _,gSa,Fx.refl _ _,rfl⟩ ?_
 rintro k' vars hb ⟨j,⟨g,rfl⟩,hj,gSb,Fb,rfl⟩
 have nb:=Fb.next
 by_cases hlt:(j:Int)<(r:Int)
 case neg=>
  have d2:decide ((j:Int)<(r:Int))=false:=decide_eq_false hlt;obtain rfl:j=r:=by omega
  simp(disch:=omega)only[go_sem,d2];refine⟨?_,⟨by omega,λid h1 h2=>by rw[Fb.get id (by omega) h2,fa.get id h1]⟩⟩;rw[gSb];congr 2;exact bH λk hk=>by rw[←hrr,mlS_row (λa ha=>quK_lt hG E ik ha (by omega))]
 have d2:decide ((j:Int)<(r:Int))=true:=decide_eq_true hlt
 have hjr:j<r:=by omega
 obtain⟨rq,rn,rg⟩:=rows j hjr
 have cQ:hb.cell Q j=some (.sl (ρ j) 0 r (.kn r)):=by
  rw[Fb.cell nQ (by show Q≠S;omega),H.aF gQ,jC hjr]
 simp(disch:=omega)only[go_sem,d2,cQ]
 refine aJ (λk' vars hh=> ∃(k:Nat),(∃g:Nat->V,vars= [.sl S 0 r (.kn r),g 1,.int .i64 (x.getD i 0),g 3,.ptr B2 0,g 5,.int .i64 (j:Int),g 7,g 8,g 9,g 10,.sl Q 0 r (.kn r),.int .i64 (r:Int),.int .i64 (j:Int),g 14,.sl (ρ j) 0 r (.kn r),.int .i64 (r:Int),.int .i64 (k:Int),g 18])/\k<=r/\hh.get S=some (.cells false (rc r λa=> .int .i64 (mlS G L K x y a i (if a<k then j+1 else j))))/\Fx (· =S) ha hh/\k'=r-k) r
  ⟨0,aA rfl,gK _,gSb,Fb,rfl⟩ ?_
 rintro k' vars hc ⟨k,⟨g',rfl⟩,hk,gSc,Fc,rfl⟩
 have nc:=Fc.next
 by_cases hlk:(k:Int)<(r:Int)
 case neg=>
  have d3:decide ((k:Int)<(r:Int))=false:=decide_eq_false hlk;obtain rfl:k=r:=by omega
  simp(disch:=omega)only[go_sem,d3];rw[show (j:Int)+1=((j+1:Nat):Int) from by omega];refine⟨k-(j+1),by omega,j+1,aA rfl,by omega,?_,Fc,rfl⟩;rw[gSc];congr 2;exact bH λa ha=>by rw[if_pos ha]
 have d3:decide ((k:Int)<(r:Int))=true:=decide_eq_true hlk
 have hkr:k<r:=by omega
 have cR:hc.cell (ρ j) k=some (.int .i64 ((cstK G L K i j k:Nat):Int)):=by
  rw[Fc.cell rn (by show ρ j≠S;omega),H.aF rg,jC hkr]
 have cS:hc.cell S k=some (.int .i64 (mlS G L K x y k i j)):=by
  rw[H.aF gSc,jC hkr,if_neg (by omega)]
 have cB:hc.cell B2 0=some vy:=by
  rw[Fc.cell (by omega) (by show B2≠S;omega),fa.cell h2,H.aF g2];rfl
 obtain⟨idy,offy,shy,hidy,hcy⟩:=(hsy hc Fc).open
 rw[ly] at shy hidy hcy
 have cY:=hcy j hjr
 have b1:=mul_bound (at_bound hx i) (at_bound hy j)
 have b2:=mlS_bound (G:=G) (L:=L) (K:=K) hx hy k i j
 have b3:=mlS_bound (G:=G) (L:=L) (K:=K) hx hy k i (j+1)
 rw[mlS_step] at b3
 have hXYs:X*Y<=L.length*(X*Y):=Nat.le_mul_of_pos_left _ (by have:=ik.lt (getD_mem (d:=0) (show 0<K.length by omega));omega)
 obtain⟨u,hu⟩: ∃u,x.getD i 0*y.getD j 0=u:=⟨_,rfl⟩
 obtain⟨w,hw⟩: ∃w,u*((cstK G L K i j k:Nat):Int)=w:=⟨_,rfl⟩
 obtain⟨s,hs⟩: ∃s,mlS G L K x y k i j=s:=⟨_,rfl⟩
 rw[hu,hs] at b3
 rw[hu] at b1
 rw[hs] at b2 cS
 rw[hw] at b3
 have pS:=λhh=>bE (vs:=rc r λa=> .int .i64 (mlS G L K x y a i (if a<k then j+1 else j))) (off:=k) (by rw[cV];exact hkr) hh S (.int .i64 (s+w))
 simp(disch:=omega)only[go_sem,d3,cR,cS,cB,shy.ixa,cY,hu,hw,gSc,pS]
 rw[show (k:Int)+1=((k+1:Nat):Int) from by omega]
 refine⟨r-(k+1),by omega,k+1,aA rfl,by omega,?_,?_,rfl⟩
 ·rw[eY]
  congr 2
  refine bH λa ha=>?_
  by_cases e:a=k
  ·rw[if_pos e,if_pos (by omega),e,mlS_step,hu,hs,hw]
  ·rw[if_neg e]
   by_cases e2:a<k
   ·rw[if_pos e2,if_pos (by omega)]
   ·rw[if_neg e2,if_neg (by omega)]
 ·refine (Fc.trans (Fx.of (W:=(· =S)) ((Fr.refl hc).bJ (n:=hc.next+15) (by omega))) λ_ _ h=>h).trans ?_ (λ_ _ h=>h)
  exact Fx.set _ (W:=(· =S)) rfl _
structure RowO (b r:Nat)(f:Nat->Int)(hh:H)(v:V):Prop where
 ex: ∃S,v= .sl S 0 r (.kn r)/\b<=S/\S<hh.next/\hh.get S=some (.cells false (rc r λk=> .int .i64 (f k)))
theorem RowO.si {b r:Nat}{f:Nat->Int}{hh:H}{v:V}(o:RowO b r f hh v):SI hh v ((List.range r).map f):=by
 obtain⟨S,rfl,_,nS,gS⟩:=o.ex
 have e:(rc r λk=>V.int .i64 (f k))=ints ((List.range r).map f):=by
  simp [rc,ints,Function.comp_def]
 rw[e] at gS;exact SV.all (by rw[aN,jS,List.length_range,Nat.mul_one]) nS gS _
theorem mul_ok (D:Nat)(vx vy:V)(n:Nat)(G:List Nat->Prop)(L:List (List Nat))(K:List Nat)(x y:List Int)(X Y:Nat)(h:H)(n7:n<=7)(hG:iL n G)(E:cX G L)(ik:IsK n G L K)(hl:L.length<=5040)(hr:K.length<=64)(d:DatO n G L K h D)
  (hx: ∀v∈x, -(X:Int)<=v/\v<=X) (hy: ∀v∈y, -(Y:Int)<=v/\v<=Y) (hXY:X*Y*5040<=4000000000000000000) (lx:x.length=K.length) (ly:y.length=K.length) (sx:SI h vx x) (sy:SI h vy y):
  Ev T 60 [.ptr D 0,vx,vy] h (λv h'=>RowO h.next K.length (mlF G L K x y) h' v/\Fr h h'):=by
 refine bP c_algebra_data_mul rfl rfl ?_
 obtain⟨vL,vC,Mn,ln,ks,gD,hD,hMn,sL,sC,al,gMn,kln,lkn⟩:=d.ex
 have lvC:=(cls_open (by omega) sC al).1
 obtain⟨B,hB⟩: ∃B,h.next=B:=⟨_,rfl⟩
 obtain⟨h1,e1,n1,g1,o1,f1⟩:=fC hB [.ptr D 0]
 obtain⟨h2,e2,n2,g2,o2,f2⟩:=fC n1 [vy]
 obtain⟨h3,e3,n3,g3,o3,f3⟩:=fC n2 (rc K.length λ_=> .int .i64 0)
 have wy:=SV.cW sy
 have F2:=f1.trans f2
 have F3:=F2.trans f3
 have gB2:h2.get B=some (.cells false [.ptr D 0]):=by rw[o2 B (by omega)];exact g1
 have gD2:h2.get D=some (.cells false [vL,vC,.mp Mn]):=by rw[F2.get _ hD];exact gD
 have gB3:h3.get B=some (.cells false [.ptr D 0]):=by rw[o3 B (by omega)];exact gB2
 have gC3:h3.get (B+1)=some (.cells false [vy]):=by rw[o3 (B+1) (by omega)];exact g2
 have b1:=iW (x:= .ptr D 0) rfl rfl h
 have b2:=iW wy.1 wy.2.1 h1
 simp(disch:=omega)only[go_sem,c_algebra_data_mul,aE,b1,hB,e1,b2,n1,e2,H.aF gB2,H.aF gD2,lvC,mks_zeros h2 K.length (by omega),n2,e3]
 have hsx:=SV.in sx
 have hsy:=SV.in sy
 refine (fold_gen _ [.ptr B 0,.ptr (B+1) 0] vx (.sl (B+1+1) 0 K.length (.kn K.length)) x h3 (by omega) (λi v hh=>v= .sl (B+1+1) 0 K.length (.kn K.length)/\hh.get (B+1+1)=some (.cells false (rc K.length λk=> .int .i64 (mlS G L K x y k i 0)))/\Fx (· =B+1+1) h3 hh) ?_ ?_ ?_).mono ?_
 ·rintro i v hh ⟨_,_,F⟩
  refine SV.fx (sx.mono F3) ?_ F
  cases vx with
  |sl q off m c=>exact λe=>by have:=hsx _ _ _ _ rfl;omega
  |_=>trivial
 ·exact⟨rfl,by rw[g3];congr 2;exact bH λk _=>by rw[mlS_zero],Fx.refl _ _⟩
 ·rintro i v hh hi ⟨rfl,gS,F⟩
  have nF:=F.next
  have gg: ∀id,id<B+1+1->hh.get id=h3.get id:=λid h1=>F.get id (by omega) (by show id≠B+1+1;omega)
  have F0:Fr h hh:=⟨by omega,λq hq=>by rw[gg q (by omega)];exact F3.get q hq⟩
  refine (mul1_ok D (B+1+1) B (B+1) i vy n G L K x y X Y hh n7 hG E ik hl hr (d.mono F0) hx hy hXY ly (sy.mono F0) (λid off m c e=>by have:=hsy _ _ _ _ e;omega) (by omega) (by rw[gg _ (by omega)];exact gB3) (by rw[gg _ (by omega)];exact gC3) (by omega) (by omega) (by omega) (by omega) (by omega) gS).mono ?_
  rintro v' h' ⟨rfl,g',f'⟩
  exact⟨rfl,g',F.trans f' λ_ _ h=>h⟩
 ·rintro v h4 ⟨rfl,gS,F⟩
  have nF:=F.next
  simp(disch:=omega)only[go_sem]
  refine⟨⟨B+1+1,rfl,by omega,by omega,?_⟩,⟨by omega,λq hq=>by rw[F.get q (by omega) (by show q≠B+1+1;omega)];exact F3.get q hq⟩⟩
  rw[gS]
  congr 2
  exact bH λk _=>by rw[lx,mlS_end λa ha=>(numC_ok hG E ik ha).1]
set_option maxHeartbeats 16000000
noncomputable def cstM (G:List Nat->Prop)(L:List (List Nat))(K:List Nat)(i:Nat):List (List Int):=(List.range K.length).map λj=>zi ((List.range K.length).map (cstK G L K i j))
theorem const_ok {W0:Nat->Prop}(vc:V)(z:Int)(n:Nat)(O:List (List Nat))(R:List (List (List Nat)))(G:List Nat->Prop)(h:H)(gc:GC W0 h vc n O R G)(L:List (List Nat))(hL:cU O R n 0 (aW n)=L):
  Ev T 23 [vc,.int .i64 z] h (λv h'=> ∃K,IsK n G L K/\Fr h h'/\(64<K.length/\v= .tup [.aB,.int .i64 5]∨K.length<=64/\((z<0∨(K.length:Int)<=z)/\v= .tup [.aB,.int .i64 2]∨ ∃(i:Nat) (vl:V),z=(i:Int)/\i<K.length/\v= .tup [vl,.int .i64 0]/\SR h' vl (cstM G L K i)))):=by
 have gc0:=gc
 obtain⟨vO,vR,rfl,sO,sR⟩:=gc.ch
 refine bP c_algebra_Constants rfl rfl ?_
 have oneO:vO.one=true:=by obtain⟨_,t,_⟩:=sO;exact t.cW.2.1
 have oneR:vR.one=true:=by obtain⟨_,t,_⟩:=sR;exact t.cW.2.1
 obtain⟨E,ll⟩:=fQ gc.grp gc.isc
 have ll5:=szF_fact gc
 rw[hL] at E ll
 obtain⟨B,hB⟩: ∃B,h.next=B:=⟨_,rfl⟩
 obtain⟨h1,e1,n1,g1,o1,f1⟩:=fC hB [.int .i64 (n:Int),vO,vR]
 have bx:=dQ h (v:= .int .i64 (n:Int)) (u:=vO) (w:=vR) rfl oneO oneR
 simp(disch:=omega)only[go_sem,c_algebra_Constants,aE,bx,hB,e1,bU g1]
 refine (load_ok _ n O R G h1 (gc0.mono f1) L hL).mono ?_
 rintro _ h2 ⟨K,ik,f2,⟨k64,rfl⟩|⟨k64,D,rfl,dat⟩⟩
 ·simp(disch:=omega)only[go_sem]
  refine bD (λ_=>?_) (λhc=>(hc (by decide)).elim)
  simp(disch:=omega)only[go_sem]
  exact⟨K,ik,f1.trans f2,.inl ⟨k64,trivial⟩⟩
 simp(disch:=omega)only[go_sem]
 refine bD (λhc=>(hc rfl).elim) (λ_=>?_)
 obtain⟨vL,vC,Mn,ln,ks,gD,hD,hMn,sL,sC,al,gMn,kln,lkn⟩:=dat.ex
 have lvC:=(cls_open (by omega) sC al).1
 by_cases hz:z<0
 ·have d1:decide (z<0)=true:=decide_eq_true hz
  simp(disch:=omega)only[go_sem,d1,vY]
  exact⟨K,ik,f1.trans f2,.inr ⟨k64,.inl ⟨.inl hz,trivial⟩⟩⟩
 have d1:decide (z<0)=false:=decide_eq_false hz
 by_cases hk:(K.length:Int)<=z
 ·have d2:decide ((K.length:Int)<=z)=true:=decide_eq_true hk
  simp(disch:=omega)only[go_sem,d1,H.aF gD,lvC,d2]
  exact⟨K,ik,f1.trans f2,.inr ⟨k64,.inl ⟨.inr hk,trivial⟩⟩⟩
 have d2:decide ((K.length:Int)<=z)=false:=decide_eq_false hk
 obtain⟨i,rfl⟩: ∃i:Nat,z=(i:Int):=⟨z.toNat,by omega⟩
 simp(disch:=omega)only[go_sem,d1,H.aF gD,lvC,d2]
 refine (consts_ok D i n G L K h2 gc.n7 gc.grp E ik (by omega) k64 dat).mono ?_
 rintro vl h3 ⟨s3,f3⟩
 simp(disch:=omega)only[go_sem]
 exact⟨K,ik,(f1.trans f2).trans f3,.inr ⟨k64,.inr ⟨i,vl,rfl,by omega,rfl,s3.sr⟩⟩⟩
end Go.Proofs.YtapfcpkecmmagaaGreat
