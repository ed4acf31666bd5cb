/- Texts of the claim. -/
import Derived.Test.YtddpkbicnolafaaGreatP4atoSc2
import Derived.Test.YtddpkbicnolafaaGreatDp2toSm
import Derived.Test.YtddpkbicnolafaaGreatP5a
set_option maxHeartbeats 32000000
namespace Go.Proofs.YtddpkbicnolafaaGreat.Cls
open Go Go.Ay Go.Sort
set_option maxRecDepth 100000
theorem dV.RZ  {α:Type} [Inhabited α] [O:bN α] {h h':H} {S N R:Nat} {d:Array α} (A:dV h S N d) (f:Fx (· =R) h h') (hR:R≠S) (hRb:bN.b0 α<=R):dV h' S N d:=⟨by rw [f.get S A.lt (λ e=>hR e.symm)];exact A.get,A.size,mM A.lt f.next,A.eqS,O.bR _ _ _ A.base hRb f,A.all⟩
theorem Jl  {α:Type} [Inhabited α] [O:bN α] (h:H) (S N a b:Nat) (d:Array α) (cp:uO) (hN:N<1000000) (A:dV h S N d) (hb:b<=N) (hab:a<b):
  Ev T lM [.sl S 0 N cp,aB a,aB b,.fn (bN.f α) [] []] h (λ _ h'=>dV h' S N (reverseRange d a b)/\Fx (· =S) h h'):=by
 refine aZ lW rfl ?_
 have eb:(b:Int)- 1=((b- 1:Nat):Int):=by omega
 simp (disch:=omega) only [go_sem,cW,aF,eb]
 refine aJ (λ k' vars hh=> ∃ (i j:Nat) (e:Array α),(∃ g:Nat->V,vars= [.sl S 0 N cp,aB a,aB b,aB i,aB j,g 5])/\j<b/\i<=b/\dV hh S N e/\reverseLoop i j e=reverseLoop a (b- 1) d/\Fx (· =S) h hh/\k'=j) (b- 1)
  ⟨a,b- 1,d,aA rfl,by omega,by omega,A,rfl,Fx.refl _ h,rfl⟩ ?_
 clear A
 rintro k' vars h1 ⟨i,j,e,⟨g,rfl⟩,hj,hi,A,hR,F,hk⟩
 subst hk
 have sz:=A.size
 rw [reverseLoop] at hR
 by_cases hlt:(i:Int)<(k':Int)
 ·have e1:=mG hlt
  rw [if_pos (by omega)] at hR
  have c1:=A.rd (i:=i) (by omega)
  have c2:=A.rd (i:=k') (by omega)
  simp (disch:=omega) only [go_sem,e1,c1,c2,A.get,bX,bL]
  have W:=A.swap (i:=i) (j:=k') (nx:=h1.next+16) (by omega) rfl
  rw [show (i:Int)+1=((i+1:Nat):Int) from by omega,show (k':Int)- 1=((k'- 1:Nat):Int) from by omega]
  exact ⟨k'- 1,by omega,i+1,k'- 1,_,aA rfl,by omega,by omega,W.1,hR,gI F W.2,rfl⟩
 have e1:=gJ hlt
 rw [if_neg (by omega)] at hR
 simp (disch:=omega) only [go_sem,e1]
 unfold reverseRange
 rw [←hR]
 exact ⟨A,F⟩
theorem Si (n:Nat) {k:Int} {m:Nat} (hk:k=(m:Int)):(n:Int).tdiv k=((n/m:Nat):Int):=by
 rw [hk,Int.tdiv_eq_ediv_of_nonneg (by omega)];rfl
theorem Ru  {α:Type} [Inhabited α] [O:bN α] (h:H) (S N a b:Nat) (d:Array α) (cp:uO) (hN:N<60000) (A:dV h S N d) (hb:b<=N) (hab:a<=b):
  Ev T lF [.sl S 0 N cp,aB a,aB b,.fn (bN.f α) [] []] h (λ _ h'=> ∃ e,dV h' S N e/\PermIn a b d e/\Fx (· =S) h h'):=by
 refine aZ lJ rfl ?_
 obtain ⟨n,hn⟩: ∃ n,b-a=n:=⟨_,rfl⟩
 have en:(b:Int)-(a:Int)=(n:Int):=by omega
 by_cases h8:(8:Int)<=(n:Int)
 case neg=>
  have e8:decide ((8:Int)<=(n:Int))=false:=decide_eq_false h8
  simp (disch:=omega) only [go_sem,bU,aF,en,e8]
  exact ⟨d,A,permIn_refl d a b,Fx.refl _ h⟩
 have e8:decide ((8:Int)<=(n:Int))=true:=decide_eq_true h8
 have e4:=Si n (k:=4) (m:=4) rfl
 obtain ⟨q,hq⟩: ∃ q,n/4=q:=⟨_,rfl⟩
 rw [hq] at e4
 have ei:(a:Int)+(q:Int)*2- 1=((a+q*2- 1:Nat):Int):=by omega
 have ej:(a:Int)+(q:Int)*2+1=((a+q*2+1:Nat):Int):=by omega
 have hp:=two_pow_bitsLen_le (show 0<n by omega)
 have hp1:=lt_two_pow_bitsLen n
 obtain ⟨m,hm⟩: ∃ m,2^bitsLen n=m:=⟨_,rfl⟩
 rw [hm] at hp hp1
 obtain ⟨R,hR⟩: ∃ R,h.next=R:=⟨_,rfl⟩
 have hRS:R≠S:=by have:=A.lt;omega
 have hRb:bN.b0 α<=R:=by have:=O.bn _ A.base;omega
 have pt0: ∀ hh:H,fI (bQ [.int .u64 0]) hh R 0 [.int .u64 (n:Int)]=some (hh.set R (bQ [.int .u64 (n:Int)])):=λ hh=>bT (by simp) hh R _
 have gnew:(h.new (.cells false [.int .u64 0])).get R=bQ [.int .u64 0]:=by rw [←hR,H.aQ]
 simp (disch:=omega) only [go_sem,bU,aF,en,e8,hR,fT (n:=(n:Int)) (by omega) (by omega),gnew,pt0]
 obtain ⟨h1,h1e⟩: ∃ h1,h1=(h.new (.cells false [.int .u64 0])).set R (bQ [.int .u64 (n:Int)]):=⟨_,rfl⟩
 rw [←h1e]
 have g1:h1.get R=bQ [.int .u64 (n:Int)]:=by rw [h1e,H.aW]
 have n1:h1.next=R+1:=by rw [h1e,H.cG,H.bD,hR]
 have f1:Fr h h1:=by rw [h1e];exact ((Fr.refl h).new _).set (by omega) _
 clear h1e
 refine (NG n h1 (by omega)).mono ?_
 rintro _ h1' ⟨rfl,hh⟩
 rw [hh,hm]
 simp (disch:=omega) only [go_sem,e4,ei]
 refine aJ (λ k' vars hh=> ∃ (i:Nat) (e:Array α) (x:Int),(∃ g:Nat->V,vars= [.sl S 0 N cp,aB a,aB b,aB n,.ptr R 0,.int .u64 (m:Int),aB i,g 7,g 8,g 9,g 10])/\a<=i/\i<=a+q*2+2/\dV hh S N e/\PermIn a b d e/\hh.get R=bQ [.int .u64 x]/\R<hh.next/\Fx (· =S) h hh/\k'=a+q*2+2-i) (a+q*2+2-(a+q*2- 1))
  ⟨a+q*2- 1,d,_,aA rfl,by omega,by omega,A.fr f1,permIn_refl d a b,g1,by omega,Fx.of f1,rfl⟩ ?_
 clear A g1 n1 f1 hh h1
 rintro k' vars h1 ⟨i,e,x,⟨g,rfl⟩,hi1,hi2,A,hP,gR,nR,F,rfl⟩
 by_cases hlt:(i:Int)<=((a+q*2+1:Nat):Int)
 case neg=>
  have e1:decide ((i:Int)<=((a+q*2+1:Nat):Int))=false:=decide_eq_false hlt
  simp (disch:=omega) only [go_sem,e4,ej,e1]
  exact ⟨e,A,hP,F⟩
 have e1:decide ((i:Int)<=((a+q*2+1:Nat):Int))=true:=decide_eq_true hlt
 simp (disch:=omega) only [go_sem,e4,ej,e1]
 refine (OI R x h1 gR nR).mono ?_
 rintro _ h2 ⟨y,rfl,gR2,F2⟩
 have A2:=A.RZ F2 hRS hRb
 obtain ⟨w,hw,hwm⟩:=NO y (m- 1) (by omega)
 have em:(m:Int)- 1=((m- 1:Nat):Int):=by omega
 have sz:=A2.size
 have F2':Fx (· =S) h h2:=⟨Nat.le_trans F.next F2.next,λ id h3 h4=>(F2.get id (mM h3 F.next) (λ e=>by have:id=R:=e;omega)).trans (F.get id h3 h4)⟩
 have nR2:R<h2.next:=mM nR F2.next
 by_cases hge:(n:Int)<=(w:Int)
 ·have e2:decide ((n:Int)<=(w:Int))=true:=decide_eq_true hge
  have e3:(w:Int)-(n:Int)=((w-n:Nat):Int):=by omega
  have e5:(a:Int)+((w-n:Nat):Int)=((a+(w-n):Nat):Int):=by omega
  have c1:=A2.rd (i:=i) (by omega)
  have c2:=A2.rd (i:=a+(w-n)) (by omega)
  simp (disch:=omega) only [go_sem,em,fT (n:=((m- 1:Nat):Int)) (by omega) (by omega),hw,e2,e3,e5,c1,c2,A2.get,bX,bL]
  have W:=A2.swap (i:=i) (j:=a+(w-n)) (nx:=h2.next+20) (by omega) rfl
  rw [iJ i]
  refine ⟨a+q*2+2-(i+1),by omega,i+1,_,y,aA rfl,by omega,by omega,W.1,permIn_trans _ _ _ a b hP (swp_permIn e a b i (a+(w-n)) hi1 (by omega) (by omega) (by omega) (by omega)),?_,mM nR2 W.2.next,gI F2' W.2,rfl⟩
  exact gR2
 ·have e2:decide ((n:Int)<=(w:Int))=false:=decide_eq_false hge
  have e5:(a:Int)+(w:Int)=((a+w:Nat):Int):=by omega
  have c1:=A2.rd (i:=i) (by omega)
  have c2:=A2.rd (i:=a+w) (by omega)
  simp (disch:=omega) only [go_sem,em,fT (n:=((m- 1:Nat):Int)) (by omega) (by omega),hw,e2,e5,c1,c2,A2.get,bX,bL]
  have W:=A2.swap (i:=i) (j:=a+w) (nx:=h2.next+20) (by omega) rfl
  rw [iJ i]
  refine ⟨a+q*2+2-(i+1),by omega,i+1,_,y,aA rfl,by omega,by omega,W.1,permIn_trans _ _ _ a b hP (swp_permIn e a b i (a+w) hi1 (by omega) (by omega) (by omega) (by omega)),?_,mM nR2 W.2.next,gI F2' W.2,rfl⟩
  exact gR2
structure IN (h h':H) (R:Nat):Prop where
 get: ∃ s,h'.get R=bQ [aB s]
 fx:Fx (· =R) h h'
theorem IN.trans {a b c:H} {R:Nat} (x:IN a b R) (y:IN b c R):IN a c R:=⟨y.get,x.fx.trans y.fx λ _ _ h=>h⟩
theorem sJ  {α:Type} [Inhabited α] [O:bN α] (h:H) (S N a b R:Nat) (d:Array α) (cp:uO) (hN:N<1000000) (A:dV h S N d) (ha:a<N) (hb:b<N) (hR:R≠S) (hRn:R<h.next) (hRb:bN.b0 α<=R) (s:Int) (gR:h.get R=bQ [aB s]):
  Ev T oP [.sl S 0 N cp,aB a,aB b,.ptr R 0,.fn (bN.f α) [] []] h (λ v h'=>(v= .tup [aB a,aB b]∨v= .tup [aB b,aB a])/\IN h h' R):=by
 refine aZ oW rfl ?_
 have c1:=A.rd (i:=a) (by omega)
 have c2:=A.rd (i:=b) (by omega)
 simp (disch:=omega) only [go_sem,dL,aF,c1,c2]
 refine (kO A (i:=b) (j:=a) (by omega) (by omega) _ (by omega)).mono ?_
 rintro _ h2 ⟨z,rfl,hz,fh2⟩
 have f2:Fr h h2:=Fr.trans ((Fr.refl h).bF (by omega)) fh2
 have gR2:h2.get R=bQ [aB s]:=by rw [f2.get R hRn];exact gR
 cases hl:bN.lt d[b]! d[a]! with
 |false=>
  simp (disch:=omega) only [go_sem,hz,hl]
  exact ⟨.inl trivial,⟨s,gR2⟩,Fx.of f2⟩
 |true=>
  have cR:h2.cell R 0=some (aB s):=by rw [H.aG gR2];rfl
  have pt: ∀ (w:Int) (hh:H),fI (bQ [aB s]) hh R 0 [aB w]=some (hh.set R (bQ [aB w])):=λ w hh=>bT (by simp) hh R _
  simp (disch:=omega) only [go_sem,hz,hl,cR,gR2,pt]
  exact ⟨.inr trivial,⟨_,by rw [H.aW]⟩,(Fx.of (W:=(· =R)) f2).trans (Fx.set h2 (W:=(· =R)) rfl _) (λ _ _ h=>h)⟩
theorem zQ  {α:Type} [Inhabited α] [O:bN α] (h:H) (S N a b c R:Nat) (d:Array α) (cp:uO) (hN:N<1000000) (A:dV h S N d) (ha:a<N) (hb:b<N) (hc:c<N) (hR:R≠S) (hRn:R<h.next) (hRb:bN.b0 α<=R) (s:Int) (gR:h.get R=bQ [aB s]):
  Ev T iM [.sl S 0 N cp,aB a,aB b,aB c,.ptr R 0,.fn (bN.f α) [] []] h (λ v h'=>(∃ m,v= aB (m:Nat)/\(m=a∨m=b∨m=c))/\IN h h' R):=by
 refine aZ oQ rfl ?_
 simp (disch:=omega) only [go_sem,dK,aF]
 refine (sJ h S N a b R d cp hN A ha hb hR hRn hRb s gR).mono ?_
 rintro v1 h1 ⟨hv1,C1⟩
 obtain ⟨x1,y1,rfl,hx1,hy1,hxy1⟩: ∃ x y,v1= .tup [aB (x:Nat),aB (y:Nat)]/\x<N/\y<N/\((x=a∨x=b)/\(y=a∨y=b)):=by
  rcases hv1 with rfl|rfl
  ·exact ⟨a,b,rfl,ha,hb,.inl rfl,.inr rfl⟩
  ·exact ⟨b,a,rfl,hb,ha,.inr rfl,.inl rfl⟩
 have A1:=A.RZ C1.fx hR hRb
 obtain ⟨s1,g1⟩:=C1.get
 have n1:=mM hRn C1.fx.next
 simp (disch:=omega) only [go_sem]
 refine (sJ h1 S N y1 c R d cp hN A1 hy1 hc hR n1 hRb s1 g1).mono ?_
 rintro v2 h2 ⟨hv2,C2⟩
 obtain ⟨x2,y2,rfl,hx2,hxy2⟩: ∃ x y,v2= .tup [aB (x:Nat),aB (y:Nat)]/\x<N/\(x=y1∨x=c):=by
  rcases hv2 with rfl|rfl
  ·exact ⟨y1,c,rfl,hy1,.inl rfl⟩
  ·exact ⟨c,y1,rfl,hc,.inr rfl⟩
 have A2:=A1.RZ C2.fx hR hRb
 obtain ⟨s2,g2⟩:=C2.get
 have n2:=mM n1 C2.fx.next
 simp (disch:=omega) only [go_sem]
 refine (sJ h2 S N x1 x2 R d cp hN A2 hx1 hx2 hR n2 hRb s2 g2).mono ?_
 rintro v3 h3 ⟨hv3,C3⟩
 have C:=(C1.trans C2).trans C3
 rcases hv3 with rfl|rfl
 ·simp (disch:=omega) only [go_sem]
  exact ⟨⟨x2,rfl,by omega⟩,C⟩
 ·simp (disch:=omega) only [go_sem]
  exact ⟨⟨x1,rfl,by omega⟩,C⟩
theorem pN  {α:Type} [Inhabited α] [O:bN α] (h:H) (S N a R:Nat) (d:Array α) (cp:uO) (hN:N<1000000) (A:dV h S N d) (h0:0<a) (ha:a+1<N) (hR:R≠S) (hRn:R<h.next) (hRb:bN.b0 α<=R) (s:Int) (gR:h.get R=bQ [aB s]):
  Ev T kZ [.sl S 0 N cp,aB a,.ptr R 0,.fn (bN.f α) [] []] h (λ v h'=>(∃ m,v= aB (m:Nat)/\(m=a- 1∨m=a∨m=a+1))/\IN h h' R):=by
 refine aZ kW rfl ?_
 have e1:(a:Int)- 1=((a- 1:Nat):Int):=by omega
 have e2:(a:Int)+1=((a+1:Nat):Int):=by omega
 simp (disch:=omega) only [go_sem,cK,aF,e1,e2]
 refine (zQ h S N (a- 1) a (a+1) R d cp hN A (by omega) (by omega) (by omega) hR hRn hRb s gR).mono ?_
 rintro _ h2 ⟨⟨m,rfl,hm⟩,C⟩
 simp (disch:=omega) only [go_sem]
 exact ⟨⟨m,rfl,hm⟩,C⟩
theorem Rf  {α:Type} [Inhabited α] [O:bN α] (h:H) (S N a b:Nat) (d:Array α) (cp:uO) (hN:N<1000000) (A:dV h S N d) (hb:b<=N) (hab:a<b):
  Ev T mI [.sl S 0 N cp,aB a,aB b,.fn (bN.f α) [] []] h (λ v h'=> ∃ (p:Nat) (t:Int),v= .tup [aB p,aB t]/\a<=p/\p<b/\Fr h h'):=by
 refine aZ mK rfl ?_
 obtain ⟨n,hn⟩: ∃ n,b-a=n:=⟨_,rfl⟩
 have en:(b:Int)-(a:Int)=(n:Int):=by omega
 have e4:=Si n (k:=4) (m:=4) rfl
 obtain ⟨q,hq⟩: ∃ q,n/4=q:=⟨_,rfl⟩
 rw [hq] at e4
 have ei:(a:Int)+(q:Int)*1=((a+q:Nat):Int):=by omega
 have ej:(a:Int)+(q:Int)*2=((a+q*2:Nat):Int):=by omega
 have ek:(a:Int)+(q:Int)*3=((a+q*3:Nat):Int):=by omega
 obtain ⟨R,hR⟩: ∃ R,h.next=R:=⟨_,rfl⟩
 have hRS:R≠S:=by have:=A.lt;omega
 have hRb:bN.b0 α<=R:=by have:=O.bn _ A.base;omega
 obtain ⟨h1,h1e⟩: ∃ h1,h1=h.new (.cells false [aB 0]):=⟨_,rfl⟩
 have g1:h1.get R=bQ [aB 0]:=by rw [h1e,←hR,H.aQ]
 have n1:h1.next=R+1:=by rw [h1e,H.bD,hR]
 have f1:Fr h h1:=by rw [h1e];exact (Fr.refl h).new _
 have A1:=A.fr f1
 have fin: ∀ (p:Nat) (h2:H),a<=p->p<b->Fx (· =R) h1 h2->a<=p/\p<b/\Fr h h2:=λ p h2 x1 x2 x3=>⟨x1,x2,Nat.le_trans f1.next x3.next,λ id hid=>(x3.get id (by omega) (λ e=>by have:id=R:=e;omega)).trans (f1.get id hid)⟩
 by_cases h8:(8:Int)<=(n:Int)
 case neg=>
  have e8:decide ((8:Int)<=(n:Int))=false:=decide_eq_false h8
  simp (disch:=omega) only [go_sem,bH,aF,en,e4,ei,ej,ek,e8]
  rw [←h1e]
  have cR:h1.cell R 0=some (aB 0):=by rw [H.aG g1];rfl
  simp (disch:=omega) only [go_sem,hR,cR]
  refine aY (λ _=>?_) (λ hc=>(hc (by trivial)).elim)
  simp (disch:=omega) only [go_sem]
  exact ⟨a+q*2,1,rfl,fin _ _ (by omega) (by omega) (Fx.refl _ _)⟩
 have e8:decide ((8:Int)<=(n:Int))=true:=decide_eq_true h8
 have last: ∀ (i j k:Nat) (h2:H) (s2:Int),a<=i->i<b->a<=j->j<b->a<=k->k<b->dV h2 S N d->h2.get R=bQ [aB s2]->R<h2.next->Fx (· =R) h1 h2->
   Ev T iM [.sl S 0 N cp,aB i,aB j,aB k,.ptr R 0,.fn (bN.f α) [] []] h2 (λ v h'=> ∃ p s3,v= aB (p:Nat)/\a<=p/\p<b/\h'.get R=bQ [aB s3]/\Fr h h'):=by
  intro i j k h2 s2 i1 i2 j1 j2 k1 k2 A2 g2 n2 F2
  refine (zQ h2 S N i j k R d cp hN A2 (by omega) (by omega) (by omega) hRS n2 hRb s2 g2).mono ?_
  rintro _ h3 ⟨⟨p,rfl,hp⟩,⟨s3,g3⟩,F3⟩
  exact ⟨p,s3,rfl,by omega,by omega,g3,(fin p h3 (by omega) (by omega) (F2.trans F3 λ _ _ h=>h)).2.2⟩
 by_cases h50:(50:Int)<=(n:Int)
 case neg=>
  have e50:decide ((50:Int)<=(n:Int))=false:=decide_eq_false h50
  simp (disch:=omega) only [go_sem,bH,aF,en,e4,ei,ej,ek,e8,e50]
  rw [←h1e]
  simp (disch:=omega) only [go_sem,hR]
  refine (last (a+q) (a+q*2) (a+q*3) h1 0 (by omega) (by omega) (by omega) (by omega) (by omega) (by omega) A1 g1 (by omega) (Fx.refl _ _)).mono ?_
  rintro _ h3 ⟨p,s3,rfl,p1,p2,g3,f3⟩
  have cR:h3.cell R 0=some (aB s3):=by rw [H.aG g3];rfl
  simp (disch:=omega) only [go_sem,cR]
  refine aY (λ _=>?_) (λ _=>?_)
  ·simp (disch:=omega) only [go_sem]
   exact ⟨p,1,rfl,p1,p2,f3⟩
  ·simp (disch:=omega) only [go_sem]
   refine aY (λ _=>?_) (λ _=>?_)
   ·simp (disch:=omega) only [go_sem]
    exact ⟨p,2,rfl,p1,p2,f3⟩
   ·simp (disch:=omega) only [go_sem]
    exact ⟨p,0,rfl,p1,p2,f3⟩
 have e50:decide ((50:Int)<=(n:Int))=true:=decide_eq_true h50
 simp (disch:=omega) only [go_sem,bH,aF,en,e4,ei,ej,ek,e8,e50]
 rw [←h1e]
 simp (disch:=omega) only [go_sem,hR]
 refine (pN h1 S N (a+q) R d cp hN A1 (by omega) (by omega) hRS (by omega) hRb 0 g1).mono ?_
 rintro _ h2 ⟨⟨i,rfl,hi⟩,⟨s2,g2⟩,F2⟩
 have A2:=A1.RZ F2 hRS hRb
 have n2:=F2.next
 simp (disch:=omega) only [go_sem]
 refine (pN h2 S N (a+q*2) R d cp hN A2 (by omega) (by omega) hRS (by omega) hRb s2 g2).mono ?_
 rintro _ h3 ⟨⟨j,rfl,hj⟩,⟨s3,g3⟩,F3⟩
 have A3:=A2.RZ F3 hRS hRb
 have n3:=F3.next
 simp (disch:=omega) only [go_sem]
 refine (pN h3 S N (a+q*3) R d cp hN A3 (by omega) (by omega) hRS (by omega) hRb s3 g3).mono ?_
 rintro _ h4 ⟨⟨k,rfl,hk⟩,⟨s4,g4⟩,F4⟩
 have A4:=A3.RZ F4 hRS hRb
 have n4:=F4.next
 simp (disch:=omega) only [go_sem]
 refine (last i j k h4 s4 (by omega) (by omega) (by omega) (by omega) (by omega) (by omega) A4 g4 (by omega) ((F2.trans F3 λ _ _ h=>h).trans F4 λ _ _ h=>h)).mono ?_
 rintro _ h3 ⟨p,s3,rfl,p1,p2,g3,f3⟩
 have cR:h3.cell R 0=some (aB s3):=by rw [H.aG g3];rfl
 simp (disch:=omega) only [go_sem,cR]
 refine aY (λ _=>?_) (λ _=>?_)
 ·simp (disch:=omega) only [go_sem]
  exact ⟨p,1,rfl,p1,p2,f3⟩
 ·simp (disch:=omega) only [go_sem]
  refine aY (λ _=>?_) (λ _=>?_)
  ·simp (disch:=omega) only [go_sem]
   exact ⟨p,2,rfl,p1,p2,f3⟩
  ·simp (disch:=omega) only [go_sem]
   exact ⟨p,0,rfl,p1,p2,f3⟩
theorem ZU {α:Type} [Inhabited α] {lt:α->α->Bool} {j:Nat} {d:Array α} (h:lt d[j+1]! d[j]! =true):shiftDown lt (j+1) d=shiftDown lt j (swp d (j+1) j):=by rw [shiftDown,if_neg (by simp [h])]
theorem aaB {α:Type} [Inhabited α] {lt:α->α->Bool} {j:Nat} {d:Array α} (h:lt d[j+1]! d[j]! =false):shiftDown lt (j+1) d=d:=by rw [shiftDown,if_pos (by simp [h])]
theorem YX {α:Type} [Inhabited α] {lt:α->α->Bool} {b j:Nat} {d:Array α} (hj:j<b) (h:lt d[j]! d[j- 1]! =true):shiftUp lt b j d=shiftUp lt b (j+1) (swp d j (j- 1)):=by rw [shiftUp,if_pos hj,if_neg (by simp [h])]
theorem XQ {α:Type} [Inhabited α] {lt:α->α->Bool} {b j:Nat} {d:Array α} (hj:j<b) (h:lt d[j]! d[j- 1]! =false):shiftUp lt b j d=d:=by rw [shiftUp,if_pos hj,if_pos (by simp [h])]
theorem aaL {α:Type} [Inhabited α] {lt:α->α->Bool} {b i:Nat} {d:Array α} (hi:i<b) (h:lt d[i]! d[i- 1]! =false):scanSorted lt d b i=scanSorted lt d b (i+1):=by rw [scanSorted,if_pos (by simp [h,hi])]
theorem FA {α:Type} [Inhabited α] {lt:α->α->Bool} {b i:Nat} {d:Array α} (h: ¬(i<b/\lt d[i]! d[i- 1]! =false)):scanSorted lt d b i=i:=by rw [scanSorted,if_neg (by simpa using h)]
theorem AX {α:Type} [Inhabited α] (lt:α->α->Bool) (a b s i:Nat) (d:Array α):partialIns lt a b (s+1) i d=if scanSorted lt d b i=b then (d,true) else if b-a<50 then (d,false) else
  partialIns lt a b s (scanSorted lt d b i) (if b-scanSorted lt d b i≥2 then shiftUp lt b (scanSorted lt d b i+1) (if scanSorted lt d b i-a≥2 then shiftDown lt (scanSorted lt d b i- 1) (swp d (scanSorted lt d b i) (scanSorted lt d b i- 1)) else swp d (scanSorted lt d b i) (scanSorted lt d b i- 1)) else
   (if scanSorted lt d b i-a≥2 then shiftDown lt (scanSorted lt d b i- 1) (swp d (scanSorted lt d b i) (scanSorted lt d b i- 1)) else swp d (scanSorted lt d b i) (scanSorted lt d b i- 1))):=by rw [partialIns]
theorem Is  {α:Type} [Inhabited α] [O:bN α] (h:H) (S N a b:Nat) (d:Array α) (cp:uO) (hN:N<1000000) (A:dV h S N d) (hb:b<=N) (hab:a<b):
  Ev T eJ [.sl S 0 N cp,aB a,aB b,.fn (bN.f α) [] []] h (λ v h'=>v= .bool (partialInsertionSort bN.lt d a b).2/\dV h' S N (partialInsertionSort bN.lt d a b).1/\Fx (· =S) h h'):=by
 refine aZ jA rfl ?_
 simp (disch:=omega) only [go_sem,bY,aF]
 rw [iJ a]
 refine aJ (λ k' vars hh=> ∃ (s i:Nat) (e:Array α),(∃ g:Nat->V,vars= [.sl S 0 N cp,aB a,aB b,.fn (bN.f α) [] [],g 4,aB i,aB (5-(s:Int)),g 7,g 8,g 9,g 10,g 11,g 12,g 13,g 14,g 15,g 16,g 17,g 18])/\s<=5/\a<i/\i<=b/\dV hh S N e/\partialIns bN.lt a b s i e=partialInsertionSort bN.lt d a b/\Fx (· =S) h hh/\k'=s) 5
  ⟨5,a+1,d,aA rfl,by omega,by omega,by omega,A,rfl,Fx.refl _ h,rfl⟩ ?_
 clear A
 rintro k' vars h1 ⟨s,i,e,⟨g,rfl⟩,hs,hi1,hi2,A,hR,F,hk⟩
 subst hk
 by_cases hlt:(5:Int)-(k':Int)<5
 case neg=>
  have e1:=gJ hlt
  obtain rfl:k'=0:=by omega
  simp (disch:=omega) only [go_sem,e1]
  have hR:(e,false)=partialInsertionSort bN.lt d a b:=hR
  rw [←hR]
  exact ⟨rfl,A,F⟩
 have e1:=mG hlt
 obtain ⟨s,rfl⟩: ∃ s,k'=s+1:=⟨k'- 1,by omega⟩
 simp (disch:=omega) only [go_sem,e1]
 rw [AX] at hR
 refine aJ (λ k' vars hh=> ∃ (m:Nat),(∃ g:Nat->V,vars= [.sl S 0 N cp,aB a,aB b,.fn (bN.f α) [] [],g 4,aB m,aB (5-((s+1:Nat):Int)),g 7,g 8,g 9,g 10,g 11,g 12,g 13,g 14,g 15,g 16,g 17,g 18])/\a<m/\m<=b/\dV hh S N e/\scanSorted bN.lt e b m=scanSorted bN.lt e b i/\Fx (· =S) h hh/\k'=b-m) (b-i)
  ⟨i,aA rfl,hi1,hi2,A,rfl,F,rfl⟩ ?_
 clear A F hlt e1
 rintro k' vars h2 ⟨m,⟨g,rfl⟩,hm1,hm2,A,hS,F,rfl⟩
 have sz:=A.size
 have em1:(m:Int)- 1=((m- 1:Nat):Int):=by omega
 have eM1:(m:Int)+1=((m+1:Nat):Int):=by omega
 by_cases hmb:(m:Int)<(b:Int)
 case neg=>
  have e1:decide ((m:Int)<(b:Int))=false:=decide_eq_false hmb
  have em:m=b:=by omega
  rw [FA (by omega)] at hS
  rw [←hS,if_pos em] at hR
  have e2:decide ((m:Int)=(b:Int))=true:=mG (by omega)
  simp (disch:=omega) only [go_sem,e1,e2]
  rw [←hR]
  exact ⟨rfl,A.fr ((Fr.refl h2).bF (by omega)),gI F (Fx.of ((Fr.refl h2).bF (by omega)))⟩
 have e1:decide ((m:Int)<(b:Int))=true:=decide_eq_true hmb
 have c1:=A.rd (i:=m) (by omega)
 have c2:=A.rd (i:=m- 1) (by omega)
 simp (disch:=omega) only [go_sem,e1,em1,c1,c2]
 refine (kO A (i:=m) (j:=m- 1) (by omega) (by omega) _ (by omega)).mono ?_
 rintro _ h3 ⟨z,rfl,hz,fh3⟩
 have f3':Fr h2 h3:=Fr.trans ((Fr.refl h2).bF (by omega)) fh3
 have A3:=A.fr f3'
 have F3:=gI F (Fx.of f3')
 cases hl:bN.lt e[m]! e[m- 1]! with
 |false=>
  rw [aaL (by omega) hl] at hS
  simp (disch:=omega) only [go_sem,hz,hl,eM1]
  exact ⟨b-(m+1),by omega,m+1,aA rfl,by omega,by omega,A3,hS,F3,rfl⟩
 |true=>
  rw [FA (by rw [hl];simp)] at hS
  rw [←hS,if_neg (by omega)] at hR
  have e2:decide ((m:Int)=(b:Int))=false:=gJ (by omega)
  by_cases h50:(b:Int)-(a:Int)<50
  ·have e50:decide ((b:Int)-(a:Int)<50)=true:=decide_eq_true h50
   rw [if_pos (by omega)] at hR
   simp (disch:=omega) only [go_sem,hz,hl,e2,e50]
   rw [←hR]
   exact ⟨rfl,A3,F3⟩
  have e50:decide ((b:Int)-(a:Int)<50)=false:=decide_eq_false h50
  rw [if_neg (by omega)] at hR
  have c1:=A3.rd (i:=m) (by omega)
  have c2:=A3.rd (i:=m- 1) (by omega)
  simp (disch:=omega) only [go_sem,hz,hl,e2,e50,em1,c1,c2,A3.get,bX,bL]
  have W:=A3.swap (i:=m) (j:=m- 1) (nx:=h3.next+18) (by omega) rfl
  obtain ⟨h4,h4e⟩: ∃ h4,h4=((H.mk h3.tr (h3.next+18)).set S (bQ (flat (e.setIfInBounds m e[m- 1]!).toList))).set S (bQ (flat ((e.setIfInBounds m e[m- 1]!).setIfInBounds (m- 1) e[m]!).toList)):=⟨_,rfl⟩
  rw [←h4e] at W ⊢
  obtain ⟨A4,F4⟩:=W
  have F4':=gI F3 F4
  clear h4e F4 A3 F3 f3' fh3 c1 c2
  obtain ⟨e4,he4⟩: ∃ e4,swp e m (m- 1)=e4:=⟨_,rfl⟩
  rw [he4] at A4 hR
  refine oH (λ vs h5=> ∃ e5,(∃ g:Nat->V,vs= [.sl S 0 N cp,aB a,aB b,.fn (bN.f α) [] [],g 4,aB m,aB (5-((s+1:Nat):Int)),g 7,g 8,g 9,g 10,g 11,g 12,g 13,g 14,g 15,g 16,g 17,g 18])/\dV h5 S N e5/\e5=(if m-a≥2 then shiftDown bN.lt (m- 1) e4 else e4)/\Fx (· =S) h h5) ?_ ?_
  ·refine aY (λ h2=>?_) (λ h2=>?_)
   ·simp (disch:=omega) only [go_sem,em1]
    refine aJ (λ k' vars hh=> ∃ (j:Nat) (x:Array α),(∃ g:Nat->V,vars= [.sl S 0 N cp,aB a,aB b,.fn (bN.f α) [] [],g 4,aB m,aB (5-((s+1:Nat):Int)),aB j,g 8,g 9,g 10,g 11,g 12,g 13,g 14,g 15,g 16,g 17,g 18])/\j<b/\dV hh S N x/\shiftDown bN.lt j x=shiftDown bN.lt (m- 1) e4/\Fx (· =S) h hh/\k'=j) (m- 1)
     ⟨m- 1,e4,aA rfl,by omega,A4,rfl,F4',rfl⟩ ?_
    rintro k' vars h5 ⟨j,x,⟨g,rfl⟩,hj,A5,hD,F5,hk⟩
    subst hk
    have sz5:=A5.size
    by_cases h1:(1:Int)<=(k':Int)
    ·have e1:decide ((1:Int)<=(k':Int))=true:=decide_eq_true h1
     obtain ⟨q,rfl⟩: ∃ q,k'=q+1:=⟨k'- 1,by omega⟩
     have eq1:((q+1:Nat):Int)- 1=(q:Int):=by omega
     have c1:=A5.rd (i:=q+1) (by omega)
     have c2:=A5.rd (i:=q) (by omega)
     simp (disch:=omega) only [go_sem,e1,eq1,c1,c2]
     refine (kO A5 (i:=q+1) (j:=q) (by omega) (by omega) _ (by omega)).mono ?_
     rintro _ h6 ⟨z,rfl,hz,fh6⟩
     have f6:Fr h5 h6:=Fr.trans ((Fr.refl h5).bF (by omega)) fh6
     have A6:=A5.fr f6
     have F6:=gI F5 (Fx.of f6)
     cases hl:bN.lt x[q+1]! x[q]! with
     |false=>
      rw [aaB hl] at hD
      simp (disch:=omega) only [go_sem,hz,hl]
      exact .inl ⟨x,aA rfl,A6,by rw [if_pos (by omega),←hD],F6⟩
     |true=>
      rw [ZU hl] at hD
      have c1:=A6.rd (i:=q+1) (by omega)
      have c2:=A6.rd (i:=q) (by omega)
      simp (disch:=omega) only [go_sem,hz,hl,eq1,c1,c2,A6.get,bX,bL]
      have W:=A6.swap (i:=q+1) (j:=q) (nx:=h6.next+18) (by omega) rfl
      exact ⟨q,by omega,q,_,aA rfl,by omega,W.1,hD,gI F6 W.2,rfl⟩
    ·have e1:decide ((1:Int)<=(k':Int))=false:=decide_eq_false h1
     obtain rfl:k'=0:=by omega
     simp (disch:=omega) only [go_sem,e1]
     have hD:x=shiftDown bN.lt (m- 1) e4:=hD
     exact .inl ⟨x,aA rfl,A5,by rw [if_pos (by omega),←hD],F5⟩
   ·simp (disch:=omega) only [go_sem]
    exact .inl ⟨e4,aA rfl,A4,by rw [if_neg (by omega)],F4'⟩
  ·rintro vars h5 ⟨e5,⟨g,rfl⟩,A5,he5,F5⟩
   rw [←he5] at hR
   clear A4 F4' he5 he4
   simp (disch:=omega) only [go_sem]
   have e55:(5:Int)-((s+1:Nat):Int)+1=5-(s:Int):=by omega
   refine aY (λ h2=>?_) (λ h2=>?_)
   ·rw [if_pos (by omega)] at hR
    simp (disch:=omega) only [go_sem,eM1]
    refine aJ (λ k' vars hh=> ∃ (j:Nat) (x:Array α),(∃ g:Nat->V,vars= [.sl S 0 N cp,aB a,aB b,.fn (bN.f α) [] [],g 4,aB m,aB (5-((s+1:Nat):Int)),g 7,aB j,g 9,g 10,g 11,g 12,g 13,g 14,g 15,g 16,g 17,g 18])/\0<j/\j<=b/\dV hh S N x/\shiftUp bN.lt b j x=shiftUp bN.lt b (m+1) e5/\Fx (· =S) h hh/\k'=b-j) (b-(m+1))
     ⟨m+1,e5,aA rfl,by omega,by omega,A5,rfl,F5,rfl⟩ ?_
    rintro k' vars h6 ⟨j,x,⟨g,rfl⟩,hj0,hj,A6,hU,F6,rfl⟩
    have sz6:=A6.size
    by_cases h1:(j:Int)<(b:Int)
    ·have e1:decide ((j:Int)<(b:Int))=true:=decide_eq_true h1
     have ej1:(j:Int)- 1=((j- 1:Nat):Int):=by omega
     have eJ1:(j:Int)+1=((j+1:Nat):Int):=by omega
     have c1:=A6.rd (i:=j) (by omega)
     have c2:=A6.rd (i:=j- 1) (by omega)
     simp (disch:=omega) only [go_sem,e1,ej1,c1,c2]
     refine (kO A6 (i:=j) (j:=j- 1) (by omega) (by omega) _ (by omega)).mono ?_
     rintro _ h7 ⟨z,rfl,hz,fh7⟩
     have f7:Fr h6 h7:=Fr.trans ((Fr.refl h6).bF (by omega)) fh7
     have A7:=A6.fr f7
     have F7:=gI F6 (Fx.of f7)
     cases hl:bN.lt x[j]! x[j- 1]! with
     |false=>
      rw [XQ (by omega) hl] at hU
      rw [←hU] at hR
      simp (disch:=omega) only [go_sem,hz,hl,e55]
      exact ⟨s,by omega,s,m,x,aA rfl,by omega,by omega,by omega,A7,hR,F7,rfl⟩
     |true=>
      rw [YX (by omega) hl] at hU
      have c1:=A7.rd (i:=j) (by omega)
      have c2:=A7.rd (i:=j- 1) (by omega)
      simp (disch:=omega) only [go_sem,hz,hl,ej1,eJ1,c1,c2,A7.get,bX,bL]
      have W:=A7.swap (i:=j) (j:=j- 1) (nx:=h7.next+18) (by omega) rfl
      exact ⟨b-(j+1),by omega,j+1,_,aA rfl,by omega,by omega,W.1,hU,gI F7 W.2,rfl⟩
    ·have e1:decide ((j:Int)<(b:Int))=false:=decide_eq_false h1
     rw [shiftUp,if_neg (by omega)] at hU
     rw [←hU] at hR
     simp (disch:=omega) only [go_sem,e1,e55]
     exact ⟨s,by omega,s,m,x,aA rfl,by omega,by omega,by omega,A6,hR,F6,rfl⟩
   ·rw [if_neg (by omega)] at hR
    simp (disch:=omega) only [go_sem,e55]
    exact ⟨s,by omega,s,m,e5,aA rfl,by omega,by omega,by omega,A5,hR,F5,rfl⟩
theorem Lu {α:Type} [Inhabited α] {p:α->Bool} {d:Array α} {j i:Nat} (h1:i<=j) (h2:p d[i]! =true):scanUp p d j i=scanUp p d j (i+1):=by rw [scanUp,if_pos (by simp [h1,h2])]
theorem tW {α:Type} [Inhabited α] {p:α->Bool} {d:Array α} {j i:Nat} (h: ¬(i<=j/\p d[i]! =true)):scanUp p d j i=i:=by rw [scanUp,if_neg (by simpa using h)]
theorem Wc {α:Type} [Inhabited α] {p:α->Bool} {d:Array α} {j i:Nat} (h1:i<=j+1) (h2:p d[j+1]! =true):scanDown p d i (j+1)=scanDown p d i j:=by rw [scanDown,if_pos (by simp [h1,h2])]
theorem Ac {α:Type} [Inhabited α] {p:α->Bool} {d:Array α} {j i:Nat} (h: ¬(i<=j/\p d[j]! =true)):scanDown p d i j=j:=by
 cases j with
 |zero=>rfl
 |succ j=>rw [scanDown,if_neg (by simpa using h)]
theorem sP {α:Type} [Inhabited α] (p:α->Bool) (d:Array α) (j i:Nat):scanUp p d j i<=max i (j+1):=by
 obtain ⟨n,hn⟩: ∃ n,j+1-i=n:=⟨_,rfl⟩
 induction n generalizing i with
 |zero=>rw [tW (λ h=>by have:=h.1;omega)];omega
 |succ n ih=>
  by_cases h:i<=j/\p d[i]! =true
  ·rw [Lu h.1 h.2]
   have:=ih (i+1) (by omega)
   omega
  ·rw [tW h];omega
theorem Bx  {α:Type} [Inhabited α] [O:bN α] (h:H) (S N a b pv:Nat) (d:Array α) (cp:uO) (hN:N<1000000) (A:dV h S N d) (hb:b<=N) (hap:a<=pv) (hpb:pv<b):
  Ev T mZ [.sl S 0 N cp,aB a,aB b,aB pv,.fn (bN.f α) [] []] h (λ v h'=>v= .tup [aB ((partition bN.lt d a b pv).1:Nat),.bool (partition bN.lt d a b pv).2.1]/\dV h' S N (partition bN.lt d a b pv).2.2/\Fx (· =S) h h'):=by
 refine aZ nC rfl ?_
 have sz:=A.size
 have c1:=A.rd (i:=a) (by omega)
 have c2:=A.rd (i:=pv) (by omega)
 simp (disch:=omega) only [go_sem,dF,aF,c1,c2,A.get,bX,bL]
 have W:=A.swap (i:=a) (j:=pv) (nx:=h.next+16) (by omega) rfl
 obtain ⟨h1,h1e⟩: ∃ h1,h1=((H.mk h.tr (h.next+16)).set S (bQ (flat (d.setIfInBounds a d[pv]!).toList))).set S (bQ (flat ((d.setIfInBounds a d[pv]!).setIfInBounds pv d[a]!).toList)):=⟨_,rfl⟩
 rw [←h1e] at W ⊢
 obtain ⟨A1,F1⟩:=W
 obtain ⟨e,he⟩: ∃ e,swp d a pv=e:=⟨_,rfl⟩
 rw [he] at A1
 clear h1e c1 c2 A
 have eb:(b:Int)- 1=((b- 1:Nat):Int):=by omega
 have ea:(a:Int)+1=((a+1:Nat):Int):=by omega
 have hP:partition bN.lt d a b pv=if scanUp (λ x=>bN.lt x e[a]!) e (b- 1) (a+1)>scanDown (λ x=>!bN.lt x e[a]!) e (scanUp (λ x=>bN.lt x e[a]!) e (b- 1) (a+1)) (b- 1) then
   (scanDown (λ x=>!bN.lt x e[a]!) e (scanUp (λ x=>bN.lt x e[a]!) e (b- 1) (a+1)) (b- 1),true,swp e (scanDown (λ x=>!bN.lt x e[a]!) e (scanUp (λ x=>bN.lt x e[a]!) e (b- 1) (a+1)) (b- 1)) a) else
   ((partLoop bN.lt a (scanUp (λ x=>bN.lt x e[a]!) e (b- 1) (a+1)+1) (scanDown (λ x=>!bN.lt x e[a]!) e (scanUp (λ x=>bN.lt x e[a]!) e (b- 1) (a+1)) (b- 1)- 1) (swp e (scanUp (λ x=>bN.lt x e[a]!) e (b- 1) (a+1)) (scanDown (λ x=>!bN.lt x e[a]!) e (scanUp (λ x=>bN.lt x e[a]!) e (b- 1) (a+1)) (b- 1)))).1,false,
    swp (partLoop bN.lt a (scanUp (λ x=>bN.lt x e[a]!) e (b- 1) (a+1)+1) (scanDown (λ x=>!bN.lt x e[a]!) e (scanUp (λ x=>bN.lt x e[a]!) e (b- 1) (a+1)) (b- 1)- 1) (swp e (scanUp (λ x=>bN.lt x e[a]!) e (b- 1) (a+1)) (scanDown (λ x=>!bN.lt x e[a]!) e (scanUp (λ x=>bN.lt x e[a]!) e (b- 1) (a+1)) (b- 1)))).2 (partLoop bN.lt a (scanUp (λ x=>bN.lt x e[a]!) e (b- 1) (a+1)+1) (scanDown (λ x=>!bN.lt x e[a]!) e (scanUp (λ x=>bN.lt x e[a]!) e (b- 1) (a+1)) (b- 1)- 1) (swp e (scanUp (λ x=>bN.lt x e[a]!) e (b- 1) (a+1)) (scanDown (λ x=>!bN.lt x e[a]!) e (scanUp (λ x=>bN.lt x e[a]!) e (b- 1) (a+1)) (b- 1)))).1 a):=by
  rw [←he];rfl
 obtain ⟨R,hRe⟩: ∃ R,partition bN.lt d a b pv=R:=⟨_,rfl⟩
 rw [hRe] at hP
 rw [hRe]
 simp (disch:=omega) only [go_sem,ea,eb]
 refine bV (λ vs hh=>(∃ g:Nat->V,vs= [.sl S 0 N cp,aB a,aB b,aB pv,.fn (bN.f α) [] [],g 5,g 6,aB (scanUp (λ x=>bN.lt x e[a]!) e (b- 1) (a+1):Nat),aB ((b- 1):Nat),g 9,g 10,g 11,g 12,g 13,g 14])/\dV hh S N e/\Fx (· =S) h hh) ?_ ?_
 ·refine aJ (λ k' vs hh=> ∃ (k:Nat),(∃ g:Nat->V,vs= [.sl S 0 N cp,aB a,aB b,aB pv,.fn (bN.f α) [] [],g 5,g 6,aB (k:Nat),aB ((b- 1):Nat),g 9,g 10,g 11,g 12,g 13,g 14])/\(a+1)<=k/\k<=N+2/\dV hh S N e/\scanUp (λ x=>bN.lt x e[a]!) e (b- 1) k=scanUp (λ x=>bN.lt x e[a]!) e (b- 1) (a+1)/\Fx (· =S) h hh/\k'=(b- 1)+1-k) ((b- 1)+1-(a+1))
   ⟨(a+1),aA rfl,by omega,by omega,A1,rfl,F1,rfl⟩ ?_
  rintro k' vars hs ⟨k,⟨g,rfl⟩,hk1,hk2,As,hS,Fs,rfl⟩
  by_cases hij:(k:Int)<=(((b- 1):Nat):Int)
  ·have e1:decide ((k:Int)<=(((b- 1):Nat):Int))=true:=decide_eq_true hij
   have eK:(k:Int)+1=((k+1:Nat):Int):=by omega
   have szs:=As.size
   have c1:=As.rd (i:=k) (by omega)
   have c2:=As.rd (i:=a) (by omega)
   simp (disch:=omega) only [go_sem,e1,c1,c2]
   refine (kO As (i:=k) (j:=a) (by omega) (by omega) _ (by omega)).mono ?_
   rintro _ hs2 ⟨z,rfl,hz,fhs2⟩
   have fs2:Fr hs hs2:=Fr.trans ((Fr.refl hs).bF (by omega)) fhs2
   have As2:=As.fr fs2
   have Fs2:=gI Fs (Fx.of fs2)
   cases hl:bN.lt e[k]! e[a]! with
   |false=>
    rw [tW (λ hh=>by have:=hh.2;simp [hl] at this)] at hS
    simp (disch:=omega) only [go_sem,hz,hl]
    exact ⟨by rw [←hS];exact aA rfl,As2,Fs2⟩
   |true=>
    rw [Lu (by omega) (by simp [hl])] at hS
    simp (disch:=omega) only [go_sem,hz,hl,eK]
    exact ⟨(b- 1)+1-(k+1),by omega,k+1,aA rfl,by omega,by omega,As2,hS,Fs2,rfl⟩
  ·have e1:decide ((k:Int)<=(((b- 1):Nat):Int))=false:=decide_eq_false hij
   rw [tW (λ hh=>hij (by have:=hh.1;omega))] at hS
   simp (disch:=omega) only [go_sem,e1]
   exact ⟨by rw [←hS];exact aA rfl,As.fr ((Fr.refl hs).bF (by omega)),gI Fs (Fx.of ((Fr.refl hs).bF (by omega)))⟩
 ·rintro vars h9 ⟨⟨g,rfl⟩,A9,F9⟩
  have hge:=scanUp_ge (λ x=>bN.lt x e[a]!) e (b- 1) (a+1)
  have hhi:=sP (λ x=>bN.lt x e[a]!) e (b- 1) (a+1)
  obtain ⟨i2,hi2⟩: ∃ x,scanUp (λ x=>bN.lt x e[a]!) e (b- 1) (a+1)=x:=⟨_,rfl⟩
  rw [hi2] at hge hhi
  rw [hi2]
  simp (disch:=omega) only [go_sem]
  refine bV (λ vs hh=>(∃ g:Nat->V,vs= [.sl S 0 N cp,aB a,aB b,aB pv,.fn (bN.f α) [] [],g 5,g 6,aB (i2:Nat),aB (scanDown (λ x=>!bN.lt x e[a]!) e i2 (b- 1):Nat),g 9,g 10,g 11,g 12,g 13,g 14])/\dV hh S N e/\Fx (· =S) h hh) ?_ ?_
  ·refine aJ (λ k' vs hh=> ∃ (k:Nat),(∃ g:Nat->V,vs= [.sl S 0 N cp,aB a,aB b,aB pv,.fn (bN.f α) [] [],g 5,g 6,aB (i2:Nat),aB (k:Nat),g 9,g 10,g 11,g 12,g 13,g 14])/\k<=(b- 1)/\dV hh S N e/\scanDown (λ x=>!bN.lt x e[a]!) e i2 k=scanDown (λ x=>!bN.lt x e[a]!) e i2 (b- 1)/\Fx (· =S) h hh/\k'=k) (b- 1)
    ⟨(b- 1),aA rfl,by omega,A9,rfl,F9,rfl⟩ ?_
   rintro k' vars hs ⟨k,⟨g,rfl⟩,hk1,As,hS,Fs,hkk⟩
   subst hkk
   by_cases hij:((i2:Nat):Int)<=(k':Int)
   ·have e1:decide (((i2:Nat):Int)<=(k':Int))=true:=decide_eq_true hij
    obtain ⟨k,rfl⟩: ∃ k,k'=k+1:=⟨k'- 1,by omega⟩
    have eK:((k+1:Nat):Int)- 1=(k:Int):=by omega
    have szs:=As.size
    have c1:=As.rd (i:=k+1) (by omega)
    have c2:=As.rd (i:=a) (by omega)
    simp (disch:=omega) only [go_sem,e1,c1,c2]
    refine (kO As (i:=k+1) (j:=a) (by omega) (by omega) _ (by omega)).mono ?_
    rintro _ hs2 ⟨z,rfl,hz,fhs2⟩
    have fs2:Fr hs hs2:=Fr.trans ((Fr.refl hs).bF (by omega)) fhs2
    have As2:=As.fr fs2
    have Fs2:=gI Fs (Fx.of fs2)
    cases hl:bN.lt e[k+1]! e[a]! with
    |true=>
     rw [Ac (λ hh=>by have:=hh.2;simp [hl] at this)] at hS
     simp (disch:=omega) only [go_sem,hz,hl]
     exact ⟨by rw [←hS];exact aA rfl,As2,Fs2⟩
    |false=>
     rw [Wc (by omega) (by simp [hl])] at hS
     simp (disch:=omega) only [go_sem,hz,hl,eK]
     exact ⟨k,by omega,k,aA rfl,by omega,As2,hS,Fs2,rfl⟩
   ·have e1:decide (((i2:Nat):Int)<=(k':Int))=false:=decide_eq_false hij
    rw [Ac (λ hh=>hij (by have:=hh.1;omega))] at hS
    simp (disch:=omega) only [go_sem,e1]
    exact ⟨by rw [←hS];exact aA rfl,As.fr ((Fr.refl hs).bF (by omega)),gI Fs (Fx.of ((Fr.refl hs).bF (by omega)))⟩
  ·rintro vars h2 ⟨⟨g,rfl⟩,A2,F2⟩
   have hle:=scanDown_le (λ x=>!bN.lt x e[a]!) e i2 (b- 1)
   obtain ⟨j2,hj2⟩: ∃ x,scanDown (λ x=>!bN.lt x e[a]!) e i2 (b- 1)=x:=⟨_,rfl⟩
   rw [hj2] at hle
   rw [hj2]
   rw [hi2,hj2] at hP
   have sz2:=A2.size
   by_cases hgt:(j2:Int)<(i2:Int)
   ·have e1:decide ((j2:Int)<(i2:Int))=true:=decide_eq_true hgt
    rw [if_pos (by omega)] at hP
    have c1:=A2.rd (i:=j2) (by omega)
    have c2:=A2.rd (i:=a) (by omega)
    simp (disch:=omega) only [go_sem,e1,c1,c2,A2.get,bX,bL]
    have W:=A2.swap (i:=j2) (j:=a) (nx:=h2.next+16) (by omega) rfl
    rw [hP]
    exact ⟨rfl,W.1,gI F2 W.2⟩
   have e1:decide ((j2:Int)<(i2:Int))=false:=decide_eq_false hgt
   rw [if_neg (by omega)] at hP
   have c1:=A2.rd (i:=i2) (by omega)
   have c2:=A2.rd (i:=j2) (by omega)
   simp (disch:=omega) only [go_sem,e1,c1,c2,A2.get,bX,bL]
   have W:=A2.swap (i:=i2) (j:=j2) (nx:=h2.next+16) (by omega) rfl
   obtain ⟨h3,h3e⟩: ∃ h3,h3=((H.mk h2.tr (h2.next+16)).set S (bQ (flat (e.setIfInBounds i2 e[j2]!).toList))).set S (bQ (flat ((e.setIfInBounds i2 e[j2]!).setIfInBounds j2 e[i2]!).toList)):=⟨_,rfl⟩
   rw [←h3e] at W ⊢
   obtain ⟨A3,F30⟩:=W
   have F3:=gI F2 F30
   have hij2:i2<=j2:=by omega
   obtain ⟨e0,he0⟩: ∃ e0,swp e i2 j2=e0:=⟨_,rfl⟩
   rw [he0] at A3 hP
   clear h3e c1 c2 A2 A9 F9 A1 F1 he hgt e1
   have ei:(i2:Int)+1=((i2+1:Nat):Int):=by omega
   have ej:(j2:Int)- 1=((j2- 1:Nat):Int):=by omega
   simp (disch:=omega) only [go_sem,ei,ej]
   refine bV (λ vs hh=>(∃ g:Nat->V,vs= [.sl S 0 N cp,aB a,aB b,aB pv,.fn (bN.f α) [] [],g 5,g 6,g 7,aB (((partLoop bN.lt a (i2+1) (j2- 1) e0).1:Nat):Int),g 9,g 10,g 11,g 12,g 13,g 14])/\dV hh S N (partLoop bN.lt a (i2+1) (j2- 1) e0).2/\(partLoop bN.lt a (i2+1) (j2- 1) e0).1<b/\Fx (· =S) h hh) ?_ ?_
   ·refine aJ (λ k' vs hh=> ∃ (i j:Nat) (e:Array α),(∃ g:Nat->V,vs= [.sl S 0 N cp,aB a,aB b,aB pv,.fn (bN.f α) [] [],g 5,g 6,aB i,aB j,g 9,g 10,g 11,g 12,g 13,g 14])/\a<i/\i<=b+1/\j<b/\dV hh S N e/\partLoop bN.lt a i j e=partLoop bN.lt a (i2+1) (j2- 1) e0/\Fx (· =S) h hh/\k'=j) (j2- 1)
     ⟨i2+1,j2- 1,e0,aA rfl,by omega,by omega,by omega,A3,rfl,F3,rfl⟩ ?_
    obtain ⟨R2,hR2⟩: ∃ R2,partLoop bN.lt a (i2+1) (j2- 1) e0=R2:=⟨_,rfl⟩
    rw [hR2]
    clear hP hR2 hi2 hj2 he0 ei ej hle hge hhi F3 F30 A3 sz2 h3 hij2
    clear i2 j2
    rintro k' vars h3 ⟨i,j,e,⟨g,rfl⟩,hi1,hi2,hj,A3,hL,F3,hkk⟩
    rw [partLoop_eq] at hL
    simp (disch:=omega) only [go_sem]
    refine bV (λ vs hh=>(∃ g:Nat->V,vs= [.sl S 0 N cp,aB a,aB b,aB pv,.fn (bN.f α) [] [],g 5,g 6,aB (scanUp (λ x=>bN.lt x e[a]!) e j i:Nat),aB (j:Nat),g 9,g 10,g 11,g 12,g 13,g 14])/\dV hh S N e/\Fx (· =S) h hh) ?_ ?_
    ·refine aJ (λ k' vs hh=> ∃ (k:Nat),(∃ g:Nat->V,vs= [.sl S 0 N cp,aB a,aB b,aB pv,.fn (bN.f α) [] [],g 5,g 6,aB (k:Nat),aB (j:Nat),g 9,g 10,g 11,g 12,g 13,g 14])/\i<=k/\k<=N+2/\dV hh S N e/\scanUp (λ x=>bN.lt x e[a]!) e j k=scanUp (λ x=>bN.lt x e[a]!) e j i/\Fx (· =S) h hh/\k'=j+1-k) (j+1-i)
      ⟨i,aA rfl,by omega,by omega,A3,rfl,F3,rfl⟩ ?_
     rintro k' vars hs ⟨k,⟨g,rfl⟩,hk1,hk2,As,hS,Fs,rfl⟩
     by_cases hij:(k:Int)<=((j:Nat):Int)
     ·have e1:decide ((k:Int)<=((j:Nat):Int))=true:=decide_eq_true hij
      have eK:(k:Int)+1=((k+1:Nat):Int):=by omega
      have szs:=As.size
      have c1:=As.rd (i:=k) (by omega)
      have c2:=As.rd (i:=a) (by omega)
      simp (disch:=omega) only [go_sem,e1,c1,c2]
      refine (kO As (i:=k) (j:=a) (by omega) (by omega) _ (by omega)).mono ?_
      rintro _ hs2 ⟨z,rfl,hz,fhs2⟩
      have fs2:Fr hs hs2:=Fr.trans ((Fr.refl hs).bF (by omega)) fhs2
      have As2:=As.fr fs2
      have Fs2:=gI Fs (Fx.of fs2)
      cases hl:bN.lt e[k]! e[a]! with
      |false=>
       rw [tW (λ hh=>by have:=hh.2;simp [hl] at this)] at hS
       simp (disch:=omega) only [go_sem,hz,hl]
       exact ⟨by rw [←hS];exact aA rfl,As2,Fs2⟩
      |true=>
       rw [Lu (by omega) (by simp [hl])] at hS
       simp (disch:=omega) only [go_sem,hz,hl,eK]
       exact ⟨j+1-(k+1),by omega,k+1,aA rfl,by omega,by omega,As2,hS,Fs2,rfl⟩
     ·have e1:decide ((k:Int)<=((j:Nat):Int))=false:=decide_eq_false hij
      rw [tW (λ hh=>hij (by have:=hh.1;omega))] at hS
      simp (disch:=omega) only [go_sem,e1]
      exact ⟨by rw [←hS];exact aA rfl,As.fr ((Fr.refl hs).bF (by omega)),gI Fs (Fx.of ((Fr.refl hs).bF (by omega)))⟩
    ·rintro vars h9 ⟨⟨g,rfl⟩,A9,F9⟩
     have hge:=scanUp_ge (λ x=>bN.lt x e[a]!) e j i
     have hhi:=sP (λ x=>bN.lt x e[a]!) e j i
     obtain ⟨u,hu⟩: ∃ x,scanUp (λ x=>bN.lt x e[a]!) e j i=x:=⟨_,rfl⟩
     rw [hu] at hge hhi
     rw [hu]
     simp (disch:=omega) only [go_sem]
     refine bV (λ vs hh=>(∃ g:Nat->V,vs= [.sl S 0 N cp,aB a,aB b,aB pv,.fn (bN.f α) [] [],g 5,g 6,aB (u:Nat),aB (scanDown (λ x=>!bN.lt x e[a]!) e u j:Nat),g 9,g 10,g 11,g 12,g 13,g 14])/\dV hh S N e/\Fx (· =S) h hh) ?_ ?_
     ·refine aJ (λ k' vs hh=> ∃ (k:Nat),(∃ g:Nat->V,vs= [.sl S 0 N cp,aB a,aB b,aB pv,.fn (bN.f α) [] [],g 5,g 6,aB (u:Nat),aB (k:Nat),g 9,g 10,g 11,g 12,g 13,g 14])/\k<=j/\dV hh S N e/\scanDown (λ x=>!bN.lt x e[a]!) e u k=scanDown (λ x=>!bN.lt x e[a]!) e u j/\Fx (· =S) h hh/\k'=k) j
       ⟨j,aA rfl,by omega,A9,rfl,F9,rfl⟩ ?_
      rintro k' vars hs ⟨k,⟨g,rfl⟩,hk1,As,hS,Fs,hkk⟩
      subst hkk
      by_cases hij:((u:Nat):Int)<=(k':Int)
      ·have e1:decide (((u:Nat):Int)<=(k':Int))=true:=decide_eq_true hij
       obtain ⟨k,rfl⟩: ∃ k,k'=k+1:=⟨k'- 1,by omega⟩
       have eK:((k+1:Nat):Int)- 1=(k:Int):=by omega
       have szs:=As.size
       have c1:=As.rd (i:=k+1) (by omega)
       have c2:=As.rd (i:=a) (by omega)
       simp (disch:=omega) only [go_sem,e1,c1,c2]
       refine (kO As (i:=k+1) (j:=a) (by omega) (by omega) _ (by omega)).mono ?_
       rintro _ hs2 ⟨z,rfl,hz,fhs2⟩
       have fs2:Fr hs hs2:=Fr.trans ((Fr.refl hs).bF (by omega)) fhs2
       have As2:=As.fr fs2
       have Fs2:=gI Fs (Fx.of fs2)
       cases hl:bN.lt e[k+1]! e[a]! with
       |true=>
        rw [Ac (λ hh=>by have:=hh.2;simp [hl] at this)] at hS
        simp (disch:=omega) only [go_sem,hz,hl]
        exact ⟨by rw [←hS];exact aA rfl,As2,Fs2⟩
       |false=>
        rw [Wc (by omega) (by simp [hl])] at hS
        simp (disch:=omega) only [go_sem,hz,hl,eK]
        exact ⟨k,by omega,k,aA rfl,by omega,As2,hS,Fs2,rfl⟩
      ·have e1:decide (((u:Nat):Int)<=(k':Int))=false:=decide_eq_false hij
       rw [Ac (λ hh=>hij (by have:=hh.1;omega))] at hS
       simp (disch:=omega) only [go_sem,e1]
       exact ⟨by rw [←hS];exact aA rfl,As.fr ((Fr.refl hs).bF (by omega)),gI Fs (Fx.of ((Fr.refl hs).bF (by omega)))⟩
     ·rintro vars h4 ⟨⟨g,rfl⟩,A4,F4⟩
      have hle:=scanDown_le (λ x=>!bN.lt x e[a]!) e u j
      obtain ⟨w,hw⟩: ∃ x,scanDown (λ x=>!bN.lt x e[a]!) e u j=x:=⟨_,rfl⟩
      rw [hw] at hle
      rw [hw]
      rw [hu,hw] at hL
      have sz4:=A4.size
      by_cases hgt:(w:Int)<(u:Int)
      ·have e1:decide ((w:Int)<(u:Int))=true:=decide_eq_true hgt
       rw [if_pos (by omega)] at hL
       simp (disch:=omega) only [go_sem,e1]
       rw [←hL]
       exact ⟨aA rfl,A4,by omega,F4⟩
      have e1:decide ((w:Int)<(u:Int))=false:=decide_eq_false hgt
      rw [if_neg (by omega)] at hL
      have c1:=A4.rd (i:=u) (by omega)
      have c2:=A4.rd (i:=w) (by omega)
      have ei:(u:Int)+1=((u+1:Nat):Int):=by omega
      have ej:(w:Int)- 1=((w- 1:Nat):Int):=by omega
      simp (disch:=omega) only [go_sem,e1,c1,c2,A4.get,bX,bL,ei,ej]
      have W:=A4.swap (i:=u) (j:=w) (nx:=h4.next+16) (by omega) rfl
      exact ⟨w- 1,by omega,u+1,w- 1,_,aA rfl,by omega,by omega,by omega,W.1,hL,gI F4 W.2,rfl⟩
   ·rintro vars h5 ⟨⟨g,rfl⟩,A5,hlt5,F5⟩
    generalize partLoop bN.lt a (i2+1) (j2- 1) e0=r at hP A5 hlt5
    obtain ⟨m,e5⟩:=r
    have hlt5:m<b:=hlt5
    have A5:dV h5 S N e5:=A5
    have sz5:=A5.size
    have c1:=A5.rd (i:=m) (by omega)
    have c2:=A5.rd (i:=a) (by omega)
    simp (disch:=omega) only [go_sem,c1,c2,A5.get,bX,bL]
    have W:=A5.swap (i:=m) (j:=a) (nx:=h5.next+16) (by omega) rfl
    rw [hP]
    exact ⟨rfl,W.1,gI F5 W.2⟩
theorem Nj  {α:Type} [Inhabited α] [O:bN α] (h:H) (S N a b pv:Nat) (d:Array α) (cp:uO) (hN:N<1000000) (A:dV h S N d) (hb:b<=N) (hap:a<=pv) (hpb:pv<b):
  Ev T kX [.sl S 0 N cp,aB a,aB b,aB pv,.fn (bN.f α) [] []] h (λ v h'=>v= aB ((partitionEqual bN.lt d a b pv).1:Nat)/\dV h' S N (partitionEqual bN.lt d a b pv).2/\Fx (· =S) h h'):=by
 refine aZ lB rfl ?_
 have sz:=A.size
 have c1:=A.rd (i:=a) (by omega)
 have c2:=A.rd (i:=pv) (by omega)
 simp (disch:=omega) only [go_sem,cL,aF,c1,c2,A.get,bX,bL]
 have W:=A.swap (i:=a) (j:=pv) (nx:=h.next+16) (by omega) rfl
 obtain ⟨h1,h1e⟩: ∃ h1,h1=((H.mk h.tr (h.next+16)).set S (bQ (flat (d.setIfInBounds a d[pv]!).toList))).set S (bQ (flat ((d.setIfInBounds a d[pv]!).setIfInBounds pv d[a]!).toList)):=⟨_,rfl⟩
 rw [←h1e] at W ⊢
 obtain ⟨A1,F1⟩:=W
 have eb:(b:Int)- 1=((b- 1:Nat):Int):=by omega
 have ea:(a:Int)+1=((a+1:Nat):Int):=by omega
 unfold partitionEqual
 obtain ⟨e0,he⟩: ∃ e,swp d a pv=e:=⟨_,rfl⟩
 rw [he] at A1 ⊢
 clear h1e c1 c2 A
 simp (disch:=omega) only [go_sem,ea,eb]
 refine bV (λ vs hh=>(∃ g:Nat->V,vs= [.sl S 0 N cp,aB a,aB b,aB pv,.fn (bN.f α) [] [],g 5,aB (((partEqLoop bN.lt a (a+1) (b- 1) e0).1:Nat):Int),g 7,g 8,g 9,g 10])/\dV hh S N (partEqLoop bN.lt a (a+1) (b- 1) e0).2/\Fx (· =S) h hh) ?_ ?_
 ·refine aJ (λ k' vs hh=> ∃ (i j:Nat) (e:Array α),(∃ g:Nat->V,vs= [.sl S 0 N cp,aB a,aB b,aB pv,.fn (bN.f α) [] [],g 5,aB i,aB j,g 8,g 9,g 10])/\a<i/\i<=b+1/\j<b/\dV hh S N e/\partEqLoop bN.lt a i j e=partEqLoop bN.lt a (a+1) (b- 1) e0/\Fx (· =S) h hh/\k'=j) (b- 1)
   ⟨a+1,b- 1,e0,aA rfl,by omega,by omega,by omega,A1,rfl,F1,rfl⟩ ?_
  obtain ⟨R2,hR2⟩: ∃ R2,partEqLoop bN.lt a (a+1) (b- 1) e0=R2:=⟨_,rfl⟩
  rw [hR2]
  clear hR2 F1 A1 h1 he e0
  rintro k' vars h3 ⟨i,j,e,⟨g,rfl⟩,hi1,hi2,hj,A3,hL,F3,hkk⟩
  rw [partEqLoop_eq] at hL
  simp (disch:=omega) only [go_sem]
  refine bV (λ vs hh=>(∃ g:Nat->V,vs= [.sl S 0 N cp,aB a,aB b,aB pv,.fn (bN.f α) [] [],g 5,aB (scanUp (λ x=>!bN.lt e[a]! x) e j i:Nat),aB (j:Nat),g 8,g 9,g 10])/\dV hh S N e/\Fx (· =S) h hh) ?_ ?_
  ·refine aJ (λ k' vs hh=> ∃ (k:Nat),(∃ g:Nat->V,vs= [.sl S 0 N cp,aB a,aB b,aB pv,.fn (bN.f α) [] [],g 5,aB (k:Nat),aB (j:Nat),g 8,g 9,g 10])/\i<=k/\k<=N+2/\dV hh S N e/\scanUp (λ x=>!bN.lt e[a]! x) e j k=scanUp (λ x=>!bN.lt e[a]! x) e j i/\Fx (· =S) h hh/\k'=j+1-k) (j+1-i)
    ⟨i,aA rfl,by omega,by omega,A3,rfl,F3,rfl⟩ ?_
   rintro k' vars hs ⟨k,⟨g,rfl⟩,hk1,hk2,As,hS,Fs,rfl⟩
   by_cases hij:(k:Int)<=((j:Nat):Int)
   ·have e1:decide ((k:Int)<=((j:Nat):Int))=true:=decide_eq_true hij
    have eK:(k:Int)+1=((k+1:Nat):Int):=by omega
    have szs:=As.size
    have c1:=As.rd (i:=k) (by omega)
    have c2:=As.rd (i:=a) (by omega)
    simp (disch:=omega) only [go_sem,e1,c1,c2]
    refine (kO As (i:=a) (j:=k) (by omega) (by omega) _ (by omega)).mono ?_
    rintro _ hs2 ⟨z,rfl,hz,fhs2⟩
    have fs2:Fr hs hs2:=Fr.trans ((Fr.refl hs).bF (by omega)) fhs2
    have As2:=As.fr fs2
    have Fs2:=gI Fs (Fx.of fs2)
    cases hl:bN.lt e[a]! e[k]! with
    |true=>
     rw [tW (λ hh=>by have:=hh.2;simp [hl] at this)] at hS
     simp (disch:=omega) only [go_sem,hz,hl]
     exact ⟨by rw [←hS];exact aA rfl,As2,Fs2⟩
    |false=>
     rw [Lu (by omega) (by simp [hl])] at hS
     simp (disch:=omega) only [go_sem,hz,hl,eK]
     exact ⟨j+1-(k+1),by omega,k+1,aA rfl,by omega,by omega,As2,hS,Fs2,rfl⟩
   ·have e1:decide ((k:Int)<=((j:Nat):Int))=false:=decide_eq_false hij
    rw [tW (λ hh=>hij (by have:=hh.1;omega))] at hS
    simp (disch:=omega) only [go_sem,e1]
    exact ⟨by rw [←hS];exact aA rfl,As.fr ((Fr.refl hs).bF (by omega)),gI Fs (Fx.of ((Fr.refl hs).bF (by omega)))⟩
  ·rintro vars h9 ⟨⟨g,rfl⟩,A9,F9⟩
   have hge:=scanUp_ge (λ x=>!bN.lt e[a]! x) e j i
   have hhi:=sP (λ x=>!bN.lt e[a]! x) e j i
   obtain ⟨u,hu⟩: ∃ x,scanUp (λ x=>!bN.lt e[a]! x) e j i=x:=⟨_,rfl⟩
   rw [hu] at hge hhi
   rw [hu]
   simp (disch:=omega) only [go_sem]
   refine bV (λ vs hh=>(∃ g:Nat->V,vs= [.sl S 0 N cp,aB a,aB b,aB pv,.fn (bN.f α) [] [],g 5,aB (u:Nat),aB (scanDown (λ x=>bN.lt e[a]! x) e u j:Nat),g 8,g 9,g 10])/\dV hh S N e/\Fx (· =S) h hh) ?_ ?_
   ·refine aJ (λ k' vs hh=> ∃ (k:Nat),(∃ g:Nat->V,vs= [.sl S 0 N cp,aB a,aB b,aB pv,.fn (bN.f α) [] [],g 5,aB (u:Nat),aB (k:Nat),g 8,g 9,g 10])/\k<=j/\dV hh S N e/\scanDown (λ x=>bN.lt e[a]! x) e u k=scanDown (λ x=>bN.lt e[a]! x) e u j/\Fx (· =S) h hh/\k'=k) j
     ⟨j,aA rfl,by omega,A9,rfl,F9,rfl⟩ ?_
    rintro k' vars hs ⟨k,⟨g,rfl⟩,hk1,As,hS,Fs,hkk⟩
    subst hkk
    by_cases hij:((u:Nat):Int)<=(k':Int)
    ·have e1:decide (((u:Nat):Int)<=(k':Int))=true:=decide_eq_true hij
     obtain ⟨k,rfl⟩: ∃ k,k'=k+1:=⟨k'- 1,by omega⟩
     have eK:((k+1:Nat):Int)- 1=(k:Int):=by omega
     have szs:=As.size
     have c1:=As.rd (i:=k+1) (by omega)
     have c2:=As.rd (i:=a) (by omega)
     simp (disch:=omega) only [go_sem,e1,c1,c2]
     refine (kO As (i:=a) (j:=k+1) (by omega) (by omega) _ (by omega)).mono ?_
     rintro _ hs2 ⟨z,rfl,hz,fhs2⟩
     have fs2:Fr hs hs2:=Fr.trans ((Fr.refl hs).bF (by omega)) fhs2
     have As2:=As.fr fs2
     have Fs2:=gI Fs (Fx.of fs2)
     cases hl:bN.lt e[a]! e[k+1]! with
     |false=>
      rw [Ac (λ hh=>by have:=hh.2;simp [hl] at this)] at hS
      simp (disch:=omega) only [go_sem,hz,hl]
      exact ⟨by rw [←hS];exact aA rfl,As2,Fs2⟩
     |true=>
      rw [Wc (by omega) (by simp [hl])] at hS
      simp (disch:=omega) only [go_sem,hz,hl,eK]
      exact ⟨k,by omega,k,aA rfl,by omega,As2,hS,Fs2,rfl⟩
    ·have e1:decide (((u:Nat):Int)<=(k':Int))=false:=decide_eq_false hij
     rw [Ac (λ hh=>hij (by have:=hh.1;omega))] at hS
     simp (disch:=omega) only [go_sem,e1]
     exact ⟨by rw [←hS];exact aA rfl,As.fr ((Fr.refl hs).bF (by omega)),gI Fs (Fx.of ((Fr.refl hs).bF (by omega)))⟩
   ·rintro vars h4 ⟨⟨g,rfl⟩,A4,F4⟩
    have hle:=scanDown_le (λ x=>bN.lt e[a]! x) e u j
    obtain ⟨w,hw⟩: ∃ x,scanDown (λ x=>bN.lt e[a]! x) e u j=x:=⟨_,rfl⟩
    rw [hw] at hle
    rw [hw]
    rw [hu,hw] at hL
    have sz4:=A4.size
    by_cases hgt:(w:Int)<(u:Int)
    ·have e1:decide ((w:Int)<(u:Int))=true:=decide_eq_true hgt
     rw [if_pos (by omega)] at hL
     simp (disch:=omega) only [go_sem,e1]
     rw [←hL]
     exact ⟨aA rfl,A4,F4⟩
    have e1:decide ((w:Int)<(u:Int))=false:=decide_eq_false hgt
    rw [if_neg (by omega)] at hL
    have c1:=A4.rd (i:=u) (by omega)
    have c2:=A4.rd (i:=w) (by omega)
    have ei:(u:Int)+1=((u+1:Nat):Int):=by omega
    have ej:(w:Int)- 1=((w- 1:Nat):Int):=by omega
    simp (disch:=omega) only [go_sem,e1,c1,c2,A4.get,bX,bL,ei,ej]
    have W:=A4.swap (i:=u) (j:=w) (nx:=h4.next+16) (by omega) rfl
    exact ⟨w- 1,by omega,u+1,w- 1,_,aA rfl,by omega,by omega,by omega,W.1,hL,gI F4 W.2,rfl⟩
 ·rintro vars h5 ⟨⟨g,rfl⟩,A5,F5⟩
  simp (disch:=omega) only [go_sem]
  exact ⟨A5,F5⟩
def MX  {α:Type} [Inhabited α] [O:bN α] (n:Nat):Prop:= ∀ (h:H) (S N a b:Nat) (lim:Int) (d:Array α) (cp:uO),N<60000->dV h S N d->a<=b->b<=N->b-a<=n->0<=lim->lim<1000000->Below bN.lt a b d->
 Ev T nZ [.sl S 0 N cp,aB a,aB b,aB lim,.fn (bN.f α) [] []] h (λ _ h'=> ∃ e,dV h' S N e/\PermIn a b d e/\SortedIn bN.lt a b e/\Fx (· =S) h h')
theorem JV  {α:Type} [Inhabited α] [O:bN α] (n:Nat) (ih: ∀ m,m<n->MX (α:=α) m):MX (α:=α) n:=by
 intro h S N a b lim d cp hN A hab hbN hn hl0 hl1 hB
 refine aZ oF rfl ?_
 simp (disch:=omega) only [go_sem,dJ,aF]
 refine aJ (λ k' vars hh=> ∃ (a' b':Nat) (l':Int) (wb wp:Bool) (e:Array α),(∃ g:Nat->V,vars= [.sl S 0 N cp,aB (a':Int),aB (b':Int),aB l',.fn (bN.f α) [] [],.bool wb,.bool wp,g 7,g 8,g 9,g 10,g 11,g 12,g 13,g 14,g 15,g 16,g 17,g 18,g 19,g 20,g 21,g 22,g 23])/\a'<=b'/\b'<=N/\a<=a'/\b'<=b/\0<=l'/\l'<1000000/\Below bN.lt a' b' e/\dV hh S N e/\Fx (· =S) h hh/\
   (∀ R,PermIn a' b' e R->SortedIn bN.lt a' b' R->PermIn a b d R/\SortedIn bN.lt a b R)/\k'=b'-a') (b-a)
  ⟨a,b,lim,true,true,d,aA rfl,hab,hbN,jI _,jI _,hl0,hl1,hB,A,Fx.refl _ h,λ R h1 h2=>⟨h1,h2⟩,rfl⟩ ?_
 clear A hB hl0 hl1
 rintro k' vars h1 ⟨a',b',l',wb,wp,e,⟨g,rfl⟩,hab',hbN',haa,hbb,hl0,hl1,hB,A,F,K,rfl⟩
 obtain ⟨m,hm⟩: ∃ m,b'-a'=m:=⟨_,rfl⟩
 have em:(b':Int)-(a':Int)=(m:Int):=by omega
 have ez: ∀ {x:Array α} {hx:H},dV hx S N x->b'<=x.size:=λ A=>by rw [A.size];exact hbN'
 by_cases h12:(m:Int)<=12
 ·have e1:decide ((m:Int)<=12)=true:=decide_eq_true h12
  simp (disch:=omega) only [go_sem,em,e1]
  refine (Bo h1 S N a' b' e cp (by omega) A hbN' hab').mono ?_
  rintro _ h2 ⟨A2,F2⟩
  obtain ⟨p1,p2⟩:=insertionSort_holds (bN.swo (α:=α)) e a' b' hab' (ez A)
  obtain ⟨q1,q2⟩:=K _ p1 p2
  simp (disch:=omega) only [go_sem]
  exact ⟨_,A2,q1,q2,gI F F2⟩
 have e1:decide ((m:Int)<=12)=false:=decide_eq_false h12
 by_cases hl:l'=0
 ·have e2:decide (l'=0)=true:=decide_eq_true hl
  simp (disch:=omega) only [go_sem,em,e1,e2]
  refine (Fe h1 S N a' b' e cp (by omega) A hbN' hab').mono ?_
  rintro _ h2 ⟨A2,F2⟩
  obtain ⟨p1,p2⟩:=heapSort_holds (bN.swo (α:=α)) e a' b' hab' (ez A)
  obtain ⟨q1,q2⟩:=K _ p1 p2
  simp (disch:=omega) only [go_sem]
  exact ⟨_,A2,q1,q2,gI F F2⟩
 have e2:decide (l'=0)=false:=decide_eq_false hl
 simp (disch:=omega) only [go_sem,em,e1,e2]
 refine oH (λ vs hh=> ∃ (e2:Array α) (l2:Int) (g:Nat->V),vs= [.sl S 0 N cp,aB (a':Int),aB (b':Int),aB l2,.fn (bN.f α) [] [],.bool wb,.bool wp,aB m,g 8,g 9,g 10,g 11,g 12,g 13,g 14,g 15,g 16,g 17,g 18,g 19,g 20,g 21,g 22,g 23]/\0<=l2/\l2<1000000/\dV hh S N e2/\PermIn a' b' e e2/\Fx (· =S) h hh) ?_ ?_
 ·cases wb with
  |true=>
   simp (disch:=omega) only [go_sem]
   exact .inl ⟨e,l',_,(aA rfl: ∃ g:Nat->V,_= [.sl S 0 N cp,aB (a':Int),aB (b':Int),aB l',.fn (bN.f α) [] [],.bool true,.bool wp,aB m,g 8,g 9,g 10,g 11,g 12,g 13,g 14,g 15,g 16,g 17,g 18,g 19,g 20,g 21,g 22,g 23]).choose_spec,hl0,hl1,A,permIn_refl e a' b',F⟩
  |false=>
   simp (disch:=omega) only [go_sem]
   refine (Ru h1 S N a' b' e cp hN A hbN' hab').mono ?_
   rintro _ h2 ⟨e2,A2,p2,F2⟩
   simp (disch:=omega) only [go_sem]
   exact .inl ⟨e2,l'- 1,_,(aA rfl: ∃ g:Nat->V,_= [.sl S 0 N cp,aB (a':Int),aB (b':Int),aB (l'- 1),.fn (bN.f α) [] [],.bool false,.bool wp,aB m,g 8,g 9,g 10,g 11,g 12,g 13,g 14,g 15,g 16,g 17,g 18,g 19,g 20,g 21,g 22,g 23]).choose_spec,by omega,by omega,A2,p2,gI F F2⟩
 clear A F hl0 hl1 hl e2 g
 rintro vars h2 ⟨e2,l2,g,rfl,hl0,hl1,A,P2,F⟩
 have B2:=hB.perm (by rw [←P2.1];exact ez A) P2
 simp (disch:=omega) only [go_sem]
 refine (Rf h2 S N a' b' e2 cp (by omega) A hbN' (by omega)).mono ?_
 rintro _ h3 ⟨p,t,rfl,hp1,hp2,f3⟩
 have A3:=A.fr f3
 have F3:=gI F (Fx.of f3)
 clear A F
 simp (disch:=omega) only [go_sem]
 refine oH (λ vs hh=> ∃ (e3:Array α) (p2:Nat) (t2:Int) (g:Nat->V),vs= [.sl S 0 N cp,aB (a':Int),aB (b':Int),aB l2,.fn (bN.f α) [] [],.bool wb,.bool wp,aB m,aB p2,aB t2,g 10,g 11,g 12,g 13,g 14,g 15,g 16,g 17,g 18,g 19,g 20,g 21,g 22,g 23]/\a'<=p2/\p2<b'/\dV hh S N e3/\PermIn a' b' e2 e3/\Fx (· =S) h hh) ?_ ?_
 ·refine aY (λ ht=>?_) (λ ht=>?_)
  ·simp (disch:=omega) only [go_sem]
   refine (Jl h3 S N a' b' e2 cp (by omega) A3 hbN' (by omega)).mono ?_
   rintro _ h4 ⟨A4,F4⟩
   have e5:(b':Int)- 1-((p:Int)-(a':Int))=(((b'- 1)-(p-a'):Nat):Int):=by omega
   simp (disch:=omega) only [go_sem,e5]
   exact .inl ⟨_,(b'- 1)-(p-a'),1,_,(aA rfl: ∃ g:Nat->V,_= [.sl S 0 N cp,aB (a':Int),aB (b':Int),aB l2,.fn (bN.f α) [] [],.bool wb,.bool wp,aB m,aB ((b'- 1)-(p-a'):Nat),aB 1,g 10,g 11,g 12,g 13,g 14,g 15,g 16,g 17,g 18,g 19,g 20,g 21,g 22,g 23]).choose_spec,by omega,by omega,A4,reverseRange_holds e2 a' b' hab' (ez A3),gI F3 F4⟩
  ·simp (disch:=omega) only [go_sem]
   exact .inl ⟨e2,p,t,_,(aA rfl: ∃ g:Nat->V,_= [.sl S 0 N cp,aB (a':Int),aB (b':Int),aB l2,.fn (bN.f α) [] [],.bool wb,.bool wp,aB m,aB p,aB t,g 10,g 11,g 12,g 13,g 14,g 15,g 16,g 17,g 18,g 19,g 20,g 21,g 22,g 23]).choose_spec,hp1,hp2,A3,permIn_refl e2 a' b',F3⟩
 have ez2:=ez A3
 clear A3 F3 hp1 hp2 f3 p t g
 rintro vars h4 ⟨e3,p,t,g,rfl,hp1,hp2,A,P3,F⟩
 have B3:=B2.perm ez2 P3
 have P23:=permIn_trans _ _ _ a' b' P2 P3
 have ez3:b'<=e2.size:=ez2
 clear ez2 B2 hB
 refine Rb (λ vs hh=> ∃ (e4:Array α) (g:Nat->V),vs= [.sl S 0 N cp,aB (a':Int),aB (b':Int),aB l2,.fn (bN.f α) [] [],.bool wb,.bool wp,aB m,aB p,g 9,g 10,g 11,g 12,g 13,g 14,g 15,g 16,g 17,g 18,g 19,g 20,g 21,g 22,g 23]/\dV hh S N e4/\PermIn a' b' e e4/\Below bN.lt a' b' e4/\Fx (· =S) h hh) ?_ ?_
 ·have skip: ∀ (vs:List V),(∃ g:Nat->V,vs= [.sl S 0 N cp,aB (a':Int),aB (b':Int),aB l2,.fn (bN.f α) [] [],.bool wb,.bool wp,aB m,aB p,g 9,g 10,g 11,g 12,g 13,g 14,g 15,g 16,g 17,g 18,g 19,g 20,g 21,g 22,g 23])-> ∃ (e4:Array α) (g:Nat->V),vs= [.sl S 0 N cp,aB (a':Int),aB (b':Int),aB l2,.fn (bN.f α) [] [],.bool wb,.bool wp,aB m,aB p,g 9,g 10,g 11,g 12,g 13,g 14,g 15,g 16,g 17,g 18,g 19,g 20,g 21,g 22,g 23]/\dV h4 S N e4/\PermIn a' b' e e4/\Below bN.lt a' b' e4/\Fx (· =S) h h4:=λ vs ⟨g,hv⟩=>⟨e3,g,hv,A,P23,B3,F⟩
  have run: ∀ g:Nat->V,Ev T eJ [.sl S 0 N cp,aB (a':Int),aB (b':Int),.fn (bN.f α) [] []] h4 (λ v h'=> ∃ r:Array α×Bool,v= .bool r.2/\dV h' S N r.1/\Fx (· =S) h4 h'/\PermIn a' b' e3 r.1/\(r.2=true->SortedIn bN.lt a' b' r.1)):=λ _=>by
   refine (Is h4 S N a' b' e3 cp (by omega) A hbN' (by omega)).mono ?_
   rintro v h5 ⟨hv,A5,F5⟩
   obtain ⟨q1,q2⟩:=partialInsertionSort_holds (bN.swo (α:=α)) e3 a' b' (by omega) (ez A) B3
   exact ⟨_,hv,A5,F5,q1,q2⟩
  cases wb with
  |false=>
   simp (disch:=omega) only [go_sem]
   exact .inl (skip _ (aA rfl))
  |true=>cases wp with
   |false=>
    simp (disch:=omega) only [go_sem]
    exact .inl (skip _ (aA rfl))
   |true=>
    simp (disch:=omega) only [go_sem]
    refine aY (λ ht=>?_) (λ ht=>?_)
    ·simp (disch:=omega) only [go_sem]
     refine (run g).mono ?_
     rintro v h5 ⟨⟨e5,r5⟩,rfl,A5,F5,q1,q2⟩
     have A5:dV h5 S N e5:=A5
     have q1:PermIn a' b' e3 e5:=q1
     have P5:=permIn_trans _ _ _ a' b' P23 q1
     cases r5 with
     |false=>
      simp (disch:=omega) only [go_sem]
      exact .inl ⟨e5,_,(aA rfl: ∃ g:Nat->V,_= [.sl S 0 N cp,aB (a':Int),aB (b':Int),aB l2,.fn (bN.f α) [] [],.bool true,.bool true,aB m,aB p,g 9,g 10,g 11,g 12,g 13,g 14,g 15,g 16,g 17,g 18,g 19,g 20,g 21,g 22,g 23]).choose_spec,A5,P5,B3.perm (ez A) q1,gI F F5⟩
     |true=>
      obtain ⟨w1,w2⟩:=K _ P5 (q2 rfl)
      simp (disch:=omega) only [go_sem]
      exact .inr ⟨by simp,e5,A5,w1,w2,gI F F5⟩
    ·simp (disch:=omega) only [go_sem]
     exact .inl (skip _ (aA rfl))
 clear A P3 P23 B3 F P2 ez3 e3 e2
 rintro vars h5 ⟨e4,g,rfl,A,P4,B4,F⟩
 have ez4:=ez A
 refine Rb (λ vs hh=> ∃ (g:Nat->V),vs= [.sl S 0 N cp,aB (a':Int),aB (b':Int),aB l2,.fn (bN.f α) [] [],.bool wb,.bool wp,aB m,aB p,g 9,g 10,g 11,g 12,g 13,g 14,g 15,g 16,g 17,g 18,g 19,g 20,g 21,g 22,g 23]/\dV hh S N e4/\Fx (· =S) h hh) ?_ ?_
 ·by_cases h0:(0:Int)<(a':Int)
  case neg=>
   have e1:decide ((0:Int)<(a':Int))=false:=decide_eq_false h0
   simp (disch:=omega) only [go_sem,e1]
   exact .inl ⟨_,(aA rfl: ∃ g:Nat->V,_= [.sl S 0 N cp,aB (a':Int),aB (b':Int),aB l2,.fn (bN.f α) [] [],.bool wb,.bool wp,aB m,aB p,g 9,g 10,g 11,g 12,g 13,g 14,g 15,g 16,g 17,g 18,g 19,g 20,g 21,g 22,g 23]).choose_spec,A.fr ((Fr.refl h5).bF (by omega)),gI F (Fx.of ((Fr.refl h5).bF (by omega)))⟩
  have e1:decide ((0:Int)<(a':Int))=true:=decide_eq_true h0
  have ea:(a':Int)- 1=((a'- 1:Nat):Int):=by omega
  have c1:=A.rd (i:=a'- 1) (by omega)
  have c2:=A.rd (i:=p) (by omega)
  simp (disch:=omega) only [go_sem,e1,ea,c1,c2]
  refine (kO A (i:=a'- 1) (j:=p) (by omega) (by omega) _ (by omega)).mono ?_
  rintro _ h6 ⟨z,rfl,hz,fh6⟩
  have f6:Fr h5 h6:=Fr.trans ((Fr.refl h5).bF (by omega)) fh6
  have A6:=A.fr f6
  have F6:=gI F (Fx.of f6)
  cases hl:bN.lt e4[a'- 1]! e4[p]! with
  |true=>
   simp (disch:=omega) only [go_sem,hz,hl]
   exact .inl ⟨_,(aA rfl: ∃ g:Nat->V,_= [.sl S 0 N cp,aB (a':Int),aB (b':Int),aB l2,.fn (bN.f α) [] [],.bool wb,.bool wp,aB m,aB p,g 9,g 10,g 11,g 12,g 13,g 14,g 15,g 16,g 17,g 18,g 19,g 20,g 21,g 22,g 23]).choose_spec,A6,F6⟩
  |false=>
   obtain ⟨w1,w2,w3,w4,w5⟩:=round_eq (bN.swo (α:=α)) (partitionEqual_holds bN.lt) (by omega) hp1 hp2 ez4 B4 hl (Prod.eta (partitionEqual bN.lt e4 a' b' p)).symm
   simp (disch:=omega) only [go_sem,hz,hl]
   refine (Nj h6 S N a' b' p e4 cp (by omega) A6 hbN' hp1 hp2).mono ?_
   rintro _ h7 ⟨rfl,A7,F7⟩
   simp (disch:=omega) only [go_sem]
   refine .inr ⟨by simp,b'-(partitionEqual bN.lt e4 a' b' p).1,by omega,(partitionEqual bN.lt e4 a' b' p).1,b',l2,wb,wp,_,aA rfl,w2,hbN',by omega,hbb,hl0,hl1,w4,A7,gI F6 F7,λ R r1 r2=>?_,rfl⟩
   obtain ⟨t1,t2⟩:=w5 R r1 r2
   exact K R (permIn_trans _ _ _ a' b' P4 t1) t2
 clear A F
 rintro vars h6 ⟨g,rfl,A,F⟩
 have e8:=Si m (k:=8) (m:=8) rfl
 simp (disch:=omega) only [go_sem]
 refine (Bx h6 S N a' b' p e4 cp (by omega) A hbN' hp1 hp2).mono ?_
 obtain ⟨r,hr⟩: ∃ r,partition bN.lt e4 a' b' p=r:=⟨_,rfl⟩
 rw [hr]
 obtain ⟨mid,ap,e5⟩:=r
 obtain ⟨w1,w2,w3,w4,w5,w6,w7⟩:=round_part (bN.swo (α:=α)) (partition_holds bN.lt) hp1 hp2 ez4 B4 hr
 rintro _ h7 ⟨rfl,A7,F7⟩
 have A7:dV h7 S N e5:=A7
 have F7:=gI F F7
 have el:(mid:Int)-(a':Int)=((mid-a':Nat):Int):=by omega
 have er:(b':Int)-(mid:Int)=((b'-mid:Nat):Int):=by omega
 have e1:(mid:Int)+1=((mid+1:Nat):Int):=by omega
 simp (disch:=omega) only [go_sem,el,er,e8]
 refine aY (λ ht=>?_) (λ ht=>?_)
 ·simp (disch:=omega) only [go_sem]
  refine (ih (mid-a') (by omega) h7 S N a' mid l2 e5 cp hN A7 w1 (by omega) (jI _) hl0 hl1 w4).mono ?_
  rintro _ h8 ⟨L,A8,p8,s8,F8⟩
  obtain ⟨u1,u2⟩:=w6 L p8 s8
  simp (disch:=omega) only [go_sem,e1]
  refine ⟨b'-(mid+1),by omega,mid+1,b',l2,_,ap,L,aA rfl,by omega,hbN',by omega,hbb,hl0,hl1,u1,A8,gI F7 F8,λ R r1 r2=>?_,rfl⟩
  obtain ⟨t1,t2⟩:=u2 R r1 r2
  exact K R (permIn_trans _ _ _ a' b' P4 t1) t2
 ·simp (disch:=omega) only [go_sem,e1]
  refine (ih (b'-(mid+1)) (by omega) h7 S N (mid+1) b' l2 e5 cp hN A7 (by omega) hbN' (jI _) hl0 hl1 w5).mono ?_
  rintro _ h8 ⟨L,A8,p8,s8,F8⟩
  obtain ⟨u1,u2⟩:=w7 L p8 s8
  simp (disch:=omega) only [go_sem]
  refine ⟨mid-a',by omega,a',mid,l2,_,ap,L,aA rfl,by omega,by omega,haa,by omega,hl0,hl1,u1,A8,gI F7 F8,λ R r1 r2=>?_,rfl⟩
  obtain ⟨t1,t2⟩:=u2 R r1 r2
  exact K R (permIn_trans _ _ _ a' b' P4 t1) t2
theorem CH  {α:Type} [Inhabited α] [O:bN α] (n:Nat):MX (α:=α) n:=by
 induction n using Nat.strongRecOn with
 |_ n ih=>exact JV n  ih
theorem GH {α:Type} [Inhabited α] [O:bN α] (h:H) (S N:Nat) (d:Array α) (cp:uO) (hN:N<60000) (A:dV h S N d):
  Ev T eZ [.sl S 0 N cp,.fn (bN.f α) [] []] h (λ _ h'=> ∃ e,dV h' S N e/\PermIn 0 N d e/\SortedIn bN.lt 0 N e/\Fx (· =S) h h'):=by
 refine aZ kE rfl ?_
 have hb:bitsLen N<=16:=(bitsLen_le_iff _ 16).2 (by omega)
 simp (disch:=omega) only [go_sem,cH,aF,fT (n:=(N:Int)) (by omega) (by omega)]
 refine (JC N h (by omega)).mono ?_
 rintro _ h1 ⟨rfl,hh⟩
 subst hh
 simp (disch:=omega) only [go_sem]
 refine (CH N h1 S N 0 N _ d cp hN A (by omega) (by omega) (by omega) (by omega) (by omega) (.inl rfl)).mono ?_
 rintro _ h2 ⟨e,A2,p,s,F⟩
 simp (disch:=omega) only [go_sem]
 exact ⟨e,A2,p,s,F⟩
theorem Fm (a:Int) (h:H):Ev T Ce [aB a] h (λ v h'=>v= .bool false/\h'=h):=by
 refine aZ Cc rfl ?_
 have e:decide (a≠a)=false:=gJ (by omega)
 simp (disch:=omega) only [go_sem,mH,aF,e]
def Cj (a b:Int):Int:=if a<b then -1 else if b<a then 1 else 0
theorem Jn (a b:Int) (h:H):Ev T Ku [aB a,aB b] h (λ v h'=>v= aB (Cj a b)/\Fr h h'):=by
 refine aZ Ld rfl ?_
 simp (disch:=omega) only [go_sem,mW,aF]
 refine (Fm a h).mono ?_
 rintro _ h1 ⟨rfl,rfl⟩
 simp (disch:=omega) only [go_sem]
 refine (Fm b h1).mono ?_
 rintro _ h2 ⟨rfl,rfl⟩
 simp (disch:=omega) only [go_sem]
 unfold Cj
 by_cases h1:a<b
 ·have d1:decide (a<b)=true:=decide_eq_true h1
  simp (disch:=omega) only [go_sem,d1,if_pos h1]
  exact Fr.refl _
 ·have d1:decide (a<b)=false:=decide_eq_false h1
  by_cases h3:b<a
  ·have d2:decide (b<a)=true:=decide_eq_true h3
   simp (disch:=omega) only [go_sem,d1,d2,if_neg h1,if_pos h3]
   exact Fr.refl _
  ·have d2:decide (b<a)=false:=decide_eq_false h3
   simp (disch:=omega) only [go_sem,d1,d2,if_neg h1,if_neg h3]
   exact Fr.refl _
def UK:List Int->Int
 | []=>0
 |x::r=>if x=0 then UK r else x
theorem VD {l:List Int} {i:Nat} (hi:i<l.length) (h:l.getD i 0=0):UK (l.drop i)=UK (l.drop (i+1)):=by
 rw [List.drop_eq_getElem_cons hi]
 show (if l[i]=0 then _ else _)=_
 rw [if_pos (by rw [List.getD,iH hi] at h;exact h)]
theorem aeH {l:List Int} {i:Nat} (hi:i<l.length) (h:l.getD i 0≠0):UK (l.drop i)=l.getD i 0:=by
 rw [List.drop_eq_getElem_cons hi]
 show (if l[i]=0 then _ else l[i])=_
 have e:l.getD i 0=l[i]:=by rw [List.getD,iH hi];rfl
 rw [if_neg (by rw [←e];exact h),e]
theorem akP (u:V) (l:List Int) (h:H) (hl:l.length<1000000) (hu:SI h u l):Ev T BC [u] h (λ v h'=>v= aB (UK l)/\Fr h h'):=by
 refine aZ AN rfl ?_
 have lu:=hu.lens
 obtain ⟨id,off,sh,hid,hc⟩:=hu.open
 simp (disch:=omega) only [go_sem,vC,aF,lu]
 refine aJ (λ k' vs hh=> ∃ (i:Nat),(∃ g:Nat->V,vs= [u,aB 0,aB 0,g 3,u,aB (l.length:Int),aB i,g 7,g 8])/\i<=l.length/\UK (l.drop i)=UK l/\Fr h hh/\k'=l.length-i) l.length
   ⟨0,aA rfl,mJ _,rfl,Fr.refl h,rfl⟩ ?_
 rintro k' vars h2 ⟨i,⟨g,rfl⟩,hi,ho,f,rfl⟩
 by_cases hlt:(i:Int)<(l.length:Int)
 ·have d4:=mG hlt
  have hi':i<l.length:=by omega
  have ci:h2.cell id (off+i)=some (aB (l.getD i 0)):=by rw [f.cell (hid (by omega)),hc i hi']
  generalize hx:l.getD i 0=x at ci
  simp (disch:=omega) only [go_sem,d4,sh.ixa,ci]
  by_cases hz:x=0
  ·have d5:decide (x≠0)=false:=decide_eq_false (by simpa using hz)
   simp (disch:=omega) only [go_sem,d5]
   rw [iJ i]
   exact ⟨l.length-(i+1),by omega,i+1,aA rfl,by omega,by rw [←VD hi' (hx.trans hz)];exact ho,f.bF (by omega),rfl⟩
  ·have d5:decide (x≠0)=true:=decide_eq_true hz
   simp (disch:=omega) only [go_sem,d5]
   exact ⟨by rw [←ho,aeH hi' (by rw [hx];exact hz),hx],f.bF (by omega)⟩
 have d4:=gJ hlt
 obtain rfl:i=l.length:=by omega
 simp (disch:=omega) only [go_sem,d4]
 rw [List.drop_length] at ho
 exact ⟨by rw [←ho];rfl,f⟩
structure KE where
 rep:V
 ord:Nat
 size:Nat
 ranks:V
 fst:Nat
 hrep:rep.cells= [rep]/\rep.one=true/\eU rep rep=true
 hranks:ranks.cells= [ranks]/\ranks.one=true/\eU ranks ranks=true
instance:Inhabited KE:=⟨⟨.aC,0,0,.aC,0,⟨rfl,rfl,rfl⟩,⟨rfl,rfl,rfl⟩⟩⟩
def KE.enc (a:KE):List V:= [a.rep,aB (a.ord:Int),aB (a.size:Int),a.ranks]
def KE.cmp (a b:KE):Int:=UK [Cj a.ord b.ord,Cj a.size b.size,Cj a.fst b.fst]
def KE.lt (a b:KE):Bool:=decide (a.cmp b<0)
theorem Kg (a:KE) (h:H):Qa h (.agg a.enc)=some (.ptr h.next 0,h.new (.cells false a.enc)):=Ew h _ (by simp [KE.enc,a.hrep.2.1,a.hranks.2.1,show (aB (a.ord:Int)).one=true from rfl,show (aB (a.size:Int)).one=true from rfl])
theorem TP (a b:KE) (h:H):Ev T Ct [.agg a.enc,.agg b.enc] h (λ v h'=>v= aB (Cj a.ord b.ord)/\Fr h h'):=by
 refine aZ Co rfl ?_
 obtain ⟨A,hA⟩: ∃ A,h.next=A:=⟨_,rfl⟩
 obtain ⟨h1,e1,n1,g1,o1,f1⟩:=iK hA a.enc
 obtain ⟨h2,e2,n2,g2,o2,f2⟩:=iK n1 b.enc
 have gA:h2.get A=some (.cells false a.enc):=by rw [o2 _ (by omega)];exact g1
 have cA:h2.cell A 1=some (aB (a.ord:Int)):=by rw [H.aG gA];rfl
 have cB:h2.cell (A+1) 1=some (aB (b.ord:Int)):=by rw [H.aG g2];rfl
 simp (disch:=omega) only [go_sem,jD,aF,Kg,hA,e1,n1,e2,cA,cB]
 refine (Jn _ _ h2).mono ?_
 rintro _ h3 ⟨rfl,f3⟩
 simp (disch:=omega) only [go_sem]
 exact (f1.trans f2).trans f3
theorem ZQ (a b:KE) (h:H):Ev T En [.agg a.enc,.agg b.enc] h (λ v h'=>v= aB (Cj a.size b.size)/\Fr h h'):=by
 refine aZ Dv rfl ?_
 obtain ⟨A,hA⟩: ∃ A,h.next=A:=⟨_,rfl⟩
 obtain ⟨h1,e1,n1,g1,o1,f1⟩:=iK hA a.enc
 obtain ⟨h2,e2,n2,g2,o2,f2⟩:=iK n1 b.enc
 have gA:h2.get A=some (.cells false a.enc):=by rw [o2 _ (by omega)];exact g1
 have cA:h2.cell A 2=some (aB (a.size:Int)):=by rw [H.aG gA];rfl
 have cB:h2.cell (A+1) 2=some (aB (b.size:Int)):=by rw [H.aG g2];rfl
 simp (disch:=omega) only [go_sem,jQ,aF,Kg,hA,e1,n1,e2,cA,cB]
 refine (Jn _ _ h2).mono ?_
 rintro _ h3 ⟨rfl,f3⟩
 simp (disch:=omega) only [go_sem]
 exact (f1.trans f2).trans f3
def KE.At (h:H) (a:KE):Prop:= ∃ id off n cap,a.ranks= .sl id off (n+1) cap/\id<h.next/\h.cell id off=some (aB (a.fst:Int))
theorem QX (a b:KE) (h:H) (ha:a.At h) (hb:b.At h):Ev T Cw [.agg a.enc,.agg b.enc] h (λ v h'=>v= aB (Cj a.fst b.fst)/\Fr h h'):=by
 refine aZ Cx rfl ?_
 obtain ⟨A,hA⟩: ∃ A,h.next=A:=⟨_,rfl⟩
 obtain ⟨h1,e1,n1,g1,o1,f1⟩:=iK hA a.enc
 obtain ⟨h2,e2,n2,g2,o2,f2⟩:=iK n1 b.enc
 obtain ⟨ia,oa,na,ca,ea,la,ga⟩:=ha
 obtain ⟨ib,ob,nb,cb,eb,lb,gb⟩:=hb
 have F2:=f1.trans f2
 have gA:h2.get A=some (.cells false a.enc):=by rw [o2 _ (by omega)];exact g1
 have cA:h2.cell A 3=some a.ranks:=by rw [H.aG gA];rfl
 have cB:h2.cell (A+1) 3=some b.ranks:=by rw [H.aG g2];rfl
 rw [ea] at cA
 rw [eb] at cB
 have ra:h2.cell ia oa=some (aB (a.fst:Int)):=by rw [F2.cell la];exact ga
 have rb:h2.cell ib ob=some (aB (b.fst:Int)):=by rw [F2.cell lb];exact gb
 simp (disch:=omega) only [go_sem,jG,aF,Kg,hA,e1,n1,e2,cA,cB,ra,rb]
 refine (Jn _ _ _).mono ?_
 rintro _ h3 ⟨rfl,f3⟩
 have F3:Fr h2 h3:=((Fr.refl h2).bF (by omega)).trans f3
 have ha:=F2.next
 have cA3:h3.cell A 3=some (.sl ia oa (na+1) ca):=by rw [F3.cell (by omega)];exact cA
 have cB3:h3.cell (A+1) 3=some (.sl ib ob (nb+1) cb):=by rw [F3.cell (by omega)];exact cB
 have ra3:h3.cell ia oa=some (aB (a.fst:Int)):=by rw [F3.cell (by omega)];exact ra
 have rb3:h3.cell ib ob=some (aB (b.fst:Int)):=by rw [F3.cell (by omega)];exact rb
 simp (disch:=omega) only [go_sem,cA3,cB3,ra3,rb3]
 exact F2.trans F3
theorem Gb {h:H} {A:Nat} {ro:Bool} {a:KE} (hg:h.get A=some (.cells ro a.enc)):h.row A 0 4=some a.enc:=by
 simp [H.row,hg,sub,KE.enc]
theorem Oh (a:KE):eU (.agg a.enc) (.agg a.enc)=true:=by
 show yB a.enc a.enc=true
 simp [KE.enc,yB,eU,a.hrep.2.2,a.hranks.2.2]
theorem KE.At.fr {a:KE} {h h':H} (x:a.At h) (f:Fr h h'):a.At h':=by
 obtain ⟨ia,oa,na,ca,ea,la,ga⟩:=x
 exact ⟨ia,oa,na,ca,ea,mM la f.next,by rw [f.cell la];exact ga⟩
theorem JE (h:H) (x y z:Int):rV h 1 [aB 0] 3 [(0,1,aB x),(1,1,aB y),(2,1,aB z)]=some (.sl h.next 0 3 (.kn 3),h.new (.cells false (ints [x,y,z]))):=rfl
theorem aeE (a b:KE) (h:H) (ha:a.At h) (hb:b.At h):Ev T xJ [.agg a.enc,.agg b.enc] h (λ v h'=>v= aB (a.cmp b)/\Fr h h'):=by
 refine aZ Tj rfl ?_
 obtain ⟨A,hA⟩: ∃ A,h.next=A:=⟨_,rfl⟩
 obtain ⟨h1,e1,n1,g1,o1,f1⟩:=iK hA a.enc
 obtain ⟨h2,e2,n2,g2,o2,f2⟩:=iK n1 b.enc
 have F2:=f1.trans f2
 have gA:h2.get A=some (.cells false a.enc):=by rw [o2 _ (by omega)];exact g1
 simp (disch:=omega) only [go_sem,qW,aF,Kg,hA,e1,n1,e2,Gb gA,Gb g2,Oh,H.IA]
 have hn:=F2.next
 refine (TP a b _).mono ?_
 rintro _ h3 ⟨rfl,f3⟩
 have F3:Fr h2 h3:=((Fr.refl h2).bF (by omega)).trans f3
 have gB3:h3.get (A+1)=some (.cells false b.enc):=by rw [F3.get _ (by omega)];exact g2
 simp (disch:=omega) only [go_sem,Gb gB3,Oh]
 refine (ZQ a b _).mono ?_
 rintro _ h4 ⟨rfl,f4⟩
 have F4:=F3.trans f4
 have gB4:h4.get (A+1)=some (.cells false b.enc):=by rw [F4.get _ (by omega)];exact g2
 simp (disch:=omega) only [go_sem,Gb gB4,Oh]
 refine (QX a b _ (ha.fr (F2.trans F4)) (hb.fr (F2.trans F4))).mono ?_
 rintro _ h5 ⟨rfl,f5⟩
 have F5:=F4.trans f5
 have gB5:h5.get (A+1)=some (.cells false b.enc):=by rw [F5.get _ (by omega)];exact g2
 simp (disch:=omega) only [go_sem,Gb gB5,Oh]
 obtain ⟨I,hI⟩: ∃ I,h2.next+9+9=I:=⟨_,rfl⟩
 have n5:=f5.next
 have n4:=f4.next
 have n3:h2.next+9+12<=h3.next:=f3.next
 simp (disch:=omega) only [go_sem,hI,JE]
 obtain ⟨h6,h6e⟩: ∃ h6:H,h6=H.mk ((H.mk h5.tr I).new (Ob.cells false (ints [Cj a.ord b.ord,Cj a.size b.size,Cj a.fst b.fst]))).tr h5.next:=⟨_,rfl⟩
 rw [←h6e]
 have g6:h6.get I=bQ (ints [Cj a.ord b.ord,Cj a.size b.size,Cj a.fst b.fst]):=by rw [h6e];exact H.aQ (H.mk h5.tr I) _
 have n6:h6.next=h5.next:=by rw [h6e]
 have o6: ∀ k,k≠I->h6.get k=h5.get k:=λ k hk=>by rw [h6e];exact H.bM (H.mk h5.tr I) (by simpa using hk) _
 have F6:Fr h2 h6:=⟨by have:=F5.next;omega,λ k hk=>by rw [o6 k (by omega)];exact F5.get k hk⟩
 refine (akP _ [Cj a.ord b.ord,Cj a.size b.size,Cj a.fst b.fst] h6 (by simp) (SV.all (by simp [aS]) (by omega) g6 _)).mono ?_
 rintro _ h7 ⟨rfl,f7⟩
 have F7:=F6.trans f7
 have gB7:h7.get (A+1)=some (.cells false b.enc):=by rw [F7.get _ (by omega)];exact g2
 simp (disch:=omega) only [go_sem,Gb gB7,Oh]
 exact ⟨rfl,F2.trans F7⟩
theorem KE.lt_iff (a b:KE):a.lt b=true↔a.ord<b.ord∨a.ord=b.ord/\(a.size<b.size∨a.size=b.size/\a.fst<b.fst):=by
 unfold KE.lt KE.cmp UK UK UK UK Cj
 rw [decide_eq_true_eq]
 repeat' split
 all_goals omega
theorem ajV:SWO KE.lt where
 irrefl x:=by rw [←Bool.not_eq_true,KE.lt_iff];omega
 trans x y z h1 h2:=by rw [KE.lt_iff] at*;omega
 ntrans x y z h1 h2:=by rw [←Bool.not_eq_true,KE.lt_iff] at*;omega
def KE.Pp (hB:H) (b0 S:Nat) (a:KE):Prop:= ∃ id off n cap,a.ranks= .sl id off (n+1) cap/\id<b0/\id≠S/\hB.cell id off=some (aB (a.fst:Int))
def Bb (hB:H) (b0 S:Nat) (h:H):Prop:=b0<=h.next/\ ∀ q,q<b0->q≠S->h.get q=hB.get q
theorem KE.Pp.at {hB h:H} {b0 S:Nat} {a:KE} (p:a.Pp hB b0 S) (b:Bb hB b0 S h):a.At h:=by
 obtain ⟨id,off,n,cap,e,h1,h2,h3⟩:=p
 refine ⟨id,off,n,cap,e,mM h1 b.1,?_⟩
 rw [←h3]
 unfold H.cell
 rw [b.2 id h1 h2]
@[reducible] def akL (hB:H) (b0 S:Nat):bN KE where
 lt:=KE.lt
 enc:=KE.enc
 P:=KE.Pp hB b0 S
 B:=Bb hB b0 S
 f:=xJ
 b0:=b0
 S:=S
 swo:=ajV
 len _:=rfl
 one a:=by simp [KE.enc,a.hrep.2.1,a.hranks.2.1,show (aB (a.ord:Int)).one=true from rfl,show (aB (a.size:Int)).one=true from rfl]
 eqv:=Oh
 cmp h a b hb pa pb:=(aeE a b h (pa.at hb) (pb.at hb)).mono λ v h' ⟨e,f⟩=>⟨_,e,rfl,f⟩
 bfr h h' b f:=⟨Nat.le_trans b.1 f.next,λ q h1 h2=>by rw [f.get q (mM h1 b.1)];exact b.2 q h1 h2⟩
 bS h h' b f:=⟨Nat.le_trans b.1 f.next,λ q h1 h2=>by rw [f.get q (mM h1 b.1) h2];exact b.2 q h1 h2⟩
 bR h h' R b hR f:=⟨Nat.le_trans b.1 f.next,λ q h1 h2=>by rw [f.get q (mM h1 b.1) (λ e=>by have:q=R:=e;omega)];exact b.2 q h1 h2⟩
 bn h b:=b.1
theorem Wa {l:List KE} {N:Nat} (hl:l.length=N) {e:Array KE} (hp:PermIn 0 N l.toArray e) (hs:SortedIn KE.lt 0 N e):e.toList.Perm l/\e.toList.Pairwise (λ a b=>KE.lt b a=false):=by
 obtain ⟨p1,p2,p3⟩:=hp
 have hsz:e.size=N:=by rw [p1];simpa using hl
 refine ⟨?_,?_⟩
 ·have a1:(e.extract 0 N).toList=e.toList:=by rw [←hsz];simp
  have a2:(l.toArray.extract 0 N).toList=l:=by rw [←hl];simp
  rwa [a1,a2] at p3
 ·rw [List.pairwise_iff_getElem]
  intro i j hi hj hij
  have hj':j<N:=by simpa [hsz] using hj
  have:=hs i j (mJ _) hij hj'
  have e1:e[i]! =e.toList[i]:=by simp at hi;simp [hi]
  have e2:e[j]! =e.toList[j]:=by simp at hj;simp [hj]
  rw [e1,e2] at this
  exact this
def oM (l:List KE):List V:=l.flatMap KE.enc
theorem VT (h:H) (S b0:Nat) (l:List KE) (cp:uO) (hN:l.length<60000) (hg:h.get S=bQ (oM l)) (hS:S<h.next) (hb:b0<=h.next) (hP: ∀ a∈l,a.Pp h b0 S):
  Ev T eZ [.sl S 0 l.length cp,.fn xJ [] []] h (λ _ h'=> ∃ l',h'.get S=bQ (oM l')/\l'.Perm l/\l'.Pairwise (λ a b=>KE.lt b a=false)/\Fx (· =S) h h'):=by
 letI:=akL h b0 S
 have A:dV h S l.length l.toArray:=⟨hg,by simp,hS,rfl,⟨hb,λ _ _ _=>rfl⟩,λ i hi=>by
  have hi':i<l.length:=by simpa using hi
  have:l.toArray[i]! =l[i]:=by simp [hi']
  rw [this]
  exact hP _ (List.getElem_mem hi')⟩
 refine (GH h S l.length l.toArray cp hN A).mono ?_
 rintro _ h' ⟨e,A2,p,s,F⟩
 obtain ⟨q1,q2⟩:=Wa rfl p s
 exact ⟨e.toList,A2.get,q1,q2,F⟩
end Go.Proofs.YtddpkbicnolafaaGreat.Cls
namespace Go.Proofs.YtddpkbicnolafaaGreat
open Go Go.Ay Go.Pm
set_option maxRecDepth 100000
section
variable {n:Nat} {G:List Nat->Prop} {L:LN}
theorem Jf {l:LN} (nd:l.Nodup) {i j:Nat} (hi:i<l.length) (hj:j<l.length) (e:l.getD i []=l.getD j []):i=j:=by
 have ei:l.getD i []=l[i]:=by rw [List.getD,iH hi];rfl
 have ej:l.getD j []=l[j]:=by rw [List.getD,iH hj];rfl
 rw [ei,ej] at e
 have h:=List.pairwise_iff_getElem.1 nd
 rcases Nat.lt_trichotomy i j with h1|h1|h1
 ·exact absurd e (h i j hi hj h1)
 ·exact h1
 ·exact absurd e.symm (h j i hj hi h1)
def cR (G:List Nat->Prop) (L:LN) (i j:Nat):Prop:=cj G (L.getD i []) (L.getD j [])
open Classical in
noncomputable def iG (G:List Nat->Prop) (L:LN) (i:Nat):List Nat:=(List.range L.length).filter λ j=>decide (cR G L i j)
theorem fD {i j:Nat}:j∈iG G L i↔j<L.length/\cR G L i j:=by
 classical
 unfold iG
 rw [List.mem_filter,List.mem_range,decide_eq_true_iff]
theorem FB (i:Nat):(iG G L i).Pairwise (· < ·):=by
 classical
 unfold iG
 exact List.Pairwise.filter _ List.pairwise_lt_range
theorem sV (i:Nat):(iG G L i).Nodup:=by
 classical
 unfold iG
 exact List.Pairwise.filter _ List.nodup_range
def PD (G:List Nat->Prop) (L:LN) (i:Nat):Prop:= ∀ j,j<i-> ¬cR G L j i
open Classical in
noncomputable def jS (G:List Nat->Prop) (L:LN) (k:Nat):List Nat:=(List.range k).filter λ j=>decide (PD G L j)
theorem Th (k:Nat):(PD G L k->jS G L (k+1)=jS G L k++ [k])/\(¬PD G L k->jS G L (k+1)=jS G L k):=by
 classical
 unfold jS
 rw [List.range_succ,List.filter_append]
 refine ⟨λ h=>?_,λ h=>?_⟩
 ·rw [List.filter_cons_of_pos (by simpa using h)];rfl
 ·rw [List.filter_cons_of_neg (by simpa using h),List.filter_nil,List.append_nil]
theorem iE {k i:Nat}:i∈jS G L k↔i<k/\PD G L i:=by
 classical
 unfold jS
 rw [List.mem_filter,List.mem_range,decide_eq_true_iff]
variable (hG:yV n G) (E:iL G L)
include hG E
omit hG in
theorem rQ {i:Nat} (hi:i<L.length):G (L.getD i []):=(E.mem _).1 (bG hi)
theorem gZ {i:Nat} (hi:i<L.length):bI n (L.getD i []):=hG.dR (rQ E hi)
theorem Lg {i:Nat} (hi:i<L.length):cR G L i i:=afY hG (gZ hG E hi)
theorem Qx {i j:Nat} (hi:i<L.length) (h:cR G L i j):cR G L j i:=AJ hG (gZ hG E hi) h
theorem Ah {i j k:Nat} (hi:i<L.length) (h:cR G L i j) (h2:cR G L j k):cR G L i k:=Dr hG (gZ hG E hi) h h2
theorem aiR {i:Nat} (hi:i<L.length): ∃ r,r<=i/\PD G L r/\cR G L r i:=by
 induction i using Nat.strongRecOn with
 |_ i ih=>
  by_cases h:PD G L i
  ·exact ⟨i,jI _,h,Lg hG E hi⟩
  ·obtain ⟨j,hj,hc⟩: ∃ j,j<i/\cR G L j i:=DZ λ hn=>h λ j hj hc=>hn ⟨j,hj,hc⟩
   obtain ⟨r,h1,h2,h3⟩:=ih j hj (by omega)
   exact ⟨r,by omega,h2,Ah hG E (by omega) h3 hc⟩
theorem Sn {r s i:Nat} (hr:r<L.length) (hs:s<L.length) (h1:PD G L r) (h2:PD G L s) (c1:cR G L r i) (c2:cR G L s i):r=s:=by
 have a1:=Ah hG E hr c1 (Qx hG E hs c2)
 have a2:=Ah hG E hs c2 (Qx hG E hr c1)
 rcases Nat.lt_trichotomy r s with h|h|h
 ·exact absurd a1 (h2 r h)
 ·exact h
 ·exact absurd a2 (h1 s h)
omit hG E in
structure BQ (G:List Nat->Prop) (L S:LN) (i:Nat) (Q:List Nat) (p:Nat):Prop where
 nd:Q.Nodup
 ne:0<Q.length
 hd:Q.getD 0 0=i
 mem: ∀ j∈Q,j<L.length/\cR G L i j
 cl: ∀ k,k<p-> ∀ s∈S,∃ j∈Q,L.getD j []=cV (L.getD (Q.getD k 0) []) s
omit hG E in
theorem BQ.len {S:LN} {i p:Nat} {Q:List Nat} (b:BQ G L S i Q p):Q.length<=L.length:=by
 have h:Q ⊆ List.range L.length:=λ j hj=>List.mem_range.2 (b.mem j hj).1
 have:=List.Nodup.length_le_of_subset b.nd h
 rwa [List.length_range] at this
theorem BQ.done {S:LN} {i p:Nat} {Q:List Nat} (b:BQ G L S i Q p) (hp:Q.length<=p) (hi:i<L.length) (hS: ∀ s∈S,G s) (hgen: ∀ x,G x->fS n (λ g=>g∈S) x) (j:Nat):j∈Q↔j<L.length/\cR G L i j:=by
 refine ⟨b.mem j,λ ⟨hj,hc⟩=>?_⟩
 have key: ∃ k∈Q,L.getD k []=L.getD j []:=by
  refine akD (S:=λ g=>g∈S) (λ g hg=>hG.dR (hS g hg)) hgen (P:=λ y=> ∃ k∈Q,L.getD k []=y) (gZ hG E hi) ⟨i,by rw [←b.hd];exact bG b.ne,rfl⟩ ?_ hc
  rintro y g Y ⟨k,hk,rfl⟩ hg
  obtain ⟨t,ht,et⟩:=List.mem_iff_getElem.1 hk
  obtain ⟨j2,h1,h2⟩:=b.cl t (by omega) g hg
  have e:Q.getD t 0=k:=by rw [Pm.bW ht,et]
  rw [e] at h2
  exact ⟨j2,h1,h2⟩
 obtain ⟨k,hk,e⟩:=key
 have hkl:=(b.mem k hk).1
 rw [←Jf E.nodup hkl hj e]
 exact hk
theorem BQ.sort {S:LN} {i p:Nat} {Q:List Nat} (b:BQ G L S i Q p) (hp:Q.length<=p) (hi:i<L.length) (hS: ∀ s∈S,G s) (hgen: ∀ x,G x->fS n (λ g=>g∈S) x) {l':List Int} (h1:l'.Perm (zi Q)) (h2:l'.Pairwise (· <= ·)):l'=zi (iG G L i):=by
 refine HO (h1.trans ?_) h2 ?_
 ·refine List.Perm.map _ ((List.perm_ext_iff_of_nodup b.nd (sV i)).2 λ j=>?_)
  rw [b.done hG E hp hi hS hgen j,fD]
 ·unfold zi
  rw [List.pairwise_map]
  exact (FB i).imp λ h=>by omega
theorem Nu {i:Nat} (hi:i<L.length) (hr:PD G L i):0<(iG G L i).length/\(iG G L i).getD 0 0=i:=by
 have hm:i∈iG G L i:=fD.2 ⟨hi,Lg hG E hi⟩
 have hl:=List.length_pos_of_mem hm
 refine ⟨hl,?_⟩
 have h0:=fD.1 (bG (d:=0) hl)
 obtain ⟨k,hk,ek⟩:=List.mem_iff_getElem.1 hm
 have asc:=List.pairwise_iff_getElem.1 (FB (G:=G) (L:=L) i)
 rw [Pm.bW hl] at*
 by_cases hk0:k=0
 ·subst hk0;exact ek
 ·have h1:=asc 0 k hl hk (by omega)
  exact absurd (Qx hG E hi h0.2) (hr _ (by omega))
end
end Go.Proofs.YtddpkbicnolafaaGreat
namespace Go.Ay
open Go
def ZE (o:Option Ob) (h:H) (id:Nat) (s:Hx) (k y:V):Option (V×H):=match o with
 |some (.wmap sh es)=>if s=sh/\isKey s k=true then
   some (V.undef,h.set id (some (.wmap sh (match gW k es with
    |some e=>es.set e.1 (k,y)
    |none=>es++ [(k,y)]))))
  else none
 |_=>none
def ajU (s:Hx) (h:H) (x k y:V):Option (V×H):=match x with
 | .mp id=>ZE (h.get id) h id s k y
 |_=>none
theorem aeY (ρ:X->V) (h:H) (s:Hx) (x k y:X):cY ρ h (.msw s x k y)=ajU s h (ρ x) (ρ k) (ρ y):=by
 simp only [cY,ajU,ZE]
 cases ρ x<;>try rfl
theorem adE (s:Hx) (h:H) (id:Nat) (k y:V):ajU s h (.mp id) k y=ZE (h.get id) h id s k y:=rfl
def BX (o:Option Ob) (s:Hx) (zero:V) (ok:Bool) (k:V):Option V:=match o with
 |some (.wmap sh es)=>if s=sh/\isKey s k=true then
   match gW k es with
   |some e=>some (if ok then .tup [e.2,.bool true] else e.2)
   |none=>some (if ok then .tup [zero,.bool false] else zero)
  else none
 |_=>none
def ahN (s:Hx) (zero:V) (ok:Bool) (h:H) (x k:V):Option V:=match x with
 | .mp id=>BX (h.get id) s zero ok k
 |_=>none
theorem aeL (ρ:X->V) (h:H) (s:Hx) (zero:V) (ok:Bool) (x k:X):cY ρ h (.lkw s zero ok x k)=(ahN s zero ok h (ρ x) (ρ k)).map (·,h):=by
 simp only [cY,ahN,BX]
 cases ρ x<;>try rfl
 rename_i id
 simp only
 cases hg:h.get id with
 |none=>rfl
 |some o=>
  cases o<;>try rfl
  rename_i sh es
  simp only
  by_cases hc:s=sh/\isKey s (ρ k)=true
  ·rw [if_pos hc,if_pos hc]
   cases gW (ρ k) es<;>rfl
  ·rw [if_neg hc,if_neg hc];rfl
theorem aeA (s:Hx) (zero:V) (ok:Bool) (h:H) (id:Nat) (k:V):ahN s zero ok h (.mp id) k=BX (h.get id) s zero ok k:=rfl
attribute [go_sem] aeY adE aeL aeA
end Go.Ay
namespace Go.Proofs.YtddpkbicnolafaaGreat
open Go Go.Ay Go.Pm
set_option maxRecDepth 100000
def Xq (L:LN) (k:Nat):List (V×V):=(List.range k).map λ i=>(V.str (L.getD i []),aB i)
theorem Nt (k:V): ∀ (a b:List (V×V)),gW k a=none->gW k (a++b)=(gW k b).map λ q=>(q.1+a.length,q.2)
 | [],b,_=>by
  cases h:gW k b<;>simp [h]
 |e::a,b,h=>by
  show (if eU k e.1 then some (0,e.2) else (gW k (a++b)).map λ q=>(q.1+1,q.2))=_
  have h':(if eU k e.1 then some (0,e.2) else (gW k a).map λ q=>(q.1+1,q.2))=none:=h
  split at h'
  ·cases h'
  ·rename_i hn
   rw [if_neg hn,Nt k a b (by cases h2:gW k a with|none=>rfl|some x=>rw [h2] at h';cases h'),Option.map_map]
   rfl
theorem Vx (L:LN) (k:Nat):Xq L (k+1)=Xq L k++ [(V.str (L.getD k []),aB k)]:=by
 unfold Xq;rw [List.range_succ,List.map_append];rfl
theorem Jx {L:LN} {w:List Nat}: ∀ {k:Nat},(∀ i,i<k->L.getD i []≠w)->gW (.str w) (Xq L k)=none
 |0,_=>rfl
 |k+1,h=>by
  rw [Vx,Nt _ _ _ (Jx λ i hi=>h i (by omega))]
  have:(eU (.str w) (.str (L.getD k [])))=false:=by
   have:=h k (by omega)
   simp only [eU,beq_eq_false_iff_ne,ne_eq]
   exact λ e=>this e.symm
  show Option.map _ (if eU (.str w) (.str (L.getD k [])) then _ else _)=_
  rw [if_neg (by rw [this];simp)];rfl
theorem Rl {L:LN} (nd:L.Nodup): ∀ {k i:Nat},k<=L.length->i<k->gW (.str (L.getD i [])) (Xq L k)=some (i,aB i)
 |0,i,_,h=>by omega
 |k+1,i,hk,h=>by
  rw [Vx]
  by_cases e:i=k
  ·subst e
   rw [Nt _ _ _ (Jx λ j hj e=>by have:=Jf nd (by omega) (by omega) e;omega)]
   show Option.map _ (if eU (.str (L.getD i [])) (.str (L.getD i [])) then some (0,aB i) else _)=_
   rw [if_pos (by simp [eU])]
   simp [Xq]
  ·have ih:=Rl nd (k:=k) (by omega) (show i<k by omega)
   have key: ∀ (a b:List (V×V)) (x:V) (r:Nat×V),gW x a=some r->gW x (a++b)=some r:=by
    intro a
    induction a with
    |nil=>intro b x r h;cases h
    |cons y a ih2=>
     intro b x r h
     show (if eU x y.1 then some (0,y.2) else (gW x (a++b)).map λ q=>(q.1+1,q.2))=_
     have h':(if eU x y.1 then some (0,y.2) else (gW x a).map λ q=>(q.1+1,q.2))=some r:=h
     by_cases hc:eU x y.1=true
     ·rw [if_pos hc] at h' ⊢;exact h'
     ·rw [if_neg hc] at h' ⊢
      cases h2:gW x a with
      |none=>rw [h2] at h';cases h'
      |some r2=>rw [h2] at h';rw [ih2 b x r2 h2];exact h'
   exact key _ _ _ _ ih
theorem Iu {w:List Nat} (h1:w.length<=1000) (h2: ∀ x∈w,x<256):isKey .str (.str w)=true:=by
 have e:(decide (w.length<2^62)&&w.all λ n=>decide (n<256))=true:=by
  rw [Bool.and_eq_true,decide_eq_true_eq,List.all_eq_true]
  exact ⟨by omega,λ x hx=>by simpa using h2 x hx⟩
 exact e
theorem VJ {L:LN} (nd:L.Nodup) {k:Nat} (hk:k<L.length) (hK:isKey .str (.str (L.getD k []))=true) (hh:H) (M:Nat):
  ZE (some (.wmap .str (Xq L k))) hh M .str (.str (L.getD k [])) (aB k)=some (.undef,hh.set M (some (.wmap .str (Xq L (k+1))))):=by
 have e:gW (.str (L.getD k [])) (Xq L k)=none:=Jx λ j hj e=>by have:=Jf nd (by omega) hk e;omega
 simp only [ZE]
 rw [if_pos ⟨trivial,hK⟩,e,Vx]
theorem FN {L:LN} (nd:L.Nodup) {i:Nat} (hi:i<L.length) (hK:isKey .str (.str (L.getD i []))=true) (z:V):
  BX (some (.wmap .str (Xq L L.length))) .str z false (.str (L.getD i []))=some (aB i):=by
 simp only [BX]
 rw [if_pos ⟨trivial,hK⟩,Rl nd (jI _) hi];rfl
end Go.Proofs.YtddpkbicnolafaaGreat
namespace Go.Proofs.YtddpkbicnolafaaGreat
open Go Go.Ay Go.Pm
set_option maxRecDepth 100000
theorem SO {vL:V} (hc:vL.cells= [vL]) (ho:vL.one=true) (M N m:Nat):Eo [.aC,.nilm,.aC,.aC] [(0,1,vL),(1,1,.mp M),(3,1,.sl N 0 m (.kn m))]=some (.agg [vL,.mp M,.aC,.sl N 0 m (.kn m)]):=by
 simp [Eo,jJ,putAt,hc,ho,show (V.mp M).cells= [V.mp M] from rfl,show (V.sl N 0 m (.kn m)).cells= [V.sl N 0 m (.kn m)] from rfl,show (V.mp M).one=true from rfl,show (V.sl N 0 m (.kn m)).one=true from rfl]
theorem PT {vL:V} (ho:vL.one=true) (M N m:Nat) (h:H):Qa h (.agg [vL,.mp M,.aC,.sl N 0 m (.kn m)])=some (.ptr h.next 0,h.new (.cells false [vL,.mp M,.aC,.sl N 0 m (.kn m)])):=Ew h _ (by simp [ho,show (V.mp M).one=true from rfl,show (V.sl N 0 m (.kn m)).one=true from rfl,show V.aC.one=true from rfl])
open Classical in
noncomputable def Ml (G:List Nat->Prop) (L:LN) (i:Nat) (Q:List Nat) (j:Nat):Bool:=decide ((∃ i0,i0<i/\cR G L i0 j)∨j∈Q)
theorem pD {G:List Nat->Prop} {L:LN} {i j:Nat} {Q:List Nat}:Ml G L i Q j=true↔(∃ i0,i0<i/\cR G L i0 j)∨j∈Q:=by classical unfold Ml;simp only [decide_eq_true_eq]
theorem abM (G:List Nat->Prop) (L:LN) (j:Nat):Ml G L 0 [] j=false:=by
 rw [←Bool.not_eq_true,pD];rintro (⟨i0,h,_⟩|h)
 ·omega
 ·cases h
theorem FV {G:List Nat->Prop} {L:LN} {i j k:Nat} {Q:List Nat}:Ml G L i (Q++ [k]) j=if j=k then true else Ml G L i Q j:=by
 by_cases e:j=k
 ·rw [if_pos e,pD];exact .inr (by simp [e])
 ·rw [if_neg e,Bool.eq_iff_iff,pD,pD]
  simp [e]
theorem Ef {p:Nat->Option Ay.Fn} {rd:Option Nat} {a:C} {k:Nat} {vars:List V} {h:H} {Q:E->List V->H->Prop} (J:List V->H->Prop) (h1:Wp p rd (.loop a) vars h (λ e v h'=>e= .exit k/\J v h')) (h2: ∀ v h',J v h'->Q .norm v h'):Wp p rd (.loop a) vars h (yZ k Q):=
 h1.mono λ e v h' x=>by
  obtain ⟨rfl,x⟩:=x
  rw [Eu]
  exact h2 v h' x
theorem eL.ge {h:H} {v:V} {sz n id off b:Nat} {ws:List V} (o:eL h v sz ws b) (hn:ws.length=n*sz) (hz:0<sz) (s:Sl v sz n id off) (h0:0<n):b<=id:=by
 have hx:=s.ixa .i64 0 (by omega) (by omega)
 rcases o.sv with ⟨_,rfl⟩|⟨id',off',len,cap,ro,vs,e,h2,_⟩
 ·have:=Nat.mul_pos h0 hz
  simp at hn
  omega
 ·have h3:=(o.in _ _ _ _ e).2.1
  subst e
  have hl:0<len:=by
   have:=Nat.mul_pos h0 hz
   refine Nat.pos_of_ne_zero λ e0=>?_
   subst e0
   simp at h2
   rw [h2] at hn
   simp at hn
   omega
  rw [Ky (by omega) (by omega)] at hx
  simp only [Option.some.injEq,V.ptr.injEq] at hx
  omega
theorem WH {n:Nat} {G:List Nat->Prop} {L:LN} (hG:yV n G) (E:iL G L) {i:Nat} (hi:i<L.length) (hr: ¬PD G L i) (j:Nat):Ml G L i [] j=Ml G L (i+1) [] j:=by
 obtain ⟨i0,h0,hc⟩: ∃ j,j<i/\cR G L j i:=DZ λ hn=>hr λ j hj hc=>hn ⟨j,hj,hc⟩
 rw [Bool.eq_iff_iff,pD,pD]
 constructor
 ·rintro (⟨i1,h1,h2⟩|h)
  ·exact .inl ⟨i1,by omega,h2⟩
  ·cases h
 ·rintro (⟨i1,h1,h2⟩|h)
  ·by_cases e:i1=i
   ·subst e;exact .inl ⟨i0,h0,Ah hG E (by omega) hc h2⟩
   ·exact .inl ⟨i1,by omega,h2⟩
  ·cases h
theorem XB {n:Nat} {G:List Nat->Prop} {L S:LN} (hG:yV n G) (E:iL G L) {i:Nat} (hi:i<L.length) {Q:List Nat} (b:BQ G L S i Q Q.length) (hS: ∀ s∈S,G s) (hgen: ∀ x,G x->fS n (λ g=>g∈S) x) {j:Nat} (hj:j<L.length):Ml G L i Q j=Ml G L (i+1) [] j:=by
 rw [Bool.eq_iff_iff,pD,pD]
 constructor
 ·rintro (⟨i1,h1,h2⟩|h)
  ·exact .inl ⟨i1,by omega,h2⟩
  ·exact .inl ⟨i,by omega,(b.mem j h).2⟩
 ·rintro (⟨i1,h1,h2⟩|h)
  ·by_cases e:i1=i
   ·subst e;exact .inr ((b.done hG E (jI _) hi hS hgen j).2 ⟨hj,h2⟩)
   ·exact .inl ⟨i1,by omega,h2⟩
  ·cases h
theorem qC {v:V} (hc:v.cells= [v]) (ho:v.one=true) (x y:Int):Eo [.aC,aB 0,aB 0] [(0,1,v),(1,1,aB x),(2,1,aB y)]=some (.agg [v,aB x,aB y]):=by
 simp [Eo,jJ,putAt,hc,ho,show ∀ z,(aB z).cells= [aB z] from λ _=>rfl,show ∀ z,(aB z).one=true from λ _=>rfl]
theorem RL {v w:V} (ho:v.one=true) (hc':w.cells= [w]) (ho':w.one=true) (x y:Int):Eo [.aC,aB 0,aB 0,.aC] [(0,3,.agg [v,aB x,aB y]),(3,1,w)]=some (.agg [v,aB x,aB y,w]):=by
 simp [Eo,jJ,putAt,hc',ho,ho',show ∀ l,(V.agg l).cells=l from λ _=>rfl,show ∀ z,(aB z).one=true from λ _=>rfl]
theorem QL {v w:V} (ho:v.one=true) (ho':w.one=true) (x y:Int) (h:H):rV h 4 [.aC,aB 0,aB 0,.aC] 1 [(0,4,.agg [v,aB x,aB y,w])]=some (.sl h.next 0 1 (.kn 1),h.new (.cells false [v,aB x,aB y,w])):=by
 have e:dQ [V.aC,aB 0,aB 0,.aC] 4= [V.aC,aB 0,aB 0,.aC]:=rfl
 simp [rV,jJ,putAt,e,ho,ho',show ∀ l,(V.agg l).cells=l from λ _=>rfl,show ∀ z,(aB z).one=true from λ _=>rfl]
theorem qE {G:List Nat->Prop} {L:LN} (k:Nat):(jS G L k).length<=k:=by
 classical
 unfold jS
 exact Nat.le_trans (List.length_filter_le _ _) (by rw [List.length_range];exact jI _)
theorem Zu (ks:List Cls.KE):(Cls.oM ks).length=ks.length*4:=by
 induction ks with
 |nil=>rfl
 |cons a r ih=>
  show (a.enc++Cls.oM r).length=_
  rw [vA,ih,List.length_cons]
  show 4+_=_
  omega
theorem UH {a b c d:V} (hh:H) (id:Nat) (y:V):fI (some (.cells false [a,b,c,d])) hh id 2 [y]=some (hh.set id (some (.cells false [a,b,y,d]))):=by
 simp [fI,putAt]
theorem ajA {h:H} {v:V} {sz:Nat} {ws:List V} (s:SV h v sz ws):TD (λ q=>h.next<=q) v:=by
 cases v with
 |sl id off len cap=>exact λ h2=>by have:=s.in _ _ _ _ rfl;omega
 |_=>trivial
structure KO (n:Nat) (G:List Nat->Prop) (L:LN) (X:Nat) (W:Nat->Prop) (hh:H) (a:Cls.KE) (r:Nat):Prop where
 fst:a.fst=r
 ord:a.ord=mY (L.getD r []) n
 size:a.size=(iG G L r).length
 rep:PV (λ q=>X<=q) hh a.rep (L.getD r [])
 ranks:PV W hh a.ranks (iG G L r)
theorem KO.go {n:Nat} {G:List Nat->Prop} {L:LN} {X:Nat} {W W':Nat->Prop} {h h':H} {a:Cls.KE} {r:Nat} (k:KO n G L X W h a r) (f:Fx W h h') (hx:X<=h.next) (hW: ∀ q,W q->X<=q) (hw: ∀ q,q<h.next->W' q->W q):KO n G L X W' h' a r:=
 ⟨k.fst,k.ord,k.size,k.rep.fx ⟨f.next,λ q h1 h2=>f.get q h1 λ h3=>h2 (hW q h3)⟩,PV.go k.ranks f hw⟩
structure OfJ (n:Nat) (G:List Nat->Prop) (L:LN) (X D:Nat) (vL:V) (h5:H) (i:Nat) (hh:H):Prop where
 ex: ∃ vK ks W,hh.get (X+8)=some (.cells false [vL,.mp (X+3),vK,.sl (X+6) 0 L.length (.kn L.length)])/\eL hh vK 4 (Cls.oM ks) (D+1)/\bJ (KO n G L X W hh) ks (jS G L i)/\Kt W vK/\W D/\W (X+8)/\W (X+6)/\(∀ q,W q->q<hh.next)/\(∀ q,W q->X<=q)/\(ks= []∨ ∃ id cap,vK= .sl id 0 ks.length cap/\hh.get id=some (.cells false (Cls.oM ks)))
 gD:hh.get D=some (.cells false (rc L.length λ j=> .bool (Ml G L i [] j)))
 old:Fx (λ q=>q=X+8∨D<=q) h5 hh
 nx:D<hh.next
def VP (n:Nat):C->Bool
 | .block k _=>k==n
 | .seq _ b=>VP n b
 |_=>false
def DU (n:Nat):C->C
 | .seq a b=>if VP n a then b else DU n b
 |c=>c
structure OfE (n:Nat) (G:List Nat->Prop) (L:LN) (X D:Nat) (vL:V) (h h2 h5 h7:H):Prop where
 el:iL G L
 le:L.length<=5040
 f2:Fr h h2
 x2:h2.next=X
 sp:SP h2 vL L
 f25:Fr h2 h5
 xD:X+10<=D
 n5:h5.next=D
 gM:h5.get (X+3)=some (.wmap .str (Xq L L.length))
 gN:h5.get (X+6)=some (.cells false (rc L.length λ _=> aB 0))
 j:OfJ n G L X D vL h5 L.length h7
theorem agX {W0:Nat->Prop} (vc:V) (n:Nat) (O:LN) (R:qF) (G:List Nat->Prop) (h:H) (gc:GC W0 h vc n O R G) (P:V->H->Prop)
  (hk: ∀ L X D vL h2 h5 h7 A (g:Nat->V),dG O R n 0 (bZ n)=L->OfE n G L X D vL h h2 h5 h7->Wp T none (DU 2 jN.body) ([g 0,.ptr A 0,.nilp,aB 0,vL,g 5,.ptr (X+8) 0,g 7,g 8,g 9,g 10,g 11,g 12,g 13,g 14,g 15,g 16,g 17,g 18,g 19,g 20,g 21,g 22,g 23,g 24,g 25,g 26,g 27,g 28,g 29,g 30,g 31,g 32,g 33,g 34,g 35,g 36,g 37,g 38,g 39,g 40,g 41,g 42,g 43,g 44,g 45]) h7 (aeS jN.results P)):
  Ev T Mi [vc] h P:=by
 obtain ⟨vO,vR,e,sO,sR⟩:=gc.ch
 subst e
 refine aZ CU rfl ?_
 have oneO:vO.one=true:=by obtain ⟨_,t,_⟩:=sO;exact t.bP.2.1
 have oneR:vR.one=true:=by obtain ⟨_,t,_⟩:=sR;exact t.bP.2.1
 obtain ⟨A,hA⟩: ∃ A,h.next=A:=⟨_,rfl⟩
 obtain ⟨h1,e1,n1,g1,o1,f1⟩:=iK hA [aB n,vO,vR]
 have bx:=dM h (v:= aB n) (u:=vO) (w:=vR) rfl oneO oneR
 have rB:=aX g1
 obtain ⟨L,hL⟩: ∃ L,dG O R n 0 (bZ n)=L:=⟨_,rfl⟩
 obtain ⟨E,ll⟩:=fC gc.jY gc.isc
 have ll5:=qN gc
 rw [hL] at E ll
 have hG:=gc.jY
 have n7:=gc.n7
 have n0:=gc.n0
 simp (disch:=omega) only [go_sem,jN,aF,bx,hA,e1,rB]
 refine (adA _ n O R G h1 (gc.mono f1)).mono ?_
 rw [hL]
 rintro _ h2 ⟨vL,rfl,nw⟩
 obtain ⟨wL,W,owL,pvL,bkL,W1⟩:=nw.ex
 have hwL:=bJ.length pvL
 obtain ⟨m,hm⟩: ∃ m,L.length=m:=⟨_,rfl⟩
 rw [hm] at hwL
 have lvL:=eL.lens owL hwL
 have oneL:=owL.sv.bP.2.1
 have f2:=nw.fr
 simp (disch:=omega) only [go_sem,lvL]
 refine aY (λ hc=>(hc rfl).elim) (λ _=>?_)
 obtain ⟨X,hX⟩: ∃ X,h2.next=X:=⟨_,rfl⟩
 simp (disch:=omega) only [go_sem,lvL,sM _ m (by omega),hX,SO owL.sv.bP.1 oneL,PT oneL]
 obtain ⟨h3,h3e⟩: ∃ h3:H,h3=H.mk ((H.mk ((H.mk ((H.mk h2.tr (X+3)).new (Ob.wmap Hx.str [])).tr (X+6)).new (Ob.cells false (rc m λ _=>aB 0))).tr (X+8)).new (Ob.cells false [vL,.mp (X+3),.aC,.sl (X+6) 0 m (.kn m)])).tr (X+10):=⟨_,rfl⟩
 rw [←h3e]
 have n3:h3.next=X+10:=by rw [h3e]
 have gB:h3.get (X+8)=some (.cells false [vL,.mp (X+3),.aC,.sl (X+6) 0 m (.kn m)]):=by rw [h3e];exact H.aQ (H.mk _ (X+8)) _
 have gN:h3.get (X+6)=some (.cells false (rc m λ _=>aB 0)):=by
  rw [h3e]
  exact (H.bM (H.mk _ (X+8)) (show X+6≠X+8 by omega) _).trans (H.aQ (H.mk _ (X+6)) _)
 have gM:h3.get (X+3)=some (.wmap .str (Xq L 0)):=by
  rw [h3e]
  exact (H.bM (H.mk _ (X+8)) (show X+3≠X+8 by omega) _).trans ((H.bM (H.mk _ (X+6)) (show X+3≠X+6 by omega) _).trans (H.aQ (H.mk _ (X+3)) _))
 have f3:Fr h2 h3:=⟨by omega,λ q hq=>by
  rw [h3e]
  exact (H.bM (H.mk _ (X+8)) (show q≠X+8 by omega) _).trans ((H.bM (H.mk _ (X+6)) (show q≠X+6 by omega) _).trans (H.bM (H.mk _ (X+3)) (show q≠X+3 by omega) _))⟩
 clear h3e
 have lt64: ∀ i,i<m->(L.getD i []).length<=1000/\ ∀ x∈L.getD i [],x<256:=λ i hi=>by
  have P:=gZ hG E (show i<L.length by omega)
  exact ⟨by rw [P.len];omega,λ x hx=>by have:=P.lt x hx;omega⟩
 obtain ⟨idL,offL,shL,hidL,hcL⟩:=SV.shape owL.sv m (by omega) (by omega)
 have hLa: ∀ i,i<m-> ∃ vx,(∀ h',Fr h2 h'->h'.cell idL (offL+i)=some vx)/\SI h2 vx (zi (L.getD i [])):=λ i hi=>by
  obtain ⟨v,h1,h2'⟩:=jL.at pvL (i:=i) (by omega)
  exact ⟨v,λ h' f=>by rw [f.cell (hidL (by omega)),hcL i (by omega),h1],h2'.si⟩
 have hK: ∀ i,i<m->isKey .str (.str (L.getD i []))=true:=λ i hi=>Iu (lt64 i hi).1 (lt64 i hi).2
 refine bV (λ vs hh=>(∃ g:Nat->V,vs= [g 0,.ptr A 0,.nilp,aB 0,vL,g 5,.ptr (X+8) 0,g 7,g 8,g 9,g 10,g 11,g 12,g 13,g 14,g 15,g 16,g 17,g 18,g 19,g 20,g 21,g 22,g 23,g 24,g 25,g 26,g 27,g 28,g 29,g 30,g 31,g 32,g 33,g 34,g 35,g 36,g 37,g 38,g 39,g 40,g 41,g 42,g 43,g 44,g 45])/\hh.get (X+3)=some (.wmap .str (Xq L m))/\Fx (· =X+3) h3 hh) ?_ ?_
 ·refine aJ (λ k' vs hh=> ∃ (i:Nat),(∃ g:Nat->V,vs= [g 0,.ptr A 0,.nilp,aB 0,vL,g 5,.ptr (X+8) 0,g 7,g 8,g 9,g 10,g 11,g 12,g 13,g 14,g 15,g 16,g 17,g 18,g 19,g 20,g 21,g 22,vL,aB m,aB i,g 26,g 27,g 28,g 29,g 30,g 31,g 32,g 33,g 34,g 35,g 36,g 37,g 38,g 39,g 40,g 41,g 42,g 43,g 44,g 45])/\i<=m/\hh.get (X+3)=some (.wmap .str (Xq L i))/\Fx (· =X+3) h3 hh/\k'=m-i) m
   ⟨0,aA rfl,mJ _,gM,Fx.refl _ h3,rfl⟩ ?_
  rintro k' vars h4 ⟨i,⟨g,rfl⟩,hi,gM4,F4,rfl⟩
  by_cases hlt:(i:Int)<(m:Int)
  case neg=>
   have d4:=gJ hlt
   obtain rfl:i=m:=by omega
   simp (disch:=omega) only [go_sem,d4]
   exact ⟨aA rfl,gM4,F4⟩
  have d4:=mG hlt
  have hi':i<m:=by omega
  have f24:Fr h2 h4:=⟨by have:=F4.next;omega,λ q hq=>by rw [F4.get q (by omega) (by omega)];exact f3.get q hq⟩
  have gB4:h4.get (X+8)=some (.cells false [vL,.mp (X+3),.aC,.sl (X+6) 0 m (.kn m)]):=by rw [F4.get _ (by omega) (by omega)];exact gB
  obtain ⟨vx,cx,sx⟩:=hLa i hi'
  have cB2:h4.cell (X+8) 1=some (.mp (X+3)):=by rw [H.aG gB4];rfl
  simp (disch:=omega) only [go_sem,d4,shL.ixa,cx h4 f24,cB2]
  refine (Qs vx (L.getD i []) _ (lt64 i hi').1 (lt64 i hi').2 (sx.mono (f24.trans ((Fr.refl h4).bF (by omega))))).mono ?_
  rintro _ h5 ⟨rfl,f5⟩
  have f45:Fr h4 h5:=((Fr.refl h4).bF (by omega)).trans f5
  have n4:=F4.next
  have gM5:h5.get (X+3)=some (.wmap .str (Xq L i)):=by rw [f45.get _ (by omega)];exact gM4
  have cB5:h5.cell (X+8) 1=some (.mp (X+3)):=by rw [f45.cell (by omega)];exact cB2
  have pt:=λ hh=>VJ E.nodup (show i<L.length by omega) (hK i hi') hh (X+3)
  simp (disch:=omega) only [go_sem,cB5,gM5,pt]
  rw [iJ i]
  refine ⟨by simp [eU],m-(i+1),by omega,i+1,aA rfl,by omega,rfl,⟨by have:=f45.next;show h3.next<=h5.next;omega,λ q h1 h2=>by rw [H.aH _ (λ e=>h2 e),f45.get q (by omega)];exact F4.get q h1 h2⟩,rfl⟩
 rintro vars h4 ⟨⟨g,rfl⟩,gM4,F4⟩
 have n4:=F4.next
 have f24:Fr h2 h4:=⟨by omega,λ q hq=>by rw [F4.get q (by omega) (by omega)];exact f3.get q hq⟩
 have gB4:h4.get (X+8)=some (.cells false [vL,.mp (X+3),.aC,.sl (X+6) 0 m (.kn m)]):=by rw [F4.get _ (by omega) (by omega)];exact gB
 have gN4:h4.get (X+6)=some (.cells false (rc m λ _=>aB 0)):=by rw [F4.get _ (by omega) (by omega)];exact gN
 have f14:=f2.trans f24
 have rA:=aX (h:=h4) (id:=A) (ro:=false) (by rw [f14.get _ (by omega)];exact g1)
 simp (disch:=omega) only [go_sem,rA]
 refine (Yb _ n O R G h4 (gc.mono (f1.trans f14))).mono ?_
 rintro _ h5 ⟨vS,rfl,nS⟩
 have f5:=nS.fr
 obtain ⟨D,hD⟩: ∃ D,h5.next=D:=⟨_,rfl⟩
 obtain ⟨h6,e6,n6,g6,o6,f6⟩:=iK hD (rc m λ _=>V.bool false)
 simp (disch:=omega) only [go_sem,lvL,Nf,hD,e6]
 have f25:=f24.trans f5
 have hX5:=f25.next
 have n5:=f5.next
 obtain ⟨wS,WS,owS,pvS,bkS,WS1⟩:=nS.ex
 obtain ⟨S,hS⟩: ∃ S,gO R=S:=⟨_,rfl⟩
 rw [hS] at pvS
 have hwS:=bJ.length pvS
 have hSG: ∀ s∈S,G s:=λ s hs=>xP gc.isc (by rw [hS];exact hs)
 have hSgen: ∀ x,G x->fS n (λ g=>g∈S) x:=λ x hx=>by rw [←hS];exact Uw hG gc.isc hx
 obtain ⟨sl,hsl⟩: ∃ sl,S.length=sl:=⟨_,rfl⟩
 have hsl7:sl<=49:=by
  have h1: ∀ j,j<R.length->(R.getD j []).length<=n:=λ j hj=>by
   have hj':j<n:=by rw [←gc.isc.lr];exact hj
   rw [gc.isc.rl j hj']
   have:=yQ (λ x hx=>hG.dR hx) hj' (gc.isc.asc j hj') (gc.isc.mem j hj')
   omega
  have h2:=By (n:=n) (R:=R) (jI _) h1
  rw [List.take_length,hS,hsl,gc.isc.lr] at h2
  have:n*n<=7*7:=Nat.mul_le_mul n7 n7
  omega
 have lvS:=eL.lens owS (hwS.trans hsl)
 obtain ⟨idS,offS,shS,hidS,hcS⟩:=SV.shape owS.sv sl (by omega) (by omega)
 have geS:=eL.ge owS (n:=sl) (by omega) (by omega) shS
 have hSa: ∀ t,t<sl-> ∃ vy,(∀ hh,Fx (λ q=>q=X+8∨D<=q) h5 hh->hh.cell idS (offS+t)=some vy)/\PV (λ q=>q=X+8∨D<=q) h5 vy (S.getD t []):=λ t ht=>by
  obtain ⟨v,h1,h2'⟩:=jL.at pvS (i:=t) (by omega)
  have hi:=hidS (by omega)
  have hge:h4.next<=idS:=geS (by omega)
  refine ⟨v,λ hh f=>?_,h2'.zU λ id hid hw=>WS1 id ?_⟩
  ·have e:hh.get idS=h5.get idS:=f.get idS hi (by omega)
   unfold H.cell
   rw [e]
   have:=hcS t (by omega)
   rw [h1] at this
   exact this
  ·rcases hw with e|e
   ·omega
   ·omega
 have J0:OfJ n G L X D vL h5 0 h6:=
  ⟨⟨.aC, [],λ q=>q=D∨q=X+8∨q=X+6,by rw [f6.get _ (by omega),f5.get _ (by omega),hm];exact gB4,eL.aC _ _ _,trivial,λ _ _ _ _ e=>(by cases e),.inl rfl,.inr (.inl rfl),.inr (.inr rfl),λ q h=>by rcases h with h|h|h<;>omega,λ q h=>by rcases h with h|h|h<;>omega,.inl rfl⟩,
   by rw [g6,hm,show (λ j=>V.bool (Ml G L 0 [] j))=λ _=>V.bool false from funext λ j=>by rw [abM]],Fx.of f6,by omega⟩
 refine bV (λ vs hh=>(∃ g:Nat->V,vs= [g 0,.ptr A 0,.nilp,aB 0,vL,g 5,.ptr (X+8) 0,g 7,g 8,g 9,g 10,g 11,g 12,g 13,g 14,g 15,g 16,g 17,g 18,g 19,g 20,g 21,g 22,g 23,g 24,g 25,g 26,g 27,g 28,g 29,g 30,g 31,g 32,g 33,g 34,g 35,g 36,g 37,g 38,g 39,g 40,g 41,g 42,g 43,g 44,g 45])/\OfJ n G L X D vL h5 m hh) ?_ ?_
 ·refine aJ (λ k' vs hh=> ∃ (i:Nat),(∃ g:Nat->V,vs= [g 0,.ptr A 0,.nilp,aB 0,vL,g 5,.ptr (X+8) 0,g 7,g 8,vS,.sl D 0 m (.kn m),g 11,g 12,g 13,g 14,g 15,g 16,g 17,g 18,g 19,g 20,g 21,g 22,g 23,g 24,g 25,g 26,vL,aB m,aB i,g 30,g 31,g 32,g 33,g 34,g 35,g 36,g 37,g 38,g 39,g 40,g 41,g 42,g 43,g 44,g 45])/\i<=m/\OfJ n G L X D vL h5 i hh/\k'=m-i) m
   ⟨0,aA rfl,mJ _,J0,rfl⟩ ?_
  clear J0
  rintro k' vars h7 ⟨i,⟨g,rfl⟩,hi,J,rfl⟩
  by_cases hlt:(i:Int)<(m:Int)
  case neg=>
   have d4:=gJ hlt
   obtain rfl:i=m:=by omega
   simp (disch:=omega) only [go_sem,d4]
   exact ⟨aA rfl,J⟩
  have d4:=mG hlt
  have hi':i<m:=by omega
  have nD:=J.nx
  have f27:Fr h2 h7:=⟨by omega,λ q hq=>by rw [J.old.get q (by omega) (by omega)];exact f25.get q hq⟩
  obtain ⟨vx,cx,sx⟩:=hLa i hi'
  have cD:=qT J.gD (i:=i) (by omega)
  by_cases hr:PD G L i
  case neg=>
   have hsn:Ml G L i [] i=true:=by
    rw [pD]
    exact .inl (DZ λ hn=>hr λ j hj hc=>hn ⟨j,hj,hc⟩)
   rw [hsn] at cD
   simp (disch:=omega) only [go_sem,d4,shL.ixa,cx h7 f27,cD]
   rw [iJ i]
   refine ⟨m-(i+1),by omega,i+1,aA rfl,by omega,?_,rfl⟩
   refine ⟨?_,?_,J.old,J.nx⟩
   ·rw [(Th i).2 hr];exact J.ex
   ·rw [J.gD,cJ λ j _=>by rw [WH hG E (show i<L.length by omega) hr j]]
  have hsn:Ml G L i [] i=false:=by
   rw [←Bool.not_eq_true,pD]
   rintro (⟨j,hj,hc⟩|h)
   ·exact hr j hj hc
   ·cases h
  rw [hsn] at cD
  obtain ⟨h8,e8,n8,g8,o8⟩:=Ca h7 D ((rc L.length λ j=> .bool (Ml G L i [] j)).set i (.bool true))
  obtain ⟨Z,hZ⟩: ∃ Z,h8.next=Z:=⟨_,rfl⟩
  obtain ⟨h9,e9,n9,g9,o9,f9⟩:=iK hZ [aB i]
  have pt:=bT (vs:=rc L.length λ j=> .bool (Ml G L i [] j)) (off:=i) (by rw [gT];omega)
  clear bx gc sO sR rB rA hcL gN4 gB4 g1 o1 f1 f3 gB gN gM
  simp (disch:=omega) only [go_sem,d4,shL.ixa,cx h7 f27,cD,J.gD,pt,e8,dN h8 (z:= aB 0) (v:= aB i) rfl rfl,hZ,e9]
  have hZ7:h7.next=Z:=by omega
  have hc0:(rc L.length λ j=>V.bool (Ml G L i [] j)).set i (.bool true)=rc L.length λ j=> .bool (Ml G L i [i] j):=by
   rw [lQ]
   exact cJ λ j _=>by
    rw [show [i]= []++ [i] from rfl,FV]
    by_cases e:j=i
    ·rw [if_pos e,if_pos e]
    ·rw [if_neg e,if_neg e]
  have F79:Fx (· =D) h7 h9:=⟨by omega,λ q h1 h2=>by rw [o9 q (by omega),o8 q h2]⟩
  have B0:BQ G L S i [i] 0:=⟨by simp,by simp,rfl,λ j hj=>by
   obtain rfl:j=i:=by simpa using hj
   exact ⟨by omega,Lg hG E (by omega)⟩,λ k hk=>by omega⟩
  refine bV (λ vs hh=> ∃ (Q:List Nat) (q:Nat) (cp:uO),(∃ g:Nat->V,vs= [g 0,.ptr A 0,.nilp,aB 0,vL,g 5,.ptr (X+8) 0,g 7,g 8,vS,.sl D 0 m (.kn m),aB i,vx,.sl q 0 Q.length cp,g 14,g 15,g 16,g 17,g 18,g 19,g 20,g 21,g 22,g 23,g 24,g 25,g 26,vL,aB m,aB i,g 30,g 31,g 32,g 33,g 34,g 35,g 36,g 37,g 38,g 39,g 40,g 41,g 42,g 43,g 44,g 45])/\
    BQ G L S i Q Q.length/\(cp= .un 1∨cp= .kn Q.length)/\hh.get q=some (.cells false (ints (zi Q)))/\Z<=q/\q<hh.next/\hh.get D=some (.cells false (rc L.length λ j=> .bool (Ml G L i Q j)))/\Fx (· =D) h7 hh) ?_ ?_
  ·refine aJ (λ k' vs hh=> ∃ (Q:List Nat) (q:Nat) (cp:uO) (p:Nat),(∃ g:Nat->V,vs= [g 0,.ptr A 0,.nilp,aB 0,vL,g 5,.ptr (X+8) 0,g 7,g 8,vS,.sl D 0 m (.kn m),aB i,vx,.sl q 0 Q.length cp,aB p,g 15,g 16,g 17,g 18,g 19,g 20,g 21,g 22,g 23,g 24,g 25,g 26,vL,aB m,aB i,g 30,g 31,g 32,g 33,g 34,g 35,g 36,g 37,g 38,g 39,g 40,g 41,g 42,g 43,g 44,g 45])/\
    p<=Q.length/\BQ G L S i Q p/\(cp= .un 1∨cp= .kn Q.length)/\hh.get q=some (.cells false (ints (zi Q)))/\Z<=q/\q<hh.next/\hh.get D=some (.cells false (rc L.length λ j=> .bool (Ml G L i Q j)))/\Fx (· =D) h7 hh/\k'=m-p) m
    ⟨[i],Z,_,0,aA rfl,mJ _,B0,.inr rfl,g9,jI _,by omega,by rw [o9 _ (by omega),g8,hc0],F79,rfl⟩ ?_
   clear F79 B0 e8 n8 g8 o8 hZ e9 n9 g9 o9 f9 pt hc0
   rintro k' vars ha ⟨Q,q,cp,p,⟨g2,rfl⟩,hp,BQ0,hcp,gq,hq,nq,gD,Fa,rfl⟩
   have hQl:=BQ0.len
   by_cases hpl:(p:Int)<(Q.length:Int)
   case neg=>
    have d5:decide ((p:Int)<(Q.length:Int))=false:=decide_eq_false hpl
    obtain rfl:p=Q.length:=by omega
    simp (disch:=omega) only [go_sem,d5]
    exact ⟨Q,q,cp,aA rfl,BQ0,hcp,gq,hq,nq,gD,Fa⟩
   have d5:decide ((p:Int)<(Q.length:Int))=true:=decide_eq_true hpl
   have hp':p<Q.length:=by omega
   simp (disch:=omega) only [go_sem,d5,lvS]
   obtain ⟨c,hc⟩: ∃ c,Q.getD p 0=c:=⟨_,rfl⟩
   obtain ⟨hcm,hcc⟩:=BQ0.mem c (by rw [←hc];exact bG hp')
   have Cp:=gZ hG E hcm
   refine Ef (λ vs hh=> ∃ (Q:List Nat) (q:Nat) (cp:uO),(∃ g:Nat->V,vs= [g 0,.ptr A 0,.nilp,aB 0,vL,g 5,.ptr (X+8) 0,g 7,g 8,vS,.sl D 0 m (.kn m),aB i,vx,.sl q 0 Q.length cp,aB p,g 15,g 16,g 17,g 18,g 19,g 20,g 21,g 22,g 23,g 24,g 25,g 26,vL,aB m,aB i,g 30,g 31,g 32,g 33,g 34,g 35,g 36,g 37,g 38,g 39,g 40,g 41,g 42,g 43,g 44,g 45])/\
     p<Q.length/\BQ G L S i Q (p+1)/\(cp= .un 1∨cp= .kn Q.length)/\hh.get q=some (.cells false (ints (zi Q)))/\Z<=q/\q<hh.next/\hh.get D=some (.cells false (rc L.length λ j=> .bool (Ml G L i Q j)))/\Fx (· =D) h7 hh) ?_ ?_
   ·refine aJ (λ k' vs hh=> ∃ (Q:List Nat) (q:Nat) (cp:uO) (t:Nat),(∃ g:Nat->V,vs= [g 0,.ptr A 0,.nilp,aB 0,vL,g 5,.ptr (X+8) 0,g 7,g 8,vS,.sl D 0 m (.kn m),aB i,vx,.sl q 0 Q.length cp,aB p,g 15,g 16,g 17,g 18,g 19,g 20,g 21,g 22,g 23,g 24,g 25,g 26,vL,aB m,aB i,g 30,g 31,g 32,vS,aB sl,aB t,g 36,g 37,g 38,g 39,g 40,g 41,g 42,g 43,g 44,g 45])/\
     p<Q.length/\t<=sl/\BQ G L S i Q p/\Q.getD p 0=c/\(∀ s∈S.take t,∃ j∈Q,L.getD j []=cV (L.getD c []) s)/\(cp= .un 1∨cp= .kn Q.length)/\hh.get q=some (.cells false (ints (zi Q)))/\Z<=q/\q<hh.next/\hh.get D=some (.cells false (rc L.length λ j=> .bool (Ml G L i Q j)))/\Fx (· =D) h7 hh/\k'=sl-t) sl
     ⟨Q,q,cp,0,aA rfl,hp',mJ _,BQ0,hc,λ s hs=>(by simp at hs),hcp,gq,hq,nq,gD,Fa,rfl⟩ ?_
    clear BQ0 hcp gq hq nq gD Fa hc hp' hQl hpl d5 hp
    clear Q q cp
    rintro k' vars hb ⟨Q,q,cp,t,⟨g3,rfl⟩,hp',ht,BQ0,hc,hcl,hcp,gq,hq,nq,gD,Fb,rfl⟩
    by_cases htl:(t:Int)<(sl:Int)
    case neg=>
     have d5:decide ((t:Int)<(sl:Int))=false:=decide_eq_false htl
     obtain rfl:t=sl:=by omega
     simp (disch:=omega) only [go_sem,d5]
     refine ⟨Q,q,cp,aA rfl,hp',⟨BQ0.nd,BQ0.ne,BQ0.hd,BQ0.mem,λ k hk s hs=>?_⟩,hcp,gq,hq,nq,gD,Fb⟩
     by_cases e:k=p
     ·subst e
      rw [hc]
      exact hcl s (by rw [←hsl,List.take_length];exact hs)
     ·exact BQ0.cl k (by omega) s hs
    have d5:decide ((t:Int)<(sl:Int))=true:=decide_eq_true htl
    have ht':t<sl:=by omega
    have hQl:=BQ0.len
    have nb:=Fb.next
    have FBb:Fx (λ q=>q=X+8∨D<=q) h5 hb:=⟨by have:=J.old.next;omega,λ q h1 h2=>by rw [Fb.get q (by omega) (λ e=>h2 (.inr (by have:q=D:=e;omega)))];exact J.old.get q h1 h2⟩
    have f2b:Fr h2 hb:=⟨by omega,λ q hq=>by rw [Fb.get q (by omega) (λ e=>by have:q=D:=e;omega)];exact f27.get q hq⟩
    obtain ⟨vy,cy,py⟩:=hSa t ht'
    obtain ⟨vz,cz,sz⟩:=hLa c (by omega)
    obtain ⟨s,hs⟩: ∃ s,S.getD t []=s:=⟨_,rfl⟩
    rw [hs] at py
    have hsS:s∈S:=by rw [←hs];exact bG (by omega)
    have Sp:=hG.dR (hSG s hsS)
    have cq:hb.cell q p=some (aB c):=by rw [H.aG gq,Dp hp',hc]
    simp (disch:=omega) only [go_sem,d5,shS.ixa,cy hb FBb,cq,shL.ixa,cz hb f2b]
    refine (Qv oN vy n s _ (by omega) Sp ((py.fx FBb).si.mono ((Fr.refl hb).bF (by omega)))).mono ?_
    rintro v47 k1 np1
    have K1:Fr hb k1:=((Fr.refl hb).bF (by omega)).trans np1.fr
    have cq1:k1.cell q p=some (aB c):=by rw [K1.cell nq];exact cq
    have ez:=sz.eU
    simp (disch:=omega) only [go_sem,cq1,cz k1 (f2b.trans K1),ez]
    refine (xW v47 vz (eA s) (L.getD c []) k1 (by rw [jT,Sp.len];omega) (np1.pv (W:=λ _=>False) id).si (sz.mono (f2b.trans K1)) (λ j hj=>by rw [Cp.len];exact Sp.inv.eS (by rw [←Sp.inv.len];exact hj))).mono ?_
    rintro v55 k2 np2
    have K2:=K1.trans np2.fr
    have P2:=Sp.inv.mul Cp
    simp (disch:=omega) only [go_sem]
    refine (xW v55 vy _ s k2 (by rw [P2.len];omega) (np2.pv (W:=λ _=>False) id).si ((py.fx FBb).si.mono K2) (λ j hj=>by rw [Sp.len];exact P2.eS (by rw [←P2.len];exact hj))).mono ?_
    rintro v57 k3 np3
    have K3:=K2.trans np3.fr
    have P3:=P2.mul Sp
    have cq3:k3.cell q p=some (aB c):=by rw [K3.cell nq];exact cq
    have s57:=(np3.pv (W:=λ _=>False) id).si
    have o57:=s57.bP.2.1
    have gB3: ∃ vK,k3.get (X+8)=some (.cells false [vL,.mp (X+3),vK,.sl (X+6) 0 L.length (.kn L.length)]):=by
     obtain ⟨vK,_,_,gB,_⟩:=J.ex
     exact ⟨vK,by rw [K3.get _ (by omega),Fb.get _ (by omega) (λ e=>by have:X+8=D:=e;omega)];exact gB⟩
    obtain ⟨vK,gB3⟩:=gB3
    have cB3:k3.cell (X+8) 1=some (.mp (X+3)):=by rw [H.aG gB3];rfl
    obtain ⟨j,hj,ej⟩: ∃ j,j<L.length/\L.getD j []=cV (L.getD c []) s:=by
     have hm2:cV (L.getD c []) s∈L:=(E.mem _).2 (hG.mul (hG.mul (hG.inv (hSG s hsS)) (rQ E hcm)) (hSG s hsS))
     obtain ⟨j,hj,ej⟩:=List.mem_iff_getElem.1 hm2
     exact ⟨j,hj,by rw [List.getD,iH hj,←ej];rfl⟩
    have e57:bE (bE (eA s) (L.getD c [])) s=L.getD j []:=ej.symm
    rw [e57] at s57
    simp (disch:=omega) only [go_sem,cq3,cz k3 (f2b.trans K3),cB3,ez]
    refine (Qs v57 (L.getD j []) _ (lt64 j (by omega)).1 (lt64 j (by omega)).2 (s57.mono ((Fr.refl k3).bF (by omega)))).mono ?_
    rintro _ k4 ⟨rfl,f4'⟩
    have K34:Fr k3 k4:=((Fr.refl k3).bF (by omega)).trans f4'
    have K4:=K3.trans K34
    have n3k:=K3.next
    have gM4k:k4.get (X+3)=some (.wmap .str (Xq L L.length)):=by
     rw [K4.get _ (by omega),Fb.get _ (by omega) (λ e=>by have:X+3=D:=e;omega),J.old.get _ (by omega) (by omega),f5.get _ (by omega),hm]
     exact gM4
    have cB4:k4.cell (X+8) 1=some (.mp (X+3)):=by rw [K34.cell (by omega)];exact cB3
    have lk:=λ z=>FN E.nodup hj (hK j (by omega)) z
    have cDj:k4.cell D j=some (.bool (Ml G L i Q j)):=by rw [K4.cell (by omega)];exact qT gD hj
    have hij:cR G L i j:=Ah hG E (by omega) hcc ⟨s,hSG s hsS,ej.symm⟩
    have etk:S.take (t+1)=S.take t++ [s]:=by rw [iV [] (by omega),hs]
    have gq4:k4.get q=some (.cells false (ints (zi Q))):=by rw [K4.get _ nq];exact gq
    have gD4:k4.get D=some (.cells false (rc L.length λ j=> .bool (Ml G L i Q j))):=by rw [K4.get _ (by omega)];exact gD
    have F4k:Fx (· =D) h7 k4:=⟨by have:=K4.next;omega,λ q h1 h2=>by rw [K4.get q (by omega)];exact Fb.get q h1 h2⟩
    cases hsn2:Ml G L i Q j with
    |true=>
     rw [hsn2] at cDj
     have hjQ:j∈Q:=by
      rcases pD.1 hsn2 with ⟨i0,h1,h2'⟩|h1
      ·exact absurd (Ah hG E (by omega) h2' (Qx hG E (by omega) hij)) (hr i0 h1)
      ·exact h1
     simp (disch:=omega) only [go_sem,cB4,gM4k,lk,cDj]
     rw [iJ t]
     refine ⟨by simp [eU],sl-(t+1),by omega,Q,q,cp,t+1,aA rfl,hp',by omega,BQ0,hc,?_,hcp,gq4,hq,by have:=K4.next;omega,gD4,F4k,rfl⟩
     rw [etk]
     intro s' hs'
     rcases List.mem_append.1 hs' with h1|h1
     ·exact hcl s' h1
     ·obtain rfl:s'=s:=by simpa using h1
      exact ⟨j,hjQ,ej⟩
    |false=>
     rw [hsn2] at cDj
     have hjQ:j∉Q:=λ h1=>by rw [pD.2 (.inr h1)] at hsn2;cases hsn2
     obtain ⟨k5,e5,m5,g5,o5⟩:=Ca k4 D ((rc L.length λ j=> .bool (Ml G L i Q j)).set j (.bool true))
     obtain ⟨Y,hY⟩: ∃ Y,k5.next=Y:=⟨_,rfl⟩
     obtain ⟨k6,e6',m6,g6',o6',f6'⟩:=iK hY [aB j]
     have pt:=bT (vs:=rc L.length λ j=> .bool (Ml G L i Q j)) (off:=j) (by rw [gT];exact hj)
     have nk:=K4.next
     have gq6:k6.get q=some (.cells false (ints (zi Q))):=by rw [o6' _ (by omega),o5 _ (by omega)];exact gq4
     have ow6:eL k6 (.sl q 0 Q.length cp) 1 (ints (zi Q)) 0:= .inr ⟨q,Q.length,cp, [],rfl,by rw [aS,aT];simp,by rcases hcp with h1|h1;exact .inl h1;exact .inr ⟨h1,rfl⟩,mJ _,by omega,by rw [List.append_nil];exact gq6⟩
     obtain ⟨k7,a7,p7⟩:=ow6.push (bytes:=8) (SV.one (v:= aB j) (id:=Y) (by omega) g6' (.kn 1)) (n:=Q.length) (m:=1) (by rw [aS,aT];simp) rfl (by omega) (by omega) (by omega)
     simp (disch:=omega) only [go_sem,cB4,gM4k,lk,cDj,gD4,pt,e5,dN k5 (z:= aB 0) (v:= aB j) rfl rfl,hY,e6',a7]
     rw [iJ t]
     have el:ints (zi (Q++ [j]))=ints (zi Q)++ [aB j]:=by simp [zi,ints]
     have m7:=p7.next
     have apD:eC (.sl q 0 Q.length cp) D:=λ id off n c e e2=>by cases e;omega
     have hc0:(rc L.length λ j'=>V.bool (Ml G L i Q j')).set j (.bool true)=rc L.length λ j'=> .bool (Ml G L i (Q++ [j]) j'):=by
      rw [lQ]
      exact cJ λ j' _=>by
       rw [FV]
       by_cases e:j'=j
       ·rw [if_pos e,if_pos e]
       ·rw [if_neg e,if_neg e]
     refine ⟨by simp [eU],sl-(t+1),by omega,Q++ [j],k6.next,.un 1,t+1,by rw [vA];exact aA rfl,by rw [vA];omega,by omega,⟨?_,by rw [vA];simp,?_,?_,?_⟩,?_,?_,.inl rfl,by rw [el];exact p7.get,by omega,by omega,?_,?_,rfl⟩
     ·rw [List.nodup_append]
      exact ⟨BQ0.nd,by simp,λ x hx y hy e=>by
       obtain rfl:y=j:=by simpa using hy
       exact hjQ (e▸hx)⟩
     ·rw [List.getD,List.getElem?_append_left BQ0.ne];exact BQ0.hd
     ·intro x hx
      rcases List.mem_append.1 hx with h1|h1
      ·exact BQ0.mem x h1
      ·obtain rfl:x=j:=by simpa using h1
       exact ⟨hj,hij⟩
     ·intro k hk s' hs'
      obtain ⟨y,hy,ey⟩:=BQ0.cl k hk s' hs'
      refine ⟨y,List.mem_append.2 (.inl hy),?_⟩
      rw [ey,List.getD,List.getD,List.getD,List.getD,List.getElem?_append_left (by omega)]
     ·rw [List.getD,List.getElem?_append_left hp'];exact hc
     ·rw [etk]
      intro s' hs'
      rcases List.mem_append.1 hs' with h1|h1
      ·obtain ⟨y,hy,ey⟩:=hcl s' h1
       exact ⟨y,List.mem_append.2 (.inl hy),ey⟩
      ·obtain rfl:s'=s:=by simpa using h1
       exact ⟨j,List.mem_append.2 (.inr (by simp)),ej⟩
     ·rw [p7.old D (by omega) apD,o6' D (by omega),g5,hc0]
     ·refine ⟨by omega,λ x h1 h2=>?_⟩
      rw [p7.old x (by omega) (λ id off n c e e2=>by cases e;omega),o6' x (by omega),o5 x h2]
      exact F4k.get x h1 h2
   clear BQ0 hcp gq hq nq gD Fa hc hpl d5 hp hp' hQl
   clear Q q cp
   rintro vars hb ⟨Q,q,cp,⟨g3,rfl⟩,hp',BQ1,hcp,gq,hq,nq,gD,Fb⟩
   have hQl:=BQ1.len
   simp (disch:=omega) only [go_sem]
   rw [iJ p]
   exact ⟨m-(p+1),by omega,Q,q,cp,p+1,aA rfl,by omega,BQ1,hcp,gq,hq,nq,gD,Fb,rfl⟩
  clear F79 B0 e8 n8 g8 o8 hZ e9 n9 g9 o9 f9 pt hc0
  rintro vars hb ⟨Q,q,cp,⟨g3,rfl⟩,BQ1,hcp,gq,hq,nq,gD,Fb⟩
  have hQl:=BQ1.len
  have nb:=Fb.next
  have srt:=BL hb q (zi Q) cp (by rw [aT];omega) gq nq
  rw [aT] at srt
  simp (disch:=omega) only [go_sem]
  refine srt.mono ?_
  rintro _ ka ⟨l',gl,pl,al,Fa⟩
  obtain rfl:=BQ1.sort hG E (jI _) (by omega) hSG hSgen pl al
  have hQo:Q.length=(iG G L i).length:=by have:=pl.length_eq;rw [aT,aT] at this;exact this.symm
  have na:=Fa.next
  have f2a:Fr h2 ka:=⟨by omega,λ x hx=>by rw [Fa.get x (by omega) (λ e=>by have:x=q:=e;omega),Fb.get x (by omega) (λ e=>by have:x=D:=e;omega)];exact f27.get x hx⟩
  have X1:=gZ hG E (show i<L.length by omega)
  simp (disch:=omega) only [go_sem]
  refine (VN vx n (L.getD i []) ka n0 n7 X1 (sx.mono f2a)).mono ?_
  rintro _ kb ⟨rfl,fb⟩
  have nkb:=fb.next
  obtain ⟨vK,ks,WK,gB,owK,aK,bK,wD,wB,wN,wn,wX,_⟩:=J.ex
  have hks:=bJ.length aK
  have gBb:kb.get (X+8)=some (.cells false [vL,.mp (X+3),vK,.sl (X+6) 0 L.length (.kn L.length)]):=by
   rw [fb.get _ (by omega),Fa.get _ (by omega) (λ e=>by have:X+8=q:=e;omega),Fb.get _ (by omega) (λ e=>by have:X+8=D:=e;omega)];exact gB
  have cB2:kb.cell (X+8) 2=some vK:=by rw [H.aG gBb];rfl
  have owx:=sx.bP.2.1
  have eKo:=owK.sv.eU
  obtain ⟨Y,hY⟩: ∃ Y,kb.next=Y:=⟨_,rfl⟩
  obtain ⟨kc,ec,mc,gc',oc,fc⟩:=iK hY [vx,aB (mY (L.getD i []) n:Nat),aB (Q.length:Int),.sl q 0 Q.length cp]
  have old7: ∀ x,x<Z->x≠D->kc.get x=h7.get x:=λ x h1 h2=>by
   rw [oc x (by omega),fb.get x (by omega),Fa.get x (by omega) (λ e=>by have:x=q:=e;omega),Fb.get x (by omega) h2]
  have owKc:eL kc vK 4 (Cls.oM ks) (D+1):=owK.mono (by omega) λ id off n' c e h1 h2=>old7 id (by omega) (by omega)
  have lr:=qE (G:=G) (L:=L) i
  obtain ⟨kd,ad,pd⟩:=owKc.push (bytes:=64) (y:= .sl Y 0 1 (.kn 1)) (us:= [vx,aB (mY (L.getD i []) n:Nat),aB (Q.length:Int),.sl q 0 Q.length cp]) (SV.all rfl (by omega) gc' _) (n:=ks.length) (m:=1) (Zu ks) rfl (by omega) (by omega) (by omega)
  have md:=pd.next
  have apB:eC vK (X+8):=λ id off n' c e e2=>by have:=(owK.in _ _ _ _ e).2.1;omega
  have gBd:kd.get (X+8)=some (.cells false [vL,.mp (X+3),vK,.sl (X+6) 0 L.length (.kn L.length)]):=by
   rw [pd.old _ (by omega) apB,oc _ (by omega)];exact gBb
  obtain ⟨ke,ee,me,ge,oe⟩:=Ca kd (X+8) [vL,.mp (X+3),.sl kc.next 0 (ks.length+1) (.un 4),.sl (X+6) 0 L.length (.kn L.length)]
  simp (disch:=omega) only [go_sem,cB2,qC sx.bP.1 owx,RL owx (w:= .sl q 0 Q.length cp) rfl rfl,QL owx (w:= .sl q 0 Q.length cp) rfl,hY,ec,ad,gBd,UH,ee]
  rw [iJ i]
  have dPV: ∀ x,x<Z-> ¬WK x->ke.get x=h7.get x:=λ x h1 h2=>by
   rw [oe x (λ e=>h2 (e▸wB)),pd.old x (by omega) (λ id off n' c e e2=>h2 (e2▸bK _ _ _ _ e)),old7 x h1 (λ e=>h2 (e▸wD))]
  have FK:Fx WK h7 ke:=⟨by omega,λ x h1 h2=>dPV x (by omega) h2⟩
  have f2e:Fr h2 ke:=⟨by omega,λ x hx=>by rw [dPV x (by omega) (λ h1=>by have:=wX x h1;omega)];exact f27.get x hx⟩
  have e1k:Cls.oM (ks++ [⟨vx,mY (L.getD i []) n,Q.length,.sl q 0 Q.length cp,i,⟨sx.bP.1,owx,sx.eU⟩,⟨rfl,rfl,by simp [eU]⟩⟩])=Cls.oM ks++ [vx,aB (mY (L.getD i []) n:Nat),aB (Q.length:Int),.sl q 0 Q.length cp]:=by
   simp [Cls.oM,Cls.KE.enc]
  refine ⟨m-(i+1),by omega,i+1,aA rfl,by omega,⟨⟨_,ks++ [⟨vx,mY (L.getD i []) n,Q.length,.sl q 0 Q.length cp,i,⟨sx.bP.1,owx,sx.eU⟩,⟨rfl,rfl,by simp [eU]⟩⟩],λ x=>WK x∨x=kc.next,ge,?_,?_,λ id off n' c e=>by cases e;exact .inr rfl,   .inl wD,.inl wB,.inl wN,λ x h=>by rcases h with h|h;have:=wn x h;omega;omega,λ x h=>by rcases h with h|h;exact wX x h;omega,.inr ⟨_,_,by rw [vA];rfl,?_⟩⟩,?_,?_,by omega⟩,rfl⟩
  ·rw [e1k]
   exact (pd.own (b:=D+1) (Zu ks) rfl (by omega)).mono (by omega) λ id off n' c e h1 h2=>by cases e;exact oe _ (by omega)
  ·rw [(Th i).1 hr]
   refine bJ.append (aK.mono λ a r k=>k.go FK (by omega) wX λ x h1 h2=>by rcases h2 with h2|h2;exact h2;omega) ⟨⟨rfl,rfl,hQo,⟨sx.mono f2e,?_⟩,⟨?_,?_⟩⟩,trivial⟩
   ·rw [←hX];exact ajA sx
   ·rw [hQo]
    refine SV.all (ro:=false) (by rw [aS,aT,Nat.mul_one]) (by omega) ?_ _
    rw [oe q (by omega),pd.old q (by omega) (λ id off n' c e e2=>by have:=wn _ (bK _ _ _ _ e);omega),oc q (by omega),fb.get q (by omega)]
    exact gl
   ·exact λ h=>by rcases h with h|h;have:=wn _ h;omega;omega
  ·rw [e1k,oe _ (by omega)];exact pd.get
  ·rw [oe D (by omega),pd.old D (by omega) (λ id off n' c e e2=>by have:=(owK.in _ _ _ _ e).2.1;omega),oc D (by omega),fb.get D (by omega),Fa.get D (by omega) (λ e=>by have:D=q:=e;omega),gD,cJ λ j hj=>by rw [XB hG E (show i<L.length by omega) BQ1 hSG hSgen hj]]
  ·refine ⟨by have:=J.old.next;omega,λ x h1 h2=>?_⟩
   have hx8:x≠X+8:=λ e=>h2 (.inl e)
   have hxD:x<D:=by omega
   rw [oe x hx8,pd.old x (by omega) (λ id off n' c e e2=>by have:=(owK.in _ _ _ _ e).2.1;omega),old7 x (by omega) (by omega)]
   exact J.old.get x h1 h2
 rintro vars h7 ⟨⟨g,rfl⟩,J⟩
 exact hk L X D vL h2 h5 h7 A g hL ⟨E,by omega,f1.trans f2,hX,nw.sp,f25,by omega,hD,by rw [f5.get _ (by omega),hm];exact gM4,by rw [f5.get _ (by omega),hm];exact gN4,by rw [hm];exact J⟩
open Classical in
noncomputable def yA (G:List Nat->Prop) (L:LN) (K:List Nat) (j:Nat):Nat:=K.findIdx λ r=>decide (cR G L r j)
structure KR (n:Nat) (G:List Nat->Prop) (L:LN) (hh:H) (a:Cls.KE) (r:Nat):Prop where
 fst:a.fst=r
 ord:a.ord=mY (L.getD r []) n
 size:a.size=(iG G L r).length
 rep:SI hh a.rep (zi (L.getD r []))
 ranks:SI hh a.ranks (zi (iG G L r))
theorem KR.mono {n:Nat} {G:List Nat->Prop} {L:LN} {h h':H} {a:Cls.KE} {r:Nat} (k:KR n G L h a r) (f:Fr h h'):KR n G L h' a r:=⟨k.fst,k.ord,k.size,k.rep.mono f,k.ranks.mono f⟩
def kLt (n:Nat) (G:List Nat->Prop) (L:LN) (r s:Nat):Prop:=mY (L.getD r []) n<mY (L.getD s []) n∨mY (L.getD r []) n=mY (L.getD s []) n/\((iG G L r).length<(iG G L s).length∨(iG G L r).length=(iG G L s).length/\r<s)
structure Qe (n:Nat) (G:List Nat->Prop) (L:LN) (K:List Nat):Prop where
 perm:K.Perm (jS G L L.length)
 asc:K.Pairwise (kLt n G L)
structure aaU (n:Nat) (G:List Nat->Prop) (L:LN) (K:List Nat) (hh:H) (v:V):Prop where
 ex: ∃ B M N S cp vL ks,v= .ptr B 0/\B<hh.next/\M<hh.next/\N<hh.next/\S<hh.next/\hh.get B=some (.cells false [vL,.mp M,.sl S 0 K.length cp,.sl N 0 L.length (.kn L.length)])/\
  hh.get M=some (.wmap .str (Xq L L.length))/\hh.get N=some (.cells false (rc L.length λ j=> aB (yA G L K j:Nat)))/\hh.get S=some (.cells false (Cls.oM ks))/\bJ (KR n G L hh) ks K/\SP hh vL L
theorem aaU.mono {n:Nat} {G:List Nat->Prop} {L:LN} {K:List Nat} {h h':H} {v:V} (g:aaU n G L K h v) (f:Fr h h'):aaU n G L K h' v:=by
 obtain ⟨B,M,N,S,cp,vL,ks,e,hB,hM,hN,hS,gB,gM,gN,gS,a,sp⟩:=g.ex
 have n1:=f.next
 exact ⟨B,M,N,S,cp,vL,ks,e,by omega,by omega,by omega,by omega,by rw [f.get _ hB];exact gB,by rw [f.get _ hM];exact gM,by rw [f.get _ hN];exact gN,by rw [f.get _ hS];exact gS,a.mono λ _ _ k=>k.mono f,sp.mono f⟩
section
variable {n:Nat} {G:List Nat->Prop} {L:LN} {K:List Nat} (hG:yV n G) (E:iL G L)
include hG E
omit hG E in
theorem Sa (h0:0<L.length):0∈jS G L L.length:=iE.2 ⟨h0,λ j hj=>by omega⟩
theorem Qr (pK:K.Perm (jS G L L.length)) {k:Nat} (hk:k<K.length) {j:Nat} (hj:j∈iG G L (K.getD k 0)):yA G L K j=k:=by
 classical
 obtain ⟨hjl,hc⟩:=fD.1 hj
 have hnd:K.Nodup:=pK.nodup_iff.2 (by unfold jS;exact List.Pairwise.filter _ List.nodup_range)
 have hK: ∀ r∈K,r<L.length/\PD G L r:=λ r hr=>iE.1 (pK.mem_iff.1 hr)
 unfold yA
 rw [List.findIdx_eq hk]
 have ek:K.getD k 0=K[k]:=Pm.bW hk
 rw [ek] at hc
 refine ⟨by simpa using hc,λ i hi=>?_⟩
 simp only [decide_eq_false_iff_not]
 intro hc2
 have h1:=hK K[i] (List.getElem_mem _)
 have h2:=hK K[k] (List.getElem_mem _)
 have:=Sn hG E h1.1 h2.1 h1.2 h2.2 hc2 hc
 have hne:=List.pairwise_iff_getElem.1 hnd i k (by omega) hk hi
 exact hne this
theorem My (pK:K.Perm (jS G L L.length)) {j:Nat} (hj:j<L.length): ∃ k,k<K.length/\j∈iG G L (K.getD k 0):=by
 obtain ⟨r,h1,h2,h3⟩:=aiR hG E hj
 have hr:r∈K:=pK.mem_iff.2 (iE.2 ⟨by omega,h2⟩)
 obtain ⟨k,hk,ek⟩:=List.mem_iff_getElem.1 hr
 exact ⟨k,hk,fD.2 ⟨hj,by rw [Pm.bW hk,ek];exact h3⟩⟩
end
open Classical in
noncomputable def Xi (G:List Nat->Prop) (L:LN) (K:List Nat) (k t j:Nat):Nat:=if (∃ k0,k0<k/\j∈iG G L (K.getD k0 0))∨j∈(iG G L (K.getD k 0)).take t then yA G L K j else 0
theorem WQ (G:List Nat->Prop) (L:LN) (K:List Nat) (j:Nat):Xi G L K 0 0 j=0:=by
 classical
 unfold Xi
 rw [if_neg]
 rintro (⟨k0,h,_⟩|h)
 ·omega
 ·simp at h
theorem XW (G:List Nat->Prop) (L:LN) (K:List Nat) (k j:Nat):Xi G L K k (iG G L (K.getD k 0)).length j=Xi G L K (k+1) 0 j:=by
 classical
 unfold Xi
 rw [List.take_length,List.take_zero]
 have e:((∃ k0,k0<k/\j∈iG G L (K.getD k0 0))∨j∈iG G L (K.getD k 0))↔((∃ k0,k0<k+1/\j∈iG G L (K.getD k0 0))∨j∈([]:List Nat)):=by
  constructor
  ·rintro (⟨k0,h1,h2⟩|h)
   ·exact .inl ⟨k0,by omega,h2⟩
   ·exact .inl ⟨k,by omega,h⟩
  ·rintro (⟨k0,h1,h2⟩|h)
   ·by_cases e:k0=k
    ·subst e;exact .inr h2
    ·exact .inl ⟨k0,by omega,h2⟩
   ·cases h
 by_cases h:((∃ k0,k0<k/\j∈iG G L (K.getD k0 0))∨j∈iG G L (K.getD k 0))
 ·rw [if_pos h,if_pos (e.1 h)]
 ·rw [if_neg h,if_neg (λ x=>h (e.2 x))]
theorem ZN {n:Nat} {G:List Nat->Prop} {L:LN} {K:List Nat} (hG:yV n G) (E:iL G L) (pK:K.Perm (jS G L L.length)) {k:Nat} (hk:k<K.length) {t:Nat} (ht:t<(iG G L (K.getD k 0)).length) (j:Nat):
  Xi G L K k (t+1) j=if j=(iG G L (K.getD k 0)).getD t 0 then k else Xi G L K k t j:=by
 classical
 by_cases e:j=(iG G L (K.getD k 0)).getD t 0
 ·rw [if_pos e]
  have hj:j∈iG G L (K.getD k 0):=by rw [e];exact bG ht
  unfold Xi
  rw [if_pos (.inr (by rw [iV 0 ht,e];simp))]
  exact Qr hG E pK hk hj
 ·rw [if_neg e]
  unfold Xi
  rw [iV 0 ht]
  simp only [List.mem_append,List.mem_singleton,e,or_false]
theorem acA {n:Nat} {G:List Nat->Prop} {L:LN} {K:List Nat} (hG:yV n G) (E:iL G L) (pK:K.Perm (jS G L L.length)) {j:Nat} (hj:j<L.length):Xi G L K K.length 0 j=yA G L K j:=by
 classical
 obtain ⟨k,h1,h2⟩:=My hG E pK hj
 unfold Xi
 rw [if_pos (.inl ⟨k,h1,h2⟩)]
theorem qB {h:H} {S:Nat} {ro:Bool}: ∀ {ks:List Cls.KE} {pre:List V},h.get S=some (.cells ro (pre++Cls.oM ks))-> ∀ {i:Nat} (hi:i<ks.length),h.row S (pre.length+i*4) 4=some ks[i].enc
 | [],_,_,_,hi=>by simp at hi
 |a::r,pre,g,0,_=>by
  unfold H.row
  rw [g]
  show sub (pre++(a.enc++Cls.oM r)) (pre.length+0*4) 4=some a.enc
  simp only [sub,Nat.zero_mul,Nat.add_zero]
  have:a.enc.length=4:=rfl
  rw [if_pos (by rw [vA,vA];omega),List.drop_left,List.take_append,List.take_of_length_le (by omega),this]
  simp
 |a::r,pre,g,i+1,hi=>by
  have g':h.get S=some (.cells ro ((pre++a.enc)++Cls.oM r)):=by rw [g,List.append_assoc];rfl
  have:=qB g' (i:=i) (by simpa using hi)
  rw [vA,show a.enc.length=4 from rfl] at this
  rw [show pre.length+(i+1)*4=pre.length+4+i*4 by omega]
  simpa using this
theorem Tg (h:H) (id off:Nat) (a:Cls.KE):DY h 4 (.ptr id off) (.agg a.enc)=fI (h.get id) h id off a.enc:=Qz h id off 4 _ rfl (by simp [Cls.KE.enc,a.hrep.2.1,a.hranks.2.1,show (aB (a.ord:Int)).one=true from rfl,show (aB (a.size:Int)).one=true from rfl])
theorem Vg (hh:H) (id:Nat) (a:Cls.KE) (x y z w:V):fI (some (.cells false [x,y,z,w])) hh id 0 a.enc=some (hh.set id (some (.cells false a.enc))):=by
 simp [fI,putAt,Cls.KE.enc]
theorem bJ.ex {α β:Type} {R:α->β->Prop} {as:List α} {bs:List β} (h:bJ R as bs) {a:α} (ha:a∈as): ∃ b∈bs,R a b:=by
 obtain ⟨i,hi,rfl⟩:=List.mem_iff_getElem.1 ha
 have hl:=bJ.length h
 exact ⟨bs[i]'(by omega),List.getElem_mem _,bJ.get h i hi (by omega)⟩
theorem SI.lit {h:H} {v:V} {l:List Int} (s:SI h v l) (hl:0<l.length): ∃ id off m cap,v= .sl id off (m+1) cap/\m+1=l.length/\id<h.next/\ ∀ i,i<l.length->h.cell id (off+i)=some (aB (l.getD i 0)):=by
 obtain ⟨id,off,sh,hid,hc⟩:=s.open
 rcases s with ⟨_,h0⟩|⟨id',off',len,cap,ro,vs,e,h2,h3,_⟩
 ·have:l.length=0:=by rw [←aS,h0];rfl
  omega
 ·rw [aS,Nat.mul_one] at h2
  have hx:=sh.ixa .i64 0 (by omega) (by omega)
  subst e
  rw [Ky (by omega) (by omega)] at hx
  simp only [Option.some.injEq,V.ptr.injEq] at hx
  obtain ⟨rfl,h5⟩:=hx
  have h6:off'=off:=by omega
  subst h6
  exact ⟨id',off',l.length- 1,cap,by rw [show l.length- 1+1=len by omega],by omega,h3,hc⟩
theorem Ox {W0:Nat->Prop} (vc:V) (n:Nat) (O:LN) (R:qF) (G:List Nat->Prop) (h:H) (gc:GC W0 h vc n O R G):
  Ev T Mi [vc] h (λ v h'=> ∃ p K,v= .tup [p,aB 0]/\aaU n G (dG O R n 0 (bZ n)) K h' p/\Qe n G (dG O R n 0 (bZ n)) K/\Fr h h'):=by
 refine agX vc n O R G h gc _ λ L X D vL h2 h5 h7 A g hL e=>?_
 rw [hL]
 have hG:=gc.jY
 have E:=e.el
 obtain ⟨vK,ks,WK,gB,owK,aK,bK,wD,wB,wN,wn,wX,xK⟩:=e.j.ex
 have hks:=bJ.length aK
 obtain ⟨m,hm⟩: ∃ m,L.length=m:=⟨_,rfl⟩
 have h0:0<L.length:=List.length_pos_of_mem ((E.mem _).2 hG.one)
 have hk0:0<ks.length:=by rw [hks];exact List.length_pos_of_mem (Sa h0)
 obtain ⟨S,cp,rfl,gS⟩: ∃ id cap,vK= .sl id 0 ks.length cap/\h7.get id=some (.cells false (Cls.oM ks)):=by
  rcases xK with h1|h1
  ·subst h1;simp at hk0
  ·exact h1
 have wS:=bK _ _ _ _ rfl
 have nS:=wn _ wS
 have cB2:h7.cell (X+8) 2=some (.sl S 0 ks.length cp):=by rw [H.aG gB];rfl
 show Wp T none (DU 2 jN.body) _ h7 _
 simp (disch:=omega) only [go_sem,DU,VP,jN,cB2]
 have hR: ∀ r∈jS G L L.length,r<L.length/\PD G L r:=λ r hr=>iE.1 hr
 have hPp: ∀ a∈ks,a.Pp h7 h7.next S:=λ a ha=>by
  obtain ⟨r,hr,k⟩:=bJ.ex aK ha
  obtain ⟨hrl,hri⟩:=hR r hr
  obtain ⟨l1,l2⟩:=Nu hG E hrl hri
  obtain ⟨id,off,m',cap,e1,e2,e3,e4⟩:=SI.lit k.ranks.si (by rw [aT];exact l1)
  have ho:=k.ranks.off
  rw [e1] at ho
  refine ⟨id,off,m',cap,e1,e3,λ h1=>ho (h1▸wS),?_⟩
  have:=e4 0 (by rw [aT];exact l1)
  rw [Nat.add_zero] at this
  rw [this,zi,mC _ (d:=0) l1,l2,k.fst]
 refine (Cls.VT h7 S h7.next ks cp (by rw [hks];have:=qE (G:=G) (L:=L) L.length;have:=e.le;omega) gS nS (jI _) hPp).mono ?_
 rintro _ h8 ⟨ks',gS8,pm,srt,F8⟩
 obtain ⟨K,hK⟩: ∃ K,ks'.map (λ a:Cls.KE=>a.fst)=K:=⟨_,rfl⟩
 have hlK:K.length=ks.length:=by rw [←hK,nO];exact pm.length_eq
 have hkr:ks.map (λ a:Cls.KE=>a.fst)=jS G L L.length:=by
  refine List.ext_getElem (by rw [nO];exact hks) λ i h1 h2=>?_
  rw [List.getElem_map]
  exact (bJ.get aK i (by simpa using h1) h2).fst
 have pK:K.Perm (jS G L L.length):=by rw [←hK,←hkr];exact pm.map _
 have kK: ∀ a∈ks',KO n G L X WK h7 a a.fst:=λ a ha=>by
  obtain ⟨r,hr,k⟩:=bJ.ex aK (pm.mem_iff.1 ha)
  rw [k.fst];exact k
 have FK:Fx WK h7 h8:=⟨F8.next,λ q h1 h2=>F8.get q h1 λ h3=>h2 (by have:q=S:=h3;rw [this];exact wS)⟩
 have kK8: ∀ a∈ks',KO n G L X WK h8 a a.fst:=λ a ha=>(kK a ha).go FK (by have:=wX S wS;omega) wX λ _ _ h1=>h1
 have hSD:=(owK.in _ _ _ _ rfl).2.1
 have xD:=e.xD
 have n8:=F8.next
 have gB8:h8.get (X+8)=some (.cells false [vL,.mp (X+3),.sl S 0 ks.length cp,.sl (X+6) 0 L.length (.kn L.length)]):=by
  rw [F8.get _ (wn _ wB) (λ h1=>by have:X+8=S:=h1;omega)];exact gB
 have cB8:h8.cell (X+8) 2=some (.sl S 0 ks.length cp):=by rw [H.aG gB8];rfl
 have gN7:h7.get (X+6)=some (.cells false (rc L.length λ _=> aB 0)):=by
  rw [e.j.old.get _ (by rw [e.n5];omega) (by omega)];exact e.gN
 have gN8:h8.get (X+6)=some (.cells false (rc L.length λ j=> aB (Xi G L K 0 0 j:Nat))):=by
  rw [F8.get _ (wn _ wN) (λ h1=>by have:X+6=S:=h1;omega),gN7,show (λ j=>aB (Xi G L K 0 0 j:Nat))=λ _=>aB 0 from funext λ j=>by rw [WQ];rfl]
 have hKk: ∀ k,k<K.length-> ∃ a,ks'[k]? =some a/\KO n G L X WK h8 a (K.getD k 0):=λ k hk=>by
  have hk':k<ks'.length:=by rw [pm.length_eq,←hlK];exact hk
  refine ⟨ks'[k],iH hk',?_⟩
  have:=kK8 _ (List.getElem_mem hk')
  have e2:K.getD k 0=(ks'[k]).fst:=by rw [Pm.bW hk];subst hK;rw [List.getElem_map]
  rw [e2];exact this
 have le:=e.le
 have hKle:K.length<=L.length:=by rw [hlK,hks];exact qE _
 have nN:=wn _ wN
 rw [←hlK] at cB8 gB8
 simp (disch:=omega) only [go_sem,cB8]
 refine bV (λ vs hh=>(∃ g:Nat->V,vs= [g 0,g 1,.nilp,aB 0,g 4,g 5,.ptr (X+8) 0,g 7,g 8,g 9,g 10,g 11,g 12,g 13,g 14,g 15,g 16,g 17,g 18,g 19,g 20,g 21,g 22,g 23,g 24,g 25,g 26,g 27,g 28,g 29,g 30,g 31,g 32,g 33,g 34,g 35,g 36,g 37,g 38,g 39,g 40,g 41,g 42,g 43,g 44,g 45])/\hh.get (X+6)=some (.cells false (rc L.length λ j=> aB (Xi G L K K.length 0 j:Nat)))/\Fx (· =X+6) h8 hh) ?_ ?_
 ·refine aJ (λ k' vs hh=> ∃ (k:Nat),(∃ g:Nat->V,vs= [g 0,g 1,.nilp,aB 0,g 4,g 5,.ptr (X+8) 0,g 7,g 8,g 9,g 10,g 11,g 12,g 13,g 14,g 15,g 16,g 17,g 18,g 19,g 20,g 21,g 22,g 23,g 24,g 25,g 26,g 27,g 28,g 29,g 30,g 31,g 32,g 33,g 34,g 35,g 36,g 37,.sl S 0 K.length cp,aB (K.length:Int),aB k,g 41,g 42,g 43,g 44,g 45])/\k<=K.length/\hh.get (X+6)=some (.cells false (rc L.length λ j=> aB (Xi G L K k 0 j:Nat)))/\Fx (· =X+6) h8 hh/\k'=K.length-k) K.length
   ⟨0,aA rfl,mJ _,gN8,Fx.refl _ _,rfl⟩ ?_
  rintro k' vars h9 ⟨k,⟨g,rfl⟩,hk,gN9,F9,rfl⟩
  have n9:=F9.next
  by_cases hlt:(k:Int)<(K.length:Int)
  case neg=>
   have d4:=gJ hlt
   obtain rfl:k=K.length:=by omega
   simp (disch:=omega) only [go_sem,d4]
   exact ⟨aA rfl,gN9,F9⟩
  have d4:=mG hlt
  have hk':k<K.length:=by omega
  obtain ⟨a,ea,ko⟩:=hKk k hk'
  have hkl:k<ks'.length:=by rw [pm.length_eq,←hlK];exact hk'
  have ea':ks'[k]=a:=by rw [iH hkl] at ea;simpa using ea
  have gS9:h9.get S=some (.cells false (Cls.oM ks')):=by rw [F9.get _ (by omega) (λ h1=>by have:S=X+6:=h1;omega)];exact gS8
  have rw9:h9.row S (k*4) 4=some a.enc:=by
   have:=qB (pre:= []) (by simpa using gS9) hkl
   rw [ea'] at this
   simpa using this
  obtain ⟨Y,hY⟩: ∃ Y,h9.next=Y:=⟨_,rfl⟩
  obtain ⟨ha,eha,na,ga,oa,fa⟩:=iK hY [.aC,aB 0,aB 0,.aC]
  obtain ⟨hb,ehb,nb,gb,ob⟩:=Ca ha Y a.enc
  have cb3:hb.cell Y 3=some a.ranks:=by rw [H.aG gb];rfl
  have lr:=ko.ranks.si.lens
  rw [aT] at lr
  obtain ⟨r,hr⟩: ∃ r,K.getD k 0=r:=⟨_,rfl⟩
  rw [hr] at ko lr
  simp (disch:=omega) only [go_sem,d4,rw9,hY,eha,Tg,ga,Vg,ehb,cb3,lr]
  have hrK:r∈jS G L L.length:=by rw [←hr];exact pK.mem_iff.1 (bG hk')
  obtain ⟨hrl,hri⟩:=hR r hrK
  obtain ⟨l1,l2⟩:=Nu hG E hrl hri
  obtain ⟨idR,offR,mR,capR,e1,e2,e3,e4⟩:=SI.lit ko.ranks.si (by rw [aT];exact l1)
  have ho:=ko.ranks.off
  rw [e1] at ho
  have hRN:idR≠X+6:=λ h1=>ho (h1▸wN)
  obtain ⟨c,hc⟩: ∃ c,(iG G L r).length=c:=⟨_,rfl⟩
  rw [aT,hc] at e2 e4
  have hcl:c<=L.length:=by
   rw [←hc]
   have:=List.Nodup.length_le_of_subset (sV (G:=G) (L:=L) r) (l₂:=List.range L.length) λ j hj=>List.mem_range.2 (fD.1 hj).1
   rwa [List.length_range] at this
  rw [hc,e1]
  have Fb:Fx (· =X+6) h8 hb:=⟨by omega,λ q h1 h2=>by rw [ob q (by omega),oa q (by omega)];exact F9.get q h1 h2⟩
  have gNb:hb.get (X+6)=some (.cells false (rc L.length λ j=> aB (Xi G L K k 0 j:Nat))):=by rw [ob _ (by omega),oa _ (by omega)];exact gN9
  have gBb: ∀ hh,Fx (· =X+6) h8 hh->hh.cell (X+8) 3=some (.sl (X+6) 0 L.length (.kn L.length)):=λ hh f=>by
   have:hh.get (X+8)=h8.get (X+8):=f.get _ (by have:=wn _ wB;omega) (by omega)
   rw [H.aG (this.trans gB8)];rfl
  refine Ef (λ vs hh=>(∃ g:Nat->V,vs= [g 0,g 1,.nilp,aB 0,g 4,g 5,.ptr (X+8) 0,g 7,g 8,g 9,g 10,g 11,g 12,g 13,g 14,g 15,g 16,g 17,g 18,g 19,g 20,g 21,g 22,g 23,g 24,g 25,g 26,g 27,g 28,g 29,g 30,g 31,g 32,g 33,g 34,g 35,g 36,g 37,.sl S 0 K.length cp,aB (K.length:Int),aB k,g 41,g 42,g 43,g 44,g 45])/\hh.get (X+6)=some (.cells false (rc L.length λ j=> aB (Xi G L K (k+1) 0 j:Nat)))/\Fx (· =X+6) h8 hh) ?_ ?_
  ·refine aJ (λ k' vs hh=> ∃ (t:Nat),(∃ g:Nat->V,vs= [g 0,g 1,.nilp,aB 0,g 4,g 5,.ptr (X+8) 0,g 7,g 8,g 9,g 10,g 11,g 12,g 13,g 14,g 15,g 16,g 17,g 18,aB k,g 20,g 21,g 22,g 23,g 24,g 25,g 26,g 27,g 28,g 29,g 30,g 31,g 32,g 33,g 34,g 35,g 36,g 37,.sl S 0 K.length cp,aB (K.length:Int),aB k,g 41,.sl idR offR (mR+1) capR,aB c,aB t,g 45])/\t<=c/\hh.get (X+6)=some (.cells false (rc L.length λ j=> aB (Xi G L K k t j:Nat)))/\Fx (· =X+6) h8 hh/\k'=c-t) c
    ⟨0,aA rfl,mJ _,gNb,Fb,rfl⟩ ?_
   clear gNb Fb gb ob cb3 nb ehb ga oa fa na eha rw9 gN9 F9 n9
   rintro k' vars hc' ⟨t,⟨g2,rfl⟩,ht,gNc,Fc,rfl⟩
   by_cases htl:(t:Int)<(c:Int)
   case neg=>
    have d5:decide ((t:Int)<(c:Int))=false:=decide_eq_false htl
    obtain rfl:t=c:=by omega
    simp (disch:=omega) only [go_sem,d5]
    refine ⟨aA rfl,?_,Fc⟩
    rw [gNc,show (λ j=>aB (Xi G L K k t j:Nat))=λ j=>aB (Xi G L K (k+1) 0 j:Nat) from funext λ j=>by rw [←XW,hr,hc]]
   have d5:decide ((t:Int)<(c:Int))=true:=decide_eq_true htl
   have ht':t<c:=by omega
   obtain ⟨x,hx⟩: ∃ x,(iG G L r).getD t 0=x:=⟨_,rfl⟩
   have hxl:x<L.length:=by rw [←hx];exact (fD.1 (bG (by omega))).1
   have cR':hc'.cell idR (offR+t)=some (aB x):=by
    have e5:=e4 t ht'
    unfold H.cell at e5 ⊢
    rw [Fc.get idR e3 hRN,e5,zi,mC _ (d:=0) (by omega),hx]
   have pt:=bT (vs:=rc L.length λ j=> aB (Xi G L K k t j:Nat)) (off:=x) (by rw [gT];exact hxl)
   have tl:(t:Int).toNat=t:=rfl
   simp (disch:=omega) only [go_sem,d5,cR',gBb hc' Fc,gNc,pt]
   rw [iJ t]
   refine ⟨c-(t+1),by omega,t+1,aA rfl,by omega,?_,⟨Fc.next,λ q h1 h2=>by rw [H.aH _ h2];exact Fc.get q h1 h2⟩,rfl⟩
   rw [lQ,cJ λ j hj=>?_]
   rw [ZN hG E pK hk' (by rw [hr];omega),hr,hx]
   by_cases ej:j=x
   ·rw [if_pos ej,if_pos ej]
   ·rw [if_neg ej,if_neg ej]
  rintro vars hd ⟨⟨g2,rfl⟩,gNd,Fd⟩
  simp (disch:=omega) only [go_sem]
  rw [iJ k]
  exact ⟨K.length-(k+1),by omega,k+1,aA rfl,by omega,gNd,Fd,rfl⟩
 rintro vars h9 ⟨⟨g,rfl⟩,gN9,F9⟩
 have n9:=F9.next
 simp (disch:=omega) only [go_sem]
 have n2:=e.x2
 have o9: ∀ q,q<D->q≠X+8->q≠X+6->h9.get q=h5.get q:=λ q h1 h2 h3=>by
  rw [F9.get q (by have:=e.j.nx;omega) h3,F8.get q (by have:=e.j.nx;omega) (λ h4=>by have:q=S:=h4;omega),e.j.old.get q (by rw [e.n5];exact h1) (λ h4=>by rcases h4 with h4|h4;exact h2 h4;omega)]
 have nx:=e.j.nx
 have f29:Fr h2 h9:=⟨by omega,λ q hq=>by rw [o9 q (by omega) (by omega) (by omega)];exact e.f25.get q hq⟩
 have F89:Fx WK h8 h9:=⟨F9.next,λ q h1 h2=>F9.get q h1 λ h3=>h2 (by have:q=X+6:=h3;rw [this];exact wN)⟩
 have hnd:K.Nodup:=pK.nodup_iff.2 (by classical exact (by unfold jS;exact List.Pairwise.filter _ List.nodup_range))
 have hlk:ks'.length=K.length:=by rw [←hK,nO]
 refine ⟨.ptr (X+8) 0,K,rfl,⟨X+8,X+3,X+6,S,cp,vL,ks',rfl,by omega,by omega,by omega,by omega,?_,?_,?_,?_,?_,e.sp.mono f29⟩,⟨pK,?_⟩,e.f2.trans f29⟩
 ·rw [F9.get _ (by omega) (by omega)];exact gB8
 ·rw [o9 _ (by omega) (by omega) (by omega)];exact e.gM
 ·rw [gN9,cJ λ j hj=>by rw [acA hG E pK hj]]
 ·rw [F9.get _ (by omega) (by omega)];exact gS8
 ·refine bJ.oT hlk λ i h1 h2=>?_
  obtain ⟨a,ea,ko⟩:=hKk i h2
  have ea':ks'[i]=a:=by rw [iH h1] at ea;simpa using ea
  have k9:=ko.go F89 (by omega) wX λ _ _ h1=>h1
  rw [Pm.bW h2] at k9
  rw [ea']
  exact ⟨k9.fst,k9.ord,k9.size,k9.rep.si,k9.ranks.si⟩
 ·have h1:ks'.Pairwise λ a b=>a.fst≠b.fst:=by
   have:=hnd
   rw [←hK] at this
   exact List.pairwise_map.1 this
  rw [←hK,List.pairwise_map]
  refine List.Pairwise.imp_of_mem ?_ (List.Pairwise.and srt h1)
  rintro a b ha hb ⟨h2,h3⟩
  have ka:=kK a ha
  have kb:=kK b hb
  have h4: ¬(b.lt a=true):=by rw [h2];simp
  rw [Cls.KE.lt_iff] at h4
  unfold kLt
  rw [←ka.ord,←kb.ord,←ka.size,←kb.size]
  omega
theorem RB {n:Nat} {G:List Nat->Prop} {L:LN} {r s:Nat} (a:kLt n G L r s) (b:kLt n G L s r):False:=by
 unfold kLt at a b;omega
theorem Qe.uniq {n:Nat} {G:List Nat->Prop} {L:LN} {K K':List Nat} (a:Qe n G L K) (b:Qe n G L K'):K=K':=
 (a.perm.trans b.perm.symm).eq_of_pairwise (λ _ _ _ _ h1 h2=>(RB h1 h2).elim) a.asc b.asc
noncomputable def Kl (G:List Nat->Prop) (L:LN) (K:List Nat):List Nat:=(List.range L.length).map (yA G L K)
theorem agE (G:List Nat->Prop) (L:LN) (K:List Nat):(rc L.length λ j=>aB (yA G L K j:Nat))=ints (zi (Kl G L K)):=by
 refine Ly (by rw [aS,aT];simp [Kl]) λ i hi=>?_
 rw [Dp (by simpa [Kl] using hi)]
 have:(Kl G L K).getD i 0=yA G L K i:=by simp [Kl,hi]
 rw [this]
theorem ajZ {W0:Nat->Prop} (vc:V) (n:Nat) (O:LN) (R:qF) (G:List Nat->Prop) (h:H) (gc:GC W0 h vc n O R G) (L:LN) (hL:dG O R n 0 (bZ n)=L):
  Ev T Wt [vc] h (λ v h'=> ∃ vl K,v= .tup [vl,aB 0]/\Qe n G L K/\SI h' vl (zi (Kl G L K))/\Fr h h'):=by
 obtain ⟨vO,vR,e,sO,sR⟩:=gc.ch
 subst e
 refine aZ Xe rfl ?_
 have oneO:vO.one=true:=by obtain ⟨_,t,_⟩:=sO;exact t.bP.2.1
 have oneR:vR.one=true:=by obtain ⟨_,t,_⟩:=sR;exact t.bP.2.1
 obtain ⟨A,hA⟩: ∃ A,h.next=A:=⟨_,rfl⟩
 obtain ⟨h1,e1,n1,g1,o1,f1⟩:=iK hA [aB n,vO,vR]
 have bx:=dM h (v:= aB n) (u:=vO) (w:=vR) rfl oneO oneR
 have rB:=aX g1
 simp (disch:=omega) only [go_sem,tD,aF,bx,hA,e1,rB]
 refine (Ox _ n O R G h1 (gc.mono f1)).mono ?_
 rw [hL]
 rintro _ h2 ⟨p,K,rfl,go,ik,f2⟩
 obtain ⟨B,M,N,S,cp,vL,ks,rfl,hB,hM,hN,hS,gB,gM,gN,gS,a,sp⟩:=go.ex
 have c3:h2.cell B 3=some (.sl N 0 L.length (.kn L.length)):=by rw [H.aG gB];rfl
 simp (disch:=omega) only [go_sem]
 refine aY (λ hc=>(hc rfl).elim) (λ _=>?_)
 simp (disch:=omega) only [go_sem,c3]
 rw [agE] at gN
 exact ⟨_,K,rfl,ik,SV.all (by rw [aS,aT];simp [Kl]) hN gN _,f1.trans f2⟩
def sF (ks:List Cls.KE):List V:=ks.flatMap λ a=> [a.rep,aB (a.ord:Int),aB (a.size:Int)]
theorem iU (ks:List Cls.KE):(sF ks).length=ks.length*3:=by
 induction ks with
 |nil=>rfl
 |cons a r ih=>
  show ([a.rep,aB (a.ord:Int),aB (a.size:Int)]++sF r).length=_
  rw [vA,ih]
  show 3+r.length*3=(r.length+1)*3
  omega
theorem acR {h:H} {Y:Nat} {ro:Bool} {a:Cls.KE} (g:h.get Y=some (.cells ro a.enc)):h.row Y 0 3=some [a.rep,aB (a.ord:Int),aB (a.size:Int)]:=by
 simp [H.row,g,sub,Cls.KE.enc]
theorem RW {v:V} (ho:v.one=true) (x y:Int) (h:H):rV h 3 [.aC,aB 0,aB 0] 1 [(0,3,.agg [v,aB x,aB y])]=some (.sl h.next 0 1 (.kn 1),h.new (.cells false [v,aB x,aB y])):=by
 have e:dQ [V.aC,aB 0,aB 0] 3= [V.aC,aB 0,aB 0]:=rfl
 simp [rV,jJ,putAt,e,ho,show ∀ l,(V.agg l).cells=l from λ _=>rfl,show ∀ z,(aB z).one=true from λ _=>rfl]
theorem Ep {W0:Nat->Prop} (vc:V) (n:Nat) (O:LN) (R:qF) (G:List Nat->Prop) (h:H) (gc:GC W0 h vc n O R G) (L:LN) (hL:dG O R n 0 (bZ n)=L):
  Ev T Tq [vc] h (λ v h'=> ∃ vl K ks,v= .tup [vl,aB 0]/\Qe n G L K/\SV h' vl 3 (sF ks)/\bJ (KR n G L h') ks K/\Fr h h'):=by
 obtain ⟨vO,vR,e,sO,sR⟩:=gc.ch
 subst e
 refine aZ Tm rfl ?_
 have oneO:vO.one=true:=by obtain ⟨_,t,_⟩:=sO;exact t.bP.2.1
 have oneR:vR.one=true:=by obtain ⟨_,t,_⟩:=sR;exact t.bP.2.1
 obtain ⟨A,hA⟩: ∃ A,h.next=A:=⟨_,rfl⟩
 obtain ⟨h1,e1,n1,g1,o1,f1⟩:=iK hA [aB n,vO,vR]
 have bx:=dM h (v:= aB n) (u:=vO) (w:=vR) rfl oneO oneR
 have rB:=aX g1
 simp (disch:=omega) only [go_sem,qU,aF,bx,hA,e1,rB]
 refine (Ox _ n O R G h1 (gc.mono f1)).mono ?_
 rw [hL]
 rintro _ h2 ⟨p,K,rfl,go,ik,f2⟩
 obtain ⟨B,M,N,S,cp,vL,ks,rfl,hB,hM,hN,hS,gB,gM,gN,gS,aK,sp⟩:=go.ex
 have c2:h2.cell B 2=some (.sl S 0 K.length cp):=by rw [H.aG gB];rfl
 have hlk:=bJ.length aK
 have hKle:K.length<=5040:=by
  have h1:=ik.perm.length_eq
  have h2:=qE (G:=G) (L:=L) L.length
  have h3:=qN gc
  have h4:=(fC gc.jY gc.isc).2
  rw [hL] at h4
  omega
 simp (disch:=omega) only [go_sem]
 refine aY (λ hc=>(hc rfl).elim) (λ _=>?_)
 simp (disch:=omega) only [go_sem,c2]
 refine bV (λ vs hh=> ∃ v6,(∃ g:Nat->V,vs= [g 0,g 1,g 2,g 3,g 4,g 5,v6,g 7,g 8,g 9,g 10,g 11,g 12])/\SV hh v6 3 (sF ks)/\Fr h2 hh) ?_ ?_
 ·refine aJ (λ k' vs hh=> ∃ (k:Nat) (v6:V),(∃ g:Nat->V,vs= [g 0,g 1,g 2,g 3,.ptr B 0,g 5,v6,g 7,g 8,.sl S 0 K.length cp,aB (K.length:Int),aB k,g 12])/\k<=K.length/\eL hh v6 3 (sF (ks.take k)) h2.next/\Fr h2 hh/\k'=K.length-k) K.length
   ⟨0,.aC,aA rfl,mJ _,eL.aC _ _ _,Fr.refl _,rfl⟩ ?_
  rintro k' vars h9 ⟨k,v6,⟨g,rfl⟩,hk,ow,F9,rfl⟩
  by_cases hlt:(k:Int)<(K.length:Int)
  case neg=>
   have d4:=gJ hlt
   obtain rfl:k=K.length:=by omega
   simp (disch:=omega) only [go_sem,d4]
   rw [List.take_of_length_le (by omega)] at ow
   exact ⟨v6,aA rfl,ow.sv,F9⟩
  have d4:=mG hlt
  have hk':k<K.length:=by omega
  have hkl:k<ks.length:=by omega
  obtain ⟨a,ea⟩: ∃ a,ks[k]=a:=⟨_,rfl⟩
  have gS9:h9.get S=bQ (Cls.oM ks):=by rw [F9.get _ hS];exact gS
  have rw9:h9.row S (k*4) 4=some a.enc:=by
   have:=qB (pre:= []) (by simpa using gS9) hkl
   rw [ea] at this
   simpa using this
  obtain ⟨Y,hY⟩: ∃ Y,h9.next=Y:=⟨_,rfl⟩
  obtain ⟨ha,eha,na,ga,oa,fa⟩:=iK hY [.aC,aB 0,aB 0,.aC]
  obtain ⟨hb,ehb,nb,gb,ob⟩:=Ca ha Y a.enc
  obtain ⟨Z,hZ⟩: ∃ Z,hb.next=Z:=⟨_,rfl⟩
  obtain ⟨hc',ehc,nc,gc',oc,fc⟩:=iK hZ [a.rep,aB (a.ord:Int),aB (a.size:Int)]
  have F9c:Fr h9 hc':=⟨by omega,λ q hq=>by rw [oc q (by omega),ob q (by omega),oa q (by omega)]⟩
  have owc:eL hc' v6 3 (sF (ks.take k)) h2.next:=ow.fr F9c
  obtain ⟨hd,ad,pd⟩:=owc.push (bytes:=40) (y:= .sl Z 0 1 (.kn 1)) (us:= [a.rep,aB (a.ord:Int),aB (a.size:Int)]) (SV.all rfl (by omega) gc' _) (n:=k) (m:=1) (by rw [iU,List.length_take];omega) rfl (by omega) (by omega) (by omega)
  simp (disch:=omega) only [go_sem,d4,rw9,hY,eha,Tg,ga,Vg,ehb,acR gb,RW a.hrep.2.1,hZ,ehc,ad]
  rw [iJ k]
  have el:sF (ks.take (k+1))=sF (ks.take k)++ [a.rep,aB (a.ord:Int),aB (a.size:Int)]:=by
   rw [List.take_succ_eq_append_getElem hkl,ea];simp [sF]
  have n9:=F9.next
  have nd:=pd.next
  have F9d:Fr h2 hd:=⟨by omega,λ q hq=>by rw [pd.old q (by omega) (λ id off n' c e e2=>by have:=(ow.in _ _ _ _ e).2.1;omega),F9c.get q (by omega)];exact F9.get q hq⟩
  exact ⟨K.length-(k+1),by omega,k+1,_,aA rfl,by omega,by rw [el];exact pd.own (by rw [iU,List.length_take];omega) rfl (by omega),F9d,rfl⟩
 rintro vars h9 ⟨v6,⟨g,rfl⟩,sv,F9⟩
 simp (disch:=omega) only [go_sem]
 exact ⟨v6,K,ks,rfl,ik,sv,aK.mono λ _ _ k=>k.mono F9,(f1.trans f2).trans F9⟩
theorem RF {L:LN} (nd:L.Nodup) {i:Nat} (hi:i<L.length) (hK:isKey .str (.str (L.getD i []))=true) (z:V):
  BX (some (.wmap .str (Xq L L.length))) .str z true (.str (L.getD i []))=some (.tup [aB i,.bool true]):=by
 simp only [BX]
 rw [if_pos ⟨trivial,hK⟩,Rl nd (jI _) hi];rfl
theorem TV {L:LN} {w:List Nat} (hw:w∉L) (hK:isKey .str (.str w)=true) (z:V):
  BX (some (.wmap .str (Xq L L.length))) .str z true (.str w)=some (.tup [z,.bool false]):=by
 simp only [BX]
 rw [if_pos ⟨trivial,hK⟩,Jx λ i hi e=>hw (by rw [←e];exact bG hi)];rfl
def akM (n:Nat) (G:List Nat->Prop) (L:LN) (K:List Nat) (x:List Int) (v:V):Prop:=
 Sk x≠0/\v= .tup [aB 0,aB (Sk x)]∨Sk x=0/\x.length≠n/\v= .tup [aB 0,aB 10]∨
  ∃ y,x=zi y/\bI n y/\((∃ i,i<L.length/\L.getD i []=y/\v= .tup [aB (yA G L K i:Nat),aB 0])∨ ¬G y/\v= .tup [aB 0,aB 18])
theorem GX {W0:Nat->Prop} (vc vx:V) (x:List Int) (n:Nat) (O:LN) (R:qF) (G:List Nat->Prop) (h:H) (gc:GC W0 h vc n O R G) (hx:SI h vx x) (hxl:x.length<1000000) (L:LN) (hL:dG O R n 0 (bZ n)=L):
  Ev T Tu [vc,vx] h (λ v h'=> ∃ K,Qe n G L K/\Fr h h'/\akM n G L K x v):=by
 obtain ⟨vO,vR,e,sO,sR⟩:=gc.ch
 subst e
 refine aZ Vn rfl ?_
 have oneO:vO.one=true:=by obtain ⟨_,t,_⟩:=sO;exact t.bP.2.1
 have oneR:vR.one=true:=by obtain ⟨_,t,_⟩:=sR;exact t.bP.2.1
 obtain ⟨A,hA⟩: ∃ A,h.next=A:=⟨_,rfl⟩
 obtain ⟨h1,e1,n1,g1,o1,f1⟩:=iK hA [aB n,vO,vR]
 have bx:=dM h (v:= aB n) (u:=vO) (w:=vR) rfl oneO oneR
 have rB:=aX g1
 simp (disch:=omega) only [go_sem,rE,aF,bx,hA,e1,rB]
 refine (Ox _ n O R G h1 (gc.mono f1)).mono ?_
 rw [hL]
 rintro _ h2 ⟨p,K,rfl,go,ik,f2⟩
 obtain ⟨B,M,N,S,cp,vL,ks,rfl,hB,hM,hN,hS,gB,gM,gN,gS,aK,sp⟩:=go.ex
 have F2:=f1.trans f2
 have gA2:h2.get A=bQ [aB n,vO,vR]:=by rw [f2.get _ (by omega)];exact g1
 simp (disch:=omega) only [go_sem]
 refine aY (λ hc=>(hc rfl).elim) (λ _=>?_)
 simp (disch:=omega) only [go_sem]
 refine (oZ vx x h2 hxl (hx.mono F2)).mono ?_
 rintro _ h3 ⟨rfl,f3⟩
 have F3:=F2.trans f3
 have lx:=hx.lens
 by_cases hp:Sk x=0
 case neg=>
  simp (disch:=omega) only [go_sem]
  refine aY (λ _=>?_) (λ hc=>(hc hp).elim)
  simp (disch:=omega) only [go_sem]
  exact ⟨K,ik,F3,.inl ⟨hp,rfl⟩⟩
 rw [hp]
 have gA3:h3.get A=bQ [aB n,vO,vR]:=by rw [f3.get _ (by have:=f2.next;omega)];exact gA2
 have cA:h3.cell A 0=some (aB n):=by rw [H.aG gA3];rfl
 simp (disch:=omega) only [go_sem]
 refine aY (λ hc=>(hc rfl).elim) (λ _=>?_)
 simp (disch:=omega) only [go_sem,cA,lx]
 by_cases hl:x.length=n
 case neg=>
  refine aY (λ _=>?_) (λ hc=>(hc (by omega)).elim)
  simp (disch:=omega) only [go_sem]
  exact ⟨K,ik,F3,.inr (.inl ⟨hp,hl,rfl⟩)⟩
 refine aY (λ hc=>(hc (by omega)).elim) (λ _=>?_)
 have hok:rJ x=true:=by
  unfold Sk at hp
  split at hp
  ·cases hp
  ·split at hp
   ·assumption
   ·cases hp
 obtain ⟨ex,Y⟩:=Zz hok
 rw [hl] at Y
 obtain ⟨y,hy⟩: ∃ y,x.map Int.toNat=y:=⟨_,rfl⟩
 rw [hy] at ex Y
 subst ex
 have n7:=gc.n7
 have cB1:h3.cell B 1=some (.mp M):=by rw [f3.cell hB,H.aG gB];rfl
 have hy1:y.length<=1000:=by rw [Y.len];omega
 have hy2: ∀ z∈y,z<256:=λ z hz=>by have:=Y.lt z hz;omega
 have hK:=Iu hy1 hy2
 have E:=(fC gc.jY gc.isc).1
 rw [hL] at E
 simp (disch:=omega) only [go_sem,cB1]
 refine (Qs vx y _ hy1 hy2 (hx.mono (F3.trans ((Fr.refl h3).bF (by omega))))).mono ?_
 rintro _ h4 ⟨rfl,f4'⟩
 have f4:Fr h3 h4:=((Fr.refl h3).bF (by omega)).trans f4'
 have n3:=f3.next
 have n4:=f4.next
 have cB4:h4.cell B 1=some (.mp M):=by rw [f4.cell (by omega)];exact cB1
 have gM4:h4.get M=some (.wmap .str (Xq L L.length)):=by rw [f4.get _ (by omega),f3.get _ hM];exact gM
 by_cases hG:y∈L
 ·obtain ⟨i,hi,ei⟩:=List.mem_iff_getElem.1 hG
  have ei':L.getD i []=y:=by rw [List.getD,iH hi,←ei];rfl
  have lk:=λ z=>RF E.nodup hi (by rw [ei'];exact hK) z
  rw [ei'] at lk
  have cB3:h4.cell B 3=some (.sl N 0 L.length (.kn L.length)):=by rw [f4.cell (by omega),f3.cell hB,H.aG gB];rfl
  have cN:h4.cell N i=some (aB (yA G L K i:Nat)):=by rw [f4.cell (by omega),f3.cell hN];exact qT gN hi
  simp (disch:=omega) only [go_sem,cB4,gM4,lk,cB3,cN]
  exact ⟨by simp [eU],K,ik,F3.trans f4,.inr (.inr ⟨y,rfl,Y,.inl ⟨i,hi,ei',rfl⟩⟩)⟩
 ·have lk:=λ z=>TV hG hK z
  simp (disch:=omega) only [go_sem,cB4,gM4,lk]
  exact ⟨by simp [eU],K,ik,F3.trans f4,.inr (.inr ⟨y,rfl,Y,.inr ⟨λ hg=>hG ((E.mem _).2 hg),rfl⟩⟩)⟩
theorem QU {W0:Nat->Prop} (vc:V) (z:Int) (n:Nat) (O:LN) (R:qF) (G:List Nat->Prop) (h:H) (gc:GC W0 h vc n O R G) (L:LN) (hL:dG O R n 0 (bZ n)=L):
  Ev T Ik [vc,aB z] h (λ v h'=> ∃ K,Qe n G L K/\Fr h h'/\((z<0∨(K.length:Int)<=z)/\v= .tup [.aC,aB 2]∨ ∃ (k:Nat) (vl:V),z=(k:Int)/\k<K.length/\v= .tup [vl,aB 0]/\SP h' vl ((iG G L (K.getD k 0)).map λ r=>L.getD r []))):=by
 obtain ⟨vO,vR,e,sO,sR⟩:=gc.ch
 subst e
 refine aZ Jg rfl ?_
 have oneO:vO.one=true:=by obtain ⟨_,t,_⟩:=sO;exact t.bP.2.1
 have oneR:vR.one=true:=by obtain ⟨_,t,_⟩:=sR;exact t.bP.2.1
 obtain ⟨A,hA⟩: ∃ A,h.next=A:=⟨_,rfl⟩
 obtain ⟨h1,e1,n1,g1,o1,f1⟩:=iK hA [aB n,vO,vR]
 have bx:=dM h (v:= aB n) (u:=vO) (w:=vR) rfl oneO oneR
 have rB:=aX g1
 simp (disch:=omega) only [go_sem,lZ,aF,bx,hA,e1,rB]
 refine (Ox _ n O R G h1 (gc.mono f1)).mono ?_
 rw [hL]
 rintro _ h2 ⟨p,K,rfl,go,ik,f2⟩
 obtain ⟨B,M,N,S,cp,vL,ks,rfl,hB,hM,hN,hS,gB,gM,gN,gS,aK,sp⟩:=go.ex
 have F2:=f1.trans f2
 have c2:h2.cell B 2=some (.sl S 0 K.length cp):=by rw [H.aG gB];rfl
 have c0: ∀ h',Fr h2 h'->h'.cell B 0=some vL:=λ h' f=>by rw [f.cell hB,H.aG gB];rfl
 simp (disch:=omega) only [go_sem]
 refine aY (λ hc=>(hc rfl).elim) (λ _=>?_)
 by_cases hz:z<0
 ·have d1:decide (z<0)=true:=decide_eq_true hz
  simp (disch:=omega) only [go_sem,d1,tX]
  exact ⟨K,ik,F2,.inl ⟨.inl hz,trivial⟩⟩
 have d1:decide (z<0)=false:=decide_eq_false hz
 by_cases hk:(K.length:Int)<=z
 ·have d2:=mG hk
  simp (disch:=omega) only [go_sem,d1,d2,c2]
  exact ⟨K,ik,F2,.inl ⟨.inr hk,trivial⟩⟩
 have d2:=gJ hk
 obtain ⟨k,rfl⟩: ∃ k:Nat,z=(k:Int):=⟨z.toNat,by omega⟩
 have hk':k<K.length:=by omega
 have hlk:=bJ.length aK
 have hkl:k<ks.length:=by omega
 obtain ⟨a,ea⟩: ∃ a,ks[k]=a:=⟨_,rfl⟩
 have ka:=bJ.get aK k hkl hk'
 rw [ea,←Pm.bW hk'] at ka
 obtain ⟨r,hr⟩: ∃ r,K.getD k 0=r:=⟨_,rfl⟩
 rw [hr] at ka
 have cS3:h2.cell S (k*4+3)=some a.ranks:=by
  have h3:=qB (pre:= []) (by simpa using gS) hkl
  rw [ea] at h3
  simp only [List.length_nil,Nat.zero_add] at h3
  have h4:h2.cell S (k*4+3)=(Cls.oM ks)[k*4+3]? :=H.aG gS _
  unfold H.row at h3
  rw [gS] at h3
  simp only [sub] at h3
  split at h3
  ·rw [h4]
   have h5:=congrArg (λ o=>o.map λ l=>l[3]?) h3
   simpa [List.getElem?_take,List.getElem?_drop,Cls.KE.enc] using h5
  ·cases h3
 obtain ⟨c,hc⟩: ∃ c,(iG G L r).length=c:=⟨_,rfl⟩
 have E:=(fC gc.jY gc.isc).1
 have h4l:=(fC gc.jY gc.isc).2
 have h5l:=qN gc
 rw [hL] at E h4l
 have hcl:c<=L.length:=by
  rw [←hc]
  have:=List.Nodup.length_le_of_subset (sV (G:=G) (L:=L) r) (l₂:=List.range L.length) λ j hj=>List.mem_range.2 (fD.1 hj).1
  rwa [List.length_range] at this
 have lr:=ka.ranks.lens
 rw [aT,hc] at lr
 obtain ⟨idR,offR,shR,hidR,hcR⟩:=ka.ranks.open
 rw [aT,hc] at shR hidR hcR
 obtain ⟨wL,svL,aL⟩:=sp
 have hwL:=bJ.length aL
 rw [nO] at hwL
 obtain ⟨idL,offL,shL,hidL,hcL⟩:=SV.shape svL L.length (by omega) (by omega)
 have hel: ∀ x,x<L.length->SI h2 (wL.getD x .undef) (zi (L.getD x [])):=λ x hx=>Lj aL hx
 simp (disch:=omega) only [go_sem,d1,d2,c2,cS3,lr]
 refine bV (λ vs hh=> ∃ v7,(∃ g:Nat->V,vs= [g 0,g 1,g 2,g 3,g 4,g 5,g 6,v7,g 8,g 9,g 10,g 11,g 12,g 13,g 14])/\SP hh v7 ((iG G L r).map λ r=>L.getD r [])/\Fr h2 hh) ?_ ?_
 ·refine aJ (λ k' vs hh=> ∃ (t:Nat) (v7:V),(∃ g:Nat->V,vs= [g 0,g 1,g 2,g 3,g 4,.ptr B 0,g 6,v7,g 8,g 9,g 10,a.ranks,aB c,aB t,g 14])/\t<=c/\eL hh v7 1 (((iG G L r).take t).map λ x=>wL.getD x .undef) h2.next/\Fr h2 hh/\k'=c-t) c
   ⟨0,.aC,aA rfl,mJ _,eL.aC _ _ _,Fr.refl _,rfl⟩ ?_
  rintro k' vars h9 ⟨t,v7,⟨g,rfl⟩,ht,ow,F9,rfl⟩
  by_cases hlt:(t:Int)<(c:Int)
  case neg=>
   have d4:=gJ hlt
   obtain rfl:t=c:=by omega
   simp (disch:=omega) only [go_sem,d4]
   rw [List.take_of_length_le (by omega)] at ow
   refine ⟨v7,aA rfl,⟨_,ow.sv,bJ.oT (by simp) λ i h1 h2=>?_⟩,F9⟩
   have h1':i<(iG G L r).length:=by simpa using h1
   simp only [List.getElem_map]
   exact (hel _ (fD.1 (List.getElem_mem h1')).1).mono F9
  have d4:=mG hlt
  have ht':t<c:=by omega
  obtain ⟨x,hx⟩: ∃ x,(iG G L r).getD t 0=x:=⟨_,rfl⟩
  have hxl:x<L.length:=by rw [←hx];exact (fD.1 (bG (by omega))).1
  have cx:h9.cell idR (offR+t)=some (aB x):=by
   rw [F9.cell (hidR (by omega)),hcR t ht',zi,mC _ (d:=0) (by omega),hx]
  have cl:h9.cell idL (offL+x)=some (wL.getD x .undef):=by
   rw [F9.cell (hidL (by omega)),hcL x (by omega)];simp [List.getD,show x<wL.length by omega]
  have se:=hel x hxl
  generalize hv:wL.getD x .undef=ve at cl se
  obtain ⟨Y,hY⟩: ∃ Y,h9.next=Y:=⟨_,rfl⟩
  obtain ⟨ha,eha,na,ga,oa,fa⟩:=iK hY [ve]
  obtain ⟨hd,ad,pd⟩:=(ow.fr fa).push (bytes:=24) (SV.one (v:=ve) (id:=Y) (by omega) ga (.kn 1)) (n:=t) (m:=1) (by rw [nO,List.length_take];omega) rfl (by omega) (by omega) (by omega)
  simp (disch:=omega) only [go_sem,d4,shR.ixa,cx,c0 h9 F9,shL.ixa,cl,dN h9 (z:= .aC) se.bP.1 se.bP.2.1,hY,eha,ad]
  rw [iJ t]
  have n9:=F9.next
  have nd:=pd.next
  have F9d:Fr h2 hd:=⟨by omega,λ q hq=>by rw [pd.old q (by omega) (λ id off n' c e e2=>by have:=(ow.in _ _ _ _ e).2.1;omega),fa.get q (by omega)];exact F9.get q hq⟩
  refine ⟨c-(t+1),by omega,t+1,_,aA rfl,by omega,?_,F9d,rfl⟩
  rw [iV 0 (by omega),hx,List.map_append,List.map_cons,hv,List.map_nil]
  exact pd.own (by rw [nO,List.length_take];omega) rfl (by omega)
 rintro vars h9 ⟨v7,⟨g,rfl⟩,sv,F9⟩
 simp (disch:=omega) only [go_sem]
 exact ⟨K,ik,F2.trans F9,.inr ⟨k,v7,rfl,hk',rfl,by rw [hr];exact sv⟩⟩
theorem GQ {n:Nat} {a:List Nat} (A:bI n a) (hn:n<=7):mY a n∣420:=by
 unfold mY
 rw [Dj]
 intro c hc
 obtain ⟨l,hl,rfl⟩:=List.mem_map.1 hc
 obtain ⟨i,hi,rfl⟩:=List.mem_map.1 hl
 have hin:i<n:=by unfold Xz at hi;exact List.mem_range.1 (List.mem_filter.1 hi).1
 rw [Gc]
 have h1:=(rK A hin).1
 have h2:=MH A hin
 have: ∀ k,k<8->0<k->k∣420:=by decide
 exact this _ (by omega) h1
noncomputable def adR (n:Nat) (L:LN) (K:List Nat):Nat:=uQ (K.map λ r=>mY (L.getD r []) n)
theorem NU {W0:Nat->Prop} (vc:V) (n:Nat) (O:LN) (R:qF) (G:List Nat->Prop) (h:H) (gc:GC W0 h vc n O R G) (L:LN) (hL:dG O R n 0 (bZ n)=L):
  Ev T Jd [vc] h (λ v h'=> ∃ K,Qe n G L K/\v= .tup [aB (adR n L K:Nat),aB 0]/\Fr h h'):=by
 obtain ⟨vO,vR,e,sO,sR⟩:=gc.ch
 subst e
 refine aZ Jj rfl ?_
 have oneO:vO.one=true:=by obtain ⟨_,t,_⟩:=sO;exact t.bP.2.1
 have oneR:vR.one=true:=by obtain ⟨_,t,_⟩:=sR;exact t.bP.2.1
 obtain ⟨A,hA⟩: ∃ A,h.next=A:=⟨_,rfl⟩
 obtain ⟨h1,e1,n1,g1,o1,f1⟩:=iK hA [aB n,vO,vR]
 have bx:=dM h (v:= aB n) (u:=vO) (w:=vR) rfl oneO oneR
 have rB:=aX g1
 simp (disch:=omega) only [go_sem,lV,aF,bx,hA,e1,rB]
 refine (Ox _ n O R G h1 (gc.mono f1)).mono ?_
 rw [hL]
 rintro _ h2 ⟨p,K,rfl,go,ik,f2⟩
 obtain ⟨B,M,N,S,cp,vL,ks,rfl,hB,hM,hN,hS,gB,gM,gN,gS,aK,sp⟩:=go.ex
 have c2:h2.cell B 2=some (.sl S 0 K.length cp):=by rw [H.aG gB];rfl
 have hlk:=bJ.length aK
 have E:=(fC gc.jY gc.isc).1
 have h4l:=(fC gc.jY gc.isc).2
 have h5l:=qN gc
 rw [hL] at E h4l
 have hKle:K.length<=5040:=by
  have h1:=ik.perm.length_eq
  have h2:=qE (G:=G) (L:=L) L.length
  omega
 obtain ⟨W,hW⟩: ∃ W,(K.map λ r=>mY (L.getD r []) n)=W:=⟨_,rfl⟩
 have hWl:W.length=K.length:=by rw [←hW,nO]
 have hWd: ∀ c∈W,c∣420:=λ c hc=>by
  rw [←hW] at hc
  obtain ⟨r,hr,rfl⟩:=List.mem_map.1 hc
  exact GQ (gZ gc.jY E (iE.1 (ik.perm.mem_iff.1 hr)).1) gc.n7
 have hpre: ∀ k,uQ (W.take k)<=420/\0<uQ (W.take k):=λ k=>by
  have h1:uQ (W.take k)∣420:=(Dj _ _).2 λ c hc=>hWd c (List.mem_of_mem_take hc)
  exact ⟨Nat.le_of_dvd (by omega) h1,Nat.pos_of_dvd_of_pos h1 (by omega)⟩
 simp (disch:=omega) only [go_sem]
 refine aY (λ hc=>(hc rfl).elim) (λ _=>?_)
 simp (disch:=omega) only [go_sem,c2]
 refine bV (λ vs hh=>(∃ g:Nat->V,vs= [g 0,g 1,g 2,g 3,g 4,g 5,aB (uQ W:Nat),g 7,g 8,g 9,g 10,g 11,g 12,g 13,g 14,g 15])/\Fr h2 hh) ?_ ?_
 ·refine aJ (λ k' vs hh=> ∃ (k:Nat),(∃ g:Nat->V,vs= [g 0,g 1,g 2,g 3,g 4,g 5,aB (uQ (W.take k):Nat),g 7,g 8,g 9,g 10,.sl S 0 K.length cp,aB (K.length:Int),aB k,g 14,g 15])/\k<=K.length/\Fr h2 hh/\k'=K.length-k) K.length
   ⟨0,aA rfl,mJ _,Fr.refl _,rfl⟩ ?_
  rintro k' vars h9 ⟨k,⟨g,rfl⟩,hk,F9,rfl⟩
  by_cases hlt:(k:Int)<(K.length:Int)
  case neg=>
   have d4:=gJ hlt
   obtain rfl:k=K.length:=by omega
   simp (disch:=omega) only [go_sem,d4]
   rw [List.take_of_length_le (by omega)]
   exact ⟨aA rfl,F9⟩
  have d4:=mG hlt
  have hk':k<K.length:=by omega
  have hkl:k<ks.length:=by omega
  obtain ⟨a,ea⟩: ∃ a,ks[k]=a:=⟨_,rfl⟩
  have ka:=bJ.get aK k hkl hk'
  rw [ea] at ka
  have hao:a.ord=W.getD k 0:=by rw [ka.ord,←hW,mC _ (d:=0) hk',Pm.bW hk']
  have gS9:h9.get S=bQ (Cls.oM ks):=by rw [F9.get _ hS];exact gS
  have rw9:h9.row S (k*4) 4=some a.enc:=by
   have:=qB (pre:= []) (by simpa using gS9) hkl
   rw [ea] at this
   simpa using this
  obtain ⟨Y,hY⟩: ∃ Y,h9.next=Y:=⟨_,rfl⟩
  obtain ⟨ha,eha,na,ga,oa,fa⟩:=iK hY [.aC,aB 0,aB 0,.aC]
  obtain ⟨hb,ehb,nb,gb,ob⟩:=Ca ha Y a.enc
  have cb1:hb.cell Y 1=some (aB (a.ord:Int)):=by rw [H.aG gb];rfl
  have F9b:Fr h9 hb:=⟨by omega,λ q hq=>by rw [ob q (by omega),oa q (by omega)]⟩
  obtain ⟨m,hm⟩: ∃ m,uQ (W.take k)=m:=⟨_,rfl⟩
  obtain ⟨o,ho⟩: ∃ o,W.getD k 0=o:=⟨_,rfl⟩
  have hpk:=hpre k
  have hpk1:=hpre (k+1)
  have hs:=Ic W k (by omega)
  rw [hm] at hpk
  rw [hm,ho] at hs
  have ho420:o∣420:=by rw [←ho];exact hWd _ (bG (by omega))
  have ho1:o<=420:=Nat.le_of_dvd (by omega) ho420
  have ho0:0<o:=Nat.pos_of_dvd_of_pos ho420 (by omega)
  rw [hao,ho] at cb1
  rw [hm]
  simp (disch:=omega) only [go_sem,d4,rw9,hY,eha,Tg,ga,Vg,ehb,cb1]
  refine bV (λ vs hh=>(∃ g:Nat->V,vs= [g 0,g 1,g 2,g 3,g 4,g 5,aB m,.ptr Y 0,aB (Nat.gcd m o:Nat),g 9,g 10,.sl S 0 K.length cp,aB (K.length:Int),aB k,g 14,g 15])/\Fr hb hh) ?_ ?_
  ·refine aJ (λ k' vars hh=> ∃ (x y:Nat),(∃ g:Nat->V,vars= [g 0,g 1,g 2,g 3,g 4,g 5,aB m,.ptr Y 0,aB x,aB y,g 10,.sl S 0 K.length cp,aB (K.length:Int),aB k,g 14,g 15])/\x<1000000/\y<1000000/\Nat.gcd x y=Nat.gcd m o/\Fr hb hh/\k'=y) o
    ⟨m,o,aA rfl,by omega,by omega,rfl,(Fr.refl hb).bF (by omega),rfl⟩ ?_
   rintro k' vars hh ⟨x,y,⟨g2,rfl⟩,hx,hy,hg,F,hk⟩
   subst hk
   by_cases hlt:(0:Int)<(k':Int)
   ·have d1:=mG hlt
    have hz:(k':Int)≠0:=by omega
    have hmm:(x:Int).tmod (k':Int)=((x%k':Nat):Int):=HL x k'
    have hml:=Nat.mod_lt x (show k'>0 by omega)
    simp (disch:=omega) only [go_sem,d1,hz,hmm]
    exact ⟨x%k',hml,k',x%k',aA rfl,hy,by omega,by rw [Nat.gcd_comm,←Nat.gcd_rec,Nat.gcd_comm];exact hg,F.bF (by omega),rfl⟩
   ·have d1:=gJ hlt
    obtain rfl:k'=0:=by omega
    simp (disch:=omega) only [go_sem,d1]
    rw [←hg,Nat.gcd_zero_right]
    exact ⟨aA rfl,F⟩
  rintro vars hc' ⟨⟨g2,rfl⟩,Fc⟩
  obtain ⟨q,hq⟩: ∃ q,Nat.gcd m o=q:=⟨_,rfl⟩
  rw [hq]
  rw [hq] at hs
  have hq0:0<q:=by rw [←hq];exact Nat.gcd_pos_of_pos_right _ ho0
  have hqz:(q:Int)≠0:=by omega
  have hdv:(m:Int).tdiv (q:Int)=((m/q:Nat):Int):=by rw [Int.tdiv_eq_ediv_of_nonneg (by omega)];rfl
  have hdl:m/q<=m:=Nat.div_le_self _ _
  have hmu:((m/q:Nat):Int)*(o:Int)=((uQ (W.take (k+1)):Nat):Int):=by rw [hs,Int.natCast_mul]
  generalize m/q=d at hdv hdl hmu hs
  have cc1:hc'.cell Y 1=some (aB o):=by rw [Fc.cell (by omega)];exact cb1
  have hp2:=hpk1.1
  obtain ⟨m2,hm2⟩: ∃ m2,uQ (W.take (k+1))=m2:=⟨_,rfl⟩
  rw [hm2] at hmu hp2
  simp (disch:=omega) only [go_sem,hqz,hdv,hmu,cc1]
  rw [iJ k]
  exact ⟨K.length-(k+1),by omega,k+1,by rw [hm2];exact aA rfl,by omega,((F9.trans F9b).trans Fc).bF (by omega),rfl⟩
 rintro vars h9 ⟨⟨g,rfl⟩,F9⟩
 simp (disch:=omega) only [go_sem]
 exact ⟨K,ik,by unfold adR;rw [hW],(f1.trans f2).trans F9⟩
theorem FI {n:Nat} {G:List Nat->Prop} {L:LN} {K:List Nat} {h:H} {p:V} (go:aaU n G L K h p) (hG:yV n G) (E:iL G L) (n7:n<=7) (hLl:L.length<1000000) (vx:V) {i:Nat} (hi:i<L.length) (hx:SI h vx (zi (L.getD i []))):
  Ev T Eh [p,vx] h (λ v h'=>v= aB (yA G L K i:Nat)/\Fr h h'):=by
 obtain ⟨B,M,N,S,cp,vL,ks,rfl,hB,hM,hN,hS,gB,gM,gN,gS,aK,sp⟩:=go.ex
 refine aZ Du rfl ?_
 have Y:=gZ hG E hi
 have hy1:(L.getD i []).length<=1000:=by rw [Y.len];omega
 have hy2: ∀ z∈L.getD i [],z<256:=λ z hz=>by have:=Y.lt z hz;omega
 have hK:=Iu hy1 hy2
 have cB1:h.cell B 1=some (.mp M):=by rw [H.aG gB];rfl
 have cB3:h.cell B 3=some (.sl N 0 L.length (.kn L.length)):=by rw [H.aG gB];rfl
 simp (disch:=omega) only [go_sem,jV,aF,cB1,cB3]
 refine (Qs vx _ _ hy1 hy2 (hx.mono ((Fr.refl h).bF (by omega)))).mono ?_
 rintro _ h4 ⟨rfl,f4'⟩
 have f4:Fr h h4:=((Fr.refl h).bF (by omega)).trans f4'
 have cB41:h4.cell B 1=some (.mp M):=by rw [f4.cell (by omega)];exact cB1
 have cB43:h4.cell B 3=some (.sl N 0 L.length (.kn L.length)):=by rw [f4.cell (by omega)];exact cB3
 have gM4:h4.get M=some (.wmap .str (Xq L L.length)):=by rw [f4.get _ hM];exact gM
 have lk:=λ z=>FN E.nodup hi hK z
 have cN:h4.cell N i=some (aB (yA G L K i:Nat)):=by rw [f4.cell hN];exact qT gN hi
 simp (disch:=omega) only [go_sem,cB41,cB43,gM4,lk,cN]
 exact ⟨by simp [eU],f4⟩
theorem aaM {n:Nat} {G:List Nat->Prop} {L:LN} {K:List Nat} (hG:yV n G) (E:iL G L) (pK:K.Perm (jS G L L.length)) {k:Nat} (hk:k<K.length) {j:Nat} (hj:j<L.length):yA G L K j=k↔cR G L (K.getD k 0) j:=by
 constructor
 ·intro h
  obtain ⟨k2,h1,h2⟩:=My hG E pK hj
  have h3:=Qr hG E pK h1 h2
  obtain rfl:k2=k:=by omega
  exact (fD.1 h2).2
 ·intro h
  exact Qr hG E pK hk (fD.2 ⟨hj,h⟩)
open Classical in
noncomputable def zD (G:List Nat->Prop) (L:LN) (r:Nat):Bool:=decide (cj G (L.getD r []) (eA (L.getD r [])))
theorem EV {W0:Nat->Prop} (vc:V) (n:Nat) (O:LN) (R:qF) (G:List Nat->Prop) (h:H) (gc:GC W0 h vc n O R G) (L:LN) (hL:dG O R n 0 (bZ n)=L):
  Ev T Vd [vc] h (λ v h'=> ∃ K vl,Qe n G L K/\v= .tup [vl,aB 0]/\SV h' vl 1 (rc K.length λ k=> .bool (zD G L (K.getD k 0)))/\Fr h h'):=by
 obtain ⟨vO,vR,e,sO,sR⟩:=gc.ch
 subst e
 refine aZ Vi rfl ?_
 have oneO:vO.one=true:=by obtain ⟨_,t,_⟩:=sO;exact t.bP.2.1
 have oneR:vR.one=true:=by obtain ⟨_,t,_⟩:=sR;exact t.bP.2.1
 obtain ⟨A,hA⟩: ∃ A,h.next=A:=⟨_,rfl⟩
 obtain ⟨h1,e1,n1,g1,o1,f1⟩:=iK hA [aB n,vO,vR]
 have bx:=dM h (v:= aB n) (u:=vO) (w:=vR) rfl oneO oneR
 have rB:=aX g1
 simp (disch:=omega) only [go_sem,rM,aF,bx,hA,e1,rB]
 refine (Ox _ n O R G h1 (gc.mono f1)).mono ?_
 rw [hL]
 rintro _ h2 ⟨p,K,rfl,go,ik,f2⟩
 obtain ⟨B,M,N,S,cp,vL,ks,rfl,hB,hM,hN,hS,gB,gM,gN,gS,aK,sp⟩:=go.ex
 have c2:h2.cell B 2=some (.sl S 0 K.length cp):=by rw [H.aG gB];rfl
 have hlk:=bJ.length aK
 have E:=(fC gc.jY gc.isc).1
 have h4l:=(fC gc.jY gc.isc).2
 have h5l:=qN gc
 rw [hL] at E h4l
 have hG:=gc.jY
 have n7:=gc.n7
 have hKle:K.length<=5040:=by
  have h1:=ik.perm.length_eq
  have h2:=qE (G:=G) (L:=L) L.length
  omega
 obtain ⟨D,hD⟩: ∃ D,h2.next=D:=⟨_,rfl⟩
 obtain ⟨h3,e3,n3,g3,o3,f3⟩:=iK hD (rc K.length λ _=>V.bool false)
 have cB3:h3.cell B 2=some (.sl S 0 K.length cp):=by rw [f3.cell hB];exact c2
 simp (disch:=omega) only [go_sem]
 refine aY (λ hc=>(hc rfl).elim) (λ _=>?_)
 simp (disch:=omega) only [go_sem,c2,Nf,hD,e3,cB3]
 refine bV (λ vs hh=>(∃ g:Nat->V,vs= [g 0,g 1,g 2,g 3,g 4,g 5,.sl D 0 K.length (.kn K.length),g 7,g 8,g 9,g 10,g 11,g 12,g 13])/\hh.get D=some (.cells false (rc K.length λ k=> .bool (zD G L (K.getD k 0))))/\D<hh.next/\Fr h2 hh) ?_ ?_
 ·refine aJ (λ k' vs hh=> ∃ (k:Nat),(∃ g:Nat->V,vs= [g 0,g 1,g 2,g 3,.ptr B 0,g 5,.sl D 0 K.length (.kn K.length),g 7,g 8,g 9,.sl S 0 K.length cp,aB (K.length:Int),aB k,g 13])/\k<=K.length/\hh.get D=some (.cells false (rc K.length λ j=> .bool (if j<k then zD G L (K.getD j 0) else false)))/\D<hh.next/\Fr h2 hh/\k'=K.length-k) K.length
   ⟨0,aA rfl,mJ _,by rw [g3];rfl,by omega,f3,rfl⟩ ?_
  rintro k' vars h9 ⟨k,⟨g,rfl⟩,hk,gD,nD,F9,rfl⟩
  by_cases hlt:(k:Int)<(K.length:Int)
  case neg=>
   have d4:=gJ hlt
   obtain rfl:k=K.length:=by omega
   simp (disch:=omega) only [go_sem,d4]
   refine ⟨aA rfl,?_,nD,F9⟩
   rw [gD,cJ λ j hj=>by rw [if_pos hj]]
  have d4:=mG hlt
  have hk':k<K.length:=by omega
  have hkl:k<ks.length:=by omega
  obtain ⟨a,ea⟩: ∃ a,ks[k]=a:=⟨_,rfl⟩
  have ka:=bJ.get aK k hkl hk'
  rw [ea,←Pm.bW hk'] at ka
  obtain ⟨r,hr⟩: ∃ r,K.getD k 0=r:=⟨_,rfl⟩
  rw [hr] at ka
  have hrK:r∈jS G L L.length:=by rw [←hr];exact ik.perm.mem_iff.1 (bG hk')
  have hrl:=(iE.1 hrK).1
  have gS9:h9.get S=some (.cells false (Cls.oM ks)):=by rw [F9.get _ hS];exact gS
  have rw9:h9.row S (k*4) 4=some a.enc:=by
   have:=qB (pre:= []) (by simpa using gS9) hkl
   rw [ea] at this
   simpa using this
  obtain ⟨Y,hY⟩: ∃ Y,h9.next=Y:=⟨_,rfl⟩
  obtain ⟨ha,eha,na,ga,oa,fa⟩:=iK hY [.aC,aB 0,aB 0,.aC]
  obtain ⟨hb,ehb,nb,gb,ob⟩:=Ca ha Y a.enc
  have cb0:hb.cell Y 0=some a.rep:=by rw [H.aG gb];rfl
  have F9b:Fr h9 hb:=⟨by omega,λ q hq=>by rw [ob q (by omega),oa q (by omega)]⟩
  have Fb:=F9.trans F9b
  have R1:=gZ hG E hrl
  simp (disch:=omega) only [go_sem,d4,rw9,hY,eha,Tg,ga,Vg,ehb,cb0]
  refine (Qv oN a.rep n (L.getD r []) hb (by omega) R1 (ka.rep.mono Fb)).mono ?_
  rintro v1 hc' np1
  have Fc:=Fb.trans np1.fr
  obtain ⟨j,hj,ej⟩: ∃ j,j<L.length/\L.getD j []=eA (L.getD r []):=by
   have hm2:eA (L.getD r [])∈L:=(E.mem _).2 (hG.inv (rQ E hrl))
   obtain ⟨j,hj,ej⟩:=List.mem_iff_getElem.1 hm2
   exact ⟨j,hj,by rw [List.getD,iH hj,←ej];rfl⟩
  have s1:=(np1.pv (W:=λ _=>False) id).si
  rw [←ej] at s1
  simp (disch:=omega) only [go_sem]
  refine (FI (go.mono Fc) hG E n7 (by omega) v1 hj s1).mono ?_
  rintro _ hd ⟨rfl,fd⟩
  have Fd:=Fc.trans fd
  have F9d:=(F9b.trans np1.fr).trans fd
  have gDd:hd.get D=some (.cells false (rc K.length λ j=> .bool (if j<k then zD G L (K.getD j 0) else false))):=by rw [F9d.get D nD];exact gD
  have er:decide (((yA G L K j:Nat):Int)=(k:Int))=zD G L r:=by
   unfold zD
   rw [←ej]
   have h1:=aaM hG E ik.perm hk' hj
   rw [hr] at h1
   classical
   rw [decide_eq_decide]
   constructor
   ·intro h2;exact h1.1 (by omega)
   ·intro h2;have:=h1.2 h2;omega
  have pt:=bT (vs:=rc K.length λ j=> .bool (if j<k then zD G L (K.getD j 0) else false)) (off:=k) (by rw [gT];exact hk')
  simp (disch:=omega) only [go_sem,er,gDd,pt]
  rw [iJ k]
  have n9d:=F9d.next
  refine ⟨K.length-(k+1),by omega,k+1,aA rfl,by omega,?_,by show D<hd.next;omega,Fd.set (by omega) _,rfl⟩
  rw [lQ,cJ λ x hx=>?_]
  by_cases ex:x=k
  ·rw [if_pos ex,if_pos (by omega),ex,hr]
  ·rw [if_neg ex]
   by_cases e2:x<k
   ·rw [if_pos e2,if_pos (by omega)]
   ·rw [if_neg e2,if_neg (by omega)]
 rintro vars h9 ⟨⟨g,rfl⟩,gD,nD,F9⟩
 simp (disch:=omega) only [go_sem]
 exact ⟨K,_,ik,rfl,SV.all (by rw [gT,Nat.mul_one]) nD gD _,(f1.trans f2).trans F9⟩
theorem PF (e:Nat) (he:e<9223372036854775808):arith .and .i64 (e:Int) 1=some (aB (e%2:Nat)):=by
 rw [Yh]
 congr 2
 show IntKind.i64.wrap (((BitVec.ofInt 64 (e:Int)&&&BitVec.ofInt 64 (1:Int)).toNat:Nat):Int)=_
 have h1:(BitVec.ofInt 64 (e:Int)).toNat=e:=by simp [BitVec.toNat_ofInt];omega
 have h2:(BitVec.ofInt 64 (1:Int)).toNat=1:=rfl
 rw [BitVec.toNat_and,h1,h2,Nat.and_one_is_mod]
 exact OX (by omega) (by omega)
theorem OD (e:Nat):Ej .shr .i64 (e:Int) 1=some (aB (e/2:Nat)):=by
 unfold Ej
 rw [if_neg (by omega)]
 simp only
 congr 2
 show Int.fdiv (e:Int) 2=_
 rw [Int.fdiv_eq_ediv_of_nonneg _ (by omega)];rfl
theorem ahF {n:Nat} {a:List Nat} (A:bI n a): ∀ k,pw n (bE a a) k=pw n a (2*k)
 |0=>rfl
 |k+1=>by
  show bE (pw n (bE a a) k) (bE a a)=pw n a (2*k+2)
  rw [ahF A k,←aV (mO A _) A A];rfl
theorem afJ {n:Nat} {a:List Nat} (A:bI n a):pw n a 1=a:=eH A
theorem XG (u w:V) (n e:Nat) (a:List Nat) (h:H) (hn:n<=1000) (he:e<1000000) (A:bI n a) (hu:SI h u (zi a)) (hw:SI h w (zi (bZ n))):
  Ev T sC [u,w,aB e] h (λ v h'=>SI h' v (zi (pw n a e))/\Fr h h'):=by
 refine aZ rX rfl ?_
 simp (disch:=omega) only [go_sem,eG,aF]
 refine aJ (λ k' vs hh=> ∃ (e':Nat) (vx va:V) (x b:List Nat),(∃ g:Nat->V,vs= [vx,va,aB (e':Int),g 3,g 4,g 5])/\e'<1000000/\bI n x/\bI n b/\SI hh vx (zi x)/\SI hh va (zi b)/\bE b (pw n x e')=pw n a e/\Fr h hh/\k'=e') e
  ⟨e,u,w,a,bZ n,aA rfl,he,A,bI.one n,hu,hw,eH (mO A e),Fr.refl h,rfl⟩ ?_
 rintro k' vars h1 ⟨e',vx,va,x,b,⟨g,rfl⟩,hl,X,B,sx,sb,heq,F,hk⟩
 subst hk
 by_cases hlt:(0:Int)<(k':Int)
 case neg=>
  have d1:=gJ hlt
  obtain rfl:k'=0:=by omega
  simp (disch:=omega) only [go_sem,d1]
  have h2:bE b (bZ n)=pw n a e:=heq
  rw [cE B] at h2
  rw [←h2]
  exact ⟨sb,F⟩
 have d1:=mG hlt
 have hpx: ∀ k,bE x (pw n x k)=pw n x (k+1):=λ k=>by
  have h2:=KL X 1 k
  rw [afJ X] at h2
  rw [←h2,Nat.add_comm]
 have sq:=ahF X (k'/2)
 rcases Nat.mod_two_eq_zero_or_one k' with hm|hm
 ·have d2:decide (((0:Nat):Int)=1)=false:=rfl
  have an:=PF k' (by omega)
  rw [hm] at an
  simp (disch:=omega) only [go_sem,d1,an,d2]
  refine (xW vx vx x x h1 (by rw [X.len];omega) sx sx (λ j hj=>by rw [X.len];exact X.eS (by rw [←X.len];exact hj))).mono ?_
  rintro v1 h2 np
  simp (disch:=omega) only [go_sem,Fj,zN,OD]
  refine ⟨k'/2,by omega,k'/2,v1,va,bE x x,b,aA rfl,by omega,X.mul X,B,(np.pv (W:=λ _=>False) id).si,sb.mono np.fr,?_,F.trans np.fr,rfl⟩
  rw [sq,show 2*(k'/2)=k' by omega];exact heq
 ·have d2:decide (((1:Nat):Int)=1)=true:=rfl
  have an:=PF k' (by omega)
  rw [hm] at an
  simp (disch:=omega) only [go_sem,d1,an,d2]
  refine (xW va vx b x h1 (by rw [B.len];omega) sb sx (λ j hj=>by rw [X.len];exact B.eS (by rw [←B.len];exact hj))).mono ?_
  rintro v0 h2 np0
  simp (disch:=omega) only [go_sem]
  refine (xW vx vx x x h2 (by rw [X.len];omega) (sx.mono np0.fr) (sx.mono np0.fr) (λ j hj=>by rw [X.len];exact X.eS (by rw [←X.len];exact hj))).mono ?_
  rintro v1 h3 np
  simp (disch:=omega) only [go_sem,Fj,zN,OD]
  refine ⟨k'/2,by omega,k'/2,v1,v0,bE x x,bE b x,aA rfl,by omega,X.mul X,B.mul X,(np.pv (W:=λ _=>False) id).si,((np0.pv (W:=λ _=>False) id).si).mono np.fr,?_,(F.trans np0.fr).trans np.fr,rfl⟩
  rw [sq,aV B X (mO X _),hpx,show 2*(k'/2)+1=k' by omega];exact heq
theorem YC {n:Nat} {G:List Nat->Prop} {L:LN} (hG:yV n G) (E:iL G L):0<L.length/\L.getD 0 []=bZ n:=by
 have hm:=(E.mem _).2 hG.one
 have h0:=List.length_pos_of_mem hm
 refine ⟨h0,?_⟩
 obtain ⟨i,hi,ei⟩:=List.mem_iff_getElem.1 hm
 have e0:L.getD 0 []=L[0]:=by rw [List.getD,iH h0];rfl
 by_cases h:i=0
 ·subst h;rw [e0,ei]
 ·have h1:=List.pairwise_iff_getElem.1 E.asc 0 i h0 hi (by omega)
  rw [ei] at h1
  have X:=gZ hG E h0
  rw [e0] at X
  rcases one_le X with h2|h2
  ·rw [e0,←h2]
  ·exact (h1.asymm h2).elim
noncomputable def Wr (n:Nat) (G:List Nat->Prop) (L:LN) (K:List Nat) (z:Int) (r:Nat):Nat:=yA G L K (L.idxOf (pw n (L.getD r []) (z%(mY (L.getD r []) n:Nat)).toNat))
theorem SD (z:Int) (o:Nat) (ho:0<o):(z.tmod (o:Int)+(o:Int)).tmod (o:Int)=(((z%(o:Int)).toNat:Nat):Int):=by
 have h1:=Int.tmod_lt_of_pos z (show (0:Int)<o by omega)
 have h2:=Int.lt_tmod_of_pos z (show (0:Int)<o by omega)
 rw [Int.tmod_eq_emod_of_nonneg (by omega),Int.toNat_of_nonneg (Int.emod_nonneg _ (by omega)),Int.add_emod_right]
 conv=>rhs;rw [←Int.mul_tdiv_add_tmod z o,Int.add_comm,Int.add_mul_emod_self_left]
theorem AQ {W0:Nat->Prop} (vc:V) (z:Int) (n:Nat) (O:LN) (R:qF) (G:List Nat->Prop) (h:H) (gc:GC W0 h vc n O R G) (L:LN) (hz: -9223372036854775808<=z/\z<9223372036854775808) (hL:dG O R n 0 (bZ n)=L):
  Ev T Mn [vc,aB z] h (λ v h'=> ∃ K vl,Qe n G L K/\v= .tup [vl,aB 0]/\SV h' vl 1 (rc K.length λ k=> aB (Wr n G L K z (K.getD k 0):Nat))/\Fr h h'):=by
 obtain ⟨vO,vR,e,sO,sR⟩:=gc.ch
 subst e
 refine aZ Ol rfl ?_
 have oneO:vO.one=true:=by obtain ⟨_,t,_⟩:=sO;exact t.bP.2.1
 have oneR:vR.one=true:=by obtain ⟨_,t,_⟩:=sR;exact t.bP.2.1
 obtain ⟨A,hA⟩: ∃ A,h.next=A:=⟨_,rfl⟩
 obtain ⟨h1,e1,n1,g1,o1,f1⟩:=iK hA [aB n,vO,vR]
 have bx:=dM h (v:= aB n) (u:=vO) (w:=vR) rfl oneO oneR
 have rB:=aX g1
 simp (disch:=omega) only [go_sem,oG,aF,bx,hA,e1,rB]
 refine (Ox _ n O R G h1 (gc.mono f1)).mono ?_
 rw [hL]
 rintro _ h2 ⟨p,K,rfl,go,ik,f2⟩
 obtain ⟨B,M,N,S,cp,vL,ks,rfl,hB,hM,hN,hS,gB,gM,gN,gS,aK,sp⟩:=go.ex
 have c2:h2.cell B 2=some (.sl S 0 K.length cp):=by rw [H.aG gB];rfl
 have hlk:=bJ.length aK
 have E:=(fC gc.jY gc.isc).1
 have h4l:=(fC gc.jY gc.isc).2
 have h5l:=qN gc
 rw [hL] at E h4l
 have hG:=gc.jY
 have n7:=gc.n7
 have hKle:K.length<=5040:=by
  have h1:=ik.perm.length_eq
  have h2:=qE (G:=G) (L:=L) L.length
  omega
 obtain ⟨D,hD⟩: ∃ D,h2.next=D:=⟨_,rfl⟩
 obtain ⟨h3,e3,n3,g3,o3,f3⟩:=iK hD (rc K.length λ _=>aB 0)
 have cB3:h3.cell B 2=some (.sl S 0 K.length cp):=by rw [f3.cell hB];exact c2
 simp (disch:=omega) only [go_sem]
 refine aY (λ hc=>(hc rfl).elim) (λ _=>?_)
 simp (disch:=omega) only [go_sem,c2,sM _ K.length (by omega),hD,e3,cB3]
 refine bV (λ vs hh=>(∃ g:Nat->V,vs= [g 0,g 1,g 2,g 3,g 4,g 5,g 6,.sl D 0 K.length (.kn K.length),g 8,g 9,g 10,g 11,g 12,g 13,g 14,g 15])/\hh.get D=some (.cells false (rc K.length λ k=> aB (Wr n G L K z (K.getD k 0):Nat)))/\D<hh.next/\Fr h2 hh) ?_ ?_
 ·refine aJ (λ k' vs hh=> ∃ (k:Nat),(∃ g:Nat->V,vs= [g 0,aB z,g 2,g 3,g 4,.ptr B 0,g 6,.sl D 0 K.length (.kn K.length),g 8,g 9,g 10,g 11,.sl S 0 K.length cp,aB (K.length:Int),aB k,g 15])/\k<=K.length/\hh.get D=some (.cells false (rc K.length λ j=> aB (if j<k then ((Wr n G L K z (K.getD j 0):Nat):Int) else 0)))/\D<hh.next/\Fr h2 hh/\k'=K.length-k) K.length
   ⟨0,aA rfl,mJ _,by rw [g3];rfl,by omega,f3,rfl⟩ ?_
  rintro k' vars h9 ⟨k,⟨g,rfl⟩,hk,gD,nD,F9,rfl⟩
  by_cases hlt:(k:Int)<(K.length:Int)
  case neg=>
   have d4:=gJ hlt
   obtain rfl:k=K.length:=by omega
   simp (disch:=omega) only [go_sem,d4]
   refine ⟨aA rfl,?_,nD,F9⟩
   rw [gD,cJ λ j hj=>by rw [if_pos hj]]
  have d4:=mG hlt
  have hk':k<K.length:=by omega
  have hkl:k<ks.length:=by omega
  obtain ⟨a,ea⟩: ∃ a,ks[k]=a:=⟨_,rfl⟩
  have ka:=bJ.get aK k hkl hk'
  rw [ea,←Pm.bW hk'] at ka
  obtain ⟨r,hr⟩: ∃ r,K.getD k 0=r:=⟨_,rfl⟩
  rw [hr] at ka
  have hrK:r∈jS G L L.length:=by rw [←hr];exact ik.perm.mem_iff.1 (bG hk')
  have hrl:=(iE.1 hrK).1
  have gS9:h9.get S=some (.cells false (Cls.oM ks)):=by rw [F9.get _ hS];exact gS
  have rw9:h9.row S (k*4) 4=some a.enc:=by
   have:=qB (pre:= []) (by simpa using gS9) hkl
   rw [ea] at this
   simpa using this
  obtain ⟨Y,hY⟩: ∃ Y,h9.next=Y:=⟨_,rfl⟩
  obtain ⟨ha,eha,na,ga,oa,fa⟩:=iK hY [.aC,aB 0,aB 0,.aC]
  obtain ⟨hb,ehb,nb,gb,ob⟩:=Ca ha Y a.enc
  have cb0:hb.cell Y 0=some a.rep:=by rw [H.aG gb];rfl
  have F9b:Fr h9 hb:=⟨by omega,λ q hq=>by rw [ob q (by omega),oa q (by omega)]⟩
  have Fb:=F9.trans F9b
  have R1:=gZ hG E hrl
  have cb1:hb.cell Y 1=some (aB (a.ord:Int)):=by rw [H.aG gb];rfl
  obtain ⟨o,ho⟩: ∃ o,mY (L.getD r []) n=o:=⟨_,rfl⟩
  rw [ka.ord,ho] at cb1
  have o0:0<o:=by rw [←ho];exact Td R1
  have o1':o<=823543:=by rw [←ho];exact Nat.le_trans (AG R1) (Mx n7)
  have hoz:(o:Int)≠0:=by omega
  have t1:=Int.tmod_lt_of_pos z (show (0:Int)<o by omega)
  have t2:=Int.lt_tmod_of_pos z (show (0:Int)<o by omega)
  have t3:=SD z o o0
  obtain ⟨x,hx⟩: ∃ x,(z%(o:Int)).toNat=x:=⟨_,rfl⟩
  rw [hx] at t3
  have hxo:x<o:=by
   have:=Int.emod_lt_of_pos z (show (0:Int)<o by omega)
   have:=Int.emod_nonneg z hoz
   omega
  obtain ⟨l0,l1⟩:=YC hG E
  obtain ⟨wL,svL,aL⟩:=sp
  have hwL:=bJ.length aL
  rw [nO] at hwL
  obtain ⟨idL,offL,shL,hidL,hcL⟩:=SV.shape svL L.length (by omega) (by omega)
  have se:=Lj aL l0
  rw [l1] at se
  have cl: ∀ h',Fr h2 h'->h'.cell idL offL=some (wL.getD 0 .undef):=λ h' f=>by
   have:=hcL 0 (by omega)
   rw [Nat.add_zero] at this
   rw [f.cell (hidL (by omega)),this];simp [List.getD,show 0<wL.length by omega]
  generalize hv:wL.getD 0 .undef=ve at cl se
  have ix0:CW 1 vL (aB 0)=some (.ptr idL (offL+0)):=shL.ixa .i64 0 (by omega) (by omega)
  rw [Nat.add_zero] at ix0
  have cB0: ∀ h',Fr h2 h'->h'.cell B 0=some vL:=λ h' f=>by rw [f.cell hB,H.aG gB];rfl
  simp (disch:=omega) only [go_sem,d4,rw9,hY,eha,Tg,ga,Vg,ehb,cb0,cb1,hoz,t3,cB0 hb Fb,ix0,cl hb Fb]
  refine (XG a.rep ve n x (L.getD r []) _ (by omega) (by omega) R1 (ka.rep.mono (Fb.trans ((Fr.refl hb).bF (by omega)))) (se.mono (Fb.trans ((Fr.refl hb).bF (by omega))))).mono ?_
  rintro v1 hc' ⟨s1,fc'⟩
  have Fbc:Fr hb hc':=((Fr.refl hb).bF (by omega)).trans fc'
  have Fc:=Fb.trans Fbc
  have hP:G (pw n (L.getD r []) x):=by
   have: ∀ y,G (pw n (L.getD r []) y):=λ y=>by
    induction y with
    |zero=>exact hG.one
    |succ y ih=>exact hG.mul ih (rQ E hrl)
   exact this x
  have hjm:=(E.mem _).2 hP
  obtain ⟨j,hj⟩: ∃ j,L.idxOf (pw n (L.getD r []) x)=j:=⟨_,rfl⟩
  have hjl:j<L.length:=by rw [←hj];exact List.idxOf_lt_length_of_mem hjm
  have ej:L.getD j []=pw n (L.getD r []) x:=by
   rw [List.getD,iH hjl]
   subst hj
   exact List.getElem_idxOf hjl
  rw [←ej] at s1
  simp (disch:=omega) only [go_sem]
  refine (FI (go.mono Fc) hG E n7 (by omega) v1 hjl s1).mono ?_
  rintro _ hd ⟨rfl,fd⟩
  have Fd:=Fc.trans fd
  have Fbd:=Fbc.trans fd
  have F9d:=F9b.trans Fbd
  have gDd:hd.get D=some (.cells false (rc K.length λ j=> aB (if j<k then ((Wr n G L K z (K.getD j 0):Nat):Int) else 0))):=by rw [F9d.get D nD];exact gD
  have er:Wr n G L K z r=yA G L K j:=by unfold Wr;rw [ho,hx,hj]
  have cd0:hd.cell Y 0=some a.rep:=by rw [Fbd.cell (by omega)];exact cb0
  have eve:=se.eU
  have evr:=ka.rep.eU
  have evL:=svL.eU
  have pt:=bT (vs:=rc K.length λ j=> aB (if j<k then ((Wr n G L K z (K.getD j 0):Nat):Int) else 0)) (off:=k) (by rw [gT];exact hk')
  simp (disch:=omega) only [go_sem,cd0,cl hd Fd,cB0 hd Fd,eve,evr,evL,gDd,pt]
  rw [iJ k]
  have n9d:=F9d.next
  refine ⟨K.length-(k+1),by omega,k+1,aA rfl,by omega,?_,by show D<hd.next;omega,Fd.set (by omega) _,rfl⟩
  rw [lQ,cJ λ x hx=>?_]
  by_cases ex:x=k
  ·rw [if_pos ex,if_pos (by omega),ex,hr,er]
  ·rw [if_neg ex]
   by_cases e2:x<k
   ·rw [if_pos e2,if_pos (by omega)]
   ·rw [if_neg e2,if_neg (by omega)]
 rintro vars h9 ⟨⟨g,rfl⟩,gD,nD,F9⟩
 simp (disch:=omega) only [go_sem]
 exact ⟨K,_,ik,rfl,SV.all (by rw [gT,Nat.mul_one]) nD gD _,(f1.trans f2).trans F9⟩
theorem Ys {α:Type} (p:α->Bool): ∀ l:List α,l.length=(l.filter p).length+(l.filter λ g=>!p g).length
 | []=>rfl
 |a::l=>by
  have ih:=Ys p l
  cases h:p a
  ·rw [List.filter_cons_of_neg (by simp [h]),List.filter_cons_of_pos (by simp [h]),List.length_cons,List.length_cons];omega
  ·rw [List.filter_cons_of_pos (by simp [h]),List.filter_cons_of_neg (by simp [h]),List.length_cons,List.length_cons];omega
theorem Kw {α:Type} (f:α->Nat): ∀ (J:List Nat) (l:List α),J.Nodup->(∀ g∈l,f g∈J)->l.length=(J.map λ j=>(l.filter λ g=>decide (f g=j)).length).sum
 | [],l,_,h=>by
  cases l with
  |nil=>rfl
  |cons a r=>exact absurd (h a (by simp)) (by simp)
 |j::J,l,nd,h=>by
  rw [List.nodup_cons] at nd
  have ih:=Kw f J (l.filter λ g=>!decide (f g=j)) nd.2 λ g hg=>by
   rw [List.mem_filter] at hg
   have h2:=h g hg.1
   have h3:f g≠j:=by simpa using hg.2
   simpa [h3] using h2
  have e:(J.map λ j'=>((l.filter λ g=>!decide (f g=j)).filter λ g=>decide (f g=j')).length)=J.map λ j'=>(l.filter λ g=>decide (f g=j')).length:=by
   refine List.map_congr_left λ j' hj'=>?_
   rw [List.filter_filter]
   congr 1
   refine List.filter_congr λ g _=>?_
   by_cases h1:f g=j'
   ·have:j'≠j:=λ e=>nd.1 (e▸hj')
    simp [h1,this]
   ·simp [h1]
  rw [e] at ih
  rw [List.map_cons,List.sum_cons,←ih]
  exact Ys (λ g=>decide (f g=j)) l
theorem Yf (c:Nat): ∀ J:List Nat,(J.map λ _=>c).sum=J.length*c
 | []=>by simp
 |_::J=>by rw [List.map_cons,List.sum_cons,Yf c J,List.length_cons,Nat.succ_mul,Nat.add_comm]
section
variable {n:Nat} {G:List Nat->Prop} {L:LN} (hG:yV n G) (E:iL G L)
theorem Fy {n:Nat} {x c:List Nat} (X:bI n x) (C:bI n c):cV x c=x↔bE x c=bE c x:=by
 unfold cV
 constructor
 ·intro h
  have h2:bE c (bE (bE (eA c) x) c)=bE c x:=by rw [h]
  rwa [←aV C (C.inv.mul X) C,←aV C C.inv X,gU C,eH X] at h2
 ·intro h
  rw [aV C.inv X C,h,←aV C.inv C X,gG C,eH X]
def Jz (L:LN) (x:List Nat):LN:=L.filter λ g=>decide (bE x g=bE g x)
include hG E in
theorem IQ {r:Nat} (hr:r<L.length):L.length=(iG G L r).length*(Jz L (L.getD r [])).length:=by
 have X:=gZ hG E hr
 obtain ⟨x,hx⟩: ∃ x,L.getD r []=x:=⟨_,rfl⟩
 have hxG:G x:=by rw [←hx];exact rQ E hr
 rw [hx] at X ⊢
 have hcm: ∀ g∈L,cV x g∈L:=λ g hg=>(E.mem _).2 (ajG hG hxG ⟨g,(E.mem _).1 hg,rfl⟩)
 have hidx: ∀ y,y∈L->L.idxOf y<L.length/\L.getD (L.idxOf y) []=y:=λ y hy=>by
  have h1:=List.idxOf_lt_length_of_mem hy
  exact ⟨h1,by rw [List.getD,iH h1];exact List.getElem_idxOf h1⟩
 rw [Kw (λ g=>L.idxOf (cV x g)) (iG G L r) L (sV r) λ g hg=>by
  obtain ⟨h1,h2⟩:=hidx _ (hcm g hg)
  refine fD.2 ⟨h1,g,(E.mem _).1 hg,?_⟩
  rw [hx,h2],←Yf]
 congr 1
 refine List.map_congr_left λ j hj=>?_
 obtain ⟨hjl,g0,hg0,e0⟩:=fD.1 hj
 rw [hx] at e0
 have G0:=hG.dR hg0
 have perm:((Jz L x).map λ c=>bE c g0).Perm (L.filter λ g=>decide (L.idxOf (cV x g)=j)):=by
  refine (List.perm_ext_iff_of_nodup ?_ (List.Pairwise.filter _ E.nodup)).2 λ g=>?_
  ·unfold Jz
   refine List.pairwise_map.2 (List.Pairwise.imp_of_mem ?_ (List.Pairwise.filter _ E.nodup))
   intro a b ha hb hne e
   exact hne (Kk (hG.dR ((E.mem _).1 (List.mem_filter.1 ha).1)) (hG.dR ((E.mem _).1 (List.mem_filter.1 hb).1)) G0 e)
  ·rw [List.mem_filter,List.mem_map,decide_eq_true_eq]
   unfold Jz
   constructor
   ·rintro ⟨c,hc,rfl⟩
    rw [List.mem_filter,decide_eq_true_eq] at hc
    have hcG:=(E.mem _).1 hc.1
    have C:=hG.dR hcG
    refine ⟨(E.mem _).2 (hG.mul hcG hg0),?_⟩
    rw [sW X C G0,(Fy X C).2 hc.2,e0]
    have h1:=hidx (L.getD j []) (bG hjl)
    exact Jf E.nodup h1.1 hjl h1.2
   ·rintro ⟨hg,hi⟩
    have hgG:=(E.mem _).1 hg
    have Gp:=hG.dR hgG
    have h1:=hidx _ (hcm g hg)
    rw [hi] at h1
    have C:=Gp.mul G0.inv
    refine ⟨bE g (eA g0),?_,by rw [aV Gp G0.inv G0,gG G0,cE Gp]⟩
    rw [List.mem_filter,decide_eq_true_eq]
    refine ⟨(E.mem _).2 (hG.mul hgG (hG.inv hg0)),(Fy X C).1 ?_⟩
    rw [sW X Gp G0.inv,←h1.2,←e0,wG X G0]
 rw [←perm.length_eq,nO]
end
def Se (G:List Nat->Prop) (x g:List Nat):Prop:=G g/\bE x g=bE g x
theorem agV {n:Nat} {G:List Nat->Prop} (hG:yV n G) {x:List Nat} (X:bI n x):yV n (Se G x) where
 dR h:=hG.dR h.1
 one:=⟨hG.one,by rw [cE X,eH X]⟩
 mul {a b} ha hb:=by
  have A:=hG.dR ha.1
  have B:=hG.dR hb.1
  exact ⟨hG.mul ha.1 hb.1,by rw [←aV X A B,ha.2,aV A X B,hb.2,←aV A B X]⟩
 inv {a} ha:=by
  have A:=hG.dR ha.1
  refine ⟨hG.inv ha.1,?_⟩
  have h1:cV x a=x:=(Fy X A).2 ha.2
  have h2:=wG X A
  rw [h1] at h2
  exact (Fy X A.inv).1 h2
theorem Sg {G:List Nat->Prop} {L:LN} (E:iL G L) {x g:List Nat}:g∈Jz L x↔Se G x g:=by
 unfold Jz Se
 rw [List.mem_filter,decide_eq_true_eq,E.mem]
theorem YK {G H:List Nat->Prop} {L:LN} (E:iL G L) {x:List Nat} {M:LN} (EH:iL H M) (hle: ∀ g,H g->Se G x g) (hl:(Jz L x).length<=M.length) (g:List Nat):H g↔Se G x g:=by
 refine ⟨hle g,λ hg=>?_⟩
 have h1:M ⊆ Jz L x:=λ y hy=>(Sg E).2 (hle y ((EH.mem y).1 hy))
 have h2:g∈Jz L x:=(Sg E).2 hg
 refine DZ λ hn=>?_
 have hgM:g∉M:=λ h=>hn ((EH.mem g).1 h)
 have h3:(g::M).Nodup:=List.nodup_cons.2 ⟨hgM,EH.nodup⟩
 have h4:=List.Nodup.length_le_of_subset h3 (l₂:=Jz L x) λ y hy=>by
  rcases List.mem_cons.1 hy with rfl|h5
  ·exact h2
  ·exact h1 h5
 rw [List.length_cons] at h4
 omega
theorem afM {W0:Nat->Prop} (vc:V) (z:Int) (n:Nat) (O:LN) (R:qF) (G:List Nat->Prop) (h:H) (gc:GC W0 h vc n O R G) (L:LN) (hL:dG O R n 0 (bZ n)=L):
  Ev T Cy [vc,aB z] h (λ v h'=> ∃ K,Qe n G L K/\Fr h h'/\((z<0∨(K.length:Int)<=z)/\v= .tup [.agg [aB 0,.aC,.aC],aB 2]∨ ∃ (k:Nat) (vr:V) (O':LN) (R':qF),z=(k:Int)/\k<K.length/\v= .tup [vr,aB 0]/\GC (λ id=>id<h.next) h' vr n O' R' (Se G (L.getD (K.getD k 0) [])))):=by
 obtain ⟨vO,vR,e,sO,sR⟩:=gc.ch
 subst e
 refine aZ Cv rfl ?_
 have oneO:vO.one=true:=by obtain ⟨_,t,_⟩:=sO;exact t.bP.2.1
 have oneR:vR.one=true:=by obtain ⟨_,t,_⟩:=sR;exact t.bP.2.1
 obtain ⟨A,hA⟩: ∃ A,h.next=A:=⟨_,rfl⟩
 obtain ⟨h0,e0,n0',g0,o0,f0⟩:=iK hA [aB n,vO,vR]
 obtain ⟨h1,e1,n1,g1',o1,f1'⟩:=iK n0' [aB 0,.aC,.aC]
 have f1:=f0.trans f1'
 have g1:h1.get A=some (.cells false [aB n,vO,vR]):=by rw [o1 _ (by omega)];exact g0
 have bx:=dM h (v:= aB n) (u:=vO) (w:=vR) rfl oneO oneR
 have rB:=aX g1
 simp (disch:=omega) only [go_sem,jF,aF,bx,hA,e0,n0',e1,rB]
 refine (Ox _ n O R G h1 (gc.mono f1)).mono ?_
 rw [hL]
 rintro _ h2 ⟨p,K,rfl,go,ik,f2⟩
 obtain ⟨B,M,N,S,cp,vL,ks,rfl,hB,hM,hN,hS,gB,gM,gN,gS,aK,sp⟩:=go.ex
 have F2:=f1.trans f2
 have c2:h2.cell B 2=some (.sl S 0 K.length cp):=by rw [H.aG gB];rfl
 have gA2:h2.get A=some (.cells false [aB n,vO,vR]):=by rw [f2.get _ (by omega)];exact g1
 have gZ2:h2.get (A+1)=some (.cells false [aB 0,.aC,.aC]):=by rw [f2.get _ (by omega)];exact g1'
 have pz: ∀ (hh:H) (u v w x y z':V),fI (some (.cells false [x,y,z'])) hh (A+1) 0 [u,v,w]=some (hh.set (A+1) (some (.cells false [u,v,w]))):=λ hh u v w x y z'=>dX hh _
 have n2':=f2.next
 have st0: ∀ hh:H,DY hh 3 (.ptr (A+1) 0) (.agg [aB 0,.aC,.aC])=fI (hh.get (A+1)) hh (A+1) 0 [aB 0,.aC,.aC]:=λ hh=>dS hh _ _ rfl rfl rfl
 obtain ⟨hz3,ez3,nz3,gz3,oz3⟩:=Ca h2 (A+1) [aB 0,.aC,.aC]
 have fz:Fr h hz3:=⟨by have:=F2.next;omega,λ q hq=>by rw [oz3 q (by omega)];exact F2.get q hq⟩
 have c0: ∀ h',Fr h2 h'->h'.cell B 0=some vL:=λ h' f=>by rw [f.cell hB,H.aG gB];rfl
 simp (disch:=omega) only [go_sem]
 refine aY (λ hc=>(hc rfl).elim) (λ _=>?_)
 by_cases hz:z<0
 ·have d1:decide (z<0)=true:=decide_eq_true hz
  simp (disch:=omega) only [go_sem,d1,tX,Wg,st0,gZ2,pz,ez3,aX gz3]
  exact ⟨K,ik,fz,.inl ⟨.inl hz,trivial⟩⟩
 have d1:decide (z<0)=false:=decide_eq_false hz
 by_cases hk:(K.length:Int)<=z
 ·have d2:=mG hk
  simp (disch:=omega) only [go_sem,d1,d2,c2,Wg,st0,gZ2,pz,ez3,aX gz3]
  exact ⟨K,ik,fz,.inl ⟨.inr hk,trivial⟩⟩
 have d2:=gJ hk
 obtain ⟨k,rfl⟩: ∃ k:Nat,z=(k:Int):=⟨z.toNat,by omega⟩
 have hk':k<K.length:=by omega
 have hlk:=bJ.length aK
 have hkl:k<ks.length:=by omega
 obtain ⟨a,ea⟩: ∃ a,ks[k]=a:=⟨_,rfl⟩
 have ka:=bJ.get aK k hkl hk'
 rw [ea,←Pm.bW hk'] at ka
 obtain ⟨r,hr⟩: ∃ r,K.getD k 0=r:=⟨_,rfl⟩
 rw [hr] at ka
 have cSj: ∀ j,j<4->h2.cell S (k*4+j)=a.enc[j]? :=λ j hj=>by
  have h3:=qB (pre:= []) (by simpa using gS) hkl
  rw [ea] at h3
  simp only [List.length_nil,Nat.zero_add] at h3
  have h4:h2.cell S (k*4+j)=(Cls.oM ks)[k*4+j]? :=H.aG gS _
  unfold H.row at h3
  rw [gS] at h3
  simp only [sub] at h3
  split at h3
  ·rw [h4]
   have h5:=congrArg (λ o=>o.map λ l=>l[j]?) h3
   simpa [List.getElem?_take,List.getElem?_drop,hj] using h5
  ·cases h3
 have cS0:h2.cell S (k*4)=some a.rep:=cSj 0 (by omega)
 have cS2:h2.cell S (k*4+2)=some (aB (a.size:Int)):=cSj 2 (by omega)
 have E:=(fC gc.jY gc.isc).1
 have h4l:=(fC gc.jY gc.isc).2
 have h5l:=qN gc
 rw [hL] at E h4l
 have hG:=gc.jY
 have hrK:r∈jS G L L.length:=by rw [←hr];exact ik.perm.mem_iff.1 (bG hk')
 have hrl:=(iE.1 hrK).1
 have os:=IQ hG E hrl
 obtain ⟨c,hc⟩: ∃ c,(Jz L (L.getD r [])).length=c:=⟨_,rfl⟩
 obtain ⟨b,hb⟩: ∃ b,(iG G L r).length=b:=⟨_,rfl⟩
 have hb0:0<b:=by rw [←hb];exact (Nu hG E hrl (iE.1 hrK).2).1
 rw [hc,hb] at os
 rw [ka.size,hb] at cS2
 have hbz:(b:Int)≠0:=by omega
 have hdv:(L.length:Int).tdiv (b:Int)=(c:Int):=by
  rw [Int.tdiv_eq_ediv_of_nonneg (by omega),os]
  rw [Int.natCast_mul,Int.mul_ediv_cancel_left _ hbz]
 obtain ⟨wL,svL,aL⟩:=sp
 have hwL:=bJ.length aL
 rw [nO] at hwL
 have lvL:dW vL=some (aB (L.length:Int)):=by unfold dW;rw [SV.len svL (n:=L.length) (by omega) (by omega)];rfl
 obtain ⟨idL,offL,shL,hidL,hcL⟩:=SV.shape svL L.length (by omega) (by omega)
 have hel: ∀ x,x<L.length->SI h2 (wL.getD x .undef) (zi (L.getD x [])):=λ x hx=>Lj aL hx
 have cA0:h2.cell A 0=some (aB n):=by rw [H.aG gA2];rfl
 have hcb:c<=L.length:=by
  rw [os];exact Nat.le_mul_of_pos_left _ hb0
 simp (disch:=omega) only [go_sem,d1,d2,c2,cS0,cS2,c0 h2 (Fr.refl _),lvL,hbz,hdv,cA0]
 have n7:=gc.n7
 have n0:=gc.n0
 refine (NZ .aC n [] _ n0 n7 (by simp) ⟨[],SV.aC _ _,trivial⟩ (λ g hg=>by cases hg)).mono ?_
 rintro _ h3 ⟨vc,O1,R1,rfl,gc3,f3'⟩
 have f3:Fr h2 h3:=((Fr.refl h2).bF (by omega)).trans f3'
 have n3b:h2.next+16<=h3.next:=f3'.next
 obtain ⟨vO1,vR1,e,sO1,sR1⟩:=gc3.ch
 subst e
 have oneO1:vO1.one=true:=by obtain ⟨_,t,_⟩:=sO1;exact t.bP.2.1
 have oneR1:vR1.one=true:=by obtain ⟨_,t,_⟩:=sR1;exact t.bP.2.1
 obtain ⟨Y,hY⟩: ∃ Y,h3.next=Y:=⟨_,rfl⟩
 obtain ⟨h4,e4,n4,g4,o4,f4⟩:=iK hY [aB 0,.aC,.aC]
 obtain ⟨h5,e5,n5,g5,o5⟩:=Ca h4 Y [aB n,vO1,vR1]
 have st1: ∀ (hh:H) (u w:V),u.one=true->w.one=true->DY hh 3 (.ptr Y 0) (.agg [aB n,u,w])=fI (hh.get Y) hh Y 0 [aB n,u,w]:=λ hh u w h1 h2=>dS hh _ _ rfl h1 h2
 have py: ∀ (hh:H) (u v w x y z':V),fI (some (.cells false [x,y,z'])) hh Y 0 [u,v,w]=some (hh.set Y (some (.cells false [u,v,w]))):=λ hh u v w x y z'=>dX hh _
 have F25:Fr h2 h5:=⟨by have:=f3.next;omega,λ q hq=>by rw [o5 q (by omega),o4 q (by omega)];exact f3.get q hq⟩
 simp (disch:=omega) only [go_sem,hY,e4,st1 h4 _ _ oneO1 oneR1,g4,py,e5,c0 h5 F25,lvL]
 have X:=gZ hG E hrl
 obtain ⟨x,hx⟩: ∃ x,L.getD r []=x:=⟨_,rfl⟩
 rw [hx] at X hc
 have srep:=ka.rep
 rw [hx] at srep
 have CG:=agV hG X
 have g35:GC (λ id=>id<A+2∨id=Y) h5 (.agg [aB n,vO1,vR1]) n O1 R1 (fS n (· ∈([]:LN))):=
  gc3.go ⟨by omega,λ q h1 h2'=>by rw [o5 q (by omega),o4 q (by omega)]⟩ λ id h1 h2'=>by show id<h2.next+16;rcases h2' with h3|h3<;>omega
 refine bV (λ vs hh=> ∃ (vO' vR':V) (O':LN) (R':qF) (Hh:List Nat->Prop),(∃ g:Nat->V,vs= [g 0,g 1,g 2,.ptr (A+1) 0,g 4,g 5,g 6,g 7,g 8,.ptr Y 0,g 10,g 11,g 12,g 13,g 14,g 15,g 16,g 17,g 18,g 19,g 20,g 21,g 22])/\hh.get Y=some (.cells false [aB n,vO',vR'])/\GC (λ id=>id<A+2∨id=Y) hh (.agg [aB n,vO',vR']) n O' R' Hh/\(∀ g,Hh g↔Se G x g)/\Y<hh.next/\Fx (· =Y) h5 hh) ?_ ?_
 ·refine aJ (λ k' vs hh=> ∃ (t:Nat) (vO' vR':V) (O':LN) (R':qF) (Hh:List Nat->Prop),(∃ g:Nat->V,vs= [g 0,g 1,.ptr A 0,.ptr (A+1) 0,g 4,.ptr B 0,g 6,a.rep,aB c,.ptr Y 0,g 10,g 11,g 12,g 13,g 14,g 15,vL,aB (L.length:Int),aB t,g 19,g 20,g 21,g 22])/\t<=L.length/\hh.get Y=some (.cells false [aB n,vO',vR'])/\GC (λ id=>id<A+2∨id=Y) hh (.agg [aB n,vO',vR']) n O' R' Hh/\(∀ g,Hh g->Se G x g)/\(∀ s,s<t->Se G x (L.getD s [])->Hh (L.getD s []))/\Y<hh.next/\Fx (· =Y) h5 hh/\k'=L.length-t) L.length
   ⟨0,vO1,vR1,O1,R1,_,aA rfl,mJ _,g5,g35,λ g hg=>hg.le CG λ y hy=>(by cases hy),λ s hs=>by omega,by omega,Fx.refl _ _,rfl⟩ ?_
  clear g35 gc3 e5 g5 e4 g4 sO1 sR1
  rintro k' vars h6 ⟨t,vO',vR',O',R',Hh,⟨g,rfl⟩,ht,gY,gcH,hle,hall,nY,F6,rfl⟩
  by_cases hlt:(t:Int)<(L.length:Int)
  case neg=>
   have d4:=gJ hlt
   obtain rfl:t=L.length:=by omega
   simp (disch:=omega) only [go_sem,d4]
   refine ⟨vO',vR',O',R',Hh,aA rfl,gY,gcH,λ g=>⟨hle g,λ hg=>?_⟩,nY,F6⟩
   obtain ⟨i,hi,ei⟩:=List.mem_iff_getElem.1 ((E.mem g).2 hg.1)
   have ei':L.getD i []=g:=by rw [List.getD,iH hi,←ei];rfl
   have:=hall i hi
   rw [ei'] at this
   exact this hg
  have d4:=mG hlt
  have ht':t<L.length:=by omega
  have n6:=F6.next
  have F26:Fr h2 h6:=⟨by have:=F25.next;omega,λ q hq=>by rw [F6.get q (by omega) (λ h1=>by have:q=Y:=h1;omega)];exact F25.get q hq⟩
  have cl: ∀ h',Fr h2 h'->h'.cell idL (offL+t)=some (wL.getD t .undef):=λ h' f=>by
   rw [f.cell (hidL (by omega)),hcL t (by omega)];simp [List.getD,show t<wL.length by omega]
  have se:=hel t ht'
  have sH:=gcH.ch
  generalize hv:wL.getD t .undef=ve at cl se
  obtain ⟨y,hy⟩: ∃ y,L.getD t []=y:=⟨_,rfl⟩
  have Yp:=gZ hG E ht'
  have yG:=rQ E ht'
  rw [hy] at se Yp yG
  have rY:=aX gY
  simp (disch:=omega) only [go_sem,d4,shL.ixa,cl h6 F26,rY]
  refine (afQ _ n O' R' Hh h6 gcH).mono ?_
  rintro _ h7 ⟨rfl,f7⟩
  have F27:=F26.trans f7
  have gY7:h7.get Y=some (.cells false [aB n,vO',vR']):=by rw [f7.get _ nY];exact gY
  have F67:Fx (· =Y) h5 h7:=⟨by have:=f7.next;omega,λ q h1 h2'=>by rw [f7.get q (by omega)];exact F6.get q h1 h2'⟩
  obtain ⟨EH,EHl⟩:=fC gcH.jY gcH.isc
  by_cases hsz:((Ud O' n 0:Nat):Int)=(c:Int)
  ·have d5:decide (((Ud O' n 0:Nat):Int)=(c:Int))=true:=decide_eq_true hsz
   simp (disch:=omega) only [go_sem,d5]
   exact ⟨vO',vR',O',R',Hh,aA rfl,gY7,gcH.mono f7,YK E EH hle (by rw [hc,EHl];omega),by have:=f7.next;omega,F67⟩
  have d5:decide (((Ud O' n 0:Nat):Int)=(c:Int))=false:=decide_eq_false hsz
  simp (disch:=omega) only [go_sem,d5]
  refine (xW a.rep ve x y h7 (by rw [X.len];omega) (srep.mono F27) (se.mono F27) (λ j hj=>by rw [Yp.len];exact X.eS (by rw [←X.len];exact hj))).mono ?_
  rintro v1 h8 np1
  simp (disch:=omega) only [go_sem]
  have F28:=F27.trans np1.fr
  refine (xW ve a.rep y x h8 (by rw [Yp.len];omega) (se.mono F28) (srep.mono F28) (λ j hj=>by rw [X.len];exact Yp.eS (by rw [←Yp.len];exact hj))).mono ?_
  rintro v2 h9 np2
  simp (disch:=omega) only [go_sem]
  have F29:=F28.trans np2.fr
  refine (Nb pV v1 v2 _ _ h9 (((np1.pv (W:=λ _=>False) id).si).mono np2.fr) (np2.pv (W:=λ _=>False) id).si (by rw [aT,eM,X.len];omega) (by rw [aT,eM,Yp.len];omega)).mono ?_
  rintro _ ha ⟨rfl,fa⟩
  have F7a:=(np1.fr.trans np2.fr).trans fa
  have F2a:=F27.trans F7a
  have F5a:Fx (· =Y) h5 ha:=⟨by have:=F7a.next;have:=F67.next;omega,λ q h1 h2'=>by rw [F7a.get q (by have:=F67.next;omega)];exact F67.get q h1 h2'⟩
  have nY7:Y<h7.next:=by have:=f7.next;omega
  have gYa:ha.get Y=some (.cells false [aB n,vO',vR']):=by rw [F7a.get _ nY7];exact gY7
  have gcA:=gcH.mono (f7.trans F7a)
  have nYa:Y<ha.next:=by have:=F7a.next;omega
  have hzi:(zi (bE x y)=zi (bE y x))↔bE x y=bE y x:=by
   constructor
   ·intro h1
    exact List.map_inj_right (λ u v h2=>by omega)|>.1 h1
   ·intro h1;rw [h1]
  by_cases hcm:bE x y=bE y x
  case neg=>
   have d6:decide (zi (bE x y)=zi (bE y x))=false:=decide_eq_false λ h1=>hcm (hzi.1 h1)
   simp (disch:=omega) only [go_sem,d6]
   rw [iJ t]
   refine ⟨L.length-(t+1),by omega,t+1,vO',vR',O',R',Hh,aA rfl,by omega,gYa,gcA,hle,λ s hs h1=>?_,nYa,F5a,rfl⟩
   by_cases es:s=t
   ·subst es
    rw [hy] at h1
    exact absurd h1.2 hcm
   ·exact hall s (by omega) h1
  have d6:decide (zi (bE x y)=zi (bE y x))=true:=decide_eq_true (hzi.2 hcm)
  simp (disch:=omega) only [go_sem,d6,aX gYa]
  refine (akQ _ ve n O' R' Hh y ha gcA (se.mono F2a) Yp).mono ?_
  rintro _ hb' ⟨bq,rfl,hbq,fb⟩
  have F2b:=F2a.trans fb
  have gYb:hb'.get Y=some (.cells false [aB n,vO',vR']):=by rw [fb.get _ nYa];exact gYa
  have gcB:=gcA.mono fb
  have nYb:Y<hb'.next:=by have:=fb.next;omega
  have F5b:Fx (· =Y) h5 hb':=⟨by have:=fb.next;have:=F5a.next;omega,λ q h1 h2'=>by rw [fb.get q (by have:=F5a.next;omega)];exact F5a.get q h1 h2'⟩
  cases bq with
  |true=>
   simp (disch:=omega) only [go_sem]
   rw [iJ t]
   refine ⟨L.length-(t+1),by omega,t+1,vO',vR',O',R',Hh,aA rfl,by omega,gYb,gcB,hle,λ s hs h1=>?_,nYb,F5b,rfl⟩
   by_cases es:s=t
   ·subst es;rw [hy];exact hbq.1 rfl
   ·exact hall s (by omega) h1
  |false=>
   simp (disch:=omega) only [go_sem,aX gYb]
   refine (Yb _ n O' R' Hh hb' gcB).mono ?_
   rintro _ hc' ⟨vS,rfl,nS⟩
   have fc:=nS.fr
   have F2c:=F2b.trans fc
   obtain ⟨wS,WS,owS,pvS,bkS,WS1⟩:=nS.ex
   obtain ⟨S',hS'⟩: ∃ S',gO R'=S':=⟨_,rfl⟩
   have spS:=nS.sp
   rw [hS'] at pvS spS
   have hwS:=bJ.length pvS
   have hsl7:S'.length<=49:=by
    have h1: ∀ j,j<R'.length->(R'.getD j []).length<=n:=λ j hj=>by
     have hj':j<n:=by rw [←gcB.isc.lr];exact hj
     rw [gcB.isc.rl j hj']
     have:=yQ (λ x hx=>gcB.jY.dR hx) hj' (gcB.isc.asc j hj') (gcB.isc.mem j hj')
     omega
    have h2:=By (n:=n) (R:=R') (jI _) h1
    rw [List.take_length,hS',gcB.isc.lr] at h2
    have:n*n<=7*7:=Nat.mul_le_mul n7 n7
    omega
   obtain ⟨Q,hQ⟩: ∃ Q,hc'.next=Q:=⟨_,rfl⟩
   have cAf: ∀ h',Fr h2 h'->h'.cell A 0=some (aB n):=λ h' f=>by rw [f.cell (by omega)];exact cA0
   simp (disch:=omega) only [go_sem,cAf hc' F2c,dN _ (z:= .aC) se.bP.1 se.bP.2.1,hQ]
   obtain ⟨hd,hde⟩: ∃ hd:H,hd=H.mk ((H.mk hc'.tr (Q+4)).new (Ob.cells false [ve])).tr (Q+11):=⟨_,rfl⟩
   rw [←hde]
   have gd:hd.get (Q+4)=some (.cells false [ve]):=by rw [hde];exact H.aQ (H.mk hc'.tr (Q+4)) _
   have nd':hd.next=Q+11:=by rw [hde]
   have od: ∀ q,q≠Q+4->hd.get q=hc'.get q:=λ q hq=>by rw [hde];exact H.bM (H.mk hc'.tr (Q+4)) (by simpa using hq) _
   have Fcd:Fr hc' hd:=⟨by omega,λ q hq=>od q (by omega)⟩
   obtain ⟨he,ae,pe'⟩:=(owS.fr Fcd).push (bytes:=24) (SV.one (v:=ve) (id:=Q+4) (by omega) gd (.kn 1)) (n:=S'.length) (m:=1) (by omega) rfl (by omega) (by omega) (by omega)
   have ne':=pe'.next
   have nb':=fc.next
   have apS: ∀ q,q<hb'.next->eC vS q:=λ q hq id off n' c e e2=>by have:=(owS.in _ _ _ _ e).2.1;omega
   have Fbe:Fr hb' he:=⟨by omega,λ q hq=>by rw [pe'.old q (by omega) (apS q hq),od q (by omega)];exact fc.get q hq⟩
   have F2e:=F2b.trans Fbe
   have gYe:he.get Y=some (.cells false [aB n,vO',vR']):=by rw [Fbe.get _ nYb];exact gYb
   have oe: ∀ q,q<hc'.next-> ¬WS q->he.get q=hc'.get q:=λ q h1 h2'=>by
    rw [pe'.old q (by omega) (λ id off n' c e e2=>h2' (e2▸bkS _ _ _ _ e)),od q (by omega)]
   have FxS:Fx WS hc' he:=⟨by omega,oe⟩
   have spE:SP he (.sl hd.next 0 (S'.length+1) (.un 1)) (S'++ [y]):=by
    refine ⟨wS++ [ve],SV.all (by rw [vA,hwS];simp) (by omega) pe'.get _,?_⟩
    rw [List.map_append]
    refine bJ.append (bJ.oT (by rw [nO];exact hwS) λ i h1 h2'=>?_) ⟨se.mono F2e,trivial⟩
    have h3:=(bJ.get pvS i h1 (by omega)).fx FxS
    rw [List.getElem_map]
    exact h3.si
   simp (disch:=omega) only [go_sem,ae,cAf he F2e]
   refine (NZ _ n (S'++ [y]) he n0 n7 (by rw [vA];simp;omega) spE (λ g hg=>by
    rcases List.mem_append.1 hg with h1|h1
    ·exact gcB.jY.dR (xP gcB.isc (by rw [hS'];exact h1))
    ·obtain rfl:g=y:=by simpa using h1
     exact Yp)).mono ?_
   rintro _ hf ⟨vc2,O2,R2,rfl,gc2,ff⟩
   obtain ⟨vO2,vR2,e2,sO2,sR2⟩:=gc2.ch
   subst e2
   have oneO2:vO2.one=true:=by obtain ⟨_,t,_⟩:=sO2;exact t.bP.2.1
   have oneR2:vR2.one=true:=by obtain ⟨_,t,_⟩:=sR2;exact t.bP.2.1
   have nf:=ff.next
   have F2f:=F2e.trans ff
   have gYf:hf.get Y=some (.cells false [aB n,vO',vR']):=by rw [ff.get _ (by omega)];exact gYe
   obtain ⟨hg,eg,ng,gg,og⟩:=Ca hf Y [aB n,vO2,vR2]
   have cAg:hg.cell A 0=some (aB n):=by
    have h1:=cAf hf F2f
    unfold H.cell at h1 ⊢
    rw [og A (by omega)];exact h1
   simp (disch:=omega) only [go_sem,st1 hf _ _ oneO2 oneR2,gYf,py,eg,cAf hf F2f,cAg]
   rw [iJ t]
   refine ⟨L.length-(t+1),by omega,t+1,vO2,vR2,O2,R2,fS n (· ∈S'++ [y]),aA rfl,by omega,gg,gc2.go ⟨by omega,λ q h1 h2'=>og q (λ e=>h2' (by show q<he.next;omega))⟩ (λ id h1 h2'=>by show id<he.next;rcases h2' with h3|h3<;>omega),λ g hg=>hg.le CG λ z hz=>?_,λ s hs h1=>?_,by omega,⟨by have:=F5b.next;omega,λ q h1 h2'=>?_⟩,rfl⟩
   ·rcases List.mem_append.1 hz with h1|h1
    ·exact hle _ (xP gcB.isc (by rw [hS'];exact h1))
    ·obtain rfl:z=y:=by simpa using h1
     exact ⟨yG,hcm⟩
   ·by_cases es:s=t
    ·subst es
     rw [hy]
     exact fS.of (λ g hg=>by
      rcases List.mem_append.1 hg with h1|h1
      ·exact gcB.jY.dR (xP gcB.isc (by rw [hS'];exact h1))
      ·obtain rfl:g=y:=by simpa using h1
       exact Yp) (by simp)
    ·refine fS.mono (λ g hg=>?_) (Uw gcB.jY gcB.isc (hall s (by omega) h1))
     rw [hS'] at hg
     exact List.mem_append.2 (.inl hg)
   ·rw [og q (λ e=>h2' e),ff.get q (by have:=F5b.next;have:=Fbe.next;omega),Fbe.get q (by have:=F5b.next;omega)]
    exact F5b.get q h1 h2'
 rintro vars h6 ⟨vO',vR',O',R',Hh,⟨g,rfl⟩,gY,gcH,hiff,nY,F6⟩
 obtain ⟨_,_,e2,sO2,sR2⟩:=gcH.ch
 have oneO2:vO'.one=true:=by
  cases e2
  obtain ⟨_,t,_⟩:=sO2;exact t.bP.2.1
 have oneR2:vR'.one=true:=by
  cases e2
  obtain ⟨_,t,_⟩:=sR2;exact t.bP.2.1
 have n6:=F6.next
 have n25:=F25.next
 have gZ6:h6.get (A+1)=some (.cells false [aB 0,.aC,.aC]):=by rw [F6.get _ (by omega) (λ h1=>by have:A+1=Y:=h1;omega),F25.get _ (by omega)];exact gZ2
 obtain ⟨h7,e7,n7',g7,o7⟩:=Ca h6 (A+1) [aB n,vO',vR']
 have stz:DY h6 3 (.ptr (A+1) 0) (.agg [aB n,vO',vR'])=fI (h6.get (A+1)) h6 (A+1) 0 [aB n,vO',vR']:=dS h6 _ _ rfl oneO2 oneR2
 simp (disch:=omega) only [go_sem,aX gY,stz,gZ6,pz,e7,aX g7]
 have F26:Fr h2 h6:=⟨by omega,λ q hq=>by rw [F6.get q (by omega) (λ h1=>by have:q=Y:=h1;omega)];exact F25.get q hq⟩
 have F7:Fr h h7:=⟨by have:=F2.next;omega,λ q hq=>by rw [o7 q (by omega)];exact (F2.trans F26).get q hq⟩
 refine ⟨K,ik,F7,.inr ⟨k,_,O',R',rfl,hk',rfl,?_⟩⟩
 rw [hr,hx]
 have g8:=gcH.go (W':=λ id=>id<h.next) (h':=h7) ⟨by omega,λ q h1 h2'=>o7 q (λ e=>h2' (.inl (by omega)))⟩ λ id h1 h2'=> .inl (by have:id<h.next:=h2';omega)
 rw [hA] at g8
 exact ⟨g8.cw,g8.isc.congr hiff,CG,n0,n7⟩
set_option maxRecDepth 100000
set_option maxRecDepth 100000
theorem Mb {g:Nat} (hgt:T g=some fR) (u w:V) (a b:List (List Int)) (h:H) (hu:SR h u a) (hw:SR h w b) (la:a.length<1000000) (lb:b.length<1000000) (ra: ∀ x∈a,x.length<1000000) (rb: ∀ x∈b,x.length<1000000):
  Ev T g [u,w] h (λ v h'=>v= .bool (decide (a=b))/\Fr h h'):=by
 refine aZ hgt rfl ?_
 have lu:=hu.lens
 have lw:=hw.lens
 obtain ⟨wa,sa,aa⟩:=hu
 obtain ⟨wb,sb,ab⟩:=hw
 have hwa:=bJ.length aa
 have hwb:=bJ.length ab
 obtain ⟨id,off,sh,hid,hc⟩:=SV.shape sa a.length (by omega) (by omega)
 obtain ⟨id2,off2,sh2,hid2,hc2⟩:=SV.shape sb b.length (by omega) (by omega)
 by_cases hl:(a.length:Int)=(b.length:Int)
 case neg=>
  have d1:decide ((a.length:Int)≠(b.length:Int))=true:=decide_eq_true hl
  simp (disch:=omega) only [go_sem,fR,aF,lu,lw,d1]
  exact ⟨by rw [decide_eq_false];intro e;exact hl (by rw [e]),Fr.refl h⟩
 have hl':a.length=b.length:=by omega
 have d1:decide ((a.length:Int)≠(b.length:Int))=false:=decide_eq_false (by simpa using hl)
 simp (disch:=omega) only [go_sem,fR,aF,lu,lw,d1]
 refine aJ (λ k' vars hh=> ∃ (i:Nat),(∃ g:Nat->V,vars= [u,w,g 2,aB i,g 4,g 5,g 6])/\i<=a.length/\(∀ j,j<i->a.getD j []=b.getD j [])/\Fr h hh/\k'=a.length-i) a.length
  ⟨0,aA rfl,mJ _,λ j hj=>by omega,Fr.refl h,rfl⟩ ?_
 rintro k' vars hh ⟨i,⟨g,rfl⟩,hi,hs,F,rfl⟩
 by_cases hlt:(i:Int)<(a.length:Int)
 case neg=>
  have e1:=gJ hlt
  obtain rfl:i=a.length:=by omega
  simp (disch:=omega) only [go_sem,lu,e1]
  have:a=b:=by
   refine List.ext_getElem hl' λ j h1 h2=>?_
   have:=hs j h1
   rwa [List.getD,iH h1,List.getD,iH h2] at this
  exact ⟨by rw [decide_eq_true this],F⟩
 have e1:=mG hlt
 have c1:hh.cell id (off+i)=some (wa.getD i .undef):=by
  rw [F.cell (hid (by omega)),hc i (by omega)];simp [List.getD,show i<wa.length by omega]
 have c2:hh.cell id2 (off2+i)=some (wb.getD i .undef):=by
  rw [F.cell (hid2 (by omega)),hc2 i (by omega)];simp [List.getD,show i<wb.length by omega]
 have s1:=LS aa (i:=i) (by omega)
 have s2:=LS ab (i:=i) (by omega)
 generalize wa.getD i .undef=va at c1 s1
 generalize wb.getD i .undef=vb at c2 s2
 have ev1:=s1.eU
 have ev2:=s2.eU
 simp (disch:=omega) only [go_sem,lu,e1,sh.ixa,c1,sh2.ixa,c2]
 refine (Au va vb _ _ _ (s1.mono (F.trans ((Fr.refl hh).bF (by omega)))) (s2.mono (F.trans ((Fr.refl hh).bF (by omega)))) (ra _ (bG (by omega))) (rb _ (bG (by omega)))).mono ?_
 rintro _ h3 ⟨rfl,f3⟩
 have F3:=F.trans (((Fr.refl hh).bF (by omega)).trans f3)
 have c1':h3.cell id (off+i)=some va:=by
  have h4:Fr hh h3:=((Fr.refl hh).bF (by omega)).trans f3
  rw [h4.cell (by have:=hid (by omega);have:=F.next;omega)];exact c1
 have c2':h3.cell id2 (off2+i)=some vb:=by
  have h4:Fr hh h3:=((Fr.refl hh).bF (by omega)).trans f3
  rw [h4.cell (by have:=hid2 (by omega);have:=F.next;omega)];exact c2
 by_cases he:a.getD i []=b.getD i []
 ·have d2:decide (a.getD i []=b.getD i [])=true:=decide_eq_true he
  simp (disch:=omega) only [go_sem,d2,c1',c2',ev1,ev2]
  rw [iJ i]
  refine ⟨a.length-(i+1),by omega,i+1,aA rfl,by omega,λ j hj=>?_,F3,rfl⟩
  by_cases e:j=i
  ·rw [e];exact he
  ·exact hs j (by omega)
 ·have d2:decide (a.getD i []=b.getD i [])=false:=decide_eq_false he
  simp (disch:=omega) only [go_sem,d2,c1',c2',ev1,ev2]
  exact ⟨by rw [decide_eq_false];intro e;exact he (by rw [e]),F3⟩
theorem AS (u w:V) (a b:List (List Int)) (h:H) (hu:SR h u a) (hw:SR h w b) (la:a.length<1000000) (lb:b.length<1000000) (ra: ∀ x∈a,x.length<1000000) (rb: ∀ x∈b,x.length<1000000):
  Ev T He [u,w] h (λ v h'=>v= .bool (decide (a=b))/\Fr h h'):=Mb Hm u w a b h hu hw la lb ra rb
theorem DF (u w:V) (a b:List (List Int)) (h:H) (hu:SR h u a) (hw:SR h w b) (la:a.length<1000000) (lb:b.length<1000000) (ra: ∀ x∈a,x.length<1000000) (rb: ∀ x∈b,x.length<1000000):
  Ev T Qg [u,w] h (λ v h'=>v= .bool (decide (a=b))/\Fr h h'):=Mb Px u w a b h hu hw la lb ra rb
set_option maxRecDepth 100000
set_option maxRecDepth 100000
set_option maxRecDepth 100000
set_option maxRecDepth 100000
structure YN (h:H) (a:Cls.KE) (t:List Int×Nat×Nat):Prop where
 rep:SI h a.rep t.1
 ord:a.ord=t.2.1
 size:a.size=t.2.2
theorem Mf {ks:List Cls.KE} {i:Nat} (hi:i<ks.length):(sF ks)[i*3]? =some ks[i].rep/\(sF ks)[i*3+1]? =some (aB (ks[i].ord:Int))/\(sF ks)[i*3+2]? =some (aB (ks[i].size:Int)):=by
 induction ks generalizing i with
 |nil=>simp at hi
 |cons a r ih=>
  have e:sF (a::r)= [a.rep,aB (a.ord:Int),aB (a.size:Int)]++sF r:=rfl
  cases i with
  |zero=>exact ⟨rfl,rfl,rfl⟩
  |succ i=>
   have h1:=ih (i:=i) (by simpa using hi)
   rw [e,show (i+1)*3=i*3+3 by omega]
   refine ⟨?_,?_,?_⟩
   ·rw [List.getElem?_append_right (by simp)];exact h1.1
   ·rw [List.getElem?_append_right (by simp)];exact h1.2.1
   ·rw [List.getElem?_append_right (by simp)];exact h1.2.2
theorem Ex (u w:V) (k1 k2:List Cls.KE) (t1 t2:List (List Int×Nat×Nat)) (h:H) (hu:SV h u 3 (sF k1)) (hw:SV h w 3 (sF k2)) (a1:bJ (YN h) k1 t1) (a2:bJ (YN h) k2 t2) (l1:k1.length<1000000) (l2:k2.length<1000000) (r1: ∀ t∈t1,t.1.length<1000000) (r2: ∀ t∈t2,t.1.length<1000000):
  Ev T Hp [u,w] h (λ v h'=>v= .bool (decide (t1=t2))/\Fr h h'):=by
 refine aZ Hl rfl ?_
 have m1:=bJ.length a1
 have m2:=bJ.length a2
 have lu:dW u=some (aB (k1.length:Int)):=by unfold dW;rw [SV.len hu (n:=k1.length) (iU k1) (by omega)];rfl
 have lw:dW w=some (aB (k2.length:Int)):=by unfold dW;rw [SV.len hw (n:=k2.length) (iU k2) (by omega)];rfl
 obtain ⟨id,off,sh,hid,hc⟩:=SV.shape hu k1.length (iU k1) (by omega)
 obtain ⟨id2,off2,sh2,hid2,hc2⟩:=SV.shape hw k2.length (iU k2) (by omega)
 rw [iU] at hc hc2
 by_cases hl:(k1.length:Int)=(k2.length:Int)
 case neg=>
  have d1:decide ((k1.length:Int)≠(k2.length:Int))=true:=decide_eq_true hl
  simp (disch:=omega) only [go_sem,iO,aF,lu,lw,d1]
  exact ⟨by rw [decide_eq_false];intro e;exact hl (by rw [m1,m2,e]),Fr.refl h⟩
 have hl':k1.length=k2.length:=by omega
 have d1:decide ((k1.length:Int)≠(k2.length:Int))=false:=decide_eq_false (by simpa using hl)
 simp (disch:=omega) only [go_sem,iO,aF,lu,lw,d1]
 refine aJ (λ k' vars hh=> ∃ (i:Nat),(∃ g:Nat->V,vars= [u,w,g 2,aB i,g 4,g 5,g 6])/\i<=k1.length/\(∀ j (h1:j<t1.length) (h2:j<t2.length),j<i->t1[j]=t2[j])/\Fr h hh/\k'=k1.length-i) k1.length
  ⟨0,aA rfl,mJ _,λ j _ _ hj=>by omega,Fr.refl h,rfl⟩ ?_
 rintro k' vars hh ⟨i,⟨g,rfl⟩,hi,hs,F,rfl⟩
 by_cases hlt:(i:Int)<(k1.length:Int)
 case neg=>
  have e1:=gJ hlt
  obtain rfl:i=k1.length:=by omega
  simp (disch:=omega) only [go_sem,lu,e1]
  have:t1=t2:=List.ext_getElem (by omega) λ j h1 h2=>hs j h1 h2 (by omega)
  exact ⟨by rw [decide_eq_true this],F⟩
 have e1:=mG hlt
 have hi1:i<k1.length:=by omega
 have hi2:i<k2.length:=by omega
 have s1:=bJ.get a1 i hi1 (by omega)
 have s2:=bJ.get a2 i hi2 (by omega)
 obtain ⟨p1,p2,p3⟩:=Mf hi1
 obtain ⟨q1,q2,q3⟩:=Mf hi2
 have cu: ∀ hx,Fr h hx->hx.cell id (off+i*3)=some k1[i].rep/\hx.cell id (off+i*3+1)=some (aB (k1[i].ord:Int))/\hx.cell id (off+i*3+2)=some (aB (k1[i].size:Int)):=λ hx f=>by
  refine ⟨?_,?_,?_⟩
  ·rw [f.cell (hid (by omega)),hc _ (by omega),p1]
  ·rw [f.cell (hid (by omega)),Nat.add_assoc,hc _ (by omega),p2]
  ·rw [f.cell (hid (by omega)),Nat.add_assoc,hc _ (by omega),p3]
 have cw: ∀ hx,Fr h hx->hx.cell id2 (off2+i*3)=some k2[i].rep/\hx.cell id2 (off2+i*3+1)=some (aB (k2[i].ord:Int))/\hx.cell id2 (off2+i*3+2)=some (aB (k2[i].size:Int)):=λ hx f=>by
  refine ⟨?_,?_,?_⟩
  ·rw [f.cell (hid2 (by omega)),hc2 _ (by omega),q1]
  ·rw [f.cell (hid2 (by omega)),Nat.add_assoc,hc2 _ (by omega),q2]
  ·rw [f.cell (hid2 (by omega)),Nat.add_assoc,hc2 _ (by omega),q3]
 have x1:=cu hh F
 have x2:=cw hh F
 by_cases ho:(k1[i].ord:Int)=(k2[i].ord:Int)
 case neg=>
  have d2:decide ((k1[i].ord:Int)≠(k2[i].ord:Int))=true:=decide_eq_true ho
  simp (disch:=omega) only [go_sem,lu,e1,sh.ixa,sh2.ixa,x1.1,x1.2.1,x1.2.2,x2.1,x2.2.1,x2.2.2,d2,tX]
  have fb:Fr hh (H.mk hh.tr (hh.next+38)):=(Fr.refl hh).bF (by omega)
  exact ⟨by rw [decide_eq_false];intro e;subst e;exact ho (by rw [s1.ord,s2.ord]),F.trans fb⟩
 have d2:decide ((k1[i].ord:Int)≠(k2[i].ord:Int))=false:=decide_eq_false (by simpa using ho)
 by_cases hz:(k1[i].size:Int)=(k2[i].size:Int)
 case neg=>
  have d3:decide ((k1[i].size:Int)≠(k2[i].size:Int))=true:=decide_eq_true hz
  simp (disch:=omega) only [go_sem,lu,e1,sh.ixa,sh2.ixa,x1.1,x1.2.1,x1.2.2,x2.1,x2.2.1,x2.2.2,d2,d3,tX]
  have fb:Fr hh (H.mk hh.tr (hh.next+38)):=(Fr.refl hh).bF (by omega)
  exact ⟨by rw [decide_eq_false];intro e;subst e;exact hz (by rw [s1.size,s2.size]),F.trans fb⟩
 have d3:decide ((k1[i].size:Int)≠(k2[i].size:Int))=false:=decide_eq_false (by simpa using hz)
 simp (disch:=omega) only [go_sem,lu,e1,sh.ixa,sh2.ixa,x1.1,x1.2.1,x1.2.2,x2.1,x2.2.1,x2.2.2,d2,d3,tX]
 refine (Au _ _ _ _ _ (s1.rep.mono (F.trans ((Fr.refl hh).bF (by omega)))) (s2.rep.mono (F.trans ((Fr.refl hh).bF (by omega)))) (r1 _ (List.getElem_mem _)) (r2 _ (List.getElem_mem _))).mono ?_
 rintro _ h3 ⟨rfl,f3⟩
 have F3:=F.trans (((Fr.refl hh).bF (by omega)).trans f3)
 have y1:=cu h3 F3
 have y2:=cw h3 F3
 have ev1:=s1.rep.eU
 have ev2:=s2.rep.eU
 by_cases he:t1[i].1=t2[i].1
 ·have d4:decide (t1[i].1=t2[i].1)=true:=decide_eq_true he
  simp (disch:=omega) only [go_sem,d4,y1.1,y1.2.1,y1.2.2,y2.1,y2.2.1,y2.2.2,ev1,ev2]
  rw [iJ i]
  refine ⟨k1.length-(i+1),by omega,i+1,aA rfl,by omega,λ j h1 h2 hj=>?_,F3,rfl⟩
  by_cases e:j=i
  ·subst e
   refine Prod.ext he (Prod.ext ?_ ?_)
   ·rw [←s1.ord,←s2.ord];omega
   ·rw [←s1.size,←s2.size];omega
  ·exact hs j h1 h2 (by omega)
 ·have d4:decide (t1[i].1=t2[i].1)=false:=decide_eq_false he
  simp (disch:=omega) only [go_sem,d4,y1.1,y1.2.1,y1.2.2,y2.1,y2.2.1,y2.2.2,ev1,ev2]
  exact ⟨by rw [decide_eq_false];intro e;subst e;exact he rfl,F3⟩
end Go.Proofs.YtddpkbicnolafaaGreat
namespace Go.Pm
set_option maxRecDepth 100000
section
variable {n:Nat} {t:uL}
theorem qZ.gt (T:qZ n t) {i p:Nat} {y:List Nat} (h:t i p=some y):i<p:=by
 have Y:=T.dR _ _ _ h
 have F:=T.fix _ _ _ h
 obtain ⟨h1,h2,h3⟩:=T.lt _ _ _ h
 have m:=T.maps _ _ _ h
 rcases Nat.lt_or_ge p i with h4|h4
 ·exact absurd (Y.inj h1 h2 (m.trans (F p h4).symm)) (by omega)
 ·omega
def eR (t:uL) (i p:Nat):Db:=(List.range p).filterMap (t i)
def eB (n:Nat) (t:uL) (i:Nat):Db:=(List.range i).flatMap λ i=>eR t i n
theorem ND (i p:Nat):eR t i (p+1)=eR t i p++(t i p).toList:=by
 unfold eR
 rw [List.range_succ,List.filterMap_append]
 cases h:t i p<;>simp [h]
theorem OF (i:Nat):eB n t (i+1)=eB n t i++eR t i n:=by
 unfold eB
 rw [List.range_succ,List.flatMap_append]
 simp
theorem CZ:eB n t n=fM n t 0:=by
 unfold eB fM eR
 simp
theorem Bl (T:qZ n t):(fM n t 0).Nodup:=by
 have key: ∀ i p i' p' y,t i p=some y->t i' p'=some y->i=i'/\p=p':=λ i p i' p' y h1 h2=>by
  have g1:=T.gt h1
  have g2:=T.gt h2
  have f1:=T.fix _ _ _ h1
  have f2:=T.fix _ _ _ h2
  have m1:=T.maps _ _ _ h1
  have m2:=T.maps _ _ _ h2
  have e:i=i':=by
   rcases Nat.lt_trichotomy i i' with h|h|h
   ·have:=f2 i h;omega
   ·exact h
   ·have:=f1 i' h;omega
  subst e
  exact ⟨rfl,m1.symm.trans m2⟩
 rw [←CZ]
 unfold eB
 rw [List.Nodup,List.pairwise_flatMap]
 refine ⟨λ i _=>?_,?_⟩
 ·unfold eR
  rw [List.pairwise_filterMap]
  refine (List.nodup_range (n:=n)).imp ?_
  intro p p' hne y hy y' hy' e
  subst e
  exact hne (key _ _ _ _ _ hy hy').2
 ·refine (List.nodup_range (n:=n)).imp ?_
  intro i i' hne y hy y' hy' e
  subst e
  obtain ⟨p,_,h1⟩:=List.mem_filterMap.1 hy
  obtain ⟨p',_,h2⟩:=List.mem_filterMap.1 hy'
  exact hne (key _ _ _ _ _ h1 h2).1
def frF (n:Nat) (t:uL) (l:Db):Db:=(fM n t 0).filter λ y=>decide (y∉l)
def clF (n:Nat) (t:uL) (x:List Nat) (l:Db):Db:=if (fM n t 0).length<(fM n (kA t n x) 0).length then l++frF n (kA t n x) l else l
structure Gf (n:Nat) (L:List Nat->Prop) (t:uL) (l:Db):Prop where
 tl:Vs n L t
 nd:l.Nodup
 mem: ∀ y,y∈l↔y∈fM n t 0
variable {L:List Nat->Prop} {l:Db}
theorem Gf.dR (c:Gf n L t l): ∀ y∈l,bI n y:=λ y hy=>c.tl.Pn.SF y ((c.mem y).1 hy)
theorem Gf.bound (c:Gf n L t l):l.length<=n^n:=Rz c.nd c.dR
theorem Gf.start (c:Vs n L t):Gf n L t (fM n t 0):=⟨c,Bl c.Pn,λ _=>Iff.rfl⟩
theorem GR {t':uL} (s:Sub t t'): ∀ y,y∈fM n t 0->y∈fM n t' 0:=λ y hy=>by
 obtain ⟨i,p,h1,h2,h3,h4⟩:=gE.1 hy
 exact gE.2 ⟨i,p,h1,h2,h3,s _ _ _ h4⟩
theorem Gf.step (c:Gf n L t l) (hL: ∀ g,L g->bI n g) {x:List Nat} (hx:fS n L x):
  Gf n L (kA t n x) (clF n t x l)/\Sub t (kA t n x)/\ins (kA t n x) n 0 x=none/\ ∃ m,clF n t x l=l++m:=by
 obtain ⟨a1,a2,a3⟩:=c.tl.ins hL hx
 have nd':=Bl a1.Pn
 refine ⟨?_,a2,a3,?_⟩
 ·cases h:ins t n 0 x with
  |none=>
   have e:kA t n x=t:=by unfold kA;rw [h]
   unfold clF
   rw [e,if_neg (Nat.lt_irrefl _)]
   exact c
  |some q=>
   obtain ⟨i,r⟩:=q
   have e:kA t n x=put t i (r.getD i 0) r:=by unfold kA;rw [h]
   obtain ⟨b1,b2,b3,b4,b5,b6,_⟩:=Dk c.tl.Pn n 0 x i r (by omega) (hx.dR hL) (λ k hk=>by omega) h
   have hr:r∈fM n (kA t n x) 0:=gE.2 ⟨i,r.getD i 0,Nat.zero_le _,b2,b3.eS b2,by rw [e];unfold put;rw [if_pos ⟨rfl,rfl⟩]⟩
   have hr2:r∉fM n t 0:=λ h=>by
    obtain ⟨j,q,_,_,_,h4⟩:=gE.1 h
    have h5:=a2 _ _ _ h4
    have g1:=a1.Pn.gt h5
    have f1:=a1.Pn.fix _ _ _ h5
    have m1:=a1.Pn.maps _ _ _ h5
    have h6:kA t n x i (r.getD i 0)=some r:=by rw [e];unfold put;rw [if_pos ⟨rfl,rfl⟩]
    have g2:=a1.Pn.gt h6
    have eij:i=j:=by
     rcases Nat.lt_trichotomy i j with h|h|h
     ·have:=f1 i h;omega
     ·exact h
     ·have:=b4 j h;omega
    subst eij
    rw [←m1] at h4
    rw [b6] at h4;cases h4
   have hlt:(fM n t 0).length<(fM n (kA t n x) 0).length:=by
    have:(r::fM n t 0).length<=(fM n (kA t n x) 0).length:=List.Nodup.length_le_of_subset (List.nodup_cons.2 ⟨hr2,Bl c.tl.Pn⟩) (λ y hy=>by
     rcases List.mem_cons.1 hy with rfl|hy
     ·exact hr
     ·exact GR a2 y hy)
    rw [List.length_cons] at this;omega
   unfold clF
   rw [if_pos hlt]
   refine ⟨a1,List.nodup_append.2 ⟨c.nd,nd'.filter _,λ y hy z hz e2=>?_⟩,λ y=>?_⟩
   ·subst e2
    have:=(List.mem_filter.1 hz).2
    simp at this
    exact this hy
   ·rw [List.mem_append]
    unfold frF
    rw [List.mem_filter]
    constructor
    ·rintro (h|h)
     ·exact GR a2 y ((c.mem y).1 h)
     ·exact h.1
    ·intro h
     by_cases h2:y∈l
     ·exact .inl h2
     ·exact .inr ⟨h,by simpa using h2⟩
 ·unfold clF
  split
  ·exact ⟨_,rfl⟩
  ·exact ⟨[],(List.append_nil _).symm⟩
theorem Gf.gen (c:Gf n L t l): ∀ y∈l,fS n L y:=λ y hy=>c.tl.gen y ((c.mem y).1 hy)
def Pr (n:Nat) (t:uL) (l:Db) (a b:Nat):Prop:=ins t n 0 (bE (l.getD a []) (l.getD b []))=none
theorem Pr.mono {t':uL} {m:Db} {a b:Nat} (h:Pr n t l a b) (s:Sub t t') (ha:a<l.length) (hb:b<l.length):Pr n t' (l++m) a b:=by
 have e: ∀ k,k<l.length->(l++m).getD k []=l.getD k []:=λ k hk=>by rw [List.getD,List.getD,List.getElem?_append_left hk]
 unfold Pr
 rw [e a ha,e b hb]
 exact Kf s _ _ _ h
theorem Gf.closed (c:Gf n L t l) (h: ∀ a b,a<l.length->b<l.length->Pr n t l a b):Nx n t:=λ a b ha hb=>by
 obtain ⟨i,hi,ei⟩:=List.mem_iff_getElem.1 ((c.mem a).2 ha)
 obtain ⟨j,hj,ej⟩:=List.mem_iff_getElem.1 ((c.mem b).2 hb)
 have:=h i j hi hj
 unfold Pr at this
 have e1:l.getD i []=a:=by rw [List.getD,List.getElem?_eq_getElem hi,←ei];rfl
 have e2:l.getD j []=b:=by rw [List.getD,List.getElem?_eq_getElem hj,←ej];rfl
 rwa [e1,e2] at this
def Gs (t:uL) (i k:Nat):List Nat:=(List.range k).filter λ p=>p==i||(t i p).isSome
theorem MS (T:qZ n t) (i:Nat):Gs t i i= []:=by
 unfold Gs
 refine List.filter_eq_nil_iff.2 λ p hp=>?_
 have:=List.mem_range.1 hp
 simp only [Bool.or_eq_true,beq_iff_eq,not_or]
 refine ⟨by omega,λ h=>?_⟩
 obtain ⟨y,hy⟩:=Option.isSome_iff_exists.1 h
 have:=T.gt hy
 omega
theorem TK (i k:Nat):Gs t i (k+1)=Gs t i k++if k=i∨(t i k).isSome then [k] else []:=by
 unfold Gs
 rw [List.range_succ,List.filter_append]
 by_cases h:k=i
 ·subst h;simp
 ·have e:(k==i)=false:=by simpa using h
  cases h2:t i k<;>simp [h,h2,List.filter,e]
theorem VU (i:Nat):Gs t i n=(mS n t i).orb:=rfl
theorem abS (i k:Nat):(Gs t i k).Pairwise (· < ·):=List.pairwise_lt_range.filter _
end
end Go.Pm
namespace Go.Proofs.YtddpkbicnolafaaGreat
open Go Go.Ay Go.Pm
set_option maxRecDepth 100000
theorem Mo (h:H) (x:Int):rV h 1 [aB 0] 1 [(0,1,aB x)]=some (.sl h.next 0 1 (.kn 1),h.new (.cells false (ints [x]))):=by
 have e:dQ [aB 0] 1= [aB 0]:=rfl
 simp [rV,jJ,e,putAt,V.cells,V.one,ints]
theorem aaK {h:H} {v:V} {sz b:Nat} {ws:List V} (o:eL h v sz ws b): ∀ id off len cap,v= .sl id off len cap->b<=id:=by
 rcases o with ⟨rfl,_⟩|⟨id,n,cap,rest,rfl,_,_,h3,_⟩
 ·intro _ _ _ _ e;cases e
 ·intro _ _ _ _ e;cases e;exact h3
theorem Qt (l:List Nat) (x:Nat):zi (l++ [x])=zi l++ [(x:Int)]:=by simp [zi]
theorem Ns {l:List Nat} {i:Nat} (hi:i<l.length):l.take (i+1)=l.take i++ [l.getD i 0]:=by
 rw [List.take_add_one,iH hi,bW hi];rfl
theorem Bg (u w:V) (a b:List Nat) (h:H) (hN:a.length<=1000) (hu:SI h u (zi a)) (hw:SI h w (zi b)) (hr: ∀ i,i<a.length->a.getD i 0<b.length):
  Ev T SH [u,w] h (λ v h'=>SI h' v (zi (bE a b))/\Fr h h'/\ ∀ id off len cap,v= .sl id off len cap->h.next<=id):=by
 refine aZ SY rfl ?_
 have lu:=hu.lens
 rw [aT] at lu
 obtain ⟨id,off,sh,hid,hc⟩:=hu.open
 rw [aT] at sh hid hc
 obtain ⟨id2,off2,sh2,hid2,hc2⟩:=hw.open
 rw [aT] at sh2 hid2 hc2
 simp (disch:=omega) only [go_sem,Fl,aF]
 refine aJ (λ k' vars hh=> ∃ (i:Nat) (o:V),(∃ j:Nat->V,vars= [u,w,j 2,o,aB i,j 5])/\i<=a.length/\eL hh o 1 (ints (zi ((bE a b).take i))) h.next/\Fr h hh/\k'=a.length-i) a.length
  ⟨0,.aC,aA rfl,mJ _,eL.aC _ _ _,Fr.refl h,rfl⟩ ?_
 rintro k' vars h2 ⟨i,o,⟨jk,rfl⟩,hi,oO,F,rfl⟩
 simp (disch:=omega) only [go_sem,lu]
 by_cases hlt:(i:Int)<(a.length:Int)
 ·rw [decide_eq_true hlt]
  have hi':i<a.length:=by omega
  have ci:h2.cell id (off+i)=some (aB (a.getD i 0:Nat)):=by rw [F.cell (hid (by omega)),hc i hi'];congr 2;simp [zi,hi']
  have r:=hr i hi'
  have hm:=cZ (b:=b) hi'
  generalize hk:a.getD i 0=k at ci r hm
  have ck:h2.cell id2 (off2+k)=some (aB (b.getD k 0:Nat)):=by rw [F.cell (hid2 (by omega)),hc2 k r];congr 2;simp [zi,r]
  simp (disch:=omega) only [go_sem,sh.ixa,ci,sh2.ixa,ck,Mo]
  have hf31:Fr h2 (h2.new (.cells false (ints [((b.getD k 0:Nat):Int)]))):=(Fr.refl h2).new _
  have hg31:(h2.new (.cells false (ints [((b.getD k 0:Nat):Int)]))).get h2.next=some (.cells false (ints [((b.getD k 0:Nat):Int)])):=H.aQ ..
  have hn31:(h2.new (.cells false (ints [((b.getD k 0:Nat):Int)]))).next=h2.next+1:=H.bD ..
  generalize h2.new (.cells false (ints [((b.getD k 0:Nat):Int)]))=h31 at*
  have sx:SV h31 (.sl h2.next 0 1 (.kn 1)) 1 (ints [((b.getD k 0:Nat):Int)]):=SV.all rfl (by omega) hg31 _
  have nF:=F.next
  have hl:(bE a b).length=a.length:=eM a b
  obtain ⟨v2,h32,e32,a32⟩:=(oO.fr hf31).app (bytes:=8) (n:=i) (m:=1) (by omega) sx (by rw [aS,aT,List.length_take,Nat.mul_one];omega) rfl (by omega) (by omega)
  simp (disch:=omega) only [go_sem,e32]
  have t32:=a32.own
  rw [←uG,←hm,←Qt,←Ns (by omega)] at t32
  rw [iJ i]
  exact ⟨a.length-(i+1),by omega,i+1,v2,aA rfl,by omega,t32,a32.fr h (F.trans hf31) (jI _),rfl⟩
 rw [decide_eq_false hlt]
 obtain rfl:i=a.length:=by omega
 simp (disch:=omega) only [go_sem]
 rw [List.take_of_length_le (by rw [eM];omega)] at oO
 exact ⟨oO.sv,F,aaK oO⟩
theorem adN (n:Nat) (h:H) (hN:n<=1000):
  Ev T Zc [aB n] h (λ v h'=>SI h' v (zi (bZ n))/\Fr h h'/\ ∀ id off len cap,v= .sl id off len cap->h.next<=id):=by
 refine aZ Yr rfl ?_
 simp (disch:=omega) only [go_sem,Ai,aF]
 refine aJ (λ k' vars hh=> ∃ (i:Nat) (o:V),(∃ j:Nat->V,vars= [aB n,j 1,o,aB i,j 4])/\i<=n/\eL hh o 1 (ints (zi ((bZ n).take i))) h.next/\Fr h hh/\k'=n-i) n
  ⟨0,.aC,aA rfl,mJ _,eL.aC _ _ _,Fr.refl h,rfl⟩ ?_
 rintro k' vars h2 ⟨i,o,⟨jk,rfl⟩,hi,oO,F,rfl⟩
 simp (disch:=omega) only [go_sem]
 by_cases hlt:(i:Int)<(n:Int)
 ·rw [decide_eq_true hlt]
  have hi':i<n:=by omega
  simp (disch:=omega) only [go_sem,Mo]
  have hf31:Fr h2 (h2.new (.cells false (ints [(i:Int)]))):=(Fr.refl h2).new _
  have hg31:(h2.new (.cells false (ints [(i:Int)]))).get h2.next=some (.cells false (ints [(i:Int)])):=H.aQ ..
  have hn31:(h2.new (.cells false (ints [(i:Int)]))).next=h2.next+1:=H.bD ..
  generalize h2.new (.cells false (ints [(i:Int)]))=h31 at*
  have sx:SV h31 (.sl h2.next 0 1 (.kn 1)) 1 (ints [(i:Int)]):=SV.all rfl (by omega) hg31 _
  have nF:=F.next
  have hl:=iN n
  obtain ⟨v2,h32,e32,a32⟩:=(oO.fr hf31).app (bytes:=8) (n:=i) (m:=1) (by omega) sx (by rw [aS,aT,List.length_take,Nat.mul_one];omega) rfl (by omega) (by omega)
  simp (disch:=omega) only [go_sem,e32]
  have t32:=a32.own
  have hm:=fG hi'
  have e1:zi ((bZ n).take i)++ [(i:Int)]=zi ((bZ n).take (i+1)):=by rw [Ns (by omega),Qt,hm]
  rw [←uG,e1] at t32
  rw [iJ i]
  exact ⟨n-(i+1),by omega,i+1,v2,aA rfl,by omega,t32,a32.fr h (F.trans hf31) (jI _),rfl⟩
 rw [decide_eq_false hlt]
 obtain rfl:i=n:=by omega
 simp (disch:=omega) only [go_sem]
 rw [List.take_of_length_le (by rw [iN];omega)] at oO
 exact ⟨oO.sv,F,aaK oO⟩
theorem NB (u:V) (n:Nat) (a:List Nat) (h:H) (hn:n<=1000) (A:bI n a) (hu:SI h u (zi a)):
  Ev T TR [u] h (λ v h'=>HU h h' v (eA a)):=by
 refine aZ PS rfl ?_
 have la:=A.len
 have lu:=hu.lens
 rw [aT,la] at lu
 obtain ⟨id,off,sh,hid,hc⟩:=hu.open
 rw [aT,la] at sh hid hc
 simp (disch:=omega) only [go_sem,Fk,aF,lu,sM h n (by omega)]
 have hf1:Fr h (h.new (.cells false (rc n λ _=> aB 0))):=(Fr.refl h).new _
 have hg1:(h.new (.cells false (rc n λ _=> aB 0))).get h.next=some (.cells false (rc n λ _=> aB 0)):=H.aQ ..
 have hn1:(h.new (.cells false (rc n λ _=> aB 0))).next=h.next+1:=H.bD ..
 generalize h.new (.cells false (rc n λ _=> aB 0))=h1 at*
 obtain ⟨S,hS⟩: ∃ S,h.next=S:=⟨_,rfl⟩
 rw [hS] at hg1 hn1
 rw [hS]
 refine aJ (λ k' vars hh=> ∃ (i:Nat),(∃ j:Nat->V,vars= [u,.aC,.sl S 0 n (.kn n),aB i,j 4])/\i<=n/\
   hh.get S=some (.cells false (rc n λ j=>if a.idxOf j<i then aB (a.idxOf j:Nat) else aB 0))/\hh.next=S+1/\Fr h hh/\k'=n-i) n
  ⟨0,aA rfl,mJ _,by rw [hg1];rfl,hn1,hf1,rfl⟩ ?_
 clear hg1 hf1 hn1
 rintro k' vars h2 ⟨i,⟨jk,rfl⟩,hi,gS,lS,F,rfl⟩
 simp (disch:=omega) only [go_sem,lu]
 by_cases hlt:(i:Int)<(n:Int)
 ·rw [decide_eq_true hlt]
  have hi':i<n:=by omega
  have ci:h2.cell id (off+i)=some (aB (a.getD i 0:Nat)):=by rw [F.cell (hid (by omega)),hc i hi'];congr 2;simp [zi,la,hi']
  have r:=A.eS hi'
  have hx:a.idxOf (a.getD i 0)=i:=A.inj (A.idx r).1 hi' (A.idx r).2
  generalize hk:a.getD i 0=k at ci r hx
  have e1:decide ((k:Int)<0)=false:=gJ (by omega)
  have e2:decide ((n:Int)<=(k:Int))=false:=gJ (by omega)
  have pt:=bT (vs:=rc n λ j=>if a.idxOf j<i then aB (a.idxOf j:Nat) else aB 0) (off:=k) (by rw [gT];exact r) h2 S (aB i)
  rw [lQ] at pt
  simp (disch:=omega) only [go_sem,sh.ixa,ci,e1,e2,gS,pt]
  rw [iJ i]
  refine ⟨n-(i+1),by omega,i+1,aA rfl,by omega,?_,lS,F.set (by omega) _,rfl⟩
  congr 2
  refine cJ λ j hj=>?_
  by_cases e:j=k
  ·rw [if_pos e,e,hx,if_pos (by omega)]
  ·rw [if_neg e]
   have hne:a.idxOf j≠i:=λ e3=>e (by rw [←(A.idx hj).2,e3,hk])
   by_cases e2:a.idxOf j<i
   ·rw [if_pos e2,if_pos (by omega)]
   ·rw [if_neg e2,if_neg (by omega)]
 rw [decide_eq_false hlt]
 obtain rfl:i=n:=by omega
 simp (disch:=omega) only [go_sem]
 refine ⟨by rw [jT,la,hS],?_,by rw [hS];exact lS,F⟩
 rw [hS,gS]
 congr 2
 rw [←Ub,jT,la]
 exact cJ λ j hj=>by rw [if_pos (A.idx hj).1,Bf (by rw [la];exact hj)]
end Go.Proofs.YtddpkbicnolafaaGreat
