/- Texts of the claim. -/
import Derived.Test.YtcdbmkidaecdiaaGreatP5qtoP6j
import Derived.Test.YtcdbmkidaecdiaaGreatU15toSn2
import Derived.Test.YtcdbmkidaecdiaaGreatDp2toP5p
set_option maxHeartbeats 64000000
namespace Go.Proofs.YtcdbmkidaecdiaaGreat.Cls.Nor
open Go Go.Ay Go.Sort Cls
set_option maxRecDepth 100000
theorem tZ  {α:Type}[Inhabited α][O:aN α](h:H)(S N a b:Nat)(d:Array α)(o:lI)(x:N<1000000)(A:cE h S N d)(y:b<=N)(q:a<b):
  Ev T 172 [.sl S 0 N o,aC a,aC b,.fn (aN.f α) [] []] h (λ_ h'=>cE h' S N (reverseRange d a b)/\Fx (· =S) h h'):=by
 refine cV fS rfl ?_
 have r:(b:Int)- 1=((b- 1:Nat):Int):=om
 simp(disch:=omega)only[go_sem,fS,aD,r]
 refine aH (λc k p=> ∃(i j:Nat) (e:Array α),(∃g:Nat->V,k= [.sl S 0 N o,aC a,aC b,aC i,aC j,g 5])/\j<b/\i<=b/\cE p S N e/\reverseLoop i j e=reverseLoop a (b- 1) d/\Fx (· =S) h p/\c=j) (b- 1)
  ⟨a,b- 1,d,aB rfl,om,om,A,rfl,Fx.refl _ h,rfl⟩ ?_
 clear A
 rintro c k t ⟨i,j,e,⟨g,rfl⟩,w,hi,A,l,F,v⟩
 subst v
 have sz:=A.size
 rw[reverseLoop] at l
 by_cases m:(i:Int)<(c:Int)
 ·have n:=bP m
  rw[bF om] at l
  have u:=A.rd (i:=i) om
  have s:=A.rd (i:=c) om
  simp(disch:=omega)only[go_sem,n,u,s,A.get,bB,aY]
  have W:=A.swap (i:=i) (j:=c) (nx:=t.next+16) om rfl
  rw[show (i:Int)+1=((i+1:Nat):Int) from om,show (c:Int)- 1=((c- 1:Nat):Int) from om]
  exact⟨c- 1,om,i+1,c- 1,_,aB rfl,om,om,W.1,l,dC F W.2,rfl⟩
 have n:=bH m
 rw[bI om] at l
 simp(disch:=omega)only[go_sem,n]
 unfold reverseRange
 rw[←l]
 exact⟨A,F⟩
theorem Ba  {α:Type}[Inhabited α][O:aN α](h:H)(S N a b:Nat)(d:Array α)(cp:lI)(hN:N<60000)(A:cE h S N d)(hb:b<=N)(a2:a<=b):
  Ev T 170 [.sl S 0 N cp,aC a,aC b,.fn (aN.f α) [] []] h (λ_ h'=> ∃e,cE h' S N e/\PermIn a b d e/\Fx (· =S) h h'):=by
 refine cV dJ rfl ?_
 obtain⟨n,hn⟩:=exI (b-a)
 have en:(b:Int)-(a:Int)=(n:Int):=om
 by_cases h8:(8:Int)<=(n:Int)
 case neg=>
  have e8:=bH h8;simp(disch:=omega)only[go_sem,dJ,aD,en,e8];exact⟨d,A,permIn_refl d a b,Fx.refl _ h⟩
 have e8:=bP h8
 have K:=Dh n (k:=4) (m:=4) rfl
 obtain⟨q,hq⟩:=exI (n/4)
 rw[hq] at K
 have ei:(a:Int)+(q:Int)*2- 1=((a+q*2- 1:Nat):Int):=om
 have ej:(a:Int)+(q:Int)*2+1=((a+q*2+1:Nat):Int):=om
 have hp:=two_pow_bitsLen_le (show 0<n by omega)
 have a1:=lt_two_pow_bitsLen n
 obtain⟨m,hm⟩:=exI (2^bitsLen n)
 rw[hm] at hp a1
 obtain⟨R,Y⟩:=exI h.next
 have P:R≠S:=by have:=A.lt;omega
 have a0:aN.b0 α<=R:=by have:=O.bn _ A.base;omega
 have Z: ∀c:H,dX (aZ [.int .u64 0]) c R 0 [.int .u64 (n:Int)]=some (c.set R (aZ [.int .u64 (n:Int)])):=λc=>bN (by simp) c R _
 have z:(h.new (.cells false [.int .u64 0])).get R=aZ [.int .u64 0]:=by rw[←Y,H.aL]
 simp(disch:=omega)only[go_sem,dJ,aD,en,e8,Y,dK (n:=(n:Int)) om om,z,Z]
 obtain⟨o,l⟩: ∃o,o=(h.new (.cells false [.int .u64 0])).set R (aZ [.int .u64 (n:Int)]):=⟨_,rfl⟩
 rw[←l]
 have g1:o.get R=aZ [.int .u64 (n:Int)]:=by rw[l,H.aS]
 have n1:o.next=R+1:=by rw[l,H.bY,H.aU,Y]
 have f1:Fr h o:=by rw[l];exact ((Fr.refl h).new _).set om _
 clear l
 refine (Wg n o om).mono ?_
 rintro _ a4 ⟨rfl,c⟩
 rw[c,hm]
 simp(disch:=omega)only[go_sem,K,ei]
 refine aH (λk' r c=> ∃(i:Nat) (e:Array α) (x:Int),(∃g:Nat->V,r= [.sl S 0 N cp,aC a,aC b,aC n,.ptr R 0,.int .u64 (m:Int),aC i,g 7,g 8,g 9,g 10])/\a<=i/\i<=a+q*2+2/\cE c S N e/\PermIn a b d e/\c.get R=aZ [.int .u64 x]/\R<c.next/\Fx (· =S) h c/\k'=a+q*2+2-i) (a+q*2+2-(a+q*2- 1))
  ⟨a+q*2- 1,d,_,aB rfl,om,om,A.fr f1,permIn_refl d a b,g1,om,Fx.of f1,rfl⟩ ?_
 clear A g1 n1 f1 c o
 rintro k' r o ⟨i,e,x,⟨g,rfl⟩,u,a5,A,hP,gR,nR,F,rfl⟩
 by_cases G:(i:Int)<=((a+q*2+1:Nat):Int)
 case neg=>
  have Q:=bH G;simp(disch:=omega)only[go_sem,K,ej,Q];exact⟨e,A,hP,F⟩
 have Q:=bP G
 simp(disch:=omega)only[go_sem,K,ej,Q]
 refine (Wd R x o gR nR).mono ?_
 rintro _ J ⟨y,rfl,t,F2⟩
 have p:=A.Uc F2 P a0
 obtain⟨w,hw,a3⟩:=Uo y (m- 1) om
 have em:(m:Int)- 1=((m- 1:Nat):Int):=om
 have sz:=p.size
 have v:Fx (· =S) h J:=⟨mT F.next F2.next,λid h3 h4=>(F2.get id (iW h3 F.next) (λe=>by have:id=R:=e;omega)).trans (F.get id h3 h4)⟩
 have s:R<J.next:=iW nR F2.next
 by_cases B:(n:Int)<=(w:Int)
 ·have e2:=bP B
  have e3:(w:Int)-(n:Int)=((w-n:Nat):Int):=om
  have U:(a:Int)+((w-n:Nat):Int)=((a+(w-n):Nat):Int):=om
  have c1:=p.rd (i:=i) om
  have L:=p.rd (i:=a+(w-n)) om
  simp(disch:=omega)only[go_sem,em,dK (n:=((m- 1:Nat):Int)) om om,hw,e2,e3,U,c1,L,p.get,bB,aY]
  have W:=p.swap (i:=i) (j:=a+(w-n)) (nx:=J.next+20) om rfl
  rw[eJ i]
  refine⟨a+q*2+2-(i+1),om,i+1,_,y,aB rfl,om,om,W.1,permIn_trans _ _ _ a b hP (swp_permIn e a b i (a+(w-n)) u om om om om),?_,iW s W.2.next,dC v W.2,rfl⟩
  exact t
 ·have e2:=bH B
  have U:(a:Int)+(w:Int)=((a+w:Nat):Int):=om
  have c1:=p.rd (i:=i) om
  have L:=p.rd (i:=a+w) om
  simp(disch:=omega)only[go_sem,em,dK (n:=((m- 1:Nat):Int)) om om,hw,e2,U,c1,L,p.get,bB,aY]
  have W:=p.swap (i:=i) (j:=a+w) (nx:=J.next+20) om rfl
  rw[eJ i]
  refine⟨a+q*2+2-(i+1),om,i+1,_,y,aB rfl,om,om,W.1,permIn_trans _ _ _ a b hP (swp_permIn e a b i (a+w) u om om om om),?_,iW s W.2.next,dC v W.2,rfl⟩
  exact t
theorem jU  {α:Type}[Inhabited α][O:aN α](h:H)(S N a b R:Nat)(d:Array α)(q:lI)(B:N<1000000)(A:cE h S N d)(x:a<N)(F:b<N)(y:R≠S)(m:R<h.next)(p:aN.b0 α<=R)(s:Int)(o:h.get R=aZ [aC s]):
  Ev T 245 [.sl S 0 N q,aC a,aC b,.ptr R 0,.fn (aN.f α) [] []] h (λv h'=>(v= .tup [aC a,aC b]∨v= .tup [aC b,aC a])/\Wn h h' R):=by
 refine cV iH rfl ?_
 have u:=A.rd (i:=a) om
 have r:=A.rd (i:=b) om
 simp(disch:=omega)only[go_sem,iH,aD,u,r]
 refine (dG A (i:=b) (j:=a) om om _ om).mono ?_
 rintro _ e ⟨z,rfl,n,k⟩
 have l:Fr h e:=Fr.trans ((Fr.refl h).bA om) k
 have c:e.get R=aZ [aC s]:=by rw[l.get R m];exact o
 cases hl:aN.lt d[b]! d[a]! with
 |false=>
  simp(disch:=omega)only[go_sem,n,hl];exact⟨.inl trivial,⟨s,c⟩,Fx.of l⟩
 |true=>
  have cR:e.cell R 0=some (aC s):=by rw[H.aF c];rfl
  have t: ∀(w:Int) (g:H),dX (aZ [aC s]) g R 0 [aC w]=some (g.set R (aZ [aC w])):=λw g=>bN (by simp) g R _
  simp(disch:=omega)only[go_sem,n,hl,cR,c,t];exact⟨.inr trivial,⟨_,by rw[H.aS]⟩,(Fx.of (W:=(· =R)) l).trans (Fx.set e (W:=(· =R)) rfl _) (λ_ _ h=>h)⟩
theorem oD  {α:Type}[Inhabited α][O:aN α](h:H)(S N a b c R:Nat)(d:Array α)(n:lI)(w:N<1000000)(A:cE h S N d)(q:a<N)(B:b<N)(P:c<N)(g:R≠S)(j:R<h.next)(e:aN.b0 α<=R)(s:Int)(gR:h.get R=aZ [aC s]):
  Ev T 215 [.sl S 0 N n,aC a,aC b,aC c,.ptr R 0,.fn (aN.f α) [] []] h (λv h'=>(∃m,v= aC (m:Nat)/\(m=a∨m=b∨m=c))/\Wn h h' R):=by
 refine cV iI rfl ?_
 simp(disch:=omega)only[go_sem,iI,aD]
 refine (jU h S N a b R d n w A q B g j e s gR).mono ?_
 rintro v1 h1 ⟨r,l⟩
 obtain⟨F,k,rfl,p,i,L⟩: ∃x y,v1= .tup [aC (x:Nat),aC (y:Nat)]/\x<N/\y<N/\((x=a∨x=b)/\(y=a∨y=b)):=by
  rcases r with rfl|rfl
  ·exact⟨a,b,rfl,q,B,.inl rfl,.inr rfl⟩
  ·exact⟨b,a,rfl,B,q,.inr rfl,.inl rfl⟩
 have J:=A.Uc l.fx g e
 obtain⟨Y,U⟩:=l.get
 have K:=iW j l.fx.next
 simp(disch:=omega)only[go_sem]
 refine (jU h1 S N k c R d n w J i P g K e Y U).mono ?_
 rintro v2 W ⟨t,o⟩
 obtain⟨Q,y2,rfl,u,G⟩: ∃x y,v2= .tup [aC (x:Nat),aC (y:Nat)]/\x<N/\(x=k∨x=c):=by
  rcases t with rfl|rfl
  ·exact⟨k,c,rfl,i,.inl rfl⟩
  ·exact⟨c,k,rfl,P,.inr rfl⟩
 have A2:=J.Uc o.fx g e
 obtain⟨Z,g2⟩:=o.get
 have n2:=iW K o.fx.next
 simp(disch:=omega)only[go_sem]
 refine (jU W S N F Q R d n w A2 p u g n2 e Z g2).mono ?_
 rintro v3 h3 ⟨z,C3⟩
 have C:=(l.trans o).trans C3
 rcases z with rfl|rfl
 ·simp(disch:=omega)only[go_sem]
  exact⟨⟨Q,rfl,om⟩,C⟩
 ·simp(disch:=omega)only[go_sem]
  exact⟨⟨F,rfl,om⟩,C⟩
theorem iT  {α:Type}[Inhabited α][O:aN α](h:H)(S N a R:Nat)(d:Array α)(e:lI)(l:N<1000000)(A:cE h S N d)(q:0<a)(p:a+1<N)(g:R≠S)(b:R<h.next)(c:aN.b0 α<=R)(s:Int)(k:h.get R=aZ [aC s]):
  Ev T 214 [.sl S 0 N e,aC a,.ptr R 0,.fn (aN.f α) [] []] h (λv h'=>(∃m,v= aC (m:Nat)/\(m=a- 1∨m=a∨m=a+1))/\Wn h h' R):=by
 refine cV eZ rfl ?_
 have n:(a:Int)- 1=((a- 1:Nat):Int):=om
 have j:(a:Int)+1=((a+1:Nat):Int):=om
 simp(disch:=omega)only[go_sem,eZ,aD,n,j]
 refine (oD h S N (a- 1) a (a+1) R d e l A om om om g b c s k).mono ?_
 rintro _ o ⟨⟨m,rfl,i⟩,C⟩
 simp(disch:=omega)only[go_sem]
 exact⟨⟨m,rfl,i⟩,C⟩
theorem Ar  {α:Type}[Inhabited α][O:aN α](h:H)(S N a b:Nat)(d:Array α)(G:lI)(Z:N<1000000)(A:cE h S N d)(hb:b<=N)(a1:a<b):
  Ev T 171 [.sl S 0 N G,aC a,aC b,.fn (aN.f α) [] []] h (λv h'=> ∃(p:Nat) (t:Int),v= .tup [aC p,aC t]/\a<=p/\p<b/\Fr h h'):=by
 refine cV cQ rfl ?_
 obtain⟨n,hn⟩:=exI (b-a)
 have en:(b:Int)-(a:Int)=(n:Int):=om
 have Y:=Dh n (k:=4) (m:=4) rfl
 obtain⟨q,hq⟩:=exI (n/4)
 rw[hq] at Y
 have ei:(a:Int)+(q:Int)*1=((a+q:Nat):Int):=om
 have ej:(a:Int)+(q:Int)*2=((a+q*2:Nat):Int):=om
 have ek:(a:Int)+(q:Int)*3=((a+q*3:Nat):Int):=om
 obtain⟨R,P⟩:=exI h.next
 have c:R≠S:=by have:=A.lt;omega
 have g:aN.b0 α<=R:=by have:=O.bn _ A.base;omega
 obtain⟨r,l⟩: ∃r,r=h.new (.cells false [aC 0]):=⟨_,rfl⟩
 have g1:r.get R=aZ [aC 0]:=by rw[l,←P,H.aL]
 have n1:r.next=R+1:=by rw[l,H.aU,P]
 have f1:Fr h r:=by rw[l];exact (Fr.refl h).new _
 have A1:=A.fr f1
 have L: ∀(p:Nat) (o:H),a<=p->p<b->Fx (· =R) r o->a<=p/\p<b/\Fr h o:=λp o x1 x2 x3=>⟨x1,x2,mT f1.next x3.next,λid a0=>(x3.get id om (λe=>by have:id=R:=e;omega)).trans (f1.get id a0)⟩
 by_cases h8:(8:Int)<=(n:Int)
 case neg=>
  have W:=bH h8;simp(disch:=omega)only[go_sem,cQ,aD,en,Y,ei,ej,ek,W];rw[←l];have cR:r.cell R 0=some (aC 0):=by rw[H.aF g1];rfl
  simp(disch:=omega)only[go_sem,P,cR];refine aW (λ_=>?_) (λhc=>(hc (by trivial)).elim);simp(disch:=omega)only[go_sem];exact⟨a+q*2,1,rfl,L _ _ om om (Fx.refl _ _)⟩
 have W:=bP h8
 have u: ∀(i j k:Nat) (o:H) (J:Int),a<=i->i<b->a<=j->j<b->a<=k->k<b->cE o S N d->o.get R=aZ [aC J]->R<o.next->Fx (· =R) r o->
   Ev T 215 [.sl S 0 N G,aC i,aC j,aC k,.ptr R 0,.fn (aN.f α) [] []] o (λv h'=> ∃p s,v= aC (p:Nat)/\a<=p/\p<b/\h'.get R=aZ [aC s]/\Fr h h'):=by
  intro i j k o J i1 i2 j1 j2 k1 k2 U g2 n2 F2
  refine (oD o S N i j k R d G Z U om om om c n2 g J g2).mono ?_
  rintro _ x ⟨⟨p,rfl,hp⟩,⟨s,w⟩,K⟩
  exact⟨p,s,rfl,om,om,w,(L p x om om (F2.trans K λ_ _ h=>h)).2.2⟩
 by_cases Q:(50:Int)<=(n:Int)
 case neg=>
  have y:=bH Q;simp(disch:=omega)only[go_sem,cQ,aD,en,Y,ei,ej,ek,W,y];rw[←l];simp(disch:=omega)only[go_sem,P];refine (u (a+q) (a+q*2) (a+q*3) r 0 om om om om om om A1 g1 om (Fx.refl _ _)).mono ?_;rintro _ x ⟨p,s,rfl,z,B,w,F⟩;have cR:x.cell R 0=some (aC s):=by rw[H.aF w];rfl
  simp(disch:=omega)only[go_sem,cR];refine aW (λ_=>?_) (λ_=>?_)
  ·simp(disch:=omega)only[go_sem]
   exact⟨p,1,rfl,z,B,F⟩
  ·simp(disch:=omega)only[go_sem]
   refine aW (λ_=>?_) (λ_=>?_)
   ·simp(disch:=omega)only[go_sem]
    exact⟨p,2,rfl,z,B,F⟩
   ·simp(disch:=omega)only[go_sem]
    exact⟨p,0,rfl,z,B,F⟩
 have y:=bP Q
 simp(disch:=omega)only[go_sem,cQ,aD,en,Y,ei,ej,ek,W,y]
 rw[←l]
 simp(disch:=omega)only[go_sem,P]
 refine (iT r S N (a+q) R d G Z A1 om om c om g 0 g1).mono ?_
 rintro _ o ⟨⟨i,rfl,hi⟩,⟨J,g2⟩,F2⟩
 have U:=A1.Uc F2 c g
 have n2:=F2.next
 simp(disch:=omega)only[go_sem]
 refine (iT o S N (a+q*2) R d G Z U om om c om g J g2).mono ?_
 rintro _ x ⟨⟨j,rfl,hj⟩,⟨s,w⟩,K⟩
 have A3:=U.Uc K c g
 have n3:=K.next
 simp(disch:=omega)only[go_sem]
 refine (iT x S N (a+q*3) R d G Z A3 om om c om g s w).mono ?_
 rintro _ h4 ⟨⟨k,rfl,hk⟩,⟨s4,g4⟩,F4⟩
 have A4:=A3.Uc F4 c g
 have n4:=F4.next
 simp(disch:=omega)only[go_sem]
 refine (u i j k h4 s4 om om om om om om A4 g4 om ((F2.trans K λ_ _ h=>h).trans F4 λ_ _ h=>h)).mono ?_
 rintro _ x ⟨p,s,rfl,z,B,w,F⟩
 have cR:x.cell R 0=some (aC s):=by rw[H.aF w];rfl
 simp(disch:=omega)only[go_sem,cR]
 refine aW (λ_=>?_) (λ_=>?_)
 ·simp(disch:=omega)only[go_sem]
  exact⟨p,1,rfl,z,B,F⟩
 ·simp(disch:=omega)only[go_sem]
  refine aW (λ_=>?_) (λ_=>?_)
  ·simp(disch:=omega)only[go_sem]
   exact⟨p,2,rfl,z,B,F⟩
  ·simp(disch:=omega)only[go_sem]
   exact⟨p,0,rfl,z,B,F⟩
theorem tB  {α:Type}[Inhabited α][O:aN α](h:H)(S N a b:Nat)(d:Array α)(cp:lI)(hN:N<1000000)(A:cE h S N d)(hb:b<=N)(b4:a<b):
  Ev T 173 [.sl S 0 N cp,aC a,aC b,.fn (aN.f α) [] []] h (λv h'=>v= .bool (partialInsertionSort aN.lt d a b).2/\cE h' S N (partialInsertionSort aN.lt d a b).1/\Fx (· =S) h h'):=by
 refine cV dV rfl ?_
 simp(disch:=omega)only[go_sem,dV,aD]
 rw[eJ a]
 refine aH (λk c t=> ∃(s i:Nat) (e:Array α),(∃g:Nat->V,c= [.sl S 0 N cp,aC a,aC b,.fn (aN.f α) [] [],g 4,aC i,aC (5-(s:Int)),g 7,g 8,g 9,g 10,g 11,g 12,g 13,g 14,g 15,g 16,g 17,g 18])/\s<=5/\a<i/\i<=b/\cE t S N e/\partialIns aN.lt a b s i e=partialInsertionSort aN.lt d a b/\Fx (· =S) h t/\k=s) 5
  ⟨5,a+1,d,aB rfl,om,om,om,A,rfl,Fx.refl _ h,rfl⟩ ?_
 clear A
 rintro k c Z ⟨s,i,e,⟨g,rfl⟩,hs,a9,b3,A,l,F,hk⟩
 subst hk
 by_cases Q:(5:Int)-(k:Int)<5
 case neg=>
  have n:=bH Q;obtain rfl:k=0:=om
  simp(disch:=omega)only[go_sem,n];have l:(e,false)=partialInsertionSort aN.lt d a b:=l;rw[←l];exact⟨rfl,A,F⟩
 have n:=bP Q
 obtain⟨s,rfl⟩: ∃s,k=s+1:=⟨k- 1,om⟩
 simp(disch:=omega)only[go_sem,n]
 rw[Lq] at l
 refine aH (λk c t=> ∃(m:Nat),(∃g:Nat->V,c= [.sl S 0 N cp,aC a,aC b,.fn (aN.f α) [] [],g 4,aC m,aC (5-((s+1:Nat):Int)),g 7,g 8,g 9,g 10,g 11,g 12,g 13,g 14,g 15,g 16,g 17,g 18])/\a<m/\m<=b/\cE t S N e/\scanSorted aN.lt e b m=scanSorted aN.lt e b i/\Fx (· =S) h t/\k=b-m) (b-i)
  ⟨i,aB rfl,a9,b3,A,rfl,F,rfl⟩ ?_
 clear A F Q n
 rintro k c y ⟨m,⟨g,rfl⟩,b9,b7,A,hS,F,rfl⟩
 have sz:=A.size
 have B:(m:Int)- 1=((m- 1:Nat):Int):=om
 have a3:(m:Int)+1=((m+1:Nat):Int):=om
 by_cases a4:(m:Int)<(b:Int)
 case neg=>
  have n:=bH a4;have em:m=b:=om
  rw[Nn om] at hS;rw[←hS,bF em] at l;have e2:decide ((m:Int)=(b:Int))=true:=bP om;simp(disch:=omega)only[go_sem,n,e2];rw[←l];exact⟨rfl,A.fr ((Fr.refl y).bA om),dC F (Fx.of ((Fr.refl y).bA om))⟩
 have n:=bP a4
 have r:=A.rd (i:=m) om
 have o:=A.rd (i:=m- 1) om
 simp(disch:=omega)only[go_sem,n,B,r,o]
 refine (dG A (i:=m) (j:=m- 1) om om _ om).mono ?_
 rintro _ h3 ⟨z,rfl,w,a2⟩
 have K:Fr y h3:=Fr.trans ((Fr.refl y).bA om) a2
 have L:=A.fr K
 have F3:=dC F (Fx.of K)
 cases hl:aN.lt e[m]! e[m- 1]! with
 |false=>
  rw[EH om hl] at hS;simp(disch:=omega)only[go_sem,w,hl,a3];exact⟨b-(m+1),om,m+1,aB rfl,om,om,L,hS,F3,rfl⟩
 |true=>
  rw[Nn (by rw[hl];simp)] at hS;rw[←hS,bI om] at l;have e2:decide ((m:Int)=(b:Int))=false:=bH om
  by_cases a6:(b:Int)-(a:Int)<50
  ·have J:=bP a6
   rw[bF om] at l;simp(disch:=omega)only[go_sem,w,hl,e2,J];rw[←l];exact⟨rfl,L,F3⟩
  have J:=bH a6;rw[bI om] at l;have r:=L.rd (i:=m) om;have o:=L.rd (i:=m- 1) om;simp(disch:=omega)only[go_sem,w,hl,e2,J,B,r,o,L.get,bB,aY];have W:=L.swap (i:=m) (j:=m- 1) (nx:=h3.next+18) om rfl
  obtain⟨h4,a5⟩: ∃h4,h4=((H.mk h3.tr (h3.next+18)).set S (aZ (flat (e.setIfInBounds m e[m- 1]!).toList))).set S (aZ (flat ((e.setIfInBounds m e[m- 1]!).setIfInBounds (m- 1) e[m]!).toList)):=⟨_,rfl⟩
  rw[←a5] at W ⊢;obtain⟨A4,F4⟩:=W;have R:=dC F3 F4;clear a5 F4 L F3 K a2 r o;obtain⟨e4,a7⟩:=exI (swp e m (m- 1));rw[a7] at A4 l;refine jT (λvs U=> ∃e5,(∃g:Nat->V,vs= [.sl S 0 N cp,aC a,aC b,.fn (aN.f α) [] [],g 4,aC m,aC (5-((s+1:Nat):Int)),g 7,g 8,g 9,g 10,g 11,g 12,g 13,g 14,g 15,g 16,g 17,g 18])/\cE U S N e5/\e5=(if m-a≥2 then shiftDown aN.lt (m- 1) e4 else e4)/\Fx (· =S) h U) ?_ ?_
  ·refine aW (λy=>?_) (λy=>?_)
   ·simp(disch:=omega)only[go_sem,B]
    refine aH (λk c t=> ∃(j:Nat) (x:Array α),(∃g:Nat->V,c= [.sl S 0 N cp,aC a,aC b,.fn (aN.f α) [] [],g 4,aC m,aC (5-((s+1:Nat):Int)),aC j,g 8,g 9,g 10,g 11,g 12,g 13,g 14,g 15,g 16,g 17,g 18])/\j<b/\cE t S N x/\shiftDown aN.lt j x=shiftDown aN.lt (m- 1) e4/\Fx (· =S) h t/\k=j) (m- 1)
     ⟨m- 1,e4,aB rfl,om,A4,rfl,R,rfl⟩ ?_
    rintro k c U ⟨j,x,⟨g,rfl⟩,hj,u,G,F5,hk⟩;subst hk;have b8:=u.size
    by_cases Z:(1:Int)<=(k:Int)
    ·have n:=bP Z
     obtain⟨q,rfl⟩: ∃q,k=q+1:=⟨k- 1,om⟩
     have a1:((q+1:Nat):Int)- 1=(q:Int):=om
     have r:=u.rd (i:=q+1) om;have o:=u.rd (i:=q) om;simp(disch:=omega)only[go_sem,n,a1,r,o];refine (dG u (i:=q+1) (j:=q) om om _ om).mono ?_;rintro _ h6 ⟨z,rfl,w,b0⟩;have f6:Fr U h6:=Fr.trans ((Fr.refl U).bA om) b0;have p:=u.fr f6;have F6:=dC F5 (Fx.of f6)
     cases hl:aN.lt x[q+1]! x[q]! with
     |false=>
      rw[EK hl] at G;simp(disch:=omega)only[go_sem,w,hl];exact .inl ⟨x,aB rfl,p,by rw[bF om,←G],F6⟩
     |true=>
      rw[GU hl] at G;have r:=p.rd (i:=q+1) om;have o:=p.rd (i:=q) om;simp(disch:=omega)only[go_sem,w,hl,a1,r,o,p.get,bB,aY];have W:=p.swap (i:=q+1) (j:=q) (nx:=h6.next+18) om rfl;exact⟨q,om,q,_,aB rfl,om,W.1,G,dC F6 W.2,rfl⟩
    ·have n:=bH Z
     obtain rfl:k=0:=om
     simp(disch:=omega)only[go_sem,n];have G:x=shiftDown aN.lt (m- 1) e4:=G;exact .inl ⟨x,aB rfl,u,by rw[bF om,←G],F5⟩
   ·simp(disch:=omega)only[go_sem]
    exact .inl ⟨e4,aB rfl,A4,by rw[bI om],R⟩
  ·rintro c U ⟨e5,⟨g,rfl⟩,u,a0,F5⟩
   rw[←a0] at l;clear A4 R a0 a7;simp(disch:=omega)only[go_sem];have P:(5:Int)-((s+1:Nat):Int)+1=5-(s:Int):=om
   refine aW (λy=>?_) (λy=>?_)
   ·rw[bF om] at l
    simp(disch:=omega)only[go_sem,a3];refine aH (λk c t=> ∃(j:Nat) (x:Array α),(∃g:Nat->V,c= [.sl S 0 N cp,aC a,aC b,.fn (aN.f α) [] [],g 4,aC m,aC (5-((s+1:Nat):Int)),g 7,aC j,g 9,g 10,g 11,g 12,g 13,g 14,g 15,g 16,g 17,g 18])/\0<j/\j<=b/\cE t S N x/\shiftUp aN.lt b j x=shiftUp aN.lt b (m+1) e5/\Fx (· =S) h t/\k=b-j) (b-(m+1))
     ⟨m+1,e5,aB rfl,om,om,u,rfl,F5,rfl⟩ ?_
    rintro k c h6 ⟨j,x,⟨g,rfl⟩,b6,hj,p,Y,F6,rfl⟩;have b5:=p.size
    by_cases Z:(j:Int)<(b:Int)
    ·have n:=bP Z
     have a8:(j:Int)- 1=((j- 1:Nat):Int):=om
     have b2:(j:Int)+1=((j+1:Nat):Int):=om
     have r:=p.rd (i:=j) om;have o:=p.rd (i:=j- 1) om;simp(disch:=omega)only[go_sem,n,a8,r,o];refine (dG p (i:=j) (j:=j- 1) om om _ om).mono ?_;rintro _ h7 ⟨z,rfl,w,b1⟩;have f7:Fr h6 h7:=Fr.trans ((Fr.refl h6).bA om) b1;have A7:=p.fr f7;have F7:=dC F6 (Fx.of f7)
     cases hl:aN.lt x[j]! x[j- 1]! with
     |false=>
      rw[FZ om hl] at Y;rw[←Y] at l;simp(disch:=omega)only[go_sem,w,hl,P];exact⟨s,om,s,m,x,aB rfl,om,om,om,A7,l,F7,rfl⟩
     |true=>
      rw[EY om hl] at Y;have r:=A7.rd (i:=j) om;have o:=A7.rd (i:=j- 1) om;simp(disch:=omega)only[go_sem,w,hl,a8,b2,r,o,A7.get,bB,aY];have W:=A7.swap (i:=j) (j:=j- 1) (nx:=h7.next+18) om rfl;exact⟨b-(j+1),om,j+1,_,aB rfl,om,om,W.1,Y,dC F7 W.2,rfl⟩
    ·have n:=bH Z
     rw[shiftUp,bI om] at Y;rw[←Y] at l;simp(disch:=omega)only[go_sem,n,P];exact⟨s,om,s,m,x,aB rfl,om,om,om,p,l,F6,rfl⟩
   ·rw[bI om] at l
    simp(disch:=omega)only[go_sem,P];exact⟨s,om,s,m,e5,aB rfl,om,om,om,u,l,F5,rfl⟩
theorem pG  {α:Type}[Inhabited α][O:aN α](h:H)(S N a b pv:Nat)(d:Array α)(cp:lI)(hN:N<1000000)(A:cE h S N d)(hb:b<=N)(c0:a<=pv)(c4:pv<b):
  Ev T 175 [.sl S 0 N cp,aC a,aC b,aC pv,.fn (aN.f α) [] []] h (λv h'=>v= .tup [aC ((partition aN.lt d a b pv).1:Nat),.bool (partition aN.lt d a b pv).2.1]/\cE h' S N (partition aN.lt d a b pv).2.2/\Fx (· =S) h h'):=by
 refine cV gG rfl ?_
 have sz:=A.size
 have Q:=A.rd (i:=a) om
 have L:=A.rd (i:=pv) om
 simp(disch:=omega)only[go_sem,gG,aD,Q,L,A.get,bB,aY]
 have W:=A.swap (i:=a) (j:=pv) (nx:=h.next+16) om rfl
 obtain⟨h1,b0⟩: ∃h1,h1=((H.mk h.tr (h.next+16)).set S (aZ (flat (d.setIfInBounds a d[pv]!).toList))).set S (aZ (flat ((d.setIfInBounds a d[pv]!).setIfInBounds pv d[a]!).toList)):=⟨_,rfl⟩
 rw[←b0] at W ⊢
 obtain⟨A1,F1⟩:=W
 obtain⟨e,he⟩:=exI (swp d a pv)
 rw[he] at A1
 clear b0 Q L A
 have eb:(b:Int)- 1=((b- 1:Nat):Int):=om
 have ea:(a:Int)+1=((a+1:Nat):Int):=om
 have hP:partition aN.lt d a b pv=if scanUp (λx=>aN.lt x e[a]!) e (b- 1) (a+1)>scanDown (λx=>!aN.lt x e[a]!) e (scanUp (λx=>aN.lt x e[a]!) e (b- 1) (a+1)) (b- 1) then
   (scanDown (λx=>!aN.lt x e[a]!) e (scanUp (λx=>aN.lt x e[a]!) e (b- 1) (a+1)) (b- 1),true,swp e (scanDown (λx=>!aN.lt x e[a]!) e (scanUp (λx=>aN.lt x e[a]!) e (b- 1) (a+1)) (b- 1)) a) else
   ((partLoop aN.lt a (scanUp (λx=>aN.lt x e[a]!) e (b- 1) (a+1)+1) (scanDown (λx=>!aN.lt x e[a]!) e (scanUp (λx=>aN.lt x e[a]!) e (b- 1) (a+1)) (b- 1)- 1) (swp e (scanUp (λx=>aN.lt x e[a]!) e (b- 1) (a+1)) (scanDown (λx=>!aN.lt x e[a]!) e (scanUp (λx=>aN.lt x e[a]!) e (b- 1) (a+1)) (b- 1)))).1,false,
    swp (partLoop aN.lt a (scanUp (λx=>aN.lt x e[a]!) e (b- 1) (a+1)+1) (scanDown (λx=>!aN.lt x e[a]!) e (scanUp (λx=>aN.lt x e[a]!) e (b- 1) (a+1)) (b- 1)- 1) (swp e (scanUp (λx=>aN.lt x e[a]!) e (b- 1) (a+1)) (scanDown (λx=>!aN.lt x e[a]!) e (scanUp (λx=>aN.lt x e[a]!) e (b- 1) (a+1)) (b- 1)))).2 (partLoop aN.lt a (scanUp (λx=>aN.lt x e[a]!) e (b- 1) (a+1)+1) (scanDown (λx=>!aN.lt x e[a]!) e (scanUp (λx=>aN.lt x e[a]!) e (b- 1) (a+1)) (b- 1)- 1) (swp e (scanUp (λx=>aN.lt x e[a]!) e (b- 1) (a+1)) (scanDown (λx=>!aN.lt x e[a]!) e (scanUp (λx=>aN.lt x e[a]!) e (b- 1) (a+1)) (b- 1)))).1 a):=by
  rw[←he];rfl
 obtain⟨R,b2⟩:=exI (partition aN.lt d a b pv)
 rw[b2] at hP
 rw[b2]
 simp(disch:=omega)only[go_sem,ea,eb]
 refine bJ (λP c=>(∃g:Nat->V,P= [.sl S 0 N cp,aC a,aC b,aC pv,.fn (aN.f α) [] [],g 5,g 6,aC (scanUp (λx=>aN.lt x e[a]!) e (b- 1) (a+1):Nat),aC ((b- 1):Nat),g 9,g 10,g 11,g 12,g 13,g 14])/\cE c S N e/\Fx (· =S) h c) ?_ ?_
 ·refine aH (λJ P c=> ∃(k:Nat),(∃g:Nat->V,P= [.sl S 0 N cp,aC a,aC b,aC pv,.fn (aN.f α) [] [],g 5,g 6,aC (k:Nat),aC ((b- 1):Nat),g 9,g 10,g 11,g 12,g 13,g 14])/\(a+1)<=k/\k<=N+2/\cE c S N e/\scanUp (λx=>aN.lt x e[a]!) e (b- 1) k=scanUp (λx=>aN.lt x e[a]!) e (b- 1) (a+1)/\Fx (· =S) h c/\J=(b- 1)+1-k) ((b- 1)+1-(a+1))
   ⟨(a+1),aB rfl,om,om,A1,rfl,F1,rfl⟩ ?_
  rintro J n K ⟨k,⟨g,rfl⟩,a8,b6,o,p,Fs,rfl⟩
  by_cases l:(k:Int)<=(((b- 1):Nat):Int)
  ·have s:decide ((k:Int)<=(((b- 1):Nat):Int))=true:=bP l
   have eK:(k:Int)+1=((k+1:Nat):Int):=om
   have a7:=o.size
   have Q:=o.rd (i:=k) om
   have L:=o.rd (i:=a) om
   simp(disch:=omega)only[go_sem,s,Q,L]
   refine (dG o (i:=k) (j:=a) om om _ om).mono ?_
   rintro _ U ⟨z,rfl,Z,y⟩
   have t:Fr K U:=Fr.trans ((Fr.refl K).bA om) y
   have F:=o.fr t
   have B:=dC Fs (Fx.of t)
   cases hl:aN.lt e[k]! e[a]! with
   |false=>
    rw[lK (λc=>by have:=c.2;simp [hl] at this)] at p;simp(disch:=omega)only[go_sem,Z,hl];exact⟨by rw[←p];exact aB rfl,F,B⟩
   |true=>
    rw[yY om (by simp [hl])] at p;simp(disch:=omega)only[go_sem,Z,hl,eK];exact⟨(b- 1)+1-(k+1),om,k+1,aB rfl,om,om,F,p,B,rfl⟩
  ·have s:decide ((k:Int)<=(((b- 1):Nat):Int))=false:=bH l
   rw[lK (λc=>l (by have:=c.1;omega))] at p
   simp(disch:=omega)only[go_sem,s]
   exact⟨by rw[←p];exact aB rfl,o.fr ((Fr.refl K).bA om),dC Fs (Fx.of ((Fr.refl K).bA om))⟩
 ·rintro n h9 ⟨⟨g,rfl⟩,A9,F9⟩
  have a5:=scanUp_ge (λx=>aN.lt x e[a]!) e (b- 1) (a+1)
  have a2:=kW (λx=>aN.lt x e[a]!) e (b- 1) (a+1)
  obtain⟨q,a1⟩: ∃x,scanUp (λx=>aN.lt x e[a]!) e (b- 1) (a+1)=x:=⟨_,rfl⟩
  rw[a1] at a5 a2
  rw[a1]
  simp(disch:=omega)only[go_sem]
  refine bJ (λP c=>(∃g:Nat->V,P= [.sl S 0 N cp,aC a,aC b,aC pv,.fn (aN.f α) [] [],g 5,g 6,aC (q:Nat),aC (scanDown (λx=>!aN.lt x e[a]!) e q (b- 1):Nat),g 9,g 10,g 11,g 12,g 13,g 14])/\cE c S N e/\Fx (· =S) h c) ?_ ?_
  ·refine aH (λJ P c=> ∃(k:Nat),(∃g:Nat->V,P= [.sl S 0 N cp,aC a,aC b,aC pv,.fn (aN.f α) [] [],g 5,g 6,aC (q:Nat),aC (k:Nat),g 9,g 10,g 11,g 12,g 13,g 14])/\k<=(b- 1)/\cE c S N e/\scanDown (λx=>!aN.lt x e[a]!) e q k=scanDown (λx=>!aN.lt x e[a]!) e q (b- 1)/\Fx (· =S) h c/\J=k) (b- 1)
    ⟨(b- 1),aB rfl,om,A9,rfl,F9,rfl⟩ ?_
   rintro J n K ⟨k,⟨g,rfl⟩,a8,o,p,Fs,a3⟩
   subst a3
   by_cases l:((q:Nat):Int)<=(J:Int)
   ·have s:=bP l
    obtain⟨k,rfl⟩: ∃k,J=k+1:=⟨J- 1,om⟩
    have eK:((k+1:Nat):Int)- 1=(k:Int):=om
    have a7:=o.size
    have Q:=o.rd (i:=k+1) om
    have L:=o.rd (i:=a) om
    simp(disch:=omega)only[go_sem,s,Q,L]
    refine (dG o (i:=k+1) (j:=a) om om _ om).mono ?_
    rintro _ U ⟨z,rfl,Z,y⟩
    have t:Fr K U:=Fr.trans ((Fr.refl K).bA om) y
    have F:=o.fr t
    have B:=dC Fs (Fx.of t)
    cases hl:aN.lt e[k+1]! e[a]! with
    |true=>
     rw[oP (λc=>by have:=c.2;simp [hl] at this)] at p;simp(disch:=omega)only[go_sem,Z,hl];exact⟨by rw[←p];exact aB rfl,F,B⟩
    |false=>
     rw[Dc om (by simp [hl])] at p;simp(disch:=omega)only[go_sem,Z,hl,eK];exact⟨k,om,k,aB rfl,om,F,p,B,rfl⟩
   ·have s:=bH l
    rw[oP (λc=>l (by have:=c.1;omega))] at p
    simp(disch:=omega)only[go_sem,s]
    exact⟨by rw[←p];exact aB rfl,o.fr ((Fr.refl K).bA om),dC Fs (Fx.of ((Fr.refl K).bA om))⟩
  ·rintro n h2 ⟨⟨g,rfl⟩,A2,F2⟩
   have a4:=scanDown_le (λx=>!aN.lt x e[a]!) e q (b- 1)
   obtain⟨G,a6⟩: ∃x,scanDown (λx=>!aN.lt x e[a]!) e q (b- 1)=x:=⟨_,rfl⟩
   rw[a6] at a4
   rw[a6]
   rw[a1,a6] at hP
   have b7:=A2.size
   by_cases Y:(G:Int)<(q:Int)
   ·have s:=bP Y
    rw[bF om] at hP
    have Q:=A2.rd (i:=G) om
    have L:=A2.rd (i:=a) om
    simp(disch:=omega)only[go_sem,s,Q,L,A2.get,bB,aY]
    have W:=A2.swap (i:=G) (j:=a) (nx:=h2.next+16) om rfl
    rw[hP]
    exact⟨rfl,W.1,dC F2 W.2⟩
   have s:=bH Y
   rw[bI om] at hP
   have Q:=A2.rd (i:=q) om
   have L:=A2.rd (i:=G) om
   simp(disch:=omega)only[go_sem,s,Q,L,A2.get,bB,aY]
   have W:=A2.swap (i:=q) (j:=G) (nx:=h2.next+16) om rfl
   obtain⟨h3,b3⟩: ∃h3,h3=((H.mk h2.tr (h2.next+16)).set S (aZ (flat (e.setIfInBounds q e[G]!).toList))).set S (aZ (flat ((e.setIfInBounds q e[G]!).setIfInBounds G e[q]!).toList)):=⟨_,rfl⟩
   rw[←b3] at W ⊢
   obtain⟨A3,b4⟩:=W
   have F3:=dC F2 b4
   have a9:q<=G:=om
   obtain⟨e0,b1⟩:=exI (swp e q G)
   rw[b1] at A3 hP
   clear b3 Q L A2 A9 F9 A1 F1 he Y s
   have ei:(q:Int)+1=((q+1:Nat):Int):=om
   have ej:(G:Int)- 1=((G- 1:Nat):Int):=om
   simp(disch:=omega)only[go_sem,ei,ej]
   refine bJ (λP c=>(∃g:Nat->V,P= [.sl S 0 N cp,aC a,aC b,aC pv,.fn (aN.f α) [] [],g 5,g 6,g 7,aC (((partLoop aN.lt a (q+1) (G- 1) e0).1:Nat):Int),g 9,g 10,g 11,g 12,g 13,g 14])/\cE c S N (partLoop aN.lt a (q+1) (G- 1) e0).2/\(partLoop aN.lt a (q+1) (G- 1) e0).1<b/\Fx (· =S) h c) ?_ ?_
   ·refine aH (λJ P c=> ∃(i j:Nat) (e:Array α),(∃g:Nat->V,P= [.sl S 0 N cp,aC a,aC b,aC pv,.fn (aN.f α) [] [],g 5,g 6,aC i,aC j,g 9,g 10,g 11,g 12,g 13,g 14])/\a<i/\i<=b+1/\j<b/\cE c S N e/\partLoop aN.lt a i j e=partLoop aN.lt a (q+1) (G- 1) e0/\Fx (· =S) h c/\J=j) (G- 1)
     ⟨q+1,G- 1,e0,aB rfl,om,om,om,A3,rfl,F3,rfl⟩ ?_
    obtain⟨R2,b5⟩:=exI (partLoop aN.lt a (q+1) (G- 1) e0)
    rw[b5]
    clear hP b5 a1 a6 b1 ei ej a4 a5 a2 F3 b4 A3 b7 h3 a9
    clear q G
    rintro J n h3 ⟨i,j,e,⟨g,rfl⟩,b8,a1,hj,A3,hL,F3,a3⟩
    rw[partLoop_eq] at hL
    simp(disch:=omega)only[go_sem]
    refine bJ (λP c=>(∃g:Nat->V,P= [.sl S 0 N cp,aC a,aC b,aC pv,.fn (aN.f α) [] [],g 5,g 6,aC (scanUp (λx=>aN.lt x e[a]!) e j i:Nat),aC (j:Nat),g 9,g 10,g 11,g 12,g 13,g 14])/\cE c S N e/\Fx (· =S) h c) ?_ ?_
    ·refine aH (λJ P c=> ∃(k:Nat),(∃g:Nat->V,P= [.sl S 0 N cp,aC a,aC b,aC pv,.fn (aN.f α) [] [],g 5,g 6,aC (k:Nat),aC (j:Nat),g 9,g 10,g 11,g 12,g 13,g 14])/\i<=k/\k<=N+2/\cE c S N e/\scanUp (λx=>aN.lt x e[a]!) e j k=scanUp (λx=>aN.lt x e[a]!) e j i/\Fx (· =S) h c/\J=j+1-k) (j+1-i)
      ⟨i,aB rfl,om,om,A3,rfl,F3,rfl⟩ ?_
     rintro J n K ⟨k,⟨g,rfl⟩,a8,b6,o,p,Fs,rfl⟩
     by_cases l:(k:Int)<=((j:Nat):Int)
     ·have s:=bP l
      have eK:(k:Int)+1=((k+1:Nat):Int):=om
      have a7:=o.size
      have Q:=o.rd (i:=k) om
      have L:=o.rd (i:=a) om
      simp(disch:=omega)only[go_sem,s,Q,L]
      refine (dG o (i:=k) (j:=a) om om _ om).mono ?_
      rintro _ U ⟨z,rfl,Z,y⟩
      have t:Fr K U:=Fr.trans ((Fr.refl K).bA om) y
      have F:=o.fr t
      have B:=dC Fs (Fx.of t)
      cases hl:aN.lt e[k]! e[a]! with
      |false=>
       rw[lK (λc=>by have:=c.2;simp [hl] at this)] at p;simp(disch:=omega)only[go_sem,Z,hl];exact⟨by rw[←p];exact aB rfl,F,B⟩
      |true=>
       rw[yY om (by simp [hl])] at p;simp(disch:=omega)only[go_sem,Z,hl,eK];exact⟨j+1-(k+1),om,k+1,aB rfl,om,om,F,p,B,rfl⟩
     ·have s:=bH l
      rw[lK (λc=>l (by have:=c.1;omega))] at p
      simp(disch:=omega)only[go_sem,s]
      exact⟨by rw[←p];exact aB rfl,o.fr ((Fr.refl K).bA om),dC Fs (Fx.of ((Fr.refl K).bA om))⟩
    ·rintro n h9 ⟨⟨g,rfl⟩,A9,F9⟩
     have a5:=scanUp_ge (λx=>aN.lt x e[a]!) e j i
     have a2:=kW (λx=>aN.lt x e[a]!) e j i
     obtain⟨u,hu⟩: ∃x,scanUp (λx=>aN.lt x e[a]!) e j i=x:=⟨_,rfl⟩
     rw[hu] at a5 a2
     rw[hu]
     simp(disch:=omega)only[go_sem]
     refine bJ (λP c=>(∃g:Nat->V,P= [.sl S 0 N cp,aC a,aC b,aC pv,.fn (aN.f α) [] [],g 5,g 6,aC (u:Nat),aC (scanDown (λx=>!aN.lt x e[a]!) e u j:Nat),g 9,g 10,g 11,g 12,g 13,g 14])/\cE c S N e/\Fx (· =S) h c) ?_ ?_
     ·refine aH (λJ P c=> ∃(k:Nat),(∃g:Nat->V,P= [.sl S 0 N cp,aC a,aC b,aC pv,.fn (aN.f α) [] [],g 5,g 6,aC (u:Nat),aC (k:Nat),g 9,g 10,g 11,g 12,g 13,g 14])/\k<=j/\cE c S N e/\scanDown (λx=>!aN.lt x e[a]!) e u k=scanDown (λx=>!aN.lt x e[a]!) e u j/\Fx (· =S) h c/\J=k) j
       ⟨j,aB rfl,om,A9,rfl,F9,rfl⟩ ?_
      rintro J n K ⟨k,⟨g,rfl⟩,a8,o,p,Fs,a3⟩
      subst a3
      by_cases l:((u:Nat):Int)<=(J:Int)
      ·have s:=bP l
       obtain⟨k,rfl⟩: ∃k,J=k+1:=⟨J- 1,om⟩
       have eK:((k+1:Nat):Int)- 1=(k:Int):=om
       have a7:=o.size
       have Q:=o.rd (i:=k+1) om
       have L:=o.rd (i:=a) om
       simp(disch:=omega)only[go_sem,s,Q,L]
       refine (dG o (i:=k+1) (j:=a) om om _ om).mono ?_
       rintro _ U ⟨z,rfl,Z,y⟩
       have t:Fr K U:=Fr.trans ((Fr.refl K).bA om) y
       have F:=o.fr t
       have B:=dC Fs (Fx.of t)
       cases hl:aN.lt e[k+1]! e[a]! with
       |true=>
        rw[oP (λc=>by have:=c.2;simp [hl] at this)] at p;simp(disch:=omega)only[go_sem,Z,hl];exact⟨by rw[←p];exact aB rfl,F,B⟩
       |false=>
        rw[Dc om (by simp [hl])] at p;simp(disch:=omega)only[go_sem,Z,hl,eK];exact⟨k,om,k,aB rfl,om,F,p,B,rfl⟩
      ·have s:=bH l
       rw[oP (λc=>l (by have:=c.1;omega))] at p
       simp(disch:=omega)only[go_sem,s]
       exact⟨by rw[←p];exact aB rfl,o.fr ((Fr.refl K).bA om),dC Fs (Fx.of ((Fr.refl K).bA om))⟩
     ·rintro n h4 ⟨⟨g,rfl⟩,A4,F4⟩
      have a4:=scanDown_le (λx=>!aN.lt x e[a]!) e u j
      obtain⟨w,hw⟩: ∃x,scanDown (λx=>!aN.lt x e[a]!) e u j=x:=⟨_,rfl⟩
      rw[hw] at a4
      rw[hw]
      rw[hu,hw] at hL
      have c3:=A4.size
      by_cases Y:(w:Int)<(u:Int)
      ·have s:=bP Y
       rw[bF om] at hL
       simp(disch:=omega)only[go_sem,s]
       rw[←hL]
       exact⟨aB rfl,A4,om,F4⟩
      have s:=bH Y
      rw[bI om] at hL
      have Q:=A4.rd (i:=u) om
      have L:=A4.rd (i:=w) om
      have ei:(u:Int)+1=((u+1:Nat):Int):=om
      have ej:(w:Int)- 1=((w- 1:Nat):Int):=om
      simp(disch:=omega)only[go_sem,s,Q,L,A4.get,bB,aY,ei,ej]
      have W:=A4.swap (i:=u) (j:=w) (nx:=h4.next+16) om rfl
      exact⟨w- 1,om,u+1,w- 1,_,aB rfl,om,om,om,W.1,hL,dC F4 W.2,rfl⟩
   ·rintro n h5 ⟨⟨g,rfl⟩,A5,a0,F5⟩
    generalize partLoop aN.lt a (q+1) (G- 1) e0=r at hP A5 a0
    obtain⟨m,e5⟩:=r
    have a0:m<b:=a0
    have A5:cE h5 S N e5:=A5
    have b9:=A5.size
    have Q:=A5.rd (i:=m) om
    have L:=A5.rd (i:=a) om
    simp(disch:=omega)only[go_sem,Q,L,A5.get,bB,aY]
    have W:=A5.swap (i:=m) (j:=a) (nx:=h5.next+16) om rfl
    rw[hP]
    exact⟨rfl,W.1,dC F5 W.2⟩
theorem xB  {α:Type}[Inhabited α][O:aN α](h:H)(S N a b pv:Nat)(d:Array α)(L:lI)(hN:N<1000000)(A:cE h S N d)(hb:b<=N)(a9:a<=pv)(b1:pv<b):
  Ev T 174 [.sl S 0 N L,aC a,aC b,aC pv,.fn (aN.f α) [] []] h (λv h'=>v= aC ((partitionEqual aN.lt d a b pv).1:Nat)/\cE h' S N (partitionEqual aN.lt d a b pv).2/\Fx (· =S) h h'):=by
 refine cV fE rfl ?_
 have sz:=A.size
 have J:=A.rd (i:=a) om
 have G:=A.rd (i:=pv) om
 simp(disch:=omega)only[go_sem,fE,aD,J,G,A.get,bB,aY]
 have W:=A.swap (i:=a) (j:=pv) (nx:=h.next+16) om rfl
 obtain⟨h1,R⟩: ∃h1,h1=((H.mk h.tr (h.next+16)).set S (aZ (flat (d.setIfInBounds a d[pv]!).toList))).set S (aZ (flat ((d.setIfInBounds a d[pv]!).setIfInBounds pv d[a]!).toList)):=⟨_,rfl⟩
 rw[←R] at W ⊢
 obtain⟨A1,F1⟩:=W
 have eb:(b:Int)- 1=((b- 1:Nat):Int):=om
 have ea:(a:Int)+1=((a+1:Nat):Int):=om
 unfold partitionEqual
 obtain⟨P,he⟩: ∃e,swp d a pv=e:=⟨_,rfl⟩
 rw[he] at A1 ⊢
 clear R J G A
 simp(disch:=omega)only[go_sem,ea,eb]
 refine bJ (λB c=>(∃g:Nat->V,B= [.sl S 0 N L,aC a,aC b,aC pv,.fn (aN.f α) [] [],g 5,aC (((partEqLoop aN.lt a (a+1) (b- 1) P).1:Nat):Int),g 7,g 8,g 9,g 10])/\cE c S N (partEqLoop aN.lt a (a+1) (b- 1) P).2/\Fx (· =S) h c) ?_ ?_
 ·refine aH (λs B c=> ∃(i j:Nat) (e:Array α),(∃g:Nat->V,B= [.sl S 0 N L,aC a,aC b,aC pv,.fn (aN.f α) [] [],g 5,aC i,aC j,g 8,g 9,g 10])/\a<i/\i<=b+1/\j<b/\cE c S N e/\partEqLoop aN.lt a i j e=partEqLoop aN.lt a (a+1) (b- 1) P/\Fx (· =S) h c/\s=j) (b- 1)
   ⟨a+1,b- 1,P,aB rfl,om,om,om,A1,rfl,F1,rfl⟩ ?_
  obtain⟨R2,a0⟩:=exI (partEqLoop aN.lt a (a+1) (b- 1) P)
  rw[a0]
  clear a0 F1 A1 h1 he P
  rintro s l h3 ⟨i,j,e,⟨g,rfl⟩,a6,a8,hj,A3,Q,F3,Y⟩
  rw[partEqLoop_eq] at Q
  simp(disch:=omega)only[go_sem]
  refine bJ (λB c=>(∃g:Nat->V,B= [.sl S 0 N L,aC a,aC b,aC pv,.fn (aN.f α) [] [],g 5,aC (scanUp (λx=>!aN.lt e[a]! x) e j i:Nat),aC (j:Nat),g 8,g 9,g 10])/\cE c S N e/\Fx (· =S) h c) ?_ ?_
  ·refine aH (λs B c=> ∃(k:Nat),(∃g:Nat->V,B= [.sl S 0 N L,aC a,aC b,aC pv,.fn (aN.f α) [] [],g 5,aC (k:Nat),aC (j:Nat),g 8,g 9,g 10])/\i<=k/\k<=N+2/\cE c S N e/\scanUp (λx=>!aN.lt e[a]! x) e j k=scanUp (λx=>!aN.lt e[a]! x) e j i/\Fx (· =S) h c/\s=j+1-k) (j+1-i)
    ⟨i,aB rfl,om,om,A3,rfl,F3,rfl⟩ ?_
   rintro s l F ⟨k,⟨g,rfl⟩,a5,a7,n,o,Fs,rfl⟩
   by_cases m:(k:Int)<=((j:Nat):Int)
   ·have y:=bP m
    have eK:(k:Int)+1=((k+1:Nat):Int):=om
    have a1:=n.size
    have J:=n.rd (i:=k) om
    have G:=n.rd (i:=a) om
    simp(disch:=omega)only[go_sem,y,J,G]
    refine (dG n (i:=a) (j:=k) om om _ om).mono ?_
    rintro _ K ⟨z,rfl,Z,q⟩
    have p:Fr F K:=Fr.trans ((Fr.refl F).bA om) q
    have t:=n.fr p
    have r:=dC Fs (Fx.of p)
    cases hl:aN.lt e[a]! e[k]! with
    |true=>
     rw[lK (λc=>by have:=c.2;simp [hl] at this)] at o;simp(disch:=omega)only[go_sem,Z,hl];exact⟨by rw[←o];exact aB rfl,t,r⟩
    |false=>
     rw[yY om (by simp [hl])] at o;simp(disch:=omega)only[go_sem,Z,hl,eK];exact⟨j+1-(k+1),om,k+1,aB rfl,om,om,t,o,r,rfl⟩
   ·have y:=bH m
    rw[lK (λc=>m (by have:=c.1;omega))] at o
    simp(disch:=omega)only[go_sem,y]
    exact⟨by rw[←o];exact aB rfl,n.fr ((Fr.refl F).bA om),dC Fs (Fx.of ((Fr.refl F).bA om))⟩
  ·rintro l h9 ⟨⟨g,rfl⟩,A9,F9⟩
   have a4:=scanUp_ge (λx=>!aN.lt e[a]! x) e j i
   have a2:=kW (λx=>!aN.lt e[a]! x) e j i
   obtain⟨u,hu⟩: ∃x,scanUp (λx=>!aN.lt e[a]! x) e j i=x:=⟨_,rfl⟩
   rw[hu] at a4 a2
   rw[hu]
   simp(disch:=omega)only[go_sem]
   refine bJ (λB c=>(∃g:Nat->V,B= [.sl S 0 N L,aC a,aC b,aC pv,.fn (aN.f α) [] [],g 5,aC (u:Nat),aC (scanDown (λx=>aN.lt e[a]! x) e u j:Nat),g 8,g 9,g 10])/\cE c S N e/\Fx (· =S) h c) ?_ ?_
   ·refine aH (λs B c=> ∃(k:Nat),(∃g:Nat->V,B= [.sl S 0 N L,aC a,aC b,aC pv,.fn (aN.f α) [] [],g 5,aC (u:Nat),aC (k:Nat),g 8,g 9,g 10])/\k<=j/\cE c S N e/\scanDown (λx=>aN.lt e[a]! x) e u k=scanDown (λx=>aN.lt e[a]! x) e u j/\Fx (· =S) h c/\s=k) j
     ⟨j,aB rfl,om,A9,rfl,F9,rfl⟩ ?_
    rintro s l F ⟨k,⟨g,rfl⟩,a5,n,o,Fs,Y⟩
    subst Y
    by_cases m:((u:Nat):Int)<=(s:Int)
    ·have y:=bP m
     obtain⟨k,rfl⟩: ∃k,s=k+1:=⟨s- 1,om⟩
     have eK:((k+1:Nat):Int)- 1=(k:Int):=om
     have a1:=n.size
     have J:=n.rd (i:=k+1) om
     have G:=n.rd (i:=a) om
     simp(disch:=omega)only[go_sem,y,J,G]
     refine (dG n (i:=a) (j:=k+1) om om _ om).mono ?_
     rintro _ K ⟨z,rfl,Z,q⟩
     have p:Fr F K:=Fr.trans ((Fr.refl F).bA om) q
     have t:=n.fr p
     have r:=dC Fs (Fx.of p)
     cases hl:aN.lt e[a]! e[k+1]! with
     |false=>
      rw[oP (λc=>by have:=c.2;simp [hl] at this)] at o;simp(disch:=omega)only[go_sem,Z,hl];exact⟨by rw[←o];exact aB rfl,t,r⟩
     |true=>
      rw[Dc om (by simp [hl])] at o;simp(disch:=omega)only[go_sem,Z,hl,eK];exact⟨k,om,k,aB rfl,om,t,o,r,rfl⟩
    ·have y:=bH m
     rw[oP (λc=>m (by have:=c.1;omega))] at o
     simp(disch:=omega)only[go_sem,y]
     exact⟨by rw[←o];exact aB rfl,n.fr ((Fr.refl F).bA om),dC Fs (Fx.of ((Fr.refl F).bA om))⟩
   ·rintro l h4 ⟨⟨g,rfl⟩,A4,F4⟩
    have a3:=scanDown_le (λx=>aN.lt e[a]! x) e u j
    obtain⟨w,hw⟩: ∃x,scanDown (λx=>aN.lt e[a]! x) e u j=x:=⟨_,rfl⟩
    rw[hw] at a3
    rw[hw]
    rw[hu,hw] at Q
    have b0:=A4.size
    by_cases U:(w:Int)<(u:Int)
    ·have y:=bP U
     rw[bF om] at Q
     simp(disch:=omega)only[go_sem,y]
     rw[←Q]
     exact⟨aB rfl,A4,F4⟩
    have y:=bH U
    rw[bI om] at Q
    have J:=A4.rd (i:=u) om
    have G:=A4.rd (i:=w) om
    have ei:(u:Int)+1=((u+1:Nat):Int):=om
    have ej:(w:Int)- 1=((w- 1:Nat):Int):=om
    simp(disch:=omega)only[go_sem,y,J,G,A4.get,bB,aY,ei,ej]
    have W:=A4.swap (i:=u) (j:=w) (nx:=h4.next+16) om rfl
    exact⟨w- 1,om,u+1,w- 1,_,aB rfl,om,om,om,W.1,Q,dC F4 W.2,rfl⟩
 ·rintro l h5 ⟨⟨g,rfl⟩,A5,F5⟩
  simp(disch:=omega)only[go_sem]
  exact⟨A5,F5⟩
def My  {α:Type}[Inhabited α][O:aN α](n:Nat):Prop:= ∀(h:H) (S N a b:Nat) (lim:Int) (d:Array α) (cp:lI),N<60000->cE h S N d->a<=b->b<=N->b-a<=n->0<=lim->lim<1000000->Below aN.lt a b d->
 Ev T 127 [.sl S 0 N cp,aC a,aC b,aC lim,.fn (aN.f α) [] []] h (λ_ h'=> ∃e,cE h' S N e/\PermIn a b d e/\SortedIn aN.lt a b e/\Fx (· =S) h h')
theorem Pg  {α:Type}[Inhabited α][O:aN α](n:Nat)(ih: ∀m,m<n->My (α:=α) m):My (α:=α) n:=by
 intro h S N a b a6 d s hN A a7 a5 hn u w hB;refine cV iB rfl ?_;simp(disch:=omega)only[go_sem,iB,aD]
 refine aH (λk' y Y=> ∃(c l:Nat) (l':Int) (W wp:Bool) (e:Array α),(∃g:Nat->V,y= [.sl S 0 N s,aC (c:Int),aC (l:Int),aC l',.fn (aN.f α) [] [],.bool W,.bool wp,g 7,g 8,g 9,g 10,g 11,g 12,g 13,g 14,g 15,g 16,g 17,g 18,g 19,g 20,g 21,g 22,g 23])/\c<=l/\l<=N/\a<=c/\l<=b/\0<=l'/\l'<1000000/\Below aN.lt c l e/\cE Y S N e/\Fx (· =S) h Y/\
   (∀R,PermIn c l e R->SortedIn aN.lt c l R->PermIn a b d R/\SortedIn aN.lt a b R)/\k'=l-c) (b-a)
  ⟨a,b,a6,true,true,d,aB rfl,a7,a5,fM _,fM _,u,w,hB,A,Fx.refl _ h,λR h1 h2=>⟨h1,h2⟩,rfl⟩ ?_
 clear A hB u w;rintro k' y h1 ⟨c,l,l',W,wp,e,⟨g,rfl⟩,B,o,a8,a4,u,w,hB,A,F,K,rfl⟩;obtain⟨m,hm⟩:=exI (l-c);have em:(l:Int)-(c:Int)=(m:Int):=om
 have ez: ∀{x:Array α} {hx:H},cE hx S N x->l<=x.size:=λA=>by rw[A.size];exact o
 by_cases a3:(m:Int)<=12
 ·have e1:=bP a3
  simp(disch:=omega)only[go_sem,em,e1];refine (oW h1 S N c l e s om A o B).mono ?_;rintro _ h2 ⟨A2,F2⟩;obtain⟨p1,p2⟩:=insertionSort_holds (aN.swo (α:=α)) e c l B (ez A);obtain⟨q1,q2⟩:=K _ p1 p2;simp(disch:=omega)only[go_sem];exact⟨_,A2,q1,q2,dC F F2⟩
 have e1:=bH a3
 by_cases hl:l'=0
 ·have J:=bP hl
  simp(disch:=omega)only[go_sem,em,e1,J];refine (qZ h1 S N c l e s om A o B).mono ?_;rintro _ h2 ⟨A2,F2⟩;obtain⟨p1,p2⟩:=heapSort_holds (aN.swo (α:=α)) e c l B (ez A);obtain⟨q1,q2⟩:=K _ p1 p2;simp(disch:=omega)only[go_sem];exact⟨_,A2,q1,q2,dC F F2⟩
 have J:=bH hl;simp(disch:=omega)only[go_sem,em,e1,J];refine jT (λZ Y=> ∃(J:Array α) (G:Int) (g:Nat->V),Z= [.sl S 0 N s,aC (c:Int),aC (l:Int),aC G,.fn (aN.f α) [] [],.bool W,.bool wp,aC m,g 8,g 9,g 10,g 11,g 12,g 13,g 14,g 15,g 16,g 17,g 18,g 19,g 20,g 21,g 22,g 23]/\0<=G/\G<1000000/\cE Y S N J/\PermIn c l e J/\Fx (· =S) h Y) ?_ ?_
 ·cases W with
  |true=>
   simp(disch:=omega)only[go_sem];exact .inl ⟨e,l',_,(aB rfl: ∃g:Nat->V,_= [.sl S 0 N s,aC (c:Int),aC (l:Int),aC l',.fn (aN.f α) [] [],.bool true,.bool wp,aC m,g 8,g 9,g 10,g 11,g 12,g 13,g 14,g 15,g 16,g 17,g 18,g 19,g 20,g 21,g 22,g 23]).choose_spec,u,w,A,permIn_refl e c l,F⟩
  |false=>
   simp(disch:=omega)only[go_sem];refine (Ba h1 S N c l e s hN A o B).mono ?_;rintro _ h2 ⟨J,A2,p2,F2⟩;simp(disch:=omega)only[go_sem];exact .inl ⟨J,l'- 1,_,(aB rfl: ∃g:Nat->V,_= [.sl S 0 N s,aC (c:Int),aC (l:Int),aC (l'- 1),.fn (aN.f α) [] [],.bool false,.bool wp,aC m,g 8,g 9,g 10,g 11,g 12,g 13,g 14,g 15,g 16,g 17,g 18,g 19,g 20,g 21,g 22,g 23]).choose_spec,om,om,A2,p2,dC F F2⟩
 clear A F u w hl J g;rintro y h2 ⟨J,G,g,rfl,u,w,A,P2,F⟩;have B2:=hB.perm (by rw[←P2.1];exact ez A) P2;simp(disch:=omega)only[go_sem];refine (Ar h2 S N c l J s om A o om).mono ?_;rintro _ h3 ⟨p,t,rfl,U,Q,f3⟩;have A3:=A.fr f3;have F3:=dC F (Fx.of f3);clear A F;simp(disch:=omega)only[go_sem];refine jT (λZ Y=> ∃(e3:Array α) (p2:Nat) (t2:Int) (g:Nat->V),Z= [.sl S 0 N s,aC (c:Int),aC (l:Int),aC G,.fn (aN.f α) [] [],.bool W,.bool wp,aC m,aC p2,aC t2,g 10,g 11,g 12,g 13,g 14,g 15,g 16,g 17,g 18,g 19,g 20,g 21,g 22,g 23]/\c<=p2/\p2<l/\cE Y S N e3/\PermIn c l J e3/\Fx (· =S) h Y) ?_ ?_
 ·refine aW (λht=>?_) (λht=>?_)
  ·simp(disch:=omega)only[go_sem]
   refine (tZ h3 S N c l J s om A3 o om).mono ?_;rintro _ h4 ⟨A4,F4⟩;have e5:(l:Int)- 1-((p:Int)-(c:Int))=(((l- 1)-(p-c):Nat):Int):=om
   simp(disch:=omega)only[go_sem,e5];exact .inl ⟨_,(l- 1)-(p-c),1,_,(aB rfl: ∃g:Nat->V,_= [.sl S 0 N s,aC (c:Int),aC (l:Int),aC G,.fn (aN.f α) [] [],.bool W,.bool wp,aC m,aC ((l- 1)-(p-c):Nat),aC 1,g 10,g 11,g 12,g 13,g 14,g 15,g 16,g 17,g 18,g 19,g 20,g 21,g 22,g 23]).choose_spec,om,om,A4,reverseRange_holds J c l B (ez A3),dC F3 F4⟩
  ·simp(disch:=omega)only[go_sem]
   exact .inl ⟨J,p,t,_,(aB rfl: ∃g:Nat->V,_= [.sl S 0 N s,aC (c:Int),aC (l:Int),aC G,.fn (aN.f α) [] [],.bool W,.bool wp,aC m,aC p,aC t,g 10,g 11,g 12,g 13,g 14,g 15,g 16,g 17,g 18,g 19,g 20,g 21,g 22,g 23]).choose_spec,U,Q,A3,permIn_refl J c l,F3⟩
 have a1:=ez A3;clear A3 F3 U Q f3 p t g;rintro y h4 ⟨e3,p,t,g,rfl,U,Q,A,P3,F⟩;have B3:=B2.perm a1 P3;have a0:=permIn_trans _ _ _ c l P2 P3;have b0:l<=J.size:=a1;clear a1 B2 hB;refine xW (λZ Y=> ∃(P:Array α) (g:Nat->V),Z= [.sl S 0 N s,aC (c:Int),aC (l:Int),aC G,.fn (aN.f α) [] [],.bool W,.bool wp,aC m,aC p,g 9,g 10,g 11,g 12,g 13,g 14,g 15,g 16,g 17,g 18,g 19,g 20,g 21,g 22,g 23]/\cE Y S N P/\PermIn c l e P/\Below aN.lt c l P/\Fx (· =S) h Y) ?_ ?_
 ·have skip: ∀(Z:List V),(∃g:Nat->V,Z= [.sl S 0 N s,aC (c:Int),aC (l:Int),aC G,.fn (aN.f α) [] [],.bool W,.bool wp,aC m,aC p,g 9,g 10,g 11,g 12,g 13,g 14,g 15,g 16,g 17,g 18,g 19,g 20,g 21,g 22,g 23])-> ∃(P:Array α) (g:Nat->V),Z= [.sl S 0 N s,aC (c:Int),aC (l:Int),aC G,.fn (aN.f α) [] [],.bool W,.bool wp,aC m,aC p,g 9,g 10,g 11,g 12,g 13,g 14,g 15,g 16,g 17,g 18,g 19,g 20,g 21,g 22,g 23]/\cE h4 S N P/\PermIn c l e P/\Below aN.lt c l P/\Fx (· =S) h h4:=λZ ⟨g,hv⟩=>⟨e3,g,hv,A,a0,B3,F⟩
  have run: ∀g:Nat->V,Ev T 173 [.sl S 0 N s,aC (c:Int),aC (l:Int),.fn (aN.f α) [] []] h4 (λv h'=> ∃r:Array α×Bool,v= .bool r.2/\cE h' S N r.1/\Fx (· =S) h4 h'/\PermIn c l e3 r.1/\(r.2=true->SortedIn aN.lt c l r.1)):=λ_=>by
   refine (tB h4 S N c l e3 s om A o om).mono ?_;rintro v h5 ⟨hv,A5,F5⟩;obtain⟨q1,q2⟩:=partialInsertionSort_holds (aN.swo (α:=α)) e3 c l om (ez A) B3;exact⟨_,hv,A5,F5,q1,q2⟩
  cases W with
  |false=>
   simp(disch:=omega)only[go_sem];exact .inl (skip _ (aB rfl))
  |true=>cases wp with
   |false=>
    simp(disch:=omega)only[go_sem]
    exact .inl (skip _ (aB rfl))
   |true=>
    simp(disch:=omega)only[go_sem]
    refine aW (λht=>?_) (λht=>?_)
    ·simp(disch:=omega)only[go_sem]
     refine (run g).mono ?_
     rintro v h5 ⟨⟨e5,r5⟩,rfl,A5,F5,q1,q2⟩
     have A5:cE h5 S N e5:=A5
     have q1:PermIn c l e3 e5:=q1
     have P5:=permIn_trans _ _ _ c l a0 q1
     cases r5 with
     |false=>
      simp(disch:=omega)only[go_sem];exact .inl ⟨e5,_,(aB rfl: ∃g:Nat->V,_= [.sl S 0 N s,aC (c:Int),aC (l:Int),aC G,.fn (aN.f α) [] [],.bool true,.bool true,aC m,aC p,g 9,g 10,g 11,g 12,g 13,g 14,g 15,g 16,g 17,g 18,g 19,g 20,g 21,g 22,g 23]).choose_spec,A5,P5,B3.perm (ez A) q1,dC F F5⟩
     |true=>
      obtain⟨w1,w2⟩:=K _ P5 (q2 rfl);simp(disch:=omega)only[go_sem];exact .inr ⟨by simp,e5,A5,w1,w2,dC F F5⟩
    ·simp(disch:=omega)only[go_sem]
     exact .inl (skip _ (aB rfl))
 clear A P3 a0 B3 F P2 b0 e3 J;rintro y h5 ⟨P,g,rfl,A,P4,B4,F⟩;have a2:=ez A;refine xW (λZ Y=> ∃(g:Nat->V),Z= [.sl S 0 N s,aC (c:Int),aC (l:Int),aC G,.fn (aN.f α) [] [],.bool W,.bool wp,aC m,aC p,g 9,g 10,g 11,g 12,g 13,g 14,g 15,g 16,g 17,g 18,g 19,g 20,g 21,g 22,g 23]/\cE Y S N P/\Fx (· =S) h Y) ?_ ?_
 ·by_cases h0:(0:Int)<(c:Int)
  case neg=>
   have e1:=bH h0;simp(disch:=omega)only[go_sem,e1];exact .inl ⟨_,(aB rfl: ∃g:Nat->V,_= [.sl S 0 N s,aC (c:Int),aC (l:Int),aC G,.fn (aN.f α) [] [],.bool W,.bool wp,aC m,aC p,g 9,g 10,g 11,g 12,g 13,g 14,g 15,g 16,g 17,g 18,g 19,g 20,g 21,g 22,g 23]).choose_spec,A.fr ((Fr.refl h5).bA om),dC F (Fx.of ((Fr.refl h5).bA om))⟩
  have e1:=bP h0;have ea:(c:Int)- 1=((c- 1:Nat):Int):=om
  have c1:=A.rd (i:=c- 1) om;have c2:=A.rd (i:=p) om;simp(disch:=omega)only[go_sem,e1,ea,c1,c2];refine (dG A (i:=c- 1) (j:=p) om om _ om).mono ?_;rintro _ h6 ⟨z,rfl,hz,a9⟩;have f6:Fr h5 h6:=Fr.trans ((Fr.refl h5).bA om) a9;have A6:=A.fr f6;have F6:=dC F (Fx.of f6)
  cases hl:aN.lt P[c- 1]! P[p]! with
  |true=>
   simp(disch:=omega)only[go_sem,hz,hl];exact .inl ⟨_,(aB rfl: ∃g:Nat->V,_= [.sl S 0 N s,aC (c:Int),aC (l:Int),aC G,.fn (aN.f α) [] [],.bool W,.bool wp,aC m,aC p,g 9,g 10,g 11,g 12,g 13,g 14,g 15,g 16,g 17,g 18,g 19,g 20,g 21,g 22,g 23]).choose_spec,A6,F6⟩
  |false=>
   obtain⟨w1,w2,w3,w4,w5⟩:=round_eq (aN.swo (α:=α)) (partitionEqual_holds aN.lt) om U Q a2 B4 hl (Prod.eta (partitionEqual aN.lt P c l p)).symm;simp(disch:=omega)only[go_sem,hz,hl];refine (xB h6 S N c l p P s om A6 o U Q).mono ?_;rintro _ h7 ⟨rfl,A7,F7⟩;simp(disch:=omega)only[go_sem];refine .inr ⟨by simp,l-(partitionEqual aN.lt P c l p).1,om,(partitionEqual aN.lt P c l p).1,l,G,W,wp,_,aB rfl,w2,o,om,a4,u,w,w4,A7,dC F6 F7,λR r1 r2=>?_,rfl⟩;obtain⟨t1,t2⟩:=w5 R r1 r2;exact K R (permIn_trans _ _ _ c l P4 t1) t2
 clear A F;rintro y h6 ⟨g,rfl,A,F⟩;have e8:=Dh m (k:=8) (m:=8) rfl;simp(disch:=omega)only[go_sem];refine (pG h6 S N c l p P s om A o U Q).mono ?_;obtain⟨r,hr⟩:=exI (partition aN.lt P c l p);rw[hr];obtain⟨q,ap,e5⟩:=r;obtain⟨w1,w2,w3,w4,w5,w6,w7⟩:=round_part (aN.swo (α:=α)) (partition_holds aN.lt) U Q a2 B4 hr;rintro _ h7 ⟨rfl,A7,F7⟩;have A7:cE h7 S N e5:=A7;have F7:=dC F F7;have el:(q:Int)-(c:Int)=((q-c:Nat):Int):=om
 have er:(l:Int)-(q:Int)=((l-q:Nat):Int):=om
 have e1:(q:Int)+1=((q+1:Nat):Int):=om
 simp(disch:=omega)only[go_sem,el,er,e8];refine aW (λht=>?_) (λht=>?_)
 ·simp(disch:=omega)only[go_sem]
  refine (ih (q-c) om h7 S N c q G e5 s hN A7 w1 om (fM _) u w w4).mono ?_;rintro _ h8 ⟨L,A8,p8,s8,F8⟩;obtain⟨u1,u2⟩:=w6 L p8 s8;simp(disch:=omega)only[go_sem,e1];refine⟨l-(q+1),om,q+1,l,G,_,ap,L,aB rfl,om,o,om,a4,u,w,u1,A8,dC F7 F8,λR r1 r2=>?_,rfl⟩;obtain⟨t1,t2⟩:=u2 R r1 r2;exact K R (permIn_trans _ _ _ c l P4 t1) t2
 ·simp(disch:=omega)only[go_sem,e1]
  refine (ih (l-(q+1)) om h7 S N (q+1) l G e5 s hN A7 om o (fM _) u w w5).mono ?_;rintro _ h8 ⟨L,A8,p8,s8,F8⟩;obtain⟨u1,u2⟩:=w7 L p8 s8;simp(disch:=omega)only[go_sem];refine⟨q-c,om,c,q,G,_,ap,L,aB rfl,om,om,a8,om,u,w,u1,A8,dC F7 F8,λR r1 r2=>?_,rfl⟩;obtain⟨t1,t2⟩:=u2 R r1 r2;exact K R (permIn_trans _ _ _ c l P4 t1) t2
theorem Ha  {α:Type}[Inhabited α][O:aN α](n:Nat):My (α:=α) n:=by
 induction n using Nat.strongRecOn with
 |_ n ih=>exact Pg n  ih
theorem zU {α:Type}[Inhabited α][O:aN α](h:H)(S N:Nat)(d:Array α)(a:lI)(i:N<60000)(A:cE h S N d):
  Ev T 83 [.sl S 0 N a,.fn (aN.f α) [] []] h (λ_ h'=> ∃e,cE h' S N e/\PermIn 0 N d e/\SortedIn aN.lt 0 N e/\Fx (· =S) h h'):=by
 refine cV eS rfl ?_
 have k:bitsLen N<=16:=(bitsLen_le_iff _ 16).2 om
 simp(disch:=omega)only[go_sem,eS,aD,dK (n:=(N:Int)) om om]
 refine (Tx N h om).mono ?_
 rintro _ g ⟨rfl,b⟩
 subst b
 simp(disch:=omega)only[go_sem]
 refine (Ha N g S N 0 N _ d a i A om om om om om (.inl rfl)).mono ?_
 rintro _ j ⟨e,c,p,s,F⟩
 simp(disch:=omega)only[go_sem]
 exact⟨e,c,p,s,F⟩
instance:Inhabited KE:=⟨⟨.aE,0,0,.aE,0,⟨rfl,rfl,rfl⟩,⟨rfl,rfl,rfl⟩⟩⟩
end Go.Proofs.YtcdbmkidaecdiaaGreat.Cls.Nor
namespace Go.Proofs.YtcdbmkidaecdiaaGreat
open Go Go.Ay Go.Pm Go.Sort
set_option maxRecDepth 100000
theorem Oc: ∀a:List Nat,kP a a=false
 | []=>rfl
 |a::l=>by unfold kP;rw[bF rfl];exact Oc l
theorem uD: ∀{a b c:List Nat},kP a b=true->kP b c=true->kP a c=true
 | [], [],_,h,_=>by cases h
 | [],_::_, [],_,h=>by cases h
 | [],_::_,_::_,_,_=>rfl
 |_::_, [],_,h,_=>by cases h
 |_::_,_::_, [],_,h=>by cases h
 |x::a,y::b,z::c,h1,h2=>by
  unfold kP at h1 h2 ⊢;split at h1
  ·rename_i e
   subst e;split at h2
   ·rename_i e;rw[bF e];exact uD h1 h2
   ·rename_i e;rw[bI e];exact h2
  ·rename_i e
   have:=of_decide_eq_true h1;split at h2
   ·rename_i d
    subst d;rw[bI e];exact h1
   ·have f:=of_decide_eq_true h2
    rw[bI om];exact bP om
theorem Hw: ∀{a b:List Nat},kP a b=false->kP b a=false->a=b
 | [], [],_,_=>rfl
 | [],_::_,h,_=>by cases h
 |_::_, [],_,h=>by cases h
 |x::a,y::b,h1,h2=>by
  unfold kP at h1 h2;split at h1
  ·rename_i e
   subst e;rw[bF rfl] at h2;rw[Hw h1 h2]
  ·rename_i e
   rw[bI (Ne.symm e)] at h2;have d:=of_decide_eq_false h1;have c:=of_decide_eq_false h2;omega
def ZD (a b:List Nat):Int:=if (a.length:Int)≠b.length then (a.length:Int)-b.length else Hx a b
def NI (a b:List Nat):Bool:=decide (ZD a b<0)
theorem EO (a b:List Nat):NI a b=true↔a.length<b.length∨a.length=b.length/\kP a b=true:=by
 unfold NI ZD;rw[Qf];split
 ·omega
 ·rw[Uq]
  constructor
  ·exact λh=> .inr ⟨om,h⟩
  ·rintro (h|h)
   ·omega
   ·exact h.2
theorem UZ (a b:List Nat):NI a b=false↔ ¬(a.length<b.length∨a.length=b.length/\kP a b=true):=by
 rw[←EO,Bool.not_eq_true]
theorem By:SWO NI where
 irrefl x:=by rw[UZ,Oc];simp
 trans x y z c b:=by
  rw[EO] at*;rcases c with c|⟨c,d⟩<;>rcases b with b|⟨b,a⟩
  ·exact .inl om
  ·exact .inl om
  ·exact .inl om
  ·exact .inr ⟨om,uD d a⟩
 ntrans x y z c b:=by
  rw[UZ] at*;rintro (h|⟨h,k⟩)
  ·omega
  ·have g:y.length=x.length:=om
   have f:z.length=y.length:=om
   have d:kP x y=false:=by
    rw[←Bool.not_eq_true];exact λk=>c (.inr ⟨g.symm,k⟩)
   have a:kP y z=false:=by
    rw[←Bool.not_eq_true];exact λk=>b (.inr ⟨f.symm,k⟩)
   by_cases e:kP y x=true
   ·have:=uD e k
    rw[this] at a;cases a
   ·have:=Hw d (by simpa using e)
    rw[this] at k;rw[k] at a;cases a
theorem abK {a b:List Nat}(c:NI a b=false)(h2:NI b a=false):a=b:=by
 rw[UZ] at c h2;have e:a.length=b.length:=om
 exact Hw (by rw[←Bool.not_eq_true];exact λk=>c (.inr ⟨e,k⟩)) (by rw[←Bool.not_eq_true];exact λk=>h2 (.inr ⟨e.symm,k⟩))
theorem RO {W W':Nat->Prop}{L:LN}{h:H}{p q:V×V×V}{a b:List Nat}(n:Nat)(P:L.length<=5040)(k:Nm W n L h p a)(j:Nm W' n L h q b):
  Ev T 84 [Zw n p,Zw n q] h (λv h'=>v= aC (ZD a b)/\Fr h h'):=by
 obtain⟨G,z,w⟩:=k.one
 obtain⟨u,x,y⟩:=j.one
 have Z:=k.rk.short
 have lb:=j.rk.short
 have t:=k.si.lens
 rw[aQ] at t
 have l:=j.si.lens
 rw[aQ] at l
 refine cV oU rfl ?_
 obtain⟨B,r⟩:=exI h.next
 obtain⟨A,J,o,K,U,g⟩:=dF r [aC n,p.1,p.2.1,p.2.2]
 obtain⟨N,F,Y,m,Q,i⟩:=dF o [aC n,q.1,q.2.1,q.2.2]
 have f:N.get B=aZ (Bt n p):=by rw[Q B om];exact K
 unfold ZD
 by_cases e:(a.length:Int)≠(b.length:Int)
 ·have s:=bP e
  simp(disch:=omega)only[go_sem,oU,aD,fZ h (a:= aC n) (b:=p.1) (c:=p.2.1) (d:=p.2.2) rfl G z w,r,J,fZ A (a:= aC n) (b:=q.1) (c:=q.2.1) (d:=q.2.2) rfl u x y,o,F,H.aF f,H.aF m,t,l,s,bF e]
  exact g.trans i
 ·have s:=bH e
  simp(disch:=omega)only[go_sem,oU,aD,fZ h (a:= aC n) (b:=p.1) (c:=p.2.1) (d:=p.2.2) rfl G z w,r,J,fZ A (a:= aC n) (b:=q.1) (c:=q.2.1) (d:=q.2.2) rfl u x y,o,F,H.aF f,H.aF m,t,l,s,gU f,gU m,bI e]
  refine (ET n P (k.mono (g.trans i)) (j.mono (g.trans i))).mono ?_
  rintro _ R ⟨rfl,O⟩
  simp(disch:=omega)only[go_sem]
  exact g.trans (i.trans O)
structure NE where
 n:Nat
 p:V×V×V
 r:List Nat
 one:p.1.one=true/\p.2.1.one=true/\p.2.2.one=true
 eq:dE p.1 p.1=true/\dE p.2.1 p.2.1=true/\dE p.2.2 p.2.2=true
instance:Inhabited NE:=⟨⟨0,(.aE,.aE,.aE), [],⟨rfl,rfl,rfl⟩,⟨rfl,rfl,rfl⟩⟩⟩
def NE.enc (a:NE):List V:=Bt a.n a.p
def NE.lt (a b:NE):Bool:=NI a.r b.r
def NE.Pp (n:Nat)(L:LN)(hB:H)(b0 S:Nat)(a:NE):Prop:=a.n=n/\Nm (λq=>b0<=q∨q=S) n L hB a.p a.r
theorem ahA {a h:H}{c S:Nat}(d:a.next=c)(b:Cls.Bb a c S h):Fx (λq=>c<=q∨q=S) a h:=
 ⟨by rw[d];exact b.1,λq g f=>b.2 q om λe=>f (.inr e)⟩
@[reducible] def agT (n:Nat)(L:LN)(hL:L.length<=5040)(hB:H)(b0 S:Nat)(hb:hB.next=b0):Cls.aN NE where
 lt:=NE.lt
 enc:=NE.enc
 P:=NE.Pp n L hB b0 S
 B:=Cls.Bb hB b0 S
 f:=84
 b0:=b0
 S:=S
 swo:=⟨λx=>By.irrefl x.r,λx y z=>By.trans x.r y.r z.r,λx y z=>By.ntrans x.r y.r z.r⟩
 len _:=rfl
 one a:=by simp [NE.enc,Bt,a.one,show (aC (a.n:Int)).one=true from rfl]
 eqv a:=by simp [NE.enc,Bt,dE,sK,a.eq]
 cmp h a b hb' pa pb:=by
  have fx:=ahA hb hb';obtain⟨ea,na⟩:=pa;obtain⟨eb,nb⟩:=pb;have:=RO n hL (na.go fx (W':=λ_=>False) λ_ _ h=>h.elim) (nb.go fx (W':=λ_=>False) λ_ _ h=>h.elim);unfold NE.enc;rw[ea,eb]
  exact this.mono λv h' ⟨e,f⟩=>⟨_,e,rfl,f⟩
 bfr h h' b f:=⟨mT b.1 f.next,λq h1 h2=>by rw[f.get q (iW h1 b.1)];exact b.2 q h1 h2⟩
 bS h h' b f:=⟨mT b.1 f.next,λq h1 h2=>by rw[f.get q (iW h1 b.1) h2];exact b.2 q h1 h2⟩
 bR h h' R b hR f:=⟨mT b.1 f.next,λq h1 h2=>by rw[f.get q (iW h1 b.1) (λe=>by have:q=R:=e;omega)];exact b.2 q h1 h2⟩
 bn h b:=b.1
theorem IH {l:List NE}{N:Nat}(h:l.length=N){e:Array NE}(q:PermIn 0 N l.toArray e)(o:SortedIn NE.lt 0 N e):e.toList.Perm l/\e.toList.Pairwise (λa b=>NE.lt b a=false):=by
 obtain⟨r,t,n⟩:=q;have c:e.size=N:=by rw[r];simpa using h
 refine⟨?_,?_⟩
 ·have k:(e.extract 0 N).toList=e.toList:=by rw[←c];simp
  have s:(l.toArray.extract 0 N).toList=l:=by rw[←h];simp
  rwa [k,s] at n
 ·rw[JX]
  intro i j hi g d;have f:j<N:=by simpa [c] using g
  have:=o i j (iJ _) d f;have m:e[i]! =e.toList[i]:=by simp at hi;simp [hi]
  have p:e[j]! =e.toList[j]:=by simp at g;simp [g]
  rw[m,p] at this;exact this
theorem PA (n:Nat)(L:LN)(f:L.length<=5040)(h:H)(S:Nat)(l:List NE)(d:lI)(m:l.length<60000)(g:h.get S=aZ (l.flatMap NE.enc))(q:S<h.next)(o: ∀a∈l,a.Pp n L h h.next S):
  Ev T 83 [.sl S 0 l.length d,.fn 84 [] []] h (λ_ h'=> ∃l':List NE,h'.get S=aZ (l'.flatMap NE.enc)/\l'.Perm l/\l'.Pairwise (λa b=>NE.lt b a=false)/\Fx (· =S) h h'):=by
 letI:=agT n L f h h.next S rfl
 have A:Cls.cE h S l.length l.toArray:=⟨g,by simp,q,rfl,⟨fM _,λ_ _ _=>rfl⟩,λi hi=>by
  have c:i<l.length:=by simpa using hi
  have:l.toArray[i]! =l[i]:=by simp [c]
  rw[this]
  exact o _ (zG c)⟩
 refine (Cls.Nor.zU h S l.length l.toArray d m A).mono ?_
 rintro _ h' ⟨e,k,p,s,F⟩
 obtain⟨j,r⟩:=IH rfl p s
 exact⟨e.toList,k.get,j,r,F⟩
end Go.Proofs.YtcdbmkidaecdiaaGreat
namespace Go.Proofs.YtcdbmkidaecdiaaGreat
open Go Go.Ay Go.Pm
set_option maxRecDepth 100000
structure Bm (n:Nat)(G:List Nat->Prop)(L:LN)(rs:LN):Prop where
 mem: ∀r,r∈rs↔xJ n G L r
 srt:rs.Pairwise λa b=>NI a b=true
theorem Bm.uniq {n:Nat}{G:List Nat->Prop}{L:LN}{rs c:LN}(a:Bm n G L rs)(b:Bm n G L c):rs=c:=by
 have nd: ∀{l:LN},(l.Pairwise λa b=>NI a b=true)->l.Nodup:=λh=>h.imp λ{a b} h e=>by
  rw[e,By.irrefl] at h;cases h
 have p:rs.Perm c:=(List.perm_ext_iff_of_nodup (nd a.srt) (nd b.srt)).2 λr=>(a.mem r).trans (b.mem r).symm
 exact p.eq_of_pairwise (λx y _ _ f d=>by have:=By.trans x y x f d;rw[By.irrefl] at this;cases this) a.srt b.srt
section
variable {n:Nat} {G:List Nat->Prop} {L:LN} {K:List Nat} {fs:LN} (hG:iX n G) (E:dW G L)
include hG E
theorem Sv (F:K.Perm (jW G L L.length))(A:(Pz L λx=>x=bL n)∈fs)(all: ∀r∈fs,xJ n G L r)(W: ∀r∈fs,∀k∈K,k∈r∨Aw n G L r k∈fs)(M:List Nat)(c:xJ n G L M):M∈fs:=by
 have w: ∀(d:Nat) (N:List Nat),N∈fs->(∀x∈N,x∈M)->L.length<=N.length+d->M∈fs:=by
  intro d
  induction d with
  |zero=>
   intro N l u Y;have i:=all N l
   have:N=M:=oQ i.rk.asc c.rk.asc λx=>⟨u x,λf=>Jg λq=>by
    have:=List.Nodup.length_le_of_subset (List.nodup_cons.2 ⟨q,i.rk.asc.imp λh=>Nat.ne_of_lt h⟩) (l₂:=List.range L.length) λy z=>by
     rcases zH.1 z with rfl|z
     ·exact Gu.2 ((c.rk.mem y).1 f).1
     ·exact Gu.2 ((i.rk.mem y).1 z).1
    rw[List.length_cons,NM] at this
    omega⟩
   rw[←this];exact l
  |succ d ih=>
   intro N l u Y;have i:=all N l
   by_cases h: ∃x,x∈M/\x∉N
   ·obtain⟨x,f,q⟩:=h
    have p:=((c.rk.mem x).1 f).1;obtain⟨k,hk,R,g,m,e⟩:=Vo hG E p;have s:k∈K:=F.mem_iff.2 (kV.2 ⟨om,R⟩)
    have o:k∉N:=λh=>q (by
     obtain⟨t,v,Z⟩:=i.nm _ _ ⟨k,h,rfl⟩ m;have:t=x:=yK E.nodup ((i.rk.mem t).1 v).1 p (Z.trans e)
     rw[←this];exact v)
    have B:RG L M (L.getD k []):=by
     have P:=lY hG E (show k<L.length by omega);have:=c.nm _ _ ⟨x,f,rfl⟩ (hG.inv m);rwa [←e,←nX P (hG.cU m) (hG.cU m).inv,fC (hG.cU m),mG P] at this
    rcases W N l k s with h|h
    ·exact absurd h o
    ·have gr:=Gw i ((kV.1 (F.mem_iff.1 s)).1) o
     refine ih _ h (λt v=>?_) om;obtain⟨J,U⟩:=(Bj t).1 v;exact (c.rk.mem t).2 ⟨J,NC.le U c.dN (λa h=>h.elim (λ⟨j,hj,e⟩=>⟨j,u j hj,e⟩) λe=>by rw[e];exact B) λa b Q hb=>c.nm a b Q hb⟩
   ·have:N=M:=oQ i.rk.asc c.rk.asc λx=>⟨u x,λf=>Jg λq=>h ⟨x,f,q⟩⟩
    rw[←this];exact l
 refine w L.length _ A (λx f=>?_) om;obtain⟨h1,O⟩:=((Dy L _).mem x).1 f;exact (c.rk.mem x).2 ⟨h1,by rw[O];exact c.dN.one⟩
end
theorem acZ {W:Nat->Prop}{n:Nat}{L:LN}{h:H}: ∀{ps:List (V×V×V)} {rs:LN},aM (Nm W n L h) ps rs-> ∃l:List NE,l.flatMap NE.enc=zB n ps/\l.map NE.r=rs/\ ∀a∈l,a.n=n/\Nm W n L h a.p a.r
 | [], [],_=>⟨[],rfl,rfl,λa b=>by cases b⟩
 |p::ps,r::rs,⟨m,a⟩=>by
  obtain⟨l,e,d,c⟩:=acZ a;refine⟨⟨n,p,r,m.one,m.eq⟩::l,?_,by rw[List.map_cons,d],λa b=>?_⟩
  ·rw[List.flatMap_cons,e];rfl
  ·rcases zH.1 b with rfl|b
   ·exact⟨rfl,m⟩
   ·exact c a b
section
variable {n:Nat} {w:Bool} {c d:nE} {l:List nE} {Gc Gd:List Nat->Prop} {A C:LN}
theorem Lh {x:Nat}{a:List Nat}(h:l.map (λe=>kI e.1 n 0)=a)(b:a[a.length- 1]? =some x):Qg n l=decide (x=1):=by
 have e:l.length=a.length:=by rw[←h,jV]
 unfold Qg;rw[e];rw[←h,Ol,jV,e] at b;split
 ·rename_i f;rw[f] at b;cases b
 ·rename_i e f
  rw[f] at b;cases b
  rfl
theorem VD (s:uC n w c l){k:Nat}(e:l[k]? =some d)(m:Mem n d Gd A)(g:iX n (Kf n w c d))(E:dW (Kf n w c d) A):l.length=k+1:=by
 have o:k<l.length:=(Ax.1 e).1
 by_cases j:k+1<l.length
 ·have h:=dD j
  obtain⟨i,f⟩:=s.st k _ _ e h;obtain⟨a,b⟩:=(i.congr (To E m.el)).uniq m.isc;exact absurd (Prod.ext a b) f
 ·omega
end
theorem aiE:Cq 4 MQ (if true then DH else MQ) MQ [[], [(1,1)], [(2,1)], [(1,12)], [(2,13)], [(1,18)], [(1,6)], [(2,18)], [(1,19)], [(2,6)], [(1,13)], [(1,7)]]=true:=by decide+kernel
theorem Xv {c:nE}{l:List nE}(h:bC 4 (bX 4 (· ∈DD)) c.1 c.2)(s:uC 4 true c l):l.map (λe=>kI e.1 4 0)= [24,12]:=by
 have a:Mem 4 c _ DH:=⟨bX.dN Wz,h,Am⟩
 have f:=s.hd;obtain⟨k,b,g⟩:=vZ s a f a agW (by decide);have j:=Ua s a b g aiE;refine List.ext_getElem? λi=>?_
 rw[Ol]
 match i with
 |0=>rw[f];exact congrArg some a.sz
 |1=>rw[b];exact congrArg some g.sz
 |i+2=>rw[List.getElem?_eq_none om];rfl
theorem Lx {c:nE}{l:List nE}(a:bC 5 (bX 5 (· ∈HH)) c.1 c.2)(s:uC 5 false c l):l.map (λe=>kI e.1 5 0)= [60]:=by
 have b:=bX.dN HN
 have j:Mem 5 c _ PS:=⟨b,a,tT⟩
 have g:iX 5 (Kf 5 false c c):=Ad.dN b b a a
 have E:dW (Kf 5 false c c) PS:=by
  have e:Kf 5 false c c=bX 5 (· ∈HH):=funext λx=>propext ⟨λh=>Ad.self b a h,λh=>bX.le g (λy f=>?_) h⟩
  ·rw[e];exact tT
  ·have o:jE (PS.getD 3 []) (PS.getD 24 [])= [1,2,0,3,4]:=by decide+kernel
   have m:jE (PS.getD 2 []) (PS.getD 57 [])= [1,2,3,4,0]:=by decide+kernel
   rcases zH.1 f with rfl|f
   ·rw[←o];exact Ad.all b b a a (oS tT (by decide)) (oS tT (by decide))
   ·rw[List.mem_singleton.1 f,←m];exact Ad.all b b a a (oS tT (by decide)) (oS tT (by decide))
 have k:=s.hd;have p:=VD s k j g E;refine List.ext_getElem? λi=>?_
 rw[Ol]
 match i with
 |0=>rw[k];exact congrArg some j.sz
 |i+1=>rw[List.getElem?_eq_none om];rfl
def RQ (n:Nat)(L:LN)(Rp Cg:List Nat)(Ns:LN):Bool:=
 Ns.all (λN=>N==List.range L.length||FG n L N)&&Ns.contains [0]&&decide (Ns.Pairwise λa b=>NI a b=true)&&(List.range L.length).all (λi=>i==0||Rp.any λr=>decide (r<L.length)&&(L.map (cW (L.getD r []))).contains (L.getD i []))&&Cg.all (λg=>decide (g<L.length))&&
  Ns.all λN=>N.contains 0&&Rp.all λr=>N.contains r||Ns.any λN'=>(N.all λi=>N'.contains i)&&N'.contains r&&(GJ L N').all λx=>(Yy (GJ L N++Cg.map λg=>cW (L.getD r []) (L.getD g [])) L.length 0 [bL n]).contains x
section
variable {n:Nat} {G:List Nat->Prop} {L:LN} {Ns rs:LN} (hG:iX n G) (E:dW G L)
include hG E
theorem RQ.ok {Rp Cg:List Nat}(h1:L.getD 0 []=bL n)(h:RQ n L Rp Cg Ns=true):Bm n G L Ns:=by
 unfold RQ at h;simp only[vN,Kv,List.any_eq_true,Bool.or_eq_true,Qf,List.contains_iff_mem,Nv,Gu,beq_iff_eq] at h;obtain⟨⟨⟨⟨⟨hN,U⟩,hs⟩,O⟩,hC⟩,J⟩:=h;have all: ∀N∈Ns,xJ n G L N:=λN u=>(hN N u).elim (λe=>by rw[e];exact RF hG E) (FG.ok hG E)
 have k0:=all _ U;refine⟨λr=>⟨all r,Sv hG E (List.Perm.refl _) (by rw[DT k0 h1];exact U) all (λN u k hk=>?_) r⟩,hs⟩;have y:=all N u;have i:=(kV.1 hk).1
 by_cases p:k∈N
 ·exact .inl p
 refine .inr ?_;obtain⟨hz,hr⟩:=J N u;rcases O k i with e|⟨r,K,B,F⟩
 ·exact absurd (by rw[e];exact hz) p
 obtain⟨g,m,v⟩:=uF.1 F;have f:=(E.mem g).1 m;have P:=lY hG E B;rcases hr r K with h|⟨R,s,⟨W,Z⟩,h5⟩
 ·exact absurd (by
   obtain⟨t,o,e2⟩:=y.nm _ _ ⟨r,h,rfl⟩ f;have:t=k:=yK E.nodup ((y.rk.mem t).1 o).1 i (e2.trans v)
   rw[←this];exact o) p
 have q:=all R s
 have e:Aw n G L N k=R:=by
  refine oQ (Rj hG E y i).rk.asc q.rk.asc λt=>⟨λo=>?_,λo=>?_⟩
  ·obtain⟨h6,h7⟩:=(Bj t).1 o
   exact (q.rk.mem t).2 ⟨h6,NC.le h7 q.dN (λa h=>h.elim (λ⟨j,hj,e⟩=>⟨j,W j hj,e⟩) λe=>by rw[e,←v];exact q.nm _ _ ⟨r,Z,rfl⟩ f) λa b Y hb=>q.nm a b Y hb⟩
  ·refine (Bj t).2 ⟨((q.rk.mem t).1 o).1,?_⟩
   have Q:=Lb.dN hG y.le (oS E i)
   have rx:Lb n G (RG L N) (L.getD k []) (L.getD r []):=by
    have:=NC.cj (n:=n) (NC.of (.inr rfl):Lb n G (RG L N) (L.getD k []) (L.getD k [])) (hG.inv f);rw[←v,←nX P (hG.cU f) (hG.cU f).inv,fC (hG.cU f),mG P] at this;rwa [←v]
   refine Ma (P:=Lb n G (RG L N) (L.getD k [])) (λx z g m=>Q.mul z ?_) L.length 0 [bL n] (λx z=>by rw[List.mem_singleton.1 z];exact Q.one) _ (h5 _ ⟨t,o,rfl⟩);rcases pH.1 m with m|m
   ·exact NC.of (.inl (Nv.1 m))
   ·obtain⟨c,O,rfl⟩:=uF.1 m
    exact NC.cj rx (oS E (hC c O))
 rw[e];exact s
end
theorem aeO: ∀{l:LN} {x:List Nat},x∈l->kP x (NH l)=false
 |a::l,x,g=>by
  have j: ∀(l:LN) (a:List Nat),kP a (l.foldl (λm x=>if kP x m then x else m) a)=false/\ ∀x∈l,kP x (l.foldl (λm x=>if kP x m then x else m) a)=false:=by
   intro l
   induction l with
   |nil=>exact λa=>⟨Oc a,λx g=>by cases g⟩
   |cons b l ih=>
    intro a;rw[List.foldl_cons]
    cases hb:kP b a with
    |true=>
     rw[bF rfl];obtain⟨f,h⟩:=ih b;refine⟨?_,λx g=>(zH.1 g).elim (λe=>by rw[e];exact f) (h x)⟩
     cases h3:kP a (l.foldl (λm x=>if kP x m then x else m) b) with
     |false=>rfl
     |true=>rw[uD hb h3] at f;cases f
    |false=>
     rw[bI (by simp)];obtain⟨f,h⟩:=ih a;refine⟨f,λx g=>(zH.1 g).elim (λe=>?_) (h x)⟩;rw[e]
     cases h3:kP b (l.foldl (λm x=>if kP x m then x else m) a) with
     |false=>rfl
     |true=>
      have i:kP a b=true∨a=b:=by
       cases h5:kP a b with
       |true=>exact .inl rfl
       |false=>exact .inr (Hw h5 hb)
      rcases i with i|i
      ·rw[uD i h3] at f;cases f
      ·rw[←i,f] at h3;cases h3
  show kP x (l.foldl _ a)=false;obtain⟨f,h⟩:=j l a;exact (zH.1 g).elim (λe=>by rw[e];exact f) (h x)
theorem agN:RQ 4 DH [1,3,7,9] [0,2,8] [[0], [0,7,16,23], [0,3,4,7,8,11,12,15,16,19,20,23],List.range 24]=true:=by decide+kernel
theorem agV:RQ 4 qB [1,2,3] [0] [[0], [0,1], [0,2], [0,3],List.range 4]=true:=by decide+kernel
theorem agO:RQ 4 ZQ [1,2,3,5] [0,3] [[0], [0,5], [0,1,4,5], [0,2,5,7], [0,3,5,6],List.range 8]=true:=by decide+kernel
theorem ahK:RQ 5 PS [1,3,16,17] [0,1,30] [[0],List.range 60]=true:=by decide+kernel
def agX (n:Nat)(G:List Nat->Prop)(L:LN)(h:H)(v:V)(h':H):Prop:=
 ((∃vl ls rs,v= .tup [vl,aC 0]/\Bm n G L rs/\rs.length<=200/\SV h' vl 3 (Kr n ls)/\aM (AV (λ_=>False) n L h') ls rs)∨
  (v= .tup [.aE,aC 5]/\ ∃fs:LN,fs.Nodup/\(∀r∈fs,xJ n G L r)/\200<fs.length))/\Fr h h'
structure NwJ (n:Nat)(G:List Nat->Prop)(L:LN)(K:List Nat)(b Q:Nat)(h0 hh:H)(fs:LN)(i j:Nat):Prop where
 ex: ∃vf,hh.get Q=aZ [vf]/\NmL (λq=>q=Q) n L b hh vf fs/\ ¬dO vf Q
 fr:Fr h0 hh
 nx:Q<hh.next
 bn:b<=hh.next
 nd:fs.Nodup
 all: ∀r∈fs,xJ n G L r
 bot:(Pz L λx=>x=bL n)∈fs
 il:i<fs.length∨(i=fs.length/\j=0)
 cl: ∀t k,(t<i∨t=i/\k∈K.take j)->t<fs.length->k∈K->k∈fs.getD t []∨Aw n G L (fs.getD t []) k∈fs
theorem XK {l:LN}{a:List Nat}(h:l.Nodup):(tF l a).Nodup:=by
 unfold tF;split
 ·exact h
 ·rename_i b
  rw[List.nodup_append];exact⟨h,List.pairwise_singleton _ _,λx d y c e=>b (by rw[←List.mem_singleton.1 c,←e];exact d)⟩
theorem LQ {l:LN}{a:List Nat}{t:Nat}(h:t<l.length):(tF l a).getD t []=l.getD t []:=by
 unfold tF;split
 ·rfl
 ·rw[WN,WN,Dv h]
theorem TG (l:LN)(a:List Nat):l.length<=(tF l a).length/\(tF l a).length<=l.length+1:=by
 unfold tF;split
 ·omega
 ·rw[jZ];exact⟨Nat.le_add_right _ _,fM _⟩
theorem Cf {W0:Nat->Prop}(vc:V)(n:Nat)(O:LN)(R:jI)(G:List Nat->Prop)(h:H)(gc:GC W0 h vc n O R G):
  Ev T 26 [vc] h (λv h'=> ∃L,cZ O R n 0 (bL n)=L/\agX n G L h v h'):=by
 obtain⟨vO,vR,rfl,d7,d8⟩:=gc.shape
 refine cV yS rfl ?_
 obtain⟨A,hA⟩:=exI h.next
 obtain⟨o,e1,n1,g1,q1,f1⟩:=dF hA [aC n,vO,vR]
 simp(disch:=omega)only[go_sem,yS,aD,bM h (v:= aC n) (u:=vO) (w:=vR) rfl d7 d8,hA,e1,aI g1]
 refine (FX _ n O R G o (gc.mono f1)).mono ?_
 rintro _ z ⟨T0,L,K,rfl,zC,f2⟩
 obtain⟨ll,E,hG,l8,n0,n7⟩:=zC.few
 have ik:=zC.isK
 have eL:=zC.hL
 have F2:=f1.trans f2
 simp(disch:=omega)only[go_sem]
 refine aW (λhc=>(hc rfl).elim) (λ_=>?_)
 simp(disch:=omega)only[go_sem]
 refine (EU T0 n O R G L K z zC).mono ?_
 rintro _ h3 ⟨p0,rfl,c0,f3⟩
 obtain⟨o1,o2,o3⟩:=c0.one
 obtain⟨N,g3⟩:=exI h3.next
 obtain⟨h4,e4,n4,g4,q4,f4⟩:=dF g3 (Bt n p0)
 obtain⟨h5,e5,n5,g5,q5,f5⟩:=dF n4 [.sl N 0 1 (.kn 1)]
 have bx:Cv h4 (.agg [.sl N 0 1 (.kn 1)])=some (.ptr (N+1) 0,h5):=by rw[←e5,←n4];rfl
 simp(disch:=omega)only[go_sem,WD h3 (a:= aC n) (b:=p0.1) (c:=p0.2.1) (d:=p0.2.2) rfl o1 o2 o3,g3,e4,show rO [.aE] [(0,1,.sl N 0 1 (.kn 1))]=some (.agg [.sl N 0 1 (.kn 1)]) from rfl,bx]
 have k9:=f3.next
 have i7:Fr z h5:=⟨om,λq hq=>by rw[q5 q om,q4 q om,f3.get q hq]⟩
 have c3:h5.get N=aZ (Bt n p0):=by rw[q5 _ om];exact g4
 have d0:Nm (λq=>q=N+1∨dO (.sl N 0 1 (.kn 1)) q) n L h5 p0 (Pz L λx=>x=bL n):=
  ((c0.go (Fx.refl _ _) (W':=λq=>q=N+1∨dO (.sl N 0 1 (.kn 1)) q) λq o z=>by
   rcases z with e|⟨_,_,_,e⟩
   ·omega
   ·cases e;omega).mono f4).mono f5
 have J0:NwJ n G L K N (N+1) z h5 [Pz L λx=>x=bL n] 0 0:=by
  refine⟨⟨_,g5,⟨[p0],.inr ⟨N,1,_, [],rfl,rfl,.inr ⟨rfl,rfl⟩,fM _,om,c3⟩,⟨d0,trivial⟩,λid b1 m c e=>by cases e;exact c3⟩,λ⟨_,_,_,e⟩=>by cases e⟩,i7,om,om,List.pairwise_singleton _ _,λr hr=>by rw[List.mem_singleton.1 hr];exact WA hG E,List.mem_singleton.2 rfl,.inl (by show 0<1;omega),λt k o=>?_⟩;rcases o with o|⟨_,o⟩
  ·omega
  ·cases o
 obtain⟨Q,hQ⟩:=exI (N+1)
 rw[hQ] at J0 ⊢
 clear d0 c0 c3 bx
 obtain⟨lO,lR,M,lr,gT,gM,_,d6,nM⟩:=zC.ex
 have i8:=zC.nx
 have k1: ∀h',Fr z h'->h'.get T0=aZ [aC n,lO,lR,.mp M,lr]:=λh' f=>by rw[f.get T0 i8];exact gT
 have i0:=d6.lens
 simp only[jV] at i0
 have kl:K.length<=L.length:=by
  have:=List.Nodup.length_le_of_subset (l₂:=List.range L.length) ik.nd λx hx=>Gu.2 (ik.lt hx)
  rwa [NM] at this
 refine aH (λU s hh=> ∃(i:Nat) (fs:LN),(∃g:Nat->V,s= [g 0,g 1,g 2,g 3,.ptr T0 0,g 5,.ptr Q 0,aC i,g 8,g 9,g 10,g 11,g 12,g 13,g 14,g 15,g 16,g 17,g 18,g 19,g 20,g 21,g 22])/\NwJ n G L K N Q z hh fs i 0/\fs.length<=200/\i<=fs.length/\U=201-i) 201
  ⟨0,_,aB rfl,J0,by show 1<=200;omega,iJ _,rfl⟩ ?_
 clear J0
 rintro U s hh ⟨i,fs,⟨g,rfl⟩,J,l2,hi,rfl⟩
 obtain⟨vf,gQ,ml,nb⟩:=J.ex
 obtain⟨ps,ow,al,_⟩:=ml.ex
 have a7:=aM.length al
 have Y:=zP ow.sv
 rw[a7] at Y
 have F:=J.fr
 by_cases i1:(i:Int)<(fs.length:Int)
 case neg=>
  have d1:=bH i1;obtain rfl:i=fs.length:=om
  obtain⟨i3,b7,b0,j6⟩:=ml.ex;have b4:=aM.length b0;have k2:=HJ J.bot
  have a4: ∀M,xJ n G L M->M∈fs:=Sv hG E ik.perm J.bot J.all λr hr k hk=>by
   obtain⟨t,ht,rfl⟩:=zF.1 hr;have:=J.cl t k (.inl ht) ht hk;rwa [List.getD,dD ht] at this
  rcases b7 with ⟨_,e⟩|⟨S,m,a1,k3,rfl,e1,_,e3,e4,_⟩
  ·have:=congrArg List.length e
   rw[mH] at this;have:i3.length*4=0:=this;omega
  have gS:=j6 _ _ _ _ rfl;have SQ:S≠Q:=λe=>nb (by rw[e];exact⟨_,_,_,rfl⟩)
  obtain⟨l,l1,l3,l4⟩:=acZ b0;have l6:l.length=fs.length:=by rw[←l3,jV]
  have em:m=l.length:=by rw[mH] at e1;omega
  subst em;simp(disch:=omega)only[go_sem,H.aF gQ,Y,d1];refine (PA n L ll hh S l a1 om (by rw[l1];exact gS) e4 λa ha=>⟨(l4 a ha).1,(l4 a ha).2.go (Fx.refl _ _) λq o z=>?_⟩).mono ?_
  ·rcases z with z|z
   ·omega
   ·exact .inr (by rw[z];exact⟨_,_,_,rfl⟩)
  rintro _ P ⟨l',j0,pm,i6,F3⟩;have l0:=F3.next;have jn:=J.nx;have k0:P.get Q=aZ [.sl S 0 l.length a1]:=by rw[F3.get Q jn λe=>SQ e.symm];exact gQ
  have Z: ∀a∈l',a.n=n/\Nm (λ_=>False) n L P a.p a.r:=λa ha=>by
   obtain⟨x,y⟩:=l4 a (pm.mem_iff.1 ha);exact⟨x,y.go (Fx.wide F3 λq (e:q=S)=> .inr (by rw[e];exact⟨_,_,_,rfl⟩)) λ_ _ h=>h.elim⟩
  have b5:l'.length=l.length:=pm.length_eq
  have j2:Bm n G L (l'.map NE.r):=by
   have pr:(l'.map NE.r).Perm fs:=by rw[←l3];exact pm.map _
   refine⟨λr=>⟨λhr=>J.all r (pr.mem_iff.1 hr),λhr=>pr.mem_iff.2 (a4 r hr)⟩,?_⟩;have nd:(l'.map NE.r).Nodup:=pr.nodup_iff.2 J.nd;refine List.pairwise_map.2 ((List.pairwise_and_iff.2 ⟨i6,List.pairwise_map.1 nd⟩).imp λ{a b} h=>?_);obtain⟨o,z⟩:=h;have o:NI b.r a.r=false:=o
   cases h3:NI a.r b.r with
   |true=>rfl
   |false=>exact absurd (abK h3 o) z
  have i9:SV P (.sl S 0 l.length a1) 4 (l'.flatMap NE.enc):=SV.all (by rw[sM (k:=4) (f:=NE.enc) (λ_=>rfl),b5]) om j0 _
  have j5:Fr z P:=⟨by have:=F.next;omega,λq hq=>by rw[F3.get q (by have:=F.next;omega) om];exact F.get q hq⟩
  simp(disch:=omega)only[go_sem,H.aF k0,show bT (.sl S 0 l.length a1)=some (aC (l.length:Int)) from rfl];refine aH (λU s h'=> ∃(j:Nat) (w:V) (ls:List (V×V)),(∃g:Nat->V,s= [g 0,g 1,g 2,g 3,g 4,g 5,g 6,g 7,g 8,w,g 10,g 11,g 12,g 13,g 14,g 15,g 16,g 17,g 18,.sl S 0 l.length a1,aC (l.length:Int),aC j,g 22])/\j<=l.length/\cY h' w 3 (Kr n ls) P.next/\aM (AV (λ_=>False) n L P) ls ((l'.map NE.r).take j)/\Fr P h'/\U=l.length-j) l.length
   ⟨0,.aE, [],aB rfl,iJ _,cY.aE _ _ _,trivial,Fr.refl _,rfl⟩ ?_
  rintro U s c4 ⟨j,w,ls,⟨g,rfl⟩,hj,b8,all,F4,rfl⟩;have i4:=aM.length all;rw[Fj,jV,Nat.min_eq_left om] at i4
  by_cases e0:(j:Int)<(l.length:Int)
  case neg=>
   have d2:=bH e0;obtain rfl:j=l.length:=om
   rw[Tn (by rw[jV];omega)] at all;simp(disch:=omega)only[go_sem,d2];exact⟨L,eL,.inl ⟨w,ls,_,rfl,j2,by rw[jV];omega,b8.sv,aM.mono (λ_ _ x=>AV.go x (Fx.of F4) λ_ _ h=>h) all⟩,F2.trans (j5.trans F4)⟩
  have d2:=bP e0;have c5:j<l'.length:=om
  obtain⟨ij,oj,h0,rj,_⟩:=SV.rec (k:=4) (f:=NE.enc) om (λ_=>rfl) (i9.mono F4) c5;rw[b5] at h0;obtain⟨en,mj⟩:=Z _ (zG c5);have ej:(l'.map NE.r).take (j+1)=(l'.map NE.r).take j++ [l'[j].r]:=by rw[List.take_succ_eq_append_getElem (by rw[jV];exact c5),List.getElem_map]
  generalize l'[j]=a at rj en mj ej;have rj:c4.row ij (oj+j*4) 4=some [aC n,a.p.1,a.p.2.1,a.p.2.2]:=by rw[rj,←en];rfl
  obtain⟨o1,o2,o3⟩:=a.one;obtain⟨C,hC⟩:=exI c4.next;obtain⟨k5,e5,n5,g5,q5,f5⟩:=dF hC [aC 0,.aE,.aE,.aE];obtain⟨k6,e6,n6,g6,q6⟩:=pJ k5 C (Bt n a.p);obtain⟨k7,e7,l9,g7,q7,f7⟩:=dF (h:=k6) (n6.trans n5) [aC n,a.p.1,a.p.2.1]
  have h6:Fr c4 k7:=⟨om,λq hq=>by rw[q7 q om,q6 q om,q5 q om]⟩
  have k4:=F4.next;obtain⟨k8,a8,p8⟩:=((b8.fr h6).le (iJ _)).push (bytes:=56) (SV.all (sz:=3) (len:=1) (vs:= [aC n,a.p.1,a.p.2.1]) rfl om g7 (.kn 1)) (n:=ls.length) (m:=1) (lC n ls) rfl om om om;have n8:=p8.next;have j9: ∀{hh:H} {id:Nat} {a b c d:V},hh.get id=aZ [a,b,c,d]->hh.row id 0 3=some [a,b,c]:=λhg=>by simp [H.row,hg,sub]
  simp(disch:=omega)only[go_sem,d2,h0.ixa,rj,hC,e5,kL k5 C 0 (a:= aC n) (b:=a.p.1) (c:=a.p.2.1) (d:=a.p.2.2) rfl o1 o2 o3,g5,jS,e6,j9 g6,Vj k6 (d:=(n:Int)) o1 o2,n6,n5,e7,a8];rw[eJ j];refine⟨l.length-(j+1),om,j+1,_,ls++ [(a.p.1,a.p.2.1)],aB rfl,om,by rw[Tt];exact p8.own (b:=P.next) (lC n ls) rfl om,by rw[ej];exact aM.append all ⟨mj.ch,trivial⟩,⟨om,λq hq=>?_⟩,rfl⟩;rw[p8.old q om λid b1 m c e e2=>by have:=(b8.in _ _ _ _ e).2.1;omega,h6.get q om];exact F4.get q hq
 have d1:=bP i1
 have j7:i<fs.length:=om
 simp(disch:=omega)only[go_sem,H.aF gQ,Y,d1,H.aF (k1 hh F),i0]
 refine aH (λU s h'=> ∃(j:Nat) (b6:LN),(∃g:Nat->V,s= [g 0,g 1,g 2,g 3,.ptr T0 0,g 5,.ptr Q 0,aC i,g 8,g 9,g 10,g 11,g 12,lr,aC (K.length:Int),aC j,g 16,g 17,g 18,g 19,g 20,g 21,g 22])/\j<=K.length/\NwJ n G L K N Q z h' b6 i j/\i<b6.length/\b6.length<=200/\U=K.length-j) K.length
  ⟨0,fs,aB rfl,iJ _,J,j7,l2,rfl⟩ ?_
 rintro U s h7 ⟨j,W,⟨g,rfl⟩,l7,B,a0,c6,rfl⟩
 clear J al ow ml gQ a7 Y
 obtain⟨vf,gQ,ml,nb⟩:=B.ex
 obtain⟨ps,ow,al,_⟩:=ml.ex
 have a7:=aM.length al
 have F7:=B.fr
 by_cases d5:(j:Int)<(K.length:Int)
 case neg=>
  have d2:=bH d5;obtain rfl:j=K.length:=om
  simp(disch:=omega)only[go_sem,d2];rw[eJ i];refine⟨201-(i+1),om,i+1,W,aB rfl,⟨B.ex,B.fr,B.nx,B.bn,B.nd,B.all,B.bot,?_,λt k o z h3=>B.cl t k (o.elim (λh=>?_) λh=>?_) z h3⟩,c6,om,rfl⟩
  ·by_cases e:i+1<W.length
   ·exact .inl e
   ·exact .inr ⟨om,rfl⟩
  ·by_cases e:t=i
   ·exact .inr ⟨e,by rw[List.take_length];exact h3⟩
   ·exact .inl om
  ·cases h.2
 have d2:=bP d5
 have a3:j<K.length:=om
 obtain⟨ia,b1,ws,sh,d9,i5,hc,f6⟩:=d6.open
 simp only[jV] at sh d9 i5 hc
 have ci:h7.cell ia (b1+j)=some (ws.getD j .undef):=by rw[F7.cell (d9 om),hc j a3]
 have s0:=(Ml f6 (i:=j) (by rw[jV];exact a3)).mono F7
 have eK:(K.map λr=>L.getD r []).getD j []=L.getD K[j] []:=by rw[List.getD,Ol,dD a3];rfl
 rw[eK] at s0
 have e9:=zG a3
 have a6:=ik.lt e9
 have c2: ∀k,k∈K.take (j+1)->k∈K.take j∨k=K[j]:=λk hk=>by
  rw[List.take_succ_eq_append_getElem a3] at hk;exact (pH.1 hk).imp id List.mem_singleton.1
 generalize ws.getD j .undef=vx at ci s0
 generalize K[j]=k at s0 e9 a6 c2
 have f0:i<ps.length:=om
 obtain⟨is,os,c8,g8,j4⟩:=Lu ow.sv f0
 have mi:=aM.get al i f0 om
 have er:W.getD i []=W[i]:=by rw[List.getD,dD a0];rfl
 have kr:=B.all _ (zG a0)
 have a9:=B.cl
 generalize W[i]=r at mi er kr
 have Y:=zP ow.sv
 rw[a7] at Y
 simp(disch:=omega)only[go_sem,d2,sh.ixa,ci,H.aF gQ,c8.ixa,g8]
 refine (GQ T0 ps[i] vx n O R G L K r k h7 (zC.mono F7) mi a6 s0).mono ?_
 rintro _ h8 ⟨rfl,f8⟩
 have F8:=F7.trans f8
 have a5:h8.get Q=aZ [vf]:=by rw[f8.get Q B.nx];exact gQ
 have n8:=f8.next
 have jn:=B.nx
 have jb:=B.bn
 by_cases c1:k∈r
 ·have d3:=bP c1
  have d4:decide ((200:Int)<(W.length:Int))=false:=bH om
  simp(disch:=omega)only[go_sem,d3,Bool.not_true,H.aF a5,Y,d4]
  rw[eJ j]
  refine⟨K.length-(j+1),om,j+1,W,aB rfl,om,⟨⟨vf,a5,ml.mono f8,nb⟩,F8,om,om,B.nd,B.all,B.bot,.inl a0,λt U o z h3=>?_⟩,a0,c6,rfl⟩
  rcases o with o|⟨o,h4⟩
  ·exact a9 t U (.inl o) z h3
  ·rcases c2 U h4 with h4|rfl
   ·exact a9 t U (.inr ⟨o,h4⟩) z h3
   ·rw[o,er];exact .inl c1
 have d3:=bH c1
 have g0:h8.row is (os+i*4) 4=some [aC n,ps[i].1,ps[i].2.1,ps[i].2.2]:=by rw[DL f8 j4];exact g8
 simp(disch:=omega)only[go_sem,d3,Bool.not_false,H.aF a5,c8.ixa,g0]
 refine (Xn T0 ps[i] vx n O R G L K r k h8 (zC.mono F8) (mi.mono f8) a6 (s0.mono f8)).mono ?_
 rintro _ h9 ⟨q,rfl,nq,f9⟩
 have F9:=F8.trans f9
 have n9:=f9.next
 have j1:h9.get Q=aZ [vf]:=by rw[f9.get Q om];exact a5
 have i2: ∀q',dO vf q'->q'<h7.next/\N<=q':=λq' ⟨b1,m,c,e⟩=>by have:=ow.in _ _ _ _ e;omega
 have j3:Nm (λq=>q=Q∨dO vf q) n L h9 q (Aw n G L r k):=nq.go (Fx.refl _ _) λq' _ h=>by
  rcases h with h|h
  ·show q'<h8.next
   omega
  ·have:=i2 q' h
   show q'<h8.next;omega
 simp(disch:=omega)only[go_sem]
 refine (FQ n L N Q vf W q _ h9 ((ml.mono f8).mono f9) om j3 j1 om nb rfl ll om).mono ?_
 rintro _ e8 ⟨rfl,j8,b9,c7,b3,g2⟩
 have m0:=b3.next
 obtain⟨i3,b7,b0,_⟩:=c7.ex
 have b4:=aM.length b0
 have a2:=zP b7.sv
 rw[b4] at a2
 have ln:=TG W (Aw n G L r k)
 have l5:z.next<=N:=om
 have c9:Fr z e8:=⟨by have:=F9.next;omega,λq' hq=>by
  rw[b3.get q' (by have:=F9.next;omega) λh=>h.elim (λe=>om) λh=>by have:=i2 q' h;omega]
  exact F9.get q' hq⟩
 have Z: ∀r'∈tF W (Aw n G L r k),xJ n G L r':=λr' hr=>(wF.1 hr).elim (B.all r') λe=>by rw[e];exact Rj hG E kr a6
 have g9:NwJ n G L K N Q z e8 (tF W (Aw n G L r k)) i (j+1):=by
  refine⟨⟨j8,b9,c7,λh=>(g2 Q h).elim nb λh=>om⟩,c9,om,om,XK B.nd,Z,wF.2 (.inl B.bot),.inl om,λt U o z h3=>?_⟩
  by_cases ht:t<W.length
  ·rw[LQ ht]
   rcases o with o|⟨o,h4⟩
   ·exact (a9 t U (.inl o) ht h3).imp id λh=>wF.2 (.inl h)
   ·rcases c2 U h4 with h4|rfl
    ·exact (a9 t U (.inr ⟨o,h4⟩) ht h3).imp id λh=>wF.2 (.inl h)
    ·rw[o,er];exact .inr (wF.2 (.inr rfl))
  ·rcases o with o|⟨o,h4⟩<;>omega
 by_cases b2:(200:Int)<((tF W (Aw n G L r k)).length:Int)
 ·have d4:decide ((200:Int)<((tF W (Aw n G L r k)).length:Int))=true:=bP b2
  simp(disch:=omega)only[go_sem,H.aF b9,a2,d4]
  exact⟨L,eL,.inr ⟨rfl,_,g9.nd,Z,om⟩,F2.trans c9⟩
 ·have d4:decide ((200:Int)<((tF W (Aw n G L r k)).length:Int))=false:=bH b2
  simp(disch:=omega)only[go_sem,H.aF b9,a2,d4]
  rw[eJ j]
  exact⟨K.length-(j+1),om,j+1,_,aB rfl,om,g9,om,om,rfl⟩
theorem afJ {K:List Nat}{rs:LN}(l:Ky 4 (bX 4 (· ∈Ij)) qB K rs)(f:Cm 4 (bX 4 (· ∈Ij)) qB K):rs= [[0], [0,1],List.range 4]:=by
 obtain⟨i,k,m,e,a⟩:=VC l f;have r:=bX.dN Su;have E:=Ah;have o:xJ 4 (bX 4 (· ∈Ij)) qB [0]:=FG.ok r E (by decide+kernel);have d:1∈K:=f.perm.mem_iff.2 (by rw[Za E];decide+kernel);have q:=(acU (i:=1) om (by decide)).1
 have p: [0,1]∈IN (XC 4 (bX 4 (· ∈Ij)) qB [0] K):=by
  refine CH.2 ⟨Ft.2 ⟨1,d,by decide,q.symm⟩,?_⟩;rw[Bool.not_eq_true'];refine List.any_eq_false.2 λb s=>?_
  obtain⟨j,n,c,rfl⟩:=Ft.1 s;have:=(Gw o (f.lt n) c).2.2;have:1<(Aw 4 (bX 4 (· ∈Ij)) qB [0] j).length:=this;rw[vN,Qf];exact λh=>by have:_<2:=h.1;omega
 have g:=aeO p;have a:NH (IN (XC 4 (bX 4 (· ∈Ij)) qB [0] K))= [0,i]:=a;rw[a] at g;have: ∀i,i<4->i∉ [0]->kP [0,1] [0,i]=false->i=1:=by decide
 obtain rfl:=this i k m g;exact e
theorem Fw {W:Nat->Prop}{n:Nat}{G:List Nat->Prop}{L:LN}{h:H}(E:dW G L): ∀{ls:List (V×V)} {rs:LN},aM (AV W n L h) ls rs->(∀r∈rs,xJ n G L r)-> ∃l:List nE,aM (λp (e:nE)=> ∃G,GC W h (.agg [aC n,p.1,p.2]) n e.1 e.2 G) ls l/\l.map (λe=>kI e.1 n 0)=rs.map List.length
 | [], [],_,_=>⟨[],trivial,rfl⟩
 |p::ls,r::rs,⟨⟨O,R,g⟩,a⟩,hk=>by
  obtain⟨l,b,c⟩:=Fw E a λr d=>hk r (Cu _ d)
  have k:=hk r Ab;exact⟨(O,R)::l,⟨⟨_,g⟩,b⟩,by rw[List.map_cons,List.map_cons,c,k.rk.len k.dN g.isc E k.le]⟩
theorem Bw {n:Nat}{G:List Nat->Prop}{L:LN}{c:LN}{h h':H}{v:V}(a:Bm n G L c)(l:c.length<=200)(r:agX n G L h v h'):(∃vl ls,v= .tup [vl,aC 0]/\SV h' vl 3 (Kr n ls)/\aM (AV (λ_=>False) n L h') ls c)/\Fr h h':=by
 obtain⟨r,f⟩:=r;refine⟨?_,f⟩;rcases r with ⟨vl,ls,j,e,b,_,s,d⟩|⟨_,i,nd,k,m⟩
 ·obtain rfl:=a.uniq b
  exact⟨vl,ls,e,s,d⟩
 ·have:=List.Nodup.length_le_of_subset nd λr g=>(a.mem r).2 (k r g)
  omega
theorem IW {l:List nE}{n:Nat}{w:List Nat}(h:l.map (λe=>kI e.1 n 0)=w)(a:w.length<=6000):l.length<=6000:=by
 rw[←h,jV] at a;exact a
theorem QB (h:H)(x y:Int):lQ h 1 [aC 0] 2 [(0,1,aC x),(1,1,aC y)]=some (.sl h.next 0 2 (.kn 2),h.new (.cells false (ints [x,y]))):=rfl
theorem afU (h:H)(x:Int):lQ h 1 [aC 0] 1 [(0,1,aC x)]=some (.sl h.next 0 1 (.kn 1),h.new (.cells false (ints [x]))):=rfl
theorem BH (h:H):Ev T 6 [] h (λv h'=>v= .bool true/\Fr h h'):=by
 refine cV sH rfl ?_;simp(disch:=omega)only[go_sem,sH,aD];refine (Ke h).mono ?_;rintro _ h1 ⟨c0,c1,c2,c3,O0,R0,O1,R1,O2,R2,O3,R3,rfl,d,N,s,m,f1⟩;obtain⟨p0,q0,rfl,a0,b0⟩:=d.shape;obtain⟨p1,q1,rfl,a1,b1⟩:=N.shape;obtain⟨p2,q2,rfl,a2,b2⟩:=s.shape;obtain⟨p3,q3,rfl,a3,b3⟩:=m.shape;obtain⟨A,hA⟩:=exI h1.next;obtain⟨k1,e1,n1,g1,o1,F1⟩:=dF hA [aC 0,.aE,.aE];obtain⟨k2,e2,n2,g2,o2,F2⟩:=dF n1 [aC 0,.aE,.aE];obtain⟨k3,e3,n3,g3,o3,F3⟩:=dF n2 [aC 0,.aE,.aE];obtain⟨k4,e4,n4,g4,o4,F4⟩:=dF n3 [aC 0,.aE,.aE];have z1:k4.get A=some (.cells false [aC 0,.aE,.aE]):=by rw[o4 _ om,o3 _ om,o2 _ om];exact g1
 have z2:k4.get (A+1)=some (.cells false [aC 0,.aE,.aE]):=by rw[o4 _ om,o3 _ om];exact g2
 have z3:k4.get (A+1+1)=some (.cells false [aC 0,.aE,.aE]):=by rw[o4 _ om];exact g3
 obtain⟨k5,e5,n5,g5,o5⟩:=pJ k4 A [aC (4:Nat),p0,q0];obtain⟨k6,e6,n6,g6,o6⟩:=pJ k5 (A+1) [aC (4:Nat),p1,q1];obtain⟨k7,e7,n7,g7,o7⟩:=pJ k6 (A+1+1) [aC (4:Nat),p2,q2];obtain⟨k8,e8,n8,g8,o8⟩:=pJ k7 (A+1+1+1) [aC (5:Nat),p3,q3];have y2:k5.get (A+1)=some (.cells false [aC 0,.aE,.aE]):=by rw[o5 _ om];exact z2
 have y3:k6.get (A+1+1)=some (.cells false [aC 0,.aE,.aE]):=by rw[o6 _ om,o5 _ om];exact z3
 have y4:k7.get (A+1+1+1)=some (.cells false [aC 0,.aE,.aE]):=by rw[o7 _ om,o6 _ om,o5 _ om];exact g4
 have c:Fr h1 k8:=⟨om,λq hq=>by rw[o8 q om,o7 q om,o6 q om,o5 q om,o4 q om,o3 q om,o2 q om,o1 q om]⟩
 have r1: ∀e,Fr k8 e->e.row A 0 3=some [aC (4:Nat),p0,q0]:=λe f=>aI (by rw[f.get A om,o8 _ om,o7 _ om,o6 _ om];exact g5)
 have r2: ∀e,Fr k8 e->e.row (A+1) 0 3=some [aC (4:Nat),p1,q1]:=λe f=>aI (by rw[f.get _ om,o8 _ om,o7 _ om];exact g6)
 have r3: ∀e,Fr k8 e->e.row (A+1+1) 0 3=some [aC (4:Nat),p2,q2]:=λe f=>aI (by rw[f.get _ om,o8 _ om];exact g7)
 have r4: ∀e,Fr k8 e->e.row (A+1+1+1) 0 3=some [aC (5:Nat),p3,q3]:=λe f=>aI (by rw[f.get _ om];exact g8)
 have E0:=dM d.dN d.isc;have E1:=dM N.dN N.isc;have E2:=dM s.dN s.isc;have E3:=dM m.dN m.isc;have L0:=E0.1.uniq Am;have L1:=E1.1.uniq Ah;have L2:=E2.1.uniq BT;have L3:=E3.1.uniq tT;simp(disch:=omega)only[go_sem,hA,e1,n1,e2,n2,e3,n3,e4,bW k4 A 0 (v:= aC (4:Nat)) (u:=p0) (w:=q0) rfl a0 b0,z1,cF,e5,bW k5 (A+1) 0 (v:= aC (4:Nat)) (u:=p1) (w:=q1) rfl a1 b1,y2,e6,bW k6 (A+1+1) 0 (v:= aC (4:Nat)) (u:=p2) (w:=q2) rfl a2 b2,y3,e7,bW k7 (A+1+1+1) 0 (v:= aC (5:Nat)) (u:=p3) (w:=q3) rfl a3 b3,y4,e8,r1 k8 (Fr.refl _)];refine (Nq _ 4 O0 R0 _ k8 (d.mono c)).mono ?_;rintro _ h2 ⟨v5,u8,l5,rfl,s5,t0,m6,f2⟩;simp(disch:=omega)only[go_sem,r4 h2 f2];refine (Eu _ 5 O3 R3 _ h2 (m.mono (c.trans f2))).mono ?_;rintro _ h3 ⟨v7,w0,l7,rfl,s7,r5,v2,f3⟩;have G3:=f2.trans f3;have w5:=Xv d.isc m6;have w7:=Lx m.isc v2;simp(disch:=omega)only[go_sem,r1 h3 G3];refine (Kh _ 4 O0 R0 _ h3 (d.mono (c.trans G3))).mono ?_;rintro _ h4 ⟨l9,w2,rfl,f4⟩;have G4:=G3.trans f4;have b9:Qg 4 l9=true:=Lh (Zi d.isc w2) rfl;rw[b9];simp(disch:=omega)only[go_sem,r4 h4 G4];refine (Kh _ 5 O3 R3 _ h4 (m.mono (c.trans G4))).mono ?_;rintro _ h5 ⟨s2,j7,rfl,f5⟩;have G5:=G4.trans f5;have r0:Qg 5 s2=false:=Lh (Lx m.isc j7) rfl;rw[r0];simp(disch:=omega)only[go_sem,r1 h5 G5];refine (Fo _ 4 O0 R0 _ h5 (d.mono (c.trans G5))).mono ?_;rintro _ h6 ⟨v8,e9,rfl,f6⟩;have G6:=G5.trans f6;have y5:Qg 4 v8=false:=Lh (Xv d.isc e9) rfl;rw[y5];simp(disch:=omega)only[go_sem,r3 h6 G6];refine (Fo _ 4 O2 R2 _ h6 (s.mono (c.trans G6))).mono ?_;rintro _ h7 ⟨q5,i7,rfl,f7⟩;have G7:=G6.trans f7;have n0:Qg 4 q5=true:=Lh (Xs s.isc i7) rfl;rw[n0];obtain⟨h8,s1,A6,x1,z4,f8⟩:=dF (h:=h7) rfl (ints [24,12]);have i8:Fr h2 h8:=f3.trans (f4.trans (f5.trans (f6.trans (f7.trans f8))));simp(disch:=omega)only[go_sem,QB,s1];refine (lU v5 _ 4 u8 l5 [24,12] h8 (s5.mono i8) (aM.mono (λ_ _ ⟨G,g,_⟩=>⟨G,g.mono i8⟩) t0) (IW w5 (by decide)) (SV.all rfl om x1 _) w5).mono ?_;rintro _ h9 ⟨rfl,f9⟩;obtain⟨i5,s3,A7,x7,A5,t7⟩:=dF (h:=h9) rfl (ints [60]);have U:Fr h3 i5:=f4.trans (f5.trans (f6.trans (f7.trans (f8.trans (f9.trans t7)))));simp(disch:=omega)only[go_sem,afU,s3];refine (lU v7 _ 5 w0 l7 [60] i5 (s7.mono U) (aM.mono (λ_ _ ⟨G,g,_⟩=>⟨G,g.mono U⟩) r5) (IW w7 (by decide)) (SV.all rfl om x7 _) w7).mono ?_;rintro _ d3 ⟨rfl,x3⟩;have d4:Fr k8 d3:=G3.trans (U.trans x3);simp(disch:=omega)only[go_sem,eq_self,decide_true,r1 d3 d4];have b6:Bm 4 (bX 4 (· ∈DD)) DH _:=RQ.ok (bX.dN Wz) Am rfl agN;have l3:Bm 4 (bX 4 (· ∈Ij)) qB _:=RQ.ok (bX.dN Su) Ah rfl agV;have s9:Bm 4 (bX 4 (· ∈D4g)) ZQ _:=RQ.ok (bX.dN TC) BT rfl agO;have i3:Bm 5 (bX 5 (· ∈HH)) PS _:=RQ.ok (bX.dN HN) tT rfl ahK;refine (Cf _ 4 O0 R0 _ d3 (d.mono (c.trans d4))).mono ?_;rintro v d1 ⟨L,l,R⟩;obtain rfl:=l.symm.trans L0;obtain⟨⟨r8,f0,rfl,w3,j4⟩,y0⟩:=Bw b6 (by decide) R;clear l R;have c8:=d4.trans y0;simp(disch:=omega)only[go_sem,r2 d1 c8];refine (Cf _ 4 O1 R1 _ d1 (N.mono (c.trans c8))).mono ?_;rintro v l8 ⟨L,l,R⟩;obtain rfl:=l.symm.trans L1;obtain⟨⟨q8,y7,rfl,p5,j1⟩,k9⟩:=Bw l3 (by decide) R;clear l R;have c4:=c8.trans k9;simp(disch:=omega)only[go_sem,r3 l8 c4];refine (Cf _ 4 O2 R2 _ l8 (s.mono (c.trans c4))).mono ?_;rintro v j6 ⟨L,l,R⟩;obtain rfl:=l.symm.trans L2;obtain⟨⟨t6,y6,rfl,t2,m1⟩,m3⟩:=Bw s9 (by decide) R;clear l R;have a9:=c4.trans m3;simp(disch:=omega)only[go_sem,r4 j6 a9];refine (Cf _ 5 O3 R3 _ j6 (m.mono (c.trans a9))).mono ?_;rintro v l1 ⟨L,l,R⟩;obtain rfl:=l.symm.trans L3;obtain⟨⟨s0,l2,rfl,w9,i9⟩,i6⟩:=Bw i3 (by decide) R;clear l R;have t9:=a9.trans i6;obtain⟨r6,m9,m5⟩:=Fw Am j4 λr hr=>(b6.mem r).1 hr
 obtain⟨u5,p8,i2⟩:=Fw tT i9 λr hr=>(i3.mem r).1 hr
 have m4:bT q8=some (aC 5):=by
  have:=aM.length j1;unfold bT;rw[SV.len p5 (n:=5) (by rw[lC,this];rfl) om];rfl
 have j3:bT t6=some (aC 6):=by
  have:=aM.length m1;unfold bT;rw[SV.len t2 (n:=6) (by rw[lC,this];rfl) om];rfl
 obtain⟨g9,v9,y9,v3,A8,j9⟩:=dF (h:=l1) rfl (ints [1,4,12,24]);have B:Fr d1 g9:=k9.trans (m3.trans (i6.trans j9));simp(disch:=omega)only[go_sem,Ec,v9];refine (lU r8 _ 4 f0 r6 [1,4,12,24] g9 (w3.mono B) (aM.mono (λ_ _ ⟨G,g⟩=>⟨G,g.mono B⟩) m9) (IW m5 (by decide)) (SV.all rfl om v3 _) m5).mono ?_;rintro _ u6 ⟨rfl,t8⟩;obtain⟨m2,x5,z5,s8,z8,g0⟩:=dF (h:=u6) rfl (ints [1,60]);have o:Fr l1 m2:=j9.trans (t8.trans g0);simp(disch:=omega)only[go_sem,m4,j3,eq_self,decide_true,QB,x5];refine (lU s0 _ 5 l2 u5 [1,60] m2 (w9.mono o) (aM.mono (λ_ _ ⟨G,g⟩=>⟨G,g.mono o⟩) p8) (IW i2 (by decide)) (SV.all rfl om s8 _) i2).mono ?_;rintro _ a7 ⟨rfl,m8⟩;have c7:Fr k8 a7:=t9.trans (o.trans m8);simp(disch:=omega)only[go_sem,r1 a7 c7];refine (Ph _ 4 O0 R0 _ a7 (d.mono (c.trans c7))).mono ?_;rintro _ d2 ⟨w1,j8,L,K,rs,rfl,l,ik,cl,m7,i4,x8⟩;obtain rfl:=l.symm.trans L0;obtain rfl:=RC cl ik;clear l;have b5:=c7.trans x8;simp(disch:=omega)only[go_sem,r2 d2 b5];refine (Ph _ 4 O1 R1 _ d2 (N.mono (c.trans b5))).mono ?_;rintro _ Z ⟨j0,a5,L,K1,rs,rfl,l,w8,r9,l6,P,Y⟩;obtain rfl:=l.symm.trans L1;obtain rfl:=afJ r9 w8;clear l;have u3:=b5.trans Y;obtain⟨I0,l0⟩:=exI Z.next;obtain⟨i0,o0,j5,v6,d9⟩:=mkI l0 [1,0,3,2];obtain⟨x0,o9,z6,t3,z9,d0⟩:=dF j5 [.sl I0 0 4 (.kn 4)];have KI:SP x0 (.sl (I0+1) 0 1 (.kn 1)) [[1,0,3,2]]:=SP.ahS (a:= [1,0,3,2]) (h:=i0) v6 om d0 t3 _;have u4:=u3.trans (d9.trans d0);simp(disch:=omega)only[go_sem,l0,Ec,o0,j5,cT i0 (z:= .aE) (mW ..).1 (mW ..).2,o9];refine (Bs _ 4 [[1,0,3,2]] x0 om om (by decide) KI λg hg=>Su g (by rw[List.mem_singleton.1 hg];exact Ab)).mono ?_;rintro _ b8 ⟨A1,O4,R4,rfl,c9,m0⟩;obtain⟨p4,q4,rfl,a4,b4⟩:=c9.shape;have r7:=u4.trans m0;obtain⟨D,hD⟩:=exI b8.next;obtain⟨y1,q6,B0,p6,t1,A2⟩:=dF hD [aC 0,.aE,.aE];obtain⟨b,w6,B1,u0,v0⟩:=pJ y1 D [aC (4:Nat),p4,q4]
 have fy:Fr b8 b:=⟨om,λq hq=>by rw[v0 q om,t1 q om]⟩
 have rD: ∀e,Fr b e->e.row D 0 3=some [aC (4:Nat),p4,q4]:=λe f=>aI (by rw[f.get D om];exact u0)
 have c5:Fr Z b8:=(d9.trans d0).trans m0;simp(disch:=omega)only[go_sem,hD,q6,bW y1 D 0 (v:= aC (4:Nat)) (u:=p4) (w:=q4) rfl a4 b4,p6,cF,w6];refine (CQ _).mono ?_;rintro _ Q ⟨rfl,d8⟩;have t4: ∀k,b.next<=k->Fr b (H.mk b.tr k):=λk hk=>(Fr.refl b).bA hk
 have W:Fr b Q:=(t4 _ om).trans d8;have s6: ∀r∈ [[0], [0,7,16,23], [0,3,4,7,8,11,12,15,16,19,20,23],List.range 24],xJ 4 (bX 4 (· ∈DD)) DH r:=λr hr=>(b6.mem r).1 hr
 have e0: ∀r∈ [[0], [0,1],List.range 4],xJ 4 (bX 4 (· ∈Ij)) qB r:=λr hr=>(l3.mem r).1 (by
  simp only[zH,List.not_mem_nil,or_false] at hr
  rcases hr with rfl|rfl|rfl<;>simp)
 obtain⟨v4,q9,h0⟩:=Fw Am i4 s6;obtain⟨t5,x4,j2⟩:=Fw Ah P e0;obtain⟨b7,s4,A0,u7,n9⟩:=LF Q (b.next+10) Q.next (ints [1,4,12,24]);have A9:b.next+27<=Q.next:=d8.next;have j:Fr Z b:=c5.trans fy;have J: ∀q,q<b.next->b7.get q=Q.get q:=λq hq=>n9 q om
 have y:Fr d2 b7:=⟨by have:=(Y.trans (j.trans W)).next;omega,λq hq=>by rw[J q (by have:=(Y.trans j).next;omega)];exact (Y.trans (j.trans W)).get q hq⟩
 simp(disch:=omega)only[go_sem,Ec,s4];refine (lU w1 _ 4 j8 v4 [1,4,12,24] b7 (m7.mono y) (aM.mono (λ_ _ ⟨G,g⟩=>⟨G,g.mono y⟩) q9) (IW h0 (by decide)) (SV.all rfl om u7 _) h0).mono ?_;rintro _ c6 ⟨rfl,d6⟩;have A3:=d6.next;obtain⟨a8,w4,z0,x9,x6⟩:=LF c6 (b.next+16) c6.next (ints [1,2,4])
 have l4:Fr b c6:=⟨om,λq hq=>by rw[d6.get q om,J q hq];exact W.get q hq⟩
 have a6:Fr b a8:=⟨om,λq hq=>by rw[x6 q om];exact l4.get q hq⟩
 have t:Fr Z a8:=j.trans a6;simp(disch:=omega)only[go_sem,SA,w4];refine (lU j0 _ 4 a5 t5 [1,2,4] a8 (l6.mono t) (aM.mono (λ_ _ ⟨G,g⟩=>⟨G,g.mono t⟩) x4) (IW j2 (by decide)) (SV.all rfl om x9 _) j2).mono ?_;rintro _ d5 ⟨rfl,v1⟩;have p:=a6.trans v1;have F:=j.trans p;have z7:a5.length=3:=aM.length P;obtain⟨p7,k0,i1,q7⟩:=Lw (l6.mono F) (i:=1) om;have O:=i1.ixa .i64 1 om om;obtain⟨Ob,Rb,d7⟩:=aM.get P 1 om (by decide);have O:Dz 3 j0 (aC 1)=some (.ptr p7 (k0+1*3)):=O;simp(disch:=omega)only[go_sem,O,q7,rD d5 p]
 have eG: ∀x,RG qB [0,1] x↔bX 4 (· ∈ [[1,0,3,2]]) x:=by
  have k1:=e0 [0,1] (by decide);have p9:=UA Ah k1;have u9:dW (bX 4 (· ∈ [[1,0,3,2]])) [[0,1,2,3], [1,0,3,2]]:=Ze.Xz (ws:= [[], [0]]) (by decide+kernel);exact To p9 u9
 obtain⟨u1,u2⟩:=(d7.isc.congr eG).uniq c9.isc;refine (acR _ _ 4 (Ob,Rb) (O4,R4) _ _ d5 (d7.mono F) (c9.mono (fy.trans p))).mono ?_;rintro _ y8 ⟨rfl,x2⟩;have dT:decide (((Ob,Rb):nE)=(O4,R4))=true:=bP (by rw[u1,u2]);simp(disch:=omega)only[go_sem,dT];exact f1.trans (c.trans (r7.trans (fy.trans (p.trans x2))))
end Go.Proofs.YtcdbmkidaecdiaaGreat
