/- Texts of the claim. -/
import Derived.Test.YtcdbmkidaecdiaaGreatP6ktoP9g
import Derived.Test.YtcdbmkidaecdiaaGreatP5qtoP6j
set_option maxHeartbeats 64000000
namespace Go.Proofs.YtcdbmkidaecdiaaGreat
open Go Go.Ay Go.Pm
set_option maxRecDepth 100000
theorem dW.aiN {W:Nat->Prop}{h:H}{ws:List V}{l:LN}(p:dW W h ws l){i:Nat}(hi:i<l.length):SI h (ws.getD i V.undef) (zi (l.getD i [])):=by
 have a:=aM.length p;have:=(aM.get p i om hi).si;rwa [mG (d:=V.undef),mG (d:= []) hi] at this
theorem Yl {W W':Nat->Prop}(vc vd:V)(n:Nat)(O O':LN)(R R':fM)(G G':List Nat->Prop)(h:H)(L:GC W h vc n O R G)(Z:GC W' h vd n O' R' G'):
  Ev T 78 [vc,vd] h (λv h'=> ∃vr O2 R2,v= .tup [vr,aC 0]/\GC (λq=>q<h.next) h' vr n O2 R2 (Au n R R')/\Fr h h'):=by
 obtain⟨vO,vR,rfl,oO,oR⟩:=L.shape
 obtain⟨uO,uR,rfl,pO,pR⟩:=Z.shape
 refine cT qX rfl ?_
 have n0:=L.n0
 have n7:=L.n7
 have hG:=L.dH
 have a7:=Z.dH
 obtain⟨B,hB⟩:=exI h.next
 obtain⟨h1,e1,n1,g1,o1,f1⟩:=cU hB [aC n,vO,vR]
 obtain⟨h2,e2,n2,g2,o2,f2⟩:=cU n1 [aC n,uO,uR]
 obtain⟨P,e3,n3,g3,o3,f3⟩:=cU n2 [aC 0,.aE,.aE]
 have F3:=(f1.trans f2).trans f3
 have gB: ∀a,Fr P a->a.get B=aY [aC n,vO,vR]:=λa f=>by rw[f.get B om,o3 B om,o2 B om];exact g1
 have gC: ∀a,Fr P a->a.get (B+1)=aY [aC n,uO,uR]:=λa f=>by rw[f.get (B+1) om,o3 _ om];exact g2
 have gA: ∀a,Fr P a->a.get (B+1+1)=aY [aC 0,.aE,.aE]:=λa f=>by rw[f.get _ om];exact g3
 have r3:=Fr.refl P
 simp(disch:=omega)only[go_sem,qX,aD,aQ h (v:= aC n) (u:=vO) (w:=vR) rfl oO oR,hB,e1,aQ h1 (v:= aC n) (u:=uO) (w:=uR) rfl pO pR,n1,e2,n2,e3,aG (gB P r3),aG (gC P r3)]
 refine (SY _ _ n O O' R R' G G' P (L.mono F3) (Z.mono F3)).mono ?_
 rintro _ s ⟨rfl,f4⟩
 simp(disch:=omega)only[go_sem]
 refine bA (λhc=>(hc rfl).elim) (λ_=>?_)
 have F4:=F3.trans f4
 have fb:Fr s (H.mk s.tr (s.next+6)):=(Fr.refl s).bH om
 simp(disch:=omega)only[go_sem,aG (gB s f4),aG (gC s f4)]
 refine (xZ _ n O R G h _ L (F4.trans fb)).mono ?_
 rintro N h5 ⟨wA,y,pA,f5⟩
 have a0:=fb.trans f5
 have F5:=f4.trans a0
 have ec:dB uO uO=true/\dB uR uR=true:=by
  obtain⟨_,_,_,_,e,sO,_,_,sR,_,_⟩:=Z.cw;cases e;exact⟨SV.dB sO,SV.dB sR⟩
 simp(disch:=omega)only[go_sem,aG (gC h5 F5),ec.1,ec.2]
 refine (xZ _ n O' R' G' h h5 Z (F4.trans a0)).mono ?_
 rintro vb K ⟨wB,a8,pB,f6⟩
 have F6:=F5.trans f6
 have b9:=F3.trans F6
 have lA:=aM.length pA
 have lB:=aM.length pB
 have sA:=qZ hG L.isc
 have sB:=qZ a7 Z.isc
 have nn:n*n<=7*7:=Nat.mul_le_mul n7 n7
 obtain⟨A,hA⟩:=exI (bM R)
 obtain⟨C,hC⟩:=exI (bM R')
 have a2: ∀g∈A,bC n g:=λg hg=>hG.cX (bY L.isc (hA▸hg))
 have a6: ∀g∈C,bC n g:=λg hg=>a7.cX (bY Z.isc (hC▸hg))
 rw[hA] at pA lA sA
 rw[hC] at pB lB sB
 have d7: ∀a,Fr K a->SV a N 1 wA:=λa f=>y.sv.mono (f6.trans f)
 have b2: ∀a,Fr K a->SV a vb 1 wB:=λa f=>a8.sv.mono f
 have c8:bF N=some (aC (A.length:Int)):=by unfold bF;rw[SV.len y.sv (n:=A.length) om om];rfl
 have c2:bF vb=some (aC (C.length:Int)):=by unfold bF;rw[SV.len a8.sv (n:=C.length) om om];rfl
 have e0: ∀{i k},i<=A.length->k<=C.length->(BU A C i k).length<=50*49:=λ{i k} hi hk=>lX (JG hi hk) (Nat.mul_le_mul om om)
 simp(disch:=omega)only[go_sem,c8]
 obtain⟨b,hb⟩:=exI K.next
 refine bQ (λvs a=> ∃(j:V) (o:List V),(∃g:Nat->V,vs= [g 0,g 1,.ptr B 0,.ptr (B+1) 0,.ptr (B+1+1) 0,aC 0,g 6,N,vb,j,g 10,g 11,g 12,g 13,g 14,g 15,g 16,g 17,g 18,g 19,g 20,g 21])/\cQ a j 1 o K.next/\dW (λq=>q<b∨dD j q) a o (BY A C)/\Fr K a) ?_ ?_
 ·refine aI (λk' l a=> ∃(i:Nat) (j:V) (o:List V),(∃g:Nat->V,l= [g 0,g 1,.ptr B 0,.ptr (B+1) 0,.ptr (B+1+1) 0,aC 0,g 6,N,vb,j,g 10,g 11,g 12,g 13,N,aC (A.length:Int),aC i,g 17,g 18,g 19,g 20,g 21])/\i<=A.length/\cQ a j 1 o K.next/\dW (λq=>q<b∨dD j q) a o (BU A C i 0)/\Fr K a/\k'=A.length-i) A.length
   ⟨0,.aE, [],aB rfl,fR _,cQ.aE _ _ _,trivial,Fr.refl _,rfl⟩ ?_
  rintro k' l a ⟨i,j,o,⟨g,rfl⟩,hi,t,pv,F,rfl⟩
  by_cases b3:(i:Int)<(A.length:Int)
  case neg=>
   have d1:=bE b3;obtain rfl:i=A.length:=om
   simp(disch:=omega)only[go_sem,d1];exact⟨j,o,aB rfl,t,by rw[GY] at pv;exact pv,F⟩
  have d1:=bN b3
  have Q:i<A.length:=om
  obtain⟨d8,b0,c6,b6,b8⟩:=(d7 a F).shape A.length om om
  have cA:a.cell d8 (b0+i)=some (wA.getD i V.undef):=by rw[b8 i om,List.getD,dF om];rfl
  have Xg:=dW.aiN pA Q
  have P1:=a2 _ (aW (d:= []) Q)
  generalize wA.getD i V.undef=vp at cA Xg
  simp(disch:=omega)only[go_sem,d1,c6.ixa,cA,c2]
  refine aI (λk' l a=> ∃(k:Nat) (j:V) (o:List V),(∃g:Nat->V,l= [g 0,g 1,.ptr B 0,.ptr (B+1) 0,.ptr (B+1+1) 0,aC 0,g 6,N,vb,j,vp,g 11,g 12,g 13,N,aC (A.length:Int),aC i,g 17,vb,aC (C.length:Int),aC k,g 21])/\k<=C.length/\cQ a j 1 o K.next/\dW (λq=>q<b∨dD j q) a o (BU A C i k)/\Fr K a/\k'=C.length-k) C.length
   ⟨0,j,o,aB rfl,fR _,t,pv,F,rfl⟩ ?_
  clear t pv F cA b8 b6
  rintro k' l a1 ⟨k,j,o,⟨g,rfl⟩,hk,t,pv,F,rfl⟩
  by_cases b5:(k:Int)<(C.length:Int)
  case neg=>
   have d2:=bE b5;obtain rfl:k=C.length:=om
   simp(disch:=omega)only[go_sem,d2];rw[dU i];exact⟨A.length-(i+1),om,i+1,j,o,aB rfl,om,t,by rw[GS A C Q] at pv;exact pv,F,rfl⟩
  have d2:=bN b5
  have a4:k<C.length:=om
  obtain⟨d0,b1,e5,e6,d3⟩:=(b2 a1 F).shape C.length om om
  have cC:a1.cell d0 (b1+k)=some (wB.getD k V.undef):=by rw[d3 k om,List.getD,dF om];rfl
  have sq:=(dW.aiN pB a4).mono (b9.trans F)
  have Q1:=a6 _ (aW (d:= []) a4)
  generalize wB.getD k V.undef=vq at cC sq
  simp(disch:=omega)only[go_sem,d2,e5.ixa,cC]
  have sp:=Xg.mono (b9.trans F)
  refine (PH vp vq n _ _ a1 n0 om P1 Q1 sp sq).mono ?_
  rintro _ c9 ⟨w,rfl,pw,Y⟩
  have ll:=e0 (i:=i) (k:=k) om om
  have l9:=aM.length pv
  obtain⟨f9,a3,c3,c7,c4,g4⟩:=DC (x:=iQ (A.getD i []) (C.getD k [])) (v:=w) (t.fr Y) (F.trans Y) om (b:=b) om (dW.fr pv Y) (PV.UN t (by have:=F.next;omega) pw)
  have wx:=SV.cF pw.si
  simp(disch:=omega)only[go_sem,bZ c9 (z:= .aE) wx.1 wx.2.1,a3]
  rw[dU k]
  exact⟨C.length-(k+1),om,k+1,_,_,aB rfl,om,c3,by rw[Zv A C a4];exact c7,c4,rfl⟩
 rintro l a ⟨j,o,⟨g,rfl⟩,t,pv,F⟩
 have l9:=aM.length pv
 rw[Ff] at l9
 have e9:A.length*C.length<=49*49:=Nat.mul_le_mul om om
 have c0:=F6.trans F
 have e7:=F3.trans c0
 have a5:Fr a (H.mk a.tr (a.next+12)):=(Fr.refl a).bH om
 have g0:(H.mk s.tr (s.next+6)).next=s.next+6:=rfl
 have f7:s.next+6<=h5.next:=f5.next
 have e8:=f6.next
 have nF:=F.next
 have nb:(H.mk a.tr (a.next+12)).next=a.next+12:=rfl
 have FA:Fr h5 (H.mk a.tr (a.next+12)):=f6.trans (F.trans a5)
 obtain⟨vl,r,d5,Ap⟩:=cQ.app (h:=H.mk a.tr (a.next+12)) (bytes:=24) (b:=s.next) ((y.fr FA).le om) om ((b2 a F).mono a5) (n:=A.length) (m:=C.length) om om om om
 have nq:=Ap.next
 have aA: ∀k,b<=k->cZ N k:=λk hk f0 d9 m c e e2=>by have:=(y.in _ _ _ _ e).1;omega
 have b7:Fx (λq=>q<b) a r:=⟨om,λq h1 h2=>Ap.get q om (aA q om)⟩
 have e4:Fr s r:=Ap.fr s (a0.trans (f6.trans (F.trans a5))) (eH _)
 have J:Fr P r:=f4.trans e4
 have a9:Fr h r:=F3.trans J
 have cB:WU (r.cell B 0) (aC n)=true:=by rw[H.aF (gB r J)];simp [WU,dB]
 have c1:SP r j (BY A C):=by
  refine dW.Xg (W:=λq=>q<b) (SV.fx t.sv (W:=λq=>q<b) ?_ b7) (aM.mono (λ_ _ p=>PV.go p (Fx.wide b7 λq h=> .inl h) λq _ h=> .inl h) pv)
  cases j with
  |sl id d9 m c=>exact λ(e:id<b)=>by have:=(t.in _ _ _ _ rfl).2.1;omega
  |_=>trivial
 have d4:SP r vl (A++C):=dW.Xg (W:=λ_=>False) Ap.own.sv (aM.append (aM.mono (λ_ _ p=>⟨p.si.mono a9,uD _⟩) pA) (aM.mono (λ_ _ p=>⟨p.si.mono a9,uD _⟩) pB))
 simp(disch:=omega)only[go_sem,H.aF (gB a c0),d5]
 refine⟨cB,?_⟩
 refine (Sx j vl n (BY A C) (A++C) r n0 n7 (λg hg=>?_) (λg hg=>(kT.1 hg).elim (a2 g) (a6 g)) (by rw[Ff];omega) (by rw[iA];omega) c1 d4).mono ?_
 ·obtain⟨p,hp,q,r,rfl⟩:=Cd.1 hg
  exact wY (a2 p hp) (a6 q r)
 rintro _ hr ⟨D,rfl,hD,bd,fr⟩
 obtain⟨xO,xR,O2,R2,gD,U⟩:=bd.ex
 obtain⟨_,c5,d6⟩:=U.one
 have f8:=fr.next
 have b4:=J.trans fr
 obtain⟨hs,es,ns,gs,os⟩:=mD hr (B+1+1) [aC n,xO,xR]
 simp(disch:=omega)only[go_sem,aG gD,bI hr (B+1+1) 0 (v:= aC n) (u:=xO) (w:=xR) rfl c5 d6,gA hr b4,bG,es,aG gs]
 have q3:=J.next
 refine⟨_,O2,R2,rfl,?_,⟨om,λq r=>by rw[os q om,b4.get q om];exact F3.get q r⟩⟩
 have e1:(λx=>x∈BY A C)=(λx=> ∃p,p∈A/\ ∃q,q∈C/\x=iQ p q):=funext λx=>propext Cd
 have e2:(λx=>x∈A++C)=(λx=>x∈A∨x∈C):=funext λx=>propext kT
 rw[e1,e2] at U
 unfold Au
 rw[hA,hC]
 exact U.go ⟨om,λq h1 h2=>os q λe=>h2 (.inl om)⟩ λq _ h=> .inl om
theorem wE {W:Nat->Prop}(vc:V)(n:Nat)(O:LN)(R:fM)(G:List Nat->Prop)(h:H)(f:GC W h vc n O R G):
  Ev T 65 [vc] h (λv h'=>v= aC (fV O n 0:Nat)/\Fr h h'):=by
 obtain⟨s,U,k,a1,rfl,t,oO,Z,sR,oR,aR⟩:=f.cw
 refine cT Dd rfl ?_
 have l:=(SV.cF t).2.1
 have p:=(SV.cF sR).2.1
 have d:=f.isc
 have n7:=f.n7
 have a0:=fK f
 have lO:=aM.length Z
 rw[d.lo] at lO
 obtain⟨B,N⟩:=exI h.next
 obtain⟨P,e1,n1,g1,o1,A⟩:=cU N [aC n,s,U]
 have y:bF s=some (aC n):=by unfold bF;rw[SV.len t (n:=n) om om];rfl
 obtain⟨F,r,z,o,cO⟩:=SV.shape t n om om
 simp(disch:=omega)only[go_sem,Dd,aD,aQ h (v:= aC n) (u:=s) (w:=U) rfl l p,N,e1,H.aF g1,y]
 refine aI (λk' b L=> ∃(i a:Nat),(∃g:Nat->V,b= [g 0,g 1,g 2,aC a,g 4,s,aC n,aC i,g 8])/\i<=n/\a*fV O (n-i) i=fV O n 0/\L=P/\k'=n-i) n
  ⟨0,1,aB rfl,fR _,by rw[Nat.one_mul];rfl,rfl,rfl⟩ ?_
 rintro k' b L ⟨i,a,⟨g,rfl⟩,hi,e,rfl,rfl⟩
 by_cases q:(i:Int)<(n:Int)
 case neg=>
  have J:=bE q;obtain rfl:i=n:=om
  simp(disch:=omega)only[go_sem,J];rw[Nat.sub_self] at e;have:fV O 0 i=1:=rfl;rw[this,uH] at e;exact⟨by rw[e],A⟩
 have J:=bN q
 have c:i<n:=om
 have x:=aM.get Z i om (by rw[d.lo];exact c)
 rw[show O[i]'(by rw[d.lo];exact c)=O.getD i [] from mG _] at x
 have Q:L.cell F (r+i)=some (k[i]'om):=by
  rw[A.cell (o om),cO i om,dF om]
 generalize k[i]'om=vo at x Q
 have K:=(x.si.mono A).lens
 rw[aN] at K
 obtain⟨r1,r2⟩:=f.row c
 have st:fV O (n-i) i=(O.getD i []).length*fV O (n-(i+1)) (i+1):=by
  rw[show n-i=(n-(i+1))+1 by omega];rfl
 have pos:=xX (O:=O) (n-(i+1)) (i+1) (λj P h2=>(f.row om).1)
 obtain⟨m,Y⟩:=exI ((O.getD i []).length)
 rw[st,←Nat.mul_assoc,Y] at e
 rw[Y] at K
 have bd:a*m<=fV O n 0:=by rw[←e];exact Nat.le_mul_of_pos_right _ pos
 have em:(a:Int)*(m:Int)=((a*m:Nat):Int):=rfl
 obtain⟨w,hw⟩:=exI (a*m)
 rw[hw] at em bd e
 simp(disch:=omega)only[go_sem,J,z.ixa,Q,K,em]
 rw[dU i]
 exact⟨n-(i+1),om,i+1,w,aB rfl,om,e,rfl⟩
theorem UF (j:V)(d:Int)(O:List (List Int))(R:List (List (List Int)))(h:H)(g:Ig h j d O R)(m:d<=7∨64<d)(r:jK O)(sr:lK R)(n:jL d O R≠0):
  Ev T 119 [j] h (λv h'=>v= .tup [aC 0,aC (jL d O R)]/\Fr h h'):=by
 have f:=g
 obtain⟨e,c,rfl,x,l⟩:=g
 refine cT vA rfl ?_
 have b:e.one=true:=Vu x
 have a:c.one=true:=Rd l
 obtain⟨B,i⟩:=exI h.next
 obtain⟨q,o,y,t,z,k⟩:=cU i [aC d,e,c]
 simp(disch:=omega)only[go_sem,vA,aD,aQ h (v:= aC d) (u:=e) (w:=c) rfl b a,i,o,aG t]
 refine (Yu _ d O R q (f.mono k) m r sr).mono ?_
 rintro _ A ⟨rfl,p⟩
 have s:=bN n
 simp(disch:=omega)only[go_sem,s]
 exact k.trans p
theorem Ta (k:V)(d:Int)(O:List (List Int))(R:List (List (List Int)))(h:H)(g:Ig h k d O R)(n:d<=7∨64<d)(r:jK O)(sr:lK R)(i:jL d O R≠0):
  Ev T 74 [k] h (λv h'=>v= .tup [aC 0,aC (jL d O R)]/\Fr h h'):=by
 have f:=g
 obtain⟨e,c,rfl,x,m⟩:=g
 refine cT oE rfl ?_
 have b:e.one=true:=Vu x
 have a:c.one=true:=Rd m
 obtain⟨B,j⟩:=exI h.next
 obtain⟨q,o,y,t,z,l⟩:=cU j [aC d,e,c]
 simp(disch:=omega)only[go_sem,oE,aD,aQ h (v:= aC d) (u:=e) (w:=c) rfl b a,j,o,aG t]
 refine (UF _ d O R q (f.mono l) n r sr i).mono ?_
 rintro _ A ⟨rfl,p⟩
 have s:=bE i
 simp(disch:=omega)only[go_sem,s,rD]
 exact l.trans p
theorem AA {W:Nat->Prop}(e:V)(n:Nat)(O:LN)(R:fM)(G:List Nat->Prop)(h:H)(a:GC W h e n O R G):
  Ev T 74 [e] h (λv h'=>v= .tup [aC (fV O n 0:Nat),aC 0]/\Fr h h'):=by
 obtain⟨c,b,rfl,i,g⟩:=a.shape
 refine cT oE rfl ?_
 have j:=fK a
 obtain⟨B,d⟩:=exI h.next
 obtain⟨m,k,q,p,r,f⟩:=cU d [aC n,c,b]
 simp(disch:=omega)only[go_sem,oE,aD,aQ h (v:= aC n) (u:=c) (w:=b) rfl i g,d,k,aG p]
 refine (aaR _ n O R G m (a.mono f)).mono ?_
 rintro _ s ⟨rfl,l⟩
 have o:decide ((5040:Int)<((fV O n 0:Nat):Int))=false:=bE om
 simp(disch:=omega)only[go_sem,o,eq_self,decide_true]
 exact f.trans l
abbrev oQ:=LN×fM
def Mr (n:Nat)(w:Bool)(c d:oQ):List Nat->Prop:=Au n d.2 (if w then c.2 else d.2)
structure uF (n:Nat)(w:Bool)(c:oQ)(l:List oQ):Prop where
 hd:l[0]? =some c
 st: ∀k d e,l[k]? =some d->l[k+1]? =some e->aZ n (Mr n w c d) e.1 e.2/\e≠d
 en: ∀d,l[l.length- 1]? =some d->aZ n (Mr n w c d) d.1 d.2
theorem uF.uniq {n:Nat}{w:Bool}{c:oQ}{l m:List oQ}(a:uF n w c l)(b:uF n w c m):l=m:=by
 have one: ∀{d e f:oQ},aZ n (Mr n w c d) e.1 e.2->aZ n (Mr n w c d) f.1 f.2->e=f:=λh k=>by
  obtain⟨u,g⟩:=h.uniq k;exact Prod.ext u g
 have y:0<l.length:=by
  cases l with
  |nil=>exact absurd a.hd (by simp)
  |cons x r=>simp
 have lb:0<m.length:=by
  cases m with
  |nil=>exact absurd b.hd (by simp)
  |cons x r=>simp
 have q: ∀k,(k<l.length↔k<m.length)/\l[k]? =m[k]? :=by
  intro k
  induction k with
  |zero=>exact⟨⟨λ_=>lb,λ_=>y⟩,by rw[a.hd,b.hd]⟩
  |succ k ih=>
   obtain⟨o,j⟩:=ih
   have i: ∀{l m:List oQ},uF n w c l->uF n w c m->(k<l.length↔k<m.length)->l[k]? =m[k]? ->k+1<l.length->k+1<m.length/\l[k+1]? =m[k+1]? :=λ{l m} a b o j h=>by
    have p:k<l.length:=om
    have z:=o.1 p;have s:=a.st k _ _ (dF p) (dF h);have v:m[k]? =some l[k]:=by rw[←j];exact dF p
    by_cases g:k+1<m.length
    ·have t:=b.st k _ _ v (dF g)
     exact⟨g,by rw[dF h,dF g,one s.1 t.1]⟩
    ·have t:=b.en l[k] (by rw[show m.length- 1=k by omega];exact v)
     exact absurd (one s.1 t) s.2
   by_cases h:k+1<l.length
   ·obtain⟨u,g⟩:=i a b o j h
    exact⟨⟨λ_=>u,λ_=>h⟩,g⟩
   ·have g: ¬k+1<m.length:=λg=>h (i b a o.symm j.symm g).1
    exact⟨⟨λx=>absurd x h,λx=>absurd x g⟩,by rw[List.getElem?_eq_none om,List.getElem?_eq_none om]⟩
 exact List.ext_getElem? λk=>(q k).2
theorem ZY {G K:List Nat->Prop}{L M:LN}(E:dZ G L)(F:dZ K M)(h: ∀x,K x->G x)(i:M.length=L.length)(x:List Nat):G x↔K x:=by
 refine⟨λd=>?_,h x⟩;have f: ∀y∈M,y∈L:=λy a=>(E.mem y).2 (h y ((F.mem y).1 a))
 refine (F.mem x).1 ?_;have c:=(E.mem x).2 d;apply Kh;intro g
 have b: ∀y∈M,y∈L.erase x:=λy a=>by
  have ne:y≠x:=λe=>by subst e;exact g a
  exact (List.mem_erase_of_ne ne).2 (f y a)
 have:=List.Nodup.length_le_of_subset F.nodup b;rw[List.length_erase_of_mem c] at this;have:=KH c;omega
section
variable {n:Nat} {w:Bool} {c d e:oQ} {Gc Gd:List Nat->Prop}
structure Dx (n:Nat)(w:Bool)(Gc:List Nat->Prop)(d:oQ)(Gd:List Nat->Prop):Prop where
 dH:iJ n Gd
 isc:aZ n Gd d.1 d.2
 le: ∀x,Gd x->Gc x
 norm:w=true-> ∀y b,Gd y->Gc b->Gd (cW y b)
theorem Dx.first (a:iJ n Gc)(g:aZ n Gc c.1 c.2):Dx n w Gc c Gc:=
 ⟨a,g,λ_ h=>h,λ_ y b i f=>a.mul (a.mul (a.inv f) i) f⟩
theorem Dx.nx (g:iJ n Gc)(f:aZ n Gc c.1 c.2)(x:Dx n w Gc d Gd):iJ n (Mr n w c d)/\(∀y,Mr n w c d y->Gd y)/\(w=true-> ∀y b,Mr n w c d y->Gc b->Mr n w c d (cW y b)):=by
 unfold Mr
 cases w with
 |false=>exact⟨Au.dH x.dH x.dH x.isc x.isc,λy a=>Au.self x.dH x.isc a,λh=>by cases h⟩
 |true=>exact⟨Au.dH x.dH g x.isc f,λy a=>Au.le x.dH g x.isc f (x.norm rfl) a,λ_ y b a i=>Au.norm x.dH g x.isc f a i⟩
theorem Dx.next (a:iJ n Gc)(b:aZ n Gc c.1 c.2)(x:Dx n w Gc d Gd)(i:aZ n (Mr n w c d) e.1 e.2):Dx n w Gc e (Mr n w c d):=by
 obtain⟨f,h,j⟩:=x.nx a b;exact⟨f,i,λy g=>x.le y (h y g),j⟩
theorem Dx.size (q:iJ n Gc)(m:aZ n Gc c.1 c.2)(x:Dx n w Gc d Gd)(l:aZ n (Mr n w c d) e.1 e.2):fV e.1 n 0<=fV d.1 n 0/\(fV e.1 n 0=fV d.1 n 0->e=d):=by
 obtain⟨o,k,_⟩:=x.nx q m;obtain⟨j,i⟩:=dL x.dH x.isc;obtain⟨f,g⟩:=dL o l;refine⟨?_,λh=>?_⟩
 ·rw[←i,←g]
  exact List.Nodup.length_le_of_subset f.nodup λy p=>(j.mem y).2 (k y ((f.mem y).1 p))
 ·have:=ZY j f k (by rw[i,g,h])
  obtain⟨a,b⟩:=(l.congr λy=>(this y).symm).uniq x.isc;exact Prod.ext a b
structure Jz (n:Nat)(w:Bool)(c:oQ)(l:List oQ)(d:oQ):Prop where
 hd:l= []->d=c
 h0:l≠ []->l[0]? =some c
 st: ∀k d e,l[k]? =some d->l[k+1]? =some e->aZ n (Mr n w c d) e.1 e.2/\e≠d
 la: ∀e,l[l.length- 1]? =some e->aZ n (Mr n w c e) d.1 d.2
theorem Jz.start:Jz n w c [] c:=⟨λ_=>rfl,λh=>absurd rfl h,λk d e h=>by simp at h,λe h=>by simp at h⟩
theorem Jz.push {l:List oQ}(s:Jz n w c l d)(i: ∀e,l[l.length- 1]? =some e->d≠e)(p:aZ n (Mr n w c d) e.1 e.2):Jz n w c (l++ [d]) e:=by
 refine⟨λh=>by simp at h,λ_=>?_,λk a b f g=>?_,λa f=>?_⟩
 ·cases l with
  |nil=>rw[s.hd rfl];rfl
  |cons x r=>have:=s.h0 (by simp);simpa using this
 ·by_cases m:k+1<l.length
  ·rw[Ej m] at g
   rw[Ej om] at f;exact s.st k a b f g
  ·have o:k+1=l.length:=by
    have:=(zG.1 g).1;simp at this;omega
   rw[Ej om] at f;rw[o,Eb om,Nat.sub_self] at g;have g:d=b:=by simpa using g
   subst g;have j:l[l.length- 1]? =some a:=by rw[show l.length- 1=k by omega];exact f
   exact⟨s.la a j,i a j⟩
 ·have:a=d:=by
   rw[iA,show l.length+ [d].length- 1=l.length from rfl,Eb om,Nat.sub_self] at f;simpa using f.symm
  rw[this];exact p
theorem Jz.done {l:List oQ}(s:Jz n w c l d)(b:l≠ [])(h:l[l.length- 1]? =some d):uF n w c l:=
 ⟨s.h0 b,s.st,λe a=>by rw[h] at a;cases a;exact s.la d h⟩
end
def NxF (n:Nat)(w:Bool)(c:oQ)(h:H)(F:Nat)(caps:List V):Prop:=
 ∀(hh:H) (vd:V) (W:Nat->Prop) (d:oQ) (Gd:List Nat->Prop),Fr h hh->GC W hh vd n d.1 d.2 Gd->
  Ev T F (vd::caps) hh (λv h'=> ∃(p:V×V) (e:oQ),v= .agg [aC n,p.1,p.2]/\GC (λq=>q<hh.next) h' v n e.1 e.2 (Mr n w c d)/\Fr hh h')
theorem XN (n:Nat)(c:oQ)(h:H):NxF n false c h 77 []:=by
 intro L vd W d F _ t;obtain⟨m,l,rfl,oO,N⟩:=t.shape;refine cT tF rfl ?_;obtain⟨B,z⟩:=exI L.next;obtain⟨h1,Y,A,g1,o1,f1⟩:=cU z [aC n,m,l];obtain⟨i,U,n2,g2,x,Z⟩:=cU A [aC 0,.aE,.aE];have s:i.get B=aY [aC n,m,l]:=by rw[x B om];exact g1
 simp(disch:=omega)only[go_sem,tF,aD,aQ L (v:= aC n) (u:=m) (w:=l) rfl oO N,z,Y,A,U,aG s];have F2:=f1.trans Z;refine (Yl _ _ n d.1 d.1 d.2 d.2 F F i (t.mono F2) (t.mono F2)).mono ?_;rintro _ h3 ⟨vr,P,O,rfl,J,k⟩;obtain⟨b,e,rfl,f,g⟩:=J.shape;have n3:=k.next;obtain⟨S,K⟩:=exI h3.next;obtain⟨G,e4,n4,g4,o,f4⟩:=cU K [aC 0,.aE,.aE];obtain⟨p,e5,n5,g5,r⟩:=mD G S [aC n,b,e];have j:p.get (B+1)=aY [aC 0,.aE,.aE]:=by rw[r _ om,o _ om,k.get _ om];exact g2
 obtain⟨h6,Q,n6,g6,y⟩:=mD p (B+1) [aC n,b,e];simp(disch:=omega)only[go_sem,K,e4,bI G S 0 (v:= aC n) (u:=b) (w:=e) rfl f g,g4,bG,e5,aG g5,bI p (B+1) 0 (v:= aC n) (u:=b) (w:=e) rfl f g,j,Q,aG g6];refine⟨(b,e),(P,O),rfl,?_,⟨om,λq hq=>by rw[y q om,r q om,o q om,k.get q om,x q om,o1 q om]⟩⟩;refine J.go ⟨om,λq R a=>?_⟩ λq _ (h:q<B)=>by show q<i.next;omega
 have a: ¬q<i.next:=a;rw[y q om,r q om,o q om]
theorem XP {W0:Nat->Prop}(n:Nat)(c:oQ)(h:H)(l:Nat)(a b:V)(Y:List Nat->Prop)(z:h.get l=aY [aC n,a,b])(p:l<h.next)(g0:GC W0 h (.agg [aC n,a,b]) n c.1 c.2 Y):NxF n true c h 81 [.ptr l 0]:=by
 intro N vd W d Gd y L;obtain⟨F,A,rfl,oO,Z⟩:=L.shape;refine cT wC rfl ?_;obtain⟨B,Q⟩:=exI N.next;have nh:=y.next;obtain⟨h1,e1,J,g1,o1,f1⟩:=cU Q [aC n,F,A];obtain⟨f,e2,n2,g2,O,f2⟩:=cU J [aC 0,.aE,.aE];have G:f.get B=aY [aC n,F,A]:=by rw[O B om];exact g1
 have F2:=f1.trans f2;have r:f.get l=aY [aC n,a,b]:=by rw[(y.trans F2).get l p];exact z
 simp(disch:=omega)only[go_sem,wC,aD,aQ N (v:= aC n) (u:=F) (w:=A) rfl oO Z,Q,e1,J,e2,aG G,aG r];refine (Yl _ _ n d.1 c.1 d.2 c.2 Gd Y f (L.mono F2) (g0.mono (y.trans F2))).mono ?_;rintro _ h3 ⟨vr,O2,R2,rfl,K,o⟩;obtain⟨j,k,rfl,e,g⟩:=K.shape;have n3:=o.next;obtain⟨S,U⟩:=exI h3.next;obtain⟨R,e4,n4,g4,s,f4⟩:=cU U [aC 0,.aE,.aE];obtain⟨t,e5,n5,g5,x⟩:=mD R S [aC n,j,k];have m:t.get (B+1)=aY [aC 0,.aE,.aE]:=by rw[x _ om,s _ om,o.get _ om];exact g2
 obtain⟨h6,e6,n6,g6,P⟩:=mD t (B+1) [aC n,j,k];simp(disch:=omega)only[go_sem,U,e4,bI R S 0 (v:= aC n) (u:=j) (w:=k) rfl e g,g4,bG,e5,aG g5,bI t (B+1) 0 (v:= aC n) (u:=j) (w:=k) rfl e g,m,e6,aG g6];refine⟨(j,k),(O2,R2),rfl,?_,⟨om,λq hq=>by rw[P q om,x q om,s q om,o.get q om,O q om,o1 q om]⟩⟩;refine K.go ⟨om,λq a0 i=>?_⟩ λq _ (h:q<B)=>by show q<f.next;omega
 have i: ¬q<f.next:=i;rw[P q om,x q om,s q om]
def Kk (n:Nat)(ls:List (V×V)):List V:=ls.flatMap λp=> [aC n,p.1,p.2]
theorem Um (n:Nat)(a b:List (V×V)):Kk n (a++b)=Kk n a++Kk n b:=by unfold Kk;rw[List.flatMap_append]
theorem iS (n:Nat)(ls:List (V×V)):(Kk n ls).length=ls.length*3:=by
 induction ls with
 |nil=>rfl
 |cons a r ih=>
  unfold Kk at ih ⊢;rw[List.flatMap_cons,iA,ih,List.length_cons,List.length_cons,List.length_cons,List.length_cons,List.length_nil];omega
theorem XD {n:Nat}: ∀{ls:List (V×V)} {i:Nat} (hi:i<ls.length),(Kk n ls)[i*3]? =some (aC n)/\(Kk n ls)[i*3+1]? =some ls[i].1/\(Kk n ls)[i*3+2]? =some ls[i].2
 |p::r,0,_=>⟨rfl,rfl,rfl⟩
 |p::r,i+1,hi=>by
  have:=XD (n:=n) (ls:=r) (i:=i) (by simpa using hi);have e:Kk n (p::r)= [aC n,p.1,p.2]++Kk n r:=rfl;rw[e];refine⟨?_,?_,?_⟩
  ·rw[Eb (by show 3<=(i+1)*3;omega)]
   rw[show (i+1)*3- [aC n,p.1,p.2].length=i*3 from by show (i+1)*3- 3=i*3;omega];exact this.1
  ·rw[Eb (by show 3<=(i+1)*3+1;omega)]
   rw[show (i+1)*3+1- [aC n,p.1,p.2].length=i*3+1 from by show (i+1)*3+1- 3=i*3+1;omega];exact this.2.1
  ·rw[Eb (by show 3<=(i+1)*3+2;omega)]
   rw[show (i+1)*3+2- [aC n,p.1,p.2].length=i*3+2 from by show (i+1)*3+2- 3=i*3+2;omega];exact this.2.2
def YG (C1 P id:Nat)(vl:V)(q:Nat):Prop:=q=C1∨q=P∨q=id∨dD vl q
def GD (W:Nat->Prop)(h:H)(n:Nat)(w:Bool)(Gc:List Nat->Prop)(p:V×V)(e:oQ):Prop:= ∃G,GC W h (.agg [aC n,p.1,p.2]) n e.1 e.2 G/\Dx n w Gc e G
theorem GD.go {W W':Nat->Prop}{h h':H}{n:Nat}{w:Bool}{a:List Nat->Prop}{p:V×V}{e:oQ}(g:GD W h n w a p e)(f:Fx W h h')(b: ∀q,q<h.next->W' q->W q):GD W' h' n w a p e:=by
 obtain⟨G,c,x⟩:=g;exact⟨G,c.go f b,x⟩
structure ZN (h0 hh:H)(C1 C2 K P id:Nat)(r:dY)(f:V)(n:Nat)(w:Bool)(Gc:List Nat->Prop)(l:List oQ)(d:oQ):Prop where
 ex: ∃vl ls p,hh.get P=aY [vl]/\cQ hh vl 3 (Kk n ls) 0/\(∀q,dD vl q->h0.next<=q/\q≠C1/\q≠C2/\q≠K/\q≠P/\q≠id/\q<hh.next)/\aM (GD (YG C1 P id vl) hh n w Gc) ls l/\hh.get C1=aY [aC n,p.1,p.2]/\GD (YG C1 P id vl) hh n w Gc p d
 k:hh.get K=aY [.fn 65 [] []]
 c2:hh.get C2=aY [f]
 gr:hh.get id=some (.loop r)
 fr:Fr h0 hh
 nx:id<hh.next
def muS (n:Nat)(l:List oQ):Nat:=match l[l.length- 1]? with|none=>6000|some e=>fV e.1 n 0
theorem ZL (n:Nat)(l:List oQ)(d:oQ):muS n (l++ [d])=fV d.1 n 0:=by
 unfold muS
 have:(l++ [d])[(l++ [d]).length- 1]? =some d:=by
  rw[iA,show l.length+ [d].length- 1=l.length from rfl,Eb om,Nat.sub_self];rfl
 rw[this]
theorem ZN.at {g c:H}{h k K P id:Nat}{r:dY}{f:V}{n:Nat}{w:Bool}{b:List Nat->Prop}{l:List oQ}{d:oQ}(j:ZN g c h k K P id r f n w b l d){i:Nat}{e:oQ}(m:l[i]? =some e): ∃W p,GD W c n w b p e:=by
 obtain⟨q,o,p,_,_,_,a,_⟩:=j.ex;obtain⟨hi,rfl⟩:=zG.1 m;have:=aM.length a;exact⟨_,_,aM.get a i om hi⟩
theorem PK (W:H)(f y K P id:Nat)(r:dY)(F:Nat)(m:List V)(n:Nat)(w:Bool)(c:oQ)(U:List Nat->Prop)(hG:iJ n U)(hc:aZ n U c.1 c.2)(nx:NxF n w c W F m)(J:W.next<=f)(ho:f<id/\y<id/\K<id/\P<id)(L:f≠y/\f≠K/\f≠P)(h:H)(j0:ZN W h f y K P id r (.fn F [] m) n w U [] c)(Q:H->Prop)
  (hy: ∀l d hh (p:V×V),ZN W hh f y K P id r (.fn F [] m) n w U l d->hh.get f=aY [aC n,p.1,p.2]->Jz n w c l d->Ey T id [.agg [aC n,p.1,p.2]] hh (λv h'=>v= .bool true/\ZN W h' f y K P id r (.fn F [] m) n w U (l++ [d]) d/\(∀e,l[l.length- 1]? =some e->d≠e)∨v= .bool false/\Q h')):
  Ev T 120 [.yl id,.ptr f 0,.ptr y 0] h (λ_ h'=>Q h'):=by
 refine cT tX rfl ?_
 simp(disch:=omega)only[go_sem,tX,aD]
 refine aI (λk' A hh=> ∃(l:List oQ) (d:oQ),(∃g:Nat->V,A= [.yl id,.ptr f 0,.ptr y 0,g 3])/\ZN W hh f y K P id r (.fn F [] m) n w U l d/\Jz n w c l d/\k'=muS n l) 6000
  ⟨[],c,aB rfl,j0,Jz.start,rfl⟩ ?_
 rintro k' A hh ⟨l,d,⟨g,rfl⟩,j,s,rfl⟩
 obtain⟨vl,ls,p,gP,ow,bl,al,Y,gd⟩:=j.ex
 simp(disch:=omega)only[go_sem,aG Y]
 refine (hy l d hh p j Y s).mono ?_
 rintro _ o (⟨rfl,t,z⟩|⟨rfl,q2⟩)
 case inr=>
  simp(disch:=omega)only[go_sem];exact q2
 obtain⟨O,b0,p2,a1,a3,N,a8,Z,a6⟩:=t.ex
 obtain⟨Gd,G,dx⟩:=a6
 obtain⟨_,b5,b3⟩:=G.one
 simp(disch:=omega)only[go_sem,H.aF t.c2,aG Z]
 refine (nx o _ _ d Gd t.fr G).mono ?_
 rintro _ h3 ⟨p3,e,rfl,B,f3⟩
 obtain⟨_,a9,a0⟩:=B.one
 have n3:=f3.next
 have b1:=t.nx
 have a7:h3.get f=aY [aC n,p2.1,p2.2]:=by rw[f3.get f om];exact Z
 obtain⟨h4,e4,n4,g4,o4⟩:=mD h3 f [aC n,p3.1,p3.2]
 simp(disch:=omega)only[go_sem,bI h3 f 0 (v:= aC n) (u:=p3.1) (w:=p3.2) rfl a9 a0,a7,bG,e4]
 have hE:=B.isc
 have b4:=fK G
 have a4:muS n (l++ [d])<muS n l:=by
  rw[ZL];unfold muS
  cases hl:l[l.length- 1]? with
  |none=>show fV d.1 n 0<6000;omega
  |some a=>
   obtain⟨_,_,Ga,b2,a2⟩:=j.at hl;have:=a2.size hG hc (s.la a hl);have ne:fV d.1 n 0≠fV a.1 n 0:=λh=>z a hl (this.2 h)
   show fV d.1 n 0<fV a.1 n 0;omega
 have fx:Fx (YG f P id O) o h4:=⟨om,λq J o=>by rw[o4 q λe=>o (.inl e),f3.get q J]⟩
 have R: ∀q,q<o.next->q≠f->h4.get q=o.get q:=λq J o=>by rw[o4 q o,f3.get q J]
 refine⟨_,a4,l++ [d],e,aB rfl,⟨⟨O,b0,p3,by rw[R P om (Ne.symm L.2.2)];exact a1,a3.mono om λq _ _ _ ee _ J=>R q J (N q ⟨_,_,_,ee⟩).2.1,λq hq=>by obtain⟨a,b,c,d,e,g,i⟩:=N q hq;exact⟨a,b,c,d,e,g,om⟩,aM.mono (λ_ _ x=>x.go fx λ_ _ h=>h) a8,g4,Mr n w c d,?_,dx.next hG hc hE⟩,by rw[R K om (Ne.symm L.2.1)];exact t.k,by rw[R y om (Ne.symm L.1)];exact t.c2,by rw[R id om om];exact t.gr,⟨by have:=t.fr.next;omega,λq hq=>by rw[R q (by have:=t.fr.next;omega) om];exact t.fr.get q hq⟩,om⟩,s.push z hE,rfl⟩
 have a5: ∀q,YG f P id O q->q<o.next:=λq h=>by
  rcases h with h|h|h|h
  ·omega
  ·omega
  ·omega
  ·exact (N q h).2.2.2.2.2.2
 exact B.go ⟨om,λq J o=>o4 q λe=>o (by show q<_;omega)⟩ λq _ h=>a5 q h
theorem Rz {h:H}{id o:Nat}{a b c:V}(g:h.cell id o=some a)(f:h.cell id (o+1)=some b)(d:h.cell id (o+2)=some c):h.row id o 3=some [a,b,c]:=by
 unfold H.cell at g f d;unfold H.row;split at g
 ·rename_i p i e
  rw[e] at f d;have f:i[o+1]? =some b:=f;have d:i[o+2]? =some c:=d;obtain⟨k,m⟩:=zG.1 g;obtain⟨lb,l⟩:=zG.1 f;obtain⟨j,n⟩:=zG.1 d;rw[e];simp only[sub];rw[bJ om,BT k,BT lb,BT j,m,l,n]
  rfl
 ·cases g
theorem uM {h:H}{v:V}{n:Nat}{ls:List (V×V)}(s:SV h v 3 (Kk n ls)){i:Nat}(hi:i<ls.length): ∃id off,Sl v 3 ls.length id off/\h.row id (off+i*3) 3=some [aC n,ls[i].1,ls[i].2]:=by
 obtain⟨id,off,b,f,a⟩:=s.shape ls.length (iS n ls) om;obtain⟨e,c,d⟩:=XD (n:=n) hi;have g:=iS n ls;refine⟨id,off,b,Rz ((a (i*3) om).trans e) ?_ ?_⟩
 ·have:=(a (i*3+1) om).trans c
  rwa [←Nat.add_assoc] at this
 ·have:=(a (i*3+2) om).trans d
  rwa [←Nat.add_assoc] at this
theorem Mi (h:H){x y:V}{d:Int}(b:x.one=true)(a:y.one=true):mH h 3 [aC 0,.aE,.aE] 1 [(0,3,.agg [aC d,x,y])]=some (.sl h.next 0 1 (.kn 1),h.new (.cells false [aC d,x,y])):=by
 have e:dC [aC 0,.aE,.aE] (1*3)= [aC 0,.aE,.aE]:=rfl;simp [mH,gZ,e,putAt,V.cells,b,a,show (aC d).one=true from rfl]
theorem ZN.short {p B:H}{t z K P id:Nat}{r:dY}{f:V}{n:Nat}{w:Bool}{c:oQ}{b:List Nat->Prop}{l:List oQ}{d:oQ}(j:ZN p B t z K P id r f n w b l d)(v:iJ n b)(o:aZ n b c.1 c.2)(s:Jz n w c l d):l.length<=6000:=by
 have g: ∀k e,l[k]? =some e->k+fV e.1 n 0<=5999:=by
  intro k
  induction k with
  |zero=>
   intro e a;obtain⟨_,_,_,q,_⟩:=j.at a;have:=fK q;omega
  |succ k ih=>
   intro e a;have u:k<l.length:=by have:=(zG.1 a).1;omega
   have i:l[k]? =some l[k]:=dF u;obtain⟨_,_,G,_,m⟩:=j.at i;obtain⟨y,A⟩:=s.st k _ _ i a;have x:=m.size v o y;have F:=ih _ i;have:fV e.1 n 0≠fV l[k].1 n 0:=λh=>A (x.2 h)
   omega
 by_cases h:l.length=0
 ·omega
 ·have:=g (l.length- 1) _ (dF om)
  omega
theorem Tc {W0:Nat->Prop}(Z h:H)(y Q:Nat)(F:Nat)(z:List V)(n:Nat)(w:Bool)(c:oQ)(Gc:List Nat->Prop)(vO vR:V)(f0:Fr Z h)(a:Z.next<=y)(h2:Z.next<=Q)(d0:y≠Q)(l1:y<h.next)(l2:Q<h.next)(b4:h.get y=aY [aC n,vO,vR])(b8:h.get Q=aY [.fn F [] z])(Y:GC W0 Z (.agg [aC n,vO,vR]) n c.1 c.2 Gc)(nx:NxF n w c Z F z):
  Ev T 75 [.fn 120 [] [.ptr y 0,.ptr Q 0],.fn 65 [] []] h (λv h'=> ∃ls l,SV h' v 3 (Kk n ls)/\aM (GD (λ_=>False) h' n w Gc) ls l/\uF n w c l/\Fr Z h'):=by
 refine cT iV rfl ?_
 obtain⟨K,hK⟩:=exI h.next
 obtain⟨h3,e3,n3,g3,o3,f3⟩:=cU hK [.fn 65 [] []]
 obtain⟨h4,e4,n4,g4,o4,f4⟩:=cU n3 [.aE]
 simp(disch:=omega)only[go_sem,iV,aD,kW (x:= .fn 65 [] []) rfl rfl h,hK,e3,n3,e4]
 obtain⟨P,hP⟩:=exI (K+1)
 rw[hP] at n3 n4 g4 o4 ⊢
 obtain⟨id,a2⟩:=exI h4.next
 refine⟨rfl,uT λr hr=>?_⟩
 rw[a2]
 have iB:r.st= .ready:=by rw[hr]
 have b6:r.pend=none:=by rw[hr]
 have oA: ∀k,k<id->(h4.new (.loop r)).get k=h4.get k:=λk hk=>H.bD h4 om _
 have nA:(h4.new (.loop r)).next=id+1:=by rw[H.aU,a2]
 have fA:Fr h (h4.new (.loop r)):=(f3.trans f4).new _
 have n0:=f0.next
 have J0:ZN Z (h4.new (.loop r)) y Q K P id r (.fn F [] z) n w Gc [] c:=by
  refine⟨⟨.aE, [],(vO,vR),by rw[oA _ om];exact g4,cQ.aE _ _ _,λq ⟨_,_,_,e⟩=>(by cases e),trivial,by rw[fA.get _ l1];exact b4,Gc,(Y.iP λq a h2=>?_).mono (f0.trans fA),Dx.first Y.dH Y.isc⟩,by rw[oA _ om,o4 _ om];exact g3,by rw[fA.get _ l2];exact b8,by rw[←a2,H.aL],f0.trans fA,om⟩;rcases h2 with h|h|h|⟨_,_,_,e⟩
  ·omega
  ·omega
  ·omega
  ·cases e
 refine (PK Z y Q K P id r F z n w c Gc Y.dH Y.isc nx a om om _ J0 (λh'=> ∃f ls l,h'.get P=aY [f]/\(cQ h' f 3 (Kk n ls) 0/\ ∀q,dD f q->q≠id)/\aM (GD (YG y P id f) h' n w Gc) ls l/\uF n w c l/\Fr Z h'/\h'.get id=some (.loop (tM r (.exit 0)))/\id<h'.next) ?_).mono ?_
 ·intro l d L p j gp s
  obtain⟨f,ls,t,gP,ow,R,al,a0,a4⟩:=j.ex
  have b9:t=p:=by
   have:=a0.symm.trans gp;simp only[Option.some.injEq,Ob.cells.injEq,List.cons.injEq,true_and,and_true] at this;exact Prod.ext this.1 this.2
  subst b9
  have c4:=a4
  obtain⟨Gd,gc,dx⟩:=c4
  obtain⟨_,a7,b2⟩:=gc.one
  have jn:=j.nx
  have jf:=j.fr.next
  have la:=aM.length al
  have l6:=j.short Y.dH Y.isc s
  obtain⟨X,hX⟩:=exI L.next
  obtain⟨hA,eA,nA,gA,oA,fA⟩:=cU hX [aC 0,.aE,.aE]
  obtain⟨hB,eB,nB,gB,oB⟩:=mD hA X [aC n,t.1,t.2]
  refine aeQ j.gr (by rw[hr];rfl) ?_
  rw[congrArg dY.assign hr,congrArg dY.vars hr,congrArg dY.pars hr]
  simp(disch:=omega)only[go_sem,List.zip_cons_cons,List.zip_nil_left,hX,eA,bI hA X 0 (v:= aC n) (u:=t.1) (w:=t.2) rfl a7 b2,gA,bG,eB]
  refine⟨r,by rw[oB _ om,oA _ om];exact j.gr,iB,?_⟩
  obtain⟨A,eC⟩: ∃x,hB.set id (some (.loop (oV r)))=x:=⟨_,rfl⟩
  have c5:hB.set id (some (.loop {r with st:= .busy}))=A:=eC
  rw[c5,congrArg dY.body hr]
  have nC:A.next=X+1:=by rw[←eC];show hB.next=_;omega
  have b0:A.get id=some (.loop (oV r)):=by rw[←eC,H.aS]
  have oC: ∀q,q≠id->q≠X->A.get q=L.get q:=λq a h2=>by rw[←eC,H.aH _ a,oB q h2,oA q h2]
  have a5:A.get X=aY [aC n,t.1,t.2]:=by rw[←eC,H.aH _ om];exact gB
  have fx:Fx (YG y P id f) L A:=⟨om,λq a h2=>oC q (λe=>h2 (.inr (.inr (.inl e)))) om⟩
  rw[AB]
  refine Gw (λa1 hf=>(∃g:Nat->V,a1= [g 0,g 1,g 2,g 3,.ptr P 0,.ptr X 0,g 6,g 7,g 8])/\Fr A hf/\ ∀e,l[l.length- 1]? =some e->d≠e) ?_ ?_
  ·have sv:=(ow.mono (h':=A) om λq o m U e _ a=>oC q (R q ⟨o,m,U,e⟩).2.2.2.2.2.1 om).sv
   have lv:bF f=some (aC (ls.length:Int)):=by unfold bF;rw[SV.len sv (n:=ls.length) (iS n ls) om];rfl
   have a8:A.get P=aY [f]:=by rw[oC P om om];exact gP
   have fb:Fr A (H.mk A.tr (A.next+17)):=(Fr.refl A).bH om
   have b3:A.get K=aY [.fn 65 [] []]:=by rw[oC K om om];exact j.k
   by_cases hl:ls.length=0
   ·have d1:decide ((ls.length:Int)>0)=false:=bE om
    have l0:l= []:=WE om
    simp(disch:=omega)only[go_sem,H.aF a8,lv,d1]
    exact .inl ⟨aB rfl,fb,λe he=>by rw[l0] at he;cases he⟩
   ·have d1:decide ((ls.length:Int)>0)=true:=bN om
    have hi:ls.length- 1<ls.length:=om
    obtain⟨ri,ro,c1,rC⟩:=uM sv hi
    have gl:=aM.get al (ls.length- 1) hi om
    obtain⟨Gl,a3,b1⟩:=gl
    have em:((ls.length:Nat):Int)- 1=((ls.length- 1:Nat):Int):=om
    have G:l[ls.length- 1]? =some (l[ls.length- 1]'om):=dF om
    generalize (ls[ls.length- 1]'hi)=pl at a3 rC
    generalize (l[ls.length- 1]'om)=e0 at a3 b1 G
    rw[la] at G
    have c3:=b1.size Y.dH Y.isc (s.la e0 G)
    simp(disch:=omega)only[go_sem,H.aF a8,lv,d1,H.aF b3,em,c1.ixa,rC,aG a5]
    refine (wE _ n e0.1 e0.2 Gl _ ((a3.go fx λ_ _ h=>h).mono fb)).mono ?_
    rintro _ h5 ⟨rfl,f5⟩
    have F5:=fb.trans f5
    have ec:dB t.1 t.1=true/\dB t.2 t.2=true:=by
     obtain⟨_,_,_,_,e,sO,_,_,sR,_,_⟩:=gc.cw;simp only[V.agg.injEq,List.cons.injEq,true_and,and_true] at e;rw[e.1,e.2];exact⟨SV.dB sO,SV.dB sR⟩
    simp(disch:=omega)only[go_sem,aG (show h5.get X=_ from (F5.get X om).trans a5),H.aF (show h5.get K=_ from (F5.get K om).trans b3),ec.1,ec.2,show dB (.fn 65 [] []) (.fn 65 [] [])=true from rfl]
    refine (wE _ n d.1 d.2 Gd _ ((gc.go fx λ_ _ h=>h).mono F5)).mono ?_
    rintro _ h6 ⟨rfl,f6⟩
    have F6:=F5.trans f6
    by_cases hs:fV e0.1 n 0=fV d.1 n 0
    ·have d2:decide (((fV e0.1 n 0:Nat):Int)=((fV d.1 n 0:Nat):Int))=true:=bN (by rw[hs])
     simp(disch:=omega)only[go_sem,d2]
     obtain⟨hz,B⟩: ∃x,h6.set id (some (.loop (tM r (.exit 0))))=x:=⟨_,rfl⟩
     have nz:hz.next=h6.next:=by rw[←B];rfl
     have n6:=F6.next
     have oz: ∀q,q≠id->q<X->hz.get q=L.get q:=λq a h2=>by rw[←B,H.aH _ a,F6.get q om,oC q a om]
     have fz:Fx (YG y P id f) L hz:=⟨om,λq a h2=>oz q (λe=>h2 (.inr (.inr (.inl e)))) om⟩
     refine .inr ⟨λe=>(by cases e),FN (by rw[F6.get id om];exact b0) ?_⟩
     rw[B]
     exact .inr ⟨rfl,f,ls,l,by rw[oz P om om];exact gP,⟨ow.mono om λq o m U e _ a=>oz q (R q ⟨o,m,U,e⟩).2.2.2.2.2.1 om,λq h=>(R q h).2.2.2.2.2.1⟩,aM.mono (λ_ _ x=>x.go fz λ_ _ h=>h) al,s.done (λe=>hl (by rw[la,e];rfl)) (by rw[G,c3.2 hs.symm]),⟨om,λq J=>by rw[oz q om om];exact j.fr.get q J⟩,by rw[←B,H.aS],om⟩
    ·have d2:decide (((fV e0.1 n 0:Nat):Int)=((fV d.1 n 0:Nat):Int))=false:=bE om
     simp(disch:=omega)only[go_sem,d2]
     exact .inl ⟨aB rfl,F6,λe he c9=>by rw[G] at he;cases he;exact hs (by rw[c9])⟩
  ·rintro a1 hf ⟨⟨g,rfl⟩,ff,a6⟩
   have nf:=ff.next
   have of: ∀q,q≠id->q<X->hf.get q=L.get q:=λq a h2=>by rw[ff.get q om,oC q a om]
   obtain⟨S,hS⟩:=exI hf.next
   obtain⟨a,e1,n1,g1,o1,f1⟩:=cU hS [aC n,t.1,t.2]
   have b7:cQ a f 3 (Kk n ls) 0:=ow.mono om λq o m U e _ J=>by rw[o1 q om,of q (R q ⟨o,m,U,e⟩).2.2.2.2.2.1 om]
   have c0:SV a (.sl S 0 1 (.kn 1)) 3 [aC n,t.1,t.2]:=SV.all rfl om g1 _
   obtain⟨h2,e2,pu⟩:=b7.push (bytes:=56) c0 (n:=ls.length) (m:=1) (iS n ls) rfl om om om
   have n2:=pu.next
   obtain⟨v2,O⟩: ∃x,V.sl a.next 0 (ls.length+1) (.un 3)=x:=⟨_,rfl⟩
   have c8: ∀q,¬dD f q->cZ f q:=λq h i o m U e J=>h ⟨o,m,U,by rw[J];exact e⟩
   have o2: ∀q,q≠a.next-> ¬dD f q->h2.get q=a.get q:=λq a h2=>pu.old q a (c8 q h2)
   have b5:h2.get P=aY [f]:=by rw[o2 P om (λh=>(R P h).2.2.2.2.1 rfl),o1 P om,of P om om];exact gP
   obtain⟨h3,e3,n3,g3,o3⟩:=mD h2 P [v2]
   have c6:Xh h2 1 (.ptr P 0) v2=some h3:=by rw[←O,XX,b5,bP (by show 0<1;omega),O];exact congrArg some e3
   rw[O] at e2
   simp(disch:=omega)only[go_sem,H.aF (show hf.get P=_ from (of P om om).trans gP),aG (show hf.get X=_ from (ff.get X om).trans a5),Mi hf a7 b2,hS,e1,e2,c6]
   obtain⟨hz,B⟩: ∃x,h3.set id (some (.loop r))=x:=⟨_,rfl⟩
   have nz:hz.next=a.next+1:=by rw[←B];show h3.next=_;omega
   have N: ∀q,q<X->(¬dD f q->q≠id->q≠P->hz.get q=L.get q):=λq a h2 h3 h4=>by
    rw[←B,H.aH _ h3,o3 q h4,o2 q om h2,o1 q om,of q h3 a]
   have W: ¬dD f y/\ ¬dD f Q/\ ¬dD f K/\ ¬dD f id:=⟨λh=>(R y h).2.1 rfl,λh=>(R Q h).2.2.1 rfl,λh=>(R K h).2.2.2.1 rfl,λh=>(R id h).2.2.2.2.2.1 rfl⟩
   have fz:Fx (YG y P id f) L hz:=⟨om,λq a h2=>N q om (λh=>h2 (.inr (.inr (.inr h)))) (λe=>h2 (.inr (.inr (.inl e)))) (λe=>h2 (.inr (.inl e)))⟩
   have a9: ∀q,dD v2 q->q=a.next:=λq ⟨_,_,_,e⟩=>by rw[←O] at e;cases e;rfl
   have hw: ∀q,q<L.next->YG y P id v2 q->YG y P id f q:=λq a h2=>by
    rcases h2 with h|h|h|h
    ·exact .inl h
    ·exact .inr (.inl h)
    ·exact .inr (.inr (.inl h))
    ·have:=a9 q h;omega
   refine oP iB b6 (by rw[o3 id om,o2 id om W.2.2.2,o1 id om,ff.get id om];exact b0) ?_
   rw[B]
   refine .inl ⟨rfl,⟨⟨v2,ls++ [t],t,?_,?_,?_,?_,?_,?_⟩,?_,?_,?_,?_,?_⟩,a6⟩
   ·rw[←B,H.aH _ om];exact g3
   ·rw[Um,←O]
    refine (pu.own (b:=0) (iS n ls) rfl om).mono om λq o m U e _ J=>?_
    cases e
    rw[←B,H.aH _ om,o3 _ om]
   ·intro q J
    have:=a9 q J
    omega
   ·exact aM.append (aM.mono (λ_ _ x=>x.go fz hw) al) ⟨a4.go fz hw,trivial⟩
   ·rw[N y om W.1 om om];exact a0
   ·exact a4.go fz hw
   ·rw[N K om W.2.2.1 om om];exact j.k
   ·rw[N Q om W.2.1 om om];exact j.c2
   ·rw[←B,H.aS]
   ·refine⟨om,λq J=>?_⟩
    rw[N q om (λh=>?_) om om]
    ·exact j.fr.get q J
    ·have:=(R q h).1;omega
   ·omega
 ·rintro _ L ⟨f,ls,l,gP,⟨ow,bi⟩,al,s,F,gr,nx⟩
  refine⟨_,gr,by simp [tM],?_⟩
  have en:(tM r (.exit 0)).pend.getD .norm= .exit 0:=rfl
  rw[en]
  have c7:(L.set id (some (.loop {tM r (.exit 0) with st:= .out}))).get P=aY [f]:=by rw[H.aH _ om];exact gP
  simp(disch:=omega)only[go_sem,H.aF c7]
  have n0:=F.next
  refine⟨ls,l,?_,?_,s,⟨?_,λq J=>?_⟩⟩
  ·refine cQ.sv (b:=0) ?_
   exact ow.mono (eH _) λq o m U e _ a=>H.aH _ (bi q ⟨o,m,U,e⟩) _
  ·exact aM.mono (λ_ _ x=>x.go ⟨eH _,λq a h2=>H.aH _ (λe=>h2 (.inr (.inr (.inl e)))) _⟩ λ_ _ h=>h.elim) al
  ·exact n0
  ·rw[H.aH _ (by have:=f0.next;omega)]
   exact F.get q J
section
variable {W:Nat->Prop} {n:Nat} {w:Bool}
theorem Od (h:H){a b c:V}(f:V)(q:a.one=true)(k:b.one=true)(i:c.one=true)(y:f.one=true)(d:f.cells= [f]):
  Ev T 76 [.agg [a,b,c],f] h (λv h'=>v= .fn 120 [] [.ptr h.next 0,.ptr (h.next+1) 0]/\h'.get h.next=aY [a,b,c]/\h'.get (h.next+1)=aY [f]/\h'.next=h.next+2/\Fr h h'):=by
 refine cT vZ rfl ?_
 obtain⟨B,e⟩:=exI h.next
 obtain⟨r,o,g,z,A,t⟩:=cU e [a,b,c]
 obtain⟨F,m,s,l,j,p⟩:=cU g [f]
 simp(disch:=omega)only[go_sem,vZ,aD,aQ h (v:=a) (u:=b) (w:=c) q k i,e,o,kW (x:=f) d y r,g,m]
 exact⟨by rw[j B om];exact z,l,s,t.trans p⟩
def aaM (n:Nat)(w:Bool)(c:oQ)(G:List Nat->Prop)(h:H)(v:V)(h':H):Prop:= ∃vl ls l,v= .tup [vl,aC 0]/\SV h' vl 3 (Kk n ls)/\aM (GD (λ_=>False) h' n w G) ls l/\uF n w c l/\Fr h h'
theorem Ei (p:V)(n:Nat)(O:LN)(R:fM)(G:List Nat->Prop)(h:H)(e:GC W h p n O R G):
  Ev T 18 [p] h (aaM n false (O,R) G h):=by
 obtain⟨d,b,rfl,k,j⟩:=e.shape
 refine cT lU rfl ?_
 obtain⟨B,m⟩:=exI h.next
 obtain⟨A,y,Q,o,U,i⟩:=cU m [aC n,d,b]
 simp(disch:=omega)only[go_sem,lU,aD,aQ h (v:= aC n) (u:=d) (w:=b) rfl k j,m,y,aG o]
 refine (AA _ n O R G A (e.mono i)).mono ?_
 rintro _ a ⟨rfl,f⟩
 have g:a.get B=aY [aC n,d,b]:=by rw[f.get B om];exact o
 have K:decide ((0:Int)≠0)=false:=rfl
 simp(disch:=omega)only[go_sem,K,aG g]
 refine (Od a (.fn 77 [] []) rfl k j rfl rfl).mono ?_
 rintro _ z ⟨rfl,r,x,N,L⟩
 simp(disch:=omega)only[go_sem]
 refine (Tc (c:=(O,R)) a z a.next (a.next+1) 77 [] n false G d b L (eH _) om om om om r x (e.mono (i.trans f)) (XN n (O,R) a)).mono ?_
 rintro J P ⟨F,l,sv,t,s,q⟩
 simp(disch:=omega)only[go_sem]
 exact⟨J,F,l,rfl,sv,t,s,(i.trans f).trans q⟩
theorem Ny (p:V)(n:Nat)(O:LN)(R:fM)(G:List Nat->Prop)(h:H)(g:GC W h p n O R G):
  Ev T 20 [p] h (aaM n true (O,R) G h):=by
 obtain⟨e,d,rfl,o,j⟩:=g.shape
 refine cT oK rfl ?_
 obtain⟨B,k⟩:=exI h.next
 obtain⟨t,r,Q,m,U,i⟩:=cU k [aC n,e,d]
 simp(disch:=omega)only[go_sem,oK,aD,aQ h (v:= aC n) (u:=e) (w:=d) rfl o j,k,r,aG m]
 refine (AA _ n O R G t (g.mono i)).mono ?_
 rintro _ a ⟨rfl,b⟩
 have P:=b.next
 have f:a.get B=aY [aC n,e,d]:=by rw[b.get B om];exact m
 have L:decide ((0:Int)≠0)=false:=rfl
 simp(disch:=omega)only[go_sem,L,aG f]
 refine (Od a (.fn 81 [] [.ptr B 0]) rfl o j rfl rfl).mono ?_
 rintro _ K ⟨rfl,A,J,N,z⟩
 simp(disch:=omega)only[go_sem]
 refine (Tc (c:=(O,R)) a K a.next (a.next+1) 81 [.ptr B 0] n true G e d z (eH _) om om om om A J (g.mono (i.trans b)) (XP n (O,R) a B e d G f om (g.mono (i.trans b)))).mono ?_
 rintro y Y ⟨x,l,sv,F,s,q⟩
 simp(disch:=omega)only[go_sem]
 exact⟨y,x,l,rfl,sv,F,s,(i.trans b).trans q⟩
theorem Ku (k:V)(d:Int)(O:List (List Int))(R:List (List (List Int)))(h:H)(g:Ig h k d O R)(o:d<=7∨64<d)(s:jK O)(sr:lK R)(i:jL d O R≠0):
  Ev T 18 [k] h (λv h'=>v= .tup [.aE,aC (jL d O R)]/\Fr h h'):=by
 have f:=g
 obtain⟨e,c,rfl,y,m⟩:=g
 refine cT lU rfl ?_
 have b:e.one=true:=Vu y
 have a:c.one=true:=Rd m
 obtain⟨B,j⟩:=exI h.next
 obtain⟨r,p,z,x,A,l⟩:=cU j [aC d,e,c]
 simp(disch:=omega)only[go_sem,lU,aD,aQ h (v:= aC d) (u:=e) (w:=c) rfl b a,j,p,aG x]
 refine (Ta _ d O R r (f.mono l) o s sr i).mono ?_
 rintro _ F ⟨rfl,q⟩
 have t:=bN i
 simp(disch:=omega)only[go_sem,t]
 exact l.trans q
theorem Sf (k:V)(d:Int)(O:List (List Int))(R:List (List (List Int)))(h:H)(g:Ig h k d O R)(o:d<=7∨64<d)(s:jK O)(sr:lK R)(i:jL d O R≠0):
  Ev T 20 [k] h (λv h'=>v= .tup [.aE,aC (jL d O R)]/\Fr h h'):=by
 have f:=g
 obtain⟨e,c,rfl,y,m⟩:=g
 refine cT oK rfl ?_
 have b:e.one=true:=Vu y
 have a:c.one=true:=Rd m
 obtain⟨B,j⟩:=exI h.next
 obtain⟨r,p,z,x,A,l⟩:=cU j [aC d,e,c]
 simp(disch:=omega)only[go_sem,oK,aD,aQ h (v:= aC d) (u:=e) (w:=c) rfl b a,j,p,aG x]
 refine (Ta _ d O R r (f.mono l) o s sr i).mono ?_
 rintro _ F ⟨rfl,q⟩
 have t:=bN i
 simp(disch:=omega)only[go_sem,t]
 exact l.trans q
def Yg (n:Nat)(l:List oQ):Bool:=match l[l.length- 1]? with|none=>false|some e=>decide (fV e.1 n 0=1)
theorem uF.pos {c:oQ}{l:List oQ}(s:uF n w c l):0<l.length:=by
 have:=(zG.1 s.hd).1;omega
theorem uF.short {h:H}{c:oQ}{d:List Nat->Prop}{ls:List (V×V)}{l:List oQ}(s:uF n w c l)(o:iJ n d)(j:aZ n d c.1 c.2)(al:aM (GD W h n w d) ls l):l.length<=6000:=by
 have t:=aM.length al
 have f: ∀k e,l[k]? =some e->k+fV e.1 n 0<=5999:=by
  intro k
  induction k with
  |zero=>
   intro e b;obtain⟨a,rfl⟩:=zG.1 b;obtain⟨_,m,_⟩:=aM.get al 0 om a;have:=fK m;omega
  |succ k ih=>
   intro e b;have a:k<l.length:=by have:=(zG.1 b).1;omega
   have i:l[k]? =some l[k]:=dF a;obtain⟨u,_,g⟩:=aM.get al k om a;obtain⟨q,r⟩:=s.st k _ _ i b;have p:=g.size o j q;have v:=ih _ i;have:fV e.1 n 0≠fV l[k].1 n 0:=λh=>r (p.2 h)
   omega
 by_cases h:l.length=0
 ·omega
 ·have:=f (l.length- 1) _ (dF om)
  omega
theorem Xo (v:V)(e:Int)(a:e≠0)(h:H):Ev T 82 [v,aC e] h (λr h'=>r= .tup [.bool false,aC e]/\Fr h h'):=by
 refine cT qH rfl ?_;have b:=bN a;simp(disch:=omega)only[go_sem,qH,aD,b];exact Fr.refl h
theorem JB {c:oQ}{G:List Nat->Prop}{ls:List (V×V)}{l:List oQ}(i:V)(h:H)(sv:SV h i 3 (Kk n ls))(al:aM (GD W h n w G) ls l)(s:uF n w c l)(u:iJ n G)(k:aZ n G c.1 c.2):
  Ev T 82 [i,aC 0] h (λr h'=>r= .tup [.bool (Yg n l),aC 0]/\Fr h h'):=by
 refine cT qH rfl ?_
 have m:=aM.length al
 have x:=s.pos
 have q:bF i=some (aC (ls.length:Int)):=by unfold bF;rw[SV.len sv (n:=ls.length) (iS n ls) om];rfl
 have hi:ls.length- 1<ls.length:=om
 obtain⟨B,y,g,j⟩:=uM sv hi
 obtain⟨o,a,f⟩:=aM.get al (ls.length- 1) hi om
 have b:l[ls.length- 1]? =some (l[ls.length- 1]'om):=dF om
 generalize (ls[ls.length- 1]'hi)=pl at a j
 generalize (l[ls.length- 1]'om)=d at a f b
 have t:((ls.length:Nat):Int)- 1=((ls.length- 1:Nat):Int):=om
 have A:=s.short u k al
 have v:decide ((0:Int)≠0)=false:=rfl
 simp(disch:=omega)only[go_sem,qH,aD,v,q,t,g.ixa,j]
 refine (wE _ n d.1 d.2 o _ a).mono ?_
 rintro _ z ⟨rfl,p⟩
 simp(disch:=omega)only[go_sem]
 refine⟨?_,p⟩
 rw[m] at b
 unfold Yg
 rw[b]
 rw[show decide (((fV d.1 n 0:Nat):Int)=1)=decide (fV d.1 n 0=1) from by
  by_cases e:fV d.1 n 0=1
  ·rw[bN e,bN om]
  ·rw[bE e,bE om]]
theorem AO (f:V)(n:Nat)(O:LN)(R:fM)(G:List Nat->Prop)(h:H)(a:GC W h f n O R G):
  Ev T 22 [f] h (λv h'=> ∃l,uF n false (O,R) l/\v= .tup [.bool (Yg n l),aC 0]/\Fr h h'):=by
 obtain⟨c,b,rfl,i,g⟩:=a.shape
 refine cT kO rfl ?_
 obtain⟨B,d⟩:=exI h.next
 obtain⟨o,k,z,q,A,e⟩:=cU d [aC n,c,b]
 simp(disch:=omega)only[go_sem,kO,aD,aQ h (v:= aC n) (u:=c) (w:=b) rfl i g,d,k,aG q]
 refine (Ei _ n O R G o (a.mono e)).mono ?_
 rintro _ r ⟨p,y,l,rfl,sv,j,s,m⟩
 simp(disch:=omega)only[go_sem]
 refine (JB p r sv j s a.dH a.isc).mono ?_
 rintro _ x ⟨rfl,t⟩
 simp(disch:=omega)only[go_sem]
 exact⟨l,s,rfl,(e.trans m).trans t⟩
theorem Vx (k:V)(d:Int)(O:List (List Int))(R:List (List (List Int)))(h:H)(g:Ig h k d O R)(o:d<=7∨64<d)(s:jK O)(sr:lK R)(i:jL d O R≠0):
  Ev T 22 [k] h (λv h'=>v= .tup [.bool false,aC (jL d O R)]/\Fr h h'):=by
 have f:=g
 obtain⟨e,c,rfl,z,m⟩:=g
 refine cT kO rfl ?_
 have b:e.one=true:=Vu z
 have a:c.one=true:=Rd m
 obtain⟨B,j⟩:=exI h.next
 obtain⟨r,p,F,t,G,l⟩:=cU j [aC d,e,c]
 simp(disch:=omega)only[go_sem,kO,aD,aQ h (v:= aC d) (u:=e) (w:=c) rfl b a,j,p,aG t]
 refine (Ku _ d O R r (f.mono l) o s sr i).mono ?_
 rintro _ x ⟨rfl,q⟩
 simp(disch:=omega)only[go_sem]
 refine (Xo .aE _ i x).mono ?_
 rintro _ A ⟨rfl,y⟩
 simp(disch:=omega)only[go_sem]
 exact (l.trans q).trans y
theorem Wc (f:V)(n:Nat)(O:LN)(R:fM)(G:List Nat->Prop)(h:H)(a:GC W h f n O R G):
  Ev T 24 [f] h (λv h'=> ∃l,uF n true (O,R) l/\v= .tup [.bool (Yg n l),aC 0]/\Fr h h'):=by
 obtain⟨c,b,rfl,i,g⟩:=a.shape
 refine cT jT rfl ?_
 obtain⟨B,d⟩:=exI h.next
 obtain⟨o,k,z,q,A,e⟩:=cU d [aC n,c,b]
 simp(disch:=omega)only[go_sem,jT,aD,aQ h (v:= aC n) (u:=c) (w:=b) rfl i g,d,k,aG q]
 refine (Ny _ n O R G o (a.mono e)).mono ?_
 rintro _ r ⟨p,y,l,rfl,sv,j,s,m⟩
 simp(disch:=omega)only[go_sem]
 refine (JB p r sv j s a.dH a.isc).mono ?_
 rintro _ x ⟨rfl,t⟩
 simp(disch:=omega)only[go_sem]
 exact⟨l,s,rfl,(e.trans m).trans t⟩
theorem Rc (k:V)(d:Int)(O:List (List Int))(R:List (List (List Int)))(h:H)(g:Ig h k d O R)(o:d<=7∨64<d)(s:jK O)(sr:lK R)(i:jL d O R≠0):
  Ev T 24 [k] h (λv h'=>v= .tup [.bool false,aC (jL d O R)]/\Fr h h'):=by
 have f:=g
 obtain⟨e,c,rfl,z,m⟩:=g
 refine cT jT rfl ?_
 have b:e.one=true:=Vu z
 have a:c.one=true:=Rd m
 obtain⟨B,j⟩:=exI h.next
 obtain⟨r,p,F,t,G,l⟩:=cU j [aC d,e,c]
 simp(disch:=omega)only[go_sem,jT,aD,aQ h (v:= aC d) (u:=e) (w:=c) rfl b a,j,p,aG t]
 refine (Sf _ d O R r (f.mono l) o s sr i).mono ?_
 rintro _ x ⟨rfl,q⟩
 simp(disch:=omega)only[go_sem]
 refine (Xo .aE _ i x).mono ?_
 rintro _ A ⟨rfl,y⟩
 simp(disch:=omega)only[go_sem]
 exact (l.trans q).trans y
end
theorem GQ (vc vx:V)(n:Nat)(O:LN)(R:fM)(G:List Nat->Prop)(x:List Nat)(h:H)(f7:1<=n)(hn:n<=64)(hG:iJ n G)(o:aZ n G O R)(hc:Ig h vc (n:Int) (O.map zi) (R.map (List.map zi)))(hx:SI h vx (zi x))(X:bC n x):
  Ev T 204 [vc,vx] h (λv h'=> ∃b,v= .bool b/\(b=true↔G x)/\Fr h h'):=by
 obtain⟨vO,vR,rfl,sO,sR⟩:=hc
 refine cT Oy rfl ?_
 obtain⟨e9,eO,cO,b0,d0,b2,wO,W,L⟩:=sK sO
 obtain⟨f8,eR,cR,c2,c9,c1,wR,c0,Q⟩:=Ao sR
 rw[iN,o.lo] at W L
 rw[iN,o.lr] at c0 Q
 obtain⟨B,hB⟩:=exI h.next
 obtain⟨h1,e1,n1,g1,o1,f1⟩:=cU hB [aC n,vO,vR]
 have bx:=aQ h (v:= aC n) (u:=vO) (w:=vR) rfl b0 c2
 simp(disch:=omega)only[go_sem,Oy,aD,bx,hB,e1]
 refine aI (λk' r hh=> ∃(i:Nat) (vy:V) (y:List Nat),(∃g:Nat->V,r= [g 0,vy,.ptr B 0,g 3,aC i,g 5,g 6,g 7,g 8])/\i<=n/\SI hh vy (zi y)/\bC n y/\Fix i y/\(G y↔G x)/\Fr h1 hh/\k'=n-i) n
  ⟨0,vx,x,aB rfl,fR _,hx.mono f1,X,λk hk=>om,Iff.rfl,Fr.refl _,rfl⟩ ?_
 rintro k' r h2 ⟨i,vy,y,⟨g,rfl⟩,hi,sy,Y,N,a4,F2,rfl⟩
 have g2:h2.get B=some (.cells false [aC n,vO,vR]):=by rw[F2.get B om];exact g1
 have d7:(zi y).length=n:=by rw[aN,Y.len]
 by_cases b9:(i:Int)<(n:Int)
 case neg=>
  have d1:=bE b9;obtain rfl:i=n:=om
  simp(disch:=omega)only[go_sem,H.aF g2,d1];exact⟨true,rfl,⟨λ_=>a4.1 (by rw[N.all Y];exact hG.one),λ_=>rfl⟩,f1.trans F2⟩
 have d1:=bN b9
 have f:i<n:=om
 have F:=f1.trans F2
 obtain⟨bO,c7,a0⟩:=L i f
 obtain⟨bR,b3,a7⟩:=Q i f
 rw[iD zi (d:= []) (by rw[o.lo];exact f)] at a0
 rw[iD (List.map zi) (d:= []) (by rw[o.lr];exact f)] at a7
 generalize wO.getD i V.undef=vo at c7 a0
 generalize wR.getD i V.undef=vr at b3 a7
 obtain⟨a1,eo,e7,e5,K,J,a5,P⟩:bF vo=some (aC ((O.getD i []).length:Int))/\True/\True/\True/\ ∃K J,Sl vo 1 (O.getD i []).length K J/\ ∀k,k<(O.getD i []).length->K<h.next/\h.cell K (J+k)=some (aC ((O.getD i []).getD k 0:Nat)):=by
  have l:=a0.lens;obtain⟨a,b,s,c,d⟩:=a0.open;rw[aN] at l s c d;refine⟨l,trivial,trivial,trivial,a,b,s,λk hk=>⟨c om,?_⟩⟩;rw[d k hk];congr 2;exact iD (λk:Nat=>(k:Int)) (d:=0) om
 obtain⟨e8,er,f0,e6,d6,b1,wr,a8,A⟩:=sK a7
 rw[iN,o.rl i f] at a8 A
 have e4:(O.getD i []).length<=n:=lX (lQ (λx hx=>hG.cX hx) f (o.asc i f) (o.mem i f)) om
 obtain⟨m,hm⟩:=exI ((O.getD i []).length)
 rw[hm] at a1 a5 P a8 A e4
 obtain⟨p,hp⟩:=exI (y.getD i 0)
 simp(disch:=omega)only[go_sem,H.aF g2,d1]
 refine aI (λk' r hh=> ∃(k:Nat),(∃g:Nat->V,r= [g 0,vy,.ptr B 0,g 3,aC i,aC k,g 6,g 7,g 8])/\k<=m/\(∀j,j<k->(O.getD i []).getD j 0≠p)/\Fr h2 hh/\k'=m-k) m
  ⟨0,aB rfl,fR _,λj hj=>om,Fr.refl _,rfl⟩ ?_
 rintro k' r h3 ⟨k,⟨g',rfl⟩,hk,hj,f3,rfl⟩
 have g3:h3.get B=some (.cells false [aC n,vO,vR]):=by rw[f3.get B (by have:=F2.next;omega)];exact g2
 have F3:=F.trans f3
 have U:h3.cell d0 (b2+i)=some vo:=by rw[F3.cell bO];exact c7
 have e3:h3.cell c9 (c1+i)=some vr:=by rw[F3.cell bR];exact b3
 have c6:=sy.mono f3
 obtain⟨d9,c3,a6,b5,a9⟩:=c6.open
 rw[d7] at a6 b5 a9
 have cy:h3.cell d9 (c3+i)=some (aC p):=by rw[a9 i f];congr 2;simp [zi,Y.len,f,←hp]
 by_cases b7:(k:Int)<(m:Int)
 case neg=>
  have d2:=bE b7;obtain rfl:k=m:=om
  have e0: ¬G x:=λhx=>by
   have hy:=a4.2 hx;obtain⟨j,c8,d8⟩:=wV.1 ((o.mem i f p).2 ⟨y,hy,N,hp⟩);exact hj j om (by rw[UT,dF c8];exact d8)
  simp(disch:=omega)only[go_sem,H.aF g3,W.ixa,U,a1,d2];refine bA (λ_=>?_) (λhc=>(hc trivial).elim);simp(disch:=omega)only[go_sem];exact⟨false,rfl,⟨λe=>(by cases e),λhx=>absurd hx e0⟩,F3.bH om⟩
 have d2:=bN b7
 have a2:k<m:=om
 obtain⟨b4,c4⟩:=P k a2
 have c5:h3.cell K (J+k)=some (aC ((O.getD i []).getD k 0:Nat)):=by rw[F3.cell b4];exact c4
 obtain⟨q,hq⟩:=exI ((O.getD i []).getD k 0)
 rw[hq] at c5
 by_cases b6:q=p
 case neg=>
  have d3:decide ((q:Int)≠(p:Int))=true:=bN om;simp(disch:=omega)only[go_sem,H.aF g3,W.ixa,U,a1,d2,a5.ixa,c5,a6.ixa,cy,d3];rw[dU k];refine⟨m-(k+1),om,k+1,aB rfl,om,λj f6=>?_,f3.bH om,rfl⟩
  by_cases e:j=k
  ·rw[e,hq];exact b6
  ·exact hj j om
 have d3:decide ((q:Int)≠(p:Int))=false:=bE om
 have d4:decide ((k:Int)=(m:Int))=false:=bE om
 have t:=o.rep i f k om
 rw[hq,b6] at t
 obtain⟨z,hz⟩:=exI ((R.getD i []).getD k [])
 rw[hz] at t
 have Z:=hG.cX t.mem
 obtain⟨br,b8,a3⟩:=A k a2
 rw[iD zi (l:=R.getD i []) (i:=k) (d:= []) (by rw[o.rl i f];omega),hz] at a3
 generalize wr.getD k V.undef=vz at b8 a3
 have e2:h3.cell d6 (b1+k)=some vz:=by rw[F3.cell br];exact b8
 have fb:=(Fr.refl h3).bH (n:=h3.next+23) om
 have f2:=U
 simp(disch:=omega)only[go_sem,H.aF g3,W.ixa,U,a1,d2,a5.ixa,c5,a6.ixa,cy,d3,d4,c0.ixa,e3,a8.ixa,e2]
 refine (Ic vz n z _ om Z (a3.mono (F3.trans fb))).mono ?_
 rintro vi h4 ni
 have f4:=fb.trans ni.fr
 have d5:SI h4 vi (zi (cY z)):=(sT ni).si
 simp(disch:=omega)only[go_sem]
 refine (qM vy vi y (cY z) h4 (by rw[Y.len];omega) (c6.mono f4) d5 (λj hj=>by rw[iR,Z.len];exact Y.gW (by rw[←Y.len];exact hj))).mono ?_
 rintro vm h5 ⟨sm,f5,_⟩
 simp(disch:=omega)only[go_sem]
 rw[dU i]
 refine⟨n-(i+1),om,i+1,_,_,aB rfl,om,sm,Y.mul Z.inv,?_,?_,F2.trans (f3.trans (f4.trans f5)),rfl⟩
 ·refine (Fix.mul Y om N (Fix.inv Z om t.fix)).succ ?_
  rw[cM (by rw[Y.len];exact f),hp]
  have:=sW Z f
  rwa [t.maps] at this
 ·rw[←a4]
  constructor
  ·intro h1
   have:=hG.mul h1 t.mem
   rwa [aV Y Z.inv Z,gG Z,cE Y] at this
  ·exact λh1=>hG.mul h1 (hG.inv t.mem)
theorem KW (u w:V)(n:Nat)(a b:List Nat)(h:H)(q:n<=64)(A:bC n a)(B:bC n b)(j:SI h u (zi a))(f:SI h w (zi b)):
  Ev T 203 [u,w] h (λv h'=>SI h' v (zi (cW a b))/\Fr h h'/\ ∀id off len cap,v= .sl id off len cap->h.next<=id):=by
 refine cT Fe rfl ?_
 simp(disch:=omega)only[go_sem,Fe,aD]
 refine (Ic w n b h om B f).mono ?_
 rintro x k d
 simp(disch:=omega)only[go_sem]
 refine (qM x u (cY b) a k (by rw[B.inv.len];omega) (sT d).si (j.mono d.fr) (tV B.inv A)).mono ?_
 rintro y o ⟨l,i,_⟩
 have c:=d.fr.trans i
 simp(disch:=omega)only[go_sem]
 refine (qM y w (aX (cY b) a) b o (by rw[(B.inv.mul A).len];omega) l (f.mono c) (tV (B.inv.mul A) B)).mono ?_
 rintro z p ⟨sz,g,m⟩
 simp(disch:=omega)only[go_sem]
 exact⟨sz,c.trans g,λid off len cap e=>lX c.next (m id off len cap e)⟩
theorem LV (u w:V)(n:Nat)(a b:List Nat)(h:H)(F:1<=n)(hn:n<=64)(A:bC n a)(B:bC n b)(k:SI h u (zi a))(j:SI h w (zi b)):
  Ev T 167 [u,w] h (λv h'=> ∃x,v= .tup [x,aC 0]/\SI h' x (zi (iQ a b))/\Fr h h'/\ ∀id off len cap,x= .sl id off len cap->h.next<=id):=by
 refine cT Gn rfl ?_
 have J:=k.lens
 have p:=j.lens
 rw[aN,A.len] at J
 rw[aN,B.len] at p
 simp(disch:=omega)only[go_sem,Gn,aD]
 refine Ev.mono (Q:=λv h'=>v= aC 0/\Fr h h') ?_ ?_
 ·refine cT Gj rfl ?_
  simp(disch:=omega)only[go_sem,Gj,aD]
  refine (sN u (zi a) h (by rw[aN,A.len];omega) k).mono ?_
  rw[Ph A F om]
  rintro _ o ⟨rfl,f⟩
  simp(disch:=omega)only[go_sem]
  refine (sN w (zi b) o (by rw[aN,B.len];omega) (j.mono f)).mono ?_
  rw[Ph B F om]
  rintro _ q ⟨rfl,U⟩
  have m:decide ((0:Int)≠0)=false:=rfl
  have R:decide ((n:Int)≠(n:Int))=false:=bE λh=>h rfl
  simp(disch:=omega)only[go_sem,m,J,p,R]
  exact f.trans U
 rintro _ o ⟨rfl,f⟩
 have m:decide ((0:Int)≠0)=false:=rfl
 simp(disch:=omega)only[go_sem,m]
 refine (Ic u n a o om A (k.mono f)).mono ?_
 rintro x q G
 have g:=f.trans G.fr
 simp(disch:=omega)only[go_sem]
 refine (Ic w n b q om B (j.mono g)).mono ?_
 rintro y W d
 have l:=g.trans d.fr
 simp(disch:=omega)only[go_sem]
 refine (qM x y (cY a) (cY b) W (by rw[A.inv.len];omega) ((sT G).si.mono d.fr) (sT d).si (tV A.inv B.inv)).mono ?_
 rintro z Y ⟨sz,N,_⟩
 have c:=l.trans N
 simp(disch:=omega)only[go_sem]
 refine (qM u w a b Y (by rw[A.len];omega) (k.mono c) (j.mono c) (tV A B)).mono ?_
 rintro s K ⟨P,r,_⟩
 have i:=c.trans r
 simp(disch:=omega)only[go_sem]
 refine (qM z s (aX (cY a) (cY b)) (aX a b) K (by rw[(A.inv.mul B.inv).len];omega) (sz.mono r) P (tV (A.inv.mul B.inv) (A.mul B))).mono ?_
 rintro t h7 ⟨Z,L,O⟩
 simp(disch:=omega)only[go_sem]
 exact⟨t,rfl,Z,i.trans L,λid off len cap e=>lX i.next (O id off len cap e)⟩
theorem MP {W W':Nat->Prop}(r q:V)(n:Nat)(O Y:LN)(R U:fM)(G G':List Nat->Prop)(h:H)(p:GC W h r n O R G)(s:GC W' h q n Y U G'):
  Ev T 166 [r,q] h (λv h'=>v= aC 0/\Fr h h'):=by
 obtain⟨g,e,rfl,P,x⟩:=p.shape
 obtain⟨d,f,rfl,Q,z⟩:=s.shape
 refine cT Gs rfl ?_
 obtain⟨B,l⟩:=exI h.next
 obtain⟨K,F,m,L,o1,f1⟩:=cU l [aC n,g,e]
 obtain⟨h2,A,n2,Z,y,J⟩:=cU m [aC n,d,f]
 have F2:=f1.trans J
 have b:h2.get B=some (.cells false [aC n,g,e]):=by rw[y B om];exact L
 simp(disch:=omega)only[go_sem,Gs,aD,aQ h (v:= aC n) (u:=g) (w:=e) rfl P x,l,F,aQ K (v:= aC n) (u:=d) (w:=f) rfl Q z,m,A,aG b]
 refine ((p.mono F2).Pg).mono ?_
 rintro _ h3 ⟨rfl,a⟩
 have c:h3.get (B+1)=some (.cells false [aC n,d,f]):=by rw[a.get _ om];exact Z
 have t:decide ((0:Int)≠0)=false:=rfl
 simp(disch:=omega)only[go_sem,t,aG c]
 refine ((s.mono (F2.trans a)).Pg).mono ?_
 rintro _ o ⟨rfl,j⟩
 have n3:=a.next
 have k:o.get B=some (.cells false [aC n,g,e]):=by rw[j.get B om,a.get B om];exact b
 have i:o.get (B+1)=some (.cells false [aC n,d,f]):=by rw[j.get _ om];exact c
 have N:decide ((n:Int)≠(n:Int))=false:=bE λh=>h rfl
 simp(disch:=omega)only[go_sem,t,H.aF k,H.aF i,N]
 exact (F2.trans a).trans j
theorem dbl {n:Nat}{G K:List Nat->Prop}{L M:LN}(c:iJ n G)(i:iJ n K)(E:dZ G L)(F:dZ K M)(h: ∀y,G y->K y){x:List Nat}(j:K x)(nx: ¬G x):2*L.length<=M.length:=by
 have X:=i.cX j
 have nd:(L++L.map (aX x)).Nodup:=by
  refine List.nodup_append.2 ⟨E.nodup,?_,λa g b f e=>?_⟩
  ·refine List.pairwise_map.2 (List.Pairwise.imp_of_mem (λ{a b} g f ne e=>ne ?_) E.nodup)
   exact Ah (c.cX ((E.mem a).1 g)) (c.cX ((E.mem b).1 f)) X e
  ·obtain⟨y,d,rfl⟩:=vF.1 f
   have Y:=(E.mem y).1 d;have A:=(E.mem a).1 g;rw[e] at A;have:=c.mul A (c.inv Y);rw[aV X (c.cX Y) (c.cX Y).inv,fQ (c.cX Y),cE X] at this;exact nx this
 have:=List.Nodup.length_le_of_subset nd (l₂:=M) λy d=>(F.mem y).2 (by
  rcases kT.1 d with d|d
  ·exact h y ((E.mem y).1 d)
  ·obtain⟨z,k,rfl⟩:=vF.1 d
   exact i.mul j (h z ((E.mem z).1 k)))
 rw[iA,iN] at this;omega
theorem NF {W W':Nat->Prop}{h h':H}{d o:V}{n:Nat}{O c:LN}{R i:fM}{l:LN}{x:List Nat}(a:GC W h d n O R (cG n (· ∈l)))(b:GC W' h' o n c i (cG n (· ∈l++ [x])))(k: ∀g∈l++ [x],bC n g)(nx: ¬cG n (· ∈l) x):2*fV O n 0<=fV c n 0:=by
 obtain⟨E,e⟩:=dL a.dH a.isc;obtain⟨F,f⟩:=dL b.dH b.isc;rw[←e,←f];exact dbl a.dH b.dH E F (λy m=>cG.mono (λg j=>kT.2 (.inl j)) m) (cG.of k (by simp)) nx
theorem Mo (vl:V)(n:Nat)(l:LN)(h:H)(n0:1<=n)(n7:n<=7)(hl:l.length<1000000)(hv:SP h vl l)(hP: ∀g∈l,bC n g):
  Ev T 202 [aC n,vl] h (λv h'=> ∃O R,GC (λid=>id<h.next) h' v n O R (cG n (· ∈l))/\Fr h h'):=by
 refine cT Db rfl ?_
 obtain⟨B,hB⟩:=exI h.next
 obtain⟨G,e1,n1,g1,o1,f1⟩:=cU hB [aC 0,.aE,.aE]
 obtain⟨id,a8,ws,sh,L,b0,hc,a4⟩:=hv.open
 rw[iN] at sh L b0 hc
 simp(disch:=omega)only[go_sem,Db,aD,hB,e1]
 refine (tB .aE n [] G n0 n7 (by simp) (SR.aE G) (λg h=>by cases h)).mono ?_
 rintro _ K ⟨vc,O0,R0,rfl,N,f2⟩
 obtain⟨t,s,rfl,oO,oR⟩:=N.shape
 have n2:=f2.next
 obtain⟨C,hC⟩:=exI K.next
 obtain⟨h3,e3,n3,g3,o3,f3⟩:=cU hC [aC 0,.aE,.aE]
 obtain⟨h4,e4,n4,g4,o4⟩:=mD h3 C [aC n,t,s]
 have lv:=hv.lens
 rw[iN] at lv
 have a0:Fr K h4:=⟨om,λq d=>by rw[o4 q om,o3 q om]⟩
 simp(disch:=omega)only[go_sem,hC,e3,bI h3 C 0 (v:= aC n) (u:=t) (w:=s) rfl oO oR,g3,bG,e4]
 have a3: ∀g∈([]:LN),g∈l:=λg h=>by cases h
 refine bQ (λvs a=> ∃(t s:V) (O:LN) (R:fM),(∃g:Nat->V,vs= [g 0,g 1,.ptr B 0,.ptr C 0,g 4,g 5,g 6,g 7])/\a.get C=some (.cells false [aC n,t,s])/\GC (λq=>q<B+1) a (.agg [aC n,t,s]) n O R (cG n (· ∈l))/\Fr G a/\C<a.next) ?_ ?_
 ·refine aI (λk' vs a=> ∃(i:Nat) (vk:V) (P:List V) (kept:LN) (b:Nat) (t s:V) (O:LN) (R:fM),(∃g:Nat->V,vs= [aC n,vl,.ptr B 0,.ptr C 0,vk,aC i,g 6,g 7])/\i<=l.length/\cQ a vk 1 P G.next/\dW (λq=>B<=q) h P kept/\a.get C=some (.cells false [aC n,t,s])/\GC (λq=>q<b∨q=C∨dD vk q) a (.agg [aC n,t,s]) n O R (cG n (· ∈kept))/\B<b/\(∀q,dD vk q->q≠C)/\Fr G a/\C<a.next/\(∀g∈kept,g∈l)/\(∀g∈l.take i,cG n (· ∈kept) g)/\2^kept.length<=fV O n 0/\k'=l.length-i) l.length
   ⟨0,.aE, [], [],B+1,t,s,O0,R0,aB rfl,fR _,cQ.aE _ _ _,trivial,g4,?_,Nat.lt_succ_self _,λq ⟨_,_,_,e⟩=>(by cases e),⟨om,λq d=>by rw[a0.get q om];exact f2.get q d⟩,om,a3,λg h=>(by cases h),?_,rfl⟩ ?_
  ·refine (N.iP (W':=λq=>q<B+1∨q=C∨dD .aE q) λq hn d=>?_).mono a0
   rcases d with h|h|⟨_,_,_,e⟩
   ·show q<G.next;omega
   ·omega
   ·cases e
  ·exact xX n 0 λj _ K=>(N.row om).1
  rintro k' a9 a ⟨i,vk,P,kept,b,xO,Y,O,R,⟨g,rfl⟩,hi,ow,pv,U,r,b5,a2,F,nC,hk,ht,b7,rfl⟩
  by_cases a5:(i:Int)<(l.length:Int)
  case neg=>
   have d4:=bE a5;obtain rfl:i=l.length:=om
   simp(disch:=omega)only[go_sem,lv,d4];rw[List.take_length] at ht;have k: ∀g∈kept,bC n g:=λg p=>hP g (hk g p)
   exact⟨xO,Y,O,R,aB rfl,U,(r.iP λq _ (h:q<B+1)=> .inl om).congr λy=>⟨cG.mono hk,cG.le (cG.dH k) ht⟩,F,nC⟩
  have d4:=bN a5
  have f:i<l.length:=om
  have Fh:Fr h a:=f1.trans F
  have ci:a.cell id (a8+i)=some (ws.getD i .undef):=by rw[Fh.cell (L om),hc i f]
  have W:=Ae a4 f
  have X:bC n (l.getD i []):=hP _ (aW f)
  have xl:l.getD i []∈l:=aW f
  have tm:=Sa f
  generalize ws.getD i .undef=Z at ci W
  generalize l.getD i []=x at W X xl tm
  have fb:Fr a (H.mk a.tr (a.next+7)):=(Fr.refl a).bH om
  simp(disch:=omega)only[go_sem,lv,d4,aG U,sh.ixa,ci]
  refine (GQ _ Z n O R _ x _ n0 om r.dH r.isc (r.ch.mono fb) (W.mono (Fh.trans fb)) X).mono ?_
  rintro _ h5 ⟨bb,rfl,a1,f5⟩
  have A:=fb.trans f5
  have n5:=A.next
  have nF:=F.next
  cases bb with
  |true=>
   simp(disch:=omega)only[go_sem];rw[dU i]
   exact⟨l.length-(i+1),om,i+1,vk,P,kept,b,xO,Y,O,R,aB rfl,om,ow.fr A,pv,by rw[A.get C nC];exact U,r.mono A,b5,a2,F.trans A,om,hk,λg p=>by
    rcases (tm g).1 p with h|h
    ·exact ht g h
    ·rw[h];exact a1.1 rfl,b7,rfl⟩
  |false=>
   have nx: ¬cG n (· ∈kept) x:=λh=>by have:=a1.2 h;cases this
   have b9:kept.length<=12:=by
    have:=fK r;apply Kh;intro hc;have:2^13<=2^kept.length:=Nat.pow_le_pow_right om om;omega
   have lw:=aM.length pv;have b1:h5.cell id (a8+i)=some Z:=by rw[A.cell (by have:=L om;have:=Fh.next;omega)];exact ci
   obtain⟨h6,a6,Q,f6,n6,o6⟩:=yB (v:=Z) (ow.fr A) (F.trans A) om (bytes:=24) om;have wx:=SV.cF W;simp(disch:=omega)only[go_sem,sh.ixa,b1,bZ h5 (z:= .aE) wx.1 wx.2.1,a6];generalize b3:V.sl (h5.next+1) 0 (P.length+1) (.un 1)=v6 at Q;have k: ∀g∈kept++ [x],bC n g:=λg p=>(kT.1 p).elim (λh=>hP g (hk g h)) λh=>by rw[List.mem_singleton.1 h];exact X
   have px:PV (λq=>B<=q) h Z x:=⟨W,Wv (b:=B) W om λ_ h=>h⟩
   have a7:dW (λq=>B<=q) h (P++ [Z]) (kept++ [x]):=aM.append pv (dW.one px);have b8:Fr h h6:=f1.trans f6;refine (tB v6 n (kept++ [x]) h6 n0 n7 (by rw[iA,List.length_singleton];omega) (dW.Xg Q.sv (dW.fr a7 b8)) k).mono ?_;rintro _ h7 ⟨vc,O2,R2,rfl,J,f7⟩;obtain⟨yO,yR,rfl,pO,pR⟩:=J.shape;have c0:=f7.next
   have b4:h7.get C=some (.cells false [aC n,xO,Y]):=by
    rw[f7.get C om,o6 C om λq o m c e e2=>a2 q ⟨o,m,c,e⟩ e2.symm,A.get C nC];exact U
   obtain⟨h8,e8,n8,g8,o8⟩:=mD h7 C [aC n,yO,yR];simp(disch:=omega)only[go_sem,bI h7 C 0 (v:= aC n) (u:=yO) (w:=yR) rfl pO pR,b4,bG,e8];rw[dU i];have b6: ∀q,dD v6 q->q=h5.next+1:=λq ⟨_,_,_,e⟩=>by rw[←b3] at e;cases e;rfl
   have b2:Fx (λq=>q<h6.next) h7 h8:=⟨om,λq G K=>o8 q λe=>K (by show q<_;omega)⟩
   refine⟨l.length-(i+1),om,i+1,v6,P++ [Z],kept++ [x],h6.next,yO,yR,O2,R2,aB rfl,om,?_,a7,g8,?_,om,λq d=>by have:=b6 q d;omega,?_,om,?_,?_,?_,rfl⟩
   ·refine Q.mono om λq o m c e _ G=>?_
    have:=b6 q ⟨o,m,c,e⟩;rw[o8 q om,f7.get q om]
   ·refine J.go b2 λq _ d=>?_
    show q<h6.next;rcases d with h|h|h
    ·exact h
    ·omega
    ·have:=b6 q h;omega
   ·have F7:=f6.trans f7
    exact⟨by have:=F7.next;omega,λq d=>by rw[o8 q om];exact F7.get q d⟩
   ·intro g p
    rcases kT.1 p with h|h
    ·exact hk g h
    ·rw[List.mem_singleton.1 h];exact xl
   ·intro g p
    rcases (tm g).1 p with h|h
    ·exact cG.mono (λg p=>kT.2 (.inl p)) (ht g h)
    ·rw[h];exact cG.of k (by simp)
   ·have:=NF r J k nx
    rw[iA,List.length_singleton,Nat.pow_succ];omega
 rintro a9 a ⟨xO,Y,O,R,⟨g,rfl⟩,U,r,F,nC⟩
 obtain⟨_,qO,qR⟩:=r.one
 have gB:a.get B=some (.cells false [aC 0,.aE,.aE]):=by rw[F.get B om];exact g1
 obtain⟨h9,e9,n9,g9,o9⟩:=mD a B [aC n,xO,Y]
 simp(disch:=omega)only[go_sem,aG U,bI a B 0 (v:= aC n) (u:=xO) (w:=Y) rfl qO qR,gB,bG,e9,aG g9]
 have Fh:Fr h a:=f1.trans F
 refine⟨O,R,r.go ⟨om,λq G K=>o9 q λe=>K (by show q<_;omega)⟩ λq _ (h:q<B)=>by show q<B+1;omega,⟨by have:=Fh.next;omega,λq d=>by rw[o9 q om];exact Fh.get q d⟩⟩
theorem Ax {W:Nat->Prop}(vc:V)(n:Nat)(O:LN)(R:fM)(G:List Nat->Prop)(s h:H)(b:GC W s vc n O R G)(f0:Fr s h):
  Ev T 96 [vc] h (λv h'=> ∃acc,cQ h' v 1 acc h.next/\aM (SI s) acc (R.flatten.map zi)/\Fr h h'):=by
 obtain⟨U,r,e,sO,sR⟩:=b.ch
 subst e
 refine cT Fy rfl ?_
 have k:U.one=true:=Vu sO
 have y:r.one=true:=Rd sR
 obtain⟨B,o,aR,_⟩:=sR
 have n7:=b.n7
 have lR:=b.isc.lr
 have lw:=aM.length aR
 rw[iN,lR] at lw
 obtain⟨A,hA⟩:=exI h.next
 obtain⟨j,e1,n1,g1,o1,Z⟩:=cU hA [aC n,U,r]
 have bx:=aQ h (v:= aC n) (u:=U) (w:=r) rfl k y
 have t:bF r=some (aC n):=by unfold bF;rw[SV.len o (n:=n) om om];rfl
 obtain⟨id,p,sh,K,hc⟩:=SV.shape (o.mono f0) n om om
 have a2: ∀a,Fr j a->a.cell A 2=some r:=λa f=>by rw[f.cell om,H.aF g1];rfl
 have rl: ∀i,i<n->(R.getD i []).length<=n/\0<(R.getD i []).length:=λi hi=>by
  refine⟨?_,(Jo b.dH b.isc hi).1⟩;rw[b.isc.rl i hi];have:=lQ (λx hx=>b.dH.cX hx) hi (b.isc.asc i hi) (b.isc.mem i hi);omega
 have fl: ∀i,i<=n->((R.take i).flatten).length<=i*n:=λi hi=>by
  induction i with
  |zero=>simp
  |succ i ih=>
   have j:=(rl i om).1;rw[dE [] om,List.flatten_append,iA,Nat.succ_mul];have:=ih om;simp only[List.flatten_cons,List.flatten_nil,tD];omega
 simp(disch:=omega)only[go_sem,Fy,aD,bx,hA,e1]
 refine aI (λk' d a=> ∃(i:Nat) (P:V) (acc:List V),(∃g:Nat->V,d= [g 0,.ptr A 0,g 2,P,aC i,g 5])/\i<=n/\cQ a P 1 acc j.next/\aM (SI s) acc (((R.take i).flatten).map zi)/\Fr j a/\k'=n-i) n
  ⟨0,.aE, [],aB rfl,fR _,cQ.aE _ _ _,trivial,Fr.refl j,rfl⟩ ?_
 rintro k' d a ⟨i,P,acc,⟨g,rfl⟩,hi,L,z,F,rfl⟩
 by_cases l:(i:Int)<(n:Int)
 case neg=>
  have d1:=bE l;obtain rfl:i=n:=om
  simp(disch:=omega)only[go_sem,a2 a F,t,d1];rw[Lq om] at z;exact⟨acc,L.le om,z,Z.trans F⟩
 have d1:=bN l
 have Y:i<n:=om
 have cc:a.cell id (p+i)=some (B.getD i .undef):=by
  rw[(Z.trans F).cell (K om),hc i om];simp [List.getD,show i<B.length by omega]
 have sr:SR s (B.getD i .undef) ((R.getD i []).map zi):=by
  have h2:=aM.get aR i om (by rw[iN];omega);rw[List.getElem_map] at h2;rw[List.getD,List.getD,dF om,dF om];exact h2
 generalize B.getD i .undef=va at cc sr
 obtain⟨wi,si,ai⟩:=sr
 have N:=aM.length ai
 rw[iN] at N
 have hr:=rl i Y
 have J:=aM.length z
 rw[iN] at J
 have a1:=fl i om
 have a0:i*n<=7*7:=Nat.mul_le_mul om n7
 have Fh:=Z.trans F
 obtain⟨hd,ad,Q⟩:=L.push (bytes:=24) (si.mono (f0.trans Fh)) (n:=acc.length) (m:=(R.getD i []).length) om om om hr.2 om
 simp(disch:=omega)only[go_sem,a2 a F,t,d1,sh.ixa,cc,ad]
 rw[dU i]
 have nF:=F.next
 have nd:=Q.next
 refine⟨n-(i+1),om,i+1,_,acc++wi,aB rfl,om,Q.own om om om,?_,⟨om,λq hq=>?_⟩,rfl⟩
 ·rw[dE [] om,List.flatten_append,List.map_append]
  simp only[List.flatten_cons,List.flatten_nil,tD]
  exact aM.append z ai
 ·rw[Q.old q om (λid p n' c e e2=>by have:=(L.in _ _ _ _ e).2.1;omega)]
  exact F.get q hq
theorem GL {h:H}{v:V}{x:List Nat}{b:Nat}(s:SI h v (zi x))(f: ∀id off len cap,v= .sl id off len cap->b<=id):PV (λq=>q<b) h v x:=by
 refine⟨s,?_⟩
 cases v with
 |sl id off len cap=>exact λ(e:id<b)=>by have:=f id off len cap rfl;omega
 |_=>trivial
theorem VT {n:Nat}{G:List Nat->Prop}{O:LN}{R:fM}(b:iJ n G)(c:aZ n G O R)(x:List Nat):cG n (· ∈R.flatten) x↔G x:=by
 constructor
 ·exact λh=>cG.le b (λg a=>kB c g a) h
 ·intro h
  refine cG.mono (λg a=>?_) (lF b c h);unfold bM at a;obtain⟨r,e,d⟩:=List.mem_flatMap.1 a;exact List.mem_flatten.2 ⟨r,e,List.mem_of_mem_drop d⟩
theorem FE {W:Nat->Prop}{h:H}{c:V}{n:Nat}{O:LN}{R:fM}{G:List Nat->Prop}(a:GC W h c n O R G):R.flatten.length<=49:=by
 have j:=a.isc.lr;have b:=a.n7
 have e: ∀i,i<n->(R.getD i []).length<=n:=λi hi=>by
  rw[a.isc.rl i hi];have:=lQ (λx f=>a.dH.cX f) hi (a.isc.asc i hi) (a.isc.mem i hi);omega
 have d: ∀i,i<=n->((R.take i).flatten).length<=i*n:=λi hi=>by
  induction i with
  |zero=>simp
  |succ i ih=>
   have g:=e i om;rw[dE [] om,List.flatten_append,iA,Nat.succ_mul];have:=ih om;simp only[List.flatten_cons,List.flatten_nil,tD];omega
 have:=d n (eH _);rw[Lq om] at this;exact lX this (Nat.mul_le_mul b b)
theorem yK {α β γ:Type}{R:α->γ->Prop}{f:β->γ}: ∀{l1:List α} {bs:List β},aM R l1 (bs.map f)->aM (λa b=>R a (f b)) l1 bs
 | [], [],_=>trivial
 |_::_,_::_,⟨h,k⟩=>⟨h,yK k⟩
theorem Ve (vg vb:V)(n:Nat)(gens a:LN)(h:H)(n0:1<=n)(n7:n<=7)(gP: ∀g∈gens,bC n g)(BP: ∀b∈a,bC n b)(gl:gens.length<100000)(Bl:a.length<=1000)(sg:SP h vg gens)(sB:SP h vb a):
  Ev T 152 [aC n,vg,vb] h (λv h'=> ∃O R,GC (λq=>q<h.next) h' v n O R (NC n (· ∈gens) (· ∈a))/\Fr h h'):=by
 refine cT zE rfl ?_
 obtain⟨B,hB⟩:=exI h.next
 obtain⟨h1,e1,n1,g1,o1,f1⟩:=cU hB [aC 0,.aE,.aE]
 have a3:=sB.lens
 rw[iN] at a3
 obtain⟨f8,d7,wB,c6,a0,g7,b7,a7⟩:=sB.open
 rw[iN] at c6 a0 g7 b7
 obtain⟨NG,Y⟩:=exI (NC n (· ∈gens) (· ∈a))
 have b0:iJ n NG:=Y▸NC.dH gP BP
 simp(disch:=omega)only[go_sem,zE,aD,hB,e1]
 refine (Mo vg n gens h1 n0 n7 om (sg.mono f1) gP).mono ?_
 rintro _ P ⟨O0,R0,d9,f2⟩
 obtain⟨vO,vR,rfl,oO,oR⟩:=d9.shape
 have n2:=f2.next
 obtain⟨C,hC⟩:=exI P.next
 obtain⟨h3,e3,n3,g3,o3,f3⟩:=cU hC [aC 0,.aE,.aE]
 obtain⟨h4,e4,n4,g4,o4⟩:=mD h3 C [aC n,vO,vR]
 have c4:Fr P h4:=⟨om,λq L=>by rw[o4 q om,o3 q om]⟩
 simp(disch:=omega)only[go_sem,hC,e3,bI h3 C 0 (v:= aC n) (u:=vO) (w:=vR) rfl oO oR,g3,bG,e4]
 refine aI (λo vs Q=> ∃(vO vR:V) (O:LN) (R:fM) (G:List Nat->Prop),(∃g:Nat->V,vs= [aC n,vg,vb,.ptr B 0,.ptr C 0,g 5,g 6,g 7,g 8,g 9,g 10,g 11,g 12,g 13])/\Q.get C=some (.cells false [aC n,vO,vR])/\GC (λq=>q<B+1∨q=C) Q (.agg [aC n,vO,vR]) n O R G/\(∀g∈gens,G g)/\(∀y,G y->NG y)/\Fr h1 Q/\C<Q.next/\5040-fV O n 0<=o) 5040
  ⟨vO,vR,O0,R0,_,aB rfl,g4,?_,λg J=>cG.of gP J,λy hy=>cG.le b0 (λg J=>Y▸NC.of J) hy,⟨om,λq L=>by rw[c4.get q om];exact f2.get q L⟩,om,?_⟩ ?_
 ·refine (d9.iP (W':=λq=>q<B+1∨q=C) λq hn L=>?_).mono c4
  rcases L with h|h
  ·show q<h1.next;omega
  ·omega
 ·omega
 rintro o K Q ⟨xO,xR,O,R,G,⟨g,rfl⟩,gC,s,e0,b1,F,nC,i5⟩
 have sz:=fK s
 simp(disch:=omega)only[go_sem,aG gC]
 refine (Ax _ n O R G Q Q s (Fr.refl Q)).mono ?_
 rintro v5 hs ⟨c1,a8,a5,f5⟩
 have lS:=FE s
 have gS:=VT s.dH s.isc
 have pS: ∀g∈R.flatten,G g:=λg J=>(gS g).1 (cG.of (λg J=>s.dH.cX (kB s.isc g J)) J)
 generalize hS:R.flatten=S at a5 lS gS pS
 have l5:=aM.length a5
 rw[iN] at l5
 have e5:=a8.sv
 have d5:bF v5=some (aC (S.length:Int)):=by unfold bF;rw[SV.len e5 (n:=S.length) om om];rfl
 obtain⟨b,hb⟩:=exI hs.next
 have Fs:Fr h1 hs:=F.trans f5
 have b9:hs.get C=some (.cells false [aC n,xO,xR]):=by rw[f5.get C nC];exact gC
 have c7:C<hs.next:=jB nC f5.next
 have c3:=s.mono f5
 have PS: ∀i,i<S.length->bC n (S.getD i []):=λi hi=>s.dH.cX (pS _ (aW hi))
 have PB: ∀k,k<a.length->bC n (a.getD k []):=λk hk=>BP _ (aW hk)
 have nF:=F.next
 have j4:=f5.next
 simp(disch:=omega)only[go_sem]
 refine bQ (λvs hi=> ∃(A:V) (N:List V) (more:LN),(∃g:Nat->V,vs= [aC n,vg,vb,.ptr B 0,.ptr C 0,v5,A,g 7,g 8,g 9,g 10,g 11,g 12,g 13])/\cQ hi A 1 N hs.next/\dW (λq=>q<b∨dD A q) hi N more/\(∀g∈more,NG g/\ ¬G g)/\(∀i k,i<S.length->k<a.length->G (cW (S.getD i []) (a.getD k []))∨cW (S.getD i []) (a.getD k [])∈more)/\more.length<=49*1000/\Fr hs hi) ?_ ?_
 ·refine aI (λo vs hi=> ∃(i:Nat) (A:V) (N:List V) (more:LN),(∃g:Nat->V,vs= [aC n,vg,vb,.ptr B 0,.ptr C 0,v5,A,aC i,g 8,g 9,g 10,g 11,g 12,g 13])/\i<=S.length/\cQ hi A 1 N hs.next/\dW (λq=>q<b∨dD A q) hi N more/\(∀g∈more,NG g/\ ¬G g)/\(∀t k,t<i->k<a.length->G (cW (S.getD t []) (a.getD k []))∨cW (S.getD t []) (a.getD k [])∈more)/\more.length<=i*a.length/\Fr hs hi/\o=S.length-i) S.length
   ⟨0,.aE, [], [],aB rfl,fR _,cQ.aE _ _ _,trivial,λg h=>(by cases h),λt k h=>absurd h (Nat.not_lt_zero _),by simp,Fr.refl _,rfl⟩ ?_
  rintro o K i8 ⟨i,A,N,more,⟨g,rfl⟩,hi,Z,pv,hm,hv,lm,Fi,rfl⟩
  by_cases d8:(i:Int)<(S.length:Int)
  case neg=>
   have d1:=bE d8;obtain rfl:i=S.length:=om
   simp(disch:=omega)only[go_sem,d5,d1];exact⟨A,N,more,aB rfl,Z,pv,hm,hv,lX lm (Nat.mul_le_mul lS Bl),Fi⟩
  have d1:=bN d8
  have a6:i<S.length:=om
  simp(disch:=omega)only[go_sem,d5,d1]
  refine aI (λo K Q=> ∃(k:Nat) (A:V) (N:List V) (more:LN),(∃g:Nat->V,K= [aC n,vg,vb,.ptr B 0,.ptr C 0,v5,A,aC i,aC k,g 9,g 10,g 11,g 12,g 13])/\k<=a.length/\cQ Q A 1 N hs.next/\dW (λq=>q<b∨dD A q) Q N more/\(∀g∈more,NG g/\ ¬G g)/\(∀t o,t<i∨t=i/\o<k->o<a.length->G (cW (S.getD t []) (a.getD o []))∨cW (S.getD t []) (a.getD o [])∈more)/\more.length<=i*a.length+k/\Fr hs Q/\o=a.length-k) a.length
   ⟨0,A,N,more,aB rfl,fR _,Z,pv,hm,λt o h=>hv t o om,lm,Fi,rfl⟩ ?_
  clear Z pv hm hv lm Fi
  rintro o K l ⟨k,A,N,more,⟨g,rfl⟩,hk,Z,pv,hm,hv,lm,Fk,rfl⟩
  by_cases e6:(k:Int)<(a.length:Int)
  case neg=>
   have d2:=bE e6;obtain rfl:k=a.length:=om
   simp(disch:=omega)only[go_sem,a3,d2];rw[dU i];exact⟨S.length-(i+1),om,i+1,A,N,more,aB rfl,om,Z,pv,hm,λt k h P=>hv t k om P,by rw[Nat.succ_mul];exact lm,Fk,rfl⟩
  have d2:=bN e6
  have a9:k<a.length:=om
  have mm:i*a.length<=49*1000:=Nat.mul_le_mul om Bl
  have l6:=aM.length pv
  obtain⟨g5,b5,e8,i2,f7⟩:=(e5.mono Fk).shape S.length om om
  have cS:l.cell g5 (b5+i)=some (c1.getD i V.undef):=by rw[f7 i om,List.getD,dF om];rfl
  have b8:=Ae a5 a6
  have cB:l.cell f8 (d7+k)=some (wB.getD k V.undef):=by rw[((f1.trans Fs).trans Fk).cell (a0 om),b7 k om]
  have d4:=Ae a7 a9
  have P1:=PS i a6
  have Q1:=PB k a9
  have g8:=pS _ (aW (d:= []) a6)
  have bB:=aW (d:= []) a9
  obtain⟨x,hx⟩:=exI (cW (S.getD i []) (a.getD k []))
  have X:bC n x:=hx▸nH P1 Q1
  have xN:NG x:=by
   rw[←hx,←Y];exact NC.cj (by rw[Y];exact b1 _ g8) bB
  generalize c1.getD i V.undef=vs at cS b8
  generalize wB.getD k V.undef=vw at cB d4
  have fb:Fr l (H.mk l.tr (l.next+10)):=(Fr.refl l).bH om
  have j0:(H.mk l.tr (l.next+10)).next=l.next+10:=rfl
  simp(disch:=omega)only[go_sem,a3,d2,e8.ixa,cS,c6.ixa,cB]
  refine (KW vs vw n _ _ _ om P1 Q1 (b8.mono (f5.trans (Fk.trans fb))) (d4.mono (((f1.trans Fs).trans Fk).trans fb))).mono ?_
  rw[hx]
  rintro v9 c0 ⟨s9,f9,n9⟩
  have g6:=GL s9 n9
  have F2:=fb.trans f9
  have b4:=Fk.trans F2
  have j5:=F2.next
  have f6:c0.get C=some (.cells false [aC n,xO,xR]):=by rw[b4.get C c7];exact b9
  simp(disch:=omega)only[go_sem,aG f6]
  refine (GQ _ v9 n O R _ x c0 n0 om s.dH s.isc (c3.ch.mono b4) s9 X).mono ?_
  rintro _ h0 ⟨bb,rfl,c5,b6⟩
  have F3:=F2.trans b6
  have b2:=Fk.trans F3
  cases bb with
  |true=>
   simp(disch:=omega)only[go_sem];rw[dU k];refine⟨a.length-(k+1),om,k+1,A,N,more,aB rfl,om,Z.fr F3,dW.fr pv F3,hm,λt o h1 P=>?_,om,b2,rfl⟩
   by_cases e:t=i/\o=k
   ·rw[e.1,e.2,hx];exact .inl (c5.1 rfl)
   ·exact hv t o om P
  |false=>
   have nx: ¬G x:=λh=>by have:=c5.2 h;cases this
   have wx:=SV.cF s9;obtain⟨i4,a4,g2,h8,f4,j1⟩:=DC (x:=x) (v:=v9) (Z.fr F3) b2 om (b:=b) om (dW.fr pv F3) ⟨s9.mono b6,(PV.UN Z (by have:=Fk.next;omega) (g6.iP λq _ (h:q<l.next)=>by show q<l.next+10;omega)).off⟩;simp(disch:=omega)only[go_sem,bZ h0 (z:= .aE) wx.1 wx.2.1,a4];rw[dU k];refine⟨a.length-(k+1),om,k+1,_,_,more++ [x],aB rfl,om,g2,h8,λg J=>?_,λt o h1 P=>?_,by rw[iA,List.length_singleton];omega,f4,rfl⟩
   ·rcases kT.1 J with h|h
    ·exact hm g h
    ·rw[List.mem_singleton.1 h];exact⟨xN,nx⟩
   ·by_cases e:t=i/\o=k
    ·rw[e.1,e.2,hx];exact .inr (by simp)
    ·exact (hv t o om P).imp id λh=>kT.2 (.inl h)
 rintro K hi ⟨A,N,more,⟨g,rfl⟩,Z,pv,hm,hv,lm,Fi⟩
 have l6:=aM.length pv
 have c2:bF A=some (aC (more.length:Int)):=by unfold bF;rw[SV.len Z.sv (n:=more.length) om om];rfl
 have j3:=Fi.next
 have h5:hi.get C=some (.cells false [aC n,xO,xR]):=by rw[Fi.get C c7];exact b9
 by_cases b3:more.length=0
 ·have d3:decide ((more.length:Int)=0)=true:=bN om
  have i1:more= []:=WE b3
  have e7:hi.get B=some (.cells false [aC 0,.aE,.aE]):=by rw[(Fs.trans Fi).get B om];exact g1
  obtain⟨_,qO,qR⟩:=s.one
  obtain⟨h9,e9,n9,g9,o9⟩:=mD hi B [aC n,xO,xR]
  simp(disch:=omega)only[go_sem,c2,d3,aG h5,bI hi B 0 (v:= aC n) (u:=xO) (w:=xR) rfl qO qR,e7,bG,e9,aG g9]
  have Fh:Fr h hi:=(f1.trans Fs).trans Fi
  have eG: ∀y,G y↔NG y:=λy=>by
   refine⟨b1 y,λhy=>?_⟩;rw[←Y] at hy;refine hy.le s.dH e0 λz c hz hc=>?_
   obtain⟨k,hk,rfl⟩:=wV.1 hc;have h7: ∀g∈S,bC n g:=λg J=>s.dH.cX (pS g J)
   have ek:a[k]=a.getD k []:=mG hk;rw[ek];refine (gS _).1 (IM h7 (PB k hk) (λz hz=>?_) ((gS z).2 hz));obtain⟨i,c8,rfl⟩:=wV.1 hz;rw[mG (d:= []) c8];rcases hv i k c8 hk with h|h
   ·exact (gS _).2 h
   ·rw[i1] at h;cases h
  rw[Y]
  refine⟨O,R,((c3.mono Fi).congr eG).go ⟨om,λq h1 P=>o9 q λe=>P (.inl om)⟩ λq _ (h:q<B)=> .inl om,⟨by have:=Fh.next;omega,λq L=>by rw[o9 q om];exact Fh.get q L⟩⟩
 ·have d3:decide ((more.length:Int)=0)=false:=bE om
  obtain⟨vq,L,aq,Ap⟩:=(a8.fr Fi).app (bytes:=24) om Z.sv (n:=S.length) (m:=more.length) om om om om
  have nq:=Ap.next
  have a2:Fr Q L:=Ap.fr Q (f5.trans Fi) (eH _)
  have d0:Fr h1 L:=F.trans a2
  have i6:Fr h L:=f1.trans d0
  have h6: ∀k,b<=k->cZ v5 k:=λk hk i7 j2 m c e e2=>by have:=(a8.in _ _ _ _ e).1;omega
  have i0:Fx (λq=>q<b) hi L:=⟨om,λq h1 P=>Ap.get q om (h6 q om)⟩
  have g0:SP L vq (S++more):=dW.Xg (W:=λ_=>False) Ap.own.sv (aM.append (aM.mono (λ_ _ p=>⟨p.mono a2,uD _⟩) (yK a5)) (aM.mono (λ_ _ p=>(PV.go p (Fx.wide i0 λq h=> .inl h) λq _ h=>h.elim)) pv))
  simp(disch:=omega)only[go_sem,c2,d3,aq]
  have d6: ∀g∈S++more,bC n g:=λg J=>(kT.1 J).elim (λh=>s.dH.cX (pS g h)) λh=>b0.cX (hm g h).1
  refine (Mo vq n (S++more) L n0 n7 (by rw[iA];omega) g0 d6).mono ?_
  rintro _ hr ⟨O2,R2,U,fr⟩
  obtain⟨yO,yR,rfl,pO,pR⟩:=U.shape
  have c9:=d0.trans fr
  have i9:=fr.next
  have f0:hr.get C=some (.cells false [aC n,xO,xR]):=by rw[fr.get C om,a2.get C nC];exact gC
  obtain⟨h9,e9,n9,g9,o9⟩:=mD hr C [aC n,yO,yR]
  simp(disch:=omega)only[go_sem,bI hr C 0 (v:= aC n) (u:=yO) (w:=yR) rfl pO pR,f0,bG,e9]
  have a1: ∀y,G y->cG n (· ∈S++more) y:=λy hy=>cG.mono (λg J=>kT.2 (.inl J)) ((gS y).2 hy)
  obtain⟨z,hz⟩: ∃z,z∈more:=by
   cases more with
   |nil=>exact absurd rfl b3
   |cons z r=>exact⟨z,by simp⟩
  have j6:=fK U
  have BZ:2*fV O n 0<=fV O2 n 0:=by
   obtain⟨E,e⟩:=dL s.dH s.isc;obtain⟨F',f⟩:=dL U.dH U.isc;rw[←e,←f];exact dbl s.dH U.dH E F' a1 (cG.of d6 (kT.2 (.inr hz))) (hm z hz).2
  have i3:=xX n 0 λj _ P=>(s.row (j:=j) om).1
  refine⟨_,?_,yO,yR,O2,R2,_,aB rfl,g9,?_,λg J=>a1 g (e0 g J),λy hy=>cG.le b0 (λg J=>(kT.1 J).elim (λh=>b1 g (pS g h)) λh=>(hm g h).1) hy,⟨by have:=c9.next;omega,λq L=>by rw[o9 q om];exact c9.get q L⟩,om,eH _⟩
  ·omega
  ·exact U.go ⟨om,λq h1 P=>o9 q λe=>P (by show q<_;omega)⟩ λq _ h=>by
    show q<L.next;rcases h with h|h
    ·omega
    ·omega
theorem uU {n:Nat}{G:List Nat->Prop}{O:LN}{R:fM}(l:iJ n G)(c:aZ n G O R){g:List Nat}(h:g∈R.flatten):g∈bM R∨g=bT n:=by
 obtain⟨r,a,k⟩:=List.mem_flatten.1 h;obtain⟨i,hi,rfl⟩:=wV.1 a;have f:=Jo l c (i:=i) (by rw[←c.lr];exact hi);obtain⟨j,b,rfl⟩:=wV.1 k
 cases j with
 |zero=>
  right;have e:=f.2;rw[←mG (d:= []) hi] at e;rw[mG (d:= []) b];exact e
 |succ j=>
  left;unfold bM;refine List.mem_flatMap.2 ⟨R[i],a,?_⟩;refine wV.2 ⟨j,by rw[BM];omega,?_⟩;rw[List.getElem_drop];congr 1;omega
theorem jP {R:fM}{g:List Nat}(a:g∈bM R):g∈R.flatten:=by
 unfold bM at a;obtain⟨r,c,b⟩:=List.mem_flatMap.1 a;exact List.mem_flatten.2 ⟨r,c,List.mem_of_mem_drop b⟩
theorem YO {n:Nat}{G K:List Nat->Prop}{O u:LN}{R k:fM}(o:iJ n G)(r:iJ n K)(c:aZ n G O R)(d:aZ n K u k)(x:List Nat):NC n (· ∈BY R.flatten k.flatten) (· ∈R.flatten++k.flatten) x↔Au n R k x:=by
 have j: ∀g∈R.flatten,bC n g:=λg t=>o.cX (kB c g t)
 have l: ∀g∈k.flatten,bC n g:=λg t=>r.cX (kB d g t)
 unfold Au;refine NC.same (λa s=>?_) (λb i=>(kT.1 i).elim (j b) (l b)) ?_ (λb i=>i.elim (λh=>j b (jP h)) λh=>l b (jP h)) (λa s=>?_) ?_ (λb i=>?_) (λb i=> .inl (kT.2 (i.imp jP jP))) x
 ·obtain⟨p,f,q,e,rfl⟩:=Cd.1 s
  exact wY (j p f) (l q e)
 ·rintro a ⟨p,f,q,e,rfl⟩
  exact wY (j p (jP f)) (l q (jP e))
 ·obtain⟨p,f,q,e,rfl⟩:=Cd.1 s
  rcases uU o c f with m|rfl
  ·rcases uU r d e with v|rfl
   ·exact .inl ⟨p,m,q,v,rfl⟩
   ·exact .inr (Rh (j p f))
  ·exact .inr (Si (l q e))
 ·rintro a ⟨p,f,q,e,rfl⟩
  exact .inl (Cd.2 ⟨p,jP f,q,jP e,rfl⟩)
 ·rcases kT.1 i with h|h
  ·rcases uU o c h with m|rfl
   ·exact .inl (.inl m)
   ·exact .inr rfl
  ·rcases uU r d h with m|rfl
   ·exact .inl (.inr m)
   ·exact .inr rfl
theorem NV {W W':Nat->Prop}(vc vd:V)(n:Nat)(O O':LN)(R R':fM)(G G':List Nat->Prop)(h:H)(J:GC W h vc n O R G)(P:GC W' h vd n O' R' G'):
  Ev T 125 [vc,vd] h (λv h'=> ∃vr O2 R2,v= .tup [vr,aC 0]/\GC (λq=>q<h.next) h' vr n O2 R2 (Au n R R')/\Fr h h'):=by
 obtain⟨vO,vR,rfl,oO,oR⟩:=J.shape
 obtain⟨uO,uR,rfl,pO,pR⟩:=P.shape
 refine cT tZ rfl ?_
 have n0:=J.n0
 have n7:=J.n7
 have hG:=J.dH
 have b0:=P.dH
 obtain⟨B,hB⟩:=exI h.next
 obtain⟨h1,e1,n1,g1,o1,f1⟩:=cU hB [aC n,vO,vR]
 obtain⟨h2,e2,n2,g2,o2,f2⟩:=cU n1 [aC n,uO,uR]
 obtain⟨Y,e3,n3,g3,o3,f3⟩:=cU n2 [aC 0,.aE,.aE]
 have F3:=(f1.trans f2).trans f3
 have gB: ∀a,Fr Y a->a.get B=some (.cells false [aC n,vO,vR]):=λa f=>by rw[f.get B om,o3 B om,o2 B om];exact g1
 have gC: ∀a,Fr Y a->a.get (B+1)=some (.cells false [aC n,uO,uR]):=λa f=>by rw[f.get (B+1) om,o3 _ om];exact g2
 have gA: ∀a,Fr Y a->a.get (B+1+1)=some (.cells false [aC 0,.aE,.aE]):=λa f=>by rw[f.get _ om];exact g3
 have r3:=Fr.refl Y
 simp(disch:=omega)only[go_sem,tZ,aD,aQ h (v:= aC n) (u:=vO) (w:=vR) rfl oO oR,hB,e1,aQ h1 (v:= aC n) (u:=uO) (w:=uR) rfl pO pR,n1,e2,n2,e3,aG (gB Y r3),aG (gC Y r3)]
 refine (MP _ _ n O O' R R' G G' Y (J.mono F3) (P.mono F3)).mono ?_
 rintro _ r ⟨rfl,f4⟩
 have d0:decide ((0:Int)≠0)=false:=rfl
 have F4:=F3.trans f4
 have fb:Fr r (H.mk r.tr (r.next+6)):=(Fr.refl r).bH om
 simp(disch:=omega)only[go_sem,d0,aG (gB r f4),aG (gC r f4)]
 refine (Ax _ n O R G h _ J (F4.trans fb)).mono ?_
 rintro va h5 ⟨wA,K,a9,f5⟩
 have b6:=fb.trans f5
 have F5:=f4.trans b6
 have ec:dB uO uO=true/\dB uR uR=true:=by
  obtain⟨_,_,_,_,e,sO,_,_,sR,_,_⟩:=P.cw;cases e;exact⟨SV.dB sO,SV.dB sR⟩
 simp(disch:=omega)only[go_sem,aG (gC h5 F5),ec.1,ec.2]
 refine (Ax _ n O' R' G' h h5 P (F4.trans b6)).mono ?_
 rintro vb N ⟨wB,b1,a7,f6⟩
 have F6:=F5.trans f6
 have c5:=F3.trans F6
 have pA:=yK a9
 have pB:=yK a7
 have lA:=aM.length pA
 have lB:=aM.length pB
 have sA:=FE J
 have sB:=FE P
 have a4:=YO hG b0 J.isc P.isc
 have Q: ∀g∈R.flatten,bC n g:=λg hg=>hG.cX (kB J.isc g hg)
 have U: ∀g∈R'.flatten,bC n g:=λg hg=>b0.cX (kB P.isc g hg)
 generalize R.flatten=A at pA lA sA a4 Q a9
 generalize R'.flatten=C at pB lB sB a4 U a7
 have a2:=Q
 have a8:=U
 have e6: ∀a,Fr N a->SV a va 1 wA:=λa f=>K.sv.mono (f6.trans f)
 have b9: ∀a,Fr N a->SV a vb 1 wB:=λa f=>b1.sv.mono f
 have b5:bF va=some (aC (A.length:Int)):=by unfold bF;rw[SV.len K.sv (n:=A.length) om om];rfl
 have b2:bF vb=some (aC (C.length:Int)):=by unfold bF;rw[SV.len b1.sv (n:=C.length) om om];rfl
 have f0: ∀{i k},i<=A.length->k<=C.length->(BU A C i k).length<=50*49:=λ{i k} hi hk=>lX (JG hi hk) (Nat.mul_le_mul om om)
 have g6:Fr h (H.mk r.tr (r.next+6)):=F4.trans fb
 simp(disch:=omega)only[go_sem]
 obtain⟨b,hb⟩:=exI N.next
 refine bQ (λvs a=> ∃(l:V) (t:List V),(∃g:Nat->V,vs= [g 0,g 1,.ptr B 0,.ptr (B+1) 0,.ptr (B+1+1) 0,aC 0,g 6,va,vb,l,g 10,g 11,g 12,g 13,g 14,g 15])/\cQ a l 1 t N.next/\dW (λq=>q<b∨dD l q) a t (BY A C)/\Fr N a) ?_ ?_
 ·refine aI (λk' o a=> ∃(i:Nat) (l:V) (t:List V),(∃g:Nat->V,o= [g 0,g 1,.ptr B 0,.ptr (B+1) 0,.ptr (B+1+1) 0,aC 0,g 6,va,vb,l,aC i,g 11,g 12,g 13,g 14,g 15])/\i<=A.length/\cQ a l 1 t N.next/\dW (λq=>q<b∨dD l q) a t (BU A C i 0)/\Fr N a/\k'=A.length-i) A.length
   ⟨0,.aE, [],aB rfl,fR _,cQ.aE _ _ _,trivial,Fr.refl _,rfl⟩ ?_
  rintro k' o a ⟨i,l,t,⟨g,rfl⟩,hi,y,pv,F,rfl⟩
  by_cases c1:(i:Int)<(A.length:Int)
  case neg=>
   have d1:=bE c1;obtain rfl:i=A.length:=om
   simp(disch:=omega)only[go_sem,b5,d1];exact⟨l,t,aB rfl,y,by rw[GY] at pv;exact pv,F⟩
  have d1:=bN c1
  have Z:i<A.length:=om
  simp(disch:=omega)only[go_sem,b5,d1]
  refine aI (λk' o a=> ∃(k:Nat) (l:V) (t:List V),(∃g:Nat->V,o= [g 0,g 1,.ptr B 0,.ptr (B+1) 0,.ptr (B+1+1) 0,aC 0,g 6,va,vb,l,aC i,aC k,g 12,g 13,g 14,g 15])/\k<=C.length/\cQ a l 1 t N.next/\dW (λq=>q<b∨dD l q) a t (BU A C i k)/\Fr N a/\k'=C.length-k) C.length
   ⟨0,l,t,aB rfl,fR _,y,pv,F,rfl⟩ ?_
  clear y pv F
  rintro k' o j ⟨k,l,t,⟨g,rfl⟩,hk,y,pv,F,rfl⟩
  by_cases c3:(k:Int)<(C.length:Int)
  case neg=>
   have d2:=bE c3;obtain rfl:k=C.length:=om
   simp(disch:=omega)only[go_sem,b2,d2];rw[dU i];exact⟨A.length-(i+1),om,i+1,l,t,aB rfl,om,y,by rw[GS A C Z] at pv;exact pv,F,rfl⟩
  have d2:=bN c3
  have a5:k<C.length:=om
  obtain⟨e8,b7,d5,g0,f7⟩:=(e6 j F).shape A.length om om
  have cA:j.cell e8 (b7+i)=some (wA.getD i V.undef):=by rw[f7 i om,List.getD,dF om];rfl
  have Xg:=Ae a9 Z
  have P1:=a2 _ (aW (d:= []) Z)
  generalize wA.getD i V.undef=vp at cA Xg
  obtain⟨d8,b8,f9,g4,d9⟩:=(b9 j F).shape C.length om om
  have cC:j.cell d8 (b8+k)=some (wB.getD k V.undef):=by rw[d9 k om,List.getD,dF om];rfl
  have c0:=Ae a7 a5
  have Q1:=a8 _ (aW (d:= []) a5)
  generalize wB.getD k V.undef=vq at cC c0
  have a0:Fr j (H.mk j.tr (j.next+14)):=(Fr.refl j).bH om
  have g9:(H.mk j.tr (j.next+14)).next=j.next+14:=rfl
  simp(disch:=omega)only[go_sem,b2,d2,d5.ixa,cA,f9.ixa,cC]
  refine (LV vp vq n _ _ _ n0 om P1 Q1 (Xg.mono (c5.trans (F.trans a0))) (c0.mono (c5.trans (F.trans a0)))).mono ?_
  rintro _ d7 ⟨w,rfl,sw,d4,nw⟩
  have pw:=GL sw nw
  have a1:=a0.trans d4
  have ll:=f0 (i:=i) (k:=k) om om
  have l9:=aM.length pv
  obtain⟨h9,a3,c8,d6,c9,i1⟩:=DC (x:=iQ (A.getD i []) (C.getD k [])) (v:=w) (y.fr a1) (F.trans a1) om (b:=b) om (dW.fr pv a1) (PV.UN y (by have:=F.next;omega) (pw.iP λq _ (h:q<j.next)=>by show q<j.next+14;omega))
  have wx:=SV.cF pw.si
  simp(disch:=omega)only[go_sem,bZ d7 (z:= .aE) wx.1 wx.2.1,a3]
  rw[dU k]
  exact⟨C.length-(k+1),om,k+1,_,_,aB rfl,om,c8,by rw[Zv A C a5];exact d6,c9,rfl⟩
 rintro o a ⟨l,t,⟨g,rfl⟩,y,pv,F⟩
 have l9:=aM.length pv
 rw[Ff] at l9
 have g8:A.length*C.length<=49*49:=Nat.mul_le_mul om om
 have c6:=F6.trans F
 have g5:=F3.trans c6
 have a6:Fr a (H.mk a.tr (a.next+9)):=(Fr.refl a).bH om
 have i0:(H.mk r.tr (r.next+6)).next=r.next+6:=rfl
 have h7:r.next+6<=h5.next:=f5.next
 have g7:=f6.next
 have nF:=F.next
 have nb:(H.mk a.tr (a.next+9)).next=a.next+9:=rfl
 have FA:Fr h5 (H.mk a.tr (a.next+9)):=f6.trans (F.trans a6)
 obtain⟨vl,s,e4,Ap⟩:=cQ.app (h:=H.mk a.tr (a.next+9)) (bytes:=24) (b:=r.next+6) (K.fr FA) om ((b9 a F).mono a6) (n:=A.length) (m:=C.length) om om om om
 have nq:=Ap.next
 have aA: ∀k,b<=k->cZ va k:=λk hk h0 e9 m c e e2=>by have:=(K.in _ _ _ _ e).1;omega
 have c4:Fx (λq=>q<b) a s:=⟨om,λq h1 h2=>Ap.get q om (aA q om)⟩
 have e7:Fr (H.mk r.tr (r.next+6)) s:=Ap.fr _ (f5.trans (f6.trans (F.trans a6))) (eH _)
 have f8:Fr r s:=fb.trans e7
 have L:Fr Y s:=f4.trans f8
 have b4:Fr h s:=F3.trans L
 have c7:SP s l (BY A C):=by
  refine dW.Xg (W:=λq=>q<b) (SV.fx y.sv (W:=λq=>q<b) ?_ c4) (aM.mono (λ_ _ p=>PV.go p (Fx.wide c4 λq h=> .inl h) λq _ h=> .inl h) pv)
  cases l with
  |sl id e9 m c=>exact λ(e:id<b)=>by have:=(y.in _ _ _ _ rfl).2.1;omega
  |_=>trivial
 have cB:WU (s.cell B 0) (aC n)=true:=by rw[H.aF (gB s L)];simp [WU,dB]
 have e0:SP s vl (A++C):=dW.Xg (W:=λ_=>False) Ap.own.sv (aM.append (aM.mono (λ_ _ p=>⟨p.mono b4,uD _⟩) pA) (aM.mono (λ_ _ p=>⟨p.mono b4,uD _⟩) pB))
 simp(disch:=omega)only[go_sem,H.aF (gB a c6),e4]
 refine⟨cB,?_⟩
 refine (Ve l vl n (BY A C) (A++C) s n0 n7 (λg hg=>?_) (λg hg=>(kT.1 hg).elim (a2 g) (a8 g)) (by rw[Ff];omega) (by rw[iA];omega) c7 e0).mono ?_
 ·obtain⟨p,hp,q,s,rfl⟩:=Cd.1 hg
  exact wY (a2 p hp) (a8 q s)
 rintro _ hr ⟨O2,R2,b3,fr⟩
 obtain⟨xO,xR,rfl,d3,e5⟩:=b3.shape
 have h8:=fr.next
 have c2:=L.trans fr
 obtain⟨hs,es,ns,gs,os⟩:=mD hr (B+1+1) [aC n,xO,xR]
 simp(disch:=omega)only[go_sem,bI hr (B+1+1) 0 (v:= aC n) (u:=xO) (w:=xR) rfl d3 e5,gA hr c2,bG,es,aG gs]
 have q3:=L.next
 refine⟨_,O2,R2,rfl,?_,⟨om,λq s=>by rw[os q om,c2.get q om];exact F3.get q s⟩⟩
 exact (b3.congr a4).go ⟨om,λq h1 h2=>os q λe=>h2 (by show q<_;omega)⟩ λq _ (h:q<B)=>by show q<s.next;omega
theorem QA {W0:Nat->Prop}(vc:V)(n:Nat)(O0:LN)(R0:fM)(G:List Nat->Prop)(h:H)(gc:GC W0 h vc n O0 R0 G):
  Ev T 126 [vc,aC 0] h (λv h'=> ∃vr,v= .tup [vr,aC 0]/\GC (λq=>q<h.next) h' vr n O0 R0 G/\Fr h h'):=by
 have m2:=gc
 have j:=gc.isc
 have n0:=gc.n0
 have n7:=gc.n7
 obtain⟨uO,uR,ev,sO,sR⟩:=gc.ch
 subst ev
 refine cT Hg rfl ?_
 obtain⟨l8,eO,cO,c9,j1,d6,wO,d3,a3⟩:=sK sO
 obtain⟨m4,l6,l5,g8,i9,g3,wR,c7,a8⟩:=Ao sR
 rw[iN,j.lo] at d3 a3
 rw[iN,j.lr] at c7 a8
 obtain⟨B,hB⟩:=exI h.next
 obtain⟨h1,e1,n1,g1,o1,f1⟩:=cU hB [aC n,uO,uR]
 obtain⟨Q,e2,n2,g2,o2,f2⟩:=cU n1 [aC 0,.aE,.aE]
 have i0:Q.get B=aY [aC n,uO,uR]:=by rw[o2 B om];exact g1
 simp(disch:=omega)only[go_sem,Hg,aD,aQ h (v:= aC n) (u:=uO) (w:=uR) rfl c9 g8,hB,e1,n1,e2,aG i0]
 refine ((gc.mono (f1.trans f2)).Pg).mono ?_
 rintro _ h3 ⟨rfl,f3⟩
 have n3:=f3.next
 have d0:decide ((0:Int)≠0)=false:=rfl
 have d1:decide ((0:Int)<0)=false:=rfl
 have d2:decide ((0:Int)>(n:Int))=false:=bE om
 have j7:h3.get B=aY [aC n,uO,uR]:=by rw[f3.get B om];exact i0
 have k3:h3.get (B+1)=aY [aC 0,.aE,.aE]:=by rw[f3.get _ om];exact g2
 obtain⟨C,hC⟩:=exI h3.next
 obtain⟨h4,e4,n4,g4,o4,f4⟩:=cU hC [aC 0,.aE,.aE]
 obtain⟨h5,e5,n5,g5,o5⟩:=mD h4 C [aC n,.aE,.aE]
 have bl:rK [aC 0,.aE,.aE] [(0,1,aC n)]=some (.agg [aC n,.aE,.aE]):=by
  have e1:putAt [aC 0,.aE,.aE] 0 [aC n]=some [aC n,.aE,.aE]:=by simp [putAt]
  simp [rK,gZ,e1,V.cells,V.one]
 simp(disch:=omega)only[go_sem,d0,d1,d2,H.aF j7,bl,hC,e4,bI h4 C 0 (v:= aC n) (u:= .aE) (w:= .aE) rfl rfl rfl,g4,bG,e5]
 have l0:h5.get (B+1)=aY [aC 0,.aE,.aE]:=by rw[o5 _ om,o4 _ om];exact k3
 have F5:Fr h1 h5:=⟨om,λq hq=>by rw[o5 q om,o4 q om,f3.get q om,o2 q om]⟩
 refine aI (λk' a1 F=> ∃(i:Nat) (W:Nat->Prop) (O:LN) (R':fM) (vO U:V) (e7 c6:List V),(∃g:Nat->V,a1= [g 0,aC 0,.ptr B 0,.ptr (B+1) 0,g 4,g 5,.ptr C 0,aC i,g 8,g 9,g 10,g 11,g 12,g 13,g 14])/\i<=n/\yC h1 F C (B+1) W n O R' vO U e7 c6/\
   F.get (B+1)=aY [aC 0,.aE,.aE]/\O=O0.take i/\R'=R0.take i/\k'=n-i) n
  ⟨0,_, [], [],_,_,_,_,aB rfl,fR _,yC.start om om om om om F5 g5,l0,rfl,rfl,rfl⟩ ?_
 rintro k' a1 h6 ⟨i,W,O,R',vO,U,e7,c6,⟨g,rfl⟩,hi,A,gD,b6,b2,rfl⟩
 have b3:h6.get B=aY [aC n,uO,uR]:=by rw[A.fr.get B om];exact g1
 by_cases f5:(i:Int)<(n:Int)
 case neg=>
  have e1:=bE f5;obtain rfl:i=n:=om
  rw[Lq (by rw[j.lo];exact eH _)] at b6;rw[Lq (by rw[j.lr];exact eH _)] at b2;have hr:=aG A.get;have nB:=A.fr.next;obtain⟨s,e9,n9,g9,o9⟩:=mD h6 (B+1) [aC i,vO,U];simp(disch:=omega)only[go_sem,H.aF b3,e1,hr,bI h6 (B+1) 0 (v:= aC i) (u:=vO) (w:=U) rfl (SV.cF A.oO.sv).2.1 (SV.cF A.oR.sv).2.1,gD,bG,e9,aG g9];have A3:=A.box e9.symm;have cw:=A3.chw;rw[b6,b2] at cw;exact⟨_,rfl,⟨cw.go (Fx.refl _ _) λq _ (h:q<B)=>by show q<h1.next;omega,j,gc.dH,n0,n7⟩,f1.trans A3.fr⟩
 have e1:=bN f5
 have e2:decide ((i:Int)<0)=false:=bE om
 have p:i<n:=om
 simp(disch:=omega)only[go_sem,H.aF b3,e1,e2]
 obtain⟨bR,d7,c1⟩:=a8 i p
 obtain⟨bO,i1,c5⟩:=a3 i p
 rw[iD (List.map zi) (d:= []) (by rw[j.lr];exact p)] at c1
 rw[iD zi (d:= []) (by rw[j.lo];exact p)] at c5
 generalize wO.getD i V.undef=vo at i1 c5
 generalize wR.getD i V.undef=i3 at d7 c1
 obtain⟨c0,er,m1,l2,j4,d5,wr,d9,a5⟩:=sK c1
 rw[iN] at c0 d9 a5
 have j3: ∀g∈R0.getD i [],bC n g:=λg hg=>gc.dH.cX (kB j g (List.mem_flatten.2 ⟨_,aW (by rw[j.lr];exact p),hg⟩))
 have m0:(R0.getD i []).length<=n:=by
  rw[j.rl i p];have:=lQ (λx hx=>gc.dH.cX hx) p (j.asc i p) (j.mem i p);omega
 have m3:(O0.getD i []).length<=n:=by
  have:=lQ (λx hx=>gc.dH.cX hx) p (j.asc i p) (j.mem i p);omega
 generalize i6:R0.getD i []=rr at*
 generalize k4:O0.getD i []=oo at*
 have g0:Fr h h6:=f1.trans A.fr
 refine bQ (λvs F=> ∃(vr:V),(∃g:Nat->V,vs= [g 0,aC 0,.ptr B 0,.ptr (B+1) 0,g 4,g 5,.ptr C 0,aC i,vr,g 9,g 10,g 11,g 12,g 13,g 14])/\PL W F vr rr/\Fr h6 F) ?_ ?_
 ·refine aI (λk' vs F=> ∃(k:Nat) (vr:V) (ws:List V) (W':Nat->Prop),(∃g:Nat->V,vs= [g 0,aC 0,.ptr B 0,.ptr (B+1) 0,g 4,g 5,.ptr C 0,aC i,vr,aC k,g 10,g 11,g 12,g 13,g 14])/\k<=rr.length/\cQ F vr 1 ws h6.next/\dW W' F ws (rr.take k)/\Dg W' vr/\(∀id,W id->W' id)/\(∀id,W' id->id<F.next/\(W id∨h6.next<=id))/\Fr h6 F/\k'=rr.length-k) rr.length
   ⟨0,.aE, [],W,aB rfl,fR _,cQ.aE _ _ _,trivial,λ_ _ _ _ e=>(by cases e),λ_ h=>h,λid h=>⟨A.wb id h,.inl h⟩,Fr.refl _,rfl⟩ ?_
  rintro k' a1 f ⟨k,vr,ws,W',⟨g,rfl⟩,hk,ow,b1,k7,g6,d8,f7,rfl⟩
  have b5:f.get B=aY [aC n,uO,uR]:=by rw[f7.get B (by have:=A.fr.next;omega)];exact b3
  have F7:=g0.trans f7
  have h0:f.cell i9 (g3+i)=some i3:=by rw[F7.cell bR];exact d7
  by_cases b8:(k:Int)<(rr.length:Int)
  case neg=>
   have e2:=bE b8;obtain rfl:k=rr.length:=om
   simp(disch:=omega)only[go_sem,H.aF b5,c7.ixa,h0,c0,e2];rw[List.take_length] at b1;refine⟨vr,aB rfl,⟨ws,ow.sv,?_,b1.iP (λid _ h=>g6 id h),cQ.GF ow⟩,f7⟩
   cases vr with
   |sl id P m c=>exact λh=>by have:=(ow.in _ _ _ _ rfl).2.1;have:=A.wb id h;omega
   |_=>trivial
  have e2:=bN b8
  have a9:k<rr.length:=om
  obtain⟨br,f0,b9⟩:=a5 k a9
  rw[iD zi (l:=rr) (i:=k) (d:= []) a9] at b9
  generalize wr.getD k V.undef=vz at f0 b9
  have j0:f.cell j4 (d5+k)=some vz:=by rw[F7.cell br];exact f0
  have Z:=j3 _ (aW (d:= []) a9)
  have j9:=aM.length b1
  rw[Cq,Nat.min_eq_left om] at j9
  simp(disch:=omega)only[go_sem,H.aF b5,c7.ixa,h0,c0,e2,d9.ixa,j0]
  refine (EN vz _ f (b9.mono F7) (by rw[aN,Z.len];omega)).mono ?_
  rintro v8 h8 ⟨K,f8,_⟩
  have p8:PV W' h8 v8 (rr.getD k []):=⟨K.sv,by
   cases v8 with
   |sl id P m c=>exact λh=>by have:=(K.in _ _ _ _ rfl).2.1;have:=(d8 id h).1;omega
   |_=>trivial⟩
  simp(disch:=omega)only[go_sem,bZ h8 (z:= .aE) p8.dP.1 p8.dP.2]
  obtain⟨s,a2,n9,g9,o9,f9⟩:=cU (h:=h8) rfl [v8]
  rw[a2]
  have b4:=f8.trans f9
  obtain⟨ha,c3,L⟩:=(ow.fr b4).push (bytes:=24) (SV.one om g9 (.kn 1)) (n:=k) (m:=1) om rfl om om om
  simp(disch:=omega)only[go_sem,c3]
  rw[dU k]
  have k8:=L.next
  have e0:Fx W' s ha:=L.fx k7
  have i8:=b4.next
  have m5:=f7.next
  have f6: ∀id,id<s.next->(W' id∨id=s.next)->W' id:=λid h1 Q=>by
   rcases Q with Q|Q
   ·exact Q
   ·omega
  refine⟨rr.length-(k+1),om,k+1,_,_,λid=>W' id∨id=s.next,aB rfl,om,L.own om rfl om,?_,λid P m c e=>by cases e;exact .inr rfl,λid h=> .inl (g6 id h),λid h=>?_,?_,rfl⟩
  ·rw[dE [] a9]
   exact (dW.go (dW.go b1 (Fx.of b4) (λ_ _ h=>h)) e0 f6).append (dW.one (PV.go (p8.mono f9) e0 f6))
  ·rcases h with h|h
   ·have:=d8 id h;exact⟨om,this.2⟩
   ·exact⟨om,.inr om⟩
  ·refine⟨om,λid Y=>?_⟩
   rw[L.old id om (λj8 P m c e e2=>by have:=(ow.in _ _ _ _ e).2.1;omega),b4.get id om]
   exact f7.get id Y
 rintro a1 f ⟨vr,⟨g,rfl⟩,pl,f7⟩
 have t:=A.mono f7
 have k5:f.get (B+1)=aY [aC 0,.aE,.aE]:=by rw[f7.get (B+1) (A.wb _ A.d)];exact gD
 have b5:f.get B=aY [aC n,uO,uR]:=by rw[f7.get B (by have:=A.fr.next;omega)];exact b3
 have F7:=g0.trans f7
 have j6:f.cell j1 (d6+i)=some vo:=by rw[F7.cell bO];exact i1
 have fb:Fr f (H.mk f.tr (f.next+19)):=(Fr.refl f).bH om
 simp(disch:=omega)only[go_sem,H.aF t.get,H.aF b5,d3.ixa,j6]
 refine (EN vo _ _ (c5.mono (F7.trans fb)) (by rw[aN];omega)).mono ?_
 rintro v8 h8 ⟨K,f8,_⟩
 have F8:=fb.trans f8
 have A8:=t.mono F8
 simp(disch:=omega)only[go_sem,H.aF A8.get,A8.oO.sv.dB,A8.oR.sv.dB]
 have p8:PV W h8 v8 oo:=⟨K.sv,by
  cases v8 with
  |sl id P m c=>exact λh=>by have:=(K.in _ _ _ _ rfl).2.1;have:=t.wb id h;have:f.next+19<=id:=(K.in _ _ _ _ rfl).2.1;omega
  |_=>trivial⟩
 have n8:f.next+19<=h8.next:=f8.next
 simp(disch:=omega)only[go_sem,bZ (H.mk h8.tr (f.next+8)) (z:= .aE) p8.dP.1 p8.dP.2]
 obtain⟨s,a2⟩: ∃s:H,s=H.mk ((H.mk h8.tr (f.next+8)).new (Ob.cells false [v8])).tr h8.next:=⟨_,rfl⟩
 rw[←a2]
 have g9:s.get (f.next+8)=aY [v8]:=by rw[a2];exact H.aL (H.mk h8.tr (f.next+8)) _
 have n9:s.next=h8.next:=by rw[a2]
 have o9: ∀k,k≠f.next+8->s.get k=h8.get k:=λk hk=>by rw[a2];exact H.bD (H.mk h8.tr (f.next+8)) hk _
 have F9:Fr f s:=⟨om,λid Y=>by rw[o9 id om];exact F8.get id Y⟩
 have A9:=t.mono F9
 have x9:Fx (λq=>q=f.next+8) h8 s:=⟨om,λq _ Q=>o9 q Q⟩
 have p9:PV W s v8 oo:=⟨SV.fx K.sv (W:=λq=>q=f.next+8) (by
  cases v8 with
  |sl id P m c=>exact λ(e:id=f.next+8)=>by have:f.next+19<=id:=(K.in _ _ _ _ rfl).2.1;omega
  |_=>trivial) x9,p8.off⟩
 have e3:PL W s vr rr:=pl.go (Fx.of F9) λ_ _ h=>h
 have d4:=t.wb _ t.c
 have l9:=aM.length t.aO
 have l3:=aM.length t.aR
 have lO:O.length=i:=by rw[b6,Cq,j.lo];omega
 have lR:R'.length=i:=by rw[b2,Cq,j.lr];omega
 obtain⟨J,c3,L⟩:=A9.oO.push (bytes:=24) (SV.one om g9 (.kn 1)) (n:=i) (m:=1) om rfl om om om
 have k8:=L.next
 have R: ∀k,k<f.next->cZ vO k->J.get k=f.get k:=λk h1 Q=>by rw[L.old k om Q,F9.get k h1]
 have e8:J.cell C 2=some U:=by unfold H.cell;rw[R C d4 t.pO,t.get];rfl
 have eR:dB U U=true:=t.oR.sv.dB
 obtain⟨ws,c4,i5,j2,k0⟩:=e3
 have e3:PL W s vr rr:=⟨ws,c4,i5,j2,k0⟩
 have g7:vr.cells= [vr]/\vr.one=true:=⟨(SV.cF c4).1,(SV.cF c4).2.1⟩
 simp(disch:=omega)only[go_sem,c3,e8,eR,bZ (H.mk J.tr (f.next+13)) (z:= .aE) g7.1 g7.2]
 obtain⟨N,a0⟩: ∃N:H,N=H.mk ((H.mk J.tr (f.next+13)).new (Ob.cells false [vr])).tr J.next:=⟨_,rfl⟩
 rw[←a0]
 have i2:N.get (f.next+13)=aY [vr]:=by rw[a0];exact H.aL (H.mk J.tr (f.next+13)) _
 have l4:N.next=J.next:=by rw[a0]
 have b0: ∀k,k≠f.next+13->N.get k=J.get k:=λk hk=>by rw[a0];exact H.bD (H.mk J.tr (f.next+13)) hk _
 have c8:cQ N U 1 c6 h1.next:=t.oR.mono om λid P m c e _ Y=>by
  rw[b0 id om,R id Y (λj8 l1 n' c' e' e2=>t.IF _ _ _ _ e' _ _ _ _ e e2.symm)]
 obtain⟨a7,i7,a6⟩:=c8.push (bytes:=24) (SV.one om i2 (.kn 1)) (n:=i) (m:=1) om rfl om om om
 have l7:=a6.next
 have k6: ∀k,f.next<=k->cZ U k:=λk hk id P m c e e2=>by have:=(t.oR.in _ _ _ _ e).1;omega
 have a4: ∀k,k<f.next->cZ vO k->cZ U k->a7.get k=f.get k:=λk h1 Q h3=>by rw[a6.old k om h3,b0 k om,R k h1 Q]
 have e6:a7.get C=aY [aC n,vO,U]:=by rw[a4 _ d4 t.pO t.pR];exact t.get
 have i4: ∀(F:H) (x:V),dR (aY [aC n,vO,U]) F C 1 [x]=some (F.set C (aY [aC n,x,U])):=λF x=>bP (by simp) F _ x
 have j5: ∀(F:H) (x y:V),dR (aY [aC n,x,U]) F C 2 [y]=some (F.set C (aY [aC n,x,y])):=λF x y=>bP (by simp) F _ y
 simp(disch:=omega)only[go_sem,i7,e6,i4,j5]
 rw[dU i]
 obtain⟨hz,b7⟩: ∃hz,hz=(a7.set C (aY [aC n,.sl s.next 0 (i+1) (.un 1),U])).set C (aY [aC n,.sl s.next 0 (i+1) (.un 1),.sl N.next 0 (i+1) (.un 1)]):=⟨_,rfl⟩
 rw[←b7]
 have oz: ∀k,k≠C->hz.get k=a7.get k:=λk hk=>by rw[b7,H.aH _ hk,H.aH _ hk]
 have nz:hz.next=a7.next:=by rw[b7];rfl
 obtain⟨hb,c2⟩: ∃hb,hb=s.set (f.next+13) (aY [vr]):=⟨_,rfl⟩
 have ob: ∀k,k≠f.next+13->hb.get k=s.get k:=λk hk=>by rw[c2,H.aH _ hk]
 have gb:hb.get (f.next+13)=aY [vr]:=by rw[c2,H.aS]
 have nb:hb.next=s.next:=by rw[c2];rfl
 have Fb:Fr f hb:=⟨om,λid Y=>by rw[ob id om];exact F9.get id Y⟩
 have Ab:=t.mono Fb
 have xb:Fx (λq=>q=f.next+13) s hb:=⟨om,λq _ Q=>ob q Q⟩
 have pb:PV W hb v8 oo:=⟨SV.fx p9.si (W:=λq=>q=f.next+13) (by
  cases v8 with
  |sl id P m c=>exact λ(e:id=f.next+13)=>by have:f.next+19<=id:=(K.in _ _ _ _ rfl).2.1;omega
  |_=>trivial) xb,p9.off⟩
 have k9:PL W hb vr rr:=pl.go (Fx.of Fb) λ_ _ h=>h
 have Az:=Ab.step (v4:=v8) (v5:=vr) (o:=oo) (r:=rr) (h6:=hz) (a:=s.next) (b:=N.next) (k1:=i+1) (k2:=i+1) pb k9 om om om om om om om (by rw[b7,H.aS])
  (by rw[oz _ om,a6.old _ om (k6 _ om),b0 _ om];exact L.get) (by rw[oz _ om];exact a6.get)
  (λk h1 Q h3 h4=>by
   rw[oz k Q,a6.old k om h4]
   by_cases e:k=f.next+13
   ·rw[e,i2,gb]
   ·rw[b0 k e,L.old k om h3,ob k e])
 refine⟨n-(i+1),om,i+1,_,_,_,_,_,_,_,aB rfl,om,Az,?_,?_,?_,rfl⟩
 ·rw[a4 (B+1) (t.wb _ t.d) t.qO t.qR];exact k5
 ·rw[b6,dE [] (by rw[j.lo];exact p),k4]
 ·rw[b2,dE [] (by rw[j.lr];exact p),i6]
section
variable {W:Nat->Prop}
set_option maxHeartbeats 8000000
theorem BC (i:V)(n:Nat)(O:LN)(R:fM)(G:List Nat->Prop)(h:H)(b:GC W h i n O R G):
  Ev T 110 [i] h (λv h'=>v= .tup [aC (fV O n 0:Nat),aC 0]/\Fr h h'):=by
 obtain⟨c,a,rfl,o,l⟩:=b.shape
 refine cT Gx rfl ?_
 obtain⟨B,g⟩:=exI h.next
 obtain⟨z,t,A,j,F,f⟩:=cU g [aC n,c,a]
 simp(disch:=omega)only[go_sem,Gx,aD,aQ h (v:= aC n) (u:=c) (w:=a) rfl o l,g,t,aG j]
 refine ((b.mono f).Pg).mono ?_
 rintro _ k ⟨rfl,d⟩
 have e:k.get B=aY [aC n,c,a]:=by rw[d.get B om];exact j
 have p:decide ((0:Int)≠0)=false:=rfl
 simp(disch:=omega)only[go_sem,p,aG e]
 refine (JX _ n O R G k (b.mono (f.trans d))).mono ?_
 rintro _ x ⟨S,rfl,r,m,q,y⟩
 have s:x.cell S 0=some (aC (fV O n 0:Nat)):=by
  rw[H.aF q,Je om]
  rfl
 simp(disch:=omega)only[go_sem,s]
 exact ((f.trans d).trans y)
theorem Rw (j:V)(d:Int)(O:List (List Int))(R:List (List (List Int)))(h:H)(g:Ig h j d O R)(m:d<=7∨64<d)(r:jK O)(sr:lK R)(n:jL d O R≠0):
  Ev T 59 [j] h (λv h'=>v= aC (jL d O R)/\Fr h h'):=by
 have f:=g
 obtain⟨e,c,rfl,x,l⟩:=g
 refine cT qG rfl ?_
 have b:e.one=true:=Vu x
 have a:c.one=true:=Rd l
 obtain⟨B,i⟩:=exI h.next
 obtain⟨q,o,y,t,z,k⟩:=cU i [aC d,e,c]
 simp(disch:=omega)only[go_sem,qG,aD,aQ h (v:= aC d) (u:=e) (w:=c) rfl b a,i,o,aG t]
 refine (Rf _ d O R q (f.mono k) m r sr).mono ?_
 rintro _ A ⟨rfl,p⟩
 have s:=bN n
 simp(disch:=omega)only[go_sem,s]
 exact k.trans p
theorem Qd (j:V)(n:Nat)(O:LN)(R:fM)(G:List Nat->Prop)(h:H)(a:GC W h j n O R G):
  Ev T 59 [j] h (λv h'=>v= aC 0/\Fr h h'):=by
 obtain⟨c,b,rfl,o,m⟩:=a.shape
 refine cT qG rfl ?_
 obtain⟨B,i⟩:=exI h.next
 obtain⟨t,p,x,k,y,f⟩:=cU i [aC n,c,b]
 simp(disch:=omega)only[go_sem,qG,aD,aQ h (v:= aC n) (u:=c) (w:=b) rfl o m,i,p,aG k]
 refine ((a.mono f).Pg).mono ?_
 rintro _ l ⟨rfl,d⟩
 have e:l.get B=aY [aC n,c,b]:=by rw[d.get B om];exact k
 have g:decide ((0:Int)≠0)=false:=rfl
 have sz:=fK a
 have q:decide (((fV O n 0:Nat):Int)>5040)=false:=bE om
 simp(disch:=omega)only[go_sem,g,aG e]
 refine (BC _ n O R G l (a.mono (f.trans d))).mono ?_
 rintro _ s ⟨rfl,r⟩
 simp(disch:=omega)only[go_sem,g,q]
 exact ((f.trans d).trans r)
theorem Ug (e:V)(n:Nat)(O:LN)(R:fM)(G:List Nat->Prop)(h:H)(b:GC W h e n O R G):
  Ev T 60 [e] h (λv h'=>v= aC (fV O n 0:Nat)/\Fr h h'):=by
 obtain⟨c,a,rfl,i,g⟩:=b.shape
 refine cT Ho rfl ?_
 obtain⟨B,d⟩:=exI h.next
 obtain⟨l,j,o,m,p,f⟩:=cU d [aC n,c,a]
 simp(disch:=omega)only[go_sem,Ho,aD,aQ h (v:= aC n) (u:=c) (w:=a) rfl i g,d,j,aG m]
 refine (BC _ n O R G l (b.mono f)).mono ?_
 rintro _ q ⟨rfl,k⟩
 simp(disch:=omega)only[go_sem]
 exact f.trans k
theorem Yz (L:V)(n:Nat)(O:LN)(R:fM)(G:List Nat->Prop)(h:H)(A:GC W h L n O R G):
  Ev T 80 [L] h (λv h'=>GC (λq=>q<h.next) h' v n O R G/\Fr h h'):=by
 obtain⟨m,l,rfl,oO,N⟩:=A.shape
 refine cT Kj rfl ?_
 obtain⟨B,x⟩:=exI h.next
 obtain⟨h1,e1,y,g1,o1,f1⟩:=cU x [aC n,m,l]
 obtain⟨d,Z,n2,g2,s,f2⟩:=cU y [aC 0,.aE,.aE]
 have r:d.get B=aY [aC n,m,l]:=by rw[s B om];exact g1
 simp(disch:=omega)only[go_sem,Kj,aD,aQ h (v:= aC n) (u:=m) (w:=l) rfl oO N,x,e1,y,Z,aG r]
 refine (QA _ n O R G d (A.mono (f1.trans f2))).mono ?_
 rintro _ h3 ⟨vr,rfl,a,k⟩
 obtain⟨g,i,rfl,c,f⟩:=a.shape
 have n3:=k.next
 obtain⟨S,J⟩:=exI h3.next
 obtain⟨z,e4,n4,g4,K,F⟩:=cU J [aC 0,.aE,.aE]
 obtain⟨o,e5,n5,g5,p⟩:=mD z S [aC n,g,i]
 have j:o.get (B+1)=aY [aC 0,.aE,.aE]:=by rw[p _ om,K _ om,k.get _ om];exact g2
 obtain⟨P,U,n6,g6,t⟩:=mD o (B+1) [aC n,g,i]
 simp(disch:=omega)only[go_sem,J,e4,bI z S 0 (v:= aC n) (u:=g) (w:=i) rfl c f,g4,bG,e5,aG g5,bI o (B+1) 0 (v:= aC n) (u:=g) (w:=i) rfl c f,j,U,aG g6]
 refine⟨?_,⟨om,λq hq=>by rw[t q om,p q om,K q om,k.get q om,s q om,o1 q om]⟩⟩
 have Q:=a.mono F
 refine (a.iP (W':=λq=>q<d.next∨q=S) λq h1 d=>?_).mono F|>.go (W':=λq=>q<B) (h':=P) ⟨om,λq Y b=>?_⟩ λq _ (h:q<B)=> .inl om
 ·rcases d with h|h
  ·exact h
  ·omega
 ·rw[t q (λe=>b (.inl om)),p q (λe=>b (.inr e))]
theorem IU {W':Nat->Prop}(l k:V)(n:Nat)(c d:oQ)(G G':List Nat->Prop)(h:H)(j:GC W h l n c.1 c.2 G)(i:GC W' h k n d.1 d.2 G'):
  Ev T 31 [l,k] h (λv h'=>v= .bool (decide (c=d))/\Fr h h'):=by
 refine (Ew l k n n _ _ _ _ h j.ch i.ch j.small.1 i.small.1 j.small.2 i.small.2).mono ?_
 rintro _ m ⟨rfl,f⟩
 have inj: ∀{a b:LN},a.map zi=b.map zi->a=b:=λh=>map_inj (λ_ _=>Vf) h
 have g: ∀{a b:fM},a.map (List.map zi)=b.map (List.map zi)->a=b:=λh=>map_inj (λ_ _=>inj) h
 exact⟨congrArg V.bool (decide_eq_decide.2 ⟨λ⟨_,a,b⟩=>Prod.ext (inj a) (g b),λe=>by rw[e];exact⟨rfl,rfl,rfl⟩⟩),f⟩
end
theorem La {W0:Nat->Prop}(vc:V)(n:Nat)(w:Bool)(c:oQ)(G:List Nat->Prop)(h:H)(gc:GC W0 h vc n c.1 c.2 G):
  Ev T 79 [vc,.bool w] h (λv h'=> ∃ls l,SV h' v 3 (Kk n ls)/\aM (GD (λ_=>False) h' n w G) ls l/\uF n w c l/\Fr h h'):=by
 obtain⟨Q,P,rfl,oO,oR⟩:=gc.shape
 refine cT Ak rfl ?_
 have hG:=gc.dH
 have hc:=gc.isc
 obtain⟨B,hB⟩:=exI h.next
 obtain⟨r,e1,n1,g1,o1,f1⟩:=cU hB [aC n,Q,P]
 obtain⟨h2,e2,n2,g2,o2,f2⟩:=cU n1 [aC n,Q,P]
 simp(disch:=omega)only[go_sem,Ak,aD,aQ h (v:= aC n) (u:=Q) (w:=P) rfl oO oR,hB,e1,aG g1,Mi r oO oR,n1,e2]
 have F2:=f1.trans f2
 have f:=gc.mono F2
 refine aI (λk' a0 z=> ∃(K:V) (ls:List (V×V)) (p:V×V) (l:List oQ) (d:oQ),(∃g:Nat->V,a0= [g 0,.bool w,.ptr B 0,g 3,K,g 5,g 6,g 7,g 8,g 9])/\cQ z K 3 (Kk n (ls++ [p])) r.next/\aM (GD (dD K) z n w G) (ls++ [p]) (l++ [d])/\Jz n w c l d/\(∀e,l[l.length- 1]? =some e->d≠e)/\l.length+fV d.1 n 0<=5040/\Fr r z/\fV d.1 n 0<=k') 5040
  ?_ ?_
 ·have sz:=fK gc
  refine⟨_, [],(Q,P), [],c,aB rfl,.inr ⟨B+1,1,.kn 1, [],rfl,rfl,.inr ⟨rfl,rfl⟩,om,om,g2⟩,⟨⟨G,(gc.iP (W':=dD (.sl (B+1) 0 1 (.kn 1))) λq r ⟨_,_,_,e⟩=>(by cases e;omega)).mono F2,Dx.first hG hc⟩,trivial⟩,Jz.start,λe he=>(by cases he),by show 0+_<=5040;omega,f2,sz⟩
 rintro k' a0 z ⟨K,ls,p,l,d,⟨g,rfl⟩,ow,al,s,b1,l5,F,d3⟩
 have la:=aM.length al
 rw[iA,iA,List.length_singleton,List.length_singleton] at la
 have sv:=ow.sv
 have hi:ls.length<(ls++ [p]).length:=by rw[iA,List.length_singleton];omega
 have Y:(ls++ [p]).length=ls.length+1:=by rw[iA,List.length_singleton]
 have lv:bF K=some (aC (ls.length+1:Nat)):=by unfold bF;rw[SV.len sv (n:=ls.length+1) (by rw[iS,Y]) om];rfl
 obtain⟨ri,ro,a1,rC⟩:=uM sv hi
 rw[Y] at a1
 have ep:(ls++ [p])[ls.length]'hi=p:=by rw[List.getElem_append_right (eH _)];simp
 rw[ep] at rC
 have c3:GD (dD K) z n w G p d:=by
  have:=aM.get al ls.length hi (by rw[iA,List.length_singleton];omega);rw[ep] at this;have e2:(l++ [d])[ls.length]'(by rw[iA,List.length_singleton];omega)=d:=by rw[List.getElem_append_right om];simp
  rwa [e2] at this
 obtain⟨Gd,gd,dx⟩:=c3
 obtain⟨_,O,Z⟩:=gd.one
 have em:((ls.length+1:Nat):Int)- 1=((ls.length:Nat):Int):=om
 have nF:=F.next
 have gB:z.get B=aY [aC n,Q,P]:=by rw[F.get B om];exact g1
 obtain⟨X,hX⟩:=exI z.next
 obtain⟨h3,e3,n3,g3,o3,f3⟩:=cU hX [aC 0,.aE,.aE]
 obtain⟨h4,e4,n4,g4,o4⟩:=mD h3 X [aC n,p.1,p.2]
 obtain⟨h5,e5,n5,g5,o5,f5⟩:=cU (h:=h4) (ID:=X+1) om [aC 0,.aE,.aE]
 obtain⟨h6,e6,n6,g6,o6⟩:=mD h5 (X+1) [aC n,p.1,p.2]
 obtain⟨h7,e7,n7,g7,o7⟩:=mD h6 (X+1) [aC n,Q,P]
 have c6:h6.get X=aY [aC n,p.1,p.2]:=by rw[o6 X om,o5 X om];exact g4
 have d2:h5.get X=aY [aC n,p.1,p.2]:=by rw[o5 X om];exact g4
 have c1:h6.get B=aY [aC n,Q,P]:=by rw[o6 B om,o5 B om,o4 B om,o3 B om];exact gB
 obtain⟨J,b⟩:=exI ((if w then h7 else h6))
 obtain⟨q,hq⟩: ∃q:V×V,(if w then (Q,P) else p)=q:=⟨_,rfl⟩
 obtain⟨U,a5⟩: ∃U:oQ,(if w then c else d)=U:=⟨_,rfl⟩
 have nx:J.next=X+2:=by rw[←b];cases w<;>simp<;>omega
 have fx:Fr z J:=⟨om,λk hk=>by rw[←b];cases w<;>simp [o7 k om,o6 k om,o5 k om,o4 k om,o3 k om]⟩
 have b5:J.get X=aY [aC n,p.1,p.2]:=by rw[←b];cases w<;>simp [o7 X om,c6]
 have b9:J.get (X+1)=aY [aC n,q.1,q.2]:=by rw[←b,←hq];cases w<;>simp [g6,g7]
 have c4: ∃W Gq,GC W J (.agg [aC n,q.1,q.2]) n U.1 U.2 Gq:=by
  rw[←hq,←a5];cases w
  ·exact⟨_,_,gd.mono fx⟩
  ·exact⟨_,_,(gc.mono (f1.trans F)).mono fx⟩
 obtain⟨Wq,Gq,gq⟩:=c4
 have c8:Mr n w c d=Au n d.2 U.2:=by unfold Mr;rw[←a5];cases w<;>rfl
 clear a5 hq
 cases w
 case' false=>
  simp(disch:=omega)only[go_sem,lv,em,a1.ixa,rC,hX,e3,bI h3 X 0 (v:= aC n) (u:=p.1) (w:=p.2) rfl O Z,g3,bG,e4,aG g4,show h4.next=X+1 by omega,e5,bI h5 (X+1) 0 (v:= aC n) (u:=p.1) (w:=p.2) rfl O Z,g5,e6]
  have t:h6=J:=b
  rw[t]
 case' true=>
  simp(disch:=omega)only[go_sem,lv,em,a1.ixa,rC,hX,e3,bI h3 X 0 (v:= aC n) (u:=p.1) (w:=p.2) rfl O Z,g3,bG,e4,aG g4,show h4.next=X+1 by omega,e5,bI h5 (X+1) 0 (v:= aC n) (u:=p.1) (w:=p.2) rfl O Z,g5,e6,aG c1,bI h6 (X+1) 0 (v:= aC n) (u:=Q) (w:=P) rfl oO oR,g6,e7]
  have t:h7=J:=b
  rw[t]
 all_goals
  simp(disch:=omega)only[go_sem,aG b5,aG b9]
  refine (NV _ _ n d.1 U.1 d.2 U.2 Gd Gq J (gd.mono fx) gq).mono ?_
  rw[←c8]
  rintro _ h8 ⟨vr,a,R2,rfl,f,f8⟩
  obtain⟨yO,yR,rfl,a7,a6⟩:=f.shape
  have he:=f.isc
  have n8:=f8.next
  obtain⟨S,hS⟩:=exI h8.next
  obtain⟨h9,e9,n9,g9,o9,f9⟩:=cU hS [aC 0,.aE,.aE]
  obtain⟨N,c2,d7,a9,c5⟩:=mD h9 S [aC n,yO,yR]
  have R:Fr h8 N:=⟨om,λk hk=>by rw[c5 k om,o9 k om]⟩
  have b4:Fr z N:=fx.trans (f8.trans R)
  have b3:N.get X=aY [aC n,p.1,p.2]:=by rw[R.get X om,f8.get X om];exact b5
  simp(disch:=omega)only[go_sem,hS,e9,bI h9 S 0 (v:= aC n) (u:=yO) (w:=yR) rfl a7 a6,g9,bG,c2,aG a9,aG b3]
  refine (IU _ _ n (a,R2) d _ _ N (f.mono R) (gd.mono b4)).mono ?_
  rintro _ L ⟨rfl,a2⟩
  have j:=b4.trans a2
  have c9:=j.next
  by_cases A:(a,R2)=d
  ·have d1:=bN A
   simp(disch:=omega)only[go_sem,d1]
   exact⟨ls++ [p],l++ [d],sv.mono j,aM.mono (λ_ _ x=>x.go (Fx.of j) λ_ _ h=>h.elim) al,(s.push (e:=(a,R2)) b1 he).done (by simp) (by simp [A]),(f1.trans F).trans j⟩
  ·have d1:=bE A
   have b2:L.get S=aY [aC n,yO,yR]:=by rw[a2.get S om];exact a9
   obtain⟨a4,c0,d4,b8,d5,b6⟩:=cU (h:=L) rfl [aC n,yO,yR]
   have a3:=j.trans b6
   obtain⟨c7,b7,pu⟩:=(ow.fr a3).push (bytes:=56) (y:= .sl L.next 0 1 (.kn 1)) (us:= [aC n,yO,yR]) (SV.all rfl om b8 _) (n:=ls.length+1) (m:=1) (by rw[iS,Y]) rfl om om om
   have d6:=pu.next
   simp(disch:=omega)only[go_sem,d1,aG b2,Mi L a7 a6,c0,b7]
   have hb: ∀k,dD K k->k<z.next:=λk ⟨_,_,_,e⟩=>(ow.in _ _ _ _ e).1
   have ap: ∀k,¬dD K k->cZ K k:=λk h i o m U e hq=>h ⟨o,m,U,by rw[hq];exact e⟩
   have a8:Fx (dD K) z c7:=⟨om,λk r h2=>by rw[pu.old k om (ap k h2),a3.get k r]⟩
   have hw: ∀k,k<a4.next->dD (.sl a4.next 0 (ls.length+1+1) (.un 3)) k->False:=λk r ⟨_,_,_,e⟩=>by cases e;omega
   have b0:GC (λk=>k<J.next) a4 (.agg [aC n,yO,yR]) n a R2 _:=f.mono (R.trans (a2.trans b6))
   have sz:fV a n 0<=fV d.1 n 0/\(fV a n 0=fV d.1 n 0->(a,R2)=d):=dx.size (e:=(a,R2)) hG hc he
   have d0:fV a n 0<fV d.1 n 0:=by
    have:fV a n 0≠fV d.1 n 0:=λh=>A (sz.2 h)
    have:=sz.1;omega
   refine⟨fV a n 0,om,_,ls++ [p],(yO,yR),l++ [d],(a,R2),aB rfl,?_,aM.append (aM.mono (λ_ _ x=>x.go a8 λk r h2=>(hw k om h2).elim) al) ⟨⟨_,?_,dx.next hG hc he⟩,trivial⟩,s.push (e:=(a,R2)) b1 he,λe h=>?_,?_,⟨om,λk hk=>?_⟩,eH _⟩
   ·rw[Um]
    exact pu.own (by rw[iS,Y]) rfl om
   ·exact b0.go ⟨om,λk r h2=>pu.old k om (ap k λh=>h2 (by have:=hb k h;show k<J.next;omega))⟩ λk r h2=>(hw k r h2).elim
   ·have:e=d:=by
     rw[iA,show l.length+ [d].length- 1=l.length from rfl,Eb om,Nat.sub_self] at h;simpa using h.symm
    rw[this];exact A
   ·rw[iA,List.length_singleton]
    show l.length+1+fV a n 0<=5040
    omega
   ·rw[pu.old k om (ap k λ⟨_,_,_,e⟩=>by have:=(ow.in _ _ _ _ e).2.1;omega),a3.get k om]
    exact F.get k hk
section
variable {W:Nat->Prop}
set_option maxHeartbeats 16000000
theorem Ht (j:V)(n:Nat)(O:LN)(R:fM)(G:List Nat->Prop)(h:H)(b:GC W h j n O R G):
  Ev T 19 [j] h (aaM n false (O,R) G h):=by
 obtain⟨c,a,rfl,o,m⟩:=b.shape
 refine cT mM rfl ?_
 obtain⟨B,g⟩:=exI h.next
 obtain⟨y,t,L,i,N,f⟩:=cU g [aC n,c,a]
 simp(disch:=omega)only[go_sem,mM,aD,aQ h (v:= aC n) (u:=c) (w:=a) rfl o m,g,t,aG i]
 refine (Qd _ n O R G y (b.mono f)).mono ?_
 rintro _ k ⟨rfl,d⟩
 have e:k.get B=aY [aC n,c,a]:=by rw[d.get B om];exact i
 have J:decide ((0:Int)≠0)=false:=rfl
 simp(disch:=omega)only[go_sem,J,aG e]
 refine (Yz _ n O R G k (b.mono (f.trans d))).mono ?_
 rintro r x ⟨F,K⟩
 simp(disch:=omega)only[go_sem]
 refine (La r n false (O,R) G x F).mono ?_
 rintro A P ⟨z,l,sv,p,s,q⟩
 simp(disch:=omega)only[go_sem]
 exact⟨A,z,l,rfl,sv,p,s,((f.trans d).trans K).trans q⟩
theorem Dm (k:V)(d:Int)(O:List (List Int))(R:List (List (List Int)))(h:H)(g:Ig h k d O R)(n:d<=7∨64<d)(r:jK O)(sr:lK R)(i:jL d O R≠0):
  Ev T 19 [k] h (λv h'=>v= .tup [.aE,aC (jL d O R)]/\Fr h h'):=by
 have f:=g
 obtain⟨e,c,rfl,x,m⟩:=g
 refine cT mM rfl ?_
 have b:e.one=true:=Vu x
 have a:c.one=true:=Rd m
 obtain⟨B,j⟩:=exI h.next
 obtain⟨q,o,y,t,z,l⟩:=cU j [aC d,e,c]
 simp(disch:=omega)only[go_sem,mM,aD,aQ h (v:= aC d) (u:=e) (w:=c) rfl b a,j,o,aG t]
 refine (Rw _ d O R q (f.mono l) n r sr i).mono ?_
 rintro _ A ⟨rfl,p⟩
 have s:=bN i
 simp(disch:=omega)only[go_sem,s]
 exact l.trans p
theorem Qg (j:V)(n:Nat)(O:LN)(R:fM)(G:List Nat->Prop)(h:H)(b:GC W h j n O R G):
  Ev T 21 [j] h (aaM n true (O,R) G h):=by
 obtain⟨c,a,rfl,o,m⟩:=b.shape
 refine cT qN rfl ?_
 obtain⟨B,g⟩:=exI h.next
 obtain⟨y,t,L,i,N,f⟩:=cU g [aC n,c,a]
 simp(disch:=omega)only[go_sem,qN,aD,aQ h (v:= aC n) (u:=c) (w:=a) rfl o m,g,t,aG i]
 refine (Qd _ n O R G y (b.mono f)).mono ?_
 rintro _ k ⟨rfl,d⟩
 have e:k.get B=aY [aC n,c,a]:=by rw[d.get B om];exact i
 have J:decide ((0:Int)≠0)=false:=rfl
 simp(disch:=omega)only[go_sem,J,aG e]
 refine (Yz _ n O R G k (b.mono (f.trans d))).mono ?_
 rintro r x ⟨F,K⟩
 simp(disch:=omega)only[go_sem]
 refine (La r n true (O,R) G x F).mono ?_
 rintro A P ⟨z,l,sv,p,s,q⟩
 simp(disch:=omega)only[go_sem]
 exact⟨A,z,l,rfl,sv,p,s,((f.trans d).trans K).trans q⟩
theorem Km (k:V)(d:Int)(O:List (List Int))(R:List (List (List Int)))(h:H)(g:Ig h k d O R)(n:d<=7∨64<d)(r:jK O)(sr:lK R)(i:jL d O R≠0):
  Ev T 21 [k] h (λv h'=>v= .tup [.aE,aC (jL d O R)]/\Fr h h'):=by
 have f:=g
 obtain⟨e,c,rfl,x,m⟩:=g
 refine cT qN rfl ?_
 have b:e.one=true:=Vu x
 have a:c.one=true:=Rd m
 obtain⟨B,j⟩:=exI h.next
 obtain⟨q,o,y,t,z,l⟩:=cU j [aC d,e,c]
 simp(disch:=omega)only[go_sem,qN,aD,aQ h (v:= aC d) (u:=e) (w:=c) rfl b a,j,o,aG t]
 refine (Rw _ d O R q (f.mono l) n r sr i).mono ?_
 rintro _ A ⟨rfl,p⟩
 have s:=bN i
 simp(disch:=omega)only[go_sem,s]
 exact l.trans p
theorem Qu (r:V)(n:Nat)(O:LN)(R:fM)(G:List Nat->Prop)(h:H)(f:GC W h r n O R G):
  Ev T 23 [r] h (λv h'=> ∃l,uF n false (O,R) l/\v= .tup [.bool (Yg n l),aC 0]/\Fr h h'):=by
 obtain⟨p,o,rfl,N,t⟩:=f.shape
 refine cT lN rfl ?_
 obtain⟨B,k⟩:=exI h.next
 obtain⟨F,z,Y,K,Z,q⟩:=cU k [aC n,p,o]
 simp(disch:=omega)only[go_sem,lN,aD,aQ h (v:= aC n) (u:=p) (w:=o) rfl N t,k,z,aG K]
 refine (Ht _ n O R G F (f.mono q)).mono ?_
 rintro _ h2 ⟨J,a,l,rfl,sv,i,s,A⟩
 have x:=aM.length i
 have lp:=s.pos
 have l6:=s.short f.dH f.isc i
 have P:bF J=some (aC (a.length:Int)):=by unfold bF;rw[SV.len sv (n:=a.length) (iS n a) om];rfl
 have hi:a.length- 1<a.length:=om
 obtain⟨ri,U,g,m⟩:=uM sv hi
 obtain⟨L,b,j⟩:=aM.get i (a.length- 1) hi om
 have c:l[a.length- 1]? =some (l[a.length- 1]'om):=dF om
 generalize (a[a.length- 1]'hi)=pl at b m
 generalize (l[a.length- 1]'om)=d at b j c
 have Q:((a.length:Nat):Int)- 1=((a.length- 1:Nat):Int):=om
 simp(disch:=omega)only[go_sem,eq_self,decide_true,P,Q,g.ixa,m]
 refine (Ug _ n d.1 d.2 L _ b).mono ?_
 rintro _ h5 ⟨rfl,y⟩
 simp(disch:=omega)only[go_sem]
 refine⟨l,s,?_,(q.trans A).trans y⟩
 rw[x] at c
 unfold Yg
 rw[c]
 rw[show decide (((fV d.1 n 0:Nat):Int)=1)=decide (fV d.1 n 0=1) from by
  by_cases e:fV d.1 n 0=1
  ·rw[bN e,bN om]
  ·rw[bE e,bE om]]
theorem Nf (k:V)(d:Int)(O:List (List Int))(R:List (List (List Int)))(h:H)(g:Ig h k d O R)(n:d<=7∨64<d)(r:jK O)(sr:lK R)(i:jL d O R≠0):
  Ev T 23 [k] h (λv h'=>v= .tup [.bool false,aC (jL d O R)]/\Fr h h'):=by
 have f:=g
 obtain⟨e,c,rfl,x,m⟩:=g
 refine cT lN rfl ?_
 have b:e.one=true:=Vu x
 have a:c.one=true:=Rd m
 obtain⟨B,j⟩:=exI h.next
 obtain⟨q,o,y,t,z,l⟩:=cU j [aC d,e,c]
 simp(disch:=omega)only[go_sem,lN,aD,aQ h (v:= aC d) (u:=e) (w:=c) rfl b a,j,o,aG t]
 refine (Dm _ d O R q (f.mono l) n r sr i).mono ?_
 rintro _ A ⟨rfl,p⟩
 have s:=bE i
 simp(disch:=omega)only[go_sem,s,rD]
 exact l.trans p
theorem Oz (r:V)(n:Nat)(O:LN)(R:fM)(G:List Nat->Prop)(h:H)(f:GC W h r n O R G):
  Ev T 25 [r] h (λv h'=> ∃l,uF n true (O,R) l/\v= .tup [.bool (Yg n l),aC 0]/\Fr h h'):=by
 obtain⟨p,o,rfl,N,t⟩:=f.shape
 refine cT kS rfl ?_
 obtain⟨B,k⟩:=exI h.next
 obtain⟨F,z,Y,K,Z,q⟩:=cU k [aC n,p,o]
 simp(disch:=omega)only[go_sem,kS,aD,aQ h (v:= aC n) (u:=p) (w:=o) rfl N t,k,z,aG K]
 refine (Qg _ n O R G F (f.mono q)).mono ?_
 rintro _ h2 ⟨J,a,l,rfl,sv,i,s,A⟩
 have x:=aM.length i
 have lp:=s.pos
 have l6:=s.short f.dH f.isc i
 have P:bF J=some (aC (a.length:Int)):=by unfold bF;rw[SV.len sv (n:=a.length) (iS n a) om];rfl
 have hi:a.length- 1<a.length:=om
 obtain⟨ri,U,g,m⟩:=uM sv hi
 obtain⟨L,b,j⟩:=aM.get i (a.length- 1) hi om
 have c:l[a.length- 1]? =some (l[a.length- 1]'om):=dF om
 generalize (a[a.length- 1]'hi)=pl at b m
 generalize (l[a.length- 1]'om)=d at b j c
 have Q:((a.length:Nat):Int)- 1=((a.length- 1:Nat):Int):=om
 simp(disch:=omega)only[go_sem,eq_self,decide_true,P,Q,g.ixa,m]
 refine (Ug _ n d.1 d.2 L _ b).mono ?_
 rintro _ h5 ⟨rfl,y⟩
 simp(disch:=omega)only[go_sem]
 refine⟨l,s,?_,(q.trans A).trans y⟩
 rw[x] at c
 unfold Yg
 rw[c]
 rw[show decide (((fV d.1 n 0:Nat):Int)=1)=decide (fV d.1 n 0=1) from by
  by_cases e:fV d.1 n 0=1
  ·rw[bN e,bN om]
  ·rw[bE e,bE om]]
theorem Ln (k:V)(d:Int)(O:List (List Int))(R:List (List (List Int)))(h:H)(g:Ig h k d O R)(n:d<=7∨64<d)(r:jK O)(sr:lK R)(i:jL d O R≠0):
  Ev T 25 [k] h (λv h'=>v= .tup [.bool false,aC (jL d O R)]/\Fr h h'):=by
 have f:=g
 obtain⟨e,c,rfl,x,m⟩:=g
 refine cT kS rfl ?_
 have b:e.one=true:=Vu x
 have a:c.one=true:=Rd m
 obtain⟨B,j⟩:=exI h.next
 obtain⟨q,o,y,t,z,l⟩:=cU j [aC d,e,c]
 simp(disch:=omega)only[go_sem,kS,aD,aQ h (v:= aC d) (u:=e) (w:=c) rfl b a,j,o,aG t]
 refine (Km _ d O R q (f.mono l) n r sr i).mono ?_
 rintro _ A ⟨rfl,p⟩
 have s:=bE i
 simp(disch:=omega)only[go_sem,s,rD]
 exact l.trans p
end
theorem Ii {W W':Nat->Prop}{w w':Bool}{G G':List Nat->Prop}(k m:V)(n:Nat)(ls t:List (V×V))(l:List oQ)(h:H)(A:SV h k 3 (Kk n ls))(u:SV h m 3 (Kk n t))(z:aM (GD W h n w G) ls l)(x:aM (GD W' h n w' G') t l)(l6:l.length<=6000):
  Ev T 16 [k,m] h (λv h'=>v= .bool true/\Fr h h'):=by
 refine cT wK rfl ?_
 have K:=aM.length z
 have lb:=aM.length x
 have r:bF k=some (aC (l.length:Int)):=by unfold bF;rw[SV.len A (n:=l.length) (by rw[iS,K]) om];rfl
 have N:bF m=some (aC (l.length:Int)):=by unfold bF;rw[SV.len u (n:=l.length) (by rw[iS,lb]) om];rfl
 have Q:decide ((l.length:Int)≠(l.length:Int))=false:=bE λh=>h rfl
 simp(disch:=omega)only[go_sem,wK,aD,r,N,Q]
 refine aI (λy a d=> ∃(i:Nat),(∃g:Nat->V,a= [k,m,g 2,aC i,g 4,g 5,g 6])/\i<=l.length/\Fr h d/\y=l.length-i) l.length
  ⟨0,aB rfl,fR _,Fr.refl h,rfl⟩ ?_
 rintro y a d ⟨i,⟨g,rfl⟩,hi,F,rfl⟩
 by_cases j:(i:Int)<(l.length:Int)
 case neg=>
  have q:=bE j;simp(disch:=omega)only[go_sem,r,q];exact F
 have q:=bN j
 have f:i<l.length:=om
 obtain⟨Y,U,o,B⟩:=uM (A.mono F) (i:=i) om
 obtain⟨r2,R,p,J⟩:=uM (u.mono F) (i:=i) om
 obtain⟨P,b,_⟩:=aM.get z i om f
 obtain⟨L,c,_⟩:=aM.get x i om f
 generalize ls[i]'om=Z at B b
 generalize t[i]'om=p2 at J c
 generalize l[i]=e at b c
 have s:Fr d (H.mk d.tr (d.next+10)):=(Fr.refl d).bH om
 simp(disch:=omega)only[go_sem,r,q,o.ixa,B,p.ixa,J]
 refine (IU _ _ n e e P L _ (b.mono (F.trans s)) (c.mono (F.trans s))).mono ?_
 rintro _ h2 ⟨rfl,O⟩
 have d3:decide (e=e)=true:=bN rfl
 simp(disch:=omega)only[go_sem,eq_self,decide_true,Bool.not_true]
 rw[dU i]
 exact⟨l.length-(i+1),om,i+1,aB rfl,om,F.trans (s.trans O),rfl⟩
theorem aiZ {h:H}{k:V}{d:Int}{O:List (List Int)}{R:List (List (List Int))}(o:Ig h k d O R)(F:d<=7∨64<d)(f:jL d O R=0):
  ∃(n:Nat) (O':LN) (R':fM),d=(n:Int)/\O=O'.map zi/\R=R'.map (List.map zi)/\GC (λ_=>False) h k n O' R' (BK n R'):=by
 unfold jL at f
 split at f
 ·cases f
 ·split at f
  ·rename_i J x
   obtain⟨n,O',R',rfl,w,G,rfl,rfl,v⟩:=x
   obtain⟨r,p,rfl,B,m⟩:=o
   obtain⟨t,y,A⟩:=B
   obtain⟨q,z,j,u⟩:=m
   have b: ∀v:V,Mf (λ_=>False) v:=λv=>by cases v<;>first|exact id|trivial
   have all: ∀{c:List V} {l:LN},aM (SI h) c (l.map zi)->dW (λ_=>False) h c l:=λ{c l} a=>by
    have e:=aM.length a;rw[iN] at e
    refine aM.kH e λi hi g=>⟨?_,b _⟩
    have:=aM.get a i hi (by rw[iN];exact g);rwa [List.getElem_map] at this
   refine⟨n,O',R',rfl,rfl,rfl,⟨r,p,t,q,rfl,y,b _,all A,z,b _,?_⟩,v.2,v.dH,w,om⟩
   have e:=aM.length j
   rw[iN] at e
   refine aM.kH e λi hi g=>?_
   have:=aM.get j i hi (by rw[iN];exact g)
   rw[List.getElem_map] at this
   obtain⟨c,s,a⟩:=this
   exact⟨c,s,b _,all a,u _ (Bu _)⟩
  ·cases f
structure Sml (d:Int)(O:List (List Int))(R:List (List (List Int))):Prop where
 deg:d<=6∨64<d
 lo:O.length<=12
 lr:R.length<=12
 ro: ∀i,i<O.length->(O.getD i []).length<=12
 rr: ∀i,i<R.length->(R.getD i []).length<=12/\ ∀k,k<(R.getD i []).length->((R.getD i []).getD k []).length<=12
theorem Sml.small {d:Int}{O:List (List Int)}{R:List (List (List Int))}(s:Sml d O R):jK O/\lK R:=
 ⟨⟨by have:=s.lo;omega,λi hi=>by have:=s.ro i hi;omega⟩,⟨by have:=s.lr;omega,λi hi=>by have:=(s.rr i hi).1;omega⟩⟩
theorem YV (vc:V)(d:Int)(O:List (List Int))(R:List (List (List Int)))(h:H)(hc:Ig h vc d O R):
  Ev T 10 [vc] h (λv h'=>(v= .bool true∨v= .bool false/\Sml d O R)/\Fr h h'):=by
 obtain⟨vO,vR,rfl,sO,sR⟩:=hc
 refine cT nX rfl ?_
 obtain⟨N,b6,_,U,b4,a3,P,Y,cO⟩:=sK sO
 obtain⟨W,b8,_,a8,b1,a5,Z,n,cR⟩:=Ao sR
 obtain⟨B,hB⟩:=exI h.next
 obtain⟨c,e1,n1,g1,o1,p⟩:=cU hB [aC d,vO,vR]
 have c0: ∀b,Fr c b->b.cell B 0=some (aC d):=λb f=>by rw[f.cell om,H.aF g1];rfl
 have K: ∀b,Fr c b->b.cell B 1=some vO:=λb f=>by rw[f.cell om,H.aF g1];rfl
 have s: ∀b,Fr c b->b.cell B 2=some vR:=λb f=>by rw[f.cell om,H.aF g1];rfl
 have bx:=aQ h (v:= aC d) (u:=vO) (w:=vR) rfl U a8
 have q:=Fr.refl c
 by_cases qA:6<d/\d<=64
 ·have L:decide ((6:Int)<d)=true:=bN qA.1
  have J:decide (d<=64)=true:=bN qA.2
  simp(disch:=omega)only[go_sem,nX,aD,bx,hB,e1,c0 c q,L,J]
  exact⟨.inl trivial,p⟩
 obtain⟨b2,L⟩:=exI (decide ((6:Int)<d))
 obtain⟨b3,J⟩:=exI (decide (d<=64))
 have hb:(b2&&b3)=false:=by
  rw[←L,←J,←Bool.not_eq_true,vV,Ss,Ss];exact qA
 have a9:d<=6∨64<d:=om
 by_cases q1:(12:Int)<(O.length:Int)
 ·have y1:=bN q1
  cases b2<;>cases b3<;>first|cases hb|skip
  all_goals
   simp(disch:=omega)only[go_sem,nX,aD,bx,hB,e1,c0 c q,K c q,N,L,J,y1]
   exact⟨.inl trivial,p⟩
 have y1:=bE q1
 by_cases q4:(12:Int)<(R.length:Int)
 ·have y4:=bN q4
  cases b2<;>cases b3<;>first|cases hb|skip
  all_goals
   simp(disch:=omega)only[go_sem,nX,aD,bx,hB,e1,c0 c q,K c q,N,s c q,W,L,J,y1,y4]
   exact⟨.inl trivial,p⟩
 have y4:=bE q4
 have a4:O.length<=12:=om
 have b0:R.length<=12:=om
 cases b2<;>cases b3<;>first|cases hb|skip
 all_goals
  simp(disch:=omega)only[go_sem,nX,aD,bx,hB,e1,c0 c q,K c q,N,s c q,W,L,J,y1,y4]
  refine aI (λo a b=> ∃(i:Nat),(∃g:Nat->V,a= [g 0,.ptr B 0,g 2,aC i,g 4,g 5,g 6,g 7,g 8,g 9,g 10,g 11,g 12])/\i<=O.length/\(∀j,j<i->(O.getD j []).length<=12)/\Fr c b/\o=O.length-i) O.length
   ⟨0,aB rfl,fR _,λj y=>om,Fr.refl _,rfl⟩ ?_
  rintro o a h2 ⟨i,⟨g,rfl⟩,hi,ho,F,rfl⟩
  by_cases a1:(i:Int)<(O.length:Int)
  case pos=>
   have l:=bN a1;obtain⟨i1,ci,si⟩:=cO i om;have G:h2.cell b4 (a3+i)=some (P.getD i V.undef):=by rw[(p.trans F).cell i1];exact ci
   have lo:=si.lens;generalize P.getD i V.undef=vo at G lo
   by_cases q5:(12:Int)<((O.getD i []).length:Int)
   ·have A:=bN q5
    simp(disch:=omega)only[go_sem,K h2 F,N,l,Y.ixa,G,lo,A];exact⟨.inl trivial,p.trans F⟩
   ·have A:=bE q5
    simp(disch:=omega)only[go_sem,K h2 F,N,l,Y.ixa,G,lo,A];rw[dU i]
    exact⟨O.length-(i+1),om,i+1,aB rfl,om,λj y=>by
     by_cases e:j=i
     ·subst e;omega
     ·exact ho j om,F,rfl⟩
  have l:=bE a1
  simp(disch:=omega)only[go_sem,K h2 F,N,l]
  refine aI (λo a b=> ∃(i:Nat),(∃g:Nat->V,a= [g 0,.ptr B 0,g 2,g 3,aC i,g 5,g 6,g 7,g 8,g 9,g 10,g 11,g 12])/\i<=R.length/\(∀j,j<i->(R.getD j []).length<=12/\ ∀k,k<(R.getD j []).length->((R.getD j []).getD k []).length<=12)/\Fr c b/\o=R.length-i) R.length
   ⟨0,aB rfl,fR _,λj y=>om,F,rfl⟩ ?_
  clear F l
  rintro o a h3 ⟨t,⟨g,rfl⟩,ht,hr,F,rfl⟩
  by_cases r:(t:Int)<(R.length:Int)
  case neg=>
   have l:=bE r;simp(disch:=omega)only[go_sem,s h3 F,W,l];exact⟨.inr ⟨a9,a4,b0,λj y=>ho j om,λj y=>hr j om⟩,p.trans F⟩
  have l:=bN r
  obtain⟨i1,ci,si⟩:=cR t om
  have m: ∀b,Fr c b->b.cell b1 (a5+t)=some (Z.getD t V.undef):=λb f=>by rw[(p.trans f).cell i1];exact ci
  generalize Z.getD t V.undef=vr at m si
  obtain⟨lr,_,_,_,b5,a2,a0,a7,cr⟩:=sK si
  by_cases q5:(12:Int)<((R.getD t []).length:Int)
  case pos=>
   have A:=bN q5;simp(disch:=omega)only[go_sem,s h3 F,W,l,n.ixa,m h3 F,lr,A];exact⟨.inl trivial,p.trans F⟩
  have A:=bE q5
  simp(disch:=omega)only[go_sem,s h3 F,W,l,n.ixa,m h3 F,lr,A]
  refine aI (λo a b=> ∃(k:Nat),(∃g:Nat->V,a= [g 0,.ptr B 0,g 2,g 3,aC t,aC k,g 6,g 7,g 8,g 9,g 10,g 11,g 12])/\k<=(R.getD t []).length/\(∀j,j<k->((R.getD t []).getD j []).length<=12)/\Fr c b/\o=(R.getD t []).length-k) (R.getD t []).length
   ⟨0,aB rfl,fR _,λj y=>om,F,rfl⟩ ?_
  clear F l
  rintro o a z ⟨k,⟨g,rfl⟩,hk,Q,F,rfl⟩
  by_cases a6:(k:Int)<((R.getD t []).length:Int)
  case neg=>
   have l:=bE a6;simp(disch:=omega)only[go_sem,s z F,n.ixa,m z F,lr,l];rw[dU t]
   exact⟨R.length-(t+1),om,t+1,aB rfl,om,λj y=>by
    by_cases e:j=t
    ·subst e;exact⟨om,λo b7=>Q o om⟩
    ·exact hr j om,F,rfl⟩
  have l:=bN a6
  obtain⟨k1,ck,sk⟩:=cr k om
  have x:z.cell b5 (a2+k)=some (a0.getD k V.undef):=by rw[(p.trans F).cell k1];exact ck
  generalize a0.getD k V.undef=vx at x sk
  have lx:=sk.lens
  by_cases q6:(12:Int)<(((R.getD t []).getD k []).length:Int)
  case pos=>
   have y6:decide ((12:Int)<(((R.getD t []).getD k []).length:Int))=true:=bN q6;simp(disch:=omega)only[go_sem,s z F,n.ixa,m z F,lr,l,a7.ixa,x,lx,y6];exact⟨.inl trivial,p.trans F⟩
  have y6:decide ((12:Int)<(((R.getD t []).getD k []).length:Int))=false:=bE q6
  simp(disch:=omega)only[go_sem,s z F,n.ixa,m z F,lr,l,a7.ixa,x,lx,y6]
  rw[dU k]
  exact⟨(R.getD t []).length-(k+1),om,k+1,aB rfl,om,λj y=>by
   by_cases e:j=k
   ·subst e;omega
   ·exact Q j om,F,rfl⟩
theorem ER (a: ∀h,Ev T 11 [] h (λv h'=>v= .bool true/\Fr h h'))(vc:V)(d:Int)(O:List (List Int))(R:List (List (List Int)))(h:H)(hc:Ig h vc d O R):
  Ev T 4 [vc] h (λv h'=>v= .bool true/\Fr h h'):=by
 have c:=hc
 obtain⟨vO,vR,rfl,sO,sR⟩:=hc
 refine cT sF rfl ?_
 have a1:vO.one=true:=Vu sO
 have a6:vR.one=true:=Rd sR
 obtain⟨B,hB⟩:=exI h.next
 obtain⟨h1,e1,n1,g1,o1,e⟩:=cU hB [aC d,vO,vR]
 have bx:=aQ h (v:= aC d) (u:=vO) (w:=vR) rfl a1 a6
 have g: ∀hh,Fr h1 hh->hh.row B 0 3=some [aC d,vO,vR]:=λhh f=>aG (by rw[f.get B om];exact g1)
 simp(disch:=omega)only[go_sem,sF,aD,bx,hB,e1,g h1 (Fr.refl _)]
 refine (YV _ d O R h1 (c.mono e)).mono ?_
 rintro _ h2 ⟨hv,F2⟩
 rcases hv with rfl|⟨rfl,sm⟩
 ·simp(disch:=omega)only[go_sem]
  refine (a h2).mono ?_
  rintro _ h3 ⟨rfl,f3⟩
  simp(disch:=omega)only[go_sem]
  exact (e.trans F2).trans f3
 obtain⟨r,sr⟩:=sm.small
 have p:d<=7∨64<d:=by have:=sm.deg;omega
 by_cases o:jL d O R=0
 case neg=>
  simp(disch:=omega)only[go_sem,g h2 F2];refine (Ku _ d O R h2 (c.mono (e.trans F2)) p r sr o).mono ?_;rintro _ h3 ⟨rfl,f3⟩;have F3:=F2.trans f3;simp(disch:=omega)only[go_sem,g h3 F3];refine (Dm _ d O R h3 (c.mono (e.trans F3)) p r sr o).mono ?_;rintro _ h4 ⟨rfl,f4⟩;have J:=F3.trans f4;simp(disch:=omega)only[go_sem,g h4 J];refine (Sf _ d O R h4 (c.mono (e.trans J)) p r sr o).mono ?_;rintro _ h5 ⟨rfl,y⟩;have F:=J.trans y;simp(disch:=omega)only[go_sem,g h5 F];refine (Km _ d O R h5 (c.mono (e.trans F)) p r sr o).mono ?_;rintro _ h6 ⟨rfl,q⟩;have F6:=F.trans q;simp(disch:=omega)only[go_sem,g h6 F6];refine (Vx _ d O R h6 (c.mono (e.trans F6)) p r sr o).mono ?_;rintro _ h7 ⟨rfl,l⟩;have Z:=F6.trans l;simp(disch:=omega)only[go_sem,g h7 Z];refine (Nf _ d O R h7 (c.mono (e.trans Z)) p r sr o).mono ?_;rintro _ h8 ⟨rfl,k⟩;have K:=Z.trans k;simp(disch:=omega)only[go_sem,g h8 K];refine (Rc _ d O R h8 (c.mono (e.trans K)) p r sr o).mono ?_;rintro _ h9 ⟨rfl,j⟩;have Q:=K.trans j;simp(disch:=omega)only[go_sem,g h9 Q];refine (Ln _ d O R h9 (c.mono (e.trans Q)) p r sr o).mono ?_;rintro _ Y ⟨rfl,b⟩;have P:=Q.trans b;simp(disch:=omega)only[go_sem];refine (Ii (W:=λ_=>False) (W':=λ_=>False) (w:=false) (w':=false) (G:=λ_=>False) (G':=λ_=>False) .aE .aE 0 [] [] [] Y (SV.aE _ 3) (SV.aE _ 3) trivial trivial (by decide)).mono ?_;rintro _ U ⟨rfl,i⟩;have N:=P.trans i;simp(disch:=omega)only[go_sem,eq_self,decide_true];refine (Ii (W:=λ_=>False) (W':=λ_=>False) (w:=false) (w':=false) (G:=λ_=>False) (G':=λ_=>False) .aE .aE 0 [] [] [] U (SV.aE _ 3) (SV.aE _ 3) trivial trivial (by decide)).mono ?_;rintro _ L ⟨rfl,a0⟩;have z:=N.trans a0;simp(disch:=omega)only[go_sem,eq_self,decide_true];refine (a L).mono ?_;rintro _ a7 ⟨rfl,A⟩;simp(disch:=omega)only[go_sem];exact e.trans (z.trans A)
 obtain⟨n,s,t,rfl,rfl,rfl,m⟩:=aiZ c p o
 simp(disch:=omega)only[go_sem,g h2 F2]
 refine (Ei _ n s t _ h2 (m.mono (e.trans F2))).mono ?_
 rintro _ h3 ⟨v2,p2,l2,rfl,s2,a2,q2,f3⟩
 have F3:=F2.trans f3
 simp(disch:=omega)only[go_sem,g h3 F3]
 refine (Ht _ n s t _ h3 (m.mono (e.trans F3))).mono ?_
 rintro _ h4 ⟨v3,p3,l3,rfl,s3,a3,q3,f4⟩
 have J:=F3.trans f4
 obtain rfl:=q2.uniq q3
 simp(disch:=omega)only[go_sem,g h4 J]
 refine (Ny _ n s t _ h4 (m.mono (e.trans J))).mono ?_
 rintro _ h5 ⟨v4,p4,l4,rfl,s4,a4,q4,y⟩
 have F:=J.trans y
 simp(disch:=omega)only[go_sem,g h5 F]
 refine (Qg _ n s t _ h5 (m.mono (e.trans F))).mono ?_
 rintro _ h6 ⟨v5,p5,l5,rfl,s5,a5,q5,q⟩
 have F6:=F.trans q
 obtain rfl:=q4.uniq q5
 simp(disch:=omega)only[go_sem,g h6 F6]
 refine (AO _ n s t _ h6 (m.mono (e.trans F6))).mono ?_
 rintro _ h7 ⟨l6,q6,rfl,l⟩
 have Z:=F6.trans l
 obtain rfl:=q2.uniq q6
 simp(disch:=omega)only[go_sem,g h7 Z]
 refine (Qu _ n s t _ h7 (m.mono (e.trans Z))).mono ?_
 rintro _ h8 ⟨l7,q7,rfl,k⟩
 have K:=Z.trans k
 obtain rfl:=q2.uniq q7
 simp(disch:=omega)only[go_sem,g h8 K]
 refine (Wc _ n s t _ h8 (m.mono (e.trans K))).mono ?_
 rintro _ h9 ⟨l8,q8,rfl,j⟩
 have Q:=K.trans j
 obtain rfl:=q4.uniq q8
 simp(disch:=omega)only[go_sem,g h9 Q]
 refine (Oz _ n s t _ h9 (m.mono (e.trans Q))).mono ?_
 rintro _ Y ⟨l9,q9,rfl,b⟩
 have P:=Q.trans b
 obtain rfl:=q4.uniq q9
 simp(disch:=omega)only[go_sem]
 have hG:=m.dH
 have hI:=m.isc
 refine (Ii v2 v3 n p2 p3 l2 Y (s2.mono ((((((f4.trans y).trans q).trans l).trans k).trans j).trans b)) (s3.mono (((((y.trans q).trans l).trans k).trans j).trans b)) (aM.mono (λ_ _ x=>x.go (Fx.of ((((((f4.trans y).trans q).trans l).trans k).trans j).trans b)) λ_ _ h=>h) a2) (aM.mono (λ_ _ x=>x.go (Fx.of (((((y.trans q).trans l).trans k).trans j).trans b)) λ_ _ h=>h) a3) (q2.short hG hI a2)).mono ?_
 rintro _ U ⟨rfl,i⟩
 have N:=P.trans i
 simp(disch:=omega)only[go_sem,eq_self,decide_true]
 refine (Ii v4 v5 n p4 p5 l4 U (s4.mono (((((q.trans l).trans k).trans j).trans b).trans i)) (s5.mono ((((l.trans k).trans j).trans b).trans i)) (aM.mono (λ_ _ x=>x.go (Fx.of (((((q.trans l).trans k).trans j).trans b).trans i)) λ_ _ h=>h) a4) (aM.mono (λ_ _ x=>x.go (Fx.of ((((l.trans k).trans j).trans b).trans i)) λ_ _ h=>h) a5) (q4.short hG hI a4)).mono ?_
 rintro _ L ⟨rfl,a0⟩
 have z:=N.trans a0
 simp(disch:=omega)only[go_sem,eq_self,decide_true,beq_self_eq_true]
 refine (a L).mono ?_
 rintro _ a7 ⟨rfl,A⟩
 simp(disch:=omega)only[go_sem]
 exact e.trans (z.trans A)
theorem Ow (u:V)(a:List Nat)(h:H)(W:a.length<=1000)(z: ∀x∈a,x<256)(N:SI h u (zi a)):
  Ev T 99 [u] h (λv h'=>v= .str a/\Fr h h'):=by
 refine cT Cz rfl ?_
 obtain⟨n,q⟩:=exI a.length
 have O:=N.lens
 rw[aN,q] at O
 obtain⟨id,off,B,m,w⟩:=N.open
 rw[aN,q] at B m w
 simp(disch:=omega)only[go_sem,Cz,aD,O,Ud h n om]
 have g:Fr h (h.new (.cells false (rc n λ_=> .int .u8 0))):=(Fr.refl h).new _
 have f:(h.new (.cells false (rc n λ_=> .int .u8 0))).get h.next=some (.cells false (rc n λ_=> .int .u8 0)):=H.aL ..
 have c:(h.new (.cells false (rc n λ_=> .int .u8 0))).next=h.next+1:=H.aU ..
 generalize h.new (.cells false (rc n λ_=> .int .u8 0))=U at*
 obtain⟨S,K⟩:=exI h.next
 rw[K] at f c
 rw[K]
 refine aI (λJ b t=> ∃(i:Nat),(∃j:Nat->V,b= [u,j 1,.sl S 0 n (.kn n),j 3,j 4,u,aC n,aC i,j 8])/\i<=n/\
   t.get S=some (.cells false (rc n λj=>if j<i then .int .u8 ((a.getD j 0:Nat):Int) else .int .u8 0))/\t.next=S+1/\Fr h t/\J=n-i) n
  ⟨0,aB rfl,fR _,by rw[f];rfl,c,g,rfl⟩ ?_
 clear f g c
 rintro J b p ⟨i,⟨R,rfl⟩,hi,L,Q,F,rfl⟩
 simp(disch:=omega)only[go_sem]
 by_cases o:(i:Int)<(n:Int)
 ·rw[bN o]
  have d:i<n:=om
  have ci:p.cell id (off+i)=some (aC (a.getD i 0:Nat)):=by rw[F.cell (m om),w i d];congr 2;simp [zi,q,d]
  have r:=z (a.getD i 0) (aW om)
  generalize P:a.getD i 0=k at ci r
  have y:=bP (vs:=rc n λj=>if j<i then .int .u8 ((a.getD j 0:Nat):Int) else .int .u8 0) (off:=i) (by rw[jE];exact d) p S (.int .u8 (k:Int))
  rw[kX] at y
  simp(disch:=omega)only[go_sem,B.ixa,ci,L,xY,y]
  rw[dU i]
  refine⟨n-(i+1),om,i+1,aB rfl,om,?_,Q,F.set om _,rfl⟩
  congr 2
  refine dA λj G=>?_
  by_cases e:j=i
  ·rw[bJ e,bJ om,e,P]
  ·rw[bL e]
   by_cases A:j<i
   ·rw[bJ A,bJ om]
   ·rw[bL A,bL om]
 rw[bE o]
 obtain rfl:i=n:=om
 have l:p.row S 0 i=some (a.map λ(x:Nat)=>V.int .u8 (x:Int)):=by
  have e:(rc i λj=>if j<i then V.int .u8 ((a.getD j 0:Nat):Int) else .int .u8 0)=a.map λ(x:Nat)=>V.int .u8 (x:Int):=Kp (by rw[iN,q]) λj G=>by
   rw[bJ G,Wy,dF om,List.getD,dF om];rfl
  unfold H.row;rw[L,e];simp only[sub];rw[bJ (by rw[iN];omega)];rw[List.drop_zero,Lq (by rw[iN];omega)]
 have s:LG p (.sl S 0 i (.kn i))=some (.str a):=by
  show (match p.row S 0 i with|some ys=>(pV ys).map V.str|none=>none)=_;rw[l];show (pV (a.map λ(x:Nat)=>V.int .u8 (x:Int))).map V.str=_;rw[Eh a z];rfl
 simp(disch:=omega)only[go_sem,IZ,s]
 exact F
structure YE (n:Nat)(O:LN)(R:fM)(G:List Nat->Prop)(L:LN)(K:List Nat)(h:H)(p:Nat):Prop where
 ex: ∃vO vR M vr,h.get p=some (.cells false [aC n,vO,vR,.mp M,vr])/\h.get M=some (.wmap .str (Is L L.length))/\GC (λ_=>False) h (.agg [aC n,vO,vR]) n O R G/\SP h vr (K.map λr=>L.getD r [])/\M<h.next
 hL:dG O R n 0 (bT n)=L
 isK:Cn n G L K
 nx:p<h.next
theorem YE.mono {n:Nat}{O:LN}{R:fM}{G:List Nat->Prop}{L:LN}{K:List Nat}{h h':H}{p:Nat}(l:YE n O R G L K h p)(f:Fr h h'):YE n O R G L K h' p:=by
 obtain⟨e,b,M,i,g,d,c,sp,a⟩:=l.ex;have nx:=l.nx;exact⟨⟨e,b,M,i,by rw[f.get p nx];exact g,by rw[f.get M a];exact d,c.mono f,sp.mono f,jB a f.next⟩,l.hL,l.isK,jB nx f.next⟩
theorem YP {a b c m:V}(g:a.one=true)(e:b.one=true)(f:c.one=true)(h:m.cells= [m])(d:m.one=true):rK [aC 0,.aE,.aE,.nilm,.aE] [(0,3,.agg [a,b,c]),(3,1,m)]=some (.agg [a,b,c,m,.aE]):=by
 simp [rK,gZ,putAt,g,e,f,h,d,show (V.agg [a,b,c]).cells= [a,b,c] from rfl]
theorem acB {a b:V}(d:a.one=true)(c:b.one=true)(n:Int)(M:Nat)(h:H):En h (.agg [aC n,a,b,.mp M,.aE])=some (.ptr h.next 0,h.new (.cells false [aC n,a,b,.mp M,.aE])):=tJ h _ (by simp [d,c,show (aC n).one=true from rfl,show (V.mp M).one=true from rfl,show V.aE.one=true from rfl])
theorem SI.Il {h h':H}{v:V}{l:List Int}{q:Nat}{n:Int}{a b m x y:V}(s:SI h v l)(G:l≠ [])(g:h.get q=aY [aC n,a,b,m,x])(g':h'.get q=aY [aC n,a,b,m,y])(A: ∀z,a≠ aC z)(L: ∀z,b≠ aC z)(N: ∀z,m≠ aC z)(nx: ∀z,x≠ aC z)(f:Fx (· =q) h h'):SI h' v l:=by
 rcases s with s|⟨id,off,len,i,J,K,o,B,u,w,j,d⟩
 ·exact .inl s
 ·by_cases e:id=q
  ·subst e
   rw[g] at w;cases w
   cases l with
   |nil=>exact absurd rfl G
   |cons z r=>
    have p: ∀(c:V) (t:List V),(∀z,c≠ aC z)->c::t≠ints (z::r):=λc t F e=>F z (List.cons.inj e).1
    match off,len,o,j,d with
    |off,0,_,_,d=>simp [ints] at d
    |0,1,o,j,d=>exact .inr ⟨id,0,1,i,false,_,o,B,jB u f.next,g',j,d⟩
    |0,k+2,_,_,d=>
     exfalso
     cases r with
     |nil=>
      have:=congrArg List.length d;simp [ints] at this
      try omega
     |cons z2 r2=>
      have:=congrArg (λl:List V=>l[1]?) d;simp [ints] at this;exact A z2 this
    |1,k+1,_,_,d=>exact absurd d (by simpa using p a _ A)
    |2,k+1,_,_,d=>exact absurd d (by simpa using p b _ L)
    |3,k+1,_,_,d=>exact absurd d (by simpa using p m _ N)
    |4,k+1,_,_,d=>exact absurd d (by simpa using p x _ nx)
    |off+5,k+1,_,_,d=>simp [ints] at d
  ·exact .inr ⟨id,off,len,i,J,K,o,B,jB u f.next,by rw[f.get id u e];exact w,j,d⟩
theorem acU {W0:Nat->Prop}(vc:V)(n:Nat)(O:LN)(R:fM)(G:List Nat->Prop)(h:H)(gc:GC W0 h vc n O R G):
  Ev T 46 [vc] h (λv h'=> ∃p L K,v= .tup [.ptr p 0,aC 0]/\YE n O R G L K h' p/\Fr h h'):=by
 obtain⟨s,l,rfl,a0,a5⟩:=gc.shape
 refine cT sC rfl ?_
 obtain⟨A,hA⟩:=exI h.next
 obtain⟨J,e1,n1,g1,o1,f1⟩:=cU hA [aC n,s,l]
 have bx:=aQ h (v:= aC n) (u:=s) (w:=l) rfl a0 a5
 have rB:=aG g1
 obtain⟨L,hL⟩:=exI (dG O R n 0 (bT n))
 obtain⟨E,ll⟩:=dL gc.dH gc.isc
 have g3:=fK gc
 rw[hL] at E ll
 have hG:=gc.dH
 have n7:=gc.n7
 have n0:=gc.n0
 simp(disch:=omega)only[go_sem,sC,aD,bx,hA,e1,rB]
 refine (Uz _ n O R G J (gc.mono f1)).mono ?_
 rw[hL]
 rintro _ j ⟨vL,rfl,nw⟩
 obtain⟨wL,W,c6,d2,g0,W1⟩:=nw.ex
 have c9:=aM.length d2
 obtain⟨m,hm⟩:=exI L.length
 rw[hm] at c9
 have e4:=cQ.lens c6 c9
 have f2:=nw.fr
 have f0:j.row A 0 3=some [aC n,s,l]:=aG (by rw[f2.get A om];exact g1)
 simp(disch:=omega)only[go_sem]
 refine bA (λhc=>(hc rfl).elim) (λ_=>?_)
 obtain⟨X,hX⟩:=exI j.next
 simp(disch:=omega)only[go_sem,f0,e4,hX,YP (a:= aC n) (b:=s) (c:=l) (m:= .mp (X+3)) rfl a0 a5 rfl rfl,acB a0 a5]
 obtain⟨h3,Y⟩: ∃h3:H,h3=H.mk ((H.mk ((H.mk j.tr (X+3)).new (Ob.wmap Ci.str [])).tr (X+5)).new (Ob.cells false [aC n,s,l,.mp (X+3),.aE])).tr (X+7):=⟨_,rfl⟩
 rw[←Y]
 have n3:h3.next=X+7:=by rw[Y]
 have gB:h3.get (X+5)=aY [aC n,s,l,.mp (X+3),.aE]:=by rw[Y];exact H.aL (H.mk _ (X+5)) _
 have gM:h3.get (X+3)=some (.wmap .str (Is L 0)):=by
  rw[Y];exact (H.bD (H.mk _ (X+5)) (show X+3≠X+5 by omega) _).trans (H.aL (H.mk _ (X+3)) _)
 have f3:Fr j h3:=⟨om,λq hq=>by
  rw[Y]
  exact (H.bD (H.mk _ (X+5)) (show q≠X+5 by omega) _).trans (H.bD (H.mk _ (X+3)) (show q≠X+3 by omega) _)⟩
 clear Y
 have U: ∀i,i<m->(L.getD i []).length<=1000/\ ∀x∈L.getD i [],x<256:=λi hi=>by
  have P:=mV hG E (show i<L.length by omega);exact⟨by rw[P.len];omega,λx hx=>by have:=P.lt x hx;omega⟩
 obtain⟨f8,c8,e3,c3,d3⟩:=SV.shape c6.sv m om om
 have f4: ∀i,i<m-> ∃vx,(∀h',Fr j h'->h'.cell f8 (c8+i)=some vx)/\SI j vx (zi (L.getD i [])):=λi hi=>by
  obtain⟨v,J,d7⟩:=dW.at d2 (i:=i) om;exact⟨v,λh' f=>by rw[f.cell (c3 om),d3 i om,J],d7.si⟩
 have hK: ∀i,i<m->isKey .str (.str (L.getD i []))=true:=λi hi=>yF (U i hi).1 (U i hi).2
 refine bQ (λvs F=>(∃g:Nat->V,vs= [g 0,.ptr A 0,.nilp,aC 0,vL,g 5,.ptr (X+5) 0,g 7,g 8,g 9,g 10,g 11,g 12,g 13,g 14,g 15,g 16,g 17,g 18,g 19])/\F.get (X+3)=some (.wmap .str (Is L m))/\Fx (· =X+3) h3 F) ?_ ?_
 ·refine aI (λk' vs F=> ∃(i:Nat),(∃g:Nat->V,vs= [g 0,.ptr A 0,.nilp,aC 0,vL,g 5,.ptr (X+5) 0,g 7,g 8,g 9,g 10,g 11,vL,aC m,aC i,g 15,g 16,g 17,g 18,g 19])/\i<=m/\F.get (X+3)=some (.wmap .str (Is L i))/\Fx (· =X+3) h3 F/\k'=m-i) m
   ⟨0,aB rfl,fR _,gM,Fx.refl _ h3,rfl⟩ ?_
  rintro k' b4 h4 ⟨i,⟨g,rfl⟩,hi,b1,F4,rfl⟩
  by_cases a3:(i:Int)<(m:Int)
  case neg=>
   have d4:=bE a3;obtain rfl:i=m:=om
   simp(disch:=omega)only[go_sem,d4];exact⟨aB rfl,b1,F4⟩
  have d4:=bN a3
  have y:i<m:=om
  have a7:Fr j h4:=⟨by have:=F4.next;omega,λq hq=>by rw[F4.get q om om];exact f3.get q hq⟩
  have b8:h4.get (X+5)=aY [aC n,s,l,.mp (X+3),.aE]:=by rw[F4.get _ om om];exact gB
  obtain⟨vx,cx,sx⟩:=f4 i y
  have d1:h4.cell (X+5) 3=some (.mp (X+3)):=by rw[H.aF b8];rfl
  simp(disch:=omega)only[go_sem,d4,e3.ixa,cx h4 a7,d1]
  refine (Ow vx (L.getD i []) _ (U i y).1 (U i y).2 (sx.mono (a7.trans ((Fr.refl h4).bH om)))).mono ?_
  rintro _ B ⟨rfl,f5⟩
  have b0:Fr h4 B:=((Fr.refl h4).bH om).trans f5
  have n4:=F4.next
  have c0:B.get (X+3)=some (.wmap .str (Is L i)):=by rw[b0.get _ om];exact b1
  have f9:B.cell (X+5) 3=some (.mp (X+3)):=by rw[b0.cell om];exact d1
  have pt:=λF=>Xv E.nodup (show i<L.length by omega) (hK i y) F (X+3)
  simp(disch:=omega)only[go_sem,f9,c0,pt]
  rw[dU i]
  refine⟨by simp [dB],m-(i+1),om,i+1,aB rfl,om,rfl,⟨by have:=b0.next;show h3.next<=B.next;omega,λq J j=>by rw[H.aH _ (λe=>j e),b0.get q om];exact F4.get q J j⟩,rfl⟩
 rintro b4 h4 ⟨⟨g,rfl⟩,b1,F4⟩
 have n4:=F4.next
 have a7:Fr j h4:=⟨om,λq hq=>by rw[F4.get q om om];exact f3.get q hq⟩
 have b8:h4.get (X+5)=aY [aC n,s,l,.mp (X+3),.aE]:=by rw[F4.get _ om om];exact gB
 have b7:=f2.trans a7
 have rA:=aG (h:=h4) (id:=A) (ro:=false) (by rw[b7.get _ om];exact g1)
 simp(disch:=omega)only[go_sem,rA]
 refine (TL _ n O R G h4 (gc.mono (f1.trans b7)) L hL).mono ?_
 rintro _ B ⟨vl,K,ks,rfl,ik,sl,al,f5⟩
 have lk:=aM.length al
 have kl:K.length<=5040:=lX (List.Nodup.length_le_of_subset ik.nd (l₂:=List.range L.length) λx hx=>Lk.2 (ik.lt hx)) (by rw[YI];omega)
 have e9:bF vl=some (aC (K.length:Int)):=by unfold bF;rw[SV.len sl (n:=K.length) (by rw[sU,lk]) om];rfl
 have n5:=f5.next
 have b6:B.get (X+5)=aY [aC n,s,l,.mp (X+3),.aE]:=by rw[f5.get _ om];exact b8
 obtain⟨a6,TV,d5,d0,b2⟩:=SV.shape sl K.length (by rw[sU,lk]) om
 have a8:=b7.trans f5
 obtain⟨nO,nR⟩:(∀k z,s≠ .int k z)/\ ∀k z,l≠ .int k z:=by
  obtain⟨_,_,_,_,ev,sO,_,_,sR,_,_⟩:=gc.cw;simp only[V.agg.injEq,List.cons.injEq,true_and,and_true] at ev;rw[←ev.1] at sO;rw[←ev.2] at sR;refine⟨λk z e=>?_,λk z e=>?_⟩
  ·rw[e] at sO
   rcases sO with ⟨h|⟨_,h⟩,_⟩|⟨_,_,_,_,_,_,h,_⟩<;>cases h
  ·rw[e] at sR
   rcases sR with ⟨h|⟨_,h⟩,_⟩|⟨_,_,_,_,_,_,h,_⟩<;>cases h
 simp(disch:=omega)only[go_sem,e9]
 refine aI (λk' vs F=> ∃(i:Nat) (vr:V) (wr:List V),(∃g:Nat->V,vs= [g 0,g 1,g 2,aC 0,g 4,g 5,.ptr (X+5) 0,g 7,g 8,g 9,g 10,g 11,g 12,g 13,g 14,g 15,vl,aC (K.length:Int),aC i,g 19])/\i<=K.length/\F.get (X+5)=aY [aC n,s,l,.mp (X+3),vr]/\cQ F vr 1 wr B.next/\aM (λv r=>SI B v (zi (L.getD r []))) wr (K.take i)/\Fx (· =X+5) B F/\k'=K.length-i) K.length
  ⟨0,.aE, [],aB rfl,fR _,b6,cQ.aE _ _ _,trivial,Fx.refl _ B,rfl⟩ ?_
 rintro k' b4 h6 ⟨i,vr,wr,⟨g,rfl⟩,hi,a9,ow,aw,F6,rfl⟩
 have n6:=F6.next
 by_cases a3:(i:Int)<(K.length:Int)
 case neg=>
  have d4:=bE a3;obtain rfl:i=K.length:=om
  have d8:Fr h h6:=⟨by have:=f1.next;have:=a8.next;omega,λq hq=>by rw[F6.get q (by have:=a8.next;omega) (by have:=f2.next;omega),a8.get q om];exact f1.get q hq⟩
  have f6: ∀q,q<B.next->q≠X+5->h6.get q=B.get q:=λq J j=>F6.get q J j
  simp(disch:=omega)only[go_sem,d4];rw[List.take_length] at aw;have c0:B.get (X+3)=some (.wmap .str (Is L L.length)):=by rw[f5.get _ om,b1,hm]
  have Lp: ∀r∈K,zi (L.getD r [])≠ []:=λr hr e=>by
   have P:=mV hG E (ik.lt hr);have:=congrArg List.length e;rw[aN,P.len] at this;exact absurd this (by show n≠0;omega)
  have e5:SP h6 vr (K.map λr=>L.getD r []):=by
   refine dW.Xg (W:=λ_=>False) ow.sv (aM.kH (by rw[iN];exact aM.length aw) λt J j=>?_);rw[iN] at j;rw[List.getElem_map];exact⟨SI.Il (aM.get aw t J j) (Lp _ (Bu _)) b6 a9 (nO _) (nR _) (λ_ e=>(by cases e)) (λ_ e=>(by cases e)) F6,uD _⟩
  have d6:GC (λ_=>False) h6 (.agg [aC n,s,l]) n O R G:=by
   refine (((gc.mono f1).iP (W':=λq=>q=X+5) λq hq h=>?_).mono a8).go (W':=λ_=>False) (h':=h6) F6 λq _ h=>h.elim
   have:=f2.next;omega
  exact⟨X+5,L,K,rfl,⟨⟨s,l,X+3,vr,a9,by rw[f6 _ om om];exact c0,d6,e5,om⟩,hL,ik,om⟩,d8⟩
 have d4:=bN a3
 have y:i<K.length:=om
 have b9:i<ks.length:=om
 have d9:a6≠X+5:=λe=>by
  obtain⟨_,c1,_⟩:=Zd b9;have Z:=b2 (i*3+1) (by rw[sU];omega);rw[c1,e,H.aF b6] at Z
  match ho:TV+(i*3+1),Z with
  |0,_=>omega
  |1,Z=>exact nO _ _ (Option.some.inj Z)
  |2,Z=>exact nR _ _ (Option.some.inj Z)
  |3,Z=>cases Z
  |4,Z=>cases Z
  |k+5,Z=>cases Z
 obtain⟨q1,q2,q3⟩:=Zd b9
 have r5:B.row a6 (TV+i*3) 3=some [ks[i].rep,aC (ks[i].ord:Int),aC (ks[i].size:Int)]:=by
  have ll:=sU ks;refine Rz ((b2 (i*3) om).trans q1) ?_ ?_
  ·have:=(b2 (i*3+1) om).trans q2
   rwa [←Nat.add_assoc] at this
  ·have:=(b2 (i*3+2) om).trans q3
   rwa [←Nat.add_assoc] at this
 have r6:h6.row a6 (TV+i*3) 3=some [ks[i].rep,aC (ks[i].ord:Int),aC (ks[i].size:Int)]:=by
  rw[←r5];unfold H.row;rw[F6.get a6 (d0 om) d9]
 have kr:=(aM.get al i b9 y).rep
 have N:=ks[i].hrep
 generalize ks[i].rep=rp at r6 kr N
 generalize ((ks[i].ord:Nat):Int)=a1 at r6
 generalize ((ks[i].size:Nat):Int)=a2 at r6
 obtain⟨D,hD⟩:=exI h6.next
 obtain⟨h7,e7,g2,g7,o7,f7⟩:=cU hD [.aE,aC 0,aC 0]
 obtain⟨Q,e8,n8,g8,o8⟩:=mD h7 D [rp,aC a1,aC a2]
 have e0:Q.get (X+5)=aY [aC n,s,l,.mp (X+3),vr]:=by rw[o8 _ om,o7 _ om];exact a9
 simp(disch:=omega)only[go_sem,d4,d5.ixa,r6,hD,e7,bI h7 D 0 (v:=rp) (u:= aC a1) (w:= aC a2) N.2.1 rfl rfl,g7,bG,e8,H.aF e0,H.aF g8,bZ (H.mk Q.tr (Q.next+7)) (z:= .aE) N.1 N.2.1]
 obtain⟨h9,a4⟩: ∃h9:H,h9=H.mk ((H.mk Q.tr (Q.next+7)).new (Ob.cells false [rp])).tr (Q.next+12):=⟨_,rfl⟩
 rw[←a4]
 have g9:h9.get (Q.next+7)=aY [rp]:=by rw[a4];exact H.aL (H.mk Q.tr (Q.next+7)) _
 have n9:h9.next=Q.next+12:=by rw[a4]
 have o9: ∀k,k≠Q.next+7->h9.get k=Q.get k:=λk hk=>by rw[a4];exact H.bD (H.mk Q.tr (Q.next+7)) hk _
 clear a4
 have b5: ∀k,k<h6.next->h9.get k=h6.get k:=λk hk=>by rw[o9 k om,o8 k om,o7 k om]
 have lw:=aM.length aw
 rw[Cq,Nat.min_eq_left om] at lw
 obtain⟨c4,e6,b3⟩:=(ow.mono (h':=h9) om λq o m c e _ J=>b5 q J).push (bytes:=24) (SV.one om g9 (.kn 1)) (n:=i) (m:=1) om rfl om om om
 have g4:=b3.next
 have c7: ∀k,k<B.next->cZ vr k:=λk hk id o m c e e2=>by have:=(ow.in _ _ _ _ e).2.1;omega
 have c5:c4.get (X+5)=aY [aC n,s,l,.mp (X+3),vr]:=by rw[b3.old _ om (c7 _ om),b5 _ om];exact a9
 have pt: ∀(F:H) (x:V),dR (aY [aC n,s,l,.mp (X+3),vr]) F (X+5) 4 [x]=some (F.set (X+5) (aY [aC n,s,l,.mp (X+3),x])):=λF x=>bP (by simp) F _ x
 simp(disch:=omega)only[go_sem,e6,c5,pt]
 rw[dU i]
 refine⟨K.length-(i+1),om,i+1,_,_,aB rfl,om,rfl,(b3.own om rfl om).mono (eH _) λq o m c e _ J=>H.aH _ (by cases e;omega) _,?_,⟨by show B.next<=c4.next;omega,λq J j=>?_⟩,rfl⟩
 ·rw[dE 0 y]
  exact aM.append aw ⟨by rw[←mG (d:=0) y];exact kr,trivial⟩
 ·rw[H.aH _ j,b3.old q om (c7 q J),b5 q om]
  exact F6.get q J j
section
variable {a b c d:V}
structure Rk (L:LN)(Gd:List Nat->Prop)(r:List Nat):Prop where
 asc:r.Pairwise (· < ·)
 mem: ∀i,i∈r↔i<L.length/\Gd (L.getD i [])
theorem kZ (h:H)(id off:Nat)(g:a.one=true)(e:b.one=true)(f:c.one=true)(i:d.one=true):Xh h 4 (.ptr id off) (.agg [a,b,c,d])=dR (h.get id) h id off [a,b,c,d]:=By h id off 4 _ rfl (by simp [g,e,f,i])
theorem kA {x y z t:V}(h:H)(id:Nat):dR (some (.cells false [x,y,z,t])) h id 0 [a,b,c,d]=some (h.set id (some (.cells false [a,b,c,d]))):=by
 simp [dR,putAt]
theorem iI {h:H}{id:Nat}{ro:Bool}(e:h.get id=some (.cells ro [a,b,c,d])):h.row id 0 4=some [a,b,c,d]:=by
 simp [H.row,e,sub]
theorem acD (g:a.one=true)(e:b.one=true)(f:c.one=true):rK [aC 0,.aE,.aE,.aE] [(0,3,.agg [a,b,c])]=some (.agg [a,b,c,.aE]):=by
 simp [rK,gZ,putAt,g,e,f,show (V.agg [a,b,c]).cells= [a,b,c] from rfl]
theorem aiI {G o:List Nat->Prop}{L j:LN}(q:dZ G L)(E:dZ o j)(le: ∀x,o x->G x){g:List Int}(p:g.Perm (zi (j.map λx=>L.idxOf x)))(s:g.Pairwise (· <= ·)): ∃r,g=zi r/\Rk L o r:=by
 have f: ∀x∈j,x∈L:=λx l=>(q.mem x).2 (le x ((E.mem x).1 l))
 have e:zi (g.map Int.toNat)=g:=by
  unfold zi;rw[List.map_map];refine (Wd λz B=>?_).trans (List.map_id _);have:=p.mem_iff.1 B;unfold zi at this;obtain⟨k,_,rfl⟩:=vF.1 this
  rfl
 have nd:(j.map λx=>L.idxOf x).Nodup:=by
  refine List.pairwise_map.2 (List.Pairwise.imp_of_mem (λ{a b} v u ne e=>ne ?_) E.nodup);have w:=List.getElem_idxOf (List.idxOf_lt_length_of_mem (f a v));have A:=List.getElem_idxOf (List.idxOf_lt_length_of_mem (f b u));rw[←w,←A];congr 1
 have t:(g.map Int.toNat).Perm (j.map λx=>L.idxOf x):=by
  have:=p.map Int.toNat;refine this.trans (List.Perm.of_eq ?_);unfold zi;rw[List.map_map];exact (Wd λz _=>rfl).trans (List.map_id _)
 refine⟨_,e.symm,?_,λi=>?_⟩
 ·have n:=t.nodup_iff.2 nd
  have y:(g.map Int.toNat).Pairwise (· <= ·):=List.pairwise_map.2 (s.imp λh=>Int.toNat_le_toNat h);exact (List.pairwise_and_iff.2 ⟨y,n⟩).imp λh=>Nat.lt_of_le_of_ne h.1 h.2
 ·rw[t.mem_iff,vF]
  constructor
  ·rintro⟨x,l,rfl⟩
   have m:=List.idxOf_lt_length_of_mem (f x l);refine⟨m,?_⟩;rw[List.getD,dF m,Option.getD_some,List.getElem_idxOf m];exact (E.mem x).1 l
  ·rintro⟨hi,hg⟩
   refine⟨_,(E.mem _).2 hg,?_⟩;rw[List.getD,dF hi,Option.getD_some];exact q.nodup.idxOf_getElem i hi
theorem RC {W:Nat->Prop}(T0:Nat)(vd:V)(n:Nat)(O O':LN)(R R':fM)(G Gd:List Nat->Prop)(L:LN)(K:List Nat)(h:H)(Il:YE n O R G L K h T0)(gd:GC W h vd n O' R' Gd)(le: ∀x,Gd x->G x):
  Ev T 102 [.ptr T0 0,vd] h (λv h'=> ∃vO vR vr r,vd= .agg [aC n,vO,vR]/\v= .agg [aC n,vO,vR,vr]/\SI h' vr (zi r)/\Rk L Gd r/\Mf (λq=>q<h.next) vr/\Fr h h'):=by
 obtain⟨vO,vR,rfl,y,F⟩:=gd.shape
 obtain⟨lO,lR,M,lr,gT,gM,gc,_,nM⟩:=Il.ex
 refine cT sD rfl ?_
 obtain⟨E0,e3⟩:=dL gc.dH gc.isc
 rw[Il.hL] at E0
 obtain⟨E,ll⟩:=dL gd.dH gd.isc
 have e0:=fK gd
 have n7:=gd.n7
 obtain⟨J,b1⟩:=exI (dG O' R' n 0 (bT n))
 rw[b1] at E ll
 have nT:=Il.nx
 obtain⟨A,hA⟩:=exI h.next
 obtain⟨h1,e1,n1,g1,o1,f1⟩:=cU hA [aC n,vO,vR]
 obtain⟨h2,e2,n2,g2,o2,f2⟩:=cU n1 [aC 0,.aE,.aE,.aE]
 have F2:=f1.trans f2
 have b2:h2.get A=some (.cells false [aC n,vO,vR]):=by rw[o2 A om];exact g1
 simp(disch:=omega)only[go_sem,sD,aD,aQ h (v:= aC n) (u:=vO) (w:=vR) rfl y F,hA,e1,n1,e2,aG b2]
 refine (Uz _ n O' R' Gd h2 (gd.mono F2)).mono ?_
 rw[b1]
 rintro _ h3 ⟨vL,rfl,nw⟩
 obtain⟨wL,W,b4,b9,d9,W1⟩:=nw.ex
 have b7:=aM.length b9
 have c9:=cQ.lens b4 b7
 have f3:=nw.fr
 have n3:=f3.next
 have d3:h3.get A=some (.cells false [aC n,vO,vR]):=by rw[f3.get A om];exact b2
 obtain⟨D,hD⟩:=exI h3.next
 obtain⟨h4,e4,n4,g4,o4,f4⟩:=cU hD [aC 0,.aE,.aE,.aE]
 obtain⟨Z,e5,n5,g5,o5⟩:=mD h4 D [aC n,vO,vR,.aE]
 simp(disch:=omega)only[go_sem,aG d3,acD (a:= aC n) (b:=vO) (c:=vR) rfl y F,hD,e4,kZ h4 D 0 (a:= aC n) (b:=vO) (c:=vR) (d:= .aE) rfl y F rfl,g4,kA,e5,c9]
 obtain⟨m,hm⟩:=exI J.length
 rw[hm] at b7
 have a4:Fr h3 Z:=⟨om,λq hq=>by rw[o5 q om,o4 q om]⟩
 obtain⟨d2,b6,c8,b0,c1⟩:=SV.shape b4.sv m om om
 have d0: ∀i,i<m-> ∃vx,(∀h',Fr h3 h'->h'.cell d2 (b6+i)=some vx)/\SI h3 vx (zi (J.getD i [])):=λi hi=>by
  obtain⟨v,h1,c4⟩:=dW.at b9 (i:=i) om;exact⟨v,λh' f=>by rw[f.cell (b0 om),c1 i om,h1],c4.si⟩
 have B: ∀i,i<m->(J.getD i []).length<=1000/\ ∀x∈J.getD i [],x<256:=λi hi=>by
  have P:=mV gd.dH E (show i<J.length by omega);exact⟨by rw[P.len];omega,λx hx=>by have:=P.lt x hx;omega⟩
 have d5: ∀x∈J,x∈L:=λx hx=>(E0.mem x).2 (le x ((E.mem x).1 hx))
 have a7:Fr h h3:=F2.trans f3
 obtain⟨Y,a1⟩: ∃Y:Nat->List Int,Y=λi=>zi ((J.take i).map λx=>L.idxOf x):=⟨_,rfl⟩
 have rl: ∀i,i<=m->(Y i).length=i:=λi hi=>by rw[a1];simp [aN];omega
 refine bQ (λvs t=> ∃S,(∃g:Nat->V,vs= [g 0,g 1,g 2,.ptr (A+1) 0,g 4,.ptr D 0,g 6,g 7,g 8,g 9,g 10])/\t.get D=some (.cells false [aC n,vO,vR,.sl S 0 m (.un 1)])/\t.get S=some (.cells false (ints (Y m)))/\S<t.next/\Z.next<=S/\Fx (· =D) Z t) ?_ ?_
 ·refine aI (λk' vs t=> ∃(i:Nat) (vr:V),(∃g:Nat->V,vs= [.ptr T0 0,g 1,g 2,.ptr (A+1) 0,g 4,.ptr D 0,g 6,vL,aC m,aC i,g 10])/\i<=m/\t.get D=some (.cells false [aC n,vO,vR,vr])/\cQ t vr 1 (ints (Y i)) Z.next/\(0<i-> ∃S,vr= .sl S 0 i (.un 1)/\t.get S=some (.cells false (ints (Y i)))/\S<t.next/\Z.next<=S)/\Fx (· =D) Z t/\k'=m-i) m
   ⟨0,.aE,by rw[hm];exact aB rfl,fR _,g5,by rw[a1];exact cQ.aE _ _ _,λh=>absurd h om,Fx.refl _ Z,rfl⟩ ?_
  rintro k' c0 l ⟨i,vr,⟨g,rfl⟩,hi,s,ow,hS,F6,rfl⟩
  have n6:=F6.next
  by_cases b8:(i:Int)<(m:Int)
  case neg=>
   have d4:=bE b8;obtain rfl:i=m:=om
   have mp:0<i:=by
    have:=KH ((E.mem _).2 gd.dH.one);omega
   obtain⟨S,rfl,gS,s1,s2⟩:=hS mp;simp(disch:=omega)only[go_sem,d4];exact⟨S,aB rfl,s,gS,s1,s2,F6⟩
  have d4:=bN b8
  have N:i<m:=om
  have a3:Fr h3 l:=⟨om,λq hq=>by rw[F6.get q om om];exact a4.get q hq⟩
  have a6:Fr h l:=a7.trans a3
  obtain⟨vx,cx,sx⟩:=d0 i N
  have a8:l.get T0=some (.cells false [aC n,lO,lR,.mp M,lr]):=by rw[a6.get T0 nT];exact gT
  have c3:dB vr vr=true:=ow.sv.dB
  obtain⟨j,hj⟩:=exI (L.idxOf (J.getD i []))
  have xL:J.getD i []∈L:=d5 _ (aW om)
  have jl:j<L.length:=hj▸List.idxOf_lt_length_of_mem xL
  have lj:L.getD j []=J.getD i []:=by
   rw[List.getD,dF jl,Option.getD_some];subst hj;exact List.getElem_idxOf _
  have d8:isKey .str (.str (J.getD i []))=true:=yF (B i N).1 (B i N).2
  have lk:=λz=>Pn E0.nodup jl (by rw[lj];exact d8) z
  rw[lj] at lk
  have fb:Fr l (H.mk l.tr (l.next+13)):=(Fr.refl l).bH om
  simp(disch:=omega)only[go_sem,d4,c8.ixa,cx l a3,H.aF s,H.aF a8]
  refine (Ow vx (J.getD i []) _ (B i N).1 (B i N).2 (sx.mono (a3.trans fb))).mono ?_
  rintro _ p ⟨rfl,f7⟩
  have a0:=fb.trans f7
  have c6:l.next+13<=p.next:=f7.next
  have a5:p.get D=some (.cells false [aC n,vO,vR,vr]):=by rw[a0.get D om];exact s
  have c2:p.get T0=some (.cells false [aC n,lO,lR,.mp M,lr]):=by rw[a0.get T0 (by have:=a6.next;omega)];exact a8
  have c5:p.get M=some (.wmap .str (Is L L.length)):=by rw[(a6.trans a0).get M nM];exact gM
  simp(disch:=omega)only[go_sem,H.aF a5,H.aF c2,c3,c5,lk,show dB (.mp M) (.mp M)=true from by simp [dB],bZ (H.mk p.tr (l.next+9)) (z:= aC 0) (v:= aC j) rfl rfl]
  obtain⟨h8,U⟩: ∃h8:H,h8=H.mk ((H.mk p.tr (l.next+9)).new (Ob.cells false [aC j])).tr p.next:=⟨_,rfl⟩
  rw[←U]
  have g8:h8.get (l.next+9)=some (.cells false [aC j]):=by rw[U];exact H.aL (H.mk p.tr (l.next+9)) _
  have n8:h8.next=p.next:=by rw[U]
  have o8: ∀k,k≠l.next+9->h8.get k=p.get k:=λk hk=>by rw[U];exact H.bD (H.mk p.tr (l.next+9)) hk _
  clear U
  have a2: ∀k,k<l.next->h8.get k=l.get k:=λk hk=>by rw[o8 k om,a0.get k hk]
  have li:=rl i om
  obtain⟨h9,a9,p9⟩:=(ow.mono (h':=h8) om λq o m c e _ h1=>a2 q h1).push (bytes:=8) (SV.one om g8 (.kn 1)) (n:=i) (m:=1) (by rw[aP];omega) rfl om om om
  have n9:=p9.next
  have b5: ∀k,k<Z.next->cZ vr k:=λk hk id o m c e e2=>by have:=(ow.in _ _ _ _ e).2.1;omega
  have d1:h9.get D=some (.cells false [aC n,vO,vR,vr]):=by rw[p9.old _ om (b5 _ om),a2 _ om];exact s
  have pt: ∀(t:H) (x:V),dR (some (.cells false [aC n,vO,vR,vr])) t D 3 [x]=some (t.set D (some (.cells false [aC n,vO,vR,x]))):=λt x=>bP (by simp) t _ x
  simp(disch:=omega)only[go_sem,a9,d1,pt]
  rw[dU i]
  have er:ints (Y i)++ [aC j]=ints (Y (i+1)):=by
   rw[a1];simp only;rw[dE [] om,List.map_append,List.map_singleton,hj];simp [zi,ints]
  have pg:=p9.get
  have po:=p9.own (b:=Z.next) (by rw[aP];omega) rfl om
  rw[er] at pg po
  refine⟨m-(i+1),om,i+1,_,aB rfl,om,rfl,po.mono (eH _) λq o m c e _ h1=>H.aH _ (by cases e;omega) _,λ_=>⟨_,rfl,(H.aH _ om _).trans pg,by show h8.next<h9.next;omega,om⟩,⟨by show Z.next<=h9.next;omega,λq h1 h2=>?_⟩,rfl⟩
  rw[H.aH _ h2,p9.old q om (b5 q h1),a2 q om]
  exact F6.get q h1 h2
 rintro c0 l ⟨S,⟨g,rfl⟩,s,gS,s1,s2,F6⟩
 have n6:=F6.next
 simp(disch:=omega)only[go_sem,H.aF s]
 have b3:=rl m (eH _)
 refine Ev.mono (Q:=λ_ h'=> ∃l',h'.get S=some (.cells false (ints l'))/\l'.Perm (Y m)/\l'.Pairwise (· <= ·)/\Fx (· =S) l h') (by have:=Ma l S (Y m) (.un 1) om gS s1;rwa [b3] at this) ?_
 rintro _ p ⟨l',d6,pm,so,F7⟩
 have a5:p.get D=some (.cells false [aC n,vO,vR,.sl S 0 m (.un 1)]):=by rw[F7.get D om om];exact s
 obtain⟨r,rfl,rk⟩:=aiI E0 E le (by rw[a1] at pm;simp only[←hm,List.take_length] at pm;exact pm) so
 have c7:(zi r).length=m:=by rw[pm.length_eq,b3]
 have c6:=F7.next
 have d7:p.get (A+1)=some (.cells false [aC 0,.aE,.aE,.aE]):=by rw[F7.get _ om om,F6.get _ om om,a4.get _ om,f3.get _ om];exact g2
 obtain⟨h8,e8,n8,g8,o8⟩:=mD p (A+1) [aC n,vO,vR,.sl S 0 m (.un 1)]
 simp(disch:=omega)only[go_sem,iI a5,kZ p (A+1) 0 (a:= aC n) (b:=vO) (c:=vR) (d:= .sl S 0 m (.un 1)) rfl y F rfl,d7,kA,e8,iI g8]
 refine⟨vO,vR,_,r,rfl,rfl,SV.all (by rw[aP,c7,uH]) om (by rw[o8 S om];exact d6) _,rk,λ(e:S<A)=>by have:=a7.next;omega,⟨om,λq hq=>?_⟩⟩
 rw[o8 q om,F7.get q om om,F6.get q om om,a4.get q om]
 exact a7.get q hq
end
def Tn (n:Nat)(G K:List Nat->Prop)(x:List Nat):List Nat->Prop:=NC n (λa=>K a∨a=x) G
def RG (L:LN)(r:List Nat)(x:List Nat):Prop:= ∃i,i∈r/\L.getD i []=x
section
variable {n:Nat} {G K K':List Nat->Prop} {O O':LN} {R R':fM} {x y:List Nat} {L:LN} {r r':List Nat}
theorem Tn.dH (c:iJ n G)(le: ∀x,K x->G x)(d:G x):iJ n (Tn n G K x):=
 NC.dH (λa h=>c.cX (h.elim (le a) λe=>by rw[e];exact d)) λb h=>c.cX h
theorem Tn.le (c:iJ n G)(le: ∀x,K x->G x)(f:G x)(h:Tn n G K x y):G y:=
 NC.le h c (λa h=>h.elim (le a) λe=>by rw[e];exact f) λy b g d=>c.mul (c.mul (c.inv d) g) d
theorem aaF (i:iJ n G)(c:aZ n G O R)(o:iJ n K)(d:aZ n K O' R')(le: ∀x,K x->G x)(l:G x)(y:List Nat):NC n (· ∈bM R'++ [x]) (· ∈bM R) y↔Tn n G K x y:=by
 have q: ∀a,a∈bM R'++ [x]->bC n a:=λa j=>(kT.1 j).elim (λh=>o.cX (bY d h)) λh=>by rw[List.mem_singleton.1 h];exact i.cX l
 have m: ∀b,b∈bM R->bC n b:=λb h=>i.cX (bY c h)
 constructor
 ·intro h
  exact NC.le h (Tn.dH i le l) (λa j=>(kT.1 j).elim (λh=>NC.of (.inl (bY d h))) λh=>NC.of (.inr (List.mem_singleton.1 h))) λy b f e=>NC.cj f (bY c e)
 ·intro h
  have k:=NC.dH q m;refine NC.le h k ?_ λy b f e=>BF k m (λy b f e=>NC.cj f e) (lF i c e) y f
  rintro a (h|rfl)
  ·exact cG.le k (λg p=>NC.of (kT.2 (.inl p))) (lF o d h)
  ·exact NC.of (kT.2 (.inr (List.mem_singleton.2 rfl)))
theorem Tn.iff (e: ∀x,K x↔K' x)(y:List Nat):Tn n G K x y↔Tn n G K' x y:=by
 have:K=K':=funext λx=>propext (e x)
 rw[this]
theorem Rk.uniq (a:Rk L K r)(b:Rk L K r'):r=r':=xC a.asc b.asc λi=>(a.mem i).trans (b.mem i).symm
theorem Rk.iff (E:dZ G L)(le: ∀x,K x->G x)(a:Rk L K r)(x:List Nat):K x↔RG L r x:=by
 constructor
 ·intro h
  obtain⟨i,hi,rfl⟩:=wV.1 ((E.mem x).2 (le x h));have e:L.getD i []=L[i]:=by rw[List.getD,dF hi];rfl
  exact⟨i,(a.mem i).2 ⟨hi,by rw[e];exact h⟩,e⟩
 ·rintro⟨i,hi,rfl⟩
  exact ((a.mem i).1 hi).2
theorem Rk.self (a:Rk L K r)(E:dZ G L):Rk L (RG L r) r:=⟨a.asc,λi=>⟨λh=>⟨((a.mem i).1 h).1,i,h,rfl⟩,λ⟨hi,j,hj,e⟩=>by
 have b:=((a.mem j).1 hj).1;rw[List.getD,dF b,List.getD,dF hi] at e;have:j=i:=(List.getElem_inj E.nodup).1 e
 rw[←this];exact hj⟩⟩
theorem Rk.len (g:iJ n K)(d:aZ n K O' R')(E:dZ G L)(le: ∀x,K x->G x)(a:Rk L K r):r.length=fV O' n 0:=by
 obtain⟨F,e⟩:=dL g d;rw[←e]
 have p:(r.map λi=>L.getD i []).Perm (dG O' R' n 0 (bT n)):=by
  refine (List.perm_ext_iff_of_nodup ?_ F.nodup).2 λx=>?_
  ·refine List.pairwise_map.2 (List.Pairwise.imp_of_mem (λ{i j} hi c (ne:i<j) e=>?_) a.asc)
   have b:=((a.mem i).1 hi).1;have f:=((a.mem j).1 c).1;rw[List.getD,dF b,List.getD,dF f] at e;have:=(List.getElem_inj E.nodup).1 e;omega
  ·rw[F.mem,a.iff E le,vF]
   rfl
 have:=p.length_eq;rwa [iN] at this
end
open Classical in
noncomputable def Xj (L:LN)(K:List Nat->Prop):List Nat:=(List.range L.length).filter λi=>decide (K (L.getD i []))
open Classical in
theorem Jv (L:LN)(K:List Nat->Prop):Rk L K (Xj L K):=⟨List.pairwise_lt_range.filter _,λi=>by
 unfold Xj
 rw[GI,Lk,Ss]⟩
noncomputable def Ls (n:Nat)(G:List Nat->Prop)(L:LN)(r:List Nat)(i:Nat):List Nat:=Xj L (Tn n G (RG L r) (L.getD i []))
def Po (l:LN)(a:List Nat):LN:=if a∈l then l else l++ [a]
noncomputable def fdF (n:Nat)(G:List Nat->Prop)(L:LN)(r:List Nat)(K:List Nat):LN:=K.foldl (λl i=>if i∈r then l else Po l (Ls n G L r i)) []
def Zk (l:LN)(a:List Nat):Bool:=l.any λb=>decide (b.length<a.length)&&b.all λi=>decide (i∈a)
def UJ (l:LN):LN:=l.filter λa=>!Zk l a
def Qp:List Nat->List Nat->Bool
 | [], []=>false
 | [],_::_=>true
 |_::_, []=>false
 |a::l,b::m=>if a=b then Qp l m else decide (a<b)
def YF:LN->List Nat
 | []=> []
 |a::l=>l.foldl (λm x=>if Qp x m then x else m) a
noncomputable def Ql (n:Nat)(G:List Nat->Prop)(L:LN)(K:List Nat)(r:List Nat):List Nat:=YF (UJ (fdF n G L r K))
theorem SN {l:LN}{a x:List Nat}:x∈Po l a↔x∈l∨x=a:=by
 unfold Po;split
 ·rename_i h
  exact⟨.inl,λk=>k.elim id λe=>by rw[e];exact h⟩
 ·simp
theorem Ww {n:Nat}{G:List Nat->Prop}{L:LN}{r K:List Nat}{x:List Nat}:x∈fdF n G L r K↔ ∃i,i∈K/\i∉r/\x=Ls n G L r i:=by
 have d: ∀(K:List Nat) (l:LN),x∈K.foldl (λl i=>if i∈r then l else Po l (Ls n G L r i)) l↔x∈l∨ ∃i,i∈K/\i∉r/\x=Ls n G L r i:=by
  intro K
  induction K with
  |nil=>intro l;simp
  |cons k K ih=>
   intro l;rw[List.foldl_cons,ih];split
   ·rename_i h
    refine or_congr_right ⟨λ⟨i,a,b,c⟩=>⟨i,Cu _ a,b,c⟩,λ⟨i,a,b,c⟩=>?_⟩;rcases Gr.1 a with rfl|a
    ·exact absurd h b
    ·exact⟨i,a,b,c⟩
   ·rename_i h
    rw[SN,or_assoc];refine or_congr_right ⟨?_,λ⟨i,a,b,c⟩=>?_⟩
    ·rintro (e|⟨i,a,b,c⟩)
     ·exact⟨k,Co,h,e⟩
     ·exact⟨i,Cu _ a,b,c⟩
    ·rcases Gr.1 a with rfl|a
     ·exact .inl c
     ·exact .inr ⟨i,a,b,c⟩
 exact (d K []).trans (by simp)
theorem aaQ: ∀{l:LN},l≠ []->YF l∈l
 |a::l,_=>by
  have c: ∀(l:LN) (a:List Nat),l.foldl (λm x=>if Qp x m then x else m) a=a∨l.foldl (λm x=>if Qp x m then x else m) a∈l:=by
   intro l
   induction l with
   |nil=>exact λa=> .inl rfl
   |cons b l ih=>
    intro a;rw[List.foldl_cons];split
    ·exact .inr ((ih b).elim (λe=>by rw[e];exact Co) (Cu _))
    ·exact (ih a).imp id (Cu _)
  show l.foldl _ a∈_;exact (c l a).elim (λe=>by rw[e];exact Co) (Cu _)
theorem SL {l:LN}(h:l≠ []):UJ l≠ []:=by
 have d: ∀(k:Nat) (a:List Nat),a∈l->a.length<=k->UJ l≠ []:=by
  intro k
  induction k with
  |zero=>
   intro a c g e
   have:a∈UJ l:=GI.2 ⟨c,by
    rw[Bool.not_eq_true'];refine List.any_eq_false.2 λb f=>?_
    simp;omega⟩
   rw[e] at this;cases this
  |succ k ih=>
   intro a c g
   by_cases h:Zk l a=true
   ·obtain⟨b,f,i⟩:=List.any_eq_true.1 h
    simp only[vV,Ss] at i;exact ih b f om
   ·intro e
    have:a∈UJ l:=GI.2 ⟨c,by simp [h]⟩;rw[e] at this;cases this
 cases l with
 |nil=>exact absurd rfl h
 |cons a l=>exact d _ a Co (eH _)
theorem OW {W:Nat->Prop}(vc x:V)(n:Nat)(O:LN)(R:fM)(G:List Nat->Prop)(l:LN)(h:H)(c:GC W h vc n O R G)(hl:l.length<=4096)(sl:SP h x l)(hP: ∀g∈l,bC n g):
  Ev T 107 [vc,x] h (λv h'=> ∃vr O2 R2,v= .tup [vr,aC 0]/\GC (λq=>q<h.next) h' vr n O2 R2 (NC n (· ∈l) (· ∈bM R))/\Fr h h'):=by
 obtain⟨Z,Y,rfl,oO,oR⟩:=c.shape
 refine cT uJ rfl ?_
 have n0:=c.n0
 have t:=c.n7
 have hG:=c.dH
 obtain⟨B,hB⟩:=exI h.next
 obtain⟨h1,e1,n1,g1,o1,f1⟩:=cU hB [aC n,Z,Y]
 obtain⟨r,e2,n2,g2,o2,f2⟩:=cU n1 [aC 0,.aE,.aE]
 have F2:=f1.trans f2
 have m: ∀d,Fr r d->d.get B=aY [aC n,Z,Y]:=λd f=>by rw[f.get B om,o2 B om];exact g1
 have gA: ∀d,Fr r d->d.get (B+1)=aY [aC 0,.aE,.aE]:=λd f=>by rw[f.get _ om];exact g2
 simp(disch:=omega)only[go_sem,uJ,aD,aQ h (v:= aC n) (u:=Z) (w:=Y) rfl oO oR,hB,e1,n1,e2,aG (m r (Fr.refl _))]
 refine ((c.mono F2).check).mono ?_
 rintro _ h3 ⟨rfl,F⟩
 simp(disch:=omega)only[go_sem]
 refine bA (λP=>(P rfl).elim) (λ_=>?_)
 simp(disch:=omega)only[go_sem,H.aF (m h3 F)]
 refine (Mb x n l h3 n0 t hl (sl.mono (F2.trans F)) hP).mono ?_
 rintro _ h4 ⟨vm,Om,Rm,rfl,gm,f4⟩
 obtain⟨mO,mR,rfl,y,z⟩:=gm.shape
 obtain⟨M,hM⟩:=exI h4.next
 obtain⟨h5,e5,n5,g5,o5,f5⟩:=cU hM [aC 0,.aE,.aE]
 obtain⟨i,e6,n6,g6,o6⟩:=mD h5 M [aC n,mO,mR]
 simp(disch:=omega)only[go_sem,hM,e5,bI h5 M 0 (v:= aC n) (u:=mO) (w:=mR) rfl y z,g5,bG,e6]
 refine bA (λP=>(P rfl).elim) (λ_=>?_)
 have J:Fr h4 i:=⟨om,λq hq=>by rw[o6 q om,o5 q om]⟩
 have b:=F.trans (f4.trans J)
 have fb: ∀k,i.next<=k->Fr i (H.mk i.tr k):=λk hk=>(Fr.refl i).bH hk
 simp(disch:=omega)only[go_sem,H.aF (m i b),aG (m i b)]
 refine (xZ _ n O R G h _ c (F2.trans (b.trans (fb _ om)))).mono ?_
 rintro va s ⟨wA,U,pA,f7⟩
 have L:=(fb _ om).trans f7
 have a:=b.trans L
 have cB:WU (s.cell B 0) (aC n)=true:=by rw[H.aF (m s a)];simp [WU,dB]
 simp(disch:=omega)only[go_sem]
 refine⟨cB,?_⟩
 have sA:=qZ hG c.isc
 have nn:n*n<=7*7:=Nat.mul_le_mul t t
 have Q:SP s va (bM R):=dW.Xg (W:=λ_=>False) U.sv (aM.mono (λ_ _ p=>⟨p.si.mono (F2.trans a),uD _⟩) pA)
 refine (Sx x va n l (bM R) s n0 t hP (λg hg=>hG.cX (bY c.isc hg)) om om (sl.mono (F2.trans a)) Q).mono ?_
 rintro _ A ⟨D,rfl,hD,bd,f8⟩
 obtain⟨xO,xR,O2,R2,gD,j⟩:=bd.ex
 obtain⟨_,K,N⟩:=j.one
 have o:=a.trans f8
 obtain⟨h9,e9,n9,g9,o9⟩:=mD A (B+1) [aC n,xO,xR]
 simp(disch:=omega)only[go_sem,aG gD,bI A (B+1) 0 (v:= aC n) (u:=xO) (w:=xR) rfl K N,gA A o,bG,e9,aG g9]
 have q2:=a.next
 have q8:=f8.next
 refine⟨_,O2,R2,rfl,?_,⟨om,λq hq=>by rw[o9 q om,o.get q om];exact F2.get q hq⟩⟩
 exact j.go ⟨om,λq h1 r=>o9 q λe=>r (.inl om)⟩ λq _ h=> .inl om
structure Nm (W:Nat->Prop)(n:Nat)(L:LN)(h:H)(p:V×V×V)(r:List Nat):Prop where
 ch: ∃O R,GC W h (.agg [aC n,p.1,p.2.1]) n O R (RG L r)
 si:SI h p.2.2 (zi r)
 off:Mf W p.2.2
 rk:Rk L (RG L r) r
abbrev CP (n:Nat)(p:V×V×V):V:= .agg [aC n,p.1,p.2.1,p.2.2]
section
variable {W W':Nat->Prop} {n:Nat} {L:LN} {h h':H} {p:V×V×V} {r:List Nat}
theorem Nm.go (m:Nm W n L h p r)(f:Fx W h h')(a: ∀q,q<h.next->W' q->W q):Nm W' n L h' p r:=by
 obtain⟨O,R,g⟩:=m.ch;exact⟨⟨O,R,g.go f a⟩,SV.fx m.si m.off f,Mf.iP m.off m.si a,m.rk⟩
theorem Nm.mono (m:Nm W n L h p r)(f:Fr h h'):Nm W n L h' p r:=m.go (Fx.of f) λ_ _ h=>h
theorem Nm.one (m:Nm W n L h p r):p.1.one=true/\p.2.1.one=true/\p.2.2.one=true:=by
 obtain⟨O,R,g⟩:=m.ch;exact⟨g.one.2.1,g.one.2.2,(SV.cF m.si).2.1⟩
theorem Nm.eq (m:Nm W n L h p r):dB p.1 p.1=true/\dB p.2.1 p.2.1=true/\dB p.2.2 p.2.2=true:=by
 obtain⟨O,R,g⟩:=m.ch;obtain⟨_,_,_,_,e,b,_,_,a,_,_⟩:=g.cw;simp only[V.agg.injEq,List.cons.injEq,and_true,true_and] at e;rw[e.1,e.2];exact⟨SV.dB b,SV.dB a,SV.dB m.si⟩
theorem afK {h h':H}(f:Fr h h'){id off k:Nat}(a:id<h.next):h'.row id off k=h.row id off k:=by
 unfold H.row;rw[f.get id a]
theorem Rk.short (m:Rk L (RG L r) r):r.length<=L.length:=by
 have:=List.Nodup.length_le_of_subset (l₂:=List.range L.length) (m.asc.imp λh=>Nat.ne_of_lt h) λi hi=>Lk.2 ((m.mem i).1 hi).1
 rwa [YI] at this
end
theorem YE.few {n:Nat}{O:LN}{R:fM}{G:List Nat->Prop}{L:LN}{K:List Nat}{h:H}{p:Nat}(l:YE n O R G L K h p):L.length<=5040/\dZ G L/\iJ n G/\aZ n G O R/\1<=n/\n<=7:=by
 obtain⟨f,b,M,i,g,c,a,sp,d⟩:=l.ex;obtain⟨E,e⟩:=dL a.dH a.isc;rw[l.hL] at E e;exact⟨by rw[e];exact fK a,E,a.dH,a.isc,a.n0,a.n7⟩
theorem jJ (h:H){a b c d:V}(g:a.one=true)(e:b.one=true)(f:c.one=true)(i:d.one=true):En h (.agg [a,b,c,d])=some (.ptr h.next 0,h.new (.cells false [a,b,c,d])):=tJ h _ (by simp [g,e,f,i])
theorem ZD {W:Nat->Prop}(f:Nat)(p:V×V×V)(u:V)(n:Nat)(O:LN)(R:fM)(G:List Nat->Prop)(L:LN)(K r:List Nat)(i:Nat)(h:H)(Il:YE n O R G L K h f)(g:Nm W n L h p r)(hi:i<L.length)(y:SI h u (zi (L.getD i []))):
  Ev T 48 [.ptr f 0,CP n p,u] h (λv h'=>v= .bool (decide (i∈r))/\Fr h h'):=by
 obtain⟨o1,Z,o3⟩:=g.one
 obtain⟨ll,E,hG,a0,n0,n7⟩:=Il.few
 obtain⟨Y,N,M,Q,gT,gM,gc,_,nM⟩:=Il.ex
 have nT:=Il.nx
 have rl:=g.rk.short
 refine cT qT rfl ?_
 obtain⟨B,A⟩:=exI h.next
 obtain⟨m,e1,n1,J,q1,j⟩:=cU A [aC n,p.1,p.2.1,p.2.2]
 have P:=mV hG E hi
 have U:(L.getD i []).length<=1000:=by rw[P.len];omega
 have F: ∀x∈L.getD i [],x<256:=λx y=>by have:=P.lt x y;omega
 have l:m.get f=some (.cells false [aC n,Y,N,.mp M,Q]):=by rw[j.get f nT];exact gT
 simp(disch:=omega)only[go_sem,qT,aD,jJ h (a:= aC n) (b:=p.1) (c:=p.2.1) (d:=p.2.2) rfl o1 Z o3,A,e1,H.aF J,H.aF l]
 refine (Ow u (L.getD i []) _ U F (y.mono (j.trans ((Fr.refl m).bH om)))).mono ?_
 rintro _ o ⟨rfl,f2⟩
 have e:=((Fr.refl m).bH (n:=m.next+15) om).trans f2
 have w:o.get B=some (.cells false [aC n,p.1,p.2.1,p.2.2]):=by rw[e.get B om];exact J
 have q:o.get f=some (.cells false [aC n,Y,N,.mp M,Q]):=by rw[e.get f om];exact l
 have s:o.get M=some (.wmap .str (Is L L.length)):=by rw[(j.trans e).get M nM];exact gM
 have lk:=λz=>Pn E.nodup hi (yF U F) z
 have t:dB p.2.2 p.2.2=true:=SV.dB g.si
 simp(disch:=omega)only[go_sem,H.aF w,H.aF q,s,lk,t,show dB (.mp M) (.mp M)=true from by simp [dB]]
 refine (Ea p.2.2 r i o om g.rk.asc (g.si.mono (j.trans e))).mono ?_
 rintro _ h3 ⟨k,b,rfl,hb,_,f3⟩
 simp(disch:=omega)only[go_sem]
 refine⟨?_,j.trans (e.trans f3)⟩
 congr 1
 exact Qk.2 (hb.trans Ss.symm)
theorem aaO (t:Nat)(n:Nat)(O:LN)(R:fM)(G:List Nat->Prop)(L:LN)(K:List Nat)(h:H)(Il:YE n O R G L K h t):
  Ev T 47 [.ptr t 0] h (λv h'=> ∃p,v=CP n p/\Nm (λq=>q<h.next) n L h' p (Xj L λx=>x=bT n)/\Fr h h'):=by
 obtain⟨ll,E,hG,a2,n0,n7⟩:=Il.few
 obtain⟨lO,lR,M,lr,gT,gM,gc,_,nM⟩:=Il.ex
 have nT:=Il.nx
 refine cT nG rfl ?_
 obtain⟨B,hB⟩:=exI h.next
 obtain⟨l,z,n1,g1,q1,f1⟩:=cU hB [aC 0,.aE,.aE,.aE]
 have a0:l.get t=some (.cells false [aC n,lO,lR,.mp M,lr]):=by rw[f1.get t nT];exact gT
 simp(disch:=omega)only[go_sem,nG,aD,hB,z,H.aF a0]
 refine (Mb .aE n [] l n0 n7 (by show 0<=4096;omega) ⟨[],SV.aE l 1,trivial⟩ (λg hg=>by cases hg)).mono ?_
 rintro _ N ⟨vm,Om,Rm,rfl,P,j⟩
 obtain⟨m,k,rfl,o,s⟩:=P.shape
 obtain⟨A,hA⟩:=exI N.next
 obtain⟨h3,e3,n3,g3,o3,f3⟩:=cU hA [aC 0,.aE,.aE]
 obtain⟨h4,e4,n4,g4,o4⟩:=mD h3 A [aC n,m,k]
 have f:Fr N h4:=⟨om,λq hq=>by rw[o4 q om,o3 q om]⟩
 simp(disch:=omega)only[go_sem,hA,e3,bI h3 A 0 (v:= aC n) (u:=m) (w:=k) rfl o s,g3,bG,e4,aG g4]
 have z: ∀x,cG n (· ∈([]:LN)) x↔x=bT n:=λx=>⟨λh=>by
  have e: ∀g,g∈([]:LN)->g=bT n:=λg hg=>by cases hg
  have r:=cG.le (Uo n) e h
  exact r,λh=>by rw[h];exact .one⟩
 have F:=f1.trans (j.trans f)
 refine (RC t _ n O Om R Rm G _ L K h4 (Il.mono F) (((P.iP (W':=λ_=>False) λ_ _ h=>h.elim).mono f).congr z) (λx Y=>by rw[Y];exact hG.one)).mono ?_
 rintro _ J ⟨vO,vR,vr,r,e5,rfl,sr,Q,U,y⟩
 obtain⟨rfl,rfl⟩:m=vO/\k=vR:=by simpa using e5
 obtain rfl:=Q.uniq (Jv _ _)
 have oR:=(SV.cF sr).2.1
 have gB:J.get B=some (.cells false [aC 0,.aE,.aE,.aE]):=by rw[y.get B (by have:=j.next;omega),f.get B (by have:=j.next;omega),j.get B om];exact g1
 obtain⟨h6,e6,n6,g6,o6⟩:=mD J B [aC n,m,k,vr]
 simp(disch:=omega)only[go_sem,kZ J B 0 (a:= aC n) (b:=m) (c:=k) (d:=vr) rfl o s oR,gB,kA,e6,iI g6]
 have a1:=j.next
 have a3:=y.next
 have Fb:Fx (· =B) J h6:=⟨om,λq l N=>o6 q N⟩
 have Z:=((((P.mono f).mono y).go (Fx.wide Fb λq (e:q=B)=>(by omega:q<l.next)) (W':=λq=>q<B) λq _ h=>(by have:q<B:=h;omega:q<l.next)).congr z).congr (Q.iff E λx Y=>by rw[Y];exact hG.one)
 have i:=Mf.iP (W':=λq=>q<B∨q=B) U sr λq _ h=>(by have:q<B∨q=B:=h;omega:q<h4.next)
 refine⟨(m,k,vr),rfl,⟨⟨Om,Rm,Z⟩,SV.fx sr i (Fx.wide Fb λq h=> .inr h),Mf.iP i sr λq _ h=> .inl h,Q.self E⟩,⟨om,λq hq=>by rw[o6 q om,y.get q om,f.get q om,j.get q om];exact f1.get q hq⟩⟩
theorem RB {W:Nat->Prop}(T0:Nat)(p:V×V×V)(vx:V)(n:Nat)(O:LN)(R:fM)(G:List Nat->Prop)(L:LN)(K r:List Nat)(i:Nat)(h:H)(Il:YE n O R G L K h T0)(nm:Nm W n L h p r)(hi:i<L.length)(y:SI h vx (zi (L.getD i []))):
  Ev T 50 [.ptr T0 0,CP n p,vx] h (λv h'=> ∃q,v=CP n q/\Nm (λq=>q<h.next) n L h' q (Ls n G L r i)/\Fr h h'):=by
 obtain⟨o1,o2,o3⟩:=nm.one
 obtain⟨ll,E,hG,b2,n0,n7⟩:=Il.few
 obtain⟨lO,lR,M,lr,gT,gM,gc,_,nM⟩:=Il.ex
 obtain⟨_,oO,oR⟩:=gc.one
 have nT:=Il.nx
 obtain⟨Op,Rp,N⟩:=nm.ch
 refine cT oW rfl ?_
 obtain⟨B,hB⟩:=exI h.next
 obtain⟨h1,e1,n1,g1,q1,f1⟩:=cU hB [aC n,p.1,p.2.1,p.2.2]
 obtain⟨l,e2,n2,g2,q2,f2⟩:=cU n1 [aC 0,.aE,.aE,.aE]
 have F2:=f1.trans f2
 have gB: ∀j,Fr l j->j.get B=some (.cells false [aC n,p.1,p.2.1,p.2.2]):=λj f=>by rw[f.get B om,q2 B om];exact g1
 have gA: ∀j,Fr l j->j.get (B+1)=some (.cells false [aC 0,.aE,.aE,.aE]):=λj f=>by rw[f.get _ om];exact g2
 have a3: ∀j,Fr l j->j.get T0=some (.cells false [aC n,lO,lR,.mp M,lr]):=λj f=>by rw[f.get _ om,F2.get T0 nT];exact gT
 have b4: ∀{j:H} {id:Nat} {a b c d:V},j.get id=some (.cells false [a,b,c,d])->j.row id 0 3=some [a,b,c]:=λhg=>by simp [H.row,hg,sub]
 have a7: ∀{j:H} {id:Nat} {a b c d e:V},j.get id=some (.cells false [a,b,c,d,e])->j.row id 0 3=some [a,b,c]:=λhg=>by simp [H.row,hg,sub]
 simp(disch:=omega)only[go_sem,oW,aD,jJ h (a:= aC n) (b:=p.1) (c:=p.2.1) (d:=p.2.2) rfl o1 o2 o3,hB,e1,n1,e2,b4 (gB l (Fr.refl _))]
 refine (Tp _ n Op Rp _ l (N.mono F2)).mono ?_
 rintro _ k ⟨vs,rfl,nl⟩
 have f3:=nl.fr
 obtain⟨ws,W1,ow,pv,bk,lW⟩:=nl.ex
 have lw:=aM.length pv
 have sl:=qZ N.dH N.isc
 have nn:n*n<=7*7:=Nat.mul_le_mul n7 n7
 have wx:=SV.cF y
 obtain⟨C,hC⟩:=exI k.next
 simp(disch:=omega)only[go_sem,a7 (a3 k f3),bZ (H.mk k.tr (k.next+6)) (z:= .aE) wx.1 wx.2.1]
 obtain⟨h4,e4,n4,g4,o4⟩:=aaH k (k.next+6) (k.next+15) [vx]
 rw[e4]
 have a2:Fr k h4:=⟨om,λq Q=>o4 q om⟩
 obtain⟨F,a5,p5⟩:=((ow.fr a2).le (fR _)).push (bytes:=24) (SV.one om g4 (.kn 1)) (n:=(bM Rp).length) (m:=1) om rfl om om om
 have n5:=p5.next
 have c0:=f3.next
 have vb: ∀id t m c,vs= .sl id t m c->l.next<=id:=λid t m c e=>(ow.in _ _ _ _ e).2.1
 have o:Fr l F:=⟨om,λq Q=>by rw[p5.old q om (λid t m c e e2=>by have:=vb _ _ _ _ e;omega),o4 q om,f3.get q Q]⟩
 have ec:dB lO lO=true/\dB lR lR=true:=by
  obtain⟨_,_,_,_,e,sO,_,_,sR,_,_⟩:=gc.cw;cases e;exact⟨SV.dB sO,SV.dB sR⟩
 simp(disch:=omega)only[go_sem,a5,a7 (a3 F o),ec.1,ec.2]
 have a1:Fx W1 h4 F:=p5.fx λid t m c e=>bk _ _ _ _ e
 have sw:SP F (.sl h4.next 0 ((bM Rp).length+1) (.un 1)) (bM Rp++ [L.getD i []]):=dW.Xg (W:=λ_=>False) (p5.own om rfl (fR _)).sv (aM.append (aM.mono (λ_ _ p=>⟨SV.fx (p.si.mono a2) (W:=W1) p.off a1,uD _⟩) pv) ⟨⟨y.mono (F2.trans o),uD _⟩,trivial⟩)
 have le: ∀x,RG L r x->G x:=λx y=>by
  obtain⟨i,hi,rfl⟩:=y;exact (E.mem _).1 (aW ((nm.rk.mem i).1 hi).1)
 have s:G (L.getD i []):=(E.mem _).1 (aW hi)
 refine (OW _ _ n O R G (bM Rp++ [L.getD i []]) F (gc.mono (F2.trans o)) (by rw[iA];show _+1<=4096;omega) sw (λg hg=>(kT.1 hg).elim (λh=>N.dH.cX (bY N.isc h)) λh=>by rw[List.mem_singleton.1 h];exact hG.cX s)).mono ?_
 rintro _ h6 ⟨vr,O2,R2,rfl,P,f6⟩
 obtain⟨Y,U,rfl,a0,a6⟩:=P.shape
 have n6:=f6.next
 obtain⟨h7,e7,b7,g7,o7⟩:=aaH h6 (k.next+12) h6.next [aC 0,.aE,.aE]
 obtain⟨h8,e8,n8,g8,o8⟩:=mD h7 (k.next+12) [aC n,Y,U]
 simp(disch:=omega)only[go_sem,e7,bI h7 (k.next+12) 0 (v:= aC n) (u:=Y) (w:=U) rfl a0 a6,g7,bG,e8,aG g8]
 have a4:Fr l h8:=⟨om,λq Q=>by rw[o8 q om,o7 q om,f6.get q om,o.get q Q]⟩
 have A:Fx (· =k.next+12) h6 h8:=⟨om,λq h1 l=>by rw[o8 q l,o7 q l]⟩
 have eN:=aaF hG b2 N.dH N.isc le s
 refine (RC T0 _ n O O2 R R2 G _ L K h8 (Il.mono (F2.trans a4)) ((P.go (Fx.wide A λq (e:q=k.next+12)=>(by omega:q<F.next)) (W':=λ_=>False) λ_ _ h=>h.elim).congr eN) (λx y=>Tn.le hG le s y)).mono ?_
 rintro _ h9 ⟨vO,vR,vr,r',e9,rfl,sr,rk,b6,f9⟩
 obtain⟨rfl,rfl⟩:Y=vO/\U=vR:=by simpa using e9
 obtain rfl:=rk.uniq (Jv _ _)
 have b5:=(SV.cF sr).2.1
 have J:=a4.trans f9
 obtain⟨b3,b0,b9,a9,a8⟩:=mD h9 (B+1) [aC n,Y,U,vr]
 simp(disch:=omega)only[go_sem,kZ h9 (B+1) 0 (a:= aC n) (b:=Y) (c:=U) (d:=vr) rfl a0 a6 b5,gA h9 J,kA,b0,iI a9]
 have c1:=J.next
 have b8:=f9.next
 have Fb:Fx (· =B+1) h9 b3:=⟨om,λq h1 l=>a8 q l⟩
 have b1: ∀x,Tn n G (RG L r) (L.getD i []) x->G x:=λx y=>Tn.le hG le s y
 have hw: ∀q,(q<B∨q=B+1)->q<h8.next:=λq Q=>om
 have gq:=((((P.go (Fx.wide A λq (e:q=k.next+12)=>(by omega:q<F.next)) (W':=λq=>q<B∨q=B+1) λq _ h=>(by have:q<B∨q=B+1:=h;omega:q<F.next)).mono f9).go (Fx.wide Fb λq h=> .inr h) (W':=λq=>q<B) λq _ h=> .inl h).congr eN).congr (rk.iff E b1)
 have Z:=Mf.iP (W':=λq=>q<B∨q=B+1) b6 sr λq _ h=>hw q h
 refine⟨(Y,U,vr),rfl,⟨⟨O2,R2,gq⟩,SV.fx sr Z (Fx.wide Fb λq h=> .inr h),Mf.iP Z sr λq _ h=> .inl h,rk.self E⟩,⟨om,λq Q=>by rw[a8 q om,J.get q om];exact F2.get q Q⟩⟩
section
variable {α:Type} {f:α->List V} {k:Nat}
theorem uY (b: ∀x,(f x).length=k): ∀ls:List α,(ls.flatMap f).length=ls.length*k
 | []=>by simp
 |a::l=>by rw[List.flatMap_cons,iA,b,uY b l,List.length_cons,Nat.succ_mul];omega
theorem DR (b: ∀x,(f x).length=k): ∀(ls:List α) (i:Nat) (hi:i<ls.length),((ls.flatMap f).drop (i*k)).take k=f ls[i]
 |a::l,0,_=>by rw[List.flatMap_cons,Nat.zero_mul,List.drop_zero,←b a,List.take_left];rfl
 |a::l,i+1,hi=>by
  have:=DR b l i (by simpa using hi);rw[List.flatMap_cons,show (i+1)*k=(f a).length+i*k from by rw[b,Nat.succ_mul];omega,List.drop_append,List.drop_eq_nil_of_le om,List.nil_append,Nat.add_sub_cancel_left];exact this
theorem SV.rec {h:H}{v:V}(g:0<k)(l: ∀x,(f x).length=k){ls:List α}(s:SV h v k (ls.flatMap f)){i:Nat}(hi:i<ls.length): ∃id off,Sl v k ls.length id off/\h.row id (off+i*k) k=some (f ls[i])/\id<h.next:=by
 have b:=uY l ls;obtain⟨id,off,j,_,_⟩:=s.shape ls.length b g;refine⟨id,off,j,?_⟩;have p:(i+1)*k<=ls.length*k:=Nat.mul_le_mul_right k om;rw[Nat.succ_mul] at p;rcases s with ⟨_,s⟩|⟨d,c,len,r,u,w,rfl,m,q,t,y,n⟩
 ·rw[s] at b
  have:0=ls.length*k:=b;omega
 ·have e:=j.ixa .i64 0 om om
  obtain⟨rfl,rfl⟩:d=id/\c=off:=by
   have a:len=ls.length:=Nat.eq_of_mul_eq_mul_right g (m.symm.trans b);have o:0<len:=om
   simpa [Gu,o] using e
  have a:len=ls.length:=Nat.eq_of_mul_eq_mul_right g (m.symm.trans b);subst a;refine⟨?_,q⟩;unfold H.row;rw[t];simp only[sub];rw[bJ om,←DR l ls i hi,←n,List.drop_take,List.take_take,Nat.min_eq_left om,List.drop_drop]
end
abbrev Ik (n:Nat)(p:V×V×V):List V:= [aC n,p.1,p.2.1,p.2.2]
def zK (n:Nat)(ps:List (V×V×V)):List V:=ps.flatMap (Ik n)
theorem oF (n:Nat)(ps:List (V×V×V)):(zK n ps).length=ps.length*4:=uY (k:=4) (f:=Ik n) (λ_=>rfl) ps
theorem Xf (n:Nat)(a b:List (V×V×V)):zK n (a++b)=zK n a++zK n b:=by unfold zK;rw[List.flatMap_append]
theorem Wz {h:H}{v:V}{n:Nat}{ps:List (V×V×V)}(s:SV h v 4 (zK n ps)){i:Nat}(hi:i<ps.length): ∃id off,Sl v 4 ps.length id off/\h.row id (off+i*4) 4=some [aC n,ps[i].1,ps[i].2.1,ps[i].2.2]/\id<h.next:=SV.rec (k:=4) (f:=Ik n) om (λ_=>rfl) s hi
theorem Zw {h:H}{v:V}{n:Nat}{ps:List (V×V×V)}(s:SV h v 4 (zK n ps)):bF v=some (aC (ps.length:Int)):=by
 unfold bF;rw[SV.len s (n:=ps.length) (oF n ps) om];rfl
theorem HQ (l:V)(F:Nat)(d:List V)(n:Nat)(ps:List (V×V×V))(P:Nat->Bool)(h:H)(sv:SV h l 4 (zK n ps))(x:ps.length<1000000)(w: ∀i (hi:i<ps.length) hh,Fr h hh->Ev T F (CP n ps[i]::d) hh (λv h'=>v= .bool (P i)/\Fr hh h')):
  Ev T 108 [l,.fn F [] d] h (λv h'=> ∃k:Int,v= aC k/\((k= -1/\ ∀i,i<ps.length->P i=false)∨ ∃i,i<ps.length/\k=(i:Int)/\P i=true/\ ∀j,j<i->P j=false)/\Fr h h'):=by
 refine cT eJ rfl ?_
 have t:=Zw sv
 simp(disch:=omega)only[go_sem,eJ,aD,t]
 refine aI (λq a hh=> ∃(i:Nat),(∃g:Nat->V,a= [l,.fn F [] d,g 2,g 3,aC (ps.length:Int),aC i,g 6,g 7])/\i<=ps.length/\(∀j,j<i->P j=false)/\Fr h hh/\q=ps.length-i) ps.length
  ⟨0,aB rfl,fR _,λj p=>om,Fr.refl h,rfl⟩ ?_
 rintro q a hh ⟨i,⟨g,rfl⟩,hi,o,f,rfl⟩
 by_cases c:(i:Int)<(ps.length:Int)
 case neg=>
  have m:=bE c;simp(disch:=omega)only[go_sem,m];exact⟨_,rfl,.inl ⟨rfl,λj p=>o j om⟩,f⟩
 have m:=bN c
 have b:i<ps.length:=om
 obtain⟨id,u,s,row,_⟩:=Wz (sv.mono f) b
 simp(disch:=omega)only[go_sem,m,s.ixa,row]
 refine (w i b hh f).mono ?_
 rintro _ y ⟨rfl,r⟩
 cases hP:P i with
 |true=>
  simp(disch:=omega)only[go_sem];exact⟨_,rfl,.inr ⟨i,b,rfl,hP,o⟩,f.trans r⟩
 |false=>
  simp(disch:=omega)only[go_sem];rw[dU i]
  exact⟨ps.length-(i+1),om,i+1,aB rfl,om,λj p=>by
   by_cases e:j=i
   ·rw[e];exact hP
   ·exact o j om,f.trans r,rfl⟩
theorem GZ (a:V)(F:Nat)(c:List V)(n:Nat)(ps:List (V×V×V))(P:Nat->Bool)(h:H)(sv:SV h a 4 (zK n ps))(d:ps.length<1000000)(j: ∀i (hi:i<ps.length) hh,Fr h hh->Ev T F (CP n ps[i]::c) hh (λv h'=>v= .bool (P i)/\Fr hh h')):
  Ev T 54 [a,.fn F [] c] h (λv h'=>(∃b,v= .bool b/\(b=true↔ ∃i,i<ps.length/\P i=true))/\Fr h h'):=by
 refine cT dT rfl ?_
 simp(disch:=omega)only[go_sem,dT,aD]
 refine (HQ a F c n ps P h sv d j).mono ?_
 rintro _ o ⟨k,rfl,l,f⟩
 simp(disch:=omega)only[go_sem]
 refine⟨⟨_,rfl,?_⟩,f⟩
 rcases l with ⟨rfl,m⟩|⟨i,hi,rfl,g,_⟩
 ·refine⟨λh=>by simp at h,λ⟨i,hi,e⟩=>by rw[m i hi] at e;cases e⟩
 ·exact⟨λ_=>⟨i,hi,g⟩,λ_=>bN om⟩
theorem aiQ {a b:List Nat}:(zi a=zi b)=(a=b):=propext ⟨Vf,λh=>by rw[h]⟩
theorem ahB (h:H){a b c d:V}(i:a.one=true)(f:b.one=true)(g:c.one=true)(j:d.one=true):mH h 4 [aC 0,.aE,.aE,.aE] 1 [(0,4,.agg [a,b,c,d])]=some (.sl h.next 0 1 (.kn 1),h.new (.cells false [a,b,c,d])):=by
 have e:dC [aC 0,.aE,.aE,.aE] (1*4)= [aC 0,.aE,.aE,.aE]:=rfl;simp [mH,gZ,e,putAt,V.cells,i,f,g,j]
structure NmL (W:Nat->Prop)(n:Nat)(L:LN)(b:Nat)(h:H)(v:V)(rs:LN):Prop where
 ex: ∃ps,cQ h v 4 (zK n ps) b/\aM (Nm (λq=>W q∨dD v q) n L h) ps rs/\ ∀id off m c,v= .sl id off m c->h.get id=some (.cells false (zK n ps))
theorem NmL.mono {W:Nat->Prop}{n:Nat}{L:LN}{b:Nat}{h h':H}{v:V}{rs:LN}(m:NmL W n L b h v rs)(f:Fr h h'):NmL W n L b h' v rs:=by
 obtain⟨i,o,a,e⟩:=m.ex;exact⟨i,o.fr f,aM.mono (λ_ _ x=>Nm.mono x f) a,λid g m c d=>by rw[f.get id (o.in _ _ _ _ d).1];exact e _ _ _ _ d⟩
theorem abO {W:Nat->Prop}(n:Nat)(L:LN)(b Q:Nat)(j:V)(rs:LN)(p:V×V×V)(r:List Nat)(h:H)(m:NmL W n L b h j rs)(hb:b<=h.next)(R:Nm (λq=>W q∨dD j q) n L h p r)(hQ:h.get Q=some (.cells false [j]))(J:Q<h.next)(Z: ¬dD j Q)(a6:W Q)(hL:L.length<=5040)(hl:rs.length<1000000):
  Ev T 49 [.ptr Q 0,CP n p] h (λv h'=>v= .tup []/\ ∃vl',h'.get Q=some (.cells false [vl'])/\NmL W n L b h' vl' (Po rs r)/\Fx (λq=>q=Q∨dD j q) h h'/\ ∀q,dD vl' q->dD j q∨h.next<=q):=by
 obtain⟨l,ow,al,_⟩:=m.ex
 obtain⟨o1,o2,o3⟩:=R.one
 have lp:=aM.length al
 refine cT uS rfl ?_
 obtain⟨B,hB⟩:=exI h.next
 obtain⟨A,e1,n1,g1,q1,N⟩:=cU hB [aC n,p.1,p.2.1,p.2.2]
 have a7:A.get Q=some (.cells false [j]):=by rw[N.get Q J];exact hQ
 simp(disch:=omega)only[go_sem,uS,aD,jJ h (a:= aC n) (b:=p.1) (c:=p.2.1) (d:=p.2.2) rfl o1 o2 o3,hB,e1,H.aF a7]
 have rl:=R.rk.short
 refine (GZ j 104 [.ptr B 0] n l (λi=>decide (rs.getD i []=r)) A (ow.sv.mono N) om λi hi s f=>?_).mono ?_
 ·have mi:=aM.get al i hi om
  obtain⟨a1,a2,a3⟩:=mi.one
  have ri:=mi.rk.short
  have gB:s.get B=some (.cells false [aC n,p.1,p.2.1,p.2.2]):=by rw[f.get B om];exact g1
  refine cT sH rfl ?_
  obtain⟨C,hC⟩:=exI s.next
  obtain⟨g,F,n2,g2,q2,t⟩:=cU hC [aC n,l[i].1,l[i].2.1,l[i].2.2]
  have a8:g.get B=some (.cells false [aC n,p.1,p.2.1,p.2.2]):=by rw[t.get B (by have:=f.next;omega)];exact gB
  simp(disch:=omega)only[go_sem,sH,aD,jJ s (a:= aC n) (b:=l[i].1) (c:=l[i].2.1) (d:=l[i].2.2) rfl a1 a2 a3,hC,F,H.aF g2,H.aF a8]
  refine (AD _ _ (zi rs[i]) (zi r) g (mi.si.mono (N.trans (f.trans t))) (R.si.mono (N.trans (f.trans t))) (by rw[aN];omega) (by rw[aN];omega)).mono ?_
  rintro _ P ⟨rfl,f3⟩
  simp(disch:=omega)only[go_sem]
  refine⟨?_,t.trans f3⟩
  congr 1
  rw[decide_eq_decide,aiQ,List.getD,dF om]
  rfl
 rintro _ g ⟨⟨c,rfl,hc⟩,t⟩
 have F2:=N.trans t
 have G:c=true↔r∈rs:=by
  rw[hc];constructor
  ·rintro⟨i,hi,e⟩
   rw[←of_decide_eq_true e];exact aW om
  ·intro hr
   obtain⟨i,hi,rfl⟩:=wV.1 hr;exact⟨i,om,bN (by rw[List.getD,dF hi];rfl)⟩
 have y:g.get Q=some (.cells false [j]):=by rw[F2.get Q J];exact hQ
 cases c with
 |true=>
  simp(disch:=omega)only[go_sem];refine⟨rfl,j,y,?_,Fx.of F2,λq h=> .inl h⟩;unfold Po;rw[bJ (G.1 rfl)];exact m.mono F2
 |false=>
  have hn:r∉rs:=λh=>by have:=G.2 h;cases this
  have r4:g.row B 0 4=some [aC n,p.1,p.2.1,p.2.2]:=iI (by rw[t.get B om];exact g1);obtain⟨P,e3,n3,g3,q3⟩:=aaH g (g.next+6) (g.next+11) [aC n,p.1,p.2.1,p.2.2]
  have Y:Fr g P:=⟨om,λq hq=>q3 q om⟩
  obtain⟨U,a4,K⟩:=((ow.fr (F2.trans Y)).le (fR _)).push (bytes:=80) (SV.all (sz:=4) (len:=1) (vs:=Ik n p) rfl om g3 (.kn 1)) (n:=l.length) (m:=1) (oF n l) rfl om om om;have n4:=K.next;have a9:=F2.next;have vb: ∀id k m c,j= .sl id k m c->b<=id/\id<h.next:=λid k m c e=>by have:=ow.in _ _ _ _ e;omega
  have a5:cZ j Q:=λid k m c e F=>Z (by rw[e,F];exact⟨_,_,_,rfl⟩)
  have a0:U.get Q=some (.cells false [j]):=by rw[K.old Q om a5,q3 Q om];exact y
  have pt: ∀(s:H) (u w:V),dR (some (.cells false [u])) s Q 0 [w]=some (s.set Q (some (.cells false [w]))):=λs u w=>bP (by simp) s _ _
  simp(disch:=omega)only[go_sem,H.aF y,r4,ahB (H.mk g.tr (g.next+6)) (a:= aC n) (b:=p.1) (c:=p.2.1) (d:=p.2.2) rfl o1 o2 o3,e3,a4,a0,pt];obtain⟨O,z⟩:=exI (U.set Q (some (Ob.cells false [V.sl P.next 0 (l.length+1) (pF.un 4)])));rw[z];have n5:O.next=U.next:=by rw[←z];rfl
  have o5: ∀q,q≠Q->O.get q=U.get q:=λq hq=>by rw[←z];exact H.aH _ hq _
  have fx:Fx (λq=>q=Q∨dD j q) h O:=⟨om,λq A g=>by
   rw[o5 q λe=>g (.inl e),K.old q om (λid k m c e F=>g (.inr (by rw[e,F];exact⟨_,_,_,rfl⟩))),q3 q om,F2.get q A]⟩
  have fw:Fx (λq=>W q∨dD j q) h O:=Fx.wide fx λq h=>h.imp (λe=>by rw[e];exact a6) id
  have wk: ∀q,q<h.next->(W q∨dD (V.sl P.next 0 (l.length+1) (pF.un 4)) q)->(W q∨dD j q):=λq A g=>g.elim .inl λ⟨k,m,c,e⟩=>by cases e;omega
  refine⟨rfl,_,rfl,?_,fx,λq ⟨k,m,c,e⟩=> .inr (by cases e;omega)⟩;unfold Po;rw[bL hn];refine⟨l++ [p],?_,aM.append (aM.mono (λ_ _ x=>Nm.go x fw wk) al) ⟨R.go fw wk,trivial⟩,λid k m c e=>?_⟩
  rotate_left
  ·cases e
   rw[o5 _ om,Xf];exact K.get
  rw[Xf];exact (K.own (oF n l) rfl om).mono om λq o m c e _ A=>o5 q (by cases e;omega)
theorem KU (u:V)(ws:List V)(m:Nat)(h:H)(a:ws.length=m*4)(w:0<m)(g:m<1000000)(c:SV h u 4 ws):
  Ev T 52 [u] h (λv h'=> ∃id cap rest,v= .sl id 0 m cap/\(cap= .un 4∨cap= .kn m/\rest= [])/\h.next<=id/\id<h'.next/\h'.get id=some (.cells false (ws++rest))/\Fr h h'):=by
 refine cT fH rfl ?_
 have q:Fj false u=some (.bool false):=by
  rcases c with ⟨_,rfl⟩|⟨id,p,len,cap,x,y,rfl,t⟩
  ·simp at a;omega
  ·rfl
 have d:Fr h (h.new (.cells false [])):=(Fr.refl h).new _
 have r:cQ (h.new (.cells false [])) (.sl h.next 0 0 (.kn 0)) 4 [] h.next:=cQ.new h 4 0 _ [] rfl (eH _)
 obtain⟨z,t,j,A⟩:=r.app (bytes:=80) (by rw[H.aU];omega) (c.mono d) (n:=0) (m:=m) rfl a om om
 have l:mH h 4 [aC 0,.aE,.aE,.aE] 0 []=some (.sl h.next 0 0 (.kn 0),h.new (.cells false [])):=rfl
 simp(disch:=omega)only[go_sem,fH,aD,q,l,j]
 have fr:=A.fr _ d (eH _)
 rcases A.own with ⟨_,e⟩|⟨id,k,cap,rest,rfl,b,o,s,i,f⟩
 ·rw[List.nil_append] at e
  rw[e] at a
  simp at a;omega
 ·rw[List.nil_append] at b f
  obtain rfl:k=m:=Nat.eq_of_mul_eq_mul_right (by omega:0<4) (b.symm.trans a)
  exact⟨id,cap,rest,rfl,o,s,i,f,fr⟩
def nE {α:Type}(P:Nat->Bool)(l:List α):List α:=l.zipIdx.filterMap λx=>if P x.2 then none else some x.1
section
variable {α β:Type} {P:Nat->Bool}
theorem LD (l:List α)(a:α):nE P (l++ [a])=nE P l++if P l.length then [] else [a]:=by
 unfold nE;rw[List.zipIdx_append,List.filterMap_append];congr 1;simp only[List.zipIdx_singleton,Nat.zero_add,List.filterMap_cons,List.filterMap_nil];split
 ·rename_i h
  split at h
  ·rename_i c;rw[bJ c]
  ·cases h
 ·rename_i b h
  split at h
  ·cases h
  ·rename_i c
   cases h;rw[bL c]
theorem pX {l:List α}{i:Nat}(hi:i<l.length):nE P (l.take (i+1))=nE P (l.take i)++if P i then [] else [l[i]]:=by
 rw[List.take_succ_eq_append_getElem hi,LD,Cq,Nat.min_eq_left om]
theorem Jk {l:List α}: ∀{i:Nat},i<=l.length->(∀j,j<i->P j=false)->nE P (l.take i)=l.take i
 |0,_,_=>rfl
 |i+1,hi,h=>by
  rw[pX om,Jk om λj a=>h j om,bL (by rw[h i om];exact Bool.false_ne_true),List.take_succ_eq_append_getElem om]
theorem EW {R:α->β->Prop}{l:List α}{m:List β}(a:aM R l m):aM R (nE P l) (nE P m):=by
 have c:=aM.length a
 have b: ∀i,i<=l.length->aM R (nE P (l.take i)) (nE P (m.take i)):=by
  intro i
  induction i with
  |zero=>exact λ_=>trivial
  |succ i ih=>
   intro hi;rw[pX om,pX om];refine aM.append (ih om) ?_;split
   ·trivial
   ·exact⟨aM.get a i om om,trivial⟩
 have:=b l.length (eH _);rwa [List.take_length,c,List.take_length] at this
end
section
variable {rest:List V} {k:Nat}
def XH (h:H)(sz:Nat)(zero:List V):V->Option (V×H)
 | .aE=>some (V.undef,h)
 | .emp _=>some (V.undef,h)
 | .sl id off len _=>if len=0 then some (V.undef,h) else
   if zero.length=sz/\zero.all V.one=true then (h.put id off (dC zero (len*sz))).map (λh'=>(V.undef,h')) else none
 |_=>none
theorem JI (ρ:X->V)(h:H)(sz:Nat)(zero:List V)(x:X):cK ρ h (.clr sz zero x)=XH h sz zero (ρ x):=by
 simp only[cK,XH]
 rfl
section
variable {α:Type} {f:α->List V} {s:Nat} (hf: ∀x,(f x).length=s)
include hf
theorem JO {ps:List α}{i:Nat}(hi:i<ps.length):sub (ps.flatMap f++rest) (i*s) s=some (f ps[i]):=by
 have e:=DR hf ps i hi;have l:=uY hf ps;have a:(i+1)*s<=ps.length*s:=Nat.mul_le_mul_right s om;rw[Nat.succ_mul] at a;unfold sub;rw[bJ (by rw[iA];omega),List.drop_append,List.take_append_of_le_length (by rw[BM];omega)];exact congrArg some e
theorem HF {ps:List α}(d:k<ps.length)(p:α):putAt (ps.flatMap f++rest) (k*s) (f p)=some ((ps.set k p).flatMap f++rest):=by
 have l:=uY hf ps;have g:(k+1)*s<=ps.length*s:=Nat.mul_le_mul_right s om;rw[Nat.succ_mul] at g;have e:ps.take k++ [ps[k]]++ps.drop (k+1)=ps:=by rw[←List.take_succ_eq_append_getElem d,List.take_append_drop]
 have j:ps.set k p=ps.take k++ [p]++ps.drop (k+1):=by rw[List.set_eq_take_append_cons_drop,bJ d,rS];rfl
 have b:=uY hf (ps.take k);rw[Cq,Nat.min_eq_left om] at b;have a:=uY hf (ps.take k++ [ps[k]]);rw[iA,Cq,Nat.min_eq_left om] at a;have a:((ps.take k++ [ps[k]]).flatMap f).length=(k+1)*s:=a;rw[Nat.succ_mul] at a;have c:ps.flatMap f++rest=(ps.take k++ [ps[k]]).flatMap f++((ps.drop (k+1)).flatMap f++rest):=by rw[←rS,←List.flatMap_append,e]
 unfold putAt;rw[bJ (by rw[iA,l,hf];omega)];refine congrArg some ?_
 have i:(ps.flatMap f++rest).take (k*s)=(ps.take k).flatMap f:=by
  rw[c,List.flatMap_append,rS,←b,List.take_left]
 have h:(ps.flatMap f++rest).drop (k*s+(f p).length)=(ps.drop (k+1)).flatMap f++rest:=by
  rw[c,hf,←a,List.drop_left]
 rw[i,h,j,List.flatMap_append,List.flatMap_append,rS,rS,rS];simp
end
section
variable {n:Nat}
theorem aaB {ps:List (V×V×V)}{i:Nat}(hi:i<ps.length):sub (zK n ps++rest) (i*4) 4=some (Ik n ps[i]):=JO (s:=4) (f:=Ik n) (λ_=>rfl) hi
theorem acY {ps:List (V×V×V)}(a:k<ps.length)(p:V×V×V):putAt (zK n ps++rest) (k*4) (Ik n p)=some (zK n (ps.set k p)++rest):=HF (s:=4) (f:=Ik n) (λ_=>rfl) a p
theorem aeB {id m:Nat}{a:pF}(d:a= .un 4∨a= .kn m/\rest= [])(b:k<=m): ∃off cap',xU 4 (.sl id 0 m a) (some (aC k)) none none=some (.sl id off (m-k) cap')/\(k<m->off=k*4):=by
 rcases d with rfl|⟨rfl,_⟩
 ·by_cases h:k<m
  ·exact⟨k*4,_,by simp [xU,nK,b,h];rfl,λ_=>rfl⟩
  ·exact⟨0,.un 4,by simp [xU,nK,b,h];omega,λc=>absurd c h⟩
 ·by_cases h:m=k
  ·exact⟨0,_,by simp [xU,nK,b,h];rfl,λc=>om⟩
  ·exact⟨k*4,_,by simp [xU,nK,b,h];rfl,λ_=>rfl⟩
theorem ZR {id m:Nat}{a:pF}(c:a= .un 4∨a= .kn m/\rest= [])(b:k<=m)(d:0<m): ∃cap',xU 4 (.sl id 0 m a) none (some (aC k)) none=some (.sl id 0 k cap'):=by
 rcases c with rfl|⟨rfl,_⟩
 ·exact⟨_,by simp [xU,nK,b,d];rfl⟩
 ·exact⟨_,by simp [xU,nK,b,show m≠0 by omega];rfl⟩
end
theorem adX (id m:Nat)(r:pF)(rest:List V)(F:Nat)(cs:List V)(n:Nat)(ps:List (V×V×V))(P:Nat->Bool)(h:H)(L:id<h.next)(hg:h.get id=some (.cells false (zK n ps++rest)))(hc:r= .un 4∨r= .kn m/\rest= [])(hm:ps.length=m)(h0:0<m)(w:m<1000000)(one: ∀p∈ps,p.1.one=true/\p.2.1.one=true/\p.2.2.one=true)(hf: ∀i (hi:i<ps.length) hh,Fx (· =id) h hh->Ev T F (CP n ps[i]::cs) hh (λv h'=>v= .bool (P i)/\Fr hh h')):
  Ev T 51 [.sl id 0 m r,.fn F [] cs] h (λv h'=>SV h' v 4 (zK n (nE P ps))/\Fx (· =id) h h'):=by
 refine cT dX rfl ?_
 have sv:SV h (.sl id 0 m r) 4 (zK n ps):= .inr ⟨id,0,m,r,false,_,rfl,by rw[oF,hm],L,hg,by rw[iA,oF];omega,by rw[List.drop_zero,List.take_append_of_le_length (by rw[oF];omega),←hm,←oF n ps,List.take_length]⟩
 simp(disch:=omega)only[go_sem,dX,aD]
 refine (HQ _ F cs n ps P h sv om λi hi hh f=>hf i hi hh (Fx.of f)).mono ?_
 rintro _ u ⟨k,rfl,J,K⟩
 rcases J with ⟨rfl,hn⟩|⟨Y,a1,rfl,U,hn⟩
 ·simp(disch:=omega)only[go_sem,eq_self,decide_true]
  have e:nE P ps=ps:=by
   have:=Jk (P:=P) (l:=ps) (eH _) hn;rwa [List.take_length] at this
  rw[e]
  exact⟨sv.mono K,Fx.of K⟩
 have d0:decide ((Y:Int)= -1)=false:=bE om
 simp(disch:=omega)only[go_sem,d0]
 rw[dU Y]
 refine aI (λk' y hh=> ∃(i k:Nat) (o:List (V×V×V)),(∃g:Nat->V,y= [.sl id 0 m r,.fn F [] cs,g 2,aC k,aC i,g 5,g 6,g 7,g 8])/\i<=m/\o.length=m/\k<=i/\o.take k=nE P (ps.take i)/\o.drop i=ps.drop i/\hh.get id=some (.cells false (zK n o++rest))/\Fx (· =id) h hh/\k'=m-i) (m-(Y+1))
  ⟨Y+1,Y,ps,aB rfl,om,hm,om,?_,rfl,by rw[K.get id L];exact hg,Fx.of K,rfl⟩ ?_
 ·rw[pX a1,Jk om hn,bJ U,tD]
 clear hn U d0 K
 rintro k' y hh ⟨i,k,o,⟨g,rfl⟩,hi,lc,ki,J,hd,gc,F2,rfl⟩
 by_cases O:(i:Int)<(m:Int)
 case neg=>
  have d1:=bE O;obtain rfl:i=m:=om
  obtain⟨a3,cp,s1,s2⟩:=aeB (id:=id) hc ki;obtain⟨Z,s3⟩:=ZR (id:=id) hc ki h0;rw[←hm,List.take_length] at J;have n2:=F2.next;have l4:=oF n o
  have W: ∀A t,A.next=hh.next->A.get id=some (.cells false t)->t.take (k*4)=zK n (o.take k)->k*4<=t.length->SV A (.sl id 0 k Z) 4 (zK n (nE P ps)):=λA t e1 e2 e3 e4=>by
   rw[←J];exact .inr ⟨id,0,k,Z,false,t,rfl,by rw[oF,Cq];rw[Nat.min_eq_left om],om,e2,om,by rw[List.drop_zero];exact e3⟩
  have t4:(zK n o++rest).take (k*4)=zK n (o.take k):=by
   have e:zK n o=zK n (o.take k)++zK n (o.drop k):=by rw[←Xf,List.take_append_drop]
   have l1:=oF n (o.take k);rw[Cq,Nat.min_eq_left om] at l1;rw[e,rS,List.take_append_of_le_length om,←l1,List.take_length]
  by_cases e:k=i
  ·have cz:XH hh 4 [aC 0,.aE,.aE,.aE] (.sl id a3 (i-k) cp)=some (V.undef,hh):=by simp [XH,e]
   simp(disch:=omega)only[go_sem,d1,s1,JI,cz,s3];exact⟨W hh _ rfl gc t4 (by rw[iA];omega),F2⟩
  ·obtain rfl:=s2 om
   have zl:(dC [aC 0,.aE,.aE,.aE] ((i-k)*4)).length=(i-k)*4:=by simp [dC]
   obtain⟨t,z⟩:=exI ((zK n o++rest).take (k*4)++dC [aC 0,.aE,.aE,.aE] ((i-k)*4)++(zK n o++rest).drop (k*4+(i-k)*4));have ik:k*4+(i-k)*4=i*4:=by rw[←Nat.add_mul];congr 1;omega
   have pa:putAt (zK n o++rest) (k*4) (dC [aC 0,.aE,.aE,.aE] ((i-k)*4))=some t:=by
    unfold putAt;rw[zl,bJ (by rw[iA];omega),z]
   have a2:((zK n o++rest).take (k*4)).length=k*4:=by rw[Cq,Nat.min_eq_left (by rw[iA];omega)]
   have tv:t.take (k*4)=zK n (o.take k):=by rw[←z,rS,List.take_append_of_le_length om,Lq om,t4]
   have cz:XH hh 4 [aC 0,.aE,.aE,.aE] (.sl id (k*4) (i-k) cp)=some (V.undef,hh.set id (some (.cells false t))):=by
    show (if i-k=0 then _ else if _ then _ else none)=_;rw[bL om,bJ ⟨rfl,rfl⟩];unfold H.put;rw[gc];simp only[pa,Option.map_some]
   simp(disch:=omega)only[go_sem,d1,s1,JI,cz,s3];exact⟨W _ t rfl (H.aS _ _ _) tv (by rw[←z,iA,iA,a2];omega),⟨n2,λq w u=>by rw[H.aH _ u];exact F2.get q w u⟩⟩
 have d1:=bN O
 have a0:i<m:=om
 have ix: ∀j:Nat,j<m->Gu 4 (.sl id 0 m r) (aC j)=some (.ptr id (j*4)):=λj hj=>by simp [Gu,hj]
 have lP:i<ps.length:=om
 have ci:o[i]'om=ps[i]:=by
  have:=congrArg (λl=>l[0]?) hd;simp only[List.getElem?_drop,Nat.add_zero] at this;rw[dF om,dF lP] at this;exact Option.some.inj this
 have R:hh.row id (i*4) 4=some (Ik n ps[i]):=by
  rw[←ci];unfold H.row;rw[gc];exact aaB om
 obtain⟨o1,o2,o3⟩:=one _ (Bu lP)
 have fi:=hf i lP
 have N:nE P (ps.take (i+1))=nE P (ps.take i)++if P i then [] else [ps[i]]:=pX lP
 generalize ps[i]=p at R o1 o2 o3 fi N ci
 obtain⟨B,hB⟩:=exI hh.next
 obtain⟨A,e3,n3,g3,q3,f3⟩:=cU hB [aC 0,.aE,.aE,.aE]
 obtain⟨h4,e4,n4,g4,q4⟩:=mD A B (Ik n p)
 have n2:=F2.next
 have Q:Fr hh h4:=⟨om,λq hq=>by rw[q4 q om,q3 q om]⟩
 have F4:Fx (· =id) h h4:=⟨om,λq w u=>by rw[Q.get q om];exact F2.get q w u⟩
 simp(disch:=omega)only[go_sem,d1,ix i a0,R,hB,e3,kZ A B 0 (a:= aC n) (b:=p.1) (c:=p.2.1) (d:=p.2.2) rfl o1 o2 o3,g3,kA,e4,iI g4]
 refine (fi h4 F4).mono ?_
 rintro _ G ⟨rfl,f5⟩
 have F5:Fx (· =id) h G:=⟨by have:=f5.next;omega,λq w u=>by rw[f5.get q om];exact F4.get q w u⟩
 have g5:G.get id=some (.cells false (zK n o++rest)):=by rw[f5.get id om,Q.get id om];exact gc
 have a4:G.get B=some (.cells false (Ik n p)):=by rw[f5.get B om];exact g4
 cases U:P i with
 |true=>
  rw[U,bJ rfl,tD] at N;simp(disch:=omega)only[go_sem];rw[dU i];exact⟨m-(i+1),om,i+1,k,o,aB rfl,om,lc,om,by rw[J,N],by rw[←List.drop_drop,hd,List.drop_drop],g5,F5,rfl⟩
 |false=>
  rw[U,bL (by simp)] at N
  have pt:dR (some (.cells false (zK n o++rest))) G id (k*4) (Ik n p)=some (G.set id (some (.cells false (zK n (o.set k p)++rest)))):=by
   have:=acY (n:=n) (ps:=o) (rest:=rest) (k:=k) om p;simp only[dR,this,Option.map_some]
  simp(disch:=omega)only[go_sem,iI a4,ix k om,kZ G id (k*4) (a:= aC n) (b:=p.1) (c:=p.2.1) (d:=p.2.2) rfl o1 o2 o3,g5,pt];rw[show (i:Int)+1=((i+1:Nat):Int) from om,show (k:Int)+1=((k+1:Nat):Int) from om];have lk:k<o.length:=om
  refine⟨m-(i+1),om,i+1,k+1,o.set k p,aB rfl,om,by rw[List.length_set];exact lc,om,?_,?_,rfl,⟨by have:=F5.next;simp only[H.cH];omega,λq w u=>by rw[H.aH _ u];exact F5.get q w u⟩,rfl⟩
  ·rw[List.take_succ_eq_append_getElem (by rw[List.length_set];exact lk),List.getElem_set_self,List.take_set_of_le (eH _),J,N]
  ·rw[List.drop_set_of_lt om,←List.drop_drop,hd,List.drop_drop]
end
def Iw:List Nat->List Nat->Int
 | [], []=>0
 | [],_::_=> -1
 |_::_, []=>1
 |a::l,b::m=>if a=b then Iw l m else Cls.rP a b
theorem JM: ∀(a b:List Nat),Iw a b<0↔Qp a b=true
 | [], []=>by simp [Iw,Qp]
 | [],_::_=>by simp [Iw,Qp]
 |_::_, []=>by simp [Iw,Qp]
 |a::l,b::m=>by
  unfold Iw Qp;split
  ·exact JM l m
  ·unfold Cls.rP
   rw[Ss];split
   ·omega
   ·split<;>omega
theorem acV (x F:V)(a b:List Nat)(h:H)(O:SI h x (zi a))(K:SI h F (zi b))(R:a.length<1000000)(Q:b.length<1000000):
  Ev T 109 [x,F] h (λv h'=>v= aC (Iw a b)/\Fr h h'):=by
 refine cT mK rfl ?_
 have w:=O.lens
 have lb:=K.lens
 rw[aN] at w lb
 obtain⟨id,y,z,p,J⟩:=O.open
 obtain⟨B,n,q,k,o⟩:=K.open
 rw[aN] at z p J q k o
 simp(disch:=omega)only[go_sem,mK,aD,w,lb]
 refine aI (λN l u=> ∃(i:Nat),(∃g:Nat->V,l= [x,F,g 2,g 3,g 4,g 5,g 6,x,aC (a.length:Int),aC i,g 10,g 11,g 12,g 13])/\i<=a.length/\i<=b.length/\Iw a b=Iw (a.drop i) (b.drop i)/\Fr h u/\N=a.length-i) a.length
  ⟨0,aB rfl,fR _,fR _,rfl,Fr.refl h,rfl⟩ ?_
 rintro N l u ⟨i,⟨g,rfl⟩,hi,Y,d,f,rfl⟩
 by_cases r:(i:Int)<(a.length:Int)
 case neg=>
  have s:=bE r;rw[List.drop_eq_nil_of_le om] at d
  by_cases t:(a.length:Int)<(b.length:Int)
  ·have m:=bN t
   rw[BT (show i<b.length by omega)] at d;simp(disch:=omega)only[go_sem,s,w,lb,m];exact⟨by rw[d];rfl,f⟩
  ·have m:=bE t
   rw[List.drop_eq_nil_of_le om] at d;simp(disch:=omega)only[go_sem,s,w,lb,m];exact⟨by rw[d];rfl,f⟩
 have s:=bN r
 have j:i<a.length:=om
 have G:u.cell id (y+i)=some (aC (a.getD i 0:Nat)):=by rw[f.cell (p om),J i j];congr 2;simp [zi,j]
 rw[BT j] at d
 have W:a.getD i 0=a[i]:=by rw[List.getD,dF j];rfl
 by_cases t:(b.length:Int)<=(i:Int)
 ·have m:=bN t
  rw[show b.drop i= [] from List.drop_eq_nil_of_le om] at d
  simp(disch:=omega)only[go_sem,s,z.ixa,G,lb,m]
  exact⟨by rw[d];rfl,f⟩
 have m:=bE t
 have c:i<b.length:=om
 have P:u.cell B (n+i)=some (aC (b.getD i 0:Nat)):=by rw[f.cell (k om),o i c];congr 2;simp [zi,c]
 rw[BT c] at d
 have U:b.getD i 0=b[i]:=by rw[List.getD,dF c];rfl
 rw[W] at G
 rw[U] at P
 simp(disch:=omega)only[go_sem,s,z.ixa,G,lb,m,q.ixa,P]
 refine (Cls.yQ _ _ u).mono ?_
 rintro _ Z ⟨rfl,L⟩
 rw[show Iw (a[i]::a.drop (i+1)) (b[i]::b.drop (i+1))=if a[i]=b[i] then Iw (a.drop (i+1)) (b.drop (i+1)) else Cls.rP a[i] b[i] from rfl] at d
 by_cases e:a[i]=b[i]
 ·rw[bJ e] at d
  have A:decide (Cls.rP (a[i]:Int) (b[i]:Int)≠0)=false:=bE (by rw[e];unfold Cls.rP;rw[bL om,bL om];omega)
  simp(disch:=omega)only[go_sem,A]
  rw[dU i]
  exact⟨a.length-(i+1),om,i+1,aB rfl,om,om,d,f.trans L,rfl⟩
 ·rw[bL e] at d
  have A:decide (Cls.rP (a[i]:Int) (b[i]:Int)≠0)=true:=bN (by unfold Cls.rP;split;omega;split<;>omega)
  simp(disch:=omega)only[go_sem,A]
  exact⟨by rw[d],f.trans L⟩
section
variable {W W':Nat->Prop} {L:LN} {h:H} {p q:V×V×V} {a b:List Nat}
theorem acN (n:Nat)(Q:L.length<=5040)(i:Nm W n L h p a)(f:Nm W' n L h q b):
  Ev T 58 [CP n p,CP n q] h (λv h'=>v= aC (Iw a b)/\Fr h h'):=by
 obtain⟨F,r,z⟩:=i.one
 obtain⟨o,t,y⟩:=f.one
 have K:=i.rk.short
 have lb:=f.rk.short
 refine cT zA rfl ?_
 obtain⟨B,k⟩:=exI h.next
 obtain⟨A,x,l,G,O,j⟩:=cU k [aC n,p.1,p.2.1,p.2.2]
 obtain⟨m,w,P,u,s,g⟩:=cU l [aC n,q.1,q.2.1,q.2.2]
 have e:m.get B=some (.cells false (Ik n p)):=by rw[s B om];exact G
 simp(disch:=omega)only[go_sem,zA,aD,jJ h (a:= aC n) (b:=p.1) (c:=p.2.1) (d:=p.2.2) rfl F r z,k,x,jJ A (a:= aC n) (b:=q.1) (c:=q.2.1) (d:=q.2.2) rfl o t y,l,w,H.aF e,H.aF u]
 refine (acV _ _ a b m (i.si.mono (j.trans g)) (f.si.mono (j.trans g)) om om).mono ?_
 rintro _ N ⟨rfl,J⟩
 simp(disch:=omega)only[go_sem]
 exact j.trans (g.trans J)
theorem abA (n:Nat)(hL:L.length<=5040)(u:Nm W n L h p a)(w:Nm W' n L h q b):
  Ev T 56 [CP n p,CP n q] h (λv h'=>v= .bool (a.all λi=>decide (i∈b))/\Fr h h'):=by
 obtain⟨o1,o2,o3⟩:=u.one
 obtain⟨Z,u2,u3⟩:=w.one
 have la:=u.rk.short
 have lb:=w.rk.short
 refine cT yX rfl ?_
 obtain⟨B,K⟩:=exI h.next
 obtain⟨h1,e1,N,g1,q1,f1⟩:=cU K [aC n,p.1,p.2.1,p.2.2]
 obtain⟨G,e2,n2,g2,q2,f2⟩:=cU N [aC n,q.1,q.2.1,q.2.2]
 have A:G.get B=some (.cells false (Ik n p)):=by rw[q2 B om];exact g1
 have F2:=f1.trans f2
 have U:=u.si.lens
 rw[aN] at U
 obtain⟨id,z,R,m,J⟩:=u.si.open
 rw[aN] at R m J
 simp(disch:=omega)only[go_sem,yX,aD,jJ h (a:= aC n) (b:=p.1) (c:=p.2.1) (d:=p.2.2) rfl o1 o2 o3,K,e1,jJ h1 (a:= aC n) (b:=q.1) (c:=q.2.1) (d:=q.2.2) rfl Z u2 u3,N,e2,H.aF A,U]
 refine aI (λY l t=> ∃(i:Nat),(∃g:Nat->V,l= [g 0,g 1,g 2,.ptr (B+1) 0,.bool false,g 5,g 6,p.2.2,aC (a.length:Int),aC i,g 10,g 11])/\i<=a.length/\(∀j (y:j<i) (Q:j<a.length),a[j]∈b)/\Fr G t/\Y=a.length-i) a.length
  ⟨0,aB rfl,fR _,λj y=>om,Fr.refl G,rfl⟩ ?_
 rintro Y l t ⟨i,⟨g,rfl⟩,hi,O,f,rfl⟩
 by_cases s:(i:Int)<(a.length:Int)
 case neg=>
  have F:=bE s;simp(disch:=omega)only[go_sem,F];refine⟨?_,F2.trans f⟩;congr 1;refine (Lw.2 λx hx=>?_).symm;obtain⟨j,y,rfl⟩:=wV.1 hx;exact bN (O j om y)
 have F:=bN s
 have o:i<a.length:=om
 have c1:t.cell id (z+i)=some (aC (a[i]:Nat)):=by rw[(F2.trans f).cell (m om),J i o];congr 2;simp [zi,o]
 have gq:t.get (B+1)=some (.cells false (Ik n q)):=by rw[f.get _ om];exact g2
 simp(disch:=omega)only[go_sem,F,R.ixa,c1,H.aF gq]
 refine (Ea q.2.2 b a[i] t om w.rk.asc (w.si.mono (F2.trans f))).mono ?_
 rintro _ h3 ⟨k,c,rfl,r,_,P⟩
 cases c with
 |true=>
  simp(disch:=omega)only[go_sem,Bool.not_true];rw[dU i]
  exact⟨a.length-(i+1),om,i+1,aB rfl,om,λj y Q=>by
   by_cases e:j=i
   ·subst e;exact r.1 rfl
   ·exact O j om Q,f.trans P,rfl⟩
 |false=>
  simp(disch:=omega)only[go_sem,Bool.not_false];refine⟨?_,F2.trans (f.trans P)⟩;congr 1;refine (List.all_eq_false.2 ⟨a[i],Bu _,?_⟩).symm;rw[Ss];exact λh=>by have:=r.2 h;cases this
theorem abL (n B:Nat)(J:L.length<=5040)(j:Nm W n L h p a)(g:Nm W' n L h q b)(A:h.get B=some (.cells false (Ik n q)))(Q:B<h.next):
  Ev T 55 [CP n p,.ptr B 0] h (λv h'=>v= .bool (decide (a.length<b.length)&&a.all λi=>decide (i∈b))/\Fr h h'):=by
 obtain⟨z,w,y⟩:=j.one
 obtain⟨O,P,U⟩:=g.one
 have N:=j.rk.short
 have lb:=g.rk.short
 refine cT mU rfl ?_
 obtain⟨C,l⟩:=exI h.next
 obtain⟨G,x,Y,s,F,k⟩:=cU l [aC n,p.1,p.2.1,p.2.2]
 have t:B≠C:=om
 have e:G.get B=some (.cells false (Ik n q)):=by rw[F B t];exact A
 have o:=j.si.lens
 rw[aN] at o
 have m:=g.si.lens
 rw[aN] at m
 by_cases f:(a.length:Int)<(b.length:Int)
 case neg=>
  have r:=bE f;have u:decide (a.length<b.length)=false:=bE om;simp(disch:=omega)only[go_sem,mU,aD,jJ h (a:= aC n) (b:=p.1) (c:=p.2.1) (d:=p.2.2) rfl z w y,l,x,H.aF e,H.aF s,o,m,r,u,Bool.false_and];exact k
 ·have r:=bN f
  have u:decide (a.length<b.length)=true:=bN om
  simp(disch:=omega)only[go_sem,mU,aD,jJ h (a:= aC n) (b:=p.1) (c:=p.2.1) (d:=p.2.2) rfl z w y,l,x,H.aF e,H.aF s,o,m,r,iI e,iI s]
  refine (abA n J (j.mono k) (g.mono k)).mono ?_
  rintro _ R ⟨rfl,K⟩
  simp(disch:=omega)only[go_sem,u,Bool.true_and]
  exact k.trans K
end
section
variable {W W':Nat->Prop} {L:LN} {h:H}
theorem ahJ {p:V×V×V}{r:List Nat}(n g Q:Nat)(j:V)(ps:List (V×V×V))(rs:LN)(K:L.length<=5040)(P:rs.length<1000000)(w:h.get g=some (.cells false [.ptr Q 0]))(R:g<h.next)(y:h.get Q=some (.cells false [j]))(Y:Q<h.next)(sv:SV h j 4 (zK n ps))(al:aM (Nm W n L h) ps rs)(m:Nm W' n L h p r):
  Ev T 53 [CP n p,.ptr g 0] h (λv h'=>v= .bool (Zk rs r)/\Fr h h'):=by
 obtain⟨N,u,G⟩:=m.one
 have U:=aM.length al
 refine cT xI rfl ?_
 obtain⟨B,s⟩:=exI h.next
 obtain⟨q,A,Z,O,t,k⟩:=cU s [aC n,p.1,p.2.1,p.2.2]
 have o:q.get g=some (.cells false [.ptr Q 0]):=by rw[t _ om];exact w
 have l:q.get Q=some (.cells false [j]):=by rw[t _ om];exact y
 simp(disch:=omega)only[go_sem,xI,aD,jJ h (a:= aC n) (b:=p.1) (c:=p.2.1) (d:=p.2.2) rfl N u G,s,A,H.aF o,H.aF l]
 refine (GZ j 55 [.ptr B 0] n ps (λi=>decide ((rs.getD i []).length<r.length)&&(rs.getD i []).all λi=>decide (i∈r)) q (sv.mono k) om λi hi hh f=>?_).mono ?_
 ·have J:=(aM.get al i hi om).mono (k.trans f)
  rw[List.getD,dF om,Option.getD_some]
  exact abL n B K J (m.mono (k.trans f)) (by rw[f.get B om];exact O) (by have:=f.next;omega)
 rintro _ h2 ⟨⟨b,rfl,z⟩,F⟩
 simp(disch:=omega)only[go_sem]
 refine⟨?_,k.trans F⟩
 congr 1
 refine Qk.2 (z.trans ?_)
 unfold Zk
 rw[List.any_eq_true]
 constructor
 ·rintro⟨i,hi,e⟩
  exact⟨_,aW om,e⟩
 ·rintro⟨x,hx,e⟩
  obtain⟨i,hi,rfl⟩:=wV.1 hx
  exact⟨i,om,by rw[List.getD,dF hi];exact e⟩
theorem QE {rs:LN}{i:Nat}(c:1<=i)(hi:i<rs.length):YF (rs.take (i+1))=if Qp rs[i] (YF (rs.take i)) then rs[i] else YF (rs.take i):=by
 cases rs with
 |nil=>simp at hi
 |cons a l=>
  obtain⟨k,rfl⟩: ∃k,i=k+1:=⟨i- 1,om⟩
  have b:k<l.length:=by simpa using hi
  show (l.take (k+1)).foldl _ a=_;rw[List.take_succ_eq_append_getElem b,List.foldl_append]
  rfl
theorem abE (n:Nat)(vl:V)(ps:List (V×V×V))(rs:LN)(hL:L.length<=5040)(hl:rs.length<1000000)(h0:0<rs.length)(sv:SV h vl 4 (zK n ps))(al:aM (Nm W n L h) ps rs):
  Ev T 57 [vl,.fn 58 [] []] h (λv h'=>(∃i,∃hi:i<ps.length,v=CP n ps[i]/\rs.getD i []=YF rs)/\Fr h h'):=by
 have lp:=aM.length al
 have U:=Zw sv
 have Z:0<ps.length:=om
 have one: ∀j (p:j<ps.length),ps[j].1.one=true/\ps[j].2.1.one=true/\ps[j].2.2.one=true:=λj p=>(aM.get al j p om).one
 have d0:decide ((ps.length:Int)<1)=false:=bE om
 refine cT eU rfl ?_
 obtain⟨B,hB⟩:=exI h.next
 obtain⟨h1,e1,n1,g1,q1,u⟩:=cU hB [aC 0,.aE,.aE,.aE]
 have A:=(Wz (sv.mono u) Z)
 obtain⟨id,a4,sh,row,_⟩:=A
 obtain⟨h2,e2,n2,g2,q2,f2⟩:=cU n1 [aC 0,.aE,.aE,.aE]
 obtain⟨h3,e3,n3,g3,q3⟩:=mD h2 (B+1) (Ik n ps[0])
 obtain⟨o1,o2,o3⟩:=one 0 Z
 have ix:=sh.ixa .i64 0 om om
 simp only[Int.toNat_zero] at ix
 simp(disch:=omega)only[go_sem,eU,aD,hB,e1,U,d0,ix,row,n1,e2,kZ h2 (B+1) 0 (a:= aC n) (b:=ps[0].1) (c:=ps[0].2.1) (d:=ps[0].2.2) rfl o1 o2 o3,g2,kA,e3]
 have w:Fr h1 h3:=⟨om,λq K=>by rw[q3 q om,q2 q om]⟩
 have F3:=u.trans w
 refine aI (λk' s m=> ∃(i j:Nat),(∃g:Nat->V,s= [vl,.fn 58 [] [],.ptr B 0,.ptr (B+1) 0,aC i,g 5,g 6,g 7])/\1<=i/\i<=ps.length/\(∃p:j<ps.length,m.get (B+1)=some (.cells false (Ik n ps[j])))/\rs.getD j []=YF (rs.take i)/\B+1<m.next/\Fr h1 m/\k'=ps.length-i) (ps.length- 1)
  ⟨1,0,aB rfl,om,om,⟨Z,g3⟩,?_,om,w,rfl⟩ ?_
 ·cases rs with
  |nil=>simp at h0
  |cons a l=>rfl
 rintro k' s m ⟨i,j,⟨g,rfl⟩,P,hi,⟨p,gj⟩,N,nB,f,rfl⟩
 have gB:m.get B=some (.cells false [aC 0,.aE,.aE,.aE]):=by rw[f.get B om];exact g1
 obtain⟨w1,w2,w3⟩:=one j p
 by_cases z:(i:Int)<(ps.length:Int)
 case neg=>
  have d1:=bE z;obtain rfl:i=ps.length:=om
  obtain⟨F,e4,n4,g4,q4⟩:=mD m B (Ik n ps[j]);rw[lp,List.take_length] at N;simp(disch:=omega)only[go_sem,U,d1,iI gj,kZ m B 0 (a:= aC n) (b:=ps[j].1) (c:=ps[j].2.1) (d:=ps[j].2.2) rfl w1 w2 w3,gB,kA,e4,iI g4];exact⟨⟨j,p,rfl,N⟩,⟨by have:=(u.trans f).next;omega,λq K=>by rw[q4 q om,(u.trans f).get q K]⟩⟩
 have d1:=bN z
 have o:i<ps.length:=om
 obtain⟨Q,x,G,r,a0⟩:=Wz (sv.mono (u.trans f)) o
 have mi:=aM.get al i o om
 have mj:=aM.get al j p om
 have Y: ∀k,m.next<=k->Fr m (H.mk m.tr k):=λk hk=>(Fr.refl m).bH hk
 simp(disch:=omega)only[go_sem,U,d1,G.ixa,r,iI gj]
 refine (acN n hL (mi.mono ((u.trans f).trans (Y _ om))) (mj.mono ((u.trans f).trans (Y _ om)))).mono ?_
 rintro _ F ⟨rfl,f4⟩
 have e:=(Y _ om).trans f4
 have t:F.get (B+1)=some (.cells false (Ik n ps[j])):=by rw[e.get _ nB];exact gj
 have r4:F.row Q (x+i*4) 4=some (Ik n ps[i]):=by rw[afK e a0];exact r
 have ei:=mi.eq
 have ej:=mj.eq
 simp(disch:=omega)only[go_sem,iI t,r4,ei.1,ei.2.1,ei.2.2,ej.1,ej.2.1,ej.2.2]
 have O:=QE (rs:=rs) P om
 have lx:=JM rs[i] rs[j]
 have y:rs[j]=YF (rs.take i):=by rw[←N,List.getD,dF om];rfl
 have n4:=e.next
 by_cases J:Iw rs[i] rs[j]<0
 ·have R:=bN J
  rw[bJ (by rw[←y];exact lx.1 J)] at O
  obtain⟨a1,a2,a3⟩:=one i o
  obtain⟨h5,e5,n5,g5,q5⟩:=mD F (B+1) (Ik n ps[i])
  simp(disch:=omega)only[go_sem,R,G.ixa,r4,kZ F (B+1) 0 (a:= aC n) (b:=ps[i].1) (c:=ps[i].2.1) (d:=ps[i].2.2) rfl a1 a2 a3,t,kA,e5]
  rw[dU i]
  exact⟨ps.length-(i+1),om,i+1,i,aB rfl,om,om,⟨o,g5⟩,by rw[O,List.getD,dF om];rfl,om,⟨by have:=f.next;omega,λq K=>by rw[q5 q om,e.get q (by have:=f.next;omega),f.get q K]⟩,rfl⟩
 ·have R:=bE J
  rw[bL (by rw[←y];exact λh=>J (lx.2 h))] at O
  simp(disch:=omega)only[go_sem,R]
  rw[dU i]
  exact⟨ps.length-(i+1),om,i+1,j,aB rfl,om,om,⟨p,t⟩,by rw[O];exact N,om,f.trans e,rfl⟩
end
structure Ix (n:Nat)(G:List Nat->Prop)(L:LN)(r:List Nat):Prop where
 rk:Rk L (RG L r) r
 dH:iJ n (RG L r)
 nm: ∀y g,RG L r y->G g->RG L r (cW y g)
 le: ∀x,RG L r x->G x
section
variable {n:Nat} {G:List Nat->Prop} {L:LN} {K r:List Nat} {i:Nat} (hG:iJ n G) (E:dZ G L)
include hG E
omit hG in
theorem Ix.Xj {N:List Nat->Prop}(b:iJ n N)(le: ∀x,N x->G x)(a: ∀y g,N y->G g->N (cW y g)):Ix n G L (Xj L N):=by
 have k:=Jv L N;have e:N=RG L (Go.Proofs.YtcdbmkidaecdiaaGreat.Xj L N):=funext λx=>propext (k.iff E le x)
 exact⟨k.self E,by rw[←e];exact b,by rw[←e];exact a,by rw[←e];exact le⟩
theorem afD:Ix n G L (Xj L λx=>x=bT n):=
 Ix.Xj E (Uo n) (λx h=>by rw[h];exact hG.one) λy g a b=>by rw[a];exact Rq (hG.cX b)
theorem IK (k:Ix n G L r)(hi:i<L.length):Ix n G L (Ls n G L r i):=by
 have a:=Bp E hi;exact Ix.Xj E (Tn.dH hG k.le a) (λx h=>Tn.le hG k.le a h) λy g b c=>NC.cj b c
omit hG E in
theorem My (j:Nat):j∈Ls n G L r i↔j<L.length/\Tn n G (RG L r) (L.getD i []) (L.getD j []):=(Jv L _).mem j
omit hG E in
theorem Vd (k:Ix n G L r)(hi:i<L.length)(d:i∉r):(∀x∈r,x∈Ls n G L r i)/\i∈Ls n G L r i/\r.length<(Ls n G L r i).length:=by
 have a: ∀x∈r,x∈Ls n G L r i:=λx c=>(My x).2 ⟨((k.rk.mem x).1 c).1,NC.of (.inl ⟨x,c,rfl⟩)⟩
 have b:i∈Ls n G L r i:=(My i).2 ⟨hi,NC.of (.inr rfl)⟩;refine⟨a,b,?_⟩;have nd:(i::r).Nodup:=List.nodup_cons.2 ⟨d,k.rk.asc.imp λh=>Nat.ne_of_lt h⟩
 have:=List.Nodup.length_le_of_subset (l₂:=Ls n G L r i) nd λx c=>by
  rcases Gr.1 c with rfl|c
  ·exact b
  ·exact a x c
 rw[List.length_cons] at this;omega
theorem aeP (k:Ix n G L r)(c:Cn n G L K)(q:r.length<L.length):fdF n G L r K≠ []:=by
 intro e
 have all: ∀i,i∈K->i∈r:=λi hi=>Kh λo=>by
  have:Ls n G L r i∈fdF n G L r K:=Ww.2 ⟨i,hi,o,rfl⟩;rw[e] at this;cases this
 have: ∀j,j<L.length->j∈r:=λj a=>by
  obtain⟨s,p,h,g,l,e⟩:=CM hG E a;have f:s∈K:=c.perm.mem_iff.2 (pU.2 ⟨om,h⟩);obtain⟨t,b,d⟩:=k.nm _ _ ⟨s,all s f,rfl⟩ l;have:t=j:=Ee E.nodup ((k.rk.mem t).1 b).1 a (d.trans e);rw[←this];exact b
 have:=List.Nodup.length_le_of_subset (l₁:=List.range L.length) (l₂:=r) List.nodup_range λx m=>this x (Lk.1 m)
 rw[YI] at this;omega
theorem Hv (k:Ix n G L r)(d:Cn n G L K)(v:r.length<L.length):(∃i,i∈K/\i∉r/\Ql n G L K r=Ls n G L r i)/\Ix n G L (Ql n G L K r)/\r.length<(Ql n G L K r).length/\
  ∀j,j∈K->j∉r->(∀x∈Ls n G L r j,x∈Ql n G L K r)->Ls n G L r j=Ql n G L K r:=by
 have m:=aaQ (SL (aeP hG E k d v))
 have e:YF (UJ (fdF n G L r K))=Ql n G L K r:=rfl
 rw[e] at m
 obtain⟨u,p⟩:=GI.1 m
 obtain⟨i,hi,c,e⟩:=Ww.1 u
 have a:=d.lt hi
 refine⟨⟨i,hi,c,e⟩,by rw[e];exact IK hG E k a,by rw[e];exact (Vd k a c).2.2,λj o f b=>?_⟩
 have s:=(IK hG E k (d.lt o)).rk
 have t:Rk L (RG L (Ql n G L K r)) (Ql n G L K r):=by rw[e];exact (IK hG E k a).rk
 have q:=s.asc.imp λh=>Nat.ne_of_lt h
 have z:=List.Nodup.length_le_of_subset q b
 have w:(Ql n G L K r).length<=(Ls n G L r j).length:=by
  refine Nat.le_of_not_lt λh=>?_
  rw[Bool.not_eq_true'] at p;have:=List.any_eq_false.1 p _ (Ww.2 ⟨j,o,f,rfl⟩);rw[vV,Ss,Lw] at this;exact this ⟨h,λx l=>bN (b x l)⟩
 refine xC s.asc t.asc λx=>⟨b x,λl=>Kh λc=>?_⟩
 have:=List.Nodup.length_le_of_subset (List.nodup_cons.2 ⟨c,q⟩) (l₂:=Ql n G L K r) λy g=>by
  rcases Gr.1 g with rfl|g
  ·exact l
  ·exact b y g
 rw[List.length_cons] at this
 omega
end
structure Qr (n:Nat)(G:List Nat->Prop)(L:LN)(K:List Nat)(rs:LN)(r:List Nat):Prop where
 hd:rs[0]? =some (Xj L λx=>x=bT n)
 st: ∀k a b,rs[k]? =some a->rs[k+1]? =some b->a.length<L.length/\b=Ql n G L K a
 la:rs[rs.length- 1]? =some r
 all: ∀a∈rs,Ix n G L a
 len:rs.length<=r.length
structure Na (n:Nat)(G:List Nat->Prop)(L:LN)(K:List Nat)(rs:LN):Prop where
 ex: ∃r,Qr n G L K rs r/\r.length=L.length
section
variable {n:Nat} {G:List Nat->Prop} {L:LN} {K r:List Nat} {rs:LN} (hG:iJ n G) (E:dZ G L)
include hG E
theorem Qr.start:Qr n G L K [Xj L λx=>x=bT n] (Xj L λx=>x=bT n):=by
 refine⟨rfl,λk a b f d=>by simp at d,rfl,λa c=>by rw[List.mem_singleton.1 c];exact afD hG E,?_⟩;obtain⟨i,hi,e⟩:=wV.1 ((E.mem _).2 hG.one);have:i∈Xj L λx=>x=bT n:=((Jv L _).mem i).2 ⟨hi,by rw[List.getD,dF hi];exact e⟩
 exact KH this
theorem Qr.push (c:Qr n G L K rs r)(m:Cn n G L K)(l:r.length<L.length):Qr n G L K (rs++ [Ql n G L K r]) (Ql n G L K r):=by
 have o:0<rs.length:=by
  have:=(zG.1 c.hd).1;exact this
 have t:Ix n G L r:=c.all r (EV c.la);obtain⟨_,s,u,_⟩:=Hv hG E t m l;refine⟨by rw[Ej o];exact c.hd,λk a b d f=>?_,by rw[iA];show (rs++_)[rs.length+1- 1]? =_;rw[Nat.add_sub_cancel,Eb (eH _),Nat.sub_self];rfl,λa q=>?_,by rw[iA];show rs.length+1<=_;have:=c.len;omega⟩
 ·by_cases e:k+1<rs.length
  ·rw[Ej om] at d
   rw[Ej e] at f;exact c.st k a b d f
  ·have g:=(zG.1 f).1
   rw[iA] at g;have g:k+1<rs.length+1:=g;have p:k+1=rs.length:=om
   rw[Ej om] at d;rw[Eb om,p,Nat.sub_self] at f;have j:=c.la;rw[show rs.length- 1=k by omega] at j;rw[j] at d;cases d;cases f;exact⟨l,rfl⟩
 ·rcases kT.1 q with h|h
  ·exact c.all a h
  ·rw[List.mem_singleton.1 h];exact s
end
end Go.Proofs.YtcdbmkidaecdiaaGreat
