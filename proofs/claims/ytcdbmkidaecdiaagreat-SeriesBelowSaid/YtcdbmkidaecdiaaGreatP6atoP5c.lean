/- Texts of the claim. -/
import Derived.Test.YtcdbmkidaecdiaaGreatDp2toDp7
import Derived.Test.YtcdbmkidaecdiaaGreatAy39
import Derived.Test.YtcdbmkidaecdiaaGreatC16code
import Derived.Sort.AssemblyPlain
import Derived.Test.YtcdbmkidaecdiaaGreatP5a
set_option maxHeartbeats 64000000
namespace Go.Proofs.YtcdbmkidaecdiaaGreat
open Go Go.Ay Go.Pm
set_option maxRecDepth 100000
section
variable {O:LN} {W:Nat->Prop}
theorem TY {O:LN}{m:Nat}(a:1<=m): ∀d i,(∀j,i<=j->j<i+d->(O.getD j []).length<=m)->iW O d i<=m^d
 |0,_,_=>fN _
 |d+1,i,h=>by
  unfold iW;rw[Nat.pow_succ,Nat.mul_comm (m^d)];exact Nat.mul_le_mul (h i (fN _) om) (TY a d (i+1) λj b c=>h j om om)
theorem Mz {O:LN}: ∀d i,(∀j,i<=j->j<i+d->0<(O.getD j []).length)->0<iW O d i
 |0,_,_=>Nat.one_pos
 |d+1,i,h=>Nat.mul_pos (h i (fN _) om) (Mz d (i+1) λj a b=>h j om om)
theorem GC.row {h:H}{c:V}{n:Nat}{R:jJ}{G:List Nat->Prop}(g:GC W h c n O R G){j:Nat}(a:j<n):0<(O.getD j []).length/\(O.getD j []).length<=n:=by
 refine⟨?_,mY (tK (λx b=>g.cY.bF b) a (g.isc.asc j a) (g.isc.mem j a)) om⟩;exact Rl ((g.isc.mem j a j).2 ⟨aX n,g.cY.one,Fix.one n j om,fM a⟩)
theorem PB (vc:V)(n:Nat)(O:LN)(R:jJ)(G:List Nat->Prop)(h:H)(p:GC W h vc n O R G):
  Ev T 157 [vc] h (λv h'=> ∃S,v= .tup [.sl S 0 (n+1) (.kn (n+1)),.bool true]/\h'.cell S 0=some (aC (iW O n 0:Nat))/\Fr h h'):=by
 obtain⟨Q,r,e,sO,sR⟩:=p.ch
 subst e
 refine dW Hl rfl ?_
 have f:=p.isc
 have n0:=p.n0
 have n7:=p.n7
 obtain⟨wO,tO,aO⟩:=sO
 have lO:=aO.length
 rw[iA,f.lo] at lO
 have A:=tO.cT.2.1
 have y:r.one=true:=oNt sR
 obtain⟨B,hB⟩:=exI h.next
 obtain⟨h1,e1,n1,g1,o1,f1⟩:=dK hB [aC n,Q,r]
 have bx:=bV h (v:= aC n) (u:=Q) (w:=r) rfl A y
 have en:(n:Int)+1=((n+1:Nat):Int):=om
 have Y:=tY h1 (n+1) om
 rw[n1] at Y
 obtain⟨P,z,n2,g2,o2,f2⟩:=dK n1 (rc (n+1) λ_=> aC 0)
 rw[z] at Y
 have l:P.get B=some (.cells false [aC n,Q,r]):=by rw[o2 _ om];exact g1
 have pt: ∀(c:H) (S:Nat) (F:Nat->V) (k:Nat) (v:V),k<n+1->eU (some (.cells false (rc (n+1) F))) c S k [v]=some (c.set S (some (.cells false (rc (n+1) λj=>if j=k then v else F j)))):=λc S F k v Z=>by rw[bT (by rw[iQ];exact Z),lH]
 obtain⟨h3,e3,n3,g3,o3⟩:=mV P (B+1) (rc (n+1) λj=>if j=n then aC 1 else aC 0)
 have o:h3.get B=some (.cells false [aC n,Q,r]):=by rw[o3 _ om];exact l
 have a1:n<n+1:=om
 simp(disch:=omega)only[go_sem,Hl,aE,bx,hB,e1,H.aF g1,en,Y,H.aF l,g2,pt _ _ _ n _ a1,e3,H.aF o]
 have F3:Fr h h3:=⟨om,λk Z=>by rw[o3 _ om,o2 _ om,o1 _ om]⟩
 have a6: ∀i,i<=n->0<iW O (n-i) i/\iW O (n-i) i<=823543:=λi hi=>by
  refine⟨Mz _ _ λj h1 P=>(p.row om).1,mY (TY (m:=7) om _ _ λj h1 P=>by have:=(p.row (j:=j) om).2;omega) ?_⟩;exact mY (Nat.pow_le_pow_right om (show n-i<=7 by omega)) (by decide)
 refine aI (λq b c=> ∃(i:Nat),(∃g:Nat->V,b= [g 0,.ptr B 0,g 2,g 3,.sl (B+1) 0 (n+1) (.kn (n+1)),aC ((i:Int)- 1),g 6,g 7,g 8])/\i<=n/\c.get B=some (.cells false [aC n,Q,r])/\
   c.get (B+1)=some (.cells false (rc (n+1) λj=>if i<=j then aC (iW O (n-j) j:Nat) else aC 0))/\B+1<c.next/\Fr h c/\q=i) n
  ⟨n,aB rfl,fN _,o,?_,om,F3,rfl⟩ ?_
 ·rw[g3]
  congr 2
  refine dJ λj hj=>?_
  by_cases e:j=n
  ·subst e;rw[bJ rfl,bJ (fN _),Nat.sub_self];rfl
  ·rw[bU e,bU om]
 clear g3 o o3 n3 e3 h3 F3 l g2 o2 n2 z Y P f2
 rintro q b h4 ⟨i,⟨g,rfl⟩,hi,gB,gS,nx,F,Z⟩
 subst Z
 by_cases x:(0:Int)<=(q:Int)- 1
 case neg=>
  have U:=bI x;obtain rfl:q=0:=om
  simp(disch:=omega)only[go_sem,U];refine⟨B+1,rfl,?_,F⟩;rw[tF gS om]
  rfl
 have U:=cI x
 obtain⟨i,rfl⟩: ∃i,q=i+1:=⟨q- 1,om⟩
 have ei:((i+1:Nat):Int)- 1=(i:Int):=om
 have eI:(i:Int)+1=((i+1:Nat):Int):=om
 rw[ei] at U ⊢
 have a:=iJ aO (i:=i) (by rw[iA,f.lo];omega) .undef []
 rw[oI zi (d:= []) (by rw[f.lo];omega)] at a
 obtain⟨a0,J,a2,a7,a4⟩:=(tO.mono F).shape n om om
 have co:h4.cell a0 (J+i)=some (wO.getD i .undef):=by rw[a4 i om,List.getD,dD om];rfl
 generalize wO.getD i .undef=vo at a co
 have lo:=a.lens
 rw[aS] at lo
 obtain⟨m,hm⟩:=exI ((O.getD i []).length)
 rw[hm] at lo
 have N:=p.row (j:=i) om
 rw[hm] at N
 have cS:h4.cell (B+1) (i+1)=some (aC ((iW O (n-(i+1)) (i+1):Nat):Int)):=by rw[tF gS om,bJ (fN _)]
 obtain⟨s,hs⟩:=exI (iW O (n-(i+1)) (i+1))
 rw[hs] at cS
 have t:=a6 (i+1) om
 rw[hs] at t
 have L:(1000000000000000000:Int).tdiv (m:Int)=((1000000000000000000/m:Nat):Int):=by
  rw[show (1000000000000000000:Int)=((1000000000000000000:Nat):Int) from rfl,Int.tdiv_eq_ediv_of_nonneg om];rfl
 have hq:100000000000000000<=1000000000000000000/m:=by
  rw[Nat.le_div_iff_mul_le om];omega
 have a9:1000000000000000000/m<=1000000000000000000:=Nat.div_le_self _ _
 have d2:decide (((1000000000000000000/m:Nat):Int)<(s:Int))=false:=bI om
 have K:(m:Int)*(s:Int)=((m*s:Nat):Int):=rfl
 have a8:m*s<=7*823543:=Nat.mul_le_mul om t.2
 have a3:i<n+1:=om
 have a5:(m:Int)≠0:=om
 simp(disch:=omega)only[go_sem,U,H.aF gB,a2.ixa,co,lo,eI,cS,L,a5,d2,K,gS,pt _ _ _ i _ a3]
 refine⟨i,om,i,aB rfl,om,gB,?_,om,?_,rfl⟩
 ·congr 2
  refine dJ λj hj=>?_
  by_cases e:j=i
  ·subst e
   rw[bJ rfl,bJ (fN _),show n-j=(n-(j+1))+1 by omega]
   unfold iW
   rw[hm,hs]
  ·rw[bU e]
   by_cases z:i+1<=j
   ·rw[bJ z,bJ om]
   ·rw[bU z,bU om]
 ·exact (F.bH om).set om _
theorem YV (o:V)(n:Nat)(O:LN)(R:jJ)(G:List Nat->Prop)(h:H)(d:GC W h o n O R G):
  Ev T 119 [o] h (λv h'=>v= .tup [aC (iW O n 0:Nat),aC 0]/\Fr h h'):=by
 obtain⟨i,j,e,x,q⟩:=d.ch
 subst e
 refine dW Lr rfl ?_
 have a:i.one=true:=oNs x
 have b:j.one=true:=oNt q
 obtain⟨B,m⟩:=exI h.next
 obtain⟨F,A,K,l,J,c⟩:=dK m [aC n,i,j]
 have y:=bV h (v:= aC n) (u:=i) (w:=j) rfl a b
 have t:=aJ l
 simp(disch:=omega)only[go_sem,Lr,aE,y,m,A,t]
 refine ((d.mono c).check).mono ?_
 rintro _ p ⟨rfl,f⟩
 have k:=aJ (h:=p) (id:=B) (by rw[f.get _ om];exact l)
 simp(disch:=omega)only[go_sem]
 refine bA (λz=>(z rfl).elim) (λ_=>?_)
 simp(disch:=omega)only[go_sem,k]
 refine (PB _ n O R G p ((d.mono c).mono f)).mono ?_
 rintro _ L ⟨S,rfl,r,s⟩
 simp(disch:=omega)only[go_sem,r]
 exact (c.trans f).trans s
end
theorem afI {h:H}{S k c:Nat}{vs:List V}{y w:V}(b:h.get S=some (.cells false vs))(m:vs.length=c)(j:k<c)(l:c<1000000)(a:SV h y 1 [w]):
  zK h 1 8 (.sl S 0 k (.kn c)) y=some (.sl S 0 (k+1) (.kn c),h.set S (some (.cells false (vs.set k w)))):=by
 have i:zK h 1 8 (.sl S 0 k (.kn c)) y=Ay.Fj h 1 8 (.sl S 0 k (.kn c)) 1 [w]:=by
  simp only[zK,a.len (n:=1) rfl om,a.slice]
 rw[i]
 have d:h.slice 1 (.sl S 0 k (.kn c))=some (vs.take k):=by
  simp only[H.slice,H.row,b,sub];rw[bJ om];simp
 have f:h.put S (0+k*1) [w]=some (h.set S (some (.cells false (vs.set k w)))):=by
  rw[H.put_eq,b,Nat.zero_add,tW,bT om]
 unfold Ay.Fj
 simp only[d,wZ]
 rw[bU om,bJ om,bJ om,f]
theorem FG {l:List Int}{a:List Nat}(c:l.Perm (zi a))(b:l.Pairwise (· <= ·)):l=zi (yF a):=by
 refine Yu ?_ b ?_
 ·exact c.trans ((oL a).map _).symm
 ·unfold zi
  rw[List.pairwise_map];exact (Ta a).imp λh=>om
theorem Hx (O:LN)(x:List Nat)(i:Nat):(jT O x i).length=(O.getD i []).length:=by simp [jT]
theorem acF {O:LN}{x:List Nat}{i k:Nat}(a:k<(O.getD i []).length):(jT O x i).getD k 0=x.getD ((O.getD i []).getD k 0) 0:=by
 unfold jT;rw[oI (λq=>x.getD q 0) (d:=0) a]
theorem CX {W:Nat->Prop}(vc vx:V)(n i:Nat)(O:LN)(R:jJ)(G:List Nat->Prop)(x:List Nat)(h:H)(gc:GC W h vc n O R G)(hi:i<n)(hx:SI h vx (zi x))(X:aY n x):
  Ev T 180 [vc,vx,aC i] h (λv h'=>Af h h' v (zi (yF (jT O x i)))):=by
 obtain⟨vO,vR,e,sO,sR⟩:=gc.ch
 subst e
 refine dW Ck rfl ?_
 have b:=gc.isc
 have n7:=gc.n7
 obtain⟨wO,tO,aO⟩:=sO
 have lO:=aO.length
 rw[iA,b.lo] at lO
 have U:=tO.cT.2.1
 have N:vR.one=true:=oNt sR
 obtain⟨B,hB⟩:=exI h.next
 obtain⟨h1,e1,n1,g1,o1,f1⟩:=dK hB [aC n,vO,vR]
 have bx:=bV h (v:= aC n) (u:=vO) (w:=vR) rfl U N
 have a:=iJ aO (i:=i) (by rw[iA,b.lo];omega) .undef []
 rw[oI zi (d:= []) (by rw[b.lo];omega)] at a
 obtain⟨A,f,a7,y,a8⟩:=(tO.mono f1).shape n om om
 have co:h1.cell A (f+i)=some (wO.getD i .undef):=by rw[a8 i om,List.getD,dD om];rfl
 generalize wO.getD i .undef=vo at a co
 have lo:=a.lens
 rw[aS] at lo
 obtain⟨m,s⟩:=exI ((O.getD i []).length)
 rw[s] at lo
 have a1:=gc.row (j:=i) hi
 rw[s] at a1
 have mk:Jz h1 1 8 [aC 0] (aC 0) (aC m)=some (.sl (B+1) 0 0 (.kn m),h1.new (.cells false (rc m λ_=> aC 0))):=by
  rw[uM om om om om,DK,tW,Jk,show ints (List.replicate m 0)=rc m λ_=> aC 0 from (Lq (by simp [aP]) λi hi=>by simp [ints,hi]).symm,n1]
  rfl
 obtain⟨h2,e2,n2,g2,o2,f2⟩:=dK n1 (rc m λ_=> aC 0)
 rw[e2] at mk
 have b1:h2.get B=some (.cells false [aC n,vO,vR]):=by rw[o2 _ om];exact g1
 have a3:h2.cell A (f+i)=some vo:=by rw[f2.cell (by have:=y om;omega)];exact co
 simp(disch:=omega)only[go_sem,Ck,aE,bx,hB,e1,H.aF g1,a7.ixa,co,lo,mk,H.aF b1,a3]
 obtain⟨b0,K,J,c,Q⟩:=a.open
 rw[aS,s] at J c Q
 obtain⟨idx,a2,Y,l,a0⟩:=hx.open
 rw[aS,X.len] at Y l a0
 refine aI (λk' o hh=> ∃(k:Nat),(∃g:Nat->V,o= [g 0,vx,g 2,g 3,g 4,.sl (B+1) 0 k (.kn m),g 6,vo,aC m,aC k,g 10])/\k<=m/\hh.get (B+1)=some (.cells false (rc m λj=>if j<k then aC ((jT O x i).getD j 0:Nat) else aC 0))/\B+1<hh.next/\Fr h hh/\k'=m-k) m
  ⟨0,aB rfl,iB _,by rw[g2];rfl,om,f1.trans f2,rfl⟩ ?_
 rintro k' o p ⟨k,⟨g,rfl⟩,hk,gS,nx,F,rfl⟩
 by_cases L:(k:Int)<(m:Int)
 ·have d1:=cI L
  have Z:k<m:=om
  have cq:p.cell b0 (K+k)=some (aC ((O.getD i []).getD k 0:Nat)):=by rw[F.cell (c om),Q k Z];congr 2;rw[zi,oI _ (d:=0) om]
  have hq:=Ky gc.cY b hi (q:=(O.getD i []).getD k 0) (bC om)
  have P:=acF (O:=O) (x:=x) (i:=i) (k:=k) om
  generalize (O.getD i []).getD k 0=q at cq hq P
  have cx:p.cell idx (a2+q)=some (aC (x.getD q 0:Nat)):=by rw[F.cell (l om),a0 q hq];congr 2;simp [zi,X.len,hq]
  obtain⟨h5,e5,n5,g5,o5,r⟩:=dK (h:=p) rfl [aC (x.getD q 0:Nat)]
  have a6:h5.get (B+1)=some (.cells false (rc m λj=>if j<k then aC ((jT O x i).getD j 0:Nat) else aC 0)):=by rw[r.get _ nx];exact gS
  have ap:=afI a6 (iQ _ _) Z om (SV.one (v:= aC (x.getD q 0:Nat)) (id:=p.next) om g5 (.kn 1))
  rw[lH] at ap
  simp(disch:=omega)only[go_sem,d1,J.ixa,cq,Y.ixa,cx,cK p (z:= aC 0) (v:= aC (x.getD q 0:Nat)) rfl rfl,e5,ap]
  rw[fJ k]
  refine⟨m-(k+1),om,k+1,aB rfl,om,?_,om,(F.trans r).set om _,rfl⟩
  congr 2
  refine dJ λj hj=>?_
  by_cases e:j=k
  ·subst e;rw[bJ rfl,bJ om,P]
  ·rw[bU e]
   by_cases e2:j<k
   ·rw[bJ e2,bJ om]
   ·rw[bU e2,bU om]
 have d1:=bI L
 obtain rfl:k=m:=om
 have a9:(zi (jT O x i)).length=k:=by rw[aS,Hx,s]
 have a4:p.get (B+1)=some (.cells false (ints (zi (jT O x i)))):=by
  rw[gS,←Sq,Hx,s];congr 2;exact dJ λj hj=>by rw[bJ hj]
 have so:=Mw p (B+1) (zi (jT O x i)) (.kn k) om a4 nx
 rw[a9] at so
 simp(disch:=omega)only[go_sem,d1]
 refine so.mono ?_
 rintro _ h5 ⟨l',g5,p5,a5,r⟩
 have el:=FG p5 a5
 subst el
 have ls:(zi (yF (jT O x i))).length=k:=by rw[aS,(oL _).length_eq,Hx,s]
 simp(disch:=omega)only[go_sem]
 refine⟨⟨B+1,_,by rw[ls],om,jM nx r.next,g5,.inr (by rw[ls])⟩,⟨mY F.next r.next,λid t=>?_⟩⟩
 rw[r.get id (jM t F.next) (λe=>by have:id=B+1:=e;omega)]
 exact F.get id t
theorem SL: ∀{l:List Nat} {k im:Nat},l[k]? =some im->l.idxOf im<=k
 | [],k,im,h=>by simp at h
 |a::l,0,im,h=>by
  have:a=im:=by simpa using h
  subst this;simp [List.idxOf_cons]
 |a::l,k+1,im,h=>by
  rw[List.idxOf_cons]
  by_cases e:a=im
  ·subst e;simp
  ·have b:(a==im)=false:=by simpa using e
   rw[b];have:=SL (l:=l) (k:=k) (im:=im) (by simpa using h);simp only[cond_false];omega
theorem agO (z J:V)(a b:Nat)(o x:List Nat)(im:Nat)(h:H)(hn:o.length<1000000)(O:SI h z (zi o))(hx:SI h J (zi x))(ha:h.get a=some (.cells false [J]))(W:h.get b=some (.cells false [aC im]))(G:a<h.next)(N:b<h.next)(hr: ∀q∈o,q<x.length)(u:im∈o.map λq=>x.getD q 0):
  Ev T 222 [z,.fn 223 [] [.ptr a 0,.ptr b 0]] h (λv h'=>v= aC ((o.map λq=>x.getD q 0).idxOf im:Nat)/\Fr h h'):=by
 refine dW mJ rfl ?_
 have R:=O.lens
 rw[aS] at R
 obtain⟨B,t,r,i,y⟩:=O.open
 rw[aS] at r i y
 obtain⟨idx,w,p,j,s⟩:=hx.open
 rw[aS] at p j s
 have K:=iLL.2 u
 rw[iA] at K
 simp(disch:=omega)only[go_sem,mJ,aE,R]
 refine aI (λQ l f=> ∃(k:Nat),(∃g:Nat->V,l= [z,.fn 223 [] [.ptr a 0,.ptr b 0],g 2,g 3,aC (o.length:Int),aC k,g 6,g 7])/\k<=(o.map λq=>x.getD q 0).idxOf im/\Fr h f/\Q=o.length-k) o.length
  ⟨0,aB rfl,iB _,Fr.refl h,rfl⟩ ?_
 rintro Q l f ⟨k,⟨g,rfl⟩,hk,F,rfl⟩
 have c:k<o.length:=om
 have Y:decide ((k:Int)<(o.length:Int))=true:=cI om
 have U:f.cell B (t+k)=some (aC (o.getD k 0:Nat)):=by rw[F.cell (i om),y k c];congr 2;rw[zi,oI _ (d:=0) c]
 have L:=hr _ (bC (d:=0) c)
 have m:(o.map λq=>x.getD q 0)[k]'(by simpa using c)=x.getD (o.getD k 0) 0:=by simp [List.getD,c]
 generalize o.getD k 0=q at U L m
 have cx:f.cell idx (w+q)=some (aC (x.getD q 0:Nat)):=by rw[F.cell (j om),s q L];congr 2;simp [zi,L]
 have Z:f.cell a 0=some J:=by rw[H.aF (by rw[F.get _ G];exact ha)];rfl
 have cb:f.cell b 0=some (aC im):=by rw[H.aF (by rw[F.get _ N];exact W)];rfl
 have cl:Ev T 223 [aC q,.ptr a 0,.ptr b 0] f (λv h'=>v= .bool (decide (((x.getD q 0:Nat):Int)=(im:Int)))/\Fr f h'):=by
  refine dW Et rfl ?_;simp(disch:=omega)only[go_sem,Et,aE,Z,p.ixa,cx,cb];exact (Fr.refl f).bH om
 simp(disch:=omega)only[go_sem,Y,r.ixa,U]
 refine cl.mono ?_
 rintro _ h2 ⟨rfl,P⟩
 by_cases n:((x.getD q 0:Nat):Int)=(im:Int)
 ·rw[cI n]
  simp(disch:=omega)only[go_sem]
  have:(o.map λq=>x.getD q 0).idxOf im=k:=by
   have A:(o.map λq=>x.getD q 0).idxOf im<=k:=SL (by
    rw[dD (by simpa using c),m]
    congr 1;omega)
   omega
  rw[this]
  exact⟨rfl,F.trans P⟩
 ·rw[bI n]
  simp(disch:=omega)only[go_sem]
  rw[fJ k]
  refine⟨o.length-(k+1),om,k+1,aB rfl,?_,F.trans P,rfl⟩
  have:(o.map λq=>x.getD q 0).idxOf im≠k:=λe=>by
   have A:=List.getElem_idxOf (iLL.2 u);simp only[e] at A;rw[m] at A;omega
  omega
theorem adJ {W:Nat->Prop}(vc l:V)(n i im:Nat)(O:LN)(R:jJ)(G:List Nat->Prop)(x:List Nat)(h:H)(m:GC W h vc n O R G)(hi:i<n)(K:SI h l (zi x))(X:aY n x)(t:im∈jT O x i):
  Ev T 181 [vc,l,aC i,aC im] h (λv h'=>Af h h' v (zi (fY O R x i im))):=by
 obtain⟨N,L,e,sO,sR⟩:=m.ch
 subst e
 refine dW Mb rfl ?_
 have a:=m.isc
 have n7:=m.n7
 obtain⟨wO,tO,aO⟩:=sO
 obtain⟨wR,tR,aR,kR⟩:=sR
 have lO:=aO.length
 have lR:=aR.length
 rw[iA,a.lo] at lO
 rw[iA,a.lr] at lR
 have y:=tO.cT.2.1
 have p:=tR.cT.2.1
 obtain⟨B,hB⟩:=exI h.next
 obtain⟨h1,e1,n1,g1,o1,f1⟩:=dK hB [aC n,N,L]
 obtain⟨h2,e2,n2,g2,o2,f2⟩:=dK n1 [l]
 obtain⟨Q,e3,n3,g3,o3,f3⟩:=dK n2 [aC im]
 have P:=(f1.trans f2).trans f3
 have bx:=bV h (v:= aC n) (u:=N) (w:=L) rfl y p
 have a3:=mE K.cT.1 K.cT.2.1 h1
 have a8:=Qe h2 .i64 (im:Int)
 have J:Q.get B=some (.cells false [aC n,N,L]):=by rw[o3 _ om,o2 _ om];exact g1
 have A:Q.get (B+1)=some (.cells false [l]):=by rw[o3 _ om];exact g2
 have b:=iJ aO (i:=i) (by rw[iA,a.lo];omega) .undef []
 rw[oI zi (d:= []) (by rw[a.lo];omega)] at b
 obtain⟨U,z,a2,b5,a4⟩:=(tO.mono P).shape n om om
 have co:Q.cell U (z+i)=some (wO.getD i .undef):=by rw[a4 i om,List.getD,dD om];rfl
 generalize wO.getD i .undef=vo at b co
 simp(disch:=omega)only[go_sem,Mb,aE,bx,hB,e1,a3,n1,e2,a8,n2,e3,H.aF J,a2.ixa,co]
 have row:=m.row (j:=i) hi
 refine (agO vo l (B+1) (B+1+1) (O.getD i []) x im Q om (b.mono P) (K.mono P) A g3 om om (λq hq=>by rw[X.len];exact Ky m.cY a hi hq) t).mono ?_
 rintro _ f ⟨rfl,f4⟩
 obtain⟨k,hk,ek,_,a9,es,Y,_⟩:=xS m.cY a X hi t
 have a5:(List.map (λq=>x.getD q 0) (O.getD i [])).idxOf im=k:=ek
 rw[a5,es]
 have r:=P.trans f4
 have b0:f.get B=some (.cells false [aC n,N,L]):=by rw[f4.get _ om];exact J
 have a0:f.get (B+1)=some (.cells false [l]):=by rw[f4.get _ om];exact A
 have c:=iJ aR (i:=i) (by rw[iA,a.lr];omega) .undef []
 rw[oI (List.map zi) (d:= []) (by rw[a.lr];omega)] at c
 obtain⟨b2,o,a6,b4,a1⟩:=(tR.mono r).shape n om om
 have cr:f.cell b2 (o+i)=some (wR.getD i .undef):=by rw[a1 i om,List.getD,dD om];rfl
 generalize wR.getD i .undef=vr at c cr
 obtain⟨wr,tr,ar⟩:=c
 have lr:=ar.length
 rw[iA] at lr
 have F:k<(R.getD i []).length:=by rw[a.rl i hi];exact hk
 have sz:=iJ ar (i:=k) (by rw[iA];exact F) .undef []
 rw[oI zi (d:= []) F] at sz
 obtain⟨b3,s,a7,b6,b1⟩:=(tr.mono r).shape (R.getD i []).length om om
 have cz:f.cell b3 (s+k)=some (wr.getD k .undef):=by rw[b1 k om,List.getD,dD om];rfl
 generalize wr.getD k .undef=vz at sz cz
 have b7:(k:Int)<((R.getD i []).length:Int):=om
 have Z:=m.cY.bF a9.mem
 have fb:Fr f (H.mk f.tr (f.next+11)):=(Fr.refl f).bH om
 simp(disch:=omega)only[go_sem,H.aF b0,a6.ixa,cr,a7.ixa,cz,H.aF a0]
 refine (nZ EU.ok vz l _ x (H.mk f.tr (f.next+11)) (by rw[Z.len];omega) (sz.mono (r.trans fb)) (K.mono (r.trans fb)) (λj hj=>by rw[X.len];exact Z.fX (by rw[←Z.len];exact hj))).mono ?_
 rintro v h5 nw
 simp(disch:=omega)only[go_sem]
 exact (Ud nw).le (r.trans fb)
def Kept (b:Nat)(W:Nat->Prop)(hh h':H):Prop:=hh.next<=h'.next/\ ∀id,id<hh.next->(id<b∨W id)->h'.get id=hh.get id
theorem Kept.fr {b:Nat}{W:Nat->Prop}{a h':H}(f:Fr a h'):Kept b W a h':=⟨f.next,λid h _=>f.get id h⟩
structure Rdr (id b:Nat)(L:LN)(W0:Nat->Prop)(J:Nat->(Nat->Prop)->H->Prop)(D:(Nat->Prop)->H->Prop):Prop where
 kJ: ∀k W hh h',J k W hh->Kept b W hh h'->J k W h'
 kD: ∀W hh h',D W hh->Kept b W hh h'->D W h'
 y: ∀k W hh v,k<L.length->J k W hh->PV W hh v (L.getD k [])->(∀id,W id->id<hh.next)->b<=hh.next->(∀id,id<b->W id->W0 id)->
  Ey T id [v] hh (λv h'=> ∃W2,(∀id,id<hh.next->W2 id->W id)/\(∀id,W2 id->id<h'.next)/\Fx W hh h'/\(v= .bool true/\J (k+1) W2 h'∨v= .bool false/\D W2 h'))
def ElC (n:Nat)(vO vR:V)(O:LN)(R:jJ)(G:List Nat->Prop)(d:Nat):Prop:=
 ∀(i:Nat) (x:List Nat) (vx:V) (id bi bc bx:Nat) (h:H) (W:Nat->Prop) (J:Nat->(Nat->Prop)->H->Prop) (D:(Nat->Prop)->H->Prop),i+d=n->aY n x->
  h.get bi=bB [aC i]->h.get bc=bB [aC n,vO,vR]->h.get bx=bB [vx]->PV W h vx x->bi<h.next->bc<h.next->bx<h.next-> ¬W bi-> ¬W bc-> ¬W bx->
  GC W h (.agg [aC n,vO,vR]) n O R G->(∀id,W id->id<h.next)->J 0 W h->Rdr id h.next (dM O R d i x) W J D->
  Ev T 179 [.yl id,.ptr bi 0,.ptr bc 0,.ptr bx 0] h (λ_ h'=> ∃W2,(∀id,id<h.next->W2 id->W id)/\(∀id,W2 id->id<h'.next)/\Fx W h h'/\(J (dM O R d i x).length W2 h'∨D W2 h'))
theorem ZK (n:Nat)(Q l:V)(O:LN)(R:jJ)(G:List Nat->Prop):ElC n Q l O R G 0:=by
 intro i x u id w q N h W J D hi X K A z Y li lc lx wi wc wx g o L rd;refine dW lT rfl ?_;obtain rfl:i=n:=om
 obtain⟨B,j⟩:=exI h.next;obtain⟨a,Z,n1,s,d,c⟩:=dK j [.yl id];have f:=mE (x:= .yl id) rfl rfl h;have ci:=H.aF (h:=a) (id:=w) (by rw[d _ om];exact K);have F:=H.aF (h:=a) (id:=q) (by rw[d _ om];exact A);have P:=H.aF (h:=a) (id:=N) (by rw[d _ om];exact z);have d1:decide ((i:Int)=(i:Int))=true:=cI rfl;simp(disch:=omega)only[go_sem,lT,aE,f,j,Z,ci,F];refine bA (λ_=>?_) (λr=>(r (by first|rfl|trivial)).elim);simp(disch:=omega)only[go_sem,H.aF s,P];refine (rd.y 0 W a u (by simp [dM]) (rd.kJ 0 W h a L (Kept.fr c)) (Y.mono c) (λid h=>by have:=o id h;omega) om (λid _ h=>h)).mono ?_;rintro v k ⟨m,U,t,p,b⟩;simp(disch:=omega)only[go_sem];refine⟨m,λid a k=>U id om k,t,(Fx.of c).trans p (λ_ _ h=>h),?_⟩;rcases b with ⟨_,b⟩|⟨_,b⟩
 ·exact .inl b
 ·exact .inr b
theorem UJ (d:Int)(c b a:V)(i:Int)(J:c.one=true)(x:b.one=true)(l:a.cells= [a])(k:a.one=true)(h:H):Ev T 136 [.agg [aC d,c,b],a,aC i] h (λv h'=>v= .fn 179 [] [.ptr (h.next+1+1) 0,.ptr h.next 0,.ptr (h.next+1) 0]/\
  h'.get h.next=bB [aC d,c,b]/\h'.get (h.next+1)=bB [a]/\h'.get (h.next+1+1)=bB [aC i]/\h'.next=h.next+3/\Fr h h'):=by
 refine dW zT rfl ?_
 obtain⟨B,p⟩:=exI h.next
 obtain⟨r,P,o,t,Q,s⟩:=dK p [aC d,c,b]
 obtain⟨N,A,n,z,q,G⟩:=dK o [a]
 obtain⟨R,K,O,F,m,y⟩:=dK n [aC i]
 have L:=bV h (v:= aC d) (u:=c) (w:=b) rfl J x
 have j:=mE l k r
 have f:=Qe N .i64 i
 simp(disch:=omega)only[go_sem,zT,aE,L,p,P,j,o,A,f,n,K]
 exact⟨by rw[m _ om,q _ om];exact t,by rw[m _ om];exact z,F,O,(s.trans G).trans y⟩
theorem RP {α β:Type}{l:List α}{f:α->List β}{m:Nat}(a:m<l.length)(d:α):((l.take (m+1)).flatMap f).length=((l.take m).flatMap f).length+(f (l.getD m d)).length:=by
 rw[eY d a,List.flatMap_append];simp
theorem GW {α β:Type}{f:α->List β}{e:β}(d:α): ∀{l:List α} {m k:Nat},m<l.length->k<(f (l.getD m d)).length->(l.flatMap f).getD (((l.take m).flatMap f).length+k) e=(f (l.getD m d)).getD k e/\((l.take m).flatMap f).length+k<(l.flatMap f).length
 | [],m,k,h,_=>by simp at h
 |a::l,0,k,_,b=>by
  have b:k<(f a).length:=b;constructor
  ·simp only[List.take_zero,List.flatMap_nil,List.length_nil,Nat.zero_add,List.flatMap_cons]
   rw[List.getD,List.getD,Dt b];rfl
  ·simp;omega
 |a::l,m+1,k,h,b=>by
  have j:m<l.length:=by simpa using h
  have c:k<(f (l.getD m d)).length:=by simpa using b
  obtain⟨i,n⟩:=GW (e:=e) d (l:=l) j c;constructor
  ·simp only[List.take_succ_cons,List.flatMap_cons,iV]
   rw[Nat.add_assoc,List.getD,Jg om,Nat.add_sub_cancel_left];exact i
  ·simp only[List.take_succ_cons,List.flatMap_cons,iV];omega
structure InJ (off id2 b4 id:Nat)(r:fK)(J:Nat->(Nat->Prop)->H->Prop)(W0:Nat->Prop)(k:Nat)(W:Nat->Prop)(hh:H):Prop where
 ex: ∃W3,(∀id,W id↔(W3 id∨id=id2))/\ ¬W3 id2/\ ¬W3 b4/\J (off+k) W3 hh/\(∀id,W3 id->id<hh.next)/\ ∀id,id<id2->W3 id->W0 id
 gr:hh.get id2=some (.loop r)
 g4:hh.get b4=bB [.yl id]
 nx:id2<hh.next
structure InD (id2 b4:Nat)(r:fK)(D:(Nat->Prop)->H->Prop)(W0:Nat->Prop)(W:Nat->Prop)(hh:H):Prop where
 ex: ∃W3,(∀id,W id↔(W3 id∨id=id2))/\ ¬W3 id2/\D W3 hh/\(∀id,W3 id->id<hh.next)/\ ∀id,id<id2->W3 id->W0 id
 gr:hh.get id2=some (.loop (vD r .ret))
 nx:id2<hh.next
theorem adU (n:Nat)(F A:V)(O:LN)(R:jJ)(G:List Nat->Prop)(d:Nat)(ih:ElC n F A O R G d):ElC n F A O R G (d+1):=by
 intro i x vx id bi bc bx h W J D hi X gi gc gx px li lc lx wi wc wx gC hW hJ rd;refine dW lT rfl ?_;have a3:i<n:=om
 have n7:=gC.n7
 obtain⟨d3,c4⟩:F.one=true/\A.one=true:=by
  obtain⟨a,b,e,s1,s2⟩:=gC.ch;cases e;obtain⟨_,t1,_⟩:=s1;obtain⟨_,t2,_⟩:=s2;exact⟨t1.cT.2.1,t2.cT.2.1⟩
 obtain⟨B,hB⟩:=exI h.next;obtain⟨p,e1,n1,g1,o1,f1⟩:=dK hB [.yl id];have e6:=mE (x:= .yl id) rfl rfl h;have c9:p.get bi=bB [aC i]:=by rw[o1 _ om];exact gi
 have b9:p.get bc=bB [aC n,F,A]:=by rw[o1 _ om];exact gc
 have c7:p.get bx=bB [vx]:=by rw[o1 _ om];exact gx
 have d1:decide ((i:Int)=(n:Int))=false:=bI om;have d5:=aJ b9;simp(disch:=omega)only[go_sem,lT,aE,e6,hB,e1,H.aF c9,H.aF b9,d1,d5,H.aF c7];refine (CX (.agg [aC n,F,A]) vx n i O R G x p (gC.mono f1) a3 (px.mono f1).si X).mono ?_;rintro v8 c b8;obtain⟨cs,a5⟩:=exI (yF (jT O x i));rw[a5] at b8;have f2:=b8.fr;have F2:=f1.trans f2
 have i3:cs.length<=7:=by
  have:=(gC.row (j:=i) a3).2;rw[←a5,(oL _).length_eq,Hx];omega
 have f7: ∀q,q∈cs->q∈jT O x i:=λq h=>(oL _).mem_iff.1 (by rw[a5];exact h)
 have hL:dM O R (d+1) i x=cs.flatMap λq=>dM O R d (i+1) (fY O R x i q):=by rw[←a5];rfl
 obtain⟨P,cp,b2,i2,f3,gP,_⟩:=b8.ex;rw[aS] at b2;have l8:bL v8=some (aC (cs.length:Int)):=by rw[b2];rfl
 have f0:J 0 W c:=rd.kJ 0 W h c hJ (Kept.fr F2);have n2:=f2.next;simp(disch:=omega)only[go_sem,l8];refine aI (λk' b0 hh=> ∃(m:Nat) (s:Nat->Prop),(∃g:Nat->V,b0= [.yl id,.ptr bi 0,.ptr bc 0,.ptr bx 0,.ptr B 0,g 5,g 6,g 7,v8,aC (cs.length:Int),aC m,g 11,g 12,g 13,g 14])/\m<=cs.length/\J ((cs.take m).flatMap λq=>dM O R d (i+1) (fY O R x i q)).length s hh/\Fx W c hh/\(∀id,id<c.next->s id->W id)/\(∀id,s id->id<hh.next)/\k'=cs.length-m) cs.length
  ⟨0,W,aB rfl,iB _,f0,Fx.refl _ _,λ_ _ h=>h,λid h=>by have:=hW id h;omega,rfl⟩ ?_
 rintro k' b0 u ⟨m,s,⟨g,rfl⟩,hm,a6,F3,w1,w2,rfl⟩
 by_cases c3:(m:Int)<(cs.length:Int)
 case neg=>
  have d2:=bI c3;obtain rfl:m=cs.length:=om
  simp(disch:=omega)only[go_sem,d2];rw[List.take_length,←hL] at a6;exact⟨s,λid p c=>w1 id om c,w2,(Fx.of F2).trans F3 (λ_ _ h=>h),.inl a6⟩
 have d2:=cI c3;have a7:m<cs.length:=om
 obtain⟨q,L⟩:=exI (cs.getD m 0);have a8:q∈jT O x i:=f7 q (by rw[←L];exact bC a7);obtain⟨_,_,_,_,_,_,Y,_⟩:=xS gC.cY gC.isc X a3 a8;have n3:=F3.next;have tU: ∀k,k<c.next-> ¬W k->u.get k=c.get k:=λk p c=>F3.get k p c
 have wB: ¬W B:=λh=>by have:=hW B h;omega
 have wP: ¬W P:=λh=>by have:=hW P h;omega
 have c8:u.get bi=bB [aC i]:=by rw[tU _ om wi,f2.get _ om];exact c9
 have b4:u.get bc=bB [aC n,F,A]:=by rw[tU _ om wc,f2.get _ om];exact b9
 have d9:u.get bx=bB [vx]:=by rw[tU _ om wx,f2.get _ om];exact c7
 have e8:u.get B=bB [.yl id]:=by rw[tU _ om wB,f2.get _ om];exact g1
 have cP:u.cell P m=some (aC q):=by rw[H.aF (by rw[tU _ f3 wP];exact gP),Ff a7,L]
 have d4:=aJ b4
 have eO:dI F F=true:=by
  obtain⟨a,b,e,s1,s2⟩:=gC.ch;cases e;obtain⟨_,t1,_⟩:=s1;exact t1.dI
 have eR:dI A A=true:=by
  obtain⟨a,b,e,s1,s2⟩:=gC.ch;cases e;obtain⟨_,t2,_⟩:=s2;exact t2.dI
 have g5:GC W u (.agg [aC n,F,A]) n O R G:=(gC.mono F2).go F3 (λ_ _ h=>h);have g2:PV W u vx x:=(px.mono F2).fx F3;have fb:Fr u (H.mk u.tr (u.next+9)):=(Fr.refl u).bH om;rw[b2];have g0:(i:Int)+1=((i+1:Nat):Int):=om
 simp(disch:=omega)only[go_sem,d2,cP,d4,aJ (h:=H.mk u.tr (u.next+9)) b4,H.aF d9,H.aF c8,g0];refine (adJ (.agg [aC n,F,A]) vx n i q O R G x (H.mk u.tr (u.next+9)) (g5.mono fb) a3 (g2.mono fb).si X a8).mono ?_;rintro b5 h4 c5;have f4:=fb.trans c5.fr;have n4:=f4.next;have e3:h4.get bi=bB [aC i]:=by rw[f4.get _ om];exact c8
 have e2:h4.get bc=bB [aC n,F,A]:=by rw[f4.get _ om];exact b4
 have b3:PV s h4 b5 (fY O R x i q):=c5.pv λid h=>by have:=w2 id h;simp;omega
 simp(disch:=omega)only[go_sem,H.aF e3,aJ e2,eO,eR];refine (UJ (n:Int) F A b5 ((i+1:Nat):Int) d3 c4 b3.fG.1 b3.fG.2 h4).mono ?_;rintro _ h5 ⟨rfl,d6,e7,e5,n5,f5⟩;simp(disch:=omega)only[go_sem];refine⟨rfl,wF λr hr=>?_⟩;obtain⟨o,b7⟩:=exI h5.next;rw[b7];have jI:r.st= .ready:=by rw[hr]
 have c1:r.pend=none:=by rw[hr]
 obtain⟨h6,a4⟩: ∃h6,h6=h5.new (.loop r):=⟨_,rfl⟩
 have d8:h6.get o=some (.loop r):=by rw[a4,←b7,H.aL]
 have n6:h6.next=o+1:=by rw[a4,H.aW,b7]
 have f6:Fr h5 h6:=by rw[a4];exact (Fr.refl h5).new _
 rw[←a4];have b6:=(f4.trans f5).trans f6;obtain⟨N,U⟩:=exI (((cs.take m).flatMap λq=>dM O R d (i+1) (fY O R x i q)).length);rw[U] at a6;have g8:=f5.next;have g3: ¬s o:=λh=>by have:=w2 o h;omega
 have f8: ¬s B:=λh=>wB (w1 B om h)
 have e4: ∀k,k<(dM O R d (i+1) (fY O R x i q)).length->(dM O R (d+1) i x).getD (N+k) []=(dM O R d (i+1) (fY O R x i q)).getD k []/\N+k<(dM O R (d+1) i x).length:=λk hk=>by
  rw[hL,←U];have:=GW (f:=λq=>dM O R d (i+1) (fY O R x i q)) (e:=([]:List Nat)) 0 (l:=cs) (m:=m) (k:=k) a7 (by rw[L];exact hk);rw[L] at this;exact this
 have d0:Fx W h h6:=((Fx.of F2).trans F3 (λ_ _ h=>h)).trans (Fx.of b6) (λ_ _ h=>h)
 have e0:Rdr o h6.next (dM O R d (i+1) (fY O R x i q)) (λk=>s k∨k=o) (InJ N o B id r J s) (InD o B r D s):=by
  refine⟨λk W2 hh h' j K=>?_,λW2 hh h' j K=>?_,λk W2 hh v hk j pv i0 i1 h8=>?_⟩
  ·obtain⟨W3,t,Z,q3,q4,q5,q6⟩:=j.ex
   have nx:=j.nx;exact⟨⟨W3,t,Z,q3,rd.kJ _ _ _ _ q4 ⟨K.1,λid p c=>K.2 id p (by rcases c with c|c;exact .inl om;exact .inr ((t id).2 (.inl c)))⟩,λid h=>jM (q5 id h) K.1,q6⟩,by rw[K.2 _ nx (.inl om)];exact j.gr,by rw[K.2 _ om (.inl om)];exact j.g4,jM nx K.1⟩
  ·obtain⟨W3,t,Z,q4,q5,q6⟩:=j.ex
   have nx:=j.nx;exact⟨⟨W3,t,Z,rd.kD _ _ _ q4 ⟨K.1,λid p c=>K.2 id p (by rcases c with c|c;exact .inl om;exact .inr ((t id).2 (.inl c)))⟩,λid h=>jM (q5 id h) K.1,q6⟩,by rw[K.2 _ nx (.inl om)];exact j.gr,jM nx K.1⟩
  ·obtain⟨W3,t,Z,q3,q4,q5,q6⟩:=j.ex
   have nx:=j.nx;obtain⟨g7,d7⟩:=e4 k hk;refine uC j.gr (by rw[hr];rfl) jI λh9 g9 n9 o9=>?_
   rw[congrArg fK.assign hr,congrArg fK.vars hr,congrArg fK.pars hr];simp(disch:=omega)only[go_sem,List.zip_cons_cons,List.zip_nil_left];rw[congrArg fK.body hr];have c6:h9.get B=bB [.yl id]:=by rw[o9 _ om];exact j.g4
   have f9:Fx W2 hh h9:=⟨om,λk _ c=>o9 k λe=>c ((t k).2 (.inr e))⟩
   have k9:Kept h.next W3 hh h9:=⟨om,λk p c=>o9 k λe=>by
    subst e;rcases c with c|c
    ·omega
    ·exact Z c⟩
   simp(disch:=omega)only[go_sem,H.aF c6];refine (rd.y (N+k) W3 h9 v d7 (rd.kJ _ _ _ _ q4 k9) (by rw[g7];exact PV.go pv f9 λid _ h=>(t id).2 (.inl h)) (λid h=>by rw[n9];exact q5 id h) om (λid p c=>w1 id om (q6 id om c))).mono ?_;rintro v' w ⟨W4,u1,u2,a0,hv⟩;have h0:=a0.next;have c0: ¬W4 o:=λh=>Z (u1 o om h)
   have e9: ¬W4 B:=λh=>q3 (u1 B om h)
   have a9:w.get o=some (.loop (qE r)):=by rw[a0.get o om Z];exact g9
   have c2:w.get B=bB [.yl id]:=by rw[a0.get B om q3];exact c6
   have b1:Fx W2 hh w:=f9.trans a0 λid _ h=>(t id).2 (.inl h)
   have low: ∀k,k<o->W4 k->s k:=λk p c=>q6 k p (u1 k om c)
   have kk: ∀r2:fK,Kept h.next W4 w (w.set o (some (.loop r2))):=λr2=>⟨fN _,λk p c=>H.aH _ (λe=>by
    subst e;rcases c with c|c
    ·omega
    ·exact c0 c) _⟩
   rcases hv with ⟨rfl,hv⟩|⟨rfl,hv⟩
   ·simp(disch:=omega)only[go_sem]
    refine pU jI c1 a9 ⟨λk=>W4 k∨k=o,λk p c=>?_,λk c=>?_,b1.trans (Fx.set w ((t o).2 (.inr rfl)) _) (λ_ _ h=>h),.inl ⟨rfl,⟨W4,λk=>Iff.rfl,c0,e9,?_,u2,low⟩,by rw[H.aU],by rw[H.aH _ om];exact c2,by simp only[H.cV];omega⟩⟩
    ·rcases c with c|c
     ·exact (t k).2 (.inl (u1 k om c))
     ·exact (t k).2 (.inr c)
    ·rcases c with c|c
     ·exact u2 k c
     ·simp only[H.cV];omega
    ·exact rd.kJ _ _ _ _ hv (kk r)
   ·simp(disch:=omega)only[go_sem]
    refine Ty a9 ⟨λk=>W4 k∨k=o,λk p c=>?_,λk c=>?_,b1.trans (Fx.set w ((t o).2 (.inr rfl)) _) (λ_ _ h=>h),.inr ⟨rfl,⟨W4,λk=>Iff.rfl,c0,?_,u2,low⟩,by rw[H.aU],by simp only[H.cV];omega⟩⟩
    ·rcases c with c|c
     ·exact (t k).2 (.inl (u1 k om c))
     ·exact (t k).2 (.inr c)
    ·rcases c with c|c
     ·exact u2 k c
     ·simp only[H.cV];omega
    ·exact rd.kD _ _ _ hv (kk _)
 have z: ∀k,k<h5.next->h6.get k=h5.get k:=λk hk=>f6.get k hk
 have g6:GC (λk=>s k∨k=o) h6 (.agg [aC n,F,A]) n O R G:=gC.go d0 λk p c=>by
  rcases c with c|c
  ·exact w1 k om c
  ·omega
 refine (ih (i+1) (fY O R x i q) b5 o (h4.next+1+1) h4.next (h4.next+1) h6 (λk=>s k∨k=o) (InJ N o B id r J s) (InD o B r D s) om Y (by rw[z _ om];exact e5) (by rw[z _ om];exact d6) (by rw[z _ om];exact e7)
  (((b3.mono f5).kO λk p c=>(by rcases c with c|c;exact c;omega)).mono f6) om om om (λh=>by rcases h with h|h;have:=w2 _ h;omega;omega) (λh=>by rcases h with h|h;have:=w2 _ h;omega;omega) (λh=>by rcases h with h|h;have:=w2 _ h;omega;omega) g6 (λk h=>by rcases h with h|h;have:=w2 _ h;omega;omega)
  ⟨⟨s,λk=>Iff.rfl,g3,f8,rd.kJ _ _ _ _ a6 (Kept.fr b6),λk h=>by have:=w2 _ h;omega,λ_ _ h=>h⟩,d8,by rw[z _ om,f5.get _ om,f4.get _ om];exact e8,om⟩ e0).mono ?_
 rintro _ h7 ⟨W7,a1,a2,F7,j|j⟩
 ·obtain⟨W3,t,Z,q3,q4,q5,q6⟩:=j.ex
  have nx:=j.nx;refine⟨r,j.gr,by rw[jI];simp,?_⟩;have en:r.pend.getD .norm= .norm:=by rw[c1];rfl
  rw[en];simp(disch:=omega)only[go_sem];rw[fJ m]
  have Q:Fx W c h7:=F3.trans ((Fx.of (W:=λk=>s k∨k=o) b6).trans F7 (λ_ _ h=>h)) λk p c=>by
   rcases c with c|c
   ·exact w1 k p c
   ·omega
  refine⟨cs.length-(m+1),om,m+1,W3,aB rfl,om,?_,⟨Q.next,λk p c=>by rw[H.aH _ om];exact Q.get k p c⟩,λk p c=>w1 k p (q6 k om c),q5,rfl⟩;rw[RP a7 0,L,U]
  refine rd.kJ _ _ _ _ q4 ⟨fN _,λk p c=>H.aH _ (λe=>by
   subst e;rcases c with c|c
   ·omega
   ·exact Z c) _⟩
 ·obtain⟨W3,t,Z,q4,q5,q6⟩:=j.ex
  have nx:=j.nx;refine⟨_,j.gr,by simp [vD],?_⟩;have en:(vD r .ret).pend.getD .norm= .ret:=rfl;rw[en];simp(disch:=omega)only[go_sem]
  have Q:Fx W h h7:=d0.trans F7 λk p c=>by
   rcases c with c|c
   ·exact w1 k om c
   ·omega
  refine⟨W3,λk p c=>w1 k om (q6 k om c),q5,⟨Q.next,λk p c=>by rw[H.aH _ om];exact Q.get k p c⟩,.inr ?_⟩
  refine rd.kD _ _ _ q4 ⟨fN _,λk p c=>H.aH _ (λe=>by
   subst e;rcases c with c|c
   ·omega
   ·exact Z c) _⟩
theorem TD (n:Nat)(b a:V)(O:LN)(R:jJ)(G:List Nat->Prop): ∀d,ElC n b a O R G d
 |0=>ZK n b a O R G
 |d+1=>adU n b a O R G d (TD n b a O R G d)
def ajL (W M:Nat->Prop)(b:Nat)(hh:H)(w:V)(x:List Nat):Prop:= ∃id cap,w= .sl id 0 x.length cap/\W id/\ ¬M id/\b<=id/\id<hh.next/\hh.get id=bB (ints (zi x))
structure LsJ (h:H)(b0 A B id2:Nat)(r:fK)(l:LN)(W:Nat->Prop)(hh:H):Prop where
 ex: ∃va ws M,hh.get A=bB [va]/\dH hh va 1 ws (id2+1)/\aN (ajL W M (id2+1) hh) ws l/\Ik M va/\(∀id,M id->W id)/\(∀id,M id->id<hh.next)/\M A/\ ∀id off n c,va= .sl id off n c->id≠id2/\id≠A
 gr:hh.get id2=some (.loop r)
 wA:W A
 w2:W id2
 g1:hh.get (B+1)=bB [.aD]
 g2:hh.get (B+1+1)=bB [aC 0]
 nx:id2<hh.next
 nA:A<hh.next
 fr:Fr h hh
theorem LsJ.kept {h:H}{o b A B a:Nat}{r:fK}{l:LN}{W:Nat->Prop}{f h':H}(j:LsJ h o A B a r l W f)(k:Kept b W f h')(G:B+1+1<b)(J:h.next<=b)(F:b<=f.next):LsJ h o A B a r l W h':=by
 obtain⟨z,v,M,s,t,el,m,i,u,y,ne⟩:=j.ex
 refine⟨⟨z,v,M,by rw[k.2 A j.nA (.inr j.wA)];exact s,t.mono k.1 λid q n c e _ p=>k.2 id p (.inr (i _ (m _ _ _ _ e))),el.mono λw x ⟨id,cap,e,e1,e2,e3,e4,e5⟩=>⟨id,cap,e,e1,e2,e3,jM e4 k.1,by rw[k.2 id e4 (.inr e1)];exact e5⟩,m,i,λid h=>jM (u id h) k.1,y,ne⟩,
  by rw[k.2 _ j.nx (.inr j.w2)];exact j.gr,j.wA,j.w2,by rw[k.2 _ om (.inl om)];exact j.g1,by rw[k.2 _ om (.inl om)];exact j.g2,jM j.nx k.1,jM j.nA k.1,⟨mY j.fr.next k.1,λid d=>by rw[k.2 id (jM d j.fr.next) (.inl om)];exact j.fr.get id d⟩⟩
theorem jE {W:Nat->Prop}{h:H}{m:V}{n:Nat}{O:LN}{R:jJ}{G:List Nat->Prop}(g:GC W h m n O R G):iW O n 0<=5040:=by
 have l: ∀i,i<n->(O.getD i []).length<=n-i:=λi hi=>tK (λx c=>g.cY.bF c) hi (g.isc.asc i hi) (g.isc.mem i hi)
 have a: ∀d i,i+d=n->iW O d i<= [1,1,2,6,24,120,720,5040].getD d 0:=by
  intro d
  induction d with
  |zero=>intro i _;simp [iW]
  |succ d ih=>
   intro i hi;unfold iW;have f:=ih (i+1) om;have o:=l i om;have k:(O.getD i []).length<=d+1:=om
   have b:=g.n7;have j:=Nat.mul_le_mul k f;refine mY j ?_;have:d<=6:=om
   match d,this with
   |0,_=>decide
   |1,_=>decide
   |2,_=>decide
   |3,_=>decide
   |4,_=>decide
   |5,_=>decide
   |6,_=>decide
 have b:=g.n7;refine mY (a n 0 om) ?_
 match n,b with
 |0,_=>decide
 |1,_=>decide
 |2,_=>decide
 |3,_=>decide
 |4,_=>decide
 |5,_=>decide
 |6,_=>decide
 |7,_=>decide
theorem Wb {W0:Nat->Prop}(vc:V)(n:Nat)(O:LN)(R:jJ)(G:List Nat->Prop)(h:H)(gc:GC W0 h vc n O R G):
  Ev T 98 [vc] h (λv h'=> ∃vl,v= .tup [vl,aC 0]/\ME h h' vl (dM O R n 0 (aX n))):=by
 obtain⟨vO,vR,e,sO,sR⟩:=gc.ch
 subst e
 refine dW Lk rfl ?_
 have i4:=gc.isc
 have n0:=gc.n0
 have n7:=gc.n7
 have b4:vO.one=true:=oNs sO
 have b2:vR.one=true:=oNt sR
 have eO:dI vO vO=true:=by obtain⟨_,t,_⟩:=sO;exact t.dI
 have eR:dI vR vR=true:=by obtain⟨_,t,_⟩:=sR;exact t.dI
 obtain⟨L,hL⟩:=exI (dM O R n 0 (aX n))
 obtain⟨c1,ll⟩:=dB gc.cY i4
 have j1:=jE gc
 rw[hL] at c1 ll
 have LP: ∀k,k<L.length->aY n (L.getD k []):=λk hk=>gc.cY.bF ((c1.mem _).1 (bC hk))
 obtain⟨B,hB⟩:=exI h.next
 obtain⟨h1,e1,n1,g1,o1,f1⟩:=dK hB [aC n,vO,vR]
 obtain⟨p,e2,n2,g2,o2,f2⟩:=dK n1 [.aD]
 obtain⟨h3,e3,n3,g3,o3,f3⟩:=dK n2 [aC 0]
 have F3:=(f1.trans f2).trans f3
 have bx:=bV h (v:= aC n) (u:=vO) (w:=vR) rfl b4 b2
 have c3:h3.get B=bB [aC n,vO,vR]:=by rw[o3 _ om,o2 _ om];exact g1
 have g6:=aJ c3
 simp(disch:=omega)only[go_sem,Lk,aE,bx,hB,e1,n1,e2,n2,e3,g6]
 refine ((gc.mono F3).check).mono ?_
 rintro _ h4 ⟨rfl,f4⟩
 have n4:=f4.next
 obtain⟨A,hA⟩:=exI h4.next
 obtain⟨h5,e5,n5,g5,o5,f5⟩:=dK hA [.aD]
 have b0:h5.get B=bB [aC n,vO,vR]:=by rw[f5.get _ om,f4.get _ om];exact c3
 have g7:h5.get (B+1)=bB [.aD]:=by rw[f5.get _ om,f4.get _ om,o3 _ om];exact g2
 have e4:h5.get (B+1+1)=bB [aC 0]:=by rw[f5.get _ om,f4.get _ om];exact g3
 have F5:=(F3.trans f4).trans f5
 have i6:=aJ b0
 have d6:=aJ (h:=H.mk h5.tr (h5.next+5)) b0
 simp(disch:=omega)only[go_sem]
 refine bA (λhc=>(hc (by first|rfl|trivial)).elim) (λ_=>?_)
 simp(disch:=omega)only[go_sem,hA,e5,i6,d6,H.aF b0]
 refine (Uk DU.ok n (H.mk h5.tr (h5.next+5)) om).mono ?_
 rintro v6 h6 nw
 have fb:Fr h5 (H.mk h5.tr (h5.next+5)):=(Fr.refl h5).bH om
 have f6:=fb.trans nw.fr
 have n6:=f6.next
 have i7:h6.get B=bB [aC n,vO,vR]:=by rw[f6.get _ om];exact b0
 have c6:=Ud nw
 have d4:=c6.own
 simp(disch:=omega)only[go_sem,aJ i7,eO,eR]
 refine (UJ (n:Int) vO vR v6 0 b4 b2 d4.sv.cT.1 d4.sv.cT.2.1 h6).mono ?_
 rintro _ h7 ⟨rfl,i3,h0,e6,j6,f7⟩
 simp(disch:=omega)only[go_sem]
 refine⟨rfl,wF λr hr=>?_⟩
 obtain⟨a,b7⟩:=exI h7.next
 rw[b7]
 have jI:r.st= .ready:=by rw[hr]
 have c2:r.pend=none:=by rw[hr]
 obtain⟨h8,a9⟩: ∃h8,h8=h7.new (.loop r):=⟨_,rfl⟩
 have f9:h8.get a=some (.loop r):=by rw[a9,←b7,H.aL]
 have n8:h8.next=a+1:=by rw[a9,H.aW,b7]
 have f8:Fr h7 h8:=by rw[a9];exact (Fr.refl h7).new _
 have Q: ∀k,k<h7.next->h8.get k=h7.get k:=λk hk=>f8.get k hk
 rw[←a9]
 have c8:=(f6.trans f7).trans f8
 have F8:=F5.trans c8
 have b5: ∀k,k<h5.next->h8.get k=h5.get k:=λk hk=>c8.get k hk
 have J0:LsJ h B A B a r (L.take 0) (λk=>k=A∨k=a) h8:=
  ⟨⟨.aD, [],λk=>k=A,by rw[b5 _ om];exact g5,dH.aD _ _ _,trivial,λ_ _ _ _ e=>(by cases e),λk h=> .inl h,λk h=>by have:k=A:=h;omega,rfl,λ_ _ _ _ e=>(by cases e)⟩,f9,.inl rfl,.inr rfl,by rw[b5 _ om];exact g7,by rw[b5 _ om];exact e4,om,om,F8⟩
 have i8: ∀k,(k=A∨k=a)->k<h8.next:=λk h=>by rcases h with h|h<;>omega
 have i2:GC (λk=>k=A∨k=a) h8 (.agg [aC n,vO,vR]) n O R G:=gc.go (Fx.of F8) λk h1 p=>by rcases p with p|p<;>omega
 have p6:PV (λk=>k=A∨k=a) h8 v6 (aX n):=by
  obtain⟨i5,c5,ev,a1,a2,a3,a4⟩:=c6.ex;simp only at a1;rw[ev];exact⟨SV.all (by rw[aP,tW]) (by have:=(f7.trans f8).next;omega) (by rw[Q _ (by have:=f7.next;omega),f7.get _ a2];exact a3) _,λh=>by have:i5=A∨i5=a:=h;have:=f7.next;omega⟩
 refine (TD n vO vR O R G n 0 (aX n) v6 a (h6.next+1+1) h6.next (h6.next+1) h8 (λk=>k=A∨k=a) (λk W J=>LsJ h B A B a r (L.take k) W J) (λ_ _=>False) om (aY.one n)
  (by rw[Q _ om];exact e6) (by rw[Q _ om];exact i3) (by rw[Q _ om];exact h0) p6 om om om (λh=>by rcases h with h|h<;>omega) (λh=>by rcases h with h|h<;>omega) (λh=>by rcases h with h|h<;>omega) i2 i8 J0 ?_).mono ?_
 ·rw[hL]
  refine⟨λk W J h' j kp=>j.kept kp om (by have:=F8.next;omega) (by have:=j.nx;omega),λ_ _ _ h=>h.elim,λk W J v hk j pv f0 j5 j2=>?_⟩
  obtain⟨va,ws,M,gA,ow,el,bl,mw,mn,mA,ne⟩:=j.ex
  have nx:=j.nx
  have nA:=j.nA
  have e0:=aN.length el
  rw[zO,Nat.min_eq_left om] at e0
  refine uC j.gr (by rw[hr];rfl) jI λF g9 n9 o9=>?_
  rw[congrArg fK.assign hr,congrArg fK.vars hr,congrArg fK.pars hr]
  simp(disch:=omega)only[go_sem,List.zip_cons_cons,List.zip_nil_left]
  rw[congrArg fK.body hr]
  have b9:F.get A=bB [va]:=by rw[o9 _ om];exact gA
  have g8:Fx W J F:=⟨om,λk _ p=>o9 k λe=>p (e▸j.w2)⟩
  have c7:=pv.fx g8
  obtain⟨x,hx⟩:=exI (L.getD k [])
  rw[hx] at c7
  have X:aY n x:=by rw[←hx];exact LP k hk
  have c0:dH F va 1 ws (a+1):=ow.mono om λid i m c e _ _=>o9 id (ne _ _ _ _ e).1
  have j0:=dH.lens c0 e0
  have i0:=c0.sv.dI
  have d5:decide ((k:Int)=5040)=false:=bI om
  have c4:Fr F (H.mk F.tr (F.next+6)):=(Fr.refl F).bH om
  simp(disch:=omega)only[go_sem,H.aF b9,j0,d5]
  refine (Nh v (zi x) (H.mk F.tr (F.next+6)) (by rw[aS,X.len];omega) (by rw[aS,X.len];omega) (c7.mono c4).si).mono ?_
  rintro b6 d U
  have a6:=c4.trans U.fr
  obtain⟨i5,c5,ev,a1,a2,a3,a4⟩:=U.ex
  simp only at a1
  have a7:d.get A=bB [va]:=by rw[a6.get _ om];exact b9
  have b3:=U.own
  simp(disch:=omega)only[go_sem,H.aF a7,i0,cK _ (z:= .aD) b3.sv.cT.1 b3.sv.cT.2.1]
  obtain⟨f,l⟩: ∃f:H,f=H.mk ((H.mk d.tr (F.next+3)).new (Ob.cells false [b6])).tr d.next:=⟨_,rfl⟩
  rw[←l]
  have i9:f.get (F.next+3)=bB [b6]:=by rw[l];exact H.aL (H.mk d.tr (F.next+3)) _
  have e8:f.next=d.next:=by rw[l]
  have Y: ∀k,k≠F.next+3->f.get k=d.get k:=λk hk=>by rw[l];exact H.bG (H.mk d.tr (F.next+3)) (by simpa using hk) _
  have N:Fr F f:=⟨by have:=a6.next;omega,λk hk=>by rw[Y k om];exact a6.get k hk⟩
  obtain⟨a5,i1,s⟩:=(c0.fr N).push (bytes:=24) (SV.one (by have:=a6.next;have:=U.fr.next;simp only at this;omega) i9 (.kn 1)) (n:=k) (m:=1) om rfl om om om
  have j4:=s.next
  have g0:dR va A:=λid i m c e e2=>(ne _ _ _ _ e).2 e2.symm
  have g4:dR va a:=λid i m c e e2=>(ne _ _ _ _ e).1 e2.symm
  have e7:=a6.next
  have c9:a5.get A=bB [va]:=by rw[s.old A om g0,N.get A om];exact b9
  have d9:a5.get a=some (.loop (qE r)):=by rw[s.old a om g4,N.get a om];exact g9
  have e9: ∀(J:H) (y:V),eU (bB [va]) J A 0 [y]=some (J.set A (bB [y])):=λJ y=>bT (by simp) J _ _
  simp(disch:=omega)only[go_sem,i1,c9,e9]
  obtain⟨a0,K⟩: ∃a0,a0=(a5.set A (bB [.sl f.next 0 (k+1) (.un 1)])).set a (some (.loop r)):=⟨_,rfl⟩
  have d8:A≠a:=om
  have P: ∀q,q≠A->q≠a->a0.get q=a5.get q:=λq h1 p=>by rw[K,H.aH _ p,H.aH _ h1]
  have j3:a0.next=a5.next:=by rw[K];rfl
  refine pU jI c2 (by rw[H.aH _ (Ne.symm d8)];exact d9) ?_
  rw[←K]
  have d7: ∀q,q<J.next-> ¬W q->a0.get q=J.get q:=λq h1 p=>by
   rw[P q (λe=>p (e▸j.wA)) (λe=>p (e▸j.w2)),s.old q om (λid i m c e e2=>p (e2▸mw _ (bl _ _ _ _ e))),N.get q om,o9 q (λe=>p (e▸j.w2))]
  refine⟨λq=>W q∨q=f.next∨q=i5,λq h1 p=>by rcases p with p|p|p;exact p;omega;omega,λq h=>by rcases h with h|h|h;have:=f0 q h;omega;omega;omega,⟨om,d7⟩,.inl ⟨rfl,?_⟩⟩
  refine⟨⟨.sl f.next 0 (k+1) (.un 1),ws++ [b6],λq=>M q∨q=f.next,by rw[K,H.aH _ d8,H.aU],?_,?_,λid i m c e=>by cases e;exact .inr rfl,λq h=>by rcases h with h|h;exact .inl (mw q h);exact .inr (.inl h),λq h=>by rcases h with h|h;have:=mn q h;omega;omega,.inl mA,λid i m c e=>by cases e;exact⟨om,om⟩⟩,
   by rw[K,H.aU],.inl j.wA,.inl j.w2,?_,?_,om,om,?_⟩
  ·exact (s.own (b:=a+1) om rfl om).mono om λid i m c e h1 p=>by cases e;exact P _ om om
  ·rw[eY [] hk,hx]
   have b8: ∀(q:Nat) (o:Option Ob),q<J.next-> ¬M q->q≠a->a0.get q=J.get q:=λq _ h1 p h3=>by
    rw[P q (λe=>p (e▸mA)) h3,s.old q om (λb1 i m c e e2=>p (e2▸bl _ _ _ _ e)),N.get q om,o9 q h3]
   have d0: ∀q z,J.get q=bB z->q≠a:=λq z h e=>by rw[e,j.gr] at h;cases h
   refine (el.mono λw z ⟨id,d1,e,q1,q2,q3,q4,q5⟩=>⟨id,d1,e,.inl q1,(λh=>by rcases h with h|h;exact q2 h;omega),q3,om,(by rw[b8 id none q4 q2 (d0 _ _ q5)];exact q5)⟩).append ⟨⟨i5,c5,by rw[ev,aS],.inr (.inr rfl),λh=>by rcases h with h|h;have:=mn i5 h;omega;omega,om,om,?_⟩,trivial⟩
   rw[P i5 om om,s.old i5 om (λb1 i m c e e2=>by have:=mn _ (bl _ _ _ _ e);omega),Y i5 om]
   exact a3
  ·rw[P _ om om,s.old _ om (λb1 i m c e e2=>by have:=(ow.in _ _ _ _ e).2.1;omega),N.get _ om,o9 _ om];exact j.g1
  ·rw[P _ om om,s.old _ om (λb1 i m c e e2=>by have:=(ow.in _ _ _ _ e).2.1;omega),N.get _ om,o9 _ om];exact j.g2
  ·refine⟨by have:=j.fr.next;omega,λq hq=>?_⟩
   have:=j.fr.next
   rw[P q om om,s.old q om (λb1 i m c e e2=>by have:=(ow.in _ _ _ _ e).2.1;omega),N.get q om,o9 q om]
   exact j.fr.get q hq
 ·rintro _ F ⟨W2,a1,a2,F9,j|hf⟩
  case inr=>exact hf.elim
  rw[hL,List.take_length] at j
  obtain⟨va,ws,M,gA,ow,el,bl,mw,mn,mA,ne⟩:=j.ex
  have nx:=j.nx
  have nA:=j.nA
  have pt: ∀(J:H) (id:Nat) (u w:V),eU (bB [u]) J id 0 [w]=some (J.set id (bB [w])):=λJ id u w=>bT (by simp) J _ _
  refine⟨r,j.gr,by rw[jI];simp,?_⟩
  have en:r.pend.getD .norm= .norm:=by rw[c2];rfl
  rw[en]
  obtain⟨d,a8⟩: ∃d,d=F.set a (some (.loop {r with st:= .out})):=⟨_,rfl⟩
  have Z: ∀q,q≠a->d.get q=F.get q:=λq hq=>by rw[a8,H.aH _ hq]
  have e7:d.next=F.next:=by rw[a8];rfl
  have a7:d.get A=bB [va]:=by rw[Z _ om];exact gA
  have d2:d.get (B+1)=bB [.aD]:=by rw[Z _ om];exact j.g1
  have d3:d.get (B+1+1)=bB [aC 0]:=by rw[Z _ om];exact j.g2
  rw[←a8]
  simp(disch:=omega)only[go_sem,H.aF a7,d2,d3,pt,kP ow.sv.cT.1 ow.sv.cT.2.1]
  obtain⟨f,l⟩: ∃f,f=(d.set (B+1) (bB [va])).set (B+1+1) (bB [aC 0]):=⟨_,rfl⟩
  rw[←l]
  have Y: ∀q,q≠B+1->q≠B+1+1->f.get q=d.get q:=λq h1 p=>by rw[l,H.aH _ p,H.aH _ h1]
  have e8:f.next=d.next:=by rw[l];rfl
  have hn:=j.fr.next
  refine⟨va,rfl,⟨ws,λq=>M q∨q<h.next,?_,?_,λid i n c e=> .inl (bl _ _ _ _ e),λq h=> .inr h⟩,⟨om,λq hq=>?_⟩⟩
  ·refine (ow.mono om λid i m c e h1 _=>?_).le om
   rw[Y id om om,Z id om]
  ·rw[hL]
   refine aN.mono (R:=ajL W2 M (a+1) F) (λw z hw=>?_) el
   obtain⟨id,d1,e,q1,q2,q3,q4,q5⟩:=hw
   rw[e]
   exact⟨SV.all (by rw[aP,aS,tW]) om (by rw[Y id om om,Z id om];exact q5) _,λh=>by rcases h with h|h;exact q2 h;omega⟩
  ·rw[Y q om om,Z q om]
   exact j.fr.get q hq
end Go.Proofs.YtcdbmkidaecdiaaGreat
namespace Go.Pm
set_option maxRecDepth 100000
section
variable {i:Nat}
def it (a:List Nat):Nat->Nat->Nat
 |0,i=>i
 |t+1,i=>a.getD (it a t i) 0
section
variable {n:Nat} {a:List Nat}
theorem Ha (A:aY n a){i:Nat}(hi:i<n): ∀t,it a t i<n
 |0=>hi
 |t+1=>A.fX (Ha A hi t)
theorem wQ (a:List Nat)(s i:Nat): ∀t,it a (s+t) i=it a t (it a s i)
 |0=>rfl
 |t+1=>by
  show a.getD (it a (s+t) i) 0=a.getD (it a t (it a s i)) 0;rw[wQ a s i t]
theorem HS (A:aY n a){i:Nat}(hi:i<n): ∀t,it a t i=(pw n a t).getD i 0
 |0=>(fM hi).symm
 |t+1=>by
  show a.getD (it a t i) 0=(aM (pw n a t) a).getD i 0;rw[dE (by rw[(iE A t).len];exact hi),HS A hi t]
theorem DA (A:aY n a){i j:Nat}(hi:i<n)(b:j<n): ∀t,it a t i=it a t j->i=j
 |0,h=>h
 |t+1,h=>DA A hi b t (A.inj (Ha A hi t) (Ha A b t) h)
noncomputable def yR (a:List Nat)(i:Nat):Nat:=by
 classical exact if h: ∃t,0<t/\it a t i=i/\ ∀s,0<s->s<t->it a s i≠i then h.choose else 1
theorem afH (A:aY n a)(hi:i<n): ∃t,0<t/\it a t i=i:=by
 obtain⟨k,c,_,b⟩:=Oc A;exact⟨k,c,by rw[HS A hi,b,fM hi]⟩
theorem nJ (A:aY n a)(hi:i<n):0<yR a i/\it a (yR a i) i=i/\ ∀t,0<t->t<yR a i->it a t i≠i:=by
 classical
 have h: ∃t,0<t/\it a t i=i/\ ∀s,0<s->s<t->it a s i≠i:=by
  obtain⟨t,k,j⟩:=afH A hi
  induction t using Nat.strongRecOn with
  |_ t ih=>
   by_cases f: ∃s,0<s/\s<t/\it a s i=i
   ·obtain⟨s,b,d,c⟩:=f
    exact ih s d b c
   ·exact⟨t,k,j,λs b d c=>f ⟨s,b,d,c⟩⟩
 have e:yR a i=h.choose:=by unfold yR;rw[dif_pos h]
 rw[e];exact h.choose_spec
theorem Uu (A:aY n a){i:Nat}(hi:i<n): ∀k,it a (yR a i*k) i=i
 |0=>rfl
 |k+1=>by rw[Nat.mul_succ,wQ,Uu A hi k,(nJ A hi).2.1]
theorem BT (A:aY n a)(hi:i<n)(t:Nat):it a t i=it a (t%yR a i) i:=by
 have:=wQ a (yR a i*(t/yR a i)) i (t%yR a i);rw[Nat.div_add_mod,Uu A hi] at this;exact this
theorem Fo (A:aY n a)(hi:i<n)(t:Nat):it a t i=i↔yR a i∣t:=by
 obtain⟨b,d,c⟩:=nJ A hi;constructor
 ·intro h
  rw[BT A hi] at h;refine Nat.dvd_of_mod_eq_zero (Classical.byContradiction λf=>c _ oq (Nat.mod_lt _ b) h)
 ·rintro⟨k,rfl⟩;exact Uu A hi k
theorem aeX (A:aY n a)(hi:i<n){s t:Nat}(j:s<yR a i)(d:t<yR a i)(h:it a s i=it a t i):s=t:=by
 have b: ∀s t,s<=t->t<yR a i->it a s i=it a t i->s=t:=λs t jI d h=>by
  have e:it a t i=it a s (it a (t-s) i):=by rw[←wQ];congr 1;omega
  rw[e] at h;have:=DA A hi (Ha A hi (t-s)) s h;have f:=(Fo A hi (t-s)).1 this.symm;have:=Nat.eq_zero_of_dvd_of_lt f oq;omega
 rcases Nat.le_total s t with c|c
 ·exact b s t c d h
 ·exact (b t s c j h.symm).symm
noncomputable def IL (a:List Nat)(i:Nat):List Nat:=(List.range (yR a i)).map λt=>it a t i
theorem zB (a:List Nat)(i:Nat):(IL a i).length=yR a i:=by simp [IL]
theorem aeF (A:aY n a)(hi:i<n){j:Nat}:j∈IL a i↔ ∃t,it a t i=j:=by
 unfold IL;rw[List.mem_map];constructor
 ·rintro⟨t,_,h⟩;exact⟨t,h⟩
 ·rintro⟨t,h⟩;exact⟨t%yR a i,List.mem_range.2 (Nat.mod_lt _ (nJ A hi).1),by rw[←BT A hi];exact h⟩
theorem JV (A:aY n a)(hi:i<n):(IL a i).Nodup:=by
 unfold IL;rw[List.nodup_iff_pairwise_ne,List.pairwise_map,List.pairwise_iff_getElem];intro s t b c jI h;simp only[List.length_range] at b c;simp only[List.getElem_range] at h;have:=aeX A hi b c h;omega
theorem Wo (A:aY n a)(hi:i<n):yR a i<=n:=by
 rw[←zB a i]
 have:=List.Nodup.length_le_of_subset (JV A hi) (l₂:=List.range n) λj b=>by
  obtain⟨t,rfl⟩:=(aeF A hi).1 b;exact List.mem_range.2 (Ha A hi t)
 simpa using this
theorem Mx (A:aY n a)(hi:i<n)(t:Nat): ∃s,it a s (it a t i)=i:=by
 obtain⟨b,_,_⟩:=nJ A hi;refine⟨yR a i*(t/yR a i+1)-t,?_⟩;rw[←wQ,show t+(yR a i*(t/yR a i+1)-t)=yR a i*(t/yR a i+1) from ?_,Uu A hi];have:=Nat.div_add_mod t (yR a i);have:=Nat.mod_lt t b;rw[Nat.mul_succ];omega
theorem TP (A:aY n a)(hi:i<n)(t:Nat):yR a (it a t i)=yR a i:=by
 have c:=Ha A hi t
 have b: ∀k,it a k (it a t i)=it a t i↔it a k i=i:=λk=>by
  rw[←wQ,Nat.add_comm,wQ];exact⟨λh=>DA A (Ha A hi k) hi t h,λh=>by rw[h]⟩
 refine Nat.dvd_antisymm ?_ ?_
 ·rw[←Fo A c,b,Fo A hi];exact Nat.dvd_refl _
 ·rw[←Fo A hi,←b,Fo A c];exact Nat.dvd_refl _
def oZ (a:List Nat)(n i:Nat):Prop:= ∀t,i<=it a t i
open Classical in
noncomputable def Pd (a:List Nat)(n:Nat):List Nat:=(List.range n).filter λi=>decide (oZ a n i)
noncomputable def xC (a:List Nat)(n:Nat):Al:=(Pd a n).map (IL a)
theorem afP (A:aY n a)(hi:i<n): ∃j,j<n/\oZ a n j/\ ∃t,it a t j=i:=by
 induction i using Nat.strongRecOn with
 |_ i ih=>
  by_cases h:oZ a n i
  ·exact⟨i,hi,h,0,rfl⟩
  ·have: ∃t,it a t i<i:=Classical.byContradiction λd=>h λt=>Nat.le_of_not_lt λb=>d ⟨t,b⟩
   obtain⟨t,k⟩:=this;obtain⟨j,c,b,s,f⟩:=ih _ k (Ha A hi t);obtain⟨u,l⟩:=Mx A hi t;exact⟨j,c,b,s+u,by rw[wQ,f,l]⟩
theorem Jv (A:aY n a)(hi:i<n):oZ a n i↔ ∀j,j<i-> ∀t,it a t j≠i:=by
 constructor
 ·intro h j d t e
  obtain⟨s,b⟩:=Mx A (show j<n by omega) t;rw[e] at b;have:=h s;omega
 ·intro h t
  refine Nat.le_of_not_lt λc=>?_
  obtain⟨s,b⟩:=Mx A hi t;exact h _ c s b
def Ft (l:List Nat):Nat:=l.foldl (λm c=>m/Nat.gcd m c*c) 1
theorem WX (m c:Nat):m/Nat.gcd m c*c=Nat.lcm m c:=by
 unfold Nat.lcm;rw[Nat.mul_comm,←Nat.mul_div_assoc _ (Nat.gcd_dvd_left m c),Nat.mul_comm]
theorem AM: ∀(l:List Nat) (m k:Nat),l.foldl (λm c=>m/Nat.gcd m c*c) m∣k↔m∣k/\ ∀c∈l,c∣k
 | [],m,k=>by simp
 |c::l,m,k=>by
  rw[List.foldl_cons,AM l,WX,Nat.lcm_dvd_iff];simp only[List.mem_cons,forall_eq_or_imp,and_assoc]
theorem Cq (l:List Nat)(k:Nat):Ft l∣k↔ ∀c∈l,c∣k:=by
 unfold Ft;rw[AM];simp
noncomputable def oJ (a:List Nat)(n:Nat):Nat:=Ft ((xC a n).map List.length)
theorem Aw (A:aY n a)(k:Nat):oJ a n∣k↔pw n a k=aX n:=by
 unfold oJ;rw[Cq];constructor
 ·intro h
  refine uZ (by rw[(iE A k).len,iH]) λi hi=>?_
  rw[(iE A k).len] at hi;rw[←HS A hi,fM hi,Fo A hi];obtain⟨j,d,f,t,p⟩:=afP A hi;have:=h (yR a j) (List.mem_map.2 ⟨IL a j,List.mem_map.2 ⟨j,by unfold Pd;rw[List.mem_filter];exact⟨List.mem_range.2 d,by simpa using f⟩,rfl⟩,zB a j⟩);rw[←TP A d t,p] at this;exact this
 ·rintro h c m
  obtain⟨l,o,rfl⟩:=List.mem_map.1 m;obtain⟨j,d,rfl⟩:=List.mem_map.1 o
  have b:j<n:=by
   unfold Pd at d;exact List.mem_range.1 (List.mem_filter.1 d).1
  rw[zB,←Fo A b,HS A b,h,fM b]
theorem Zj (A:aY n a):0<oJ a n:=by
 obtain⟨k,c,_,b⟩:=Oc A;have:=(Aw A k).2 b;refine Nat.pos_of_ne_zero λe=>?_
 rw[e] at this;have:=Nat.eq_zero_of_zero_dvd this;omega
theorem GS (A:aY n a):oJ a n<=n^n:=by
 obtain⟨k,c,b,d⟩:=Oc A;exact Nat.le_trans (Nat.le_of_dvd c ((Aw A k).2 d)) b
end
end
end Go.Pm
namespace Go.Proofs.YtcdbmkidaecdiaaGreat
open Go Go.Ay Go.Pm
set_option maxRecDepth 100000
section
variable {a:List Nat} {i n:Nat}
theorem afL {g:Nat}(k:T g=some Fe.fn)(a b:Nat)(h:H)(s:a<1000000)(q:b<1000000):Ev T g [aC a,aC b] h (λv h'=>v= aC (Nat.gcd a b:Nat)/\Fr h h'):=by
 refine mX k rfl ?_;simp(disch:=omega)only[go_sem,Fe,aE];refine aI (λc d o=> ∃(x y:Nat),(∃g:Nat->V,d= [aC x,aC y,g 2,g 3])/\x<1000000/\y<1000000/\Nat.gcd x y=Nat.gcd a b/\Fr h o/\c=y) b
  ⟨a,b,aB rfl,s,q,rfl,Fr.refl h,rfl⟩ ?_
 rintro c d o ⟨x,y,⟨g,rfl⟩,w,t,m,F,p⟩;subst p
 by_cases f:(0:Int)<(c:Int)
 ·have j:=cI f
  have r:(c:Int)≠0:=om
  have u:(x:Int).tmod (c:Int)=((x%c:Nat):Int):=SG x c;have l:=Nat.mod_lt x (show c>0 by omega);simp(disch:=omega)only[go_sem,j,r,u];exact⟨x%c,l,c,x%c,aB rfl,t,om,by rw[Nat.gcd_comm,←Nat.gcd_rec,Nat.gcd_comm];exact m,F.bH om,rfl⟩
 ·have j:=bI f
  obtain rfl:c=0:=om
  simp(disch:=omega)only[go_sem,j];rw[←m,Nat.gcd_zero_right];exact⟨rfl,F⟩
open Classical in
noncomputable def Rc (a:List Nat)(i s j:Nat):Bool:=decide ((∃i0,i0<i/\ ∃t,it a t i0=j)∨ ∃t,t<s/\it a t i=j)
theorem pF {s j:Nat}:Rc a i s j=true↔(∃i0,i0<i/\ ∃t,it a t i0=j)∨ ∃t,t<s/\it a t i=j:=by classical unfold Rc;simp only[decide_eq_true_eq]
theorem UZ (a:List Nat)(j:Nat):Rc a 0 0 j=false:=by
 rw[←Bool.not_eq_true,pF];rintro (⟨b,h,_⟩|⟨t,h,_⟩)<;>omega
theorem PY (a:List Nat)(i s j:Nat):Rc a i (s+1) j=if j=it a s i then true else Rc a i s j:=by
 by_cases e:j=it a s i
 ·rw[bJ e,pF];exact .inr ⟨s,om,e.symm⟩
 ·rw[bU e,DW,pF,pF]
  constructor
  ·rintro (h|⟨t,c,b⟩)
   ·exact .inl h
   ·exact .inr ⟨t,by have:t≠s:=λd=>e (by rw[←d];exact b.symm);omega,b⟩
  ·rintro (h|⟨t,c,b⟩)
   ·exact .inl h
   ·exact .inr ⟨t,om,b⟩
theorem WY (A:aY n a)(hi:i<n)(j:Nat):Rc a i (yR a i) j=Rc a (i+1) 0 j:=by
 rw[DW,pF,pF];constructor
 ·rintro (⟨c,d,b⟩|⟨t,d,b⟩)
  ·exact .inl ⟨c,om,b⟩
  ·exact .inl ⟨i,om,t,b⟩
 ·rintro (⟨c,d,t,b⟩|⟨t,d,_⟩)
  ·by_cases e:c=i
   ·subst e;exact .inr ⟨t%yR a c,Nat.mod_lt _ (nJ A hi).1,by rw[←BT A hi];exact b⟩
   ·exact .inl ⟨c,om,t,b⟩
  ·omega
theorem XR (A:aY n a)(hi:i<n)(h: ¬oZ a n i)(j:Nat):Rc a i 0 j=Rc a (i+1) 0 j:=by
 have c: ∃b,b<i/\ ∃t,it a t b=i:=Jj λk=>h ((Jv A hi).2 λb m t e=>k ⟨b,m,t,e⟩)
 obtain⟨b,p,l,o⟩:=c;rw[DW,pF,pF];constructor
 ·rintro (⟨d,f,c⟩|⟨t,f,_⟩)
  ·exact .inl ⟨d,om,c⟩
  ·omega
 ·rintro (⟨d,f,t,c⟩|⟨t,f,_⟩)
  ·by_cases e:d=i
   ·subst e;exact .inl ⟨b,p,l+t,by rw[wQ,o];exact c⟩
   ·exact .inl ⟨d,om,t,c⟩
  ·omega
theorem GK (A:aY n a){s:Nat}(hi:i<n)(k:oZ a n i)(o:s<=yR a i):(Rc a i s (it a s i)=false↔s<yR a i):=by
 obtain⟨j,d,p⟩:=nJ A hi;constructor
 ·intro h
  refine Jj λm=>?_
  have e:s=yR a i:=om
  subst e;rw[d] at h;have:Rc a i (yR a i) i=true:=pF.2 (.inr ⟨0,j,rfl⟩);rw[h] at this;cases this
 ·intro h
  rw[←Bool.not_eq_true,pF];rintro (⟨f,c,t,b⟩|⟨t,c,b⟩)
  ·obtain⟨u,l⟩:=Mx A hi s
   have:=(Jv A hi).1 k f c (t+u);rw[wQ,b,l] at this;exact this rfl
  ·have:=aeX A hi (show t<yR a i by omega) h b
   omega
theorem acY (A:aY n a)(hi:i<n)(f: ¬oZ a n i):Rc a i 0 i=true:=by
 have h: ∃b,b<i/\ ∃t,it a t b=i:=Jj λc=>f ((Jv A hi).2 λb d t e=>c ⟨b,d,t,e⟩)
 exact pF.2 (.inl h)
theorem Su (hi:i<=n):((Pd a n).filter λj=>decide (j<i))=(open Classical in (List.range i).filter λj=>decide (oZ a n j)):=by
 classical
 unfold Pd;have:List.range n=List.range i++(List.range (n-i)).map (i+ ·):=by rw[←List.range_add];congr 1;omega
 rw[this,List.filter_append,List.filter_append]
 have c:(((List.range (n-i)).map (i+ ·)).filter λj=>decide (oZ a n j)).filter (λj=>decide (j<i))= []:=by
  rw[List.filter_eq_nil_iff];intro x b;obtain⟨y,_,rfl⟩:=pH.1 (Rq.1 b).1;simp
 rw[c,tZ];rw[List.filter_eq_self];intro x b;simpa using Dj.1 (Rq.1 b).1
noncomputable def HI (a:List Nat)(n i:Nat):LN:=((Pd a n).filter λj=>decide (j<i)).map (IL a)
theorem HB (a:List Nat)(n:Nat):HI a n n=xC a n:=by
 classical
 unfold HI xC;congr 1;rw[List.filter_eq_self];intro x b;unfold Pd at b;simpa using Dj.1 (Rq.1 b).1
theorem Iu (hi:i<n):(oZ a n i->HI a n (i+1)=HI a n i++ [IL a i])/\(¬oZ a n i->HI a n (i+1)=HI a n i):=by
 classical
 unfold HI;rw[Su (show i+1<=n by omega),Su (show i<=n by omega),List.range_succ,List.filter_append];constructor
 ·intro h
  rw[show ([i]:List Nat).filter (λj=>decide (oZ a n j))= [i] by simp [h],List.map_append];rfl
 ·intro h
  rw[show ([i]:List Nat).filter (λj=>decide (oZ a n j))= [] by simp [h],tZ]
theorem acV: ∀i,i<=n->HI a n i<+:xC a n:=by
 intro i hi
 obtain⟨d,f⟩: ∃d,i+d=n:=⟨n-i,om⟩
 induction d generalizing i with
 |zero=>
      have:i=n:=om
      subst this;rw[HB];exact List.prefix_rfl
 |succ d ih=>
  have b:=ih (i+1) om om
  by_cases c:oZ a n i
  ·rw[(Iu om).1 c] at b
   exact (List.prefix_append _ _).trans b
  ·rw[(Iu om).2 c] at b
   exact b
theorem OX (a:List Nat)(n:Nat):HI a n 0= []:=by
 unfold HI;rw[show (Pd a n).filter (λj=>decide (j<0))= [] by rw[List.filter_eq_nil_iff];intro x _;simp];rfl
theorem TJ {α:Type}{l m:List α}(h:l<+:m)(hi:i<l.length)(d:α):m.getD i d=l.getD i d:=by
 obtain⟨t,rfl⟩:=h;rw[List.getD,Dt hi];rfl
theorem CN (id b:Nat)(va:V)(n:Nat)(a:List Nat)(h:H)(a8:1<=n)(hn:n<=64)(A:aY n a)(F:Nat)(b1:F<=h.next)(a9:b<F)(hb:h.get b=some (.cells false [va]))(b3:b<h.next)(hv:SI h va (zi a))(J:Nat->H->Prop)(h0:J 0 h)
  (kJ: ∀k hh h',J k hh->hh.next<=h'.next->(∀q,q<F->h'.get q=hh.get q)->J k h') (jb: ∀k hh,J k hh->hh.get b=some (.cells false [va])/\SI hh va (zi a))
  (hy: ∀k hh v,k<(xC a n).length->J k hh->SI hh v (zi ((xC a n).getD k []))->F<=hh.next->Ey T id [v] hh (λv h'=>v= .bool true/\J (k+1) h'/\Fx (λq=>q<F) hh h')):
  Ev T 246 [.yl id,.ptr b 0] h (λ_ h'=>J (xC a n).length h'):=by
 refine dW zU rfl ?_
 obtain⟨S,hS⟩:=exI h.next
 obtain⟨h1,e1,n1,g1,o1,f1⟩:=dK hS (rc 64 λ_=>V.bool false)
 have a0:=H.aF (h:=h1) (id:=b) (by rw[o1 _ om];exact hb)
 have Y:=hv.lens
 rw[aS,A.len] at Y
 simp(disch:=omega)only[go_sem,zU,aE,FW,hS,e1,a0,Y]
 have a1:h1.get S=some (.cells false (rc 64 λj=> .bool (Rc a 0 0 j))):=by
  rw[g1,show (λj=>V.bool (Rc a 0 0 j))=λ_=>V.bool false from funext λj=>by rw[UZ]]
 refine aI (λK o hh=> ∃(i:Nat),(∃g:Nat->V,o= [.yl id,.ptr b 0,.ptr S 0,g 3,g 4,g 5,aC n,aC i,g 8,g 9,g 10])/\i<=n/\J (HI a n i).length hh/\hh.get S=some (.cells false (rc 64 λj=> .bool (Rc a i 0 j)))/\S<hh.next/\K=n-i) n
  ⟨0,aB rfl,iB _,by rw[OX];exact kJ _ _ _ h0 f1.next (λq hq=>o1 q om),a1,om,rfl⟩ ?_
 rintro K o h2 ⟨i,⟨g,rfl⟩,hi,r,w,x,rfl⟩
 by_cases L:(i:Int)<(n:Int)
 case neg=>
  have d1:=bI L;obtain rfl:i=n:=om
  simp(disch:=omega)only[go_sem,d1];rw[HB] at r;exact r
 have d1:=cI L
 have l:i<n:=om
 simp(disch:=omega)only[go_sem,d1]
 obtain⟨p0,p1,p2⟩:=nJ A l
 have b2:=Wo A l
 refine bQ (λvs hh=> ∃(p:V) (c:List Nat),(∃g:Nat->V,vs= [.yl id,.ptr b 0,.ptr S 0,g 3,p,g 5,aC n,aC i,g 8,g 9,g 10])/\dH hh p 1 (ints (zi c)) (S+1)/\(oZ a n i/\c=IL a i∨ ¬oZ a n i/\c= [])/\
   J (HI a n i).length hh/\hh.get S=some (.cells false (rc 64 λj=> .bool (Rc a (i+1) 0 j)))/\S<hh.next) ?_ ?_
 ·refine aI (λK vs hh=> ∃(s:Nat) (p:V),(∃g:Nat->V,vs= [.yl id,.ptr b 0,.ptr S 0,g 3,p,aC (it a s i:Nat),aC n,aC i,g 8,g 9,g 10])/\s<=yR a i/\(0<s->oZ a n i)/\dH hh p 1 (ints (zi ((List.range s).map λt=>it a t i))) (S+1)/\
    J (HI a n i).length hh/\hh.get S=some (.cells false (rc 64 λj=> .bool (Rc a i s j)))/\S<hh.next/\K=yR a i-s) (yR a i)
   ⟨0,.aD,aB rfl,iB _,λh=>om,dH.aD _ _ _,r,w,x,rfl⟩ ?_
  clear r w x
  rintro K o G ⟨s,p,⟨g,rfl⟩,hs,hf,B,r,w,x,rfl⟩
  have hp:=Ha A l s
  have Z:=tF w (i:=it a s i) om
  cases hsn:Rc a i s (it a s i) with
  |true=>
   rw[hsn] at Z;simp(disch:=omega)only[go_sem,Z]
   by_cases f:oZ a n i
   ·have e:s=yR a i:=Jj λU=>by
     have:=(GK A l f hs).2 om;rw[hsn] at this;cases this
    refine⟨p,IL a i,aB rfl,by rw[e] at B;exact B,.inl ⟨f,rfl⟩,r,?_,x⟩;rw[w,e];congr 2;exact dJ λj _=>by rw[WY A l]
   ·have e:s=0:=Jj λU=>f (hf om)
    subst e;refine⟨p, [],aB rfl,B,.inr ⟨f,rfl⟩,r,?_,x⟩;rw[w];congr 2;exact dJ λj _=>by rw[XR A l f]
  |false=>
   rw[hsn] at Z
   have f:oZ a n i:=Jj λf=>by
    have e:s=0:=Jj λU=>f (hf om)
    subst e;have:=acY A l f;have h2:Rc a i 0 i=false:=hsn;rw[h2] at this;cases this
   have a7:=(GK A l f hs).1 hsn;have pt:=bT (vs:=rc 64 λj=> .bool (Rc a i s j)) (off:=it a s i) (by rw[iQ];omega);obtain⟨h4,e4,n4,g4,o4⟩:=mV G S ((rc 64 λj=> .bool (Rc a i s j)).set (it a s i) (.bool true));obtain⟨h5,e5,n5,g5,o5,f5⟩:=dK (h:=h4) (ID:=G.next) n4 [aC (it a s i:Nat)];have a3:dH h5 p 1 (ints (zi ((List.range s).map λt=>it a t i))) (S+1):=B.mono om λk off m c e h1 h2=>by rw[o5 k om,o4 k om]
   obtain⟨h6,a6,p6⟩:=a3.push (bytes:=8) (SV.one (v:= aC (it a s i:Nat)) (id:=G.next) om g5 (.kn 1)) (n:=s) (m:=1) (by rw[aP,aS];simp) rfl om om om;have n6:=p6.next;have ap: ∀q,q<=S->dR p q:=λq hq k off m c e e2=>by have:=(B.in _ _ _ _ e).2.1;omega
   have o6: ∀q,q<F->h6.get q=G.get q:=λq hq=>by rw[p6.old q om (ap q om),o5 q om,o4 q om]
   have J6:=kJ _ _ h6 r om o6;obtain⟨a2,a4⟩:=jb _ _ J6;obtain⟨idx,W,P,O,Q⟩:=a4.open;rw[aS,A.len] at P O Q
   have cx:h6.cell idx (W+it a s i)=some (aC (it a (s+1) i:Nat)):=by
    rw[Q _ hp];congr 2;rw[zi,oI _ (d:=0) (by rw[A.len];exact hp)];rfl
   simp(disch:=omega)only[go_sem,Z,w,pt,e4,cK h4 (z:= aC 0) (v:= aC (it a s i:Nat)) rfl rfl,n4,e5,a6,H.aF a2,P.ixa,cx]
   have a5:h6.get S=some (.cells false (rc 64 λj=> .bool (Rc a i (s+1) j))):=by
    rw[p6.old S om (ap S (fN _)),o5 S om,g4,lH];congr 2
    exact dJ λj _=>by
     rw[PY]
     by_cases e:j=it a s i
     ·rw[bJ e,bJ e]
     ·rw[bU e,bU e]
   have el:ints (zi ((List.range (s+1)).map λt=>it a t i))=ints (zi ((List.range s).map λt=>it a t i))++ [aC (it a s i:Nat)]:=by
    rw[List.range_succ,List.map_append];simp [zi,ints]
   refine⟨yR a i-(s+1),om,s+1,_,aB rfl,om,λ_=>f,by rw[el];exact p6.own (by rw[aP,aS];simp) rfl om,J6,a5,om,rfl⟩
 clear r w x
 rintro o G ⟨p,c,⟨g,rfl⟩,B,hc,r,w,x⟩
 have N:=dH.lens B (n:=c.length) (by rw[aP,aS])
 rcases hc with ⟨f,rfl⟩|⟨f,rfl⟩
 ·have d2:decide ((0:Int)<((IL a i).length:Int))=true:=cI (by rw[zB];omega)
  have u:=acV (a:=a) (n:=n) (i+1) om
  have R:=(Iu l).1 f
  rw[R] at u
  have hg:(xC a n).getD (HI a n i).length []=IL a i:=by rw[TJ u (by simp)];exact kQ
  have y:=u.length_le
  rw[iV] at y
  simp(disch:=omega)only[go_sem,N,d2]
  refine (hy _ G p (by simp at y;omega) r (by rw[hg];exact B.sv) om).mono ?_
  rintro _ h4 ⟨rfl,J4,f4⟩
  simp(disch:=omega)only[go_sem]
  rw[fJ i]
  refine⟨n-(i+1),om,i+1,aB rfl,om,by rw[R,iV];exact J4,by rw[f4.get S x (λh=>by have:S<F:=h;omega)];exact w,jM x f4.next,rfl⟩
 ·have d2:decide ((0:Int)<((0:Nat):Int))=false:=rfl
  simp(disch:=omega)only[go_sem,N,d2]
  rw[fJ i]
  exact⟨n-(i+1),om,i+1,aB rfl,om,by rw[(Iu l).2 f];exact r,w,x,rfl⟩
end
theorem Bc (u:V)(ws:List V)(n:Nat)(h:H)(L:1<=n)(U:n<=64)(R:ws.length<1000000)(G:SV h u 1 ws)(A: ∀i,i<ws.length-> ∃a,aY n a/\SI h (ws.getD i .undef) (zi a)):Ev T 158 [u] h (λv h'=>v= aC 0/\Fr h h'):=by
 refine dW Iy rfl ?_;have J:bL u=some (aC (ws.length:Int)):=by unfold bL;rw[SV.len G (n:=ws.length) om om];rfl
 obtain⟨id,b,z,l,x⟩:=SV.shape G ws.length om om;have o: ∀i:Nat,i<ws.length->h.cell id (b+i)=some (ws.getD i .undef):=λi hi=>by rw[x i om];simp [List.getD,hi]
 simp(disch:=omega)only[go_sem,Iy,aE,J];refine bQ (λm p=>(∃g:Nat->V,m= [u,aC 0,g 2,g 3,g 4,g 5,g 6,g 7,g 8,g 9,g 10,g 11,g 12,g 13,g 14])/\Fr h p) ?_ ?_
 ·refine aI (λw m p=> ∃(i:Nat),(∃g:Nat->V,m= [u,aC 0,g 2,g 3,g 4,u,aC (ws.length:Int),aC i,g 8,g 9,g 10,g 11,g 12,g 13,g 14])/\i<=ws.length/\Fr h p/\w=ws.length-i) ws.length
   ⟨0,aB rfl,iB _,Fr.refl h,rfl⟩ ?_
  rintro w c r ⟨i,⟨g,rfl⟩,hi,f,rfl⟩
  by_cases d:(i:Int)<(ws.length:Int)
  ·have q:=cI d
   have k:i<ws.length:=om
   have ci:r.cell id (b+i)=some (ws.getD i .undef):=by rw[f.cell (l om),o i om]
   obtain⟨a,X,s⟩:=A i k;generalize ws.getD i .undef=K at ci s;simp(disch:=omega)only[go_sem,q,z.ixa,ci];refine (wW K _ r (by rw[aS,X.len];omega) (s.mono f)).mono ?_;rw[Wm X om om];rintro _ P ⟨rfl,O⟩;simp(disch:=omega)only[go_sem];refine bA (λo=>(o rfl).elim) (λ_=>?_);simp(disch:=omega)only[go_sem];rw[fJ i];exact⟨ws.length-(i+1),om,i+1,aB rfl,om,f.trans O,rfl⟩
  ·have q:=bI d
   simp(disch:=omega)only[go_sem,q];exact⟨aB rfl,f⟩
 rintro c r ⟨⟨g,rfl⟩,f⟩;simp(disch:=omega)only[go_sem,J];refine bQ (λm p=>(∃g:Nat->V,m= [u,aC 0,g 2,g 3,g 4,g 5,g 6,g 7,g 8,g 9,g 10,g 11,g 12,g 13,g 14])/\Fr h p) ?_ ?_
 ·refine aI (λw m p=> ∃(i:Nat),(∃g:Nat->V,m= [u,aC 0,g 2,g 3,g 4,g 5,g 6,g 7,g 8,g 9,u,aC (ws.length:Int),aC i,g 13,g 14])/\i<=ws.length/\Fr h p/\w=ws.length-i) ws.length
   ⟨0,aB rfl,iB _,f,rfl⟩ ?_
  clear f;rintro w c r ⟨i,⟨g,rfl⟩,hi,f,rfl⟩
  by_cases d:(i:Int)<(ws.length:Int)
  ·have q:=cI d
   have k:i<ws.length:=om
   have ci:r.cell id (b+i)=some (ws.getD i .undef):=by rw[f.cell (l om),o i om]
   have y:r.cell id (b+0)=some (ws.getD 0 .undef):=by rw[f.cell (l om),o 0 om]
   obtain⟨a,X,s⟩:=A i k;obtain⟨Q,N,t⟩:=A 0 om;generalize ws.getD i .undef=K at ci s;generalize ws.getD 0 .undef=W at y t;have F:=s.lens;have B:=t.lens;rw[aS,X.len] at F;rw[aS,N.len] at B;have j:Gr 1 u (aC 0)=some (.ptr id (b+0)):=z.ixa .i64 0 om om;rw[Nat.add_zero] at j y;simp(disch:=omega)only[go_sem,q,z.ixa,ci,j,y,F,B];refine bA (λo=>(o rfl).elim) (λ_=>?_);simp(disch:=omega)only[go_sem];rw[fJ i];exact⟨ws.length-(i+1),om,i+1,aB rfl,om,f,rfl⟩
  ·have q:=bI d
   simp(disch:=omega)only[go_sem,q];exact⟨aB rfl,f⟩
 rintro c P ⟨⟨g,rfl⟩,f⟩;simp(disch:=omega)only[go_sem];exact f
theorem Iq (l:List Nat)(k:Nat):Ft (l.take k)∣Ft l:=(Cq _ _).2 λc a=>(Cq l _).1 (Nat.dvd_refl _) c (List.mem_of_mem_take a)
theorem Rj (l:List Nat)(k:Nat)(a:k<l.length):Ft (l.take (k+1))=Ft (l.take k)/Nat.gcd (Ft (l.take k)) (l.getD k 0)*l.getD k 0:=by
 unfold Ft;rw[eY 0 a,List.foldl_append];rfl
theorem Tg {n:Nat}(a:n<=7):n^n<=823543:=by
 have: ∀m,m<8->m^m<=823543:=by decide
 exact this n om
structure OrJ (h:H)(A b id2:Nat)(va:V)(a:List Nat)(r:fK)(m:Nat)(hh:H):Prop where
 gr:hh.get id2=some (.loop r)
 gA:hh.get A=bB [aC m]
 gb:hh.get b=bB [va]
 si:SI hh va (zi a)
 nx:id2<hh.next
 fr:Fr h hh
theorem KD (a:V)(h:H)(i:a.cells= [a])(d:a.one=true):Ev T 225 [a] h (λv h'=> ∃b,v= .fn 246 [] [.ptr b 0]/\b=h.next/\h'.get b=bB [a]/\h'.next=h.next+1/\Fr h h'):=by
 refine dW Ef rfl ?_;obtain⟨l,k,j,f,m,c⟩:=dK (h:=h) rfl [a];simp(disch:=omega)only[go_sem,Ef,aE,mE i d h,k];exact⟨h.next,rfl,rfl,f,j,c⟩
theorem XM (x:V)(n:Nat)(a:List Nat)(h:H)(a4:1<=n)(hn:n<=7)(A:aY n a)(P:SI h x (zi a)):
  Ev T 185 [x] h (λv h'=>v= .tup [aC (oJ a n:Nat),aC 0]/\Fr h h'):=by
 refine dW Iw rfl ?_
 obtain⟨S,hS⟩:=exI h.next
 obtain⟨h1,e1,n1,g1,o1,f1⟩:=dK hS [x]
 have on:=(SV.cT P).2.1
 simp(disch:=omega)only[go_sem,Iw,aE,cK h (z:= .aD) (v:=x) (SV.cT P).1 on,hS,e1]
 have b6: ∀i,i< [x].length-> ∃a,aY n a/\SI h1 ([x].getD i .undef) (zi a):=λi hi=>by
  obtain rfl:i=0:=by simp at hi;omega
  exact⟨a,A,P.mono f1⟩
 refine (Bc (.sl S 0 1 (.kn 1)) [x] n h1 a4 om (by simp) (SV.one om g1 _) b6).mono ?_
 rintro _ h2 ⟨rfl,f2⟩
 simp(disch:=omega)only[go_sem]
 refine bA (λhc=>(hc rfl).elim) (λ_=>?_)
 obtain⟨B,hB⟩:=exI h2.next
 obtain⟨h3,e3,n3,g3,o3,f3⟩:=dK hB [aC 0]
 obtain⟨h4,e4,n4,g4,o4⟩:=mV h3 B [aC 1]
 have b4: ∀(w:H) (y:V),eU (bB [aC 0]) w B 0 [y]=some (w.set B (bB [y])):=λw y=>bT (by simp) w _ _
 simp(disch:=omega)only[go_sem,hB,e3,g3,b4,e4]
 refine (KD x h4 (SV.cT P).1 on).mono ?_
 rintro _ h5 ⟨b,rfl,hb,g5,n5,f5⟩
 simp(disch:=omega)only[go_sem]
 refine⟨rfl,wF λr Y=>?_⟩
 obtain⟨o,Q⟩:=exI h5.next
 rw[Q]
 have jI:r.st= .ready:=by rw[Y]
 have a2:r.pend=none:=by rw[Y]
 obtain⟨O,N⟩: ∃O,O=h5.new (.loop r):=⟨_,rfl⟩
 have b8:O.get o=some (.loop r):=by rw[N,←Q,H.aL]
 have n6:O.next=o+1:=by rw[N,H.aW,Q]
 have f6:Fr h5 O:=by rw[N];exact (Fr.refl h5).new _
 rw[←N]
 have F2:=f1.trans f2
 have F3:=F2.trans f3
 have hs:=F2.next
 have F4:Fr h h4:=⟨by rw[n4];exact F3.next,λq u=>by rw[o4 q om];exact F3.get q u⟩
 have F6:=(F4.trans f5).trans f6
 have c2:o=b+1:=om
 have b9:O.get B=bB [aC 1]:=by rw[f6.get _ om,f5.get _ om];exact g4
 have a9:O.get b=bB [x]:=by rw[f6.get _ om];exact g5
 have J0:OrJ h B b o x a r (Ft (((xC a n).map List.length).take 0)) O:=⟨b8,b9,a9,P.mono F6,om,F6⟩
 refine (CN o b x n a O a4 om A (o+1) om om a9 om (P.mono F6) (λk w=>OrJ h B b o x a r (Ft (((xC a n).map List.length).take k)) w) J0
  (λk w h' j hx u=>⟨by rw[u _ om];exact j.gr,by rw[u _ om];exact j.gA,by rw[u _ om];exact j.gb,P.mono ⟨mY j.fr.next hx,λq Z=>by rw[u _ om];exact j.fr.get q Z⟩,jM j.nx hx,⟨mY j.fr.next hx,λq Z=>by rw[u _ om];exact j.fr.get q Z⟩⟩)
  (λk w j=>⟨j.gb,j.si⟩) ?_).mono ?_
 ·intro k w v hk j a1 c4
  obtain⟨m,hm⟩:=exI (Ft (((xC a n).map List.length).take k))
  obtain⟨c,R⟩:=exI ((xC a n).getD k [])
  have a3:((xC a n).map List.length).getD k 0=c.length:=by rw[oI _ (d:= []) hk,R]
  have b3:k<((xC a n).map List.length).length:=by rw[iA];exact hk
  have J:=Rj ((xC a n).map List.length) k b3
  rw[hm,a3] at J
  have hp:=Zj A
  have b1:=mY (GS A) (Tg hn)
  have c7:m<=823543:=mY (by rw[←hm];exact Nat.le_of_dvd hp (Iq _ k)) b1
  have a8:Ft (((xC a n).map List.length).take (k+1))<=823543:=mY (Nat.le_of_dvd hp (Iq _ (k+1))) b1
  have c6:1<=c.length/\c.length<=7:=by
   have:=bC (l:=xC a n) (d:= []) hk;rw[R] at this;obtain⟨i,hi,rfl⟩:=pH.1 this;have a6:i<n:=by unfold Pd at hi;exact Dj.1 (Rq.1 hi).1
   rw[zB];have:=(nJ A a6).1;have:=Wo A a6;omega
  rw[R] at a1
  have lv:=a1.lens
  rw[aS] at lv
  rw[hm] at j
  refine uC j.gr (by rw[Y];rfl) jI λL g9 n9 o9=>?_
  rw[congrArg fK.assign Y,congrArg fK.vars Y,congrArg fK.pars Y]
  simp(disch:=omega)only[go_sem,List.zip_cons_cons,List.zip_nil_left]
  rw[congrArg fK.body Y]
  have nx:=j.nx
  have a0:L.get B=bB [aC m]:=by rw[o9 _ om];exact j.gA
  simp(disch:=omega)only[go_sem,H.aF a0,lv]
  refine (afL Fe.ok m c.length _ om om).mono ?_
  rintro _ f ⟨rfl,a5⟩
  have b7:L.next+10<=f.next:=a5.next
  have s: ∀q,q<L.next->f.get q=L.get q:=λq u=>a5.get q (by show q<L.next+10;omega)
  have t:f.get B=bB [aC m]:=by rw[s _ om];exact a0
  obtain⟨G,hG⟩:=exI (Nat.gcd m c.length)
  rw[hG] at J
  rw[hG]
  have c3:0<G:=by rw[←hG];exact Nat.gcd_pos_of_pos_right _ om
  have c1:(G:Int)≠0:=om
  have b0:(m:Int).tdiv (G:Int)=((m/G:Nat):Int):=by rw[Int.tdiv_eq_ediv_of_nonneg om];rfl
  have c0:m/G<=m:=Nat.div_le_self _ _
  have U:((m/G:Nat):Int)*(c.length:Int)=((Ft (((xC a n).map List.length).take (k+1)):Nat):Int):=by rw[J,Int.natCast_mul]
  generalize Ft (((xC a n).map List.length).take (k+1))=m2 at U a8 J
  generalize m/G=q at b0 c0 U J
  have pt: ∀(w:H) (y:V),eU (bB [aC m]) w B 0 [y]=some (w.set B (bB [y])):=λw y=>bT (by simp) w _ _
  simp(disch:=omega)only[go_sem,c1,b0,U,lv,H.aF t,t,pt]
  refine pU jI a2 (by rw[H.aH _ om];rw[s _ om];exact g9) ?_
  obtain⟨F,p⟩: ∃F,F=(f.set B (bB [aC m2])).set o (some (.loop r)):=⟨_,rfl⟩
  rw[←p]
  have c5:F.next=f.next:=by rw[p];rfl
  have W: ∀q,q≠B->q≠o->F.get q=f.get q:=λq h1 h2=>by rw[p,H.aH _ h2,H.aH _ h1]
  have b2:=j.fr.next
  have a7:Fr h F:=⟨om,λq u=>by rw[W q om om,s q om,o9 q om];exact j.fr.get q u⟩
  exact⟨rfl,⟨by rw[p,H.aU],by rw[p,H.aH _ om,H.aU],by rw[W b om om,s b om,o9 b om];exact j.gb,P.mono a7,om,a7⟩,⟨om,λq h1 h2=>by rw[W q (λe=>h2 om) (λe=>h2 om),s q om,o9 q (λe=>h2 om)]⟩⟩
 ·rintro _ L j
  rw[show (xC a n).length=((xC a n).map List.length).length from (iA _).symm,List.take_length] at j
  have a8:oJ a n<=823543:=mY (GS A) (Tg hn)
  have j':OrJ h B b o x a r (oJ a n) L:=j
  refine⟨r,j'.gr,by rw[jI];simp,?_⟩
  have en:r.pend.getD .norm= .norm:=by rw[a2];rfl
  rw[en]
  obtain⟨f,K⟩: ∃f,f=L.set o (some (.loop {r with st:= .out})):=⟨_,rfl⟩
  have s: ∀q,q≠o->f.get q=L.get q:=λq u=>by rw[K,H.aH _ u]
  have b7:f.next=L.next:=by rw[K];rfl
  have t:f.get B=bB [aC (oJ a n:Nat)]:=by rw[s _ om];exact j'.gA
  have b2:=j'.fr.next
  have b5:Fr h f:=⟨om,λq u=>by rw[s q om];exact j'.fr.get q u⟩
  rw[←K]
  simp(disch:=omega)only[go_sem,H.aF t]
  exact b5
theorem Sj (h:H)(n:Nat)(a:n<=100000):Jz h 1 1 [.int .u8 0] (aC n) (aC n)=some (.sl h.next 0 n (.kn n),h.new (.cells false (rc n λ_=> .int .u8 0))):=by
 rw[uM om (Int.le_refl _) om om,DK,tW]
 have e:dP [V.int .u8 0] n=rc n λ_=> .int .u8 0:=by
  symm;refine Lq ?_ λi hi=>?_
  ·simp [dP]
  ·simp [dP,hi,Nat.mod_one]
 rw[e]
theorem Gj: ∀l:List Nat,(∀x∈l,x<256)->qL (l.map λ(x:Nat)=>V.int .u8 (x:Int))=some l
 | [],_=>rfl
 |x::r,h=>by
  have b:=h x (by simp);show (if 0<=(x:Int)/\(x:Int)<256 then (qL (r.map λ(x:Nat)=>V.int .u8 (x:Int))).map ((x:Int).toNat:: ·) else none)=_;rw[bJ ⟨om,om⟩,Gj r λy a=>h y (by simp [a])]
  rfl
theorem IQ (u:V)(a:List Nat)(h:H)(Y:a.length<=1000)(y: ∀x∈a,x<256)(A:SI h u (zi a)):
  Ev T 182 [u] h (λv h'=>v= .str a/\Fr h h'):=by
 refine dW pN rfl ?_
 obtain⟨n,s⟩:=exI a.length
 have G:=A.lens
 rw[aS,s] at G
 obtain⟨id,off,O,l,J⟩:=A.open
 rw[aS,s] at O l J
 simp(disch:=omega)only[go_sem,pN,aE,G,Sj h n om]
 have o:Fr h (h.new (.cells false (rc n λ_=> .int .u8 0))):=(Fr.refl h).new _
 have c:(h.new (.cells false (rc n λ_=> .int .u8 0))).get h.next=some (.cells false (rc n λ_=> .int .u8 0)):=H.aL ..
 have f:(h.new (.cells false (rc n λ_=> .int .u8 0))).next=h.next+1:=H.aW ..
 generalize h.new (.cells false (rc n λ_=> .int .u8 0))=U at*
 obtain⟨S,L⟩:=exI h.next
 rw[L] at c f
 rw[L]
 refine aI (λB b t=> ∃(i:Nat),(∃j:Nat->V,b= [u,j 1,.sl S 0 n (.kn n),j 3,j 4,u,aC n,aC i,j 8])/\i<=n/\
   t.get S=some (.cells false (rc n λj=>if j<i then .int .u8 ((a.getD j 0:Nat):Int) else .int .u8 0))/\t.next=S+1/\Fr h t/\B=n-i) n
  ⟨0,aB rfl,iB _,by rw[c];rfl,f,o,rfl⟩ ?_
 clear c o f
 rintro B b q ⟨i,⟨W,rfl⟩,hi,z,Q,F,rfl⟩
 simp(disch:=omega)only[go_sem]
 by_cases m:(i:Int)<(n:Int)
 ·rw[cI m]
  have d:i<n:=om
  have ci:q.cell id (off+i)=some (aC (a.getD i 0:Nat)):=by rw[F.cell (l om),J i d];congr 2;simp [zi,s,d]
  have r:=y (a.getD i 0) (bC om)
  generalize R:a.getD i 0=k at ci r
  have N:=bT (vs:=rc n λj=>if j<i then .int .u8 ((a.getD j 0:Nat):Int) else .int .u8 0) (off:=i) (by rw[iQ];exact d) q S (.int .u8 (k:Int))
  rw[lH] at N
  simp(disch:=omega)only[go_sem,O.ixa,ci,z,zG,N]
  rw[fJ i]
  refine⟨n-(i+1),om,i+1,aB rfl,om,?_,Q,F.set om _,rfl⟩
  congr 2
  refine dJ λj K=>?_
  by_cases e:j=i
  ·rw[bJ e,bJ om,e,R]
  ·rw[bU e]
   by_cases P:j<i
   ·rw[bJ P,bJ om]
   ·rw[bU P,bU om]
 rw[bI m]
 obtain rfl:i=n:=om
 have p:q.row S 0 i=some (a.map λ(x:Nat)=>V.int .u8 (x:Int)):=by
  have e:(rc i λj=>if j<i then V.int .u8 ((a.getD j 0:Nat):Int) else .int .u8 0)=a.map λ(x:Nat)=>V.int .u8 (x:Int):=Lq (by rw[iA,s]) λj K=>by
   rw[bJ K,Qy,dD om,List.getD,dD om];rfl
  unfold H.row;rw[z,e];simp only[sub];rw[bJ (by rw[iA];omega)];rw[List.drop_zero,Ro (by rw[iA];omega)]
 have w:LL q (.sl S 0 i (.kn i))=some (.str a):=by
  show (match q.row S 0 i with|some ys=>(qL ys).map V.str|none=>none)=_;rw[p];show (qL (a.map λ(x:Nat)=>V.int .u8 (x:Int))).map V.str=_;rw[Gj a y];rfl
 simp(disch:=omega)only[go_sem,HC,w]
 exact F
section
variable {y x g:List Nat}
section
variable {n:Nat} {G:List Nat->Prop} {O:LN} {R:jJ}
theorem one_le (Y:aY n y):Le (aX n) y:=by
 by_cases h: ∃k,k<n/\y.getD k 0≠k
 ·obtain⟨k,⟨b,o⟩,c⟩: ∃k,(k<n/\y.getD k 0≠k)/\ ∀j,j<k-> ¬(j<n/\y.getD j 0≠j):=by
   obtain⟨k,b⟩:=h
   induction k using Nat.strongRecOn with
   |_ k ih=>
    by_cases l: ∃j,j<k/\(j<n/\y.getD j 0≠j)
    ·obtain⟨j,p,r⟩:=l;exact ih j p r
    ·exact⟨k,b,λj d m=>l ⟨j,d,m⟩⟩
  have a: ∀j,j<k->y.getD j 0=j:=λj d=>Jj λf=>c j d ⟨om,f⟩
  refine .inr ⟨k,by rw[iH];exact b,λj d=>by rw[fM om,a j d],?_⟩;rw[fM b];refine Jj λq=>?_
  have i:y.getD k 0<k:=om
  have:=Y.inj om b (a _ i);omega
 ·exact .inl ((Fix.all Y λk b=>Jj λf=>h ⟨k,b,f⟩).symm)
theorem NQ (f:dO n G)(c:aV n G O R){i:Nat}(hi:i<n):0<(R.getD i []).length/\(R.getD i []).getD 0 []=aX n:=by
 have o:i∈O.getD i []:=(c.mem i hi i).2 ⟨aX n,f.one,Fix.one n i om,fM hi⟩;have d:0<(O.getD i []).length:=Rl o;have b:=c.rep i hi 0 d
 have q:(O.getD i []).getD 0 0=i:=by
  have a:(O.getD i []).getD 0 0∈O.getD i []:=bC d;obtain⟨x,r,fx,e⟩:=(c.mem i hi _).1 a
  have s: ¬(O.getD i []).getD 0 0<i:=λl=>by
   have X:=f.bF r;have:=X.inj (i:=(O.getD i []).getD 0 0) (j:=i) om hi (by rw[fx _ l,e]);omega
  obtain⟨k,p,u⟩:=Ad.1 o;have h:=GP.1 (c.asc i hi);have v:(O.getD i []).getD 0 0=(O.getD i [])[0]:=Pm.cW d
  by_cases m:k=0
  ·subst m;omega
  ·have:=h 0 k d p om
   omega
 rw[q] at b;refine⟨by rw[c.rl i hi];exact d,b.uniq ⟨f.one,Fix.one n i om,fM hi,λy t _ _=>one_le (f.bF t)⟩⟩
theorem bE (c:aV n G O R)(a:x∈cE R):G x:=by
 unfold cE at a;obtain⟨r,b,d⟩:=List.mem_flatMap.1 a;exact Jt c x (List.mem_flatten.2 ⟨r,b,List.mem_of_mem_drop d⟩)
theorem oG (f:dO n G)(c:aV n G O R)(m:G x):bM n (λg=>g∈cE R) x:=by
 have h:=(De f c x).2 m;have t: ∀g,g∈cE R->aY n g:=λg j=>f.bF (bE c j)
 clear m
 induction h with
 |one=>exact .one
 | @mul y g _ j ih=>
  obtain⟨r,o,u⟩:=List.mem_flatten.1 j;obtain⟨i,hi,v⟩:=Ad.1 o;have b:i<n:=by have:=c.lr;omega
  have a:R.getD i []=r:=by rw[List.getD,dD hi,←v];rfl
  obtain⟨s,p⟩:=NQ f c b;rw[a] at s p;obtain⟨k,q,l⟩:=Ad.1 u
  by_cases d:k=0
  ·subst d
   have:g=aX n:=by rw[←p,List.getD,dD q,←l];rfl
   rw[this,aZ (ih.bF t)];exact ih
  ·refine ih.mul ?_
   unfold cE;refine List.mem_flatMap.2 ⟨r,o,Ad.2 ⟨k- 1,by rw[Ra];omega,?_⟩⟩;rw[List.getElem_drop];simp only[show 1+(k- 1)=k by omega,l]
def aT (x g:List Nat):List Nat:=aM (aM (bZ g) x) g
theorem dC (X:aY n x)(g':aY n g):aY n (aT x g):=(g'.inv.mul X).mul g'
theorem iZ (X:aY n x):aT x (aX n)=x:=by
 unfold aT;rw[oX,bX X,aZ X]
theorem gW {k:List Nat}(X:aY n x)(A:aY n g)(B:aY n k):aT x (aM g k)=aT (aT x g) k:=by
 unfold aT;rw[Av A B];have b:=A.inv;have a:=B.inv;rw[aG a b X,←aG (a.mul (b.mul X)) A B,←aG a (b.mul X) A|>.symm]
theorem jA (X:aY n x)(A:aY n g):aT (aT x g) (bZ g)=x:=by
 rw[←gW X A A.inv,cG A,iZ X]
def cj (G:List Nat->Prop)(x y:List Nat):Prop:= ∃g,G g/\aT x g=y
theorem abD (a:dO n G)(X:aY n x):cj G x x:=⟨aX n,a.one,iZ X⟩
theorem acC (a:dO n G)(X:aY n x)(h:cj G x y):cj G y x:=by
 obtain⟨g,b,rfl⟩:=h;exact⟨bZ g,a.inv b,jA X (a.bF b)⟩
theorem QR (a:dO n G){z:List Nat}(X:aY n x)(h:cj G x y)(h2:cj G y z):cj G x z:=by
 obtain⟨g,b,rfl⟩:=h;obtain⟨k,c,rfl⟩:=h2;exact⟨aM g k,a.mul b c,gW X (a.bF b) (a.bF c)⟩
theorem aiD {S:List Nat->Prop}(b: ∀g,S g->aY n g)(a: ∀x,G x->bM n S x){P:List Nat->Prop}(X:aY n x)(f:P x)(d: ∀y g,aY n y->P y->S g->P (aT y g))(h:cj G x y):P y:=by
 obtain⟨g,c,rfl⟩:=h;have:=a g c;clear c
 induction this with
 |one=>rw[iZ X];exact f
 | @mul z k hz hk ih=>
  rw[gW X (hz.bF b) (b k hk)];exact d _ _ (dC X (hz.bF b)) ih hk
end
end
end Go.Proofs.YtcdbmkidaecdiaaGreat
namespace Go.Proofs.YtcdbmkidaecdiaaGreat.Cls
open Go Go.Ay Go.Sort
set_option maxRecDepth 100000
section
variable {h:H} {S N i j a:Nat}
def ajB (ρ:Nat->Nat):fO->fO
 | .op i=> .op i
 | .call f xs=> .call (ρ f) xs
 | .callv x xs=> .callv x xs
def YR (ρ:Nat->Nat)(i:It):It:=⟨i.d,i.g,ajB ρ i.a⟩
def ahM (ρ:Nat->Nat)(i:AI):AI:=⟨i.i,YR ρ i.it,i.al,i.cks⟩
def Jo (ρ:Nat->Nat):C->C
 | .skip=> .skip
 | .reg l=> .reg (l.map (YR ρ))
 | .any k n l=> .any k n (l.map (ahM ρ))
 | .seq a b=> .seq (Jo ρ a) (Jo ρ b)
 | .ite x a b=> .ite x (Jo ρ a) (Jo ρ b)
 | .block i c=> .block i (Jo ρ c)
 | .loop c=> .loop (Jo ρ c)
 | .exit i=> .exit i
 | .ret=> .ret
 | .range f p a b=> .range f p a b
 | .fail=> .fail
def Vt (ρ:Nat->Nat)(f:Ay.Fn):Ay.Fn:=⟨f.nargs,f.init,f.results,Jo ρ f.body⟩
attribute [go_sem] Vt Jo ahM YR ajB List.map_cons List.map_nil
def sK:List Nat:= [247,260,248,227,254,253,252,249,250,264,262,261,251,186]
class bN (α:Type)[Inhabited α] where
 lt:α->α->Bool
 enc:α->List V
 P:α->Prop
 B:H->Prop
 f:Nat
 b0:Nat
 S:Nat
 swo:SWO lt
 len: ∀a,(enc a).length=4
 one: ∀a,(enc a).all V.one=true
 eqv: ∀a,dI (.agg (enc a)) (.agg (enc a))=true
 cmp: ∀h a b,B h->P a->P b->Ev T f [.agg (enc a),.agg (enc b)] h (λv h'=> ∃z,v= aC z/\decide (z<0)=lt a b/\Fr h h')
 bfr: ∀h h',B h->Fr h h'->B h'
 bS: ∀h h',B h->Fx (· =S) h h'->B h'
 bR: ∀h h' R,B h->b0<=R->Fx (· =R) h h'->B h'
 bn: ∀h,B h->b0<=h.next
 ρ:Nat->Nat
 hT: ∀k,k∈sK->T (ρ k)=(T k).map (Vt ρ)
 s1:ρ 128=128
 s2:ρ 212=212
 s3:ρ 213=213
@[go_sem] theorem akP {α:Type}[Inhabited α][O:bN α]:O.ρ 128=128:=O.s1
@[go_sem] theorem akC {α:Type}[Inhabited α][O:bN α]:O.ρ 212=212:=O.s2
@[go_sem] theorem akL {α:Type}[Inhabited α][O:bN α]:O.ρ 213=213:=O.s3
theorem wH {α:Type}[Inhabited α][O:bN α]{k:Nat}{c:Ay.Fn}(h:T k=some c)(m:k∈sK):T (O.ρ k)=some (Vt O.ρ c):=by
 rw[O.hT k m,h]
 rfl
def flat {α:Type}[Inhabited α][bN α](l:List α):List V:=l.flatMap bN.enc
structure dY {α:Type}[Inhabited α][O:bN α](h:H)(S N:Nat)(d:Array α):Prop where
 get:h.get S=bB (flat d.toList)
 size:d.size=N
 lt:S<h.next
 eqS:S=O.S
 base:O.B h
 all: ∀i,i<d.size->O.P d[i]!
section
variable {α:Type} [Inhabited α] [O:bN α]
theorem uK: ∀l:List α,(flat l).length=l.length*4
 | []=>rfl
 |x::r=>by
  show (bN.enc x++flat r).length=_;rw[iV,bN.len,uK r,List.length_cons];omega
theorem Ju: ∀(l:List α) (i:Nat),(flat l).drop (i*4)=flat (l.drop i)
 |l,0=>by simp
 | [],i+1=>by simp [flat]
 |x::r,i+1=>by
  show (bN.enc x++flat r).drop ((i+1)*4)=_;rw[List.drop_append,List.drop_eq_nil_of_le (by rw[bN.len];omega),bN.len,List.nil_append,show (i+1)*4- 4=i*4 by omega,Ju r i,List.drop_succ_cons]
theorem Sz: ∀(l:List α) (i:Nat),(flat l).take (i*4)=flat (l.take i)
 |l,0=>by simp [flat]
 | [],i+1=>by simp [flat]
 |x::r,i+1=>by
  show (bN.enc x++flat r).take ((i+1)*4)=_;rw[List.take_append,Ro (by rw[bN.len];omega),bN.len,show (i+1)*4- 4=i*4 by omega,Sz r i,List.take_succ_cons];rfl
theorem aaD (h:H)(id off:Nat)(a:α):Wz h 4 (.ptr id off) (.agg (bN.enc a))=eU (h.get id) h id off (bN.enc a):=Di h id off 4 _ (bN.len a) (bN.one a)
theorem aaV (a:α):dI (.agg (bN.enc a)) (.agg (bN.enc a))=true:=bN.eqv a
theorem dY.rd {d:Array α}(A:dY h S N d)(hi:i<N):h.row S (i*4) 4=some (bN.enc d[i]!):=by
 have b:i<d.size:=by rw[A.size];exact hi
 have c:i<d.toList.length:=by simpa using b
 unfold H.row;rw[A.get];simp only[sub];rw[bJ (by rw[uK];omega),Ju,Zh c];show some ((bN.enc d.toList[i]++flat _).take 4)=_;rw[List.take_append,Ro (by rw[bN.len];exact fN _),bN.len];simp [b]
theorem dY.fr {h':H}{d:Array α}(A:dY h S N d)(f:Fr h h'):dY h' S N d:=⟨by rw[f.get _ A.lt];exact A.get,A.size,jM A.lt f.next,A.eqS,O.bfr _ _ A.base f,A.all⟩
theorem cJ {d:Array α}(hi:i<d.size)(b:H)(S:Nat)(x:α):eU (bB (flat d.toList)) b S (i*4) (bN.enc x)=some (b.set S (bB (flat (d.setIfInBounds i x).toList))):=by
 have c:i<d.toList.length:=by simpa using hi
 have e:(flat d.toList).take (i*4)++bN.enc x++(flat d.toList).drop (i*4+4)=flat (d.setIfInBounds i x).toList:=by
  rw[Array.toList_setIfInBounds,List.set_eq_take_append_cons_drop,bJ c,Sz,show i*4+4=(i+1)*4 by omega,Ju];simp [flat]
 simp only[eU,putAt,bN.len];rw[bJ (by rw[uK];omega),e];rfl
theorem bW {d:Array α}{y:α}(hi:i<d.size)(b:H)(S:Nat)(x:α):eU (bB (flat (d.setIfInBounds j y).toList)) b S (i*4) (bN.enc x)=some (b.set S (bB (flat ((d.setIfInBounds j y).setIfInBounds i x).toList))):=
 cJ (by simpa using hi) b S x
theorem dY.swap {h2:H}{d:Array α}(A:dY h S N d){nx:Nat}(f:h.next<=nx)(e:h2=((H.mk h.tr nx).set S (bB (flat (d.setIfInBounds i d[j]!).toList))).set S (bB (flat ((d.setIfInBounds i d[j]!).setIfInBounds j d[i]!).toList)))(hi:i<N:=by omega)(q:j<N:=by omega):dY h2 S N (swp d i j)/\Fx (· =S) h h2:=by
 subst e
 have fx:Fx (· =S) h (((H.mk h.tr nx).set S (bB (flat (d.setIfInBounds i d[j]!).toList))).set S (bB (flat ((d.setIfInBounds i d[j]!).setIfInBounds j d[i]!).toList))):=⟨f,λid _ n=>by rw[H.aH _ n,H.aH _ n];rfl⟩
 have sz:=A.size;refine⟨⟨?_,?_,jM A.lt f,A.eqS,O.bS _ _ A.base (by have:=A.eqS;subst this;exact fx),?_⟩,fx⟩
 ·rw[H.aU];rfl
 ·simp [swp,sz]
 ·intro k p
  have b:k<d.size:=by simpa [swp] using p
  unfold swp
  have c: ∀(x:Array α) (u:Nat) (y:α),k<x.size->(x.setIfInBounds u y)[k]! =if u=k then y else x[k]! :=λx u y l=>by
   rw[getElem!_pos (x.setIfInBounds u y) k (by simpa using l),getElem!_pos x k l,Array.getElem_setIfInBounds]
  rw[c _ _ _ (by simpa using b),c _ _ _ b]
  by_cases m:j=k
  ·rw[bJ m];exact A.all i om
  ·rw[bU m]
   by_cases o:i=k
   ·rw[bJ o];exact A.all j om
   ·rw[bU o];exact A.all k b
theorem jQ {d:Array α}(A:dY h S N d)(hi:i<N)(c:j<N)(nx:Nat)(b:h.next<=nx):Ev T (bN.f α) [.agg (bN.enc d[i]!),.agg (bN.enc d[j]!)] (H.mk h.tr nx) (λv h'=> ∃z,v= aC z/\decide (z<0)=bN.lt d[i]! d[j]! /\Fr (H.mk h.tr nx) h'):=
 O.cmp _ _ _ (O.bfr _ _ A.base ((Fr.refl h).bH b)) (A.all i (by rw[A.size];exact hi)) (A.all j (by rw[A.size];exact c))
end
attribute [go_sem] aaD aaV H.BJ
theorem gZ {a b c:H}(x:Fx (· =S) a b)(y:Fx (· =S) b c):Fx (· =S) a c:=x.trans y λ_ _ h=>h
theorem EI {α:Type}[Inhabited α]{lt:α->α->Bool}{d:Array α}(b:a<j+1)(h2:lt d[j+1]! d[j]! =true):insInner lt a (j+1) d=insInner lt a j (swp d (j+1) j):=by
 rw[insInner,bJ (by simp [b,h2])]
theorem DO {α:Type}[Inhabited α]{lt:α->α->Bool}{d:Array α}(h2:lt d[j+1]! d[j]! =false):insInner lt a (j+1) d=d:=by
 rw[insInner,bU (by simp [h2])]
theorem CL {α:Type}[Inhabited α]{lt:α->α->Bool}{d:Array α}(h:j<=a):insInner lt a j d=d:=by
 cases j with
 |zero=>rfl
 |succ j=>rw[insInner,bU (by simp;omega)]
theorem yY {α:Type}[Inhabited α][O:bN α](h:H)(S N a b:Nat)(d:Array α)(w:pY)(hN:N<1000000)(A:dY h S N d)(hb:b<=N)(U:a<=b):
  Ev T (bN.ρ α 247) [.sl S 0 N w,aC a,aC b,.fn (bN.f α) [] []] h (λ_ h'=>dY h' S N (insertionSort bN.lt d a b)/\Fx (· =S) h h'):=by
 refine mX (wH (α:=α) dV.ok (by decide)) rfl ?_
 simp(disch:=omega)only[go_sem,dV,aE]
 rw[fJ a]
 refine aI (λr c s=> ∃(i:Nat) (e:Array α),(∃g:Nat->V,c= [.sl S 0 N w,aC a,aC b,.fn (bN.f α) [] [],aC i,g 5,g 6,g 7])/\a<i/\i<=b+1/\dY s S N e/\insOuter bN.lt a b i e=insertionSort bN.lt d a b/\Fx (· =S) h s/\r=b+1-i) (b+1-(a+1))
  ⟨a+1,d,aB rfl,om,om,A,rfl,Fx.refl _ h,rfl⟩ ?_
 clear A
 rintro r c h1 ⟨i,e,⟨g,rfl⟩,Z,R,A,k,F,rfl⟩
 simp(disch:=omega)only[go_sem]
 by_cases u:(i:Int)<(b:Int)
 case neg=>
  rw[bI u];simp(disch:=omega)only[go_sem];rw[insOuter,bU om] at k;rw[←k];exact⟨A,F⟩
 rw[cI u]
 rw[insOuter,bJ om] at k
 simp(disch:=omega)only[go_sem]
 refine aI (λr c s=> ∃(j:Nat) (n:Array α),(∃g:Nat->V,c= [.sl S 0 N w,aC a,aC b,.fn (bN.f α) [] [],aC i,aC j,g 6,g 7])/\a<=j/\j<=i/\dY s S N n/\insInner bN.lt a j n=insInner bN.lt a i e/\Fx (· =S) h s/\r=j) i
  ⟨i,e,aB rfl,om,om,A,rfl,F,rfl⟩ ?_
 clear A F
 rintro r c p ⟨j,n,⟨g2,rfl⟩,K,L,A,o,F,hk⟩
 have sz:=A.size
 by_cases t:(a:Int)<(j:Int)
 ·obtain⟨m,rfl⟩: ∃m,j=m+1:=⟨j- 1,om⟩
  have P:=A.rd (i:=m+1) om
  have Q:=A.rd (i:=m) om
  have x:=cI t
  have y:((m+1:Nat):Int)- 1=(m:Int):=om
  simp(disch:=omega)only[go_sem,x,y,P,Q]
  refine (jQ A (i:=m+1) (j:=m) om om _ om).mono ?_
  rintro _ J ⟨z,rfl,B,v⟩
  have l:Fr p J:=Fr.trans ((Fr.refl p).bH om) v
  have q:=A.fr l
  have c3:=q.rd (i:=m+1) om
  have Y:=q.rd (i:=m) om
  cases hl:bN.lt n[m+1]! n[m]! with
  |false=>
   rw[DO hl] at o;simp(disch:=omega)only[go_sem,B,hl];rw[fJ i];rw[←o] at k;exact⟨b+1-(i+1),om,i+1,n,aB rfl,om,om,q,k,gZ F (Fx.of l),rfl⟩
  |true=>
   rw[EI om hl] at o;simp(disch:=omega)only[go_sem,B,hl,y,c3,Y,q.get,cJ,bW];have W:=q.swap (i:=m+1) (j:=m) (nx:=J.next+18) om rfl;exact⟨m,om,m,_,aB rfl,om,om,W.1,o,gZ (gZ F (Fx.of l)) W.2,rfl⟩
 ·have x:=bI t
  rw[CL om] at o
  simp(disch:=omega)only[go_sem,x]
  rw[fJ i]
  rw[←o] at k
  have G:Fr p (H.mk p.tr (p.next+17)):=(Fr.refl p).bH om
  exact⟨b+1-(i+1),om,i+1,n,aB rfl,om,om,A.fr G,k,gZ F (Fx.of G),rfl⟩
end
def EO {α:Type}[Inhabited α](lt:α->α->Bool)(hi first root:Nat)(d:Array α):Nat:=if 2*root+1+1<hi/\lt d[first+(2*root+1)]! d[first+(2*root+1)+1]! =true then 2*root+2 else 2*root+1
theorem Hk {α:Type}[Inhabited α]{lt:α->α->Bool}(hi first a:Nat)(d:Array α):siftDown lt hi first a d=if 2*a+1≥hi then d else
  if lt d[first+a]! d[first+EO lt hi first a d]! =true then siftDown lt hi first (EO lt hi first a d) (swp d (first+a) (first+EO lt hi first a d)) else d:=by
 rw[siftDown]
 unfold EO
 by_cases b:2*a+1≥hi
 ·rw[dif_pos b,bJ b]
 ·rw[dif_neg b,bU b]
  by_cases c:2*a+1+1<hi/\lt d[first+(2*a+1)]! d[first+(2*a+1)+1]! =true
  ·rw[bJ (by simpa using c),bJ c]
   cases h3:lt d[first+a]! d[first+(2*a+2)]!
   ·simp
   ·simp [show 2*a+2<hi by omega]
  ·rw[bU (by simpa using c),bU c]
   cases h3:lt d[first+a]! d[first+(2*a+1)]! <;>simp
theorem rU  {α:Type}[Inhabited α][O:bN α](h:H)(S N x hi first:Nat)(d:Array α)(cp:pY)(hN:N<1000000)(A:dY h S N d)(hb:first+hi<=N)(R:x<=hi):
  Ev T (bN.ρ α 260) [.sl S 0 N cp,aC x,aC hi,aC first,.fn (bN.f α) [] []] h (λ_ h'=>dY h' S N (siftDown bN.lt hi first x d)/\Fx (· =S) h h'):=by
 refine mX (wH (α:=α) eS.ok (by decide)) rfl ?_
 simp(disch:=omega)only[go_sem,eS,aE]
 refine aI (λk' t hh=> ∃(r:Nat) (e:Array α),(∃g:Nat->V,t= [.sl S 0 N cp,aC x,aC hi,aC first,.fn (bN.f α) [] [],aC r,g 6,g 7,g 8,g 9])/\r<=hi/\dY hh S N e/\siftDown bN.lt hi first r e=siftDown bN.lt hi first x d/\Fx (· =S) h hh/\k'=hi-r) (hi-x)
  ⟨x,d,aB rfl,R,A,rfl,Fx.refl _ h,rfl⟩ ?_
 clear A
 rintro k' t q ⟨r,e,⟨g,rfl⟩,hr,A,a,F,rfl⟩
 have U:2*(r:Int)+1=((2*r+1:Nat):Int):=om
 by_cases G:(hi:Int)<=((2*r+1:Nat):Int)
 ·have P:=cI G
  simp(disch:=omega)only[go_sem,U,P]
  rw[Hk,bJ om] at a
  rw[←a]
  exact⟨A,F⟩
 have P:=bI G
 rw[Hk,bU om] at a
 have Q:((2*r+1:Nat):Int)+1=((2*r+2:Nat):Int):=om
 have c:(first:Int)+(r:Int)=((first+r:Nat):Int):=om
 have m:(first:Int)+((2*r+1:Nat):Int)=((first+(2*r+1):Nat):Int):=om
 have K:(first:Int)+((2*r+2:Nat):Int)=((first+(2*r+2):Nat):Int):=om
 have Z:((first+(2*r+1):Nat):Int)+1=((first+(2*r+1)+1:Nat):Int):=om
 have sz:=A.size
 by_cases J:((2*r+2:Nat):Int)<(hi:Int)
 ·have e2:=cI J
  have p:=A.rd (i:=first+(2*r+1)) om
  have y:=A.rd (i:=first+(2*r+1)+1) om
  simp(disch:=omega)only[go_sem,U,P,Q,e2,m,Z,p,y]
  refine (jQ A (i:=first+(2*r+1)) (j:=first+(2*r+1)+1) om om _ om).mono ?_
  rintro _ L ⟨z,rfl,n,Y⟩
  have B:Fr q L:=Fr.trans ((Fr.refl q).bH om) Y
  have u:=A.fr B
  have o:=u.rd (i:=first+r) om
  have p:=u.rd (i:=first+(2*r+1)) om
  have y:=u.rd (i:=first+(2*r+2)) om
  cases hl:bN.lt e[first+(2*r+1)]! e[first+(2*r+1)+1]! with
  |false=>
   have k:EO bN.lt hi first r e=2*r+1:=bU (by rw[hl];simp)
   rw[k] at a;simp(disch:=omega)only[go_sem,n,hl,c,m,o,p];refine (jQ u (i:=first+r) (j:=first+(2*r+1)) om om _ om).mono ?_;rintro _ w ⟨z,rfl,n,l⟩;have v:Fr L w:=Fr.trans ((Fr.refl L).bH om) l;have b:=u.fr v;have o:=b.rd (i:=first+r) om;have p:=b.rd (i:=first+(2*r+1)) om;have s:=gZ (gZ F (Fx.of B)) (Fx.of v)
   cases hl2:bN.lt e[first+r]! e[first+(2*r+1)]! with
   |false=>
    rw[bU (by rw[hl2];simp)] at a;simp(disch:=omega)only[go_sem,n,hl2];rw[←a];exact⟨b,s⟩
   |true=>
    rw[bJ hl2] at a;simp(disch:=omega)only[go_sem,n,hl2,c,m,o,p,b.get,cJ,bW];have W:=b.swap (i:=first+r) (j:=first+(2*r+1)) (nx:=w.next+24) om rfl;exact⟨hi-(2*r+1),om,2*r+1,_,aB rfl,om,W.1,a,gZ s W.2,rfl⟩
  |true=>
   have k:EO bN.lt hi first r e=2*r+2:=bJ ⟨om,hl⟩
   rw[k] at a;simp(disch:=omega)only[go_sem,n,hl,Q,c,K,o,y];refine (jQ u (i:=first+r) (j:=first+(2*r+2)) om om _ om).mono ?_;rintro _ w ⟨z,rfl,n,l⟩;have v:Fr L w:=Fr.trans ((Fr.refl L).bH om) l;have b:=u.fr v;have o:=b.rd (i:=first+r) om;have y:=b.rd (i:=first+(2*r+2)) om;have s:=gZ (gZ F (Fx.of B)) (Fx.of v)
   cases hl2:bN.lt e[first+r]! e[first+(2*r+2)]! with
   |false=>
    rw[bU (by rw[hl2];simp)] at a;simp(disch:=omega)only[go_sem,n,hl2];rw[←a];exact⟨b,s⟩
   |true=>
    rw[bJ hl2] at a;simp(disch:=omega)only[go_sem,n,hl2,c,K,o,y,b.get,cJ,bW];have W:=b.swap (i:=first+r) (j:=first+(2*r+2)) (nx:=w.next+24) om rfl;exact⟨hi-(2*r+2),om,2*r+2,_,aB rfl,om,W.1,a,gZ s W.2,rfl⟩
 ·have e2:=bI J
  have k:EO bN.lt hi first r e=2*r+1:=bU om
  rw[k] at a
  have B:Fr q (H.mk q.tr (q.next+20)):=(Fr.refl q).bH om
  have u:=A.fr B
  have o:=A.rd (i:=first+r) om
  have p:=A.rd (i:=first+(2*r+1)) om
  simp(disch:=omega)only[go_sem,U,P,Q,e2,c,m,o,p]
  refine (jQ A (i:=first+r) (j:=first+(2*r+1)) om om _ om).mono ?_
  rintro _ w ⟨z,rfl,n,l⟩
  have v:Fr q w:=Fr.trans ((Fr.refl q).bH om) l
  have b:=A.fr v
  have o:=b.rd (i:=first+r) om
  have p:=b.rd (i:=first+(2*r+1)) om
  have s:=gZ F (Fx.of v)
  cases hl2:bN.lt e[first+r]! e[first+(2*r+1)]! with
  |false=>
   rw[bU (by rw[hl2];simp)] at a;simp(disch:=omega)only[go_sem,n,hl2];rw[←a];exact⟨b,s⟩
  |true=>
   rw[bJ hl2] at a;simp(disch:=omega)only[go_sem,n,hl2,c,m,o,p,b.get,cJ,bW];have W:=b.swap (i:=first+r) (j:=first+(2*r+1)) (nx:=w.next+24) om rfl;exact⟨hi-(2*r+1),om,2*r+1,_,aB rfl,om,W.1,a,gZ s W.2,rfl⟩
theorem Bq  {α:Type}[Inhabited α][O:bN α](h:H)(S N a b:Nat)(d:Array α)(u:pY)(z:N<1000000)(A:dY h S N d)(hb:b<=N)(U:a<=b):
  Ev T (bN.ρ α 248) [.sl S 0 N u,aC a,aC b,.fn (bN.f α) [] []] h (λ_ h'=>dY h' S N (heapSort bN.lt d a b)/\Fx (· =S) h h'):=by
 refine mX (wH (α:=α) eV.ok (by decide)) rfl ?_
 obtain⟨n,hn⟩:=exI (b-a)
 have Q:(b:Int)-(a:Int)=(n:Int):=om
 have R:((n:Int)- 1).tdiv 2=(((n- 1)/2+1:Nat):Int)- 1:=by
  by_cases Z:n=0
  ·subst Z;decide
  ·rw[Int.tdiv_eq_ediv_of_nonneg om];omega
 simp(disch:=omega)only[go_sem,eV,aE,Q,R]
 refine aI (λl c s=> ∃(k:Nat) (e:Array α),(∃g:Nat->V,c= [.sl S 0 N u,aC a,aC b,.fn (bN.f α) [] [],aC a,aC 0,aC n,aC ((k:Int)- 1),g 8,g 9,g 10])/\k<=n+1/\(k=1∨k<=n)/\dY s S N e/\heapBuild bN.lt n a k e=heapBuild bN.lt n a ((n- 1)/2+1) d/\Fx (· =S) h s/\l=k) ((n- 1)/2+1)
  ⟨(n- 1)/2+1,d,aB rfl,om,om,A,rfl,Fx.refl _ h,rfl⟩ ?_
 clear A
 rintro l c G ⟨k,e,⟨g,rfl⟩,q,x,A,v,F,y⟩
 subst y
 by_cases o:(0:Int)<=(l:Int)- 1
 ·have p:=cI o
  obtain⟨m,rfl⟩: ∃m,l=m+1:=⟨l- 1,om⟩
  have r:((m+1:Nat):Int)- 1=(m:Int):=om
  rw[r] at p
  rw[r]
  simp(disch:=omega)only[go_sem,p]
  refine (rU G S N m n a e u z A om om).mono ?_
  rintro _ B ⟨Y,F2⟩
  simp(disch:=omega)only[go_sem]
  exact⟨m,om,m,_,aB rfl,om,om,Y,v,gZ F F2,rfl⟩
 have p:=bI o
 obtain rfl:l=0:=om
 have v:e=heapBuild bN.lt n a ((n- 1)/2+1) d:=v
 simp(disch:=omega)only[go_sem,p]
 refine aI (λl c s=> ∃(k:Nat) (t:Array α),(∃g:Nat->V,c= [.sl S 0 N u,aC a,aC b,.fn (bN.f α) [] [],aC a,aC 0,aC n,g 7,aC ((k:Int)- 1),g 9,g 10])/\k<=n/\dY s S N t/\heapPop bN.lt a k t=heapPop bN.lt a n e/\Fx (· =S) h s/\l=k) n
  ⟨n,e,aB rfl,om,A,rfl,F,rfl⟩ ?_
 clear A F o p q x
 rintro l c B ⟨k,t,⟨g,rfl⟩,q,A,w,F,y⟩
 subst y
 have sz:=A.size
 by_cases o:(0:Int)<=(l:Int)- 1
 ·have p:=cI o
  obtain⟨m,rfl⟩: ∃m,l=m+1:=⟨l- 1,om⟩
  have r:((m+1:Nat):Int)- 1=(m:Int):=om
  rw[r] at p
  rw[r]
  have e3:(a:Int)+(m:Int)=((a+m:Nat):Int):=om
  have L:=A.rd (i:=a+m) om
  have P:=A.rd (i:=a) om
  simp(disch:=omega)only[go_sem,p,e3,L,P,A.get,cJ,bW]
  have W:=A.swap (i:=a) (j:=a+m) (nx:=B.next+20) om rfl
  have J:=rU _ S N 0 m a _ u z W.1 om om
  refine J.mono ?_
  rintro _ h3 ⟨K,F3⟩
  simp(disch:=omega)only[go_sem]
  exact⟨m,om,m,_,aB rfl,om,K,w,gZ (gZ F W.2) F3,rfl⟩
 have p:=bI o
 obtain rfl:l=0:=om
 simp(disch:=omega)only[go_sem,p]
 have w:t=heapPop bN.lt a n e:=w
 have:heapSort bN.lt d a b=t:=by unfold heapSort;rw[hn,w,v]
 rw[this]
 exact⟨A,F⟩
theorem dY.NT  {α:Type}[Inhabited α][O:bN α]{h h':H}{S N R:Nat}{d:Array α}(A:dY h S N d)(f:Fx (· =R) h h')(b:R≠S)(a:bN.b0 α<=R):dY h' S N d:=⟨by rw[f.get S A.lt (λe=>b e.symm)];exact A.get,A.size,jM A.lt f.next,A.eqS,O.bR _ _ _ A.base a f,A.all⟩
theorem Ge  {α:Type}[Inhabited α][O:bN α](h:H)(S N a b:Nat)(d:Array α)(o:pY)(x:N<1000000)(A:dY h S N d)(w:b<=N)(r:a<b):
  Ev T (bN.ρ α 251) [.sl S 0 N o,aC a,aC b,.fn (bN.f α) [] []] h (λ_ h'=>dY h' S N (reverseRange d a b)/\Fx (· =S) h h'):=by
 refine mX (wH (α:=α) dX.ok (by decide)) rfl ?_
 have v:(b:Int)- 1=((b- 1:Nat):Int):=om
 simp(disch:=omega)only[go_sem,dX,aE,v]
 refine aI (λc k p=> ∃(i j:Nat) (e:Array α),(∃g:Nat->V,k= [.sl S 0 N o,aC a,aC b,aC i,aC j,g 5])/\j<b/\i<=b/\dY p S N e/\reverseLoop i j e=reverseLoop a (b- 1) d/\Fx (· =S) h p/\c=j) (b- 1)
  ⟨a,b- 1,d,aB rfl,om,om,A,rfl,Fx.refl _ h,rfl⟩ ?_
 clear A
 rintro c k q ⟨i,j,e,⟨g,rfl⟩,y,hi,A,l,F,s⟩
 subst s
 have sz:=A.size
 rw[reverseLoop] at l
 by_cases m:(i:Int)<(c:Int)
 ·have n:=cI m
  rw[bJ om] at l
  have t:=A.rd (i:=i) om
  have u:=A.rd (i:=c) om
  simp(disch:=omega)only[go_sem,n,t,u,A.get,cJ,bW]
  have W:=A.swap (i:=i) (j:=c) (nx:=q.next+16) om rfl
  rw[show (i:Int)+1=((i+1:Nat):Int) from om,show (c:Int)- 1=((c- 1:Nat):Int) from om]
  exact⟨c- 1,om,i+1,c- 1,_,aB rfl,om,om,W.1,l,gZ F W.2,rfl⟩
 have n:=bI m
 rw[bU om] at l
 simp(disch:=omega)only[go_sem,n]
 unfold reverseRange
 rw[←l]
 exact⟨A,F⟩
theorem Ow (n:Nat){k:Int}{m:Nat}(a:k=(m:Int)):(n:Int).tdiv k=((n/m:Nat):Int):=by
 rw[a,Int.tdiv_eq_ediv_of_nonneg om];rfl
theorem Pb  {α:Type}[Inhabited α][O:bN α](h:H)(S N a b:Nat)(d:Array α)(cp:pY)(hN:N<60000)(A:dY h S N d)(hb:b<=N)(a2:a<=b):
  Ev T (bN.ρ α 249) [.sl S 0 N cp,aC a,aC b,.fn (bN.f α) [] []] h (λ_ h'=> ∃e,dY h' S N e/\PermIn a b d e/\Fx (· =S) h h'):=by
 refine mX (wH (α:=α) dA.ok (by decide)) rfl ?_
 obtain⟨n,hn⟩:=exI (b-a)
 have en:(b:Int)-(a:Int)=(n:Int):=om
 by_cases h8:(8:Int)<=(n:Int)
 case neg=>
  have e8:=bI h8;simp(disch:=omega)only[go_sem,dA,aE,en,e8];exact⟨d,A,permIn_refl d a b,Fx.refl _ h⟩
 have e8:=cI h8
 have J:=Ow n (k:=4) (m:=4) rfl
 obtain⟨q,hq⟩:=exI (n/4)
 rw[hq] at J
 have ei:(a:Int)+(q:Int)*2- 1=((a+q*2- 1:Nat):Int):=om
 have ej:(a:Int)+(q:Int)*2+1=((a+q*2+1:Nat):Int):=om
 have hp:=two_pow_bitsLen_le (show 0<n by omega)
 have P:=lt_two_pow_bitsLen n
 obtain⟨m,hm⟩:=exI (2^bitsLen n)
 rw[hm] at hp P
 obtain⟨R,hR⟩:=exI h.next
 have a0:R≠S:=by have:=A.lt;omega
 have U:bN.b0 α<=R:=by have:=O.bn _ A.base;omega
 have Y: ∀c:H,eU (bB [.int .u64 0]) c R 0 [.int .u64 (n:Int)]=some (c.set R (bB [.int .u64 (n:Int)])):=λc=>bT (by simp) c R _
 have s:(h.new (.cells false [.int .u64 0])).get R=bB [.int .u64 0]:=by rw[←hR,H.aL]
 simp(disch:=omega)only[go_sem,dA,aE,en,e8,hR,fS (n:=(n:Int)) om om,s,Y]
 obtain⟨o,l⟩: ∃o,o=(h.new (.cells false [.int .u64 0])).set R (bB [.int .u64 (n:Int)]):=⟨_,rfl⟩
 rw[←l]
 have g1:o.get R=bB [.int .u64 (n:Int)]:=by rw[l,H.aU]
 have n1:o.next=R+1:=by rw[l,H.cV,H.aW,hR]
 have L:Fr h o:=by rw[l];exact ((Fr.refl h).new _).set om _
 clear l
 refine (HO n o om).mono ?_
 rintro _ a4 ⟨rfl,c⟩
 rw[c,hm]
 simp(disch:=omega)only[go_sem,J,ei]
 refine aI (λk' r c=> ∃(i:Nat) (e:Array α) (x:Int),(∃g:Nat->V,r= [.sl S 0 N cp,aC a,aC b,aC n,.ptr R 0,.int .u64 (m:Int),aC i,g 7,g 8,g 9,g 10])/\a<=i/\i<=a+q*2+2/\dY c S N e/\PermIn a b d e/\c.get R=bB [.int .u64 x]/\R<c.next/\Fx (· =S) h c/\k'=a+q*2+2-i) (a+q*2+2-(a+q*2- 1))
  ⟨a+q*2- 1,d,_,aB rfl,om,om,A.fr L,permIn_refl d a b,g1,om,Fx.of L,rfl⟩ ?_
 clear A g1 n1 L c o
 rintro k' r o ⟨i,e,x,⟨g,rfl⟩,v,a1,A,Z,gR,nR,F,rfl⟩
 by_cases z:(i:Int)<=((a+q*2+1:Nat):Int)
 case neg=>
  have e1:=bI z;simp(disch:=omega)only[go_sem,J,ej,e1];exact⟨e,A,Z,F⟩
 have e1:=cI z
 simp(disch:=omega)only[go_sem,J,ej,e1]
 refine (HK R x o gR nR).mono ?_
 rintro _ K ⟨y,rfl,u,F2⟩
 have p:=A.NT F2 a0 U
 obtain⟨w,hw,a3⟩:=IU y (m- 1) om
 have em:(m:Int)- 1=((m- 1:Nat):Int):=om
 have sz:=p.size
 have B:Fx (· =S) h K:=⟨mY F.next F2.next,λid h3 h4=>(F2.get id (jM h3 F.next) (λe=>by have:id=R:=e;omega)).trans (F.get id h3 h4)⟩
 have G:R<K.next:=jM nR F2.next
 by_cases t:(n:Int)<=(w:Int)
 ·have e2:=cI t
  have e3:(w:Int)-(n:Int)=((w-n:Nat):Int):=om
  have e5:(a:Int)+((w-n:Nat):Int)=((a+(w-n):Nat):Int):=om
  have Q:=p.rd (i:=i) om
  have c2:=p.rd (i:=a+(w-n)) om
  simp(disch:=omega)only[go_sem,em,fS (n:=((m- 1:Nat):Int)) om om,hw,e2,e3,e5,Q,c2,p.get,cJ,bW]
  have W:=p.swap (i:=i) (j:=a+(w-n)) (nx:=K.next+20) om rfl
  rw[fJ i]
  refine⟨a+q*2+2-(i+1),om,i+1,_,y,aB rfl,om,om,W.1,permIn_trans _ _ _ a b Z (swp_permIn e a b i (a+(w-n)) v om om om om),?_,jM G W.2.next,gZ B W.2,rfl⟩
  exact u
 ·have e2:=bI t
  have e5:(a:Int)+(w:Int)=((a+w:Nat):Int):=om
  have Q:=p.rd (i:=i) om
  have c2:=p.rd (i:=a+w) om
  simp(disch:=omega)only[go_sem,em,fS (n:=((m- 1:Nat):Int)) om om,hw,e2,e5,Q,c2,p.get,cJ,bW]
  have W:=p.swap (i:=i) (j:=a+w) (nx:=K.next+20) om rfl
  rw[fJ i]
  refine⟨a+q*2+2-(i+1),om,i+1,_,y,aB rfl,om,om,W.1,permIn_trans _ _ _ a b Z (swp_permIn e a b i (a+w) v om om om om),?_,jM G W.2.next,gZ B W.2,rfl⟩
  exact u
structure BY (h h':H)(R:Nat):Prop where
 get: ∃s,h'.get R=bB [aC s]
 fx:Fx (· =R) h h'
theorem BY.trans {a b c:H}{R:Nat}(x:BY a b R)(y:BY b c R):BY a c R:=⟨y.get,x.fx.trans y.fx λ_ _ h=>h⟩
theorem qJ  {α:Type}[Inhabited α][O:bN α](h:H)(S N a b R:Nat)(d:Array α)(x:pY)(G:N<1000000)(A:dY h S N d)(J:a<N)(F:b<N)(B:R≠S)(n:R<h.next)(y:bN.b0 α<=R)(s:Int)(r:h.get R=bB [aC s]):
  Ev T (bN.ρ α 264) [.sl S 0 N x,aC a,aC b,.ptr R 0,.fn (bN.f α) [] []] h (λv h'=>(v= .tup [aC a,aC b]∨v= .tup [aC b,aC a])/\BY h h' R):=by
 refine mX (wH (α:=α) fF.ok (by decide)) rfl ?_
 have t:=A.rd (i:=a) om
 have u:=A.rd (i:=b) om
 simp(disch:=omega)only[go_sem,fF,aE,t,u]
 refine (jQ A (i:=b) (j:=a) om om _ om).mono ?_
 rintro _ k ⟨z,rfl,p,m⟩
 have o:Fr h k:=Fr.trans ((Fr.refl h).bH om) m
 have c:k.get R=bB [aC s]:=by rw[o.get R n];exact r
 cases hl:bN.lt d[b]! d[a]! with
 |false=>
  simp(disch:=omega)only[go_sem,p,hl];exact⟨.inl trivial,⟨s,c⟩,Fx.of o⟩
 |true=>
  have cR:k.cell R 0=some (aC s):=by rw[H.aF c];rfl
  have q: ∀(w:Int) (l:H),eU (bB [aC s]) l R 0 [aC w]=some (l.set R (bB [aC w])):=λw l=>bT (by simp) l R _
  simp(disch:=omega)only[go_sem,p,hl,cR,c,q];exact⟨.inr trivial,⟨_,by rw[H.aU]⟩,(Fx.of (W:=(· =R)) o).trans (Fx.set k (W:=(· =R)) rfl _) (λ_ _ h=>h)⟩
theorem yA  {α:Type}[Inhabited α][O:bN α](h:H)(S N a b c R:Nat)(d:Array α)(q:pY)(w:N<1000000)(A:dY h S N d)(F:a<N)(u:b<N)(P:c<N)(k:R≠S)(j:R<h.next)(i:bN.b0 α<=R)(s:Int)(gR:h.get R=bB [aC s]):
  Ev T (bN.ρ α 262) [.sl S 0 N q,aC a,aC b,aC c,.ptr R 0,.fn (bN.f α) [] []] h (λv h'=>(∃m,v= aC (m:Nat)/\(m=a∨m=b∨m=c))/\BY h h' R):=by
 refine mX (wH (α:=α) fE.ok (by decide)) rfl ?_
 simp(disch:=omega)only[go_sem,fE,aE]
 refine (qJ h S N a b R d q w A F u k j i s gR).mono ?_
 rintro v1 Y ⟨G,n⟩
 obtain⟨U,p,rfl,B,l,W⟩: ∃x y,v1= .tup [aC (x:Nat),aC (y:Nat)]/\x<N/\y<N/\((x=a∨x=b)/\(y=a∨y=b)):=by
  rcases G with rfl|rfl
  ·exact⟨a,b,rfl,F,u,.inl rfl,.inr rfl⟩
  ·exact⟨b,a,rfl,u,F,.inr rfl,.inl rfl⟩
 have J:=A.NT n.fx k i
 obtain⟨s1,g1⟩:=n.get
 have Q:=jM j n.fx.next
 simp(disch:=omega)only[go_sem]
 refine (qJ Y S N p c R d q w J l P k Q i s1 g1).mono ?_
 rintro v2 h2 ⟨z,o⟩
 obtain⟨K,y2,rfl,r,L⟩: ∃x y,v2= .tup [aC (x:Nat),aC (y:Nat)]/\x<N/\(x=p∨x=c):=by
  rcases z with rfl|rfl
  ·exact⟨p,c,rfl,l,.inl rfl⟩
  ·exact⟨c,p,rfl,P,.inr rfl⟩
 have A2:=J.NT o.fx k i
 obtain⟨s2,g2⟩:=o.get
 have Z:=jM Q o.fx.next
 simp(disch:=omega)only[go_sem]
 refine (qJ h2 S N U K R d q w A2 B r k Z i s2 g2).mono ?_
 rintro v3 h3 ⟨t,C3⟩
 have C:=(n.trans o).trans C3
 rcases t with rfl|rfl
 ·simp(disch:=omega)only[go_sem]
  exact⟨⟨K,rfl,om⟩,C⟩
 ·simp(disch:=omega)only[go_sem]
  exact⟨⟨U,rfl,om⟩,C⟩
theorem oK  {α:Type}[Inhabited α][O:bN α](h:H)(S N a R:Nat)(d:Array α)(i:pY)(n:N<1000000)(A:dY h S N d)(t:0<a)(q:a+1<N)(k:R≠S)(c:R<h.next)(b:bN.b0 α<=R)(s:Int)(l:h.get R=bB [aC s]):
  Ev T (bN.ρ α 261) [.sl S 0 N i,aC a,.ptr R 0,.fn (bN.f α) [] []] h (λv h'=>(∃m,v= aC (m:Nat)/\(m=a- 1∨m=a∨m=a+1))/\BY h h' R):=by
 refine mX (wH (α:=α) dQ.ok (by decide)) rfl ?_
 have j:(a:Int)- 1=((a- 1:Nat):Int):=om
 have p:(a:Int)+1=((a+1:Nat):Int):=om
 simp(disch:=omega)only[go_sem,dQ,aE,j,p]
 refine (yA h S N (a- 1) a (a+1) R d i n A om om om k c b s l).mono ?_
 rintro _ r ⟨⟨m,rfl,o⟩,C⟩
 simp(disch:=omega)only[go_sem]
 exact⟨⟨m,rfl,o⟩,C⟩
theorem Nz  {α:Type}[Inhabited α][O:bN α](h:H)(S N a b:Nat)(d:Array α)(J:pY)(W:N<1000000)(A:dY h S N d)(hb:b<=N)(a1:a<b):
  Ev T (bN.ρ α 250) [.sl S 0 N J,aC a,aC b,.fn (bN.f α) [] []] h (λv h'=> ∃(p:Nat) (t:Int),v= .tup [aC p,aC t]/\a<=p/\p<b/\Fr h h'):=by
 refine mX (wH (α:=α) cQ.ok (by decide)) rfl ?_
 obtain⟨n,hn⟩:=exI (b-a)
 have en:(b:Int)-(a:Int)=(n:Int):=om
 have e4:=Ow n (k:=4) (m:=4) rfl
 obtain⟨q,hq⟩:=exI (n/4)
 rw[hq] at e4
 have ei:(a:Int)+(q:Int)*1=((a+q:Nat):Int):=om
 have ej:(a:Int)+(q:Int)*2=((a+q*2:Nat):Int):=om
 have ek:(a:Int)+(q:Int)*3=((a+q*3:Nat):Int):=om
 obtain⟨R,L⟩:=exI h.next
 have l:R≠S:=by have:=A.lt;omega
 have c:bN.b0 α<=R:=by have:=O.bn _ A.base;omega
 obtain⟨s,o⟩: ∃s,s=h.new (.cells false [aC 0]):=⟨_,rfl⟩
 have g1:s.get R=bB [aC 0]:=by rw[o,←L,H.aL]
 have n1:s.next=R+1:=by rw[o,H.aW,L]
 have f1:Fr h s:=by rw[o];exact (Fr.refl h).new _
 have A1:=A.fr f1
 have P: ∀(p:Nat) (r:H),a<=p->p<b->Fx (· =R) s r->a<=p/\p<b/\Fr h r:=λp r x1 x2 x3=>⟨x1,x2,mY f1.next x3.next,λid a0=>(x3.get id om (λe=>by have:id=R:=e;omega)).trans (f1.get id a0)⟩
 by_cases h8:(8:Int)<=(n:Int)
 case neg=>
  have Y:=bI h8;simp(disch:=omega)only[go_sem,cQ,aE,en,e4,ei,ej,ek,Y];rw[←o];have cR:s.cell R 0=some (aC 0):=by rw[H.aF g1];rfl
  simp(disch:=omega)only[go_sem,L,cR];refine bA (λ_=>?_) (λhc=>(hc (by trivial)).elim);simp(disch:=omega)only[go_sem];exact⟨a+q*2,1,rfl,P _ _ om om (Fx.refl _ _)⟩
 have Y:=cI h8
 have w: ∀(i j k:Nat) (r:H) (Q:Int),a<=i->i<b->a<=j->j<b->a<=k->k<b->dY r S N d->r.get R=bB [aC Q]->R<r.next->Fx (· =R) s r->
   Ev T (bN.ρ α 262) [.sl S 0 N J,aC i,aC j,aC k,.ptr R 0,.fn (bN.f α) [] []] r (λv h'=> ∃p u,v= aC (p:Nat)/\a<=p/\p<b/\h'.get R=bB [aC u]/\Fr h h'):=by
  intro i j k r Q i1 i2 j1 j2 k1 k2 Z g2 n2 F2
  refine (yA r S N i j k R d J W Z om om om l n2 c Q g2).mono ?_
  rintro _ G ⟨⟨p,rfl,hp⟩,⟨u,B⟩,U⟩
  exact⟨p,u,rfl,om,om,B,(P p G om om (F2.trans U λ_ _ h=>h)).2.2⟩
 by_cases K:(50:Int)<=(n:Int)
 case neg=>
  have x:=bI K;simp(disch:=omega)only[go_sem,cQ,aE,en,e4,ei,ej,ek,Y,x];rw[←o];simp(disch:=omega)only[go_sem,L];refine (w (a+q) (a+q*2) (a+q*3) s 0 om om om om om om A1 g1 om (Fx.refl _ _)).mono ?_;rintro _ G ⟨p,u,rfl,y,F,B,z⟩;have cR:G.cell R 0=some (aC u):=by rw[H.aF B];rfl
  simp(disch:=omega)only[go_sem,cR];refine bA (λ_=>?_) (λ_=>?_)
  ·simp(disch:=omega)only[go_sem]
   exact⟨p,1,rfl,y,F,z⟩
  ·simp(disch:=omega)only[go_sem]
   refine bA (λ_=>?_) (λ_=>?_)
   ·simp(disch:=omega)only[go_sem]
    exact⟨p,2,rfl,y,F,z⟩
   ·simp(disch:=omega)only[go_sem]
    exact⟨p,0,rfl,y,F,z⟩
 have x:=cI K
 simp(disch:=omega)only[go_sem,cQ,aE,en,e4,ei,ej,ek,Y,x]
 rw[←o]
 simp(disch:=omega)only[go_sem,L]
 refine (oK s S N (a+q) R d J W A1 om om l om c 0 g1).mono ?_
 rintro _ r ⟨⟨i,rfl,hi⟩,⟨Q,g2⟩,F2⟩
 have Z:=A1.NT F2 l c
 have n2:=F2.next
 simp(disch:=omega)only[go_sem]
 refine (oK r S N (a+q*2) R d J W Z om om l om c Q g2).mono ?_
 rintro _ G ⟨⟨j,rfl,hj⟩,⟨u,B⟩,U⟩
 have A3:=Z.NT U l c
 have n3:=U.next
 simp(disch:=omega)only[go_sem]
 refine (oK G S N (a+q*3) R d J W A3 om om l om c u B).mono ?_
 rintro _ h4 ⟨⟨k,rfl,hk⟩,⟨s4,g4⟩,F4⟩
 have A4:=A3.NT F4 l c
 have n4:=F4.next
 simp(disch:=omega)only[go_sem]
 refine (w i j k h4 s4 om om om om om om A4 g4 om ((F2.trans U λ_ _ h=>h).trans F4 λ_ _ h=>h)).mono ?_
 rintro _ G ⟨p,u,rfl,y,F,B,z⟩
 have cR:G.cell R 0=some (aC u):=by rw[H.aF B];rfl
 simp(disch:=omega)only[go_sem,cR]
 refine bA (λ_=>?_) (λ_=>?_)
 ·simp(disch:=omega)only[go_sem]
  exact⟨p,1,rfl,y,F,z⟩
 ·simp(disch:=omega)only[go_sem]
  refine bA (λ_=>?_) (λ_=>?_)
  ·simp(disch:=omega)only[go_sem]
   exact⟨p,2,rfl,y,F,z⟩
  ·simp(disch:=omega)only[go_sem]
   exact⟨p,0,rfl,y,F,z⟩
section
variable {j b:Nat}
theorem RF {α:Type}[Inhabited α]{lt:α->α->Bool}{d:Array α}(h:lt d[j+1]! d[j]! =true):shiftDown lt (j+1) d=shiftDown lt j (swp d (j+1) j):=by rw[shiftDown,bU (by simp [h])]
theorem VK {α:Type}[Inhabited α]{lt:α->α->Bool}{d:Array α}(h:lt d[j+1]! d[j]! =false):shiftDown lt (j+1) d=d:=by rw[shiftDown,bJ (by simp [h])]
theorem PC {α:Type}[Inhabited α]{lt:α->α->Bool}{d:Array α}(a:j<b)(h:lt d[j]! d[j- 1]! =true):shiftUp lt b j d=shiftUp lt b (j+1) (swp d j (j- 1)):=by rw[shiftUp,bJ a,bU (by simp [h])]
theorem RY {α:Type}[Inhabited α]{lt:α->α->Bool}{d:Array α}(a:j<b)(h:lt d[j]! d[j- 1]! =false):shiftUp lt b j d=d:=by rw[shiftUp,bJ a,bJ (by simp [h])]
theorem TB {α:Type}[Inhabited α]{lt:α->α->Bool}{i:Nat}{d:Array α}(hi:i<b)(h:lt d[i]! d[i- 1]! =false):scanSorted lt d b i=scanSorted lt d b (i+1):=by rw[scanSorted,bJ (by simp [h,hi])]
theorem Zo {α:Type}[Inhabited α]{lt:α->α->Bool}{i:Nat}{d:Array α}(h: ¬(i<b/\lt d[i]! d[i- 1]! =false)):scanSorted lt d b i=i:=by rw[scanSorted,bU (by simpa using h)]
theorem Uy {α:Type}[Inhabited α](lt:α->α->Bool)(a b s i:Nat)(d:Array α):partialIns lt a b (s+1) i d=if scanSorted lt d b i=b then (d,true) else if b-a<50 then (d,false) else
  partialIns lt a b s (scanSorted lt d b i) (if b-scanSorted lt d b i≥2 then shiftUp lt b (scanSorted lt d b i+1) (if scanSorted lt d b i-a≥2 then shiftDown lt (scanSorted lt d b i- 1) (swp d (scanSorted lt d b i) (scanSorted lt d b i- 1)) else swp d (scanSorted lt d b i) (scanSorted lt d b i- 1)) else
   (if scanSorted lt d b i-a≥2 then shiftDown lt (scanSorted lt d b i- 1) (swp d (scanSorted lt d b i) (scanSorted lt d b i- 1)) else swp d (scanSorted lt d b i) (scanSorted lt d b i- 1))):=by rw[partialIns]
theorem Eu {α:Type}[Inhabited α][O:bN α](h:H)(S N a b:Nat)(d:Array α)(Y:pY)(hN:N<1000000)(A:dY h S N d)(hb:b<=N)(b5:a<b):
  Ev T (bN.ρ α 252) [.sl S 0 N Y,aC a,aC b,.fn (bN.f α) [] []] h (λv h'=>v= .bool (partialInsertionSort bN.lt d a b).2/\dY h' S N (partialInsertionSort bN.lt d a b).1/\Fx (· =S) h h'):=by
 refine mX (wH (α:=α) dF.ok (by decide)) rfl ?_
 simp(disch:=omega)only[go_sem,dF,aE]
 rw[fJ a]
 refine aI (λk c t=> ∃(s i:Nat) (e:Array α),(∃g:Nat->V,c= [.sl S 0 N Y,aC a,aC b,.fn (bN.f α) [] [],g 4,aC i,aC (5-(s:Int)),g 7,g 8,g 9,g 10,g 11,g 12,g 13,g 14,g 15,g 16,g 17,g 18])/\s<=5/\a<i/\i<=b/\dY t S N e/\partialIns bN.lt a b s i e=partialInsertionSort bN.lt d a b/\Fx (· =S) h t/\k=s) 5
  ⟨5,a+1,d,aB rfl,om,om,om,A,rfl,Fx.refl _ h,rfl⟩ ?_
 clear A
 rintro k c Z ⟨s,i,e,⟨g,rfl⟩,hs,b2,b0,A,l,F,hk⟩
 subst hk
 by_cases L:(5:Int)-(k:Int)<5
 case neg=>
  have n:=bI L;obtain rfl:k=0:=om
  simp(disch:=omega)only[go_sem,n];have l:(e,false)=partialInsertionSort bN.lt d a b:=l;rw[←l];exact⟨rfl,A,F⟩
 have n:=cI L
 obtain⟨s,rfl⟩: ∃s,k=s+1:=⟨k- 1,om⟩
 simp(disch:=omega)only[go_sem,n]
 rw[Uy] at l
 refine aI (λk c t=> ∃(m:Nat),(∃g:Nat->V,c= [.sl S 0 N Y,aC a,aC b,.fn (bN.f α) [] [],g 4,aC m,aC (5-((s+1:Nat):Int)),g 7,g 8,g 9,g 10,g 11,g 12,g 13,g 14,g 15,g 16,g 17,g 18])/\a<m/\m<=b/\dY t S N e/\scanSorted bN.lt e b m=scanSorted bN.lt e b i/\Fx (· =S) h t/\k=b-m) (b-i)
  ⟨i,aB rfl,b2,b0,A,rfl,F,rfl⟩ ?_
 clear A F L n
 rintro k c y ⟨m,⟨g,rfl⟩,b9,b7,A,hS,F,rfl⟩
 have sz:=A.size
 have J:(m:Int)- 1=((m- 1:Nat):Int):=om
 have a6:(m:Int)+1=((m+1:Nat):Int):=om
 by_cases a4:(m:Int)<(b:Int)
 case neg=>
  have n:=bI a4;have em:m=b:=om
  rw[Zo om] at hS;rw[←hS,bJ em] at l;have e2:decide ((m:Int)=(b:Int))=true:=cI om;simp(disch:=omega)only[go_sem,n,e2];rw[←l];exact⟨rfl,A.fr ((Fr.refl y).bH om),gZ F (Fx.of ((Fr.refl y).bH om))⟩
 have n:=cI a4
 have o:=A.rd (i:=m) om
 have p:=A.rd (i:=m- 1) om
 simp(disch:=omega)only[go_sem,n,J,o,p]
 refine (jQ A (i:=m) (j:=m- 1) om om _ om).mono ?_
 rintro _ h3 ⟨z,rfl,u,a2⟩
 have G:Fr y h3:=Fr.trans ((Fr.refl y).bH om) a2
 have P:=A.fr G
 have F3:=gZ F (Fx.of G)
 cases hl:bN.lt e[m]! e[m- 1]! with
 |false=>
  rw[TB om hl] at hS;simp(disch:=omega)only[go_sem,u,hl,a6];exact⟨b-(m+1),om,m+1,aB rfl,om,om,P,hS,F3,rfl⟩
 |true=>
  rw[Zo (by rw[hl];simp)] at hS;rw[←hS,bU om] at l;have e2:decide ((m:Int)=(b:Int))=false:=bI om
  by_cases a3:(b:Int)-(a:Int)<50
  ·have B:=cI a3
   rw[bJ om] at l;simp(disch:=omega)only[go_sem,u,hl,e2,B];rw[←l];exact⟨rfl,P,F3⟩
  have B:=bI a3;rw[bU om] at l;have o:=P.rd (i:=m) om;have p:=P.rd (i:=m- 1) om;simp(disch:=omega)only[go_sem,u,hl,e2,B,J,o,p,P.get,cJ,bW];have W:=P.swap (i:=m) (j:=m- 1) (nx:=h3.next+18) om rfl
  obtain⟨h4,a7⟩: ∃h4,h4=((H.mk h3.tr (h3.next+18)).set S (bB (flat (e.setIfInBounds m e[m- 1]!).toList))).set S (bB (flat ((e.setIfInBounds m e[m- 1]!).setIfInBounds (m- 1) e[m]!).toList)):=⟨_,rfl⟩
  rw[←a7] at W ⊢;obtain⟨A4,F4⟩:=W;have K:=gZ F3 F4;clear a7 F4 P F3 G a2 o p;obtain⟨e4,a1⟩:=exI (swp e m (m- 1));rw[a1] at A4 l;refine mM (λvs h5=> ∃U,(∃g:Nat->V,vs= [.sl S 0 N Y,aC a,aC b,.fn (bN.f α) [] [],g 4,aC m,aC (5-((s+1:Nat):Int)),g 7,g 8,g 9,g 10,g 11,g 12,g 13,g 14,g 15,g 16,g 17,g 18])/\dY h5 S N U/\U=(if m-a≥2 then shiftDown bN.lt (m- 1) e4 else e4)/\Fx (· =S) h h5) ?_ ?_
  ·refine bA (λy=>?_) (λy=>?_)
   ·simp(disch:=omega)only[go_sem,J]
    refine aI (λk c t=> ∃(j:Nat) (x:Array α),(∃g:Nat->V,c= [.sl S 0 N Y,aC a,aC b,.fn (bN.f α) [] [],g 4,aC m,aC (5-((s+1:Nat):Int)),aC j,g 8,g 9,g 10,g 11,g 12,g 13,g 14,g 15,g 16,g 17,g 18])/\j<b/\dY t S N x/\shiftDown bN.lt j x=shiftDown bN.lt (m- 1) e4/\Fx (· =S) h t/\k=j) (m- 1)
     ⟨m- 1,e4,aB rfl,om,A4,rfl,K,rfl⟩ ?_
    rintro k c h5 ⟨j,x,⟨g,rfl⟩,hj,w,Q,F5,hk⟩;subst hk;have b8:=w.size
    by_cases Z:(1:Int)<=(k:Int)
    ·have n:=cI Z
     obtain⟨q,rfl⟩: ∃q,k=q+1:=⟨k- 1,om⟩
     have a8:((q+1:Nat):Int)- 1=(q:Int):=om
     have o:=w.rd (i:=q+1) om;have p:=w.rd (i:=q) om;simp(disch:=omega)only[go_sem,n,a8,o,p];refine (jQ w (i:=q+1) (j:=q) om om _ om).mono ?_;rintro _ h6 ⟨z,rfl,u,b3⟩;have f6:Fr h5 h6:=Fr.trans ((Fr.refl h5).bH om) b3;have r:=w.fr f6;have F6:=gZ F5 (Fx.of f6)
     cases hl:bN.lt x[q+1]! x[q]! with
     |false=>
      rw[VK hl] at Q;simp(disch:=omega)only[go_sem,u,hl];exact .inl ⟨x,aB rfl,r,by rw[bJ om,←Q],F6⟩
     |true=>
      rw[RF hl] at Q;have o:=r.rd (i:=q+1) om;have p:=r.rd (i:=q) om;simp(disch:=omega)only[go_sem,u,hl,a8,o,p,r.get,cJ,bW];have W:=r.swap (i:=q+1) (j:=q) (nx:=h6.next+18) om rfl;exact⟨q,om,q,_,aB rfl,om,W.1,Q,gZ F6 W.2,rfl⟩
    ·have n:=bI Z
     obtain rfl:k=0:=om
     simp(disch:=omega)only[go_sem,n];have Q:x=shiftDown bN.lt (m- 1) e4:=Q;exact .inl ⟨x,aB rfl,w,by rw[bJ om,←Q],F5⟩
   ·simp(disch:=omega)only[go_sem]
    exact .inl ⟨e4,aB rfl,A4,by rw[bU om],K⟩
  ·rintro c h5 ⟨U,⟨g,rfl⟩,w,a5,F5⟩
   rw[←a5] at l;clear A4 K a5 a1;simp(disch:=omega)only[go_sem];have R:(5:Int)-((s+1:Nat):Int)+1=5-(s:Int):=om
   refine bA (λy=>?_) (λy=>?_)
   ·rw[bJ om] at l
    simp(disch:=omega)only[go_sem,a6];refine aI (λk c t=> ∃(j:Nat) (x:Array α),(∃g:Nat->V,c= [.sl S 0 N Y,aC a,aC b,.fn (bN.f α) [] [],g 4,aC m,aC (5-((s+1:Nat):Int)),g 7,aC j,g 9,g 10,g 11,g 12,g 13,g 14,g 15,g 16,g 17,g 18])/\0<j/\j<=b/\dY t S N x/\shiftUp bN.lt b j x=shiftUp bN.lt b (m+1) U/\Fx (· =S) h t/\k=b-j) (b-(m+1))
     ⟨m+1,U,aB rfl,om,om,w,rfl,F5,rfl⟩ ?_
    rintro k c h6 ⟨j,x,⟨g,rfl⟩,b6,hj,r,hU,F6,rfl⟩;have b4:=r.size
    by_cases Z:(j:Int)<(b:Int)
    ·have n:=cI Z
     have a0:(j:Int)- 1=((j- 1:Nat):Int):=om
     have b1:(j:Int)+1=((j+1:Nat):Int):=om
     have o:=r.rd (i:=j) om;have p:=r.rd (i:=j- 1) om;simp(disch:=omega)only[go_sem,n,a0,o,p];refine (jQ r (i:=j) (j:=j- 1) om om _ om).mono ?_;rintro _ h7 ⟨z,rfl,u,a9⟩;have f7:Fr h6 h7:=Fr.trans ((Fr.refl h6).bH om) a9;have A7:=r.fr f7;have F7:=gZ F6 (Fx.of f7)
     cases hl:bN.lt x[j]! x[j- 1]! with
     |false=>
      rw[RY om hl] at hU;rw[←hU] at l;simp(disch:=omega)only[go_sem,u,hl,R];exact⟨s,om,s,m,x,aB rfl,om,om,om,A7,l,F7,rfl⟩
     |true=>
      rw[PC om hl] at hU;have o:=A7.rd (i:=j) om;have p:=A7.rd (i:=j- 1) om;simp(disch:=omega)only[go_sem,u,hl,a0,b1,o,p,A7.get,cJ,bW];have W:=A7.swap (i:=j) (j:=j- 1) (nx:=h7.next+18) om rfl;exact⟨b-(j+1),om,j+1,_,aB rfl,om,om,W.1,hU,gZ F7 W.2,rfl⟩
    ·have n:=bI Z
     rw[shiftUp,bU om] at hU;rw[←hU] at l;simp(disch:=omega)only[go_sem,n,R];exact⟨s,om,s,m,x,aB rfl,om,om,om,r,l,F6,rfl⟩
   ·rw[bU om] at l
    simp(disch:=omega)only[go_sem,R];exact⟨s,om,s,m,U,aB rfl,om,om,om,w,l,F5,rfl⟩
end
section
variable {j i:Nat}
theorem Ie {α:Type}[Inhabited α]{p:α->Bool}{d:Array α}(a:i<=j)(h2:p d[i]! =true):scanUp p d j i=scanUp p d j (i+1):=by rw[scanUp,bJ (by simp [a,h2])]
theorem rN {α:Type}[Inhabited α]{p:α->Bool}{d:Array α}(h: ¬(i<=j/\p d[i]! =true)):scanUp p d j i=i:=by rw[scanUp,bU (by simpa using h)]
theorem On {α:Type}[Inhabited α]{p:α->Bool}{d:Array α}(a:i<=j+1)(h2:p d[j+1]! =true):scanDown p d i (j+1)=scanDown p d i j:=by rw[scanDown,bJ (by simp [a,h2])]
theorem yC {α:Type}[Inhabited α]{p:α->Bool}{d:Array α}(h: ¬(i<=j/\p d[j]! =true)):scanDown p d i j=j:=by
 cases j with
 |zero=>rfl
 |succ j=>rw[scanDown,bU (by simpa using h)]
theorem qX {α:Type}[Inhabited α](p:α->Bool)(d:Array α)(j i:Nat):scanUp p d j i<=max i (j+1):=by
 obtain⟨n,a⟩:=exI (j+1-i)
 induction n generalizing i with
 |zero=>rw[rN (λh=>by have:=h.1;omega)];omega
 |succ n ih=>
  by_cases h:i<=j/\p d[i]! =true
  ·rw[Ie h.1 h.2]
   have:=ih (i+1) om;omega
  ·rw[rN h];omega
theorem zI {α:Type}[Inhabited α][O:bN α](h:H)(S N a b pv:Nat)(d:Array α)(cp:pY)(hN:N<1000000)(A:dY h S N d)(hb:b<=N)(c3:a<=pv)(b8:pv<b):
  Ev T (bN.ρ α 254) [.sl S 0 N cp,aC a,aC b,aC pv,.fn (bN.f α) [] []] h (λv h'=>v= .tup [aC ((partition bN.lt d a b pv).1:Nat),.bool (partition bN.lt d a b pv).2.1]/\dY h' S N (partition bN.lt d a b pv).2.2/\Fx (· =S) h h'):=by
 refine mX (wH (α:=α) eH.ok (by decide)) rfl ?_
 have sz:=A.size
 have K:=A.rd (i:=a) om
 have Q:=A.rd (i:=pv) om
 simp(disch:=omega)only[go_sem,eH,aE,K,Q,A.get,cJ,bW]
 have W:=A.swap (i:=a) (j:=pv) (nx:=h.next+16) om rfl
 obtain⟨h1,b1⟩: ∃h1,h1=((H.mk h.tr (h.next+16)).set S (bB (flat (d.setIfInBounds a d[pv]!).toList))).set S (bB (flat ((d.setIfInBounds a d[pv]!).setIfInBounds pv d[a]!).toList)):=⟨_,rfl⟩
 rw[←b1] at W ⊢
 obtain⟨A1,F1⟩:=W
 obtain⟨e,he⟩:=exI (swp d a pv)
 rw[he] at A1
 clear b1 K Q A
 have eb:(b:Int)- 1=((b- 1:Nat):Int):=om
 have ea:(a:Int)+1=((a+1:Nat):Int):=om
 have hP:partition bN.lt d a b pv=if scanUp (λx=>bN.lt x e[a]!) e (b- 1) (a+1)>scanDown (λx=>!bN.lt x e[a]!) e (scanUp (λx=>bN.lt x e[a]!) e (b- 1) (a+1)) (b- 1) then
   (scanDown (λx=>!bN.lt x e[a]!) e (scanUp (λx=>bN.lt x e[a]!) e (b- 1) (a+1)) (b- 1),true,swp e (scanDown (λx=>!bN.lt x e[a]!) e (scanUp (λx=>bN.lt x e[a]!) e (b- 1) (a+1)) (b- 1)) a) else
   ((partLoop bN.lt a (scanUp (λx=>bN.lt x e[a]!) e (b- 1) (a+1)+1) (scanDown (λx=>!bN.lt x e[a]!) e (scanUp (λx=>bN.lt x e[a]!) e (b- 1) (a+1)) (b- 1)- 1) (swp e (scanUp (λx=>bN.lt x e[a]!) e (b- 1) (a+1)) (scanDown (λx=>!bN.lt x e[a]!) e (scanUp (λx=>bN.lt x e[a]!) e (b- 1) (a+1)) (b- 1)))).1,false,
    swp (partLoop bN.lt a (scanUp (λx=>bN.lt x e[a]!) e (b- 1) (a+1)+1) (scanDown (λx=>!bN.lt x e[a]!) e (scanUp (λx=>bN.lt x e[a]!) e (b- 1) (a+1)) (b- 1)- 1) (swp e (scanUp (λx=>bN.lt x e[a]!) e (b- 1) (a+1)) (scanDown (λx=>!bN.lt x e[a]!) e (scanUp (λx=>bN.lt x e[a]!) e (b- 1) (a+1)) (b- 1)))).2 (partLoop bN.lt a (scanUp (λx=>bN.lt x e[a]!) e (b- 1) (a+1)+1) (scanDown (λx=>!bN.lt x e[a]!) e (scanUp (λx=>bN.lt x e[a]!) e (b- 1) (a+1)) (b- 1)- 1) (swp e (scanUp (λx=>bN.lt x e[a]!) e (b- 1) (a+1)) (scanDown (λx=>!bN.lt x e[a]!) e (scanUp (λx=>bN.lt x e[a]!) e (b- 1) (a+1)) (b- 1)))).1 a):=by
  rw[←he];rfl
 obtain⟨R,a8⟩:=exI (partition bN.lt d a b pv)
 rw[a8] at hP
 rw[a8]
 simp(disch:=omega)only[go_sem,ea,eb]
 refine bQ (λP c=>(∃g:Nat->V,P= [.sl S 0 N cp,aC a,aC b,aC pv,.fn (bN.f α) [] [],g 5,g 6,aC (scanUp (λx=>bN.lt x e[a]!) e (b- 1) (a+1):Nat),aC ((b- 1):Nat),g 9,g 10,g 11,g 12,g 13,g 14])/\dY c S N e/\Fx (· =S) h c) ?_ ?_
 ·refine aI (λJ P c=> ∃(k:Nat),(∃g:Nat->V,P= [.sl S 0 N cp,aC a,aC b,aC pv,.fn (bN.f α) [] [],g 5,g 6,aC (k:Nat),aC ((b- 1):Nat),g 9,g 10,g 11,g 12,g 13,g 14])/\(a+1)<=k/\k<=N+2/\dY c S N e/\scanUp (λx=>bN.lt x e[a]!) e (b- 1) k=scanUp (λx=>bN.lt x e[a]!) e (b- 1) (a+1)/\Fx (· =S) h c/\J=(b- 1)+1-k) ((b- 1)+1-(a+1))
   ⟨(a+1),aB rfl,om,om,A1,rfl,F1,rfl⟩ ?_
  rintro J n L ⟨k,⟨g,rfl⟩,a7,b6,o,p,Fs,rfl⟩
  by_cases l:(k:Int)<=(((b- 1):Nat):Int)
  ·have s:decide ((k:Int)<=(((b- 1):Nat):Int))=true:=cI l
   have eK:(k:Int)+1=((k+1:Nat):Int):=om
   have a6:=o.size
   have K:=o.rd (i:=k) om
   have Q:=o.rd (i:=a) om
   simp(disch:=omega)only[go_sem,s,K,Q]
   refine (jQ o (i:=k) (j:=a) om om _ om).mono ?_
   rintro _ U ⟨z,rfl,hz,B⟩
   have t:Fr L U:=Fr.trans ((Fr.refl L).bH om) B
   have F:=o.fr t
   have y:=gZ Fs (Fx.of t)
   cases hl:bN.lt e[k]! e[a]! with
   |false=>
    rw[rN (λc=>by have:=c.2;simp [hl] at this)] at p;simp(disch:=omega)only[go_sem,hz,hl];exact⟨by rw[←p];exact aB rfl,F,y⟩
   |true=>
    rw[Ie om (by simp [hl])] at p;simp(disch:=omega)only[go_sem,hz,hl,eK];exact⟨(b- 1)+1-(k+1),om,k+1,aB rfl,om,om,F,p,y,rfl⟩
  ·have s:decide ((k:Int)<=(((b- 1):Nat):Int))=false:=bI l
   rw[rN (λc=>l (by have:=c.1;omega))] at p
   simp(disch:=omega)only[go_sem,s]
   exact⟨by rw[←p];exact aB rfl,o.fr ((Fr.refl L).bH om),gZ Fs (Fx.of ((Fr.refl L).bH om))⟩
 ·rintro n h9 ⟨⟨g,rfl⟩,A9,F9⟩
  have a2:=scanUp_ge (λx=>bN.lt x e[a]!) e (b- 1) (a+1)
  have a5:=qX (λx=>bN.lt x e[a]!) e (b- 1) (a+1)
  obtain⟨q,a0⟩: ∃x,scanUp (λx=>bN.lt x e[a]!) e (b- 1) (a+1)=x:=⟨_,rfl⟩
  rw[a0] at a2 a5
  rw[a0]
  simp(disch:=omega)only[go_sem]
  refine bQ (λP c=>(∃g:Nat->V,P= [.sl S 0 N cp,aC a,aC b,aC pv,.fn (bN.f α) [] [],g 5,g 6,aC (q:Nat),aC (scanDown (λx=>!bN.lt x e[a]!) e q (b- 1):Nat),g 9,g 10,g 11,g 12,g 13,g 14])/\dY c S N e/\Fx (· =S) h c) ?_ ?_
  ·refine aI (λJ P c=> ∃(k:Nat),(∃g:Nat->V,P= [.sl S 0 N cp,aC a,aC b,aC pv,.fn (bN.f α) [] [],g 5,g 6,aC (q:Nat),aC (k:Nat),g 9,g 10,g 11,g 12,g 13,g 14])/\k<=(b- 1)/\dY c S N e/\scanDown (λx=>!bN.lt x e[a]!) e q k=scanDown (λx=>!bN.lt x e[a]!) e q (b- 1)/\Fx (· =S) h c/\J=k) (b- 1)
    ⟨(b- 1),aB rfl,om,A9,rfl,F9,rfl⟩ ?_
   rintro J n L ⟨k,⟨g,rfl⟩,a7,o,p,Fs,a1⟩
   subst a1
   by_cases l:((q:Nat):Int)<=(J:Int)
   ·have s:=cI l
    obtain⟨k,rfl⟩: ∃k,J=k+1:=⟨J- 1,om⟩
    have eK:((k+1:Nat):Int)- 1=(k:Int):=om
    have a6:=o.size
    have K:=o.rd (i:=k+1) om
    have Q:=o.rd (i:=a) om
    simp(disch:=omega)only[go_sem,s,K,Q]
    refine (jQ o (i:=k+1) (j:=a) om om _ om).mono ?_
    rintro _ U ⟨z,rfl,hz,B⟩
    have t:Fr L U:=Fr.trans ((Fr.refl L).bH om) B
    have F:=o.fr t
    have y:=gZ Fs (Fx.of t)
    cases hl:bN.lt e[k+1]! e[a]! with
    |true=>
     rw[yC (λc=>by have:=c.2;simp [hl] at this)] at p;simp(disch:=omega)only[go_sem,hz,hl];exact⟨by rw[←p];exact aB rfl,F,y⟩
    |false=>
     rw[On om (by simp [hl])] at p;simp(disch:=omega)only[go_sem,hz,hl,eK];exact⟨k,om,k,aB rfl,om,F,p,y,rfl⟩
   ·have s:=bI l
    rw[yC (λc=>l (by have:=c.1;omega))] at p
    simp(disch:=omega)only[go_sem,s]
    exact⟨by rw[←p];exact aB rfl,o.fr ((Fr.refl L).bH om),gZ Fs (Fx.of ((Fr.refl L).bH om))⟩
  ·rintro n h2 ⟨⟨g,rfl⟩,A2,F2⟩
   have a3:=scanDown_le (λx=>!bN.lt x e[a]!) e q (b- 1)
   obtain⟨G,a4⟩: ∃x,scanDown (λx=>!bN.lt x e[a]!) e q (b- 1)=x:=⟨_,rfl⟩
   rw[a4] at a3
   rw[a4]
   rw[a0,a4] at hP
   have b5:=A2.size
   by_cases Y:(G:Int)<(q:Int)
   ·have s:=cI Y
    rw[bJ om] at hP
    have K:=A2.rd (i:=G) om
    have Q:=A2.rd (i:=a) om
    simp(disch:=omega)only[go_sem,s,K,Q,A2.get,cJ,bW]
    have W:=A2.swap (i:=G) (j:=a) (nx:=h2.next+16) om rfl
    rw[hP]
    exact⟨rfl,W.1,gZ F2 W.2⟩
   have s:=bI Y
   rw[bU om] at hP
   have K:=A2.rd (i:=q) om
   have Q:=A2.rd (i:=G) om
   simp(disch:=omega)only[go_sem,s,K,Q,A2.get,cJ,bW]
   have W:=A2.swap (i:=q) (j:=G) (nx:=h2.next+16) om rfl
   obtain⟨h3,b3⟩: ∃h3,h3=((H.mk h2.tr (h2.next+16)).set S (bB (flat (e.setIfInBounds q e[G]!).toList))).set S (bB (flat ((e.setIfInBounds q e[G]!).setIfInBounds G e[q]!).toList)):=⟨_,rfl⟩
   rw[←b3] at W ⊢
   obtain⟨A3,b0⟩:=W
   have F3:=gZ F2 b0
   have b2:q<=G:=om
   obtain⟨e0,a9⟩:=exI (swp e q G)
   rw[a9] at A3 hP
   clear b3 K Q A2 A9 F9 A1 F1 he Y s
   have ei:(q:Int)+1=((q+1:Nat):Int):=om
   have ej:(G:Int)- 1=((G- 1:Nat):Int):=om
   simp(disch:=omega)only[go_sem,ei,ej]
   refine bQ (λP c=>(∃g:Nat->V,P= [.sl S 0 N cp,aC a,aC b,aC pv,.fn (bN.f α) [] [],g 5,g 6,g 7,aC (((partLoop bN.lt a (q+1) (G- 1) e0).1:Nat):Int),g 9,g 10,g 11,g 12,g 13,g 14])/\dY c S N (partLoop bN.lt a (q+1) (G- 1) e0).2/\(partLoop bN.lt a (q+1) (G- 1) e0).1<b/\Fx (· =S) h c) ?_ ?_
   ·refine aI (λJ P c=> ∃(i j:Nat) (e:Array α),(∃g:Nat->V,P= [.sl S 0 N cp,aC a,aC b,aC pv,.fn (bN.f α) [] [],g 5,g 6,aC i,aC j,g 9,g 10,g 11,g 12,g 13,g 14])/\a<i/\i<=b+1/\j<b/\dY c S N e/\partLoop bN.lt a i j e=partLoop bN.lt a (q+1) (G- 1) e0/\Fx (· =S) h c/\J=j) (G- 1)
     ⟨q+1,G- 1,e0,aB rfl,om,om,om,A3,rfl,F3,rfl⟩ ?_
    obtain⟨R2,b4⟩:=exI (partLoop bN.lt a (q+1) (G- 1) e0)
    rw[b4]
    clear hP b4 a0 a4 a9 ei ej a3 a2 a5 F3 b0 A3 b5 h3 b2
    clear q G
    rintro J n h3 ⟨i,j,e,⟨g,rfl⟩,b9,a0,hj,A3,hL,F3,a1⟩
    rw[partLoop_eq] at hL
    simp(disch:=omega)only[go_sem]
    refine bQ (λP c=>(∃g:Nat->V,P= [.sl S 0 N cp,aC a,aC b,aC pv,.fn (bN.f α) [] [],g 5,g 6,aC (scanUp (λx=>bN.lt x e[a]!) e j i:Nat),aC (j:Nat),g 9,g 10,g 11,g 12,g 13,g 14])/\dY c S N e/\Fx (· =S) h c) ?_ ?_
    ·refine aI (λJ P c=> ∃(k:Nat),(∃g:Nat->V,P= [.sl S 0 N cp,aC a,aC b,aC pv,.fn (bN.f α) [] [],g 5,g 6,aC (k:Nat),aC (j:Nat),g 9,g 10,g 11,g 12,g 13,g 14])/\i<=k/\k<=N+2/\dY c S N e/\scanUp (λx=>bN.lt x e[a]!) e j k=scanUp (λx=>bN.lt x e[a]!) e j i/\Fx (· =S) h c/\J=j+1-k) (j+1-i)
      ⟨i,aB rfl,om,om,A3,rfl,F3,rfl⟩ ?_
     rintro J n L ⟨k,⟨g,rfl⟩,a7,b6,o,p,Fs,rfl⟩
     by_cases l:(k:Int)<=((j:Nat):Int)
     ·have s:=cI l
      have eK:(k:Int)+1=((k+1:Nat):Int):=om
      have a6:=o.size
      have K:=o.rd (i:=k) om
      have Q:=o.rd (i:=a) om
      simp(disch:=omega)only[go_sem,s,K,Q]
      refine (jQ o (i:=k) (j:=a) om om _ om).mono ?_
      rintro _ U ⟨z,rfl,hz,B⟩
      have t:Fr L U:=Fr.trans ((Fr.refl L).bH om) B
      have F:=o.fr t
      have y:=gZ Fs (Fx.of t)
      cases hl:bN.lt e[k]! e[a]! with
      |false=>
       rw[rN (λc=>by have:=c.2;simp [hl] at this)] at p;simp(disch:=omega)only[go_sem,hz,hl];exact⟨by rw[←p];exact aB rfl,F,y⟩
      |true=>
       rw[Ie om (by simp [hl])] at p;simp(disch:=omega)only[go_sem,hz,hl,eK];exact⟨j+1-(k+1),om,k+1,aB rfl,om,om,F,p,y,rfl⟩
     ·have s:=bI l
      rw[rN (λc=>l (by have:=c.1;omega))] at p
      simp(disch:=omega)only[go_sem,s]
      exact⟨by rw[←p];exact aB rfl,o.fr ((Fr.refl L).bH om),gZ Fs (Fx.of ((Fr.refl L).bH om))⟩
    ·rintro n h9 ⟨⟨g,rfl⟩,A9,F9⟩
     have a2:=scanUp_ge (λx=>bN.lt x e[a]!) e j i
     have a5:=qX (λx=>bN.lt x e[a]!) e j i
     obtain⟨u,hu⟩: ∃x,scanUp (λx=>bN.lt x e[a]!) e j i=x:=⟨_,rfl⟩
     rw[hu] at a2 a5
     rw[hu]
     simp(disch:=omega)only[go_sem]
     refine bQ (λP c=>(∃g:Nat->V,P= [.sl S 0 N cp,aC a,aC b,aC pv,.fn (bN.f α) [] [],g 5,g 6,aC (u:Nat),aC (scanDown (λx=>!bN.lt x e[a]!) e u j:Nat),g 9,g 10,g 11,g 12,g 13,g 14])/\dY c S N e/\Fx (· =S) h c) ?_ ?_
     ·refine aI (λJ P c=> ∃(k:Nat),(∃g:Nat->V,P= [.sl S 0 N cp,aC a,aC b,aC pv,.fn (bN.f α) [] [],g 5,g 6,aC (u:Nat),aC (k:Nat),g 9,g 10,g 11,g 12,g 13,g 14])/\k<=j/\dY c S N e/\scanDown (λx=>!bN.lt x e[a]!) e u k=scanDown (λx=>!bN.lt x e[a]!) e u j/\Fx (· =S) h c/\J=k) j
       ⟨j,aB rfl,om,A9,rfl,F9,rfl⟩ ?_
      rintro J n L ⟨k,⟨g,rfl⟩,a7,o,p,Fs,a1⟩
      subst a1
      by_cases l:((u:Nat):Int)<=(J:Int)
      ·have s:=cI l
       obtain⟨k,rfl⟩: ∃k,J=k+1:=⟨J- 1,om⟩
       have eK:((k+1:Nat):Int)- 1=(k:Int):=om
       have a6:=o.size
       have K:=o.rd (i:=k+1) om
       have Q:=o.rd (i:=a) om
       simp(disch:=omega)only[go_sem,s,K,Q]
       refine (jQ o (i:=k+1) (j:=a) om om _ om).mono ?_
       rintro _ U ⟨z,rfl,hz,B⟩
       have t:Fr L U:=Fr.trans ((Fr.refl L).bH om) B
       have F:=o.fr t
       have y:=gZ Fs (Fx.of t)
       cases hl:bN.lt e[k+1]! e[a]! with
       |true=>
        rw[yC (λc=>by have:=c.2;simp [hl] at this)] at p;simp(disch:=omega)only[go_sem,hz,hl];exact⟨by rw[←p];exact aB rfl,F,y⟩
       |false=>
        rw[On om (by simp [hl])] at p;simp(disch:=omega)only[go_sem,hz,hl,eK];exact⟨k,om,k,aB rfl,om,F,p,y,rfl⟩
      ·have s:=bI l
       rw[yC (λc=>l (by have:=c.1;omega))] at p
       simp(disch:=omega)only[go_sem,s]
       exact⟨by rw[←p];exact aB rfl,o.fr ((Fr.refl L).bH om),gZ Fs (Fx.of ((Fr.refl L).bH om))⟩
     ·rintro n h4 ⟨⟨g,rfl⟩,A4,F4⟩
      have a3:=scanDown_le (λx=>!bN.lt x e[a]!) e u j
      obtain⟨w,hw⟩: ∃x,scanDown (λx=>!bN.lt x e[a]!) e u j=x:=⟨_,rfl⟩
      rw[hw] at a3
      rw[hw]
      rw[hu,hw] at hL
      have b7:=A4.size
      by_cases Y:(w:Int)<(u:Int)
      ·have s:=cI Y
       rw[bJ om] at hL
       simp(disch:=omega)only[go_sem,s]
       rw[←hL]
       exact⟨aB rfl,A4,om,F4⟩
      have s:=bI Y
      rw[bU om] at hL
      have K:=A4.rd (i:=u) om
      have Q:=A4.rd (i:=w) om
      have ei:(u:Int)+1=((u+1:Nat):Int):=om
      have ej:(w:Int)- 1=((w- 1:Nat):Int):=om
      simp(disch:=omega)only[go_sem,s,K,Q,A4.get,cJ,bW,ei,ej]
      have W:=A4.swap (i:=u) (j:=w) (nx:=h4.next+16) om rfl
      exact⟨w- 1,om,u+1,w- 1,_,aB rfl,om,om,om,W.1,hL,gZ F4 W.2,rfl⟩
   ·rintro n h5 ⟨⟨g,rfl⟩,A5,Z,F5⟩
    generalize partLoop bN.lt a (q+1) (G- 1) e0=r at hP A5 Z
    obtain⟨m,e5⟩:=r
    have Z:m<b:=Z
    have A5:dY h5 S N e5:=A5
    have c0:=A5.size
    have K:=A5.rd (i:=m) om
    have Q:=A5.rd (i:=a) om
    simp(disch:=omega)only[go_sem,K,Q,A5.get,cJ,bW]
    have W:=A5.swap (i:=m) (j:=a) (nx:=h5.next+16) om rfl
    rw[hP]
    exact⟨rfl,W.1,gZ F5 W.2⟩
theorem Kt {α:Type}[Inhabited α][O:bN α](h:H)(S N a b pv:Nat)(d:Array α)(K:pY)(hN:N<1000000)(A:dY h S N d)(hb:b<=N)(b2:a<=pv)(b0:pv<b):
  Ev T (bN.ρ α 253) [.sl S 0 N K,aC a,aC b,aC pv,.fn (bN.f α) [] []] h (λv h'=>v= aC ((partitionEqual bN.lt d a b pv).1:Nat)/\dY h' S N (partitionEqual bN.lt d a b pv).2/\Fx (· =S) h h'):=by
 refine mX (wH (α:=α) dS.ok (by decide)) rfl ?_
 have sz:=A.size
 have G:=A.rd (i:=a) om
 have J:=A.rd (i:=pv) om
 simp(disch:=omega)only[go_sem,dS,aE,G,J,A.get,cJ,bW]
 have W:=A.swap (i:=a) (j:=pv) (nx:=h.next+16) om rfl
 obtain⟨h1,a0⟩: ∃h1,h1=((H.mk h.tr (h.next+16)).set S (bB (flat (d.setIfInBounds a d[pv]!).toList))).set S (bB (flat ((d.setIfInBounds a d[pv]!).setIfInBounds pv d[a]!).toList)):=⟨_,rfl⟩
 rw[←a0] at W ⊢
 obtain⟨A1,F1⟩:=W
 have eb:(b:Int)- 1=((b- 1:Nat):Int):=om
 have ea:(a:Int)+1=((a+1:Nat):Int):=om
 unfold partitionEqual
 obtain⟨P,he⟩: ∃e,swp d a pv=e:=⟨_,rfl⟩
 rw[he] at A1 ⊢
 clear a0 G J A
 simp(disch:=omega)only[go_sem,ea,eb]
 refine bQ (λr c=>(∃g:Nat->V,r= [.sl S 0 N K,aC a,aC b,aC pv,.fn (bN.f α) [] [],g 5,aC (((partEqLoop bN.lt a (a+1) (b- 1) P).1:Nat):Int),g 7,g 8,g 9,g 10])/\dY c S N (partEqLoop bN.lt a (a+1) (b- 1) P).2/\Fx (· =S) h c) ?_ ?_
 ·refine aI (λs r c=> ∃(i j:Nat) (e:Array α),(∃g:Nat->V,r= [.sl S 0 N K,aC a,aC b,aC pv,.fn (bN.f α) [] [],g 5,aC i,aC j,g 8,g 9,g 10])/\a<i/\i<=b+1/\j<b/\dY c S N e/\partEqLoop bN.lt a i j e=partEqLoop bN.lt a (a+1) (b- 1) P/\Fx (· =S) h c/\s=j) (b- 1)
   ⟨a+1,b- 1,P,aB rfl,om,om,om,A1,rfl,F1,rfl⟩ ?_
  obtain⟨R2,a1⟩:=exI (partEqLoop bN.lt a (a+1) (b- 1) P)
  rw[a1]
  clear a1 F1 A1 h1 he P
  rintro s l h3 ⟨i,j,e,⟨g,rfl⟩,b1,a8,hj,A3,Q,F3,R⟩
  rw[partEqLoop_eq] at Q
  simp(disch:=omega)only[go_sem]
  refine bQ (λr c=>(∃g:Nat->V,r= [.sl S 0 N K,aC a,aC b,aC pv,.fn (bN.f α) [] [],g 5,aC (scanUp (λx=>!bN.lt e[a]! x) e j i:Nat),aC (j:Nat),g 8,g 9,g 10])/\dY c S N e/\Fx (· =S) h c) ?_ ?_
  ·refine aI (λs r c=> ∃(k:Nat),(∃g:Nat->V,r= [.sl S 0 N K,aC a,aC b,aC pv,.fn (bN.f α) [] [],g 5,aC (k:Nat),aC (j:Nat),g 8,g 9,g 10])/\i<=k/\k<=N+2/\dY c S N e/\scanUp (λx=>!bN.lt e[a]! x) e j k=scanUp (λx=>!bN.lt e[a]! x) e j i/\Fx (· =S) h c/\s=j+1-k) (j+1-i)
    ⟨i,aB rfl,om,om,A3,rfl,F3,rfl⟩ ?_
   rintro s l F ⟨k,⟨g,rfl⟩,a5,a9,n,o,Z,rfl⟩
   by_cases m:(k:Int)<=((j:Nat):Int)
   ·have B:=cI m
    have eK:(k:Int)+1=((k+1:Nat):Int):=om
    have a4:=n.size
    have G:=n.rd (i:=k) om
    have J:=n.rd (i:=a) om
    simp(disch:=omega)only[go_sem,B,G,J]
    refine (jQ n (i:=a) (j:=k) om om _ om).mono ?_
    rintro _ L ⟨z,rfl,Y,t⟩
    have p:Fr F L:=Fr.trans ((Fr.refl F).bH om) t
    have y:=n.fr p
    have q:=gZ Z (Fx.of p)
    cases hl:bN.lt e[a]! e[k]! with
    |true=>
     rw[rN (λc=>by have:=c.2;simp [hl] at this)] at o;simp(disch:=omega)only[go_sem,Y,hl];exact⟨by rw[←o];exact aB rfl,y,q⟩
    |false=>
     rw[Ie om (by simp [hl])] at o;simp(disch:=omega)only[go_sem,Y,hl,eK];exact⟨j+1-(k+1),om,k+1,aB rfl,om,om,y,o,q,rfl⟩
   ·have B:=bI m
    rw[rN (λc=>m (by have:=c.1;omega))] at o
    simp(disch:=omega)only[go_sem,B]
    exact⟨by rw[←o];exact aB rfl,n.fr ((Fr.refl F).bH om),gZ Z (Fx.of ((Fr.refl F).bH om))⟩
  ·rintro l h9 ⟨⟨g,rfl⟩,A9,F9⟩
   have a2:=scanUp_ge (λx=>!bN.lt e[a]! x) e j i
   have a6:=qX (λx=>!bN.lt e[a]! x) e j i
   obtain⟨u,hu⟩: ∃x,scanUp (λx=>!bN.lt e[a]! x) e j i=x:=⟨_,rfl⟩
   rw[hu] at a2 a6
   rw[hu]
   simp(disch:=omega)only[go_sem]
   refine bQ (λr c=>(∃g:Nat->V,r= [.sl S 0 N K,aC a,aC b,aC pv,.fn (bN.f α) [] [],g 5,aC (u:Nat),aC (scanDown (λx=>bN.lt e[a]! x) e u j:Nat),g 8,g 9,g 10])/\dY c S N e/\Fx (· =S) h c) ?_ ?_
   ·refine aI (λs r c=> ∃(k:Nat),(∃g:Nat->V,r= [.sl S 0 N K,aC a,aC b,aC pv,.fn (bN.f α) [] [],g 5,aC (u:Nat),aC (k:Nat),g 8,g 9,g 10])/\k<=j/\dY c S N e/\scanDown (λx=>bN.lt e[a]! x) e u k=scanDown (λx=>bN.lt e[a]! x) e u j/\Fx (· =S) h c/\s=k) j
     ⟨j,aB rfl,om,A9,rfl,F9,rfl⟩ ?_
    rintro s l F ⟨k,⟨g,rfl⟩,a5,n,o,Z,R⟩
    subst R
    by_cases m:((u:Nat):Int)<=(s:Int)
    ·have B:=cI m
     obtain⟨k,rfl⟩: ∃k,s=k+1:=⟨s- 1,om⟩
     have eK:((k+1:Nat):Int)- 1=(k:Int):=om
     have a4:=n.size
     have G:=n.rd (i:=k+1) om
     have J:=n.rd (i:=a) om
     simp(disch:=omega)only[go_sem,B,G,J]
     refine (jQ n (i:=a) (j:=k+1) om om _ om).mono ?_
     rintro _ L ⟨z,rfl,Y,t⟩
     have p:Fr F L:=Fr.trans ((Fr.refl F).bH om) t
     have y:=n.fr p
     have q:=gZ Z (Fx.of p)
     cases hl:bN.lt e[a]! e[k+1]! with
     |false=>
      rw[yC (λc=>by have:=c.2;simp [hl] at this)] at o;simp(disch:=omega)only[go_sem,Y,hl];exact⟨by rw[←o];exact aB rfl,y,q⟩
     |true=>
      rw[On om (by simp [hl])] at o;simp(disch:=omega)only[go_sem,Y,hl,eK];exact⟨k,om,k,aB rfl,om,y,o,q,rfl⟩
    ·have B:=bI m
     rw[yC (λc=>m (by have:=c.1;omega))] at o
     simp(disch:=omega)only[go_sem,B]
     exact⟨by rw[←o];exact aB rfl,n.fr ((Fr.refl F).bH om),gZ Z (Fx.of ((Fr.refl F).bH om))⟩
   ·rintro l h4 ⟨⟨g,rfl⟩,A4,F4⟩
    have a3:=scanDown_le (λx=>bN.lt e[a]! x) e u j
    obtain⟨w,hw⟩: ∃x,scanDown (λx=>bN.lt e[a]! x) e u j=x:=⟨_,rfl⟩
    rw[hw] at a3
    rw[hw]
    rw[hu,hw] at Q
    have a7:=A4.size
    by_cases U:(w:Int)<(u:Int)
    ·have B:=cI U
     rw[bJ om] at Q
     simp(disch:=omega)only[go_sem,B]
     rw[←Q]
     exact⟨aB rfl,A4,F4⟩
    have B:=bI U
    rw[bU om] at Q
    have G:=A4.rd (i:=u) om
    have J:=A4.rd (i:=w) om
    have ei:(u:Int)+1=((u+1:Nat):Int):=om
    have ej:(w:Int)- 1=((w- 1:Nat):Int):=om
    simp(disch:=omega)only[go_sem,B,G,J,A4.get,cJ,bW,ei,ej]
    have W:=A4.swap (i:=u) (j:=w) (nx:=h4.next+16) om rfl
    exact⟨w- 1,om,u+1,w- 1,_,aB rfl,om,om,om,W.1,Q,gZ F4 W.2,rfl⟩
 ·rintro l h5 ⟨⟨g,rfl⟩,A5,F5⟩
  simp(disch:=omega)only[go_sem]
  exact⟨A5,F5⟩
end
def ET  {α:Type}[Inhabited α][O:bN α](n:Nat):Prop:= ∀(h:H) (S N a b:Nat) (lim:Int) (d:Array α) (cp:pY),N<60000->dY h S N d->a<=b->b<=N->b-a<=n->0<=lim->lim<1000000->Below bN.lt a b d->
 Ev T (bN.ρ α 227) [.sl S 0 N cp,aC a,aC b,aC lim,.fn (bN.f α) [] []] h (λ_ h'=> ∃e,dY h' S N e/\PermIn a b d e/\SortedIn bN.lt a b e/\Fx (· =S) h h')
theorem EZ  {α:Type}[Inhabited α][O:bN α](n:Nat)(ih: ∀m,m<n->ET (α:=α) m):ET (α:=α) n:=by
 intro h S N a b a9 d s hN A a7 a6 hn w u hB;refine mX (wH (α:=α) eZ.ok (by decide)) rfl ?_;simp(disch:=omega)only[go_sem,eZ,aE]
 refine aI (λk' B Y=> ∃(c l:Nat) (l':Int) (W wp:Bool) (e:Array α),(∃g:Nat->V,B= [.sl S 0 N s,aC (c:Int),aC (l:Int),aC l',.fn (bN.f α) [] [],.bool W,.bool wp,g 7,g 8,g 9,g 10,g 11,g 12,g 13,g 14,g 15,g 16,g 17,g 18,g 19,g 20,g 21,g 22,g 23])/\c<=l/\l<=N/\a<=c/\l<=b/\0<=l'/\l'<1000000/\Below bN.lt c l e/\dY Y S N e/\Fx (· =S) h Y/\
   (∀R,PermIn c l e R->SortedIn bN.lt c l R->PermIn a b d R/\SortedIn bN.lt a b R)/\k'=l-c) (b-a)
  ⟨a,b,a9,true,true,d,aB rfl,a7,a6,fN _,fN _,w,u,hB,A,Fx.refl _ h,λR h1 h2=>⟨h1,h2⟩,rfl⟩ ?_
 clear A hB w u;rintro k' B h1 ⟨c,l,l',W,wp,e,⟨g,rfl⟩,y,o,a8,a4,w,u,hB,A,F,K,rfl⟩;obtain⟨m,hm⟩:=exI (l-c);have em:(l:Int)-(c:Int)=(m:Int):=om
 have ez: ∀{x:Array α} {hx:H},dY hx S N x->l<=x.size:=λA=>by rw[A.size];exact o
 by_cases a2:(m:Int)<=12
 ·have Z:=cI a2
  simp(disch:=omega)only[go_sem,em,Z];refine (yY h1 S N c l e s om A o y).mono ?_;rintro _ h2 ⟨A2,F2⟩;obtain⟨p1,p2⟩:=insertionSort_holds (bN.swo (α:=α)) e c l y (ez A);obtain⟨q1,q2⟩:=K _ p1 p2;simp(disch:=omega)only[go_sem];exact⟨_,A2,q1,q2,gZ F F2⟩
 have Z:=bI a2
 by_cases hl:l'=0
 ·have J:=cI hl
  simp(disch:=omega)only[go_sem,em,Z,J];refine (Bq h1 S N c l e s om A o y).mono ?_;rintro _ h2 ⟨A2,F2⟩;obtain⟨p1,p2⟩:=heapSort_holds (bN.swo (α:=α)) e c l y (ez A);obtain⟨q1,q2⟩:=K _ p1 p2;simp(disch:=omega)only[go_sem];exact⟨_,A2,q1,q2,gZ F F2⟩
 have J:=bI hl;simp(disch:=omega)only[go_sem,em,Z,J];refine mM (λvs Y=> ∃(J:Array α) (G:Int) (g:Nat->V),vs= [.sl S 0 N s,aC (c:Int),aC (l:Int),aC G,.fn (bN.f α) [] [],.bool W,.bool wp,aC m,g 8,g 9,g 10,g 11,g 12,g 13,g 14,g 15,g 16,g 17,g 18,g 19,g 20,g 21,g 22,g 23]/\0<=G/\G<1000000/\dY Y S N J/\PermIn c l e J/\Fx (· =S) h Y) ?_ ?_
 ·cases W with
  |true=>
   simp(disch:=omega)only[go_sem];exact .inl ⟨e,l',_,(aB rfl: ∃g:Nat->V,_= [.sl S 0 N s,aC (c:Int),aC (l:Int),aC l',.fn (bN.f α) [] [],.bool true,.bool wp,aC m,g 8,g 9,g 10,g 11,g 12,g 13,g 14,g 15,g 16,g 17,g 18,g 19,g 20,g 21,g 22,g 23]).choose_spec,w,u,A,permIn_refl e c l,F⟩
  |false=>
   simp(disch:=omega)only[go_sem];refine (Pb h1 S N c l e s hN A o y).mono ?_;rintro _ h2 ⟨J,A2,p2,F2⟩;simp(disch:=omega)only[go_sem];exact .inl ⟨J,l'- 1,_,(aB rfl: ∃g:Nat->V,_= [.sl S 0 N s,aC (c:Int),aC (l:Int),aC (l'- 1),.fn (bN.f α) [] [],.bool false,.bool wp,aC m,g 8,g 9,g 10,g 11,g 12,g 13,g 14,g 15,g 16,g 17,g 18,g 19,g 20,g 21,g 22,g 23]).choose_spec,om,om,A2,p2,gZ F F2⟩
 clear A F w u hl J g;rintro B h2 ⟨J,G,g,rfl,w,u,A,P2,F⟩;have B2:=hB.perm (by rw[←P2.1];exact ez A) P2;simp(disch:=omega)only[go_sem];refine (Nz h2 S N c l J s om A o om).mono ?_;rintro _ h3 ⟨p,t,rfl,Q,U,f3⟩;have A3:=A.fr f3;have F3:=gZ F (Fx.of f3);clear A F;simp(disch:=omega)only[go_sem];refine mM (λvs Y=> ∃(e3:Array α) (p2:Nat) (t2:Int) (g:Nat->V),vs= [.sl S 0 N s,aC (c:Int),aC (l:Int),aC G,.fn (bN.f α) [] [],.bool W,.bool wp,aC m,aC p2,aC t2,g 10,g 11,g 12,g 13,g 14,g 15,g 16,g 17,g 18,g 19,g 20,g 21,g 22,g 23]/\c<=p2/\p2<l/\dY Y S N e3/\PermIn c l J e3/\Fx (· =S) h Y) ?_ ?_
 ·refine bA (λht=>?_) (λht=>?_)
  ·simp(disch:=omega)only[go_sem]
   refine (Ge h3 S N c l J s om A3 o om).mono ?_;rintro _ h4 ⟨A4,F4⟩;have e5:(l:Int)- 1-((p:Int)-(c:Int))=(((l- 1)-(p-c):Nat):Int):=om
   simp(disch:=omega)only[go_sem,e5];exact .inl ⟨_,(l- 1)-(p-c),1,_,(aB rfl: ∃g:Nat->V,_= [.sl S 0 N s,aC (c:Int),aC (l:Int),aC G,.fn (bN.f α) [] [],.bool W,.bool wp,aC m,aC ((l- 1)-(p-c):Nat),aC 1,g 10,g 11,g 12,g 13,g 14,g 15,g 16,g 17,g 18,g 19,g 20,g 21,g 22,g 23]).choose_spec,om,om,A4,reverseRange_holds J c l y (ez A3),gZ F3 F4⟩
  ·simp(disch:=omega)only[go_sem]
   exact .inl ⟨J,p,t,_,(aB rfl: ∃g:Nat->V,_= [.sl S 0 N s,aC (c:Int),aC (l:Int),aC G,.fn (bN.f α) [] [],.bool W,.bool wp,aC m,aC p,aC t,g 10,g 11,g 12,g 13,g 14,g 15,g 16,g 17,g 18,g 19,g 20,g 21,g 22,g 23]).choose_spec,Q,U,A3,permIn_refl J c l,F3⟩
 have a1:=ez A3;clear A3 F3 Q U f3 p t g;rintro B h4 ⟨e3,p,t,g,rfl,Q,U,A,P3,F⟩;have B3:=B2.perm a1 P3;have a0:=permIn_trans _ _ _ c l P2 P3;have a5:l<=J.size:=a1;clear a1 B2 hB;refine Ix (λvs Y=> ∃(P:Array α) (g:Nat->V),vs= [.sl S 0 N s,aC (c:Int),aC (l:Int),aC G,.fn (bN.f α) [] [],.bool W,.bool wp,aC m,aC p,g 9,g 10,g 11,g 12,g 13,g 14,g 15,g 16,g 17,g 18,g 19,g 20,g 21,g 22,g 23]/\dY Y S N P/\PermIn c l e P/\Below bN.lt c l P/\Fx (· =S) h Y) ?_ ?_
 ·have skip: ∀(vs:List V),(∃g:Nat->V,vs= [.sl S 0 N s,aC (c:Int),aC (l:Int),aC G,.fn (bN.f α) [] [],.bool W,.bool wp,aC m,aC p,g 9,g 10,g 11,g 12,g 13,g 14,g 15,g 16,g 17,g 18,g 19,g 20,g 21,g 22,g 23])-> ∃(P:Array α) (g:Nat->V),vs= [.sl S 0 N s,aC (c:Int),aC (l:Int),aC G,.fn (bN.f α) [] [],.bool W,.bool wp,aC m,aC p,g 9,g 10,g 11,g 12,g 13,g 14,g 15,g 16,g 17,g 18,g 19,g 20,g 21,g 22,g 23]/\dY h4 S N P/\PermIn c l e P/\Below bN.lt c l P/\Fx (· =S) h h4:=λvs ⟨g,hv⟩=>⟨e3,g,hv,A,a0,B3,F⟩
  have run: ∀g:Nat->V,Ev T (bN.ρ α 252) [.sl S 0 N s,aC (c:Int),aC (l:Int),.fn (bN.f α) [] []] h4 (λv h'=> ∃r:Array α×Bool,v= .bool r.2/\dY h' S N r.1/\Fx (· =S) h4 h'/\PermIn c l e3 r.1/\(r.2=true->SortedIn bN.lt c l r.1)):=λ_=>by
   refine (Eu h4 S N c l e3 s om A o om).mono ?_;rintro v h5 ⟨hv,A5,F5⟩;obtain⟨q1,q2⟩:=partialInsertionSort_holds (bN.swo (α:=α)) e3 c l om (ez A) B3;exact⟨_,hv,A5,F5,q1,q2⟩
  cases W with
  |false=>
   simp(disch:=omega)only[go_sem];exact .inl (skip _ (aB rfl))
  |true=>cases wp with
   |false=>
    simp(disch:=omega)only[go_sem]
    exact .inl (skip _ (aB rfl))
   |true=>
    simp(disch:=omega)only[go_sem]
    refine bA (λht=>?_) (λht=>?_)
    ·simp(disch:=omega)only[go_sem]
     refine (run g).mono ?_
     rintro v h5 ⟨⟨e5,r5⟩,rfl,A5,F5,q1,q2⟩
     have A5:dY h5 S N e5:=A5
     have q1:PermIn c l e3 e5:=q1
     have P5:=permIn_trans _ _ _ c l a0 q1
     cases r5 with
     |false=>
      simp(disch:=omega)only[go_sem];exact .inl ⟨e5,_,(aB rfl: ∃g:Nat->V,_= [.sl S 0 N s,aC (c:Int),aC (l:Int),aC G,.fn (bN.f α) [] [],.bool true,.bool true,aC m,aC p,g 9,g 10,g 11,g 12,g 13,g 14,g 15,g 16,g 17,g 18,g 19,g 20,g 21,g 22,g 23]).choose_spec,A5,P5,B3.perm (ez A) q1,gZ F F5⟩
     |true=>
      obtain⟨w1,w2⟩:=K _ P5 (q2 rfl);simp(disch:=omega)only[go_sem];exact .inr ⟨by simp,e5,A5,w1,w2,gZ F F5⟩
    ·simp(disch:=omega)only[go_sem]
     exact .inl (skip _ (aB rfl))
 clear A P3 a0 B3 F P2 a5 e3 J;rintro B h5 ⟨P,g,rfl,A,P4,B4,F⟩;have a3:=ez A;refine Ix (λvs Y=> ∃(g:Nat->V),vs= [.sl S 0 N s,aC (c:Int),aC (l:Int),aC G,.fn (bN.f α) [] [],.bool W,.bool wp,aC m,aC p,g 9,g 10,g 11,g 12,g 13,g 14,g 15,g 16,g 17,g 18,g 19,g 20,g 21,g 22,g 23]/\dY Y S N P/\Fx (· =S) h Y) ?_ ?_
 ·by_cases h0:(0:Int)<(c:Int)
  case neg=>
   have Z:=bI h0;simp(disch:=omega)only[go_sem,Z];exact .inl ⟨_,(aB rfl: ∃g:Nat->V,_= [.sl S 0 N s,aC (c:Int),aC (l:Int),aC G,.fn (bN.f α) [] [],.bool W,.bool wp,aC m,aC p,g 9,g 10,g 11,g 12,g 13,g 14,g 15,g 16,g 17,g 18,g 19,g 20,g 21,g 22,g 23]).choose_spec,A.fr ((Fr.refl h5).bH om),gZ F (Fx.of ((Fr.refl h5).bH om))⟩
  have Z:=cI h0;have ea:(c:Int)- 1=((c- 1:Nat):Int):=om
  have c1:=A.rd (i:=c- 1) om;have c2:=A.rd (i:=p) om;simp(disch:=omega)only[go_sem,Z,ea,c1,c2];refine (jQ A (i:=c- 1) (j:=p) om om _ om).mono ?_;rintro _ h6 ⟨z,rfl,hz,b0⟩;have f6:Fr h5 h6:=Fr.trans ((Fr.refl h5).bH om) b0;have A6:=A.fr f6;have F6:=gZ F (Fx.of f6)
  cases hl:bN.lt P[c- 1]! P[p]! with
  |true=>
   simp(disch:=omega)only[go_sem,hz,hl];exact .inl ⟨_,(aB rfl: ∃g:Nat->V,_= [.sl S 0 N s,aC (c:Int),aC (l:Int),aC G,.fn (bN.f α) [] [],.bool W,.bool wp,aC m,aC p,g 9,g 10,g 11,g 12,g 13,g 14,g 15,g 16,g 17,g 18,g 19,g 20,g 21,g 22,g 23]).choose_spec,A6,F6⟩
  |false=>
   obtain⟨w1,w2,w3,w4,w5⟩:=round_eq (bN.swo (α:=α)) (partitionEqual_holds bN.lt) om Q U a3 B4 hl (Prod.eta (partitionEqual bN.lt P c l p)).symm;simp(disch:=omega)only[go_sem,hz,hl];refine (Kt h6 S N c l p P s om A6 o Q U).mono ?_;rintro _ h7 ⟨rfl,A7,F7⟩;simp(disch:=omega)only[go_sem];refine .inr ⟨by simp,l-(partitionEqual bN.lt P c l p).1,om,(partitionEqual bN.lt P c l p).1,l,G,W,wp,_,aB rfl,w2,o,om,a4,w,u,w4,A7,gZ F6 F7,λR r1 r2=>?_,rfl⟩;obtain⟨t1,t2⟩:=w5 R r1 r2;exact K R (permIn_trans _ _ _ c l P4 t1) t2
 clear A F;rintro B h6 ⟨g,rfl,A,F⟩;have e8:=Ow m (k:=8) (m:=8) rfl;simp(disch:=omega)only[go_sem];refine (zI h6 S N c l p P s om A o Q U).mono ?_;obtain⟨r,hr⟩:=exI (partition bN.lt P c l p);rw[hr];obtain⟨q,ap,e5⟩:=r;obtain⟨w1,w2,w3,w4,w5,w6,w7⟩:=round_part (bN.swo (α:=α)) (partition_holds bN.lt) Q U a3 B4 hr;rintro _ h7 ⟨rfl,A7,F7⟩;have A7:dY h7 S N e5:=A7;have F7:=gZ F F7;have el:(q:Int)-(c:Int)=((q-c:Nat):Int):=om
 have er:(l:Int)-(q:Int)=((l-q:Nat):Int):=om
 have Z:(q:Int)+1=((q+1:Nat):Int):=om
 simp(disch:=omega)only[go_sem,el,er,e8];refine bA (λht=>?_) (λht=>?_)
 ·simp(disch:=omega)only[go_sem]
  refine (ih (q-c) om h7 S N c q G e5 s hN A7 w1 om (fN _) w u w4).mono ?_;rintro _ h8 ⟨L,A8,p8,s8,F8⟩;obtain⟨u1,u2⟩:=w6 L p8 s8;simp(disch:=omega)only[go_sem,Z];refine⟨l-(q+1),om,q+1,l,G,_,ap,L,aB rfl,om,o,om,a4,w,u,u1,A8,gZ F7 F8,λR r1 r2=>?_,rfl⟩;obtain⟨t1,t2⟩:=u2 R r1 r2;exact K R (permIn_trans _ _ _ c l P4 t1) t2
 ·simp(disch:=omega)only[go_sem,Z]
  refine (ih (l-(q+1)) om h7 S N (q+1) l G e5 s hN A7 om o (fN _) w u w5).mono ?_;rintro _ h8 ⟨L,A8,p8,s8,F8⟩;obtain⟨u1,u2⟩:=w7 L p8 s8;simp(disch:=omega)only[go_sem];refine⟨q-c,om,c,q,G,_,ap,L,aB rfl,om,om,a8,om,w,u,u1,A8,gZ F7 F8,λR r1 r2=>?_,rfl⟩;obtain⟨t1,t2⟩:=u2 R r1 r2;exact K R (permIn_trans _ _ _ c l P4 t1) t2
theorem Ww  {α:Type}[Inhabited α][O:bN α](n:Nat):ET (α:=α) n:=by
 induction n using Nat.strongRecOn with
 |_ n ih=>exact EZ n  ih
theorem Ly {α:Type}[Inhabited α][O:bN α](h:H)(S N:Nat)(d:Array α)(a:pY)(j:N<60000)(A:dY h S N d):
  Ev T (bN.ρ α 186) [.sl S 0 N a,.fn (bN.f α) [] []] h (λ_ h'=> ∃e,dY h' S N e/\PermIn 0 N d e/\SortedIn bN.lt 0 N e/\Fx (· =S) h h'):=by
 refine mX (wH (α:=α) dN.ok (by decide)) rfl ?_
 have l:bitsLen N<=16:=(bitsLen_le_iff _ 16).2 om
 simp(disch:=omega)only[go_sem,dN,aE,fS (n:=(N:Int)) om om]
 refine (CV N h om).mono ?_
 rintro _ b ⟨rfl,c⟩
 subst c
 simp(disch:=omega)only[go_sem]
 refine (Ww N b S N 0 N _ d a j A om om om om om (.inl rfl)).mono ?_
 rintro _ k ⟨e,i,p,s,F⟩
 simp(disch:=omega)only[go_sem]
 exact⟨e,i,p,s,F⟩
theorem Cw (a:Int)(h:H):Ev T 198 [aC a] h (λv h'=>v= .bool false/\h'=h):=by
 refine dW nY rfl ?_;have e:decide (a≠a)=false:=bI om;simp(disch:=omega)only[go_sem,nY,aE,e]
def sF (a b:Int):Int:=if a<b then -1 else if b<a then 1 else 0
theorem zF (a b:Int)(h:H):Ev T 147 [aC a,aC b] h (λv h'=>v= aC (sF a b)/\Fr h h'):=by
 refine dW vY rfl ?_;simp(disch:=omega)only[go_sem,vY,aE];refine (Cw a h).mono ?_;rintro _ c ⟨rfl,rfl⟩;simp(disch:=omega)only[go_sem];refine (Cw b c).mono ?_;rintro _ j ⟨rfl,rfl⟩;simp(disch:=omega)only[go_sem];unfold sF
 by_cases c:a<b
 ·have d:=cI c
  simp(disch:=omega)only[go_sem,d,bJ c];exact Fr.refl _
 ·have d:=bI c
  by_cases f:b<a
  ·have i:=cI f
   simp(disch:=omega)only[go_sem,d,i,bU c,bJ f];exact Fr.refl _
  ·have i:=bI f
   simp(disch:=omega)only[go_sem,d,i,bU c,bU f];exact Fr.refl _
def OT:List Int->Int
 | []=>0
 |x::r=>if x=0 then OT r else x
theorem UI {l:List Int}{i:Nat}(hi:i<l.length)(h:l.getD i 0=0):OT (l.drop i)=OT (l.drop (i+1)):=by
 rw[Zh hi];show (if l[i]=0 then _ else _)=_;rw[bJ (by rw[List.getD,dD hi] at h;exact h)]
theorem adR {l:List Int}{i:Nat}(hi:i<l.length)(h:l.getD i 0≠0):OT (l.drop i)=l.getD i 0:=by
 rw[Zh hi];show (if l[i]=0 then _ else l[i])=_;have e:l.getD i 0=l[i]:=by rw[List.getD,dD hi];rfl
 rw[bU (by rw[←e];exact h),e]
theorem ajQ (u:V)(l:List Int)(h:H)(B:l.length<1000000)(p:SI h u l):Ev T 191 [u] h (λv h'=>v= aC (OT l)/\Fr h h'):=by
 refine dW Ih rfl ?_;have y:=p.lens;obtain⟨id,j,t,m,z⟩:=p.open;simp(disch:=omega)only[go_sem,Ih,aE,y];refine aI (λq s A=> ∃(i:Nat),(∃g:Nat->V,s= [u,aC 0,aC 0,g 3,u,aC (l.length:Int),aC i,g 7,g 8])/\i<=l.length/\OT (l.drop i)=OT l/\Fr h A/\q=l.length-i) l.length
   ⟨0,aB rfl,iB _,rfl,Fr.refl h,rfl⟩ ?_
 rintro q r w ⟨i,⟨g,rfl⟩,hi,c,f,rfl⟩
 by_cases b:(i:Int)<(l.length:Int)
 ·have k:=cI b
  have a:i<l.length:=om
  have ci:w.cell id (j+i)=some (aC (l.getD i 0)):=by rw[f.cell (m om),z i a]
  generalize n:l.getD i 0=x at ci;simp(disch:=omega)only[go_sem,k,t.ixa,ci]
  by_cases d:x=0
  ·have o:decide (x≠0)=false:=bI (by simpa using d)
   simp(disch:=omega)only[go_sem,o];rw[fJ i];exact⟨l.length-(i+1),om,i+1,aB rfl,om,by rw[←UI a (n.trans d)];exact c,f.bH om,rfl⟩
  ·have o:=cI d
   simp(disch:=omega)only[go_sem,o];exact⟨by rw[←c,adR a (by rw[n];exact d),n],f.bH om⟩
 have k:=bI b;obtain rfl:i=l.length:=om
 simp(disch:=omega)only[go_sem,k];rw[List.drop_length] at c;exact⟨by rw[←c];rfl,f⟩
structure KE where
 rep:V
 ord:Nat
 size:Nat
 ranks:V
 fst:Nat
 hrep:rep.cells= [rep]/\rep.one=true/\dI rep rep=true
 hranks:ranks.cells= [ranks]/\ranks.one=true/\dI ranks ranks=true
instance:Inhabited KE:=⟨⟨.aD,0,0,.aD,0,⟨rfl,rfl,rfl⟩,⟨rfl,rfl,rfl⟩⟩⟩
def KE.enc (a:KE):List V:= [a.rep,aC (a.ord:Int),aC (a.size:Int),a.ranks]
def KE.cmp (a b:KE):Int:=OT [sF a.ord b.ord,sF a.size b.size,sF a.fst b.fst]
def KE.lt (a b:KE):Bool:=decide (a.cmp b<0)
theorem Hu (a:KE)(h:H):Ce h (.agg a.enc)=some (.ptr h.next 0,h.new (.cells false a.enc)):=rK h _ (by simp [KE.enc,a.hrep.2.1,a.hranks.2.1,show (aC (a.ord:Int)).one=true from rfl,show (aC (a.size:Int)).one=true from rfl])
theorem KT (a b:KE)(h:H):Ev T 188 [.agg a.enc,.agg b.enc] h (λv h'=>v= aC (sF a.ord b.ord)/\Fr h h'):=by
 refine dW qH rfl ?_;obtain⟨A,d⟩:=exI h.next;obtain⟨t,s,f,n,u,k⟩:=dK d a.enc;obtain⟨c,p,w,r,i,q⟩:=dK f b.enc;have m:c.get A=some (.cells false a.enc):=by rw[i _ om];exact n
 have j:c.cell A 1=some (aC (a.ord:Int)):=by rw[H.aF m];rfl
 have l:c.cell (A+1) 1=some (aC (b.ord:Int)):=by rw[H.aF r];rfl
 simp(disch:=omega)only[go_sem,qH,aE,Hu,d,s,f,p,j,l];refine (zF _ _ c).mono ?_;rintro _ x ⟨rfl,o⟩;simp(disch:=omega)only[go_sem];exact (k.trans q).trans o
theorem yB (a b:KE)(h:H):Ev T 189 [.agg a.enc,.agg b.enc] h (λv h'=>v= aC (sF a.size b.size)/\Fr h h'):=by
 refine dW rQ rfl ?_;obtain⟨A,d⟩:=exI h.next;obtain⟨t,s,f,n,u,k⟩:=dK d a.enc;obtain⟨c,p,w,r,i,q⟩:=dK f b.enc;have m:c.get A=some (.cells false a.enc):=by rw[i _ om];exact n
 have j:c.cell A 2=some (aC (a.size:Int)):=by rw[H.aF m];rfl
 have l:c.cell (A+1) 2=some (aC (b.size:Int)):=by rw[H.aF r];rfl
 simp(disch:=omega)only[go_sem,rQ,aE,Hu,d,s,f,p,j,l];refine (zF _ _ c).mono ?_;rintro _ x ⟨rfl,o⟩;simp(disch:=omega)only[go_sem];exact (k.trans q).trans o
def KE.At (h:H)(a:KE):Prop:= ∃id off n cap,a.ranks= .sl id off (n+1) cap/\id<h.next/\h.cell id off=some (aC (a.fst:Int))
theorem KA (a b:KE)(h:H)(x:a.At h)(J:b.At h):Ev T 190 [.agg a.enc,.agg b.enc] h (λv h'=>v= aC (sF a.fst b.fst)/\Fr h h'):=by
 refine dW qA rfl ?_;obtain⟨A,u⟩:=exI h.next;obtain⟨h1,e1,t,O,o1,y⟩:=dK u a.enc;obtain⟨c,F,n2,g2,N,L⟩:=dK t b.enc;obtain⟨q,k,U,P,K,Q,Y⟩:=x;obtain⟨m,n,W,Z,B,lb,G⟩:=J;have F2:=y.trans L;have z:c.get A=some (.cells false a.enc):=by rw[N _ om];exact O
 have j:c.cell A 3=some a.ranks:=by rw[H.aF z];rfl
 have o:c.cell (A+1) 3=some b.ranks:=by rw[H.aF g2];rfl
 rw[K] at j;rw[B] at o;have s:c.cell q k=some (aC (a.fst:Int)):=by rw[F2.cell Q];exact Y
 have w:c.cell m n=some (aC (b.fst:Int)):=by rw[F2.cell lb];exact G
 simp(disch:=omega)only[go_sem,qA,aE,Hu,u,e1,t,F,j,o,s,w];refine (zF _ _ _).mono ?_;rintro _ f ⟨rfl,R⟩;have d:Fr c f:=((Fr.refl c).bH om).trans R;have x:=F2.next;have r:f.cell A 3=some (.sl q k (U+1) P):=by rw[d.cell om];exact j
 have p:f.cell (A+1) 3=some (.sl m n (W+1) Z):=by rw[d.cell om];exact o
 have l:f.cell q k=some (aC (a.fst:Int)):=by rw[d.cell om];exact s
 have i:f.cell m n=some (aC (b.fst:Int)):=by rw[d.cell om];exact w
 simp(disch:=omega)only[go_sem,r,p,l,i];exact F2.trans d
theorem Cy {h:H}{A:Nat}{ro:Bool}{a:KE}(b:h.get A=some (.cells ro a.enc)):h.row A 0 4=some a.enc:=by
 simp [H.row,b,sub,KE.enc]
theorem Jm (a:KE):dI (.agg a.enc) (.agg a.enc)=true:=by
 show tG a.enc a.enc=true;simp [KE.enc,tG,dI,a.hrep.2.2,a.hranks.2.2]
theorem KE.At.fr {a:KE}{h h':H}(x:a.At h)(f:Fr h h'):a.At h':=by
 obtain⟨j,i,k,l,d,b,c⟩:=x;exact⟨j,i,k,l,d,jM b f.next,by rw[f.cell b];exact c⟩
theorem CW (h:H)(x y z:Int):mH h 1 [aC 0] 3 [(0,1,aC x),(1,1,aC y),(2,1,aC z)]=some (.sl h.next 0 3 (.kn 3),h.new (.cells false (ints [x,y,z]))):=rfl
theorem acT (a b:KE)(h:H)(Z:a.At h)(L:b.At h):Ev T 187 [.agg a.enc,.agg b.enc] h (λv h'=>v= aC (a.cmp b)/\Fr h h'):=by
 refine dW Cf rfl ?_;obtain⟨A,w⟩:=exI h.next;obtain⟨h1,Y,u,R,o1,G⟩:=dK w a.enc;obtain⟨i,e2,n2,j,Q,N⟩:=dK u b.enc;have F2:=G.trans N;have J:i.get A=some (.cells false a.enc):=by rw[Q _ om];exact R
 simp(disch:=omega)only[go_sem,Cf,aE,Hu,w,Y,u,e2,Cy J,Cy j,Jm,H.BJ];have hn:=F2.next;refine (KT a b _).mono ?_;rintro _ s ⟨rfl,B⟩;have t:Fr i s:=((Fr.refl i).bH om).trans B;have m:s.get (A+1)=some (.cells false b.enc):=by rw[t.get _ om];exact j
 simp(disch:=omega)only[go_sem,Cy m,Jm];refine (yB a b _).mono ?_;rintro _ K ⟨rfl,z⟩;have l:=t.trans z;have n:K.get (A+1)=some (.cells false b.enc):=by rw[l.get _ om];exact j
 simp(disch:=omega)only[go_sem,Cy n,Jm];refine (KA a b _ (Z.fr (F2.trans l)) (L.fr (F2.trans l))).mono ?_;rintro _ f ⟨rfl,x⟩;have o:=l.trans x;have r:f.get (A+1)=some (.cells false b.enc):=by rw[o.get _ om];exact j
 simp(disch:=omega)only[go_sem,Cy r,Jm];obtain⟨I,F⟩:=exI (i.next+9+9);have n5:=x.next;have n4:=z.next;have n3:i.next+9+12<=s.next:=B.next;simp(disch:=omega)only[go_sem,F,CW]
 obtain⟨d,c⟩: ∃d:H,d=H.mk ((H.mk f.tr I).new (Ob.cells false (ints [sF a.ord b.ord,sF a.size b.size,sF a.fst b.fst]))).tr f.next:=⟨_,rfl⟩
 rw[←c];have O:d.get I=bB (ints [sF a.ord b.ord,sF a.size b.size,sF a.fst b.fst]):=by rw[c];exact H.aL (H.mk f.tr I) _
 have n6:d.next=f.next:=by rw[c]
 have U: ∀k,k≠I->d.get k=f.get k:=λk q=>by rw[c];exact H.bG (H.mk f.tr I) (by simpa using q) _
 have P:Fr i d:=⟨by have:=o.next;omega,λk q=>by rw[U k om];exact o.get k q⟩
 refine (ajQ _ [sF a.ord b.ord,sF a.size b.size,sF a.fst b.fst] d (by simp) (SV.all (by simp [aP]) om O _)).mono ?_;rintro _ W ⟨rfl,f7⟩;have y:=P.trans f7;have p:W.get (A+1)=some (.cells false b.enc):=by rw[y.get _ om];exact j
 simp(disch:=omega)only[go_sem,Cy p,Jm];exact⟨rfl,F2.trans y⟩
theorem KE.lt_iff (a b:KE):a.lt b=true↔a.ord<b.ord∨a.ord=b.ord/\(a.size<b.size∨a.size=b.size/\a.fst<b.fst):=by
 unfold KE.lt KE.cmp OT OT OT OT sF;rw[decide_eq_true_eq]
 repeat' split
 all_goals omega
theorem agV:SWO KE.lt where
 irrefl x:=by rw[←Bool.not_eq_true,KE.lt_iff];omega
 trans x y z h1 h2:=by rw[KE.lt_iff] at*;omega
 ntrans x y z h1 h2:=by rw[←Bool.not_eq_true,KE.lt_iff] at*;omega
theorem yZ: ∀c:C,Jo (λk=>k) c=c
 | .skip=>rfl
 | .reg l=>congrArg C.reg ((Xa λi _=>show YR (λk=>k) i=id i from by
   obtain⟨d,g,a⟩:=i
   cases a<;>rfl).trans (List.map_id l))
 | .any k n l=>congrArg (C.any k n) ((Xa λi _=>show ahM (λk=>k) i=id i from by
   obtain⟨i,⟨d,g,a⟩,h,j⟩:=i
   cases a<;>rfl).trans (List.map_id l))
 | .seq a b=>by rw[Jo,yZ a,yZ b]
 | .ite x a b=>by rw[Jo,yZ a,yZ b]
 | .block i c=>by rw[Jo,yZ c]
 | .loop c=>by rw[Jo,yZ c]
 | .exit i=>rfl
 | .ret=>rfl
 | .range f p a b=>rfl
 | .fail=>rfl
theorem adE (o:Option Ay.Fn):o.map (Vt λk=>k)=o:=by
 cases o with
 |none=>rfl
 |some f=>
  show some (Vt _ f)=_;unfold Vt;rw[yZ]
def KE.Pp (hB:H)(b0 S:Nat)(a:KE):Prop:= ∃id off n cap,a.ranks= .sl id off (n+1) cap/\id<b0/\id≠S/\hB.cell id off=some (aC (a.fst:Int))
def Bb (hB:H)(b0 S:Nat)(h:H):Prop:=b0<=h.next/\ ∀q,q<b0->q≠S->h.get q=hB.get q
theorem KE.Pp.at {j h:H}{i S:Nat}{a:KE}(p:a.Pp j i S)(b:Bb j i S h):a.At h:=by
 obtain⟨id,c,n,d,e,f,k,l⟩:=p;refine⟨id,c,n,d,e,jM f b.1,?_⟩;rw[←l];unfold H.cell;rw[b.2 id f k]
@[reducible] def ajM (hB:H)(b0 S:Nat):bN KE where
 lt:=KE.lt
 enc:=KE.enc
 P:=KE.Pp hB b0 S
 B:=Bb hB b0 S
 f:=187
 b0:=b0
 S:=S
 swo:=agV
 len _:=rfl
 one a:=by simp [KE.enc,a.hrep.2.1,a.hranks.2.1,show (aC (a.ord:Int)).one=true from rfl,show (aC (a.size:Int)).one=true from rfl]
 eqv:=Jm
 cmp h a b hb pa pb:=(acT a b h (pa.at hb) (pb.at hb)).mono λv h' ⟨e,f⟩=>⟨_,e,rfl,f⟩
 bfr h h' b f:=⟨mY b.1 f.next,λq h1 h2=>by rw[f.get q (jM h1 b.1)];exact b.2 q h1 h2⟩
 bS h h' b f:=⟨mY b.1 f.next,λq h1 h2=>by rw[f.get q (jM h1 b.1) h2];exact b.2 q h1 h2⟩
 bR h h' R b hR f:=⟨mY b.1 f.next,λq h1 h2=>by rw[f.get q (jM h1 b.1) (λe=>by have:q=R:=e;omega)];exact b.2 q h1 h2⟩
 bn h b:=b.1
 ρ:=λk=>k
 hT:=λk _=>(adE _).symm
 s1:=rfl
 s2:=rfl
 s3:=rfl
theorem Qd {l:List KE}{N:Nat}(k:l.length=N){e:Array KE}(s:PermIn 0 N l.toArray e)(n:SortedIn KE.lt 0 N e):e.toList.Perm l/\e.toList.Pairwise (λa b=>KE.lt b a=false):=by
 obtain⟨q,u,o⟩:=s;have c:e.size=N:=by rw[q];simpa using k
 refine⟨?_,?_⟩
 ·have p:(e.extract 0 N).toList=e.toList:=by rw[←c];simp
  have r:(l.toArray.extract 0 N).toList=l:=by rw[←k];simp
  rwa [p,r] at o
 ·rw[GP]
  intro i j hi f h;have d:j<N:=by simpa [c] using f
  have:=n i j (iB _) h d;have m:e[i]! =e.toList[i]:=by simp at hi;simp [hi]
  have t:e[j]! =e.toList[j]:=by simp at f;simp [f]
  rw[m,t] at this;exact this
def rJ (l:List KE):List V:=l.flatMap KE.enc
theorem VF (h:H)(S d:Nat)(l:List KE)(f:pY)(q:l.length<60000)(t:h.get S=bB (rJ l))(j:S<h.next)(o:d<=h.next)(n: ∀a∈l,a.Pp h d S):
  Ev T 186 [.sl S 0 l.length f,.fn 187 [] []] h (λ_ h'=> ∃l',h'.get S=bB (rJ l')/\l'.Perm l/\l'.Pairwise (λa b=>KE.lt b a=false)/\Fx (· =S) h h'):=by
 letI:=ajM h d S
 have A:dY h S l.length l.toArray:=⟨t,by simp,j,rfl,⟨o,λ_ _ _=>rfl⟩,λi hi=>by
  have c:i<l.length:=by simpa using hi
  have:l.toArray[i]! =l[i]:=by simp [c]
  rw[this]
  exact n _ (xG c)⟩
 refine (Ly h S l.length l.toArray f q A).mono ?_
 rintro _ h' ⟨e,m,p,s,F⟩
 obtain⟨k,r⟩:=Qd rfl p s
 exact⟨e.toList,m.get,k,r,F⟩
end Go.Proofs.YtcdbmkidaecdiaaGreat.Cls
namespace Go.Proofs.YtcdbmkidaecdiaaGreat
open Go Go.Ay Go.Pm
set_option maxRecDepth 100000
section
variable {i j p:Nat} {S:LN} {Q:List Nat}
section
variable {n:Nat} {G:List Nat->Prop} {L:LN}
theorem wU {l:LN}(nd:l.Nodup)(hi:i<l.length)(b:j<l.length)(e:l.getD i []=l.getD j []):i=j:=by
 have d:l.getD i []=l[i]:=by rw[List.getD,dD hi];rfl
 have c:l.getD j []=l[j]:=by rw[List.getD,dD b];rfl
 rw[d,c] at e;have h:=GP.1 nd;rcases Nat.lt_trichotomy i j with a|a|a
 ·exact absurd e (h i j hi b a)
 ·exact a
 ·exact absurd e.symm (h j i b hi a)
def cR (G:List Nat->Prop)(L:LN)(i j:Nat):Prop:=cj G (L.getD i []) (L.getD j [])
open Classical in
noncomputable def kU (G:List Nat->Prop)(L:LN)(i:Nat):List Nat:=(List.range L.length).filter λj=>decide (cR G L i j)
theorem uQ:j∈kU G L i↔j<L.length/\cR G L i j:=by
 classical
 unfold kU;rw[Rq,Dj,Ak]
theorem Yg (i:Nat):(kU G L i).Pairwise (· < ·):=by
 classical
 unfold kU;exact List.Pairwise.filter _ List.pairwise_lt_range
theorem Qj (i:Nat):(kU G L i).Nodup:=by
 classical
 unfold kU;exact List.Pairwise.filter _ List.nodup_range
def GU (G:List Nat->Prop)(L:LN)(i:Nat):Prop:= ∀j,j<i-> ¬cR G L j i
open Classical in
noncomputable def kC (G:List Nat->Prop)(L:LN)(k:Nat):List Nat:=(List.range k).filter λj=>decide (GU G L j)
theorem Ny (k:Nat):(GU G L k->kC G L (k+1)=kC G L k++ [k])/\(¬GU G L k->kC G L (k+1)=kC G L k):=by
 classical
 unfold kC;rw[List.range_succ,List.filter_append];refine⟨λh=>?_,λh=>?_⟩
 ·rw[List.filter_cons_of_pos (by simpa using h)];rfl
 ·rw[List.filter_cons_of_neg (by simpa using h),List.filter_nil,tZ]
theorem jY {k:Nat}:i∈kC G L k↔i<k/\GU G L i:=by
 classical
 unfold kC;rw[Rq,Dj,Ak]
variable (hG:dO n G) (E:cZ G L)
include hG E
omit hG in
theorem pD (hi:i<L.length):G (L.getD i []):=(E.mem _).1 (bC hi)
theorem lE (hi:i<L.length):aY n (L.getD i []):=hG.bF (pD E hi)
theorem Ux (hi:i<L.length):cR G L i i:=abD hG (lE hG E hi)
theorem Mt (hi:i<L.length)(h:cR G L i j):cR G L j i:=acC hG (lE hG E hi) h
theorem yD {k:Nat}(hi:i<L.length)(h:cR G L i j)(h2:cR G L j k):cR G L i k:=QR hG (lE hG E hi) h h2
theorem Px (hi:i<L.length): ∃r,r<=i/\GU G L r/\cR G L r i:=by
 induction i using Nat.strongRecOn with
 |_ i ih=>
  by_cases h:GU G L i
  ·exact⟨i,fN _,h,Ux hG E hi⟩
  ·obtain⟨j,b,a⟩: ∃j,j<i/\cR G L j i:=Jj λc=>h λj b a=>c ⟨j,b,a⟩
   obtain⟨r,k,d,f⟩:=ih j b om;exact⟨r,om,d,yD hG E om f a⟩
theorem YA {r s:Nat}(b:r<L.length)(a:s<L.length)(f:GU G L r)(h2:GU G L s)(c:cR G L r i)(d:cR G L s i):r=s:=by
 have k:=yD hG E b c (Mt hG E a d);have l:=yD hG E a d (Mt hG E b c);rcases Nat.lt_trichotomy r s with h|h|h
 ·exact absurd k (h2 r h)
 ·exact h
 ·exact absurd l (f s h)
omit hG E in
structure BQ (G:List Nat->Prop)(L S:LN)(i:Nat)(Q:List Nat)(p:Nat):Prop where
 nd:Q.Nodup
 ne:0<Q.length
 hd:Q.getD 0 0=i
 mem: ∀j∈Q,j<L.length/\cR G L i j
 cl: ∀k,k<p-> ∀s∈S,∃j∈Q,L.getD j []=aT (L.getD (Q.getD k 0) []) s
omit hG E in
theorem BQ.len (b:BQ G L S i Q p):Q.length<=L.length:=by
 have h:Q ⊆ List.range L.length:=λj a=>Dj.2 (b.mem j a).1
 have:=List.Nodup.length_le_of_subset b.nd h;rwa [Xf] at this
theorem BQ.done (b:BQ G L S i Q p)(w:Q.length<=p)(hi:i<L.length)(o: ∀s∈S,G s)(a: ∀x,G x->bM n (λg=>g∈S) x)(j:Nat):j∈Q↔j<L.length/\cR G L i j:=by
 refine⟨b.mem j,λ⟨v,hc⟩=>?_⟩
 have d: ∃k∈Q,L.getD k []=L.getD j []:=by
  refine aiD (S:=λg=>g∈S) (λg h=>hG.bF (o g h)) a (P:=λy=> ∃k∈Q,L.getD k []=y) (lE hG E hi) ⟨i,by rw[←b.hd];exact bC b.ne,rfl⟩ ?_ hc;rintro y g Y ⟨k,c,rfl⟩ h;obtain⟨t,r,q⟩:=Ad.1 c;obtain⟨u,m,l⟩:=b.cl t om g h;have e:Q.getD t 0=k:=by rw[Pm.cW r,q]
  rw[e] at l;exact⟨u,m,l⟩
 obtain⟨k,c,e⟩:=d;have f:=(b.mem k c).1;rw[←wU E.nodup f v e];exact c
theorem BQ.sort (b:BQ G L S i Q p)(k:Q.length<=p)(hi:i<L.length)(f: ∀s∈S,G s)(a: ∀x,G x->bM n (λg=>g∈S) x){c:List Int}(d:c.Perm (zi Q))(h2:c.Pairwise (· <= ·)):c=zi (kU G L i):=by
 refine Yu (d.trans ?_) h2 ?_
 ·refine List.Perm.map _ ((List.perm_ext_iff_of_nodup b.nd (Qj i)).2 λj=>?_)
  rw[b.done hG E k hi f a j,uQ]
 ·unfold zi
  rw[List.pairwise_map];exact (Yg i).imp λh=>om
theorem Tr (hi:i<L.length)(l:GU G L i):0<(kU G L i).length/\(kU G L i).getD 0 0=i:=by
 have f:i∈kU G L i:=uQ.2 ⟨hi,Ux hG E hi⟩;have a:=Rl f;refine⟨a,?_⟩;have m:=uQ.1 (bC (d:=0) a);obtain⟨k,h,o⟩:=Ad.1 f;have b:=GP.1 (Yg (G:=G) (L:=L) i);rw[Pm.cW a] at*
 by_cases c:k=0
 ·subst c;exact o
 ·have q:=b 0 k a h om
  exact absurd (Mt hG E hi m.2) (l _ om)
end
end
end Go.Proofs.YtcdbmkidaecdiaaGreat
namespace Go.Ay
open Go
def RZ (o:Option Ob)(h:H)(id:Nat)(s:Gn)(k y:V):Option (V×H):=match o with
 |some (.wmap sh es)=>if s=sh/\isKey s k=true then
   some (V.undef,h.set id (some (.wmap sh (match iN k es with
    |some e=>es.set e.1 (k,y)
    |none=>es++ [(k,y)]))))
  else none
 |_=>none
def afQ (s:Gn)(h:H)(x k y:V):Option (V×H):=match x with
 | .mp id=>RZ (h.get id) h id s k y
 |_=>none
theorem adA (ρ:X->V)(h:H)(s:Gn)(x k y:X):fC ρ h (.msw s x k y)=afQ s h (ρ x) (ρ k) (ρ y):=by
 simp only[fC,afQ,RZ];cases ρ x<;>try rfl
theorem abQ (s:Gn)(h:H)(id:Nat)(k y:V):afQ s h (.mp id) k y=RZ (h.get id) h id s k y:=rfl
def PM (o:Option Ob)(s:Gn)(zero:V)(ok:Bool)(k:V):Option V:=match o with
 |some (.wmap sh es)=>if s=sh/\isKey s k=true then
   match iN k es with
   |some e=>some (if ok then .tup [e.2,.bool true] else e.2)
   |none=>some (if ok then .tup [zero,.bool false] else zero)
  else none
 |_=>none
def ahY (s:Gn)(zero:V)(ok:Bool)(h:H)(x k:V):Option V:=match x with
 | .mp id=>PM (h.get id) s zero ok k
 |_=>none
theorem acM (ρ:X->V)(h:H)(s:Gn)(zero:V)(ok:Bool)(x k:X):fC ρ h (.lkw s zero ok x k)=(ahY s zero ok h (ρ x) (ρ k)).map (·,h):=by
 simp only[fC,ahY,PM];cases ρ x<;>try rfl
 rename_i id;simp only
 cases hg:h.get id with
 |none=>rfl
 |some o=>
  cases o<;>try rfl
  rename_i c b;simp only
  by_cases a:s=c/\isKey s (ρ k)=true
  ·rw[bJ a,bJ a]
   cases iN (ρ k) b<;>rfl
  ·rw[bU a,bU a];rfl
theorem ZV (s:Gn)(zero:V)(ok:Bool)(h:H)(id:Nat)(k:V):ahY s zero ok h (.mp id) k=PM (h.get id) s zero ok k:=rfl
attribute [go_sem] adA abQ acM ZV
end Go.Ay
namespace Go.Proofs.YtcdbmkidaecdiaaGreat
open Go Go.Ay Go.Pm
set_option maxRecDepth 100000
def Jl (L:LN)(k:Nat):List (V×V):=(List.range k).map λi=>(V.str (L.getD i []),aC i)
theorem Ka (k:V): ∀(a b:List (V×V)),iN k a=none->iN k (a++b)=(iN k b).map λq=>(q.1+a.length,q.2)
 | [],b,_=>by
  cases h:iN k b<;>simp [h]
 |e::a,b,h=>by
  show (if dI k e.1 then some (0,e.2) else (iN k (a++b)).map λq=>(q.1+1,q.2))=_;have c:(if dI k e.1 then some (0,e.2) else (iN k a).map λq=>(q.1+1,q.2))=none:=h;split at c
  ·cases c
  ·rename_i d
   rw[bU d,Ka k a b (by cases h2:iN k a with|none=>rfl|some x=>rw[h2] at c;cases c),Option.map_map]
   rfl
theorem Nc (L:LN)(k:Nat):Jl L (k+1)=Jl L k++ [(V.str (L.getD k []),aC k)]:=by
 unfold Jl;rw[List.range_succ,List.map_append];rfl
theorem Oh {L:LN}{w:List Nat}: ∀{k:Nat},(∀i,i<k->L.getD i []≠w)->iN (.str w) (Jl L k)=none
 |0,_=>rfl
 |k+1,h=>by
  rw[Nc,Ka _ _ _ (Oh λi hi=>h i om)]
  have:(dI (.str w) (.str (L.getD k [])))=false:=by
   have:=h k om;simp only[dI,beq_eq_false_iff_ne,ne_eq];exact λe=>this e.symm
  show Option.map _ (if dI (.str w) (.str (L.getD k [])) then _ else _)=_;rw[bU (by rw[this];simp)];rfl
theorem Xx {L:LN}(nd:L.Nodup): ∀{k i:Nat},k<=L.length->i<k->iN (.str (L.getD i [])) (Jl L k)=some (i,aC i)
 |0,i,_,h=>om
 |k+1,i,hk,h=>by
  rw[Nc]
  by_cases e:i=k
  ·subst e
   rw[Ka _ _ _ (Oh λj m e=>by have:=wU nd om om e;omega)];show Option.map _ (if dI (.str (L.getD i [])) (.str (L.getD i [])) then some (0,aC i) else _)=_;rw[bJ (by simp [dI])];simp [Jl]
  ·have l:=Xx nd (k:=k) om (show i<k by omega)
   have d: ∀(a b:List (V×V)) (x:V) (r:Nat×V),iN x a=some r->iN x (a++b)=some r:=by
    intro a
    induction a with
    |nil=>intro b x r h;cases h
    |cons y a ih2=>
     intro b x r h;show (if dI x y.1 then some (0,y.2) else (iN x (a++b)).map λq=>(q.1+1,q.2))=_;have c:(if dI x y.1 then some (0,y.2) else (iN x a).map λq=>(q.1+1,q.2))=some r:=h
     by_cases f:dI x y.1=true
     ·rw[bJ f] at c ⊢;exact c
     ·rw[bU f] at c ⊢
      cases h2:iN x a with
      |none=>rw[h2] at c;cases c
      |some r2=>rw[h2] at c;rw[ih2 b x r2 h2];exact c
   exact d _ _ _ _ l
theorem zJ {w:List Nat}(b:w.length<=1000)(h2: ∀x∈w,x<256):isKey .str (.str w)=true:=by
 have e:(decide (w.length<2^62)&&w.all λn=>decide (n<256))=true:=by
  rw[sE,decide_eq_true_eq,zP];exact⟨om,λx a=>by simpa using h2 x a⟩
 exact e
theorem AJ {L:LN}(nd:L.Nodup){k:Nat}(b:k<L.length)(c:isKey .str (.str (L.getD k []))=true)(a:H)(M:Nat):
  RZ (some (.wmap .str (Jl L k))) a M .str (.str (L.getD k [])) (aC k)=some (.undef,a.set M (some (.wmap .str (Jl L (k+1))))):=by
 have e:iN (.str (L.getD k [])) (Jl L k)=none:=Oh λj d e=>by have:=wU nd om b e;omega
 simp only[RZ]
 rw[bJ ⟨trivial,c⟩,e,Nc]
theorem Pl {L:LN}(nd:L.Nodup){i:Nat}(hi:i<L.length)(a:isKey .str (.str (L.getD i []))=true)(z:V):
  PM (some (.wmap .str (Jl L L.length))) .str z false (.str (L.getD i []))=some (aC i):=by
 simp only[PM]
 rw[bJ ⟨trivial,a⟩,Xx nd (fN _) hi];rfl
end Go.Proofs.YtcdbmkidaecdiaaGreat
namespace Go.Proofs.YtcdbmkidaecdiaaGreat
open Go Go.Ay Go.Pm
set_option maxRecDepth 100000
section
variable {G:List Nat->Prop} {L:LN} {i j n:Nat} {Q:List Nat} {h:H} {v:V}
theorem NU {a:V}(b:a.cells= [a])(c:a.one=true)(M N m:Nat):qU [.aD,.nilm,.aD,.aD] [(0,1,a),(1,1,.mp M),(3,1,.sl N 0 m (.kn m))]=some (.agg [a,.mp M,.aD,.sl N 0 m (.kn m)]):=by
 simp [qU,iK,putAt,b,c,show (V.mp M).cells= [V.mp M] from rfl,show (V.sl N 0 m (.kn m)).cells= [V.sl N 0 m (.kn m)] from rfl,show (V.mp M).one=true from rfl,show (V.sl N 0 m (.kn m)).one=true from rfl]
theorem OB {a:V}(b:a.one=true)(M N m:Nat)(h:H):Ce h (.agg [a,.mp M,.aD,.sl N 0 m (.kn m)])=some (.ptr h.next 0,h.new (.cells false [a,.mp M,.aD,.sl N 0 m (.kn m)])):=rK h _ (by simp [b,show (V.mp M).one=true from rfl,show (V.sl N 0 m (.kn m)).one=true from rfl,show V.aD.one=true from rfl])
open Classical in
noncomputable def Jh (G:List Nat->Prop)(L:LN)(i:Nat)(Q:List Nat)(j:Nat):Bool:=decide ((∃i0,i0<i/\cR G L i0 j)∨j∈Q)
theorem nV:Jh G L i Q j=true↔(∃i0,i0<i/\cR G L i0 j)∨j∈Q:=by classical unfold Jh;simp only[decide_eq_true_eq]
theorem QX (G:List Nat->Prop)(L:LN)(j:Nat):Jh G L 0 [] j=false:=by
 rw[←Bool.not_eq_true,nV];rintro (⟨a,h,_⟩|h)
 ·omega
 ·cases h
theorem Za {k:Nat}:Jh G L i (Q++ [k]) j=if j=k then true else Jh G L i Q j:=by
 by_cases e:j=k
 ·rw[bJ e,nV];exact .inr (by simp [e])
 ·rw[bU e,DW,nV,nV]
  simp [e]
theorem uJ {p:Nat->Option Ay.Fn}{rd:Option Nat}{a:C}{k:Nat}{b:List V}{Q:E->List V->H->Prop}(J:List V->H->Prop)(c:Wp p rd (.loop a) b h (λe v h'=>e= .exit k/\J v h'))(h2: ∀v h',J v h'->Q .norm v h'):Wp p rd (.loop a) b h (xE k Q):=
 c.mono λe v h' x=>by
  obtain⟨rfl,x⟩:=x;rw[Cb];exact h2 v h' x
theorem dH.ge {sz id off b:Nat}{ws:List V}(o:dH h v sz ws b)(a:ws.length=n*sz)(d:0<sz)(s:Sl v sz n id off)(l:0<n):b<=id:=by
 have c:=s.ixa .i64 0 om om;rcases o.sv with ⟨_,rfl⟩|⟨p,k,len,q,u,r,e,f,_⟩
 ·have:=Nat.mul_pos l d
  simp at a;omega
 ·have t:=(o.in _ _ _ _ e).2.1
  subst e
  have w:0<len:=by
   have:=Nat.mul_pos l d;refine Nat.pos_of_ne_zero λm=>?_
   subst m;simp at f;rw[f] at a;simp at a;omega
  rw[Il om om] at c;simp only[Option.some.injEq,V.ptr.injEq] at c;omega
theorem TA (m:dO n G)(E:cZ G L)(hi:i<L.length)(k: ¬GU G L i)(j:Nat):Jh G L i [] j=Jh G L (i+1) [] j:=by
 obtain⟨l,p,c⟩: ∃j,j<i/\cR G L j i:=Jj λf=>k λj o c=>f ⟨j,o,c⟩
 rw[DW,nV,nV];constructor
 ·rintro (⟨a,d,b⟩|h)
  ·exact .inl ⟨a,om,b⟩
  ·cases h
 ·rintro (⟨a,d,b⟩|h)
  ·by_cases e:a=i
   ·subst e;exact .inl ⟨l,p,yD m E om c b⟩
   ·exact .inl ⟨a,om,b⟩
  ·cases h
theorem UA {S:LN}(l:dO n G)(E:cZ G L)(hi:i<L.length)(b:BQ G L S i Q Q.length)(k: ∀s∈S,G s)(a: ∀x,G x->bM n (λg=>g∈S) x)(m:j<L.length):Jh G L i Q j=Jh G L (i+1) [] j:=by
 rw[DW,nV,nV];constructor
 ·rintro (⟨c,f,d⟩|h)
  ·exact .inl ⟨c,om,d⟩
  ·exact .inl ⟨i,om,(b.mem j h).2⟩
 ·rintro (⟨c,f,d⟩|h)
  ·by_cases e:c=i
   ·subst e;exact .inr ((b.done l E (fN _) hi k a j).2 ⟨m,d⟩)
   ·exact .inl ⟨c,om,d⟩
  ·cases h
theorem MF (a:v.cells= [v])(b:v.one=true)(x y:Int):qU [.aD,aC 0,aC 0] [(0,1,v),(1,1,aC x),(2,1,aC y)]=some (.agg [v,aC x,aC y]):=by
 simp [qU,iK,putAt,a,b,show ∀z,(aC z).cells= [aC z] from λ_=>rfl,show ∀z,(aC z).one=true from λ_=>rfl]
theorem MB {w:V}(c:v.one=true)(b:w.cells= [w])(a:w.one=true)(x y:Int):qU [.aD,aC 0,aC 0,.aD] [(0,3,.agg [v,aC x,aC y]),(3,1,w)]=some (.agg [v,aC x,aC y,w]):=by
 simp [qU,iK,putAt,b,c,a,show ∀l,(V.agg l).cells=l from λ_=>rfl,show ∀z,(aC z).one=true from λ_=>rfl]
theorem LR {w:V}(b:v.one=true)(a:w.one=true)(x y:Int)(h:H):mH h 4 [.aD,aC 0,aC 0,.aD] 1 [(0,4,.agg [v,aC x,aC y,w])]=some (.sl h.next 0 1 (.kn 1),h.new (.cells false [v,aC x,aC y,w])):=by
 have e:dP [V.aD,aC 0,aC 0,.aD] 4= [V.aD,aC 0,aC 0,.aD]:=rfl;simp [mH,iK,putAt,e,b,a,show ∀l,(V.agg l).cells=l from λ_=>rfl,show ∀z,(aC z).one=true from λ_=>rfl]
theorem Dk (k:Nat):(kC G L k).length<=k:=by
 classical
 unfold kC;exact mY (List.length_filter_le _ _) (by rw[Xf];exact fN _)
theorem Sv (b:List Cls.KE):(Cls.rJ b).length=b.length*4:=by
 induction b with
 |nil=>rfl
 |cons a r ih=>
  show (a.enc++Cls.rJ r).length=_;rw[iV,ih,List.length_cons];show 4+_=_;omega
theorem NJ {a b c d:V}(f:H)(id:Nat)(y:V):eU (some (.cells false [a,b,c,d])) f id 2 [y]=some (f.set id (some (.cells false [a,b,y,d]))):=by
 simp [eU,putAt]
theorem afJ {sz:Nat}{ws:List V}(s:SV h v sz ws):Oa (λq=>h.next<=q) v:=by
 cases v with
 |sl id off len cap=>exact λa=>by have:=s.in _ _ _ _ rfl;omega
 |_=>trivial
structure KO (n:Nat)(G:List Nat->Prop)(L:LN)(X:Nat)(W:Nat->Prop)(hh:H)(a:Cls.KE)(r:Nat):Prop where
 fst:a.fst=r
 ord:a.ord=oJ (L.getD r []) n
 size:a.size=(kU G L r).length
 rep:PV (λq=>X<=q) hh a.rep (L.getD r [])
 ranks:PV W hh a.ranks (kU G L r)
theorem KO.go {X:Nat}{W W':Nat->Prop}{h':H}{a:Cls.KE}{r:Nat}(k:KO n G L X W h a r)(f:Fx W h h')(o:X<=h.next)(c: ∀q,W q->X<=q)(d: ∀q,q<h.next->W' q->W q):KO n G L X W' h' a r:=
 ⟨k.fst,k.ord,k.size,k.rep.fx ⟨f.next,λq b l=>f.get q b λm=>l (c q m)⟩,PV.go k.ranks f d⟩
structure OfJ (n:Nat)(G:List Nat->Prop)(L:LN)(X D:Nat)(vL:V)(h5:H)(i:Nat)(hh:H):Prop where
 ex: ∃vK ks W,hh.get (X+8)=some (.cells false [vL,.mp (X+3),vK,.sl (X+6) 0 L.length (.kn L.length)])/\dH hh vK 4 (Cls.rJ ks) (D+1)/\aN (KO n G L X W hh) ks (kC G L i)/\Ik W vK/\W D/\W (X+8)/\W (X+6)/\(∀q,W q->q<hh.next)/\(∀q,W q->X<=q)/\(ks= []∨ ∃id cap,vK= .sl id 0 ks.length cap/\hh.get id=some (.cells false (Cls.rJ ks)))
 gD:hh.get D=some (.cells false (rc L.length λj=> .bool (Jh G L i [] j)))
 old:Fx (λq=>q=X+8∨D<=q) h5 hh
 nx:D<hh.next
def VZ (n:Nat):C->Bool
 | .block k _=>k==n
 | .seq _ b=>VZ n b
 |_=>false
def Ve (n:Nat):C->C
 | .seq a b=>if VZ n a then b else Ve n b
 |c=>c
structure OfE (n:Nat)(G:List Nat->Prop)(L:LN)(X D:Nat)(vL:V)(h h2 h5 h7:H):Prop where
 el:cZ G L
 le:L.length<=5040
 f2:Fr h h2
 x2:h2.next=X
 sp:SP h2 vL L
 f25:Fr h2 h5
 xD:X+10<=D
 n5:h5.next=D
 gM:h5.get (X+3)=some (.wmap .str (Jl L L.length))
 gN:h5.get (X+6)=some (.cells false (rc L.length λ_=> aC 0))
 j:OfJ n G L X D vL h5 L.length h7
theorem aaT {W0:Nat->Prop}(vc:V)(n:Nat)(O:LN)(R:jJ)(G:List Nat->Prop)(h:H)(gc:GC W0 h vc n O R G)(P:V->H->Prop)
  (hk: ∀L X D vL h2 h5 h7 A (g:Nat->V),dM O R n 0 (aX n)=L->OfE n G L X D vL h h2 h5 h7->Wp T none (Ve 2 mU.fn.body) ([g 0,.ptr A 0,.nilp,aC 0,vL,g 5,.ptr (X+8) 0,g 7,g 8,g 9,g 10,g 11,g 12,g 13,g 14,g 15,g 16,g 17,g 18,g 19,g 20,g 21,g 22,g 23,g 24,g 25,g 26,g 27,g 28,g 29,g 30,g 31,g 32,g 33,g 34,g 35,g 36,g 37,g 38,g 39,g 40,g 41,g 42,g 43,g 44,g 45]) h7 (LX mU.fn.results P)):
  Ev T 139 [vc] h P:=by
 obtain⟨vO,vR,e,sO,sR⟩:=gc.ch
 subst e
 refine dW mU rfl ?_
 have l1:vO.one=true:=oNs sO
 have g4:vR.one=true:=oNt sR
 obtain⟨A,hA⟩:=exI h.next
 obtain⟨d,e1,n1,g1,o1,f1⟩:=dK hA [aC n,vO,vR]
 have bx:=bV h (v:= aC n) (u:=vO) (w:=vR) rfl l1 g4
 have rB:=aJ g1
 obtain⟨L,hL⟩:=exI (dM O R n 0 (aX n))
 obtain⟨E,ll⟩:=dB gc.cY gc.isc
 have r0:=jE gc
 rw[hL] at E ll
 have hG:=gc.cY
 have n7:=gc.n7
 have n0:=gc.n0
 simp(disch:=omega)only[go_sem,mU,aE,bx,hA,e1,rB]
 refine (Wb _ n O R G d (gc.mono f1)).mono ?_
 rw[hL]
 rintro _ h2 ⟨vL,rfl,nw⟩
 obtain⟨wL,W,c8,g0,q8,W1⟩:=nw.ex
 have j7:=aN.length g0
 obtain⟨m,hm⟩:=exI L.length
 rw[hm] at j7
 have f7:=dH.lens c8 j7
 have c9:=c8.sv.cT.2.1
 have f2:=nw.fr
 simp(disch:=omega)only[go_sem,f7]
 refine bA (λhc=>(hc rfl).elim) (λ_=>?_)
 obtain⟨X,hX⟩:=exI h2.next
 simp(disch:=omega)only[go_sem,f7,tY _ m om,hX,NU c8.sv.cT.1 c9,OB c9]
 obtain⟨h3,a1⟩: ∃h3:H,h3=H.mk ((H.mk ((H.mk ((H.mk h2.tr (X+3)).new (Ob.wmap Gn.str [])).tr (X+6)).new (Ob.cells false (rc m λ_=>aC 0))).tr (X+8)).new (Ob.cells false [vL,.mp (X+3),.aD,.sl (X+6) 0 m (.kn m)])).tr (X+10):=⟨_,rfl⟩
 rw[←a1]
 have n3:h3.next=X+10:=by rw[a1]
 have gB:h3.get (X+8)=some (.cells false [vL,.mp (X+3),.aD,.sl (X+6) 0 m (.kn m)]):=by rw[a1];exact H.aL (H.mk _ (X+8)) _
 have gN:h3.get (X+6)=some (.cells false (rc m λ_=>aC 0)):=by
  rw[a1];exact (H.bG (H.mk _ (X+8)) (show X+6≠X+8 by omega) _).trans (H.aL (H.mk _ (X+6)) _)
 have gM:h3.get (X+3)=some (.wmap .str (Jl L 0)):=by
  rw[a1];exact (H.bG (H.mk _ (X+8)) (show X+3≠X+8 by omega) _).trans ((H.bG (H.mk _ (X+6)) (show X+3≠X+6 by omega) _).trans (H.aL (H.mk _ (X+3)) _))
 have f3:Fr h2 h3:=⟨om,λq hq=>by
  rw[a1]
  exact (H.bG (H.mk _ (X+8)) (show q≠X+8 by omega) _).trans ((H.bG (H.mk _ (X+6)) (show q≠X+6 by omega) _).trans (H.bG (H.mk _ (X+3)) (show q≠X+3 by omega) _))⟩
 clear a1
 have a0: ∀i,i<m->(L.getD i []).length<=1000/\ ∀x∈L.getD i [],x<256:=λi hi=>by
  have P:=lE hG E (show i<L.length by omega);exact⟨by rw[P.len];omega,λx hx=>by have:=P.lt x hx;omega⟩
 obtain⟨p0,i8,c5,k0,j3⟩:=SV.shape c8.sv m om om
 have d6: ∀i,i<m-> ∃vx,(∀h',Fr h2 h'->h'.cell p0 (i8+i)=some vx)/\SI h2 vx (zi (L.getD i [])):=λi hi=>by
  obtain⟨v,d,b8⟩:=dZ.at g0 (i:=i) om;exact⟨v,λh' f=>by rw[f.cell (k0 om),j3 i om,d],b8.si⟩
 have hK: ∀i,i<m->isKey .str (.str (L.getD i []))=true:=λi hi=>zJ (a0 i hi).1 (a0 i hi).2
 refine bQ (λvs B=>(∃g:Nat->V,vs= [g 0,.ptr A 0,.nilp,aC 0,vL,g 5,.ptr (X+8) 0,g 7,g 8,g 9,g 10,g 11,g 12,g 13,g 14,g 15,g 16,g 17,g 18,g 19,g 20,g 21,g 22,g 23,g 24,g 25,g 26,g 27,g 28,g 29,g 30,g 31,g 32,g 33,g 34,g 35,g 36,g 37,g 38,g 39,g 40,g 41,g 42,g 43,g 44,g 45])/\B.get (X+3)=some (.wmap .str (Jl L m))/\Fx (· =X+3) h3 B) ?_ ?_
 ·refine aI (λk' vs B=> ∃(i:Nat),(∃g:Nat->V,vs= [g 0,.ptr A 0,.nilp,aC 0,vL,g 5,.ptr (X+8) 0,g 7,g 8,g 9,g 10,g 11,g 12,g 13,g 14,g 15,g 16,g 17,g 18,g 19,g 20,g 21,g 22,vL,aC m,aC i,g 26,g 27,g 28,g 29,g 30,g 31,g 32,g 33,g 34,g 35,g 36,g 37,g 38,g 39,g 40,g 41,g 42,g 43,g 44,g 45])/\i<=m/\B.get (X+3)=some (.wmap .str (Jl L i))/\Fx (· =X+3) h3 B/\k'=m-i) m
   ⟨0,aB rfl,iB _,gM,Fx.refl _ h3,rfl⟩ ?_
  rintro k' F h4 ⟨i,⟨g,rfl⟩,hi,a6,F4,rfl⟩
  by_cases b0:(i:Int)<(m:Int)
  case neg=>
   have d4:=bI b0;obtain rfl:i=m:=om
   simp(disch:=omega)only[go_sem,d4];exact⟨aB rfl,a6,F4⟩
  have d4:=cI b0
  have a2:i<m:=om
  have b2:Fr h2 h4:=⟨by have:=F4.next;omega,λq hq=>by rw[F4.get q om om];exact f3.get q hq⟩
  have c3:h4.get (X+8)=some (.cells false [vL,.mp (X+3),.aD,.sl (X+6) 0 m (.kn m)]):=by rw[F4.get _ om om];exact gB
  obtain⟨vx,cx,sx⟩:=d6 i a2
  have c4:h4.cell (X+8) 1=some (.mp (X+3)):=by rw[H.aF c3];rfl
  simp(disch:=omega)only[go_sem,d4,c5.ixa,cx h4 b2,c4]
  refine (IQ vx (L.getD i []) _ (a0 i a2).1 (a0 i a2).2 (sx.mono (b2.trans ((Fr.refl h4).bH om)))).mono ?_
  rintro _ h5 ⟨rfl,f5⟩
  have c7:Fr h4 h5:=((Fr.refl h4).bH om).trans f5
  have n4:=F4.next
  have l6:h5.get (X+3)=some (.wmap .str (Jl L i)):=by rw[c7.get _ om];exact a6
  have p3:h5.cell (X+8) 1=some (.mp (X+3)):=by rw[c7.cell om];exact c4
  have pt:=λB=>AJ E.nodup (show i<L.length by omega) (hK i a2) B (X+3)
  simp(disch:=omega)only[go_sem,p3,l6,pt]
  rw[fJ i]
  refine⟨by simp [dI],m-(i+1),om,i+1,aB rfl,om,rfl,⟨by have:=c7.next;show h3.next<=h5.next;omega,λq d h2=>by rw[H.aH _ (λe=>h2 e),c7.get q om];exact F4.get q d h2⟩,rfl⟩
 rintro F h4 ⟨⟨g,rfl⟩,a6,F4⟩
 have n4:=F4.next
 have b2:Fr h2 h4:=⟨om,λq hq=>by rw[F4.get q om om];exact f3.get q hq⟩
 have c3:h4.get (X+8)=some (.cells false [vL,.mp (X+3),.aD,.sl (X+6) 0 m (.kn m)]):=by rw[F4.get _ om om];exact gB
 have l2:h4.get (X+6)=some (.cells false (rc m λ_=>aC 0)):=by rw[F4.get _ om om];exact gN
 have j6:=f2.trans b2
 have rA:=aJ (h:=h4) (id:=A) (ro:=false) (by rw[j6.get _ om];exact g1)
 simp(disch:=omega)only[go_sem,rA]
 refine (Sd _ n O R G h4 (gc.mono (f1.trans j6))).mono ?_
 rintro _ h5 ⟨vS,rfl,nS⟩
 have f5:=nS.fr
 obtain⟨D,hD⟩:=exI h5.next
 obtain⟨h6,e6,n6,g6,o6,f6⟩:=dK hD (rc m λ_=>V.bool false)
 simp(disch:=omega)only[go_sem,f7,Tv,hD,e6]
 have d9:=b2.trans f5
 have q3:=d9.next
 have n5:=f5.next
 obtain⟨wS,WS,d7,f0,q6,l7⟩:=nS.ex
 obtain⟨S,hS⟩:=exI (cE R)
 rw[hS] at f0
 have m2:=aN.length f0
 have a4: ∀s∈S,G s:=λs hs=>bE gc.isc (by rw[hS];exact hs)
 have b1: ∀x,G x->bM n (λg=>g∈S) x:=λx hx=>by rw[←hS];exact oG hG gc.isc hx
 obtain⟨sl,d2⟩:=exI S.length
 have q2:sl<=49:=by
  have d: ∀j,j<R.length->(R.getD j []).length<=n:=λj U=>by
   have c1:j<n:=by rw[←gc.isc.lr];exact U
   rw[gc.isc.rl j c1];have:=tK (λx hx=>hG.bF hx) c1 (gc.isc.asc j c1) (gc.isc.mem j c1);omega
  have h2:=uG (n:=n) (R:=R) (fN _) d;rw[List.take_length,hS,d2,gc.isc.lr] at h2;have:n*n<=7*7:=Nat.mul_le_mul n7 n7;omega
 have o4:=dH.lens d7 (m2.trans d2)
 obtain⟨a8,i2,i5,j5,m4⟩:=SV.shape d7.sv sl om om
 have l4:=dH.ge d7 (n:=sl) om om i5
 have p8: ∀t,t<sl-> ∃vy,(∀B,Fx (λq=>q=X+8∨D<=q) h5 B->B.cell a8 (i2+t)=some vy)/\PV (λq=>q=X+8∨D<=q) h5 vy (S.getD t []):=λt ht=>by
  obtain⟨v,d,b8⟩:=dZ.at f0 (i:=t) om;have hi:=j5 om;have r5:h4.next<=a8:=l4 om;refine⟨v,λB f=>?_,b8.kO λid r4 hw=>l7 id ?_⟩
  ·have e:B.get a8=h5.get a8:=f.get a8 hi om
   unfold H.cell;rw[e];have:=m4 t om;rw[d] at this;exact this
  ·rcases hw with e|e
   ·omega
   ·omega
 have J0:OfJ n G L X D vL h5 0 h6:=
  ⟨⟨.aD, [],λq=>q=D∨q=X+8∨q=X+6,by rw[f6.get _ om,f5.get _ om,hm];exact c3,dH.aD _ _ _,trivial,λ_ _ _ _ e=>(by cases e),.inl rfl,.inr (.inl rfl),.inr (.inr rfl),λq h=>by rcases h with h|h|h<;>omega,λq h=>by rcases h with h|h|h<;>omega,.inl rfl⟩,
   by rw[g6,hm,show (λj=>V.bool (Jh G L 0 [] j))=λ_=>V.bool false from funext λj=>by rw[QX]],Fx.of f6,om⟩
 refine bQ (λvs B=>(∃g:Nat->V,vs= [g 0,.ptr A 0,.nilp,aC 0,vL,g 5,.ptr (X+8) 0,g 7,g 8,g 9,g 10,g 11,g 12,g 13,g 14,g 15,g 16,g 17,g 18,g 19,g 20,g 21,g 22,g 23,g 24,g 25,g 26,g 27,g 28,g 29,g 30,g 31,g 32,g 33,g 34,g 35,g 36,g 37,g 38,g 39,g 40,g 41,g 42,g 43,g 44,g 45])/\OfJ n G L X D vL h5 m B) ?_ ?_
 ·refine aI (λk' vs B=> ∃(i:Nat),(∃g:Nat->V,vs= [g 0,.ptr A 0,.nilp,aC 0,vL,g 5,.ptr (X+8) 0,g 7,g 8,vS,.sl D 0 m (.kn m),g 11,g 12,g 13,g 14,g 15,g 16,g 17,g 18,g 19,g 20,g 21,g 22,g 23,g 24,g 25,g 26,vL,aC m,aC i,g 30,g 31,g 32,g 33,g 34,g 35,g 36,g 37,g 38,g 39,g 40,g 41,g 42,g 43,g 44,g 45])/\i<=m/\OfJ n G L X D vL h5 i B/\k'=m-i) m
   ⟨0,aB rfl,iB _,J0,rfl⟩ ?_
  clear J0
  rintro k' F h7 ⟨i,⟨g,rfl⟩,hi,J,rfl⟩
  by_cases b0:(i:Int)<(m:Int)
  case neg=>
   have d4:=bI b0;obtain rfl:i=m:=om
   simp(disch:=omega)only[go_sem,d4];exact⟨aB rfl,J⟩
  have d4:=cI b0
  have a2:i<m:=om
  have nD:=J.nx
  have a9:Fr h2 h7:=⟨om,λq hq=>by rw[J.old.get q om om];exact d9.get q hq⟩
  obtain⟨vx,cx,sx⟩:=d6 i a2
  have cD:=tF J.gD (i:=i) om
  by_cases hr:GU G L i
  case neg=>
   have e0:Jh G L i [] i=true:=by
    rw[nV];exact .inl (Jj λhn=>hr λj U hc=>hn ⟨j,U,hc⟩)
   rw[e0] at cD;simp(disch:=omega)only[go_sem,d4,c5.ixa,cx h7 a9,cD];rw[fJ i];refine⟨m-(i+1),om,i+1,aB rfl,om,?_,rfl⟩;refine⟨?_,?_,J.old,J.nx⟩
   ·rw[(Ny i).2 hr];exact J.ex
   ·rw[J.gD,dJ λj _=>by rw[TA hG E (show i<L.length by omega) hr j]]
  have e0:Jh G L i [] i=false:=by
   rw[←Bool.not_eq_true,nV];rintro (⟨j,U,hc⟩|h)
   ·exact hr j U hc
   ·cases h
  rw[e0] at cD
  obtain⟨h8,e8,n8,g8,o8⟩:=mV h7 D ((rc L.length λj=> .bool (Jh G L i [] j)).set i (.bool true))
  obtain⟨Z,hZ⟩:=exI h8.next
  obtain⟨h9,e9,n9,g9,o9,f9⟩:=dK hZ [aC i]
  have pt:=bT (vs:=rc L.length λj=> .bool (Jh G L i [] j)) (off:=i) (by rw[iQ];omega)
  clear bx gc sO sR rB rA j3 l2 c3 g1 o1 f1 f3 gB gN gM
  simp(disch:=omega)only[go_sem,d4,c5.ixa,cx h7 a9,cD,J.gD,pt,e8,cK h8 (z:= aC 0) (v:= aC i) rfl rfl,hZ,e9]
  have r1:h7.next=Z:=om
  have b4:(rc L.length λj=>V.bool (Jh G L i [] j)).set i (.bool true)=rc L.length λj=> .bool (Jh G L i [i] j):=by
   rw[lH]
   exact dJ λj _=>by
    rw[show [i]= []++ [i] from rfl,Za]
    by_cases e:j=i
    ·rw[bJ e,bJ e]
    ·rw[bU e,bU e]
  have f4:Fx (· =D) h7 h9:=⟨om,λq d h2=>by rw[o9 q om,o8 q h2]⟩
  have B0:BQ G L S i [i] 0:=⟨by simp,by simp,rfl,λj U=>by
   obtain rfl:j=i:=by simpa using U
   exact⟨om,Ux hG E om⟩,λk hk=>om⟩
  refine bQ (λvs B=> ∃(Q:List Nat) (q:Nat) (o:pY),(∃g:Nat->V,vs= [g 0,.ptr A 0,.nilp,aC 0,vL,g 5,.ptr (X+8) 0,g 7,g 8,vS,.sl D 0 m (.kn m),aC i,vx,.sl q 0 Q.length o,g 14,g 15,g 16,g 17,g 18,g 19,g 20,g 21,g 22,g 23,g 24,g 25,g 26,vL,aC m,aC i,g 30,g 31,g 32,g 33,g 34,g 35,g 36,g 37,g 38,g 39,g 40,g 41,g 42,g 43,g 44,g 45])/\
    BQ G L S i Q Q.length/\(o= .un 1∨o= .kn Q.length)/\B.get q=some (.cells false (ints (zi Q)))/\Z<=q/\q<B.next/\B.get D=some (.cells false (rc L.length λj=> .bool (Jh G L i Q j)))/\Fx (· =D) h7 B) ?_ ?_
  ·refine aI (λk' vs B=> ∃(Q:List Nat) (q:Nat) (o:pY) (p:Nat),(∃g:Nat->V,vs= [g 0,.ptr A 0,.nilp,aC 0,vL,g 5,.ptr (X+8) 0,g 7,g 8,vS,.sl D 0 m (.kn m),aC i,vx,.sl q 0 Q.length o,aC p,g 15,g 16,g 17,g 18,g 19,g 20,g 21,g 22,g 23,g 24,g 25,g 26,vL,aC m,aC i,g 30,g 31,g 32,g 33,g 34,g 35,g 36,g 37,g 38,g 39,g 40,g 41,g 42,g 43,g 44,g 45])/\
    p<=Q.length/\BQ G L S i Q p/\(o= .un 1∨o= .kn Q.length)/\B.get q=some (.cells false (ints (zi Q)))/\Z<=q/\q<B.next/\B.get D=some (.cells false (rc L.length λj=> .bool (Jh G L i Q j)))/\Fx (· =D) h7 B/\k'=m-p) m
    ⟨[i],Z,_,0,aB rfl,iB _,B0,.inr rfl,g9,fN _,om,by rw[o9 _ om,g8,b4],f4,rfl⟩ ?_
   clear f4 B0 e8 n8 g8 o8 hZ e9 n9 g9 o9 f9 pt b4
   rintro k' F ha ⟨Q,q,o,p,⟨g2,rfl⟩,hp,l,K,gq,hq,nq,gD,Fa,rfl⟩
   have a5:=l.len
   by_cases c2:(p:Int)<(Q.length:Int)
   case neg=>
    have d5:=bI c2;obtain rfl:p=Q.length:=om
    simp(disch:=omega)only[go_sem,d5];exact⟨Q,q,o,aB rfl,l,K,gq,hq,nq,gD,Fa⟩
   have d5:=cI c2
   have N:p<Q.length:=om
   simp(disch:=omega)only[go_sem,d5,o4]
   obtain⟨c,hc⟩:=exI (Q.getD p 0)
   obtain⟨i3,m3⟩:=l.mem c (by rw[←hc];exact bC N)
   have Cp:=lE hG E i3
   refine uJ (λvs B=> ∃(Q:List Nat) (q:Nat) (o:pY),(∃g:Nat->V,vs= [g 0,.ptr A 0,.nilp,aC 0,vL,g 5,.ptr (X+8) 0,g 7,g 8,vS,.sl D 0 m (.kn m),aC i,vx,.sl q 0 Q.length o,aC p,g 15,g 16,g 17,g 18,g 19,g 20,g 21,g 22,g 23,g 24,g 25,g 26,vL,aC m,aC i,g 30,g 31,g 32,g 33,g 34,g 35,g 36,g 37,g 38,g 39,g 40,g 41,g 42,g 43,g 44,g 45])/\
     p<Q.length/\BQ G L S i Q (p+1)/\(o= .un 1∨o= .kn Q.length)/\B.get q=some (.cells false (ints (zi Q)))/\Z<=q/\q<B.next/\B.get D=some (.cells false (rc L.length λj=> .bool (Jh G L i Q j)))/\Fx (· =D) h7 B) ?_ ?_
   ·refine aI (λk' vs B=> ∃(Q:List Nat) (q:Nat) (o:pY) (t:Nat),(∃g:Nat->V,vs= [g 0,.ptr A 0,.nilp,aC 0,vL,g 5,.ptr (X+8) 0,g 7,g 8,vS,.sl D 0 m (.kn m),aC i,vx,.sl q 0 Q.length o,aC p,g 15,g 16,g 17,g 18,g 19,g 20,g 21,g 22,g 23,g 24,g 25,g 26,vL,aC m,aC i,g 30,g 31,g 32,vS,aC sl,aC t,g 36,g 37,g 38,g 39,g 40,g 41,g 42,g 43,g 44,g 45])/\
     p<Q.length/\t<=sl/\BQ G L S i Q p/\Q.getD p 0=c/\(∀s∈S.take t,∃j∈Q,L.getD j []=aT (L.getD c []) s)/\(o= .un 1∨o= .kn Q.length)/\B.get q=some (.cells false (ints (zi Q)))/\Z<=q/\q<B.next/\B.get D=some (.cells false (rc L.length λj=> .bool (Jh G L i Q j)))/\Fx (· =D) h7 B/\k'=sl-t) sl
     ⟨Q,q,o,0,aB rfl,N,iB _,l,hc,λs hs=>(by simp at hs),K,gq,hq,nq,gD,Fa,rfl⟩ ?_
    clear l K gq hq nq gD Fa hc N a5 c2 d5 hp
    clear Q q o
    rintro k' F hb ⟨Q,q,o,t,⟨g3,rfl⟩,N,ht,l,hc,d8,K,gq,hq,nq,gD,Fb,rfl⟩
    by_cases j8:(t:Int)<(sl:Int)
    case neg=>
     have d5:=bI j8;obtain rfl:t=sl:=om
     simp(disch:=omega)only[go_sem,d5];refine⟨Q,q,o,aB rfl,N,⟨l.nd,l.ne,l.hd,l.mem,λk hk s hs=>?_⟩,K,gq,hq,nq,gD,Fb⟩
     by_cases e:k=p
     ·subst e
      rw[hc];exact d8 s (by rw[←d2,List.take_length];exact hs)
     ·exact l.cl k om s hs
    have d5:=cI j8
    have p5:t<sl:=om
    have a5:=l.len
    have nb:=Fb.next
    have d1:Fx (λq=>q=X+8∨D<=q) h5 hb:=⟨by have:=J.old.next;omega,λq d h2=>by rw[Fb.get q om (λe=>h2 (.inr (by have:q=D:=e;omega)))];exact J.old.get q d h2⟩
    have c6:Fr h2 hb:=⟨om,λq hq=>by rw[Fb.get q om (λe=>by have:q=D:=e;omega)];exact a9.get q hq⟩
    obtain⟨vy,cy,py⟩:=p8 t p5
    obtain⟨vz,cz,sz⟩:=d6 c om
    obtain⟨s,hs⟩:=exI (S.getD t [])
    rw[hs] at py
    have b9:s∈S:=by rw[←hs];exact bC om
    have Sp:=hG.bF (a4 s b9)
    have cq:hb.cell q p=some (aC c):=by rw[H.aF gq,Ff N,hc]
    simp(disch:=omega)only[go_sem,d5,i5.ixa,cy hb d1,cq,c5.ixa,cz hb c6]
    refine (Df vP.ok vy n s _ om Sp ((py.fx d1).si.mono ((Fr.refl hb).bH om))).mono ?_
    rintro l5 k1 i9
    have K1:Fr hb k1:=((Fr.refl hb).bH om).trans i9.fr
    have m9:k1.cell q p=some (aC c):=by rw[K1.cell nq];exact cq
    have ez:=sz.dI
    simp(disch:=omega)only[go_sem,m9,cz k1 (c6.trans K1),ez]
    refine (AU l5 vz (bZ s) (L.getD c []) k1 (by rw[jU,Sp.len];omega) (i9.pv (W:=λ_=>False) id).si (sz.mono (c6.trans K1)) (λj U=>by rw[Cp.len];exact Sp.inv.fX (by rw[←Sp.inv.len];exact U))).mono ?_
    rintro q0 k2 j0
    have K2:=K1.trans j0.fr
    have P2:=Sp.inv.mul Cp
    simp(disch:=omega)only[go_sem]
    refine (AU q0 vy _ s k2 (by rw[P2.len];omega) (j0.pv (W:=λ_=>False) id).si ((py.fx d1).si.mono K2) (λj U=>by rw[Sp.len];exact P2.fX (by rw[←P2.len];exact U))).mono ?_
    rintro m0 k3 j2
    have K3:=K2.trans j2.fr
    have P3:=P2.mul Sp
    have o3:k3.cell q p=some (aC c):=by rw[K3.cell nq];exact cq
    have d3:=(j2.pv (W:=λ_=>False) id).si
    have q4:=d3.cT.2.1
    have e3: ∃vK,k3.get (X+8)=some (.cells false [vL,.mp (X+3),vK,.sl (X+6) 0 L.length (.kn L.length)]):=by
     obtain⟨vK,_,_,gB,_⟩:=J.ex;exact⟨vK,by rw[K3.get _ om,Fb.get _ om (λe=>by have:X+8=D:=e;omega)];exact gB⟩
    obtain⟨vK,e3⟩:=e3
    have l3:k3.cell (X+8) 1=some (.mp (X+3)):=by rw[H.aF e3];rfl
    obtain⟨j,U,ej⟩: ∃j,j<L.length/\L.getD j []=aT (L.getD c []) s:=by
     have p1:aT (L.getD c []) s∈L:=(E.mem _).2 (hG.mul (hG.mul (hG.inv (a4 s b9)) (pD E i3)) (a4 s b9));obtain⟨j,U,ej⟩:=Ad.1 p1;exact⟨j,U,by rw[List.getD,dD U,←ej];rfl⟩
    have p2:aM (aM (bZ s) (L.getD c [])) s=L.getD j []:=ej.symm
    rw[p2] at d3
    simp(disch:=omega)only[go_sem,o3,cz k3 (c6.trans K3),l3,ez]
    refine (IQ m0 (L.getD j []) _ (a0 j om).1 (a0 j om).2 (d3.mono ((Fr.refl k3).bH om))).mono ?_
    rintro _ k4 ⟨rfl,o2⟩
    have i4:Fr k3 k4:=((Fr.refl k3).bH om).trans o2
    have K4:=K3.trans i4
    have r2:=K3.next
    have d0:k4.get (X+3)=some (.wmap .str (Jl L L.length)):=by
     rw[K4.get _ om,Fb.get _ om (λe=>by have:X+3=D:=e;omega),J.old.get _ om om,f5.get _ om,hm];exact a6
    have j9:k4.cell (X+8) 1=some (.mp (X+3)):=by rw[i4.cell om];exact l3
    have lk:=λz=>Pl E.nodup U (hK j om) z
    have c0:k4.cell D j=some (.bool (Jh G L i Q j)):=by rw[K4.cell om];exact tF gD U
    have l0:cR G L i j:=yD hG E om m3 ⟨s,a4 s b9,ej.symm⟩
    have f8:S.take (t+1)=S.take t++ [s]:=by rw[eY [] om,hs]
    have h0:k4.get q=some (.cells false (ints (zi Q))):=by rw[K4.get _ nq];exact gq
    have j1:k4.get D=some (.cells false (rc L.length λj=> .bool (Jh G L i Q j))):=by rw[K4.get _ om];exact gD
    have i6:Fx (· =D) h7 k4:=⟨by have:=K4.next;omega,λq d h2=>by rw[K4.get q om];exact Fb.get q d h2⟩
    cases hsn2:Jh G L i Q j with
    |true=>
     rw[hsn2] at c0
     have e7:j∈Q:=by
      rcases nV.1 hsn2 with ⟨i0,d,b8⟩|d
      ·exact absurd (yD hG E om b8 (Mt hG E om l0)) (hr i0 d)
      ·exact d
     simp(disch:=omega)only[go_sem,j9,d0,lk,c0];rw[fJ t];refine⟨by simp [dI],sl-(t+1),om,Q,q,o,t+1,aB rfl,N,om,l,hc,?_,K,h0,hq,by have:=K4.next;omega,j1,i6,rfl⟩;rw[f8];intro s' b6;rcases oD.1 b6 with d|d
     ·exact d8 s' d
     ·obtain rfl:s'=s:=by simpa using d
      exact⟨j,e7,ej⟩
    |false=>
     rw[hsn2] at c0;have e7:j∉Q:=λd=>by rw[nV.2 (.inr d)] at hsn2;cases hsn2
     obtain⟨k5,e5,m5,g5,o5⟩:=mV k4 D ((rc L.length λj=> .bool (Jh G L i Q j)).set j (.bool true));obtain⟨Y,hY⟩:=exI k5.next;obtain⟨k6,p6,m6,p9,e4,q7⟩:=dK hY [aC j];have pt:=bT (vs:=rc L.length λj=> .bool (Jh G L i Q j)) (off:=j) (by rw[iQ];exact U);have nk:=K4.next;have m8:k6.get q=some (.cells false (ints (zi Q))):=by rw[e4 _ om,o5 _ om];exact h0
     have o0:dH k6 (.sl q 0 Q.length o) 1 (ints (zi Q)) 0:= .inr ⟨q,Q.length,o, [],rfl,by rw[aP,aS];simp,by rcases K with d|d;exact .inl d;exact .inr ⟨d,rfl⟩,iB _,om,by rw[tZ];exact m8⟩;obtain⟨k7,a7,p7⟩:=o0.push (bytes:=8) (SV.one (v:= aC j) (id:=Y) om p9 (.kn 1)) (n:=Q.length) (m:=1) (by rw[aP,aS];simp) rfl om om om;simp(disch:=omega)only[go_sem,j9,d0,lk,c0,j1,pt,e5,cK k5 (z:= aC 0) (v:= aC j) rfl rfl,hY,p6,a7];rw[fJ t];have el:ints (zi (Q++ [j]))=ints (zi Q)++ [aC j]:=by simp [zi,ints]
     have m7:=p7.next;have o7:dR (.sl q 0 Q.length o) D:=λid off n c e e2=>by cases e;omega
     have b4:(rc L.length λj'=>V.bool (Jh G L i Q j')).set j (.bool true)=rc L.length λj'=> .bool (Jh G L i (Q++ [j]) j'):=by
      rw[lH]
      exact dJ λj' _=>by
       rw[Za]
       by_cases e:j'=j
       ·rw[bJ e,bJ e]
       ·rw[bU e,bU e]
     refine⟨by simp [dI],sl-(t+1),om,Q++ [j],k6.next,.un 1,t+1,by rw[iV];exact aB rfl,by rw[iV];omega,om,⟨?_,by rw[iV];simp,?_,?_,?_⟩,?_,?_,.inl rfl,by rw[el];exact p7.get,om,om,?_,?_,rfl⟩
     ·rw[List.nodup_append]
      exact⟨l.nd,by simp,λx hx y hy e=>by
       obtain rfl:y=j:=by simpa using hy
       exact e7 (e▸hx)⟩
     ·rw[List.getD,Dt l.ne];exact l.hd
     ·intro x hx
      rcases oD.1 hx with d|d
      ·exact l.mem x d
      ·obtain rfl:x=j:=by simpa using d
       exact⟨U,l0⟩
     ·intro k hk s' b6
      obtain⟨y,hy,ey⟩:=l.cl k hk s' b6;refine⟨y,oD.2 (.inl hy),?_⟩;rw[ey,List.getD,List.getD,List.getD,List.getD,Dt om]
     ·rw[List.getD,Dt N];exact hc
     ·rw[f8]
      intro s' b6;rcases oD.1 b6 with d|d
      ·obtain⟨y,hy,ey⟩:=d8 s' d
       exact⟨y,oD.2 (.inl hy),ey⟩
      ·obtain rfl:s'=s:=by simpa using d
       exact⟨j,oD.2 (.inr (by simp)),ej⟩
     ·rw[p7.old D om o7,e4 D om,g5,b4]
     ·refine⟨om,λx d h2=>?_⟩
      rw[p7.old x om (λid off n c e e2=>by cases e;omega),e4 x om,o5 x h2];exact i6.get x d h2
   clear l K gq hq nq gD Fa hc c2 d5 hp N a5
   clear Q q o
   rintro F hb ⟨Q,q,o,⟨g3,rfl⟩,N,a3,K,gq,hq,nq,gD,Fb⟩
   have a5:=a3.len
   simp(disch:=omega)only[go_sem]
   rw[fJ p]
   exact⟨m-(p+1),om,Q,q,o,p+1,aB rfl,om,a3,K,gq,hq,nq,gD,Fb,rfl⟩
  clear f4 B0 e8 n8 g8 o8 hZ e9 n9 g9 o9 f9 pt b4
  rintro F hb ⟨Q,q,o,⟨g3,rfl⟩,a3,K,gq,hq,nq,gD,Fb⟩
  have a5:=a3.len
  have nb:=Fb.next
  have i7:=Mw hb q (zi Q) o (by rw[aS];omega) gq nq
  rw[aS] at i7
  simp(disch:=omega)only[go_sem]
  refine i7.mono ?_
  rintro _ ka ⟨l',gl,pl,al,Fa⟩
  obtain rfl:=a3.sort hG E (fN _) om a4 b1 pl al
  have g7:Q.length=(kU G L i).length:=by have:=pl.length_eq;rw[aS,aS] at this;exact this.symm
  have na:=Fa.next
  have q1:Fr h2 ka:=⟨om,λx hx=>by rw[Fa.get x om (λe=>by have:x=q:=e;omega),Fb.get x om (λe=>by have:x=D:=e;omega)];exact a9.get x hx⟩
  have X1:=lE hG E (show i<L.length by omega)
  simp(disch:=omega)only[go_sem]
  refine (XM vx n (L.getD i []) ka n0 n7 X1 (sx.mono q1)).mono ?_
  rintro _ kb ⟨rfl,fb⟩
  have q5:=fb.next
  obtain⟨vK,ks,WK,gB,b3,aK,bK,wD,wB,wN,wn,wX,_⟩:=J.ex
  have r3:=aN.length aK
  have k9:kb.get (X+8)=some (.cells false [vL,.mp (X+3),vK,.sl (X+6) 0 L.length (.kn L.length)]):=by
   rw[fb.get _ om,Fa.get _ om (λe=>by have:X+8=q:=e;omega),Fb.get _ om (λe=>by have:X+8=D:=e;omega)];exact gB
  have c4:kb.cell (X+8) 2=some vK:=by rw[H.aF k9];rfl
  have b7:=sx.cT.2.1
  have r6:=b3.sv.dI
  obtain⟨Y,hY⟩:=exI kb.next
  obtain⟨kc,ec,mc,l8,oc,fc⟩:=dK hY [vx,aC (oJ (L.getD i []) n:Nat),aC (Q.length:Int),.sl q 0 Q.length o]
  have b5: ∀x,x<Z->x≠D->kc.get x=h7.get x:=λx d h2=>by
   rw[oc x om,fb.get x om,Fa.get x om (λe=>by have:x=q:=e;omega),Fb.get x om h2]
  have i1:dH kc vK 4 (Cls.rJ ks) (D+1):=b3.mono om λid off n' c e d h2=>b5 id om om
  have lr:=Dk (G:=G) (L:=L) i
  obtain⟨kd,ad,pd⟩:=i1.push (bytes:=64) (y:= .sl Y 0 1 (.kn 1)) (us:= [vx,aC (oJ (L.getD i []) n:Nat),aC (Q.length:Int),.sl q 0 Q.length o]) (SV.all rfl om l8 _) (n:=ks.length) (m:=1) (Sv ks) rfl om om om
  have md:=pd.next
  have l9:dR vK (X+8):=λid off n' c e e2=>by have:=(b3.in _ _ _ _ e).2.1;omega
  have n2:kd.get (X+8)=some (.cells false [vL,.mp (X+3),vK,.sl (X+6) 0 L.length (.kn L.length)]):=by
   rw[pd.old _ om l9,oc _ om];exact k9
  obtain⟨ke,ee,me,ge,oe⟩:=mV kd (X+8) [vL,.mp (X+3),.sl kc.next 0 (ks.length+1) (.un 4),.sl (X+6) 0 L.length (.kn L.length)]
  simp(disch:=omega)only[go_sem,c4,MF sx.cT.1 b7,MB b7 (w:= .sl q 0 Q.length o) rfl rfl,LR b7 (w:= .sl q 0 Q.length o) rfl,hY,ec,ad,n2,NJ,ee]
  rw[fJ i]
  have k8: ∀x,x<Z-> ¬WK x->ke.get x=h7.get x:=λx d h2=>by
   rw[oe x (λe=>h2 (e▸wB)),pd.old x om (λid off n' c e e2=>h2 (e2▸bK _ _ _ _ e)),b5 x d (λe=>h2 (e▸wD))]
  have FK:Fx WK h7 ke:=⟨om,λx d h2=>k8 x om h2⟩
  have p4:Fr h2 ke:=⟨om,λx hx=>by rw[k8 x om (λd=>by have:=wX x d;omega)];exact a9.get x hx⟩
  have j4:Cls.rJ (ks++ [⟨vx,oJ (L.getD i []) n,Q.length,.sl q 0 Q.length o,i,⟨sx.cT.1,b7,sx.dI⟩,⟨rfl,rfl,by simp [dI]⟩⟩])=Cls.rJ ks++ [vx,aC (oJ (L.getD i []) n:Nat),aC (Q.length:Int),.sl q 0 Q.length o]:=by
   simp [Cls.rJ,Cls.KE.enc]
  refine⟨m-(i+1),om,i+1,aB rfl,om,⟨⟨_,ks++ [⟨vx,oJ (L.getD i []) n,Q.length,.sl q 0 Q.length o,i,⟨sx.cT.1,b7,sx.dI⟩,⟨rfl,rfl,by simp [dI]⟩⟩],λx=>WK x∨x=kc.next,ge,?_,?_,λid off n' c e=>by cases e;exact .inr rfl,   .inl wD,.inl wB,.inl wN,λx h=>by rcases h with h|h;have:=wn x h;omega;omega,λx h=>by rcases h with h|h;exact wX x h;omega,.inr ⟨_,_,by rw[iV];rfl,?_⟩⟩,?_,?_,om⟩,rfl⟩
  ·rw[j4]
   exact (pd.own (b:=D+1) (Sv ks) rfl om).mono om λid off n' c e d h2=>by cases e;exact oe _ om
  ·rw[(Ny i).1 hr]
   refine aN.append (aK.mono λa r k=>k.go FK om wX λx d h2=>by rcases h2 with h2|h2;exact h2;omega) ⟨⟨rfl,rfl,g7,⟨sx.mono p4,?_⟩,⟨?_,?_⟩⟩,trivial⟩
   ·rw[←hX];exact afJ sx
   ·rw[g7]
    refine SV.all (ro:=false) (by rw[aP,aS,tW]) om ?_ _
    rw[oe q om,pd.old q om (λid off n' c e e2=>by have:=wn _ (bK _ _ _ _ e);omega),oc q om,fb.get q om]
    exact gl
   ·exact λh=>by rcases h with h|h;have:=wn _ h;omega;omega
  ·rw[j4,oe _ om];exact pd.get
  ·rw[oe D om,pd.old D om (λid off n' c e e2=>by have:=(b3.in _ _ _ _ e).2.1;omega),oc D om,fb.get D om,Fa.get D om (λe=>by have:D=q:=e;omega),gD,dJ λj U=>by rw[UA hG E (show i<L.length by omega) a3 a4 b1 U]]
  ·refine⟨by have:=J.old.next;omega,λx d h2=>?_⟩
   have m1:x≠X+8:=λe=>h2 (.inl e)
   have q9:x<D:=om
   rw[oe x m1,pd.old x om (λid off n' c e e2=>by have:=(b3.in _ _ _ _ e).2.1;omega),b5 x om om]
   exact J.old.get x d h2
 rintro F h7 ⟨⟨g,rfl⟩,J⟩
 exact hk L X D vL h2 h5 h7 A g hL ⟨E,om,f1.trans f2,hX,nw.sp,d9,om,hD,by rw[f5.get _ om,hm];exact a6,by rw[f5.get _ om,hm];exact l2,by rw[hm];exact J⟩
end
open Classical in
noncomputable def NK (G:List Nat->Prop)(L:LN)(K:List Nat)(j:Nat):Nat:=K.findIdx λr=>decide (cR G L r j)
structure KR (n:Nat)(G:List Nat->Prop)(L:LN)(hh:H)(a:Cls.KE)(r:Nat):Prop where
 fst:a.fst=r
 ord:a.ord=oJ (L.getD r []) n
 size:a.size=(kU G L r).length
 rep:SI hh a.rep (zi (L.getD r []))
 ranks:SI hh a.ranks (zi (kU G L r))
theorem KR.mono {n:Nat}{G:List Nat->Prop}{L:LN}{h h':H}{a:Cls.KE}{r:Nat}(k:KR n G L h a r)(f:Fr h h'):KR n G L h' a r:=⟨k.fst,k.ord,k.size,k.rep.mono f,k.ranks.mono f⟩
def kLt (n:Nat)(G:List Nat->Prop)(L:LN)(r s:Nat):Prop:=oJ (L.getD r []) n<oJ (L.getD s []) n∨oJ (L.getD r []) n=oJ (L.getD s []) n/\((kU G L r).length<(kU G L s).length∨(kU G L r).length=(kU G L s).length/\r<s)
structure Ab (n:Nat)(G:List Nat->Prop)(L:LN)(K:List Nat):Prop where
 perm:K.Perm (kC G L L.length)
 asc:K.Pairwise (kLt n G L)
structure abG (n:Nat)(G:List Nat->Prop)(L:LN)(K:List Nat)(hh:H)(v:V):Prop where
 ex: ∃B M N S cp vL ks,v= .ptr B 0/\B<hh.next/\M<hh.next/\N<hh.next/\S<hh.next/\hh.get B=some (.cells false [vL,.mp M,.sl S 0 K.length cp,.sl N 0 L.length (.kn L.length)])/\
  hh.get M=some (.wmap .str (Jl L L.length))/\hh.get N=some (.cells false (rc L.length λj=> aC (NK G L K j:Nat)))/\hh.get S=some (.cells false (Cls.rJ ks))/\aN (KR n G L hh) ks K/\SP hh vL L
theorem abG.mono {n:Nat}{G:List Nat->Prop}{L:LN}{K:List Nat}{h h':H}{v:V}(g:abG n G L K h v)(f:Fr h h'):abG n G L K h' v:=by
 obtain⟨B,M,N,S,m,c,p,e,r,o,i,b,j,d,q,l,a,sp⟩:=g.ex;have s:=f.next;exact⟨B,M,N,S,m,c,p,e,om,om,om,om,by rw[f.get _ r];exact j,by rw[f.get _ o];exact d,by rw[f.get _ i];exact q,by rw[f.get _ b];exact l,a.mono λ_ _ k=>k.mono f,sp.mono f⟩
section
variable {n:Nat} {G:List Nat->Prop} {L:LN} {K:List Nat} (hG:dO n G) (E:cZ G L)
include hG E
omit hG E in
theorem Ng (a:0<L.length):0∈kC G L L.length:=jY.2 ⟨a,λj b=>om⟩
theorem adP (l:K.Perm (kC G L L.length)){k:Nat}(c:k<K.length){j:Nat}(s:j∈kU G L (K.getD k 0)):NK G L K j=k:=by
 classical
 obtain⟨t,d⟩:=uQ.1 s;have b:K.Nodup:=l.nodup_iff.2 (by unfold kC;exact List.Pairwise.filter _ List.nodup_range);have o: ∀r∈K,r<L.length/\GU G L r:=λr p=>jY.1 (l.mem_iff.1 p)
 unfold NK;rw[List.findIdx_eq c];have q:K.getD k 0=K[k]:=Pm.cW c;rw[q] at d;refine⟨by simpa using d,λi hi=>?_⟩;simp only[decide_eq_false_iff_not];intro f;have h:=o K[i] (xG _);have m:=o K[k] (xG _);have:=YA hG E h.1 m.1 h.2 m.2 f d;have a:=GP.1 b i k om c hi;exact a this
theorem NO (d:K.Perm (kC G L L.length)){j:Nat}(b:j<L.length): ∃k,k<K.length/\j∈kU G L (K.getD k 0):=by
 obtain⟨r,l,f,h⟩:=Px hG E b;have c:r∈K:=d.mem_iff.2 (jY.2 ⟨om,f⟩);obtain⟨k,a,i⟩:=Ad.1 c;exact⟨k,a,uQ.2 ⟨b,by rw[Pm.cW a,i];exact h⟩⟩
end
open Classical in
noncomputable def Ri (G:List Nat->Prop)(L:LN)(K:List Nat)(k t j:Nat):Nat:=if (∃k0,k0<k/\j∈kU G L (K.getD k0 0))∨j∈(kU G L (K.getD k 0)).take t then NK G L K j else 0
theorem UX (G:List Nat->Prop)(L:LN)(K:List Nat)(j:Nat):Ri G L K 0 0 j=0:=by
 classical
 unfold Ri;rw[bU];rintro (⟨a,h,_⟩|h)
 ·omega
 ·simp at h
theorem VE (G:List Nat->Prop)(L:LN)(K:List Nat)(k j:Nat):Ri G L K k (kU G L (K.getD k 0)).length j=Ri G L K (k+1) 0 j:=by
 classical
 unfold Ri;rw[List.take_length,List.take_zero]
 have e:((∃a,a<k/\j∈kU G L (K.getD a 0))∨j∈kU G L (K.getD k 0))↔((∃a,a<k+1/\j∈kU G L (K.getD a 0))∨j∈([]:List Nat)):=by
  constructor
  ·rintro (⟨a,c,b⟩|h)
   ·exact .inl ⟨a,om,b⟩
   ·exact .inl ⟨k,om,h⟩
  ·rintro (⟨a,c,b⟩|h)
   ·by_cases e:a=k
    ·subst e;exact .inr b
    ·exact .inl ⟨a,om,b⟩
   ·cases h
 by_cases h:((∃a,a<k/\j∈kU G L (K.getD a 0))∨j∈kU G L (K.getD k 0))
 ·rw[bJ h,bJ (e.1 h)]
 ·rw[bU h,bU (λx=>h (e.2 x))]
theorem UT {n:Nat}{G:List Nat->Prop}{L:LN}{K:List Nat}(hG:dO n G)(E:cZ G L)(d:K.Perm (kC G L L.length)){k:Nat}(b:k<K.length){t:Nat}(a:t<(kU G L (K.getD k 0)).length)(j:Nat):
  Ri G L K k (t+1) j=if j=(kU G L (K.getD k 0)).getD t 0 then k else Ri G L K k t j:=by
 classical
 by_cases e:j=(kU G L (K.getD k 0)).getD t 0
 ·rw[bJ e]
  have c:j∈kU G L (K.getD k 0):=by rw[e];exact bC a
  unfold Ri
  rw[bJ (.inr (by rw[eY 0 a,e];simp))]
  exact adP hG E d b c
 ·rw[bU e]
  unfold Ri
  rw[eY 0 a]
  simp only[oD,List.mem_singleton,e,or_false]
theorem QV {n:Nat}{G:List Nat->Prop}{L:LN}{K:List Nat}(hG:dO n G)(E:cZ G L)(c:K.Perm (kC G L L.length)){j:Nat}(b:j<L.length):Ri G L K K.length 0 j=NK G L K j:=by
 classical
 obtain⟨k,a,d⟩:=NO hG E c b;unfold Ri;rw[bJ (.inl ⟨k,a,d⟩)]
theorem Jr {h:H}{S:Nat}{ro:Bool}: ∀{ks:List Cls.KE} {pre:List V},h.get S=some (.cells ro (pre++Cls.rJ ks))-> ∀{i:Nat} (hi:i<ks.length),h.row S (pre.length+i*4) 4=some ks[i].enc
 | [],_,_,_,hi=>by simp at hi
 |a::r,pre,g,0,_=>by
  unfold H.row;rw[g];show sub (pre++(a.enc++Cls.rJ r)) (pre.length+0*4) 4=some a.enc;simp only[sub,Nat.zero_mul,Nat.add_zero];have:a.enc.length=4:=rfl;rw[bJ (by rw[iV,iV];omega),List.drop_left,List.take_append,Ro om,this];simp
 |a::r,pre,g,i+1,hi=>by
  have b:h.get S=some (.cells ro ((pre++a.enc)++Cls.rJ r)):=by rw[g,Lz];rfl
  have:=Jr b (i:=i) (by simpa using hi);rw[iV,show a.enc.length=4 from rfl] at this;rw[show pre.length+(i+1)*4=pre.length+4+i*4 by omega];simpa using this
theorem VA (h:H)(id off:Nat)(a:Cls.KE):Wz h 4 (.ptr id off) (.agg a.enc)=eU (h.get id) h id off a.enc:=Di h id off 4 _ rfl (by simp [Cls.KE.enc,a.hrep.2.1,a.hranks.2.1,show (aC (a.ord:Int)).one=true from rfl,show (aC (a.size:Int)).one=true from rfl])
theorem QY (b:H)(id:Nat)(a:Cls.KE)(x y z w:V):eU (some (.cells false [x,y,z,w])) b id 0 a.enc=some (b.set id (some (.cells false a.enc))):=by
 simp [eU,putAt,Cls.KE.enc]
theorem aN.ex {α β:Type}{R:α->β->Prop}{d:List α}{c:List β}(h:aN R d c){a:α}(f:a∈d): ∃b∈c,R a b:=by
 obtain⟨i,hi,rfl⟩:=Ad.1 f;have j:=aN.length h;exact⟨c[i]'om,xG _,aN.get h i hi om⟩
theorem SI.lit {h:H}{v:V}{l:List Int}(s:SI h v l)(r:0<l.length): ∃id off m cap,v= .sl id off (m+1) cap/\m+1=l.length/\id<h.next/\ ∀i,i<l.length->h.cell id (off+i)=some (aC (l.getD i 0)):=by
 obtain⟨id,off,k,j,p⟩:=s.open;rcases s with ⟨_,f⟩|⟨b,a,len,cap,w,t,e,o,q,_⟩
 ·have:l.length=0:=by rw[←aP,f];rfl
  omega
 ·rw[aP,tW] at o
  have c:=k.ixa .i64 0 om om;subst e;rw[Il om om] at c;simp only[Option.some.injEq,V.ptr.injEq] at c;obtain⟨rfl,u⟩:=c;have d:a=off:=om
  subst d;exact⟨b,a,l.length- 1,cap,by rw[show l.length- 1+1=len by omega],om,q,p⟩
theorem ajC {W0:Nat->Prop}(vc:V)(n:Nat)(O:LN)(R:jJ)(G:List Nat->Prop)(h:H)(gc:GC W0 h vc n O R G):
  Ev T 139 [vc] h (λv h'=> ∃p K,v= .tup [p,aC 0]/\abG n G (dM O R n 0 (aX n)) K h' p/\Ab n G (dM O R n 0 (aX n)) K/\Fr h h'):=by
 refine aaT vc n O R G h gc _ λL X D vL s h5 J A g hL e=>?_
 rw[hL]
 have hG:=gc.cY
 have E:=e.el
 obtain⟨vK,P,WK,gB,c2,aK,bK,wD,wB,wN,wn,wX,xK⟩:=e.j.ex
 have Z:=aN.length aK
 obtain⟨m,hm⟩:=exI L.length
 have h0:0<L.length:=Rl ((E.mem _).2 hG.one)
 have c9:0<P.length:=by rw[Z];exact Rl (Ng h0)
 obtain⟨S,cp,rfl,gS⟩: ∃id a4,vK= .sl id 0 P.length a4/\J.get id=some (.cells false (Cls.rJ P)):=by
  rcases xK with l|l
  ·subst l;simp at c9
  ·exact l
 have wS:=bK _ _ _ _ rfl
 have nS:=wn _ wS
 have e6:J.cell (X+8) 2=some (.sl S 0 P.length cp):=by rw[H.aF gB];rfl
 show Wp T none (Ve 2 mU.fn.body) _ J _
 simp(disch:=omega)only[go_sem,Ve,VZ,mU,e6]
 have hR: ∀r∈kC G L L.length,r<L.length/\GU G L r:=λr N=>jY.1 N
 have d6: ∀a∈P,a.Pp J J.next S:=λa W=>by
  obtain⟨r,N,k⟩:=aN.ex aK W;obtain⟨a5,a2⟩:=hR r N;obtain⟨l1,l2⟩:=Tr hG E a5 a2;obtain⟨id,off,m',a4,e1,e2,e3,e4⟩:=SI.lit k.ranks.si (by rw[aS];exact l1);have ho:=k.ranks.off;rw[e1] at ho;refine⟨id,off,m',a4,e1,e3,λl=>ho (l▸wS),?_⟩;have:=e4 0 (by rw[aS];exact l1);rw[Nat.add_zero] at this;rw[this,zi,oI _ (d:=0) l1,l2,k.fst]
 refine (Cls.VF J S J.next P cp (by rw[Z];have:=Dk (G:=G) (L:=L) L.length;have:=e.le;omega) gS nS (fN _) d6).mono ?_
 rintro _ y ⟨o,a6,pm,d9,F8⟩
 obtain⟨K,hK⟩:=exI (o.map (λa:Cls.KE=>a.fst))
 have U:K.length=P.length:=by rw[←hK,iA];exact pm.length_eq
 have d1:P.map (λa:Cls.KE=>a.fst)=kC G L L.length:=by
  refine List.ext_getElem (by rw[iA];exact Z) λi l s=>?_
  rw[List.getElem_map];exact (aN.get aK i (by simpa using l) s).fst
 have pK:K.Perm (kC G L L.length):=by rw[←hK,←d1];exact pm.map _
 have kK: ∀a∈o,KO n G L X WK J a a.fst:=λa W=>by
  obtain⟨r,N,k⟩:=aN.ex aK (pm.mem_iff.1 W);rw[k.fst];exact k
 have FK:Fx WK J y:=⟨F8.next,λq l s=>F8.get q l λh3=>s (by have:q=S:=h3;rw[this];exact wS)⟩
 have c1: ∀a∈o,KO n G L X WK y a a.fst:=λa W=>(kK a W).go FK (by have:=wX S wS;omega) wX λ_ _ l=>l
 have e9:=(c2.in _ _ _ _ rfl).2.1
 have xD:=e.xD
 have n8:=F8.next
 have a0:y.get (X+8)=some (.cells false [vL,.mp (X+3),.sl S 0 P.length cp,.sl (X+6) 0 L.length (.kn L.length)]):=by
  rw[F8.get _ (wn _ wB) (λl=>by have:X+8=S:=l;omega)];exact gB
 have a7:y.cell (X+8) 2=some (.sl S 0 P.length cp):=by rw[H.aF a0];rfl
 have c5:J.get (X+6)=some (.cells false (rc L.length λ_=> aC 0)):=by
  rw[e.j.old.get _ (by rw[e.n5];omega) om];exact e.gN
 have c3:y.get (X+6)=some (.cells false (rc L.length λj=> aC (Ri G L K 0 0 j:Nat))):=by
  rw[F8.get _ (wn _ wN) (λl=>by have:X+6=S:=l;omega),c5,show (λj=>aC (Ri G L K 0 0 j:Nat))=λ_=>aC 0 from funext λj=>by rw[UX];rfl]
 have b3: ∀k,k<K.length-> ∃a,o[k]? =some a/\KO n G L X WK y a (K.getD k 0):=λk hk=>by
  have w:k<o.length:=by rw[pm.length_eq,←U];exact hk
  refine⟨o[k],dD w,?_⟩;have:=c1 _ (xG w);have e2:K.getD k 0=(o[k]).fst:=by rw[Pm.cW hk];subst hK;rw[List.getElem_map]
  rw[e2];exact this
 have le:=e.le
 have e8:K.length<=L.length:=by rw[U,Z];exact Dk _
 have nN:=wn _ wN
 rw[←U] at a7 a0
 simp(disch:=omega)only[go_sem,a7]
 refine bQ (λvs u=>(∃g:Nat->V,vs= [g 0,g 1,.nilp,aC 0,g 4,g 5,.ptr (X+8) 0,g 7,g 8,g 9,g 10,g 11,g 12,g 13,g 14,g 15,g 16,g 17,g 18,g 19,g 20,g 21,g 22,g 23,g 24,g 25,g 26,g 27,g 28,g 29,g 30,g 31,g 32,g 33,g 34,g 35,g 36,g 37,g 38,g 39,g 40,g 41,g 42,g 43,g 44,g 45])/\u.get (X+6)=some (.cells false (rc L.length λj=> aC (Ri G L K K.length 0 j:Nat)))/\Fx (· =X+6) y u) ?_ ?_
 ·refine aI (λk' vs u=> ∃(k:Nat),(∃g:Nat->V,vs= [g 0,g 1,.nilp,aC 0,g 4,g 5,.ptr (X+8) 0,g 7,g 8,g 9,g 10,g 11,g 12,g 13,g 14,g 15,g 16,g 17,g 18,g 19,g 20,g 21,g 22,g 23,g 24,g 25,g 26,g 27,g 28,g 29,g 30,g 31,g 32,g 33,g 34,g 35,g 36,g 37,.sl S 0 K.length cp,aC (K.length:Int),aC k,g 41,g 42,g 43,g 44,g 45])/\k<=K.length/\u.get (X+6)=some (.cells false (rc L.length λj=> aC (Ri G L K k 0 j:Nat)))/\Fx (· =X+6) y u/\k'=K.length-k) K.length
   ⟨0,aB rfl,iB _,c3,Fx.refl _ _,rfl⟩ ?_
  rintro k' F h9 ⟨k,⟨g,rfl⟩,hk,B,z,rfl⟩
  have n9:=z.next
  by_cases a8:(k:Int)<(K.length:Int)
  case neg=>
   have d4:=bI a8;obtain rfl:k=K.length:=om
   simp(disch:=omega)only[go_sem,d4];exact⟨aB rfl,B,z⟩
  have d4:=cI a8
  have w:k<K.length:=om
  obtain⟨a,ea,ko⟩:=b3 k w
  have b4:k<o.length:=by rw[pm.length_eq,←U];exact w
  have a3:o[k]=a:=by rw[dD b4] at ea;simpa using ea
  have c4:h9.get S=some (.cells false (Cls.rJ o)):=by rw[z.get _ om (λl=>by have:S=X+6:=l;omega)];exact a6
  have b8:h9.row S (k*4) 4=some a.enc:=by
   have:=Jr (pre:= []) (by simpa using c4) b4;rw[a3] at this;simpa using this
  obtain⟨Y,hY⟩:=exI h9.next
  obtain⟨W,b6,na,ga,oa,fa⟩:=dK hY [.aD,aC 0,aC 0,.aD]
  obtain⟨hb,c0,nb,gb,ob⟩:=mV W Y a.enc
  have a9:hb.cell Y 3=some a.ranks:=by rw[H.aF gb];rfl
  have lr:=ko.ranks.si.lens
  rw[aS] at lr
  obtain⟨r,N⟩:=exI (K.getD k 0)
  rw[N] at ko lr
  simp(disch:=omega)only[go_sem,d4,b8,hY,b6,VA,ga,QY,c0,a9,lr]
  have d8:r∈kC G L L.length:=by rw[←N];exact pK.mem_iff.1 (bC w)
  obtain⟨a5,a2⟩:=hR r d8
  obtain⟨l1,l2⟩:=Tr hG E a5 a2
  obtain⟨Q,a1,mR,b0,e1,e2,e3,e4⟩:=SI.lit ko.ranks.si (by rw[aS];exact l1)
  have ho:=ko.ranks.off
  rw[e1] at ho
  have c7:Q≠X+6:=λl=>ho (l▸wN)
  obtain⟨c,hc⟩:=exI ((kU G L r).length)
  rw[aS,hc] at e2 e4
  have f0:c<=L.length:=by
   rw[←hc];have:=List.Nodup.length_le_of_subset (Qj (G:=G) (L:=L) r) (l₂:=List.range L.length) λj hj=>Dj.2 (uQ.1 hj).1
   rwa [Xf] at this
  rw[hc,e1]
  have Fb:Fx (· =X+6) y hb:=⟨om,λq l s=>by rw[ob q om,oa q om];exact z.get q l s⟩
  have b5:hb.get (X+6)=some (.cells false (rc L.length λj=> aC (Ri G L K k 0 j:Nat))):=by rw[ob _ om,oa _ om];exact B
  have d7: ∀u,Fx (· =X+6) y u->u.cell (X+8) 3=some (.sl (X+6) 0 L.length (.kn L.length)):=λu f=>by
   have:u.get (X+8)=y.get (X+8):=f.get _ (by have:=wn _ wB;omega) om;rw[H.aF (this.trans a0)];rfl
  refine uJ (λvs u=>(∃g:Nat->V,vs= [g 0,g 1,.nilp,aC 0,g 4,g 5,.ptr (X+8) 0,g 7,g 8,g 9,g 10,g 11,g 12,g 13,g 14,g 15,g 16,g 17,g 18,g 19,g 20,g 21,g 22,g 23,g 24,g 25,g 26,g 27,g 28,g 29,g 30,g 31,g 32,g 33,g 34,g 35,g 36,g 37,.sl S 0 K.length cp,aC (K.length:Int),aC k,g 41,g 42,g 43,g 44,g 45])/\u.get (X+6)=some (.cells false (rc L.length λj=> aC (Ri G L K (k+1) 0 j:Nat)))/\Fx (· =X+6) y u) ?_ ?_
  ·refine aI (λk' vs u=> ∃(t:Nat),(∃g:Nat->V,vs= [g 0,g 1,.nilp,aC 0,g 4,g 5,.ptr (X+8) 0,g 7,g 8,g 9,g 10,g 11,g 12,g 13,g 14,g 15,g 16,g 17,g 18,aC k,g 20,g 21,g 22,g 23,g 24,g 25,g 26,g 27,g 28,g 29,g 30,g 31,g 32,g 33,g 34,g 35,g 36,g 37,.sl S 0 K.length cp,aC (K.length:Int),aC k,g 41,.sl Q a1 (mR+1) b0,aC c,aC t,g 45])/\t<=c/\u.get (X+6)=some (.cells false (rc L.length λj=> aC (Ri G L K k t j:Nat)))/\Fx (· =X+6) y u/\k'=c-t) c
    ⟨0,aB rfl,iB _,b5,Fb,rfl⟩ ?_
   clear b5 Fb gb ob a9 nb c0 ga oa fa na b6 b8 B z n9
   rintro k' F b2 ⟨t,⟨g2,rfl⟩,ht,b1,Fc,rfl⟩
   by_cases b7:(t:Int)<(c:Int)
   case neg=>
    have d5:=bI b7;obtain rfl:t=c:=om
    simp(disch:=omega)only[go_sem,d5];refine⟨aB rfl,?_,Fc⟩;rw[b1,show (λj=>aC (Ri G L K k t j:Nat))=λj=>aC (Ri G L K (k+1) 0 j:Nat) from funext λj=>by rw[←VE,N,hc]]
   have d5:=cI b7
   have d3:t<c:=om
   obtain⟨x,hx⟩:=exI ((kU G L r).getD t 0)
   have e7:x<L.length:=by rw[←hx];exact (uQ.1 (bC om)).1
   have c8:b2.cell Q (a1+t)=some (aC x):=by
    have e5:=e4 t d3;unfold H.cell at e5 ⊢;rw[Fc.get Q e3 c7,e5,zi,oI _ (d:=0) om,hx]
   have pt:=bT (vs:=rc L.length λj=> aC (Ri G L K k t j:Nat)) (off:=x) (by rw[iQ];exact e7)
   have tl:(t:Int).toNat=t:=rfl
   simp(disch:=omega)only[go_sem,d5,c8,d7 b2 Fc,b1,pt]
   rw[fJ t]
   refine⟨c-(t+1),om,t+1,aB rfl,om,?_,⟨Fc.next,λq l s=>by rw[H.aH _ s];exact Fc.get q l s⟩,rfl⟩
   rw[lH,dJ λj hj=>?_]
   rw[UT hG E pK w (by rw[N];omega),N,hx]
   by_cases ej:j=x
   ·rw[bJ ej,bJ ej]
   ·rw[bU ej,bU ej]
  rintro F hd ⟨⟨g2,rfl⟩,d2,Fd⟩
  simp(disch:=omega)only[go_sem]
  rw[fJ k]
  exact⟨K.length-(k+1),om,k+1,aB rfl,om,d2,Fd,rfl⟩
 rintro F h9 ⟨⟨g,rfl⟩,B,z⟩
 have n9:=z.next
 simp(disch:=omega)only[go_sem]
 have n2:=e.x2
 have o9: ∀q,q<D->q≠X+8->q≠X+6->h9.get q=h5.get q:=λq l s h3=>by
  rw[z.get q (by have:=e.j.nx;omega) h3,F8.get q (by have:=e.j.nx;omega) (λh4=>by have:q=S:=h4;omega),e.j.old.get q (by rw[e.n5];exact l) (λh4=>by rcases h4 with h4|h4;exact s h4;omega)]
 have nx:=e.j.nx
 have b9:Fr s h9:=⟨om,λq hq=>by rw[o9 q om om om];exact e.f25.get q hq⟩
 have d0:Fx WK y h9:=⟨z.next,λq l s=>z.get q l λh3=>s (by have:q=X+6:=h3;rw[this];exact wN)⟩
 have e0:K.Nodup:=pK.nodup_iff.2 (by classical exact (by unfold kC;exact List.Pairwise.filter _ List.nodup_range))
 have c6:o.length=K.length:=by rw[←hK,iA]
 refine⟨.ptr (X+8) 0,K,rfl,⟨X+8,X+3,X+6,S,cp,vL,o,rfl,om,om,om,om,?_,?_,?_,?_,?_,e.sp.mono b9⟩,⟨pK,?_⟩,e.f2.trans b9⟩
 ·rw[z.get _ om om];exact a0
 ·rw[o9 _ om om om];exact e.gM
 ·rw[B,dJ λj hj=>by rw[QV hG E pK hj]]
 ·rw[z.get _ om om];exact a6
 ·refine aN.lI c6 λi l s=>?_
  obtain⟨a,ea,ko⟩:=b3 i s
  have a3:o[i]=a:=by rw[dD l] at ea;simpa using ea
  have k9:=ko.go d0 om wX λ_ _ l=>l
  rw[Pm.cW s] at k9
  rw[a3]
  exact⟨k9.fst,k9.ord,k9.size,k9.rep.si,k9.ranks.si⟩
 ·have l:o.Pairwise λa b=>a.fst≠b.fst:=by
   have:=e0;rw[←hK] at this;exact List.pairwise_map.1 this
  rw[←hK,List.pairwise_map];refine List.Pairwise.imp_of_mem ?_ (List.Pairwise.and d9 l);rintro a b W hb ⟨s,h3⟩;have ka:=kK a W;have kb:=kK b hb;have h4: ¬(b.lt a=true):=by rw[s];simp
  rw[Cls.KE.lt_iff] at h4;unfold kLt;rw[←ka.ord,←kb.ord,←ka.size,←kb.size];omega
theorem MW {n:Nat}{G:List Nat->Prop}{L:LN}{r s:Nat}(a:kLt n G L r s)(b:kLt n G L s r):False:=by
 unfold kLt at a b;omega
theorem Ab.uniq {n:Nat}{G:List Nat->Prop}{L:LN}{K c:List Nat}(a:Ab n G L K)(b:Ab n G L c):K=c:=
 (a.perm.trans b.perm.symm).eq_of_pairwise (λ_ _ _ _ d f=>(MW d f).elim) a.asc b.asc
noncomputable def aeK (G:List Nat->Prop)(L:LN)(K:List Nat):List Nat:=(List.range L.length).map (NK G L K)
def sX (ks:List Cls.KE):List V:=ks.flatMap λa=> [a.rep,aC (a.ord:Int),aC (a.size:Int)]
theorem tX (b:List Cls.KE):(sX b).length=b.length*3:=by
 induction b with
 |nil=>rfl
 |cons a r ih=>
  show ([a.rep,aC (a.ord:Int),aC (a.size:Int)]++sX r).length=_;rw[iV,ih];show 3+r.length*3=(r.length+1)*3;omega
theorem abC {h:H}{Y:Nat}{ro:Bool}{a:Cls.KE}(g:h.get Y=some (.cells ro a.enc)):h.row Y 0 3=some [a.rep,aC (a.ord:Int),aC (a.size:Int)]:=by
 simp [H.row,g,sub,Cls.KE.enc]
theorem JM {v:V}(a:v.one=true)(x y:Int)(h:H):mH h 3 [.aD,aC 0,aC 0] 1 [(0,3,.agg [v,aC x,aC y])]=some (.sl h.next 0 1 (.kn 1),h.new (.cells false [v,aC x,aC y])):=by
 have e:dP [V.aD,aC 0,aC 0] 3= [V.aD,aC 0,aC 0]:=rfl;simp [mH,iK,putAt,e,a,show ∀l,(V.agg l).cells=l from λ_=>rfl,show ∀z,(aC z).one=true from λ_=>rfl]
theorem QC {W0:Nat->Prop}(vc:V)(n:Nat)(O:LN)(R:jJ)(G:List Nat->Prop)(h:H)(F:GC W0 h vc n O R G)(L:LN)(hL:dM O R n 0 (aX n)=L):
  Ev T 100 [vc] h (λv h'=> ∃vl K ks,v= .tup [vl,aC 0]/\Ab n G L K/\SV h' vl 3 (sX ks)/\aN (KR n G L h') ks K/\Fr h h'):=by
 obtain⟨vO,vR,e,sO,sR⟩:=F.ch
 subst e
 refine dW Cr rfl ?_
 have o:vO.one=true:=oNs sO
 have l:vR.one=true:=oNt sR
 obtain⟨A,hA⟩:=exI h.next
 obtain⟨h1,e1,n1,g1,o1,f1⟩:=dK hA [aC n,vO,vR]
 have bx:=bV h (v:= aC n) (u:=vO) (w:=vR) rfl o l
 have rB:=aJ g1
 simp(disch:=omega)only[go_sem,Cr,aE,bx,hA,e1,rB]
 refine (ajC _ n O R G h1 (F.mono f1)).mono ?_
 rw[hL]
 rintro _ f ⟨p,K,rfl,go,ik,f2⟩
 obtain⟨B,M,N,S,cp,vL,ks,rfl,hB,hM,hN,hS,gB,gM,gN,gS,aK,sp⟩:=go.ex
 have c2:f.cell B 2=some (.sl S 0 K.length cp):=by rw[H.aF gB];rfl
 have a8:=aN.length aK
 have a5:K.length<=5040:=by
  have h1:=ik.perm.length_eq;have f:=Dk (G:=G) (L:=L) L.length;have h3:=jE F;have h4:=(dB F.cY F.isc).2;rw[hL] at h4;omega
 simp(disch:=omega)only[go_sem]
 refine bA (λhc=>(hc rfl).elim) (λ_=>?_)
 simp(disch:=omega)only[go_sem,c2]
 refine bQ (λP x=> ∃b,(∃g:Nat->V,P= [g 0,g 1,g 2,g 3,g 4,g 5,b,g 7,g 8,g 9,g 10,g 11,g 12])/\SV x b 3 (sX ks)/\Fr f x) ?_ ?_
 ·refine aI (λk' P x=> ∃(k:Nat) (b:V),(∃g:Nat->V,P= [g 0,g 1,g 2,g 3,.ptr B 0,g 5,b,g 7,g 8,.sl S 0 K.length cp,aC (K.length:Int),aC k,g 12])/\k<=K.length/\dH x b 3 (sX (ks.take k)) f.next/\Fr f x/\k'=K.length-k) K.length
   ⟨0,.aD,aB rfl,iB _,dH.aD _ _ _,Fr.refl _,rfl⟩ ?_
  rintro k' t j ⟨k,b,⟨g,rfl⟩,hk,J,d,rfl⟩
  by_cases i:(k:Int)<(K.length:Int)
  case neg=>
   have d4:=bI i;obtain rfl:k=K.length:=om
   simp(disch:=omega)only[go_sem,d4];rw[Ro om] at J;exact⟨b,aB rfl,J.sv,d⟩
  have d4:=cI i
  have a7:k<K.length:=om
  have z:k<ks.length:=om
  obtain⟨a,ea⟩:=exI (ks[k])
  have a1:j.get S=bB (Cls.rJ ks):=by rw[d.get _ hS];exact gS
  have a0:j.row S (k*4) 4=some a.enc:=by
   have:=Jr (pre:= []) (by simpa using a1) z;rw[ea] at this;simpa using this
  obtain⟨Y,hY⟩:=exI j.next
  obtain⟨ha,a3,na,ga,oa,fa⟩:=dK hY [.aD,aC 0,aC 0,.aD]
  obtain⟨hb,a2,nb,gb,ob⟩:=mV ha Y a.enc
  obtain⟨Z,hZ⟩:=exI hb.next
  obtain⟨s,a4,nc,Q,oc,fc⟩:=dK hZ [a.rep,aC (a.ord:Int),aC (a.size:Int)]
  have r:Fr j s:=⟨om,λq hq=>by rw[oc q om,ob q om,oa q om]⟩
  have W:dH s b 3 (sX (ks.take k)) f.next:=J.fr r
  obtain⟨hd,ad,pd⟩:=W.push (bytes:=40) (y:= .sl Z 0 1 (.kn 1)) (us:= [a.rep,aC (a.ord:Int),aC (a.size:Int)]) (SV.all rfl om Q _) (n:=k) (m:=1) (by rw[tX,zO];omega) rfl om om om
  simp(disch:=omega)only[go_sem,d4,a0,hY,a3,VA,ga,QY,a2,abC gb,JM a.hrep.2.1,hZ,a4,ad]
  rw[fJ k]
  have el:sX (ks.take (k+1))=sX (ks.take k)++ [a.rep,aC (a.ord:Int),aC (a.size:Int)]:=by
   rw[List.take_succ_eq_append_getElem z,ea];simp [sX]
  have n9:=d.next
  have nd:=pd.next
  have U:Fr f hd:=⟨om,λq hq=>by rw[pd.old q om (λid a6 n' c e e2=>by have:=(J.in _ _ _ _ e).2.1;omega),r.get q om];exact d.get q hq⟩
  exact⟨K.length-(k+1),om,k+1,_,aB rfl,om,by rw[el];exact pd.own (by rw[tX,zO];omega) rfl om,U,rfl⟩
 rintro t j ⟨b,⟨g,rfl⟩,sv,d⟩
 simp(disch:=omega)only[go_sem]
 exact⟨b,K,ks,rfl,ik,sv,aK.mono λ_ _ k=>k.mono d,(f1.trans f2).trans d⟩
set_option maxRecDepth 100000
set_option maxRecDepth 100000
theorem SN {n:Nat}{a:List Nat}(A:aY n a)(j:n<=7):oJ a n∣420:=by
 unfold oJ;rw[Cq];intro c f;obtain⟨l,h,rfl⟩:=pH.1 f;obtain⟨i,hi,rfl⟩:=pH.1 h;have b:i<n:=by unfold Pd at hi;exact Dj.1 (Rq.1 hi).1
 rw[zB];have d:=(nJ A b).1;have m:=Wo A b;have: ∀k,k<8->0<k->k∣420:=by decide
 exact this _ om d
set_option maxRecDepth 100000
theorem FQ {n:Nat}{a:List Nat}(A:aY n a):pw n a 1=a:=bX A
set_option maxRecDepth 100000
set_option maxRecDepth 100000
def NC (n:Nat)(A B:List Nat->Prop)(x:List Nat):Prop:= ∀H:List Nat->Prop,dO n H->(∀a,A a->H a)->(∀y b,H y->B b->H (aT y b))->H x
section
variable {n:Nat} {A B A' B' H:List Nat->Prop}
theorem NC.le {x:List Nat}(h:NC n A B x)(d:dO n H)(c: ∀a,A a->H a)(f: ∀y b,H y->B b->H (aT y b)):H x:=h H d c f
theorem NC.of {a:List Nat}(h:A a):NC n A B a:=λ_ _ b _=>b a h
theorem NC.cj {x b:List Nat}(h:NC n A B x)(f:B b):NC n A B (aT x b):=λH d c a=>a _ _ (h H d c a) f
theorem abH (n:Nat):dO n (aY n):=⟨λh=>h,aY.one n,λa b=>a.mul b,λa=>a.inv⟩
theorem NC.cY (d: ∀a,A a->aY n a)(i: ∀b,B b->aY n b):dO n (NC n A B):=
 ⟨λh=>h _ (abH n) d λy b Y f=>dC Y (i b f),λ_ c _ _=>c.one,λh k _ c a b=>c.mul (h _ c a b) (k _ c a b),λh _ c a b=>c.inv (h _ c a b)⟩
theorem NC.same (k: ∀a,A a->aY n a)(s: ∀b,B b->aY n b)(d: ∀a,A' a->aY n a)(f: ∀b,B' b->aY n b)
  (o: ∀a,A a->A' a∨a=aX n) (r: ∀a,A' a->A a∨a=aX n) (l: ∀a,B a->B' a∨a=aX n) (m: ∀a,B' a->B a∨a=aX n) (x:List Nat):NC n A B x↔NC n A' B' x:=by
 have c: ∀{A B A' B':List Nat->Prop},(∀a,A' a->aY n a)->(∀b,B' b->aY n b)->(∀a,A a->A' a∨a=aX n)->(∀a,B a->B' a∨a=aX n)->NC n A B x->NC n A' B' x:=λ{A B A' B'} p q a b h=>
  h.le (NC.cY p q) (λz i=>by
   rcases a z i with h|rfl
   ·exact NC.of h
   ·exact (NC.cY p q).one) (λy z j i=>by
   rcases b z i with h|rfl
   ·exact j.cj h
   ·rw[iZ ((NC.cY p q).bF j)];exact j)
 exact⟨c d f o l,c k s r m⟩
theorem Nu (c:dO n H)(d: ∀b,B b->aY n b)(f: ∀y b,H y->B b->H (aT y b)){g:List Nat}(h:bM n B g): ∀y,H y->H (aT y g):=by
 induction h with
 |one=>intro y a;rw[iZ (c.bF a)];exact a
 | @mul z k hz hk ih=>intro y a;rw[gW (c.bF a) (hz.bF d) (d _ hk)];exact f _ _ (ih y a) hk
end
def cU (x y:List Nat):List Nat:=aM (aM (bZ x) (bZ y)) (aM x y)
section
variable {n:Nat} {x y:List Nat}
theorem qV (X:aY n x)(Y:aY n y):aY n (cU x y):=(X.inv.mul Y.inv).mul (X.mul Y)
theorem To (X:aY n x):cU x (aX n)=aX n:=by
 unfold cU;rw[oX,aZ X.inv,aZ X,dL X]
theorem Sy (Y:aY n y):cU (aX n) y=aX n:=by
 unfold cU;rw[oX,bX Y.inv,bX Y,dL Y]
theorem oH (X:aY n x)(Y:aY n y):cU x y=aM (bZ x) (aT x y):=by
 unfold cU aT;rw[aG X.inv Y.inv (X.mul Y),aG Y.inv X Y]
end
def oV (n:Nat)(R R':jJ):List Nat->Prop:=NC n (λx=> ∃p,p∈cE R/\ ∃q,q∈cE R'/\x=cU p q) (λb=>b∈cE R∨b∈cE R')
section
variable {n:Nat} {G K:List Nat->Prop} {O O':LN} {R R':jJ}
theorem oV.cY (f:dO n G)(i:dO n K)(c:aV n G O R)(d:aV n K O' R'):dO n (oV n R R'):=
 NC.cY (λa ⟨_,hp,_,hq,e⟩=>by rw[e];exact qV (f.bF (bE c hp)) (i.bF (bE d hq))) (λb h=>h.elim (λh=>f.bF (bE c h)) λh=>i.bF (bE d h))
theorem oV.le (f:dO n G)(m:dO n K)(c:aV n G O R)(d:aV n K O' R')(j: ∀y b,G y->K b->G (aT y b)){x:List Nat}(h:oV n R R' x):G x:=by
 refine NC.le h f ?_ ?_
 ·rintro a ⟨p,l,q,o,rfl⟩
  have P:=bE c l;have Q:=bE d o;rw[oH (f.bF P) (m.bF Q)];exact f.mul (f.inv P) (j _ _ P Q)
 ·rintro y b k (i|i)
  ·have:=bE c i
   exact f.mul (f.mul (f.inv this) k) this
  ·exact j _ _ k (bE d i)
theorem oV.self (a:dO n G)(c:aV n G O R){x:List Nat}(h:oV n R R x):G x:=
 oV.le a a c c (λy b f d=>a.mul (a.mul (a.inv d) f) d) h
theorem oV.norm (j:dO n G)(f:dO n K)(c:aV n G O R)(d:aV n K O' R'){y b:List Nat}(a:oV n R R' y)(i:K b):oV n R R' (aT y b):=
 Nu (B:=λg=>g∈cE R') (oV.cY j f c d) (λb h=>f.bF (bE d h)) (λy b a i=>NC.cj a (.inr i)) (oG f d i) y a
end
set_option maxHeartbeats 8000000
theorem Kj (h:H){v w:V}(b:v.cells= [v]/\v.one=true)(a:w.cells= [w]/\w.one=true):mH h 1 [.aD] 2 [(0,1,v),(1,1,w)]=some (.sl h.next 0 2 (.kn 2),h.new (.cells false [v,w])):=by
 have e:List.range 2= [0,1]:=rfl;simp [mH,qU,iK,putAt,b.1,b.2,a.1,a.2,dP,e]
theorem Oq {n:Nat}{u w:V}{a b:List Nat}{h h':H}(A:aY n a)(B:aY n b)(d:SI h u (zi a))(c:SI h w (zi b))(f:Fr h h'): ∀i,i< [u,w].length-> ∃a,aY n a/\SI h' (([u,w]:List V).getD i .undef) (zi a):=λi hi=>by
 match i,hi with
 |0,_=>exact⟨a,A,d.mono f⟩
 |1,_=>exact⟨b,B,c.mono f⟩
theorem La {n:Nat}{a b:List Nat}(A:aY n a)(B:aY n b): ∀i,i<a.length->a.getD i 0<b.length:=λi hi=>by
 rw[B.len];exact A.fX (by rw[←A.len];exact hi)
theorem aaS (u w:V)(n:Nat)(a b:List Nat)(h:H)(o:1<=n)(r:n<=64)(A:aY n a)(B:aY n b)(d:SI h u (zi a))(f:SI h w (zi b)):
  Ev T 209 [u,w] h (λv h'=> ∃x,v= .tup [x,aC 0]/\PV (λq=>q<h.next) h' x (aM a b)/\Fr h h'):=by
 refine dW Ql rfl ?_
 have j:=SV.cT d
 have k:=SV.cT f
 obtain⟨m,z,G,p,F,i⟩:=dK (h:=h) rfl [u,w]
 simp(disch:=omega)only[go_sem,Ql,aE,Kj h (v:=u) (w:=w) ⟨j.1,j.2.1⟩ ⟨k.1,k.2.1⟩,z]
 refine (Bc _ [u,w] n m o r (by simp) (SV.all rfl om p _) (Oq A B d f i)).mono ?_
 rintro _ t ⟨rfl,s⟩
 have c:=i.trans s
 simp(disch:=omega)only[go_sem]
 refine bA (λy=>(y rfl).elim) (λ_=>?_)
 simp(disch:=omega)only[go_sem]
 refine (nZ qN.ok u w a b t (by rw[A.len];omega) (d.mono c) (f.mono c) (La A B)).mono ?_
 rintro x J l
 have:=c.next
 simp(disch:=omega)only[go_sem]
 exact⟨x,rfl,l.pv om,c.trans l.fr⟩
theorem aeE (u:V)(n:Nat)(a:List Nat)(h:H)(l:1<=n)(o:n<=64)(A:aY n a)(c:SI h u (zi a)):
  Ev T 208 [u] h (λv h'=> ∃x,v= .tup [x,aC 0]/\PV (λq=>q<h.next) h' x (bZ a)/\Fr h h'):=by
 refine dW Ps rfl ?_
 have f:=SV.cT c
 obtain⟨k,t,y,m,w,d⟩:=dK (h:=h) rfl [u]
 simp(disch:=omega)only[go_sem,Ps,aE,cK h (z:= .aD) f.1 f.2.1,t]
 refine (Bc _ [u] n k l o (by simp) (SV.one om m (.kn 1)) (λi hi=>⟨a,A,?_⟩)).mono ?_
 ·have:i=0:=by simpa using hi
  subst this
  exact c.mono d
 rintro _ r ⟨rfl,p⟩
 have b:=d.trans p
 simp(disch:=omega)only[go_sem]
 refine bA (λs=>(s rfl).elim) (λ_=>?_)
 simp(disch:=omega)only[go_sem]
 refine (Df zM.ok u n a r om A (c.mono b)).mono ?_
 rintro x B j
 have:=b.next
 simp(disch:=omega)only[go_sem]
 exact⟨x,rfl,j.pv om,b.trans j.fr⟩
theorem WU (u w:V)(n:Nat)(a b:List Nat)(h:H)(t:1<=n)(J:n<=64)(A:aY n a)(B:aY n b)(l:SI h u (zi a))(k:SI h w (zi b)):
  Ev T 207 [u,w] h (λv h'=> ∃x,v= .tup [x,aC 0]/\PV (λq=>q<h.next) h' x (aT a b)/\Fr h h'):=by
 refine dW Lc rfl ?_
 have o:=SV.cT l
 have p:=SV.cT k
 obtain⟨s,P,U,F,Q,m⟩:=dK (h:=h) rfl [u,w]
 simp(disch:=omega)only[go_sem,Lc,aE,Kj h (v:=u) (w:=w) ⟨o.1,o.2.1⟩ ⟨p.1,p.2.1⟩,P]
 refine (Bc _ [u,w] n s t J (by simp) (SV.all rfl om F _) (Oq A B l k m)).mono ?_
 rintro _ L ⟨rfl,K⟩
 have j:=m.trans K
 simp(disch:=omega)only[go_sem]
 refine bA (λN=>(N rfl).elim) (λ_=>?_)
 simp(disch:=omega)only[go_sem]
 refine (Df zM.ok w n b L om B (k.mono j)).mono ?_
 rintro x O r
 have d:=j.trans r.fr
 simp(disch:=omega)only[go_sem]
 refine (nZ qN.ok x u (bZ b) a O (by rw[B.inv.len];omega) (r.pv (W:=λ_=>False) id).si (l.mono d) (La B.inv A)).mono ?_
 rintro y G f
 have c:=d.trans f.fr
 simp(disch:=omega)only[go_sem]
 refine (nZ qN.ok y w (aM (bZ b) a) b G (by rw[(B.inv.mul A).len];omega) (f.pv (W:=λ_=>False) id).si (k.mono c) (La (B.inv.mul A) B)).mono ?_
 rintro z R i
 have:=c.next
 simp(disch:=omega)only[go_sem]
 exact⟨z,rfl,i.pv om,c.trans i.fr⟩
theorem VC (u w:V)(n:Nat)(a b:List Nat)(h:H)(Q:1<=n)(Y:n<=64)(A:aY n a)(B:aY n b)(o:SI h u (zi a))(p:SI h w (zi b)):
  Ev T 123 [u,w] h (λv h'=> ∃x,v= .tup [x,aC 0]/\PV (λq=>q<h.next) h' x (cU a b)/\Fr h h'):=by
 refine dW Lw rfl ?_
 have J:=SV.cT o
 have K:=SV.cT p
 obtain⟨L,e1,n1,R,o1,F⟩:=dK (h:=h) rfl [u,w]
 simp(disch:=omega)only[go_sem,Lw,aE,Kj h (v:=u) (w:=w) ⟨J.1,J.2.1⟩ ⟨K.1,K.2.1⟩,e1]
 refine (Bc _ [u,w] n L Q Y (by simp) (SV.all rfl om R _) (Oq A B o p F)).mono ?_
 rintro _ Z ⟨rfl,O⟩
 have l:=F.trans O
 simp(disch:=omega)only[go_sem]
 refine bA (λP=>(P rfl).elim) (λ_=>?_)
 simp(disch:=omega)only[go_sem]
 refine (Df zM.ok u n a Z om A (o.mono l)).mono ?_
 rintro x h3 G
 have i:=l.trans G.fr
 simp(disch:=omega)only[go_sem]
 refine (Df zM.ok w n b h3 om B (p.mono i)).mono ?_
 rintro y N d
 have r:=i.trans d.fr
 simp(disch:=omega)only[go_sem]
 refine (nZ qN.ok x y (bZ a) (bZ b) N (by rw[A.inv.len];omega) ((G.pv (W:=λ_=>False) id).si.mono d.fr) (d.pv (W:=λ_=>False) id).si (La A.inv B.inv)).mono ?_
 rintro z h5 k
 have c:=r.trans k.fr
 simp(disch:=omega)only[go_sem]
 refine (nZ qN.ok u w a b h5 (by rw[A.len];omega) (o.mono c) (p.mono c) (La A B)).mono ?_
 rintro s U f
 have m:=c.trans f.fr
 simp(disch:=omega)only[go_sem]
 refine (nZ qN.ok z s (aM (bZ a) (bZ b)) (aM a b) U (by rw[(A.inv.mul B.inv).len];omega) ((k.pv (W:=λ_=>False) id).si.mono f.fr) (f.pv (W:=λ_=>False) id).si (La (A.inv.mul B.inv) (A.mul B))).mono ?_
 rintro t h7 j
 have:=m.next
 simp(disch:=omega)only[go_sem]
 exact⟨t,rfl,j.pv om,m.trans j.fr⟩
theorem aN.ajN {α β:Type}{P:α->β->Prop}: ∀{a:List α} {b:List β},aN P a b->aN P (a.drop 1) (b.drop 1)
 | [], [],h=>h
 |_::_,_::_,h=>h.2
 | [],_::_,h=>h.elim
 |_::_, [],h=>h.elim
theorem Ml {n:Nat}{G:List Nat->Prop}{O:LN}{R:jJ}(b:dO n G)(a:aV n G O R){i:Nat}(hi:i<n):1<=(R.getD i []).length/\(R.getD i []).length<=n:=by
 rw[a.rl i hi];have:=(a.mem i hi i).2 ⟨aX n,b.one,Fix.one n i om,fM hi⟩;exact⟨Rl this,mY (tK (λx c=>b.bF c) hi (a.asc i hi) (a.mem i hi)) om⟩
theorem rT {n:Nat}{G:List Nat->Prop}{O:LN}{R:jJ}(b:dO n G)(a:aV n G O R):(cE R).length<=n*n:=by
 have:=uG (n:=n) (R:=R) (i:=n) (by rw[a.lr];exact fN _) (λj c=>(Ml b a c).2);rwa [Ro (by rw[a.lr];exact fN _)] at this
theorem zA {W:Nat->Prop}(vc:V)(n:Nat)(O:LN)(R:jJ)(G:List Nat->Prop)(t h:H)(x:GC W t vc n O R G)(f0:Fr t h):
  Ev T 122 [vc] h (λv h'=> ∃ws,dH h' v 1 ws h.next/\dZ W t ws (cE R)/\Fr h h'):=by
 obtain⟨vO,r,a2,q,rfl,sO,oO,pO,Y,oR,aR⟩:=x.cw
 refine dW xV rfl ?_
 have p:=(SV.cT sO).2.1
 have l:=(SV.cT Y).2.1
 have a:=x.isc
 have hG:=x.cY
 have n7:=x.n7
 have lR:=aN.length aR
 rw[a.lr] at lR
 obtain⟨B,hB⟩:=exI h.next
 obtain⟨h1,e1,n1,g1,o1,y⟩:=dK hB [aC n,vO,r]
 have bx:=bV h (v:= aC n) (u:=vO) (w:=r) rfl p l
 have Q:bL r=some (aC n):=by unfold bL;rw[SV.len Y (n:=n) om om];rfl
 obtain⟨K,d,U,f,cR⟩:=SV.shape Y n om om
 simp(disch:=omega)only[go_sem,xV,aE,bx,hB,e1,H.aF g1,Q]
 refine aI (λk' c s=> ∃(i:Nat) (P:V) (ws:List V),(∃g:Nat->V,c= [g 0,g 1,g 2,P,g 4,r,aC n,aC i,g 8])/\i<=n/\dH s P 1 ws h1.next/\dZ W t ws (cE (R.take i))/\Fr h1 s/\k'=n-i) n
  ⟨0,.aD, [],aB rfl,iB _,dH.aD _ _ _,trivial,Fr.refl _,rfl⟩ ?_
 rintro k' c s ⟨i,P,ws,⟨g,rfl⟩,hi,ow,pv,F,rfl⟩
 have nF:=F.next
 by_cases k:(i:Int)<(n:Int)
 case neg=>
  have L:=bI k;obtain rfl:i=n:=om
  rw[Ro (by rw[a.lr];exact fN _)] at pv;simp(disch:=omega)only[go_sem,L];exact⟨ws,ow.le om,pv,y.trans F⟩
 have L:=cI k
 have b:i<n:=om
 obtain⟨wr,Z,z,J,o⟩:=aN.get aR i om (by rw[a.lr];exact b)
 have er:R[i]'(by rw[a.lr];exact b)=R.getD i []:=by rw[List.getD,dD (by rw[a.lr];exact b)];rfl
 rw[er] at J
 have lw:=aN.length J
 obtain⟨r1,r2⟩:=Ml hG a b
 have ci:s.cell K (d+i)=some (q[i]'om):=by
  rw[(f0.trans (y.trans F)).cell (f om),cR i om,dD om]
 generalize q[i]'om=vr at Z z o ci
 obtain⟨vt,N,tt⟩:=GA Z o om
 have a1:=aN.length pv
 have sl:(cE (R.take i)).length<=i*n:=uG (by rw[a.lr];omega) (λj hj=>(Ml hG a om).2)
 have a0:i*n<=7*7:=Nat.mul_le_mul om n7
 obtain⟨v2,h2,ea,A⟩:=dH.app (bytes:=24) ow nF (tt.mono (f0.trans (y.trans F))) (n:=ws.length) (m:=wr.length- 1) om (by rw[Ra];omega) om om
 simp(disch:=omega)only[go_sem,L,U.ixa,ci,N,ea]
 rw[fJ i]
 refine⟨n-(i+1),om,i+1,v2,_,aB rfl,om,A.own,?_,A.fr _ F (fN _),rfl⟩
 rw[Be (by rw[a.lr];exact b)]
 exact aN.append pv (aN.ajN J)
theorem sD {α:Type}{l:List α}{i:Nat}{d:α}(hi:i<l.length):l[i]=l.getD i d:=by rw[List.getD,dD hi];rfl
theorem HA {W:Nat->Prop}(D:Nat)(u vO Q:V)(n:Nat)(O:LN)(R:jJ)(G:List Nat->Prop)(x:List Nat)(h:H)(gc:GC W h (.agg [aC n,vO,Q]) n O R G)(hD:D<h.next)(gD:h.get D=some (.cells false [aC n,vO,Q]))(X:aY n x)(hu:SI h u (zi x)):
  Ev T 165 [.ptr D 0,u] h (λv h'=> ∃b,v= .bool b/\(b=true↔G x)/\Fr h h'):=by
 obtain⟨c0,c1,a1,a0,e,sO,oO,pO,sR,oR,aR⟩:=gc.cw
 cases e
 refine dW qC rfl ?_
 have c:=gc.isc
 have r:=gc.cY
 have n7:=gc.n7
 have n0:=gc.n0
 have lR:=aN.length aR
 have lO:=aN.length pO
 rw[c.lr] at lR
 rw[c.lo] at lO
 have b0:bL Q=some (aC n):=by unfold bL;rw[SV.len sR (n:=n) om om];rfl
 obtain⟨a6,s,b2,N,cR⟩:=SV.shape sR n om om
 obtain⟨a8,J,b3,K,cO⟩:=SV.shape sO n om om
 have a2: ∀d,Fr h d->d.get D=some (.cells false [aC n,vO,Q]):=λd f=>by rw[f.get D hD];exact gD
 simp(disch:=omega)only[go_sem,qC,aE,H.aF gD,b0]
 refine aI (λk' m d=> ∃(i:Nat) (vx:V) (y:List Nat),(∃g:Nat->V,m= [.ptr D 0,vx,g 2,g 3,g 4,g 5,g 6,g 7,Q,aC n,aC i,g 11,g 12])/\i<=n/\SI d vx (zi y)/\aY n y/\Fix i y/\(G y↔G x)/\Fr h d/\k'=n-i) n
  ⟨0,u,x,aB rfl,iB _,hu,X,λk hk=>om,Iff.rfl,Fr.refl _,rfl⟩ ?_
 rintro k' m d ⟨i,vx,y,⟨g,rfl⟩,hi,sy,Y,l,o,F,rfl⟩
 by_cases P:(i:Int)<(n:Int)
 case neg=>
  have d1:=bI P;obtain rfl:i=n:=om
  simp(disch:=omega)only[go_sem,d1];exact⟨true,rfl,⟨λ_=>o.1 (by rw[Fix.all Y l];exact r.one),λ_=>rfl⟩,F⟩
 have d1:=cI P
 have a:i<n:=om
 obtain⟨wr,tr,a4,pr,a9⟩:=aN.get aR i om (by rw[c.lr];exact a)
 have er:R[i]'(by rw[c.lr];exact a)=R.getD i []:=sD _
 rw[er] at pr
 have lw:=aN.length pr
 obtain⟨r1,r2⟩:=Ml r c a
 have ci: ∀d,Fr h d->d.cell a6 (s+i)=some (a0[i]'om):=λd f=>by
  rw[f.cell (N om),cR i om,dD om]
 generalize a0[i]'om=vr at tr a4 a9 ci
 have po:=aN.get pO i om (by rw[c.lo];exact a)
 have eo:O[i]'(by rw[c.lo];exact a)=O.getD i []:=sD _
 rw[eo] at po
 have co:d.cell a8 (J+i)=some (a1[i]'om):=by
  rw[F.cell (K om),cO i om,dD om]
 generalize a1[i]'om=vo at po co
 obtain⟨b4,U,t,A,B⟩:=sy.open
 rw[aS,Y.len] at t A B
 obtain⟨p,hp⟩:=exI (y.getD i 0)
 have cy:d.cell b4 (U+i)=some (aC p):=by rw[B i a];congr 2;simp [zi,Y.len,a,←hp]
 have b9:(O.getD i []).length<=n:=mY (tK (λx hx=>r.bF hx) a (c.asc i a) (c.mem i a)) om
 have fb:Fr d (H.mk d.tr (d.next+18)):=(Fr.refl d).bH om
 simp(disch:=omega)only[go_sem,d1,b2.ixa,ci d F,H.aF (a2 d F),b3.ixa,co,t.ixa,cy]
 refine (Gi _ (O.getD i []) p _ om (c.asc i a) (po.si.mono (F.trans fb))).mono ?_
 rintro _ h2 ⟨k,f,rfl,b8,a5,f2⟩
 have q:=fb.trans f2
 have F2:=F.trans q
 cases f with
 |false=>
  have a3: ¬G x:=λhx=>by
   have:=b8.2 ((c.mem i a p).2 ⟨y,o.2 hx,l,hp⟩);cases this
  simp(disch:=omega)only[go_sem];exact⟨false,rfl,⟨λh=>(by cases h),λh=>absurd h a3⟩,F2⟩
 |true=>
  obtain⟨hk,b5⟩:=a5 rfl;have j:=c.rep i a k hk;rw[b5] at j;obtain⟨z,hz⟩:=exI ((R.getD i []).getD k []);rw[hz] at j;have Z:=r.bF j.mem;have b6:k<(R.getD i []).length:=by rw[c.rl i a];exact hk
  have pz:=aN.get pr k om b6;rw[show (R.getD i [])[k]=z from by rw[←hz];exact sD _] at pz;obtain⟨b7,L,b1,w,a7⟩:=tr.shape (R.getD i []).length om om;have ck:h2.cell b7 (L+k)=some (wr[k]'om):=by rw[F2.cell (w om),a7 k om,dD om]
  generalize wr[k]'om=vz at pz ck;simp(disch:=omega)only[go_sem,b1.ixa,ck];refine (aeE vz n z h2 n0 om Z (pz.si.mono F2)).mono ?_;rintro _ h3 ⟨vi,rfl,pi,f3⟩;simp(disch:=omega)only[go_sem];refine (aaS vx vi n y (bZ z) h3 n0 om Y Z.inv (sy.mono (q.trans f3)) pi.si).mono ?_;rintro _ h4 ⟨vm,rfl,pm,f4⟩;simp(disch:=omega)only[go_sem];rw[fJ i];refine⟨n-(i+1),om,i+1,vm,aM y (bZ z),aB rfl,om,pm.si,Y.mul Z.inv,?_,?_,F.trans (q.trans (f3.trans f4)),rfl⟩
  ·refine (Fix.mul Y om l (Fix.inv Z om j.fix)).succ ?_
   rw[dE (by rw[Y.len];exact a),hp];have:=wY Z a;rwa [j.maps] at this
  ·rw[←o]
   refine⟨λhm=>?_,λhy=>r.mul hy (r.inv j.mem)⟩;have:=r.mul hm j.mem;rwa [aG Y Z.inv Z,dL Z,aZ Y] at this
section
variable {W W':Nat->Prop} {h h':H} {n D:Nat} {O l:LN} {G:List Nat->Prop}
theorem GC.congr {c:V}{R:jJ}{G':List Nat->Prop}(g:GC W h c n O R G)(e: ∀x,G x↔G' x):GC W h c n O R G':=
 ⟨g.cw,g.isc.congr e,⟨λh=>g.cY.bF ((e _).2 h),(e _).1 g.cY.one,λa b=>(e _).1 (g.cY.mul ((e _).2 a) ((e _).2 b)),λa=>(e _).1 (g.cY.inv ((e _).2 a))⟩,g.n0,g.n7⟩
theorem GC.kO {a:V}{R:jJ}(g:GC W h a n O R G)(b: ∀id,id<h.next->W' id->W id):GC W' h a n O R G:=g.go (Fx.refl _ _) b
structure Qz (W:Nat->Prop)(h:H)(D n:Nat)(G:List Nat->Prop):Prop where
 ex: ∃vO vR O R,h.get D=some (.cells false [aC n,vO,vR])/\GC (λid=>W id∨id=D) h (.agg [aC n,vO,vR]) n O R G
 nx:D<h.next
 nW: ¬W D
theorem Qz.go (r:Qz W h D n G)(f:Fx W h h')(c: ∀q,q<h.next->W' q->W q):Qz W' h' D n G:=by
 obtain⟨d,i,O,R,g,j⟩:=r.ex;exact⟨⟨d,i,O,R,by rw[f.get D r.nx r.nW];exact g,j.go ⟨f.next,λid a b=>f.get id a λh=>b (.inl h)⟩ λq a b=>b.imp_left (c q a)⟩,jM r.nx f.next,λh=>r.nW (c _ r.nx h)⟩
theorem Qz.fx (r:Qz W h D n G)(f:Fx W h h'):Qz W h' D n G:=r.go f λ_ _ h=>h
theorem Qz.fr (r:Qz W h D n G)(f:Fr h h'):Qz W h' D n G:=r.fx (Fx.of f)
theorem Qz.kO (r:Qz W h D n G)(a: ∀q,q<h.next->W' q->W q):Qz W' h D n G:=r.go (Fx.refl _ _) a
theorem Qz.congr {G':List Nat->Prop}(r:Qz W h D n G)(e: ∀x,G x↔G' x):Qz W h D n G':=by
 obtain⟨a,b,O,R,g,c⟩:=r.ex;exact⟨⟨a,b,O,R,g,c.congr e⟩,r.nx,r.nW⟩
theorem ahF {x y z:V}(a:x.one=true)(b:y.one=true)(c:z.one=true):qU [aC 0,.aD,.aD] [(0,3,.agg [x,y,z])]=some (.agg [x,y,z]):=by
 simp [qU,iK,putAt,V.cells,a,b,c]
theorem OZ (n:Nat)(h:H)(K:1<=n)(n7:n<=7):
  Ev T 161 [aC n] h (λv h'=> ∃D,v= .ptr D 0/\h.next<=D/\Qz (λq=>q<h.next) h' D n (λx=>x=aX n)/\Fr h h'):=by
 refine dW An rfl ?_
 simp(disch:=omega)only[go_sem,An,aE]
 refine (Ms .aD n [] h K n7 (by decide) ⟨[],SV.aD _ _,trivial⟩ (λ_ h=>by cases h)).mono ?_
 rintro _ m ⟨vc,O,R,rfl,r,o⟩
 obtain⟨f,i,B,z,e,Q,oO,pO,L,oR,aR⟩:=r.cw
 subst e
 have c:=(SV.cT Q).2.1
 have d:=(SV.cT L).2.1
 obtain⟨A,p⟩:=exI m.next
 obtain⟨k,e2,n2,g2,J,f2⟩:=dK p [aC 0,.aD,.aD]
 obtain⟨j,Y,n3,N,t⟩:=mV k A [aC n,f,i]
 obtain⟨y,U,n4,g4,Z,f4⟩:=dK (h:=j) rfl [aC n,f,i]
 simp(disch:=omega)only[go_sem,p,e2,cF k A 0 (v:= aC n) (u:=f) (w:=i) rfl c d,g2,cH,Y,aJ N,ahF (x:= aC n) rfl c d,bV j (v:= aC n) (u:=f) (w:=i) rfl c d,U]
 have n1:=o.next
 have F:Fr m y:=⟨om,λq hq=>by rw[Z q om,t q om,J q om]⟩
 refine⟨j.next,rfl,om,⟨⟨f,i,O,R,g4,?_⟩,om,om⟩,o.trans F⟩
 have s:=r.congr (G':=λx=>x=aX n) λx=>⟨λP=>bM.le (G:=λx=>x=aX n) ⟨λe=>e▸aY.one n,rfl,λa b=>by rw[a,b,bX (aY.one n)],λa=>by rw[a,oX]⟩ (λ_ h=>by cases h) P,λe=>by rw[e];exact .one⟩
 exact (s.kO (W':=λid=>id<h.next∨id=j.next) λid m k=>k.elim (λh=>h) λe=>om).mono F
def Jn (n:Nat)(G:List Nat->Prop)(l:LN):List Nat->Prop:=bM n (λg=>G g∨g∈l)
theorem Jn.cY (a:dO n G)(b: ∀g∈l,aY n g):dO n (Jn n G l):=bM.cY λg h=>h.elim (λh=>a.bF h) (b g)
theorem Jn.nil (a:dO n G)(x:List Nat):G x↔Jn n G [] x:=
 ⟨λh=>bM.of (λg h=>h.elim (λh=>a.bF h) λh=>by cases h) (.inl h),λh=>bM.le a (λg h=>h.elim (λh=>h) λh=>by cases h) h⟩
theorem Jn.in {x:List Nat}(b:dO n G)(a: ∀g∈l,aY n g)(c:Jn n G l x)(y:List Nat):Jn n G l y↔Jn n G (l++ [x]) y:=by
 have d:=Jn.cY b a;have f: ∀g∈l++ [x],aY n g:=λg h=>(oD.1 h).elim (a g) λh=>by rw[List.mem_singleton.1 h];exact d.bF c
 refine⟨λh=>bM.mono (λg h=>h.imp_right λh=>oD.2 (.inl h)) h,λh=>bM.le d (λg h=>?_) h⟩;rcases h with h|h
 ·exact bM.of (λg h=>h.elim (λh=>b.bF h) (a g)) (.inl h)
 ·rcases oD.1 h with h|h
  ·exact bM.of (λg h=>h.elim (λh=>b.bF h) (a g)) (.inr h)
  ·rw[List.mem_singleton.1 h];exact c
theorem Jn.push {x:List Nat}{R:jJ}(b:dO n G)(f: ∀g∈l,aY n g)(X:aY n x)(c:aV n (Jn n G l) O R)(y:List Nat):bM n (· ∈cE R++ [x]) y↔Jn n G (l++ [x]) y:=by
 have j:=Jn.cY b f;have a: ∀g∈l++ [x],aY n g:=λg h=>(oD.1 h).elim (f g) λh=>by rw[List.mem_singleton.1 h];exact X
 have i: ∀g,g∈cE R++ [x]->aY n g:=λg h=>(oD.1 h).elim (λh=>j.bF (bE c h)) λh=>by rw[List.mem_singleton.1 h];exact X
 constructor
 ·refine λh=>bM.le (Jn.cY b a) (λg h=>?_) h
  rcases oD.1 h with h|h
  ·exact bM.mono (λg h=>h.imp_right λh=>oD.2 (.inl h)) (bE c h)
  ·exact bM.of (λg h=>h.elim (λh=>b.bF h) (a g)) (.inr (oD.2 (.inr h)))
 ·refine λh=>bM.le (bM.cY i) (λg h=>?_) h
  have d: ∀g,Jn n G l g->bM n (· ∈cE R++ [x]) g:=λg h=>bM.mono (λg h=>oD.2 (.inl h)) (oG j c h)
  rcases h with h|h
  ·exact d g (bM.of (λg h=>h.elim (λh=>b.bF h) (f g)) (.inl h))
  ·rcases oD.1 h with h|h
   ·exact d g (bM.of (λg h=>h.elim (λh=>b.bF h) (f g)) (.inr h))
   ·exact bM.of i (oD.2 (.inr h))
end
theorem KW (h:H)(a m:Nat)(ws:List V): ∃h',H.mk ((H.mk h.tr a).new (.cells false ws)).tr m=h'/\h'.next=m/\h'.get a=some (.cells false ws)/\ ∀q,q≠a->h'.get q=h.get q:=by
 obtain⟨i,f,k,c,b,j⟩:=dK (h:=H.mk h.tr a) rfl ws;rw[f];exact⟨_,rfl,rfl,c,λq d=>b q d⟩
theorem Ct (v:V):Oa (λ_=>False) v:=by cases v<;>first|exact id|trivial
theorem dZ.LO {W:Nat->Prop}{h:H}{v:V}{ws:List V}{l:LN}(sv:SV h v 1 ws)(p:dZ W h ws l):SP h v l:=by
 have a:=aN.length p
 exact⟨ws,sv,aN.lI (by simpa using a) λi hi b=>by
  have:=(aN.get p i hi om).si
  simpa using this⟩
theorem Yx {W:Nat->Prop}(D:Nat)(Y:V)(ws:List V)(n:Nat)(G:List Nat->Prop)(l:LN)(h:H)(n0:1<=n)(n7:n<=7)(hG:dO n G)(hP: ∀g∈l,aY n g)(hl:l.length<1000000)(hW: ∀q,W q->q<h.next)(hr:Qz W h D n G)(sv:SV h Y 1 ws)(b3:Oa (· =D) Y)(pv:dZ (· =D) h ws l):
  Ev T 162 [.ptr D 0,Y] h (λv h'=>v= .ptr D 0/\Qz W h' D n (Jn n G l)/\Fx (· =D) h h'):=by
 refine dW pE rfl ?_
 have lw:=aN.length pv
 have a2:bL Y=some (aC (l.length:Int)):=by unfold bL;rw[SV.len sv (n:=l.length) om om];rfl
 simp(disch:=omega)only[go_sem,pE,aE,a2]
 refine aI (λk' j hh=> ∃(i:Nat),(∃g:Nat->V,j= [.ptr D 0,g 1,g 2,g 3,Y,aC (l.length:Int),aC i,g 7,g 8])/\i<=l.length/\Qz W hh D n (Jn n G (l.take i))/\Fx (· =D) h hh/\k'=l.length-i) l.length
  ⟨0,aB rfl,iB _,hr.congr λx=>by rw[List.take_zero];exact Jn.nil hG x,Fx.refl _ _,rfl⟩ ?_
 rintro k' j hh ⟨i,⟨g,rfl⟩,hi,r,F,rfl⟩
 by_cases N:(i:Int)<(l.length:Int)
 case neg=>
  have d1:=bI N;obtain rfl:i=l.length:=om
  simp(disch:=omega)only[go_sem,d1];exact⟨by rw[List.take_length] at r;exact r,F⟩
 have d1:=cI N
 have o:i<l.length:=om
 obtain⟨id,J,sh,b6,hc⟩:=(sv.fx b3 F).shape l.length om om
 have U:=(aN.get pv i om o).fx F
 obtain⟨x,hx⟩:=exI (l.getD i [])
 rw[show l[i]=x from by rw[←hx];exact sD _] at U
 have cx:hh.cell id (J+i)=some (ws[i]'om):=by rw[hc i om,dD om]
 generalize ws[i]'om=vx at U cx
 have X:aY n x:=by rw[←hx];exact hP _ (bC o)
 have p: ∀g∈l.take i,aY n g:=λg hg=>hP g (List.mem_of_mem_take hg)
 have tk:l.take (i+1)=l.take i++ [x]:=by rw[←hx];exact eY [] o
 obtain⟨B,t,O,R,gD,gc⟩:=r.ex
 have nD:=r.nx
 have nF:=F.next
 simp(disch:=omega)only[go_sem,d1,sh.ixa,cx]
 refine (HA D vx B t n O R _ x hh gc nD gD X U.si).mono ?_
 rintro _ a ⟨bb,rfl,a3,A⟩
 have r2:=r.fr A
 have F2:Fx (· =D) h a:=F.trans (Fx.of (W:=(· =D)) A) λ_ _ h=>h
 cases bb with
 |true=>
  simp(disch:=omega)only[go_sem];rw[fJ i];exact⟨l.length-(i+1),om,i+1,aB rfl,om,r2.congr λy=>by rw[tk];exact Jn.in hG p (a3.1 rfl) y,F2,rfl⟩
 |false=>
  have a4:=gc.mono A;have d:a.get D=some (.cells false [aC n,B,t]):=by rw[A.get D nD];exact gD
  have n2:=A.next;have fb:Fr a (H.mk a.tr (a.next+21)):=(Fr.refl a).bH om;simp(disch:=omega)only[go_sem,H.aF d,aJ d];refine (zA _ n O R _ a (H.mk a.tr (a.next+21)) a4 fb).mono ?_;rintro vs h3 ⟨us,ow,pu,f3⟩;have K:=fb.trans f3;have n3:a.next+21<=h3.next:=f3.next;have b1:h3.get D=some (.cells false [aC n,B,t]):=by rw[K.get D om];exact d
  obtain⟨h4,e4,n4,g4,o4⟩:=KW h3 (a.next+12) h3.next [vx]
  have Z:Fr a h4:=⟨om,λq s=>by rw[o4 q om];exact K.get q s⟩
  have lu:=aN.length pu;have gl:=Jn.cY hG p;have b5:=rT gl gc.isc;have nn:n*n<=7*7:=Nat.mul_le_mul n7 n7;have wx:=SV.cT U.si;have L:dH h4 vs 1 us (a.next+21):=ow.mono om λq _ _ _ _ h1 _=>o4 q (by have:a.next+21<=q:=h1;omega)
  obtain⟨h5,a5,p5⟩:=L.push (bytes:=24) (SV.one (v:=vx) (id:=a.next+12) om g4 (.kn 1)) (n:=us.length) (m:=1) om rfl om om om;have n5:=p5.next;have ap: ∀k,k<a.next+21->dR vs k:=λk hk a6 J m c e=>by have:a.next+21<=a6:=(L.in _ _ _ _ e).2.1;omega
  have f:Fr a h5:=⟨om,λq s=>by rw[p5.old q om (ap q om)];exact Z.get q s⟩
  have b4:h4.get D=some (.cells false [aC n,B,t]):=by rw[Z.get D om];exact d
  have a9:SP h5 (.sl h4.next 0 (us.length+1) (.un 1)) (cE R++ [x]):=dZ.LO (W:=λ_=>False) (p5.own om rfl (b:=0) om).sv
   (aN.append (aN.mono (λ_ _ k=>⟨(k.si.mono f),Ct _⟩) pu) ⟨⟨U.si.mono (A.trans f),Ct _⟩,trivial⟩)
  have a1:h5.get D=some (.cells false [aC n,B,t]):=by rw[f.get D om];exact d
  have b2:okV (h5.cell D 0) (aC n)=true:=by rw[H.aF a1];simp [okV,dI]
  simp(disch:=omega)only[go_sem,H.aF b1,cK _ (z:= .aD) wx.1 wx.2.1,e4,H.aF b4,a5];refine⟨b2,?_⟩;refine (Ms _ n (cE R++ [x]) h5 n0 n7 (by rw[iV];simp;omega) a9 (λg hg=>(oD.1 hg).elim (λh=>gl.bF (bE gc.isc h)) λh=>by rw[List.mem_singleton.1 h];exact X)).mono ?_;rintro _ h6 ⟨vc,O2,R2,rfl,P,f6⟩;obtain⟨uO,uR,_,_,e,sO,_,_,sR,_,_⟩:=P.cw;subst e;have a0:=(SV.cT sO).2.1;have Q:=(SV.cT sR).2.1;have a7:=f.trans f6;have n6:=f6.next;have a8:h6.get D=some (.cells false [aC n,B,t]):=by rw[f6.get D om];exact a1
  obtain⟨h7,e7,b7,g7,o7⟩:=mV h6 D [aC n,uO,uR];simp(disch:=omega)only[go_sem,cF h6 D 0 (v:= aC n) (u:=uO) (w:=uR) rfl a0 Q,a8,cH,e7];rw[fJ i]
  have F7:Fx (· =D) a h7:=⟨om,λq h1 s=>by rw[o7 q s,a7.get q h1]⟩
  refine⟨l.length-(i+1),om,i+1,aB rfl,om,⟨⟨uO,uR,O2,R2,g7,?_⟩,om,r.nW⟩,F2.trans F7 λ_ _ h=>h,rfl⟩;have b0:=(P.congr (G':=Jn n G (l.take (i+1))) λy=>by rw[tk];exact Jn.push hG p X gc.isc y).kO (W':=λid=>W id∨id=D) λid h1 a=>a.elim (λh=>by have:=hW _ h;omega) λe=>om
  exact b0.go ⟨om,λq h1 s=>o7 q λe=>s (.inr e)⟩ λ_ _ h=>h
section
variable {n:Nat}
theorem gX {x y b:List Nat}(X:aY n x)(Y:aY n y)(B:aY n b):aT (aM x y) b=aM (aT x b) (aT y b):=by
 unfold aT;have i:=B.inv;rw[aG (i.mul X) B ((i.mul Y).mul B),←aG B (i.mul Y) B,←aG B i Y,cG B,bX Y,←aG i X Y,aG (i.mul X) Y B]
theorem mN {b:List Nat}(B:aY n b):aT (aX n) b=aX n:=by
 unfold aT;rw[aZ B.inv,dL B]
theorem GY {l:LN}{b:List Nat}(c: ∀g∈l,aY n g)(B:aY n b)(h: ∀x∈l,bM n (· ∈l) (aT x b)){x:List Nat}(a:bM n (· ∈l) x):bM n (· ∈l) (aT x b):=by
 induction a with
 |one=>rw[mN B];exact .one
 |mul a hg ih=>rw[gX (a.bF c) (c _ hg) B];exact ih.app c (h _ hg)
theorem JR {c l B:LN}(i: ∀b∈B,aY n b)(r: ∀g∈c,aY n g)(d: ∀g∈l,aY n g)(m: ∀g∈c,g∈l)(j: ∀g∈l,NC n (· ∈c) (· ∈B) g)(q: ∀x∈l,∀b∈B,bM n (· ∈l) (aT x b))(x:List Nat):bM n (· ∈l) x↔NC n (· ∈c) (· ∈B) x:=
 ⟨λh=>bM.le (NC.cY r i) j h,λh=>h.le (bM.cY d) (λa o=>bM.of d (m a o)) λ_ b p f=>GY d (i b f) (λz k=>q z k b f) p⟩
end
theorem RN (id R O P:Nat)(r:V)(B:LN)(n M:Nat)(n0:1<=n)(hn:n<=64)(hB: ∀b∈B,aY n b)(a6:B.length<1000000)(hM:M<10000000)(h:H)(J:Nat->Nat->LN->H->Prop)(l0:LN)(K:J 0 0 l0 h)
  (jF: ∀i k l hh,J i k l hh->hh.get R=bB [.ptr P 0]/\hh.get O=bB [r]/\(∃vl ws,hh.get P=bB [vl]/\SV hh vl 1 ws/\aN (λv x=>SI hh v (zi x)) ws l)/\SP hh r B/\l.length<=M/\ ∀g∈l,aY n g)
  (jf: ∀i k l hh h',J i k l hh->Fr hh h'->J i k l h')
  (jn: ∀i l hh,J i B.length l hh->J (i+1) 0 l hh)
  (hy: ∀i k l K hh v,i<l.length->k<B.length->J i k l K->Fr K hh->PV (λq=>q<K.next) hh v (aT (l.getD i []) (B.getD k []))->Ey T id [v] hh (λv h'=>v= .bool true/\ ∃l',i<l'.length/\J i (k+1) l' h')):
  Ev T 206 [.yl id,.ptr R 0,.ptr O 0] h (λ_ h'=> ∃l,J l.length 0 l h'):=by
 refine dW pV rfl ?_
 simp(disch:=omega)only[go_sem,pV,aE]
 refine aI (λt a hh=> ∃(i:Nat) (l:LN),(∃g:Nat->V,a= [.yl id,.ptr R 0,.ptr O 0,aC i,g 4,g 5,g 6,g 7,g 8,g 9,g 10,g 11])/\i<=l.length/\J i 0 l hh/\t=M-i) M
  ⟨0,l0,aB rfl,iB _,K,rfl⟩ ?_
 rintro t a h1 ⟨i,l,⟨g,rfl⟩,hi,j1,rfl⟩
 obtain⟨c,j,⟨vl,ws,F,sv,A⟩,sB,lM,hP⟩:=jF _ _ _ _ j1
 have lw:=aN.length A
 have m:bL vl=some (aC (l.length:Int)):=by unfold bL;rw[SV.len sv (n:=l.length) om om];rfl
 by_cases o:(i:Int)<(l.length:Int)
 case neg=>
  have Q:=bI o;obtain rfl:i=l.length:=om
  simp(disch:=omega)only[go_sem,H.aF c,H.aF F,m,Q];exact⟨l,j1⟩
 have Q:=cI o
 have N:=sB.lens
 rw[iA] at N
 simp(disch:=omega)only[go_sem,H.aF c,H.aF F,m,Q,H.aF j,N]
 refine aI (λt a hh=> ∃(k:Nat) (l:LN),(∃g:Nat->V,a= [.yl id,.ptr R 0,.ptr O 0,aC i,g 4,g 5,g 6,r,aC (B.length:Int),aC k,g 10,g 11])/\k<=B.length/\i<l.length/\J i k l hh/\t=B.length-k) B.length
  ⟨0,l,aB rfl,iB _,om,j1,rfl⟩ ?_
 clear c j F sv A m Q o
 rintro t a h2 ⟨k,l,⟨g,rfl⟩,hk,p,Z,rfl⟩
 obtain⟨c,j,⟨vl,ws,F,sv,A⟩,sB,lM,hP⟩:=jF _ _ _ _ Z
 by_cases G:(k:Int)<(B.length:Int)
 case neg=>
  have d2:=bI G;obtain rfl:k=B.length:=om
  simp(disch:=omega)only[go_sem,d2];rw[fJ i];exact⟨M-(i+1),om,i+1,l,aB rfl,om,jn _ _ _ Z,rfl⟩
 have d2:=cI G
 have f:k<B.length:=om
 have lw:=aN.length A
 obtain⟨a0,u,W,a3,a1⟩:=sv.shape l.length om om
 have sx:=aN.get A i om p
 rw[show l[i]=l.getD i [] from sD _] at sx
 have cl:h2.cell a0 (u+i)=some (ws[i]'om):=by rw[a1 i om,dD om]
 generalize ws[i]'om=vx at sx cl
 obtain⟨a5,a2,us,s,L,a4,U,z⟩:=sB.open
 rw[iA] at s L
 have cB:=U k (by rw[iA];exact f)
 have sb:=xJ z f
 generalize us.getD k V.undef=vb at cB sb
 have X:=hP _ (bC (d:= []) p)
 have Y:=hB _ (bC (d:= []) f)
 simp(disch:=omega)only[go_sem,d2,s.ixa,cB,H.aF c,H.aF F,W.ixa,cl]
 refine (WU vx vb n _ _ h2 n0 hn X Y sx sb).mono ?_
 rintro _ h3 ⟨w,rfl,pw,f3⟩
 simp(disch:=omega)only[go_sem]
 refine (hy i k l h2 h3 w p f Z f3 pw).mono ?_
 rintro _ h4 ⟨rfl,l',y,j4⟩
 simp(disch:=omega)only[go_sem]
 rw[fJ k]
 exact⟨B.length-(k+1),om,k+1,l',aB rfl,om,y,j4,rfl⟩
set_option maxRecDepth 100000
set_option maxRecDepth 100000
structure Plc (l:LN)(x:List Nat)(k:Nat):Prop where
 le:k<=l.length
 lo: ∀i,i<k->sQ (l.getD i []) x=true
 hi: ∀i,k<=i->i<l.length->sQ (l.getD i []) x=false
theorem WO (K y:V)(n:Nat)(l:LN)(x:List Nat)(h:H)(hn:n<1000)(hl:l.length<1000000)(hP: ∀g∈l,aY n g)(X:aY n x)(Z:l.Pairwise Lt)(hv:SP h K l)(hx:SI h y (zi x)):
  Ev T 93 [K,y] h (λv h'=> ∃k:Nat,v= .tup [aC k,.bool (decide (x∈l))]/\Plc l x k/\(x∈l->k<l.length/\l.getD k []=x)/\Fr h h'):=by
 obtain⟨O,sv,R⟩:=hv
 have a0:=aN.length R
 rw[iA] at a0
 refine dW Lh rfl ?_
 have lv:bL K=some (aC (l.length:Int)):=by unfold bL;rw[SV.len sv (n:=l.length) om om];rfl
 obtain⟨id,Q,sh,Y,hc⟩:=SV.shape sv l.length om om
 have a: ∀i,i<l.length->(l.getD i []).length=n:=λi hi=>(hP _ (bC hi)).len
 have mono: ∀i j,i<j->j<l.length->Lt (l.getD i []) (l.getD j []):=λi j r b=>by
  have ei:l.getD i []=l[i]:=by rw[List.getD,dD om];rfl
  have ej:l.getD j []=l[j]:=by rw[List.getD,dD b];rfl
  rw[ei,ej];exact GP.1 Z i j om b r
 have cell: ∀p,Fr h p-> ∀i,i<l.length->p.cell id (Q+i)=some (O.getD i .undef):=λp f i hi=>by
  rw[f.cell (Y om),hc i om];simp [List.getD,show i<O.length by omega]
 simp(disch:=omega)only[go_sem,Lh,aE,lv]
 refine bQ (λvs p=> ∃k,(∃g:Nat->V,vs= [K,y,g 2,g 3,aC (k:Nat),g 5,g 6,g 7,g 8])/\Plc l x k/\Fr h p) ?_ ?_
 ·refine aI (λk' d p=> ∃(i j:Nat),(∃g:Nat->V,d= [K,y,g 2,g 3,aC i,aC j,g 6,g 7,g 8])/\i<=j/\j<=l.length/\(∀q,q<i->sQ (l.getD q []) x=true)/\(∀q,j<=q->q<l.length->sQ (l.getD q []) x=false)/\Fr h p/\k'=j-i) l.length
   ⟨0,l.length,aB rfl,om,om,λm hm=>om,λm r b=>om,Fr.refl h,rfl⟩ ?_
  rintro k' d p ⟨i,j,⟨g,rfl⟩,a1,hj,A,J,F,rfl⟩
  by_cases G:(i:Int)<(j:Int)
  case neg=>
   have w:=bI G;obtain rfl:i=j:=om
   simp(disch:=omega)only[go_sem,w];exact⟨i,aB rfl,⟨hj,A,J⟩,F⟩
  have w:=cI G
  obtain⟨m,hm⟩:=exI ((i+j)/2)
  have ea:(i:Int)+(j:Int)=((i+j:Nat):Int):=om
  have L:((i+j:Nat):Int).tdiv 2=(m:Int):=by rw[Int.tdiv_eq_ediv_of_nonneg om];omega
  have B:=cell p F m om
  have sm:=xJ R (i:=m) om
  generalize O.getD m .undef=U at B sm
  simp(disch:=omega)only[go_sem,w,ea,L,sh.ixa,B]
  refine (abJ U y n _ x p om (a m om) X.len (sm.mono F) (hx.mono F)).mono ?_
  rintro _ s ⟨rfl,P⟩
  cases hl2:sQ (l.getD m []) x with
  |true=>
   simp(disch:=omega)only[go_sem];rw[fJ m];refine⟨j-(m+1),om,m+1,j,aB rfl,om,hj,λq hq=>?_,J,F.trans P,rfl⟩
   by_cases e:q=m
   ·rw[e];exact hl2
   ·have r:=mono q m om om
    have b:=(mQ (by rw[a m om,X.len])).1 hl2;exact (mQ (by rw[a q om,X.len])).2 (Lt.trans (by rw[a q om,a m om]) r b)
  |false=>
   simp(disch:=omega)only[go_sem];refine⟨m-i,om,i,m,aB rfl,om,om,A,λq r b=>?_,F.trans P,rfl⟩
   by_cases e:q=m
   ·rw[e];exact hl2
   ·rw[←Bool.not_eq_true]
    intro s;have o:=mono m q om b;have z:=(mQ (by rw[a q b,X.len])).1 s;rw[(mQ (by rw[a m om,X.len])).2 (Lt.trans (by rw[a q b,a m om]) o z)] at hl2;cases hl2
 rintro d b ⟨k,⟨g,rfl⟩,N,F⟩
 have c:x∈l->k<l.length/\l.getD k []=x:=λW=>by
  obtain⟨q,hq,eq⟩:=Ad.1 W;have t:l.getD q []=x:=by rw[List.getD,dD hq,←eq];rfl
  have r:k<=q:=Nat.le_of_not_lt λs=>by
   have:=N.lo q s;rw[t,yS] at this;cases this
  have b:k=q:=Nat.le_antisymm r (Nat.le_of_not_lt λs=>by
   have o:=mono k q s hq;rw[t] at o;have z:=N.hi k (fN _) om;rw[(mQ (by rw[a k om,X.len])).2 o] at z
   cases z)
  exact⟨om,by rw[b];exact t⟩
 by_cases hk:(k:Int)<(l.length:Int)
 ·have w:=cI hk
  have B:=cell b F k om
  have sm:=xJ R (i:=k) om
  generalize O.getD k .undef=U at B sm
  simp(disch:=omega)only[go_sem,lv,w,sh.ixa,B]
  refine (We U y _ _ b (sm.mono F) (hx.mono F) (by rw[aS,a k om];omega) (by rw[aS,X.len];omega)).mono ?_
  rintro _ s ⟨rfl,P⟩
  have L:decide (zi (l.getD k [])=zi x)=decide (x∈l):=by
   rw[decide_eq_decide];constructor
   ·intro o
    have z:l.getD k []=x:=List.map_inj_right (λu v b=>om)|>.1 o;rw[←z];exact bC om
   ·intro o;rw[(c o).2]
  simp(disch:=omega)only[go_sem,L]
  exact⟨k,rfl,N,c,F.trans P⟩
 ·have w:=bI hk
  have L:decide (x∈l)=false:=bI λo=>by have:=(c o).1;omega
  simp(disch:=omega)only[go_sem,lv,w]
  exact⟨k,by rw[L],N,c,F⟩
theorem Iv {g:Nat}(N:T g=some jO.fn)(u w:V)(a b:List (List Int))(h:H)(hu:SR h u a)(hw:SR h w b)(la:a.length<1000000)(lb:b.length<1000000)(ra: ∀x∈a,x.length<1000000)(rb: ∀x∈b,x.length<1000000):
  Ev T g [u,w] h (λv h'=>v= .bool (decide (a=b))/\Fr h h'):=by
 refine mX N rfl ?_
 have y:=hu.lens
 have lw:=hw.lens
 obtain⟨P,sa,aa⟩:=hu
 obtain⟨Q,sb,ab⟩:=hw
 have a1:=aN.length aa
 have a0:=aN.length ab
 obtain⟨id,n,sh,o,hc⟩:=SV.shape sa a.length om om
 obtain⟨m,f,B,d,O⟩:=SV.shape sb b.length om om
 by_cases U:(a.length:Int)=(b.length:Int)
 case neg=>
  have L:=cI U;simp(disch:=omega)only[go_sem,jO,aE,y,lw,L];exact⟨by rw[bI];intro e;exact U (by rw[e]),Fr.refl h⟩
 have Y:a.length=b.length:=om
 have L:decide ((a.length:Int)≠(b.length:Int))=false:=bI (by simpa using U)
 simp(disch:=omega)only[go_sem,jO,aE,y,lw,L]
 refine aI (λk' k c=> ∃(i:Nat),(∃g:Nat->V,k= [u,w,g 2,aC i,g 4,g 5,g 6])/\i<=a.length/\(∀j,j<i->a.getD j []=b.getD j [])/\Fr h c/\k'=a.length-i) a.length
  ⟨0,aB rfl,iB _,λj hj=>om,Fr.refl h,rfl⟩ ?_
 rintro k' k c ⟨i,⟨g,rfl⟩,hi,hs,F,rfl⟩
 by_cases q:(i:Int)<(a.length:Int)
 case neg=>
  have e1:=bI q;obtain rfl:i=a.length:=om
  simp(disch:=omega)only[go_sem,y,e1]
  have:a=b:=by
   refine List.ext_getElem Y λj h1 h2=>?_
   have:=hs j h1;rwa [List.getD,dD h1,List.getD,dD h2] at this
  exact⟨by rw[cI this],F⟩
 have e1:=cI q
 have J:c.cell id (n+i)=some (P.getD i .undef):=by
  rw[F.cell (o om),hc i om];simp [List.getD,show i<P.length by omega]
 have K:c.cell m (f+i)=some (Q.getD i .undef):=by
  rw[F.cell (d om),O i om];simp [List.getD,show i<Q.length by omega]
 have W:=FJ aa (i:=i) om
 have R:=FJ ab (i:=i) om
 generalize P.getD i .undef=va at J W
 generalize Q.getD i .undef=vb at K R
 have p:=W.dI
 have l:=R.dI
 simp(disch:=omega)only[go_sem,y,e1,sh.ixa,J,B.ixa,K]
 refine (We va vb _ _ _ (W.mono (F.trans ((Fr.refl c).bH om))) (R.mono (F.trans ((Fr.refl c).bH om))) (ra _ (bC om)) (rb _ (bC om))).mono ?_
 rintro _ z ⟨rfl,Z⟩
 have F3:=F.trans (((Fr.refl c).bH om).trans Z)
 have s:z.cell id (n+i)=some va:=by
  have G:Fr c z:=((Fr.refl c).bH om).trans Z;rw[G.cell (by have:=o om;have:=F.next;omega)];exact J
 have r:z.cell m (f+i)=some vb:=by
  have G:Fr c z:=((Fr.refl c).bH om).trans Z;rw[G.cell (by have:=d om;have:=F.next;omega)];exact K
 by_cases t:a.getD i []=b.getD i []
 ·have A:=cI t
  simp(disch:=omega)only[go_sem,A,s,r,p,l]
  rw[fJ i]
  refine⟨a.length-(i+1),om,i+1,aB rfl,om,λj hj=>?_,F3,rfl⟩
  by_cases e:j=i
  ·rw[e];exact t
  ·exact hs j om
 ·have A:=bI t
  simp(disch:=omega)only[go_sem,A,s,r,p,l]
  exact⟨by rw[bI];intro e;exact t (by rw[e]),F3⟩
theorem Vw (u w:V)(a b:List (List Int))(h:H)(i:SR h u a)(d:SR h w b)(f:a.length<1000000)(lb:b.length<1000000)(c: ∀x∈a,x.length<1000000)(j: ∀x∈b,x.length<1000000):
  Ev T 90 [u,w] h (λv h'=>v= .bool (decide (a=b))/\Fr h h'):=Iv jO.ok u w a b h i d f lb c j
theorem Un (u w:V)(a b:List (List Int))(h:H)(i:SR h u a)(d:SR h w b)(f:a.length<1000000)(lb:b.length<1000000)(c: ∀x∈a,x.length<1000000)(j: ∀x∈b,x.length<1000000):
  Ev T 41 [u,w] h (λv h'=>v= .bool (decide (a=b))/\Fr h h'):=Iv Mi.ok u w a b h i d f lb c j
theorem Wi (v1 v2:V)(z U:Int)(O1 O2:List (List Int))(b d:List (List (List Int)))(h:H)(c1:YD h v1 z O1 b)(c2:YD h v2 U O2 d)(a6:Bf O1)(a8:Bf O2)(W:tE b)(L:tE d):
  Ev T 31 [v1,v2] h (λv h'=>v= .bool (decide (z=U/\O1=O2/\b=d))/\Fr h h'):=by
 obtain⟨vO,G,e,sO,sR⟩:=c1
 subst e
 obtain⟨uO,P,e,tO,tR⟩:=c2
 subst e
 refine dW rZ rfl ?_
 have b6:vO.one=true:=oNs sO
 have b3:G.one=true:=oNt sR
 have N:uO.one=true:=by obtain⟨_,t,_⟩:=tO;exact t.cT.2.1
 have Q:P.one=true:=by obtain⟨_,t,_⟩:=tR;exact t.cT.2.1
 have a5:dI G G=true:=by obtain⟨_,t,_⟩:=sR;exact t.dI
 have B:dI P P=true:=by obtain⟨_,t,_⟩:=tR;exact t.dI
 obtain⟨A,hA⟩:=exI h.next
 obtain⟨h1,e1,n1,g1,o1,f1⟩:=dK hA [aC z,vO,G]
 obtain⟨c,e2,n2,g2,o2,f2⟩:=dK n1 [aC U,uO,P]
 have bx:=λa:H=>bV a (v:= aC z) (u:=vO) (w:=G) rfl b6 b3
 have a7:=λa:H=>bV a (v:= aC U) (u:=uO) (w:=P) rfl N Q
 have F2:=f1.trans f2
 have gA:c.get A=bB [aC z,vO,G]:=by rw[o2 _ om];exact g1
 have a0: ∀a,Fr c a->a.cell A 0=some (aC z):=λa f=>by rw[f.cell om,H.aF gA];rfl
 have a1: ∀a,Fr c a->a.cell A 1=some vO:=λa f=>by rw[f.cell om,H.aF gA];rfl
 have a2: ∀a,Fr c a->a.cell A 2=some G:=λa f=>by rw[f.cell om,H.aF gA];rfl
 have b0: ∀a,Fr c a->a.cell (A+1) 0=some (aC U):=λa f=>by rw[f.cell om,H.aF g2];rfl
 have b1: ∀a,Fr c a->a.cell (A+1) 1=some uO:=λa f=>by rw[f.cell om,H.aF g2];rfl
 have b2: ∀a,Fr c a->a.cell (A+1) 2=some P:=λa f=>by rw[f.cell om,H.aF g2];rfl
 have r2:=Fr.refl c
 by_cases hd:z=U
 case neg=>
  have e3:=cI hd;simp(disch:=omega)only[go_sem,rZ,aE,bx,a7,hA,e1,n1,e2,a0 c r2,b0 c r2,e3,xX];exact⟨by rw[bI];exact λx=>hd x.1,F2⟩
 have e3:decide (z≠U)=false:=bI (by simpa using hd)
 simp(disch:=omega)only[go_sem,rZ,aE,bx,a7,hA,e1,n1,e2,a0 c r2,b0 c r2,a1 c r2,b1 c r2,e3]
 have mem: ∀{l:List (List Int)},(∀i,i<l.length->(l.getD i []).length<1000000)-> ∀x∈l,x.length<1000000:=λhl x p=>by
  obtain⟨i,hi,rfl⟩:=Ad.1 p;have:=hl i hi;rwa [List.getD,dD hi] at this
 refine (Vw vO uO O1 O2 c (sO.mono F2) (tO.mono F2) a6.1 a8.1 (mem a6.2) (mem a8.2)).mono ?_
 rintro _ h3 ⟨rfl,Z⟩
 obtain⟨wR,b5,aR,_⟩:=sR
 obtain⟨zR,K,b9,_⟩:=tR
 have d3:=W.1
 have d0:=L.1
 have d5:=aN.length aR
 have d4:=aN.length b9
 have o:bL G=some (aC (b.length:Int)):=by unfold bL;rw[SV.len b5 (n:=b.length) om om];rfl
 have a4:bL P=some (aC (d.length:Int)):=by unfold bL;rw[SV.len K (n:=d.length) om om];rfl
 have F3:=F2.trans Z
 by_cases hO:O1=O2
 case neg=>
  have e4:=bI hO;simp(disch:=omega)only[go_sem,e4,xX];exact⟨by rw[bI];exact λx=>hO x.2.1,F3⟩
 have e4:=cI hO
 by_cases hl:(b.length:Int)=(d.length:Int)
 case neg=>
  have e5:=cI hl;simp(disch:=omega)only[go_sem,e4,a2 h3 Z,b2 h3 Z,o,a4,e5];exact⟨by rw[bI];exact λx=>hl (by rw[x.2.2]),F3⟩
 have e5:decide ((b.length:Int)≠(d.length:Int))=false:=bI (by simpa using hl)
 have c6:b.length=d.length:=om
 obtain⟨id,c4,sh,c5,hc⟩:=SV.shape b5 b.length om om
 obtain⟨c3,b7,c7,b4,c9⟩:=SV.shape K d.length om om
 simp(disch:=omega)only[go_sem,e4,a2 h3 Z,b2 h3 Z,o,a4,e5]
 refine aI (λk' J a=> ∃(i:Nat),(∃g:Nat->V,J= [g 0,g 1,.ptr A 0,.ptr (A+1) 0,g 4,aC i,g 6,g 7,g 8])/\i<=b.length/\(∀j,j<i->b.getD j []=d.getD j [])/\Fr h3 a/\k'=b.length-i) b.length
  ⟨0,aB rfl,iB _,λj hj=>om,Fr.refl h3,rfl⟩ ?_
 rintro k' J a ⟨i,⟨g,rfl⟩,hi,hs,F,rfl⟩
 have q:=Z.trans F
 by_cases a9:(i:Int)<(b.length:Int)
 case neg=>
  have e1:=bI a9;obtain rfl:i=b.length:=om
  simp(disch:=omega)only[go_sem,a2 a q,o,e1]
  have:b=d:=by
   refine List.ext_getElem c6 λj h1 c=>?_
   have:=hs j h1;rwa [List.getD,dD h1,List.getD,dD c] at this
  exact⟨by rw[cI ⟨hd,hO,this⟩],F3.trans F⟩
 have e1:=cI a9
 have O:i<b.length:=om
 have m: ∀p,Fr h p->p.cell id (c4+i)=some (wR.getD i .undef):=λp f=>by
  rw[f.cell (c5 om),hc i om];simp [List.getD,show i<wR.length by omega]
 have r: ∀p,Fr h p->p.cell c3 (b7+i)=some (zR.getD i .undef):=λp f=>by
  rw[f.cell (b4 om),c9 i om];simp [List.getD,show i<zR.length by omega]
 have gg: ∀{ws:List V} {R:List (List (List Int))},aN (SR h) ws R->i<R.length->SR h (ws.getD i .undef) (R.getD i []):=λ{ws R} al b8=>by
  have h1:=aN.length al;have:=aN.get al i om b8;rw[List.getD,List.getD,dD om,dD b8];exact this
 have s1:=gg aR O
 have s2:=gg b9 om
 generalize wR.getD i .undef=va at m s1
 generalize zR.getD i .undef=vb at r s2
 have c0:dI va va=true:=by obtain⟨_,t,_⟩:=s1;exact t.dI
 have a3:dI vb vb=true:=by obtain⟨_,t,_⟩:=s2;exact t.dI
 have Fh:=F3.trans F
 simp(disch:=omega)only[go_sem,a2 a q,b2 a q,o,e1,sh.ixa,c7.ixa,m a Fh,r a Fh]
 refine (Un va vb _ _ _ (s1.mono (Fh.trans ((Fr.refl a).bH om))) (s2.mono (Fh.trans ((Fr.refl a).bH om))) (W.2 i O).1 (L.2 i om).1 (mem (W.2 i O).2) (mem (L.2 i om).2)).mono ?_
 rintro _ s ⟨rfl,c8⟩
 have f4:Fr a s:=((Fr.refl a).bH om).trans c8
 have y:=q.trans f4
 have k:=Fh.trans f4
 by_cases he:b.getD i []=d.getD i []
 ·have Y:decide (b.getD i []=d.getD i [])=true:=cI he
  simp(disch:=omega)only[go_sem,Y,a2 s y,b2 s y,m s k,r s k,c0,a3,a5,B]
  rw[fJ i]
  refine⟨b.length-(i+1),om,i+1,aB rfl,om,λj hj=>?_,F.trans f4,rfl⟩
  by_cases e:j=i
  ·rw[e];exact he
  ·exact hs j om
 ·have Y:decide (b.getD i []=d.getD i [])=false:=bI he
  simp(disch:=omega)only[go_sem,Y,a2 s y,b2 s y,m s k,r s k,c0,a3,a5,B]
  exact⟨by rw[bI];exact λx=>he (by rw[x.2.2]),k⟩
set_option maxRecDepth 100000
set_option maxRecDepth 100000
set_option maxRecDepth 100000
theorem Yi {b:List Cls.KE}{i:Nat}(hi:i<b.length):(sX b)[i*3]? =some b[i].rep/\(sX b)[i*3+1]? =some (aC (b[i].ord:Int))/\(sX b)[i*3+2]? =some (aC (b[i].size:Int)):=by
 induction b generalizing i with
 |nil=>simp at hi
 |cons a r ih=>
  have e:sX (a::r)= [a.rep,aC (a.ord:Int),aC (a.size:Int)]++sX r:=rfl
  cases i with
  |zero=>exact⟨rfl,rfl,rfl⟩
  |succ i=>
   have c:=ih (i:=i) (by simpa using hi);rw[e,show (i+1)*3=i*3+3 by omega];refine⟨?_,?_,?_⟩
   ·rw[Jg (by simp)];exact c.1
   ·rw[Jg (by simp)];exact c.2.1
   ·rw[Jg (by simp)];exact c.2.2
end Go.Proofs.YtcdbmkidaecdiaaGreat
namespace Go.Pm
set_option maxRecDepth 100000
section
variable {n:Nat} {t:rX}
theorem pQ.gt (T:pQ n t){i p:Nat}{y:List Nat}(h:t i p=some y):i<p:=by
 have Y:=T.bF _ _ _ h;have F:=T.fix _ _ _ h;obtain⟨b,c,d⟩:=T.lt _ _ _ h;have m:=T.maps _ _ _ h;rcases Nat.lt_or_ge p i with a|a
 ·exact absurd (Y.inj b c (m.trans (F p a).symm)) oq
 ·omega
def eR (t:rX)(i p:Nat):Al:=(List.range p).filterMap (t i)
def eB (n:Nat)(t:rX)(i:Nat):Al:=(List.range i).flatMap λi=>eR t i n
theorem GI (i p:Nat):eR t i (p+1)=eR t i p++(t i p).toList:=by
 unfold eR;rw[List.range_succ,List.filterMap_append];cases h:t i p<;>simp [h]
theorem IM (i:Nat):eB n t (i+1)=eB n t i++eR t i n:=by
 unfold eB;rw[List.range_succ,List.flatMap_append];simp
theorem Vm:eB n t n=fZ n t 0:=by
 unfold eB fZ eR;simp
theorem zD (T:pQ n t):(fZ n t 0).Nodup:=by
 have f: ∀i p a j y,t i p=some y->t a j=some y->i=a/\p=j:=λi p a j y d k=>by
  have u:=T.gt d;have v:=T.gt k;have m:=T.fix _ _ _ d;have q:=T.fix _ _ _ k;have r:=T.maps _ _ _ d;have o:=T.maps _ _ _ k
  have e:i=a:=by
   rcases Nat.lt_trichotomy i a with h|h|h
   ·have:=q i h;omega
   ·exact h
   ·have:=m a h;omega
  subst e;exact⟨rfl,r.symm.trans o⟩
 rw[←Vm];unfold eB;rw[List.Nodup,List.pairwise_flatMap];refine⟨λi _=>?_,?_⟩
 ·unfold eR
  rw[List.pairwise_filterMap];refine (List.nodup_range (n:=n)).imp ?_;intro p j c y l s b e;subst e;exact c (f _ _ _ _ _ l b).2
 ·refine (List.nodup_range (n:=n)).imp ?_
  intro i a c y l s b e;subst e;obtain⟨p,_,d⟩:=List.mem_filterMap.1 l;obtain⟨j,_,k⟩:=List.mem_filterMap.1 b;exact c (f _ _ _ _ _ d k).1
def frF (n:Nat)(t:rX)(l:Al):Al:=(fZ n t 0).filter λy=>decide (y∉l)
def clF (n:Nat)(t:rX)(x:List Nat)(l:Al):Al:=if (fZ n t 0).length<(fZ n (jK t n x) 0).length then l++frF n (jK t n x) l else l
structure Ed (n:Nat)(L:List Nat->Prop)(t:rX)(l:Al):Prop where
 tl:Na n L t
 nd:l.Nodup
 mem: ∀y,y∈l↔y∈fZ n t 0
variable {L:List Nat->Prop} {l:Al}
theorem Ed.bF (c:Ed n L t l): ∀y∈l,aY n y:=λy a=>c.tl.tab.OK y ((c.mem y).1 a)
theorem Ed.bound (c:Ed n L t l):l.length<=n^n:=Cu c.nd c.bF
theorem Ed.start (c:Na n L t):Ed n L t (fZ n t 0):=⟨c,zD c.tab,λ_=>Iff.rfl⟩
theorem Zf {a:rX}(s:Sub t a): ∀y,y∈fZ n t 0->y∈fZ n a 0:=λy d=>by
 obtain⟨i,p,b,c,h,f⟩:=gO.1 d;exact gO.2 ⟨i,p,b,c,h,s _ _ _ f⟩
theorem Ed.step (c:Ed n L t l)(A: ∀g,L g->aY n g){x:List Nat}(B:bM n L x):
  Ed n L (jK t n x) (clF n t x l)/\Sub t (jK t n x)/\ins (jK t n x) n 0 x=none/\ ∃m,clF n t x l=l++m:=by
 obtain⟨a,f,J⟩:=c.tl.ins A B
 have p:=zD a.tab
 refine⟨?_,f,J,?_⟩
 ·cases h:ins t n 0 x with
  |none=>
   have e:jK t n x=t:=by unfold jK;rw[h]
   unfold clF;rw[e,if_neg (Nat.lt_irrefl _)];exact c
  |some q=>
   obtain⟨i,r⟩:=q;have e:jK t n x=put t i (r.getD i 0) r:=by unfold jK;rw[h]
   obtain⟨Z,w,Q,U,Y,N,_⟩:=Ax c.tl.tab n 0 x i r oq (B.bF A) (λk hk=>oq) h;have P:r∈fZ n (jK t n x) 0:=gO.2 ⟨i,r.getD i 0,Nat.zero_le _,w,Q.fX w,by rw[e];unfold put;rw[if_pos ⟨rfl,rfl⟩]⟩
   have o:r∉fZ n t 0:=λh=>by
    obtain⟨j,q,_,_,_,d⟩:=gO.1 h;have u:=f _ _ _ d;have g1:=a.tab.gt u;have G:=a.tab.fix _ _ _ u;have R:=a.tab.maps _ _ _ u;have K:jK t n x i (r.getD i 0)=some r:=by rw[e];unfold put;rw[if_pos ⟨rfl,rfl⟩]
    have g2:=a.tab.gt K
    have v:i=j:=by
     rcases Nat.lt_trichotomy i j with h|h|h
     ·have:=G i h;omega
     ·exact h
     ·have:=U j h;omega
    subst v;rw[←R] at d;rw[N] at d;cases d
   have s:(fZ n t 0).length<(fZ n (jK t n x) 0).length:=by
    have:(r::fZ n t 0).length<=(fZ n (jK t n x) 0).length:=List.Nodup.length_le_of_subset (List.nodup_cons.2 ⟨o,zD c.tl.tab⟩) (λy b=>by
     rcases List.mem_cons.1 b with rfl|b
     ·exact P
     ·exact Zf f y b)
    rw[List.length_cons] at this;omega
   unfold clF;rw[if_pos s];refine⟨a,List.nodup_append.2 ⟨c.nd,p.filter _,λy b z O W=>?_⟩,λy=>?_⟩
   ·subst W
    have:=(List.mem_filter.1 O).2;simp at this;exact this b
   ·rw[List.mem_append]
    unfold frF;rw[List.mem_filter];constructor
    ·rintro (h|h)
     ·exact Zf f y ((c.mem y).1 h)
     ·exact h.1
    ·intro h
     by_cases F:y∈l
     ·exact .inl F
     ·exact .inr ⟨h,by simpa using F⟩
 ·unfold clF
  split
  ·exact⟨_,rfl⟩
  ·exact⟨[],(List.append_nil _).symm⟩
theorem Ed.gen (c:Ed n L t l): ∀y∈l,bM n L y:=λy a=>c.tl.gen y ((c.mem y).1 a)
def Pr (n:Nat)(t:rX)(l:Al)(a b:Nat):Prop:=ins t n 0 (aM (l.getD a []) (l.getD b []))=none
theorem Pr.mono {c:rX}{m:Al}{a b:Nat}(h:Pr n t l a b)(s:Sub t c)(f:a<l.length)(i:b<l.length):Pr n c (l++m) a b:=by
 have e: ∀k,k<l.length->(l++m).getD k []=l.getD k []:=λk d=>by rw[List.getD,List.getD,List.getElem?_append_left d]
 unfold Pr;rw[e a f,e b i];exact Gz s _ _ _ h
theorem Ed.closed (c:Ed n L t l)(h: ∀a b,a<l.length->b<l.length->Pr n t l a b):Km n t:=λa b m o=>by
 obtain⟨i,hi,p⟩:=List.mem_iff_getElem.1 ((c.mem a).2 m);obtain⟨j,d,k⟩:=List.mem_iff_getElem.1 ((c.mem b).2 o);have:=h i j hi d;unfold Pr at this;have f:l.getD i []=a:=by rw[List.getD,List.getElem?_eq_getElem hi,←p];rfl
 have q:l.getD j []=b:=by rw[List.getD,List.getElem?_eq_getElem d,←k];rfl
 rwa [f,q] at this
def Ea (t:rX)(i k:Nat):List Nat:=(List.range k).filter λp=>p==i||(t i p).isSome
theorem DH (T:pQ n t)(i:Nat):Ea t i i= []:=by
 unfold Ea;refine List.filter_eq_nil_iff.2 λp b=>?_
 have:=List.mem_range.1 b;simp only[Bool.or_eq_true,beq_iff_eq,not_or];refine⟨oq,λh=>?_⟩;obtain⟨y,a⟩:=Option.isSome_iff_exists.1 h;have:=T.gt a;omega
theorem OA (i k:Nat):Ea t i (k+1)=Ea t i k++if k=i∨(t i k).isSome then [k] else []:=by
 unfold Ea;rw[List.range_succ,List.filter_append]
 by_cases h:k=i
 ·subst h;simp
 ·have e:(k==i)=false:=by simpa using h
  cases h2:t i k<;>simp [h,h2,List.filter,e]
theorem QE (i:Nat):Ea t i n=(lF n t i).orb:=rfl
theorem TZ (i k:Nat):(Ea t i k).Pairwise (· < ·):=List.pairwise_lt_range.filter _
end
end Go.Pm
namespace Go.Proofs.YtcdbmkidaecdiaaGreat
open Go Go.Ay Go.Pm
set_option maxRecDepth 100000
theorem Oy (h:H)(x:Int):mH h 1 [aC 0] 1 [(0,1,aC x)]=some (.sl h.next 0 1 (.kn 1),h.new (.cells false (ints [x]))):=by
 have e:dP [aC 0] 1= [aC 0]:=rfl;simp [mH,iK,e,putAt,V.cells,V.one,ints]
theorem XU {h:H}{v:V}{sz b:Nat}{ws:List V}(o:dH h v sz ws b): ∀id off len cap,v= .sl id off len cap->b<=id:=by
 rcases o with ⟨rfl,_⟩|⟨id,n,cap,a,rfl,_,_,c,_⟩
 ·intro _ _ _ _ e;cases e
 ·intro _ _ _ _ e;cases e;exact c
theorem Mo (l:List Nat)(x:Nat):zi (l++ [x])=zi l++ [(x:Int)]:=by simp [zi]
theorem Ku {l:List Nat}{i:Nat}(hi:i<l.length):l.take (i+1)=l.take i++ [l.getD i 0]:=by
 rw[List.take_add_one,dD hi,cW hi];rfl
theorem vT (u w:V)(a b:List Nat)(h:H)(hN:a.length<=1000)(N:SI h u (zi a))(hw:SI h w (zi b))(hr: ∀i,i<a.length->a.getD i 0<b.length):
  Ev T 40 [u,w] h (λv h'=>SI h' v (zi (aM a b))/\Fr h h'/\ ∀id off len cap,v= .sl id off len cap->h.next<=id):=by
 refine dW Rz rfl ?_
 have P:=N.lens
 rw[aS] at P
 obtain⟨id,off,W,t,Q⟩:=N.open
 rw[aS] at W t Q
 obtain⟨J,s,q,p,x⟩:=hw.open
 rw[aS] at q p x
 simp(disch:=omega)only[go_sem,Rz,aE]
 refine aI (λO l R=> ∃(i:Nat) (o:V),(∃j:Nat->V,l= [u,w,j 2,o,aC i,j 5])/\i<=a.length/\dH R o 1 (ints (zi ((aM a b).take i))) h.next/\Fr h R/\O=a.length-i) a.length
  ⟨0,.aD,aB rfl,iB _,dH.aD _ _ _,Fr.refl h,rfl⟩ ?_
 rintro O l c ⟨i,o,⟨jk,rfl⟩,hi,G,F,rfl⟩
 simp(disch:=omega)only[go_sem,P]
 by_cases A:(i:Int)<(a.length:Int)
 ·rw[cI A]
  have d:i<a.length:=om
  have ci:c.cell id (off+i)=some (aC (a.getD i 0:Nat)):=by rw[F.cell (t om),Q i d];congr 2;simp [zi,d]
  have r:=hr i d
  have U:=dE (b:=b) d
  generalize hk:a.getD i 0=k at ci r U
  have ck:c.cell J (s+k)=some (aC (b.getD k 0:Nat)):=by rw[F.cell (p om),x k r];congr 2;simp [zi,r]
  simp(disch:=omega)only[go_sem,W.ixa,ci,q.ixa,ck,Oy]
  have f:Fr c (c.new (.cells false (ints [((b.getD k 0:Nat):Int)]))):=(Fr.refl c).new _
  have y:(c.new (.cells false (ints [((b.getD k 0:Nat):Int)]))).get c.next=some (.cells false (ints [((b.getD k 0:Nat):Int)])):=H.aL ..
  have Y:(c.new (.cells false (ints [((b.getD k 0:Nat):Int)]))).next=c.next+1:=H.aW ..
  generalize c.new (.cells false (ints [((b.getD k 0:Nat):Int)]))=K at*
  have sx:SV K (.sl c.next 0 1 (.kn 1)) 1 (ints [((b.getD k 0:Nat):Int)]):=SV.all rfl om y _
  have nF:=F.next
  have hl:(aM a b).length=a.length:=fQ a b
  obtain⟨v2,Z,L,z⟩:=(G.fr f).app (bytes:=8) (n:=i) (m:=1) om sx (by rw[aP,aS,zO,tW];omega) rfl om om
  simp(disch:=omega)only[go_sem,L]
  have B:=z.own
  rw[←rP,←U,←Mo,←Ku om] at B
  rw[fJ i]
  exact⟨a.length-(i+1),om,i+1,v2,aB rfl,om,B,z.fr h (F.trans f) (fN _),rfl⟩
 rw[bI A]
 obtain rfl:i=a.length:=om
 simp(disch:=omega)only[go_sem]
 rw[Ro (by rw[fQ];omega)] at G
 exact⟨G.sv,F,XU G⟩
theorem Vk (n:Nat)(h:H)(J:n<=1000):
  Ev T 91 [aC n] h (λv h'=>SI h' v (zi (aX n))/\Fr h h'/\ ∀id off len cap,v= .sl id off len cap->h.next<=id):=by
 refine dW Ds rfl ?_
 simp(disch:=omega)only[go_sem,Ds,aE]
 refine aI (λt c u=> ∃(i:Nat) (o:V),(∃j:Nat->V,c= [aC n,j 1,o,aC i,j 4])/\i<=n/\dH u o 1 (ints (zi ((aX n).take i))) h.next/\Fr h u/\t=n-i) n
  ⟨0,.aD,aB rfl,iB _,dH.aD _ _ _,Fr.refl h,rfl⟩ ?_
 rintro t c a ⟨i,o,⟨G,rfl⟩,hi,p,F,rfl⟩
 simp(disch:=omega)only[go_sem]
 by_cases f:(i:Int)<(n:Int)
 ·rw[cI f]
  have q:i<n:=om
  simp(disch:=omega)only[go_sem,Oy]
  have b:Fr a (a.new (.cells false (ints [(i:Int)]))):=(Fr.refl a).new _
  have k:(a.new (.cells false (ints [(i:Int)]))).get a.next=some (.cells false (ints [(i:Int)])):=H.aL ..
  have w:(a.new (.cells false (ints [(i:Int)]))).next=a.next+1:=H.aW ..
  generalize a.new (.cells false (ints [(i:Int)]))=r at*
  have z:SV r (.sl a.next 0 1 (.kn 1)) 1 (ints [(i:Int)]):=SV.all rfl om k _
  have L:=F.next
  have K:=iH n
  obtain⟨y,x,s,d⟩:=(p.fr b).app (bytes:=8) (n:=i) (m:=1) om z (by rw[aP,aS,zO,tW];omega) rfl om om
  simp(disch:=omega)only[go_sem,s]
  have l:=d.own
  have A:=fM q
  have B:zi ((aX n).take i)++ [(i:Int)]=zi ((aX n).take (i+1)):=by rw[Ku om,Mo,A]
  rw[←rP,B] at l
  rw[fJ i]
  exact⟨n-(i+1),om,i+1,y,aB rfl,om,l,d.fr h (F.trans b) (fN _),rfl⟩
 rw[bI f]
 obtain rfl:i=n:=om
 simp(disch:=omega)only[go_sem]
 rw[Ro (by rw[iH];omega)] at p
 exact⟨p.sv,F,XU p⟩
theorem HJ (u:V)(n:Nat)(a:List Nat)(h:H)(Z:n<=1000)(A:aY n a)(B:SI h u (zi a)):
  Ev T 39 [u] h (λv h'=>Yz h h' v (bZ a)):=by
 refine dW Ue rfl ?_
 have l:=A.len
 have w:=B.lens
 rw[aS,l] at w
 obtain⟨id,off,N,m,J⟩:=B.open
 rw[aS,l] at N m J
 simp(disch:=omega)only[go_sem,Ue,aE,w,tY h n om]
 have q:Fr h (h.new (.cells false (rc n λ_=> aC 0))):=(Fr.refl h).new _
 have d:(h.new (.cells false (rc n λ_=> aC 0))).get h.next=some (.cells false (rc n λ_=> aC 0)):=H.aL ..
 have f:(h.new (.cells false (rc n λ_=> aC 0))).next=h.next+1:=H.aW ..
 generalize h.new (.cells false (rc n λ_=> aC 0))=W at*
 obtain⟨S,o⟩:=exI h.next
 rw[o] at d f
 rw[o]
 refine aI (λG c x=> ∃(i:Nat),(∃j:Nat->V,c= [u,.aD,.sl S 0 n (.kn n),aC i,j 4])/\i<=n/\
   x.get S=some (.cells false (rc n λj=>if a.idxOf j<i then aC (a.idxOf j:Nat) else aC 0))/\x.next=S+1/\Fr h x/\G=n-i) n
  ⟨0,aB rfl,iB _,by rw[d];rfl,f,q,rfl⟩ ?_
 clear d q f
 rintro G c O ⟨i,⟨Y,rfl⟩,hi,z,y,F,rfl⟩
 simp(disch:=omega)only[go_sem,w]
 by_cases p:(i:Int)<(n:Int)
 ·rw[cI p]
  have b:i<n:=om
  have ci:O.cell id (off+i)=some (aC (a.getD i 0:Nat)):=by rw[F.cell (m om),J i b];congr 2;simp [zi,l,b]
  have r:=A.fX b
  have L:a.idxOf (a.getD i 0)=i:=A.inj (A.idx r).1 b (A.idx r).2
  generalize P:a.getD i 0=k at ci r L
  have Q:decide ((k:Int)<0)=false:=bI om
  have t:decide ((n:Int)<=(k:Int))=false:=bI om
  have K:=bT (vs:=rc n λj=>if a.idxOf j<i then aC (a.idxOf j:Nat) else aC 0) (off:=k) (by rw[iQ];exact r) O S (aC i)
  rw[lH] at K
  simp(disch:=omega)only[go_sem,N.ixa,ci,Q,t,z,K]
  rw[fJ i]
  refine⟨n-(i+1),om,i+1,aB rfl,om,?_,y,F.set om _,rfl⟩
  congr 2
  refine dJ λj s=>?_
  by_cases e:j=k
  ·rw[bJ e,e,L,bJ om]
  ·rw[bU e]
   have R:a.idxOf j≠i:=λU=>e (by rw[←(A.idx s).2,U,P])
   by_cases t:a.idxOf j<i
   ·rw[bJ t,bJ om]
   ·rw[bU t,bU om]
 rw[bI p]
 obtain rfl:i=n:=om
 simp(disch:=omega)only[go_sem]
 refine⟨by rw[jU,l,o],?_,by rw[o];exact y,F⟩
 rw[o,z]
 congr 2
 rw[←Sq,jU,l]
 exact dJ λj s=>by rw[bJ (A.idx s).1,zL (by rw[l];exact s)]
end Go.Proofs.YtcdbmkidaecdiaaGreat
