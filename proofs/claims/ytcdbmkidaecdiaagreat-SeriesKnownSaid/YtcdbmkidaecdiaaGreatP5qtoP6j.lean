/- Texts of the claim. -/
import Derived.Test.YtcdbmkidaecdiaaGreatDp2toP5p
import Derived.Test.YtcdbmkidaecdiaaGreatAy39
import Derived.Test.YtcdbmkidaecdiaaGreatC16code
import Derived.Sort.AssemblyPlain
set_option maxHeartbeats 64000000
namespace Go.Proofs.YtcdbmkidaecdiaaGreat
open Go Go.Ay Go.Pm
set_option maxRecDepth 100000
section
variable {n i:Nat} {O:List (List Int)} {R:List (List (List Int))}
def VG (n:Nat)(O:List (List Int))(R:List (List (List Int)))(j:Nat):Prop:=((R.getD j []).length=(O.getD j []).length/\(R.getD j []).length<=n-j)/\ ∀x∈R.getD j [],x.length=n/\mV x=true
theorem ON.of (a:O.length=n)(h2:R.length=n)(h: ∀j,j<n->VG n O R j):ON n O R:=⟨a,h2,λi hi=>(h i hi).1,λi hi=>(h i hi).2⟩
theorem Pq (a:1<=n)(h2:n<=64)(h: ¬ON n O R):Um (n:Int) O R=3:=by
 unfold Um;rw[bI om,bI (λc=>h c.frm)]
theorem bD {α:Type}{l:List α}{k:Nat}{d:α}(h:k<l.length):l.getD k d∈l:=by
 rw[List.getD,dD h];exact zG h
theorem fT {α:Type}{l:List α}{k:Nat}(d:α)(h:k<l.length):l.take (k+1)=l.take k++ [l.getD k d]:=by
 rw[←List.take_append_getElem h,List.getD,dD h];rfl
theorem tY {R:List (List (List Int))}{m:Nat}: ∀{i:Nat},i<=R.length->(∀j,j<i->(R.getD j []).length<=m)->((R.take i).flatten).length<=i*m
 |0,_,_=>by simp
 |i+1,h,hr=>by
  rw[←List.take_append_getElem (show i<R.length by omega),List.flatten_append,jZ];have b:=tY (i:=i) om (λj c=>hr j om);have a:=hr i om;rw[List.getD,dD om] at a;have a:R[i].length<=m:=a;simp only[List.flatten_cons,List.flatten_nil,vF];rw[Nat.succ_mul];omega
theorem Jv {G:List Nat->Prop}(b: ∀x,G x->bE n x){O:LN}{R:jI}(f:n<=64)(c:bC n G O R):zV (O.map zi)/\sN (R.map (List.map zi)):=by
 have a: ∀i,i<n->(O.getD i []).length<=n:=λi hi=>mT (uQ b hi (c.asc i hi) (c.mem i hi)) om
 refine⟨⟨by rw[jV,c.lo];omega,λi hi=>?_⟩,⟨by rw[jV,c.lr];omega,λi hi=>?_⟩⟩
 ·rw[jV,c.lo] at hi
  have:(O.map zi).getD i []=zi (O.getD i []):=by simp [List.getD,show i<O.length by rw[c.lo];exact hi]
  rw[this,aQ];have:=a i hi;omega
 ·rw[jV,c.lr] at hi
  have e:(R.map (List.map zi)).getD i []=(R.getD i []).map zi:=by simp [List.getD,show i<R.length by rw[c.lr];exact hi]
  rw[e,jV,c.rl i hi];refine⟨by have:=a i hi;omega,λk d=>?_⟩
  have:((R.getD i []).map zi).getD k []=zi ((R.getD i []).getD k []):=by
   have:=c.rl i hi;simp [List.getD,show k<(R[i]?.getD []).length by simp [List.getD] at this d;omega]
  rw[this,aQ,(b _ (c.rep i hi k d).mem).len];omega
theorem sN.out (s:sN R):Mf R:=⟨s.1,λi hi=>(s.2 i hi).1⟩
theorem Mf.inn (s:Mf R)(f: ∀i,i<R.length-> ∀x∈R.getD i [],x.length=n)(b:n<=64):sN R:=⟨s.1,λi hi=>⟨s.2 i hi,λk a=>by rw[f i hi _ (bD a)];omega⟩⟩
theorem LV {α:Type}{R:List (List α)}(hi:i<R.length):(R.take (i+1)).flatten=(R.take i).flatten++R.getD i []:=by
 rw[←List.take_append_getElem hi,List.flatten_append];simp [List.getD,hi]
structure JR (h hh:H)(B id b:Nat)(r:eH)(n:Nat)(vO vR:V)(O:List (List Int))(R:List (List (List Int)))(i:Nat)(acc:List (List Int)):Prop where
 gB:hh.get B=some (.cells false [aC n,vO,vR])
 gR:hh.get (B+1)=some (.cells false [aC 0])
 gN:hh.get (B+1+1)=some (.cells false [aC n])
 gA: ∃va ws,hh.get (B+1+1+1)=some (.cells false [va])/\cY hh va 1 ws (id+1)/\aM (SI h) ws acc
 gr:hh.get id=some (.loop r)
 gb:hh.get b=some (.cells false [aC n,vO,vR])
 nx:id<hh.next
 fr:Fr h hh
 rows: ∀j,j<i->VG n O R j
structure CkD (h hh:H)(B id:Nat)(r:eH)(n:Nat)(O:List (List Int))(R:List (List (List Int))):Prop where
 gR:hh.get (B+1)=some (.cells false [aC 3])
 gr:hh.get id=some (.loop (tX r .ret))
 nx:id<hh.next
 fr:Fr h hh
 bad: ¬ON n O R
theorem JR.mono {h d h2:H}{B id b:Nat}{r:eH}{j e:V}{c:List (List Int)}(J:JR h d B id b r n j e O R i c)(m:B+1+1+1<id)(p:b<id)(f:Fr d h2):JR h h2 B id b r n j e O R i c:=by
 obtain⟨l,k,g,o,a⟩:=J.gA;have:=J.nx;exact⟨by rw[f.get _ om];exact J.gB,by rw[f.get _ om];exact J.gR,by rw[f.get _ om];exact J.gN,⟨l,k,by rw[f.get _ om];exact g,o.fr f,a⟩,by rw[f.get _ om];exact J.gr,by rw[f.get _ om];exact J.gb,iW J.nx f.next,J.fr.trans f,J.rows⟩
theorem JR.loop {h d h2:H}{B id b:Nat}{r r2:eH}{j e:V}{c:List (List Int)}(J:JR h d B id b r n j e O R i c)(t:B+1+1+1<id)(w:b<id)(q:h.next<=B)(g:h2.get id=some (.loop r2))(f:h2.next=d.next)(o: ∀k,k≠id->h2.get k=d.get k):JR h h2 B id b r2 n j e O R i c:=by
 obtain⟨m,l,p,s,a⟩:=J.gA;refine⟨by rw[o _ om];exact J.gB,by rw[o _ om];exact J.gR,by rw[o _ om];exact J.gN,⟨m,l,by rw[o _ om];exact p,s.mono om λk _ _ _ _ v _=>o k om,a⟩,g,by rw[o _ om];exact J.gb,by rw[f];exact J.nx,⟨by rw[f];exact J.fr.next,λk u=>by rw[o k om];exact J.fr.get k u⟩,J.rows⟩
theorem VW (vc:V)(d:Int)(O:List (List Int))(R:List (List (List Int)))(h:H)(hc:WI h vc d O R)(hd:d<=7∨64<d)(so:zV O)(sr:Mf R):
  Ev T 135 [vc] h (λv h'=>v= aC (Um d O R)/\Fr h h'):=by
 obtain⟨o,p,rfl,sO,sR⟩:=hc
 refine cV kT rfl ?_
 obtain⟨wO,tO,aO⟩:=sO
 obtain⟨wR,tR,aR,kR⟩:=sR
 have lO:=aO.length
 have lR:=aR.length
 have b8:bT o=some (aC (O.length:Int)):=by unfold bT;rw[tO.len (n:=O.length) om om];rfl
 have d4:bT p=some (aC (R.length:Int)):=by unfold bT;rw[tR.len (n:=R.length) om om];rfl
 have a8:=tO.cK.2.1
 have a9:=tR.cK.2.1
 obtain⟨B,hB⟩:=exI h.next
 obtain⟨h1,e1,n1,g1,o1,f1⟩:=dF hB [aC d,o,p]
 obtain⟨h2,e2,n2,g2,o2,f2⟩:=dF n1 [aC 0]
 obtain⟨h3,e3,n3,g3,o3,f3⟩:=dF n2 [aC 0]
 obtain⟨h4,e4,n4,g4,o4⟩:=pJ h3 (B+1+1) [aC d]
 have N:h2.get B=some (.cells false [aC d,o,p]):=by rw[o2 _ om];exact g1
 have a5:h4.get B=some (.cells false [aC d,o,p]):=by rw[o4 _ om,o3 _ om];exact N
 have t:h4.get (B+1)=some (.cells false [aC 0]):=by rw[o4 _ om,o3 _ om];exact g2
 have F4:Fr h h4:=by
  refine⟨om,λid b4=>?_⟩;rw[o4 _ om,o3 _ om,o2 _ om,o1 _ om]
 have Y: ∀(l:H) (id:Nat) (x y:Int),dX (some (.cells false [aC x])) l id 0 [aC y]=some (l.set id (some (.cells false [aC y]))):=λl id x y=>bN (by simp) l _ _
 have bx:=bM h (v:= aC d) (u:=o) (w:=p) rfl a8 a9
 have j5:=H.aF t
 have a1: ∀z:Int,(h4.set (B+1) (some (.cells false [aC z]))).cell (B+1) 0=some (aC z)/\Fr h (h4.set (B+1) (some (.cells false [aC z]))):=λz=>⟨by rw[H.Dl];rfl,F4.set om _⟩
 by_cases b7:d<1
 ·have s:=bP b7
  simp(disch:=omega)only[go_sem,kT,aD,bx,hB,e1,n1,e2,n2,e3,H.aF N,g3,Y,e4,H.aF g4,s,t]
  exact⟨by unfold Um;rw[bF (.inl b7)],(a1 2).2⟩
 have s:=bH b7
 by_cases b1:64<d
 ·have d2:=bP b1
  simp(disch:=omega)only[go_sem,kT,aD,bx,hB,e1,n1,e2,n2,e3,H.aF N,g3,Y,e4,H.aF g4,s,d2,t]
  exact⟨by unfold Um;rw[bF (.inr b1)],(a1 2).2⟩
 have d2:=bH b1
 obtain⟨n,rfl⟩: ∃n:Nat,d=(n:Int):=⟨d.toNat,om⟩
 have Z:1<=n:=om
 have c6:n<=7:=om
 by_cases b0:(O.length:Int)≠(n:Int)
 ·have dl:=bP b0
  simp(disch:=omega)only[go_sem,kT,aD,bx,hB,e1,n1,e2,n2,e3,H.aF N,g3,Y,e4,H.aF g4,s,d2,t,H.aF a5,b8,dl]
  exact⟨by rw[Pq Z om (λf=>b0 (by have:=f.lo;omega))],(a1 3).2⟩
 have dl:=bH b0
 by_cases c0:(R.length:Int)≠(n:Int)
 ·have b3:=bP c0
  simp(disch:=omega)only[go_sem,kT,aD,bx,hB,e1,n1,e2,n2,e3,H.aF N,g3,Y,e4,H.aF g4,s,d2,t,H.aF a5,b8,dl,d4,b3]
  exact⟨by rw[Pq Z om (λf=>c0 (by have:=f.lr;omega))],(a1 3).2⟩
 have b3:=bH c0
 have c3:h4.next=B+1+1+1:=by rw[n4];exact n3
 obtain⟨h5,e5,n5,g5,o5,f5⟩:=dF c3 [.aE]
 have d8:h5.get B=some (.cells false [aC n,o,p]):=by rw[o5 _ om];exact a5
 have rB:=aI d8
 simp(disch:=omega)only[go_sem,kT,aD,bx,hB,e1,n1,e2,n2,e3,H.aF N,g3,Y,e4,H.aF g4,s,d2,t,H.aF a5,b8,dl,d4,b3,c3,e5,rB]
 refine (HD (n:Int) o p a8 a9 h5).mono ?_
 rintro _ U ⟨rfl,g6,n6,f6⟩
 simp(disch:=omega)only[go_sem]
 have F6:Fr h U:=(F4.trans f5).trans f6
 have j3:U.get B=some (.cells false [aC n,o,p]):=by rw[f6.get _ om];exact d8
 have g8:U.get (B+1)=some (.cells false [aC 0]):=by rw[f6.get _ om,f5.get _ om];exact t
 have i9:U.get (B+1+1)=some (.cells false [aC n]):=by rw[f6.get _ om,f5.get _ om];exact g4
 have i7:U.get (B+1+1+1)=some (.cells false [.aE]):=by rw[f6.get _ om];exact g5
 refine⟨rfl,uJ λr hr=>?_⟩
 obtain⟨id,b4⟩:=exI U.next
 obtain⟨b,hb⟩:=exI h5.next
 rw[hb] at g6 n6
 rw[b4,hb]
 have iP:r.st= .ready:=by rw[hr]
 have b2:r.pend=none:=by rw[hr]
 have j4:R.length=n:=om
 have i2:O.length=n:=om
 have f7:Fr U (U.new (.loop r)):=(Fr.refl U).new _
 have o7: ∀k,k<id->(U.new (.loop r)).get k=U.get k:=λk hk=>H.bG U om _
 have J0:JR h (U.new (.loop r)) B id b r n o p O R 0 []:=
  ⟨by rw[o7 _ om];exact j3,by rw[o7 _ om];exact g8,by rw[o7 _ om];exact i9,⟨.aE, [],by rw[o7 _ om];exact i7,cY.aE _ _ _,trivial⟩,by rw[←b4,H.aL],by rw[o7 _ om];exact g6,by rw[H.aU];omega,F6.trans f7,λj hj=>om⟩
 refine (Zb id b (n:Int) o p wR _ (by rw[lR];exact sr.1) (λi l=>JR h l B id b r n o p O R i (R.take i).flatten) (λl=>CkD h l B id r n O R) J0 (λi l J=>⟨J.gb,tR.mono J.fr⟩) ?_).mono ?_
 ·rintro i l hi J
  have a6:i<n:=om
  refine sZ J.gr (by rw[hr];rfl) iP λP g7 n7 o7=>?_
  rw[congrArg eH.assign hr,congrArg eH.vars hr,congrArg eH.pars hr]
  simp(disch:=omega)only[go_sem,List.zip_cons_cons,List.zip_nil_left]
  rw[congrArg eH.body hr]
  have J7:JR h P B id b (pW r) n o p O R i (R.take i).flatten:=J.loop om om om g7 n7 o7
  have c4:=iG aO (i:=i) om .undef []
  have e0:=iG aR (i:=i) om .undef []
  obtain⟨wr,tr,ar⟩:=e0
  have lr:=ar.length
  have c2:bT (wR.getD i .undef)=some (aC ((R.getD i []).length:Int)):=by unfold bT;rw[tr.len (n:=(R.getD i []).length) om om];rfl
  have b9:=c4.lens
  obtain⟨i3,d3,a4,e6,c9⟩:=(tO.mono J7.fr).shape O.length om om
  have co:P.cell i3 (d3+i)=some (wO.getD i .undef):=by rw[c9 i om,List.getD,dD om];rfl
  have cB:=H.aF J7.gB
  have cN:=H.aF J7.gN
  have c7: ∀l K,JR h l B id b (pW r) n o p O R i K-> ¬ON n O R->CkD h ((l.set (B+1) (some (.cells false [aC 3]))).set id (some (.loop (tX r .ret)))) B id r n O R:=λl K J hb=>by
   have:=J.nx;refine⟨by rw[H.aG _ om,H.aS],by rw[H.aS],J.nx,(J.fr.set om _).set om _,hb⟩
  have yq: ∀l q K,JR h l B id b (pW r) n o p O R i K-> ¬ON n O R->Jc id (λv h'=>v= .bool true/\JR h h' B id b r n o p O R (i+1) (R.take (i+1)).flatten∨v= .bool false/\CkD h h' B id r n O R) .ret q (l.set (B+1) (some (.cells false [aC 3]))):=λl q K J hb=>
   Ta (by rw[H.aG _ om];exact J.gr) (.inr ⟨rfl,c7 l K J hb⟩)
  by_cases A:((R.getD i []).length:Int)≠((O.getD i []).length:Int)
  ·have s:=bP A
   simp(disch:=omega)only[go_sem,c2,cB,a4.ixa,co,b9,s,J7.gR,Y]
   exact yq _ _ _ J7 λf=>A (by have:=(f.row i a6).1;omega)
  have s:=bH A
  by_cases c8:(n:Int)-(i:Int)<((R.getD i []).length:Int)
  ·have d2:=bP c8
   simp(disch:=omega)only[go_sem,c2,cB,cN,a4.ixa,co,b9,s,d2,J7.gR,Y]
   exact yq _ _ _ J7 λf=>by have:=(f.row i a6).2;omega
  have d2:=bH c8
  simp(disch:=omega)only[go_sem,c2,cB,cN,a4.ixa,co,b9,s,d2]
  refine aH (λk' q l=> ∃(k:Nat),(∃g:Nat->V,q= [g 0,.ptr B 0,.ptr (B+1) 0,.ptr (B+1+1) 0,.ptr (B+1+1+1) 0,g 5,g 6,g 7,g 8,g 9,g 10,g 11,g 12,g 13,wR.getD i .undef,aC ((R.getD i []).length:Int),aC k,g 17,g 18,g 19])/\k<=(R.getD i []).length/\JR h l B id b (pW r) n o p O R i ((R.take i).flatten++(R.getD i []).take k)/\
    (∀x∈(R.getD i []).take k,x.length=n/\mV x=true)/\k'=(R.getD i []).length-k) (R.getD i []).length
   ⟨0,aB rfl,iJ _,by rw[List.take_zero,vF];exact J7,λx hx=>by simp at hx,rfl⟩ ?_
  clear co cB cN e6 c9 J7 s d2 a4 g7 n7 o7 P
  rintro k' q h8 ⟨k,⟨g,rfl⟩,hk,Q,b5,rfl⟩
  by_cases e7:(k:Int)<((R.getD i []).length:Int)
  case neg=>
   have e1:=bH e7;obtain rfl:k=(R.getD i []).length:=om
   rw[List.take_length] at Q b5;rw[←LV om] at Q;simp(disch:=omega)only[go_sem,e1];refine oX iP b2 Q.gr (.inl ⟨rfl,?_⟩);have a:=Q.loop (h2:=h8.set id (some (.loop r))) om om om (by rw[H.aS]) rfl (λk hk=>H.aG _ hk _)
   have c1: ∀j,j<i+1->VG n O R j:=λj hj=>by
    by_cases e:j=i
    ·subst e;exact⟨⟨om,om⟩,b5⟩
    ·exact a.rows j om
   exact⟨a.gB,a.gR,a.gN,a.gA,a.gr,a.gb,a.nx,a.fr,c1⟩
  have e1:=bP e7
  have a2:k<(R.getD i []).length:=om
  obtain⟨x,hx⟩:=exI ((R.getD i []).getD k [])
  have sx:=iG ar a2 .undef []
  rw[hx] at sx
  have d0:x∈R.getD i []:=by rw[←hx];exact bD a2
  obtain⟨j0,e8,d7,j8,g9⟩:=(tr.mono Q.fr).shape (R.getD i []).length om om
  have ck:h8.cell j0 (e8+k)=some (wr.getD k .undef):=by rw[g9 k om,List.getD,dD om];rfl
  have cN:=H.aF Q.gN
  generalize wr.getD k .undef=vx at sx ck
  have d6:=sx.lens
  by_cases A:(x.length:Int)≠(n:Int)
  ·have s:=bP A
   simp(disch:=omega)only[go_sem,e1,d7.ixa,ck,d6,cN,s,Q.gR,Y]
   exact yq _ _ _ Q λf=>A (by have:=(f.perm i a6 x d0).1;omega)
  have s:=bH A
  simp(disch:=omega)only[go_sem,e1,d7.ixa,ck,d6,cN,s]
  refine (vQ vx x h8 om (sx.mono Q.fr)).mono ?_
  rintro _ h9 ⟨rfl,f9⟩
  have a:=Q.mono om om f9
  cases hpk:mV x with
  |false=>
   have e3:decide (AT x≠0)=true:=bP (by unfold AT;rw[bI om,hpk];simp);simp(disch:=omega)only[go_sem,e3,a.gR,Y];exact yq _ _ _ a λf=>by have:=(f.perm i a6 x d0).2;rw[hpk] at this;cases this
  |true=>
   have e3:decide (AT x≠0)=false:=bH (by unfold AT;rw[bI om,hpk];simp);obtain⟨va,ws,gA,ow,al⟩:=a.gA
   have one:vx.cells= [vx]/\vx.one=true:=⟨sx.cK.1,sx.cK.2.1⟩
   have k3:=a.nx;obtain⟨b6,i8,k2,j2,k1,G⟩:=dF (h:=h9) rfl [vx];have cA:=H.aF gA;have j7:b6.cell (B+1+1+1) 0=some va:=by rw[H.aF (by rw[G.get _ om];exact gA)];rfl
   have j9:=al.length
   have j6:((R.take i).flatten++(R.getD i []).take k).length<=400:=by
    have h1:=tY (m:=7) (R:=R) (i:=i) om (λj hj=>by have:=(a.rows j hj).1.2;omega);have h2:i*7<=7*7:=Nat.mul_le_mul_right 7 om;rw[jZ,Fj];omega
   obtain⟨d9,f4,a0⟩:=(ow.fr G).push (bytes:=24) (SV.one om j2 (.kn 1)) (n:=ws.length) (m:=1) om rfl om om om;have ap: ∀k,k<=id->dL va k:=λk hk k0 i6 m c e e2=>by have:=(ow.in _ _ _ _ e).2.1;omega
   have d5:d9.get (B+1+1+1)=some (.cells false [va]):=by rw[a0.old _ om (ap _ om),G.get _ om];exact gA
   have k4:=a0.next;have h0: ∀(l:H) (y:V),dX (some (.cells false [va])) l (B+1+1+1) 0 [y]=some (l.set (B+1+1+1) (some (.cells false [y]))):=λl y=>bN (by simp) l _ _
   simp(disch:=omega)only[go_sem,e3,cA,cT h9 (z:= .aE) one.1 one.2,i8,f4,d5,h0];rw[eJ k]
   have W: ∀k,k<=id->k≠B+1+1+1->(d9.set (B+1+1+1) (some (.cells false [.sl b6.next 0 (ws.length+1) (.un 1)]))).get k=h9.get k:=λk h1 h2=>by
    rw[H.aG _ h2,a0.old _ om (ap _ h1),G.get _ om]
   have tk:(R.take i).flatten++(R.getD i []).take (k+1)=((R.take i).flatten++(R.getD i []).take k)++ [x]:=by
    rw[Ll,fT [] a2,hx]
   refine⟨(R.getD i []).length-(k+1),om,k+1,aB rfl,om,⟨by rw[W _ om om];exact a.gB,by rw[W _ om om];exact a.gR,by rw[W _ om om];exact a.gN,⟨_,ws++ [vx],by rw[H.aS],?_,?_⟩,by rw[W _ om om];exact a.gr,by rw[W _ om om];exact a.gb,by simp only[H.bY];omega,?_,a.rows⟩,λy hy=>?_,rfl⟩
   ·refine (a0.own (b:=id+1) om rfl om).mono (fM _) λk i6 m c e h1 h2=>H.aG _ om _
   ·rw[tk];exact al.append ⟨sx,trivial⟩
   ·refine⟨by simp only[H.bY];have:=a.fr.next;omega,λk hk=>?_⟩
    rw[W k om om];exact a.fr.get k hk
   ·rw[fT [] a2,hx] at hy
    rcases pH.1 hy with hy|hy
    ·exact b5 y hy
    ·rw[List.mem_singleton.1 hy]
     exact⟨om,hpk⟩
 ·rintro _ l (J|D)
  ·refine⟨r,J.gr,by rw[iP];simp,?_⟩
   have en:r.pend.getD .norm= .norm:=by rw[b2];rfl
   rw[en]
   rw[lR,List.take_length] at J
   have J:=J.loop (r2:={r with st:= .out}) (h2:=l.set id (some (.loop {r with st:= .out}))) om om om (by rw[H.aS]) rfl (λk hk=>H.aG _ hk _)
   generalize l.set id (some (.loop {r with st:= .out}))=P at J
   clear J0 f7 o7 b2 iP hr
   have frm:ON n O R:=ON.of i2 j4 λj hj=>J.rows j om
   obtain⟨R',eR,hP⟩:=frm.nat
   obtain⟨va,ws,gA,ow,al⟩:=J.gA
   have eF:R.flatten=R'.flatten.map zi:=by rw[eR,List.map_flatten]
   rw[eF] at al
   have nx:=J.nx
   have rB:=aI J.gB
   have cN:=H.aF J.gN
   have cA:=H.aF gA
   have fb:Fr P (H.mk P.tr (P.next+7)):=(Fr.refl P).bA om
   have i5:SP (H.mk P.tr (P.next+7)) va R'.flatten:=⟨ws,(ow.fr fb).sv,al.mono λ_ _ x=>x.mono (J.fr.trans fb)⟩
   have e9:R'.flatten.length<1000000:=by
    have h1:=tY (m:=7) (R:=R) (i:=n) om (λj hj=>by have:=(J.rows j om).1.2;omega);have h2:n*7<=7*7:=Nat.mul_le_mul_right 7 om;rw[Tn om,eF,jV] at h1;omega
   simp(disch:=omega)only[go_sem,aI (h:=H.mk P.tr (P.next+7)) J.gB,cN,cA]
   refine (Xh n va R'.flatten _ Z c6 e9 i5 hP).mono ?_
   rintro _ h8 ⟨i4,L,F,τ,rfl,RR,tl,f8,_⟩
   have F8:Fr P h8:=fb.trans f8
   have Q:=J.mono om om F8
   have eO:=tO.dE
   have c5:=tR.dE
   simp(disch:=omega)only[go_sem,aI Q.gB,eO,c5]
   refine (Qt h8 n i4 L F τ c6 RR tl.tw).mono ?_
   rintro f0 h9 ⟨O2,R2,i1,g0,f9⟩
   have a:=Q.mono om om f9
   have a7:bC n (BV n R') O2 R2:=g0.congr tl.group
   obtain⟨i0,j1⟩:=Jv (λx hx=>bX.cU hP hx) om a7
   simp(disch:=omega)only[go_sem,aI a.gB,eO,c5]
   refine (VI _ f0 (n:Int) (n:Int) O (O2.map zi) R (R2.map (List.map zi)) h9 ⟨o,p,rfl,⟨wO,tO.mono a.fr,aO.mono λ_ _ x=>x.mono a.fr⟩,⟨wR,tR.mono a.fr,aR.mono (λ_ _ x=>x.mono a.fr),kR⟩⟩ i1.ch so i0 (sr.inn (λj hj x hx=>(frm.perm j om x hx).1) om) j1).mono ?_
   rintro _ b6 ⟨rfl,G⟩
   have a3:=a.mono om om G
   have iff:=IX.iff (O:=O) Z om hP a7
   rw[←eR] at iff
   by_cases hq:(n:Int)=(n:Int)/\O=O2.map zi/\R=R2.map (List.map zi)
   ·have ed:=bP hq
    rw[ed]
    simp(disch:=omega)only[go_sem,a3.gR,Y]
    refine⟨?_,a3.fr.set om _⟩
    unfold Um
    rw[bI om,bF (iff.2 hq.2)]
   ·have ed:=bH hq
    rw[ed]
    simp(disch:=omega)only[go_sem,a3.gR,Y]
    refine⟨?_,a3.fr.set om _⟩
    unfold Um
    rw[bI om,bI (λc=>hq ⟨rfl,iff.1 c⟩)]
  ·refine⟨_,D.gr,by simp [tX],?_⟩
   have en:(tX r .ret).pend.getD .norm= .ret:=rfl
   rw[en]
   have nx:=D.nx
   have gR:(l.set id (some (.loop {tX r .ret with st:= .out}))).cell (B+1) 0=some (aC 3):=by rw[H.Kl _ om,H.aF D.gR];rfl
   simp(disch:=omega)only[go_sem,gR]
   exact⟨by rw[Pq Z om D.bad],D.fr.set (by have:=D.fr.next;omega) _⟩
end
theorem FC {x:Nat}:Ew .shr .u64 (x:Int) 1=some (.int .u64 ((x/2:Nat):Int)):=by
 unfold Ew;rw[bI om];simp only;congr 2;show Int.fdiv (x:Int) 2=_;rw[Int.fdiv_eq_ediv_of_nonneg _ om];rfl
theorem Es (u:V)(a:List Nat)(p:Nat)(h:H)(hn:a.length<1000000)(N:a.Pairwise (· < ·))(O:SI h u (zi a)):
  Ev T 103 [u,aC p] h (λv h'=> ∃k f,v= .tup [aC (k:Nat),.bool f]/\(f=true↔p∈a)/\(f=true->k<a.length/\a.getD k 0=p)/\Fr h h'):=by
 refine cV kB rfl ?_
 have P:=O.lens
 rw[aQ] at P
 simp(disch:=omega)only[go_sem,kB,aD,P]
 have mono: ∀i j,i<j->j<a.length->a.getD i 0<a.getD j 0:=λi j y o=>by
  rw[cJ om,cJ o];exact JX.1 N i j om o y
 refine aH (λR d A=> ∃(i j:Nat),(∃g:Nat->V,d= [u,aC p,g 2,g 3,aC (a.length:Int),aC i,aC j,g 7,g 8,g 9])/\i<=j/\j<=a.length/\(∀m,m<i->a.getD m 0<p)/\(∀m,j<=m->m<a.length->p<=a.getD m 0)/\Fr h A/\R=j-i) a.length
  ⟨0,a.length,aB rfl,om,om,λm b=>om,λm y o=>om,Fr.refl h,rfl⟩ ?_
 rintro R d A ⟨i,j,⟨g,rfl⟩,a0,hj,l,r,F,rfl⟩
 obtain⟨id,L,B,J,U⟩:=(O.mono F).open
 rw[aQ] at B J U
 have cell: ∀m,m<a.length->A.cell id (L+m)=some (aC (a.getD m 0:Nat)):=λm b=>by rw[U m b];congr 2;simp [zi,b]
 by_cases w:(i:Int)<(j:Int)
 ·have z:=bP w
  have Z:(i:Int)+(j:Int)=((i+j:Nat):Int):=om
  obtain⟨m,b⟩:=exI ((i+j)/2)
  have sr:=FC (x:=i+j)
  rw[b] at sr
  have cm:=cell m om
  simp(disch:=omega)only[go_sem,z,Z,Gs,zY,dK (n:=((i+j:Nat):Int)) om om,sr,B.ixa,cm]
  refine (gV _ _ _).mono ?_
  rintro _ Y ⟨rfl,G⟩
  by_cases W:((a.getD m 0:Nat):Int)<(p:Int)
  ·have c:Go.Sort.ltInt ((a.getD m 0:Nat):Int) (p:Int)=true:=by unfold Go.Sort.ltInt;exact bP W
   rw[c]
   simp(disch:=omega)only[go_sem]
   rw[eJ m]
   refine⟨j-(m+1),om,m+1,j,aB rfl,om,hj,λq hq=>?_,r,F.trans G,rfl⟩
   by_cases e:q=m
   ·rw[e];omega
   ·have:=mono q m om om;omega
  ·have c:Go.Sort.ltInt ((a.getD m 0:Nat):Int) (p:Int)=false:=by unfold Go.Sort.ltInt;exact bH W
   rw[c]
   simp(disch:=omega)only[go_sem]
   refine⟨m-i,om,i,m,aB rfl,om,om,l,λq y o=>?_,F.trans G,rfl⟩
   by_cases e:q=m
   ·rw[e];omega
   ·have:=mono m q om o;omega
 have z:=bH w
 obtain rfl:i=j:=om
 by_cases s:(i:Int)<(a.length:Int)
 ·have c:=bP s
  have ci:=cell i om
  by_cases t:((a.getD i 0:Nat):Int)=(p:Int)
  ·have K:=bP t
   simp(disch:=omega)only[go_sem,z,c,B.ixa,ci,K,Ag]
   exact⟨i,true,rfl,⟨λ_=>by rw[show p=a.getD i 0 by omega];exact bD om,λ_=>rfl⟩,λ_=>⟨om,om⟩,F⟩
  ·have K:=bH t
   simp(disch:=omega)only[go_sem,z,c,B.ixa,ci,K,Ag]
   refine Ev.mono (Q:=λv h'=>v= .bool false/\Fr A h') ?_ ?_
   ·refine cV tC rfl ?_
    have e: ∀x:Int,decide (x≠x)=false:=λx=>bH om
    simp(disch:=omega)only[go_sem,tC,aD,e]
    exact Fr.refl _
   rintro _ Y ⟨rfl,G⟩
   simp(disch:=omega)only[go_sem]
   refine⟨i,false,rfl,⟨λh=>(by cases h),λh=>?_⟩,λh=>(by cases h),F.trans G⟩
   exfalso
   obtain⟨m,b,e⟩:=zF.1 h
   rw[←cJ (a:=a) b] at e
   by_cases y:m<i
   ·have:=l m y;omega
   ·have o:m≠i:=λc=>by subst c;omega
    have:=mono i m om b
    have:=r i om om
    omega
 ·have c:=bH s
  simp(disch:=omega)only[go_sem,z,c,Ag]
  refine⟨i,false,rfl,⟨λh=>(by cases h),λh=>?_⟩,λh=>(by cases h),F⟩
  exfalso
  obtain⟨m,b,e⟩:=zF.1 h
  rw[←cJ (a:=a) b] at e
  have:=l m om
  omega
theorem nP {α β:Type}(f:α->β){l:List α}{i:Nat}{d:α}{e:β}(h:i<l.length):(l.map f).getD i e=f (l.getD i d):=by
 simp [List.getD,h]
theorem zD.mono {h h' h2:H}{v:V}{l:List Int}(f:zD h h' v l)(g:Fr h' h2):zD h h2 v l:=by
 obtain⟨id,a,e,c,b,d,i⟩:=f.ex;exact⟨⟨id,a,e,c,iW b g.next,by rw[g.get _ b];exact d,i⟩,f.fr.trans g⟩
theorem Td {h h':H}{v:V}{l:List Nat}(n:AM h h' v l):zD h h' v (zi l):=by
 obtain⟨e,g,nx,f⟩:=n;exact⟨⟨h.next,_,by rw[e,aQ],fM _,om,g,.inr (by rw[aQ])⟩,f⟩
theorem zD.le {b h h':H}{v:V}{l:List Int}(f:zD h h' v l)(g:Fr b h):zD b h' v l:=by
 obtain⟨id,a,e,c,d,i,j⟩:=f.ex;exact⟨⟨id,a,e,mT g.next c,d,i,j⟩,g.trans f.fr⟩
section
variable {W:Nat->Prop} {h:H} {vc:V} {n:Nat} {O:LN} {G:List Nat->Prop}
structure GC (W:Nat->Prop)(h:H)(vc:V)(n:Nat)(O:LN)(R:jI)(G:List Nat->Prop):Prop where
 cw:NL W h vc n O R
 isc:bC n G O R
 dN:iX n G
 n0:1<=n
 n7:n<=7
theorem GC.go {W':Nat->Prop}{h':H}{R:jI}(g:GC W h vc n O R G)(f:Fx W h h')(a: ∀id,id<h.next->W' id->W id):GC W' h' vc n O R G:=⟨g.cw.go f a,g.isc,g.dN,g.n0,g.n7⟩
theorem GC.ch {R:jI}(g:GC W h vc n O R G):WI h vc (n:Int) (O.map zi) (R.map (List.map zi)):=g.cw.ch
theorem GC.mono {h':H}{R:jI}(g:GC W h vc n O R G)(f:Fr h h'):GC W h' vc n O R G:=⟨g.cw.mono f,g.isc,g.dN,g.n0,g.n7⟩
theorem Rx {n:Nat}{G:List Nat->Prop}(b:iX n G){O:LN}{R:jI}(c:bC n G O R): ∀d i x,i+d=n->G x->Fix i x->BV n R x
 |0,i,x,h,hx,fx=>by
  have X:=b.cU hx;obtain rfl:i=n:=om
  rw[fx.all X];exact .one
 |d+1,i,x,h,hx,fx=>by
  have hi:i<n:=om
  have X:=b.cU hx;have m:=(c.mem i hi (x.getD i 0)).2 ⟨x,hx,fx,rfl⟩;obtain⟨k,g,e⟩:=zF.1 m;have a:=c.rep i hi k g;rw[cJ g,e] at a;obtain⟨z,j⟩:=exI ((R.getD i []).getD k []);rw[j] at a;have Z:=b.cU a.mem
  have f:z∈R.flatten:=by
   have o:k<(R.getD i []).length:=by rw[c.rl i hi];exact g
   exact List.mem_flatten.2 ⟨R.getD i [],bD (by rw[c.lr];exact hi),by rw[←j];exact bD o⟩
  have l:=Rx b c d (i+1) (aX x (dA z)) om (b.mul hx (b.inv a.mem)) ((Fix.mul X om fx (Fix.inv Z om a.fix)).succ (by
   rw[cM (by rw[X.len];exact hi)];have:=vM Z hi
   rwa [a.maps] at this))
  have:=bX.mul l f;rwa [aV X Z.inv Z,iE Z,bZ X] at this
theorem Ji {R:jI}(c:bC n G O R): ∀g∈R.flatten,G g:=λg d=>by
 obtain⟨r,j,d⟩:=List.mem_flatten.1 d;obtain⟨i,hi,rfl⟩:=zF.1 j;obtain⟨k,f,rfl⟩:=zF.1 d;have a:i<n:=by have:=c.lr;omega
 have e:R.getD i []=R[i]:=by rw[List.getD,dD hi];rfl
 have b:k<(O.getD i []).length:=by rw[←c.rl i a,e];exact f
 have:=(c.rep i a k b).mem;rw[e,List.getD,dD f] at this;exact this
theorem Ti (a:iX n G){R:jI}(c:bC n G O R)(x:List Nat):BV n R x↔G x:=
 ⟨λh=>h.le a (Ji c),λh=>Rx a c n 0 x om h (λk b=>om)⟩
theorem GC.chk {R:jI}(g:GC W h vc n O R G):Um (n:Int) (O.map zi) (R.map (List.map zi))=0:=by
 unfold Um;have:=g.n0;have:=g.n7;rw[bI om,bF ⟨n,O,R,rfl,g.n0,om,rfl,rfl,λx a=>g.dN.cU (Ji g.isc x a),g.isc.congr λx=>(Ti g.dN g.isc x).symm⟩]
theorem GC.small {R:jI}(g:GC W h vc n O R G):zV (O.map zi)/\sN (R.map (List.map zi)):=Jv (λx a=>g.dN.cU a) (by have:=g.n7;omega) g.isc
theorem GC.check {R:jI}(g:GC W h vc n O R G):Ev T 135 [vc] h (λv h'=>v= aC 0/\Fr h h'):=by
 have:=VW vc _ _ _ h g.ch (.inl (by have:=g.n7;omega)) g.small.1 g.small.2.out;rwa [g.chk] at this
theorem EE {x:List Nat}(X:bE n x)(a:1<=n)(h2:n<=64):AT (zi x)=0:=by
 unfold AT;rw[bI (by rw[aQ,X.len];omega),Yd X];rfl
end
theorem Lo (j:V)(n:Nat)(l:LN)(h:H)(y:1<=n)(W:n<=7)(hl:l.length<=4096)(U:SP h j l)(Q: ∀g∈l,bE n g):
  Ev T 101 [aC n,j] h (λv h'=> ∃vc O R,v= .tup [vc,aC 0]/\GC (λid=>id<h.next) h' vc n O R (bX n (· ∈l))/\Fr h h'):=by
 refine cV Fk rfl ?_
 obtain⟨B,hB⟩:=exI h.next
 obtain⟨z,e1,n1,g1,o1,f1⟩:=dF hB [aC 0,.aE,.aE]
 have d1:decide ((n:Int)<1)=false:=bH om
 have d2:decide ((64:Int)<(n:Int))=false:=bH om
 have lv:=U.lens
 rw[jV] at lv
 have d3:decide ((4096:Int)<(l.length:Int))=false:=bH om
 obtain⟨id,G,ws,sh,a,A,c,p⟩:=U.open
 rw[jV] at sh a A c
 simp(disch:=omega)only[go_sem,Fk,aD,hB,e1,d1,d2,lv,d3]
 refine bJ (λZ P=>(∃g:Nat->V,Z= [aC n,j,.ptr B 0,g 3,g 4,g 5,g 6,g 7,g 8,g 9,g 10,g 11,g 12,g 13])/\Fr z P) ?_ ?_
 ·refine aH (λk' Z P=> ∃(i:Nat),(∃g:Nat->V,Z= [aC n,j,.ptr B 0,g 3,g 4,g 5,g 6,g 7,j,aC (l.length:Int),aC i,g 11,g 12,g 13])/\i<=l.length/\Fr z P/\k'=l.length-i) l.length
   ⟨0,aB rfl,iJ _,Fr.refl z,rfl⟩ ?_
  rintro k' k r ⟨i,⟨g,rfl⟩,hi,f,rfl⟩
  by_cases m:(i:Int)<(l.length:Int)
  ·have Y:=bP m
   have b:i<l.length:=om
   have F2:=f1.trans f
   have ci:r.cell id (G+i)=some (ws.getD i .undef):=by rw[F2.cell (a om),c i b]
   have t:=Ml p b
   have X:bE n (l.getD i []):=Q _ (bD b)
   generalize ws.getD i .undef=vx at ci t
   have lx:=t.lens
   rw[aQ,X.len] at lx
   simp(disch:=omega)only[go_sem,Y,sh.ixa,ci]
   refine (vQ vx _ r (by rw[aQ,X.len];omega) (t.mono F2)).mono ?_
   rw[EE X y om]
   rintro _ x ⟨rfl,d⟩
   simp(disch:=omega)only[go_sem]
   refine aW (λc=>(c rfl).elim) (λ_=>?_)
   simp(disch:=omega)only[go_sem,lx]
   refine aW (λc=>(c rfl).elim) (λ_=>?_)
   simp(disch:=omega)only[go_sem]
   rw[eJ i]
   exact⟨l.length-(i+1),om,i+1,aB rfl,om,f.trans d,rfl⟩
  have Y:=bH m
  simp(disch:=omega)only[go_sem,Y]
  exact⟨aB rfl,f⟩
 rintro k r ⟨⟨g,rfl⟩,f⟩
 have F2:=f1.trans f
 simp(disch:=omega)only[go_sem]
 refine (Xh n j l r y W om (U.mono F2) Q).mono ?_
 rintro _ x ⟨a0,L,F,τ,rfl,R,tl,d,_⟩
 simp(disch:=omega)only[go_sem]
 refine (Qt x n a0 L F τ W R tl.tw).mono ?_
 rintro vc s ⟨O,R',ch,J,N⟩
 have F4:=(F2.trans d).trans N
 have g4:s.get B=some (.cells false [aC 0,.aE,.aE]):=by rw[N.get _ (by have:=d.next;have:=f.next;omega),d.get _ (by have:=f.next;omega),f.get _ om];exact g1
 have K:=ch
 obtain⟨vO,vR,a2,a1,e,t1,_,_,t2,_,_⟩:=ch
 subst e
 have o:=t1.cK.2.1
 have q:=t2.cK.2.1
 obtain⟨h5,e5,n5,g5,o5⟩:=pJ s B [aC n,vO,vR]
 have r5:=aI g5
 simp(disch:=omega)only[go_sem,bW s B 0 (v:= aC n) (u:=vO) (w:=vR) rfl o q,g4,cF,e5,r5]
 have n3:=d.next
 have n2:=f.next
 have n4:=N.next
 have f5:Fx (λid=>id<x.next) s h5:=⟨om,λid _ a=>o5 id om⟩
 refine⟨_,O,R',rfl,⟨K.go f5 (λid _ h=>om),J.congr tl.group,bX.dN Q,y,W⟩,⟨by have:=F4.next;omega,λid a=>by rw[o5 id om];exact F4.get id a⟩⟩
section
variable {b A:Nat} {hh:H} {l:LN}
theorem EV {h:H}{v:V}{ws:List V}(s:SV h v 1 ws)(j:HK v)(o:1<=ws.length): ∃v',xT 1 v (some (aC 1)) none none=some v'/\SV h v' 1 (ws.drop 1):=by
 rcases s with ⟨_,e⟩|⟨id,a,len,q,i,d,rfl,f,g,k,r,m⟩
 ·rw[e] at o;simp at o
 have u:oG none len len=some len:=by simp [oG]
 have n:((d.drop a).take (len*1)).drop 1=(d.drop (a+1)).take (len- 1):=by
  rw[List.drop_take,List.drop_drop,uW]
 rcases j _ _ _ _ rfl with rfl|⟨c,rfl,t⟩
 ·by_cases p:1<len
  ·refine⟨.sl id (a+1) (len- 1) (.un 1),?_,.inr ⟨id,a+1,len- 1,_,i,d,rfl,by rw[AQ,f];omega,g,k,om,by rw[←m,n,uW]⟩⟩
   simp [xT,oG,p,show (1:Int)<=(len:Int) by omega]
  ·refine⟨.sl id a 0 (.un 1),?_,.inr ⟨id,a,0,_,i,d,rfl,by rw[AQ,f];omega,g,k,om,?_⟩⟩
   ·have:len=1:=om
    subst this;simp [xT,oG]
   ·have:ws.drop 1= []:=WJ (by rw[AQ];omega)
    rw[this];simp
 ·refine⟨.sl id (if c=1 then a else a+1) (len- 1) (.kn (c- 1)),?_,.inr ⟨id,_,len- 1,_,i,d,rfl,by rw[AQ,f];omega,g,k,by split<;>omega,?_⟩⟩
  ·have:1<=len:=om
   simp [xT,oG,show (1:Int)<=(len:Int) by omega,show 1<=c by omega]
  ·by_cases e:c=1
   ·have:ws.drop 1= []:=WJ (by rw[AQ];omega)
    rw[this];have:len- 1=0:=om
    rw[this];simp
   ·rw[bI e,←m,n,uW]
def Ku (b:Nat)(hh:H)(A:Nat)(l:LN):Prop:= ∃va ws W,hh.get A=aZ [va]/\cY hh va 1 ws b/\fW W hh ws l/\Hq W va/\(∀id,id<b->W id)/\ ∀id,W id->id<hh.next
theorem Ku.mono {h2:H}(a:Ku b hh A l)(e:A<hh.next)(f:Fr hh h2):Ku b h2 A l:=by
 obtain⟨d,c,W,g,o,p,k,i,j⟩:=a;exact⟨d,c,W,by rw[f.get _ e];exact g,o.fr f,p.fx (Fx.of f),k,i,λid h=>iW (j id h) f.next⟩
theorem Ku.other {h2:H}(a:Ku b hh A l){k:Nat}(v:k<b)(c:k≠A)(n:h2.next=hh.next)(o: ∀j,j≠k->h2.get j=hh.get j):Ku b h2 A l:=by
 obtain⟨m,i,W,g,r,p,t,d,s⟩:=a
 have f:Fx W hh h2:=⟨om,λid u q=>o id λe=>q (e▸d k v)⟩
 exact⟨m,i,W,by rw[o _ (Ne.symm c)];exact g,r.mono om λid _ _ _ _ u _=>o id om,fW.go p f (λ_ _ h=>h),t,d,λid h=>by rw[n];exact s id h⟩
theorem Ku.push {d:H}(a:Ku b hh A l)(w:A<b){x:List Nat}{s y:V}(bytes:Nat)(hb:bytes<=24)(hl:l.length<1000000)(f:Fr hh d)(R:b<=hh.next)(P:PV (λid=>id<hh.next) d s x)(N:SV d y 1 [s]):
  ∃va h6,hh.get A=aZ [va]/\xQ d 1 bytes va y=some (.sl d.next 0 (l.length+1) (.un 1),h6)/\h6.get A=aZ [va]/\h6.next=d.next+1/\(∀k,k<b->h6.get k=d.get k)/\
   (va.cells= [va]/\va.one=true)/\dE va va=true/\ ∀h7,h6.set A (aZ [.sl d.next 0 (l.length+1) (.un 1)])=h7->Ku b h7 A (l++ [x]):=by
 obtain⟨va,Q,W,g,i,p,L,z,B⟩:=a
 have U:=aM.length p
 have nx:=f.next
 obtain⟨h6,Y,r⟩:=(i.fr f).push (bytes:=bytes) N (n:=l.length) (m:=1) om rfl om om ⟨by have:=Nat.mul_le_mul_left (2*(l.length+1)+1000) hb;omega,om⟩
 have K: ∀k,k<b->dL va k:=λk F id o m c e e2=>by have:=(i.in _ _ _ _ e).2.1;omega
 have O:=r.next
 have G: ∀k,k<b->h6.get k=d.get k:=λk F=>r.old k om (K k F)
 refine⟨va,h6,g,Y,by rw[G A w,f.get A om];exact g,O,G,⟨i.sv.cK.1,i.sv.cK.2.1⟩,i.sv.dE,λh7 e=>?_⟩
 subst e
 have t:Fx W d h6:=r.fx L
 have v:Fx W h6 (h6.set A (aZ [.sl d.next 0 (l.length+1) (.un 1)])):=Fx.set h6 (z A w) _
 have j:=t.trans v (λ_ _ h=>h)
 have J: ∀id,id<d.next->(W id∨id=d.next)->W id:=λid Z q=>by
  rcases q with q|q
  ·exact q
  ·omega
 have u:PV W d s x:=P.lH λid _ h=>B id h
 refine⟨_,Q++ [s],λid=>W id∨id=d.next,by rw[H.aS],?_,(fW.go (p.fx (Fx.of f)) j J).append (fW.one (PV.go u j J)),λid o n c e=>by cases e;exact .inr rfl,λid h=> .inl (z id h),λid h=>?_⟩
 ·exact (r.own (b:=b) om rfl om).mono (fM _) λid o m c e Z _=>H.aG h6 om _
 ·simp only[H.bY]
  rcases h with h|h
  ·have:=B id h;omega
  ·omega
end
def bQ (R:jI):LN:=R.flatMap (List.drop 1)
theorem Bf {R:jI}{i:Nat}(hi:i<R.length):bQ (R.take (i+1))=bQ (R.take i)++(R.getD i []).drop 1:=by
 unfold bQ;rw[fT [] hi,List.flatMap_append];simp
theorem sY {n:Nat}{R:jI}: ∀{i:Nat},i<=R.length->(∀j,j<i->(R.getD j []).length<=n)->(bQ (R.take i)).length<=i*n
 |0,_,_=>by simp [bQ]
 |i+1,h,hr=>by
  rw[Bf om,jZ,AQ,Nat.succ_mul];have b:=sY (i:=i) om (λj c=>hr j om);have a:=hr i om;omega
structure JW (h h':H)(v:V)(l:LN):Prop where
 ex: ∃ws W,cY h' v 1 ws h.next/\fW W h' ws l/\Hq W v/\(∀id,id<h.next->W id)
 fr:Fr h h'
theorem JW.sp {h h':H}{v:V}{l:LN}(n:JW h h' v l):SP h' v l:=by
 obtain⟨a,W,o,p,_⟩:=n.ex;have b:=aM.length p
 exact⟨a,o.sv,aM.mQ (by simpa using b) λi hi c=>by
  have:=(aM.get p i hi om).si
  simpa using this⟩
theorem JW.pl {h h':H}{v:V}{l:LN}(n:JW h h' v l):PL (λid=>id<h.next) h' v l:=by
 obtain⟨a,W,o,p,_,b⟩:=n.ex;exact⟨a,o.sv,DO o,p.lH (λid _ h=>b id h),cY.NN o⟩
structure StJ (h hh:H)(id b B:Nat)(r:eH)(n:Nat)(vO vR:V)(R:jI)(i:Nat):Prop where
 acc:Ku (id+1) hh (B+1) (bQ (R.take i))
 gr:hh.get id=some (.loop r)
 gb:hh.get b=aZ [aC n,vO,vR]
 nx:id<hh.next
 fr:Fr h hh
theorem Qy {W:Nat->Prop}(vc:V)(n:Nat)(O:LN)(R:jI)(G:List Nat->Prop)(h:H)(gc:GC W h vc n O R G):
  Ev T 106 [vc] h (λv h'=> ∃vl,v= .tup [vl,aC 0]/\JW h h' vl (bQ R)):=by
 obtain⟨Z,vR,e,sO,sR⟩:=gc.ch
 subst e
 refine cV Bh rfl ?_
 obtain⟨wR,tR,aR,kR⟩:=sR
 have lR:=aR.length
 have c:=gc.isc
 rw[jV,c.lr] at lR
 have a8:Z.one=true:=oNs sO
 have a9:=tR.cK.2.1
 have n0:=gc.n0
 have n7:=gc.n7
 obtain⟨B,hB⟩:=exI h.next
 obtain⟨h1,e1,n1,g1,o1,f1⟩:=dF hB [aC n,Z,vR]
 have bx:=bM h (v:= aC n) (u:=Z) (w:=vR) rfl a8 a9
 have rB:=aI g1
 simp(disch:=omega)only[go_sem,Bh,aD,bx,hB,e1,rB]
 refine ((gc.mono f1).check).mono ?_
 rintro _ h2 ⟨rfl,f2⟩
 simp(disch:=omega)only[go_sem]
 refine aW (λhc=>(hc rfl).elim) (λ_=>?_)
 obtain⟨A,hA⟩:=exI h2.next
 have n2:=f2.next
 obtain⟨h3,e3,n3,g3,o3,f3⟩:=dF hA [.aE]
 have f8:h3.get B=aZ [aC n,Z,vR]:=by rw[f3.get _ om,f2.get _ om];exact g1
 have d4:=aI f8
 simp(disch:=omega)only[go_sem,hA,e3,d4]
 refine (HD (n:Int) Z vR a8 a9 h3).mono ?_
 rintro _ Q ⟨rfl,g4,n4,f4⟩
 simp(disch:=omega)only[go_sem]
 obtain⟨id,b6⟩:=exI Q.next
 obtain⟨b,hb⟩:=exI h3.next
 rw[hb] at g4 n4
 refine⟨rfl,uJ λr hr=>?_⟩
 rw[b6,hb]
 have iP:r.st= .ready:=by rw[hr]
 have c4:r.pend=none:=by rw[hr]
 have o5: ∀k,k<id->(Q.new (.loop r)).get k=Q.get k:=λk L=>H.bG Q om _
 have f5:Fr Q (Q.new (.loop r)):=(Fr.refl Q).new _
 have n5:(Q.new (.loop r)).next=id+1:=by rw[H.aU,b6]
 have F4:=((f1.trans f2).trans f3).trans f4
 have rl: ∀j,j<n->(R.getD j []).length<=n:=λj U=>by
  rw[c.rl j U];exact mT (uQ (λx hx=>gc.dN.cU hx) U (c.asc j U) (c.mem j U)) om
 obtain⟨t,b4⟩: ∃t,A=t+1:=⟨A- 1,om⟩
 have J0:StJ h (Q.new (.loop r)) id b t r n Z vR R 0:=by
  refine⟨⟨.aE, [],λk=>k<id+1,?_,cY.aE _ _ _,trivial,λ_ _ _ _ e=>(by cases e),λ_ h=>h,λk L=>om⟩,by rw[←b6,H.aL],by rw[o5 _ om];exact g4,om,F4.trans f5⟩;rw[←b4,o5 _ om,f4.get _ om];exact g3
 refine (Zb id b (n:Int) Z vR wR _ om (λi m=>StJ h m id b t r n Z vR R i) (λm=>False) J0 (λi m J=>⟨J.gb,tR.mono J.fr⟩) ?_).mono ?_
 ·rintro i m hi J
  have o:i<n:=om
  refine sZ J.gr (by rw[hr];rfl) iP λh9 g9 n9 o9=>?_
  rw[congrArg eH.assign hr,congrArg eH.vars hr,congrArg eH.pars hr]
  simp(disch:=omega)only[go_sem,List.zip_cons_cons,List.zip_nil_left]
  rw[congrArg eH.body hr]
  have nx:=J.nx
  have ri:(R.map (List.map zi)).getD i []=(R.getD i []).map zi:=nP (List.map zi) (by rw[c.lr];exact o)
  have b2:=iG aR (i:=i) (by rw[jV,c.lr];exact o) .undef []
  rw[ri] at b2
  obtain⟨wr,tr,ar⟩:=b2
  have lr:=ar.length
  rw[jV] at lr
  have c8:1<=wr.length:=by
   rw[lr,c.rl i o];have:=(c.mem i o i).2 ⟨bL n,gc.dN.one,Fix.one n i om,fQ o⟩;exact HJ this
  have F9:Fr h h9:=⟨by rw[n9];exact J.fr.next,λk L=>by rw[o9 k om];exact J.fr.get k L⟩
  obtain⟨vt,d5,tt⟩:=EV tr (kR _ (bD om)) c8
  have lt:bT vt=some (aC (wr.length- 1:Nat)):=by unfold bT;rw[tt.len (n:=wr.length- 1) (by rw[AQ];omega) om];rfl
  have g5:wr.length<=7:=by have:=rl i o;omega
  simp(disch:=omega)only[go_sem,d5,lt]
  have A9:Ku (id+1) h9 (t+1) (bQ (R.take i)):=J.acc.other (k:=id) om om n9 o9
  refine aH (λk' b0 m=> ∃(k:Nat),(∃g:Nat->V,b0= [g 0,g 1,g 2,g 3,g 4,.ptr A 0,g 6,g 7,g 8,g 9,g 10,g 11,vt,aC (wr.length- 1:Nat),aC k,g 15])/\k<=wr.length- 1/\Ku (id+1) m (t+1) (bQ (R.take i)++((R.getD i []).drop 1).take k)/\
    m.get id=some (.loop (pW r))/\m.get b=aZ [aC n,Z,vR]/\id<m.next/\Fr h m/\k'=wr.length- 1-k) (wr.length- 1)
   ⟨0,aB rfl,iJ _,by rw[List.take_zero,vF];exact A9,g9,by rw[o9 _ om];exact J.gb,om,F9,rfl⟩ ?_
  rintro k' b0 a ⟨k,⟨g,rfl⟩,L,Y,b1,a7,b9,F,rfl⟩
  have g8:((R.getD i []).drop 1).length=wr.length- 1:=by rw[AQ];omega
  by_cases d0:(k:Int)<((wr.length- 1:Nat):Int)
  case neg=>
   have d1:=bH d0;have ek:k=wr.length- 1:=om
   rw[ek,Tn (l:=(R.getD i []).drop 1) om,←Bf (by rw[c.lr];exact o)] at Y;simp(disch:=omega)only[go_sem,d1];refine oX iP c4 b1 (.inl ⟨rfl,Y.other (k:=id) om om rfl (λj U=>H.aG _ U _),by rw[H.aS],by rw[H.aG _ om];exact a7,b9,F.set om _⟩)
  have d1:=bP d0
  have g0:k<wr.length- 1:=om
  have b3:k+1<(R.getD i []).length:=om
  obtain⟨x,hx⟩:=exI ((R.getD i []).getD (k+1) [])
  have e4:((R.getD i []).drop 1).getD k []=x:=by
   rw[←hx];generalize R.getD i []=row;rw[List.getD,List.getD,List.getElem?_drop,Nat.add_comm 1 k]
  have X:bE n x:=by
   rw[←hx];exact gc.dN.cU (c.rep i o (k+1) (by rw[←c.rl i o];exact b3)).mem
  have sx:=iG ar (i:=k+1) (by rw[jV];exact b3) .undef []
  rw[nP zi (d:= []) b3,hx] at sx
  obtain⟨f6,d2,e8,f9,d8⟩:=(tt.mono F).shape (wr.length- 1) (by rw[AQ];omega) om
  have ck:a.cell f6 (d2+k)=some (wr.getD (k+1) .undef):=by
   rw[d8 k (by rw[AQ];omega),List.getElem?_drop,List.getD,Nat.add_comm 1 k,dD om];rfl
  generalize wr.getD (k+1) .undef=vx at sx ck
  obtain⟨N,gA,d6⟩: ∃N,a.get (t+1)=aZ [N]/\dE N N=true:=by
   obtain⟨N,_,_,gA,ow,_⟩:=Y;exact⟨N,gA,ow.sv.dE⟩
  have fb:Fr a (H.mk a.tr (a.next+6)):=(Fr.refl a).bA om
  rw[b4]
  simp(disch:=omega)only[go_sem,d1,e8.ixa,ck,H.aF gA]
  refine (Mz vx (zi x) (H.mk a.tr (a.next+6)) (by rw[aQ,X.len];omega) (by rw[aQ,X.len];omega) (sx.mono (F.trans fb))).mono ?_
  rintro a5 p s
  have c7:=fb.trans s.fr
  have f7:=s.fr.next
  have c6:p.get (t+1)=aZ [N]:=by rw[c7.get _ om];exact gA
  have c0:PV (λid=>id<a.next) p a5 x:=s.pv λid h=>by simp;omega
  simp(disch:=omega)only[go_sem,H.aF c6,d6,cT _ (z:= .aE) c0.fG.1 c0.fG.2]
  obtain⟨f,q⟩: ∃f:H,f=H.mk ((H.mk p.tr (a.next+3)).new (Ob.cells false [a5])).tr p.next:=⟨_,rfl⟩
  rw[←q]
  have e7:f.get (a.next+3)=aZ [a5]:=by rw[q];exact H.aL (H.mk p.tr (a.next+3)) _
  have g6:f.next=p.next:=by rw[q]
  have c1: ∀k,k≠a.next+3->f.get k=p.get k:=λk L=>by rw[q];exact H.bG (H.mk p.tr (a.next+3)) (by simpa using L) _
  simp only at f7
  have a6:Fr a f:=⟨om,λk L=>by rw[c1 k om];exact c7.get k L⟩
  have e2:PV (λid=>id<a.next) f a5 x:=by
   obtain⟨i5,c5,ev,a1,a2,a3,a4⟩:=s.ex;simp only at a1;rw[ev];exact⟨SV.all (by rw[aP,uW]) om (by rw[c1 _ om];exact a3) _,λm=>by have:i5<a.next:=m;omega⟩
  have f0:(bQ (R.take i)++((R.getD i []).drop 1).take k).length<1000000:=by
   have h1:=sY (n:=n) (R:=R) (i:=i) (by rw[c.lr];omega) (λj U=>rl j om);have h2:i*n<=7*7:=Nat.mul_le_mul om n7;rw[jZ,Fj];omega
  obtain⟨c3,b8,c9,e9,d3,g2,b5,one,_,d9⟩:=Y.push om (bytes:=24) (fM _) f0 a6 om e2 (SV.one om e7 (.kn 1))
  have e6:c3=N:=by rw[gA] at c9;cases c9;rfl
  subst e6
  have e0: ∀(m:H) (y:V),dX (aZ [c3]) m (t+1) 0 [y]=some (m.set (t+1) (aZ [y])):=λm y=>bN (by simp) m _ _
  simp(disch:=omega)only[go_sem,e9,d3,e0]
  rw[eJ k]
  have b7:=d9 _ rfl
  have e5:bQ (R.take i)++((R.getD i []).drop 1).take k++ [x]=bQ (R.take i)++((R.getD i []).drop 1).take (k+1):=by
   rw[Ll,fT [] om,e4]
  rw[e5] at b7
  have g7:Fr a (b8.set (t+1) (aZ [.sl f.next 0 ((bQ (R.take i)++((R.getD i []).drop 1).take k).length+1) (.un 1)]))->True:=λ_=>trivial
  obtain⟨P,K⟩: ∃P,P=b8.set (t+1) (aZ [.sl f.next 0 ((bQ (R.take i)++((R.getD i []).drop 1).take k).length+1) (.un 1)]):=⟨_,rfl⟩
  rw[←K] at b7 ⊢
  have d7: ∀k,k<=id->k≠t+1->P.get k=a.get k:=λk h1 h2=>by rw[K,H.aG _ h2,b5 k om];exact a6.get k om
  have h0:P.next=b8.next:=by rw[K];rfl
  refine⟨wr.length- 1-(k+1),om,k+1,aB rfl,om,b7,by rw[b5 id om,a6.get _ om];exact b1,by rw[b5 b om,a6.get _ om];exact a7,om,⟨by have:=F.next;omega,λk L=>by rw[d7 k om om];exact F.get k L⟩,rfl⟩
 ·rintro _ m (J|hf)
  case inr=>exact hf.elim
  refine⟨r,J.gr,by rw[iP];simp,?_⟩
  have en:r.pend.getD .norm= .norm:=by rw[c4];rfl
  rw[en]
  have nx:=J.nx
  have c2:=J.acc
  rw[lR,Tn (by rw[c.lr];omega)] at c2
  obtain⟨h9,a0⟩: ∃h9,h9=m.set id (some (.loop {r with st:= .out})):=⟨_,rfl⟩
  have A9:=c2.other (h2:=h9) (k:=id) om om (by rw[a0];rfl) (λj U=>by rw[a0,H.aG _ U])
  have F9:Fr h h9:=by rw[a0];exact J.fr.set om _
  rw[←a0,b4]
  obtain⟨N,ws,W',gA,ow,pv,bl,l1,l2⟩:=A9
  simp(disch:=omega)only[go_sem,H.aF gA]
  exact⟨N,rfl,⟨ws,W',ow.le om,pv,bl,λid h=>l1 id om⟩,F9⟩
end Go.Proofs.YtcdbmkidaecdiaaGreat
namespace Go.Pm
set_option maxRecDepth 100000
section
variable {x:List Nat} {i:Nat}
def jP (O:zI)(x:List Nat)(i:Nat):List Nat:=(O.getD i []).map λq=>x.getD q 0
def wC (l:List Nat):List Nat:=l.mergeSort λa b=>decide (a<=b)
theorem nK (l:List Nat):(wC l).Perm l:=List.mergeSort_perm l _
theorem Ry (l:List Nat):(wC l).Pairwise (· <= ·):=by
 have:=List.pairwise_mergeSort (le:=λa b:Nat=>decide (a<=b)) (λa b c d e=>by simp at*;omega) (λa b=>by simp;omega) l;exact this.imp λh=>by simpa using h
def iY (O:zI)(R:PZ)(x:List Nat)(i im:Nat):List Nat:=aX ((R.getD i []).getD ((jP O x i).idxOf im) []) x
def cZ (O:zI)(R:PZ):Nat->Nat->List Nat->zI
 |0,_,x=> [x]
 |d+1,i,x=>(wC (jP O x i)).flatMap λim=>cZ O R d (i+1) (iY O R x i im)
structure dW (G:List Nat->Prop)(L:zI):Prop where
 asc:L.Pairwise Lt
 mem: ∀x,x∈L↔G x
theorem Lt.irrefl (h:Lt x x):False:=h.asymm h
theorem Lt.trans {y z:List Nat}(o:x.length=y.length)(a:Lt x y)(b:Lt y z):Lt x z:=by
 obtain⟨k,f,d,g⟩:=a;obtain⟨m,n,e,l⟩:=b;rcases Nat.lt_trichotomy k m with h|h|h
 ·exact⟨k,f,λj c=>(d j c).trans (e j oq),by rw[←e k h];exact g⟩
 ·subst h;exact⟨k,f,λj c=>(d j c).trans (e j c),oq⟩
 ·exact⟨m,oq,λj c=>(d j oq).trans (e j c),by rw[d m h];exact l⟩
theorem GX: ∀{a b:zI},a.Pairwise Lt->b.Pairwise Lt->(∀p,p∈a↔p∈b)->a=b
 | [], [],_,_,_=>rfl
 | [],y::b,_,_,h=>by have:=(h y).2 (by simp);simp at this
 |x::a, [],_,_,h=>by have:=(h x).1 (by simp);simp at this
 |x::a,y::b,ha,hb,h=>by
  obtain⟨j,m⟩:=List.pairwise_cons.1 ha;obtain⟨k,l⟩:=List.pairwise_cons.1 hb
  have e:x=y:=by
   have d:=(h x).1 (by simp);have c:=(h y).2 (by simp);rcases List.mem_cons.1 d with d|d
   ·exact d
   ·rcases List.mem_cons.1 c with c|c
    ·exact c.symm
    ·exact ((k x d).asymm (j y c)).elim
  subst e;congr 1
  refine GX m l λp=>⟨λf=>?_,λf=>?_⟩
  ·rcases List.mem_cons.1 ((h p).1 (List.mem_cons_of_mem _ f)) with e|g
   ·subst e;exact ((j p f).irrefl).elim
   ·exact g
  ·rcases List.mem_cons.1 ((h p).2 (List.mem_cons_of_mem _ f)) with e|g
   ·subst e;exact ((k p f).irrefl).elim
   ·exact g
theorem dW.uniq {G:List Nat->Prop}{L M:zI}(a:dW G L)(b:dW G M):L=M:=GX a.asc b.asc λp=>(a.mem p).trans (b.mem p).symm
theorem dW.nodup {G:List Nat->Prop}{L:zI}(a:dW G L):L.Nodup:=by
 rw[List.nodup_iff_pairwise_ne];exact a.asc.imp λh e=>by rw[e] at h;exact h.irrefl
def kI (O:zI):Nat->Nat->Nat
 |0,_=>1
 |d+1,i=>(O.getD i []).length*kI O d (i+1)
section
variable {n:Nat} {G:List Nat->Prop} {O:zI} {R:PZ}
theorem UD {im:Nat}:im∈jP O x i↔ ∃q∈O.getD i [],x.getD q 0=im:=by simp [jP]
theorem Im (a:iX n G)(c:bC n G O R)(hi:i<n){q:Nat}(b:q∈O.getD i []):q<n:=by
 obtain⟨g,d,_,rfl⟩:=(c.mem i hi q).1 b;exact (a.cU d).iN hi
theorem AX (d:iX n G)(c:bC n G O R)(X:bE n x)(hi:i<n):(jP O x i).Nodup:=by
 have nd:(O.getD i []).Pairwise (· < ·):=c.asc i hi;rw[List.nodup_iff_pairwise_ne];unfold jP;rw[List.pairwise_map];refine nd.imp_of_mem λ{a b} f g h e=>?_
 have:=X.inj (Im d c hi f) (Im d c hi g) e;omega
theorem wH (p:iX n G)(c:bC n G O R)(X:bE n x)(hi:i<n){im:Nat}(f:im∈jP O x i):
  ∃k,k<(O.getD i []).length/\(jP O x i).idxOf im=k/\x.getD ((O.getD i []).getD k 0) 0=im/\Xf n G i ((O.getD i []).getD k 0) ((R.getD i []).getD k [])/\iY O R x i im=aX ((R.getD i []).getD k []) x/\bE n (iY O R x i im)/\(iY O R x i im).getD i 0=im/\ ∀j,j<i->(iY O R x i im).getD j 0=x.getD j 0:=by
 have h:=List.idxOf_lt_length_iff.2 f
 have a:(jP O x i).idxOf im<(O.getD i []).length:=by simpa [jP] using h
 have o:(jP O x i).getD ((jP O x i).idxOf im) 0=im:=by rw[cJ h,List.getElem_idxOf]
 obtain⟨k,e⟩: ∃k,(jP O x i).idxOf im=k:=⟨_,rfl⟩
 rw[e] at a o h
 have m:x.getD ((O.getD i []).getD k 0) 0=im:=by
  rw[←o];unfold jP;rw[List.getD_eq_getElem?_getD (l:=List.map _ _),List.getElem?_map,List.getElem?_eq_getElem a,cJ a];rfl
 have b:=c.rep i hi k a
 have g:=p.cU b.mem
 have d:iY O R x i im=aX ((R.getD i []).getD k []) x:=by unfold iY;rw[e]
 refine⟨k,a,e,m,b,d,by rw[d];exact g.mul X,?_,λj q=>?_⟩
 ·rw[d,cM (by rw[g.len];exact hi),b.maps,m]
 ·rw[d,cM (by rw[g.len];omega),b.fix j q]
theorem Sf (f:iX n G)(c:bC n G O R): ∀(d i:Nat) (x:List Nat),i+d=n->bE n x->
  (∀z,z∈cZ O R d i x↔ ∃g,G g/\Fix i g/\z=aX g x)/\(cZ O R d i x).Pairwise Lt/\(cZ O R d i x).length=kI O d i
 |0,i,x,h,X=>by
  obtain rfl:i=n:=oq
  refine⟨λz=>?_,by simp [cZ],rfl⟩;simp only[cZ,List.mem_singleton];constructor
  ·rintro rfl;exact⟨bL i,f.one,Fix.one i i (Nat.le_refl _),(eP X).symm⟩
  ·rintro⟨g,p,q,rfl⟩;rw[q.all (f.cU p),eP X]
 |d+1,i,x,h,X=>by
  have hi:i<n:=oq
  have t:=λo (e:o∈jP O x i)=>Sf f c d (i+1) (iY O R x i o) oq (wH f c X hi e).choose_spec.2.2.2.2.2.1
  have y: ∀o,o∈wC (jP O x i)↔o∈jP O x i:=λo=>(nK _).mem_iff
  have s: ∀o,o∈jP O x i-> ∀z,z∈cZ O R d (i+1) (iY O R x i o)->z.length=n/\z.getD i 0=o/\ ∀j,j<i->z.getD j 0=x.getD j 0:=λo e z v=>by
   obtain⟨g,p,q,rfl⟩:=((t o e).1 z).1 v;obtain⟨k,_,_,_,_,_,_,U,W⟩:=wH f c X hi e;have r:=f.cU p;refine⟨by rw[eY,r.len],?_,λj A=>?_⟩
   ·rw[cM (by rw[r.len];exact hi),q i oq,U]
   ·rw[cM (by rw[r.len];omega),q j oq,W j A]
  refine⟨λz=>?_,?_,?_⟩
  ·simp only[cZ,List.mem_flatMap,y]
   constructor
   ·rintro⟨o,e,v⟩
    obtain⟨g,p,q,rfl⟩:=((t o e).1 z).1 v;obtain⟨k,_,_,_,m,F,_⟩:=wH f c X hi e;refine⟨aX g ((R.getD i []).getD k []),f.mul p m.mem,Fix.mul (f.cU p) oq (q.mono oq) m.fix,?_⟩;rw[F,aV (f.cU p) (f.cU m.mem) X]
   ·rintro⟨g,p,q,rfl⟩
    have r:=f.cU p;have L:=(c.mem i hi (g.getD i 0)).2 ⟨g,p,q,rfl⟩;have e:x.getD (g.getD i 0) 0∈jP O x i:=UD.2 ⟨_,L,rfl⟩;refine⟨_,e,((t _ e).1 _).2 ?_⟩;obtain⟨k,N,_,P,m,F,_⟩:=wH f c X hi e;have J:(O.getD i []).getD k 0=g.getD i 0:=X.inj (Im f c hi (by rw[cJ N];exact List.getElem_mem N)) (Im f c hi L) P;rw[J] at m;have u:=f.cU m.mem;refine⟨aX g (dA ((R.getD i []).getD k [])),f.mul p (f.inv m.mem),(Fix.mul r oq q (Fix.inv u oq m.fix)).succ ?_,?_⟩
    ·rw[cM (by rw[r.len];exact hi)]
     have:=vM u hi;rwa [m.maps] at this
    ·rw[F,←aV (r.mul u.inv) u X,aV r u.inv u,iE u,bZ r]
  ·unfold cZ
   rw[List.pairwise_flatMap];refine⟨λo e=>(t o ((y o).1 e)).2.1,?_⟩;have K:=Ry (jP O x i);have nd:(wC (jP O x i)).Nodup:=(nK _).nodup_iff.2 (AX f c X hi);rw[List.nodup_iff_pairwise_ne] at nd;refine (K.and nd).imp_of_mem λ{a b} B hb Q z v w hw=>?_
   obtain⟨l1,z1,Y⟩:=s a ((y a).1 B) z v;obtain⟨l2,Z,w2⟩:=s b ((y b).1 hb) w hw;exact⟨i,oq,λj A=>by rw[Y j A,w2 j A],by rw[z1,Z];omega⟩
  ·unfold cZ kI
   rw[List.length_flatMap];have:(wC (jP O x i)).map (λa=>(cZ O R d (i+1) (iY O R x i a)).length)=(wC (jP O x i)).map λ_=>kI O d (i+1):=List.map_congr_left λa B=>(t a ((y a).1 B)).2.2
   rw[this];have hl:(wC (jP O x i)).length=(O.getD i []).length:=by rw[(nK _).length_eq];simp [jP]
   rw[←hl];generalize wC (jP O x i)=l
   induction l with
   |nil=>simp
   |cons a l t=>simp only[List.map_cons,List.sum_cons,t,List.length_cons,Nat.succ_mul];omega
theorem dM (a:iX n G)(c:bC n G O R):dW G (cZ O R n 0 (bL n))/\(cZ O R n 0 (bL n)).length=kI O n 0:=by
 obtain⟨d,f,e⟩:=Sf a c n 0 (bL n) oq (bE.one n);refine⟨⟨f,λx=>?_⟩,e⟩;rw[d];constructor
 ·rintro⟨g,hg,_,rfl⟩;rw[bZ (a.cU hg)];exact hg
 ·exact λb=>⟨x,b,λk h=>oq,(bZ (a.cU b)).symm⟩
end
end
end Go.Pm
namespace Go.Proofs.YtcdbmkidaecdiaaGreat
open Go Go.Ay Go.Pm
set_option maxRecDepth 100000
section
variable {O:LN} {W:Nat->Prop}
theorem TH {O:LN}{m:Nat}(a:1<=m): ∀d i,(∀j,i<=j->j<i+d->(O.getD j []).length<=m)->kI O d i<=m^d
 |0,_,_=>fM _
 |d+1,i,h=>by
  unfold kI;rw[Nat.pow_succ,Nat.mul_comm (m^d)];exact Nat.mul_le_mul (h i (fM _) om) (TH a d (i+1) λj c b=>h j om om)
theorem Ln {O:LN}: ∀d i,(∀j,i<=j->j<i+d->0<(O.getD j []).length)->0<kI O d i
 |0,_,_=>Nat.one_pos
 |d+1,i,h=>Nat.mul_pos (h i (fM _) om) (Ln d (i+1) λj b a=>h j om om)
theorem GC.row {h:H}{b:V}{n:Nat}{R:jI}{G:List Nat->Prop}(g:GC W h b n O R G){j:Nat}(a:j<n):0<(O.getD j []).length/\(O.getD j []).length<=n:=by
 refine⟨?_,mT (uQ (λx c=>g.dN.cU c) a (g.isc.asc j a) (g.isc.mem j a)) om⟩;exact HJ ((g.isc.mem j a j).2 ⟨bL n,g.dN.one,Fix.one n j om,fQ a⟩)
theorem UI (vc:V)(n:Nat)(O:LN)(R:jI)(G:List Nat->Prop)(h:H)(p:GC W h vc n O R G):
  Ev T 157 [vc] h (λv h'=> ∃S,v= .tup [.sl S 0 (n+1) (.kn (n+1)),.bool true]/\h'.cell S 0=some (aC (kI O n 0:Nat))/\Fr h h'):=by
 obtain⟨N,r,e,sO,sR⟩:=p.ch
 subst e
 refine cV Gh rfl ?_
 have l:=p.isc
 have n0:=p.n0
 have n7:=p.n7
 obtain⟨wO,tO,aO⟩:=sO
 have lO:=aO.length
 rw[jV,l.lo] at lO
 have L:=tO.cK.2.1
 have Q:r.one=true:=oNt sR
 obtain⟨B,hB⟩:=exI h.next
 obtain⟨h1,e1,n1,g1,o1,f1⟩:=dF hB [aC n,N,r]
 have bx:=bM h (v:= aC n) (u:=N) (w:=r) rfl L Q
 have en:(n:Int)+1=((n+1:Nat):Int):=om
 have U:=sT h1 (n+1) om
 rw[n1] at U
 obtain⟨y,P,n2,g2,o2,f2⟩:=dF n1 (rc (n+1) λ_=> aC 0)
 rw[P] at U
 have o:y.get B=some (.cells false [aC n,N,r]):=by rw[o2 _ om];exact g1
 have pt: ∀(c:H) (S:Nat) (F:Nat->V) (k:Nat) (v:V),k<n+1->dX (some (.cells false (rc (n+1) F))) c S k [v]=some (c.set S (some (.cells false (rc (n+1) λj=>if j=k then v else F j)))):=λc S F k v Y=>by rw[bN (by rw[kH];exact Y),mS]
 obtain⟨h3,e3,n3,g3,o3⟩:=pJ y (B+1) (rc (n+1) λj=>if j=n then aC 1 else aC 0)
 have f:h3.get B=some (.cells false [aC n,N,r]):=by rw[o3 _ om];exact o
 have a2:n<n+1:=om
 simp(disch:=omega)only[go_sem,Gh,aD,bx,hB,e1,H.aF g1,en,U,H.aF o,g2,pt _ _ _ n _ a2,e3,H.aF f]
 have F3:Fr h h3:=⟨om,λk Y=>by rw[o3 _ om,o2 _ om,o1 _ om]⟩
 have a1: ∀i,i<=n->0<kI O (n-i) i/\kI O (n-i) i<=823543:=λi hi=>by
  refine⟨Ln _ _ λj h1 y=>(p.row om).1,mT (TH (m:=7) om _ _ λj h1 y=>by have:=(p.row (j:=j) om).2;omega) ?_⟩;exact mT (Nat.pow_le_pow_right om (show n-i<=7 by omega)) (by decide)
 refine aH (λq b c=> ∃(i:Nat),(∃g:Nat->V,b= [g 0,.ptr B 0,g 2,g 3,.sl (B+1) 0 (n+1) (.kn (n+1)),aC ((i:Int)- 1),g 6,g 7,g 8])/\i<=n/\c.get B=some (.cells false [aC n,N,r])/\
   c.get (B+1)=some (.cells false (rc (n+1) λj=>if i<=j then aC (kI O (n-j) j:Nat) else aC 0))/\B+1<c.next/\Fr h c/\q=i) n
  ⟨n,aB rfl,fM _,f,?_,om,F3,rfl⟩ ?_
 ·rw[g3]
  congr 2
  refine dB λj hj=>?_
  by_cases e:j=n
  ·subst e;rw[bF rfl,bF (fM _),Nat.sub_self];rfl
  ·rw[bI e,bI om]
 clear g3 f o3 n3 e3 h3 F3 o g2 o2 n2 P U y f2
 rintro q b h4 ⟨i,⟨g,rfl⟩,hi,gB,gS,nx,F,Y⟩
 subst Y
 by_cases K:(0:Int)<=(q:Int)- 1
 case neg=>
  have Z:=bH K;obtain rfl:q=0:=om
  simp(disch:=omega)only[go_sem,Z];refine⟨B+1,rfl,?_,F⟩;rw[sL gS om]
  rfl
 have Z:=bP K
 obtain⟨i,rfl⟩: ∃i,q=i+1:=⟨q- 1,om⟩
 have ei:((i+1:Nat):Int)- 1=(i:Int):=om
 have eI:(i:Int)+1=((i+1:Nat):Int):=om
 rw[ei] at Z ⊢
 have a:=iG aO (i:=i) (by rw[jV,l.lo];omega) .undef []
 rw[nP zi (d:= []) (by rw[l.lo];omega)] at a
 obtain⟨a4,t,a6,a7,a3⟩:=(tO.mono F).shape n om om
 have co:h4.cell a4 (t+i)=some (wO.getD i .undef):=by rw[a3 i om,List.getD,dD om];rfl
 generalize wO.getD i .undef=vo at a co
 have lo:=a.lens
 rw[aQ] at lo
 obtain⟨m,hm⟩:=exI ((O.getD i []).length)
 rw[hm] at lo
 have J:=p.row (j:=i) om
 rw[hm] at J
 have cS:h4.cell (B+1) (i+1)=some (aC ((kI O (n-(i+1)) (i+1):Nat):Int)):=by rw[sL gS om,bF (fM _)]
 obtain⟨s,hs⟩:=exI (kI O (n-(i+1)) (i+1))
 rw[hs] at cS
 have A:=a1 (i+1) om
 rw[hs] at A
 have x:(1000000000000000000:Int).tdiv (m:Int)=((1000000000000000000/m:Nat):Int):=by
  rw[show (1000000000000000000:Int)=((1000000000000000000:Nat):Int) from rfl,Int.tdiv_eq_ediv_of_nonneg om];rfl
 have hq:100000000000000000<=1000000000000000000/m:=by
  rw[Nat.le_div_iff_mul_le om];omega
 have a8:1000000000000000000/m<=1000000000000000000:=Nat.div_le_self _ _
 have d2:decide (((1000000000000000000/m:Nat):Int)<(s:Int))=false:=bH om
 have z:(m:Int)*(s:Int)=((m*s:Nat):Int):=rfl
 have a9:m*s<=7*823543:=Nat.mul_le_mul om A.2
 have a0:i<n+1:=om
 have a5:(m:Int)≠0:=om
 simp(disch:=omega)only[go_sem,Z,H.aF gB,a6.ixa,co,lo,eI,cS,x,a5,d2,z,gS,pt _ _ _ i _ a0]
 refine⟨i,om,i,aB rfl,om,gB,?_,om,?_,rfl⟩
 ·congr 2
  refine dB λj hj=>?_
  by_cases e:j=i
  ·subst e
   rw[bF rfl,bF (fM _),show n-j=(n-(j+1))+1 by omega]
   unfold kI
   rw[hm,hs]
  ·rw[bI e]
   by_cases P:i+1<=j
   ·rw[bF P,bF om]
   ·rw[bI P,bI om]
 ·exact (F.bA om).set om _
theorem XX (m:V)(n:Nat)(O:LN)(R:jI)(G:List Nat->Prop)(h:H)(g:GC W h m n O R G):
  Ev T 119 [m] h (λv h'=>v= .tup [aC (kI O n 0:Nat),aC 0]/\Fr h h'):=by
 obtain⟨i,j,e,x,q⟩:=g.ch
 subst e
 refine cV Ki rfl ?_
 have a:i.one=true:=oNs x
 have b:j.one=true:=oNt q
 obtain⟨B,o⟩:=exI h.next
 obtain⟨J,z,A,k,K,c⟩:=dF o [aC n,i,j]
 have p:=bM h (v:= aC n) (u:=i) (w:=j) rfl a b
 have s:=aI k
 simp(disch:=omega)only[go_sem,Ki,aD,p,o,z,s]
 refine ((g.mono c).check).mono ?_
 rintro _ l ⟨rfl,f⟩
 have d:=aI (h:=l) (id:=B) (by rw[f.get _ om];exact k)
 simp(disch:=omega)only[go_sem]
 refine aW (λt=>(t rfl).elim) (λ_=>?_)
 simp(disch:=omega)only[go_sem,d]
 refine (UI _ n O R G l ((g.mono c).mono f)).mono ?_
 rintro _ F ⟨S,rfl,y,r⟩
 simp(disch:=omega)only[go_sem,y]
 exact (c.trans f).trans r
end
theorem afB {h:H}{S k c:Nat}{vs:List V}{y w:V}(b:h.get S=some (.cells false vs))(i:vs.length=c)(j:k<c)(g:c<1000000)(a:SV h y 1 [w]):
  xQ h 1 8 (.sl S 0 k (.kn c)) y=some (.sl S 0 (k+1) (.kn c),h.set S (some (.cells false (vs.set k w)))):=by
 have f:xQ h 1 8 (.sl S 0 k (.kn c)) y=Ay.yB h 1 8 (.sl S 0 k (.kn c)) 1 [w]:=by
  simp only[xQ,a.len (n:=1) rfl om,a.slice]
 rw[f]
 have d:h.slice 1 (.sl S 0 k (.kn c))=some (vs.take k):=by
  simp only[H.slice,H.row,b,sub];rw[bF om];simp
 have e:h.put S (0+k*1) [w]=some (h.set S (some (.cells false (vs.set k w)))):=by
  rw[H.put_eq,b,Nat.zero_add,uW,bN om]
 unfold Ay.yB
 simp only[d,sW]
 rw[bI om,bF om,bF om,e]
theorem DF {l:List Int}{a:List Nat}(b:l.Perm (zi a))(c:l.Pairwise (· <= ·)):l=zi (wC a):=by
 refine AN ?_ c ?_
 ·exact b.trans ((nK a).map _).symm
 ·unfold zi
  rw[List.pairwise_map];exact (Ry a).imp λh=>om
theorem Gx (O:LN)(x:List Nat)(i:Nat):(jP O x i).length=(O.getD i []).length:=by simp [jP]
theorem abR {O:LN}{x:List Nat}{i k:Nat}(a:k<(O.getD i []).length):(jP O x i).getD k 0=x.getD ((O.getD i []).getD k 0) 0:=by
 unfold jP;rw[nP (λq=>x.getD q 0) (d:=0) a]
theorem DG {W:Nat->Prop}(vc vx:V)(n i:Nat)(O:LN)(R:jI)(G:List Nat->Prop)(x:List Nat)(h:H)(U:GC W h vc n O R G)(hi:i<n)(hx:SI h vx (zi x))(X:bE n x):
  Ev T 180 [vc,vx,aC i] h (λv h'=>zD h h' v (zi (wC (jP O x i)))):=by
 obtain⟨vO,vR,e,sO,sR⟩:=U.ch
 subst e
 refine cV Bp rfl ?_
 have b:=U.isc
 have n7:=U.n7
 obtain⟨wO,tO,aO⟩:=sO
 have lO:=aO.length
 rw[jV,b.lo] at lO
 have a0:=tO.cK.2.1
 have a3:vR.one=true:=oNt sR
 obtain⟨B,hB⟩:=exI h.next
 obtain⟨h1,e1,n1,g1,o1,f1⟩:=dF hB [aC n,vO,vR]
 have bx:=bM h (v:= aC n) (u:=vO) (w:=vR) rfl a0 a3
 have a:=iG aO (i:=i) (by rw[jV,b.lo];omega) .undef []
 rw[nP zi (d:= []) (by rw[b.lo];omega)] at a
 obtain⟨a2,c,b2,Y,b1⟩:=(tO.mono f1).shape n om om
 have co:h1.cell a2 (c+i)=some (wO.getD i .undef):=by rw[b1 i om,List.getD,dD om];rfl
 generalize wO.getD i .undef=vo at a co
 have lo:=a.lens
 rw[aQ] at lo
 obtain⟨m,r⟩:=exI ((O.getD i []).length)
 rw[r] at lo
 have Q:=U.row (j:=i) hi
 rw[r] at Q
 have mk:Jo h1 1 8 [aC 0] (aC 0) (aC m)=some (.sl (B+1) 0 0 (.kn m),h1.new (.cells false (rc m λ_=> aC 0))):=by
  rw[tU om om om om,NK,uW,Jf,show ints (List.replicate m 0)=rc m λ_=> aC 0 from (Kq (by simp [aP]) λi hi=>by simp [ints,hi]).symm,n1]
  rfl
 obtain⟨h2,e2,n2,g2,o2,f2⟩:=dF n1 (rc m λ_=> aC 0)
 rw[e2] at mk
 have a9:h2.get B=some (.cells false [aC n,vO,vR]):=by rw[o2 _ om];exact g1
 have a8:h2.cell a2 (c+i)=some vo:=by rw[f2.cell (by have:=Y om;omega)];exact co
 simp(disch:=omega)only[go_sem,Bp,aD,bx,hB,e1,H.aF g1,b2.ixa,co,lo,mk,H.aF a9,a8]
 obtain⟨a4,t,A,o,K⟩:=a.open
 rw[aQ,r] at A o K
 obtain⟨idx,N,P,l,a1⟩:=hx.open
 rw[aQ,X.len] at P l a1
 refine aH (λk' f hh=> ∃(k:Nat),(∃g:Nat->V,f= [g 0,vx,g 2,g 3,g 4,.sl (B+1) 0 k (.kn m),g 6,vo,aC m,aC k,g 10])/\k<=m/\hh.get (B+1)=some (.cells false (rc m λj=>if j<k then aC ((jP O x i).getD j 0:Nat) else aC 0))/\B+1<hh.next/\Fr h hh/\k'=m-k) m
  ⟨0,aB rfl,iJ _,by rw[g2];rfl,om,f1.trans f2,rfl⟩ ?_
 rintro k' f p ⟨k,⟨g,rfl⟩,hk,gS,nx,F,rfl⟩
 by_cases Z:(k:Int)<(m:Int)
 ·have d1:=bP Z
  have L:k<m:=om
  have cq:p.cell a4 (t+k)=some (aC ((O.getD i []).getD k 0:Nat)):=by rw[F.cell (o om),K k L];congr 2;rw[zi,nP _ (d:=0) om]
  have hq:=Im U.dN b hi (q:=(O.getD i []).getD k 0) (bD om)
  have J:=abR (O:=O) (x:=x) (i:=i) (k:=k) om
  generalize (O.getD i []).getD k 0=q at cq hq J
  have cx:p.cell idx (N+q)=some (aC (x.getD q 0:Nat)):=by rw[F.cell (l om),a1 q hq];congr 2;simp [zi,X.len,hq]
  obtain⟨h5,e5,n5,g5,o5,s⟩:=dF (h:=p) rfl [aC (x.getD q 0:Nat)]
  have b0:h5.get (B+1)=some (.cells false (rc m λj=>if j<k then aC ((jP O x i).getD j 0:Nat) else aC 0)):=by rw[s.get _ nx];exact gS
  have ap:=afB b0 (kH _ _) L om (SV.one (v:= aC (x.getD q 0:Nat)) (id:=p.next) om g5 (.kn 1))
  rw[mS] at ap
  simp(disch:=omega)only[go_sem,d1,A.ixa,cq,P.ixa,cx,cT p (z:= aC 0) (v:= aC (x.getD q 0:Nat)) rfl rfl,e5,ap]
  rw[eJ k]
  refine⟨m-(k+1),om,k+1,aB rfl,om,?_,om,(F.trans s).set om _,rfl⟩
  congr 2
  refine dB λj hj=>?_
  by_cases e:j=k
  ·subst e;rw[bF rfl,bF om,J]
  ·rw[bI e]
   by_cases e2:j<k
   ·rw[bF e2,bF om]
   ·rw[bI e2,bI om]
 have d1:=bH Z
 obtain rfl:k=m:=om
 have a7:(zi (jP O x i)).length=k:=by rw[aQ,Gx,r]
 have a6:p.get (B+1)=some (.cells false (ints (zi (jP O x i)))):=by
  rw[gS,←Zu,Gx,r];congr 2;exact dB λj hj=>by rw[bF hj]
 have so:=Lm p (B+1) (zi (jP O x i)) (.kn k) om a6 nx
 rw[a7] at so
 simp(disch:=omega)only[go_sem,d1]
 refine so.mono ?_
 rintro _ h5 ⟨l',g5,p5,a5,s⟩
 have el:=DF p5 a5
 subst el
 have ls:(zi (wC (jP O x i))).length=k:=by rw[aQ,(nK _).length_eq,Gx,r]
 simp(disch:=omega)only[go_sem]
 refine⟨⟨B+1,_,by rw[ls],om,iW nx s.next,g5,.inr (by rw[ls])⟩,⟨mT F.next s.next,λid y=>?_⟩⟩
 rw[s.get id (iW y F.next) (λe=>by have:id=B+1:=e;omega)]
 exact F.get id y
theorem VL: ∀{l:List Nat} {k im:Nat},l[k]? =some im->l.idxOf im<=k
 | [],k,im,h=>by simp at h
 |a::l,0,im,h=>by
  have:a=im:=by simpa using h
  subst this;simp [List.idxOf_cons]
 |a::l,k+1,im,h=>by
  rw[List.idxOf_cons]
  by_cases e:a=im
  ·subst e;simp
  ·have b:(a==im)=false:=by simpa using e
   rw[b];have:=VL (l:=l) (k:=k) (im:=im) (by simpa using h);simp only[cond_false];omega
theorem agD (A L:V)(a b:Nat)(o x:List Nat)(im:Nat)(h:H)(hn:o.length<1000000)(O:SI h A (zi o))(Y:SI h L (zi x))(W:h.get a=some (.cells false [L]))(hb:h.get b=some (.cells false [aC im]))(B:a<h.next)(J:b<h.next)(hr: ∀q∈o,q<x.length)(s:im∈o.map λq=>x.getD q 0):
  Ev T 222 [A,.fn 223 [] [.ptr a 0,.ptr b 0]] h (λv h'=>v= aC ((o.map λq=>x.getD q 0).idxOf im:Nat)/\Fr h h'):=by
 refine cV lJ rfl ?_
 have U:=O.lens
 rw[aQ] at U
 obtain⟨z,n,r,l,t⟩:=O.open
 rw[aQ] at r l t
 obtain⟨idx,y,p,j,w⟩:=Y.open
 rw[aQ] at p j w
 have K:=iLL.2 s
 rw[jV] at K
 simp(disch:=omega)only[go_sem,lJ,aD,U]
 refine aH (λQ i f=> ∃(k:Nat),(∃g:Nat->V,i= [A,.fn 223 [] [.ptr a 0,.ptr b 0],g 2,g 3,aC (o.length:Int),aC k,g 6,g 7])/\k<=(o.map λq=>x.getD q 0).idxOf im/\Fr h f/\Q=o.length-k) o.length
  ⟨0,aB rfl,iJ _,Fr.refl h,rfl⟩ ?_
 rintro Q i f ⟨k,⟨g,rfl⟩,hk,F,rfl⟩
 have c:k<o.length:=om
 have d1:decide ((k:Int)<(o.length:Int))=true:=bP om
 have R:f.cell z (n+k)=some (aC (o.getD k 0:Nat)):=by rw[F.cell (l om),t k c];congr 2;rw[zi,nP _ (d:=0) c]
 have G:=hr _ (bD (d:=0) c)
 have m:(o.map λq=>x.getD q 0)[k]'(by simpa using c)=x.getD (o.getD k 0) 0:=by simp [List.getD,c]
 generalize o.getD k 0=q at R G m
 have Z:f.cell idx (y+q)=some (aC (x.getD q 0:Nat)):=by rw[F.cell (j om),w q G];congr 2;simp [zi,G]
 have ca:f.cell a 0=some L:=by rw[H.aF (by rw[F.get _ B];exact W)];rfl
 have cb:f.cell b 0=some (aC im):=by rw[H.aF (by rw[F.get _ J];exact hb)];rfl
 have cl:Ev T 223 [aC q,.ptr a 0,.ptr b 0] f (λv h'=>v= .bool (decide (((x.getD q 0:Nat):Int)=(im:Int)))/\Fr f h'):=by
  refine cV De rfl ?_;simp(disch:=omega)only[go_sem,De,aD,ca,p.ixa,Z,cb];exact (Fr.refl f).bA om
 simp(disch:=omega)only[go_sem,d1,r.ixa,R]
 refine cl.mono ?_
 rintro _ h2 ⟨rfl,P⟩
 by_cases u:((x.getD q 0:Nat):Int)=(im:Int)
 ·rw[bP u]
  simp(disch:=omega)only[go_sem]
  have:(o.map λq=>x.getD q 0).idxOf im=k:=by
   have N:(o.map λq=>x.getD q 0).idxOf im<=k:=VL (by
    rw[dD (by simpa using c),m]
    congr 1;omega)
   omega
  rw[this]
  exact⟨rfl,F.trans P⟩
 ·rw[bH u]
  simp(disch:=omega)only[go_sem]
  rw[eJ k]
  refine⟨o.length-(k+1),om,k+1,aB rfl,?_,F.trans P,rfl⟩
  have:(o.map λq=>x.getD q 0).idxOf im≠k:=λe=>by
   have N:=List.getElem_idxOf (iLL.2 s);simp only[e] at N;rw[m] at N;omega
  omega
theorem aaJ {W:Nat->Prop}(vc g:V)(n i im:Nat)(O:LN)(R:jI)(G:List Nat->Prop)(x:List Nat)(h:H)(l:GC W h vc n O R G)(hi:i<n)(L:SI h g (zi x))(X:bE n x)(s:im∈jP O x i):
  Ev T 181 [vc,g,aC i,aC im] h (λv h'=>zD h h' v (zi (iY O R x i im))):=by
 obtain⟨N,P,e,sO,sR⟩:=l.ch
 subst e
 refine cV Jy rfl ?_
 have a:=l.isc
 have n7:=l.n7
 obtain⟨wO,tO,aO⟩:=sO
 obtain⟨wR,tR,aR,kR⟩:=sR
 have lO:=aO.length
 have lR:=aR.length
 rw[jV,a.lo] at lO
 rw[jV,a.lr] at lR
 have z:=tO.cK.2.1
 have F:=tR.cK.2.1
 obtain⟨B,hB⟩:=exI h.next
 obtain⟨h1,e1,n1,g1,o1,f1⟩:=dF hB [aC n,N,P]
 obtain⟨h2,e2,n2,g2,o2,f2⟩:=dF n1 [g]
 obtain⟨J,e3,n3,g3,o3,f3⟩:=dF n2 [aC im]
 have K:=(f1.trans f2).trans f3
 have bx:=bM h (v:= aC n) (u:=N) (w:=P) rfl z F
 have a6:=mF L.cK.1 L.cK.2.1 h1
 have a8:=Oh h2 .i64 (im:Int)
 have m:J.get B=some (.cells false [aC n,N,P]):=by rw[o3 _ om,o2 _ om];exact g1
 have y:J.get (B+1)=some (.cells false [g]):=by rw[o3 _ om];exact g2
 have b:=iG aO (i:=i) (by rw[jV,a.lo];omega) .undef []
 rw[nP zi (d:= []) (by rw[a.lo];omega)] at b
 obtain⟨b2,p,b3,b5,b1⟩:=(tO.mono K).shape n om om
 have co:J.cell b2 (p+i)=some (wO.getD i .undef):=by rw[b1 i om,List.getD,dD om];rfl
 generalize wO.getD i .undef=vo at b co
 simp(disch:=omega)only[go_sem,Jy,aD,bx,hB,e1,a6,n1,e2,a8,n2,e3,H.aF m,b3.ixa,co]
 have row:=l.row (j:=i) hi
 refine (agD vo g (B+1) (B+1+1) (O.getD i []) x im J om (b.mono K) (L.mono K) y g3 om om (λq hq=>by rw[X.len];exact Im l.dN a hi hq) s).mono ?_
 rintro _ f ⟨rfl,f4⟩
 obtain⟨k,hk,ek,_,a0,es,Y,_⟩:=wH l.dN a X hi s
 have a1:(List.map (λq=>x.getD q 0) (O.getD i [])).idxOf im=k:=ek
 rw[a1,es]
 have t:=K.trans f4
 have a3:f.get B=some (.cells false [aC n,N,P]):=by rw[f4.get _ om];exact m
 have a4:f.get (B+1)=some (.cells false [g]):=by rw[f4.get _ om];exact y
 have c:=iG aR (i:=i) (by rw[jV,a.lr];omega) .undef []
 rw[nP (List.map zi) (d:= []) (by rw[a.lr];omega)] at c
 obtain⟨a9,A,a5,b6,a2⟩:=(tR.mono t).shape n om om
 have cr:f.cell a9 (A+i)=some (wR.getD i .undef):=by rw[a2 i om,List.getD,dD om];rfl
 generalize wR.getD i .undef=vr at c cr
 obtain⟨wr,tr,ar⟩:=c
 have lr:=ar.length
 rw[jV] at lr
 have o:k<(R.getD i []).length:=by rw[a.rl i hi];exact hk
 have sz:=iG ar (i:=k) (by rw[jV];exact o) .undef []
 rw[nP zi (d:= []) o] at sz
 obtain⟨Q,r,b0,b4,a7⟩:=(tr.mono t).shape (R.getD i []).length om om
 have cz:f.cell Q (r+k)=some (wr.getD k .undef):=by rw[a7 k om,List.getD,dD om];rfl
 generalize wr.getD k .undef=vz at sz cz
 have b7:(k:Int)<((R.getD i []).length:Int):=om
 have Z:=l.dN.cU a0.mem
 have U:Fr f (H.mk f.tr (f.next+11)):=(Fr.refl f).bA om
 simp(disch:=omega)only[go_sem,H.aF a3,a5.ixa,cr,b0.ixa,cz,H.aF a4]
 refine (mY CN.ok vz g _ x (H.mk f.tr (f.next+11)) (by rw[Z.len];omega) (sz.mono (t.trans U)) (L.mono (t.trans U)) (λj hj=>by rw[X.len];exact Z.iN (by rw[←Z.len];exact hj))).mono ?_
 rintro v h5 nw
 simp(disch:=omega)only[go_sem]
 exact (Td nw).le (t.trans U)
def Kept (b:Nat)(W:Nat->Prop)(hh h':H):Prop:=hh.next<=h'.next/\ ∀id,id<hh.next->(id<b∨W id)->h'.get id=hh.get id
theorem Kept.fr {b:Nat}{W:Nat->Prop}{a h':H}(f:Fr a h'):Kept b W a h':=⟨f.next,λid h _=>f.get id h⟩
structure Rdr (id b:Nat)(L:LN)(W0:Nat->Prop)(J:Nat->(Nat->Prop)->H->Prop)(D:(Nat->Prop)->H->Prop):Prop where
 kJ: ∀k W hh h',J k W hh->Kept b W hh h'->J k W h'
 kD: ∀W hh h',D W hh->Kept b W hh h'->D W h'
 y: ∀k W hh v,k<L.length->J k W hh->PV W hh v (L.getD k [])->(∀id,W id->id<hh.next)->b<=hh.next->(∀id,id<b->W id->W0 id)->
  Ey T id [v] hh (λv h'=> ∃W2,(∀id,id<hh.next->W2 id->W id)/\(∀id,W2 id->id<h'.next)/\Fx W hh h'/\(v= .bool true/\J (k+1) W2 h'∨v= .bool false/\D W2 h'))
def ElC (n:Nat)(vO vR:V)(O:LN)(R:jI)(G:List Nat->Prop)(d:Nat):Prop:=
 ∀(i:Nat) (x:List Nat) (vx:V) (id bi bc bx:Nat) (h:H) (W:Nat->Prop) (J:Nat->(Nat->Prop)->H->Prop) (D:(Nat->Prop)->H->Prop),i+d=n->bE n x->
  h.get bi=aZ [aC i]->h.get bc=aZ [aC n,vO,vR]->h.get bx=aZ [vx]->PV W h vx x->bi<h.next->bc<h.next->bx<h.next-> ¬W bi-> ¬W bc-> ¬W bx->
  GC W h (.agg [aC n,vO,vR]) n O R G->(∀id,W id->id<h.next)->J 0 W h->Rdr id h.next (cZ O R d i x) W J D->
  Ev T 179 [.yl id,.ptr bi 0,.ptr bc 0,.ptr bx 0] h (λ_ h'=> ∃W2,(∀id,id<h.next->W2 id->W id)/\(∀id,W2 id->id<h'.next)/\Fx W h h'/\(J (cZ O R d i x).length W2 h'∨D W2 h'))
theorem aaN (n:Nat)(F L:V)(O:LN)(R:jI)(G:List Nat->Prop):ElC n F L O R G 0:=by
 intro i x Y id u q k h W J D hi X K z A s li lc lx Z wc wx g Q w rd;refine cV lF rfl ?_;obtain rfl:i=n:=om
 obtain⟨B,j⟩:=exI h.next;obtain⟨a,U,n1,l,d,e⟩:=dF j [.yl id];have c:=mF (x:= .yl id) rfl rfl h;have ci:=H.aF (h:=a) (id:=u) (by rw[d _ om];exact K);have m:=H.aF (h:=a) (id:=q) (by rw[d _ om];exact z);have p:=H.aF (h:=a) (id:=k) (by rw[d _ om];exact A);have d1:decide ((i:Int)=(i:Int))=true:=bP rfl;simp(disch:=omega)only[go_sem,lF,aD,c,j,U,ci,m];refine aW (λ_=>?_) (λN=>(N (by first|rfl|trivial)).elim);simp(disch:=omega)only[go_sem,H.aF l,p];refine (rd.y 0 W a Y (by simp [cZ]) (rd.kJ 0 W h a w (Kept.fr e)) (s.mono e) (λid h=>by have:=Q id h;omega) om (λid _ h=>h)).mono ?_;rintro v f ⟨t,r,P,o,b⟩;simp(disch:=omega)only[go_sem];refine⟨t,λid a f=>r id om f,P,(Fx.of e).trans o (λ_ _ h=>h),?_⟩;rcases b with ⟨_,b⟩|⟨_,b⟩
 ·exact .inl b
 ·exact .inr b
theorem OS (d:Int)(b c a:V)(i:Int)(F:b.one=true)(y:c.one=true)(e:a.cells= [a])(f:a.one=true)(h:H):Ev T 136 [.agg [aC d,b,c],a,aC i] h (λv h'=>v= .fn 179 [] [.ptr (h.next+1+1) 0,.ptr h.next 0,.ptr (h.next+1) 0]/\
  h'.get h.next=aZ [aC d,b,c]/\h'.get (h.next+1)=aZ [a]/\h'.get (h.next+1+1)=aZ [aC i]/\h'.next=h.next+3/\Fr h h'):=by
 refine cV yQ rfl ?_
 obtain⟨B,l⟩:=exI h.next
 obtain⟨J,N,k,p,P,s⟩:=dF l [aC d,b,c]
 obtain⟨t,K,m,q,G,z⟩:=dF k [a]
 obtain⟨O,A,L,r,n,x⟩:=dF m [aC i]
 have o:=bM h (v:= aC d) (u:=b) (w:=c) rfl F y
 have g:=mF e f J
 have j:=Oh t .i64 i
 simp(disch:=omega)only[go_sem,yQ,aD,o,l,N,g,k,K,j,m,A]
 exact⟨by rw[n _ om,G _ om];exact p,by rw[n _ om];exact q,r,L,(s.trans z).trans x⟩
theorem UY {α β:Type}{l:List α}{f:α->List β}{m:Nat}(a:m<l.length)(d:α):((l.take (m+1)).flatMap f).length=((l.take m).flatMap f).length+(f (l.getD m d)).length:=by
 rw[fT d a,List.flatMap_append];simp
theorem FN {α β:Type}{f:α->List β}{e:β}(d:α): ∀{l:List α} {m k:Nat},m<l.length->k<(f (l.getD m d)).length->(l.flatMap f).getD (((l.take m).flatMap f).length+k) e=(f (l.getD m d)).getD k e/\((l.take m).flatMap f).length+k<(l.flatMap f).length
 | [],m,k,h,_=>by simp at h
 |a::l,0,k,_,b=>by
  have b:k<(f a).length:=b;constructor
  ·simp only[List.take_zero,List.flatMap_nil,List.length_nil,Nat.zero_add,List.flatMap_cons]
   rw[List.getD,List.getD,Dv b];rfl
  ·simp;omega
 |a::l,m+1,k,h,b=>by
  have i:m<l.length:=by simpa using h
  have c:k<(f (l.getD m d)).length:=by simpa using b
  obtain⟨g,j⟩:=FN (e:=e) d (l:=l) i c;constructor
  ·simp only[List.take_succ_cons,List.flatMap_cons,jZ]
   rw[Nat.add_assoc,List.getD,Kk om,Nat.add_sub_cancel_left];exact g
  ·simp only[List.take_succ_cons,List.flatMap_cons,jZ];omega
structure InJ (off id2 b4 id:Nat)(r:eH)(J:Nat->(Nat->Prop)->H->Prop)(W0:Nat->Prop)(k:Nat)(W:Nat->Prop)(hh:H):Prop where
 ex: ∃W3,(∀id,W id↔(W3 id∨id=id2))/\ ¬W3 id2/\ ¬W3 b4/\J (off+k) W3 hh/\(∀id,W3 id->id<hh.next)/\ ∀id,id<id2->W3 id->W0 id
 gr:hh.get id2=some (.loop r)
 g4:hh.get b4=aZ [.yl id]
 nx:id2<hh.next
structure InD (id2 b4:Nat)(r:eH)(D:(Nat->Prop)->H->Prop)(W0:Nat->Prop)(W:Nat->Prop)(hh:H):Prop where
 ex: ∃W3,(∀id,W id↔(W3 id∨id=id2))/\ ¬W3 id2/\D W3 hh/\(∀id,W3 id->id<hh.next)/\ ∀id,id<id2->W3 id->W0 id
 gr:hh.get id2=some (.loop (tX r .ret))
 nx:id2<hh.next
theorem acJ (n:Nat)(F K:V)(O:LN)(R:jI)(G:List Nat->Prop)(d:Nat)(ih:ElC n F K O R G d):ElC n F K O R G (d+1):=by
 intro i x vx id bi bc bx h W J D hi X gi gc gx px li lc lx wi wc wx gC hW hJ rd;refine cV lF rfl ?_;have a6:i<n:=om
 have n7:=gC.n7
 obtain⟨c8,c9⟩:F.one=true/\K.one=true:=by
  obtain⟨a,b,e,s1,s2⟩:=gC.ch;cases e;obtain⟨_,t1,_⟩:=s1;obtain⟨_,t2,_⟩:=s2;exact⟨t1.cK.2.1,t2.cK.2.1⟩
 obtain⟨B,hB⟩:=exI h.next;obtain⟨p,e1,n1,g1,o1,f1⟩:=dF hB [.yl id];have g3:=mF (x:= .yl id) rfl rfl h;have c5:p.get bi=aZ [aC i]:=by rw[o1 _ om];exact gi
 have b9:p.get bc=aZ [aC n,F,K]:=by rw[o1 _ om];exact gc
 have c6:p.get bx=aZ [vx]:=by rw[o1 _ om];exact gx
 have d1:decide ((i:Int)=(n:Int))=false:=bH om;have d9:=aI b9;simp(disch:=omega)only[go_sem,lF,aD,g3,hB,e1,H.aF c5,H.aF b9,d1,d9,H.aF c6];refine (DG (.agg [aC n,F,K]) vx n i O R G x p (gC.mono f1) a6 (px.mono f1).si X).mono ?_;rintro v8 c c1;obtain⟨w,a7⟩:=exI (wC (jP O x i));rw[a7] at c1;have f2:=c1.fr;have F2:=f1.trans f2
 have i1:w.length<=7:=by
  have:=(gC.row (j:=i) a6).2;rw[←a7,(nK _).length_eq,Gx];omega
 have g8: ∀q,q∈w->q∈jP O x i:=λq h=>(nK _).mem_iff.1 (by rw[a7];exact h)
 have hL:cZ O R (d+1) i x=w.flatMap λq=>cZ O R d (i+1) (iY O R x i q):=by rw[←a7];rfl
 obtain⟨P,cp,b5,h0,d6,gP,_⟩:=c1.ex;rw[aQ] at b5;have l8:bT v8=some (aC (w.length:Int)):=by rw[b5];rfl
 have g2:J 0 W c:=rd.kJ 0 W h c hJ (Kept.fr F2);have n2:=f2.next;simp(disch:=omega)only[go_sem,l8];refine aH (λk' b0 hh=> ∃(m:Nat) (s:Nat->Prop),(∃g:Nat->V,b0= [.yl id,.ptr bi 0,.ptr bc 0,.ptr bx 0,.ptr B 0,g 5,g 6,g 7,v8,aC (w.length:Int),aC m,g 11,g 12,g 13,g 14])/\m<=w.length/\J ((w.take m).flatMap λq=>cZ O R d (i+1) (iY O R x i q)).length s hh/\Fx W c hh/\(∀id,id<c.next->s id->W id)/\(∀id,s id->id<hh.next)/\k'=w.length-m) w.length
  ⟨0,W,aB rfl,iJ _,g2,Fx.refl _ _,λ_ _ h=>h,λid h=>by have:=hW id h;omega,rfl⟩ ?_
 rintro k' b0 u ⟨m,s,⟨g,rfl⟩,hm,a4,F3,w1,w2,rfl⟩
 by_cases d4:(m:Int)<(w.length:Int)
 case neg=>
  have d2:=bH d4;obtain rfl:m=w.length:=om
  simp(disch:=omega)only[go_sem,d2];rw[List.take_length,←hL] at a4;exact⟨s,λid p c=>w1 id om c,w2,(Fx.of F2).trans F3 (λ_ _ h=>h),.inl a4⟩
 have d2:=bP d4;have a8:m<w.length:=om
 obtain⟨q,N⟩:=exI (w.getD m 0);have b2:q∈jP O x i:=g8 q (by rw[←N];exact bD a8);obtain⟨_,_,_,_,_,_,Y,_⟩:=wH gC.dN gC.isc X a6 b2;have n3:=F3.next;have zA: ∀k,k<c.next-> ¬W k->u.get k=c.get k:=λk p c=>F3.get k p c
 have wB: ¬W B:=λh=>by have:=hW B h;omega
 have wP: ¬W P:=λh=>by have:=hW P h;omega
 have d0:u.get bi=aZ [aC i]:=by rw[zA _ om wi,f2.get _ om];exact c5
 have b3:u.get bc=aZ [aC n,F,K]:=by rw[zA _ om wc,f2.get _ om];exact b9
 have e7:u.get bx=aZ [vx]:=by rw[zA _ om wx,f2.get _ om];exact c6
 have g5:u.get B=aZ [.yl id]:=by rw[zA _ om wB,f2.get _ om];exact g1
 have cP:u.cell P m=some (aC q):=by rw[H.aF (by rw[zA _ d6 wP];exact gP),Ip a8,N]
 have f8:=aI b3
 have eO:dE F F=true:=by
  obtain⟨a,b,e,s1,s2⟩:=gC.ch;cases e;obtain⟨_,t1,_⟩:=s1;exact t1.dE
 have eR:dE K K=true:=by
  obtain⟨a,b,e,s1,s2⟩:=gC.ch;cases e;obtain⟨_,t2,_⟩:=s2;exact t2.dE
 have e9:GC W u (.agg [aC n,F,K]) n O R G:=(gC.mono F2).go F3 (λ_ _ h=>h);have f3:PV W u vx x:=(px.mono F2).fx F3;have fb:Fr u (H.mk u.tr (u.next+9)):=(Fr.refl u).bA om;rw[b5];have d5:(i:Int)+1=((i+1:Nat):Int):=om
 simp(disch:=omega)only[go_sem,d2,cP,f8,aI (h:=H.mk u.tr (u.next+9)) b3,H.aF e7,H.aF d0,d5];refine (aaJ (.agg [aC n,F,K]) vx n i q O R G x (H.mk u.tr (u.next+9)) (e9.mono fb) a6 (f3.mono fb).si X b2).mono ?_;rintro b6 h4 c2;have f4:=fb.trans c2.fr;have n4:=f4.next;have d8:h4.get bi=aZ [aC i]:=by rw[f4.get _ om];exact d0
 have e0:h4.get bc=aZ [aC n,F,K]:=by rw[f4.get _ om];exact b3
 have b8:PV s h4 b6 (iY O R x i q):=c2.pv λid h=>by have:=w2 id h;simp;omega
 simp(disch:=omega)only[go_sem,H.aF d8,aI e0,eO,eR];refine (OS (n:Int) F K b6 ((i+1:Nat):Int) c8 c9 b8.fG.1 b8.fG.2 h4).mono ?_;rintro _ h5 ⟨rfl,e8,f7,g0,n5,f5⟩;simp(disch:=omega)only[go_sem];refine⟨rfl,uJ λr hr=>?_⟩;obtain⟨o,b7⟩:=exI h5.next;rw[b7];have iP:r.st= .ready:=by rw[hr]
 have c7:r.pend=none:=by rw[hr]
 obtain⟨h6,a5⟩: ∃h6,h6=h5.new (.loop r):=⟨_,rfl⟩
 have e5:h6.get o=some (.loop r):=by rw[a5,←b7,H.aL]
 have n6:h6.next=o+1:=by rw[a5,H.aU,b7]
 have f6:Fr h5 h6:=by rw[a5];exact (Fr.refl h5).new _
 rw[←a5];have b4:=(f4.trans f5).trans f6;obtain⟨Z,U⟩:=exI (((w.take m).flatMap λq=>cZ O R d (i+1) (iY O R x i q)).length);rw[U] at a4;have i4:=f5.next;have e2: ¬s o:=λh=>by have:=w2 o h;omega
 have d7: ¬s B:=λh=>wB (w1 B om h)
 have g7: ∀k,k<(cZ O R d (i+1) (iY O R x i q)).length->(cZ O R (d+1) i x).getD (Z+k) []=(cZ O R d (i+1) (iY O R x i q)).getD k []/\Z+k<(cZ O R (d+1) i x).length:=λk hk=>by
  rw[hL,←U];have:=FN (f:=λq=>cZ O R d (i+1) (iY O R x i q)) (e:=([]:List Nat)) 0 (l:=w) (m:=m) (k:=k) a8 (by rw[N];exact hk);rw[N] at this;exact this
 have c4:Fx W h h6:=((Fx.of F2).trans F3 (λ_ _ h=>h)).trans (Fx.of b4) (λ_ _ h=>h)
 have f0:Rdr o h6.next (cZ O R d (i+1) (iY O R x i q)) (λk=>s k∨k=o) (InJ Z o B id r J s) (InD o B r D s):=by
  refine⟨λk W2 hh h' j L=>?_,λW2 hh h' j L=>?_,λk W2 hh v hk j pv i3 i0 h8=>?_⟩
  ·obtain⟨W3,t,Q,q3,q4,q5,q6⟩:=j.ex
   have nx:=j.nx;exact⟨⟨W3,t,Q,q3,rd.kJ _ _ _ _ q4 ⟨L.1,λid p c=>L.2 id p (by rcases c with c|c;exact .inl om;exact .inr ((t id).2 (.inl c)))⟩,λid h=>iW (q5 id h) L.1,q6⟩,by rw[L.2 _ nx (.inl om)];exact j.gr,by rw[L.2 _ om (.inl om)];exact j.g4,iW nx L.1⟩
  ·obtain⟨W3,t,Q,q4,q5,q6⟩:=j.ex
   have nx:=j.nx;exact⟨⟨W3,t,Q,rd.kD _ _ _ q4 ⟨L.1,λid p c=>L.2 id p (by rcases c with c|c;exact .inl om;exact .inr ((t id).2 (.inl c)))⟩,λid h=>iW (q5 id h) L.1,q6⟩,by rw[L.2 _ nx (.inl om)];exact j.gr,iW nx L.1⟩
  ·obtain⟨W3,t,Q,q3,q4,q5,q6⟩:=j.ex
   have nx:=j.nx;obtain⟨e6,e3⟩:=g7 k hk;refine sZ j.gr (by rw[hr];rfl) iP λh9 g9 n9 o9=>?_
   rw[congrArg eH.assign hr,congrArg eH.vars hr,congrArg eH.pars hr];simp(disch:=omega)only[go_sem,List.zip_cons_cons,List.zip_nil_left];rw[congrArg eH.body hr];have d3:h9.get B=aZ [.yl id]:=by rw[o9 _ om];exact j.g4
   have f9:Fx W2 hh h9:=⟨om,λk _ c=>o9 k λe=>c ((t k).2 (.inr e))⟩
   have k9:Kept h.next W3 hh h9:=⟨om,λk p c=>o9 k λe=>by
    subst e;rcases c with c|c
    ·omega
    ·exact Q c⟩
   simp(disch:=omega)only[go_sem,H.aF d3];refine (rd.y (Z+k) W3 h9 v e3 (rd.kJ _ _ _ _ q4 k9) (by rw[e6];exact PV.go pv f9 λid _ h=>(t id).2 (.inl h)) (λid h=>by rw[n9];exact q5 id h) om (λid p c=>w1 id om (q6 id om c))).mono ?_;rintro v' z ⟨W4,u1,u2,a3,hv⟩;have i2:=a3.next;have c0: ¬W4 o:=λh=>Q (u1 o om h)
   have g6: ¬W4 B:=λh=>q3 (u1 B om h)
   have b1:z.get o=some (.loop (pW r)):=by rw[a3.get o om Q];exact g9
   have c3:z.get B=aZ [.yl id]:=by rw[a3.get B om q3];exact d3
   have a9:Fx W2 hh z:=f9.trans a3 λid _ h=>(t id).2 (.inl h)
   have low: ∀k,k<o->W4 k->s k:=λk p c=>q6 k p (u1 k om c)
   have kk: ∀r2:eH,Kept h.next W4 z (z.set o (some (.loop r2))):=λr2=>⟨fM _,λk p c=>H.aG _ (λe=>by
    subst e;rcases c with c|c
    ·omega
    ·exact c0 c) _⟩
   rcases hv with ⟨rfl,hv⟩|⟨rfl,hv⟩
   ·simp(disch:=omega)only[go_sem]
    refine oX iP c7 b1 ⟨λk=>W4 k∨k=o,λk p c=>?_,λk c=>?_,a9.trans (Fx.set z ((t o).2 (.inr rfl)) _) (λ_ _ h=>h),.inl ⟨rfl,⟨W4,λk=>Iff.rfl,c0,g6,?_,u2,low⟩,by rw[H.aS],by rw[H.aG _ om];exact c3,by simp only[H.bY];omega⟩⟩
    ·rcases c with c|c
     ·exact (t k).2 (.inl (u1 k om c))
     ·exact (t k).2 (.inr c)
    ·rcases c with c|c
     ·exact u2 k c
     ·simp only[H.bY];omega
    ·exact rd.kJ _ _ _ _ hv (kk r)
   ·simp(disch:=omega)only[go_sem]
    refine Ta b1 ⟨λk=>W4 k∨k=o,λk p c=>?_,λk c=>?_,a9.trans (Fx.set z ((t o).2 (.inr rfl)) _) (λ_ _ h=>h),.inr ⟨rfl,⟨W4,λk=>Iff.rfl,c0,?_,u2,low⟩,by rw[H.aS],by simp only[H.bY];omega⟩⟩
    ·rcases c with c|c
     ·exact (t k).2 (.inl (u1 k om c))
     ·exact (t k).2 (.inr c)
    ·rcases c with c|c
     ·exact u2 k c
     ·simp only[H.bY];omega
    ·exact rd.kD _ _ _ hv (kk _)
 have A: ∀k,k<h5.next->h6.get k=h5.get k:=λk hk=>f6.get k hk
 have e4:GC (λk=>s k∨k=o) h6 (.agg [aC n,F,K]) n O R G:=gC.go c4 λk p c=>by
  rcases c with c|c
  ·exact w1 k om c
  ·omega
 refine (ih (i+1) (iY O R x i q) b6 o (h4.next+1+1) h4.next (h4.next+1) h6 (λk=>s k∨k=o) (InJ Z o B id r J s) (InD o B r D s) om Y (by rw[A _ om];exact g0) (by rw[A _ om];exact e8) (by rw[A _ om];exact f7)
  (((b8.mono f5).lH λk p c=>(by rcases c with c|c;exact c;omega)).mono f6) om om om (λh=>by rcases h with h|h;have:=w2 _ h;omega;omega) (λh=>by rcases h with h|h;have:=w2 _ h;omega;omega) (λh=>by rcases h with h|h;have:=w2 _ h;omega;omega) e4 (λk h=>by rcases h with h|h;have:=w2 _ h;omega;omega)
  ⟨⟨s,λk=>Iff.rfl,e2,d7,rd.kJ _ _ _ _ a4 (Kept.fr b4),λk h=>by have:=w2 _ h;omega,λ_ _ h=>h⟩,e5,by rw[A _ om,f5.get _ om,f4.get _ om];exact g5,om⟩ f0).mono ?_
 rintro _ h7 ⟨W7,a1,a2,F7,j|j⟩
 ·obtain⟨W3,t,Q,q3,q4,q5,q6⟩:=j.ex
  have nx:=j.nx;refine⟨r,j.gr,by rw[iP];simp,?_⟩;have en:r.pend.getD .norm= .norm:=by rw[c7];rfl
  rw[en];simp(disch:=omega)only[go_sem];rw[eJ m]
  have a0:Fx W c h7:=F3.trans ((Fx.of (W:=λk=>s k∨k=o) b4).trans F7 (λ_ _ h=>h)) λk p c=>by
   rcases c with c|c
   ·exact w1 k p c
   ·omega
  refine⟨w.length-(m+1),om,m+1,W3,aB rfl,om,?_,⟨a0.next,λk p c=>by rw[H.aG _ om];exact a0.get k p c⟩,λk p c=>w1 k p (q6 k om c),q5,rfl⟩;rw[UY a8 0,N,U]
  refine rd.kJ _ _ _ _ q4 ⟨fM _,λk p c=>H.aG _ (λe=>by
   subst e;rcases c with c|c
   ·omega
   ·exact Q c) _⟩
 ·obtain⟨W3,t,Q,q4,q5,q6⟩:=j.ex
  have nx:=j.nx;refine⟨_,j.gr,by simp [tX],?_⟩;have en:(tX r .ret).pend.getD .norm= .ret:=rfl;rw[en];simp(disch:=omega)only[go_sem]
  have a0:Fx W h h7:=c4.trans F7 λk p c=>by
   rcases c with c|c
   ·exact w1 k om c
   ·omega
  refine⟨W3,λk p c=>w1 k om (q6 k om c),q5,⟨a0.next,λk p c=>by rw[H.aG _ om];exact a0.get k p c⟩,.inr ?_⟩
  refine rd.kD _ _ _ q4 ⟨fM _,λk p c=>H.aG _ (λe=>by
   subst e;rcases c with c|c
   ·omega
   ·exact Q c) _⟩
theorem RZ (n:Nat)(b a:V)(O:LN)(R:jI)(G:List Nat->Prop): ∀d,ElC n b a O R G d
 |0=>aaN n b a O R G
 |d+1=>acJ n b a O R G d (RZ n b a O R G d)
def ahF (W M:Nat->Prop)(b:Nat)(hh:H)(w:V)(x:List Nat):Prop:= ∃id cap,w= .sl id 0 x.length cap/\W id/\ ¬M id/\b<=id/\id<hh.next/\hh.get id=aZ (ints (zi x))
structure LsJ (h:H)(b0 A B id2:Nat)(r:eH)(l:LN)(W:Nat->Prop)(hh:H):Prop where
 ex: ∃va ws M,hh.get A=aZ [va]/\cY hh va 1 ws (id2+1)/\aM (ahF W M (id2+1) hh) ws l/\Hq M va/\(∀id,M id->W id)/\(∀id,M id->id<hh.next)/\M A/\ ∀id off n c,va= .sl id off n c->id≠id2/\id≠A
 gr:hh.get id2=some (.loop r)
 wA:W A
 w2:W id2
 g1:hh.get (B+1)=aZ [.aE]
 g2:hh.get (B+1+1)=aZ [aC 0]
 nx:id2<hh.next
 nA:A<hh.next
 fr:Fr h hh
theorem LsJ.kept {h:H}{m b A B d:Nat}{r:eH}{l:LN}{W:Nat->Prop}{f h':H}(j:LsJ h m A B d r l W f)(k:Kept b W f h')(G:B+1+1<b)(F:h.next<=b)(t:b<=f.next):LsJ h m A B d r l W h':=by
 obtain⟨q,o,M,p,s,el,i,g,u,v,ne⟩:=j.ex
 refine⟨⟨q,o,M,by rw[k.2 A j.nA (.inr j.wA)];exact p,s.mono k.1 λid z n c e _ y=>k.2 id y (.inr (g _ (i _ _ _ _ e))),el.mono λw x ⟨id,cap,e,e1,e2,e3,e4,e5⟩=>⟨id,cap,e,e1,e2,e3,iW e4 k.1,by rw[k.2 id e4 (.inr e1)];exact e5⟩,i,g,λid h=>iW (u id h) k.1,v,ne⟩,
  by rw[k.2 _ j.nx (.inr j.w2)];exact j.gr,j.wA,j.w2,by rw[k.2 _ om (.inl om)];exact j.g1,by rw[k.2 _ om (.inl om)];exact j.g2,iW j.nx k.1,iW j.nA k.1,⟨mT j.fr.next k.1,λid a=>by rw[k.2 id (iW a j.fr.next) (.inl om)];exact j.fr.get id a⟩⟩
theorem jH {W:Nat->Prop}{h:H}{l:V}{n:Nat}{O:LN}{R:jI}{G:List Nat->Prop}(g:GC W h l n O R G):kI O n 0<=5040:=by
 have k: ∀i,i<n->(O.getD i []).length<=n-i:=λi hi=>uQ (λx e=>g.dN.cU e) hi (g.isc.asc i hi) (g.isc.mem i hi)
 have a: ∀d i,i+d=n->kI O d i<= [1,1,2,6,24,120,720,5040].getD d 0:=by
  intro d
  induction d with
  |zero=>intro i _;simp [kI]
  |succ d ih=>
   intro i hi;unfold kI;have j:=ih (i+1) om;have m:=k i om;have c:(O.getD i []).length<=d+1:=om
   have b:=g.n7;have f:=Nat.mul_le_mul c j;refine mT f ?_;have:d<=6:=om
   match d,this with
   |0,_=>decide
   |1,_=>decide
   |2,_=>decide
   |3,_=>decide
   |4,_=>decide
   |5,_=>decide
   |6,_=>decide
 have b:=g.n7;refine mT (a n 0 om) ?_
 match n,b with
 |0,_=>decide
 |1,_=>decide
 |2,_=>decide
 |3,_=>decide
 |4,_=>decide
 |5,_=>decide
 |6,_=>decide
 |7,_=>decide
theorem Wc {W0:Nat->Prop}(vc:V)(n:Nat)(O:LN)(R:jI)(G:List Nat->Prop)(h:H)(gc:GC W0 h vc n O R G):
  Ev T 98 [vc] h (λv h'=> ∃vl,v= .tup [vl,aC 0]/\JW h h' vl (cZ O R n 0 (bL n))):=by
 obtain⟨vO,vR,e,sO,sR⟩:=gc.ch
 subst e
 refine cV Kc rfl ?_
 have e9:=gc.isc
 have n0:=gc.n0
 have n7:=gc.n7
 have b2:vO.one=true:=oNs sO
 have b3:vR.one=true:=oNt sR
 have eO:dE vO vO=true:=by obtain⟨_,t,_⟩:=sO;exact t.dE
 have eR:dE vR vR=true:=by obtain⟨_,t,_⟩:=sR;exact t.dE
 obtain⟨L,hL⟩:=exI (cZ O R n 0 (bL n))
 obtain⟨d6,ll⟩:=dM gc.dN e9
 have j5:=jH gc
 rw[hL] at d6 ll
 have LP: ∀k,k<L.length->bE n (L.getD k []):=λk hk=>gc.dN.cU ((d6.mem _).1 (bD hk))
 obtain⟨B,hB⟩:=exI h.next
 obtain⟨h1,e1,n1,g1,o1,f1⟩:=dF hB [aC n,vO,vR]
 obtain⟨l,Y,n2,g2,o2,f2⟩:=dF n1 [.aE]
 obtain⟨h3,e3,n3,g3,o3,f3⟩:=dF n2 [aC 0]
 have F3:=(f1.trans f2).trans f3
 have bx:=bM h (v:= aC n) (u:=vO) (w:=vR) rfl b2 b3
 have d9:h3.get B=aZ [aC n,vO,vR]:=by rw[o3 _ om,o2 _ om];exact g1
 have e4:=aI d9
 simp(disch:=omega)only[go_sem,Kc,aD,bx,hB,e1,n1,Y,n2,e3,e4]
 refine ((gc.mono F3).check).mono ?_
 rintro _ h4 ⟨rfl,f4⟩
 have n4:=f4.next
 obtain⟨A,hA⟩:=exI h4.next
 obtain⟨h5,e5,n5,g5,o5,f5⟩:=dF hA [.aE]
 have b1:h5.get B=aZ [aC n,vO,vR]:=by rw[f5.get _ om,f4.get _ om];exact d9
 have i4:h5.get (B+1)=aZ [.aE]:=by rw[f5.get _ om,f4.get _ om,o3 _ om];exact g2
 have i0:h5.get (B+1+1)=aZ [aC 0]:=by rw[f5.get _ om,f4.get _ om];exact g3
 have F5:=(F3.trans f4).trans f5
 have e8:=aI b1
 have d8:=aI (h:=H.mk h5.tr (h5.next+5)) b1
 simp(disch:=omega)only[go_sem]
 refine aW (λhc=>(hc (by first|rfl|trivial)).elim) (λ_=>?_)
 simp(disch:=omega)only[go_sem,hA,e5,e8,d8,H.aF b1]
 refine (Vn BE.ok n (H.mk h5.tr (h5.next+5)) om).mono ?_
 rintro v6 h6 nw
 have fb:Fr h5 (H.mk h5.tr (h5.next+5)):=(Fr.refl h5).bA om
 have f6:=fb.trans nw.fr
 have n6:=f6.next
 have j0:h6.get B=aZ [aC n,vO,vR]:=by rw[f6.get _ om];exact b1
 have c3:=Td nw
 have c6:=c3.own
 simp(disch:=omega)only[go_sem,aI j0,eO,eR]
 refine (OS (n:Int) vO vR v6 0 b2 b3 c6.sv.cK.1 c6.sv.cK.2.1 h6).mono ?_
 rintro _ h7 ⟨rfl,i3,g6,g7,j3,f7⟩
 simp(disch:=omega)only[go_sem]
 refine⟨rfl,uJ λr hr=>?_⟩
 obtain⟨a,b7⟩:=exI h7.next
 rw[b7]
 have iP:r.st= .ready:=by rw[hr]
 have c7:r.pend=none:=by rw[hr]
 obtain⟨h8,a9⟩: ∃h8,h8=h7.new (.loop r):=⟨_,rfl⟩
 have i6:h8.get a=some (.loop r):=by rw[a9,←b7,H.aL]
 have n8:h8.next=a+1:=by rw[a9,H.aU,b7]
 have f8:Fr h7 h8:=by rw[a9];exact (Fr.refl h7).new _
 have P: ∀k,k<h7.next->h8.get k=h7.get k:=λk hk=>f8.get k hk
 rw[←a9]
 have c4:=(f6.trans f7).trans f8
 have F8:=F5.trans c4
 have b5: ∀k,k<h5.next->h8.get k=h5.get k:=λk hk=>c4.get k hk
 have J0:LsJ h B A B a r (L.take 0) (λk=>k=A∨k=a) h8:=
  ⟨⟨.aE, [],λk=>k=A,by rw[b5 _ om];exact g5,cY.aE _ _ _,trivial,λ_ _ _ _ e=>(by cases e),λk h=> .inl h,λk h=>by have:k=A:=h;omega,rfl,λ_ _ _ _ e=>(by cases e)⟩,i6,.inl rfl,.inr rfl,by rw[b5 _ om];exact i4,by rw[b5 _ om];exact i0,om,om,F8⟩
 have i2: ∀k,(k=A∨k=a)->k<h8.next:=λk h=>by rcases h with h|h<;>omega
 have h0:GC (λk=>k=A∨k=a) h8 (.agg [aC n,vO,vR]) n O R G:=gc.go (Fx.of F8) λk h1 l=>by rcases l with l|l<;>omega
 have p6:PV (λk=>k=A∨k=a) h8 v6 (bL n):=by
  obtain⟨i5,c5,ev,a1,a2,a3,a4⟩:=c3.ex;simp only at a1;rw[ev];exact⟨SV.all (by rw[aP,uW]) (by have:=(f7.trans f8).next;omega) (by rw[P _ (by have:=f7.next;omega),f7.get _ a2];exact a3) _,λh=>by have:i5=A∨i5=a:=h;have:=f7.next;omega⟩
 refine (RZ n vO vR O R G n 0 (bL n) v6 a (h6.next+1+1) h6.next (h6.next+1) h8 (λk=>k=A∨k=a) (λk W F=>LsJ h B A B a r (L.take k) W F) (λ_ _=>False) om (bE.one n)
  (by rw[P _ om];exact g7) (by rw[P _ om];exact i3) (by rw[P _ om];exact g6) p6 om om om (λh=>by rcases h with h|h<;>omega) (λh=>by rcases h with h|h<;>omega) (λh=>by rcases h with h|h<;>omega) h0 i2 J0 ?_).mono ?_
 ·rw[hL]
  refine⟨λk W F h' j kp=>j.kept kp om (by have:=F8.next;omega) (by have:=j.nx;omega),λ_ _ _ h=>h.elim,λk W F v hk j pv i7 j4 j1=>?_⟩
  obtain⟨va,ws,M,gA,ow,el,bl,mw,mn,mA,ne⟩:=j.ex
  have nx:=j.nx
  have nA:=j.nA
  have c1:=aM.length el
  rw[Fj,Nat.min_eq_left om] at c1
  refine sZ j.gr (by rw[hr];rfl) iP λs g9 n9 o9=>?_
  rw[congrArg eH.assign hr,congrArg eH.vars hr,congrArg eH.pars hr]
  simp(disch:=omega)only[go_sem,List.zip_cons_cons,List.zip_nil_left]
  rw[congrArg eH.body hr]
  have b8:s.get A=aZ [va]:=by rw[o9 _ om];exact gA
  have i9:Fx W F s:=⟨om,λk _ l=>o9 k λe=>l (e▸j.w2)⟩
  have c2:=pv.fx i9
  obtain⟨x,hx⟩:=exI (L.getD k [])
  rw[hx] at c2
  have X:bE n x:=by rw[←hx];exact LP k hk
  have b6:cY s va 1 ws (a+1):=ow.mono om λid g m c e _ _=>o9 id (ne _ _ _ _ e).1
  have f9:=cY.lens b6 c1
  have f0:=b6.sv.dE
  have d5:decide ((k:Int)=5040)=false:=bH om
  have d2:Fr s (H.mk s.tr (s.next+6)):=(Fr.refl s).bA om
  simp(disch:=omega)only[go_sem,H.aF b8,f9,d5]
  refine (Mz v (zi x) (H.mk s.tr (s.next+6)) (by rw[aQ,X.len];omega) (by rw[aQ,X.len];omega) (c2.mono d2).si).mono ?_
  rintro b9 d Q
  have a5:=d2.trans Q.fr
  obtain⟨i5,c5,ev,a1,a2,a3,a4⟩:=Q.ex
  simp only at a1
  have a7:d.get A=aZ [va]:=by rw[a5.get _ om];exact b8
  have b4:=Q.own
  simp(disch:=omega)only[go_sem,H.aF a7,f0,cT _ (z:= .aE) b4.sv.cK.1 b4.sv.cK.2.1]
  obtain⟨f,i⟩: ∃f:H,f=H.mk ((H.mk d.tr (s.next+3)).new (Ob.cells false [b9])).tr d.next:=⟨_,rfl⟩
  rw[←i]
  have g0:f.get (s.next+3)=aZ [b9]:=by rw[i];exact H.aL (H.mk d.tr (s.next+3)) _
  have i8:f.next=d.next:=by rw[i]
  have U: ∀k,k≠s.next+3->f.get k=d.get k:=λk hk=>by rw[i];exact H.bG (H.mk d.tr (s.next+3)) (by simpa using hk) _
  have K:Fr s f:=⟨by have:=a5.next;omega,λk hk=>by rw[U k om];exact a5.get k hk⟩
  obtain⟨a8,e7,p⟩:=(b6.fr K).push (bytes:=24) (SV.one (by have:=a5.next;have:=Q.fr.next;simp only at this;omega) g0 (.kn 1)) (n:=k) (m:=1) om rfl om om om
  have j6:=p.next
  have g8:dL va A:=λid g m c e Y=>(ne _ _ _ _ e).2 Y.symm
  have e6:dL va a:=λid g m c e Y=>(ne _ _ _ _ e).1 Y.symm
  have i1:=a5.next
  have d1:a8.get A=aZ [va]:=by rw[p.old A om g8,K.get A om];exact b8
  have e0:a8.get a=some (.loop (pW r)):=by rw[p.old a om e6,K.get a om];exact g9
  have g4: ∀(F:H) (y:V),dX (aZ [va]) F A 0 [y]=some (F.set A (aZ [y])):=λF y=>bN (by simp) F _ _
  simp(disch:=omega)only[go_sem,e7,d1,g4]
  obtain⟨a0,J⟩: ∃a0,a0=(a8.set A (aZ [.sl f.next 0 (k+1) (.un 1)])).set a (some (.loop r)):=⟨_,rfl⟩
  have d7:A≠a:=om
  have N: ∀q,q≠A->q≠a->a0.get q=a8.get q:=λq h1 l=>by rw[J,H.aG _ l,H.aG _ h1]
  have j2:a0.next=a8.next:=by rw[J];rfl
  refine oX iP c7 (by rw[H.aG _ (Ne.symm d7)];exact e0) ?_
  rw[←J]
  have d0: ∀q,q<F.next-> ¬W q->a0.get q=F.get q:=λq h1 l=>by
   rw[N q (λe=>l (e▸j.wA)) (λe=>l (e▸j.w2)),p.old q om (λid g m c e Y=>l (Y▸mw _ (bl _ _ _ _ e))),K.get q om,o9 q (λe=>l (e▸j.w2))]
  refine⟨λq=>W q∨q=f.next∨q=i5,λq h1 l=>by rcases l with l|l|l;exact l;omega;omega,λq h=>by rcases h with h|h|h;have:=i7 q h;omega;omega;omega,⟨om,d0⟩,.inl ⟨rfl,?_⟩⟩
  refine⟨⟨.sl f.next 0 (k+1) (.un 1),ws++ [b9],λq=>M q∨q=f.next,by rw[J,H.aG _ d7,H.aS],?_,?_,λid g m c e=>by cases e;exact .inr rfl,λq h=>by rcases h with h|h;exact .inl (mw q h);exact .inr (.inl h),λq h=>by rcases h with h|h;have:=mn q h;omega;omega,.inl mA,λid g m c e=>by cases e;exact⟨om,om⟩⟩,
   by rw[J,H.aS],.inl j.wA,.inl j.w2,?_,?_,om,om,?_⟩
  ·exact (p.own (b:=a+1) om rfl om).mono om λid g m c e h1 l=>by cases e;exact N _ om om
  ·rw[fT [] hk,hx]
   have c0: ∀(q:Nat) (o:Option Ob),q<F.next-> ¬M q->q≠a->a0.get q=F.get q:=λq _ h1 l h3=>by
    rw[N q (λe=>l (e▸mA)) h3,p.old q om (λb0 g m c e Y=>l (Y▸bl _ _ _ _ e)),K.get q om,o9 q h3]
   have c9: ∀q z,F.get q=aZ z->q≠a:=λq z h e=>by rw[e,j.gr] at h;cases h
   refine (el.mono λw z ⟨id,d3,e,q1,q2,q3,q4,q5⟩=>⟨id,d3,e,.inl q1,(λh=>by rcases h with h|h;exact q2 h;omega),q3,om,(by rw[c0 id none q4 q2 (c9 _ _ q5)];exact q5)⟩).append ⟨⟨i5,c5,by rw[ev,aQ],.inr (.inr rfl),λh=>by rcases h with h|h;have:=mn i5 h;omega;omega,om,om,?_⟩,trivial⟩
   rw[N i5 om om,p.old i5 om (λb0 g m c e Y=>by have:=mn _ (bl _ _ _ _ e);omega),U i5 om]
   exact a3
  ·rw[N _ om om,p.old _ om (λb0 g m c e Y=>by have:=(ow.in _ _ _ _ e).2.1;omega),K.get _ om,o9 _ om];exact j.g1
  ·rw[N _ om om,p.old _ om (λb0 g m c e Y=>by have:=(ow.in _ _ _ _ e).2.1;omega),K.get _ om,o9 _ om];exact j.g2
  ·refine⟨by have:=j.fr.next;omega,λq hq=>?_⟩
   have:=j.fr.next
   rw[N q om om,p.old q om (λb0 g m c e Y=>by have:=(ow.in _ _ _ _ e).2.1;omega),K.get q om,o9 q om]
   exact j.fr.get q hq
 ·rintro _ s ⟨W2,a1,a2,F9,j|hf⟩
  case inr=>exact hf.elim
  rw[hL,List.take_length] at j
  obtain⟨va,ws,M,gA,ow,el,bl,mw,mn,mA,ne⟩:=j.ex
  have nx:=j.nx
  have nA:=j.nA
  have pt: ∀(F:H) (id:Nat) (u w:V),dX (aZ [u]) F id 0 [w]=some (F.set id (aZ [w])):=λF id u w=>bN (by simp) F _ _
  refine⟨r,j.gr,by rw[iP];simp,?_⟩
  have en:r.pend.getD .norm= .norm:=by rw[c7];rfl
  rw[en]
  obtain⟨d,a6⟩: ∃d,d=s.set a (some (.loop {r with st:= .out})):=⟨_,rfl⟩
  have Z: ∀q,q≠a->d.get q=s.get q:=λq hq=>by rw[a6,H.aG _ hq]
  have i1:d.next=s.next:=by rw[a6];rfl
  have a7:d.get A=aZ [va]:=by rw[Z _ om];exact gA
  have c8:d.get (B+1)=aZ [.aE]:=by rw[Z _ om];exact j.g1
  have d4:d.get (B+1+1)=aZ [aC 0]:=by rw[Z _ om];exact j.g2
  rw[←a6]
  simp(disch:=omega)only[go_sem,H.aF a7,c8,d4,pt,lG ow.sv.cK.1 ow.sv.cK.2.1]
  obtain⟨f,i⟩: ∃f,f=(d.set (B+1) (aZ [va])).set (B+1+1) (aZ [aC 0]):=⟨_,rfl⟩
  rw[←i]
  have U: ∀q,q≠B+1->q≠B+1+1->f.get q=d.get q:=λq h1 l=>by rw[i,H.aG _ l,H.aG _ h1]
  have i8:f.next=d.next:=by rw[i];rfl
  have hn:=j.fr.next
  refine⟨va,rfl,⟨ws,λq=>M q∨q<h.next,?_,?_,λid g n c e=> .inl (bl _ _ _ _ e),λq h=> .inr h⟩,⟨om,λq hq=>?_⟩⟩
  ·refine (ow.mono om λid g m c e h1 _=>?_).le om
   rw[U id om om,Z id om]
  ·rw[hL]
   refine aM.mono (R:=ahF W2 M (a+1) s) (λw z hw=>?_) el
   obtain⟨id,d3,e,q1,q2,q3,q4,q5⟩:=hw
   rw[e]
   exact⟨SV.all (by rw[aP,aQ,uW]) om (by rw[U id om om,Z id om];exact q5) _,λh=>by rcases h with h|h;exact q2 h;omega⟩
  ·rw[U q om om,Z q om]
   exact j.fr.get q hq
end Go.Proofs.YtcdbmkidaecdiaaGreat
namespace Go.Pm
set_option maxRecDepth 100000
section
variable {i:Nat}
def it (a:List Nat):Nat->Nat->Nat
 |0,i=>i
 |t+1,i=>a.getD (it a t i) 0
section
variable {n:Nat} {a:List Nat}
theorem Ht (A:bE n a){i:Nat}(hi:i<n): ∀t,it a t i<n
 |0=>hi
 |t+1=>A.iN (Ht A hi t)
theorem vP (a:List Nat)(s i:Nat): ∀t,it a (s+t) i=it a t (it a s i)
 |0=>rfl
 |t+1=>by
  show a.getD (it a (s+t) i) 0=a.getD (it a t (it a s i)) 0;rw[vP a s i t]
theorem HT (A:bE n a){i:Nat}(hi:i<n): ∀t,it a t i=(pw n a t).getD i 0
 |0=>(fQ hi).symm
 |t+1=>by
  show a.getD (it a t i) 0=(aX (pw n a t) a).getD i 0;rw[cM (by rw[(rM A t).len];exact hi),HT A hi t]
theorem BG (A:bE n a){i j:Nat}(hi:i<n)(b:j<n): ∀t,it a t i=it a t j->i=j
 |0,h=>h
 |t+1,h=>BG A hi b t (A.inj (Ht A hi t) (Ht A b t) h)
noncomputable def xG (a:List Nat)(i:Nat):Nat:=by
 classical exact if h: ∃t,0<t/\it a t i=i/\ ∀s,0<s->s<t->it a s i≠i then h.choose else 1
theorem agB (A:bE n a)(hi:i<n): ∃t,0<t/\it a t i=i:=by
 obtain⟨k,c,_,b⟩:=Wi A;exact⟨k,c,by rw[HT A hi,b,fQ hi]⟩
theorem pD (A:bE n a)(hi:i<n):0<xG a i/\it a (xG a i) i=i/\ ∀t,0<t->t<xG a i->it a t i≠i:=by
 classical
 have h: ∃t,0<t/\it a t i=i/\ ∀s,0<s->s<t->it a s i≠i:=by
  obtain⟨t,j,g⟩:=agB A hi
  induction t using Nat.strongRecOn with
  |_ t ih=>
   by_cases f: ∃s,0<s/\s<t/\it a s i=i
   ·obtain⟨s,b,d,c⟩:=f
    exact ih s d b c
   ·exact⟨t,j,g,λs b d c=>f ⟨s,b,d,c⟩⟩
 have e:xG a i=h.choose:=by unfold xG;rw[dif_pos h]
 rw[e];exact h.choose_spec
theorem Tw (A:bE n a){i:Nat}(hi:i<n): ∀k,it a (xG a i*k) i=i
 |0=>rfl
 |k+1=>by rw[Nat.mul_succ,vP,Tw A hi k,(pD A hi).2.1]
theorem BR (A:bE n a)(hi:i<n)(t:Nat):it a t i=it a (t%xG a i) i:=by
 have:=vP a (xG a i*(t/xG a i)) i (t%xG a i);rw[Nat.div_add_mod,Tw A hi] at this;exact this
theorem Er (A:bE n a)(hi:i<n)(t:Nat):it a t i=i↔xG a i∣t:=by
 obtain⟨c,d,b⟩:=pD A hi;constructor
 ·intro h
  rw[BR A hi] at h;refine Nat.dvd_of_mod_eq_zero (Classical.byContradiction λe=>b _ oq (Nat.mod_lt _ c) h)
 ·rintro⟨k,rfl⟩;exact Tw A hi k
theorem acS (A:bE n a)(hi:i<n){s t:Nat}(g:s<xG a i)(d:t<xG a i)(h:it a s i=it a t i):s=t:=by
 have b: ∀s t,s<=t->t<xG a i->it a s i=it a t i->s=t:=λs t iP d h=>by
  have e:it a t i=it a s (it a (t-s) i):=by rw[←vP];congr 1;omega
  rw[e] at h;have:=BG A hi (Ht A hi (t-s)) s h;have f:=(Er A hi (t-s)).1 this.symm;have:=Nat.eq_zero_of_dvd_of_lt f oq;omega
 rcases Nat.le_total s t with c|c
 ·exact b s t c d h
 ·exact (b t s c g h.symm).symm
noncomputable def GK (a:List Nat)(i:Nat):List Nat:=(List.range (xG a i)).map λt=>it a t i
theorem Ca (a:List Nat)(i:Nat):(GK a i).length=xG a i:=by simp [GK]
theorem acG (A:bE n a)(hi:i<n){j:Nat}:j∈GK a i↔ ∃t,it a t i=j:=by
 unfold GK;rw[List.mem_map];constructor
 ·rintro⟨t,_,h⟩;exact⟨t,h⟩
 ·rintro⟨t,h⟩;exact⟨t%xG a i,List.mem_range.2 (Nat.mod_lt _ (pD A hi).1),by rw[←BR A hi];exact h⟩
theorem MP (A:bE n a)(hi:i<n):(GK a i).Nodup:=by
 unfold GK;rw[List.nodup_iff_pairwise_ne,List.pairwise_map,List.pairwise_iff_getElem];intro s t c b iP h;simp only[List.length_range] at c b;simp only[List.getElem_range] at h;have:=acS A hi c b h;omega
theorem BA (A:bE n a)(hi:i<n):xG a i<=n:=by
 rw[←Ca a i]
 have:=List.Nodup.length_le_of_subset (MP A hi) (l₂:=List.range n) λj b=>by
  obtain⟨t,rfl⟩:=(acG A hi).1 b;exact List.mem_range.2 (Ht A hi t)
 simpa using this
theorem Li (A:bE n a)(hi:i<n)(t:Nat): ∃s,it a s (it a t i)=i:=by
 obtain⟨b,_,_⟩:=pD A hi;refine⟨xG a i*(t/xG a i+1)-t,?_⟩;rw[←vP,show t+(xG a i*(t/xG a i+1)-t)=xG a i*(t/xG a i+1) from ?_,Tw A hi];have:=Nat.div_add_mod t (xG a i);have:=Nat.mod_lt t b;rw[Nat.mul_succ];omega
theorem PH (A:bE n a)(hi:i<n)(t:Nat):xG a (it a t i)=xG a i:=by
 have c:=Ht A hi t
 have b: ∀k,it a k (it a t i)=it a t i↔it a k i=i:=λk=>by
  rw[←vP,Nat.add_comm,vP];exact⟨λh=>BG A (Ht A hi k) hi t h,λh=>by rw[h]⟩
 refine Nat.dvd_antisymm ?_ ?_
 ·rw[←Er A c,b,Er A hi];exact Nat.dvd_refl _
 ·rw[←Er A hi,←b,Er A c];exact Nat.dvd_refl _
def oV (a:List Nat)(n i:Nat):Prop:= ∀t,i<=it a t i
open Classical in
noncomputable def Qh (a:List Nat)(n:Nat):List Nat:=(List.range n).filter λi=>decide (oV a n i)
noncomputable def vU (a:List Nat)(n:Nat):zI:=(Qh a n).map (GK a)
theorem aeA (A:bE n a)(hi:i<n): ∃j,j<n/\oV a n j/\ ∃t,it a t j=i:=by
 induction i using Nat.strongRecOn with
 |_ i ih=>
  by_cases h:oV a n i
  ·exact⟨i,hi,h,0,rfl⟩
  ·have: ∃t,it a t i<i:=Classical.byContradiction λg=>h λt=>Nat.le_of_not_lt λb=>g ⟨t,b⟩
   obtain⟨t,c⟩:=this;obtain⟨j,e,b,s,d⟩:=ih _ c (Ht A hi t);obtain⟨u,f⟩:=Li A hi t;exact⟨j,e,b,s+u,by rw[vP,d,f]⟩
theorem Il (A:bE n a)(hi:i<n):oV a n i↔ ∀j,j<i-> ∀t,it a t j≠i:=by
 constructor
 ·intro h j d t e
  obtain⟨s,b⟩:=Li A (show j<n by omega) t;rw[e] at b;have:=h s;omega
 ·intro h t
  refine Nat.le_of_not_lt λc=>?_
  obtain⟨s,b⟩:=Li A hi t;exact h _ c s b
def Ea (l:List Nat):Nat:=l.foldl (λm c=>m/Nat.gcd m c*c) 1
theorem UQ (m c:Nat):m/Nat.gcd m c*c=Nat.lcm m c:=by
 unfold Nat.lcm;rw[Nat.mul_comm,←Nat.mul_div_assoc _ (Nat.gcd_dvd_left m c),Nat.mul_comm]
theorem Wq: ∀(l:List Nat) (m k:Nat),l.foldl (λm c=>m/Nat.gcd m c*c) m∣k↔m∣k/\ ∀c∈l,c∣k
 | [],m,k=>by simp
 |c::l,m,k=>by
  rw[List.foldl_cons,Wq l,UQ,Nat.lcm_dvd_iff];simp only[List.mem_cons,forall_eq_or_imp,and_assoc]
theorem Hb (l:List Nat)(k:Nat):Ea l∣k↔ ∀c∈l,c∣k:=by
 unfold Ea;rw[Wq];simp
noncomputable def qF (a:List Nat)(n:Nat):Nat:=Ea ((vU a n).map List.length)
theorem Hu (A:bE n a)(k:Nat):qF a n∣k↔pw n a k=bL n:=by
 unfold qF;rw[Hb];constructor
 ·intro h
  refine yC (by rw[(rM A k).len,jG]) λi hi=>?_
  rw[(rM A k).len] at hi;rw[←HT A hi,fQ hi,Er A hi];obtain⟨j,d,g,t,e⟩:=aeA A hi;have:=h (xG a j) (List.mem_map.2 ⟨GK a j,List.mem_map.2 ⟨j,by unfold Qh;rw[List.mem_filter];exact⟨List.mem_range.2 d,by simpa using g⟩,rfl⟩,Ca a j⟩);rw[←PH A d t,e] at this;exact this
 ·rintro h c f
  obtain⟨l,m,rfl⟩:=List.mem_map.1 f;obtain⟨j,d,rfl⟩:=List.mem_map.1 m
  have b:j<n:=by
   unfold Qh at d;exact List.mem_range.1 (List.mem_filter.1 d).1
  rw[Ca,←Er A b,HT A b,h,fQ b]
theorem Ya (A:bE n a):0<qF a n:=by
 obtain⟨k,c,_,b⟩:=Wi A;have:=(Hu A k).2 b;refine Nat.pos_of_ne_zero λe=>?_
 rw[e] at this;have:=Nat.eq_zero_of_zero_dvd this;omega
theorem EG (A:bE n a):qF a n<=n^n:=by
 obtain⟨k,c,b,d⟩:=Wi A;exact Nat.le_trans (Nat.le_of_dvd c ((Hu A k).2 d)) b
end
end
end Go.Pm
namespace Go.Proofs.YtcdbmkidaecdiaaGreat
open Go Go.Ay Go.Pm
set_option maxRecDepth 100000
section
variable {a:List Nat} {i n:Nat}
theorem adG {g:Nat}(f:T g=some Ei.fn)(a b:Nat)(h:H)(o:a<1000000)(s:b<1000000):Ev T g [aC a,aC b] h (λv h'=>v= aC (Nat.gcd a b:Nat)/\Fr h h'):=by
 refine Ko f rfl ?_;simp(disch:=omega)only[go_sem,Ei,aD];refine aH (λc d m=> ∃(x y:Nat),(∃g:Nat->V,d= [aC x,aC y,g 2,g 3])/\x<1000000/\y<1000000/\Nat.gcd x y=Nat.gcd a b/\Fr h m/\c=y) b
  ⟨a,b,aB rfl,o,s,rfl,Fr.refl h,rfl⟩ ?_
 rintro c d m ⟨x,y,⟨g,rfl⟩,u,q,l,F,t⟩;subst t
 by_cases e:(0:Int)<(c:Int)
 ·have k:=bP e
  have p:(c:Int)≠0:=om
  have r:(x:Int).tmod (c:Int)=((x%c:Nat):Int):=TZ x c;have j:=Nat.mod_lt x (show c>0 by omega);simp(disch:=omega)only[go_sem,k,p,r];exact⟨x%c,j,c,x%c,aB rfl,q,om,by rw[Nat.gcd_comm,←Nat.gcd_rec,Nat.gcd_comm];exact l,F.bA om,rfl⟩
 ·have k:=bH e
  obtain rfl:c=0:=om
  simp(disch:=omega)only[go_sem,k];rw[←l,Nat.gcd_zero_right];exact⟨rfl,F⟩
open Classical in
noncomputable def Px (a:List Nat)(i s j:Nat):Bool:=decide ((∃i0,i0<i/\ ∃t,it a t i0=j)∨ ∃t,t<s/\it a t i=j)
theorem oM {s j:Nat}:Px a i s j=true↔(∃i0,i0<i/\ ∃t,it a t i0=j)∨ ∃t,t<s/\it a t i=j:=by classical unfold Px;simp only[decide_eq_true_eq]
theorem PR (a:List Nat)(j:Nat):Px a 0 0 j=false:=by
 rw[←Bool.not_eq_true,oM];rintro (⟨b,h,_⟩|⟨t,h,_⟩)<;>omega
theorem QL (a:List Nat)(i s j:Nat):Px a i (s+1) j=if j=it a s i then true else Px a i s j:=by
 by_cases e:j=it a s i
 ·rw[bF e,oM];exact .inr ⟨s,om,e.symm⟩
 ·rw[bI e,Py,oM,oM]
  constructor
  ·rintro (h|⟨t,c,b⟩)
   ·exact .inl h
   ·exact .inr ⟨t,by have:t≠s:=λd=>e (by rw[←d];exact b.symm);omega,b⟩
  ·rintro (h|⟨t,c,b⟩)
   ·exact .inl h
   ·exact .inr ⟨t,om,b⟩
theorem UJ (A:bE n a)(hi:i<n)(j:Nat):Px a i (xG a i) j=Px a (i+1) 0 j:=by
 rw[Py,oM,oM];constructor
 ·rintro (⟨c,d,b⟩|⟨t,d,b⟩)
  ·exact .inl ⟨c,om,b⟩
  ·exact .inl ⟨i,om,t,b⟩
 ·rintro (⟨c,d,t,b⟩|⟨t,d,_⟩)
  ·by_cases e:c=i
   ·subst e;exact .inr ⟨t%xG a c,Nat.mod_lt _ (pD A hi).1,by rw[←BR A hi];exact b⟩
   ·exact .inl ⟨c,om,t,b⟩
  ·omega
theorem NO (A:bE n a)(hi:i<n)(h: ¬oV a n i)(j:Nat):Px a i 0 j=Px a (i+1) 0 j:=by
 have b: ∃c,c<i/\ ∃t,it a t c=i:=Jg λl=>h ((Il A hi).2 λc o t e=>l ⟨c,o,t,e⟩)
 obtain⟨c,g,m,k⟩:=b;rw[Py,oM,oM];constructor
 ·rintro (⟨d,f,b⟩|⟨t,f,_⟩)
  ·exact .inl ⟨d,om,b⟩
  ·omega
 ·rintro (⟨d,f,t,b⟩|⟨t,f,_⟩)
  ·by_cases e:d=i
   ·subst e;exact .inl ⟨c,g,m+t,by rw[vP,k];exact b⟩
   ·exact .inl ⟨d,om,t,b⟩
  ·omega
theorem HE (A:bE n a){s:Nat}(hi:i<n)(j:oV a n i)(m:s<=xG a i):(Px a i s (it a s i)=false↔s<xG a i):=by
 obtain⟨k,f,l⟩:=pD A hi;constructor
 ·intro h
  refine Jg λo=>?_
  have e:s=xG a i:=om
  subst e;rw[f] at h;have:Px a i (xG a i) i=true:=oM.2 (.inr ⟨0,k,rfl⟩);rw[h] at this;cases this
 ·intro h
  rw[←Bool.not_eq_true,oM];rintro (⟨d,c,t,b⟩|⟨t,c,b⟩)
  ·obtain⟨u,g⟩:=Li A hi s
   have:=(Il A hi).1 j d c (t+u);rw[vP,b,g] at this;exact this rfl
  ·have:=acS A hi (show t<xG a i by omega) h b
   omega
theorem acM (A:bE n a)(hi:i<n)(c: ¬oV a n i):Px a i 0 i=true:=by
 have d: ∃b,b<i/\ ∃t,it a t b=i:=Jg λf=>c ((Il A hi).2 λb g t e=>f ⟨b,g,t,e⟩)
 exact oM.2 (.inl d)
theorem Rc (hi:i<=n):((Qh a n).filter λj=>decide (j<i))=(open Classical in (List.range i).filter λj=>decide (oV a n j)):=by
 classical
 unfold Qh;have:List.range n=List.range i++(List.range (n-i)).map (i+ ·):=by rw[←List.range_add];congr 1;omega
 rw[this,List.filter_append,List.filter_append]
 have c:(((List.range (n-i)).map (i+ ·)).filter λj=>decide (oV a n j)).filter (λj=>decide (j<i))= []:=by
  rw[List.filter_eq_nil_iff];intro x b;obtain⟨y,_,rfl⟩:=uF.1 (CH.1 b).1;simp
 rw[c,vF];rw[List.filter_eq_self];intro x b;simpa using Gu.1 (CH.1 b).1
noncomputable def GW (a:List Nat)(n i:Nat):LN:=((Qh a n).filter λj=>decide (j<i)).map (GK a)
theorem FU (a:List Nat)(n:Nat):GW a n n=vU a n:=by
 classical
 unfold GW vU;congr 1;rw[List.filter_eq_self];intro x b;unfold Qh at b;simpa using Gu.1 (CH.1 b).1
theorem Fq (hi:i<n):(oV a n i->GW a n (i+1)=GW a n i++ [GK a i])/\(¬oV a n i->GW a n (i+1)=GW a n i):=by
 classical
 unfold GW;rw[Rc (show i+1<=n by omega),Rc (show i<=n by omega),List.range_succ,List.filter_append];constructor
 ·intro h
  rw[show ([i]:List Nat).filter (λj=>decide (oV a n j))= [i] by simp [h],List.map_append];rfl
 ·intro h
  rw[show ([i]:List Nat).filter (λj=>decide (oV a n j))= [] by simp [h],vF]
theorem aaU: ∀i,i<=n->GW a n i<+:vU a n:=by
 intro i hi
 obtain⟨d,e⟩: ∃d,i+d=n:=⟨n-i,om⟩
 induction d generalizing i with
 |zero=>
      have:i=n:=om
      subst this;rw[FU];exact List.prefix_rfl
 |succ d ih=>
  have b:=ih (i+1) om om
  by_cases c:oV a n i
  ·rw[(Fq om).1 c] at b
   exact (List.prefix_append _ _).trans b
  ·rw[(Fq om).2 c] at b
   exact b
theorem UU (a:List Nat)(n:Nat):GW a n 0= []:=by
 unfold GW;rw[show (Qh a n).filter (λj=>decide (j<0))= [] by rw[List.filter_eq_nil_iff];intro x _;simp];rfl
theorem QA {α:Type}{l m:List α}(h:l<+:m)(hi:i<l.length)(d:α):m.getD i d=l.getD i d:=by
 obtain⟨t,rfl⟩:=h;rw[List.getD,Dv hi];rfl
theorem BM (id b:Nat)(Z:V)(n:Nat)(a:List Nat)(h:H)(b3:1<=n)(hn:n<=64)(A:bE n a)(F:Nat)(a8:F<=h.next)(a9:b<F)(hb:h.get b=some (.cells false [Z]))(b2:b<h.next)(hv:SI h Z (zi a))(J:Nat->H->Prop)(h0:J 0 h)
  (kJ: ∀k hh h',J k hh->hh.next<=h'.next->(∀q,q<F->h'.get q=hh.get q)->J k h') (jb: ∀k hh,J k hh->hh.get b=some (.cells false [Z])/\SI hh Z (zi a))
  (hy: ∀k hh v,k<(vU a n).length->J k hh->SI hh v (zi ((vU a n).getD k []))->F<=hh.next->Ey T id [v] hh (λv h'=>v= .bool true/\J (k+1) h'/\Fx (λq=>q<F) hh h')):
  Ev T 246 [.yl id,.ptr b 0] h (λ_ h'=>J (vU a n).length h'):=by
 refine cV yP rfl ?_
 obtain⟨S,hS⟩:=exI h.next
 obtain⟨h1,e1,n1,g1,o1,f1⟩:=dF hS (rc 64 λ_=>V.bool false)
 have a1:=H.aF (h:=h1) (id:=b) (by rw[o1 _ om];exact hb)
 have R:=hv.lens
 rw[aQ,A.len] at R
 simp(disch:=omega)only[go_sem,yP,aD,ES,hS,e1,a1,R]
 have a4:h1.get S=some (.cells false (rc 64 λj=> .bool (Px a 0 0 j))):=by
  rw[g1,show (λj=>V.bool (Px a 0 0 j))=λ_=>V.bool false from funext λj=>by rw[PR]]
 refine aH (λN o hh=> ∃(i:Nat),(∃g:Nat->V,o= [.yl id,.ptr b 0,.ptr S 0,g 3,g 4,g 5,aC n,aC i,g 8,g 9,g 10])/\i<=n/\J (GW a n i).length hh/\hh.get S=some (.cells false (rc 64 λj=> .bool (Px a i 0 j)))/\S<hh.next/\N=n-i) n
  ⟨0,aB rfl,iJ _,by rw[UU];exact kJ _ _ _ h0 f1.next (λq hq=>o1 q om),a4,om,rfl⟩ ?_
 rintro N o h2 ⟨i,⟨g,rfl⟩,hi,p,w,x,rfl⟩
 by_cases W:(i:Int)<(n:Int)
 case neg=>
  have d1:=bH W;obtain rfl:i=n:=om
  simp(disch:=omega)only[go_sem,d1];rw[FU] at p;exact p
 have d1:=bP W
 have l:i<n:=om
 simp(disch:=omega)only[go_sem,d1]
 obtain⟨p0,p1,p2⟩:=pD A l
 have b1:=BA A l
 refine bJ (λvs hh=> ∃(r:V) (c:List Nat),(∃g:Nat->V,vs= [.yl id,.ptr b 0,.ptr S 0,g 3,r,g 5,aC n,aC i,g 8,g 9,g 10])/\cY hh r 1 (ints (zi c)) (S+1)/\(oV a n i/\c=GK a i∨ ¬oV a n i/\c= [])/\
   J (GW a n i).length hh/\hh.get S=some (.cells false (rc 64 λj=> .bool (Px a (i+1) 0 j)))/\S<hh.next) ?_ ?_
 ·refine aH (λN vs hh=> ∃(s:Nat) (r:V),(∃g:Nat->V,vs= [.yl id,.ptr b 0,.ptr S 0,g 3,r,aC (it a s i:Nat),aC n,aC i,g 8,g 9,g 10])/\s<=xG a i/\(0<s->oV a n i)/\cY hh r 1 (ints (zi ((List.range s).map λt=>it a t i))) (S+1)/\
    J (GW a n i).length hh/\hh.get S=some (.cells false (rc 64 λj=> .bool (Px a i s j)))/\S<hh.next/\N=xG a i-s) (xG a i)
   ⟨0,.aE,aB rfl,iJ _,λh=>om,cY.aE _ _ _,p,w,x,rfl⟩ ?_
  clear p w x
  rintro N o G ⟨s,r,⟨g,rfl⟩,hs,hf,y,p,w,x,rfl⟩
  have hp:=Ht A l s
  have cS:=sL w (i:=it a s i) om
  cases hsn:Px a i s (it a s i) with
  |true=>
   rw[hsn] at cS;simp(disch:=omega)only[go_sem,cS]
   by_cases f:oV a n i
   ·have e:s=xG a i:=Jg λL=>by
     have:=(HE A l f hs).2 om;rw[hsn] at this;cases this
    refine⟨r,GK a i,aB rfl,by rw[e] at y;exact y,.inl ⟨f,rfl⟩,p,?_,x⟩;rw[w,e];congr 2;exact dB λj _=>by rw[UJ A l]
   ·have e:s=0:=Jg λL=>f (hf om)
    subst e;refine⟨r, [],aB rfl,y,.inr ⟨f,rfl⟩,p,?_,x⟩;rw[w];congr 2;exact dB λj _=>by rw[NO A l f]
  |false=>
   rw[hsn] at cS
   have f:oV a n i:=Jg λf=>by
    have e:s=0:=Jg λL=>f (hf om)
    subst e;have:=acM A l f;have h2:Px a i 0 i=false:=hsn;rw[h2] at this;cases this
   have a7:=(HE A l f hs).1 hsn;have pt:=bN (vs:=rc 64 λj=> .bool (Px a i s j)) (off:=it a s i) (by rw[kH];omega);obtain⟨h4,e4,n4,g4,o4⟩:=pJ G S ((rc 64 λj=> .bool (Px a i s j)).set (it a s i) (.bool true));obtain⟨h5,e5,n5,g5,o5,f5⟩:=dF (h:=h4) (ID:=G.next) n4 [aC (it a s i:Nat)];have a3:cY h5 r 1 (ints (zi ((List.range s).map λt=>it a t i))) (S+1):=y.mono om λk off m c e h1 h2=>by rw[o5 k om,o4 k om]
   obtain⟨h6,a6,p6⟩:=a3.push (bytes:=8) (SV.one (v:= aC (it a s i:Nat)) (id:=G.next) om g5 (.kn 1)) (n:=s) (m:=1) (by rw[aP,aQ];simp) rfl om om om;have n6:=p6.next;have ap: ∀q,q<=S->dL r q:=λq hq k off m c e e2=>by have:=(y.in _ _ _ _ e).2.1;omega
   have o6: ∀q,q<F->h6.get q=G.get q:=λq hq=>by rw[p6.old q om (ap q om),o5 q om,o4 q om]
   have J6:=kJ _ _ h6 p om o6;obtain⟨a0,a5⟩:=jb _ _ J6;obtain⟨idx,P,Q,O,Y⟩:=a5.open;rw[aQ,A.len] at Q O Y
   have cx:h6.cell idx (P+it a s i)=some (aC (it a (s+1) i:Nat)):=by
    rw[Y _ hp];congr 2;rw[zi,nP _ (d:=0) (by rw[A.len];exact hp)];rfl
   simp(disch:=omega)only[go_sem,cS,w,pt,e4,cT h4 (z:= aC 0) (v:= aC (it a s i:Nat)) rfl rfl,n4,e5,a6,H.aF a0,Q.ixa,cx]
   have a2:h6.get S=some (.cells false (rc 64 λj=> .bool (Px a i (s+1) j))):=by
    rw[p6.old S om (ap S (fM _)),o5 S om,g4,mS];congr 2
    exact dB λj _=>by
     rw[QL]
     by_cases e:j=it a s i
     ·rw[bF e,bF e]
     ·rw[bI e,bI e]
   have el:ints (zi ((List.range (s+1)).map λt=>it a t i))=ints (zi ((List.range s).map λt=>it a t i))++ [aC (it a s i:Nat)]:=by
    rw[List.range_succ,List.map_append];simp [zi,ints]
   refine⟨xG a i-(s+1),om,s+1,_,aB rfl,om,λ_=>f,by rw[el];exact p6.own (by rw[aP,aQ];simp) rfl om,J6,a2,om,rfl⟩
 clear p w x
 rintro o G ⟨r,c,⟨g,rfl⟩,y,hc,p,w,x⟩
 have K:=cY.lens y (n:=c.length) (by rw[aP,aQ])
 rcases hc with ⟨f,rfl⟩|⟨f,rfl⟩
 ·have d2:decide ((0:Int)<((GK a i).length:Int))=true:=bP (by rw[Ca];omega)
  have u:=aaU (a:=a) (n:=n) (i+1) om
  have U:=(Fq l).1 f
  rw[U] at u
  have hg:(vU a n).getD (GW a n i).length []=GK a i:=by rw[QA u (by simp)];exact kG
  have B:=u.length_le
  rw[jZ] at B
  simp(disch:=omega)only[go_sem,K,d2]
  refine (hy _ G r (by simp at B;omega) p (by rw[hg];exact y.sv) om).mono ?_
  rintro _ h4 ⟨rfl,J4,f4⟩
  simp(disch:=omega)only[go_sem]
  rw[eJ i]
  refine⟨n-(i+1),om,i+1,aB rfl,om,by rw[U,jZ];exact J4,by rw[f4.get S x (λh=>by have:S<F:=h;omega)];exact w,iW x f4.next,rfl⟩
 ·have d2:decide ((0:Int)<((0:Nat):Int))=false:=rfl
  simp(disch:=omega)only[go_sem,K,d2]
  rw[eJ i]
  exact⟨n-(i+1),om,i+1,aB rfl,om,by rw[(Fq l).2 f];exact p,w,x,rfl⟩
end
theorem Aq (u:V)(ws:List V)(n:Nat)(h:H)(N:1<=n)(Q:n<=64)(R:ws.length<1000000)(B:SV h u 1 ws)(y: ∀i,i<ws.length-> ∃a,bE n a/\SI h (ws.getD i .undef) (zi a)):Ev T 158 [u] h (λv h'=>v= aC 0/\Fr h h'):=by
 refine cV Gz rfl ?_;have F:bT u=some (aC (ws.length:Int)):=by unfold bT;rw[SV.len B (n:=ws.length) om om];rfl
 obtain⟨id,d,x,j,w⟩:=SV.shape B ws.length om om;have p: ∀i:Nat,i<ws.length->h.cell id (d+i)=some (ws.getD i .undef):=λi hi=>by rw[w i om];simp [List.getD,hi]
 simp(disch:=omega)only[go_sem,Gz,aD,F];refine bJ (λo k=>(∃g:Nat->V,o= [u,aC 0,g 2,g 3,g 4,g 5,g 6,g 7,g 8,g 9,g 10,g 11,g 12,g 13,g 14])/\Fr h k) ?_ ?_
 ·refine aH (λt o k=> ∃(i:Nat),(∃g:Nat->V,o= [u,aC 0,g 2,g 3,g 4,u,aC (ws.length:Int),aC i,g 8,g 9,g 10,g 11,g 12,g 13,g 14])/\i<=ws.length/\Fr h k/\t=ws.length-i) ws.length
   ⟨0,aB rfl,iJ _,Fr.refl h,rfl⟩ ?_
  rintro t b q ⟨i,⟨g,rfl⟩,hi,f,rfl⟩
  by_cases c:(i:Int)<(ws.length:Int)
  ·have m:=bP c
   have l:i<ws.length:=om
   have ci:q.cell id (d+i)=some (ws.getD i .undef):=by rw[f.cell (j om),p i om]
   obtain⟨a,X,r⟩:=y i l;generalize ws.getD i .undef=J at ci r;simp(disch:=omega)only[go_sem,m,x.ixa,ci];refine (vQ J _ q (by rw[aQ,X.len];omega) (r.mono f)).mono ?_;rw[EE X om om];rintro _ K ⟨rfl,L⟩;simp(disch:=omega)only[go_sem];refine aW (λp=>(p rfl).elim) (λ_=>?_);simp(disch:=omega)only[go_sem];rw[eJ i];exact⟨ws.length-(i+1),om,i+1,aB rfl,om,f.trans L,rfl⟩
  ·have m:=bH c
   simp(disch:=omega)only[go_sem,m];exact⟨aB rfl,f⟩
 rintro b q ⟨⟨g,rfl⟩,f⟩;simp(disch:=omega)only[go_sem,F];refine bJ (λo k=>(∃g:Nat->V,o= [u,aC 0,g 2,g 3,g 4,g 5,g 6,g 7,g 8,g 9,g 10,g 11,g 12,g 13,g 14])/\Fr h k) ?_ ?_
 ·refine aH (λt o k=> ∃(i:Nat),(∃g:Nat->V,o= [u,aC 0,g 2,g 3,g 4,g 5,g 6,g 7,g 8,g 9,u,aC (ws.length:Int),aC i,g 13,g 14])/\i<=ws.length/\Fr h k/\t=ws.length-i) ws.length
   ⟨0,aB rfl,iJ _,f,rfl⟩ ?_
  clear f;rintro t b q ⟨i,⟨g,rfl⟩,hi,f,rfl⟩
  by_cases c:(i:Int)<(ws.length:Int)
  ·have m:=bP c
   have l:i<ws.length:=om
   have ci:q.cell id (d+i)=some (ws.getD i .undef):=by rw[f.cell (j om),p i om]
   have z:q.cell id (d+0)=some (ws.getD 0 .undef):=by rw[f.cell (j om),p 0 om]
   obtain⟨a,X,r⟩:=y i l;obtain⟨P,O,s⟩:=y 0 om;generalize ws.getD i .undef=J at ci r;generalize ws.getD 0 .undef=U at z s;have G:=r.lens;have A:=s.lens;rw[aQ,X.len] at G;rw[aQ,O.len] at A;have e:Dz 1 u (aC 0)=some (.ptr id (d+0)):=x.ixa .i64 0 om om;rw[Nat.add_zero] at e z;simp(disch:=omega)only[go_sem,m,x.ixa,ci,e,z,G,A];refine aW (λp=>(p rfl).elim) (λ_=>?_);simp(disch:=omega)only[go_sem];rw[eJ i];exact⟨ws.length-(i+1),om,i+1,aB rfl,om,f,rfl⟩
  ·have m:=bH c
   simp(disch:=omega)only[go_sem,m];exact⟨aB rfl,f⟩
 rintro b K ⟨⟨g,rfl⟩,f⟩;simp(disch:=omega)only[go_sem];exact f
theorem Gy (l:List Nat)(k:Nat):Ea (l.take k)∣Ea l:=(Hb _ _).2 λc a=>(Hb l _).1 (Nat.dvd_refl _) c (List.mem_of_mem_take a)
theorem Qc (l:List Nat)(k:Nat)(a:k<l.length):Ea (l.take (k+1))=Ea (l.take k)/Nat.gcd (Ea (l.take k)) (l.getD k 0)*l.getD k 0:=by
 unfold Ea;rw[fT 0 a,List.foldl_append];rfl
theorem Sw {n:Nat}(a:n<=7):n^n<=823543:=by
 have: ∀m,m<8->m^m<=823543:=by decide
 exact this n om
structure OrJ (h:H)(A b id2:Nat)(va:V)(a:List Nat)(r:eH)(m:Nat)(hh:H):Prop where
 gr:hh.get id2=some (.loop r)
 gA:hh.get A=aZ [aC m]
 gb:hh.get b=aZ [va]
 si:SI hh va (zi a)
 nx:id2<hh.next
 fr:Fr h hh
theorem MV (a:V)(h:H)(f:a.cells= [a])(g:a.one=true):Ev T 225 [a] h (λv h'=> ∃b,v= .fn 246 [] [.ptr b 0]/\b=h.next/\h'.get b=aZ [a]/\h'.next=h.next+1/\Fr h h'):=by
 refine cV Dg rfl ?_;obtain⟨j,i,e,c,k,d⟩:=dF (h:=h) rfl [a];simp(disch:=omega)only[go_sem,Dg,aD,mF f g h,i];exact⟨h.next,rfl,rfl,c,e,d⟩
theorem SH (w:V)(n:Nat)(a:List Nat)(h:H)(b0:1<=n)(hn:n<=7)(A:bE n a)(O:SI h w (zi a)):
  Ev T 185 [w] h (λv h'=>v= .tup [aC (qF a n:Nat),aC 0]/\Fr h h'):=by
 refine cV Hd rfl ?_
 obtain⟨S,hS⟩:=exI h.next
 obtain⟨h1,e1,n1,g1,o1,f1⟩:=dF hS [w]
 have on:=(SV.cK O).2.1
 simp(disch:=omega)only[go_sem,Hd,aD,cT h (z:= .aE) (v:=w) (SV.cK O).1 on,hS,e1]
 have b2: ∀i,i< [w].length-> ∃a,bE n a/\SI h1 ([w].getD i .undef) (zi a):=λi hi=>by
  obtain rfl:i=0:=by simp at hi;omega
  exact⟨a,A,O.mono f1⟩
 refine (Aq (.sl S 0 1 (.kn 1)) [w] n h1 b0 om (by simp) (SV.one om g1 _) b2).mono ?_
 rintro _ Z ⟨rfl,f2⟩
 simp(disch:=omega)only[go_sem]
 refine aW (λhc=>(hc rfl).elim) (λ_=>?_)
 obtain⟨B,hB⟩:=exI Z.next
 obtain⟨h3,e3,n3,g3,o3,f3⟩:=dF hB [aC 0]
 obtain⟨h4,e4,n4,g4,o4⟩:=pJ h3 B [aC 1]
 have b7: ∀(t:H) (y:V),dX (aZ [aC 0]) t B 0 [y]=some (t.set B (aZ [y])):=λt y=>bN (by simp) t _ _
 simp(disch:=omega)only[go_sem,hB,e3,g3,b7,e4]
 refine (MV w h4 (SV.cK O).1 on).mono ?_
 rintro _ h5 ⟨b,rfl,hb,g5,n5,f5⟩
 simp(disch:=omega)only[go_sem]
 refine⟨rfl,uJ λr R=>?_⟩
 obtain⟨g,Q⟩:=exI h5.next
 rw[Q]
 have iP:r.st= .ready:=by rw[R]
 have a8:r.pend=none:=by rw[R]
 obtain⟨N,L⟩: ∃N,N=h5.new (.loop r):=⟨_,rfl⟩
 have c1:N.get g=some (.loop r):=by rw[L,←Q,H.aL]
 have n6:N.next=g+1:=by rw[L,H.aU,Q]
 have f6:Fr h5 N:=by rw[L];exact (Fr.refl h5).new _
 rw[←L]
 have F2:=f1.trans f2
 have F3:=F2.trans f3
 have hs:=F2.next
 have F4:Fr h h4:=⟨by rw[n4];exact F3.next,λq u=>by rw[o4 q om];exact F3.get q u⟩
 have F6:=(F4.trans f5).trans f6
 have c2:g=b+1:=om
 have c0:N.get B=aZ [aC 1]:=by rw[f6.get _ om,f5.get _ om];exact g4
 have a4:N.get b=aZ [w]:=by rw[f6.get _ om];exact g5
 have J0:OrJ h B b g w a r (Ea (((vU a n).map List.length).take 0)) N:=⟨c1,c0,a4,O.mono F6,om,F6⟩
 refine (BM g b w n a N b0 om A (g+1) om om a4 om (O.mono F6) (λk t=>OrJ h B b g w a r (Ea (((vU a n).map List.length).take k)) t) J0
  (λk t h' j hx u=>⟨by rw[u _ om];exact j.gr,by rw[u _ om];exact j.gA,by rw[u _ om];exact j.gb,O.mono ⟨mT j.fr.next hx,λq U=>by rw[u _ om];exact j.fr.get q U⟩,iW j.nx hx,⟨mT j.fr.next hx,λq U=>by rw[u _ om];exact j.fr.get q U⟩⟩)
  (λk t j=>⟨j.gb,j.si⟩) ?_).mono ?_
 ·intro k t v hk j b1 c4
  obtain⟨m,hm⟩:=exI (Ea (((vU a n).map List.length).take k))
  obtain⟨c,W⟩:=exI ((vU a n).getD k [])
  have a7:((vU a n).map List.length).getD k 0=c.length:=by rw[nP _ (d:= []) hk,W]
  have b4:k<((vU a n).map List.length).length:=by rw[jV];exact hk
  have x:=Qc ((vU a n).map List.length) k b4
  rw[hm,a7] at x
  have hp:=Ya A
  have a3:=mT (EG A) (Sw hn)
  have c7:m<=823543:=mT (by rw[←hm];exact Nat.le_of_dvd hp (Gy _ k)) a3
  have a6:Ea (((vU a n).map List.length).take (k+1))<=823543:=mT (Nat.le_of_dvd hp (Gy _ (k+1))) a3
  have c3:1<=c.length/\c.length<=7:=by
   have:=bD (l:=vU a n) (d:= []) hk;rw[W] at this;obtain⟨i,hi,rfl⟩:=uF.1 this;have a0:i<n:=by unfold Qh at hi;exact Gu.1 (CH.1 hi).1
   rw[Ca];have:=(pD A a0).1;have:=BA A a0;omega
  rw[W] at b1
  have lv:=b1.lens
  rw[aQ] at lv
  rw[hm] at j
  refine sZ j.gr (by rw[R];rfl) iP λK g9 n9 o9=>?_
  rw[congrArg eH.assign R,congrArg eH.vars R,congrArg eH.pars R]
  simp(disch:=omega)only[go_sem,List.zip_cons_cons,List.zip_nil_left]
  rw[congrArg eH.body R]
  have nx:=j.nx
  have a9:K.get B=aZ [aC m]:=by rw[o9 _ om];exact j.gA
  simp(disch:=omega)only[go_sem,H.aF a9,lv]
  refine (adG Ei.ok m c.length _ om om).mono ?_
  rintro _ f ⟨rfl,a1⟩
  have b3:K.next+10<=f.next:=a1.next
  have o: ∀q,q<K.next->f.get q=K.get q:=λq u=>a1.get q (by show q<K.next+10;omega)
  have s:f.get B=aZ [aC m]:=by rw[o _ om];exact a9
  obtain⟨G,hG⟩:=exI (Nat.gcd m c.length)
  rw[hG] at x
  rw[hG]
  have c5:0<G:=by rw[←hG];exact Nat.gcd_pos_of_pos_right _ om
  have b9:(G:Int)≠0:=om
  have a2:(m:Int).tdiv (G:Int)=((m/G:Nat):Int):=by rw[Int.tdiv_eq_ediv_of_nonneg om];rfl
  have b8:m/G<=m:=Nat.div_le_self _ _
  have P:((m/G:Nat):Int)*(c.length:Int)=((Ea (((vU a n).map List.length).take (k+1)):Nat):Int):=by rw[x,Int.natCast_mul]
  generalize Ea (((vU a n).map List.length).take (k+1))=m2 at P a6 x
  generalize m/G=q at a2 b8 P x
  have pt: ∀(t:H) (y:V),dX (aZ [aC m]) t B 0 [y]=some (t.set B (aZ [y])):=λt y=>bN (by simp) t _ _
  simp(disch:=omega)only[go_sem,b9,a2,P,lv,H.aF s,s,pt]
  refine oX iP a8 (by rw[H.aG _ om];rw[o _ om];exact g9) ?_
  obtain⟨J,p⟩: ∃J,J=(f.set B (aZ [aC m2])).set g (some (.loop r)):=⟨_,rfl⟩
  rw[←p]
  have c6:J.next=f.next:=by rw[p];rfl
  have Y: ∀q,q≠B->q≠g->J.get q=f.get q:=λq h1 Z=>by rw[p,H.aG _ Z,H.aG _ h1]
  have b6:=j.fr.next
  have a5:Fr h J:=⟨om,λq u=>by rw[Y q om om,o q om,o9 q om];exact j.fr.get q u⟩
  exact⟨rfl,⟨by rw[p,H.aS],by rw[p,H.aG _ om,H.aS],by rw[Y b om om,o b om,o9 b om];exact j.gb,O.mono a5,om,a5⟩,⟨om,λq h1 Z=>by rw[Y q (λe=>Z om) (λe=>Z om),o q om,o9 q (λe=>Z om)]⟩⟩
 ·rintro _ K j
  rw[show (vU a n).length=((vU a n).map List.length).length from (jV _).symm,List.take_length] at j
  have a6:qF a n<=823543:=mT (EG A) (Sw hn)
  have j':OrJ h B b g w a r (qF a n) K:=j
  refine⟨r,j'.gr,by rw[iP];simp,?_⟩
  have en:r.pend.getD .norm= .norm:=by rw[a8];rfl
  rw[en]
  obtain⟨f,F⟩: ∃f,f=K.set g (some (.loop {r with st:= .out})):=⟨_,rfl⟩
  have o: ∀q,q≠g->f.get q=K.get q:=λq u=>by rw[F,H.aG _ u]
  have b3:f.next=K.next:=by rw[F];rfl
  have s:f.get B=aZ [aC (qF a n:Nat)]:=by rw[o _ om];exact j'.gA
  have b6:=j'.fr.next
  have b5:Fr h f:=⟨om,λq u=>by rw[o q om];exact j'.fr.get q u⟩
  rw[←F]
  simp(disch:=omega)only[go_sem,H.aF s]
  exact b5
theorem Qp (h:H)(n:Nat)(a:n<=100000):Jo h 1 1 [.int .u8 0] (aC n) (aC n)=some (.sl h.next 0 n (.kn n),h.new (.cells false (rc n λ_=> .int .u8 0))):=by
 rw[tU om (Int.le_refl _) om om,NK,uW]
 have e:cX [V.int .u8 0] n=rc n λ_=> .int .u8 0:=by
  symm;refine Kq ?_ λi hi=>?_
  ·simp [cX]
  ·simp [cX,hi,Nat.mod_one]
 rw[e]
theorem Ee: ∀l:List Nat,(∀x∈l,x<256)->qH (l.map λ(x:Nat)=>V.int .u8 (x:Int))=some l
 | [],_=>rfl
 |x::r,h=>by
  have b:=h x (by simp);show (if 0<=(x:Int)/\(x:Int)<256 then (qH (r.map λ(x:Nat)=>V.int .u8 (x:Int))).map ((x:Int).toNat:: ·) else none)=_;rw[bF ⟨om,om⟩,Ee r λy a=>h y (by simp [a])]
  rfl
theorem FV (u:V)(a:List Nat)(h:H)(U:a.length<=1000)(O: ∀x∈a,x<256)(A:SI h u (zi a)):
  Ev T 182 [u] h (λv h'=>v= .str a/\Fr h h'):=by
 refine cV oY rfl ?_
 obtain⟨n,q⟩:=exI a.length
 have J:=A.lens
 rw[aQ,q] at J
 obtain⟨id,off,y,l,K⟩:=A.open
 rw[aQ,q] at y l K
 simp(disch:=omega)only[go_sem,oY,aD,J,Qp h n om]
 have m:Fr h (h.new (.cells false (rc n λ_=> .int .u8 0))):=(Fr.refl h).new _
 have f:(h.new (.cells false (rc n λ_=> .int .u8 0))).get h.next=some (.cells false (rc n λ_=> .int .u8 0)):=H.aL ..
 have d:(h.new (.cells false (rc n λ_=> .int .u8 0))).next=h.next+1:=H.aU ..
 generalize h.new (.cells false (rc n λ_=> .int .u8 0))=W at*
 obtain⟨S,B⟩:=exI h.next
 rw[B] at f d
 rw[B]
 refine aH (λG b t=> ∃(i:Nat),(∃j:Nat->V,b= [u,j 1,.sl S 0 n (.kn n),j 3,j 4,u,aC n,aC i,j 8])/\i<=n/\
   t.get S=some (.cells false (rc n λj=>if j<i then .int .u8 ((a.getD j 0:Nat):Int) else .int .u8 0))/\t.next=S+1/\Fr h t/\G=n-i) n
  ⟨0,aB rfl,iJ _,by rw[f];rfl,d,m,rfl⟩ ?_
 clear f m d
 rintro G b g ⟨i,⟨R,rfl⟩,hi,N,Q,F,rfl⟩
 simp(disch:=omega)only[go_sem]
 by_cases p:(i:Int)<(n:Int)
 ·rw[bP p]
  have c:i<n:=om
  have ci:g.cell id (off+i)=some (aC (a.getD i 0:Nat)):=by rw[F.cell (l om),K i c];congr 2;simp [zi,q,c]
  have r:=O (a.getD i 0) (bD om)
  generalize P:a.getD i 0=k at ci r
  have z:=bN (vs:=rc n λj=>if j<i then .int .u8 ((a.getD j 0:Nat):Int) else .int .u8 0) (off:=i) (by rw[kH];exact c) g S (.int .u8 (k:Int))
  rw[mS] at z
  simp(disch:=omega)only[go_sem,y.ixa,ci,N,yH,z]
  rw[eJ i]
  refine⟨n-(i+1),om,i+1,aB rfl,om,?_,Q,F.set om _,rfl⟩
  congr 2
  refine dB λj w=>?_
  by_cases e:j=i
  ·rw[bF e,bF om,e,P]
  ·rw[bI e]
   by_cases L:j<i
   ·rw[bF L,bF om]
   ·rw[bI L,bI om]
 rw[bH p]
 obtain rfl:i=n:=om
 have o:g.row S 0 i=some (a.map λ(x:Nat)=>V.int .u8 (x:Int)):=by
  have e:(rc i λj=>if j<i then V.int .u8 ((a.getD j 0:Nat):Int) else .int .u8 0)=a.map λ(x:Nat)=>V.int .u8 (x:Int):=Kq (by rw[jV,q]) λj w=>by
   rw[bF w,Ol,dD om,List.getD,dD om];rfl
  unfold H.row;rw[N,e];simp only[sub];rw[bF (by rw[jV];omega)];rw[List.drop_zero,Tn (by rw[jV];omega)]
 have s:JA g (.sl S 0 i (.kn i))=some (.str a):=by
  show (match g.row S 0 i with|some ys=>(qH ys).map V.str|none=>none)=_;rw[o];show (qH (a.map λ(x:Nat)=>V.int .u8 (x:Int))).map V.str=_;rw[Ee a O];rfl
 simp(disch:=omega)only[go_sem,GH,s]
 exact F
section
variable {y x g:List Nat}
section
variable {n:Nat} {G:List Nat->Prop} {O:LN} {R:jI}
theorem one_le (Y:bE n y):Le (bL n) y:=by
 by_cases h: ∃k,k<n/\y.getD k 0≠k
 ·obtain⟨k,⟨b,q⟩,c⟩: ∃k,(k<n/\y.getD k 0≠k)/\ ∀j,j<k-> ¬(j<n/\y.getD j 0≠j):=by
   obtain⟨k,b⟩:=h
   induction k using Nat.strongRecOn with
   |_ k ih=>
    by_cases i: ∃j,j<k/\(j<n/\y.getD j 0≠j)
    ·obtain⟨j,l,o⟩:=i;exact ih j l o
    ·exact⟨k,b,λj d m=>i ⟨j,d,m⟩⟩
  have a: ∀j,j<k->y.getD j 0=j:=λj d=>Jg λf=>c j d ⟨om,f⟩
  refine .inr ⟨k,by rw[jG];exact b,λj d=>by rw[fQ om,a j d],?_⟩;rw[fQ b];refine Jg λp=>?_
  have e:y.getD k 0<k:=om
  have:=Y.inj om b (a _ e);omega
 ·exact .inl ((Fix.all Y λk b=>Jg λf=>h ⟨k,b,f⟩).symm)
theorem KS (f:iX n G)(c:bC n G O R){i:Nat}(hi:i<n):0<(R.getD i []).length/\(R.getD i []).getD 0 []=bL n:=by
 have o:i∈O.getD i []:=(c.mem i hi i).2 ⟨bL n,f.one,Fix.one n i om,fQ hi⟩;have d:0<(O.getD i []).length:=HJ o;have a:=c.rep i hi 0 d
 have r:(O.getD i []).getD 0 0=i:=by
  have b:(O.getD i []).getD 0 0∈O.getD i []:=bD d;obtain⟨x,p,fx,e⟩:=(c.mem i hi _).1 b
  have q: ¬(O.getD i []).getD 0 0<i:=λl=>by
   have X:=f.cU p;have:=X.inj (i:=(O.getD i []).getD 0 0) (j:=i) om hi (by rw[fx _ l,e]);omega
  obtain⟨k,t,v⟩:=zF.1 o;have m:=JX.1 (c.asc i hi);have u:(O.getD i []).getD 0 0=(O.getD i [])[0]:=Pm.cJ d
  by_cases h:k=0
  ·subst h;omega
  ·have:=m 0 k d t om
   omega
 rw[r] at a;refine⟨by rw[c.rl i hi];exact d,a.uniq ⟨f.one,Fix.one n i om,fQ hi,λy s _ _=>one_le (f.cU s)⟩⟩
theorem bV (c:bC n G O R)(a:x∈bQ R):G x:=by
 unfold bQ at a;obtain⟨r,d,b⟩:=List.mem_flatMap.1 a;exact Ji c x (List.mem_flatten.2 ⟨r,d,List.mem_of_mem_drop b⟩)
theorem nJ (f:iX n G)(c:bC n G O R)(j:G x):bX n (λg=>g∈bQ R) x:=by
 have h:=(Ti f c x).2 j;have s: ∀g,g∈bQ R->bE n g:=λg b=>f.cU (bV c b)
 clear j
 induction h with
 |one=>exact .one
 | @mul y g _ b ih=>
  obtain⟨r,o,q⟩:=List.mem_flatten.1 b;obtain⟨i,hi,t⟩:=zF.1 o;have e:i<n:=by have:=c.lr;omega
  have d:R.getD i []=r:=by rw[List.getD,dD hi,←t];rfl
  obtain⟨p,l⟩:=KS f c e;rw[d] at p l;obtain⟨k,u,m⟩:=zF.1 q
  by_cases a:k=0
  ·subst a
   have:g=bL n:=by rw[←l,List.getD,dD u,←m];rfl
   rw[this,bZ (ih.cU s)];exact ih
  ·refine ih.mul ?_
   unfold bQ;refine List.mem_flatMap.2 ⟨r,o,zF.2 ⟨k- 1,by rw[AQ];omega,?_⟩⟩;rw[List.getElem_drop];simp only[show 1+(k- 1)=k by omega,m]
def cW (x g:List Nat):List Nat:=aX (aX (dA g) x) g
theorem qG (X:bE n x)(g':bE n g):bE n (cW x g):=(g'.inv.mul X).mul g'
theorem mG (X:bE n x):cW x (bL n)=x:=by
 unfold cW;rw[oJ,eP X,bZ X]
theorem nX {k:List Nat}(X:bE n x)(A:bE n g)(B:bE n k):cW x (aX g k)=cW (cW x g) k:=by
 unfold cW;rw[Nr A B];have a:=A.inv;have b:=B.inv;rw[aV b a X,←aV (b.mul (a.mul X)) A B,←aV b (a.mul X) A|>.symm]
theorem MO (X:bE n x)(A:bE n g):cW (cW x g) (dA g)=x:=by
 rw[←nX X A A.inv,fC A,mG X]
def cj (G:List Nat->Prop)(x y:List Nat):Prop:= ∃g,G g/\cW x g=y
theorem XO (a:iX n G)(X:bE n x):cj G x x:=⟨bL n,a.one,mG X⟩
theorem XN (a:iX n G)(X:bE n x)(h:cj G x y):cj G y x:=by
 obtain⟨g,b,rfl⟩:=h;exact⟨dA g,a.inv b,MO X (a.cU b)⟩
theorem UT (a:iX n G){z:List Nat}(X:bE n x)(h:cj G x y)(h2:cj G y z):cj G x z:=by
 obtain⟨g,c,rfl⟩:=h;obtain⟨k,b,rfl⟩:=h2;exact⟨aX g k,a.mul c b,nX X (a.cU c) (a.cU b)⟩
theorem adZ {S:List Nat->Prop}(b: ∀g,S g->bE n g)(a: ∀x,G x->bX n S x){P:List Nat->Prop}(X:bE n x)(d:P x)(e: ∀y g,bE n y->P y->S g->P (cW y g))(h:cj G x y):P y:=by
 obtain⟨g,c,rfl⟩:=h;have:=a g c;clear c
 induction this with
 |one=>rw[mG X];exact d
 | @mul z k hz hk ih=>
  rw[nX X (hz.cU b) (b k hk)];exact e _ _ (qG X (hz.cU b)) ih hk
end
end
end Go.Proofs.YtcdbmkidaecdiaaGreat
namespace Go.Proofs.YtcdbmkidaecdiaaGreat.Cls
open Go Go.Ay Go.Sort
set_option maxRecDepth 100000
section
variable {h:H} {S N i j a:Nat}
class aN (α:Type)[Inhabited α] where
 lt:α->α->Bool
 enc:α->List V
 P:α->Prop
 B:H->Prop
 f:Nat
 b0:Nat
 S:Nat
 swo:SWO lt
 len: ∀a,(enc a).length=4
 one: ∀a,(enc a).all V.one=true
 eqv: ∀a,dE (.agg (enc a)) (.agg (enc a))=true
 cmp: ∀h a b,B h->P a->P b->Ev T f [.agg (enc a),.agg (enc b)] h (λv h'=> ∃z,v= aC z/\decide (z<0)=lt a b/\Fr h h')
 bfr: ∀h h',B h->Fr h h'->B h'
 bS: ∀h h',B h->Fx (· =S) h h'->B h'
 bR: ∀h h' R,B h->b0<=R->Fx (· =R) h h'->B h'
 bn: ∀h,B h->b0<=h.next
def flat {α:Type}[Inhabited α][aN α](l:List α):List V:=l.flatMap aN.enc
structure cE {α:Type}[Inhabited α][O:aN α](h:H)(S N:Nat)(d:Array α):Prop where
 get:h.get S=aZ (flat d.toList)
 size:d.size=N
 lt:S<h.next
 eqS:S=O.S
 base:O.B h
 all: ∀i,i<d.size->O.P d[i]!
section
variable {α:Type} [Inhabited α] [O:aN α]
theorem tY: ∀l:List α,(flat l).length=l.length*4
 | []=>rfl
 |x::r=>by
  show (aN.enc x++flat r).length=_;rw[jZ,aN.len,tY r,List.length_cons];omega
theorem Ic: ∀(l:List α) (i:Nat),(flat l).drop (i*4)=flat (l.drop i)
 |l,0=>by simp
 | [],i+1=>by simp [flat]
 |x::r,i+1=>by
  show (aN.enc x++flat r).drop ((i+1)*4)=_;rw[List.drop_append,List.drop_eq_nil_of_le (by rw[aN.len];omega),aN.len,List.nil_append,show (i+1)*4- 4=i*4 by omega,Ic r i,List.drop_succ_cons]
theorem Sn: ∀(l:List α) (i:Nat),(flat l).take (i*4)=flat (l.take i)
 |l,0=>by simp [flat]
 | [],i+1=>by simp [flat]
 |x::r,i+1=>by
  show (aN.enc x++flat r).take ((i+1)*4)=_;rw[List.take_append,Tn (by rw[aN.len];omega),aN.len,show (i+1)*4- 4=i*4 by omega,Sn r i,List.take_succ_cons];rfl
theorem ZN (h:H)(id off:Nat)(a:α):Wj h 4 (.ptr id off) (.agg (aN.enc a))=dX (h.get id) h id off (aN.enc a):=Cd h id off 4 _ (aN.len a) (aN.one a)
theorem acP (a:α):dE (.agg (aN.enc a)) (.agg (aN.enc a))=true:=aN.eqv a
theorem cE.rd {d:Array α}(A:cE h S N d)(hi:i<N):h.row S (i*4) 4=some (aN.enc d[i]!):=by
 have b:i<d.size:=by rw[A.size];exact hi
 have c:i<d.toList.length:=by simpa using b
 unfold H.row;rw[A.get];simp only[sub];rw[bF (by rw[tY];omega),Ic,AR c];show some ((aN.enc d.toList[i]++flat _).take 4)=_;rw[List.take_append,Tn (by rw[aN.len];exact fM _),aN.len];simp [b]
theorem cE.fr {h':H}{d:Array α}(A:cE h S N d)(f:Fr h h'):cE h' S N d:=⟨by rw[f.get _ A.lt];exact A.get,A.size,iW A.lt f.next,A.eqS,O.bfr _ _ A.base f,A.all⟩
theorem bB {d:Array α}(hi:i<d.size)(b:H)(S:Nat)(x:α):dX (aZ (flat d.toList)) b S (i*4) (aN.enc x)=some (b.set S (aZ (flat (d.setIfInBounds i x).toList))):=by
 have c:i<d.toList.length:=by simpa using hi
 have e:(flat d.toList).take (i*4)++aN.enc x++(flat d.toList).drop (i*4+4)=flat (d.setIfInBounds i x).toList:=by
  rw[Array.toList_setIfInBounds,List.set_eq_take_append_cons_drop,bF c,Sn,show i*4+4=(i+1)*4 by omega,Ic];simp [flat]
 simp only[dX,putAt,aN.len];rw[bF (by rw[tY];omega),e];rfl
theorem aY {d:Array α}{y:α}(hi:i<d.size)(b:H)(S:Nat)(x:α):dX (aZ (flat (d.setIfInBounds j y).toList)) b S (i*4) (aN.enc x)=some (b.set S (aZ (flat ((d.setIfInBounds j y).setIfInBounds i x).toList))):=
 bB (by simpa using hi) b S x
theorem cE.swap {h2:H}{d:Array α}(A:cE h S N d){nx:Nat}(c:h.next<=nx)(e:h2=((H.mk h.tr nx).set S (aZ (flat (d.setIfInBounds i d[j]!).toList))).set S (aZ (flat ((d.setIfInBounds i d[j]!).setIfInBounds j d[i]!).toList)))(hi:i<N:=by omega)(p:j<N:=by omega):cE h2 S N (swp d i j)/\Fx (· =S) h h2:=by
 subst e
 have fx:Fx (· =S) h (((H.mk h.tr nx).set S (aZ (flat (d.setIfInBounds i d[j]!).toList))).set S (aZ (flat ((d.setIfInBounds i d[j]!).setIfInBounds j d[i]!).toList))):=⟨c,λid _ m=>by rw[H.aG _ m,H.aG _ m];rfl⟩
 have sz:=A.size;refine⟨⟨?_,?_,iW A.lt c,A.eqS,O.bS _ _ A.base (by have:=A.eqS;subst this;exact fx),?_⟩,fx⟩
 ·rw[H.aS];rfl
 ·simp [swp,sz]
 ·intro k o
  have b:k<d.size:=by simpa [swp] using o
  unfold swp
  have f: ∀(x:Array α) (u:Nat) (y:α),k<x.size->(x.setIfInBounds u y)[k]! =if u=k then y else x[k]! :=λx u y g=>by
   rw[getElem!_pos (x.setIfInBounds u y) k (by simpa using g),getElem!_pos x k g,Array.getElem_setIfInBounds]
  rw[f _ _ _ (by simpa using b),f _ _ _ b]
  by_cases l:j=k
  ·rw[bF l];exact A.all i om
  ·rw[bI l]
   by_cases n:i=k
   ·rw[bF n];exact A.all j om
   ·rw[bI n];exact A.all k b
theorem dG {d:Array α}(A:cE h S N d)(hi:i<N)(c:j<N)(nx:Nat)(b:h.next<=nx):Ev T (aN.f α) [.agg (aN.enc d[i]!),.agg (aN.enc d[j]!)] (H.mk h.tr nx) (λv h'=> ∃z,v= aC z/\decide (z<0)=aN.lt d[i]! d[j]! /\Fr (H.mk h.tr nx) h'):=
 O.cmp _ _ _ (O.bfr _ _ A.base ((Fr.refl h).bA b)) (A.all i (by rw[A.size];exact hi)) (A.all j (by rw[A.size];exact c))
end
attribute [go_sem] ZN acP H.Ym
theorem dC {a b c:H}(x:Fx (· =S) a b)(y:Fx (· =S) b c):Fx (· =S) a c:=x.trans y λ_ _ h=>h
theorem Vb {α:Type}[Inhabited α]{lt:α->α->Bool}{d:Array α}(b:a<j+1)(h2:lt d[j+1]! d[j]! =true):insInner lt a (j+1) d=insInner lt a j (swp d (j+1) j):=by
 rw[insInner,bF (by simp [b,h2])]
theorem Ud {α:Type}[Inhabited α]{lt:α->α->Bool}{d:Array α}(h2:lt d[j+1]! d[j]! =false):insInner lt a (j+1) d=d:=by
 rw[insInner,bI (by simp [h2])]
theorem Uf {α:Type}[Inhabited α]{lt:α->α->Bool}{d:Array α}(h:j<=a):insInner lt a j d=d:=by
 cases j with
 |zero=>rfl
 |succ j=>rw[insInner,bI (by simp;omega)]
theorem oW {α:Type}[Inhabited α][O:aN α](h:H)(S N a b:Nat)(d:Array α)(w:lI)(hN:N<1000000)(A:cE h S N d)(hb:b<=N)(K:a<=b):
  Ev T 247 [.sl S 0 N w,aC a,aC b,.fn (aN.f α) [] []] h (λ_ h'=>cE h' S N (insertionSort aN.lt d a b)/\Fx (· =S) h h'):=by
 refine cV fK rfl ?_
 simp(disch:=omega)only[go_sem,fK,aD]
 rw[eJ a]
 refine aH (λs c r=> ∃(i:Nat) (e:Array α),(∃g:Nat->V,c= [.sl S 0 N w,aC a,aC b,.fn (aN.f α) [] [],aC i,g 5,g 6,g 7])/\a<i/\i<=b+1/\cE r S N e/\insOuter aN.lt a b i e=insertionSort aN.lt d a b/\Fx (· =S) h r/\s=b+1-i) (b+1-(a+1))
  ⟨a+1,d,aB rfl,om,om,A,rfl,Fx.refl _ h,rfl⟩ ?_
 clear A
 rintro s c h1 ⟨i,e,⟨g,rfl⟩,Q,R,A,k,F,rfl⟩
 simp(disch:=omega)only[go_sem]
 by_cases t:(i:Int)<(b:Int)
 case neg=>
  rw[bH t];simp(disch:=omega)only[go_sem];rw[insOuter,bI om] at k;rw[←k];exact⟨A,F⟩
 rw[bP t]
 rw[insOuter,bF om] at k
 simp(disch:=omega)only[go_sem]
 refine aH (λs c r=> ∃(j:Nat) (l:Array α),(∃g:Nat->V,c= [.sl S 0 N w,aC a,aC b,.fn (aN.f α) [] [],aC i,aC j,g 6,g 7])/\a<=j/\j<=i/\cE r S N l/\insInner aN.lt a j l=insInner aN.lt a i e/\Fx (· =S) h r/\s=j) i
  ⟨i,e,aB rfl,om,om,A,rfl,F,rfl⟩ ?_
 clear A F
 rintro s c o ⟨j,l,⟨g2,rfl⟩,P,U,A,p,F,hk⟩
 have sz:=A.size
 by_cases u:(a:Int)<(j:Int)
 ·obtain⟨m,rfl⟩: ∃m,j=m+1:=⟨j- 1,om⟩
  have c1:=A.rd (i:=m+1) om
  have L:=A.rd (i:=m) om
  have x:=bP u
  have J:((m+1:Nat):Int)- 1=(m:Int):=om
  simp(disch:=omega)only[go_sem,x,J,c1,L]
  refine (dG A (i:=m+1) (j:=m) om om _ om).mono ?_
  rintro _ y ⟨z,rfl,B,v⟩
  have n:Fr o y:=Fr.trans ((Fr.refl o).bA om) v
  have q:=A.fr n
  have Y:=q.rd (i:=m+1) om
  have Z:=q.rd (i:=m) om
  cases hl:aN.lt l[m+1]! l[m]! with
  |false=>
   rw[Ud hl] at p;simp(disch:=omega)only[go_sem,B,hl];rw[eJ i];rw[←p] at k;exact⟨b+1-(i+1),om,i+1,l,aB rfl,om,om,q,k,dC F (Fx.of n),rfl⟩
  |true=>
   rw[Vb om hl] at p;simp(disch:=omega)only[go_sem,B,hl,J,Y,Z,q.get,bB,aY];have W:=q.swap (i:=m+1) (j:=m) (nx:=y.next+18) om rfl;exact⟨m,om,m,_,aB rfl,om,om,W.1,p,dC (dC F (Fx.of n)) W.2,rfl⟩
 ·have x:=bH u
  rw[Uf om] at p
  simp(disch:=omega)only[go_sem,x]
  rw[eJ i]
  rw[←p] at k
  have G:Fr o (H.mk o.tr (o.next+17)):=(Fr.refl o).bA om
  exact⟨b+1-(i+1),om,i+1,l,aB rfl,om,om,A.fr G,k,dC F (Fx.of G),rfl⟩
end
def Wm {α:Type}[Inhabited α](lt:α->α->Bool)(hi first root:Nat)(d:Array α):Nat:=if 2*root+1+1<hi/\lt d[first+(2*root+1)]! d[first+(2*root+1)+1]! =true then 2*root+2 else 2*root+1
theorem xP {α:Type}[Inhabited α]{lt:α->α->Bool}(hi first a:Nat)(d:Array α):siftDown lt hi first a d=if 2*a+1≥hi then d else
  if lt d[first+a]! d[first+Wm lt hi first a d]! =true then siftDown lt hi first (Wm lt hi first a d) (swp d (first+a) (first+Wm lt hi first a d)) else d:=by
 rw[siftDown]
 unfold Wm
 by_cases b:2*a+1≥hi
 ·rw[dif_pos b,bF b]
 ·rw[dif_neg b,bI b]
  by_cases c:2*a+1+1<hi/\lt d[first+(2*a+1)]! d[first+(2*a+1)+1]! =true
  ·rw[bF (by simpa using c),bF c]
   cases h3:lt d[first+a]! d[first+(2*a+2)]!
   ·simp
   ·simp [show 2*a+2<hi by omega]
  ·rw[bI (by simpa using c),bI c]
   cases h3:lt d[first+a]! d[first+(2*a+1)]! <;>simp
theorem kA  {α:Type}[Inhabited α][O:aN α](h:H)(S N x hi first:Nat)(d:Array α)(cp:lI)(hN:N<1000000)(A:cE h S N d)(hb:first+hi<=N)(Q:x<=hi):
  Ev T 260 [.sl S 0 N cp,aC x,aC hi,aC first,.fn (aN.f α) [] []] h (λ_ h'=>cE h' S N (siftDown aN.lt hi first x d)/\Fx (· =S) h h'):=by
 refine cV gJ rfl ?_
 simp(disch:=omega)only[go_sem,gJ,aD]
 refine aH (λk' s hh=> ∃(r:Nat) (e:Array α),(∃g:Nat->V,s= [.sl S 0 N cp,aC x,aC hi,aC first,.fn (aN.f α) [] [],aC r,g 6,g 7,g 8,g 9])/\r<=hi/\cE hh S N e/\siftDown aN.lt hi first r e=siftDown aN.lt hi first x d/\Fx (· =S) h hh/\k'=hi-r) (hi-x)
  ⟨x,d,aB rfl,Q,A,rfl,Fx.refl _ h,rfl⟩ ?_
 clear A
 rintro k' s w ⟨r,e,⟨g,rfl⟩,hr,A,a,F,rfl⟩
 have Y:2*(r:Int)+1=((2*r+1:Nat):Int):=om
 by_cases L:(hi:Int)<=((2*r+1:Nat):Int)
 ·have P:=bP L
  simp(disch:=omega)only[go_sem,Y,P]
  rw[xP,bF om] at a
  rw[←a]
  exact⟨A,F⟩
 have P:=bH L
 rw[xP,bI om] at a
 have Z:((2*r+1:Nat):Int)+1=((2*r+2:Nat):Int):=om
 have c:(first:Int)+(r:Int)=((first+r:Nat):Int):=om
 have l:(first:Int)+((2*r+1:Nat):Int)=((first+(2*r+1):Nat):Int):=om
 have J:(first:Int)+((2*r+2:Nat):Int)=((first+(2*r+2):Nat):Int):=om
 have U:((first+(2*r+1):Nat):Int)+1=((first+(2*r+1)+1:Nat):Int):=om
 have sz:=A.size
 by_cases K:((2*r+2:Nat):Int)<(hi:Int)
 ·have e2:=bP K
  have p:=A.rd (i:=first+(2*r+1)) om
  have G:=A.rd (i:=first+(2*r+1)+1) om
  simp(disch:=omega)only[go_sem,Y,P,Z,e2,l,U,p,G]
  refine (dG A (i:=first+(2*r+1)) (j:=first+(2*r+1)+1) om om _ om).mono ?_
  rintro _ y ⟨z,rfl,k,R⟩
  have B:Fr w y:=Fr.trans ((Fr.refl w).bA om) R
  have t:=A.fr B
  have o:=t.rd (i:=first+r) om
  have p:=t.rd (i:=first+(2*r+1)) om
  have G:=t.rd (i:=first+(2*r+2)) om
  cases hl:aN.lt e[first+(2*r+1)]! e[first+(2*r+1)+1]! with
  |false=>
   have m:Wm aN.lt hi first r e=2*r+1:=bI (by rw[hl];simp)
   rw[m] at a;simp(disch:=omega)only[go_sem,k,hl,c,l,o,p];refine (dG t (i:=first+r) (j:=first+(2*r+1)) om om _ om).mono ?_;rintro _ q ⟨z,rfl,k,n⟩;have v:Fr y q:=Fr.trans ((Fr.refl y).bA om) n;have b:=t.fr v;have o:=b.rd (i:=first+r) om;have p:=b.rd (i:=first+(2*r+1)) om;have u:=dC (dC F (Fx.of B)) (Fx.of v)
   cases hl2:aN.lt e[first+r]! e[first+(2*r+1)]! with
   |false=>
    rw[bI (by rw[hl2];simp)] at a;simp(disch:=omega)only[go_sem,k,hl2];rw[←a];exact⟨b,u⟩
   |true=>
    rw[bF hl2] at a;simp(disch:=omega)only[go_sem,k,hl2,c,l,o,p,b.get,bB,aY];have W:=b.swap (i:=first+r) (j:=first+(2*r+1)) (nx:=q.next+24) om rfl;exact⟨hi-(2*r+1),om,2*r+1,_,aB rfl,om,W.1,a,dC u W.2,rfl⟩
  |true=>
   have m:Wm aN.lt hi first r e=2*r+2:=bF ⟨om,hl⟩
   rw[m] at a;simp(disch:=omega)only[go_sem,k,hl,Z,c,J,o,G];refine (dG t (i:=first+r) (j:=first+(2*r+2)) om om _ om).mono ?_;rintro _ q ⟨z,rfl,k,n⟩;have v:Fr y q:=Fr.trans ((Fr.refl y).bA om) n;have b:=t.fr v;have o:=b.rd (i:=first+r) om;have G:=b.rd (i:=first+(2*r+2)) om;have u:=dC (dC F (Fx.of B)) (Fx.of v)
   cases hl2:aN.lt e[first+r]! e[first+(2*r+2)]! with
   |false=>
    rw[bI (by rw[hl2];simp)] at a;simp(disch:=omega)only[go_sem,k,hl2];rw[←a];exact⟨b,u⟩
   |true=>
    rw[bF hl2] at a;simp(disch:=omega)only[go_sem,k,hl2,c,J,o,G,b.get,bB,aY];have W:=b.swap (i:=first+r) (j:=first+(2*r+2)) (nx:=q.next+24) om rfl;exact⟨hi-(2*r+2),om,2*r+2,_,aB rfl,om,W.1,a,dC u W.2,rfl⟩
 ·have e2:=bH K
  have m:Wm aN.lt hi first r e=2*r+1:=bI om
  rw[m] at a
  have B:Fr w (H.mk w.tr (w.next+20)):=(Fr.refl w).bA om
  have t:=A.fr B
  have o:=A.rd (i:=first+r) om
  have p:=A.rd (i:=first+(2*r+1)) om
  simp(disch:=omega)only[go_sem,Y,P,Z,e2,c,l,o,p]
  refine (dG A (i:=first+r) (j:=first+(2*r+1)) om om _ om).mono ?_
  rintro _ q ⟨z,rfl,k,n⟩
  have v:Fr w q:=Fr.trans ((Fr.refl w).bA om) n
  have b:=A.fr v
  have o:=b.rd (i:=first+r) om
  have p:=b.rd (i:=first+(2*r+1)) om
  have u:=dC F (Fx.of v)
  cases hl2:aN.lt e[first+r]! e[first+(2*r+1)]! with
  |false=>
   rw[bI (by rw[hl2];simp)] at a;simp(disch:=omega)only[go_sem,k,hl2];rw[←a];exact⟨b,u⟩
  |true=>
   rw[bF hl2] at a;simp(disch:=omega)only[go_sem,k,hl2,c,l,o,p,b.get,bB,aY];have W:=b.swap (i:=first+r) (j:=first+(2*r+1)) (nx:=q.next+24) om rfl;exact⟨hi-(2*r+1),om,2*r+1,_,aB rfl,om,W.1,a,dC u W.2,rfl⟩
theorem qZ  {α:Type}[Inhabited α][O:aN α](h:H)(S N a b:Nat)(d:Array α)(s:lI)(B:N<1000000)(A:cE h S N d)(hb:b<=N)(K:a<=b):
  Ev T 248 [.sl S 0 N s,aC a,aC b,.fn (aN.f α) [] []] h (λ_ h'=>cE h' S N (heapSort aN.lt d a b)/\Fx (· =S) h h'):=by
 refine cV gX rfl ?_
 obtain⟨n,Z⟩:=exI (b-a)
 have U:(b:Int)-(a:Int)=(n:Int):=om
 have J:((n:Int)- 1).tdiv 2=(((n- 1)/2+1:Nat):Int)- 1:=by
  by_cases h0:n=0
  ·subst h0;decide
  ·rw[Int.tdiv_eq_ediv_of_nonneg om];omega
 simp(disch:=omega)only[go_sem,gX,aD,U,J]
 refine aH (λl c q=> ∃(k:Nat) (e:Array α),(∃g:Nat->V,c= [.sl S 0 N s,aC a,aC b,.fn (aN.f α) [] [],aC a,aC 0,aC n,aC ((k:Int)- 1),g 8,g 9,g 10])/\k<=n+1/\(k=1∨k<=n)/\cE q S N e/\heapBuild aN.lt n a k e=heapBuild aN.lt n a ((n- 1)/2+1) d/\Fx (· =S) h q/\l=k) ((n- 1)/2+1)
  ⟨(n- 1)/2+1,d,aB rfl,om,om,A,rfl,Fx.refl _ h,rfl⟩ ?_
 clear A
 rintro l c h1 ⟨k,e,⟨g,rfl⟩,t,y,A,v,F,x⟩
 subst x
 by_cases o:(0:Int)<=(l:Int)- 1
 ·have p:=bP o
  obtain⟨m,rfl⟩: ∃m,l=m+1:=⟨l- 1,om⟩
  have u:((m+1:Nat):Int)- 1=(m:Int):=om
  rw[u] at p
  rw[u]
  simp(disch:=omega)only[go_sem,p]
  refine (kA h1 S N m n a e s B A om om).mono ?_
  rintro _ z ⟨L,F2⟩
  simp(disch:=omega)only[go_sem]
  exact⟨m,om,m,_,aB rfl,om,om,L,v,dC F F2,rfl⟩
 have p:=bH o
 obtain rfl:l=0:=om
 have v:e=heapBuild aN.lt n a ((n- 1)/2+1) d:=v
 simp(disch:=omega)only[go_sem,p]
 refine aH (λl c q=> ∃(k:Nat) (r:Array α),(∃g:Nat->V,c= [.sl S 0 N s,aC a,aC b,.fn (aN.f α) [] [],aC a,aC 0,aC n,g 7,aC ((k:Int)- 1),g 9,g 10])/\k<=n/\cE q S N r/\heapPop aN.lt a k r=heapPop aN.lt a n e/\Fx (· =S) h q/\l=k) n
  ⟨n,e,aB rfl,om,A,rfl,F,rfl⟩ ?_
 clear A F o p t y
 rintro l c z ⟨k,r,⟨g,rfl⟩,t,A,w,F,x⟩
 subst x
 have sz:=A.size
 by_cases o:(0:Int)<=(l:Int)- 1
 ·have p:=bP o
  obtain⟨m,rfl⟩: ∃m,l=m+1:=⟨l- 1,om⟩
  have u:((m+1:Nat):Int)- 1=(m:Int):=om
  rw[u] at p
  rw[u]
  have R:(a:Int)+(m:Int)=((a+m:Nat):Int):=om
  have c1:=A.rd (i:=a+m) om
  have P:=A.rd (i:=a) om
  simp(disch:=omega)only[go_sem,p,R,c1,P,A.get,bB,aY]
  have W:=A.swap (i:=a) (j:=a+m) (nx:=z.next+20) om rfl
  have G:=kA _ S N 0 m a _ s B W.1 om om
  refine G.mono ?_
  rintro _ h3 ⟨Q,Y⟩
  simp(disch:=omega)only[go_sem]
  exact⟨m,om,m,_,aB rfl,om,Q,w,dC (dC F W.2) Y,rfl⟩
 have p:=bH o
 obtain rfl:l=0:=om
 simp(disch:=omega)only[go_sem,p]
 have w:r=heapPop aN.lt a n e:=w
 have:heapSort aN.lt d a b=r:=by unfold heapSort;rw[Z,w,v]
 rw[this]
 exact⟨A,F⟩
theorem cE.Uc  {α:Type}[Inhabited α][O:aN α]{h h':H}{S N R:Nat}{d:Array α}(A:cE h S N d)(f:Fx (· =R) h h')(b:R≠S)(a:aN.b0 α<=R):cE h' S N d:=⟨by rw[f.get S A.lt (λe=>b e.symm)];exact A.get,A.size,iW A.lt f.next,A.eqS,O.bR _ _ _ A.base a f,A.all⟩
theorem tZ  {α:Type}[Inhabited α][O:aN α](h:H)(S N a b:Nat)(d:Array α)(o:lI)(x:N<1000000)(A:cE h S N d)(y:b<=N)(q:a<b):
  Ev T 251 [.sl S 0 N o,aC a,aC b,.fn (aN.f α) [] []] h (λ_ h'=>cE h' S N (reverseRange d a b)/\Fx (· =S) h h'):=by
 refine cV fP rfl ?_
 have r:(b:Int)- 1=((b- 1:Nat):Int):=om
 simp(disch:=omega)only[go_sem,fP,aD,r]
 refine aH (λc k p=> ∃(i j:Nat) (e:Array α),(∃g:Nat->V,k= [.sl S 0 N o,aC a,aC b,aC i,aC j,g 5])/\j<b/\i<=b/\cE p S N e/\reverseLoop i j e=reverseLoop a (b- 1) d/\Fx (· =S) h p/\c=j) (b- 1)
  ⟨a,b- 1,d,aB rfl,om,om,A,rfl,Fx.refl _ h,rfl⟩ ?_
 clear A
 rintro c k t ⟨i,j,e,⟨g,rfl⟩,w,hi,A,l,F,v⟩
 subst v
 have sz:=A.size
 rw[reverseLoop] at l
 by_cases m:(i:Int)<(c:Int)
 ·have n:=bP m
  rw[bF om] at l
  have u:=A.rd (i:=i) om
  have s:=A.rd (i:=c) om
  simp(disch:=omega)only[go_sem,n,u,s,A.get,bB,aY]
  have W:=A.swap (i:=i) (j:=c) (nx:=t.next+16) om rfl
  rw[show (i:Int)+1=((i+1:Nat):Int) from om,show (c:Int)- 1=((c- 1:Nat):Int) from om]
  exact⟨c- 1,om,i+1,c- 1,_,aB rfl,om,om,W.1,l,dC F W.2,rfl⟩
 have n:=bH m
 rw[bI om] at l
 simp(disch:=omega)only[go_sem,n]
 unfold reverseRange
 rw[←l]
 exact⟨A,F⟩
theorem Dh (n:Nat){k:Int}{m:Nat}(a:k=(m:Int)):(n:Int).tdiv k=((n/m:Nat):Int):=by
 rw[a,Int.tdiv_eq_ediv_of_nonneg om];rfl
theorem Ba  {α:Type}[Inhabited α][O:aN α](h:H)(S N a b:Nat)(d:Array α)(cp:lI)(hN:N<60000)(A:cE h S N d)(hb:b<=N)(a2:a<=b):
  Ev T 249 [.sl S 0 N cp,aC a,aC b,.fn (aN.f α) [] []] h (λ_ h'=> ∃e,cE h' S N e/\PermIn a b d e/\Fx (· =S) h h'):=by
 refine cV dI rfl ?_
 obtain⟨n,hn⟩:=exI (b-a)
 have en:(b:Int)-(a:Int)=(n:Int):=om
 by_cases h8:(8:Int)<=(n:Int)
 case neg=>
  have e8:=bH h8;simp(disch:=omega)only[go_sem,dI,aD,en,e8];exact⟨d,A,permIn_refl d a b,Fx.refl _ h⟩
 have e8:=bP h8
 have K:=Dh n (k:=4) (m:=4) rfl
 obtain⟨q,hq⟩:=exI (n/4)
 rw[hq] at K
 have ei:(a:Int)+(q:Int)*2- 1=((a+q*2- 1:Nat):Int):=om
 have ej:(a:Int)+(q:Int)*2+1=((a+q*2+1:Nat):Int):=om
 have hp:=two_pow_bitsLen_le (show 0<n by omega)
 have a1:=lt_two_pow_bitsLen n
 obtain⟨m,hm⟩:=exI (2^bitsLen n)
 rw[hm] at hp a1
 obtain⟨R,Y⟩:=exI h.next
 have P:R≠S:=by have:=A.lt;omega
 have a0:aN.b0 α<=R:=by have:=O.bn _ A.base;omega
 have Z: ∀c:H,dX (aZ [.int .u64 0]) c R 0 [.int .u64 (n:Int)]=some (c.set R (aZ [.int .u64 (n:Int)])):=λc=>bN (by simp) c R _
 have z:(h.new (.cells false [.int .u64 0])).get R=aZ [.int .u64 0]:=by rw[←Y,H.aL]
 simp(disch:=omega)only[go_sem,dI,aD,en,e8,Y,dK (n:=(n:Int)) om om,z,Z]
 obtain⟨o,l⟩: ∃o,o=(h.new (.cells false [.int .u64 0])).set R (aZ [.int .u64 (n:Int)]):=⟨_,rfl⟩
 rw[←l]
 have g1:o.get R=aZ [.int .u64 (n:Int)]:=by rw[l,H.aS]
 have n1:o.next=R+1:=by rw[l,H.bY,H.aU,Y]
 have f1:Fr h o:=by rw[l];exact ((Fr.refl h).new _).set om _
 clear l
 refine (Wg n o om).mono ?_
 rintro _ a4 ⟨rfl,c⟩
 rw[c,hm]
 simp(disch:=omega)only[go_sem,K,ei]
 refine aH (λk' r c=> ∃(i:Nat) (e:Array α) (x:Int),(∃g:Nat->V,r= [.sl S 0 N cp,aC a,aC b,aC n,.ptr R 0,.int .u64 (m:Int),aC i,g 7,g 8,g 9,g 10])/\a<=i/\i<=a+q*2+2/\cE c S N e/\PermIn a b d e/\c.get R=aZ [.int .u64 x]/\R<c.next/\Fx (· =S) h c/\k'=a+q*2+2-i) (a+q*2+2-(a+q*2- 1))
  ⟨a+q*2- 1,d,_,aB rfl,om,om,A.fr f1,permIn_refl d a b,g1,om,Fx.of f1,rfl⟩ ?_
 clear A g1 n1 f1 c o
 rintro k' r o ⟨i,e,x,⟨g,rfl⟩,u,a5,A,hP,gR,nR,F,rfl⟩
 by_cases G:(i:Int)<=((a+q*2+1:Nat):Int)
 case neg=>
  have Q:=bH G;simp(disch:=omega)only[go_sem,K,ej,Q];exact⟨e,A,hP,F⟩
 have Q:=bP G
 simp(disch:=omega)only[go_sem,K,ej,Q]
 refine (Wd R x o gR nR).mono ?_
 rintro _ J ⟨y,rfl,t,F2⟩
 have p:=A.Uc F2 P a0
 obtain⟨w,hw,a3⟩:=Uo y (m- 1) om
 have em:(m:Int)- 1=((m- 1:Nat):Int):=om
 have sz:=p.size
 have v:Fx (· =S) h J:=⟨mT F.next F2.next,λid h3 h4=>(F2.get id (iW h3 F.next) (λe=>by have:id=R:=e;omega)).trans (F.get id h3 h4)⟩
 have s:R<J.next:=iW nR F2.next
 by_cases B:(n:Int)<=(w:Int)
 ·have e2:=bP B
  have e3:(w:Int)-(n:Int)=((w-n:Nat):Int):=om
  have U:(a:Int)+((w-n:Nat):Int)=((a+(w-n):Nat):Int):=om
  have c1:=p.rd (i:=i) om
  have L:=p.rd (i:=a+(w-n)) om
  simp(disch:=omega)only[go_sem,em,dK (n:=((m- 1:Nat):Int)) om om,hw,e2,e3,U,c1,L,p.get,bB,aY]
  have W:=p.swap (i:=i) (j:=a+(w-n)) (nx:=J.next+20) om rfl
  rw[eJ i]
  refine⟨a+q*2+2-(i+1),om,i+1,_,y,aB rfl,om,om,W.1,permIn_trans _ _ _ a b hP (swp_permIn e a b i (a+(w-n)) u om om om om),?_,iW s W.2.next,dC v W.2,rfl⟩
  exact t
 ·have e2:=bH B
  have U:(a:Int)+(w:Int)=((a+w:Nat):Int):=om
  have c1:=p.rd (i:=i) om
  have L:=p.rd (i:=a+w) om
  simp(disch:=omega)only[go_sem,em,dK (n:=((m- 1:Nat):Int)) om om,hw,e2,U,c1,L,p.get,bB,aY]
  have W:=p.swap (i:=i) (j:=a+w) (nx:=J.next+20) om rfl
  rw[eJ i]
  refine⟨a+q*2+2-(i+1),om,i+1,_,y,aB rfl,om,om,W.1,permIn_trans _ _ _ a b hP (swp_permIn e a b i (a+w) u om om om om),?_,iW s W.2.next,dC v W.2,rfl⟩
  exact t
structure Wn (h h':H)(R:Nat):Prop where
 get: ∃s,h'.get R=aZ [aC s]
 fx:Fx (· =R) h h'
theorem Wn.trans {a b c:H}{R:Nat}(x:Wn a b R)(y:Wn b c R):Wn a c R:=⟨y.get,x.fx.trans y.fx λ_ _ h=>h⟩
theorem jU  {α:Type}[Inhabited α][O:aN α](h:H)(S N a b R:Nat)(d:Array α)(q:lI)(B:N<1000000)(A:cE h S N d)(x:a<N)(F:b<N)(y:R≠S)(m:R<h.next)(p:aN.b0 α<=R)(s:Int)(o:h.get R=aZ [aC s]):
  Ev T 264 [.sl S 0 N q,aC a,aC b,.ptr R 0,.fn (aN.f α) [] []] h (λv h'=>(v= .tup [aC a,aC b]∨v= .tup [aC b,aC a])/\Wn h h' R):=by
 refine cV iD rfl ?_
 have u:=A.rd (i:=a) om
 have r:=A.rd (i:=b) om
 simp(disch:=omega)only[go_sem,iD,aD,u,r]
 refine (dG A (i:=b) (j:=a) om om _ om).mono ?_
 rintro _ e ⟨z,rfl,n,k⟩
 have l:Fr h e:=Fr.trans ((Fr.refl h).bA om) k
 have c:e.get R=aZ [aC s]:=by rw[l.get R m];exact o
 cases hl:aN.lt d[b]! d[a]! with
 |false=>
  simp(disch:=omega)only[go_sem,n,hl];exact⟨.inl trivial,⟨s,c⟩,Fx.of l⟩
 |true=>
  have cR:e.cell R 0=some (aC s):=by rw[H.aF c];rfl
  have t: ∀(w:Int) (g:H),dX (aZ [aC s]) g R 0 [aC w]=some (g.set R (aZ [aC w])):=λw g=>bN (by simp) g R _
  simp(disch:=omega)only[go_sem,n,hl,cR,c,t];exact⟨.inr trivial,⟨_,by rw[H.aS]⟩,(Fx.of (W:=(· =R)) l).trans (Fx.set e (W:=(· =R)) rfl _) (λ_ _ h=>h)⟩
theorem oD  {α:Type}[Inhabited α][O:aN α](h:H)(S N a b c R:Nat)(d:Array α)(n:lI)(w:N<1000000)(A:cE h S N d)(q:a<N)(B:b<N)(P:c<N)(g:R≠S)(j:R<h.next)(e:aN.b0 α<=R)(s:Int)(gR:h.get R=aZ [aC s]):
  Ev T 262 [.sl S 0 N n,aC a,aC b,aC c,.ptr R 0,.fn (aN.f α) [] []] h (λv h'=>(∃m,v= aC (m:Nat)/\(m=a∨m=b∨m=c))/\Wn h h' R):=by
 refine cV iF rfl ?_
 simp(disch:=omega)only[go_sem,iF,aD]
 refine (jU h S N a b R d n w A q B g j e s gR).mono ?_
 rintro v1 h1 ⟨r,l⟩
 obtain⟨F,k,rfl,p,i,L⟩: ∃x y,v1= .tup [aC (x:Nat),aC (y:Nat)]/\x<N/\y<N/\((x=a∨x=b)/\(y=a∨y=b)):=by
  rcases r with rfl|rfl
  ·exact⟨a,b,rfl,q,B,.inl rfl,.inr rfl⟩
  ·exact⟨b,a,rfl,B,q,.inr rfl,.inl rfl⟩
 have J:=A.Uc l.fx g e
 obtain⟨Y,U⟩:=l.get
 have K:=iW j l.fx.next
 simp(disch:=omega)only[go_sem]
 refine (jU h1 S N k c R d n w J i P g K e Y U).mono ?_
 rintro v2 W ⟨t,o⟩
 obtain⟨Q,y2,rfl,u,G⟩: ∃x y,v2= .tup [aC (x:Nat),aC (y:Nat)]/\x<N/\(x=k∨x=c):=by
  rcases t with rfl|rfl
  ·exact⟨k,c,rfl,i,.inl rfl⟩
  ·exact⟨c,k,rfl,P,.inr rfl⟩
 have A2:=J.Uc o.fx g e
 obtain⟨Z,g2⟩:=o.get
 have n2:=iW K o.fx.next
 simp(disch:=omega)only[go_sem]
 refine (jU W S N F Q R d n w A2 p u g n2 e Z g2).mono ?_
 rintro v3 h3 ⟨z,C3⟩
 have C:=(l.trans o).trans C3
 rcases z with rfl|rfl
 ·simp(disch:=omega)only[go_sem]
  exact⟨⟨Q,rfl,om⟩,C⟩
 ·simp(disch:=omega)only[go_sem]
  exact⟨⟨F,rfl,om⟩,C⟩
theorem iT  {α:Type}[Inhabited α][O:aN α](h:H)(S N a R:Nat)(d:Array α)(e:lI)(l:N<1000000)(A:cE h S N d)(q:0<a)(p:a+1<N)(g:R≠S)(b:R<h.next)(c:aN.b0 α<=R)(s:Int)(k:h.get R=aZ [aC s]):
  Ev T 261 [.sl S 0 N e,aC a,.ptr R 0,.fn (aN.f α) [] []] h (λv h'=>(∃m,v= aC (m:Nat)/\(m=a- 1∨m=a∨m=a+1))/\Wn h h' R):=by
 refine cV fF rfl ?_
 have n:(a:Int)- 1=((a- 1:Nat):Int):=om
 have j:(a:Int)+1=((a+1:Nat):Int):=om
 simp(disch:=omega)only[go_sem,fF,aD,n,j]
 refine (oD h S N (a- 1) a (a+1) R d e l A om om om g b c s k).mono ?_
 rintro _ o ⟨⟨m,rfl,i⟩,C⟩
 simp(disch:=omega)only[go_sem]
 exact⟨⟨m,rfl,i⟩,C⟩
theorem Ar  {α:Type}[Inhabited α][O:aN α](h:H)(S N a b:Nat)(d:Array α)(G:lI)(Z:N<1000000)(A:cE h S N d)(hb:b<=N)(a1:a<b):
  Ev T 250 [.sl S 0 N G,aC a,aC b,.fn (aN.f α) [] []] h (λv h'=> ∃(p:Nat) (t:Int),v= .tup [aC p,aC t]/\a<=p/\p<b/\Fr h h'):=by
 refine cV cL rfl ?_
 obtain⟨n,hn⟩:=exI (b-a)
 have en:(b:Int)-(a:Int)=(n:Int):=om
 have Y:=Dh n (k:=4) (m:=4) rfl
 obtain⟨q,hq⟩:=exI (n/4)
 rw[hq] at Y
 have ei:(a:Int)+(q:Int)*1=((a+q:Nat):Int):=om
 have ej:(a:Int)+(q:Int)*2=((a+q*2:Nat):Int):=om
 have ek:(a:Int)+(q:Int)*3=((a+q*3:Nat):Int):=om
 obtain⟨R,P⟩:=exI h.next
 have c:R≠S:=by have:=A.lt;omega
 have g:aN.b0 α<=R:=by have:=O.bn _ A.base;omega
 obtain⟨r,l⟩: ∃r,r=h.new (.cells false [aC 0]):=⟨_,rfl⟩
 have g1:r.get R=aZ [aC 0]:=by rw[l,←P,H.aL]
 have n1:r.next=R+1:=by rw[l,H.aU,P]
 have f1:Fr h r:=by rw[l];exact (Fr.refl h).new _
 have A1:=A.fr f1
 have L: ∀(p:Nat) (o:H),a<=p->p<b->Fx (· =R) r o->a<=p/\p<b/\Fr h o:=λp o x1 x2 x3=>⟨x1,x2,mT f1.next x3.next,λid a0=>(x3.get id om (λe=>by have:id=R:=e;omega)).trans (f1.get id a0)⟩
 by_cases h8:(8:Int)<=(n:Int)
 case neg=>
  have W:=bH h8;simp(disch:=omega)only[go_sem,cL,aD,en,Y,ei,ej,ek,W];rw[←l];have cR:r.cell R 0=some (aC 0):=by rw[H.aF g1];rfl
  simp(disch:=omega)only[go_sem,P,cR];refine aW (λ_=>?_) (λhc=>(hc (by trivial)).elim);simp(disch:=omega)only[go_sem];exact⟨a+q*2,1,rfl,L _ _ om om (Fx.refl _ _)⟩
 have W:=bP h8
 have u: ∀(i j k:Nat) (o:H) (J:Int),a<=i->i<b->a<=j->j<b->a<=k->k<b->cE o S N d->o.get R=aZ [aC J]->R<o.next->Fx (· =R) r o->
   Ev T 262 [.sl S 0 N G,aC i,aC j,aC k,.ptr R 0,.fn (aN.f α) [] []] o (λv h'=> ∃p s,v= aC (p:Nat)/\a<=p/\p<b/\h'.get R=aZ [aC s]/\Fr h h'):=by
  intro i j k o J i1 i2 j1 j2 k1 k2 U g2 n2 F2
  refine (oD o S N i j k R d G Z U om om om c n2 g J g2).mono ?_
  rintro _ x ⟨⟨p,rfl,hp⟩,⟨s,w⟩,K⟩
  exact⟨p,s,rfl,om,om,w,(L p x om om (F2.trans K λ_ _ h=>h)).2.2⟩
 by_cases Q:(50:Int)<=(n:Int)
 case neg=>
  have y:=bH Q;simp(disch:=omega)only[go_sem,cL,aD,en,Y,ei,ej,ek,W,y];rw[←l];simp(disch:=omega)only[go_sem,P];refine (u (a+q) (a+q*2) (a+q*3) r 0 om om om om om om A1 g1 om (Fx.refl _ _)).mono ?_;rintro _ x ⟨p,s,rfl,z,B,w,F⟩;have cR:x.cell R 0=some (aC s):=by rw[H.aF w];rfl
  simp(disch:=omega)only[go_sem,cR];refine aW (λ_=>?_) (λ_=>?_)
  ·simp(disch:=omega)only[go_sem]
   exact⟨p,1,rfl,z,B,F⟩
  ·simp(disch:=omega)only[go_sem]
   refine aW (λ_=>?_) (λ_=>?_)
   ·simp(disch:=omega)only[go_sem]
    exact⟨p,2,rfl,z,B,F⟩
   ·simp(disch:=omega)only[go_sem]
    exact⟨p,0,rfl,z,B,F⟩
 have y:=bP Q
 simp(disch:=omega)only[go_sem,cL,aD,en,Y,ei,ej,ek,W,y]
 rw[←l]
 simp(disch:=omega)only[go_sem,P]
 refine (iT r S N (a+q) R d G Z A1 om om c om g 0 g1).mono ?_
 rintro _ o ⟨⟨i,rfl,hi⟩,⟨J,g2⟩,F2⟩
 have U:=A1.Uc F2 c g
 have n2:=F2.next
 simp(disch:=omega)only[go_sem]
 refine (iT o S N (a+q*2) R d G Z U om om c om g J g2).mono ?_
 rintro _ x ⟨⟨j,rfl,hj⟩,⟨s,w⟩,K⟩
 have A3:=U.Uc K c g
 have n3:=K.next
 simp(disch:=omega)only[go_sem]
 refine (iT x S N (a+q*3) R d G Z A3 om om c om g s w).mono ?_
 rintro _ h4 ⟨⟨k,rfl,hk⟩,⟨s4,g4⟩,F4⟩
 have A4:=A3.Uc F4 c g
 have n4:=F4.next
 simp(disch:=omega)only[go_sem]
 refine (u i j k h4 s4 om om om om om om A4 g4 om ((F2.trans K λ_ _ h=>h).trans F4 λ_ _ h=>h)).mono ?_
 rintro _ x ⟨p,s,rfl,z,B,w,F⟩
 have cR:x.cell R 0=some (aC s):=by rw[H.aF w];rfl
 simp(disch:=omega)only[go_sem,cR]
 refine aW (λ_=>?_) (λ_=>?_)
 ·simp(disch:=omega)only[go_sem]
  exact⟨p,1,rfl,z,B,F⟩
 ·simp(disch:=omega)only[go_sem]
  refine aW (λ_=>?_) (λ_=>?_)
  ·simp(disch:=omega)only[go_sem]
   exact⟨p,2,rfl,z,B,F⟩
  ·simp(disch:=omega)only[go_sem]
   exact⟨p,0,rfl,z,B,F⟩
section
variable {j b:Nat}
theorem GU {α:Type}[Inhabited α]{lt:α->α->Bool}{d:Array α}(h:lt d[j+1]! d[j]! =true):shiftDown lt (j+1) d=shiftDown lt j (swp d (j+1) j):=by rw[shiftDown,bI (by simp [h])]
theorem EK {α:Type}[Inhabited α]{lt:α->α->Bool}{d:Array α}(h:lt d[j+1]! d[j]! =false):shiftDown lt (j+1) d=d:=by rw[shiftDown,bF (by simp [h])]
theorem EY {α:Type}[Inhabited α]{lt:α->α->Bool}{d:Array α}(a:j<b)(h:lt d[j]! d[j- 1]! =true):shiftUp lt b j d=shiftUp lt b (j+1) (swp d j (j- 1)):=by rw[shiftUp,bF a,bI (by simp [h])]
theorem FZ {α:Type}[Inhabited α]{lt:α->α->Bool}{d:Array α}(a:j<b)(h:lt d[j]! d[j- 1]! =false):shiftUp lt b j d=d:=by rw[shiftUp,bF a,bF (by simp [h])]
theorem EH {α:Type}[Inhabited α]{lt:α->α->Bool}{i:Nat}{d:Array α}(hi:i<b)(h:lt d[i]! d[i- 1]! =false):scanSorted lt d b i=scanSorted lt d b (i+1):=by rw[scanSorted,bF (by simp [h,hi])]
theorem Nn {α:Type}[Inhabited α]{lt:α->α->Bool}{i:Nat}{d:Array α}(h: ¬(i<b/\lt d[i]! d[i- 1]! =false)):scanSorted lt d b i=i:=by rw[scanSorted,bI (by simpa using h)]
theorem Lq {α:Type}[Inhabited α](lt:α->α->Bool)(a b s i:Nat)(d:Array α):partialIns lt a b (s+1) i d=if scanSorted lt d b i=b then (d,true) else if b-a<50 then (d,false) else
  partialIns lt a b s (scanSorted lt d b i) (if b-scanSorted lt d b i≥2 then shiftUp lt b (scanSorted lt d b i+1) (if scanSorted lt d b i-a≥2 then shiftDown lt (scanSorted lt d b i- 1) (swp d (scanSorted lt d b i) (scanSorted lt d b i- 1)) else swp d (scanSorted lt d b i) (scanSorted lt d b i- 1)) else
   (if scanSorted lt d b i-a≥2 then shiftDown lt (scanSorted lt d b i- 1) (swp d (scanSorted lt d b i) (scanSorted lt d b i- 1)) else swp d (scanSorted lt d b i) (scanSorted lt d b i- 1))):=by rw[partialIns]
theorem tB {α:Type}[Inhabited α][O:aN α](h:H)(S N a b:Nat)(d:Array α)(cp:lI)(hN:N<1000000)(A:cE h S N d)(hb:b<=N)(b4:a<b):
  Ev T 252 [.sl S 0 N cp,aC a,aC b,.fn (aN.f α) [] []] h (λv h'=>v= .bool (partialInsertionSort aN.lt d a b).2/\cE h' S N (partialInsertionSort aN.lt d a b).1/\Fx (· =S) h h'):=by
 refine cV dU rfl ?_
 simp(disch:=omega)only[go_sem,dU,aD]
 rw[eJ a]
 refine aH (λk c t=> ∃(s i:Nat) (e:Array α),(∃g:Nat->V,c= [.sl S 0 N cp,aC a,aC b,.fn (aN.f α) [] [],g 4,aC i,aC (5-(s:Int)),g 7,g 8,g 9,g 10,g 11,g 12,g 13,g 14,g 15,g 16,g 17,g 18])/\s<=5/\a<i/\i<=b/\cE t S N e/\partialIns aN.lt a b s i e=partialInsertionSort aN.lt d a b/\Fx (· =S) h t/\k=s) 5
  ⟨5,a+1,d,aB rfl,om,om,om,A,rfl,Fx.refl _ h,rfl⟩ ?_
 clear A
 rintro k c Z ⟨s,i,e,⟨g,rfl⟩,hs,a9,b3,A,l,F,hk⟩
 subst hk
 by_cases Q:(5:Int)-(k:Int)<5
 case neg=>
  have n:=bH Q;obtain rfl:k=0:=om
  simp(disch:=omega)only[go_sem,n];have l:(e,false)=partialInsertionSort aN.lt d a b:=l;rw[←l];exact⟨rfl,A,F⟩
 have n:=bP Q
 obtain⟨s,rfl⟩: ∃s,k=s+1:=⟨k- 1,om⟩
 simp(disch:=omega)only[go_sem,n]
 rw[Lq] at l
 refine aH (λk c t=> ∃(m:Nat),(∃g:Nat->V,c= [.sl S 0 N cp,aC a,aC b,.fn (aN.f α) [] [],g 4,aC m,aC (5-((s+1:Nat):Int)),g 7,g 8,g 9,g 10,g 11,g 12,g 13,g 14,g 15,g 16,g 17,g 18])/\a<m/\m<=b/\cE t S N e/\scanSorted aN.lt e b m=scanSorted aN.lt e b i/\Fx (· =S) h t/\k=b-m) (b-i)
  ⟨i,aB rfl,a9,b3,A,rfl,F,rfl⟩ ?_
 clear A F Q n
 rintro k c y ⟨m,⟨g,rfl⟩,b9,b7,A,hS,F,rfl⟩
 have sz:=A.size
 have B:(m:Int)- 1=((m- 1:Nat):Int):=om
 have a3:(m:Int)+1=((m+1:Nat):Int):=om
 by_cases a4:(m:Int)<(b:Int)
 case neg=>
  have n:=bH a4;have em:m=b:=om
  rw[Nn om] at hS;rw[←hS,bF em] at l;have e2:decide ((m:Int)=(b:Int))=true:=bP om;simp(disch:=omega)only[go_sem,n,e2];rw[←l];exact⟨rfl,A.fr ((Fr.refl y).bA om),dC F (Fx.of ((Fr.refl y).bA om))⟩
 have n:=bP a4
 have r:=A.rd (i:=m) om
 have o:=A.rd (i:=m- 1) om
 simp(disch:=omega)only[go_sem,n,B,r,o]
 refine (dG A (i:=m) (j:=m- 1) om om _ om).mono ?_
 rintro _ h3 ⟨z,rfl,w,a2⟩
 have K:Fr y h3:=Fr.trans ((Fr.refl y).bA om) a2
 have L:=A.fr K
 have F3:=dC F (Fx.of K)
 cases hl:aN.lt e[m]! e[m- 1]! with
 |false=>
  rw[EH om hl] at hS;simp(disch:=omega)only[go_sem,w,hl,a3];exact⟨b-(m+1),om,m+1,aB rfl,om,om,L,hS,F3,rfl⟩
 |true=>
  rw[Nn (by rw[hl];simp)] at hS;rw[←hS,bI om] at l;have e2:decide ((m:Int)=(b:Int))=false:=bH om
  by_cases a6:(b:Int)-(a:Int)<50
  ·have J:=bP a6
   rw[bF om] at l;simp(disch:=omega)only[go_sem,w,hl,e2,J];rw[←l];exact⟨rfl,L,F3⟩
  have J:=bH a6;rw[bI om] at l;have r:=L.rd (i:=m) om;have o:=L.rd (i:=m- 1) om;simp(disch:=omega)only[go_sem,w,hl,e2,J,B,r,o,L.get,bB,aY];have W:=L.swap (i:=m) (j:=m- 1) (nx:=h3.next+18) om rfl
  obtain⟨h4,a5⟩: ∃h4,h4=((H.mk h3.tr (h3.next+18)).set S (aZ (flat (e.setIfInBounds m e[m- 1]!).toList))).set S (aZ (flat ((e.setIfInBounds m e[m- 1]!).setIfInBounds (m- 1) e[m]!).toList)):=⟨_,rfl⟩
  rw[←a5] at W ⊢;obtain⟨A4,F4⟩:=W;have R:=dC F3 F4;clear a5 F4 L F3 K a2 r o;obtain⟨e4,a7⟩:=exI (swp e m (m- 1));rw[a7] at A4 l;refine jT (λvs U=> ∃e5,(∃g:Nat->V,vs= [.sl S 0 N cp,aC a,aC b,.fn (aN.f α) [] [],g 4,aC m,aC (5-((s+1:Nat):Int)),g 7,g 8,g 9,g 10,g 11,g 12,g 13,g 14,g 15,g 16,g 17,g 18])/\cE U S N e5/\e5=(if m-a≥2 then shiftDown aN.lt (m- 1) e4 else e4)/\Fx (· =S) h U) ?_ ?_
  ·refine aW (λy=>?_) (λy=>?_)
   ·simp(disch:=omega)only[go_sem,B]
    refine aH (λk c t=> ∃(j:Nat) (x:Array α),(∃g:Nat->V,c= [.sl S 0 N cp,aC a,aC b,.fn (aN.f α) [] [],g 4,aC m,aC (5-((s+1:Nat):Int)),aC j,g 8,g 9,g 10,g 11,g 12,g 13,g 14,g 15,g 16,g 17,g 18])/\j<b/\cE t S N x/\shiftDown aN.lt j x=shiftDown aN.lt (m- 1) e4/\Fx (· =S) h t/\k=j) (m- 1)
     ⟨m- 1,e4,aB rfl,om,A4,rfl,R,rfl⟩ ?_
    rintro k c U ⟨j,x,⟨g,rfl⟩,hj,u,G,F5,hk⟩;subst hk;have b8:=u.size
    by_cases Z:(1:Int)<=(k:Int)
    ·have n:=bP Z
     obtain⟨q,rfl⟩: ∃q,k=q+1:=⟨k- 1,om⟩
     have a1:((q+1:Nat):Int)- 1=(q:Int):=om
     have r:=u.rd (i:=q+1) om;have o:=u.rd (i:=q) om;simp(disch:=omega)only[go_sem,n,a1,r,o];refine (dG u (i:=q+1) (j:=q) om om _ om).mono ?_;rintro _ h6 ⟨z,rfl,w,b0⟩;have f6:Fr U h6:=Fr.trans ((Fr.refl U).bA om) b0;have p:=u.fr f6;have F6:=dC F5 (Fx.of f6)
     cases hl:aN.lt x[q+1]! x[q]! with
     |false=>
      rw[EK hl] at G;simp(disch:=omega)only[go_sem,w,hl];exact .inl ⟨x,aB rfl,p,by rw[bF om,←G],F6⟩
     |true=>
      rw[GU hl] at G;have r:=p.rd (i:=q+1) om;have o:=p.rd (i:=q) om;simp(disch:=omega)only[go_sem,w,hl,a1,r,o,p.get,bB,aY];have W:=p.swap (i:=q+1) (j:=q) (nx:=h6.next+18) om rfl;exact⟨q,om,q,_,aB rfl,om,W.1,G,dC F6 W.2,rfl⟩
    ·have n:=bH Z
     obtain rfl:k=0:=om
     simp(disch:=omega)only[go_sem,n];have G:x=shiftDown aN.lt (m- 1) e4:=G;exact .inl ⟨x,aB rfl,u,by rw[bF om,←G],F5⟩
   ·simp(disch:=omega)only[go_sem]
    exact .inl ⟨e4,aB rfl,A4,by rw[bI om],R⟩
  ·rintro c U ⟨e5,⟨g,rfl⟩,u,a0,F5⟩
   rw[←a0] at l;clear A4 R a0 a7;simp(disch:=omega)only[go_sem];have P:(5:Int)-((s+1:Nat):Int)+1=5-(s:Int):=om
   refine aW (λy=>?_) (λy=>?_)
   ·rw[bF om] at l
    simp(disch:=omega)only[go_sem,a3];refine aH (λk c t=> ∃(j:Nat) (x:Array α),(∃g:Nat->V,c= [.sl S 0 N cp,aC a,aC b,.fn (aN.f α) [] [],g 4,aC m,aC (5-((s+1:Nat):Int)),g 7,aC j,g 9,g 10,g 11,g 12,g 13,g 14,g 15,g 16,g 17,g 18])/\0<j/\j<=b/\cE t S N x/\shiftUp aN.lt b j x=shiftUp aN.lt b (m+1) e5/\Fx (· =S) h t/\k=b-j) (b-(m+1))
     ⟨m+1,e5,aB rfl,om,om,u,rfl,F5,rfl⟩ ?_
    rintro k c h6 ⟨j,x,⟨g,rfl⟩,b6,hj,p,Y,F6,rfl⟩;have b5:=p.size
    by_cases Z:(j:Int)<(b:Int)
    ·have n:=bP Z
     have a8:(j:Int)- 1=((j- 1:Nat):Int):=om
     have b2:(j:Int)+1=((j+1:Nat):Int):=om
     have r:=p.rd (i:=j) om;have o:=p.rd (i:=j- 1) om;simp(disch:=omega)only[go_sem,n,a8,r,o];refine (dG p (i:=j) (j:=j- 1) om om _ om).mono ?_;rintro _ h7 ⟨z,rfl,w,b1⟩;have f7:Fr h6 h7:=Fr.trans ((Fr.refl h6).bA om) b1;have A7:=p.fr f7;have F7:=dC F6 (Fx.of f7)
     cases hl:aN.lt x[j]! x[j- 1]! with
     |false=>
      rw[FZ om hl] at Y;rw[←Y] at l;simp(disch:=omega)only[go_sem,w,hl,P];exact⟨s,om,s,m,x,aB rfl,om,om,om,A7,l,F7,rfl⟩
     |true=>
      rw[EY om hl] at Y;have r:=A7.rd (i:=j) om;have o:=A7.rd (i:=j- 1) om;simp(disch:=omega)only[go_sem,w,hl,a8,b2,r,o,A7.get,bB,aY];have W:=A7.swap (i:=j) (j:=j- 1) (nx:=h7.next+18) om rfl;exact⟨b-(j+1),om,j+1,_,aB rfl,om,om,W.1,Y,dC F7 W.2,rfl⟩
    ·have n:=bH Z
     rw[shiftUp,bI om] at Y;rw[←Y] at l;simp(disch:=omega)only[go_sem,n,P];exact⟨s,om,s,m,x,aB rfl,om,om,om,p,l,F6,rfl⟩
   ·rw[bI om] at l
    simp(disch:=omega)only[go_sem,P];exact⟨s,om,s,m,e5,aB rfl,om,om,om,u,l,F5,rfl⟩
end
section
variable {j i:Nat}
theorem yY {α:Type}[Inhabited α]{p:α->Bool}{d:Array α}(a:i<=j)(h2:p d[i]! =true):scanUp p d j i=scanUp p d j (i+1):=by rw[scanUp,bF (by simp [a,h2])]
theorem lK {α:Type}[Inhabited α]{p:α->Bool}{d:Array α}(h: ¬(i<=j/\p d[i]! =true)):scanUp p d j i=i:=by rw[scanUp,bI (by simpa using h)]
theorem Dc {α:Type}[Inhabited α]{p:α->Bool}{d:Array α}(a:i<=j+1)(h2:p d[j+1]! =true):scanDown p d i (j+1)=scanDown p d i j:=by rw[scanDown,bF (by simp [a,h2])]
theorem oP {α:Type}[Inhabited α]{p:α->Bool}{d:Array α}(h: ¬(i<=j/\p d[j]! =true)):scanDown p d i j=j:=by
 cases j with
 |zero=>rfl
 |succ j=>rw[scanDown,bI (by simpa using h)]
theorem kW {α:Type}[Inhabited α](p:α->Bool)(d:Array α)(j i:Nat):scanUp p d j i<=max i (j+1):=by
 obtain⟨n,a⟩:=exI (j+1-i)
 induction n generalizing i with
 |zero=>rw[lK (λh=>by have:=h.1;omega)];omega
 |succ n ih=>
  by_cases h:i<=j/\p d[i]! =true
  ·rw[yY h.1 h.2]
   have:=ih (i+1) om;omega
  ·rw[lK h];omega
theorem pG {α:Type}[Inhabited α][O:aN α](h:H)(S N a b pv:Nat)(d:Array α)(cp:lI)(hN:N<1000000)(A:cE h S N d)(hb:b<=N)(c0:a<=pv)(c4:pv<b):
  Ev T 254 [.sl S 0 N cp,aC a,aC b,aC pv,.fn (aN.f α) [] []] h (λv h'=>v= .tup [aC ((partition aN.lt d a b pv).1:Nat),.bool (partition aN.lt d a b pv).2.1]/\cE h' S N (partition aN.lt d a b pv).2.2/\Fx (· =S) h h'):=by
 refine cV gE rfl ?_
 have sz:=A.size
 have Q:=A.rd (i:=a) om
 have L:=A.rd (i:=pv) om
 simp(disch:=omega)only[go_sem,gE,aD,Q,L,A.get,bB,aY]
 have W:=A.swap (i:=a) (j:=pv) (nx:=h.next+16) om rfl
 obtain⟨h1,b0⟩: ∃h1,h1=((H.mk h.tr (h.next+16)).set S (aZ (flat (d.setIfInBounds a d[pv]!).toList))).set S (aZ (flat ((d.setIfInBounds a d[pv]!).setIfInBounds pv d[a]!).toList)):=⟨_,rfl⟩
 rw[←b0] at W ⊢
 obtain⟨A1,F1⟩:=W
 obtain⟨e,he⟩:=exI (swp d a pv)
 rw[he] at A1
 clear b0 Q L A
 have eb:(b:Int)- 1=((b- 1:Nat):Int):=om
 have ea:(a:Int)+1=((a+1:Nat):Int):=om
 have hP:partition aN.lt d a b pv=if scanUp (λx=>aN.lt x e[a]!) e (b- 1) (a+1)>scanDown (λx=>!aN.lt x e[a]!) e (scanUp (λx=>aN.lt x e[a]!) e (b- 1) (a+1)) (b- 1) then
   (scanDown (λx=>!aN.lt x e[a]!) e (scanUp (λx=>aN.lt x e[a]!) e (b- 1) (a+1)) (b- 1),true,swp e (scanDown (λx=>!aN.lt x e[a]!) e (scanUp (λx=>aN.lt x e[a]!) e (b- 1) (a+1)) (b- 1)) a) else
   ((partLoop aN.lt a (scanUp (λx=>aN.lt x e[a]!) e (b- 1) (a+1)+1) (scanDown (λx=>!aN.lt x e[a]!) e (scanUp (λx=>aN.lt x e[a]!) e (b- 1) (a+1)) (b- 1)- 1) (swp e (scanUp (λx=>aN.lt x e[a]!) e (b- 1) (a+1)) (scanDown (λx=>!aN.lt x e[a]!) e (scanUp (λx=>aN.lt x e[a]!) e (b- 1) (a+1)) (b- 1)))).1,false,
    swp (partLoop aN.lt a (scanUp (λx=>aN.lt x e[a]!) e (b- 1) (a+1)+1) (scanDown (λx=>!aN.lt x e[a]!) e (scanUp (λx=>aN.lt x e[a]!) e (b- 1) (a+1)) (b- 1)- 1) (swp e (scanUp (λx=>aN.lt x e[a]!) e (b- 1) (a+1)) (scanDown (λx=>!aN.lt x e[a]!) e (scanUp (λx=>aN.lt x e[a]!) e (b- 1) (a+1)) (b- 1)))).2 (partLoop aN.lt a (scanUp (λx=>aN.lt x e[a]!) e (b- 1) (a+1)+1) (scanDown (λx=>!aN.lt x e[a]!) e (scanUp (λx=>aN.lt x e[a]!) e (b- 1) (a+1)) (b- 1)- 1) (swp e (scanUp (λx=>aN.lt x e[a]!) e (b- 1) (a+1)) (scanDown (λx=>!aN.lt x e[a]!) e (scanUp (λx=>aN.lt x e[a]!) e (b- 1) (a+1)) (b- 1)))).1 a):=by
  rw[←he];rfl
 obtain⟨R,b2⟩:=exI (partition aN.lt d a b pv)
 rw[b2] at hP
 rw[b2]
 simp(disch:=omega)only[go_sem,ea,eb]
 refine bJ (λP c=>(∃g:Nat->V,P= [.sl S 0 N cp,aC a,aC b,aC pv,.fn (aN.f α) [] [],g 5,g 6,aC (scanUp (λx=>aN.lt x e[a]!) e (b- 1) (a+1):Nat),aC ((b- 1):Nat),g 9,g 10,g 11,g 12,g 13,g 14])/\cE c S N e/\Fx (· =S) h c) ?_ ?_
 ·refine aH (λJ P c=> ∃(k:Nat),(∃g:Nat->V,P= [.sl S 0 N cp,aC a,aC b,aC pv,.fn (aN.f α) [] [],g 5,g 6,aC (k:Nat),aC ((b- 1):Nat),g 9,g 10,g 11,g 12,g 13,g 14])/\(a+1)<=k/\k<=N+2/\cE c S N e/\scanUp (λx=>aN.lt x e[a]!) e (b- 1) k=scanUp (λx=>aN.lt x e[a]!) e (b- 1) (a+1)/\Fx (· =S) h c/\J=(b- 1)+1-k) ((b- 1)+1-(a+1))
   ⟨(a+1),aB rfl,om,om,A1,rfl,F1,rfl⟩ ?_
  rintro J n K ⟨k,⟨g,rfl⟩,a8,b6,o,p,Fs,rfl⟩
  by_cases l:(k:Int)<=(((b- 1):Nat):Int)
  ·have s:decide ((k:Int)<=(((b- 1):Nat):Int))=true:=bP l
   have eK:(k:Int)+1=((k+1:Nat):Int):=om
   have a7:=o.size
   have Q:=o.rd (i:=k) om
   have L:=o.rd (i:=a) om
   simp(disch:=omega)only[go_sem,s,Q,L]
   refine (dG o (i:=k) (j:=a) om om _ om).mono ?_
   rintro _ U ⟨z,rfl,Z,y⟩
   have t:Fr K U:=Fr.trans ((Fr.refl K).bA om) y
   have F:=o.fr t
   have B:=dC Fs (Fx.of t)
   cases hl:aN.lt e[k]! e[a]! with
   |false=>
    rw[lK (λc=>by have:=c.2;simp [hl] at this)] at p;simp(disch:=omega)only[go_sem,Z,hl];exact⟨by rw[←p];exact aB rfl,F,B⟩
   |true=>
    rw[yY om (by simp [hl])] at p;simp(disch:=omega)only[go_sem,Z,hl,eK];exact⟨(b- 1)+1-(k+1),om,k+1,aB rfl,om,om,F,p,B,rfl⟩
  ·have s:decide ((k:Int)<=(((b- 1):Nat):Int))=false:=bH l
   rw[lK (λc=>l (by have:=c.1;omega))] at p
   simp(disch:=omega)only[go_sem,s]
   exact⟨by rw[←p];exact aB rfl,o.fr ((Fr.refl K).bA om),dC Fs (Fx.of ((Fr.refl K).bA om))⟩
 ·rintro n h9 ⟨⟨g,rfl⟩,A9,F9⟩
  have a5:=scanUp_ge (λx=>aN.lt x e[a]!) e (b- 1) (a+1)
  have a2:=kW (λx=>aN.lt x e[a]!) e (b- 1) (a+1)
  obtain⟨q,a1⟩: ∃x,scanUp (λx=>aN.lt x e[a]!) e (b- 1) (a+1)=x:=⟨_,rfl⟩
  rw[a1] at a5 a2
  rw[a1]
  simp(disch:=omega)only[go_sem]
  refine bJ (λP c=>(∃g:Nat->V,P= [.sl S 0 N cp,aC a,aC b,aC pv,.fn (aN.f α) [] [],g 5,g 6,aC (q:Nat),aC (scanDown (λx=>!aN.lt x e[a]!) e q (b- 1):Nat),g 9,g 10,g 11,g 12,g 13,g 14])/\cE c S N e/\Fx (· =S) h c) ?_ ?_
  ·refine aH (λJ P c=> ∃(k:Nat),(∃g:Nat->V,P= [.sl S 0 N cp,aC a,aC b,aC pv,.fn (aN.f α) [] [],g 5,g 6,aC (q:Nat),aC (k:Nat),g 9,g 10,g 11,g 12,g 13,g 14])/\k<=(b- 1)/\cE c S N e/\scanDown (λx=>!aN.lt x e[a]!) e q k=scanDown (λx=>!aN.lt x e[a]!) e q (b- 1)/\Fx (· =S) h c/\J=k) (b- 1)
    ⟨(b- 1),aB rfl,om,A9,rfl,F9,rfl⟩ ?_
   rintro J n K ⟨k,⟨g,rfl⟩,a8,o,p,Fs,a3⟩
   subst a3
   by_cases l:((q:Nat):Int)<=(J:Int)
   ·have s:=bP l
    obtain⟨k,rfl⟩: ∃k,J=k+1:=⟨J- 1,om⟩
    have eK:((k+1:Nat):Int)- 1=(k:Int):=om
    have a7:=o.size
    have Q:=o.rd (i:=k+1) om
    have L:=o.rd (i:=a) om
    simp(disch:=omega)only[go_sem,s,Q,L]
    refine (dG o (i:=k+1) (j:=a) om om _ om).mono ?_
    rintro _ U ⟨z,rfl,Z,y⟩
    have t:Fr K U:=Fr.trans ((Fr.refl K).bA om) y
    have F:=o.fr t
    have B:=dC Fs (Fx.of t)
    cases hl:aN.lt e[k+1]! e[a]! with
    |true=>
     rw[oP (λc=>by have:=c.2;simp [hl] at this)] at p;simp(disch:=omega)only[go_sem,Z,hl];exact⟨by rw[←p];exact aB rfl,F,B⟩
    |false=>
     rw[Dc om (by simp [hl])] at p;simp(disch:=omega)only[go_sem,Z,hl,eK];exact⟨k,om,k,aB rfl,om,F,p,B,rfl⟩
   ·have s:=bH l
    rw[oP (λc=>l (by have:=c.1;omega))] at p
    simp(disch:=omega)only[go_sem,s]
    exact⟨by rw[←p];exact aB rfl,o.fr ((Fr.refl K).bA om),dC Fs (Fx.of ((Fr.refl K).bA om))⟩
  ·rintro n h2 ⟨⟨g,rfl⟩,A2,F2⟩
   have a4:=scanDown_le (λx=>!aN.lt x e[a]!) e q (b- 1)
   obtain⟨G,a6⟩: ∃x,scanDown (λx=>!aN.lt x e[a]!) e q (b- 1)=x:=⟨_,rfl⟩
   rw[a6] at a4
   rw[a6]
   rw[a1,a6] at hP
   have b7:=A2.size
   by_cases Y:(G:Int)<(q:Int)
   ·have s:=bP Y
    rw[bF om] at hP
    have Q:=A2.rd (i:=G) om
    have L:=A2.rd (i:=a) om
    simp(disch:=omega)only[go_sem,s,Q,L,A2.get,bB,aY]
    have W:=A2.swap (i:=G) (j:=a) (nx:=h2.next+16) om rfl
    rw[hP]
    exact⟨rfl,W.1,dC F2 W.2⟩
   have s:=bH Y
   rw[bI om] at hP
   have Q:=A2.rd (i:=q) om
   have L:=A2.rd (i:=G) om
   simp(disch:=omega)only[go_sem,s,Q,L,A2.get,bB,aY]
   have W:=A2.swap (i:=q) (j:=G) (nx:=h2.next+16) om rfl
   obtain⟨h3,b3⟩: ∃h3,h3=((H.mk h2.tr (h2.next+16)).set S (aZ (flat (e.setIfInBounds q e[G]!).toList))).set S (aZ (flat ((e.setIfInBounds q e[G]!).setIfInBounds G e[q]!).toList)):=⟨_,rfl⟩
   rw[←b3] at W ⊢
   obtain⟨A3,b4⟩:=W
   have F3:=dC F2 b4
   have a9:q<=G:=om
   obtain⟨e0,b1⟩:=exI (swp e q G)
   rw[b1] at A3 hP
   clear b3 Q L A2 A9 F9 A1 F1 he Y s
   have ei:(q:Int)+1=((q+1:Nat):Int):=om
   have ej:(G:Int)- 1=((G- 1:Nat):Int):=om
   simp(disch:=omega)only[go_sem,ei,ej]
   refine bJ (λP c=>(∃g:Nat->V,P= [.sl S 0 N cp,aC a,aC b,aC pv,.fn (aN.f α) [] [],g 5,g 6,g 7,aC (((partLoop aN.lt a (q+1) (G- 1) e0).1:Nat):Int),g 9,g 10,g 11,g 12,g 13,g 14])/\cE c S N (partLoop aN.lt a (q+1) (G- 1) e0).2/\(partLoop aN.lt a (q+1) (G- 1) e0).1<b/\Fx (· =S) h c) ?_ ?_
   ·refine aH (λJ P c=> ∃(i j:Nat) (e:Array α),(∃g:Nat->V,P= [.sl S 0 N cp,aC a,aC b,aC pv,.fn (aN.f α) [] [],g 5,g 6,aC i,aC j,g 9,g 10,g 11,g 12,g 13,g 14])/\a<i/\i<=b+1/\j<b/\cE c S N e/\partLoop aN.lt a i j e=partLoop aN.lt a (q+1) (G- 1) e0/\Fx (· =S) h c/\J=j) (G- 1)
     ⟨q+1,G- 1,e0,aB rfl,om,om,om,A3,rfl,F3,rfl⟩ ?_
    obtain⟨R2,b5⟩:=exI (partLoop aN.lt a (q+1) (G- 1) e0)
    rw[b5]
    clear hP b5 a1 a6 b1 ei ej a4 a5 a2 F3 b4 A3 b7 h3 a9
    clear q G
    rintro J n h3 ⟨i,j,e,⟨g,rfl⟩,b8,a1,hj,A3,hL,F3,a3⟩
    rw[partLoop_eq] at hL
    simp(disch:=omega)only[go_sem]
    refine bJ (λP c=>(∃g:Nat->V,P= [.sl S 0 N cp,aC a,aC b,aC pv,.fn (aN.f α) [] [],g 5,g 6,aC (scanUp (λx=>aN.lt x e[a]!) e j i:Nat),aC (j:Nat),g 9,g 10,g 11,g 12,g 13,g 14])/\cE c S N e/\Fx (· =S) h c) ?_ ?_
    ·refine aH (λJ P c=> ∃(k:Nat),(∃g:Nat->V,P= [.sl S 0 N cp,aC a,aC b,aC pv,.fn (aN.f α) [] [],g 5,g 6,aC (k:Nat),aC (j:Nat),g 9,g 10,g 11,g 12,g 13,g 14])/\i<=k/\k<=N+2/\cE c S N e/\scanUp (λx=>aN.lt x e[a]!) e j k=scanUp (λx=>aN.lt x e[a]!) e j i/\Fx (· =S) h c/\J=j+1-k) (j+1-i)
      ⟨i,aB rfl,om,om,A3,rfl,F3,rfl⟩ ?_
     rintro J n K ⟨k,⟨g,rfl⟩,a8,b6,o,p,Fs,rfl⟩
     by_cases l:(k:Int)<=((j:Nat):Int)
     ·have s:=bP l
      have eK:(k:Int)+1=((k+1:Nat):Int):=om
      have a7:=o.size
      have Q:=o.rd (i:=k) om
      have L:=o.rd (i:=a) om
      simp(disch:=omega)only[go_sem,s,Q,L]
      refine (dG o (i:=k) (j:=a) om om _ om).mono ?_
      rintro _ U ⟨z,rfl,Z,y⟩
      have t:Fr K U:=Fr.trans ((Fr.refl K).bA om) y
      have F:=o.fr t
      have B:=dC Fs (Fx.of t)
      cases hl:aN.lt e[k]! e[a]! with
      |false=>
       rw[lK (λc=>by have:=c.2;simp [hl] at this)] at p;simp(disch:=omega)only[go_sem,Z,hl];exact⟨by rw[←p];exact aB rfl,F,B⟩
      |true=>
       rw[yY om (by simp [hl])] at p;simp(disch:=omega)only[go_sem,Z,hl,eK];exact⟨j+1-(k+1),om,k+1,aB rfl,om,om,F,p,B,rfl⟩
     ·have s:=bH l
      rw[lK (λc=>l (by have:=c.1;omega))] at p
      simp(disch:=omega)only[go_sem,s]
      exact⟨by rw[←p];exact aB rfl,o.fr ((Fr.refl K).bA om),dC Fs (Fx.of ((Fr.refl K).bA om))⟩
    ·rintro n h9 ⟨⟨g,rfl⟩,A9,F9⟩
     have a5:=scanUp_ge (λx=>aN.lt x e[a]!) e j i
     have a2:=kW (λx=>aN.lt x e[a]!) e j i
     obtain⟨u,hu⟩: ∃x,scanUp (λx=>aN.lt x e[a]!) e j i=x:=⟨_,rfl⟩
     rw[hu] at a5 a2
     rw[hu]
     simp(disch:=omega)only[go_sem]
     refine bJ (λP c=>(∃g:Nat->V,P= [.sl S 0 N cp,aC a,aC b,aC pv,.fn (aN.f α) [] [],g 5,g 6,aC (u:Nat),aC (scanDown (λx=>!aN.lt x e[a]!) e u j:Nat),g 9,g 10,g 11,g 12,g 13,g 14])/\cE c S N e/\Fx (· =S) h c) ?_ ?_
     ·refine aH (λJ P c=> ∃(k:Nat),(∃g:Nat->V,P= [.sl S 0 N cp,aC a,aC b,aC pv,.fn (aN.f α) [] [],g 5,g 6,aC (u:Nat),aC (k:Nat),g 9,g 10,g 11,g 12,g 13,g 14])/\k<=j/\cE c S N e/\scanDown (λx=>!aN.lt x e[a]!) e u k=scanDown (λx=>!aN.lt x e[a]!) e u j/\Fx (· =S) h c/\J=k) j
       ⟨j,aB rfl,om,A9,rfl,F9,rfl⟩ ?_
      rintro J n K ⟨k,⟨g,rfl⟩,a8,o,p,Fs,a3⟩
      subst a3
      by_cases l:((u:Nat):Int)<=(J:Int)
      ·have s:=bP l
       obtain⟨k,rfl⟩: ∃k,J=k+1:=⟨J- 1,om⟩
       have eK:((k+1:Nat):Int)- 1=(k:Int):=om
       have a7:=o.size
       have Q:=o.rd (i:=k+1) om
       have L:=o.rd (i:=a) om
       simp(disch:=omega)only[go_sem,s,Q,L]
       refine (dG o (i:=k+1) (j:=a) om om _ om).mono ?_
       rintro _ U ⟨z,rfl,Z,y⟩
       have t:Fr K U:=Fr.trans ((Fr.refl K).bA om) y
       have F:=o.fr t
       have B:=dC Fs (Fx.of t)
       cases hl:aN.lt e[k+1]! e[a]! with
       |true=>
        rw[oP (λc=>by have:=c.2;simp [hl] at this)] at p;simp(disch:=omega)only[go_sem,Z,hl];exact⟨by rw[←p];exact aB rfl,F,B⟩
       |false=>
        rw[Dc om (by simp [hl])] at p;simp(disch:=omega)only[go_sem,Z,hl,eK];exact⟨k,om,k,aB rfl,om,F,p,B,rfl⟩
      ·have s:=bH l
       rw[oP (λc=>l (by have:=c.1;omega))] at p
       simp(disch:=omega)only[go_sem,s]
       exact⟨by rw[←p];exact aB rfl,o.fr ((Fr.refl K).bA om),dC Fs (Fx.of ((Fr.refl K).bA om))⟩
     ·rintro n h4 ⟨⟨g,rfl⟩,A4,F4⟩
      have a4:=scanDown_le (λx=>!aN.lt x e[a]!) e u j
      obtain⟨w,hw⟩: ∃x,scanDown (λx=>!aN.lt x e[a]!) e u j=x:=⟨_,rfl⟩
      rw[hw] at a4
      rw[hw]
      rw[hu,hw] at hL
      have c3:=A4.size
      by_cases Y:(w:Int)<(u:Int)
      ·have s:=bP Y
       rw[bF om] at hL
       simp(disch:=omega)only[go_sem,s]
       rw[←hL]
       exact⟨aB rfl,A4,om,F4⟩
      have s:=bH Y
      rw[bI om] at hL
      have Q:=A4.rd (i:=u) om
      have L:=A4.rd (i:=w) om
      have ei:(u:Int)+1=((u+1:Nat):Int):=om
      have ej:(w:Int)- 1=((w- 1:Nat):Int):=om
      simp(disch:=omega)only[go_sem,s,Q,L,A4.get,bB,aY,ei,ej]
      have W:=A4.swap (i:=u) (j:=w) (nx:=h4.next+16) om rfl
      exact⟨w- 1,om,u+1,w- 1,_,aB rfl,om,om,om,W.1,hL,dC F4 W.2,rfl⟩
   ·rintro n h5 ⟨⟨g,rfl⟩,A5,a0,F5⟩
    generalize partLoop aN.lt a (q+1) (G- 1) e0=r at hP A5 a0
    obtain⟨m,e5⟩:=r
    have a0:m<b:=a0
    have A5:cE h5 S N e5:=A5
    have b9:=A5.size
    have Q:=A5.rd (i:=m) om
    have L:=A5.rd (i:=a) om
    simp(disch:=omega)only[go_sem,Q,L,A5.get,bB,aY]
    have W:=A5.swap (i:=m) (j:=a) (nx:=h5.next+16) om rfl
    rw[hP]
    exact⟨rfl,W.1,dC F5 W.2⟩
theorem xB {α:Type}[Inhabited α][O:aN α](h:H)(S N a b pv:Nat)(d:Array α)(L:lI)(hN:N<1000000)(A:cE h S N d)(hb:b<=N)(a9:a<=pv)(b1:pv<b):
  Ev T 253 [.sl S 0 N L,aC a,aC b,aC pv,.fn (aN.f α) [] []] h (λv h'=>v= aC ((partitionEqual aN.lt d a b pv).1:Nat)/\cE h' S N (partitionEqual aN.lt d a b pv).2/\Fx (· =S) h h'):=by
 refine cV fD rfl ?_
 have sz:=A.size
 have J:=A.rd (i:=a) om
 have G:=A.rd (i:=pv) om
 simp(disch:=omega)only[go_sem,fD,aD,J,G,A.get,bB,aY]
 have W:=A.swap (i:=a) (j:=pv) (nx:=h.next+16) om rfl
 obtain⟨h1,R⟩: ∃h1,h1=((H.mk h.tr (h.next+16)).set S (aZ (flat (d.setIfInBounds a d[pv]!).toList))).set S (aZ (flat ((d.setIfInBounds a d[pv]!).setIfInBounds pv d[a]!).toList)):=⟨_,rfl⟩
 rw[←R] at W ⊢
 obtain⟨A1,F1⟩:=W
 have eb:(b:Int)- 1=((b- 1:Nat):Int):=om
 have ea:(a:Int)+1=((a+1:Nat):Int):=om
 unfold partitionEqual
 obtain⟨P,he⟩: ∃e,swp d a pv=e:=⟨_,rfl⟩
 rw[he] at A1 ⊢
 clear R J G A
 simp(disch:=omega)only[go_sem,ea,eb]
 refine bJ (λB c=>(∃g:Nat->V,B= [.sl S 0 N L,aC a,aC b,aC pv,.fn (aN.f α) [] [],g 5,aC (((partEqLoop aN.lt a (a+1) (b- 1) P).1:Nat):Int),g 7,g 8,g 9,g 10])/\cE c S N (partEqLoop aN.lt a (a+1) (b- 1) P).2/\Fx (· =S) h c) ?_ ?_
 ·refine aH (λs B c=> ∃(i j:Nat) (e:Array α),(∃g:Nat->V,B= [.sl S 0 N L,aC a,aC b,aC pv,.fn (aN.f α) [] [],g 5,aC i,aC j,g 8,g 9,g 10])/\a<i/\i<=b+1/\j<b/\cE c S N e/\partEqLoop aN.lt a i j e=partEqLoop aN.lt a (a+1) (b- 1) P/\Fx (· =S) h c/\s=j) (b- 1)
   ⟨a+1,b- 1,P,aB rfl,om,om,om,A1,rfl,F1,rfl⟩ ?_
  obtain⟨R2,a0⟩:=exI (partEqLoop aN.lt a (a+1) (b- 1) P)
  rw[a0]
  clear a0 F1 A1 h1 he P
  rintro s l h3 ⟨i,j,e,⟨g,rfl⟩,a6,a8,hj,A3,Q,F3,Y⟩
  rw[partEqLoop_eq] at Q
  simp(disch:=omega)only[go_sem]
  refine bJ (λB c=>(∃g:Nat->V,B= [.sl S 0 N L,aC a,aC b,aC pv,.fn (aN.f α) [] [],g 5,aC (scanUp (λx=>!aN.lt e[a]! x) e j i:Nat),aC (j:Nat),g 8,g 9,g 10])/\cE c S N e/\Fx (· =S) h c) ?_ ?_
  ·refine aH (λs B c=> ∃(k:Nat),(∃g:Nat->V,B= [.sl S 0 N L,aC a,aC b,aC pv,.fn (aN.f α) [] [],g 5,aC (k:Nat),aC (j:Nat),g 8,g 9,g 10])/\i<=k/\k<=N+2/\cE c S N e/\scanUp (λx=>!aN.lt e[a]! x) e j k=scanUp (λx=>!aN.lt e[a]! x) e j i/\Fx (· =S) h c/\s=j+1-k) (j+1-i)
    ⟨i,aB rfl,om,om,A3,rfl,F3,rfl⟩ ?_
   rintro s l F ⟨k,⟨g,rfl⟩,a5,a7,n,o,Fs,rfl⟩
   by_cases m:(k:Int)<=((j:Nat):Int)
   ·have y:=bP m
    have eK:(k:Int)+1=((k+1:Nat):Int):=om
    have a1:=n.size
    have J:=n.rd (i:=k) om
    have G:=n.rd (i:=a) om
    simp(disch:=omega)only[go_sem,y,J,G]
    refine (dG n (i:=a) (j:=k) om om _ om).mono ?_
    rintro _ K ⟨z,rfl,Z,q⟩
    have p:Fr F K:=Fr.trans ((Fr.refl F).bA om) q
    have t:=n.fr p
    have r:=dC Fs (Fx.of p)
    cases hl:aN.lt e[a]! e[k]! with
    |true=>
     rw[lK (λc=>by have:=c.2;simp [hl] at this)] at o;simp(disch:=omega)only[go_sem,Z,hl];exact⟨by rw[←o];exact aB rfl,t,r⟩
    |false=>
     rw[yY om (by simp [hl])] at o;simp(disch:=omega)only[go_sem,Z,hl,eK];exact⟨j+1-(k+1),om,k+1,aB rfl,om,om,t,o,r,rfl⟩
   ·have y:=bH m
    rw[lK (λc=>m (by have:=c.1;omega))] at o
    simp(disch:=omega)only[go_sem,y]
    exact⟨by rw[←o];exact aB rfl,n.fr ((Fr.refl F).bA om),dC Fs (Fx.of ((Fr.refl F).bA om))⟩
  ·rintro l h9 ⟨⟨g,rfl⟩,A9,F9⟩
   have a4:=scanUp_ge (λx=>!aN.lt e[a]! x) e j i
   have a2:=kW (λx=>!aN.lt e[a]! x) e j i
   obtain⟨u,hu⟩: ∃x,scanUp (λx=>!aN.lt e[a]! x) e j i=x:=⟨_,rfl⟩
   rw[hu] at a4 a2
   rw[hu]
   simp(disch:=omega)only[go_sem]
   refine bJ (λB c=>(∃g:Nat->V,B= [.sl S 0 N L,aC a,aC b,aC pv,.fn (aN.f α) [] [],g 5,aC (u:Nat),aC (scanDown (λx=>aN.lt e[a]! x) e u j:Nat),g 8,g 9,g 10])/\cE c S N e/\Fx (· =S) h c) ?_ ?_
   ·refine aH (λs B c=> ∃(k:Nat),(∃g:Nat->V,B= [.sl S 0 N L,aC a,aC b,aC pv,.fn (aN.f α) [] [],g 5,aC (u:Nat),aC (k:Nat),g 8,g 9,g 10])/\k<=j/\cE c S N e/\scanDown (λx=>aN.lt e[a]! x) e u k=scanDown (λx=>aN.lt e[a]! x) e u j/\Fx (· =S) h c/\s=k) j
     ⟨j,aB rfl,om,A9,rfl,F9,rfl⟩ ?_
    rintro s l F ⟨k,⟨g,rfl⟩,a5,n,o,Fs,Y⟩
    subst Y
    by_cases m:((u:Nat):Int)<=(s:Int)
    ·have y:=bP m
     obtain⟨k,rfl⟩: ∃k,s=k+1:=⟨s- 1,om⟩
     have eK:((k+1:Nat):Int)- 1=(k:Int):=om
     have a1:=n.size
     have J:=n.rd (i:=k+1) om
     have G:=n.rd (i:=a) om
     simp(disch:=omega)only[go_sem,y,J,G]
     refine (dG n (i:=a) (j:=k+1) om om _ om).mono ?_
     rintro _ K ⟨z,rfl,Z,q⟩
     have p:Fr F K:=Fr.trans ((Fr.refl F).bA om) q
     have t:=n.fr p
     have r:=dC Fs (Fx.of p)
     cases hl:aN.lt e[a]! e[k+1]! with
     |false=>
      rw[oP (λc=>by have:=c.2;simp [hl] at this)] at o;simp(disch:=omega)only[go_sem,Z,hl];exact⟨by rw[←o];exact aB rfl,t,r⟩
     |true=>
      rw[Dc om (by simp [hl])] at o;simp(disch:=omega)only[go_sem,Z,hl,eK];exact⟨k,om,k,aB rfl,om,t,o,r,rfl⟩
    ·have y:=bH m
     rw[oP (λc=>m (by have:=c.1;omega))] at o
     simp(disch:=omega)only[go_sem,y]
     exact⟨by rw[←o];exact aB rfl,n.fr ((Fr.refl F).bA om),dC Fs (Fx.of ((Fr.refl F).bA om))⟩
   ·rintro l h4 ⟨⟨g,rfl⟩,A4,F4⟩
    have a3:=scanDown_le (λx=>aN.lt e[a]! x) e u j
    obtain⟨w,hw⟩: ∃x,scanDown (λx=>aN.lt e[a]! x) e u j=x:=⟨_,rfl⟩
    rw[hw] at a3
    rw[hw]
    rw[hu,hw] at Q
    have b0:=A4.size
    by_cases U:(w:Int)<(u:Int)
    ·have y:=bP U
     rw[bF om] at Q
     simp(disch:=omega)only[go_sem,y]
     rw[←Q]
     exact⟨aB rfl,A4,F4⟩
    have y:=bH U
    rw[bI om] at Q
    have J:=A4.rd (i:=u) om
    have G:=A4.rd (i:=w) om
    have ei:(u:Int)+1=((u+1:Nat):Int):=om
    have ej:(w:Int)- 1=((w- 1:Nat):Int):=om
    simp(disch:=omega)only[go_sem,y,J,G,A4.get,bB,aY,ei,ej]
    have W:=A4.swap (i:=u) (j:=w) (nx:=h4.next+16) om rfl
    exact⟨w- 1,om,u+1,w- 1,_,aB rfl,om,om,om,W.1,Q,dC F4 W.2,rfl⟩
 ·rintro l h5 ⟨⟨g,rfl⟩,A5,F5⟩
  simp(disch:=omega)only[go_sem]
  exact⟨A5,F5⟩
end
def My  {α:Type}[Inhabited α][O:aN α](n:Nat):Prop:= ∀(h:H) (S N a b:Nat) (lim:Int) (d:Array α) (cp:lI),N<60000->cE h S N d->a<=b->b<=N->b-a<=n->0<=lim->lim<1000000->Below aN.lt a b d->
 Ev T 227 [.sl S 0 N cp,aC a,aC b,aC lim,.fn (aN.f α) [] []] h (λ_ h'=> ∃e,cE h' S N e/\PermIn a b d e/\SortedIn aN.lt a b e/\Fx (· =S) h h')
theorem Pg  {α:Type}[Inhabited α][O:aN α](n:Nat)(ih: ∀m,m<n->My (α:=α) m):My (α:=α) n:=by
 intro h S N a b a6 d s hN A a7 a5 hn u w hB;refine cV iA rfl ?_;simp(disch:=omega)only[go_sem,iA,aD]
 refine aH (λk' y Y=> ∃(c l:Nat) (l':Int) (W wp:Bool) (e:Array α),(∃g:Nat->V,y= [.sl S 0 N s,aC (c:Int),aC (l:Int),aC l',.fn (aN.f α) [] [],.bool W,.bool wp,g 7,g 8,g 9,g 10,g 11,g 12,g 13,g 14,g 15,g 16,g 17,g 18,g 19,g 20,g 21,g 22,g 23])/\c<=l/\l<=N/\a<=c/\l<=b/\0<=l'/\l'<1000000/\Below aN.lt c l e/\cE Y S N e/\Fx (· =S) h Y/\
   (∀R,PermIn c l e R->SortedIn aN.lt c l R->PermIn a b d R/\SortedIn aN.lt a b R)/\k'=l-c) (b-a)
  ⟨a,b,a6,true,true,d,aB rfl,a7,a5,fM _,fM _,u,w,hB,A,Fx.refl _ h,λR h1 h2=>⟨h1,h2⟩,rfl⟩ ?_
 clear A hB u w;rintro k' y h1 ⟨c,l,l',W,wp,e,⟨g,rfl⟩,B,o,a8,a4,u,w,hB,A,F,K,rfl⟩;obtain⟨m,hm⟩:=exI (l-c);have em:(l:Int)-(c:Int)=(m:Int):=om
 have ez: ∀{x:Array α} {hx:H},cE hx S N x->l<=x.size:=λA=>by rw[A.size];exact o
 by_cases a3:(m:Int)<=12
 ·have e1:=bP a3
  simp(disch:=omega)only[go_sem,em,e1];refine (oW h1 S N c l e s om A o B).mono ?_;rintro _ h2 ⟨A2,F2⟩;obtain⟨p1,p2⟩:=insertionSort_holds (aN.swo (α:=α)) e c l B (ez A);obtain⟨q1,q2⟩:=K _ p1 p2;simp(disch:=omega)only[go_sem];exact⟨_,A2,q1,q2,dC F F2⟩
 have e1:=bH a3
 by_cases hl:l'=0
 ·have J:=bP hl
  simp(disch:=omega)only[go_sem,em,e1,J];refine (qZ h1 S N c l e s om A o B).mono ?_;rintro _ h2 ⟨A2,F2⟩;obtain⟨p1,p2⟩:=heapSort_holds (aN.swo (α:=α)) e c l B (ez A);obtain⟨q1,q2⟩:=K _ p1 p2;simp(disch:=omega)only[go_sem];exact⟨_,A2,q1,q2,dC F F2⟩
 have J:=bH hl;simp(disch:=omega)only[go_sem,em,e1,J];refine jT (λZ Y=> ∃(J:Array α) (G:Int) (g:Nat->V),Z= [.sl S 0 N s,aC (c:Int),aC (l:Int),aC G,.fn (aN.f α) [] [],.bool W,.bool wp,aC m,g 8,g 9,g 10,g 11,g 12,g 13,g 14,g 15,g 16,g 17,g 18,g 19,g 20,g 21,g 22,g 23]/\0<=G/\G<1000000/\cE Y S N J/\PermIn c l e J/\Fx (· =S) h Y) ?_ ?_
 ·cases W with
  |true=>
   simp(disch:=omega)only[go_sem];exact .inl ⟨e,l',_,(aB rfl: ∃g:Nat->V,_= [.sl S 0 N s,aC (c:Int),aC (l:Int),aC l',.fn (aN.f α) [] [],.bool true,.bool wp,aC m,g 8,g 9,g 10,g 11,g 12,g 13,g 14,g 15,g 16,g 17,g 18,g 19,g 20,g 21,g 22,g 23]).choose_spec,u,w,A,permIn_refl e c l,F⟩
  |false=>
   simp(disch:=omega)only[go_sem];refine (Ba h1 S N c l e s hN A o B).mono ?_;rintro _ h2 ⟨J,A2,p2,F2⟩;simp(disch:=omega)only[go_sem];exact .inl ⟨J,l'- 1,_,(aB rfl: ∃g:Nat->V,_= [.sl S 0 N s,aC (c:Int),aC (l:Int),aC (l'- 1),.fn (aN.f α) [] [],.bool false,.bool wp,aC m,g 8,g 9,g 10,g 11,g 12,g 13,g 14,g 15,g 16,g 17,g 18,g 19,g 20,g 21,g 22,g 23]).choose_spec,om,om,A2,p2,dC F F2⟩
 clear A F u w hl J g;rintro y h2 ⟨J,G,g,rfl,u,w,A,P2,F⟩;have B2:=hB.perm (by rw[←P2.1];exact ez A) P2;simp(disch:=omega)only[go_sem];refine (Ar h2 S N c l J s om A o om).mono ?_;rintro _ h3 ⟨p,t,rfl,U,Q,f3⟩;have A3:=A.fr f3;have F3:=dC F (Fx.of f3);clear A F;simp(disch:=omega)only[go_sem];refine jT (λZ Y=> ∃(e3:Array α) (p2:Nat) (t2:Int) (g:Nat->V),Z= [.sl S 0 N s,aC (c:Int),aC (l:Int),aC G,.fn (aN.f α) [] [],.bool W,.bool wp,aC m,aC p2,aC t2,g 10,g 11,g 12,g 13,g 14,g 15,g 16,g 17,g 18,g 19,g 20,g 21,g 22,g 23]/\c<=p2/\p2<l/\cE Y S N e3/\PermIn c l J e3/\Fx (· =S) h Y) ?_ ?_
 ·refine aW (λht=>?_) (λht=>?_)
  ·simp(disch:=omega)only[go_sem]
   refine (tZ h3 S N c l J s om A3 o om).mono ?_;rintro _ h4 ⟨A4,F4⟩;have e5:(l:Int)- 1-((p:Int)-(c:Int))=(((l- 1)-(p-c):Nat):Int):=om
   simp(disch:=omega)only[go_sem,e5];exact .inl ⟨_,(l- 1)-(p-c),1,_,(aB rfl: ∃g:Nat->V,_= [.sl S 0 N s,aC (c:Int),aC (l:Int),aC G,.fn (aN.f α) [] [],.bool W,.bool wp,aC m,aC ((l- 1)-(p-c):Nat),aC 1,g 10,g 11,g 12,g 13,g 14,g 15,g 16,g 17,g 18,g 19,g 20,g 21,g 22,g 23]).choose_spec,om,om,A4,reverseRange_holds J c l B (ez A3),dC F3 F4⟩
  ·simp(disch:=omega)only[go_sem]
   exact .inl ⟨J,p,t,_,(aB rfl: ∃g:Nat->V,_= [.sl S 0 N s,aC (c:Int),aC (l:Int),aC G,.fn (aN.f α) [] [],.bool W,.bool wp,aC m,aC p,aC t,g 10,g 11,g 12,g 13,g 14,g 15,g 16,g 17,g 18,g 19,g 20,g 21,g 22,g 23]).choose_spec,U,Q,A3,permIn_refl J c l,F3⟩
 have a1:=ez A3;clear A3 F3 U Q f3 p t g;rintro y h4 ⟨e3,p,t,g,rfl,U,Q,A,P3,F⟩;have B3:=B2.perm a1 P3;have a0:=permIn_trans _ _ _ c l P2 P3;have b0:l<=J.size:=a1;clear a1 B2 hB;refine xW (λZ Y=> ∃(P:Array α) (g:Nat->V),Z= [.sl S 0 N s,aC (c:Int),aC (l:Int),aC G,.fn (aN.f α) [] [],.bool W,.bool wp,aC m,aC p,g 9,g 10,g 11,g 12,g 13,g 14,g 15,g 16,g 17,g 18,g 19,g 20,g 21,g 22,g 23]/\cE Y S N P/\PermIn c l e P/\Below aN.lt c l P/\Fx (· =S) h Y) ?_ ?_
 ·have skip: ∀(Z:List V),(∃g:Nat->V,Z= [.sl S 0 N s,aC (c:Int),aC (l:Int),aC G,.fn (aN.f α) [] [],.bool W,.bool wp,aC m,aC p,g 9,g 10,g 11,g 12,g 13,g 14,g 15,g 16,g 17,g 18,g 19,g 20,g 21,g 22,g 23])-> ∃(P:Array α) (g:Nat->V),Z= [.sl S 0 N s,aC (c:Int),aC (l:Int),aC G,.fn (aN.f α) [] [],.bool W,.bool wp,aC m,aC p,g 9,g 10,g 11,g 12,g 13,g 14,g 15,g 16,g 17,g 18,g 19,g 20,g 21,g 22,g 23]/\cE h4 S N P/\PermIn c l e P/\Below aN.lt c l P/\Fx (· =S) h h4:=λZ ⟨g,hv⟩=>⟨e3,g,hv,A,a0,B3,F⟩
  have run: ∀g:Nat->V,Ev T 252 [.sl S 0 N s,aC (c:Int),aC (l:Int),.fn (aN.f α) [] []] h4 (λv h'=> ∃r:Array α×Bool,v= .bool r.2/\cE h' S N r.1/\Fx (· =S) h4 h'/\PermIn c l e3 r.1/\(r.2=true->SortedIn aN.lt c l r.1)):=λ_=>by
   refine (tB h4 S N c l e3 s om A o om).mono ?_;rintro v h5 ⟨hv,A5,F5⟩;obtain⟨q1,q2⟩:=partialInsertionSort_holds (aN.swo (α:=α)) e3 c l om (ez A) B3;exact⟨_,hv,A5,F5,q1,q2⟩
  cases W with
  |false=>
   simp(disch:=omega)only[go_sem];exact .inl (skip _ (aB rfl))
  |true=>cases wp with
   |false=>
    simp(disch:=omega)only[go_sem]
    exact .inl (skip _ (aB rfl))
   |true=>
    simp(disch:=omega)only[go_sem]
    refine aW (λht=>?_) (λht=>?_)
    ·simp(disch:=omega)only[go_sem]
     refine (run g).mono ?_
     rintro v h5 ⟨⟨e5,r5⟩,rfl,A5,F5,q1,q2⟩
     have A5:cE h5 S N e5:=A5
     have q1:PermIn c l e3 e5:=q1
     have P5:=permIn_trans _ _ _ c l a0 q1
     cases r5 with
     |false=>
      simp(disch:=omega)only[go_sem];exact .inl ⟨e5,_,(aB rfl: ∃g:Nat->V,_= [.sl S 0 N s,aC (c:Int),aC (l:Int),aC G,.fn (aN.f α) [] [],.bool true,.bool true,aC m,aC p,g 9,g 10,g 11,g 12,g 13,g 14,g 15,g 16,g 17,g 18,g 19,g 20,g 21,g 22,g 23]).choose_spec,A5,P5,B3.perm (ez A) q1,dC F F5⟩
     |true=>
      obtain⟨w1,w2⟩:=K _ P5 (q2 rfl);simp(disch:=omega)only[go_sem];exact .inr ⟨by simp,e5,A5,w1,w2,dC F F5⟩
    ·simp(disch:=omega)only[go_sem]
     exact .inl (skip _ (aB rfl))
 clear A P3 a0 B3 F P2 b0 e3 J;rintro y h5 ⟨P,g,rfl,A,P4,B4,F⟩;have a2:=ez A;refine xW (λZ Y=> ∃(g:Nat->V),Z= [.sl S 0 N s,aC (c:Int),aC (l:Int),aC G,.fn (aN.f α) [] [],.bool W,.bool wp,aC m,aC p,g 9,g 10,g 11,g 12,g 13,g 14,g 15,g 16,g 17,g 18,g 19,g 20,g 21,g 22,g 23]/\cE Y S N P/\Fx (· =S) h Y) ?_ ?_
 ·by_cases h0:(0:Int)<(c:Int)
  case neg=>
   have e1:=bH h0;simp(disch:=omega)only[go_sem,e1];exact .inl ⟨_,(aB rfl: ∃g:Nat->V,_= [.sl S 0 N s,aC (c:Int),aC (l:Int),aC G,.fn (aN.f α) [] [],.bool W,.bool wp,aC m,aC p,g 9,g 10,g 11,g 12,g 13,g 14,g 15,g 16,g 17,g 18,g 19,g 20,g 21,g 22,g 23]).choose_spec,A.fr ((Fr.refl h5).bA om),dC F (Fx.of ((Fr.refl h5).bA om))⟩
  have e1:=bP h0;have ea:(c:Int)- 1=((c- 1:Nat):Int):=om
  have c1:=A.rd (i:=c- 1) om;have c2:=A.rd (i:=p) om;simp(disch:=omega)only[go_sem,e1,ea,c1,c2];refine (dG A (i:=c- 1) (j:=p) om om _ om).mono ?_;rintro _ h6 ⟨z,rfl,hz,a9⟩;have f6:Fr h5 h6:=Fr.trans ((Fr.refl h5).bA om) a9;have A6:=A.fr f6;have F6:=dC F (Fx.of f6)
  cases hl:aN.lt P[c- 1]! P[p]! with
  |true=>
   simp(disch:=omega)only[go_sem,hz,hl];exact .inl ⟨_,(aB rfl: ∃g:Nat->V,_= [.sl S 0 N s,aC (c:Int),aC (l:Int),aC G,.fn (aN.f α) [] [],.bool W,.bool wp,aC m,aC p,g 9,g 10,g 11,g 12,g 13,g 14,g 15,g 16,g 17,g 18,g 19,g 20,g 21,g 22,g 23]).choose_spec,A6,F6⟩
  |false=>
   obtain⟨w1,w2,w3,w4,w5⟩:=round_eq (aN.swo (α:=α)) (partitionEqual_holds aN.lt) om U Q a2 B4 hl (Prod.eta (partitionEqual aN.lt P c l p)).symm;simp(disch:=omega)only[go_sem,hz,hl];refine (xB h6 S N c l p P s om A6 o U Q).mono ?_;rintro _ h7 ⟨rfl,A7,F7⟩;simp(disch:=omega)only[go_sem];refine .inr ⟨by simp,l-(partitionEqual aN.lt P c l p).1,om,(partitionEqual aN.lt P c l p).1,l,G,W,wp,_,aB rfl,w2,o,om,a4,u,w,w4,A7,dC F6 F7,λR r1 r2=>?_,rfl⟩;obtain⟨t1,t2⟩:=w5 R r1 r2;exact K R (permIn_trans _ _ _ c l P4 t1) t2
 clear A F;rintro y h6 ⟨g,rfl,A,F⟩;have e8:=Dh m (k:=8) (m:=8) rfl;simp(disch:=omega)only[go_sem];refine (pG h6 S N c l p P s om A o U Q).mono ?_;obtain⟨r,hr⟩:=exI (partition aN.lt P c l p);rw[hr];obtain⟨q,ap,e5⟩:=r;obtain⟨w1,w2,w3,w4,w5,w6,w7⟩:=round_part (aN.swo (α:=α)) (partition_holds aN.lt) U Q a2 B4 hr;rintro _ h7 ⟨rfl,A7,F7⟩;have A7:cE h7 S N e5:=A7;have F7:=dC F F7;have el:(q:Int)-(c:Int)=((q-c:Nat):Int):=om
 have er:(l:Int)-(q:Int)=((l-q:Nat):Int):=om
 have e1:(q:Int)+1=((q+1:Nat):Int):=om
 simp(disch:=omega)only[go_sem,el,er,e8];refine aW (λht=>?_) (λht=>?_)
 ·simp(disch:=omega)only[go_sem]
  refine (ih (q-c) om h7 S N c q G e5 s hN A7 w1 om (fM _) u w w4).mono ?_;rintro _ h8 ⟨L,A8,p8,s8,F8⟩;obtain⟨u1,u2⟩:=w6 L p8 s8;simp(disch:=omega)only[go_sem,e1];refine⟨l-(q+1),om,q+1,l,G,_,ap,L,aB rfl,om,o,om,a4,u,w,u1,A8,dC F7 F8,λR r1 r2=>?_,rfl⟩;obtain⟨t1,t2⟩:=u2 R r1 r2;exact K R (permIn_trans _ _ _ c l P4 t1) t2
 ·simp(disch:=omega)only[go_sem,e1]
  refine (ih (l-(q+1)) om h7 S N (q+1) l G e5 s hN A7 om o (fM _) u w w5).mono ?_;rintro _ h8 ⟨L,A8,p8,s8,F8⟩;obtain⟨u1,u2⟩:=w7 L p8 s8;simp(disch:=omega)only[go_sem];refine⟨q-c,om,c,q,G,_,ap,L,aB rfl,om,om,a8,om,u,w,u1,A8,dC F7 F8,λR r1 r2=>?_,rfl⟩;obtain⟨t1,t2⟩:=u2 R r1 r2;exact K R (permIn_trans _ _ _ c l P4 t1) t2
theorem Ha  {α:Type}[Inhabited α][O:aN α](n:Nat):My (α:=α) n:=by
 induction n using Nat.strongRecOn with
 |_ n ih=>exact Pg n  ih
theorem zU {α:Type}[Inhabited α][O:aN α](h:H)(S N:Nat)(d:Array α)(a:lI)(i:N<60000)(A:cE h S N d):
  Ev T 186 [.sl S 0 N a,.fn (aN.f α) [] []] h (λ_ h'=> ∃e,cE h' S N e/\PermIn 0 N d e/\SortedIn aN.lt 0 N e/\Fx (· =S) h h'):=by
 refine cV eU rfl ?_
 have k:bitsLen N<=16:=(bitsLen_le_iff _ 16).2 om
 simp(disch:=omega)only[go_sem,eU,aD,dK (n:=(N:Int)) om om]
 refine (Tx N h om).mono ?_
 rintro _ g ⟨rfl,b⟩
 subst b
 simp(disch:=omega)only[go_sem]
 refine (Ha N g S N 0 N _ d a i A om om om om om (.inl rfl)).mono ?_
 rintro _ j ⟨e,c,p,s,F⟩
 simp(disch:=omega)only[go_sem]
 exact⟨e,c,p,s,F⟩
theorem Cj (a:Int)(h:H):Ev T 198 [aC a] h (λv h'=>v= .bool false/\h'=h):=by
 refine cV mZ rfl ?_;have e:decide (a≠a)=false:=bH om;simp(disch:=omega)only[go_sem,mZ,aD,e]
def rQ (a b:Int):Int:=if a<b then -1 else if b<a then 1 else 0
theorem yD (a b:Int)(h:H):Ev T 147 [aC a,aC b] h (λv h'=>v= aC (rQ a b)/\Fr h h'):=by
 refine cV uM rfl ?_;simp(disch:=omega)only[go_sem,uM,aD];refine (Cj a h).mono ?_;rintro _ c ⟨rfl,rfl⟩;simp(disch:=omega)only[go_sem];refine (Cj b c).mono ?_;rintro _ g ⟨rfl,rfl⟩;simp(disch:=omega)only[go_sem];unfold rQ
 by_cases c:a<b
 ·have e:=bP c
  simp(disch:=omega)only[go_sem,e,bF c];exact Fr.refl _
 ·have e:=bH c
  by_cases d:b<a
  ·have f:=bP d
   simp(disch:=omega)only[go_sem,e,f,bI c,bF d];exact Fr.refl _
  ·have f:=bH d
   simp(disch:=omega)only[go_sem,e,f,bI c,bI d];exact Fr.refl _
def NF:List Int->Int
 | []=>0
 |x::r=>if x=0 then NF r else x
theorem OG {l:List Int}{i:Nat}(hi:i<l.length)(h:l.getD i 0=0):NF (l.drop i)=NF (l.drop (i+1)):=by
 rw[AR hi];show (if l[i]=0 then _ else _)=_;rw[bF (by rw[List.getD,dD hi] at h;exact h)]
theorem aaP {l:List Int}{i:Nat}(hi:i<l.length)(h:l.getD i 0≠0):NF (l.drop i)=l.getD i 0:=by
 rw[AR hi];show (if l[i]=0 then _ else l[i])=_;have e:l.getD i 0=l[i]:=by rw[List.getD,dD hi];rfl
 rw[bI (by rw[←e];exact h),e]
theorem agZ (u:V)(l:List Int)(h:H)(A:l.length<1000000)(q:SI h u l):Ev T 191 [u] h (λv h'=>v= aC (NF l)/\Fr h h'):=by
 refine cV Hk rfl ?_;have s:=q.lens;obtain⟨id,n,w,m,z⟩:=q.open;simp(disch:=omega)only[go_sem,Hk,aD,s];refine aH (λo y t=> ∃(i:Nat),(∃g:Nat->V,y= [u,aC 0,aC 0,g 3,u,aC (l.length:Int),aC i,g 7,g 8])/\i<=l.length/\NF (l.drop i)=NF l/\Fr h t/\o=l.length-i) l.length
   ⟨0,aB rfl,iJ _,rfl,Fr.refl h,rfl⟩ ?_
 rintro o p r ⟨i,⟨g,rfl⟩,hi,c,f,rfl⟩
 by_cases b:(i:Int)<(l.length:Int)
 ·have j:=bP b
  have a:i<l.length:=om
  have ci:r.cell id (n+i)=some (aC (l.getD i 0)):=by rw[f.cell (m om),z i a]
  generalize e:l.getD i 0=x at ci;simp(disch:=omega)only[go_sem,j,w.ixa,ci]
  by_cases d:x=0
  ·have k:decide (x≠0)=false:=bH (by simpa using d)
   simp(disch:=omega)only[go_sem,k];rw[eJ i];exact⟨l.length-(i+1),om,i+1,aB rfl,om,by rw[←OG a (e.trans d)];exact c,f.bA om,rfl⟩
  ·have k:=bP d
   simp(disch:=omega)only[go_sem,k];exact⟨by rw[←c,aaP a (by rw[e];exact d),e],f.bA om⟩
 have j:=bH b;obtain rfl:i=l.length:=om
 simp(disch:=omega)only[go_sem,j];rw[List.drop_length] at c;exact⟨by rw[←c];rfl,f⟩
structure KE where
 rep:V
 ord:Nat
 size:Nat
 ranks:V
 fst:Nat
 hrep:rep.cells= [rep]/\rep.one=true/\dE rep rep=true
 hranks:ranks.cells= [ranks]/\ranks.one=true/\dE ranks ranks=true
instance:Inhabited KE:=⟨⟨.aE,0,0,.aE,0,⟨rfl,rfl,rfl⟩,⟨rfl,rfl,rfl⟩⟩⟩
def KE.enc (a:KE):List V:= [a.rep,aC (a.ord:Int),aC (a.size:Int),a.ranks]
def KE.cmp (a b:KE):Int:=NF [rQ a.ord b.ord,rQ a.size b.size,rQ a.fst b.fst]
def KE.lt (a b:KE):Bool:=decide (a.cmp b<0)
theorem Hf (a:KE)(h:H):Cv h (.agg a.enc)=some (.ptr h.next 0,h.new (.cells false a.enc)):=tL h _ (by simp [KE.enc,a.hrep.2.1,a.hranks.2.1,show (aC (a.ord:Int)).one=true from rfl,show (aC (a.size:Int)).one=true from rfl])
theorem JF (a b:KE)(h:H):Ev T 188 [.agg a.enc,.agg b.enc] h (λv h'=>v= aC (rQ a.ord b.ord)/\Fr h h'):=by
 refine cV pP rfl ?_;obtain⟨A,d⟩:=exI h.next;obtain⟨t,q,e,g,u,j⟩:=dF d a.enc;obtain⟨c,p,s,i,o,l⟩:=dF e b.enc;have f:c.get A=some (.cells false a.enc):=by rw[o _ om];exact g
 have m:c.cell A 1=some (aC (a.ord:Int)):=by rw[H.aF f];rfl
 have n:c.cell (A+1) 1=some (aC (b.ord:Int)):=by rw[H.aF i];rfl
 simp(disch:=omega)only[go_sem,pP,aD,Hf,d,q,e,p,m,n];refine (yD _ _ c).mono ?_;rintro _ r ⟨rfl,k⟩;simp(disch:=omega)only[go_sem];exact (j.trans l).trans k
theorem vW (a b:KE)(h:H):Ev T 189 [.agg a.enc,.agg b.enc] h (λv h'=>v= aC (rQ a.size b.size)/\Fr h h'):=by
 refine cV rK rfl ?_;obtain⟨A,d⟩:=exI h.next;obtain⟨t,q,e,g,u,j⟩:=dF d a.enc;obtain⟨c,p,s,i,o,l⟩:=dF e b.enc;have f:c.get A=some (.cells false a.enc):=by rw[o _ om];exact g
 have m:c.cell A 2=some (aC (a.size:Int)):=by rw[H.aF f];rfl
 have n:c.cell (A+1) 2=some (aC (b.size:Int)):=by rw[H.aF i];rfl
 simp(disch:=omega)only[go_sem,rK,aD,Hf,d,q,e,p,m,n];refine (yD _ _ c).mono ?_;rintro _ r ⟨rfl,k⟩;simp(disch:=omega)only[go_sem];exact (j.trans l).trans k
def KE.At (h:H)(a:KE):Prop:= ∃id off n cap,a.ranks= .sl id off (n+1) cap/\id<h.next/\h.cell id off=some (aC (a.fst:Int))
theorem JT (a b:KE)(h:H)(r:a.At h)(W:b.At h):Ev T 190 [.agg a.enc,.agg b.enc] h (λv h'=>v= aC (rQ a.fst b.fst)/\Fr h h'):=by
 refine cV pQ rfl ?_;obtain⟨A,q⟩:=exI h.next;obtain⟨h1,Y,t,w,o1,L⟩:=dF q a.enc;obtain⟨c,Q,n2,K,B,y⟩:=dF t b.enc;obtain⟨o,n,R,G,x,z,F⟩:=r;obtain⟨m,k,U,P,O,lb,Z⟩:=W;have F2:=L.trans y;have J:c.get A=some (.cells false a.enc):=by rw[B _ om];exact w
 have i:c.cell A 3=some a.ranks:=by rw[H.aF J];rfl
 have j:c.cell (A+1) 3=some b.ranks:=by rw[H.aF K];rfl
 rw[x] at i;rw[O] at j;have u:c.cell o n=some (aC (a.fst:Int)):=by rw[F2.cell z];exact F
 have s:c.cell m k=some (aC (b.fst:Int)):=by rw[F2.cell lb];exact Z
 simp(disch:=omega)only[go_sem,pQ,aD,Hf,q,Y,t,Q,i,j,u,s];refine (yD _ _ _).mono ?_;rintro _ d ⟨rfl,N⟩;have e:Fr c d:=((Fr.refl c).bA om).trans N;have r:=F2.next;have p:d.cell A 3=some (.sl o n (R+1) G):=by rw[e.cell om];exact i
 have g:d.cell (A+1) 3=some (.sl m k (U+1) P):=by rw[e.cell om];exact j
 have l:d.cell o n=some (aC (a.fst:Int)):=by rw[e.cell om];exact u
 have f:d.cell m k=some (aC (b.fst:Int)):=by rw[e.cell om];exact s
 simp(disch:=omega)only[go_sem,p,g,l,f];exact F2.trans e
theorem Ck {h:H}{A:Nat}{ro:Bool}{a:KE}(b:h.get A=some (.cells ro a.enc)):h.row A 0 4=some a.enc:=by
 simp [H.row,b,sub,KE.enc]
theorem Jp (a:KE):dE (.agg a.enc) (.agg a.enc)=true:=by
 show sK a.enc a.enc=true;simp [KE.enc,sK,dE,a.hrep.2.2,a.hranks.2.2]
theorem KE.At.fr {a:KE}{h h':H}(x:a.At h)(f:Fr h h'):a.At h':=by
 obtain⟨j,i,d,c,e,b,g⟩:=x;exact⟨j,i,d,c,e,iW b f.next,by rw[f.cell b];exact g⟩
theorem DK (h:H)(x y z:Int):lQ h 1 [aC 0] 3 [(0,1,aC x),(1,1,aC y),(2,1,aC z)]=some (.sl h.next 0 3 (.kn 3),h.new (.cells false (ints [x,y,z]))):=rfl
theorem acI (a b:KE)(h:H)(B:a.At h)(Y:b.At h):Ev T 187 [.agg a.enc,.agg b.enc] h (λv h'=>v= aC (a.cmp b)/\Fr h h'):=by
 refine cV Br rfl ?_;obtain⟨A,r⟩:=exI h.next;obtain⟨h1,Z,x,z,o1,P⟩:=dF r a.enc;obtain⟨f,W,n2,g,K,G⟩:=dF x b.enc;have F2:=P.trans G;have O:f.get A=some (.cells false a.enc):=by rw[K _ om];exact z
 simp(disch:=omega)only[go_sem,Br,aD,Hf,r,Z,x,W,Ck O,Ck g,Jp,H.Ym];have hn:=F2.next;refine (JF a b _).mono ?_;rintro _ j ⟨rfl,w⟩;have t:Fr f j:=((Fr.refl f).bA om).trans w;have q:j.get (A+1)=some (.cells false b.enc):=by rw[t.get _ om];exact g
 simp(disch:=omega)only[go_sem,Ck q,Jp];refine (vW a b _).mono ?_;rintro _ F ⟨rfl,s⟩;have i:=t.trans s;have m:F.get (A+1)=some (.cells false b.enc):=by rw[i.get _ om];exact g
 simp(disch:=omega)only[go_sem,Ck m,Jp];refine (JT a b _ (B.fr (F2.trans i)) (Y.fr (F2.trans i))).mono ?_;rintro _ e ⟨rfl,y⟩;have p:=i.trans y;have n:e.get (A+1)=some (.cells false b.enc):=by rw[p.get _ om];exact g
 simp(disch:=omega)only[go_sem,Ck n,Jp];obtain⟨I,J⟩:=exI (f.next+9+9);have n5:=y.next;have n4:=s.next;have n3:f.next+9+12<=j.next:=w.next;simp(disch:=omega)only[go_sem,J,DK]
 obtain⟨d,c⟩: ∃d:H,d=H.mk ((H.mk e.tr I).new (Ob.cells false (ints [rQ a.ord b.ord,rQ a.size b.size,rQ a.fst b.fst]))).tr e.next:=⟨_,rfl⟩
 rw[←c];have U:d.get I=aZ (ints [rQ a.ord b.ord,rQ a.size b.size,rQ a.fst b.fst]):=by rw[c];exact H.aL (H.mk e.tr I) _
 have n6:d.next=e.next:=by rw[c]
 have R: ∀k,k≠I->d.get k=e.get k:=λk o=>by rw[c];exact H.bG (H.mk e.tr I) (by simpa using o) _
 have Q:Fr f d:=⟨by have:=p.next;omega,λk o=>by rw[R k om];exact p.get k o⟩
 refine (agZ _ [rQ a.ord b.ord,rQ a.size b.size,rQ a.fst b.fst] d (by simp) (SV.all (by simp [aP]) om U _)).mono ?_;rintro _ N ⟨rfl,L⟩;have u:=Q.trans L;have l:N.get (A+1)=some (.cells false b.enc):=by rw[u.get _ om];exact g
 simp(disch:=omega)only[go_sem,Ck l,Jp];exact⟨rfl,F2.trans u⟩
theorem KE.lt_iff (a b:KE):a.lt b=true↔a.ord<b.ord∨a.ord=b.ord/\(a.size<b.size∨a.size=b.size/\a.fst<b.fst):=by
 unfold KE.lt KE.cmp NF NF NF NF rQ;rw[decide_eq_true_eq]
 repeat' split
 all_goals omega
theorem agI:SWO KE.lt where
 irrefl x:=by rw[←Bool.not_eq_true,KE.lt_iff];omega
 trans x y z h1 h2:=by rw[KE.lt_iff] at*;omega
 ntrans x y z h1 h2:=by rw[←Bool.not_eq_true,KE.lt_iff] at*;omega
def KE.Pp (hB:H)(b0 S:Nat)(a:KE):Prop:= ∃id off n cap,a.ranks= .sl id off (n+1) cap/\id<b0/\id≠S/\hB.cell id off=some (aC (a.fst:Int))
def Bb (hB:H)(b0 S:Nat)(h:H):Prop:=b0<=h.next/\ ∀q,q<b0->q≠S->h.get q=hB.get q
theorem KE.Pp.at {i h:H}{g S:Nat}{a:KE}(p:a.Pp i g S)(b:Bb i g S h):a.At h:=by
 obtain⟨id,d,n,c,e,f,k,j⟩:=p;refine⟨id,d,n,c,e,iW f b.1,?_⟩;rw[←j];unfold H.cell;rw[b.2 id f k]
@[reducible] def ahG (hB:H)(b0 S:Nat):aN KE where
 lt:=KE.lt
 enc:=KE.enc
 P:=KE.Pp hB b0 S
 B:=Bb hB b0 S
 f:=187
 b0:=b0
 S:=S
 swo:=agI
 len _:=rfl
 one a:=by simp [KE.enc,a.hrep.2.1,a.hranks.2.1,show (aC (a.ord:Int)).one=true from rfl,show (aC (a.size:Int)).one=true from rfl]
 eqv:=Jp
 cmp h a b hb pa pb:=(acI a b h (pa.at hb) (pb.at hb)).mono λv h' ⟨e,f⟩=>⟨_,e,rfl,f⟩
 bfr h h' b f:=⟨mT b.1 f.next,λq h1 h2=>by rw[f.get q (iW h1 b.1)];exact b.2 q h1 h2⟩
 bS h h' b f:=⟨mT b.1 f.next,λq h1 h2=>by rw[f.get q (iW h1 b.1) h2];exact b.2 q h1 h2⟩
 bR h h' R b hR f:=⟨mT b.1 f.next,λq h1 h2=>by rw[f.get q (iW h1 b.1) (λe=>by have:q=R:=e;omega)];exact b.2 q h1 h2⟩
 bn h b:=b.1
theorem Pa {l:List KE}{N:Nat}(h:l.length=N){e:Array KE}(q:PermIn 0 N l.toArray e)(o:SortedIn KE.lt 0 N e):e.toList.Perm l/\e.toList.Pairwise (λa b=>KE.lt b a=false):=by
 obtain⟨r,t,n⟩:=q;have c:e.size=N:=by rw[r];simpa using h
 refine⟨?_,?_⟩
 ·have k:(e.extract 0 N).toList=e.toList:=by rw[←c];simp
  have s:(l.toArray.extract 0 N).toList=l:=by rw[←h];simp
  rwa [k,s] at n
 ·rw[JX]
  intro i j hi g d;have f:j<N:=by simpa [c] using g
  have:=o i j (iJ _) d f;have m:e[i]! =e.toList[i]:=by simp at hi;simp [hi]
  have p:e[j]! =e.toList[j]:=by simp at g;simp [g]
  rw[m,p] at this;exact this
def qY (l:List KE):List V:=l.flatMap KE.enc
theorem TY (h:H)(S d:Nat)(l:List KE)(f:lI)(m:l.length<60000)(g:h.get S=aZ (qY l))(q:S<h.next)(o:d<=h.next)(n: ∀a∈l,a.Pp h d S):
  Ev T 186 [.sl S 0 l.length f,.fn 187 [] []] h (λ_ h'=> ∃l',h'.get S=aZ (qY l')/\l'.Perm l/\l'.Pairwise (λa b=>KE.lt b a=false)/\Fx (· =S) h h'):=by
 letI:=ahG h d S
 have A:cE h S l.length l.toArray:=⟨g,by simp,q,rfl,⟨o,λ_ _ _=>rfl⟩,λi hi=>by
  have c:i<l.length:=by simpa using hi
  have:l.toArray[i]! =l[i]:=by simp [c]
  rw[this]
  exact n _ (zG c)⟩
 refine (zU h S l.length l.toArray f m A).mono ?_
 rintro _ h' ⟨e,k,p,s,F⟩
 obtain⟨j,r⟩:=Pa rfl p s
 exact⟨e.toList,k.get,j,r,F⟩
end Go.Proofs.YtcdbmkidaecdiaaGreat.Cls
namespace Go.Proofs.YtcdbmkidaecdiaaGreat
open Go Go.Ay Go.Pm
set_option maxRecDepth 100000
section
variable {i j p:Nat} {S:LN} {Q:List Nat}
section
variable {n:Nat} {G:List Nat->Prop} {L:LN}
theorem yK {l:LN}(nd:l.Nodup)(hi:i<l.length)(b:j<l.length)(e:l.getD i []=l.getD j []):i=j:=by
 have d:l.getD i []=l[i]:=by rw[List.getD,dD hi];rfl
 have c:l.getD j []=l[j]:=by rw[List.getD,dD b];rfl
 rw[d,c] at e;have h:=JX.1 nd;rcases Nat.lt_trichotomy i j with a|a|a
 ·exact absurd e (h i j hi b a)
 ·exact a
 ·exact absurd e.symm (h j i b hi a)
def cR (G:List Nat->Prop)(L:LN)(i j:Nat):Prop:=cj G (L.getD i []) (L.getD j [])
open Classical in
noncomputable def kY (G:List Nat->Prop)(L:LN)(i:Nat):List Nat:=(List.range L.length).filter λj=>decide (cR G L i j)
theorem tA:j∈kY G L i↔j<L.length/\cR G L i j:=by
 classical
 unfold kY;rw[CH,Gu,Qf]
theorem Zq (i:Nat):(kY G L i).Pairwise (· < ·):=by
 classical
 unfold kY;exact List.Pairwise.filter _ List.pairwise_lt_range
theorem Oz (i:Nat):(kY G L i).Nodup:=by
 classical
 unfold kY;exact List.Pairwise.filter _ List.nodup_range
def HV (G:List Nat->Prop)(L:LN)(i:Nat):Prop:= ∀j,j<i-> ¬cR G L j i
open Classical in
noncomputable def jW (G:List Nat->Prop)(L:LN)(k:Nat):List Nat:=(List.range k).filter λj=>decide (HV G L j)
theorem Nx (k:Nat):(HV G L k->jW G L (k+1)=jW G L k++ [k])/\(¬HV G L k->jW G L (k+1)=jW G L k):=by
 classical
 unfold jW;rw[List.range_succ,List.filter_append];refine⟨λh=>?_,λh=>?_⟩
 ·rw[List.filter_cons_of_pos (by simpa using h)];rfl
 ·rw[List.filter_cons_of_neg (by simpa using h),List.filter_nil,vF]
theorem kV {k:Nat}:i∈jW G L k↔i<k/\HV G L i:=by
 classical
 unfold jW;rw[CH,Gu,Qf]
variable (hG:iX n G) (E:dW G L)
include hG E
omit hG in
theorem oS (hi:i<L.length):G (L.getD i []):=(E.mem _).1 (bD hi)
theorem lY (hi:i<L.length):bE n (L.getD i []):=hG.cU (oS E hi)
theorem Uw (hi:i<L.length):cR G L i i:=XO hG (lY hG E hi)
theorem Ls (hi:i<L.length)(h:cR G L i j):cR G L j i:=XN hG (lY hG E hi) h
theorem wJ {k:Nat}(hi:i<L.length)(h:cR G L i j)(h2:cR G L j k):cR G L i k:=UT hG (lY hG E hi) h h2
theorem Vo (hi:i<L.length): ∃r,r<=i/\HV G L r/\cR G L r i:=by
 induction i using Nat.strongRecOn with
 |_ i ih=>
  by_cases h:HV G L i
  ·exact⟨i,fM _,h,Uw hG E hi⟩
  ·obtain⟨j,b,a⟩: ∃j,j<i/\cR G L j i:=Jg λe=>h λj b a=>e ⟨j,b,a⟩
   obtain⟨r,f,d,c⟩:=ih j b om;exact⟨r,om,d,wJ hG E om c a⟩
theorem VQ {r s:Nat}(b:r<L.length)(c:s<L.length)(f:HV G L r)(h2:HV G L s)(d:cR G L r i)(a:cR G L s i):r=s:=by
 have e:=wJ hG E b d (Ls hG E c a);have g:=wJ hG E c a (Ls hG E b d);rcases Nat.lt_trichotomy r s with h|h|h
 ·exact absurd e (h2 r h)
 ·exact h
 ·exact absurd g (f s h)
omit hG E in
structure BQ (G:List Nat->Prop)(L S:LN)(i:Nat)(Q:List Nat)(p:Nat):Prop where
 nd:Q.Nodup
 ne:0<Q.length
 hd:Q.getD 0 0=i
 mem: ∀j∈Q,j<L.length/\cR G L i j
 cl: ∀k,k<p-> ∀s∈S,∃j∈Q,L.getD j []=cW (L.getD (Q.getD k 0) []) s
omit hG E in
theorem BQ.len (b:BQ G L S i Q p):Q.length<=L.length:=by
 have h:Q ⊆ List.range L.length:=λj a=>Gu.2 (b.mem j a).1
 have:=List.Nodup.length_le_of_subset b.nd h;rwa [NM] at this
theorem BQ.done (b:BQ G L S i Q p)(w:Q.length<=p)(hi:i<L.length)(o: ∀s∈S,G s)(a: ∀x,G x->bX n (λg=>g∈S) x)(j:Nat):j∈Q↔j<L.length/\cR G L i j:=by
 refine⟨b.mem j,λ⟨q,hc⟩=>?_⟩
 have h: ∃k∈Q,L.getD k []=L.getD j []:=by
  refine adZ (S:=λg=>g∈S) (λg f=>hG.cU (o g f)) a (P:=λy=> ∃k∈Q,L.getD k []=y) (lY hG E hi) ⟨i,by rw[←b.hd];exact bD b.ne,rfl⟩ ?_ hc;rintro y g Y ⟨k,c,rfl⟩ f;obtain⟨t,r,v⟩:=zF.1 c;obtain⟨m,u,l⟩:=b.cl t om g f;have e:Q.getD t 0=k:=by rw[Pm.cJ r,v]
  rw[e] at l;exact⟨m,u,l⟩
 obtain⟨k,c,e⟩:=h;have d:=(b.mem k c).1;rw[←yK E.nodup d q e];exact c
theorem BQ.sort (b:BQ G L S i Q p)(e:Q.length<=p)(hi:i<L.length)(f: ∀s∈S,G s)(a: ∀x,G x->bX n (λg=>g∈S) x){c:List Int}(d:c.Perm (zi Q))(h2:c.Pairwise (· <= ·)):c=zi (kY G L i):=by
 refine AN (d.trans ?_) h2 ?_
 ·refine List.Perm.map _ ((List.perm_ext_iff_of_nodup b.nd (Oz i)).2 λj=>?_)
  rw[b.done hG E e hi f a j,tA]
 ·unfold zi
  rw[List.pairwise_map];exact (Zq i).imp λh=>om
theorem Sr (hi:i<L.length)(g:HV G L i):0<(kY G L i).length/\(kY G L i).getD 0 0=i:=by
 have e:i∈kY G L i:=tA.2 ⟨hi,Uw hG E hi⟩;have a:=HJ e;refine⟨a,?_⟩;have l:=tA.1 (bD (d:=0) a);obtain⟨k,h,f⟩:=zF.1 e;have c:=JX.1 (Zq (G:=G) (L:=L) i);rw[Pm.cJ a] at*
 by_cases b:k=0
 ·subst b;exact f
 ·have m:=c 0 k a h om
  exact absurd (Ls hG E hi l.2) (g _ om)
end
end
end Go.Proofs.YtcdbmkidaecdiaaGreat
namespace Go.Ay
open Go
def OQ (o:Option Ob)(h:H)(id:Nat)(s:Cy)(k y:V):Option (V×H):=match o with
 |some (.wmap sh es)=>if s=sh/\isKey s k=true then
   some (V.undef,h.set id (some (.wmap sh (match gY k es with
    |some e=>es.set e.1 (k,y)
    |none=>es++ [(k,y)]))))
  else none
 |_=>none
def aeH (s:Cy)(h:H)(x k y:V):Option (V×H):=match x with
 | .mp id=>OQ (h.get id) h id s k y
 |_=>none
theorem ZU (ρ:X->V)(h:H)(s:Cy)(x k y:X):cI ρ h (.msw s x k y)=aeH s h (ρ x) (ρ k) (ρ y):=by
 simp only[cI,aeH,OQ];cases ρ x<;>try rfl
theorem YP (s:Cy)(h:H)(id:Nat)(k y:V):aeH s h (.mp id) k y=OQ (h.get id) h id s k y:=rfl
def RK (o:Option Ob)(s:Cy)(zero:V)(ok:Bool)(k:V):Option V:=match o with
 |some (.wmap sh es)=>if s=sh/\isKey s k=true then
   match gY k es with
   |some e=>some (if ok then .tup [e.2,.bool true] else e.2)
   |none=>some (if ok then .tup [zero,.bool false] else zero)
  else none
 |_=>none
def afQ (s:Cy)(zero:V)(ok:Bool)(h:H)(x k:V):Option V:=match x with
 | .mp id=>RK (h.get id) s zero ok k
 |_=>none
theorem acA (ρ:X->V)(h:H)(s:Cy)(zero:V)(ok:Bool)(x k:X):cI ρ h (.lkw s zero ok x k)=(afQ s zero ok h (ρ x) (ρ k)).map (·,h):=by
 simp only[cI,afQ,RK];cases ρ x<;>try rfl
 rename_i id;simp only
 cases hg:h.get id with
 |none=>rfl
 |some o=>
  cases o<;>try rfl
  rename_i b c;simp only
  by_cases a:s=b/\isKey s (ρ k)=true
  ·rw[bF a,bF a]
   cases gY (ρ k) c<;>rfl
  ·rw[bI a,bI a];rfl
theorem abX (s:Cy)(zero:V)(ok:Bool)(h:H)(id:Nat)(k:V):afQ s zero ok h (.mp id) k=RK (h.get id) s zero ok k:=rfl
attribute [go_sem] ZU YP acA abX
end Go.Ay
namespace Go.Proofs.YtcdbmkidaecdiaaGreat
open Go Go.Ay Go.Pm
set_option maxRecDepth 100000
def Ie (L:LN)(k:Nat):List (V×V):=(List.range k).map λi=>(V.str (L.getD i []),aC i)
theorem Iy (k:V): ∀(a b:List (V×V)),gY k a=none->gY k (a++b)=(gY k b).map λq=>(q.1+a.length,q.2)
 | [],b,_=>by
  cases h:gY k b<;>simp [h]
 |e::a,b,h=>by
  show (if dE k e.1 then some (0,e.2) else (gY k (a++b)).map λq=>(q.1+1,q.2))=_;have c:(if dE k e.1 then some (0,e.2) else (gY k a).map λq=>(q.1+1,q.2))=none:=h;split at c
  ·cases c
  ·rename_i d
   rw[bI d,Iy k a b (by cases h2:gY k a with|none=>rfl|some x=>rw[h2] at c;cases c),Option.map_map]
   rfl
theorem Oy (L:LN)(k:Nat):Ie L (k+1)=Ie L k++ [(V.str (L.getD k []),aC k)]:=by
 unfold Ie;rw[List.range_succ,List.map_append];rfl
theorem Oi {L:LN}{w:List Nat}: ∀{k:Nat},(∀i,i<k->L.getD i []≠w)->gY (.str w) (Ie L k)=none
 |0,_=>rfl
 |k+1,h=>by
  rw[Oy,Iy _ _ _ (Oi λi hi=>h i om)]
  have:(dE (.str w) (.str (L.getD k [])))=false:=by
   have:=h k om;simp only[dE,beq_eq_false_iff_ne,ne_eq];exact λe=>this e.symm
  show Option.map _ (if dE (.str w) (.str (L.getD k [])) then _ else _)=_;rw[bI (by rw[this];simp)];rfl
theorem Xt {L:LN}(nd:L.Nodup): ∀{k i:Nat},k<=L.length->i<k->gY (.str (L.getD i [])) (Ie L k)=some (i,aC i)
 |0,i,_,h=>om
 |k+1,i,hk,h=>by
  rw[Oy]
  by_cases e:i=k
  ·subst e
   rw[Iy _ _ _ (Oi λj l e=>by have:=yK nd om om e;omega)];show Option.map _ (if dE (.str (L.getD i [])) (.str (L.getD i [])) then some (0,aC i) else _)=_;rw[bF (by simp [dE])];simp [Ie]
  ·have g:=Xt nd (k:=k) om (show i<k by omega)
   have d: ∀(a b:List (V×V)) (x:V) (r:Nat×V),gY x a=some r->gY x (a++b)=some r:=by
    intro a
    induction a with
    |nil=>intro b x r h;cases h
    |cons y a ih2=>
     intro b x r h;show (if dE x y.1 then some (0,y.2) else (gY x (a++b)).map λq=>(q.1+1,q.2))=_;have c:(if dE x y.1 then some (0,y.2) else (gY x a).map λq=>(q.1+1,q.2))=some r:=h
     by_cases f:dE x y.1=true
     ·rw[bF f] at c ⊢;exact c
     ·rw[bI f] at c ⊢
      cases h2:gY x a with
      |none=>rw[h2] at c;cases c
      |some r2=>rw[h2] at c;rw[ih2 b x r2 h2];exact c
   exact d _ _ _ _ g
theorem xY {w:List Nat}(b:w.length<=1000)(h2: ∀x∈w,x<256):isKey .str (.str w)=true:=by
 have e:(decide (w.length<2^62)&&w.all λn=>decide (n<256))=true:=by
  rw[vN,decide_eq_true_eq,Kv];exact⟨om,λx a=>by simpa using h2 x a⟩
 exact e
theorem Xx {L:LN}(nd:L.Nodup){k:Nat}(c:k<L.length)(b:isKey .str (.str (L.getD k []))=true)(a:H)(M:Nat):
  OQ (some (.wmap .str (Ie L k))) a M .str (.str (L.getD k [])) (aC k)=some (.undef,a.set M (some (.wmap .str (Ie L (k+1))))):=by
 have e:gY (.str (L.getD k [])) (Ie L k)=none:=Oi λj d e=>by have:=yK nd om c e;omega
 simp only[OQ]
 rw[bF ⟨trivial,b⟩,e,Oy]
theorem Np {L:LN}(nd:L.Nodup){i:Nat}(hi:i<L.length)(a:isKey .str (.str (L.getD i []))=true)(z:V):
  RK (some (.wmap .str (Ie L L.length))) .str z false (.str (L.getD i []))=some (aC i):=by
 simp only[RK]
 rw[bF ⟨trivial,a⟩,Xt nd (fM _) hi];rfl
end Go.Proofs.YtcdbmkidaecdiaaGreat
