/- Texts of the claim. -/
import Derived.Test.YtcdbmkidaecdiaaGreatDp2toP5p
import Derived.Test.YtcdbmkidaecdiaaGreatAy39
import Derived.Test.YtcdbmkidaecdiaaGreatC16code
import Derived.Sort.AssemblyPlain
set_option maxHeartbeats 64000000
namespace Go.Proofs.YtcdbmkidaecdiaaGreat
open Go Go.Ay Go.Pm
set_option maxRecDepth 100000
section
variable {n i:Nat} {O:List (List Int)} {R:List (List (List Int))}
def QY (n:Nat)(O:List (List Int))(R:List (List (List Int)))(j:Nat):Prop:=((R.getD j []).length=(O.getD j []).length/\(R.getD j []).length<=n-j)/\ ∀x∈R.getD j [],x.length=n/\mC x=true
theorem OT.of (a:O.length=n)(h2:R.length=n)(h: ∀j,j<n->QY n O R j):OT n O R:=⟨a,h2,λi hi=>(h i hi).1,λi hi=>(h i hi).2⟩
theorem xA (a:1<=n)(h2:n<=64)(h: ¬OT n O R):jL (n:Int) O R=3:=by
 unfold jL;rw[bL om,bL (λc=>h c.frm)]
theorem aW {α:Type}{l:List α}{k:Nat}{d:α}(h:k<l.length):l.getD k d∈l:=by
 rw[List.getD,dF h];exact Bu h
theorem dE {α:Type}{l:List α}{k:Nat}(d:α)(h:k<l.length):l.take (k+1)=l.take k++ [l.getD k d]:=by
 rw[←List.take_append_getElem h,List.getD,dF h];rfl
theorem oM {R:List (List (List Int))}{m:Nat}: ∀{i:Nat},i<=R.length->(∀j,j<i->(R.getD j []).length<=m)->((R.take i).flatten).length<=i*m
 |0,_,_=>by simp
 |i+1,h,hr=>by
  rw[←List.take_append_getElem (show i<R.length by omega),List.flatten_append,iA];have c:=oM (i:=i) om (λj b=>hr j om);have a:=hr i om;rw[List.getD,dF om] at a;have a:R[i].length<=m:=a;simp only[List.flatten_cons,List.flatten_nil,tD];rw[Nat.succ_mul];omega
theorem Ky {G:List Nat->Prop}(a: ∀x,G x->bC n x){O:LN}{R:fM}(f:n<=64)(c:aZ n G O R):jK (O.map zi)/\sQ (R.map (List.map zi)):=by
 have d: ∀i,i<n->(O.getD i []).length<=n:=λi hi=>lX (lQ a hi (c.asc i hi) (c.mem i hi)) om
 refine⟨⟨by rw[iN,c.lo];omega,λi hi=>?_⟩,⟨by rw[iN,c.lr];omega,λi hi=>?_⟩⟩
 ·rw[iN,c.lo] at hi
  have:(O.map zi).getD i []=zi (O.getD i []):=by simp [List.getD,show i<O.length by rw[c.lo];exact hi]
  rw[this,aN];have:=d i hi;omega
 ·rw[iN,c.lr] at hi
  have e:(R.map (List.map zi)).getD i []=(R.getD i []).map zi:=by simp [List.getD,show i<R.length by rw[c.lr];exact hi]
  rw[e,iN,c.rl i hi];refine⟨by have:=d i hi;omega,λk b=>?_⟩
  have:((R.getD i []).map zi).getD k []=zi ((R.getD i []).getD k []):=by
   have:=c.rl i hi;simp [List.getD,show k<(R[i]?.getD []).length by simp [List.getD] at this b;omega]
  rw[this,aN,(a _ (c.rep i hi k b).mem).len];omega
theorem sQ.out (s:sQ R):lK R:=⟨s.1,λi hi=>(s.2 i hi).1⟩
theorem lK.inn (s:lK R)(f: ∀i,i<R.length-> ∀x∈R.getD i [],x.length=n)(b:n<=64):sQ R:=⟨s.1,λi hi=>⟨s.2 i hi,λk a=>by rw[f i hi _ (aW a)];omega⟩⟩
theorem Th {α:Type}{R:List (List α)}(hi:i<R.length):(R.take (i+1)).flatten=(R.take i).flatten++R.getD i []:=by
 rw[←List.take_append_getElem hi,List.flatten_append];simp [List.getD,hi]
structure ME (h hh:H)(B id b:Nat)(r:dY)(n:Nat)(vO vR:V)(O:List (List Int))(R:List (List (List Int)))(i:Nat)(acc:List (List Int)):Prop where
 gB:hh.get B=some (.cells false [aC n,vO,vR])
 gR:hh.get (B+1)=some (.cells false [aC 0])
 gN:hh.get (B+1+1)=some (.cells false [aC n])
 gA: ∃va ws,hh.get (B+1+1+1)=some (.cells false [va])/\cQ hh va 1 ws (id+1)/\aM (SI h) ws acc
 gr:hh.get id=some (.loop r)
 gb:hh.get b=some (.cells false [aC n,vO,vR])
 nx:id<hh.next
 fr:Fr h hh
 rows: ∀j,j<i->QY n O R j
structure CkD (h hh:H)(B id:Nat)(r:dY)(n:Nat)(O:List (List Int))(R:List (List (List Int))):Prop where
 gR:hh.get (B+1)=some (.cells false [aC 3])
 gr:hh.get id=some (.loop (tM r .ret))
 nx:id<hh.next
 fr:Fr h hh
 bad: ¬OT n O R
theorem ME.mono {h j h2:H}{B id b:Nat}{r:dY}{e d:V}{c:List (List Int)}(J:ME h j B id b r n e d O R i c)(m:B+1+1+1<id)(p:b<id)(f:Fr j h2):ME h h2 B id b r n e d O R i c:=by
 obtain⟨l,k,g,o,a⟩:=J.gA;have:=J.nx;exact⟨by rw[f.get _ om];exact J.gB,by rw[f.get _ om];exact J.gR,by rw[f.get _ om];exact J.gN,⟨l,k,by rw[f.get _ om];exact g,o.fr f,a⟩,by rw[f.get _ om];exact J.gr,by rw[f.get _ om];exact J.gb,jB J.nx f.next,J.fr.trans f,J.rows⟩
theorem ME.loop {h d h2:H}{B id b:Nat}{r r2:dY}{j e:V}{c:List (List Int)}(J:ME h d B id b r n j e O R i c)(u:B+1+1+1<id)(w:b<id)(t:h.next<=B)(g:h2.get id=some (.loop r2))(f:h2.next=d.next)(o: ∀k,k≠id->h2.get k=d.get k):ME h h2 B id b r2 n j e O R i c:=by
 obtain⟨s,l,p,m,a⟩:=J.gA;refine⟨by rw[o _ om];exact J.gB,by rw[o _ om];exact J.gR,by rw[o _ om];exact J.gN,⟨s,l,by rw[o _ om];exact p,m.mono om λk _ _ _ _ v _=>o k om,a⟩,g,by rw[o _ om];exact J.gb,by rw[f];exact J.nx,⟨by rw[f];exact J.fr.next,λk q=>by rw[o k om];exact J.fr.get k q⟩,J.rows⟩
theorem Yu (vc:V)(d:Int)(O:List (List Int))(R:List (List (List Int)))(h:H)(hc:Ig h vc d O R)(hd:d<=7∨64<d)(so:jK O)(sr:lK R):
  Ev T 135 [vc] h (λv h'=>v= aC (jL d O R)/\Fr h h'):=by
 obtain⟨p,o,rfl,sO,sR⟩:=hc
 refine cT jZ rfl ?_
 obtain⟨wO,tO,aO⟩:=sO
 obtain⟨wR,tR,aR,kR⟩:=sR
 have lO:=aO.length
 have lR:=aR.length
 have b7:bF p=some (aC (O.length:Int)):=by unfold bF;rw[tO.len (n:=O.length) om om];rfl
 have e8:bF o=some (aC (R.length:Int)):=by unfold bF;rw[tR.len (n:=R.length) om om];rfl
 have a7:=tO.cF.2.1
 have a9:=tR.cF.2.1
 obtain⟨B,hB⟩:=exI h.next
 obtain⟨h1,e1,n1,g1,o1,f1⟩:=cU hB [aC d,p,o]
 obtain⟨h2,e2,n2,g2,o2,f2⟩:=cU n1 [aC 0]
 obtain⟨h3,e3,n3,g3,o3,f3⟩:=cU n2 [aC 0]
 obtain⟨h4,e4,n4,g4,o4⟩:=mD h3 (B+1+1) [aC d]
 have W:h2.get B=some (.cells false [aC d,p,o]):=by rw[o2 _ om];exact g1
 have a2:h4.get B=some (.cells false [aC d,p,o]):=by rw[o4 _ om,o3 _ om];exact W
 have t:h4.get (B+1)=some (.cells false [aC 0]):=by rw[o4 _ om,o3 _ om];exact g2
 have F4:Fr h h4:=by
  refine⟨om,λid b9=>?_⟩;rw[o4 _ om,o3 _ om,o2 _ om,o1 _ om]
 have Y: ∀(l:H) (id:Nat) (x y:Int),dR (some (.cells false [aC x])) l id 0 [aC y]=some (l.set id (some (.cells false [aC y]))):=λl id x y=>bP (by simp) l _ _
 have bx:=aQ h (v:= aC d) (u:=p) (w:=o) rfl a7 a9
 have j8:=H.aF t
 have a4: ∀z:Int,(h4.set (B+1) (some (.cells false [aC z]))).cell (B+1) 0=some (aC z)/\Fr h (h4.set (B+1) (some (.cells false [aC z]))):=λz=>⟨by rw[H.Dk];rfl,F4.set om _⟩
 by_cases b1:d<1
 ·have s:=bN b1
  simp(disch:=omega)only[go_sem,jZ,aD,bx,hB,e1,n1,e2,n2,e3,H.aF W,g3,Y,e4,H.aF g4,s,t]
  exact⟨by unfold jL;rw[bJ (.inl b1)],(a4 2).2⟩
 have s:=bE b1
 by_cases c0:64<d
 ·have d2:=bN c0
  simp(disch:=omega)only[go_sem,jZ,aD,bx,hB,e1,n1,e2,n2,e3,H.aF W,g3,Y,e4,H.aF g4,s,d2,t]
  exact⟨by unfold jL;rw[bJ (.inr c0)],(a4 2).2⟩
 have d2:=bE c0
 obtain⟨n,rfl⟩: ∃n:Nat,d=(n:Int):=⟨d.toNat,om⟩
 have Z:1<=n:=om
 have c9:n<=7:=om
 by_cases c2:(O.length:Int)≠(n:Int)
 ·have dl:=bN c2
  simp(disch:=omega)only[go_sem,jZ,aD,bx,hB,e1,n1,e2,n2,e3,H.aF W,g3,Y,e4,H.aF g4,s,d2,t,H.aF a2,b7,dl]
  exact⟨by rw[xA Z om (λf=>c2 (by have:=f.lo;omega))],(a4 3).2⟩
 have dl:=bE c2
 by_cases b8:(R.length:Int)≠(n:Int)
 ·have b4:=bN b8
  simp(disch:=omega)only[go_sem,jZ,aD,bx,hB,e1,n1,e2,n2,e3,H.aF W,g3,Y,e4,H.aF g4,s,d2,t,H.aF a2,b7,dl,e8,b4]
  exact⟨by rw[xA Z om (λf=>b8 (by have:=f.lr;omega))],(a4 3).2⟩
 have b4:=bE b8
 have e6:h4.next=B+1+1+1:=by rw[n4];exact n3
 obtain⟨h5,e5,n5,g5,o5,f5⟩:=cU e6 [.aE]
 have d5:h5.get B=some (.cells false [aC n,p,o]):=by rw[o5 _ om];exact a2
 have rB:=aG d5
 simp(disch:=omega)only[go_sem,jZ,aD,bx,hB,e1,n1,e2,n2,e3,H.aF W,g3,Y,e4,H.aF g4,s,d2,t,H.aF a2,b7,dl,e8,b4,e6,e5,rB]
 refine (HY (n:Int) p o a7 a9 h5).mono ?_
 rintro _ U ⟨rfl,g6,n6,f6⟩
 simp(disch:=omega)only[go_sem]
 have F6:Fr h U:=(F4.trans f5).trans f6
 have h0:U.get B=some (.cells false [aC n,p,o]):=by rw[f6.get _ om];exact d5
 have j0:U.get (B+1)=some (.cells false [aC 0]):=by rw[f6.get _ om,f5.get _ om];exact t
 have g0:U.get (B+1+1)=some (.cells false [aC n]):=by rw[f6.get _ om,f5.get _ om];exact g4
 have i3:U.get (B+1+1+1)=some (.cells false [.aE]):=by rw[f6.get _ om];exact g5
 refine⟨rfl,uT λr hr=>?_⟩
 obtain⟨id,b9⟩:=exI U.next
 obtain⟨b,hb⟩:=exI h5.next
 rw[hb] at g6 n6
 rw[b9,hb]
 have iB:r.st= .ready:=by rw[hr]
 have b0:r.pend=none:=by rw[hr]
 have j2:R.length=n:=om
 have i5:O.length=n:=om
 have f7:Fr U (U.new (.loop r)):=(Fr.refl U).new _
 have o7: ∀k,k<id->(U.new (.loop r)).get k=U.get k:=λk hk=>H.bD U om _
 have J0:ME h (U.new (.loop r)) B id b r n p o O R 0 []:=
  ⟨by rw[o7 _ om];exact h0,by rw[o7 _ om];exact j0,by rw[o7 _ om];exact g0,⟨.aE, [],by rw[o7 _ om];exact i3,cQ.aE _ _ _,trivial⟩,by rw[←b9,H.aL],by rw[o7 _ om];exact g6,by rw[H.aU];omega,F6.trans f7,λj hj=>om⟩
 refine (Xp id b (n:Int) p o wR _ (by rw[lR];exact sr.1) (λi l=>ME h l B id b r n p o O R i (R.take i).flatten) (λl=>CkD h l B id r n O R) J0 (λi l J=>⟨J.gb,tR.mono J.fr⟩) ?_).mono ?_
 ·rintro i l hi J
  have a3:i<n:=om
  refine tE J.gr (by rw[hr];rfl) iB λG g7 n7 o7=>?_
  rw[congrArg dY.assign hr,congrArg dY.vars hr,congrArg dY.pars hr]
  simp(disch:=omega)only[go_sem,List.zip_cons_cons,List.zip_nil_left]
  rw[congrArg dY.body hr]
  have J7:ME h G B id b (oV r) n p o O R i (R.take i).flatten:=J.loop om om om g7 n7 o7
  have d0:=gE aO (i:=i) om .undef []
  have d4:=gE aR (i:=i) om .undef []
  obtain⟨wr,tr,ar⟩:=d4
  have lr:=ar.length
  have b2:bF (wR.getD i .undef)=some (aC ((R.getD i []).length:Int)):=by unfold bF;rw[tr.len (n:=(R.getD i []).length) om om];rfl
  have c1:=d0.lens
  obtain⟨f4,c7,a0,c5,d6⟩:=(tO.mono J7.fr).shape O.length om om
  have co:G.cell f4 (c7+i)=some (wO.getD i .undef):=by rw[d6 i om,List.getD,dF om];rfl
  have cB:=H.aF J7.gB
  have cN:=H.aF J7.gN
  have d9: ∀l K,ME h l B id b (oV r) n p o O R i K-> ¬OT n O R->CkD h ((l.set (B+1) (some (.cells false [aC 3]))).set id (some (.loop (tM r .ret)))) B id r n O R:=λl K J hb=>by
   have:=J.nx;refine⟨by rw[H.aH _ om,H.aS],by rw[H.aS],J.nx,(J.fr.set om _).set om _,hb⟩
  have yq: ∀l q K,ME h l B id b (oV r) n p o O R i K-> ¬OT n O R->Jp id (λv h'=>v= .bool true/\ME h h' B id b r n p o O R (i+1) (R.take (i+1)).flatten∨v= .bool false/\CkD h h' B id r n O R) .ret q (l.set (B+1) (some (.cells false [aC 3]))):=λl q K J hb=>
   Tl (by rw[H.aH _ om];exact J.gr) (.inr ⟨rfl,d9 l K J hb⟩)
  by_cases A:((R.getD i []).length:Int)≠((O.getD i []).length:Int)
  ·have s:=bN A
   simp(disch:=omega)only[go_sem,b2,cB,a0.ixa,co,c1,s,J7.gR,Y]
   exact yq _ _ _ J7 λf=>A (by have:=(f.row i a3).1;omega)
  have s:=bE A
  by_cases c3:(n:Int)-(i:Int)<((R.getD i []).length:Int)
  ·have d2:=bN c3
   simp(disch:=omega)only[go_sem,b2,cB,cN,a0.ixa,co,c1,s,d2,J7.gR,Y]
   exact yq _ _ _ J7 λf=>by have:=(f.row i a3).2;omega
  have d2:=bE c3
  simp(disch:=omega)only[go_sem,b2,cB,cN,a0.ixa,co,c1,s,d2]
  refine aI (λk' q l=> ∃(k:Nat),(∃g:Nat->V,q= [g 0,.ptr B 0,.ptr (B+1) 0,.ptr (B+1+1) 0,.ptr (B+1+1+1) 0,g 5,g 6,g 7,g 8,g 9,g 10,g 11,g 12,g 13,wR.getD i .undef,aC ((R.getD i []).length:Int),aC k,g 17,g 18,g 19])/\k<=(R.getD i []).length/\ME h l B id b (oV r) n p o O R i ((R.take i).flatten++(R.getD i []).take k)/\
    (∀x∈(R.getD i []).take k,x.length=n/\mC x=true)/\k'=(R.getD i []).length-k) (R.getD i []).length
   ⟨0,aB rfl,fR _,by rw[List.take_zero,tD];exact J7,λx hx=>by simp at hx,rfl⟩ ?_
  clear co cB cN c5 d6 J7 s d2 a0 g7 n7 o7 G
  rintro k' q h8 ⟨k,⟨g,rfl⟩,hk,Q,b3,rfl⟩
  by_cases d8:(k:Int)<((R.getD i []).length:Int)
  case neg=>
   have e1:=bE d8;obtain rfl:k=(R.getD i []).length:=om
   rw[List.take_length] at Q b3;rw[←Th om] at Q;simp(disch:=omega)only[go_sem,e1];refine oP iB b0 Q.gr (.inl ⟨rfl,?_⟩);have a:=Q.loop (h2:=h8.set id (some (.loop r))) om om om (by rw[H.aS]) rfl (λk hk=>H.aH _ hk _)
   have b5: ∀j,j<i+1->QY n O R j:=λj hj=>by
    by_cases e:j=i
    ·subst e;exact⟨⟨om,om⟩,b3⟩
    ·exact a.rows j om
   exact⟨a.gB,a.gR,a.gN,a.gA,a.gr,a.gb,a.nx,a.fr,b5⟩
  have e1:=bN d8
  have a1:k<(R.getD i []).length:=om
  obtain⟨x,hx⟩:=exI ((R.getD i []).getD k [])
  have sx:=gE ar a1 .undef []
  rw[hx] at sx
  have e0:x∈R.getD i []:=by rw[←hx];exact aW a1
  obtain⟨g9,c6,d3,j7,i6⟩:=(tr.mono Q.fr).shape (R.getD i []).length om om
  have ck:h8.cell g9 (c6+k)=some (wr.getD k .undef):=by rw[i6 k om,List.getD,dF om];rfl
  have cN:=H.aF Q.gN
  generalize wr.getD k .undef=vx at sx ck
  have d7:=sx.lens
  by_cases A:(x.length:Int)≠(n:Int)
  ·have s:=bN A
   simp(disch:=omega)only[go_sem,e1,d3.ixa,ck,d7,cN,s,Q.gR,Y]
   exact yq _ _ _ Q λf=>A (by have:=(f.perm i a3 x e0).1;omega)
  have s:=bE A
  simp(disch:=omega)only[go_sem,e1,d3.ixa,ck,d7,cN,s]
  refine (vH vx x h8 om (sx.mono Q.fr)).mono ?_
  rintro _ h9 ⟨rfl,f9⟩
  have a:=Q.mono om om f9
  cases hpk:mC x with
  |false=>
   have e3:decide (Sb x≠0)=true:=bN (by unfold Sb;rw[bL om,hpk];simp);simp(disch:=omega)only[go_sem,e3,a.gR,Y];exact yq _ _ _ a λf=>by have:=(f.perm i a3 x e0).2;rw[hpk] at this;cases this
  |true=>
   have e3:decide (Sb x≠0)=false:=bE (by unfold Sb;rw[bL om,hpk];simp);obtain⟨va,ws,gA,ow,al⟩:=a.gA
   have one:vx.cells= [vx]/\vx.one=true:=⟨sx.cF.1,sx.cF.2.1⟩
   have k2:=a.nx;obtain⟨b6,i0,k3,g8,k4,N⟩:=cU (h:=h9) rfl [vx];have cA:=H.aF gA;have j6:b6.cell (B+1+1+1) 0=some va:=by rw[H.aF (by rw[N.get _ om];exact gA)];rfl
   have k1:=al.length
   have j5:((R.take i).flatten++(R.getD i []).take k).length<=400:=by
    have h1:=oM (m:=7) (R:=R) (i:=i) om (λj hj=>by have:=(a.rows j hj).1.2;omega);have h2:i*7<=7*7:=Nat.mul_le_mul_right 7 om;rw[iA,Cq];omega
   obtain⟨c8,i8,a5⟩:=(ow.fr N).push (bytes:=24) (SV.one om g8 (.kn 1)) (n:=ws.length) (m:=1) om rfl om om om;have ap: ∀k,k<=id->cZ va k:=λk hk k0 j1 m c e e2=>by have:=(ow.in _ _ _ _ e).2.1;omega
   have c4:c8.get (B+1+1+1)=some (.cells false [va]):=by rw[a5.old _ om (ap _ om),N.get _ om];exact gA
   have j9:=a5.next;have j3: ∀(l:H) (y:V),dR (some (.cells false [va])) l (B+1+1+1) 0 [y]=some (l.set (B+1+1+1) (some (.cells false [y]))):=λl y=>bP (by simp) l _ _
   simp(disch:=omega)only[go_sem,e3,cA,bZ h9 (z:= .aE) one.1 one.2,i0,i8,c4,j3];rw[dU k]
   have P: ∀k,k<=id->k≠B+1+1+1->(c8.set (B+1+1+1) (some (.cells false [.sl b6.next 0 (ws.length+1) (.un 1)]))).get k=h9.get k:=λk h1 h2=>by
    rw[H.aH _ h2,a5.old _ om (ap _ h1),N.get _ om]
   have tk:(R.take i).flatten++(R.getD i []).take (k+1)=((R.take i).flatten++(R.getD i []).take k)++ [x]:=by
    rw[rS,dE [] a1,hx]
   refine⟨(R.getD i []).length-(k+1),om,k+1,aB rfl,om,⟨by rw[P _ om om];exact a.gB,by rw[P _ om om];exact a.gR,by rw[P _ om om];exact a.gN,⟨_,ws++ [vx],by rw[H.aS],?_,?_⟩,by rw[P _ om om];exact a.gr,by rw[P _ om om];exact a.gb,by simp only[H.cH];omega,?_,a.rows⟩,λy hy=>?_,rfl⟩
   ·refine (a5.own (b:=id+1) om rfl om).mono (eH _) λk j1 m c e h1 h2=>H.aH _ om _
   ·rw[tk];exact al.append ⟨sx,trivial⟩
   ·refine⟨by simp only[H.cH];have:=a.fr.next;omega,λk hk=>?_⟩
    rw[P k om om];exact a.fr.get k hk
   ·rw[dE [] a1,hx] at hy
    rcases kT.1 hy with hy|hy
    ·exact b3 y hy
    ·rw[List.mem_singleton.1 hy]
     exact⟨om,hpk⟩
 ·rintro _ l (J|D)
  ·refine⟨r,J.gr,by rw[iB];simp,?_⟩
   have en:r.pend.getD .norm= .norm:=by rw[b0];rfl
   rw[en]
   rw[lR,List.take_length] at J
   have J:=J.loop (r2:={r with st:= .out}) (h2:=l.set id (some (.loop {r with st:= .out}))) om om om (by rw[H.aS]) rfl (λk hk=>H.aH _ hk _)
   generalize l.set id (some (.loop {r with st:= .out}))=G at J
   clear J0 f7 o7 b0 iB hr
   have frm:OT n O R:=OT.of i5 j2 λj hj=>J.rows j om
   obtain⟨R',eR,hP⟩:=frm.nat
   obtain⟨va,ws,gA,ow,al⟩:=J.gA
   have eF:R.flatten=R'.flatten.map zi:=by rw[eR,List.map_flatten]
   rw[eF] at al
   have nx:=J.nx
   have rB:=aG J.gB
   have cN:=H.aF J.gN
   have cA:=H.aF gA
   have fb:Fr G (H.mk G.tr (G.next+7)):=(Fr.refl G).bH om
   have j4:SP (H.mk G.tr (G.next+7)) va R'.flatten:=⟨ws,(ow.fr fb).sv,al.mono λ_ _ x=>x.mono (J.fr.trans fb)⟩
   have i7:R'.flatten.length<1000000:=by
    have h1:=oM (m:=7) (R:=R) (i:=n) om (λj hj=>by have:=(J.rows j om).1.2;omega);have h2:n*7<=7*7:=Nat.mul_le_mul_right 7 om;rw[Lq om,eF,iN] at h1;omega
   simp(disch:=omega)only[go_sem,aG (h:=H.mk G.tr (G.next+7)) J.gB,cN,cA]
   refine (Ym n va R'.flatten _ Z c9 i7 j4 hP).mono ?_
   rintro _ h8 ⟨i4,L,F,τ,rfl,RR,tl,f8,_⟩
   have F8:Fr G h8:=fb.trans f8
   have Q:=J.mono om om F8
   have eO:=tO.dB
   have e7:=tR.dB
   simp(disch:=omega)only[go_sem,aG Q.gB,eO,e7]
   refine (Su h8 n i4 L F τ c9 RR tl.tw).mono ?_
   rintro i9 h9 ⟨O2,R2,e9,i2,f9⟩
   have a:=Q.mono om om f9
   have a8:aZ n (BK n R') O2 R2:=i2.congr tl.group
   obtain⟨f0,i1⟩:=Ky (λx hx=>cG.cX hP hx) om a8
   simp(disch:=omega)only[go_sem,aG a.gB,eO,e7]
   refine (TG _ i9 (n:Int) (n:Int) O (O2.map zi) R (R2.map (List.map zi)) h9 ⟨p,o,rfl,⟨wO,tO.mono a.fr,aO.mono λ_ _ x=>x.mono a.fr⟩,⟨wR,tR.mono a.fr,aR.mono (λ_ _ x=>x.mono a.fr),kR⟩⟩ e9.ch so f0 (sr.inn (λj hj x hx=>(frm.perm j om x hx).1) om) i1).mono ?_
   rintro _ b6 ⟨rfl,N⟩
   have a6:=a.mono om om N
   have iff:=CU.iff (O:=O) Z om hP a8
   rw[←eR] at iff
   by_cases hq:(n:Int)=(n:Int)/\O=O2.map zi/\R=R2.map (List.map zi)
   ·have ed:=bN hq
    rw[ed]
    simp(disch:=omega)only[go_sem,a6.gR,Y]
    refine⟨?_,a6.fr.set om _⟩
    unfold jL
    rw[bL om,bJ (iff.2 hq.2)]
   ·have ed:=bE hq
    rw[ed]
    simp(disch:=omega)only[go_sem,a6.gR,Y]
    refine⟨?_,a6.fr.set om _⟩
    unfold jL
    rw[bL om,bL (λc=>hq ⟨rfl,iff.1 c⟩)]
  ·refine⟨_,D.gr,by simp [tM],?_⟩
   have en:(tM r .ret).pend.getD .norm= .ret:=rfl
   rw[en]
   have nx:=D.nx
   have gR:(l.set id (some (.loop {tM r .ret with st:= .out}))).cell (B+1) 0=some (aC 3):=by rw[H.Kx _ om,H.aF D.gR];rfl
   simp(disch:=omega)only[go_sem,gR]
   exact⟨by rw[xA Z om D.bad],D.fr.set (by have:=D.fr.next;omega) _⟩
end
theorem JA {x:Nat}:Dz .shr .u64 (x:Int) 1=some (.int .u64 ((x/2:Nat):Int)):=by
 unfold Dz;rw[bL om];simp only;congr 2;show Int.fdiv (x:Int) 2=_;rw[Int.fdiv_eq_ediv_of_nonneg _ om];rfl
theorem Ea (u:V)(a:List Nat)(p:Nat)(h:H)(hn:a.length<1000000)(J:a.Pairwise (· < ·))(W:SI h u (zi a)):
  Ev T 103 [u,aC p] h (λv h'=> ∃k f,v= .tup [aC (k:Nat),.bool f]/\(f=true↔p∈a)/\(f=true->k<a.length/\a.getD k 0=p)/\Fr h h'):=by
 refine cT jM rfl ?_
 have R:=W.lens
 rw[aN] at R
 simp(disch:=omega)only[go_sem,jM,aD,R]
 have mono: ∀i j,i<j->j<a.length->a.getD i 0<a.getD j 0:=λi j w o=>by
  rw[cL om,cL o];exact OP.1 J i j om o w
 refine aI (λU d G=> ∃(i j:Nat),(∃g:Nat->V,d= [u,aC p,g 2,g 3,aC (a.length:Int),aC i,aC j,g 7,g 8,g 9])/\i<=j/\j<=a.length/\(∀m,m<i->a.getD m 0<p)/\(∀m,j<=m->m<a.length->p<=a.getD m 0)/\Fr h G/\U=j-i) a.length
  ⟨0,a.length,aB rfl,om,om,λm c=>om,λm w o=>om,Fr.refl h,rfl⟩ ?_
 rintro U d G ⟨i,j,⟨g,rfl⟩,a0,Z,l,z,F,rfl⟩
 obtain⟨id,L,B,K,O⟩:=(W.mono F).open
 rw[aN] at B K O
 have cell: ∀m,m<a.length->G.cell id (L+m)=some (aC (a.getD m 0:Nat)):=λm c=>by rw[O m c];congr 2;simp [zi,c]
 by_cases y:(i:Int)<(j:Int)
 ·have s:=bN y
  have ea:(i:Int)+(j:Int)=((i+j:Nat):Int):=om
  obtain⟨m,c⟩:=exI ((i+j)/2)
  have sr:=JA (x:=i+j)
  rw[c] at sr
  have Y:=cell m om
  simp(disch:=omega)only[go_sem,s,ea,Hl,Ar,eS (n:=((i+j:Nat):Int)) om om,sr,B.ixa,Y]
  refine (fZ _ _ _).mono ?_
  rintro _ h3 ⟨rfl,A⟩
  by_cases P:((a.getD m 0:Nat):Int)<(p:Int)
  ·have b:Go.Sort.ltInt ((a.getD m 0:Nat):Int) (p:Int)=true:=by unfold Go.Sort.ltInt;exact bN P
   rw[b]
   simp(disch:=omega)only[go_sem]
   rw[dU m]
   refine⟨j-(m+1),om,m+1,j,aB rfl,om,Z,λq hq=>?_,z,F.trans A,rfl⟩
   by_cases e:q=m
   ·rw[e];omega
   ·have:=mono q m om om;omega
  ·have b:Go.Sort.ltInt ((a.getD m 0:Nat):Int) (p:Int)=false:=by unfold Go.Sort.ltInt;exact bE P
   rw[b]
   simp(disch:=omega)only[go_sem]
   refine⟨m-i,om,i,m,aB rfl,om,om,l,λq w o=>?_,F.trans A,rfl⟩
   by_cases e:q=m
   ·rw[e];omega
   ·have:=mono m q om o;omega
 have s:=bE y
 obtain rfl:i=j:=om
 by_cases t:(i:Int)<(a.length:Int)
 ·have b:=bN t
  have ci:=cell i om
  by_cases r:((a.getD i 0:Nat):Int)=(p:Int)
  ·have N:=bN r
   simp(disch:=omega)only[go_sem,s,b,B.ixa,ci,N,rD]
   exact⟨i,true,rfl,⟨λ_=>by rw[show p=a.getD i 0 by omega];exact aW om,λ_=>rfl⟩,λ_=>⟨om,om⟩,F⟩
  ·have N:=bE r
   simp(disch:=omega)only[go_sem,s,b,B.ixa,ci,N,rD]
   refine Ev.mono (Q:=λv h'=>v= .bool false/\Fr G h') ?_ ?_
   ·refine cT tW rfl ?_
    have e: ∀x:Int,decide (x≠x)=false:=λx=>bE om
    simp(disch:=omega)only[go_sem,tW,aD,e]
    exact Fr.refl _
   rintro _ h3 ⟨rfl,A⟩
   simp(disch:=omega)only[go_sem]
   refine⟨i,false,rfl,⟨λh=>(by cases h),λh=>?_⟩,λh=>(by cases h),F.trans A⟩
   exfalso
   obtain⟨m,c,e⟩:=wV.1 h
   rw[←cL (a:=a) c] at e
   by_cases w:m<i
   ·have:=l m w;omega
   ·have o:m≠i:=λb=>by subst b;omega
    have:=mono i m om c
    have:=z i om om
    omega
 ·have b:=bE t
  simp(disch:=omega)only[go_sem,s,b,rD]
  refine⟨i,false,rfl,⟨λh=>(by cases h),λh=>?_⟩,λh=>(by cases h),F⟩
  exfalso
  obtain⟨m,c,e⟩:=wV.1 h
  rw[←cL (a:=a) c] at e
  have:=l m om
  omega
theorem iD {α β:Type}(f:α->β){l:List α}{i:Nat}{d:α}{e:β}(h:i<l.length):(l.map f).getD i e=f (l.getD i d):=by
 simp [List.getD,h]
theorem zH.mono {h h' h2:H}{v:V}{l:List Int}(f:zH h h' v l)(g:Fr h' h2):zH h h2 v l:=by
 obtain⟨id,a,e,c,b,i,d⟩:=f.ex;exact⟨⟨id,a,e,c,jB b g.next,by rw[g.get _ b];exact i,d⟩,f.fr.trans g⟩
theorem sT {h h':H}{v:V}{l:List Nat}(n:Yo h h' v l):zH h h' v (zi l):=by
 obtain⟨e,g,nx,f⟩:=n;exact⟨⟨h.next,_,by rw[e,aN],eH _,om,g,.inr (by rw[aN])⟩,f⟩
theorem zH.le {b h h':H}{v:V}{l:List Int}(f:zH h h' v l)(g:Fr b h):zH b h' v l:=by
 obtain⟨id,a,e,c,i,j,d⟩:=f.ex;exact⟨⟨id,a,e,lX g.next c,i,j,d⟩,g.trans f.fr⟩
section
variable {W:Nat->Prop} {h:H} {vc:V} {n:Nat} {O:LN} {G:List Nat->Prop}
structure GC (W:Nat->Prop)(h:H)(vc:V)(n:Nat)(O:LN)(R:fM)(G:List Nat->Prop):Prop where
 cw:OL W h vc n O R
 isc:aZ n G O R
 dH:iJ n G
 n0:1<=n
 n7:n<=7
theorem GC.go {W':Nat->Prop}{h':H}{R:fM}(g:GC W h vc n O R G)(f:Fx W h h')(a: ∀id,id<h.next->W' id->W id):GC W' h' vc n O R G:=⟨g.cw.go f a,g.isc,g.dH,g.n0,g.n7⟩
theorem GC.ch {R:fM}(g:GC W h vc n O R G):Ig h vc (n:Int) (O.map zi) (R.map (List.map zi)):=g.cw.ch
theorem GC.mono {h':H}{R:fM}(g:GC W h vc n O R G)(f:Fr h h'):GC W h' vc n O R G:=⟨g.cw.mono f,g.isc,g.dH,g.n0,g.n7⟩
theorem Sc {n:Nat}{G:List Nat->Prop}(b:iJ n G){O:LN}{R:fM}(c:aZ n G O R): ∀d i x,i+d=n->G x->Fix i x->BK n R x
 |0,i,x,h,hx,fx=>by
  have X:=b.cX hx;obtain rfl:i=n:=om
  rw[fx.all X];exact .one
 |d+1,i,x,h,hx,fx=>by
  have hi:i<n:=om
  have X:=b.cX hx;have m:=(c.mem i hi (x.getD i 0)).2 ⟨x,hx,fx,rfl⟩;obtain⟨k,f,e⟩:=wV.1 m;have a:=c.rep i hi k f;rw[cL f,e] at a;obtain⟨z,j⟩:=exI ((R.getD i []).getD k []);rw[j] at a;have Z:=b.cX a.mem
  have g:z∈R.flatten:=by
   have l:k<(R.getD i []).length:=by rw[c.rl i hi];exact f
   exact List.mem_flatten.2 ⟨R.getD i [],aW (by rw[c.lr];exact hi),by rw[←j];exact aW l⟩
  have o:=Sc b c d (i+1) (aX x (cY z)) om (b.mul hx (b.inv a.mem)) ((Fix.mul X om fx (Fix.inv Z om a.fix)).succ (by
   rw[cM (by rw[X.len];exact hi)];have:=sW Z hi
   rwa [a.maps] at this))
  have:=cG.mul o g;rwa [aV X Z.inv Z,gG Z,cE X] at this
theorem kB {R:fM}(c:aZ n G O R): ∀g∈R.flatten,G g:=λg b=>by
 obtain⟨r,j,b⟩:=List.mem_flatten.1 b;obtain⟨i,hi,rfl⟩:=wV.1 j;obtain⟨k,f,rfl⟩:=wV.1 b;have a:i<n:=by have:=c.lr;omega
 have e:R.getD i []=R[i]:=by rw[List.getD,dF hi];rfl
 have d:k<(O.getD i []).length:=by rw[←c.rl i a,e];exact f
 have:=(c.rep i a k d).mem;rw[e,List.getD,dF f] at this;exact this
theorem To (a:iJ n G){R:fM}(c:aZ n G O R)(x:List Nat):BK n R x↔G x:=
 ⟨λh=>h.le a (kB c),λh=>Sc a c n 0 x om h (λk b=>om)⟩
theorem GC.chk {R:fM}(g:GC W h vc n O R G):jL (n:Int) (O.map zi) (R.map (List.map zi))=0:=by
 unfold jL;have:=g.n0;have:=g.n7;rw[bL om,bJ ⟨n,O,R,rfl,g.n0,om,rfl,rfl,λx a=>g.dH.cX (kB g.isc x a),g.isc.congr λx=>(To g.dH g.isc x).symm⟩]
theorem GC.small {R:fM}(g:GC W h vc n O R G):jK (O.map zi)/\sQ (R.map (List.map zi)):=Ky (λx a=>g.dH.cX a) (by have:=g.n7;omega) g.isc
theorem GC.check {R:fM}(g:GC W h vc n O R G):Ev T 135 [vc] h (λv h'=>v= aC 0/\Fr h h'):=by
 have:=Yu vc _ _ _ h g.ch (.inl (by have:=g.n7;omega)) g.small.1 g.small.2.out;rwa [g.chk] at this
theorem Ph {x:List Nat}(X:bC n x)(a:1<=n)(h2:n<=64):Sb (zi x)=0:=by
 unfold Sb;rw[bL (by rw[aN,X.len];omega),BR X];rfl
end
theorem Mb (j:V)(n:Nat)(l:LN)(h:H)(K:1<=n)(A:n<=7)(hl:l.length<=4096)(Z:SP h j l)(W: ∀g∈l,bC n g):
  Ev T 101 [aC n,j] h (λv h'=> ∃vc O R,v= .tup [vc,aC 0]/\GC (λid=>id<h.next) h' vc n O R (cG n (· ∈l))/\Fr h h'):=by
 refine cT Fo rfl ?_
 obtain⟨B,hB⟩:=exI h.next
 obtain⟨y,e1,n1,g1,o1,f1⟩:=cU hB [aC 0,.aE,.aE]
 have d1:decide ((n:Int)<1)=false:=bE om
 have d2:decide ((64:Int)<(n:Int))=false:=bE om
 have lv:=Z.lens
 rw[iN] at lv
 have d3:decide ((4096:Int)<(l.length:Int))=false:=bE om
 obtain⟨id,Q,ws,sh,a,t,d,m⟩:=Z.open
 rw[iN] at sh a t d
 simp(disch:=omega)only[go_sem,Fo,aD,hB,e1,d1,d2,lv,d3]
 refine bQ (λx N=>(∃g:Nat->V,x= [aC n,j,.ptr B 0,g 3,g 4,g 5,g 6,g 7,g 8,g 9,g 10,g 11,g 12,g 13])/\Fr y N) ?_ ?_
 ·refine aI (λk' x N=> ∃(i:Nat),(∃g:Nat->V,x= [aC n,j,.ptr B 0,g 3,g 4,g 5,g 6,g 7,j,aC (l.length:Int),aC i,g 11,g 12,g 13])/\i<=l.length/\Fr y N/\k'=l.length-i) l.length
   ⟨0,aB rfl,fR _,Fr.refl y,rfl⟩ ?_
  rintro k' q r ⟨i,⟨g,rfl⟩,hi,f,rfl⟩
  by_cases o:(i:Int)<(l.length:Int)
  ·have G:=bN o
   have b:i<l.length:=om
   have F2:=f1.trans f
   have ci:r.cell id (Q+i)=some (ws.getD i .undef):=by rw[F2.cell (a om),d i b]
   have P:=Ae m b
   have X:bC n (l.getD i []):=W _ (aW b)
   generalize ws.getD i .undef=vx at ci P
   have lx:=P.lens
   rw[aN,X.len] at lx
   simp(disch:=omega)only[go_sem,G,sh.ixa,ci]
   refine (vH vx _ r (by rw[aN,X.len];omega) (P.mono F2)).mono ?_
   rw[Ph X K om]
   rintro _ J ⟨rfl,c⟩
   simp(disch:=omega)only[go_sem]
   refine bA (λd=>(d rfl).elim) (λ_=>?_)
   simp(disch:=omega)only[go_sem,lx]
   refine bA (λd=>(d rfl).elim) (λ_=>?_)
   simp(disch:=omega)only[go_sem]
   rw[dU i]
   exact⟨l.length-(i+1),om,i+1,aB rfl,om,f.trans c,rfl⟩
  have G:=bE o
  simp(disch:=omega)only[go_sem,G]
  exact⟨aB rfl,f⟩
 rintro q r ⟨⟨g,rfl⟩,f⟩
 have F2:=f1.trans f
 simp(disch:=omega)only[go_sem]
 refine (Ym n j l r K A om (Z.mono F2) W).mono ?_
 rintro _ J ⟨a0,L,F,τ,rfl,R,tl,c,_⟩
 simp(disch:=omega)only[go_sem]
 refine (Su J n a0 L F τ A R tl.tw).mono ?_
 rintro vc s ⟨O,R',ch,U,Y⟩
 have F4:=(F2.trans c).trans Y
 have g4:s.get B=some (.cells false [aC 0,.aE,.aE]):=by rw[Y.get _ (by have:=c.next;have:=f.next;omega),c.get _ (by have:=f.next;omega),f.get _ om];exact g1
 have z:=ch
 obtain⟨vO,vR,a1,a2,e,t1,_,_,t2,_,_⟩:=ch
 subst e
 have k:=t1.cF.2.1
 have p:=t2.cF.2.1
 obtain⟨h5,e5,n5,g5,o5⟩:=mD s B [aC n,vO,vR]
 have r5:=aG g5
 simp(disch:=omega)only[go_sem,bI s B 0 (v:= aC n) (u:=vO) (w:=vR) rfl k p,g4,bG,e5,r5]
 have n3:=c.next
 have n2:=f.next
 have n4:=Y.next
 have f5:Fx (λid=>id<J.next) s h5:=⟨om,λid _ a=>o5 id om⟩
 refine⟨_,O,R',rfl,⟨z.go f5 (λid _ h=>om),U.congr tl.group,cG.dH W,K,A⟩,⟨by have:=F4.next;omega,λid a=>by rw[o5 id om];exact F4.get id a⟩⟩
section
variable {b A:Nat} {hh:H} {l:LN}
theorem JH {h:H}{v:V}{ws:List V}(s:SV h v 1 ws)(k:Ys v)(n:1<=ws.length): ∃v',xU 1 v (some (aC 1)) none none=some v'/\SV h v' 1 (ws.drop 1):=by
 rcases s with ⟨_,e⟩|⟨id,a,len,p,f,d,rfl,j,i,g,t,o⟩
 ·rw[e] at n;simp at n
 have u:nK none len len=some len:=by simp [nK]
 have m:((d.drop a).take (len*1)).drop 1=(d.drop (a+1)).take (len- 1):=by
  rw[List.drop_take,List.drop_drop,uH]
 rcases k _ _ _ _ rfl with rfl|⟨c,rfl,r⟩
 ·by_cases q:1<len
  ·refine⟨.sl id (a+1) (len- 1) (.un 1),?_,.inr ⟨id,a+1,len- 1,_,f,d,rfl,by rw[BM,j];omega,i,g,om,by rw[←o,m,uH]⟩⟩
   simp [xU,nK,q,show (1:Int)<=(len:Int) by omega]
  ·refine⟨.sl id a 0 (.un 1),?_,.inr ⟨id,a,0,_,f,d,rfl,by rw[BM,j];omega,i,g,om,?_⟩⟩
   ·have:len=1:=om
    subst this;simp [xU,nK]
   ·have:ws.drop 1= []:=WE (by rw[BM];omega)
    rw[this];simp
 ·refine⟨.sl id (if c=1 then a else a+1) (len- 1) (.kn (c- 1)),?_,.inr ⟨id,_,len- 1,_,f,d,rfl,by rw[BM,j];omega,i,g,by split<;>omega,?_⟩⟩
  ·have:1<=len:=om
   simp [xU,nK,show (1:Int)<=(len:Int) by omega,show 1<=c by omega]
  ·by_cases e:c=1
   ·have:ws.drop 1= []:=WE (by rw[BM];omega)
    rw[this];have:len- 1=0:=om
    rw[this];simp
   ·rw[bL e,←o,m,uH]
def Lm (b:Nat)(hh:H)(A:Nat)(l:LN):Prop:= ∃va ws W,hh.get A=aY [va]/\cQ hh va 1 ws b/\dW W hh ws l/\Dg W va/\(∀id,id<b->W id)/\ ∀id,W id->id<hh.next
theorem Lm.mono {h2:H}(a:Lm b hh A l)(i:A<hh.next)(f:Fr hh h2):Lm b h2 A l:=by
 obtain⟨j,c,W,g,o,p,k,e,d⟩:=a;exact⟨j,c,W,by rw[f.get _ i];exact g,o.fr f,p.fx (Fx.of f),k,e,λid h=>jB (d id h) f.next⟩
theorem Lm.other {h2:H}(a:Lm b hh A l){k:Nat}(m:k<b)(c:k≠A)(n:h2.next=hh.next)(o: ∀j,j≠k->h2.get j=hh.get j):Lm b h2 A l:=by
 obtain⟨q,i,W,g,u,p,v,d,s⟩:=a
 have f:Fx W hh h2:=⟨om,λid t r=>o id λe=>r (e▸d k m)⟩
 exact⟨q,i,W,by rw[o _ (Ne.symm c)];exact g,u.mono om λid _ _ _ _ t _=>o id om,dW.go p f (λ_ _ h=>h),v,d,λid h=>by rw[n];exact s id h⟩
theorem Lm.push {d:H}(a:Lm b hh A l)(J:A<b){x:List Nat}{r y:V}(bytes:Nat)(L:bytes<=24)(hl:l.length<1000000)(f:Fr hh d)(P:b<=hh.next)(N:PV (λid=>id<hh.next) d r x)(Z:SV d y 1 [r]):
  ∃va h6,hh.get A=aY [va]/\yE d 1 bytes va y=some (.sl d.next 0 (l.length+1) (.un 1),h6)/\h6.get A=aY [va]/\h6.next=d.next+1/\(∀k,k<b->h6.get k=d.get k)/\
   (va.cells= [va]/\va.one=true)/\dB va va=true/\ ∀h7,h6.set A (aY [.sl d.next 0 (l.length+1) (.un 1)])=h7->Lm b h7 A (l++ [x]):=by
 obtain⟨va,K,W,g,j,p,Q,G,z⟩:=a
 have a0:=aM.length p
 have nx:=f.next
 obtain⟨h6,R,q⟩:=(j.fr f).push (bytes:=bytes) Z (n:=l.length) (m:=1) om rfl om om ⟨by have:=Nat.mul_le_mul_left (2*(l.length+1)+1000) L;omega,om⟩
 have U: ∀k,k<b->cZ va k:=λk F id i m c e e2=>by have:=(j.in _ _ _ _ e).2.1;omega
 have Y:=q.next
 have B: ∀k,k<b->h6.get k=d.get k:=λk F=>q.old k om (U k F)
 refine⟨va,h6,g,R,by rw[B A J,f.get A om];exact g,Y,B,⟨j.sv.cF.1,j.sv.cF.2.1⟩,j.sv.dB,λh7 e=>?_⟩
 subst e
 have u:Fx W d h6:=q.fx Q
 have v:Fx W h6 (h6.set A (aY [.sl d.next 0 (l.length+1) (.un 1)])):=Fx.set h6 (G A J) _
 have o:=u.trans v (λ_ _ h=>h)
 have w: ∀id,id<d.next->(W id∨id=d.next)->W id:=λid O s=>by
  rcases s with s|s
  ·exact s
  ·omega
 have t:PV W d r x:=N.iP λid _ h=>z id h
 refine⟨_,K++ [r],λid=>W id∨id=d.next,by rw[H.aS],?_,(dW.go (p.fx (Fx.of f)) o w).append (dW.one (PV.go t o w)),λid i n c e=>by cases e;exact .inr rfl,λid h=> .inl (G id h),λid h=>?_⟩
 ·exact (q.own (b:=b) om rfl om).mono (eH _) λid i m c e O _=>H.aH h6 om _
 ·simp only[H.cH]
  rcases h with h|h
  ·have:=z id h;omega
  ·omega
end
def bM (R:fM):LN:=R.flatMap (List.drop 1)
theorem zX {R:fM}{i:Nat}(hi:i<R.length):bM (R.take (i+1))=bM (R.take i)++(R.getD i []).drop 1:=by
 unfold bM;rw[dE [] hi,List.flatMap_append];simp
theorem tH {n:Nat}{R:fM}: ∀{i:Nat},i<=R.length->(∀j,j<i->(R.getD j []).length<=n)->(bM (R.take i)).length<=i*n
 |0,_,_=>by simp [bM]
 |i+1,h,hr=>by
  rw[zX om,iA,BM,Nat.succ_mul];have b:=tH (i:=i) om (λj a=>hr j om);have c:=hr i om;omega
structure OA (h h':H)(v:V)(l:LN):Prop where
 ex: ∃ws W,cQ h' v 1 ws h.next/\dW W h' ws l/\Dg W v/\(∀id,id<h.next->W id)
 fr:Fr h h'
theorem OA.sp {h h':H}{v:V}{l:LN}(n:OA h h' v l):SP h' v l:=by
 obtain⟨a,W,o,p,_⟩:=n.ex;have b:=aM.length p
 exact⟨a,o.sv,aM.kH (by simpa using b) λi hi c=>by
  have:=(aM.get p i hi om).si
  simpa using this⟩
theorem OA.pl {h h':H}{v:V}{l:LN}(n:OA h h' v l):PL (λid=>id<h.next) h' v l:=by
 obtain⟨a,W,o,p,_,b⟩:=n.ex;exact⟨a,o.sv,GA o,p.iP (λid _ h=>b id h),cQ.GF o⟩
structure StJ (h hh:H)(id b B:Nat)(r:dY)(n:Nat)(vO vR:V)(R:fM)(i:Nat):Prop where
 acc:Lm (id+1) hh (B+1) (bM (R.take i))
 gr:hh.get id=some (.loop r)
 gb:hh.get b=aY [aC n,vO,vR]
 nx:id<hh.next
 fr:Fr h hh
theorem Tp {W:Nat->Prop}(vc:V)(n:Nat)(O:LN)(R:fM)(G:List Nat->Prop)(h:H)(gc:GC W h vc n O R G):
  Ev T 106 [vc] h (λv h'=> ∃vl,v= .tup [vl,aC 0]/\OA h h' vl (bM R)):=by
 obtain⟨Y,vR,e,sO,sR⟩:=gc.ch
 subst e
 refine cT zU rfl ?_
 obtain⟨wR,tR,aR,kR⟩:=sR
 have lR:=aR.length
 have c:=gc.isc
 rw[iN,c.lr] at lR
 have a6:Y.one=true:=Vu sO
 have b0:=tR.cF.2.1
 have n0:=gc.n0
 have n7:=gc.n7
 obtain⟨B,hB⟩:=exI h.next
 obtain⟨h1,e1,n1,g1,o1,f1⟩:=cU hB [aC n,Y,vR]
 have bx:=aQ h (v:= aC n) (u:=Y) (w:=vR) rfl a6 b0
 have rB:=aG g1
 simp(disch:=omega)only[go_sem,zU,aD,bx,hB,e1,rB]
 refine ((gc.mono f1).check).mono ?_
 rintro _ h2 ⟨rfl,f2⟩
 simp(disch:=omega)only[go_sem]
 refine bA (λhc=>(hc rfl).elim) (λ_=>?_)
 obtain⟨A,hA⟩:=exI h2.next
 have n2:=f2.next
 obtain⟨h3,e3,n3,g3,o3,f3⟩:=cU hA [.aE]
 have d9:h3.get B=aY [aC n,Y,vR]:=by rw[f3.get _ om,f2.get _ om];exact g1
 have d3:=aG d9
 simp(disch:=omega)only[go_sem,hA,e3,d3]
 refine (HY (n:Int) Y vR a6 b0 h3).mono ?_
 rintro _ h4 ⟨rfl,g4,n4,f4⟩
 simp(disch:=omega)only[go_sem]
 obtain⟨id,b5⟩:=exI h4.next
 obtain⟨b,hb⟩:=exI h3.next
 rw[hb] at g4 n4
 refine⟨rfl,uT λr hr=>?_⟩
 rw[b5,hb]
 have iB:r.st= .ready:=by rw[hr]
 have b9:r.pend=none:=by rw[hr]
 have o5: ∀k,k<id->(h4.new (.loop r)).get k=h4.get k:=λk N=>H.bD h4 om _
 have f5:Fr h4 (h4.new (.loop r)):=(Fr.refl h4).new _
 have n5:(h4.new (.loop r)).next=id+1:=by rw[H.aU,b5]
 have F4:=((f1.trans f2).trans f3).trans f4
 have rl: ∀j,j<n->(R.getD j []).length<=n:=λj Q=>by
  rw[c.rl j Q];exact lX (lQ (λx hx=>gc.dH.cX hx) Q (c.asc j Q) (c.mem j Q)) om
 obtain⟨t,b3⟩: ∃t,A=t+1:=⟨A- 1,om⟩
 have J0:StJ h (h4.new (.loop r)) id b t r n Y vR R 0:=by
  refine⟨⟨.aE, [],λk=>k<id+1,?_,cQ.aE _ _ _,trivial,λ_ _ _ _ e=>(by cases e),λ_ h=>h,λk N=>om⟩,by rw[←b5,H.aL],by rw[o5 _ om];exact g4,om,F4.trans f5⟩;rw[←b3,o5 _ om,f4.get _ om];exact g3
 refine (Xp id b (n:Int) Y vR wR _ om (λi o=>StJ h o id b t r n Y vR R i) (λo=>False) J0 (λi o J=>⟨J.gb,tR.mono J.fr⟩) ?_).mono ?_
 ·rintro i o hi J
  have f:i<n:=om
  refine tE J.gr (by rw[hr];rfl) iB λh9 g9 n9 o9=>?_
  rw[congrArg dY.assign hr,congrArg dY.vars hr,congrArg dY.pars hr]
  simp(disch:=omega)only[go_sem,List.zip_cons_cons,List.zip_nil_left]
  rw[congrArg dY.body hr]
  have nx:=J.nx
  have ri:(R.map (List.map zi)).getD i []=(R.getD i []).map zi:=iD (List.map zi) (by rw[c.lr];exact f)
  have a7:=gE aR (i:=i) (by rw[iN,c.lr];exact f) .undef []
  rw[ri] at a7
  obtain⟨wr,tr,ar⟩:=a7
  have lr:=ar.length
  rw[iN] at lr
  have d0:1<=wr.length:=by
   rw[lr,c.rl i f];have:=(c.mem i f i).2 ⟨bT n,gc.dH.one,Fix.one n i om,fF f⟩;exact KH this
  have F9:Fr h h9:=⟨by rw[n9];exact J.fr.next,λk N=>by rw[o9 k om];exact J.fr.get k N⟩
  obtain⟨vt,e9,tt⟩:=JH tr (kR _ (aW om)) d0
  have lt:bF vt=some (aC (wr.length- 1:Nat)):=by unfold bF;rw[tt.len (n:=wr.length- 1) (by rw[BM];omega) om];rfl
  have g5:wr.length<=7:=by have:=rl i f;omega
  simp(disch:=omega)only[go_sem,e9,lt]
  have A9:Lm (id+1) h9 (t+1) (bM (R.take i)):=J.acc.other (k:=id) om om n9 o9
  refine aI (λk' b1 o=> ∃(k:Nat),(∃g:Nat->V,b1= [g 0,g 1,g 2,g 3,g 4,.ptr A 0,g 6,g 7,g 8,g 9,g 10,g 11,vt,aC (wr.length- 1:Nat),aC k,g 15])/\k<=wr.length- 1/\Lm (id+1) o (t+1) (bM (R.take i)++((R.getD i []).drop 1).take k)/\
    o.get id=some (.loop (oV r))/\o.get b=aY [aC n,Y,vR]/\id<o.next/\Fr h o/\k'=wr.length- 1-k) (wr.length- 1)
   ⟨0,aB rfl,fR _,by rw[List.take_zero,tD];exact A9,g9,by rw[o9 _ om];exact J.gb,om,F9,rfl⟩ ?_
  rintro k' b1 a ⟨k,⟨g,rfl⟩,N,P,a8,a9,c1,F,rfl⟩
  have g8:((R.getD i []).drop 1).length=wr.length- 1:=by rw[BM];omega
  by_cases c8:(k:Int)<((wr.length- 1:Nat):Int)
  case neg=>
   have d1:=bE c8;have ek:k=wr.length- 1:=om
   rw[ek,Lq (l:=(R.getD i []).drop 1) om,←zX (by rw[c.lr];exact f)] at P;simp(disch:=omega)only[go_sem,d1];refine oP iB b9 a8 (.inl ⟨rfl,P.other (k:=id) om om rfl (λj Q=>H.aH _ Q _),by rw[H.aS],by rw[H.aH _ om];exact a9,c1,F.set om _⟩)
  have d1:=bN c8
  have g0:k<wr.length- 1:=om
  have b2:k+1<(R.getD i []).length:=om
  obtain⟨x,hx⟩:=exI ((R.getD i []).getD (k+1) [])
  have d5:((R.getD i []).drop 1).getD k []=x:=by
   rw[←hx];generalize R.getD i []=row;rw[List.getD,List.getD,List.getElem?_drop,Nat.add_comm 1 k]
  have X:bC n x:=by
   rw[←hx];exact gc.dH.cX (c.rep i f (k+1) (by rw[←c.rl i f];exact b2)).mem
  have sx:=gE ar (i:=k+1) (by rw[iN];exact b2) .undef []
  rw[iD zi (d:= []) b2,hx] at sx
  obtain⟨d6,c0,e2,f8,e6⟩:=(tt.mono F).shape (wr.length- 1) (by rw[BM];omega) om
  have ck:a.cell d6 (c0+k)=some (wr.getD (k+1) .undef):=by
   rw[e6 k (by rw[BM];omega),List.getElem?_drop,List.getD,Nat.add_comm 1 k,dF om];rfl
  generalize wr.getD (k+1) .undef=vx at sx ck
  obtain⟨L,gA,e7⟩: ∃L,a.get (t+1)=aY [L]/\dB L L=true:=by
   obtain⟨L,_,_,gA,ow,_⟩:=P;exact⟨L,gA,ow.sv.dB⟩
  have fb:Fr a (H.mk a.tr (a.next+6)):=(Fr.refl a).bH om
  rw[b3]
  simp(disch:=omega)only[go_sem,d1,e2.ixa,ck,H.aF gA]
  refine (Pf vx (zi x) (H.mk a.tr (a.next+6)) (by rw[aN,X.len];omega) (by rw[aN,X.len];omega) (sx.mono (F.trans fb))).mono ?_
  rintro a0 p s
  have c3:=fb.trans s.fr
  have d2:=s.fr.next
  have b8:p.get (t+1)=aY [L]:=by rw[c3.get _ om];exact gA
  have c7:PV (λid=>id<a.next) p a0 x:=s.pv λid h=>by simp;omega
  simp(disch:=omega)only[go_sem,H.aF b8,e7,bZ _ (z:= .aE) c7.dP.1 c7.dP.2]
  obtain⟨m,q⟩: ∃m:H,m=H.mk ((H.mk p.tr (a.next+3)).new (Ob.cells false [a0])).tr p.next:=⟨_,rfl⟩
  rw[←q]
  have d4:m.get (a.next+3)=aY [a0]:=by rw[q];exact H.aL (H.mk p.tr (a.next+3)) _
  have g2:m.next=p.next:=by rw[q]
  have c4: ∀k,k≠a.next+3->m.get k=p.get k:=λk N=>by rw[q];exact H.bD (H.mk p.tr (a.next+3)) (by simpa using N) _
  simp only at d2
  have a5:Fr a m:=⟨om,λk N=>by rw[c4 k om];exact c3.get k N⟩
  have e5:PV (λid=>id<a.next) m a0 x:=by
   obtain⟨i5,c5,ev,a1,a2,a3,a4⟩:=s.ex;simp only at a1;rw[ev];exact⟨SV.all (by rw[aP,uH]) om (by rw[c4 _ om];exact a3) _,λo=>by have:i5<a.next:=o;omega⟩
  have e0:(bM (R.take i)++((R.getD i []).drop 1).take k).length<1000000:=by
   have h1:=tH (n:=n) (R:=R) (i:=i) (by rw[c.lr];omega) (λj Q=>rl j om);have h2:i*n<=7*7:=Nat.mul_le_mul om n7;rw[iA,Cq];omega
  obtain⟨c9,b7,c6,d8,d7,g6,b6,one,_,f0⟩:=P.push om (bytes:=24) (eH _) e0 a5 om e5 (SV.one om d4 (.kn 1))
  have f6:c9=L:=by rw[gA] at c6;cases c6;rfl
  subst f6
  have f7: ∀(o:H) (y:V),dR (aY [c9]) o (t+1) 0 [y]=some (o.set (t+1) (aY [y])):=λo y=>bP (by simp) o _ _
  simp(disch:=omega)only[go_sem,d8,d7,f7]
  rw[dU k]
  have b4:=f0 _ rfl
  have e8:bM (R.take i)++((R.getD i []).drop 1).take k++ [x]=bM (R.take i)++((R.getD i []).drop 1).take (k+1):=by
   rw[rS,dE [] om,d5]
  rw[e8] at b4
  have f9:Fr a (b7.set (t+1) (aY [.sl m.next 0 ((bM (R.take i)++((R.getD i []).drop 1).take k).length+1) (.un 1)]))->True:=λ_=>trivial
  obtain⟨U,K⟩: ∃U,U=b7.set (t+1) (aY [.sl m.next 0 ((bM (R.take i)++((R.getD i []).drop 1).take k).length+1) (.un 1)]):=⟨_,rfl⟩
  rw[←K] at b4 ⊢
  have e4: ∀k,k<=id->k≠t+1->U.get k=a.get k:=λk h1 h2=>by rw[K,H.aH _ h2,b6 k om];exact a5.get k om
  have g7:U.next=b7.next:=by rw[K];rfl
  refine⟨wr.length- 1-(k+1),om,k+1,aB rfl,om,b4,by rw[b6 id om,a5.get _ om];exact a8,by rw[b6 b om,a5.get _ om];exact a9,om,⟨by have:=F.next;omega,λk N=>by rw[e4 k om om];exact F.get k N⟩,rfl⟩
 ·rintro _ o (J|hf)
  case inr=>exact hf.elim
  refine⟨r,J.gr,by rw[iB];simp,?_⟩
  have en:r.pend.getD .norm= .norm:=by rw[b9];rfl
  rw[en]
  have nx:=J.nx
  have c2:=J.acc
  rw[lR,Lq (by rw[c.lr];omega)] at c2
  obtain⟨h9,Z⟩: ∃h9,h9=o.set id (some (.loop {r with st:= .out})):=⟨_,rfl⟩
  have A9:=c2.other (h2:=h9) (k:=id) om om (by rw[Z];rfl) (λj Q=>by rw[Z,H.aH _ Q])
  have F9:Fr h h9:=by rw[Z];exact J.fr.set om _
  rw[←Z,b3]
  obtain⟨L,ws,W',gA,ow,pv,bl,l1,l2⟩:=A9
  simp(disch:=omega)only[go_sem,H.aF gA]
  exact⟨L,rfl,⟨ws,W',ow.le om,pv,bl,λid h=>l1 id om⟩,F9⟩
end Go.Proofs.YtcdbmkidaecdiaaGreat
namespace Go.Pm
set_option maxRecDepth 100000
section
variable {x:List Nat} {i:Nat}
def jI (O:zJ)(x:List Nat)(i:Nat):List Nat:=(O.getD i []).map λq=>x.getD q 0
def vY (l:List Nat):List Nat:=l.mergeSort λa b=>decide (a<=b)
theorem mT (l:List Nat):(vY l).Perm l:=List.mergeSort_perm l _
theorem Uc (l:List Nat):(vY l).Pairwise (· <= ·):=by
 have:=List.pairwise_mergeSort (le:=λa b:Nat=>decide (a<=b)) (λa b c d e=>by simp at*;omega) (λa b=>by simp;omega) l;exact this.imp λh=>by simpa using h
def iM (O:zJ)(R:QC)(x:List Nat)(i im:Nat):List Nat:=aX ((R.getD i []).getD ((jI O x i).idxOf im) []) x
def dG (O:zJ)(R:QC):Nat->Nat->List Nat->zJ
 |0,_,x=> [x]
 |d+1,i,x=>(vY (jI O x i)).flatMap λim=>dG O R d (i+1) (iM O R x i im)
structure dZ (G:List Nat->Prop)(L:zJ):Prop where
 asc:L.Pairwise Lt
 mem: ∀x,x∈L↔G x
theorem Lt.irrefl (h:Lt x x):False:=h.asymm h
theorem Lt.trans {y z:List Nat}(n:x.length=y.length)(a:Lt x y)(b:Lt y z):Lt x z:=by
 obtain⟨k,f,e,l⟩:=a;obtain⟨m,o,d,g⟩:=b;rcases Nat.lt_trichotomy k m with h|h|h
 ·exact⟨k,f,λj c=>(e j c).trans (d j oq),by rw[←d k h];exact l⟩
 ·subst h;exact⟨k,f,λj c=>(e j c).trans (d j c),oq⟩
 ·exact⟨m,oq,λj c=>(e j oq).trans (d j c),by rw[e m h];exact g⟩
theorem HC: ∀{a b:zJ},a.Pairwise Lt->b.Pairwise Lt->(∀p,p∈a↔p∈b)->a=b
 | [], [],_,_,_=>rfl
 | [],y::b,_,_,h=>by have:=(h y).2 (by simp);simp at this
 |x::a, [],_,_,h=>by have:=(h x).1 (by simp);simp at this
 |x::a,y::b,ha,hb,h=>by
  obtain⟨j,l⟩:=List.pairwise_cons.1 ha;obtain⟨k,m⟩:=List.pairwise_cons.1 hb
  have e:x=y:=by
   have c:=(h x).1 (by simp);have f:=(h y).2 (by simp);rcases List.mem_cons.1 c with c|c
   ·exact c
   ·rcases List.mem_cons.1 f with f|f
    ·exact f.symm
    ·exact ((k x c).asymm (j y f)).elim
  subst e;congr 1
  refine HC l m λp=>⟨λd=>?_,λd=>?_⟩
  ·rcases List.mem_cons.1 ((h p).1 (List.mem_cons_of_mem _ d)) with e|g
   ·subst e;exact ((j p d).irrefl).elim
   ·exact g
  ·rcases List.mem_cons.1 ((h p).2 (List.mem_cons_of_mem _ d)) with e|g
   ·subst e;exact ((k p d).irrefl).elim
   ·exact g
theorem dZ.uniq {G:List Nat->Prop}{L M:zJ}(a:dZ G L)(b:dZ G M):L=M:=HC a.asc b.asc λp=>(a.mem p).trans (b.mem p).symm
theorem dZ.nodup {G:List Nat->Prop}{L:zJ}(a:dZ G L):L.Nodup:=by
 rw[List.nodup_iff_pairwise_ne];exact a.asc.imp λh e=>by rw[e] at h;exact h.irrefl
def fV (O:zJ):Nat->Nat->Nat
 |0,_=>1
 |d+1,i=>(O.getD i []).length*fV O d (i+1)
section
variable {n:Nat} {G:List Nat->Prop} {O:zJ} {R:QC}
theorem VO {im:Nat}:im∈jI O x i↔ ∃q∈O.getD i [],x.getD q 0=im:=by simp [jI]
theorem Ir (b:iJ n G)(c:aZ n G O R)(hi:i<n){q:Nat}(a:q∈O.getD i []):q<n:=by
 obtain⟨g,d,_,rfl⟩:=(c.mem i hi q).1 a;exact (b.cX d).gW hi
theorem DE (d:iJ n G)(c:aZ n G O R)(X:bC n x)(hi:i<n):(jI O x i).Nodup:=by
 have nd:(O.getD i []).Pairwise (· < ·):=c.asc i hi;rw[List.nodup_iff_pairwise_ne];unfold jI;rw[List.pairwise_map];refine nd.imp_of_mem λ{a b} f h g e=>?_
 have:=X.inj (Ir d c hi f) (Ir d c hi h) e;omega
theorem wJ (p:iJ n G)(c:aZ n G O R)(X:bC n x)(hi:i<n){im:Nat}(h:im∈jI O x i):
  ∃k,k<(O.getD i []).length/\(jI O x i).idxOf im=k/\x.getD ((O.getD i []).getD k 0) 0=im/\BD n G i ((O.getD i []).getD k 0) ((R.getD i []).getD k [])/\iM O R x i im=aX ((R.getD i []).getD k []) x/\bC n (iM O R x i im)/\(iM O R x i im).getD i 0=im/\ ∀j,j<i->(iM O R x i im).getD j 0=x.getD j 0:=by
 have f:=List.idxOf_lt_length_iff.2 h
 have a:(jI O x i).idxOf im<(O.getD i []).length:=by simpa [jI] using f
 have m:(jI O x i).getD ((jI O x i).idxOf im) 0=im:=by rw[cL f,List.getElem_idxOf]
 obtain⟨k,e⟩: ∃k,(jI O x i).idxOf im=k:=⟨_,rfl⟩
 rw[e] at a m f
 have o:x.getD ((O.getD i []).getD k 0) 0=im:=by
  rw[←m];unfold jI;rw[List.getD_eq_getElem?_getD (l:=List.map _ _),List.getElem?_map,List.getElem?_eq_getElem a,cL a];rfl
 have b:=c.rep i hi k a
 have g:=p.cX b.mem
 have d:iM O R x i im=aX ((R.getD i []).getD k []) x:=by unfold iM;rw[e]
 refine⟨k,a,e,o,b,d,by rw[d];exact g.mul X,?_,λj q=>?_⟩
 ·rw[d,cM (by rw[g.len];exact hi),b.maps,o]
 ·rw[d,cM (by rw[g.len];omega),b.fix j q]
theorem Tm (f:iJ n G)(c:aZ n G O R): ∀(d i:Nat) (x:List Nat),i+d=n->bC n x->
  (∀z,z∈dG O R d i x↔ ∃g,G g/\Fix i g/\z=aX g x)/\(dG O R d i x).Pairwise Lt/\(dG O R d i x).length=fV O d i
 |0,i,x,h,X=>by
  obtain rfl:i=n:=oq
  refine⟨λz=>?_,by simp [dG],rfl⟩;simp only[dG,List.mem_singleton];constructor
  ·rintro rfl;exact⟨bT i,f.one,Fix.one i i (Nat.le_refl _),(eD X).symm⟩
  ·rintro⟨g,p,q,rfl⟩;rw[q.all (f.cX p),eD X]
 |d+1,i,x,h,X=>by
  have hi:i<n:=oq
  have t:=λo (e:o∈jI O x i)=>Tm f c d (i+1) (iM O R x i o) oq (wJ f c X hi e).choose_spec.2.2.2.2.2.1
  have v: ∀o,o∈vY (jI O x i)↔o∈jI O x i:=λo=>(mT _).mem_iff
  have s: ∀o,o∈jI O x i-> ∀z,z∈dG O R d (i+1) (iM O R x i o)->z.length=n/\z.getD i 0=o/\ ∀j,j<i->z.getD j 0=x.getD j 0:=λo e z y=>by
   obtain⟨g,p,q,rfl⟩:=((t o e).1 z).1 y;obtain⟨k,_,_,_,_,_,_,Z,W⟩:=wJ f c X hi e;have r:=f.cX p;refine⟨by rw[eV,r.len],?_,λj A=>?_⟩
   ·rw[cM (by rw[r.len];exact hi),q i oq,Z]
   ·rw[cM (by rw[r.len];omega),q j oq,W j A]
  refine⟨λz=>?_,?_,?_⟩
  ·simp only[dG,List.mem_flatMap,v]
   constructor
   ·rintro⟨o,e,y⟩
    obtain⟨g,p,q,rfl⟩:=((t o e).1 z).1 y;obtain⟨k,_,_,_,m,F,_⟩:=wJ f c X hi e;refine⟨aX g ((R.getD i []).getD k []),f.mul p m.mem,Fix.mul (f.cX p) oq (q.mono oq) m.fix,?_⟩;rw[F,aV (f.cX p) (f.cX m.mem) X]
   ·rintro⟨g,p,q,rfl⟩
    have r:=f.cX p;have L:=(c.mem i hi (g.getD i 0)).2 ⟨g,p,q,rfl⟩;have e:x.getD (g.getD i 0) 0∈jI O x i:=VO.2 ⟨_,L,rfl⟩;refine⟨_,e,((t _ e).1 _).2 ?_⟩;obtain⟨k,N,_,hx,m,F,_⟩:=wJ f c X hi e;have K:(O.getD i []).getD k 0=g.getD i 0:=X.inj (Ir f c hi (by rw[cL N];exact List.getElem_mem N)) (Ir f c hi L) hx;rw[K] at m;have u:=f.cX m.mem;refine⟨aX g (cY ((R.getD i []).getD k [])),f.mul p (f.inv m.mem),(Fix.mul r oq q (Fix.inv u oq m.fix)).succ ?_,?_⟩
    ·rw[cM (by rw[r.len];exact hi)]
     have:=sW u hi;rwa [m.maps] at this
    ·rw[F,←aV (r.mul u.inv) u X,aV r u.inv u,gG u,cE r]
  ·unfold dG
   rw[List.pairwise_flatMap];refine⟨λo e=>(t o ((v o).1 e)).2.1,?_⟩;have B:=Uc (jI O x i);have nd:(vY (jI O x i)).Nodup:=(mT _).nodup_iff.2 (DE f c X hi);rw[List.nodup_iff_pairwise_ne] at nd;refine (B.and nd).imp_of_mem λ{a b} J P a0 z y w Q=>?_
   obtain⟨l1,z1,U⟩:=s a ((v a).1 J) z y;obtain⟨l2,w1,w2⟩:=s b ((v b).1 P) w Q;exact⟨i,oq,λj A=>by rw[U j A,w2 j A],by rw[z1,w1];omega⟩
  ·unfold dG fV
   rw[List.length_flatMap];have:(vY (jI O x i)).map (λa=>(dG O R d (i+1) (iM O R x i a)).length)=(vY (jI O x i)).map λ_=>fV O d (i+1):=List.map_congr_left λa J=>(t a ((v a).1 J)).2.2
   rw[this];have Y:(vY (jI O x i)).length=(O.getD i []).length:=by rw[(mT _).length_eq];simp [jI]
   rw[←Y];generalize vY (jI O x i)=l
   induction l with
   |nil=>simp
   |cons a l t=>simp only[List.map_cons,List.sum_cons,t,List.length_cons,Nat.succ_mul];omega
theorem dL (a:iJ n G)(c:aZ n G O R):dZ G (dG O R n 0 (bT n))/\(dG O R n 0 (bT n)).length=fV O n 0:=by
 obtain⟨d,e,f⟩:=Tm a c n 0 (bT n) oq (bC.one n);refine⟨⟨e,λx=>?_⟩,f⟩;rw[d];constructor
 ·rintro⟨g,hg,_,rfl⟩;rw[cE (a.cX hg)];exact hg
 ·exact λb=>⟨x,b,λk h=>oq,(cE (a.cX b)).symm⟩
end
end
end Go.Pm
namespace Go.Proofs.YtcdbmkidaecdiaaGreat
open Go Go.Ay Go.Pm
set_option maxRecDepth 100000
section
variable {O:LN} {W:Nat->Prop}
theorem EU {O:LN}{m:Nat}(a:1<=m): ∀d i,(∀j,i<=j->j<i+d->(O.getD j []).length<=m)->fV O d i<=m^d
 |0,_,_=>eH _
 |d+1,i,h=>by
  unfold fV;rw[Nat.pow_succ,Nat.mul_comm (m^d)];exact Nat.mul_le_mul (h i (eH _) om) (EU a d (i+1) λj b c=>h j om om)
theorem xX {O:LN}: ∀d i,(∀j,i<=j->j<i+d->0<(O.getD j []).length)->0<fV O d i
 |0,_,_=>Nat.one_pos
 |d+1,i,h=>Nat.mul_pos (h i (eH _) om) (xX d (i+1) λj a b=>h j om om)
theorem GC.row {h:H}{b:V}{n:Nat}{R:fM}{G:List Nat->Prop}(g:GC W h b n O R G){j:Nat}(a:j<n):0<(O.getD j []).length/\(O.getD j []).length<=n:=by
 refine⟨?_,lX (lQ (λx c=>g.dH.cX c) a (g.isc.asc j a) (g.isc.mem j a)) om⟩;exact KH ((g.isc.mem j a j).2 ⟨bT n,g.dH.one,Fix.one n j om,fF a⟩)
theorem XG (vc:V)(n:Nat)(O:LN)(R:fM)(G:List Nat->Prop)(h:H)(l:GC W h vc n O R G):
  Ev T 157 [vc] h (λv h'=> ∃S,v= .tup [.sl S 0 (n+1) (.kn (n+1)),.bool true]/\h'.cell S 0=some (aC (fV O n 0:Nat))/\Fr h h'):=by
 obtain⟨Q,q,e,sO,sR⟩:=l.ch
 subst e
 refine cT Gm rfl ?_
 have p:=l.isc
 have n0:=l.n0
 have n7:=l.n7
 obtain⟨wO,tO,aO⟩:=sO
 have lO:=aO.length
 rw[iN,p.lo] at lO
 have y:=tO.cF.2.1
 have N:q.one=true:=Rd sR
 obtain⟨B,hB⟩:=exI h.next
 obtain⟨h1,e1,n1,g1,o1,f1⟩:=cU hB [aC n,Q,q]
 have bx:=aQ h (v:= aC n) (u:=Q) (w:=q) rfl y N
 have en:(n:Int)+1=((n+1:Nat):Int):=om
 have U:=pQ h1 (n+1) om
 rw[n1] at U
 obtain⟨A,x,n2,g2,o2,f2⟩:=cU n1 (rc (n+1) λ_=> aC 0)
 rw[x] at U
 have f:A.get B=some (.cells false [aC n,Q,q]):=by rw[o2 _ om];exact g1
 have pt: ∀(b:H) (S:Nat) (F:Nat->V) (k:Nat) (v:V),k<n+1->dR (some (.cells false (rc (n+1) F))) b S k [v]=some (b.set S (some (.cells false (rc (n+1) λj=>if j=k then v else F j)))):=λb S F k v Y=>by rw[bP (by rw[jE];exact Y),kX]
 obtain⟨h3,e3,n3,g3,o3⟩:=mD A (B+1) (rc (n+1) λj=>if j=n then aC 1 else aC 0)
 have o:h3.get B=some (.cells false [aC n,Q,q]):=by rw[o3 _ om];exact f
 have a5:n<n+1:=om
 simp(disch:=omega)only[go_sem,Gm,aD,bx,hB,e1,H.aF g1,en,U,H.aF f,g2,pt _ _ _ n _ a5,e3,H.aF o]
 have F3:Fr h h3:=⟨om,λk Y=>by rw[o3 _ om,o2 _ om,o1 _ om]⟩
 have a1: ∀i,i<=n->0<fV O (n-i) i/\fV O (n-i) i<=823543:=λi hi=>by
  refine⟨xX _ _ λj h1 A=>(l.row om).1,lX (EU (m:=7) om _ _ λj h1 A=>by have:=(l.row (j:=j) om).2;omega) ?_⟩;exact lX (Nat.pow_le_pow_right om (show n-i<=7 by omega)) (by decide)
 refine aI (λr c b=> ∃(i:Nat),(∃g:Nat->V,c= [g 0,.ptr B 0,g 2,g 3,.sl (B+1) 0 (n+1) (.kn (n+1)),aC ((i:Int)- 1),g 6,g 7,g 8])/\i<=n/\b.get B=some (.cells false [aC n,Q,q])/\
   b.get (B+1)=some (.cells false (rc (n+1) λj=>if i<=j then aC (fV O (n-j) j:Nat) else aC 0))/\B+1<b.next/\Fr h b/\r=i) n
  ⟨n,aB rfl,eH _,o,?_,om,F3,rfl⟩ ?_
 ·rw[g3]
  congr 2
  refine dA λj hj=>?_
  by_cases e:j=n
  ·subst e;rw[bJ rfl,bJ (eH _),Nat.sub_self];rfl
  ·rw[bL e,bL om]
 clear g3 o o3 n3 e3 h3 F3 f g2 o2 n2 x U A f2
 rintro r c h4 ⟨i,⟨g,rfl⟩,hi,gB,gS,nx,F,Y⟩
 subst Y
 by_cases z:(0:Int)<=(r:Int)- 1
 case neg=>
  have Z:=bE z;obtain rfl:r=0:=om
  simp(disch:=omega)only[go_sem,Z];refine⟨B+1,rfl,?_,F⟩;rw[qF gS om]
  rfl
 have Z:=bN z
 obtain⟨i,rfl⟩: ∃i,r=i+1:=⟨r- 1,om⟩
 have ei:((i+1:Nat):Int)- 1=(i:Int):=om
 have eI:(i:Int)+1=((i+1:Nat):Int):=om
 rw[ei] at Z ⊢
 have a:=gE aO (i:=i) (by rw[iN,p.lo];omega) .undef []
 rw[iD zi (d:= []) (by rw[p.lo];omega)] at a
 obtain⟨a4,L,a3,a7,a2⟩:=(tO.mono F).shape n om om
 have co:h4.cell a4 (L+i)=some (wO.getD i .undef):=by rw[a2 i om,List.getD,dF om];rfl
 generalize wO.getD i .undef=vo at a co
 have lo:=a.lens
 rw[aN] at lo
 obtain⟨m,hm⟩:=exI ((O.getD i []).length)
 rw[hm] at lo
 have K:=l.row (j:=i) om
 rw[hm] at K
 have cS:h4.cell (B+1) (i+1)=some (aC ((fV O (n-(i+1)) (i+1):Nat):Int)):=by rw[qF gS om,bJ (eH _)]
 obtain⟨s,hs⟩:=exI (fV O (n-(i+1)) (i+1))
 rw[hs] at cS
 have t:=a1 (i+1) om
 rw[hs] at t
 have P:(1000000000000000000:Int).tdiv (m:Int)=((1000000000000000000/m:Nat):Int):=by
  rw[show (1000000000000000000:Int)=((1000000000000000000:Nat):Int) from rfl,Int.tdiv_eq_ediv_of_nonneg om];rfl
 have hq:100000000000000000<=1000000000000000000/m:=by
  rw[Nat.le_div_iff_mul_le om];omega
 have a9:1000000000000000000/m<=1000000000000000000:=Nat.div_le_self _ _
 have d2:decide (((1000000000000000000/m:Nat):Int)<(s:Int))=false:=bE om
 have J:(m:Int)*(s:Int)=((m*s:Nat):Int):=rfl
 have a8:m*s<=7*823543:=Nat.mul_le_mul om t.2
 have a0:i<n+1:=om
 have a6:(m:Int)≠0:=om
 simp(disch:=omega)only[go_sem,Z,H.aF gB,a3.ixa,co,lo,eI,cS,P,a6,d2,J,gS,pt _ _ _ i _ a0]
 refine⟨i,om,i,aB rfl,om,gB,?_,om,?_,rfl⟩
 ·congr 2
  refine dA λj hj=>?_
  by_cases e:j=i
  ·subst e
   rw[bJ rfl,bJ (eH _),show n-j=(n-(j+1))+1 by omega]
   unfold fV
   rw[hm,hs]
  ·rw[bL e]
   by_cases x:i+1<=j
   ·rw[bJ x,bJ om]
   ·rw[bL x,bL om]
 ·exact (F.bH om).set om _
theorem aaR (l:V)(n:Nat)(O:LN)(R:fM)(G:List Nat->Prop)(h:H)(d:GC W h l n O R G):
  Ev T 119 [l] h (λv h'=>v= .tup [aC (fV O n 0:Nat),aC 0]/\Fr h h'):=by
 obtain⟨f,c,e,z,p⟩:=d.ch
 subst e
 refine cT vA rfl ?_
 have b:f.one=true:=Vu z
 have a:c.one=true:=Rd p
 obtain⟨B,k⟩:=exI h.next
 obtain⟨F,s,J,m,K,j⟩:=cU k [aC n,f,c]
 have y:=aQ h (v:= aC n) (u:=f) (w:=c) rfl b a
 have r:=aG m
 simp(disch:=omega)only[go_sem,vA,aD,y,k,s,r]
 refine ((d.mono j).check).mono ?_
 rintro _ o ⟨rfl,g⟩
 have i:=aG (h:=o) (id:=B) (by rw[g.get _ om];exact m)
 simp(disch:=omega)only[go_sem]
 refine bA (λq=>(q rfl).elim) (λ_=>?_)
 simp(disch:=omega)only[go_sem,i]
 refine (XG _ n O R G o ((d.mono j).mono g)).mono ?_
 rintro _ A ⟨S,rfl,x,t⟩
 simp(disch:=omega)only[go_sem,x]
 exact (j.trans g).trans t
end
theorem ahM {h:H}{S k c:Nat}{vs:List V}{y w:V}(a:h.get S=some (.cells false vs))(i:vs.length=c)(j:k<c)(g:c<1000000)(b:SV h y 1 [w]):
  yE h 1 8 (.sl S 0 k (.kn c)) y=some (.sl S 0 (k+1) (.kn c),h.set S (some (.cells false (vs.set k w)))):=by
 have f:yE h 1 8 (.sl S 0 k (.kn c)) y=Ay.yA h 1 8 (.sl S 0 k (.kn c)) 1 [w]:=by
  simp only[yE,b.len (n:=1) rfl om,b.slice]
 rw[f]
 have e:h.slice 1 (.sl S 0 k (.kn c))=some (vs.take k):=by
  simp only[H.slice,H.row,a,sub];rw[bJ om];simp
 have d:h.put S (0+k*1) [w]=some (h.set S (some (.cells false (vs.set k w)))):=by
  rw[H.put_eq,a,Nat.zero_add,uH,bP om]
 unfold Ay.yA
 simp only[e,uB]
 rw[bL om,bJ om,bJ om,d]
theorem FT {l:List Int}{a:List Nat}(b:l.Perm (zi a))(c:l.Pairwise (· <= ·)):l=zi (vY a):=by
 refine Xw ?_ c ?_
 ·exact b.trans ((mT a).map _).symm
 ·unfold zi
  rw[List.pairwise_map];exact (Uc a).imp λh=>om
theorem Hj (O:LN)(x:List Nat)(i:Nat):(jI O x i).length=(O.getD i []).length:=by simp [jI]
theorem YY {O:LN}{x:List Nat}{i k:Nat}(a:k<(O.getD i []).length):(jI O x i).getD k 0=x.getD ((O.getD i []).getD k 0) 0:=by
 unfold jI;rw[iD (λq=>x.getD q 0) (d:=0) a]
theorem FV {W:Nat->Prop}(vc vx:V)(n i:Nat)(O:LN)(R:fM)(G:List Nat->Prop)(x:List Nat)(h:H)(K:GC W h vc n O R G)(hi:i<n)(hx:SI h vx (zi x))(X:bC n x):
  Ev T 180 [vc,vx,aC i] h (λv h'=>zH h h' v (zi (vY (jI O x i)))):=by
 obtain⟨vO,vR,e,sO,sR⟩:=K.ch
 subst e
 refine cT zW rfl ?_
 have b:=K.isc
 have n7:=K.n7
 obtain⟨wO,tO,aO⟩:=sO
 have lO:=aO.length
 rw[iN,b.lo] at lO
 have A:=tO.cF.2.1
 have a1:vR.one=true:=Rd sR
 obtain⟨B,hB⟩:=exI h.next
 obtain⟨h1,e1,n1,g1,o1,f1⟩:=cU hB [aC n,vO,vR]
 have bx:=aQ h (v:= aC n) (u:=vO) (w:=vR) rfl A a1
 have a:=gE aO (i:=i) (by rw[iN,b.lo];omega) .undef []
 rw[iD zi (d:= []) (by rw[b.lo];omega)] at a
 obtain⟨L,l,a7,J,a4⟩:=(tO.mono f1).shape n om om
 have co:h1.cell L (l+i)=some (wO.getD i .undef):=by rw[a4 i om,List.getD,dF om];rfl
 generalize wO.getD i .undef=vo at a co
 have lo:=a.lens
 rw[aN] at lo
 obtain⟨m,s⟩:=exI ((O.getD i []).length)
 rw[s] at lo
 have Z:=K.row (j:=i) hi
 rw[s] at Z
 have mk:Iv h1 1 8 [aC 0] (aC 0) (aC m)=some (.sl (B+1) 0 0 (.kn m),h1.new (.cells false (rc m λ_=> aC 0))):=by
  rw[tC om om om om,OM,uH,Iy,show ints (List.replicate m 0)=rc m λ_=> aC 0 from (Kp (by simp [aP]) λi hi=>by simp [ints,hi]).symm,n1]
  rfl
 obtain⟨h2,e2,n2,g2,o2,f2⟩:=cU n1 (rc m λ_=> aC 0)
 rw[e2] at mk
 have a8:h2.get B=some (.cells false [aC n,vO,vR]):=by rw[o2 _ om];exact g1
 have a6:h2.cell L (l+i)=some vo:=by rw[f2.cell (by have:=J om;omega)];exact co
 simp(disch:=omega)only[go_sem,zW,aD,bx,hB,e1,H.aF g1,a7.ixa,co,lo,mk,H.aF a8,a6]
 obtain⟨a9,Y,a0,c,y⟩:=a.open
 rw[aN,s] at a0 c y
 obtain⟨idx,Q,a2,f,N⟩:=hx.open
 rw[aN,X.len] at a2 f N
 refine aI (λk' o hh=> ∃(k:Nat),(∃g:Nat->V,o= [g 0,vx,g 2,g 3,g 4,.sl (B+1) 0 k (.kn m),g 6,vo,aC m,aC k,g 10])/\k<=m/\hh.get (B+1)=some (.cells false (rc m λj=>if j<k then aC ((jI O x i).getD j 0:Nat) else aC 0))/\B+1<hh.next/\Fr h hh/\k'=m-k) m
  ⟨0,aB rfl,fR _,by rw[g2];rfl,om,f1.trans f2,rfl⟩ ?_
 rintro k' o p ⟨k,⟨g,rfl⟩,hk,gS,nx,F,rfl⟩
 by_cases U:(k:Int)<(m:Int)
 ·have d1:=bN U
  have P:k<m:=om
  have cq:p.cell a9 (Y+k)=some (aC ((O.getD i []).getD k 0:Nat)):=by rw[F.cell (c om),y k P];congr 2;rw[zi,iD _ (d:=0) om]
  have hq:=Ir K.dH b hi (q:=(O.getD i []).getD k 0) (aW om)
  have a3:=YY (O:=O) (x:=x) (i:=i) (k:=k) om
  generalize (O.getD i []).getD k 0=q at cq hq a3
  have cx:p.cell idx (Q+q)=some (aC (x.getD q 0:Nat)):=by rw[F.cell (f om),N q hq];congr 2;simp [zi,X.len,hq]
  obtain⟨h5,e5,n5,g5,o5,r⟩:=cU (h:=p) rfl [aC (x.getD q 0:Nat)]
  have b0:h5.get (B+1)=some (.cells false (rc m λj=>if j<k then aC ((jI O x i).getD j 0:Nat) else aC 0)):=by rw[r.get _ nx];exact gS
  have ap:=ahM b0 (jE _ _) P om (SV.one (v:= aC (x.getD q 0:Nat)) (id:=p.next) om g5 (.kn 1))
  rw[kX] at ap
  simp(disch:=omega)only[go_sem,d1,a0.ixa,cq,a2.ixa,cx,bZ p (z:= aC 0) (v:= aC (x.getD q 0:Nat)) rfl rfl,e5,ap]
  rw[dU k]
  refine⟨m-(k+1),om,k+1,aB rfl,om,?_,om,(F.trans r).set om _,rfl⟩
  congr 2
  refine dA λj hj=>?_
  by_cases e:j=k
  ·subst e;rw[bJ rfl,bJ om,a3]
  ·rw[bL e]
   by_cases e2:j<k
   ·rw[bJ e2,bJ om]
   ·rw[bL e2,bL om]
 have d1:=bE U
 obtain rfl:k=m:=om
 have b2:(zi (jI O x i)).length=k:=by rw[aN,Hj,s]
 have b1:p.get (B+1)=some (.cells false (ints (zi (jI O x i)))):=by
  rw[gS,←Xt,Hj,s];congr 2;exact dA λj hj=>by rw[bJ hj]
 have so:=Ma p (B+1) (zi (jI O x i)) (.kn k) om b1 nx
 rw[b2] at so
 simp(disch:=omega)only[go_sem,d1]
 refine so.mono ?_
 rintro _ h5 ⟨l',g5,p5,a5,r⟩
 have el:=FT p5 a5
 subst el
 have ls:(zi (vY (jI O x i))).length=k:=by rw[aN,(mT _).length_eq,Hj,s]
 simp(disch:=omega)only[go_sem]
 refine⟨⟨B+1,_,by rw[ls],om,jB nx r.next,g5,.inr (by rw[ls])⟩,⟨lX F.next r.next,λid t=>?_⟩⟩
 rw[r.get id (jB t F.next) (λe=>by have:id=B+1:=e;omega)]
 exact F.get id t
theorem XT: ∀{l:List Nat} {k im:Nat},l[k]? =some im->l.idxOf im<=k
 | [],k,im,h=>by simp at h
 |a::l,0,im,h=>by
  have:a=im:=by simpa using h
  subst this;simp [List.idxOf_cons]
 |a::l,k+1,im,h=>by
  rw[List.idxOf_cons]
  by_cases e:a=im
  ·subst e;simp
  ·have b:(a==im)=false:=by simpa using e
   rw[b];have:=XT (l:=l) (k:=k) (im:=im) (by simpa using h);simp only[cond_false];omega
theorem agV (z L:V)(a b:Nat)(o x:List Nat)(im:Nat)(h:H)(hn:o.length<1000000)(R:SI h z (zi o))(hx:SI h L (zi x))(ha:h.get a=some (.cells false [L]))(Z:h.get b=some (.cells false [aC im]))(K:a<h.next)(B:b<h.next)(hr: ∀q∈o,q<x.length)(s:im∈o.map λq=>x.getD q 0):
  Ev T 222 [z,.fn 223 [] [.ptr a 0,.ptr b 0]] h (λv h'=>v= aC ((o.map λq=>x.getD q 0).idxOf im:Nat)/\Fr h h'):=by
 refine cT lC rfl ?_
 have U:=R.lens
 rw[aN] at U
 obtain⟨J,y,r,i,p⟩:=R.open
 rw[aN] at r i p
 obtain⟨idx,w,u,j,t⟩:=hx.open
 rw[aN] at u j t
 have N:=iLL.2 s
 rw[iN] at N
 simp(disch:=omega)only[go_sem,lC,aD,U]
 refine aI (λQ l f=> ∃(k:Nat),(∃g:Nat->V,l= [z,.fn 223 [] [.ptr a 0,.ptr b 0],g 2,g 3,aC (o.length:Int),aC k,g 6,g 7])/\k<=(o.map λq=>x.getD q 0).idxOf im/\Fr h f/\Q=o.length-k) o.length
  ⟨0,aB rfl,fR _,Fr.refl h,rfl⟩ ?_
 rintro Q l f ⟨k,⟨g,rfl⟩,hk,F,rfl⟩
 have c:k<o.length:=om
 have d1:decide ((k:Int)<(o.length:Int))=true:=bN om
 have P:f.cell J (y+k)=some (aC (o.getD k 0:Nat)):=by rw[F.cell (i om),p k c];congr 2;rw[zi,iD _ (d:=0) c]
 have G:=hr _ (aW (d:=0) c)
 have m:(o.map λq=>x.getD q 0)[k]'(by simpa using c)=x.getD (o.getD k 0) 0:=by simp [List.getD,c]
 generalize o.getD k 0=q at P G m
 have W:f.cell idx (w+q)=some (aC (x.getD q 0:Nat)):=by rw[F.cell (j om),t q G];congr 2;simp [zi,G]
 have Y:f.cell a 0=some L:=by rw[H.aF (by rw[F.get _ K];exact ha)];rfl
 have cb:f.cell b 0=some (aC im):=by rw[H.aF (by rw[F.get _ B];exact Z)];rfl
 have cl:Ev T 223 [aC q,.ptr a 0,.ptr b 0] f (λv h'=>v= .bool (decide (((x.getD q 0:Nat):Int)=(im:Int)))/\Fr f h'):=by
  refine cT Dj rfl ?_;simp(disch:=omega)only[go_sem,Dj,aD,Y,u.ixa,W,cb];exact (Fr.refl f).bH om
 simp(disch:=omega)only[go_sem,d1,r.ixa,P]
 refine cl.mono ?_
 rintro _ h2 ⟨rfl,O⟩
 by_cases n:((x.getD q 0:Nat):Int)=(im:Int)
 ·rw[bN n]
  simp(disch:=omega)only[go_sem]
  have:(o.map λq=>x.getD q 0).idxOf im=k:=by
   have A:(o.map λq=>x.getD q 0).idxOf im<=k:=XT (by
    rw[dF (by simpa using c),m]
    congr 1;omega)
   omega
  rw[this]
  exact⟨rfl,F.trans O⟩
 ·rw[bE n]
  simp(disch:=omega)only[go_sem]
  rw[dU k]
  refine⟨o.length-(k+1),om,k+1,aB rfl,?_,F.trans O,rfl⟩
  have:(o.map λq=>x.getD q 0).idxOf im≠k:=λe=>by
   have A:=List.getElem_idxOf (iLL.2 s);simp only[e] at A;rw[m] at A;omega
  omega
theorem YT {W:Nat->Prop}(vc l:V)(n i im:Nat)(O:LN)(R:fM)(G:List Nat->Prop)(x:List Nat)(h:H)(g:GC W h vc n O R G)(hi:i<n)(K:SI h l (zi x))(X:bC n x)(p:im∈jI O x i):
  Ev T 181 [vc,l,aC i,aC im] h (λv h'=>zH h h' v (zi (iM O R x i im))):=by
 obtain⟨N,L,e,sO,sR⟩:=g.ch
 subst e
 refine cT Kz rfl ?_
 have a:=g.isc
 have n7:=g.n7
 obtain⟨wO,tO,aO⟩:=sO
 obtain⟨wR,tR,aR,kR⟩:=sR
 have lO:=aO.length
 have lR:=aR.length
 rw[iN,a.lo] at lO
 rw[iN,a.lr] at lR
 have o:=tO.cF.2.1
 have F:=tR.cF.2.1
 obtain⟨B,hB⟩:=exI h.next
 obtain⟨h1,e1,n1,g1,o1,f1⟩:=cU hB [aC n,N,L]
 obtain⟨h2,e2,n2,g2,o2,f2⟩:=cU n1 [l]
 obtain⟨J,e3,n3,g3,o3,f3⟩:=cU n2 [aC im]
 have P:=(f1.trans f2).trans f3
 have bx:=aQ h (v:= aC n) (u:=N) (w:=L) rfl o F
 have a2:=kW K.cF.1 K.cF.2.1 h1
 have a4:=Mz h2 .i64 (im:Int)
 have y:J.get B=some (.cells false [aC n,N,L]):=by rw[o3 _ om,o2 _ om];exact g1
 have m:J.get (B+1)=some (.cells false [l]):=by rw[o3 _ om];exact g2
 have b:=gE aO (i:=i) (by rw[iN,a.lo];omega) .undef []
 rw[iD zi (d:= []) (by rw[a.lo];omega)] at b
 obtain⟨a3,z,a1,b4,U⟩:=(tO.mono P).shape n om om
 have co:J.cell a3 (z+i)=some (wO.getD i .undef):=by rw[U i om,List.getD,dF om];rfl
 generalize wO.getD i .undef=vo at b co
 simp(disch:=omega)only[go_sem,Kz,aD,bx,hB,e1,a2,n1,e2,a4,n2,e3,H.aF y,a1.ixa,co]
 have row:=g.row (j:=i) hi
 refine (agV vo l (B+1) (B+1+1) (O.getD i []) x im J om (b.mono P) (K.mono P) m g3 om om (λq hq=>by rw[X.len];exact Ir g.dH a hi hq) p).mono ?_
 rintro _ f ⟨rfl,f4⟩
 obtain⟨k,hk,ek,_,a9,es,Y,_⟩:=wJ g.dH a X hi p
 have Q:(List.map (λq=>x.getD q 0) (O.getD i [])).idxOf im=k:=ek
 rw[Q,es]
 have r:=P.trans f4
 have b2:f.get B=some (.cells false [aC n,N,L]):=by rw[f4.get _ om];exact y
 have b0:f.get (B+1)=some (.cells false [l]):=by rw[f4.get _ om];exact m
 have c:=gE aR (i:=i) (by rw[iN,a.lr];omega) .undef []
 rw[iD (List.map zi) (d:= []) (by rw[a.lr];omega)] at c
 obtain⟨a8,s,b1,b3,a0⟩:=(tR.mono r).shape n om om
 have cr:f.cell a8 (s+i)=some (wR.getD i .undef):=by rw[a0 i om,List.getD,dF om];rfl
 generalize wR.getD i .undef=vr at c cr
 obtain⟨wr,tr,ar⟩:=c
 have lr:=ar.length
 rw[iN] at lr
 have A:k<(R.getD i []).length:=by rw[a.rl i hi];exact hk
 have sz:=gE ar (i:=k) (by rw[iN];exact A) .undef []
 rw[iD zi (d:= []) A] at sz
 obtain⟨a6,t,a7,b5,a5⟩:=(tr.mono r).shape (R.getD i []).length om om
 have cz:f.cell a6 (t+k)=some (wr.getD k .undef):=by rw[a5 k om,List.getD,dF om];rfl
 generalize wr.getD k .undef=vz at sz cz
 have b6:(k:Int)<((R.getD i []).length:Int):=om
 have Z:=g.dH.cX a9.mem
 have fb:Fr f (H.mk f.tr (f.next+11)):=(Fr.refl f).bH om
 simp(disch:=omega)only[go_sem,H.aF b2,b1.ixa,cr,a7.ixa,cz,H.aF b0]
 refine (mL DK.ok vz l _ x (H.mk f.tr (f.next+11)) (by rw[Z.len];omega) (sz.mono (r.trans fb)) (K.mono (r.trans fb)) (λj hj=>by rw[X.len];exact Z.gW (by rw[←Z.len];exact hj))).mono ?_
 rintro v h5 nw
 simp(disch:=omega)only[go_sem]
 exact (sT nw).le (r.trans fb)
def Kept (b:Nat)(W:Nat->Prop)(hh h':H):Prop:=hh.next<=h'.next/\ ∀id,id<hh.next->(id<b∨W id)->h'.get id=hh.get id
theorem Kept.fr {b:Nat}{W:Nat->Prop}{a h':H}(f:Fr a h'):Kept b W a h':=⟨f.next,λid h _=>f.get id h⟩
structure Rdr (id b:Nat)(L:LN)(W0:Nat->Prop)(J:Nat->(Nat->Prop)->H->Prop)(D:(Nat->Prop)->H->Prop):Prop where
 kJ: ∀k W hh h',J k W hh->Kept b W hh h'->J k W h'
 kD: ∀W hh h',D W hh->Kept b W hh h'->D W h'
 y: ∀k W hh v,k<L.length->J k W hh->PV W hh v (L.getD k [])->(∀id,W id->id<hh.next)->b<=hh.next->(∀id,id<b->W id->W0 id)->
  Ey T id [v] hh (λv h'=> ∃W2,(∀id,id<hh.next->W2 id->W id)/\(∀id,W2 id->id<h'.next)/\Fx W hh h'/\(v= .bool true/\J (k+1) W2 h'∨v= .bool false/\D W2 h'))
def ElC (n:Nat)(vO vR:V)(O:LN)(R:fM)(G:List Nat->Prop)(d:Nat):Prop:=
 ∀(i:Nat) (x:List Nat) (vx:V) (id bi bc bx:Nat) (h:H) (W:Nat->Prop) (J:Nat->(Nat->Prop)->H->Prop) (D:(Nat->Prop)->H->Prop),i+d=n->bC n x->
  h.get bi=aY [aC i]->h.get bc=aY [aC n,vO,vR]->h.get bx=aY [vx]->PV W h vx x->bi<h.next->bc<h.next->bx<h.next-> ¬W bi-> ¬W bc-> ¬W bx->
  GC W h (.agg [aC n,vO,vR]) n O R G->(∀id,W id->id<h.next)->J 0 W h->Rdr id h.next (dG O R d i x) W J D->
  Ev T 179 [.yl id,.ptr bi 0,.ptr bc 0,.ptr bx 0] h (λ_ h'=> ∃W2,(∀id,id<h.next->W2 id->W id)/\(∀id,W2 id->id<h'.next)/\Fx W h h'/\(J (dG O R d i x).length W2 h'∨D W2 h'))
theorem YX (n:Nat)(A w:V)(O:LN)(R:fM)(G:List Nat->Prop):ElC n A w O R G 0:=by
 intro i x N id o F Y h W J D hi X K z P q li lc Z wi wc wx g t L rd;refine cT kQ rfl ?_;obtain rfl:i=n:=om
 obtain⟨B,f⟩:=exI h.next;obtain⟨a,p,n1,s,c,e⟩:=cU f [.yl id];have d:=kW (x:= .yl id) rfl rfl h;have ci:=H.aF (h:=a) (id:=o) (by rw[c _ om];exact K);have l:=H.aF (h:=a) (id:=F) (by rw[c _ om];exact z);have k:=H.aF (h:=a) (id:=Y) (by rw[c _ om];exact P);have d1:decide ((i:Int)=(i:Int))=true:=bN rfl;simp(disch:=omega)only[go_sem,kQ,aD,d,f,p,ci,l];refine bA (λ_=>?_) (λm=>(m (by first|rfl|trivial)).elim);simp(disch:=omega)only[go_sem,H.aF s,k];refine (rd.y 0 W a N (by simp [dG]) (rd.kJ 0 W h a L (Kept.fr e)) (q.mono e) (λid h=>by have:=t id h;omega) om (λid _ h=>h)).mono ?_;rintro v j ⟨u,U,Q,r,b⟩;simp(disch:=omega)only[go_sem];refine⟨u,λid a j=>U id om j,Q,(Fx.of e).trans r (λ_ _ h=>h),?_⟩;rcases b with ⟨_,b⟩|⟨_,b⟩
 ·exact .inl b
 ·exact .inr b
theorem WZ (d:Int)(c b a:V)(i:Int)(q:c.one=true)(A:b.one=true)(g:a.cells= [a])(e:a.one=true)(h:H):Ev T 136 [.agg [aC d,c,b],a,aC i] h (λv h'=>v= .fn 179 [] [.ptr (h.next+1+1) 0,.ptr h.next 0,.ptr (h.next+1) 0]/\
  h'.get h.next=aY [aC d,c,b]/\h'.get (h.next+1)=aY [a]/\h'.get (h.next+1+1)=aY [aC i]/\h'.next=h.next+3/\Fr h h'):=by
 refine cT yZ rfl ?_
 obtain⟨B,k⟩:=exI h.next
 obtain⟨F,x,n,L,P,J⟩:=cU k [aC d,c,b]
 obtain⟨N,t,m,s,p,y⟩:=cU n [a]
 obtain⟨O,K,o,r,l,G⟩:=cU m [aC i]
 have z:=aQ h (v:= aC d) (u:=c) (w:=b) rfl q A
 have j:=kW g e F
 have f:=Mz N .i64 i
 simp(disch:=omega)only[go_sem,yZ,aD,z,k,x,j,n,t,f,m,K]
 exact⟨by rw[l _ om,p _ om];exact L,by rw[l _ om];exact s,r,o,(J.trans y).trans G⟩
theorem TV {α β:Type}{l:List α}{f:α->List β}{m:Nat}(a:m<l.length)(d:α):((l.take (m+1)).flatMap f).length=((l.take m).flatMap f).length+(f (l.getD m d)).length:=by
 rw[dE d a,List.flatMap_append];simp
theorem JC {α β:Type}{f:α->List β}{e:β}(d:α): ∀{l:List α} {m k:Nat},m<l.length->k<(f (l.getD m d)).length->(l.flatMap f).getD (((l.take m).flatMap f).length+k) e=(f (l.getD m d)).getD k e/\((l.take m).flatMap f).length+k<(l.flatMap f).length
 | [],m,k,h,_=>by simp at h
 |a::l,0,k,_,b=>by
  have b:k<(f a).length:=b;constructor
  ·simp only[List.take_zero,List.flatMap_nil,List.length_nil,Nat.zero_add,List.flatMap_cons]
   rw[List.getD,List.getD,Ej b];rfl
  ·simp;omega
 |a::l,m+1,k,h,b=>by
  have g:m<l.length:=by simpa using h
  have c:k<(f (l.getD m d)).length:=by simpa using b
  obtain⟨i,j⟩:=JC (e:=e) d (l:=l) g c;constructor
  ·simp only[List.take_succ_cons,List.flatMap_cons,iA]
   rw[Nat.add_assoc,List.getD,Eb om,Nat.add_sub_cancel_left];exact i
  ·simp only[List.take_succ_cons,List.flatMap_cons,iA];omega
structure InJ (off id2 b4 id:Nat)(r:dY)(J:Nat->(Nat->Prop)->H->Prop)(W0:Nat->Prop)(k:Nat)(W:Nat->Prop)(hh:H):Prop where
 ex: ∃W3,(∀id,W id↔(W3 id∨id=id2))/\ ¬W3 id2/\ ¬W3 b4/\J (off+k) W3 hh/\(∀id,W3 id->id<hh.next)/\ ∀id,id<id2->W3 id->W0 id
 gr:hh.get id2=some (.loop r)
 g4:hh.get b4=aY [.yl id]
 nx:id2<hh.next
structure InD (id2 b4:Nat)(r:dY)(D:(Nat->Prop)->H->Prop)(W0:Nat->Prop)(W:Nat->Prop)(hh:H):Prop where
 ex: ∃W3,(∀id,W id↔(W3 id∨id=id2))/\ ¬W3 id2/\D W3 hh/\(∀id,W3 id->id<hh.next)/\ ∀id,id<id2->W3 id->W0 id
 gr:hh.get id2=some (.loop (tM r .ret))
 nx:id2<hh.next
theorem ZA (n:Nat)(K F:V)(O:LN)(R:fM)(G:List Nat->Prop)(d:Nat)(ih:ElC n K F O R G d):ElC n K F O R G (d+1):=by
 intro i x vx id bi bc bx h W J D hi X gi gc gx px li lc lx wi wc wx gC hW hJ rd;refine cT kQ rfl ?_;have a4:i<n:=om
 have n7:=gC.n7
 obtain⟨c3,d3⟩:K.one=true/\F.one=true:=by
  obtain⟨a,b,e,s1,s2⟩:=gC.ch;cases e;obtain⟨_,t1,_⟩:=s1;obtain⟨_,t2,_⟩:=s2;exact⟨t1.cF.2.1,t2.cF.2.1⟩
 obtain⟨B,hB⟩:=exI h.next;obtain⟨p,e1,n1,g1,o1,f1⟩:=cU hB [.yl id];have e9:=kW (x:= .yl id) rfl rfl h;have c5:p.get bi=aY [aC i]:=by rw[o1 _ om];exact gi
 have c0:p.get bc=aY [aC n,K,F]:=by rw[o1 _ om];exact gc
 have c6:p.get bx=aY [vx]:=by rw[o1 _ om];exact gx
 have d1:decide ((i:Int)=(n:Int))=false:=bE om;have g6:=aG c0;simp(disch:=omega)only[go_sem,kQ,aD,e9,hB,e1,H.aF c5,H.aF c0,d1,g6,H.aF c6];refine (FV (.agg [aC n,K,F]) vx n i O R G x p (gC.mono f1) a4 (px.mono f1).si X).mono ?_;rintro v8 c b7;obtain⟨u,a6⟩:=exI (vY (jI O x i));rw[a6] at b7;have f2:=b7.fr;have F2:=f1.trans f2
 have i1:u.length<=7:=by
  have:=(gC.row (j:=i) a4).2;rw[←a6,(mT _).length_eq,Hj];omega
 have f7: ∀q,q∈u->q∈jI O x i:=λq h=>(mT _).mem_iff.1 (by rw[a6];exact h)
 have hL:dG O R (d+1) i x=u.flatMap λq=>dG O R d (i+1) (iM O R x i q):=by rw[←a6];rfl
 obtain⟨P,cp,b9,i3,d8,gP,_⟩:=b7.ex;rw[aN] at b9;have l8:bF v8=some (aC (u.length:Int)):=by rw[b9];rfl
 have d6:J 0 W c:=rd.kJ 0 W h c hJ (Kept.fr F2);have n2:=f2.next;simp(disch:=omega)only[go_sem,l8];refine aI (λk' b2 hh=> ∃(m:Nat) (s:Nat->Prop),(∃g:Nat->V,b2= [.yl id,.ptr bi 0,.ptr bc 0,.ptr bx 0,.ptr B 0,g 5,g 6,g 7,v8,aC (u.length:Int),aC m,g 11,g 12,g 13,g 14])/\m<=u.length/\J ((u.take m).flatMap λq=>dG O R d (i+1) (iM O R x i q)).length s hh/\Fx W c hh/\(∀id,id<c.next->s id->W id)/\(∀id,s id->id<hh.next)/\k'=u.length-m) u.length
  ⟨0,W,aB rfl,fR _,d6,Fx.refl _ _,λ_ _ h=>h,λid h=>by have:=hW id h;omega,rfl⟩ ?_
 rintro k' b2 w ⟨m,s,⟨g,rfl⟩,hm,a7,F3,w1,w2,rfl⟩
 by_cases d0:(m:Int)<(u.length:Int)
 case neg=>
  have d2:=bE d0;obtain rfl:m=u.length:=om
  simp(disch:=omega)only[go_sem,d2];rw[List.take_length,←hL] at a7;exact⟨s,λid p c=>w1 id om c,w2,(Fx.of F2).trans F3 (λ_ _ h=>h),.inl a7⟩
 have d2:=bN d0;have a8:m<u.length:=om
 obtain⟨q,a0⟩:=exI (u.getD m 0);have a9:q∈jI O x i:=f7 q (by rw[←a0];exact aW a8);obtain⟨_,_,_,_,_,_,Y,_⟩:=wJ gC.dH gC.isc X a4 a9;have n3:=F3.next;have zI: ∀k,k<c.next-> ¬W k->w.get k=c.get k:=λk p c=>F3.get k p c
 have wB: ¬W B:=λh=>by have:=hW B h;omega
 have wP: ¬W P:=λh=>by have:=hW P h;omega
 have c2:w.get bi=aY [aC i]:=by rw[zI _ om wi,f2.get _ om];exact c5
 have b6:w.get bc=aY [aC n,K,F]:=by rw[zI _ om wc,f2.get _ om];exact c0
 have d9:w.get bx=aY [vx]:=by rw[zI _ om wx,f2.get _ om];exact c6
 have e0:w.get B=aY [.yl id]:=by rw[zI _ om wB,f2.get _ om];exact g1
 have cP:w.cell P m=some (aC q):=by rw[H.aF (by rw[zI _ d8 wP];exact gP),Iq a8,a0]
 have e3:=aG b6
 have eO:dB K K=true:=by
  obtain⟨a,b,e,s1,s2⟩:=gC.ch;cases e;obtain⟨_,t1,_⟩:=s1;exact t1.dB
 have eR:dB F F=true:=by
  obtain⟨a,b,e,s1,s2⟩:=gC.ch;cases e;obtain⟨_,t2,_⟩:=s2;exact t2.dB
 have g8:GC W w (.agg [aC n,K,F]) n O R G:=(gC.mono F2).go F3 (λ_ _ h=>h);have e6:PV W w vx x:=(px.mono F2).fx F3;have fb:Fr w (H.mk w.tr (w.next+9)):=(Fr.refl w).bH om;rw[b9];have g5:(i:Int)+1=((i+1:Nat):Int):=om
 simp(disch:=omega)only[go_sem,d2,cP,e3,aG (h:=H.mk w.tr (w.next+9)) b6,H.aF d9,H.aF c2,g5];refine (YT (.agg [aC n,K,F]) vx n i q O R G x (H.mk w.tr (w.next+9)) (g8.mono fb) a4 (e6.mono fb).si X a9).mono ?_;rintro c1 h4 c7;have f4:=fb.trans c7.fr;have n4:=f4.next;have e7:h4.get bi=aY [aC i]:=by rw[f4.get _ om];exact c2
 have g3:h4.get bc=aY [aC n,K,F]:=by rw[f4.get _ om];exact b6
 have b3:PV s h4 c1 (iM O R x i q):=c7.pv λid h=>by have:=w2 id h;simp;omega
 simp(disch:=omega)only[go_sem,H.aF e7,aG g3,eO,eR];refine (WZ (n:Int) K F c1 ((i+1:Nat):Int) c3 d3 b3.dP.1 b3.dP.2 h4).mono ?_;rintro _ h5 ⟨rfl,f3,f0,g2,n5,f5⟩;simp(disch:=omega)only[go_sem];refine⟨rfl,uT λr hr=>?_⟩;obtain⟨o,b8⟩:=exI h5.next;rw[b8];have iB:r.st= .ready:=by rw[hr]
 have c4:r.pend=none:=by rw[hr]
 obtain⟨h6,a3⟩: ∃h6,h6=h5.new (.loop r):=⟨_,rfl⟩
 have e4:h6.get o=some (.loop r):=by rw[a3,←b8,H.aL]
 have n6:h6.next=o+1:=by rw[a3,H.aU,b8]
 have f6:Fr h5 h6:=by rw[a3];exact (Fr.refl h5).new _
 rw[←a3];have b5:=(f4.trans f5).trans f6;obtain⟨Z,N⟩:=exI (((u.take m).flatMap λq=>dG O R d (i+1) (iM O R x i q)).length);rw[N] at a7;have i2:=f5.next;have g7: ¬s o:=λh=>by have:=w2 o h;omega
 have e5: ¬s B:=λh=>wB (w1 B om h)
 have e8: ∀k,k<(dG O R d (i+1) (iM O R x i q)).length->(dG O R (d+1) i x).getD (Z+k) []=(dG O R d (i+1) (iM O R x i q)).getD k []/\Z+k<(dG O R (d+1) i x).length:=λk hk=>by
  rw[hL,←N];have:=JC (f:=λq=>dG O R d (i+1) (iM O R x i q)) (e:=([]:List Nat)) 0 (l:=u) (m:=m) (k:=k) a8 (by rw[a0];exact hk);rw[a0] at this;exact this
 have c8:Fx W h h6:=((Fx.of F2).trans F3 (λ_ _ h=>h)).trans (Fx.of b5) (λ_ _ h=>h)
 have f8:Rdr o h6.next (dG O R d (i+1) (iM O R x i q)) (λk=>s k∨k=o) (InJ Z o B id r J s) (InD o B r D s):=by
  refine⟨λk W2 hh h' j L=>?_,λW2 hh h' j L=>?_,λk W2 hh v hk j pv i0 h0 h8=>?_⟩
  ·obtain⟨W3,t,U,q3,q4,q5,q6⟩:=j.ex
   have nx:=j.nx;exact⟨⟨W3,t,U,q3,rd.kJ _ _ _ _ q4 ⟨L.1,λid p c=>L.2 id p (by rcases c with c|c;exact .inl om;exact .inr ((t id).2 (.inl c)))⟩,λid h=>jB (q5 id h) L.1,q6⟩,by rw[L.2 _ nx (.inl om)];exact j.gr,by rw[L.2 _ om (.inl om)];exact j.g4,jB nx L.1⟩
  ·obtain⟨W3,t,U,q4,q5,q6⟩:=j.ex
   have nx:=j.nx;exact⟨⟨W3,t,U,rd.kD _ _ _ q4 ⟨L.1,λid p c=>L.2 id p (by rcases c with c|c;exact .inl om;exact .inr ((t id).2 (.inl c)))⟩,λid h=>jB (q5 id h) L.1,q6⟩,by rw[L.2 _ nx (.inl om)];exact j.gr,jB nx L.1⟩
  ·obtain⟨W3,t,U,q3,q4,q5,q6⟩:=j.ex
   have nx:=j.nx;obtain⟨g0,d5⟩:=e8 k hk;refine tE j.gr (by rw[hr];rfl) iB λh9 g9 n9 o9=>?_
   rw[congrArg dY.assign hr,congrArg dY.vars hr,congrArg dY.pars hr];simp(disch:=omega)only[go_sem,List.zip_cons_cons,List.zip_nil_left];rw[congrArg dY.body hr];have c9:h9.get B=aY [.yl id]:=by rw[o9 _ om];exact j.g4
   have f9:Fx W2 hh h9:=⟨om,λk _ c=>o9 k λe=>c ((t k).2 (.inr e))⟩
   have k9:Kept h.next W3 hh h9:=⟨om,λk p c=>o9 k λe=>by
    subst e;rcases c with c|c
    ·omega
    ·exact U c⟩
   simp(disch:=omega)only[go_sem,H.aF c9];refine (rd.y (Z+k) W3 h9 v d5 (rd.kJ _ _ _ _ q4 k9) (by rw[g0];exact PV.go pv f9 λid _ h=>(t id).2 (.inl h)) (λid h=>by rw[n9];exact q5 id h) om (λid p c=>w1 id om (q6 id om c))).mono ?_;rintro v' z ⟨W4,u1,u2,a5,hv⟩;have i4:=a5.next;have b4: ¬W4 o:=λh=>U (u1 o om h)
   have e2: ¬W4 B:=λh=>q3 (u1 B om h)
   have b0:z.get o=some (.loop (oV r)):=by rw[a5.get o om U];exact g9
   have d4:z.get B=aY [.yl id]:=by rw[a5.get B om q3];exact c9
   have b1:Fx W2 hh z:=f9.trans a5 λid _ h=>(t id).2 (.inl h)
   have low: ∀k,k<o->W4 k->s k:=λk p c=>q6 k p (u1 k om c)
   have kk: ∀r2:dY,Kept h.next W4 z (z.set o (some (.loop r2))):=λr2=>⟨eH _,λk p c=>H.aH _ (λe=>by
    subst e;rcases c with c|c
    ·omega
    ·exact b4 c) _⟩
   rcases hv with ⟨rfl,hv⟩|⟨rfl,hv⟩
   ·simp(disch:=omega)only[go_sem]
    refine oP iB c4 b0 ⟨λk=>W4 k∨k=o,λk p c=>?_,λk c=>?_,b1.trans (Fx.set z ((t o).2 (.inr rfl)) _) (λ_ _ h=>h),.inl ⟨rfl,⟨W4,λk=>Iff.rfl,b4,e2,?_,u2,low⟩,by rw[H.aS],by rw[H.aH _ om];exact d4,by simp only[H.cH];omega⟩⟩
    ·rcases c with c|c
     ·exact (t k).2 (.inl (u1 k om c))
     ·exact (t k).2 (.inr c)
    ·rcases c with c|c
     ·exact u2 k c
     ·simp only[H.cH];omega
    ·exact rd.kJ _ _ _ _ hv (kk r)
   ·simp(disch:=omega)only[go_sem]
    refine Tl b0 ⟨λk=>W4 k∨k=o,λk p c=>?_,λk c=>?_,b1.trans (Fx.set z ((t o).2 (.inr rfl)) _) (λ_ _ h=>h),.inr ⟨rfl,⟨W4,λk=>Iff.rfl,b4,?_,u2,low⟩,by rw[H.aS],by simp only[H.cH];omega⟩⟩
    ·rcases c with c|c
     ·exact (t k).2 (.inl (u1 k om c))
     ·exact (t k).2 (.inr c)
    ·rcases c with c|c
     ·exact u2 k c
     ·simp only[H.cH];omega
    ·exact rd.kD _ _ _ hv (kk _)
 have A: ∀k,k<h5.next->h6.get k=h5.get k:=λk hk=>f6.get k hk
 have d7:GC (λk=>s k∨k=o) h6 (.agg [aC n,K,F]) n O R G:=gC.go c8 λk p c=>by
  rcases c with c|c
  ·exact w1 k om c
  ·omega
 refine (ih (i+1) (iM O R x i q) c1 o (h4.next+1+1) h4.next (h4.next+1) h6 (λk=>s k∨k=o) (InJ Z o B id r J s) (InD o B r D s) om Y (by rw[A _ om];exact g2) (by rw[A _ om];exact f3) (by rw[A _ om];exact f0)
  (((b3.mono f5).iP λk p c=>(by rcases c with c|c;exact c;omega)).mono f6) om om om (λh=>by rcases h with h|h;have:=w2 _ h;omega;omega) (λh=>by rcases h with h|h;have:=w2 _ h;omega;omega) (λh=>by rcases h with h|h;have:=w2 _ h;omega;omega) d7 (λk h=>by rcases h with h|h;have:=w2 _ h;omega;omega)
  ⟨⟨s,λk=>Iff.rfl,g7,e5,rd.kJ _ _ _ _ a7 (Kept.fr b5),λk h=>by have:=w2 _ h;omega,λ_ _ h=>h⟩,e4,by rw[A _ om,f5.get _ om,f4.get _ om];exact e0,om⟩ f8).mono ?_
 rintro _ h7 ⟨W7,a1,a2,F7,j|j⟩
 ·obtain⟨W3,t,U,q3,q4,q5,q6⟩:=j.ex
  have nx:=j.nx;refine⟨r,j.gr,by rw[iB];simp,?_⟩;have en:r.pend.getD .norm= .norm:=by rw[c4];rfl
  rw[en];simp(disch:=omega)only[go_sem];rw[dU m]
  have Q:Fx W c h7:=F3.trans ((Fx.of (W:=λk=>s k∨k=o) b5).trans F7 (λ_ _ h=>h)) λk p c=>by
   rcases c with c|c
   ·exact w1 k p c
   ·omega
  refine⟨u.length-(m+1),om,m+1,W3,aB rfl,om,?_,⟨Q.next,λk p c=>by rw[H.aH _ om];exact Q.get k p c⟩,λk p c=>w1 k p (q6 k om c),q5,rfl⟩;rw[TV a8 0,a0,N]
  refine rd.kJ _ _ _ _ q4 ⟨eH _,λk p c=>H.aH _ (λe=>by
   subst e;rcases c with c|c
   ·omega
   ·exact U c) _⟩
 ·obtain⟨W3,t,U,q4,q5,q6⟩:=j.ex
  have nx:=j.nx;refine⟨_,j.gr,by simp [tM],?_⟩;have en:(tM r .ret).pend.getD .norm= .ret:=rfl;rw[en];simp(disch:=omega)only[go_sem]
  have Q:Fx W h h7:=c8.trans F7 λk p c=>by
   rcases c with c|c
   ·exact w1 k om c
   ·omega
  refine⟨W3,λk p c=>w1 k om (q6 k om c),q5,⟨Q.next,λk p c=>by rw[H.aH _ om];exact Q.get k p c⟩,.inr ?_⟩
  refine rd.kD _ _ _ q4 ⟨eH _,λk p c=>H.aH _ (λe=>by
   subst e;rcases c with c|c
   ·omega
   ·exact U c) _⟩
theorem QO (n:Nat)(a b:V)(O:LN)(R:fM)(G:List Nat->Prop): ∀d,ElC n a b O R G d
 |0=>YX n a b O R G
 |d+1=>ZA n a b O R G d (QO n a b O R G d)
def aiO (W M:Nat->Prop)(b:Nat)(hh:H)(w:V)(x:List Nat):Prop:= ∃id cap,w= .sl id 0 x.length cap/\W id/\ ¬M id/\b<=id/\id<hh.next/\hh.get id=aY (ints (zi x))
structure LsJ (h:H)(b0 A B id2:Nat)(r:dY)(l:LN)(W:Nat->Prop)(hh:H):Prop where
 ex: ∃va ws M,hh.get A=aY [va]/\cQ hh va 1 ws (id2+1)/\aM (aiO W M (id2+1) hh) ws l/\Dg M va/\(∀id,M id->W id)/\(∀id,M id->id<hh.next)/\M A/\ ∀id off n c,va= .sl id off n c->id≠id2/\id≠A
 gr:hh.get id2=some (.loop r)
 wA:W A
 w2:W id2
 g1:hh.get (B+1)=aY [.aE]
 g2:hh.get (B+1+1)=aY [aC 0]
 nx:id2<hh.next
 nA:A<hh.next
 fr:Fr h hh
theorem LsJ.kept {h:H}{g b A B a:Nat}{r:dY}{l:LN}{W:Nat->Prop}{f h':H}(j:LsJ h g A B a r l W f)(k:Kept b W f h')(F:B+1+1<b)(G:h.next<=b)(v:b<=f.next):LsJ h g A B a r l W h':=by
 obtain⟨q,o,M,s,y,el,m,i,z,p,ne⟩:=j.ex
 refine⟨⟨q,o,M,by rw[k.2 A j.nA (.inr j.wA)];exact s,y.mono k.1 λid t n c e _ u=>k.2 id u (.inr (i _ (m _ _ _ _ e))),el.mono λw x ⟨id,cap,e,e1,e2,e3,e4,e5⟩=>⟨id,cap,e,e1,e2,e3,jB e4 k.1,by rw[k.2 id e4 (.inr e1)];exact e5⟩,m,i,λid h=>jB (z id h) k.1,p,ne⟩,
  by rw[k.2 _ j.nx (.inr j.w2)];exact j.gr,j.wA,j.w2,by rw[k.2 _ om (.inl om)];exact j.g1,by rw[k.2 _ om (.inl om)];exact j.g2,jB j.nx k.1,jB j.nA k.1,⟨lX j.fr.next k.1,λid d=>by rw[k.2 id (jB d j.fr.next) (.inl om)];exact j.fr.get id d⟩⟩
theorem fK {W:Nat->Prop}{h:H}{f:V}{n:Nat}{O:LN}{R:fM}{G:List Nat->Prop}(g:GC W h f n O R G):fV O n 0<=5040:=by
 have e: ∀i,i<n->(O.getD i []).length<=n-i:=λi hi=>lQ (λx k=>g.dH.cX k) hi (g.isc.asc i hi) (g.isc.mem i hi)
 have a: ∀d i,i+d=n->fV O d i<= [1,1,2,6,24,120,720,5040].getD d 0:=by
  intro d
  induction d with
  |zero=>intro i _;simp [fV]
  |succ d ih=>
   intro i hi;unfold fV;have c:=ih (i+1) om;have m:=e i om;have l:(O.getD i []).length<=d+1:=om
   have b:=g.n7;have j:=Nat.mul_le_mul l c;refine lX j ?_;have:d<=6:=om
   match d,this with
   |0,_=>decide
   |1,_=>decide
   |2,_=>decide
   |3,_=>decide
   |4,_=>decide
   |5,_=>decide
   |6,_=>decide
 have b:=g.n7;refine lX (a n 0 om) ?_
 match n,b with
 |0,_=>decide
 |1,_=>decide
 |2,_=>decide
 |3,_=>decide
 |4,_=>decide
 |5,_=>decide
 |6,_=>decide
 |7,_=>decide
theorem Uz {W0:Nat->Prop}(vc:V)(n:Nat)(O:LN)(R:fM)(G:List Nat->Prop)(h:H)(gc:GC W0 h vc n O R G):
  Ev T 98 [vc] h (λv h'=> ∃vl,v= .tup [vl,aC 0]/\OA h h' vl (dG O R n 0 (bT n))):=by
 obtain⟨vO,vR,e,sO,sR⟩:=gc.ch
 subst e
 refine cT Ko rfl ?_
 have g4:=gc.isc
 have n0:=gc.n0
 have n7:=gc.n7
 have b3:vO.one=true:=Vu sO
 have b5:vR.one=true:=Rd sR
 have eO:dB vO vO=true:=by obtain⟨_,t,_⟩:=sO;exact t.dB
 have eR:dB vR vR=true:=by obtain⟨_,t,_⟩:=sR;exact t.dB
 obtain⟨L,hL⟩:=exI (dG O R n 0 (bT n))
 obtain⟨d8,ll⟩:=dL gc.dH g4
 have j6:=fK gc
 rw[hL] at d8 ll
 have LP: ∀k,k<L.length->bC n (L.getD k []):=λk hk=>gc.dH.cX ((d8.mem _).1 (aW hk))
 obtain⟨B,hB⟩:=exI h.next
 obtain⟨h1,e1,n1,g1,o1,f1⟩:=cU hB [aC n,vO,vR]
 obtain⟨l,U,n2,g2,o2,f2⟩:=cU n1 [.aE]
 obtain⟨h3,e3,n3,g3,o3,f3⟩:=cU n2 [aC 0]
 have F3:=(f1.trans f2).trans f3
 have bx:=aQ h (v:= aC n) (u:=vO) (w:=vR) rfl b3 b5
 have d1:h3.get B=aY [aC n,vO,vR]:=by rw[o3 _ om,o2 _ om];exact g1
 have e7:=aG d1
 simp(disch:=omega)only[go_sem,Ko,aD,bx,hB,e1,n1,U,n2,e3,e7]
 refine ((gc.mono F3).check).mono ?_
 rintro _ h4 ⟨rfl,f4⟩
 have n4:=f4.next
 obtain⟨A,hA⟩:=exI h4.next
 obtain⟨Z,e5,n5,g5,o5,f5⟩:=cU hA [.aE]
 have b1:Z.get B=aY [aC n,vO,vR]:=by rw[f5.get _ om,f4.get _ om];exact d1
 have g8:Z.get (B+1)=aY [.aE]:=by rw[f5.get _ om,f4.get _ om,o3 _ om];exact g2
 have i8:Z.get (B+1+1)=aY [aC 0]:=by rw[f5.get _ om,f4.get _ om];exact g3
 have F5:=(F3.trans f4).trans f5
 have f9:=aG b1
 have c7:=aG (h:=H.mk Z.tr (Z.next+5)) b1
 simp(disch:=omega)only[go_sem]
 refine bA (λhc=>(hc (by first|rfl|trivial)).elim) (λ_=>?_)
 simp(disch:=omega)only[go_sem,hA,e5,f9,c7,H.aF b1]
 refine (Uv EJ.ok n (H.mk Z.tr (Z.next+5)) om).mono ?_
 rintro v6 h6 nw
 have fb:Fr Z (H.mk Z.tr (Z.next+5)):=(Fr.refl Z).bH om
 have f6:=fb.trans nw.fr
 have n6:=f6.next
 have g0:h6.get B=aY [aC n,vO,vR]:=by rw[f6.get _ om];exact b1
 have c4:=sT nw
 have d7:=c4.own
 simp(disch:=omega)only[go_sem,aG g0,eO,eR]
 refine (WZ (n:Int) vO vR v6 0 b3 b5 d7.sv.cF.1 d7.sv.cF.2.1 h6).mono ?_
 rintro _ h7 ⟨rfl,h0,i2,i9,j5,f7⟩
 simp(disch:=omega)only[go_sem]
 refine⟨rfl,uT λr hr=>?_⟩
 obtain⟨a,c1⟩:=exI h7.next
 rw[c1]
 have iB:r.st= .ready:=by rw[hr]
 have c3:r.pend=none:=by rw[hr]
 obtain⟨h8,b2⟩: ∃h8,h8=h7.new (.loop r):=⟨_,rfl⟩
 have g7:h8.get a=some (.loop r):=by rw[b2,←c1,H.aL]
 have n8:h8.next=a+1:=by rw[b2,H.aU,c1]
 have f8:Fr h7 h8:=by rw[b2];exact (Fr.refl h7).new _
 have P: ∀k,k<h7.next->h8.get k=h7.get k:=λk hk=>f8.get k hk
 rw[←b2]
 have d4:=(f6.trans f7).trans f8
 have F8:=F5.trans d4
 have b7: ∀k,k<Z.next->h8.get k=Z.get k:=λk hk=>d4.get k hk
 have J0:LsJ h B A B a r (L.take 0) (λk=>k=A∨k=a) h8:=
  ⟨⟨.aE, [],λk=>k=A,by rw[b7 _ om];exact g5,cQ.aE _ _ _,trivial,λ_ _ _ _ e=>(by cases e),λk h=> .inl h,λk h=>by have:k=A:=h;omega,rfl,λ_ _ _ _ e=>(by cases e)⟩,g7,.inl rfl,.inr rfl,by rw[b7 _ om];exact g8,by rw[b7 _ om];exact i8,om,om,F8⟩
 have i6: ∀k,(k=A∨k=a)->k<h8.next:=λk h=>by rcases h with h|h<;>omega
 have i3:GC (λk=>k=A∨k=a) h8 (.agg [aC n,vO,vR]) n O R G:=gc.go (Fx.of F8) λk h1 l=>by rcases l with l|l<;>omega
 have p6:PV (λk=>k=A∨k=a) h8 v6 (bT n):=by
  obtain⟨i5,c5,ev,a1,a2,a3,a4⟩:=c4.ex;simp only at a1;rw[ev];exact⟨SV.all (by rw[aP,uH]) (by have:=(f7.trans f8).next;omega) (by rw[P _ (by have:=f7.next;omega),f7.get _ a2];exact a3) _,λh=>by have:i5=A∨i5=a:=h;have:=f7.next;omega⟩
 refine (QO n vO vR O R G n 0 (bT n) v6 a (h6.next+1+1) h6.next (h6.next+1) h8 (λk=>k=A∨k=a) (λk W F=>LsJ h B A B a r (L.take k) W F) (λ_ _=>False) om (bC.one n)
  (by rw[P _ om];exact i9) (by rw[P _ om];exact h0) (by rw[P _ om];exact i2) p6 om om om (λh=>by rcases h with h|h<;>omega) (λh=>by rcases h with h|h<;>omega) (λh=>by rcases h with h|h<;>omega) i3 i6 J0 ?_).mono ?_
 ·rw[hL]
  refine⟨λk W F h' j kp=>j.kept kp om (by have:=F8.next;omega) (by have:=j.nx;omega),λ_ _ _ h=>h.elim,λk W F v hk j pv f0 j2 j3=>?_⟩
  obtain⟨va,ws,M,gA,ow,el,bl,mw,mn,mA,ne⟩:=j.ex
  have nx:=j.nx
  have nA:=j.nA
  have d3:=aM.length el
  rw[Cq,Nat.min_eq_left om] at d3
  refine tE j.gr (by rw[hr];rfl) iB λs g9 n9 o9=>?_
  rw[congrArg dY.assign hr,congrArg dY.vars hr,congrArg dY.pars hr]
  simp(disch:=omega)only[go_sem,List.zip_cons_cons,List.zip_nil_left]
  rw[congrArg dY.body hr]
  have b6:s.get A=aY [va]:=by rw[o9 _ om];exact gA
  have i7:Fx W F s:=⟨om,λk _ l=>o9 k λe=>l (e▸j.w2)⟩
  have c8:=pv.fx i7
  obtain⟨x,hx⟩:=exI (L.getD k [])
  rw[hx] at c8
  have X:bC n x:=by rw[←hx];exact LP k hk
  have b8:cQ s va 1 ws (a+1):=ow.mono om λid g m c e _ _=>o9 id (ne _ _ _ _ e).1
  have e9:=cQ.lens b8 d3
  have i1:=b8.sv.dB
  have d5:decide ((k:Int)=5040)=false:=bE om
  have c6:Fr s (H.mk s.tr (s.next+6)):=(Fr.refl s).bH om
  simp(disch:=omega)only[go_sem,H.aF b6,e9,d5]
  refine (Pf v (zi x) (H.mk s.tr (s.next+6)) (by rw[aN,X.len];omega) (by rw[aN,X.len];omega) (c8.mono c6).si).mono ?_
  rintro c0 d Q
  have a8:=c6.trans Q.fr
  obtain⟨i5,c5,ev,a1,a2,a3,a4⟩:=Q.ex
  simp only at a1
  have a6:d.get A=aY [va]:=by rw[a8.get _ om];exact b6
  have b4:=Q.own
  simp(disch:=omega)only[go_sem,H.aF a6,i1,bZ _ (z:= .aE) b4.sv.cF.1 b4.sv.cF.2.1]
  obtain⟨f,i⟩: ∃f:H,f=H.mk ((H.mk d.tr (s.next+3)).new (Ob.cells false [c0])).tr d.next:=⟨_,rfl⟩
  rw[←i]
  have j1:f.get (s.next+3)=aY [c0]:=by rw[i];exact H.aL (H.mk d.tr (s.next+3)) _
  have e6:f.next=d.next:=by rw[i]
  have Y: ∀k,k≠s.next+3->f.get k=d.get k:=λk hk=>by rw[i];exact H.bD (H.mk d.tr (s.next+3)) (by simpa using hk) _
  have K:Fr s f:=⟨by have:=a8.next;omega,λk hk=>by rw[Y k om];exact a8.get k hk⟩
  obtain⟨a9,e8,p⟩:=(b8.fr K).push (bytes:=24) (SV.one (by have:=a8.next;have:=Q.fr.next;simp only at this;omega) j1 (.kn 1)) (n:=k) (m:=1) om rfl om om om
  have j4:=p.next
  have g6:cZ va A:=λid g m c e U=>(ne _ _ _ _ e).2 U.symm
  have i0:cZ va a:=λid g m c e U=>(ne _ _ _ _ e).1 U.symm
  have i4:=a8.next
  have d6:a9.get A=aY [va]:=by rw[p.old A om g6,K.get A om];exact b6
  have d2:a9.get a=some (.loop (oV r)):=by rw[p.old a om i0,K.get a om];exact g9
  have j0: ∀(F:H) (y:V),dR (aY [va]) F A 0 [y]=some (F.set A (aY [y])):=λF y=>bP (by simp) F _ _
  simp(disch:=omega)only[go_sem,e8,d6,j0]
  obtain⟨a5,J⟩: ∃a5,a5=(a9.set A (aY [.sl f.next 0 (k+1) (.un 1)])).set a (some (.loop r)):=⟨_,rfl⟩
  have c9:A≠a:=om
  have N: ∀q,q≠A->q≠a->a5.get q=a9.get q:=λq h1 l=>by rw[J,H.aH _ l,H.aH _ h1]
  have j7:a5.next=a9.next:=by rw[J];rfl
  refine oP iB c3 (by rw[H.aH _ (Ne.symm c9)];exact d2) ?_
  rw[←J]
  have e4: ∀q,q<F.next-> ¬W q->a5.get q=F.get q:=λq h1 l=>by
   rw[N q (λe=>l (e▸j.wA)) (λe=>l (e▸j.w2)),p.old q om (λid g m c e U=>l (U▸mw _ (bl _ _ _ _ e))),K.get q om,o9 q (λe=>l (e▸j.w2))]
  refine⟨λq=>W q∨q=f.next∨q=i5,λq h1 l=>by rcases l with l|l|l;exact l;omega;omega,λq h=>by rcases h with h|h|h;have:=f0 q h;omega;omega;omega,⟨om,e4⟩,.inl ⟨rfl,?_⟩⟩
  refine⟨⟨.sl f.next 0 (k+1) (.un 1),ws++ [c0],λq=>M q∨q=f.next,by rw[J,H.aH _ c9,H.aS],?_,?_,λid g m c e=>by cases e;exact .inr rfl,λq h=>by rcases h with h|h;exact .inl (mw q h);exact .inr (.inl h),λq h=>by rcases h with h|h;have:=mn q h;omega;omega,.inl mA,λid g m c e=>by cases e;exact⟨om,om⟩⟩,
   by rw[J,H.aS],.inl j.wA,.inl j.w2,?_,?_,om,om,?_⟩
  ·exact (p.own (b:=a+1) om rfl om).mono om λid g m c e h1 l=>by cases e;exact N _ om om
  ·rw[dE [] hk,hx]
   have b9: ∀(q:Nat) (o:Option Ob),q<F.next-> ¬M q->q≠a->a5.get q=F.get q:=λq _ h1 l h3=>by
    rw[N q (λe=>l (e▸mA)) h3,p.old q om (λb0 g m c e U=>l (U▸bl _ _ _ _ e)),K.get q om,o9 q h3]
   have c2: ∀q z,F.get q=aY z->q≠a:=λq z h e=>by rw[e,j.gr] at h;cases h
   refine (el.mono λw z ⟨id,d0,e,q1,q2,q3,q4,q5⟩=>⟨id,d0,e,.inl q1,(λh=>by rcases h with h|h;exact q2 h;omega),q3,om,(by rw[b9 id none q4 q2 (c2 _ _ q5)];exact q5)⟩).append ⟨⟨i5,c5,by rw[ev,aN],.inr (.inr rfl),λh=>by rcases h with h|h;have:=mn i5 h;omega;omega,om,om,?_⟩,trivial⟩
   rw[N i5 om om,p.old i5 om (λb0 g m c e U=>by have:=mn _ (bl _ _ _ _ e);omega),Y i5 om]
   exact a3
  ·rw[N _ om om,p.old _ om (λb0 g m c e U=>by have:=(ow.in _ _ _ _ e).2.1;omega),K.get _ om,o9 _ om];exact j.g1
  ·rw[N _ om om,p.old _ om (λb0 g m c e U=>by have:=(ow.in _ _ _ _ e).2.1;omega),K.get _ om,o9 _ om];exact j.g2
  ·refine⟨by have:=j.fr.next;omega,λq hq=>?_⟩
   have:=j.fr.next
   rw[N q om om,p.old q om (λb0 g m c e U=>by have:=(ow.in _ _ _ _ e).2.1;omega),K.get q om,o9 q om]
   exact j.fr.get q hq
 ·rintro _ s ⟨W2,a1,a2,F9,j|hf⟩
  case inr=>exact hf.elim
  rw[hL,List.take_length] at j
  obtain⟨va,ws,M,gA,ow,el,bl,mw,mn,mA,ne⟩:=j.ex
  have nx:=j.nx
  have nA:=j.nA
  have pt: ∀(F:H) (id:Nat) (u w:V),dR (aY [u]) F id 0 [w]=some (F.set id (aY [w])):=λF id u w=>bP (by simp) F _ _
  refine⟨r,j.gr,by rw[iB];simp,?_⟩
  have en:r.pend.getD .norm= .norm:=by rw[c3];rfl
  rw[en]
  obtain⟨d,a7⟩: ∃d,d=s.set a (some (.loop {r with st:= .out})):=⟨_,rfl⟩
  have a0: ∀q,q≠a->d.get q=s.get q:=λq hq=>by rw[a7,H.aH _ hq]
  have i4:d.next=s.next:=by rw[a7];rfl
  have a6:d.get A=aY [va]:=by rw[a0 _ om];exact gA
  have d9:d.get (B+1)=aY [.aE]:=by rw[a0 _ om];exact j.g1
  have e0:d.get (B+1+1)=aY [aC 0]:=by rw[a0 _ om];exact j.g2
  rw[←a7]
  simp(disch:=omega)only[go_sem,H.aF a6,d9,e0,pt,kL ow.sv.cF.1 ow.sv.cF.2.1]
  obtain⟨f,i⟩: ∃f,f=(d.set (B+1) (aY [va])).set (B+1+1) (aY [aC 0]):=⟨_,rfl⟩
  rw[←i]
  have Y: ∀q,q≠B+1->q≠B+1+1->f.get q=d.get q:=λq h1 l=>by rw[i,H.aH _ l,H.aH _ h1]
  have e6:f.next=d.next:=by rw[i];rfl
  have hn:=j.fr.next
  refine⟨va,rfl,⟨ws,λq=>M q∨q<h.next,?_,?_,λid g n c e=> .inl (bl _ _ _ _ e),λq h=> .inr h⟩,⟨om,λq hq=>?_⟩⟩
  ·refine (ow.mono om λid g m c e h1 _=>?_).le om
   rw[Y id om om,a0 id om]
  ·rw[hL]
   refine aM.mono (R:=aiO W2 M (a+1) s) (λw z hw=>?_) el
   obtain⟨id,d0,e,q1,q2,q3,q4,q5⟩:=hw
   rw[e]
   exact⟨SV.all (by rw[aP,aN,uH]) om (by rw[Y id om om,a0 id om];exact q5) _,λh=>by rcases h with h|h;exact q2 h;omega⟩
  ·rw[Y q om om,a0 q om]
   exact j.fr.get q hq
end Go.Proofs.YtcdbmkidaecdiaaGreat
namespace Go.Pm
set_option maxRecDepth 100000
section
variable {i:Nat}
def it (a:List Nat):Nat->Nat->Nat
 |0,i=>i
 |t+1,i=>a.getD (it a t i) 0
section
variable {n:Nat} {a:List Nat}
theorem Gv (A:bC n a){i:Nat}(hi:i<n): ∀t,it a t i<n
 |0=>hi
 |t+1=>A.gW (Gv A hi t)
theorem vQ (a:List Nat)(s i:Nat): ∀t,it a (s+t) i=it a t (it a s i)
 |0=>rfl
 |t+1=>by
  show a.getD (it a (s+t) i) 0=a.getD (it a t (it a s i)) 0;rw[vQ a s i t]
theorem IG (A:bC n a){i:Nat}(hi:i<n): ∀t,it a t i=(pw n a t).getD i 0
 |0=>(fF hi).symm
 |t+1=>by
  show a.getD (it a t i) 0=(aX (pw n a t) a).getD i 0;rw[cM (by rw[(rQ A t).len];exact hi),IG A hi t]
theorem FR (A:bC n a){i j:Nat}(hi:i<n)(b:j<n): ∀t,it a t i=it a t j->i=j
 |0,h=>h
 |t+1,h=>FR A hi b t (A.inj (Gv A hi t) (Gv A b t) h)
noncomputable def xJ (a:List Nat)(i:Nat):Nat:=by
 classical exact if h: ∃t,0<t/\it a t i=i/\ ∀s,0<s->s<t->it a s i≠i then h.choose else 1
theorem aeV (A:bC n a)(hi:i<n): ∃t,0<t/\it a t i=i:=by
 obtain⟨k,c,_,b⟩:=Wm A;exact⟨k,c,by rw[IG A hi,b,fF hi]⟩
theorem oG (A:bC n a)(hi:i<n):0<xJ a i/\it a (xJ a i) i=i/\ ∀t,0<t->t<xJ a i->it a t i≠i:=by
 classical
 have h: ∃t,0<t/\it a t i=i/\ ∀s,0<s->s<t->it a s i≠i:=by
  obtain⟨t,j,g⟩:=aeV A hi
  induction t using Nat.strongRecOn with
  |_ t ih=>
   by_cases f: ∃s,0<s/\s<t/\it a s i=i
   ·obtain⟨s,d,c,b⟩:=f
    exact ih s c d b
   ·exact⟨t,j,g,λs d c b=>f ⟨s,d,c,b⟩⟩
 have e:xJ a i=h.choose:=by unfold xJ;rw[dif_pos h]
 rw[e];exact h.choose_spec
theorem Vo (A:bC n a){i:Nat}(hi:i<n): ∀k,it a (xJ a i*k) i=i
 |0=>rfl
 |k+1=>by rw[Nat.mul_succ,vQ,Vo A hi k,(oG A hi).2.1]
theorem DZ (A:bC n a)(hi:i<n)(t:Nat):it a t i=it a (t%xJ a i) i:=by
 have:=vQ a (xJ a i*(t/xJ a i)) i (t%xJ a i);rw[Nat.div_add_mod,Vo A hi] at this;exact this
theorem Ed (A:bC n a)(hi:i<n)(t:Nat):it a t i=i↔xJ a i∣t:=by
 obtain⟨c,d,b⟩:=oG A hi;constructor
 ·intro h
  rw[DZ A hi] at h;refine Nat.dvd_of_mod_eq_zero (Classical.byContradiction λe=>b _ oq (Nat.mod_lt _ c) h)
 ·rintro⟨k,rfl⟩;exact Vo A hi k
theorem aeH (A:bC n a)(hi:i<n){s t:Nat}(g:s<xJ a i)(d:t<xJ a i)(h:it a s i=it a t i):s=t:=by
 have b: ∀s t,s<=t->t<xJ a i->it a s i=it a t i->s=t:=λs t iB d h=>by
  have e:it a t i=it a s (it a (t-s) i):=by rw[←vQ];congr 1;omega
  rw[e] at h;have:=FR A hi (Gv A hi (t-s)) s h;have f:=(Ed A hi (t-s)).1 this.symm;have:=Nat.eq_zero_of_dvd_of_lt f oq;omega
 rcases Nat.le_total s t with c|c
 ·exact b s t c d h
 ·exact (b t s c g h.symm).symm
noncomputable def GW (a:List Nat)(i:Nat):List Nat:=(List.range (xJ a i)).map λt=>it a t i
theorem Bv (a:List Nat)(i:Nat):(GW a i).length=xJ a i:=by simp [GW]
theorem adY (A:bC n a)(hi:i<n){j:Nat}:j∈GW a i↔ ∃t,it a t i=j:=by
 unfold GW;rw[List.mem_map];constructor
 ·rintro⟨t,_,h⟩;exact⟨t,h⟩
 ·rintro⟨t,h⟩;exact⟨t%xJ a i,List.mem_range.2 (Nat.mod_lt _ (oG A hi).1),by rw[←DZ A hi];exact h⟩
theorem KG (A:bC n a)(hi:i<n):(GW a i).Nodup:=by
 unfold GW;rw[List.nodup_iff_pairwise_ne,List.pairwise_map,List.pairwise_iff_getElem];intro s t b c iB h;simp only[List.length_range] at b c;simp only[List.getElem_range] at h;have:=aeH A hi b c h;omega
theorem EG (A:bC n a)(hi:i<n):xJ a i<=n:=by
 rw[←Bv a i]
 have:=List.Nodup.length_le_of_subset (KG A hi) (l₂:=List.range n) λj b=>by
  obtain⟨t,rfl⟩:=(adY A hi).1 b;exact List.mem_range.2 (Gv A hi t)
 simpa using this
theorem Me (A:bC n a)(hi:i<n)(t:Nat): ∃s,it a s (it a t i)=i:=by
 obtain⟨b,_,_⟩:=oG A hi;refine⟨xJ a i*(t/xJ a i+1)-t,?_⟩;rw[←vQ,show t+(xJ a i*(t/xJ a i+1)-t)=xJ a i*(t/xJ a i+1) from ?_,Vo A hi];have:=Nat.div_add_mod t (xJ a i);have:=Nat.mod_lt t b;rw[Nat.mul_succ];omega
theorem TT (A:bC n a)(hi:i<n)(t:Nat):xJ a (it a t i)=xJ a i:=by
 have c:=Gv A hi t
 have b: ∀k,it a k (it a t i)=it a t i↔it a k i=i:=λk=>by
  rw[←vQ,Nat.add_comm,vQ];exact⟨λh=>FR A (Gv A hi k) hi t h,λh=>by rw[h]⟩
 refine Nat.dvd_antisymm ?_ ?_
 ·rw[←Ed A c,b,Ed A hi];exact Nat.dvd_refl _
 ·rw[←Ed A hi,←b,Ed A c];exact Nat.dvd_refl _
def oL (a:List Nat)(n i:Nat):Prop:= ∀t,i<=it a t i
open Classical in
noncomputable def Rb (a:List Nat)(n:Nat):List Nat:=(List.range n).filter λi=>decide (oL a n i)
noncomputable def vI (a:List Nat)(n:Nat):zJ:=(Rb a n).map (GW a)
theorem afV (A:bC n a)(hi:i<n): ∃j,j<n/\oL a n j/\ ∃t,it a t j=i:=by
 induction i using Nat.strongRecOn with
 |_ i ih=>
  by_cases h:oL a n i
  ·exact⟨i,hi,h,0,rfl⟩
  ·have: ∃t,it a t i<i:=Classical.byContradiction λf=>h λt=>Nat.le_of_not_lt λb=>f ⟨t,b⟩
   obtain⟨t,g⟩:=this;obtain⟨j,c,b,s,e⟩:=ih _ g (Gv A hi t);obtain⟨u,d⟩:=Me A hi t;exact⟨j,c,b,s+u,by rw[vQ,e,d]⟩
theorem Jf (A:bC n a)(hi:i<n):oL a n i↔ ∀j,j<i-> ∀t,it a t j≠i:=by
 constructor
 ·intro h j d t e
  obtain⟨s,b⟩:=Me A (show j<n by omega) t;rw[e] at b;have:=h s;omega
 ·intro h t
  refine Nat.le_of_not_lt λc=>?_
  obtain⟨s,b⟩:=Me A hi t;exact h _ c s b
def Eg (l:List Nat):Nat:=l.foldl (λm c=>m/Nat.gcd m c*c) 1
theorem OX (m c:Nat):m/Nat.gcd m c*c=Nat.lcm m c:=by
 unfold Nat.lcm;rw[Nat.mul_comm,←Nat.mul_div_assoc _ (Nat.gcd_dvd_left m c),Nat.mul_comm]
theorem BI: ∀(l:List Nat) (m k:Nat),l.foldl (λm c=>m/Nat.gcd m c*c) m∣k↔m∣k/\ ∀c∈l,c∣k
 | [],m,k=>by simp
 |c::l,m,k=>by
  rw[List.foldl_cons,BI l,OX,Nat.lcm_dvd_iff];simp only[List.mem_cons,forall_eq_or_imp,and_assoc]
theorem Hq (l:List Nat)(k:Nat):Eg l∣k↔ ∀c∈l,c∣k:=by
 unfold Eg;rw[BI];simp
noncomputable def pI (a:List Nat)(n:Nat):Nat:=Eg ((vI a n).map List.length)
theorem Hz (A:bC n a)(k:Nat):pI a n∣k↔pw n a k=bT n:=by
 unfold pI;rw[Hq];constructor
 ·intro h
  refine yM (by rw[(rQ A k).len,iU]) λi hi=>?_
  rw[(rQ A k).len] at hi;rw[←IG A hi,fF hi,Ed A hi];obtain⟨j,d,f,t,m⟩:=afV A hi;have:=h (xJ a j) (List.mem_map.2 ⟨GW a j,List.mem_map.2 ⟨j,by unfold Rb;rw[List.mem_filter];exact⟨List.mem_range.2 d,by simpa using f⟩,rfl⟩,Bv a j⟩);rw[←TT A d t,m] at this;exact this
 ·rintro h c e
  obtain⟨l,g,rfl⟩:=List.mem_map.1 e;obtain⟨j,d,rfl⟩:=List.mem_map.1 g
  have b:j<n:=by
   unfold Rb at d;exact List.mem_range.1 (List.mem_filter.1 d).1
  rw[Bv,←Ed A b,IG A b,h,fF b]
theorem AN (A:bC n a):0<pI a n:=by
 obtain⟨k,c,_,b⟩:=Wm A;have:=(Hz A k).2 b;refine Nat.pos_of_ne_zero λe=>?_
 rw[e] at this;have:=Nat.eq_zero_of_zero_dvd this;omega
theorem HS (A:bC n a):pI a n<=n^n:=by
 obtain⟨k,d,c,b⟩:=Wm A;exact Nat.le_trans (Nat.le_of_dvd d ((Hz A k).2 b)) c
end
end
end Go.Pm
namespace Go.Proofs.YtcdbmkidaecdiaaGreat
open Go Go.Ay Go.Pm
set_option maxRecDepth 100000
section
variable {a:List Nat} {i n:Nat}
theorem agX {g:Nat}(j:T g=some Dv.fn)(a b:Nat)(h:H)(r:a<1000000)(p:b<1000000):Ev T g [aC a,aC b] h (λv h'=>v= aC (Nat.gcd a b:Nat)/\Fr h h'):=by
 refine Kg j rfl ?_;simp(disch:=omega)only[go_sem,Dv,aD];refine aI (λc d m=> ∃(x y:Nat),(∃g:Nat->V,d= [aC x,aC y,g 2,g 3])/\x<1000000/\y<1000000/\Nat.gcd x y=Nat.gcd a b/\Fr h m/\c=y) b
  ⟨a,b,aB rfl,r,p,rfl,Fr.refl h,rfl⟩ ?_
 rintro c d m ⟨x,y,⟨g,rfl⟩,u,s,l,F,q⟩;subst q
 by_cases e:(0:Int)<(c:Int)
 ·have k:=bN e
  have t:(c:Int)≠0:=om
  have o:(x:Int).tmod (c:Int)=((x%c:Nat):Int):=PQ x c;have f:=Nat.mod_lt x (show c>0 by omega);simp(disch:=omega)only[go_sem,k,t,o];exact⟨x%c,f,c,x%c,aB rfl,s,om,by rw[Nat.gcd_comm,←Nat.gcd_rec,Nat.gcd_comm];exact l,F.bH om,rfl⟩
 ·have k:=bE e
  obtain rfl:c=0:=om
  simp(disch:=omega)only[go_sem,k];rw[←l,Nat.gcd_zero_right];exact⟨rfl,F⟩
open Classical in
noncomputable def Qm (a:List Nat)(i s j:Nat):Bool:=decide ((∃i0,i0<i/\ ∃t,it a t i0=j)∨ ∃t,t<s/\it a t i=j)
theorem nP {s j:Nat}:Qm a i s j=true↔(∃i0,i0<i/\ ∃t,it a t i0=j)∨ ∃t,t<s/\it a t i=j:=by classical unfold Qm;simp only[decide_eq_true_eq]
theorem SK (a:List Nat)(j:Nat):Qm a 0 0 j=false:=by
 rw[←Bool.not_eq_true,nP];rintro (⟨b,h,_⟩|⟨t,h,_⟩)<;>omega
theorem XF (a:List Nat)(i s j:Nat):Qm a i (s+1) j=if j=it a s i then true else Qm a i s j:=by
 by_cases e:j=it a s i
 ·rw[bJ e,nP];exact .inr ⟨s,om,e.symm⟩
 ·rw[bL e,Qk,nP,nP]
  constructor
  ·rintro (h|⟨t,c,b⟩)
   ·exact .inl h
   ·exact .inr ⟨t,by have:t≠s:=λd=>e (by rw[←d];exact b.symm);omega,b⟩
  ·rintro (h|⟨t,c,b⟩)
   ·exact .inl h
   ·exact .inr ⟨t,om,b⟩
theorem UL (A:bC n a)(hi:i<n)(j:Nat):Qm a i (xJ a i) j=Qm a (i+1) 0 j:=by
 rw[Qk,nP,nP];constructor
 ·rintro (⟨c,d,b⟩|⟨t,d,b⟩)
  ·exact .inl ⟨c,om,b⟩
  ·exact .inl ⟨i,om,t,b⟩
 ·rintro (⟨c,d,t,b⟩|⟨t,d,_⟩)
  ·by_cases e:c=i
   ·subst e;exact .inr ⟨t%xJ a c,Nat.mod_lt _ (oG A hi).1,by rw[←DZ A hi];exact b⟩
   ·exact .inl ⟨c,om,t,b⟩
  ·omega
theorem SJ (A:bC n a)(hi:i<n)(h: ¬oL a n i)(j:Nat):Qm a i 0 j=Qm a (i+1) 0 j:=by
 have b: ∃c,c<i/\ ∃t,it a t c=i:=Kh λl=>h ((Jf A hi).2 λc k t e=>l ⟨c,k,t,e⟩)
 obtain⟨c,m,g,o⟩:=b;rw[Qk,nP,nP];constructor
 ·rintro (⟨d,f,b⟩|⟨t,f,_⟩)
  ·exact .inl ⟨d,om,b⟩
  ·omega
 ·rintro (⟨d,f,t,b⟩|⟨t,f,_⟩)
  ·by_cases e:d=i
   ·subst e;exact .inl ⟨c,m,g+t,by rw[vQ,o];exact b⟩
   ·exact .inl ⟨d,om,t,b⟩
  ·omega
theorem GM (A:bC n a){s:Nat}(hi:i<n)(g:oL a n i)(l:s<=xJ a i):(Qm a i s (it a s i)=false↔s<xJ a i):=by
 obtain⟨f,d,m⟩:=oG A hi;constructor
 ·intro h
  refine Kh λo=>?_
  have e:s=xJ a i:=om
  subst e;rw[d] at h;have:Qm a i (xJ a i) i=true:=nP.2 (.inr ⟨0,f,rfl⟩);rw[h] at this;cases this
 ·intro h
  rw[←Bool.not_eq_true,nP];rintro (⟨k,c,t,b⟩|⟨t,c,b⟩)
  ·obtain⟨u,j⟩:=Me A hi s
   have:=(Jf A hi).1 g k c (t+u);rw[vQ,b,j] at this;exact this rfl
  ·have:=aeH A hi (show t<xJ a i by omega) h b
   omega
theorem ZO (A:bC n a)(hi:i<n)(c: ¬oL a n i):Qm a i 0 i=true:=by
 have d: ∃b,b<i/\ ∃t,it a t b=i:=Kh λf=>c ((Jf A hi).2 λb g t e=>f ⟨b,g,t,e⟩)
 exact nP.2 (.inl d)
theorem Tg (hi:i<=n):((Rb a n).filter λj=>decide (j<i))=(open Classical in (List.range i).filter λj=>decide (oL a n j)):=by
 classical
 unfold Rb;have:List.range n=List.range i++(List.range (n-i)).map (i+ ·):=by rw[←List.range_add];congr 1;omega
 rw[this,List.filter_append,List.filter_append]
 have c:(((List.range (n-i)).map (i+ ·)).filter λj=>decide (oL a n j)).filter (λj=>decide (j<i))= []:=by
  rw[List.filter_eq_nil_iff];intro x b;obtain⟨y,_,rfl⟩:=vF.1 (GI.1 b).1;simp
 rw[c,tD];rw[List.filter_eq_self];intro x b;simpa using Lk.1 (GI.1 b).1
noncomputable def HT (a:List Nat)(n i:Nat):LN:=((Rb a n).filter λj=>decide (j<i)).map (GW a)
theorem HV (a:List Nat)(n:Nat):HT a n n=vI a n:=by
 classical
 unfold HT vI;congr 1;rw[List.filter_eq_self];intro x b;unfold Rb at b;simpa using Lk.1 (GI.1 b).1
theorem Ib (hi:i<n):(oL a n i->HT a n (i+1)=HT a n i++ [GW a i])/\(¬oL a n i->HT a n (i+1)=HT a n i):=by
 classical
 unfold HT;rw[Tg (show i+1<=n by omega),Tg (show i<=n by omega),List.range_succ,List.filter_append];constructor
 ·intro h
  rw[show ([i]:List Nat).filter (λj=>decide (oL a n j))= [i] by simp [h],List.map_append];rfl
 ·intro h
  rw[show ([i]:List Nat).filter (λj=>decide (oL a n j))= [] by simp [h],tD]
theorem ZI: ∀i,i<=n->HT a n i<+:vI a n:=by
 intro i hi
 obtain⟨d,e⟩: ∃d,i+d=n:=⟨n-i,om⟩
 induction d generalizing i with
 |zero=>
      have:i=n:=om
      subst this;rw[HV];exact List.prefix_rfl
 |succ d ih=>
  have b:=ih (i+1) om om
  by_cases c:oL a n i
  ·rw[(Ib om).1 c] at b
   exact (List.prefix_append _ _).trans b
  ·rw[(Ib om).2 c] at b
   exact b
theorem RD (a:List Nat)(n:Nat):HT a n 0= []:=by
 unfold HT;rw[show (Rb a n).filter (λj=>decide (j<0))= [] by rw[List.filter_eq_nil_iff];intro x _;simp];rfl
theorem PN {α:Type}{l m:List α}(h:l<+:m)(hi:i<l.length)(d:α):m.getD i d=l.getD i d:=by
 obtain⟨t,rfl⟩:=h;rw[List.getD,Ej hi];rfl
theorem CG (id b:Nat)(va:V)(n:Nat)(a:List Nat)(h:H)(a9:1<=n)(hn:n<=64)(A:bC n a)(F:Nat)(b3:F<=h.next)(b1:b<F)(hb:h.get b=some (.cells false [va]))(a8:b<h.next)(hv:SI h va (zi a))(J:Nat->H->Prop)(h0:J 0 h)
  (kJ: ∀k hh h',J k hh->hh.next<=h'.next->(∀q,q<F->h'.get q=hh.get q)->J k h') (jb: ∀k hh,J k hh->hh.get b=some (.cells false [va])/\SI hh va (zi a))
  (hy: ∀k hh v,k<(vI a n).length->J k hh->SI hh v (zi ((vI a n).getD k []))->F<=hh.next->Ey T id [v] hh (λv h'=>v= .bool true/\J (k+1) h'/\Fx (λq=>q<F) hh h')):
  Ev T 246 [.yl id,.ptr b 0] h (λ_ h'=>J (vI a n).length h'):=by
 refine cT zC rfl ?_
 obtain⟨S,hS⟩:=exI h.next
 obtain⟨h1,e1,n1,g1,o1,f1⟩:=cU hS (rc 64 λ_=>V.bool false)
 have a5:=H.aF (h:=h1) (id:=b) (by rw[o1 _ om];exact hb)
 have K:=hv.lens
 rw[aN,A.len] at K
 simp(disch:=omega)only[go_sem,zC,aD,JE,hS,e1,a5,K]
 have a2:h1.get S=some (.cells false (rc 64 λj=> .bool (Qm a 0 0 j))):=by
  rw[g1,show (λj=>V.bool (Qm a 0 0 j))=λ_=>V.bool false from funext λj=>by rw[SK]]
 refine aI (λY o hh=> ∃(i:Nat),(∃g:Nat->V,o= [.yl id,.ptr b 0,.ptr S 0,g 3,g 4,g 5,aC n,aC i,g 8,g 9,g 10])/\i<=n/\J (HT a n i).length hh/\hh.get S=some (.cells false (rc 64 λj=> .bool (Qm a i 0 j)))/\S<hh.next/\Y=n-i) n
  ⟨0,aB rfl,fR _,by rw[RD];exact kJ _ _ _ h0 f1.next (λq hq=>o1 q om),a2,om,rfl⟩ ?_
 rintro Y o h2 ⟨i,⟨g,rfl⟩,hi,r,w,x,rfl⟩
 by_cases O:(i:Int)<(n:Int)
 case neg=>
  have d1:=bE O;obtain rfl:i=n:=om
  simp(disch:=omega)only[go_sem,d1];rw[HV] at r;exact r
 have d1:=bN O
 have l:i<n:=om
 simp(disch:=omega)only[go_sem,d1]
 obtain⟨p0,p1,p2⟩:=oG A l
 have b2:=EG A l
 refine bQ (λvs hh=> ∃(p:V) (c:List Nat),(∃g:Nat->V,vs= [.yl id,.ptr b 0,.ptr S 0,g 3,p,g 5,aC n,aC i,g 8,g 9,g 10])/\cQ hh p 1 (ints (zi c)) (S+1)/\(oL a n i/\c=GW a i∨ ¬oL a n i/\c= [])/\
   J (HT a n i).length hh/\hh.get S=some (.cells false (rc 64 λj=> .bool (Qm a (i+1) 0 j)))/\S<hh.next) ?_ ?_
 ·refine aI (λY vs hh=> ∃(s:Nat) (p:V),(∃g:Nat->V,vs= [.yl id,.ptr b 0,.ptr S 0,g 3,p,aC (it a s i:Nat),aC n,aC i,g 8,g 9,g 10])/\s<=xJ a i/\(0<s->oL a n i)/\cQ hh p 1 (ints (zi ((List.range s).map λt=>it a t i))) (S+1)/\
    J (HT a n i).length hh/\hh.get S=some (.cells false (rc 64 λj=> .bool (Qm a i s j)))/\S<hh.next/\Y=xJ a i-s) (xJ a i)
   ⟨0,.aE,aB rfl,fR _,λh=>om,cQ.aE _ _ _,r,w,x,rfl⟩ ?_
  clear r w x
  rintro Y o G ⟨s,p,⟨g,rfl⟩,hs,hf,y,r,w,x,rfl⟩
  have hp:=Gv A l s
  have cS:=qF w (i:=it a s i) om
  cases hsn:Qm a i s (it a s i) with
  |true=>
   rw[hsn] at cS;simp(disch:=omega)only[go_sem,cS]
   by_cases f:oL a n i
   ·have e:s=xJ a i:=Kh λU=>by
     have:=(GM A l f hs).2 om;rw[hsn] at this;cases this
    refine⟨p,GW a i,aB rfl,by rw[e] at y;exact y,.inl ⟨f,rfl⟩,r,?_,x⟩;rw[w,e];congr 2;exact dA λj _=>by rw[UL A l]
   ·have e:s=0:=Kh λU=>f (hf om)
    subst e;refine⟨p, [],aB rfl,y,.inr ⟨f,rfl⟩,r,?_,x⟩;rw[w];congr 2;exact dA λj _=>by rw[SJ A l f]
  |false=>
   rw[hsn] at cS
   have f:oL a n i:=Kh λf=>by
    have e:s=0:=Kh λU=>f (hf om)
    subst e;have:=ZO A l f;have h2:Qm a i 0 i=false:=hsn;rw[h2] at this;cases this
   have a7:=(GM A l f hs).1 hsn;have pt:=bP (vs:=rc 64 λj=> .bool (Qm a i s j)) (off:=it a s i) (by rw[jE];omega);obtain⟨h4,e4,n4,g4,o4⟩:=mD G S ((rc 64 λj=> .bool (Qm a i s j)).set (it a s i) (.bool true));obtain⟨h5,e5,n5,g5,o5,f5⟩:=cU (h:=h4) (ID:=G.next) n4 [aC (it a s i:Nat)];have a1:cQ h5 p 1 (ints (zi ((List.range s).map λt=>it a t i))) (S+1):=y.mono om λk off m c e h1 h2=>by rw[o5 k om,o4 k om]
   obtain⟨h6,a6,Z⟩:=a1.push (bytes:=8) (SV.one (v:= aC (it a s i:Nat)) (id:=G.next) om g5 (.kn 1)) (n:=s) (m:=1) (by rw[aP,aN];simp) rfl om om om;have n6:=Z.next;have ap: ∀q,q<=S->cZ p q:=λq hq k off m c e e2=>by have:=(y.in _ _ _ _ e).2.1;omega
   have o6: ∀q,q<F->h6.get q=G.get q:=λq hq=>by rw[Z.old q om (ap q om),o5 q om,o4 q om]
   have J6:=kJ _ _ h6 r om o6;obtain⟨a0,a4⟩:=jb _ _ J6;obtain⟨idx,N,W,Q,L⟩:=a4.open;rw[aN,A.len] at W Q L
   have cx:h6.cell idx (N+it a s i)=some (aC (it a (s+1) i:Nat)):=by
    rw[L _ hp];congr 2;rw[zi,iD _ (d:=0) (by rw[A.len];exact hp)];rfl
   simp(disch:=omega)only[go_sem,cS,w,pt,e4,bZ h4 (z:= aC 0) (v:= aC (it a s i:Nat)) rfl rfl,n4,e5,a6,H.aF a0,W.ixa,cx]
   have a3:h6.get S=some (.cells false (rc 64 λj=> .bool (Qm a i (s+1) j))):=by
    rw[Z.old S om (ap S (eH _)),o5 S om,g4,kX];congr 2
    exact dA λj _=>by
     rw[XF]
     by_cases e:j=it a s i
     ·rw[bJ e,bJ e]
     ·rw[bL e,bL e]
   have el:ints (zi ((List.range (s+1)).map λt=>it a t i))=ints (zi ((List.range s).map λt=>it a t i))++ [aC (it a s i:Nat)]:=by
    rw[List.range_succ,List.map_append];simp [zi,ints]
   refine⟨xJ a i-(s+1),om,s+1,_,aB rfl,om,λ_=>f,by rw[el];exact Z.own (by rw[aP,aN];simp) rfl om,J6,a3,om,rfl⟩
 clear r w x
 rintro o G ⟨p,c,⟨g,rfl⟩,y,hc,r,w,x⟩
 have P:=cQ.lens y (n:=c.length) (by rw[aP,aN])
 rcases hc with ⟨f,rfl⟩|⟨f,rfl⟩
 ·have d2:decide ((0:Int)<((GW a i).length:Int))=true:=bN (by rw[Bv];omega)
  have u:=ZI (a:=a) (n:=n) (i+1) om
  have R:=(Ib l).1 f
  rw[R] at u
  have hg:(vI a n).getD (HT a n i).length []=GW a i:=by rw[PN u (by simp)];exact jU
  have B:=u.length_le
  rw[iA] at B
  simp(disch:=omega)only[go_sem,P,d2]
  refine (hy _ G p (by simp at B;omega) r (by rw[hg];exact y.sv) om).mono ?_
  rintro _ h4 ⟨rfl,J4,f4⟩
  simp(disch:=omega)only[go_sem]
  rw[dU i]
  refine⟨n-(i+1),om,i+1,aB rfl,om,by rw[R,iA];exact J4,by rw[f4.get S x (λh=>by have:S<F:=h;omega)];exact w,jB x f4.next,rfl⟩
 ·have d2:decide ((0:Int)<((0:Nat):Int))=false:=rfl
  simp(disch:=omega)only[go_sem,P,d2]
  rw[dU i]
  exact⟨n-(i+1),om,i+1,aB rfl,om,by rw[(Ib l).2 f];exact r,w,x,rfl⟩
end
theorem zV (u:V)(ws:List V)(n:Nat)(h:H)(K:1<=n)(P:n<=64)(Q:ws.length<1000000)(F:SV h u 1 ws)(z: ∀i,i<ws.length-> ∃a,bC n a/\SI h (ws.getD i .undef) (zi a)):Ev T 158 [u] h (λv h'=>v= aC 0/\Fr h h'):=by
 refine cT Ij rfl ?_;have J:bF u=some (aC (ws.length:Int)):=by unfold bF;rw[SV.len F (n:=ws.length) om om];rfl
 obtain⟨id,b,y,l,w⟩:=SV.shape F ws.length om om;have j: ∀i:Nat,i<ws.length->h.cell id (b+i)=some (ws.getD i .undef):=λi hi=>by rw[w i om];simp [List.getD,hi]
 simp(disch:=omega)only[go_sem,Ij,aD,J];refine bQ (λk p=>(∃g:Nat->V,k= [u,aC 0,g 2,g 3,g 4,g 5,g 6,g 7,g 8,g 9,g 10,g 11,g 12,g 13,g 14])/\Fr h p) ?_ ?_
 ·refine aI (λs k p=> ∃(i:Nat),(∃g:Nat->V,k= [u,aC 0,g 2,g 3,g 4,u,aC (ws.length:Int),aC i,g 8,g 9,g 10,g 11,g 12,g 13,g 14])/\i<=ws.length/\Fr h p/\s=ws.length-i) ws.length
   ⟨0,aB rfl,fR _,Fr.refl h,rfl⟩ ?_
  rintro s c q ⟨i,⟨g,rfl⟩,hi,f,rfl⟩
  by_cases d:(i:Int)<(ws.length:Int)
  ·have o:=bN d
   have m:i<ws.length:=om
   have ci:q.cell id (b+i)=some (ws.getD i .undef):=by rw[f.cell (l om),j i om]
   obtain⟨a,X,t⟩:=z i m;generalize ws.getD i .undef=G at ci t;simp(disch:=omega)only[go_sem,o,y.ixa,ci];refine (vH G _ q (by rw[aN,X.len];omega) (t.mono f)).mono ?_;rw[Ph X om om];rintro _ O ⟨rfl,L⟩;simp(disch:=omega)only[go_sem];refine bA (λj=>(j rfl).elim) (λ_=>?_);simp(disch:=omega)only[go_sem];rw[dU i];exact⟨ws.length-(i+1),om,i+1,aB rfl,om,f.trans L,rfl⟩
  ·have o:=bE d
   simp(disch:=omega)only[go_sem,o];exact⟨aB rfl,f⟩
 rintro c q ⟨⟨g,rfl⟩,f⟩;simp(disch:=omega)only[go_sem,J];refine bQ (λk p=>(∃g:Nat->V,k= [u,aC 0,g 2,g 3,g 4,g 5,g 6,g 7,g 8,g 9,g 10,g 11,g 12,g 13,g 14])/\Fr h p) ?_ ?_
 ·refine aI (λs k p=> ∃(i:Nat),(∃g:Nat->V,k= [u,aC 0,g 2,g 3,g 4,g 5,g 6,g 7,g 8,g 9,u,aC (ws.length:Int),aC i,g 13,g 14])/\i<=ws.length/\Fr h p/\s=ws.length-i) ws.length
   ⟨0,aB rfl,fR _,f,rfl⟩ ?_
  clear f;rintro s c q ⟨i,⟨g,rfl⟩,hi,f,rfl⟩
  by_cases d:(i:Int)<(ws.length:Int)
  ·have o:=bN d
   have m:i<ws.length:=om
   have ci:q.cell id (b+i)=some (ws.getD i .undef):=by rw[f.cell (l om),j i om]
   have x:q.cell id (b+0)=some (ws.getD 0 .undef):=by rw[f.cell (l om),j 0 om]
   obtain⟨a,X,t⟩:=z i m;obtain⟨U,N,r⟩:=z 0 om;generalize ws.getD i .undef=G at ci t;generalize ws.getD 0 .undef=R at x r;have A:=t.lens;have B:=r.lens;rw[aN,X.len] at A;rw[aN,N.len] at B;have e:Gu 1 u (aC 0)=some (.ptr id (b+0)):=y.ixa .i64 0 om om;rw[Nat.add_zero] at e x;simp(disch:=omega)only[go_sem,o,y.ixa,ci,e,x,A,B];refine bA (λj=>(j rfl).elim) (λ_=>?_);simp(disch:=omega)only[go_sem];rw[dU i];exact⟨ws.length-(i+1),om,i+1,aB rfl,om,f,rfl⟩
  ·have o:=bE d
   simp(disch:=omega)only[go_sem,o];exact⟨aB rfl,f⟩
 rintro c O ⟨⟨g,rfl⟩,f⟩;simp(disch:=omega)only[go_sem];exact f
theorem Fl (l:List Nat)(k:Nat):Eg (l.take k)∣Eg l:=(Hq _ _).2 λc a=>(Hq l _).1 (Nat.dvd_refl _) c (List.mem_of_mem_take a)
theorem Qv (l:List Nat)(k:Nat)(a:k<l.length):Eg (l.take (k+1))=Eg (l.take k)/Nat.gcd (Eg (l.take k)) (l.getD k 0)*l.getD k 0:=by
 unfold Eg;rw[dE 0 a,List.foldl_append];rfl
theorem Ri {n:Nat}(a:n<=7):n^n<=823543:=by
 have: ∀m,m<8->m^m<=823543:=by decide
 exact this n om
structure OrJ (h:H)(A b id2:Nat)(va:V)(a:List Nat)(r:dY)(m:Nat)(hh:H):Prop where
 gr:hh.get id2=some (.loop r)
 gA:hh.get A=aY [aC m]
 gb:hh.get b=aY [va]
 si:SI hh va (zi a)
 nx:id2<hh.next
 fr:Fr h hh
theorem MU (a:V)(h:H)(d:a.cells= [a])(c:a.one=true):Ev T 225 [a] h (λv h'=> ∃b,v= .fn 246 [] [.ptr b 0]/\b=h.next/\h'.get b=aY [a]/\h'.next=h.next+1/\Fr h h'):=by
 refine cT Df rfl ?_;obtain⟨j,i,f,g,k,e⟩:=cU (h:=h) rfl [a];simp(disch:=omega)only[go_sem,Df,aD,kW d c h,i];exact⟨h.next,rfl,rfl,g,f,e⟩
theorem QV (w:V)(n:Nat)(a:List Nat)(h:H)(a6:1<=n)(hn:n<=7)(A:bC n a)(O:SI h w (zi a)):
  Ev T 185 [w] h (λv h'=>v= .tup [aC (pI a n:Nat),aC 0]/\Fr h h'):=by
 refine cT Gb rfl ?_
 obtain⟨S,hS⟩:=exI h.next
 obtain⟨h1,e1,n1,g1,o1,f1⟩:=cU hS [w]
 have on:=(SV.cF O).2.1
 simp(disch:=omega)only[go_sem,Gb,aD,bZ h (z:= .aE) (v:=w) (SV.cF O).1 on,hS,e1]
 have b2: ∀i,i< [w].length-> ∃a,bC n a/\SI h1 ([w].getD i .undef) (zi a):=λi hi=>by
  obtain rfl:i=0:=by simp at hi;omega
  exact⟨a,A,O.mono f1⟩
 refine (zV (.sl S 0 1 (.kn 1)) [w] n h1 a6 om (by simp) (SV.one om g1 _) b2).mono ?_
 rintro _ U ⟨rfl,f2⟩
 simp(disch:=omega)only[go_sem]
 refine bA (λhc=>(hc rfl).elim) (λ_=>?_)
 obtain⟨B,hB⟩:=exI U.next
 obtain⟨h3,e3,n3,g3,o3,f3⟩:=cU hB [aC 0]
 obtain⟨h4,e4,n4,g4,o4⟩:=mD h3 B [aC 1]
 have b3: ∀(t:H) (y:V),dR (aY [aC 0]) t B 0 [y]=some (t.set B (aY [y])):=λt y=>bP (by simp) t _ _
 simp(disch:=omega)only[go_sem,hB,e3,g3,b3,e4]
 refine (MU w h4 (SV.cF O).1 on).mono ?_
 rintro _ h5 ⟨b,rfl,hb,g5,n5,f5⟩
 simp(disch:=omega)only[go_sem]
 refine⟨rfl,uT λr W=>?_⟩
 obtain⟨g,P⟩:=exI h5.next
 rw[P]
 have iB:r.st= .ready:=by rw[W]
 have a2:r.pend=none:=by rw[W]
 obtain⟨N,L⟩: ∃N,N=h5.new (.loop r):=⟨_,rfl⟩
 have b7:N.get g=some (.loop r):=by rw[L,←P,H.aL]
 have n6:N.next=g+1:=by rw[L,H.aU,P]
 have f6:Fr h5 N:=by rw[L];exact (Fr.refl h5).new _
 rw[←L]
 have F2:=f1.trans f2
 have F3:=F2.trans f3
 have hs:=F2.next
 have F4:Fr h h4:=⟨by rw[n4];exact F3.next,λq s=>by rw[o4 q om];exact F3.get q s⟩
 have F6:=(F4.trans f5).trans f6
 have c2:g=b+1:=om
 have b9:N.get B=aY [aC 1]:=by rw[f6.get _ om,f5.get _ om];exact g4
 have b0:N.get b=aY [w]:=by rw[f6.get _ om];exact g5
 have J0:OrJ h B b g w a r (Eg (((vI a n).map List.length).take 0)) N:=⟨b7,b9,b0,O.mono F6,om,F6⟩
 refine (CG g b w n a N a6 om A (g+1) om om b0 om (O.mono F6) (λk t=>OrJ h B b g w a r (Eg (((vI a n).map List.length).take k)) t) J0
  (λk t h' j hx s=>⟨by rw[s _ om];exact j.gr,by rw[s _ om];exact j.gA,by rw[s _ om];exact j.gb,O.mono ⟨lX j.fr.next hx,λq Z=>by rw[s _ om];exact j.fr.get q Z⟩,jB j.nx hx,⟨lX j.fr.next hx,λq Z=>by rw[s _ om];exact j.fr.get q Z⟩⟩)
  (λk t j=>⟨j.gb,j.si⟩) ?_).mono ?_
 ·intro k t v hk j a9 c6
  obtain⟨m,hm⟩:=exI (Eg (((vI a n).map List.length).take k))
  obtain⟨c,R⟩:=exI ((vI a n).getD k [])
  have a7:((vI a n).map List.length).getD k 0=c.length:=by rw[iD _ (d:= []) hk,R]
  have b6:k<((vI a n).map List.length).length:=by rw[iN];exact hk
  have J:=Qv ((vI a n).map List.length) k b6
  rw[hm,a7] at J
  have hp:=AN A
  have a8:=lX (HS A) (Ri hn)
  have c5:m<=823543:=lX (by rw[←hm];exact Nat.le_of_dvd hp (Fl _ k)) a8
  have a0:Eg (((vI a n).map List.length).take (k+1))<=823543:=lX (Nat.le_of_dvd hp (Fl _ (k+1))) a8
  have c4:1<=c.length/\c.length<=7:=by
   have:=aW (l:=vI a n) (d:= []) hk;rw[R] at this;obtain⟨i,hi,rfl⟩:=vF.1 this;have a5:i<n:=by unfold Rb at hi;exact Lk.1 (GI.1 hi).1
   rw[Bv];have:=(oG A a5).1;have:=EG A a5;omega
  rw[R] at a9
  have lv:=a9.lens
  rw[aN] at lv
  rw[hm] at j
  refine tE j.gr (by rw[W];rfl) iB λK g9 n9 o9=>?_
  rw[congrArg dY.assign W,congrArg dY.vars W,congrArg dY.pars W]
  simp(disch:=omega)only[go_sem,List.zip_cons_cons,List.zip_nil_left]
  rw[congrArg dY.body W]
  have nx:=j.nx
  have a4:K.get B=aY [aC m]:=by rw[o9 _ om];exact j.gA
  simp(disch:=omega)only[go_sem,H.aF a4,lv]
  refine (agX Dv.ok m c.length _ om om).mono ?_
  rintro _ f ⟨rfl,b1⟩
  have b8:K.next+10<=f.next:=b1.next
  have p: ∀q,q<K.next->f.get q=K.get q:=λq s=>b1.get q (by show q<K.next+10;omega)
  have u:f.get B=aY [aC m]:=by rw[p _ om];exact a4
  obtain⟨G,hG⟩:=exI (Nat.gcd m c.length)
  rw[hG] at J
  rw[hG]
  have c7:0<G:=by rw[←hG];exact Nat.gcd_pos_of_pos_right _ om
  have b4:(G:Int)≠0:=om
  have a1:(m:Int).tdiv (G:Int)=((m/G:Nat):Int):=by rw[Int.tdiv_eq_ediv_of_nonneg om];rfl
  have c0:m/G<=m:=Nat.div_le_self _ _
  have Y:((m/G:Nat):Int)*(c.length:Int)=((Eg (((vI a n).map List.length).take (k+1)):Nat):Int):=by rw[J,Int.natCast_mul]
  generalize Eg (((vI a n).map List.length).take (k+1))=m2 at Y a0 J
  generalize m/G=q at a1 c0 Y J
  have pt: ∀(t:H) (y:V),dR (aY [aC m]) t B 0 [y]=some (t.set B (aY [y])):=λt y=>bP (by simp) t _ _
  simp(disch:=omega)only[go_sem,b4,a1,Y,lv,H.aF u,u,pt]
  refine oP iB a2 (by rw[H.aH _ om];rw[p _ om];exact g9) ?_
  obtain⟨F,o⟩: ∃F,F=(f.set B (aY [aC m2])).set g (some (.loop r)):=⟨_,rfl⟩
  rw[←o]
  have c3:F.next=f.next:=by rw[o];rfl
  have Q: ∀q,q≠B->q≠g->F.get q=f.get q:=λq h1 U=>by rw[o,H.aH _ U,H.aH _ h1]
  have c1:=j.fr.next
  have a3:Fr h F:=⟨om,λq s=>by rw[Q q om om,p q om,o9 q om];exact j.fr.get q s⟩
  exact⟨rfl,⟨by rw[o,H.aS],by rw[o,H.aH _ om,H.aS],by rw[Q b om om,p b om,o9 b om];exact j.gb,O.mono a3,om,a3⟩,⟨om,λq h1 U=>by rw[Q q (λe=>U om) (λe=>U om),p q om,o9 q (λe=>U om)]⟩⟩
 ·rintro _ K j
  rw[show (vI a n).length=((vI a n).map List.length).length from (iN _).symm,List.take_length] at j
  have a0:pI a n<=823543:=lX (HS A) (Ri hn)
  have j':OrJ h B b g w a r (pI a n) K:=j
  refine⟨r,j'.gr,by rw[iB];simp,?_⟩
  have en:r.pend.getD .norm= .norm:=by rw[a2];rfl
  rw[en]
  obtain⟨f,x⟩: ∃f,f=K.set g (some (.loop {r with st:= .out})):=⟨_,rfl⟩
  have p: ∀q,q≠g->f.get q=K.get q:=λq s=>by rw[x,H.aH _ s]
  have b8:f.next=K.next:=by rw[x];rfl
  have u:f.get B=aY [aC (pI a n:Nat)]:=by rw[p _ om];exact j'.gA
  have c1:=j'.fr.next
  have b5:Fr h f:=⟨om,λq s=>by rw[p q om];exact j'.fr.get q s⟩
  rw[←x]
  simp(disch:=omega)only[go_sem,H.aF u]
  exact b5
theorem Ud (h:H)(n:Nat)(a:n<=100000):Iv h 1 1 [.int .u8 0] (aC n) (aC n)=some (.sl h.next 0 n (.kn n),h.new (.cells false (rc n λ_=> .int .u8 0))):=by
 rw[tC om (Int.le_refl _) om om,OM,uH]
 have e:dC [V.int .u8 0] n=rc n λ_=> .int .u8 0:=by
  symm;refine Kp ?_ λi hi=>?_
  ·simp [dC]
  ·simp [dC,hi,Nat.mod_one]
 rw[e]
theorem Eh: ∀l:List Nat,(∀x∈l,x<256)->pV (l.map λ(x:Nat)=>V.int .u8 (x:Int))=some l
 | [],_=>rfl
 |x::r,h=>by
  have b:=h x (by simp);show (if 0<=(x:Int)/\(x:Int)<256 then (pV (r.map λ(x:Nat)=>V.int .u8 (x:Int))).map ((x:Int).toNat:: ·) else none)=_;rw[bJ ⟨om,om⟩,Eh r λy a=>h y (by simp [a])]
  rfl
theorem IN (u:V)(a:List Nat)(h:H)(W:a.length<=1000)(z: ∀x∈a,x<256)(N:SI h u (zi a)):
  Ev T 182 [u] h (λv h'=>v= .str a/\Fr h h'):=by
 refine cT oD rfl ?_
 obtain⟨n,q⟩:=exI a.length
 have O:=N.lens
 rw[aN,q] at O
 obtain⟨id,off,B,m,w⟩:=N.open
 rw[aN,q] at B m w
 simp(disch:=omega)only[go_sem,oD,aD,O,Ud h n om]
 have g:Fr h (h.new (.cells false (rc n λ_=> .int .u8 0))):=(Fr.refl h).new _
 have f:(h.new (.cells false (rc n λ_=> .int .u8 0))).get h.next=some (.cells false (rc n λ_=> .int .u8 0)):=H.aL ..
 have c:(h.new (.cells false (rc n λ_=> .int .u8 0))).next=h.next+1:=H.aU ..
 generalize h.new (.cells false (rc n λ_=> .int .u8 0))=U at*
 obtain⟨S,K⟩:=exI h.next
 rw[K] at f c
 rw[K]
 refine aI (λJ b t=> ∃(i:Nat),(∃j:Nat->V,b= [u,j 1,.sl S 0 n (.kn n),j 3,j 4,u,aC n,aC i,j 8])/\i<=n/\
   t.get S=some (.cells false (rc n λj=>if j<i then .int .u8 ((a.getD j 0:Nat):Int) else .int .u8 0))/\t.next=S+1/\Fr h t/\J=n-i) n
  ⟨0,aB rfl,fR _,by rw[f];rfl,c,g,rfl⟩ ?_
 clear f g c
 rintro J b p ⟨i,⟨R,rfl⟩,hi,L,Q,F,rfl⟩
 simp(disch:=omega)only[go_sem]
 by_cases o:(i:Int)<(n:Int)
 ·rw[bN o]
  have d:i<n:=om
  have ci:p.cell id (off+i)=some (aC (a.getD i 0:Nat)):=by rw[F.cell (m om),w i d];congr 2;simp [zi,q,d]
  have r:=z (a.getD i 0) (aW om)
  generalize P:a.getD i 0=k at ci r
  have y:=bP (vs:=rc n λj=>if j<i then .int .u8 ((a.getD j 0:Nat):Int) else .int .u8 0) (off:=i) (by rw[jE];exact d) p S (.int .u8 (k:Int))
  rw[kX] at y
  simp(disch:=omega)only[go_sem,B.ixa,ci,L,xY,y]
  rw[dU i]
  refine⟨n-(i+1),om,i+1,aB rfl,om,?_,Q,F.set om _,rfl⟩
  congr 2
  refine dA λj G=>?_
  by_cases e:j=i
  ·rw[bJ e,bJ om,e,P]
  ·rw[bL e]
   by_cases A:j<i
   ·rw[bJ A,bJ om]
   ·rw[bL A,bL om]
 rw[bE o]
 obtain rfl:i=n:=om
 have l:p.row S 0 i=some (a.map λ(x:Nat)=>V.int .u8 (x:Int)):=by
  have e:(rc i λj=>if j<i then V.int .u8 ((a.getD j 0:Nat):Int) else .int .u8 0)=a.map λ(x:Nat)=>V.int .u8 (x:Int):=Kp (by rw[iN,q]) λj G=>by
   rw[bJ G,Wy,dF om,List.getD,dF om];rfl
  unfold H.row;rw[L,e];simp only[sub];rw[bJ (by rw[iN];omega)];rw[List.drop_zero,Lq (by rw[iN];omega)]
 have s:LG p (.sl S 0 i (.kn i))=some (.str a):=by
  show (match p.row S 0 i with|some ys=>(pV ys).map V.str|none=>none)=_;rw[l];show (pV (a.map λ(x:Nat)=>V.int .u8 (x:Int))).map V.str=_;rw[Eh a z];rfl
 simp(disch:=omega)only[go_sem,IZ,s]
 exact F
section
variable {y x g:List Nat}
section
variable {n:Nat} {G:List Nat->Prop} {O:LN} {R:fM}
theorem one_le (Y:bC n y):Le (bT n) y:=by
 by_cases h: ∃k,k<n/\y.getD k 0≠k
 ·obtain⟨k,⟨b,q⟩,d⟩: ∃k,(k<n/\y.getD k 0≠k)/\ ∀j,j<k-> ¬(j<n/\y.getD j 0≠j):=by
   obtain⟨k,b⟩:=h
   induction k using Nat.strongRecOn with
   |_ k ih=>
    by_cases i: ∃j,j<k/\(j<n/\y.getD j 0≠j)
    ·obtain⟨j,o,p⟩:=i;exact ih j o p
    ·exact⟨k,b,λj c m=>i ⟨j,c,m⟩⟩
  have a: ∀j,j<k->y.getD j 0=j:=λj c=>Kh λf=>d j c ⟨om,f⟩
  refine .inr ⟨k,by rw[iU];exact b,λj c=>by rw[fF om,a j c],?_⟩;rw[fF b];refine Kh λl=>?_
  have e:y.getD k 0<k:=om
  have:=Y.inj om b (a _ e);omega
 ·exact .inl ((Fix.all Y λk b=>Kh λf=>h ⟨k,b,f⟩).symm)
theorem Jo (f:iJ n G)(c:aZ n G O R){i:Nat}(hi:i<n):0<(R.getD i []).length/\(R.getD i []).getD 0 []=bT n:=by
 have o:i∈O.getD i []:=(c.mem i hi i).2 ⟨bT n,f.one,Fix.one n i om,fF hi⟩;have b:0<(O.getD i []).length:=KH o;have a:=c.rep i hi 0 b
 have q:(O.getD i []).getD 0 0=i:=by
  have d:(O.getD i []).getD 0 0∈O.getD i []:=aW b;obtain⟨x,t,fx,e⟩:=(c.mem i hi _).1 d
  have p: ¬(O.getD i []).getD 0 0<i:=λl=>by
   have X:=f.cX t;have:=X.inj (i:=(O.getD i []).getD 0 0) (j:=i) om hi (by rw[fx _ l,e]);omega
  obtain⟨k,r,v⟩:=wV.1 o;have m:=OP.1 (c.asc i hi);have u:(O.getD i []).getD 0 0=(O.getD i [])[0]:=Pm.cL b
  by_cases h:k=0
  ·subst h;omega
  ·have:=m 0 k b r om
   omega
 rw[q] at a;refine⟨by rw[c.rl i hi];exact b,a.uniq ⟨f.one,Fix.one n i om,fF hi,λy s _ _=>one_le (f.cX s)⟩⟩
theorem bY (c:aZ n G O R)(a:x∈bM R):G x:=by
 unfold bM at a;obtain⟨r,d,b⟩:=List.mem_flatMap.1 a;exact kB c x (List.mem_flatten.2 ⟨r,d,List.mem_of_mem_drop b⟩)
theorem lF (d:iJ n G)(c:aZ n G O R)(m:G x):cG n (λg=>g∈bM R) x:=by
 have h:=(To d c x).2 m;have t: ∀g,g∈bM R->bC n g:=λg f=>d.cX (bY c f)
 clear m
 induction h with
 |one=>exact .one
 | @mul y g _ f ih=>
  obtain⟨r,o,u⟩:=List.mem_flatten.1 f;obtain⟨i,hi,p⟩:=wV.1 o;have e:i<n:=by have:=c.lr;omega
  have a:R.getD i []=r:=by rw[List.getD,dF hi,←p];rfl
  obtain⟨s,j⟩:=Jo d c e;rw[a] at s j;obtain⟨k,q,l⟩:=wV.1 u
  by_cases b:k=0
  ·subst b
   have:g=bT n:=by rw[←j,List.getD,dF q,←l];rfl
   rw[this,cE (ih.cX t)];exact ih
  ·refine ih.mul ?_
   unfold bM;refine List.mem_flatMap.2 ⟨r,o,wV.2 ⟨k- 1,by rw[BM];omega,?_⟩⟩;rw[List.getElem_drop];simp only[show 1+(k- 1)=k by omega,l]
def cW (x g:List Nat):List Nat:=aX (aX (cY g) x) g
theorem nH (X:bC n x)(g':bC n g):bC n (cW x g):=(g'.inv.mul X).mul g'
theorem qD (X:bC n x):cW x (bT n)=x:=by
 unfold cW;rw[nY,eD X,cE X]
theorem sV {k:List Nat}(X:bC n x)(A:bC n g)(B:bC n k):cW x (aX g k)=cW (cW x g) k:=by
 unfold cW;rw[Np A B];have a:=A.inv;have b:=B.inv;rw[aV b a X,←aV (b.mul (a.mul X)) A B,←aV b (a.mul X) A|>.symm]
theorem ML (X:bC n x)(A:bC n g):cW (cW x g) (cY g)=x:=by
 rw[←sV X A A.inv,fQ A,qD X]
def cj (G:List Nat->Prop)(x y:List Nat):Prop:= ∃g,G g/\cW x g=y
theorem adF (a:iJ n G)(X:bC n x):cj G x x:=⟨bT n,a.one,qD X⟩
theorem YK (a:iJ n G)(X:bC n x)(h:cj G x y):cj G y x:=by
 obtain⟨g,b,rfl⟩:=h;exact⟨cY g,a.inv b,ML X (a.cX b)⟩
theorem PU (a:iJ n G){z:List Nat}(X:bC n x)(h:cj G x y)(h2:cj G y z):cj G x z:=by
 obtain⟨g,c,rfl⟩:=h;obtain⟨k,b,rfl⟩:=h2;exact⟨aX g k,a.mul c b,sV X (a.cX c) (a.cX b)⟩
theorem afA {S:List Nat->Prop}(b: ∀g,S g->bC n g)(a: ∀x,G x->cG n S x){P:List Nat->Prop}(X:bC n x)(d:P x)(e: ∀y g,bC n y->P y->S g->P (cW y g))(h:cj G x y):P y:=by
 obtain⟨g,c,rfl⟩:=h;have:=a g c;clear c
 induction this with
 |one=>rw[qD X];exact d
 | @mul z k hz hk ih=>
  rw[sV X (hz.cX b) (b k hk)];exact e _ _ (nH X (hz.cX b)) ih hk
end
end
end Go.Proofs.YtcdbmkidaecdiaaGreat
namespace Go.Proofs.YtcdbmkidaecdiaaGreat.Cls
open Go Go.Ay Go.Sort
set_option maxRecDepth 100000
section
variable {h:H} {S N i j a:Nat}
class bV (α:Type)[Inhabited α] where
 lt:α->α->Bool
 enc:α->List V
 P:α->Prop
 B:H->Prop
 f:Nat
 b0:Nat
 S:Nat
 swo:SWO lt
 len: ∀a,(enc a).length=4
 one: ∀a,(enc a).all V.one=true
 eqv: ∀a,dB (.agg (enc a)) (.agg (enc a))=true
 cmp: ∀h a b,B h->P a->P b->Ev T f [.agg (enc a),.agg (enc b)] h (λv h'=> ∃z,v= aC z/\decide (z<0)=lt a b/\Fr h h')
 bfr: ∀h h',B h->Fr h h'->B h'
 bS: ∀h h',B h->Fx (· =S) h h'->B h'
 bR: ∀h h' R,B h->b0<=R->Fx (· =R) h h'->B h'
 bn: ∀h,B h->b0<=h.next
def flat {α:Type}[Inhabited α][bV α](l:List α):List V:=l.flatMap bV.enc
structure dK {α:Type}[Inhabited α][O:bV α](h:H)(S N:Nat)(d:Array α):Prop where
 get:h.get S=aY (flat d.toList)
 size:d.size=N
 lt:S<h.next
 eqS:S=O.S
 base:O.B h
 all: ∀i,i<d.size->O.P d[i]!
section
variable {α:Type} [Inhabited α] [O:bV α]
theorem oM: ∀l:List α,(flat l).length=l.length*4
 | []=>rfl
 |x::r=>by
  show (bV.enc x++flat r).length=_;rw[iA,bV.len,oM r,List.length_cons];omega
theorem Iu: ∀(l:List α) (i:Nat),(flat l).drop (i*4)=flat (l.drop i)
 |l,0=>by simp
 | [],i+1=>by simp [flat]
 |x::r,i+1=>by
  show (bV.enc x++flat r).drop ((i+1)*4)=_;rw[List.drop_append,List.drop_eq_nil_of_le (by rw[bV.len];omega),bV.len,List.nil_append,show (i+1)*4- 4=i*4 by omega,Iu r i,List.drop_succ_cons]
theorem Sv: ∀(l:List α) (i:Nat),(flat l).take (i*4)=flat (l.take i)
 |l,0=>by simp [flat]
 | [],i+1=>by simp [flat]
 |x::r,i+1=>by
  show (bV.enc x++flat r).take ((i+1)*4)=_;rw[List.take_append,Lq (by rw[bV.len];omega),bV.len,show (i+1)*4- 4=i*4 by omega,Sv r i,List.take_succ_cons];rfl
theorem aeA (h:H)(id off:Nat)(a:α):Xh h 4 (.ptr id off) (.agg (bV.enc a))=dR (h.get id) h id off (bV.enc a):=By h id off 4 _ (bV.len a) (bV.one a)
theorem abC (a:α):dB (.agg (bV.enc a)) (.agg (bV.enc a))=true:=bV.eqv a
theorem dK.rd {d:Array α}(A:dK h S N d)(hi:i<N):h.row S (i*4) 4=some (bV.enc d[i]!):=by
 have b:i<d.size:=by rw[A.size];exact hi
 have c:i<d.toList.length:=by simpa using b
 unfold H.row;rw[A.get];simp only[sub];rw[bJ (by rw[oM];omega),Iu,BT c];show some ((bV.enc d.toList[i]++flat _).take 4)=_;rw[List.take_append,Lq (by rw[bV.len];exact eH _),bV.len];simp [b]
theorem dK.fr {h':H}{d:Array α}(A:dK h S N d)(f:Fr h h'):dK h' S N d:=⟨by rw[f.get _ A.lt];exact A.get,A.size,jB A.lt f.next,A.eqS,O.bfr _ _ A.base f,A.all⟩
theorem bW {d:Array α}(hi:i<d.size)(b:H)(S:Nat)(x:α):dR (aY (flat d.toList)) b S (i*4) (bV.enc x)=some (b.set S (aY (flat (d.setIfInBounds i x).toList))):=by
 have c:i<d.toList.length:=by simpa using hi
 have e:(flat d.toList).take (i*4)++bV.enc x++(flat d.toList).drop (i*4+4)=flat (d.setIfInBounds i x).toList:=by
  rw[Array.toList_setIfInBounds,List.set_eq_take_append_cons_drop,bJ c,Sv,show i*4+4=(i+1)*4 by omega,Iu];simp [flat]
 simp only[dR,putAt,bV.len];rw[bJ (by rw[oM];omega),e];rfl
theorem bU {d:Array α}{y:α}(hi:i<d.size)(b:H)(S:Nat)(x:α):dR (aY (flat (d.setIfInBounds j y).toList)) b S (i*4) (bV.enc x)=some (b.set S (aY (flat ((d.setIfInBounds j y).setIfInBounds i x).toList))):=
 bW (by simpa using hi) b S x
theorem dK.swap {h2:H}{d:Array α}(A:dK h S N d){nx:Nat}(c:h.next<=nx)(e:h2=((H.mk h.tr nx).set S (aY (flat (d.setIfInBounds i d[j]!).toList))).set S (aY (flat ((d.setIfInBounds i d[j]!).setIfInBounds j d[i]!).toList)))(hi:i<N:=by omega)(p:j<N:=by omega):dK h2 S N (swp d i j)/\Fx (· =S) h h2:=by
 subst e
 have fx:Fx (· =S) h (((H.mk h.tr nx).set S (aY (flat (d.setIfInBounds i d[j]!).toList))).set S (aY (flat ((d.setIfInBounds i d[j]!).setIfInBounds j d[i]!).toList))):=⟨c,λid _ m=>by rw[H.aH _ m,H.aH _ m];rfl⟩
 have sz:=A.size;refine⟨⟨?_,?_,jB A.lt c,A.eqS,O.bS _ _ A.base (by have:=A.eqS;subst this;exact fx),?_⟩,fx⟩
 ·rw[H.aS];rfl
 ·simp [swp,sz]
 ·intro k o
  have b:k<d.size:=by simpa [swp] using o
  unfold swp
  have f: ∀(x:Array α) (u:Nat) (y:α),k<x.size->(x.setIfInBounds u y)[k]! =if u=k then y else x[k]! :=λx u y g=>by
   rw[getElem!_pos (x.setIfInBounds u y) k (by simpa using g),getElem!_pos x k g,Array.getElem_setIfInBounds]
  rw[f _ _ _ (by simpa using b),f _ _ _ b]
  by_cases n:j=k
  ·rw[bJ n];exact A.all i om
  ·rw[bL n]
   by_cases l:i=k
   ·rw[bJ l];exact A.all j om
   ·rw[bL l];exact A.all k b
theorem jC {d:Array α}(A:dK h S N d)(hi:i<N)(b:j<N)(nx:Nat)(c:h.next<=nx):Ev T (bV.f α) [.agg (bV.enc d[i]!),.agg (bV.enc d[j]!)] (H.mk h.tr nx) (λv h'=> ∃z,v= aC z/\decide (z<0)=bV.lt d[i]! d[j]! /\Fr (H.mk h.tr nx) h'):=
 O.cmp _ _ _ (O.bfr _ _ A.base ((Fr.refl h).bH c)) (A.all i (by rw[A.size];exact hi)) (A.all j (by rw[A.size];exact b))
end
attribute [go_sem] aeA abC H.Zj
theorem fS {a b c:H}(x:Fx (· =S) a b)(y:Fx (· =S) b c):Fx (· =S) a c:=x.trans y λ_ _ h=>h
theorem CR {α:Type}[Inhabited α]{lt:α->α->Bool}{d:Array α}(b:a<j+1)(h2:lt d[j+1]! d[j]! =true):insInner lt a (j+1) d=insInner lt a j (swp d (j+1) j):=by
 rw[insInner,bJ (by simp [b,h2])]
theorem FZ {α:Type}[Inhabited α]{lt:α->α->Bool}{d:Array α}(h2:lt d[j+1]! d[j]! =false):insInner lt a (j+1) d=d:=by
 rw[insInner,bL (by simp [h2])]
theorem FQ {α:Type}[Inhabited α]{lt:α->α->Bool}{d:Array α}(h:j<=a):insInner lt a j d=d:=by
 cases j with
 |zero=>rfl
 |succ j=>rw[insInner,bL (by simp;omega)]
theorem yT {α:Type}[Inhabited α][O:bV α](h:H)(S N a b:Nat)(d:Array α)(x:pF)(hN:N<1000000)(A:dK h S N d)(hb:b<=N)(Z:a<=b):
  Ev T 247 [.sl S 0 N x,aC a,aC b,.fn (bV.f α) [] []] h (λ_ h'=>dK h' S N (insertionSort bV.lt d a b)/\Fx (· =S) h h'):=by
 refine cT fC rfl ?_
 simp(disch:=omega)only[go_sem,fC,aD]
 rw[dU a]
 refine aI (λs c u=> ∃(i:Nat) (e:Array α),(∃g:Nat->V,c= [.sl S 0 N x,aC a,aC b,.fn (bV.f α) [] [],aC i,g 5,g 6,g 7])/\a<i/\i<=b+1/\dK u S N e/\insOuter bV.lt a b i e=insertionSort bV.lt d a b/\Fx (· =S) h u/\s=b+1-i) (b+1-(a+1))
  ⟨a+1,d,aB rfl,om,om,A,rfl,Fx.refl _ h,rfl⟩ ?_
 clear A
 rintro s c h1 ⟨i,e,⟨g,rfl⟩,K,U,A,n,F,rfl⟩
 simp(disch:=omega)only[go_sem]
 by_cases t:(i:Int)<(b:Int)
 case neg=>
  rw[bE t];simp(disch:=omega)only[go_sem];rw[insOuter,bL om] at n;rw[←n];exact⟨A,F⟩
 rw[bN t]
 rw[insOuter,bJ om] at n
 simp(disch:=omega)only[go_sem]
 refine aI (λs c u=> ∃(j:Nat) (k:Array α),(∃g:Nat->V,c= [.sl S 0 N x,aC a,aC b,.fn (bV.f α) [] [],aC i,aC j,g 6,g 7])/\a<=j/\j<=i/\dK u S N k/\insInner bV.lt a j k=insInner bV.lt a i e/\Fx (· =S) h u/\s=j) i
  ⟨i,e,aB rfl,om,om,A,rfl,F,rfl⟩ ?_
 clear A F
 rintro s c p ⟨j,k,⟨g2,rfl⟩,L,P,A,o,F,hk⟩
 have sz:=A.size
 by_cases q:(a:Int)<(j:Int)
 ·obtain⟨m,rfl⟩: ∃m,j=m+1:=⟨j- 1,om⟩
  have Y:=A.rd (i:=m+1) om
  have Q:=A.rd (i:=m) om
  have v:=bN q
  have y:((m+1:Nat):Int)- 1=(m:Int):=om
  simp(disch:=omega)only[go_sem,v,y,Y,Q]
  refine (jC A (i:=m+1) (j:=m) om om _ om).mono ?_
  rintro _ G ⟨z,rfl,J,w⟩
  have l:Fr p G:=Fr.trans ((Fr.refl p).bH om) w
  have r:=A.fr l
  have c3:=r.rd (i:=m+1) om
  have R:=r.rd (i:=m) om
  cases hl:bV.lt k[m+1]! k[m]! with
  |false=>
   rw[FZ hl] at o;simp(disch:=omega)only[go_sem,J,hl];rw[dU i];rw[←o] at n;exact⟨b+1-(i+1),om,i+1,k,aB rfl,om,om,r,n,fS F (Fx.of l),rfl⟩
  |true=>
   rw[CR om hl] at o;simp(disch:=omega)only[go_sem,J,hl,y,c3,R,r.get,bW,bU];have W:=r.swap (i:=m+1) (j:=m) (nx:=G.next+18) om rfl;exact⟨m,om,m,_,aB rfl,om,om,W.1,o,fS (fS F (Fx.of l)) W.2,rfl⟩
 ·have v:=bE q
  rw[FQ om] at o
  simp(disch:=omega)only[go_sem,v]
  rw[dU i]
  rw[←o] at n
  have B:Fr p (H.mk p.tr (p.next+17)):=(Fr.refl p).bH om
  exact⟨b+1-(i+1),om,i+1,k,aB rfl,om,om,A.fr B,n,fS F (Fx.of B),rfl⟩
end
def CO {α:Type}[Inhabited α](lt:α->α->Bool)(hi first root:Nat)(d:Array α):Nat:=if 2*root+1+1<hi/\lt d[first+(2*root+1)]! d[first+(2*root+1)+1]! =true then 2*root+2 else 2*root+1
theorem Fw {α:Type}[Inhabited α]{lt:α->α->Bool}(hi first a:Nat)(d:Array α):siftDown lt hi first a d=if 2*a+1≥hi then d else
  if lt d[first+a]! d[first+CO lt hi first a d]! =true then siftDown lt hi first (CO lt hi first a d) (swp d (first+a) (first+CO lt hi first a d)) else d:=by
 rw[siftDown]
 unfold CO
 by_cases b:2*a+1≥hi
 ·rw[dif_pos b,bJ b]
 ·rw[dif_neg b,bL b]
  by_cases c:2*a+1+1<hi/\lt d[first+(2*a+1)]! d[first+(2*a+1)+1]! =true
  ·rw[bJ (by simpa using c),bJ c]
   cases h3:lt d[first+a]! d[first+(2*a+2)]!
   ·simp
   ·simp [show 2*a+2<hi by omega]
  ·rw[bL (by simpa using c),bL c]
   cases h3:lt d[first+a]! d[first+(2*a+1)]! <;>simp
theorem rM  {α:Type}[Inhabited α][O:bV α](h:H)(S N x hi first:Nat)(d:Array α)(cp:pF)(hN:N<1000000)(A:dK h S N d)(hb:first+hi<=N)(R:x<=hi):
  Ev T 260 [.sl S 0 N cp,aC x,aC hi,aC first,.fn (bV.f α) [] []] h (λ_ h'=>dK h' S N (siftDown bV.lt hi first x d)/\Fx (· =S) h h'):=by
 refine cT fY rfl ?_
 simp(disch:=omega)only[go_sem,fY,aD]
 refine aI (λk' v hh=> ∃(r:Nat) (e:Array α),(∃g:Nat->V,v= [.sl S 0 N cp,aC x,aC hi,aC first,.fn (bV.f α) [] [],aC r,g 6,g 7,g 8,g 9])/\r<=hi/\dK hh S N e/\siftDown bV.lt hi first r e=siftDown bV.lt hi first x d/\Fx (· =S) h hh/\k'=hi-r) (hi-x)
  ⟨x,d,aB rfl,R,A,rfl,Fx.refl _ h,rfl⟩ ?_
 clear A
 rintro k' v s ⟨r,e,⟨g,rfl⟩,hr,A,a,F,rfl⟩
 have Z:2*(r:Int)+1=((2*r+1:Nat):Int):=om
 by_cases y:(hi:Int)<=((2*r+1:Nat):Int)
 ·have P:=bN y
  simp(disch:=omega)only[go_sem,Z,P]
  rw[Fw,bJ om] at a
  rw[←a]
  exact⟨A,F⟩
 have P:=bE y
 rw[Fw,bL om] at a
 have U:((2*r+1:Nat):Int)+1=((2*r+2:Nat):Int):=om
 have c:(first:Int)+(r:Int)=((first+r:Nat):Int):=om
 have l:(first:Int)+((2*r+1:Nat):Int)=((first+(2*r+1):Nat):Int):=om
 have J:(first:Int)+((2*r+2:Nat):Int)=((first+(2*r+2):Nat):Int):=om
 have a0:((first+(2*r+1):Nat):Int)+1=((first+(2*r+1)+1:Nat):Int):=om
 have sz:=A.size
 by_cases B:((2*r+2:Nat):Int)<(hi:Int)
 ·have Q:=bN B
  have p:=A.rd (i:=first+(2*r+1)) om
  have L:=A.rd (i:=first+(2*r+1)+1) om
  simp(disch:=omega)only[go_sem,Z,P,U,Q,l,a0,p,L]
  refine (jC A (i:=first+(2*r+1)) (j:=first+(2*r+1)+1) om om _ om).mono ?_
  rintro _ K ⟨z,rfl,n,Y⟩
  have G:Fr s K:=Fr.trans ((Fr.refl s).bH om) Y
  have q:=A.fr G
  have o:=q.rd (i:=first+r) om
  have p:=q.rd (i:=first+(2*r+1)) om
  have L:=q.rd (i:=first+(2*r+2)) om
  cases hl:bV.lt e[first+(2*r+1)]! e[first+(2*r+1)+1]! with
  |false=>
   have m:CO bV.lt hi first r e=2*r+1:=bL (by rw[hl];simp)
   rw[m] at a;simp(disch:=omega)only[go_sem,n,hl,c,l,o,p];refine (jC q (i:=first+r) (j:=first+(2*r+1)) om om _ om).mono ?_;rintro _ u ⟨z,rfl,n,k⟩;have t:Fr K u:=Fr.trans ((Fr.refl K).bH om) k;have b:=q.fr t;have o:=b.rd (i:=first+r) om;have p:=b.rd (i:=first+(2*r+1)) om;have w:=fS (fS F (Fx.of G)) (Fx.of t)
   cases hl2:bV.lt e[first+r]! e[first+(2*r+1)]! with
   |false=>
    rw[bL (by rw[hl2];simp)] at a;simp(disch:=omega)only[go_sem,n,hl2];rw[←a];exact⟨b,w⟩
   |true=>
    rw[bJ hl2] at a;simp(disch:=omega)only[go_sem,n,hl2,c,l,o,p,b.get,bW,bU];have W:=b.swap (i:=first+r) (j:=first+(2*r+1)) (nx:=u.next+24) om rfl;exact⟨hi-(2*r+1),om,2*r+1,_,aB rfl,om,W.1,a,fS w W.2,rfl⟩
  |true=>
   have m:CO bV.lt hi first r e=2*r+2:=bJ ⟨om,hl⟩
   rw[m] at a;simp(disch:=omega)only[go_sem,n,hl,U,c,J,o,L];refine (jC q (i:=first+r) (j:=first+(2*r+2)) om om _ om).mono ?_;rintro _ u ⟨z,rfl,n,k⟩;have t:Fr K u:=Fr.trans ((Fr.refl K).bH om) k;have b:=q.fr t;have o:=b.rd (i:=first+r) om;have L:=b.rd (i:=first+(2*r+2)) om;have w:=fS (fS F (Fx.of G)) (Fx.of t)
   cases hl2:bV.lt e[first+r]! e[first+(2*r+2)]! with
   |false=>
    rw[bL (by rw[hl2];simp)] at a;simp(disch:=omega)only[go_sem,n,hl2];rw[←a];exact⟨b,w⟩
   |true=>
    rw[bJ hl2] at a;simp(disch:=omega)only[go_sem,n,hl2,c,J,o,L,b.get,bW,bU];have W:=b.swap (i:=first+r) (j:=first+(2*r+2)) (nx:=u.next+24) om rfl;exact⟨hi-(2*r+2),om,2*r+2,_,aB rfl,om,W.1,a,fS w W.2,rfl⟩
 ·have Q:=bE B
  have m:CO bV.lt hi first r e=2*r+1:=bL om
  rw[m] at a
  have G:Fr s (H.mk s.tr (s.next+20)):=(Fr.refl s).bH om
  have q:=A.fr G
  have o:=A.rd (i:=first+r) om
  have p:=A.rd (i:=first+(2*r+1)) om
  simp(disch:=omega)only[go_sem,Z,P,U,Q,c,l,o,p]
  refine (jC A (i:=first+r) (j:=first+(2*r+1)) om om _ om).mono ?_
  rintro _ u ⟨z,rfl,n,k⟩
  have t:Fr s u:=Fr.trans ((Fr.refl s).bH om) k
  have b:=A.fr t
  have o:=b.rd (i:=first+r) om
  have p:=b.rd (i:=first+(2*r+1)) om
  have w:=fS F (Fx.of t)
  cases hl2:bV.lt e[first+r]! e[first+(2*r+1)]! with
  |false=>
   rw[bL (by rw[hl2];simp)] at a;simp(disch:=omega)only[go_sem,n,hl2];rw[←a];exact⟨b,w⟩
  |true=>
   rw[bJ hl2] at a;simp(disch:=omega)only[go_sem,n,hl2,c,l,o,p,b.get,bW,bU];have W:=b.swap (i:=first+r) (j:=first+(2*r+1)) (nx:=u.next+24) om rfl;exact⟨hi-(2*r+1),om,2*r+1,_,aB rfl,om,W.1,a,fS w W.2,rfl⟩
theorem Bg  {α:Type}[Inhabited α][O:bV α](h:H)(S N a b:Nat)(d:Array α)(s:pF)(z:N<1000000)(A:dK h S N d)(hb:b<=N)(a0:a<=b):
  Ev T 248 [.sl S 0 N s,aC a,aC b,.fn (bV.f α) [] []] h (λ_ h'=>dK h' S N (heapSort bV.lt d a b)/\Fx (· =S) h h'):=by
 refine cT gH rfl ?_
 obtain⟨n,P⟩:=exI (b-a)
 have Y:(b:Int)-(a:Int)=(n:Int):=om
 have G:((n:Int)- 1).tdiv 2=(((n- 1)/2+1:Nat):Int)- 1:=by
  by_cases Q:n=0
  ·subst Q;decide
  ·rw[Int.tdiv_eq_ediv_of_nonneg om];omega
 simp(disch:=omega)only[go_sem,gH,aD,Y,G]
 refine aI (λl c u=> ∃(k:Nat) (e:Array α),(∃g:Nat->V,c= [.sl S 0 N s,aC a,aC b,.fn (bV.f α) [] [],aC a,aC 0,aC n,aC ((k:Int)- 1),g 8,g 9,g 10])/\k<=n+1/\(k=1∨k<=n)/\dK u S N e/\heapBuild bV.lt n a k e=heapBuild bV.lt n a ((n- 1)/2+1) d/\Fx (· =S) h u/\l=k) ((n- 1)/2+1)
  ⟨(n- 1)/2+1,d,aB rfl,om,om,A,rfl,Fx.refl _ h,rfl⟩ ?_
 clear A
 rintro l c J ⟨k,e,⟨g,rfl⟩,t,x,A,w,F,y⟩
 subst y
 by_cases o:(0:Int)<=(l:Int)- 1
 ·have p:=bN o
  obtain⟨m,rfl⟩: ∃m,l=m+1:=⟨l- 1,om⟩
  have q:((m+1:Nat):Int)- 1=(m:Int):=om
  rw[q] at p
  rw[q]
  simp(disch:=omega)only[go_sem,p]
  refine (rM J S N m n a e s z A om om).mono ?_
  rintro _ B ⟨K,F2⟩
  simp(disch:=omega)only[go_sem]
  exact⟨m,om,m,_,aB rfl,om,om,K,w,fS F F2,rfl⟩
 have p:=bE o
 obtain rfl:l=0:=om
 have w:e=heapBuild bV.lt n a ((n- 1)/2+1) d:=w
 simp(disch:=omega)only[go_sem,p]
 refine aI (λl c u=> ∃(k:Nat) (r:Array α),(∃g:Nat->V,c= [.sl S 0 N s,aC a,aC b,.fn (bV.f α) [] [],aC a,aC 0,aC n,g 7,aC ((k:Int)- 1),g 9,g 10])/\k<=n/\dK u S N r/\heapPop bV.lt a k r=heapPop bV.lt a n e/\Fx (· =S) h u/\l=k) n
  ⟨n,e,aB rfl,om,A,rfl,F,rfl⟩ ?_
 clear A F o p t x
 rintro l c B ⟨k,r,⟨g,rfl⟩,t,A,v,F,y⟩
 subst y
 have sz:=A.size
 by_cases o:(0:Int)<=(l:Int)- 1
 ·have p:=bN o
  obtain⟨m,rfl⟩: ∃m,l=m+1:=⟨l- 1,om⟩
  have q:((m+1:Nat):Int)- 1=(m:Int):=om
  rw[q] at p
  rw[q]
  have Z:(a:Int)+(m:Int)=((a+m:Nat):Int):=om
  have U:=A.rd (i:=a+m) om
  have c2:=A.rd (i:=a) om
  simp(disch:=omega)only[go_sem,p,Z,U,c2,A.get,bW,bU]
  have W:=A.swap (i:=a) (j:=a+m) (nx:=B.next+20) om rfl
  have s0:=rM _ S N 0 m a _ s z W.1 om om
  refine s0.mono ?_
  rintro _ h3 ⟨L,R⟩
  simp(disch:=omega)only[go_sem]
  exact⟨m,om,m,_,aB rfl,om,L,v,fS (fS F W.2) R,rfl⟩
 have p:=bE o
 obtain rfl:l=0:=om
 simp(disch:=omega)only[go_sem,p]
 have v:r=heapPop bV.lt a n e:=v
 have:heapSort bV.lt d a b=r:=by unfold heapSort;rw[P,v,w]
 rw[this]
 exact⟨A,F⟩
theorem dK.LK  {α:Type}[Inhabited α][O:bV α]{h h':H}{S N R:Nat}{d:Array α}(A:dK h S N d)(f:Fx (· =R) h h')(b:R≠S)(a:bV.b0 α<=R):dK h' S N d:=⟨by rw[f.get S A.lt (λe=>b e.symm)];exact A.get,A.size,jB A.lt f.next,A.eqS,O.bR _ _ _ A.base a f,A.all⟩
theorem Et  {α:Type}[Inhabited α][O:bV α](h:H)(S N a b:Nat)(d:Array α)(o:pF)(w:N<1000000)(A:dK h S N d)(y:b<=N)(u:a<b):
  Ev T 251 [.sl S 0 N o,aC a,aC b,.fn (bV.f α) [] []] h (λ_ h'=>dK h' S N (reverseRange d a b)/\Fx (· =S) h h'):=by
 refine cT fG rfl ?_
 have v:(b:Int)- 1=((b- 1:Nat):Int):=om
 simp(disch:=omega)only[go_sem,fG,aD,v]
 refine aI (λc k p=> ∃(i j:Nat) (e:Array α),(∃g:Nat->V,k= [.sl S 0 N o,aC a,aC b,aC i,aC j,g 5])/\j<b/\i<=b/\dK p S N e/\reverseLoop i j e=reverseLoop a (b- 1) d/\Fx (· =S) h p/\c=j) (b- 1)
  ⟨a,b- 1,d,aB rfl,om,om,A,rfl,Fx.refl _ h,rfl⟩ ?_
 clear A
 rintro c k s ⟨i,j,e,⟨g,rfl⟩,x,hi,A,l,F,q⟩
 subst q
 have sz:=A.size
 rw[reverseLoop] at l
 by_cases m:(i:Int)<(c:Int)
 ·have n:=bN m
  rw[bJ om] at l
  have t:=A.rd (i:=i) om
  have r:=A.rd (i:=c) om
  simp(disch:=omega)only[go_sem,n,t,r,A.get,bW,bU]
  have W:=A.swap (i:=i) (j:=c) (nx:=s.next+16) om rfl
  rw[show (i:Int)+1=((i+1:Nat):Int) from om,show (c:Int)- 1=((c- 1:Nat):Int) from om]
  exact⟨c- 1,om,i+1,c- 1,_,aB rfl,om,om,W.1,l,fS F W.2,rfl⟩
 have n:=bE m
 rw[bL om] at l
 simp(disch:=omega)only[go_sem,n]
 unfold reverseRange
 rw[←l]
 exact⟨A,F⟩
theorem Ou (n:Nat){k:Int}{m:Nat}(a:k=(m:Int)):(n:Int).tdiv k=((n/m:Nat):Int):=by
 rw[a,Int.tdiv_eq_ediv_of_nonneg om];rfl
theorem Qc  {α:Type}[Inhabited α][O:bV α](h:H)(S N a b:Nat)(d:Array α)(cp:pF)(hN:N<60000)(A:dK h S N d)(hb:b<=N)(a2:a<=b):
  Ev T 249 [.sl S 0 N cp,aC a,aC b,.fn (bV.f α) [] []] h (λ_ h'=> ∃e,dK h' S N e/\PermIn a b d e/\Fx (· =S) h h'):=by
 refine cT dJ rfl ?_
 obtain⟨n,hn⟩:=exI (b-a)
 have en:(b:Int)-(a:Int)=(n:Int):=om
 by_cases h8:(8:Int)<=(n:Int)
 case neg=>
  have e8:=bE h8;simp(disch:=omega)only[go_sem,dJ,aD,en,e8];exact⟨d,A,permIn_refl d a b,Fx.refl _ h⟩
 have e8:=bN h8
 have K:=Ou n (k:=4) (m:=4) rfl
 obtain⟨q,hq⟩:=exI (n/4)
 rw[hq] at K
 have ei:(a:Int)+(q:Int)*2- 1=((a+q*2- 1:Nat):Int):=om
 have ej:(a:Int)+(q:Int)*2+1=((a+q*2+1:Nat):Int):=om
 have hp:=two_pow_bitsLen_le (show 0<n by omega)
 have Y:=lt_two_pow_bitsLen n
 obtain⟨m,hm⟩:=exI (2^bitsLen n)
 rw[hm] at hp Y
 obtain⟨R,hR⟩:=exI h.next
 have a1:R≠S:=by have:=A.lt;omega
 have a0:bV.b0 α<=R:=by have:=O.bn _ A.base;omega
 have U: ∀c:H,dR (aY [.int .u64 0]) c R 0 [.int .u64 (n:Int)]=some (c.set R (aY [.int .u64 (n:Int)])):=λc=>bP (by simp) c R _
 have B:(h.new (.cells false [.int .u64 0])).get R=aY [.int .u64 0]:=by rw[←hR,H.aL]
 simp(disch:=omega)only[go_sem,dJ,aD,en,e8,hR,eS (n:=(n:Int)) om om,B,U]
 obtain⟨p,l⟩: ∃p,p=(h.new (.cells false [.int .u64 0])).set R (aY [.int .u64 (n:Int)]):=⟨_,rfl⟩
 rw[←l]
 have g1:p.get R=aY [.int .u64 (n:Int)]:=by rw[l,H.aS]
 have n1:p.next=R+1:=by rw[l,H.cH,H.aU,hR]
 have f1:Fr h p:=by rw[l];exact ((Fr.refl h).new _).set om _
 clear l
 refine (JJ n p om).mono ?_
 rintro _ a3 ⟨rfl,c⟩
 rw[c,hm]
 simp(disch:=omega)only[go_sem,K,ei]
 refine aI (λk' r c=> ∃(i:Nat) (e:Array α) (x:Int),(∃g:Nat->V,r= [.sl S 0 N cp,aC a,aC b,aC n,.ptr R 0,.int .u64 (m:Int),aC i,g 7,g 8,g 9,g 10])/\a<=i/\i<=a+q*2+2/\dK c S N e/\PermIn a b d e/\c.get R=aY [.int .u64 x]/\R<c.next/\Fx (· =S) h c/\k'=a+q*2+2-i) (a+q*2+2-(a+q*2- 1))
  ⟨a+q*2- 1,d,_,aB rfl,om,om,A.fr f1,permIn_refl d a b,g1,om,Fx.of f1,rfl⟩ ?_
 clear A g1 n1 f1 c p
 rintro k' r p ⟨i,e,x,⟨g,rfl⟩,s,a4,A,hP,gR,nR,F,rfl⟩
 by_cases u:(i:Int)<=((a+q*2+1:Nat):Int)
 case neg=>
  have P:=bE u;simp(disch:=omega)only[go_sem,K,ej,P];exact⟨e,A,hP,F⟩
 have P:=bN u
 simp(disch:=omega)only[go_sem,K,ej,P]
 refine (IJ R x p gR nR).mono ?_
 rintro _ J ⟨y,rfl,t,F2⟩
 have o:=A.LK F2 a1 a0
 obtain⟨w,hw,a5⟩:=GN y (m- 1) om
 have em:(m:Int)- 1=((m- 1:Nat):Int):=om
 have sz:=o.size
 have v:Fx (· =S) h J:=⟨lX F.next F2.next,λid h3 h4=>(F2.get id (jB h3 F.next) (λe=>by have:id=R:=e;omega)).trans (F.get id h3 h4)⟩
 have G:R<J.next:=jB nR F2.next
 by_cases z:(n:Int)<=(w:Int)
 ·have L:=bN z
  have e3:(w:Int)-(n:Int)=((w-n:Nat):Int):=om
  have Q:(a:Int)+((w-n:Nat):Int)=((a+(w-n):Nat):Int):=om
  have c1:=o.rd (i:=i) om
  have Z:=o.rd (i:=a+(w-n)) om
  simp(disch:=omega)only[go_sem,em,eS (n:=((m- 1:Nat):Int)) om om,hw,L,e3,Q,c1,Z,o.get,bW,bU]
  have W:=o.swap (i:=i) (j:=a+(w-n)) (nx:=J.next+20) om rfl
  rw[dU i]
  refine⟨a+q*2+2-(i+1),om,i+1,_,y,aB rfl,om,om,W.1,permIn_trans _ _ _ a b hP (swp_permIn e a b i (a+(w-n)) s om om om om),?_,jB G W.2.next,fS v W.2,rfl⟩
  exact t
 ·have L:=bE z
  have Q:(a:Int)+(w:Int)=((a+w:Nat):Int):=om
  have c1:=o.rd (i:=i) om
  have Z:=o.rd (i:=a+w) om
  simp(disch:=omega)only[go_sem,em,eS (n:=((m- 1:Nat):Int)) om om,hw,L,Q,c1,Z,o.get,bW,bU]
  have W:=o.swap (i:=i) (j:=a+w) (nx:=J.next+20) om rfl
  rw[dU i]
  refine⟨a+q*2+2-(i+1),om,i+1,_,y,aB rfl,om,om,W.1,permIn_trans _ _ _ a b hP (swp_permIn e a b i (a+w) s om om om om),?_,jB G W.2.next,fS v W.2,rfl⟩
  exact t
structure FW (h h':H)(R:Nat):Prop where
 get: ∃s,h'.get R=aY [aC s]
 fx:Fx (· =R) h h'
theorem FW.trans {a b c:H}{R:Nat}(x:FW a b R)(y:FW b c R):FW a c R:=⟨y.get,x.fx.trans y.fx λ_ _ h=>h⟩
theorem qE  {α:Type}[Inhabited α][O:bV α](h:H)(S N a b R:Nat)(d:Array α)(q:pF)(x:N<1000000)(A:dK h S N d)(F:a<N)(y:b<N)(B:R≠S)(k:R<h.next)(p:bV.b0 α<=R)(s:Int)(t:h.get R=aY [aC s]):
  Ev T 264 [.sl S 0 N q,aC a,aC b,.ptr R 0,.fn (bV.f α) [] []] h (λv h'=>(v= .tup [aC a,aC b]∨v= .tup [aC b,aC a])/\FW h h' R):=by
 refine cT gX rfl ?_
 have r:=A.rd (i:=a) om
 have u:=A.rd (i:=b) om
 simp(disch:=omega)only[go_sem,gX,aD,r,u]
 refine (jC A (i:=b) (j:=a) om om _ om).mono ?_
 rintro _ e ⟨z,rfl,n,m⟩
 have l:Fr h e:=Fr.trans ((Fr.refl h).bH om) m
 have c:e.get R=aY [aC s]:=by rw[l.get R k];exact t
 cases hl:bV.lt d[b]! d[a]! with
 |false=>
  simp(disch:=omega)only[go_sem,n,hl];exact⟨.inl trivial,⟨s,c⟩,Fx.of l⟩
 |true=>
  have cR:e.cell R 0=some (aC s):=by rw[H.aF c];rfl
  have o: ∀(w:Int) (g:H),dR (aY [aC s]) g R 0 [aC w]=some (g.set R (aY [aC w])):=λw g=>bP (by simp) g R _
  simp(disch:=omega)only[go_sem,n,hl,cR,c,o];exact⟨.inr trivial,⟨_,by rw[H.aS]⟩,(Fx.of (W:=(· =R)) l).trans (Fx.set e (W:=(· =R)) rfl _) (λ_ _ h=>h)⟩
theorem wM  {α:Type}[Inhabited α][O:bV α](h:H)(S N a b c R:Nat)(d:Array α)(o:pF)(w:N<1000000)(A:dK h S N d)(z:a<N)(q:b<N)(G:c<N)(j:R≠S)(i:R<h.next)(e:bV.b0 α<=R)(s:Int)(gR:h.get R=aY [aC s]):
  Ev T 262 [.sl S 0 N o,aC a,aC b,aC c,.ptr R 0,.fn (bV.f α) [] []] h (λv h'=>(∃m,v= aC (m:Nat)/\(m=a∨m=b∨m=c))/\FW h h' R):=by
 refine cT gU rfl ?_
 simp(disch:=omega)only[go_sem,gU,aD]
 refine (qE h S N a b R d o w A z q j i e s gR).mono ?_
 rintro U Y ⟨r,n⟩
 obtain⟨F,k,rfl,t,g,Q⟩: ∃x y,U= .tup [aC (x:Nat),aC (y:Nat)]/\x<N/\y<N/\((x=a∨x=b)/\(y=a∨y=b)):=by
  rcases r with rfl|rfl
  ·exact⟨a,b,rfl,z,q,.inl rfl,.inr rfl⟩
  ·exact⟨b,a,rfl,q,z,.inr rfl,.inl rfl⟩
 have J:=A.LK n.fx j e
 obtain⟨s1,g1⟩:=n.get
 have P:=jB i n.fx.next
 simp(disch:=omega)only[go_sem]
 refine (qE Y S N k c R d o w J g G j P e s1 g1).mono ?_
 rintro v2 h2 ⟨u,l⟩
 obtain⟨K,y2,rfl,p,L⟩: ∃x y,v2= .tup [aC (x:Nat),aC (y:Nat)]/\x<N/\(x=k∨x=c):=by
  rcases u with rfl|rfl
  ·exact⟨k,c,rfl,g,.inl rfl⟩
  ·exact⟨c,k,rfl,G,.inr rfl⟩
 have Z:=J.LK l.fx j e
 obtain⟨s2,g2⟩:=l.get
 have n2:=jB P l.fx.next
 simp(disch:=omega)only[go_sem]
 refine (qE h2 S N F K R d o w Z t p j n2 e s2 g2).mono ?_
 rintro v3 h3 ⟨B,W⟩
 have C:=(n.trans l).trans W
 rcases B with rfl|rfl
 ·simp(disch:=omega)only[go_sem]
  exact⟨⟨K,rfl,om⟩,C⟩
 ·simp(disch:=omega)only[go_sem]
  exact⟨⟨F,rfl,om⟩,C⟩
theorem mS  {α:Type}[Inhabited α][O:bV α](h:H)(S N a R:Nat)(d:Array α)(e:pF)(j:N<1000000)(A:dK h S N d)(p:0<a)(o:a+1<N)(g:R≠S)(c:R<h.next)(b:bV.b0 α<=R)(s:Int)(k:h.get R=aY [aC s]):
  Ev T 261 [.sl S 0 N e,aC a,.ptr R 0,.fn (bV.f α) [] []] h (λv h'=>(∃m,v= aC (m:Nat)/\(m=a- 1∨m=a∨m=a+1))/\FW h h' R):=by
 refine cT eX rfl ?_
 have n:(a:Int)- 1=((a- 1:Nat):Int):=om
 have l:(a:Int)+1=((a+1:Nat):Int):=om
 simp(disch:=omega)only[go_sem,eX,aD,n,l]
 refine (wM h S N (a- 1) a (a+1) R d e j A om om om g c b s k).mono ?_
 rintro _ q ⟨⟨m,rfl,i⟩,C⟩
 simp(disch:=omega)only[go_sem]
 exact⟨⟨m,rfl,i⟩,C⟩
theorem Ov  {α:Type}[Inhabited α][O:bV α](h:H)(S N a b:Nat)(d:Array α)(G:pF)(W:N<1000000)(A:dK h S N d)(hb:b<=N)(a1:a<b):
  Ev T 250 [.sl S 0 N G,aC a,aC b,.fn (bV.f α) [] []] h (λv h'=> ∃(p:Nat) (t:Int),v= .tup [aC p,aC t]/\a<=p/\p<b/\Fr h h'):=by
 refine cT cV rfl ?_
 obtain⟨n,hn⟩:=exI (b-a)
 have en:(b:Int)-(a:Int)=(n:Int):=om
 have Z:=Ou n (k:=4) (m:=4) rfl
 obtain⟨q,hq⟩:=exI (n/4)
 rw[hq] at Z
 have ei:(a:Int)+(q:Int)*1=((a+q:Nat):Int):=om
 have ej:(a:Int)+(q:Int)*2=((a+q*2:Nat):Int):=om
 have ek:(a:Int)+(q:Int)*3=((a+q*3:Nat):Int):=om
 obtain⟨R,P⟩:=exI h.next
 have g:R≠S:=by have:=A.lt;omega
 have c:bV.b0 α<=R:=by have:=O.bn _ A.base;omega
 obtain⟨r,l⟩: ∃r,r=h.new (.cells false [aC 0]):=⟨_,rfl⟩
 have g1:r.get R=aY [aC 0]:=by rw[l,←P,H.aL]
 have n1:r.next=R+1:=by rw[l,H.aU,P]
 have f1:Fr h r:=by rw[l];exact (Fr.refl h).new _
 have A1:=A.fr f1
 have L: ∀(p:Nat) (o:H),a<=p->p<b->Fx (· =R) r o->a<=p/\p<b/\Fr h o:=λp o x1 x2 x3=>⟨x1,x2,lX f1.next x3.next,λid a0=>(x3.get id om (λe=>by have:id=R:=e;omega)).trans (f1.get id a0)⟩
 by_cases h8:(8:Int)<=(n:Int)
 case neg=>
  have Y:=bE h8;simp(disch:=omega)only[go_sem,cV,aD,en,Z,ei,ej,ek,Y];rw[←l];have cR:r.cell R 0=some (aC 0):=by rw[H.aF g1];rfl
  simp(disch:=omega)only[go_sem,P,cR];refine bA (λ_=>?_) (λhc=>(hc (by trivial)).elim);simp(disch:=omega)only[go_sem];exact⟨a+q*2,1,rfl,L _ _ om om (Fx.refl _ _)⟩
 have Y:=bN h8
 have u: ∀(i j k:Nat) (o:H) (K:Int),a<=i->i<b->a<=j->j<b->a<=k->k<b->dK o S N d->o.get R=aY [aC K]->R<o.next->Fx (· =R) r o->
   Ev T 262 [.sl S 0 N G,aC i,aC j,aC k,.ptr R 0,.fn (bV.f α) [] []] o (λv h'=> ∃p s,v= aC (p:Nat)/\a<=p/\p<b/\h'.get R=aY [aC s]/\Fr h h'):=by
  intro i j k o K i1 i2 j1 j2 k1 k2 U g2 n2 F2
  refine (wM o S N i j k R d G W U om om om g n2 c K g2).mono ?_
  rintro _ y ⟨⟨p,rfl,hp⟩,⟨s,B⟩,Q⟩
  exact⟨p,s,rfl,om,om,B,(L p y om om (F2.trans Q λ_ _ h=>h)).2.2⟩
 by_cases J:(50:Int)<=(n:Int)
 case neg=>
  have z:=bE J;simp(disch:=omega)only[go_sem,cV,aD,en,Z,ei,ej,ek,Y,z];rw[←l];simp(disch:=omega)only[go_sem,P];refine (u (a+q) (a+q*2) (a+q*3) r 0 om om om om om om A1 g1 om (Fx.refl _ _)).mono ?_;rintro _ y ⟨p,s,rfl,x,F,B,w⟩;have cR:y.cell R 0=some (aC s):=by rw[H.aF B];rfl
  simp(disch:=omega)only[go_sem,cR];refine bA (λ_=>?_) (λ_=>?_)
  ·simp(disch:=omega)only[go_sem]
   exact⟨p,1,rfl,x,F,w⟩
  ·simp(disch:=omega)only[go_sem]
   refine bA (λ_=>?_) (λ_=>?_)
   ·simp(disch:=omega)only[go_sem]
    exact⟨p,2,rfl,x,F,w⟩
   ·simp(disch:=omega)only[go_sem]
    exact⟨p,0,rfl,x,F,w⟩
 have z:=bN J
 simp(disch:=omega)only[go_sem,cV,aD,en,Z,ei,ej,ek,Y,z]
 rw[←l]
 simp(disch:=omega)only[go_sem,P]
 refine (mS r S N (a+q) R d G W A1 om om g om c 0 g1).mono ?_
 rintro _ o ⟨⟨i,rfl,hi⟩,⟨K,g2⟩,F2⟩
 have U:=A1.LK F2 g c
 have n2:=F2.next
 simp(disch:=omega)only[go_sem]
 refine (mS o S N (a+q*2) R d G W U om om g om c K g2).mono ?_
 rintro _ y ⟨⟨j,rfl,hj⟩,⟨s,B⟩,Q⟩
 have A3:=U.LK Q g c
 have n3:=Q.next
 simp(disch:=omega)only[go_sem]
 refine (mS y S N (a+q*3) R d G W A3 om om g om c s B).mono ?_
 rintro _ h4 ⟨⟨k,rfl,hk⟩,⟨s4,g4⟩,F4⟩
 have A4:=A3.LK F4 g c
 have n4:=F4.next
 simp(disch:=omega)only[go_sem]
 refine (u i j k h4 s4 om om om om om om A4 g4 om ((F2.trans Q λ_ _ h=>h).trans F4 λ_ _ h=>h)).mono ?_
 rintro _ y ⟨p,s,rfl,x,F,B,w⟩
 have cR:y.cell R 0=some (aC s):=by rw[H.aF B];rfl
 simp(disch:=omega)only[go_sem,cR]
 refine bA (λ_=>?_) (λ_=>?_)
 ·simp(disch:=omega)only[go_sem]
  exact⟨p,1,rfl,x,F,w⟩
 ·simp(disch:=omega)only[go_sem]
  refine bA (λ_=>?_) (λ_=>?_)
  ·simp(disch:=omega)only[go_sem]
   exact⟨p,2,rfl,x,F,w⟩
  ·simp(disch:=omega)only[go_sem]
   exact⟨p,0,rfl,x,F,w⟩
section
variable {j b:Nat}
theorem UA {α:Type}[Inhabited α]{lt:α->α->Bool}{d:Array α}(h:lt d[j+1]! d[j]! =true):shiftDown lt (j+1) d=shiftDown lt j (swp d (j+1) j):=by rw[shiftDown,bL (by simp [h])]
theorem QH {α:Type}[Inhabited α]{lt:α->α->Bool}{d:Array α}(h:lt d[j+1]! d[j]! =false):shiftDown lt (j+1) d=d:=by rw[shiftDown,bJ (by simp [h])]
theorem WV {α:Type}[Inhabited α]{lt:α->α->Bool}{d:Array α}(a:j<b)(h:lt d[j]! d[j- 1]! =true):shiftUp lt b j d=shiftUp lt b (j+1) (swp d j (j- 1)):=by rw[shiftUp,bJ a,bL (by simp [h])]
theorem UD {α:Type}[Inhabited α]{lt:α->α->Bool}{d:Array α}(a:j<b)(h:lt d[j]! d[j- 1]! =false):shiftUp lt b j d=d:=by rw[shiftUp,bJ a,bJ (by simp [h])]
theorem UY {α:Type}[Inhabited α]{lt:α->α->Bool}{i:Nat}{d:Array α}(hi:i<b)(h:lt d[i]! d[i- 1]! =false):scanSorted lt d b i=scanSorted lt d b (i+1):=by rw[scanSorted,bJ (by simp [h,hi])]
theorem Yf {α:Type}[Inhabited α]{lt:α->α->Bool}{i:Nat}{d:Array α}(h: ¬(i<b/\lt d[i]! d[i- 1]! =false)):scanSorted lt d b i=i:=by rw[scanSorted,bL (by simpa using h)]
theorem Wn {α:Type}[Inhabited α](lt:α->α->Bool)(a b s i:Nat)(d:Array α):partialIns lt a b (s+1) i d=if scanSorted lt d b i=b then (d,true) else if b-a<50 then (d,false) else
  partialIns lt a b s (scanSorted lt d b i) (if b-scanSorted lt d b i≥2 then shiftUp lt b (scanSorted lt d b i+1) (if scanSorted lt d b i-a≥2 then shiftDown lt (scanSorted lt d b i- 1) (swp d (scanSorted lt d b i) (scanSorted lt d b i- 1)) else swp d (scanSorted lt d b i) (scanSorted lt d b i- 1)) else
   (if scanSorted lt d b i-a≥2 then shiftDown lt (scanSorted lt d b i- 1) (swp d (scanSorted lt d b i) (scanSorted lt d b i- 1)) else swp d (scanSorted lt d b i) (scanSorted lt d b i- 1))):=by rw[partialIns]
theorem Dy {α:Type}[Inhabited α][O:bV α](h:H)(S N a b:Nat)(d:Array α)(cp:pF)(hN:N<1000000)(A:dK h S N d)(hb:b<=N)(b7:a<b):
  Ev T 252 [.sl S 0 N cp,aC a,aC b,.fn (bV.f α) [] []] h (λv h'=>v= .bool (partialInsertionSort bV.lt d a b).2/\dK h' S N (partialInsertionSort bV.lt d a b).1/\Fx (· =S) h h'):=by
 refine cT dS rfl ?_
 simp(disch:=omega)only[go_sem,dS,aD]
 rw[dU a]
 refine aI (λk c t=> ∃(s i:Nat) (e:Array α),(∃g:Nat->V,c= [.sl S 0 N cp,aC a,aC b,.fn (bV.f α) [] [],g 4,aC i,aC (5-(s:Int)),g 7,g 8,g 9,g 10,g 11,g 12,g 13,g 14,g 15,g 16,g 17,g 18])/\s<=5/\a<i/\i<=b/\dK t S N e/\partialIns bV.lt a b s i e=partialInsertionSort bV.lt d a b/\Fx (· =S) h t/\k=s) 5
  ⟨5,a+1,d,aB rfl,om,om,om,A,rfl,Fx.refl _ h,rfl⟩ ?_
 clear A
 rintro k c U ⟨s,i,e,⟨g,rfl⟩,hs,a9,b2,A,l,F,hk⟩
 subst hk
 by_cases L:(5:Int)-(k:Int)<5
 case neg=>
  have n:=bE L;obtain rfl:k=0:=om
  simp(disch:=omega)only[go_sem,n];have l:(e,false)=partialInsertionSort bV.lt d a b:=l;rw[←l];exact⟨rfl,A,F⟩
 have n:=bN L
 obtain⟨s,rfl⟩: ∃s,k=s+1:=⟨k- 1,om⟩
 simp(disch:=omega)only[go_sem,n]
 rw[Wn] at l
 refine aI (λk c t=> ∃(m:Nat),(∃g:Nat->V,c= [.sl S 0 N cp,aC a,aC b,.fn (bV.f α) [] [],g 4,aC m,aC (5-((s+1:Nat):Int)),g 7,g 8,g 9,g 10,g 11,g 12,g 13,g 14,g 15,g 16,g 17,g 18])/\a<m/\m<=b/\dK t S N e/\scanSorted bV.lt e b m=scanSorted bV.lt e b i/\Fx (· =S) h t/\k=b-m) (b-i)
  ⟨i,aB rfl,a9,b2,A,rfl,F,rfl⟩ ?_
 clear A F L n
 rintro k c y ⟨m,⟨g,rfl⟩,b6,b5,A,hS,F,rfl⟩
 have sz:=A.size
 have R:(m:Int)- 1=((m- 1:Nat):Int):=om
 have a2:(m:Int)+1=((m+1:Nat):Int):=om
 by_cases a8:(m:Int)<(b:Int)
 case neg=>
  have n:=bE a8;have em:m=b:=om
  rw[Yf om] at hS;rw[←hS,bJ em] at l;have e2:decide ((m:Int)=(b:Int))=true:=bN om;simp(disch:=omega)only[go_sem,n,e2];rw[←l];exact⟨rfl,A.fr ((Fr.refl y).bH om),fS F (Fx.of ((Fr.refl y).bH om))⟩
 have n:=bN a8
 have r:=A.rd (i:=m) om
 have o:=A.rd (i:=m- 1) om
 simp(disch:=omega)only[go_sem,n,R,r,o]
 refine (jC A (i:=m) (j:=m- 1) om om _ om).mono ?_
 rintro _ h3 ⟨z,rfl,w,a1⟩
 have J:Fr y h3:=Fr.trans ((Fr.refl y).bH om) a1
 have Q:=A.fr J
 have F3:=fS F (Fx.of J)
 cases hl:bV.lt e[m]! e[m- 1]! with
 |false=>
  rw[UY om hl] at hS;simp(disch:=omega)only[go_sem,w,hl,a2];exact⟨b-(m+1),om,m+1,aB rfl,om,om,Q,hS,F3,rfl⟩
 |true=>
  rw[Yf (by rw[hl];simp)] at hS;rw[←hS,bL om] at l;have e2:decide ((m:Int)=(b:Int))=false:=bE om
  by_cases a3:(b:Int)-(a:Int)<50
  ·have K:=bN a3
   rw[bJ om] at l;simp(disch:=omega)only[go_sem,w,hl,e2,K];rw[←l];exact⟨rfl,Q,F3⟩
  have K:=bE a3;rw[bL om] at l;have r:=Q.rd (i:=m) om;have o:=Q.rd (i:=m- 1) om;simp(disch:=omega)only[go_sem,w,hl,e2,K,R,r,o,Q.get,bW,bU];have W:=Q.swap (i:=m) (j:=m- 1) (nx:=h3.next+18) om rfl
  obtain⟨h4,a7⟩: ∃h4,h4=((H.mk h3.tr (h3.next+18)).set S (aY (flat (e.setIfInBounds m e[m- 1]!).toList))).set S (aY (flat ((e.setIfInBounds m e[m- 1]!).setIfInBounds (m- 1) e[m]!).toList)):=⟨_,rfl⟩
  rw[←a7] at W ⊢;obtain⟨A4,F4⟩:=W;have B:=fS F3 F4;clear a7 F4 Q F3 J a1 r o;obtain⟨e4,a0⟩:=exI (swp e m (m- 1));rw[a0] at A4 l;refine mZ (λvs Z=> ∃Y,(∃g:Nat->V,vs= [.sl S 0 N cp,aC a,aC b,.fn (bV.f α) [] [],g 4,aC m,aC (5-((s+1:Nat):Int)),g 7,g 8,g 9,g 10,g 11,g 12,g 13,g 14,g 15,g 16,g 17,g 18])/\dK Z S N Y/\Y=(if m-a≥2 then shiftDown bV.lt (m- 1) e4 else e4)/\Fx (· =S) h Z) ?_ ?_
  ·refine bA (λy=>?_) (λy=>?_)
   ·simp(disch:=omega)only[go_sem,R]
    refine aI (λk c t=> ∃(j:Nat) (x:Array α),(∃g:Nat->V,c= [.sl S 0 N cp,aC a,aC b,.fn (bV.f α) [] [],g 4,aC m,aC (5-((s+1:Nat):Int)),aC j,g 8,g 9,g 10,g 11,g 12,g 13,g 14,g 15,g 16,g 17,g 18])/\j<b/\dK t S N x/\shiftDown bV.lt j x=shiftDown bV.lt (m- 1) e4/\Fx (· =S) h t/\k=j) (m- 1)
     ⟨m- 1,e4,aB rfl,om,A4,rfl,B,rfl⟩ ?_
    rintro k c Z ⟨j,x,⟨g,rfl⟩,hj,u,P,F5,hk⟩;subst hk;have b8:=u.size
    by_cases U:(1:Int)<=(k:Int)
    ·have n:=bN U
     obtain⟨q,rfl⟩: ∃q,k=q+1:=⟨k- 1,om⟩
     have a6:((q+1:Nat):Int)- 1=(q:Int):=om
     have r:=u.rd (i:=q+1) om;have o:=u.rd (i:=q) om;simp(disch:=omega)only[go_sem,n,a6,r,o];refine (jC u (i:=q+1) (j:=q) om om _ om).mono ?_;rintro _ h6 ⟨z,rfl,w,b0⟩;have f6:Fr Z h6:=Fr.trans ((Fr.refl Z).bH om) b0;have p:=u.fr f6;have F6:=fS F5 (Fx.of f6)
     cases hl:bV.lt x[q+1]! x[q]! with
     |false=>
      rw[QH hl] at P;simp(disch:=omega)only[go_sem,w,hl];exact .inl ⟨x,aB rfl,p,by rw[bJ om,←P],F6⟩
     |true=>
      rw[UA hl] at P;have r:=p.rd (i:=q+1) om;have o:=p.rd (i:=q) om;simp(disch:=omega)only[go_sem,w,hl,a6,r,o,p.get,bW,bU];have W:=p.swap (i:=q+1) (j:=q) (nx:=h6.next+18) om rfl;exact⟨q,om,q,_,aB rfl,om,W.1,P,fS F6 W.2,rfl⟩
    ·have n:=bE U
     obtain rfl:k=0:=om
     simp(disch:=omega)only[go_sem,n];have P:x=shiftDown bV.lt (m- 1) e4:=P;exact .inl ⟨x,aB rfl,u,by rw[bJ om,←P],F5⟩
   ·simp(disch:=omega)only[go_sem]
    exact .inl ⟨e4,aB rfl,A4,by rw[bL om],B⟩
  ·rintro c Z ⟨Y,⟨g,rfl⟩,u,a4,F5⟩
   rw[←a4] at l;clear A4 B a4 a0;simp(disch:=omega)only[go_sem];have G:(5:Int)-((s+1:Nat):Int)+1=5-(s:Int):=om
   refine bA (λy=>?_) (λy=>?_)
   ·rw[bJ om] at l
    simp(disch:=omega)only[go_sem,a2];refine aI (λk c t=> ∃(j:Nat) (x:Array α),(∃g:Nat->V,c= [.sl S 0 N cp,aC a,aC b,.fn (bV.f α) [] [],g 4,aC m,aC (5-((s+1:Nat):Int)),g 7,aC j,g 9,g 10,g 11,g 12,g 13,g 14,g 15,g 16,g 17,g 18])/\0<j/\j<=b/\dK t S N x/\shiftUp bV.lt b j x=shiftUp bV.lt b (m+1) Y/\Fx (· =S) h t/\k=b-j) (b-(m+1))
     ⟨m+1,Y,aB rfl,om,om,u,rfl,F5,rfl⟩ ?_
    rintro k c h6 ⟨j,x,⟨g,rfl⟩,b9,hj,p,hU,F6,rfl⟩;have b4:=p.size
    by_cases U:(j:Int)<(b:Int)
    ·have n:=bN U
     have a5:(j:Int)- 1=((j- 1:Nat):Int):=om
     have b1:(j:Int)+1=((j+1:Nat):Int):=om
     have r:=p.rd (i:=j) om;have o:=p.rd (i:=j- 1) om;simp(disch:=omega)only[go_sem,n,a5,r,o];refine (jC p (i:=j) (j:=j- 1) om om _ om).mono ?_;rintro _ h7 ⟨z,rfl,w,b3⟩;have f7:Fr h6 h7:=Fr.trans ((Fr.refl h6).bH om) b3;have A7:=p.fr f7;have F7:=fS F6 (Fx.of f7)
     cases hl:bV.lt x[j]! x[j- 1]! with
     |false=>
      rw[UD om hl] at hU;rw[←hU] at l;simp(disch:=omega)only[go_sem,w,hl,G];exact⟨s,om,s,m,x,aB rfl,om,om,om,A7,l,F7,rfl⟩
     |true=>
      rw[WV om hl] at hU;have r:=A7.rd (i:=j) om;have o:=A7.rd (i:=j- 1) om;simp(disch:=omega)only[go_sem,w,hl,a5,b1,r,o,A7.get,bW,bU];have W:=A7.swap (i:=j) (j:=j- 1) (nx:=h7.next+18) om rfl;exact⟨b-(j+1),om,j+1,_,aB rfl,om,om,W.1,hU,fS F7 W.2,rfl⟩
    ·have n:=bE U
     rw[shiftUp,bL om] at hU;rw[←hU] at l;simp(disch:=omega)only[go_sem,n,G];exact⟨s,om,s,m,x,aB rfl,om,om,om,p,l,F6,rfl⟩
   ·rw[bL om] at l
    simp(disch:=omega)only[go_sem,G];exact⟨s,om,s,m,Y,aB rfl,om,om,om,u,l,F5,rfl⟩
end
section
variable {j i:Nat}
theorem Ez {α:Type}[Inhabited α]{p:α->Bool}{d:Array α}(a:i<=j)(h2:p d[i]! =true):scanUp p d j i=scanUp p d j (i+1):=by rw[scanUp,bJ (by simp [a,h2])]
theorem qV {α:Type}[Inhabited α]{p:α->Bool}{d:Array α}(h: ¬(i<=j/\p d[i]! =true)):scanUp p d j i=i:=by rw[scanUp,bL (by simpa using h)]
theorem Pw {α:Type}[Inhabited α]{p:α->Bool}{d:Array α}(a:i<=j+1)(h2:p d[j+1]! =true):scanDown p d i (j+1)=scanDown p d i j:=by rw[scanDown,bJ (by simp [a,h2])]
theorem xF {α:Type}[Inhabited α]{p:α->Bool}{d:Array α}(h: ¬(i<=j/\p d[j]! =true)):scanDown p d i j=j:=by
 cases j with
 |zero=>rfl
 |succ j=>rw[scanDown,bL (by simpa using h)]
theorem pP {α:Type}[Inhabited α](p:α->Bool)(d:Array α)(j i:Nat):scanUp p d j i<=max i (j+1):=by
 obtain⟨n,a⟩:=exI (j+1-i)
 induction n generalizing i with
 |zero=>rw[qV (λh=>by have:=h.1;omega)];omega
 |succ n ih=>
  by_cases h:i<=j/\p d[i]! =true
  ·rw[Ez h.1 h.2]
   have:=ih (i+1) om;omega
  ·rw[qV h];omega
theorem yP {α:Type}[Inhabited α][O:bV α](h:H)(S N a b pv:Nat)(d:Array α)(cp:pF)(hN:N<1000000)(A:dK h S N d)(hb:b<=N)(b8:a<=pv)(c3:pv<b):
  Ev T 254 [.sl S 0 N cp,aC a,aC b,aC pv,.fn (bV.f α) [] []] h (λv h'=>v= .tup [aC ((partition bV.lt d a b pv).1:Nat),.bool (partition bV.lt d a b pv).2.1]/\dK h' S N (partition bV.lt d a b pv).2.2/\Fx (· =S) h h'):=by
 refine cT fT rfl ?_
 have sz:=A.size
 have Q:=A.rd (i:=a) om
 have P:=A.rd (i:=pv) om
 simp(disch:=omega)only[go_sem,fT,aD,Q,P,A.get,bW,bU]
 have W:=A.swap (i:=a) (j:=pv) (nx:=h.next+16) om rfl
 obtain⟨h1,a9⟩: ∃h1,h1=((H.mk h.tr (h.next+16)).set S (aY (flat (d.setIfInBounds a d[pv]!).toList))).set S (aY (flat ((d.setIfInBounds a d[pv]!).setIfInBounds pv d[a]!).toList)):=⟨_,rfl⟩
 rw[←a9] at W ⊢
 obtain⟨A1,F1⟩:=W
 obtain⟨e,he⟩:=exI (swp d a pv)
 rw[he] at A1
 clear a9 Q P A
 have eb:(b:Int)- 1=((b- 1:Nat):Int):=om
 have ea:(a:Int)+1=((a+1:Nat):Int):=om
 have hP:partition bV.lt d a b pv=if scanUp (λx=>bV.lt x e[a]!) e (b- 1) (a+1)>scanDown (λx=>!bV.lt x e[a]!) e (scanUp (λx=>bV.lt x e[a]!) e (b- 1) (a+1)) (b- 1) then
   (scanDown (λx=>!bV.lt x e[a]!) e (scanUp (λx=>bV.lt x e[a]!) e (b- 1) (a+1)) (b- 1),true,swp e (scanDown (λx=>!bV.lt x e[a]!) e (scanUp (λx=>bV.lt x e[a]!) e (b- 1) (a+1)) (b- 1)) a) else
   ((partLoop bV.lt a (scanUp (λx=>bV.lt x e[a]!) e (b- 1) (a+1)+1) (scanDown (λx=>!bV.lt x e[a]!) e (scanUp (λx=>bV.lt x e[a]!) e (b- 1) (a+1)) (b- 1)- 1) (swp e (scanUp (λx=>bV.lt x e[a]!) e (b- 1) (a+1)) (scanDown (λx=>!bV.lt x e[a]!) e (scanUp (λx=>bV.lt x e[a]!) e (b- 1) (a+1)) (b- 1)))).1,false,
    swp (partLoop bV.lt a (scanUp (λx=>bV.lt x e[a]!) e (b- 1) (a+1)+1) (scanDown (λx=>!bV.lt x e[a]!) e (scanUp (λx=>bV.lt x e[a]!) e (b- 1) (a+1)) (b- 1)- 1) (swp e (scanUp (λx=>bV.lt x e[a]!) e (b- 1) (a+1)) (scanDown (λx=>!bV.lt x e[a]!) e (scanUp (λx=>bV.lt x e[a]!) e (b- 1) (a+1)) (b- 1)))).2 (partLoop bV.lt a (scanUp (λx=>bV.lt x e[a]!) e (b- 1) (a+1)+1) (scanDown (λx=>!bV.lt x e[a]!) e (scanUp (λx=>bV.lt x e[a]!) e (b- 1) (a+1)) (b- 1)- 1) (swp e (scanUp (λx=>bV.lt x e[a]!) e (b- 1) (a+1)) (scanDown (λx=>!bV.lt x e[a]!) e (scanUp (λx=>bV.lt x e[a]!) e (b- 1) (a+1)) (b- 1)))).1 a):=by
  rw[←he];rfl
 obtain⟨R,b1⟩:=exI (partition bV.lt d a b pv)
 rw[b1] at hP
 rw[b1]
 simp(disch:=omega)only[go_sem,ea,eb]
 refine bQ (λK c=>(∃g:Nat->V,K= [.sl S 0 N cp,aC a,aC b,aC pv,.fn (bV.f α) [] [],g 5,g 6,aC (scanUp (λx=>bV.lt x e[a]!) e (b- 1) (a+1):Nat),aC ((b- 1):Nat),g 9,g 10,g 11,g 12,g 13,g 14])/\dK c S N e/\Fx (· =S) h c) ?_ ?_
 ·refine aI (λJ K c=> ∃(k:Nat),(∃g:Nat->V,K= [.sl S 0 N cp,aC a,aC b,aC pv,.fn (bV.f α) [] [],g 5,g 6,aC (k:Nat),aC ((b- 1):Nat),g 9,g 10,g 11,g 12,g 13,g 14])/\(a+1)<=k/\k<=N+2/\dK c S N e/\scanUp (λx=>bV.lt x e[a]!) e (b- 1) k=scanUp (λx=>bV.lt x e[a]!) e (b- 1) (a+1)/\Fx (· =S) h c/\J=(b- 1)+1-k) ((b- 1)+1-(a+1))
   ⟨(a+1),aB rfl,om,om,A1,rfl,F1,rfl⟩ ?_
  rintro J n L ⟨k,⟨g,rfl⟩,a7,b5,o,p,Fs,rfl⟩
  by_cases l:(k:Int)<=(((b- 1):Nat):Int)
  ·have s:decide ((k:Int)<=(((b- 1):Nat):Int))=true:=bN l
   have eK:(k:Int)+1=((k+1:Nat):Int):=om
   have a6:=o.size
   have Q:=o.rd (i:=k) om
   have P:=o.rd (i:=a) om
   simp(disch:=omega)only[go_sem,s,Q,P]
   refine (jC o (i:=k) (j:=a) om om _ om).mono ?_
   rintro _ U ⟨z,rfl,hz,F⟩
   have y:Fr L U:=Fr.trans ((Fr.refl L).bH om) F
   have t:=o.fr y
   have B:=fS Fs (Fx.of y)
   cases hl:bV.lt e[k]! e[a]! with
   |false=>
    rw[qV (λc=>by have:=c.2;simp [hl] at this)] at p;simp(disch:=omega)only[go_sem,hz,hl];exact⟨by rw[←p];exact aB rfl,t,B⟩
   |true=>
    rw[Ez om (by simp [hl])] at p;simp(disch:=omega)only[go_sem,hz,hl,eK];exact⟨(b- 1)+1-(k+1),om,k+1,aB rfl,om,om,t,p,B,rfl⟩
  ·have s:decide ((k:Int)<=(((b- 1):Nat):Int))=false:=bE l
   rw[qV (λc=>l (by have:=c.1;omega))] at p
   simp(disch:=omega)only[go_sem,s]
   exact⟨by rw[←p];exact aB rfl,o.fr ((Fr.refl L).bH om),fS Fs (Fx.of ((Fr.refl L).bH om))⟩
 ·rintro n h9 ⟨⟨g,rfl⟩,A9,F9⟩
  have a3:=scanUp_ge (λx=>bV.lt x e[a]!) e (b- 1) (a+1)
  have a2:=pP (λx=>bV.lt x e[a]!) e (b- 1) (a+1)
  obtain⟨q,a0⟩: ∃x,scanUp (λx=>bV.lt x e[a]!) e (b- 1) (a+1)=x:=⟨_,rfl⟩
  rw[a0] at a3 a2
  rw[a0]
  simp(disch:=omega)only[go_sem]
  refine bQ (λK c=>(∃g:Nat->V,K= [.sl S 0 N cp,aC a,aC b,aC pv,.fn (bV.f α) [] [],g 5,g 6,aC (q:Nat),aC (scanDown (λx=>!bV.lt x e[a]!) e q (b- 1):Nat),g 9,g 10,g 11,g 12,g 13,g 14])/\dK c S N e/\Fx (· =S) h c) ?_ ?_
  ·refine aI (λJ K c=> ∃(k:Nat),(∃g:Nat->V,K= [.sl S 0 N cp,aC a,aC b,aC pv,.fn (bV.f α) [] [],g 5,g 6,aC (q:Nat),aC (k:Nat),g 9,g 10,g 11,g 12,g 13,g 14])/\k<=(b- 1)/\dK c S N e/\scanDown (λx=>!bV.lt x e[a]!) e q k=scanDown (λx=>!bV.lt x e[a]!) e q (b- 1)/\Fx (· =S) h c/\J=k) (b- 1)
    ⟨(b- 1),aB rfl,om,A9,rfl,F9,rfl⟩ ?_
   rintro J n L ⟨k,⟨g,rfl⟩,a7,o,p,Fs,a4⟩
   subst a4
   by_cases l:((q:Nat):Int)<=(J:Int)
   ·have s:=bN l
    obtain⟨k,rfl⟩: ∃k,J=k+1:=⟨J- 1,om⟩
    have eK:((k+1:Nat):Int)- 1=(k:Int):=om
    have a6:=o.size
    have Q:=o.rd (i:=k+1) om
    have P:=o.rd (i:=a) om
    simp(disch:=omega)only[go_sem,s,Q,P]
    refine (jC o (i:=k+1) (j:=a) om om _ om).mono ?_
    rintro _ U ⟨z,rfl,hz,F⟩
    have y:Fr L U:=Fr.trans ((Fr.refl L).bH om) F
    have t:=o.fr y
    have B:=fS Fs (Fx.of y)
    cases hl:bV.lt e[k+1]! e[a]! with
    |true=>
     rw[xF (λc=>by have:=c.2;simp [hl] at this)] at p;simp(disch:=omega)only[go_sem,hz,hl];exact⟨by rw[←p];exact aB rfl,t,B⟩
    |false=>
     rw[Pw om (by simp [hl])] at p;simp(disch:=omega)only[go_sem,hz,hl,eK];exact⟨k,om,k,aB rfl,om,t,p,B,rfl⟩
   ·have s:=bE l
    rw[xF (λc=>l (by have:=c.1;omega))] at p
    simp(disch:=omega)only[go_sem,s]
    exact⟨by rw[←p];exact aB rfl,o.fr ((Fr.refl L).bH om),fS Fs (Fx.of ((Fr.refl L).bH om))⟩
  ·rintro n h2 ⟨⟨g,rfl⟩,A2,F2⟩
   have a1:=scanDown_le (λx=>!bV.lt x e[a]!) e q (b- 1)
   obtain⟨G,a5⟩: ∃x,scanDown (λx=>!bV.lt x e[a]!) e q (b- 1)=x:=⟨_,rfl⟩
   rw[a5] at a1
   rw[a5]
   rw[a0,a5] at hP
   have b6:=A2.size
   by_cases Y:(G:Int)<(q:Int)
   ·have s:=bN Y
    rw[bJ om] at hP
    have Q:=A2.rd (i:=G) om
    have P:=A2.rd (i:=a) om
    simp(disch:=omega)only[go_sem,s,Q,P,A2.get,bW,bU]
    have W:=A2.swap (i:=G) (j:=a) (nx:=h2.next+16) om rfl
    rw[hP]
    exact⟨rfl,W.1,fS F2 W.2⟩
   have s:=bE Y
   rw[bL om] at hP
   have Q:=A2.rd (i:=q) om
   have P:=A2.rd (i:=G) om
   simp(disch:=omega)only[go_sem,s,Q,P,A2.get,bW,bU]
   have W:=A2.swap (i:=q) (j:=G) (nx:=h2.next+16) om rfl
   obtain⟨h3,b0⟩: ∃h3,h3=((H.mk h2.tr (h2.next+16)).set S (aY (flat (e.setIfInBounds q e[G]!).toList))).set S (aY (flat ((e.setIfInBounds q e[G]!).setIfInBounds G e[q]!).toList)):=⟨_,rfl⟩
   rw[←b0] at W ⊢
   obtain⟨A3,b4⟩:=W
   have F3:=fS F2 b4
   have b3:q<=G:=om
   obtain⟨e0,a8⟩:=exI (swp e q G)
   rw[a8] at A3 hP
   clear b0 Q P A2 A9 F9 A1 F1 he Y s
   have ei:(q:Int)+1=((q+1:Nat):Int):=om
   have ej:(G:Int)- 1=((G- 1:Nat):Int):=om
   simp(disch:=omega)only[go_sem,ei,ej]
   refine bQ (λK c=>(∃g:Nat->V,K= [.sl S 0 N cp,aC a,aC b,aC pv,.fn (bV.f α) [] [],g 5,g 6,g 7,aC (((partLoop bV.lt a (q+1) (G- 1) e0).1:Nat):Int),g 9,g 10,g 11,g 12,g 13,g 14])/\dK c S N (partLoop bV.lt a (q+1) (G- 1) e0).2/\(partLoop bV.lt a (q+1) (G- 1) e0).1<b/\Fx (· =S) h c) ?_ ?_
   ·refine aI (λJ K c=> ∃(i j:Nat) (e:Array α),(∃g:Nat->V,K= [.sl S 0 N cp,aC a,aC b,aC pv,.fn (bV.f α) [] [],g 5,g 6,aC i,aC j,g 9,g 10,g 11,g 12,g 13,g 14])/\a<i/\i<=b+1/\j<b/\dK c S N e/\partLoop bV.lt a i j e=partLoop bV.lt a (q+1) (G- 1) e0/\Fx (· =S) h c/\J=j) (G- 1)
     ⟨q+1,G- 1,e0,aB rfl,om,om,om,A3,rfl,F3,rfl⟩ ?_
    obtain⟨R2,b2⟩:=exI (partLoop bV.lt a (q+1) (G- 1) e0)
    rw[b2]
    clear hP b2 a0 a5 a8 ei ej a1 a3 a2 F3 b4 A3 b6 h3 b3
    clear q G
    rintro J n h3 ⟨i,j,e,⟨g,rfl⟩,b7,a0,hj,A3,hL,F3,a4⟩
    rw[partLoop_eq] at hL
    simp(disch:=omega)only[go_sem]
    refine bQ (λK c=>(∃g:Nat->V,K= [.sl S 0 N cp,aC a,aC b,aC pv,.fn (bV.f α) [] [],g 5,g 6,aC (scanUp (λx=>bV.lt x e[a]!) e j i:Nat),aC (j:Nat),g 9,g 10,g 11,g 12,g 13,g 14])/\dK c S N e/\Fx (· =S) h c) ?_ ?_
    ·refine aI (λJ K c=> ∃(k:Nat),(∃g:Nat->V,K= [.sl S 0 N cp,aC a,aC b,aC pv,.fn (bV.f α) [] [],g 5,g 6,aC (k:Nat),aC (j:Nat),g 9,g 10,g 11,g 12,g 13,g 14])/\i<=k/\k<=N+2/\dK c S N e/\scanUp (λx=>bV.lt x e[a]!) e j k=scanUp (λx=>bV.lt x e[a]!) e j i/\Fx (· =S) h c/\J=j+1-k) (j+1-i)
      ⟨i,aB rfl,om,om,A3,rfl,F3,rfl⟩ ?_
     rintro J n L ⟨k,⟨g,rfl⟩,a7,b5,o,p,Fs,rfl⟩
     by_cases l:(k:Int)<=((j:Nat):Int)
     ·have s:=bN l
      have eK:(k:Int)+1=((k+1:Nat):Int):=om
      have a6:=o.size
      have Q:=o.rd (i:=k) om
      have P:=o.rd (i:=a) om
      simp(disch:=omega)only[go_sem,s,Q,P]
      refine (jC o (i:=k) (j:=a) om om _ om).mono ?_
      rintro _ U ⟨z,rfl,hz,F⟩
      have y:Fr L U:=Fr.trans ((Fr.refl L).bH om) F
      have t:=o.fr y
      have B:=fS Fs (Fx.of y)
      cases hl:bV.lt e[k]! e[a]! with
      |false=>
       rw[qV (λc=>by have:=c.2;simp [hl] at this)] at p;simp(disch:=omega)only[go_sem,hz,hl];exact⟨by rw[←p];exact aB rfl,t,B⟩
      |true=>
       rw[Ez om (by simp [hl])] at p;simp(disch:=omega)only[go_sem,hz,hl,eK];exact⟨j+1-(k+1),om,k+1,aB rfl,om,om,t,p,B,rfl⟩
     ·have s:=bE l
      rw[qV (λc=>l (by have:=c.1;omega))] at p
      simp(disch:=omega)only[go_sem,s]
      exact⟨by rw[←p];exact aB rfl,o.fr ((Fr.refl L).bH om),fS Fs (Fx.of ((Fr.refl L).bH om))⟩
    ·rintro n h9 ⟨⟨g,rfl⟩,A9,F9⟩
     have a3:=scanUp_ge (λx=>bV.lt x e[a]!) e j i
     have a2:=pP (λx=>bV.lt x e[a]!) e j i
     obtain⟨u,hu⟩: ∃x,scanUp (λx=>bV.lt x e[a]!) e j i=x:=⟨_,rfl⟩
     rw[hu] at a3 a2
     rw[hu]
     simp(disch:=omega)only[go_sem]
     refine bQ (λK c=>(∃g:Nat->V,K= [.sl S 0 N cp,aC a,aC b,aC pv,.fn (bV.f α) [] [],g 5,g 6,aC (u:Nat),aC (scanDown (λx=>!bV.lt x e[a]!) e u j:Nat),g 9,g 10,g 11,g 12,g 13,g 14])/\dK c S N e/\Fx (· =S) h c) ?_ ?_
     ·refine aI (λJ K c=> ∃(k:Nat),(∃g:Nat->V,K= [.sl S 0 N cp,aC a,aC b,aC pv,.fn (bV.f α) [] [],g 5,g 6,aC (u:Nat),aC (k:Nat),g 9,g 10,g 11,g 12,g 13,g 14])/\k<=j/\dK c S N e/\scanDown (λx=>!bV.lt x e[a]!) e u k=scanDown (λx=>!bV.lt x e[a]!) e u j/\Fx (· =S) h c/\J=k) j
       ⟨j,aB rfl,om,A9,rfl,F9,rfl⟩ ?_
      rintro J n L ⟨k,⟨g,rfl⟩,a7,o,p,Fs,a4⟩
      subst a4
      by_cases l:((u:Nat):Int)<=(J:Int)
      ·have s:=bN l
       obtain⟨k,rfl⟩: ∃k,J=k+1:=⟨J- 1,om⟩
       have eK:((k+1:Nat):Int)- 1=(k:Int):=om
       have a6:=o.size
       have Q:=o.rd (i:=k+1) om
       have P:=o.rd (i:=a) om
       simp(disch:=omega)only[go_sem,s,Q,P]
       refine (jC o (i:=k+1) (j:=a) om om _ om).mono ?_
       rintro _ U ⟨z,rfl,hz,F⟩
       have y:Fr L U:=Fr.trans ((Fr.refl L).bH om) F
       have t:=o.fr y
       have B:=fS Fs (Fx.of y)
       cases hl:bV.lt e[k+1]! e[a]! with
       |true=>
        rw[xF (λc=>by have:=c.2;simp [hl] at this)] at p;simp(disch:=omega)only[go_sem,hz,hl];exact⟨by rw[←p];exact aB rfl,t,B⟩
       |false=>
        rw[Pw om (by simp [hl])] at p;simp(disch:=omega)only[go_sem,hz,hl,eK];exact⟨k,om,k,aB rfl,om,t,p,B,rfl⟩
      ·have s:=bE l
       rw[xF (λc=>l (by have:=c.1;omega))] at p
       simp(disch:=omega)only[go_sem,s]
       exact⟨by rw[←p];exact aB rfl,o.fr ((Fr.refl L).bH om),fS Fs (Fx.of ((Fr.refl L).bH om))⟩
     ·rintro n h4 ⟨⟨g,rfl⟩,A4,F4⟩
      have a1:=scanDown_le (λx=>!bV.lt x e[a]!) e u j
      obtain⟨w,hw⟩: ∃x,scanDown (λx=>!bV.lt x e[a]!) e u j=x:=⟨_,rfl⟩
      rw[hw] at a1
      rw[hw]
      rw[hu,hw] at hL
      have b9:=A4.size
      by_cases Y:(w:Int)<(u:Int)
      ·have s:=bN Y
       rw[bJ om] at hL
       simp(disch:=omega)only[go_sem,s]
       rw[←hL]
       exact⟨aB rfl,A4,om,F4⟩
      have s:=bE Y
      rw[bL om] at hL
      have Q:=A4.rd (i:=u) om
      have P:=A4.rd (i:=w) om
      have ei:(u:Int)+1=((u+1:Nat):Int):=om
      have ej:(w:Int)- 1=((w- 1:Nat):Int):=om
      simp(disch:=omega)only[go_sem,s,Q,P,A4.get,bW,bU,ei,ej]
      have W:=A4.swap (i:=u) (j:=w) (nx:=h4.next+16) om rfl
      exact⟨w- 1,om,u+1,w- 1,_,aB rfl,om,om,om,W.1,hL,fS F4 W.2,rfl⟩
   ·rintro n h5 ⟨⟨g,rfl⟩,A5,Z,F5⟩
    generalize partLoop bV.lt a (q+1) (G- 1) e0=r at hP A5 Z
    obtain⟨m,e5⟩:=r
    have Z:m<b:=Z
    have A5:dK h5 S N e5:=A5
    have c0:=A5.size
    have Q:=A5.rd (i:=m) om
    have P:=A5.rd (i:=a) om
    simp(disch:=omega)only[go_sem,Q,P,A5.get,bW,bU]
    have W:=A5.swap (i:=m) (j:=a) (nx:=h5.next+16) om rfl
    rw[hP]
    exact⟨rfl,W.1,fS F5 W.2⟩
theorem Ja {α:Type}[Inhabited α][O:bV α](h:H)(S N a b pv:Nat)(d:Array α)(K:pF)(hN:N<1000000)(A:dK h S N d)(hb:b<=N)(a6:a<=pv)(a9:pv<b):
  Ev T 253 [.sl S 0 N K,aC a,aC b,aC pv,.fn (bV.f α) [] []] h (λv h'=>v= aC ((partitionEqual bV.lt d a b pv).1:Nat)/\dK h' S N (partitionEqual bV.lt d a b pv).2/\Fx (· =S) h h'):=by
 refine cT eY rfl ?_
 have sz:=A.size
 have J:=A.rd (i:=a) om
 have G:=A.rd (i:=pv) om
 simp(disch:=omega)only[go_sem,eY,aD,J,G,A.get,bW,bU]
 have W:=A.swap (i:=a) (j:=pv) (nx:=h.next+16) om rfl
 obtain⟨h1,R⟩: ∃h1,h1=((H.mk h.tr (h.next+16)).set S (aY (flat (d.setIfInBounds a d[pv]!).toList))).set S (aY (flat ((d.setIfInBounds a d[pv]!).setIfInBounds pv d[a]!).toList)):=⟨_,rfl⟩
 rw[←R] at W ⊢
 obtain⟨A1,F1⟩:=W
 have eb:(b:Int)- 1=((b- 1:Nat):Int):=om
 have ea:(a:Int)+1=((a+1:Nat):Int):=om
 unfold partitionEqual
 obtain⟨Q,he⟩: ∃e,swp d a pv=e:=⟨_,rfl⟩
 rw[he] at A1 ⊢
 clear R J G A
 simp(disch:=omega)only[go_sem,ea,eb]
 refine bQ (λp c=>(∃g:Nat->V,p= [.sl S 0 N K,aC a,aC b,aC pv,.fn (bV.f α) [] [],g 5,aC (((partEqLoop bV.lt a (a+1) (b- 1) Q).1:Nat):Int),g 7,g 8,g 9,g 10])/\dK c S N (partEqLoop bV.lt a (a+1) (b- 1) Q).2/\Fx (· =S) h c) ?_ ?_
 ·refine aI (λB p c=> ∃(i j:Nat) (e:Array α),(∃g:Nat->V,p= [.sl S 0 N K,aC a,aC b,aC pv,.fn (bV.f α) [] [],g 5,aC i,aC j,g 8,g 9,g 10])/\a<i/\i<=b+1/\j<b/\dK c S N e/\partEqLoop bV.lt a i j e=partEqLoop bV.lt a (a+1) (b- 1) Q/\Fx (· =S) h c/\B=j) (b- 1)
   ⟨a+1,b- 1,Q,aB rfl,om,om,om,A1,rfl,F1,rfl⟩ ?_
  obtain⟨R2,U⟩:=exI (partEqLoop bV.lt a (a+1) (b- 1) Q)
  rw[U]
  clear U F1 A1 h1 he Q
  rintro B l h3 ⟨i,j,e,⟨g,rfl⟩,a5,b0,hj,A3,P,F3,Y⟩
  rw[partEqLoop_eq] at P
  simp(disch:=omega)only[go_sem]
  refine bQ (λp c=>(∃g:Nat->V,p= [.sl S 0 N K,aC a,aC b,aC pv,.fn (bV.f α) [] [],g 5,aC (scanUp (λx=>!bV.lt e[a]! x) e j i:Nat),aC (j:Nat),g 8,g 9,g 10])/\dK c S N e/\Fx (· =S) h c) ?_ ?_
  ·refine aI (λB p c=> ∃(k:Nat),(∃g:Nat->V,p= [.sl S 0 N K,aC a,aC b,aC pv,.fn (bV.f α) [] [],g 5,aC (k:Nat),aC (j:Nat),g 8,g 9,g 10])/\i<=k/\k<=N+2/\dK c S N e/\scanUp (λx=>!bV.lt e[a]! x) e j k=scanUp (λx=>!bV.lt e[a]! x) e j i/\Fx (· =S) h c/\B=j+1-k) (j+1-i)
    ⟨i,aB rfl,om,om,A3,rfl,F3,rfl⟩ ?_
   rintro B l F ⟨k,⟨g,rfl⟩,a4,a8,n,o,Fs,rfl⟩
   by_cases m:(k:Int)<=((j:Nat):Int)
   ·have q:=bN m
    have eK:(k:Int)+1=((k+1:Nat):Int):=om
    have a3:=n.size
    have J:=n.rd (i:=k) om
    have G:=n.rd (i:=a) om
    simp(disch:=omega)only[go_sem,q,J,G]
    refine (jC n (i:=a) (j:=k) om om _ om).mono ?_
    rintro _ L ⟨z,rfl,hz,y⟩
    have s:Fr F L:=Fr.trans ((Fr.refl F).bH om) y
    have r:=n.fr s
    have t:=fS Fs (Fx.of s)
    cases hl:bV.lt e[a]! e[k]! with
    |true=>
     rw[qV (λc=>by have:=c.2;simp [hl] at this)] at o;simp(disch:=omega)only[go_sem,hz,hl];exact⟨by rw[←o];exact aB rfl,r,t⟩
    |false=>
     rw[Ez om (by simp [hl])] at o;simp(disch:=omega)only[go_sem,hz,hl,eK];exact⟨j+1-(k+1),om,k+1,aB rfl,om,om,r,o,t,rfl⟩
   ·have q:=bE m
    rw[qV (λc=>m (by have:=c.1;omega))] at o
    simp(disch:=omega)only[go_sem,q]
    exact⟨by rw[←o];exact aB rfl,n.fr ((Fr.refl F).bH om),fS Fs (Fx.of ((Fr.refl F).bH om))⟩
  ·rintro l h9 ⟨⟨g,rfl⟩,A9,F9⟩
   have a2:=scanUp_ge (λx=>!bV.lt e[a]! x) e j i
   have a1:=pP (λx=>!bV.lt e[a]! x) e j i
   obtain⟨u,hu⟩: ∃x,scanUp (λx=>!bV.lt e[a]! x) e j i=x:=⟨_,rfl⟩
   rw[hu] at a2 a1
   rw[hu]
   simp(disch:=omega)only[go_sem]
   refine bQ (λp c=>(∃g:Nat->V,p= [.sl S 0 N K,aC a,aC b,aC pv,.fn (bV.f α) [] [],g 5,aC (u:Nat),aC (scanDown (λx=>bV.lt e[a]! x) e u j:Nat),g 8,g 9,g 10])/\dK c S N e/\Fx (· =S) h c) ?_ ?_
   ·refine aI (λB p c=> ∃(k:Nat),(∃g:Nat->V,p= [.sl S 0 N K,aC a,aC b,aC pv,.fn (bV.f α) [] [],g 5,aC (u:Nat),aC (k:Nat),g 8,g 9,g 10])/\k<=j/\dK c S N e/\scanDown (λx=>bV.lt e[a]! x) e u k=scanDown (λx=>bV.lt e[a]! x) e u j/\Fx (· =S) h c/\B=k) j
     ⟨j,aB rfl,om,A9,rfl,F9,rfl⟩ ?_
    rintro B l F ⟨k,⟨g,rfl⟩,a4,n,o,Fs,Y⟩
    subst Y
    by_cases m:((u:Nat):Int)<=(B:Int)
    ·have q:=bN m
     obtain⟨k,rfl⟩: ∃k,B=k+1:=⟨B- 1,om⟩
     have eK:((k+1:Nat):Int)- 1=(k:Int):=om
     have a3:=n.size
     have J:=n.rd (i:=k+1) om
     have G:=n.rd (i:=a) om
     simp(disch:=omega)only[go_sem,q,J,G]
     refine (jC n (i:=a) (j:=k+1) om om _ om).mono ?_
     rintro _ L ⟨z,rfl,hz,y⟩
     have s:Fr F L:=Fr.trans ((Fr.refl F).bH om) y
     have r:=n.fr s
     have t:=fS Fs (Fx.of s)
     cases hl:bV.lt e[a]! e[k+1]! with
     |false=>
      rw[xF (λc=>by have:=c.2;simp [hl] at this)] at o;simp(disch:=omega)only[go_sem,hz,hl];exact⟨by rw[←o];exact aB rfl,r,t⟩
     |true=>
      rw[Pw om (by simp [hl])] at o;simp(disch:=omega)only[go_sem,hz,hl,eK];exact⟨k,om,k,aB rfl,om,r,o,t,rfl⟩
    ·have q:=bE m
     rw[xF (λc=>m (by have:=c.1;omega))] at o
     simp(disch:=omega)only[go_sem,q]
     exact⟨by rw[←o];exact aB rfl,n.fr ((Fr.refl F).bH om),fS Fs (Fx.of ((Fr.refl F).bH om))⟩
   ·rintro l h4 ⟨⟨g,rfl⟩,A4,F4⟩
    have a0:=scanDown_le (λx=>bV.lt e[a]! x) e u j
    obtain⟨w,hw⟩: ∃x,scanDown (λx=>bV.lt e[a]! x) e u j=x:=⟨_,rfl⟩
    rw[hw] at a0
    rw[hw]
    rw[hu,hw] at P
    have a7:=A4.size
    by_cases Z:(w:Int)<(u:Int)
    ·have q:=bN Z
     rw[bJ om] at P
     simp(disch:=omega)only[go_sem,q]
     rw[←P]
     exact⟨aB rfl,A4,F4⟩
    have q:=bE Z
    rw[bL om] at P
    have J:=A4.rd (i:=u) om
    have G:=A4.rd (i:=w) om
    have ei:(u:Int)+1=((u+1:Nat):Int):=om
    have ej:(w:Int)- 1=((w- 1:Nat):Int):=om
    simp(disch:=omega)only[go_sem,q,J,G,A4.get,bW,bU,ei,ej]
    have W:=A4.swap (i:=u) (j:=w) (nx:=h4.next+16) om rfl
    exact⟨w- 1,om,u+1,w- 1,_,aB rfl,om,om,om,W.1,P,fS F4 W.2,rfl⟩
 ·rintro l h5 ⟨⟨g,rfl⟩,A5,F5⟩
  simp(disch:=omega)only[go_sem]
  exact⟨A5,F5⟩
end
def DN  {α:Type}[Inhabited α][O:bV α](n:Nat):Prop:= ∀(h:H) (S N a b:Nat) (lim:Int) (d:Array α) (cp:pF),N<60000->dK h S N d->a<=b->b<=N->b-a<=n->0<=lim->lim<1000000->Below bV.lt a b d->
 Ev T 227 [.sl S 0 N cp,aC a,aC b,aC lim,.fn (bV.f α) [] []] h (λ_ h'=> ∃e,dK h' S N e/\PermIn a b d e/\SortedIn bV.lt a b e/\Fx (· =S) h h')
theorem ED  {α:Type}[Inhabited α][O:bV α](n:Nat)(ih: ∀m,m<n->DN (α:=α) m):DN (α:=α) n:=by
 intro h S N a b b0 d s hN A a7 a5 hn u w hB;refine cT gK rfl ?_;simp(disch:=omega)only[go_sem,gK,aD]
 refine aI (λk' y Y=> ∃(c l:Nat) (l':Int) (W wp:Bool) (e:Array α),(∃g:Nat->V,y= [.sl S 0 N s,aC (c:Int),aC (l:Int),aC l',.fn (bV.f α) [] [],.bool W,.bool wp,g 7,g 8,g 9,g 10,g 11,g 12,g 13,g 14,g 15,g 16,g 17,g 18,g 19,g 20,g 21,g 22,g 23])/\c<=l/\l<=N/\a<=c/\l<=b/\0<=l'/\l'<1000000/\Below bV.lt c l e/\dK Y S N e/\Fx (· =S) h Y/\
   (∀R,PermIn c l e R->SortedIn bV.lt c l R->PermIn a b d R/\SortedIn bV.lt a b R)/\k'=l-c) (b-a)
  ⟨a,b,b0,true,true,d,aB rfl,a7,a5,eH _,eH _,u,w,hB,A,Fx.refl _ h,λR h1 h2=>⟨h1,h2⟩,rfl⟩ ?_
 clear A hB u w;rintro k' y h1 ⟨c,l,l',W,wp,e,⟨g,rfl⟩,B,o,a8,a3,u,w,hB,A,F,K,rfl⟩;obtain⟨m,hm⟩:=exI (l-c);have em:(l:Int)-(c:Int)=(m:Int):=om
 have ez: ∀{x:Array α} {hx:H},dK hx S N x->l<=x.size:=λA=>by rw[A.size];exact o
 by_cases a4:(m:Int)<=12
 ·have e1:=bN a4
  simp(disch:=omega)only[go_sem,em,e1];refine (yT h1 S N c l e s om A o B).mono ?_;rintro _ h2 ⟨A2,F2⟩;obtain⟨p1,p2⟩:=insertionSort_holds (bV.swo (α:=α)) e c l B (ez A);obtain⟨q1,q2⟩:=K _ p1 p2;simp(disch:=omega)only[go_sem];exact⟨_,A2,q1,q2,fS F F2⟩
 have e1:=bE a4
 by_cases hl:l'=0
 ·have J:=bN hl
  simp(disch:=omega)only[go_sem,em,e1,J];refine (Bg h1 S N c l e s om A o B).mono ?_;rintro _ h2 ⟨A2,F2⟩;obtain⟨p1,p2⟩:=heapSort_holds (bV.swo (α:=α)) e c l B (ez A);obtain⟨q1,q2⟩:=K _ p1 p2;simp(disch:=omega)only[go_sem];exact⟨_,A2,q1,q2,fS F F2⟩
 have J:=bE hl;simp(disch:=omega)only[go_sem,em,e1,J];refine mZ (λZ Y=> ∃(J:Array α) (G:Int) (g:Nat->V),Z= [.sl S 0 N s,aC (c:Int),aC (l:Int),aC G,.fn (bV.f α) [] [],.bool W,.bool wp,aC m,g 8,g 9,g 10,g 11,g 12,g 13,g 14,g 15,g 16,g 17,g 18,g 19,g 20,g 21,g 22,g 23]/\0<=G/\G<1000000/\dK Y S N J/\PermIn c l e J/\Fx (· =S) h Y) ?_ ?_
 ·cases W with
  |true=>
   simp(disch:=omega)only[go_sem];exact .inl ⟨e,l',_,(aB rfl: ∃g:Nat->V,_= [.sl S 0 N s,aC (c:Int),aC (l:Int),aC l',.fn (bV.f α) [] [],.bool true,.bool wp,aC m,g 8,g 9,g 10,g 11,g 12,g 13,g 14,g 15,g 16,g 17,g 18,g 19,g 20,g 21,g 22,g 23]).choose_spec,u,w,A,permIn_refl e c l,F⟩
  |false=>
   simp(disch:=omega)only[go_sem];refine (Qc h1 S N c l e s hN A o B).mono ?_;rintro _ h2 ⟨J,A2,p2,F2⟩;simp(disch:=omega)only[go_sem];exact .inl ⟨J,l'- 1,_,(aB rfl: ∃g:Nat->V,_= [.sl S 0 N s,aC (c:Int),aC (l:Int),aC (l'- 1),.fn (bV.f α) [] [],.bool false,.bool wp,aC m,g 8,g 9,g 10,g 11,g 12,g 13,g 14,g 15,g 16,g 17,g 18,g 19,g 20,g 21,g 22,g 23]).choose_spec,om,om,A2,p2,fS F F2⟩
 clear A F u w hl J g;rintro y h2 ⟨J,G,g,rfl,u,w,A,P2,F⟩;have B2:=hB.perm (by rw[←P2.1];exact ez A) P2;simp(disch:=omega)only[go_sem];refine (Ov h2 S N c l J s om A o om).mono ?_;rintro _ h3 ⟨p,t,rfl,U,Q,f3⟩;have A3:=A.fr f3;have F3:=fS F (Fx.of f3);clear A F;simp(disch:=omega)only[go_sem];refine mZ (λZ Y=> ∃(e3:Array α) (p2:Nat) (t2:Int) (g:Nat->V),Z= [.sl S 0 N s,aC (c:Int),aC (l:Int),aC G,.fn (bV.f α) [] [],.bool W,.bool wp,aC m,aC p2,aC t2,g 10,g 11,g 12,g 13,g 14,g 15,g 16,g 17,g 18,g 19,g 20,g 21,g 22,g 23]/\c<=p2/\p2<l/\dK Y S N e3/\PermIn c l J e3/\Fx (· =S) h Y) ?_ ?_
 ·refine bA (λht=>?_) (λht=>?_)
  ·simp(disch:=omega)only[go_sem]
   refine (Et h3 S N c l J s om A3 o om).mono ?_;rintro _ h4 ⟨A4,F4⟩;have e5:(l:Int)- 1-((p:Int)-(c:Int))=(((l- 1)-(p-c):Nat):Int):=om
   simp(disch:=omega)only[go_sem,e5];exact .inl ⟨_,(l- 1)-(p-c),1,_,(aB rfl: ∃g:Nat->V,_= [.sl S 0 N s,aC (c:Int),aC (l:Int),aC G,.fn (bV.f α) [] [],.bool W,.bool wp,aC m,aC ((l- 1)-(p-c):Nat),aC 1,g 10,g 11,g 12,g 13,g 14,g 15,g 16,g 17,g 18,g 19,g 20,g 21,g 22,g 23]).choose_spec,om,om,A4,reverseRange_holds J c l B (ez A3),fS F3 F4⟩
  ·simp(disch:=omega)only[go_sem]
   exact .inl ⟨J,p,t,_,(aB rfl: ∃g:Nat->V,_= [.sl S 0 N s,aC (c:Int),aC (l:Int),aC G,.fn (bV.f α) [] [],.bool W,.bool wp,aC m,aC p,aC t,g 10,g 11,g 12,g 13,g 14,g 15,g 16,g 17,g 18,g 19,g 20,g 21,g 22,g 23]).choose_spec,U,Q,A3,permIn_refl J c l,F3⟩
 have a0:=ez A3;clear A3 F3 U Q f3 p t g;rintro y h4 ⟨e3,p,t,g,rfl,U,Q,A,P3,F⟩;have B3:=B2.perm a0 P3;have a1:=permIn_trans _ _ _ c l P2 P3;have a6:l<=J.size:=a0;clear a0 B2 hB;refine Gw (λZ Y=> ∃(P:Array α) (g:Nat->V),Z= [.sl S 0 N s,aC (c:Int),aC (l:Int),aC G,.fn (bV.f α) [] [],.bool W,.bool wp,aC m,aC p,g 9,g 10,g 11,g 12,g 13,g 14,g 15,g 16,g 17,g 18,g 19,g 20,g 21,g 22,g 23]/\dK Y S N P/\PermIn c l e P/\Below bV.lt c l P/\Fx (· =S) h Y) ?_ ?_
 ·have skip: ∀(Z:List V),(∃g:Nat->V,Z= [.sl S 0 N s,aC (c:Int),aC (l:Int),aC G,.fn (bV.f α) [] [],.bool W,.bool wp,aC m,aC p,g 9,g 10,g 11,g 12,g 13,g 14,g 15,g 16,g 17,g 18,g 19,g 20,g 21,g 22,g 23])-> ∃(P:Array α) (g:Nat->V),Z= [.sl S 0 N s,aC (c:Int),aC (l:Int),aC G,.fn (bV.f α) [] [],.bool W,.bool wp,aC m,aC p,g 9,g 10,g 11,g 12,g 13,g 14,g 15,g 16,g 17,g 18,g 19,g 20,g 21,g 22,g 23]/\dK h4 S N P/\PermIn c l e P/\Below bV.lt c l P/\Fx (· =S) h h4:=λZ ⟨g,hv⟩=>⟨e3,g,hv,A,a1,B3,F⟩
  have run: ∀g:Nat->V,Ev T 252 [.sl S 0 N s,aC (c:Int),aC (l:Int),.fn (bV.f α) [] []] h4 (λv h'=> ∃r:Array α×Bool,v= .bool r.2/\dK h' S N r.1/\Fx (· =S) h4 h'/\PermIn c l e3 r.1/\(r.2=true->SortedIn bV.lt c l r.1)):=λ_=>by
   refine (Dy h4 S N c l e3 s om A o om).mono ?_;rintro v h5 ⟨hv,A5,F5⟩;obtain⟨q1,q2⟩:=partialInsertionSort_holds (bV.swo (α:=α)) e3 c l om (ez A) B3;exact⟨_,hv,A5,F5,q1,q2⟩
  cases W with
  |false=>
   simp(disch:=omega)only[go_sem];exact .inl (skip _ (aB rfl))
  |true=>cases wp with
   |false=>
    simp(disch:=omega)only[go_sem]
    exact .inl (skip _ (aB rfl))
   |true=>
    simp(disch:=omega)only[go_sem]
    refine bA (λht=>?_) (λht=>?_)
    ·simp(disch:=omega)only[go_sem]
     refine (run g).mono ?_
     rintro v h5 ⟨⟨e5,r5⟩,rfl,A5,F5,q1,q2⟩
     have A5:dK h5 S N e5:=A5
     have q1:PermIn c l e3 e5:=q1
     have P5:=permIn_trans _ _ _ c l a1 q1
     cases r5 with
     |false=>
      simp(disch:=omega)only[go_sem];exact .inl ⟨e5,_,(aB rfl: ∃g:Nat->V,_= [.sl S 0 N s,aC (c:Int),aC (l:Int),aC G,.fn (bV.f α) [] [],.bool true,.bool true,aC m,aC p,g 9,g 10,g 11,g 12,g 13,g 14,g 15,g 16,g 17,g 18,g 19,g 20,g 21,g 22,g 23]).choose_spec,A5,P5,B3.perm (ez A) q1,fS F F5⟩
     |true=>
      obtain⟨w1,w2⟩:=K _ P5 (q2 rfl);simp(disch:=omega)only[go_sem];exact .inr ⟨by simp,e5,A5,w1,w2,fS F F5⟩
    ·simp(disch:=omega)only[go_sem]
     exact .inl (skip _ (aB rfl))
 clear A P3 a1 B3 F P2 a6 e3 J;rintro y h5 ⟨P,g,rfl,A,P4,B4,F⟩;have a2:=ez A;refine Gw (λZ Y=> ∃(g:Nat->V),Z= [.sl S 0 N s,aC (c:Int),aC (l:Int),aC G,.fn (bV.f α) [] [],.bool W,.bool wp,aC m,aC p,g 9,g 10,g 11,g 12,g 13,g 14,g 15,g 16,g 17,g 18,g 19,g 20,g 21,g 22,g 23]/\dK Y S N P/\Fx (· =S) h Y) ?_ ?_
 ·by_cases h0:(0:Int)<(c:Int)
  case neg=>
   have e1:=bE h0;simp(disch:=omega)only[go_sem,e1];exact .inl ⟨_,(aB rfl: ∃g:Nat->V,_= [.sl S 0 N s,aC (c:Int),aC (l:Int),aC G,.fn (bV.f α) [] [],.bool W,.bool wp,aC m,aC p,g 9,g 10,g 11,g 12,g 13,g 14,g 15,g 16,g 17,g 18,g 19,g 20,g 21,g 22,g 23]).choose_spec,A.fr ((Fr.refl h5).bH om),fS F (Fx.of ((Fr.refl h5).bH om))⟩
  have e1:=bN h0;have ea:(c:Int)- 1=((c- 1:Nat):Int):=om
  have c1:=A.rd (i:=c- 1) om;have c2:=A.rd (i:=p) om;simp(disch:=omega)only[go_sem,e1,ea,c1,c2];refine (jC A (i:=c- 1) (j:=p) om om _ om).mono ?_;rintro _ h6 ⟨z,rfl,hz,a9⟩;have f6:Fr h5 h6:=Fr.trans ((Fr.refl h5).bH om) a9;have A6:=A.fr f6;have F6:=fS F (Fx.of f6)
  cases hl:bV.lt P[c- 1]! P[p]! with
  |true=>
   simp(disch:=omega)only[go_sem,hz,hl];exact .inl ⟨_,(aB rfl: ∃g:Nat->V,_= [.sl S 0 N s,aC (c:Int),aC (l:Int),aC G,.fn (bV.f α) [] [],.bool W,.bool wp,aC m,aC p,g 9,g 10,g 11,g 12,g 13,g 14,g 15,g 16,g 17,g 18,g 19,g 20,g 21,g 22,g 23]).choose_spec,A6,F6⟩
  |false=>
   obtain⟨w1,w2,w3,w4,w5⟩:=round_eq (bV.swo (α:=α)) (partitionEqual_holds bV.lt) om U Q a2 B4 hl (Prod.eta (partitionEqual bV.lt P c l p)).symm;simp(disch:=omega)only[go_sem,hz,hl];refine (Ja h6 S N c l p P s om A6 o U Q).mono ?_;rintro _ h7 ⟨rfl,A7,F7⟩;simp(disch:=omega)only[go_sem];refine .inr ⟨by simp,l-(partitionEqual bV.lt P c l p).1,om,(partitionEqual bV.lt P c l p).1,l,G,W,wp,_,aB rfl,w2,o,om,a3,u,w,w4,A7,fS F6 F7,λR r1 r2=>?_,rfl⟩;obtain⟨t1,t2⟩:=w5 R r1 r2;exact K R (permIn_trans _ _ _ c l P4 t1) t2
 clear A F;rintro y h6 ⟨g,rfl,A,F⟩;have e8:=Ou m (k:=8) (m:=8) rfl;simp(disch:=omega)only[go_sem];refine (yP h6 S N c l p P s om A o U Q).mono ?_;obtain⟨r,hr⟩:=exI (partition bV.lt P c l p);rw[hr];obtain⟨q,ap,e5⟩:=r;obtain⟨w1,w2,w3,w4,w5,w6,w7⟩:=round_part (bV.swo (α:=α)) (partition_holds bV.lt) U Q a2 B4 hr;rintro _ h7 ⟨rfl,A7,F7⟩;have A7:dK h7 S N e5:=A7;have F7:=fS F F7;have el:(q:Int)-(c:Int)=((q-c:Nat):Int):=om
 have er:(l:Int)-(q:Int)=((l-q:Nat):Int):=om
 have e1:(q:Int)+1=((q+1:Nat):Int):=om
 simp(disch:=omega)only[go_sem,el,er,e8];refine bA (λht=>?_) (λht=>?_)
 ·simp(disch:=omega)only[go_sem]
  refine (ih (q-c) om h7 S N c q G e5 s hN A7 w1 om (eH _) u w w4).mono ?_;rintro _ h8 ⟨L,A8,p8,s8,F8⟩;obtain⟨u1,u2⟩:=w6 L p8 s8;simp(disch:=omega)only[go_sem,e1];refine⟨l-(q+1),om,q+1,l,G,_,ap,L,aB rfl,om,o,om,a3,u,w,u1,A8,fS F7 F8,λR r1 r2=>?_,rfl⟩;obtain⟨t1,t2⟩:=u2 R r1 r2;exact K R (permIn_trans _ _ _ c l P4 t1) t2
 ·simp(disch:=omega)only[go_sem,e1]
  refine (ih (l-(q+1)) om h7 S N (q+1) l G e5 s hN A7 om o (eH _) u w w5).mono ?_;rintro _ h8 ⟨L,A8,p8,s8,F8⟩;obtain⟨u1,u2⟩:=w7 L p8 s8;simp(disch:=omega)only[go_sem];refine⟨q-c,om,c,q,G,_,ap,L,aB rfl,om,om,a8,om,u,w,u1,A8,fS F7 F8,λR r1 r2=>?_,rfl⟩;obtain⟨t1,t2⟩:=u2 R r1 r2;exact K R (permIn_trans _ _ _ c l P4 t1) t2
theorem Ui  {α:Type}[Inhabited α][O:bV α](n:Nat):DN (α:=α) n:=by
 induction n using Nat.strongRecOn with
 |_ n ih=>exact ED n  ih
theorem Xs {α:Type}[Inhabited α][O:bV α](h:H)(S N:Nat)(d:Array α)(a:pF)(g:N<60000)(A:dK h S N d):
  Ev T 186 [.sl S 0 N a,.fn (bV.f α) [] []] h (λ_ h'=> ∃e,dK h' S N e/\PermIn 0 N d e/\SortedIn bV.lt 0 N e/\Fx (· =S) h h'):=by
 refine cT eM rfl ?_
 have j:bitsLen N<=16:=(bitsLen_le_iff _ 16).2 om
 simp(disch:=omega)only[go_sem,eM,aD,eS (n:=(N:Int)) om om]
 refine (EL N h om).mono ?_
 rintro _ b ⟨rfl,i⟩
 subst i
 simp(disch:=omega)only[go_sem]
 refine (Ui N b S N 0 N _ d a g A om om om om om (.inl rfl)).mono ?_
 rintro _ k ⟨e,c,p,s,F⟩
 simp(disch:=omega)only[go_sem]
 exact⟨e,c,p,s,F⟩
theorem Br (a:Int)(h:H):Ev T 198 [aC a] h (λv h'=>v= .bool false/\h'=h):=by
 refine cT mP rfl ?_;have e:decide (a≠a)=false:=bE om;simp(disch:=omega)only[go_sem,mP,aD,e]
def rP (a b:Int):Int:=if a<b then -1 else if b<a then 1 else 0
theorem yQ (a b:Int)(h:H):Ev T 147 [aC a,aC b] h (λv h'=>v= aC (rP a b)/\Fr h h'):=by
 refine cT uK rfl ?_;simp(disch:=omega)only[go_sem,uK,aD];refine (Br a h).mono ?_;rintro _ c ⟨rfl,rfl⟩;simp(disch:=omega)only[go_sem];refine (Br b c).mono ?_;rintro _ g ⟨rfl,rfl⟩;simp(disch:=omega)only[go_sem];unfold rP
 by_cases c:a<b
 ·have e:=bN c
  simp(disch:=omega)only[go_sem,e,bJ c];exact Fr.refl _
 ·have e:=bE c
  by_cases d:b<a
  ·have f:=bN d
   simp(disch:=omega)only[go_sem,e,f,bL c,bJ d];exact Fr.refl _
  ·have f:=bE d
   simp(disch:=omega)only[go_sem,e,f,bL c,bL d];exact Fr.refl _
def OS:List Int->Int
 | []=>0
 |x::r=>if x=0 then OS r else x
theorem RQ {l:List Int}{i:Nat}(hi:i<l.length)(h:l.getD i 0=0):OS (l.drop i)=OS (l.drop (i+1)):=by
 rw[BT hi];show (if l[i]=0 then _ else _)=_;rw[bJ (by rw[List.getD,dF hi] at h;exact h)]
theorem abR {l:List Int}{i:Nat}(hi:i<l.length)(h:l.getD i 0≠0):OS (l.drop i)=l.getD i 0:=by
 rw[BT hi];show (if l[i]=0 then _ else l[i])=_;have e:l.getD i 0=l[i]:=by rw[List.getD,dF hi];rfl
 rw[bL (by rw[←e];exact h),e]
theorem aiX (u:V)(l:List Int)(h:H)(A:l.length<1000000)(p:SI h u l):Ev T 191 [u] h (λv h'=>v= aC (OS l)/\Fr h h'):=by
 refine cT Ih rfl ?_;have y:=p.lens;obtain⟨id,m,s,k,r⟩:=p.open;simp(disch:=omega)only[go_sem,Ih,aD,y];refine aI (λo t z=> ∃(i:Nat),(∃g:Nat->V,t= [u,aC 0,aC 0,g 3,u,aC (l.length:Int),aC i,g 7,g 8])/\i<=l.length/\OS (l.drop i)=OS l/\Fr h z/\o=l.length-i) l.length
   ⟨0,aB rfl,fR _,rfl,Fr.refl h,rfl⟩ ?_
 rintro o q w ⟨i,⟨g,rfl⟩,hi,c,f,rfl⟩
 by_cases b:(i:Int)<(l.length:Int)
 ·have j:=bN b
  have a:i<l.length:=om
  have ci:w.cell id (m+i)=some (aC (l.getD i 0)):=by rw[f.cell (k om),r i a]
  generalize n:l.getD i 0=x at ci;simp(disch:=omega)only[go_sem,j,s.ixa,ci]
  by_cases d:x=0
  ·have e:decide (x≠0)=false:=bE (by simpa using d)
   simp(disch:=omega)only[go_sem,e];rw[dU i];exact⟨l.length-(i+1),om,i+1,aB rfl,om,by rw[←RQ a (n.trans d)];exact c,f.bH om,rfl⟩
  ·have e:=bN d
   simp(disch:=omega)only[go_sem,e];exact⟨by rw[←c,abR a (by rw[n];exact d),n],f.bH om⟩
 have j:=bE b;obtain rfl:i=l.length:=om
 simp(disch:=omega)only[go_sem,j];rw[List.drop_length] at c;exact⟨by rw[←c];rfl,f⟩
structure KE where
 rep:V
 ord:Nat
 size:Nat
 ranks:V
 fst:Nat
 hrep:rep.cells= [rep]/\rep.one=true/\dB rep rep=true
 hranks:ranks.cells= [ranks]/\ranks.one=true/\dB ranks ranks=true
instance:Inhabited KE:=⟨⟨.aE,0,0,.aE,0,⟨rfl,rfl,rfl⟩,⟨rfl,rfl,rfl⟩⟩⟩
def KE.enc (a:KE):List V:= [a.rep,aC (a.ord:Int),aC (a.size:Int),a.ranks]
def KE.cmp (a b:KE):Int:=OS [rP a.ord b.ord,rP a.size b.size,rP a.fst b.fst]
def KE.lt (a b:KE):Bool:=decide (a.cmp b<0)
theorem Hp (a:KE)(h:H):En h (.agg a.enc)=some (.ptr h.next 0,h.new (.cells false a.enc)):=tJ h _ (by simp [KE.enc,a.hrep.2.1,a.hranks.2.1,show (aC (a.ord:Int)).one=true from rfl,show (aC (a.size:Int)).one=true from rfl])
theorem LU (a b:KE)(h:H):Ev T 188 [.agg a.enc,.agg b.enc] h (λv h'=>v= aC (rP a.ord b.ord)/\Fr h h'):=by
 refine cT oX rfl ?_;obtain⟨A,e⟩:=exI h.next;obtain⟨s,j,d,o,u,n⟩:=cU e a.enc;obtain⟨c,i,t,g,f,k⟩:=cU d b.enc;have l:c.get A=some (.cells false a.enc):=by rw[f _ om];exact o
 have p:c.cell A 1=some (aC (a.ord:Int)):=by rw[H.aF l];rfl
 have m:c.cell (A+1) 1=some (aC (b.ord:Int)):=by rw[H.aF g];rfl
 simp(disch:=omega)only[go_sem,oX,aD,Hp,e,j,d,i,p,m];refine (yQ _ _ c).mono ?_;rintro _ r ⟨rfl,q⟩;simp(disch:=omega)only[go_sem];exact (n.trans k).trans q
theorem wE (a b:KE)(h:H):Ev T 189 [.agg a.enc,.agg b.enc] h (λv h'=>v= aC (rP a.size b.size)/\Fr h h'):=by
 refine cT rH rfl ?_;obtain⟨A,e⟩:=exI h.next;obtain⟨s,j,d,o,u,n⟩:=cU e a.enc;obtain⟨c,i,t,g,f,k⟩:=cU d b.enc;have l:c.get A=some (.cells false a.enc):=by rw[f _ om];exact o
 have p:c.cell A 2=some (aC (a.size:Int)):=by rw[H.aF l];rfl
 have m:c.cell (A+1) 2=some (aC (b.size:Int)):=by rw[H.aF g];rfl
 simp(disch:=omega)only[go_sem,rH,aD,Hp,e,j,d,i,p,m];refine (yQ _ _ c).mono ?_;rintro _ r ⟨rfl,q⟩;simp(disch:=omega)only[go_sem];exact (n.trans k).trans q
def KE.At (h:H)(a:KE):Prop:= ∃id off n cap,a.ranks= .sl id off (n+1) cap/\id<h.next/\h.cell id off=some (aC (a.fst:Int))
theorem LM (a b:KE)(h:H)(t:a.At h)(z:b.At h):Ev T 190 [.agg a.enc,.agg b.enc] h (λv h'=>v= aC (rP a.fst b.fst)/\Fr h h'):=by
 refine cT pD rfl ?_;obtain⟨A,u⟩:=exI h.next;obtain⟨h1,G,r,O,o1,Z⟩:=cU u a.enc;obtain⟨c,B,n2,W,x,J⟩:=cU r b.enc;obtain⟨m,g,K,y,U,w,P⟩:=t;obtain⟨j,l,F,L,N,lb,R⟩:=z;have F2:=Z.trans J;have Y:c.get A=some (.cells false a.enc):=by rw[x _ om];exact O
 have p:c.cell A 3=some a.ranks:=by rw[H.aF Y];rfl
 have n:c.cell (A+1) 3=some b.ranks:=by rw[H.aF W];rfl
 rw[U] at p;rw[N] at n;have q:c.cell m g=some (aC (a.fst:Int)):=by rw[F2.cell w];exact P
 have s:c.cell j l=some (aC (b.fst:Int)):=by rw[F2.cell lb];exact R
 simp(disch:=omega)only[go_sem,pD,aD,Hp,u,G,r,B,p,n,q,s];refine (yQ _ _ _).mono ?_;rintro _ d ⟨rfl,Q⟩;have e:Fr c d:=((Fr.refl c).bH om).trans Q;have t:=F2.next;have k:d.cell A 3=some (.sl m g (K+1) y):=by rw[e.cell om];exact p
 have f:d.cell (A+1) 3=some (.sl j l (F+1) L):=by rw[e.cell om];exact n
 have o:d.cell m g=some (aC (a.fst:Int)):=by rw[e.cell om];exact q
 have i:d.cell j l=some (aC (b.fst:Int)):=by rw[e.cell om];exact s
 simp(disch:=omega)only[go_sem,k,f,o,i];exact F2.trans e
theorem Cb {h:H}{A:Nat}{ro:Bool}{a:KE}(b:h.get A=some (.cells ro a.enc)):h.row A 0 4=some a.enc:=by
 simp [H.row,b,sub,KE.enc]
theorem Jm (a:KE):dB (.agg a.enc) (.agg a.enc)=true:=by
 show tI a.enc a.enc=true;simp [KE.enc,tI,dB,a.hrep.2.2,a.hranks.2.2]
theorem KE.At.fr {a:KE}{h h':H}(x:a.At h)(f:Fr h h'):a.At h':=by
 obtain⟨d,c,e,j,g,b,i⟩:=x;exact⟨d,c,e,j,g,jB b f.next,by rw[f.cell b];exact i⟩
theorem ES (h:H)(x y z:Int):mH h 1 [aC 0] 3 [(0,1,aC x),(1,1,aC y),(2,1,aC z)]=some (.sl h.next 0 3 (.kn 3),h.new (.cells false (ints [x,y,z]))):=rfl
theorem aaZ (a b:KE)(h:H)(W:a.At h)(J:b.At h):Ev T 187 [.agg a.enc,.agg b.enc] h (λv h'=>v= aC (a.cmp b)/\Fr h h'):=by
 refine cT Am rfl ?_;obtain⟨A,y⟩:=exI h.next;obtain⟨h1,L,s,O,o1,Y⟩:=cU y a.enc;obtain⟨f,K,n2,g,F,N⟩:=cU s b.enc;have F2:=Y.trans N;have U:f.get A=some (.cells false a.enc):=by rw[F _ om];exact O
 simp(disch:=omega)only[go_sem,Am,aD,Hp,y,L,s,K,Cb U,Cb g,Jm,H.Zj];have hn:=F2.next;refine (LU a b _).mono ?_;rintro _ o ⟨rfl,t⟩;have x:Fr f o:=((Fr.refl f).bH om).trans t;have m:o.get (A+1)=some (.cells false b.enc):=by rw[x.get _ om];exact g
 simp(disch:=omega)only[go_sem,Cb m,Jm];refine (wE a b _).mono ?_;rintro _ Q ⟨rfl,u⟩;have i:=x.trans u;have j:Q.get (A+1)=some (.cells false b.enc):=by rw[i.get _ om];exact g
 simp(disch:=omega)only[go_sem,Cb j,Jm];refine (LM a b _ (W.fr (F2.trans i)) (J.fr (F2.trans i))).mono ?_;rintro _ e ⟨rfl,r⟩;have l:=i.trans r;have q:e.get (A+1)=some (.cells false b.enc):=by rw[l.get _ om];exact g
 simp(disch:=omega)only[go_sem,Cb q,Jm];obtain⟨I,P⟩:=exI (f.next+9+9);have n5:=r.next;have n4:=u.next;have n3:f.next+9+12<=o.next:=t.next;simp(disch:=omega)only[go_sem,P,ES]
 obtain⟨d,c⟩: ∃d:H,d=H.mk ((H.mk e.tr I).new (Ob.cells false (ints [rP a.ord b.ord,rP a.size b.size,rP a.fst b.fst]))).tr e.next:=⟨_,rfl⟩
 rw[←c];have R:d.get I=aY (ints [rP a.ord b.ord,rP a.size b.size,rP a.fst b.fst]):=by rw[c];exact H.aL (H.mk e.tr I) _
 have n6:d.next=e.next:=by rw[c]
 have G: ∀k,k≠I->d.get k=e.get k:=λk n=>by rw[c];exact H.bD (H.mk e.tr I) (by simpa using n) _
 have Z:Fr f d:=⟨by have:=l.next;omega,λk n=>by rw[G k om];exact l.get k n⟩
 refine (aiX _ [rP a.ord b.ord,rP a.size b.size,rP a.fst b.fst] d (by simp) (SV.all (by simp [aP]) om R _)).mono ?_;rintro _ B ⟨rfl,z⟩;have w:=Z.trans z;have p:B.get (A+1)=some (.cells false b.enc):=by rw[w.get _ om];exact g
 simp(disch:=omega)only[go_sem,Cb p,Jm];exact⟨rfl,F2.trans w⟩
theorem KE.lt_iff (a b:KE):a.lt b=true↔a.ord<b.ord∨a.ord=b.ord/\(a.size<b.size∨a.size=b.size/\a.fst<b.fst):=by
 unfold KE.lt KE.cmp OS OS OS OS rP;rw[decide_eq_true_eq]
 repeat' split
 all_goals omega
theorem afT:SWO KE.lt where
 irrefl x:=by rw[←Bool.not_eq_true,KE.lt_iff];omega
 trans x y z h1 h2:=by rw[KE.lt_iff] at*;omega
 ntrans x y z h1 h2:=by rw[←Bool.not_eq_true,KE.lt_iff] at*;omega
def KE.Pp (hB:H)(b0 S:Nat)(a:KE):Prop:= ∃id off n cap,a.ranks= .sl id off (n+1) cap/\id<b0/\id≠S/\hB.cell id off=some (aC (a.fst:Int))
def Bb (hB:H)(b0 S:Nat)(h:H):Prop:=b0<=h.next/\ ∀q,q<b0->q≠S->h.get q=hB.get q
theorem KE.Pp.at {i h:H}{g S:Nat}{a:KE}(p:a.Pp i g S)(b:Bb i g S h):a.At h:=by
 obtain⟨id,c,n,d,e,f,j,k⟩:=p;refine⟨id,c,n,d,e,jB f b.1,?_⟩;rw[←k];unfold H.cell;rw[b.2 id f j]
@[reducible] def aiY (hB:H)(b0 S:Nat):bV KE where
 lt:=KE.lt
 enc:=KE.enc
 P:=KE.Pp hB b0 S
 B:=Bb hB b0 S
 f:=187
 b0:=b0
 S:=S
 swo:=afT
 len _:=rfl
 one a:=by simp [KE.enc,a.hrep.2.1,a.hranks.2.1,show (aC (a.ord:Int)).one=true from rfl,show (aC (a.size:Int)).one=true from rfl]
 eqv:=Jm
 cmp h a b hb pa pb:=(aaZ a b h (pa.at hb) (pb.at hb)).mono λv h' ⟨e,f⟩=>⟨_,e,rfl,f⟩
 bfr h h' b f:=⟨lX b.1 f.next,λq h1 h2=>by rw[f.get q (jB h1 b.1)];exact b.2 q h1 h2⟩
 bS h h' b f:=⟨lX b.1 f.next,λq h1 h2=>by rw[f.get q (jB h1 b.1) h2];exact b.2 q h1 h2⟩
 bR h h' R b hR f:=⟨lX b.1 f.next,λq h1 h2=>by rw[f.get q (jB h1 b.1) (λe=>by have:q=R:=e;omega)];exact b.2 q h1 h2⟩
 bn h b:=b.1
theorem Pj {l:List KE}{N:Nat}(h:l.length=N){e:Array KE}(n:PermIn 0 N l.toArray e)(p:SortedIn KE.lt 0 N e):e.toList.Perm l/\e.toList.Pairwise (λa b=>KE.lt b a=false):=by
 obtain⟨r,t,k⟩:=n;have c:e.size=N:=by rw[r];simpa using h
 refine⟨?_,?_⟩
 ·have q:(e.extract 0 N).toList=e.toList:=by rw[←c];simp
  have o:(l.toArray.extract 0 N).toList=l:=by rw[←h];simp
  rwa [q,o] at k
 ·rw[OP]
  intro i j hi f g;have d:j<N:=by simpa [c] using f
  have:=p i j (fR _) g d;have s:e[i]! =e.toList[i]:=by simp at hi;simp [hi]
  have m:e[j]! =e.toList[j]:=by simp at f;simp [f]
  rw[s,m] at this;exact this
def rJ (l:List KE):List V:=l.flatMap KE.enc
theorem VJ (h:H)(S d:Nat)(l:List KE)(f:pF)(g:l.length<60000)(q:h.get S=aY (rJ l))(m:S<h.next)(k:d<=h.next)(r: ∀a∈l,a.Pp h d S):
  Ev T 186 [.sl S 0 l.length f,.fn 187 [] []] h (λ_ h'=> ∃l',h'.get S=aY (rJ l')/\l'.Perm l/\l'.Pairwise (λa b=>KE.lt b a=false)/\Fx (· =S) h h'):=by
 letI:=aiY h d S
 have A:dK h S l.length l.toArray:=⟨q,by simp,m,rfl,⟨k,λ_ _ _=>rfl⟩,λi hi=>by
  have c:i<l.length:=by simpa using hi
  have:l.toArray[i]! =l[i]:=by simp [c]
  rw[this]
  exact r _ (Bu c)⟩
 refine (Xs h S l.length l.toArray f g A).mono ?_
 rintro _ h' ⟨e,o,p,s,F⟩
 obtain⟨n,j⟩:=Pj rfl p s
 exact⟨e.toList,o.get,n,j,F⟩
end Go.Proofs.YtcdbmkidaecdiaaGreat.Cls
namespace Go.Proofs.YtcdbmkidaecdiaaGreat
open Go Go.Ay Go.Pm
set_option maxRecDepth 100000
section
variable {i j p:Nat} {S:LN} {Q:List Nat}
section
variable {n:Nat} {G:List Nat->Prop} {L:LN}
theorem Ee {l:LN}(nd:l.Nodup)(hi:i<l.length)(b:j<l.length)(e:l.getD i []=l.getD j []):i=j:=by
 have c:l.getD i []=l[i]:=by rw[List.getD,dF hi];rfl
 have d:l.getD j []=l[j]:=by rw[List.getD,dF b];rfl
 rw[c,d] at e;have h:=OP.1 nd;rcases Nat.lt_trichotomy i j with a|a|a
 ·exact absurd e (h i j hi b a)
 ·exact a
 ·exact absurd e.symm (h j i b hi a)
def cR (G:List Nat->Prop)(L:LN)(i j:Nat):Prop:=cj G (L.getD i []) (L.getD j [])
open Classical in
noncomputable def kG (G:List Nat->Prop)(L:LN)(i:Nat):List Nat:=(List.range L.length).filter λj=>decide (cR G L i j)
theorem tG:j∈kG G L i↔j<L.length/\cR G L i j:=by
 classical
 unfold kG;rw[GI,Lk,Ss]
theorem AH (i:Nat):(kG G L i).Pairwise (· < ·):=by
 classical
 unfold kG;exact List.Pairwise.filter _ List.pairwise_lt_range
theorem Ms (i:Nat):(kG G L i).Nodup:=by
 classical
 unfold kG;exact List.Pairwise.filter _ List.nodup_range
def JL (G:List Nat->Prop)(L:LN)(i:Nat):Prop:= ∀j,j<i-> ¬cR G L j i
open Classical in
noncomputable def jY (G:List Nat->Prop)(L:LN)(k:Nat):List Nat:=(List.range k).filter λj=>decide (JL G L j)
theorem Mn (k:Nat):(JL G L k->jY G L (k+1)=jY G L k++ [k])/\(¬JL G L k->jY G L (k+1)=jY G L k):=by
 classical
 unfold jY;rw[List.range_succ,List.filter_append];refine⟨λh=>?_,λh=>?_⟩
 ·rw[List.filter_cons_of_pos (by simpa using h)];rfl
 ·rw[List.filter_cons_of_neg (by simpa using h),List.filter_nil,tD]
theorem pU {k:Nat}:i∈jY G L k↔i<k/\JL G L i:=by
 classical
 unfold jY;rw[GI,Lk,Ss]
variable (hG:iJ n G) (E:dZ G L)
include hG E
omit hG in
theorem Bp (hi:i<L.length):G (L.getD i []):=(E.mem _).1 (aW hi)
theorem mV (hi:i<L.length):bC n (L.getD i []):=hG.cX (Bp E hi)
theorem Vw (hi:i<L.length):cR G L i i:=adF hG (mV hG E hi)
theorem Lr (hi:i<L.length)(h:cR G L i j):cR G L j i:=YK hG (mV hG E hi) h
theorem wZ {k:Nat}(hi:i<L.length)(h:cR G L i j)(h2:cR G L j k):cR G L i k:=PU hG (mV hG E hi) h h2
theorem CM (hi:i<L.length): ∃r,r<=i/\JL G L r/\cR G L r i:=by
 induction i using Nat.strongRecOn with
 |_ i ih=>
  by_cases h:JL G L i
  ·exact⟨i,eH _,h,Vw hG E hi⟩
  ·obtain⟨j,b,a⟩: ∃j,j<i/\cR G L j i:=Kh λe=>h λj b a=>e ⟨j,b,a⟩
   obtain⟨r,f,c,d⟩:=ih j b om;exact⟨r,om,c,wZ hG E om d a⟩
theorem UI {r s:Nat}(d:r<L.length)(b:s<L.length)(e:JL G L r)(h2:JL G L s)(a:cR G L r i)(c:cR G L s i):r=s:=by
 have g:=wZ hG E d a (Lr hG E b c);have f:=wZ hG E b c (Lr hG E d a);rcases Nat.lt_trichotomy r s with h|h|h
 ·exact absurd g (h2 r h)
 ·exact h
 ·exact absurd f (e s h)
omit hG E in
structure BQ (G:List Nat->Prop)(L S:LN)(i:Nat)(Q:List Nat)(p:Nat):Prop where
 nd:Q.Nodup
 ne:0<Q.length
 hd:Q.getD 0 0=i
 mem: ∀j∈Q,j<L.length/\cR G L i j
 cl: ∀k,k<p-> ∀s∈S,∃j∈Q,L.getD j []=cW (L.getD (Q.getD k 0) []) s
omit hG E in
theorem BQ.len (b:BQ G L S i Q p):Q.length<=L.length:=by
 have h:Q ⊆ List.range L.length:=λj a=>Lk.2 (b.mem j a).1
 have:=List.Nodup.length_le_of_subset b.nd h;rwa [YI] at this
theorem BQ.done (b:BQ G L S i Q p)(w:Q.length<=p)(hi:i<L.length)(r: ∀s∈S,G s)(a: ∀x,G x->cG n (λg=>g∈S) x)(j:Nat):j∈Q↔j<L.length/\cR G L i j:=by
 refine⟨b.mem j,λ⟨q,hc⟩=>?_⟩
 have f: ∃k∈Q,L.getD k []=L.getD j []:=by
  refine afA (S:=λg=>g∈S) (λg h=>hG.cX (r g h)) a (P:=λy=> ∃k∈Q,L.getD k []=y) (mV hG E hi) ⟨i,by rw[←b.hd];exact aW b.ne,rfl⟩ ?_ hc;rintro y g Y ⟨k,c,rfl⟩ h;obtain⟨t,v,m⟩:=wV.1 c;obtain⟨o,u,l⟩:=b.cl t om g h;have e:Q.getD t 0=k:=by rw[Pm.cL v,m]
  rw[e] at l;exact⟨o,u,l⟩
 obtain⟨k,c,e⟩:=f;have d:=(b.mem k c).1;rw[←Ee E.nodup d q e];exact c
theorem BQ.sort (b:BQ G L S i Q p)(e:Q.length<=p)(hi:i<L.length)(f: ∀s∈S,G s)(a: ∀x,G x->cG n (λg=>g∈S) x){c:List Int}(d:c.Perm (zi Q))(h2:c.Pairwise (· <= ·)):c=zi (kG G L i):=by
 refine Xw (d.trans ?_) h2 ?_
 ·refine List.Perm.map _ ((List.perm_ext_iff_of_nodup b.nd (Ms i)).2 λj=>?_)
  rw[b.done hG E e hi f a j,tG]
 ·unfold zi
  rw[List.pairwise_map];exact (AH i).imp λh=>om
theorem Tu (hi:i<L.length)(l:JL G L i):0<(kG G L i).length/\(kG G L i).getD 0 0=i:=by
 have e:i∈kG G L i:=tG.2 ⟨hi,Vw hG E hi⟩;have a:=KH e;refine⟨a,?_⟩;have f:=tG.1 (aW (d:=0) a);obtain⟨k,g,h⟩:=wV.1 e;have c:=OP.1 (AH (G:=G) (L:=L) i);rw[Pm.cL a] at*
 by_cases b:k=0
 ·subst b;exact h
 ·have m:=c 0 k a g om
  exact absurd (Lr hG E hi f.2) (l _ om)
end
end
end Go.Proofs.YtcdbmkidaecdiaaGreat
namespace Go.Ay
open Go
def SX (o:Option Ob)(h:H)(id:Nat)(s:Ci)(k y:V):Option (V×H):=match o with
 |some (.wmap sh es)=>if s=sh/\isKey s k=true then
   some (V.undef,h.set id (some (.wmap sh (match fX k es with
    |some e=>es.set e.1 (k,y)
    |none=>es++ [(k,y)]))))
  else none
 |_=>none
def afZ (s:Ci)(h:H)(x k y:V):Option (V×H):=match x with
 | .mp id=>SX (h.get id) h id s k y
 |_=>none
theorem aaK (ρ:X->V)(h:H)(s:Ci)(x k y:X):cK ρ h (.msw s x k y)=afZ s h (ρ x) (ρ k) (ρ y):=by
 simp only[cK,afZ,SX];cases ρ x<;>try rfl
theorem aaD (s:Ci)(h:H)(id:Nat)(k y:V):afZ s h (.mp id) k y=SX (h.get id) h id s k y:=rfl
def XU (o:Option Ob)(s:Ci)(zero:V)(ok:Bool)(k:V):Option V:=match o with
 |some (.wmap sh es)=>if s=sh/\isKey s k=true then
   match fX k es with
   |some e=>some (if ok then .tup [e.2,.bool true] else e.2)
   |none=>some (if ok then .tup [zero,.bool false] else zero)
  else none
 |_=>none
def agB (s:Ci)(zero:V)(ok:Bool)(h:H)(x k:V):Option V:=match x with
 | .mp id=>XU (h.get id) s zero ok k
 |_=>none
theorem aaV (ρ:X->V)(h:H)(s:Ci)(zero:V)(ok:Bool)(x k:X):cK ρ h (.lkw s zero ok x k)=(agB s zero ok h (ρ x) (ρ k)).map (·,h):=by
 simp only[cK,agB,XU];cases ρ x<;>try rfl
 rename_i id;simp only
 cases hg:h.get id with
 |none=>rfl
 |some o=>
  cases o<;>try rfl
  rename_i c b;simp only
  by_cases a:s=c/\isKey s (ρ k)=true
  ·rw[bJ a,bJ a]
   cases fX (ρ k) b<;>rfl
  ·rw[bL a,bL a];rfl
theorem adL (s:Ci)(zero:V)(ok:Bool)(h:H)(id:Nat)(k:V):agB s zero ok h (.mp id) k=XU (h.get id) s zero ok k:=rfl
attribute [go_sem] aaK aaD aaV adL
end Go.Ay
namespace Go.Proofs.YtcdbmkidaecdiaaGreat
open Go Go.Ay Go.Pm
set_option maxRecDepth 100000
def Is (L:LN)(k:Nat):List (V×V):=(List.range k).map λi=>(V.str (L.getD i []),aC i)
theorem Ke (k:V): ∀(a b:List (V×V)),fX k a=none->fX k (a++b)=(fX k b).map λq=>(q.1+a.length,q.2)
 | [],b,_=>by
  cases h:fX k b<;>simp [h]
 |e::a,b,h=>by
  show (if dB k e.1 then some (0,e.2) else (fX k (a++b)).map λq=>(q.1+1,q.2))=_;have c:(if dB k e.1 then some (0,e.2) else (fX k a).map λq=>(q.1+1,q.2))=none:=h;split at c
  ·cases c
  ·rename_i d
   rw[bL d,Ke k a b (by cases h2:fX k a with|none=>rfl|some x=>rw[h2] at c;cases c),Option.map_map]
   rfl
theorem Pz (L:LN)(k:Nat):Is L (k+1)=Is L k++ [(V.str (L.getD k []),aC k)]:=by
 unfold Is;rw[List.range_succ,List.map_append];rfl
theorem Qa {L:LN}{w:List Nat}: ∀{k:Nat},(∀i,i<k->L.getD i []≠w)->fX (.str w) (Is L k)=none
 |0,_=>rfl
 |k+1,h=>by
  rw[Pz,Ke _ _ _ (Qa λi hi=>h i om)]
  have:(dB (.str w) (.str (L.getD k [])))=false:=by
   have:=h k om;simp only[dB,beq_eq_false_iff_ne,ne_eq];exact λe=>this e.symm
  show Option.map _ (if dB (.str w) (.str (L.getD k [])) then _ else _)=_;rw[bL (by rw[this];simp)];rfl
theorem BO {L:LN}(nd:L.Nodup): ∀{k i:Nat},k<=L.length->i<k->fX (.str (L.getD i [])) (Is L k)=some (i,aC i)
 |0,i,_,h=>om
 |k+1,i,hk,h=>by
  rw[Pz]
  by_cases e:i=k
  ·subst e
   rw[Ke _ _ _ (Qa λj l e=>by have:=Ee nd om om e;omega)];show Option.map _ (if dB (.str (L.getD i [])) (.str (L.getD i [])) then some (0,aC i) else _)=_;rw[bJ (by simp [dB])];simp [Is]
  ·have g:=BO nd (k:=k) om (show i<k by omega)
   have d: ∀(a b:List (V×V)) (x:V) (r:Nat×V),fX x a=some r->fX x (a++b)=some r:=by
    intro a
    induction a with
    |nil=>intro b x r h;cases h
    |cons y a ih2=>
     intro b x r h;show (if dB x y.1 then some (0,y.2) else (fX x (a++b)).map λq=>(q.1+1,q.2))=_;have c:(if dB x y.1 then some (0,y.2) else (fX x a).map λq=>(q.1+1,q.2))=some r:=h
     by_cases f:dB x y.1=true
     ·rw[bJ f] at c ⊢;exact c
     ·rw[bL f] at c ⊢
      cases h2:fX x a with
      |none=>rw[h2] at c;cases c
      |some r2=>rw[h2] at c;rw[ih2 b x r2 h2];exact c
   exact d _ _ _ _ g
theorem yF {w:List Nat}(b:w.length<=1000)(h2: ∀x∈w,x<256):isKey .str (.str w)=true:=by
 have e:(decide (w.length<2^62)&&w.all λn=>decide (n<256))=true:=by
  rw[vV,decide_eq_true_eq,Lw];exact⟨om,λx a=>by simpa using h2 x a⟩
 exact e
theorem Xv {L:LN}(nd:L.Nodup){k:Nat}(b:k<L.length)(c:isKey .str (.str (L.getD k []))=true)(a:H)(M:Nat):
  SX (some (.wmap .str (Is L k))) a M .str (.str (L.getD k [])) (aC k)=some (.undef,a.set M (some (.wmap .str (Is L (k+1))))):=by
 have e:fX (.str (L.getD k [])) (Is L k)=none:=Qa λj d e=>by have:=Ee nd om b e;omega
 simp only[SX]
 rw[bJ ⟨trivial,c⟩,e,Pz]
theorem Pn {L:LN}(nd:L.Nodup){i:Nat}(hi:i<L.length)(a:isKey .str (.str (L.getD i []))=true)(z:V):
  XU (some (.wmap .str (Is L L.length))) .str z false (.str (L.getD i []))=some (aC i):=by
 simp only[XU]
 rw[bJ ⟨trivial,a⟩,BO nd (eH _) hi];rfl
end Go.Proofs.YtcdbmkidaecdiaaGreat
