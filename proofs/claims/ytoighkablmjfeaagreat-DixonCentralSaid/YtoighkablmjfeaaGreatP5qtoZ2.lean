/- Texts of the claim. -/
import Derived.Test.YtoighkablmjfeaaGreatAy14toP5p
import Derived.Sort.AssemblyPlain
set_option maxHeartbeats 64000000
set_option maxRecDepth 100000
namespace Go.Proofs.YtoighkablmjfeaaGreat
open Go Go.Ay Go.Pm
section
variable {n i:Nat} {O:List (List Int)} {R:List (List (List Int))}
def QW (n:Nat)(O:List (List Int))(R:List (List (List Int)))(j:Nat):Prop:=((R.getD j []).length=(O.getD j []).length/\(R.getD j []).length<=n-j)/\ ∀x∈R.getD j [],x.length=n/\rH x=true
theorem VX.of (a:O.length=n)(h2:R.length=n)(h: ∀j,j<n->QW n O R j):VX n O R:=⟨a,h2,λi hi=>(h i hi).1,λi hi=>(h i hi).2⟩
theorem Kk (a:1<=n)(h2:n<=64)(h: ¬VX n O R):To (n:Int) O R=3:=by
 unfold To;rw[aQ om,aQ (λc=>h c.frm)]
theorem bF {α:Type}{l:List α}{k:Nat}{d:α}(h:k<l.length):l.getD k d∈l:=by
 rw[List.getD,dJ h];exact Hn h
theorem iW {α:Type}{l:List α}{k:Nat}(d:α)(h:k<l.length):l.take (k+1)=l.take k++ [l.getD k d]:=by
 rw[<-List.take_append_getElem h,List.getD,dJ h];rfl
theorem qX {R:List (List (List Int))}{m:Nat}:{i:Nat}->i<=R.length->(∀j,j<i->(R.getD j []).length<=m)->((R.take i).flatten).length<=i*m
 |0,_,_=>by simp
 |i+1,h,hr=>by
  rw[<-List.take_append_getElem (show i<R.length by omega),List.flatten_append,eE];have b:=qX (i:=i) om (λj c=>hr j om);have a:=hr i om;rw[List.getD,dJ om] at a;have a:R[i].length<=m:=a;simp only[List.flatten_cons,List.flatten_nil,qH];rw[Nat.succ_mul];omega
theorem Hg {G:List Nat->Prop}(b: ∀x,G x->bJ n x){O:LN}{R:nZ}(f:n<=64)(c:eD n G O R):Li (O.map zi)/\vE (R.map (List.map zi)):=by
 have d: ∀i,i<n->(O.getD i []).length<=n:=λi hi=>kQ (yP b hi (c.asc i hi) (c.mem i hi)) om
 refine⟨⟨by rw[dO,c.lo];omega,λi hi=>?_⟩,⟨by rw[dO,c.lr];omega,λi hi=>?_⟩⟩
 .rw[dO,c.lo] at hi
  have:(O.map zi).getD i []=zi (O.getD i []):=by simp [List.getD,show i<O.length by rw[c.lo];exact hi]
  rw[this,bD];have:=d i hi;omega
 .rw[dO,c.lr] at hi
  have e:(R.map (List.map zi)).getD i []=(R.getD i []).map zi:=by simp [List.getD,show i<R.length by rw[c.lr];exact hi]
  rw[e,dO,c.rl i hi];refine⟨by have:=d i hi;omega,λk a=>?_⟩
  have:((R.getD i []).map zi).getD k []=zi ((R.getD i []).getD k []):=by
   have:=c.rl i hi;simp [List.getD,show k<(R[i]?.getD []).length by simp [List.getD] at this a;omega]
  rw[this,bD,(b _ (c.rep i hi k a).mem).len];omega
theorem vE.out (s:vE R):Ul R:=⟨s.1,λi hi=>(s.2 i hi).1⟩
theorem Ul.DL (s:Ul R)(f: ∀i,i<R.length-> ∀x∈R.getD i [],x.length=n)(b:n<=64):vE R:=⟨s.1,λi hi=>⟨s.2 i hi,λk a=>by rw[f i hi _ (bF a)];omega⟩⟩
theorem NS {α:Type}{R:List (List α)}(hi:i<R.length):(R.take (i+1)).flatten=(R.take i).flatten++R.getD i []:=by
 rw[<-List.take_append_getElem hi,List.flatten_append];simp [List.getD,hi]
structure JR (h hh:H)(B id b:Nat)(r:dP)(n:Nat)(vO vR:V)(O:List (List Int))(R:List (List (List Int)))(i:Nat)(acc:List (List Int)):Prop where
 gB:hh.get B=some (.cells false [aC n,vO,vR])
 gR:hh.get (B+1)=some (.cells false [aC 0])
 gN:hh.get (B+1+1)=some (.cells false [aC n])
 gA: ∃va ws,hh.get (B+1+1+1)=some (.cells false [va])/\dF hh va 1 ws (id+1)/\bH (SI h) ws acc
 gr:hh.get id=some (.loop r)
 gb:hh.get b=some (.cells false [aC n,vO,vR])
 nx:id<hh.next
 fr:Fr h hh
 rows: ∀j,j<i->QW n O R j
structure CkD (h hh:H)(B id:Nat)(r:dP)(n:Nat)(O:List (List Int))(R:List (List (List Int))):Prop where
 gR:hh.get (B+1)=some (.cells false [aC 3])
 gr:hh.get id=some (.loop (Cy r .ret))
 nx:id<hh.next
 fr:Fr h hh
 bad: ¬VX n O R
theorem JR.mono {h j h2:H}{B id b:Nat}{r:dP}{d k:V}{c:List (List Int)}(J:JR h j B id b r n d k O R i c)(m:B+1+1+1<id)(s:b<id)(f:Fr j h2):JR h h2 B id b r n d k O R i c:=by
 obtain⟨l,q,g,o,a⟩:=J.gA;have:=J.nx;exact⟨by rw[f.get _ om];exact J.gB,by rw[f.get _ om];exact J.gR,by rw[f.get _ om];exact J.gN,⟨l,q,by rw[f.get _ om];exact g,o.fr f,a⟩,by rw[f.get _ om];exact J.gr,by rw[f.get _ om];exact J.gb,iD J.nx f.next,J.fr.trans f,J.rows⟩
theorem JR.loop {h d h2:H}{B id b:Nat}{r r2:dP}{f l:V}{c:List (List Int)}(J:JR h d B id b r n f l O R i c)(v:B+1+1+1<id)(y:b<id)(s:h.next<=B)(g:h2.get id=some (.loop r2))(j:h2.next=d.next)(o: ∀k,k≠id->h2.get k=d.get k):JR h h2 B id b r2 n f l O R i c:=by
 obtain⟨u,w,t,q,a⟩:=J.gA;refine⟨by rw[o _ om];exact J.gB,by rw[o _ om];exact J.gR,by rw[o _ om];exact J.gN,⟨u,w,by rw[o _ om];exact t,q.mono om λk _ _ _ _ x _=>o k om,a⟩,g,by rw[o _ om];exact J.gb,by rw[j];exact J.nx,⟨by rw[j];exact J.fr.next,λk m=>by rw[o k om];exact J.fr.get k m⟩,J.rows⟩
theorem Bq (vc:V)(d:Int)(O:List (List Int))(R:List (List (List Int)))(h:H)(hc:ChI h vc d O R)(hd:d<=7\/64<d)(so:Li O)(sr:Ul R):
  Ev T 110 [vc] h (λv h'=>v= aC (To d O R)/\Fr h h'):=by
 obtain⟨o,s,rfl,sO,sR⟩:=hc
 refine mV ?_
 obtain⟨wO,tO,aO⟩:=sO
 obtain⟨wR,tR,aR,kR⟩:=sR
 have lO:=aO.length
 have lR:=aR.length
 have c1:dD o=some (aC (O.length:Int)):=by unfold dD;rw[tO.len (n:=O.length) om om];rfl
 have e6:dD s=some (aC (R.length:Int)):=by unfold dD;rw[tR.len (n:=R.length) om om];rfl
 have a7:=tO.cT.2.1
 have a9:=tR.cT.2.1
 obtain⟨B,hB⟩:=exI h.next
 obtain⟨h1,e1,n1,g1,o1,f1⟩:=iI hB [aC d,o,s]
 obtain⟨h2,e2,n2,g2,o2,f2⟩:=iI n1 [aC 0]
 obtain⟨h3,e3,n3,g3,o3,f3⟩:=iI n2 [aC 0]
 obtain⟨h4,e4,n4,g4,o4⟩:=xN h3 (B+1+1) [aC d]
 have W:h2.get B=some (.cells false [aC d,o,s]):=by rw[o2 _ om];exact g1
 have a5:h4.get B=some (.cells false [aC d,o,s]):=by rw[o4 _ om,o3 _ om];exact W
 have A:h4.get (B+1)=some (.cells false [aC 0]):=by rw[o4 _ om,o3 _ om];exact g2
 have F4:Fr h h4:=by
  refine⟨om,λid b9=>?_⟩;rw[o4 _ om,o3 _ om,o2 _ om,o1 _ om]
 have pt:(a:H)->(id:Nat)->(x y:Int)->dY (some (.cells false [aC x])) a id 0 [aC y]=some (a.set id (some (.cells false [aC y]))):=λa id x y=>bE siM a _ _
 have bx:=dH h (v:= aC d) (u:=o) (w:=s) rfl a7 a9
 have j8:=H.cell_of A
 have a2: ∀z:Int,(h4.set (B+1) (some (.cells false [aC z]))).cell (B+1) 0=some (aC z)/\Fr h (h4.set (B+1) (some (.cells false [aC z]))):=λz=>⟨by rw[H.Aa];rfl,F4.set om _⟩
 by_cases b7:d<1
 .have t:=cV b7
  simp(disch:=omega)only[go_sem,aV,bx,hB,e1,n1,e2,n2,e3,H.cell_of W,g3,pt,e4,H.cell_of g4,t,A]
  exact⟨by unfold To;rw[aS (.inl b7)],(a2 2).2⟩
 have t:=bZ b7
 by_cases b5:64<d
 .have d2:=cV b5
  simp(disch:=omega)only[go_sem,aV,bx,hB,e1,n1,e2,n2,e3,H.cell_of W,g3,pt,e4,H.cell_of g4,t,d2,A]
  exact⟨by unfold To;rw[aS (.inr b5)],(a2 2).2⟩
 have d2:=bZ b5
 obtain⟨n,rfl⟩: ∃n:Nat,d=(n:Int):=⟨d.toNat,om⟩
 have Z:1<=n:=om
 have e8:n<=7:=om
 by_cases b2:(O.length:Int)≠(n:Int)
 .have dl:=cV b2
  simp(disch:=omega)only[go_sem,aV,bx,hB,e1,n1,e2,n2,e3,H.cell_of W,g3,pt,e4,H.cell_of g4,t,d2,A,H.cell_of a5,c1,dl]
  exact⟨by rw[Kk Z om (λf=>b2 (by have:=f.lo;omega))],(a2 3).2⟩
 have dl:=bZ b2
 by_cases b6:(R.length:Int)≠(n:Int)
 .have b0:=cV b6
  simp(disch:=omega)only[go_sem,aV,bx,hB,e1,n1,e2,n2,e3,H.cell_of W,g3,pt,e4,H.cell_of g4,t,d2,A,H.cell_of a5,c1,dl,e6,b0]
  exact⟨by rw[Kk Z om (λf=>b6 (by have:=f.lr;omega))],(a2 3).2⟩
 have b0:=bZ b6
 have d5:h4.next=B+1+1+1:=by rw[n4];exact n3
 obtain⟨h5,e5,n5,g5,o5,f5⟩:=iI d5 [.aH]
 have d0:h5.get B=some (.cells false [aC n,o,s]):=by rw[o5 _ om];exact a5
 have rB:=bU d0
 simp(disch:=omega)only[go_sem,aV,bx,hB,e1,n1,e2,n2,e3,H.cell_of W,g3,pt,e4,H.cell_of g4,t,d2,A,H.cell_of a5,c1,dl,e6,b0,d5,e5,rB]
 refine (IP (n:Int) o s a7 a9 h5).mono ?_
 rintro _ Y ⟨rfl,g6,n6,f6⟩
 refine aT ?_
 have F6:Fr h Y:=(F4.trans f5).trans f6
 have j0:Y.get B=some (.cells false [aC n,o,s]):=by rw[f6.get _ om];exact d0
 have i6:Y.get (B+1)=some (.cells false [aC 0]):=by rw[f6.get _ om,f5.get _ om];exact A
 have j3:Y.get (B+1+1)=some (.cells false [aC n]):=by rw[f6.get _ om,f5.get _ om];exact g4
 have j5:Y.get (B+1+1+1)=some (.cells false [.aH]):=by rw[f6.get _ om];exact g5
 refine⟨rfl,sJ λr hr=>?_⟩
 obtain⟨id,b9⟩:=exI Y.next
 obtain⟨b,hb⟩:=exI h5.next
 rw[hb] at g6 n6
 rw[b9,hb]
 have iS:r.st= .ready:=by rw[hr]
 have b4:r.pend=none:=by rw[hr]
 have j1:R.length=n:=om
 have i4:O.length=n:=om
 have f7:Fr Y (Y.new (.loop r)):=(Fr.refl Y).new _
 have o7: ∀k,k<id->(Y.new (.loop r)).get k=Y.get k:=λk hk=>H.bG Y om _
 have J0:JR h (Y.new (.loop r)) B id b r n o s O R 0 []:=
  ⟨by rw[o7 _ om];exact j0,by rw[o7 _ om];exact i6,by rw[o7 _ om];exact j3,⟨.aH, [],by rw[o7 _ om];exact j5,dF.aH _ _ _,trivial⟩,by rw[<-b9,H.aI],by rw[o7 _ om];exact g6,by rw[H.aM];omega,F6.trans f7,λj hj=>om⟩
 refine (Zp id b (n:Int) o s wR _ (by rw[lR];exact sr.1) (λi a=>JR h a B id b r n o s O R i (R.take i).flatten) (λa=>CkD h a B id r n O R) J0 (λi a J=>⟨J.gb,tR.mono J.fr⟩) ?_).mono ?_
 .rintro i a hi J
  have a1:i<n:=om
  refine pP J.gr (by rw[hr];rfl) iS λU g7 n7 o7=>?_
  rw[congrArg dP.assign hr,congrArg dP.vars hr,congrArg dP.pars hr]
  simp(disch:=omega)only[go_sem,List.zip_cons_cons,List.zip_nil_left]
  rw[congrArg dP.body hr]
  have J7:JR h U B id b (pF r) n o s O R i (R.take i).flatten:=J.loop om om om g7 n7 o7
  have c4:=gH aO (i:=i) om .undef []
  have c9:=gH aR (i:=i) om .undef []
  obtain⟨wr,tr,ar⟩:=c9
  have lr:=ar.length
  have c2:dD (wR.getD i .undef)=some (aC ((R.getD i []).length:Int)):=by unfold dD;rw[tr.len (n:=(R.getD i []).length) om om];rfl
  have c0:=c4.lens
  obtain⟨g9,d8,a3,c7,c5⟩:=(tO.mono J7.fr).shape O.length om om
  have co:U.cell g9 (d8+i)=some (wO.getD i .undef):=by rw[c5 i om,List.getD,dJ om];rfl
  have cB:=H.cell_of J7.gB
  have cN:=H.cell_of J7.gN
  have d9: ∀a P,JR h a B id b (pF r) n o s O R i P-> ¬VX n O R->CkD h ((a.set (B+1) (some (.cells false [aC 3]))).set id (some (.loop (Cy r .ret)))) B id r n O R:=λa P J hb=>by
   have:=J.nx;refine⟨by rw[H.Cj _ om,H.aJ],by rw[H.aJ],J.nx,(J.fr.set om _).set om _,hb⟩
  have yq: ∀a q P,JR h a B id b (pF r) n o s O R i P-> ¬VX n O R->Jp id (λv h'=>v= .bool true/\JR h h' B id b r n o s O R (i+1) (R.take (i+1)).flatten\/v= .bool false/\CkD h h' B id r n O R) .ret q (a.set (B+1) (some (.cells false [aC 3]))):=λa q P J hb=>
   On (by rw[H.Cj _ om];exact J.gr) (.inr ⟨rfl,d9 a P J hb⟩)
  by_cases G:((R.getD i []).length:Int)≠((O.getD i []).length:Int)
  .have t:=cV G
   refine wY c2 cB @a3.ixa co c0 t @J7.gR pt ?_
   exact yq _ _ _ J7 λf=>G (by have:=(f.row i a1).1;omega)
  have t:=bZ G
  by_cases c3:(n:Int)-(i:Int)<((R.getD i []).length:Int)
  .have d2:=cV c3
   simp(disch:=omega)only[go_sem,c2,cB,cN,a3.ixa,co,c0,t,d2,J7.gR,pt]
   exact yq _ _ _ J7 λf=>by have:=(f.row i a1).2;omega
  have d2:=bZ c3
  refine wY c2 cB cN @a3.ixa co c0 t d2 ?_
  refine aP (λk' q a=> ∃(k:Nat),(∃g:Nat->V,q= [g 0,.ptr B 0,.ptr (B+1) 0,.ptr (B+1+1) 0,.ptr (B+1+1+1) 0,g 5,g 6,g 7,g 8,g 9,g 10,g 11,g 12,g 13,wR.getD i .undef,aC ((R.getD i []).length:Int),aC k,g 17,g 18,g 19])/\k<=(R.getD i []).length/\JR h a B id b (pF r) n o s O R i ((R.take i).flatten++(R.getD i []).take k)/\
    (∀x∈(R.getD i []).take k,x.length=n/\rH x=true)/\k'=(R.getD i []).length-k) (R.getD i []).length
   ⟨0,aD rfl,fY _,by rw[List.take_zero,qH];exact J7,λx hx=>by simp at hx,rfl⟩ ?_
  clear co cB cN c7 c5 J7 t d2 a3 g7 n7 o7 U
  rintro k' q h8 ⟨k,⟨g,rfl⟩,hk,N,b1,rfl⟩
  by_cases c8:(k:Int)<((R.getD i []).length:Int)
  case neg=>
   have e1:=bZ c8;obtain rfl:k=(R.getD i []).length:=om
   rw[List.take_length] at N b1;rw[<-NS om] at N;refine bM e1 ?_;refine pQ iS b4 N.gr (.inl ⟨rfl,?_⟩);have l:=N.loop (h2:=h8.set id (some (.loop r))) om om om (by rw[H.aJ]) rfl (λk hk=>H.Cj _ hk _)
   have b8: ∀j,j<i+1->QW n O R j:=λj hj=>by
    by_cases e:j=i
    .subst e;exact⟨⟨om,om⟩,b1⟩
    .exact l.rows j om
   exact⟨l.gB,l.gR,l.gN,l.gA,l.gr,l.gb,l.nx,l.fr,b8⟩
  have e1:=cV c8
  have a0:k<(R.getD i []).length:=om
  obtain⟨x,hx⟩:=exI ((R.getD i []).getD k [])
  have sx:=gH ar a0 .undef []
  rw[hx] at sx
  have d3:x∈R.getD i []:=by rw[<-hx];exact bF a0
  obtain⟨i0,e9,d4,j6,j4⟩:=(tr.mono N.fr).shape (R.getD i []).length om om
  have ck:h8.cell i0 (e9+k)=some (wr.getD k .undef):=by rw[j4 k om,List.getD,dJ om];rfl
  have cN:=H.cell_of N.gN
  generalize wr.getD k .undef=vx at sx ck
  have d7:=sx.lens
  by_cases G:(x.length:Int)≠(n:Int)
  .have t:=cV G
   refine wY e1 @d4.ixa ck d7 cN t @N.gR pt ?_
   exact yq _ _ _ N λf=>G (by have:=(f.perm i a1 x d3).1;omega)
  have t:=bZ G
  refine wE e1 @d4.ixa ck d7 cN t ?_
  refine (zX vx x h8 om (sx.mono N.fr)).mono ?_
  rintro _ h9 ⟨rfl,f9⟩
  have l:=N.mono om om f9
  cases hpk:rH x with
  |false=>
   have e3:decide (PU x≠0)=true:=cV (by unfold PU;rw[aQ om,hpk];simp);refine iG e3 @l.gR pt ?_;exact yq _ _ _ l λf=>by have:=(f.perm i a1 x d3).2;rw[hpk] at this;cases this
  |true=>
   have e3:decide (PU x≠0)=false:=bZ (by unfold PU;rw[aQ om,hpk];simp);obtain⟨va,ws,gA,ow,al⟩:=l.gA
   have one:vx.cells= [vx]/\vx.one=true:=⟨sx.cT.1,sx.cT.2.1⟩
   have k5:=l.nx;obtain⟨b3,i7,k4,i5,k1,Q⟩:=iI (h:=h9) rfl [vx];have cA:=H.cell_of gA;have j7:b3.cell (B+1+1+1) 0=some va:=by rw[H.cell_of (by rw[Q.get _ om];exact gA)];rfl
   have k3:=al.length
   have j9:((R.take i).flatten++(R.getD i []).take k).length<=400:=by
    have h1:=qX (m:=7) (R:=R) (i:=i) om (λj hj=>by have:=(l.rows j hj).1.2;omega);have h2:i*7<=7*7:=Nat.mul_le_mul_right 7 om;rw[eE,jG];omega
   obtain⟨e7,i2,a6⟩:=(ow.fr Q).push (bytes:=24) (SV.one om i5 (.kn 1)) (n:=ws.length) (m:=1) om rfl om om om;have ap: ∀k,k<=id->cW va k:=λk hk k2 i3 m c e e2=>by have:=(ow.in _ _ _ _ e).2.1;omega
   have d6:e7.get (B+1+1+1)=some (.cells false [va]):=by rw[a6.old _ om (ap _ om),Q.get _ om];exact gA
   have k0:=a6.next;have i1:(a:H)->(y:V)->dY (some (.cells false [va])) a (B+1+1+1) 0 [y]=some (a.set (B+1+1+1) (some (.cells false [y]))):=λa y=>bE siM a _ _
   refine Ie e3 cA (dL h9 (z:= .aH) one.1 one.2) i7 i2 d6 i1 ?_;rw[fJ k]
   have K: ∀k,k<=id->k≠B+1+1+1->(e7.set (B+1+1+1) (some (.cells false [.sl b3.next 0 (ws.length+1) (.un 1)]))).get k=h9.get k:=λk h1 h2=>by
    rw[H.Cj _ h2,a6.old _ om (ap _ h1),Q.get _ om]
   have tk:(R.take i).flatten++(R.getD i []).take (k+1)=((R.take i).flatten++(R.getD i []).take k)++ [x]:=by
    rw[AA,iW [] a0,hx]
   refine⟨(R.getD i []).length-(k+1),om,k+1,aD rfl,om,⟨by rw[K _ om om];exact l.gB,by rw[K _ om om];exact l.gR,by rw[K _ om om];exact l.gN,⟨_,ws++ [vx],by rw[H.aJ],?_,?_⟩,by rw[K _ om om];exact l.gr,by rw[K _ om om];exact l.gb,by simp only[H.bT];omega,?_,l.rows⟩,λy hy=>?_,rfl⟩
   .refine (a6.own (b:=id+1) om rfl om).mono (dN _) λk i3 m c e h1 h2=>H.Cj _ om _
   .rw[tk];exact al.append ⟨sx,trivial⟩
   .refine⟨by simp only[H.bT];have:=l.fr.next;omega,λk hk=>?_⟩
    rw[K k om om];exact l.fr.get k hk
   .rw[iW [] a0,hx] at hy
    rcases Es.1 hy with hy|hy
    .exact b1 y hy
    .rw[List.mem_singleton.1 hy]
     exact⟨om,hpk⟩
 .rintro _ a (J|D)
  .refine⟨r,J.gr,by rw[iS];simp,?_⟩
   have en:r.pend.getD .norm= .norm:=by rw[b4];rfl
   rw[en]
   rw[lR,List.take_length] at J
   have J:=J.loop (r2:={r with st:= .out}) (h2:=a.set id (some (.loop {r with st:= .out}))) om om om (by rw[H.aJ]) rfl (λk hk=>H.Cj _ hk _)
   generalize a.set id (some (.loop {r with st:= .out}))=U at J
   clear J0 f7 o7 b4 iS hr
   have frm:VX n O R:=VX.of i4 j1 λj hj=>J.rows j om
   obtain⟨R',eR,hP⟩:=frm.nat
   obtain⟨va,ws,gA,ow,al⟩:=J.gA
   have eF:R.flatten=R'.flatten.map zi:=by rw[eR,List.map_flatten]
   rw[eF] at al
   have nx:=J.nx
   have rB:=bU J.gB
   have cN:=H.cell_of J.gN
   have cA:=H.cell_of gA
   have fb:Fr U (H.mk U.tr (U.next+7)):=(Fr.refl U).cU om
   have g0:SP (H.mk U.tr (U.next+7)) va R'.flatten:=⟨ws,(ow.fr fb).sv,al.mono λ_ _ x=>x.mono (J.fr.trans fb)⟩
   have f0:R'.flatten.length<1000000:=by
    have h1:=qX (m:=7) (R:=R) (i:=n) om (λj hj=>by have:=(J.rows j om).1.2;omega);have h2:n*7<=7*7:=Nat.mul_le_mul_right 7 om;rw[Nb om,eF,dO] at h1;omega
   refine iG (bU (h:=H.mk U.tr (U.next+7)) J.gB) cN cA ?_
   refine (PO n va R'.flatten _ Z e8 f0 g0 hP).mono ?_
   rintro _ h8 ⟨i8,L,F,τ,rfl,RR,tl,f8,_⟩
   have F8:Fr U h8:=fb.trans f8
   have N:=J.mono om om F8
   have eO:=tO.dS
   have c6:=tR.dS
   refine iG (bU N.gB) eO c6 ?_
   refine (JI h8 n i8 L F τ e8 RR tl.tw).mono ?_
   rintro h0 h9 ⟨O2,R2,j2,i9,f9⟩
   have l:=N.mono om om f9
   have a8:eD n (EB n R') O2 R2:=i9.congr tl.group
   obtain⟨f4,g8⟩:=Hg (λx hx=>fG.cF hP hx) om a8
   refine iG (bU l.gB) eO c6 ?_
   refine (WH _ h0 (n:Int) (n:Int) O (O2.map zi) R (R2.map (List.map zi)) h9 ⟨o,s,rfl,⟨wO,tO.mono l.fr,aO.mono λ_ _ x=>x.mono l.fr⟩,⟨wR,tR.mono l.fr,aR.mono (λ_ _ x=>x.mono l.fr),kR⟩⟩ j2.ch so f4 (sr.DL (λj hj x hx=>(frm.perm j om x hx).1) om) g8).mono ?_
   rintro _ b3 ⟨rfl,Q⟩
   have a4:=l.mono om om Q
   have iff:=KX.iff (O:=O) Z om hP a8
   rw[<-eR] at iff
   by_cases hq:(n:Int)=(n:Int)/\O=O2.map zi/\R=R2.map (List.map zi)
   .have ed:=cV hq
    rw[ed]
    refine eZ @a4.gR pt ?_
    refine⟨?_,a4.fr.set om _⟩
    unfold To
    rw[aQ om,aS (iff.2 hq.2)]
   .have ed:=bZ hq
    rw[ed]
    refine eZ @a4.gR pt ?_
    refine⟨?_,a4.fr.set om _⟩
    unfold To
    rw[aQ om,aQ (λc=>hq ⟨rfl,iff.1 c⟩)]
  .refine⟨_,D.gr,by simp [Cy],?_⟩
   have en:(Cy r .ret).pend.getD .norm= .ret:=rfl
   rw[en]
   have nx:=D.nx
   have gR:(a.set id (some (.loop {Cy r .ret with st:= .out}))).cell (B+1) 0=some (aC 3):=by rw[H.kW _ om,H.cell_of D.gR];rfl
   refine bM gR ?_
   exact⟨by rw[Kk Z om D.bad],D.fr.set (by have:=D.fr.next;omega) _⟩
end
set_option maxRecDepth 100000
theorem mZ {α β:Type}(f:α->β){l:List α}{i:Nat}{d:α}{e:β}(h:i<l.length):(l.map f).getD i e=f (l.getD i d):=by
 simp [List.getD,h]
theorem zN.mono {h h' h2:H}{v:V}{l:List Int}(f:zN h h' v l)(g:Fr h' h2):zN h h2 v l:=by
 obtain⟨id,a,e,c,b,i,d⟩:=f.ex;exact⟨⟨id,a,e,c,iD b g.next,by rw[g.get _ b];exact i,d⟩,f.fr.trans g⟩
theorem Qh {h h':H}{v:V}{l:List Nat}(n:Ya h h' v l):zN h h' v (zi l):=by
 have⟨e,g,a,f⟩:=n;exact⟨⟨h.next,_,by rw[e,bD],dN _,om,g,.inr (by rw[bD])⟩,f⟩
theorem zN.le {b h h':H}{v:V}{l:List Int}(f:zN h h' v l)(g:Fr b h):zN b h' v l:=by
 obtain⟨id,a,e,c,i,j,d⟩:=f.ex;exact⟨⟨id,a,e,kQ g.next c,i,j,d⟩,g.trans f.fr⟩
section
variable {W:Nat->Prop} {h:H} {vc:V} {n:Nat} {O:LN} {G:List Nat->Prop}
structure GC (W:Nat->Prop)(h:H)(vc:V)(n:Nat)(O:LN)(R:nZ)(G:List Nat->Prop):Prop where
 cw:PD W h vc n O R
 isc:eD n G O R
 kT:oK n G
 n0:1<=n
 n7:n<=7
theorem GC.go {W':Nat->Prop}{h':H}{R:nZ}(g:GC W h vc n O R G)(f:Fx W h h')(a: ∀id,id<h.next->W' id->W id):GC W' h' vc n O R G:=⟨g.cw.go f a,g.isc,g.kT,g.n0,g.n7⟩
theorem GC.ch {R:nZ}(g:GC W h vc n O R G):ChI h vc (n:Int) (O.map zi) (R.map (List.map zi)):=g.cw.ch
theorem GC.mono {h':H}{R:nZ}(g:GC W h vc n O R G)(f:Fr h h'):GC W h' vc n O R G:=⟨g.cw.mono f,g.isc,g.kT,g.n0,g.n7⟩
theorem Pd {n:Nat}{G:List Nat->Prop}(a:oK n G){O:LN}{R:nZ}(c:eD n G O R): ∀d i x,i+d=n->G x->Fix i x->EB n R x
 |0,i,x,h,hx,fx=>by
  have X:=a.cF hx;obtain rfl:i=n:=om
  rw[fx.all X];exact .one
 |d+1,i,x,h,hx,fx=>by
  have hi:i<n:=om
  have X:=a.cF hx;have l:=(c.mem i hi (x.getD i 0)).2 ⟨x,hx,fx,rfl⟩;obtain⟨k,b,e⟩:=Bj.1 l;have rep:=c.rep i hi k b;rw[cM b,e] at rep;obtain⟨z,j⟩:=exI ((R.getD i []).getD k []);rw[j] at rep;have Z:=a.cF rep.mem
  have f:z∈R.flatten:=by
   have o:k<(R.getD i []).length:=by rw[c.rl i hi];exact b
   exact List.mem_flatten.2 ⟨R.getD i [],bF (by rw[c.lr];exact hi),by rw[<-j];exact bF o⟩
  have m:=Pd a c d (i+1) (aZ x (bY z)) om (a.mul hx (a.inv rep.mem)) ((Fix.mul X om fx (Fix.inv Z om rep.fix)).succ (by
   rw[dA (by rw[X.len];exact hi)];have:=rO Z hi
   rwa [rep.maps] at this))
  have:=fG.mul m f;rwa [aX X Z.inv Z,dX Z,cH X] at this
theorem Gm {R:nZ}(c:eD n G O R): ∀g∈R.flatten,G g:=λg d=>by
 obtain⟨r,j,d⟩:=List.mem_flatten.1 d;obtain⟨i,hi,rfl⟩:=Bj.1 j;obtain⟨k,f,rfl⟩:=Bj.1 d;have a:i<n:=by have:=c.lr;omega
 have e:R.getD i []=R[i]:=by rw[List.getD,dJ hi];rfl
 have b:k<(O.getD i []).length:=by rw[<-c.rl i a,e];exact f
 have:=(c.rep i a k b).mem;rw[e,List.getD,dJ f] at this;exact this
theorem Qe (a:oK n G){R:nZ}(c:eD n G O R)(x:List Nat):EB n R x↔G x:=
 ⟨λh=>h.le a (Gm c),λh=>Pd a c n 0 x om h (λk b=>om)⟩
theorem GC.chk {R:nZ}(g:GC W h vc n O R G):To (n:Int) (O.map zi) (R.map (List.map zi))=0:=by
 unfold To;have:=g.n0;have:=g.n7;rw[aQ om,aS ⟨n,O,R,rfl,g.n0,om,rfl,rfl,λx a=>g.kT.cF (Gm g.isc x a),g.isc.congr λx=>(Qe g.kT g.isc x).symm⟩]
theorem GC.small {R:nZ}(g:GC W h vc n O R G):Li (O.map zi)/\vE (R.map (List.map zi)):=Hg (λx a=>g.kT.cF a) (by have:=g.n7;omega) g.isc
theorem GC.check {R:nZ}(g:GC W h vc n O R G):Ev T 110 [vc] h (λv h'=>v= aC 0/\Fr h h'):=by
 have:=Bq vc _ _ _ h g.ch (.inl (by have:=g.n7;omega)) g.small.1 g.small.2.out;rwa [g.chk] at this
theorem ahT {x:List Nat}(X:bJ n x)(a:1<=n)(h2:n<=64):PU (zi x)=0:=by
 unfold PU;rw[aQ (by rw[bD,X.len];omega),Wn X];rfl
end
set_option maxRecDepth 100000
section
variable {b A:Nat} {hh:H} {l:LN}
theorem abC {h:H}{v:V}{ws:List V}(s:SV h v 1 ws)(k:IB v)(q:1<=ws.length): ∃v',pV 1 v (some (aC 1)) none none=some v'/\SV h v' 1 (ws.drop 1):=by
 rcases s with ⟨_,e⟩|⟨id,a,len,t,f,d,rfl,i,j,m,u,o⟩
 .rw[e] at q;simp at q
 have w:mQ none len len=some len:=by simp [mQ]
 have n:((d.drop a).take (len*1)).drop 1=(d.drop (a+1)).take (len- 1):=by
  rw[List.drop_take,List.drop_drop,jP]
 rcases k _ _ _ _ rfl with rfl|⟨c,rfl,x⟩
 .by_cases r:1<len
  .refine⟨.sl id (a+1) (len- 1) (.un 1),?_,.inr ⟨id,a+1,len- 1,_,f,d,rfl,by rw[jR,i];omega,j,m,om,by rw[<-o,n,jP]⟩⟩
   simp [pV,mQ,r,show (1:Int)<=(len:Int) by omega]
  .refine⟨.sl id a 0 (.un 1),?_,.inr ⟨id,a,0,_,f,d,rfl,by rw[jR,i];omega,j,m,om,?_⟩⟩
   .have:len=1:=om
    subst this;simp [pV,mQ]
   .have:ws.drop 1= []:=Zs (by rw[jR];omega)
    rw[this];simp
 .refine⟨.sl id (if c=1 then a else a+1) (len- 1) (.kn (c- 1)),?_,.inr ⟨id,_,len- 1,_,f,d,rfl,by rw[jR,i];omega,j,m,by split<;>omega,?_⟩⟩
  .have:1<=len:=om
   simp [pV,mQ,show (1:Int)<=(len:Int) by omega,show 1<=c by omega]
  .by_cases e:c=1
   .have:ws.drop 1= []:=Zs (by rw[jR];omega)
    rw[this];have:len- 1=0:=om
    rw[this];simp
   .rw[aQ e,<-o,n,jP]
def Ig (b:Nat)(hh:H)(A:Nat)(l:LN):Prop:= ∃va ws W,hh.get A=cE [va]/\dF hh va 1 ws b/\jI W hh ws l/\Mh W va/\(∀id,id<b->W id)/\ ∀id,W id->id<hh.next
theorem Ig.mono {h2:H}(a:Ig b hh A l)(m:A<hh.next)(f:Fr hh h2):Ig b h2 A l:=by
 have⟨i,j,W,g,o,p,k,c,d⟩:=a;exact⟨i,j,W,by rw[f.get _ m];exact g,o.fr f,p.fx (Fx.of f),k,c,λid h=>iD (d id h) f.next⟩
theorem Ig.other {h2:H}(a:Ig b hh A l){k:Nat}(t:k<b)(c:k≠A)(n:h2.next=hh.next)(o: ∀j,j≠k->h2.get j=hh.get j):Ig b h2 A l:=by
 have⟨i,s,W,g,q,p,r,d,u⟩:=a
 have f:Fx W hh h2:=⟨om,λid v m=>o id λe=>m (e▸d k t)⟩
 exact⟨i,s,W,by rw[o _ (Ne.symm c)];exact g,q.mono om λid _ _ _ _ v _=>o id om,jI.go p f (λ_ _ h=>h),r,d,λid h=>by rw[n];exact u id h⟩
theorem Ig.push {d:H}(a:Ig b hh A l)(B:A<b){x:List Nat}{s y:V}(bytes:Nat)(N:bytes<=24)(hl:l.length<1000000)(f:Fr hh d)(Z:b<=hh.next)(L:PV (λid=>id<hh.next) d s x)(O:SV d y 1 [s]):
  ∃va h6,hh.get A=cE [va]/\tW d 1 bytes va y=some (.sl d.next 0 (l.length+1) (.un 1),h6)/\h6.get A=cE [va]/\h6.next=d.next+1/\(∀k,k<b->h6.get k=d.get k)/\
   (va.cells= [va]/\va.one=true)/\dS va va=true/\ ∀h7,h6.set A (cE [.sl d.next 0 (l.length+1) (.un 1)])=h7->Ig b h7 A (l++ [x]):=by
 have⟨va,R,W,g,o,p,P,G,J⟩:=a
 have K:=bH.length p
 have nx:=f.next
 obtain⟨h6,Y,r⟩:=(o.fr f).push (bytes:=bytes) O (n:=l.length) (m:=1) om rfl om om ⟨by have:=Nat.mul_le_mul_left (2*(l.length+1)+1000) N;omega,om⟩
 have ap: ∀k,k<b->cW va k:=λk z id j m c e e2=>by have:=(o.in _ _ _ _ e).2.1;omega
 have U:=r.next
 have w: ∀k,k<b->h6.get k=d.get k:=λk z=>r.old k om (ap k z)
 refine⟨va,h6,g,Y,by rw[w A B,f.get A om];exact g,U,w,⟨o.sv.cT.1,o.sv.cT.2.1⟩,o.sv.dS,λh7 e=>?_⟩
 subst e
 have t:Fx W d h6:=r.fx P
 have v:Fx W h6 (h6.set A (cE [.sl d.next 0 (l.length+1) (.un 1)])):=Fx.set h6 (G A B) _
 have i:=t.trans v (λ_ _ h=>h)
 have F: ∀id,id<d.next->(W id\/id=d.next)->W id:=λid Q q=>by
  rcases q with q|q
  .exact q
  .omega
 have u:PV W d s x:=L.mE λid _ h=>J id h
 refine⟨_,R++ [s],λid=>W id\/id=d.next,by rw[H.aJ],?_,(jI.go (p.fx (Fx.of f)) i F).append (jI.one (PV.go u i F)),λid j n c e=>by cases e;exact .inr rfl,λid h=> .inl (G id h),λid h=>?_⟩
 .exact (r.own (b:=b) om rfl om).mono (dN _) λid j m c e Q _=>H.Cj h6 om _
 .simp only[H.bT]
  rcases h with h|h
  .have:=J id h;omega
  .omega
end
def hH (R:nZ):LN:=R.flatMap (List.drop 1)
theorem Hd {R:nZ}{i:Nat}(hi:i<R.length):hH (R.take (i+1))=hH (R.take i)++(R.getD i []).drop 1:=by
 unfold hH;rw[iW [] hi,List.flatMap_append];simp
theorem Am {n:Nat}{R:nZ}:{i:Nat}->i<=R.length->(∀j,j<i->(R.getD j []).length<=n)->(hH (R.take i)).length<=i*n
 |0,_,_=>by simp [hH]
 |i+1,h,hr=>by
  rw[Hd om,eE,jR,Nat.succ_mul];have a:=Am (i:=i) om (λj c=>hr j om);have b:=hr i om;omega
structure OG (h h':H)(v:V)(l:LN):Prop where
 ex: ∃ws W,dF h' v 1 ws h.next/\jI W h' ws l/\Mh W v/\(∀id,id<h.next->W id)
 fr:Fr h h'
theorem OG.sp {h h':H}{v:V}{l:LN}(n:OG h h' v l):SP h' v l:=by
 obtain⟨b,W,o,p,_⟩:=n.ex;have a:=bH.length p
 exact⟨b,o.sv,bH.jF (by simpa using a) λi hi c=>by
  have:=(bH.get p i hi om).si
  simpa using this⟩
theorem OG.pl {h h':H}{v:V}{l:LN}(n:OG h h' v l):PL (λid=>id<h.next) h' v l:=by
 obtain⟨b,W,o,p,_,a⟩:=n.ex;exact⟨b,o.sv,AL o,p.mE (λid _ h=>a id h),dF.RO o⟩
structure StJ (h hh:H)(id b B:Nat)(r:dP)(n:Nat)(vO vR:V)(R:nZ)(i:Nat):Prop where
 acc:Ig (id+1) hh (B+1) (hH (R.take i))
 gr:hh.get id=some (.loop r)
 gb:hh.get b=cE [aC n,vO,vR]
 nx:id<hh.next
 fr:Fr h hh
theorem NG {W:Nat->Prop}(vc:V)(n:Nat)(O:LN)(R:nZ)(G:List Nat->Prop)(h:H)(gc:GC W h vc n O R G):
  Ev T 73 [vc] h (λv h'=> ∃vl,v= .tup [vl,aC 0]/\OG h h' vl (hH R)):=by
 obtain⟨U,vR,e,sO,sR⟩:=gc.ch
 subst e
 have⟨wR,tR,aR,kR⟩:=sR
 have lR:=aR.length
 have c:=gc.isc
 rw[dO,c.lr] at lR
 have a7:U.one=true:=NB sO
 have b2:=tR.cT.2.1
 have n0:=gc.n0
 have n7:=gc.n7
 obtain⟨B,hB⟩:=exI h.next
 obtain⟨h1,e1,n1,g1,o1,f1⟩:=iI hB [aC n,U,vR]
 have bx:=dH h (v:= aC n) (u:=U) (w:=vR) rfl a7 b2
 have rB:=bU g1
 refine Nk bx hB e1 rB ?_
 refine ((gc.mono f1).check).mono ?_
 rintro _ h2 ⟨rfl,f2⟩
 refine aT ?_
 refine bV (λhc=>(hc rfl).elim) (λ_=>?_)
 obtain⟨A,hA⟩:=exI h2.next
 have n2:=f2.next
 obtain⟨h3,e3,n3,g3,o3,f3⟩:=iI hA [.aH]
 have e6:h3.get B=cE [aC n,U,vR]:=by rw[f3.get _ om,f2.get _ om];exact g1
 have e9:=bU e6
 refine iG hA e3 e9 ?_
 refine (IP (n:Int) U vR a7 b2 h3).mono ?_
 rintro _ h4 ⟨rfl,g4,n4,f4⟩
 refine aT ?_
 obtain⟨id,b7⟩:=exI h4.next
 obtain⟨b,hb⟩:=exI h3.next
 rw[hb] at g4 n4
 refine⟨rfl,sJ λr hr=>?_⟩
 rw[b7,hb]
 have iS:r.st= .ready:=by rw[hr]
 have c4:r.pend=none:=by rw[hr]
 have o5: ∀k,k<id->(h4.new (.loop r)).get k=h4.get k:=λk P=>H.bG h4 om _
 have f5:Fr h4 (h4.new (.loop r)):=(Fr.refl h4).new _
 have n5:(h4.new (.loop r)).next=id+1:=by rw[H.aM,b7]
 have F4:=((f1.trans f2).trans f3).trans f4
 have rl: ∀j,j<n->(R.getD j []).length<=n:=λj Z=>by
  rw[c.rl j Z];exact kQ (yP (λx hx=>gc.kT.cF hx) Z (c.asc j Z) (c.mem j Z)) om
 obtain⟨F,b8⟩: ∃F,A=F+1:=⟨A- 1,om⟩
 have J0:StJ h (h4.new (.loop r)) id b F r n U vR R 0:=by
  refine⟨⟨.aH, [],λk=>k<id+1,?_,dF.aH _ _ _,trivial,λ_ _ _ _ e=>(by cases e),λ_ h=>h,λk P=>om⟩,by rw[<-b7,H.aI],by rw[o5 _ om];exact g4,om,F4.trans f5⟩;rw[<-b8,o5 _ om,f4.get _ om];exact g3
 refine (Zp id b (n:Int) U vR wR _ om (λi m=>StJ h m id b F r n U vR R i) (λm=>False) J0 (λi m J=>⟨J.gb,tR.mono J.fr⟩) ?_).mono ?_
 .rintro i m hi J
  have f:i<n:=om
  refine pP J.gr (by rw[hr];rfl) iS λh9 g9 n9 o9=>?_
  rw[congrArg dP.assign hr,congrArg dP.vars hr,congrArg dP.pars hr]
  simp(disch:=omega)only[go_sem,List.zip_cons_cons,List.zip_nil_left]
  rw[congrArg dP.body hr]
  have nx:=J.nx
  have ri:(R.map (List.map zi)).getD i []=(R.getD i []).map zi:=mZ (List.map zi) (by rw[c.lr];exact f)
  have a9:=gH aR (i:=i) (by rw[dO,c.lr];exact f) .undef []
  rw[ri] at a9
  have⟨wr,tr,ar⟩:=a9
  have lr:=ar.length
  rw[dO] at lr
  have c3:1<=wr.length:=by
   rw[lr,c.rl i f];have:=(c.mem i f i).2 ⟨bI n,gc.kT.one,Fix.one n i om,eG f⟩;exact PC this
  have F9:Fr h h9:=⟨by rw[n9];exact J.fr.next,λk P=>by rw[o9 k om];exact J.fr.get k P⟩
  obtain⟨vt,f8,tt⟩:=abC tr (kR _ (bF om)) c3
  have lt:dD vt=some (aC (wr.length- 1:Nat)):=by unfold dD;rw[tt.len (n:=wr.length- 1) (by rw[jR];omega) om];rfl
  have h6:wr.length<=7:=by have:=rl i f;omega
  refine eZ f8 lt ?_
  have A9:Ig (id+1) h9 (F+1) (hH (R.take i)):=J.acc.other (k:=id) om om n9 o9
  refine aP (λk' a8 m=> ∃(k:Nat),(∃g:Nat->V,a8= [g 0,g 1,g 2,g 3,g 4,.ptr A 0,g 6,g 7,g 8,g 9,g 10,g 11,vt,aC (wr.length- 1:Nat),aC k,g 15])/\k<=wr.length- 1/\Ig (id+1) m (F+1) (hH (R.take i)++((R.getD i []).drop 1).take k)/\
    m.get id=some (.loop (pF r))/\m.get b=cE [aC n,U,vR]/\id<m.next/\Fr h m/\k'=wr.length- 1-k) (wr.length- 1)
   ⟨0,aD rfl,fY _,by rw[List.take_zero,qH];exact A9,g9,by rw[o9 _ om];exact J.gb,om,F9,rfl⟩ ?_
  rintro k' a8 a ⟨k,⟨g,rfl⟩,P,a6,b0,b1,c6,K,rfl⟩
  have h0:((R.getD i []).drop 1).length=wr.length- 1:=by rw[jR];omega
  by_cases c0:(k:Int)<((wr.length- 1:Nat):Int)
  case neg=>
   have d1:=bZ c0;have ek:k=wr.length- 1:=om
   rw[ek,Nb (l:=(R.getD i []).drop 1) om,<-Hd (by rw[c.lr];exact f)] at a6;refine bM d1 ?_;refine pQ iS c4 b0 (.inl ⟨rfl,a6.other (k:=id) om om rfl (λj Z=>H.Cj _ Z _),by rw[H.aJ],by rw[H.Cj _ om];exact b1,c6,K.set om _⟩)
  have d1:=cV c0
  have g6:k<wr.length- 1:=om
  have b5:k+1<(R.getD i []).length:=om
  obtain⟨x,hx⟩:=exI ((R.getD i []).getD (k+1) [])
  have d4:((R.getD i []).drop 1).getD k []=x:=by
   rw[<-hx];generalize R.getD i []=row;rw[List.getD,List.getD,List.getElem?_drop,Nat.add_comm 1 k]
  have X:bJ n x:=by
   rw[<-hx];exact gc.kT.cF (c.rep i f (k+1) (by rw[<-c.rl i f];exact b5)).mem
  have sx:=gH ar (i:=k+1) (by rw[dO];exact b5) .undef []
  rw[mZ zi (d:= []) b5,hx] at sx
  obtain⟨d6,c1,e4,g5,g0⟩:=(tt.mono K).shape (wr.length- 1) (by rw[jR];omega) om
  have ck:a.cell d6 (c1+k)=some (wr.getD (k+1) .undef):=by
   rw[g0 k (by rw[jR];omega),List.getElem?_drop,List.getD,Nat.add_comm 1 k,dJ om];rfl
  generalize wr.getD (k+1) .undef=vx at sx ck
  obtain⟨N,gA,d9⟩: ∃N,a.get (F+1)=cE [N]/\dS N N=true:=by
   have⟨N,_,_,gA,ow,_⟩:=a6;exact⟨N,gA,ow.sv.dS⟩
  have fb:Fr a (H.mk a.tr (a.next+6)):=(Fr.refl a).cU om
  rw[b8]
  simp(disch:=omega)only[go_sem,d1,e4.ixa,ck,H.cell_of gA]
  refine (rW vx (zi x) (H.mk a.tr (a.next+6)) (by rw[bD,X.len];omega) (by rw[bD,X.len];omega) (sx.mono (K.trans fb))).mono ?_
  rintro a0 q t
  have b9:=fb.trans t.fr
  have d5:=t.fr.next
  have d0:q.get (F+1)=cE [N]:=by rw[b9.get _ om];exact gA
  have d3:PV (λid=>id<a.next) q a0 x:=t.pv λid h=>by simp;omega
  simp(disch:=omega)only[go_sem,H.cell_of d0,d9,dL _ (z:= .aH) d3.fX.1 d3.fX.2]
  obtain⟨o,s⟩: ∃o:H,o=H.mk ((H.mk q.tr (a.next+3)).new (Ob.cells false [a0])).tr q.next:=⟨_,rfl⟩
  rw[<-s]
  have f9:o.get (a.next+3)=cE [a0]:=by rw[s];exact H.aI (H.mk q.tr (a.next+3)) _
  have h5:o.next=q.next:=by rw[s]
  have c9: ∀k,k≠a.next+3->o.get k=q.get k:=λk P=>by rw[s];exact H.bG (H.mk q.tr (a.next+3)) (by simpa using P) _
  simp only at d5
  have Y:Fr a o:=⟨om,λk P=>by rw[c9 k om];exact b9.get k P⟩
  have e8:PV (λid=>id<a.next) o a0 x:=by
   obtain⟨i5,c5,ev,a1,a2,a3,a4⟩:=t.ex;simp only at a1;rw[ev];exact⟨SV.all (by rw[aE,jP]) om (by rw[c9 _ om];exact a3) _,λm=>by have:i5<a.next:=m;omega⟩
  have e7:(hH (R.take i)++((R.getD i []).drop 1).take k).length<1000000:=by
   have h1:=Am (n:=n) (R:=R) (i:=i) (by rw[c.lr];omega) (λj Z=>rl j om);have h2:i*n<=7*7:=Nat.mul_le_mul om n7;rw[eE,jG];omega
  obtain⟨c2,b4,c7,g2,f7,h7,b3,one,_,d7⟩:=a6.push om (bytes:=24) (dN _) e7 Y om e8 (SV.one om f9 (.kn 1))
  have e5:c2=N:=by rw[gA] at c7;cases c7;rfl
  subst e5
  have d8:(m:H)->(y:V)->dY (cE [c2]) m (F+1) 0 [y]=some (m.set (F+1) (cE [y])):=λm y=>bE siM m _ _
  refine iG g2 f7 d8 ?_
  rw[fJ k]
  have b6:=d7 _ rfl
  have f6:hH (R.take i)++((R.getD i []).drop 1).take k++ [x]=hH (R.take i)++((R.getD i []).drop 1).take (k+1):=by
   rw[AA,iW [] om,d4]
  rw[f6] at b6
  have g8:Fr a (b4.set (F+1) (cE [.sl o.next 0 ((hH (R.take i)++((R.getD i []).drop 1).take k).length+1) (.un 1)]))->True:=λ_=>trivial
  obtain⟨Q,L⟩: ∃Q,Q=b4.set (F+1) (cE [.sl o.next 0 ((hH (R.take i)++((R.getD i []).drop 1).take k).length+1) (.un 1)]):=⟨_,rfl⟩
  rw[<-L] at b6 |-
  have f0: ∀k,k<=id->k≠F+1->Q.get k=a.get k:=λk h1 h2=>by rw[L,H.Cj _ h2,b3 k om];exact Y.get k om
  have g7:Q.next=b4.next:=by rw[L];rfl
  refine⟨wr.length- 1-(k+1),om,k+1,aD rfl,om,b6,by rw[b3 id om,Y.get _ om];exact b0,by rw[b3 b om,Y.get _ om];exact b1,om,⟨by have:=K.next;omega,λk P=>by rw[f0 k om om];exact K.get k P⟩,rfl⟩
 .rintro _ m (J|hf)
  case inr=>exact hf.elim
  refine⟨r,J.gr,by rw[iS];simp,?_⟩
  have en:r.pend.getD .norm= .norm:=by rw[c4];rfl
  rw[en]
  have nx:=J.nx
  have c8:=J.acc
  rw[lR,Nb (by rw[c.lr];omega)] at c8
  obtain⟨h9,a5⟩: ∃h9,h9=m.set id (some (.loop {r with st:= .out})):=⟨_,rfl⟩
  have A9:=c8.other (h2:=h9) (k:=id) om om (by rw[a5];rfl) (λj Z=>by rw[a5,H.Cj _ Z])
  have F9:Fr h h9:=by rw[a5];exact J.fr.set om _
  rw[<-a5,b8]
  have⟨N,ws,W',gA,ow,pv,bl,l1,l2⟩:=A9
  simp(disch:=omega)only[go_sem,H.cell_of gA]
  exact⟨N,rfl,⟨ws,W',ow.le om,pv,bl,λid h=>l1 id om⟩,F9⟩
end Go.Proofs.YtoighkablmjfeaaGreat
namespace Go.Pm
section
variable {x:List Nat} {i:Nat}
def jO (O:wG)(x:List Nat)(i:Nat):List Nat:=(O.getD i []).map λq=>x.getD q 0
def tY (l:List Nat):List Nat:=l.mergeSort λa b=>decide (a<=b)
theorem mJ (l:List Nat):(tY l).Perm l:=List.mergeSort_perm l _
theorem Pg (l:List Nat):(tY l).Pairwise (· <= ·):=by
 have:=List.pairwise_mergeSort (le:=λa b:Nat=>decide (a<=b)) (λa b c d f=>by simp at*;omega) (λa b=>by simp;omega) l;exact this.imp λh=>by simpa using h
def mN (O:wG)(R:VK)(x:List Nat)(i im:Nat):List Nat:=aZ ((R.getD i []).getD ((jO O x i).idxOf im) []) x
def cK (O:wG)(R:VK):Nat->Nat->List Nat->wG
 |0,_,x=> [x]
 |d+1,i,x=>(tY (jO O x i)).flatMap λim=>cK O R d (i+1) (mN O R x i im)
structure fW (G:List Nat->Prop)(L:wG):Prop where
 asc:L.Pairwise Lt
 mem: ∀x,x∈L↔G x
theorem Lt.irrefl (h:Lt x x):False:=h.asymm h
theorem Lt.trans {y z:List Nat}(r:x.length=y.length)(a:Lt x y)(b:Lt y z):Lt x z:=by
 have⟨k,l,d,o⟩:=a;have⟨m,q,f,n⟩:=b;rcases Nat.lt_trichotomy k m with h|h|h
 .exact⟨k,l,λj c=>(d j c).trans (f j oq),by rw[<-f k h];exact o⟩
 .subst h;exact⟨k,l,λj c=>(d j c).trans (f j c),oq⟩
 .exact⟨m,oq,λj c=>(d j oq).trans (f j c),by rw[d m h];exact n⟩
theorem ES:{a b:wG}->a.Pairwise Lt->b.Pairwise Lt->(∀p,p∈a↔p∈b)->a=b
 | [], [],_,_,_=>rfl
 | [],y::b,_,_,h=>by have:=(h y).2 (by simp);simp at this
 |x::a, [],_,_,h=>by have:=(h x).1 (by simp);simp at this
 |x::a,y::b,ha,hb,h=>by
  obtain⟨l,m⟩:=List.pairwise_cons.1 ha;obtain⟨k,n⟩:=List.pairwise_cons.1 hb
  have e:x=y:=by
   have f:=(h x).1 (by simp);have d:=(h y).2 (by simp);rcases List.mem_cons.1 f with f|f
   .exact f
   .rcases List.mem_cons.1 d with d|d
    .exact d.symm
    .exact ((k x f).asymm (l y d)).elim
  subst e;congr 1
  refine ES m n λp=>⟨λc=>?_,λc=>?_⟩
  .rcases List.mem_cons.1 ((h p).1 (List.mem_cons_of_mem _ c)) with e|j
   .subst e;exact ((l p c).irrefl).elim
   .exact j
  .rcases List.mem_cons.1 ((h p).2 (List.mem_cons_of_mem _ c)) with e|j
   .subst e;exact ((k p c).irrefl).elim
   .exact j
theorem fW.uniq {G:List Nat->Prop}{L M:wG}(a:fW G L)(b:fW G M):L=M:=ES a.asc b.asc λp=>(a.mem p).trans (b.mem p).symm
theorem fW.nodup {G:List Nat->Prop}{L:wG}(a:fW G L):L.Nodup:=by
 rw[List.nodup_iff_pairwise_ne];exact a.asc.imp λh e=>by rw[e] at h;exact h.irrefl
def NJ (O:wG):Nat->Nat->Nat
 |0,_=>1
 |d+1,i=>(O.getD i []).length*NJ O d (i+1)
section
variable {n:Nat} {G:List Nat->Prop} {O:wG} {R:VK}
theorem SN {im:Nat}:im∈jO O x i↔ ∃q∈O.getD i [],x.getD q 0=im:=by simp [jO]
theorem Gz (d:oK n G)(c:eD n G O R)(hi:i<n){q:Nat}(a:q∈O.getD i []):q<n:=by
 obtain⟨g,b,_,rfl⟩:=(c.mem i hi q).1 a;exact (d.cF b).eJ hi
theorem BT (d:oK n G)(c:eD n G O R)(X:bJ n x)(hi:i<n):(jO O x i).Nodup:=by
 have nd:(O.getD i []).Pairwise (· < ·):=c.asc i hi;rw[List.nodup_iff_pairwise_ne];unfold jO;rw[List.pairwise_map];refine nd.imp_of_mem λ{a b} j h f e=>?_
 have:=X.inj (Gz d c hi j) (Gz d c hi h) e;omega
theorem uC (r:oK n G)(c:eD n G O R)(X:bJ n x)(hi:i<n){im:Nat}(f:im∈jO O x i):
  ∃k,k<(O.getD i []).length/\(jO O x i).idxOf im=k/\x.getD ((O.getD i []).getD k 0) 0=im/\Hr n G i ((O.getD i []).getD k 0) ((R.getD i []).getD k [])/\mN O R x i im=aZ ((R.getD i []).getD k []) x/\bJ n (mN O R x i im)/\(mN O R x i im).getD i 0=im/\ ∀j,j<i->(mN O R x i im).getD j 0=x.getD j 0:=by
 have d:=List.idxOf_lt_length_iff.2 f
 have a:(jO O x i).idxOf im<(O.getD i []).length:=by simpa [jO] using d
 have m:(jO O x i).getD ((jO O x i).idxOf im) 0=im:=by rw[cM d,List.getElem_idxOf]
 obtain⟨k,e⟩: ∃k,(jO O x i).idxOf im=k:=⟨_,rfl⟩
 rw[e] at a m d
 have o:x.getD ((O.getD i []).getD k 0) 0=im:=by
  rw[<-m];unfold jO;rw[List.getD_eq_getElem?_getD (l:=List.map _ _),List.getElem?_map,List.getElem?_eq_getElem a,cM a];rfl
 have rep:=c.rep i hi k a
 have h:=r.cF rep.mem
 have b:mN O R x i im=aZ ((R.getD i []).getD k []) x:=by unfold mN;rw[e]
 refine⟨k,a,e,o,rep,b,by rw[b];exact h.mul X,?_,λj q=>?_⟩
 .rw[b,dA (by rw[h.len];exact hi),rep.maps,o]
 .rw[b,dA (by rw[h.len];omega),rep.fix j q]
theorem Om (m:oK n G)(c:eD n G O R):(d i:Nat)->(x:List Nat)->i+d=n->bJ n x->
  (∀z,z∈cK O R d i x↔ ∃g,G g/\Fix i g/\z=aZ g x)/\(cK O R d i x).Pairwise Lt/\(cK O R d i x).length=NJ O d i
 |0,i,x,h,X=>by
  obtain rfl:i=n:=oq
  refine⟨λz=>?_,by simp [cK],rfl⟩;simp only[cK,List.mem_singleton];constructor
  .rintro rfl;exact⟨bI i,m.one,Fix.one i i (Nat.le_refl _),(dK X).symm⟩
  .rintro⟨g,q,r,rfl⟩;rw[r.all (m.cF q),dK X]
 |d+1,i,x,h,X=>by
  have hi:i<n:=oq
  have t:=λo (f:o∈jO O x i)=>Om m c d (i+1) (mN O R x i o) oq (uC m c X hi f).choose_spec.2.2.2.2.2.1
  have v: ∀o,o∈tY (jO O x i)↔o∈jO O x i:=λo=>(mJ _).mem_iff
  have s: ∀o,o∈jO O x i-> ∀z,z∈cK O R d (i+1) (mN O R x i o)->z.length=n/\z.getD i 0=o/\ ∀j,j<i->z.getD j 0=x.getD j 0:=λo f z y=>by
   obtain⟨g,q,r,rfl⟩:=((t o f).1 z).1 y;obtain⟨k,_,_,_,_,_,_,s1,Y⟩:=uC m c X hi f;have Gp:=m.cF q;refine⟨by rw[eY,Gp.len],?_,λj A=>?_⟩
   .rw[dA (by rw[Gp.len];exact hi),r i oq,s1]
   .rw[dA (by rw[Gp.len];omega),r j oq,Y j A]
  refine⟨λz=>?_,?_,?_⟩
  .simp only[cK,List.mem_flatMap,v]
   constructor
   .rintro⟨o,f,y⟩
    obtain⟨g,q,r,rfl⟩:=((t o f).1 z).1 y;obtain⟨k,_,_,_,rep,J,_⟩:=uC m c X hi f;refine⟨aZ g ((R.getD i []).getD k []),m.mul q rep.mem,Fix.mul (m.cF q) oq (r.mono oq) rep.fix,?_⟩;rw[J,aX (m.cF q) (m.cF rep.mem) X]
   .rintro⟨g,q,r,rfl⟩
    have Gp:=m.cF q;have N:=(c.mem i hi (g.getD i 0)).2 ⟨g,q,r,rfl⟩;have f:x.getD (g.getD i 0) 0∈jO O x i:=SN.2 ⟨_,N,rfl⟩;refine⟨_,f,((t _ f).1 _).2 ?_⟩;obtain⟨k,L,_,hx,rep,J,_⟩:=uC m c X hi f;have B:(O.getD i []).getD k 0=g.getD i 0:=X.inj (Gz m c hi (by rw[cM L];exact List.getElem_mem L)) (Gz m c hi N) hx;rw[B] at rep;have u:=m.cF rep.mem;refine⟨aZ g (bY ((R.getD i []).getD k [])),m.mul q (m.inv rep.mem),(Fix.mul Gp oq r (Fix.inv u oq rep.fix)).succ ?_,?_⟩
    .rw[dA (by rw[Gp.len];exact hi)]
     have:=rO u hi;rwa [rep.maps] at this
    .rw[J,<-aX (Gp.mul u.inv) u X,aX Gp u.inv u,dX u,cH Gp]
  .unfold cK
   rw[List.pairwise_flatMap];refine⟨λo f=>(t o ((v o).1 f)).2.1,?_⟩;have F:=Pg (jO O x i);have nd:(tY (jO O x i)).Nodup:=(mJ _).nodup_iff.2 (BT m c X hi);rw[List.nodup_iff_pairwise_ne] at nd;refine (F.and nd).imp_of_mem λ{a b} K U Q z y w hw=>?_
   obtain⟨l1,Z,W⟩:=s a ((v a).1 K) z y;obtain⟨l2,P,w2⟩:=s b ((v b).1 U) w hw;exact⟨i,oq,λj A=>by rw[W j A,w2 j A],by rw[Z,P];omega⟩
  .unfold cK NJ
   rw[List.length_flatMap];have:(tY (jO O x i)).map (λa=>(cK O R d (i+1) (mN O R x i a)).length)=(tY (jO O x i)).map λ_=>NJ O d (i+1):=List.map_congr_left λa K=>(t a ((v a).1 K)).2.2
   rw[this];have hl:(tY (jO O x i)).length=(O.getD i []).length:=by rw[(mJ _).length_eq];simp [jO]
   rw[<-hl];generalize tY (jO O x i)=l
   induction l with
   |nil=>simp
   |cons a l t=>simp only[List.map_cons,List.sum_cons,t,List.length_cons,Nat.succ_mul];omega
theorem dV (a:oK n G)(c:eD n G O R):fW G (cK O R n 0 (bI n))/\(cK O R n 0 (bI n)).length=NJ O n 0:=by
 obtain⟨d,h,f⟩:=Om a c n 0 (bI n) oq (bJ.one n);refine⟨⟨h,λx=>?_⟩,f⟩;rw[d];constructor
 .rintro⟨g,hg,_,rfl⟩;rw[cH (a.cF hg)];exact hg
 .exact λb=>⟨x,b,λk j=>oq,(cH (a.cF b)).symm⟩
end
end
end Go.Pm
namespace Go.Proofs.YtoighkablmjfeaaGreat
open Go Go.Ay Go.Pm
theorem GC.row {W:Nat->Prop}{h:H}{c:V}{n:Nat}{O:LN}{R:nZ}{G:List Nat->Prop}(g:GC W h c n O R G){j:Nat}(a:j<n):0<(O.getD j []).length/\(O.getD j []).length<=n:=by
 refine⟨?_,kQ (yP (λx b=>g.kT.cF b) a (g.isc.asc j a) (g.isc.mem j a)) om⟩;exact PC ((g.isc.mem j a j).2 ⟨bI n,g.kT.one,Fix.one n j om,eG a⟩)
theorem aiN {h:H}{S k c:Nat}{vs:List V}{y w:V}(b:h.get S=some (.cells false vs))(j:vs.length=c)(i:k<c)(l:c<1000000)(a:SV h y 1 [w]):
  tW h 1 8 (.sl S 0 k (.kn c)) y=some (.sl S 0 (k+1) (.kn c),h.set S (some (.cells false (vs.set k w)))):=by
 have e1:tW h 1 8 (.sl S 0 k (.kn c)) y=Ay.tV h 1 8 (.sl S 0 k (.kn c)) 1 [w]:=by
  simp only[tW,a.len (n:=1) rfl om,a.slice]
 rw[e1]
 have f:h.slice 1 (.sl S 0 k (.kn c))=some (vs.take k):=by
  simp only[H.slice,H.row,b,sub];rw[aS om];simp
 have d:h.put S (0+k*1) [w]=some (h.set S (some (.cells false (vs.set k w)))):=by
  rw[H.put_eq,b,Nat.zero_add,jP,bE om]
 unfold Ay.tV
 simp only[f,oU]
 rw[aQ om,aS om,aS om,d]
theorem BU {l:List Int}{a:List Nat}(c:l.Perm (zi a))(b:l.Pairwise (· <= ·)):l=zi (tY a):=by
 refine Ws ?_ b ?_
 .exact c.trans ((mJ a).map _).symm
 .unfold zi
  rw[List.pairwise_map];exact (Pg a).imp λh=>om
theorem El (O:LN)(x:List Nat)(i:Nat):(jO O x i).length=(O.getD i []).length:=by simp [jO]
theorem aaA {O:LN}{x:List Nat}{i k:Nat}(a:k<(O.getD i []).length):(jO O x i).getD k 0=x.getD ((O.getD i []).getD k 0) 0:=by
 unfold jO;rw[mZ (λq=>x.getD q 0) (d:=0) a]
theorem CS {W:Nat->Prop}(vc vx:V)(n i:Nat)(O:LN)(R:nZ)(G:List Nat->Prop)(x:List Nat)(h:H)(N:GC W h vc n O R G)(hi:i<n)(hx:SI h vx (zi x))(X:bJ n x):
  Ev T 165 [vc,vx,aC i] h (λv h'=>zN h h' v (zi (tY (jO O x i)))):=by
 obtain⟨vO,vR,e,sO,sR⟩:=N.ch
 subst e
 refine mV ?_
 have b:=N.isc
 have n7:=N.n7
 have⟨wO,tO,aO⟩:=sO
 have lO:=aO.length
 rw[dO,b.lo] at lO
 have Q:=tO.cT.2.1
 have a4:vR.one=true:=KY sR
 obtain⟨B,hB⟩:=exI h.next
 obtain⟨h1,e1,n1,g1,o1,f1⟩:=iI hB [aC n,vO,vR]
 have bx:=dH h (v:= aC n) (u:=vO) (w:=vR) rfl Q a4
 have a:=gH aO (i:=i) (by rw[dO,b.lo];omega) .undef []
 rw[mZ zi (d:= []) (by rw[b.lo];omega)] at a
 obtain⟨P,o,b2,L,a7⟩:=(tO.mono f1).shape n om om
 have co:h1.cell P (o+i)=some (wO.getD i .undef):=by rw[a7 i om,List.getD,dJ om];rfl
 generalize wO.getD i .undef=vo at a co
 have lo:=a.lens
 rw[bD] at lo
 obtain⟨m,t⟩:=exI ((O.getD i []).length)
 rw[t] at lo
 have U:=N.row (j:=i) hi
 rw[t] at U
 have mk:sD h1 1 8 [aC 0] (aC 0) (aC m)=some (.sl (B+1) 0 0 (.kn m),h1.new (.cells false (rc m λ_=> aC 0))):=by
  rw[iH om om om om,As,jP,qT,show ints (List.replicate m 0)=rc m λ_=> aC 0 from (Dg (by simp [aE]) λi hi=>by simp [ints,hi]).symm,n1]
  rfl
 obtain⟨h2,e2,n2,g2,o2,f2⟩:=iI n1 (rc m λ_=> aC 0)
 rw[e2] at mk
 have b3:h2.get B=some (.cells false [aC n,vO,vR]):=by rw[o2 _ om];exact g1
 have b0:h2.cell P (o+i)=some vo:=by rw[f2.cell (by have:=L om;omega)];exact co
 simp(disch:=omega)only[go_sem,aV,bx,hB,e1,H.cell_of g1,b2.ixa,co,lo,mk,H.cell_of b3,b0]
 obtain⟨b1,a3,a2,c,y⟩:=a.open
 rw[bD,t] at a2 c y
 obtain⟨idx,a1,Z,f,A⟩:=hx.open
 rw[bD,X.len] at Z f A
 refine aP (λk' l hh=> ∃(k:Nat),(∃g:Nat->V,l= [g 0,vx,g 2,g 3,g 4,.sl (B+1) 0 k (.kn m),g 6,vo,aC m,aC k,g 10])/\k<=m/\hh.get (B+1)=some (.cells false (rc m λj=>if j<k then aC ((jO O x i).getD j 0:Nat) else aC 0))/\B+1<hh.next/\Fr h hh/\k'=m-k) m
  ⟨0,aD rfl,fY _,by rw[g2];rfl,om,f1.trans f2,rfl⟩ ?_
 rintro k' l r ⟨k,⟨g,rfl⟩,hk,gS,nx,F,rfl⟩
 by_cases a0:(k:Int)<(m:Int)
 .have d1:=cV a0
  have J:k<m:=om
  have cq:r.cell b1 (a3+k)=some (aC ((O.getD i []).getD k 0:Nat)):=by rw[F.cell (c om),y k J];congr 2;rw[zi,mZ _ (d:=0) om]
  have hq:=Gz N.kT b hi (q:=(O.getD i []).getD k 0) (bF om)
  have K:=aaA (O:=O) (x:=x) (i:=i) (k:=k) om
  generalize (O.getD i []).getD k 0=q at cq hq K
  have cx:r.cell idx (a1+q)=some (aC (x.getD q 0:Nat)):=by rw[F.cell (f om),A q hq];congr 2;simp [zi,X.len,hq]
  obtain⟨h5,e5,n5,g5,o5,s⟩:=iI (h:=r) rfl [aC (x.getD q 0:Nat)]
  have a8:h5.get (B+1)=some (.cells false (rc m λj=>if j<k then aC ((jO O x i).getD j 0:Nat) else aC 0)):=by rw[s.get _ nx];exact gS
  have ap:=aiN a8 (dE _ _) J om (SV.one (v:= aC (x.getD q 0:Nat)) (id:=r.next) om g5 (.kn 1))
  rw[iQ] at ap
  refine wY d1 @a2.ixa cq @Z.ixa cx (dL r (z:= aC 0) (v:= aC (x.getD q 0:Nat)) rfl rfl) e5 ap ?_
  rw[fJ k]
  refine⟨m-(k+1),om,k+1,aD rfl,om,?_,om,(F.trans s).set om _,rfl⟩
  congr 2
  refine bW λj hj=>?_
  by_cases e:j=k
  .subst e;rw[aS rfl,aS om,K]
  .rw[aQ e]
   by_cases e2:j<k
   .rw[aS e2,aS om]
   .rw[aQ e2,aQ om]
 have d1:=bZ a0
 obtain rfl:k=m:=om
 have a6:(zi (jO O x i)).length=k:=by rw[bD,El,t]
 have a9:r.get (B+1)=some (.cells false (ints (zi (jO O x i)))):=by
  rw[gS,<-Pe,El,t];congr 2;exact bW λj hj=>by rw[aS hj]
 have so:=Tx r (B+1) (zi (jO O x i)) (.kn k) om a9 nx
 rw[a6] at so
 refine bM d1 ?_
 refine so.mono ?_
 rintro _ h5 ⟨l',g5,p5,a5,s⟩
 have el:=BU p5 a5
 subst el
 have ls:(zi (tY (jO O x i))).length=k:=by rw[bD,(mJ _).length_eq,El,t]
 refine aT ?_
 refine⟨⟨B+1,_,by rw[ls],om,iD nx s.next,g5,.inr (by rw[ls])⟩,⟨kQ F.next s.next,λid Y=>?_⟩⟩
 rw[s.get id (iD Y F.next) (λe=>by have:id=B+1:=e;omega)]
 exact F.get id Y
theorem RT:{l:List Nat}->{k im:Nat}->l[k]? =some im->l.idxOf im<=k
 | [],k,im,h=>by simp at h
 |a::l,0,im,h=>by
  have:a=im:=by simpa using h
  subst this;simp [List.idxOf_cons]
 |a::l,k+1,im,h=>by
  rw[List.idxOf_cons]
  by_cases e:a=im
  .subst e;simp
  .have b:(a==im)=false:=by simpa using e
   rw[b];have:=RT (l:=l) (k:=k) (im:=im) (by simpa using h);simp only[cond_false];omega
theorem ahL (N G:V)(a b:Nat)(o x:List Nat)(im:Nat)(h:H)(hn:o.length<1000000)(Q:SI h N (zi o))(hx:SI h G (zi x))(ha:h.get a=some (.cells false [G]))(Y:h.get b=some (.cells false [aC im]))(B:a<h.next)(O:b<h.next)(hr: ∀q∈o,q<x.length)(w:im∈o.map λq=>x.getD q 0):
  Ev T 225 [N,.fn 226 [] [.ptr a 0,.ptr b 0]] h (λv h'=>v= aC ((o.map λq=>x.getD q 0).idxOf im:Nat)/\Fr h h'):=by
 have W:=Q.lens
 rw[bD] at W
 obtain⟨L,z,y,i,n⟩:=Q.open
 rw[bD] at y i n
 obtain⟨idx,s,r,j,t⟩:=hx.open
 rw[bD] at r j t
 have A:=iLL.2 w
 rw[dO] at A
 refine pM W ?_
 refine aP (λP l f=> ∃(k:Nat),(∃g:Nat->V,l= [N,.fn 226 [] [.ptr a 0,.ptr b 0],g 2,g 3,aC (o.length:Int),aC k,g 6,g 7])/\k<=(o.map λq=>x.getD q 0).idxOf im/\Fr h f/\P=o.length-k) o.length
  ⟨0,aD rfl,fY _,Fr.refl h,rfl⟩ ?_
 rintro P l f ⟨k,⟨g,rfl⟩,hk,F,rfl⟩
 have c:k<o.length:=om
 have d1:decide ((k:Int)<(o.length:Int))=true:=cV om
 have R:f.cell L (z+k)=some (aC (o.getD k 0:Nat)):=by rw[F.cell (i om),n k c];congr 2;rw[zi,mZ _ (d:=0) c]
 have J:=hr _ (bF (d:=0) c)
 have m:(o.map λq=>x.getD q 0)[k]'(by simpa using c)=x.getD (o.getD k 0) 0:=by simp [List.getD,c]
 generalize o.getD k 0=q at R J m
 have Z:f.cell idx (s+q)=some (aC (x.getD q 0:Nat)):=by rw[F.cell (j om),t q J];congr 2;simp [zi,J]
 have ca:f.cell a 0=some G:=by rw[H.cell_of (by rw[F.get _ B];exact ha)];rfl
 have cb:f.cell b 0=some (aC im):=by rw[H.cell_of (by rw[F.get _ O];exact Y)];rfl
 have cl:Ev T 226 [aC q,.ptr a 0,.ptr b 0] f (λv h'=>v= .bool (decide (((x.getD q 0:Nat):Int)=(im:Int)))/\Fr f h'):=by
  refine Nk ca @r.ixa Z cb ?_;exact (Fr.refl f).cU om
 refine iG d1 @y.ixa R ?_
 refine cl.mono ?_
 rintro _ h2 ⟨rfl,U⟩
 by_cases u:((x.getD q 0:Nat):Int)=(im:Int)
 .rw[cV u]
  refine aT ?_
  have:(o.map λq=>x.getD q 0).idxOf im=k:=by
   have K:(o.map λq=>x.getD q 0).idxOf im<=k:=RT (by
    rw[dJ (by simpa using c),m]
    congr 1;omega)
   omega
  rw[this]
  exact⟨rfl,F.trans U⟩
 .rw[bZ u]
  refine aT ?_
  rw[fJ k]
  refine⟨o.length-(k+1),om,k+1,aD rfl,?_,F.trans U,rfl⟩
  have:(o.map λq=>x.getD q 0).idxOf im≠k:=λe=>by
   have K:=List.getElem_idxOf (iLL.2 w);simp only[e] at K;rw[m] at K;omega
  omega
theorem aeX {W:Nat->Prop}(vc m:V)(n i im:Nat)(O:LN)(R:nZ)(G:List Nat->Prop)(x:List Nat)(h:H)(l:GC W h vc n O R G)(hi:i<n)(Q:SI h m (zi x))(X:bJ n x)(r:im∈jO O x i):
  Ev T 166 [vc,m,aC i,aC im] h (λv h'=>zN h h' v (zi (mN O R x i im))):=by
 obtain⟨L,N,e,sO,sR⟩:=l.ch
 subst e
 refine mV ?_
 have a:=l.isc
 have n7:=l.n7
 have⟨wO,tO,aO⟩:=sO
 have⟨wR,tR,aR,kR⟩:=sR
 have lO:=aO.length
 have lR:=aR.length
 rw[dO,a.lo] at lO
 rw[dO,a.lr] at lR
 have t:=tO.cT.2.1
 have K:=tR.cT.2.1
 obtain⟨B,hB⟩:=exI h.next
 obtain⟨h1,e1,n1,g1,o1,f1⟩:=iI hB [aC n,L,N]
 obtain⟨h2,e2,n2,g2,o2,f2⟩:=iI n1 [m]
 obtain⟨P,e3,n3,g3,o3,f3⟩:=iI n2 [aC im]
 have U:=(f1.trans f2).trans f3
 have bx:=dH h (v:= aC n) (u:=L) (w:=N) rfl t K
 have a8:=mF Q.cT.1 Q.cT.2.1 h1
 have b0:=Lc h2 .i64 (im:Int)
 have F:P.get B=some (.cells false [aC n,L,N]):=by rw[o3 _ om,o2 _ om];exact g1
 have s:P.get (B+1)=some (.cells false [m]):=by rw[o3 _ om];exact g2
 have b:=gH aO (i:=i) (by rw[dO,a.lo];omega) .undef []
 rw[mZ zi (d:= []) (by rw[a.lo];omega)] at b
 obtain⟨a1,A,a9,b5,a0⟩:=(tO.mono U).shape n om om
 have co:P.cell a1 (A+i)=some (wO.getD i .undef):=by rw[a0 i om,List.getD,dJ om];rfl
 generalize wO.getD i .undef=vo at b co
 simp(disch:=omega)only[go_sem,aV,bx,hB,e1,a8,n1,e2,b0,n2,e3,H.cell_of F,a9.ixa,co]
 have row:=l.row (j:=i) hi
 refine (ahL vo m (B+1) (B+1+1) (O.getD i []) x im P om (b.mono U) (Q.mono U) s g3 om om (λq hq=>by rw[X.len];exact Gz l.kT a hi hq) r).mono ?_
 rintro _ f ⟨rfl,f4⟩
 obtain⟨k,hk,ek,_,rep,es,Y,_⟩:=uC l.kT a X hi r
 have a6:(List.map (λq=>x.getD q 0) (O.getD i [])).idxOf im=k:=ek
 rw[a6,es]
 have o:=U.trans f4
 have a3:f.get B=some (.cells false [aC n,L,N]):=by rw[f4.get _ om];exact F
 have b1:f.get (B+1)=some (.cells false [m]):=by rw[f4.get _ om];exact s
 have c:=gH aR (i:=i) (by rw[dO,a.lr];omega) .undef []
 rw[mZ (List.map zi) (d:= []) (by rw[a.lr];omega)] at c
 obtain⟨a7,z,b2,b4,b3⟩:=(tR.mono o).shape n om om
 have cr:f.cell a7 (z+i)=some (wR.getD i .undef):=by rw[b3 i om,List.getD,dJ om];rfl
 generalize wR.getD i .undef=vr at c cr
 have⟨wr,tr,ar⟩:=c
 have lr:=ar.length
 rw[dO] at lr
 have y:k<(R.getD i []).length:=by rw[a.rl i hi];exact hk
 have sz:=gH ar (i:=k) (by rw[dO];exact y) .undef []
 rw[mZ zi (d:= []) y] at sz
 obtain⟨a2,J,a4,b6,a5⟩:=(tr.mono o).shape (R.getD i []).length om om
 have cz:f.cell a2 (J+k)=some (wr.getD k .undef):=by rw[a5 k om,List.getD,dJ om];rfl
 generalize wr.getD k .undef=vz at sz cz
 have b7:(k:Int)<((R.getD i []).length:Int):=om
 have Z:=l.kT.cF rep.mem
 have fb:Fr f (H.mk f.tr (f.next+11)):=(Fr.refl f).cU om
 simp(disch:=omega)only[go_sem,H.cell_of a3,b2.ixa,cr,a4.ixa,cz,H.cell_of b1]
 refine (zD BX.ok vz m _ x (H.mk f.tr (f.next+11)) (by rw[Z.len];omega) (sz.mono (o.trans fb)) (Q.mono (o.trans fb)) (λj hj=>by rw[X.len];exact Z.eJ (by rw[<-Z.len];exact hj))).mono ?_
 rintro v h5 nw
 refine aT ?_
 exact (Qh nw).le (o.trans fb)
def Kept (b:Nat)(W:Nat->Prop)(hh h':H):Prop:=hh.next<=h'.next/\ ∀id,id<hh.next->(id<b\/W id)->h'.get id=hh.get id
theorem Kept.fr {b:Nat}{W:Nat->Prop}{a h':H}(f:Fr a h'):Kept b W a h':=⟨f.next,λid h _=>f.get id h⟩
structure Rdr (id b:Nat)(L:LN)(W0:Nat->Prop)(J:Nat->(Nat->Prop)->H->Prop)(D:(Nat->Prop)->H->Prop):Prop where
 kJ: ∀k W hh h',J k W hh->Kept b W hh h'->J k W h'
 kD: ∀W hh h',D W hh->Kept b W hh h'->D W h'
 y: ∀k W hh v,k<L.length->J k W hh->PV W hh v (L.getD k [])->(∀id,W id->id<hh.next)->b<=hh.next->(∀id,id<b->W id->W0 id)->
  Ey T id [v] hh (λv h'=> ∃W2,(∀id,id<hh.next->W2 id->W id)/\(∀id,W2 id->id<h'.next)/\Fx W hh h'/\(v= .bool true/\J (k+1) W2 h'\/v= .bool false/\D W2 h'))
def ElC (n:Nat)(vO vR:V)(O:LN)(R:nZ)(G:List Nat->Prop)(d:Nat):Prop:=
 ∀(i:Nat) (x:List Nat) (vx:V) (id bi bc bx:Nat) (h:H) (W:Nat->Prop) (J:Nat->(Nat->Prop)->H->Prop) (D:(Nat->Prop)->H->Prop),i+d=n->bJ n x->
  h.get bi=cE [aC i]->h.get bc=cE [aC n,vO,vR]->h.get bx=cE [vx]->PV W h vx x->bi<h.next->bc<h.next->bx<h.next-> ¬W bi-> ¬W bc-> ¬W bx->
  GC W h (.agg [aC n,vO,vR]) n O R G->(∀id,W id->id<h.next)->J 0 W h->Rdr id h.next (cK O R d i x) W J D->
  Ev T 164 [.yl id,.ptr bi 0,.ptr bc 0,.ptr bx 0] h (λ_ h'=> ∃W2,(∀id,id<h.next->W2 id->W id)/\(∀id,W2 id->id<h'.next)/\Fx W h h'/\(J (cK O R d i x).length W2 h'\/D W2 h'))
theorem abS (n:Nat)(t z:V)(O:LN)(R:nZ)(G:List Nat->Prop):ElC n t z O R G 0:=by
 intro i x r id A w l h W J D hi X Z K N o li lc lx wi wc wx g s L rd;obtain rfl:i=n:=om
 obtain⟨B,k⟩:=exI h.next;obtain⟨a,e1,n1,F,f,d⟩:=iI k [.yl id];have c:=mF (x:= .yl id) rfl rfl h;have ci:=H.cell_of (h:=a) (id:=A) (by rw[f _ om];exact Z);have q:=H.cell_of (h:=a) (id:=w) (by rw[f _ om];exact K);have u:=H.cell_of (h:=a) (id:=l) (by rw[f _ om];exact N);have d1:decide ((i:Int)=(i:Int))=true:=cV rfl;refine alP c k e1 ci q ?_;refine bV (λ_=>?_) (λY=>(Y (by first|rfl|trivial)).elim);simp(disch:=omega)only[go_sem,H.cell_of F,u];refine (rd.y 0 W a r (by simp [cK]) (rd.kJ 0 W h a L (Kept.fr d)) (o.mono d) (λid h=>by have:=s id h;omega) om (λid _ h=>h)).mono ?_;rintro v j ⟨P,m,U,Q,b⟩;refine aT ?_;refine⟨P,λid a j=>m id om j,U,(Fx.of d).trans Q (λ_ _ h=>h),?_⟩;rcases b with ⟨_,b⟩|⟨_,b⟩
 .exact .inl b
 .exact .inr b
theorem RL (d:Int)(c b a:V)(i:Int)(L:c.one=true)(J:b.one=true)(l:a.cells= [a])(k:a.one=true)(h:H):Ev T 111 [.agg [aC d,c,b],a,aC i] h (λv h'=>v= .fn 164 [] [.ptr (h.next+1+1) 0,.ptr h.next 0,.ptr (h.next+1) 0]/\
  h'.get h.next=cE [aC d,c,b]/\h'.get (h.next+1)=cE [a]/\h'.get (h.next+1+1)=cE [aC i]/\h'.next=h.next+3/\Fr h h'):=by
 refine mV ?_
 obtain⟨B,o⟩:=exI h.next
 obtain⟨K,e1,n,s,Q,A⟩:=iI o [aC d,c,b]
 obtain⟨t,e2,q,z,N,y⟩:=iI n [a]
 obtain⟨P,F,x,O,m,G⟩:=iI q [aC i]
 have r:=dH h (v:= aC d) (u:=c) (w:=b) rfl L J
 have j:=mF l k K
 have f:=Lc t .i64 i
 simp(disch:=omega)only[go_sem,aV,r,o,e1,j,n,e2,f,q,F]
 exact⟨by rw[m _ om,N _ om];exact s,by rw[m _ om];exact z,O,x,(A.trans y).trans G⟩
theorem anE {α β:Type}{l:List α}{f:α->List β}{m:Nat}(a:m<l.length)(d:α):((l.take (m+1)).flatMap f).length=((l.take m).flatMap f).length+(f (l.getD m d)).length:=by
 rw[iW d a,List.flatMap_append];simp
theorem HZ {α β:Type}{f:α->List β}{e:β}(d:α):{l:List α}->{m k:Nat}->m<l.length->k<(f (l.getD m d)).length->(l.flatMap f).getD (((l.take m).flatMap f).length+k) e=(f (l.getD m d)).getD k e/\((l.take m).flatMap f).length+k<(l.flatMap f).length
 | [],m,k,h,_=>by simp at h
 |a::l,0,k,_,b=>by
  have b:k<(f a).length:=b;constructor
  .simp only[List.take_zero,List.flatMap_nil,List.length_nil,Nat.zero_add,List.flatMap_cons]
   rw[List.getD,List.getD,Aw b];rfl
  .simp;omega
 |a::l,m+1,k,h,b=>by
  have j:m<l.length:=by simpa using h
  have c:k<(f (l.getD m d)).length:=by simpa using b
  obtain⟨i,n⟩:=HZ (e:=e) d (l:=l) j c;constructor
  .simp only[List.take_succ_cons,List.flatMap_cons,eE]
   rw[Nat.add_assoc,List.getD,Hs om,Nat.add_sub_cancel_left];exact i
  .simp only[List.take_succ_cons,List.flatMap_cons,eE];omega
structure InJ (off id2 b4 id:Nat)(r:dP)(J:Nat->(Nat->Prop)->H->Prop)(W0:Nat->Prop)(k:Nat)(W:Nat->Prop)(hh:H):Prop where
 ex: ∃W3,(∀id,W id↔(W3 id\/id=id2))/\ ¬W3 id2/\ ¬W3 b4/\J (off+k) W3 hh/\(∀id,W3 id->id<hh.next)/\ ∀id,id<id2->W3 id->W0 id
 gr:hh.get id2=some (.loop r)
 g4:hh.get b4=cE [.yl id]
 nx:id2<hh.next
structure InD (id2 b4:Nat)(r:dP)(D:(Nat->Prop)->H->Prop)(W0:Nat->Prop)(W:Nat->Prop)(hh:H):Prop where
 ex: ∃W3,(∀id,W id↔(W3 id\/id=id2))/\ ¬W3 id2/\D W3 hh/\(∀id,W3 id->id<hh.next)/\ ∀id,id<id2->W3 id->W0 id
 gr:hh.get id2=some (.loop (Cy r .ret))
 nx:id2<hh.next
theorem ZJ (n:Nat)(K L:V)(O:LN)(R:nZ)(G:List Nat->Prop)(d:Nat)(ih:ElC n K L O R G d):ElC n K L O R G (d+1):=by
 intro i x vx id bi bc bx h W J D hi X gi gc gx px li lc lx wi wc wx gC hW hJ rd;refine mV ?_;have a8:i<n:=om
 have n7:=gC.n7
 obtain⟨c4,d4⟩:K.one=true/\L.one=true:=by
  obtain⟨a,b,e,s1,s2⟩:=gC.ch;cases e;have⟨_,t1,_⟩:=s1;have⟨_,t2,_⟩:=s2;exact⟨t1.cT.2.1,t2.cT.2.1⟩
 obtain⟨B,hB⟩:=exI h.next;obtain⟨q,e1,n1,g1,o1,f1⟩:=iI hB [.yl id];have f0:=mF (x:= .yl id) rfl rfl h;have c2:q.get bi=cE [aC i]:=by rw[o1 _ om];exact gi
 have b7:q.get bc=cE [aC n,K,L]:=by rw[o1 _ om];exact gc
 have c3:q.get bx=cE [vx]:=by rw[o1 _ om];exact gx
 have d1:decide ((i:Int)=(n:Int))=false:=bZ om;have f3:=bU b7;simp(disch:=omega)only[go_sem,aV,f0,hB,e1,H.cell_of c2,H.cell_of b7,d1,f3,H.cell_of c3];refine (CS (.agg [aC n,K,L]) vx n i O R G x q (gC.mono f1) a8 (px.mono f1).si X).mono ?_;rintro v8 c b4;obtain⟨z,a4⟩:=exI (tY (jO O x i));rw[a4] at b4;have f2:=b4.fr;have F2:=f1.trans f2
 have i6:z.length<=7:=by
  have:=(gC.row (j:=i) a8).2;rw[<-a4,(mJ _).length_eq,El];omega
 have e6: ∀s,s∈z->s∈jO O x i:=λs h=>(mJ _).mem_iff.1 (by rw[a4];exact h)
 have hL:cK O R (d+1) i x=z.flatMap λs=>cK O R d (i+1) (mN O R x i s):=by rw[<-a4];rfl
 obtain⟨P,cp,b3,i3,g5,gP,_⟩:=b4.ex;rw[bD] at b3;have l8:dD v8=some (aC (z.length:Int)):=by rw[b3];rfl
 have e3:J 0 W c:=rd.kJ 0 W h c hJ (Kept.fr F2);have n2:=f2.next;refine bM l8 ?_;refine aP (λk' a9 hh=> ∃(m:Nat) (t:Nat->Prop),(∃g:Nat->V,a9= [.yl id,.ptr bi 0,.ptr bc 0,.ptr bx 0,.ptr B 0,g 5,g 6,g 7,v8,aC (z.length:Int),aC m,g 11,g 12,g 13,g 14])/\m<=z.length/\J ((z.take m).flatMap λs=>cK O R d (i+1) (mN O R x i s)).length t hh/\Fx W c hh/\(∀id,id<c.next->t id->W id)/\(∀id,t id->id<hh.next)/\k'=z.length-m) z.length
  ⟨0,W,aD rfl,fY _,e3,Fx.refl _ _,λ_ _ h=>h,λid h=>by have:=hW id h;omega,rfl⟩ ?_
 rintro k' a9 w ⟨m,t,⟨g,rfl⟩,hm,a7,F3,w1,w2,rfl⟩
 by_cases c5:(m:Int)<(z.length:Int)
 case neg=>
  have d2:=bZ c5;obtain rfl:m=z.length:=om
  refine bM d2 ?_;rw[List.take_length,<-hL] at a7;exact⟨t,λid q c=>w1 id om c,w2,(Fx.of F2).trans F3 (λ_ _ h=>h),.inl a7⟩
 have d2:=cV c5;have a3:m<z.length:=om
 obtain⟨s,U⟩:=exI (z.getD m 0);have b0:s∈jO O x i:=e6 s (by rw[<-U];exact bF a3);obtain⟨_,_,_,_,_,_,Y,_⟩:=uC gC.kT gC.isc X a8 b0;have n3:=F3.next;have iU: ∀k,k<c.next-> ¬W k->w.get k=c.get k:=λk q c=>F3.get k q c
 have wB: ¬W B:=λh=>by have:=hW B h;omega
 have wP: ¬W P:=λh=>by have:=hW P h;omega
 have c9:w.get bi=cE [aC i]:=by rw[iU _ om wi,f2.get _ om];exact c2
 have c0:w.get bc=cE [aC n,K,L]:=by rw[iU _ om wc,f2.get _ om];exact b7
 have d6:w.get bx=cE [vx]:=by rw[iU _ om wx,f2.get _ om];exact c3
 have e8:w.get B=cE [.yl id]:=by rw[iU _ om wB,f2.get _ om];exact g1
 have cP:w.cell P m=some (aC s):=by rw[H.cell_of (by rw[iU _ g5 wP];exact gP),Ax a3,U]
 have g0:=bU c0
 have eO:dS K K=true:=by
  obtain⟨a,b,e,s1,s2⟩:=gC.ch;cases e;have⟨_,t1,_⟩:=s1;exact t1.dS
 have eR:dS L L=true:=by
  obtain⟨a,b,e,s1,s2⟩:=gC.ch;cases e;have⟨_,t2,_⟩:=s2;exact t2.dS
 have h8:GC W w (.agg [aC n,K,L]) n O R G:=(gC.mono F2).go F3 (λ_ _ h=>h);have d9:PV W w vx x:=(px.mono F2).fx F3;have fb:Fr w (H.mk w.tr (w.next+9)):=(Fr.refl w).cU om;rw[b3];have d5:(i:Int)+1=((i+1:Nat):Int):=om
 simp(disch:=omega)only[go_sem,d2,cP,g0,bU (h:=H.mk w.tr (w.next+9)) c0,H.cell_of d6,H.cell_of c9,d5];refine (aeX (.agg [aC n,K,L]) vx n i s O R G x (H.mk w.tr (w.next+9)) (h8.mono fb) a8 (d9.mono fb).si X b0).mono ?_;rintro b5 h4 d3;have f4:=fb.trans d3.fr;have n4:=f4.next;have f8:h4.get bi=cE [aC i]:=by rw[f4.get _ om];exact c9
 have g2:h4.get bc=cE [aC n,K,L]:=by rw[f4.get _ om];exact c0
 have b8:PV t h4 b5 (mN O R x i s):=d3.pv λid h=>by have:=w2 id h;simp;omega
 simp(disch:=omega)only[go_sem,H.cell_of f8,bU g2,eO,eR];refine (RL (n:Int) K L b5 ((i+1:Nat):Int) c4 d4 b8.fX.1 b8.fX.2 h4).mono ?_;rintro _ h5 ⟨rfl,g6,d8,e9,n5,f5⟩;refine aT ?_;refine⟨rfl,sJ λr hr=>?_⟩;obtain⟨o,b9⟩:=exI h5.next;rw[b9];have iS:r.st= .ready:=by rw[hr]
 have c6:r.pend=none:=by rw[hr]
 obtain⟨h6,a6⟩: ∃h6,h6=h5.new (.loop r):=⟨_,rfl⟩
 have g8:h6.get o=some (.loop r):=by rw[a6,<-b9,H.aI]
 have n6:h6.next=o+1:=by rw[a6,H.aM,b9]
 have f6:Fr h5 h6:=by rw[a6];exact (Fr.refl h5).new _
 rw[<-a6];have b6:=(f4.trans f5).trans f6;obtain⟨Q,N⟩:=exI (((z.take m).flatMap λs=>cK O R d (i+1) (mN O R x i s)).length);rw[N] at a7;have i1:=f5.next;have f7: ¬t o:=λh=>by have:=w2 o h;omega
 have g7: ¬t B:=λh=>wB (w1 B om h)
 have d7: ∀k,k<(cK O R d (i+1) (mN O R x i s)).length->(cK O R (d+1) i x).getD (Q+k) []=(cK O R d (i+1) (mN O R x i s)).getD k []/\Q+k<(cK O R (d+1) i x).length:=λk hk=>by
  rw[hL,<-N];have:=HZ (f:=λs=>cK O R d (i+1) (mN O R x i s)) (e:=([]:List Nat)) 0 (l:=z) (m:=m) (k:=k) a3 (by rw[U];exact hk);rw[U] at this;exact this
 have c7:Fx W h h6:=((Fx.of F2).trans F3 (λ_ _ h=>h)).trans (Fx.of b6) (λ_ _ h=>h)
 have h0:Rdr o h6.next (cK O R d (i+1) (mN O R x i s)) (λk=>t k\/k=o) (InJ Q o B id r J t) (InD o B r D t):=by
  refine⟨λk W2 hh h' j kp=>?_,λW2 hh h' j kp=>?_,λk W2 hh v hk j pv i0 i5 i4=>?_⟩
  .obtain⟨W3,u,Z,q3,q4,q5,q6⟩:=j.ex
   have nx:=j.nx;exact⟨⟨W3,u,Z,q3,rd.kJ _ _ _ _ q4 ⟨kp.1,λid q c=>kp.2 id q (by rcases c with c|c;exact .inl om;exact .inr ((u id).2 (.inl c)))⟩,λid h=>iD (q5 id h) kp.1,q6⟩,by rw[kp.2 _ nx (.inl om)];exact j.gr,by rw[kp.2 _ om (.inl om)];exact j.g4,iD nx kp.1⟩
  .obtain⟨W3,u,Z,q4,q5,q6⟩:=j.ex
   have nx:=j.nx;exact⟨⟨W3,u,Z,rd.kD _ _ _ q4 ⟨kp.1,λid q c=>kp.2 id q (by rcases c with c|c;exact .inl om;exact .inr ((u id).2 (.inl c)))⟩,λid h=>iD (q5 id h) kp.1,q6⟩,by rw[kp.2 _ nx (.inl om)];exact j.gr,iD nx kp.1⟩
  .obtain⟨W3,u,Z,q3,q4,q5,q6⟩:=j.ex
   have nx:=j.nx;obtain⟨g3,e5⟩:=d7 k hk;refine pP j.gr (by rw[hr];rfl) iS λh9 g9 n9 o9=>?_
   rw[congrArg dP.assign hr,congrArg dP.vars hr,congrArg dP.pars hr];simp(disch:=omega)only[go_sem,List.zip_cons_cons,List.zip_nil_left];rw[congrArg dP.body hr];have d0:h9.get B=cE [.yl id]:=by rw[o9 _ om];exact j.g4
   have f9:Fx W2 hh h9:=⟨om,λk _ c=>o9 k λe=>c ((u k).2 (.inr e))⟩
   have k9:Kept h.next W3 hh h9:=⟨om,λk q c=>o9 k λe=>by
    subst e;rcases c with c|c
    .omega
    .exact Z c⟩
   simp(disch:=omega)only[go_sem,H.cell_of d0];refine (rd.y (Q+k) W3 h9 v e5 (rd.kJ _ _ _ _ q4 k9) (by rw[g3];exact PV.go pv f9 λid _ h=>(u id).2 (.inl h)) (λid h=>by rw[n9];exact q5 id h) om (λid q c=>w1 id om (q6 id om c))).mono ?_;rintro v' A ⟨W4,u1,u2,a5,hv⟩;have i2:=a5.next;have c1: ¬W4 o:=λh=>Z (u1 o om h)
   have e7: ¬W4 B:=λh=>q3 (u1 B om h)
   have b1:A.get o=some (.loop (pF r)):=by rw[a5.get o om Z];exact g9
   have c8:A.get B=cE [.yl id]:=by rw[a5.get B om q3];exact d0
   have b2:Fx W2 hh A:=f9.trans a5 λid _ h=>(u id).2 (.inl h)
   have low: ∀k,k<o->W4 k->t k:=λk q c=>q6 k q (u1 k om c)
   have kk: ∀r2:dP,Kept h.next W4 A (A.set o (some (.loop r2))):=λr2=>⟨dN _,λk q c=>H.Cj _ (λe=>by
    subst e;rcases c with c|c
    .omega
    .exact c1 c) _⟩
   rcases hv with ⟨rfl,hv⟩|⟨rfl,hv⟩
   .refine aT ?_
    refine pQ iS c6 b1 ⟨λk=>W4 k\/k=o,λk q c=>?_,λk c=>?_,b2.trans (Fx.set A ((u o).2 (.inr rfl)) _) (λ_ _ h=>h),.inl ⟨rfl,⟨W4,λk=>Iff.rfl,c1,e7,?_,u2,low⟩,by rw[H.aJ],by rw[H.Cj _ om];exact c8,by simp only[H.bT];omega⟩⟩
    .rcases c with c|c
     .exact (u k).2 (.inl (u1 k om c))
     .exact (u k).2 (.inr c)
    .rcases c with c|c
     .exact u2 k c
     .simp only[H.bT];omega
    .exact rd.kJ _ _ _ _ hv (kk r)
   .refine aT ?_
    refine On b1 ⟨λk=>W4 k\/k=o,λk q c=>?_,λk c=>?_,b2.trans (Fx.set A ((u o).2 (.inr rfl)) _) (λ_ _ h=>h),.inr ⟨rfl,⟨W4,λk=>Iff.rfl,c1,?_,u2,low⟩,by rw[H.aJ],by simp only[H.bT];omega⟩⟩
    .rcases c with c|c
     .exact (u k).2 (.inl (u1 k om c))
     .exact (u k).2 (.inr c)
    .rcases c with c|c
     .exact u2 k c
     .simp only[H.bT];omega
    .exact rd.kD _ _ _ hv (kk _)
 have F: ∀k,k<h5.next->h6.get k=h5.get k:=λk hk=>f6.get k hk
 have e4:GC (λk=>t k\/k=o) h6 (.agg [aC n,K,L]) n O R G:=gC.go c7 λk q c=>by
  rcases c with c|c
  .exact w1 k om c
  .omega
 refine (ih (i+1) (mN O R x i s) b5 o (h4.next+1+1) h4.next (h4.next+1) h6 (λk=>t k\/k=o) (InJ Q o B id r J t) (InD o B r D t) om Y (by rw[F _ om];exact e9) (by rw[F _ om];exact g6) (by rw[F _ om];exact d8)
  (((b8.mono f5).mE λk q c=>(by rcases c with c|c;exact c;omega)).mono f6) om om om (λh=>by rcases h with h|h;have:=w2 _ h;omega;omega) (λh=>by rcases h with h|h;have:=w2 _ h;omega;omega) (λh=>by rcases h with h|h;have:=w2 _ h;omega;omega) e4 (λk h=>by rcases h with h|h;have:=w2 _ h;omega;omega)
  ⟨⟨t,λk=>Iff.rfl,f7,g7,rd.kJ _ _ _ _ a7 (Kept.fr b6),λk h=>by have:=w2 _ h;omega,λ_ _ h=>h⟩,g8,by rw[F _ om,f5.get _ om,f4.get _ om];exact e8,om⟩ h0).mono ?_
 rintro _ h7 ⟨W7,a1,a2,F7,j|j⟩
 .obtain⟨W3,u,Z,q3,q4,q5,q6⟩:=j.ex
  have nx:=j.nx;refine⟨r,j.gr,by rw[iS];simp,?_⟩;have en:r.pend.getD .norm= .norm:=by rw[c6];rfl
  rw[en];refine aT ?_;rw[fJ m]
  have a0:Fx W c h7:=F3.trans ((Fx.of (W:=λk=>t k\/k=o) b6).trans F7 (λ_ _ h=>h)) λk q c=>by
   rcases c with c|c
   .exact w1 k q c
   .omega
  refine⟨z.length-(m+1),om,m+1,W3,aD rfl,om,?_,⟨a0.next,λk q c=>by rw[H.Cj _ om];exact a0.get k q c⟩,λk q c=>w1 k q (q6 k om c),q5,rfl⟩;rw[anE a3 0,U,N]
  refine rd.kJ _ _ _ _ q4 ⟨dN _,λk q c=>H.Cj _ (λe=>by
   subst e;rcases c with c|c
   .omega
   .exact Z c) _⟩
 .obtain⟨W3,u,Z,q4,q5,q6⟩:=j.ex
  have nx:=j.nx;refine⟨_,j.gr,by simp [Cy],?_⟩;have en:(Cy r .ret).pend.getD .norm= .ret:=rfl;rw[en];refine aT ?_
  have a0:Fx W h h7:=c7.trans F7 λk q c=>by
   rcases c with c|c
   .exact w1 k om c
   .omega
  refine⟨W3,λk q c=>w1 k om (q6 k om c),q5,⟨a0.next,λk q c=>by rw[H.Cj _ om];exact a0.get k q c⟩,.inr ?_⟩
  refine rd.kD _ _ _ q4 ⟨dN _,λk q c=>H.Cj _ (λe=>by
   subst e;rcases c with c|c
   .omega
   .exact Z c) _⟩
theorem RF (n:Nat)(a b:V)(O:LN)(R:nZ)(G:List Nat->Prop): ∀d,ElC n a b O R G d
 |0=>abS n a b O R G
 |d+1=>ZJ n a b O R G d (RF n a b O R G d)
def akV (W M:Nat->Prop)(b:Nat)(hh:H)(w:V)(x:List Nat):Prop:= ∃id cap,w= .sl id 0 x.length cap/\W id/\ ¬M id/\b<=id/\id<hh.next/\hh.get id=cE (ints (zi x))
structure LsJ (h:H)(b0 A B id2:Nat)(r:dP)(l:LN)(W:Nat->Prop)(hh:H):Prop where
 ex: ∃va ws M,hh.get A=cE [va]/\dF hh va 1 ws (id2+1)/\bH (akV W M (id2+1) hh) ws l/\Mh M va/\(∀id,M id->W id)/\(∀id,M id->id<hh.next)/\M A/\ ∀id off n c,va= .sl id off n c->id≠id2/\id≠A
 gr:hh.get id2=some (.loop r)
 wA:W A
 w2:W id2
 g1:hh.get (B+1)=cE [.aH]
 g2:hh.get (B+1+1)=cE [aC 0]
 nx:id2<hh.next
 nA:A<hh.next
 fr:Fr h hh
theorem LsJ.kept {h:H}{m b A B d:Nat}{r:dP}{l:LN}{W:Nat->Prop}{f h':H}(j:LsJ h m A B d r l W f)(k:Kept b W f h')(G:B+1+1<b)(J:h.next<=b)(y:b<=f.next):LsJ h m A B d r l W h':=by
 obtain⟨s,F,M,t,u,el,i,o,v,mA,ne⟩:=j.ex
 refine⟨⟨s,F,M,by rw[k.2 A j.nA (.inr j.wA)];exact t,u.mono k.1 λid q n c e _ z=>k.2 id z (.inr (o _ (i _ _ _ _ e))),el.mono λw x ⟨id,cap,e,e1,e2,e3,e4,e5⟩=>⟨id,cap,e,e1,e2,e3,iD e4 k.1,by rw[k.2 id e4 (.inr e1)];exact e5⟩,i,o,λid h=>iD (v id h) k.1,mA,ne⟩,
  by rw[k.2 _ j.nx (.inr j.w2)];exact j.gr,j.wA,j.w2,by rw[k.2 _ om (.inl om)];exact j.g1,by rw[k.2 _ om (.inl om)];exact j.g2,iD j.nx k.1,iD j.nA k.1,⟨kQ j.fr.next k.1,λid a=>by rw[k.2 id (iD a j.fr.next) (.inl om)];exact j.fr.get id a⟩⟩
theorem kF {W:Nat->Prop}{h:H}{c:V}{n:Nat}{O:LN}{R:nZ}{G:List Nat->Prop}(g:GC W h c n O R G):NJ O n 0<=5040:=by
 have f: ∀i,i<n->(O.getD i []).length<=n-i:=λi hi=>yP (λx m=>g.kT.cF m) hi (g.isc.asc i hi) (g.isc.mem i hi)
 have a: ∀d i,i+d=n->NJ O d i<= [1,1,2,6,24,120,720,5040].getD d 0:=by
  intro d
  induction d with
  |zero=>intro i _;simp [NJ]
  |succ d ih=>
   intro i hi;unfold NJ;have k:=ih (i+1) om;have o:=f i om;have l:(O.getD i []).length<=d+1:=om
   have b:=g.n7;have j:=Nat.mul_le_mul l k;refine kQ j ?_;have:d<=6:=om
   match d,this with
   |0,_=>decide
   |1,_=>decide
   |2,_=>decide
   |3,_=>decide
   |4,_=>decide
   |5,_=>decide
   |6,_=>decide
 have b:=g.n7;refine kQ (a n 0 om) ?_
 match n,b with
 |0,_=>decide
 |1,_=>decide
 |2,_=>decide
 |3,_=>decide
 |4,_=>decide
 |5,_=>decide
 |6,_=>decide
 |7,_=>decide
theorem Ra {W0:Nat->Prop}(vc:V)(n:Nat)(O:LN)(R:nZ)(G:List Nat->Prop)(h:H)(gc:GC W0 h vc n O R G):
  Ev T 71 [vc] h (λv h'=> ∃vl,v= .tup [vl,aC 0]/\OG h h' vl (cK O R n 0 (bI n))):=by
 obtain⟨vO,vR,e,sO,sR⟩:=gc.ch
 subst e
 refine mV ?_
 have i8:=gc.isc
 have n0:=gc.n0
 have n7:=gc.n7
 have b3:vO.one=true:=NB sO
 have b5:vR.one=true:=KY sR
 have eO:dS vO vO=true:=by have⟨_,t,_⟩:=sO;exact t.dS
 have eR:dS vR vR=true:=by have⟨_,t,_⟩:=sR;exact t.dS
 obtain⟨L,hL⟩:=exI (cK O R n 0 (bI n))
 obtain⟨c7,ll⟩:=dV gc.kT i8
 have j6:=kF gc
 rw[hL] at c7 ll
 have LP: ∀k,k<L.length->bJ n (L.getD k []):=λk hk=>gc.kT.cF ((c7.mem _).1 (bF hk))
 obtain⟨B,hB⟩:=exI h.next
 obtain⟨h1,e1,n1,g1,o1,f1⟩:=iI hB [aC n,vO,vR]
 obtain⟨s,e2,n2,g2,o2,f2⟩:=iI n1 [.aH]
 obtain⟨h3,e3,n3,g3,o3,f3⟩:=iI n2 [aC 0]
 have F3:=(f1.trans f2).trans f3
 have bx:=dH h (v:= aC n) (u:=vO) (w:=vR) rfl b3 b5
 have d6:h3.get B=cE [aC n,vO,vR]:=by rw[o3 _ om,o2 _ om];exact g1
 have j0:=bU d6
 refine Ux @aV bx hB e1 n1 e2 n2 e3 j0 ?_
 refine ((gc.mono F3).check).mono ?_
 rintro _ h4 ⟨rfl,f4⟩
 have n4:=f4.next
 obtain⟨A,hA⟩:=exI h4.next
 obtain⟨h5,e5,n5,g5,o5,f5⟩:=iI hA [.aH]
 have b0:h5.get B=cE [aC n,vO,vR]:=by rw[f5.get _ om,f4.get _ om];exact d6
 have f0:h5.get (B+1)=cE [.aH]:=by rw[f5.get _ om,f4.get _ om,o3 _ om];exact g2
 have g0:h5.get (B+1+1)=cE [aC 0]:=by rw[f5.get _ om,f4.get _ om];exact g3
 have F5:=(F3.trans f4).trans f5
 have g7:=bU b0
 have c4:=bU (h:=H.mk h5.tr (h5.next+5)) b0
 refine aT ?_
 refine bV (λhc=>(hc (by first|rfl|trivial)).elim) (λ_=>?_)
 simp(disch:=omega)only[go_sem,hA,e5,g7,c4,H.cell_of b0]
 refine (Sj EH.ok n (H.mk h5.tr (h5.next+5)) om).mono ?_
 rintro v6 h6 nw
 have fb:Fr h5 (H.mk h5.tr (h5.next+5)):=(Fr.refl h5).cU om
 have f6:=fb.trans nw.fr
 have n6:=f6.next
 have i9:h6.get B=cE [aC n,vO,vR]:=by rw[f6.get _ om];exact b0
 have c6:=Qh nw
 have c2:=c6.own
 simp(disch:=omega)only[go_sem,bU i9,eO,eR]
 refine (RL (n:Int) vO vR v6 0 b3 b5 c2.sv.cT.1 c2.sv.cT.2.1 h6).mono ?_
 rintro _ h7 ⟨rfl,i6,h0,e8,j5,f7⟩
 refine aT ?_
 refine⟨rfl,sJ λr hr=>?_⟩
 obtain⟨a,b9⟩:=exI h7.next
 rw[b9]
 have iS:r.st= .ready:=by rw[hr]
 have c9:r.pend=none:=by rw[hr]
 obtain⟨h8,b2⟩: ∃h8,h8=h7.new (.loop r):=⟨_,rfl⟩
 have g4:h8.get a=some (.loop r):=by rw[b2,<-b9,H.aI]
 have n8:h8.next=a+1:=by rw[b2,H.aM,b9]
 have f8:Fr h7 h8:=by rw[b2];exact (Fr.refl h7).new _
 have U: ∀k,k<h7.next->h8.get k=h7.get k:=λk hk=>f8.get k hk
 rw[<-b2]
 have d1:=(f6.trans f7).trans f8
 have F8:=F5.trans d1
 have c0: ∀k,k<h5.next->h8.get k=h5.get k:=λk hk=>d1.get k hk
 have J0:LsJ h B A B a r (L.take 0) (λk=>k=A\/k=a) h8:=
  ⟨⟨.aH, [],λk=>k=A,by rw[c0 _ om];exact g5,dF.aH _ _ _,trivial,λ_ _ _ _ e=>(by cases e),λk h=> .inl h,λk h=>by have:k=A:=h;omega,rfl,λ_ _ _ _ e=>(by cases e)⟩,g4,.inl rfl,.inr rfl,by rw[c0 _ om];exact f0,by rw[c0 _ om];exact g0,om,om,F8⟩
 have j1: ∀k,(k=A\/k=a)->k<h8.next:=λk h=>by rcases h with h|h<;>omega
 have j2:GC (λk=>k=A\/k=a) h8 (.agg [aC n,vO,vR]) n O R G:=gc.go (Fx.of F8) λk h1 s=>by rcases s with s|s<;>omega
 have p6:PV (λk=>k=A\/k=a) h8 v6 (bI n):=by
  obtain⟨i5,c5,ev,a1,a2,a3,a4⟩:=c6.ex;simp only at a1;rw[ev];exact⟨SV.all (by rw[aE,jP]) (by have:=(f7.trans f8).next;omega) (by rw[U _ (by have:=f7.next;omega),f7.get _ a2];exact a3) _,λh=>by have:i5=A\/i5=a:=h;have:=f7.next;omega⟩
 refine (RF n vO vR O R G n 0 (bI n) v6 a (h6.next+1+1) h6.next (h6.next+1) h8 (λk=>k=A\/k=a) (λk W K=>LsJ h B A B a r (L.take k) W K) (λ_ _=>False) om (bJ.one n)
  (by rw[U _ om];exact e8) (by rw[U _ om];exact i6) (by rw[U _ om];exact h0) p6 om om om (λh=>by rcases h with h|h<;>omega) (λh=>by rcases h with h|h<;>omega) (λh=>by rcases h with h|h<;>omega) j2 j1 J0 ?_).mono ?_
 .rw[hL]
  refine⟨λk W K h' j kp=>j.kept kp om (by have:=F8.next;omega) (by have:=j.nx;omega),λ_ _ _ h=>h.elim,λk W K v hk j pv i3 j8 j4=>?_⟩
  obtain⟨va,ws,M,gA,ow,el,bl,mw,mn,mA,ne⟩:=j.ex
  have nx:=j.nx
  have nA:=j.nA
  have d0:=bH.length el
  rw[jG,Nat.min_eq_left om] at d0
  refine pP j.gr (by rw[hr];rfl) iS λJ g9 n9 o9=>?_
  rw[congrArg dP.assign hr,congrArg dP.vars hr,congrArg dP.pars hr]
  simp(disch:=omega)only[go_sem,List.zip_cons_cons,List.zip_nil_left]
  rw[congrArg dP.body hr]
  have c1:J.get A=cE [va]:=by rw[o9 _ om];exact gA
  have i4:Fx W K J:=⟨om,λk _ s=>o9 k λe=>s (e▸j.w2)⟩
  have d8:=pv.fx i4
  obtain⟨x,hx⟩:=exI (L.getD k [])
  rw[hx] at d8
  have X:bJ n x:=by rw[<-hx];exact LP k hk
  have b6:dF J va 1 ws (a+1):=ow.mono om λid i m c e _ _=>o9 id (ne _ _ _ _ e).1
  have f9:=dF.lens b6 d0
  have i1:=b6.sv.dS
  have d5:decide ((k:Int)=5040)=false:=bZ om
  have c8:Fr J (H.mk J.tr (J.next+6)):=(Fr.refl J).cU om
  simp(disch:=omega)only[go_sem,H.cell_of c1,f9,d5]
  refine (rW v (zi x) (H.mk J.tr (J.next+6)) (by rw[bD,X.len];omega) (by rw[bD,X.len];omega) (d8.mono c8).si).mono ?_
  rintro b7 d Y
  have a8:=c8.trans Y.fr
  obtain⟨i5,c5,ev,a1,a2,a3,a4⟩:=Y.ex
  simp only at a1
  have a7:d.get A=cE [va]:=by rw[a8.get _ om];exact c1
  have b4:=Y.own
  simp(disch:=omega)only[go_sem,H.cell_of a7,i1,dL _ (z:= .aH) b4.sv.cT.1 b4.sv.cT.2.1]
  obtain⟨f,l⟩: ∃f:H,f=H.mk ((H.mk d.tr (J.next+3)).new (Ob.cells false [b7])).tr d.next:=⟨_,rfl⟩
  rw[<-l]
  have e9:f.get (J.next+3)=cE [b7]:=by rw[l];exact H.aI (H.mk d.tr (J.next+3)) _
  have g6:f.next=d.next:=by rw[l]
  have a5: ∀k,k≠J.next+3->f.get k=d.get k:=λk hk=>by rw[l];exact H.bG (H.mk d.tr (J.next+3)) (by simpa using hk) _
  have P:Fr J f:=⟨by have:=a8.next;omega,λk hk=>by rw[a5 k om];exact a8.get k hk⟩
  obtain⟨a6,g8,F⟩:=(b6.fr P).push (bytes:=24) (SV.one (by have:=a8.next;have:=Y.fr.next;simp only at this;omega) e9 (.kn 1)) (n:=k) (m:=1) om rfl om om om
  have j3:=F.next
  have i2:cW va A:=λid i m c e e2=>(ne _ _ _ _ e).2 e2.symm
  have ap2:cW va a:=λid i m c e e2=>(ne _ _ _ _ e).1 e2.symm
  have i7:=a8.next
  have e4:a6.get A=cE [va]:=by rw[F.old A om i2,P.get A om];exact c1
  have c3:a6.get a=some (.loop (pF r)):=by rw[F.old a om ap2,P.get a om];exact g9
  have i0:(K:H)->(y:V)->dY (cE [va]) K A 0 [y]=some (K.set A (cE [y])):=λK y=>bE siM K _ _
  refine iG g8 e4 i0 ?_
  obtain⟨Z,N⟩: ∃Z,Z=(a6.set A (cE [.sl f.next 0 (k+1) (.un 1)])).set a (some (.loop r)):=⟨_,rfl⟩
  have d4:A≠a:=om
  have Q: ∀q,q≠A->q≠a->Z.get q=a6.get q:=λq h1 s=>by rw[N,H.Cj _ s,H.Cj _ h1]
  have j7:Z.next=a6.next:=by rw[N];rfl
  refine pQ iS c9 (by rw[H.Cj _ (Ne.symm d4)];exact c3) ?_
  rw[<-N]
  have d3: ∀q,q<K.next-> ¬W q->Z.get q=K.get q:=λq h1 s=>by
   rw[Q q (λe=>s (e▸j.wA)) (λe=>s (e▸j.w2)),F.old q om (λid i m c e e2=>s (e2▸mw _ (bl _ _ _ _ e))),P.get q om,o9 q (λe=>s (e▸j.w2))]
  refine⟨λq=>W q\/q=f.next\/q=i5,λq h1 s=>by rcases s with s|s|s;exact s;omega;omega,λq h=>by rcases h with h|h|h;have:=i3 q h;omega;omega;omega,⟨om,d3⟩,.inl ⟨rfl,?_⟩⟩
  refine⟨⟨.sl f.next 0 (k+1) (.un 1),ws++ [b7],λq=>M q\/q=f.next,by rw[N,H.Cj _ d4,H.aJ],?_,?_,λid i m c e=>by cases e;exact .inr rfl,λq h=>by rcases h with h|h;exact .inl (mw q h);exact .inr (.inl h),λq h=>by rcases h with h|h;have:=mn q h;omega;omega,.inl mA,λid i m c e=>by cases e;exact⟨om,om⟩⟩,
   by rw[N,H.aJ],.inl j.wA,.inl j.w2,?_,?_,om,om,?_⟩
  .exact (F.own (b:=a+1) om rfl om).mono om λid i m c e h1 s=>by cases e;exact Q _ om om
  .rw[iW [] hk,hx]
   have b8:(q:Nat)->(o:Option Ob)->q<K.next-> ¬M q->q≠a->Z.get q=K.get q:=λq _ h1 s h3=>by
    rw[Q q (λe=>s (e▸mA)) h3,F.old q om (λb1 i m c e e2=>s (e2▸bl _ _ _ _ e)),P.get q om,o9 q h3]
   have e7: ∀q z,K.get q=cE z->q≠a:=λq z h e=>by rw[e,j.gr] at h;cases h
   refine (el.mono λw z ⟨id,e6,e,q1,q2,q3,q4,q5⟩=>⟨id,e6,e,.inl q1,(λh=>by rcases h with h|h;exact q2 h;omega),q3,om,(by rw[b8 id none q4 q2 (e7 _ _ q5)];exact q5)⟩).append ⟨⟨i5,c5,by rw[ev,bD],.inr (.inr rfl),λh=>by rcases h with h|h;have:=mn i5 h;omega;omega,om,om,?_⟩,trivial⟩
   rw[Q i5 om om,F.old i5 om (λb1 i m c e e2=>by have:=mn _ (bl _ _ _ _ e);omega),a5 i5 om]
   exact a3
  .rw[Q _ om om,F.old _ om (λb1 i m c e e2=>by have:=(ow.in _ _ _ _ e).2.1;omega),P.get _ om,o9 _ om];exact j.g1
  .rw[Q _ om om,F.old _ om (λb1 i m c e e2=>by have:=(ow.in _ _ _ _ e).2.1;omega),P.get _ om,o9 _ om];exact j.g2
  .refine⟨by have:=j.fr.next;omega,λq hq=>?_⟩
   have:=j.fr.next
   rw[Q q om om,F.old q om (λb1 i m c e e2=>by have:=(ow.in _ _ _ _ e).2.1;omega),P.get q om,o9 q om]
   exact j.fr.get q hq
 .rintro _ J ⟨W2,a1,a2,F9,j|hf⟩
  case inr=>exact hf.elim
  rw[hL,List.take_length] at j
  obtain⟨va,ws,M,gA,ow,el,bl,mw,mn,mA,ne⟩:=j.ex
  have nx:=j.nx
  have nA:=j.nA
  have pt:(K:H)->(id:Nat)->(u w:V)->dY (cE [u]) K id 0 [w]=some (K.set id (cE [w])):=λK id u w=>bE siM K _ _
  refine⟨r,j.gr,by rw[iS];simp,?_⟩
  have en:r.pend.getD .norm= .norm:=by rw[c9];rfl
  rw[en]
  obtain⟨d,a9⟩: ∃d,d=J.set a (some (.loop {r with st:= .out})):=⟨_,rfl⟩
  have a0: ∀q,q≠a->d.get q=J.get q:=λq hq=>by rw[a9,H.Cj _ hq]
  have i7:d.next=J.next:=by rw[a9];rfl
  have a7:d.get A=cE [va]:=by rw[a0 _ om];exact gA
  have d9:d.get (B+1)=cE [.aH]:=by rw[a0 _ om];exact j.g1
  have d7:d.get (B+1+1)=cE [aC 0]:=by rw[a0 _ om];exact j.g2
  rw[<-a9]
  simp(disch:=omega)only[go_sem,H.cell_of a7,d9,d7,pt,eH ow.sv.cT.1 ow.sv.cT.2.1]
  obtain⟨f,l⟩: ∃f,f=(d.set (B+1) (cE [va])).set (B+1+1) (cE [aC 0]):=⟨_,rfl⟩
  rw[<-l]
  have a5: ∀q,q≠B+1->q≠B+1+1->f.get q=d.get q:=λq h1 s=>by rw[l,H.Cj _ s,H.Cj _ h1]
  have g6:f.next=d.next:=by rw[l];rfl
  have hn:=j.fr.next
  refine⟨va,rfl,⟨ws,λq=>M q\/q<h.next,?_,?_,λid i n c e=> .inl (bl _ _ _ _ e),λq h=> .inr h⟩,⟨om,λq hq=>?_⟩⟩
  .refine (ow.mono om λid i m c e h1 _=>?_).le om
   rw[a5 id om om,a0 id om]
  .rw[hL]
   refine bH.mono (R:=akV W2 M (a+1) J) (λw z hw=>?_) el
   have⟨id,e6,e,q1,q2,q3,q4,q5⟩:=hw
   rw[e]
   exact⟨SV.all (by rw[aE,bD,jP]) om (by rw[a5 id om om,a0 id om];exact q5) _,λh=>by rcases h with h|h;exact q2 h;omega⟩
  .rw[a5 q om om,a0 q om]
   exact j.fr.get q hq
end Go.Proofs.YtoighkablmjfeaaGreat
namespace Go.Pm
section
variable {i:Nat}
def it (a:List Nat):Nat->Nat->Nat
 |0,i=>i
 |t+1,i=>a.getD (it a t i) 0
section
variable {n:Nat} {a:List Nat}
theorem Dz (A:bJ n a){i:Nat}(hi:i<n): ∀t,it a t i<n
 |0=>hi
 |t+1=>A.eJ (Dz A hi t)
theorem tI (a:List Nat)(s i:Nat): ∀t,it a (s+t) i=it a t (it a s i)
 |0=>rfl
 |t+1=>by
  show a.getD (it a (s+t) i) 0=a.getD (it a t (it a s i)) 0;rw[tI a s i t]
theorem GX (A:bJ n a){i:Nat}(hi:i<n): ∀t,it a t i=(pw n a t).getD i 0
 |0=>(eG hi).symm
 |t+1=>by
  show a.getD (it a t i) 0=(aZ (pw n a t) a).getD i 0;rw[dA (by rw[(jW A t).len];exact hi),GX A hi t]
theorem DH (A:bJ n a){i j:Nat}(hi:i<n)(b:j<n): ∀t,it a t i=it a t j->i=j
 |0,h=>h
 |t+1,h=>DH A hi b t (A.inj (Dz A hi t) (Dz A b t) h)
noncomputable def uP (a:List Nat)(i:Nat):Nat:=by
 classical exact if h: ∃t,0<t/\it a t i=i/\ ∀s,0<s->s<t->it a s i≠i then h.choose else 1
theorem ajG (A:bJ n a)(hi:i<n): ∃t,0<t/\it a t i=i:=by
 obtain⟨k,c,_,b⟩:=Uh A;exact⟨k,c,by rw[GX A hi,b,eG hi]⟩
theorem mX (A:bJ n a)(hi:i<n):0<uP a i/\it a (uP a i) i=i/\ ∀t,0<t->t<uP a i->it a t i≠i:=by
 classical
 have h: ∃t,0<t/\it a t i=i/\ ∀s,0<s->s<t->it a s i≠i:=by
  obtain⟨t,k,j⟩:=ajG A hi
  induction t using Nat.strongRecOn with
  |_ t ih=>
   by_cases f: ∃s,0<s/\s<t/\it a s i=i
   .have⟨s,b,c,d⟩:=f
    exact ih s c b d
   .exact⟨t,k,j,λs b c d=>f ⟨s,b,c,d⟩⟩
 have e:uP a i=h.choose:=by unfold uP;rw[dif_pos h]
 rw[e];exact h.choose_spec
theorem Ui (A:bJ n a){i:Nat}(hi:i<n): ∀k,it a (uP a i*k) i=i
 |0=>rfl
 |k+1=>by rw[Nat.mul_succ,tI,Ui A hi k,(mX A hi).2.1]
theorem AQ (A:bJ n a)(hi:i<n)(t:Nat):it a t i=it a (t%uP a i) i:=by
 have:=tI a (uP a i*(t/uP a i)) i (t%uP a i);rw[Nat.div_add_mod,Ui A hi] at this;exact this
theorem Aq (A:bJ n a)(hi:i<n)(t:Nat):it a t i=i↔uP a i∣t:=by
 obtain⟨b,d,c⟩:=mX A hi;constructor
 .intro h
  rw[AQ A hi] at h;refine Nat.dvd_of_mod_eq_zero (Classical.byContradiction λf=>c _ oq (Nat.mod_lt _ b) h)
 .rintro⟨k,rfl⟩;exact Ui A hi k
theorem afU (A:bJ n a)(hi:i<n){s t:Nat}(j:s<uP a i)(d:t<uP a i)(h:it a s i=it a t i):s=t:=by
 have b: ∀s t,s<=t->t<uP a i->it a s i=it a t i->s=t:=λs t iS d h=>by
  have e:it a t i=it a s (it a (t-s) i):=by rw[<-tI];congr 1;omega
  rw[e] at h;have:=DH A hi (Dz A hi (t-s)) s h;have f:=(Aq A hi (t-s)).1 this.symm;have:=Nat.eq_zero_of_dvd_of_lt f oq;omega
 rcases Nat.le_total s t with c|c
 .exact b s t c d h
 .exact (b t s c j h.symm).symm
noncomputable def FN (a:List Nat)(i:Nat):List Nat:=(List.range (uP a i)).map λt=>it a t i
theorem yS (a:List Nat)(i:Nat):(FN a i).length=uP a i:=by simp [FN]
theorem afP (A:bJ n a)(hi:i<n){j:Nat}:j∈FN a i↔ ∃t,it a t i=j:=by
 unfold FN;rw[List.mem_map];constructor
 .rintro⟨t,_,h⟩;exact⟨t,h⟩
 .rintro⟨t,h⟩;exact⟨t%uP a i,List.mem_range.2 (Nat.mod_lt _ (mX A hi).1),by rw[<-AQ A hi];exact h⟩
theorem JM (A:bJ n a)(hi:i<n):(FN a i).Nodup:=by
 unfold FN;rw[List.nodup_iff_pairwise_ne,List.pairwise_map,List.pairwise_iff_getElem];intro s t c b iS h;simp only[List.length_range] at c b;simp only[List.getElem_range] at h;have:=afU A hi c b h;omega
theorem CP (A:bJ n a)(hi:i<n):uP a i<=n:=by
 rw[<-yS a i]
 have:=List.Nodup.length_le_of_subset (JM A hi) (l₂:=List.range n) λj b=>by
  obtain⟨t,rfl⟩:=(afP A hi).1 b;exact List.mem_range.2 (Dz A hi t)
 simpa using this
theorem Is (A:bJ n a)(hi:i<n)(t:Nat): ∃s,it a s (it a t i)=i:=by
 obtain⟨b,_,_⟩:=mX A hi;refine⟨uP a i*(t/uP a i+1)-t,?_⟩;rw[<-tI,show t+(uP a i*(t/uP a i+1)-t)=uP a i*(t/uP a i+1) from ?_,Ui A hi];have:=Nat.div_add_mod t (uP a i);have:=Nat.mod_lt t b;rw[Nat.mul_succ];omega
theorem XA (A:bJ n a)(hi:i<n)(t:Nat):uP a (it a t i)=uP a i:=by
 have c:=Dz A hi t
 have b: ∀k,it a k (it a t i)=it a t i↔it a k i=i:=λk=>by
  rw[<-tI,Nat.add_comm,tI];exact⟨λh=>DH A (Dz A hi k) hi t h,λh=>by rw[h]⟩
 refine Nat.dvd_antisymm ?_ ?_
 .rw[<-Aq A c,b,Aq A hi];exact Nat.dvd_refl _
 .rw[<-Aq A hi,<-b,Aq A c];exact Nat.dvd_refl _
def nX (a:List Nat)(n i:Nat):Prop:= ∀t,i<=it a t i
open Classical in
noncomputable def Mv (a:List Nat)(n:Nat):List Nat:=(List.range n).filter λi=>decide (nX a n i)
noncomputable def tK (a:List Nat)(n:Nat):wG:=(Mv a n).map (FN a)
theorem ajJ (A:bJ n a)(hi:i<n): ∃j,j<n/\nX a n j/\ ∃t,it a t j=i:=by
 induction i using Nat.strongRecOn with
 |_ i ih=>
  by_cases h:nX a n i
  .exact⟨i,hi,h,0,rfl⟩
  .have: ∃t,it a t i<i:=Classical.byContradiction λl=>h λt=>Nat.le_of_not_lt λb=>l ⟨t,b⟩
   have⟨t,f⟩:=this;obtain⟨j,c,b,s,k⟩:=ih _ f (Dz A hi t);obtain⟨u,d⟩:=Is A hi t;exact⟨j,c,b,s+u,by rw[tI,k,d]⟩
theorem Ez (A:bJ n a)(hi:i<n):nX a n i↔ ∀j,j<i-> ∀t,it a t j≠i:=by
 constructor
 .intro h j d t e
  obtain⟨s,b⟩:=Is A (show j<n by omega) t;rw[e] at b;have:=h s;omega
 .intro h t
  refine Nat.le_of_not_lt λc=>?_
  obtain⟨s,b⟩:=Is A hi t;exact h _ c s b
def pZ (l:List Nat):Nat:=l.foldl (λm c=>m/Nat.gcd m c*c) 1
theorem Vz (m c:Nat):m/Nat.gcd m c*c=Nat.lcm m c:=by
 unfold Nat.lcm;rw[Nat.mul_comm,<-Nat.mul_div_assoc _ (Nat.gcd_dvd_left m c),Nat.mul_comm]
theorem Yl:(l:List Nat)->(m k:Nat)->l.foldl (λm c=>m/Nat.gcd m c*c) m∣k↔m∣k/\ ∀c∈l,c∣k
 | [],m,k=>by simp
 |c::l,m,k=>by
  rw[List.foldl_cons,Yl l,Vz,Nat.lcm_dvd_iff];simp only[List.mem_cons,forall_eq_or_imp,and_assoc]
theorem tX (l:List Nat)(k:Nat):pZ l∣k↔ ∀c∈l,c∣k:=by
 unfold pZ;rw[Yl];simp
noncomputable def fC (a:List Nat)(n:Nat):Nat:=pZ ((tK a n).map List.length)
theorem mC (A:bJ n a)(k:Nat):fC a n∣k↔pw n a k=bI n:=by
 unfold fC;rw[tX];constructor
 .intro h
  refine rL (by rw[(jW A k).len,iF]) λi hi=>?_
  rw[(jW A k).len] at hi;rw[<-GX A hi,eG hi,Aq A hi];obtain⟨j,d,m,t,o⟩:=ajJ A hi;have:=h (uP a j) (List.mem_map.2 ⟨FN a j,List.mem_map.2 ⟨j,by unfold Mv;rw[List.mem_filter];exact⟨List.mem_range.2 d,by simpa using m⟩,rfl⟩,yS a j⟩);rw[<-XA A d t,o] at this;exact this
 .rintro h c q
  obtain⟨l,f,rfl⟩:=List.mem_map.1 q;obtain⟨j,d,rfl⟩:=List.mem_map.1 f
  have b:j<n:=by
   unfold Mv at d;exact List.mem_range.1 (List.mem_filter.1 d).1
  rw[yS,<-Aq A b,GX A b,h,eG b]
theorem rP (A:bJ n a):0<fC a n:=by
 obtain⟨k,c,_,b⟩:=Uh A;have:=(mC A k).2 b;refine Nat.pos_of_ne_zero λe=>?_
 rw[e] at this;have:=Nat.eq_zero_of_zero_dvd this;omega
theorem Rb (A:bJ n a):fC a n<=n^n:=by
 obtain⟨k,d,b,c⟩:=Uh A;exact Nat.le_trans (Nat.le_of_dvd d ((mC A k).2 c)) b
theorem QS (A:bJ n a)(k:Nat):pw n a k=pw n a (k%fC a n):=by
 have h:pw n a (fC a n*(k/fC a n))=bI n:=(mC A _).1 ⟨_,rfl⟩;have:=Rq A (fC a n*(k/fC a n)) (k%fC a n);rw[Nat.div_add_mod,h,dK (jW A _)] at this;exact this
end
end
end Go.Pm
namespace Go.Proofs.YtoighkablmjfeaaGreat
open Go Go.Ay Go.Pm
section
variable {a:List Nat} {i n:Nat}
theorem ahE {g:Nat}(k:T g=some Be.fn)(a b:Nat)(h:H)(u:a<1000000)(r:b<1000000):Ev T g [aC a,aC b] h (λv h'=>v= aC (Nat.gcd a b:Nat)/\Fr h h'):=by
 refine vZ k rfl ?_;simp(disch:=omega)only[go_sem,Be,aV];refine aP (λc d m=> ∃(x y:Nat),(∃g:Nat->V,d= [aC x,aC y,g 2,g 3])/\x<1000000/\y<1000000/\Nat.gcd x y=Nat.gcd a b/\Fr h m/\c=y) b
  ⟨a,b,aD rfl,u,r,rfl,Fr.refl h,rfl⟩ ?_
 rintro c d m ⟨x,y,⟨g,rfl⟩,z,q,o,F,t⟩;subst t
 by_cases f:(0:Int)<(c:Int)
 .have l:=cV f
  have w:(c:Int)≠0:=om
  have s:(x:Int).tmod (c:Int)=((x%c:Nat):Int):=Bv x c;have j:=Nat.mod_lt x (show c>0 by omega);refine iG l w s ?_;exact⟨x%c,j,c,x%c,aD rfl,q,om,by rw[Nat.gcd_comm,<-Nat.gcd_rec,Nat.gcd_comm];exact o,F.cU om,rfl⟩
 .have l:=bZ f
  obtain rfl:c=0:=om
  refine bM l ?_;rw[<-o,Nat.gcd_zero_right];exact⟨rfl,F⟩
open Classical in
noncomputable def Mt (a:List Nat)(i s j:Nat):Bool:=decide ((∃i0,i0<i/\ ∃t,it a t i0=j)\/ ∃t,t<s/\it a t i=j)
theorem nV {s j:Nat}:Mt a i s j=true↔(∃i0,i0<i/\ ∃t,it a t i0=j)\/ ∃t,t<s/\it a t i=j:=by classical unfold Mt;simp only[decide_eq_true_eq]
theorem TB (a:List Nat)(j:Nat):Mt a 0 0 j=false:=by
 rw[<-Bool.not_eq_true,nV];rintro (⟨b,h,_⟩|⟨t,h,_⟩)<;>omega
theorem WX (a:List Nat)(i s j:Nat):Mt a i (s+1) j=if j=it a s i then true else Mt a i s j:=by
 by_cases e:j=it a s i
 .rw[aS e,nV];exact .inr ⟨s,om,e.symm⟩
 .rw[aQ e,Ri,nV,nV]
  constructor
  .rintro (h|⟨t,c,b⟩)
   .exact .inl h
   .exact .inr ⟨t,by have:t≠s:=λe2=>e (by rw[<-e2];exact b.symm);omega,b⟩
  .rintro (h|⟨t,c,b⟩)
   .exact .inl h
   .exact .inr ⟨t,om,b⟩
theorem YH (A:bJ n a)(hi:i<n)(j:Nat):Mt a i (uP a i) j=Mt a (i+1) 0 j:=by
 rw[Ri,nV,nV];constructor
 .rintro (⟨c,d,b⟩|⟨t,d,b⟩)
  .exact .inl ⟨c,om,b⟩
  .exact .inl ⟨i,om,t,b⟩
 .rintro (⟨c,d,t,b⟩|⟨t,d,_⟩)
  .by_cases e:c=i
   .subst e;exact .inr ⟨t%uP a c,Nat.mod_lt _ (mX A hi).1,by rw[<-AQ A hi];exact b⟩
   .exact .inl ⟨c,om,t,b⟩
  .omega
theorem QG (A:bJ n a)(hi:i<n)(h: ¬nX a n i)(j:Nat):Mt a i 0 j=Mt a (i+1) 0 j:=by
 have b: ∃c,c<i/\ ∃t,it a t c=i:=zL λo=>h ((Ez A hi).2 λc k t e=>o ⟨c,k,t,e⟩)
 obtain⟨c,m,q,l⟩:=b;rw[Ri,nV,nV];constructor
 .rintro (⟨d,f,b⟩|⟨t,f,_⟩)
  .exact .inl ⟨d,om,b⟩
  .omega
 .rintro (⟨d,f,t,b⟩|⟨t,f,_⟩)
  .by_cases e:d=i
   .subst e;exact .inl ⟨c,m,q+t,by rw[tI,l];exact b⟩
   .exact .inl ⟨d,om,t,b⟩
  .omega
theorem FQ (A:bJ n a){s:Nat}(hi:i<n)(f:nX a n i)(o:s<=uP a i):(Mt a i s (it a s i)=false↔s<uP a i):=by
 obtain⟨l,j,m⟩:=mX A hi;constructor
 .intro h
  refine zL λq=>?_
  have e:s=uP a i:=om
  subst e;rw[j] at h;have:Mt a i (uP a i) i=true:=nV.2 (.inr ⟨0,l,rfl⟩);rw[h] at this;cases this
 .intro h
  rw[<-Bool.not_eq_true,nV];rintro (⟨d,c,t,b⟩|⟨t,c,b⟩)
  .obtain⟨u,k⟩:=Is A hi s
   have:=(Ez A hi).1 f d c (t+u);rw[tI,b,k] at this;exact this rfl
  .have:=afU A hi (show t<uP a i by omega) h b
   omega
theorem ZT (A:bJ n a)(hi:i<n)(c: ¬nX a n i):Mt a i 0 i=true:=by
 have f: ∃b,b<i/\ ∃t,it a t b=i:=zL λh=>c ((Ez A hi).2 λb d t e=>h ⟨b,d,t,e⟩)
 exact nV.2 (.inl f)
theorem Pz (hi:i<=n):((Mv a n).filter λj=>decide (j<i))=(open Classical in (List.range i).filter λj=>decide (nX a n j)):=by
 classical
 unfold Mv;have:List.range n=List.range i++(List.range (n-i)).map (i+ ·):=by rw[<-List.range_add];congr 1;omega
 rw[this,List.filter_append,List.filter_append]
 have e2:(((List.range (n-i)).map (i+ ·)).filter λj=>decide (nX a n j)).filter (λj=>decide (j<i))= []:=by
  rw[List.filter_eq_nil_iff];intro x b;obtain⟨y,_,rfl⟩:=oG.1 (Gh.1 b).1;simp
 rw[e2,qH];rw[List.filter_eq_self];intro x b;simpa using mS.1 (Gh.1 b).1
noncomputable def HD (a:List Nat)(n i:Nat):LN:=((Mv a n).filter λj=>decide (j<i)).map (FN a)
theorem EW (a:List Nat)(n:Nat):HD a n n=tK a n:=by
 classical
 unfold HD tK;congr 1;rw[List.filter_eq_self];intro x b;unfold Mv at b;simpa using mS.1 (Gh.1 b).1
theorem Cm (hi:i<n):(nX a n i->HD a n (i+1)=HD a n i++ [FN a i])/\(¬nX a n i->HD a n (i+1)=HD a n i):=by
 classical
 unfold HD;rw[Pz (show i+1<=n by omega),Pz (show i<=n by omega),List.range_succ,List.filter_append];constructor
 .intro h
  rw[show ([i]:List Nat).filter (λj=>decide (nX a n j))= [i] by simp [h],List.map_append];rfl
 .intro h
  rw[show ([i]:List Nat).filter (λj=>decide (nX a n j))= [] by simp [h],qH]
theorem ZR: ∀i,i<=n->HD a n i<+:tK a n:=by
 intro i hi
 obtain⟨d,f⟩: ∃d,i+d=n:=⟨n-i,om⟩
 induction d generalizing i with
 |zero=>
      have:i=n:=om
      subst this;rw[EW];exact List.prefix_rfl
 |succ d ih=>
  have b:=ih (i+1) om om
  by_cases c:nX a n i
  .rw[(Cm om).1 c] at b
   exact (List.prefix_append _ _).trans b
  .rw[(Cm om).2 c] at b
   exact b
theorem PW (a:List Nat)(n:Nat):HD a n 0= []:=by
 unfold HD;rw[show (Mv a n).filter (λj=>decide (j<0))= [] by rw[List.filter_eq_nil_iff];intro x _;simp];rfl
theorem XD {α:Type}{l m:List α}(h:l<+:m)(hi:i<l.length)(d:α):m.getD i d=l.getD i d:=by
 obtain⟨t,rfl⟩:=h;rw[List.getD,Aw hi];rfl
theorem CZ (id b:Nat)(va:V)(n:Nat)(a:List Nat)(h:H)(a8:1<=n)(hn:n<=64)(A:bJ n a)(G:Nat)(b1:G<=h.next)(a9:b<G)(hb:h.get b=some (.cells false [va]))(b3:b<h.next)(hv:SI h va (zi a))(J:Nat->H->Prop)(h0:J 0 h)
  (kJ: ∀k hh h',J k hh->hh.next<=h'.next->(∀q,q<G->h'.get q=hh.get q)->J k h') (jb: ∀k hh,J k hh->hh.get b=some (.cells false [va])/\SI hh va (zi a))
  (hy: ∀k hh v,k<(tK a n).length->J k hh->SI hh v (zi ((tK a n).getD k []))->G<=hh.next->Ey T id [v] hh (λv h'=>v= .bool true/\J (k+1) h'/\Fx (λq=>q<G) hh h')):
  Ev T 177 [.yl id,.ptr b 0] h (λ_ h'=>J (tK a n).length h'):=by
 obtain⟨S,hS⟩:=exI h.next
 obtain⟨h1,e1,n1,g1,o1,f1⟩:=iI hS (rc 64 λ_=>V.bool false)
 have a0:=H.cell_of (h:=h1) (id:=b) (by rw[o1 _ om];exact hb)
 have O:=hv.lens
 rw[bD,A.len] at O
 refine alP @EU hS e1 a0 O ?_
 have a5:h1.get S=some (.cells false (rc 64 λj=> .bool (Mt a 0 0 j))):=by
  rw[g1,show (λj=>V.bool (Mt a 0 0 j))=λ_=>V.bool false from funext λj=>by rw[TB]]
 refine aP (λP o hh=> ∃(i:Nat),(∃g:Nat->V,o= [.yl id,.ptr b 0,.ptr S 0,g 3,g 4,g 5,aC n,aC i,g 8,g 9,g 10])/\i<=n/\J (HD a n i).length hh/\hh.get S=some (.cells false (rc 64 λj=> .bool (Mt a i 0 j)))/\S<hh.next/\P=n-i) n
  ⟨0,aD rfl,fY _,by rw[PW];exact kJ _ _ _ h0 f1.next (λq hq=>o1 q om),a5,om,rfl⟩ ?_
 rintro P o h2 ⟨i,⟨g,rfl⟩,hi,r,w,y,rfl⟩
 by_cases Q:(i:Int)<(n:Int)
 case neg=>
  have d1:=bZ Q;obtain rfl:i=n:=om
  refine bM d1 ?_;rw[EW] at r;exact r
 have d1:=cV Q
 have l:i<n:=om
 refine bM d1 ?_
 obtain⟨p0,p1,p2⟩:=mX A l
 have b2:=CP A l
 refine dG (λvs hh=> ∃(u:V) (c:List Nat),(∃g:Nat->V,vs= [.yl id,.ptr b 0,.ptr S 0,g 3,u,g 5,aC n,aC i,g 8,g 9,g 10])/\dF hh u 1 (ints (zi c)) (S+1)/\(nX a n i/\c=FN a i\/ ¬nX a n i/\c= [])/\
   J (HD a n i).length hh/\hh.get S=some (.cells false (rc 64 λj=> .bool (Mt a (i+1) 0 j)))/\S<hh.next) ?_ ?_
 .refine aP (λP vs hh=> ∃(s:Nat) (u:V),(∃g:Nat->V,vs= [.yl id,.ptr b 0,.ptr S 0,g 3,u,aC (it a s i:Nat),aC n,aC i,g 8,g 9,g 10])/\s<=uP a i/\(0<s->nX a n i)/\dF hh u 1 (ints (zi ((List.range s).map λt=>it a t i))) (S+1)/\
    J (HD a n i).length hh/\hh.get S=some (.cells false (rc 64 λj=> .bool (Mt a i s j)))/\S<hh.next/\P=uP a i-s) (uP a i)
   ⟨0,.aH,aD rfl,fY _,λh=>om,dF.aH _ _ _,r,w,y,rfl⟩ ?_
  clear r w y
  rintro P o K ⟨s,u,⟨g,rfl⟩,hs,hf,F,r,w,y,rfl⟩
  have hp:=Dz A l s
  have cS:=vD w (i:=it a s i) om
  cases hsn:Mt a i s (it a s i) with
  |true=>
   rw[hsn] at cS;refine bM cS ?_
   by_cases f:nX a n i
   .have e:s=uP a i:=zL λL=>by
     have:=(FQ A l f hs).2 om;rw[hsn] at this;cases this
    refine⟨u,FN a i,aD rfl,by rw[e] at F;exact F,.inl ⟨f,rfl⟩,r,?_,y⟩;rw[w,e];congr 2;exact bW λj _=>by rw[YH A l]
   .have e:s=0:=zL λL=>f (hf om)
    subst e;refine⟨u, [],aD rfl,F,.inr ⟨f,rfl⟩,r,?_,y⟩;rw[w];congr 2;exact bW λj _=>by rw[QG A l f]
  |false=>
   rw[hsn] at cS
   have f:nX a n i:=zL λf=>by
    have e:s=0:=zL λL=>f (hf om)
    subst e;have:=ZT A l f;have h2:Mt a i 0 i=false:=hsn;rw[h2] at this;cases this
   have a7:=(FQ A l f hs).1 hsn;have pt:=bE (vs:=rc 64 λj=> .bool (Mt a i s j)) (off:=it a s i) (by rw[dE];omega);obtain⟨h4,e4,n4,g4,o4⟩:=xN K S ((rc 64 λj=> .bool (Mt a i s j)).set (it a s i) (.bool true));obtain⟨h5,e5,n5,g5,o5,f5⟩:=iI (h:=h4) (ID:=K.next) n4 [aC (it a s i:Nat)];have a1:dF h5 u 1 (ints (zi ((List.range s).map λt=>it a t i))) (S+1):=F.mono om λk off m c e h1 h2=>by rw[o5 k om,o4 k om]
   obtain⟨h6,a6,p6⟩:=a1.push (bytes:=8) (SV.one (v:= aC (it a s i:Nat)) (id:=K.next) om g5 (.kn 1)) (n:=s) (m:=1) (by rw[aE,bD];simp) rfl om om om;have n6:=p6.next;have ap: ∀q,q<=S->cW u q:=λq hq k off m c e e2=>by have:=(F.in _ _ _ _ e).2.1;omega
   have o6: ∀q,q<G->h6.get q=K.get q:=λq hq=>by rw[p6.old q om (ap q om),o5 q om,o4 q om]
   have J6:=kJ _ _ h6 r om o6;obtain⟨a4,a3⟩:=jb _ _ J6;obtain⟨idx,U,R,W,N⟩:=a3.open;rw[bD,A.len] at R W N
   have cx:h6.cell idx (U+it a s i)=some (aC (it a (s+1) i:Nat)):=by
    rw[N _ hp];congr 2;rw[zi,mZ _ (d:=0) (by rw[A.len];exact hp)];rfl
   simp(disch:=omega)only[go_sem,cS,w,pt,e4,dL h4 (z:= aC 0) (v:= aC (it a s i:Nat)) rfl rfl,n4,e5,a6,H.cell_of a4,R.ixa,cx]
   have a2:h6.get S=some (.cells false (rc 64 λj=> .bool (Mt a i (s+1) j))):=by
    rw[p6.old S om (ap S (dN _)),o5 S om,g4,iQ];congr 2
    exact bW λj _=>by
     rw[WX]
     by_cases e:j=it a s i
     .rw[aS e,aS e]
     .rw[aQ e,aQ e]
   have el:ints (zi ((List.range (s+1)).map λt=>it a t i))=ints (zi ((List.range s).map λt=>it a t i))++ [aC (it a s i:Nat)]:=by
    rw[List.range_succ,List.map_append];simp [zi,ints]
   refine⟨uP a i-(s+1),om,s+1,_,aD rfl,om,λ_=>f,by rw[el];exact p6.own (by rw[aE,bD];simp) rfl om,J6,a2,om,rfl⟩
 clear r w y
 rintro o K ⟨u,c,⟨g,rfl⟩,F,hc,r,w,y⟩
 have Y:=dF.lens F (n:=c.length) (by rw[aE,bD])
 rcases hc with ⟨f,rfl⟩|⟨f,rfl⟩
 .have d2:decide ((0:Int)<((FN a i).length:Int))=true:=cV (by rw[yS];omega)
  have x:=ZR (a:=a) (n:=n) (i+1) om
  have Z:=(Cm l).1 f
  rw[Z] at x
  have hg:(tK a n).getD (HD a n i).length []=FN a i:=by rw[XD x siM];exact jS
  have B:=x.length_le
  rw[eE] at B
  refine eZ Y d2 ?_
  refine (hy _ K u (by simp at B;omega) r (by rw[hg];exact F.sv) om).mono ?_
  rintro _ h4 ⟨rfl,J4,f4⟩
  refine aT ?_
  rw[fJ i]
  refine⟨n-(i+1),om,i+1,aD rfl,om,by rw[Z,eE];exact J4,by rw[f4.get S y (λh=>by have:S<G:=h;omega)];exact w,iD y f4.next,rfl⟩
 .have d2:decide ((0:Int)<((0:Nat):Int))=false:=rfl
  refine eZ Y d2 ?_
  rw[fJ i]
  exact⟨n-(i+1),om,i+1,aD rfl,om,by rw[(Cm l).2 f];exact r,w,y,rfl⟩
end
theorem WM (u:V)(ws:List V)(n:Nat)(h:H)(O:1<=n)(Y:n<=64)(U:ws.length<1000000)(L:SV h u 1 ws)(A: ∀i,i<ws.length-> ∃a,bJ n a/\SI h (ws.getD i .undef) (zi a)):Ev T 116 [u] h (λv h'=>v= aC 0/\Fr h h'):=by
 have K:dD u=some (aC (ws.length:Int)):=by unfold dD;rw[SV.len L (n:=ws.length) om om];rfl
 obtain⟨id,d,z,q,y⟩:=SV.shape L ws.length om om;have r: ∀i:Nat,i<ws.length->h.cell id (d+i)=some (ws.getD i .undef):=λi hi=>by rw[y i om];simp [List.getD,hi]
 refine pM K ?_;refine dG (λk m=>(∃g:Nat->V,k= [u,aC 0,g 2,g 3,g 4,g 5,g 6,g 7,g 8,g 9,g 10,g 11,g 12,g 13,g 14])/\Fr h m) ?_ ?_
 .refine aP (λx k m=> ∃(i:Nat),(∃g:Nat->V,k= [u,aC 0,g 2,g 3,g 4,u,aC (ws.length:Int),aC i,g 8,g 9,g 10,g 11,g 12,g 13,g 14])/\i<=ws.length/\Fr h m/\x=ws.length-i) ws.length
   ⟨0,aD rfl,fY _,Fr.refl h,rfl⟩ ?_
  rintro x c s ⟨i,⟨g,rfl⟩,hi,f,rfl⟩
  by_cases b:(i:Int)<(ws.length:Int)
  .have o:=cV b
   have l:i<ws.length:=om
   have ci:s.cell id (d+i)=some (ws.getD i .undef):=by rw[f.cell (q om),r i om]
   obtain⟨a,X,w⟩:=A i l;generalize ws.getD i .undef=F at ci w;refine iG o @z.ixa ci ?_;refine (zX F _ s (by rw[bD,X.len];omega) (w.mono f)).mono ?_;rw[ahT X om om];rintro _ P ⟨rfl,Q⟩;refine aT ?_;refine bV (λr=>(r rfl).elim) (λ_=>?_);refine aT ?_;rw[fJ i];exact⟨ws.length-(i+1),om,i+1,aD rfl,om,f.trans Q,rfl⟩
  .have o:=bZ b
   refine bM o ?_;exact⟨aD rfl,f⟩
 rintro c s ⟨⟨g,rfl⟩,f⟩;refine bM K ?_;refine dG (λk m=>(∃g:Nat->V,k= [u,aC 0,g 2,g 3,g 4,g 5,g 6,g 7,g 8,g 9,g 10,g 11,g 12,g 13,g 14])/\Fr h m) ?_ ?_
 .refine aP (λx k m=> ∃(i:Nat),(∃g:Nat->V,k= [u,aC 0,g 2,g 3,g 4,g 5,g 6,g 7,g 8,g 9,u,aC (ws.length:Int),aC i,g 13,g 14])/\i<=ws.length/\Fr h m/\x=ws.length-i) ws.length
   ⟨0,aD rfl,fY _,f,rfl⟩ ?_
  clear f;rintro x c s ⟨i,⟨g,rfl⟩,hi,f,rfl⟩
  by_cases b:(i:Int)<(ws.length:Int)
  .have o:=cV b
   have l:i<ws.length:=om
   have ci:s.cell id (d+i)=some (ws.getD i .undef):=by rw[f.cell (q om),r i om]
   have B:s.cell id (d+0)=some (ws.getD 0 .undef):=by rw[f.cell (q om),r 0 om]
   obtain⟨a,X,w⟩:=A i l;obtain⟨R,N,t⟩:=A 0 om;generalize ws.getD i .undef=F at ci w;generalize ws.getD 0 .undef=W at B t;have J:=w.lens;have G:=t.lens;rw[bD,X.len] at J;rw[bD,N.len] at G;have j:Ci 1 u (aC 0)=some (.ptr id (d+0)):=z.ixa .i64 0 om om;rw[Nat.add_zero] at j B;refine Ie o @z.ixa ci j B J G ?_;refine bV (λr=>(r rfl).elim) (λ_=>?_);refine aT ?_;rw[fJ i];exact⟨ws.length-(i+1),om,i+1,aD rfl,om,f,rfl⟩
  .have o:=bZ b
   refine bM o ?_;exact⟨aD rfl,f⟩
 rintro c P ⟨⟨g,rfl⟩,f⟩;refine aT ?_;exact f
theorem Cw (l:List Nat)(k:Nat):pZ (l.take k)∣pZ l:=(tX _ _).2 λc a=>(tX l _).1 (Nat.dvd_refl _) c (List.mem_of_mem_take a)
theorem zU (l:List Nat)(k:Nat)(a:k<l.length):pZ (l.take (k+1))=pZ (l.take k)/Nat.gcd (pZ (l.take k)) (l.getD k 0)*l.getD k 0:=by
 unfold pZ;rw[iW 0 a,List.foldl_append];rfl
theorem Gr {n:Nat}(a:n<=7):n^n<=823543:=by
 have: ∀m,m<8->m^m<=823543:=deC
 exact this n om
structure OrJ (h:H)(A b id2:Nat)(va:V)(a:List Nat)(r:dP)(m:Nat)(hh:H):Prop where
 gr:hh.get id2=some (.loop r)
 gA:hh.get A=cE [aC m]
 gb:hh.get b=cE [va]
 si:SI hh va (zi a)
 nx:id2<hh.next
 fr:Fr h hh
theorem MZ (a:V)(h:H)(i:a.cells= [a])(on:a.one=true):Ev T 117 [a] h (λv h'=> ∃b,v= .fn 177 [] [.ptr b 0]/\b=h.next/\h'.get b=cE [a]/\h'.next=h.next+1/\Fr h h'):=by
 obtain⟨j,e1,f,c,k,d⟩:=iI (h:=h) rfl [a];refine Hv (mF i on h) e1 ?_;exact⟨h.next,rfl,rfl,c,f,d⟩
theorem PI (F:V)(n:Nat)(a:List Nat)(h:H)(a2:1<=n)(hn:n<=7)(A:bJ n a)(Q:SI h F (zi a)):
  Ev T 77 [F] h (λv h'=>v= .tup [aC (fC a n:Nat),aC 0]/\Fr h h'):=by
 obtain⟨S,hS⟩:=exI h.next
 obtain⟨h1,e1,n1,g1,o1,f1⟩:=iI hS [F]
 have on:=(SV.cT Q).2.1
 refine XL (dL h (z:= .aH) (v:=F) (SV.cT Q).1 on) hS e1 ?_
 have b8: ∀i,i< [F].length-> ∃a,bJ n a/\SI h1 ([F].getD i .undef) (zi a):=λi hi=>by
  obtain rfl:i=0:=by simp at hi;omega
  exact⟨a,A,Q.mono f1⟩
 refine (WM (.sl S 0 1 (.kn 1)) [F] n h1 a2 om siM (SV.one om g1 _) b8).mono ?_
 rintro _ R ⟨rfl,f2⟩
 refine aT ?_
 refine bV (λhc=>(hc rfl).elim) (λ_=>?_)
 obtain⟨B,hB⟩:=exI R.next
 obtain⟨h3,e3,n3,g3,o3,f3⟩:=iI hB [aC 0]
 obtain⟨h4,e4,n4,g4,o4⟩:=xN h3 B [aC 1]
 have b4:(x:H)->(y:V)->dY (cE [aC 0]) x B 0 [y]=some (x.set B (cE [y])):=λx y=>bE siM x _ _
 refine nW hB e3 g3 b4 e4 ?_
 refine (MZ F h4 (SV.cT Q).1 on).mono ?_
 rintro _ h5 ⟨b,rfl,hb,g5,n5,f5⟩
 refine aT ?_
 refine⟨rfl,sJ λr hr=>?_⟩
 obtain⟨o,U⟩:=exI h5.next
 rw[U]
 have iS:r.st= .ready:=by rw[hr]
 have b2:r.pend=none:=by rw[hr]
 obtain⟨P,O⟩: ∃P,P=h5.new (.loop r):=⟨_,rfl⟩
 have c2:P.get o=some (.loop r):=by rw[O,<-U,H.aI]
 have n6:P.next=o+1:=by rw[O,H.aM,U]
 have f6:Fr h5 P:=by rw[O];exact (Fr.refl h5).new _
 rw[<-O]
 have F2:=f1.trans f2
 have F3:=F2.trans f3
 have hs:=F2.next
 have F4:Fr h h4:=⟨by rw[n4];exact F3.next,λq w=>by rw[o4 q om];exact F3.get q w⟩
 have F6:=(F4.trans f5).trans f6
 have c3:o=b+1:=om
 have b5:P.get B=cE [aC 1]:=by rw[f6.get _ om,f5.get _ om];exact g4
 have a7:P.get b=cE [F]:=by rw[f6.get _ om];exact g5
 have J0:OrJ h B b o F a r (pZ (((tK a n).map List.length).take 0)) P:=⟨c2,b5,a7,Q.mono F6,om,F6⟩
 refine (CZ o b F n a P a2 om A (o+1) om om a7 om (Q.mono F6) (λk x=>OrJ h B b o F a r (pZ (((tK a n).map List.length).take k)) x) J0
  (λk x h' j hx w=>⟨by rw[w _ om];exact j.gr,by rw[w _ om];exact j.gA,by rw[w _ om];exact j.gb,Q.mono ⟨kQ j.fr.next hx,λq a0=>by rw[w _ om];exact j.fr.get q a0⟩,iD j.nx hx,⟨kQ j.fr.next hx,λq a0=>by rw[w _ om];exact j.fr.get q a0⟩⟩)
  (λk x j=>⟨j.gb,j.si⟩) ?_).mono ?_
 .intro k x v hk j a4 c8
  obtain⟨m,hm⟩:=exI (pZ (((tK a n).map List.length).take k))
  obtain⟨c,W⟩:=exI ((tK a n).getD k [])
  have a3:((tK a n).map List.length).getD k 0=c.length:=by rw[mZ _ (d:= []) hk,W]
  have b7:k<((tK a n).map List.length).length:=by rw[dO];exact hk
  have J:=zU ((tK a n).map List.length) k b7
  rw[hm,a3] at J
  have hp:=rP A
  have a8:=kQ (Rb A) (Gr hn)
  have c7:m<=823543:=kQ (by rw[<-hm];exact Nat.le_of_dvd hp (Cw _ k)) a8
  have b0:pZ (((tK a n).map List.length).take (k+1))<=823543:=kQ (Nat.le_of_dvd hp (Cw _ (k+1))) a8
  have c4:1<=c.length/\c.length<=7:=by
   have:=bF (l:=tK a n) (d:= []) hk;rw[W] at this;obtain⟨i,hi,rfl⟩:=oG.1 this;have b1:i<n:=by unfold Mv at hi;exact mS.1 (Gh.1 hi).1
   rw[yS];have:=(mX A b1).1;have:=CP A b1;omega
  rw[W] at a4
  have lv:=a4.lens
  rw[bD] at lv
  rw[hm] at j
  refine pP j.gr (by rw[hr];rfl) iS λN g9 n9 o9=>?_
  rw[congrArg dP.assign hr,congrArg dP.vars hr,congrArg dP.pars hr]
  simp(disch:=omega)only[go_sem,List.zip_cons_cons,List.zip_nil_left]
  rw[congrArg dP.body hr]
  have nx:=j.nx
  have a6:N.get B=cE [aC m]:=by rw[o9 _ om];exact j.gA
  simp(disch:=omega)only[go_sem,H.cell_of a6,lv]
  refine (ahE Be.ok m c.length _ om om).mono ?_
  rintro _ f ⟨rfl,a9⟩
  have b3:N.next+10<=f.next:=a9.next
  have t: ∀q,q<N.next->f.get q=N.get q:=λq w=>a9.get q (by show q<N.next+10;omega)
  have u:f.get B=cE [aC m]:=by rw[t _ om];exact a6
  obtain⟨G,hG⟩:=exI (Nat.gcd m c.length)
  rw[hG] at J
  rw[hG]
  have c5:0<G:=by rw[<-hG];exact Nat.gcd_pos_of_pos_right _ om
  have c0:(G:Int)≠0:=om
  have a5:(m:Int).tdiv (G:Int)=((m/G:Nat):Int):=by rw[Int.tdiv_eq_ediv_of_nonneg om];rfl
  have c1:m/G<=m:=Nat.div_le_self _ _
  have Z:((m/G:Nat):Int)*(c.length:Int)=((pZ (((tK a n).map List.length).take (k+1)):Nat):Int):=by rw[J,Int.natCast_mul]
  generalize pZ (((tK a n).map List.length).take (k+1))=m2 at Z b0 J
  generalize m/G=q at a5 c1 Z J
  have pt:(x:H)->(y:V)->dY (cE [aC m]) x B 0 [y]=some (x.set B (cE [y])):=λx y=>bE siM x _ _
  simp(disch:=omega)only[go_sem,c0,a5,Z,lv,H.cell_of u,u,pt]
  refine pQ iS b2 (by rw[H.Cj _ om];rw[t _ om];exact g9) ?_
  obtain⟨K,s⟩: ∃K,K=(f.set B (cE [aC m2])).set o (some (.loop r)):=⟨_,rfl⟩
  rw[<-s]
  have c6:K.next=f.next:=by rw[s];rfl
  have Y: ∀q,q≠B->q≠o->K.get q=f.get q:=λq h1 R=>by rw[s,H.Cj _ R,H.Cj _ h1]
  have b6:=j.fr.next
  have a1:Fr h K:=⟨om,λq w=>by rw[Y q om om,t q om,o9 q om];exact j.fr.get q w⟩
  exact⟨rfl,⟨by rw[s,H.aJ],by rw[s,H.Cj _ om,H.aJ],by rw[Y b om om,t b om,o9 b om];exact j.gb,Q.mono a1,om,a1⟩,⟨om,λq h1 R=>by rw[Y q (λe=>R om) (λe=>R om),t q om,o9 q (λe=>R om)]⟩⟩
 .rintro _ N j
  rw[show (tK a n).length=((tK a n).map List.length).length from (dO _).symm,List.take_length] at j
  have b0:fC a n<=823543:=kQ (Rb A) (Gr hn)
  have j':OrJ h B b o F a r (fC a n) N:=j
  refine⟨r,j'.gr,by rw[iS];simp,?_⟩
  have en:r.pend.getD .norm= .norm:=by rw[b2];rfl
  rw[en]
  obtain⟨f,L⟩: ∃f,f=N.set o (some (.loop {r with st:= .out})):=⟨_,rfl⟩
  have t: ∀q,q≠o->f.get q=N.get q:=λq w=>by rw[L,H.Cj _ w]
  have b3:f.next=N.next:=by rw[L];rfl
  have u:f.get B=cE [aC (fC a n:Nat)]:=by rw[t _ om];exact j'.gA
  have b6:=j'.fr.next
  have b9:Fr h f:=⟨om,λq w=>by rw[t q om];exact j'.fr.get q w⟩
  rw[<-L]
  simp(disch:=omega)only[go_sem,H.cell_of u]
  exact b9
theorem OU (h:H)(n:Nat)(a:n<=100000):sD h 1 1 [.int .u8 0] (aC n) (aC n)=some (.sl h.next 0 n (.kn n),h.new (.cells false (rc n λ_=> .int .u8 0))):=by
 rw[iH om (Int.le_refl _) om om,As,jP]
 have e:cJ [V.int .u8 0] n=rc n λ_=> .int .u8 0:=by
  symm;refine Dg ?_ λi hi=>?_
  .simp [cJ]
  .simp [cJ,hi,Nat.mod_one]
 rw[e]
theorem Lf: ∀l:List Nat,(∀x∈l,x<256)->rF (l.map λ(x:Nat)=>V.int .u8 (x:Int))=some l
 | [],_=>rfl
 |x::r,h=>by
  have b:=h x siM;show (if 0<=(x:Int)/\(x:Int)<256 then (rF (r.map λ(x:Nat)=>V.int .u8 (x:Int))).map ((x:Int).toNat:: ·) else none)=_;rw[aS ⟨om,om⟩,Lf r λy a=>h y (by simp [a])]
  rfl
theorem Tj (u:V)(a:List Nat)(h:H)(R:a.length<=1000)(z: ∀x∈a,x<256)(K:SI h u (zi a)):
  Ev T 72 [u] h (λv h'=>v= .str a/\Fr h h'):=by
 refine mV ?_
 obtain⟨n,la⟩:=exI a.length
 have J:=K.lens
 rw[bD,la] at J
 obtain⟨id,off,B,s,O⟩:=K.open
 rw[bD,la] at B s O
 simp(disch:=omega)only[go_sem,aV,J,OU h n om]
 have o:Fr h (h.new (.cells false (rc n λ_=> .int .u8 0))):=(Fr.refl h).new _
 have f:(h.new (.cells false (rc n λ_=> .int .u8 0))).get h.next=some (.cells false (rc n λ_=> .int .u8 0)):=H.aI ..
 have c:(h.new (.cells false (rc n λ_=> .int .u8 0))).next=h.next+1:=H.aM ..
 generalize h.new (.cells false (rc n λ_=> .int .u8 0))=Q at*
 obtain⟨S,N⟩:=exI h.next
 rw[N] at f c
 rw[N]
 refine aP (λG b t=> ∃(i:Nat),(∃j:Nat->V,b= [u,j 1,.sl S 0 n (.kn n),j 3,j 4,u,aC n,aC i,j 8])/\i<=n/\
   t.get S=some (.cells false (rc n λj=>if j<i then .int .u8 ((a.getD j 0:Nat):Int) else .int .u8 0))/\t.next=S+1/\Fr h t/\G=n-i) n
  ⟨0,aD rfl,fY _,by rw[f];rfl,c,o,rfl⟩ ?_
 clear f o c
 rintro G b m ⟨i,⟨U,rfl⟩,hi,y,lS,F,rfl⟩
 refine aT ?_
 by_cases l:(i:Int)<(n:Int)
 .rw[cV l]
  have d:i<n:=om
  have ci:m.cell id (off+i)=some (aC (a.getD i 0:Nat)):=by rw[F.cell (s om),O i d];congr 2;simp [zi,la,d]
  have r:=z (a.getD i 0) (bF om)
  generalize P:a.getD i 0=k at ci r
  have A:=bE (vs:=rc n λj=>if j<i then .int .u8 ((a.getD j 0:Nat):Int) else .int .u8 0) (off:=i) (by rw[dE];exact d) m S (.int .u8 (k:Int))
  rw[iQ] at A
  refine nW @B.ixa ci y @rV A ?_
  rw[fJ i]
  refine⟨n-(i+1),om,i+1,aD rfl,om,?_,lS,F.set om _,rfl⟩
  congr 2
  refine bW λj L=>?_
  by_cases e:j=i
  .rw[aS e,aS om,e,P]
  .rw[aQ e]
   by_cases e2:j<i
   .rw[aS e2,aS om]
   .rw[aQ e2,aQ om]
 rw[bZ l]
 obtain rfl:i=n:=om
 have q:m.row S 0 i=some (a.map λ(x:Nat)=>V.int .u8 (x:Int)):=by
  have e:(rc i λj=>if j<i then V.int .u8 ((a.getD j 0:Nat):Int) else .int .u8 0)=a.map λ(x:Nat)=>V.int .u8 (x:Int):=Dg (by rw[dO,la]) λj L=>by
   rw[aS L,Al,dJ om,List.getD,dJ om];rfl
  unfold H.row;rw[y,e];simp only[sub];rw[aS (by rw[dO];omega)];rw[List.drop_zero,Nb (by rw[dO];omega)]
 have w:RQ m (.sl S 0 i (.kn i))=some (.str a):=by
  show (match m.row S 0 i with|some ys=>(rF ys).map V.str|none=>none)=_;rw[q];show (rF (a.map λ(x:Nat)=>V.int .u8 (x:Int))).map V.str=_;rw[Lf a z];rfl
 refine eZ @aaG w ?_
 exact F
section
variable {y x g:List Nat}
section
variable {n:Nat} {G:List Nat->Prop} {O:LN} {R:nZ}
theorem one_le (Y:bJ n y):Le (bI n) y:=by
 by_cases h: ∃k,k<n/\y.getD k 0≠k
 .obtain⟨k,⟨b,o⟩,c⟩: ∃k,(k<n/\y.getD k 0≠k)/\ ∀j,j<k-> ¬(j<n/\y.getD j 0≠j):=by
   obtain⟨k,b⟩:=h
   induction k using Nat.strongRecOn with
   |_ k ih=>
    by_cases l: ∃j,j<k/\(j<n/\y.getD j 0≠j)
    .obtain⟨j,r,q⟩:=l;exact ih j r q
    .exact⟨k,b,λj d s=>l ⟨j,d,s⟩⟩
  have a: ∀j,j<k->y.getD j 0=j:=λj d=>zL λi=>c j d ⟨om,i⟩
  refine .inr ⟨k,by rw[iF];exact b,λj d=>by rw[eG om,a j d],?_⟩;rw[eG b];refine zL λm=>?_
  have f:y.getD k 0<k:=om
  have:=Y.inj om b (a _ f);omega
 .exact .inl ((Fix.all Y λk b=>zL λi=>h ⟨k,b,i⟩).symm)
theorem NN (d:oK n G)(c:eD n G O R){i:Nat}(hi:i<n):0<(R.getD i []).length/\(R.getD i []).getD 0 []=bI n:=by
 have m:i∈O.getD i []:=(c.mem i hi i).2 ⟨bI n,d.one,Fix.one n i om,eG hi⟩;have a:0<(O.getD i []).length:=PC m;have rep:=c.rep i hi 0 a
 have r:(O.getD i []).getD 0 0=i:=by
  have b:(O.getD i []).getD 0 0∈O.getD i []:=bF a;obtain⟨x,s,fx,e⟩:=(c.mem i hi _).1 b
  have o: ¬(O.getD i []).getD 0 0<i:=λf=>by
   have X:=d.cF s;have:=X.inj (i:=(O.getD i []).getD 0 0) (j:=i) om hi (by rw[fx _ f,e]);omega
  obtain⟨k,t,u⟩:=Bj.1 m;have l:=Iz.1 (c.asc i hi);have e0:(O.getD i []).getD 0 0=(O.getD i [])[0]:=Pm.cM a
  by_cases h:k=0
  .subst h;omega
  .have:=l 0 k a t om
   omega
 rw[r] at rep;refine⟨by rw[c.rl i hi];exact a,rep.uniq ⟨d.one,Fix.one n i om,eG hi,λy q _ _=>one_le (d.cF q)⟩⟩
theorem Ke (c:eD n G O R)(a:x∈hH R):G x:=by
 unfold hH at a;obtain⟨r,b,d⟩:=List.mem_flatMap.1 a;exact Gm c x (List.mem_flatten.2 ⟨r,b,List.mem_of_mem_drop d⟩)
theorem BD (d:oK n G)(c:eD n G O R)(m:G x):fG n (λg=>g∈hH R) x:=by
 have h:=(Qe d c x).2 m;have w: ∀g,g∈hH R->bJ n g:=λg b=>d.cF (Ke c b)
 clear m
 induction h with
 |one=>exact .one
 | @mul y g _ b ih=>
  obtain⟨r,l,s⟩:=List.mem_flatten.1 b;obtain⟨i,hi,t⟩:=Bj.1 l;have f:i<n:=by have:=c.lr;omega
  have a:R.getD i []=r:=by rw[List.getD,dJ hi,<-t];rfl
  obtain⟨v,o⟩:=NN d c f;rw[a] at v o;obtain⟨k,u,q⟩:=Bj.1 s
  by_cases j:k=0
  .subst j
   have:g=bI n:=by rw[<-o,List.getD,dJ u,<-q];rfl
   rw[this,cH (ih.cF w)];exact ih
  .refine ih.mul ?_
   unfold hH;refine List.mem_flatMap.2 ⟨r,l,Bj.2 ⟨k- 1,by rw[jR];omega,?_⟩⟩;rw[List.getElem_drop];simp only[show 1+(k- 1)=k by omega,q]
def bL (x g:List Nat):List Nat:=aZ (aZ (bY g) x) g
theorem iN (X:bJ n x)(g':bJ n g):bJ n (bL x g):=(g'.inv.mul X).mul g'
theorem qQ (X:bJ n x):bL x (bI n)=x:=by
 unfold bL;rw[xT,dK X,cH X]
theorem lF {k:List Nat}(X:bJ n x)(A:bJ n g)(B:bJ n k):bL x (aZ g k)=bL (bL x g) k:=by
 unfold bL;rw[Jt A B];have a:=A.inv;have b:=B.inv;rw[aX b a X,<-aX (b.mul (a.mul X)) A B,<-aX b (a.mul X) A|>.symm]
theorem iM (X:bJ n x)(A:bJ n g):bL (bL x g) (bY g)=x:=by
 rw[<-lF X A A.inv,fH A,qQ X]
def cj (G:List Nat->Prop)(x y:List Nat):Prop:= ∃g,G g/\bL x g=y
theorem abA (a:oK n G)(X:bJ n x):cj G x x:=⟨bI n,a.one,qQ X⟩
theorem Si (b:oK n G)(X:bJ n x)(h:cj G x y):cj G y x:=by
 obtain⟨g,a,rfl⟩:=h;exact⟨bY g,b.inv a,iM X (b.cF a)⟩
theorem Di (a:oK n G){z:List Nat}(X:bJ n x)(h:cj G x y)(h2:cj G y z):cj G x z:=by
 obtain⟨g,c,rfl⟩:=h;obtain⟨k,b,rfl⟩:=h2;exact⟨aZ g k,a.mul c b,lF X (a.cF c) (a.cF b)⟩
theorem Gn (a:oK n G)(c:G x)(h:cj G x y):G y:=by
 obtain⟨g,b,rfl⟩:=h;exact a.mul (a.mul (a.inv b) c) b
theorem aiS {S:List Nat->Prop}(b: ∀g,S g->bJ n g)(a: ∀x,G x->fG n S x){P:List Nat->Prop}(X:bJ n x)(d:P x)(f: ∀y g,bJ n y->P y->S g->P (bL y g))(h:cj G x y):P y:=by
 obtain⟨g,c,rfl⟩:=h;have:=a g c;clear c
 induction this with
 |one=>rw[qQ X];exact d
 | @mul z k hz hk ih=>
  rw[lF X (hz.cF b) (b k hk)];exact f _ _ (iN X (hz.cF b)) ih hk
end
end
end Go.Proofs.YtoighkablmjfeaaGreat
namespace Go.Proofs.YtoighkablmjfeaaGreat.Cls
open Go Go.Ay Go.Sort
section
variable {h:H} {S N i j a:Nat}
def alW (ρ:Nat->Nat):dU->dU
 | .op i=> .op i
 | .call f xs=> .call (ρ f) xs
 | .callv x xs=> .callv x xs
 | .calli f t x xs=> .calli f t x xs
def aaQ (ρ:Nat->Nat)(i:It):It:=⟨i.d,i.g,alW ρ i.a⟩
def akG (ρ:Nat->Nat)(i:AI):AI:=⟨i.i,aaQ ρ i.it,i.al,i.cks⟩
def Ga (ρ:Nat->Nat):C->C
 | .skip=> .skip
 | .reg l=> .reg (l.map (aaQ ρ))
 | .any k n l=> .any k n (l.map (akG ρ))
 | .seq a b=> .seq (Ga ρ a) (Ga ρ b)
 | .ite x a b=> .ite x (Ga ρ a) (Ga ρ b)
 | .block i c=> .block i (Ga ρ c)
 | .loop c=> .loop (Ga ρ c)
 | .exit i=> .exit i
 | .ret=> .ret
 | .range f p a b=> .range f p a b
 | .fail=> .fail
def LK (ρ:Nat->Nat)(f:Ay.Fn):Ay.Fn:=⟨f.nargs,f.init,f.results,Ga ρ f.body,f.Pn⟩
attribute [go_sem] LK Ga akG aaQ alW List.map_cons List.map_nil
def sK:List Nat:= [178,231,179,119,185,184,183,180,181,256,233,232,182,78]
class oE (α:Type)[Inhabited α] where
 lt:α->α->Bool
 enc:α->List V
 P:α->Prop
 B:H->Prop
 f:Nat
 b0:Nat
 S:Nat
 swo:SWO lt
 len: ∀a,(enc a).length=4
 one: ∀a,(enc a).all V.one=true
 eqv: ∀a,dS (.agg (enc a)) (.agg (enc a))=true
 cmp: ∀h a b,B h->P a->P b->Ev T f [.agg (enc a),.agg (enc b)] h (λv h'=> ∃z,v= aC z/\decide (z<0)=lt a b/\Fr h h')
 bfr: ∀h h',B h->Fr h h'->B h'
 bS: ∀h h',B h->Fx (· =S) h h'->B h'
 bR: ∀h h' R,B h->b0<=R->Fx (· =R) h h'->B h'
 bn: ∀h,B h->b0<=h.next
 ρ:Nat->Nat
 hT: ∀k,k∈sK->T (ρ k)=(T k).map (LK ρ)
 s1:ρ 95=95
 s2:ρ 198=198
 s3:ρ 199=199
@[go_sem] theorem amX {α:Type}[Inhabited α][O:oE α]:O.ρ 95=95:=O.s1
@[go_sem] theorem amS {α:Type}[Inhabited α][O:oE α]:O.ρ 198=198:=O.s2
@[go_sem] theorem anD {α:Type}[Inhabited α][O:oE α]:O.ρ 199=199:=O.s3
theorem SE {α:Type}[Inhabited α][O:oE α]{k:Nat}{c:Ay.Fn}(h:T k=some c)(m:k∈sK):T (O.ρ k)=some (LK O.ρ c):=by
 rw[O.hT k m,h]
 rfl
def flat {α:Type}[Inhabited α][oE α](l:List α):List V:=l.flatMap oE.enc
structure Bh {α:Type}[Inhabited α][O:oE α](h:H)(S N:Nat)(d:Array α):Prop where
 get:h.get S=cE (flat d.toList)
 size:d.size=N
 lt:S<h.next
 eqS:S=O.S
 base:O.B h
 all: ∀i,i<d.size->O.P d[i]!
section
variable {α:Type} [Inhabited α] [O:oE α]
theorem qX: ∀l:List α,(flat l).length=l.length*4
 | []=>rfl
 |x::r=>by
  show (oE.enc x++flat r).length=_;rw[eE,oE.len,qX r,List.length_cons];omega
theorem Fe:(l:List α)->(i:Nat)->(flat l).drop (i*4)=flat (l.drop i)
 |l,0=>by simp
 | [],i+1=>by simp [flat]
 |x::r,i+1=>by
  show (oE.enc x++flat r).drop ((i+1)*4)=_;rw[List.drop_append,List.drop_eq_nil_of_le (by rw[oE.len];omega),oE.len,List.nil_append,show (i+1)*4- 4=i*4 by omega,Fe r i,List.drop_succ_cons]
theorem Pf:(l:List α)->(i:Nat)->(flat l).take (i*4)=flat (l.take i)
 |l,0=>by simp [flat]
 | [],i+1=>by simp [flat]
 |x::r,i+1=>by
  show (oE.enc x++flat r).take ((i+1)*4)=_;rw[List.take_append,Nb (by rw[oE.len];omega),oE.len,show (i+1)*4- 4=i*4 by omega,Pf r i,List.take_succ_cons];rfl
theorem acK (h:H)(id off:Nat)(a:α):HO h 4 (.ptr id off) (.agg (oE.enc a))=dY (h.get id) h id off (oE.enc a):=yX h id off 4 _ (oE.len a) (oE.one a)
theorem adN (a:α):dS (.agg (oE.enc a)) (.agg (oE.enc a))=true:=oE.eqv a
theorem Bh.rd {d:Array α}(A:Bh h S N d)(hi:i<N):h.row S (i*4) 4=some (oE.enc d[i]!):=by
 have b:i<d.size:=by rw[A.size];exact hi
 have c:i<d.toList.length:=by simpa using b
 unfold H.row;rw[A.get];simp only[sub];rw[aS (by rw[qX];omega),Fe,EF c];show some ((oE.enc d.toList[i]++flat _).take 4)=_;rw[List.take_append,Nb (by rw[oE.len];exact dN _),oE.len];simp [b]
theorem Bh.fr {h':H}{d:Array α}(A:Bh h S N d)(f:Fr h h'):Bh h' S N d:=⟨by rw[f.get _ A.lt];exact A.get,A.size,iD A.lt f.next,A.eqS,O.bfr _ _ A.base f,A.all⟩
theorem xA {d:Array α}(hi:i<d.size)(b:H)(S:Nat)(x:α):dY (cE (flat d.toList)) b S (i*4) (oE.enc x)=some (b.set S (cE (flat (d.setIfInBounds i x).toList))):=by
 have c:i<d.toList.length:=by simpa using hi
 have e:(flat d.toList).take (i*4)++oE.enc x++(flat d.toList).drop (i*4+4)=flat (d.setIfInBounds i x).toList:=by
  rw[Array.toList_setIfInBounds,List.set_eq_take_append_cons_drop,aS c,Pf,show i*4+4=(i+1)*4 by omega,Fe];simp [flat]
 simp only[dY,putAt,oE.len];rw[aS (by rw[qX];omega),e];rfl
theorem Gq {d:Array α}{y:α}(hi:i<d.size)(b:H)(S:Nat)(x:α):dY (cE (flat (d.setIfInBounds j y).toList)) b S (i*4) (oE.enc x)=some (b.set S (cE (flat ((d.setIfInBounds j y).setIfInBounds i x).toList))):=
 xA (by simpa using hi) b S x
theorem Bh.swap {h2:H}{d:Array α}(A:Bh h S N d){nx:Nat}(f:h.next<=nx)(e:h2=((H.mk h.tr nx).set S (cE (flat (d.setIfInBounds i d[j]!).toList))).set S (cE (flat ((d.setIfInBounds i d[j]!).setIfInBounds j d[i]!).toList)))(hi:i<N:=by omega)(q:j<N:=by omega):Bh h2 S N (swp d i j)/\Fx (· =S) h h2:=by
 subst e
 have fx:Fx (· =S) h (((H.mk h.tr nx).set S (cE (flat (d.setIfInBounds i d[j]!).toList))).set S (cE (flat ((d.setIfInBounds i d[j]!).setIfInBounds j d[i]!).toList))):=⟨f,λid _ l=>by rw[H.Cj _ l,H.Cj _ l];rfl⟩
 have o:=A.size;refine⟨⟨?_,?_,iD A.lt f,A.eqS,O.bS _ _ A.base (by have:=A.eqS;subst this;exact fx),?_⟩,fx⟩
 .rw[H.aJ];rfl
 .simp [swp,o]
 .intro k n
  have b:k<d.size:=by simpa [swp] using n
  unfold swp
  have c:(x:Array α)->(u:Nat)->(y:α)->k<x.size->(x.setIfInBounds u y)[k]! =if u=k then y else x[k]! :=λx u y m=>by
   rw[getElem!_pos (x.setIfInBounds u y) k (by simpa using m),getElem!_pos x k m,Array.getElem_setIfInBounds]
  rw[c _ _ _ (by simpa using b),c _ _ _ b]
  by_cases e1:j=k
  .rw[aS e1];exact A.all i om
  .rw[aQ e1]
   by_cases e2:i=k
   .rw[aS e2];exact A.all j om
   .rw[aQ e2];exact A.all k b
theorem acG {d:Array α}(A:Bh h S N d)(hi:i<N)(b:j<N)(nx:Nat)(c:h.next<=nx):Ev T (oE.f α) [.agg (oE.enc d[i]!),.agg (oE.enc d[j]!)] (H.mk h.tr nx) (λv h'=> ∃z,v= aC z/\decide (z<0)=oE.lt d[i]! d[j]! /\Fr (H.mk h.tr nx) h'):=
 O.cmp _ _ _ (O.bfr _ _ A.base ((Fr.refl h).cU c)) (A.all i (by rw[A.size];exact hi)) (A.all j (by rw[A.size];exact b))
end
attribute [go_sem] acK adN H.Xz
theorem Ps {a b c:H}(x:Fx (· =S) a b)(y:Fx (· =S) b c):Fx (· =S) a c:=x.trans y λ_ _ h=>h
theorem DZ {α:Type}[Inhabited α]{lt:α->α->Bool}{d:Array α}(b:a<j+1)(h2:lt d[j+1]! d[j]! =true):insInner lt a (j+1) d=insInner lt a j (swp d (j+1) j):=by
 rw[insInner,aS (by simp [b,h2])]
theorem DK {α:Type}[Inhabited α]{lt:α->α->Bool}{d:Array α}(h2:lt d[j+1]! d[j]! =false):insInner lt a (j+1) d=d:=by
 rw[insInner,aQ (by simp [h2])]
theorem CY {α:Type}[Inhabited α]{lt:α->α->Bool}{d:Array α}(h:j<=a):insInner lt a j d=d:=by
 cases j with
 |zero=>rfl
 |succ j=>rw[insInner,aQ siO]
theorem Ee {α:Type}[Inhabited α][O:oE α](h:H)(S N a b:Nat)(d:Array α)(x:qD)(hN:N<1000000)(A:Bh h S N d)(hb:b<=N)(L:a<=b):
  Ev T (oE.ρ α 178) [.sl S 0 N x,aC a,aC b,.fn (oE.f α) [] []] h (λ_ h'=>Bh h' S N (insertionSort oE.lt d a b)/\Fx (· =S) h h'):=by
 refine vZ (SE (α:=α) fE.ok deC) rfl ?_
 simp(disch:=omega)only[go_sem,fE,aV]
 rw[fJ a]
 refine aP (λs c t=> ∃(i:Nat) (e:Array α),(∃g:Nat->V,c= [.sl S 0 N x,aC a,aC b,.fn (oE.f α) [] [],aC i,g 5,g 6,g 7])/\a<i/\i<=b+1/\Bh t S N e/\insOuter oE.lt a b i e=insertionSort oE.lt d a b/\Fx (· =S) h t/\s=b+1-i) (b+1-(a+1))
  ⟨a+1,d,aD rfl,om,om,A,rfl,Fx.refl _ h,rfl⟩ ?_
 clear A
 rintro s c h1 ⟨i,e,⟨g,rfl⟩,J,P,A,n,F,rfl⟩
 refine aT ?_
 by_cases r:(i:Int)<(b:Int)
 case neg=>
  rw[bZ r];refine aT ?_;rw[insOuter,aQ om] at n;rw[<-n];exact⟨A,F⟩
 rw[cV r]
 rw[insOuter,aS om] at n
 refine aT ?_
 refine aP (λs c t=> ∃(j:Nat) (k:Array α),(∃g:Nat->V,c= [.sl S 0 N x,aC a,aC b,.fn (oE.f α) [] [],aC i,aC j,g 6,g 7])/\a<=j/\j<=i/\Bh t S N k/\insInner oE.lt a j k=insInner oE.lt a i e/\Fx (· =S) h t/\s=j) i
  ⟨i,e,aD rfl,om,om,A,rfl,F,rfl⟩ ?_
 clear A F
 rintro s c o ⟨j,k,⟨g2,rfl⟩,K,Z,A,q,F,hk⟩
 have sz:=A.size
 by_cases u:(a:Int)<(j:Int)
 .obtain⟨m,rfl⟩: ∃m,j=m+1:=⟨j- 1,om⟩
  have Q:=A.rd (i:=m+1) om
  have R:=A.rd (i:=m) om
  have e1:=cV u
  have e2:((m+1:Nat):Int)- 1=(m:Int):=om
  refine jX e1 e2 Q R ?_
  refine (acG A (i:=m+1) (j:=m) om om _ om).mono ?_
  rintro _ B ⟨z,rfl,y,w⟩
  have l:Fr o B:=Fr.trans ((Fr.refl o).cU om) w
  have v:=A.fr l
  have U:=v.rd (i:=m+1) om
  have Y:=v.rd (i:=m) om
  cases hl:oE.lt k[m+1]! k[m]! with
  |false=>
   rw[DK hl] at q;refine eZ y hl ?_;rw[fJ i];rw[<-q] at n;exact⟨b+1-(i+1),om,i+1,k,aD rfl,om,om,v,n,Ps F (Fx.of l),rfl⟩
  |true=>
   rw[DZ om hl] at q;refine wY y hl e2 U Y @v.get @xA @Gq ?_;have W:=v.swap (i:=m+1) (j:=m) (nx:=B.next+18) om rfl;exact⟨m,om,m,_,aD rfl,om,om,W.1,q,Ps (Ps F (Fx.of l)) W.2,rfl⟩
 .have e1:=bZ u
  rw[CY om] at q
  refine bM e1 ?_
  rw[fJ i]
  rw[<-q] at n
  have G:Fr o (H.mk o.tr (o.next+17)):=(Fr.refl o).cU om
  exact⟨b+1-(i+1),om,i+1,k,aD rfl,om,om,A.fr G,n,Ps F (Fx.of G),rfl⟩
end
theorem pdq_small {α:Type}[Inhabited α][O:oE α](h:H)(S N:Nat)(b:Int)(d:Array α)(i:qD)(q:N<=12)(A:Bh h S N d):
  Ev T (oE.ρ α 119) [.sl S 0 N i,aC (0:Nat),aC N,aC b,.fn (oE.f α) [] []] h (λ_ h'=> ∃e,Bh h' S N e/\PermIn 0 N d e/\SortedIn oE.lt 0 N e/\Fx (· =S) h h'):=by
 refine vZ (SE (α:=α) gU.ok deC) rfl ?_
 simp(disch:=omega)only[go_sem,gU,aV]
 refine aP (λ_ a c=>(∃g:Nat->V,a= [.sl S 0 N i,aC (0:Nat),aC N,aC b,.fn (oE.f α) [] [],.bool true,.bool true,g 7,g 8,g 9,g 10,g 11,g 12,g 13,g 14,g 15,g 16,g 17,g 18,g 19,g 20,g 21,g 22,g 23])/\c=h) 0
  ⟨aD rfl,rfl⟩ ?_
 rintro o a c ⟨⟨g,rfl⟩,rfl⟩
 have j:(N:Int)-((0:Nat):Int)=(N:Int):=om
 have e1:decide ((N:Int)<=12)=true:=cV om
 refine eZ j e1 ?_
 refine (Ee c S N 0 N d i om A (dN _) (fY _)).mono ?_
 rintro _ n ⟨l,F2⟩
 obtain⟨k,m⟩:=insertionSort_holds (oE.swo (α:=α)) d 0 N (fY _) (by rw[A.size];exact dN _)
 refine aT ?_
 exact⟨_,l,k,m,F2⟩
theorem Yq {α:Type}[Inhabited α][O:oE α](h:H)(S N:Nat)(d:Array α)(a:qD)(j:N<=12)(A:Bh h S N d):
  Ev T (oE.ρ α 78) [.sl S 0 N a,.fn (oE.f α) [] []] h (λ_ h'=> ∃e,Bh h' S N e/\PermIn 0 N d e/\SortedIn oE.lt 0 N e/\Fx (· =S) h h'):=by
 refine vZ (SE (α:=α) eM.ok deC) rfl ?_
 have l:bitsLen N<=16:=(bitsLen_le_iff _ 16).2 om
 simp(disch:=omega)only[go_sem,eM,aV,Hi (n:=(N:Int)) om om]
 refine (SH N h om).mono ?_
 rintro _ i ⟨rfl,c⟩
 subst c
 refine aT ?_
 refine (pdq_small i S N _ d a j A).mono ?_
 rintro _ k ⟨e,b,p,s,F⟩
 refine aT ?_
 exact⟨e,b,p,s,F⟩
theorem yN (a:Int)(h:H):Ev T 96 [aC a] h (λv h'=>v= .bool false/\h'=h):=by
 refine mV ?_;have e:decide (a≠a)=false:=bZ om;exact adI @aV e
def nG (a b:Int):Int:=if a<b then -1 else if b<a then 1 else 0
theorem rT (a b:Int)(h:H):Ev T 59 [aC a,aC b] h (λv h'=>v= aC (nG a b)/\Fr h h'):=by
 refine lG ?_;refine (yN a h).mono ?_;rintro _ c ⟨rfl,rfl⟩;refine aT ?_;refine (yN b c).mono ?_;rintro _ i ⟨rfl,rfl⟩;refine aT ?_;unfold nG
 by_cases c:a<b
 .have d:=cV c
  simp(disch:=omega)only[go_sem,d,aS c];exact Fr.refl _
 .have d:=bZ c
  by_cases f:b<a
  .have d2:=cV f
   simp(disch:=omega)only[go_sem,d,d2,aQ c,aS f];exact Fr.refl _
  .have d2:=bZ f
   simp(disch:=omega)only[go_sem,d,d2,aQ c,aQ f];exact Fr.refl _
def Zw:List Int->Int
 | []=>0
 |x::r=>if x=0 then Zw r else x
theorem WI {l:List Int}{i:Nat}(hi:i<l.length)(h:l.getD i 0=0):Zw (l.drop i)=Zw (l.drop (i+1)):=by
 rw[EF hi];show (if l[i]=0 then _ else _)=_;rw[aS (by rw[List.getD,dJ hi] at h;exact h)]
theorem acE {l:List Int}{i:Nat}(hi:i<l.length)(h:l.getD i 0≠0):Zw (l.drop i)=l.getD i 0:=by
 rw[EF hi];show (if l[i]=0 then _ else l[i])=_;have e:l.getD i 0=l[i]:=by rw[List.getD,dJ hi];rfl
 rw[aQ (by rw[<-e];exact h),e]
theorem afR (u:V)(l:List Int)(h:H)(F:l.length<1000000)(q:SI h u l):Ev T 58 [u] h (λv h'=>v= aC (Zw l)/\Fr h h'):=by
 have B:=q.lens;obtain⟨id,j,y,o,A⟩:=q.open;refine pM B ?_;refine aP (λs z w=> ∃(i:Nat),(∃g:Nat->V,z= [u,aC 0,aC 0,g 3,u,aC (l.length:Int),aC i,g 7,g 8])/\i<=l.length/\Zw (l.drop i)=Zw l/\Fr h w/\s=l.length-i) l.length
   ⟨0,aD rfl,fY _,rfl,Fr.refl h,rfl⟩ ?_
 rintro s r t ⟨i,⟨g,rfl⟩,hi,c,f,rfl⟩
 by_cases b:(i:Int)<(l.length:Int)
 .have n:=cV b
  have a:i<l.length:=om
  have ci:t.cell id (j+i)=some (aC (l.getD i 0)):=by rw[f.cell (o om),A i a]
  generalize m:l.getD i 0=x at ci;refine iG n @y.ixa ci ?_
  by_cases d:x=0
  .have k:decide (x≠0)=false:=bZ (by simpa using d)
   refine bM k ?_;rw[fJ i];exact⟨l.length-(i+1),om,i+1,aD rfl,om,by rw[<-WI a (m.trans d)];exact c,f.cU om,rfl⟩
  .have k:=cV d
   refine bM k ?_;exact⟨by rw[<-c,acE a (by rw[m];exact d),m],f.cU om⟩
 have n:=bZ b;obtain rfl:i=l.length:=om
 refine bM n ?_;rw[List.drop_length] at c;exact⟨by rw[<-c];rfl,f⟩
structure KE where
 rep:V
 ord:Nat
 size:Nat
 ranks:V
 fst:Nat
 hrep:rep.cells= [rep]/\rep.one=true/\dS rep rep=true
 hranks:ranks.cells= [ranks]/\ranks.one=true/\dS ranks ranks=true
instance:Inhabited KE:=⟨⟨.aH,0,0,.aH,0,⟨rfl,rfl,rfl⟩,⟨rfl,rfl,rfl⟩⟩⟩
def KE.enc (a:KE):List V:= [a.rep,aC (a.ord:Int),aC (a.size:Int),a.ranks]
def KE.cmp (a b:KE):Int:=Zw [nG a.ord b.ord,nG a.size b.size,nG a.fst b.fst]
def KE.lt (a b:KE):Bool:=decide (a.cmp b<0)
theorem Ei (a:KE)(h:H):mT h (.agg a.enc)=some (.ptr h.next 0,h.new (.cells false a.enc)):=rI h _ (by simp [KE.enc,a.hrep.2.1,a.hranks.2.1,show (aC (a.ord:Int)).one=true from rfl,show (aC (a.size:Int)).one=true from rfl])
theorem JH (a b:KE)(h:H):Ev T 80 [.agg a.enc,.agg b.enc] h (λv h'=>v= aC (nG a.ord b.ord)/\Fr h h'):=by
 refine mV ?_;obtain⟨A,f⟩:=exI h.next;obtain⟨u,e1,d,j,w,n⟩:=iI f a.enc;obtain⟨c,e2,t,m,r,l⟩:=iI d b.enc;have k:c.get A=some (.cells false a.enc):=by rw[r _ om];exact j
 have q:c.cell A 1=some (aC (a.ord:Int)):=by rw[H.cell_of k];rfl
 have i:c.cell (A+1) 1=some (aC (b.ord:Int)):=by rw[H.cell_of m];rfl
 refine wY @aV @Ei f e1 d e2 q i ?_;refine (rT _ _ c).mono ?_;rintro _ s ⟨rfl,o⟩;refine aT ?_;exact (n.trans l).trans o
theorem UT (a b:KE)(h:H):Ev T 81 [.agg a.enc,.agg b.enc] h (λv h'=>v= aC (nG a.size b.size)/\Fr h h'):=by
 refine mV ?_;obtain⟨A,f⟩:=exI h.next;obtain⟨u,e1,d,j,w,n⟩:=iI f a.enc;obtain⟨c,e2,t,m,r,l⟩:=iI d b.enc;have k:c.get A=some (.cells false a.enc):=by rw[r _ om];exact j
 have q:c.cell A 2=some (aC (a.size:Int)):=by rw[H.cell_of k];rfl
 have i:c.cell (A+1) 2=some (aC (b.size:Int)):=by rw[H.cell_of m];rfl
 refine wY @aV @Ei f e1 d e2 q i ?_;refine (rT _ _ c).mono ?_;rintro _ s ⟨rfl,o⟩;refine aT ?_;exact (n.trans l).trans o
def KE.At (h:H)(a:KE):Prop:= ∃id off n cap,a.ranks= .sl id off (n+1) cap/\id<h.next/\h.cell id off=some (aC (a.fst:Int))
theorem NU (a b:KE)(h:H)(x:a.At h)(F:b.At h):Ev T 82 [.agg a.enc,.agg b.enc] h (λv h'=>v= aC (nG a.fst b.fst)/\Fr h h'):=by
 refine mV ?_;obtain⟨A,u⟩:=exI h.next;obtain⟨h1,e1,y,R,o1,K⟩:=iI u a.enc;obtain⟨c,e2,n2,J,N,W⟩:=iI y b.enc;have⟨q,s,P,L,Z,la,z⟩:=x;have⟨o,k,G,Q,O,lb,B⟩:=F;have F2:=K.trans W;have U:c.get A=some (.cells false a.enc):=by rw[N _ om];exact R
 have l:c.cell A 3=some a.ranks:=by rw[H.cell_of U];rfl
 have i:c.cell (A+1) 3=some b.ranks:=by rw[H.cell_of J];rfl
 rw[Z] at l;rw[O] at i;have t:c.cell q s=some (aC (a.fst:Int)):=by rw[F2.cell la];exact z
 have w:c.cell o k=some (aC (b.fst:Int)):=by rw[F2.cell lb];exact B
 simp(disch:=omega)only[go_sem,aV,Ei,u,e1,y,e2,l,i,t,w];refine (rT _ _ _).mono ?_;rintro _ d ⟨rfl,Y⟩;have f:Fr c d:=((Fr.refl c).cU om).trans Y;have x:=F2.next;have j:d.cell A 3=some (.sl q s (P+1) L):=by rw[f.cell om];exact l
 have m:d.cell (A+1) 3=some (.sl o k (G+1) Q):=by rw[f.cell om];exact i
 have n:d.cell q s=some (aC (a.fst:Int)):=by rw[f.cell om];exact t
 have r:d.cell o k=some (aC (b.fst:Int)):=by rw[f.cell om];exact w
 refine jX j m n r ?_;exact F2.trans f
theorem yW {h:H}{A:Nat}{ro:Bool}{a:KE}(b:h.get A=some (.cells ro a.enc)):h.row A 0 4=some a.enc:=by
 simp [H.row,b,sub,KE.enc]
theorem Ha (a:KE):dS (.agg a.enc) (.agg a.enc)=true:=by
 show qE a.enc a.enc=true;simp [KE.enc,qE,dS,a.hrep.2.2,a.hranks.2.2]
theorem KE.At.fr {a:KE}{h h':H}(x:a.At h)(f:Fr h h'):a.At h':=by
 have⟨k,i,b,j,d,la,c⟩:=x;exact⟨k,i,b,j,d,iD la f.next,by rw[f.cell la];exact c⟩
theorem DJ (h:H)(x y z:Int):lU h 1 [aC 0] 3 [(0,1,aC x),(1,1,aC y),(2,1,aC z)]=some (.sl h.next 0 3 (.kn 3),h.new (.cells false (ints [x,y,z]))):=rfl
theorem ZV (a b:KE)(h:H)(Z:a.At h)(K:b.At h):Ev T 79 [.agg a.enc,.agg b.enc] h (λv h'=>v= aC (a.cmp b)/\Fr h h'):=by
 refine mV ?_;obtain⟨A,u⟩:=exI h.next;obtain⟨h1,e1,z,U,o1,N⟩:=iI u a.enc;obtain⟨i,e2,n2,j,Q,Y⟩:=iI z b.enc;have F2:=N.trans Y;have W:i.get A=some (.cells false a.enc):=by rw[Q _ om];exact U
 simp(disch:=omega)only[go_sem,aV,Ei,u,e1,z,e2,yW W,yW j,Ha,H.Xz];have hn:=F2.next;refine (JH a b _).mono ?_;rintro _ t ⟨rfl,F⟩;have B:Fr i t:=((Fr.refl i).cU om).trans F;have o:t.get (A+1)=some (.cells false b.enc):=by rw[B.get _ om];exact j
 refine eZ (yW o) @Ha ?_;refine (UT a b _).mono ?_;rintro _ O ⟨rfl,y⟩;have l:=B.trans y;have q:O.get (A+1)=some (.cells false b.enc):=by rw[l.get _ om];exact j
 refine eZ (yW q) @Ha ?_;refine (NU a b _ (Z.fr (F2.trans l)) (K.fr (F2.trans l))).mono ?_;rintro _ d ⟨rfl,w⟩;have m:=l.trans w;have r:d.get (A+1)=some (.cells false b.enc):=by rw[m.get _ om];exact j
 refine eZ (yW r) @Ha ?_;obtain⟨I,R⟩:=exI (i.next+9+9);have n5:=w.next;have n4:=y.next;have n3:i.next+9+12<=t.next:=F.next;refine eZ R @DJ ?_
 obtain⟨f,c⟩: ∃f:H,f=H.mk ((H.mk d.tr I).new (Ob.cells false (ints [nG a.ord b.ord,nG a.size b.size,nG a.fst b.fst]))).tr d.next:=⟨_,rfl⟩
 rw[<-c];have G:f.get I=cE (ints [nG a.ord b.ord,nG a.size b.size,nG a.fst b.fst]):=by rw[c];exact H.aI (H.mk d.tr I) _
 have n6:f.next=d.next:=by rw[c]
 have J: ∀k,k≠I->f.get k=d.get k:=λk n=>by rw[c];exact H.bG (H.mk d.tr I) (by simpa using n) _
 have F6:Fr i f:=⟨by have:=m.next;omega,λk n=>by rw[J k om];exact m.get k n⟩
 refine (afR _ [nG a.ord b.ord,nG a.size b.size,nG a.fst b.fst] f siM (SV.all (by simp [aE]) om G _)).mono ?_;rintro _ P ⟨rfl,L⟩;have x:=F6.trans L;have s:P.get (A+1)=some (.cells false b.enc):=by rw[x.get _ om];exact j
 refine eZ (yW s) @Ha ?_;exact⟨rfl,F2.trans x⟩
theorem KE.lt_iff (a b:KE):a.lt b=true↔a.ord<b.ord\/a.ord=b.ord/\(a.size<b.size\/a.size=b.size/\a.fst<b.fst):=by
 unfold KE.lt KE.cmp Zw Zw Zw Zw nG;rw[decide_eq_true_eq]
 repeat' split
 all_goals omega
theorem ajU:SWO KE.lt where
 irrefl x:=by rw[<-Bool.not_eq_true,KE.lt_iff];omega
 trans x y z h1 h2:=by rw[KE.lt_iff] at*;omega
 ntrans x y z h1 h2:=by rw[<-Bool.not_eq_true,KE.lt_iff] at*;omega
theorem vG: ∀c:C,Ga (λk=>k) c=c
 | .skip=>rfl
 | .reg l=>congrArg C.reg ((Nt λi _=>show aaQ (λk=>k) i=id i from by
   have⟨d,g,a⟩:=i
   cases a<;>rfl).trans (List.map_id l))
 | .any k n l=>congrArg (C.any k n) ((Nt λi _=>show akG (λk=>k) i=id i from by
   have⟨i,⟨d,g,a⟩,h,j⟩:=i
   cases a<;>rfl).trans (List.map_id l))
 | .seq a b=>by rw[Ga,vG a,vG b]
 | .ite x a b=>by rw[Ga,vG a,vG b]
 | .block i c=>by rw[Ga,vG c]
 | .loop c=>by rw[Ga,vG c]
 | .exit i=>rfl
 | .ret=>rfl
 | .range f p a b=>rfl
 | .fail=>rfl
theorem adY (o:Option Ay.Fn):o.map (LK λk=>k)=o:=by
 cases o with
 |none=>rfl
 |some f=>
  show some (LK _ f)=_;unfold LK;rw[vG]
def KE.Pp (hB:H)(b0 S:Nat)(a:KE):Prop:= ∃id off n cap,a.ranks= .sl id off (n+1) cap/\id<b0/\id≠S/\hB.cell id off=some (aC (a.fst:Int))
def Bb (hB:H)(b0 S:Nat)(h:H):Prop:=b0<=h.next/\ ∀q,q<b0->q≠S->h.get q=hB.get q
theorem KE.Pp.at {j h:H}{f S:Nat}{a:KE}(p:a.Pp j f S)(b:Bb j f S h):a.At h:=by
 have⟨id,c,n,d,e,i,k,l⟩:=p;refine⟨id,c,n,d,e,iD i b.1,?_⟩;rw[<-l];unfold H.cell;rw[b.2 id i k]
@[reducible] def akU (hB:H)(b0 S:Nat):oE KE where
 lt:=KE.lt
 enc:=KE.enc
 P:=KE.Pp hB b0 S
 B:=Bb hB b0 S
 f:=79
 b0:=b0
 S:=S
 swo:=ajU
 len _:=rfl
 one a:=by simp [KE.enc,a.hrep.2.1,a.hranks.2.1,show (aC (a.ord:Int)).one=true from rfl,show (aC (a.size:Int)).one=true from rfl]
 eqv:=Ha
 cmp h a b hb pa pb:=(ZV a b h (pa.at hb) (pb.at hb)).mono λv h' ⟨e,f⟩=>⟨_,e,rfl,f⟩
 bfr h h' b f:=⟨kQ b.1 f.next,λq h1 h2=>by rw[f.get q (iD h1 b.1)];exact b.2 q h1 h2⟩
 bS h h' b f:=⟨kQ b.1 f.next,λq h1 h2=>by rw[f.get q (iD h1 b.1) h2];exact b.2 q h1 h2⟩
 bR h h' R b hR f:=⟨kQ b.1 f.next,λq h1 h2=>by rw[f.get q (iD h1 b.1) (λe=>by have:q=R:=e;omega)];exact b.2 q h1 h2⟩
 bn h b:=b.1
 ρ:=λk=>k
 hT:=λk _=>(adY _).symm
 s1:=rfl
 s2:=rfl
 s3:=rfl
theorem PE {l:List KE}{N:Nat}(k:l.length=N){e:Array KE}(n:PermIn 0 N l.toArray e)(s:SortedIn KE.lt 0 N e):e.toList.Perm l/\e.toList.Pairwise (λa b=>KE.lt b a=false):=by
 have⟨o,t,m⟩:=n;have c:e.size=N:=by rw[o];simpa using k
 refine⟨?_,?_⟩
 .have q:(e.extract 0 N).toList=e.toList:=by rw[<-c];simp
  have r:(l.toArray.extract 0 N).toList=l:=by rw[<-k];simp
  rwa [q,r] at m
 .rw[Iz]
  intro i j hi f h;have d:j<N:=by simpa [c] using f
  have:=s i j (fY _) h d;have e1:e[i]! =e.toList[i]:=by simp at hi;simp [hi]
  have e2:e[j]! =e.toList[j]:=by simp at f;simp [f]
  rw[e1,e2] at this;exact this
def nT (l:List KE):List V:=l.flatMap KE.enc
theorem PX (h:H)(S d:Nat)(l:List KE)(f:qD)(m:l.length<=12)(k:h.get S=cE (nT l))(q:S<h.next)(j:d<=h.next)(o: ∀a∈l,a.Pp h d S):
  Ev T 78 [.sl S 0 l.length f,.fn 79 [] []] h (λ_ h'=> ∃l',h'.get S=cE (nT l')/\l'.Perm l/\l'.Pairwise (λa b=>KE.lt b a=false)/\Fx (· =S) h h'):=by
 letI:=akU h d S
 have A:Bh h S l.length l.toArray:=⟨k,siM,q,rfl,⟨j,λ_ _ _=>rfl⟩,λi hi=>by
  have c:i<l.length:=by simpa using hi
  have:l.toArray[i]! =l[i]:=by simp [c]
  rw[this]
  exact o _ (Hn c)⟩
 refine (Yq h S l.length l.toArray f m A).mono ?_
 rintro _ h' ⟨e,n,p,s,F⟩
 obtain⟨r,t⟩:=PE rfl p s
 exact⟨e.toList,n.get,r,t,F⟩
end Go.Proofs.YtoighkablmjfeaaGreat.Cls
namespace Go.Proofs.YtoighkablmjfeaaGreat
open Go Go.Ay Go.Pm
section
variable {i j p:Nat} {S:LN} {Q:List Nat}
section
variable {n:Nat} {G:List Nat->Prop} {L:LN}
theorem Ff {l:LN}(nd:l.Nodup)(hi:i<l.length)(b:j<l.length)(e:l.getD i []=l.getD j []):i=j:=by
 have c:l.getD i []=l[i]:=by rw[List.getD,dJ hi];rfl
 have d:l.getD j []=l[j]:=by rw[List.getD,dJ b];rfl
 rw[c,d] at e;have h:=Iz.1 nd;rcases Nat.lt_trichotomy i j with a|a|a
 .exact absurd e (h i j hi b a)
 .exact a
 .exact absurd e.symm (h j i b hi a)
def cR (G:List Nat->Prop)(L:LN)(i j:Nat):Prop:=cj G (L.getD i []) (L.getD j [])
open Classical in
noncomputable def iK (G:List Nat->Prop)(L:LN)(i:Nat):List Nat:=(List.range L.length).filter λj=>decide (cR G L i j)
theorem jM:j∈iK G L i↔j<L.length/\cR G L i j:=by
 classical
 unfold iK;rw[Gh,mS,xF]
theorem Wy (i:Nat):(iK G L i).Pairwise (· < ·):=by
 classical
 unfold iK;exact List.Pairwise.filter _ List.pairwise_lt_range
theorem Aj (i:Nat):(iK G L i).Nodup:=by
 classical
 unfold iK;exact List.Pairwise.filter _ List.nodup_range
def HN (G:List Nat->Prop)(L:LN)(i:Nat):Prop:= ∀j,j<i-> ¬cR G L j i
open Classical in
noncomputable def eK (G:List Nat->Prop)(L:LN)(k:Nat):List Nat:=(List.range k).filter λj=>decide (HN G L j)
theorem Ky (k:Nat):(HN G L k->eK G L (k+1)=eK G L k++ [k])/\(¬HN G L k->eK G L (k+1)=eK G L k):=by
 classical
 unfold eK;rw[List.range_succ,List.filter_append];refine⟨λh=>?_,λh=>?_⟩
 .rw[List.filter_cons_of_pos (by simpa using h)];rfl
 .rw[List.filter_cons_of_neg (by simpa using h),List.filter_nil,qH]
theorem mL {k:Nat}:i∈eK G L k↔i<k/\HN G L i:=by
 classical
 unfold eK;rw[Gh,mS,xF]
variable (hG:oK n G) (E:fW G L)
include hG E
omit hG in
theorem pX (hi:i<L.length):G (L.getD i []):=(E.mem _).1 (bF hi)
theorem jZ (hi:i<L.length):bJ n (L.getD i []):=hG.cF (pX E hi)
theorem Da (hi:i<L.length):cR G L i i:=abA hG (jZ hG E hi)
theorem Cg (hi:i<L.length)(h:cR G L i j):cR G L j i:=Si hG (jZ hG E hi) h
theorem pI {k:Nat}(hi:i<L.length)(h:cR G L i j)(h2:cR G L j k):cR G L i k:=Di hG (jZ hG E hi) h h2
theorem agJ (hi:i<L.length): ∃r,r<=i/\HN G L r/\cR G L r i:=by
 induction i using Nat.strongRecOn with
 |_ i ih=>
  by_cases h:HN G L i
  .exact⟨i,dN _,h,Da hG E hi⟩
  .obtain⟨j,a,b⟩: ∃j,j<i/\cR G L j i:=zL λf=>h λj a b=>f ⟨j,a,b⟩
   obtain⟨r,k,c,d⟩:=ih j a om;exact⟨r,om,c,pI hG E om d b⟩
theorem PH {r s:Nat}(b:r<L.length)(c:s<L.length)(l:HN G L r)(h2:HN G L s)(d:cR G L r i)(a:cR G L s i):r=s:=by
 have f:=pI hG E b d (Cg hG E c a);have k:=pI hG E c a (Cg hG E b d);rcases Nat.lt_trichotomy r s with h|h|h
 .exact absurd f (h2 r h)
 .exact h
 .exact absurd k (l s h)
omit hG E in
structure BQ (G:List Nat->Prop)(L S:LN)(i:Nat)(Q:List Nat)(p:Nat):Prop where
 nd:Q.Nodup
 ne:0<Q.length
 hd:Q.getD 0 0=i
 mem: ∀j∈Q,j<L.length/\cR G L i j
 cl: ∀k,k<p-> ∀s∈S,∃j∈Q,L.getD j []=bL (L.getD (Q.getD k 0) []) s
omit hG E in
theorem BQ.len (b:BQ G L S i Q p):Q.length<=L.length:=by
 have h:Q ⊆ List.range L.length:=λj a=>mS.2 (b.mem j a).1
 have:=List.Nodup.length_le_of_subset b.nd h;rwa [gT] at this
theorem BQ.done (b:BQ G L S i Q p)(w:Q.length<=p)(hi:i<L.length)(q: ∀s∈S,G s)(a: ∀x,G x->fG n (λg=>g∈S) x)(j:Nat):j∈Q↔j<L.length/\cR G L i j:=by
 refine⟨b.mem j,λ⟨o,hc⟩=>?_⟩
 have d: ∃k∈Q,L.getD k []=L.getD j []:=by
  refine aiS (S:=λg=>g∈S) (λg h=>hG.cF (q g h)) a (P:=λy=> ∃k∈Q,L.getD k []=y) (jZ hG E hi) ⟨i,by rw[<-b.hd];exact bF b.ne,rfl⟩ ?_ hc;rintro y g Y ⟨k,c,rfl⟩ h;obtain⟨t,m,v⟩:=Bj.1 c;obtain⟨u,r,l⟩:=b.cl t om g h;have e:Q.getD t 0=k:=by rw[Pm.cM m,v]
  rw[e] at l;exact⟨u,r,l⟩
 have⟨k,c,e⟩:=d;have f:=(b.mem k c).1;rw[<-Ff E.nodup f o e];exact c
theorem BQ.sort (b:BQ G L S i Q p)(d:Q.length<=p)(hi:i<L.length)(k: ∀s∈S,G s)(a: ∀x,G x->fG n (λg=>g∈S) x){c:List Int}(f:c.Perm (zi Q))(h2:c.Pairwise (· <= ·)):c=zi (iK G L i):=by
 refine Ws (f.trans ?_) h2 ?_
 .refine List.Perm.map _ ((List.perm_ext_iff_of_nodup b.nd (Aj i)).2 λj=>?_)
  rw[b.done hG E d hi k a j,jM]
 .unfold zi
  rw[List.pairwise_map];exact (Wy i).imp λh=>om
theorem Oa (hi:i<L.length)(m:HN G L i):0<(iK G L i).length/\(iK G L i).getD 0 0=i:=by
 have f:i∈iK G L i:=jM.2 ⟨hi,Da hG E hi⟩;have a:=PC f;refine⟨a,?_⟩;have o:=jM.1 (bF (d:=0) a);obtain⟨k,h,l⟩:=Bj.1 f;have c:=Iz.1 (Wy (G:=G) (L:=L) i);rw[Pm.cM a] at*
 by_cases b:k=0
 .subst b;exact l
 .have q:=c 0 k a h om
  exact absurd (Cg hG E hi o.2) (m _ om)
end
end
end Go.Proofs.YtoighkablmjfeaaGreat
namespace Go.Ay
open Go
def BW (o:Option Ob)(h:H)(id:Nat)(s:vF)(k y:V):Option (V×H):=match o with
 |some (.wmap sh es)=>if s=sh/\isKey s k=true then
   some (V.undef,h.set id (some (.wmap sh (match fR k es with
    |some e=>es.set e.1 (k,y)
    |none=>es++ [(k,y)]))))
  else none
 |_=>none
def agH (s:vF)(h:H)(x k y:V):Option (V×H):=match x with
 | .mp id=>BW (h.get id) h id s k y
 |_=>none
theorem afK (ρ:X->V)(h:H)(s:vF)(x k y:X):dI ρ h (.msw s x k y)=agH s h (ρ x) (ρ k) (ρ y):=by
 simp only[dI,agH,BW];cases ρ x<;>try rfl
theorem aeQ (s:vF)(h:H)(id:Nat)(k y:V):agH s h (.mp id) k y=BW (h.get id) h id s k y:=rfl
def Ni (o:Option Ob)(s:vF)(zero:V)(ok:Bool)(k:V):Option V:=match o with
 |some (.wmap sh es)=>if s=sh/\isKey s k=true then
   match fR k es with
   |some e=>some (if ok then .tup [e.2,.bool true] else e.2)
   |none=>some (if ok then .tup [zero,.bool false] else zero)
  else none
 |_=>none
def akE (s:vF)(zero:V)(ok:Bool)(h:H)(x k:V):Option V:=match x with
 | .mp id=>Ni (h.get id) s zero ok k
 |_=>none
theorem EY (ρ:X->V)(h:H)(s:vF)(zero:V)(b:Bool)(x k:X):dI ρ h (.lkw s zero b x k)=(akE s zero b h (ρ x) (ρ k)).map (·,h):=by
 simp only[dI,akE,Ni];cases ρ x<;>try rfl
 rename_i id;simp only
 cases hg:h.get id with
 |none=>rfl
 |some o=>
  cases o<;>try rfl
  rename_i d c;simp only
  by_cases a:s=d/\isKey s (ρ k)=true
  .rw[aS a,aS a]
   cases fR (ρ k) c<;>rfl
  .rw[aQ a,aQ a];rfl
theorem ER (s:vF)(zero:V)(a:Bool)(h:H)(id:Nat)(k:V):akE s zero a h (.mp id) k=Ni (h.get id) s zero a k:=rfl
attribute [go_sem] afK aeQ EY ER
end Go.Ay
namespace Go.Proofs.YtoighkablmjfeaaGreat
open Go Go.Ay Go.Pm
set_option maxRecDepth 100000
def Vk (L:LN)(k:Nat):List (V×V):=(List.range k).map λi=>(V.str (L.getD i []),aC i)
theorem Eu (k:V):(a b:List (V×V))->fR k a=none->fR k (a++b)=(fR k b).map λq=>(q.1+a.length,q.2)
 | [],b,_=>by
  cases h:fR k b<;>simp [h]
 |e::a,b,h=>by
  show (if dS k e.1 then some (0,e.2) else (fR k (a++b)).map λq=>(q.1+1,q.2))=_;have c:(if dS k e.1 then some (0,e.2) else (fR k a).map λq=>(q.1+1,q.2))=none:=h;split at c
  .cases c
  .rename_i d
   rw[aQ d,Eu k a b (by cases h2:fR k a with|none=>rfl|some x=>rw[h2] at c;cases c),Option.map_map]
   rfl
theorem Kb (L:LN)(k:Nat):Vk L (k+1)=Vk L k++ [(V.str (L.getD k []),aC k)]:=by
 unfold Vk;rw[List.range_succ,List.map_append];rfl
theorem Mj {L:LN}{w:List Nat}:{k:Nat}->(∀i,i<k->L.getD i []≠w)->fR (.str w) (Vk L k)=none
 |0,_=>rfl
 |k+1,h=>by
  rw[Kb,Eu _ _ _ (Mj λi hi=>h i om)]
  have:(dS (.str w) (.str (L.getD k [])))=false:=by
   have:=h k om;simp only[dS,beq_eq_false_iff_ne,ne_eq];exact λe=>this e.symm
  show Option.map _ (if dS (.str w) (.str (L.getD k [])) then _ else _)=_;rw[aQ (by rw[this];simp)];rfl
theorem Xc {L:LN}(nd:L.Nodup):{k i:Nat}->k<=L.length->i<k->fR (.str (L.getD i [])) (Vk L k)=some (i,aC i)
 |0,i,_,h=>om
 |k+1,i,hk,h=>by
  rw[Kb]
  by_cases e:i=k
  .subst e
   rw[Eu _ _ _ (Mj λj m e=>by have:=Ff nd om om e;omega)];show Option.map _ (if dS (.str (L.getD i [])) (.str (L.getD i [])) then some (0,aC i) else _)=_;rw[aS (by simp [dS])];simp [Vk]
  .have l:=Xc nd (k:=k) om (show i<k by omega)
   have d:(a b:List (V×V))->(x:V)->(r:Nat×V)->fR x a=some r->fR x (a++b)=some r:=by
    intro a
    induction a with
    |nil=>intro b x r h;cases h
    |cons y a ih2=>
     intro b x r h;show (if dS x y.1 then some (0,y.2) else (fR x (a++b)).map λq=>(q.1+1,q.2))=_;have c:(if dS x y.1 then some (0,y.2) else (fR x a).map λq=>(q.1+1,q.2))=some r:=h
     by_cases f:dS x y.1=true
     .rw[aS f] at c |-;exact c
     .rw[aQ f] at c |-
      cases h2:fR x a with
      |none=>rw[h2] at c;cases c
      |some r2=>rw[h2] at c;rw[ih2 b x r2 h2];exact c
   exact d _ _ _ _ l
theorem Kl {w:List Nat}(b:w.length<=1000)(h2: ∀x∈w,x<256):isKey .str (.str w)=true:=by
 have e:(decide (w.length<2^62)&&w.all λn=>decide (n<256))=true:=by
  rw[oD,decide_eq_true_eq,uR];exact⟨om,λx a=>by simpa using h2 x a⟩
 exact e
theorem UO {L:LN}(nd:L.Nodup){k:Nat}(b:k<L.length)(c:isKey .str (.str (L.getD k []))=true)(a:H)(M:Nat):
  BW (some (.wmap .str (Vk L k))) a M .str (.str (L.getD k [])) (aC k)=some (.undef,a.set M (some (.wmap .str (Vk L (k+1))))):=by
 have e:fR (.str (L.getD k [])) (Vk L k)=none:=Mj λj d e=>by have:=Ff nd om b e;omega
 simp only[BW]
 rw[aS ⟨trivial,c⟩,e,Kb]
theorem Wr {L:LN}(nd:L.Nodup){i:Nat}(hi:i<L.length)(a:isKey .str (.str (L.getD i []))=true)(z:V):
  Ni (some (.wmap .str (Vk L L.length))) .str z false (.str (L.getD i []))=some (aC i):=by
 simp only[Ni]
 rw[aS ⟨trivial,a⟩,Xc nd (dN _) hi];rfl
end Go.Proofs.YtoighkablmjfeaaGreat
namespace Go.Ay
open Go
section
variable {e:Nat×V} {y:V}
def EO (o:Option Ob)(h:H)(id:Nat)(s:vF)(zero k:V):Option (V×H):=match o with
 |some (.wmap sh es)=>if s=sh/\isKey s k=true then
   match fR k es with
   |some e=>some (.tup [e.2,aC (e.1:Nat)],h)
   |none=>some (.tup [zero,aC es.length],h.set id (some (.wmap sh (es++ [(k,zero)]))))
  else none
 |_=>none
def aiE (s:vF)(zero:V)(h:H)(x k:V):Option (V×H):=match x with
 | .mp id=>EO (h.get id) h id s zero k
 |_=>none
theorem afE (ρ:X->V)(h:H)(s:vF)(zero:V)(x k:X):dI ρ h (.kH s zero x k)=aiE s zero h (ρ x) (ρ k):=by
 simp only[dI,aiE,EO];cases ρ x<;>try rfl
theorem aaN (s:vF)(zero:V)(h:H)(id:Nat)(k:V):aiE s zero h (.mp id) k=EO (h.get id) h id s zero k:=rfl
def OE (o:Option Ob)(h:H)(id:Nat)(n:Int)(y:V):Option (V×H):=match o with
 |some (.wmap sh es)=>if 0<=n then
   match es[n.toNat]? with
   |some e=>some (V.undef,h.set id (some (.wmap sh (es.set n.toNat (e.1,y)))))
   |none=>none
  else none
 |_=>none
def agO (h:H)(x s y:V):Option (V×H):=match x,s with
 | .mp id,aC n=>OE (h.get id) h id n y
 |_,_=>none
theorem abQ (ρ:X->V)(h:H)(x s y:X):dI ρ h (.ens x s y)=agO h (ρ x) (ρ s) (ρ y):=by
 simp only[dI,agO,OE];cases ρ x<;>try rfl
theorem ZC (h:H)(id:Nat)(n:Int)(y:V):agO h (.mp id) (aC n) y=OE (h.get id) h id n y:=rfl
attribute [go_sem] afE aaN abQ ZC
section
variable {κ:Type} [DecidableEq κ]
def Av:List (κ×V)->κ->Option (Nat×V)
 | [],_=>none
 |p::l,a=>if a=p.1 then some (0,p.2) else (Av l a).map λq=>(q.1+1,q.2)
def eU (enc:κ->V)(l:List (κ×V)):List (V×V):=l.map λp=>(enc p.1,p.2)
def Rt (l:List (κ×V))(a:κ):Option V:=(Av l a).map (·.2)
def Rz (l:List (κ×V))(a:κ)(y:V):List (κ×V):=match Av l a with
 |some e=>l.set e.1 (a,y)
 |none=>l++ [(a,y)]
theorem yO {enc:κ->V}{P:κ->Prop}(d: ∀a b,P a->P b->dS (enc a) (enc b)=decide (a=b)){a:κ}(c:P a):{l:List (κ×V)}->(∀p∈l,P p.1)->fR (enc a) (eU enc l)=Av l a
 | [],_=>rfl
 |p::l,h=>by
  show (if dS (enc a) (enc p.1) then some (0,p.2) else (fR (enc a) (eU enc l)).map λq=>(q.1+1,q.2))=if a=p.1 then some (0,p.2) else (Av l a).map λq=>(q.1+1,q.2)
  rw[d a p.1 c (h p siM),yO d c λq f=>h q (by simp [f])]
  by_cases e:a=p.1<;>simp [e]
theorem YF {l:List (κ×V)}{a:κ}(h:Av l a=some e):l[e.1]? =some (a,e.2):=by
 induction l generalizing e with
 |nil=>cases h
 |cons p l ih=>
  rw[Av] at h
  by_cases c:a=p.1
  .rw[aS c] at h
   cases h;simp [c]
  .rw[aQ c] at h
   obtain⟨q,b,rfl⟩:=kU.1 h;simpa using ih b
theorem acC (a:κ)(l m:List (κ×V))(h:Av l a=none):Av (l++m) a=(Av m a).map λq=>(q.1+l.length,q.2):=by
 induction l with
 |nil=>cases hm:Av m a<;>simp [hm]
 |cons p l ih=>
  rw[Av] at h
  by_cases c:a=p.1
  .rw[aS c] at h;cases h
  .rw[aQ c] at h
   have b:Av l a=none:=by cases hl:Av l a with|none=>rfl|some x=>rw[hl] at h;cases h
   rw[List.cons_append,Av,aQ c,ih b,Option.map_map]
   rfl
theorem Rh (a:κ)(l m:List (κ×V))(h:Av l a=some e):Av (l++m) a=some e:=by
 induction l generalizing e with
 |nil=>cases h
 |cons p l ih=>
  rw[Av] at h;rw[List.cons_append,Av]
  by_cases c:a=p.1
  .rw[aS c] at h |-;exact h
  .rw[aQ c] at h |-
   obtain⟨q,b,rfl⟩:=kU.1 h;rw[ih b];rfl
theorem afL (l:List (κ×V)){a:κ}(y:V)(h:Av l a=some e)(b:κ):Rt (l.set e.1 (a,y)) b=if b=a then some y else Rt l b:=by
 unfold Rt
 induction l generalizing e with
 |nil=>cases h
 |cons p l f=>
  rw[Av] at h
  by_cases c:a=p.1
  .rw[aS c] at h
   cases h;show Option.map _ (if b=a then some (0,y) else (Av l b).map λq=>(q.1+1,q.2))=_
   by_cases d:b=a
   .rw[aS d,aS d];rfl
   .rw[aQ d,aQ d,Av,aQ (by rw[<-c];exact d)]
  .rw[aQ c] at h
   obtain⟨q,i,rfl⟩:=kU.1 h;have f:=f i;show Option.map _ (if b=p.1 then some (0,p.2) else (Av (l.set q.1 (a,y)) b).map λq=>(q.1+1,q.2))=_
   by_cases d:b=p.1
   .rw[aS d,aQ (by rw[d];exact λe=>c e.symm),Av,aS d]
   .rw[aQ d,Option.map_map,Av,aQ d,Option.map_map]
    exact f
theorem Rk (l:List (κ×V))(a:κ)(y:V)(b:κ):Rt (Rz l a y) b=if b=a then some y else Rt l b:=by
 unfold Rz
 cases h:Av l a with
 |some e=>exact afL l y h b
 |none=>
  show Rt (l++ [(a,y)]) b=_;unfold Rt
  cases hb:Av l b with
  |some e=>
   rw[Rh b l _ hb,aQ (λe=>by rw[e,h] at hb;cases hb)]
  |none=>
   rw[acC b l _ hb];show Option.map _ (Option.map _ (if b=a then some (0,y) else none))=_
   by_cases d:b=a
   .rw[aS d,aS d];rfl
   .rw[aQ d,aQ d];rfl
theorem Pb {P:κ->Prop}{l:List (κ×V)}{a:κ}(d:P a)(c: ∀p∈l,P p.1): ∀p∈Rz l a y,P p.1:=by
 unfold Rz;intro p b;split at b
 .rcases List.mem_or_eq_of_mem_set b with h|rfl
  .exact c p h
  .exact d
 .rcases Es.1 b with h|h
  .exact c p h
  .rw[List.mem_singleton.1 h];exact d
omit [DecidableEq κ] in
theorem Ja {enc:κ->V}{l:List (κ×V)}{k:Nat}{a:κ}:(eU enc l).set k (enc a,y)=eU enc (l.set k (a,y)):=by
 unfold eU;rw[List.map_set]
omit [DecidableEq κ] in
theorem Ot {enc:κ->V}{l:List (κ×V)}{a:κ}:eU enc l++ [(enc a,y)]=eU enc (l++ [(a,y)]):=by
 unfold eU;rw[List.map_append];rfl
theorem SA {enc:κ->V}{P:κ->Prop}(d: ∀a b,P a->P b->dS (enc a) (enc b)=decide (a=b)){s:vF}(i: ∀a,P a->isKey s (enc a)=true){l:List (κ×V)}(f: ∀p∈l,P p.1){a:κ}(c:P a)(y:V)(h:H)(id:Nat):
  BW (some (.wmap s (eU enc l))) h id s (enc a) y=some (.undef,h.set id (some (.wmap s (eU enc (Rz l a y))))):=by
 simp only[BW]
 rw[aS ⟨trivial,i a c⟩,yO d c f]
 unfold Rz
 cases Av l a with
 |some e=>simp only[Ja]
 |none=>simp only[Ot]
theorem Cd {enc:κ->V}{P:κ->Prop}(d: ∀a b,P a->P b->dS (enc a) (enc b)=decide (a=b)){s:vF}(h: ∀a,P a->isKey s (enc a)=true){l:List (κ×V)}(f: ∀p∈l,P p.1){a:κ}(c:P a)(z:V):
  Ni (some (.wmap s (eU enc l))) s z false (enc a)=some ((Rt l a).getD z):=by
 simp only[Ni]
 rw[aS ⟨trivial,h a c⟩,yO d c f]
 unfold Rt
 cases Av l a<;>rfl
theorem abJ {enc:κ->V}{P:κ->Prop}(o: ∀a b,P a->P b->dS (enc a) (enc b)=decide (a=b)){s:vF}(f: ∀a,P a->isKey s (enc a)=true){l:List (κ×V)}(j: ∀p∈l,P p.1){a:κ}(i:P a)(z y:V)(h:H)(id:Nat)(q:h.get id=some (.wmap s (eU enc l))):
  ∃(v:V) (n:Nat) (l1:List (κ×V)) (h1:H),EO (some (.wmap s (eU enc l))) h id s z (enc a)=some (.tup [v,aC n],h1)/\h1.next=h.next/\(∀k,k≠id->h1.get k=h.get k)/\h1.get id=some (.wmap s (eU enc l1))/\(∀p∈l1,P p.1)/\(∀b,(Rt l1 b).getD z=(Rt l b).getD z)/\
   ∀hh,OE (some (.wmap s (eU enc l1))) hh id (n:Int) y=some (.undef,hh.set id (some (.wmap s (eU enc (Rz l a y))))):=by
 have c:=yO o i j
 unfold Rz
 cases hx:Av l a with
 |some e=>
  rw[hx] at c;refine⟨e.2,e.1,l,h,?_,rfl,λ_ _=>rfl,q,j,λ_=>rfl,λhh=>?_⟩
  .simp only[EO];rw[aS ⟨trivial,f a i⟩,c]
  .have r:=YF hx
   have:(eU enc l)[(e.1:Int).toNat]? =some (enc a,e.2):=by
    rw[As];unfold eU;rw[Al,r];rfl
   simp only[OE];rw[aS om,this];simp only[As,Ja]
 |none=>
  rw[hx] at c;refine⟨z,l.length,l++ [(a,z)],h.set id (some (.wmap s (eU enc (l++ [(a,z)])))),?_,rfl,λk f=>H.Cj _ f _,H.aJ ..,?_,λb=>?_,λhh=>?_⟩
  .simp only[EO]
   rw[aS ⟨trivial,f a i⟩,c];simp only[Ot];rw[show (eU enc l).length=l.length from by unfold eU;rw[dO]]
  .intro p m
   rcases Es.1 m with h|h
   .exact j p h
   .rw[List.mem_singleton.1 h];exact i
  .have:=Rk l a z b
   unfold Rz at this;rw[hx] at this;have this:Rt (l++ [(a,z)]) b=if b=a then some z else Rt l b:=this
   rw[this]
   by_cases d:b=a
   .rw[aS d,d];unfold Rt;rw[hx];rfl
   .rw[aQ d]
  .have:(eU enc (l++ [(a,z)]))[(l.length:Int).toNat]? =some (enc a,z):=by
    rw[As];unfold eU;rw[Al];simp
   simp only[OE];rw[aS om,this];simp only[As,Ja];simp
end
end
end Go.Ay
namespace Go.Proofs.YtoighkablmjfeaaGreat
open Go Go.Ay Go.Pm
section
variable {G:List Nat->Prop} {L:LN} {i j n:Nat} {Q:List Nat} {h:H} {v:V}
theorem JP {a:V}(b:a.cells= [a])(c:a.one=true)(M N m:Nat):mP [.aH,.nilm,.aH,.aH] [(0,1,a),(1,1,.mp M),(3,1,.sl N 0 m (.kn m))]=some (.agg [a,.mp M,.aH,.sl N 0 m (.kn m)]):=by
 simp [mP,fP,putAt,b,c,show (V.mp M).cells= [V.mp M] from rfl,show (V.sl N 0 m (.kn m)).cells= [V.sl N 0 m (.kn m)] from rfl,show (V.mp M).one=true from rfl,show (V.sl N 0 m (.kn m)).one=true from rfl]
theorem OX {a:V}(b:a.one=true)(M N m:Nat)(h:H):mT h (.agg [a,.mp M,.aH,.sl N 0 m (.kn m)])=some (.ptr h.next 0,h.new (.cells false [a,.mp M,.aH,.sl N 0 m (.kn m)])):=rI h _ (by simp [b,show (V.mp M).one=true from rfl,show (V.sl N 0 m (.kn m)).one=true from rfl,show V.aH.one=true from rfl])
open Classical in
noncomputable def Et (G:List Nat->Prop)(L:LN)(i:Nat)(Q:List Nat)(j:Nat):Bool:=decide ((∃i0,i0<i/\cR G L i0 j)\/j∈Q)
theorem mH:Et G L i Q j=true↔(∃i0,i0<i/\cR G L i0 j)\/j∈Q:=by classical unfold Et;simp only[decide_eq_true_eq]
theorem WD (G:List Nat->Prop)(L:LN)(j:Nat):Et G L 0 [] j=false:=by
 rw[<-Bool.not_eq_true,mH];rintro (⟨a,h,_⟩|h)
 .omega
 .cases h
theorem Zg {k:Nat}:Et G L i (Q++ [k]) j=if j=k then true else Et G L i Q j:=by
 by_cases e:j=k
 .rw[aS e,mH];exact .inr (by simp [e])
 .rw[aQ e,Ri,mH,mH]
  simp [e]
theorem Bu {p:Nat->Option Ay.Fn}{rd:Option Nat}{a:C}{k:Nat}{b:List V}{Q:E->List V->H->Prop}(J:List V->H->Prop)(c:Wp p rd (.loop a) b h (λe v h'=>e= .exit k/\J v h'))(h2: ∀v h',J v h'->Q .norm v h'):Wp p rd (.loop a) b h (tP k Q):=
 c.mono λe v h' x=>by
  obtain⟨rfl,x⟩:=x;rw[yH];exact h2 v h' x
theorem dF.ge {sz id off b:Nat}{ws:List V}(o:dF h v sz ws b)(a:ws.length=n*sz)(l:0<sz)(s:Sl v sz n id off)(f:0<n):b<=id:=by
 have k:=s.ixa .i64 0 om om;rcases o.sv with ⟨_,rfl⟩|⟨q,d,len,m,u,r,e,c,_⟩
 .have:=Nat.mul_pos f l
  simp at a;omega
 .have w:=(o.in _ _ _ _ e).2.1
  subst e
  have t:0<len:=by
   have:=Nat.mul_pos f l;refine Nat.pos_of_ne_zero λe0=>?_
   subst e0;simp at c;rw[c] at a;simp at a;omega
  rw[lJ om om] at k;simp only[Option.some.injEq,V.ptr.injEq] at k;omega
theorem YL (o:oK n G)(E:fW G L)(hi:i<L.length)(k: ¬HN G L i)(j:Nat):Et G L i [] j=Et G L (i+1) [] j:=by
 obtain⟨d,m,c⟩: ∃j,j<i/\cR G L j i:=zL λq=>k λj f c=>q ⟨j,f,c⟩
 rw[Ri,mH,mH];constructor
 .rintro (⟨a,l,b⟩|h)
  .exact .inl ⟨a,om,b⟩
  .cases h
 .rintro (⟨a,l,b⟩|h)
  .by_cases e:a=i
   .subst e;exact .inl ⟨d,m,pI o E om c b⟩
   .exact .inl ⟨a,om,b⟩
  .cases h
theorem XK {S:LN}(m:oK n G)(E:fW G L)(hi:i<L.length)(b:BQ G L S i Q Q.length)(k: ∀s∈S,G s)(a: ∀x,G x->fG n (λg=>g∈S) x)(f:j<L.length):Et G L i Q j=Et G L (i+1) [] j:=by
 rw[Ri,mH,mH];constructor
 .rintro (⟨c,l,d⟩|h)
  .exact .inl ⟨c,om,d⟩
  .exact .inl ⟨i,om,(b.mem j h).2⟩
 .rintro (⟨c,l,d⟩|h)
  .by_cases e:c=i
   .subst e;exact .inr ((b.done m E (dN _) hi k a j).2 ⟨f,d⟩)
   .exact .inl ⟨c,om,d⟩
  .cases h
theorem MN (a:v.cells= [v])(b:v.one=true)(x y:Int):mP [.aH,aC 0,aC 0] [(0,1,v),(1,1,aC x),(2,1,aC y)]=some (.agg [v,aC x,aC y]):=by
 simp [mP,fP,putAt,a,b,show ∀z,(aC z).cells= [aC z] from λ_=>rfl,show ∀z,(aC z).one=true from λ_=>rfl]
theorem JZ {w:V}(c:v.one=true)(b:w.cells= [w])(a:w.one=true)(x y:Int):mP [.aH,aC 0,aC 0,.aH] [(0,3,.agg [v,aC x,aC y]),(3,1,w)]=some (.agg [v,aC x,aC y,w]):=by
 simp [mP,fP,putAt,b,c,a,show ∀l,(V.agg l).cells=l from λ_=>rfl,show ∀z,(aC z).one=true from λ_=>rfl]
theorem NO {w:V}(b:v.one=true)(a:w.one=true)(x y:Int)(h:H):lU h 4 [.aH,aC 0,aC 0,.aH] 1 [(0,4,.agg [v,aC x,aC y,w])]=some (.sl h.next 0 1 (.kn 1),h.new (.cells false [v,aC x,aC y,w])):=by
 have e:cJ [V.aH,aC 0,aC 0,.aH] 4= [V.aH,aC 0,aC 0,.aH]:=rfl;simp [lU,fP,putAt,e,b,a,show ∀l,(V.agg l).cells=l from λ_=>rfl,show ∀z,(aC z).one=true from λ_=>rfl]
theorem tU (k:Nat):(eK G L k).length<=k:=by
 classical
 unfold eK;exact kQ (List.length_filter_le _ _) (by rw[gT];exact dN _)
theorem Od (ks:List Cls.KE):(Cls.nT ks).length=ks.length*4:=by
 induction ks with
 |nil=>rfl
 |cons a r ih=>
  show (a.enc++Cls.nT r).length=_;rw[eE,ih,List.length_cons];show 4+_=_;omega
theorem JW {a b c d:V}(f:H)(id:Nat)(y:V):dY (some (.cells false [a,b,c,d])) f id 2 [y]=some (f.set id (some (.cells false [a,b,y,d]))):=by
 simp [dY,putAt]
theorem aiZ {sz:Nat}{ws:List V}(s:SV h v sz ws):vI (λq=>h.next<=q) v:=by
 cases v with
 |sl id off len cap=>exact λa=>by have:=s.in _ _ _ _ rfl;omega
 |_=>trivial
structure KO (n:Nat)(G:List Nat->Prop)(L:LN)(X:Nat)(W:Nat->Prop)(hh:H)(a:Cls.KE)(r:Nat):Prop where
 fst:a.fst=r
 ord:a.ord=fC (L.getD r []) n
 size:a.size=(iK G L r).length
 rep:PV (λq=>X<=q) hh a.rep (L.getD r [])
 ranks:PV W hh a.ranks (iK G L r)
theorem KO.go {X:Nat}{W W':Nat->Prop}{h':H}{a:Cls.KE}{r:Nat}(k:KO n G L X W h a r)(f:Fx W h h')(o:X<=h.next)(d: ∀q,W q->X<=q)(c: ∀q,q<h.next->W' q->W q):KO n G L X W' h' a r:=
 ⟨k.fst,k.ord,k.size,k.rep.fx ⟨f.next,λq b m=>f.get q b λl=>m (d q l)⟩,PV.go k.ranks f c⟩
structure OfJ (n:Nat)(G:List Nat->Prop)(L:LN)(X D:Nat)(vL:V)(h5:H)(i:Nat)(hh:H):Prop where
 ex: ∃vK ks W,hh.get (X+8)=some (.cells false [vL,.mp (X+3),vK,.sl (X+6) 0 L.length (.kn L.length)])/\dF hh vK 4 (Cls.nT ks) (D+1)/\bH (KO n G L X W hh) ks (eK G L i)/\Mh W vK/\W D/\W (X+8)/\W (X+6)/\(∀q,W q->q<hh.next)/\(∀q,W q->X<=q)/\(ks= []\/ ∃id cap,vK= .sl id 0 ks.length cap/\hh.get id=some (.cells false (Cls.nT ks)))
 gD:hh.get D=some (.cells false (rc L.length λj=> .bool (Et G L i [] j)))
 old:Fx (λq=>q=X+8\/D<=q) h5 hh
 nx:D<hh.next
def SK (n:Nat):C->Bool
 | .block k _=>k==n
 | .seq _ b=>SK n b
 |_=>false
def Rl (n:Nat):C->C
 | .seq a b=>if SK n a then b else Rl n b
 |c=>c
structure OfE (n:Nat)(G:List Nat->Prop)(L:LN)(X D:Nat)(vL:V)(h h2 h5 h7:H):Prop where
 el:fW G L
 le:L.length<=5040
 f2:Fr h h2
 x2:h2.next=X
 sp:SP h2 vL L
 f25:Fr h2 h5
 xD:X+10<=D
 n5:h5.next=D
 gM:h5.get (X+3)=some (.wmap .str (Vk L L.length))
 gN:h5.get (X+6)=some (.cells false (rc L.length λ_=> aC 0))
 j:OfJ n G L X D vL h5 L.length h7
theorem ZH {W0:Nat->Prop}(vc:V)(n:Nat)(O:LN)(R:nZ)(G:List Nat->Prop)(h:H)(gc:GC W0 h vc n O R G)(P:V->H->Prop)
  (hk: ∀L X D vL h2 h5 h7 A (g:Nat->V),cK O R n 0 (bI n)=L->OfE n G L X D vL h h2 h5 h7->Wp T none (Rl 2 kZ.fn.body) ([g 0,.ptr A 0,.nilp,aC 0,vL,g 5,.ptr (X+8) 0,g 7,g 8,g 9,g 10,g 11,g 12,g 13,g 14,g 15,g 16,g 17,g 18,g 19,g 20,g 21,g 22,g 23,g 24,g 25,g 26,g 27,g 28,g 29,g 30,g 31,g 32,g 33,g 34,g 35,g 36,g 37,g 38,g 39,g 40,g 41,g 42,g 43,g 44,g 45]) h7 (Gb kZ.fn.results P)):
  Ev T 42 [vc] h P:=by
 obtain⟨vO,vR,e,sO,sR⟩:=gc.ch
 subst e
 refine EvZ kZ rfl ?_
 have j8:vO.one=true:=NB sO
 have j4:vR.one=true:=KY sR
 obtain⟨A,hA⟩:=exI h.next
 obtain⟨d,e1,n1,g1,o1,f1⟩:=iI hA [aC n,vO,vR]
 have bx:=dH h (v:= aC n) (u:=vO) (w:=vR) rfl j8 j4
 have rB:=bU g1
 obtain⟨L,hL⟩:=exI (cK O R n 0 (bI n))
 obtain⟨E,ll⟩:=dV gc.kT gc.isc
 have r7:=kF gc
 rw[hL] at E ll
 have hG:=gc.kT
 have n7:=gc.n7
 have n0:=gc.n0
 simp(disch:=omega)only[go_sem,kZ,aV,bx,hA,e1,rB]
 refine (Ra _ n O R G d (gc.mono f1)).mono ?_
 rw[hL]
 rintro _ h2 ⟨vL,rfl,nw⟩
 obtain⟨wL,W,c3,l4,r1,W1⟩:=nw.ex
 have g4:=bH.length l4
 obtain⟨m,hm⟩:=exI L.length
 rw[hm] at g4
 have f8:=dF.lens c3 g4
 have c9:=c3.sv.cT.2.1
 have f2:=nw.fr
 refine bM f8 ?_
 refine bV (λhc=>(hc rfl).elim) (λ_=>?_)
 obtain⟨X,hX⟩:=exI h2.next
 simp(disch:=omega)only[go_sem,f8,anO _ m om,hX,JP c3.sv.cT.1 c9,OX c9]
 obtain⟨h3,a1⟩: ∃h3:H,h3=H.mk ((H.mk ((H.mk ((H.mk h2.tr (X+3)).new (Ob.wmap vF.str [])).tr (X+6)).new (Ob.cells false (rc m λ_=>aC 0))).tr (X+8)).new (Ob.cells false [vL,.mp (X+3),.aH,.sl (X+6) 0 m (.kn m)])).tr (X+10):=⟨_,rfl⟩
 rw[<-a1]
 have n3:h3.next=X+10:=by rw[a1]
 have gB:h3.get (X+8)=some (.cells false [vL,.mp (X+3),.aH,.sl (X+6) 0 m (.kn m)]):=by rw[a1];exact H.aI (H.mk _ (X+8)) _
 have gN:h3.get (X+6)=some (.cells false (rc m λ_=>aC 0)):=by
  rw[a1];exact (H.bG (H.mk _ (X+8)) (show X+6≠X+8 by omega) _).trans (H.aI (H.mk _ (X+6)) _)
 have gM:h3.get (X+3)=some (.wmap .str (Vk L 0)):=by
  rw[a1];exact (H.bG (H.mk _ (X+8)) (show X+3≠X+8 by omega) _).trans ((H.bG (H.mk _ (X+6)) (show X+3≠X+6 by omega) _).trans (H.aI (H.mk _ (X+3)) _))
 have f3:Fr h2 h3:=⟨om,λq hq=>by
  rw[a1]
  exact (H.bG (H.mk _ (X+8)) (show q≠X+8 by omega) _).trans ((H.bG (H.mk _ (X+6)) (show q≠X+6 by omega) _).trans (H.bG (H.mk _ (X+3)) (show q≠X+3 by omega) _))⟩
 clear a1
 have a0: ∀i,i<m->(L.getD i []).length<=1000/\ ∀x∈L.getD i [],x<256:=λi hi=>by
  have P:=jZ hG E (show i<L.length by omega);exact⟨by rw[P.len];omega,λx hx=>by have:=P.lt x hx;omega⟩
 obtain⟨o4,j5,b9,k9,i2⟩:=SV.shape c3.sv m om om
 have f4: ∀i,i<m-> ∃vx,(∀h',Fr h2 h'->h'.cell o4 (j5+i)=some vx)/\SI h2 vx (zi (L.getD i [])):=λi hi=>by
  obtain⟨v,d,b5⟩:=jI.at l4 (i:=i) om;exact⟨v,λh' f=>by rw[f.cell (k9 om),i2 i om,d],b5.si⟩
 have hK: ∀i,i<m->isKey .str (.str (L.getD i []))=true:=λi hi=>Kl (a0 i hi).1 (a0 i hi).2
 refine dG (λvs B=>(∃g:Nat->V,vs= [g 0,.ptr A 0,.nilp,aC 0,vL,g 5,.ptr (X+8) 0,g 7,g 8,g 9,g 10,g 11,g 12,g 13,g 14,g 15,g 16,g 17,g 18,g 19,g 20,g 21,g 22,g 23,g 24,g 25,g 26,g 27,g 28,g 29,g 30,g 31,g 32,g 33,g 34,g 35,g 36,g 37,g 38,g 39,g 40,g 41,g 42,g 43,g 44,g 45])/\B.get (X+3)=some (.wmap .str (Vk L m))/\Fx (· =X+3) h3 B) ?_ ?_
 .refine aP (λk' vs B=> ∃(i:Nat),(∃g:Nat->V,vs= [g 0,.ptr A 0,.nilp,aC 0,vL,g 5,.ptr (X+8) 0,g 7,g 8,g 9,g 10,g 11,g 12,g 13,g 14,g 15,g 16,g 17,g 18,g 19,g 20,g 21,g 22,vL,aC m,aC i,g 26,g 27,g 28,g 29,g 30,g 31,g 32,g 33,g 34,g 35,g 36,g 37,g 38,g 39,g 40,g 41,g 42,g 43,g 44,g 45])/\i<=m/\B.get (X+3)=some (.wmap .str (Vk L i))/\Fx (· =X+3) h3 B/\k'=m-i) m
   ⟨0,aD rfl,fY _,gM,Fx.refl _ h3,rfl⟩ ?_
  rintro k' K h4 ⟨i,⟨g,rfl⟩,hi,b4,F4,rfl⟩
  by_cases a6:(i:Int)<(m:Int)
  case neg=>
   have d4:=bZ a6;obtain rfl:i=m:=om
   refine bM d4 ?_;exact⟨aD rfl,b4,F4⟩
  have d4:=cV a6
  have a3:i<m:=om
  have b1:Fr h2 h4:=⟨by have:=F4.next;omega,λq hq=>by rw[F4.get q om om];exact f3.get q hq⟩
  have c2:h4.get (X+8)=some (.cells false [vL,.mp (X+3),.aH,.sl (X+6) 0 m (.kn m)]):=by rw[F4.get _ om om];exact gB
  obtain⟨vx,cx,sx⟩:=f4 i a3
  have c8:h4.cell (X+8) 1=some (.mp (X+3)):=by rw[H.cell_of c2];rfl
  refine jX d4 @b9.ixa (cx h4 b1) c8 ?_
  refine (Tj vx (L.getD i []) _ (a0 i a3).1 (a0 i a3).2 (sx.mono (b1.trans ((Fr.refl h4).cU om)))).mono ?_
  rintro _ h5 ⟨rfl,f5⟩
  have c7:Fr h4 h5:=((Fr.refl h4).cU om).trans f5
  have n4:=F4.next
  have q0:h5.get (X+3)=some (.wmap .str (Vk L i)):=by rw[c7.get _ om];exact b4
  have l5:h5.cell (X+8) 1=some (.mp (X+3)):=by rw[c7.cell om];exact c8
  have pt:=λB=>UO E.nodup (show i<L.length by omega) (hK i a3) B (X+3)
  refine iG l5 q0 pt ?_
  rw[fJ i]
  refine⟨by simp [dS],m-(i+1),om,i+1,aD rfl,om,rfl,⟨by have:=c7.next;show h3.next<=h5.next;omega,λq d h2=>by rw[H.Cj _ (λe=>h2 e),c7.get q om];exact F4.get q d h2⟩,rfl⟩
 rintro K h4 ⟨⟨g,rfl⟩,b4,F4⟩
 have n4:=F4.next
 have b1:Fr h2 h4:=⟨om,λq hq=>by rw[F4.get q om om];exact f3.get q hq⟩
 have c2:h4.get (X+8)=some (.cells false [vL,.mp (X+3),.aH,.sl (X+6) 0 m (.kn m)]):=by rw[F4.get _ om om];exact gB
 have i4:h4.get (X+6)=some (.cells false (rc m λ_=>aC 0)):=by rw[F4.get _ om om];exact gN
 have l1:=f2.trans b1
 have rA:=bU (h:=h4) (id:=A) (ro:=false) (by rw[l1.get _ om];exact g1)
 refine bM rA ?_
 refine (NG _ n O R G h4 (gc.mono (f1.trans l1))).mono ?_
 rintro _ h5 ⟨vS,rfl,nS⟩
 have f5:=nS.fr
 obtain⟨D,hD⟩:=exI h5.next
 obtain⟨h6,e6,n6,g6,o6,f6⟩:=iI hD (rc m λ_=>V.bool false)
 refine jX f8 @LS hD e6 ?_
 have f0:=b1.trans f5
 have q9:=f0.next
 have n5:=f5.next
 obtain⟨wS,WS,d7,e4,q8,p0⟩:=nS.ex
 obtain⟨S,hS⟩:=exI (hH R)
 rw[hS] at e4
 have n2:=bH.length e4
 have a2: ∀s∈S,G s:=λs hs=>Ke gc.isc (by rw[hS];exact hs)
 have b7: ∀x,G x->fG n (λg=>g∈S) x:=λx hx=>by rw[<-hS];exact BD hG gc.isc hx
 obtain⟨sl,e7⟩:=exI S.length
 have q3:sl<=49:=by
  have d: ∀j,j<R.length->(R.getD j []).length<=n:=λj U=>by
   have c5:j<n:=by rw[<-gc.isc.lr];exact U
   rw[gc.isc.rl j c5];have:=yP (λx hx=>hG.cF hx) c5 (gc.isc.asc j c5) (gc.isc.mem j c5);omega
  have h2:=Am (n:=n) (R:=R) (dN _) d;rw[List.take_length,hS,e7,gc.isc.lr] at h2;have:n*n<=7*7:=Nat.mul_le_mul n7 n7;omega
 have q2:=dF.lens d7 (n2.trans e7)
 obtain⟨b6,i8,j0,k0,q1⟩:=SV.shape d7.sv sl om om
 have p9:=dF.ge d7 (n:=sl) om om j0
 have p1: ∀t,t<sl-> ∃vy,(∀B,Fx (λq=>q=X+8\/D<=q) h5 B->B.cell b6 (i8+t)=some vy)/\PV (λq=>q=X+8\/D<=q) h5 vy (S.getD t []):=λt ht=>by
  obtain⟨v,d,b5⟩:=jI.at e4 (i:=t) om;have hi:=k0 om;have r3:h4.next<=b6:=p9 om;refine⟨v,λB f=>?_,b5.mE λid r2 hw=>p0 id ?_⟩
  .have e:B.get b6=h5.get b6:=f.get b6 hi om
   unfold H.cell;rw[e];have:=q1 t om;rw[d] at this;exact this
  .rcases hw with e|e
   .omega
   .omega
 have J0:OfJ n G L X D vL h5 0 h6:=
  ⟨⟨.aH, [],λq=>q=D\/q=X+8\/q=X+6,by rw[f6.get _ om,f5.get _ om,hm];exact c2,dF.aH _ _ _,trivial,λ_ _ _ _ e=>(by cases e),.inl rfl,.inr (.inl rfl),.inr (.inr rfl),λq h=>by rcases h with h|h|h<;>omega,λq h=>by rcases h with h|h|h<;>omega,.inl rfl⟩,
   by rw[g6,hm,show (λj=>V.bool (Et G L 0 [] j))=λ_=>V.bool false from funext λj=>by rw[WD]],Fx.of f6,om⟩
 refine dG (λvs B=>(∃g:Nat->V,vs= [g 0,.ptr A 0,.nilp,aC 0,vL,g 5,.ptr (X+8) 0,g 7,g 8,g 9,g 10,g 11,g 12,g 13,g 14,g 15,g 16,g 17,g 18,g 19,g 20,g 21,g 22,g 23,g 24,g 25,g 26,g 27,g 28,g 29,g 30,g 31,g 32,g 33,g 34,g 35,g 36,g 37,g 38,g 39,g 40,g 41,g 42,g 43,g 44,g 45])/\OfJ n G L X D vL h5 m B) ?_ ?_
 .refine aP (λk' vs B=> ∃(i:Nat),(∃g:Nat->V,vs= [g 0,.ptr A 0,.nilp,aC 0,vL,g 5,.ptr (X+8) 0,g 7,g 8,vS,.sl D 0 m (.kn m),g 11,g 12,g 13,g 14,g 15,g 16,g 17,g 18,g 19,g 20,g 21,g 22,g 23,g 24,g 25,g 26,vL,aC m,aC i,g 30,g 31,g 32,g 33,g 34,g 35,g 36,g 37,g 38,g 39,g 40,g 41,g 42,g 43,g 44,g 45])/\i<=m/\OfJ n G L X D vL h5 i B/\k'=m-i) m
   ⟨0,aD rfl,fY _,J0,rfl⟩ ?_
  clear J0
  rintro k' K h7 ⟨i,⟨g,rfl⟩,hi,J,rfl⟩
  by_cases a6:(i:Int)<(m:Int)
  case neg=>
   have d4:=bZ a6;obtain rfl:i=m:=om
   refine bM d4 ?_;exact⟨aD rfl,J⟩
  have d4:=cV a6
  have a3:i<m:=om
  have nD:=J.nx
  have b0:Fr h2 h7:=⟨om,λq hq=>by rw[J.old.get q om om];exact f0.get q hq⟩
  obtain⟨vx,cx,sx⟩:=f4 i a3
  have cD:=vD J.gD (i:=i) om
  by_cases hr:HN G L i
  case neg=>
   have e3:Et G L i [] i=true:=by
    rw[mH];exact .inl (zL λhn=>hr λj U hc=>hn ⟨j,U,hc⟩)
   rw[e3] at cD;refine jX d4 @b9.ixa (cx h7 b0) cD ?_;rw[fJ i];refine⟨m-(i+1),om,i+1,aD rfl,om,?_,rfl⟩;refine⟨?_,?_,J.old,J.nx⟩
   .rw[(Ky i).2 hr];exact J.ex
   .rw[J.gD,bW λj _=>by rw[YL hG E (show i<L.length by omega) hr j]]
  have e3:Et G L i [] i=false:=by
   rw[<-Bool.not_eq_true,mH];rintro (⟨j,U,hc⟩|h)
   .exact hr j U hc
   .cases h
  rw[e3] at cD
  obtain⟨h8,e8,n8,g8,o8⟩:=xN h7 D ((rc L.length λj=> .bool (Et G L i [] j)).set i (.bool true))
  obtain⟨Z,hZ⟩:=exI h8.next
  obtain⟨h9,e9,n9,g9,o9,f9⟩:=iI hZ [aC i]
  have pt:=bE (vs:=rc L.length λj=> .bool (Et G L i [] j)) (off:=i) (by rw[dE];omega)
  clear bx gc sO sR rB rA i2 i4 c2 g1 o1 f1 f3 gB gN gM
  simp(disch:=omega)only[go_sem,d4,b9.ixa,cx h7 b0,cD,J.gD,pt,e8,dL h8 (z:= aC 0) (v:= aC i) rfl rfl,hZ,e9]
  have r0:h7.next=Z:=om
  have a8:(rc L.length λj=>V.bool (Et G L i [] j)).set i (.bool true)=rc L.length λj=> .bool (Et G L i [i] j):=by
   rw[iQ]
   exact bW λj _=>by
    rw[show [i]= []++ [i] from rfl,Zg]
    by_cases e:j=i
    .rw[aS e,aS e]
    .rw[aQ e,aQ e]
  have f7:Fx (· =D) h7 h9:=⟨om,λq d h2=>by rw[o9 q om,o8 q h2]⟩
  have B0:BQ G L S i [i] 0:=⟨siM,siM,rfl,λj U=>by
   obtain rfl:j=i:=by simpa using U
   exact⟨om,Da hG E om⟩,λk hk=>om⟩
  refine dG (λvs B=> ∃(Q:List Nat) (q:Nat) (o:qD),(∃g:Nat->V,vs= [g 0,.ptr A 0,.nilp,aC 0,vL,g 5,.ptr (X+8) 0,g 7,g 8,vS,.sl D 0 m (.kn m),aC i,vx,.sl q 0 Q.length o,g 14,g 15,g 16,g 17,g 18,g 19,g 20,g 21,g 22,g 23,g 24,g 25,g 26,vL,aC m,aC i,g 30,g 31,g 32,g 33,g 34,g 35,g 36,g 37,g 38,g 39,g 40,g 41,g 42,g 43,g 44,g 45])/\
    BQ G L S i Q Q.length/\(o= .un 1\/o= .kn Q.length)/\B.get q=some (.cells false (ints (zi Q)))/\Z<=q/\q<B.next/\B.get D=some (.cells false (rc L.length λj=> .bool (Et G L i Q j)))/\Fx (· =D) h7 B) ?_ ?_
  .refine aP (λk' vs B=> ∃(Q:List Nat) (q:Nat) (o:qD) (p:Nat),(∃g:Nat->V,vs= [g 0,.ptr A 0,.nilp,aC 0,vL,g 5,.ptr (X+8) 0,g 7,g 8,vS,.sl D 0 m (.kn m),aC i,vx,.sl q 0 Q.length o,aC p,g 15,g 16,g 17,g 18,g 19,g 20,g 21,g 22,g 23,g 24,g 25,g 26,vL,aC m,aC i,g 30,g 31,g 32,g 33,g 34,g 35,g 36,g 37,g 38,g 39,g 40,g 41,g 42,g 43,g 44,g 45])/\
    p<=Q.length/\BQ G L S i Q p/\(o= .un 1\/o= .kn Q.length)/\B.get q=some (.cells false (ints (zi Q)))/\Z<=q/\q<B.next/\B.get D=some (.cells false (rc L.length λj=> .bool (Et G L i Q j)))/\Fx (· =D) h7 B/\k'=m-p) m
    ⟨[i],Z,_,0,aD rfl,fY _,B0,.inr rfl,g9,dN _,om,by rw[o9 _ om,g8,a8],f7,rfl⟩ ?_
   clear f7 B0 e8 n8 g8 o8 hZ e9 n9 g9 o9 f9 pt a8
   rintro k' K ha ⟨Q,q,o,p,⟨g2,rfl⟩,hp,l,F,gq,hq,nq,gD,Fa,rfl⟩
   have a5:=l.len
   by_cases c0:(p:Int)<(Q.length:Int)
   case neg=>
    have d5:=bZ c0;obtain rfl:p=Q.length:=om
    refine bM d5 ?_;exact⟨Q,q,o,aD rfl,l,F,gq,hq,nq,gD,Fa⟩
   have d5:=cV c0
   have N:p<Q.length:=om
   refine eZ d5 q2 ?_
   obtain⟨c,hc⟩:=exI (Q.getD p 0)
   obtain⟨i9,m8⟩:=l.mem c (by rw[<-hc];exact bF N)
   have Cp:=jZ hG E i9
   refine Bu (λvs B=> ∃(Q:List Nat) (q:Nat) (o:qD),(∃g:Nat->V,vs= [g 0,.ptr A 0,.nilp,aC 0,vL,g 5,.ptr (X+8) 0,g 7,g 8,vS,.sl D 0 m (.kn m),aC i,vx,.sl q 0 Q.length o,aC p,g 15,g 16,g 17,g 18,g 19,g 20,g 21,g 22,g 23,g 24,g 25,g 26,vL,aC m,aC i,g 30,g 31,g 32,g 33,g 34,g 35,g 36,g 37,g 38,g 39,g 40,g 41,g 42,g 43,g 44,g 45])/\
     p<Q.length/\BQ G L S i Q (p+1)/\(o= .un 1\/o= .kn Q.length)/\B.get q=some (.cells false (ints (zi Q)))/\Z<=q/\q<B.next/\B.get D=some (.cells false (rc L.length λj=> .bool (Et G L i Q j)))/\Fx (· =D) h7 B) ?_ ?_
   .refine aP (λk' vs B=> ∃(Q:List Nat) (q:Nat) (o:qD) (t:Nat),(∃g:Nat->V,vs= [g 0,.ptr A 0,.nilp,aC 0,vL,g 5,.ptr (X+8) 0,g 7,g 8,vS,.sl D 0 m (.kn m),aC i,vx,.sl q 0 Q.length o,aC p,g 15,g 16,g 17,g 18,g 19,g 20,g 21,g 22,g 23,g 24,g 25,g 26,vL,aC m,aC i,g 30,g 31,g 32,vS,aC sl,aC t,g 36,g 37,g 38,g 39,g 40,g 41,g 42,g 43,g 44,g 45])/\
     p<Q.length/\t<=sl/\BQ G L S i Q p/\Q.getD p 0=c/\(∀s∈S.take t,∃j∈Q,L.getD j []=bL (L.getD c []) s)/\(o= .un 1\/o= .kn Q.length)/\B.get q=some (.cells false (ints (zi Q)))/\Z<=q/\q<B.next/\B.get D=some (.cells false (rc L.length λj=> .bool (Et G L i Q j)))/\Fx (· =D) h7 B/\k'=sl-t) sl
     ⟨Q,q,o,0,aD rfl,N,fY _,l,hc,λs hs=>(by simp at hs),F,gq,hq,nq,gD,Fa,rfl⟩ ?_
    clear l F gq hq nq gD Fa hc N a5 c0 d5 hp
    clear Q q o
    rintro k' K hb ⟨Q,q,o,t,⟨g3,rfl⟩,N,ht,l,hc,g0,F,gq,hq,nq,gD,Fb,rfl⟩
    by_cases j1:(t:Int)<(sl:Int)
    case neg=>
     have d5:=bZ j1;obtain rfl:t=sl:=om
     refine bM d5 ?_;refine⟨Q,q,o,aD rfl,N,⟨l.nd,l.ne,l.hd,l.mem,λk hk s hs=>?_⟩,F,gq,hq,nq,gD,Fb⟩
     by_cases e:k=p
     .subst e
      rw[hc];exact g0 s (by rw[<-e7,List.take_length];exact hs)
     .exact l.cl k om s hs
    have d5:=cV j1
    have o3:t<sl:=om
    have a5:=l.len
    have nb:=Fb.next
    have d9:Fx (λq=>q=X+8\/D<=q) h5 hb:=⟨by have:=J.old.next;omega,λq d h2=>by rw[Fb.get q om (λe=>h2 (.inr (by have:q=D:=e;omega)))];exact J.old.get q d h2⟩
    have c1:Fr h2 hb:=⟨om,λq hq=>by rw[Fb.get q om (λe=>by have:q=D:=e;omega)];exact b0.get q hq⟩
    obtain⟨vy,cy,py⟩:=p1 t o3
    obtain⟨vz,cz,sz⟩:=f4 c om
    obtain⟨s,hs⟩:=exI (S.getD t [])
    rw[hs] at py
    have c6:s∈S:=by rw[<-hs];exact bF om
    have Sp:=hG.cF (a2 s c6)
    have cq:hb.cell q p=some (aC c):=by rw[H.cell_of gq,Ax N,hc]
    refine wE d5 @j0.ixa (cy hb d9) cq @b9.ixa (cz hb c1) ?_
    refine (IM sF.ok vy n s _ om Sp ((py.fx d9).si.mono ((Fr.refl hb).cU om))).mono ?_
    rintro m4 k1 i3
    have K1:Fr hb k1:=((Fr.refl hb).cU om).trans i3.fr
    have l6:k1.cell q p=some (aC c):=by rw[K1.cell nq];exact cq
    have ez:=sz.dS
    refine iG l6 (cz k1 (c1.trans K1)) ez ?_
    refine (yB m4 vz (bY s) (L.getD c []) k1 (by rw[iX,Sp.len];omega) (i3.pv (W:=λ_=>False) id).si (sz.mono (c1.trans K1)) (λj U=>by rw[Cp.len];exact Sp.inv.eJ (by rw[<-Sp.inv.len];exact U))).mono ?_
    rintro m1 k2 j6
    have K2:=K1.trans j6.fr
    have P2:=Sp.inv.mul Cp
    refine aT ?_
    refine (yB m1 vy _ s k2 (by rw[P2.len];omega) (j6.pv (W:=λ_=>False) id).si ((py.fx d9).si.mono K2) (λj U=>by rw[Sp.len];exact P2.eJ (by rw[<-P2.len];exact U))).mono ?_
    rintro m0 k3 j9
    have K3:=K2.trans j9.fr
    have P3:=P2.mul Sp
    have o0:k3.cell q p=some (aC c):=by rw[K3.cell nq];exact cq
    have d1:=(j9.pv (W:=λ_=>False) id).si
    have r4:=d1.cT.2.1
    have d6: ∃vK,k3.get (X+8)=some (.cells false [vL,.mp (X+3),vK,.sl (X+6) 0 L.length (.kn L.length)]):=by
     obtain⟨vK,_,_,gB,_⟩:=J.ex;exact⟨vK,by rw[K3.get _ om,Fb.get _ om (λe=>by have:X+8=D:=e;omega)];exact gB⟩
    obtain⟨vK,d6⟩:=d6
    have i6:k3.cell (X+8) 1=some (.mp (X+3)):=by rw[H.cell_of d6];rfl
    obtain⟨j,U,ej⟩: ∃j,j<L.length/\L.getD j []=bL (L.getD c []) s:=by
     have p4:bL (L.getD c []) s∈L:=(E.mem _).2 (hG.mul (hG.mul (hG.inv (a2 s c6)) (pX E i9)) (a2 s c6));obtain⟨j,U,ej⟩:=Bj.1 p4;exact⟨j,U,by rw[List.getD,dJ U,<-ej];rfl⟩
    have p8:aZ (aZ (bY s) (L.getD c [])) s=L.getD j []:=ej.symm
    rw[p8] at d1
    refine jX o0 (cz k3 (c1.trans K3)) i6 ez ?_
    refine (Tj m0 (L.getD j []) _ (a0 j om).1 (a0 j om).2 (d1.mono ((Fr.refl k3).cU om))).mono ?_
    rintro _ k4 ⟨rfl,l7⟩
    have k8:Fr k3 k4:=((Fr.refl k3).cU om).trans l7
    have K4:=K3.trans k8
    have r6:=K3.next
    have d0:k4.get (X+3)=some (.wmap .str (Vk L L.length)):=by
     rw[K4.get _ om,Fb.get _ om (λe=>by have:X+3=D:=e;omega),J.old.get _ om om,f5.get _ om,hm];exact b4
    have i1:k4.cell (X+8) 1=some (.mp (X+3)):=by rw[k8.cell om];exact i6
    have lk:=λz=>Wr E.nodup U (hK j om) z
    have c4:k4.cell D j=some (.bool (Et G L i Q j)):=by rw[K4.cell om];exact vD gD U
    have i5:cR G L i j:=pI hG E om m8 ⟨s,a2 s c6,ej.symm⟩
    have j3:S.take (t+1)=S.take t++ [s]:=by rw[iW [] om,hs]
    have l0:k4.get q=some (.cells false (ints (zi Q))):=by rw[K4.get _ nq];exact gq
    have i7:k4.get D=some (.cells false (rc L.length λj=> .bool (Et G L i Q j))):=by rw[K4.get _ om];exact gD
    have j2:Fx (· =D) h7 k4:=⟨by have:=K4.next;omega,λq d h2=>by rw[K4.get q om];exact Fb.get q d h2⟩
    cases hsn2:Et G L i Q j with
    |true=>
     rw[hsn2] at c4
     have d3:j∈Q:=by
      rcases mH.1 hsn2 with ⟨i0,d,b5⟩|d
      .exact absurd (pI hG E om b5 (Cg hG E om i5)) (hr i0 d)
      .exact d
     refine jX i1 d0 lk c4 ?_;rw[fJ t];refine⟨by simp [dS],sl-(t+1),om,Q,q,o,t+1,aD rfl,N,om,l,hc,?_,F,l0,hq,by have:=K4.next;omega,i7,j2,rfl⟩;rw[j3];intro s' a9;rcases Es.1 a9 with d|d
     .exact g0 s' d
     .obtain rfl:s'=s:=by simpa using d
      exact⟨j,d3,ej⟩
    |false=>
     rw[hsn2] at c4;have d3:j∉Q:=λd=>by rw[mH.2 (.inr d)] at hsn2;cases hsn2
     obtain⟨k5,e5,m5,g5,o5⟩:=xN k4 D ((rc L.length λj=> .bool (Et G L i Q j)).set j (.bool true));obtain⟨Y,hY⟩:=exI k5.next;obtain⟨k6,m2,m6,l9,d8,q5⟩:=iI hY [aC j];have pt:=bE (vs:=rc L.length λj=> .bool (Et G L i Q j)) (off:=j) (by rw[dE];exact U);have nk:=K4.next;have l8:k6.get q=some (.cells false (ints (zi Q))):=by rw[d8 _ om,o5 _ om];exact l0
     have o2:dF k6 (.sl q 0 Q.length o) 1 (ints (zi Q)) 0:= .inr ⟨q,Q.length,o, [],rfl,by rw[aE,bD];simp,by rcases F with d|d;exact .inl d;exact .inr ⟨d,rfl⟩,fY _,om,by rw[qH];exact l8⟩;obtain⟨k7,a7,p7⟩:=o2.push (bytes:=8) (SV.one (v:= aC j) (id:=Y) om l9 (.kn 1)) (n:=Q.length) (m:=1) (by rw[aE,bD];simp) rfl om om om;simp(disch:=omega)only[go_sem,i1,d0,lk,c4,i7,pt,e5,dL k5 (z:= aC 0) (v:= aC j) rfl rfl,hY,m2,a7];rw[fJ t];have el:ints (zi (Q++ [j]))=ints (zi Q)++ [aC j]:=by simp [zi,ints]
     have m7:=p7.next;have p2:cW (.sl q 0 Q.length o) D:=λid off n c e e2=>by cases e;omega
     have a8:(rc L.length λj'=>V.bool (Et G L i Q j')).set j (.bool true)=rc L.length λj'=> .bool (Et G L i (Q++ [j]) j'):=by
      rw[iQ]
      exact bW λj' _=>by
       rw[Zg]
       by_cases e:j'=j
       .rw[aS e,aS e]
       .rw[aQ e,aQ e]
     refine⟨by simp [dS],sl-(t+1),om,Q++ [j],k6.next,.un 1,t+1,by rw[eE];exact aD rfl,by rw[eE];omega,om,⟨?_,by rw[eE];simp,?_,?_,?_⟩,?_,?_,.inl rfl,by rw[el];exact p7.get,om,om,?_,?_,rfl⟩
     .rw[List.nodup_append]
      exact⟨l.nd,siM,λx hx y hy e=>by
       obtain rfl:y=j:=by simpa using hy
       exact d3 (e▸hx)⟩
     .rw[List.getD,Aw l.ne];exact l.hd
     .intro x hx
      rcases Es.1 hx with d|d
      .exact l.mem x d
      .obtain rfl:x=j:=by simpa using d
       exact⟨U,i5⟩
     .intro k hk s' a9
      obtain⟨y,hy,ey⟩:=l.cl k hk s' a9;refine⟨y,Es.2 (.inl hy),?_⟩;rw[ey,List.getD,List.getD,List.getD,List.getD,Aw om]
     .rw[List.getD,Aw N];exact hc
     .rw[j3]
      intro s' a9;rcases Es.1 a9 with d|d
      .obtain⟨y,hy,ey⟩:=g0 s' d
       exact⟨y,Es.2 (.inl hy),ey⟩
      .obtain rfl:s'=s:=by simpa using d
       exact⟨j,Es.2 (.inr siM),ej⟩
     .rw[p7.old D om p2,d8 D om,g5,a8]
     .refine⟨om,λx d h2=>?_⟩
      rw[p7.old x om (λid off n c e e2=>by cases e;omega),d8 x om,o5 x h2];exact j2.get x d h2
   clear l F gq hq nq gD Fa hc c0 d5 hp N a5
   clear Q q o
   rintro K hb ⟨Q,q,o,⟨g3,rfl⟩,N,a4,F,gq,hq,nq,gD,Fb⟩
   have a5:=a4.len
   refine aT ?_
   rw[fJ p]
   exact⟨m-(p+1),om,Q,q,o,p+1,aD rfl,om,a4,F,gq,hq,nq,gD,Fb,rfl⟩
  clear f7 B0 e8 n8 g8 o8 hZ e9 n9 g9 o9 f9 pt a8
  rintro K hb ⟨Q,q,o,⟨g3,rfl⟩,a4,F,gq,hq,nq,gD,Fb⟩
  have a5:=a4.len
  have nb:=Fb.next
  have Pn:=Tx hb q (zi Q) o (by rw[bD];omega) gq nq
  rw[bD] at Pn
  refine aT ?_
  refine Pn.mono ?_
  rintro _ ka ⟨l',gl,pl,al,Fa⟩
  obtain rfl:=a4.sort hG E (dN _) om a2 b7 pl al
  have l2:Q.length=(iK G L i).length:=by have:=pl.length_eq;rw[bD,bD] at this;exact this.symm
  have na:=Fa.next
  have p3:Fr h2 ka:=⟨om,λx hx=>by rw[Fa.get x om (λe=>by have:x=q:=e;omega),Fb.get x om (λe=>by have:x=D:=e;omega)];exact b0.get x hx⟩
  have X1:=jZ hG E (show i<L.length by omega)
  refine aT ?_
  refine (PI vx n (L.getD i []) ka n0 n7 X1 (sx.mono p3)).mono ?_
  rintro _ kb ⟨rfl,fb⟩
  have q4:=fb.next
  obtain⟨vK,ks,WK,gB,b8,aK,bK,wD,wB,wN,wn,wX,_⟩:=J.ex
  have q6:=bH.length aK
  have h0:kb.get (X+8)=some (.cells false [vL,.mp (X+3),vK,.sl (X+6) 0 L.length (.kn L.length)]):=by
   rw[fb.get _ om,Fa.get _ om (λe=>by have:X+8=q:=e;omega),Fb.get _ om (λe=>by have:X+8=D:=e;omega)];exact gB
  have c8:kb.cell (X+8) 2=some vK:=by rw[H.cell_of h0];rfl
  have b2:=sx.cT.2.1
  have r5:=b8.sv.dS
  obtain⟨Y,hY⟩:=exI kb.next
  obtain⟨kc,ec,mc,p6,oc,fc⟩:=iI hY [vx,aC (fC (L.getD i []) n:Nat),aC (Q.length:Int),.sl q 0 Q.length o]
  have b3: ∀x,x<Z->x≠D->kc.get x=h7.get x:=λx d h2=>by
   rw[oc x om,fb.get x om,Fa.get x om (λe=>by have:x=q:=e;omega),Fb.get x om h2]
  have l3:dF kc vK 4 (Cls.nT ks) (D+1):=b8.mono om λid off n' c e d h2=>b3 id om om
  have lr:=tU (G:=G) (L:=L) i
  obtain⟨kd,ad,pd⟩:=l3.push (bytes:=64) (y:= .sl Y 0 1 (.kn 1)) (us:= [vx,aC (fC (L.getD i []) n:Nat),aC (Q.length:Int),.sl q 0 Q.length o]) (SV.all rfl om p6 _) (n:=ks.length) (m:=1) (Od ks) rfl om om om
  have md:=pd.next
  have m9:cW vK (X+8):=λid off n' c e e2=>by have:=(b8.in _ _ _ _ e).2.1;omega
  have o7:kd.get (X+8)=some (.cells false [vL,.mp (X+3),vK,.sl (X+6) 0 L.length (.kn L.length)]):=by
   rw[pd.old _ om m9,oc _ om];exact h0
  obtain⟨ke,ee,me,ge,oe⟩:=xN kd (X+8) [vL,.mp (X+3),.sl kc.next 0 (ks.length+1) (.un 4),.sl (X+6) 0 L.length (.kn L.length)]
  simp(disch:=omega)only[go_sem,c8,MN sx.cT.1 b2,JZ b2 (w:= .sl q 0 Q.length o) rfl rfl,NO b2 (w:= .sl q 0 Q.length o) rfl,hY,ec,ad,o7,JW,ee]
  rw[fJ i]
  have j7: ∀x,x<Z-> ¬WK x->ke.get x=h7.get x:=λx d h2=>by
   rw[oe x (λe=>h2 (e▸wB)),pd.old x om (λid off n' c e e2=>h2 (e2▸bK _ _ _ _ e)),b3 x d (λe=>h2 (e▸wD))]
  have FK:Fx WK h7 ke:=⟨om,λx d h2=>j7 x om h2⟩
  have p5:Fr h2 ke:=⟨om,λx hx=>by rw[j7 x om (λd=>by have:=wX x d;omega)];exact b0.get x hx⟩
  have g7:Cls.nT (ks++ [⟨vx,fC (L.getD i []) n,Q.length,.sl q 0 Q.length o,i,⟨sx.cT.1,b2,sx.dS⟩,⟨rfl,rfl,by simp [dS]⟩⟩])=Cls.nT ks++ [vx,aC (fC (L.getD i []) n:Nat),aC (Q.length:Int),.sl q 0 Q.length o]:=by
   simp [Cls.nT,Cls.KE.enc]
  refine⟨m-(i+1),om,i+1,aD rfl,om,⟨⟨_,ks++ [⟨vx,fC (L.getD i []) n,Q.length,.sl q 0 Q.length o,i,⟨sx.cT.1,b2,sx.dS⟩,⟨rfl,rfl,by simp [dS]⟩⟩],λx=>WK x\/x=kc.next,ge,?_,?_,λid off n' c e=>by cases e;exact .inr rfl,   .inl wD,.inl wB,.inl wN,λx h=>by rcases h with h|h;have:=wn x h;omega;omega,λx h=>by rcases h with h|h;exact wX x h;omega,.inr ⟨_,_,by rw[eE];rfl,?_⟩⟩,?_,?_,om⟩,rfl⟩
  .rw[g7]
   exact (pd.own (b:=D+1) (Od ks) rfl om).mono om λid off n' c e d h2=>by cases e;exact oe _ om
  .rw[(Ky i).1 hr]
   refine bH.append (aK.mono λa r k=>k.go FK om wX λx d h2=>by rcases h2 with h2|h2;exact h2;omega) ⟨⟨rfl,rfl,l2,⟨sx.mono p5,?_⟩,⟨?_,?_⟩⟩,trivial⟩
   .rw[<-hX];exact aiZ sx
   .rw[l2]
    refine SV.all (ro:=false) (by rw[aE,bD,jP]) om ?_ _
    rw[oe q om,pd.old q om (λid off n' c e e2=>by have:=wn _ (bK _ _ _ _ e);omega),oc q om,fb.get q om]
    exact gl
   .exact λh=>by rcases h with h|h;have:=wn _ h;omega;omega
  .rw[g7,oe _ om];exact pd.get
  .rw[oe D om,pd.old D om (λid off n' c e e2=>by have:=(b8.in _ _ _ _ e).2.1;omega),oc D om,fb.get D om,Fa.get D om (λe=>by have:D=q:=e;omega),gD,bW λj U=>by rw[XK hG E (show i<L.length by omega) a4 a2 b7 U]]
  .refine⟨by have:=J.old.next;omega,λx d h2=>?_⟩
   have m3:x≠X+8:=λe=>h2 (.inl e)
   have q7:x<D:=om
   rw[oe x m3,pd.old x om (λid off n' c e e2=>by have:=(b8.in _ _ _ _ e).2.1;omega),b3 x om om]
   exact J.old.get x d h2
 rintro K h7 ⟨⟨g,rfl⟩,J⟩
 exact hk L X D vL h2 h5 h7 A g hL ⟨E,om,f1.trans f2,hX,nw.sp,f0,om,hD,by rw[f5.get _ om,hm];exact b4,by rw[f5.get _ om,hm];exact i4,by rw[hm];exact J⟩
end
open Classical in
noncomputable def jJ (G:List Nat->Prop)(L:LN)(K:List Nat)(j:Nat):Nat:=K.findIdx λr=>decide (cR G L r j)
structure KR (n:Nat)(G:List Nat->Prop)(L:LN)(hh:H)(a:Cls.KE)(r:Nat):Prop where
 fst:a.fst=r
 ord:a.ord=fC (L.getD r []) n
 size:a.size=(iK G L r).length
 rep:SI hh a.rep (zi (L.getD r []))
 ranks:SI hh a.ranks (zi (iK G L r))
theorem KR.mono {n:Nat}{G:List Nat->Prop}{L:LN}{h h':H}{a:Cls.KE}{r:Nat}(k:KR n G L h a r)(f:Fr h h'):KR n G L h' a r:=⟨k.fst,k.ord,k.size,k.rep.mono f,k.ranks.mono f⟩
def IH (n:Nat)(G:List Nat->Prop)(L:LN)(r s:Nat):Prop:=fC (L.getD r []) n<fC (L.getD s []) n\/fC (L.getD r []) n=fC (L.getD s []) n/\((iK G L r).length<(iK G L s).length\/(iK G L r).length=(iK G L s).length/\r<s)
structure vU (n:Nat)(G:List Nat->Prop)(L:LN)(K:List Nat):Prop where
 perm:K.Perm (eK G L L.length)
 asc:K.Pairwise (IH n G L)
structure UH (n:Nat)(G:List Nat->Prop)(L:LN)(K:List Nat)(hh:H)(v:V):Prop where
 ex: ∃B M N S cp vL ks,v= .ptr B 0/\B<hh.next/\M<hh.next/\N<hh.next/\S<hh.next/\hh.get B=some (.cells false [vL,.mp M,.sl S 0 K.length cp,.sl N 0 L.length (.kn L.length)])/\
  hh.get M=some (.wmap .str (Vk L L.length))/\hh.get N=some (.cells false (rc L.length λj=> aC (jJ G L K j:Nat)))/\hh.get S=some (.cells false (Cls.nT ks))/\bH (KR n G L hh) ks K/\SP hh vL L
theorem UH.mono {n:Nat}{G:List Nat->Prop}{L:LN}{K:List Nat}{h h':H}{v:V}(g:UH n G L K h v)(f:Fr h h'):UH n G L K h' v:=by
 obtain⟨B,M,N,S,m,i,j,e,q,c,r,l,o,s,b,d,a,sp⟩:=g.ex;have t:=f.next;exact⟨B,M,N,S,m,i,j,e,om,om,om,om,by rw[f.get _ q];exact o,by rw[f.get _ c];exact s,by rw[f.get _ r];exact b,by rw[f.get _ l];exact d,a.mono λ_ _ k=>k.mono f,sp.mono f⟩
section
variable {n:Nat} {G:List Nat->Prop} {L:LN} {K:List Nat} (hG:oK n G) (E:fW G L)
include hG E
omit hG E in
theorem Ku (a:0<L.length):0∈eK G L L.length:=mL.2 ⟨a,λj b=>om⟩
theorem Ir (o:K.Perm (eK G L L.length)){k:Nat}(a:k<K.length){j:Nat}(t:j∈iK G L (K.getD k 0)):jJ G L K j=k:=by
 classical
 obtain⟨s,f⟩:=jM.1 t;have d:K.Nodup:=o.nodup_iff.2 (by unfold eK;exact List.Pairwise.filter _ List.nodup_range);have l: ∀r∈K,r<L.length/\HN G L r:=λr u=>mL.1 (o.mem_iff.1 u)
 unfold jJ;rw[List.findIdx_eq a];have q:K.getD k 0=K[k]:=Pm.cM a;rw[q] at f;refine⟨by simpa using f,λi hi=>?_⟩;simp only[decide_eq_false_iff_not];intro c;have m:=l K[i] (Hn _);have h:=l K[k] (Hn _);have:=PH hG E m.1 h.1 m.2 h.2 c f;have b:=Iz.1 d i k om a hi;exact b this
theorem Fy (i:K.Perm (eK G L L.length)){j:Nat}(b:j<L.length): ∃k,k<K.length/\j∈iK G L (K.getD k 0):=by
 obtain⟨r,l,d,h⟩:=agJ hG E b;have f:r∈K:=i.mem_iff.2 (mL.2 ⟨om,d⟩);obtain⟨k,a,c⟩:=Bj.1 f;exact⟨k,a,jM.2 ⟨b,by rw[Pm.cM a,c];exact h⟩⟩
end
open Classical in
noncomputable def Nn (G:List Nat->Prop)(L:LN)(K:List Nat)(k t j:Nat):Nat:=if (∃k0,k0<k/\j∈iK G L (K.getD k0 0))\/j∈(iK G L (K.getD k 0)).take t then jJ G L K j else 0
theorem RS (G:List Nat->Prop)(L:LN)(K:List Nat)(j:Nat):Nn G L K 0 0 j=0:=by
 classical
 unfold Nn;rw[aQ];rintro (⟨a,h,_⟩|h)
 .omega
 .simp at h
theorem SQ (G:List Nat->Prop)(L:LN)(K:List Nat)(k j:Nat):Nn G L K k (iK G L (K.getD k 0)).length j=Nn G L K (k+1) 0 j:=by
 classical
 unfold Nn;rw[List.take_length,List.take_zero]
 have e:((∃a,a<k/\j∈iK G L (K.getD a 0))\/j∈iK G L (K.getD k 0))↔((∃a,a<k+1/\j∈iK G L (K.getD a 0))\/j∈([]:List Nat)):=by
  constructor
  .rintro (⟨a,c,b⟩|h)
   .exact .inl ⟨a,om,b⟩
   .exact .inl ⟨k,om,h⟩
  .rintro (⟨a,c,b⟩|h)
   .by_cases e:a=k
    .subst e;exact .inr b
    .exact .inl ⟨a,om,b⟩
   .cases h
 by_cases h:((∃a,a<k/\j∈iK G L (K.getD a 0))\/j∈iK G L (K.getD k 0))
 .rw[aS h,aS (e.1 h)]
 .rw[aQ h,aQ (λx=>h (e.2 x))]
theorem QH {n:Nat}{G:List Nat->Prop}{L:LN}{K:List Nat}(hG:oK n G)(E:fW G L)(d:K.Perm (eK G L L.length)){k:Nat}(b:k<K.length){t:Nat}(a:t<(iK G L (K.getD k 0)).length)(j:Nat):
  Nn G L K k (t+1) j=if j=(iK G L (K.getD k 0)).getD t 0 then k else Nn G L K k t j:=by
 classical
 by_cases e:j=(iK G L (K.getD k 0)).getD t 0
 .rw[aS e]
  have c:j∈iK G L (K.getD k 0):=by rw[e];exact bF a
  unfold Nn
  rw[aS (.inr (by rw[iW 0 a,e];simp))]
  exact Ir hG E d b c
 .rw[aQ e]
  unfold Nn
  rw[iW 0 a]
  simp only[Es,List.mem_singleton,e,or_false]
theorem TC {n:Nat}{G:List Nat->Prop}{L:LN}{K:List Nat}(hG:oK n G)(E:fW G L)(d:K.Perm (eK G L L.length)){j:Nat}(a:j<L.length):Nn G L K K.length 0 j=jJ G L K j:=by
 classical
 obtain⟨k,c,b⟩:=Fy hG E d a;unfold Nn;rw[aS (.inl ⟨k,c,b⟩)]
theorem tQ {h:H}{S:Nat}{ro:Bool}:{ks:List Cls.KE}->{pre:List V}->h.get S=some (.cells ro (pre++Cls.nT ks))-> ∀{i:Nat} (hi:i<ks.length),h.row S (pre.length+i*4) 4=some ks[i].enc
 | [],_,_,_,hi=>by simp at hi
 |a::r,pre,g,0,_=>by
  unfold H.row;rw[g];show sub (pre++(a.enc++Cls.nT r)) (pre.length+0*4) 4=some a.enc;simp only[sub,Nat.zero_mul,Nat.add_zero];have:a.enc.length=4:=rfl;rw[aS (by rw[eE,eE];omega),List.drop_left,List.take_append,Nb om,this];simp
 |a::r,pre,g,i+1,hi=>by
  have b:h.get S=some (.cells ro ((pre++a.enc)++Cls.nT r)):=by rw[g,AA];rfl
  have:=tQ b (i:=i) (by simpa using hi);rw[eE,show a.enc.length=4 from rfl] at this;rw[show pre.length+(i+1)*4=pre.length+4+i*4 by omega];simpa using this
theorem Ru (h:H)(id off:Nat)(a:Cls.KE):HO h 4 (.ptr id off) (.agg a.enc)=dY (h.get id) h id off a.enc:=yX h id off 4 _ rfl (by simp [Cls.KE.enc,a.hrep.2.1,a.hranks.2.1,show (aC (a.ord:Int)).one=true from rfl,show (aC (a.size:Int)).one=true from rfl])
theorem Tq (b:H)(id:Nat)(a:Cls.KE)(x y z w:V):dY (some (.cells false [x,y,z,w])) b id 0 a.enc=some (b.set id (some (.cells false a.enc))):=by
 simp [dY,putAt,Cls.KE.enc]
theorem bH.ex {α β:Type}{R:α->β->Prop}{d:List α}{c:List β}(h:bH R d c){a:α}(f:a∈d): ∃b∈c,R a b:=by
 obtain⟨i,hi,rfl⟩:=Bj.1 f;have j:=bH.length h;exact⟨c[i]'om,Hn _,bH.get h i hi om⟩
theorem SI.lit {h:H}{v:V}{l:List Int}(s:SI h v l)(t:0<l.length): ∃id off m cap,v= .sl id off (m+1) cap/\m+1=l.length/\id<h.next/\ ∀i,i<l.length->h.cell id (off+i)=some (aC (l.getD i 0)):=by
 obtain⟨id,off,k,q,r⟩:=s.open;rcases s with ⟨_,f⟩|⟨b,a,len,cap,u,w,e,d,j,_⟩
 .have:l.length=0:=by rw[<-aE,f];rfl
  omega
 .rw[aE,jP] at d
  have c:=k.ixa .i64 0 om om;subst e;rw[lJ om om] at c;simp only[Option.some.injEq,V.ptr.injEq] at c;obtain⟨rfl,x⟩:=c;have o:a=off:=om
  subst o;exact⟨b,a,l.length- 1,cap,by rw[show l.length- 1+1=len by omega],om,j,r⟩
theorem GM {W0:Nat->Prop}(vc:V)(n:Nat)(O:LN)(R:nZ)(G:List Nat->Prop)(h:H)(gc:GC W0 h vc n O R G)(b4:(eK G (cK O R n 0 (bI n)) (cK O R n 0 (bI n)).length).length<=12):
  Ev T 42 [vc] h (λv h'=> ∃p K,v= .tup [p,aC 0]/\UH n G (cK O R n 0 (bI n)) K h' p/\vU n G (cK O R n 0 (bI n)) K/\Fr h h'):=by
 refine ZH vc n O R G h gc _ λL X D vL s h5 N A g hL e=>?_
 rw[hL]
 have hG:=gc.kT
 have E:=e.el
 obtain⟨vK,J,WK,gB,e6,aK,bK,wD,wB,wN,wn,wX,xK⟩:=e.j.ex
 have a0:=bH.length aK
 obtain⟨m,hm⟩:=exI L.length
 have h0:0<L.length:=PC ((E.mem _).2 hG.one)
 have d3:0<J.length:=by rw[a0];exact PC (Ku h0)
 obtain⟨S,cp,rfl,gS⟩: ∃id a4,vK= .sl id 0 J.length a4/\N.get id=some (.cells false (Cls.nT J)):=by
  rcases xK with l|l
  .subst l;simp at d3
  .exact l
 have wS:=bK _ _ _ _ rfl
 have nS:=wn _ wS
 have e9:N.cell (X+8) 2=some (.sl S 0 J.length cp):=by rw[H.cell_of gB];rfl
 show Wp T none (Rl 2 kZ.fn.body) _ N _
 simp(disch:=omega)only[go_sem,Rl,SK,kZ,e9]
 have hR: ∀r∈eK G L L.length,r<L.length/\HN G L r:=λr P=>mL.1 P
 have d1: ∀a∈J,a.Pp N N.next S:=λa Z=>by
  obtain⟨r,P,k⟩:=bH.ex aK Z;obtain⟨a3,a2⟩:=hR r P;obtain⟨l1,l2⟩:=Oa hG E a3 a2;obtain⟨id,off,m',a4,e1,e2,e3,e4⟩:=SI.lit k.ranks.si (by rw[bD];exact l1);have ho:=k.ranks.off;rw[e1] at ho;refine⟨id,off,m',a4,e1,e3,λl=>ho (l▸wS),?_⟩;have:=e4 0 (by rw[bD];exact l1);rw[Nat.add_zero] at this;rw[this,zi,mZ _ (d:=0) l1,l2,k.fst]
 refine (Cls.PX N S N.next J cp (by rw[a0];rw[hL] at b4;exact b4) gS nS (dN _) d1).mono ?_
 rintro _ y ⟨o,b2,pm,Pn,F8⟩
 obtain⟨K,hK⟩:=exI (o.map (λa:Cls.KE=>a.fst))
 have W:K.length=J.length:=by rw[<-hK,dO];exact pm.length_eq
 have c2:J.map (λa:Cls.KE=>a.fst)=eK G L L.length:=by
  refine List.ext_getElem (by rw[dO];exact a0) λi l s=>?_
  rw[List.getElem_map];exact (bH.get aK i (by simpa using l) s).fst
 have pK:K.Perm (eK G L L.length):=by rw[<-hK,<-c2];exact pm.map _
 have kK: ∀a∈o,KO n G L X WK N a a.fst:=λa Z=>by
  obtain⟨r,P,k⟩:=bH.ex aK (pm.mem_iff.1 Z);rw[k.fst];exact k
 have FK:Fx WK N y:=⟨F8.next,λq l s=>F8.get q l λh3=>s (by have:q=S:=h3;rw[this];exact wS)⟩
 have d6: ∀a∈o,KO n G L X WK y a a.fst:=λa Z=>(kK a Z).go FK (by have:=wX S wS;omega) wX λ_ _ l=>l
 have f1:=(e6.in _ _ _ _ rfl).2.1
 have xD:=e.xD
 have n8:=F8.next
 have U:y.get (X+8)=some (.cells false [vL,.mp (X+3),.sl S 0 J.length cp,.sl (X+6) 0 L.length (.kn L.length)]):=by
  rw[F8.get _ (wn _ wB) (λl=>by have:X+8=S:=l;omega)];exact gB
 have b6:y.cell (X+8) 2=some (.sl S 0 J.length cp):=by rw[H.cell_of U];rfl
 have e8:N.get (X+6)=some (.cells false (rc L.length λ_=> aC 0)):=by
  rw[e.j.old.get _ (by rw[e.n5];omega) om];exact e.gN
 have c3:y.get (X+6)=some (.cells false (rc L.length λj=> aC (Nn G L K 0 0 j:Nat))):=by
  rw[F8.get _ (wn _ wN) (λl=>by have:X+6=S:=l;omega),e8,show (λj=>aC (Nn G L K 0 0 j:Nat))=λ_=>aC 0 from funext λj=>by rw[RS];rfl]
 have b9: ∀k,k<K.length-> ∃a,o[k]? =some a/\KO n G L X WK y a (K.getD k 0):=λk hk=>by
  have w:k<o.length:=by rw[pm.length_eq,<-W];exact hk
  refine⟨o[k],dJ w,?_⟩;have:=d6 _ (Hn w);have e2:K.getD k 0=(o[k]).fst:=by rw[Pm.cM hk];subst hK;rw[List.getElem_map]
  rw[e2];exact this
 have le:=e.le
 have f0:K.length<=L.length:=by rw[W,a0];exact tU _
 have nN:=wn _ wN
 rw[<-W] at b6 U
 refine bM b6 ?_
 refine dG (λvs u=>(∃g:Nat->V,vs= [g 0,g 1,.nilp,aC 0,g 4,g 5,.ptr (X+8) 0,g 7,g 8,g 9,g 10,g 11,g 12,g 13,g 14,g 15,g 16,g 17,g 18,g 19,g 20,g 21,g 22,g 23,g 24,g 25,g 26,g 27,g 28,g 29,g 30,g 31,g 32,g 33,g 34,g 35,g 36,g 37,g 38,g 39,g 40,g 41,g 42,g 43,g 44,g 45])/\u.get (X+6)=some (.cells false (rc L.length λj=> aC (Nn G L K K.length 0 j:Nat)))/\Fx (· =X+6) y u) ?_ ?_
 .refine aP (λk' vs u=> ∃(k:Nat),(∃g:Nat->V,vs= [g 0,g 1,.nilp,aC 0,g 4,g 5,.ptr (X+8) 0,g 7,g 8,g 9,g 10,g 11,g 12,g 13,g 14,g 15,g 16,g 17,g 18,g 19,g 20,g 21,g 22,g 23,g 24,g 25,g 26,g 27,g 28,g 29,g 30,g 31,g 32,g 33,g 34,g 35,g 36,g 37,.sl S 0 K.length cp,aC (K.length:Int),aC k,g 41,g 42,g 43,g 44,g 45])/\k<=K.length/\u.get (X+6)=some (.cells false (rc L.length λj=> aC (Nn G L K k 0 j:Nat)))/\Fx (· =X+6) y u/\k'=K.length-k) K.length
   ⟨0,aD rfl,fY _,c3,Fx.refl _ _,rfl⟩ ?_
  rintro k' B h9 ⟨k,⟨g,rfl⟩,hk,F,z,rfl⟩
  have n9:=z.next
  by_cases a9:(k:Int)<(K.length:Int)
  case neg=>
   have d4:=bZ a9;obtain rfl:k=K.length:=om
   refine bM d4 ?_;exact⟨aD rfl,F,z⟩
  have d4:=cV a9
  have w:k<K.length:=om
  obtain⟨a,ea,ko⟩:=b9 k w
  have b7:k<o.length:=by rw[pm.length_eq,<-W];exact w
  have a5:o[k]=a:=by rw[dJ b7] at ea;simpa using ea
  have c4:h9.get S=some (.cells false (Cls.nT o)):=by rw[z.get _ om (λl=>by have:S=X+6:=l;omega)];exact b2
  have b1:h9.row S (k*4) 4=some a.enc:=by
   have:=tQ (pre:= []) (by simpa using c4) b7;rw[a5] at this;simpa using this
  obtain⟨Y,hY⟩:=exI h9.next
  obtain⟨Z,a7,na,ga,oa,fa⟩:=iI hY [.aH,aC 0,aC 0,.aH]
  obtain⟨hb,b5,nb,gb,ob⟩:=xN Z Y a.enc
  have c1:hb.cell Y 3=some a.ranks:=by rw[H.cell_of gb];rfl
  have lr:=ko.ranks.si.lens
  rw[bD] at lr
  obtain⟨r,P⟩:=exI (K.getD k 0)
  rw[P] at ko lr
  simp(disch:=omega)only[go_sem,d4,b1,hY,a7,Ru,ga,Tq,b5,c1,lr]
  have c6:r∈eK G L L.length:=by rw[<-P];exact pK.mem_iff.1 (bF w)
  obtain⟨a3,a2⟩:=hR r c6
  obtain⟨l1,l2⟩:=Oa hG E a3 a2
  obtain⟨Q,a1,mR,a6,e1,e2,e3,e4⟩:=SI.lit ko.ranks.si (by rw[bD];exact l1)
  have ho:=ko.ranks.off
  rw[e1] at ho
  have d8:Q≠X+6:=λl=>ho (l▸wN)
  obtain⟨c,hc⟩:=exI ((iK G L r).length)
  rw[bD,hc] at e2 e4
  have f3:c<=L.length:=by
   rw[<-hc];have:=List.Nodup.length_le_of_subset (Aj (G:=G) (L:=L) r) (l₂:=List.range L.length) λj hj=>mS.2 (jM.1 hj).1
   rwa [gT] at this
  rw[hc,e1]
  have Fb:Fx (· =X+6) y hb:=⟨om,λq l s=>by rw[ob q om,oa q om];exact z.get q l s⟩
  have b3:hb.get (X+6)=some (.cells false (rc L.length λj=> aC (Nn G L K k 0 j:Nat))):=by rw[ob _ om,oa _ om];exact F
  have c5: ∀u,Fx (· =X+6) y u->u.cell (X+8) 3=some (.sl (X+6) 0 L.length (.kn L.length)):=λu f=>by
   have:u.get (X+8)=y.get (X+8):=f.get _ (by have:=wn _ wB;omega) om;rw[H.cell_of (this.trans U)];rfl
  refine Bu (λvs u=>(∃g:Nat->V,vs= [g 0,g 1,.nilp,aC 0,g 4,g 5,.ptr (X+8) 0,g 7,g 8,g 9,g 10,g 11,g 12,g 13,g 14,g 15,g 16,g 17,g 18,g 19,g 20,g 21,g 22,g 23,g 24,g 25,g 26,g 27,g 28,g 29,g 30,g 31,g 32,g 33,g 34,g 35,g 36,g 37,.sl S 0 K.length cp,aC (K.length:Int),aC k,g 41,g 42,g 43,g 44,g 45])/\u.get (X+6)=some (.cells false (rc L.length λj=> aC (Nn G L K (k+1) 0 j:Nat)))/\Fx (· =X+6) y u) ?_ ?_
  .refine aP (λk' vs u=> ∃(t:Nat),(∃g:Nat->V,vs= [g 0,g 1,.nilp,aC 0,g 4,g 5,.ptr (X+8) 0,g 7,g 8,g 9,g 10,g 11,g 12,g 13,g 14,g 15,g 16,g 17,g 18,aC k,g 20,g 21,g 22,g 23,g 24,g 25,g 26,g 27,g 28,g 29,g 30,g 31,g 32,g 33,g 34,g 35,g 36,g 37,.sl S 0 K.length cp,aC (K.length:Int),aC k,g 41,.sl Q a1 (mR+1) a6,aC c,aC t,g 45])/\t<=c/\u.get (X+6)=some (.cells false (rc L.length λj=> aC (Nn G L K k t j:Nat)))/\Fx (· =X+6) y u/\k'=c-t) c
    ⟨0,aD rfl,fY _,b3,Fb,rfl⟩ ?_
   clear b3 Fb gb ob c1 nb b5 ga oa fa na a7 b1 F z n9
   rintro k' B b0 ⟨t,⟨g2,rfl⟩,ht,c0,Fc,rfl⟩
   by_cases b8:(t:Int)<(c:Int)
   case neg=>
    have d5:=bZ b8;obtain rfl:t=c:=om
    refine bM d5 ?_;refine⟨aD rfl,?_,Fc⟩;rw[c0,show (λj=>aC (Nn G L K k t j:Nat))=λj=>aC (Nn G L K (k+1) 0 j:Nat) from funext λj=>by rw[<-SQ,P,hc]]
   have d5:=cV b8
   have c7:t<c:=om
   obtain⟨x,hx⟩:=exI ((iK G L r).getD t 0)
   have d0:x<L.length:=by rw[<-hx];exact (jM.1 (bF om)).1
   have d9:b0.cell Q (a1+t)=some (aC x):=by
    have e5:=e4 t c7;unfold H.cell at e5 |-;rw[Fc.get Q e3 d8,e5,zi,mZ _ (d:=0) om,hx]
   have pt:=bE (vs:=rc L.length λj=> aC (Nn G L K k t j:Nat)) (off:=x) (by rw[dE];exact d0)
   have tl:(t:Int).toNat=t:=rfl
   refine nW d5 d9 (c5 b0 Fc) c0 pt ?_
   rw[fJ t]
   refine⟨c-(t+1),om,t+1,aD rfl,om,?_,⟨Fc.next,λq l s=>by rw[H.Cj _ s];exact Fc.get q l s⟩,rfl⟩
   rw[iQ,bW λj hj=>?_]
   rw[QH hG E pK w (by rw[P];omega),P,hx]
   by_cases ej:j=x
   .rw[aS ej,aS ej]
   .rw[aQ ej,aQ ej]
  rintro B hd ⟨⟨g2,rfl⟩,c9,Fd⟩
  refine aT ?_
  rw[fJ k]
  exact⟨K.length-(k+1),om,k+1,aD rfl,om,c9,Fd,rfl⟩
 rintro B h9 ⟨⟨g,rfl⟩,F,z⟩
 have n9:=z.next
 refine aT ?_
 have n2:=e.x2
 have o9: ∀q,q<D->q≠X+8->q≠X+6->h9.get q=h5.get q:=λq l s h3=>by
  rw[z.get q (by have:=e.j.nx;omega) h3,F8.get q (by have:=e.j.nx;omega) (λh4=>by have:q=S:=h4;omega),e.j.old.get q (by rw[e.n5];exact l) (λh4=>by rcases h4 with h4|h4;exact s h4;omega)]
 have nx:=e.j.nx
 have a8:Fr s h9:=⟨om,λq hq=>by rw[o9 q om om om];exact e.f25.get q hq⟩
 have d7:Fx WK y h9:=⟨z.next,λq l s=>z.get q l λh3=>s (by have:q=X+6:=h3;rw[this];exact wN)⟩
 have e7:K.Nodup:=pK.nodup_iff.2 (by classical exact (by unfold eK;exact List.Pairwise.filter _ List.nodup_range))
 have c8:o.length=K.length:=by rw[<-hK,dO]
 refine⟨.ptr (X+8) 0,K,rfl,⟨X+8,X+3,X+6,S,cp,vL,o,rfl,om,om,om,om,?_,?_,?_,?_,?_,e.sp.mono a8⟩,⟨pK,?_⟩,e.f2.trans a8⟩
 .rw[z.get _ om om];exact U
 .rw[o9 _ om om om];exact e.gM
 .rw[F,bW λj hj=>by rw[TC hG E pK hj]]
 .rw[z.get _ om om];exact b2
 .refine bH.jF c8 λi l s=>?_
  obtain⟨a,ea,ko⟩:=b9 i s
  have a5:o[i]=a:=by rw[dJ l] at ea;simpa using ea
  have k9:=ko.go d7 om wX λ_ _ l=>l
  rw[Pm.cM s] at k9
  rw[a5]
  exact⟨k9.fst,k9.ord,k9.size,k9.rep.si,k9.ranks.si⟩
 .have l:o.Pairwise λa b=>a.fst≠b.fst:=by
   have:=e7;rw[<-hK] at this;exact List.pairwise_map.1 this
  rw[<-hK,List.pairwise_map];refine List.Pairwise.imp_of_mem ?_ (List.Pairwise.and Pn l);rintro a b Z hb ⟨s,h3⟩;have ka:=kK a Z;have kb:=kK b hb;have h4: ¬(b.lt a=true):=by rw[s];simp
  rw[Cls.KE.lt_iff] at h4;unfold IH;rw[<-ka.ord,<-kb.ord,<-ka.size,<-kb.size];omega
theorem LH {n:Nat}{G:List Nat->Prop}{L:LN}{r s:Nat}(a:IH n G L r s)(b:IH n G L s r):False:=by
 unfold IH at a b;omega
theorem vU.uniq {n:Nat}{G:List Nat->Prop}{L:LN}{K c:List Nat}(a:vU n G L K)(b:vU n G L c):K=c:=
 (a.perm.trans b.perm.symm).eq_of_pairwise (λ_ _ _ _ d f=>(LH d f).elim) a.asc b.asc
noncomputable def xI (G:List Nat->Prop)(L:LN)(K:List Nat):List Nat:=(List.range L.length).map (jJ G L K)
theorem acB (G:List Nat->Prop)(L:LN)(K:List Nat):(rc L.length λj=>aC (jJ G L K j:Nat))=ints (zi (xI G L K)):=by
 refine Dg (by rw[aE,bD];simp [xI]) λi hi=>?_
 rw[Ax (by simpa [xI] using hi)];have:(xI G L K).getD i 0=jJ G L K i:=by simp [xI,hi]
 rw[this]
theorem akB {r:Nat->Prop}(q:V)(n:Nat)(O:LN)(R:nZ)(G:List Nat->Prop)(h:H)(o:GC r h q n O R G)(L:LN)(l:cK O R n 0 (bI n)=L)(f:(eK G L L.length).length<=12):
  Ev T 85 [q] h (λv h'=> ∃vl K,v= .tup [vl,aC 0]/\vU n G L K/\SI h' vl (zi (xI G L K))/\Fr h h'):=by
 obtain⟨d,i,e,x,z⟩:=o.ch
 subst e
 have b:d.one=true:=NB x
 have c:i.one=true:=KY z
 obtain⟨A,k⟩:=exI h.next
 obtain⟨y,e1,n1,P,o1,j⟩:=iI k [aC n,d,i]
 have s:=dH h (v:= aC n) (u:=d) (w:=i) rfl b c
 have Y:=bU P
 refine Nk s k e1 Y ?_
 refine (GM _ n O R G y (o.mono j) (by rw[l];exact f)).mono ?_
 rw[l]
 rintro _ t ⟨p,K,rfl,go,J,W⟩
 obtain⟨B,M,N,S,cp,vL,ks,rfl,hB,hM,U,hS,F,gM,m,gS,a,sp⟩:=go.ex
 have Q:t.cell B 3=some (.sl N 0 L.length (.kn L.length)):=by rw[H.cell_of F];rfl
 refine aT ?_
 refine bV (λZ=>(Z rfl).elim) (λ_=>?_)
 refine bM Q ?_
 rw[acB] at m
 exact⟨_,K,rfl,J,SV.all (by rw[aE,bD];simp [xI]) U m _,j.trans W⟩
def pH (ks:List Cls.KE):List V:=ks.flatMap λa=> [a.rep,aC (a.ord:Int),aC (a.size:Int)]
theorem zJ (ks:List Cls.KE):(pH ks).length=ks.length*3:=by
 induction ks with
 |nil=>rfl
 |cons a r ih=>
  show ([a.rep,aC (a.ord:Int),aC (a.size:Int)]++pH r).length=_;rw[eE,ih];show 3+r.length*3=(r.length+1)*3;omega
theorem abV {h:H}{Y:Nat}{ro:Bool}{a:Cls.KE}(g:h.get Y=some (.cells ro a.enc)):h.row Y 0 3=some [a.rep,aC (a.ord:Int),aC (a.size:Int)]:=by
 simp [H.row,g,sub,Cls.KE.enc]
theorem Oj {v:V}(a:v.one=true)(x y:Int)(h:H):lU h 3 [.aH,aC 0,aC 0] 1 [(0,3,.agg [v,aC x,aC y])]=some (.sl h.next 0 1 (.kn 1),h.new (.cells false [v,aC x,aC y])):=by
 have e:cJ [V.aH,aC 0,aC 0] 3= [V.aH,aC 0,aC 0]:=rfl;simp [lU,fP,putAt,e,a,show ∀l,(V.agg l).cells=l from λ_=>rfl,show ∀z,(aC z).one=true from λ_=>rfl]
theorem Kq {W0:Nat->Prop}(vc:V)(n:Nat)(O:LN)(R:nZ)(G:List Nat->Prop)(h:H)(i:GC W0 h vc n O R G)(L:LN)(hL:cK O R n 0 (bI n)=L)(a0:(eK G L L.length).length<=12):
  Ev T 39 [vc] h (λv h'=> ∃vl K ks,v= .tup [vl,aC 0]/\vU n G L K/\SV h' vl 3 (pH ks)/\bH (KR n G L h') ks K/\Fr h h'):=by
 obtain⟨vO,vR,e,sO,sR⟩:=i.ch
 subst e
 have j:vO.one=true:=NB sO
 have z:vR.one=true:=KY sR
 obtain⟨A,hA⟩:=exI h.next
 obtain⟨h1,e1,n1,g1,o1,f1⟩:=iI hA [aC n,vO,vR]
 have bx:=dH h (v:= aC n) (u:=vO) (w:=vR) rfl j z
 have rB:=bU g1
 refine Nk bx hA e1 rB ?_
 refine (GM _ n O R G h1 (i.mono f1) (by rw[hL];exact a0)).mono ?_
 rw[hL]
 rintro _ d ⟨p,K,rfl,go,ik,f2⟩
 obtain⟨B,M,N,S,cp,vL,ks,rfl,hB,hM,hN,hS,gB,gM,gN,gS,aK,sp⟩:=go.ex
 have c2:d.cell B 2=some (.sl S 0 K.length cp):=by rw[H.cell_of gB];rfl
 have a8:=bH.length aK
 have a6:K.length<=5040:=by
  have h1:=ik.perm.length_eq;have d:=tU (G:=G) (L:=L) L.length;have h3:=kF i;have h4:=(dV i.kT i.isc).2;rw[hL] at h4;omega
 refine aT ?_
 refine bV (λhc=>(hc rfl).elim) (λ_=>?_)
 refine bM c2 ?_
 refine dG (λW t=> ∃b,(∃g:Nat->V,W= [g 0,g 1,g 2,g 3,g 4,g 5,b,g 7,g 8,g 9,g 10,g 11,g 12])/\SV t b 3 (pH ks)/\Fr d t) ?_ ?_
 .refine aP (λk' W t=> ∃(k:Nat) (b:V),(∃g:Nat->V,W= [g 0,g 1,g 2,g 3,.ptr B 0,g 5,b,g 7,g 8,.sl S 0 K.length cp,aC (K.length:Int),aC k,g 12])/\k<=K.length/\dF t b 3 (pH (ks.take k)) d.next/\Fr d t/\k'=K.length-k) K.length
   ⟨0,.aH,aD rfl,fY _,dF.aH _ _ _,Fr.refl _,rfl⟩ ?_
  rintro k' r F ⟨k,b,⟨g,rfl⟩,hk,J,f,rfl⟩
  by_cases l:(k:Int)<(K.length:Int)
  case neg=>
   have d4:=bZ l;obtain rfl:k=K.length:=om
   refine bM d4 ?_;rw[Nb om] at J;exact⟨b,aD rfl,J.sv,f⟩
  have d4:=cV l
  have a7:k<K.length:=om
  have o:k<ks.length:=om
  obtain⟨a,ea⟩:=exI (ks[k])
  have Q:F.get S=cE (Cls.nT ks):=by rw[f.get _ hS];exact gS
  have a5:F.row S (k*4) 4=some a.enc:=by
   have:=tQ (pre:= []) (by simpa using Q) o;rw[ea] at this;simpa using this
  obtain⟨Y,hY⟩:=exI F.next
  obtain⟨ha,a3,na,ga,oa,fa⟩:=iI hY [.aH,aC 0,aC 0,.aH]
  obtain⟨hb,a1,nb,gb,ob⟩:=xN ha Y a.enc
  obtain⟨Z,hZ⟩:=exI hb.next
  obtain⟨s,U,nc,P,oc,fc⟩:=iI hZ [a.rep,aC (a.ord:Int),aC (a.size:Int)]
  have x:Fr F s:=⟨om,λq hq=>by rw[oc q om,ob q om,oa q om]⟩
  have a2:dF s b 3 (pH (ks.take k)) d.next:=J.fr x
  obtain⟨hd,ad,pd⟩:=a2.push (bytes:=40) (y:= .sl Z 0 1 (.kn 1)) (us:= [a.rep,aC (a.ord:Int),aC (a.size:Int)]) (SV.all rfl om P _) (n:=k) (m:=1) (by rw[zJ,jG];omega) rfl om om om
  simp(disch:=omega)only[go_sem,d4,a5,hY,a3,Ru,ga,Tq,a1,abV gb,Oj a.hrep.2.1,hZ,U,ad]
  rw[fJ k]
  have el:pH (ks.take (k+1))=pH (ks.take k)++ [a.rep,aC (a.ord:Int),aC (a.size:Int)]:=by
   rw[List.take_succ_eq_append_getElem o,ea];simp [pH]
  have n9:=f.next
  have nd:=pd.next
  have a4:Fr d hd:=⟨om,λq hq=>by rw[pd.old q om (λid a9 n' c e e2=>by have:=(J.in _ _ _ _ e).2.1;omega),x.get q om];exact f.get q hq⟩
  exact⟨K.length-(k+1),om,k+1,_,aD rfl,om,by rw[el];exact pd.own (by rw[zJ,jG];omega) rfl om,a4,rfl⟩
 rintro r F ⟨b,⟨g,rfl⟩,sv,f⟩
 refine aT ?_
 exact⟨b,K,ks,rfl,ik,sv,aK.mono λ_ _ k=>k.mono f,(f1.trans f2).trans f⟩
section
variable {h:H} {n:Nat}
theorem agB:([.int .u8 0,.int .u8 0,.int .u8 0,.int .u8 0,.int .u8 0,.int .u8 0,.int .u8 0,.int .u8 0,.int .u8 0,.int .u8 0,.int .u8 0,.int .u8 0,.int .u8 0,.int .u8 0,.int .u8 0,.int .u8 0,.int .u8 0,.int .u8 0,.int .u8 0,.int .u8 0,.int .u8 0,.int .u8 0,.int .u8 0,.int .u8 0,.int .u8 0,.int .u8 0,.int .u8 0,.int .u8 0,.int .u8 0,.int .u8 0,.int .u8 0,.int .u8 0,.int .u8 0,.int .u8 0,.int .u8 0,.int .u8 0,.int .u8 0,.int .u8 0,.int .u8 0,.int .u8 0,.int .u8 0,.int .u8 0,.int .u8 0,.int .u8 0,.int .u8 0,.int .u8 0,.int .u8 0,.int .u8 0,.int .u8 0,.int .u8 0,.int .u8 0,.int .u8 0,.int .u8 0,.int .u8 0,.int .u8 0,.int .u8 0,.int .u8 0,.int .u8 0,.int .u8 0,.int .u8 0,.int .u8 0,.int .u8 0,.int .u8 0,.int .u8 0]:List V)=rc 64 λ_=> .int .u8 0:=rfl
def WU (x:List Nat):V:= .agg (rc 64 λi=> .int .u8 ((x.getD i 0:Nat):Int))
theorem Iw {id:Nat}{ws:List V}(b:ws.length=n)(a:h.get id=some (.cells false ws)):h.row id 0 n=some ws:=by
 unfold H.row;rw[a];simp only[sub];rw[aS om,List.drop_zero,Nb om]
theorem Yw {vs ws:List V}(a:vs.length=n)(h2:ws.length=n)(h:H)(id:Nat):dY (some (.cells false vs)) h id 0 ws=some (h.set id (some (.cells false ws))):=by
 simp only[dY,putAt];rw[aS om,Option.map_some,List.take_zero,List.nil_append,List.drop_of_length_le om,qH]
theorem YN {f:Nat->V}(a: ∀i,(f i).one=true):(rc n f).all V.one=true:=by
 rw[uR];intro v b;obtain⟨i,_,rfl⟩:=oG.1 b;exact a i
set_option maxHeartbeats 8000000
theorem Yp (u:V)(n:Nat)(x:List Nat)(h:H)(hn:n<=64)(X:bJ n x)(J:SI h u (zi x)):
  Ev T 86 [u] h (λv h'=>v=WU x/\Fr h h'):=by
 have l:=X.len
 have z:=J.lens
 rw[bD,l] at z
 obtain⟨id,off,o,f,L⟩:=J.open
 rw[bD,l] at o f L
 obtain⟨A,t⟩:=exI h.next
 obtain⟨h1,e1,K,W,o1,Q⟩:=iI t (rc 64 λ_=> .int .u8 0)
 obtain⟨h2,e2,n2,P,U,Y⟩:=iI K (rc 64 λ_=> .int .u8 0)
 refine agU @agB t e1 K e2 z ?_
 refine aP (λw a k=> ∃(i:Nat),(∃j:Nat->V,a= [j 0,.ptr A 0,.ptr (A+1) 0,j 3,j 4,u,aC n,aC i,j 8])/\i<=n/\
   k.get (A+1)=some (.cells false (rc 64 λj=> .int .u8 ((if j<i then x.getD j 0 else 0:Nat):Int)))/\k.get A=some (.cells false (rc 64 λ_=> .int .u8 0))/\k.next=A+1+1/\Fr h k/\w=n-i) n
  ⟨0,aD rfl,fY _,P,by rw[U A om];exact W,n2,Q.trans Y,rfl⟩ ?_
 rintro w a d ⟨i,⟨j,rfl⟩,hi,s,G,O,F,rfl⟩
 by_cases c:(i:Int)<(n:Int)
 .have m:=cV c
  have b:i<n:=om
  have ci:d.cell id (off+i)=some (aC (x.getD i 0:Nat)):=by rw[F.cell (f om),L i b];congr 2;simp [zi,l,b]
  have r:x.getD i 0<n:=X.eJ b
  obtain⟨p,B⟩:=exI (x.getD i 0)
  rw[B] at ci r
  have q:=bE (vs:=rc 64 λj=> .int .u8 ((if j<i then x.getD j 0 else 0:Nat):Int)) (off:=i) (by rw[dE];omega) d (A+1) (.int .u8 (p:Int))
  rw[iQ] at q
  refine wE m @o.ixa ci @rV s q ?_
  rw[fJ i]
  refine⟨n-(i+1),om,i+1,aD rfl,om,?_,?_,O,F.set om _,rfl⟩
  .congr 2
   refine bW λj hj=>?_
   by_cases e:j=i
   .rw[aS e,aS om,e,B]
   .rw[aQ e]
    by_cases e2:j<i
    .rw[aS e2,aS om]
    .rw[aQ e2,aQ om]
  .exact G
 have m:=bZ c
 obtain rfl:i=n:=om
 have y:=Iw (n:=64) (by rw[dE]) s
 have R:(rc 64 λj=>V.int .u8 ((if j<i then x.getD j 0 else 0:Nat):Int))=rc 64 λj=> .int .u8 ((x.getD j 0:Nat):Int):=by
  refine bW λj hj=>?_
  by_cases e:j<i
  .rw[aS e]
  .rw[aQ e,gV,List.getElem?_eq_none om];rfl
 rw[R] at y
 have pa:=Yw (vs:=rc 64 λ_=> .int .u8 0) (ws:=rc 64 λj=> .int .u8 ((x.getD j 0:Nat):Int)) (n:=64) (by rw[dE]) (by rw[dE]) d A
 have Z:=yX d A 0 64 (rc 64 λj=> .int .u8 ((x.getD j 0:Nat):Int)) (by rw[dE]) (YN λ_=>rfl)
 refine nW m y Z G pa ?_
 have N:=Iw (h:=d.set A (some (.cells false (rc 64 λj=> .int .u8 ((x.getD j 0:Nat):Int))))) (n:=64) (by rw[dE]) (H.aJ ..)
 refine bM N ?_
 exact⟨rfl,F.set om _⟩
theorem abF (u w:V)(n:Nat)(x y:List Nat)(h:H)(hn:n<=64)(X:bJ n x)(Y:bJ n y)(P:SI h u (zi x))(hw:SI h w (zi y)):
  Ev T 88 [u,w] h (λv h'=>v=WU (aZ (bY x) y)/\Fr h h'):=by
 have G:=X.len
 have O:=P.lens
 rw[bD,G] at O
 obtain⟨id,off,Z,l,R⟩:=P.open
 rw[bD,G] at Z l R
 have ly:=Y.len
 obtain⟨B,o,k,d,s⟩:=hw.open
 rw[bD,ly] at k d s
 have Q:=X.inv.mul Y
 obtain⟨A,hA⟩:=exI h.next
 obtain⟨h1,e1,n1,g1,o1,f1⟩:=iI hA (rc 64 λ_=> .int .u8 0)
 obtain⟨h2,e2,n2,g2,o2,f2⟩:=iI n1 (rc 64 λ_=> .int .u8 0)
 refine agU @agB hA e1 n1 e2 O ?_
 refine aP (λN c z=> ∃(i:Nat),(∃j:Nat->V,c= [j 0,w,.ptr A 0,.ptr (A+1) 0,j 4,j 5,u,aC n,aC i,j 9])/\i<=n/\
   z.get (A+1)=some (.cells false (rc 64 λj=> .int .u8 ((if x.idxOf j<i then (aZ (bY x) y).getD j 0 else 0:Nat):Int)))/\z.get A=some (.cells false (rc 64 λ_=> .int .u8 0))/\z.next=A+1+1/\Fr h z/\N=n-i) n
  ⟨0,aD rfl,fY _,g2,by rw[o2 A om];exact g1,n2,f1.trans f2,rfl⟩ ?_
 rintro N c f ⟨i,⟨j,rfl⟩,hi,L,gA,n3,F,rfl⟩
 by_cases m:(i:Int)<(n:Int)
 .have J:=cV m
  have a:i<n:=om
  have ci:f.cell id (off+i)=some (aC (x.getD i 0:Nat)):=by rw[F.cell (l om),R i a];congr 2;simp [zi,G,a]
  have r:x.getD i 0<n:=X.eJ a
  obtain⟨p,t⟩:=exI (x.getD i 0)
  rw[t] at ci r
  have K:f.cell B (o+i)=some (aC (y.getD i 0:Nat)):=by rw[F.cell (d om),s i a];congr 2;simp [zi,ly,a]
  have r2:y.getD i 0<n:=Y.eJ a
  have ip:x.idxOf p=i:=by rw[<-oX om,<-t];exact rO X a
  have U:(aZ (bY x) y).getD p 0=y.getD i 0:=by rw[dA (by rw[X.inv.len];exact r),<-t,rO X a]
  obtain⟨q,hq⟩:=exI (y.getD i 0)
  rw[hq] at K r2 U
  have W:=bE (vs:=rc 64 λj=> .int .u8 ((if x.idxOf j<i then (aZ (bY x) y).getD j 0 else 0:Nat):Int)) (off:=p) (by rw[dE];omega) f (A+1) (.int .u8 (q:Int))
  rw[iQ] at W
  refine wY J @Z.ixa ci @k.ixa K @rV L W ?_
  rw[fJ i]
  refine⟨n-(i+1),om,i+1,aD rfl,om,?_,?_,n3,F.set om _,rfl⟩
  .congr 2
   refine bW λj hj=>?_
   by_cases e:j=p
   .rw[aS e,aS (by rw[e,ip];omega),e,U]
   .rw[aQ e]
    have ne:x.idxOf j≠i:=λh=>e (by
     by_cases b:j<n
     .rw[<-t,<-h,<-oX om,ahG X b]
     .have:x.idxOf j=x.length:=List.idxOf_eq_length λhm=>b (X.lt j hm)
      omega)
    by_cases e2:x.idxOf j<i
    .rw[aS e2,aS om]
    .rw[aQ e2,aQ om]
  .exact gA
 have J:=bZ m
 obtain rfl:i=n:=om
 have rr:=Iw (n:=64) (by rw[dE]) L
 have ek:(rc 64 λj=>V.int .u8 ((if x.idxOf j<i then (aZ (bY x) y).getD j 0 else 0:Nat):Int))=rc 64 λj=> .int .u8 (((aZ (bY x) y).getD j 0:Nat):Int):=by
  refine bW λj hj=>?_
  by_cases e:x.idxOf j<i
  .rw[aS e]
  .have b: ¬j<i:=λb=>e (by rw[<-oX om];exact X.inv.eJ b)
   rw[aQ e,gV,List.getElem?_eq_none (by rw[Q.len];omega)];rfl
 rw[ek] at rr
 have pa:=Yw (vs:=rc 64 λ_=> .int .u8 0) (ws:=rc 64 λj=> .int .u8 (((aZ (bY x) y).getD j 0:Nat):Int)) (n:=64) (by rw[dE]) (by rw[dE]) f A
 have sa:=yX f A 0 64 (rc 64 λj=> .int .u8 (((aZ (bY x) y).getD j 0:Nat):Int)) (by rw[dE]) (YN λ_=>rfl)
 refine nW J rr sa gA pa ?_
 have ra:=Iw (h:=f.set A (some (.cells false (rc 64 λj=> .int .u8 (((aZ (bY x) y).getD j 0:Nat):Int))))) (n:=64) (by rw[dE]) (H.aJ ..)
 refine bM ra ?_
 exact⟨rfl,F.set om _⟩
theorem Il {v:V}{L:LN}(s:SP h v L):dD v=some (aC (L.length:Int))/\dS v v=true/\ ∃(id off:Nat) (ws:List V),Sl v 1 L.length id off/\ ∀i,i<L.length->id<h.next/\h.cell id (off+i)=some (ws.getD i V.undef)/\SI h (ws.getD i V.undef) (zi (L.getD i [])):=by
 have f:=s.lens;rw[dO] at f;obtain⟨id,off,ws,k,b,c,j,a⟩:=s.open;rw[dO] at k b c j;have⟨l,d,_⟩:=s;exact⟨f,SV.dS d,id,off,ws,k,λi hi=>⟨b om,j i hi,Oi a hi⟩⟩
theorem Zc {α:Type}(f g:α->V): ∀l:List α,qE (l.map f) (l.map g)=l.all λi=>dS (f i) (g i)
 | []=>rfl
 |a::l=>by
  rw[List.map_cons,List.map_cons,List.all_cons,<-Zc f g l]
  rfl
theorem EN (f:n<=64)(a b:List Nat)(A:bJ n a)(B:bJ n b):dS (WU a) (WU b)=decide (a=b):=by
 show qE (rc 64 _) (rc 64 _)=_;unfold rc;rw[Zc,Ri,uR,xF];constructor
 .intro h
  refine List.ext_getElem (by rw[A.len,B.len]) λi c d=>?_
  have:=h i (mS.2 (by have:=A.len;omega));have e:((a.getD i 0:Nat):Int)=((b.getD i 0:Nat):Int):=by simpa [dS] using this
  rw[Pm.cM c,Pm.cM d] at e;omega
 .rintro rfl i _
  simp [dS]
theorem Uv (c:n<=64)(a:List Nat)(A:bJ n a):isKey (.arr 64 .u8) (WU a)=true:=by
 unfold isKey WU;simp only;rw[dE,cV rfl,Bool.true_and,uR];intro v b;obtain⟨i,hi,rfl⟩:=oG.1 b
 have:a.getD i 0<256:=by
  by_cases h:i<a.length
  .have:=A.eJ (i:=i) (by rw[<-A.len];exact h);omega
  .rw[gV,List.getElem?_eq_none om];decide
 have e1:IntKind.min .u8=0:=rfl;have e2:IntKind.max .u8=255:=rfl;simp only[e1,e2,oD,xF];exact⟨trivial,om,om⟩
structure DO (n:Nat)(G:List Nat->Prop)(L:LN)(K:List Nat)(hh:H)(D:Nat):Prop where
 ex: ∃vL vC M l ks,hh.get D=some (.cells false [vL,vC,.mp M])/\D<hh.next/\M<hh.next/\SP hh vL L/\SV hh vC 3 (pH ks)/\bH (KR n G L hh) ks K/\hh.get M=some (.wmap (.arr 64 .u8) (eU WU l))/\(∀p∈l,bJ n p.1)/\ ∀i,i<L.length->Rt l (L.getD i [])=some (aC (jJ G L K i:Nat))
theorem DO.mono {G:List Nat->Prop}{L:LN}{K:List Nat}{h':H}{D:Nat}(d:DO n G L K h D)(f:Fr h h'):DO n G L K h' D:=by
 obtain⟨j,o,M,l,m,g,b,a,q,r,i,t,s,c⟩:=d.ex;exact⟨j,o,M,l,m,by rw[f.get _ b];exact g,iD b f.next,iD a f.next,q.mono f,r.mono f,i.mono λ_ _ k=>KR.mono k f,by rw[f.get _ a];exact t,s,c⟩
theorem XS (D:Nat)(u:V)(n:Nat)(G:List Nat->Prop)(L:LN)(K:List Nat)(x:List Nat)(h:H)(i:n<=64)(d:DO n G L K h D)(X:bJ n x)(y:x∈L)(k:SI h u (zi x)):
  Ev T 87 [.ptr D 0,u] h (λv h'=>v= aC (jJ G L K (L.idxOf x):Nat)/\Fr h h'):=by
 refine mV ?_
 obtain⟨w,J,M,l,W,g,B,t,Y,Z,U,R,Q,r⟩:=d.ex
 have O:=k.dS
 simp(disch:=omega)only[go_sem,aV,H.cell_of g]
 have m:=(Fr.refl h).cU (n:=h.next+8) om
 refine (Yp u n x _ i X (k.mono m)).mono ?_
 rintro _ o ⟨rfl,N⟩
 have F:=m.trans N
 have s:o.get D=some (.cells false [w,J,.mp M]):=by rw[F.get _ B];exact g
 have j:o.get M=some (.wmap (.arr 64 .u8) (eU WU l)):=by rw[F.get _ t];exact R
 have f:=List.idxOf_lt_length_of_mem y
 have c:L.getD (L.idxOf x) []=x:=by rw[gV,dJ f];exact List.getElem_idxOf f
 have b:=r (L.idxOf x) f
 rw[c] at b
 have q:=λz=>Cd (EN i) (λa A=>Uv i a A) (P:=bJ n) Q X z
 rw[b] at q
 simp(disch:=omega)only[go_sem,H.cell_of s,O,j,q]
 exact⟨by simp [dS],rfl,F⟩
end
set_option maxHeartbeats 16000000
theorem afC {v:V}(M:Nat)(b:v.cells= [v])(a:v.one=true):mP [.aH,.aH,.nilm] [(1,1,v),(2,1,.mp M)]=some (.agg [.aH,v,.mp M]):=by
 simp [mP,fP,putAt,b,a,show (V.mp M).cells= [V.mp M] from rfl,show (V.mp M).one=true from rfl]
theorem adW {W0:Nat->Prop}(vc:V)(n:Nat)(O:LN)(R:nZ)(G:List Nat->Prop)(h:H)(J:GC W0 h vc n O R G)(L:LN)(hL:cK O R n 0 (bI n)=L)(a9:(eK G L L.length).length<=12):
  Ev T 44 [vc] h (λv h'=> ∃K,vU n G L K/\Fr h h'/\(64<K.length/\v= .tup [.nilp,aC 5]\/K.length<=64/\ ∃D,v= .tup [.ptr D 0,aC 0]/\DO n G L K h' D)):=by
 have P:=J
 obtain⟨vO,vR,rfl,sO,sR⟩:=J.ch
 refine mV ?_
 have a1:vO.one=true:=NB sO
 have b7:vR.one=true:=KY sR
 have n7:=J.n7
 have hG:=J.kT
 obtain⟨E,ll⟩:=dV J.kT J.isc
 have d8:=kF J
 rw[hL] at E ll
 obtain⟨B,hB⟩:=exI h.next
 obtain⟨z,e1,n1,g1,o1,f1⟩:=iI hB [aC n,vO,vR]
 have bx:=dH h (v:= aC n) (u:=vO) (w:=vR) rfl a1 b7
 have rB: ∀y,Fr z y->y.row B 0 3=some [aC n,vO,vR]:=λy f=>bU (by rw[f.get B om];exact g1)
 simp(disch:=omega)only[go_sem,aV,bx,hB,e1,rB z (Fr.refl _)]
 refine (Kq _ n O R G z (P.mono f1) L hL a9).mono ?_
 rintro _ b ⟨o,K,ks,rfl,ik,s4,a4,f2⟩
 have c3:=bH.length a4
 have d6:K.length<=5040:=by
  rw[ik.perm.length_eq];unfold eK;exact kQ (List.length_filter_le _ _) (by rw[gT];omega)
 have b3:dD o=some (aC (K.length:Int)):=by unfold dD;rw[SV.len s4 (n:=ks.length) (zJ ks) om,c3];rfl
 have w4:=s4.cT
 refine aT ?_
 refine bV (λQ=>(Q rfl).elim) (λ_=>?_)
 by_cases a7:(64:Int)<(K.length:Int)
 .have d1:=cV a7
  refine eZ b3 d1 ?_
  exact⟨K,ik,f1.trans f2,.inl ⟨om,trivial⟩⟩
 have d1:=bZ a7
 obtain⟨M,hM⟩:=exI b.next
 obtain⟨h3,e3⟩:=exI (b.new (.wmap (.arr 64 .u8) []))
 have n3:h3.next=M+1:=by rw[<-e3,H.aM,hM]
 have g3:h3.get M=some (.wmap (.arr 64 .u8) []):=by rw[<-e3,<-hM];exact H.aI b _
 have o3: ∀k,k≠M->h3.get k=b.get k:=λk hk=>by rw[<-e3];exact H.bG b om _
 obtain⟨U,e4,n4,g4,o4,f4⟩:=iI n3 [.aH,o,.mp M]
 have a0:Fr b U:=⟨om,λq hq=>by rw[o4 q om,o3 q om]⟩
 have b4:=f2.trans a0
 have ba:=rI h3 [.aH,o,.mp M] (by simp [w4.2.1,show V.aH.one=true from rfl,show (V.mp M).one=true from rfl])
 refine Ux b3 d1 hM e3 (afC M w4.1 w4.2.1) ba n3 e4 (rB U b4) ?_
 refine (Ra _ n O R G U (P.mono (f1.trans b4))).mono ?_
 rw[hL]
 rintro _ h5 ⟨c,rfl,nw⟩
 have pl:=nw.pl
 have f5:=nw.fr
 have wL:c.cells= [c]/\c.one=true:=by have⟨ws,s,_⟩:=pl;exact⟨s.cT.1,s.cT.2.1⟩
 have n5:=f5.next
 have g5:h5.get (M+1)=cE [.aH,o,.mp M]:=by rw[f5.get _ om];exact g4
 obtain⟨h6,e6,n6,g6,o6⟩:=xN h5 (M+1) [c,o,.mp M]
 have p6:dY (cE [.aH,o,.mp M]) h5 (M+1) 0 [c]=some h6:=by rw[bE siM,<-e6];rfl
 have b2:Fr b h6:=⟨om,λq hq=>by rw[o6 q om,f5.get q om];exact a0.get q hq⟩
 have a8:=f2.trans b2
 refine jX g5 (eH wL.1 wL.2) p6 (rB h6 a8) ?_
 refine (akB _ n O R G h6 (P.mono (f1.trans a8)) L hL a9).mono ?_
 rintro _ h7 ⟨v7,K',rfl,d5,s7,Z⟩
 obtain rfl:=ik.uniq d5
 have d7:=Z.next
 have d4:=b2.trans Z
 have g7:h7.get (M+1)=cE [c,o,.mp M]:=by rw[Z.get _ om];exact g6
 have b5:h7.get M=some (.wmap (.arr 64 .u8) []):=by rw[Z.get _ om,o6 _ om,f5.get _ om,o4 _ om];exact g3
 have a5:PL (λid=>id<U.next) h7 c L:=by
  refine PL.go pl ⟨om,λid z b=>?_⟩ (λid z b=>b);rw[Z.get _ om,o6 _ om]
 have c8:=a5.sp
 obtain⟨d0,eL,c0,b8,ws,a6,cL⟩:=Il c8
 have c4:(zi (xI G L K)).length=L.length:=by rw[bD];simp [xI]
 obtain⟨b6,r,a2,d,b0⟩:=s7.open
 rw[c4] at a2 d b0
 have c9:=s7.dS
 simp(disch:=omega)only[go_sem,H.cell_of g7,d0]
 have nM:{id c5:Nat}->{v:V}->h7.cell id c5=some v->id≠M:=λQ e=>by
  rw[e] at Q;unfold H.cell at Q;rw[b5] at Q;cases Q
 refine aP (λk' t y=> ∃(i:Nat) (l:List (List Nat×V)),(∃g:Nat->V,t= [g 0,g 1,g 2,g 3,g 4,g 5,.ptr (M+1) 0,v7,g 8,g 9,g 10,g 11,c,aC (L.length:Int),aC i,g 15])/\i<=L.length/\y.get M=some (.wmap (.arr 64 .u8) (eU WU l))/\(∀p∈l,bJ n p.1)/\(∀j,j<i->Rt l (L.getD j [])=some (aC (jJ G L K j:Nat)))/\Fx (· =M) h7 y/\k'=L.length-i) L.length
  ⟨0, [],aD rfl,fY _,b5,λ_ h=>(by cases h),λj hj=>om,Fx.refl _ _,rfl⟩ ?_
 rintro k' t Y ⟨i,l,⟨g,rfl⟩,hi,gM,kl,lk,F,rfl⟩
 have n8:=F.next
 have N:Fr b Y:=⟨om,λq hq=>by rw[F.get q om (by show q≠M;omega)];exact d4.get q hq⟩
 have b9:PL (λid=>id<U.next) Y c L:=PL.go a5 ⟨n8,λid z b=>F.get id z (λe=>b (by rw[e];show M<U.next;omega))⟩ (λid z b=>b)
 have g8:Y.get (M+1)=cE [c,o,.mp M]:=by rw[F.get _ om (by show M+1≠M;omega)];exact g7
 by_cases a3:(i:Int)<(L.length:Int)
 case neg=>
  have d3:=bZ a3;obtain rfl:i=L.length:=om
  refine bM d3 ?_;refine⟨K,ik,(f1.trans f2).trans ⟨om,λq hq=>N.get q om⟩|>.trans (Fr.refl _),.inr ⟨om,M+1,rfl,?_⟩⟩;exact⟨c,o,M,l,ks,g8,om,om,b9.sp,s4.mono N,a4.mono λ_ _ k=>KR.mono k N,gM,kl,lk⟩
 have d3:=cV a3
 have m:i<L.length:=om
 obtain⟨_,_,c0,b8,ws,a6,cL⟩:=Il b9.sp
 obtain⟨b1,c1,s1⟩:=cL i m
 generalize ws.getD i V.undef=ve at c1 s1
 have X:=jZ hG E m
 obtain⟨x,hx⟩:=exI (L.getD i [])
 rw[hx] at s1 X
 have c7:=b0 i m
 rw[show (zi (xI G L K)).getD i 0=((jJ G L K i:Nat):Int) from by simp [xI,zi,m]] at c7
 have cN:Y.cell b6 (r+i)=some (aC (jJ G L K i:Nat)):=by rw[F.cell (d om) (nM c7)];exact c7
 have ex:=s1.dS
 simp(disch:=omega)only[go_sem,d3,a6.ixa,c1,H.cell_of g8,a2.ixa,cN]
 have fb:=(Fr.refl Y).cU (n:=Y.next+11) om
 refine (Yp ve n x _ om X (s1.mono fb)).mono ?_
 rintro _ h9 ⟨rfl,f9⟩
 have F9:=fb.trans f9
 have g9:h9.get (M+1)=cE [c,o,.mp M]:=by rw[F9.get _ om];exact g8
 have c6:h9.get M=some (.wmap (.arr 64 .u8) (eU WU l)):=by rw[F9.get _ om];exact gM
 have c2:h9.cell b6 (r+i)=some (aC (jJ G L K i:Nat)):=by rw[F9.cell (by have:=d om;omega)];exact cN
 have pm:=λy=>SA (EN (n:=n) om) (λa A=>Uv (n:=n) om a A) kl X (aC (jJ G L K i:Nat)) y M
 simp(disch:=omega)only[go_sem,H.cell_of g9,c2,c9,c6,pm]
 rw[fJ i]
 refine⟨by simp [dS],L.length-(i+1),om,i+1,_,aD rfl,om,rfl,Pb X kl,λj hj=>?_,(F.trans (Fx.of (W:=(· =M)) F9) λ_ _ h=>h).trans (Fx.set h9 (W:=(· =M)) rfl _) (λ_ _ h=>h),rfl⟩
 rw[Rk]
 by_cases e:L.getD j []=x
 .rw[aS e,Ff E.nodup om m (e.trans hx.symm)]
 .rw[aQ e]
  refine lk j ?_
  rcases Nat.lt_or_ge j i with h|h
  .exact h
  .exact absurd (by rw[show j=i by omega];exact hx) e
set_option maxRecDepth 100000
set_option maxRecDepth 100000
theorem Zo {n:Nat}{a:List Nat}(A:bJ n a)(m:n<=7):fC a n∣420:=by
 unfold fC;rw[tX];intro c h;obtain⟨l,d,rfl⟩:=oG.1 h;obtain⟨i,hi,rfl⟩:=oG.1 d;have b:i<n:=by unfold Mv at hi;exact mS.1 (Gh.1 hi).1
 rw[yS];have f:=(mX A b).1;have j:=CP A b;have: ∀k,k<8->0<k->k∣420:=deC
 exact this _ om f
noncomputable def We (n:Nat)(L:LN)(K:List Nat):Nat:=pZ (K.map λr=>fC (L.getD r []) n)
theorem aeP {W0:Nat->Prop}(vc:V)(n:Nat)(O:LN)(R:nZ)(G:List Nat->Prop)(h:H)(l:GC W0 h vc n O R G)(L:LN)(hL:cK O R n 0 (bI n)=L)(a9:(eK G L L.length).length<=12):
  Ev T 14 [vc] h (λv h'=> ∃K,vU n G L K/\v= .tup [aC (We n L K:Nat),aC 0]/\Fr h h'):=by
 obtain⟨vO,vR,e,sO,sR⟩:=l.ch
 subst e
 have a1:vO.one=true:=NB sO
 have a5:vR.one=true:=KY sR
 obtain⟨A,hA⟩:=exI h.next
 obtain⟨h1,e1,n1,g1,o1,f1⟩:=iI hA [aC n,vO,vR]
 have bx:=dH h (v:= aC n) (u:=vO) (w:=vR) rfl a1 a5
 have rB:=bU g1
 refine Nk bx hA e1 rB ?_
 refine (GM _ n O R G h1 (l.mono f1) (by rw[hL];exact a9)).mono ?_
 rw[hL]
 rintro _ h2 ⟨p,K,rfl,go,ik,f2⟩
 obtain⟨B,M,N,S,cp,vL,ks,rfl,hB,hM,hN,hS,gB,gM,gN,gS,aK,sp⟩:=go.ex
 have c2:h2.cell B 2=some (.sl S 0 K.length cp):=by rw[H.cell_of gB];rfl
 have c6:=bH.length aK
 have E:=(dV l.kT l.isc).1
 have a8:=(dV l.kT l.isc).2
 have c9:=kF l
 rw[hL] at E a8
 have c4:K.length<=5040:=by
  have h1:=ik.perm.length_eq;have h2:=tU (G:=G) (L:=L) L.length;omega
 obtain⟨W,hW⟩:=exI ((K.map λr=>fC (L.getD r []) n))
 have c8:W.length=K.length:=by rw[<-hW,dO]
 have Z: ∀c∈W,c∣420:=λc Q=>by
  rw[<-hW] at Q;obtain⟨r,hr,rfl⟩:=oG.1 Q;exact Zo (jZ l.kT E (mL.1 (ik.perm.mem_iff.1 hr)).1) l.n7
 have t: ∀k,pZ (W.take k)<=420/\0<pZ (W.take k):=λk=>by
  have h1:pZ (W.take k)∣420:=(tX _ _).2 λc Q=>Z c (List.mem_of_mem_take Q)
  exact⟨Nat.le_of_dvd om h1,Nat.pos_of_dvd_of_pos h1 om⟩
 refine aT ?_
 refine bV (λQ=>(Q rfl).elim) (λ_=>?_)
 refine bM c2 ?_
 refine dG (λvs s=>(∃g:Nat->V,vs= [g 0,g 1,g 2,g 3,g 4,g 5,aC (pZ W:Nat),g 7,g 8,g 9,g 10,g 11,g 12,g 13,g 14,g 15])/\Fr h2 s) ?_ ?_
 .refine aP (λf vs s=> ∃(k:Nat),(∃g:Nat->V,vs= [g 0,g 1,g 2,g 3,g 4,g 5,aC (pZ (W.take k):Nat),g 7,g 8,g 9,g 10,.sl S 0 K.length cp,aC (K.length:Int),aC k,g 14,g 15])/\k<=K.length/\Fr h2 s/\f=K.length-k) K.length
   ⟨0,aD rfl,fY _,Fr.refl _,rfl⟩ ?_
  rintro f b h9 ⟨k,⟨g,rfl⟩,hk,F9,rfl⟩
  by_cases i:(k:Int)<(K.length:Int)
  case neg=>
   have d4:=bZ i;obtain rfl:k=K.length:=om
   refine bM d4 ?_;rw[Nb om];exact⟨aD rfl,F9⟩
  have d4:=cV i
  have z:k<K.length:=om
  have a3:k<ks.length:=om
  obtain⟨a,ea⟩:=exI (ks[k])
  have ka:=bH.get aK k a3 z
  rw[ea] at ka
  have b7:a.ord=W.getD k 0:=by rw[ka.ord,<-hW,mZ _ (d:=0) z,Pm.cM z]
  have a7:h9.get S=cE (Cls.nT ks):=by rw[F9.get _ hS];exact gS
  have b9:h9.row S (k*4) 4=some a.enc:=by
   have:=tQ (pre:= []) (by simpa using a7) a3;rw[ea] at this;simpa using this
  obtain⟨Y,hY⟩:=exI h9.next
  obtain⟨ha,b3,na,ga,oa,fa⟩:=iI hY [.aH,aC 0,aC 0,.aH]
  obtain⟨U,b1,nb,gb,ob⟩:=xN ha Y a.enc
  have J:U.cell Y 1=some (aC (a.ord:Int)):=by rw[H.cell_of gb];rfl
  have b8:Fr h9 U:=⟨om,λq hq=>by rw[ob q om,oa q om]⟩
  obtain⟨m,hm⟩:=exI (pZ (W.take k))
  obtain⟨o,ho⟩:=exI (W.getD k 0)
  have c0:=t k
  have a2:=t (k+1)
  have hs:=zU W k om
  rw[hm] at c0
  rw[hm,ho] at hs
  have j:o∣420:=by rw[<-ho];exact Z _ (bF om)
  have c5:o<=420:=Nat.le_of_dvd om j
  have a6:0<o:=Nat.pos_of_dvd_of_pos j om
  rw[b7,ho] at J
  rw[hm]
  refine Ux d4 b9 hY b3 @Ru ga @Tq b1 J ?_
  refine dG (λvs s=>(∃g:Nat->V,vs= [g 0,g 1,g 2,g 3,g 4,g 5,aC m,.ptr Y 0,aC (Nat.gcd m o:Nat),g 9,g 10,.sl S 0 K.length cp,aC (K.length:Int),aC k,g 14,g 15])/\Fr U s) ?_ ?_
  .refine aP (λf b s=> ∃(x y:Nat),(∃g:Nat->V,b= [g 0,g 1,g 2,g 3,g 4,g 5,aC m,.ptr Y 0,aC x,aC y,g 10,.sl S 0 K.length cp,aC (K.length:Int),aC k,g 14,g 15])/\x<1000000/\y<1000000/\Nat.gcd x y=Nat.gcd m o/\Fr U s/\f=y) o
    ⟨m,o,aD rfl,om,om,rfl,(Fr.refl U).cU om,rfl⟩ ?_
   rintro f b s ⟨x,y,⟨g2,rfl⟩,hx,hy,hg,F,hk⟩
   subst hk
   by_cases i:(0:Int)<(f:Int)
   .have d1:=cV i
    have hz:(f:Int)≠0:=om
    have b4:(x:Int).tmod (f:Int)=((x%f:Nat):Int):=Bv x f
    have c1:=Nat.mod_lt x (show f>0 by omega)
    refine iG d1 hz b4 ?_
    exact⟨x%f,c1,f,x%f,aD rfl,hy,om,by rw[Nat.gcd_comm,<-Nat.gcd_rec,Nat.gcd_comm];exact hg,F.cU om,rfl⟩
   .have d1:=bZ i
    obtain rfl:f=0:=om
    refine bM d1 ?_
    rw[<-hg,Nat.gcd_zero_right]
    exact⟨aD rfl,F⟩
  rintro b b6 ⟨⟨g2,rfl⟩,Fc⟩
  obtain⟨q,hq⟩:=exI (Nat.gcd m o)
  rw[hq]
  rw[hq] at hs
  have c7:0<q:=by rw[<-hq];exact Nat.gcd_pos_of_pos_right _ a6
  have b0:(q:Int)≠0:=om
  have a0:(m:Int).tdiv (q:Int)=((m/q:Nat):Int):=by rw[Int.tdiv_eq_ediv_of_nonneg om];rfl
  have c3:m/q<=m:=Nat.div_le_self _ _
  have P:((m/q:Nat):Int)*(o:Int)=((pZ (W.take (k+1)):Nat):Int):=by rw[hs,Int.natCast_mul]
  generalize m/q=d at a0 c3 P hs
  have b5:b6.cell Y 1=some (aC o):=by rw[Fc.cell om];exact J
  have b2:=a2.1
  obtain⟨m2,a4⟩:=exI (pZ (W.take (k+1)))
  rw[a4] at P b2
  refine jX b0 a0 P b5 ?_
  rw[fJ k]
  exact⟨K.length-(k+1),om,k+1,by rw[a4];exact aD rfl,om,((F9.trans b8).trans Fc).cU om,rfl⟩
 rintro b h9 ⟨⟨g,rfl⟩,F9⟩
 refine aT ?_
 exact⟨K,ik,by unfold We;rw[hW],(f1.trans f2).trans F9⟩
theorem QM {n:Nat}{G:List Nat->Prop}{L:LN}{K:List Nat}{h:H}{p:V}(go:UH n G L K h p)(F:oK n G)(E:fW G L)(W:n<=7)(u:L.length<1000000)(o:V){i:Nat}(hi:i<L.length)(J:SI h o (zi (L.getD i []))):
  Ev T 68 [p,o] h (λv h'=>v= aC (jJ G L K i:Nat)/\Fr h h'):=by
 obtain⟨B,M,N,S,cp,Q,U,rfl,hB,t,O,Z,r,P,A,R,aK,sp⟩:=go.ex
 have Y:=jZ F E hi
 have a:(L.getD i []).length<=1000:=by rw[Y.len];omega
 have b: ∀z∈L.getD i [],z<256:=λz y=>by have:=Y.lt z y;omega
 have x:=Kl a b
 have k:h.cell B 1=some (.mp M):=by rw[H.cell_of r];rfl
 have j:h.cell B 3=some (.sl N 0 L.length (.kn L.length)):=by rw[H.cell_of r];rfl
 refine Hv k j ?_
 refine (Tj o _ _ a b (J.mono ((Fr.refl h).cU om))).mono ?_
 rintro _ d ⟨rfl,q⟩
 have l:Fr h d:=((Fr.refl h).cU om).trans q
 have f:d.cell B 1=some (.mp M):=by rw[l.cell om];exact k
 have c:d.cell B 3=some (.sl N 0 L.length (.kn L.length)):=by rw[l.cell om];exact j
 have m:d.get M=some (.wmap .str (Vk L L.length)):=by rw[l.get _ t];exact P
 have s:=λz=>Wr E.nodup hi x z
 have w:d.cell N i=some (aC (jJ G L K i:Nat)):=by rw[l.cell O];exact vD A hi
 refine nW f c m s w ?_
 exact⟨by simp [dS],l⟩
theorem Dc {n:Nat}{G:List Nat->Prop}{L:LN}{K:List Nat}(a:oK n G)(E:fW G L)(b:K.Perm (eK G L L.length)){k:Nat}(f:k<K.length){j:Nat}(c:j<L.length):jJ G L K j=k↔cR G L (K.getD k 0) j:=by
 constructor
 .intro h
  obtain⟨i,l,d⟩:=Fy a E b c;have m:=Ir a E b l d;obtain rfl:i=k:=om
  exact (jM.1 d).2
 .intro h
  exact Ir a E b f (jM.2 ⟨c,h⟩)
theorem FY (e:Nat)(c:e<9223372036854775808):arith .and .i64 (e:Int) 1=some (aC (e%2:Nat)):=by
 rw[MK];congr 2;show IntKind.i64.wrap (((BitVec.ofInt 64 (e:Int)&&&BitVec.ofInt 64 (1:Int)).toNat:Nat):Int)=_;have a:(BitVec.ofInt 64 (e:Int)).toNat=e:=by simp [BitVec.toNat_ofInt];omega
 have b:(BitVec.ofInt 64 (1:Int)).toNat=1:=rfl;rw[BitVec.toNat_and,a,b,Nat.and_one_is_mod];exact Ii om om
theorem GH (e:Nat):Vg .shr .i64 (e:Int) 1=some (aC (e/2:Nat)):=by
 unfold Vg;rw[aQ om];simp only;congr 2;show Int.fdiv (e:Int) 2=_;rw[Int.fdiv_eq_ediv_of_nonneg _ om];rfl
theorem agF {n:Nat}{a:List Nat}(A:bJ n a): ∀k,pw n (aZ a a) k=pw n a (2*k)
 |0=>rfl
 |k+1=>by
  show aZ (pw n (aZ a a) k) (aZ a a)=pw n a (2*k+2);rw[agF A k,<-aX (jW A _) A A];rfl
theorem Va {n:Nat}{a:List Nat}(A:bJ n a):pw n a 1=a:=dK A
theorem Kd (u w:V)(n e:Nat)(a:List Nat)(h:H)(hn:n<=1000)(he:e<1000000)(A:bJ n a)(Z:SI h u (zi a))(Y:SI h w (zi (bI n))):
  Ev T 69 [u,w,aC e] h (λv h'=>SI h' v (zi (pw n a e))/\Fr h h'):=by
 refine lG ?_
 refine aP (λc U K=> ∃(q:Nat) (i r:V) (x b:List Nat),(∃g:Nat->V,U= [i,r,aC (q:Int),g 3,g 4,g 5])/\q<1000000/\bJ n x/\bJ n b/\SI K i (zi x)/\SI K r (zi b)/\aZ b (pw n x q)=pw n a e/\Fr h K/\c=q) e
  ⟨e,u,w,a,bI n,aD rfl,he,A,bJ.one n,Z,Y,dK (jW A e),Fr.refl h,rfl⟩ ?_
 rintro c O P ⟨q,i,r,x,b,⟨g,rfl⟩,hl,X,B,s,N,m,F,R⟩
 subst R
 by_cases o:(0:Int)<(c:Int)
 case neg=>
  have z:=bZ o;obtain rfl:c=0:=om
  refine bM z ?_;have f:aZ b (bI n)=pw n a e:=m;rw[cH B] at f;rw[<-f];exact⟨N,F⟩
 have z:=cV o
 have G: ∀k,aZ x (pw n x k)=pw n x (k+1):=λk=>by
  have f:=Rq X 1 k;rw[Va X] at f;rw[<-f,Nat.add_comm]
 have Q:=agF X (c/2)
 rcases Nat.mod_two_eq_zero_or_one c with L|L
 .have d2:decide (((0:Nat):Int)=1)=false:=rfl
  have t:=FY c om
  rw[L] at t
  refine iG z t d2 ?_
  refine (yB i i x x P (by rw[X.len];omega) s s (λj y=>by rw[X.len];exact X.eJ (by rw[<-X.len];exact y))).mono ?_
  rintro J f l
  refine iG @Tf @Jh @GH ?_
  refine⟨c/2,om,c/2,J,r,aZ x x,b,aD rfl,om,X.mul X,B,(l.pv (W:=λ_=>False) id).si,N.mono l.fr,?_,F.trans l.fr,rfl⟩
  rw[Q,show 2*(c/2)=c by omega];exact m
 .have d2:decide (((1:Nat):Int)=1)=true:=rfl
  have t:=FY c om
  rw[L] at t
  refine iG z t d2 ?_
  refine (yB r i b x P (by rw[B.len];omega) N s (λj y=>by rw[X.len];exact B.eJ (by rw[<-B.len];exact y))).mono ?_
  rintro v0 f d
  refine aT ?_
  refine (yB i i x x f (by rw[X.len];omega) (s.mono d.fr) (s.mono d.fr) (λj y=>by rw[X.len];exact X.eJ (by rw[<-X.len];exact y))).mono ?_
  rintro J h3 l
  refine iG @Tf @Jh @GH ?_
  refine⟨c/2,om,c/2,J,v0,aZ x x,aZ b x,aD rfl,om,X.mul X,B.mul X,(l.pv (W:=λ_=>False) id).si,((d.pv (W:=λ_=>False) id).si).mono l.fr,?_,(F.trans d.fr).trans l.fr,rfl⟩
  rw[Q,aX B X (jW X _),G,show 2*(c/2)+1=c by omega];exact m
theorem uE {n:Nat}{G:List Nat->Prop}{L:LN}(j:oK n G)(E:fW G L):0<L.length/\L.getD 0 []=bI n:=by
 have c:=(E.mem _).2 j.one;have a:=PC c;refine⟨a,?_⟩;obtain⟨i,hi,f⟩:=Bj.1 c;have e0:L.getD 0 []=L[0]:=by rw[List.getD,dJ a];rfl
 by_cases h:i=0
 .subst h;rw[e0,f]
 .have d:=Iz.1 E.asc 0 i a hi om
  rw[f] at d;have X:=jZ j E a;rw[e0] at X;rcases one_le X with b|b
  .rw[e0,<-b]
  .exact (d.asymm b).elim
noncomputable def Mr (n:Nat)(G:List Nat->Prop)(L:LN)(K:List Nat)(z:Int)(r:Nat):Nat:=jJ G L K (L.idxOf (pw n (L.getD r []) (z%(fC (L.getD r []) n:Nat)).toNat))
theorem MV (z:Int)(o:Nat)(c:0<o):(z.tmod (o:Int)+(o:Int)).tmod (o:Int)=(((z%(o:Int)).toNat:Nat):Int):=by
 have a:=Int.tmod_lt_of_pos z (show (0:Int)<o by omega);have b:=Int.lt_tmod_of_pos z (show (0:Int)<o by omega);rw[Int.tmod_eq_emod_of_nonneg om,Int.toNat_of_nonneg (Int.emod_nonneg _ om),Int.add_emod_right]
 conv=>rhs;rw[<-Int.mul_tdiv_add_tmod z o,Int.add_comm,Int.add_mul_emod_self_left]
theorem FO {W0:Nat->Prop}(vc:V)(z:Int)(n:Nat)(O:LN)(R:nZ)(G:List Nat->Prop)(h:H)(d:GC W0 h vc n O R G)(L:LN)(hz: -9223372036854775808<=z/\z<9223372036854775808)(hL:cK O R n 0 (bI n)=L)(c8:(eK G L L.length).length<=12):
  Ev T 40 [vc,aC z] h (λv h'=> ∃K vl,vU n G L K/\v= .tup [vl,aC 0]/\SV h' vl 1 (rc K.length λk=> aC (Mr n G L K z (K.getD k 0):Nat))/\vI (λq=>q<h.next) vl/\Fr h h'):=by
 obtain⟨vO,vR,e,sO,sR⟩:=d.ch
 subst e
 have W:vO.one=true:=NB sO
 have b2:vR.one=true:=KY sR
 obtain⟨A,hA⟩:=exI h.next
 obtain⟨h1,e1,n1,g1,o1,f1⟩:=iI hA [aC n,vO,vR]
 have bx:=dH h (v:= aC n) (u:=vO) (w:=vR) rfl W b2
 have rB:=bU g1
 refine Nk bx hA e1 rB ?_
 refine (GM _ n O R G h1 (d.mono f1) (by rw[hL];exact c8)).mono ?_
 rw[hL]
 rintro _ s ⟨p,K,rfl,go,ik,f2⟩
 obtain⟨B,M,N,S,cp,vL,ks,rfl,hB,hM,hN,hS,gB,gM,gN,gS,aK,sp⟩:=go.ex
 have c2:s.cell B 2=some (.sl S 0 K.length cp):=by rw[H.cell_of gB];rfl
 have d6:=bH.length aK
 have E:=(dV d.kT d.isc).1
 have c7:=(dV d.kT d.isc).2
 have d8:=kF d
 rw[hL] at E c7
 have P:=d.kT
 have n7:=d.n7
 have d5:K.length<=5040:=by
  have h1:=ik.perm.length_eq;have s:=tU (G:=G) (L:=L) L.length;omega
 obtain⟨D,hD⟩:=exI s.next
 obtain⟨h3,e3,n3,g3,o3,f3⟩:=iI hD (rc K.length λ_=>aC 0)
 have c1:h3.cell B 2=some (.sl S 0 K.length cp):=by rw[f3.cell hB];exact c2
 refine aT ?_
 refine bV (λhc=>(hc rfl).elim) (λ_=>?_)
 simp(disch:=omega)only[go_sem,c2,anO _ K.length om,hD,e3,c1]
 refine dG (λvs m=>(∃g:Nat->V,vs= [g 0,g 1,g 2,g 3,g 4,g 5,g 6,.sl D 0 K.length (.kn K.length),g 8,g 9,g 10,g 11,g 12,g 13,g 14,g 15])/\m.get D=some (.cells false (rc K.length λk=> aC (Mr n G L K z (K.getD k 0):Nat)))/\D<m.next/\Fr s m) ?_ ?_
 .refine aP (λk' vs m=> ∃(k:Nat),(∃g:Nat->V,vs= [g 0,aC z,g 2,g 3,g 4,.ptr B 0,g 6,.sl D 0 K.length (.kn K.length),g 8,g 9,g 10,g 11,.sl S 0 K.length cp,aC (K.length:Int),aC k,g 15])/\k<=K.length/\m.get D=some (.cells false (rc K.length λj=> aC (if j<k then ((Mr n G L K z (K.getD j 0):Nat):Int) else 0)))/\D<m.next/\Fr s m/\k'=K.length-k) K.length
   ⟨0,aD rfl,fY _,by rw[g3];rfl,om,f3,rfl⟩ ?_
  rintro k' a2 h9 ⟨k,⟨g,rfl⟩,hk,gD,nD,F9,rfl⟩
  by_cases a1:(k:Int)<(K.length:Int)
  case neg=>
   have d4:=bZ a1;obtain rfl:k=K.length:=om
   refine bM d4 ?_;refine⟨aD rfl,?_,nD,F9⟩;rw[gD,bW λj Z=>by rw[aS Z]]
  have d4:=cV a1
  have c:k<K.length:=om
  have a8:k<ks.length:=om
  obtain⟨a,ea⟩:=exI (ks[k])
  have t:=bH.get aK k a8 c
  rw[ea,<-Pm.cM c] at t
  obtain⟨r,hr⟩:=exI (K.getD k 0)
  rw[hr] at t
  have b5:r∈eK G L L.length:=by rw[<-hr];exact ik.perm.mem_iff.1 (bF c)
  have a4:=(mL.1 b5).1
  have b4:h9.get S=some (.cells false (Cls.nT ks)):=by rw[F9.get _ hS];exact gS
  have c3:h9.row S (k*4) 4=some a.enc:=by
   have:=tQ (pre:= []) (by simpa using b4) a8;rw[ea] at this;simpa using this
  obtain⟨Y,hY⟩:=exI h9.next
  obtain⟨ha,b8,na,ga,oa,fa⟩:=iI hY [.aH,aC 0,aC 0,.aH]
  obtain⟨b,c9,nb,gb,ob⟩:=xN ha Y a.enc
  have b1:b.cell Y 0=some a.rep:=by rw[H.cell_of gb];rfl
  have a3:Fr h9 b:=⟨om,λq hq=>by rw[ob q om,oa q om]⟩
  have Fb:=F9.trans a3
  have R1:=jZ P E a4
  have J:b.cell Y 1=some (aC (a.ord:Int)):=by rw[H.cell_of gb];rfl
  obtain⟨o,ho⟩:=exI (fC (L.getD r []) n)
  rw[t.ord,ho] at J
  have o0:0<o:=by rw[<-ho];exact rP R1
  have e4:o<=823543:=by rw[<-ho];exact kQ (Rb R1) (Gr n7)
  have Q:(o:Int)≠0:=om
  have t1:=Int.tmod_lt_of_pos z (show (0:Int)<o by omega)
  have t2:=Int.lt_tmod_of_pos z (show (0:Int)<o by omega)
  have t3:=MV z o o0
  obtain⟨x,hx⟩:=exI ((z%(o:Int)).toNat)
  rw[hx] at t3
  have d9:x<o:=by
   have:=Int.emod_lt_of_pos z (show (0:Int)<o by omega);have:=Int.emod_nonneg z Q;omega
  obtain⟨l0,l1⟩:=uE P E
  have⟨wL,F,aL⟩:=sp
  have b3:=bH.length aL
  rw[dO] at b3
  obtain⟨U,i,c4,a5,b6⟩:=SV.shape F L.length om om
  have se:=Oi aL l0
  rw[l1] at se
  have cl: ∀h',Fr s h'->h'.cell U i=some (wL.getD 0 .undef):=λh' f=>by
   have:=b6 0 om;rw[Nat.add_zero] at this;rw[f.cell (a5 om),this];simp [List.getD,show 0<wL.length by omega]
  generalize hv:wL.getD 0 .undef=ve at cl se
  have b0:Ci 1 vL (aC 0)=some (.ptr U (i+0)):=c4.ixa .i64 0 om om
  rw[Nat.add_zero] at b0
  have a9: ∀h',Fr s h'->h'.cell B 0=some vL:=λh' f=>by rw[f.cell hB,H.cell_of gB];rfl
  simp(disch:=omega)only[go_sem,d4,c3,hY,b8,Ru,ga,Tq,c9,b1,J,Q,t3,a9 b Fb,b0,cl b Fb]
  refine (Kd a.rep ve n x (L.getD r []) _ om om R1 (t.rep.mono (Fb.trans ((Fr.refl b).cU om))) (se.mono (Fb.trans ((Fr.refl b).cU om)))).mono ?_
  rintro v1 c0 ⟨s1,d0⟩
  have a6:Fr b c0:=((Fr.refl b).cU om).trans d0
  have Fc:=Fb.trans a6
  have hP:G (pw n (L.getD r []) x):=by
   have: ∀y,G (pw n (L.getD r []) y):=λy=>by
    induction y with
    |zero=>exact P.one
    |succ y ih=>exact P.mul ih (pX E a4)
   exact this x
  have b7:=(E.mem _).2 hP
  obtain⟨j,Z⟩:=exI (L.idxOf (pw n (L.getD r []) x))
  have l:j<L.length:=by rw[<-Z];exact List.idxOf_lt_length_of_mem b7
  have ej:L.getD j []=pw n (L.getD r []) x:=by
   rw[List.getD,dJ l];subst Z;exact List.getElem_idxOf l
  rw[<-ej] at s1
  refine aT ?_
  refine (QM (go.mono Fc) P E n7 om v1 l s1).mono ?_
  rintro _ hd ⟨rfl,fd⟩
  have Fd:=Fc.trans fd
  have a0:=a6.trans fd
  have a7:=a3.trans a0
  have d1:hd.get D=some (.cells false (rc K.length λj=> aC (if j<k then ((Mr n G L K z (K.getD j 0):Nat):Int) else 0))):=by rw[a7.get D nD];exact gD
  have er:Mr n G L K z r=jJ G L K j:=by unfold Mr;rw[ho,hx,Z]
  have c5:hd.cell Y 0=some a.rep:=by rw[a0.cell om];exact b1
  have c6:=se.dS
  have b9:=t.rep.dS
  have d3:=F.dS
  have pt:=bE (vs:=rc K.length λj=> aC (if j<k then ((Mr n G L K z (K.getD j 0):Nat):Int) else 0)) (off:=k) (by rw[dE];exact c)
  refine wY c5 (cl hd Fd) (a9 hd Fd) c6 b9 d3 d1 pt ?_
  rw[fJ k]
  have d7:=a7.next
  refine⟨K.length-(k+1),om,k+1,aD rfl,om,?_,by show D<hd.next;omega,Fd.set om _,rfl⟩
  rw[iQ,bW λx hx=>?_]
  by_cases ex:x=k
  .rw[aS ex,aS om,ex,hr,er]
  .rw[aQ ex]
   by_cases e2:x<k
   .rw[aS e2,aS om]
   .rw[aQ e2,aQ om]
 rintro a2 h9 ⟨⟨g,rfl⟩,gD,nD,F9⟩
 refine aT ?_
 exact⟨K,_,ik,rfl,SV.all (by rw[dE,jP]) nD gD _,(λe=>by have e:D<A:=e;have:=(f1.trans f2).next;omega),(f1.trans f2).trans F9⟩
set_option maxRecDepth 100000
set_option maxRecDepth 100000
set_option maxRecDepth 100000
structure Plc (l:LN)(x:List Nat)(k:Nat):Prop where
 le:k<=l.length
 lo: ∀i,i<k->rX (l.getD i []) x=true
 hi: ∀i,k<=i->i<l.length->rX (l.getD i []) x=false
theorem Yr (J y:V)(n:Nat)(l:LN)(x:List Nat)(h:H)(hn:n<1000)(hl:l.length<1000000)(hP: ∀g∈l,bJ n g)(X:bJ n x)(W:l.Pairwise Lt)(hv:SP h J l)(hx:SI h y (zi x)):
  Ev T 51 [J,y] h (λv h'=> ∃k:Nat,v= .tup [aC k,.bool (decide (x∈l))]/\Plc l x k/\(x∈l->k<l.length/\l.getD k []=x)/\Fr h h'):=by
 have⟨N,sv,Z⟩:=hv
 have Q:=bH.length Z
 rw[dO] at Q
 have lv:dD J=some (aC (l.length:Int)):=by unfold dD;rw[SV.len sv (n:=l.length) om om];rfl
 obtain⟨id,Y,sh,a0,hc⟩:=SV.shape sv l.length om om
 have a: ∀i,i<l.length->(l.getD i []).length=n:=λi hi=>(hP _ (bF hi)).len
 have mono: ∀i j,i<j->j<l.length->Lt (l.getD i []) (l.getD j []):=λi j t b=>by
  have ei:l.getD i []=l[i]:=by rw[List.getD,dJ om];rfl
  have ej:l.getD j []=l[j]:=by rw[List.getD,dJ b];rfl
  rw[ei,ej];exact Iz.1 W i j om b t
 have cell: ∀r,Fr h r-> ∀i,i<l.length->r.cell id (Y+i)=some (N.getD i .undef):=λr f i hi=>by
  rw[f.cell (a0 om),hc i om];simp [List.getD,show i<N.length by omega]
 refine pM lv ?_
 refine dG (λvs r=> ∃k,(∃g:Nat->V,vs= [J,y,g 2,g 3,aC (k:Nat),g 5,g 6,g 7,g 8])/\Plc l x k/\Fr h r) ?_ ?_
 .refine aP (λk' d r=> ∃(i j:Nat),(∃g:Nat->V,d= [J,y,g 2,g 3,aC i,aC j,g 6,g 7,g 8])/\i<=j/\j<=l.length/\(∀q,q<i->rX (l.getD q []) x=true)/\(∀q,j<=q->q<l.length->rX (l.getD q []) x=false)/\Fr h r/\k'=j-i) l.length
   ⟨0,l.length,aD rfl,om,om,λm hm=>om,λm t b=>om,Fr.refl h,rfl⟩ ?_
  rintro k' d r ⟨i,j,⟨g,rfl⟩,a1,hj,L,G,F,rfl⟩
  by_cases A:(i:Int)<(j:Int)
  case neg=>
   have e1:=bZ A;obtain rfl:i=j:=om
   refine bM e1 ?_;exact⟨i,aD rfl,⟨hj,L,G⟩,F⟩
  have e1:=cV A
  obtain⟨m,hm⟩:=exI ((i+j)/2)
  have ea:(i:Int)+(j:Int)=((i+j:Nat):Int):=om
  have K:((i+j:Nat):Int).tdiv 2=(m:Int):=by rw[Int.tdiv_eq_ediv_of_nonneg om];omega
  have B:=cell r F m om
  have sm:=Oi Z (i:=m) om
  generalize N.getD m .undef=vm at B sm
  refine nW e1 ea K @sh.ixa B ?_
  refine (aeR vm y n _ x r om (a m om) X.len (sm.mono F) (hx.mono F)).mono ?_
  rintro _ w ⟨rfl,P⟩
  cases hl2:rX (l.getD m []) x with
  |true=>
   refine aT ?_;rw[fJ m];refine⟨j-(m+1),om,m+1,j,aD rfl,om,hj,λq U=>?_,G,F.trans P,rfl⟩
   by_cases e:q=m
   .rw[e];exact hl2
   .have t:=mono q m om om
    have b:=(mO (by rw[a m om,X.len])).1 hl2;exact (mO (by rw[a q om,X.len])).2 (Lt.trans (by rw[a q om,a m om]) t b)
  |false=>
   refine aT ?_;refine⟨m-i,om,i,m,aD rfl,om,om,L,λq t b=>?_,F.trans P,rfl⟩
   by_cases e:q=m
   .rw[e];exact hl2
   .rw[<-Bool.not_eq_true]
    intro w;have o:=mono m q om b;have z:=(mO (by rw[a q b,X.len])).1 w;rw[(mO (by rw[a m om,X.len])).2 (Lt.trans (by rw[a q b,a m om]) o z)] at hl2;cases hl2
 rintro d b ⟨k,⟨g,rfl⟩,O,F⟩
 have c:x∈l->k<l.length/\l.getD k []=x:=λR=>by
  obtain⟨q,U,eq⟩:=Bj.1 R;have s:l.getD q []=x:=by rw[List.getD,dJ U,<-eq];rfl
  have t:k<=q:=Nat.le_of_not_lt λw=>by
   have:=O.lo q w;rw[s,vN] at this;cases this
  have b:k=q:=Nat.le_antisymm t (Nat.le_of_not_lt λw=>by
   have o:=mono k q w U;rw[s] at o;have z:=O.hi k (dN _) om;rw[(mO (by rw[a k om,X.len])).2 o] at z
   cases z)
  exact⟨om,by rw[b];exact s⟩
 by_cases hk:(k:Int)<(l.length:Int)
 .have e1:=cV hk
  have B:=cell b F k om
  have sm:=Oi Z (i:=k) om
  generalize N.getD k .undef=vm at B sm
  refine jX lv e1 @sh.ixa B ?_
  refine (Ry vm y _ _ b (sm.mono F) (hx.mono F) (by rw[bD,a k om];omega) (by rw[bD,X.len];omega)).mono ?_
  rintro _ w ⟨rfl,P⟩
  have K:decide (zi (l.getD k [])=zi x)=decide (x∈l):=by
   rw[decide_eq_decide];constructor
   .intro o
    have z:l.getD k []=x:=List.map_inj_right (λu v b=>om)|>.1 o;rw[<-z];exact bF om
   .intro o;rw[(c o).2]
  refine bM K ?_
  exact⟨k,rfl,O,c,F.trans P⟩
 .have e1:=bZ hk
  have K:decide (x∈l)=false:=bZ λo=>by have:=(c o).1;omega
  refine eZ lv e1 ?_
  exact⟨k,by rw[K],O,c,F⟩
theorem Zn (b d:V)(n:Nat)(l:LN)(x:List Nat)(h:H)(q:n<1000)(j:l.length<1000000)(m: ∀g∈l,bJ n g)(X:bJ n x)(c:l.Pairwise Lt)(i:SP h b l)(o:SI h d (zi x)):
  Ev T 207 [b,d] h (λv h'=>((∃k:Nat,v= aC k/\k<l.length/\l.getD k []=x)\/x∉l/\v= aC (-1))/\Fr h h'):=by
 refine lG ?_
 refine (Yr b d n l x h q j m X c i o).mono ?_
 rintro _ r ⟨k,rfl,s,f,F⟩
 by_cases a:x∈l
 .have e1:=cV a
  refine bM e1 ?_
  exact⟨.inl ⟨k,rfl,f a⟩,F⟩
 .have e1:=bZ a
  refine bM e1 ?_
  exact⟨.inr ⟨a,trivial⟩,F⟩
theorem Sg {g:Nat}(B:T g=some fM.fn)(u w:V)(a b:List (List Int))(h:H)(hu:SR h u a)(hw:SR h w b)(la:a.length<1000000)(lb:b.length<1000000)(ra: ∀x∈a,x.length<1000000)(rb: ∀x∈b,x.length<1000000):
  Ev T g [u,w] h (λv h'=>v= .bool (decide (a=b))/\Fr h h'):=by
 refine vZ B rfl ?_
 have y:=hu.lens
 have lw:=hw.lens
 have⟨Z,sa,aa⟩:=hu
 have⟨G,sb,ab⟩:=hw
 have a1:=bH.length aa
 have a0:=bH.length ab
 obtain⟨id,s,sh,t,hc⟩:=SV.shape sa a.length om om
 obtain⟨r,k,U,d,R⟩:=SV.shape sb b.length om om
 by_cases P:(a.length:Int)=(b.length:Int)
 case neg=>
  have L:=cV P;simp(disch:=omega)only[go_sem,fM,aV,y,lw,L];exact⟨by rw[bZ];intro e;exact P (by rw[e]),Fr.refl h⟩
 have Q:a.length=b.length:=om
 have L:decide ((a.length:Int)≠(b.length:Int))=false:=bZ (by simpa using P)
 simp(disch:=omega)only[go_sem,fM,aV,y,lw,L]
 refine aP (λk' f c=> ∃(i:Nat),(∃g:Nat->V,f= [u,w,g 2,aC i,g 4,g 5,g 6])/\i<=a.length/\(∀j,j<i->a.getD j []=b.getD j [])/\Fr h c/\k'=a.length-i) a.length
  ⟨0,aD rfl,fY _,λj hj=>om,Fr.refl h,rfl⟩ ?_
 rintro k' f c ⟨i,⟨g,rfl⟩,hi,hs,F,rfl⟩
 by_cases l:(i:Int)<(a.length:Int)
 case neg=>
  have e1:=bZ l;obtain rfl:i=a.length:=om
  refine eZ y e1 ?_
  have:a=b:=by
   refine List.ext_getElem Q λj h1 h2=>?_
   have:=hs j h1;rwa [List.getD,dJ h1,List.getD,dJ h2] at this
  exact⟨by rw[cV this],F⟩
 have e1:=cV l
 have N:c.cell id (s+i)=some (Z.getD i .undef):=by
  rw[F.cell (t om),hc i om];simp [List.getD,show i<Z.length by omega]
 have O:c.cell r (k+i)=some (G.getD i .undef):=by
  rw[F.cell (d om),R i om];simp [List.getD,show i<G.length by omega]
 have W:=Mz aa (i:=i) om
 have J:=Mz ab (i:=i) om
 generalize Z.getD i .undef=va at N W
 generalize G.getD i .undef=vb at O J
 have n:=W.dS
 have o:=J.dS
 refine wE y e1 @sh.ixa N @U.ixa O ?_
 refine (Ry va vb _ _ _ (W.mono (F.trans ((Fr.refl c).cU om))) (J.mono (F.trans ((Fr.refl c).cU om))) (ra _ (bF om)) (rb _ (bF om))).mono ?_
 rintro _ z ⟨rfl,Y⟩
 have F3:=F.trans (((Fr.refl c).cU om).trans Y)
 have m:z.cell id (s+i)=some va:=by
  have K:Fr c z:=((Fr.refl c).cU om).trans Y;rw[K.cell (by have:=t om;have:=F.next;omega)];exact N
 have q:z.cell r (k+i)=some vb:=by
  have K:Fr c z:=((Fr.refl c).cU om).trans Y;rw[K.cell (by have:=d om;have:=F.next;omega)];exact O
 by_cases A:a.getD i []=b.getD i []
 .have d2:=cV A
  refine nW d2 m q n o ?_
  rw[fJ i]
  refine⟨a.length-(i+1),om,i+1,aD rfl,om,λj hj=>?_,F3,rfl⟩
  by_cases e:j=i
  .rw[e];exact A
  .exact hs j om
 .have d2:=bZ A
  refine nW d2 m q n o ?_
  exact⟨by rw[bZ];intro e;exact A (by rw[e]),F3⟩
theorem Ed (u w:V)(a b:List (List Int))(h:H)(d:SR h u a)(c:SR h w b)(la:a.length<1000000)(lb:b.length<1000000)(i: ∀x∈a,x.length<1000000)(f: ∀x∈b,x.length<1000000):
  Ev T 38 [u,w] h (λv h'=>v= .bool (decide (a=b))/\Fr h h'):=Sg fM.ok u w a b h d c la lb i f
set_option maxRecDepth 100000
set_option maxRecDepth 100000
set_option maxRecDepth 100000
set_option maxRecDepth 100000
theorem PR {ks:List Cls.KE}{i:Nat}(hi:i<ks.length):(pH ks)[i*3]? =some ks[i].rep/\(pH ks)[i*3+1]? =some (aC (ks[i].ord:Int))/\(pH ks)[i*3+2]? =some (aC (ks[i].size:Int)):=by
 induction ks generalizing i with
 |nil=>simp at hi
 |cons a r ih=>
  have e:pH (a::r)= [a.rep,aC (a.ord:Int),aC (a.size:Int)]++pH r:=rfl
  cases i with
  |zero=>exact⟨rfl,rfl,rfl⟩
  |succ i=>
   have b:=ih (i:=i) (by simpa using hi);rw[e,show (i+1)*3=i*3+3 by omega];refine⟨?_,?_,?_⟩
   .rw[Hs siM];exact b.1
   .rw[Hs siM];exact b.2.1
   .rw[Hs siM];exact b.2.2
noncomputable def quK (G:List Nat->Prop)(L:LN)(K:List Nat)(a k:Nat):Nat:=jJ G L K (L.idxOf (aZ (bY (L.getD a [])) (L.getD (K.getD k 0) [])))
noncomputable def Jz (G:List Nat->Prop)(L:LN)(K:List Nat)(i k t j:Nat):Nat:=((List.range t).filter λa=>decide (jJ G L K a=i/\quK G L K a k=j)).length
noncomputable def mW (G:List Nat->Prop)(L:LN)(K:List Nat)(i j k:Nat):Nat:=Jz G L K i k L.length j
section
variable {n:Nat} {G:List Nat->Prop} {L:LN} {K:List Nat}
theorem Fw (i k t j:Nat):Jz G L K i k (t+1) j=Jz G L K i k t j+if jJ G L K t=i/\quK G L K t k=j then 1 else 0:=by
 unfold Jz;rw[List.range_succ,List.filter_append,eE]
 by_cases h:jJ G L K t=i/\quK G L K t k=j<;>simp [h]
theorem acO (i k t j:Nat):Jz G L K i k t j<=t:=by
 unfold Jz;exact kQ (List.length_filter_le _ _) (by rw[gT];exact dN _)
def Zy (p:Nat×Nat):V:= .agg [aC (p.1:Int),aC (p.2:Int)]
def PkP (p:Nat×Nat):Prop:=p.1<1000000/\p.2<1000000
theorem Rg (a b:Nat×Nat)(_:PkP a)(_:PkP b):dS (Zy a) (Zy b)=decide (a=b):=by
 show qE [_,_] [_,_]=_;simp only[qE,dS,Bool.and_true,beq_self_eq_true,Bool.true_and];rw[Ri,oD,beq_iff_eq,beq_iff_eq,xF,Prod.ext_iff];omega
theorem Io (a:Nat×Nat)(h:PkP a):isKey (.arr 2 .i64) (Zy a)=true:=by
 have⟨b,c⟩:=h;unfold isKey Zy;have e1:IntKind.min .i64= -9223372036854775808:=rfl;have e2:IntKind.max .i64=9223372036854775807:=rfl;simp only[List.all_cons,List.all_nil,e1,e2,Bool.and_true,oD,xF];exact⟨rfl,⟨trivial,om,om⟩,trivial,om,om⟩
theorem PZ (x y:Int):mP [aC 0,aC 0] [(0,1,aC x),(1,1,aC y)]=some (.agg [aC x,aC y]):=rfl
theorem amB {h:H}{id o:Nat}{a b c:V}(i:h.cell id o=some a)(d:h.cell id (o+1)=some b)(f:h.cell id (o+2)=some c):h.row id o 3=some [a,b,c]:=by
 unfold H.cell at i d f;unfold H.row;split at i
 .rename_i r j e
  rw[e] at d f;have d:j[o+1]? =some b:=d;have f:j[o+2]? =some c:=f;obtain⟨la,m⟩:=Iq.1 i;obtain⟨lb,q⟩:=Iq.1 d;obtain⟨k,l⟩:=Iq.1 f
  try rw[e]
  simp only[sub];rw[aS om,EF la,EF lb,EF k,m,q,l]
  rfl
 .cases i
structure KS (n:Nat)(G:List Nat->Prop)(L:LN)(hh:H)(a:Cls.KE)(r:Nat):Prop where
 ord:a.ord=fC (L.getD r []) n
 size:a.size=(iK G L r).length
 rep:SI hh a.rep (zi (L.getD r []))
theorem JE {a:H}{b:V}{ks:List Cls.KE}(w:K.length<1000000)(s:SV a b 3 (pH ks))(al:bH (KS n G L a) ks K):
  dD b=some (aC (K.length:Int))/\dS b b=true/\ ∃id off,Sl b 3 K.length id off/\ ∀k,k<K.length->id<a.next/\ ∃rep,a.cell id (off+k*3)=some rep/\a.cell id (off+k*3+2)=some (aC ((iK G L (K.getD k 0)).length:Int))/\a.row id (off+k*3) 3=some [rep,aC (fC (L.getD (K.getD k 0) []) n:Int),aC ((iK G L (K.getD k 0)).length:Int)]/\SI a rep (zi (L.getD (K.getD k 0) [])):=by
 have c:=bH.length al
 have m:=zJ ks
 obtain⟨id,off,v,j,l⟩:=s.shape K.length (by rw[m,c]) om
 refine⟨by unfold dD;rw[SV.len s (n:=ks.length) m om,c];rfl,s.dS,id,off,v,λk o=>?_⟩
 obtain⟨r,u,t⟩:=PR (ks:=ks) (i:=k) om
 have d:=bH.get al k om o
 rw[<-Pm.cM o] at d
 have q:=(l (k*3) om).trans r
 have h:=(l (k*3+1) om).trans u
 have f:=(l (k*3+2) om).trans t
 rw[d.ord] at h
 rw[d.size] at f
 rw[<-Nat.add_assoc] at h f
 exact⟨j om,_,q,f,amB q h f,d.rep⟩
theorem Df {a:H}{b:V}{ks:List Cls.KE}(c:K.length<1000000)(s:SV a b 3 (pH ks))(al:bH (KR n G L a) ks K):
  dD b=some (aC (K.length:Int))/\dS b b=true/\ ∃id off,Sl b 3 K.length id off/\ ∀k,k<K.length->id<a.next/\ ∃rep,a.cell id (off+k*3)=some rep/\a.cell id (off+k*3+2)=some (aC ((iK G L (K.getD k 0)).length:Int))/\a.row id (off+k*3) 3=some [rep,aC (fC (L.getD (K.getD k 0) []) n:Int),aC ((iK G L (K.getD k 0)).length:Int)]/\SI a rep (zi (L.getD (K.getD k 0) [])):=
 JE c s (al.mono λ_ _ k=>⟨k.ord,k.size,k.rep⟩)
end
section
variable {x:List Nat}
section
variable {n:Nat} {G:List Nat->Prop} {L:LN} {K:List Nat}
theorem Mg (E:fW G L){y:List Nat}(c:G y):L.idxOf y<L.length/\L.getD (L.idxOf y) []=y:=by
 have b:=(E.mem y).2 c;have a:=iLL.2 b;refine⟨a,?_⟩;rw[List.getD,dJ a];simp
theorem vU.lt (k:vU n G L K){r:Nat}(a:r∈K):r<L.length:=(mL.1 (k.perm.mem_iff.1 a)).1
theorem vU.nd (k:vU n G L K):K.Nodup:=k.perm.nodup_iff.2 (by unfold eK;exact List.nodup_range.filter _)
theorem Cu {x c:List Nat}(X:bJ n x)(C:bJ n c): ∀k,bL (pw n x k) c=pw n (bL x c) k
 |0=>by
  show aZ (aZ (bY c) (bI n)) c=bI n;rw[cH C.inv,dX C]
 |k+1=>by
  have P:=jW X k;show bL (aZ (pw n x k) x) c=aZ (pw n (bL x c) k) (bL x c);rw[<-Cu X C k];unfold bL;rw[aX (C.inv.mul P) C (C.inv.mul X|>.mul C),<-aX C (C.inv.mul X) C,<-aX C C.inv X,fH C,dK X,<-aX (C.inv.mul P) X C,aX C.inv P X]
theorem uW {c:List Nat}(X:bJ n x)(C:bJ n c):bL x c=bI n↔x=bI n:=by
 constructor
 .intro h
  have e:=iM X C;rw[h] at e;rw[<-e];show aZ (aZ (bY (bY c)) (bI n)) (bY c)=bI n;rw[cH C.inv.inv,dX C.inv]
 .rintro rfl
  show aZ (aZ (bY c) (bI n)) c=bI n;rw[cH C.inv,dX C]
theorem aaT (X:bJ n x){a b:Nat}(h:a%fC x n=b%fC x n):pw n x a=pw n x b:=by
 rw[QS X a,QS X b,h]
noncomputable def zp (n:Nat)(x:List Nat)(z:Int):List Nat:=pw n x (z%(fC x n:Nat)).toNat
theorem alL (X:bJ n x){z:Int}{a:Nat}(h:(a:Int)%(fC x n:Nat)=z%(fC x n:Nat)):zp n x z=pw n x a:=by
 have o:=rP X;unfold zp;refine aaT X ?_;have d:=Int.emod_nonneg z (b:=(fC x n:Nat)) om;have f:=Int.emod_lt_of_pos z (b:=(fC x n:Nat)) om;have c:(z%(fC x n:Nat)).toNat%fC x n=(z%(fC x n:Nat)).toNat:=Nat.mod_eq_of_lt om;rw[c];omega
theorem aeS (z:Int)(r:Nat):Mr n G L K z r=jJ G L K (L.idxOf (zp n (L.getD r []) z)):=rfl
variable (hG:oK n G) (E:fW G L) (k:vU n G L K)
include hG E k
theorem Ck {j:Nat}(a:j<L.length):jJ G L K j<K.length/\cR G L (K.getD (jJ G L K j) 0) j:=by
 obtain⟨i,hi,h⟩:=Fy hG E k.perm a;have e:=Ir hG E k.perm hi h;rw[e];exact⟨hi,(jM.1 h).2⟩
theorem LY {i j:Nat}(hi:i<L.length)(b:j<L.length)(h:cR G L i j):jJ G L K i=jJ G L K j:=by
 obtain⟨a,c⟩:=Ck hG E k hi;have d:K.getD (jJ G L K i) 0<L.length:=k.lt (bF a);exact ((Dc hG E k.perm a b).2 (pI hG E d c h)).symm
omit hG E k in
theorem Dt (X:bJ n x):fC x n=1↔x=bI n:=by
 constructor
 .intro h
  have:=(mC X 1).1 (by rw[h];exact Nat.dvd_refl _);rwa [Va X] at this
 .intro h
  have:=(mC X 1).2 (by rw[Va X];exact h);exact Nat.dvd_one.1 this
theorem sV:0<K.length/\K.getD 0 0=0:=by
 obtain⟨d,b⟩:=uE hG E;have h:0∈K:=k.perm.mem_iff.2 (mL.2 ⟨d,λj o=>om⟩);have a:=PC h;refine⟨a,?_⟩;obtain⟨i,hi,l⟩:=Bj.1 h
 by_cases e:i=0
 .subst e;rw[List.getD,dJ a];exact l
 .have:=Iz.1 k.asc 0 i a hi om
  rw[l] at this;have e1:fC (L.getD 0 []) n=1:=(Dt (by rw[b];exact bJ.one n)).2 b;have c:K[0]<L.length:=k.lt (Hn a);have X:=jZ hG E c;have p:=rP X;unfold IH at this;rw[e1] at this;have m:fC (L.getD K[0] []) n=1:=om
  have f:=(Dt X).1 m;rw[<-b] at f;have:=Ff E.nodup c d f;rw[List.getD,dJ a];exact this
theorem OH {y:List Nat}(c:G y):jJ G L K (L.idxOf y)=0↔y=bI n:=by
 obtain⟨i,b⟩:=uE hG E;obtain⟨h,a⟩:=sV hG E k;obtain⟨f,d⟩:=Mg E c;rw[Dc hG E k.perm h f,a];unfold cR cj;rw[d,b];constructor
 .rintro⟨g,hg,e⟩
  rw[<-e];exact (uW (bJ.one n) (hG.cF hg)).2 rfl
 .rintro rfl
  exact⟨bI n,hG.one,qQ (bJ.one n)⟩
omit hG E k in
theorem lcm_pos:(l:List Nat)->(m:Nat)->0<m->(∀c∈l,0<c)->0<l.foldl (λm c=>m/Nat.gcd m c*c) m
 | [],m,h,_=>h
 |c::l,m,h,hc=>by
  rw[List.foldl_cons];refine lcm_pos l _ ?_ λd a=>hc d (by simp [a])
  rw[Vz];exact Nat.lcm_pos h (hc c siM)
theorem XF:0<We n L K:=by
 unfold We pZ;refine lcm_pos _ 1 Nat.one_pos λc a=>?_
 obtain⟨r,b,rfl⟩:=oG.1 a;exact rP (jZ hG E (k.lt b))
end
end
theorem Vu (n:Nat)(c:Int)(p:Nat->Prop)[DecidablePred p]:sm n (λa=>if p a then c else 0)=c*(((List.range n).filter λa=>decide (p a)).length:Nat):=by
 induction n with
 |zero=>simp [oZ]
 |succ n ih=>
  rw[bQ,ih,List.range_succ,List.filter_append,eE]
  by_cases h:p n
  .simp [h,Int.mul_add]
  .simp [h]
theorem qN {x y:Int}{X Y:Nat}(b: -(X:Int)<=x/\x<=X)(a: -(Y:Int)<=y/\y<=Y): -((X*Y:Nat):Int)<=x*y/\x*y<=((X*Y:Nat):Int):=by
 have h:(x*y).natAbs<=X*Y:=by
  rw[Int.natAbs_mul];exact Nat.mul_le_mul om om
 omega
theorem uS {n:Nat}{a b x:List Nat}(A:bJ n a)(B:bJ n b)(X:bJ n x):bL (aZ a b) x=aZ (bL a x) (bL b x):=by
 unfold bL;rw[aX (X.inv.mul A) X (X.inv.mul B|>.mul X),<-aX X (X.inv.mul B) X,<-aX X X.inv B,fH X,dK B,<-aX (X.inv.mul A) B X,aX X.inv A B]
theorem Jr {n:Nat}{g c x:List Nat}(a:bJ n g)(C:bJ n c)(X:bJ n x):bL (bL g x) (bL c x)=bL (bL g c) x:=by
 have e:aZ x (bL c x)=aZ c x:=by
  unfold bL;rw[<-aX X (X.inv.mul C) X,<-aX X X.inv C,fH X,dK C]
 rw[<-lF a X (iN C X),e,lF a C X]
theorem Gs {n:Nat}{a b x:List Nat}(A:bJ n a)(B:bJ n b)(X:bJ n x)(h:bL a x=bL b x):a=b:=by
 rw[<-iM A X,h,iM B X]
def gs:LN->(List Nat->Int)->Int
 | [],_=>0
 |x::l,f=>f x+gs l f
theorem eS {f g:List Nat->Int}:{l:LN}->(∀x∈l,f x=g x)->gs l f=gs l g
 | [],_=>rfl
 |x::l,h=>by
  rw[gs,gs,h x siM,eS λy a=>h y (by simp [a])]
theorem Rx {f:List Nat->Int}{l m:LN}(p:l.Perm m):gs l f=gs m f:=by
 induction p with
 |nil=>rfl
 |cons x _ ih=>rw[gs,gs,ih]
 |swap x y l=>rw[gs,gs,gs,gs];omega
 |trans _ _ h1 h2=>rw[h1,h2]
theorem Te (φ:List Nat->List Nat)(f:List Nat->Int): ∀l,gs (l.map φ) f=gs l λx=>f (φ x)
 | []=>rfl
 |x::l=>by rw[List.map_cons,gs,gs,Te φ f l]
theorem PT (f g:List Nat->Int): ∀l,gs l (λx=>f x+g x)=gs l f+gs l g
 | []=>rfl
 |x::l=>by rw[gs,gs,gs,PT f g l];omega
theorem Gg (c:Int)(f:List Nat->Int): ∀l,gs l (λx=>c*f x)=c*gs l f
 | []=>by rw[gs,gs,Int.mul_zero]
 |x::l=>by rw[gs,gs,Gg c f l,Int.mul_add]
theorem Uu: ∀l,gs l (λ_=>0)=0
 | []=>rfl
 |x::l=>by rw[gs,Uu l];rfl
theorem GG (f:List Nat->List Nat->Int)(m:LN): ∀l,gs l (λx=>gs m λy=>f x y)=gs m λy=>gs l λx=>f x y
 | []=>(Uu m).symm
 |x::l=>by rw[gs,GG f m l,<-PT];rfl
theorem RA (f:List Nat->Nat->Int)(r:Nat): ∀l,gs l (λx=>sm r λk=>f x k)=sm r λk=>gs l λx=>f x k
 | []=>(wZ r).symm
 |x::l=>by rw[gs,RA f r l,<-tH];rfl
theorem UA (f:List Nat->Int)(l:LN):sm l.length (λa=>f (l.getD a []))=gs l f:=by
 induction l with
 |nil=>rfl
 |cons x l ih=>
  rw[List.length_cons,Dy,gs,<-ih]
  rfl
theorem aiA (x:List Nat)(c:Int){l:LN}(nd:l.Nodup)(a:x∈l):gs l (λy=>if y=x then c else 0)=c:=by
 induction l with
 |nil=>cases a
 |cons y l ih=>
  rw[List.nodup_cons] at nd;rw[gs]
  by_cases e:y=x
  .subst e
   rw[aS rfl,eS (g:=λ_=>0) λz b=>by rw[aQ (λe=>nd.1 (by rw[<-e];exact b))],Uu];omega
  .rw[aQ e,ih nd.2 (by rcases Hu.1 a with h|h;exact absurd h.symm e;exact h)];omega
theorem Sn {α:Type}[DecidableEq α]:{l m:List α}->l.Nodup->m.Nodup->(∀x,x∈l↔x∈m)->l.Perm m
 | [], [],_,_,_=> .nil
 | [],y::m,_,_,h=>by have:=(h y).2 siM;simp at this
 |x::l,m,h1,h2,h=>by
  have b:x∈m:=(h x).1 siM;rw[List.nodup_cons] at h1;refine (List.Perm.cons x (Sn h1.2 (h2.erase x) λy=>?_)).trans (List.perm_cons_erase b).symm;rw[h2.mem_erase_iff,<-h y,Hu];constructor
  .exact λa=>⟨λe=>h1.1 (by rw[<-e];exact a),.inr a⟩
  .rintro⟨hne,rfl|a⟩
   .exact absurd rfl hne
   .exact a
theorem GD {l:LN}(nd:l.Nodup){φ:List Nat->List Nat}(a:(l.map φ).Nodup)(sub: ∀x∈l,φ x∈l){y:List Nat}(f:y∈l):y∈l.map φ:=by
 refine zL λi=>?_
 have h:(y::l.map φ).Nodup:=List.nodup_cons.2 ⟨i,a⟩
 have d:=List.Nodup.length_le_of_subset h (l₂:=l) λz b=>by
  rcases Hu.1 b with rfl|b
  .exact f
  .obtain⟨w,c,rfl⟩:=oG.1 b
   exact sub w c
 rw[List.length_cons,dO] at d;omega
section
variable {n:Nat} {G:List Nat->Prop} {L:LN} {K:List Nat}
theorem SL (E:fW G L)(φ:List Nat->List Nat)(d: ∀x,G x->G (φ x))(h2: ∀x y,G x->G y->φ x=φ y->x=y):(L.map φ).Perm L:=by
 have nd:(L.map φ).Nodup:=by
  rw[Ow,List.pairwise_map];exact (Ow.1 E.nodup).imp_of_mem λf h a e=>a (h2 _ _ ((E.mem _).1 f) ((E.mem _).1 h) e)
 refine Sn nd E.nodup λy=>⟨λb=>?_,λb=>GD E.nodup nd (λx c=>(E.mem _).2 (d x ((E.mem x).1 c))) b⟩
 obtain⟨x,c,rfl⟩:=oG.1 b;exact (E.mem _).2 (d x ((E.mem x).1 c))
theorem BS (E:fW G L)(f:List Nat->Int)(φ:List Nat->List Nat)(a: ∀x,G x->G (φ x))(h2: ∀x y,G x->G y->φ x=φ y->x=y):gs L (λx=>f (φ x))=gs L f:=by
 rw[<-Te,Rx (SL E φ a h2)]
noncomputable def sQ (G:List Nat->Prop)(L:LN)(K:List Nat)(x:List Nat):Nat:=jJ G L K (L.idxOf x)
theorem aiC (E:fW G L){a:Nat}(b:a<L.length):L.idxOf (L.getD a [])=a:=by
 rw[gV,dJ b];exact E.nodup.idxOf_getElem _ _
theorem BV (E:fW G L){a:Nat}(b:a<L.length):sQ G L K (L.getD a [])=jJ G L K a:=by unfold sQ;rw[aiC E b]
end
section
variable {x c:List Nat} {k i j:Nat}
theorem tT {n:Nat}(X:bJ n x)(C:bJ n c):bL (bY x) c=bY (bL x c):=by
 unfold bL;rw[Jt (C.inv.mul X) C,Jt C.inv X,uG C,<-aX C.inv X.inv C]
noncomputable def SZ (G:List Nat->Prop)(L:LN)(K:List Nat)(i j:Nat)(z:List Nat):Int:=gs L λx=>if sQ G L K x=i/\sQ G L K (aZ (bY x) z)=j then 1 else 0
noncomputable def lI (G:List Nat->Prop)(L:LN)(K:List Nat)(k:Nat):Nat:=(iK G L (K.getD k 0)).length
section
variable {n:Nat} {G:List Nat->Prop} {L:LN} {K:List Nat} (hG:oK n G) (E:fW G L) (ik:vU n G L K)
include hG E ik
theorem Jg (a:G x):sQ G L K x<K.length:=(Ck hG E ik (Mg E a).1).1
theorem yE (a:k<K.length):sQ G L K (L.getD (K.getD k 0) [])=k:=by
 have h:=ik.lt (bF (d:=0) a);rw[BV E h];exact (Dc hG E ik.perm a h).2 (Da hG E h)
theorem oY {y:List Nat}(m:G x)(l:G y):sQ G L K x=sQ G L K y↔cj G x y:=by
 obtain⟨a,e1⟩:=Mg E m;obtain⟨h,e2⟩:=Mg E l;have f:=Ck hG E ik a;have b:=Ck hG E ik h;unfold sQ;constructor
 .intro e
  rw[<-e] at b;have:=pI hG E a (Cg hG E (ik.lt (bF (d:=0) f.1)) f.2) b.2;unfold cR at this;rwa [e1,e2] at this
 .intro c
  refine LY hG E ik a h ?_;unfold cR;rw[e1,e2];exact c
theorem Un (b:G x)(a:G c):sQ G L K (bL x c)=sQ G L K x:=
 ((oY hG E ik b (Gn hG b ⟨c,a,rfl⟩)).2 ⟨c,a,rfl⟩).symm
theorem Jx (d:k<K.length):((lI G L K k:Nat):Int)=gs L λx=>if sQ G L K x=k then 1 else 0:=by
 unfold lI iK;rw[<-UA];have:=Vu L.length 1 λa=>jJ G L K a=k
 rw[Int.one_mul] at this;rw[aU (g:=λa=>if jJ G L K a=k then 1 else 0) λa b=>by rw[BV E b],this];congr 2;refine List.filter_congr λa b=>?_
 rw[decide_eq_decide];exact (Dc hG E ik.perm d (mS.1 b)).symm
omit hG ik in
theorem ajH:((mW G L K i j k:Nat):Int)=SZ G L K i j (L.getD (K.getD k 0) []):=by
 unfold SZ;rw[<-UA];unfold mW Jz;have:=Vu L.length 1 λa=>jJ G L K a=i/\quK G L K a k=j
 rw[Int.one_mul] at this;rw[<-this];exact aU λa b=>by rw[BV E b];rfl
theorem ZG {z:List Nat}(f:G z)(d:G c):SZ G L K i j (bL z c)=SZ G L K i j z:=by
 unfold SZ;have C:=hG.cF d
 rw[<-BS E _ (λx=>bL x c) (λx b=>Gn hG b ⟨c,d,rfl⟩) λx y b h e=>by
  have:=congrArg (λw=>bL w (bY c)) e
  simpa only[iM (hG.cF b) C,iM (hG.cF h) C] using this]
 refine eS λx b=>?_
 have a:=(E.mem x).1 b;have X:=hG.cF a;rw[Un hG E ik a d,<-tT X C,<-uS X.inv (hG.cF f) C,Un hG E ik (hG.mul (hG.inv a) f) d]
theorem akQ {z:List Nat}(b:G z):SZ G L K i j z=((mW G L K i j (sQ G L K z):Nat):Int):=by
 have a:=Jg hG E ik b;rw[ajH E];have f:=pX E (ik.lt (bF (d:=0) a));obtain⟨c,h,e⟩:=(oY hG E ik f b).1 (yE hG E ik a);generalize sQ G L K z=k at*;rw[<-e,ZG hG E ik f h]
theorem BM (f:Nat->Int):sm K.length (λk=>f k*((lI G L K k:Nat):Int))=gs L λz=>f (sQ G L K z):=by
 rw[aU (g:=λk=>gs L λz=>f k*if sQ G L K z=k then 1 else 0) λk d=>by rw[Jx hG E ik d,Gg],<-RA];refine eS λz h=>?_
 have b:=(E.mem z).1 h;rw[iP (Jg hG E ik b) (f:=λk=>f k*if sQ G L K z=k then 1 else 0) λk _ a=>by rw[aQ (λe=>a e.symm),Int.mul_zero],aS rfl,Int.mul_one]
end
end
theorem inv_inv {n:Nat}{s:List Nat}(S:bJ n s):bY (bY s)=s:=uG S
theorem yQ {n:Nat}{b:List Nat}(B:bJ n b):bL (bI n) b=bI n:=(uW (bJ.one n) B).2 rfl
theorem Mb {n:Nat}{x g:List Nat}(X:bJ n x)(B:bJ n g):bL (bY x) g=bY (bL x g):=tT X B
section
variable {x s:List Nat}
def dgb (b:Nat):Nat->Nat->List Nat
 |0,_=> []
 |n+1,m=>m%b::dgb b n (m/b)
def Nu (n:Nat):Nat->List Nat:=dgb n n
def adC:List Nat->Nat
 | []=>0
 |d::l=>d+6*adC l
def HQ {α:Type}(f:α->Nat):List α->Nat
 | []=>0
 |x::l=>f x|||HQ f l
def NT (n:Nat)(x:List Nat):Bool:=decide (x.length=n)&&decide x.Nodup&&x.all λi=>decide (i<n)
def adB (n:Nat)(L:List (List Nat)):Nat->Nat->List Nat
 |0,_=>bI n
 |f+1,w=>if w=0 then bI n else match L[w%10- 1]? with|some g=>aZ g (adB n L f (w/10))|none=>bI n
structure rJ where
 gens:List Nat
 els:List Nat
 certs:List (Nat×Nat×Nat×List Nat)
def rJ.g (n:Nat)(r:rJ):List (List Nat):=r.gens.map (Nu n)
def rJ.e (n:Nat)(r:rJ):List (List Nat):=r.els.map (Nu n)
def adX {α β:Type}(p:α->β->Bool):List α->List β->Bool
 | [], []=>true
 |a::l,b::m=>p a b&&adX p l m
 |_,_=>false
def akK (n:Nat)(Rs:List rJ)(k:Nat)(G:List (List Nat))(c:Nat×Nat×Nat×List Nat):Bool:=
 decide (k<c.2.1)&&NT n (Nu n c.1)&&NT n (Nu n c.2.2.1)&&match Rs[c.2.1]? with|some r=>adX (λw g=>bL (adB n (G++ [Nu n c.1]) 30 w) (Nu n c.2.2.1)==g) c.2.2.2 (r.g n)|none=>false
def rpl (gs:List (List Nat)):Nat->List (List Nat)->List (List Nat)->Nat->Bool
 |_,_, [],_=>true
 |0,_,_::_,_=>false
 |_+1, [],_::_,_=>false
 |f+1,p::S,z::r,k=>if gs.any λg=>aZ p g==z then rpl gs f (p::S) r (k+1) else decide (1<k)&&rpl gs f S (z::r) (k- 1)
def ahW (n:Nat)(gs E:List (List Nat)):Bool:=match E with| []=>false|x::r=>x==bI n&&rpl gs (2*E.length+2) (x::r) r 1
def lQ:Nat->List Nat->List (List Nat)
 |0,_=> [[]]
 |f+1,l=>l.flatMap λa=>(lQ f (l.erase a)).map (a:: ·)
def QD (n:Nat)(U:List (List Nat))(Rs:List rJ)(k:Nat)(r:rJ):Bool:=
 ahW n (r.g n) (r.e n)&&(r.g n).all (NT n)&&(r.certs.all λc=>akK n Rs k (r.g n) c)&&
  (HQ (λx=>2^adC x) U&&&(HQ (λx=>2^adC x) (r.e n)|||HQ (λc=>if r.gens.length=0 then HQ (λs=>2^adC (bL (Nu n c.1) s)) (lQ n (List.range n)) else HQ (λa=>HQ (λb=>2^adC (aZ (aZ a (Nu n c.1)) b)) (if r.els.length<18 then r.e n else [bI n])) (r.e n)) r.certs)==HQ (λx=>2^adC x) U)
theorem BZ {P:List Nat->Prop}{gs:List (List Nat)}(b: ∀x,P x-> ∀g∈gs,P (aZ x g)):(f:Nat)->(S r:List (List Nat))->(k:Nat)->0<k->(∀x∈S.take k,P x)->r=S.drop k->rpl gs f S r k=true-> ∀x∈r,P x
 |_,_, [],_,_,_,_,_=>λx a=>by cases a
 |0,_,_::_,_,_,_,_,h=>by cases h
 |_+1, [],_::_,_,_,_,_,h=>by cases h
 |f+1,p::S,z::r,k,k0,hP,e,h=>by
  obtain⟨k,rfl⟩: ∃l,k=l+1:=⟨k- 1,om⟩
  rw[List.drop_succ_cons] at e;unfold rpl at h;split at h
  .rename_i c
   obtain⟨g,c,e2⟩:=List.any_eq_true.1 c;have j:P z:=by rw[<-beq_iff_eq.1 e2];exact b p (hP p (by rw[List.take_succ_cons];exact wI)) g c
   have d:k<S.length:=Nat.lt_of_not_le λh=>by rw[List.drop_eq_nil_of_le h] at e;cases e
   have i:S[k]=z/\S.drop (k+1)=r:=by
    rw[EF d] at e;exact⟨(List.cons.inj e).1.symm,(List.cons.inj e).2.symm⟩
   have:=BZ b f (p::S) r (k+2) om (λx a=>by
    rw[List.take_succ_cons,List.take_succ_eq_append_getElem d,i.1] at a;rcases Hu.1 a with rfl|a
    .exact hP x (by rw[List.take_succ_cons];exact wI)
    .rcases Es.1 a with a|a
     .exact hP x (by rw[List.take_succ_cons];exact wH _ a)
     .rw[List.mem_singleton.1 a];exact j) (by rw[List.drop_succ_cons];exact i.2.symm) h
   exact λx a=>(Hu.1 a).elim (λe=>by rw[e];exact j) (this x)
  .rw[oD,xF] at h
   exact BZ b f S (z::r) k om (λx a=>hP x (by rw[List.take_succ_cons];exact wH _ a)) e h.2
theorem HV {n:Nat}{P:List Nat->Prop}{gs E:List (List Nat)}(c: ∀x,P x-> ∀g∈gs,P (aZ x g))(b:P (bI n))(h:ahW n gs E=true): ∀x∈E,P x:=by
 unfold ahW at h;split at h
 .cases h
 .rename_i x r
  rw[oD,beq_iff_eq] at h;obtain⟨rfl,h⟩:=h;have:=BZ c _ (bI n::r) r 1 om (λx a=>by simp at a;rw[a];exact b) rfl h;exact λx a=>(Hu.1 a).elim (λe=>by rw[e];exact b) (this x)
theorem sZ {α:Type}{f:α->Nat}{i:Nat}:{l:List α}->(HQ f l).testBit i=true↔ ∃x,x∈l/\(f x).testBit i=true
 | []=>by simp [HQ]
 |x::l=>by
  rw[HQ,Nat.testBit_or,Bool.or_eq_true,sZ];simp
theorem xJ:{x y:List Nat}->x.length=y.length->(∀i∈x,i<6)->(∀i∈y,i<6)->adC x=adC y->x=y
 | [], [],_,_,_,_=>rfl
 | [],_::_,h,_,_,_=>by cases h
 |_::_, [],h,_,_,_=>by cases h
 |a::x,b::y,hl,h1,h2,e=>by
  have e:a+6*adC x=b+6*adC y:=e;have d:=h1 a wI;have c:=h2 b wI;rw[show a=b by omega,xJ (by simpa using hl) (λi hi=>h1 i (wH _ hi)) (λi hi=>h2 i (wH _ hi)) om]
theorem Ij {n:Nat}(h:NT n x=true):bJ n x:=by
 unfold NT at h;simp only[oD,xF,uR] at h;exact⟨h.1.1,h.1.2,λi hi=>h.2 i hi⟩
theorem Mq:(x l:List Nat)->x.Perm l->x∈lQ l.length l
 | [],l,h=>by
  rw[List.nil_perm.1 h];exact List.mem_singleton.2 rfl
 |a::x,l,h=>by
  have b:a∈l:=h.mem_iff.1 wI;have c:x.Perm (l.erase a):=List.cons_perm_iff_perm_erase.1 h|>.2;have d:l.length=(l.erase a).length+1:=by rw[List.length_erase_of_mem b];have:=PC b;omega
  rw[d];exact List.mem_flatMap.2 ⟨a,b,oG.2 ⟨x,Mq x _ c,rfl⟩⟩
theorem MO {n:Nat}(X:bJ n x):x∈lQ n (List.range n):=by
 have h:x.Perm (List.range n):=(List.perm_ext_iff_of_nodup X.nd List.nodup_range).2 λi=>⟨λhi=>mS.2 (X.lt i hi),λhi=>X.mem (mS.1 hi)⟩
 have:=Mq x _ h;rwa [gT] at this
theorem Ef:(f:Nat)->(l x:List Nat)->l.length=f->x∈lQ f l->x.Perm l
 |0,l,x,h,b=>by
  rw[List.mem_singleton.1 b,Zs h]
 |f+1,l,x,h,b=>by
  obtain⟨a,c,b⟩:=List.mem_flatMap.1 b;obtain⟨y,d,rfl⟩:=oG.1 b;have:=Ef f (l.erase a) y (by rw[List.length_erase_of_mem c];omega) d;exact List.cons_perm_iff_perm_erase.2 ⟨c,this⟩
theorem JC {n:Nat}(h:x∈lQ n (List.range n)):bJ n x:=by
 have p:=Ef n _ x gT h;exact⟨by rw[p.length_eq,gT],p.nodup_iff.2 List.nodup_range,λi hi=>mS.1 (p.mem_iff.1 hi)⟩
section
variable {n:Nat} {P V:List Nat->Prop} {U:List (List Nat)} {Rs:List rJ}
theorem GA (a:oK n P){L:List (List Nat)}(b: ∀g∈L,P g): ∀f w,P (adB n L f w)
 |0,_=>a.one
 |f+1,w=>by
  unfold adB;split
  .exact a.one
  .split
   .rename_i g c
    exact a.mul (b g (HP c)) (GA a b f _)
   .exact a.one
theorem EZ {α β:Type}{p:α->β->Bool}:{l:List α}->{m:List β}->adX p l m=true-> ∀b∈m,∃a∈l,p a b=true
 | [], [],_,b,d=>by cases d
 | [],_::_,h,_,_=>by cases h
 |_::_, [],h,_,_=>by cases h
 |a::l,c::m,h,b,d=>by
  rw[adX,oD] at h;rcases Hu.1 d with e|d
  .exact⟨a,wI,by rw[e];exact h.1⟩
  .obtain⟨x,i,f⟩:=EZ h.2 b d
   exact⟨x,wH _ i,f⟩
def Ms (n:Nat)(P:List Nat->Prop)(s x:List Nat):Prop:=bJ n x/\P (bL x (bY s))
theorem Ms.kT (c:oK n P)(S:bJ n s):oK n (Ms n P s):=
 ⟨λh=>h.1,⟨bJ.one n,by rw[yQ S.inv];exact c.one⟩,λa b=>⟨a.1.mul b.1,by rw[uS a.1 b.1 S.inv];exact c.mul a.2 b.2⟩,λa=>⟨a.1.inv,by rw[Mb a.1 S.inv];exact c.inv a.2⟩⟩
theorem Ms.Vr (b:oK n P)(S:bJ n s)(a:P x):Ms n P s (bL x s):=⟨iN (b.cF a) S,by rw[iM (b.cF a) S];exact a⟩
theorem Ms.iff (a:oK n P){y:List Nat}(S:bJ n s)(Y:bJ n y):P y↔Ms n P s (bL y s):=
 ⟨λh=>Ms.Vr a S h,λh=>by
  have:=h.2
  rwa [iM Y S] at this⟩
theorem Ms.in (a: ∀x,P x->V x)(b: ∀x s,V x->bJ n s->V (bL x s))(S:bJ n s)(y:List Nat)(c:Ms n P s y):V y:=by
 have:=b _ _ (a _ c.2) S;have Y:=c.1;have e:=iM Y S.inv;have e2:bY (bY s)=s:=inv_inv S;rw[e2] at e;rwa [e] at this
theorem Vx (n6:n<=6)(hV: ∀x,V x->bJ n x/\x∈U)(u: ∀x s,V x->bJ n s->V (bL x s))(chk: ∀k (hk:k<Rs.length),QD n U Rs k Rs[k]=true):
  ∀(d k:Nat) (P:List Nat->Prop) (hk:k<Rs.length),Rs.length-k<=d->oK n P->(∀x,P x->V x)->(∀g∈(Rs[k].g n),P g)-> ∃k' s,∃hk':k'<Rs.length,bJ n s/\(∀g∈Rs[k'].g n,g∈Rs[k'].e n)/\ ∀x,bJ n x->(P x↔bL x s∈Rs[k'].e n)
 |0,k,P,hk,hd,_,_,_=>om
 |d+1,k,P,hk,hd,hP,hPV,hg=>by
  have c:=chk k hk;generalize hr:Rs[k]=r at c hg;unfold QD at c;simp only[oD,beq_iff_eq,uR] at c;obtain⟨⟨⟨c1,c2⟩,K⟩,c4⟩:=c;have G: ∀x∈r.e n,P x:=HV (λx l g h=>hP.mul l (hg g h)) hP.one c1
  by_cases all: ∀x,P x->x∈r.e n
  .exact⟨k,bI n,hk,bJ.one n,λg f=>by rw[hr] at f |-;exact all g (hg g f),λx X=>by rw[qQ X,hr];exact⟨all x,G x⟩⟩
  .obtain⟨x,l⟩:=Classical.not_forall.1 all
   obtain⟨l,hn⟩:=Classical.not_imp.1 l;have X:=hP.cF l
   have inj: ∀y,P y->(2^adC y).testBit (adC x)=true->y=x:=λy N h=>by
    rw[Nat.testBit_two_pow,xF] at h;have Y:=hP.cF N;exact xJ (by rw[X.len,Y.len]) (λi hi=>by have:=Y.lt i hi;omega) (λi hi=>by have:=X.lt i hi;omega) h
   have b1:(HQ (λx=>2^adC x) U).testBit (adC x)=true:=sZ.2 ⟨x,(hV x (hPV x l)).2,by rw[Nat.testBit_two_pow];exact decide_eq_true rfl⟩;rw[<-c4,Nat.testBit_and,oD,Nat.testBit_or,Bool.or_eq_true] at b1;rcases b1.2 with h|h
   .obtain⟨y,N,h2⟩:=sZ.1 h
    exact absurd (inj y (G y N) h2▸N) hn
   .obtain⟨m,a2,h⟩:=sZ.1 h
    have K:=K m a2;unfold akK at K;simp only[oD,xF] at K;obtain⟨⟨⟨q1,q2⟩,q3⟩,q4⟩:=K;have o:=Ij q2;have S:=Ij q3;split at q4
    case h_2=>cases q4
    rename_i r' O;obtain⟨hk',W⟩:=Iq.1 O
    have step: ∀Q:List Nat->Prop,oK n Q->(∀x,Q x->V x)->(∀g∈r.g n,Q g)->Q (Nu n m.1)-> ∃k' s,∃hk':k'<Rs.length,bJ n s/\(∀g∈Rs[k'].g n,g∈Rs[k'].e n)/\ ∀x,bJ n x->(Q x↔bL x s∈Rs[k'].e n):=λQ L a0 a3 a1=>by
     have hL: ∀g∈r.g n++ [Nu n m.1],Q g:=λg h=>(Es.1 h).elim (a3 g) λe=>by rw[List.mem_singleton.1 e];exact a1
     obtain⟨k2,t,z,J,q,R⟩:=Vx n6 hV u chk d m.2.1 (Ms n Q (Nu n m.2.2.1)) hk' om (Ms.kT L S) (Ms.in a0 u S) (λg f=>by
       rw[W] at f;obtain⟨w,_,hw⟩:=EZ q4 g f;rw[<-beq_iff_eq.1 hw]
       exact Ms.Vr L S (GA L hL _ _))
     refine⟨k2,aZ (Nu n m.2.2.1) t,z,S.mul J,q,λy Y=>?_⟩;rw[lF Y S J,<-R _ (iN Y S)];exact Ms.iff L S Y
    split at h
    .rename_i Z
     obtain⟨s,hs,h⟩:=sZ.1 h;have j:=JC hs
     have v:bL (Nu n m.1) s=x:=by
      rw[Nat.testBit_two_pow,xF] at h;have Y:=iN o j;exact xJ (by rw[X.len,Y.len]) (λi hi=>by have:=Y.lt i hi;omega) (λi hi=>by have:=X.lt i hi;omega) h
     obtain⟨k2,t,z,J,q,R⟩:=step (Ms n P (bY s)) (Ms.kT hP j.inv) (Ms.in hPV u j.inv) (λg f=>by
      unfold rJ.g at f;rw[Zs Z] at f
      cases f) (by
      have:=Ms.Vr hP j.inv l
      rwa [<-v,iM o j] at this)
     refine⟨k2,aZ (bY s) t,z,j.inv.mul J,q,λy Y=>?_⟩;rw[lF Y j.inv J,<-R _ (iN Y j.inv)];exact Ms.iff hP j.inv Y
    .obtain⟨a,ha,h⟩:=sZ.1 h
     obtain⟨b,F,h⟩:=sZ.1 h
     have F:b∈r.e n\/b=bI n:=by
      split at F
      .exact .inl F
      .exact .inr (List.mem_singleton.1 F)
     have bP:P b:=F.elim (G b) λe=>by rw[e];exact hP.one
     have A:=hP.cF (G a ha);have B:=hP.cF bP
     have v:aZ (aZ a (Nu n m.1)) b=x:=by
      rw[Nat.testBit_two_pow,xF] at h;have Y:=(A.mul o).mul B;exact xJ (by rw[X.len,Y.len]) (λi hi=>by have:=Y.lt i hi;omega) (λi hi=>by have:=X.lt i hi;omega) h
     refine step P hP hPV hg ?_;have:P (aZ (aZ (bY a) x) (bY b)):=hP.mul (hP.mul (hP.inv (G a ha)) l) (hP.inv bP);rw[<-v,<-aX A.inv (A.mul o) B,<-aX A.inv A o,dX A,dK o,aX o B B.inv,fH B,cH o] at this;exact this
end
end
def akP:List rJ:= [
⟨[],[0],[]⟩]
def alY:List rJ:= [
⟨[],[2],[(1,1,2,[1])]⟩,
⟨[1],[2,1],[]⟩]
def alC:List rJ:= [
⟨[],[21],[(15,1,21,[1]),(7,2,21,[1])]⟩,
⟨[15],[21,15],[(19,3,21,[1,2])]⟩,
⟨[7],[21,7,11],[(15,3,21,[2,12])]⟩,
⟨[15,19],[21,15,19,7,11,5],[]⟩]
def amC:List rJ:= [
⟨[],[228],[(180,1,228,[1]),(120,3,228,[1]),(177,2,228,[1]),(57,4,228,[1])]⟩,
⟨[180],[228,180],[(216,7,228,[1,2]),(225,5,228,[1,2]),(201,10,228,[1,2]),(210,10,228,[1,22]),(198,7,225,[1,2]),(78,8,228,[1,2])]⟩,
⟨[177],[228,177],[(180,5,228,[2,21]),(216,8,120,[2,1]),(120,9,228,[2,1]),(156,9,228,[22,1]),(108,8,216,[2,1]),(78,6,228,[1,2]),(30,4,216,[2])]⟩,
⟨[120],[228,120,156],[(180,7,228,[2,12]),(225,10,228,[2121121,12112]),(177,9,228,[1,2])]⟩,
⟨[57],[228,57,78,147],[(180,10,228,[2,12]),(108,8,216,[2,12])]⟩,
⟨[180,225],[228,180,225,177],[(216,10,228,[1,23]),(78,8,228,[1,3])]⟩,
⟨[177,78],[228,177,78,27],[(180,8,228,[3,2]),(216,8,120,[3,1]),(120,9,228,[3,1]),(156,9,228,[33,1]),(108,8,216,[3,1])]⟩,
⟨[180,216],[228,180,216,120,156,108],[(225,10,228,[1,32])]⟩,
⟨[180,78],[228,180,78,30,75,27,225,177],[(216,10,228,[1,132])]⟩,
⟨[120,177],[228,120,177,156,45,210,201,54,99,135,78,27],[(180,10,228,[3,211])]⟩,
⟨[180,201],[228,180,201,57,141,210,45,114,30,147,78,99,27,108,39,75,156,135,120,54,216,198,177,225],[]⟩]
def aoC:List rJ:= [
⟨[],[2930],[(2430,1,2930,[1]),(1830,3,2930,[1]),(2410,2,2930,[1]),(1210,4,2930,[1]),(1826,8,2930,[1]),(586,7,2930,[1])]⟩,
⟨[2430],[2930,2430],[(2830,9,2930,[1,2]),(2910,5,2930,[1,2]),(2710,16,2930,[1,2]),(2790,16,2930,[1,22]),(2690,9,2910,[1,2]),(1490,11,2930,[1,2]),(2926,5,2886,[1,2]),(2826,13,2930,[1,2]),(2886,8,742,[21]),(2586,18,2930,[1,2]),(2766,18,2930,[1,122212122]),(2566,16,2886,[1,2]),(1366,18,2930,[1,22212]),(2902,8,742,[221]),(2702,18,2930,[1,212221212]),(2882,5,2926,[1,2]),(2582,16,2926,[1,2]),(2642,13,2910,[1,2]),(2542,18,2930,[1,221222121]),(742,18,2930,[1,2221]),(2778,18,2930,[1,222]),(2678,16,2886,[1,22]),(1478,18,2930,[1,1222122]),(2758,16,2926,[1,22]),(2558,9,2902,[1,2]),(1358,11,2926,[1,2]),(2638,18,2930,[1,221212221]),(2538,13,2902,[1,2]),(738,18,2930,[1,1212221]),(1398,18,2930,[1,221]),(1298,18,2930,[1,1221222]),(698,11,2886,[1,2])]⟩,
⟨[2410],[2930,2410],[(2430,5,2930,[2,21]),(2830,11,1830,[2,1]),(1830,14,2930,[2,1]),(2230,14,2930,[22,1]),(1730,11,2830,[2,1]),(1490,6,2930,[1,2]),(990,4,2830,[2]),(2926,13,742,[21212,12121]),(2426,10,742,[21,1]),(2826,12,2930,[1,2]),(1826,18,2930,[222122212221,222122]),(2226,18,2930,[222122212221,22212222]),(1726,12,2430,[1,2]),(2586,15,2930,[1,2]),(586,17,2930,[1222121,2212221]),(1986,17,2930,[212221,2212221]),(486,15,2430,[1,2]),(1366,18,2930,[2212212,122121]),(366,17,2930,[21221,1212222]),(2778,15,2930,[1,222]),(1778,17,2930,[1212221,2221221]),(2678,17,2930,[212122,2212212121]),(1178,15,2430,[1,2221]),(1478,18,2930,[2122122,12121222]),(978,17,2930,[12212,1222212]),(2558,13,2902,[21212,12121]),(558,10,2902,[2,1]),(1358,12,2930,[1,12121]),(358,18,2930,[21222121222121,2121222]),(738,18,2930,[22212221222,222212]),(238,12,2430,[1,221])]⟩,
⟨[1830],[2930,1830,2230],[(2430,9,2930,[2,12]),(2910,16,2930,[2121121,12112]),(2410,14,2930,[1,2]),(2926,8,2930,[21]),(2426,10,2930,[1,2]),(2886,17,2930,[1,2]),(2386,18,2930,[222,211]),(2902,17,2930,[1,22]),(2402,18,2930,[222,121212]),(2882,16,2926,[2121121,12112]),(2382,14,2926,[1,2]),(2642,17,2930,[1,121211]),(1142,18,2930,[22212121,11221211]),(2022,18,2930,[2112112221,2221212]),(1022,17,2930,[1,2121211])]⟩,
⟨[1210],[2930,1210,1490,2170],[(2430,16,2930,[2,12]),(1730,11,2830,[2,12]),(2926,18,2930,[212121121,1112121]),(2426,15,2830,[11,2111]),(2826,15,2230,[11,21]),(1826,18,2930,[1112211,2122111]),(2226,18,2930,[11221,211]),(1726,18,2930,[121212,12112121])]⟩,
⟨[2430,2910],[2930,2430,2910,2410],[(2830,16,2930,[1,23]),(1490,11,2930,[1,3]),(2926,13,742,[2,31]),(2826,18,2930,[1,32131321]),(2586,18,2930,[1,3]),(1366,18,2930,[1,33332]),(2778,18,2930,[1,333]),(1478,18,2930,[1,332]),(2558,13,2902,[1,32]),(1358,18,2930,[1,323213])]⟩,
⟨[2410,1490],[2930,2410,1490,970],[(2430,11,2930,[3,2]),(2830,11,1830,[3,1]),(1830,14,2930,[3,1]),(2230,14,2930,[33,1]),(1730,11,2830,[3,1]),(2926,18,2930,[313131,2321313]),(2426,17,2930,[3232132,31]),(2826,17,2930,[313231,1323]),(1826,18,2930,[3213231,333332]),(2226,18,2930,[3232131,32]),(1726,17,2930,[1321313,13213])]⟩,
⟨[586],[2930,586,742,1398,2154],[(2430,18,2930,[2,12]),(1830,17,2930,[2,122]),(1730,18,2930,[121212,1121212]),(2410,17,2930,[2111212,1121112]),(2110,15,1730,[22,1222]),(1790,15,1730,[22,12]),(970,12,1830,[2,12])]⟩,
⟨[1826],[2930,1826,2230,2926,1830,2226],[(2430,13,2930,[2,12]),(2910,18,2930,[21211212111,12112]),(2410,18,2930,[211121112111,111211]),(2642,18,2930,[1121112,121111121])]⟩,
⟨[2430,2830],[2930,2430,2830,1830,2230,1730],[(2910,16,2930,[1,32]),(2926,13,2930,[1,32]),(2886,18,2930,[1,32]),(2902,18,2930,[1,332]),(2882,16,2926,[1,32]),(2642,18,2930,[1,2132131])]⟩,
⟨[1830,2426],[2930,1830,2426,2230,1726,2826],[(2430,13,2930,[3,12]),(2910,18,2930,[323232,2311]),(2410,17,2930,[1,23]),(2642,17,2930,[1,131311]),(1142,18,2930,[33313131,33312])]⟩,
⟨[2430,1490],[2930,2430,1490,990,1470,970,2910,2410],[(2830,16,2930,[1,132]),(2926,18,2930,[1,2323212]),(2826,18,2930,[1,132])]⟩,
⟨[2410,2826],[2930,2410,2826,1766,2102,1022,1358,298,714,194],[(2430,18,2930,[3,212321]),(1830,17,2930,[3,231]),(990,15,2430,[1,23])]⟩,
⟨[2430,2826],[2930,2430,2826,1826,2226,1726,1730,2230,1830,2830,2426,2926],[(2910,18,2930,[1,23121231]),(2642,18,2930,[1,213131])]⟩,
⟨[1830,2410],[2930,1830,2410,2230,1110,2790,2710,1190,1670,2070,1490,970],[(2430,16,2930,[3,211]),(2926,18,2930,[323232,3211]),(2426,17,2930,[1,32])]⟩,
⟨[2410,2586],[2930,2410,2586,566,1982,2642,422,1202,238,2146,2778,698,1726,1758,334,990,2054,1294,1470,1014],[(2430,18,2930,[3,2]),(2830,18,2930,[323221,2]),(1830,18,2930,[323221,2]),(2230,18,2930,[213221,2]),(1730,18,2930,[23222,2])]⟩,
⟨[2430,2710],[2930,2430,2710,1210,2110,2790,1110,1790,990,2170,1490,1670,970,1730,1070,1470,2230,2070,1830,1190,2830,2690,2410,2910],[(2926,18,2930,[1,32]),(2902,18,2930,[1,33122121]),(2778,18,2930,[1,232]),(2154,18,2930,[1,2132])]⟩,
⟨[1830,2886],[2930,1830,2886,2230,586,1766,2902,1986,366,1202,2146,542,1778,2566,2102,446,742,978,1922,298,1190,2154,558,1346,2642,2678,1022,698,1490,1054,1358,2538,2070,414,970,1934,334,1138,222,1398,2790,1454,2758,1670,714,1634,238,1294,2710,1110,2582,2014,482,894,2410,2382,194,2826,1726,2426],[(2430,18,2930,[3,213])]⟩,
⟨[2430,2586],[2930,2430,2586,586,1986,2642,486,1142,242,2022,2778,742,1022,1778,222,978,298,2154,722,1478,1298,1654,898,954,1730,294,1070,434,1398,1454,2230,1294,2070,1934,894,1670,1634,1830,1054,1190,1346,558,714,1394,2170,2134,2830,2054,2690,346,2558,214,1790,1946,1758,1914,2386,1178,1334,1826,1366,1210,738,2790,446,2758,414,2886,2678,334,2826,366,2710,238,2426,2566,2410,2538,194,542,1358,2014,1726,2382,2102,1110,1766,1490,2926,566,2910,538,694,2542,358,1014,2226,2882,1102,2110,2766,990,582,2702,198,422,2638,1982,1646,2402,1470,2582,1202,698,1922,1138,482,2146,2902,970],[]⟩]
def alG (n:Nat)(U:List (List Nat))(Rs:List rJ)(k:Nat):Bool:=match Rs[k]? with|some r=>QD n U Rs k r|none=>true
def DV (n:Nat)(U:List (List Nat))(Rs:List rJ):Bool:=(List.range Rs.length).all (alG n U Rs)
theorem abE {n:Nat}{U:List (List Nat)}{a:List rJ}(h:DV n U a=true): ∀k (hk:k<a.length),QD n U a k a[k]=true:=λk hk=>by
 have:=uR.1 h k (mS.2 hk);unfold alG at this;rwa [dJ hk] at this
theorem acU:DV 1 (lQ 1 (List.range 1)) akP=true:=by decide+kernel
theorem acH:DV 2 (lQ 2 (List.range 2)) alY=true:=by decide+kernel
theorem aaK:DV 3 (lQ 3 (List.range 3)) alC=true:=by decide+kernel
theorem afF:DV 4 (lQ 4 (List.range 4)) amC=true:=by decide+kernel
theorem aaB:DV 5 (lQ 5 (List.range 5)) aoC=true:=by decide+kernel
end Go.Proofs.YtoighkablmjfeaaGreat
