/- Texts of the claim. -/
import Derived.Test.YtcdbmkidaecdiaaGreatDp2toP5e
import Derived.Test.YtcdbmkidaecdiaaGreatAy39
import Derived.Test.YtcdbmkidaecdiaaGreatC16code
import Derived.Sort.AssemblyPlain
set_option maxHeartbeats 64000000
namespace Go.Proofs.YtcdbmkidaecdiaaGreat
open Go Go.Ay Go.Pm
set_option maxRecDepth 100000
section
variable {n:Nat} {O:List (List Int)}
theorem HD (d:Int)(a b:V)(c:a.one=true)(f:b.one=true)(h:H):Ev T 146 [.agg [aC d,a,b]] h (λv h'=>v= .fn 199 [] [.ptr h.next 0]/\h'.get h.next=aZ [aC d,a,b]/\h'.next=h.next+1/\Fr h h'):=by
 refine cV Ge rfl ?_;simp(disch:=omega)only[go_sem,Ge,aD,bM h (v:= aC d) (u:=a) (w:=b) rfl c f];exact (Fr.refl h).new _
theorem Zb (id b:Nat)(d:Int)(B f:V)(ws:List V)(h:H)(N:ws.length<1000000)(J:Nat->H->Prop)(D:H->Prop)(s:J 0 h)
  (q: ∀i hh,J i hh->hh.get b=aZ [aC d,B,f]/\SV hh f 1 ws)
  (A: ∀i hh,i<ws.length->J i hh->Ey T id [aC i,ws.getD i .undef] hh (λv h'=>v= .bool true/\J (i+1) h'∨v= .bool false/\D h')):
  Ev T 199 [.yl id,.ptr b 0] h (λ_ h'=>J ws.length h'∨D h'):=by
 refine cV zM rfl ?_
 obtain⟨w,u⟩:=q 0 h s
 have y:h.cell b 2=some f:=by rw[H.aF w];rfl
 have G:bT f=some (aC (ws.length:Int)):=by unfold bT;rw[u.len (n:=ws.length) om om];rfl
 simp(disch:=omega)only[go_sem,zM,aD,y,G]
 refine aH (λr a hh=> ∃(i:Nat),(∃g:Nat->V,a= [.yl id,.ptr b 0,g 2,g 3,f,aC (ws.length:Int),aC i,g 7,g 8])/\i<=ws.length/\J i hh/\r=ws.length-i) ws.length
  ⟨0,aB rfl,iJ _,s,rfl⟩ ?_
 rintro r a m ⟨i,⟨g,rfl⟩,hi,j,rfl⟩
 by_cases c:(i:Int)<(ws.length:Int)
 ·have k:=bP c
  obtain⟨L,t⟩:=q i m j
  obtain⟨p,l,F,z,x⟩:=t.shape ws.length om om
  have ci:m.cell p (l+i)=some (ws.getD i .undef):=by rw[x i om,List.getD,dD om];rfl
  simp(disch:=omega)only[go_sem,k,F.ixa,ci]
  refine (A i m om j).mono ?_
  rintro v K (⟨rfl,o⟩|⟨rfl,o⟩)
  ·simp(disch:=omega)only[go_sem]
   rw[eJ i]
   exact⟨ws.length-(i+1),om,i+1,aB rfl,om,o,rfl⟩
  ·simp(disch:=omega)only[go_sem]
   exact .inr o
 have k:=bH c
 obtain rfl:i=ws.length:=om
 simp(disch:=omega)only[go_sem,k]
 exact .inl j
structure ON (n:Nat)(O:List (List Int))(R:List (List (List Int))):Prop where
 lo:O.length=n
 lr:R.length=n
 row: ∀i,i<n->(R.getD i []).length=(O.getD i []).length/\(R.getD i []).length<=n-i
 perm: ∀i,i<n-> ∀x∈R.getD i [],x.length=n/\mV x=true
def IX (d:Int)(O:List (List Int))(R:List (List (List Int))):Prop:= ∃(n:Nat) (O':LN) (R':jI),d=(n:Int)/\1<=n/\n<=64/\O=O'.map zi/\R=R'.map (List.map zi)/\Valid n O' R'
open Classical in
noncomputable def Um (d:Int)(O:List (List Int))(R:List (List (List Int))):Int:=if d<1∨64<d then 2 else if IX d O R then 0 else 3
theorem Vl {a b:List Nat}(h:zi a=zi b):a=b:=by
 have:=congrArg (List.map Int.toNat) h
 have e: ∀a:List Nat,(zi a).map Int.toNat=a:=λa=>by
  unfold zi;rw[List.map_map];exact (Vy λx _=>by simp).trans (List.map_id a)
 rwa [e,e] at this
theorem map_inj {α β:Type}{f:α->β}(c: ∀x y,f x=f y->x=y): ∀{a b:List α},a.map f=b.map f->a=b
 | [], [],_=>rfl
 | [],_::_,h=>by cases h
 |_::_, [],h=>by cases h
 |x::a,y::b,h=>by
  simp only[List.map_cons,List.cons.injEq] at h;rw[c x y h.1,map_inj c h.2]
theorem uQ {i:Nat}{G:List Nat->Prop}(b: ∀x,G x->bE n x){o:List Nat}(hi:i<n)(a:o.Pairwise (· < ·))(mem: ∀p,p∈o↔ ∃x,G x/\Fix i x/\x.getD i 0=p):o.length<=n-i:=by
 have nd:o.Nodup:=by rw[nPN];exact a.imp λh e=>om
 have:=List.Nodup.length_le_of_subset nd (l₂:=(List.range (n-i)).map (· +i)) λp d=>by
  obtain⟨x,f,c,rfl⟩:=(mem p).1 d;have X:=b x f;have k:=X.iN hi
  have m:i<=x.getD i 0:=Jg λl=>by
   have:=X.inj hi (j:=x.getD i 0) om (by rw[c (x.getD i 0) om]);omega
  exact uF.2 ⟨x.getD i 0-i,Gu.2 om,om⟩
 simpa using this
theorem IX.frm {R:List (List (List Int))}(c:IX (n:Int) O R):ON n O R:=by
 obtain⟨m,f,b,e,p,r,rfl,rfl,h,v⟩:=c;obtain rfl:n=m:=om
 have j: ∀i,i<n->(b.map (List.map zi)).getD i []=(b.getD i []).map zi/\(f.map zi).getD i []=zi (f.getD i [])/\ ∀x∈b.getD i [],x∈b.flatten:=λi hi=>by
  have q:=v.lr;have s:=v.lo;refine⟨by simp [List.getD,show i<b.length by omega],by simp [List.getD,show i<f.length by omega],λx a=>?_⟩;rw[List.getD,dD om] at a;exact List.mem_flatten.2 ⟨_,zG om,a⟩
 refine⟨by rw[jV];exact v.lo,by rw[jV];exact v.lr,λi hi=>?_,λi hi x a=>?_⟩
 ·obtain⟨d,o,_⟩:=j i hi
  rw[d,o,jV,aQ,v.rl i hi];exact⟨rfl,uQ (λx a=>bX.cU h a) hi (v.asc i hi) (v.mem i hi)⟩
 ·obtain⟨d,_,k⟩:=j i hi
  rw[d] at a;obtain⟨y,l,rfl⟩:=uF.1 a;have Y:=h y (k y l);exact⟨by rw[aQ];exact Y.len,Yd Y⟩
theorem ON.nat {R:List (List (List Int))}(f:ON n O R): ∃R':jI,R=R'.map (List.map zi)/\ ∀g∈R'.flatten,bE n g:=by
 have b: ∀x,(∃i,i<n/\x∈R.getD i [])->x=zi (x.map Int.toNat)/\bE n (x.map Int.toNat):=λx ⟨i,hi,a⟩=>by
  obtain⟨k,m⟩:=f.perm i hi x a;obtain⟨l,j⟩:=Iz m;rw[k] at j;exact⟨l,j⟩
 have mem: ∀r∈R,∀x∈r,∃i,i<n/\x∈R.getD i []:=λr c x a=>by
  obtain⟨i,hi,rfl⟩:=zF.1 c;have:=f.lr;exact⟨i,om,by rw[List.getD,dD hi];exact a⟩
 refine⟨R.map (List.map (List.map Int.toNat)),?_,λg d=>?_⟩
 ·rw[List.map_map]
  refine (List.map_id R).symm.trans (Vy λr c=>?_);show r=(r.map (List.map Int.toNat)).map zi;rw[List.map_map];refine (List.map_id r).symm.trans (Vy λx a=>(b x (mem r c x a)).1)
 ·obtain⟨o,h,d⟩:=List.mem_flatten.1 d
  obtain⟨r,c,rfl⟩:=uF.1 h;obtain⟨x,a,rfl⟩:=uF.1 d;exact (b x (mem r c x a)).2
theorem IX.iff {d:jI}(l:1<=n)(h2:n<=64)(j: ∀g∈d.flatten,bE n g){f:LN}{i:jI}(c:bC n (BV n d) f i):
  IX (n:Int) O (d.map (List.map zi))↔O=f.map zi/\d.map (List.map zi)=i.map (List.map zi):=by
 have inj: ∀a b:LN,a.map zi=b.map zi->a=b:=λa b h=>map_inj (λ_ _=>Vl) h
 constructor
 ·rintro⟨m,O3,R3,e,_,_,rfl,e3,v⟩
  obtain rfl:n=m:=om
  have:=map_inj inj e3
  subst this
  obtain⟨k,o⟩:=(Valid.iff j c).1 v
  subst k o
  exact⟨rfl,rfl⟩
 ·rintro⟨rfl,e⟩
  have:=map_inj inj e
  subst this
  exact⟨n,f,d,rfl,l,h2,rfl,rfl,(Valid.iff j c).2 ⟨rfl,rfl⟩⟩
end
section
variable {n i:Nat} {O:List (List Int)} {R:List (List (List Int))}
def VG (n:Nat)(O:List (List Int))(R:List (List (List Int)))(j:Nat):Prop:=((R.getD j []).length=(O.getD j []).length/\(R.getD j []).length<=n-j)/\ ∀x∈R.getD j [],x.length=n/\mV x=true
theorem ON.of (a:O.length=n)(h2:R.length=n)(h: ∀j,j<n->VG n O R j):ON n O R:=⟨a,h2,λi hi=>(h i hi).1,λi hi=>(h i hi).2⟩
theorem Pq (a:1<=n)(h2:n<=64)(h: ¬ON n O R):Um (n:Int) O R=3:=by
 unfold Um;rw[bI om,bI (λc=>h c.frm)]
theorem bD {α:Type}{l:List α}{k:Nat}{d:α}(h:k<l.length):l.getD k d∈l:=by
 rw[List.getD,dD h];exact zG h
theorem cE {α:Type}{l:List α}{k:Nat}(d:α)(h:k<l.length):l.take (k+1)=l.take k++ [l.getD k d]:=by
 rw[←List.take_append_getElem h,List.getD,dD h];rfl
theorem tY {R:List (List (List Int))}{m:Nat}: ∀{i:Nat},i<=R.length->(∀j,j<i->(R.getD j []).length<=m)->((R.take i).flatten).length<=i*m
 |0,_,_=>by simp
 |i+1,h,hr=>by
  rw[←List.take_append_getElem (show i<R.length by omega),List.flatten_append,jZ];have b:=tY (i:=i) om (λj c=>hr j om);have a:=hr i om;rw[List.getD,dD om] at a;have a:R[i].length<=m:=a;simp only[List.flatten_cons,List.flatten_nil,vF];rw[Nat.succ_mul];omega
theorem Jv {G:List Nat->Prop}(a: ∀x,G x->bE n x){O:LN}{R:jI}(f:n<=64)(c:bC n G O R):zV (O.map zi)/\sN (R.map (List.map zi)):=by
 have d: ∀i,i<n->(O.getD i []).length<=n:=λi hi=>mT (uQ a hi (c.asc i hi) (c.mem i hi)) om
 refine⟨⟨by rw[jV,c.lo];omega,λi hi=>?_⟩,⟨by rw[jV,c.lr];omega,λi hi=>?_⟩⟩
 ·rw[jV,c.lo] at hi
  have:(O.map zi).getD i []=zi (O.getD i []):=by simp [List.getD,show i<O.length by rw[c.lo];exact hi]
  rw[this,aQ];have:=d i hi;omega
 ·rw[jV,c.lr] at hi
  have e:(R.map (List.map zi)).getD i []=(R.getD i []).map zi:=by simp [List.getD,show i<R.length by rw[c.lr];exact hi]
  rw[e,jV,c.rl i hi];refine⟨by have:=d i hi;omega,λk b=>?_⟩
  have:((R.getD i []).map zi).getD k []=zi ((R.getD i []).getD k []):=by
   have:=c.rl i hi;simp [List.getD,show k<(R[i]?.getD []).length by simp [List.getD] at this b;omega]
  rw[this,aQ,(a _ (c.rep i hi k b).mem).len];omega
theorem sN.out (s:sN R):Mf R:=⟨s.1,λi hi=>(s.2 i hi).1⟩
theorem Mf.inn (s:Mf R)(f: ∀i,i<R.length-> ∀x∈R.getD i [],x.length=n)(b:n<=64):sN R:=⟨s.1,λi hi=>⟨s.2 i hi,λk a=>by rw[f i hi _ (bD a)];omega⟩⟩
theorem LV {α:Type}{R:List (List α)}(hi:i<R.length):(R.take (i+1)).flatten=(R.take i).flatten++R.getD i []:=by
 rw[←List.take_append_getElem hi,List.flatten_append];simp [List.getD,hi]
structure JR (h hh:H)(B id b:Nat)(r:eH)(n:Nat)(vO vR:V)(O:List (List Int))(R:List (List (List Int)))(i:Nat)(acc:List (List Int)):Prop where
 gB:hh.get B=some (.cells false [aC n,vO,vR])
 gR:hh.get (B+1)=some (.cells false [aC 0])
 gN:hh.get (B+1+1)=some (.cells false [aC n])
 gA: ∃va ws,hh.get (B+1+1+1)=some (.cells false [va])/\cY hh va 1 ws (id+1)/\aM (SI h) ws acc
 gr:hh.get id=some (.loop r)
 gb:hh.get b=some (.cells false [aC n,vO,vR])
 nx:id<hh.next
 fr:Fr h hh
 rows: ∀j,j<i->VG n O R j
structure CkD (h hh:H)(B id:Nat)(r:eH)(n:Nat)(O:List (List Int))(R:List (List (List Int))):Prop where
 gR:hh.get (B+1)=some (.cells false [aC 3])
 gr:hh.get id=some (.loop (tX r .ret))
 nx:id<hh.next
 fr:Fr h hh
 bad: ¬ON n O R
theorem JR.mono {h d h2:H}{B id b:Nat}{r:eH}{j k:V}{c:List (List Int)}(J:JR h d B id b r n j k O R i c)(l:B+1+1+1<id)(q:b<id)(f:Fr d h2):JR h h2 B id b r n j k O R i c:=by
 obtain⟨p,m,g,o,a⟩:=J.gA;have:=J.nx;exact⟨by rw[f.get _ om];exact J.gB,by rw[f.get _ om];exact J.gR,by rw[f.get _ om];exact J.gN,⟨p,m,by rw[f.get _ om];exact g,o.fr f,a⟩,by rw[f.get _ om];exact J.gr,by rw[f.get _ om];exact J.gb,iW J.nx f.next,J.fr.trans f,J.rows⟩
theorem JR.loop {h d h2:H}{B id b:Nat}{r r2:eH}{j l:V}{c:List (List Int)}(J:JR h d B id b r n j l O R i c)(q:B+1+1+1<id)(x:b<id)(m:h.next<=B)(g:h2.get id=some (.loop r2))(f:h2.next=d.next)(o: ∀k,k≠id->h2.get k=d.get k):JR h h2 B id b r2 n j l O R i c:=by
 obtain⟨v,u,p,t,a⟩:=J.gA;refine⟨by rw[o _ om];exact J.gB,by rw[o _ om];exact J.gR,by rw[o _ om];exact J.gN,⟨v,u,by rw[o _ om];exact p,t.mono om λk _ _ _ _ w _=>o k om,a⟩,g,by rw[o _ om];exact J.gb,by rw[f];exact J.nx,⟨by rw[f];exact J.fr.next,λk s=>by rw[o k om];exact J.fr.get k s⟩,J.rows⟩
theorem VW (vc:V)(d:Int)(O:List (List Int))(R:List (List (List Int)))(h:H)(hc:WI h vc d O R)(hd:d<=7∨64<d)(so:zV O)(sr:Mf R):
  Ev T 135 [vc] h (λv h'=>v= aC (Um d O R)/\Fr h h'):=by
 obtain⟨p,o,rfl,sO,sR⟩:=hc
 refine cV kT rfl ?_
 obtain⟨wO,tO,aO⟩:=sO
 obtain⟨wR,tR,aR,kR⟩:=sR
 have lO:=aO.length
 have lR:=aR.length
 have c1:bT p=some (aC (O.length:Int)):=by unfold bT;rw[tO.len (n:=O.length) om om];rfl
 have d7:bT o=some (aC (R.length:Int)):=by unfold bT;rw[tR.len (n:=R.length) om om];rfl
 have a8:=tO.cK.2.1
 have a7:=tR.cK.2.1
 obtain⟨B,hB⟩:=exI h.next
 obtain⟨h1,e1,n1,g1,o1,f1⟩:=dF hB [aC d,p,o]
 obtain⟨h2,e2,n2,g2,o2,f2⟩:=dF n1 [aC 0]
 obtain⟨h3,e3,n3,g3,o3,f3⟩:=dF n2 [aC 0]
 obtain⟨h4,e4,n4,g4,o4⟩:=pJ h3 (B+1+1) [aC d]
 have U:h2.get B=some (.cells false [aC d,p,o]):=by rw[o2 _ om];exact g1
 have a0:h4.get B=some (.cells false [aC d,p,o]):=by rw[o4 _ om,o3 _ om];exact U
 have t:h4.get (B+1)=some (.cells false [aC 0]):=by rw[o4 _ om,o3 _ om];exact g2
 have F4:Fr h h4:=by
  refine⟨om,λid b3=>?_⟩;rw[o4 _ om,o3 _ om,o2 _ om,o1 _ om]
 have Y: ∀(a:H) (id:Nat) (x y:Int),dX (some (.cells false [aC x])) a id 0 [aC y]=some (a.set id (some (.cells false [aC y]))):=λa id x y=>bN (by simp) a _ _
 have bx:=bM h (v:= aC d) (u:=p) (w:=o) rfl a8 a7
 have j5:=H.aF t
 have a6: ∀z:Int,(h4.set (B+1) (some (.cells false [aC z]))).cell (B+1) 0=some (aC z)/\Fr h (h4.set (B+1) (some (.cells false [aC z]))):=λz=>⟨by rw[H.Dl];rfl,F4.set om _⟩
 by_cases b7:d<1
 ·have s:=bP b7
  simp(disch:=omega)only[go_sem,kT,aD,bx,hB,e1,n1,e2,n2,e3,H.aF U,g3,Y,e4,H.aF g4,s,t]
  exact⟨by unfold Um;rw[bF (.inl b7)],(a6 2).2⟩
 have s:=bH b7
 by_cases b5:64<d
 ·have d2:=bP b5
  simp(disch:=omega)only[go_sem,kT,aD,bx,hB,e1,n1,e2,n2,e3,H.aF U,g3,Y,e4,H.aF g4,s,d2,t]
  exact⟨by unfold Um;rw[bF (.inr b5)],(a6 2).2⟩
 have d2:=bH b5
 obtain⟨n,rfl⟩: ∃n:Nat,d=(n:Int):=⟨d.toNat,om⟩
 have Z:1<=n:=om
 have d4:n<=7:=om
 by_cases b8:(O.length:Int)≠(n:Int)
 ·have dl:=bP b8
  simp(disch:=omega)only[go_sem,kT,aD,bx,hB,e1,n1,e2,n2,e3,H.aF U,g3,Y,e4,H.aF g4,s,d2,t,H.aF a0,c1,dl]
  exact⟨by rw[Pq Z om (λf=>b8 (by have:=f.lo;omega))],(a6 3).2⟩
 have dl:=bH b8
 by_cases b0:(R.length:Int)≠(n:Int)
 ·have c0:=bP b0
  simp(disch:=omega)only[go_sem,kT,aD,bx,hB,e1,n1,e2,n2,e3,H.aF U,g3,Y,e4,H.aF g4,s,d2,t,H.aF a0,c1,dl,d7,c0]
  exact⟨by rw[Pq Z om (λf=>b0 (by have:=f.lr;omega))],(a6 3).2⟩
 have c0:=bH b0
 have e6:h4.next=B+1+1+1:=by rw[n4];exact n3
 obtain⟨h5,e5,n5,g5,o5,f5⟩:=dF e6 [.aE]
 have e0:h5.get B=some (.cells false [aC n,p,o]):=by rw[o5 _ om];exact a0
 have rB:=aI e0
 simp(disch:=omega)only[go_sem,kT,aD,bx,hB,e1,n1,e2,n2,e3,H.aF U,g3,Y,e4,H.aF g4,s,d2,t,H.aF a0,c1,dl,d7,c0,e6,e5,rB]
 refine (HD (n:Int) p o a8 a7 h5).mono ?_
 rintro _ W ⟨rfl,g6,n6,f6⟩
 simp(disch:=omega)only[go_sem]
 have F6:Fr h W:=(F4.trans f5).trans f6
 have j0:W.get B=some (.cells false [aC n,p,o]):=by rw[f6.get _ om];exact e0
 have j3:W.get (B+1)=some (.cells false [aC 0]):=by rw[f6.get _ om,f5.get _ om];exact t
 have j1:W.get (B+1+1)=some (.cells false [aC n]):=by rw[f6.get _ om,f5.get _ om];exact g4
 have i3:W.get (B+1+1+1)=some (.cells false [.aE]):=by rw[f6.get _ om];exact g5
 refine⟨rfl,uJ λr hr=>?_⟩
 obtain⟨id,b3⟩:=exI W.next
 obtain⟨b,hb⟩:=exI h5.next
 rw[hb] at g6 n6
 rw[b3,hb]
 have iP:r.st= .ready:=by rw[hr]
 have b2:r.pend=none:=by rw[hr]
 have i9:R.length=n:=om
 have j2:O.length=n:=om
 have f7:Fr W (W.new (.loop r)):=(Fr.refl W).new _
 have o7: ∀k,k<id->(W.new (.loop r)).get k=W.get k:=λk hk=>H.bG W om _
 have J0:JR h (W.new (.loop r)) B id b r n p o O R 0 []:=
  ⟨by rw[o7 _ om];exact j0,by rw[o7 _ om];exact j3,by rw[o7 _ om];exact j1,⟨.aE, [],by rw[o7 _ om];exact i3,cY.aE _ _ _,trivial⟩,by rw[←b3,H.aL],by rw[o7 _ om];exact g6,by rw[H.aU];omega,F6.trans f7,λj hj=>om⟩
 refine (Zb id b (n:Int) p o wR _ (by rw[lR];exact sr.1) (λi a=>JR h a B id b r n p o O R i (R.take i).flatten) (λa=>CkD h a B id r n O R) J0 (λi a J=>⟨J.gb,tR.mono J.fr⟩) ?_).mono ?_
 ·rintro i a hi J
  have a2:i<n:=om
  refine sZ J.gr (by rw[hr];rfl) iP λK g7 n7 o7=>?_
  rw[congrArg eH.assign hr,congrArg eH.vars hr,congrArg eH.pars hr]
  simp(disch:=omega)only[go_sem,List.zip_cons_cons,List.zip_nil_left]
  rw[congrArg eH.body hr]
  have J7:JR h K B id b (pW r) n p o O R i (R.take i).flatten:=J.loop om om om g7 n7 o7
  have c4:=iG aO (i:=i) om .undef []
  have e8:=iG aR (i:=i) om .undef []
  obtain⟨wr,tr,ar⟩:=e8
  have lr:=ar.length
  have b9:bT (wR.getD i .undef)=some (aC ((R.getD i []).length:Int)):=by unfold bT;rw[tr.len (n:=(R.getD i []).length) om om];rfl
  have b1:=c4.lens
  obtain⟨i2,c5,a1,d3,d0⟩:=(tO.mono J7.fr).shape O.length om om
  have co:K.cell i2 (c5+i)=some (wO.getD i .undef):=by rw[d0 i om,List.getD,dD om];rfl
  have cB:=H.aF J7.gB
  have cN:=H.aF J7.gN
  have c6: ∀a N,JR h a B id b (pW r) n p o O R i N-> ¬ON n O R->CkD h ((a.set (B+1) (some (.cells false [aC 3]))).set id (some (.loop (tX r .ret)))) B id r n O R:=λa N J hb=>by
   have:=J.nx;refine⟨by rw[H.aG _ om,H.aS],by rw[H.aS],J.nx,(J.fr.set om _).set om _,hb⟩
  have yq: ∀a q N,JR h a B id b (pW r) n p o O R i N-> ¬ON n O R->Jc id (λv h'=>v= .bool true/\JR h h' B id b r n p o O R (i+1) (R.take (i+1)).flatten∨v= .bool false/\CkD h h' B id r n O R) .ret q (a.set (B+1) (some (.cells false [aC 3]))):=λa q N J hb=>
   Ta (by rw[H.aG _ om];exact J.gr) (.inr ⟨rfl,c6 a N J hb⟩)
  by_cases A:((R.getD i []).length:Int)≠((O.getD i []).length:Int)
  ·have s:=bP A
   simp(disch:=omega)only[go_sem,b9,cB,a1.ixa,co,b1,s,J7.gR,Y]
   exact yq _ _ _ J7 λf=>A (by have:=(f.row i a2).1;omega)
  have s:=bH A
  by_cases d8:(n:Int)-(i:Int)<((R.getD i []).length:Int)
  ·have d2:=bP d8
   simp(disch:=omega)only[go_sem,b9,cB,cN,a1.ixa,co,b1,s,d2,J7.gR,Y]
   exact yq _ _ _ J7 λf=>by have:=(f.row i a2).2;omega
  have d2:=bH d8
  simp(disch:=omega)only[go_sem,b9,cB,cN,a1.ixa,co,b1,s,d2]
  refine aH (λk' q a=> ∃(k:Nat),(∃g:Nat->V,q= [g 0,.ptr B 0,.ptr (B+1) 0,.ptr (B+1+1) 0,.ptr (B+1+1+1) 0,g 5,g 6,g 7,g 8,g 9,g 10,g 11,g 12,g 13,wR.getD i .undef,aC ((R.getD i []).length:Int),aC k,g 17,g 18,g 19])/\k<=(R.getD i []).length/\JR h a B id b (pW r) n p o O R i ((R.take i).flatten++(R.getD i []).take k)/\
    (∀x∈(R.getD i []).take k,x.length=n/\mV x=true)/\k'=(R.getD i []).length-k) (R.getD i []).length
   ⟨0,aB rfl,iJ _,by rw[List.take_zero,vF];exact J7,λx hx=>by simp at hx,rfl⟩ ?_
  clear co cB cN d3 d0 J7 s d2 a1 g7 n7 o7 K
  rintro k' q h8 ⟨k,⟨g,rfl⟩,hk,G,c2,rfl⟩
  by_cases d9:(k:Int)<((R.getD i []).length:Int)
  case neg=>
   have e1:=bH d9;obtain rfl:k=(R.getD i []).length:=om
   rw[List.take_length] at G c2;rw[←LV om] at G;simp(disch:=omega)only[go_sem,e1];refine oX iP b2 G.gr (.inl ⟨rfl,?_⟩);have l:=G.loop (h2:=h8.set id (some (.loop r))) om om om (by rw[H.aS]) rfl (λk hk=>H.aG _ hk _)
   have b4: ∀j,j<i+1->VG n O R j:=λj hj=>by
    by_cases e:j=i
    ·subst e;exact⟨⟨om,om⟩,c2⟩
    ·exact l.rows j om
   exact⟨l.gB,l.gR,l.gN,l.gA,l.gr,l.gb,l.nx,l.fr,b4⟩
  have e1:=bP d9
  have a3:k<(R.getD i []).length:=om
  obtain⟨x,hx⟩:=exI ((R.getD i []).getD k [])
  have sx:=iG ar a3 .undef []
  rw[hx] at sx
  have c8:x∈R.getD i []:=by rw[←hx];exact bD a3
  obtain⟨j4,c9,c7,j6,i6⟩:=(tr.mono G.fr).shape (R.getD i []).length om om
  have ck:h8.cell j4 (c9+k)=some (wr.getD k .undef):=by rw[i6 k om,List.getD,dD om];rfl
  have cN:=H.aF G.gN
  generalize wr.getD k .undef=vx at sx ck
  have e7:=sx.lens
  by_cases A:(x.length:Int)≠(n:Int)
  ·have s:=bP A
   simp(disch:=omega)only[go_sem,e1,c7.ixa,ck,e7,cN,s,G.gR,Y]
   exact yq _ _ _ G λf=>A (by have:=(f.perm i a2 x c8).1;omega)
  have s:=bH A
  simp(disch:=omega)only[go_sem,e1,c7.ixa,ck,e7,cN,s]
  refine (aiM vx x h8 om (sx.mono G.fr)).mono ?_
  rintro _ h9 ⟨rfl,f9⟩
  have l:=G.mono om om f9
  cases hpk:mV x with
  |false=>
   have e3:decide (AT x≠0)=true:=bP (by unfold AT;rw[bI om,hpk];simp);simp(disch:=omega)only[go_sem,e3,l.gR,Y];exact yq _ _ _ l λf=>by have:=(f.perm i a2 x c8).2;rw[hpk] at this;cases this
  |true=>
   have e3:decide (AT x≠0)=false:=bH (by unfold AT;rw[bI om,hpk];simp);obtain⟨va,ws,gA,ow,al⟩:=l.gA
   have one:vx.cells= [vx]/\vx.one=true:=⟨sx.cK.1,sx.cK.2.1⟩
   have k2:=l.nx;obtain⟨b6,i0,k4,g8,k1,P⟩:=dF (h:=h9) rfl [vx];have cA:=H.aF gA;have j8:b6.cell (B+1+1+1) 0=some va:=by rw[H.aF (by rw[P.get _ om];exact gA)];rfl
   have k0:=al.length
   have j7:((R.take i).flatten++(R.getD i []).take k).length<=400:=by
    have h1:=tY (m:=7) (R:=R) (i:=i) om (λj hj=>by have:=(l.rows j hj).1.2;omega);have h2:i*7<=7*7:=Nat.mul_le_mul_right 7 om;rw[jZ,Fj];omega
   obtain⟨c3,i5,a4⟩:=(ow.fr P).push (bytes:=24) (SV.one om g8 (.kn 1)) (n:=ws.length) (m:=1) om rfl om om om;have ap: ∀k,k<=id->dL va k:=λk hk k3 h0 m c e e2=>by have:=(ow.in _ _ _ _ e).2.1;omega
   have d6:c3.get (B+1+1+1)=some (.cells false [va]):=by rw[a4.old _ om (ap _ om),P.get _ om];exact gA
   have j9:=a4.next;have e9: ∀(a:H) (y:V),dX (some (.cells false [va])) a (B+1+1+1) 0 [y]=some (a.set (B+1+1+1) (some (.cells false [y]))):=λa y=>bN (by simp) a _ _
   simp(disch:=omega)only[go_sem,e3,cA,cT h9 (z:= .aE) one.1 one.2,i0,i5,d6,e9];rw[eJ k]
   have Q: ∀k,k<=id->k≠B+1+1+1->(c3.set (B+1+1+1) (some (.cells false [.sl b6.next 0 (ws.length+1) (.un 1)]))).get k=h9.get k:=λk h1 h2=>by
    rw[H.aG _ h2,a4.old _ om (ap _ h1),P.get _ om]
   have tk:(R.take i).flatten++(R.getD i []).take (k+1)=((R.take i).flatten++(R.getD i []).take k)++ [x]:=by
    rw[Ll,cE [] a3,hx]
   refine⟨(R.getD i []).length-(k+1),om,k+1,aB rfl,om,⟨by rw[Q _ om om];exact l.gB,by rw[Q _ om om];exact l.gR,by rw[Q _ om om];exact l.gN,⟨_,ws++ [vx],by rw[H.aS],?_,?_⟩,by rw[Q _ om om];exact l.gr,by rw[Q _ om om];exact l.gb,by simp only[H.bY];omega,?_,l.rows⟩,λy hy=>?_,rfl⟩
   ·refine (a4.own (b:=id+1) om rfl om).mono (fM _) λk h0 m c e h1 h2=>H.aG _ om _
   ·rw[tk];exact al.append ⟨sx,trivial⟩
   ·refine⟨by simp only[H.bY];have:=l.fr.next;omega,λk hk=>?_⟩
    rw[Q k om om];exact l.fr.get k hk
   ·rw[cE [] a3,hx] at hy
    rcases pH.1 hy with hy|hy
    ·exact c2 y hy
    ·rw[List.mem_singleton.1 hy]
     exact⟨om,hpk⟩
 ·rintro _ a (J|D)
  ·refine⟨r,J.gr,by rw[iP];simp,?_⟩
   have en:r.pend.getD .norm= .norm:=by rw[b2];rfl
   rw[en]
   rw[lR,List.take_length] at J
   have J:=J.loop (r2:={r with st:= .out}) (h2:=a.set id (some (.loop {r with st:= .out}))) om om om (by rw[H.aS]) rfl (λk hk=>H.aG _ hk _)
   generalize a.set id (some (.loop {r with st:= .out}))=K at J
   clear J0 f7 o7 b2 iP hr
   have frm:ON n O R:=ON.of j2 i9 λj hj=>J.rows j om
   obtain⟨R',eR,hP⟩:=frm.nat
   obtain⟨va,ws,gA,ow,al⟩:=J.gA
   have eF:R.flatten=R'.flatten.map zi:=by rw[eR,List.map_flatten]
   rw[eF] at al
   have nx:=J.nx
   have rB:=aI J.gB
   have cN:=H.aF J.gN
   have cA:=H.aF gA
   have fb:Fr K (H.mk K.tr (K.next+7)):=(Fr.refl K).bA om
   have i7:SP (H.mk K.tr (K.next+7)) va R'.flatten:=⟨ws,(ow.fr fb).sv,al.mono λ_ _ x=>x.mono (J.fr.trans fb)⟩
   have g9:R'.flatten.length<1000000:=by
    have h1:=tY (m:=7) (R:=R) (i:=n) om (λj hj=>by have:=(J.rows j om).1.2;omega);have h2:n*7<=7*7:=Nat.mul_le_mul_right 7 om;rw[Tn om,eF,jV] at h1;omega
   simp(disch:=omega)only[go_sem,aI (h:=H.mk K.tr (K.next+7)) J.gB,cN,cA]
   refine (Xh n va R'.flatten _ Z d4 g9 i7 hP).mono ?_
   rintro _ h8 ⟨i4,L,F,τ,rfl,RR,tl,f8,_⟩
   have F8:Fr K h8:=fb.trans f8
   have G:=J.mono om om F8
   have eO:=tO.dE
   have d5:=tR.dE
   simp(disch:=omega)only[go_sem,aI G.gB,eO,d5]
   refine (Qt h8 n i4 L F τ d4 RR tl.tw).mono ?_
   rintro i8 h9 ⟨O2,R2,g0,f0,f9⟩
   have l:=G.mono om om f9
   have a9:bC n (BV n R') O2 R2:=f0.congr tl.group
   obtain⟨f4,i1⟩:=Jv (λx hx=>bX.cU hP hx) om a9
   simp(disch:=omega)only[go_sem,aI l.gB,eO,d5]
   refine (VI _ i8 (n:Int) (n:Int) O (O2.map zi) R (R2.map (List.map zi)) h9 ⟨p,o,rfl,⟨wO,tO.mono l.fr,aO.mono λ_ _ x=>x.mono l.fr⟩,⟨wR,tR.mono l.fr,aR.mono (λ_ _ x=>x.mono l.fr),kR⟩⟩ g0.ch so f4 (sr.inn (λj hj x hx=>(frm.perm j om x hx).1) om) i1).mono ?_
   rintro _ b6 ⟨rfl,P⟩
   have a5:=l.mono om om P
   have iff:=IX.iff (O:=O) Z om hP a9
   rw[←eR] at iff
   by_cases hq:(n:Int)=(n:Int)/\O=O2.map zi/\R=R2.map (List.map zi)
   ·have ed:=bP hq
    rw[ed]
    simp(disch:=omega)only[go_sem,a5.gR,Y]
    refine⟨?_,a5.fr.set om _⟩
    unfold Um
    rw[bI om,bF (iff.2 hq.2)]
   ·have ed:=bH hq
    rw[ed]
    simp(disch:=omega)only[go_sem,a5.gR,Y]
    refine⟨?_,a5.fr.set om _⟩
    unfold Um
    rw[bI om,bI (λc=>hq ⟨rfl,iff.1 c⟩)]
  ·refine⟨_,D.gr,by simp [tX],?_⟩
   have en:(tX r .ret).pend.getD .norm= .ret:=rfl
   rw[en]
   have nx:=D.nx
   have gR:(a.set id (some (.loop {tX r .ret with st:= .out}))).cell (B+1) 0=some (aC 3):=by rw[H.Kl _ om,H.aF D.gR];rfl
   simp(disch:=omega)only[go_sem,gR]
   exact⟨by rw[Pq Z om D.bad],D.fr.set (by have:=D.fr.next;omega) _⟩
end
theorem FC {x:Nat}:GS .shr .u64 (x:Int) 1=some (.int .u64 ((x/2:Nat):Int)):=by
 unfold GS;rw[bI om];simp only;congr 2;show Int.fdiv (x:Int) 2=_;rw[Int.fdiv_eq_ediv_of_nonneg _ om];rfl
theorem Es (u:V)(a:List Nat)(p:Nat)(h:H)(hn:a.length<1000000)(N:a.Pairwise (· < ·))(O:SI h u (zi a)):
  Ev T 103 [u,aC p] h (λv h'=> ∃k f,v= .tup [aC (k:Nat),.bool f]/\(f=true↔p∈a)/\(f=true->k<a.length/\a.getD k 0=p)/\Fr h h'):=by
 refine cV kB rfl ?_
 have W:=O.lens
 rw[aQ] at W
 simp(disch:=omega)only[go_sem,kB,aD,W]
 have mono: ∀i j,i<j->j<a.length->a.getD i 0<a.getD j 0:=λi j s o=>by
  rw[cJ om,cJ o];exact JX.1 N i j om o s
 refine aH (λP d B=> ∃(i j:Nat),(∃g:Nat->V,d= [u,aC p,g 2,g 3,aC (a.length:Int),aC i,aC j,g 7,g 8,g 9])/\i<=j/\j<=a.length/\(∀m,m<i->a.getD m 0<p)/\(∀m,j<=m->m<a.length->p<=a.getD m 0)/\Fr h B/\P=j-i) a.length
  ⟨0,a.length,aB rfl,om,om,λm b=>om,λm s o=>om,Fr.refl h,rfl⟩ ?_
 rintro P d B ⟨i,j,⟨g,rfl⟩,a0,hj,l,t,F,rfl⟩
 obtain⟨id,J,G,K,U⟩:=(O.mono F).open
 rw[aQ] at G K U
 have cell: ∀m,m<a.length->B.cell id (J+m)=some (aC (a.getD m 0:Nat)):=λm b=>by rw[U m b];congr 2;simp [zi,b]
 by_cases r:(i:Int)<(j:Int)
 ·have z:=bP r
  have ea:(i:Int)+(j:Int)=((i+j:Nat):Int):=om
  obtain⟨m,b⟩:=exI ((i+j)/2)
  have sr:=FC (x:=i+j)
  rw[b] at sr
  have Z:=cell m om
  simp(disch:=omega)only[go_sem,z,ea,Gs,zY,dK (n:=((i+j:Nat):Int)) om om,sr,G.ixa,Z]
  refine (gV _ _ _).mono ?_
  rintro _ Y ⟨rfl,A⟩
  by_cases R:((a.getD m 0:Nat):Int)<(p:Int)
  ·have c:Go.Sort.ltInt ((a.getD m 0:Nat):Int) (p:Int)=true:=by unfold Go.Sort.ltInt;exact bP R
   rw[c]
   simp(disch:=omega)only[go_sem]
   rw[eJ m]
   refine⟨j-(m+1),om,m+1,j,aB rfl,om,hj,λq hq=>?_,t,F.trans A,rfl⟩
   by_cases e:q=m
   ·rw[e];omega
   ·have:=mono q m om om;omega
  ·have c:Go.Sort.ltInt ((a.getD m 0:Nat):Int) (p:Int)=false:=by unfold Go.Sort.ltInt;exact bH R
   rw[c]
   simp(disch:=omega)only[go_sem]
   refine⟨m-i,om,i,m,aB rfl,om,om,l,λq s o=>?_,F.trans A,rfl⟩
   by_cases e:q=m
   ·rw[e];omega
   ·have:=mono m q om o;omega
 have z:=bH r
 obtain rfl:i=j:=om
 by_cases w:(i:Int)<(a.length:Int)
 ·have c:=bP w
  have ci:=cell i om
  by_cases y:((a.getD i 0:Nat):Int)=(p:Int)
  ·have L:=bP y
   simp(disch:=omega)only[go_sem,z,c,G.ixa,ci,L,Ag]
   exact⟨i,true,rfl,⟨λ_=>by rw[show p=a.getD i 0 by omega];exact bD om,λ_=>rfl⟩,λ_=>⟨om,om⟩,F⟩
  ·have L:=bH y
   simp(disch:=omega)only[go_sem,z,c,G.ixa,ci,L,Ag]
   refine Ev.mono (Q:=λv h'=>v= .bool false/\Fr B h') ?_ ?_
   ·refine cV tC rfl ?_
    have e: ∀x:Int,decide (x≠x)=false:=λx=>bH om
    simp(disch:=omega)only[go_sem,tC,aD,e]
    exact Fr.refl _
   rintro _ Y ⟨rfl,A⟩
   simp(disch:=omega)only[go_sem]
   refine⟨i,false,rfl,⟨λh=>(by cases h),λh=>?_⟩,λh=>(by cases h),F.trans A⟩
   exfalso
   obtain⟨m,b,e⟩:=zF.1 h
   rw[←cJ (a:=a) b] at e
   by_cases s:m<i
   ·have:=l m s;omega
   ·have o:m≠i:=λc=>by subst c;omega
    have:=mono i m om b
    have:=t i om om
    omega
 ·have c:=bH w
  simp(disch:=omega)only[go_sem,z,c,Ag]
  refine⟨i,false,rfl,⟨λh=>(by cases h),λh=>?_⟩,λh=>(by cases h),F⟩
  exfalso
  obtain⟨m,b,e⟩:=zF.1 h
  rw[←cJ (a:=a) b] at e
  have:=l m om
  omega
theorem nP {α β:Type}(f:α->β){l:List α}{i:Nat}{d:α}{e:β}(h:i<l.length):(l.map f).getD i e=f (l.getD i d):=by
 simp [List.getD,h]
theorem zD.mono {h h' h2:H}{v:V}{l:List Int}(f:zD h h' v l)(g:Fr h' h2):zD h h2 v l:=by
 obtain⟨id,a,e,c,b,d,i⟩:=f.ex;exact⟨⟨id,a,e,c,iW b g.next,by rw[g.get _ b];exact d,i⟩,f.fr.trans g⟩
theorem Td {h h':H}{v:V}{l:List Nat}(n:AM h h' v l):zD h h' v (zi l):=by
 obtain⟨e,g,nx,f⟩:=n;exact⟨⟨h.next,_,by rw[e,aQ],fM _,om,g,.inr (by rw[aQ])⟩,f⟩
theorem zD.le {b h h':H}{v:V}{l:List Int}(f:zD h h' v l)(g:Fr b h):zD b h' v l:=by
 obtain⟨id,a,e,c,d,i,j⟩:=f.ex;exact⟨⟨id,a,e,mT g.next c,d,i,j⟩,g.trans f.fr⟩
section
variable {W:Nat->Prop} {h:H} {vc:V} {n:Nat} {O:LN} {G:List Nat->Prop}
structure GC (W:Nat->Prop)(h:H)(vc:V)(n:Nat)(O:LN)(R:jI)(G:List Nat->Prop):Prop where
 cw:NL W h vc n O R
 isc:bC n G O R
 dN:iX n G
 n0:1<=n
 n7:n<=7
theorem GC.go {W':Nat->Prop}{h':H}{R:jI}(g:GC W h vc n O R G)(f:Fx W h h')(a: ∀id,id<h.next->W' id->W id):GC W' h' vc n O R G:=⟨g.cw.go f a,g.isc,g.dN,g.n0,g.n7⟩
theorem GC.ch {R:jI}(g:GC W h vc n O R G):WI h vc (n:Int) (O.map zi) (R.map (List.map zi)):=g.cw.ch
theorem GC.mono {h':H}{R:jI}(g:GC W h vc n O R G)(f:Fr h h'):GC W h' vc n O R G:=⟨g.cw.mono f,g.isc,g.dN,g.n0,g.n7⟩
theorem Rx {n:Nat}{G:List Nat->Prop}(b:iX n G){O:LN}{R:jI}(c:bC n G O R): ∀d i x,i+d=n->G x->Fix i x->BV n R x
 |0,i,x,h,hx,fx=>by
  have X:=b.cU hx;obtain rfl:i=n:=om
  rw[fx.all X];exact .one
 |d+1,i,x,h,hx,fx=>by
  have hi:i<n:=om
  have X:=b.cU hx;have o:=(c.mem i hi (x.getD i 0)).2 ⟨x,hx,fx,rfl⟩;obtain⟨k,j,e⟩:=zF.1 o;have a:=c.rep i hi k j;rw[cJ j,e] at a;obtain⟨z,l⟩:=exI ((R.getD i []).getD k []);rw[l] at a;have Z:=b.cU a.mem
  have f:z∈R.flatten:=by
   have m:k<(R.getD i []).length:=by rw[c.rl i hi];exact j
   exact List.mem_flatten.2 ⟨R.getD i [],bD (by rw[c.lr];exact hi),by rw[←l];exact bD m⟩
  have p:=Rx b c d (i+1) (aX x (dA z)) om (b.mul hx (b.inv a.mem)) ((Fix.mul X om fx (Fix.inv Z om a.fix)).succ (by
   rw[cM (by rw[X.len];exact hi)];have:=afU Z hi
   rwa [a.maps] at this))
  have:=bX.mul p f;rwa [aV X Z.inv Z,iE Z,bZ X] at this
theorem Ji {R:jI}(c:bC n G O R): ∀g∈R.flatten,G g:=λg d=>by
 obtain⟨r,j,d⟩:=List.mem_flatten.1 d;obtain⟨i,hi,rfl⟩:=zF.1 j;obtain⟨k,f,rfl⟩:=zF.1 d;have a:i<n:=by have:=c.lr;omega
 have e:R.getD i []=R[i]:=by rw[List.getD,dD hi];rfl
 have b:k<(O.getD i []).length:=by rw[←c.rl i a,e];exact f
 have:=(c.rep i a k b).mem;rw[e,List.getD,dD f] at this;exact this
theorem Ti (a:iX n G){R:jI}(c:bC n G O R)(x:List Nat):BV n R x↔G x:=
 ⟨λh=>h.le a (Ji c),λh=>Rx a c n 0 x om h (λk b=>om)⟩
theorem GC.chk {R:jI}(g:GC W h vc n O R G):Um (n:Int) (O.map zi) (R.map (List.map zi))=0:=by
 unfold Um;have:=g.n0;have:=g.n7;rw[bI om,bF ⟨n,O,R,rfl,g.n0,om,rfl,rfl,λx a=>g.dN.cU (Ji g.isc x a),g.isc.congr λx=>(Ti g.dN g.isc x).symm⟩]
theorem GC.small {R:jI}(g:GC W h vc n O R G):zV (O.map zi)/\sN (R.map (List.map zi)):=Jv (λx a=>g.dN.cU a) (by have:=g.n7;omega) g.isc
theorem GC.check {R:jI}(g:GC W h vc n O R G):Ev T 135 [vc] h (λv h'=>v= aC 0/\Fr h h'):=by
 have:=VW vc _ _ _ h g.ch (.inl (by have:=g.n7;omega)) g.small.1 g.small.2.out;rwa [g.chk] at this
theorem EE {x:List Nat}(X:bE n x)(a:1<=n)(h2:n<=64):AT (zi x)=0:=by
 unfold AT;rw[bI (by rw[aQ,X.len];omega),Yd X];rfl
end
theorem Lo (c:V)(n:Nat)(l:LN)(h:H)(U:1<=n)(J:n<=7)(hl:l.length<=4096)(P:SP h c l)(y: ∀g∈l,bE n g):
  Ev T 101 [aC n,c] h (λv h'=> ∃vc O R,v= .tup [vc,aC 0]/\GC (λid=>id<h.next) h' vc n O R (bX n (· ∈l))/\Fr h h'):=by
 refine cV ajF rfl ?_
 obtain⟨B,hB⟩:=exI h.next
 obtain⟨t,e1,n1,g1,o1,f1⟩:=dF hB [aC 0,.aE,.aE]
 have d1:decide ((n:Int)<1)=false:=bH om
 have d2:decide ((64:Int)<(n:Int))=false:=bH om
 have lv:=P.lens
 rw[jV] at lv
 have d3:decide ((4096:Int)<(l.length:Int))=false:=bH om
 obtain⟨id,N,ws,sh,a,W,j,k⟩:=P.open
 rw[jV] at sh a W j
 simp(disch:=omega)only[go_sem,ajF,aD,hB,e1,d1,d2,lv,d3]
 refine bJ (λY A=>(∃g:Nat->V,Y= [aC n,c,.ptr B 0,g 3,g 4,g 5,g 6,g 7,g 8,g 9,g 10,g 11,g 12,g 13])/\Fr t A) ?_ ?_
 ·refine aH (λk' Y A=> ∃(i:Nat),(∃g:Nat->V,Y= [aC n,c,.ptr B 0,g 3,g 4,g 5,g 6,g 7,c,aC (l.length:Int),aC i,g 11,g 12,g 13])/\i<=l.length/\Fr t A/\k'=l.length-i) l.length
   ⟨0,aB rfl,iJ _,Fr.refl t,rfl⟩ ?_
  rintro k' q r ⟨i,⟨g,rfl⟩,hi,f,rfl⟩
  by_cases p:(i:Int)<(l.length:Int)
  ·have x:=bP p
   have b:i<l.length:=om
   have F2:=f1.trans f
   have ci:r.cell id (N+i)=some (ws.getD i .undef):=by rw[F2.cell (a om),j i b]
   have K:=Ml k b
   have X:bE n (l.getD i []):=y _ (bD b)
   generalize ws.getD i .undef=vx at ci K
   have lx:=K.lens
   rw[aQ,X.len] at lx
   simp(disch:=omega)only[go_sem,x,sh.ixa,ci]
   refine (aiM vx _ r (by rw[aQ,X.len];omega) (K.mono F2)).mono ?_
   rw[EE X U om]
   rintro _ G ⟨rfl,d⟩
   simp(disch:=omega)only[go_sem]
   refine aW (λj=>(j rfl).elim) (λ_=>?_)
   simp(disch:=omega)only[go_sem,lx]
   refine aW (λj=>(j rfl).elim) (λ_=>?_)
   simp(disch:=omega)only[go_sem]
   rw[eJ i]
   exact⟨l.length-(i+1),om,i+1,aB rfl,om,f.trans d,rfl⟩
  have x:=bH p
  simp(disch:=omega)only[go_sem,x]
  exact⟨aB rfl,f⟩
 rintro q r ⟨⟨g,rfl⟩,f⟩
 have F2:=f1.trans f
 simp(disch:=omega)only[go_sem]
 refine (Xh n c l r U J om (P.mono F2) y).mono ?_
 rintro _ G ⟨a0,L,F,τ,rfl,R,tl,d,_⟩
 simp(disch:=omega)only[go_sem]
 refine (Qt G n a0 L F τ J R tl.tw).mono ?_
 rintro vc s ⟨O,R',ch,z,Z⟩
 have F4:=(F2.trans d).trans Z
 have g4:s.get B=some (.cells false [aC 0,.aE,.aE]):=by rw[Z.get _ (by have:=d.next;have:=f.next;omega),d.get _ (by have:=f.next;omega),f.get _ om];exact g1
 have Q:=ch
 obtain⟨vO,vR,a1,a2,e,t1,_,_,t2,_,_⟩:=ch
 subst e
 have o:=t1.cK.2.1
 have m:=t2.cK.2.1
 obtain⟨h5,e5,n5,g5,o5⟩:=pJ s B [aC n,vO,vR]
 have r5:=aI g5
 simp(disch:=omega)only[go_sem,bW s B 0 (v:= aC n) (u:=vO) (w:=vR) rfl o m,g4,cF,e5,r5]
 have n3:=d.next
 have n2:=f.next
 have n4:=Z.next
 have f5:Fx (λid=>id<G.next) s h5:=⟨om,λid _ a=>o5 id om⟩
 refine⟨_,O,R',rfl,⟨Q.go f5 (λid _ h=>om),z.congr tl.group,bX.dN y,U,J⟩,⟨by have:=F4.next;omega,λid a=>by rw[o5 id om];exact F4.get id a⟩⟩
section
variable {b A:Nat} {hh:H} {l:LN}
theorem EV {h:H}{v:V}{ws:List V}(s:SV h v 1 ws)(f:HK v)(n:1<=ws.length): ∃v',xT 1 v (some (aC 1)) none none=some v'/\SV h v' 1 (ws.drop 1):=by
 rcases s with ⟨_,e⟩|⟨id,a,len,r,m,d,rfl,k,i,j,u,o⟩
 ·rw[e] at n;simp at n
 have w:oG none len len=some len:=by simp [oG]
 have p:((d.drop a).take (len*1)).drop 1=(d.drop (a+1)).take (len- 1):=by
  rw[List.drop_take,List.drop_drop,uW]
 rcases f _ _ _ _ rfl with rfl|⟨c,rfl,t⟩
 ·by_cases q:1<len
  ·refine⟨.sl id (a+1) (len- 1) (.un 1),?_,.inr ⟨id,a+1,len- 1,_,m,d,rfl,by rw[AQ,k];omega,i,j,om,by rw[←o,p,uW]⟩⟩
   simp [xT,oG,q,show (1:Int)<=(len:Int) by omega]
  ·refine⟨.sl id a 0 (.un 1),?_,.inr ⟨id,a,0,_,m,d,rfl,by rw[AQ,k];omega,i,j,om,?_⟩⟩
   ·have:len=1:=om
    subst this;simp [xT,oG]
   ·have:ws.drop 1= []:=WJ (by rw[AQ];omega)
    rw[this];simp
 ·refine⟨.sl id (if c=1 then a else a+1) (len- 1) (.kn (c- 1)),?_,.inr ⟨id,_,len- 1,_,m,d,rfl,by rw[AQ,k];omega,i,j,by split<;>omega,?_⟩⟩
  ·have:1<=len:=om
   simp [xT,oG,show (1:Int)<=(len:Int) by omega,show 1<=c by omega]
  ·by_cases e:c=1
   ·have:ws.drop 1= []:=WJ (by rw[AQ];omega)
    rw[this];have:len- 1=0:=om
    rw[this];simp
   ·rw[bI e,←o,p,uW]
def Ku (b:Nat)(hh:H)(A:Nat)(l:LN):Prop:= ∃va ws W,hh.get A=aZ [va]/\cY hh va 1 ws b/\fW W hh ws l/\Hq W va/\(∀id,id<b->W id)/\ ∀id,W id->id<hh.next
theorem Ku.mono {h2:H}(a:Ku b hh A l)(d:A<hh.next)(f:Fr hh h2):Ku b h2 A l:=by
 obtain⟨m,j,W,g,o,p,k,i,c⟩:=a;exact⟨m,j,W,by rw[f.get _ d];exact g,o.fr f,p.fx (Fx.of f),k,i,λid h=>iW (c id h) f.next⟩
theorem Ku.other {h2:H}(a:Ku b hh A l){k:Nat}(r:k<b)(c:k≠A)(n:h2.next=hh.next)(o: ∀j,j≠k->h2.get j=hh.get j):Ku b h2 A l:=by
 obtain⟨t,s,W,g,v,p,u,d,i⟩:=a
 have f:Fx W hh h2:=⟨om,λid m q=>o id λe=>q (e▸d k r)⟩
 exact⟨t,s,W,by rw[o _ (Ne.symm c)];exact g,v.mono om λid _ _ _ _ m _=>o id om,fW.go p f (λ_ _ h=>h),u,d,λid h=>by rw[n];exact i id h⟩
theorem Ku.push {d:H}(a:Ku b hh A l)(F:A<b){x:List Nat}{q y:V}(bytes:Nat)(P:bytes<=24)(hl:l.length<1000000)(f:Fr hh d)(L:b<=hh.next)(U:PV (λid=>id<hh.next) d q x)(sy:SV d y 1 [q]):
  ∃va h6,hh.get A=aZ [va]/\xQ d 1 bytes va y=some (.sl d.next 0 (l.length+1) (.un 1),h6)/\h6.get A=aZ [va]/\h6.next=d.next+1/\(∀k,k<b->h6.get k=d.get k)/\
   (va.cells= [va]/\va.one=true)/\dE va va=true/\ ∀h7,h6.set A (aZ [.sl d.next 0 (l.length+1) (.un 1)])=h7->Ku b h7 A (l++ [x]):=by
 obtain⟨va,Y,W,g,j,p,Z,B,w⟩:=a
 have R:=aM.length p
 have nx:=f.next
 obtain⟨h6,O,r⟩:=(j.fr f).push (bytes:=bytes) sy (n:=l.length) (m:=1) om rfl om om ⟨by have:=Nat.mul_le_mul_left (2*(l.length+1)+1000) P;omega,om⟩
 have Q: ∀k,k<b->dL va k:=λk G id i m c e e2=>by have:=(j.in _ _ _ _ e).2.1;omega
 have N:=r.next
 have J: ∀k,k<b->h6.get k=d.get k:=λk G=>r.old k om (Q k G)
 refine⟨va,h6,g,O,by rw[J A F,f.get A om];exact g,N,J,⟨j.sv.cK.1,j.sv.cK.2.1⟩,j.sv.dE,λh7 e=>?_⟩
 subst e
 have u:Fx W d h6:=r.fx Z
 have v:Fx W h6 (h6.set A (aZ [.sl d.next 0 (l.length+1) (.un 1)])):=Fx.set h6 (B A F) _
 have o:=u.trans v (λ_ _ h=>h)
 have z: ∀id,id<d.next->(W id∨id=d.next)->W id:=λid K s=>by
  rcases s with s|s
  ·exact s
  ·omega
 have t:PV W d q x:=U.lH λid _ h=>w id h
 refine⟨_,Y++ [q],λid=>W id∨id=d.next,by rw[H.aS],?_,(fW.go (p.fx (Fx.of f)) o z).append (fW.one (PV.go t o z)),λid i n c e=>by cases e;exact .inr rfl,λid h=> .inl (B id h),λid h=>?_⟩
 ·exact (r.own (b:=b) om rfl om).mono (fM _) λid i m c e K _=>H.aG h6 om _
 ·simp only[H.bY]
  rcases h with h|h
  ·have:=w id h;omega
  ·omega
end
def bQ (R:jI):LN:=R.flatMap (List.drop 1)
theorem Bf {R:jI}{i:Nat}(hi:i<R.length):bQ (R.take (i+1))=bQ (R.take i)++(R.getD i []).drop 1:=by
 unfold bQ;rw[cE [] hi,List.flatMap_append];simp
theorem sY {n:Nat}{R:jI}: ∀{i:Nat},i<=R.length->(∀j,j<i->(R.getD j []).length<=n)->(bQ (R.take i)).length<=i*n
 |0,_,_=>by simp [bQ]
 |i+1,h,hr=>by
  rw[Bf om,jZ,AQ,Nat.succ_mul];have b:=sY (i:=i) om (λj c=>hr j om);have a:=hr i om;omega
structure JW (h h':H)(v:V)(l:LN):Prop where
 ex: ∃ws W,cY h' v 1 ws h.next/\fW W h' ws l/\Hq W v/\(∀id,id<h.next->W id)
 fr:Fr h h'
theorem JW.sp {h h':H}{v:V}{l:LN}(n:JW h h' v l):SP h' v l:=by
 obtain⟨b,W,o,p,_⟩:=n.ex;have a:=aM.length p
 exact⟨b,o.sv,aM.mQ (by simpa using a) λi hi c=>by
  have:=(aM.get p i hi om).si
  simpa using this⟩
theorem JW.pl {h h':H}{v:V}{l:LN}(n:JW h h' v l):PL (λid=>id<h.next) h' v l:=by
 obtain⟨b,W,o,p,_,a⟩:=n.ex;exact⟨b,o.sv,DO o,p.lH (λid _ h=>a id h),cY.NN o⟩
structure StJ (h hh:H)(id b B:Nat)(r:eH)(n:Nat)(vO vR:V)(R:jI)(i:Nat):Prop where
 acc:Ku (id+1) hh (B+1) (bQ (R.take i))
 gr:hh.get id=some (.loop r)
 gb:hh.get b=aZ [aC n,vO,vR]
 nx:id<hh.next
 fr:Fr h hh
theorem Qy {W:Nat->Prop}(vc:V)(n:Nat)(O:LN)(R:jI)(G:List Nat->Prop)(h:H)(gc:GC W h vc n O R G):
  Ev T 106 [vc] h (λv h'=> ∃vl,v= .tup [vl,aC 0]/\JW h h' vl (bQ R)):=by
 obtain⟨vO,vR,e,sO,sR⟩:=gc.ch
 subst e
 refine cV Bh rfl ?_
 obtain⟨wR,tR,aR,kR⟩:=sR
 have lR:=aR.length
 have c:=gc.isc
 rw[jV,c.lr] at lR
 have a7:vO.one=true:=oNs sO
 have a6:=tR.cK.2.1
 have n0:=gc.n0
 have n7:=gc.n7
 obtain⟨B,hB⟩:=exI h.next
 obtain⟨h1,e1,n1,g1,o1,f1⟩:=dF hB [aC n,vO,vR]
 have bx:=bM h (v:= aC n) (u:=vO) (w:=vR) rfl a7 a6
 have rB:=aI g1
 simp(disch:=omega)only[go_sem,Bh,aD,bx,hB,e1,rB]
 refine ((gc.mono f1).check).mono ?_
 rintro _ h2 ⟨rfl,f2⟩
 simp(disch:=omega)only[go_sem]
 refine aW (λhc=>(hc rfl).elim) (λ_=>?_)
 obtain⟨A,hA⟩:=exI h2.next
 have n2:=f2.next
 obtain⟨h3,e3,n3,g3,o3,f3⟩:=dF hA [.aE]
 have d4:h3.get B=aZ [aC n,vO,vR]:=by rw[f3.get _ om,f2.get _ om];exact g1
 have e5:=aI d4
 simp(disch:=omega)only[go_sem,hA,e3,e5]
 refine (HD (n:Int) vO vR a7 a6 h3).mono ?_
 rintro _ Y ⟨rfl,g4,n4,f4⟩
 simp(disch:=omega)only[go_sem]
 obtain⟨id,b2⟩:=exI Y.next
 obtain⟨b,hb⟩:=exI h3.next
 rw[hb] at g4 n4
 refine⟨rfl,uJ λr hr=>?_⟩
 rw[b2,hb]
 have iP:r.st= .ready:=by rw[hr]
 have b9:r.pend=none:=by rw[hr]
 have o5: ∀k,k<id->(Y.new (.loop r)).get k=Y.get k:=λk L=>H.bG Y om _
 have f5:Fr Y (Y.new (.loop r)):=(Fr.refl Y).new _
 have n5:(Y.new (.loop r)).next=id+1:=by rw[H.aU,b2]
 have F4:=((f1.trans f2).trans f3).trans f4
 have rl: ∀j,j<n->(R.getD j []).length<=n:=λj Q=>by
  rw[c.rl j Q];exact mT (uQ (λx hx=>gc.dN.cU hx) Q (c.asc j Q) (c.mem j Q)) om
 obtain⟨t,b5⟩: ∃t,A=t+1:=⟨A- 1,om⟩
 have J0:StJ h (Y.new (.loop r)) id b t r n vO vR R 0:=by
  refine⟨⟨.aE, [],λk=>k<id+1,?_,cY.aE _ _ _,trivial,λ_ _ _ _ e=>(by cases e),λ_ h=>h,λk L=>om⟩,by rw[←b2,H.aL],by rw[o5 _ om];exact g4,om,F4.trans f5⟩;rw[←b5,o5 _ om,f4.get _ om];exact g3
 refine (Zb id b (n:Int) vO vR wR _ om (λi f=>StJ h f id b t r n vO vR R i) (λf=>False) J0 (λi f J=>⟨J.gb,tR.mono J.fr⟩) ?_).mono ?_
 ·rintro i f hi J
  have m:i<n:=om
  refine sZ J.gr (by rw[hr];rfl) iP λh9 g9 n9 o9=>?_
  rw[congrArg eH.assign hr,congrArg eH.vars hr,congrArg eH.pars hr]
  simp(disch:=omega)only[go_sem,List.zip_cons_cons,List.zip_nil_left]
  rw[congrArg eH.body hr]
  have nx:=J.nx
  have ri:(R.map (List.map zi)).getD i []=(R.getD i []).map zi:=nP (List.map zi) (by rw[c.lr];exact m)
  have b0:=iG aR (i:=i) (by rw[jV,c.lr];exact m) .undef []
  rw[ri] at b0
  obtain⟨wr,tr,ar⟩:=b0
  have lr:=ar.length
  rw[jV] at lr
  have c3:1<=wr.length:=by
   rw[lr,c.rl i m];have:=(c.mem i m i).2 ⟨bL n,gc.dN.one,Fix.one n i om,fQ m⟩;exact HJ this
  have F9:Fr h h9:=⟨by rw[n9];exact J.fr.next,λk L=>by rw[o9 k om];exact J.fr.get k L⟩
  obtain⟨vt,f0,tt⟩:=EV tr (kR _ (bD om)) c3
  have lt:bT vt=some (aC (wr.length- 1:Nat)):=by unfold bT;rw[tt.len (n:=wr.length- 1) (by rw[AQ];omega) om];rfl
  have g5:wr.length<=7:=by have:=rl i m;omega
  simp(disch:=omega)only[go_sem,f0,lt]
  have A9:Ku (id+1) h9 (t+1) (bQ (R.take i)):=J.acc.other (k:=id) om om n9 o9
  refine aH (λk' a8 f=> ∃(k:Nat),(∃g:Nat->V,a8= [g 0,g 1,g 2,g 3,g 4,.ptr A 0,g 6,g 7,g 8,g 9,g 10,g 11,vt,aC (wr.length- 1:Nat),aC k,g 15])/\k<=wr.length- 1/\Ku (id+1) f (t+1) (bQ (R.take i)++((R.getD i []).drop 1).take k)/\
    f.get id=some (.loop (pW r))/\f.get b=aZ [aC n,vO,vR]/\id<f.next/\Fr h f/\k'=wr.length- 1-k) (wr.length- 1)
   ⟨0,aB rfl,iJ _,by rw[List.take_zero,vF];exact A9,g9,by rw[o9 _ om];exact J.gb,om,F9,rfl⟩ ?_
  rintro k' a8 a ⟨k,⟨g,rfl⟩,L,P,a9,b1,c7,K,rfl⟩
  have g7:((R.getD i []).drop 1).length=wr.length- 1:=by rw[AQ];omega
  by_cases c8:(k:Int)<((wr.length- 1:Nat):Int)
  case neg=>
   have d1:=bH c8;have ek:k=wr.length- 1:=om
   rw[ek,Tn (l:=(R.getD i []).drop 1) om,←Bf (by rw[c.lr];exact m)] at P;simp(disch:=omega)only[go_sem,d1];refine oX iP b9 a9 (.inl ⟨rfl,P.other (k:=id) om om rfl (λj Q=>H.aG _ Q _),by rw[H.aS],by rw[H.aG _ om];exact b1,c7,K.set om _⟩)
  have d1:=bP c8
  have g0:k<wr.length- 1:=om
  have b3:k+1<(R.getD i []).length:=om
  obtain⟨x,hx⟩:=exI ((R.getD i []).getD (k+1) [])
  have f7:((R.getD i []).drop 1).getD k []=x:=by
   rw[←hx];generalize R.getD i []=row;rw[List.getD,List.getD,List.getElem?_drop,Nat.add_comm 1 k]
  have X:bE n x:=by
   rw[←hx];exact gc.dN.cU (c.rep i m (k+1) (by rw[←c.rl i m];exact b3)).mem
  have sx:=iG ar (i:=k+1) (by rw[jV];exact b3) .undef []
  rw[nP zi (d:= []) b3,hx] at sx
  obtain⟨e9,c0,d5,f8,e7⟩:=(tt.mono K).shape (wr.length- 1) (by rw[AQ];omega) om
  have ck:a.cell e9 (c0+k)=some (wr.getD (k+1) .undef):=by
   rw[e7 k (by rw[AQ];omega),List.getElem?_drop,List.getD,Nat.add_comm 1 k,dD om];rfl
  generalize wr.getD (k+1) .undef=vx at sx ck
  obtain⟨N,gA,f6⟩: ∃N,a.get (t+1)=aZ [N]/\dE N N=true:=by
   obtain⟨N,_,_,gA,ow,_⟩:=P;exact⟨N,gA,ow.sv.dE⟩
  have fb:Fr a (H.mk a.tr (a.next+6)):=(Fr.refl a).bA om
  rw[b5]
  simp(disch:=omega)only[go_sem,d1,d5.ixa,ck,H.aF gA]
  refine (Mz vx (zi x) (H.mk a.tr (a.next+6)) (by rw[aQ,X.len];omega) (by rw[aQ,X.len];omega) (sx.mono (K.trans fb))).mono ?_
  rintro a0 p s
  have c9:=fb.trans s.fr
  have d9:=s.fr.next
  have c6:p.get (t+1)=aZ [N]:=by rw[c9.get _ om];exact gA
  have c4:PV (λid=>id<a.next) p a0 x:=s.pv λid h=>by simp;omega
  simp(disch:=omega)only[go_sem,H.aF c6,f6,cT _ (z:= .aE) c4.fG.1 c4.fG.2]
  obtain⟨o,q⟩: ∃o:H,o=H.mk ((H.mk p.tr (a.next+3)).new (Ob.cells false [a0])).tr p.next:=⟨_,rfl⟩
  rw[←q]
  have d3:o.get (a.next+3)=aZ [a0]:=by rw[q];exact H.aL (H.mk p.tr (a.next+3)) _
  have g2:o.next=p.next:=by rw[q]
  have d0: ∀k,k≠a.next+3->o.get k=p.get k:=λk L=>by rw[q];exact H.bG (H.mk p.tr (a.next+3)) (by simpa using L) _
  simp only at d9
  have a5:Fr a o:=⟨om,λk L=>by rw[d0 k om];exact c9.get k L⟩
  have e8:PV (λid=>id<a.next) o a0 x:=by
   obtain⟨i5,c5,ev,a1,a2,a3,a4⟩:=s.ex;simp only at a1;rw[ev];exact⟨SV.all (by rw[aP,uW]) om (by rw[d0 _ om];exact a3) _,λf=>by have:i5<a.next:=f;omega⟩
  have e4:(bQ (R.take i)++((R.getD i []).drop 1).take k).length<1000000:=by
   have h1:=sY (n:=n) (R:=R) (i:=i) (by rw[c.lr];omega) (λj Q=>rl j om);have h2:i*n<=7*7:=Nat.mul_le_mul om n7;rw[jZ,Fj];omega
  obtain⟨c1,b4,b8,d7,d6,g6,b6,one,_,e0⟩:=P.push om (bytes:=24) (fM _) e4 a5 om e8 (SV.one om d3 (.kn 1))
  have e6:c1=N:=by rw[gA] at b8;cases b8;rfl
  subst e6
  have d2: ∀(f:H) (y:V),dX (aZ [c1]) f (t+1) 0 [y]=some (f.set (t+1) (aZ [y])):=λf y=>bN (by simp) f _ _
  simp(disch:=omega)only[go_sem,d7,d6,d2]
  rw[eJ k]
  have b7:=e0 _ rfl
  have d8:bQ (R.take i)++((R.getD i []).drop 1).take k++ [x]=bQ (R.take i)++((R.getD i []).drop 1).take (k+1):=by
   rw[Ll,cE [] om,f7]
  rw[d8] at b7
  have g8:Fr a (b4.set (t+1) (aZ [.sl o.next 0 ((bQ (R.take i)++((R.getD i []).drop 1).take k).length+1) (.un 1)]))->True:=λ_=>trivial
  obtain⟨Z,F⟩: ∃Z,Z=b4.set (t+1) (aZ [.sl o.next 0 ((bQ (R.take i)++((R.getD i []).drop 1).take k).length+1) (.un 1)]):=⟨_,rfl⟩
  rw[←F] at b7 ⊢
  have e2: ∀k,k<=id->k≠t+1->Z.get k=a.get k:=λk h1 h2=>by rw[F,H.aG _ h2,b6 k om];exact a5.get k om
  have f9:Z.next=b4.next:=by rw[F];rfl
  refine⟨wr.length- 1-(k+1),om,k+1,aB rfl,om,b7,by rw[b6 id om,a5.get _ om];exact a9,by rw[b6 b om,a5.get _ om];exact b1,om,⟨by have:=K.next;omega,λk L=>by rw[e2 k om om];exact K.get k L⟩,rfl⟩
 ·rintro _ f (J|hf)
  case inr=>exact hf.elim
  refine⟨r,J.gr,by rw[iP];simp,?_⟩
  have en:r.pend.getD .norm= .norm:=by rw[b9];rfl
  rw[en]
  have nx:=J.nx
  have c2:=J.acc
  rw[lR,Tn (by rw[c.lr];omega)] at c2
  obtain⟨h9,U⟩: ∃h9,h9=f.set id (some (.loop {r with st:= .out})):=⟨_,rfl⟩
  have A9:=c2.other (h2:=h9) (k:=id) om om (by rw[U];rfl) (λj Q=>by rw[U,H.aG _ Q])
  have F9:Fr h h9:=by rw[U];exact J.fr.set om _
  rw[←U,b5]
  obtain⟨N,ws,W',gA,ow,pv,bl,l1,l2⟩:=A9
  simp(disch:=omega)only[go_sem,H.aF gA]
  exact⟨N,rfl,⟨ws,W',ow.le om,pv,bl,λid h=>l1 id om⟩,F9⟩
end Go.Proofs.YtcdbmkidaecdiaaGreat
namespace Go.Pm
set_option maxRecDepth 100000
section
variable {x:List Nat} {i:Nat}
def jP (O:zI)(x:List Nat)(i:Nat):List Nat:=(O.getD i []).map λq=>x.getD q 0
def wC (l:List Nat):List Nat:=l.mergeSort λa b=>decide (a<=b)
theorem nK (l:List Nat):(wC l).Perm l:=List.mergeSort_perm l _
theorem Ry (l:List Nat):(wC l).Pairwise (· <= ·):=by
 have:=List.pairwise_mergeSort (le:=λa b:Nat=>decide (a<=b)) (λa b c d f=>by simp at*;omega) (λa b=>by simp;omega) l;exact this.imp λh=>by simpa using h
def iY (O:zI)(R:PZ)(x:List Nat)(i im:Nat):List Nat:=aX ((R.getD i []).getD ((jP O x i).idxOf im) []) x
def cZ (O:zI)(R:PZ):Nat->Nat->List Nat->zI
 |0,_,x=> [x]
 |d+1,i,x=>(wC (jP O x i)).flatMap λim=>cZ O R d (i+1) (iY O R x i im)
structure dW (G:List Nat->Prop)(L:zI):Prop where
 asc:L.Pairwise Lt
 mem: ∀x,x∈L↔G x
theorem Lt.irrefl (h:Lt x x):False:=h.asymm h
theorem Lt.trans {y z:List Nat}(p:x.length=y.length)(a:Lt x y)(b:Lt y z):Lt x z:=by
 obtain⟨k,l,f,n⟩:=a;obtain⟨m,q,d,o⟩:=b;rcases Nat.lt_trichotomy k m with h|h|h
 ·exact⟨k,l,λj c=>(f j c).trans (d j oq),by rw[←d k h];exact n⟩
 ·subst h;exact⟨k,l,λj c=>(f j c).trans (d j c),oq⟩
 ·exact⟨m,oq,λj c=>(f j oq).trans (d j c),by rw[f m h];exact o⟩
theorem GX: ∀{a b:zI},a.Pairwise Lt->b.Pairwise Lt->(∀p,p∈a↔p∈b)->a=b
 | [], [],_,_,_=>rfl
 | [],y::b,_,_,h=>by have:=(h y).2 (by simp);simp at this
 |x::a, [],_,_,h=>by have:=(h x).1 (by simp);simp at this
 |x::a,y::b,ha,hb,h=>by
  obtain⟨l,m⟩:=List.pairwise_cons.1 ha;obtain⟨k,n⟩:=List.pairwise_cons.1 hb
  have e:x=y:=by
   have c:=(h x).1 (by simp);have f:=(h y).2 (by simp);rcases List.mem_cons.1 c with c|c
   ·exact c
   ·rcases List.mem_cons.1 f with f|f
    ·exact f.symm
    ·exact ((k x c).asymm (l y f)).elim
  subst e;congr 1
  refine GX m n λp=>⟨λd=>?_,λd=>?_⟩
  ·rcases List.mem_cons.1 ((h p).1 (List.mem_cons_of_mem _ d)) with e|j
   ·subst e;exact ((l p d).irrefl).elim
   ·exact j
  ·rcases List.mem_cons.1 ((h p).2 (List.mem_cons_of_mem _ d)) with e|j
   ·subst e;exact ((k p d).irrefl).elim
   ·exact j
theorem dW.uniq {G:List Nat->Prop}{L M:zI}(a:dW G L)(b:dW G M):L=M:=GX a.asc b.asc λp=>(a.mem p).trans (b.mem p).symm
theorem dW.nodup {G:List Nat->Prop}{L:zI}(a:dW G L):L.Nodup:=by
 rw[List.nodup_iff_pairwise_ne];exact a.asc.imp λh e=>by rw[e] at h;exact h.irrefl
def kI (O:zI):Nat->Nat->Nat
 |0,_=>1
 |d+1,i=>(O.getD i []).length*kI O d (i+1)
section
variable {n:Nat} {G:List Nat->Prop} {O:zI} {R:PZ}
theorem UD {im:Nat}:im∈jP O x i↔ ∃q∈O.getD i [],x.getD q 0=im:=by simp [jP]
theorem Im (a:iX n G)(c:bC n G O R)(hi:i<n){q:Nat}(b:q∈O.getD i []):q<n:=by
 obtain⟨g,d,_,rfl⟩:=(c.mem i hi q).1 b;exact (a.cU d).iN hi
theorem alB (d:iX n G)(c:bC n G O R)(X:bE n x)(hi:i<n):(jP O x i).Nodup:=by
 have nd:(O.getD i []).Pairwise (· < ·):=c.asc i hi;rw[List.nodup_iff_pairwise_ne];unfold jP;rw[List.pairwise_map];refine nd.imp_of_mem λ{a b} f j h e=>?_
 have:=X.inj (Im d c hi f) (Im d c hi j) e;omega
theorem wH (q:iX n G)(c:bC n G O R)(X:bE n x)(hi:i<n){im:Nat}(f:im∈jP O x i):
  ∃k,k<(O.getD i []).length/\(jP O x i).idxOf im=k/\x.getD ((O.getD i []).getD k 0) 0=im/\Xf n G i ((O.getD i []).getD k 0) ((R.getD i []).getD k [])/\iY O R x i im=aX ((R.getD i []).getD k []) x/\bE n (iY O R x i im)/\(iY O R x i im).getD i 0=im/\ ∀j,j<i->(iY O R x i im).getD j 0=x.getD j 0:=by
 have h:=List.idxOf_lt_length_iff.2 f
 have a:(jP O x i).idxOf im<(O.getD i []).length:=by simpa [jP] using h
 have o:(jP O x i).getD ((jP O x i).idxOf im) 0=im:=by rw[cJ h,List.getElem_idxOf]
 obtain⟨k,e⟩: ∃k,(jP O x i).idxOf im=k:=⟨_,rfl⟩
 rw[e] at a o h
 have p:x.getD ((O.getD i []).getD k 0) 0=im:=by
  rw[←o];unfold jP;rw[List.getD_eq_getElem?_getD (l:=List.map _ _),List.getElem?_map,List.getElem?_eq_getElem a,cJ a];rfl
 have b:=c.rep i hi k a
 have m:=q.cU b.mem
 have d:iY O R x i im=aX ((R.getD i []).getD k []) x:=by unfold iY;rw[e]
 refine⟨k,a,e,p,b,d,by rw[d];exact m.mul X,?_,λj r=>?_⟩
 ·rw[d,cM (by rw[m.len];exact hi),b.maps,p]
 ·rw[d,cM (by rw[m.len];omega),b.fix j r]
theorem Sf (m:iX n G)(c:bC n G O R): ∀(d i:Nat) (x:List Nat),i+d=n->bE n x->
  (∀z,z∈cZ O R d i x↔ ∃g,G g/\Fix i g/\z=aX g x)/\(cZ O R d i x).Pairwise Lt/\(cZ O R d i x).length=kI O d i
 |0,i,x,h,X=>by
  obtain rfl:i=n:=oq
  refine⟨λz=>?_,by simp [cZ],rfl⟩;simp only[cZ,List.mem_singleton];constructor
  ·rintro rfl;exact⟨bL i,m.one,Fix.one i i (Nat.le_refl _),(cL X).symm⟩
  ·rintro⟨g,q,s,rfl⟩;rw[s.all (m.cU q),cL X]
 |d+1,i,x,h,X=>by
  have hi:i<n:=oq
  have v:=λp (f:p∈jP O x i)=>Sf m c d (i+1) (iY O R x i p) oq (wH m c X hi f).choose_spec.2.2.2.2.2.1
  have A: ∀p,p∈wC (jP O x i)↔p∈jP O x i:=λp=>(nK _).mem_iff
  have t: ∀p,p∈jP O x i-> ∀z,z∈cZ O R d (i+1) (iY O R x i p)->z.length=n/\z.getD i 0=p/\ ∀j,j<i->z.getD j 0=x.getD j 0:=λp f z y=>by
   obtain⟨g,q,s,rfl⟩:=((v p f).1 z).1 y;obtain⟨k,_,_,_,_,_,_,s1,U⟩:=wH m c X hi f;have r:=m.cU q;refine⟨by rw[eY,r.len],?_,λj B=>?_⟩
   ·rw[cM (by rw[r.len];exact hi),s i oq,s1]
   ·rw[cM (by rw[r.len];omega),s j oq,U j B]
  refine⟨λz=>?_,?_,?_⟩
  ·simp only[cZ,List.mem_flatMap,A]
   constructor
   ·rintro⟨p,f,y⟩
    obtain⟨g,q,s,rfl⟩:=((v p f).1 z).1 y;obtain⟨k,_,_,_,o,J,_⟩:=wH m c X hi f;refine⟨aX g ((R.getD i []).getD k []),m.mul q o.mem,Fix.mul (m.cU q) oq (s.mono oq) o.fix,?_⟩;rw[J,aV (m.cU q) (m.cU o.mem) X]
   ·rintro⟨g,q,s,rfl⟩
    have r:=m.cU q;have N:=(c.mem i hi (g.getD i 0)).2 ⟨g,q,s,rfl⟩;have f:x.getD (g.getD i 0) 0∈jP O x i:=UD.2 ⟨_,N,rfl⟩;refine⟨_,f,((v _ f).1 _).2 ?_⟩;obtain⟨k,P,_,Z,o,J,_⟩:=wH m c X hi f;have K:(O.getD i []).getD k 0=g.getD i 0:=X.inj (Im m c hi (by rw[cJ P];exact List.getElem_mem P)) (Im m c hi N) Z;rw[K] at o;have u:=m.cU o.mem;refine⟨aX g (dA ((R.getD i []).getD k [])),m.mul q (m.inv o.mem),(Fix.mul r oq s (Fix.inv u oq o.fix)).succ ?_,?_⟩
    ·rw[cM (by rw[r.len];exact hi)]
     have:=afU u hi;rwa [o.maps] at this
    ·rw[J,←aV (r.mul u.inv) u X,aV r u.inv u,iE u,bZ r]
  ·unfold cZ
   rw[List.pairwise_flatMap];refine⟨λp f=>(v p ((A p).1 f)).2.1,?_⟩;have L:=Ry (jP O x i);have nd:(wC (jP O x i)).Nodup:=(nK _).nodup_iff.2 (alB m c X hi);rw[List.nodup_iff_pairwise_ne] at nd;refine (L.and nd).imp_of_mem λ{a b} F hb a0 z y w Q=>?_
   obtain⟨l1,Y,z2⟩:=t a ((A a).1 F) z y;obtain⟨l2,W,w2⟩:=t b ((A b).1 hb) w Q;exact⟨i,oq,λj B=>by rw[z2 j B,w2 j B],by rw[Y,W];omega⟩
  ·unfold cZ kI
   rw[List.length_flatMap];have:(wC (jP O x i)).map (λa=>(cZ O R d (i+1) (iY O R x i a)).length)=(wC (jP O x i)).map λ_=>kI O d (i+1):=List.map_congr_left λa F=>(v a ((A a).1 F)).2.2
   rw[this];have hl:(wC (jP O x i)).length=(O.getD i []).length:=by rw[(nK _).length_eq];simp [jP]
   rw[←hl];generalize wC (jP O x i)=l
   induction l with
   |nil=>simp
   |cons a l v=>simp only[List.map_cons,List.sum_cons,v,List.length_cons,Nat.succ_mul];omega
theorem dM (a:iX n G)(c:bC n G O R):dW G (cZ O R n 0 (bL n))/\(cZ O R n 0 (bL n)).length=kI O n 0:=by
 obtain⟨d,h,f⟩:=Sf a c n 0 (bL n) oq (bE.one n);refine⟨⟨h,λx=>?_⟩,f⟩;rw[d];constructor
 ·rintro⟨g,hg,_,rfl⟩;rw[bZ (a.cU hg)];exact hg
 ·exact λb=>⟨x,b,λk j=>oq,(bZ (a.cU b)).symm⟩
end
end
end Go.Pm
namespace Go.Proofs.YtcdbmkidaecdiaaGreat
open Go Go.Ay Go.Pm
set_option maxRecDepth 100000
section
variable {O:LN} {W:Nat->Prop}
theorem TH {O:LN}{m:Nat}(a:1<=m): ∀d i,(∀j,i<=j->j<i+d->(O.getD j []).length<=m)->kI O d i<=m^d
 |0,_,_=>fM _
 |d+1,i,h=>by
  unfold kI;rw[Nat.pow_succ,Nat.mul_comm (m^d)];exact Nat.mul_le_mul (h i (fM _) om) (TH a d (i+1) λj c b=>h j om om)
theorem Ln {O:LN}: ∀d i,(∀j,i<=j->j<i+d->0<(O.getD j []).length)->0<kI O d i
 |0,_,_=>Nat.one_pos
 |d+1,i,h=>Nat.mul_pos (h i (fM _) om) (Ln d (i+1) λj b a=>h j om om)
theorem GC.row {h:H}{c:V}{n:Nat}{R:jI}{G:List Nat->Prop}(g:GC W h c n O R G){j:Nat}(a:j<n):0<(O.getD j []).length/\(O.getD j []).length<=n:=by
 refine⟨?_,mT (uQ (λx b=>g.dN.cU b) a (g.isc.asc j a) (g.isc.mem j a)) om⟩;exact HJ ((g.isc.mem j a j).2 ⟨bL n,g.dN.one,Fix.one n j om,fQ a⟩)
theorem UI (vc:V)(n:Nat)(O:LN)(R:jI)(G:List Nat->Prop)(h:H)(o:GC W h vc n O R G):
  Ev T 157 [vc] h (λv h'=> ∃S,v= .tup [.sl S 0 (n+1) (.kn (n+1)),.bool true]/\h'.cell S 0=some (aC (kI O n 0:Nat))/\Fr h h'):=by
 obtain⟨x,r,e,sO,sR⟩:=o.ch
 subst e
 refine cV Gh rfl ?_
 have f:=o.isc
 have n0:=o.n0
 have n7:=o.n7
 obtain⟨wO,tO,aO⟩:=sO
 have lO:=aO.length
 rw[jV,f.lo] at lO
 have J:=tO.cK.2.1
 have z:r.one=true:=oNt sR
 obtain⟨B,hB⟩:=exI h.next
 obtain⟨h1,e1,n1,g1,o1,f1⟩:=dF hB [aC n,x,r]
 have bx:=bM h (v:= aC n) (u:=x) (w:=r) rfl J z
 have en:(n:Int)+1=((n+1:Nat):Int):=om
 have U:=sT h1 (n+1) om
 rw[n1] at U
 obtain⟨P,A,n2,g2,o2,f2⟩:=dF n1 (rc (n+1) λ_=> aC 0)
 rw[A] at U
 have l:P.get B=some (.cells false [aC n,x,r]):=by rw[o2 _ om];exact g1
 have pt: ∀(b:H) (S:Nat) (F:Nat->V) (k:Nat) (v:V),k<n+1->dX (some (.cells false (rc (n+1) F))) b S k [v]=some (b.set S (some (.cells false (rc (n+1) λj=>if j=k then v else F j)))):=λb S F k v Y=>by rw[bN (by rw[kH];exact Y),mS]
 obtain⟨h3,e3,n3,g3,o3⟩:=pJ P (B+1) (rc (n+1) λj=>if j=n then aC 1 else aC 0)
 have p:h3.get B=some (.cells false [aC n,x,r]):=by rw[o3 _ om];exact l
 have a2:n<n+1:=om
 simp(disch:=omega)only[go_sem,Gh,aD,bx,hB,e1,H.aF g1,en,U,H.aF l,g2,pt _ _ _ n _ a2,e3,H.aF p]
 have F3:Fr h h3:=⟨om,λk Y=>by rw[o3 _ om,o2 _ om,o1 _ om]⟩
 have a0: ∀i,i<=n->0<kI O (n-i) i/\kI O (n-i) i<=823543:=λi hi=>by
  refine⟨Ln _ _ λj h1 P=>(o.row om).1,mT (TH (m:=7) om _ _ λj h1 P=>by have:=(o.row (j:=j) om).2;omega) ?_⟩;exact mT (Nat.pow_le_pow_right om (show n-i<=7 by omega)) (by decide)
 refine aH (λq c b=> ∃(i:Nat),(∃g:Nat->V,c= [g 0,.ptr B 0,g 2,g 3,.sl (B+1) 0 (n+1) (.kn (n+1)),aC ((i:Int)- 1),g 6,g 7,g 8])/\i<=n/\b.get B=some (.cells false [aC n,x,r])/\
   b.get (B+1)=some (.cells false (rc (n+1) λj=>if i<=j then aC (kI O (n-j) j:Nat) else aC 0))/\B+1<b.next/\Fr h b/\q=i) n
  ⟨n,aB rfl,fM _,p,?_,om,F3,rfl⟩ ?_
 ·rw[g3]
  congr 2
  refine dB λj hj=>?_
  by_cases e:j=n
  ·subst e;rw[bF rfl,bF (fM _),Nat.sub_self];rfl
  ·rw[bI e,bI om]
 clear g3 p o3 n3 e3 h3 F3 l g2 o2 n2 A U P f2
 rintro q c h4 ⟨i,⟨g,rfl⟩,hi,gB,gS,nx,F,Y⟩
 subst Y
 by_cases L:(0:Int)<=(q:Int)- 1
 case neg=>
  have Z:=bH L;obtain rfl:q=0:=om
  simp(disch:=omega)only[go_sem,Z];refine⟨B+1,rfl,?_,F⟩;rw[Bw gS om]
  rfl
 have Z:=bP L
 obtain⟨i,rfl⟩: ∃i,q=i+1:=⟨q- 1,om⟩
 have ei:((i+1:Nat):Int)- 1=(i:Int):=om
 have eI:(i:Int)+1=((i+1:Nat):Int):=om
 rw[ei] at Z ⊢
 have a:=iG aO (i:=i) (by rw[jV,f.lo];omega) .undef []
 rw[nP zi (d:= []) (by rw[f.lo];omega)] at a
 obtain⟨a6,y,a1,a7,a3⟩:=(tO.mono F).shape n om om
 have co:h4.cell a6 (y+i)=some (wO.getD i .undef):=by rw[a3 i om,List.getD,dD om];rfl
 generalize wO.getD i .undef=vo at a co
 have lo:=a.lens
 rw[aQ] at lo
 obtain⟨m,hm⟩:=exI ((O.getD i []).length)
 rw[hm] at lo
 have Q:=o.row (j:=i) om
 rw[hm] at Q
 have cS:h4.cell (B+1) (i+1)=some (aC ((kI O (n-(i+1)) (i+1):Nat):Int)):=by rw[Bw gS om,bF (fM _)]
 obtain⟨s,hs⟩:=exI (kI O (n-(i+1)) (i+1))
 rw[hs] at cS
 have N:=a0 (i+1) om
 rw[hs] at N
 have t:(1000000000000000000:Int).tdiv (m:Int)=((1000000000000000000/m:Nat):Int):=by
  rw[show (1000000000000000000:Int)=((1000000000000000000:Nat):Int) from rfl,Int.tdiv_eq_ediv_of_nonneg om];rfl
 have hq:100000000000000000<=1000000000000000000/m:=by
  rw[Nat.le_div_iff_mul_le om];omega
 have a9:1000000000000000000/m<=1000000000000000000:=Nat.div_le_self _ _
 have d2:decide (((1000000000000000000/m:Nat):Int)<(s:Int))=false:=bH om
 have K:(m:Int)*(s:Int)=((m*s:Nat):Int):=rfl
 have a8:m*s<=7*823543:=Nat.mul_le_mul om N.2
 have a5:i<n+1:=om
 have a4:(m:Int)≠0:=om
 simp(disch:=omega)only[go_sem,Z,H.aF gB,a1.ixa,co,lo,eI,cS,t,a4,d2,K,gS,pt _ _ _ i _ a5]
 refine⟨i,om,i,aB rfl,om,gB,?_,om,?_,rfl⟩
 ·congr 2
  refine dB λj hj=>?_
  by_cases e:j=i
  ·subst e
   rw[bF rfl,bF (fM _),show n-j=(n-(j+1))+1 by omega]
   unfold kI
   rw[hm,hs]
  ·rw[bI e]
   by_cases A:i+1<=j
   ·rw[bF A,bF om]
   ·rw[bI A,bI om]
 ·exact (F.bA om).set om _
theorem XX (m:V)(n:Nat)(O:LN)(R:jI)(G:List Nat->Prop)(h:H)(d:GC W h m n O R G):
  Ev T 119 [m] h (λv h'=>v= .tup [aC (kI O n 0:Nat),aC 0]/\Fr h h'):=by
 obtain⟨c,f,e,z,s⟩:=d.ch
 subst e
 refine cV aiY rfl ?_
 have b:c.one=true:=oNs z
 have a:f.one=true:=oNt s
 obtain⟨B,l⟩:=exI h.next
 obtain⟨F,x,L,o,K,k⟩:=dF l [aC n,c,f]
 have A:=bM h (v:= aC n) (u:=c) (w:=f) rfl b a
 have q:=aI o
 simp(disch:=omega)only[go_sem,aiY,aD,A,l,x,q]
 refine ((d.mono k).check).mono ?_
 rintro _ p ⟨rfl,j⟩
 have i:=aI (h:=p) (id:=B) (by rw[j.get _ om];exact o)
 simp(disch:=omega)only[go_sem]
 refine aW (λt=>(t rfl).elim) (λ_=>?_)
 simp(disch:=omega)only[go_sem,i]
 refine (UI _ n O R G p ((d.mono k).mono j)).mono ?_
 rintro _ J ⟨S,rfl,r,y⟩
 simp(disch:=omega)only[go_sem,r]
 exact (k.trans j).trans y
end
theorem afB {h:H}{S k c:Nat}{vs:List V}{y w:V}(b:h.get S=some (.cells false vs))(m:vs.length=c)(l:k<c)(j:c<1000000)(a:SV h y 1 [w]):
  xQ h 1 8 (.sl S 0 k (.kn c)) y=some (.sl S 0 (k+1) (.kn c),h.set S (some (.cells false (vs.set k w)))):=by
 have i:xQ h 1 8 (.sl S 0 k (.kn c)) y=Ay.yB h 1 8 (.sl S 0 k (.kn c)) 1 [w]:=by
  simp only[xQ,a.len (n:=1) rfl om,a.slice]
 rw[i]
 have d:h.slice 1 (.sl S 0 k (.kn c))=some (vs.take k):=by
  simp only[H.slice,H.row,b,sub];rw[bF om];simp
 have f:h.put S (0+k*1) [w]=some (h.set S (some (.cells false (vs.set k w)))):=by
  rw[H.put_eq,b,Nat.zero_add,uW,bN om]
 unfold Ay.yB
 simp only[d,sW]
 rw[bI om,bF om,bF om,f]
theorem DF {l:List Int}{a:List Nat}(c:l.Perm (zi a))(b:l.Pairwise (· <= ·)):l=zi (wC a):=by
 refine AN ?_ b ?_
 ·exact c.trans ((nK a).map _).symm
 ·unfold zi
  rw[List.pairwise_map];exact (Ry a).imp λh=>om
theorem Gx (O:LN)(x:List Nat)(i:Nat):(jP O x i).length=(O.getD i []).length:=by simp [jP]
theorem abR {O:LN}{x:List Nat}{i k:Nat}(a:k<(O.getD i []).length):(jP O x i).getD k 0=x.getD ((O.getD i []).getD k 0) 0:=by
 unfold jP;rw[nP (λq=>x.getD q 0) (d:=0) a]
theorem DG {W:Nat->Prop}(vc vx:V)(n i:Nat)(O:LN)(R:jI)(G:List Nat->Prop)(x:List Nat)(h:H)(J:GC W h vc n O R G)(hi:i<n)(hx:SI h vx (zi x))(X:bE n x):
  Ev T 180 [vc,vx,aC i] h (λv h'=>zD h h' v (zi (wC (jP O x i)))):=by
 obtain⟨vO,vR,e,sO,sR⟩:=J.ch
 subst e
 refine cV Bp rfl ?_
 have b:=J.isc
 have n7:=J.n7
 obtain⟨wO,tO,aO⟩:=sO
 have lO:=aO.length
 rw[jV,b.lo] at lO
 have L:=tO.cK.2.1
 have K:vR.one=true:=oNt sR
 obtain⟨B,hB⟩:=exI h.next
 obtain⟨h1,e1,n1,g1,o1,f1⟩:=dF hB [aC n,vO,vR]
 have bx:=bM h (v:= aC n) (u:=vO) (w:=vR) rfl L K
 have a:=iG aO (i:=i) (by rw[jV,b.lo];omega) .undef []
 rw[nP zi (d:= []) (by rw[b.lo];omega)] at a
 obtain⟨a2,c,a6,U,a7⟩:=(tO.mono f1).shape n om om
 have co:h1.cell a2 (c+i)=some (wO.getD i .undef):=by rw[a7 i om,List.getD,dD om];rfl
 generalize wO.getD i .undef=vo at a co
 have lo:=a.lens
 rw[aQ] at lo
 obtain⟨m,s⟩:=exI ((O.getD i []).length)
 rw[s] at lo
 have a3:=J.row (j:=i) hi
 rw[s] at a3
 have mk:Jo h1 1 8 [aC 0] (aC 0) (aC m)=some (.sl (B+1) 0 0 (.kn m),h1.new (.cells false (rc m λ_=> aC 0))):=by
  rw[tU om om om om,NK,uW,Jf,show ints (List.replicate m 0)=rc m λ_=> aC 0 from (Kq (by simp [aP]) λi hi=>by simp [ints,hi]).symm,n1]
  rfl
 obtain⟨h2,e2,n2,g2,o2,f2⟩:=dF n1 (rc m λ_=> aC 0)
 rw[e2] at mk
 have a4:h2.get B=some (.cells false [aC n,vO,vR]):=by rw[o2 _ om];exact g1
 have a8:h2.cell a2 (c+i)=some vo:=by rw[f2.cell (by have:=U om;omega)];exact co
 simp(disch:=omega)only[go_sem,Bp,aD,bx,hB,e1,H.aF g1,a6.ixa,co,lo,mk,H.aF a4,a8]
 obtain⟨b1,y,N,f,t⟩:=a.open
 rw[aQ,s] at N f t
 obtain⟨idx,Q,Z,o,A⟩:=hx.open
 rw[aQ,X.len] at Z o A
 refine aH (λk' l hh=> ∃(k:Nat),(∃g:Nat->V,l= [g 0,vx,g 2,g 3,g 4,.sl (B+1) 0 k (.kn m),g 6,vo,aC m,aC k,g 10])/\k<=m/\hh.get (B+1)=some (.cells false (rc m λj=>if j<k then aC ((jP O x i).getD j 0:Nat) else aC 0))/\B+1<hh.next/\Fr h hh/\k'=m-k) m
  ⟨0,aB rfl,iJ _,by rw[g2];rfl,om,f1.trans f2,rfl⟩ ?_
 rintro k' l p ⟨k,⟨g,rfl⟩,hk,gS,nx,F,rfl⟩
 by_cases P:(k:Int)<(m:Int)
 ·have d1:=bP P
  have a0:k<m:=om
  have cq:p.cell b1 (y+k)=some (aC ((O.getD i []).getD k 0:Nat)):=by rw[F.cell (f om),t k a0];congr 2;rw[zi,nP _ (d:=0) om]
  have hq:=Im J.dN b hi (q:=(O.getD i []).getD k 0) (bD om)
  have Y:=abR (O:=O) (x:=x) (i:=i) (k:=k) om
  generalize (O.getD i []).getD k 0=q at cq hq Y
  have cx:p.cell idx (Q+q)=some (aC (x.getD q 0:Nat)):=by rw[F.cell (o om),A q hq];congr 2;simp [zi,X.len,hq]
  obtain⟨h5,e5,n5,g5,o5,r⟩:=dF (h:=p) rfl [aC (x.getD q 0:Nat)]
  have b2:h5.get (B+1)=some (.cells false (rc m λj=>if j<k then aC ((jP O x i).getD j 0:Nat) else aC 0)):=by rw[r.get _ nx];exact gS
  have ap:=afB b2 (kH _ _) a0 om (SV.one (v:= aC (x.getD q 0:Nat)) (id:=p.next) om g5 (.kn 1))
  rw[mS] at ap
  simp(disch:=omega)only[go_sem,d1,N.ixa,cq,Z.ixa,cx,cT p (z:= aC 0) (v:= aC (x.getD q 0:Nat)) rfl rfl,e5,ap]
  rw[eJ k]
  refine⟨m-(k+1),om,k+1,aB rfl,om,?_,om,(F.trans r).set om _,rfl⟩
  congr 2
  refine dB λj hj=>?_
  by_cases e:j=k
  ·subst e;rw[bF rfl,bF om,Y]
  ·rw[bI e]
   by_cases e2:j<k
   ·rw[bF e2,bF om]
   ·rw[bI e2,bI om]
 have d1:=bH P
 obtain rfl:k=m:=om
 have b0:(zi (jP O x i)).length=k:=by rw[aQ,Gx,s]
 have a9:p.get (B+1)=some (.cells false (ints (zi (jP O x i)))):=by
  rw[gS,←Zu,Gx,s];congr 2;exact dB λj hj=>by rw[bF hj]
 have so:=Lm p (B+1) (zi (jP O x i)) (.kn k) om a9 nx
 rw[b0] at so
 simp(disch:=omega)only[go_sem,d1]
 refine so.mono ?_
 rintro _ h5 ⟨l',g5,p5,a5,r⟩
 have el:=DF p5 a5
 subst el
 have ls:(zi (wC (jP O x i))).length=k:=by rw[aQ,(nK _).length_eq,Gx,s]
 simp(disch:=omega)only[go_sem]
 refine⟨⟨B+1,_,by rw[ls],om,iW nx r.next,g5,.inr (by rw[ls])⟩,⟨mT F.next r.next,λid a1=>?_⟩⟩
 rw[r.get id (iW a1 F.next) (λe=>by have:id=B+1:=e;omega)]
 exact F.get id a1
theorem VL: ∀{l:List Nat} {k im:Nat},l[k]? =some im->l.idxOf im<=k
 | [],k,im,h=>by simp at h
 |a::l,0,im,h=>by
  have:a=im:=by simpa using h
  subst this;simp [List.idxOf_cons]
 |a::l,k+1,im,h=>by
  rw[List.idxOf_cons]
  by_cases e:a=im
  ·subst e;simp
  ·have b:(a==im)=false:=by simpa using e
   rw[b];have:=VL (l:=l) (k:=k) (im:=im) (by simpa using h);simp only[cond_false];omega
theorem agD (L J:V)(a b:Nat)(o x:List Nat)(im:Nat)(h:H)(hn:o.length<1000000)(O:SI h L (zi o))(Z:SI h J (zi x))(W:h.get a=some (.cells false [J]))(hb:h.get b=some (.cells false [aC im]))(K:a<h.next)(B:b<h.next)(hr: ∀q∈o,q<x.length)(r:im∈o.map λq=>x.getD q 0):
  Ev T 222 [L,.fn 223 [] [.ptr a 0,.ptr b 0]] h (λv h'=>v= aC ((o.map λq=>x.getD q 0).idxOf im:Nat)/\Fr h h'):=by
 refine cV lJ rfl ?_
 have U:=O.lens
 rw[aQ] at U
 obtain⟨N,s,y,l,n⟩:=O.open
 rw[aQ] at y l n
 obtain⟨idx,p,w,j,t⟩:=Z.open
 rw[aQ] at w j t
 have z:=iLL.2 r
 rw[jV] at z
 simp(disch:=omega)only[go_sem,lJ,aD,U]
 refine aH (λP i f=> ∃(k:Nat),(∃g:Nat->V,i= [L,.fn 223 [] [.ptr a 0,.ptr b 0],g 2,g 3,aC (o.length:Int),aC k,g 6,g 7])/\k<=(o.map λq=>x.getD q 0).idxOf im/\Fr h f/\P=o.length-k) o.length
  ⟨0,aB rfl,iJ _,Fr.refl h,rfl⟩ ?_
 rintro P i f ⟨k,⟨g,rfl⟩,hk,F,rfl⟩
 have c:k<o.length:=om
 have d1:decide ((k:Int)<(o.length:Int))=true:=bP om
 have R:f.cell N (s+k)=some (aC (o.getD k 0:Nat)):=by rw[F.cell (l om),n k c];congr 2;rw[zi,nP _ (d:=0) c]
 have G:=hr _ (bD (d:=0) c)
 have m:(o.map λq=>x.getD q 0)[k]'(by simpa using c)=x.getD (o.getD k 0) 0:=by simp [List.getD,c]
 generalize o.getD k 0=q at R G m
 have cx:f.cell idx (p+q)=some (aC (x.getD q 0:Nat)):=by rw[F.cell (j om),t q G];congr 2;simp [zi,G]
 have ca:f.cell a 0=some J:=by rw[H.aF (by rw[F.get _ K];exact W)];rfl
 have Y:f.cell b 0=some (aC im):=by rw[H.aF (by rw[F.get _ B];exact hb)];rfl
 have cl:Ev T 223 [aC q,.ptr a 0,.ptr b 0] f (λv h'=>v= .bool (decide (((x.getD q 0:Nat):Int)=(im:Int)))/\Fr f h'):=by
  refine cV De rfl ?_;simp(disch:=omega)only[go_sem,De,aD,ca,w.ixa,cx,Y];exact (Fr.refl f).bA om
 simp(disch:=omega)only[go_sem,d1,y.ixa,R]
 refine cl.mono ?_
 rintro _ h2 ⟨rfl,Q⟩
 by_cases u:((x.getD q 0:Nat):Int)=(im:Int)
 ·rw[bP u]
  simp(disch:=omega)only[go_sem]
  have:(o.map λq=>x.getD q 0).idxOf im=k:=by
   have A:(o.map λq=>x.getD q 0).idxOf im<=k:=VL (by
    rw[dD (by simpa using c),m]
    congr 1;omega)
   omega
  rw[this]
  exact⟨rfl,F.trans Q⟩
 ·rw[bH u]
  simp(disch:=omega)only[go_sem]
  rw[eJ k]
  refine⟨o.length-(k+1),om,k+1,aB rfl,?_,F.trans Q,rfl⟩
  have:(o.map λq=>x.getD q 0).idxOf im≠k:=λe=>by
   have A:=List.getElem_idxOf (iLL.2 r);simp only[e] at A;rw[m] at A;omega
  omega
theorem aaJ {W:Nat->Prop}(vc l:V)(n i im:Nat)(O:LN)(R:jI)(G:List Nat->Prop)(x:List Nat)(h:H)(m:GC W h vc n O R G)(hi:i<n)(N:SI h l (zi x))(X:bE n x)(A:im∈jP O x i):
  Ev T 181 [vc,l,aC i,aC im] h (λv h'=>zD h h' v (zi (iY O R x i im))):=by
 obtain⟨K,P,e,sO,sR⟩:=m.ch
 subst e
 refine cV ajT rfl ?_
 have a:=m.isc
 have n7:=m.n7
 obtain⟨wO,tO,aO⟩:=sO
 obtain⟨wR,tR,aR,kR⟩:=sR
 have lO:=aO.length
 have lR:=aR.length
 rw[jV,a.lo] at lO
 rw[jV,a.lr] at lR
 have s:=tO.cK.2.1
 have r:=tR.cK.2.1
 obtain⟨B,hB⟩:=exI h.next
 obtain⟨h1,e1,n1,g1,o1,f1⟩:=dF hB [aC n,K,P]
 obtain⟨h2,e2,n2,g2,o2,f2⟩:=dF n1 [l]
 obtain⟨L,e3,n3,g3,o3,f3⟩:=dF n2 [aC im]
 have Q:=(f1.trans f2).trans f3
 have bx:=bM h (v:= aC n) (u:=K) (w:=P) rfl s r
 have a9:=mF N.cK.1 N.cK.2.1 h1
 have b0:=Oh h2 .i64 (im:Int)
 have z:L.get B=some (.cells false [aC n,K,P]):=by rw[o3 _ om,o2 _ om];exact g1
 have F:L.get (B+1)=some (.cells false [l]):=by rw[o3 _ om];exact g2
 have b:=iG aO (i:=i) (by rw[jV,a.lo];omega) .undef []
 rw[nP zi (d:= []) (by rw[a.lo];omega)] at b
 obtain⟨b2,o,a5,b6,a8⟩:=(tO.mono Q).shape n om om
 have co:L.cell b2 (o+i)=some (wO.getD i .undef):=by rw[a8 i om,List.getD,dD om];rfl
 generalize wO.getD i .undef=vo at b co
 simp(disch:=omega)only[go_sem,ajT,aD,bx,hB,e1,a9,n1,e2,b0,n2,e3,H.aF z,a5.ixa,co]
 have row:=m.row (j:=i) hi
 refine (agD vo l (B+1) (B+1+1) (O.getD i []) x im L om (b.mono Q) (N.mono Q) F g3 om om (λq hq=>by rw[X.len];exact Im m.dN a hi hq) A).mono ?_
 rintro _ f ⟨rfl,f4⟩
 obtain⟨k,hk,ek,_,a0,es,Y,_⟩:=wH m.dN a X hi A
 have b3:(List.map (λq=>x.getD q 0) (O.getD i [])).idxOf im=k:=ek
 rw[b3,es]
 have y:=Q.trans f4
 have a4:f.get B=some (.cells false [aC n,K,P]):=by rw[f4.get _ om];exact z
 have a3:f.get (B+1)=some (.cells false [l]):=by rw[f4.get _ om];exact F
 have c:=iG aR (i:=i) (by rw[jV,a.lr];omega) .undef []
 rw[nP (List.map zi) (d:= []) (by rw[a.lr];omega)] at c
 obtain⟨b1,t,a2,b4,a1⟩:=(tR.mono y).shape n om om
 have cr:f.cell b1 (t+i)=some (wR.getD i .undef):=by rw[a1 i om,List.getD,dD om];rfl
 generalize wR.getD i .undef=vr at c cr
 obtain⟨wr,tr,ar⟩:=c
 have lr:=ar.length
 rw[jV] at lr
 have p:k<(R.getD i []).length:=by rw[a.rl i hi];exact hk
 have sz:=iG ar (i:=k) (by rw[jV];exact p) .undef []
 rw[nP zi (d:= []) p] at sz
 obtain⟨a6,J,a7,b5,U⟩:=(tr.mono y).shape (R.getD i []).length om om
 have cz:f.cell a6 (J+k)=some (wr.getD k .undef):=by rw[U k om,List.getD,dD om];rfl
 generalize wr.getD k .undef=vz at sz cz
 have b7:(k:Int)<((R.getD i []).length:Int):=om
 have Z:=m.dN.cU a0.mem
 have fb:Fr f (H.mk f.tr (f.next+11)):=(Fr.refl f).bA om
 simp(disch:=omega)only[go_sem,H.aF a4,a2.ixa,cr,a7.ixa,cz,H.aF a3]
 refine (mY CN.ok vz l _ x (H.mk f.tr (f.next+11)) (by rw[Z.len];omega) (sz.mono (y.trans fb)) (N.mono (y.trans fb)) (λj hj=>by rw[X.len];exact Z.iN (by rw[←Z.len];exact hj))).mono ?_
 rintro v h5 nw
 simp(disch:=omega)only[go_sem]
 exact (Td nw).le (y.trans fb)
def Kept (b:Nat)(W:Nat->Prop)(hh h':H):Prop:=hh.next<=h'.next/\ ∀id,id<hh.next->(id<b∨W id)->h'.get id=hh.get id
theorem Kept.fr {b:Nat}{W:Nat->Prop}{a h':H}(f:Fr a h'):Kept b W a h':=⟨f.next,λid h _=>f.get id h⟩
structure Rdr (id b:Nat)(L:LN)(W0:Nat->Prop)(J:Nat->(Nat->Prop)->H->Prop)(D:(Nat->Prop)->H->Prop):Prop where
 kJ: ∀k W hh h',J k W hh->Kept b W hh h'->J k W h'
 kD: ∀W hh h',D W hh->Kept b W hh h'->D W h'
 y: ∀k W hh v,k<L.length->J k W hh->PV W hh v (L.getD k [])->(∀id,W id->id<hh.next)->b<=hh.next->(∀id,id<b->W id->W0 id)->
  Ey T id [v] hh (λv h'=> ∃W2,(∀id,id<hh.next->W2 id->W id)/\(∀id,W2 id->id<h'.next)/\Fx W hh h'/\(v= .bool true/\J (k+1) W2 h'∨v= .bool false/\D W2 h'))
def ElC (n:Nat)(vO vR:V)(O:LN)(R:jI)(G:List Nat->Prop)(d:Nat):Prop:=
 ∀(i:Nat) (x:List Nat) (vx:V) (id bi bc bx:Nat) (h:H) (W:Nat->Prop) (J:Nat->(Nat->Prop)->H->Prop) (D:(Nat->Prop)->H->Prop),i+d=n->bE n x->
  h.get bi=aZ [aC i]->h.get bc=aZ [aC n,vO,vR]->h.get bx=aZ [vx]->PV W h vx x->bi<h.next->bc<h.next->bx<h.next-> ¬W bi-> ¬W bc-> ¬W bx->
  GC W h (.agg [aC n,vO,vR]) n O R G->(∀id,W id->id<h.next)->J 0 W h->Rdr id h.next (cZ O R d i x) W J D->
  Ev T 179 [.yl id,.ptr bi 0,.ptr bc 0,.ptr bx 0] h (λ_ h'=> ∃W2,(∀id,id<h.next->W2 id->W id)/\(∀id,W2 id->id<h'.next)/\Fx W h h'/\(J (cZ O R d i x).length W2 h'∨D W2 h'))
theorem aaN (n:Nat)(p Q:V)(O:LN)(R:jI)(G:List Nat->Prop):ElC n p Q O R G 0:=by
 intro i x s id u K Z h W J D hi X t P q N li lc lx wi wc wx g U A rd;refine cV lF rfl ?_;obtain rfl:i=n:=om
 obtain⟨B,j⟩:=exI h.next;obtain⟨a,F,n1,o,c,f⟩:=dF j [.yl id];have d:=mF (x:= .yl id) rfl rfl h;have ci:=H.aF (h:=a) (id:=u) (by rw[c _ om];exact t);have m:=H.aF (h:=a) (id:=K) (by rw[c _ om];exact P);have L:=H.aF (h:=a) (id:=Z) (by rw[c _ om];exact q);have d1:decide ((i:Int)=(i:Int))=true:=bP rfl;simp(disch:=omega)only[go_sem,lF,aD,d,j,F,ci,m];refine aW (λ_=>?_) (λz=>(z (by first|rfl|trivial)).elim);simp(disch:=omega)only[go_sem,H.aF o,L];refine (rd.y 0 W a s (by simp [cZ]) (rd.kJ 0 W h a A (Kept.fr f)) (N.mono f) (λid h=>by have:=U id h;omega) om (λid _ h=>h)).mono ?_;rintro v k ⟨w,l,Y,r,b⟩;simp(disch:=omega)only[go_sem];refine⟨w,λid a k=>l id om k,Y,(Fx.of f).trans r (λ_ _ h=>h),?_⟩;rcases b with ⟨_,b⟩|⟨_,b⟩
 ·exact .inl b
 ·exact .inr b
theorem OS (d:Int)(b c a:V)(i:Int)(K:b.one=true)(N:c.one=true)(f:a.cells= [a])(l:a.one=true)(h:H):Ev T 136 [.agg [aC d,b,c],a,aC i] h (λv h'=>v= .fn 179 [] [.ptr (h.next+1+1) 0,.ptr h.next 0,.ptr (h.next+1) 0]/\
  h'.get h.next=aZ [aC d,b,c]/\h'.get (h.next+1)=aZ [a]/\h'.get (h.next+1+1)=aZ [aC i]/\h'.next=h.next+3/\Fr h h'):=by
 refine cV yQ rfl ?_
 obtain⟨B,m⟩:=exI h.next
 obtain⟨q,x,o,t,R,P⟩:=dF m [aC d,b,c]
 obtain⟨A,F,p,y,s,L⟩:=dF o [a]
 obtain⟨Q,z,J,r,n,G⟩:=dF p [aC i]
 have O:=bM h (v:= aC d) (u:=b) (w:=c) rfl K N
 have j:=mF f l q
 have k:=Oh A .i64 i
 simp(disch:=omega)only[go_sem,yQ,aD,O,m,x,j,o,F,k,p,z]
 exact⟨by rw[n _ om,s _ om];exact t,by rw[n _ om];exact y,r,J,(P.trans L).trans G⟩
theorem UY {α β:Type}{l:List α}{f:α->List β}{m:Nat}(a:m<l.length)(d:α):((l.take (m+1)).flatMap f).length=((l.take m).flatMap f).length+(f (l.getD m d)).length:=by
 rw[cE d a,List.flatMap_append];simp
theorem FN {α β:Type}{f:α->List β}{e:β}(d:α): ∀{l:List α} {m k:Nat},m<l.length->k<(f (l.getD m d)).length->(l.flatMap f).getD (((l.take m).flatMap f).length+k) e=(f (l.getD m d)).getD k e/\((l.take m).flatMap f).length+k<(l.flatMap f).length
 | [],m,k,h,_=>by simp at h
 |a::l,0,k,_,b=>by
  have b:k<(f a).length:=b;constructor
  ·simp only[List.take_zero,List.flatMap_nil,List.length_nil,Nat.zero_add,List.flatMap_cons]
   rw[List.getD,List.getD,Dv b];rfl
  ·simp;omega
 |a::l,m+1,k,h,b=>by
  have j:m<l.length:=by simpa using h
  have c:k<(f (l.getD m d)).length:=by simpa using b
  obtain⟨i,n⟩:=FN (e:=e) d (l:=l) j c;constructor
  ·simp only[List.take_succ_cons,List.flatMap_cons,jZ]
   rw[Nat.add_assoc,List.getD,gAR om,Nat.add_sub_cancel_left];exact i
  ·simp only[List.take_succ_cons,List.flatMap_cons,jZ];omega
structure InJ (off id2 b4 id:Nat)(r:eH)(J:Nat->(Nat->Prop)->H->Prop)(W0:Nat->Prop)(k:Nat)(W:Nat->Prop)(hh:H):Prop where
 ex: ∃W3,(∀id,W id↔(W3 id∨id=id2))/\ ¬W3 id2/\ ¬W3 b4/\J (off+k) W3 hh/\(∀id,W3 id->id<hh.next)/\ ∀id,id<id2->W3 id->W0 id
 gr:hh.get id2=some (.loop r)
 g4:hh.get b4=aZ [.yl id]
 nx:id2<hh.next
structure InD (id2 b4:Nat)(r:eH)(D:(Nat->Prop)->H->Prop)(W0:Nat->Prop)(W:Nat->Prop)(hh:H):Prop where
 ex: ∃W3,(∀id,W id↔(W3 id∨id=id2))/\ ¬W3 id2/\D W3 hh/\(∀id,W3 id->id<hh.next)/\ ∀id,id<id2->W3 id->W0 id
 gr:hh.get id2=some (.loop (tX r .ret))
 nx:id2<hh.next
theorem acJ (n:Nat)(K F:V)(O:LN)(R:jI)(G:List Nat->Prop)(d:Nat)(ih:ElC n K F O R G d):ElC n K F O R G (d+1):=by
 intro i x vx id bi bc bx h W J D hi X gi gc gx px li lc lx wi wc wx gC hW hJ rd;refine cV lF rfl ?_;have a6:i<n:=om
 have n7:=gC.n7
 obtain⟨c5,c2⟩:K.one=true/\F.one=true:=by
  obtain⟨a,b,e,s1,s2⟩:=gC.ch;cases e;obtain⟨_,t1,_⟩:=s1;obtain⟨_,t2,_⟩:=s2;exact⟨t1.cK.2.1,t2.cK.2.1⟩
 obtain⟨B,hB⟩:=exI h.next;obtain⟨p,e1,n1,g1,o1,f1⟩:=dF hB [.yl id];have e5:=mF (x:= .yl id) rfl rfl h;have c6:p.get bi=aZ [aC i]:=by rw[o1 _ om];exact gi
 have c0:p.get bc=aZ [aC n,K,F]:=by rw[o1 _ om];exact gc
 have c9:p.get bx=aZ [vx]:=by rw[o1 _ om];exact gx
 have d1:decide ((i:Int)=(n:Int))=false:=bH om;have g3:=aI c0;simp(disch:=omega)only[go_sem,lF,aD,e5,hB,e1,H.aF c6,H.aF c0,d1,g3,H.aF c9];refine (DG (.agg [aC n,K,F]) vx n i O R G x p (gC.mono f1) a6 (px.mono f1).si X).mono ?_;rintro v8 c b5;obtain⟨u,a4⟩:=exI (wC (jP O x i));rw[a4] at b5;have f2:=b5.fr;have F2:=f1.trans f2
 have i2:u.length<=7:=by
  have:=(gC.row (j:=i) a6).2;rw[←a4,(nK _).length_eq,Gx];omega
 have d5: ∀q,q∈u->q∈jP O x i:=λq h=>(nK _).mem_iff.1 (by rw[a4];exact h)
 have hL:cZ O R (d+1) i x=u.flatMap λq=>cZ O R d (i+1) (iY O R x i q):=by rw[←a4];rfl
 obtain⟨P,cp,b4,i4,d7,gP,_⟩:=b5.ex;rw[aQ] at b4;have l8:bT v8=some (aC (u.length:Int)):=by rw[b4];rfl
 have g0:J 0 W c:=rd.kJ 0 W h c hJ (Kept.fr F2);have n2:=f2.next;simp(disch:=omega)only[go_sem,l8];refine aH (λk' b1 hh=> ∃(m:Nat) (s:Nat->Prop),(∃g:Nat->V,b1= [.yl id,.ptr bi 0,.ptr bc 0,.ptr bx 0,.ptr B 0,g 5,g 6,g 7,v8,aC (u.length:Int),aC m,g 11,g 12,g 13,g 14])/\m<=u.length/\J ((u.take m).flatMap λq=>cZ O R d (i+1) (iY O R x i q)).length s hh/\Fx W c hh/\(∀id,id<c.next->s id->W id)/\(∀id,s id->id<hh.next)/\k'=u.length-m) u.length
  ⟨0,W,aB rfl,iJ _,g0,Fx.refl _ _,λ_ _ h=>h,λid h=>by have:=hW id h;omega,rfl⟩ ?_
 rintro k' b1 w ⟨m,s,⟨g,rfl⟩,hm,a7,F3,w1,w2,rfl⟩
 by_cases c8:(m:Int)<(u.length:Int)
 case neg=>
  have d2:=bH c8;obtain rfl:m=u.length:=om
  simp(disch:=omega)only[go_sem,d2];rw[List.take_length,←hL] at a7;exact⟨s,λid p c=>w1 id om c,w2,(Fx.of F2).trans F3 (λ_ _ h=>h),.inl a7⟩
 have d2:=bP c8;have a8:m<u.length:=om
 obtain⟨q,Z⟩:=exI (u.getD m 0);have b0:q∈jP O x i:=d5 q (by rw[←Z];exact bD a8);obtain⟨_,_,_,_,_,_,Y,_⟩:=wH gC.dN gC.isc X a6 b0;have n3:=F3.next;have zA: ∀k,k<c.next-> ¬W k->w.get k=c.get k:=λk p c=>F3.get k p c
 have wB: ¬W B:=λh=>by have:=hW B h;omega
 have wP: ¬W P:=λh=>by have:=hW P h;omega
 have c4:w.get bi=aZ [aC i]:=by rw[zA _ om wi,f2.get _ om];exact c6
 have b3:w.get bc=aZ [aC n,K,F]:=by rw[zA _ om wc,f2.get _ om];exact c0
 have d8:w.get bx=aZ [vx]:=by rw[zA _ om wx,f2.get _ om];exact c9
 have f0:w.get B=aZ [.yl id]:=by rw[zA _ om wB,f2.get _ om];exact g1
 have cP:w.cell P m=some (aC q):=by rw[H.aF (by rw[zA _ d7 wP];exact gP),Ip a8,Z]
 have e6:=aI b3
 have eO:dE K K=true:=by
  obtain⟨a,b,e,s1,s2⟩:=gC.ch;cases e;obtain⟨_,t1,_⟩:=s1;exact t1.dE
 have eR:dE F F=true:=by
  obtain⟨a,b,e,s1,s2⟩:=gC.ch;cases e;obtain⟨_,t2,_⟩:=s2;exact t2.dE
 have d9:GC W w (.agg [aC n,K,F]) n O R G:=(gC.mono F2).go F3 (λ_ _ h=>h);have f8:PV W w vx x:=(px.mono F2).fx F3;have fb:Fr w (H.mk w.tr (w.next+9)):=(Fr.refl w).bA om;rw[b4];have e2:(i:Int)+1=((i+1:Nat):Int):=om
 simp(disch:=omega)only[go_sem,d2,cP,e6,aI (h:=H.mk w.tr (w.next+9)) b3,H.aF d8,H.aF c4,e2];refine (aaJ (.agg [aC n,K,F]) vx n i q O R G x (H.mk w.tr (w.next+9)) (d9.mono fb) a6 (f8.mono fb).si X b0).mono ?_;rintro b9 h4 d4;have f4:=fb.trans d4.fr;have n4:=f4.next;have g6:h4.get bi=aZ [aC i]:=by rw[f4.get _ om];exact c4
 have e7:h4.get bc=aZ [aC n,K,F]:=by rw[f4.get _ om];exact b3
 have b6:PV s h4 b9 (iY O R x i q):=d4.pv λid h=>by have:=w2 id h;simp;omega
 simp(disch:=omega)only[go_sem,H.aF g6,aI e7,eO,eR];refine (OS (n:Int) K F b9 ((i+1:Nat):Int) c5 c2 b6.fG.1 b6.fG.2 h4).mono ?_;rintro _ h5 ⟨rfl,f7,e8,g2,n5,f5⟩;simp(disch:=omega)only[go_sem];refine⟨rfl,uJ λr hr=>?_⟩;obtain⟨o,b7⟩:=exI h5.next;rw[b7];have iP:r.st= .ready:=by rw[hr]
 have c3:r.pend=none:=by rw[hr]
 obtain⟨h6,a3⟩: ∃h6,h6=h5.new (.loop r):=⟨_,rfl⟩
 have g8:h6.get o=some (.loop r):=by rw[a3,←b7,H.aL]
 have n6:h6.next=o+1:=by rw[a3,H.aU,b7]
 have f6:Fr h5 h6:=by rw[a3];exact (Fr.refl h5).new _
 rw[←a3];have b8:=(f4.trans f5).trans f6;obtain⟨Q,U⟩:=exI (((u.take m).flatMap λq=>cZ O R d (i+1) (iY O R x i q)).length);rw[U] at a7;have h8:=f5.next;have e4: ¬s o:=λh=>by have:=w2 o h;omega
 have e3: ¬s B:=λh=>wB (w1 B om h)
 have f3: ∀k,k<(cZ O R d (i+1) (iY O R x i q)).length->(cZ O R (d+1) i x).getD (Q+k) []=(cZ O R d (i+1) (iY O R x i q)).getD k []/\Q+k<(cZ O R (d+1) i x).length:=λk hk=>by
  rw[hL,←U];have:=FN (f:=λq=>cZ O R d (i+1) (iY O R x i q)) (e:=([]:List Nat)) 0 (l:=u) (m:=m) (k:=k) a8 (by rw[Z];exact hk);rw[Z] at this;exact this
 have d3:Fx W h h6:=((Fx.of F2).trans F3 (λ_ _ h=>h)).trans (Fx.of b8) (λ_ _ h=>h)
 have g5:Rdr o h6.next (cZ O R d (i+1) (iY O R x i q)) (λk=>s k∨k=o) (InJ Q o B id r J s) (InD o B r D s):=by
  refine⟨λk W2 hh h' j L=>?_,λW2 hh h' j L=>?_,λk W2 hh v hk j pv i1 i0 h0=>?_⟩
  ·obtain⟨W3,t,N,q3,q4,q5,q6⟩:=j.ex
   have nx:=j.nx;exact⟨⟨W3,t,N,q3,rd.kJ _ _ _ _ q4 ⟨L.1,λid p c=>L.2 id p (by rcases c with c|c;exact .inl om;exact .inr ((t id).2 (.inl c)))⟩,λid h=>iW (q5 id h) L.1,q6⟩,by rw[L.2 _ nx (.inl om)];exact j.gr,by rw[L.2 _ om (.inl om)];exact j.g4,iW nx L.1⟩
  ·obtain⟨W3,t,N,q4,q5,q6⟩:=j.ex
   have nx:=j.nx;exact⟨⟨W3,t,N,rd.kD _ _ _ q4 ⟨L.1,λid p c=>L.2 id p (by rcases c with c|c;exact .inl om;exact .inr ((t id).2 (.inl c)))⟩,λid h=>iW (q5 id h) L.1,q6⟩,by rw[L.2 _ nx (.inl om)];exact j.gr,iW nx L.1⟩
  ·obtain⟨W3,t,N,q3,q4,q5,q6⟩:=j.ex
   have nx:=j.nx;obtain⟨e9,d6⟩:=f3 k hk;refine sZ j.gr (by rw[hr];rfl) iP λh9 g9 n9 o9=>?_
   rw[congrArg eH.assign hr,congrArg eH.vars hr,congrArg eH.pars hr];simp(disch:=omega)only[go_sem,List.zip_cons_cons,List.zip_nil_left];rw[congrArg eH.body hr];have d0:h9.get B=aZ [.yl id]:=by rw[o9 _ om];exact j.g4
   have f9:Fx W2 hh h9:=⟨om,λk _ c=>o9 k λe=>c ((t k).2 (.inr e))⟩
   have k9:Kept h.next W3 hh h9:=⟨om,λk p c=>o9 k λe=>by
    subst e;rcases c with c|c
    ·omega
    ·exact N c⟩
   simp(disch:=omega)only[go_sem,H.aF d0];refine (rd.y (Q+k) W3 h9 v d6 (rd.kJ _ _ _ _ q4 k9) (by rw[e9];exact PV.go pv f9 λid _ h=>(t id).2 (.inl h)) (λid h=>by rw[n9];exact q5 id h) om (λid p c=>w1 id om (q6 id om c))).mono ?_;rintro v' z ⟨W4,u1,u2,a5,hv⟩;have i3:=a5.next;have c1: ¬W4 o:=λh=>N (u1 o om h)
   have e0: ¬W4 B:=λh=>q3 (u1 B om h)
   have b2:z.get o=some (.loop (pW r)):=by rw[a5.get o om N];exact g9
   have c7:z.get B=aZ [.yl id]:=by rw[a5.get B om q3];exact d0
   have a9:Fx W2 hh z:=f9.trans a5 λid _ h=>(t id).2 (.inl h)
   have low: ∀k,k<o->W4 k->s k:=λk p c=>q6 k p (u1 k om c)
   have kk: ∀r2:eH,Kept h.next W4 z (z.set o (some (.loop r2))):=λr2=>⟨fM _,λk p c=>H.aG _ (λe=>by
    subst e;rcases c with c|c
    ·omega
    ·exact c1 c) _⟩
   rcases hv with ⟨rfl,hv⟩|⟨rfl,hv⟩
   ·simp(disch:=omega)only[go_sem]
    refine oX iP c3 b2 ⟨λk=>W4 k∨k=o,λk p c=>?_,λk c=>?_,a9.trans (Fx.set z ((t o).2 (.inr rfl)) _) (λ_ _ h=>h),.inl ⟨rfl,⟨W4,λk=>Iff.rfl,c1,e0,?_,u2,low⟩,by rw[H.aS],by rw[H.aG _ om];exact c7,by simp only[H.bY];omega⟩⟩
    ·rcases c with c|c
     ·exact (t k).2 (.inl (u1 k om c))
     ·exact (t k).2 (.inr c)
    ·rcases c with c|c
     ·exact u2 k c
     ·simp only[H.bY];omega
    ·exact rd.kJ _ _ _ _ hv (kk r)
   ·simp(disch:=omega)only[go_sem]
    refine Ta b2 ⟨λk=>W4 k∨k=o,λk p c=>?_,λk c=>?_,a9.trans (Fx.set z ((t o).2 (.inr rfl)) _) (λ_ _ h=>h),.inr ⟨rfl,⟨W4,λk=>Iff.rfl,c1,?_,u2,low⟩,by rw[H.aS],by simp only[H.bY];omega⟩⟩
    ·rcases c with c|c
     ·exact (t k).2 (.inl (u1 k om c))
     ·exact (t k).2 (.inr c)
    ·rcases c with c|c
     ·exact u2 k c
     ·simp only[H.bY];omega
    ·exact rd.kD _ _ _ hv (kk _)
 have A: ∀k,k<h5.next->h6.get k=h5.get k:=λk hk=>f6.get k hk
 have g7:GC (λk=>s k∨k=o) h6 (.agg [aC n,K,F]) n O R G:=gC.go d3 λk p c=>by
  rcases c with c|c
  ·exact w1 k om c
  ·omega
 refine (ih (i+1) (iY O R x i q) b9 o (h4.next+1+1) h4.next (h4.next+1) h6 (λk=>s k∨k=o) (InJ Q o B id r J s) (InD o B r D s) om Y (by rw[A _ om];exact g2) (by rw[A _ om];exact f7) (by rw[A _ om];exact e8)
  (((b6.mono f5).lH λk p c=>(by rcases c with c|c;exact c;omega)).mono f6) om om om (λh=>by rcases h with h|h;have:=w2 _ h;omega;omega) (λh=>by rcases h with h|h;have:=w2 _ h;omega;omega) (λh=>by rcases h with h|h;have:=w2 _ h;omega;omega) g7 (λk h=>by rcases h with h|h;have:=w2 _ h;omega;omega)
  ⟨⟨s,λk=>Iff.rfl,e4,e3,rd.kJ _ _ _ _ a7 (Kept.fr b8),λk h=>by have:=w2 _ h;omega,λ_ _ h=>h⟩,g8,by rw[A _ om,f5.get _ om,f4.get _ om];exact f0,om⟩ g5).mono ?_
 rintro _ h7 ⟨W7,a1,a2,F7,j|j⟩
 ·obtain⟨W3,t,N,q3,q4,q5,q6⟩:=j.ex
  have nx:=j.nx;refine⟨r,j.gr,by rw[iP];simp,?_⟩;have en:r.pend.getD .norm= .norm:=by rw[c3];rfl
  rw[en];simp(disch:=omega)only[go_sem];rw[eJ m]
  have a0:Fx W c h7:=F3.trans ((Fx.of (W:=λk=>s k∨k=o) b8).trans F7 (λ_ _ h=>h)) λk p c=>by
   rcases c with c|c
   ·exact w1 k p c
   ·omega
  refine⟨u.length-(m+1),om,m+1,W3,aB rfl,om,?_,⟨a0.next,λk p c=>by rw[H.aG _ om];exact a0.get k p c⟩,λk p c=>w1 k p (q6 k om c),q5,rfl⟩;rw[UY a8 0,Z,U]
  refine rd.kJ _ _ _ _ q4 ⟨fM _,λk p c=>H.aG _ (λe=>by
   subst e;rcases c with c|c
   ·omega
   ·exact N c) _⟩
 ·obtain⟨W3,t,N,q4,q5,q6⟩:=j.ex
  have nx:=j.nx;refine⟨_,j.gr,by simp [tX],?_⟩;have en:(tX r .ret).pend.getD .norm= .ret:=rfl;rw[en];simp(disch:=omega)only[go_sem]
  have a0:Fx W h h7:=d3.trans F7 λk p c=>by
   rcases c with c|c
   ·exact w1 k om c
   ·omega
  refine⟨W3,λk p c=>w1 k om (q6 k om c),q5,⟨a0.next,λk p c=>by rw[H.aG _ om];exact a0.get k p c⟩,.inr ?_⟩
  refine rd.kD _ _ _ q4 ⟨fM _,λk p c=>H.aG _ (λe=>by
   subst e;rcases c with c|c
   ·omega
   ·exact N c) _⟩
theorem RZ (n:Nat)(a b:V)(O:LN)(R:jI)(G:List Nat->Prop): ∀d,ElC n a b O R G d
 |0=>aaN n a b O R G
 |d+1=>acJ n a b O R G d (RZ n a b O R G d)
def ahF (W M:Nat->Prop)(b:Nat)(hh:H)(w:V)(x:List Nat):Prop:= ∃id cap,w= .sl id 0 x.length cap/\W id/\ ¬M id/\b<=id/\id<hh.next/\hh.get id=aZ (ints (zi x))
structure LsJ (h:H)(b0 A B id2:Nat)(r:eH)(l:LN)(W:Nat->Prop)(hh:H):Prop where
 ex: ∃va ws M,hh.get A=aZ [va]/\cY hh va 1 ws (id2+1)/\aM (ahF W M (id2+1) hh) ws l/\Hq M va/\(∀id,M id->W id)/\(∀id,M id->id<hh.next)/\M A/\ ∀id off n c,va= .sl id off n c->id≠id2/\id≠A
 gr:hh.get id2=some (.loop r)
 wA:W A
 w2:W id2
 g1:hh.get (B+1)=aZ [.aE]
 g2:hh.get (B+1+1)=aZ [aC 0]
 nx:id2<hh.next
 nA:A<hh.next
 fr:Fr h hh
theorem LsJ.kept {h:H}{i b A B d:Nat}{r:eH}{l:LN}{W:Nat->Prop}{f h':H}(j:LsJ h i A B d r l W f)(k:Kept b W f h')(J:B+1+1<b)(G:h.next<=b)(s:b<=f.next):LsJ h i A B d r l W h':=by
 obtain⟨v,u,M,y,F,el,o,m,t,z,ne⟩:=j.ex
 refine⟨⟨v,u,M,by rw[k.2 A j.nA (.inr j.wA)];exact y,F.mono k.1 λid q n c e _ p=>k.2 id p (.inr (m _ (o _ _ _ _ e))),el.mono λw x ⟨id,cap,e,e1,e2,e3,e4,e5⟩=>⟨id,cap,e,e1,e2,e3,iW e4 k.1,by rw[k.2 id e4 (.inr e1)];exact e5⟩,o,m,λid h=>iW (t id h) k.1,z,ne⟩,
  by rw[k.2 _ j.nx (.inr j.w2)];exact j.gr,j.wA,j.w2,by rw[k.2 _ om (.inl om)];exact j.g1,by rw[k.2 _ om (.inl om)];exact j.g2,iW j.nx k.1,iW j.nA k.1,⟨mT j.fr.next k.1,λid a=>by rw[k.2 id (iW a j.fr.next) (.inl om)];exact j.fr.get id a⟩⟩
theorem jH {W:Nat->Prop}{h:H}{l:V}{n:Nat}{O:LN}{R:jI}{G:List Nat->Prop}(g:GC W h l n O R G):kI O n 0<=5040:=by
 have c: ∀i,i<n->(O.getD i []).length<=n-i:=λi hi=>uQ (λx m=>g.dN.cU m) hi (g.isc.asc i hi) (g.isc.mem i hi)
 have a: ∀d i,i+d=n->kI O d i<= [1,1,2,6,24,120,720,5040].getD d 0:=by
  intro d
  induction d with
  |zero=>intro i _;simp [kI]
  |succ d ih=>
   intro i hi;unfold kI;have f:=ih (i+1) om;have o:=c i om;have j:(O.getD i []).length<=d+1:=om
   have b:=g.n7;have k:=Nat.mul_le_mul j f;refine mT k ?_;have:d<=6:=om
   match d,this with
   |0,_=>decide
   |1,_=>decide
   |2,_=>decide
   |3,_=>decide
   |4,_=>decide
   |5,_=>decide
   |6,_=>decide
 have b:=g.n7;refine mT (a n 0 om) ?_
 match n,b with
 |0,_=>decide
 |1,_=>decide
 |2,_=>decide
 |3,_=>decide
 |4,_=>decide
 |5,_=>decide
 |6,_=>decide
 |7,_=>decide
theorem Wc {W0:Nat->Prop}(vc:V)(n:Nat)(O:LN)(R:jI)(G:List Nat->Prop)(h:H)(gc:GC W0 h vc n O R G):
  Ev T 98 [vc] h (λv h'=> ∃vl,v= .tup [vl,aC 0]/\JW h h' vl (cZ O R n 0 (bL n))):=by
 obtain⟨vO,vR,e,sO,sR⟩:=gc.ch
 subst e
 refine cV Kc rfl ?_
 have e9:=gc.isc
 have n0:=gc.n0
 have n7:=gc.n7
 have b4:vO.one=true:=oNs sO
 have b3:vR.one=true:=oNt sR
 have eO:dE vO vO=true:=by obtain⟨_,t,_⟩:=sO;exact t.dE
 have eR:dE vR vR=true:=by obtain⟨_,t,_⟩:=sR;exact t.dE
 obtain⟨L,hL⟩:=exI (cZ O R n 0 (bL n))
 obtain⟨c8,ll⟩:=dM gc.dN e9
 have j6:=jH gc
 rw[hL] at c8 ll
 have LP: ∀k,k<L.length->bE n (L.getD k []):=λk hk=>gc.dN.cU ((c8.mem _).1 (bD hk))
 obtain⟨B,hB⟩:=exI h.next
 obtain⟨h1,e1,n1,g1,o1,f1⟩:=dF hB [aC n,vO,vR]
 obtain⟨p,Y,n2,g2,o2,f2⟩:=dF n1 [.aE]
 obtain⟨h3,e3,n3,g3,o3,f3⟩:=dF n2 [aC 0]
 have F3:=(f1.trans f2).trans f3
 have bx:=bM h (v:= aC n) (u:=vO) (w:=vR) rfl b4 b3
 have c3:h3.get B=aZ [aC n,vO,vR]:=by rw[o3 _ om,o2 _ om];exact g1
 have h0:=aI c3
 simp(disch:=omega)only[go_sem,Kc,aD,bx,hB,e1,n1,Y,n2,e3,h0]
 refine ((gc.mono F3).check).mono ?_
 rintro _ h4 ⟨rfl,f4⟩
 have n4:=f4.next
 obtain⟨A,hA⟩:=exI h4.next
 obtain⟨h5,e5,n5,g5,o5,f5⟩:=dF hA [.aE]
 have b1:h5.get B=aZ [aC n,vO,vR]:=by rw[f5.get _ om,f4.get _ om];exact c3
 have g0:h5.get (B+1)=aZ [.aE]:=by rw[f5.get _ om,f4.get _ om,o3 _ om];exact g2
 have g7:h5.get (B+1+1)=aZ [aC 0]:=by rw[f5.get _ om,f4.get _ om];exact g3
 have F5:=(F3.trans f4).trans f5
 have i6:=aI b1
 have d9:=aI (h:=H.mk h5.tr (h5.next+5)) b1
 simp(disch:=omega)only[go_sem]
 refine aW (λhc=>(hc (by first|rfl|trivial)).elim) (λ_=>?_)
 simp(disch:=omega)only[go_sem,hA,e5,i6,d9,H.aF b1]
 refine (Vn BE.ok n (H.mk h5.tr (h5.next+5)) om).mono ?_
 rintro v6 h6 nw
 have fb:Fr h5 (H.mk h5.tr (h5.next+5)):=(Fr.refl h5).bA om
 have f6:=fb.trans nw.fr
 have n6:=f6.next
 have i4:h6.get B=aZ [aC n,vO,vR]:=by rw[f6.get _ om];exact b1
 have e0:=Td nw
 have d4:=e0.own
 simp(disch:=omega)only[go_sem,aI i4,eO,eR]
 refine (OS (n:Int) vO vR v6 0 b4 b3 d4.sv.cK.1 d4.sv.cK.2.1 h6).mono ?_
 rintro _ h7 ⟨rfl,i9,i3,j0,j7,f7⟩
 simp(disch:=omega)only[go_sem]
 refine⟨rfl,uJ λr hr=>?_⟩
 obtain⟨a,b8⟩:=exI h7.next
 rw[b8]
 have iP:r.st= .ready:=by rw[hr]
 have c4:r.pend=none:=by rw[hr]
 obtain⟨h8,b0⟩: ∃h8,h8=h7.new (.loop r):=⟨_,rfl⟩
 have i1:h8.get a=some (.loop r):=by rw[b0,←b8,H.aL]
 have n8:h8.next=a+1:=by rw[b0,H.aU,b8]
 have f8:Fr h7 h8:=by rw[b0];exact (Fr.refl h7).new _
 have U: ∀k,k<h7.next->h8.get k=h7.get k:=λk hk=>f8.get k hk
 rw[←b0]
 have d6:=(f6.trans f7).trans f8
 have F8:=F5.trans d6
 have b7: ∀k,k<h5.next->h8.get k=h5.get k:=λk hk=>d6.get k hk
 have J0:LsJ h B A B a r (L.take 0) (λk=>k=A∨k=a) h8:=
  ⟨⟨.aE, [],λk=>k=A,by rw[b7 _ om];exact g5,cY.aE _ _ _,trivial,λ_ _ _ _ e=>(by cases e),λk h=> .inl h,λk h=>by have:k=A:=h;omega,rfl,λ_ _ _ _ e=>(by cases e)⟩,i1,.inl rfl,.inr rfl,by rw[b7 _ om];exact g0,by rw[b7 _ om];exact g7,om,om,F8⟩
 have f9: ∀k,(k=A∨k=a)->k<h8.next:=λk h=>by rcases h with h|h<;>omega
 have i2:GC (λk=>k=A∨k=a) h8 (.agg [aC n,vO,vR]) n O R G:=gc.go (Fx.of F8) λk h1 p=>by rcases p with p|p<;>omega
 have p6:PV (λk=>k=A∨k=a) h8 v6 (bL n):=by
  obtain⟨i5,c5,ev,a1,a2,a3,a4⟩:=e0.ex;simp only at a1;rw[ev];exact⟨SV.all (by rw[aP,uW]) (by have:=(f7.trans f8).next;omega) (by rw[U _ (by have:=f7.next;omega),f7.get _ a2];exact a3) _,λh=>by have:i5=A∨i5=a:=h;have:=f7.next;omega⟩
 refine (RZ n vO vR O R G n 0 (bL n) v6 a (h6.next+1+1) h6.next (h6.next+1) h8 (λk=>k=A∨k=a) (λk W J=>LsJ h B A B a r (L.take k) W J) (λ_ _=>False) om (bE.one n)
  (by rw[U _ om];exact j0) (by rw[U _ om];exact i9) (by rw[U _ om];exact i3) p6 om om om (λh=>by rcases h with h|h<;>omega) (λh=>by rcases h with h|h<;>omega) (λh=>by rcases h with h|h<;>omega) i2 f9 J0 ?_).mono ?_
 ·rw[hL]
  refine⟨λk W J h' j kp=>j.kept kp om (by have:=F8.next;omega) (by have:=j.nx;omega),λ_ _ _ h=>h.elim,λk W J v hk j pv g8 j5 j2=>?_⟩
  obtain⟨va,ws,M,gA,ow,el,bl,mw,mn,mA,ne⟩:=j.ex
  have nx:=j.nx
  have nA:=j.nA
  have c7:=aM.length el
  rw[Fj,Nat.min_eq_left om] at c7
  refine sZ j.gr (by rw[hr];rfl) iP λF g9 n9 o9=>?_
  rw[congrArg eH.assign hr,congrArg eH.vars hr,congrArg eH.pars hr]
  simp(disch:=omega)only[go_sem,List.zip_cons_cons,List.zip_nil_left]
  rw[congrArg eH.body hr]
  have b6:F.get A=aZ [va]:=by rw[o9 _ om];exact gA
  have f0:Fx W J F:=⟨om,λk _ p=>o9 k λe=>p (e▸j.w2)⟩
  have d2:=pv.fx f0
  obtain⟨x,hx⟩:=exI (L.getD k [])
  rw[hx] at d2
  have X:bE n x:=by rw[←hx];exact LP k hk
  have b9:cY F va 1 ws (a+1):=ow.mono om λid i m c e _ _=>o9 id (ne _ _ _ _ e).1
  have g6:=cY.lens b9 c7
  have j1:=b9.sv.dE
  have d5:decide ((k:Int)=5040)=false:=bH om
  have d1:Fr F (H.mk F.tr (F.next+6)):=(Fr.refl F).bA om
  simp(disch:=omega)only[go_sem,H.aF b6,g6,d5]
  refine (Mz v (zi x) (H.mk F.tr (F.next+6)) (by rw[aQ,X.len];omega) (by rw[aQ,X.len];omega) (d2.mono d1).si).mono ?_
  rintro c0 d Q
  have a8:=d1.trans Q.fr
  obtain⟨i5,c5,ev,a1,a2,a3,a4⟩:=Q.ex
  simp only at a1
  have a9:d.get A=aZ [va]:=by rw[a8.get _ om];exact b6
  have b5:=Q.own
  simp(disch:=omega)only[go_sem,H.aF a9,j1,cT _ (z:= .aE) b5.sv.cK.1 b5.sv.cK.2.1]
  obtain⟨f,l⟩: ∃f:H,f=H.mk ((H.mk d.tr (F.next+3)).new (Ob.cells false [c0])).tr d.next:=⟨_,rfl⟩
  rw[←l]
  have i8:f.get (F.next+3)=aZ [c0]:=by rw[l];exact H.aL (H.mk d.tr (F.next+3)) _
  have g4:f.next=d.next:=by rw[l]
  have Z: ∀k,k≠F.next+3->f.get k=d.get k:=λk hk=>by rw[l];exact H.bG (H.mk d.tr (F.next+3)) (by simpa using hk) _
  have N:Fr F f:=⟨by have:=a8.next;omega,λk hk=>by rw[Z k om];exact a8.get k hk⟩
  obtain⟨a7,i0,s⟩:=(b9.fr N).push (bytes:=24) (SV.one (by have:=a8.next;have:=Q.fr.next;simp only at this;omega) i8 (.kn 1)) (n:=k) (m:=1) om rfl om om om
  have j3:=s.next
  have e6:dL va A:=λid i m c e Y=>(ne _ _ _ _ e).2 Y.symm
  have e8:dL va a:=λid i m c e Y=>(ne _ _ _ _ e).1 Y.symm
  have i7:=a8.next
  have e4:a7.get A=aZ [va]:=by rw[s.old A om e6,N.get A om];exact b6
  have d7:a7.get a=some (.loop (pW r)):=by rw[s.old a om e8,N.get a om];exact g9
  have e7: ∀(J:H) (y:V),dX (aZ [va]) J A 0 [y]=some (J.set A (aZ [y])):=λJ y=>bN (by simp) J _ _
  simp(disch:=omega)only[go_sem,i0,e4,e7]
  obtain⟨a5,K⟩: ∃a5,a5=(a7.set A (aZ [.sl f.next 0 (k+1) (.un 1)])).set a (some (.loop r)):=⟨_,rfl⟩
  have c2:A≠a:=om
  have P: ∀q,q≠A->q≠a->a5.get q=a7.get q:=λq h1 p=>by rw[K,H.aG _ p,H.aG _ h1]
  have j4:a5.next=a7.next:=by rw[K];rfl
  refine oX iP c4 (by rw[H.aG _ (Ne.symm c2)];exact d7) ?_
  rw[←K]
  have c6: ∀q,q<J.next-> ¬W q->a5.get q=J.get q:=λq h1 p=>by
   rw[P q (λe=>p (e▸j.wA)) (λe=>p (e▸j.w2)),s.old q om (λid i m c e Y=>p (Y▸mw _ (bl _ _ _ _ e))),N.get q om,o9 q (λe=>p (e▸j.w2))]
  refine⟨λq=>W q∨q=f.next∨q=i5,λq h1 p=>by rcases p with p|p|p;exact p;omega;omega,λq h=>by rcases h with h|h|h;have:=g8 q h;omega;omega;omega,⟨om,c6⟩,.inl ⟨rfl,?_⟩⟩
  refine⟨⟨.sl f.next 0 (k+1) (.un 1),ws++ [c0],λq=>M q∨q=f.next,by rw[K,H.aG _ c2,H.aS],?_,?_,λid i m c e=>by cases e;exact .inr rfl,λq h=>by rcases h with h|h;exact .inl (mw q h);exact .inr (.inl h),λq h=>by rcases h with h|h;have:=mn q h;omega;omega,.inl mA,λid i m c e=>by cases e;exact⟨om,om⟩⟩,
   by rw[K,H.aS],.inl j.wA,.inl j.w2,?_,?_,om,om,?_⟩
  ·exact (s.own (b:=a+1) om rfl om).mono om λid i m c e h1 p=>by cases e;exact P _ om om
  ·rw[cE [] hk,hx]
   have c1: ∀(q:Nat) (o:Option Ob),q<J.next-> ¬M q->q≠a->a5.get q=J.get q:=λq _ h1 p h3=>by
    rw[P q (λe=>p (e▸mA)) h3,s.old q om (λb2 i m c e Y=>p (Y▸bl _ _ _ _ e)),N.get q om,o9 q h3]
   have d3: ∀q z,J.get q=aZ z->q≠a:=λq z h e=>by rw[e,j.gr] at h;cases h
   refine (el.mono λw z ⟨id,d0,e,q1,q2,q3,q4,q5⟩=>⟨id,d0,e,.inl q1,(λh=>by rcases h with h|h;exact q2 h;omega),q3,om,(by rw[c1 id none q4 q2 (d3 _ _ q5)];exact q5)⟩).append ⟨⟨i5,c5,by rw[ev,aQ],.inr (.inr rfl),λh=>by rcases h with h|h;have:=mn i5 h;omega;omega,om,om,?_⟩,trivial⟩
   rw[P i5 om om,s.old i5 om (λb2 i m c e Y=>by have:=mn _ (bl _ _ _ _ e);omega),Z i5 om]
   exact a3
  ·rw[P _ om om,s.old _ om (λb2 i m c e Y=>by have:=(ow.in _ _ _ _ e).2.1;omega),N.get _ om,o9 _ om];exact j.g1
  ·rw[P _ om om,s.old _ om (λb2 i m c e Y=>by have:=(ow.in _ _ _ _ e).2.1;omega),N.get _ om,o9 _ om];exact j.g2
  ·refine⟨by have:=j.fr.next;omega,λq hq=>?_⟩
   have:=j.fr.next
   rw[P q om om,s.old q om (λb2 i m c e Y=>by have:=(ow.in _ _ _ _ e).2.1;omega),N.get q om,o9 q om]
   exact j.fr.get q hq
 ·rintro _ F ⟨W2,a1,a2,F9,j|hf⟩
  case inr=>exact hf.elim
  rw[hL,List.take_length] at j
  obtain⟨va,ws,M,gA,ow,el,bl,mw,mn,mA,ne⟩:=j.ex
  have nx:=j.nx
  have nA:=j.nA
  have pt: ∀(J:H) (id:Nat) (u w:V),dX (aZ [u]) J id 0 [w]=some (J.set id (aZ [w])):=λJ id u w=>bN (by simp) J _ _
  refine⟨r,j.gr,by rw[iP];simp,?_⟩
  have en:r.pend.getD .norm= .norm:=by rw[c4];rfl
  rw[en]
  obtain⟨d,a6⟩: ∃d,d=F.set a (some (.loop {r with st:= .out})):=⟨_,rfl⟩
  have a0: ∀q,q≠a->d.get q=F.get q:=λq hq=>by rw[a6,H.aG _ hq]
  have i7:d.next=F.next:=by rw[a6];rfl
  have a9:d.get A=aZ [va]:=by rw[a0 _ om];exact gA
  have d8:d.get (B+1)=aZ [.aE]:=by rw[a0 _ om];exact j.g1
  have c9:d.get (B+1+1)=aZ [aC 0]:=by rw[a0 _ om];exact j.g2
  rw[←a6]
  simp(disch:=omega)only[go_sem,H.aF a9,d8,c9,pt,lG ow.sv.cK.1 ow.sv.cK.2.1]
  obtain⟨f,l⟩: ∃f,f=(d.set (B+1) (aZ [va])).set (B+1+1) (aZ [aC 0]):=⟨_,rfl⟩
  rw[←l]
  have Z: ∀q,q≠B+1->q≠B+1+1->f.get q=d.get q:=λq h1 p=>by rw[l,H.aG _ p,H.aG _ h1]
  have g4:f.next=d.next:=by rw[l];rfl
  have hn:=j.fr.next
  refine⟨va,rfl,⟨ws,λq=>M q∨q<h.next,?_,?_,λid i n c e=> .inl (bl _ _ _ _ e),λq h=> .inr h⟩,⟨om,λq hq=>?_⟩⟩
  ·refine (ow.mono om λid i m c e h1 _=>?_).le om
   rw[Z id om om,a0 id om]
  ·rw[hL]
   refine aM.mono (R:=ahF W2 M (a+1) F) (λw z hw=>?_) el
   obtain⟨id,d0,e,q1,q2,q3,q4,q5⟩:=hw
   rw[e]
   exact⟨SV.all (by rw[aP,aQ,uW]) om (by rw[Z id om om,a0 id om];exact q5) _,λh=>by rcases h with h|h;exact q2 h;omega⟩
  ·rw[Z q om om,a0 q om]
   exact j.fr.get q hq
end Go.Proofs.YtcdbmkidaecdiaaGreat
namespace Go.Pm
set_option maxRecDepth 100000
section
variable {i:Nat}
def it (a:List Nat):Nat->Nat->Nat
 |0,i=>i
 |t+1,i=>a.getD (it a t i) 0
section
variable {n:Nat} {a:List Nat}
theorem Ht (A:bE n a){i:Nat}(hi:i<n): ∀t,it a t i<n
 |0=>hi
 |t+1=>A.iN (Ht A hi t)
theorem vP (a:List Nat)(s i:Nat): ∀t,it a (s+t) i=it a t (it a s i)
 |0=>rfl
 |t+1=>by
  show a.getD (it a (s+t) i) 0=a.getD (it a t (it a s i)) 0;rw[vP a s i t]
theorem HT (A:bE n a){i:Nat}(hi:i<n): ∀t,it a t i=(pw n a t).getD i 0
 |0=>(fQ hi).symm
 |t+1=>by
  show a.getD (it a t i) 0=(aX (pw n a t) a).getD i 0;rw[cM (by rw[(rM A t).len];exact hi),HT A hi t]
theorem BG (A:bE n a){i j:Nat}(hi:i<n)(b:j<n): ∀t,it a t i=it a t j->i=j
 |0,h=>h
 |t+1,h=>BG A hi b t (A.inj (Ht A hi t) (Ht A b t) h)
noncomputable def xG (a:List Nat)(i:Nat):Nat:=by
 classical exact if h: ∃t,0<t/\it a t i=i/\ ∀s,0<s->s<t->it a s i≠i then h.choose else 1
theorem agB (A:bE n a)(hi:i<n): ∃t,0<t/\it a t i=i:=by
 obtain⟨k,b,_,c⟩:=Wi A;exact⟨k,b,by rw[HT A hi,c,fQ hi]⟩
theorem pD (A:bE n a)(hi:i<n):0<xG a i/\it a (xG a i) i=i/\ ∀t,0<t->t<xG a i->it a t i≠i:=by
 classical
 have h: ∃t,0<t/\it a t i=i/\ ∀s,0<s->s<t->it a s i≠i:=by
  obtain⟨t,k,j⟩:=agB A hi
  induction t using Nat.strongRecOn with
  |_ t ih=>
   by_cases f: ∃s,0<s/\s<t/\it a s i=i
   ·obtain⟨s,d,b,c⟩:=f
    exact ih s b d c
   ·exact⟨t,k,j,λs d b c=>f ⟨s,d,b,c⟩⟩
 have e:xG a i=h.choose:=by unfold xG;rw[dif_pos h]
 rw[e];exact h.choose_spec
theorem Tw (A:bE n a){i:Nat}(hi:i<n): ∀k,it a (xG a i*k) i=i
 |0=>rfl
 |k+1=>by rw[Nat.mul_succ,vP,Tw A hi k,(pD A hi).2.1]
theorem BR (A:bE n a)(hi:i<n)(t:Nat):it a t i=it a (t%xG a i) i:=by
 have:=vP a (xG a i*(t/xG a i)) i (t%xG a i);rw[Nat.div_add_mod,Tw A hi] at this;exact this
theorem Er (A:bE n a)(hi:i<n)(t:Nat):it a t i=i↔xG a i∣t:=by
 obtain⟨b,d,c⟩:=pD A hi;constructor
 ·intro h
  rw[BR A hi] at h;refine Nat.dvd_of_mod_eq_zero (Classical.byContradiction λf=>c _ oq (Nat.mod_lt _ b) h)
 ·rintro⟨k,rfl⟩;exact Tw A hi k
theorem acS (A:bE n a)(hi:i<n){s t:Nat}(f:s<xG a i)(d:t<xG a i)(h:it a s i=it a t i):s=t:=by
 have b: ∀s t,s<=t->t<xG a i->it a s i=it a t i->s=t:=λs t iP d h=>by
  have e:it a t i=it a s (it a (t-s) i):=by rw[←vP];congr 1;omega
  rw[e] at h;have:=BG A hi (Ht A hi (t-s)) s h;have j:=(Er A hi (t-s)).1 this.symm;have:=Nat.eq_zero_of_dvd_of_lt j oq;omega
 rcases Nat.le_total s t with c|c
 ·exact b s t c d h
 ·exact (b t s c f h.symm).symm
noncomputable def GK (a:List Nat)(i:Nat):List Nat:=(List.range (xG a i)).map λt=>it a t i
theorem Ca (a:List Nat)(i:Nat):(GK a i).length=xG a i:=by simp [GK]
theorem acG (A:bE n a)(hi:i<n){j:Nat}:j∈GK a i↔ ∃t,it a t i=j:=by
 unfold GK;rw[List.mem_map];constructor
 ·rintro⟨t,_,h⟩;exact⟨t,h⟩
 ·rintro⟨t,h⟩;exact⟨t%xG a i,List.mem_range.2 (Nat.mod_lt _ (pD A hi).1),by rw[←BR A hi];exact h⟩
theorem MP (A:bE n a)(hi:i<n):(GK a i).Nodup:=by
 unfold GK;rw[List.nodup_iff_pairwise_ne,List.pairwise_map,List.pairwise_iff_getElem];intro s t b c iP h;simp only[List.length_range] at b c;simp only[List.getElem_range] at h;have:=acS A hi b c h;omega
theorem BA (A:bE n a)(hi:i<n):xG a i<=n:=by
 rw[←Ca a i]
 have:=List.Nodup.length_le_of_subset (MP A hi) (l₂:=List.range n) λj b=>by
  obtain⟨t,rfl⟩:=(acG A hi).1 b;exact List.mem_range.2 (Ht A hi t)
 simpa using this
theorem Li (A:bE n a)(hi:i<n)(t:Nat): ∃s,it a s (it a t i)=i:=by
 obtain⟨b,_,_⟩:=pD A hi;refine⟨xG a i*(t/xG a i+1)-t,?_⟩;rw[←vP,show t+(xG a i*(t/xG a i+1)-t)=xG a i*(t/xG a i+1) from ?_,Tw A hi];have:=Nat.div_add_mod t (xG a i);have:=Nat.mod_lt t b;rw[Nat.mul_succ];omega
theorem PH (A:bE n a)(hi:i<n)(t:Nat):xG a (it a t i)=xG a i:=by
 have c:=Ht A hi t
 have b: ∀k,it a k (it a t i)=it a t i↔it a k i=i:=λk=>by
  rw[←vP,Nat.add_comm,vP];exact⟨λh=>BG A (Ht A hi k) hi t h,λh=>by rw[h]⟩
 refine Nat.dvd_antisymm ?_ ?_
 ·rw[←Er A c,b,Er A hi];exact Nat.dvd_refl _
 ·rw[←Er A hi,←b,Er A c];exact Nat.dvd_refl _
def oV (a:List Nat)(n i:Nat):Prop:= ∀t,i<=it a t i
open Classical in
noncomputable def Qh (a:List Nat)(n:Nat):List Nat:=(List.range n).filter λi=>decide (oV a n i)
noncomputable def vU (a:List Nat)(n:Nat):zI:=(Qh a n).map (GK a)
theorem aeA (A:bE n a)(hi:i<n): ∃j,j<n/\oV a n j/\ ∃t,it a t j=i:=by
 induction i using Nat.strongRecOn with
 |_ i ih=>
  by_cases h:oV a n i
  ·exact⟨i,hi,h,0,rfl⟩
  ·have: ∃t,it a t i<i:=Classical.byContradiction λd=>h λt=>Nat.le_of_not_lt λb=>d ⟨t,b⟩
   obtain⟨t,l⟩:=this;obtain⟨j,c,b,s,f⟩:=ih _ l (Ht A hi t);obtain⟨u,k⟩:=Li A hi t;exact⟨j,c,b,s+u,by rw[vP,f,k]⟩
theorem Il (A:bE n a)(hi:i<n):oV a n i↔ ∀j,j<i-> ∀t,it a t j≠i:=by
 constructor
 ·intro h j d t e
  obtain⟨s,b⟩:=Li A (show j<n by omega) t;rw[e] at b;have:=h s;omega
 ·intro h t
  refine Nat.le_of_not_lt λc=>?_
  obtain⟨s,b⟩:=Li A hi t;exact h _ c s b
def Ea (l:List Nat):Nat:=l.foldl (λm c=>m/Nat.gcd m c*c) 1
theorem UQ (m c:Nat):m/Nat.gcd m c*c=Nat.lcm m c:=by
 unfold Nat.lcm;rw[Nat.mul_comm,←Nat.mul_div_assoc _ (Nat.gcd_dvd_left m c),Nat.mul_comm]
theorem Wq: ∀(l:List Nat) (m k:Nat),l.foldl (λm c=>m/Nat.gcd m c*c) m∣k↔m∣k/\ ∀c∈l,c∣k
 | [],m,k=>by simp
 |c::l,m,k=>by
  rw[List.foldl_cons,Wq l,UQ,Nat.lcm_dvd_iff];simp only[List.mem_cons,forall_eq_or_imp,and_assoc]
theorem Hb (l:List Nat)(k:Nat):Ea l∣k↔ ∀c∈l,c∣k:=by
 unfold Ea;rw[Wq];simp
noncomputable def qF (a:List Nat)(n:Nat):Nat:=Ea ((vU a n).map List.length)
theorem Hu (A:bE n a)(k:Nat):qF a n∣k↔pw n a k=bL n:=by
 unfold qF;rw[Hb];constructor
 ·intro h
  refine yC (by rw[(rM A k).len,jG]) λi hi=>?_
  rw[(rM A k).len] at hi;rw[←HT A hi,fQ hi,Er A hi];obtain⟨j,d,f,t,m⟩:=aeA A hi;have:=h (xG a j) (List.mem_map.2 ⟨GK a j,List.mem_map.2 ⟨j,by unfold Qh;rw[List.mem_filter];exact⟨List.mem_range.2 d,by simpa using f⟩,rfl⟩,Ca a j⟩);rw[←PH A d t,m] at this;exact this
 ·rintro h c o
  obtain⟨l,p,rfl⟩:=List.mem_map.1 o;obtain⟨j,d,rfl⟩:=List.mem_map.1 p
  have b:j<n:=by
   unfold Qh at d;exact List.mem_range.1 (List.mem_filter.1 d).1
  rw[Ca,←Er A b,HT A b,h,fQ b]
theorem Ya (A:bE n a):0<qF a n:=by
 obtain⟨k,c,_,b⟩:=Wi A;have:=(Hu A k).2 b;refine Nat.pos_of_ne_zero λe=>?_
 rw[e] at this;have:=Nat.eq_zero_of_zero_dvd this;omega
theorem EG (A:bE n a):qF a n<=n^n:=by
 obtain⟨k,c,b,d⟩:=Wi A;exact Nat.le_trans (Nat.le_of_dvd c ((Hu A k).2 d)) b
end
end
end Go.Pm
namespace Go.Proofs.YtcdbmkidaecdiaaGreat
open Go Go.Ay Go.Pm
set_option maxRecDepth 100000
section
variable {a:List Nat} {i n:Nat}
theorem adG {g:Nat}(j:T g=some Ei.fn)(a b:Nat)(h:H)(p:a<1000000)(u:b<1000000):Ev T g [aC a,aC b] h (λv h'=>v= aC (Nat.gcd a b:Nat)/\Fr h h'):=by
 refine Ko j rfl ?_;simp(disch:=omega)only[go_sem,Ei,aD];refine aH (λc d o=> ∃(x y:Nat),(∃g:Nat->V,d= [aC x,aC y,g 2,g 3])/\x<1000000/\y<1000000/\Nat.gcd x y=Nat.gcd a b/\Fr h o/\c=y) b
  ⟨a,b,aB rfl,p,u,rfl,Fr.refl h,rfl⟩ ?_
 rintro c d o ⟨x,y,⟨g,rfl⟩,w,t,m,F,s⟩;subst s
 by_cases f:(0:Int)<(c:Int)
 ·have l:=bP f
  have q:(c:Int)≠0:=om
  have r:(x:Int).tmod (c:Int)=((x%c:Nat):Int):=TZ x c;have k:=Nat.mod_lt x (show c>0 by omega);simp(disch:=omega)only[go_sem,l,q,r];exact⟨x%c,k,c,x%c,aB rfl,t,om,by rw[Nat.gcd_comm,←Nat.gcd_rec,Nat.gcd_comm];exact m,F.bA om,rfl⟩
 ·have l:=bH f
  obtain rfl:c=0:=om
  simp(disch:=omega)only[go_sem,l];rw[←m,Nat.gcd_zero_right];exact⟨rfl,F⟩
open Classical in
noncomputable def Px (a:List Nat)(i s j:Nat):Bool:=decide ((∃i0,i0<i/\ ∃t,it a t i0=j)∨ ∃t,t<s/\it a t i=j)
theorem Qg {s j:Nat}:Px a i s j=true↔(∃i0,i0<i/\ ∃t,it a t i0=j)∨ ∃t,t<s/\it a t i=j:=by classical unfold Px;simp only[decide_eq_true_eq]
theorem PR (a:List Nat)(j:Nat):Px a 0 0 j=false:=by
 rw[←Bool.not_eq_true,Qg];rintro (⟨b,h,_⟩|⟨t,h,_⟩)<;>omega
theorem QL (a:List Nat)(i s j:Nat):Px a i (s+1) j=if j=it a s i then true else Px a i s j:=by
 by_cases e:j=it a s i
 ·rw[bF e,Qg];exact .inr ⟨s,om,e.symm⟩
 ·rw[bI e,Py,Qg,Qg]
  constructor
  ·rintro (h|⟨t,c,b⟩)
   ·exact .inl h
   ·exact .inr ⟨t,by have:t≠s:=λd=>e (by rw[←d];exact b.symm);omega,b⟩
  ·rintro (h|⟨t,c,b⟩)
   ·exact .inl h
   ·exact .inr ⟨t,om,b⟩
theorem UJ (A:bE n a)(hi:i<n)(j:Nat):Px a i (xG a i) j=Px a (i+1) 0 j:=by
 rw[Py,Qg,Qg];constructor
 ·rintro (⟨c,d,b⟩|⟨t,d,b⟩)
  ·exact .inl ⟨c,om,b⟩
  ·exact .inl ⟨i,om,t,b⟩
 ·rintro (⟨c,d,t,b⟩|⟨t,d,_⟩)
  ·by_cases e:c=i
   ·subst e;exact .inr ⟨t%xG a c,Nat.mod_lt _ (pD A hi).1,by rw[←BR A hi];exact b⟩
   ·exact .inl ⟨c,om,t,b⟩
  ·omega
theorem NO (A:bE n a)(hi:i<n)(h: ¬oV a n i)(j:Nat):Px a i 0 j=Px a (i+1) 0 j:=by
 have c: ∃b,b<i/\ ∃t,it a t b=i:=Jg λk=>h ((Il A hi).2 λb p t e=>k ⟨b,p,t,e⟩)
 obtain⟨b,l,o,m⟩:=c;rw[Py,Qg,Qg];constructor
 ·rintro (⟨d,f,c⟩|⟨t,f,_⟩)
  ·exact .inl ⟨d,om,c⟩
  ·omega
 ·rintro (⟨d,f,t,c⟩|⟨t,f,_⟩)
  ·by_cases e:d=i
   ·subst e;exact .inl ⟨b,l,o+t,by rw[vP,m];exact c⟩
   ·exact .inl ⟨d,om,t,c⟩
  ·omega
theorem HE (A:bE n a){s:Nat}(hi:i<n)(k:oV a n i)(o:s<=xG a i):(Px a i s (it a s i)=false↔s<xG a i):=by
 obtain⟨f,d,p⟩:=pD A hi;constructor
 ·intro h
  refine Jg λm=>?_
  have e:s=xG a i:=om
  subst e;rw[d] at h;have:Px a i (xG a i) i=true:=Qg.2 (.inr ⟨0,f,rfl⟩);rw[h] at this;cases this
 ·intro h
  rw[←Bool.not_eq_true,Qg];rintro (⟨l,c,t,b⟩|⟨t,c,b⟩)
  ·obtain⟨u,j⟩:=Li A hi s
   have:=(Il A hi).1 k l c (t+u);rw[vP,b,j] at this;exact this rfl
  ·have:=acS A hi (show t<xG a i by omega) h b
   omega
theorem acM (A:bE n a)(hi:i<n)(f: ¬oV a n i):Px a i 0 i=true:=by
 have d: ∃b,b<i/\ ∃t,it a t b=i:=Jg λc=>f ((Il A hi).2 λb h t e=>c ⟨b,h,t,e⟩)
 exact Qg.2 (.inl d)
theorem Rc (hi:i<=n):((Qh a n).filter λj=>decide (j<i))=(open Classical in (List.range i).filter λj=>decide (oV a n j)):=by
 classical
 unfold Qh;have:List.range n=List.range i++(List.range (n-i)).map (i+ ·):=by rw[←List.range_add];congr 1;omega
 rw[this,List.filter_append,List.filter_append]
 have c:(((List.range (n-i)).map (i+ ·)).filter λj=>decide (oV a n j)).filter (λj=>decide (j<i))= []:=by
  rw[List.filter_eq_nil_iff];intro x b;obtain⟨y,_,rfl⟩:=uF.1 (CH.1 b).1;simp
 rw[c,vF];rw[List.filter_eq_self];intro x b;simpa using Gu.1 (CH.1 b).1
noncomputable def GW (a:List Nat)(n i:Nat):LN:=((Qh a n).filter λj=>decide (j<i)).map (GK a)
theorem FU (a:List Nat)(n:Nat):GW a n n=vU a n:=by
 classical
 unfold GW vU;congr 1;rw[List.filter_eq_self];intro x b;unfold Qh at b;simpa using Gu.1 (CH.1 b).1
theorem Fq (hi:i<n):(oV a n i->GW a n (i+1)=GW a n i++ [GK a i])/\(¬oV a n i->GW a n (i+1)=GW a n i):=by
 classical
 unfold GW;rw[Rc (show i+1<=n by omega),Rc (show i<=n by omega),List.range_succ,List.filter_append];constructor
 ·intro h
  rw[show ([i]:List Nat).filter (λj=>decide (oV a n j))= [i] by simp [h],List.map_append];rfl
 ·intro h
  rw[show ([i]:List Nat).filter (λj=>decide (oV a n j))= [] by simp [h],vF]
theorem aaU: ∀i,i<=n->GW a n i<+:vU a n:=by
 intro i hi
 obtain⟨d,f⟩: ∃d,i+d=n:=⟨n-i,om⟩
 induction d generalizing i with
 |zero=>
      have:i=n:=om
      subst this;rw[FU];exact List.prefix_rfl
 |succ d ih=>
  have b:=ih (i+1) om om
  by_cases c:oV a n i
  ·rw[(Fq om).1 c] at b
   exact (List.prefix_append _ _).trans b
  ·rw[(Fq om).2 c] at b
   exact b
theorem UU (a:List Nat)(n:Nat):GW a n 0= []:=by
 unfold GW;rw[show (Qh a n).filter (λj=>decide (j<0))= [] by rw[List.filter_eq_nil_iff];intro x _;simp];rfl
theorem QA {α:Type}{l m:List α}(h:l<+:m)(hi:i<l.length)(d:α):m.getD i d=l.getD i d:=by
 obtain⟨t,rfl⟩:=h;rw[List.getD,Dv hi];rfl
theorem BM (id b:Nat)(va:V)(n:Nat)(a:List Nat)(h:H)(b2:1<=n)(hn:n<=64)(A:bE n a)(F:Nat)(b1:F<=h.next)(b3:b<F)(hb:h.get b=some (.cells false [va]))(a9:b<h.next)(hv:SI h va (zi a))(J:Nat->H->Prop)(h0:J 0 h)
  (kJ: ∀k hh h',J k hh->hh.next<=h'.next->(∀q,q<F->h'.get q=hh.get q)->J k h') (jb: ∀k hh,J k hh->hh.get b=some (.cells false [va])/\SI hh va (zi a))
  (hy: ∀k hh v,k<(vU a n).length->J k hh->SI hh v (zi ((vU a n).getD k []))->F<=hh.next->Ey T id [v] hh (λv h'=>v= .bool true/\J (k+1) h'/\Fx (λq=>q<F) hh h')):
  Ev T 246 [.yl id,.ptr b 0] h (λ_ h'=>J (vU a n).length h'):=by
 refine cV yP rfl ?_
 obtain⟨S,hS⟩:=exI h.next
 obtain⟨h1,e1,n1,g1,o1,f1⟩:=dF hS (rc 64 λ_=>V.bool false)
 have a2:=H.aF (h:=h1) (id:=b) (by rw[o1 _ om];exact hb)
 have R:=hv.lens
 rw[aQ,A.len] at R
 simp(disch:=omega)only[go_sem,yP,aD,ES,hS,e1,a2,R]
 have a4:h1.get S=some (.cells false (rc 64 λj=> .bool (Px a 0 0 j))):=by
  rw[g1,show (λj=>V.bool (Px a 0 0 j))=λ_=>V.bool false from funext λj=>by rw[PR]]
 refine aH (λK o hh=> ∃(i:Nat),(∃g:Nat->V,o= [.yl id,.ptr b 0,.ptr S 0,g 3,g 4,g 5,aC n,aC i,g 8,g 9,g 10])/\i<=n/\J (GW a n i).length hh/\hh.get S=some (.cells false (rc 64 λj=> .bool (Px a i 0 j)))/\S<hh.next/\K=n-i) n
  ⟨0,aB rfl,iJ _,by rw[UU];exact kJ _ _ _ h0 f1.next (λq hq=>o1 q om),a4,om,rfl⟩ ?_
 rintro K o h2 ⟨i,⟨g,rfl⟩,hi,r,w,x,rfl⟩
 by_cases O:(i:Int)<(n:Int)
 case neg=>
  have d1:=bH O;obtain rfl:i=n:=om
  simp(disch:=omega)only[go_sem,d1];rw[FU] at r;exact r
 have d1:=bP O
 have l:i<n:=om
 simp(disch:=omega)only[go_sem,d1]
 obtain⟨p0,p1,p2⟩:=pD A l
 have a8:=BA A l
 refine bJ (λvs hh=> ∃(p:V) (c:List Nat),(∃g:Nat->V,vs= [.yl id,.ptr b 0,.ptr S 0,g 3,p,g 5,aC n,aC i,g 8,g 9,g 10])/\cY hh p 1 (ints (zi c)) (S+1)/\(oV a n i/\c=GK a i∨ ¬oV a n i/\c= [])/\
   J (GW a n i).length hh/\hh.get S=some (.cells false (rc 64 λj=> .bool (Px a (i+1) 0 j)))/\S<hh.next) ?_ ?_
 ·refine aH (λK vs hh=> ∃(s:Nat) (p:V),(∃g:Nat->V,vs= [.yl id,.ptr b 0,.ptr S 0,g 3,p,aC (it a s i:Nat),aC n,aC i,g 8,g 9,g 10])/\s<=xG a i/\(0<s->oV a n i)/\cY hh p 1 (ints (zi ((List.range s).map λt=>it a t i))) (S+1)/\
    J (GW a n i).length hh/\hh.get S=some (.cells false (rc 64 λj=> .bool (Px a i s j)))/\S<hh.next/\K=xG a i-s) (xG a i)
   ⟨0,.aE,aB rfl,iJ _,λh=>om,cY.aE _ _ _,r,w,x,rfl⟩ ?_
  clear r w x
  rintro K o G ⟨s,p,⟨g,rfl⟩,hs,hf,y,r,w,x,rfl⟩
  have hp:=Ht A l s
  have Z:=Bw w (i:=it a s i) om
  cases hsn:Px a i s (it a s i) with
  |true=>
   rw[hsn] at Z;simp(disch:=omega)only[go_sem,Z]
   by_cases f:oV a n i
   ·have e:s=xG a i:=Jg λY=>by
     have:=(HE A l f hs).2 om;rw[hsn] at this;cases this
    refine⟨p,GK a i,aB rfl,by rw[e] at y;exact y,.inl ⟨f,rfl⟩,r,?_,x⟩;rw[w,e];congr 2;exact dB λj _=>by rw[UJ A l]
   ·have e:s=0:=Jg λY=>f (hf om)
    subst e;refine⟨p, [],aB rfl,y,.inr ⟨f,rfl⟩,r,?_,x⟩;rw[w];congr 2;exact dB λj _=>by rw[NO A l f]
  |false=>
   rw[hsn] at Z
   have f:oV a n i:=Jg λf=>by
    have e:s=0:=Jg λY=>f (hf om)
    subst e;have:=acM A l f;have h2:Px a i 0 i=false:=hsn;rw[h2] at this;cases this
   have a7:=(HE A l f hs).1 hsn;have pt:=bN (vs:=rc 64 λj=> .bool (Px a i s j)) (off:=it a s i) (by rw[kH];omega);obtain⟨h4,e4,n4,g4,o4⟩:=pJ G S ((rc 64 λj=> .bool (Px a i s j)).set (it a s i) (.bool true));obtain⟨h5,e5,n5,g5,o5,f5⟩:=dF (h:=h4) (ID:=G.next) n4 [aC (it a s i:Nat)];have a1:cY h5 p 1 (ints (zi ((List.range s).map λt=>it a t i))) (S+1):=y.mono om λk off m c e h1 h2=>by rw[o5 k om,o4 k om]
   obtain⟨h6,a6,p6⟩:=a1.push (bytes:=8) (SV.one (v:= aC (it a s i:Nat)) (id:=G.next) om g5 (.kn 1)) (n:=s) (m:=1) (by rw[aP,aQ];simp) rfl om om om;have n6:=p6.next;have ap: ∀q,q<=S->dL p q:=λq hq k off m c e e2=>by have:=(y.in _ _ _ _ e).2.1;omega
   have o6: ∀q,q<F->h6.get q=G.get q:=λq hq=>by rw[p6.old q om (ap q om),o5 q om,o4 q om]
   have J6:=kJ _ _ h6 r om o6;obtain⟨a0,a5⟩:=jb _ _ J6;obtain⟨idx,P,U,Q,L⟩:=a5.open;rw[aQ,A.len] at U Q L
   have cx:h6.cell idx (P+it a s i)=some (aC (it a (s+1) i:Nat)):=by
    rw[L _ hp];congr 2;rw[zi,nP _ (d:=0) (by rw[A.len];exact hp)];rfl
   simp(disch:=omega)only[go_sem,Z,w,pt,e4,cT h4 (z:= aC 0) (v:= aC (it a s i:Nat)) rfl rfl,n4,e5,a6,H.aF a0,U.ixa,cx]
   have a3:h6.get S=some (.cells false (rc 64 λj=> .bool (Px a i (s+1) j))):=by
    rw[p6.old S om (ap S (fM _)),o5 S om,g4,mS];congr 2
    exact dB λj _=>by
     rw[QL]
     by_cases e:j=it a s i
     ·rw[bF e,bF e]
     ·rw[bI e,bI e]
   have el:ints (zi ((List.range (s+1)).map λt=>it a t i))=ints (zi ((List.range s).map λt=>it a t i))++ [aC (it a s i:Nat)]:=by
    rw[List.range_succ,List.map_append];simp [zi,ints]
   refine⟨xG a i-(s+1),om,s+1,_,aB rfl,om,λ_=>f,by rw[el];exact p6.own (by rw[aP,aQ];simp) rfl om,J6,a3,om,rfl⟩
 clear r w x
 rintro o G ⟨p,c,⟨g,rfl⟩,y,hc,r,w,x⟩
 have N:=cY.lens y (n:=c.length) (by rw[aP,aQ])
 rcases hc with ⟨f,rfl⟩|⟨f,rfl⟩
 ·have d2:decide ((0:Int)<((GK a i).length:Int))=true:=bP (by rw[Ca];omega)
  have u:=aaU (a:=a) (n:=n) (i+1) om
  have W:=(Fq l).1 f
  rw[W] at u
  have hg:(vU a n).getD (GW a n i).length []=GK a i:=by rw[QA u (by simp)];exact kG
  have B:=u.length_le
  rw[jZ] at B
  simp(disch:=omega)only[go_sem,N,d2]
  refine (hy _ G p (by simp at B;omega) r (by rw[hg];exact y.sv) om).mono ?_
  rintro _ h4 ⟨rfl,J4,f4⟩
  simp(disch:=omega)only[go_sem]
  rw[eJ i]
  refine⟨n-(i+1),om,i+1,aB rfl,om,by rw[W,jZ];exact J4,by rw[f4.get S x (λh=>by have:S<F:=h;omega)];exact w,iW x f4.next,rfl⟩
 ·have d2:decide ((0:Int)<((0:Nat):Int))=false:=rfl
  simp(disch:=omega)only[go_sem,N,d2]
  rw[eJ i]
  exact⟨n-(i+1),om,i+1,aB rfl,om,by rw[(Fq l).2 f];exact r,w,x,rfl⟩
end
theorem Aq (u:V)(ws:List V)(n:Nat)(h:H)(P:1<=n)(Q:n<=64)(U:ws.length<1000000)(F:SV h u 1 ws)(y: ∀i,i<ws.length-> ∃a,bE n a/\SI h (ws.getD i .undef) (zi a)):Ev T 158 [u] h (λv h'=>v= aC 0/\Fr h h'):=by
 refine cV Gz rfl ?_;have G:bT u=some (aC (ws.length:Int)):=by unfold bT;rw[SV.len F (n:=ws.length) om om];rfl
 obtain⟨id,c,z,p,x⟩:=SV.shape F ws.length om om;have o: ∀i:Nat,i<ws.length->h.cell id (c+i)=some (ws.getD i .undef):=λi hi=>by rw[x i om];simp [List.getD,hi]
 simp(disch:=omega)only[go_sem,Gz,aD,G];refine bJ (λq m=>(∃g:Nat->V,q= [u,aC 0,g 2,g 3,g 4,g 5,g 6,g 7,g 8,g 9,g 10,g 11,g 12,g 13,g 14])/\Fr h m) ?_ ?_
 ·refine aH (λt q m=> ∃(i:Nat),(∃g:Nat->V,q= [u,aC 0,g 2,g 3,g 4,u,aC (ws.length:Int),aC i,g 8,g 9,g 10,g 11,g 12,g 13,g 14])/\i<=ws.length/\Fr h m/\t=ws.length-i) ws.length
   ⟨0,aB rfl,iJ _,Fr.refl h,rfl⟩ ?_
  rintro t d r ⟨i,⟨g,rfl⟩,hi,f,rfl⟩
  by_cases b:(i:Int)<(ws.length:Int)
  ·have k:=bP b
   have l:i<ws.length:=om
   have ci:r.cell id (c+i)=some (ws.getD i .undef):=by rw[f.cell (p om),o i om]
   obtain⟨a,X,s⟩:=y i l;generalize ws.getD i .undef=J at ci s;simp(disch:=omega)only[go_sem,k,z.ixa,ci];refine (aiM J _ r (by rw[aQ,X.len];omega) (s.mono f)).mono ?_;rw[EE X om om];rintro _ L ⟨rfl,N⟩;simp(disch:=omega)only[go_sem];refine aW (λo=>(o rfl).elim) (λ_=>?_);simp(disch:=omega)only[go_sem];rw[eJ i];exact⟨ws.length-(i+1),om,i+1,aB rfl,om,f.trans N,rfl⟩
  ·have k:=bH b
   simp(disch:=omega)only[go_sem,k];exact⟨aB rfl,f⟩
 rintro d r ⟨⟨g,rfl⟩,f⟩;simp(disch:=omega)only[go_sem,G];refine bJ (λq m=>(∃g:Nat->V,q= [u,aC 0,g 2,g 3,g 4,g 5,g 6,g 7,g 8,g 9,g 10,g 11,g 12,g 13,g 14])/\Fr h m) ?_ ?_
 ·refine aH (λt q m=> ∃(i:Nat),(∃g:Nat->V,q= [u,aC 0,g 2,g 3,g 4,g 5,g 6,g 7,g 8,g 9,u,aC (ws.length:Int),aC i,g 13,g 14])/\i<=ws.length/\Fr h m/\t=ws.length-i) ws.length
   ⟨0,aB rfl,iJ _,f,rfl⟩ ?_
  clear f;rintro t d r ⟨i,⟨g,rfl⟩,hi,f,rfl⟩
  by_cases b:(i:Int)<(ws.length:Int)
  ·have k:=bP b
   have l:i<ws.length:=om
   have ci:r.cell id (c+i)=some (ws.getD i .undef):=by rw[f.cell (p om),o i om]
   have A:r.cell id (c+0)=some (ws.getD 0 .undef):=by rw[f.cell (p om),o 0 om]
   obtain⟨a,X,s⟩:=y i l;obtain⟨W,O,w⟩:=y 0 om;generalize ws.getD i .undef=J at ci s;generalize ws.getD 0 .undef=R at A w;have K:=s.lens;have B:=w.lens;rw[aQ,X.len] at K;rw[aQ,O.len] at B;have j:Dz 1 u (aC 0)=some (.ptr id (c+0)):=z.ixa .i64 0 om om;rw[Nat.add_zero] at j A;simp(disch:=omega)only[go_sem,k,z.ixa,ci,j,A,K,B];refine aW (λo=>(o rfl).elim) (λ_=>?_);simp(disch:=omega)only[go_sem];rw[eJ i];exact⟨ws.length-(i+1),om,i+1,aB rfl,om,f,rfl⟩
  ·have k:=bH b
   simp(disch:=omega)only[go_sem,k];exact⟨aB rfl,f⟩
 rintro d L ⟨⟨g,rfl⟩,f⟩;simp(disch:=omega)only[go_sem];exact f
theorem Gy (l:List Nat)(k:Nat):Ea (l.take k)∣Ea l:=(Hb _ _).2 λc a=>(Hb l _).1 (Nat.dvd_refl _) c (List.mem_of_mem_take a)
theorem Qc (l:List Nat)(k:Nat)(a:k<l.length):Ea (l.take (k+1))=Ea (l.take k)/Nat.gcd (Ea (l.take k)) (l.getD k 0)*l.getD k 0:=by
 unfold Ea;rw[cE 0 a,List.foldl_append];rfl
theorem Sw {n:Nat}(a:n<=7):n^n<=823543:=by
 have: ∀m,m<8->m^m<=823543:=by decide
 exact this n om
structure OrJ (h:H)(A b id2:Nat)(va:V)(a:List Nat)(r:eH)(m:Nat)(hh:H):Prop where
 gr:hh.get id2=some (.loop r)
 gA:hh.get A=aZ [aC m]
 gb:hh.get b=aZ [va]
 si:SI hh va (zi a)
 nx:id2<hh.next
 fr:Fr h hh
theorem MV (a:V)(h:H)(c:a.cells= [a])(i:a.one=true):Ev T 225 [a] h (λv h'=> ∃b,v= .fn 246 [] [.ptr b 0]/\b=h.next/\h'.get b=aZ [a]/\h'.next=h.next+1/\Fr h h'):=by
 refine cV Dg rfl ?_;obtain⟨l,j,f,d,m,k⟩:=dF (h:=h) rfl [a];simp(disch:=omega)only[go_sem,Dg,aD,mF c i h,j];exact⟨h.next,rfl,rfl,d,f,k⟩
theorem SH (x:V)(n:Nat)(a:List Nat)(h:H)(a5:1<=n)(hn:n<=7)(A:bE n a)(P:SI h x (zi a)):
  Ev T 185 [x] h (λv h'=>v= .tup [aC (qF a n:Nat),aC 0]/\Fr h h'):=by
 refine cV Hd rfl ?_
 obtain⟨S,hS⟩:=exI h.next
 obtain⟨h1,e1,n1,g1,o1,f1⟩:=dF hS [x]
 have on:=(SV.cK P).2.1
 simp(disch:=omega)only[go_sem,Hd,aD,cT h (z:= .aE) (v:=x) (SV.cK P).1 on,hS,e1]
 have b7: ∀i,i< [x].length-> ∃a,bE n a/\SI h1 ([x].getD i .undef) (zi a):=λi hi=>by
  obtain rfl:i=0:=by simp at hi;omega
  exact⟨a,A,P.mono f1⟩
 refine (Aq (.sl S 0 1 (.kn 1)) [x] n h1 a5 om (by simp) (SV.one om g1 _) b7).mono ?_
 rintro _ h2 ⟨rfl,f2⟩
 simp(disch:=omega)only[go_sem]
 refine aW (λhc=>(hc rfl).elim) (λ_=>?_)
 obtain⟨B,hB⟩:=exI h2.next
 obtain⟨h3,e3,n3,g3,o3,f3⟩:=dF hB [aC 0]
 obtain⟨h4,e4,n4,g4,o4⟩:=pJ h3 B [aC 1]
 have b3: ∀(u:H) (y:V),dX (aZ [aC 0]) u B 0 [y]=some (u.set B (aZ [y])):=λu y=>bN (by simp) u _ _
 simp(disch:=omega)only[go_sem,hB,e3,g3,b3,e4]
 refine (MV x h4 (SV.cK P).1 on).mono ?_
 rintro _ h5 ⟨b,rfl,hb,g5,n5,f5⟩
 simp(disch:=omega)only[go_sem]
 refine⟨rfl,uJ λr U=>?_⟩
 obtain⟨o,Z⟩:=exI h5.next
 rw[Z]
 have iP:r.st= .ready:=by rw[U]
 have a4:r.pend=none:=by rw[U]
 obtain⟨O,N⟩: ∃O,O=h5.new (.loop r):=⟨_,rfl⟩
 have c1:O.get o=some (.loop r):=by rw[N,←Z,H.aL]
 have n6:O.next=o+1:=by rw[N,H.aU,Z]
 have f6:Fr h5 O:=by rw[N];exact (Fr.refl h5).new _
 rw[←N]
 have F2:=f1.trans f2
 have F3:=F2.trans f3
 have hs:=F2.next
 have F4:Fr h h4:=⟨by rw[n4];exact F3.next,λq t=>by rw[o4 q om];exact F3.get q t⟩
 have F6:=(F4.trans f5).trans f6
 have c2:o=b+1:=om
 have b5:O.get B=aZ [aC 1]:=by rw[f6.get _ om,f5.get _ om];exact g4
 have a9:O.get b=aZ [x]:=by rw[f6.get _ om];exact g5
 have J0:OrJ h B b o x a r (Ea (((vU a n).map List.length).take 0)) O:=⟨c1,b5,a9,P.mono F6,om,F6⟩
 refine (BM o b x n a O a5 om A (o+1) om om a9 om (P.mono F6) (λk u=>OrJ h B b o x a r (Ea (((vU a n).map List.length).take k)) u) J0
  (λk u h' j hx t=>⟨by rw[t _ om];exact j.gr,by rw[t _ om];exact j.gA,by rw[t _ om];exact j.gb,P.mono ⟨mT j.fr.next hx,λq W=>by rw[t _ om];exact j.fr.get q W⟩,iW j.nx hx,⟨mT j.fr.next hx,λq W=>by rw[t _ om];exact j.fr.get q W⟩⟩)
  (λk u j=>⟨j.gb,j.si⟩) ?_).mono ?_
 ·intro k u v hk j a6 c4
  obtain⟨m,hm⟩:=exI (Ea (((vU a n).map List.length).take k))
  obtain⟨c,R⟩:=exI ((vU a n).getD k [])
  have b0:((vU a n).map List.length).getD k 0=c.length:=by rw[nP _ (d:= []) hk,R]
  have b9:k<((vU a n).map List.length).length:=by rw[jV];exact hk
  have J:=Qc ((vU a n).map List.length) k b9
  rw[hm,b0] at J
  have hp:=Ya A
  have a0:=mT (EG A) (Sw hn)
  have c3:m<=823543:=mT (by rw[←hm];exact Nat.le_of_dvd hp (Gy _ k)) a0
  have a3:Ea (((vU a n).map List.length).take (k+1))<=823543:=mT (Nat.le_of_dvd hp (Gy _ (k+1))) a0
  have c6:1<=c.length/\c.length<=7:=by
   have:=bD (l:=vU a n) (d:= []) hk;rw[R] at this;obtain⟨i,hi,rfl⟩:=uF.1 this;have a1:i<n:=by unfold Qh at hi;exact Gu.1 (CH.1 hi).1
   rw[Ca];have:=(pD A a1).1;have:=BA A a1;omega
  rw[R] at a6
  have lv:=a6.lens
  rw[aQ] at lv
  rw[hm] at j
  refine sZ j.gr (by rw[U];rfl) iP λL g9 n9 o9=>?_
  rw[congrArg eH.assign U,congrArg eH.vars U,congrArg eH.pars U]
  simp(disch:=omega)only[go_sem,List.zip_cons_cons,List.zip_nil_left]
  rw[congrArg eH.body U]
  have nx:=j.nx
  have a2:L.get B=aZ [aC m]:=by rw[o9 _ om];exact j.gA
  simp(disch:=omega)only[go_sem,H.aF a2,lv]
  refine (adG Ei.ok m c.length _ om om).mono ?_
  rintro _ f ⟨rfl,a8⟩
  have b8:L.next+10<=f.next:=a8.next
  have p: ∀q,q<L.next->f.get q=L.get q:=λq t=>a8.get q (by show q<L.next+10;omega)
  have w:f.get B=aZ [aC m]:=by rw[p _ om];exact a2
  obtain⟨G,hG⟩:=exI (Nat.gcd m c.length)
  rw[hG] at J
  rw[hG]
  have c5:0<G:=by rw[←hG];exact Nat.gcd_pos_of_pos_right _ om
  have b6:(G:Int)≠0:=om
  have a7:(m:Int).tdiv (G:Int)=((m/G:Nat):Int):=by rw[Int.tdiv_eq_ediv_of_nonneg om];rfl
  have b4:m/G<=m:=Nat.div_le_self _ _
  have Q:((m/G:Nat):Int)*(c.length:Int)=((Ea (((vU a n).map List.length).take (k+1)):Nat):Int):=by rw[J,Int.natCast_mul]
  generalize Ea (((vU a n).map List.length).take (k+1))=m2 at Q a3 J
  generalize m/G=q at a7 b4 Q J
  have pt: ∀(u:H) (y:V),dX (aZ [aC m]) u B 0 [y]=some (u.set B (aZ [y])):=λu y=>bN (by simp) u _ _
  simp(disch:=omega)only[go_sem,b6,a7,Q,lv,H.aF w,w,pt]
  refine oX iP a4 (by rw[H.aG _ om];rw[p _ om];exact g9) ?_
  obtain⟨F,s⟩: ∃F,F=(f.set B (aZ [aC m2])).set o (some (.loop r)):=⟨_,rfl⟩
  rw[←s]
  have c7:F.next=f.next:=by rw[s];rfl
  have Y: ∀q,q≠B->q≠o->F.get q=f.get q:=λq h1 h2=>by rw[s,H.aG _ h2,H.aG _ h1]
  have c0:=j.fr.next
  have b1:Fr h F:=⟨om,λq t=>by rw[Y q om om,p q om,o9 q om];exact j.fr.get q t⟩
  exact⟨rfl,⟨by rw[s,H.aS],by rw[s,H.aG _ om,H.aS],by rw[Y b om om,p b om,o9 b om];exact j.gb,P.mono b1,om,b1⟩,⟨om,λq h1 h2=>by rw[Y q (λe=>h2 om) (λe=>h2 om),p q om,o9 q (λe=>h2 om)]⟩⟩
 ·rintro _ L j
  rw[show (vU a n).length=((vU a n).map List.length).length from (jV _).symm,List.take_length] at j
  have a3:qF a n<=823543:=mT (EG A) (Sw hn)
  have j':OrJ h B b o x a r (qF a n) L:=j
  refine⟨r,j'.gr,by rw[iP];simp,?_⟩
  have en:r.pend.getD .norm= .norm:=by rw[a4];rfl
  rw[en]
  obtain⟨f,K⟩: ∃f,f=L.set o (some (.loop {r with st:= .out})):=⟨_,rfl⟩
  have p: ∀q,q≠o->f.get q=L.get q:=λq t=>by rw[K,H.aG _ t]
  have b8:f.next=L.next:=by rw[K];rfl
  have w:f.get B=aZ [aC (qF a n:Nat)]:=by rw[p _ om];exact j'.gA
  have c0:=j'.fr.next
  have b2:Fr h f:=⟨om,λq t=>by rw[p q om];exact j'.fr.get q t⟩
  rw[←K]
  simp(disch:=omega)only[go_sem,H.aF w]
  exact b2
theorem Qp (h:H)(n:Nat)(a:n<=100000):Jo h 1 1 [.int .u8 0] (aC n) (aC n)=some (.sl h.next 0 n (.kn n),h.new (.cells false (rc n λ_=> .int .u8 0))):=by
 rw[tU om (Int.le_refl _) om om,NK,uW]
 have e:cX [V.int .u8 0] n=rc n λ_=> .int .u8 0:=by
  symm;refine Kq ?_ λi hi=>?_
  ·simp [cX]
  ·simp [cX,hi,Nat.mod_one]
 rw[e]
theorem Ee: ∀l:List Nat,(∀x∈l,x<256)->qH (l.map λ(x:Nat)=>V.int .u8 (x:Int))=some l
 | [],_=>rfl
 |x::r,h=>by
  have b:=h x (by simp);show (if 0<=(x:Int)/\(x:Int)<256 then (qH (r.map λ(x:Nat)=>V.int .u8 (x:Int))).map ((x:Int).toNat:: ·) else none)=_;rw[bF ⟨om,om⟩,Ee r λy a=>h y (by simp [a])]
  rfl
theorem FV (u:V)(a:List Nat)(h:H)(W:a.length<=1000)(G: ∀x∈a,x<256)(y:SI h u (zi a)):
  Ev T 182 [u] h (λv h'=>v= .str a/\Fr h h'):=by
 refine cV oY rfl ?_
 obtain⟨n,s⟩:=exI a.length
 have B:=y.lens
 rw[aQ,s] at B
 obtain⟨id,off,P,o,L⟩:=y.open
 rw[aQ,s] at P o L
 simp(disch:=omega)only[go_sem,oY,aD,B,Qp h n om]
 have m:Fr h (h.new (.cells false (rc n λ_=> .int .u8 0))):=(Fr.refl h).new _
 have d:(h.new (.cells false (rc n λ_=> .int .u8 0))).get h.next=some (.cells false (rc n λ_=> .int .u8 0)):=H.aL ..
 have f:(h.new (.cells false (rc n λ_=> .int .u8 0))).next=h.next+1:=H.aU ..
 generalize h.new (.cells false (rc n λ_=> .int .u8 0))=U at*
 obtain⟨S,N⟩:=exI h.next
 rw[N] at d f
 rw[N]
 refine aH (λA b t=> ∃(i:Nat),(∃j:Nat->V,b= [u,j 1,.sl S 0 n (.kn n),j 3,j 4,u,aC n,aC i,j 8])/\i<=n/\
   t.get S=some (.cells false (rc n λj=>if j<i then .int .u8 ((a.getD j 0:Nat):Int) else .int .u8 0))/\t.next=S+1/\Fr h t/\A=n-i) n
  ⟨0,aB rfl,iJ _,by rw[d];rfl,f,m,rfl⟩ ?_
 clear d m f
 rintro A b p ⟨i,⟨Y,rfl⟩,hi,K,R,F,rfl⟩
 simp(disch:=omega)only[go_sem]
 by_cases l:(i:Int)<(n:Int)
 ·rw[bP l]
  have c:i<n:=om
  have ci:p.cell id (off+i)=some (aC (a.getD i 0:Nat)):=by rw[F.cell (o om),L i c];congr 2;simp [zi,s,c]
  have r:=G (a.getD i 0) (bD om)
  generalize Q:a.getD i 0=k at ci r
  have J:=bN (vs:=rc n λj=>if j<i then .int .u8 ((a.getD j 0:Nat):Int) else .int .u8 0) (off:=i) (by rw[kH];exact c) p S (.int .u8 (k:Int))
  rw[mS] at J
  simp(disch:=omega)only[go_sem,P.ixa,ci,K,yH,J]
  rw[eJ i]
  refine⟨n-(i+1),om,i+1,aB rfl,om,?_,R,F.set om _,rfl⟩
  congr 2
  refine dB λj z=>?_
  by_cases e:j=i
  ·rw[bF e,bF om,e,Q]
  ·rw[bI e]
   by_cases O:j<i
   ·rw[bF O,bF om]
   ·rw[bI O,bI om]
 rw[bH l]
 obtain rfl:i=n:=om
 have q:p.row S 0 i=some (a.map λ(x:Nat)=>V.int .u8 (x:Int)):=by
  have e:(rc i λj=>if j<i then V.int .u8 ((a.getD j 0:Nat):Int) else .int .u8 0)=a.map λ(x:Nat)=>V.int .u8 (x:Int):=Kq (by rw[jV,s]) λj z=>by
   rw[bF z,Ol,dD om,List.getD,dD om];rfl
  unfold H.row;rw[K,e];simp only[sub];rw[bF (by rw[jV];omega)];rw[List.drop_zero,Tn (by rw[jV];omega)]
 have w:JA p (.sl S 0 i (.kn i))=some (.str a):=by
  show (match p.row S 0 i with|some ys=>(qH ys).map V.str|none=>none)=_;rw[q];show (qH (a.map λ(x:Nat)=>V.int .u8 (x:Int))).map V.str=_;rw[Ee a G];rfl
 simp(disch:=omega)only[go_sem,GH,w]
 exact F
section
variable {y x g:List Nat}
section
variable {n:Nat} {G:List Nat->Prop} {O:LN} {R:jI}
theorem one_le (Y:bE n y):Le (bL n) y:=by
 by_cases h: ∃k,k<n/\y.getD k 0≠k
 ·obtain⟨k,⟨b,r⟩,c⟩: ∃k,(k<n/\y.getD k 0≠k)/\ ∀j,j<k-> ¬(j<n/\y.getD j 0≠j):=by
   obtain⟨k,b⟩:=h
   induction k using Nat.strongRecOn with
   |_ k ih=>
    by_cases l: ∃j,j<k/\(j<n/\y.getD j 0≠j)
    ·obtain⟨j,m,o⟩:=l;exact ih j m o
    ·exact⟨k,b,λj d q=>l ⟨j,d,q⟩⟩
  have a: ∀j,j<k->y.getD j 0=j:=λj d=>Jg λi=>c j d ⟨om,i⟩
  refine .inr ⟨k,by rw[jG];exact b,λj d=>by rw[fQ om,a j d],?_⟩;rw[fQ b];refine Jg λp=>?_
  have f:y.getD k 0<k:=om
  have:=Y.inj om b (a _ f);omega
 ·exact .inl ((Fix.all Y λk b=>Jg λi=>h ⟨k,b,i⟩).symm)
theorem KS (f:iX n G)(c:bC n G O R){i:Nat}(hi:i<n):0<(R.getD i []).length/\(R.getD i []).getD 0 []=bL n:=by
 have o:i∈O.getD i []:=(c.mem i hi i).2 ⟨bL n,f.one,Fix.one n i om,fQ hi⟩;have d:0<(O.getD i []).length:=HJ o;have b:=c.rep i hi 0 d
 have s:(O.getD i []).getD 0 0=i:=by
  have a:(O.getD i []).getD 0 0∈O.getD i []:=bD d;obtain⟨x,p,fx,e⟩:=(c.mem i hi _).1 a
  have t: ¬(O.getD i []).getD 0 0<i:=λh=>by
   have X:=f.cU p;have:=X.inj (i:=(O.getD i []).getD 0 0) (j:=i) om hi (by rw[fx _ h,e]);omega
  obtain⟨k,q,u⟩:=zF.1 o;have m:=JX.1 (c.asc i hi);have v:(O.getD i []).getD 0 0=(O.getD i [])[0]:=Pm.cJ d
  by_cases l:k=0
  ·subst l;omega
  ·have:=m 0 k d q om
   omega
 rw[s] at b;refine⟨by rw[c.rl i hi];exact d,b.uniq ⟨f.one,Fix.one n i om,fQ hi,λy r _ _=>one_le (f.cU r)⟩⟩
theorem bV (c:bC n G O R)(a:x∈bQ R):G x:=by
 unfold bQ at a;obtain⟨r,d,b⟩:=List.mem_flatMap.1 a;exact Ji c x (List.mem_flatten.2 ⟨r,d,List.mem_of_mem_drop b⟩)
theorem nJ (a:iX n G)(c:bC n G O R)(p:G x):bX n (λg=>g∈bQ R) x:=by
 have h:=(Ti a c x).2 p;have q: ∀g,g∈bQ R->bE n g:=λg f=>a.cU (bV c f)
 clear p
 induction h with
 |one=>exact .one
 | @mul y g _ f ih=>
  obtain⟨r,l,t⟩:=List.mem_flatten.1 f;obtain⟨i,hi,u⟩:=zF.1 l;have b:i<n:=by have:=c.lr;omega
  have d:R.getD i []=r:=by rw[List.getD,dD hi,←u];rfl
  obtain⟨v,o⟩:=KS a c b;rw[d] at v o;obtain⟨k,s,m⟩:=zF.1 t
  by_cases j:k=0
  ·subst j
   have:g=bL n:=by rw[←o,List.getD,dD s,←m];rfl
   rw[this,bZ (ih.cU q)];exact ih
  ·refine ih.mul ?_
   unfold bQ;refine List.mem_flatMap.2 ⟨r,l,zF.2 ⟨k- 1,by rw[AQ];omega,?_⟩⟩;rw[List.getElem_drop];simp only[show 1+(k- 1)=k by omega,m]
def cW (x g:List Nat):List Nat:=aX (aX (dA g) x) g
theorem qG (X:bE n x)(g':bE n g):bE n (cW x g):=(g'.inv.mul X).mul g'
theorem mG (X:bE n x):cW x (bL n)=x:=by
 unfold cW;rw[oJ,cL X,bZ X]
theorem nX {k:List Nat}(X:bE n x)(A:bE n g)(B:bE n k):cW x (aX g k)=cW (cW x g) k:=by
 unfold cW;rw[Nr A B];have b:=A.inv;have a:=B.inv;rw[aV a b X,←aV (a.mul (b.mul X)) A B,←aV a (b.mul X) A|>.symm]
theorem MO (X:bE n x)(A:bE n g):cW (cW x g) (dA g)=x:=by
 rw[←nX X A A.inv,fC A,mG X]
def cj (G:List Nat->Prop)(x y:List Nat):Prop:= ∃g,G g/\cW x g=y
theorem XO (a:iX n G)(X:bE n x):cj G x x:=⟨bL n,a.one,mG X⟩
theorem XN (a:iX n G)(X:bE n x)(h:cj G x y):cj G y x:=by
 obtain⟨g,b,rfl⟩:=h;exact⟨dA g,a.inv b,MO X (a.cU b)⟩
theorem UT (a:iX n G){z:List Nat}(X:bE n x)(h:cj G x y)(h2:cj G y z):cj G x z:=by
 obtain⟨g,c,rfl⟩:=h;obtain⟨k,b,rfl⟩:=h2;exact⟨aX g k,a.mul c b,nX X (a.cU c) (a.cU b)⟩
theorem adZ {S:List Nat->Prop}(b: ∀g,S g->bE n g)(a: ∀x,G x->bX n S x){P:List Nat->Prop}(X:bE n x)(f:P x)(d: ∀y g,bE n y->P y->S g->P (cW y g))(h:cj G x y):P y:=by
 obtain⟨g,c,rfl⟩:=h;have:=a g c;clear c
 induction this with
 |one=>rw[mG X];exact f
 | @mul z k hz hk ih=>
  rw[nX X (hz.cU b) (b k hk)];exact d _ _ (qG X (hz.cU b)) ih hk
end
end
end Go.Proofs.YtcdbmkidaecdiaaGreat
namespace Go.Proofs.YtcdbmkidaecdiaaGreat.Cls
open Go Go.Ay Go.Sort
set_option maxRecDepth 100000
section
variable {h:H} {S N i j a:Nat}
def apK (ρ:Nat->Nat):dR->dR
 | .op i=> .op i
 | .call f xs=> .call (ρ f) xs
 | .callv x xs=> .callv x xs
 | .callp f xs=> .callp f xs
 | .calli f t x xs=> .calli f t x xs
def apF (ρ:Nat->Nat)(i:It):It:=⟨i.d,i.g,apK ρ i.a⟩
def apI (ρ:Nat->Nat)(i:AI):AI:=⟨i.i,apF ρ i.it,i.al,i.cks⟩
def aiT (ρ:Nat->Nat):C->C
 | .skip=> .skip
 | .reg l=> .reg (l.map (apF ρ))
 | .any k n l=> .any k n (l.map (apI ρ))
 | .regd l x xs=> .regd l x xs
 | .seq a b=> .seq (aiT ρ a) (aiT ρ b)
 | .ite x a b=> .ite x (aiT ρ a) (aiT ρ b)
 | .block i c=> .block i (aiT ρ c)
 | .loop c=> .loop (aiT ρ c)
 | .exit i=> .exit i
 | .ret=> .ret
 | .scope c=> .scope c
 | .range f p a b=> .range f p a b
 | .fail=> .fail
def apE (ρ:Nat->Nat)(f:Ay.Fn):Ay.Fn:=⟨f.nargs,f.init,f.results,aiT ρ f.body⟩
attribute [go_sem] apE aiT apI apF apK List.map_cons List.map_nil
def sK:List Nat:= [247,260,248,227,254,253,252,249,250,264,262,261,251,186]
class aN (α:Type)[Inhabited α] where
 lt:α->α->Bool
 enc:α->List V
 P:α->Prop
 B:H->Prop
 f:Nat
 b0:Nat
 S:Nat
 swo:SWO lt
 len: ∀a,(enc a).length=4
 one: ∀a,(enc a).all V.one=true
 eqv: ∀a,dE (.agg (enc a)) (.agg (enc a))=true
 cmp: ∀h a b,B h->P a->P b->Ev T f [.agg (enc a),.agg (enc b)] h (λv h'=> ∃z,v= aC z/\decide (z<0)=lt a b/\Fr h h')
 bfr: ∀h h',B h->Fr h h'->B h'
 bS: ∀h h',B h->Fx (· =S) h h'->B h'
 bR: ∀h h' R,B h->b0<=R->Fx (· =R) h h'->B h'
 bn: ∀h,B h->b0<=h.next
 ρ:Nat->Nat
 hT: ∀k,k∈sK->T (ρ k)=(T k).map (apE ρ)
 s1:ρ 128=128
 s2:ρ 212=212
 s3:ρ 213=213
@[go_sem] theorem apN {α:Type}[Inhabited α][O:aN α]:O.ρ 128=128:=O.s1
@[go_sem] theorem apO {α:Type}[Inhabited α][O:aN α]:O.ρ 212=212:=O.s2
@[go_sem] theorem apL {α:Type}[Inhabited α][O:aN α]:O.ρ 213=213:=O.s3
theorem aoX {α:Type}[Inhabited α][O:aN α]{k:Nat}{c:Ay.Fn}(h:T k=some c)(m:k∈sK):T (O.ρ k)=some (apE O.ρ c):=by
 rw[O.hT k m,h]
 rfl
def flat {α:Type}[Inhabited α][aN α](l:List α):List V:=l.flatMap aN.enc
structure fD {α:Type}[Inhabited α][O:aN α](h:H)(S N:Nat)(d:Array α):Prop where
 get:h.get S=aZ (flat d.toList)
 size:d.size=N
 lt:S<h.next
 eqS:S=O.S
 base:O.B h
 all: ∀i,i<d.size->O.P d[i]!
section
variable {α:Type} [Inhabited α] [O:aN α]
theorem tY: ∀l:List α,(flat l).length=l.length*4
 | []=>rfl
 |x::r=>by
  show (aN.enc x++flat r).length=_;rw[jZ,aN.len,tY r,List.length_cons];omega
theorem Ic: ∀(l:List α) (i:Nat),(flat l).drop (i*4)=flat (l.drop i)
 |l,0=>by simp
 | [],i+1=>by simp [flat]
 |x::r,i+1=>by
  show (aN.enc x++flat r).drop ((i+1)*4)=_;rw[List.drop_append,List.drop_eq_nil_of_le (by rw[aN.len];omega),aN.len,List.nil_append,show (i+1)*4- 4=i*4 by omega,Ic r i,List.drop_succ_cons]
theorem Sn: ∀(l:List α) (i:Nat),(flat l).take (i*4)=flat (l.take i)
 |l,0=>by simp [flat]
 | [],i+1=>by simp [flat]
 |x::r,i+1=>by
  show (aN.enc x++flat r).take ((i+1)*4)=_;rw[List.take_append,Tn (by rw[aN.len];omega),aN.len,show (i+1)*4- 4=i*4 by omega,Sn r i,List.take_succ_cons];rfl
theorem ZN (h:H)(id off:Nat)(a:α):Wj h 4 (.ptr id off) (.agg (aN.enc a))=dX (h.get id) h id off (aN.enc a):=Cd h id off 4 _ (aN.len a) (aN.one a)
theorem acP (a:α):dE (.agg (aN.enc a)) (.agg (aN.enc a))=true:=aN.eqv a
theorem fD.rd {d:Array α}(A:fD h S N d)(hi:i<N):h.row S (i*4) 4=some (aN.enc d[i]!):=by
 have b:i<d.size:=by rw[A.size];exact hi
 have c:i<d.toList.length:=by simpa using b
 unfold H.row;rw[A.get];simp only[sub];rw[bF (by rw[tY];omega),Ic,AR c];show some ((aN.enc d.toList[i]++flat _).take 4)=_;rw[List.take_append,Tn (by rw[aN.len];exact fM _),aN.len];simp [b]
theorem fD.fr {h':H}{d:Array α}(A:fD h S N d)(f:Fr h h'):fD h' S N d:=⟨by rw[f.get _ A.lt];exact A.get,A.size,iW A.lt f.next,A.eqS,O.bfr _ _ A.base f,A.all⟩
theorem bB {d:Array α}(hi:i<d.size)(b:H)(S:Nat)(x:α):dX (aZ (flat d.toList)) b S (i*4) (aN.enc x)=some (b.set S (aZ (flat (d.setIfInBounds i x).toList))):=by
 have c:i<d.toList.length:=by simpa using hi
 have e:(flat d.toList).take (i*4)++aN.enc x++(flat d.toList).drop (i*4+4)=flat (d.setIfInBounds i x).toList:=by
  rw[Array.toList_setIfInBounds,List.set_eq_take_append_cons_drop,bF c,Sn,show i*4+4=(i+1)*4 by omega,Ic];simp [flat]
 simp only[dX,putAt,aN.len];rw[bF (by rw[tY];omega),e];rfl
theorem aY {d:Array α}{y:α}(hi:i<d.size)(b:H)(S:Nat)(x:α):dX (aZ (flat (d.setIfInBounds j y).toList)) b S (i*4) (aN.enc x)=some (b.set S (aZ (flat ((d.setIfInBounds j y).setIfInBounds i x).toList))):=
 bB (by simpa using hi) b S x
theorem fD.swap {h2:H}{d:Array α}(A:fD h S N d){nx:Nat}(f:h.next<=nx)(e:h2=((H.mk h.tr nx).set S (aZ (flat (d.setIfInBounds i d[j]!).toList))).set S (aZ (flat ((d.setIfInBounds i d[j]!).setIfInBounds j d[i]!).toList)))(hi:i<N:=by omega)(q:j<N:=by omega):fD h2 S N (swp d i j)/\Fx (· =S) h h2:=by
 subst e
 have fx:Fx (· =S) h (((H.mk h.tr nx).set S (aZ (flat (d.setIfInBounds i d[j]!).toList))).set S (aZ (flat ((d.setIfInBounds i d[j]!).setIfInBounds j d[i]!).toList))):=⟨f,λid _ l=>by rw[H.aG _ l,H.aG _ l];rfl⟩
 have sz:=A.size;refine⟨⟨?_,?_,iW A.lt f,A.eqS,O.bS _ _ A.base (by have:=A.eqS;subst this;exact fx),?_⟩,fx⟩
 ·rw[H.aS];rfl
 ·simp [swp,sz]
 ·intro k p
  have b:k<d.size:=by simpa [swp] using p
  unfold swp
  have c: ∀(x:Array α) (u:Nat) (y:α),k<x.size->(x.setIfInBounds u y)[k]! =if u=k then y else x[k]! :=λx u y n=>by
   rw[getElem!_pos (x.setIfInBounds u y) k (by simpa using n),getElem!_pos x k n,Array.getElem_setIfInBounds]
  rw[c _ _ _ (by simpa using b),c _ _ _ b]
  by_cases m:j=k
  ·rw[bF m];exact A.all i om
  ·rw[bI m]
   by_cases o:i=k
   ·rw[bF o];exact A.all j om
   ·rw[bI o];exact A.all k b
theorem dG {d:Array α}(A:fD h S N d)(hi:i<N)(c:j<N)(nx:Nat)(b:h.next<=nx):Ev T (aN.f α) [.agg (aN.enc d[i]!),.agg (aN.enc d[j]!)] (H.mk h.tr nx) (λv h'=> ∃z,v= aC z/\decide (z<0)=aN.lt d[i]! d[j]! /\Fr (H.mk h.tr nx) h'):=
 O.cmp _ _ _ (O.bfr _ _ A.base ((Fr.refl h).bA b)) (A.all i (by rw[A.size];exact hi)) (A.all j (by rw[A.size];exact c))
end
attribute [go_sem] ZN acP H.Ym
theorem dC {a b c:H}(x:Fx (· =S) a b)(y:Fx (· =S) b c):Fx (· =S) a c:=x.trans y λ_ _ h=>h
theorem Vb {α:Type}[Inhabited α]{lt:α->α->Bool}{d:Array α}(b:a<j+1)(h2:lt d[j+1]! d[j]! =true):insInner lt a (j+1) d=insInner lt a j (swp d (j+1) j):=by
 rw[insInner,bF (by simp [b,h2])]
theorem Ud {α:Type}[Inhabited α]{lt:α->α->Bool}{d:Array α}(h2:lt d[j+1]! d[j]! =false):insInner lt a (j+1) d=d:=by
 rw[insInner,bI (by simp [h2])]
theorem Uf {α:Type}[Inhabited α]{lt:α->α->Bool}{d:Array α}(h:j<=a):insInner lt a j d=d:=by
 cases j with
 |zero=>rfl
 |succ j=>rw[insInner,bI (by simp;omega)]
theorem oW {α:Type}[Inhabited α][O:aN α](h:H)(S N a b:Nat)(d:Array α)(x:Kh)(hN:N<1000000)(A:fD h S N d)(hb:b<=N)(Z:a<=b):
  Ev T (aN.ρ α 247) [.sl S 0 N x,aC a,aC b,.fn (aN.f α) [] []] h (λ_ h'=>fD h' S N (insertionSort aN.lt d a b)/\Fx (· =S) h h'):=by
 refine Ko (aoX (α:=α) fK.ok (by decide)) rfl ?_
 simp(disch:=omega)only[go_sem,fK,aD]
 rw[eJ a]
 refine aH (λt c u=> ∃(i:Nat) (e:Array α),(∃g:Nat->V,c= [.sl S 0 N x,aC a,aC b,.fn (aN.f α) [] [],aC i,g 5,g 6,g 7])/\a<i/\i<=b+1/\fD u S N e/\insOuter aN.lt a b i e=insertionSort aN.lt d a b/\Fx (· =S) h u/\t=b+1-i) (b+1-(a+1))
  ⟨a+1,d,aB rfl,om,om,A,rfl,Fx.refl _ h,rfl⟩ ?_
 clear A
 rintro t c h1 ⟨i,e,⟨g,rfl⟩,Y,L,A,n,F,rfl⟩
 simp(disch:=omega)only[go_sem]
 by_cases r:(i:Int)<(b:Int)
 case neg=>
  rw[bH r];simp(disch:=omega)only[go_sem];rw[insOuter,bI om] at n;rw[←n];exact⟨A,F⟩
 rw[bP r]
 rw[insOuter,bF om] at n
 simp(disch:=omega)only[go_sem]
 refine aH (λt c u=> ∃(j:Nat) (k:Array α),(∃g:Nat->V,c= [.sl S 0 N x,aC a,aC b,.fn (aN.f α) [] [],aC i,aC j,g 6,g 7])/\a<=j/\j<=i/\fD u S N k/\insInner aN.lt a j k=insInner aN.lt a i e/\Fx (· =S) h u/\t=j) i
  ⟨i,e,aB rfl,om,om,A,rfl,F,rfl⟩ ?_
 clear A F
 rintro t c o ⟨j,k,⟨g2,rfl⟩,K,R,A,p,F,hk⟩
 have sz:=A.size
 by_cases s:(a:Int)<(j:Int)
 ·obtain⟨m,rfl⟩: ∃m,j=m+1:=⟨j- 1,om⟩
  have c1:=A.rd (i:=m+1) om
  have P:=A.rd (i:=m) om
  have v:=bP s
  have J:((m+1:Nat):Int)- 1=(m:Int):=om
  simp(disch:=omega)only[go_sem,v,J,c1,P]
  refine (dG A (i:=m+1) (j:=m) om om _ om).mono ?_
  rintro _ B ⟨z,rfl,y,w⟩
  have l:Fr o B:=Fr.trans ((Fr.refl o).bA om) w
  have q:=A.fr l
  have Q:=q.rd (i:=m+1) om
  have U:=q.rd (i:=m) om
  cases hl:aN.lt k[m+1]! k[m]! with
  |false=>
   rw[Ud hl] at p;simp(disch:=omega)only[go_sem,y,hl];rw[eJ i];rw[←p] at n;exact⟨b+1-(i+1),om,i+1,k,aB rfl,om,om,q,n,dC F (Fx.of l),rfl⟩
  |true=>
   rw[Vb om hl] at p;simp(disch:=omega)only[go_sem,y,hl,J,Q,U,q.get,bB,aY];have W:=q.swap (i:=m+1) (j:=m) (nx:=B.next+18) om rfl;exact⟨m,om,m,_,aB rfl,om,om,W.1,p,dC (dC F (Fx.of l)) W.2,rfl⟩
 ·have v:=bH s
  rw[Uf om] at p
  simp(disch:=omega)only[go_sem,v]
  rw[eJ i]
  rw[←p] at n
  have G:Fr o (H.mk o.tr (o.next+17)):=(Fr.refl o).bA om
  exact⟨b+1-(i+1),om,i+1,k,aB rfl,om,om,A.fr G,n,dC F (Fx.of G),rfl⟩
end
def Wm {α:Type}[Inhabited α](lt:α->α->Bool)(hi first root:Nat)(d:Array α):Nat:=if 2*root+1+1<hi/\lt d[first+(2*root+1)]! d[first+(2*root+1)+1]! =true then 2*root+2 else 2*root+1
theorem xP {α:Type}[Inhabited α]{lt:α->α->Bool}(hi first a:Nat)(d:Array α):siftDown lt hi first a d=if 2*a+1≥hi then d else
  if lt d[first+a]! d[first+Wm lt hi first a d]! =true then siftDown lt hi first (Wm lt hi first a d) (swp d (first+a) (first+Wm lt hi first a d)) else d:=by
 rw[siftDown]
 unfold Wm
 by_cases b:2*a+1≥hi
 ·rw[dif_pos b,bF b]
 ·rw[dif_neg b,bI b]
  by_cases c:2*a+1+1<hi/\lt d[first+(2*a+1)]! d[first+(2*a+1)+1]! =true
  ·rw[bF (by simpa using c),bF c]
   cases h3:lt d[first+a]! d[first+(2*a+2)]!
   ·simp
   ·simp [show 2*a+2<hi by omega]
  ·rw[bI (by simpa using c),bI c]
   cases h3:lt d[first+a]! d[first+(2*a+1)]! <;>simp
theorem kA  {α:Type}[Inhabited α][O:aN α](h:H)(S N x hi first:Nat)(d:Array α)(cp:Kh)(hN:N<1000000)(A:fD h S N d)(hb:first+hi<=N)(a0:x<=hi):
  Ev T (aN.ρ α 260) [.sl S 0 N cp,aC x,aC hi,aC first,.fn (aN.f α) [] []] h (λ_ h'=>fD h' S N (siftDown aN.lt hi first x d)/\Fx (· =S) h h'):=by
 refine Ko (aoX (α:=α) gJ.ok (by decide)) rfl ?_
 simp(disch:=omega)only[go_sem,gJ,aD]
 refine aH (λk' t hh=> ∃(r:Nat) (e:Array α),(∃g:Nat->V,t= [.sl S 0 N cp,aC x,aC hi,aC first,.fn (aN.f α) [] [],aC r,g 6,g 7,g 8,g 9])/\r<=hi/\fD hh S N e/\siftDown aN.lt hi first r e=siftDown aN.lt hi first x d/\Fx (· =S) h hh/\k'=hi-r) (hi-x)
  ⟨x,d,aB rfl,a0,A,rfl,Fx.refl _ h,rfl⟩ ?_
 clear A
 rintro k' t q ⟨r,e,⟨g,rfl⟩,hr,A,a,F,rfl⟩
 have Z:2*(r:Int)+1=((2*r+1:Nat):Int):=om
 by_cases G:(hi:Int)<=((2*r+1:Nat):Int)
 ·have P:=bP G
  simp(disch:=omega)only[go_sem,Z,P]
  rw[xP,bF om] at a
  rw[←a]
  exact⟨A,F⟩
 have P:=bH G
 rw[xP,bI om] at a
 have R:((2*r+1:Nat):Int)+1=((2*r+2:Nat):Int):=om
 have c:(first:Int)+(r:Int)=((first+r:Nat):Int):=om
 have l:(first:Int)+((2*r+1:Nat):Int)=((first+(2*r+1):Nat):Int):=om
 have J:(first:Int)+((2*r+2:Nat):Int)=((first+(2*r+2):Nat):Int):=om
 have Y:((first+(2*r+1):Nat):Int)+1=((first+(2*r+1)+1:Nat):Int):=om
 have sz:=A.size
 by_cases L:((2*r+2:Nat):Int)<(hi:Int)
 ·have U:=bP L
  have p:=A.rd (i:=first+(2*r+1)) om
  have y:=A.rd (i:=first+(2*r+1)+1) om
  simp(disch:=omega)only[go_sem,Z,P,R,U,l,Y,p,y]
  refine (dG A (i:=first+(2*r+1)) (j:=first+(2*r+1)+1) om om _ om).mono ?_
  rintro _ K ⟨z,rfl,k,Q⟩
  have B:Fr q K:=Fr.trans ((Fr.refl q).bA om) Q
  have v:=A.fr B
  have o:=v.rd (i:=first+r) om
  have p:=v.rd (i:=first+(2*r+1)) om
  have y:=v.rd (i:=first+(2*r+2)) om
  cases hl:aN.lt e[first+(2*r+1)]! e[first+(2*r+1)+1]! with
  |false=>
   have m:Wm aN.lt hi first r e=2*r+1:=bI (by rw[hl];simp)
   rw[m] at a;simp(disch:=omega)only[go_sem,k,hl,c,l,o,p];refine (dG v (i:=first+r) (j:=first+(2*r+1)) om om _ om).mono ?_;rintro _ s ⟨z,rfl,k,n⟩;have u:Fr K s:=Fr.trans ((Fr.refl K).bA om) n;have b:=v.fr u;have o:=b.rd (i:=first+r) om;have p:=b.rd (i:=first+(2*r+1)) om;have w:=dC (dC F (Fx.of B)) (Fx.of u)
   cases hl2:aN.lt e[first+r]! e[first+(2*r+1)]! with
   |false=>
    rw[bI (by rw[hl2];simp)] at a;simp(disch:=omega)only[go_sem,k,hl2];rw[←a];exact⟨b,w⟩
   |true=>
    rw[bF hl2] at a;simp(disch:=omega)only[go_sem,k,hl2,c,l,o,p,b.get,bB,aY];have W:=b.swap (i:=first+r) (j:=first+(2*r+1)) (nx:=s.next+24) om rfl;exact⟨hi-(2*r+1),om,2*r+1,_,aB rfl,om,W.1,a,dC w W.2,rfl⟩
  |true=>
   have m:Wm aN.lt hi first r e=2*r+2:=bF ⟨om,hl⟩
   rw[m] at a;simp(disch:=omega)only[go_sem,k,hl,R,c,J,o,y];refine (dG v (i:=first+r) (j:=first+(2*r+2)) om om _ om).mono ?_;rintro _ s ⟨z,rfl,k,n⟩;have u:Fr K s:=Fr.trans ((Fr.refl K).bA om) n;have b:=v.fr u;have o:=b.rd (i:=first+r) om;have y:=b.rd (i:=first+(2*r+2)) om;have w:=dC (dC F (Fx.of B)) (Fx.of u)
   cases hl2:aN.lt e[first+r]! e[first+(2*r+2)]! with
   |false=>
    rw[bI (by rw[hl2];simp)] at a;simp(disch:=omega)only[go_sem,k,hl2];rw[←a];exact⟨b,w⟩
   |true=>
    rw[bF hl2] at a;simp(disch:=omega)only[go_sem,k,hl2,c,J,o,y,b.get,bB,aY];have W:=b.swap (i:=first+r) (j:=first+(2*r+2)) (nx:=s.next+24) om rfl;exact⟨hi-(2*r+2),om,2*r+2,_,aB rfl,om,W.1,a,dC w W.2,rfl⟩
 ·have U:=bH L
  have m:Wm aN.lt hi first r e=2*r+1:=bI om
  rw[m] at a
  have B:Fr q (H.mk q.tr (q.next+20)):=(Fr.refl q).bA om
  have v:=A.fr B
  have o:=A.rd (i:=first+r) om
  have p:=A.rd (i:=first+(2*r+1)) om
  simp(disch:=omega)only[go_sem,Z,P,R,U,c,l,o,p]
  refine (dG A (i:=first+r) (j:=first+(2*r+1)) om om _ om).mono ?_
  rintro _ s ⟨z,rfl,k,n⟩
  have u:Fr q s:=Fr.trans ((Fr.refl q).bA om) n
  have b:=A.fr u
  have o:=b.rd (i:=first+r) om
  have p:=b.rd (i:=first+(2*r+1)) om
  have w:=dC F (Fx.of u)
  cases hl2:aN.lt e[first+r]! e[first+(2*r+1)]! with
  |false=>
   rw[bI (by rw[hl2];simp)] at a;simp(disch:=omega)only[go_sem,k,hl2];rw[←a];exact⟨b,w⟩
  |true=>
   rw[bF hl2] at a;simp(disch:=omega)only[go_sem,k,hl2,c,l,o,p,b.get,bB,aY];have W:=b.swap (i:=first+r) (j:=first+(2*r+1)) (nx:=s.next+24) om rfl;exact⟨hi-(2*r+1),om,2*r+1,_,aB rfl,om,W.1,a,dC w W.2,rfl⟩
theorem qZ  {α:Type}[Inhabited α][O:aN α](h:H)(S N a b:Nat)(d:Array α)(u:Kh)(z:N<1000000)(A:fD h S N d)(hb:b<=N)(Y:a<=b):
  Ev T (aN.ρ α 248) [.sl S 0 N u,aC a,aC b,.fn (aN.f α) [] []] h (λ_ h'=>fD h' S N (heapSort aN.lt d a b)/\Fx (· =S) h h'):=by
 refine Ko (aoX (α:=α) gX.ok (by decide)) rfl ?_
 obtain⟨n,Q⟩:=exI (b-a)
 have Z:(b:Int)-(a:Int)=(n:Int):=om
 have U:((n:Int)- 1).tdiv 2=(((n- 1)/2+1:Nat):Int)- 1:=by
  by_cases P:n=0
  ·subst P;decide
  ·rw[Int.tdiv_eq_ediv_of_nonneg om];omega
 simp(disch:=omega)only[go_sem,gX,aD,Z,U]
 refine aH (λo c q=> ∃(k:Nat) (e:Array α),(∃g:Nat->V,c= [.sl S 0 N u,aC a,aC b,.fn (aN.f α) [] [],aC a,aC 0,aC n,aC ((k:Int)- 1),g 8,g 9,g 10])/\k<=n+1/\(k=1∨k<=n)/\fD q S N e/\heapBuild aN.lt n a k e=heapBuild aN.lt n a ((n- 1)/2+1) d/\Fx (· =S) h q/\o=k) ((n- 1)/2+1)
  ⟨(n- 1)/2+1,d,aB rfl,om,om,A,rfl,Fx.refl _ h,rfl⟩ ?_
 clear A
 rintro o c G ⟨k,e,⟨g,rfl⟩,s,x,A,w,F,y⟩
 subst y
 by_cases l:(0:Int)<=(o:Int)- 1
 ·have p:=bP l
  obtain⟨m,rfl⟩: ∃m,o=m+1:=⟨o- 1,om⟩
  have t:((m+1:Nat):Int)- 1=(m:Int):=om
  rw[t] at p
  rw[t]
  simp(disch:=omega)only[go_sem,p]
  refine (kA G S N m n a e u z A om om).mono ?_
  rintro _ B ⟨A2,F2⟩
  simp(disch:=omega)only[go_sem]
  exact⟨m,om,m,_,aB rfl,om,om,A2,w,dC F F2,rfl⟩
 have p:=bH l
 obtain rfl:o=0:=om
 have w:e=heapBuild aN.lt n a ((n- 1)/2+1) d:=w
 simp(disch:=omega)only[go_sem,p]
 refine aH (λo c q=> ∃(k:Nat) (r:Array α),(∃g:Nat->V,c= [.sl S 0 N u,aC a,aC b,.fn (aN.f α) [] [],aC a,aC 0,aC n,g 7,aC ((k:Int)- 1),g 9,g 10])/\k<=n/\fD q S N r/\heapPop aN.lt a k r=heapPop aN.lt a n e/\Fx (· =S) h q/\o=k) n
  ⟨n,e,aB rfl,om,A,rfl,F,rfl⟩ ?_
 clear A F l p s x
 rintro o c B ⟨k,r,⟨g,rfl⟩,s,A,v,F,y⟩
 subst y
 have sz:=A.size
 by_cases l:(0:Int)<=(o:Int)- 1
 ·have p:=bP l
  obtain⟨m,rfl⟩: ∃m,o=m+1:=⟨o- 1,om⟩
  have t:((m+1:Nat):Int)- 1=(m:Int):=om
  rw[t] at p
  rw[t]
  have R:(a:Int)+(m:Int)=((a+m:Nat):Int):=om
  have c1:=A.rd (i:=a+m) om
  have L:=A.rd (i:=a) om
  simp(disch:=omega)only[go_sem,p,R,c1,L,A.get,bB,aY]
  have W:=A.swap (i:=a) (j:=a+m) (nx:=B.next+20) om rfl
  have K:=kA _ S N 0 m a _ u z W.1 om om
  refine K.mono ?_
  rintro _ h3 ⟨J,F3⟩
  simp(disch:=omega)only[go_sem]
  exact⟨m,om,m,_,aB rfl,om,J,v,dC (dC F W.2) F3,rfl⟩
 have p:=bH l
 obtain rfl:o=0:=om
 simp(disch:=omega)only[go_sem,p]
 have v:r=heapPop aN.lt a n e:=v
 have:heapSort aN.lt d a b=r:=by unfold heapSort;rw[Q,v,w]
 rw[this]
 exact⟨A,F⟩
theorem fD.Uc  {α:Type}[Inhabited α][O:aN α]{h h':H}{S N R:Nat}{d:Array α}(A:fD h S N d)(f:Fx (· =R) h h')(b:R≠S)(a:aN.b0 α<=R):fD h' S N d:=⟨by rw[f.get S A.lt (λe=>b e.symm)];exact A.get,A.size,iW A.lt f.next,A.eqS,O.bR _ _ _ A.base a f,A.all⟩
theorem tZ  {α:Type}[Inhabited α][O:aN α](h:H)(S N a b:Nat)(d:Array α)(o:Kh)(w:N<1000000)(A:fD h S N d)(y:b<=N)(t:a<b):
  Ev T (aN.ρ α 251) [.sl S 0 N o,aC a,aC b,.fn (aN.f α) [] []] h (λ_ h'=>fD h' S N (reverseRange d a b)/\Fx (· =S) h h'):=by
 refine Ko (aoX (α:=α) fP.ok (by decide)) rfl ?_
 have v:(b:Int)- 1=((b- 1:Nat):Int):=om
 simp(disch:=omega)only[go_sem,fP,aD,v]
 refine aH (λc k p=> ∃(i j:Nat) (e:Array α),(∃g:Nat->V,k= [.sl S 0 N o,aC a,aC b,aC i,aC j,g 5])/\j<b/\i<=b/\fD p S N e/\reverseLoop i j e=reverseLoop a (b- 1) d/\Fx (· =S) h p/\c=j) (b- 1)
  ⟨a,b- 1,d,aB rfl,om,om,A,rfl,Fx.refl _ h,rfl⟩ ?_
 clear A
 rintro c k q ⟨i,j,e,⟨g,rfl⟩,x,hi,A,m,F,s⟩
 subst s
 have sz:=A.size
 rw[reverseLoop] at m
 by_cases l:(i:Int)<(c:Int)
 ·have n:=bP l
  rw[bF om] at m
  have u:=A.rd (i:=i) om
  have r:=A.rd (i:=c) om
  simp(disch:=omega)only[go_sem,n,u,r,A.get,bB,aY]
  have W:=A.swap (i:=i) (j:=c) (nx:=q.next+16) om rfl
  rw[show (i:Int)+1=((i+1:Nat):Int) from om,show (c:Int)- 1=((c- 1:Nat):Int) from om]
  exact⟨c- 1,om,i+1,c- 1,_,aB rfl,om,om,W.1,m,dC F W.2,rfl⟩
 have n:=bH l
 rw[bI om] at m
 simp(disch:=omega)only[go_sem,n]
 unfold reverseRange
 rw[←m]
 exact⟨A,F⟩
theorem Dh (n:Nat){k:Int}{m:Nat}(a:k=(m:Int)):(n:Int).tdiv k=((n/m:Nat):Int):=by
 rw[a,Int.tdiv_eq_ediv_of_nonneg om];rfl
theorem Ba  {α:Type}[Inhabited α][O:aN α](h:H)(S N a b:Nat)(d:Array α)(cp:Kh)(hN:N<60000)(A:fD h S N d)(hb:b<=N)(a4:a<=b):
  Ev T (aN.ρ α 249) [.sl S 0 N cp,aC a,aC b,.fn (aN.f α) [] []] h (λ_ h'=> ∃e,fD h' S N e/\PermIn a b d e/\Fx (· =S) h h'):=by
 refine Ko (aoX (α:=α) dI.ok (by decide)) rfl ?_
 obtain⟨n,hn⟩:=exI (b-a)
 have en:(b:Int)-(a:Int)=(n:Int):=om
 by_cases h8:(8:Int)<=(n:Int)
 case neg=>
  have U:=bH h8;simp(disch:=omega)only[go_sem,dI,aD,en,U];exact⟨d,A,permIn_refl d a b,Fx.refl _ h⟩
 have U:=bP h8
 have J:=Dh n (k:=4) (m:=4) rfl
 obtain⟨q,hq⟩:=exI (n/4)
 rw[hq] at J
 have ei:(a:Int)+(q:Int)*2- 1=((a+q*2- 1:Nat):Int):=om
 have ej:(a:Int)+(q:Int)*2+1=((a+q*2+1:Nat):Int):=om
 have hp:=two_pow_bitsLen_le (show 0<n by omega)
 have a1:=lt_two_pow_bitsLen n
 obtain⟨m,hm⟩:=exI (2^bitsLen n)
 rw[hm] at hp a1
 obtain⟨R,hR⟩:=exI h.next
 have Z:R≠S:=by have:=A.lt;omega
 have P:aN.b0 α<=R:=by have:=O.bn _ A.base;omega
 have a0: ∀c:H,dX (aZ [.int .u64 0]) c R 0 [.int .u64 (n:Int)]=some (c.set R (aZ [.int .u64 (n:Int)])):=λc=>bN (by simp) c R _
 have v:(h.new (.cells false [.int .u64 0])).get R=aZ [.int .u64 0]:=by rw[←hR,H.aL]
 simp(disch:=omega)only[go_sem,dI,aD,en,U,hR,dK (n:=(n:Int)) om om,v,a0]
 obtain⟨o,l⟩: ∃o,o=(h.new (.cells false [.int .u64 0])).set R (aZ [.int .u64 (n:Int)]):=⟨_,rfl⟩
 rw[←l]
 have g1:o.get R=aZ [.int .u64 (n:Int)]:=by rw[l,H.aS]
 have n1:o.next=R+1:=by rw[l,H.bY,H.aU,hR]
 have f1:Fr h o:=by rw[l];exact ((Fr.refl h).new _).set om _
 clear l
 refine (Wg n o om).mono ?_
 rintro _ a5 ⟨rfl,c⟩
 rw[c,hm]
 simp(disch:=omega)only[go_sem,J,ei]
 refine aH (λk' r c=> ∃(i:Nat) (e:Array α) (x:Int),(∃g:Nat->V,r= [.sl S 0 N cp,aC a,aC b,aC n,.ptr R 0,.int .u64 (m:Int),aC i,g 7,g 8,g 9,g 10])/\a<=i/\i<=a+q*2+2/\fD c S N e/\PermIn a b d e/\c.get R=aZ [.int .u64 x]/\R<c.next/\Fx (· =S) h c/\k'=a+q*2+2-i) (a+q*2+2-(a+q*2- 1))
  ⟨a+q*2- 1,d,_,aB rfl,om,om,A.fr f1,permIn_refl d a b,g1,om,Fx.of f1,rfl⟩ ?_
 clear A g1 n1 f1 c o
 rintro k' r o ⟨i,e,x,⟨g,rfl⟩,B,a2,A,L,gR,nR,F,rfl⟩
 by_cases u:(i:Int)<=((a+q*2+1:Nat):Int)
 case neg=>
  have Q:=bH u;simp(disch:=omega)only[go_sem,J,ej,Q];exact⟨e,A,L,F⟩
 have Q:=bP u
 simp(disch:=omega)only[go_sem,J,ej,Q]
 refine (Wd R x o gR nR).mono ?_
 rintro _ K ⟨y,rfl,G,F2⟩
 have p:=A.Uc F2 Z P
 obtain⟨w,hw,a3⟩:=Uo y (m- 1) om
 have em:(m:Int)- 1=((m- 1:Nat):Int):=om
 have sz:=p.size
 have z:Fx (· =S) h K:=⟨mT F.next F2.next,λid h3 h4=>(F2.get id (iW h3 F.next) (λe=>by have:id=R:=e;omega)).trans (F.get id h3 h4)⟩
 have t:R<K.next:=iW nR F2.next
 by_cases s:(n:Int)<=(w:Int)
 ·have Y:=bP s
  have e3:(w:Int)-(n:Int)=((w-n:Nat):Int):=om
  have e5:(a:Int)+((w-n:Nat):Int)=((a+(w-n):Nat):Int):=om
  have c1:=p.rd (i:=i) om
  have c2:=p.rd (i:=a+(w-n)) om
  simp(disch:=omega)only[go_sem,em,dK (n:=((m- 1:Nat):Int)) om om,hw,Y,e3,e5,c1,c2,p.get,bB,aY]
  have W:=p.swap (i:=i) (j:=a+(w-n)) (nx:=K.next+20) om rfl
  rw[eJ i]
  refine⟨a+q*2+2-(i+1),om,i+1,_,y,aB rfl,om,om,W.1,permIn_trans _ _ _ a b L (swp_permIn e a b i (a+(w-n)) B om om om om),?_,iW t W.2.next,dC z W.2,rfl⟩
  exact G
 ·have Y:=bH s
  have e5:(a:Int)+(w:Int)=((a+w:Nat):Int):=om
  have c1:=p.rd (i:=i) om
  have c2:=p.rd (i:=a+w) om
  simp(disch:=omega)only[go_sem,em,dK (n:=((m- 1:Nat):Int)) om om,hw,Y,e5,c1,c2,p.get,bB,aY]
  have W:=p.swap (i:=i) (j:=a+w) (nx:=K.next+20) om rfl
  rw[eJ i]
  refine⟨a+q*2+2-(i+1),om,i+1,_,y,aB rfl,om,om,W.1,permIn_trans _ _ _ a b L (swp_permIn e a b i (a+w) B om om om om),?_,iW t W.2.next,dC z W.2,rfl⟩
  exact G
structure Wn (h h':H)(R:Nat):Prop where
 get: ∃s,h'.get R=aZ [aC s]
 fx:Fx (· =R) h h'
theorem Wn.trans {a b c:H}{R:Nat}(x:Wn a b R)(y:Wn b c R):Wn a c R:=⟨y.get,x.fx.trans y.fx λ_ _ h=>h⟩
theorem jU  {α:Type}[Inhabited α][O:aN α](h:H)(S N a b R:Nat)(d:Array α)(u:Kh)(F:N<1000000)(A:fD h S N d)(B:a<N)(J:b<N)(G:R≠S)(m:R<h.next)(x:aN.b0 α<=R)(s:Int)(t:h.get R=aZ [aC s]):
  Ev T (aN.ρ α 264) [.sl S 0 N u,aC a,aC b,.ptr R 0,.fn (aN.f α) [] []] h (λv h'=>(v= .tup [aC a,aC b]∨v= .tup [aC b,aC a])/\Wn h h' R):=by
 refine Ko (aoX (α:=α) iD.ok (by decide)) rfl ?_
 have y:=A.rd (i:=a) om
 have r:=A.rd (i:=b) om
 simp(disch:=omega)only[go_sem,iD,aD,y,r]
 refine (dG A (i:=b) (j:=a) om om _ om).mono ?_
 rintro _ k ⟨z,rfl,p,n⟩
 have o:Fr h k:=Fr.trans ((Fr.refl h).bA om) n
 have c:k.get R=aZ [aC s]:=by rw[o.get R m];exact t
 cases hl:aN.lt d[b]! d[a]! with
 |false=>
  simp(disch:=omega)only[go_sem,p,hl];exact⟨.inl trivial,⟨s,c⟩,Fx.of o⟩
 |true=>
  have cR:k.cell R 0=some (aC s):=by rw[H.aF c];rfl
  have q: ∀(w:Int) (l:H),dX (aZ [aC s]) l R 0 [aC w]=some (l.set R (aZ [aC w])):=λw l=>bN (by simp) l R _
  simp(disch:=omega)only[go_sem,p,hl,cR,c,q];exact⟨.inr trivial,⟨_,by rw[H.aS]⟩,(Fx.of (W:=(· =R)) o).trans (Fx.set k (W:=(· =R)) rfl _) (λ_ _ h=>h)⟩
theorem oD  {α:Type}[Inhabited α][O:aN α](h:H)(S N a b c R:Nat)(d:Array α)(p:Kh)(B:N<1000000)(A:fD h S N d)(r:a<N)(z:b<N)(Q:c<N)(l:R≠S)(j:R<h.next)(i:aN.b0 α<=R)(s:Int)(gR:h.get R=aZ [aC s]):
  Ev T (aN.ρ α 262) [.sl S 0 N p,aC a,aC b,aC c,.ptr R 0,.fn (aN.f α) [] []] h (λv h'=>(∃m,v= aC (m:Nat)/\(m=a∨m=b∨m=c))/\Wn h h' R):=by
 refine Ko (aoX (α:=α) iF.ok (by decide)) rfl ?_
 simp(disch:=omega)only[go_sem,iF,aD]
 refine (jU h S N a b R d p B A r z l j i s gR).mono ?_
 rintro v1 Y ⟨t,n⟩
 obtain⟨U,o,rfl,u,k,L⟩: ∃x y,v1= .tup [aC (x:Nat),aC (y:Nat)]/\x<N/\y<N/\((x=a∨x=b)/\(y=a∨y=b)):=by
  rcases t with rfl|rfl
  ·exact⟨a,b,rfl,r,z,.inl rfl,.inr rfl⟩
  ·exact⟨b,a,rfl,z,r,.inr rfl,.inl rfl⟩
 have J:=A.Uc n.fx l i
 obtain⟨s1,g1⟩:=n.get
 have W:=iW j n.fx.next
 simp(disch:=omega)only[go_sem]
 refine (jU Y S N o c R d p B J k Q l W i s1 g1).mono ?_
 rintro v2 h2 ⟨F,q⟩
 obtain⟨P,y2,rfl,w,K⟩: ∃x y,v2= .tup [aC (x:Nat),aC (y:Nat)]/\x<N/\(x=o∨x=c):=by
  rcases F with rfl|rfl
  ·exact⟨o,c,rfl,k,.inl rfl⟩
  ·exact⟨c,o,rfl,Q,.inr rfl⟩
 have A2:=J.Uc q.fx l i
 obtain⟨Z,g2⟩:=q.get
 have n2:=iW W q.fx.next
 simp(disch:=omega)only[go_sem]
 refine (jU h2 S N U P R d p B A2 u w l n2 i Z g2).mono ?_
 rintro v3 h3 ⟨G,C3⟩
 have C:=(n.trans q).trans C3
 rcases G with rfl|rfl
 ·simp(disch:=omega)only[go_sem]
  exact⟨⟨P,rfl,om⟩,C⟩
 ·simp(disch:=omega)only[go_sem]
  exact⟨⟨U,rfl,om⟩,C⟩
theorem iT  {α:Type}[Inhabited α][O:aN α](h:H)(S N a R:Nat)(d:Array α)(i:Kh)(j:N<1000000)(A:fD h S N d)(r:0<a)(q:a+1<N)(o:R≠S)(b:R<h.next)(c:aN.b0 α<=R)(s:Int)(n:h.get R=aZ [aC s]):
  Ev T (aN.ρ α 261) [.sl S 0 N i,aC a,.ptr R 0,.fn (aN.f α) [] []] h (λv h'=>(∃m,v= aC (m:Nat)/\(m=a- 1∨m=a∨m=a+1))/\Wn h h' R):=by
 refine Ko (aoX (α:=α) fF.ok (by decide)) rfl ?_
 have l:(a:Int)- 1=((a- 1:Nat):Int):=om
 have p:(a:Int)+1=((a+1:Nat):Int):=om
 simp(disch:=omega)only[go_sem,fF,aD,l,p]
 refine (oD h S N (a- 1) a (a+1) R d i j A om om om o b c s n).mono ?_
 rintro _ t ⟨⟨m,rfl,k⟩,C⟩
 simp(disch:=omega)only[go_sem]
 exact⟨⟨m,rfl,k⟩,C⟩
theorem Ar  {α:Type}[Inhabited α][O:aN α](h:H)(S N a b:Nat)(d:Array α)(J:Kh)(Z:N<1000000)(A:fD h S N d)(hb:b<=N)(a1:a<b):
  Ev T (aN.ρ α 250) [.sl S 0 N J,aC a,aC b,.fn (aN.f α) [] []] h (λv h'=> ∃(p:Nat) (t:Int),v= .tup [aC p,aC t]/\a<=p/\p<b/\Fr h h'):=by
 refine Ko (aoX (α:=α) sH.ok (by decide)) rfl ?_
 obtain⟨n,hn⟩:=exI (b-a)
 have en:(b:Int)-(a:Int)=(n:Int):=om
 have W:=Dh n (k:=4) (m:=4) rfl
 obtain⟨q,hq⟩:=exI (n/4)
 rw[hq] at W
 have ei:(a:Int)+(q:Int)*1=((a+q:Nat):Int):=om
 have ej:(a:Int)+(q:Int)*2=((a+q*2:Nat):Int):=om
 have ek:(a:Int)+(q:Int)*3=((a+q*3:Nat):Int):=om
 obtain⟨R,L⟩:=exI h.next
 have l:R≠S:=by have:=A.lt;omega
 have c:aN.b0 α<=R:=by have:=O.bn _ A.base;omega
 obtain⟨s,r⟩: ∃s,s=h.new (.cells false [aC 0]):=⟨_,rfl⟩
 have g1:s.get R=aZ [aC 0]:=by rw[r,←L,H.aL]
 have n1:s.next=R+1:=by rw[r,H.aU,L]
 have f1:Fr h s:=by rw[r];exact (Fr.refl h).new _
 have A1:=A.fr f1
 have Q: ∀(p:Nat) (o:H),a<=p->p<b->Fx (· =R) s o->a<=p/\p<b/\Fr h o:=λp o x1 x2 x3=>⟨x1,x2,mT f1.next x3.next,λid a0=>(x3.get id om (λe=>by have:id=R:=e;omega)).trans (f1.get id a0)⟩
 by_cases h8:(8:Int)<=(n:Int)
 case neg=>
  have Y:=bH h8;simp(disch:=omega)only[go_sem,sH,aD,en,W,ei,ej,ek,Y];rw[←r];have cR:s.cell R 0=some (aC 0):=by rw[H.aF g1];rfl
  simp(disch:=omega)only[go_sem,L,cR];refine aW (λ_=>?_) (λhc=>(hc (by trivial)).elim);simp(disch:=omega)only[go_sem];exact⟨a+q*2,1,rfl,Q _ _ om om (Fx.refl _ _)⟩
 have Y:=bP h8
 have w: ∀(i j k:Nat) (o:H) (K:Int),a<=i->i<b->a<=j->j<b->a<=k->k<b->fD o S N d->o.get R=aZ [aC K]->R<o.next->Fx (· =R) s o->
   Ev T (aN.ρ α 262) [.sl S 0 N J,aC i,aC j,aC k,.ptr R 0,.fn (aN.f α) [] []] o (λv h'=> ∃p u,v= aC (p:Nat)/\a<=p/\p<b/\h'.get R=aZ [aC u]/\Fr h h'):=by
  intro i j k o K i1 i2 j1 j2 k1 k2 A2 g2 n2 F2
  refine (oD o S N i j k R d J Z A2 om om om l n2 c K g2).mono ?_
  rintro _ z ⟨⟨p,rfl,hp⟩,⟨u,G⟩,U⟩
  exact⟨p,u,rfl,om,om,G,(Q p z om om (F2.trans U λ_ _ h=>h)).2.2⟩
 by_cases P:(50:Int)<=(n:Int)
 case neg=>
  have y:=bH P;simp(disch:=omega)only[go_sem,sH,aD,en,W,ei,ej,ek,Y,y];rw[←r];simp(disch:=omega)only[go_sem,L];refine (w (a+q) (a+q*2) (a+q*3) s 0 om om om om om om A1 g1 om (Fx.refl _ _)).mono ?_;rintro _ z ⟨p,u,rfl,x,B,G,F⟩;have cR:z.cell R 0=some (aC u):=by rw[H.aF G];rfl
  simp(disch:=omega)only[go_sem,cR];refine aW (λ_=>?_) (λ_=>?_)
  ·simp(disch:=omega)only[go_sem]
   exact⟨p,1,rfl,x,B,F⟩
  ·simp(disch:=omega)only[go_sem]
   refine aW (λ_=>?_) (λ_=>?_)
   ·simp(disch:=omega)only[go_sem]
    exact⟨p,2,rfl,x,B,F⟩
   ·simp(disch:=omega)only[go_sem]
    exact⟨p,0,rfl,x,B,F⟩
 have y:=bP P
 simp(disch:=omega)only[go_sem,sH,aD,en,W,ei,ej,ek,Y,y]
 rw[←r]
 simp(disch:=omega)only[go_sem,L]
 refine (iT s S N (a+q) R d J Z A1 om om l om c 0 g1).mono ?_
 rintro _ o ⟨⟨i,rfl,hi⟩,⟨K,g2⟩,F2⟩
 have A2:=A1.Uc F2 l c
 have n2:=F2.next
 simp(disch:=omega)only[go_sem]
 refine (iT o S N (a+q*2) R d J Z A2 om om l om c K g2).mono ?_
 rintro _ z ⟨⟨j,rfl,hj⟩,⟨u,G⟩,U⟩
 have A3:=A2.Uc U l c
 have n3:=U.next
 simp(disch:=omega)only[go_sem]
 refine (iT z S N (a+q*3) R d J Z A3 om om l om c u G).mono ?_
 rintro _ h4 ⟨⟨k,rfl,hk⟩,⟨s4,g4⟩,F4⟩
 have A4:=A3.Uc F4 l c
 have n4:=F4.next
 simp(disch:=omega)only[go_sem]
 refine (w i j k h4 s4 om om om om om om A4 g4 om ((F2.trans U λ_ _ h=>h).trans F4 λ_ _ h=>h)).mono ?_
 rintro _ z ⟨p,u,rfl,x,B,G,F⟩
 have cR:z.cell R 0=some (aC u):=by rw[H.aF G];rfl
 simp(disch:=omega)only[go_sem,cR]
 refine aW (λ_=>?_) (λ_=>?_)
 ·simp(disch:=omega)only[go_sem]
  exact⟨p,1,rfl,x,B,F⟩
 ·simp(disch:=omega)only[go_sem]
  refine aW (λ_=>?_) (λ_=>?_)
  ·simp(disch:=omega)only[go_sem]
   exact⟨p,2,rfl,x,B,F⟩
  ·simp(disch:=omega)only[go_sem]
   exact⟨p,0,rfl,x,B,F⟩
section
variable {j b:Nat}
theorem GU {α:Type}[Inhabited α]{lt:α->α->Bool}{d:Array α}(h:lt d[j+1]! d[j]! =true):shiftDown lt (j+1) d=shiftDown lt j (swp d (j+1) j):=by rw[shiftDown,bI (by simp [h])]
theorem EK {α:Type}[Inhabited α]{lt:α->α->Bool}{d:Array α}(h:lt d[j+1]! d[j]! =false):shiftDown lt (j+1) d=d:=by rw[shiftDown,bF (by simp [h])]
theorem EY {α:Type}[Inhabited α]{lt:α->α->Bool}{d:Array α}(a:j<b)(h:lt d[j]! d[j- 1]! =true):shiftUp lt b j d=shiftUp lt b (j+1) (swp d j (j- 1)):=by rw[shiftUp,bF a,bI (by simp [h])]
theorem FZ {α:Type}[Inhabited α]{lt:α->α->Bool}{d:Array α}(a:j<b)(h:lt d[j]! d[j- 1]! =false):shiftUp lt b j d=d:=by rw[shiftUp,bF a,bF (by simp [h])]
theorem EH {α:Type}[Inhabited α]{lt:α->α->Bool}{i:Nat}{d:Array α}(hi:i<b)(h:lt d[i]! d[i- 1]! =false):scanSorted lt d b i=scanSorted lt d b (i+1):=by rw[scanSorted,bF (by simp [h,hi])]
theorem Nn {α:Type}[Inhabited α]{lt:α->α->Bool}{i:Nat}{d:Array α}(h: ¬(i<b/\lt d[i]! d[i- 1]! =false)):scanSorted lt d b i=i:=by rw[scanSorted,bI (by simpa using h)]
theorem Lq {α:Type}[Inhabited α](lt:α->α->Bool)(a b s i:Nat)(d:Array α):partialIns lt a b (s+1) i d=if scanSorted lt d b i=b then (d,true) else if b-a<50 then (d,false) else
  partialIns lt a b s (scanSorted lt d b i) (if b-scanSorted lt d b i≥2 then shiftUp lt b (scanSorted lt d b i+1) (if scanSorted lt d b i-a≥2 then shiftDown lt (scanSorted lt d b i- 1) (swp d (scanSorted lt d b i) (scanSorted lt d b i- 1)) else swp d (scanSorted lt d b i) (scanSorted lt d b i- 1)) else
   (if scanSorted lt d b i-a≥2 then shiftDown lt (scanSorted lt d b i- 1) (swp d (scanSorted lt d b i) (scanSorted lt d b i- 1)) else swp d (scanSorted lt d b i) (scanSorted lt d b i- 1))):=by rw[partialIns]
theorem tB {α:Type}[Inhabited α][O:aN α](h:H)(S N a b:Nat)(d:Array α)(cp:Kh)(hN:N<1000000)(A:fD h S N d)(hb:b<=N)(b9:a<b):
  Ev T (aN.ρ α 252) [.sl S 0 N cp,aC a,aC b,.fn (aN.f α) [] []] h (λv h'=>v= .bool (partialInsertionSort aN.lt d a b).2/\fD h' S N (partialInsertionSort aN.lt d a b).1/\Fx (· =S) h h'):=by
 refine Ko (aoX (α:=α) dU.ok (by decide)) rfl ?_
 simp(disch:=omega)only[go_sem,dU,aD]
 rw[eJ a]
 refine aH (λk c t=> ∃(s i:Nat) (e:Array α),(∃g:Nat->V,c= [.sl S 0 N cp,aC a,aC b,.fn (aN.f α) [] [],g 4,aC i,aC (5-(s:Int)),g 7,g 8,g 9,g 10,g 11,g 12,g 13,g 14,g 15,g 16,g 17,g 18])/\s<=5/\a<i/\i<=b/\fD t S N e/\partialIns aN.lt a b s i e=partialInsertionSort aN.lt d a b/\Fx (· =S) h t/\k=s) 5
  ⟨5,a+1,d,aB rfl,om,om,om,A,rfl,Fx.refl _ h,rfl⟩ ?_
 clear A
 rintro k c Y ⟨s,i,e,⟨g,rfl⟩,hs,b2,b1,A,l,F,hk⟩
 subst hk
 by_cases R:(5:Int)-(k:Int)<5
 case neg=>
  have n:=bH R;obtain rfl:k=0:=om
  simp(disch:=omega)only[go_sem,n];have l:(e,false)=partialInsertionSort aN.lt d a b:=l;rw[←l];exact⟨rfl,A,F⟩
 have n:=bP R
 obtain⟨s,rfl⟩: ∃s,k=s+1:=⟨k- 1,om⟩
 simp(disch:=omega)only[go_sem,n]
 rw[Lq] at l
 refine aH (λk c t=> ∃(m:Nat),(∃g:Nat->V,c= [.sl S 0 N cp,aC a,aC b,.fn (aN.f α) [] [],g 4,aC m,aC (5-((s+1:Nat):Int)),g 7,g 8,g 9,g 10,g 11,g 12,g 13,g 14,g 15,g 16,g 17,g 18])/\a<m/\m<=b/\fD t S N e/\scanSorted aN.lt e b m=scanSorted aN.lt e b i/\Fx (· =S) h t/\k=b-m) (b-i)
  ⟨i,aB rfl,b2,b1,A,rfl,F,rfl⟩ ?_
 clear A F R n
 rintro k c y ⟨m,⟨g,rfl⟩,b4,b5,A,hS,F,rfl⟩
 have sz:=A.size
 have B:(m:Int)- 1=((m- 1:Nat):Int):=om
 have a2:(m:Int)+1=((m+1:Nat):Int):=om
 by_cases a4:(m:Int)<(b:Int)
 case neg=>
  have n:=bH a4;have em:m=b:=om
  rw[Nn om] at hS;rw[←hS,bF em] at l;have e2:decide ((m:Int)=(b:Int))=true:=bP om;simp(disch:=omega)only[go_sem,n,e2];rw[←l];exact⟨rfl,A.fr ((Fr.refl y).bA om),dC F (Fx.of ((Fr.refl y).bA om))⟩
 have n:=bP a4
 have r:=A.rd (i:=m) om
 have p:=A.rd (i:=m- 1) om
 simp(disch:=omega)only[go_sem,n,B,r,p]
 refine (dG A (i:=m) (j:=m- 1) om om _ om).mono ?_
 rintro _ h3 ⟨z,rfl,w,a5⟩
 have P:Fr y h3:=Fr.trans ((Fr.refl y).bA om) a5
 have Q:=A.fr P
 have F3:=dC F (Fx.of P)
 cases hl:aN.lt e[m]! e[m- 1]! with
 |false=>
  rw[EH om hl] at hS;simp(disch:=omega)only[go_sem,w,hl,a2];exact⟨b-(m+1),om,m+1,aB rfl,om,om,Q,hS,F3,rfl⟩
 |true=>
  rw[Nn (by rw[hl];simp)] at hS;rw[←hS,bI om] at l;have e2:decide ((m:Int)=(b:Int))=false:=bH om
  by_cases a3:(b:Int)-(a:Int)<50
  ·have K:=bP a3
   rw[bF om] at l;simp(disch:=omega)only[go_sem,w,hl,e2,K];rw[←l];exact⟨rfl,Q,F3⟩
  have K:=bH a3;rw[bI om] at l;have r:=Q.rd (i:=m) om;have p:=Q.rd (i:=m- 1) om;simp(disch:=omega)only[go_sem,w,hl,e2,K,B,r,p,Q.get,bB,aY];have W:=Q.swap (i:=m) (j:=m- 1) (nx:=h3.next+18) om rfl
  obtain⟨h4,a7⟩: ∃h4,h4=((H.mk h3.tr (h3.next+18)).set S (aZ (flat (e.setIfInBounds m e[m- 1]!).toList))).set S (aZ (flat ((e.setIfInBounds m e[m- 1]!).setIfInBounds (m- 1) e[m]!).toList)):=⟨_,rfl⟩
  rw[←a7] at W ⊢;obtain⟨A4,F4⟩:=W;have L:=dC F3 F4;clear a7 F4 Q F3 P a5 r p;obtain⟨U,a0⟩:=exI (swp e m (m- 1));rw[a0] at A4 l;refine jT (λvs Z=> ∃e5,(∃g:Nat->V,vs= [.sl S 0 N cp,aC a,aC b,.fn (aN.f α) [] [],g 4,aC m,aC (5-((s+1:Nat):Int)),g 7,g 8,g 9,g 10,g 11,g 12,g 13,g 14,g 15,g 16,g 17,g 18])/\fD Z S N e5/\e5=(if m-a≥2 then shiftDown aN.lt (m- 1) U else U)/\Fx (· =S) h Z) ?_ ?_
  ·refine aW (λy=>?_) (λy=>?_)
   ·simp(disch:=omega)only[go_sem,B]
    refine aH (λk c t=> ∃(j:Nat) (x:Array α),(∃g:Nat->V,c= [.sl S 0 N cp,aC a,aC b,.fn (aN.f α) [] [],g 4,aC m,aC (5-((s+1:Nat):Int)),aC j,g 8,g 9,g 10,g 11,g 12,g 13,g 14,g 15,g 16,g 17,g 18])/\j<b/\fD t S N x/\shiftDown aN.lt j x=shiftDown aN.lt (m- 1) U/\Fx (· =S) h t/\k=j) (m- 1)
     ⟨m- 1,U,aB rfl,om,A4,rfl,L,rfl⟩ ?_
    rintro k c Z ⟨j,x,⟨g,rfl⟩,hj,u,G,F5,hk⟩;subst hk;have b6:=u.size
    by_cases Y:(1:Int)<=(k:Int)
    ·have n:=bP Y
     obtain⟨q,rfl⟩: ∃q,k=q+1:=⟨k- 1,om⟩
     have a8:((q+1:Nat):Int)- 1=(q:Int):=om
     have r:=u.rd (i:=q+1) om;have p:=u.rd (i:=q) om;simp(disch:=omega)only[go_sem,n,a8,r,p];refine (dG u (i:=q+1) (j:=q) om om _ om).mono ?_;rintro _ h6 ⟨z,rfl,w,b3⟩;have f6:Fr Z h6:=Fr.trans ((Fr.refl Z).bA om) b3;have o:=u.fr f6;have F6:=dC F5 (Fx.of f6)
     cases hl:aN.lt x[q+1]! x[q]! with
     |false=>
      rw[EK hl] at G;simp(disch:=omega)only[go_sem,w,hl];exact .inl ⟨x,aB rfl,o,by rw[bF om,←G],F6⟩
     |true=>
      rw[GU hl] at G;have r:=o.rd (i:=q+1) om;have p:=o.rd (i:=q) om;simp(disch:=omega)only[go_sem,w,hl,a8,r,p,o.get,bB,aY];have W:=o.swap (i:=q+1) (j:=q) (nx:=h6.next+18) om rfl;exact⟨q,om,q,_,aB rfl,om,W.1,G,dC F6 W.2,rfl⟩
    ·have n:=bH Y
     obtain rfl:k=0:=om
     simp(disch:=omega)only[go_sem,n];have G:x=shiftDown aN.lt (m- 1) U:=G;exact .inl ⟨x,aB rfl,u,by rw[bF om,←G],F5⟩
   ·simp(disch:=omega)only[go_sem]
    exact .inl ⟨U,aB rfl,A4,by rw[bI om],L⟩
  ·rintro c Z ⟨e5,⟨g,rfl⟩,u,a1,F5⟩
   rw[←a1] at l;clear A4 L a1 a0;simp(disch:=omega)only[go_sem];have J:(5:Int)-((s+1:Nat):Int)+1=5-(s:Int):=om
   refine aW (λy=>?_) (λy=>?_)
   ·rw[bF om] at l
    simp(disch:=omega)only[go_sem,a2];refine aH (λk c t=> ∃(j:Nat) (x:Array α),(∃g:Nat->V,c= [.sl S 0 N cp,aC a,aC b,.fn (aN.f α) [] [],g 4,aC m,aC (5-((s+1:Nat):Int)),g 7,aC j,g 9,g 10,g 11,g 12,g 13,g 14,g 15,g 16,g 17,g 18])/\0<j/\j<=b/\fD t S N x/\shiftUp aN.lt b j x=shiftUp aN.lt b (m+1) e5/\Fx (· =S) h t/\k=b-j) (b-(m+1))
     ⟨m+1,e5,aB rfl,om,om,u,rfl,F5,rfl⟩ ?_
    rintro k c h6 ⟨j,x,⟨g,rfl⟩,b8,hj,o,hU,F6,rfl⟩;have b7:=o.size
    by_cases Y:(j:Int)<(b:Int)
    ·have n:=bP Y
     have a6:(j:Int)- 1=((j- 1:Nat):Int):=om
     have b0:(j:Int)+1=((j+1:Nat):Int):=om
     have r:=o.rd (i:=j) om;have p:=o.rd (i:=j- 1) om;simp(disch:=omega)only[go_sem,n,a6,r,p];refine (dG o (i:=j) (j:=j- 1) om om _ om).mono ?_;rintro _ h7 ⟨z,rfl,w,a9⟩;have f7:Fr h6 h7:=Fr.trans ((Fr.refl h6).bA om) a9;have A7:=o.fr f7;have F7:=dC F6 (Fx.of f7)
     cases hl:aN.lt x[j]! x[j- 1]! with
     |false=>
      rw[FZ om hl] at hU;rw[←hU] at l;simp(disch:=omega)only[go_sem,w,hl,J];exact⟨s,om,s,m,x,aB rfl,om,om,om,A7,l,F7,rfl⟩
     |true=>
      rw[EY om hl] at hU;have r:=A7.rd (i:=j) om;have p:=A7.rd (i:=j- 1) om;simp(disch:=omega)only[go_sem,w,hl,a6,b0,r,p,A7.get,bB,aY];have W:=A7.swap (i:=j) (j:=j- 1) (nx:=h7.next+18) om rfl;exact⟨b-(j+1),om,j+1,_,aB rfl,om,om,W.1,hU,dC F7 W.2,rfl⟩
    ·have n:=bH Y
     rw[shiftUp,bI om] at hU;rw[←hU] at l;simp(disch:=omega)only[go_sem,n,J];exact⟨s,om,s,m,x,aB rfl,om,om,om,o,l,F6,rfl⟩
   ·rw[bI om] at l
    simp(disch:=omega)only[go_sem,J];exact⟨s,om,s,m,e5,aB rfl,om,om,om,u,l,F5,rfl⟩
end
section
variable {j i:Nat}
theorem yY {α:Type}[Inhabited α]{p:α->Bool}{d:Array α}(a:i<=j)(h2:p d[i]! =true):scanUp p d j i=scanUp p d j (i+1):=by rw[scanUp,bF (by simp [a,h2])]
theorem qA {α:Type}[Inhabited α]{p:α->Bool}{d:Array α}(h: ¬(i<=j/\p d[i]! =true)):scanUp p d j i=i:=by rw[scanUp,bI (by simpa using h)]
theorem Dc {α:Type}[Inhabited α]{p:α->Bool}{d:Array α}(a:i<=j+1)(h2:p d[j+1]! =true):scanDown p d i (j+1)=scanDown p d i j:=by rw[scanDown,bF (by simp [a,h2])]
theorem oP {α:Type}[Inhabited α]{p:α->Bool}{d:Array α}(h: ¬(i<=j/\p d[j]! =true)):scanDown p d i j=j:=by
 cases j with
 |zero=>rfl
 |succ j=>rw[scanDown,bI (by simpa using h)]
theorem kW {α:Type}[Inhabited α](p:α->Bool)(d:Array α)(j i:Nat):scanUp p d j i<=max i (j+1):=by
 obtain⟨n,a⟩:=exI (j+1-i)
 induction n generalizing i with
 |zero=>rw[qA (λh=>by have:=h.1;omega)];omega
 |succ n ih=>
  by_cases h:i<=j/\p d[i]! =true
  ·rw[yY h.1 h.2]
   have:=ih (i+1) om;omega
  ·rw[qA h];omega
theorem pG {α:Type}[Inhabited α][O:aN α](h:H)(S N a b pv:Nat)(d:Array α)(Z:Kh)(hN:N<1000000)(A:fD h S N d)(hb:b<=N)(c0:a<=pv)(b9:pv<b):
  Ev T (aN.ρ α 254) [.sl S 0 N Z,aC a,aC b,aC pv,.fn (aN.f α) [] []] h (λv h'=>v= .tup [aC ((partition aN.lt d a b pv).1:Nat),.bool (partition aN.lt d a b pv).2.1]/\fD h' S N (partition aN.lt d a b pv).2.2/\Fx (· =S) h h'):=by
 refine Ko (aoX (α:=α) gE.ok (by decide)) rfl ?_
 have sz:=A.size
 have Q:=A.rd (i:=a) om
 have K:=A.rd (i:=pv) om
 simp(disch:=omega)only[go_sem,gE,aD,Q,K,A.get,bB,aY]
 have W:=A.swap (i:=a) (j:=pv) (nx:=h.next+16) om rfl
 obtain⟨h1,b4⟩: ∃h1,h1=((H.mk h.tr (h.next+16)).set S (aZ (flat (d.setIfInBounds a d[pv]!).toList))).set S (aZ (flat ((d.setIfInBounds a d[pv]!).setIfInBounds pv d[a]!).toList)):=⟨_,rfl⟩
 rw[←b4] at W ⊢
 obtain⟨A1,F1⟩:=W
 obtain⟨e,he⟩:=exI (swp d a pv)
 rw[he] at A1
 clear b4 Q K A
 have eb:(b:Int)- 1=((b- 1:Nat):Int):=om
 have ea:(a:Int)+1=((a+1:Nat):Int):=om
 have hP:partition aN.lt d a b pv=if scanUp (λx=>aN.lt x e[a]!) e (b- 1) (a+1)>scanDown (λx=>!aN.lt x e[a]!) e (scanUp (λx=>aN.lt x e[a]!) e (b- 1) (a+1)) (b- 1) then
   (scanDown (λx=>!aN.lt x e[a]!) e (scanUp (λx=>aN.lt x e[a]!) e (b- 1) (a+1)) (b- 1),true,swp e (scanDown (λx=>!aN.lt x e[a]!) e (scanUp (λx=>aN.lt x e[a]!) e (b- 1) (a+1)) (b- 1)) a) else
   ((partLoop aN.lt a (scanUp (λx=>aN.lt x e[a]!) e (b- 1) (a+1)+1) (scanDown (λx=>!aN.lt x e[a]!) e (scanUp (λx=>aN.lt x e[a]!) e (b- 1) (a+1)) (b- 1)- 1) (swp e (scanUp (λx=>aN.lt x e[a]!) e (b- 1) (a+1)) (scanDown (λx=>!aN.lt x e[a]!) e (scanUp (λx=>aN.lt x e[a]!) e (b- 1) (a+1)) (b- 1)))).1,false,
    swp (partLoop aN.lt a (scanUp (λx=>aN.lt x e[a]!) e (b- 1) (a+1)+1) (scanDown (λx=>!aN.lt x e[a]!) e (scanUp (λx=>aN.lt x e[a]!) e (b- 1) (a+1)) (b- 1)- 1) (swp e (scanUp (λx=>aN.lt x e[a]!) e (b- 1) (a+1)) (scanDown (λx=>!aN.lt x e[a]!) e (scanUp (λx=>aN.lt x e[a]!) e (b- 1) (a+1)) (b- 1)))).2 (partLoop aN.lt a (scanUp (λx=>aN.lt x e[a]!) e (b- 1) (a+1)+1) (scanDown (λx=>!aN.lt x e[a]!) e (scanUp (λx=>aN.lt x e[a]!) e (b- 1) (a+1)) (b- 1)- 1) (swp e (scanUp (λx=>aN.lt x e[a]!) e (b- 1) (a+1)) (scanDown (λx=>!aN.lt x e[a]!) e (scanUp (λx=>aN.lt x e[a]!) e (b- 1) (a+1)) (b- 1)))).1 a):=by
  rw[←he];rfl
 obtain⟨R,b1⟩:=exI (partition aN.lt d a b pv)
 rw[b1] at hP
 rw[b1]
 simp(disch:=omega)only[go_sem,ea,eb]
 refine bJ (λP c=>(∃g:Nat->V,P= [.sl S 0 N Z,aC a,aC b,aC pv,.fn (aN.f α) [] [],g 5,g 6,aC (scanUp (λx=>aN.lt x e[a]!) e (b- 1) (a+1):Nat),aC ((b- 1):Nat),g 9,g 10,g 11,g 12,g 13,g 14])/\fD c S N e/\Fx (· =S) h c) ?_ ?_
 ·refine aH (λJ P c=> ∃(k:Nat),(∃g:Nat->V,P= [.sl S 0 N Z,aC a,aC b,aC pv,.fn (aN.f α) [] [],g 5,g 6,aC (k:Nat),aC ((b- 1):Nat),g 9,g 10,g 11,g 12,g 13,g 14])/\(a+1)<=k/\k<=N+2/\fD c S N e/\scanUp (λx=>aN.lt x e[a]!) e (b- 1) k=scanUp (λx=>aN.lt x e[a]!) e (b- 1) (a+1)/\Fx (· =S) h c/\J=(b- 1)+1-k) ((b- 1)+1-(a+1))
   ⟨(a+1),aB rfl,om,om,A1,rfl,F1,rfl⟩ ?_
  rintro J n L ⟨k,⟨g,rfl⟩,a7,b7,p,o,Fs,rfl⟩
  by_cases l:(k:Int)<=(((b- 1):Nat):Int)
  ·have s:decide ((k:Int)<=(((b- 1):Nat):Int))=true:=bP l
   have eK:(k:Int)+1=((k+1:Nat):Int):=om
   have a8:=p.size
   have Q:=p.rd (i:=k) om
   have K:=p.rd (i:=a) om
   simp(disch:=omega)only[go_sem,s,Q,K]
   refine (dG p (i:=k) (j:=a) om om _ om).mono ?_
   rintro _ U ⟨z,rfl,hz,B⟩
   have t:Fr L U:=Fr.trans ((Fr.refl L).bA om) B
   have F:=p.fr t
   have y:=dC Fs (Fx.of t)
   cases hl:aN.lt e[k]! e[a]! with
   |false=>
    rw[qA (λc=>by have:=c.2;simp [hl] at this)] at o;simp(disch:=omega)only[go_sem,hz,hl];exact⟨by rw[←o];exact aB rfl,F,y⟩
   |true=>
    rw[yY om (by simp [hl])] at o;simp(disch:=omega)only[go_sem,hz,hl,eK];exact⟨(b- 1)+1-(k+1),om,k+1,aB rfl,om,om,F,o,y,rfl⟩
  ·have s:decide ((k:Int)<=(((b- 1):Nat):Int))=false:=bH l
   rw[qA (λc=>l (by have:=c.1;omega))] at o
   simp(disch:=omega)only[go_sem,s]
   exact⟨by rw[←o];exact aB rfl,p.fr ((Fr.refl L).bA om),dC Fs (Fx.of ((Fr.refl L).bA om))⟩
 ·rintro n h9 ⟨⟨g,rfl⟩,A9,F9⟩
  have a3:=scanUp_ge (λx=>aN.lt x e[a]!) e (b- 1) (a+1)
  have a2:=kW (λx=>aN.lt x e[a]!) e (b- 1) (a+1)
  obtain⟨q,a1⟩: ∃x,scanUp (λx=>aN.lt x e[a]!) e (b- 1) (a+1)=x:=⟨_,rfl⟩
  rw[a1] at a3 a2
  rw[a1]
  simp(disch:=omega)only[go_sem]
  refine bJ (λP c=>(∃g:Nat->V,P= [.sl S 0 N Z,aC a,aC b,aC pv,.fn (aN.f α) [] [],g 5,g 6,aC (q:Nat),aC (scanDown (λx=>!aN.lt x e[a]!) e q (b- 1):Nat),g 9,g 10,g 11,g 12,g 13,g 14])/\fD c S N e/\Fx (· =S) h c) ?_ ?_
  ·refine aH (λJ P c=> ∃(k:Nat),(∃g:Nat->V,P= [.sl S 0 N Z,aC a,aC b,aC pv,.fn (aN.f α) [] [],g 5,g 6,aC (q:Nat),aC (k:Nat),g 9,g 10,g 11,g 12,g 13,g 14])/\k<=(b- 1)/\fD c S N e/\scanDown (λx=>!aN.lt x e[a]!) e q k=scanDown (λx=>!aN.lt x e[a]!) e q (b- 1)/\Fx (· =S) h c/\J=k) (b- 1)
    ⟨(b- 1),aB rfl,om,A9,rfl,F9,rfl⟩ ?_
   rintro J n L ⟨k,⟨g,rfl⟩,a7,p,o,Fs,a5⟩
   subst a5
   by_cases l:((q:Nat):Int)<=(J:Int)
   ·have s:=bP l
    obtain⟨k,rfl⟩: ∃k,J=k+1:=⟨J- 1,om⟩
    have eK:((k+1:Nat):Int)- 1=(k:Int):=om
    have a8:=p.size
    have Q:=p.rd (i:=k+1) om
    have K:=p.rd (i:=a) om
    simp(disch:=omega)only[go_sem,s,Q,K]
    refine (dG p (i:=k+1) (j:=a) om om _ om).mono ?_
    rintro _ U ⟨z,rfl,hz,B⟩
    have t:Fr L U:=Fr.trans ((Fr.refl L).bA om) B
    have F:=p.fr t
    have y:=dC Fs (Fx.of t)
    cases hl:aN.lt e[k+1]! e[a]! with
    |true=>
     rw[oP (λc=>by have:=c.2;simp [hl] at this)] at o;simp(disch:=omega)only[go_sem,hz,hl];exact⟨by rw[←o];exact aB rfl,F,y⟩
    |false=>
     rw[Dc om (by simp [hl])] at o;simp(disch:=omega)only[go_sem,hz,hl,eK];exact⟨k,om,k,aB rfl,om,F,o,y,rfl⟩
   ·have s:=bH l
    rw[oP (λc=>l (by have:=c.1;omega))] at o
    simp(disch:=omega)only[go_sem,s]
    exact⟨by rw[←o];exact aB rfl,p.fr ((Fr.refl L).bA om),dC Fs (Fx.of ((Fr.refl L).bA om))⟩
  ·rintro n h2 ⟨⟨g,rfl⟩,A2,F2⟩
   have a6:=scanDown_le (λx=>!aN.lt x e[a]!) e q (b- 1)
   obtain⟨G,a4⟩: ∃x,scanDown (λx=>!aN.lt x e[a]!) e q (b- 1)=x:=⟨_,rfl⟩
   rw[a4] at a6
   rw[a4]
   rw[a1,a4] at hP
   have b6:=A2.size
   by_cases Y:(G:Int)<(q:Int)
   ·have s:=bP Y
    rw[bF om] at hP
    have Q:=A2.rd (i:=G) om
    have K:=A2.rd (i:=a) om
    simp(disch:=omega)only[go_sem,s,Q,K,A2.get,bB,aY]
    have W:=A2.swap (i:=G) (j:=a) (nx:=h2.next+16) om rfl
    rw[hP]
    exact⟨rfl,W.1,dC F2 W.2⟩
   have s:=bH Y
   rw[bI om] at hP
   have Q:=A2.rd (i:=q) om
   have K:=A2.rd (i:=G) om
   simp(disch:=omega)only[go_sem,s,Q,K,A2.get,bB,aY]
   have W:=A2.swap (i:=q) (j:=G) (nx:=h2.next+16) om rfl
   obtain⟨h3,b2⟩: ∃h3,h3=((H.mk h2.tr (h2.next+16)).set S (aZ (flat (e.setIfInBounds q e[G]!).toList))).set S (aZ (flat ((e.setIfInBounds q e[G]!).setIfInBounds G e[q]!).toList)):=⟨_,rfl⟩
   rw[←b2] at W ⊢
   obtain⟨A3,b3⟩:=W
   have F3:=dC F2 b3
   have a9:q<=G:=om
   obtain⟨e0,b5⟩:=exI (swp e q G)
   rw[b5] at A3 hP
   clear b2 Q K A2 A9 F9 A1 F1 he Y s
   have ei:(q:Int)+1=((q+1:Nat):Int):=om
   have ej:(G:Int)- 1=((G- 1:Nat):Int):=om
   simp(disch:=omega)only[go_sem,ei,ej]
   refine bJ (λP c=>(∃g:Nat->V,P= [.sl S 0 N Z,aC a,aC b,aC pv,.fn (aN.f α) [] [],g 5,g 6,g 7,aC (((partLoop aN.lt a (q+1) (G- 1) e0).1:Nat):Int),g 9,g 10,g 11,g 12,g 13,g 14])/\fD c S N (partLoop aN.lt a (q+1) (G- 1) e0).2/\(partLoop aN.lt a (q+1) (G- 1) e0).1<b/\Fx (· =S) h c) ?_ ?_
   ·refine aH (λJ P c=> ∃(i j:Nat) (e:Array α),(∃g:Nat->V,P= [.sl S 0 N Z,aC a,aC b,aC pv,.fn (aN.f α) [] [],g 5,g 6,aC i,aC j,g 9,g 10,g 11,g 12,g 13,g 14])/\a<i/\i<=b+1/\j<b/\fD c S N e/\partLoop aN.lt a i j e=partLoop aN.lt a (q+1) (G- 1) e0/\Fx (· =S) h c/\J=j) (G- 1)
     ⟨q+1,G- 1,e0,aB rfl,om,om,om,A3,rfl,F3,rfl⟩ ?_
    obtain⟨R2,b0⟩:=exI (partLoop aN.lt a (q+1) (G- 1) e0)
    rw[b0]
    clear hP b0 a1 a4 b5 ei ej a6 a3 a2 F3 b3 A3 b6 h3 a9
    clear q G
    rintro J n h3 ⟨i,j,e,⟨g,rfl⟩,c4,a1,hj,A3,hL,F3,a5⟩
    rw[partLoop_eq] at hL
    simp(disch:=omega)only[go_sem]
    refine bJ (λP c=>(∃g:Nat->V,P= [.sl S 0 N Z,aC a,aC b,aC pv,.fn (aN.f α) [] [],g 5,g 6,aC (scanUp (λx=>aN.lt x e[a]!) e j i:Nat),aC (j:Nat),g 9,g 10,g 11,g 12,g 13,g 14])/\fD c S N e/\Fx (· =S) h c) ?_ ?_
    ·refine aH (λJ P c=> ∃(k:Nat),(∃g:Nat->V,P= [.sl S 0 N Z,aC a,aC b,aC pv,.fn (aN.f α) [] [],g 5,g 6,aC (k:Nat),aC (j:Nat),g 9,g 10,g 11,g 12,g 13,g 14])/\i<=k/\k<=N+2/\fD c S N e/\scanUp (λx=>aN.lt x e[a]!) e j k=scanUp (λx=>aN.lt x e[a]!) e j i/\Fx (· =S) h c/\J=j+1-k) (j+1-i)
      ⟨i,aB rfl,om,om,A3,rfl,F3,rfl⟩ ?_
     rintro J n L ⟨k,⟨g,rfl⟩,a7,b7,p,o,Fs,rfl⟩
     by_cases l:(k:Int)<=((j:Nat):Int)
     ·have s:=bP l
      have eK:(k:Int)+1=((k+1:Nat):Int):=om
      have a8:=p.size
      have Q:=p.rd (i:=k) om
      have K:=p.rd (i:=a) om
      simp(disch:=omega)only[go_sem,s,Q,K]
      refine (dG p (i:=k) (j:=a) om om _ om).mono ?_
      rintro _ U ⟨z,rfl,hz,B⟩
      have t:Fr L U:=Fr.trans ((Fr.refl L).bA om) B
      have F:=p.fr t
      have y:=dC Fs (Fx.of t)
      cases hl:aN.lt e[k]! e[a]! with
      |false=>
       rw[qA (λc=>by have:=c.2;simp [hl] at this)] at o;simp(disch:=omega)only[go_sem,hz,hl];exact⟨by rw[←o];exact aB rfl,F,y⟩
      |true=>
       rw[yY om (by simp [hl])] at o;simp(disch:=omega)only[go_sem,hz,hl,eK];exact⟨j+1-(k+1),om,k+1,aB rfl,om,om,F,o,y,rfl⟩
     ·have s:=bH l
      rw[qA (λc=>l (by have:=c.1;omega))] at o
      simp(disch:=omega)only[go_sem,s]
      exact⟨by rw[←o];exact aB rfl,p.fr ((Fr.refl L).bA om),dC Fs (Fx.of ((Fr.refl L).bA om))⟩
    ·rintro n h9 ⟨⟨g,rfl⟩,A9,F9⟩
     have a3:=scanUp_ge (λx=>aN.lt x e[a]!) e j i
     have a2:=kW (λx=>aN.lt x e[a]!) e j i
     obtain⟨u,hu⟩: ∃x,scanUp (λx=>aN.lt x e[a]!) e j i=x:=⟨_,rfl⟩
     rw[hu] at a3 a2
     rw[hu]
     simp(disch:=omega)only[go_sem]
     refine bJ (λP c=>(∃g:Nat->V,P= [.sl S 0 N Z,aC a,aC b,aC pv,.fn (aN.f α) [] [],g 5,g 6,aC (u:Nat),aC (scanDown (λx=>!aN.lt x e[a]!) e u j:Nat),g 9,g 10,g 11,g 12,g 13,g 14])/\fD c S N e/\Fx (· =S) h c) ?_ ?_
     ·refine aH (λJ P c=> ∃(k:Nat),(∃g:Nat->V,P= [.sl S 0 N Z,aC a,aC b,aC pv,.fn (aN.f α) [] [],g 5,g 6,aC (u:Nat),aC (k:Nat),g 9,g 10,g 11,g 12,g 13,g 14])/\k<=j/\fD c S N e/\scanDown (λx=>!aN.lt x e[a]!) e u k=scanDown (λx=>!aN.lt x e[a]!) e u j/\Fx (· =S) h c/\J=k) j
       ⟨j,aB rfl,om,A9,rfl,F9,rfl⟩ ?_
      rintro J n L ⟨k,⟨g,rfl⟩,a7,p,o,Fs,a5⟩
      subst a5
      by_cases l:((u:Nat):Int)<=(J:Int)
      ·have s:=bP l
       obtain⟨k,rfl⟩: ∃k,J=k+1:=⟨J- 1,om⟩
       have eK:((k+1:Nat):Int)- 1=(k:Int):=om
       have a8:=p.size
       have Q:=p.rd (i:=k+1) om
       have K:=p.rd (i:=a) om
       simp(disch:=omega)only[go_sem,s,Q,K]
       refine (dG p (i:=k+1) (j:=a) om om _ om).mono ?_
       rintro _ U ⟨z,rfl,hz,B⟩
       have t:Fr L U:=Fr.trans ((Fr.refl L).bA om) B
       have F:=p.fr t
       have y:=dC Fs (Fx.of t)
       cases hl:aN.lt e[k+1]! e[a]! with
       |true=>
        rw[oP (λc=>by have:=c.2;simp [hl] at this)] at o;simp(disch:=omega)only[go_sem,hz,hl];exact⟨by rw[←o];exact aB rfl,F,y⟩
       |false=>
        rw[Dc om (by simp [hl])] at o;simp(disch:=omega)only[go_sem,hz,hl,eK];exact⟨k,om,k,aB rfl,om,F,o,y,rfl⟩
      ·have s:=bH l
       rw[oP (λc=>l (by have:=c.1;omega))] at o
       simp(disch:=omega)only[go_sem,s]
       exact⟨by rw[←o];exact aB rfl,p.fr ((Fr.refl L).bA om),dC Fs (Fx.of ((Fr.refl L).bA om))⟩
     ·rintro n h4 ⟨⟨g,rfl⟩,A4,F4⟩
      have a6:=scanDown_le (λx=>!aN.lt x e[a]!) e u j
      obtain⟨w,hw⟩: ∃x,scanDown (λx=>!aN.lt x e[a]!) e u j=x:=⟨_,rfl⟩
      rw[hw] at a6
      rw[hw]
      rw[hu,hw] at hL
      have b8:=A4.size
      by_cases Y:(w:Int)<(u:Int)
      ·have s:=bP Y
       rw[bF om] at hL
       simp(disch:=omega)only[go_sem,s]
       rw[←hL]
       exact⟨aB rfl,A4,om,F4⟩
      have s:=bH Y
      rw[bI om] at hL
      have Q:=A4.rd (i:=u) om
      have K:=A4.rd (i:=w) om
      have ei:(u:Int)+1=((u+1:Nat):Int):=om
      have ej:(w:Int)- 1=((w- 1:Nat):Int):=om
      simp(disch:=omega)only[go_sem,s,Q,K,A4.get,bB,aY,ei,ej]
      have W:=A4.swap (i:=u) (j:=w) (nx:=h4.next+16) om rfl
      exact⟨w- 1,om,u+1,w- 1,_,aB rfl,om,om,om,W.1,hL,dC F4 W.2,rfl⟩
   ·rintro n h5 ⟨⟨g,rfl⟩,A5,a0,F5⟩
    generalize partLoop aN.lt a (q+1) (G- 1) e0=r at hP A5 a0
    obtain⟨m,e5⟩:=r
    have a0:m<b:=a0
    have A5:fD h5 S N e5:=A5
    have c3:=A5.size
    have Q:=A5.rd (i:=m) om
    have K:=A5.rd (i:=a) om
    simp(disch:=omega)only[go_sem,Q,K,A5.get,bB,aY]
    have W:=A5.swap (i:=m) (j:=a) (nx:=h5.next+16) om rfl
    rw[hP]
    exact⟨rfl,W.1,dC F5 W.2⟩
theorem xB {α:Type}[Inhabited α][O:aN α](h:H)(S N a b pv:Nat)(d:Array α)(L:Kh)(hN:N<1000000)(A:fD h S N d)(hb:b<=N)(a8:a<=pv)(a7:pv<b):
  Ev T (aN.ρ α 253) [.sl S 0 N L,aC a,aC b,aC pv,.fn (aN.f α) [] []] h (λv h'=>v= aC ((partitionEqual aN.lt d a b pv).1:Nat)/\fD h' S N (partitionEqual aN.lt d a b pv).2/\Fx (· =S) h h'):=by
 refine Ko (aoX (α:=α) sV.ok (by decide)) rfl ?_
 have sz:=A.size
 have J:=A.rd (i:=a) om
 have G:=A.rd (i:=pv) om
 simp(disch:=omega)only[go_sem,sV,aD,J,G,A.get,bB,aY]
 have W:=A.swap (i:=a) (j:=pv) (nx:=h.next+16) om rfl
 obtain⟨h1,a0⟩: ∃h1,h1=((H.mk h.tr (h.next+16)).set S (aZ (flat (d.setIfInBounds a d[pv]!).toList))).set S (aZ (flat ((d.setIfInBounds a d[pv]!).setIfInBounds pv d[a]!).toList)):=⟨_,rfl⟩
 rw[←a0] at W ⊢
 obtain⟨A1,F1⟩:=W
 have eb:(b:Int)- 1=((b- 1:Nat):Int):=om
 have ea:(a:Int)+1=((a+1:Nat):Int):=om
 unfold partitionEqual
 obtain⟨Q,he⟩: ∃e,swp d a pv=e:=⟨_,rfl⟩
 rw[he] at A1 ⊢
 clear a0 J G A
 simp(disch:=omega)only[go_sem,ea,eb]
 refine bJ (λy c=>(∃g:Nat->V,y= [.sl S 0 N L,aC a,aC b,aC pv,.fn (aN.f α) [] [],g 5,aC (((partEqLoop aN.lt a (a+1) (b- 1) Q).1:Nat):Int),g 7,g 8,g 9,g 10])/\fD c S N (partEqLoop aN.lt a (a+1) (b- 1) Q).2/\Fx (· =S) h c) ?_ ?_
 ·refine aH (λq y c=> ∃(i j:Nat) (e:Array α),(∃g:Nat->V,y= [.sl S 0 N L,aC a,aC b,aC pv,.fn (aN.f α) [] [],g 5,aC i,aC j,g 8,g 9,g 10])/\a<i/\i<=b+1/\j<b/\fD c S N e/\partEqLoop aN.lt a i j e=partEqLoop aN.lt a (a+1) (b- 1) Q/\Fx (· =S) h c/\q=j) (b- 1)
   ⟨a+1,b- 1,Q,aB rfl,om,om,om,A1,rfl,F1,rfl⟩ ?_
  obtain⟨R2,U⟩:=exI (partEqLoop aN.lt a (a+1) (b- 1) Q)
  rw[U]
  clear U F1 A1 h1 he Q
  rintro q l h3 ⟨i,j,e,⟨g,rfl⟩,b1,a9,hj,A3,P,F3,Z⟩
  rw[partEqLoop_eq] at P
  simp(disch:=omega)only[go_sem]
  refine bJ (λy c=>(∃g:Nat->V,y= [.sl S 0 N L,aC a,aC b,aC pv,.fn (aN.f α) [] [],g 5,aC (scanUp (λx=>!aN.lt e[a]! x) e j i:Nat),aC (j:Nat),g 8,g 9,g 10])/\fD c S N e/\Fx (· =S) h c) ?_ ?_
  ·refine aH (λq y c=> ∃(k:Nat),(∃g:Nat->V,y= [.sl S 0 N L,aC a,aC b,aC pv,.fn (aN.f α) [] [],g 5,aC (k:Nat),aC (j:Nat),g 8,g 9,g 10])/\i<=k/\k<=N+2/\fD c S N e/\scanUp (λx=>!aN.lt e[a]! x) e j k=scanUp (λx=>!aN.lt e[a]! x) e j i/\Fx (· =S) h c/\q=j+1-k) (j+1-i)
    ⟨i,aB rfl,om,om,A3,rfl,F3,rfl⟩ ?_
   rintro q l F ⟨k,⟨g,rfl⟩,a3,b0,o,n,Fs,rfl⟩
   by_cases m:(k:Int)<=((j:Nat):Int)
   ·have r:=bP m
    have eK:(k:Int)+1=((k+1:Nat):Int):=om
    have a5:=o.size
    have J:=o.rd (i:=k) om
    have G:=o.rd (i:=a) om
    simp(disch:=omega)only[go_sem,r,J,G]
    refine (dG o (i:=a) (j:=k) om om _ om).mono ?_
    rintro _ K ⟨z,rfl,Y,t⟩
    have p:Fr F K:=Fr.trans ((Fr.refl F).bA om) t
    have B:=o.fr p
    have s:=dC Fs (Fx.of p)
    cases hl:aN.lt e[a]! e[k]! with
    |true=>
     rw[qA (λc=>by have:=c.2;simp [hl] at this)] at n;simp(disch:=omega)only[go_sem,Y,hl];exact⟨by rw[←n];exact aB rfl,B,s⟩
    |false=>
     rw[yY om (by simp [hl])] at n;simp(disch:=omega)only[go_sem,Y,hl,eK];exact⟨j+1-(k+1),om,k+1,aB rfl,om,om,B,n,s,rfl⟩
   ·have r:=bH m
    rw[qA (λc=>m (by have:=c.1;omega))] at n
    simp(disch:=omega)only[go_sem,r]
    exact⟨by rw[←n];exact aB rfl,o.fr ((Fr.refl F).bA om),dC Fs (Fx.of ((Fr.refl F).bA om))⟩
  ·rintro l h9 ⟨⟨g,rfl⟩,A9,F9⟩
   have a2:=scanUp_ge (λx=>!aN.lt e[a]! x) e j i
   have a1:=kW (λx=>!aN.lt e[a]! x) e j i
   obtain⟨u,hu⟩: ∃x,scanUp (λx=>!aN.lt e[a]! x) e j i=x:=⟨_,rfl⟩
   rw[hu] at a2 a1
   rw[hu]
   simp(disch:=omega)only[go_sem]
   refine bJ (λy c=>(∃g:Nat->V,y= [.sl S 0 N L,aC a,aC b,aC pv,.fn (aN.f α) [] [],g 5,aC (u:Nat),aC (scanDown (λx=>aN.lt e[a]! x) e u j:Nat),g 8,g 9,g 10])/\fD c S N e/\Fx (· =S) h c) ?_ ?_
   ·refine aH (λq y c=> ∃(k:Nat),(∃g:Nat->V,y= [.sl S 0 N L,aC a,aC b,aC pv,.fn (aN.f α) [] [],g 5,aC (u:Nat),aC (k:Nat),g 8,g 9,g 10])/\k<=j/\fD c S N e/\scanDown (λx=>aN.lt e[a]! x) e u k=scanDown (λx=>aN.lt e[a]! x) e u j/\Fx (· =S) h c/\q=k) j
     ⟨j,aB rfl,om,A9,rfl,F9,rfl⟩ ?_
    rintro q l F ⟨k,⟨g,rfl⟩,a3,o,n,Fs,Z⟩
    subst Z
    by_cases m:((u:Nat):Int)<=(q:Int)
    ·have r:=bP m
     obtain⟨k,rfl⟩: ∃k,q=k+1:=⟨q- 1,om⟩
     have eK:((k+1:Nat):Int)- 1=(k:Int):=om
     have a5:=o.size
     have J:=o.rd (i:=k+1) om
     have G:=o.rd (i:=a) om
     simp(disch:=omega)only[go_sem,r,J,G]
     refine (dG o (i:=a) (j:=k+1) om om _ om).mono ?_
     rintro _ K ⟨z,rfl,Y,t⟩
     have p:Fr F K:=Fr.trans ((Fr.refl F).bA om) t
     have B:=o.fr p
     have s:=dC Fs (Fx.of p)
     cases hl:aN.lt e[a]! e[k+1]! with
     |false=>
      rw[oP (λc=>by have:=c.2;simp [hl] at this)] at n;simp(disch:=omega)only[go_sem,Y,hl];exact⟨by rw[←n];exact aB rfl,B,s⟩
     |true=>
      rw[Dc om (by simp [hl])] at n;simp(disch:=omega)only[go_sem,Y,hl,eK];exact⟨k,om,k,aB rfl,om,B,n,s,rfl⟩
    ·have r:=bH m
     rw[oP (λc=>m (by have:=c.1;omega))] at n
     simp(disch:=omega)only[go_sem,r]
     exact⟨by rw[←n];exact aB rfl,o.fr ((Fr.refl F).bA om),dC Fs (Fx.of ((Fr.refl F).bA om))⟩
   ·rintro l h4 ⟨⟨g,rfl⟩,A4,F4⟩
    have a4:=scanDown_le (λx=>aN.lt e[a]! x) e u j
    obtain⟨w,hw⟩: ∃x,scanDown (λx=>aN.lt e[a]! x) e u j=x:=⟨_,rfl⟩
    rw[hw] at a4
    rw[hw]
    rw[hu,hw] at P
    have a6:=A4.size
    by_cases R:(w:Int)<(u:Int)
    ·have r:=bP R
     rw[bF om] at P
     simp(disch:=omega)only[go_sem,r]
     rw[←P]
     exact⟨aB rfl,A4,F4⟩
    have r:=bH R
    rw[bI om] at P
    have J:=A4.rd (i:=u) om
    have G:=A4.rd (i:=w) om
    have ei:(u:Int)+1=((u+1:Nat):Int):=om
    have ej:(w:Int)- 1=((w- 1:Nat):Int):=om
    simp(disch:=omega)only[go_sem,r,J,G,A4.get,bB,aY,ei,ej]
    have W:=A4.swap (i:=u) (j:=w) (nx:=h4.next+16) om rfl
    exact⟨w- 1,om,u+1,w- 1,_,aB rfl,om,om,om,W.1,P,dC F4 W.2,rfl⟩
 ·rintro l h5 ⟨⟨g,rfl⟩,A5,F5⟩
  simp(disch:=omega)only[go_sem]
  exact⟨A5,F5⟩
end
def My  {α:Type}[Inhabited α][O:aN α](n:Nat):Prop:= ∀(h:H) (S N a b:Nat) (lim:Int) (d:Array α) (cp:Kh),N<60000->fD h S N d->a<=b->b<=N->b-a<=n->0<=lim->lim<1000000->Below aN.lt a b d->
 Ev T (aN.ρ α 227) [.sl S 0 N cp,aC a,aC b,aC lim,.fn (aN.f α) [] []] h (λ_ h'=> ∃e,fD h' S N e/\PermIn a b d e/\SortedIn aN.lt a b e/\Fx (· =S) h h')
theorem Pg  {α:Type}[Inhabited α][O:aN α](n:Nat)(ih: ∀m,m<n->My (α:=α) m):My (α:=α) n:=by
 intro h S N a b a5 d s hN A a9 a8 hn u w hB;refine Ko (aoX (α:=α) iA.ok (by decide)) rfl ?_;simp(disch:=omega)only[go_sem,iA,aD]
 refine aH (λk' y Y=> ∃(c l:Nat) (l':Int) (W wp:Bool) (e:Array α),(∃g:Nat->V,y= [.sl S 0 N s,aC (c:Int),aC (l:Int),aC l',.fn (aN.f α) [] [],.bool W,.bool wp,g 7,g 8,g 9,g 10,g 11,g 12,g 13,g 14,g 15,g 16,g 17,g 18,g 19,g 20,g 21,g 22,g 23])/\c<=l/\l<=N/\a<=c/\l<=b/\0<=l'/\l'<1000000/\Below aN.lt c l e/\fD Y S N e/\Fx (· =S) h Y/\
   (∀R,PermIn c l e R->SortedIn aN.lt c l R->PermIn a b d R/\SortedIn aN.lt a b R)/\k'=l-c) (b-a)
  ⟨a,b,a5,true,true,d,aB rfl,a9,a8,fM _,fM _,u,w,hB,A,Fx.refl _ h,λR h1 h2=>⟨h1,h2⟩,rfl⟩ ?_
 clear A hB u w;rintro k' y h1 ⟨c,l,l',W,wp,e,⟨g,rfl⟩,B,o,a7,a3,u,w,hB,A,F,K,rfl⟩;obtain⟨m,hm⟩:=exI (l-c);have em:(l:Int)-(c:Int)=(m:Int):=om
 have ez: ∀{x:Array α} {hx:H},fD hx S N x->l<=x.size:=λA=>by rw[A.size];exact o
 by_cases a2:(m:Int)<=12
 ·have Z:=bP a2
  simp(disch:=omega)only[go_sem,em,Z];refine (oW h1 S N c l e s om A o B).mono ?_;rintro _ h2 ⟨A2,F2⟩;obtain⟨p1,p2⟩:=insertionSort_holds (aN.swo (α:=α)) e c l B (ez A);obtain⟨q1,q2⟩:=K _ p1 p2;simp(disch:=omega)only[go_sem];exact⟨_,A2,q1,q2,dC F F2⟩
 have Z:=bH a2
 by_cases hl:l'=0
 ·have J:=bP hl
  simp(disch:=omega)only[go_sem,em,Z,J];refine (qZ h1 S N c l e s om A o B).mono ?_;rintro _ h2 ⟨A2,F2⟩;obtain⟨p1,p2⟩:=heapSort_holds (aN.swo (α:=α)) e c l B (ez A);obtain⟨q1,q2⟩:=K _ p1 p2;simp(disch:=omega)only[go_sem];exact⟨_,A2,q1,q2,dC F F2⟩
 have J:=bH hl;simp(disch:=omega)only[go_sem,em,Z,J];refine jT (λvs Y=> ∃(J:Array α) (G:Int) (g:Nat->V),vs= [.sl S 0 N s,aC (c:Int),aC (l:Int),aC G,.fn (aN.f α) [] [],.bool W,.bool wp,aC m,g 8,g 9,g 10,g 11,g 12,g 13,g 14,g 15,g 16,g 17,g 18,g 19,g 20,g 21,g 22,g 23]/\0<=G/\G<1000000/\fD Y S N J/\PermIn c l e J/\Fx (· =S) h Y) ?_ ?_
 ·cases W with
  |true=>
   simp(disch:=omega)only[go_sem];exact .inl ⟨e,l',_,(aB rfl: ∃g:Nat->V,_= [.sl S 0 N s,aC (c:Int),aC (l:Int),aC l',.fn (aN.f α) [] [],.bool true,.bool wp,aC m,g 8,g 9,g 10,g 11,g 12,g 13,g 14,g 15,g 16,g 17,g 18,g 19,g 20,g 21,g 22,g 23]).choose_spec,u,w,A,permIn_refl e c l,F⟩
  |false=>
   simp(disch:=omega)only[go_sem];refine (Ba h1 S N c l e s hN A o B).mono ?_;rintro _ h2 ⟨J,A2,p2,F2⟩;simp(disch:=omega)only[go_sem];exact .inl ⟨J,l'- 1,_,(aB rfl: ∃g:Nat->V,_= [.sl S 0 N s,aC (c:Int),aC (l:Int),aC (l'- 1),.fn (aN.f α) [] [],.bool false,.bool wp,aC m,g 8,g 9,g 10,g 11,g 12,g 13,g 14,g 15,g 16,g 17,g 18,g 19,g 20,g 21,g 22,g 23]).choose_spec,om,om,A2,p2,dC F F2⟩
 clear A F u w hl J g;rintro y h2 ⟨J,G,g,rfl,u,w,A,P2,F⟩;have B2:=hB.perm (by rw[←P2.1];exact ez A) P2;simp(disch:=omega)only[go_sem];refine (Ar h2 S N c l J s om A o om).mono ?_;rintro _ h3 ⟨p,t,rfl,Q,U,f3⟩;have A3:=A.fr f3;have F3:=dC F (Fx.of f3);clear A F;simp(disch:=omega)only[go_sem];refine jT (λvs Y=> ∃(e3:Array α) (p2:Nat) (t2:Int) (g:Nat->V),vs= [.sl S 0 N s,aC (c:Int),aC (l:Int),aC G,.fn (aN.f α) [] [],.bool W,.bool wp,aC m,aC p2,aC t2,g 10,g 11,g 12,g 13,g 14,g 15,g 16,g 17,g 18,g 19,g 20,g 21,g 22,g 23]/\c<=p2/\p2<l/\fD Y S N e3/\PermIn c l J e3/\Fx (· =S) h Y) ?_ ?_
 ·refine aW (λht=>?_) (λht=>?_)
  ·simp(disch:=omega)only[go_sem]
   refine (tZ h3 S N c l J s om A3 o om).mono ?_;rintro _ h4 ⟨A4,F4⟩;have e5:(l:Int)- 1-((p:Int)-(c:Int))=(((l- 1)-(p-c):Nat):Int):=om
   simp(disch:=omega)only[go_sem,e5];exact .inl ⟨_,(l- 1)-(p-c),1,_,(aB rfl: ∃g:Nat->V,_= [.sl S 0 N s,aC (c:Int),aC (l:Int),aC G,.fn (aN.f α) [] [],.bool W,.bool wp,aC m,aC ((l- 1)-(p-c):Nat),aC 1,g 10,g 11,g 12,g 13,g 14,g 15,g 16,g 17,g 18,g 19,g 20,g 21,g 22,g 23]).choose_spec,om,om,A4,reverseRange_holds J c l B (ez A3),dC F3 F4⟩
  ·simp(disch:=omega)only[go_sem]
   exact .inl ⟨J,p,t,_,(aB rfl: ∃g:Nat->V,_= [.sl S 0 N s,aC (c:Int),aC (l:Int),aC G,.fn (aN.f α) [] [],.bool W,.bool wp,aC m,aC p,aC t,g 10,g 11,g 12,g 13,g 14,g 15,g 16,g 17,g 18,g 19,g 20,g 21,g 22,g 23]).choose_spec,Q,U,A3,permIn_refl J c l,F3⟩
 have a0:=ez A3;clear A3 F3 Q U f3 p t g;rintro y h4 ⟨e3,p,t,g,rfl,Q,U,A,P3,F⟩;have B3:=B2.perm a0 P3;have a1:=permIn_trans _ _ _ c l P2 P3;have a6:l<=J.size:=a0;clear a0 B2 hB;refine xW (λvs Y=> ∃(P:Array α) (g:Nat->V),vs= [.sl S 0 N s,aC (c:Int),aC (l:Int),aC G,.fn (aN.f α) [] [],.bool W,.bool wp,aC m,aC p,g 9,g 10,g 11,g 12,g 13,g 14,g 15,g 16,g 17,g 18,g 19,g 20,g 21,g 22,g 23]/\fD Y S N P/\PermIn c l e P/\Below aN.lt c l P/\Fx (· =S) h Y) ?_ ?_
 ·have skip: ∀(vs:List V),(∃g:Nat->V,vs= [.sl S 0 N s,aC (c:Int),aC (l:Int),aC G,.fn (aN.f α) [] [],.bool W,.bool wp,aC m,aC p,g 9,g 10,g 11,g 12,g 13,g 14,g 15,g 16,g 17,g 18,g 19,g 20,g 21,g 22,g 23])-> ∃(P:Array α) (g:Nat->V),vs= [.sl S 0 N s,aC (c:Int),aC (l:Int),aC G,.fn (aN.f α) [] [],.bool W,.bool wp,aC m,aC p,g 9,g 10,g 11,g 12,g 13,g 14,g 15,g 16,g 17,g 18,g 19,g 20,g 21,g 22,g 23]/\fD h4 S N P/\PermIn c l e P/\Below aN.lt c l P/\Fx (· =S) h h4:=λvs ⟨g,hv⟩=>⟨e3,g,hv,A,a1,B3,F⟩
  have run: ∀g:Nat->V,Ev T (aN.ρ α 252) [.sl S 0 N s,aC (c:Int),aC (l:Int),.fn (aN.f α) [] []] h4 (λv h'=> ∃r:Array α×Bool,v= .bool r.2/\fD h' S N r.1/\Fx (· =S) h4 h'/\PermIn c l e3 r.1/\(r.2=true->SortedIn aN.lt c l r.1)):=λ_=>by
   refine (tB h4 S N c l e3 s om A o om).mono ?_;rintro v h5 ⟨hv,A5,F5⟩;obtain⟨q1,q2⟩:=partialInsertionSort_holds (aN.swo (α:=α)) e3 c l om (ez A) B3;exact⟨_,hv,A5,F5,q1,q2⟩
  cases W with
  |false=>
   simp(disch:=omega)only[go_sem];exact .inl (skip _ (aB rfl))
  |true=>cases wp with
   |false=>
    simp(disch:=omega)only[go_sem]
    exact .inl (skip _ (aB rfl))
   |true=>
    simp(disch:=omega)only[go_sem]
    refine aW (λht=>?_) (λht=>?_)
    ·simp(disch:=omega)only[go_sem]
     refine (run g).mono ?_
     rintro v h5 ⟨⟨e5,r5⟩,rfl,A5,F5,q1,q2⟩
     have A5:fD h5 S N e5:=A5
     have q1:PermIn c l e3 e5:=q1
     have P5:=permIn_trans _ _ _ c l a1 q1
     cases r5 with
     |false=>
      simp(disch:=omega)only[go_sem];exact .inl ⟨e5,_,(aB rfl: ∃g:Nat->V,_= [.sl S 0 N s,aC (c:Int),aC (l:Int),aC G,.fn (aN.f α) [] [],.bool true,.bool true,aC m,aC p,g 9,g 10,g 11,g 12,g 13,g 14,g 15,g 16,g 17,g 18,g 19,g 20,g 21,g 22,g 23]).choose_spec,A5,P5,B3.perm (ez A) q1,dC F F5⟩
     |true=>
      obtain⟨w1,w2⟩:=K _ P5 (q2 rfl);simp(disch:=omega)only[go_sem];exact .inr ⟨by simp,e5,A5,w1,w2,dC F F5⟩
    ·simp(disch:=omega)only[go_sem]
     exact .inl (skip _ (aB rfl))
 clear A P3 a1 B3 F P2 a6 e3 J;rintro y h5 ⟨P,g,rfl,A,P4,B4,F⟩;have a4:=ez A;refine xW (λvs Y=> ∃(g:Nat->V),vs= [.sl S 0 N s,aC (c:Int),aC (l:Int),aC G,.fn (aN.f α) [] [],.bool W,.bool wp,aC m,aC p,g 9,g 10,g 11,g 12,g 13,g 14,g 15,g 16,g 17,g 18,g 19,g 20,g 21,g 22,g 23]/\fD Y S N P/\Fx (· =S) h Y) ?_ ?_
 ·by_cases h0:(0:Int)<(c:Int)
  case neg=>
   have Z:=bH h0;simp(disch:=omega)only[go_sem,Z];exact .inl ⟨_,(aB rfl: ∃g:Nat->V,_= [.sl S 0 N s,aC (c:Int),aC (l:Int),aC G,.fn (aN.f α) [] [],.bool W,.bool wp,aC m,aC p,g 9,g 10,g 11,g 12,g 13,g 14,g 15,g 16,g 17,g 18,g 19,g 20,g 21,g 22,g 23]).choose_spec,A.fr ((Fr.refl h5).bA om),dC F (Fx.of ((Fr.refl h5).bA om))⟩
  have Z:=bP h0;have ea:(c:Int)- 1=((c- 1:Nat):Int):=om
  have c1:=A.rd (i:=c- 1) om;have c2:=A.rd (i:=p) om;simp(disch:=omega)only[go_sem,Z,ea,c1,c2];refine (dG A (i:=c- 1) (j:=p) om om _ om).mono ?_;rintro _ h6 ⟨z,rfl,hz,b0⟩;have f6:Fr h5 h6:=Fr.trans ((Fr.refl h5).bA om) b0;have A6:=A.fr f6;have F6:=dC F (Fx.of f6)
  cases hl:aN.lt P[c- 1]! P[p]! with
  |true=>
   simp(disch:=omega)only[go_sem,hz,hl];exact .inl ⟨_,(aB rfl: ∃g:Nat->V,_= [.sl S 0 N s,aC (c:Int),aC (l:Int),aC G,.fn (aN.f α) [] [],.bool W,.bool wp,aC m,aC p,g 9,g 10,g 11,g 12,g 13,g 14,g 15,g 16,g 17,g 18,g 19,g 20,g 21,g 22,g 23]).choose_spec,A6,F6⟩
  |false=>
   obtain⟨w1,w2,w3,w4,w5⟩:=round_eq (aN.swo (α:=α)) (partitionEqual_holds aN.lt) om Q U a4 B4 hl (Prod.eta (partitionEqual aN.lt P c l p)).symm;simp(disch:=omega)only[go_sem,hz,hl];refine (xB h6 S N c l p P s om A6 o Q U).mono ?_;rintro _ h7 ⟨rfl,A7,F7⟩;simp(disch:=omega)only[go_sem];refine .inr ⟨by simp,l-(partitionEqual aN.lt P c l p).1,om,(partitionEqual aN.lt P c l p).1,l,G,W,wp,_,aB rfl,w2,o,om,a3,u,w,w4,A7,dC F6 F7,λR r1 r2=>?_,rfl⟩;obtain⟨t1,t2⟩:=w5 R r1 r2;exact K R (permIn_trans _ _ _ c l P4 t1) t2
 clear A F;rintro y h6 ⟨g,rfl,A,F⟩;have e8:=Dh m (k:=8) (m:=8) rfl;simp(disch:=omega)only[go_sem];refine (pG h6 S N c l p P s om A o Q U).mono ?_;obtain⟨r,hr⟩:=exI (partition aN.lt P c l p);rw[hr];obtain⟨q,ap,e5⟩:=r;obtain⟨w1,w2,w3,w4,w5,w6,w7⟩:=round_part (aN.swo (α:=α)) (partition_holds aN.lt) Q U a4 B4 hr;rintro _ h7 ⟨rfl,A7,F7⟩;have A7:fD h7 S N e5:=A7;have F7:=dC F F7;have el:(q:Int)-(c:Int)=((q-c:Nat):Int):=om
 have er:(l:Int)-(q:Int)=((l-q:Nat):Int):=om
 have Z:(q:Int)+1=((q+1:Nat):Int):=om
 simp(disch:=omega)only[go_sem,el,er,e8];refine aW (λht=>?_) (λht=>?_)
 ·simp(disch:=omega)only[go_sem]
  refine (ih (q-c) om h7 S N c q G e5 s hN A7 w1 om (fM _) u w w4).mono ?_;rintro _ h8 ⟨L,A8,p8,s8,F8⟩;obtain⟨u1,u2⟩:=w6 L p8 s8;simp(disch:=omega)only[go_sem,Z];refine⟨l-(q+1),om,q+1,l,G,_,ap,L,aB rfl,om,o,om,a3,u,w,u1,A8,dC F7 F8,λR r1 r2=>?_,rfl⟩;obtain⟨t1,t2⟩:=u2 R r1 r2;exact K R (permIn_trans _ _ _ c l P4 t1) t2
 ·simp(disch:=omega)only[go_sem,Z]
  refine (ih (l-(q+1)) om h7 S N (q+1) l G e5 s hN A7 om o (fM _) u w w5).mono ?_;rintro _ h8 ⟨L,A8,p8,s8,F8⟩;obtain⟨u1,u2⟩:=w7 L p8 s8;simp(disch:=omega)only[go_sem];refine⟨q-c,om,c,q,G,_,ap,L,aB rfl,om,om,a7,om,u,w,u1,A8,dC F7 F8,λR r1 r2=>?_,rfl⟩;obtain⟨t1,t2⟩:=u2 R r1 r2;exact K R (permIn_trans _ _ _ c l P4 t1) t2
theorem Ha  {α:Type}[Inhabited α][O:aN α](n:Nat):My (α:=α) n:=by
 induction n using Nat.strongRecOn with
 |_ n ih=>exact Pg n  ih
theorem zU {α:Type}[Inhabited α][O:aN α](h:H)(S N:Nat)(d:Array α)(a:Kh)(c:N<60000)(A:fD h S N d):
  Ev T (aN.ρ α 186) [.sl S 0 N a,.fn (aN.f α) [] []] h (λ_ h'=> ∃e,fD h' S N e/\PermIn 0 N d e/\SortedIn aN.lt 0 N e/\Fx (· =S) h h'):=by
 refine Ko (aoX (α:=α) eU.ok (by decide)) rfl ?_
 have k:bitsLen N<=16:=(bitsLen_le_iff _ 16).2 om
 simp(disch:=omega)only[go_sem,eU,aD,dK (n:=(N:Int)) om om]
 refine (Tx N h om).mono ?_
 rintro _ b ⟨rfl,i⟩
 subst i
 simp(disch:=omega)only[go_sem]
 refine (Ha N b S N 0 N _ d a c A om om om om om (.inl rfl)).mono ?_
 rintro _ l ⟨e,j,p,s,F⟩
 simp(disch:=omega)only[go_sem]
 exact⟨e,j,p,s,F⟩
theorem Cj (a:Int)(h:H):Ev T 198 [aC a] h (λv h'=>v= .bool false/\h'=h):=by
 refine cV mZ rfl ?_;have e:decide (a≠a)=false:=bH om;simp(disch:=omega)only[go_sem,mZ,aD,e]
def rQ (a b:Int):Int:=if a<b then -1 else if b<a then 1 else 0
theorem yD (a b:Int)(h:H):Ev T 147 [aC a,aC b] h (λv h'=>v= aC (rQ a b)/\Fr h h'):=by
 refine cV uM rfl ?_;simp(disch:=omega)only[go_sem,uM,aD];refine (Cj a h).mono ?_;rintro _ c ⟨rfl,rfl⟩;simp(disch:=omega)only[go_sem];refine (Cj b c).mono ?_;rintro _ j ⟨rfl,rfl⟩;simp(disch:=omega)only[go_sem];unfold rQ
 by_cases c:a<b
 ·have d:=bP c
  simp(disch:=omega)only[go_sem,d,bF c];exact Fr.refl _
 ·have d:=bH c
  by_cases f:b<a
  ·have i:=bP f
   simp(disch:=omega)only[go_sem,d,i,bI c,bF f];exact Fr.refl _
  ·have i:=bH f
   simp(disch:=omega)only[go_sem,d,i,bI c,bI f];exact Fr.refl _
def NF:List Int->Int
 | []=>0
 |x::r=>if x=0 then NF r else x
theorem OG {l:List Int}{i:Nat}(hi:i<l.length)(h:l.getD i 0=0):NF (l.drop i)=NF (l.drop (i+1)):=by
 rw[AR hi];show (if l[i]=0 then _ else _)=_;rw[bF (by rw[List.getD,dD hi] at h;exact h)]
theorem aaP {l:List Int}{i:Nat}(hi:i<l.length)(h:l.getD i 0≠0):NF (l.drop i)=l.getD i 0:=by
 rw[AR hi];show (if l[i]=0 then _ else l[i])=_;have e:l.getD i 0=l[i]:=by rw[List.getD,dD hi];rfl
 rw[bI (by rw[←e];exact h),e]
theorem agZ (u:V)(l:List Int)(h:H)(B:l.length<1000000)(p:SI h u l):Ev T 191 [u] h (λv h'=>v= aC (NF l)/\Fr h h'):=by
 refine cV Hk rfl ?_;have A:=p.lens;obtain⟨id,m,w,n,s⟩:=p.open;simp(disch:=omega)only[go_sem,Hk,aD,A];refine aH (λr z y=> ∃(i:Nat),(∃g:Nat->V,z= [u,aC 0,aC 0,g 3,u,aC (l.length:Int),aC i,g 7,g 8])/\i<=l.length/\NF (l.drop i)=NF l/\Fr h y/\r=l.length-i) l.length
   ⟨0,aB rfl,iJ _,rfl,Fr.refl h,rfl⟩ ?_
 rintro r q t ⟨i,⟨g,rfl⟩,hi,d,f,rfl⟩
 by_cases b:(i:Int)<(l.length:Int)
 ·have j:=bP b
  have a:i<l.length:=om
  have ci:t.cell id (m+i)=some (aC (l.getD i 0)):=by rw[f.cell (n om),s i a]
  generalize k:l.getD i 0=x at ci;simp(disch:=omega)only[go_sem,j,w.ixa,ci]
  by_cases c:x=0
  ·have o:decide (x≠0)=false:=bH (by simpa using c)
   simp(disch:=omega)only[go_sem,o];rw[eJ i];exact⟨l.length-(i+1),om,i+1,aB rfl,om,by rw[←OG a (k.trans c)];exact d,f.bA om,rfl⟩
  ·have o:=bP c
   simp(disch:=omega)only[go_sem,o];exact⟨by rw[←d,aaP a (by rw[k];exact c),k],f.bA om⟩
 have j:=bH b;obtain rfl:i=l.length:=om
 simp(disch:=omega)only[go_sem,j];rw[List.drop_length] at d;exact⟨by rw[←d];rfl,f⟩
structure KE where
 rep:V
 ord:Nat
 size:Nat
 ranks:V
 fst:Nat
 hrep:rep.cells= [rep]/\rep.one=true/\dE rep rep=true
 hranks:ranks.cells= [ranks]/\ranks.one=true/\dE ranks ranks=true
instance:Inhabited KE:=⟨⟨.aE,0,0,.aE,0,⟨rfl,rfl,rfl⟩,⟨rfl,rfl,rfl⟩⟩⟩
def KE.enc (a:KE):List V:= [a.rep,aC (a.ord:Int),aC (a.size:Int),a.ranks]
def KE.cmp (a b:KE):Int:=NF [rQ a.ord b.ord,rQ a.size b.size,rQ a.fst b.fst]
def KE.lt (a b:KE):Bool:=decide (a.cmp b<0)
theorem Hf (a:KE)(h:H):Cv h (.agg a.enc)=some (.ptr h.next 0,h.new (.cells false a.enc)):=tL h _ (by simp [KE.enc,a.hrep.2.1,a.hranks.2.1,show (aC (a.ord:Int)).one=true from rfl,show (aC (a.size:Int)).one=true from rfl])
theorem JF (a b:KE)(h:H):Ev T 188 [.agg a.enc,.agg b.enc] h (λv h'=>v= aC (rQ a.ord b.ord)/\Fr h h'):=by
 refine cV pP rfl ?_;obtain⟨A,d⟩:=exI h.next;obtain⟨t,k,f,j,w,s⟩:=dF d a.enc;obtain⟨c,m,x,l,i,p⟩:=dF f b.enc;have n:c.get A=some (.cells false a.enc):=by rw[i _ om];exact j
 have q:c.cell A 1=some (aC (a.ord:Int)):=by rw[H.aF n];rfl
 have r:c.cell (A+1) 1=some (aC (b.ord:Int)):=by rw[H.aF l];rfl
 simp(disch:=omega)only[go_sem,pP,aD,Hf,d,k,f,m,q,r];refine (yD _ _ c).mono ?_;rintro _ u ⟨rfl,o⟩;simp(disch:=omega)only[go_sem];exact (s.trans p).trans o
theorem vW (a b:KE)(h:H):Ev T 189 [.agg a.enc,.agg b.enc] h (λv h'=>v= aC (rQ a.size b.size)/\Fr h h'):=by
 refine cV aeO rfl ?_;obtain⟨A,d⟩:=exI h.next;obtain⟨t,k,f,j,w,s⟩:=dF d a.enc;obtain⟨c,m,x,l,i,p⟩:=dF f b.enc;have n:c.get A=some (.cells false a.enc):=by rw[i _ om];exact j
 have q:c.cell A 2=some (aC (a.size:Int)):=by rw[H.aF n];rfl
 have r:c.cell (A+1) 2=some (aC (b.size:Int)):=by rw[H.aF l];rfl
 simp(disch:=omega)only[go_sem,aeO,aD,Hf,d,k,f,m,q,r];refine (yD _ _ c).mono ?_;rintro _ u ⟨rfl,o⟩;simp(disch:=omega)only[go_sem];exact (s.trans p).trans o
def KE.At (h:H)(a:KE):Prop:= ∃id off n cap,a.ranks= .sl id off (n+1) cap/\id<h.next/\h.cell id off=some (aC (a.fst:Int))
theorem JT (a b:KE)(h:H)(s:a.At h)(P:b.At h):Ev T 190 [.agg a.enc,.agg b.enc] h (λv h'=>v= aC (rQ a.fst b.fst)/\Fr h h'):=by
 refine cV pQ rfl ?_;obtain⟨A,u⟩:=exI h.next;obtain⟨h1,Y,x,z,o1,f1⟩:=dF u a.enc;obtain⟨c,Z,n2,F,U,L⟩:=dF x b.enc;obtain⟨i,q,G,W,R,Q,O⟩:=s;obtain⟨r,l,y,B,eb,lb,N⟩:=P;have F2:=f1.trans L;have J:c.get A=some (.cells false a.enc):=by rw[U _ om];exact z
 have m:c.cell A 3=some a.ranks:=by rw[H.aF J];rfl
 have p:c.cell (A+1) 3=some b.ranks:=by rw[H.aF F];rfl
 rw[R] at m;rw[eb] at p;have w:c.cell i q=some (aC (a.fst:Int)):=by rw[F2.cell Q];exact O
 have t:c.cell r l=some (aC (b.fst:Int)):=by rw[F2.cell lb];exact N
 simp(disch:=omega)only[go_sem,pQ,aD,Hf,u,Y,x,Z,m,p,w,t];refine (yD _ _ _).mono ?_;rintro _ d ⟨rfl,K⟩;have f:Fr c d:=((Fr.refl c).bA om).trans K;have s:=F2.next;have j:d.cell A 3=some (.sl i q (G+1) W):=by rw[f.cell om];exact m
 have o:d.cell (A+1) 3=some (.sl r l (y+1) B):=by rw[f.cell om];exact p
 have k:d.cell i q=some (aC (a.fst:Int)):=by rw[f.cell om];exact w
 have n:d.cell r l=some (aC (b.fst:Int)):=by rw[f.cell om];exact t
 simp(disch:=omega)only[go_sem,j,o,k,n];exact F2.trans f
theorem Ck {h:H}{A:Nat}{ro:Bool}{a:KE}(b:h.get A=some (.cells ro a.enc)):h.row A 0 4=some a.enc:=by
 simp [H.row,b,sub,KE.enc]
theorem Jp (a:KE):dE (.agg a.enc) (.agg a.enc)=true:=by
 show aoW a.enc a.enc=true;simp [KE.enc,aoW,dE,a.hrep.2.2,a.hranks.2.2]
theorem KE.At.fr {a:KE}{h h':H}(x:a.At h)(f:Fr h h'):a.At h':=by
 obtain⟨c,i,l,k,d,b,j⟩:=x;exact⟨c,i,l,k,d,iW b f.next,by rw[f.cell b];exact j⟩
theorem DK (h:H)(x y z:Int):lQ h 1 [aC 0] 3 [(0,1,aC x),(1,1,aC y),(2,1,aC z)]=some (.sl h.next 0 3 (.kn 3),h.new (.cells false (ints [x,y,z]))):=rfl
theorem acI (a b:KE)(h:H)(F:a.At h)(P:b.At h):Ev T 187 [.agg a.enc,.agg b.enc] h (λv h'=>v= aC (a.cmp b)/\Fr h h'):=by
 refine cV Br rfl ?_;obtain⟨A,x⟩:=exI h.next;obtain⟨h1,U,z,G,o1,f1⟩:=dF x a.enc;obtain⟨i,Y,n2,j,Q,N⟩:=dF z b.enc;have F2:=f1.trans N;have L:i.get A=some (.cells false a.enc):=by rw[Q _ om];exact G
 simp(disch:=omega)only[go_sem,Br,aD,Hf,x,U,z,Y,Ck L,Ck j,Jp,H.Ym];have hn:=F2.next;refine (JF a b _).mono ?_;rintro _ m ⟨rfl,t⟩;have y:Fr i m:=((Fr.refl i).bA om).trans t;have o:m.get (A+1)=some (.cells false b.enc):=by rw[y.get _ om];exact j
 simp(disch:=omega)only[go_sem,Ck o,Jp];refine (vW a b _).mono ?_;rintro _ W ⟨rfl,B⟩;have l:=y.trans B;have q:W.get (A+1)=some (.cells false b.enc):=by rw[l.get _ om];exact j
 simp(disch:=omega)only[go_sem,Ck q,Jp];refine (JT a b _ (F.fr (F2.trans l)) (P.fr (F2.trans l))).mono ?_;rintro _ d ⟨rfl,u⟩;have s:=l.trans u;have n:d.get (A+1)=some (.cells false b.enc):=by rw[s.get _ om];exact j
 simp(disch:=omega)only[go_sem,Ck n,Jp];obtain⟨I,hI⟩:=exI (i.next+9+9);have n5:=u.next;have n4:=B.next;have n3:i.next+9+12<=m.next:=t.next;simp(disch:=omega)only[go_sem,hI,DK]
 obtain⟨f,c⟩: ∃f:H,f=H.mk ((H.mk d.tr I).new (Ob.cells false (ints [rQ a.ord b.ord,rQ a.size b.size,rQ a.fst b.fst]))).tr d.next:=⟨_,rfl⟩
 rw[←c];have Z:f.get I=aZ (ints [rQ a.ord b.ord,rQ a.size b.size,rQ a.fst b.fst]):=by rw[c];exact H.aL (H.mk d.tr I) _
 have n6:f.next=d.next:=by rw[c]
 have O: ∀k,k≠I->f.get k=d.get k:=λk r=>by rw[c];exact H.bG (H.mk d.tr I) (by simpa using r) _
 have R:Fr i f:=⟨by have:=s.next;omega,λk r=>by rw[O k om];exact s.get k r⟩
 refine (agZ _ [rQ a.ord b.ord,rQ a.size b.size,rQ a.fst b.fst] f (by simp) (SV.all (by simp [aP]) om Z _)).mono ?_;rintro _ J ⟨rfl,K⟩;have w:=R.trans K;have p:J.get (A+1)=some (.cells false b.enc):=by rw[w.get _ om];exact j
 simp(disch:=omega)only[go_sem,Ck p,Jp];exact⟨rfl,F2.trans w⟩
theorem KE.lt_iff (a b:KE):a.lt b=true↔a.ord<b.ord∨a.ord=b.ord/\(a.size<b.size∨a.size=b.size/\a.fst<b.fst):=by
 unfold KE.lt KE.cmp NF NF NF NF rQ;rw[decide_eq_true_eq]
 repeat' split
 all_goals omega
theorem agI:SWO KE.lt where
 irrefl x:=by rw[←Bool.not_eq_true,KE.lt_iff];omega
 trans x y z h1 h2:=by rw[KE.lt_iff] at*;omega
 ntrans x y z h1 h2:=by rw[←Bool.not_eq_true,KE.lt_iff] at*;omega
theorem aoY: ∀c:C,aiT (λk=>k) c=c
 | .skip=>rfl
 | .reg l=>congrArg C.reg ((Vy λi _=>show apF (λk=>k) i=id i from by
   obtain⟨d,g,a⟩:=i
   cases a<;>rfl).trans (List.map_id l))
 | .any k n l=>congrArg (C.any k n) ((Vy λi _=>show apI (λk=>k) i=id i from by
   obtain⟨i,⟨d,g,a⟩,h,j⟩:=i
   cases a<;>rfl).trans (List.map_id l))
 | .regd l x xs=>rfl
 | .seq a b=>by rw[aiT,aoY a,aoY b]
 | .ite x a b=>by rw[aiT,aoY a,aoY b]
 | .block i c=>by rw[aiT,aoY c]
 | .loop c=>by rw[aiT,aoY c]
 | .exit i=>rfl
 | .ret=>rfl
 | .scope c=>rfl
 | .range f p a b=>rfl
 | .fail=>rfl
theorem apH (o:Option Ay.Fn):o.map (apE λk=>k)=o:=by
 cases o with
 |none=>rfl
 |some f=>
  show some (apE _ f)=_;unfold apE;rw[aoY]
def KE.Pp (hB:H)(b0 S:Nat)(a:KE):Prop:= ∃id off n cap,a.ranks= .sl id off (n+1) cap/\id<b0/\id≠S/\hB.cell id off=some (aC (a.fst:Int))
def Bb (hB:H)(b0 S:Nat)(h:H):Prop:=b0<=h.next/\ ∀q,q<b0->q≠S->h.get q=hB.get q
theorem KE.Pp.at {i h:H}{j S:Nat}{a:KE}(p:a.Pp i j S)(b:Bb i j S h):a.At h:=by
 obtain⟨id,c,n,d,e,f,l,k⟩:=p;refine⟨id,c,n,d,e,iW f b.1,?_⟩;rw[←k];unfold H.cell;rw[b.2 id f l]
@[reducible] def ahG (hB:H)(b0 S:Nat):aN KE where
 lt:=KE.lt
 enc:=KE.enc
 P:=KE.Pp hB b0 S
 B:=Bb hB b0 S
 f:=187
 b0:=b0
 S:=S
 swo:=agI
 len _:=rfl
 one a:=by simp [KE.enc,a.hrep.2.1,a.hranks.2.1,show (aC (a.ord:Int)).one=true from rfl,show (aC (a.size:Int)).one=true from rfl]
 eqv:=Jp
 cmp h a b hb pa pb:=(acI a b h (pa.at hb) (pb.at hb)).mono λv h' ⟨e,f⟩=>⟨_,e,rfl,f⟩
 bfr h h' b f:=⟨mT b.1 f.next,λq h1 h2=>by rw[f.get q (iW h1 b.1)];exact b.2 q h1 h2⟩
 bS h h' b f:=⟨mT b.1 f.next,λq h1 h2=>by rw[f.get q (iW h1 b.1) h2];exact b.2 q h1 h2⟩
 bR h h' R b hR f:=⟨mT b.1 f.next,λq h1 h2=>by rw[f.get q (iW h1 b.1) (λe=>by have:q=R:=e;omega)];exact b.2 q h1 h2⟩
 bn h b:=b.1
 ρ:=λk=>k
 hT:=λk _=>(apH _).symm
 s1:=rfl
 s2:=rfl
 s3:=rfl
theorem Pa {l:List KE}{N:Nat}(k:l.length=N){e:Array KE}(p:PermIn 0 N l.toArray e)(m:SortedIn KE.lt 0 N e):e.toList.Perm l/\e.toList.Pairwise (λa b=>KE.lt b a=false):=by
 obtain⟨n,u,q⟩:=p;have c:e.size=N:=by rw[n];simpa using k
 refine⟨?_,?_⟩
 ·have s:(e.extract 0 N).toList=e.toList:=by rw[←c];simp
  have o:(l.toArray.extract 0 N).toList=l:=by rw[←k];simp
  rwa [s,o] at q
 ·rw[JX]
  intro i j hi h d;have f:j<N:=by simpa [c] using h
  have:=m i j (iJ _) d f;have r:e[i]! =e.toList[i]:=by simp at hi;simp [hi]
  have t:e[j]! =e.toList[j]:=by simp at h;simp [h]
  rw[r,t] at this;exact this
def qY (l:List KE):List V:=l.flatMap KE.enc
theorem TY (h:H)(S d:Nat)(l:List KE)(f:Kh)(j:l.length<60000)(m:h.get S=aZ (qY l))(q:S<h.next)(r:d<=h.next)(k: ∀a∈l,a.Pp h d S):
  Ev T 186 [.sl S 0 l.length f,.fn 187 [] []] h (λ_ h'=> ∃l',h'.get S=aZ (qY l')/\l'.Perm l/\l'.Pairwise (λa b=>KE.lt b a=false)/\Fx (· =S) h h'):=by
 letI:=ahG h d S
 have A:fD h S l.length l.toArray:=⟨m,by simp,q,rfl,⟨r,λ_ _ _=>rfl⟩,λi hi=>by
  have c:i<l.length:=by simpa using hi
  have:l.toArray[i]! =l[i]:=by simp [c]
  rw[this]
  exact k _ (zG c)⟩
 refine (zU h S l.length l.toArray f j A).mono ?_
 rintro _ h' ⟨e,o,p,s,F⟩
 obtain⟨n,t⟩:=Pa rfl p s
 exact⟨e.toList,o.get,n,t,F⟩
end Go.Proofs.YtcdbmkidaecdiaaGreat.Cls
namespace Go.Proofs.YtcdbmkidaecdiaaGreat
open Go Go.Ay Go.Pm
set_option maxRecDepth 100000
section
variable {i j p:Nat} {S:LN} {Q:List Nat}
section
variable {n:Nat} {G:List Nat->Prop} {L:LN}
theorem yK {l:LN}(nd:l.Nodup)(hi:i<l.length)(b:j<l.length)(e:l.getD i []=l.getD j []):i=j:=by
 have c:l.getD i []=l[i]:=by rw[List.getD,dD hi];rfl
 have d:l.getD j []=l[j]:=by rw[List.getD,dD b];rfl
 rw[c,d] at e;have h:=JX.1 nd;rcases Nat.lt_trichotomy i j with a|a|a
 ·exact absurd e (h i j hi b a)
 ·exact a
 ·exact absurd e.symm (h j i b hi a)
def cR (G:List Nat->Prop)(L:LN)(i j:Nat):Prop:=cj G (L.getD i []) (L.getD j [])
open Classical in
noncomputable def kY (G:List Nat->Prop)(L:LN)(i:Nat):List Nat:=(List.range L.length).filter λj=>decide (cR G L i j)
theorem tA:j∈kY G L i↔j<L.length/\cR G L i j:=by
 classical
 unfold kY;rw[CH,Gu,Qf]
theorem Zq (i:Nat):(kY G L i).Pairwise (· < ·):=by
 classical
 unfold kY;exact List.Pairwise.filter _ List.pairwise_lt_range
theorem Oz (i:Nat):(kY G L i).Nodup:=by
 classical
 unfold kY;exact List.Pairwise.filter _ List.nodup_range
def HV (G:List Nat->Prop)(L:LN)(i:Nat):Prop:= ∀j,j<i-> ¬cR G L j i
open Classical in
noncomputable def jW (G:List Nat->Prop)(L:LN)(k:Nat):List Nat:=(List.range k).filter λj=>decide (HV G L j)
theorem Nx (k:Nat):(HV G L k->jW G L (k+1)=jW G L k++ [k])/\(¬HV G L k->jW G L (k+1)=jW G L k):=by
 classical
 unfold jW;rw[List.range_succ,List.filter_append];refine⟨λh=>?_,λh=>?_⟩
 ·rw[List.filter_cons_of_pos (by simpa using h)];rfl
 ·rw[List.filter_cons_of_neg (by simpa using h),List.filter_nil,vF]
theorem kV {k:Nat}:i∈jW G L k↔i<k/\HV G L i:=by
 classical
 unfold jW;rw[CH,Gu,Qf]
variable (hG:iX n G) (E:dW G L)
include hG E
omit hG in
theorem oS (hi:i<L.length):G (L.getD i []):=(E.mem _).1 (bD hi)
theorem lY (hi:i<L.length):bE n (L.getD i []):=hG.cU (oS E hi)
theorem Uw (hi:i<L.length):cR G L i i:=XO hG (lY hG E hi)
theorem Ls (hi:i<L.length)(h:cR G L i j):cR G L j i:=XN hG (lY hG E hi) h
theorem wJ {k:Nat}(hi:i<L.length)(h:cR G L i j)(h2:cR G L j k):cR G L i k:=UT hG (lY hG E hi) h h2
theorem Vo (hi:i<L.length): ∃r,r<=i/\HV G L r/\cR G L r i:=by
 induction i using Nat.strongRecOn with
 |_ i ih=>
  by_cases h:HV G L i
  ·exact⟨i,fM _,h,Uw hG E hi⟩
  ·obtain⟨j,b,a⟩: ∃j,j<i/\cR G L j i:=Jg λc=>h λj b a=>c ⟨j,b,a⟩
   obtain⟨r,k,f,d⟩:=ih j b om;exact⟨r,om,f,wJ hG E om d a⟩
theorem VQ {r s:Nat}(c:r<L.length)(a:s<L.length)(f:HV G L r)(h2:HV G L s)(b:cR G L r i)(d:cR G L s i):r=s:=by
 have l:=wJ hG E c b (Ls hG E a d);have k:=wJ hG E a d (Ls hG E c b);rcases Nat.lt_trichotomy r s with h|h|h
 ·exact absurd l (h2 r h)
 ·exact h
 ·exact absurd k (f s h)
omit hG E in
structure BQ (G:List Nat->Prop)(L S:LN)(i:Nat)(Q:List Nat)(p:Nat):Prop where
 nd:Q.Nodup
 ne:0<Q.length
 hd:Q.getD 0 0=i
 mem: ∀j∈Q,j<L.length/\cR G L i j
 cl: ∀k,k<p-> ∀s∈S,∃j∈Q,L.getD j []=cW (L.getD (Q.getD k 0) []) s
omit hG E in
theorem BQ.len (b:BQ G L S i Q p):Q.length<=L.length:=by
 have h:Q ⊆ List.range L.length:=λj a=>Gu.2 (b.mem j a).1
 have:=List.Nodup.length_le_of_subset b.nd h;rwa [NM] at this
theorem BQ.done (b:BQ G L S i Q p)(w:Q.length<=p)(hi:i<L.length)(q: ∀s∈S,G s)(a: ∀x,G x->bX n (λg=>g∈S) x)(j:Nat):j∈Q↔j<L.length/\cR G L i j:=by
 refine⟨b.mem j,λ⟨o,hc⟩=>?_⟩
 have f: ∃k∈Q,L.getD k []=L.getD j []:=by
  refine adZ (S:=λg=>g∈S) (λg h=>hG.cU (q g h)) a (P:=λy=> ∃k∈Q,L.getD k []=y) (lY hG E hi) ⟨i,by rw[←b.hd];exact bD b.ne,rfl⟩ ?_ hc;rintro y g Y ⟨k,c,rfl⟩ h;obtain⟨t,r,v⟩:=zF.1 c;obtain⟨u,m,l⟩:=b.cl t om g h;have e:Q.getD t 0=k:=by rw[Pm.cJ r,v]
  rw[e] at l;exact⟨u,m,l⟩
 obtain⟨k,c,e⟩:=f;have d:=(b.mem k c).1;rw[←yK E.nodup d o e];exact c
theorem BQ.sort (b:BQ G L S i Q p)(f:Q.length<=p)(hi:i<L.length)(k: ∀s∈S,G s)(a: ∀x,G x->bX n (λg=>g∈S) x){c:List Int}(d:c.Perm (zi Q))(h2:c.Pairwise (· <= ·)):c=zi (kY G L i):=by
 refine AN (d.trans ?_) h2 ?_
 ·refine List.Perm.map _ ((List.perm_ext_iff_of_nodup b.nd (Oz i)).2 λj=>?_)
  rw[b.done hG E f hi k a j,tA]
 ·unfold zi
  rw[List.pairwise_map];exact (Zq i).imp λh=>om
theorem Sr (hi:i<L.length)(l:HV G L i):0<(kY G L i).length/\(kY G L i).getD 0 0=i:=by
 have f:i∈kY G L i:=tA.2 ⟨hi,Uw hG E hi⟩;have a:=HJ f;refine⟨a,?_⟩;have h:=tA.1 (bD (d:=0) a);obtain⟨k,m,o⟩:=zF.1 f;have b:=JX.1 (Zq (G:=G) (L:=L) i);rw[Pm.cJ a] at*
 by_cases c:k=0
 ·subst c;exact o
 ·have q:=b 0 k a m om
  exact absurd (Ls hG E hi h.2) (l _ om)
end
end
end Go.Proofs.YtcdbmkidaecdiaaGreat
namespace Go.Ay
open Go
def OQ (o:Option Ob)(h:H)(id:Nat)(s:Cy)(k y:V):Option (V×H):=match o with
 |some (.wmap sh es)=>if s=sh/\isKey s k=true then
   some (V.undef,h.set id (some (.wmap sh (match gY k es with
    |some e=>es.set e.1 (k,y)
    |none=>es++ [(k,y)]))))
  else none
 |_=>none
def aeH (s:Cy)(h:H)(x k y:V):Option (V×H):=match x with
 | .mp id=>OQ (h.get id) h id s k y
 |_=>none
theorem ZU (ρ:X->V)(h:H)(s:Cy)(x k y:X):cI ρ h (.msw s x k y)=aeH s h (ρ x) (ρ k) (ρ y):=by
 simp only[cI,aeH,OQ];cases ρ x<;>try rfl
theorem YP (s:Cy)(h:H)(id:Nat)(k y:V):aeH s h (.mp id) k y=OQ (h.get id) h id s k y:=rfl
def RK (o:Option Ob)(s:Cy)(zero:V)(ok:Bool)(k:V):Option V:=match o with
 |some (.wmap sh es)=>if s=sh/\isKey s k=true then
   match gY k es with
   |some e=>some (if ok then .tup [e.2,.bool true] else e.2)
   |none=>some (if ok then .tup [zero,.bool false] else zero)
  else none
 |_=>none
def afQ (s:Cy)(zero:V)(ok:Bool)(h:H)(x k:V):Option V:=match x with
 | .mp id=>RK (h.get id) s zero ok k
 |_=>none
theorem acA (ρ:X->V)(h:H)(s:Cy)(zero:V)(ok:Bool)(x k:X):cI ρ h (.lkw s zero ok x k)=(afQ s zero ok h (ρ x) (ρ k)).map (·,h):=by
 simp only[cI,afQ,RK];cases ρ x<;>try rfl
 rename_i id;simp only
 cases hg:h.get id with
 |none=>rfl
 |some o=>
  cases o<;>try rfl
  rename_i b c;simp only
  by_cases a:s=b/\isKey s (ρ k)=true
  ·rw[bF a,bF a]
   cases gY (ρ k) c<;>rfl
  ·rw[bI a,bI a];rfl
theorem abX (s:Cy)(zero:V)(ok:Bool)(h:H)(id:Nat)(k:V):afQ s zero ok h (.mp id) k=RK (h.get id) s zero ok k:=rfl
attribute [go_sem] ZU YP acA abX
end Go.Ay
namespace Go.Proofs.YtcdbmkidaecdiaaGreat
open Go Go.Ay Go.Pm
set_option maxRecDepth 100000
def Ie (L:LN)(k:Nat):List (V×V):=(List.range k).map λi=>(V.str (L.getD i []),aC i)
theorem Iy (k:V): ∀(a b:List (V×V)),gY k a=none->gY k (a++b)=(gY k b).map λq=>(q.1+a.length,q.2)
 | [],b,_=>by
  cases h:gY k b<;>simp [h]
 |e::a,b,h=>by
  show (if dE k e.1 then some (0,e.2) else (gY k (a++b)).map λq=>(q.1+1,q.2))=_;have c:(if dE k e.1 then some (0,e.2) else (gY k a).map λq=>(q.1+1,q.2))=none:=h;split at c
  ·cases c
  ·rename_i d
   rw[bI d,Iy k a b (by cases h2:gY k a with|none=>rfl|some x=>rw[h2] at c;cases c),Option.map_map]
   rfl
theorem Oy (L:LN)(k:Nat):Ie L (k+1)=Ie L k++ [(V.str (L.getD k []),aC k)]:=by
 unfold Ie;rw[List.range_succ,List.map_append];rfl
theorem akF {L:LN}{w:List Nat}: ∀{k:Nat},(∀i,i<k->L.getD i []≠w)->gY (.str w) (Ie L k)=none
 |0,_=>rfl
 |k+1,h=>by
  rw[Oy,Iy _ _ _ (akF λi hi=>h i om)]
  have:(dE (.str w) (.str (L.getD k [])))=false:=by
   have:=h k om;simp only[dE,beq_eq_false_iff_ne,ne_eq];exact λe=>this e.symm
  show Option.map _ (if dE (.str w) (.str (L.getD k [])) then _ else _)=_;rw[bI (by rw[this];simp)];rfl
theorem Xt {L:LN}(nd:L.Nodup): ∀{k i:Nat},k<=L.length->i<k->gY (.str (L.getD i [])) (Ie L k)=some (i,aC i)
 |0,i,_,h=>om
 |k+1,i,hk,h=>by
  rw[Oy]
  by_cases e:i=k
  ·subst e
   rw[Iy _ _ _ (akF λj m e=>by have:=yK nd om om e;omega)];show Option.map _ (if dE (.str (L.getD i [])) (.str (L.getD i [])) then some (0,aC i) else _)=_;rw[bF (by simp [dE])];simp [Ie]
  ·have l:=Xt nd (k:=k) om (show i<k by omega)
   have d: ∀(a b:List (V×V)) (x:V) (r:Nat×V),gY x a=some r->gY x (a++b)=some r:=by
    intro a
    induction a with
    |nil=>intro b x r h;cases h
    |cons y a ih2=>
     intro b x r h;show (if dE x y.1 then some (0,y.2) else (gY x (a++b)).map λq=>(q.1+1,q.2))=_;have c:(if dE x y.1 then some (0,y.2) else (gY x a).map λq=>(q.1+1,q.2))=some r:=h
     by_cases f:dE x y.1=true
     ·rw[bF f] at c ⊢;exact c
     ·rw[bI f] at c ⊢
      cases h2:gY x a with
      |none=>rw[h2] at c;cases c
      |some r2=>rw[h2] at c;rw[ih2 b x r2 h2];exact c
   exact d _ _ _ _ l
theorem xY {w:List Nat}(b:w.length<=1000)(h2: ∀x∈w,x<256):isKey .str (.str w)=true:=by
 have e:(decide (w.length<2^62)&&w.all λn=>decide (n<256))=true:=by
  rw[vN,decide_eq_true_eq,Kv];exact⟨om,λx a=>by simpa using h2 x a⟩
 exact e
theorem Xx {L:LN}(nd:L.Nodup){k:Nat}(b:k<L.length)(c:isKey .str (.str (L.getD k []))=true)(a:H)(M:Nat):
  OQ (some (.wmap .str (Ie L k))) a M .str (.str (L.getD k [])) (aC k)=some (.undef,a.set M (some (.wmap .str (Ie L (k+1))))):=by
 have e:gY (.str (L.getD k [])) (Ie L k)=none:=akF λj d e=>by have:=yK nd om b e;omega
 simp only[OQ]
 rw[bF ⟨trivial,c⟩,e,Oy]
theorem Np {L:LN}(nd:L.Nodup){i:Nat}(hi:i<L.length)(a:isKey .str (.str (L.getD i []))=true)(z:V):
  RK (some (.wmap .str (Ie L L.length))) .str z false (.str (L.getD i []))=some (aC i):=by
 simp only[RK]
 rw[bF ⟨trivial,a⟩,Xt nd (fM _) hi];rfl
end Go.Proofs.YtcdbmkidaecdiaaGreat
