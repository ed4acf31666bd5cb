/- Texts of the claim. -/
import Derived.Test.YtapfcpkecmmagaaGreatDp2toP5d
import Derived.Test.YtapfcpkecmmagaaGreatAy39
import Derived.Test.YtapfcpkecmmagaaGreatC27code
import Derived.Sort.AssemblyPlain
set_option maxHeartbeats 64000000
namespace Go.Proofs.YtapfcpkecmmagaaGreat
open Go Go.Ay Go.Pm
set_option maxRecDepth 100000
def lessB:List Nat->List Nat->Bool
 |x::a,y::b=>if x=y then lessB a b else decide (x<y)
 |a,b=>decide (a.length<b.length)
theorem lessB_at: ∀{a b:List Nat} {i:Nat},(∀j,j<i->a.getD j 0=b.getD j 0)->i<a.length->i<b.length->a.getD i 0≠b.getD i 0->lessB a b=decide (a.getD i 0<b.getD i 0)
 | [],_,i,_,h,_,_=>by simp at h
 |_::_, [],i,_,_,h,_=>by simp at h
 |x::a,y::b,0,_,_,_,hne=>by
  have:x≠y:=by simpa using hne
  simp [lessB,this]
 |x::a,y::b,i+1,h,h1,h2,hne=>by
  have e:x=y:=by simpa using h 0 om
  unfold lessB;rw[aV e,lessB_at (a:=a) (b:=b) (i:=i) (λj c=>by simpa using h (j+1) om) (by simpa using h1) (by simpa using h2) (by simpa using hne)];simp
theorem lessB_self: ∀a:List Nat,lessB a a=false
 | []=>by simp [lessB]
 |x::a=>by unfold lessB;rw[aV rfl];exact lessB_self a
theorem lessB_iff {a b:List Nat}(m:a.length=b.length):lessB a b=true↔Lt a b:=by
 by_cases h: ∃i,i<a.length/\a.getD i 0≠b.getD i 0
 ·have o: ∃i,(i<a.length/\a.getD i 0≠b.getD i 0)/\ ∀j,j<i-> ¬(j<a.length/\a.getD j 0≠b.getD j 0):=by
   obtain⟨i,hi⟩:=h
   induction i using Nat.strongRecOn with
   |_ i ih=>
    by_cases g: ∃j,j<i/\j<a.length/\a.getD j 0≠b.getD j 0
    ·obtain⟨j,d,f⟩:=g;exact ih j d f
    ·exact⟨i,hi,λj d f=>g ⟨j,d,f⟩⟩
  obtain⟨i,⟨d,f⟩,n⟩:=o;have c: ∀j,j<i->a.getD j 0=b.getD j 0:=λj g=>Am λl=>n j g ⟨om,l⟩
  rw[lessB_at c d om f,decide_eq_true_eq];constructor
  ·intro h;exact⟨i,d,c,h⟩
  ·rintro⟨k,h4,h5,h6⟩
   rcases Nat.lt_trichotomy i k with h|h|h
   ·exact absurd (h5 i h) f
   ·subst h;exact h6
   ·have:=c k h;omega
 ·have e:a=b:=oU m λi hi=>Am λl=>h ⟨i,hi,l⟩
  subst e;rw[lessB_self];constructor
  ·intro h;cases h
  ·exact λh=>(h.asymm h).elim
theorem less_ok (u w:V)(n:Nat)(a b:List Nat)(h:H)(Q:n<100000)(z:a.length=n)(lb:b.length=n)(K:SI h u (zi a))(N:SI h w (zi b)):
  Ev T 82 [u,w] h (λv h'=>v= .bool (lessB a b)/\Fr h h'):=by
 refine bH c_kit_Less rfl rfl ?_
 have r:=K.lens
 rw[aQ,z] at r
 have q:=N.lens
 rw[aQ,lb] at q
 obtain⟨id,s,y,l,B⟩:=K.open
 rw[aQ,z] at y l B
 obtain⟨t,o,k,f,m⟩:=N.open
 rw[aQ,lb] at k f m
 simp(disch:=omega)only[go_sem,c_kit_Less,aF]
 refine aH (λG c O=> ∃(i:Nat),(∃j:Nat->V,c= [u,w,.bool false,aB i,j 4,j 5])/\i<=n/\(∀j,j<i->a.getD j 0=b.getD j 0)/\Fr h O/\G=n-i) n
  ⟨0,aA rfl,fF _,λ_ h=>om,Fr.refl h,rfl⟩ ?_
 rintro G c J ⟨i,⟨c,rfl⟩,hi,g,F,rfl⟩
 by_cases p:(i:Int)<(n:Int)
 ·have d:=bM p
  have c:i<n:=om
  have ci:J.cell id (s+i)=some (aB (a.getD i 0:Nat)):=by rw[F.cell (l om),B i c];congr 2;simp [zi,z,c]
  have A:J.cell t (o+i)=some (aB (b.getD i 0:Nat)):=by rw[F.cell (f om),m i c];congr 2;simp [zi,lb,c]
  by_cases L:a.getD i 0=b.getD i 0
  ·have x:decide (((a.getD i 0:Nat):Int)≠((b.getD i 0:Nat):Int))=false:=bJ om
   simp(disch:=omega)only[go_sem,r,q,d,y.ixa,k.ixa,ci,A,x]
   rw[dY i]
   refine⟨n-(i+1),om,i+1,aA rfl,om,λj P=>?_,?_,rfl⟩
   ·by_cases e:j=i
    ·rw[e];exact L
    ·exact g j om
   ·first|exact F|exact F.bN om
  ·have x:decide (((a.getD i 0:Nat):Int)≠((b.getD i 0:Nat):Int))=true:=bM om
   simp(disch:=omega)only[go_sem,r,q,d,y.ixa,k.ixa,ci,A,x]
   refine⟨?_,?_⟩
   ·rw[lessB_at g om om L]
    congr 1
    rw[xJ];simp
   ·first|exact F|exact F.bN om|exact (F.bN om).bN (by simp;omega)
 have d:=bJ p
 have c:decide ((n:Int)<(n:Int))=false:=bJ om
 obtain rfl:i=n:=om
 simp(disch:=omega)only[go_sem,r,q,d]
 have e:a=b:=oU om λj P=>g j om
 refine⟨?_,F⟩
 rw[e,lessB_self]
section
variable {n:Nat} {O:List (List Int)}
theorem reps_ok (d:Int)(b a:V)(e:b.one=true)(c:a.one=true)(h:H):Ev T 110 [.agg [aB d,b,a]] h (λv h'=>v= .fn 127 [] [.ptr h.next 0]/\h'.get h.next=bW [aB d,b,a]/\h'.next=h.next+1/\Fr h h'):=by
 refine bH c_chain_reps rfl rfl ?_;simp(disch:=omega)only[go_sem,c_chain_reps,aF,bD h (v:= aB d) (u:=b) (w:=a) rfl e c];exact (Fr.refl h).new _
theorem reps1_ok (id b:Nat)(d:Int)(t c:V)(ws:List V)(h:H)(y:ws.length<1000000)(J:Nat->H->Prop)(D:H->Prop)(p:J 0 h)
  (o: ∀i hh,J i hh->hh.get b=bW [aB d,t,c]/\SV hh c 1 ws)
  (q: ∀i hh,i<ws.length->J i hh->Ey T id [aB i,ws.getD i .undef] hh (λv h'=>v= .bool true/\J (i+1) h'∨v= .bool false/\D h')):
  Ev T 127 [.yl id,.ptr b 0] h (λ_ h'=>J ws.length h'∨D h'):=by
 refine bH c_chain_reps_1 rfl rfl ?_
 obtain⟨s,w⟩:=o 0 h p
 have r:h.cell b 2=some c:=by rw[H.aG s];rfl
 have u:dA c=some (aB (ws.length:Int)):=by unfold dA;rw[w.len (n:=ws.length) om om];rfl
 simp(disch:=omega)only[go_sem,c_chain_reps_1,aF,r,u]
 refine aH (λm a hh=> ∃(i:Nat),(∃g:Nat->V,a= [.yl id,.ptr b 0,g 2,g 3,c,aB (ws.length:Int),aB i,g 7,g 8])/\i<=ws.length/\J i hh/\m=ws.length-i) ws.length
  ⟨0,aA rfl,fF _,p,rfl⟩ ?_
 rintro m a l ⟨i,⟨g,rfl⟩,hi,f,rfl⟩
 by_cases e:(i:Int)<(ws.length:Int)
 ·have j:=bM e
  obtain⟨a,r⟩:=o i l f
  obtain⟨g,a,x,m,m⟩:=r.shape ws.length om om
  have ci:l.cell g (a+i)=some (ws.getD i .undef):=by rw[m i om,List.getD,eV om];rfl
  simp(disch:=omega)only[go_sem,j,x.ixa,ci]
  refine (q i l om f).mono ?_
  rintro v a (⟨rfl,k⟩|⟨rfl,k⟩)
  ·simp(disch:=omega)only[go_sem]
   rw[dY i]
   exact⟨ws.length-(i+1),om,i+1,aA rfl,om,k,rfl⟩
  ·simp(disch:=omega)only[go_sem]
   exact .inr k
 have j:=bJ e
 obtain rfl:i=ws.length:=om
 simp(disch:=omega)only[go_sem,j]
 exact .inl f
structure Frm (n:Nat)(O:List (List Int))(R:List (List (List Int))):Prop where
 lo:O.length=n
 lr:R.length=n
 row: ∀i,i<n->(R.getD i []).length=(O.getD i []).length/\(R.getD i []).length<=n-i
 perm: ∀i,i<n-> ∀x∈R.getD i [],x.length=n/\pckOk x=true
def ChkP (d:Int)(O:List (List Int))(R:List (List (List Int))):Prop:= ∃(n:Nat) (O':LN) (R':jL),d=(n:Int)/\1<=n/\n<=64/\O=O'.map zi/\R=R'.map (List.map zi)/\Valid n O' R'
open Classical in
noncomputable def chkE (d:Int)(O:List (List Int))(R:List (List (List Int))):Int:=if d<1∨64<d then 2 else if ChkP d O R then 0 else 3
theorem zi_inj {a b:List Nat}(h:zi a=zi b):a=b:=by
 have:=congrArg (List.map Int.toNat) h
 have e: ∀a:List Nat,(zi a).map Int.toNat=a:=λa=>by
  unfold zi;rw[List.map_map];exact (yZ λx _=>by simp).trans (List.map_id a)
 rwa [e,e] at this
theorem map_inj {α β:Type}{f:α->β}(c: ∀x y,f x=f y->x=y): ∀{a b:List α},a.map f=b.map f->a=b
 | [], [],_=>rfl
 | [],_::_,h=>by cases h
 |_::_, [],h=>by cases h
 |x::a,y::b,h=>by
  simp only[List.map_cons,List.cons.injEq] at h;rw[c x y h.1,map_inj c h.2]
theorem orb_len {i:Nat}{G:List Nat->Prop}(c: ∀x,G x->bV n x){o:List Nat}(hi:i<n)(a:o.Pairwise (· < ·))(mem: ∀p,p∈o↔ ∃x,G x/\Fix i x/\x.getD i 0=p):o.length<=n-i:=by
 have nd:o.Nodup:=by rw[DE];exact a.imp λh e=>om
 have:=List.Nodup.length_le_of_subset nd (l₂:=(List.range (n-i)).map (· +i)) λp b=>by
  obtain⟨x,f,d,rfl⟩:=(mem p).1 b;have X:=c x f;have b:=X.dZ hi
  have b:i<=x.getD i 0:=Am λb=>by
   have:=X.inj hi (j:=x.getD i 0) om (by rw[d (x.getD i 0) om]);omega
  exact pU.2 ⟨x.getD i 0-i,Db.2 om,om⟩
 simpa using this
theorem ChkP.frm {R:List (List (List Int))}(c:ChkP (n:Int) O R):Frm n O R:=by
 obtain⟨m,f,b,e,e,e,rfl,rfl,g,v⟩:=c;obtain rfl:n=m:=om
 have h: ∀i,i<n->(b.map (List.map zi)).getD i []=(b.getD i []).map zi/\(f.map zi).getD i []=zi (f.getD i [])/\ ∀x∈b.getD i [],x∈b.flatten:=λi hi=>by
  have e:=v.lr;have e:=v.lo;refine⟨by simp [List.getD,show i<b.length by omega],by simp [List.getD,show i<f.length by omega],λx a=>?_⟩;rw[List.getD,eV om] at a;exact List.mem_flatten.2 ⟨_,xR om,a⟩
 refine⟨by rw[iR];exact v.lo,by rw[iR];exact v.lr,λi hi=>?_,λi hi x a=>?_⟩
 ·obtain⟨d,b,_⟩:=h i hi
  rw[d,b,iR,aQ,v.rl i hi];exact⟨rfl,orb_len (λx a=>fE.isP g a) hi (v.asc i hi) (v.mem i hi)⟩
 ·obtain⟨d,_,k⟩:=h i hi
  rw[d] at a;obtain⟨y,j,rfl⟩:=pU.1 a;have Y:=g y (k y j);exact⟨by rw[aQ];exact Y.len,pckOk_zi Y⟩
theorem Frm.nat {R:List (List (List Int))}(f:Frm n O R): ∃R':jL,R=R'.map (List.map zi)/\ ∀g∈R'.flatten,bV n g:=by
 have c: ∀x,(∃i,i<n/\x∈R.getD i [])->x=zi (x.map Int.toNat)/\bV n (x.map Int.toNat):=λx ⟨i,hi,a⟩=>by
  obtain⟨k,l⟩:=f.perm i hi x a;obtain⟨j,h⟩:=pckOk_isP l;rw[k] at h;exact⟨j,h⟩
 have mem: ∀r∈R,∀x∈r,∃i,i<n/\x∈R.getD i []:=λr b x a=>by
  obtain⟨i,hi,rfl⟩:=uK.1 b;have:=f.lr;exact⟨i,om,by rw[List.getD,eV hi];exact a⟩
 refine⟨R.map (List.map (List.map Int.toNat)),?_,λg e=>?_⟩
 ·rw[List.map_map]
  refine (List.map_id R).symm.trans (yZ λr b=>?_);show r=(r.map (List.map Int.toNat)).map zi;rw[List.map_map];refine (List.map_id r).symm.trans (yZ λx a=>(c x (mem r b x a)).1)
 ·obtain⟨h,d,e⟩:=List.mem_flatten.1 e
  obtain⟨r,b,rfl⟩:=pU.1 d;obtain⟨x,a,rfl⟩:=pU.1 e;exact (c x (mem r b x a)).2
theorem ChkP.iff {d:jL}(o:1<=n)(h2:n<=64)(i: ∀g∈d.flatten,bV n g){f:LN}{j:jL}(c:dW n (Ir n d) f j):
  ChkP (n:Int) O (d.map (List.map zi))↔O=f.map zi/\d.map (List.map zi)=j.map (List.map zi):=by
 have inj: ∀a b:LN,a.map zi=b.map zi->a=b:=λa b h=>map_inj (λ_ _=>zi_inj) h
 constructor
 ·rintro⟨m,O3,R3,e,_,_,rfl,e3,v⟩
  obtain rfl:n=m:=om
  have:=map_inj inj e3
  subst this
  obtain⟨l,k⟩:=(Valid.iff i c).1 v
  subst l k
  exact⟨rfl,rfl⟩
 ·rintro⟨rfl,e⟩
  have:=map_inj inj e
  subst this
  exact⟨n,f,d,rfl,o,h2,rfl,rfl,(Valid.iff i c).2 ⟨rfl,rfl⟩⟩
end
section
variable {n i:Nat} {O:List (List Int)} {R:List (List (List Int))}
def RowOk (n:Nat)(O:List (List Int))(R:List (List (List Int)))(j:Nat):Prop:=((R.getD j []).length=(O.getD j []).length/\(R.getD j []).length<=n-j)/\ ∀x∈R.getD j [],x.length=n/\pckOk x=true
theorem Frm.of (a:O.length=n)(h2:R.length=n)(h: ∀j,j<n->RowOk n O R j):Frm n O R:=⟨a,h2,λi hi=>(h i hi).1,λi hi=>(h i hi).2⟩
theorem chk_form (a:1<=n)(h2:n<=64)(h: ¬Frm n O R):chkE (n:Int) O R=3:=by
 unfold chkE;rw[aZ om,aZ (λc=>h c.frm)]
theorem getD_mem {α:Type}{l:List α}{k:Nat}{d:α}(h:k<l.length):l.getD k d∈l:=by
 rw[List.getD,eV h];exact xR h
theorem take_getD {α:Type}{l:List α}{k:Nat}(d:α)(h:k<l.length):l.take (k+1)=l.take k++ [l.getD k d]:=by
 rw[←List.take_append_getElem h,List.getD,eV h];rfl
theorem flat_len {R:List (List (List Int))}{m:Nat}: ∀{i:Nat},i<=R.length->(∀j,j<i->(R.getD j []).length<=m)->((R.take i).flatten).length<=i*m
 |0,_,_=>by simp
 |i+1,h,hr=>by
  rw[←List.take_append_getElem (show i<R.length by omega),List.flatten_append,iZ];have b:=flat_len (i:=i) om (λj c=>hr j om);have a:=hr i om;rw[List.getD,eV om] at a;have a:R[i].length<=m:=a;simp only[List.flatten_cons,List.flatten_nil,qA];rw[Nat.succ_mul];omega
theorem chain_small {G:List Nat->Prop}(b: ∀x,G x->bV n x){O:LN}{R:jL}(d:n<=64)(c:dW n G O R):SmallO (O.map zi)/\SmallRR (R.map (List.map zi)):=by
 have a: ∀i,i<n->(O.getD i []).length<=n:=λi hi=>jK (orb_len b hi (c.asc i hi) (c.mem i hi)) om
 refine⟨⟨by rw[iR,c.lo];omega,λi hi=>?_⟩,⟨by rw[iR,c.lr];omega,λi hi=>?_⟩⟩
 ·rw[iR,c.lo] at hi
  have:(O.map zi).getD i []=zi (O.getD i []):=by simp [List.getD,show i<O.length by rw[c.lo];exact hi]
  rw[this,aQ];have:=a i hi;omega
 ·rw[iR,c.lr] at hi
  have e:(R.map (List.map zi)).getD i []=(R.getD i []).map zi:=by simp [List.getD,show i<R.length by rw[c.lr];exact hi]
  rw[e,iR,c.rl i hi];refine⟨by have:=a i hi;omega,λk a=>?_⟩
  have:((R.getD i []).map zi).getD k []=zi ((R.getD i []).getD k []):=by
   have:=c.rl i hi;simp [List.getD,show k<(R[i]?.getD []).length by simp [List.getD] at this a;omega]
  rw[this,aQ,(b _ (c.rep i hi k a).mem).len];omega
theorem SmallRR.out (s:SmallRR R):SmallR R:=⟨s.1,λi hi=>(s.2 i hi).1⟩
theorem SmallR.inn (s:SmallR R)(f: ∀i,i<R.length-> ∀x∈R.getD i [],x.length=n)(b:n<=64):SmallRR R:=⟨s.1,λi hi=>⟨s.2 i hi,λk a=>by rw[f i hi _ (getD_mem a)];omega⟩⟩
theorem take_flat {α:Type}{R:List (List α)}(hi:i<R.length):(R.take (i+1)).flatten=(R.take i).flatten++R.getD i []:=by
 rw[←List.take_append_getElem hi,List.flatten_append];simp [List.getD,hi]
structure CkJ (h hh:H)(B id b:Nat)(r:fQ)(n:Nat)(vO vR:V)(O:List (List Int))(R:List (List (List Int)))(i:Nat)(acc:List (List Int)):Prop where
 gB:hh.get B=some (.cells false [aB n,vO,vR])
 gR:hh.get (B+1)=some (.cells false [aB 0])
 gN:hh.get (B+1+1)=some (.cells false [aB n])
 gA: ∃va ws,hh.get (B+1+1+1)=some (.cells false [va])/\Own hh va 1 ws (id+1)/\All2 (SI h) ws acc
 gr:hh.get id=some (.loop r)
 gb:hh.get b=some (.cells false [aB n,vO,vR])
 nx:id<hh.next
 fr:Fr h hh
 rows: ∀j,j<i->RowOk n O R j
structure CkD (h hh:H)(B id:Nat)(r:fQ)(n:Nat)(O:List (List Int))(R:List (List (List Int))):Prop where
 gR:hh.get (B+1)=some (.cells false [aB 3])
 gr:hh.get id=some (.loop (uS r .ret))
 nx:id<hh.next
 fr:Fr h hh
 bad: ¬Frm n O R
theorem CkJ.mono {h hh h2:H}{B id b:Nat}{r:fQ}{d e:V}{c:List (List Int)}(J:CkJ h hh B id b r n d e O R i c)(k:B+1+1+1<id)(m:b<id)(f:Fr hh h2):CkJ h h2 B id b r n d e O R i c:=by
 obtain⟨l,j,g,o,a⟩:=J.gA;have:=J.nx;exact⟨by rw[f.get _ om];exact J.gB,by rw[f.get _ om];exact J.gR,by rw[f.get _ om];exact J.gN,⟨l,j,by rw[f.get _ om];exact g,o.fr f,a⟩,by rw[f.get _ om];exact J.gr,by rw[f.get _ om];exact J.gb,iP J.nx f.next,J.fr.trans f,J.rows⟩
theorem CkJ.loop {h hh h2:H}{B id b:Nat}{r r2:fQ}{d e:V}{c:List (List Int)}(J:CkJ h hh B id b r n d e O R i c)(q:B+1+1+1<id)(t:b<id)(m:h.next<=B)(g:h2.get id=some (.loop r2))(f:h2.next=hh.next)(o: ∀k,k≠id->h2.get k=hh.get k):CkJ h h2 B id b r2 n d e O R i c:=by
 obtain⟨s,l,j,p,a⟩:=J.gA;refine⟨by rw[o _ om];exact J.gB,by rw[o _ om];exact J.gR,by rw[o _ om];exact J.gN,⟨s,l,by rw[o _ om];exact j,p.mono om λk _ _ _ _ j _=>o k om,a⟩,g,by rw[o _ om];exact J.gb,by rw[f];exact J.nx,⟨by rw[f];exact J.fr.next,λk a=>by rw[o k om];exact J.fr.get k a⟩,J.rows⟩
theorem check_ok (vc:V)(d:Int)(O:List (List Int))(R:List (List (List Int)))(h:H)(hc:ChI h vc d O R)(hd:d<=7∨64<d)(so:SmallO O)(sr:SmallR R):
  Ev T 97 [vc] h (λv h'=>v= aB (chkE d O R)/\Fr h h'):=by
 obtain⟨p,q,rfl,sO,sR⟩:=hc
 refine bH c_chain_Check rfl rfl ?_
 obtain⟨wO,tO,aO⟩:=sO
 obtain⟨wR,tR,aR,kR⟩:=sR
 have lO:=aO.length
 have lR:=aR.length
 have b6:dA p=some (aB (O.length:Int)):=by unfold dA;rw[tO.len (n:=O.length) om om];rfl
 have c4:dA q=some (aB (R.length:Int)):=by unfold dA;rw[tR.len (n:=R.length) om om];rfl
 have a8:=tO.dG.2.1
 have a6:=tR.dG.2.1
 obtain⟨B,hB⟩:=JR h.next
 obtain⟨h1,e1,n1,g1,o1,f1⟩:=dN hB [aB d,p,q]
 obtain⟨h2,e2,n2,g2,o2,f2⟩:=dN n1 [aB 0]
 obtain⟨h3,e3,n3,g3,o3,f3⟩:=dN n2 [aB 0]
 obtain⟨h4,e4,n4,g4,o4⟩:=mS h3 (B+1+1) [aB d]
 have G:h2.get B=some (.cells false [aB d,p,q]):=by rw[o2 _ om];exact g1
 have a3:h4.get B=some (.cells false [aB d,p,q]):=by rw[o4 _ om,o3 _ om];exact G
 have A:h4.get (B+1)=some (.cells false [aB 0]):=by rw[o4 _ om,o3 _ om];exact g2
 have F4:Fr h h4:=by
  refine⟨om,λid a9=>?_⟩;rw[o4 _ om,o3 _ om,o2 _ om,o1 _ om]
 have Y: ∀(a:H) (id:Nat) (x y:Int),dQ (some (.cells false [aB x])) a id 0 [aB y]=some (a.set id (some (.cells false [aB y]))):=λa id x y=>bF (by simp) a _ _
 have bx:=bD h (v:= aB d) (u:=p) (w:=q) rfl a8 a6
 have b5:=H.aG A
 have a4: ∀z:Int,(h4.set (B+1) (some (.cells false [aB z]))).cell (B+1) 0=some (aB z)/\Fr h (h4.set (B+1) (some (.cells false [aB z]))):=λz=>⟨by rw[H.tG];rfl,F4.set om _⟩
 by_cases b5:d<1
 ·have s:=bM b5
  simp(disch:=omega)only[go_sem,c_chain_Check,aF,bx,hB,e1,n1,e2,n2,e3,H.aG G,g3,Y,e4,H.aG g4,s,A]
  exact⟨by unfold chkE;rw[aV (.inl b5)],(a4 2).2⟩
 have s:=bJ b5
 by_cases b5:64<d
 ·have d2:=bM b5
  simp(disch:=omega)only[go_sem,c_chain_Check,aF,bx,hB,e1,n1,e2,n2,e3,H.aG G,g3,Y,e4,H.aG g4,s,d2,A]
  exact⟨by unfold chkE;rw[aV (.inr b5)],(a4 2).2⟩
 have d2:=bJ b5
 obtain⟨n,rfl⟩: ∃n:Nat,d=(n:Int):=⟨d.toNat,om⟩
 have Z:1<=n:=om
 have c6:n<=7:=om
 by_cases b5:(O.length:Int)≠(n:Int)
 ·have dl:=bM b5
  simp(disch:=omega)only[go_sem,c_chain_Check,aF,bx,hB,e1,n1,e2,n2,e3,H.aG G,g3,Y,e4,H.aG g4,s,d2,A,H.aG a3,b6,dl]
  exact⟨by rw[chk_form Z om (λf=>b5 (by have:=f.lo;omega))],(a4 3).2⟩
 have dl:=bJ b5
 by_cases b7:(R.length:Int)≠(n:Int)
 ·have b5:=bM b7
  simp(disch:=omega)only[go_sem,c_chain_Check,aF,bx,hB,e1,n1,e2,n2,e3,H.aG G,g3,Y,e4,H.aG g4,s,d2,A,H.aG a3,b6,dl,c4,b5]
  exact⟨by rw[chk_form Z om (λf=>b7 (by have:=f.lr;omega))],(a4 3).2⟩
 have b5:=bJ b7
 have b7:h4.next=B+1+1+1:=by rw[n4];exact n3
 obtain⟨h5,e5,n5,g5,o5,f5⟩:=dN b7 [.aD]
 have c8:h5.get B=some (.cells false [aB n,p,q]):=by rw[o5 _ om];exact a3
 have rB:=aS c8
 simp(disch:=omega)only[go_sem,c_chain_Check,aF,bx,hB,e1,n1,e2,n2,e3,H.aG G,g3,Y,e4,H.aG g4,s,d2,A,H.aG a3,b6,dl,c4,b5,b7,e5,rB]
 refine (reps_ok (n:Int) p q a8 a6 h5).mono ?_
 rintro _ W ⟨rfl,g6,n6,G⟩
 simp(disch:=omega)only[go_sem]
 have F6:Fr h W:=(F4.trans f5).trans G
 have e0:W.get B=some (.cells false [aB n,p,q]):=by rw[G.get _ om];exact c8
 have e8:W.get (B+1)=some (.cells false [aB 0]):=by rw[G.get _ om,f5.get _ om];exact A
 have e7:W.get (B+1+1)=some (.cells false [aB n]):=by rw[G.get _ om,f5.get _ om];exact g4
 have d3:W.get (B+1+1+1)=some (.cells false [.aD]):=by rw[G.get _ om];exact g5
 refine⟨rfl,sN λr hr=>?_⟩
 obtain⟨id,a9⟩:=JR W.next
 obtain⟨b,hb⟩:=JR h5.next
 rw[hb] at g6 n6
 rw[a9,hb]
 have iA:r.st= .ready:=by rw[hr]
 have b4:r.pend=none:=by rw[hr]
 have d9:R.length=n:=om
 have d0:O.length=n:=om
 have f7:Fr W (W.new (.loop r)):=(Fr.refl W).new _
 have o7: ∀k,k<id->(W.new (.loop r)).get k=W.get k:=λk hk=>H.bL W om _
 have J0:CkJ h (W.new (.loop r)) B id b r n p q O R 0 []:=
  ⟨by rw[o7 _ om];exact e0,by rw[o7 _ om];exact e8,by rw[o7 _ om];exact e7,⟨.aD, [],by rw[o7 _ om];exact d3,Own.aD _ _ _,trivial⟩,by rw[←a9,H.aN],by rw[o7 _ om];exact g6,by rw[H.aX];omega,F6.trans f7,λj hj=>om⟩
 refine (reps1_ok id b (n:Int) p q wR _ (by rw[lR];exact sr.1) (λi a=>CkJ h a B id b r n p q O R i (R.take i).flatten) (λa=>CkD h a B id r n O R) J0 (λi a J=>⟨J.gb,tR.mono J.fr⟩) ?_).mono ?_
 ·rintro i a hi J
  have a0:i<n:=om
  refine pX J.gr (by rw[hr];rfl) iA λU g7 n7 o7=>?_
  rw[congrArg fQ.assign hr,congrArg fQ.vars hr,congrArg fQ.pars hr]
  simp(disch:=omega)only[go_sem,List.zip_cons_cons,List.zip_nil_left]
  rw[congrArg fQ.body hr]
  have J7:CkJ h U B id b (oI r) n p q O R i (R.take i).flatten:=J.loop om om om g7 n7 o7
  have c0:=getD_row aO (i:=i) om .undef []
  have A:=getD_row aR (i:=i) om .undef []
  obtain⟨wr,tr,ar⟩:=A
  have lr:=ar.length
  have b8:dA (wR.getD i .undef)=some (aB ((R.getD i []).length:Int)):=by unfold dA;rw[tr.len (n:=(R.getD i []).length) om om];rfl
  have b1:=c0.lens
  obtain⟨G,A,a2,c1,b9⟩:=(tO.mono J7.fr).shape O.length om om
  have co:U.cell G (A+i)=some (wO.getD i .undef):=by rw[b9 i om,List.getD,eV om];rfl
  have cB:=H.aG J7.gB
  have cN:=H.aG J7.gN
  have c9: ∀a P,CkJ h a B id b (oI r) n p q O R i P-> ¬Frm n O R->CkD h ((a.set (B+1) (some (.cells false [aB 3]))).set id (some (.loop (uS r .ret)))) B id r n O R:=λa P J hb=>by
   have:=J.nx;refine⟨by rw[H.aI _ om,H.aT],by rw[H.aT],J.nx,(J.fr.set om _).set om _,hb⟩
  have yq: ∀a o P,CkJ h a B id b (oI r) n p q O R i P-> ¬Frm n O R->Bo id (λv h'=>v= .bool true/\CkJ h h' B id b r n p q O R (i+1) (R.take (i+1)).flatten∨v= .bool false/\CkD h h' B id r n O R) .ret o (a.set (B+1) (some (.cells false [aB 3]))):=λa o P J hb=>
   Ft (by rw[H.aI _ om];exact J.gr) (.inr ⟨rfl,c9 a P J hb⟩)
  by_cases t:((R.getD i []).length:Int)≠((O.getD i []).length:Int)
  ·have s:=bM t
   simp(disch:=omega)only[go_sem,b8,cB,a2.ixa,co,b1,s,J7.gR,Y]
   exact yq _ _ _ J7 λf=>t (by have:=(f.row i a0).1;omega)
  have s:=bJ t
  by_cases A:(n:Int)-(i:Int)<((R.getD i []).length:Int)
  ·have d2:=bM A
   simp(disch:=omega)only[go_sem,b8,cB,cN,a2.ixa,co,b1,s,d2,J7.gR,Y]
   exact yq _ _ _ J7 λf=>by have:=(f.row i a0).2;omega
  have d2:=bJ A
  simp(disch:=omega)only[go_sem,b8,cB,cN,a2.ixa,co,b1,s,d2]
  refine aH (λk' o a=> ∃(k:Nat),(∃g:Nat->V,o= [g 0,.ptr B 0,.ptr (B+1) 0,.ptr (B+1+1) 0,.ptr (B+1+1+1) 0,g 5,g 6,g 7,g 8,g 9,g 10,g 11,g 12,g 13,wR.getD i .undef,aB ((R.getD i []).length:Int),aB k,g 17,g 18,g 19])/\k<=(R.getD i []).length/\CkJ h a B id b (oI r) n p q O R i ((R.take i).flatten++(R.getD i []).take k)/\
    (∀x∈(R.getD i []).take k,x.length=n/\pckOk x=true)/\k'=(R.getD i []).length-k) (R.getD i []).length
   ⟨0,aA rfl,fF _,by rw[List.take_zero,qA];exact J7,λx hx=>by simp at hx,rfl⟩ ?_
  clear co cB cN c1 b9 J7 s d2 a2 g7 n7 o7 U
  rintro k' o h8 ⟨k,⟨g,rfl⟩,hk,Q,b2,rfl⟩
  by_cases c2:(k:Int)<((R.getD i []).length:Int)
  case neg=>
   have e1:=bJ c2;obtain rfl:k=(R.getD i []).length:=om
   rw[List.take_length] at Q b2;rw[←take_flat om] at Q;simp(disch:=omega)only[go_sem,e1];refine pZ iA b4 Q.gr (.inl ⟨rfl,?_⟩);have l:=Q.loop (h2:=h8.set id (some (.loop r))) om om om (by rw[H.aT]) rfl (λk hk=>H.aI _ hk _)
   have b3: ∀j,j<i+1->RowOk n O R j:=λj hj=>by
    by_cases e:j=i
    ·subst e;exact⟨⟨om,om⟩,b2⟩
    ·exact l.rows j om
   exact⟨l.gB,l.gR,l.gN,l.gA,l.gr,l.gb,l.nx,l.fr,b3⟩
  have e1:=bM c2
  have a1:k<(R.getD i []).length:=om
  obtain⟨x,hx⟩:=JR ((R.getD i []).getD k [])
  have sx:=getD_row ar a1 .undef []
  rw[hx] at sx
  have c3:x∈R.getD i []:=by rw[←hx];exact getD_mem a1
  obtain⟨A,g,c5,o,o⟩:=(tr.mono Q.fr).shape (R.getD i []).length om om
  have ck:h8.cell A (g+k)=some (wr.getD k .undef):=by rw[o k om,List.getD,eV om];rfl
  have cN:=H.aG Q.gN
  generalize wr.getD k .undef=vx at sx ck
  have g:=sx.lens
  by_cases t:(x.length:Int)≠(n:Int)
  ·have s:=bM t
   simp(disch:=omega)only[go_sem,e1,c5.ixa,ck,g,cN,s,Q.gR,Y]
   exact yq _ _ _ Q λf=>t (by have:=(f.perm i a0 x c3).1;omega)
  have s:=bJ t
  simp(disch:=omega)only[go_sem,e1,c5.ixa,ck,g,cN,s]
  refine (perm_Check_ok vx x h8 om (sx.mono Q.fr)).mono ?_
  rintro _ h9 ⟨rfl,f9⟩
  have l:=Q.mono om om f9
  cases hpk:pckOk x with
  |false=>
   have e3:decide (pck x≠0)=true:=bM (by unfold pck;rw[aZ om,hpk];simp);simp(disch:=omega)only[go_sem,e3,l.gR,Y];exact yq _ _ _ l λf=>by have:=(f.perm i a0 x c3).2;rw[hpk] at this;cases this
  |true=>
   have e3:decide (pck x≠0)=false:=bJ (by unfold pck;rw[aZ om,hpk];simp);obtain⟨va,ws,gA,ow,al⟩:=l.gA
   have one:vx.cells= [vx]/\vx.one=true:=⟨sx.dG.1,sx.dG.2.1⟩
   have f:=l.nx;obtain⟨b0,d4,f,d5,f,K⟩:=dN (h:=h9) rfl [vx];have cA:=H.aG gA;have f:b0.cell (B+1+1+1) 0=some va:=by rw[H.aG (by rw[K.get _ om];exact gA)];rfl
   have f:=al.length
   have f:((R.take i).flatten++(R.getD i []).take k).length<=400:=by
    have h1:=flat_len (m:=7) (R:=R) (i:=i) om (λj hj=>by have:=(l.rows j hj).1.2;omega);have h2:i*7<=7*7:=Nat.mul_le_mul_right 7 om;rw[iZ,xF];omega
   obtain⟨c7,d8,a5⟩:=(ow.fr K).push (bytes:=24) (SV.one om d5 (.kn 1)) (n:=ws.length) (m:=1) om rfl om om om;have o: ∀k,k<=id->dH va k:=λk hk f d7 m c e e2=>by have:=(ow.in _ _ _ _ e).2.1;omega
   have f:c7.get (B+1+1+1)=some (.cells false [va]):=by rw[a5.old _ om (o _ om),K.get _ om];exact gA
   have g:=a5.next;have g: ∀(a:H) (y:V),dQ (some (.cells false [va])) a (B+1+1+1) 0 [y]=some (a.set (B+1+1+1) (some (.cells false [y]))):=λa y=>bF (by simp) a _ _
   simp(disch:=omega)only[go_sem,e3,cA,cJ h9 (z:= .aD) one.1 one.2,d4,d8,f,g];rw[dY k]
   have N: ∀k,k<=id->k≠B+1+1+1->(c7.set (B+1+1+1) (some (.cells false [.sl b0.next 0 (ws.length+1) (.un 1)]))).get k=h9.get k:=λk h1 h2=>by
    rw[H.aI _ h2,a5.old _ om (o _ h1),K.get _ om]
   have tk:(R.take i).flatten++(R.getD i []).take (k+1)=((R.take i).flatten++(R.getD i []).take k)++ [x]:=by
    rw[oF,take_getD [] a1,hx]
   refine⟨(R.getD i []).length-(k+1),om,k+1,aA rfl,om,⟨by rw[N _ om om];exact l.gB,by rw[N _ om om];exact l.gR,by rw[N _ om om];exact l.gN,⟨_,ws++ [vx],by rw[H.aT],?_,?_⟩,by rw[N _ om om];exact l.gr,by rw[N _ om om];exact l.gb,by simp only[H.dE];omega,?_,l.rows⟩,λy hy=>?_,rfl⟩
   ·refine (a5.own (b:=id+1) om rfl om).mono (eS _) λk d7 m c e h1 h2=>H.aI _ om _
   ·rw[tk];exact al.append ⟨sx,trivial⟩
   ·refine⟨by simp only[H.dE];have:=l.fr.next;omega,λk hk=>?_⟩
    rw[N k om om];exact l.fr.get k hk
   ·rw[take_getD [] a1,hx] at hy
    rcases sZ.1 hy with hy|hy
    ·exact b2 y hy
    ·rw[List.mem_singleton.1 hy]
     exact⟨om,hpk⟩
 ·rintro _ a (J|D)
  ·refine⟨r,J.gr,by rw[iA];simp,?_⟩
   have en:r.pend.getD .norm= .norm:=by rw[b4];rfl
   rw[en]
   rw[lR,List.take_length] at J
   have J:=J.loop (r2:={r with st:= .out}) (h2:=a.set id (some (.loop {r with st:= .out}))) om om om (by rw[H.aT]) rfl (λk hk=>H.aI _ hk _)
   generalize a.set id (some (.loop {r with st:= .out}))=U at J
   clear J0 f7 o7 b4 iA hr
   have frm:Frm n O R:=Frm.of d0 d9 λj hj=>J.rows j om
   obtain⟨R',eR,hP⟩:=frm.nat
   obtain⟨va,ws,gA,ow,al⟩:=J.gA
   have f:R.flatten=R'.flatten.map zi:=by rw[eR,List.map_flatten]
   rw[f] at al
   have nx:=J.nx
   have rB:=aS J.gB
   have cN:=H.aG J.gN
   have cA:=H.aG gA
   have fb:Fr U (H.mk U.tr (U.next+7)):=(Fr.refl U).bN om
   have b:SP (H.mk U.tr (U.next+7)) va R'.flatten:=⟨ws,(ow.fr fb).sv,al.mono λ_ _ x=>x.mono (J.fr.trans fb)⟩
   have e:R'.flatten.length<1000000:=by
    have h1:=flat_len (m:=7) (R:=R) (i:=n) om (λj hj=>by have:=(J.rows j om).1.2;omega);have h2:n*7<=7*7:=Nat.mul_le_mul_right 7 om;rw[yW om,f,iR] at h1;omega
   simp(disch:=omega)only[go_sem,aS (h:=H.mk U.tr (U.next+7)) J.gB,cN,cA]
   refine (build_ok n va R'.flatten _ Z c6 e b hP).mono ?_
   rintro _ h8 ⟨f0,L,F,τ,rfl,e,k,b,_⟩
   have f:Fr U h8:=fb.trans b
   have Q:=J.mono om om f
   have g:=tO.dJ
   have b:=tR.dJ
   simp(disch:=omega)only[go_sem,aS Q.gB,g,b]
   refine (tchain_ok h8 n f0 L F τ c6 e k.tw).mono ?_
   rintro f h9 ⟨O2,R2,e9,e,f9⟩
   have l:=Q.mono om om f9
   have a7:dW n (Ir n R') O2 R2:=e.congr k.group
   obtain⟨d6,e6⟩:=chain_small (λx hx=>fE.isP hP hx) om a7
   simp(disch:=omega)only[go_sem,aS l.gB,g,b]
   refine (csame_ok _ f (n:Int) (n:Int) O (O2.map zi) R (R2.map (List.map zi)) h9 ⟨p,q,rfl,⟨wO,tO.mono l.fr,aO.mono λ_ _ x=>x.mono l.fr⟩,⟨wR,tR.mono l.fr,aR.mono (λ_ _ x=>x.mono l.fr),kR⟩⟩ e9.ch so d6 (sr.inn (λj hj x hx=>(frm.perm j om x hx).1) om) e6).mono ?_
   rintro _ b0 ⟨rfl,K⟩
   have b:=l.mono om om K
   have iff:=ChkP.iff (O:=O) Z om hP a7
   rw[←eR] at iff
   by_cases e:(n:Int)=(n:Int)/\O=O2.map zi/\R=R2.map (List.map zi)
   ·have f:=bM e
    rw[f]
    simp(disch:=omega)only[go_sem,b.gR,Y]
    refine⟨?_,b.fr.set om _⟩
    unfold chkE
    rw[aZ om,aV (iff.2 e.2)]
   ·have f:=bJ e
    rw[f]
    simp(disch:=omega)only[go_sem,b.gR,Y]
    refine⟨?_,b.fr.set om _⟩
    unfold chkE
    rw[aZ om,aZ (λc=>e ⟨rfl,iff.1 c⟩)]
  ·refine⟨_,D.gr,by simp [uS],?_⟩
   have en:(uS r .ret).pend.getD .norm= .ret:=rfl
   rw[en]
   have nx:=D.nx
   have gR:(a.set id (some (.loop {uS r .ret with st:= .out}))).cell (B+1) 0=some (aB 3):=by rw[H.xU _ om,H.aG D.gR];rfl
   simp(disch:=omega)only[go_sem,gR]
   exact⟨by rw[chk_form Z om D.bad],D.fr.set (by have:=D.fr.next;omega) _⟩
end
set_option maxRecDepth 100000
theorem gd_map {α β:Type}(f:α->β){l:List α}{i:Nat}{d:α}{e:β}(h:i<l.length):(l.map f).getD i e=f (l.getD i d):=by
 simp [List.getD,h]
theorem Frsh.mono {h h' h2:H}{v:V}{l:List Int}(f:Frsh h h' v l)(g:Fr h' h2):Frsh h h2 v l:=by
 obtain⟨id,a,e,i,b,d,c⟩:=f.ex;exact⟨⟨id,a,e,i,iP b g.next,by rw[g.get _ b];exact d,c⟩,f.fr.trans g⟩
theorem newp_frsh {h h':H}{v:V}{l:List Nat}(n:Ku h h' v l):Frsh h h' v (zi l):=by
 obtain⟨e,g,a,f⟩:=n;exact⟨⟨h.next,_,by rw[e,aQ],eS _,om,g,.inr (by rw[aQ])⟩,f⟩
theorem Frsh.le {b h h':H}{v:V}{l:List Int}(f:Frsh h h' v l)(g:Fr b h):Frsh b h' v l:=by
 obtain⟨id,a,e,i,j,d,c⟩:=f.ex;exact⟨⟨id,a,e,jK g.next i,j,d,c⟩,g.trans f.fr⟩
section
variable {W:Nat->Prop} {h:H} {vc:V} {n:Nat} {O:LN} {G:List Nat->Prop}
structure GC (W:Nat->Prop)(h:H)(vc:V)(n:Nat)(O:LN)(R:jL)(G:List Nat->Prop):Prop where
 cw:ChW W h vc n O R
 isc:dW n G O R
 grp:mH n G
 n0:1<=n
 n7:n<=7
theorem GC.go {a:Nat->Prop}{h':H}{R:jL}(g:GC W h vc n O R G)(f:Fx W h h')(b: ∀id,id<h.next->a id->W id):GC a h' vc n O R G:=⟨g.cw.go f b,g.isc,g.grp,g.n0,g.n7⟩
theorem GC.ch {R:jL}(g:GC W h vc n O R G):ChI h vc (n:Int) (O.map zi) (R.map (List.map zi)):=g.cw.ch
theorem GC.mono {h':H}{R:jL}(g:GC W h vc n O R G)(f:Fr h h'):GC W h' vc n O R G:=⟨g.cw.mono f,g.isc,g.grp,g.n0,g.n7⟩
theorem chain_gen {n:Nat}{G:List Nat->Prop}(b:mH n G){O:LN}{R:jL}(c:dW n G O R): ∀d i x,i+d=n->G x->Fix i x->Ir n R x
 |0,i,x,h,hx,fx=>by
  have X:=b.isP hx;obtain rfl:i=n:=om
  rw[fx.all X];exact .one
 |d+1,i,x,h,hx,fx=>by
  have hi:i<n:=om
  have X:=b.isP hx;have l:=(c.mem i hi (x.getD i 0)).2 ⟨x,hx,fx,rfl⟩;obtain⟨k,g,e⟩:=uK.1 l;have a:=c.rep i hi k g;rw[bT g,e] at a;obtain⟨z,j⟩:=JR ((R.getD i []).getD k []);rw[j] at a;have Z:=b.isP a.mem
  have f:z∈R.flatten:=by
   have m:k<(R.getD i []).length:=by rw[c.rl i hi];exact g
   exact List.mem_flatten.2 ⟨R.getD i [],getD_mem (by rw[c.lr];exact hi),by rw[←j];exact getD_mem m⟩
  have o:=chain_gen b c d (i+1) (bE x (dM z)) om (b.mul hx (b.inv a.mem)) ((Fix.mul X om fx (Fix.inv Z om a.fix)).succ (by
   rw[dB (by rw[X.len];exact hi)];have:=mX Z hi
   rwa [a.maps] at this))
  have:=fE.mul o f;rwa [bP X Z.inv Z,iK Z,dD X] at this
theorem chain_mem {R:jL}(c:dW n G O R): ∀g∈R.flatten,G g:=λg b=>by
 obtain⟨r,f,b⟩:=List.mem_flatten.1 b;obtain⟨i,hi,rfl⟩:=uK.1 f;obtain⟨k,d,rfl⟩:=uK.1 b;have a:i<n:=by have:=c.lr;omega
 have e:R.getD i []=R[i]:=by rw[List.getD,eV hi];rfl
 have b:k<(O.getD i []).length:=by rw[←c.rl i a,e];exact d
 have:=(c.rep i a k b).mem;rw[e,List.getD,eV d] at this;exact this
theorem chain_iff (a:mH n G){R:jL}(c:dW n G O R)(x:List Nat):Ir n R x↔G x:=
 ⟨λh=>h.le a (chain_mem c),λh=>chain_gen a c n 0 x om h (λk b=>om)⟩
theorem GC.chk {R:jL}(g:GC W h vc n O R G):chkE (n:Int) (O.map zi) (R.map (List.map zi))=0:=by
 unfold chkE;have:=g.n0;have:=g.n7;rw[aZ om,aV ⟨n,O,R,rfl,g.n0,om,rfl,rfl,λx a=>g.grp.isP (chain_mem g.isc x a),g.isc.congr λx=>(chain_iff g.grp g.isc x).symm⟩]
theorem GC.small {R:jL}(g:GC W h vc n O R G):SmallO (O.map zi)/\SmallRR (R.map (List.map zi)):=chain_small (λx a=>g.grp.isP a) (by have:=g.n7;omega) g.isc
theorem GC.check {R:jL}(g:GC W h vc n O R G):Ev T 97 [vc] h (λv h'=>v= aB 0/\Fr h h'):=by
 have:=check_ok vc _ _ _ h g.ch (.inl (by have:=g.n7;omega)) g.small.1 g.small.2.out;rwa [g.chk] at this
theorem pck_zi {x:List Nat}(X:bV n x)(a:1<=n)(h2:n<=64):pck (zi x)=0:=by
 unfold pck;rw[aZ (by rw[aQ,X.len];omega),pckOk_zi X];rfl
end
set_option maxRecDepth 100000
section
variable {b A:Nat} {hh:H} {l:LN}
theorem sv_tail {h:H}{v:V}{ws:List V}(s:SV h v 1 ws)(k:CapOk v)(n:1<=ws.length): ∃v',nE 1 v (some (aB 1)) none none=some v'/\SV h v' 1 (ws.drop 1):=by
 rcases s with ⟨_,e⟩|⟨id,a,len,p,f,d,rfl,g,i,j,p,m⟩
 ·rw[e] at n;simp at n
 have p:kS none len len=some len:=by simp [kS]
 have o:((d.drop a).take (len*1)).drop 1=(d.drop (a+1)).take (len- 1):=by
  rw[List.drop_take,List.drop_drop,kF]
 rcases k _ _ _ _ rfl with rfl|⟨c,rfl,p⟩
 ·by_cases q:1<len
  ·refine⟨.sl id (a+1) (len- 1) (.un 1),?_,.inr ⟨id,a+1,len- 1,_,f,d,rfl,by rw[Cw,g];omega,i,j,om,by rw[←m,o,kF]⟩⟩
   simp [nE,kS,q,show (1:Int)<=(len:Int) by omega]
  ·refine⟨.sl id a 0 (.un 1),?_,.inr ⟨id,a,0,_,f,d,rfl,by rw[Cw,g];omega,i,j,om,?_⟩⟩
   ·have:len=1:=om
    subst this;simp [nE,kS]
   ·have:ws.drop 1= []:=Yx (by rw[Cw];omega)
    rw[this];simp
 ·refine⟨.sl id (if c=1 then a else a+1) (len- 1) (.kn (c- 1)),?_,.inr ⟨id,_,len- 1,_,f,d,rfl,by rw[Cw,g];omega,i,j,by split<;>omega,?_⟩⟩
  ·have:1<=len:=om
   simp [nE,kS,show (1:Int)<=(len:Int) by omega,show 1<=c by omega]
  ·by_cases e:c=1
   ·have:ws.drop 1= []:=Yx (by rw[Cw];omega)
    rw[this];have:len- 1=0:=om
    rw[this];simp
   ·rw[aZ e,←m,o,kF]
def AccB (b:Nat)(hh:H)(A:Nat)(l:LN):Prop:= ∃va ws W,hh.get A=bW [va]/\Own hh va 1 ws b/\PVs W hh ws l/\BlkIn W va/\(∀id,id<b->W id)/\ ∀id,W id->id<hh.next
theorem AccB.mono {h2:H}(a:AccB b hh A l)(d:A<hh.next)(f:Fr hh h2):AccB b h2 A l:=by
 obtain⟨i,c,W,g,o,p,k,h,e⟩:=a;exact⟨i,c,W,by rw[f.get _ d];exact g,o.fr f,p.fx (Fx.of f),k,h,λid h=>iP (e id h) f.next⟩
theorem AccB.other {h2:H}(a:AccB b hh A l){k:Nat}(q:k<b)(c:k≠A)(n:h2.next=hh.next)(o: ∀j,j≠k->h2.get j=hh.get j):AccB b h2 A l:=by
 obtain⟨i,r,W,g,s,p,m,d,u⟩:=a
 have f:Fx W hh h2:=⟨om,λid t h=>o id λe=>h (e▸d k q)⟩
 exact⟨i,r,W,by rw[o _ (Ne.symm c)];exact g,s.mono om λid _ _ _ _ t _=>o id om,PVs.go p f (λ_ _ h=>h),m,d,λid h=>by rw[n];exact u id h⟩
theorem AccB.push {d:H}(a:AccB b hh A l)(s:A<b){x:List Nat}{o y:V}(bytes:Nat)(O:bytes<=24)(P:l.length<1000000)(f:Fr hh d)(F:b<=hh.next)(N:PV (λid=>id<hh.next) d o x)(B:SV d y 1 [o]):
  ∃va h6,hh.get A=bW [va]/\qY d 1 bytes va y=some (.sl d.next 0 (l.length+1) (.un 1),h6)/\h6.get A=bW [va]/\h6.next=d.next+1/\(∀k,k<b->h6.get k=d.get k)/\
   (va.cells= [va]/\va.one=true)/\dJ va va=true/\ ∀h7,h6.set A (bW [.sl d.next 0 (l.length+1) (.un 1)])=h7->AccB b h7 A (l++ [x]):=by
 obtain⟨va,J,W,g,j,p,K,v,t⟩:=a
 have r:=All2.length p
 have r:=f.next
 obtain⟨h6,G,q⟩:=(j.fr f).push (bytes:=bytes) B (n:=l.length) (m:=1) om rfl om om ⟨by have:=Nat.mul_le_mul_left (2*(l.length+1)+1000) O;omega,om⟩
 have w: ∀k,k<b->dH va k:=λk r id i m c e u=>by have:=(j.in _ _ _ _ e).2.1;omega
 have z:=q.next
 have u: ∀k,k<b->h6.get k=d.get k:=λk r=>q.old k om (w k r)
 refine⟨va,h6,g,G,by rw[u A s,f.get A om];exact g,z,u,⟨j.sv.dG.1,j.sv.dG.2.1⟩,j.sv.dJ,λh7 e=>?_⟩
 subst e
 have j:Fx W d h6:=q.fx K
 have r:Fx W h6 (h6.set A (bW [.sl d.next 0 (l.length+1) (.un 1)])):=Fx.set h6 (v A s) _
 have g:=j.trans r (λ_ _ h=>h)
 have r: ∀id,id<d.next->(W id∨id=d.next)->W id:=λid L j=>by
  rcases j with j|j
  ·exact j
  ·omega
 have j:PV W d o x:=N.weak λid _ h=>t id h
 refine⟨_,J++ [o],λid=>W id∨id=d.next,by rw[H.aT],?_,(PVs.go (p.fx (Fx.of f)) g r).append (PVs.one (PV.go j g r)),λid i n c e=>by cases e;exact .inr rfl,λid h=> .inl (v id h),λid h=>?_⟩
 ·exact (q.own (b:=b) om rfl om).mono (eS _) λid i m c e L _=>H.aI h6 om _
 ·simp only[H.dE]
  rcases h with h|h
  ·have:=t id h;omega
  ·omega
end
def strongL (R:jL):LN:=R.flatMap (List.drop 1)
theorem strong_take {R:jL}{i:Nat}(hi:i<R.length):strongL (R.take (i+1))=strongL (R.take i)++(R.getD i []).drop 1:=by
 unfold strongL;rw[take_getD [] hi,List.flatMap_append];simp
theorem strong_len {n:Nat}{R:jL}: ∀{i:Nat},i<=R.length->(∀j,j<i->(R.getD j []).length<=n)->(strongL (R.take i)).length<=i*n
 |0,_,_=>by simp [strongL]
 |i+1,h,hr=>by
  rw[strong_take om,iZ,Cw,Nat.succ_mul];have a:=strong_len (i:=i) om (λj b=>hr j om);have c:=hr i om;omega
structure NewL (h h':H)(v:V)(l:LN):Prop where
 ex: ∃ws W,Own h' v 1 ws h.next/\PVs W h' ws l/\BlkIn W v/\(∀id,id<h.next->W id)
 fr:Fr h h'
theorem NewL.sp {h h':H}{v:V}{l:LN}(n:NewL h h' v l):SP h' v l:=by
 obtain⟨b,W,o,p,_⟩:=n.ex;have a:=All2.length p
 exact⟨b,o.sv,All2.iC (by simpa using a) λi hi a=>by
  have:=(All2.get p i hi om).si
  simpa using this⟩
theorem NewL.pl {h h':H}{v:V}{l:LN}(n:NewL h h' v l):PL (λid=>id<h.next) h' v l:=by
 obtain⟨a,W,o,p,_,b⟩:=n.ex;exact⟨a,o.sv,off_of o,p.weak (λid _ h=>b id h),Own.capOk o⟩
structure StJ (h hh:H)(id b B:Nat)(r:fQ)(n:Nat)(vO vR:V)(R:jL)(i:Nat):Prop where
 acc:AccB (id+1) hh (B+1) (strongL (R.take i))
 gr:hh.get id=some (.loop r)
 gb:hh.get b=bW [aB n,vO,vR]
 nx:id<hh.next
 fr:Fr h hh
theorem strong_ok {W:Nat->Prop}(vc:V)(n:Nat)(O:LN)(R:jL)(G:List Nat->Prop)(h:H)(gc:GC W h vc n O R G):
  Ev T 84 [vc] h (λv h'=> ∃vl,v= .tup [vl,aB 0]/\NewL h h' vl (strongL R)):=by
 obtain⟨vO,vR,e,sO,sR⟩:=gc.ch
 subst e
 refine bH c_chain_Strong rfl rfl ?_
 obtain⟨wR,tR,aR,kR⟩:=sR
 have lR:=aR.length
 have c:=gc.isc
 rw[iR,c.lr] at lR
 have a8:vO.one=true:=rL sO
 have a7:=tR.dG.2.1
 have n0:=gc.n0
 have n7:=gc.n7
 obtain⟨B,hB⟩:=JR h.next
 obtain⟨h1,e1,n1,g1,o1,f1⟩:=dN hB [aB n,vO,vR]
 have bx:=bD h (v:= aB n) (u:=vO) (w:=vR) rfl a8 a7
 have rB:=aS g1
 simp(disch:=omega)only[go_sem,c_chain_Strong,aF,bx,hB,e1,rB]
 refine ((gc.mono f1).check).mono ?_
 rintro _ h2 ⟨rfl,f2⟩
 simp(disch:=omega)only[go_sem]
 refine bB (λhc=>(hc rfl).elim) (λ_=>?_)
 obtain⟨A,hA⟩:=JR h2.next
 have n2:=f2.next
 obtain⟨h3,e3,n3,g3,o3,f3⟩:=dN hA [.aD]
 have c6:h3.get B=bW [aB n,vO,vR]:=by rw[f3.get _ om,f2.get _ om];exact g1
 have B:=aS c6
 simp(disch:=omega)only[go_sem,hA,e3,B]
 refine (reps_ok (n:Int) vO vR a8 a7 h3).mono ?_
 rintro _ Z ⟨rfl,g4,B,f4⟩
 simp(disch:=omega)only[go_sem]
 obtain⟨id,a9⟩:=JR Z.next
 obtain⟨b,hb⟩:=JR h3.next
 rw[hb] at g4 B
 refine⟨rfl,sN λr hr=>?_⟩
 rw[a9,hb]
 have iA:r.st= .ready:=by rw[hr]
 have b6:r.pend=none:=by rw[hr]
 have o5: ∀k,k<id->(Z.new (.loop r)).get k=Z.get k:=λk N=>H.bL Z om _
 have f5:Fr Z (Z.new (.loop r)):=(Fr.refl Z).new _
 have B:(Z.new (.loop r)).next=id+1:=by rw[H.aX,a9]
 have F4:=((f1.trans f2).trans f3).trans f4
 have rl: ∀j,j<n->(R.getD j []).length<=n:=λj hj=>by
  rw[c.rl j hj];exact jK (orb_len (λx hx=>gc.grp.isP hx) hj (c.asc j hj) (c.mem j hj)) om
 obtain⟨t,b1⟩: ∃t,A=t+1:=⟨A- 1,om⟩
 have J0:StJ h (Z.new (.loop r)) id b t r n vO vR R 0:=by
  refine⟨⟨.aD, [],λk=>k<id+1,?_,Own.aD _ _ _,trivial,λ_ _ _ _ e=>(by cases e),λ_ h=>h,λk N=>om⟩,by rw[←a9,H.aN],by rw[o5 _ om];exact g4,om,F4.trans f5⟩;rw[←b1,o5 _ om,f4.get _ om];exact g3
 refine (reps1_ok id b (n:Int) vO vR wR _ om (λi m=>StJ h m id b t r n vO vR R i) (λm=>False) J0 (λi m J=>⟨J.gb,tR.mono J.fr⟩) ?_).mono ?_
 ·rintro i m hi J
  have f:i<n:=om
  refine pX J.gr (by rw[hr];rfl) iA λh9 g9 n9 o9=>?_
  rw[congrArg fQ.assign hr,congrArg fQ.vars hr,congrArg fQ.pars hr]
  simp(disch:=omega)only[go_sem,List.zip_cons_cons,List.zip_nil_left]
  rw[congrArg fQ.body hr]
  have nx:=J.nx
  have B:(R.map (List.map zi)).getD i []=(R.getD i []).map zi:=gd_map (List.map zi) (by rw[c.lr];exact f)
  have e:=getD_row aR (i:=i) (by rw[iR,c.lr];exact f) .undef []
  rw[B] at e
  obtain⟨wr,tr,ar⟩:=e
  have lr:=ar.length
  rw[iR] at lr
  have e:1<=wr.length:=by
   rw[lr,c.rl i f];have:=(c.mem i f i).2 ⟨cH n,gc.grp.one,Fix.one n i om,eX f⟩;exact Xn this
  have F9:Fr h h9:=⟨by rw[n9];exact J.fr.next,λk N=>by rw[o9 k om];exact J.fr.get k N⟩
  obtain⟨vt,d2,tt⟩:=sv_tail tr (kR _ (getD_mem om)) e
  have lt:dA vt=some (aB (wr.length- 1:Nat)):=by unfold dA;rw[tt.len (n:=wr.length- 1) (by rw[Cw];omega) om];rfl
  have e:wr.length<=7:=by have:=rl i f;omega
  simp(disch:=omega)only[go_sem,d2,lt]
  have A9:AccB (id+1) h9 (t+1) (strongL (R.take i)):=J.acc.other (k:=id) om om n9 o9
  refine aH (λk' a5 m=> ∃(k:Nat),(∃g:Nat->V,a5= [g 0,g 1,g 2,g 3,g 4,.ptr A 0,g 6,g 7,g 8,g 9,g 10,g 11,vt,aB (wr.length- 1:Nat),aB k,g 15])/\k<=wr.length- 1/\AccB (id+1) m (t+1) (strongL (R.take i)++((R.getD i []).drop 1).take k)/\
    m.get id=some (.loop (oI r))/\m.get b=bW [aB n,vO,vR]/\id<m.next/\Fr h m/\k'=wr.length- 1-k) (wr.length- 1)
   ⟨0,aA rfl,fF _,by rw[List.take_zero,qA];exact A9,g9,by rw[o9 _ om];exact J.gb,om,F9,rfl⟩ ?_
  rintro k' a5 a ⟨k,⟨g,rfl⟩,N,Y,a6,a0,c1,K,rfl⟩
  have e:((R.getD i []).drop 1).length=wr.length- 1:=by rw[Cw];omega
  by_cases b5:(k:Int)<((wr.length- 1:Nat):Int)
  case neg=>
   have d1:=bJ b5;have e:k=wr.length- 1:=om
   rw[e,yW (l:=(R.getD i []).drop 1) om,←strong_take (by rw[c.lr];exact f)] at Y;simp(disch:=omega)only[go_sem,d1];refine pZ iA b6 a6 (.inl ⟨rfl,Y.other (k:=id) om om rfl (λj hj=>H.aI _ hj _),by rw[H.aT],by rw[H.aI _ om];exact a0,c1,K.set om _⟩)
  have d1:=bM b5
  have e:k<wr.length- 1:=om
  have b0:k+1<(R.getD i []).length:=om
  obtain⟨x,hx⟩:=JR ((R.getD i []).getD (k+1) [])
  have c9:((R.getD i []).drop 1).getD k []=x:=by
   rw[←hx];generalize R.getD i []=row;rw[List.getD,List.getD,List.getElem?_drop,Nat.add_comm 1 k]
  have X:bV n x:=by
   rw[←hx];exact gc.grp.isP (c.rep i f (k+1) (by rw[←c.rl i f];exact b0)).mem
  have sx:=getD_row ar (i:=k+1) (by rw[iR];exact b0) .undef []
  rw[gd_map zi (d:= []) b0,hx] at sx
  obtain⟨g,e,c4,f,f⟩:=(tt.mono K).shape (wr.length- 1) (by rw[Cw];omega) om
  have ck:a.cell g (e+k)=some (wr.getD (k+1) .undef):=by
   rw[f k (by rw[Cw];omega),List.getElem?_drop,List.getD,Nat.add_comm 1 k,eV om];rfl
  generalize wr.getD (k+1) .undef=f at sx ck
  obtain⟨L,gA,g⟩: ∃L,a.get (t+1)=bW [L]/\dJ L L=true:=by
   obtain⟨L,_,_,gA,ow,_⟩:=Y;exact⟨L,gA,ow.sv.dJ⟩
  have e:Fr a (H.mk a.tr (a.next+6)):=(Fr.refl a).bN om
  rw[b1]
  simp(disch:=omega)only[go_sem,d1,c4.ixa,ck,H.aG gA]
  refine (clone_ok f (zi x) (H.mk a.tr (a.next+6)) (by rw[aQ,X.len];omega) (by rw[aQ,X.len];omega) (sx.mono (K.trans e))).mono ?_
  rintro y p q
  have b9:=e.trans q.fr
  have c3:=q.fr.next
  have e:p.get (t+1)=bW [L]:=by rw[b9.get _ om];exact gA
  have f:PV (λid=>id<a.next) p y x:=q.pv λid h=>by simp;omega
  simp(disch:=omega)only[go_sem,H.aG e,g,cJ _ (z:= .aD) f.dR.1 f.dR.2]
  obtain⟨o,s⟩: ∃o:H,o=H.mk ((H.mk p.tr (a.next+3)).new (Ob.cells false [y])).tr p.next:=⟨_,rfl⟩
  rw[←s]
  have g:o.get (a.next+3)=bW [y]:=by rw[s];exact H.aN (H.mk p.tr (a.next+3)) _
  have e:o.next=p.next:=by rw[s]
  have e: ∀k,k≠a.next+3->o.get k=p.get k:=λk N=>by rw[s];exact H.bL (H.mk p.tr (a.next+3)) (by simpa using N) _
  simp only at c3
  have Q:Fr a o:=⟨om,λk N=>by rw[e k om];exact b9.get k N⟩
  have f:PV (λid=>id<a.next) o y x:=by
   obtain⟨p,s,A,s,y,y,B⟩:=q.ex;simp only at s;rw[A];exact⟨SV.all (by rw[aL,kF]) om (by rw[e _ om];exact y) _,λm=>by have:p<a.next:=m;omega⟩
  have e:(strongL (R.take i)++((R.getD i []).drop 1).take k).length<1000000:=by
   have h1:=strong_len (n:=n) (R:=R) (i:=i) (by rw[c.lr];omega) (λj hj=>rl j om);have h2:i*n<=7*7:=Nat.mul_le_mul om n7;rw[iZ,xF];omega
  obtain⟨b8,b3,c0,d3,c8,p,b2,one,_,c2⟩:=Y.push om (bytes:=24) (eS _) e Q om f (SV.one om g (.kn 1))
  have c7:b8=L:=by rw[gA] at c0;cases c0;rfl
  subst c7
  have e: ∀(m:H) (y:V),dQ (bW [b8]) m (t+1) 0 [y]=some (m.set (t+1) (bW [y])):=λm y=>bF (by simp) m _ _
  simp(disch:=omega)only[go_sem,d3,c8,e]
  rw[dY k]
  have b4:=c2 _ rfl
  have e:strongL (R.take i)++((R.getD i []).drop 1).take k++ [x]=strongL (R.take i)++((R.getD i []).drop 1).take (k+1):=by
   rw[oF,take_getD [] om,c9]
  rw[e] at b4
  have e:Fr a (b3.set (t+1) (bW [.sl o.next 0 ((strongL (R.take i)++((R.getD i []).drop 1).take k).length+1) (.un 1)]))->True:=λ_=>trivial
  obtain⟨U,F⟩: ∃U,U=b3.set (t+1) (bW [.sl o.next 0 ((strongL (R.take i)++((R.getD i []).drop 1).take k).length+1) (.un 1)]):=⟨_,rfl⟩
  rw[←F] at b4 ⊢
  have d0: ∀k,k<=id->k≠t+1->U.get k=a.get k:=λk h1 h2=>by rw[F,H.aI _ h2,b2 k om];exact Q.get k om
  have a:U.next=b3.next:=by rw[F];rfl
  refine⟨wr.length- 1-(k+1),om,k+1,aA rfl,om,b4,by rw[b2 id om,Q.get _ om];exact a6,by rw[b2 b om,Q.get _ om];exact a0,om,⟨by have:=K.next;omega,λk N=>by rw[d0 k om om];exact K.get k N⟩,rfl⟩
 ·rintro _ m (J|a)
  case inr=>exact a.elim
  refine⟨r,J.gr,by rw[iA];simp,?_⟩
  have en:r.pend.getD .norm= .norm:=by rw[b6];rfl
  rw[en]
  have nx:=J.nx
  have b7:=J.acc
  rw[lR,yW (by rw[c.lr];omega)] at b7
  obtain⟨h9,P⟩: ∃h9,h9=m.set id (some (.loop {r with st:= .out})):=⟨_,rfl⟩
  have A9:=b7.other (h2:=h9) (k:=id) om om (by rw[P];rfl) (λj hj=>by rw[P,H.aI _ hj])
  have F9:Fr h h9:=by rw[P];exact J.fr.set om _
  rw[←P,b1]
  obtain⟨L,ws,W',gA,ow,pv,bl,l1,a⟩:=A9
  simp(disch:=omega)only[go_sem,H.aG gA]
  exact⟨L,rfl,⟨ws,W',ow.le om,pv,bl,λid h=>l1 id om⟩,F9⟩
end Go.Proofs.YtapfcpkecmmagaaGreat
namespace Go.Pm
set_option maxRecDepth 100000
section
variable {x:List Nat} {i:Nat}
def fI (O:rC)(x:List Nat)(i:Nat):List Nat:=(O.getD i []).map λq=>x.getD q 0
def iE (l:List Nat):List Nat:=l.mergeSort λa b=>decide (a<=b)
theorem fZ (l:List Nat):(iE l).Perm l:=List.mergeSort_perm l _
theorem xT (l:List Nat):(iE l).Pairwise (· <= ·):=by
 have:=List.pairwise_mergeSort (le:=λa b:Nat=>decide (a<=b)) (λa b c e d=>by simp at*;omega) (λa b=>by simp;omega) l;exact this.imp λh=>by simpa using h
def jO (O:rC)(R:Yo)(x:List Nat)(i im:Nat):List Nat:=bE ((R.getD i []).getD ((fI O x i).idxOf im) []) x
def cF (O:rC)(R:Yo):Nat->Nat->List Nat->rC
 |0,_,x=> [x]
 |d+1,i,x=>(iE (fI O x i)).flatMap λim=>cF O R d (i+1) (jO O R x i im)
structure eP (G:List Nat->Prop)(L:rC):Prop where
 asc:L.Pairwise Lt
 mem: ∀x,x∈L↔G x
theorem Lt.irrefl (h:Lt x x):False:=h.asymm h
theorem Lt.trans {y z:List Nat}(n:x.length=y.length)(a:Lt x y)(b:Lt y z):Lt x z:=by
 obtain⟨k,f,e,g⟩:=a;obtain⟨m,o,d,l⟩:=b;rcases Nat.lt_trichotomy k m with h|h|h
 ·exact⟨k,f,λj c=>(e j c).trans (d j oq),by rw[←d k h];exact g⟩
 ·subst h;exact⟨k,f,λj c=>(e j c).trans (d j c),oq⟩
 ·exact⟨m,oq,λj c=>(e j oq).trans (d j c),by rw[e m h];exact l⟩
theorem Pn: ∀{a b:rC},a.Pairwise Lt->b.Pairwise Lt->(∀p,p∈a↔p∈b)->a=b
 | [], [],_,_,_=>rfl
 | [],y::b,_,_,h=>by have:=(h y).2 (by simp);simp at this
 |x::a, [],_,_,h=>by have:=(h x).1 (by simp);simp at this
 |x::a,y::b,ha,hb,h=>by
  obtain⟨j,m⟩:=List.pairwise_cons.1 ha;obtain⟨k,l⟩:=List.pairwise_cons.1 hb
  have e:x=y:=by
   have d:=(h x).1 (by simp);have f:=(h y).2 (by simp);rcases List.mem_cons.1 d with d|d
   ·exact d
   ·rcases List.mem_cons.1 f with f|f
    ·exact f.symm
    ·exact ((k x d).asymm (j y f)).elim
  subst e;congr 1
  refine Pn m l λp=>⟨λc=>?_,λc=>?_⟩
  ·rcases List.mem_cons.1 ((h p).1 (List.mem_cons_of_mem _ c)) with e|g
   ·subst e;exact ((j p c).irrefl).elim
   ·exact g
  ·rcases List.mem_cons.1 ((h p).2 (List.mem_cons_of_mem _ c)) with e|g
   ·subst e;exact ((k p c).irrefl).elim
   ·exact g
theorem eP.uniq {G:List Nat->Prop}{L M:rC}(a:eP G L)(b:eP G M):L=M:=Pn a.asc b.asc λp=>(a.mem p).trans (b.mem p).symm
theorem eP.nodup {G:List Nat->Prop}{L:rC}(a:eP G L):L.Nodup:=by
 rw[List.nodup_iff_pairwise_ne];exact a.asc.imp λh e=>by rw[e] at h;exact h.irrefl
def tN (O:rC):Nat->Nat->Nat
 |0,_=>1
 |d+1,i=>(O.getD i []).length*tN O d (i+1)
section
variable {n:Nat} {G:List Nat->Prop} {O:rC} {R:Yo}
theorem Uv {im:Nat}:im∈fI O x i↔ ∃q∈O.getD i [],x.getD q 0=im:=by simp [fI]
theorem tW (d:mH n G)(c:dW n G O R)(hi:i<n){q:Nat}(b:q∈O.getD i []):q<n:=by
 obtain⟨g,a,_,rfl⟩:=(c.mem i hi q).1 b;exact (d.isP a).dZ hi
theorem Bk (d:mH n G)(c:dW n G O R)(X:bV n x)(hi:i<n):(fI O x i).Nodup:=by
 have nd:(O.getD i []).Pairwise (· < ·):=c.asc i hi;rw[List.nodup_iff_pairwise_ne];unfold fI;rw[List.pairwise_map];refine nd.imp_of_mem λ{a b} f a b e=>?_
 have:=X.inj (tW d c hi f) (tW d c hi a) e;omega
theorem lW (m:mH n G)(c:dW n G O R)(X:bV n x)(hi:i<n){im:Nat}(g:im∈fI O x i):
  ∃k,k<(O.getD i []).length/\(fI O x i).idxOf im=k/\x.getD ((O.getD i []).getD k 0) 0=im/\yR n G i ((O.getD i []).getD k 0) ((R.getD i []).getD k [])/\jO O R x i im=bE ((R.getD i []).getD k []) x/\bV n (jO O R x i im)/\(jO O R x i im).getD i 0=im/\ ∀j,j<i->(jO O R x i im).getD j 0=x.getD j 0:=by
 have b:=List.idxOf_lt_length_iff.2 g
 have a:(fI O x i).idxOf im<(O.getD i []).length:=by simpa [fI] using b
 have d:(fI O x i).getD ((fI O x i).idxOf im) 0=im:=by rw[bT b,List.getElem_idxOf]
 obtain⟨k,e⟩: ∃k,(fI O x i).idxOf im=k:=⟨_,rfl⟩
 rw[e] at a d b
 have h:x.getD ((O.getD i []).getD k 0) 0=im:=by
  rw[←d];unfold fI;rw[List.getD_eq_getElem?_getD (l:=List.map _ _),List.getElem?_map,List.getElem?_eq_getElem a,bT a];rfl
 have b:=c.rep i hi k a
 have f:=m.isP b.mem
 have d:jO O R x i im=bE ((R.getD i []).getD k []) x:=by unfold jO;rw[e]
 refine⟨k,a,e,h,b,d,by rw[d];exact f.mul X,?_,λj a=>?_⟩
 ·rw[d,dB (by rw[f.len];exact hi),b.maps,h]
 ·rw[d,dB (by rw[f.len];omega),b.fix j a]
theorem xS (m:mH n G)(c:dW n G O R): ∀(d i:Nat) (x:List Nat),i+d=n->bV n x->
  (∀z,z∈cF O R d i x↔ ∃g,G g/\Fix i g/\z=bE g x)/\(cF O R d i x).Pairwise Lt/\(cF O R d i x).length=tN O d i
 |0,i,x,h,X=>by
  obtain rfl:i=n:=oq
  refine⟨λz=>?_,by simp [cF],rfl⟩;simp only[cF,List.mem_singleton];constructor
  ·rintro rfl;exact⟨cH i,m.one,Fix.one i i (Nat.le_refl _),(fO X).symm⟩
  ·rintro⟨g,p,r,rfl⟩;rw[r.all (m.isP p),fO X]
 |d+1,i,x,h,X=>by
  have hi:i<n:=oq
  have u:=λo (e:o∈fI O x i)=>xS m c d (i+1) (jO O R x i o) oq (lW m c X hi e).choose_spec.2.2.2.2.2.1
  have y: ∀o,o∈iE (fI O x i)↔o∈fI O x i:=λo=>(fZ _).mem_iff
  have s: ∀o,o∈fI O x i-> ∀z,z∈cF O R d (i+1) (jO O R x i o)->z.length=n/\z.getD i 0=o/\ ∀j,j<i->z.getD j 0=x.getD j 0:=λo e z v=>by
   obtain⟨g,p,r,rfl⟩:=((u o e).1 z).1 v;obtain⟨k,_,_,_,_,_,_,P,W⟩:=lW m c X hi e;have q:=m.isP p;refine⟨by rw[eH,q.len],?_,λj A=>?_⟩
   ·rw[dB (by rw[q.len];exact hi),r i oq,P]
   ·rw[dB (by rw[q.len];omega),r j oq,W j A]
  refine⟨λz=>?_,?_,?_⟩
  ·simp only[cF,List.mem_flatMap,y]
   constructor
   ·rintro⟨o,e,v⟩
    obtain⟨g,p,r,rfl⟩:=((u o e).1 z).1 v;obtain⟨k,_,_,_,f,J,_⟩:=lW m c X hi e;refine⟨bE g ((R.getD i []).getD k []),m.mul p f.mem,Fix.mul (m.isP p) oq (r.mono oq) f.fix,?_⟩;rw[J,bP (m.isP p) (m.isP f.mem) X]
   ·rintro⟨g,p,r,rfl⟩
    have q:=m.isP p;have L:=(c.mem i hi (g.getD i 0)).2 ⟨g,p,r,rfl⟩;have e:x.getD (g.getD i 0) 0∈fI O x i:=Uv.2 ⟨_,L,rfl⟩;refine⟨_,e,((u _ e).1 _).2 ?_⟩;obtain⟨k,N,_,Y,f,J,_⟩:=lW m c X hi e;have B:(O.getD i []).getD k 0=g.getD i 0:=X.inj (tW m c hi (by rw[bT N];exact List.getElem_mem N)) (tW m c hi L) Y;rw[B] at f;have t:=m.isP f.mem;refine⟨bE g (dM ((R.getD i []).getD k [])),m.mul p (m.inv f.mem),(Fix.mul q oq r (Fix.inv t oq f.fix)).succ ?_,?_⟩
    ·rw[dB (by rw[q.len];exact hi)]
     have:=mX t hi;rwa [f.maps] at this
    ·rw[J,←bP (q.mul t.inv) t X,bP q t.inv t,iK t,dD q]
  ·unfold cF
   rw[List.pairwise_flatMap];refine⟨λo e=>(u o ((y o).1 e)).2.1,?_⟩;have K:=xT (fI O x i);have nd:(iE (fI O x i)).Nodup:=(fZ _).nodup_iff.2 (Bk m c X hi);rw[List.nodup_iff_pairwise_ne] at nd;refine (K.and nd).imp_of_mem λ{a b} F hb a0 z v w hw=>?_
   obtain⟨l1,Q,z2⟩:=s a ((y a).1 F) z v;obtain⟨l2,w1,U⟩:=s b ((y b).1 hb) w hw;exact⟨i,oq,λj A=>by rw[z2 j A,U j A],by rw[Q,w1];omega⟩
  ·unfold cF tN
   rw[List.length_flatMap];have:(iE (fI O x i)).map (λa=>(cF O R d (i+1) (jO O R x i a)).length)=(iE (fI O x i)).map λ_=>tN O d (i+1):=List.map_congr_left λa F=>(u a ((y a).1 F)).2.2
   rw[this];have Z:(iE (fI O x i)).length=(O.getD i []).length:=by rw[(fZ _).length_eq];simp [fI]
   rw[←Z];generalize iE (fI O x i)=l
   induction l with
   |nil=>simp
   |cons a l u=>simp only[List.map_cons,List.sum_cons,u,List.length_cons,Nat.succ_mul];omega
theorem eE (a:mH n G)(c:dW n G O R):eP G (cF O R n 0 (cH n))/\(cF O R n 0 (cH n)).length=tN O n 0:=by
 obtain⟨d,b,e⟩:=xS a c n 0 (cH n) oq (bV.one n);refine⟨⟨b,λx=>?_⟩,e⟩;rw[d];constructor
 ·rintro⟨g,hg,_,rfl⟩;rw[dD (a.isP hg)];exact hg
 ·exact λb=>⟨x,b,λk d=>oq,(dD (a.isP b)).symm⟩
end
end
end Go.Pm
namespace Go.Proofs.YtapfcpkecmmagaaGreat
open Go Go.Ay Go.Pm
set_option maxRecDepth 100000
theorem szF_le {O:LN}{m:Nat}(a:1<=m): ∀d i,(∀j,i<=j->j<i+d->(O.getD j []).length<=m)->tN O d i<=m^d
 |0,_,_=>eS _
 |d+1,i,h=>by
  unfold tN;rw[Nat.pow_succ,Nat.mul_comm (m^d)];exact Nat.mul_le_mul (h i (eS _) om) (szF_le a d (i+1) λj b c=>h j om om)
theorem szF_pos {O:LN}: ∀d i,(∀j,i<=j->j<i+d->0<(O.getD j []).length)->0<tN O d i
 |0,_,_=>Nat.one_pos
 |d+1,i,h=>Nat.mul_pos (h i (eS _) om) (szF_pos d (i+1) λj a b=>h j om om)
theorem GC.row {W:Nat->Prop}{h:H}{b:V}{n:Nat}{O:LN}{R:jL}{G:List Nat->Prop}(g:GC W h b n O R G){j:Nat}(a:j<n):0<(O.getD j []).length/\(O.getD j []).length<=n:=by
 refine⟨?_,jK (orb_len (λx c=>g.grp.isP c) a (g.isc.asc j a) (g.isc.mem j a)) om⟩;exact Xn ((g.isc.mem j a j).2 ⟨cH n,g.grp.one,Fix.one n j om,eX a⟩)
theorem app_in {h:H}{S k c:Nat}{vs:List V}{y w:V}(a:h.get S=some (.cells false vs))(f:vs.length=c)(i:k<c)(g:c<1000000)(b:SV h y 1 [w]):
  qY h 1 8 (.sl S 0 k (.kn c)) y=some (.sl S 0 (k+1) (.kn c),h.set S (some (.cells false (vs.set k w)))):=by
 have d:qY h 1 8 (.sl S 0 k (.kn c)) y=Ay.oT h 1 8 (.sl S 0 k (.kn c)) 1 [w]:=by
  simp only[qY,b.len (n:=1) rfl om,b.slice]
 rw[d]
 have e:h.slice 1 (.sl S 0 k (.kn c))=some (vs.take k):=by
  simp only[H.slice,H.row,a,sub];rw[aV om];simp
 have d:h.put S (0+k*1) [w]=some (h.set S (some (.cells false (vs.set k w)))):=by
  rw[H.put_eq,a,Nat.zero_add,kF,bF om]
 unfold Ay.oT
 simp only[e,mG]
 rw[aZ om,aV om,aV om,d]
theorem sortN_uniq {l:List Int}{a:List Nat}(b:l.Perm (zi a))(c:l.Pairwise (· <= ·)):l=zi (iE a):=by
 refine asc_perm ?_ c ?_
 ·exact b.trans ((fZ a).map _).symm
 ·unfold zi
  rw[List.pairwise_map];exact (xT a).imp λh=>om
theorem imgs_len (O:LN)(x:List Nat)(i:Nat):(fI O x i).length=(O.getD i []).length:=by simp [fI]
theorem imgs_at {O:LN}{x:List Nat}{i k:Nat}(a:k<(O.getD i []).length):(fI O x i).getD k 0=x.getD ((O.getD i []).getD k 0) 0:=by
 unfold fI;rw[gd_map (λq=>x.getD q 0) (d:=0) a]
theorem choices_ok {W:Nat->Prop}(vc vx:V)(n i:Nat)(O:LN)(R:jL)(G:List Nat->Prop)(x:List Nat)(h:H)(N:GC W h vc n O R G)(hi:i<n)(hx:SI h vx (zi x))(X:bV n x):
  Ev T 119 [vc,vx,aB i] h (λv h'=>Frsh h h' v (zi (iE (fI O x i)))):=by
 obtain⟨vO,vR,e,sO,sR⟩:=N.ch
 subst e
 refine bH c_rank_choices rfl rfl ?_
 have b:=N.isc
 have n7:=N.n7
 obtain⟨wO,tO,aO⟩:=sO
 have lO:=aO.length
 rw[iR,b.lo] at lO
 have t:=tO.dG.2.1
 have a0:vR.one=true:=qZ sR
 obtain⟨B,hB⟩:=JR h.next
 obtain⟨h1,e1,n1,g1,o1,f1⟩:=dN hB [aB n,vO,vR]
 have bx:=bD h (v:= aB n) (u:=vO) (w:=vR) rfl t a0
 have a:=getD_row aO (i:=i) (by rw[iR,b.lo];omega) .undef []
 rw[gd_map zi (d:= []) (by rw[b.lo];omega)] at a
 obtain⟨P,c,a2,J,t⟩:=(tO.mono f1).shape n om om
 have co:h1.cell P (c+i)=some (wO.getD i .undef):=by rw[t i om,List.getD,eV om];rfl
 generalize wO.getD i .undef=vo at a co
 have lo:=a.lens
 rw[aQ] at lo
 obtain⟨m,s⟩:=JR ((O.getD i []).length)
 rw[s] at lo
 have t:=N.row (j:=i) hi
 rw[s] at t
 have mk:vH h1 1 8 [aB 0] (aB 0) (aB m)=some (.sl (B+1) 0 0 (.kn m),h1.new (.cells false (rc m λ_=> aB 0))):=by
  rw[lZ om om om om,De,kF,sG,show ints (List.replicate m 0)=rc m λ_=> aB 0 from (yS (by simp [aL]) λi hi=>by simp [ints,hi]).symm,n1]
  rfl
 obtain⟨h2,e2,t,g2,t,f2⟩:=dN n1 (rc m λ_=> aB 0)
 rw[e2] at mk
 have a0:h2.get B=some (.cells false [aB n,vO,vR]):=by rw[t _ om];exact g1
 have t:h2.cell P (c+i)=some vo:=by rw[f2.cell (by have:=J om;omega)];exact co
 simp(disch:=omega)only[go_sem,c_rank_choices,aF,bx,hB,e1,H.aG g1,a2.ixa,co,lo,mk,H.aG a0,t]
 obtain⟨a3,Q,Y,l,K⟩:=a.open
 rw[aQ,s] at Y l K
 obtain⟨idx,y,U,o,a1⟩:=hx.open
 rw[aQ,X.len] at U o a1
 refine aH (λk' f a=> ∃(k:Nat),(∃g:Nat->V,f= [g 0,vx,g 2,g 3,g 4,.sl (B+1) 0 k (.kn m),g 6,vo,aB m,aB k,g 10])/\k<=m/\a.get (B+1)=some (.cells false (rc m λj=>if j<k then aB ((fI O x i).getD j 0:Nat) else aB 0))/\B+1<a.next/\Fr h a/\k'=m-k) m
  ⟨0,aA rfl,fF _,by rw[g2];rfl,om,f1.trans f2,rfl⟩ ?_
 rintro k' f p ⟨k,⟨g,rfl⟩,a,gS,nx,F,rfl⟩
 by_cases L:(k:Int)<(m:Int)
 ·have d1:=bM L
  have Z:k<m:=om
  have cq:p.cell a3 (Q+k)=some (aB ((O.getD i []).getD k 0:Nat)):=by rw[F.cell (l om),K k Z];congr 2;rw[zi,gd_map _ (d:=0) om]
  have hq:=tW N.grp b hi (q:=(O.getD i []).getD k 0) (getD_mem om)
  have A:=imgs_at (O:=O) (x:=x) (i:=i) (k:=k) om
  generalize (O.getD i []).getD k 0=q at cq hq A
  have cx:p.cell idx (y+q)=some (aB (x.getD q 0:Nat)):=by rw[F.cell (o om),a1 q hq];congr 2;simp [zi,X.len,hq]
  obtain⟨h5,e5,a,g5,a,r⟩:=dN (h:=p) rfl [aB (x.getD q 0:Nat)]
  have a:h5.get (B+1)=some (.cells false (rc m λj=>if j<k then aB ((fI O x i).getD j 0:Nat) else aB 0)):=by rw[r.get _ nx];exact gS
  have ap:=app_in a (cK _ _) Z om (SV.one (v:= aB (x.getD q 0:Nat)) (id:=p.next) om g5 (.kn 1))
  rw[eJ] at ap
  simp(disch:=omega)only[go_sem,d1,Y.ixa,cq,U.ixa,cx,cJ p (z:= aB 0) (v:= aB (x.getD q 0:Nat)) rfl rfl,e5,ap]
  rw[dY k]
  refine⟨m-(k+1),om,k+1,aA rfl,om,?_,om,(F.trans r).set om _,rfl⟩
  congr 2
  refine aY λj hj=>?_
  by_cases e:j=k
  ·subst e;rw[aV rfl,aV om,A]
  ·rw[aZ e]
   by_cases e2:j<k
   ·rw[aV e2,aV om]
   ·rw[aZ e2,aZ om]
 have d1:=bJ L
 obtain rfl:k=m:=om
 have b:(zi (fI O x i)).length=k:=by rw[aQ,imgs_len,s]
 have a:p.get (B+1)=some (.cells false (ints (zi (fI O x i)))):=by
  rw[gS,←Kp,imgs_len,s];congr 2;exact aY λj hj=>by rw[aV hj]
 have c:=sort_ok p (B+1) (zi (fI O x i)) (.kn k) om a nx
 rw[b] at c
 simp(disch:=omega)only[go_sem,d1]
 refine c.mono ?_
 rintro _ h5 ⟨a,g5,a,b,r⟩
 have el:=sortN_uniq a b
 subst el
 have a:(zi (iE (fI O x i))).length=k:=by rw[aQ,(fZ _).length_eq,imgs_len,s]
 simp(disch:=omega)only[go_sem]
 refine⟨⟨B+1,_,by rw[a],om,iP nx r.next,g5,.inr (by rw[a])⟩,⟨jK F.next r.next,λid a=>?_⟩⟩
 rw[r.get id (iP a F.next) (λe=>by have:id=B+1:=e;omega)]
 exact F.get id a
theorem idx_le: ∀{l:List Nat} {k im:Nat},l[k]? =some im->l.idxOf im<=k
 | [],k,im,h=>by simp at h
 |a::l,0,im,h=>by
  have:a=im:=by simpa using h
  subst this;simp [List.idxOf_cons]
 |a::l,k+1,im,h=>by
  rw[List.idxOf_cons]
  by_cases e:a=im
  ·subst e;simp
  ·have b:(a==im)=false:=by simpa using e
   rw[b];have:=idx_le (l:=l) (k:=k) (im:=im) (by simpa using h);simp only[cond_false];omega
theorem idx_ok (G z:V)(a b:Nat)(o x:List Nat)(im:Nat)(h:H)(hn:o.length<1000000)(R:SI h G (zi o))(hx:SI h z (zi x))(Y:h.get a=some (.cells false [z]))(hb:h.get b=some (.cells false [aB im]))(B:a<h.next)(A:b<h.next)(hr: ∀q∈o,q<x.length)(s:im∈o.map λq=>x.getD q 0):
  Ev T 94 [G,.fn 160 [] [.ptr a 0,.ptr b 0]] h (λv h'=>v= aB ((o.map λq=>x.getD q 0).idxOf im:Nat)/\Fr h h'):=by
 refine bH c_slices_IndexFunc_int_int rfl rfl ?_
 have O:=R.lens
 rw[aQ] at O
 obtain⟨J,r,u,i,w⟩:=R.open
 rw[aQ] at u i w
 obtain⟨idx,p,t,j,m⟩:=hx.open
 rw[aQ] at t j m
 have L:=Za.2 s
 rw[iR] at L
 simp(disch:=omega)only[go_sem,c_slices_IndexFunc_int_int,aF,O]
 refine aH (λQ f e=> ∃(k:Nat),(∃g:Nat->V,f= [G,.fn 160 [] [.ptr a 0,.ptr b 0],g 2,g 3,aB (o.length:Int),aB k,g 6,g 7])/\k<=(o.map λq=>x.getD q 0).idxOf im/\Fr h e/\Q=o.length-k) o.length
  ⟨0,aA rfl,fF _,Fr.refl h,rfl⟩ ?_
 rintro Q f e ⟨k,⟨g,rfl⟩,f,F,rfl⟩
 have c:k<o.length:=om
 have d1:decide ((k:Int)<(o.length:Int))=true:=bM om
 have P:e.cell J (r+k)=some (aB (o.getD k 0:Nat)):=by rw[F.cell (i om),w k c];congr 2;rw[zi,gd_map _ (d:=0) c]
 have y:=hr _ (getD_mem (d:=0) c)
 have l:(o.map λq=>x.getD q 0)[k]'(by simpa using c)=x.getD (o.getD k 0) 0:=by simp [List.getD,c]
 generalize o.getD k 0=q at P y l
 have W:e.cell idx (p+q)=some (aB (x.getD q 0:Nat)):=by rw[F.cell (j om),m q y];congr 2;simp [zi,y]
 have U:e.cell a 0=some z:=by rw[H.aG (by rw[F.get _ B];exact Y)];rfl
 have Z:e.cell b 0=some (aB im):=by rw[H.aG (by rw[F.get _ A];exact hb)];rfl
 have cl:Ev T 160 [aB q,.ptr a 0,.ptr b 0] e (λv h'=>v= .bool (decide (((x.getD q 0:Nat):Int)=(im:Int)))/\Fr e h'):=by
  refine bH c_rank_step_1 rfl rfl ?_;simp(disch:=omega)only[go_sem,c_rank_step_1,aF,U,t.ixa,W,Z];exact (Fr.refl e).bN om
 simp(disch:=omega)only[go_sem,d1,u.ixa,P]
 refine cl.mono ?_
 rintro _ e ⟨rfl,N⟩
 by_cases n:((x.getD q 0:Nat):Int)=(im:Int)
 ·rw[bM n]
  simp(disch:=omega)only[go_sem]
  have:(o.map λq=>x.getD q 0).idxOf im=k:=by
   have K:(o.map λq=>x.getD q 0).idxOf im<=k:=idx_le (by
    rw[eV (by simpa using c),l]
    congr 1;omega)
   omega
  rw[this]
  exact⟨rfl,F.trans N⟩
 ·rw[bJ n]
  simp(disch:=omega)only[go_sem]
  rw[dY k]
  refine⟨o.length-(k+1),om,k+1,aA rfl,?_,F.trans N,rfl⟩
  have:(o.map λq=>x.getD q 0).idxOf im≠k:=λe=>by
   have K:=List.getElem_idxOf (Za.2 s);simp only[e] at K;rw[l] at K;omega
  omega
theorem step_ok {W:Nat->Prop}(vc g:V)(n i im:Nat)(O:LN)(R:jL)(G:List Nat->Prop)(x:List Nat)(h:H)(l:GC W h vc n O R G)(hi:i<n)(J:SI h g (zi x))(X:bV n x)(o:im∈fI O x i):
  Ev T 120 [vc,g,aB i,aB im] h (λv h'=>Frsh h h' v (zi (jO O R x i im))):=by
 obtain⟨y,F,e,sO,sR⟩:=l.ch
 subst e
 refine bH c_rank_step rfl rfl ?_
 have a:=l.isc
 have e:=l.n7
 obtain⟨wO,tO,aO⟩:=sO
 obtain⟨wR,tR,aR,e⟩:=sR
 have e:=aO.length
 have lR:=aR.length
 rw[iR,a.lo] at e
 rw[iR,a.lr] at lR
 have p:=tO.dG.2.1
 have t:=tR.dG.2.1
 obtain⟨B,hB⟩:=JR h.next
 obtain⟨h1,e1,n1,g1,e,e⟩:=dN hB [aB n,y,F]
 obtain⟨h2,e2,n2,g2,o2,f2⟩:=dN n1 [g]
 obtain⟨z,e3,n3,g3,o3,f3⟩:=dN n2 [aB im]
 have A:=(e.trans f2).trans f3
 have bx:=bD h (v:= aB n) (u:=y) (w:=F) rfl p t
 have Y:=kT J.dG.1 J.dG.2.1 h1
 have N:=zY h2 .i64 (im:Int)
 have r:z.get B=some (.cells false [aB n,y,F]):=by rw[o3 _ om,o2 _ om];exact g1
 have s:z.get (B+1)=some (.cells false [g]):=by rw[o3 _ om];exact g2
 have b:=getD_row aO (i:=i) (by rw[iR,a.lo];omega) .undef []
 rw[gd_map zi (d:= []) (by rw[a.lo];omega)] at b
 obtain⟨t,e,L,p,p⟩:=(tO.mono A).shape n om om
 have co:z.cell t (e+i)=some (wO.getD i .undef):=by rw[p i om,List.getD,eV om];rfl
 generalize wO.getD i .undef=e at b co
 simp(disch:=omega)only[go_sem,c_rank_step,aF,bx,hB,e1,Y,n1,e2,N,n2,e3,H.aG r,L.ixa,co]
 have row:=l.row (j:=i) hi
 refine (idx_ok e g (B+1) (B+1+1) (O.getD i []) x im z om (b.mono A) (J.mono A) s g3 om om (λq b=>by rw[X.len];exact tW l.grp a hi b) o).mono ?_
 rintro _ f ⟨rfl,e⟩
 obtain⟨k,hk,t,_,K,p,Y,_⟩:=lW l.grp a X hi o
 have b:(List.map (λq=>x.getD q 0) (O.getD i [])).idxOf im=k:=t
 rw[b,p]
 have m:=A.trans e
 have a1:f.get B=some (.cells false [aB n,y,F]):=by rw[e.get _ om];exact r
 have Q:f.get (B+1)=some (.cells false [g]):=by rw[e.get _ om];exact s
 have c:=getD_row aR (i:=i) (by rw[iR,a.lr];omega) .undef []
 rw[gd_map (List.map zi) (d:= []) (by rw[a.lr];omega)] at c
 obtain⟨e,b,a0,p,p⟩:=(tR.mono m).shape n om om
 have cr:f.cell e (b+i)=some (wR.getD i .undef):=by rw[p i om,List.getD,eV om];rfl
 generalize wR.getD i .undef=b at c cr
 obtain⟨wr,tr,e⟩:=c
 have lr:=e.length
 rw[iR] at lr
 have b:k<(R.getD i []).length:=by rw[a.rl i hi];exact hk
 have sz:=getD_row e (i:=k) (by rw[iR];exact b) .undef []
 rw[gd_map zi (d:= []) b] at sz
 obtain⟨c,a,U,b,b⟩:=(tr.mono m).shape (R.getD i []).length om om
 have cz:f.cell c (a+k)=some (wr.getD k .undef):=by rw[b k om,List.getD,eV om];rfl
 generalize wr.getD k .undef=vz at sz cz
 have a:(k:Int)<((R.getD i []).length:Int):=om
 have Z:=l.grp.isP K.mem
 have P:Fr f (H.mk f.tr (f.next+11)):=(Fr.refl f).bN om
 simp(disch:=omega)only[go_sem,H.aG a1,a0.ixa,cr,U.ixa,cz,H.aG Q]
 refine (mul_gen (rfl:T 161=some c_rank_mul) vz g _ x (H.mk f.tr (f.next+11)) (by rw[Z.len];omega) (sz.mono (m.trans P)) (J.mono (m.trans P)) (λj a=>by rw[X.len];exact Z.dZ (by rw[←Z.len];exact a))).mono ?_
 rintro v a a
 simp(disch:=omega)only[go_sem]
 exact (newp_frsh a).le (m.trans P)
def Kept (b:Nat)(W:Nat->Prop)(hh h':H):Prop:=hh.next<=h'.next/\ ∀id,id<hh.next->(id<b∨W id)->h'.get id=hh.get id
theorem Kept.fr {b:Nat}{W:Nat->Prop}{hh h':H}(f:Fr hh h'):Kept b W hh h':=⟨f.next,λid h _=>f.get id h⟩
structure Rdr (id b:Nat)(L:LN)(W0:Nat->Prop)(J:Nat->(Nat->Prop)->H->Prop)(D:(Nat->Prop)->H->Prop):Prop where
 kJ: ∀k W hh h',J k W hh->Kept b W hh h'->J k W h'
 kD: ∀W hh h',D W hh->Kept b W hh h'->D W h'
 y: ∀k W hh v,k<L.length->J k W hh->PV W hh v (L.getD k [])->(∀id,W id->id<hh.next)->b<=hh.next->(∀id,id<b->W id->W0 id)->
  Ey T id [v] hh (λv h'=> ∃W2,(∀id,id<hh.next->W2 id->W id)/\(∀id,W2 id->id<h'.next)/\Fx W hh h'/\(v= .bool true/\J (k+1) W2 h'∨v= .bool false/\D W2 h'))
def ElC (n:Nat)(vO vR:V)(O:LN)(R:jL)(G:List Nat->Prop)(d:Nat):Prop:=
 ∀(i:Nat) (x:List Nat) (vx:V) (id bi bc bx:Nat) (h:H) (W:Nat->Prop) (J:Nat->(Nat->Prop)->H->Prop) (D:(Nat->Prop)->H->Prop),i+d=n->bV n x->
  h.get bi=bW [aB i]->h.get bc=bW [aB n,vO,vR]->h.get bx=bW [vx]->PV W h vx x->bi<h.next->bc<h.next->bx<h.next-> ¬W bi-> ¬W bc-> ¬W bx->
  GC W h (.agg [aB n,vO,vR]) n O R G->(∀id,W id->id<h.next)->J 0 W h->Rdr id h.next (cF O R d i x) W J D->
  Ev T 118 [.yl id,.ptr bi 0,.ptr bc 0,.ptr bx 0] h (λ_ h'=> ∃W2,(∀id,id<h.next->W2 id->W id)/\(∀id,W2 id->id<h'.next)/\Fx W h h'/\(J (cF O R d i x).length W2 h'∨D W2 h'))
theorem el_zero (n:Nat)(q f:V)(O:LN)(R:jL)(G:List Nat->Prop):ElC n q f O R G 0:=by
 intro i x o id r l j h W J D hi X w m p A g g g g g g g z t rd;refine bH c_rank_elements_1 rfl rfl ?_;obtain rfl:i=n:=om
 obtain⟨B,e⟩:=JR h.next;obtain⟨a,v,g,s,b,d⟩:=dN e [.yl id];have c:=kT (x:= .yl id) rfl rfl h;have ci:=H.aG (h:=a) (id:=r) (by rw[b _ om];exact w);have u:=H.aG (h:=a) (id:=l) (by rw[b _ om];exact m);have k:=H.aG (h:=a) (id:=j) (by rw[b _ om];exact p);have b:decide ((i:Int)=(i:Int))=true:=bM rfl;simp(disch:=omega)only[go_sem,c_rank_elements_1,aF,c,e,v,ci,u];refine bB (λ_=>?_) (λb=>(b (by first|rfl|trivial)).elim);simp(disch:=omega)only[go_sem,H.aG s,k];refine (rd.y 0 W a o (by simp [cF]) (rd.kJ 0 W h a t (Kept.fr d)) (A.mono d) (λid h=>by have:=z id h;omega) om (λid _ h=>h)).mono ?_;rintro v c ⟨g,j,i,e,b⟩;simp(disch:=omega)only[go_sem];refine⟨g,λid a c=>j id om c,i,(Fx.of d).trans e (λ_ _ h=>h),?_⟩;rcases b with ⟨_,b⟩|⟨_,b⟩
 ·exact .inl b
 ·exact .inr b
theorem rel_ok (d:Int)(c b a:V)(i:Int)(L:c.one=true)(F:b.one=true)(f:a.cells= [a])(j:a.one=true)(h:H):Ev T 98 [.agg [aB d,c,b],a,aB i] h (λv h'=>v= .fn 118 [] [.ptr (h.next+1+1) 0,.ptr h.next 0,.ptr (h.next+1) 0]/\
  h'.get h.next=bW [aB d,c,b]/\h'.get (h.next+1)=bW [a]/\h'.get (h.next+1+1)=bW [aB i]/\h'.next=h.next+3/\Fr h h'):=by
 refine bH c_rank_elements rfl rfl ?_
 obtain⟨B,n⟩:=JR h.next
 obtain⟨e,x,k,o,g,p⟩:=dN n [aB d,c,b]
 obtain⟨K,z,m,y,G,t⟩:=dN k [a]
 obtain⟨g,r,J,A,l,q⟩:=dN m [aB i]
 have s:=bD h (v:= aB d) (u:=c) (w:=b) rfl L F
 have g:=kT f j e
 have e:=zY K .i64 i
 simp(disch:=omega)only[go_sem,c_rank_elements,aF,s,n,x,g,k,z,e,m,r]
 exact⟨by rw[l _ om,G _ om];exact o,by rw[l _ om];exact y,A,J,(p.trans t).trans q⟩
theorem offs {α β:Type}{l:List α}{f:α->List β}{m:Nat}(a:m<l.length)(d:α):((l.take (m+1)).flatMap f).length=((l.take m).flatMap f).length+(f (l.getD m d)).length:=by
 rw[take_getD d a,List.flatMap_append];simp
theorem offs_at {α β:Type}{f:α->List β}{e:β}(d:α): ∀{l:List α} {m k:Nat},m<l.length->k<(f (l.getD m d)).length->(l.flatMap f).getD (((l.take m).flatMap f).length+k) e=(f (l.getD m d)).getD k e/\((l.take m).flatMap f).length+k<(l.flatMap f).length
 | [],m,k,h,_=>by simp at h
 |a::l,0,k,_,b=>by
  have b:k<(f a).length:=b;constructor
  ·simp only[List.take_zero,List.flatMap_nil,List.length_nil,Nat.zero_add,List.flatMap_cons]
   rw[List.getD,List.getD,wE b];rfl
  ·simp;omega
 |a::l,m+1,k,h,b=>by
  have i:m<l.length:=by simpa using h
  have c:k<(f (l.getD m d)).length:=by simpa using b
  obtain⟨g,j⟩:=offs_at (e:=e) d (l:=l) i c;constructor
  ·simp only[List.take_succ_cons,List.flatMap_cons,iZ]
   rw[Nat.add_assoc,List.getD,Cq om,Nat.add_sub_cancel_left];exact g
  ·simp only[List.take_succ_cons,List.flatMap_cons,iZ];omega
structure InJ (off id2 b4 id:Nat)(r:fQ)(J:Nat->(Nat->Prop)->H->Prop)(W0:Nat->Prop)(k:Nat)(W:Nat->Prop)(hh:H):Prop where
 ex: ∃W3,(∀id,W id↔(W3 id∨id=id2))/\ ¬W3 id2/\ ¬W3 b4/\J (off+k) W3 hh/\(∀id,W3 id->id<hh.next)/\ ∀id,id<id2->W3 id->W0 id
 gr:hh.get id2=some (.loop r)
 g4:hh.get b4=bW [.yl id]
 nx:id2<hh.next
structure InD (id2 b4:Nat)(r:fQ)(D:(Nat->Prop)->H->Prop)(W0:Nat->Prop)(W:Nat->Prop)(hh:H):Prop where
 ex: ∃W3,(∀id,W id↔(W3 id∨id=id2))/\ ¬W3 id2/\D W3 hh/\(∀id,W3 id->id<hh.next)/\ ∀id,id<id2->W3 id->W0 id
 gr:hh.get id2=some (.loop (uS r .ret))
 nx:id2<hh.next
theorem el_succ (n:Nat)(F K:V)(O:LN)(R:jL)(G:List Nat->Prop)(d:Nat)(ih:ElC n F K O R G d):ElC n F K O R G (d+1):=by
 intro i x vx id bi bc bx h W J D hi X gi gc gx px li lc lx wi wc wx gC hW hJ rd;refine bH c_rank_elements_1 rfl rfl ?_;have a6:i<n:=om
 have n7:=gC.n7
 obtain⟨c8,c6⟩:F.one=true/\K.one=true:=by
  obtain⟨a,b,e,s1,s2⟩:=gC.ch;cases e;obtain⟨_,t1,_⟩:=s1;obtain⟨_,t2,_⟩:=s2;exact⟨t1.dG.2.1,t2.dG.2.1⟩
 obtain⟨B,hB⟩:=JR h.next;obtain⟨p,e1,n1,g1,o1,f1⟩:=dN hB [.yl id];have a3:=kT (x:= .yl id) rfl rfl h;have c0:p.get bi=bW [aB i]:=by rw[o1 _ om];exact gi
 have b7:p.get bc=bW [aB n,F,K]:=by rw[o1 _ om];exact gc
 have c5:p.get bx=bW [vx]:=by rw[o1 _ om];exact gx
 have d1:decide ((i:Int)=(n:Int))=false:=bJ om;have d8:=aS b7;simp(disch:=omega)only[go_sem,c_rank_elements_1,aF,a3,hB,e1,H.aG c0,H.aG b7,d1,d8,H.aG c5];refine (choices_ok (.agg [aB n,F,K]) vx n i O R G x p (gC.mono f1) a6 (px.mono f1).si X).mono ?_;rintro v8 c b8;obtain⟨w,a3⟩:=JR (iE (fI O x i));rw[a3] at b8;have f2:=b8.fr;have F2:=f1.trans f2
 have d8:w.length<=7:=by
  have:=(gC.row (j:=i) a6).2;rw[←a3,(fZ _).length_eq,imgs_len];omega
 have d7: ∀q,q∈w->q∈fI O x i:=λq h=>(fZ _).mem_iff.1 (by rw[a3];exact h)
 have hL:cF O R (d+1) i x=w.flatMap λq=>cF O R d (i+1) (jO O R x i q):=by rw[←a3];rfl
 obtain⟨P,cp,b6,a3,e3,gP,_⟩:=b8.ex;rw[aQ] at b6;have l8:dA v8=some (aB (w.length:Int)):=by rw[b6];rfl
 have e4:J 0 W c:=rd.kJ 0 W h c hJ (Kept.fr F2);have n2:=f2.next;simp(disch:=omega)only[go_sem,l8];refine aH (λk' a7 hh=> ∃(m:Nat) (s:Nat->Prop),(∃g:Nat->V,a7= [.yl id,.ptr bi 0,.ptr bc 0,.ptr bx 0,.ptr B 0,g 5,g 6,g 7,v8,aB (w.length:Int),aB m,g 11,g 12,g 13,g 14])/\m<=w.length/\J ((w.take m).flatMap λq=>cF O R d (i+1) (jO O R x i q)).length s hh/\Fx W c hh/\(∀id,id<c.next->s id->W id)/\(∀id,s id->id<hh.next)/\k'=w.length-m) w.length
  ⟨0,W,aA rfl,fF _,e4,Fx.refl _ _,λ_ _ h=>h,λid h=>by have:=hW id h;omega,rfl⟩ ?_
 rintro k' a7 u ⟨m,s,⟨g,rfl⟩,g,a4,F3,w1,w2,rfl⟩
 by_cases c1:(m:Int)<(w.length:Int)
 case neg=>
  have d2:=bJ c1;obtain rfl:m=w.length:=om
  simp(disch:=omega)only[go_sem,d2];rw[List.take_length,←hL] at a4;exact⟨s,λid p c=>w1 id om c,w2,(Fx.of F2).trans F3 (λ_ _ h=>h),.inl a4⟩
 have d2:=bM c1;have a0:m<w.length:=om
 obtain⟨q,L⟩:=JR (w.getD m 0);have b0:q∈fI O x i:=d7 q (by rw[←L];exact getD_mem a0);obtain⟨_,_,_,_,_,_,Y,_⟩:=lW gC.grp gC.isc X a6 b0;have g:=F3.next;have keep: ∀k,k<c.next-> ¬W k->u.get k=c.get k:=λk p c=>F3.get k p c
 have wB: ¬W B:=λh=>by have:=hW B h;omega
 have g: ¬W P:=λh=>by have:=hW P h;omega
 have c4:u.get bi=bW [aB i]:=by rw[keep _ om wi,f2.get _ om];exact c0
 have b3:u.get bc=bW [aB n,F,K]:=by rw[keep _ om wc,f2.get _ om];exact b7
 have d4:u.get bx=bW [vx]:=by rw[keep _ om wx,f2.get _ om];exact c5
 have e5:u.get B=bW [.yl id]:=by rw[keep _ om wB,f2.get _ om];exact g1
 have cP:u.cell P m=some (aB q):=by rw[H.aG (by rw[keep _ e3 g];exact gP),tT a0,L]
 have e8:=aS b3
 have eO:dJ F F=true:=by
  obtain⟨a,b,e,s1,s2⟩:=gC.ch;cases e;obtain⟨_,t1,_⟩:=s1;exact t1.dJ
 have eR:dJ K K=true:=by
  obtain⟨a,b,e,s1,s2⟩:=gC.ch;cases e;obtain⟨_,t2,_⟩:=s2;exact t2.dJ
 have P:GC W u (.agg [aB n,F,K]) n O R G:=(gC.mono F2).go F3 (λ_ _ h=>h);have g:PV W u vx x:=(px.mono F2).fx F3;have b:Fr u (H.mk u.tr (u.next+9)):=(Fr.refl u).bN om;rw[b6];have a:(i:Int)+1=((i+1:Nat):Int):=om
 simp(disch:=omega)only[go_sem,d2,cP,e8,aS (h:=H.mk u.tr (u.next+9)) b3,H.aG d4,H.aG c4,a];refine (step_ok (.agg [aB n,F,K]) vx n i q O R G x (H.mk u.tr (u.next+9)) (P.mono b) a6 (g.mono b).si X b0).mono ?_;rintro b9 h4 a;have f4:=b.trans a.fr;have b:=f4.next;have g:h4.get bi=bW [aB i]:=by rw[f4.get _ om];exact c4
 have b:h4.get bc=bW [aB n,F,K]:=by rw[f4.get _ om];exact b3
 have b2:PV s h4 b9 (jO O R x i q):=a.pv λid h=>by have:=w2 id h;simp;omega
 simp(disch:=omega)only[go_sem,H.aG g,aS b,eO,eR];refine (rel_ok (n:Int) F K b9 ((i+1:Nat):Int) c8 c6 b2.dR.1 b2.dR.2 h4).mono ?_;rintro _ h5 ⟨rfl,d0,e7,e0,a,f5⟩;simp(disch:=omega)only[go_sem];refine⟨rfl,sN λr hr=>?_⟩;obtain⟨o,b1⟩:=JR h5.next;rw[b1];have iA:r.st= .ready:=by rw[hr]
 have c3:r.pend=none:=by rw[hr]
 obtain⟨h6,a5⟩: ∃h6,h6=h5.new (.loop r):=⟨_,rfl⟩
 have e9:h6.get o=some (.loop r):=by rw[a5,←b1,H.aN]
 have a:h6.next=o+1:=by rw[a5,H.aX,b1]
 have f6:Fr h5 h6:=by rw[a5];exact (Fr.refl h5).new _
 rw[←a5];have b4:=(f4.trans f5).trans f6;obtain⟨N,U⟩:=JR (((w.take m).flatMap λq=>cF O R d (i+1) (jO O R x i q)).length);rw[U] at a4;have a:=f5.next;have d3: ¬s o:=λh=>by have:=w2 o h;omega
 have e2: ¬s B:=λh=>wB (w1 B om h)
 have b: ∀k,k<(cF O R d (i+1) (jO O R x i q)).length->(cF O R (d+1) i x).getD (N+k) []=(cF O R d (i+1) (jO O R x i q)).getD k []/\N+k<(cF O R (d+1) i x).length:=λk hk=>by
  rw[hL,←U];have:=offs_at (f:=λq=>cF O R d (i+1) (jO O R x i q)) (e:=([]:List Nat)) 0 (l:=w) (m:=m) (k:=k) a0 (by rw[L];exact hk);rw[L] at this;exact this
 have c9:Fx W h h6:=((Fx.of F2).trans F3 (λ_ _ h=>h)).trans (Fx.of b4) (λ_ _ h=>h)
 have d9:Rdr o h6.next (cF O R d (i+1) (jO O R x i q)) (λk=>s k∨k=o) (InJ N o B id r J s) (InD o B r D s):=by
  refine⟨λk W2 hh g j a=>?_,λW2 hh g j a=>?_,λk W2 hh v hk j pv g g g=>?_⟩
  ·obtain⟨W3,t,Z,q3,q4,q5,q6⟩:=j.ex
   have nx:=j.nx;exact⟨⟨W3,t,Z,q3,rd.kJ _ _ _ _ q4 ⟨a.1,λid p c=>a.2 id p (by rcases c with c|c;exact .inl om;exact .inr ((t id).2 (.inl c)))⟩,λid h=>iP (q5 id h) a.1,q6⟩,by rw[a.2 _ nx (.inl om)];exact j.gr,by rw[a.2 _ om (.inl om)];exact j.g4,iP nx a.1⟩
  ·obtain⟨W3,t,Z,q4,q5,q6⟩:=j.ex
   have nx:=j.nx;exact⟨⟨W3,t,Z,rd.kD _ _ _ q4 ⟨a.1,λid p c=>a.2 id p (by rcases c with c|c;exact .inl om;exact .inr ((t id).2 (.inl c)))⟩,λid h=>iP (q5 id h) a.1,q6⟩,by rw[a.2 _ nx (.inl om)];exact j.gr,iP nx a.1⟩
  ·obtain⟨W3,t,Z,q3,q4,q5,q6⟩:=j.ex
   have nx:=j.nx;obtain⟨d5,e6⟩:=b k hk;refine pX j.gr (by rw[hr];rfl) iA λh9 g9 n9 a=>?_
   rw[congrArg fQ.assign hr,congrArg fQ.vars hr,congrArg fQ.pars hr];simp(disch:=omega)only[go_sem,List.zip_cons_cons,List.zip_nil_left];rw[congrArg fQ.body hr];have c7:h9.get B=bW [.yl id]:=by rw[a _ om];exact j.g4
   have f9:Fx W2 hh h9:=⟨om,λk _ c=>a k λe=>c ((t k).2 (.inr e))⟩
   have k9:Kept h.next W3 hh h9:=⟨om,λk p c=>a k λe=>by
    subst e;rcases c with c|c
    ·omega
    ·exact Z c⟩
   simp(disch:=omega)only[go_sem,H.aG c7];refine (rd.y (N+k) W3 h9 v e6 (rd.kJ _ _ _ _ q4 k9) (by rw[d5];exact PV.go pv f9 λid _ h=>(t id).2 (.inl h)) (λid h=>by rw[n9];exact q5 id h) om (λid p c=>w1 id om (q6 id om c))).mono ?_;rintro a z ⟨W4,u1,u2,a,hv⟩;have b:=a.next;have b5: ¬W4 o:=λh=>Z (u1 o om h)
   have d6: ¬W4 B:=λh=>q3 (u1 B om h)
   have a8:z.get o=some (.loop (oI r)):=by rw[a.get o om Z];exact g9
   have c2:z.get B=bW [.yl id]:=by rw[a.get B om q3];exact c7
   have a9:Fx W2 hh z:=f9.trans a λid _ h=>(t id).2 (.inl h)
   have low: ∀k,k<o->W4 k->s k:=λk p c=>q6 k p (u1 k om c)
   have kk: ∀a:fQ,Kept h.next W4 z (z.set o (some (.loop a))):=λa=>⟨eS _,λk p c=>H.aI _ (λe=>by
    subst e;rcases c with c|c
    ·omega
    ·exact b5 c) _⟩
   rcases hv with ⟨rfl,hv⟩|⟨rfl,hv⟩
   ·simp(disch:=omega)only[go_sem]
    refine pZ iA c3 a8 ⟨λk=>W4 k∨k=o,λk p c=>?_,λk c=>?_,a9.trans (Fx.set z ((t o).2 (.inr rfl)) _) (λ_ _ h=>h),.inl ⟨rfl,⟨W4,λk=>Iff.rfl,b5,d6,?_,u2,low⟩,by rw[H.aT],by rw[H.aI _ om];exact c2,by simp only[H.dE];omega⟩⟩
    ·rcases c with c|c
     ·exact (t k).2 (.inl (u1 k om c))
     ·exact (t k).2 (.inr c)
    ·rcases c with c|c
     ·exact u2 k c
     ·simp only[H.dE];omega
    ·exact rd.kJ _ _ _ _ hv (kk r)
   ·simp(disch:=omega)only[go_sem]
    refine Ft a8 ⟨λk=>W4 k∨k=o,λk p c=>?_,λk c=>?_,a9.trans (Fx.set z ((t o).2 (.inr rfl)) _) (λ_ _ h=>h),.inr ⟨rfl,⟨W4,λk=>Iff.rfl,b5,?_,u2,low⟩,by rw[H.aT],by simp only[H.dE];omega⟩⟩
    ·rcases c with c|c
     ·exact (t k).2 (.inl (u1 k om c))
     ·exact (t k).2 (.inr c)
    ·rcases c with c|c
     ·exact u2 k c
     ·simp only[H.dE];omega
    ·exact rd.kD _ _ _ hv (kk _)
 have A: ∀k,k<h5.next->h6.get k=h5.get k:=λk hk=>f6.get k hk
 have a:GC (λk=>s k∨k=o) h6 (.agg [aB n,F,K]) n O R G:=gC.go c9 λk p c=>by
  rcases c with c|c
  ·exact w1 k om c
  ·omega
 refine (ih (i+1) (jO O R x i q) b9 o (h4.next+1+1) h4.next (h4.next+1) h6 (λk=>s k∨k=o) (InJ N o B id r J s) (InD o B r D s) om Y (by rw[A _ om];exact e0) (by rw[A _ om];exact d0) (by rw[A _ om];exact e7)
  (((b2.mono f5).weak λk p c=>(by rcases c with c|c;exact c;omega)).mono f6) om om om (λh=>by rcases h with h|h;have:=w2 _ h;omega;omega) (λh=>by rcases h with h|h;have:=w2 _ h;omega;omega) (λh=>by rcases h with h|h;have:=w2 _ h;omega;omega) a (λk h=>by rcases h with h|h;have:=w2 _ h;omega;omega)
  ⟨⟨s,λk=>Iff.rfl,d3,e2,rd.kJ _ _ _ _ a4 (Kept.fr b4),λk h=>by have:=w2 _ h;omega,λ_ _ h=>h⟩,e9,by rw[A _ om,f5.get _ om,f4.get _ om];exact e5,om⟩ d9).mono ?_
 rintro _ h7 ⟨a,a,a,F7,j|j⟩
 ·obtain⟨W3,t,Z,q3,q4,q5,q6⟩:=j.ex
  have nx:=j.nx;refine⟨r,j.gr,by rw[iA];simp,?_⟩;have en:r.pend.getD .norm= .norm:=by rw[c3];rfl
  rw[en];simp(disch:=omega)only[go_sem];rw[dY m]
  have Q:Fx W c h7:=F3.trans ((Fx.of (W:=λk=>s k∨k=o) b4).trans F7 (λ_ _ h=>h)) λk p c=>by
   rcases c with c|c
   ·exact w1 k p c
   ·omega
  refine⟨w.length-(m+1),om,m+1,W3,aA rfl,om,?_,⟨Q.next,λk p c=>by rw[H.aI _ om];exact Q.get k p c⟩,λk p c=>w1 k p (q6 k om c),q5,rfl⟩;rw[offs a0 0,L,U]
  refine rd.kJ _ _ _ _ q4 ⟨eS _,λk p c=>H.aI _ (λe=>by
   subst e;rcases c with c|c
   ·omega
   ·exact Z c) _⟩
 ·obtain⟨W3,t,Z,q4,q5,q6⟩:=j.ex
  have nx:=j.nx;refine⟨_,j.gr,by simp [uS],?_⟩;have en:(uS r .ret).pend.getD .norm= .ret:=rfl;rw[en];simp(disch:=omega)only[go_sem]
  have Q:Fx W h h7:=c9.trans F7 λk p c=>by
   rcases c with c|c
   ·exact w1 k om c
   ·omega
  refine⟨W3,λk p c=>w1 k om (q6 k om c),q5,⟨Q.next,λk p c=>by rw[H.aI _ om];exact Q.get k p c⟩,.inr ?_⟩
  refine rd.kD _ _ _ q4 ⟨eS _,λk p c=>H.aI _ (λe=>by
   subst e;rcases c with c|c
   ·omega
   ·exact Z c) _⟩
theorem el_all (n:Nat)(b a:V)(O:LN)(R:jL)(G:List Nat->Prop): ∀d,ElC n b a O R G d
 |0=>el_zero n b a O R G
 |d+1=>el_succ n b a O R G d (el_all n b a O R G d)
def OwnE (W M:Nat->Prop)(b:Nat)(hh:H)(w:V)(x:List Nat):Prop:= ∃id cap,w= .sl id 0 x.length cap/\W id/\ ¬M id/\b<=id/\id<hh.next/\hh.get id=bW (ints (zi x))
structure LsJ (h:H)(b0 A B id2:Nat)(r:fQ)(l:LN)(W:Nat->Prop)(hh:H):Prop where
 ex: ∃va ws M,hh.get A=bW [va]/\Own hh va 1 ws (id2+1)/\All2 (OwnE W M (id2+1) hh) ws l/\BlkIn M va/\(∀id,M id->W id)/\(∀id,M id->id<hh.next)/\M A/\ ∀id off n c,va= .sl id off n c->id≠id2/\id≠A
 gr:hh.get id2=some (.loop r)
 wA:W A
 w2:W id2
 g1:hh.get (B+1)=bW [.aD]
 g2:hh.get (B+1+1)=bW [aB 0]
 nx:id2<hh.next
 nA:A<hh.next
 fr:Fr h hh
theorem LsJ.kept {h:H}{f b A B d:Nat}{r:fQ}{l:LN}{W:Nat->Prop}{hh h':H}(j:LsJ h f A B d r l W hh)(k:Kept b W hh h')(q:B+1+1<b)(s:h.next<=b)(m:b<=hh.next):LsJ h f A B d r l W h':=by
 obtain⟨c,n,M,e,o,el,g,a,i,p,ne⟩:=j.ex
 refine⟨⟨c,n,M,by rw[k.2 A j.nA (.inr j.wA)];exact e,o.mono k.1 λid c n c e _ c=>k.2 id c (.inr (a _ (g _ _ _ _ e))),el.mono λw x ⟨id,cap,e,e1,e2,e3,e4,e5⟩=>⟨id,cap,e,e1,e2,e3,iP e4 k.1,by rw[k.2 id e4 (.inr e1)];exact e5⟩,g,a,λid h=>iP (i id h) k.1,p,ne⟩,
  by rw[k.2 _ j.nx (.inr j.w2)];exact j.gr,j.wA,j.w2,by rw[k.2 _ om (.inl om)];exact j.g1,by rw[k.2 _ om (.inl om)];exact j.g2,iP j.nx k.1,iP j.nA k.1,⟨jK j.fr.next k.1,λid a=>by rw[k.2 id (iP a j.fr.next) (.inl om)];exact j.fr.get id a⟩⟩
theorem szF_fact {W:Nat->Prop}{h:H}{e:V}{n:Nat}{O:LN}{R:jL}{G:List Nat->Prop}(g:GC W h e n O R G):tN O n 0<=5040:=by
 have b: ∀i,i<n->(O.getD i []).length<=n-i:=λi hi=>orb_len (λx c=>g.grp.isP c) hi (g.isc.asc i hi) (g.isc.mem i hi)
 have a: ∀d i,i+d=n->tN O d i<= [1,1,2,6,24,120,720,5040].getD d 0:=by
  intro d
  induction d with
  |zero=>intro i _;simp [tN]
  |succ d ih=>
   intro i hi;unfold tN;have c:=ih (i+1) om;have f:=b i om;have f:(O.getD i []).length<=d+1:=om
   have b:=g.n7;have i:=Nat.mul_le_mul f c;refine jK i ?_;have:d<=6:=om
   match d,this with
   |0,_=>decide
   |1,_=>decide
   |2,_=>decide
   |3,_=>decide
   |4,_=>decide
   |5,_=>decide
   |6,_=>decide
 have b:=g.n7;refine jK (a n 0 om) ?_
 match n,b with
 |0,_=>decide
 |1,_=>decide
 |2,_=>decide
 |3,_=>decide
 |4,_=>decide
 |5,_=>decide
 |6,_=>decide
 |7,_=>decide
theorem list_bad (k:V)(d:Int)(O:List (List Int))(R:List (List (List Int)))(h:H)(m:ChI h k d O R)(r:d<=7∨64<d)(s:SmallO O)(sr:SmallR R)(N:chkE d O R≠0):
  Ev T 68 [k] h (λv h'=>v= .tup [.aD,aB (chkE d O R)]/\Fr h h'):=by
 have g:=m
 obtain⟨f,c,e,K,y⟩:=m
 subst e
 refine bH c_rank_List rfl rfl ?_
 have a:f.one=true:=rL K
 have b:c.one=true:=qZ y
 obtain⟨B,l⟩:=JR h.next
 obtain⟨e,L,i,J,e,K⟩:=dN l [aB d,f,c]
 obtain⟨e,A,p,z,G,y⟩:=dN i [.aD]
 obtain⟨n,t,e,F,j,e⟩:=dN p [aB 0]
 have q:=(K.trans y).trans e
 have x:=bD h (v:= aB d) (u:=f) (w:=c) rfl a b
 have a:n.get B=bW [aB d,f,c]:=by rw[j _ om,G _ om];exact J
 have b:=aS a
 simp(disch:=omega)only[go_sem,c_rank_List,aF,x,l,L,i,A,p,t,b]
 refine (check_ok _ d O R n (g.mono q) r s sr).mono ?_
 rintro _ o ⟨rfl,a⟩
 have c:o.get (B+1)=bW [.aD]:=by rw[a.get _ om,j _ om];exact z
 have e:o.get (B+1+1)=bW [aB 0]:=by rw[a.get _ om];exact F
 have g:=bM N
 have f: ∀(b:H) (id:Nat) (u w:V),dQ (bW [u]) b id 0 [w]=some (b.set id (bW [w])):=λb id u w=>bF (by simp) b _ _
 have b:=a.next
 simp(disch:=omega)only[go_sem,g,c,e,f]
 exact ((q.trans a).set om _).set om _
theorem list_ok {W0:Nat->Prop}(vc:V)(n:Nat)(O:LN)(R:jL)(G:List Nat->Prop)(h:H)(gc:GC W0 h vc n O R G):
  Ev T 68 [vc] h (λv h'=> ∃vl,v= .tup [vl,aB 0]/\NewL h h' vl (cF O R n 0 (cH n))):=by
 obtain⟨vO,vR,e,sO,sR⟩:=gc.ch
 subst e
 refine bH c_rank_List rfl rfl ?_
 have d0:=gc.isc
 have t:=gc.n0
 have t:=gc.n7
 have b2:vO.one=true:=rL sO
 have b1:vR.one=true:=qZ sR
 have eO:dJ vO vO=true:=by obtain⟨_,t,_⟩:=sO;exact t.dJ
 have eR:dJ vR vR=true:=by obtain⟨_,t,_⟩:=sR;exact t.dJ
 obtain⟨L,hL⟩:=JR (cF O R n 0 (cH n))
 obtain⟨t,ll⟩:=eE gc.grp d0
 have d0:=szF_fact gc
 rw[hL] at t ll
 have LP: ∀k,k<L.length->bV n (L.getD k []):=λk hk=>gc.grp.isP ((t.mem _).1 (getD_mem hk))
 obtain⟨B,hB⟩:=JR h.next
 obtain⟨h1,e1,n1,g1,t,f1⟩:=dN hB [aB n,vO,vR]
 obtain⟨l,N,n2,g2,o2,f2⟩:=dN n1 [.aD]
 obtain⟨h3,e3,t,g3,o3,t⟩:=dN n2 [aB 0]
 have F3:=(f1.trans f2).trans t
 have bx:=bD h (v:= aB n) (u:=vO) (w:=vR) rfl b2 b1
 have c0:h3.get B=bW [aB n,vO,vR]:=by rw[o3 _ om,o2 _ om];exact g1
 have t:=aS c0
 simp(disch:=omega)only[go_sem,c_rank_List,aF,bx,hB,e1,n1,N,n2,e3,t]
 refine ((gc.mono F3).check).mono ?_
 rintro _ h4 ⟨rfl,t⟩
 have n4:=t.next
 obtain⟨A,hA⟩:=JR h4.next
 obtain⟨U,e5,n5,g5,o5,f5⟩:=dN hA [.aD]
 have a9:U.get B=bW [aB n,vO,vR]:=by rw[f5.get _ om,t.get _ om];exact c0
 have d8:U.get (B+1)=bW [.aD]:=by rw[f5.get _ om,t.get _ om,o3 _ om];exact g2
 have d1:U.get (B+1+1)=bW [aB 0]:=by rw[f5.get _ om,t.get _ om];exact g3
 have F5:=(F3.trans t).trans f5
 have e4:=aS a9
 have c6:=aS (h:=H.mk U.tr (U.next+5)) a9
 simp(disch:=omega)only[go_sem]
 refine bB (λt=>(t (by first|rfl|trivial)).elim) (λ_=>?_)
 simp(disch:=omega)only[go_sem,hA,e5,e4,c6,H.aG a9]
 refine (one_gen (rfl:T 99=some c_rank_one) n (H.mk U.tr (U.next+5)) om).mono ?_
 rintro v6 h6 t
 have fb:Fr U (H.mk U.tr (U.next+5)):=(Fr.refl U).bN om
 have f6:=fb.trans t.fr
 have n6:=f6.next
 have c0:h6.get B=bW [aB n,vO,vR]:=by rw[f6.get _ om];exact a9
 have c2:=newp_frsh t
 have t:=c2.own
 simp(disch:=omega)only[go_sem,aS c0,eO,eR]
 refine (rel_ok (n:Int) vO vR v6 0 b2 b1 t.sv.dG.1 t.sv.dG.2.1 h6).mono ?_
 rintro _ h7 ⟨rfl,d7,e0,d6,t,f7⟩
 simp(disch:=omega)only[go_sem]
 refine⟨rfl,sN λr hr=>?_⟩
 obtain⟨a,b3⟩:=JR h7.next
 rw[b3]
 have iA:r.st= .ready:=by rw[hr]
 have c1:r.pend=none:=by rw[hr]
 obtain⟨Z,b0⟩: ∃Z,Z=h7.new (.loop r):=⟨_,rfl⟩
 have d4:Z.get a=some (.loop r):=by rw[b0,←b3,H.aN]
 have t:Z.next=a+1:=by rw[b0,H.aX,b3]
 have f8:Fr h7 Z:=by rw[b0];exact (Fr.refl h7).new _
 have x: ∀k,k<h7.next->Z.get k=h7.get k:=λk hk=>f8.get k hk
 rw[←b0]
 have t:=(f6.trans f7).trans f8
 have F8:=F5.trans t
 have b5: ∀k,k<U.next->Z.get k=U.get k:=λk hk=>t.get k hk
 have J0:LsJ h B A B a r (L.take 0) (λk=>k=A∨k=a) Z:=
  ⟨⟨.aD, [],λk=>k=A,by rw[b5 _ om];exact g5,Own.aD _ _ _,trivial,λ_ _ _ _ e=>(by cases e),λk h=> .inl h,λk h=>by have:k=A:=h;omega,rfl,λ_ _ _ _ e=>(by cases e)⟩,d4,.inl rfl,.inr rfl,by rw[b5 _ om];exact d8,by rw[b5 _ om];exact d1,om,om,F8⟩
 have t: ∀k,(k=A∨k=a)->k<Z.next:=λk h=>by rcases h with h|h<;>omega
 have U:GC (λk=>k=A∨k=a) Z (.agg [aB n,vO,vR]) n O R G:=gc.go (Fx.of F8) λk h1 l=>by rcases l with l|l<;>omega
 have p6:PV (λk=>k=A∨k=a) Z v6 (cH n):=by
  obtain⟨i5,c5,ev,a1,a2,a3,a4⟩:=c2.ex;simp only at a1;rw[ev];exact⟨SV.all (by rw[aL,kF]) (by have:=(f7.trans f8).next;omega) (by rw[x _ (by have:=f7.next;omega),f7.get _ a2];exact a3) _,λh=>by have:i5=A∨i5=a:=h;have:=f7.next;omega⟩
 refine (el_all n vO vR O R G n 0 (cH n) v6 a (h6.next+1+1) h6.next (h6.next+1) Z (λk=>k=A∨k=a) (λk W F=>LsJ h B A B a r (L.take k) W F) (λ_ _=>False) om (bV.one n)
  (by rw[x _ om];exact d6) (by rw[x _ om];exact d7) (by rw[x _ om];exact e0) p6 om om om (λh=>by rcases h with h|h<;>omega) (λh=>by rcases h with h|h<;>omega) (λh=>by rcases h with h|h<;>omega) U t J0 ?_).mono ?_
 ·rw[hL]
  refine⟨λk W F h' j t=>j.kept t om (by have:=F8.next;omega) (by have:=j.nx;omega),λ_ _ _ h=>h.elim,λk W F v hk j pv d9 t t=>?_⟩
  obtain⟨va,ws,M,gA,ow,el,bl,mw,mn,mA,ne⟩:=j.ex
  have nx:=j.nx
  have nA:=j.nA
  have c8:=All2.length el
  rw[xF,Nat.min_eq_left om] at c8
  refine pX j.gr (by rw[hr];rfl) iA λs g9 t o9=>?_
  rw[congrArg fQ.assign hr,congrArg fQ.vars hr,congrArg fQ.pars hr]
  simp(disch:=omega)only[go_sem,List.zip_cons_cons,List.zip_nil_left]
  rw[congrArg fQ.body hr]
  have b4:s.get A=bW [va]:=by rw[o9 _ om];exact gA
  have t:Fx W F s:=⟨om,λk _ l=>o9 k λe=>l (e▸j.w2)⟩
  have U:=pv.fx t
  obtain⟨x,hx⟩:=JR (L.getD k [])
  rw[hx] at U
  have X:bV n x:=by rw[←hx];exact LP k hk
  have b6:Own s va 1 ws (a+1):=ow.mono om λid g m c e _ _=>o9 id (ne _ _ _ _ e).1
  have Z:=Own.lens b6 c8
  have L:=b6.sv.dJ
  have d5:decide ((k:Int)=5040)=false:=bJ om
  have t:Fr s (H.mk s.tr (s.next+6)):=(Fr.refl s).bN om
  simp(disch:=omega)only[go_sem,H.aG b4,Z,d5]
  refine (clone_ok v (zi x) (H.mk s.tr (s.next+6)) (by rw[aQ,X.len];omega) (by rw[aQ,X.len];omega) (U.mono t).si).mono ?_
  rintro b7 d y
  have a6:=t.trans y.fr
  obtain⟨i5,c5,ev,a1,a2,a3,a4⟩:=y.ex
  simp only at a1
  have a0:d.get A=bW [va]:=by rw[a6.get _ om];exact b4
  have t:=y.own
  simp(disch:=omega)only[go_sem,H.aG a0,L,cJ _ (z:= .aD) t.sv.dG.1 t.sv.dG.2.1]
  obtain⟨f,i⟩: ∃f:H,f=H.mk ((H.mk d.tr (s.next+3)).new (Ob.cells false [b7])).tr d.next:=⟨_,rfl⟩
  rw[←i]
  have t:f.get (s.next+3)=bW [b7]:=by rw[i];exact H.aN (H.mk d.tr (s.next+3)) _
  have d2:f.next=d.next:=by rw[i]
  have P: ∀k,k≠s.next+3->f.get k=d.get k:=λk hk=>by rw[i];exact H.bL (H.mk d.tr (s.next+3)) (by simpa using hk) _
  have J:Fr s f:=⟨by have:=a6.next;omega,λk hk=>by rw[P k om];exact a6.get k hk⟩
  obtain⟨a7,c9,p⟩:=(b6.fr J).push (bytes:=24) (SV.one (by have:=a6.next;have:=y.fr.next;simp only at this;omega) t (.kn 1)) (n:=k) (m:=1) om rfl om om om
  have t:=p.next
  have y:dH va A:=λid g m c e N=>(ne _ _ _ _ e).2 N.symm
  have x:dH va a:=λid g m c e N=>(ne _ _ _ _ e).1 N.symm
  have d3:=a6.next
  have t:a7.get A=bW [va]:=by rw[p.old A om y,J.get A om];exact b4
  have b9:a7.get a=some (.loop (oI r)):=by rw[p.old a om x,J.get a om];exact g9
  have x: ∀(F:H) (y:V),dQ (bW [va]) F A 0 [y]=some (F.set A (bW [y])):=λF y=>bF (by simp) F _ _
  simp(disch:=omega)only[go_sem,c9,t,x]
  obtain⟨Y,o⟩: ∃Y,Y=(a7.set A (bW [.sl f.next 0 (k+1) (.un 1)])).set a (some (.loop r)):=⟨_,rfl⟩
  have c4:A≠a:=om
  have K: ∀q,q≠A->q≠a->Y.get q=a7.get q:=λq h1 l=>by rw[o,H.aI _ l,H.aI _ h1]
  have t:Y.next=a7.next:=by rw[o];rfl
  refine pZ iA c1 (by rw[H.aI _ (Ne.symm c4)];exact b9) ?_
  rw[←o]
  have t: ∀q,q<F.next-> ¬W q->Y.get q=F.get q:=λq h1 l=>by
   rw[K q (λe=>l (e▸j.wA)) (λe=>l (e▸j.w2)),p.old q om (λid g m c e N=>l (N▸mw _ (bl _ _ _ _ e))),J.get q om,o9 q (λe=>l (e▸j.w2))]
  refine⟨λq=>W q∨q=f.next∨q=i5,λq h1 l=>by rcases l with l|l|l;exact l;omega;omega,λq h=>by rcases h with h|h|h;have:=d9 q h;omega;omega;omega,⟨om,t⟩,.inl ⟨rfl,?_⟩⟩
  refine⟨⟨.sl f.next 0 (k+1) (.un 1),ws++ [b7],λq=>M q∨q=f.next,by rw[o,H.aI _ c4,H.aT],?_,?_,λid g m c e=>by cases e;exact .inr rfl,λq h=>by rcases h with h|h;exact .inl (mw q h);exact .inr (.inl h),λq h=>by rcases h with h|h;have:=mn q h;omega;omega,.inl mA,λid g m c e=>by cases e;exact⟨om,om⟩⟩,
   by rw[o,H.aT],.inl j.wA,.inl j.w2,?_,?_,om,om,?_⟩
  ·exact (p.own (b:=a+1) om rfl om).mono om λid g m c e h1 l=>by cases e;exact K _ om om
  ·rw[take_getD [] hk,hx]
   have b8: ∀(q:Nat) (o:Option Ob),q<F.next-> ¬M q->q≠a->Y.get q=F.get q:=λq _ h1 l h3=>by
    rw[K q (λe=>l (e▸mA)) h3,p.old q om (λa8 g m c e N=>l (N▸bl _ _ _ _ e)),J.get q om,o9 q h3]
   have c7: ∀q z,F.get q=bW z->q≠a:=λq z h e=>by rw[e,j.gr] at h;cases h
   refine (el.mono λw z ⟨id,c3,e,q1,q2,q3,q4,q5⟩=>⟨id,c3,e,.inl q1,(λh=>by rcases h with h|h;exact q2 h;omega),q3,om,(by rw[b8 id none q4 q2 (c7 _ _ q5)];exact q5)⟩).append ⟨⟨i5,c5,by rw[ev,aQ],.inr (.inr rfl),λh=>by rcases h with h|h;have:=mn i5 h;omega;omega,om,om,?_⟩,trivial⟩
   rw[K i5 om om,p.old i5 om (λa8 g m c e N=>by have:=mn _ (bl _ _ _ _ e);omega),P i5 om]
   exact a3
  ·rw[K _ om om,p.old _ om (λa8 g m c e N=>by have:=(ow.in _ _ _ _ e).2.1;omega),J.get _ om,o9 _ om];exact j.g1
  ·rw[K _ om om,p.old _ om (λa8 g m c e N=>by have:=(ow.in _ _ _ _ e).2.1;omega),J.get _ om,o9 _ om];exact j.g2
  ·refine⟨by have:=j.fr.next;omega,λq hq=>?_⟩
   have:=j.fr.next
   rw[K q om om,p.old q om (λa8 g m c e N=>by have:=(ow.in _ _ _ _ e).2.1;omega),J.get q om,o9 q om]
   exact j.fr.get q hq
 ·rintro _ s ⟨W2,a1,a2,k,j|k⟩
  case inr=>exact k.elim
  rw[hL,List.take_length] at j
  obtain⟨va,ws,M,gA,ow,el,bl,mw,mn,mA,ne⟩:=j.ex
  have nx:=j.nx
  have nA:=j.nA
  have pt: ∀(F:H) (id:Nat) (u w:V),dQ (bW [u]) F id 0 [w]=some (F.set id (bW [w])):=λF id u w=>bF (by simp) F _ _
  refine⟨r,j.gr,by rw[iA];simp,?_⟩
  have en:r.pend.getD .norm= .norm:=by rw[c1];rfl
  rw[en]
  obtain⟨d,a5⟩: ∃d,d=s.set a (some (.loop {r with st:= .out})):=⟨_,rfl⟩
  have Q: ∀q,q≠a->d.get q=s.get q:=λq hq=>by rw[a5,H.aI _ hq]
  have d3:d.next=s.next:=by rw[a5];rfl
  have a0:d.get A=bW [va]:=by rw[Q _ om];exact gA
  have o:d.get (B+1)=bW [.aD]:=by rw[Q _ om];exact j.g1
  have k:d.get (B+1+1)=bW [aB 0]:=by rw[Q _ om];exact j.g2
  rw[←a5]
  simp(disch:=omega)only[go_sem,H.aG a0,o,k,pt,fU ow.sv.dG.1 ow.sv.dG.2.1]
  obtain⟨f,i⟩: ∃f,f=(d.set (B+1) (bW [va])).set (B+1+1) (bW [aB 0]):=⟨_,rfl⟩
  rw[←i]
  have P: ∀q,q≠B+1->q≠B+1+1->f.get q=d.get q:=λq h1 l=>by rw[i,H.aI _ l,H.aI _ h1]
  have d2:f.next=d.next:=by rw[i];rfl
  have d:=j.fr.next
  refine⟨va,rfl,⟨ws,λq=>M q∨q<h.next,?_,?_,λid g n c e=> .inl (bl _ _ _ _ e),λq h=> .inr h⟩,⟨om,λq hq=>?_⟩⟩
  ·refine (ow.mono om λid g m c e h1 _=>?_).le om
   rw[P id om om,Q id om]
  ·rw[hL]
   refine All2.mono (R:=OwnE W2 M (a+1) s) (λw z a=>?_) el
   obtain⟨id,c3,e,q1,q2,q3,q4,q5⟩:=a
   rw[e]
   exact⟨SV.all (by rw[aL,aQ,kF]) om (by rw[P id om om,Q id om];exact q5) _,λh=>by rcases h with h|h;exact q2 h;omega⟩
  ·rw[P q om om,Q q om]
   exact j.fr.get q hq
end Go.Proofs.YtapfcpkecmmagaaGreat
namespace Go.Pm
set_option maxRecDepth 100000
section
variable {i:Nat}
def it (a:List Nat):Nat->Nat->Nat
 |0,i=>i
 |t+1,i=>a.getD (it a t i) 0
section
variable {n:Nat} {a:List Nat}
theorem tI (A:bV n a){i:Nat}(hi:i<n): ∀t,it a t i<n
 |0=>hi
 |t+1=>A.dZ (tI A hi t)
theorem nO (a:List Nat)(s i:Nat): ∀t,it a (s+t) i=it a t (it a s i)
 |0=>rfl
 |t+1=>by
  show a.getD (it a (s+t) i) 0=a.getD (it a t (it a s i)) 0;rw[nO a s i t]
theorem Oc (A:bV n a){i:Nat}(hi:i<n): ∀t,it a t i=(pw n a t).getD i 0
 |0=>(eX hi).symm
 |t+1=>by
  show a.getD (it a t i) 0=(bE (pw n a t) a).getD i 0;rw[dB (by rw[(jQ A t).len];exact hi),Oc A hi t]
theorem Lr (A:bV n a){i j:Nat}(hi:i<n)(b:j<n): ∀t,it a t i=it a t j->i=j
 |0,h=>h
 |t+1,h=>Lr A hi b t (A.inj (tI A hi t) (tI A b t) h)
noncomputable def mT (a:List Nat)(i:Nat):Nat:=by
 classical exact if h: ∃t,0<t/\it a t i=i/\ ∀s,0<s->s<t->it a s i≠i then h.choose else 1
theorem EZ (A:bV n a)(hi:i<n): ∃t,0<t/\it a t i=i:=by
 obtain⟨k,b,_,c⟩:=Gm A;exact⟨k,b,by rw[Oc A hi,c,eX hi]⟩
theorem jX (A:bV n a)(hi:i<n):0<mT a i/\it a (mT a i) i=i/\ ∀t,0<t->t<mT a i->it a t i≠i:=by
 classical
 have h: ∃t,0<t/\it a t i=i/\ ∀s,0<s->s<t->it a s i≠i:=by
  obtain⟨t,g,f⟩:=EZ A hi
  induction t using Nat.strongRecOn with
  |_ t ih=>
   by_cases e: ∃s,0<s/\s<t/\it a s i=i
   ·obtain⟨s,b,d,c⟩:=e
    exact ih s d b c
   ·exact⟨t,g,f,λs b d c=>e ⟨s,b,d,c⟩⟩
 have e:mT a i=h.choose:=by unfold mT;rw[dif_pos h]
 rw[e];exact h.choose_spec
theorem Gt (A:bV n a){i:Nat}(hi:i<n): ∀k,it a (mT a i*k) i=i
 |0=>rfl
 |k+1=>by rw[Nat.mul_succ,nO,Gt A hi k,(jX A hi).2.1]
theorem Nc (A:bV n a)(hi:i<n)(t:Nat):it a t i=it a (t%mT a i) i:=by
 have:=nO a (mT a i*(t/mT a i)) i (t%mT a i);rw[Nat.div_add_mod,Gt A hi] at this;exact this
theorem tX (A:bV n a)(hi:i<n)(t:Nat):it a t i=i↔mT a i∣t:=by
 obtain⟨b,c,c⟩:=jX A hi;constructor
 ·intro h
  rw[Nc A hi] at h;refine Nat.dvd_of_mod_eq_zero (Classical.byContradiction λd=>c _ oq (Nat.mod_lt _ b) h)
 ·rintro⟨k,rfl⟩;exact Gt A hi k
theorem CU (A:bV n a)(hi:i<n){s t:Nat}(f:s<mT a i)(d:t<mT a i)(h:it a s i=it a t i):s=t:=by
 have b: ∀s t,s<=t->t<mT a i->it a s i=it a t i->s=t:=λs t iA d h=>by
  have e:it a t i=it a s (it a (t-s) i):=by rw[←nO];congr 1;omega
  rw[e] at h;have:=Lr A hi (tI A hi (t-s)) s h;have c:=(tX A hi (t-s)).1 this.symm;have:=Nat.eq_zero_of_dvd_of_lt c oq;omega
 rcases Nat.le_total s t with c|c
 ·exact b s t c d h
 ·exact (b t s c f h.symm).symm
noncomputable def Ii (a:List Nat)(i:Nat):List Nat:=(List.range (mT a i)).map λt=>it a t i
theorem qF (a:List Nat)(i:Nat):(Ii a i).length=mT a i:=by simp [Ii]
theorem Zf (A:bV n a)(hi:i<n){j:Nat}:j∈Ii a i↔ ∃t,it a t i=j:=by
 unfold Ii;rw[List.mem_map];constructor
 ·rintro⟨t,_,h⟩;exact⟨t,h⟩
 ·rintro⟨t,h⟩;exact⟨t%mT a i,List.mem_range.2 (Nat.mod_lt _ (jX A hi).1),by rw[←Nc A hi];exact h⟩
theorem So (A:bV n a)(hi:i<n):(Ii a i).Nodup:=by
 unfold Ii;rw[List.nodup_iff_pairwise_ne,List.pairwise_map,List.pairwise_iff_getElem];intro s t b c iA h;simp only[List.length_range] at b c;simp only[List.getElem_range] at h;have:=CU A hi b c h;omega
theorem Fy (A:bV n a)(hi:i<n):mT a i<=n:=by
 rw[←qF a i]
 have:=List.Nodup.length_le_of_subset (So A hi) (l₂:=List.range n) λj b=>by
  obtain⟨t,rfl⟩:=(Zf A hi).1 b;exact List.mem_range.2 (tI A hi t)
 simpa using this
theorem zI (A:bV n a)(hi:i<n)(t:Nat): ∃s,it a s (it a t i)=i:=by
 obtain⟨b,_,_⟩:=jX A hi;refine⟨mT a i*(t/mT a i+1)-t,?_⟩;rw[←nO,show t+(mT a i*(t/mT a i+1)-t)=mT a i*(t/mT a i+1) from ?_,Gt A hi];have:=Nat.div_add_mod t (mT a i);have:=Nat.mod_lt t b;rw[Nat.mul_succ];omega
theorem Vb (A:bV n a)(hi:i<n)(t:Nat):mT a (it a t i)=mT a i:=by
 have c:=tI A hi t
 have b: ∀k,it a k (it a t i)=it a t i↔it a k i=i:=λk=>by
  rw[←nO,Nat.add_comm,nO];exact⟨λh=>Lr A (tI A hi k) hi t h,λh=>by rw[h]⟩
 refine Nat.dvd_antisymm ?_ ?_
 ·rw[←tX A c,b,tX A hi];exact Nat.dvd_refl _
 ·rw[←tX A hi,←b,tX A c];exact Nat.dvd_refl _
def gW (a:List Nat)(n i:Nat):Prop:= ∀t,i<=it a t i
open Classical in
noncomputable def Dd (a:List Nat)(n:Nat):List Nat:=(List.range n).filter λi=>decide (gW a n i)
noncomputable def mP (a:List Nat)(n:Nat):rC:=(Dd a n).map (Ii a)
theorem DT (A:bV n a)(hi:i<n): ∃j,j<n/\gW a n j/\ ∃t,it a t j=i:=by
 induction i using Nat.strongRecOn with
 |_ i ih=>
  by_cases h:gW a n i
  ·exact⟨i,hi,h,0,rfl⟩
  ·have: ∃t,it a t i<i:=Classical.byContradiction λc=>h λt=>Nat.le_of_not_lt λb=>c ⟨t,b⟩
   obtain⟨t,d⟩:=this;obtain⟨j,c,b,s,e⟩:=ih _ d (tI A hi t);obtain⟨u,d⟩:=zI A hi t;exact⟨j,c,b,s+u,by rw[nO,e,d]⟩
theorem sI (A:bV n a)(hi:i<n):gW a n i↔ ∀j,j<i-> ∀t,it a t j≠i:=by
 constructor
 ·intro h j b t e
  obtain⟨s,b⟩:=zI A (show j<n by omega) t;rw[e] at b;have:=h s;omega
 ·intro h t
  refine Nat.le_of_not_lt λc=>?_
  obtain⟨s,b⟩:=zI A hi t;exact h _ c s b
def lD (l:List Nat):Nat:=l.foldl (λm c=>m/Nat.gcd m c*c) 1
theorem Yt (m c:Nat):m/Nat.gcd m c*c=Nat.lcm m c:=by
 unfold Nat.lcm;rw[Nat.mul_comm,←Nat.mul_div_assoc _ (Nat.gcd_dvd_left m c),Nat.mul_comm]
theorem Ib: ∀(l:List Nat) (m k:Nat),l.foldl (λm c=>m/Nat.gcd m c*c) m∣k↔m∣k/\ ∀c∈l,c∣k
 | [],m,k=>by simp
 |c::l,m,k=>by
  rw[List.foldl_cons,Ib l,Yt,Nat.lcm_dvd_iff];simp only[List.mem_cons,forall_eq_or_imp,and_assoc]
theorem pY (l:List Nat)(k:Nat):lD l∣k↔ ∀c∈l,c∣k:=by
 unfold lD;rw[Ib];simp
noncomputable def iH (a:List Nat)(n:Nat):Nat:=lD ((mP a n).map List.length)
theorem pL (A:bV n a)(k:Nat):iH a n∣k↔pw n a k=cH n:=by
 unfold iH;rw[pY];constructor
 ·intro h
  refine oU (by rw[(jQ A k).len,gY]) λi hi=>?_
  rw[(jQ A k).len] at hi;rw[←Oc A hi,eX hi,tX A hi];obtain⟨j,d,c,t,f⟩:=DT A hi;have:=h (mT a j) (List.mem_map.2 ⟨Ii a j,List.mem_map.2 ⟨j,by unfold Dd;rw[List.mem_filter];exact⟨List.mem_range.2 d,by simpa using c⟩,rfl⟩,qF a j⟩);rw[←Vb A d t,f] at this;exact this
 ·rintro h c b
  obtain⟨l,e,rfl⟩:=List.mem_map.1 b;obtain⟨j,d,rfl⟩:=List.mem_map.1 e
  have b:j<n:=by
   unfold Dd at d;exact List.mem_range.1 (List.mem_filter.1 d).1
  rw[qF,←tX A b,Oc A b,h,eX b]
theorem uW (A:bV n a):0<iH a n:=by
 obtain⟨k,b,_,b⟩:=Gm A;have:=(pL A k).2 b;refine Nat.pos_of_ne_zero λe=>?_
 rw[e] at this;have:=Nat.eq_zero_of_zero_dvd this;omega
theorem Ps (A:bV n a):iH a n<=n^n:=by
 obtain⟨k,b,c,d⟩:=Gm A;exact Nat.le_trans (Nat.le_of_dvd b ((pL A k).2 d)) c
end
end
end Go.Pm
namespace Go.Proofs.YtapfcpkecmmagaaGreat
open Go Go.Ay Go.Pm
set_option maxRecDepth 100000
section
variable {a:List Nat} {i n:Nat}
theorem gcd_ok {g:Nat}(j:T g=some c_perm_gcd)(a b:Nat)(h:H)(o:a<1000000)(q:b<1000000):Ev T g [aB a,aB b] h (λv h'=>v= aB (Nat.gcd a b:Nat)/\Fr h h'):=by
 refine yN j rfl ?_;simp(disch:=omega)only[go_sem,c_perm_gcd,aF];refine aH (λc d l=> ∃(x y:Nat),(∃g:Nat->V,d= [aB x,aB y,g 2,g 3])/\x<1000000/\y<1000000/\Nat.gcd x y=Nat.gcd a b/\Fr h l/\c=y) b
  ⟨a,b,aA rfl,o,q,rfl,Fr.refl h,rfl⟩ ?_
 rintro c d l ⟨x,y,⟨g,rfl⟩,d,m,k,F,p⟩;subst p
 by_cases e:(0:Int)<(c:Int)
 ·have f:=bM e
  have l:(c:Int)≠0:=om
  have p:(x:Int).tmod (c:Int)=((x%c:Nat):Int):=tmod_nat x c;have d:=Nat.mod_lt x (show c>0 by omega);simp(disch:=omega)only[go_sem,f,l,p];exact⟨x%c,d,c,x%c,aA rfl,m,om,by rw[Nat.gcd_comm,←Nat.gcd_rec,Nat.gcd_comm];exact k,F.bN om,rfl⟩
 ·have f:=bJ e
  obtain rfl:c=0:=om
  simp(disch:=omega)only[go_sem,f];rw[←k,Nat.gcd_zero_right];exact⟨rfl,F⟩
open Classical in
noncomputable def snB (a:List Nat)(i s j:Nat):Bool:=decide ((∃i0,i0<i/\ ∃t,it a t i0=j)∨ ∃t,t<s/\it a t i=j)
theorem snB_iff {s j:Nat}:snB a i s j=true↔(∃i0,i0<i/\ ∃t,it a t i0=j)∨ ∃t,t<s/\it a t i=j:=by classical unfold snB;simp only[decide_eq_true_eq]
theorem snB_zero (a:List Nat)(j:Nat):snB a 0 0 j=false:=by
 rw[←Bool.not_eq_true,snB_iff];rintro (⟨b,h,_⟩|⟨t,h,_⟩)<;>omega
theorem snB_step (a:List Nat)(i s j:Nat):snB a i (s+1) j=if j=it a s i then true else snB a i s j:=by
 by_cases e:j=it a s i
 ·rw[aV e,snB_iff];exact .inr ⟨s,om,e.symm⟩
 ·rw[aZ e,xJ,snB_iff,snB_iff]
  constructor
  ·rintro (h|⟨t,d,b⟩)
   ·exact .inl h
   ·exact .inr ⟨t,by have:t≠s:=λc=>e (by rw[←c];exact b.symm);omega,b⟩
  ·rintro (h|⟨t,d,b⟩)
   ·exact .inl h
   ·exact .inr ⟨t,om,b⟩
theorem snB_next (A:bV n a)(hi:i<n)(j:Nat):snB a i (mT a i) j=snB a (i+1) 0 j:=by
 rw[xJ,snB_iff,snB_iff];constructor
 ·rintro (⟨c,d,b⟩|⟨t,d,b⟩)
  ·exact .inl ⟨c,om,b⟩
  ·exact .inl ⟨i,om,t,b⟩
 ·rintro (⟨c,d,t,b⟩|⟨t,d,_⟩)
  ·by_cases e:c=i
   ·subst e;exact .inr ⟨t%mT a c,Nat.mod_lt _ (jX A hi).1,by rw[←Nc A hi];exact b⟩
   ·exact .inl ⟨c,om,t,b⟩
  ·omega
theorem snB_skip (A:bV n a)(hi:i<n)(h: ¬gW a n i)(j:Nat):snB a i 0 j=snB a (i+1) 0 j:=by
 have c: ∃b,b<i/\ ∃t,it a t b=i:=Am λf=>h ((sI A hi).2 λb m t e=>f ⟨b,m,t,e⟩)
 obtain⟨b,g,k,l⟩:=c;rw[xJ,snB_iff,snB_iff];constructor
 ·rintro (⟨d,f,c⟩|⟨t,f,_⟩)
  ·exact .inl ⟨d,om,c⟩
  ·omega
 ·rintro (⟨d,f,t,c⟩|⟨t,f,_⟩)
  ·by_cases e:d=i
   ·subst e;exact .inl ⟨b,g,k+t,by rw[nO,l];exact c⟩
   ·exact .inl ⟨d,om,t,c⟩
  ·omega
theorem snB_new (A:bV n a){s:Nat}(hi:i<n)(f:gW a n i)(g:s<=mT a i):(snB a i s (it a s i)=false↔s<mT a i):=by
 obtain⟨d,c,j⟩:=jX A hi;constructor
 ·intro h
  refine Am λj=>?_
  have e:s=mT a i:=om
  subst e;rw[c] at h;have:snB a i (mT a i) i=true:=snB_iff.2 (.inr ⟨0,d,rfl⟩);rw[h] at this;cases this
 ·intro h
  rw[←Bool.not_eq_true,snB_iff];rintro (⟨d,c,t,b⟩|⟨t,c,b⟩)
  ·obtain⟨u,e⟩:=zI A hi s
   have:=(sI A hi).1 f d c (t+u);rw[nO,b,e] at this;exact this rfl
  ·have:=CU A hi (show t<mT a i by omega) h b
   omega
theorem snB_old (A:bV n a)(hi:i<n)(d: ¬gW a n i):snB a i 0 i=true:=by
 have f: ∃b,b<i/\ ∃t,it a t b=i:=Am λc=>d ((sI A hi).2 λb g t e=>c ⟨b,g,t,e⟩)
 exact snB_iff.2 (.inl f)
theorem fsts_take (hi:i<=n):((Dd a n).filter λj=>decide (j<i))=(open Classical in (List.range i).filter λj=>decide (gW a n j)):=by
 classical
 unfold Dd;have:List.range n=List.range i++(List.range (n-i)).map (i+ ·):=by rw[←List.range_add];congr 1;omega
 rw[this,List.filter_append,List.filter_append]
 have c:(((List.range (n-i)).map (i+ ·)).filter λj=>decide (gW a n j)).filter (λj=>decide (j<i))= []:=by
  rw[List.filter_eq_nil_iff];intro x b;obtain⟨y,_,rfl⟩:=pU.1 (Vz.1 b).1;simp
 rw[c,qA];rw[List.filter_eq_self];intro x b;simpa using Db.1 (Vz.1 b).1
noncomputable def cyB (a:List Nat)(n i:Nat):LN:=((Dd a n).filter λj=>decide (j<i)).map (Ii a)
theorem cyB_all (a:List Nat)(n:Nat):cyB a n n=mP a n:=by
 classical
 unfold cyB mP;congr 1;rw[List.filter_eq_self];intro x b;unfold Dd at b;simpa using Db.1 (Vz.1 b).1
theorem cyB_succ (hi:i<n):(gW a n i->cyB a n (i+1)=cyB a n i++ [Ii a i])/\(¬gW a n i->cyB a n (i+1)=cyB a n i):=by
 classical
 unfold cyB;rw[fsts_take (show i+1<=n by omega),fsts_take (show i<=n by omega),List.range_succ,List.filter_append];constructor
 ·intro h
  rw[show ([i]:List Nat).filter (λj=>decide (gW a n j))= [i] by simp [h],List.map_append];rfl
 ·intro h
  rw[show ([i]:List Nat).filter (λj=>decide (gW a n j))= [] by simp [h],qA]
theorem cyB_pre: ∀i,i<=n->cyB a n i<+:mP a n:=by
 intro i hi
 obtain⟨d,b⟩: ∃d,i+d=n:=⟨n-i,om⟩
 induction d generalizing i with
 |zero=>
      have:i=n:=om
      subst this;rw[cyB_all];exact List.prefix_rfl
 |succ d ih=>
  have b:=ih (i+1) om om
  by_cases c:gW a n i
  ·rw[(cyB_succ om).1 c] at b
   exact (List.prefix_append _ _).trans b
  ·rw[(cyB_succ om).2 c] at b
   exact b
theorem cyB_zero (a:List Nat)(n:Nat):cyB a n 0= []:=by
 unfold cyB;rw[show (Dd a n).filter (λj=>decide (j<0))= [] by rw[List.filter_eq_nil_iff];intro x _;simp];rfl
theorem pre_getD {α:Type}{l m:List α}(h:l<+:m)(hi:i<l.length)(d:α):m.getD i d=l.getD i d:=by
 obtain⟨t,rfl⟩:=h;rw[List.getD,wE hi];rfl
theorem cycles1_ok (id b:Nat)(Q:V)(n:Nat)(a:List Nat)(h:H)(a8:1<=n)(hn:n<=64)(A:bV n a)(y:Nat)(a5:y<=h.next)(a4:b<y)(hb:h.get b=some (.cells false [Q]))(a7:b<h.next)(hv:SI h Q (zi a))(J:Nat->H->Prop)(h0:J 0 h)
  (kJ: ∀k hh h',J k hh->hh.next<=h'.next->(∀q,q<y->h'.get q=hh.get q)->J k h') (jb: ∀k hh,J k hh->hh.get b=some (.cells false [Q])/\SI hh Q (zi a))
  (hy: ∀k hh v,k<(mP a n).length->J k hh->SI hh v (zi ((mP a n).getD k []))->y<=hh.next->Ey T id [v] hh (λv h'=>v= .bool true/\J (k+1) h'/\Fx (λq=>q<y) hh h')):
  Ev T 121 [.yl id,.ptr b 0] h (λ_ h'=>J (mP a n).length h'):=by
 refine bH c_perm_cycles_1 rfl rfl ?_
 obtain⟨S,hS⟩:=JR h.next
 obtain⟨h1,e1,N,g1,o1,f1⟩:=dN hS (rc 64 λ_=>V.bool false)
 have a3:=H.aG (h:=h1) (id:=b) (by rw[o1 _ om];exact hb)
 have N:=hv.lens
 rw[aQ,A.len] at N
 simp(disch:=omega)only[go_sem,c_perm_cycles_1,aF,bools64,hS,e1,a3,N]
 have a1:h1.get S=some (.cells false (rc 64 λj=> .bool (snB a 0 0 j))):=by
  rw[g1,show (λj=>V.bool (snB a 0 0 j))=λ_=>V.bool false from funext λj=>by rw[snB_zero]]
 refine aH (λG o hh=> ∃(i:Nat),(∃g:Nat->V,o= [.yl id,.ptr b 0,.ptr S 0,g 3,g 4,g 5,aB n,aB i,g 8,g 9,g 10])/\i<=n/\J (cyB a n i).length hh/\hh.get S=some (.cells false (rc 64 λj=> .bool (snB a i 0 j)))/\S<hh.next/\G=n-i) n
  ⟨0,aA rfl,fF _,by rw[cyB_zero];exact kJ _ _ _ h0 f1.next (λq hq=>o1 q om),a1,om,rfl⟩ ?_
 rintro G o h2 ⟨i,⟨g,rfl⟩,hi,r,u,w,rfl⟩
 by_cases L:(i:Int)<(n:Int)
 case neg=>
  have d1:=bJ L;obtain rfl:i=n:=om
  simp(disch:=omega)only[go_sem,d1];rw[cyB_all] at r;exact r
 have d1:=bM L
 have l:i<n:=om
 simp(disch:=omega)only[go_sem,d1]
 obtain⟨L,L,L⟩:=jX A l
 have L:=Fy A l
 refine bX (λvs hh=> ∃(p:V) (c:List Nat),(∃g:Nat->V,vs= [.yl id,.ptr b 0,.ptr S 0,g 3,p,g 5,aB n,aB i,g 8,g 9,g 10])/\Own hh p 1 (ints (zi c)) (S+1)/\(gW a n i/\c=Ii a i∨ ¬gW a n i/\c= [])/\
   J (cyB a n i).length hh/\hh.get S=some (.cells false (rc 64 λj=> .bool (snB a (i+1) 0 j)))/\S<hh.next) ?_ ?_
 ·refine aH (λG vs hh=> ∃(s:Nat) (p:V),(∃g:Nat->V,vs= [.yl id,.ptr b 0,.ptr S 0,g 3,p,aB (it a s i:Nat),aB n,aB i,g 8,g 9,g 10])/\s<=mT a i/\(0<s->gW a n i)/\Own hh p 1 (ints (zi ((List.range s).map λt=>it a t i))) (S+1)/\
    J (cyB a n i).length hh/\hh.get S=some (.cells false (rc 64 λj=> .bool (snB a i s j)))/\S<hh.next/\G=mT a i-s) (mT a i)
   ⟨0,.aD,aA rfl,fF _,λh=>om,Own.aD _ _ _,r,u,w,rfl⟩ ?_
  clear r u w
  rintro G o B ⟨s,p,⟨g,rfl⟩,hs,hf,x,r,u,w,rfl⟩
  have hp:=tI A l s
  have U:=gU u (i:=it a s i) om
  cases hsn:snB a i s (it a s i) with
  |true=>
   rw[hsn] at U;simp(disch:=omega)only[go_sem,U]
   by_cases f:gW a n i
   ·have e:s=mT a i:=Am λK=>by
     have:=(snB_new A l f hs).2 om;rw[hsn] at this;cases this
    refine⟨p,Ii a i,aA rfl,by rw[e] at x;exact x,.inl ⟨f,rfl⟩,r,?_,w⟩;rw[u,e];congr 2;exact aY λj _=>by rw[snB_next A l]
   ·have e:s=0:=Am λK=>f (hf om)
    subst e;refine⟨p, [],aA rfl,x,.inr ⟨f,rfl⟩,r,?_,w⟩;rw[u];congr 2;exact aY λj _=>by rw[snB_skip A l f]
  |false=>
   rw[hsn] at U
   have f:gW a n i:=Am λf=>by
    have e:s=0:=Am λK=>f (hf om)
    subst e;have:=snB_old A l f;have h2:snB a i 0 i=false:=hsn;rw[h2] at this;cases this
   have G:=(snB_new A l f hs).1 hsn;have pt:=bF (vs:=rc 64 λj=> .bool (snB a i s j)) (off:=it a s i) (by rw[cK];omega);obtain⟨h4,e4,n4,g4,o4⟩:=mS B S ((rc 64 λj=> .bool (snB a i s j)).set (it a s i) (.bool true));obtain⟨K,e5,G,L,Z,G⟩:=dN (h:=h4) (ID:=B.next) n4 [aB (it a s i:Nat)];have G:Own K p 1 (ints (zi ((List.range s).map λt=>it a t i))) (S+1):=x.mono om λk off m c e h1 h2=>by rw[Z k om,o4 k om]
   obtain⟨R,a6,W⟩:=G.push (bytes:=8) (SV.one (v:= aB (it a s i:Nat)) (id:=B.next) om L (.kn 1)) (n:=s) (m:=1) (by rw[aL,aQ];simp) rfl om om om;have G:=W.next;have ap: ∀q,q<=S->dH p q:=λq hq k off m c e m=>by have:=(x.in _ _ _ _ e).2.1;omega
   have m: ∀q,q<y->R.get q=B.get q:=λq hq=>by rw[W.old q om (ap q om),Z q om,o4 q om]
   have J6:=kJ _ _ R r om m;obtain⟨a2,L⟩:=jb _ _ J6;obtain⟨idx,m,O,G,K⟩:=L.open;rw[aQ,A.len] at O G K
   have cx:R.cell idx (m+it a s i)=some (aB (it a (s+1) i:Nat)):=by
    rw[K _ hp];congr 2;rw[zi,gd_map _ (d:=0) (by rw[A.len];exact hp)];rfl
   simp(disch:=omega)only[go_sem,U,u,pt,e4,cJ h4 (z:= aB 0) (v:= aB (it a s i:Nat)) rfl rfl,n4,e5,a6,H.aG a2,O.ixa,cx]
   have a0:R.get S=some (.cells false (rc 64 λj=> .bool (snB a i (s+1) j))):=by
    rw[W.old S om (ap S (eS _)),Z S om,g4,eJ];congr 2
    exact aY λj _=>by
     rw[snB_step]
     by_cases e:j=it a s i
     ·rw[aV e,aV e]
     ·rw[aZ e,aZ e]
   have el:ints (zi ((List.range (s+1)).map λt=>it a t i))=ints (zi ((List.range s).map λt=>it a t i))++ [aB (it a s i:Nat)]:=by
    rw[List.range_succ,List.map_append];simp [zi,ints]
   refine⟨mT a i-(s+1),om,s+1,_,aA rfl,om,λ_=>f,by rw[el];exact W.own (by rw[aL,aQ];simp) rfl om,J6,a0,om,rfl⟩
 clear r u w
 rintro o B ⟨p,c,⟨g,rfl⟩,x,e,r,u,w⟩
 have P:=Own.lens x (n:=c.length) (by rw[aL,aQ])
 rcases e with ⟨f,rfl⟩|⟨f,rfl⟩
 ·have Y:decide ((0:Int)<((Ii a i).length:Int))=true:=bM (by rw[qF];omega)
  have c:=cyB_pre (a:=a) (n:=n) (i+1) om
  have F:=(cyB_succ l).1 f
  rw[F] at c
  have g:(mP a n).getD (cyB a n i).length []=Ii a i:=by rw[pre_getD c (by simp)];exact getD_app_new
  have e:=c.length_le
  rw[iZ] at e
  simp(disch:=omega)only[go_sem,P,Y]
  refine (hy _ B p (by simp at e;omega) r (by rw[g];exact x.sv) om).mono ?_
  rintro _ h4 ⟨rfl,J4,f4⟩
  simp(disch:=omega)only[go_sem]
  rw[dY i]
  refine⟨n-(i+1),om,i+1,aA rfl,om,by rw[F,iZ];exact J4,by rw[f4.get S w (λh=>by have:S<y:=h;omega)];exact u,iP w f4.next,rfl⟩
 ·have Y:decide ((0:Int)<((0:Nat):Int))=false:=rfl
  simp(disch:=omega)only[go_sem,P,Y]
  rw[dY i]
  exact⟨n-(i+1),om,i+1,aA rfl,om,by rw[(cyB_succ l).2 f];exact r,u,w,rfl⟩
end
theorem first_ok (u:V)(ws:List V)(n:Nat)(h:H)(J:1<=n)(N:n<=64)(L:ws.length<1000000)(A:SV h u 1 ws)(w: ∀i,i<ws.length-> ∃a,bV n a/\SI h (ws.getD i .undef) (zi a)):Ev T 78 [u] h (λv h'=>v= aB 0/\Fr h h'):=by
 refine bH c_perm_first rfl rfl ?_;have B:dA u=some (aB (ws.length:Int)):=by unfold dA;rw[SV.len A (n:=ws.length) om om];rfl
 obtain⟨id,b,x,e,y⟩:=SV.shape A ws.length om om;have l: ∀i:Nat,i<ws.length->h.cell id (b+i)=some (ws.getD i .undef):=λi hi=>by rw[y i om];simp [List.getD,hi]
 simp(disch:=omega)only[go_sem,c_perm_first,aF,B];refine bX (λk o=>(∃g:Nat->V,k= [u,aB 0,g 2,g 3,g 4,g 5,g 6,g 7,g 8,g 9,g 10,g 11,g 12,g 13,g 14])/\Fr h o) ?_ ?_
 ·refine aH (λs k o=> ∃(i:Nat),(∃g:Nat->V,k= [u,aB 0,g 2,g 3,g 4,u,aB (ws.length:Int),aB i,g 8,g 9,g 10,g 11,g 12,g 13,g 14])/\i<=ws.length/\Fr h o/\s=ws.length-i) ws.length
   ⟨0,aA rfl,fF _,Fr.refl h,rfl⟩ ?_
  rintro s c p ⟨i,⟨g,rfl⟩,hi,f,rfl⟩
  by_cases d:(i:Int)<(ws.length:Int)
  ·have j:=bM d
   have m:i<ws.length:=om
   have ci:p.cell id (b+i)=some (ws.getD i .undef):=by rw[f.cell (e om),l i om]
   obtain⟨a,X,r⟩:=w i m;generalize ws.getD i .undef=z at ci r;simp(disch:=omega)only[go_sem,j,x.ixa,ci];refine (perm_Check_ok z _ p (by rw[aQ,X.len];omega) (r.mono f)).mono ?_;rw[pck_zi X om om];rintro _ K ⟨rfl,G⟩;simp(disch:=omega)only[go_sem];refine bB (λl=>(l rfl).elim) (λ_=>?_);simp(disch:=omega)only[go_sem];rw[dY i];exact⟨ws.length-(i+1),om,i+1,aA rfl,om,f.trans G,rfl⟩
  ·have j:=bJ d
   simp(disch:=omega)only[go_sem,j];exact⟨aA rfl,f⟩
 rintro c p ⟨⟨g,rfl⟩,f⟩;simp(disch:=omega)only[go_sem,B];refine bX (λk o=>(∃g:Nat->V,k= [u,aB 0,g 2,g 3,g 4,g 5,g 6,g 7,g 8,g 9,g 10,g 11,g 12,g 13,g 14])/\Fr h o) ?_ ?_
 ·refine aH (λs k o=> ∃(i:Nat),(∃g:Nat->V,k= [u,aB 0,g 2,g 3,g 4,g 5,g 6,g 7,g 8,g 9,u,aB (ws.length:Int),aB i,g 13,g 14])/\i<=ws.length/\Fr h o/\s=ws.length-i) ws.length
   ⟨0,aA rfl,fF _,f,rfl⟩ ?_
  clear f;rintro s c p ⟨i,⟨g,rfl⟩,hi,f,rfl⟩
  by_cases d:(i:Int)<(ws.length:Int)
  ·have j:=bM d
   have m:i<ws.length:=om
   have ci:p.cell id (b+i)=some (ws.getD i .undef):=by rw[f.cell (e om),l i om]
   have t:p.cell id (b+0)=some (ws.getD 0 .undef):=by rw[f.cell (e om),l 0 om]
   obtain⟨a,X,r⟩:=w i m;obtain⟨e,F,q⟩:=w 0 om;generalize ws.getD i .undef=z at ci r;generalize ws.getD 0 .undef=e at t q;have m:=r.lens;have k:=q.lens;rw[aQ,X.len] at m;rw[aQ,F.len] at k;have e:Cu 1 u (aB 0)=some (.ptr id (b+0)):=x.ixa .i64 0 om om;rw[Nat.add_zero] at e t;simp(disch:=omega)only[go_sem,j,x.ixa,ci,e,t,m,k];refine bB (λl=>(l rfl).elim) (λ_=>?_);simp(disch:=omega)only[go_sem];rw[dY i];exact⟨ws.length-(i+1),om,i+1,aA rfl,om,f,rfl⟩
  ·have j:=bJ d
   simp(disch:=omega)only[go_sem,j];exact⟨aA rfl,f⟩
 rintro c K ⟨⟨g,rfl⟩,f⟩;simp(disch:=omega)only[go_sem];exact f
theorem lcm_take_dvd (l:List Nat)(k:Nat):lD (l.take k)∣lD l:=(pY _ _).2 λc a=>(pY l _).1 (Nat.dvd_refl _) c (List.mem_of_mem_take a)
theorem lcm_take_succ (l:List Nat)(k:Nat)(a:k<l.length):lD (l.take (k+1))=lD (l.take k)/Nat.gcd (lD (l.take k)) (l.getD k 0)*l.getD k 0:=by
 unfold lD;rw[take_getD 0 a,List.foldl_append];rfl
theorem pow_small {n:Nat}(a:n<=7):n^n<=823543:=by
 have: ∀m,m<8->m^m<=823543:=by decide
 exact this n om
structure OrJ (h:H)(A b id2:Nat)(va:V)(a:List Nat)(r:fQ)(m:Nat)(hh:H):Prop where
 gr:hh.get id2=some (.loop r)
 gA:hh.get A=bW [aB m]
 gb:hh.get b=bW [va]
 si:SI hh va (zi a)
 nx:id2<hh.next
 fr:Fr h hh
theorem cycles_ok (a:V)(h:H)(d:a.cells= [a])(f:a.one=true):Ev T 101 [a] h (λv h'=> ∃b,v= .fn 121 [] [.ptr b 0]/\b=h.next/\h'.get b=bW [a]/\h'.next=h.next+1/\Fr h h'):=by
 refine bH c_perm_cycles rfl rfl ?_;obtain⟨j,g,i,c,j,e⟩:=dN (h:=h) rfl [a];simp(disch:=omega)only[go_sem,c_perm_cycles,aF,kT d f h,g];exact⟨h.next,rfl,rfl,c,i,e⟩
theorem order_ok (u:V)(n:Nat)(a:List Nat)(h:H)(a2:1<=n)(hn:n<=7)(A:bV n a)(N:SI h u (zi a)):
  Ev T 69 [u] h (λv h'=>v= .tup [aB (iH a n:Nat),aB 0]/\Fr h h'):=by
 refine bH c_perm_Order rfl rfl ?_
 obtain⟨S,hS⟩:=JR h.next
 obtain⟨h1,e1,n1,g1,o1,f1⟩:=dN hS [u]
 have on:=(SV.dG N).2.1
 simp(disch:=omega)only[go_sem,c_perm_Order,aF,cJ h (z:= .aD) (v:=u) (SV.dG N).1 on,hS,e1]
 have a5: ∀i,i< [u].length-> ∃a,bV n a/\SI h1 ([u].getD i .undef) (zi a):=λi hi=>by
  obtain rfl:i=0:=by simp at hi;omega
  exact⟨a,A,N.mono f1⟩
 refine (first_ok (.sl S 0 1 (.kn 1)) [u] n h1 a2 om (by simp) (SV.one om g1 _) a5).mono ?_
 rintro _ W ⟨rfl,f2⟩
 simp(disch:=omega)only[go_sem]
 refine bB (λhc=>(hc rfl).elim) (λ_=>?_)
 obtain⟨B,hB⟩:=JR W.next
 obtain⟨h3,e3,n3,g3,o3,f3⟩:=dN hB [aB 0]
 obtain⟨h4,e4,n4,g4,o4⟩:=mS h3 B [aB 1]
 have a5: ∀(s:H) (y:V),dQ (bW [aB 0]) s B 0 [y]=some (s.set B (bW [y])):=λs y=>bF (by simp) s _ _
 simp(disch:=omega)only[go_sem,hB,e3,g3,a5,e4]
 refine (cycles_ok u h4 (SV.dG N).1 on).mono ?_
 rintro _ h5 ⟨b,rfl,hb,g5,n5,f5⟩
 simp(disch:=omega)only[go_sem]
 refine⟨rfl,sN λr R=>?_⟩
 obtain⟨g,O⟩:=JR h5.next
 rw[O]
 have iA:r.st= .ready:=by rw[R]
 have a3:r.pend=none:=by rw[R]
 obtain⟨K,L⟩: ∃K,K=h5.new (.loop r):=⟨_,rfl⟩
 have a5:K.get g=some (.loop r):=by rw[L,←O,H.aN]
 have n6:K.next=g+1:=by rw[L,H.aX,O]
 have O:Fr h5 K:=by rw[L];exact (Fr.refl h5).new _
 rw[←L]
 have F2:=f1.trans f2
 have L:=F2.trans f3
 have hs:=F2.next
 have F4:Fr h h4:=⟨by rw[n4];exact L.next,λq p=>by rw[o4 q om];exact L.get q p⟩
 have F6:=(F4.trans f5).trans O
 have L:g=b+1:=om
 have b0:K.get B=bW [aB 1]:=by rw[O.get _ om,f5.get _ om];exact g4
 have L:K.get b=bW [u]:=by rw[O.get _ om];exact g5
 have O:OrJ h B b g u a r (lD (((mP a n).map List.length).take 0)) K:=⟨a5,b0,L,N.mono F6,om,F6⟩
 refine (cycles1_ok g b u n a K a2 om A (g+1) om om L om (N.mono F6) (λk s=>OrJ h B b g u a r (lD (((mP a n).map List.length).take k)) s) O
  (λk s h' j L p=>⟨by rw[p _ om];exact j.gr,by rw[p _ om];exact j.gA,by rw[p _ om];exact j.gb,N.mono ⟨jK j.fr.next L,λq K=>by rw[p _ om];exact j.fr.get q K⟩,iP j.nx L,⟨jK j.fr.next L,λq K=>by rw[p _ om];exact j.fr.get q K⟩⟩)
  (λk s j=>⟨j.gb,j.si⟩) ?_).mono ?_
 ·intro k s v O j Z K
  obtain⟨m,hm⟩:=JR (lD (((mP a n).map List.length).take k))
  obtain⟨c,Q⟩:=JR ((mP a n).getD k [])
  have K:((mP a n).map List.length).getD k 0=c.length:=by rw[gd_map _ (d:= []) O,Q]
  have L:k<((mP a n).map List.length).length:=by rw[iR];exact O
  have F:=lcm_take_succ ((mP a n).map List.length) k L
  rw[hm,K] at F
  have L:=uW A
  have K:=jK (Ps A) (pow_small hn)
  have a5:m<=823543:=jK (by rw[←hm];exact Nat.le_of_dvd L (lcm_take_dvd _ k)) K
  have a4:lD (((mP a n).map List.length).take (k+1))<=823543:=jK (Nat.le_of_dvd L (lcm_take_dvd _ (k+1))) K
  have K:1<=c.length/\c.length<=7:=by
   have:=getD_mem (l:=mP a n) (d:= []) O;rw[Q] at this;obtain⟨i,hi,rfl⟩:=pU.1 this;have K:i<n:=by unfold Dd at hi;exact Db.1 (Vz.1 hi).1
   rw[qF];have:=(jX A K).1;have:=Fy A K;omega
  rw[Q] at Z
  have lv:=Z.lens
  rw[aQ] at lv
  rw[hm] at j
  refine pX j.gr (by rw[R];rfl) iA λJ g9 i o9=>?_
  rw[congrArg fQ.assign R,congrArg fQ.vars R,congrArg fQ.pars R]
  simp(disch:=omega)only[go_sem,List.zip_cons_cons,List.zip_nil_left]
  rw[congrArg fQ.body R]
  have nx:=j.nx
  have a0:J.get B=bW [aB m]:=by rw[o9 _ om];exact j.gA
  simp(disch:=omega)only[go_sem,H.aG a0,lv]
  refine (gcd_ok (rfl:T 102=some c_perm_gcd) m c.length _ om om).mono ?_
  rintro _ f ⟨rfl,i⟩
  have a8:J.next+10<=f.next:=i.next
  have o: ∀q,q<J.next->f.get q=J.get q:=λq p=>i.get q (by show q<J.next+10;omega)
  have t:f.get B=bW [aB m]:=by rw[o _ om];exact a0
  obtain⟨G,i⟩:=JR (Nat.gcd m c.length)
  rw[i] at F
  rw[i]
  have K:0<G:=by rw[←i];exact Nat.gcd_pos_of_pos_right _ om
  have a7:(G:Int)≠0:=om
  have Y:(m:Int).tdiv (G:Int)=((m/G:Nat):Int):=by rw[Int.tdiv_eq_ediv_of_nonneg om];rfl
  have a6:m/G<=m:=Nat.div_le_self _ _
  have P:((m/G:Nat):Int)*(c.length:Int)=((lD (((mP a n).map List.length).take (k+1)):Nat):Int):=by rw[F,Int.natCast_mul]
  generalize lD (((mP a n).map List.length).take (k+1))=m2 at P a4 F
  generalize m/G=q at Y a6 P F
  have c: ∀(s:H) (y:V),dQ (bW [aB m]) s B 0 [y]=some (s.set B (bW [y])):=λs y=>bF (by simp) s _ _
  simp(disch:=omega)only[go_sem,a7,Y,P,lv,H.aG t,t,c]
  refine pZ iA a3 (by rw[H.aI _ om];rw[o _ om];exact g9) ?_
  obtain⟨x,e⟩: ∃x,x=(f.set B (bW [aB m2])).set g (some (.loop r)):=⟨_,rfl⟩
  rw[←e]
  have c:x.next=f.next:=by rw[e];rfl
  have U: ∀q,q≠B->q≠g->x.get q=f.get q:=λq h1 W=>by rw[e,H.aI _ W,H.aI _ h1]
  have a9:=j.fr.next
  have a1:Fr h x:=⟨om,λq p=>by rw[U q om om,o q om,o9 q om];exact j.fr.get q p⟩
  exact⟨rfl,⟨by rw[e,H.aT],by rw[e,H.aI _ om,H.aT],by rw[U b om om,o b om,o9 b om];exact j.gb,N.mono a1,om,a1⟩,⟨om,λq h1 W=>by rw[U q (λe=>W om) (λe=>W om),o q om,o9 q (λe=>W om)]⟩⟩
 ·rintro _ J j
  rw[show (mP a n).length=((mP a n).map List.length).length from (iR _).symm,List.take_length] at j
  have a4:iH a n<=823543:=jK (Ps A) (pow_small hn)
  have j':OrJ h B b g u a r (iH a n) J:=j
  refine⟨r,j'.gr,by rw[iA];simp,?_⟩
  have en:r.pend.getD .norm= .norm:=by rw[a3];rfl
  rw[en]
  obtain⟨f,w⟩: ∃f,f=J.set g (some (.loop {r with st:= .out})):=⟨_,rfl⟩
  have o: ∀q,q≠g->f.get q=J.get q:=λq p=>by rw[w,H.aI _ p]
  have a8:f.next=J.next:=by rw[w];rfl
  have t:f.get B=bW [aB (iH a n:Nat)]:=by rw[o _ om];exact j'.gA
  have a9:=j'.fr.next
  have b:Fr h f:=⟨om,λq p=>by rw[o q om];exact j'.fr.get q p⟩
  rw[←w]
  simp(disch:=omega)only[go_sem,H.aG t]
  exact b
theorem mks_bytes (h:H)(n:Nat)(a:n<=100000):vH h 1 1 [.int .u8 0] (aB n) (aB n)=some (.sl h.next 0 n (.kn n),h.new (.cells false (rc n λ_=> .int .u8 0))):=by
 rw[lZ om (Int.le_refl _) om om,De,kF]
 have e:dO [V.int .u8 0] n=rc n λ_=> .int .u8 0:=by
  symm;refine yS ?_ λi hi=>?_
  ·simp [dO]
  ·simp [dO,hi,Nat.mod_one]
 rw[e]
theorem bytesV_map: ∀l:List Nat,(∀x∈l,x<256)->nV (l.map λ(x:Nat)=>V.int .u8 (x:Int))=some l
 | [],_=>rfl
 |x::r,h=>by
  have b:=h x (by simp);show (if 0<=(x:Int)/\(x:Int)<256 then (nV (r.map λ(x:Nat)=>V.int .u8 (x:Int))).map ((x:Int).toNat:: ·) else none)=_;rw[aV ⟨om,om⟩,bytesV_map r λy a=>h y (by simp [a])]
  rfl
theorem word_ok (u:V)(a:List Nat)(h:H)(W:a.length<=1000)(N: ∀x∈a,x<256)(K:SI h u (zi a)):
  Ev T 83 [u] h (λv h'=>v= .str a/\Fr h h'):=by
 refine bH c_classes_element_word rfl rfl ?_
 obtain⟨n,q⟩:=JR a.length
 have L:=K.lens
 rw[aQ,q] at L
 obtain⟨id,off,z,g,B⟩:=K.open
 rw[aQ,q] at z g B
 simp(disch:=omega)only[go_sem,c_classes_element_word,aF,L,mks_bytes h n om]
 have m:Fr h (h.new (.cells false (rc n λ_=> .int .u8 0))):=(Fr.refl h).new _
 have c:(h.new (.cells false (rc n λ_=> .int .u8 0))).get h.next=some (.cells false (rc n λ_=> .int .u8 0)):=H.aN ..
 have d:(h.new (.cells false (rc n λ_=> .int .u8 0))).next=h.next+1:=H.aX ..
 generalize h.new (.cells false (rc n λ_=> .int .u8 0))=U at*
 obtain⟨S,G⟩:=JR h.next
 rw[G] at c d
 rw[G]
 refine aH (λJ b t=> ∃(i:Nat),(∃j:Nat->V,b= [u,j 1,.sl S 0 n (.kn n),j 3,j 4,u,aB n,aB i,j 8])/\i<=n/\
   t.get S=some (.cells false (rc n λj=>if j<i then .int .u8 ((a.getD j 0:Nat):Int) else .int .u8 0))/\t.next=S+1/\Fr h t/\J=n-i) n
  ⟨0,aA rfl,fF _,by rw[c];rfl,d,m,rfl⟩ ?_
 clear c m d
 rintro J b p ⟨i,⟨R,rfl⟩,hi,A,Q,F,rfl⟩
 simp(disch:=omega)only[go_sem]
 by_cases o:(i:Int)<(n:Int)
 ·rw[bM o]
  have f:i<n:=om
  have ci:p.cell id (off+i)=some (aB (a.getD i 0:Nat)):=by rw[F.cell (g om),B i f];congr 2;simp [zi,q,f]
  have r:=N (a.getD i 0) (getD_mem om)
  generalize P:a.getD i 0=k at ci r
  have y:=bF (vs:=rc n λj=>if j<i then .int .u8 ((a.getD j 0:Nat):Int) else .int .u8 0) (off:=i) (by rw[cK];exact f) p S (.int .u8 (k:Int))
  rw[eJ] at y
  simp(disch:=omega)only[go_sem,z.ixa,ci,A,wrap_u8_in,y]
  rw[dY i]
  refine⟨n-(i+1),om,i+1,aA rfl,om,?_,Q,F.set om _,rfl⟩
  congr 2
  refine aY λj O=>?_
  by_cases e:j=i
  ·rw[aV e,aV om,e,P]
  ·rw[aZ e]
   by_cases w:j<i
   ·rw[aV w,aV om]
   ·rw[aZ w,aZ om]
 rw[bJ o]
 obtain rfl:i=n:=om
 have l:p.row S 0 i=some (a.map λ(x:Nat)=>V.int .u8 (x:Int)):=by
  have e:(rc i λj=>if j<i then V.int .u8 ((a.getD j 0:Nat):Int) else .int .u8 0)=a.map λ(x:Nat)=>V.int .u8 (x:Int):=yS (by rw[iR,q]) λj O=>by
   rw[aV O,Lc,eV om,List.getD,eV om];rfl
  unfold H.row;rw[A,e];simp only[sub];rw[aV (by rw[iR];omega)];rw[List.drop_zero,yW (by rw[iR];omega)]
 have s:Wh p (.sl S 0 i (.kn i))=some (.str a):=by
  show (match p.row S 0 i with|some ys=>(nV ys).map V.str|none=>none)=_;rw[l];show (nV (a.map λ(x:Nat)=>V.int .u8 (x:Int))).map V.str=_;rw[bytesV_map a N];rfl
 simp(disch:=omega)only[go_sem,AF,s]
 exact F
section
variable {y x g:List Nat}
section
variable {n:Nat} {G:List Nat->Prop} {O:LN} {R:jL}
theorem one_le (Y:bV n y):Le (cH n) y:=by
 by_cases h: ∃k,k<n/\y.getD k 0≠k
 ·obtain⟨k,⟨b,a⟩,c⟩: ∃k,(k<n/\y.getD k 0≠k)/\ ∀j,j<k-> ¬(j<n/\y.getD j 0≠j):=by
   obtain⟨k,b⟩:=h
   induction k using Nat.strongRecOn with
   |_ k ih=>
    by_cases a: ∃j,j<k/\(j<n/\y.getD j 0≠j)
    ·obtain⟨j,d,e⟩:=a;exact ih j d e
    ·exact⟨k,b,λj d e=>a ⟨j,d,e⟩⟩
  have a: ∀j,j<k->y.getD j 0=j:=λj d=>Am λe=>c j d ⟨om,e⟩
  refine .inr ⟨k,by rw[gY];exact b,λj d=>by rw[eX om,a j d],?_⟩;rw[eX b];refine Am λc=>?_
  have c:y.getD k 0<k:=om
  have:=Y.inj om b (a _ c);omega
 ·exact .inl ((Fix.all Y λk b=>Am λe=>h ⟨k,b,e⟩).symm)
theorem first_one (f:mH n G)(c:dW n G O R){i:Nat}(hi:i<n):0<(R.getD i []).length/\(R.getD i []).getD 0 []=cH n:=by
 have m:i∈O.getD i []:=(c.mem i hi i).2 ⟨cH n,f.one,Fix.one n i om,eX hi⟩;have d:0<(O.getD i []).length:=Xn m;have b:=c.rep i hi 0 d
 have q:(O.getD i []).getD 0 0=i:=by
  have a:(O.getD i []).getD 0 0∈O.getD i []:=getD_mem d;obtain⟨x,o,fx,e⟩:=(c.mem i hi _).1 a
  have a: ¬(O.getD i []).getD 0 0<i:=λa=>by
   have X:=f.isP o;have:=X.inj (i:=(O.getD i []).getD 0 0) (j:=i) om hi (by rw[fx _ a,e]);omega
  obtain⟨k,p,a⟩:=uK.1 m;have l:=Ta.1 (c.asc i hi);have a:(O.getD i []).getD 0 0=(O.getD i [])[0]:=Pm.bT d
  by_cases h:k=0
  ·subst h;omega
  ·have:=l 0 k d p om
   omega
 rw[q] at b;refine⟨by rw[c.rl i hi];exact d,b.uniq ⟨f.one,Fix.one n i om,eX hi,λy a _ _=>one_le (f.isP a)⟩⟩
theorem strong_mem (c:dW n G O R)(a:x∈strongL R):G x:=by
 unfold strongL at a;obtain⟨r,b,d⟩:=List.mem_flatMap.1 a;exact chain_mem c x (List.mem_flatten.2 ⟨r,b,List.mem_of_mem_drop d⟩)
theorem strong_gen (b:mH n G)(c:dW n G O R)(l:G x):fE n (λg=>g∈strongL R) x:=by
 have h:=(chain_iff b c x).2 l;have p: ∀g,g∈strongL R->bV n g:=λg f=>b.isP (strong_mem c f)
 clear l
 induction h with
 |one=>exact .one
 | @mul y g _ f ih=>
  obtain⟨r,m,s⟩:=List.mem_flatten.1 f;obtain⟨i,hi,f⟩:=uK.1 m;have d:i<n:=by have:=c.lr;omega
  have e:R.getD i []=r:=by rw[List.getD,eV hi,←f];rfl
  obtain⟨f,j⟩:=first_one b c d;rw[e] at f j;obtain⟨k,q,o⟩:=uK.1 s
  by_cases a:k=0
  ·subst a
   have:g=cH n:=by rw[←j,List.getD,eV q,←o];rfl
   rw[this,dD (ih.isP p)];exact ih
  ·refine ih.mul ?_
   unfold strongL;refine List.mem_flatMap.2 ⟨r,m,uK.2 ⟨k- 1,by rw[Cw];omega,?_⟩⟩;rw[List.getElem_drop];simp only[show 1+(k- 1)=k by omega,o]
def conjP (x g:List Nat):List Nat:=bE (bE (dM g) x) g
theorem conjP_isP (X:bV n x)(g':bV n g):bV n (conjP x g):=(g'.inv.mul X).mul g'
theorem conjP_one (X:bV n x):conjP x (cH n)=x:=by
 unfold conjP;rw[rU,fO X,dD X]
theorem conjP_mul {k:List Nat}(X:bV n x)(A:bV n g)(B:bV n k):conjP x (bE g k)=conjP (conjP x g) k:=by
 unfold conjP;rw[Vv A B];have a:=A.inv;have b:=B.inv;rw[bP b a X,←bP (b.mul (a.mul X)) A B,←bP b (a.mul X) A|>.symm]
theorem conjP_inv (X:bV n x)(A:bV n g):conjP (conjP x g) (dM g)=x:=by
 rw[←conjP_mul X A A.inv,iL A,conjP_one X]
def cj (G:List Nat->Prop)(x y:List Nat):Prop:= ∃g,G g/\conjP x g=y
theorem cj_refl (a:mH n G)(X:bV n x):cj G x x:=⟨cH n,a.one,conjP_one X⟩
theorem cj_symm (b:mH n G)(X:bV n x)(h:cj G x y):cj G y x:=by
 obtain⟨g,a,rfl⟩:=h;exact⟨dM g,b.inv a,conjP_inv X (b.isP a)⟩
theorem cj_trans (a:mH n G){z:List Nat}(X:bV n x)(h:cj G x y)(h2:cj G y z):cj G x z:=by
 obtain⟨g,b,rfl⟩:=h;obtain⟨k,c,rfl⟩:=h2;exact⟨bE g k,a.mul b c,conjP_mul X (a.isP b) (a.isP c)⟩
theorem cj_ind {S:List Nat->Prop}(b: ∀g,S g->bV n g)(a: ∀x,G x->fE n S x){P:List Nat->Prop}(X:bV n x)(e:P x)(d: ∀y g,bV n y->P y->S g->P (conjP y g))(h:cj G x y):P y:=by
 obtain⟨g,c,rfl⟩:=h;have:=a g c;clear c
 induction this with
 |one=>rw[conjP_one X];exact e
 | @mul z k hz hk ih=>
  rw[conjP_mul X (hz.isP b) (b k hk)];exact d _ _ (conjP_isP X (hz.isP b)) ih hk
end
end
end Go.Proofs.YtapfcpkecmmagaaGreat
namespace Go.Proofs.YtapfcpkecmmagaaGreat.Cls
open Go Go.Ay Go.Sort
set_option maxRecDepth 100000
section
variable {h:H} {S N i j a:Nat}
class Srt (α:Type)[Inhabited α] where
 lt:α->α->Bool
 enc:α->List V
 P:α->Prop
 B:H->Prop
 f:Nat
 b0:Nat
 S:Nat
 swo:SWO lt
 len: ∀a,(enc a).length=4
 one: ∀a,(enc a).all V.one=true
 eqv: ∀a,dJ (.agg (enc a)) (.agg (enc a))=true
 cmp: ∀h a b,B h->P a->P b->Ev T f [.agg (enc a),.agg (enc b)] h (λv h'=> ∃z,v= aB z/\decide (z<0)=lt a b/\Fr h h')
 bfr: ∀h h',B h->Fr h h'->B h'
 bS: ∀h h',B h->Fx (· =S) h h'->B h'
 bR: ∀h h' R,B h->b0<=R->Fx (· =R) h h'->B h'
 bn: ∀h,B h->b0<=h.next
def flat {α:Type}[Inhabited α][Srt α](l:List α):List V:=l.flatMap Srt.enc
structure Arr {α:Type}[Inhabited α][O:Srt α](h:H)(S N:Nat)(d:Array α):Prop where
 get:h.get S=bW (flat d.toList)
 size:d.size=N
 lt:S<h.next
 eqS:S=O.S
 base:O.B h
 all: ∀i,i<d.size->O.P d[i]!
section
variable {α:Type} [Inhabited α] [O:Srt α]
theorem flat_len: ∀l:List α,(flat l).length=l.length*4
 | []=>rfl
 |x::r=>by
  show (Srt.enc x++flat r).length=_;rw[iZ,Srt.len,flat_len r,List.length_cons];omega
theorem flat_drop: ∀(l:List α) (i:Nat),(flat l).drop (i*4)=flat (l.drop i)
 |l,0=>by simp
 | [],i+1=>by simp [flat]
 |x::r,i+1=>by
  show (Srt.enc x++flat r).drop ((i+1)*4)=_;rw[List.drop_append,List.drop_eq_nil_of_le (by rw[Srt.len];omega),Srt.len,List.nil_append,show (i+1)*4- 4=i*4 by omega,flat_drop r i,List.drop_succ_cons]
theorem flat_take: ∀(l:List α) (i:Nat),(flat l).take (i*4)=flat (l.take i)
 |l,0=>by simp [flat]
 | [],i+1=>by simp [flat]
 |x::r,i+1=>by
  show (Srt.enc x++flat r).take ((i+1)*4)=_;rw[List.take_append,yW (by rw[Srt.len];omega),Srt.len,show (i+1)*4- 4=i*4 by omega,flat_take r i,List.take_succ_cons];rfl
theorem stV_enc (h:H)(id off:Nat)(a:α):Ln h 4 (.ptr id off) (.agg (Srt.enc a))=dQ (h.get id) h id off (Srt.enc a):=qE h id off 4 _ (Srt.len a) (Srt.one a)
theorem eqV_enc (a:α):dJ (.agg (Srt.enc a)) (.agg (Srt.enc a))=true:=Srt.eqv a
theorem Arr.rd {d:Array α}(A:Arr h S N d)(hi:i<N):h.row S (i*4) 4=some (Srt.enc d[i]!):=by
 have b:i<d.size:=by rw[A.size];exact hi
 have c:i<d.toList.length:=by simpa using b
 unfold H.row;rw[A.get];simp only[sub];rw[aV (by rw[flat_len];omega),flat_drop,Ts c];show some ((Srt.enc d.toList[i]++flat _).take 4)=_;rw[List.take_append,yW (by rw[Srt.len];exact eS _),Srt.len];simp [b]
theorem Arr.fr {h':H}{d:Array α}(A:Arr h S N d)(f:Fr h h'):Arr h' S N d:=⟨by rw[f.get _ A.lt];exact A.get,A.size,iP A.lt f.next,A.eqS,O.bfr _ _ A.base f,A.all⟩
theorem put_cont {d:Array α}(hi:i<d.size)(hh:H)(S:Nat)(x:α):dQ (bW (flat d.toList)) hh S (i*4) (Srt.enc x)=some (hh.set S (bW (flat (d.setIfInBounds i x).toList))):=by
 have b:i<d.toList.length:=by simpa using hi
 have e:(flat d.toList).take (i*4)++Srt.enc x++(flat d.toList).drop (i*4+4)=flat (d.setIfInBounds i x).toList:=by
  rw[Array.toList_setIfInBounds,List.set_eq_take_append_cons_drop,aV b,flat_take,show i*4+4=(i+1)*4 by omega,flat_drop];simp [flat]
 simp only[dQ,putAt,Srt.len];rw[aV (by rw[flat_len];omega),e];rfl
theorem put_cont' {d:Array α}{y:α}(hi:i<d.size)(hh:H)(S:Nat)(x:α):dQ (bW (flat (d.setIfInBounds j y).toList)) hh S (i*4) (Srt.enc x)=some (hh.set S (bW (flat ((d.setIfInBounds j y).setIfInBounds i x).toList))):=
 put_cont (by simpa using hi) hh S x
theorem Arr.swap {h2:H}{d:Array α}(A:Arr h S N d){nx:Nat}(c:h.next<=nx)(e:h2=((H.mk h.tr nx).set S (bW (flat (d.setIfInBounds i d[j]!).toList))).set S (bW (flat ((d.setIfInBounds i d[j]!).setIfInBounds j d[i]!).toList)))(hi:i<N:=by omega)(l:j<N:=by omega):Arr h2 S N (swp d i j)/\Fx (· =S) h h2:=by
 subst e
 have fx:Fx (· =S) h (((H.mk h.tr nx).set S (bW (flat (d.setIfInBounds i d[j]!).toList))).set S (bW (flat ((d.setIfInBounds i d[j]!).setIfInBounds j d[i]!).toList))):=⟨c,λid _ b=>by rw[H.aI _ b,H.aI _ b];rfl⟩
 have f:=A.size;refine⟨⟨?_,?_,iP A.lt c,A.eqS,O.bS _ _ A.base (by have:=A.eqS;subst this;exact fx),?_⟩,fx⟩
 ·rw[H.aT];rfl
 ·simp [swp,f]
 ·intro k f
  have b:k<d.size:=by simpa [swp] using f
  unfold swp
  have f: ∀(x:Array α) (u:Nat) (y:α),k<x.size->(x.setIfInBounds u y)[k]! =if u=k then y else x[k]! :=λx u y g=>by
   rw[getElem!_pos (x.setIfInBounds u y) k (by simpa using g),getElem!_pos x k g,Array.getElem_setIfInBounds]
  rw[f _ _ _ (by simpa using b),f _ _ _ b]
  by_cases f:j=k
  ·rw[aV f];exact A.all i om
  ·rw[aZ f]
   by_cases f:i=k
   ·rw[aV f];exact A.all j om
   ·rw[aZ f];exact A.all k b
theorem srt_cmp {d:Array α}(A:Arr h S N d)(hi:i<N)(b:j<N)(nx:Nat)(c:h.next<=nx):Ev T (Srt.f α) [.agg (Srt.enc d[i]!),.agg (Srt.enc d[j]!)] (H.mk h.tr nx) (λv h'=> ∃z,v= aB z/\decide (z<0)=Srt.lt d[i]! d[j]! /\Fr (H.mk h.tr nx) h'):=
 O.cmp _ _ _ (O.bfr _ _ A.base ((Fr.refl h).bN c)) (A.all i (by rw[A.size];exact hi)) (A.all j (by rw[A.size];exact b))
end
attribute [go_sem] stV_enc eqV_enc H.Jj
theorem fxt {a b c:H}(x:Fx (· =S) a b)(y:Fx (· =S) b c):Fx (· =S) a c:=x.trans y λ_ _ h=>h
theorem insI_t {α:Type}[Inhabited α]{lt:α->α->Bool}{d:Array α}(b:a<j+1)(h2:lt d[j+1]! d[j]! =true):insInner lt a (j+1) d=insInner lt a j (swp d (j+1) j):=by
 rw[insInner,aV (by simp [b,h2])]
theorem insI_f {α:Type}[Inhabited α]{lt:α->α->Bool}{d:Array α}(h2:lt d[j+1]! d[j]! =false):insInner lt a (j+1) d=d:=by
 rw[insInner,aZ (by simp [h2])]
theorem insI_s {α:Type}[Inhabited α]{lt:α->α->Bool}{d:Array α}(h:j<=a):insInner lt a j d=d:=by
 cases j with
 |zero=>rfl
 |succ j=>rw[insInner,aZ (by simp;omega)]
theorem insertion_ok {α:Type}[Inhabited α][O:Srt α](h:H)(S N a b:Nat)(d:Array α)(v:mF)(P:N<1000000)(A:Arr h S N d)(Q:b<=N)(L:a<=b):
  Ev T 139 [.sl S 0 N v,aB a,aB b,.fn (Srt.f α) [] []] h (λ_ h'=>Arr h' S N (insertionSort Srt.lt d a b)/\Fx (· =S) h h'):=by
 refine bH c_slices_insertionSortCmpFunc_classes_class rfl rfl ?_
 simp(disch:=omega)only[go_sem,c_slices_insertionSortCmpFunc_classes_class,aF]
 rw[dY a]
 refine aH (λr c t=> ∃(i:Nat) (e:Array α),(∃g:Nat->V,c= [.sl S 0 N v,aB a,aB b,.fn (Srt.f α) [] [],aB i,g 5,g 6,g 7])/\a<i/\i<=b+1/\Arr t S N e/\insOuter Srt.lt a b i e=insertionSort Srt.lt d a b/\Fx (· =S) h t/\r=b+1-i) (b+1-(a+1))
  ⟨a+1,d,aA rfl,om,om,A,rfl,Fx.refl _ h,rfl⟩ ?_
 clear A
 rintro r c u ⟨i,e,⟨g,rfl⟩,u,u,A,l,F,rfl⟩
 simp(disch:=omega)only[go_sem]
 by_cases u:(i:Int)<(b:Int)
 case neg=>
  rw[bJ u];simp(disch:=omega)only[go_sem];rw[insOuter,aZ om] at l;rw[←l];exact⟨A,F⟩
 rw[bM u]
 rw[insOuter,aV om] at l
 simp(disch:=omega)only[go_sem]
 refine aH (λr c t=> ∃(j:Nat) (k:Array α),(∃g:Nat->V,c= [.sl S 0 N v,aB a,aB b,.fn (Srt.f α) [] [],aB i,aB j,g 6,g 7])/\a<=j/\j<=i/\Arr t S N k/\insInner Srt.lt a j k=insInner Srt.lt a i e/\Fx (· =S) h t/\r=j) i
  ⟨i,e,aA rfl,om,om,A,rfl,F,rfl⟩ ?_
 clear A F
 rintro r c p ⟨j,k,⟨c,rfl⟩,c,c,A,o,F,c⟩
 have c:=A.size
 by_cases q:(a:Int)<(j:Int)
 ·obtain⟨m,rfl⟩: ∃m,j=m+1:=⟨j- 1,om⟩
  have c:=A.rd (i:=m+1) om
  have e:=A.rd (i:=m) om
  have w:=bM q
  have y:((m+1:Nat):Int)- 1=(m:Int):=om
  simp(disch:=omega)only[go_sem,w,y,c,e]
  refine (srt_cmp A (i:=m+1) (j:=m) om om _ om).mono ?_
  rintro _ B ⟨z,rfl,G,c⟩
  have n:Fr p B:=Fr.trans ((Fr.refl p).bN om) c
  have s:=A.fr n
  have K:=s.rd (i:=m+1) om
  have J:=s.rd (i:=m) om
  cases hl:Srt.lt k[m+1]! k[m]! with
  |false=>
   rw[insI_f hl] at o;simp(disch:=omega)only[go_sem,G,hl];rw[dY i];rw[←o] at l;exact⟨b+1-(i+1),om,i+1,k,aA rfl,om,om,s,l,fxt F (Fx.of n),rfl⟩
  |true=>
   rw[insI_t om hl] at o;simp(disch:=omega)only[go_sem,G,hl,y,K,J,s.get,put_cont,put_cont'];have W:=s.swap (i:=m+1) (j:=m) (nx:=B.next+18) om rfl;exact⟨m,om,m,_,aA rfl,om,om,W.1,o,fxt (fxt F (Fx.of n)) W.2,rfl⟩
 ·have w:=bJ q
  rw[insI_s om] at o
  simp(disch:=omega)only[go_sem,w]
  rw[dY i]
  rw[←o] at l
  have x:Fr p (H.mk p.tr (p.next+17)):=(Fr.refl p).bN om
  exact⟨b+1-(i+1),om,i+1,k,aA rfl,om,om,A.fr x,l,fxt F (Fx.of x),rfl⟩
end
def chd {α:Type}[Inhabited α](lt:α->α->Bool)(hi first root:Nat)(d:Array α):Nat:=if 2*root+1+1<hi/\lt d[first+(2*root+1)]! d[first+(2*root+1)+1]! =true then 2*root+2 else 2*root+1
theorem sift_eq {α:Type}[Inhabited α]{lt:α->α->Bool}(hi first a:Nat)(d:Array α):siftDown lt hi first a d=if 2*a+1≥hi then d else
  if lt d[first+a]! d[first+chd lt hi first a d]! =true then siftDown lt hi first (chd lt hi first a d) (swp d (first+a) (first+chd lt hi first a d)) else d:=by
 rw[siftDown]
 unfold chd
 by_cases c:2*a+1≥hi
 ·rw[dif_pos c,aV c]
 ·rw[dif_neg c,aZ c]
  by_cases b:2*a+1+1<hi/\lt d[first+(2*a+1)]! d[first+(2*a+1)+1]! =true
  ·rw[aV (by simpa using b),aV b]
   cases h3:lt d[first+a]! d[first+(2*a+2)]!
   ·simp
   ·simp [show 2*a+2<hi by omega]
  ·rw[aZ (by simpa using b),aZ b]
   cases h3:lt d[first+a]! d[first+(2*a+1)]! <;>simp
theorem siftDown_ok  {α:Type}[Inhabited α][O:Srt α](h:H)(S N x hi first:Nat)(d:Array α)(Y:mF)(hN:N<1000000)(A:Arr h S N d)(hb:first+hi<=N)(R:x<=hi):
  Ev T 173 [.sl S 0 N Y,aB x,aB hi,aB first,.fn (Srt.f α) [] []] h (λ_ h'=>Arr h' S N (siftDown Srt.lt hi first x d)/\Fx (· =S) h h'):=by
 refine bH c_slices_siftDownCmpFunc_classes_class rfl rfl ?_
 simp(disch:=omega)only[go_sem,c_slices_siftDownCmpFunc_classes_class,aF]
 refine aH (λZ s hh=> ∃(r:Nat) (e:Array α),(∃g:Nat->V,s= [.sl S 0 N Y,aB x,aB hi,aB first,.fn (Srt.f α) [] [],aB r,g 6,g 7,g 8,g 9])/\r<=hi/\Arr hh S N e/\siftDown Srt.lt hi first r e=siftDown Srt.lt hi first x d/\Fx (· =S) h hh/\Z=hi-r) (hi-x)
  ⟨x,d,aA rfl,R,A,rfl,Fx.refl _ h,rfl⟩ ?_
 clear A
 rintro Z s v ⟨r,e,⟨g,rfl⟩,g,A,a,F,rfl⟩
 have P:2*(r:Int)+1=((2*r+1:Nat):Int):=om
 by_cases g:(hi:Int)<=((2*r+1:Nat):Int)
 ·have L:=bM g
  simp(disch:=omega)only[go_sem,P,L]
  rw[sift_eq,aV om] at a
  rw[←a]
  exact⟨A,F⟩
 have L:=bJ g
 rw[sift_eq,aZ om] at a
 have U:((2*r+1:Nat):Int)+1=((2*r+2:Nat):Int):=om
 have c:(first:Int)+(r:Int)=((first+r:Nat):Int):=om
 have l:(first:Int)+((2*r+1:Nat):Int)=((first+(2*r+1):Nat):Int):=om
 have J:(first:Int)+((2*r+2:Nat):Int)=((first+(2*r+2):Nat):Int):=om
 have g:((first+(2*r+1):Nat):Int)+1=((first+(2*r+1)+1:Nat):Int):=om
 have s:=A.size
 by_cases B:((2*r+2:Nat):Int)<(hi:Int)
 ·have Q:=bM B
  have p:=A.rd (i:=first+(2*r+1)) om
  have G:=A.rd (i:=first+(2*r+1)+1) om
  simp(disch:=omega)only[go_sem,P,L,U,Q,l,g,p,G]
  refine (srt_cmp A (i:=first+(2*r+1)) (j:=first+(2*r+1)+1) om om _ om).mono ?_
  rintro _ K ⟨z,rfl,m,g⟩
  have y:Fr v K:=Fr.trans ((Fr.refl v).bN om) g
  have u:=A.fr y
  have o:=u.rd (i:=first+r) om
  have p:=u.rd (i:=first+(2*r+1)) om
  have G:=u.rd (i:=first+(2*r+2)) om
  cases hl:Srt.lt e[first+(2*r+1)]! e[first+(2*r+1)+1]! with
  |false=>
   have n:chd Srt.lt hi first r e=2*r+1:=aZ (by rw[hl];simp)
   rw[n] at a;simp(disch:=omega)only[go_sem,m,hl,c,l,o,p];refine (srt_cmp u (i:=first+r) (j:=first+(2*r+1)) om om _ om).mono ?_;rintro _ t ⟨z,rfl,m,k⟩;have q:Fr K t:=Fr.trans ((Fr.refl K).bN om) k;have b:=u.fr q;have o:=b.rd (i:=first+r) om;have p:=b.rd (i:=first+(2*r+1)) om;have w:=fxt (fxt F (Fx.of y)) (Fx.of q)
   cases hl2:Srt.lt e[first+r]! e[first+(2*r+1)]! with
   |false=>
    rw[aZ (by rw[hl2];simp)] at a;simp(disch:=omega)only[go_sem,m,hl2];rw[←a];exact⟨b,w⟩
   |true=>
    rw[aV hl2] at a;simp(disch:=omega)only[go_sem,m,hl2,c,l,o,p,b.get,put_cont,put_cont'];have W:=b.swap (i:=first+r) (j:=first+(2*r+1)) (nx:=t.next+24) om rfl;exact⟨hi-(2*r+1),om,2*r+1,_,aA rfl,om,W.1,a,fxt w W.2,rfl⟩
  |true=>
   have n:chd Srt.lt hi first r e=2*r+2:=aV ⟨om,hl⟩
   rw[n] at a;simp(disch:=omega)only[go_sem,m,hl,U,c,J,o,G];refine (srt_cmp u (i:=first+r) (j:=first+(2*r+2)) om om _ om).mono ?_;rintro _ t ⟨z,rfl,m,k⟩;have q:Fr K t:=Fr.trans ((Fr.refl K).bN om) k;have b:=u.fr q;have o:=b.rd (i:=first+r) om;have G:=b.rd (i:=first+(2*r+2)) om;have w:=fxt (fxt F (Fx.of y)) (Fx.of q)
   cases hl2:Srt.lt e[first+r]! e[first+(2*r+2)]! with
   |false=>
    rw[aZ (by rw[hl2];simp)] at a;simp(disch:=omega)only[go_sem,m,hl2];rw[←a];exact⟨b,w⟩
   |true=>
    rw[aV hl2] at a;simp(disch:=omega)only[go_sem,m,hl2,c,J,o,G,b.get,put_cont,put_cont'];have W:=b.swap (i:=first+r) (j:=first+(2*r+2)) (nx:=t.next+24) om rfl;exact⟨hi-(2*r+2),om,2*r+2,_,aA rfl,om,W.1,a,fxt w W.2,rfl⟩
 ·have Q:=bJ B
  have n:chd Srt.lt hi first r e=2*r+1:=aZ om
  rw[n] at a
  have y:Fr v (H.mk v.tr (v.next+20)):=(Fr.refl v).bN om
  have u:=A.fr y
  have o:=A.rd (i:=first+r) om
  have p:=A.rd (i:=first+(2*r+1)) om
  simp(disch:=omega)only[go_sem,P,L,U,Q,c,l,o,p]
  refine (srt_cmp A (i:=first+r) (j:=first+(2*r+1)) om om _ om).mono ?_
  rintro _ t ⟨z,rfl,m,k⟩
  have q:Fr v t:=Fr.trans ((Fr.refl v).bN om) k
  have b:=A.fr q
  have o:=b.rd (i:=first+r) om
  have p:=b.rd (i:=first+(2*r+1)) om
  have w:=fxt F (Fx.of q)
  cases hl2:Srt.lt e[first+r]! e[first+(2*r+1)]! with
  |false=>
   rw[aZ (by rw[hl2];simp)] at a;simp(disch:=omega)only[go_sem,m,hl2];rw[←a];exact⟨b,w⟩
  |true=>
   rw[aV hl2] at a;simp(disch:=omega)only[go_sem,m,hl2,c,l,o,p,b.get,put_cont,put_cont'];have W:=b.swap (i:=first+r) (j:=first+(2*r+1)) (nx:=t.next+24) om rfl;exact⟨hi-(2*r+1),om,2*r+1,_,aA rfl,om,W.1,a,fxt w W.2,rfl⟩
theorem heapSort_ok  {α:Type}[Inhabited α][O:Srt α](h:H)(S N a b:Nat)(d:Array α)(t:mF)(z:N<1000000)(A:Arr h S N d)(Z:b<=N)(U:a<=b):
  Ev T 140 [.sl S 0 N t,aB a,aB b,.fn (Srt.f α) [] []] h (λ_ h'=>Arr h' S N (heapSort Srt.lt d a b)/\Fx (· =S) h h'):=by
 refine bH c_slices_heapSortCmpFunc_classes_class rfl rfl ?_
 obtain⟨n,R⟩:=JR (b-a)
 have G:(b:Int)-(a:Int)=(n:Int):=om
 have L:((n:Int)- 1).tdiv 2=(((n- 1)/2+1:Nat):Int)- 1:=by
  by_cases J:n=0
  ·subst J;decide
  ·rw[Int.tdiv_eq_ediv_of_nonneg om];omega
 simp(disch:=omega)only[go_sem,c_slices_heapSortCmpFunc_classes_class,aF,G,L]
 refine aH (λl c u=> ∃(k:Nat) (e:Array α),(∃g:Nat->V,c= [.sl S 0 N t,aB a,aB b,.fn (Srt.f α) [] [],aB a,aB 0,aB n,aB ((k:Int)- 1),g 8,g 9,g 10])/\k<=n+1/\(k=1∨k<=n)/\Arr u S N e/\heapBuild Srt.lt n a k e=heapBuild Srt.lt n a ((n- 1)/2+1) d/\Fx (· =S) h u/\l=k) ((n- 1)/2+1)
  ⟨(n- 1)/2+1,d,aA rfl,om,om,A,rfl,Fx.refl _ h,rfl⟩ ?_
 clear A
 rintro l c P ⟨k,e,⟨g,rfl⟩,q,y,A,v,F,x⟩
 subst x
 by_cases o:(0:Int)<=(l:Int)- 1
 ·have p:=bM o
  obtain⟨m,rfl⟩: ∃m,l=m+1:=⟨l- 1,om⟩
  have s:((m+1:Nat):Int)- 1=(m:Int):=om
  rw[s] at p
  rw[s]
  simp(disch:=omega)only[go_sem,p]
  refine (siftDown_ok P S N m n a e t z A om om).mono ?_
  rintro _ B ⟨K,F2⟩
  simp(disch:=omega)only[go_sem]
  exact⟨m,om,m,_,aA rfl,om,om,K,v,fxt F F2,rfl⟩
 have p:=bJ o
 obtain rfl:l=0:=om
 have v:e=heapBuild Srt.lt n a ((n- 1)/2+1) d:=v
 simp(disch:=omega)only[go_sem,p]
 refine aH (λl c u=> ∃(k:Nat) (r:Array α),(∃g:Nat->V,c= [.sl S 0 N t,aB a,aB b,.fn (Srt.f α) [] [],aB a,aB 0,aB n,g 7,aB ((k:Int)- 1),g 9,g 10])/\k<=n/\Arr u S N r/\heapPop Srt.lt a k r=heapPop Srt.lt a n e/\Fx (· =S) h u/\l=k) n
  ⟨n,e,aA rfl,om,A,rfl,F,rfl⟩ ?_
 clear A F o p q y
 rintro l c B ⟨k,r,⟨g,rfl⟩,q,A,w,F,x⟩
 subst x
 have c:=A.size
 by_cases o:(0:Int)<=(l:Int)- 1
 ·have p:=bM o
  obtain⟨m,rfl⟩: ∃m,l=m+1:=⟨l- 1,om⟩
  have s:((m+1:Nat):Int)- 1=(m:Int):=om
  rw[s] at p
  rw[s]
  have c:(a:Int)+(m:Int)=((a+m:Nat):Int):=om
  have g:=A.rd (i:=a+m) om
  have k:=A.rd (i:=a) om
  simp(disch:=omega)only[go_sem,p,c,g,k,A.get,put_cont,put_cont']
  have W:=A.swap (i:=a) (j:=a+m) (nx:=B.next+20) om rfl
  have c:=siftDown_ok _ S N 0 m a _ t z W.1 om om
  refine c.mono ?_
  rintro _ c ⟨Q,Y⟩
  simp(disch:=omega)only[go_sem]
  exact⟨m,om,m,_,aA rfl,om,Q,w,fxt (fxt F W.2) Y,rfl⟩
 have p:=bJ o
 obtain rfl:l=0:=om
 simp(disch:=omega)only[go_sem,p]
 have w:r=heapPop Srt.lt a n e:=w
 have:heapSort Srt.lt d a b=r:=by unfold heapSort;rw[R,w,v]
 rw[this]
 exact⟨A,F⟩
theorem Arr.fxo  {α:Type}[Inhabited α][O:Srt α]{h h':H}{S N R:Nat}{d:Array α}(A:Arr h S N d)(f:Fx (· =R) h h')(b:R≠S)(a:Srt.b0 α<=R):Arr h' S N d:=⟨by rw[f.get S A.lt (λe=>b e.symm)];exact A.get,A.size,iP A.lt f.next,A.eqS,O.bR _ _ _ A.base a f,A.all⟩
theorem reverse_ok  {α:Type}[Inhabited α][O:Srt α](h:H)(S N a b:Nat)(d:Array α)(o:mF)(t:N<1000000)(A:Arr h S N d)(u:b<=N)(s:a<b):
  Ev T 143 [.sl S 0 N o,aB a,aB b,.fn (Srt.f α) [] []] h (λ_ h'=>Arr h' S N (reverseRange d a b)/\Fx (· =S) h h'):=by
 refine bH c_slices_reverseRangeCmpFunc_classes_class rfl rfl ?_
 have p:(b:Int)- 1=((b- 1:Nat):Int):=om
 simp(disch:=omega)only[go_sem,c_slices_reverseRangeCmpFunc_classes_class,aF,p]
 refine aH (λc k p=> ∃(i j:Nat) (e:Array α),(∃g:Nat->V,k= [.sl S 0 N o,aB a,aB b,aB i,aB j,g 5])/\j<b/\i<=b/\Arr p S N e/\reverseLoop i j e=reverseLoop a (b- 1) d/\Fx (· =S) h p/\c=j) (b- 1)
  ⟨a,b- 1,d,aA rfl,om,om,A,rfl,Fx.refl _ h,rfl⟩ ?_
 clear A
 rintro c k r ⟨i,j,e,⟨g,rfl⟩,e,hi,A,l,F,q⟩
 subst q
 have e:=A.size
 rw[reverseLoop] at l
 by_cases m:(i:Int)<(c:Int)
 ·have n:=bM m
  rw[aV om] at l
  have g:=A.rd (i:=i) om
  have e:=A.rd (i:=c) om
  simp(disch:=omega)only[go_sem,n,g,e,A.get,put_cont,put_cont']
  have W:=A.swap (i:=i) (j:=c) (nx:=r.next+16) om rfl
  rw[show (i:Int)+1=((i+1:Nat):Int) from om,show (c:Int)- 1=((c- 1:Nat):Int) from om]
  exact⟨c- 1,om,i+1,c- 1,_,aA rfl,om,om,W.1,l,fxt F W.2,rfl⟩
 have n:=bJ m
 rw[aZ om] at l
 simp(disch:=omega)only[go_sem,n]
 unfold reverseRange
 rw[←l]
 exact⟨A,F⟩
theorem tdivN (n:Nat){k:Int}{m:Nat}(a:k=(m:Int)):(n:Int).tdiv k=((n/m:Nat):Int):=by
 rw[a,Int.tdiv_eq_ediv_of_nonneg om];rfl
theorem break_ok  {α:Type}[Inhabited α][O:Srt α](h:H)(S N a b:Nat)(d:Array α)(cp:mF)(hN:N<60000)(A:Arr h S N d)(hb:b<=N)(a2:a<=b):
  Ev T 141 [.sl S 0 N cp,aB a,aB b,.fn (Srt.f α) [] []] h (λ_ h'=> ∃e,Arr h' S N e/\PermIn a b d e/\Fx (· =S) h h'):=by
 refine bH c_slices_breakPatternsCmpFunc_classes_class rfl rfl ?_
 obtain⟨n,B⟩:=JR (b-a)
 have en:(b:Int)-(a:Int)=(n:Int):=om
 by_cases B:(8:Int)<=(n:Int)
 case neg=>
  have U:=bJ B;simp(disch:=omega)only[go_sem,c_slices_breakPatternsCmpFunc_classes_class,aF,en,U];exact⟨d,A,permIn_refl d a b,Fx.refl _ h⟩
 have U:=bM B
 have G:=tdivN n (k:=4) (m:=4) rfl
 obtain⟨q,B⟩:=JR (n/4)
 rw[B] at G
 have ei:(a:Int)+(q:Int)*2- 1=((a+q*2- 1:Nat):Int):=om
 have ej:(a:Int)+(q:Int)*2+1=((a+q*2+1:Nat):Int):=om
 have P:=two_pow_bitsLen_le (show 0<n by omega)
 have B:=lt_two_pow_bitsLen n
 obtain⟨m,hm⟩:=JR (2^bitsLen n)
 rw[hm] at P B
 obtain⟨R,Z⟩:=JR h.next
 have a1:R≠S:=by have:=A.lt;omega
 have a0:Srt.b0 α<=R:=by have:=O.bn _ A.base;omega
 have P: ∀c:H,dQ (bW [.int .u64 0]) c R 0 [.int .u64 (n:Int)]=some (c.set R (bW [.int .u64 (n:Int)])):=λc=>bF (by simp) c R _
 have B:(h.new (.cells false [.int .u64 0])).get R=bW [.int .u64 0]:=by rw[←Z,H.aN]
 simp(disch:=omega)only[go_sem,c_slices_breakPatternsCmpFunc_classes_class,aF,en,U,Z,wrap_u64_in (n:=(n:Int)) om om,B,P]
 obtain⟨p,l⟩: ∃p,p=(h.new (.cells false [.int .u64 0])).set R (bW [.int .u64 (n:Int)]):=⟨_,rfl⟩
 rw[←l]
 have g1:p.get R=bW [.int .u64 (n:Int)]:=by rw[l,H.aT]
 have n1:p.next=R+1:=by rw[l,H.dE,H.aX,Z]
 have L:Fr h p:=by rw[l];exact ((Fr.refl h).new _).set om _
 clear l
 refine (pow2_ok n p om).mono ?_
 rintro _ l ⟨rfl,c⟩
 rw[c,hm]
 simp(disch:=omega)only[go_sem,G,ei]
 refine aH (λk' r c=> ∃(i:Nat) (e:Array α) (x:Int),(∃g:Nat->V,r= [.sl S 0 N cp,aB a,aB b,aB n,.ptr R 0,.int .u64 (m:Int),aB i,g 7,g 8,g 9,g 10])/\a<=i/\i<=a+q*2+2/\Arr c S N e/\PermIn a b d e/\c.get R=bW [.int .u64 x]/\R<c.next/\Fx (· =S) h c/\k'=a+q*2+2-i) (a+q*2+2-(a+q*2- 1))
  ⟨a+q*2- 1,d,_,aA rfl,om,om,A.fr L,permIn_refl d a b,g1,om,Fx.of L,rfl⟩ ?_
 clear A g1 n1 L c p
 rintro k' r p ⟨i,e,x,⟨g,rfl⟩,t,c,A,hP,gR,nR,F,rfl⟩
 by_cases c:(i:Int)<=((a+q*2+1:Nat):Int)
 case neg=>
  have g:=bJ c;simp(disch:=omega)only[go_sem,G,ej,g];exact⟨e,A,hP,F⟩
 have g:=bM c
 simp(disch:=omega)only[go_sem,G,ej,g]
 refine (next_ok R x p gR nR).mono ?_
 rintro _ J ⟨y,rfl,s,F2⟩
 have o:=A.fxo F2 a1 a0
 obtain⟨w,hw,c⟩:=and_u64 y (m- 1) om
 have em:(m:Int)- 1=((m- 1:Nat):Int):=om
 have c:=o.size
 have z:Fx (· =S) h J:=⟨jK F.next F2.next,λid c g=>(F2.get id (iP c F.next) (λe=>by have:id=R:=e;omega)).trans (F.get id c g)⟩
 have u:R<J.next:=iP nR F2.next
 by_cases v:(n:Int)<=(w:Int)
 ·have K:=bM v
  have c:(w:Int)-(n:Int)=((w-n:Nat):Int):=om
  have Q:(a:Int)+((w-n:Nat):Int)=((a+(w-n):Nat):Int):=om
  have Y:=o.rd (i:=i) om
  have c2:=o.rd (i:=a+(w-n)) om
  simp(disch:=omega)only[go_sem,em,wrap_u64_in (n:=((m- 1:Nat):Int)) om om,hw,K,c,Q,Y,c2,o.get,put_cont,put_cont']
  have W:=o.swap (i:=i) (j:=a+(w-n)) (nx:=J.next+20) om rfl
  rw[dY i]
  refine⟨a+q*2+2-(i+1),om,i+1,_,y,aA rfl,om,om,W.1,permIn_trans _ _ _ a b hP (swp_permIn e a b i (a+(w-n)) t om om om om),?_,iP u W.2.next,fxt z W.2,rfl⟩
  exact s
 ·have K:=bJ v
  have Q:(a:Int)+(w:Int)=((a+w:Nat):Int):=om
  have Y:=o.rd (i:=i) om
  have c2:=o.rd (i:=a+w) om
  simp(disch:=omega)only[go_sem,em,wrap_u64_in (n:=((m- 1:Nat):Int)) om om,hw,K,Q,Y,c2,o.get,put_cont,put_cont']
  have W:=o.swap (i:=i) (j:=a+w) (nx:=J.next+20) om rfl
  rw[dY i]
  refine⟨a+q*2+2-(i+1),om,i+1,_,y,aA rfl,om,om,W.1,permIn_trans _ _ _ a b hP (swp_permIn e a b i (a+w) t om om om om),?_,iP u W.2.next,fxt z W.2,rfl⟩
  exact s
structure Chs (h h':H)(R:Nat):Prop where
 get: ∃s,h'.get R=bW [aB s]
 fx:Fx (· =R) h h'
theorem Chs.trans {a b c:H}{R:Nat}(x:Chs a b R)(y:Chs b c R):Chs a c R:=⟨y.get,x.fx.trans y.fx λ_ _ h=>h⟩
theorem order2_ok  {α:Type}[Inhabited α][O:Srt α](h:H)(S N a b R:Nat)(d:Array α)(n:mF)(r:N<1000000)(A:Arr h S N d)(t:a<N)(x:b<N)(u:R≠S)(l:R<h.next)(q:Srt.b0 α<=R)(s:Int)(p:h.get R=bW [aB s]):
  Ev T 187 [.sl S 0 N n,aB a,aB b,.ptr R 0,.fn (Srt.f α) [] []] h (λv h'=>(v= .tup [aB a,aB b]∨v= .tup [aB b,aB a])/\Chs h h' R):=by
 refine bH c_slices_order2CmpFunc_classes_class rfl rfl ?_
 have o:=A.rd (i:=a) om
 have e:=A.rd (i:=b) om
 simp(disch:=omega)only[go_sem,c_slices_order2CmpFunc_classes_class,aF,o,e]
 refine (srt_cmp A (i:=b) (j:=a) om om _ om).mono ?_
 rintro _ g ⟨z,rfl,m,e⟩
 have k:Fr h g:=Fr.trans ((Fr.refl h).bN om) e
 have c:g.get R=bW [aB s]:=by rw[k.get R l];exact p
 cases hl:Srt.lt d[b]! d[a]! with
 |false=>
  simp(disch:=omega)only[go_sem,m,hl];exact⟨.inl trivial,⟨s,c⟩,Fx.of k⟩
 |true=>
  have cR:g.cell R 0=some (aB s):=by rw[H.aG c];rfl
  have o: ∀(w:Int) (e:H),dQ (bW [aB s]) e R 0 [aB w]=some (e.set R (bW [aB w])):=λw e=>bF (by simp) e R _
  simp(disch:=omega)only[go_sem,m,hl,cR,c,o];exact⟨.inr trivial,⟨_,by rw[H.aT]⟩,(Fx.of (W:=(· =R)) k).trans (Fx.set g (W:=(· =R)) rfl _) (λ_ _ h=>h)⟩
theorem median_ok  {α:Type}[Inhabited α][O:Srt α](h:H)(S N a b c R:Nat)(d:Array α)(n:mF)(w:N<1000000)(A:Arr h S N d)(r:a<N)(z:b<N)(G:c<N)(i:R≠S)(j:R<h.next)(e:Srt.b0 α<=R)(s:Int)(Q:h.get R=bW [aB s]):
  Ev T 175 [.sl S 0 N n,aB a,aB b,aB c,.ptr R 0,.fn (Srt.f α) [] []] h (λv h'=>(∃m,v= aB (m:Nat)/\(m=a∨m=b∨m=c))/\Chs h h' R):=by
 refine bH c_slices_medianCmpFunc_classes_class rfl rfl ?_
 simp(disch:=omega)only[go_sem,c_slices_medianCmpFunc_classes_class,aF]
 refine (order2_ok h S N a b R d n w A r z i j e s Q).mono ?_
 rintro W U ⟨t,o⟩
 obtain⟨B,k,rfl,q,g,K⟩: ∃x y,W= .tup [aB (x:Nat),aB (y:Nat)]/\x<N/\y<N/\((x=a∨x=b)/\(y=a∨y=b)):=by
  rcases t with rfl|rfl
  ·exact⟨a,b,rfl,r,z,.inl rfl,.inr rfl⟩
  ·exact⟨b,a,rfl,z,r,.inr rfl,.inl rfl⟩
 have J:=A.fxo o.fx i e
 obtain⟨t,K⟩:=o.get
 have F:=iP j o.fx.next
 simp(disch:=omega)only[go_sem]
 refine (order2_ok U S N k c R d n w J g G i F e t K).mono ?_
 rintro P Y ⟨p,l⟩
 obtain⟨L,t,rfl,u,t⟩: ∃x y,P= .tup [aB (x:Nat),aB (y:Nat)]/\x<N/\(x=k∨x=c):=by
  rcases p with rfl|rfl
  ·exact⟨k,c,rfl,g,.inl rfl⟩
  ·exact⟨c,k,rfl,G,.inr rfl⟩
 have p:=J.fxo l.fx i e
 obtain⟨k,g⟩:=l.get
 have t:=iP F l.fx.next
 simp(disch:=omega)only[go_sem]
 refine (order2_ok Y S N B L R d n w p q u i t e k g).mono ?_
 rintro g g ⟨g,k⟩
 have C:=(o.trans l).trans k
 rcases g with rfl|rfl
 ·simp(disch:=omega)only[go_sem]
  exact⟨⟨L,rfl,om⟩,C⟩
 ·simp(disch:=omega)only[go_sem]
  exact⟨⟨B,rfl,om⟩,C⟩
theorem medianA_ok  {α:Type}[Inhabited α][O:Srt α](h:H)(S N a R:Nat)(d:Array α)(e:mF)(k:N<1000000)(A:Arr h S N d)(o:0<a)(p:a+1<N)(l:R≠S)(b:R<h.next)(c:Srt.b0 α<=R)(s:Int)(j:h.get R=bW [aB s]):
  Ev T 174 [.sl S 0 N e,aB a,.ptr R 0,.fn (Srt.f α) [] []] h (λv h'=>(∃m,v= aB (m:Nat)/\(m=a- 1∨m=a∨m=a+1))/\Chs h h' R):=by
 refine bH c_slices_medianAdjacentCmpFunc_classes_class rfl rfl ?_
 have n:(a:Int)- 1=((a- 1:Nat):Int):=om
 have g:(a:Int)+1=((a+1:Nat):Int):=om
 simp(disch:=omega)only[go_sem,c_slices_medianAdjacentCmpFunc_classes_class,aF,n,g]
 refine (median_ok h S N (a- 1) a (a+1) R d e k A om om om l b c s j).mono ?_
 rintro _ g ⟨⟨m,rfl,i⟩,C⟩
 simp(disch:=omega)only[go_sem]
 exact⟨⟨m,rfl,i⟩,C⟩
theorem pivot_ok  {α:Type}[Inhabited α][O:Srt α](h:H)(S N a b:Nat)(d:Array α)(G:mF)(W:N<1000000)(A:Arr h S N d)(hb:b<=N)(a1:a<b):
  Ev T 142 [.sl S 0 N G,aB a,aB b,.fn (Srt.f α) [] []] h (λv h'=> ∃(p:Nat) (t:Int),v= .tup [aB p,aB t]/\a<=p/\p<b/\Fr h h'):=by
 refine bH c_slices_choosePivotCmpFunc_classes_class rfl rfl ?_
 obtain⟨n,e⟩:=JR (b-a)
 have en:(b:Int)-(a:Int)=(n:Int):=om
 have U:=tdivN n (k:=4) (m:=4) rfl
 obtain⟨q,e⟩:=JR (n/4)
 rw[e] at U
 have ei:(a:Int)+(q:Int)*1=((a+q:Nat):Int):=om
 have ej:(a:Int)+(q:Int)*2=((a+q*2:Nat):Int):=om
 have ek:(a:Int)+(q:Int)*3=((a+q*3:Nat):Int):=om
 obtain⟨R,Q⟩:=JR h.next
 have g:R≠S:=by have:=A.lt;omega
 have c:Srt.b0 α<=R:=by have:=O.bn _ A.base;omega
 obtain⟨r,o⟩: ∃r,r=h.new (.cells false [aB 0]):=⟨_,rfl⟩
 have g1:r.get R=bW [aB 0]:=by rw[o,←Q,H.aN]
 have e:r.next=R+1:=by rw[o,H.aX,Q]
 have f1:Fr h r:=by rw[o];exact (Fr.refl h).new _
 have A1:=A.fr f1
 have K: ∀(p:Nat) (l:H),a<=p->p<b->Fx (· =R) r l->a<=p/\p<b/\Fr h l:=λp l x1 x2 e=>⟨x1,x2,jK f1.next e.next,λid a0=>(e.get id om (λe=>by have:id=R:=e;omega)).trans (f1.get id a0)⟩
 by_cases h8:(8:Int)<=(n:Int)
 case neg=>
  have Y:=bJ h8;simp(disch:=omega)only[go_sem,c_slices_choosePivotCmpFunc_classes_class,aF,en,U,ei,ej,ek,Y];rw[←o];have cR:r.cell R 0=some (aB 0):=by rw[H.aG g1];rfl
  simp(disch:=omega)only[go_sem,Q,cR];refine bB (λ_=>?_) (λe=>(e (by trivial)).elim);simp(disch:=omega)only[go_sem];exact⟨a+q*2,1,rfl,K _ _ om om (Fx.refl _ _)⟩
 have Y:=bM h8
 have u: ∀(i j k:Nat) (l:H) (J:Int),a<=i->i<b->a<=j->j<b->a<=k->k<b->Arr l S N d->l.get R=bW [aB J]->R<l.next->Fx (· =R) r l->
   Ev T 175 [.sl S 0 N G,aB i,aB j,aB k,.ptr R 0,.fn (Srt.f α) [] []] l (λv h'=> ∃p s,v= aB (p:Nat)/\a<=p/\p<b/\h'.get R=bW [aB s]/\Fr h h'):=by
  intro i j k l J e e e e e e Z g2 n2 F2
  refine (median_ok l S N i j k R d G W Z om om om g n2 c J g2).mono ?_
  rintro _ y ⟨⟨p,rfl,e⟩,⟨s,w⟩,L⟩
  exact⟨p,s,rfl,om,om,w,(K p y om om (F2.trans L λ_ _ h=>h)).2.2⟩
 by_cases P:(50:Int)<=(n:Int)
 case neg=>
  have B:=bJ P;simp(disch:=omega)only[go_sem,c_slices_choosePivotCmpFunc_classes_class,aF,en,U,ei,ej,ek,Y,B];rw[←o];simp(disch:=omega)only[go_sem,Q];refine (u (a+q) (a+q*2) (a+q*3) r 0 om om om om om om A1 g1 om (Fx.refl _ _)).mono ?_;rintro _ y ⟨p,s,rfl,F,x,w,z⟩;have cR:y.cell R 0=some (aB s):=by rw[H.aG w];rfl
  simp(disch:=omega)only[go_sem,cR];refine bB (λ_=>?_) (λ_=>?_)
  ·simp(disch:=omega)only[go_sem]
   exact⟨p,1,rfl,F,x,z⟩
  ·simp(disch:=omega)only[go_sem]
   refine bB (λ_=>?_) (λ_=>?_)
   ·simp(disch:=omega)only[go_sem]
    exact⟨p,2,rfl,F,x,z⟩
   ·simp(disch:=omega)only[go_sem]
    exact⟨p,0,rfl,F,x,z⟩
 have B:=bM P
 simp(disch:=omega)only[go_sem,c_slices_choosePivotCmpFunc_classes_class,aF,en,U,ei,ej,ek,Y,B]
 rw[←o]
 simp(disch:=omega)only[go_sem,Q]
 refine (medianA_ok r S N (a+q) R d G W A1 om om g om c 0 g1).mono ?_
 rintro _ l ⟨⟨i,rfl,hi⟩,⟨J,g2⟩,F2⟩
 have Z:=A1.fxo F2 g c
 have n2:=F2.next
 simp(disch:=omega)only[go_sem]
 refine (medianA_ok l S N (a+q*2) R d G W Z om om g om c J g2).mono ?_
 rintro _ y ⟨⟨j,rfl,e⟩,⟨s,w⟩,L⟩
 have A3:=Z.fxo L g c
 have e:=L.next
 simp(disch:=omega)only[go_sem]
 refine (medianA_ok y S N (a+q*3) R d G W A3 om om g om c s w).mono ?_
 rintro _ h4 ⟨⟨k,rfl,e⟩,⟨n,l⟩,e⟩
 have A4:=A3.fxo e g c
 have c:=e.next
 simp(disch:=omega)only[go_sem]
 refine (u i j k h4 n om om om om om om A4 l om ((F2.trans L λ_ _ h=>h).trans e λ_ _ h=>h)).mono ?_
 rintro _ y ⟨p,s,rfl,F,x,w,z⟩
 have cR:y.cell R 0=some (aB s):=by rw[H.aG w];rfl
 simp(disch:=omega)only[go_sem,cR]
 refine bB (λ_=>?_) (λ_=>?_)
 ·simp(disch:=omega)only[go_sem]
  exact⟨p,1,rfl,F,x,z⟩
 ·simp(disch:=omega)only[go_sem]
  refine bB (λ_=>?_) (λ_=>?_)
  ·simp(disch:=omega)only[go_sem]
   exact⟨p,2,rfl,F,x,z⟩
  ·simp(disch:=omega)only[go_sem]
   exact⟨p,0,rfl,F,x,z⟩
section
variable {j b:Nat}
theorem shD_t {α:Type}[Inhabited α]{lt:α->α->Bool}{d:Array α}(h:lt d[j+1]! d[j]! =true):shiftDown lt (j+1) d=shiftDown lt j (swp d (j+1) j):=by rw[shiftDown,aZ (by simp [h])]
theorem shD_f {α:Type}[Inhabited α]{lt:α->α->Bool}{d:Array α}(h:lt d[j+1]! d[j]! =false):shiftDown lt (j+1) d=d:=by rw[shiftDown,aV (by simp [h])]
theorem shU_t {α:Type}[Inhabited α]{lt:α->α->Bool}{d:Array α}(a:j<b)(h:lt d[j]! d[j- 1]! =true):shiftUp lt b j d=shiftUp lt b (j+1) (swp d j (j- 1)):=by rw[shiftUp,aV a,aZ (by simp [h])]
theorem shU_f {α:Type}[Inhabited α]{lt:α->α->Bool}{d:Array α}(a:j<b)(h:lt d[j]! d[j- 1]! =false):shiftUp lt b j d=d:=by rw[shiftUp,aV a,aV (by simp [h])]
theorem scS_t {α:Type}[Inhabited α]{lt:α->α->Bool}{i:Nat}{d:Array α}(hi:i<b)(h:lt d[i]! d[i- 1]! =false):scanSorted lt d b i=scanSorted lt d b (i+1):=by rw[scanSorted,aV (by simp [h,hi])]
theorem scS_f {α:Type}[Inhabited α]{lt:α->α->Bool}{i:Nat}{d:Array α}(h: ¬(i<b/\lt d[i]! d[i- 1]! =false)):scanSorted lt d b i=i:=by rw[scanSorted,aZ (by simpa using h)]
theorem pIns_eq {α:Type}[Inhabited α](lt:α->α->Bool)(a b s i:Nat)(d:Array α):partialIns lt a b (s+1) i d=if scanSorted lt d b i=b then (d,true) else if b-a<50 then (d,false) else
  partialIns lt a b s (scanSorted lt d b i) (if b-scanSorted lt d b i≥2 then shiftUp lt b (scanSorted lt d b i+1) (if scanSorted lt d b i-a≥2 then shiftDown lt (scanSorted lt d b i- 1) (swp d (scanSorted lt d b i) (scanSorted lt d b i- 1)) else swp d (scanSorted lt d b i) (scanSorted lt d b i- 1)) else
   (if scanSorted lt d b i-a≥2 then shiftDown lt (scanSorted lt d b i- 1) (swp d (scanSorted lt d b i) (scanSorted lt d b i- 1)) else swp d (scanSorted lt d b i) (scanSorted lt d b i- 1))):=by rw[partialIns]
theorem partial_ok {α:Type}[Inhabited α][O:Srt α](h:H)(S N a b:Nat)(d:Array α)(cp:mF)(hN:N<1000000)(A:Arr h S N d)(hb:b<=N)(b1:a<b):
  Ev T 144 [.sl S 0 N cp,aB a,aB b,.fn (Srt.f α) [] []] h (λv h'=>v= .bool (partialInsertionSort Srt.lt d a b).2/\Arr h' S N (partialInsertionSort Srt.lt d a b).1/\Fx (· =S) h h'):=by
 refine bH c_slices_partialInsertionSortCmpFunc_classes_class rfl rfl ?_
 simp(disch:=omega)only[go_sem,c_slices_partialInsertionSortCmpFunc_classes_class,aF]
 rw[dY a]
 refine aH (λk c t=> ∃(s i:Nat) (e:Array α),(∃g:Nat->V,c= [.sl S 0 N cp,aB a,aB b,.fn (Srt.f α) [] [],g 4,aB i,aB (5-(s:Int)),g 7,g 8,g 9,g 10,g 11,g 12,g 13,g 14,g 15,g 16,g 17,g 18])/\s<=5/\a<i/\i<=b/\Arr t S N e/\partialIns Srt.lt a b s i e=partialInsertionSort Srt.lt d a b/\Fx (· =S) h t/\k=s) 5
  ⟨5,a+1,d,aA rfl,om,om,om,A,rfl,Fx.refl _ h,rfl⟩ ?_
 clear A
 rintro k c h1 ⟨s,i,e,⟨g,rfl⟩,hs,a8,a9,A,l,F,hk⟩
 subst hk
 by_cases K:(5:Int)-(k:Int)<5
 case neg=>
  have n:=bJ K;obtain rfl:k=0:=om
  simp(disch:=omega)only[go_sem,n];have l:(e,false)=partialInsertionSort Srt.lt d a b:=l;rw[←l];exact⟨rfl,A,F⟩
 have n:=bM K
 obtain⟨s,rfl⟩: ∃s,k=s+1:=⟨k- 1,om⟩
 simp(disch:=omega)only[go_sem,n]
 rw[pIns_eq] at l
 refine aH (λk c t=> ∃(m:Nat),(∃g:Nat->V,c= [.sl S 0 N cp,aB a,aB b,.fn (Srt.f α) [] [],g 4,aB m,aB (5-((s+1:Nat):Int)),g 7,g 8,g 9,g 10,g 11,g 12,g 13,g 14,g 15,g 16,g 17,g 18])/\a<m/\m<=b/\Arr t S N e/\scanSorted Srt.lt e b m=scanSorted Srt.lt e b i/\Fx (· =S) h t/\k=b-m) (b-i)
  ⟨i,aA rfl,a8,a9,A,rfl,F,rfl⟩ ?_
 clear A F K n
 rintro k c y ⟨m,⟨g,rfl⟩,K,K,A,hS,F,rfl⟩
 have K:=A.size
 have G:(m:Int)- 1=((m- 1:Nat):Int):=om
 have a4:(m:Int)+1=((m+1:Nat):Int):=om
 by_cases a3:(m:Int)<(b:Int)
 case neg=>
  have n:=bJ a3;have K:m=b:=om
  rw[scS_f om] at hS;rw[←hS,aV K] at l;have e2:decide ((m:Int)=(b:Int))=true:=bM om;simp(disch:=omega)only[go_sem,n,e2];rw[←l];exact⟨rfl,A.fr ((Fr.refl y).bN om),fxt F (Fx.of ((Fr.refl y).bN om))⟩
 have n:=bM a3
 have p:=A.rd (i:=m) om
 have r:=A.rd (i:=m- 1) om
 simp(disch:=omega)only[go_sem,n,G,p,r]
 refine (srt_cmp A (i:=m) (j:=m- 1) om om _ om).mono ?_
 rintro _ h3 ⟨z,rfl,u,a1⟩
 have R:Fr y h3:=Fr.trans ((Fr.refl y).bN om) a1
 have J:=A.fr R
 have F3:=fxt F (Fx.of R)
 cases hl:Srt.lt e[m]! e[m- 1]! with
 |false=>
  rw[scS_t om hl] at hS;simp(disch:=omega)only[go_sem,u,hl,a4];exact⟨b-(m+1),om,m+1,aA rfl,om,om,J,hS,F3,rfl⟩
 |true=>
  rw[scS_f (by rw[hl];simp)] at hS;rw[←hS,aZ om] at l;have e2:decide ((m:Int)=(b:Int))=false:=bJ om
  by_cases a5:(b:Int)-(a:Int)<50
  ·have P:=bM a5
   rw[aV om] at l;simp(disch:=omega)only[go_sem,u,hl,e2,P];rw[←l];exact⟨rfl,J,F3⟩
  have P:=bJ a5;rw[aZ om] at l;have p:=J.rd (i:=m) om;have r:=J.rd (i:=m- 1) om;simp(disch:=omega)only[go_sem,u,hl,e2,P,G,p,r,J.get,put_cont,put_cont'];have W:=J.swap (i:=m) (j:=m- 1) (nx:=h3.next+18) om rfl
  obtain⟨F,a0⟩: ∃F,F=((H.mk h3.tr (h3.next+18)).set S (bW (flat (e.setIfInBounds m e[m- 1]!).toList))).set S (bW (flat ((e.setIfInBounds m e[m- 1]!).setIfInBounds (m- 1) e[m]!).toList)):=⟨_,rfl⟩
  rw[←a0] at W ⊢;obtain⟨A4,F⟩:=W;have Q:=fxt F3 F;clear a0 F J F3 R a1 p r;obtain⟨Z,a2⟩:=JR (swp e m (m- 1));rw[a2] at A4 l;refine kE (λe U=> ∃e5,(∃g:Nat->V,e= [.sl S 0 N cp,aB a,aB b,.fn (Srt.f α) [] [],g 4,aB m,aB (5-((s+1:Nat):Int)),g 7,g 8,g 9,g 10,g 11,g 12,g 13,g 14,g 15,g 16,g 17,g 18])/\Arr U S N e5/\e5=(if m-a≥2 then shiftDown Srt.lt (m- 1) Z else Z)/\Fx (· =S) h U) ?_ ?_
  ·refine bB (λy=>?_) (λy=>?_)
   ·simp(disch:=omega)only[go_sem,G]
    refine aH (λk c t=> ∃(j:Nat) (x:Array α),(∃g:Nat->V,c= [.sl S 0 N cp,aB a,aB b,.fn (Srt.f α) [] [],g 4,aB m,aB (5-((s+1:Nat):Int)),aB j,g 8,g 9,g 10,g 11,g 12,g 13,g 14,g 15,g 16,g 17,g 18])/\j<b/\Arr t S N x/\shiftDown Srt.lt j x=shiftDown Srt.lt (m- 1) Z/\Fx (· =S) h t/\k=j) (m- 1)
     ⟨m- 1,Z,aA rfl,om,A4,rfl,Q,rfl⟩ ?_
    rintro k c U ⟨j,x,⟨g,rfl⟩,hj,w,B,F5,hk⟩;subst hk;have e:=w.size
    by_cases h1:(1:Int)<=(k:Int)
    ·have n:=bM h1
     obtain⟨q,rfl⟩: ∃q,k=q+1:=⟨k- 1,om⟩
     have a6:((q+1:Nat):Int)- 1=(q:Int):=om
     have p:=w.rd (i:=q+1) om;have r:=w.rd (i:=q) om;simp(disch:=omega)only[go_sem,n,a6,p,r];refine (srt_cmp w (i:=q+1) (j:=q) om om _ om).mono ?_;rintro _ h6 ⟨z,rfl,u,e⟩;have F:Fr U h6:=Fr.trans ((Fr.refl U).bN om) e;have o:=w.fr F;have F6:=fxt F5 (Fx.of F)
     cases hl:Srt.lt x[q+1]! x[q]! with
     |false=>
      rw[shD_f hl] at B;simp(disch:=omega)only[go_sem,u,hl];exact .inl ⟨x,aA rfl,o,by rw[aV om,←B],F6⟩
     |true=>
      rw[shD_t hl] at B;have p:=o.rd (i:=q+1) om;have r:=o.rd (i:=q) om;simp(disch:=omega)only[go_sem,u,hl,a6,p,r,o.get,put_cont,put_cont'];have W:=o.swap (i:=q+1) (j:=q) (nx:=h6.next+18) om rfl;exact⟨q,om,q,_,aA rfl,om,W.1,B,fxt F6 W.2,rfl⟩
    ·have n:=bJ h1
     obtain rfl:k=0:=om
     simp(disch:=omega)only[go_sem,n];have B:x=shiftDown Srt.lt (m- 1) Z:=B;exact .inl ⟨x,aA rfl,w,by rw[aV om,←B],F5⟩
   ·simp(disch:=omega)only[go_sem]
    exact .inl ⟨Z,aA rfl,A4,by rw[aZ om],Q⟩
  ·rintro c U ⟨e5,⟨g,rfl⟩,w,e,F5⟩
   rw[←e] at l;clear A4 Q e a2;simp(disch:=omega)only[go_sem];have L:(5:Int)-((s+1:Nat):Int)+1=5-(s:Int):=om
   refine bB (λy=>?_) (λy=>?_)
   ·rw[aV om] at l
    simp(disch:=omega)only[go_sem,a4];refine aH (λk c t=> ∃(j:Nat) (x:Array α),(∃g:Nat->V,c= [.sl S 0 N cp,aB a,aB b,.fn (Srt.f α) [] [],g 4,aB m,aB (5-((s+1:Nat):Int)),g 7,aB j,g 9,g 10,g 11,g 12,g 13,g 14,g 15,g 16,g 17,g 18])/\0<j/\j<=b/\Arr t S N x/\shiftUp Srt.lt b j x=shiftUp Srt.lt b (m+1) e5/\Fx (· =S) h t/\k=b-j) (b-(m+1))
     ⟨m+1,e5,aA rfl,om,om,w,rfl,F5,rfl⟩ ?_
    rintro k c h6 ⟨j,x,⟨g,rfl⟩,c,hj,o,Y,F6,rfl⟩;have c:=o.size
    by_cases h1:(j:Int)<(b:Int)
    ·have n:=bM h1
     have a7:(j:Int)- 1=((j- 1:Nat):Int):=om
     have b0:(j:Int)+1=((j+1:Nat):Int):=om
     have p:=o.rd (i:=j) om;have r:=o.rd (i:=j- 1) om;simp(disch:=omega)only[go_sem,n,a7,p,r];refine (srt_cmp o (i:=j) (j:=j- 1) om om _ om).mono ?_;rintro _ h7 ⟨z,rfl,u,c⟩;have e:Fr h6 h7:=Fr.trans ((Fr.refl h6).bN om) c;have A7:=o.fr e;have F7:=fxt F6 (Fx.of e)
     cases hl:Srt.lt x[j]! x[j- 1]! with
     |false=>
      rw[shU_f om hl] at Y;rw[←Y] at l;simp(disch:=omega)only[go_sem,u,hl,L];exact⟨s,om,s,m,x,aA rfl,om,om,om,A7,l,F7,rfl⟩
     |true=>
      rw[shU_t om hl] at Y;have p:=A7.rd (i:=j) om;have r:=A7.rd (i:=j- 1) om;simp(disch:=omega)only[go_sem,u,hl,a7,b0,p,r,A7.get,put_cont,put_cont'];have W:=A7.swap (i:=j) (j:=j- 1) (nx:=h7.next+18) om rfl;exact⟨b-(j+1),om,j+1,_,aA rfl,om,om,W.1,Y,fxt F7 W.2,rfl⟩
    ·have n:=bJ h1
     rw[shiftUp,aZ om] at Y;rw[←Y] at l;simp(disch:=omega)only[go_sem,n,L];exact⟨s,om,s,m,x,aA rfl,om,om,om,o,l,F6,rfl⟩
   ·rw[aZ om] at l
    simp(disch:=omega)only[go_sem,L];exact⟨s,om,s,m,e5,aA rfl,om,om,om,w,l,F5,rfl⟩
end
section
variable {j i:Nat}
theorem scU_t {α:Type}[Inhabited α]{p:α->Bool}{d:Array α}(a:i<=j)(h2:p d[i]! =true):scanUp p d j i=scanUp p d j (i+1):=by rw[scanUp,aV (by simp [a,h2])]
theorem scU_f {α:Type}[Inhabited α]{p:α->Bool}{d:Array α}(h: ¬(i<=j/\p d[i]! =true)):scanUp p d j i=i:=by rw[scanUp,aZ (by simpa using h)]
theorem scD_t {α:Type}[Inhabited α]{p:α->Bool}{d:Array α}(a:i<=j+1)(h2:p d[j+1]! =true):scanDown p d i (j+1)=scanDown p d i j:=by rw[scanDown,aV (by simp [a,h2])]
theorem scD_f {α:Type}[Inhabited α]{p:α->Bool}{d:Array α}(h: ¬(i<=j/\p d[j]! =true)):scanDown p d i j=j:=by
 cases j with
 |zero=>rfl
 |succ j=>rw[scanDown,aZ (by simpa using h)]
theorem scanUp_hi {α:Type}[Inhabited α](p:α->Bool)(d:Array α)(j i:Nat):scanUp p d j i<=max i (j+1):=by
 obtain⟨n,a⟩:=JR (j+1-i)
 induction n generalizing i with
 |zero=>rw[scU_f (λh=>by have:=h.1;omega)];omega
 |succ n ih=>
  by_cases h:i<=j/\p d[i]! =true
  ·rw[scU_t h.1 h.2]
   have:=ih (i+1) om;omega
  ·rw[scU_f h];omega
theorem partition_ok {α:Type}[Inhabited α][O:Srt α](h:H)(S N a b pv:Nat)(d:Array α)(U:mF)(hN:N<1000000)(A:Arr h S N d)(hb:b<=N)(b4:a<=pv)(b5:pv<b):
  Ev T 146 [.sl S 0 N U,aB a,aB b,aB pv,.fn (Srt.f α) [] []] h (λv h'=>v= .tup [aB ((partition Srt.lt d a b pv).1:Nat),.bool (partition Srt.lt d a b pv).2.1]/\Arr h' S N (partition Srt.lt d a b pv).2.2/\Fx (· =S) h h'):=by
 refine bH c_slices_partitionCmpFunc_classes_class rfl rfl ?_
 have sz:=A.size
 have J:=A.rd (i:=a) om
 have L:=A.rd (i:=pv) om
 simp(disch:=omega)only[go_sem,c_slices_partitionCmpFunc_classes_class,aF,J,L,A.get,put_cont,put_cont']
 have W:=A.swap (i:=a) (j:=pv) (nx:=h.next+16) om rfl
 obtain⟨h1,R⟩: ∃h1,h1=((H.mk h.tr (h.next+16)).set S (bW (flat (d.setIfInBounds a d[pv]!).toList))).set S (bW (flat ((d.setIfInBounds a d[pv]!).setIfInBounds pv d[a]!).toList)):=⟨_,rfl⟩
 rw[←R] at W ⊢
 obtain⟨A1,F1⟩:=W
 obtain⟨e,he⟩:=JR (swp d a pv)
 rw[he] at A1
 clear R J L A
 have eb:(b:Int)- 1=((b- 1:Nat):Int):=om
 have ea:(a:Int)+1=((a+1:Nat):Int):=om
 have hP:partition Srt.lt d a b pv=if scanUp (λx=>Srt.lt x e[a]!) e (b- 1) (a+1)>scanDown (λx=>!Srt.lt x e[a]!) e (scanUp (λx=>Srt.lt x e[a]!) e (b- 1) (a+1)) (b- 1) then
   (scanDown (λx=>!Srt.lt x e[a]!) e (scanUp (λx=>Srt.lt x e[a]!) e (b- 1) (a+1)) (b- 1),true,swp e (scanDown (λx=>!Srt.lt x e[a]!) e (scanUp (λx=>Srt.lt x e[a]!) e (b- 1) (a+1)) (b- 1)) a) else
   ((partLoop Srt.lt a (scanUp (λx=>Srt.lt x e[a]!) e (b- 1) (a+1)+1) (scanDown (λx=>!Srt.lt x e[a]!) e (scanUp (λx=>Srt.lt x e[a]!) e (b- 1) (a+1)) (b- 1)- 1) (swp e (scanUp (λx=>Srt.lt x e[a]!) e (b- 1) (a+1)) (scanDown (λx=>!Srt.lt x e[a]!) e (scanUp (λx=>Srt.lt x e[a]!) e (b- 1) (a+1)) (b- 1)))).1,false,
    swp (partLoop Srt.lt a (scanUp (λx=>Srt.lt x e[a]!) e (b- 1) (a+1)+1) (scanDown (λx=>!Srt.lt x e[a]!) e (scanUp (λx=>Srt.lt x e[a]!) e (b- 1) (a+1)) (b- 1)- 1) (swp e (scanUp (λx=>Srt.lt x e[a]!) e (b- 1) (a+1)) (scanDown (λx=>!Srt.lt x e[a]!) e (scanUp (λx=>Srt.lt x e[a]!) e (b- 1) (a+1)) (b- 1)))).2 (partLoop Srt.lt a (scanUp (λx=>Srt.lt x e[a]!) e (b- 1) (a+1)+1) (scanDown (λx=>!Srt.lt x e[a]!) e (scanUp (λx=>Srt.lt x e[a]!) e (b- 1) (a+1)) (b- 1)- 1) (swp e (scanUp (λx=>Srt.lt x e[a]!) e (b- 1) (a+1)) (scanDown (λx=>!Srt.lt x e[a]!) e (scanUp (λx=>Srt.lt x e[a]!) e (b- 1) (a+1)) (b- 1)))).1 a):=by
  rw[←he];rfl
 obtain⟨R,R⟩:=JR (partition Srt.lt d a b pv)
 rw[R] at hP
 rw[R]
 simp(disch:=omega)only[go_sem,ea,eb]
 refine bX (λK c=>(∃g:Nat->V,K= [.sl S 0 N U,aB a,aB b,aB pv,.fn (Srt.f α) [] [],g 5,g 6,aB (scanUp (λx=>Srt.lt x e[a]!) e (b- 1) (a+1):Nat),aB ((b- 1):Nat),g 9,g 10,g 11,g 12,g 13,g 14])/\Arr c S N e/\Fx (· =S) h c) ?_ ?_
 ·refine aH (λF K c=> ∃(k:Nat),(∃g:Nat->V,K= [.sl S 0 N U,aB a,aB b,aB pv,.fn (Srt.f α) [] [],g 5,g 6,aB (k:Nat),aB ((b- 1):Nat),g 9,g 10,g 11,g 12,g 13,g 14])/\(a+1)<=k/\k<=N+2/\Arr c S N e/\scanUp (λx=>Srt.lt x e[a]!) e (b- 1) k=scanUp (λx=>Srt.lt x e[a]!) e (b- 1) (a+1)/\Fx (· =S) h c/\F=(b- 1)+1-k) ((b- 1)+1-(a+1))
   ⟨(a+1),aA rfl,om,om,A1,rfl,F1,rfl⟩ ?_
  rintro F m G ⟨k,⟨g,rfl⟩,a7,b2,n,o,Fs,rfl⟩
  by_cases l:(k:Int)<=(((b- 1):Nat):Int)
  ·have q:decide ((k:Int)<=(((b- 1):Nat):Int))=true:=bM l
   have eK:(k:Int)+1=((k+1:Nat):Int):=om
   have a6:=n.size
   have J:=n.rd (i:=k) om
   have L:=n.rd (i:=a) om
   simp(disch:=omega)only[go_sem,q,J,L]
   refine (srt_cmp n (i:=k) (j:=a) om om _ om).mono ?_
   rintro _ P ⟨z,rfl,Y,y⟩
   have s:Fr G P:=Fr.trans ((Fr.refl G).bN om) y
   have t:=n.fr s
   have r:=fxt Fs (Fx.of s)
   cases hl:Srt.lt e[k]! e[a]! with
   |false=>
    rw[scU_f (λc=>by have:=c.2;simp [hl] at this)] at o;simp(disch:=omega)only[go_sem,Y,hl];exact⟨by rw[←o];exact aA rfl,t,r⟩
   |true=>
    rw[scU_t om (by simp [hl])] at o;simp(disch:=omega)only[go_sem,Y,hl,eK];exact⟨(b- 1)+1-(k+1),om,k+1,aA rfl,om,om,t,o,r,rfl⟩
  ·have q:decide ((k:Int)<=(((b- 1):Nat):Int))=false:=bJ l
   rw[scU_f (λc=>l (by have:=c.1;omega))] at o
   simp(disch:=omega)only[go_sem,q]
   exact⟨by rw[←o];exact aA rfl,n.fr ((Fr.refl G).bN om),fxt Fs (Fx.of ((Fr.refl G).bN om))⟩
 ·rintro m h9 ⟨⟨g,rfl⟩,A9,F9⟩
  have a2:=scanUp_ge (λx=>Srt.lt x e[a]!) e (b- 1) (a+1)
  have a1:=scanUp_hi (λx=>Srt.lt x e[a]!) e (b- 1) (a+1)
  obtain⟨p,Z⟩: ∃x,scanUp (λx=>Srt.lt x e[a]!) e (b- 1) (a+1)=x:=⟨_,rfl⟩
  rw[Z] at a2 a1
  rw[Z]
  simp(disch:=omega)only[go_sem]
  refine bX (λK c=>(∃g:Nat->V,K= [.sl S 0 N U,aB a,aB b,aB pv,.fn (Srt.f α) [] [],g 5,g 6,aB (p:Nat),aB (scanDown (λx=>!Srt.lt x e[a]!) e p (b- 1):Nat),g 9,g 10,g 11,g 12,g 13,g 14])/\Arr c S N e/\Fx (· =S) h c) ?_ ?_
  ·refine aH (λF K c=> ∃(k:Nat),(∃g:Nat->V,K= [.sl S 0 N U,aB a,aB b,aB pv,.fn (Srt.f α) [] [],g 5,g 6,aB (p:Nat),aB (k:Nat),g 9,g 10,g 11,g 12,g 13,g 14])/\k<=(b- 1)/\Arr c S N e/\scanDown (λx=>!Srt.lt x e[a]!) e p k=scanDown (λx=>!Srt.lt x e[a]!) e p (b- 1)/\Fx (· =S) h c/\F=k) (b- 1)
    ⟨(b- 1),aA rfl,om,A9,rfl,F9,rfl⟩ ?_
   rintro F m G ⟨k,⟨g,rfl⟩,a7,n,o,Fs,a3⟩
   subst a3
   by_cases l:((p:Nat):Int)<=(F:Int)
   ·have q:=bM l
    obtain⟨k,rfl⟩: ∃k,F=k+1:=⟨F- 1,om⟩
    have eK:((k+1:Nat):Int)- 1=(k:Int):=om
    have a6:=n.size
    have J:=n.rd (i:=k+1) om
    have L:=n.rd (i:=a) om
    simp(disch:=omega)only[go_sem,q,J,L]
    refine (srt_cmp n (i:=k+1) (j:=a) om om _ om).mono ?_
    rintro _ P ⟨z,rfl,Y,y⟩
    have s:Fr G P:=Fr.trans ((Fr.refl G).bN om) y
    have t:=n.fr s
    have r:=fxt Fs (Fx.of s)
    cases hl:Srt.lt e[k+1]! e[a]! with
    |true=>
     rw[scD_f (λc=>by have:=c.2;simp [hl] at this)] at o;simp(disch:=omega)only[go_sem,Y,hl];exact⟨by rw[←o];exact aA rfl,t,r⟩
    |false=>
     rw[scD_t om (by simp [hl])] at o;simp(disch:=omega)only[go_sem,Y,hl,eK];exact⟨k,om,k,aA rfl,om,t,o,r,rfl⟩
   ·have q:=bJ l
    rw[scD_f (λc=>l (by have:=c.1;omega))] at o
    simp(disch:=omega)only[go_sem,q]
    exact⟨by rw[←o];exact aA rfl,n.fr ((Fr.refl G).bN om),fxt Fs (Fx.of ((Fr.refl G).bN om))⟩
  ·rintro m h2 ⟨⟨g,rfl⟩,A2,F2⟩
   have a4:=scanDown_le (λx=>!Srt.lt x e[a]!) e p (b- 1)
   obtain⟨B,a5⟩: ∃x,scanDown (λx=>!Srt.lt x e[a]!) e p (b- 1)=x:=⟨_,rfl⟩
   rw[a5] at a4
   rw[a5]
   rw[Z,a5] at hP
   have b3:=A2.size
   by_cases Q:(B:Int)<(p:Int)
   ·have q:=bM Q
    rw[aV om] at hP
    have J:=A2.rd (i:=B) om
    have L:=A2.rd (i:=a) om
    simp(disch:=omega)only[go_sem,q,J,L,A2.get,put_cont,put_cont']
    have W:=A2.swap (i:=B) (j:=a) (nx:=h2.next+16) om rfl
    rw[hP]
    exact⟨rfl,W.1,fxt F2 W.2⟩
   have q:=bJ Q
   rw[aZ om] at hP
   have J:=A2.rd (i:=p) om
   have L:=A2.rd (i:=B) om
   simp(disch:=omega)only[go_sem,q,J,L,A2.get,put_cont,put_cont']
   have W:=A2.swap (i:=p) (j:=B) (nx:=h2.next+16) om rfl
   obtain⟨h3,b1⟩: ∃h3,h3=((H.mk h2.tr (h2.next+16)).set S (bW (flat (e.setIfInBounds p e[B]!).toList))).set S (bW (flat ((e.setIfInBounds p e[B]!).setIfInBounds B e[p]!).toList)):=⟨_,rfl⟩
   rw[←b1] at W ⊢
   obtain⟨A3,a9⟩:=W
   have F3:=fxt F2 a9
   have b0:p<=B:=om
   obtain⟨e0,a8⟩:=JR (swp e p B)
   rw[a8] at A3 hP
   clear b1 J L A2 A9 F9 A1 F1 he Q q
   have ei:(p:Int)+1=((p+1:Nat):Int):=om
   have ej:(B:Int)- 1=((B- 1:Nat):Int):=om
   simp(disch:=omega)only[go_sem,ei,ej]
   refine bX (λK c=>(∃g:Nat->V,K= [.sl S 0 N U,aB a,aB b,aB pv,.fn (Srt.f α) [] [],g 5,g 6,g 7,aB (((partLoop Srt.lt a (p+1) (B- 1) e0).1:Nat):Int),g 9,g 10,g 11,g 12,g 13,g 14])/\Arr c S N (partLoop Srt.lt a (p+1) (B- 1) e0).2/\(partLoop Srt.lt a (p+1) (B- 1) e0).1<b/\Fx (· =S) h c) ?_ ?_
   ·refine aH (λF K c=> ∃(i j:Nat) (e:Array α),(∃g:Nat->V,K= [.sl S 0 N U,aB a,aB b,aB pv,.fn (Srt.f α) [] [],g 5,g 6,aB i,aB j,g 9,g 10,g 11,g 12,g 13,g 14])/\a<i/\i<=b+1/\j<b/\Arr c S N e/\partLoop Srt.lt a i j e=partLoop Srt.lt a (p+1) (B- 1) e0/\Fx (· =S) h c/\F=j) (B- 1)
     ⟨p+1,B- 1,e0,aA rfl,om,om,om,A3,rfl,F3,rfl⟩ ?_
    obtain⟨R,R⟩:=JR (partLoop Srt.lt a (p+1) (B- 1) e0)
    rw[R]
    clear hP R Z a5 a8 ei ej a4 a2 a1 F3 a9 A3 b3 h3 b0
    clear p B
    rintro F m h3 ⟨i,j,e,⟨g,rfl⟩,R,Z,R,A3,hL,F3,a3⟩
    rw[partLoop_eq] at hL
    simp(disch:=omega)only[go_sem]
    refine bX (λK c=>(∃g:Nat->V,K= [.sl S 0 N U,aB a,aB b,aB pv,.fn (Srt.f α) [] [],g 5,g 6,aB (scanUp (λx=>Srt.lt x e[a]!) e j i:Nat),aB (j:Nat),g 9,g 10,g 11,g 12,g 13,g 14])/\Arr c S N e/\Fx (· =S) h c) ?_ ?_
    ·refine aH (λF K c=> ∃(k:Nat),(∃g:Nat->V,K= [.sl S 0 N U,aB a,aB b,aB pv,.fn (Srt.f α) [] [],g 5,g 6,aB (k:Nat),aB (j:Nat),g 9,g 10,g 11,g 12,g 13,g 14])/\i<=k/\k<=N+2/\Arr c S N e/\scanUp (λx=>Srt.lt x e[a]!) e j k=scanUp (λx=>Srt.lt x e[a]!) e j i/\Fx (· =S) h c/\F=j+1-k) (j+1-i)
      ⟨i,aA rfl,om,om,A3,rfl,F3,rfl⟩ ?_
     rintro F m G ⟨k,⟨g,rfl⟩,a7,b2,n,o,Fs,rfl⟩
     by_cases l:(k:Int)<=((j:Nat):Int)
     ·have q:=bM l
      have eK:(k:Int)+1=((k+1:Nat):Int):=om
      have a6:=n.size
      have J:=n.rd (i:=k) om
      have L:=n.rd (i:=a) om
      simp(disch:=omega)only[go_sem,q,J,L]
      refine (srt_cmp n (i:=k) (j:=a) om om _ om).mono ?_
      rintro _ P ⟨z,rfl,Y,y⟩
      have s:Fr G P:=Fr.trans ((Fr.refl G).bN om) y
      have t:=n.fr s
      have r:=fxt Fs (Fx.of s)
      cases hl:Srt.lt e[k]! e[a]! with
      |false=>
       rw[scU_f (λc=>by have:=c.2;simp [hl] at this)] at o;simp(disch:=omega)only[go_sem,Y,hl];exact⟨by rw[←o];exact aA rfl,t,r⟩
      |true=>
       rw[scU_t om (by simp [hl])] at o;simp(disch:=omega)only[go_sem,Y,hl,eK];exact⟨j+1-(k+1),om,k+1,aA rfl,om,om,t,o,r,rfl⟩
     ·have q:=bJ l
      rw[scU_f (λc=>l (by have:=c.1;omega))] at o
      simp(disch:=omega)only[go_sem,q]
      exact⟨by rw[←o];exact aA rfl,n.fr ((Fr.refl G).bN om),fxt Fs (Fx.of ((Fr.refl G).bN om))⟩
    ·rintro m h9 ⟨⟨g,rfl⟩,A9,F9⟩
     have a2:=scanUp_ge (λx=>Srt.lt x e[a]!) e j i
     have a1:=scanUp_hi (λx=>Srt.lt x e[a]!) e j i
     obtain⟨u,hu⟩: ∃x,scanUp (λx=>Srt.lt x e[a]!) e j i=x:=⟨_,rfl⟩
     rw[hu] at a2 a1
     rw[hu]
     simp(disch:=omega)only[go_sem]
     refine bX (λK c=>(∃g:Nat->V,K= [.sl S 0 N U,aB a,aB b,aB pv,.fn (Srt.f α) [] [],g 5,g 6,aB (u:Nat),aB (scanDown (λx=>!Srt.lt x e[a]!) e u j:Nat),g 9,g 10,g 11,g 12,g 13,g 14])/\Arr c S N e/\Fx (· =S) h c) ?_ ?_
     ·refine aH (λF K c=> ∃(k:Nat),(∃g:Nat->V,K= [.sl S 0 N U,aB a,aB b,aB pv,.fn (Srt.f α) [] [],g 5,g 6,aB (u:Nat),aB (k:Nat),g 9,g 10,g 11,g 12,g 13,g 14])/\k<=j/\Arr c S N e/\scanDown (λx=>!Srt.lt x e[a]!) e u k=scanDown (λx=>!Srt.lt x e[a]!) e u j/\Fx (· =S) h c/\F=k) j
       ⟨j,aA rfl,om,A9,rfl,F9,rfl⟩ ?_
      rintro F m G ⟨k,⟨g,rfl⟩,a7,n,o,Fs,a3⟩
      subst a3
      by_cases l:((u:Nat):Int)<=(F:Int)
      ·have q:=bM l
       obtain⟨k,rfl⟩: ∃k,F=k+1:=⟨F- 1,om⟩
       have eK:((k+1:Nat):Int)- 1=(k:Int):=om
       have a6:=n.size
       have J:=n.rd (i:=k+1) om
       have L:=n.rd (i:=a) om
       simp(disch:=omega)only[go_sem,q,J,L]
       refine (srt_cmp n (i:=k+1) (j:=a) om om _ om).mono ?_
       rintro _ P ⟨z,rfl,Y,y⟩
       have s:Fr G P:=Fr.trans ((Fr.refl G).bN om) y
       have t:=n.fr s
       have r:=fxt Fs (Fx.of s)
       cases hl:Srt.lt e[k+1]! e[a]! with
       |true=>
        rw[scD_f (λc=>by have:=c.2;simp [hl] at this)] at o;simp(disch:=omega)only[go_sem,Y,hl];exact⟨by rw[←o];exact aA rfl,t,r⟩
       |false=>
        rw[scD_t om (by simp [hl])] at o;simp(disch:=omega)only[go_sem,Y,hl,eK];exact⟨k,om,k,aA rfl,om,t,o,r,rfl⟩
      ·have q:=bJ l
       rw[scD_f (λc=>l (by have:=c.1;omega))] at o
       simp(disch:=omega)only[go_sem,q]
       exact⟨by rw[←o];exact aA rfl,n.fr ((Fr.refl G).bN om),fxt Fs (Fx.of ((Fr.refl G).bN om))⟩
     ·rintro m h4 ⟨⟨g,rfl⟩,A4,F4⟩
      have a4:=scanDown_le (λx=>!Srt.lt x e[a]!) e u j
      obtain⟨w,hw⟩: ∃x,scanDown (λx=>!Srt.lt x e[a]!) e u j=x:=⟨_,rfl⟩
      rw[hw] at a4
      rw[hw]
      rw[hu,hw] at hL
      have c:=A4.size
      by_cases Q:(w:Int)<(u:Int)
      ·have q:=bM Q
       rw[aV om] at hL
       simp(disch:=omega)only[go_sem,q]
       rw[←hL]
       exact⟨aA rfl,A4,om,F4⟩
      have q:=bJ Q
      rw[aZ om] at hL
      have J:=A4.rd (i:=u) om
      have L:=A4.rd (i:=w) om
      have ei:(u:Int)+1=((u+1:Nat):Int):=om
      have ej:(w:Int)- 1=((w- 1:Nat):Int):=om
      simp(disch:=omega)only[go_sem,q,J,L,A4.get,put_cont,put_cont',ei,ej]
      have W:=A4.swap (i:=u) (j:=w) (nx:=h4.next+16) om rfl
      exact⟨w- 1,om,u+1,w- 1,_,aA rfl,om,om,om,W.1,hL,fxt F4 W.2,rfl⟩
   ·rintro m h5 ⟨⟨g,rfl⟩,A5,a0,F5⟩
    generalize partLoop Srt.lt a (p+1) (B- 1) e0=r at hP A5 a0
    obtain⟨m,c⟩:=r
    have a0:m<b:=a0
    have A5:Arr h5 S N c:=A5
    have c:=A5.size
    have J:=A5.rd (i:=m) om
    have L:=A5.rd (i:=a) om
    simp(disch:=omega)only[go_sem,J,L,A5.get,put_cont,put_cont']
    have W:=A5.swap (i:=m) (j:=a) (nx:=h5.next+16) om rfl
    rw[hP]
    exact⟨rfl,W.1,fxt F5 W.2⟩
theorem partEq_ok {α:Type}[Inhabited α][O:Srt α](h:H)(S N a b pv:Nat)(d:Array α)(K:mF)(hN:N<1000000)(A:Arr h S N d)(hb:b<=N)(a5:a<=pv)(a6:pv<b):
  Ev T 145 [.sl S 0 N K,aB a,aB b,aB pv,.fn (Srt.f α) [] []] h (λv h'=>v= aB ((partitionEqual Srt.lt d a b pv).1:Nat)/\Arr h' S N (partitionEqual Srt.lt d a b pv).2/\Fx (· =S) h h'):=by
 refine bH c_slices_partitionEqualCmpFunc_classes_class rfl rfl ?_
 have sz:=A.size
 have G:=A.rd (i:=a) om
 have J:=A.rd (i:=pv) om
 simp(disch:=omega)only[go_sem,c_slices_partitionEqualCmpFunc_classes_class,aF,G,J,A.get,put_cont,put_cont']
 have W:=A.swap (i:=a) (j:=pv) (nx:=h.next+16) om rfl
 obtain⟨h1,R⟩: ∃h1,h1=((H.mk h.tr (h.next+16)).set S (bW (flat (d.setIfInBounds a d[pv]!).toList))).set S (bW (flat ((d.setIfInBounds a d[pv]!).setIfInBounds pv d[a]!).toList)):=⟨_,rfl⟩
 rw[←R] at W ⊢
 obtain⟨A1,F1⟩:=W
 have eb:(b:Int)- 1=((b- 1:Nat):Int):=om
 have ea:(a:Int)+1=((a+1:Nat):Int):=om
 unfold partitionEqual
 obtain⟨P,he⟩: ∃e,swp d a pv=e:=⟨_,rfl⟩
 rw[he] at A1 ⊢
 clear R G J A
 simp(disch:=omega)only[go_sem,ea,eb]
 refine bX (λy c=>(∃g:Nat->V,y= [.sl S 0 N K,aB a,aB b,aB pv,.fn (Srt.f α) [] [],g 5,aB (((partEqLoop Srt.lt a (a+1) (b- 1) P).1:Nat):Int),g 7,g 8,g 9,g 10])/\Arr c S N (partEqLoop Srt.lt a (a+1) (b- 1) P).2/\Fx (· =S) h c) ?_ ?_
 ·refine aH (λr y c=> ∃(i j:Nat) (e:Array α),(∃g:Nat->V,y= [.sl S 0 N K,aB a,aB b,aB pv,.fn (Srt.f α) [] [],g 5,aB i,aB j,g 8,g 9,g 10])/\a<i/\i<=b+1/\j<b/\Arr c S N e/\partEqLoop Srt.lt a i j e=partEqLoop Srt.lt a (a+1) (b- 1) P/\Fx (· =S) h c/\r=j) (b- 1)
   ⟨a+1,b- 1,P,aA rfl,om,om,om,A1,rfl,F1,rfl⟩ ?_
  obtain⟨R,R⟩:=JR (partEqLoop Srt.lt a (a+1) (b- 1) P)
  rw[R]
  clear R F1 A1 h1 he P
  rintro r l P ⟨i,j,e,⟨g,rfl⟩,P,P,P,A3,Q,F3,Y⟩
  rw[partEqLoop_eq] at Q
  simp(disch:=omega)only[go_sem]
  refine bX (λy c=>(∃g:Nat->V,y= [.sl S 0 N K,aB a,aB b,aB pv,.fn (Srt.f α) [] [],g 5,aB (scanUp (λx=>!Srt.lt e[a]! x) e j i:Nat),aB (j:Nat),g 8,g 9,g 10])/\Arr c S N e/\Fx (· =S) h c) ?_ ?_
  ·refine aH (λr y c=> ∃(k:Nat),(∃g:Nat->V,y= [.sl S 0 N K,aB a,aB b,aB pv,.fn (Srt.f α) [] [],g 5,aB (k:Nat),aB (j:Nat),g 8,g 9,g 10])/\i<=k/\k<=N+2/\Arr c S N e/\scanUp (λx=>!Srt.lt e[a]! x) e j k=scanUp (λx=>!Srt.lt e[a]! x) e j i/\Fx (· =S) h c/\r=j+1-k) (j+1-i)
    ⟨i,aA rfl,om,om,A3,rfl,F3,rfl⟩ ?_
   rintro r l F ⟨k,⟨g,rfl⟩,a3,P,n,o,Fs,rfl⟩
   by_cases m:(k:Int)<=((j:Nat):Int)
   ·have s:=bM m
    have eK:(k:Int)+1=((k+1:Nat):Int):=om
    have a1:=n.size
    have G:=n.rd (i:=k) om
    have J:=n.rd (i:=a) om
    simp(disch:=omega)only[go_sem,s,G,J]
    refine (srt_cmp n (i:=a) (j:=k) om om _ om).mono ?_
    rintro _ L ⟨z,rfl,U,B⟩
    have q:Fr F L:=Fr.trans ((Fr.refl F).bN om) B
    have t:=n.fr q
    have p:=fxt Fs (Fx.of q)
    cases hl:Srt.lt e[a]! e[k]! with
    |true=>
     rw[scU_f (λc=>by have:=c.2;simp [hl] at this)] at o;simp(disch:=omega)only[go_sem,U,hl];exact⟨by rw[←o];exact aA rfl,t,p⟩
    |false=>
     rw[scU_t om (by simp [hl])] at o;simp(disch:=omega)only[go_sem,U,hl,eK];exact⟨j+1-(k+1),om,k+1,aA rfl,om,om,t,o,p,rfl⟩
   ·have s:=bJ m
    rw[scU_f (λc=>m (by have:=c.1;omega))] at o
    simp(disch:=omega)only[go_sem,s]
    exact⟨by rw[←o];exact aA rfl,n.fr ((Fr.refl F).bN om),fxt Fs (Fx.of ((Fr.refl F).bN om))⟩
  ·rintro l P ⟨⟨g,rfl⟩,A9,F9⟩
   have a2:=scanUp_ge (λx=>!Srt.lt e[a]! x) e j i
   have a0:=scanUp_hi (λx=>!Srt.lt e[a]! x) e j i
   obtain⟨u,hu⟩: ∃x,scanUp (λx=>!Srt.lt e[a]! x) e j i=x:=⟨_,rfl⟩
   rw[hu] at a2 a0
   rw[hu]
   simp(disch:=omega)only[go_sem]
   refine bX (λy c=>(∃g:Nat->V,y= [.sl S 0 N K,aB a,aB b,aB pv,.fn (Srt.f α) [] [],g 5,aB (u:Nat),aB (scanDown (λx=>Srt.lt e[a]! x) e u j:Nat),g 8,g 9,g 10])/\Arr c S N e/\Fx (· =S) h c) ?_ ?_
   ·refine aH (λr y c=> ∃(k:Nat),(∃g:Nat->V,y= [.sl S 0 N K,aB a,aB b,aB pv,.fn (Srt.f α) [] [],g 5,aB (u:Nat),aB (k:Nat),g 8,g 9,g 10])/\k<=j/\Arr c S N e/\scanDown (λx=>Srt.lt e[a]! x) e u k=scanDown (λx=>Srt.lt e[a]! x) e u j/\Fx (· =S) h c/\r=k) j
     ⟨j,aA rfl,om,A9,rfl,F9,rfl⟩ ?_
    rintro r l F ⟨k,⟨g,rfl⟩,a3,n,o,Fs,Y⟩
    subst Y
    by_cases m:((u:Nat):Int)<=(r:Int)
    ·have s:=bM m
     obtain⟨k,rfl⟩: ∃k,r=k+1:=⟨r- 1,om⟩
     have eK:((k+1:Nat):Int)- 1=(k:Int):=om
     have a1:=n.size
     have G:=n.rd (i:=k+1) om
     have J:=n.rd (i:=a) om
     simp(disch:=omega)only[go_sem,s,G,J]
     refine (srt_cmp n (i:=a) (j:=k+1) om om _ om).mono ?_
     rintro _ L ⟨z,rfl,U,B⟩
     have q:Fr F L:=Fr.trans ((Fr.refl F).bN om) B
     have t:=n.fr q
     have p:=fxt Fs (Fx.of q)
     cases hl:Srt.lt e[a]! e[k+1]! with
     |false=>
      rw[scD_f (λc=>by have:=c.2;simp [hl] at this)] at o;simp(disch:=omega)only[go_sem,U,hl];exact⟨by rw[←o];exact aA rfl,t,p⟩
     |true=>
      rw[scD_t om (by simp [hl])] at o;simp(disch:=omega)only[go_sem,U,hl,eK];exact⟨k,om,k,aA rfl,om,t,o,p,rfl⟩
    ·have s:=bJ m
     rw[scD_f (λc=>m (by have:=c.1;omega))] at o
     simp(disch:=omega)only[go_sem,s]
     exact⟨by rw[←o];exact aA rfl,n.fr ((Fr.refl F).bN om),fxt Fs (Fx.of ((Fr.refl F).bN om))⟩
   ·rintro l h4 ⟨⟨g,rfl⟩,A4,F4⟩
    have a4:=scanDown_le (λx=>Srt.lt e[a]! x) e u j
    obtain⟨w,hw⟩: ∃x,scanDown (λx=>Srt.lt e[a]! x) e u j=x:=⟨_,rfl⟩
    rw[hw] at a4
    rw[hw]
    rw[hu,hw] at Q
    have c:=A4.size
    by_cases Z:(w:Int)<(u:Int)
    ·have s:=bM Z
     rw[aV om] at Q
     simp(disch:=omega)only[go_sem,s]
     rw[←Q]
     exact⟨aA rfl,A4,F4⟩
    have s:=bJ Z
    rw[aZ om] at Q
    have G:=A4.rd (i:=u) om
    have J:=A4.rd (i:=w) om
    have e:(u:Int)+1=((u+1:Nat):Int):=om
    have c:(w:Int)- 1=((w- 1:Nat):Int):=om
    simp(disch:=omega)only[go_sem,s,G,J,A4.get,put_cont,put_cont',e,c]
    have W:=A4.swap (i:=u) (j:=w) (nx:=h4.next+16) om rfl
    exact⟨w- 1,om,u+1,w- 1,_,aA rfl,om,om,om,W.1,Q,fxt F4 W.2,rfl⟩
 ·rintro l c ⟨⟨g,rfl⟩,e,c⟩
  simp(disch:=omega)only[go_sem]
  exact⟨e,c⟩
end
def PdqC  {α:Type}[Inhabited α][O:Srt α](n:Nat):Prop:= ∀(h:H) (S N a b:Nat) (lim:Int) (d:Array α) (cp:mF),N<60000->Arr h S N d->a<=b->b<=N->b-a<=n->0<=lim->lim<1000000->Below Srt.lt a b d->
 Ev T 113 [.sl S 0 N cp,aB a,aB b,aB lim,.fn (Srt.f α) [] []] h (λ_ h'=> ∃e,Arr h' S N e/\PermIn a b d e/\SortedIn Srt.lt a b e/\Fx (· =S) h h')
theorem pdq_ok  {α:Type}[Inhabited α][O:Srt α](n:Nat)(ih: ∀m,m<n->PdqC (α:=α) m):PdqC (α:=α) n:=by
 intro h S N a b x d s hN A a4 a7 hn w u hB;refine bH c_slices_pdqsortCmpFunc_classes_class rfl rfl ?_;simp(disch:=omega)only[go_sem,c_slices_pdqsortCmpFunc_classes_class,aF]
 refine aH (λk' B W=> ∃(c l:Nat) (l':Int) (U wp:Bool) (e:Array α),(∃g:Nat->V,B= [.sl S 0 N s,aB (c:Int),aB (l:Int),aB l',.fn (Srt.f α) [] [],.bool U,.bool wp,g 7,g 8,g 9,g 10,g 11,g 12,g 13,g 14,g 15,g 16,g 17,g 18,g 19,g 20,g 21,g 22,g 23])/\c<=l/\l<=N/\a<=c/\l<=b/\0<=l'/\l'<1000000/\Below Srt.lt c l e/\Arr W S N e/\Fx (· =S) h W/\
   (∀R,PermIn c l e R->SortedIn Srt.lt c l R->PermIn a b d R/\SortedIn Srt.lt a b R)/\k'=l-c) (b-a)
  ⟨a,b,x,true,true,d,aA rfl,a4,a7,eS _,eS _,w,u,hB,A,Fx.refl _ h,λR h1 h2=>⟨h1,h2⟩,rfl⟩ ?_
 clear A hB w u;rintro k' B h1 ⟨c,l,l',U,wp,e,⟨g,rfl⟩,y,o,a6,a2,w,u,hB,A,F,K,rfl⟩;obtain⟨m,a⟩:=JR (l-c);have d:(l:Int)-(c:Int)=(m:Int):=om
 have ez: ∀{x:Array α} {hx:H},Arr hx S N x->l<=x.size:=λA=>by rw[A.size];exact o
 by_cases a:(m:Int)<=12
 ·have Y:=bM a
  simp(disch:=omega)only[go_sem,d,Y];refine (insertion_ok h1 S N c l e s om A o y).mono ?_;rintro _ h2 ⟨A2,F2⟩;obtain⟨b,p2⟩:=insertionSort_holds (Srt.swo (α:=α)) e c l y (ez A);obtain⟨q1,q2⟩:=K _ b p2;simp(disch:=omega)only[go_sem];exact⟨_,A2,q1,q2,fxt F F2⟩
 have Y:=bJ a
 by_cases hl:l'=0
 ·have z:=bM hl
  simp(disch:=omega)only[go_sem,d,Y,z];refine (heapSort_ok h1 S N c l e s om A o y).mono ?_;rintro _ h2 ⟨A2,F2⟩;obtain⟨b,p2⟩:=heapSort_holds (Srt.swo (α:=α)) e c l y (ez A);obtain⟨q1,q2⟩:=K _ b p2;simp(disch:=omega)only[go_sem];exact⟨_,A2,q1,q2,fxt F F2⟩
 have z:=bJ hl;simp(disch:=omega)only[go_sem,d,Y,z];refine kE (λZ W=> ∃(z:Array α) (G:Int) (g:Nat->V),Z= [.sl S 0 N s,aB (c:Int),aB (l:Int),aB G,.fn (Srt.f α) [] [],.bool U,.bool wp,aB m,g 8,g 9,g 10,g 11,g 12,g 13,g 14,g 15,g 16,g 17,g 18,g 19,g 20,g 21,g 22,g 23]/\0<=G/\G<1000000/\Arr W S N z/\PermIn c l e z/\Fx (· =S) h W) ?_ ?_
 ·cases U with
  |true=>
   simp(disch:=omega)only[go_sem];exact .inl ⟨e,l',_,(aA rfl: ∃g:Nat->V,_= [.sl S 0 N s,aB (c:Int),aB (l:Int),aB l',.fn (Srt.f α) [] [],.bool true,.bool wp,aB m,g 8,g 9,g 10,g 11,g 12,g 13,g 14,g 15,g 16,g 17,g 18,g 19,g 20,g 21,g 22,g 23]).choose_spec,w,u,A,permIn_refl e c l,F⟩
  |false=>
   simp(disch:=omega)only[go_sem];refine (break_ok h1 S N c l e s hN A o y).mono ?_;rintro _ h2 ⟨z,A2,p2,F2⟩;simp(disch:=omega)only[go_sem];exact .inl ⟨z,l'- 1,_,(aA rfl: ∃g:Nat->V,_= [.sl S 0 N s,aB (c:Int),aB (l:Int),aB (l'- 1),.fn (Srt.f α) [] [],.bool false,.bool wp,aB m,g 8,g 9,g 10,g 11,g 12,g 13,g 14,g 15,g 16,g 17,g 18,g 19,g 20,g 21,g 22,g 23]).choose_spec,om,om,A2,p2,fxt F F2⟩
 clear A F w u hl z g;rintro B h2 ⟨z,G,g,rfl,w,u,A,P2,F⟩;have B2:=hB.perm (by rw[←P2.1];exact ez A) P2;simp(disch:=omega)only[go_sem];refine (pivot_ok h2 S N c l z s om A o om).mono ?_;rintro _ h3 ⟨p,t,rfl,P,Q,f3⟩;have A3:=A.fr f3;have F3:=fxt F (Fx.of f3);clear A F;simp(disch:=omega)only[go_sem];refine kE (λZ W=> ∃(e3:Array α) (p2:Nat) (t2:Int) (g:Nat->V),Z= [.sl S 0 N s,aB (c:Int),aB (l:Int),aB G,.fn (Srt.f α) [] [],.bool U,.bool wp,aB m,aB p2,aB t2,g 10,g 11,g 12,g 13,g 14,g 15,g 16,g 17,g 18,g 19,g 20,g 21,g 22,g 23]/\c<=p2/\p2<l/\Arr W S N e3/\PermIn c l z e3/\Fx (· =S) h W) ?_ ?_
 ·refine bB (λht=>?_) (λht=>?_)
  ·simp(disch:=omega)only[go_sem]
   refine (reverse_ok h3 S N c l z s om A3 o om).mono ?_;rintro _ h4 ⟨A4,F4⟩;have e5:(l:Int)- 1-((p:Int)-(c:Int))=(((l- 1)-(p-c):Nat):Int):=om
   simp(disch:=omega)only[go_sem,e5];exact .inl ⟨_,(l- 1)-(p-c),1,_,(aA rfl: ∃g:Nat->V,_= [.sl S 0 N s,aB (c:Int),aB (l:Int),aB G,.fn (Srt.f α) [] [],.bool U,.bool wp,aB m,aB ((l- 1)-(p-c):Nat),aB 1,g 10,g 11,g 12,g 13,g 14,g 15,g 16,g 17,g 18,g 19,g 20,g 21,g 22,g 23]).choose_spec,om,om,A4,reverseRange_holds z c l y (ez A3),fxt F3 F4⟩
  ·simp(disch:=omega)only[go_sem]
   exact .inl ⟨z,p,t,_,(aA rfl: ∃g:Nat->V,_= [.sl S 0 N s,aB (c:Int),aB (l:Int),aB G,.fn (Srt.f α) [] [],.bool U,.bool wp,aB m,aB p,aB t,g 10,g 11,g 12,g 13,g 14,g 15,g 16,g 17,g 18,g 19,g 20,g 21,g 22,g 23]).choose_spec,P,Q,A3,permIn_refl z c l,F3⟩
 have a1:=ez A3;clear A3 F3 P Q f3 p t g;rintro B h4 ⟨e3,p,t,g,rfl,P,Q,A,P3,F⟩;have B3:=B2.perm a1 P3;have a0:=permIn_trans _ _ _ c l P2 P3;have a5:l<=z.size:=a1;clear a1 B2 hB;refine zN (λZ W=> ∃(J:Array α) (g:Nat->V),Z= [.sl S 0 N s,aB (c:Int),aB (l:Int),aB G,.fn (Srt.f α) [] [],.bool U,.bool wp,aB m,aB p,g 9,g 10,g 11,g 12,g 13,g 14,g 15,g 16,g 17,g 18,g 19,g 20,g 21,g 22,g 23]/\Arr W S N J/\PermIn c l e J/\Below Srt.lt c l J/\Fx (· =S) h W) ?_ ?_
 ·have skip: ∀(Z:List V),(∃g:Nat->V,Z= [.sl S 0 N s,aB (c:Int),aB (l:Int),aB G,.fn (Srt.f α) [] [],.bool U,.bool wp,aB m,aB p,g 9,g 10,g 11,g 12,g 13,g 14,g 15,g 16,g 17,g 18,g 19,g 20,g 21,g 22,g 23])-> ∃(J:Array α) (g:Nat->V),Z= [.sl S 0 N s,aB (c:Int),aB (l:Int),aB G,.fn (Srt.f α) [] [],.bool U,.bool wp,aB m,aB p,g 9,g 10,g 11,g 12,g 13,g 14,g 15,g 16,g 17,g 18,g 19,g 20,g 21,g 22,g 23]/\Arr h4 S N J/\PermIn c l e J/\Below Srt.lt c l J/\Fx (· =S) h h4:=λZ ⟨g,a⟩=>⟨e3,g,a,A,a0,B3,F⟩
  have run: ∀g:Nat->V,Ev T 144 [.sl S 0 N s,aB (c:Int),aB (l:Int),.fn (Srt.f α) [] []] h4 (λv b=> ∃r:Array α×Bool,v= .bool r.2/\Arr b S N r.1/\Fx (· =S) h4 b/\PermIn c l e3 r.1/\(r.2=true->SortedIn Srt.lt c l r.1)):=λ_=>by
   refine (partial_ok h4 S N c l e3 s om A o om).mono ?_;rintro v h5 ⟨a,A5,F5⟩;obtain⟨q1,q2⟩:=partialInsertionSort_holds (Srt.swo (α:=α)) e3 c l om (ez A) B3;exact⟨_,a,A5,F5,q1,q2⟩
  cases U with
  |false=>
   simp(disch:=omega)only[go_sem];exact .inl (skip _ (aA rfl))
  |true=>cases wp with
   |false=>
    simp(disch:=omega)only[go_sem]
    exact .inl (skip _ (aA rfl))
   |true=>
    simp(disch:=omega)only[go_sem]
    refine bB (λht=>?_) (λht=>?_)
    ·simp(disch:=omega)only[go_sem]
     refine (run g).mono ?_
     rintro v h5 ⟨⟨e5,r5⟩,rfl,A5,F5,q1,q2⟩
     have A5:Arr h5 S N e5:=A5
     have q1:PermIn c l e3 e5:=q1
     have P5:=permIn_trans _ _ _ c l a0 q1
     cases r5 with
     |false=>
      simp(disch:=omega)only[go_sem];exact .inl ⟨e5,_,(aA rfl: ∃g:Nat->V,_= [.sl S 0 N s,aB (c:Int),aB (l:Int),aB G,.fn (Srt.f α) [] [],.bool true,.bool true,aB m,aB p,g 9,g 10,g 11,g 12,g 13,g 14,g 15,g 16,g 17,g 18,g 19,g 20,g 21,g 22,g 23]).choose_spec,A5,P5,B3.perm (ez A) q1,fxt F F5⟩
     |true=>
      obtain⟨w1,w2⟩:=K _ P5 (q2 rfl);simp(disch:=omega)only[go_sem];exact .inr ⟨by simp,e5,A5,w1,w2,fxt F F5⟩
    ·simp(disch:=omega)only[go_sem]
     exact .inl (skip _ (aA rfl))
 clear A P3 a0 B3 F P2 a5 e3 z;rintro B h5 ⟨J,g,rfl,A,P4,B4,F⟩;have a3:=ez A;refine zN (λZ W=> ∃(g:Nat->V),Z= [.sl S 0 N s,aB (c:Int),aB (l:Int),aB G,.fn (Srt.f α) [] [],.bool U,.bool wp,aB m,aB p,g 9,g 10,g 11,g 12,g 13,g 14,g 15,g 16,g 17,g 18,g 19,g 20,g 21,g 22,g 23]/\Arr W S N J/\Fx (· =S) h W) ?_ ?_
 ·by_cases h0:(0:Int)<(c:Int)
  case neg=>
   have Y:=bJ h0;simp(disch:=omega)only[go_sem,Y];exact .inl ⟨_,(aA rfl: ∃g:Nat->V,_= [.sl S 0 N s,aB (c:Int),aB (l:Int),aB G,.fn (Srt.f α) [] [],.bool U,.bool wp,aB m,aB p,g 9,g 10,g 11,g 12,g 13,g 14,g 15,g 16,g 17,g 18,g 19,g 20,g 21,g 22,g 23]).choose_spec,A.fr ((Fr.refl h5).bN om),fxt F (Fx.of ((Fr.refl h5).bN om))⟩
  have Y:=bM h0;have a:(c:Int)- 1=((c- 1:Nat):Int):=om
  have b:=A.rd (i:=c- 1) om;have d:=A.rd (i:=p) om;simp(disch:=omega)only[go_sem,Y,a,b,d];refine (srt_cmp A (i:=c- 1) (j:=p) om om _ om).mono ?_;rintro _ h6 ⟨z,rfl,hz,a⟩;have b:Fr h5 h6:=Fr.trans ((Fr.refl h5).bN om) a;have A6:=A.fr b;have F6:=fxt F (Fx.of b)
  cases hl:Srt.lt J[c- 1]! J[p]! with
  |true=>
   simp(disch:=omega)only[go_sem,hz,hl];exact .inl ⟨_,(aA rfl: ∃g:Nat->V,_= [.sl S 0 N s,aB (c:Int),aB (l:Int),aB G,.fn (Srt.f α) [] [],.bool U,.bool wp,aB m,aB p,g 9,g 10,g 11,g 12,g 13,g 14,g 15,g 16,g 17,g 18,g 19,g 20,g 21,g 22,g 23]).choose_spec,A6,F6⟩
  |false=>
   obtain⟨w1,w2,w3,w4,w5⟩:=round_eq (Srt.swo (α:=α)) (partitionEqual_holds Srt.lt) om P Q a3 B4 hl (Prod.eta (partitionEqual Srt.lt J c l p)).symm;simp(disch:=omega)only[go_sem,hz,hl];refine (partEq_ok h6 S N c l p J s om A6 o P Q).mono ?_;rintro _ h7 ⟨rfl,A7,F7⟩;simp(disch:=omega)only[go_sem];refine .inr ⟨by simp,l-(partitionEqual Srt.lt J c l p).1,om,(partitionEqual Srt.lt J c l p).1,l,G,U,wp,_,aA rfl,w2,o,om,a2,w,u,w4,A7,fxt F6 F7,λR r1 r2=>?_,rfl⟩;obtain⟨t1,t2⟩:=w5 R r1 r2;exact K R (permIn_trans _ _ _ c l P4 t1) t2
 clear A F;rintro B h6 ⟨g,rfl,A,F⟩;have e8:=tdivN m (k:=8) (m:=8) rfl;simp(disch:=omega)only[go_sem];refine (partition_ok h6 S N c l p J s om A o P Q).mono ?_;obtain⟨r,a⟩:=JR (partition Srt.lt J c l p);rw[a];obtain⟨q,ap,e5⟩:=r;obtain⟨w1,w2,w3,w4,w5,w6,w7⟩:=round_part (Srt.swo (α:=α)) (partition_holds Srt.lt) P Q a3 B4 a;rintro _ h7 ⟨rfl,A7,F7⟩;have A7:Arr h7 S N e5:=A7;have F7:=fxt F F7;have el:(q:Int)-(c:Int)=((q-c:Nat):Int):=om
 have a:(l:Int)-(q:Int)=((l-q:Nat):Int):=om
 have Y:(q:Int)+1=((q+1:Nat):Int):=om
 simp(disch:=omega)only[go_sem,el,a,e8];refine bB (λht=>?_) (λht=>?_)
 ·simp(disch:=omega)only[go_sem]
  refine (ih (q-c) om h7 S N c q G e5 s hN A7 w1 om (eS _) w u w4).mono ?_;rintro _ h8 ⟨L,A8,p8,s8,F8⟩;obtain⟨u1,u2⟩:=w6 L p8 s8;simp(disch:=omega)only[go_sem,Y];refine⟨l-(q+1),om,q+1,l,G,_,ap,L,aA rfl,om,o,om,a2,w,u,u1,A8,fxt F7 F8,λR r1 r2=>?_,rfl⟩;obtain⟨t1,t2⟩:=u2 R r1 r2;exact K R (permIn_trans _ _ _ c l P4 t1) t2
 ·simp(disch:=omega)only[go_sem,Y]
  refine (ih (l-(q+1)) om h7 S N (q+1) l G e5 s hN A7 om o (eS _) w u w5).mono ?_;rintro _ h8 ⟨L,A8,p8,s8,F8⟩;obtain⟨u1,u2⟩:=w7 L p8 s8;simp(disch:=omega)only[go_sem];refine⟨q-c,om,c,q,G,_,ap,L,aA rfl,om,om,a6,om,w,u,u1,A8,fxt F7 F8,λR r1 r2=>?_,rfl⟩;obtain⟨t1,t2⟩:=u2 R r1 r2;exact K R (permIn_trans _ _ _ c l P4 t1) t2
theorem pdq_all  {α:Type}[Inhabited α][O:Srt α](n:Nat):PdqC (α:=α) n:=by
 induction n using Nat.strongRecOn with
 |_ n ih=>exact pdq_ok n  ih
theorem sortFunc_ok {α:Type}[Inhabited α][O:Srt α](h:H)(S N:Nat)(d:Array α)(a:mF)(b:N<60000)(A:Arr h S N d):
  Ev T 88 [.sl S 0 N a,.fn (Srt.f α) [] []] h (λ_ h'=> ∃e,Arr h' S N e/\PermIn 0 N d e/\SortedIn Srt.lt 0 N e/\Fx (· =S) h h'):=by
 refine bH c_slices_SortFunc_classes_class_classes_class rfl rfl ?_
 have i:bitsLen N<=16:=(bitsLen_le_iff _ 16).2 om
 simp(disch:=omega)only[go_sem,c_slices_SortFunc_classes_class_classes_class,aF,wrap_u64_in (n:=(N:Int)) om om]
 refine (len_ok N h om).mono ?_
 rintro _ c ⟨rfl,g⟩
 subst g
 simp(disch:=omega)only[go_sem]
 refine (pdq_all N c S N 0 N _ d a b A om om om om om (.inl rfl)).mono ?_
 rintro _ c ⟨e,c,p,s,F⟩
 simp(disch:=omega)only[go_sem]
 exact⟨e,c,p,s,F⟩
theorem isNaN_int (a:Int)(h:H):Ev T 147 [aB a] h (λv h'=>v= .bool false/\h'=h):=by
 refine bH c_cmp_isNaN_int rfl rfl ?_;have e:decide (a≠a)=false:=bJ om;simp(disch:=omega)only[go_sem,c_cmp_isNaN_int,aF,e]
def cmpI (a b:Int):Int:=if a<b then -1 else if b<a then 1 else 0
theorem compare_ok (a b:Int)(h:H):Ev T 114 [aB a,aB b] h (λv h'=>v= aB (cmpI a b)/\Fr h h'):=by
 refine bH c_cmp_Compare_int rfl rfl ?_;simp(disch:=omega)only[go_sem,c_cmp_Compare_int,aF];refine (isNaN_int a h).mono ?_;rintro _ c ⟨rfl,rfl⟩;simp(disch:=omega)only[go_sem];refine (isNaN_int b c).mono ?_;rintro _ d ⟨rfl,rfl⟩;simp(disch:=omega)only[go_sem];unfold cmpI
 by_cases c:a<b
 ·have d:=bM c
  simp(disch:=omega)only[go_sem,d,aV c];exact Fr.refl _
 ·have d:=bJ c
  by_cases e:b<a
  ·have f:=bM e
   simp(disch:=omega)only[go_sem,d,f,aZ c,aV e];exact Fr.refl _
  ·have f:=bJ e
   simp(disch:=omega)only[go_sem,d,f,aZ c,aZ e];exact Fr.refl _
def orI:List Int->Int
 | []=>0
 |x::r=>if x=0 then orI r else x
theorem orI_drop {l:List Int}{i:Nat}(hi:i<l.length)(h:l.getD i 0=0):orI (l.drop i)=orI (l.drop (i+1)):=by
 rw[Ts hi];show (if l[i]=0 then _ else _)=_;rw[aV (by rw[List.getD,eV hi] at h;exact h)]
theorem orI_hit {l:List Int}{i:Nat}(hi:i<l.length)(h:l.getD i 0≠0):orI (l.drop i)=l.getD i 0:=by
 rw[Ts hi];show (if l[i]=0 then _ else l[i])=_;have e:l.getD i 0=l[i]:=by rw[List.getD,eV hi];rfl
 rw[aZ (by rw[←e];exact h),e]
theorem or_ok (u:V)(l:List Int)(h:H)(y:l.length<1000000)(p:SI h u l):Ev T 93 [u] h (λv h'=>v= aB (orI l)/\Fr h h'):=by
 refine bH c_cmp_Or_int rfl rfl ?_;have r:=p.lens;obtain⟨id,j,t,k,q⟩:=p.open;simp(disch:=omega)only[go_sem,c_cmp_Or_int,aF,r];refine aH (λo s r=> ∃(i:Nat),(∃g:Nat->V,s= [u,aB 0,aB 0,g 3,u,aB (l.length:Int),aB i,g 7,g 8])/\i<=l.length/\orI (l.drop i)=orI l/\Fr h r/\o=l.length-i) l.length
   ⟨0,aA rfl,fF _,rfl,Fr.refl h,rfl⟩ ?_
 rintro o o w ⟨i,⟨g,rfl⟩,hi,d,f,rfl⟩
 by_cases b:(i:Int)<(l.length:Int)
 ·have e:=bM b
  have a:i<l.length:=om
  have ci:w.cell id (j+i)=some (aB (l.getD i 0)):=by rw[f.cell (k om),q i a]
  generalize m:l.getD i 0=x at ci;simp(disch:=omega)only[go_sem,e,t.ixa,ci]
  by_cases c:x=0
  ·have n:decide (x≠0)=false:=bJ (by simpa using c)
   simp(disch:=omega)only[go_sem,n];rw[dY i];exact⟨l.length-(i+1),om,i+1,aA rfl,om,by rw[←orI_drop a (m.trans c)];exact d,f.bN om,rfl⟩
  ·have n:=bM c
   simp(disch:=omega)only[go_sem,n];exact⟨by rw[←d,orI_hit a (by rw[m];exact c),m],f.bN om⟩
 have e:=bJ b;obtain rfl:i=l.length:=om
 simp(disch:=omega)only[go_sem,e];rw[List.drop_length] at d;exact⟨by rw[←d];rfl,f⟩
structure KE where
 rep:V
 ord:Nat
 size:Nat
 ranks:V
 fst:Nat
 hrep:rep.cells= [rep]/\rep.one=true/\dJ rep rep=true
 hranks:ranks.cells= [ranks]/\ranks.one=true/\dJ ranks ranks=true
instance:Inhabited KE:=⟨⟨.aD,0,0,.aD,0,⟨rfl,rfl,rfl⟩,⟨rfl,rfl,rfl⟩⟩⟩
def KE.enc (a:KE):List V:= [a.rep,aB (a.ord:Int),aB (a.size:Int),a.ranks]
def KE.cmp (a b:KE):Int:=orI [cmpI a.ord b.ord,cmpI a.size b.size,cmpI a.fst b.fst]
def KE.lt (a b:KE):Bool:=decide (a.cmp b<0)
theorem boxV_enc (a:KE)(h:H):Ck h (.agg a.enc)=some (.ptr h.next 0,h.new (.cells false a.enc)):=rO h _ (by simp [KE.enc,a.hrep.2.1,a.hranks.2.1,show (aB (a.ord:Int)).one=true from rfl,show (aB (a.size:Int)).one=true from rfl])
theorem corder_ok (a b:KE)(h:H):Ev T 90 [.agg a.enc,.agg b.enc] h (λv h'=>v= aB (cmpI a.ord b.ord)/\Fr h h'):=by
 refine bH c_classes_class_order rfl rfl ?_;obtain⟨A,d⟩:=JR h.next;obtain⟨f,j,e,f,l,g⟩:=dN d a.enc;obtain⟨c,m,l,k,n,i⟩:=dN e b.enc;have l:c.get A=some (.cells false a.enc):=by rw[n _ om];exact f
 have o:c.cell A 1=some (aB (a.ord:Int)):=by rw[H.aG l];rfl
 have p:c.cell (A+1) 1=some (aB (b.ord:Int)):=by rw[H.aG k];rfl
 simp(disch:=omega)only[go_sem,c_classes_class_order,aF,boxV_enc,d,j,e,m,o,p];refine (compare_ok _ _ c).mono ?_;rintro _ c ⟨rfl,c⟩;simp(disch:=omega)only[go_sem];exact (g.trans i).trans c
theorem csize_ok (a b:KE)(h:H):Ev T 91 [.agg a.enc,.agg b.enc] h (λv h'=>v= aB (cmpI a.size b.size)/\Fr h h'):=by
 refine bH c_classes_class_size rfl rfl ?_;obtain⟨A,d⟩:=JR h.next;obtain⟨f,j,e,f,l,g⟩:=dN d a.enc;obtain⟨c,m,l,k,n,i⟩:=dN e b.enc;have l:c.get A=some (.cells false a.enc):=by rw[n _ om];exact f
 have o:c.cell A 2=some (aB (a.size:Int)):=by rw[H.aG l];rfl
 have p:c.cell (A+1) 2=some (aB (b.size:Int)):=by rw[H.aG k];rfl
 simp(disch:=omega)only[go_sem,c_classes_class_size,aF,boxV_enc,d,j,e,m,o,p];refine (compare_ok _ _ c).mono ?_;rintro _ c ⟨rfl,c⟩;simp(disch:=omega)only[go_sem];exact (g.trans i).trans c
def KE.At (h:H)(a:KE):Prop:= ∃id off n cap,a.ranks= .sl id off (n+1) cap/\id<h.next/\h.cell id off=some (aB (a.fst:Int))
theorem cfirst_ok (a b:KE)(h:H)(n:a.At h)(O:b.At h):Ev T 92 [.agg a.enc,.agg b.enc] h (λv h'=>v= aB (cmpI a.fst b.fst)/\Fr h h'):=by
 refine bH c_classes_class_first rfl rfl ?_;obtain⟨A,e⟩:=JR h.next;obtain⟨q,J,l,B,q,F⟩:=dN e a.enc;obtain⟨c,w,q,s,z,q⟩:=dN l b.enc;obtain⟨f,m,N,r,L,G,K⟩:=n;obtain⟨k,g,t,x,y,lb,u⟩:=O;have F2:=F.trans q;have q:c.get A=some (.cells false a.enc):=by rw[z _ om];exact B
 have i:c.cell A 3=some a.ranks:=by rw[H.aG q];rfl
 have j:c.cell (A+1) 3=some b.ranks:=by rw[H.aG s];rfl
 rw[L] at i;rw[y] at j;have o:c.cell f m=some (aB (a.fst:Int)):=by rw[F2.cell G];exact K
 have p:c.cell k g=some (aB (b.fst:Int)):=by rw[F2.cell lb];exact u
 simp(disch:=omega)only[go_sem,c_classes_class_first,aF,boxV_enc,e,J,l,w,i,j,o,p];refine (compare_ok _ _ _).mono ?_;rintro _ d ⟨rfl,l⟩;have e:Fr c d:=((Fr.refl c).bN om).trans l;have n:=F2.next;have l:d.cell A 3=some (.sl f m (N+1) r):=by rw[e.cell om];exact i
 have c:d.cell (A+1) 3=some (.sl k g (t+1) x):=by rw[e.cell om];exact j
 have i:d.cell f m=some (aB (a.fst:Int)):=by rw[e.cell om];exact o
 have f:d.cell k g=some (aB (b.fst:Int)):=by rw[e.cell om];exact p
 simp(disch:=omega)only[go_sem,l,c,i,f];exact F2.trans e
theorem row_enc {h:H}{A:Nat}{ro:Bool}{a:KE}(b:h.get A=some (.cells ro a.enc)):h.row A 0 4=some a.enc:=by
 simp [H.row,b,sub,KE.enc]
theorem eqV_ke (a:KE):dJ (.agg a.enc) (.agg a.enc)=true:=by
 show nJ a.enc a.enc=true;simp [KE.enc,nJ,dJ,a.hrep.2.2,a.hranks.2.2]
theorem KE.At.fr {a:KE}{h h':H}(x:a.At h)(f:Fr h h'):a.At h':=by
 obtain⟨j,i,g,c,e,b,d⟩:=x;exact⟨j,i,g,c,e,iP b f.next,by rw[f.cell b];exact d⟩
theorem blsV_three (h:H)(x y z:Int):pG h 1 [aB 0] 3 [(0,1,aB x),(1,1,aB y),(2,1,aB z)]=some (.sl h.next 0 3 (.kn 3),h.new (.cells false (ints [x,y,z]))):=rfl
theorem ccmp_ok (a b:KE)(h:H)(s:a.At h)(F:b.At h):Ev T 89 [.agg a.enc,.agg b.enc] h (λv h'=>v= aB (a.cmp b)/\Fr h h'):=by
 refine bH c_classes_of_1 rfl rfl ?_;obtain⟨A,j⟩:=JR h.next;obtain⟨n,y,n,w,r,x⟩:=dN j a.enc;obtain⟨f,t,r,g,u,r⟩:=dN n b.enc;have F2:=x.trans r;have r:f.get A=some (.cells false a.enc):=by rw[u _ om];exact w
 simp(disch:=omega)only[go_sem,c_classes_of_1,aF,boxV_enc,j,y,n,t,row_enc r,row_enc g,eqV_ke,H.Jj];have j:=F2.next;refine (corder_ok a b _).mono ?_;rintro _ k ⟨rfl,m⟩;have p:Fr f k:=((Fr.refl f).bN om).trans m;have j:k.get (A+1)=some (.cells false b.enc):=by rw[p.get _ om];exact g
 simp(disch:=omega)only[go_sem,row_enc j,eqV_ke];refine (csize_ok a b _).mono ?_;rintro _ G ⟨rfl,q⟩;have i:=p.trans q;have j:G.get (A+1)=some (.cells false b.enc):=by rw[i.get _ om];exact g
 simp(disch:=omega)only[go_sem,row_enc j,eqV_ke];refine (cfirst_ok a b _ (s.fr (F2.trans i)) (F.fr (F2.trans i))).mono ?_;rintro _ d ⟨rfl,j⟩;have l:=i.trans j;have i:d.get (A+1)=some (.cells false b.enc):=by rw[l.get _ om];exact g
 simp(disch:=omega)only[go_sem,row_enc i,eqV_ke];obtain⟨I,i⟩:=JR (f.next+9+9);have n:=j.next;have j:=q.next;have j:f.next+9+12<=k.next:=m.next;simp(disch:=omega)only[go_sem,i,blsV_three]
 obtain⟨e,c⟩: ∃e:H,e=H.mk ((H.mk d.tr I).new (Ob.cells false (ints [cmpI a.ord b.ord,cmpI a.size b.size,cmpI a.fst b.fst]))).tr d.next:=⟨_,rfl⟩
 rw[←c];have j:e.get I=bW (ints [cmpI a.ord b.ord,cmpI a.size b.size,cmpI a.fst b.fst]):=by rw[c];exact H.aN (H.mk d.tr I) _
 have i:e.next=d.next:=by rw[c]
 have m: ∀k,k≠I->e.get k=d.get k:=λk i=>by rw[c];exact H.bL (H.mk d.tr I) (by simpa using i) _
 have z:Fr f e:=⟨by have:=l.next;omega,λk i=>by rw[m k om];exact l.get k i⟩
 refine (or_ok _ [cmpI a.ord b.ord,cmpI a.size b.size,cmpI a.fst b.fst] e (by simp) (SV.all (by simp [aL]) om j _)).mono ?_;rintro _ B ⟨rfl,c⟩;have o:=z.trans c;have c:B.get (A+1)=some (.cells false b.enc):=by rw[o.get _ om];exact g
 simp(disch:=omega)only[go_sem,row_enc c,eqV_ke];exact⟨rfl,F2.trans o⟩
theorem KE.lt_iff (a b:KE):a.lt b=true↔a.ord<b.ord∨a.ord=b.ord/\(a.size<b.size∨a.size=b.size/\a.fst<b.fst):=by
 unfold KE.lt KE.cmp orI orI orI orI cmpI;rw[decide_eq_true_eq]
 repeat' split
 all_goals omega
theorem ke_swo:SWO KE.lt where
 irrefl x:=by rw[←Bool.not_eq_true,KE.lt_iff];omega
 trans x y z h1 h2:=by rw[KE.lt_iff] at*;omega
 ntrans x y z h1 h2:=by rw[←Bool.not_eq_true,KE.lt_iff] at*;omega
def KE.Pp (hB:H)(b0 S:Nat)(a:KE):Prop:= ∃id off n cap,a.ranks= .sl id off (n+1) cap/\id<b0/\id≠S/\hB.cell id off=some (aB (a.fst:Int))
def Bb (hB:H)(b0 S:Nat)(h:H):Prop:=b0<=h.next/\ ∀q,q<b0->q≠S->h.get q=hB.get q
theorem KE.Pp.at {i h:H}{g S:Nat}{a:KE}(p:a.Pp i g S)(b:Bb i g S h):a.At h:=by
 obtain⟨id,c,n,d,e,f,k,j⟩:=p;refine⟨id,c,n,d,e,iP f b.1,?_⟩;rw[←j];unfold H.cell;rw[b.2 id f k]
@[reducible] def srtKE (hB:H)(b0 S:Nat):Srt KE where
 lt:=KE.lt
 enc:=KE.enc
 P:=KE.Pp hB b0 S
 B:=Bb hB b0 S
 f:=89
 b0:=b0
 S:=S
 swo:=ke_swo
 len _:=rfl
 one a:=by simp [KE.enc,a.hrep.2.1,a.hranks.2.1,show (aB (a.ord:Int)).one=true from rfl,show (aB (a.size:Int)).one=true from rfl]
 eqv:=eqV_ke
 cmp h a b hb pa pb:=(ccmp_ok a b h (pa.at hb) (pb.at hb)).mono λv h' ⟨e,f⟩=>⟨_,e,rfl,f⟩
 bfr h h' b f:=⟨jK b.1 f.next,λq h1 h2=>by rw[f.get q (iP h1 b.1)];exact b.2 q h1 h2⟩
 bS h h' b f:=⟨jK b.1 f.next,λq h1 h2=>by rw[f.get q (iP h1 b.1) h2];exact b.2 q h1 h2⟩
 bR h h' R b hR f:=⟨jK b.1 f.next,λq h1 h2=>by rw[f.get q (iP h1 b.1) (λe=>by have:q=R:=e;omega)];exact b.2 q h1 h2⟩
 bn h b:=b.1
theorem arr_list {l:List KE}{N:Nat}(h:l.length=N){e:Array KE}(k:PermIn 0 N l.toArray e)(m:SortedIn KE.lt 0 N e):e.toList.Perm l/\e.toList.Pairwise (λa b=>KE.lt b a=false):=by
 obtain⟨d,c,f⟩:=k;have c:e.size=N:=by rw[d];simpa using h
 refine⟨?_,?_⟩
 ·have d:(e.extract 0 N).toList=e.toList:=by rw[←c];simp
  have g:(l.toArray.extract 0 N).toList=l:=by rw[←h];simp
  rwa [d,g] at f
 ·rw[Ta]
  intro i j hi g f;have d:j<N:=by simpa [c] using g
  have:=m i j (fF _) f d;have d:e[i]! =e.toList[i]:=by simp at hi;simp [hi]
  have c:e[j]! =e.toList[j]:=by simp at g;simp [g]
  rw[d,c] at this;exact this
def kflat (l:List KE):List V:=l.flatMap KE.enc
theorem csort_ok (h:H)(S d:Nat)(l:List KE)(f:mF)(k:l.length<60000)(o:h.get S=bW (kflat l))(m:S<h.next)(q:d<=h.next)(j: ∀a∈l,a.Pp h d S):
  Ev T 88 [.sl S 0 l.length f,.fn 89 [] []] h (λ_ h'=> ∃l',h'.get S=bW (kflat l')/\l'.Perm l/\l'.Pairwise (λa b=>KE.lt b a=false)/\Fx (· =S) h h'):=by
 letI:=srtKE h d S
 have A:Arr h S l.length l.toArray:=⟨o,by simp,m,rfl,⟨q,λ_ _ _=>rfl⟩,λi hi=>by
  have c:i<l.length:=by simpa using hi
  have:l.toArray[i]! =l[i]:=by simp [c]
  rw[this]
  exact j _ (xR c)⟩
 refine (sortFunc_ok h S l.length l.toArray f k A).mono ?_
 rintro _ h' ⟨e,n,p,s,F⟩
 obtain⟨r,g⟩:=arr_list rfl p s
 exact⟨e.toList,n.get,r,g,F⟩
end Go.Proofs.YtapfcpkecmmagaaGreat.Cls
namespace Go.Proofs.YtapfcpkecmmagaaGreat
open Go Go.Ay Go.Pm
set_option maxRecDepth 100000
section
variable {i j p:Nat} {S:LN} {Q:List Nat}
section
variable {n:Nat} {G:List Nat->Prop} {L:LN}
theorem nd_inj {l:LN}(nd:l.Nodup)(hi:i<l.length)(b:j<l.length)(e:l.getD i []=l.getD j []):i=j:=by
 have c:l.getD i []=l[i]:=by rw[List.getD,eV hi];rfl
 have a:l.getD j []=l[j]:=by rw[List.getD,eV b];rfl
 rw[c,a] at e;have h:=Ta.1 nd;rcases Nat.lt_trichotomy i j with a|a|a
 ·exact absurd e (h i j hi b a)
 ·exact a
 ·exact absurd e.symm (h j i b hi a)
def cR (G:List Nat->Prop)(L:LN)(i j:Nat):Prop:=cj G (L.getD i []) (L.getD j [])
open Classical in
noncomputable def orbC (G:List Nat->Prop)(L:LN)(i:Nat):List Nat:=(List.range L.length).filter λj=>decide (cR G L i j)
theorem orbC_mem:j∈orbC G L i↔j<L.length/\cR G L i j:=by
 classical
 unfold orbC;rw[Vz,Db,Co]
theorem orbC_asc (i:Nat):(orbC G L i).Pairwise (· < ·):=by
 classical
 unfold orbC;exact List.Pairwise.filter _ List.pairwise_lt_range
theorem orbC_nodup (i:Nat):(orbC G L i).Nodup:=by
 classical
 unfold orbC;exact List.Pairwise.filter _ List.nodup_range
def isR (G:List Nat->Prop)(L:LN)(i:Nat):Prop:= ∀j,j<i-> ¬cR G L j i
open Classical in
noncomputable def repsC (G:List Nat->Prop)(L:LN)(k:Nat):List Nat:=(List.range k).filter λj=>decide (isR G L j)
theorem repsC_succ (k:Nat):(isR G L k->repsC G L (k+1)=repsC G L k++ [k])/\(¬isR G L k->repsC G L (k+1)=repsC G L k):=by
 classical
 unfold repsC;rw[List.range_succ,List.filter_append];refine⟨λh=>?_,λh=>?_⟩
 ·rw[List.filter_cons_of_pos (by simpa using h)];rfl
 ·rw[List.filter_cons_of_neg (by simpa using h),List.filter_nil,qA]
theorem repsC_mem {k:Nat}:i∈repsC G L k↔i<k/\isR G L i:=by
 classical
 unfold repsC;rw[Vz,Db,Co]
variable (hG:mH n G) (E:eP G L)
include hG E
omit hG in
theorem el_mem (hi:i<L.length):G (L.getD i []):=(E.mem _).1 (getD_mem hi)
theorem el_isP (hi:i<L.length):bV n (L.getD i []):=hG.isP (el_mem E hi)
theorem cR_refl (hi:i<L.length):cR G L i i:=cj_refl hG (el_isP hG E hi)
theorem cR_symm (hi:i<L.length)(h:cR G L i j):cR G L j i:=cj_symm hG (el_isP hG E hi) h
theorem cR_trans {k:Nat}(hi:i<L.length)(h:cR G L i j)(h2:cR G L j k):cR G L i k:=cj_trans hG (el_isP hG E hi) h h2
theorem rep_ex (hi:i<L.length): ∃r,r<=i/\isR G L r/\cR G L r i:=by
 induction i using Nat.strongRecOn with
 |_ i ih=>
  by_cases h:isR G L i
  ·exact⟨i,eS _,h,cR_refl hG E hi⟩
  ·obtain⟨j,b,a⟩: ∃j,j<i/\cR G L j i:=Am λc=>h λj b a=>c ⟨j,b,a⟩
   obtain⟨r,c,d,c⟩:=ih j b om;exact⟨r,om,d,cR_trans hG E om c a⟩
theorem rep_uniq {r s:Nat}(d:r<L.length)(b:s<L.length)(f:isR G L r)(h2:isR G L s)(a:cR G L r i)(c:cR G L s i):r=s:=by
 have e:=cR_trans hG E d a (cR_symm hG E b c);have g:=cR_trans hG E b c (cR_symm hG E d a);rcases Nat.lt_trichotomy r s with h|h|h
 ·exact absurd e (h2 r h)
 ·exact h
 ·exact absurd g (f s h)
omit hG E in
structure BQ (G:List Nat->Prop)(L S:LN)(i:Nat)(Q:List Nat)(p:Nat):Prop where
 nd:Q.Nodup
 ne:0<Q.length
 hd:Q.getD 0 0=i
 mem: ∀j∈Q,j<L.length/\cR G L i j
 cl: ∀k,k<p-> ∀s∈S,∃j∈Q,L.getD j []=conjP (L.getD (Q.getD k 0) []) s
omit hG E in
theorem BQ.len (b:BQ G L S i Q p):Q.length<=L.length:=by
 have h:Q ⊆ List.range L.length:=λj a=>Db.2 (b.mem j a).1
 have:=List.Nodup.length_le_of_subset b.nd h;rwa [zU] at this
theorem BQ.done (b:BQ G L S i Q p)(v:Q.length<=p)(hi:i<L.length)(q: ∀s∈S,G s)(a: ∀x,G x->fE n (λg=>g∈S) x)(j:Nat):j∈Q↔j<L.length/\cR G L i j:=by
 refine⟨b.mem j,λ⟨u,hc⟩=>?_⟩
 have f: ∃k∈Q,L.getD k []=L.getD j []:=by
  refine cj_ind (S:=λg=>g∈S) (λg d=>hG.isP (q g d)) a (P:=λy=> ∃k∈Q,L.getD k []=y) (el_isP hG E hi) ⟨i,by rw[←b.hd];exact getD_mem b.ne,rfl⟩ ?_ hc;rintro y g Y ⟨k,c,rfl⟩ d;obtain⟨t,o,l⟩:=uK.1 c;obtain⟨m,r,h⟩:=b.cl t om g d;have e:Q.getD t 0=k:=by rw[Pm.bT o,l]
  rw[e] at h;exact⟨m,r,h⟩
 obtain⟨k,c,e⟩:=f;have d:=(b.mem k c).1;rw[←nd_inj E.nodup d u e];exact c
theorem BQ.sort (b:BQ G L S i Q p)(d:Q.length<=p)(hi:i<L.length)(f: ∀s∈S,G s)(a: ∀x,G x->fE n (λg=>g∈S) x){c:List Int}(e:c.Perm (zi Q))(h2:c.Pairwise (· <= ·)):c=zi (orbC G L i):=by
 refine asc_perm (e.trans ?_) h2 ?_
 ·refine List.Perm.map _ ((List.perm_ext_iff_of_nodup b.nd (orbC_nodup i)).2 λj=>?_)
  rw[b.done hG E d hi f a j,orbC_mem]
 ·unfold zi
  rw[List.pairwise_map];exact (orbC_asc i).imp λh=>om
theorem orbC_head (hi:i<L.length)(l:isR G L i):0<(orbC G L i).length/\(orbC G L i).getD 0 0=i:=by
 have e:i∈orbC G L i:=orbC_mem.2 ⟨hi,cR_refl hG E hi⟩;have a:=Xn e;refine⟨a,?_⟩;have f:=orbC_mem.1 (getD_mem (d:=0) a);obtain⟨k,h,g⟩:=uK.1 e;have c:=Ta.1 (orbC_asc (G:=G) (L:=L) i);rw[Pm.bT a] at*
 by_cases b:k=0
 ·subst b;exact g
 ·have m:=c 0 k a h om
  exact absurd (cR_symm hG E hi f.2) (l _ om)
end
end
end Go.Proofs.YtapfcpkecmmagaaGreat
namespace Go.Ay
open Go
def My (o:Option Ob)(h:H)(id:Nat)(s:qC)(k y:V):Option (V×H):=match o with
 |some (.wmap sh es)=>if s=sh/\isKey s k=true then
   some (V.undef,h.set id (some (.wmap sh (match fA k es with
    |some e=>es.set e.1 (k,y)
    |none=>es++ [(k,y)]))))
  else none
 |_=>none
def GH (s:qC)(h:H)(x k y:V):Option (V×H):=match x with
 | .mp id=>My (h.get id) h id s k y
 |_=>none
theorem CL (ρ:X->V)(h:H)(s:qC)(x k y:X):cZ ρ h (.msw s x k y)=GH s h (ρ x) (ρ k) (ρ y):=by
 simp only[cZ,GH,My];cases ρ x<;>try rfl
theorem BE (s:qC)(h:H)(id:Nat)(k y:V):GH s h (.mp id) k y=My (h.get id) h id s k y:=rfl
def Cs (o:Option Ob)(s:qC)(zero:V)(ok:Bool)(k:V):Option V:=match o with
 |some (.wmap sh es)=>if s=sh/\isKey s k=true then
   match fA k es with
   |some e=>some (if ok then .tup [e.2,.bool true] else e.2)
   |none=>some (if ok then .tup [zero,.bool false] else zero)
  else none
 |_=>none
def ES (s:qC)(zero:V)(ok:Bool)(h:H)(x k:V):Option V:=match x with
 | .mp id=>Cs (h.get id) s zero ok k
 |_=>none
theorem Hj (ρ:X->V)(h:H)(s:qC)(zero:V)(b:Bool)(x k:X):cZ ρ h (.lkw s zero b x k)=(ES s zero b h (ρ x) (ρ k)).map (·,h):=by
 simp only[cZ,ES,Cs];cases ρ x<;>try rfl
 rename_i id;simp only
 cases hg:h.get id with
 |none=>rfl
 |some o=>
  cases o<;>try rfl
  rename_i d c;simp only
  by_cases a:s=d/\isKey s (ρ k)=true
  ·rw[aV a,aV a]
   cases fA (ρ k) c<;>rfl
  ·rw[aZ a,aZ a];rfl
theorem Hp (s:qC)(zero:V)(a:Bool)(h:H)(id:Nat)(k:V):ES s zero a h (.mp id) k=Cs (h.get id) s zero a k:=rfl
attribute [go_sem] CL BE Hj Hp
end Go.Ay
namespace Go.Proofs.YtapfcpkecmmagaaGreat
open Go Go.Ay Go.Pm
set_option maxRecDepth 100000
def wmp (L:LN)(k:Nat):List (V×V):=(List.range k).map λi=>(V.str (L.getD i []),aB i)
theorem findW_app (k:V): ∀(a b:List (V×V)),fA k a=none->fA k (a++b)=(fA k b).map λq=>(q.1+a.length,q.2)
 | [],b,_=>by
  cases h:fA k b<;>simp [h]
 |e::a,b,h=>by
  show (if dJ k e.1 then some (0,e.2) else (fA k (a++b)).map λq=>(q.1+1,q.2))=_;have c:(if dJ k e.1 then some (0,e.2) else (fA k a).map λq=>(q.1+1,q.2))=none:=h;split at c
  ·cases c
  ·rename_i d
   rw[aZ d,findW_app k a b (by cases h2:fA k a with|none=>rfl|some x=>rw[h2] at c;cases c),Option.map_map]
   rfl
theorem wmp_succ (L:LN)(k:Nat):wmp L (k+1)=wmp L k++ [(V.str (L.getD k []),aB k)]:=by
 unfold wmp;rw[List.range_succ,List.map_append];rfl
theorem wmp_none {L:LN}{w:List Nat}: ∀{k:Nat},(∀i,i<k->L.getD i []≠w)->fA (.str w) (wmp L k)=none
 |0,_=>rfl
 |k+1,h=>by
  rw[wmp_succ,findW_app _ _ _ (wmp_none λi hi=>h i om)]
  have:(dJ (.str w) (.str (L.getD k [])))=false:=by
   have:=h k om;simp only[dJ,beq_eq_false_iff_ne,ne_eq];exact λe=>this e.symm
  show Option.map _ (if dJ (.str w) (.str (L.getD k [])) then _ else _)=_;rw[aZ (by rw[this];simp)];rfl
theorem wmp_find {L:LN}(nd:L.Nodup): ∀{k i:Nat},k<=L.length->i<k->fA (.str (L.getD i [])) (wmp L k)=some (i,aB i)
 |0,i,_,h=>om
 |k+1,i,hk,h=>by
  rw[wmp_succ]
  by_cases e:i=k
  ·subst e
   rw[findW_app _ _ _ (wmp_none λj l e=>by have:=nd_inj nd om om e;omega)];show Option.map _ (if dJ (.str (L.getD i [])) (.str (L.getD i [])) then some (0,aB i) else _)=_;rw[aV (by simp [dJ])];simp [wmp]
  ·have g:=wmp_find nd (k:=k) om (show i<k by omega)
   have d: ∀(a b:List (V×V)) (x:V) (r:Nat×V),fA x a=some r->fA x (a++b)=some r:=by
    intro a
    induction a with
    |nil=>intro b x r h;cases h
    |cons y a ih2=>
     intro b x r h;show (if dJ x y.1 then some (0,y.2) else (fA x (a++b)).map λq=>(q.1+1,q.2))=_;have c:(if dJ x y.1 then some (0,y.2) else (fA x a).map λq=>(q.1+1,q.2))=some r:=h
     by_cases f:dJ x y.1=true
     ·rw[aV f] at c ⊢;exact c
     ·rw[aZ f] at c ⊢
      cases h2:fA x a with
      |none=>rw[h2] at c;cases c
      |some r2=>rw[h2] at c;rw[ih2 b x r2 h2];exact c
   exact d _ _ _ _ g
theorem isKey_word {w:List Nat}(b:w.length<=1000)(h2: ∀x∈w,x<256):isKey .str (.str w)=true:=by
 have e:(decide (w.length<2^62)&&w.all λn=>decide (n<256))=true:=by
  rw[pF,decide_eq_true_eq,zE];exact⟨om,λx a=>by simpa using h2 x a⟩
 exact e
theorem mswO_new {L:LN}(nd:L.Nodup){k:Nat}(b:k<L.length)(a:isKey .str (.str (L.getD k []))=true)(hh:H)(M:Nat):
  My (some (.wmap .str (wmp L k))) hh M .str (.str (L.getD k [])) (aB k)=some (.undef,hh.set M (some (.wmap .str (wmp L (k+1))))):=by
 have e:fA (.str (L.getD k [])) (wmp L k)=none:=wmp_none λj c e=>by have:=nd_inj nd om b e;omega
 simp only[My]
 rw[aV ⟨trivial,a⟩,e,wmp_succ]
theorem lkwO_hit {L:LN}(nd:L.Nodup){i:Nat}(hi:i<L.length)(a:isKey .str (.str (L.getD i []))=true)(z:V):
  Cs (some (.wmap .str (wmp L L.length))) .str z false (.str (L.getD i []))=some (aB i):=by
 simp only[Cs]
 rw[aV ⟨trivial,a⟩,wmp_find nd (eS _) hi];rfl
end Go.Proofs.YtapfcpkecmmagaaGreat
namespace Go.Ay
open Go
set_option maxRecDepth 100000
section
variable {e:Nat×V} {y:V}
def Mw (o:Option Ob)(h:H)(id:Nat)(s:qC)(zero k:V):Option (V×H):=match o with
 |some (.wmap sh es)=>if s=sh/\isKey s k=true then
   match fA k es with
   |some e=>some (.tup [e.2,.int .i64 (e.1:Nat)],h)
   |none=>some (.tup [zero,.int .i64 es.length],h.set id (some (.wmap sh (es++ [(k,zero)]))))
  else none
 |_=>none
def EV (s:qC)(zero:V)(h:H)(x k:V):Option (V×H):=match x with
 | .mp id=>Mw (h.get id) h id s zero k
 |_=>none
theorem Zo (ρ:X->V)(h:H)(s:qC)(zero:V)(x k:X):cZ ρ h (.ent s zero x k)=EV s zero h (ρ x) (ρ k):=by
 simp only[cZ,EV,Mw];cases ρ x<;>try rfl
theorem Zt (s:qC)(zero:V)(h:H)(id:Nat)(k:V):EV s zero h (.mp id) k=Mw (h.get id) h id s zero k:=rfl
def Sy (o:Option Ob)(h:H)(id:Nat)(n:Int)(y:V):Option (V×H):=match o with
 |some (.wmap sh es)=>if 0<=n then
   match es[n.toNat]? with
   |some e=>some (V.undef,h.set id (some (.wmap sh (es.set n.toNat (e.1,y)))))
   |none=>none
  else none
 |_=>none
def ET (h:H)(x s y:V):Option (V×H):=match x,s with
 | .mp id,.int .i64 n=>Sy (h.get id) h id n y
 |_,_=>none
theorem AM (ρ:X->V)(h:H)(x s y:X):cZ ρ h (.ens x s y)=ET h (ρ x) (ρ s) (ρ y):=by
 simp only[cZ,ET,Sy];cases ρ x<;>try rfl
theorem AH (h:H)(id:Nat)(n:Int)(y:V):ET h (.mp id) (.int .i64 n) y=Sy (h.get id) h id n y:=rfl
attribute [go_sem] Zo Zt AM AH
section
variable {κ:Type} [DecidableEq κ]
def tU:List (κ×V)->κ->Option (Nat×V)
 | [],_=>none
 |p::l,a=>if a=p.1 then some (0,p.2) else (tU l a).map λq=>(q.1+1,q.2)
def gJ (enc:κ->V)(l:List (κ×V)):List (V×V):=l.map λp=>(enc p.1,p.2)
def Cr (l:List (κ×V))(a:κ):Option V:=(tU l a).map (·.2)
def Gk (l:List (κ×V))(a:κ)(y:V):List (κ×V):=match tU l a with
 |some e=>l.set e.1 (a,y)
 |none=>l++ [(a,y)]
theorem sQ {enc:κ->V}{P:κ->Prop}(c: ∀a b,P a->P b->dJ (enc a) (enc b)=decide (a=b)){a:κ}(d:P a): ∀{l:List (κ×V)},(∀p∈l,P p.1)->fA (enc a) (gJ enc l)=tU l a
 | [],_=>rfl
 |p::l,h=>by
  show (if dJ (enc a) (enc p.1) then some (0,p.2) else (fA (enc a) (gJ enc l)).map λq=>(q.1+1,q.2))=if a=p.1 then some (0,p.2) else (tU l a).map λq=>(q.1+1,q.2)
  rw[c a p.1 d (h p (by simp)),sQ c d λq f=>h q (by simp [f])]
  by_cases e:a=p.1<;>simp [e]
theorem Yk {l:List (κ×V)}{a:κ}(h:tU l a=some e):l[e.1]? =some (a,e.2):=by
 induction l generalizing e with
 |nil=>cases h
 |cons p l ih=>
  rw[tU] at h
  by_cases c:a=p.1
  ·rw[aV c] at h
   cases h;simp [c]
  ·rw[aZ c] at h
   obtain⟨q,b,rfl⟩:=jA.1 h;simpa using ih b
theorem AU (a:κ)(l m:List (κ×V))(h:tU l a=none):tU (l++m) a=(tU m a).map λq=>(q.1+l.length,q.2):=by
 induction l with
 |nil=>cases hm:tU m a<;>simp [hm]
 |cons p l ih=>
  rw[tU] at h
  by_cases c:a=p.1
  ·rw[aV c] at h;cases h
  ·rw[aZ c] at h
   have b:tU l a=none:=by cases hl:tU l a with|none=>rfl|some x=>rw[hl] at h;cases h
   rw[List.cons_append,tU,aZ c,ih b,Option.map_map]
   rfl
theorem Hd (a:κ)(l m:List (κ×V))(h:tU l a=some e):tU (l++m) a=some e:=by
 induction l generalizing e with
 |nil=>cases h
 |cons p l ih=>
  rw[tU] at h;rw[List.cons_append,tU]
  by_cases c:a=p.1
  ·rw[aV c] at h ⊢;exact h
  ·rw[aZ c] at h ⊢
   obtain⟨q,b,rfl⟩:=jA.1 h;rw[ih b];rfl
theorem AL (l:List (κ×V)){a:κ}(y:V)(h:tU l a=some e)(b:κ):Cr (l.set e.1 (a,y)) b=if b=a then some y else Cr l b:=by
 unfold Cr
 induction l generalizing e with
 |nil=>cases h
 |cons p l f=>
  rw[tU] at h
  by_cases c:a=p.1
  ·rw[aV c] at h
   cases h;show Option.map _ (if b=a then some (0,y) else (tU l b).map λq=>(q.1+1,q.2))=_
   by_cases d:b=a
   ·rw[aV d,aV d];rfl
   ·rw[aZ d,aZ d,tU,aZ (by rw[←c];exact d)]
  ·rw[aZ c] at h
   obtain⟨q,g,rfl⟩:=jA.1 h;have f:=f g;show Option.map _ (if b=p.1 then some (0,p.2) else (tU (l.set q.1 (a,y)) b).map λq=>(q.1+1,q.2))=_
   by_cases d:b=p.1
   ·rw[aV d,aZ (by rw[d];exact λe=>c e.symm),tU,aV d]
   ·rw[aZ d,Option.map_map,tU,aZ d,Option.map_map]
    exact f
theorem zO (l:List (κ×V))(a:κ)(y:V)(b:κ):Cr (Gk l a y) b=if b=a then some y else Cr l b:=by
 unfold Gk
 cases h:tU l a with
 |some e=>exact AL l y h b
 |none=>
  show Cr (l++ [(a,y)]) b=_;unfold Cr
  cases hb:tU l b with
  |some e=>
   rw[Hd b l _ hb,aZ (λe=>by rw[e,h] at hb;cases hb)]
  |none=>
   rw[AU b l _ hb];show Option.map _ (Option.map _ (if b=a then some (0,y) else none))=_
   by_cases d:b=a
   ·rw[aV d,aV d];rfl
   ·rw[aZ d,aZ d];rfl
theorem xC {P:κ->Prop}{l:List (κ×V)}{a:κ}(d:P a)(c: ∀p∈l,P p.1): ∀p∈Gk l a y,P p.1:=by
 unfold Gk;intro p b;split at b
 ·rcases List.mem_or_eq_of_mem_set b with h|rfl
  ·exact c p h
  ·exact d
 ·rcases sZ.1 b with h|h
  ·exact c p h
  ·rw[List.mem_singleton.1 h];exact d
omit [DecidableEq κ] in
theorem Au {enc:κ->V}{l:List (κ×V)}{k:Nat}{a:κ}:(gJ enc l).set k (enc a,y)=gJ enc (l.set k (a,y)):=by
 unfold gJ;rw[List.map_set]
omit [DecidableEq κ] in
theorem Eo {enc:κ->V}{l:List (κ×V)}{a:κ}:gJ enc l++ [(enc a,y)]=gJ enc (l++ [(a,y)]):=by
 unfold gJ;rw[List.map_append];rfl
theorem Xi {enc:κ->V}{P:κ->Prop}(g: ∀a b,P a->P b->dJ (enc a) (enc b)=decide (a=b)){s:qC}(f: ∀a,P a->isKey s (enc a)=true){l:List (κ×V)}(d: ∀p∈l,P p.1){a:κ}(c:P a)(y:V)(h:H)(id:Nat):
  My (some (.wmap s (gJ enc l))) h id s (enc a) y=some (.undef,h.set id (some (.wmap s (gJ enc (Gk l a y))))):=by
 simp only[My]
 rw[aV ⟨trivial,f a c⟩,sQ g c d]
 unfold Gk
 cases tU l a with
 |some e=>simp only[Au]
 |none=>simp only[Eo]
theorem oP {enc:κ->V}{P:κ->Prop}(g: ∀a b,P a->P b->dJ (enc a) (enc b)=decide (a=b)){s:qC}(f: ∀a,P a->isKey s (enc a)=true){l:List (κ×V)}(d: ∀p∈l,P p.1){a:κ}(c:P a)(z:V):
  Cs (some (.wmap s (gJ enc l))) s z false (enc a)=some ((Cr l a).getD z):=by
 simp only[Cs]
 rw[aV ⟨trivial,f a c⟩,sQ g c d]
 unfold Cr
 cases tU l a<;>rfl
theorem Oz {enc:κ->V}{P:κ->Prop}(q: ∀a b,P a->P b->dJ (enc a) (enc b)=decide (a=b)){s:qC}(f: ∀a,P a->isKey s (enc a)=true){l:List (κ×V)}(i: ∀p∈l,P p.1){a:κ}(c:P a)(z y:V)(h:H)(id:Nat)(m:h.get id=some (.wmap s (gJ enc l))):
  ∃(v:V) (n:Nat) (l1:List (κ×V)) (h1:H),Mw (some (.wmap s (gJ enc l))) h id s z (enc a)=some (.tup [v,.int .i64 (n:Int)],h1)/\h1.next=h.next/\(∀k,k≠id->h1.get k=h.get k)/\h1.get id=some (.wmap s (gJ enc l1))/\(∀p∈l1,P p.1)/\(∀b,(Cr l1 b).getD z=(Cr l b).getD z)/\
   ∀hh,Sy (some (.wmap s (gJ enc l1))) hh id (n:Int) y=some (.undef,hh.set id (some (.wmap s (gJ enc (Gk l a y))))):=by
 have g:=sQ q c i
 unfold Gk
 cases hx:tU l a with
 |some e=>
  rw[hx] at g;refine⟨e.2,e.1,l,h,?_,rfl,λ_ _=>rfl,m,i,λ_=>rfl,λhh=>?_⟩
  ·simp only[Mw];rw[aV ⟨trivial,f a c⟩,g]
  ·have o:=Yk hx
   have:(gJ enc l)[(e.1:Int).toNat]? =some (enc a,e.2):=by
    rw[De];unfold gJ;rw[Lc,o];rfl
   simp only[Sy];rw[aV om,this];simp only[De,Au]
 |none=>
  rw[hx] at g;refine⟨z,l.length,l++ [(a,z)],h.set id (some (.wmap s (gJ enc (l++ [(a,z)])))),?_,rfl,λk f=>H.aI _ f _,H.aT ..,?_,λb=>?_,λhh=>?_⟩
  ·simp only[Mw]
   rw[aV ⟨trivial,f a c⟩,g];simp only[Eo];rw[show (gJ enc l).length=l.length from by unfold gJ;rw[iR]]
  ·intro p j
   rcases sZ.1 j with h|h
   ·exact i p h
   ·rw[List.mem_singleton.1 h];exact c
  ·have:=zO l a z b
   unfold Gk at this;rw[hx] at this;have this:Cr (l++ [(a,z)]) b=if b=a then some z else Cr l b:=this
   rw[this]
   by_cases d:b=a
   ·rw[aV d,d];unfold Cr;rw[hx];rfl
   ·rw[aZ d]
  ·have:(gJ enc (l++ [(a,z)]))[(l.length:Int).toNat]? =some (enc a,z):=by
    rw[De];unfold gJ;rw[Lc];simp
   simp only[Sy];rw[aV om,this];simp only[De,Au];simp
end
end
end Go.Ay
