/- Texts of the claim. -/
import Derived.Test.YtapfcpkecmmagaaGreatDp2toP5d
import Derived.Test.YtapfcpkecmmagaaGreatAy39
import Derived.Test.YtapfcpkecmmagaaGreatC27code
import Derived.Sort.AssemblyPlain
set_option maxHeartbeats 64000000
namespace Go.Proofs.YtapfcpkecmmagaaGreat
open Go Go.Ay Go.Pm
set_option maxRecDepth 100000
def lessB:List Nat->List Nat->Bool
 |x::a,y::b=>if x=y then lessB a b else decide (x<y)
 |a,b=>decide (a.length<b.length)
theorem lessB_at: ∀{a b:List Nat} {i:Nat},(∀j,j<i->a.getD j 0=b.getD j 0)->i<a.length->i<b.length->a.getD i 0≠b.getD i 0->lessB a b=decide (a.getD i 0<b.getD i 0)
 | [],_,i,_,h,_,_=>by simp at h
 |_::_, [],i,_,_,h,_=>by simp at h
 |x::a,y::b,0,_,_,_,hne=>by
  have:x≠y:=by simpa using hne
  simp [lessB,this]
 |x::a,y::b,i+1,h,h1,h2,hne=>by
  have e:x=y:=by simpa using h 0 om
  unfold lessB;rw[aV e,lessB_at (a:=a) (b:=b) (i:=i) (λj c=>by simpa using h (j+1) om) (by simpa using h1) (by simpa using h2) (by simpa using hne)];simp
theorem lessB_self: ∀a:List Nat,lessB a a=false
 | []=>by simp [lessB]
 |x::a=>by unfold lessB;rw[aV rfl];exact lessB_self a
theorem lessB_iff {a b:List Nat}(n:a.length=b.length):lessB a b=true↔Lt a b:=by
 by_cases h: ∃i,i<a.length/\a.getD i 0≠b.getD i 0
 ·have o: ∃i,(i<a.length/\a.getD i 0≠b.getD i 0)/\ ∀j,j<i-> ¬(j<a.length/\a.getD j 0≠b.getD j 0):=by
   obtain⟨i,hi⟩:=h
   induction i using Nat.strongRecOn with
   |_ i ih=>
    by_cases g: ∃j,j<i/\j<a.length/\a.getD j 0≠b.getD j 0
    ·obtain⟨j,d,f⟩:=g;exact ih j d f
    ·exact⟨i,hi,λj d f=>g ⟨j,d,f⟩⟩
  obtain⟨i,⟨d,f⟩,m⟩:=o;have c: ∀j,j<i->a.getD j 0=b.getD j 0:=λj g=>Bz λl=>m j g ⟨om,l⟩
  rw[lessB_at c d om f,decide_eq_true_eq];constructor
  ·intro h;exact⟨i,d,c,h⟩
  ·rintro⟨k,h4,h5,h6⟩
   rcases Nat.lt_trichotomy i k with h|h|h
   ·exact absurd (h5 i h) f
   ·subst h;exact h6
   ·have:=c k h;omega
 ·have e:a=b:=oP n λi hi=>Bz λl=>h ⟨i,hi,l⟩
  subst e;rw[lessB_self];constructor
  ·intro h;cases h
  ·exact λh=>(h.asymm h).elim
theorem less_ok (u w:V)(n:Nat)(a b:List Nat)(h:H)(Q:n<100000)(y:a.length=n)(lb:b.length=n)(K:SI h u (zi a))(B:SI h w (zi b)):
  Ev T 82 [u,w] h (λv h'=>v= .bool (lessB a b)/\Fr h h'):=by
 refine bH c_kit_Less rfl rfl ?_
 have r:=K.lens
 rw[aQ,y] at r
 have q:=B.lens
 rw[aQ,lb] at q
 obtain⟨id,z,s,l,J⟩:=K.open
 rw[aQ,y] at s l J
 obtain⟨t,m,k,f,o⟩:=B.open
 rw[aQ,lb] at k f o
 simp(disch:=omega)only[go_sem,c_kit_Less,aF]
 refine aH (λA c O=> ∃(i:Nat),(∃j:Nat->V,c= [u,w,.bool false,aB i,j 4,j 5])/\i<=n/\(∀j,j<i->a.getD j 0=b.getD j 0)/\Fr h O/\A=n-i) n
  ⟨0,aA rfl,eY _,λ_ h=>om,Fr.refl h,rfl⟩ ?_
 rintro A c N ⟨i,⟨c,rfl⟩,hi,g,F,rfl⟩
 by_cases p:(i:Int)<(n:Int)
 ·have d:=bV p
  have c:i<n:=om
  have ci:N.cell id (z+i)=some (aB (a.getD i 0:Nat)):=by rw[F.cell (l om),J i c];congr 2;simp [zi,y,c]
  have G:N.cell t (m+i)=some (aB (b.getD i 0:Nat)):=by rw[F.cell (f om),o i c];congr 2;simp [zi,lb,c]
  by_cases L:a.getD i 0=b.getD i 0
  ·have x:decide (((a.getD i 0:Nat):Int)≠((b.getD i 0:Nat):Int))=false:=bM om
   simp(disch:=omega)only[go_sem,r,q,d,s.ixa,k.ixa,ci,G,x]
   rw[dX i]
   refine⟨n-(i+1),om,i+1,aA rfl,om,λj P=>?_,?_,rfl⟩
   ·by_cases e:j=i
    ·rw[e];exact L
    ·exact g j om
   ·first|exact F|exact F.bL om
  ·have x:decide (((a.getD i 0:Nat):Int)≠((b.getD i 0:Nat):Int))=true:=bV om
   simp(disch:=omega)only[go_sem,r,q,d,s.ixa,k.ixa,ci,G,x]
   refine⟨?_,?_⟩
   ·rw[lessB_at g om om L]
    congr 1
    rw[wW];simp
   ·first|exact F|exact F.bL om|exact (F.bL om).bL (by simp;omega)
 have d:=bM p
 have c:decide ((n:Int)<(n:Int))=false:=bM om
 obtain rfl:i=n:=om
 simp(disch:=omega)only[go_sem,r,q,d]
 have e:a=b:=oP om λj P=>g j om
 refine⟨?_,F⟩
 rw[e,lessB_self]
section
variable {n:Nat} {O:List (List Int)}
theorem reps_ok (d:Int)(a b:V)(e:a.one=true)(c:b.one=true)(h:H):Ev T 110 [.agg [aB d,a,b]] h (λv h'=>v= .fn 127 [] [.ptr h.next 0]/\h'.get h.next=bX [aB d,a,b]/\h'.next=h.next+1/\Fr h h'):=by
 refine bH c_chain_reps rfl rfl ?_;simp(disch:=omega)only[go_sem,c_chain_reps,aF,bF h (v:= aB d) (u:=a) (w:=b) rfl e c];exact (Fr.refl h).new _
theorem reps1_ok (id b:Nat)(d:Int)(w c:V)(ws:List V)(h:H)(y:ws.length<1000000)(J:Nat->H->Prop)(D:H->Prop)(m:J 0 h)
  (p: ∀i hh,J i hh->hh.get b=bX [aB d,w,c]/\SV hh c 1 ws)
  (x: ∀i hh,i<ws.length->J i hh->Ey T id [aB i,ws.getD i .undef] hh (λv h'=>v= .bool true/\J (i+1) h'∨v= .bool false/\D h')):
  Ev T 127 [.yl id,.ptr b 0] h (λ_ h'=>J ws.length h'∨D h'):=by
 refine bH c_chain_reps_1 rfl rfl ?_
 obtain⟨r,s⟩:=p 0 h m
 have u:h.cell b 2=some c:=by rw[H.aG r];rfl
 have t:cV c=some (aB (ws.length:Int)):=by unfold cV;rw[s.len (n:=ws.length) om om];rfl
 simp(disch:=omega)only[go_sem,c_chain_reps_1,aF,u,t]
 refine aH (λo a hh=> ∃(i:Nat),(∃g:Nat->V,a= [.yl id,.ptr b 0,g 2,g 3,c,aB (ws.length:Int),aB i,g 7,g 8])/\i<=ws.length/\J i hh/\o=ws.length-i) ws.length
  ⟨0,aA rfl,eY _,m,rfl⟩ ?_
 rintro o a f ⟨i,⟨g,rfl⟩,hi,l,rfl⟩
 by_cases e:(i:Int)<(ws.length:Int)
 ·have k:=bV e
  obtain⟨a,r⟩:=p i f l
  obtain⟨a,g,q,o,o⟩:=r.shape ws.length om om
  have ci:f.cell a (g+i)=some (ws.getD i .undef):=by rw[o i om,List.getD,eX om];rfl
  simp(disch:=omega)only[go_sem,k,q.ixa,ci]
  refine (x i f om l).mono ?_
  rintro v a (⟨rfl,j⟩|⟨rfl,j⟩)
  ·simp(disch:=omega)only[go_sem]
   rw[dX i]
   exact⟨ws.length-(i+1),om,i+1,aA rfl,om,j,rfl⟩
  ·simp(disch:=omega)only[go_sem]
   exact .inr j
 have k:=bM e
 obtain rfl:i=ws.length:=om
 simp(disch:=omega)only[go_sem,k]
 exact .inl l
structure Frm (n:Nat)(O:List (List Int))(R:List (List (List Int))):Prop where
 lo:O.length=n
 lr:R.length=n
 row: ∀i,i<n->(R.getD i []).length=(O.getD i []).length/\(R.getD i []).length<=n-i
 perm: ∀i,i<n-> ∀x∈R.getD i [],x.length=n/\pckOk x=true
def ChkP (d:Int)(O:List (List Int))(R:List (List (List Int))):Prop:= ∃(n:Nat) (O':LN) (R':jL),d=(n:Int)/\1<=n/\n<=64/\O=O'.map zi/\R=R'.map (List.map zi)/\Valid n O' R'
open Classical in
noncomputable def chkE (d:Int)(O:List (List Int))(R:List (List (List Int))):Int:=if d<1∨64<d then 2 else if ChkP d O R then 0 else 3
theorem zi_inj {a b:List Nat}(h:zi a=zi b):a=b:=by
 have:=congrArg (List.map Int.toNat) h
 have e: ∀a:List Nat,(zi a).map Int.toNat=a:=λa=>by
  unfold zi;rw[List.map_map];exact (zD λx _=>by simp).trans (List.map_id a)
 rwa [e,e] at this
theorem map_inj {α β:Type}{f:α->β}(c: ∀x y,f x=f y->x=y): ∀{a b:List α},a.map f=b.map f->a=b
 | [], [],_=>rfl
 | [],_::_,h=>by cases h
 |_::_, [],h=>by cases h
 |x::a,y::b,h=>by
  simp only[List.map_cons,List.cons.injEq] at h;rw[c x y h.1,map_inj c h.2]
theorem orb_len {i:Nat}{G:List Nat->Prop}(d: ∀x,G x->bT n x){o:List Nat}(hi:i<n)(a:o.Pairwise (· < ·))(mem: ∀p,p∈o↔ ∃x,G x/\Fix i x/\x.getD i 0=p):o.length<=n-i:=by
 have nd:o.Nodup:=by rw[EX];exact a.imp λh e=>om
 have:=List.Nodup.length_le_of_subset nd (l₂:=(List.range (n-i)).map (· +i)) λp b=>by
  obtain⟨x,f,c,rfl⟩:=(mem p).1 b;have X:=d x f;have b:=X.dZ hi
  have b:i<=x.getD i 0:=Bz λb=>by
   have:=X.inj hi (j:=x.getD i 0) om (by rw[c (x.getD i 0) om]);omega
  exact pU.2 ⟨x.getD i 0-i,Ae.2 om,om⟩
 simpa using this
theorem ChkP.frm {R:List (List (List Int))}(c:ChkP (n:Int) O R):Frm n O R:=by
 obtain⟨m,d,b,e,e,e,rfl,rfl,h,v⟩:=c;obtain rfl:n=m:=om
 have g: ∀i,i<n->(b.map (List.map zi)).getD i []=(b.getD i []).map zi/\(d.map zi).getD i []=zi (d.getD i [])/\ ∀x∈b.getD i [],x∈b.flatten:=λi hi=>by
  have e:=v.lr;have e:=v.lo;refine⟨by simp [List.getD,show i<b.length by omega],by simp [List.getD,show i<d.length by omega],λx a=>?_⟩;rw[List.getD,eX om] at a;exact List.mem_flatten.2 ⟨_,wT om,a⟩
 refine⟨by rw[iK];exact v.lo,by rw[iK];exact v.lr,λi hi=>?_,λi hi x a=>?_⟩
 ·obtain⟨f,b,_⟩:=g i hi
  rw[f,b,iK,aQ,v.rl i hi];exact⟨rfl,orb_len (λx a=>fA.isP h a) hi (v.asc i hi) (v.mem i hi)⟩
 ·obtain⟨f,_,j⟩:=g i hi
  rw[f] at a;obtain⟨y,k,rfl⟩:=pU.1 a;have Y:=h y (j y k);exact⟨by rw[aQ];exact Y.len,pckOk_zi Y⟩
theorem Frm.nat {R:List (List (List Int))}(f:Frm n O R): ∃R':jL,R=R'.map (List.map zi)/\ ∀g∈R'.flatten,bT n g:=by
 have b: ∀x,(∃i,i<n/\x∈R.getD i [])->x=zi (x.map Int.toNat)/\bT n (x.map Int.toNat):=λx ⟨i,hi,a⟩=>by
  obtain⟨j,k⟩:=f.perm i hi x a;obtain⟨l,h⟩:=pckOk_isP k;rw[j] at h;exact⟨l,h⟩
 have mem: ∀r∈R,∀x∈r,∃i,i<n/\x∈R.getD i []:=λr c x a=>by
  obtain⟨i,hi,rfl⟩:=vJ.1 c;have:=f.lr;exact⟨i,om,by rw[List.getD,eX hi];exact a⟩
 refine⟨R.map (List.map (List.map Int.toNat)),?_,λg d=>?_⟩
 ·rw[List.map_map]
  refine (List.map_id R).symm.trans (zD λr c=>?_);show r=(r.map (List.map Int.toNat)).map zi;rw[List.map_map];refine (List.map_id r).symm.trans (zD λx a=>(b x (mem r c x a)).1)
 ·obtain⟨h,e,d⟩:=List.mem_flatten.1 d
  obtain⟨r,c,rfl⟩:=pU.1 e;obtain⟨x,a,rfl⟩:=pU.1 d;exact (b x (mem r c x a)).2
theorem ChkP.iff {d:jL}(k:1<=n)(h2:n<=64)(j: ∀g∈d.flatten,bT n g){f:LN}{i:jL}(c:dU n (Co n d) f i):
  ChkP (n:Int) O (d.map (List.map zi))↔O=f.map zi/\d.map (List.map zi)=i.map (List.map zi):=by
 have inj: ∀a b:LN,a.map zi=b.map zi->a=b:=λa b h=>map_inj (λ_ _=>zi_inj) h
 constructor
 ·rintro⟨m,O3,R3,e,_,_,rfl,e3,v⟩
  obtain rfl:n=m:=om
  have:=map_inj inj e3
  subst this
  obtain⟨l,o⟩:=(Valid.iff j c).1 v
  subst l o
  exact⟨rfl,rfl⟩
 ·rintro⟨rfl,e⟩
  have:=map_inj inj e
  subst this
  exact⟨n,f,d,rfl,k,h2,rfl,rfl,(Valid.iff j c).2 ⟨rfl,rfl⟩⟩
end
section
variable {n i:Nat} {O:List (List Int)} {R:List (List (List Int))}
def RowOk (n:Nat)(O:List (List Int))(R:List (List (List Int)))(j:Nat):Prop:=((R.getD j []).length=(O.getD j []).length/\(R.getD j []).length<=n-j)/\ ∀x∈R.getD j [],x.length=n/\pckOk x=true
theorem Frm.of (a:O.length=n)(h2:R.length=n)(h: ∀j,j<n->RowOk n O R j):Frm n O R:=⟨a,h2,λi hi=>(h i hi).1,λi hi=>(h i hi).2⟩
theorem chk_form (a:1<=n)(h2:n<=64)(h: ¬Frm n O R):chkE (n:Int) O R=3:=by
 unfold chkE;rw[aZ om,aZ (λc=>h c.frm)]
theorem getD_mem {α:Type}{l:List α}{k:Nat}{d:α}(h:k<l.length):l.getD k d∈l:=by
 rw[List.getD,eX h];exact wT h
theorem take_getD {α:Type}{l:List α}{k:Nat}(d:α)(h:k<l.length):l.take (k+1)=l.take k++ [l.getD k d]:=by
 rw[←List.take_append_getElem h,List.getD,eX h];rfl
theorem flat_len {R:List (List (List Int))}{m:Nat}: ∀{i:Nat},i<=R.length->(∀j,j<i->(R.getD j []).length<=m)->((R.take i).flatten).length<=i*m
 |0,_,_=>by simp
 |i+1,h,hr=>by
  rw[←List.take_append_getElem (show i<R.length by omega),List.flatten_append,jD];have c:=flat_len (i:=i) om (λj b=>hr j om);have a:=hr i om;rw[List.getD,eX om] at a;have a:R[i].length<=m:=a;simp only[List.flatten_cons,List.flatten_nil,pN];rw[Nat.succ_mul];omega
theorem chain_small {G:List Nat->Prop}(b: ∀x,G x->bT n x){O:LN}{R:jL}(d:n<=64)(c:dU n G O R):SmallO (O.map zi)/\SmallRR (R.map (List.map zi)):=by
 have a: ∀i,i<n->(O.getD i []).length<=n:=λi hi=>jC (orb_len b hi (c.asc i hi) (c.mem i hi)) om
 refine⟨⟨by rw[iK,c.lo];omega,λi hi=>?_⟩,⟨by rw[iK,c.lr];omega,λi hi=>?_⟩⟩
 ·rw[iK,c.lo] at hi
  have:(O.map zi).getD i []=zi (O.getD i []):=by simp [List.getD,show i<O.length by rw[c.lo];exact hi]
  rw[this,aQ];have:=a i hi;omega
 ·rw[iK,c.lr] at hi
  have e:(R.map (List.map zi)).getD i []=(R.getD i []).map zi:=by simp [List.getD,show i<R.length by rw[c.lr];exact hi]
  rw[e,iK,c.rl i hi];refine⟨by have:=a i hi;omega,λk a=>?_⟩
  have:((R.getD i []).map zi).getD k []=zi ((R.getD i []).getD k []):=by
   have:=c.rl i hi;simp [List.getD,show k<(R[i]?.getD []).length by simp [List.getD] at this a;omega]
  rw[this,aQ,(b _ (c.rep i hi k a).mem).len];omega
theorem SmallRR.out (s:SmallRR R):SmallR R:=⟨s.1,λi hi=>(s.2 i hi).1⟩
theorem SmallR.inn (s:SmallR R)(f: ∀i,i<R.length-> ∀x∈R.getD i [],x.length=n)(b:n<=64):SmallRR R:=⟨s.1,λi hi=>⟨s.2 i hi,λk a=>by rw[f i hi _ (getD_mem a)];omega⟩⟩
theorem take_flat {α:Type}{R:List (List α)}(hi:i<R.length):(R.take (i+1)).flatten=(R.take i).flatten++R.getD i []:=by
 rw[←List.take_append_getElem hi,List.flatten_append];simp [List.getD,hi]
structure CkJ (h hh:H)(B id b:Nat)(r:fM)(n:Nat)(vO vR:V)(O:List (List Int))(R:List (List (List Int)))(i:Nat)(acc:List (List Int)):Prop where
 gB:hh.get B=some (.cells false [aB n,vO,vR])
 gR:hh.get (B+1)=some (.cells false [aB 0])
 gN:hh.get (B+1+1)=some (.cells false [aB n])
 gA: ∃va ws,hh.get (B+1+1+1)=some (.cells false [va])/\Own hh va 1 ws (id+1)/\All2 (SI h) ws acc
 gr:hh.get id=some (.loop r)
 gb:hh.get b=some (.cells false [aB n,vO,vR])
 nx:id<hh.next
 fr:Fr h hh
 rows: ∀j,j<i->RowOk n O R j
structure CkD (h hh:H)(B id:Nat)(r:fM)(n:Nat)(O:List (List Int))(R:List (List (List Int))):Prop where
 gR:hh.get (B+1)=some (.cells false [aB 3])
 gr:hh.get id=some (.loop (uZ r .ret))
 nx:id<hh.next
 fr:Fr h hh
 bad: ¬Frm n O R
theorem CkJ.mono {h hh h2:H}{B id b:Nat}{r:fM}{e d:V}{c:List (List Int)}(J:CkJ h hh B id b r n e d O R i c)(k:B+1+1+1<id)(m:b<id)(f:Fr hh h2):CkJ h h2 B id b r n e d O R i c:=by
 obtain⟨j,l,g,o,a⟩:=J.gA;have:=J.nx;exact⟨by rw[f.get _ om];exact J.gB,by rw[f.get _ om];exact J.gR,by rw[f.get _ om];exact J.gN,⟨j,l,by rw[f.get _ om];exact g,o.fr f,a⟩,by rw[f.get _ om];exact J.gr,by rw[f.get _ om];exact J.gb,iO J.nx f.next,J.fr.trans f,J.rows⟩
theorem CkJ.loop {h hh h2:H}{B id b:Nat}{r r2:fM}{d e:V}{c:List (List Int)}(J:CkJ h hh B id b r n d e O R i c)(q:B+1+1+1<id)(t:b<id)(j:h.next<=B)(g:h2.get id=some (.loop r2))(f:h2.next=hh.next)(o: ∀k,k≠id->h2.get k=hh.get k):CkJ h h2 B id b r2 n d e O R i c:=by
 obtain⟨m,s,l,p,a⟩:=J.gA;refine⟨by rw[o _ om];exact J.gB,by rw[o _ om];exact J.gR,by rw[o _ om];exact J.gN,⟨m,s,by rw[o _ om];exact l,p.mono om λk _ _ _ _ l _=>o k om,a⟩,g,by rw[o _ om];exact J.gb,by rw[f];exact J.nx,⟨by rw[f];exact J.fr.next,λk a=>by rw[o k om];exact J.fr.get k a⟩,J.rows⟩
theorem check_ok (vc:V)(d:Int)(O:List (List Int))(R:List (List (List Int)))(h:H)(hc:ChI h vc d O R)(hd:d<=7∨64<d)(so:SmallO O)(sr:SmallR R):
  Ev T 97 [vc] h (λv h'=>v= aB (chkE d O R)/\Fr h h'):=by
 obtain⟨p,q,rfl,sO,sR⟩:=hc
 refine bH c_chain_Check rfl rfl ?_
 obtain⟨wO,tO,aO⟩:=sO
 obtain⟨wR,tR,aR,kR⟩:=sR
 have lO:=aO.length
 have lR:=aR.length
 have b8:cV p=some (aB (O.length:Int)):=by unfold cV;rw[tO.len (n:=O.length) om om];rfl
 have b9:cV q=some (aB (R.length:Int)):=by unfold cV;rw[tR.len (n:=R.length) om om];rfl
 have a8:=tO.dC.2.1
 have a6:=tR.dC.2.1
 obtain⟨B,hB⟩:=IP h.next
 obtain⟨h1,e1,n1,g1,o1,f1⟩:=dL hB [aB d,p,q]
 obtain⟨h2,e2,n2,g2,o2,f2⟩:=dL n1 [aB 0]
 obtain⟨h3,e3,n3,g3,o3,f3⟩:=dL n2 [aB 0]
 obtain⟨h4,e4,n4,g4,o4⟩:=nP h3 (B+1+1) [aB d]
 have Q:h2.get B=some (.cells false [aB d,p,q]):=by rw[o2 _ om];exact g1
 have a3:h4.get B=some (.cells false [aB d,p,q]):=by rw[o4 _ om,o3 _ om];exact Q
 have A:h4.get (B+1)=some (.cells false [aB 0]):=by rw[o4 _ om,o3 _ om];exact g2
 have F4:Fr h h4:=by
  refine⟨om,λid b6=>?_⟩;rw[o4 _ om,o3 _ om,o2 _ om,o1 _ om]
 have Y: ∀(l:H) (id:Nat) (x y:Int),dS (some (.cells false [aB x])) l id 0 [aB y]=some (l.set id (some (.cells false [aB y]))):=λl id x y=>bE (by simp) l _ _
 have bx:=bF h (v:= aB d) (u:=p) (w:=q) rfl a8 a6
 have b1:=H.aG A
 have a5: ∀z:Int,(h4.set (B+1) (some (.cells false [aB z]))).cell (B+1) 0=some (aB z)/\Fr h (h4.set (B+1) (some (.cells false [aB z]))):=λz=>⟨by rw[H.tD];rfl,F4.set om _⟩
 by_cases b1:d<1
 ·have s:=bV b1
  simp(disch:=omega)only[go_sem,c_chain_Check,aF,bx,hB,e1,n1,e2,n2,e3,H.aG Q,g3,Y,e4,H.aG g4,s,A]
  exact⟨by unfold chkE;rw[aV (.inl b1)],(a5 2).2⟩
 have s:=bM b1
 by_cases b1:64<d
 ·have d2:=bV b1
  simp(disch:=omega)only[go_sem,c_chain_Check,aF,bx,hB,e1,n1,e2,n2,e3,H.aG Q,g3,Y,e4,H.aG g4,s,d2,A]
  exact⟨by unfold chkE;rw[aV (.inr b1)],(a5 2).2⟩
 have d2:=bM b1
 obtain⟨n,rfl⟩: ∃n:Nat,d=(n:Int):=⟨d.toNat,om⟩
 have Z:1<=n:=om
 have c1:n<=7:=om
 by_cases b1:(O.length:Int)≠(n:Int)
 ·have dl:=bV b1
  simp(disch:=omega)only[go_sem,c_chain_Check,aF,bx,hB,e1,n1,e2,n2,e3,H.aG Q,g3,Y,e4,H.aG g4,s,d2,A,H.aG a3,b8,dl]
  exact⟨by rw[chk_form Z om (λf=>b1 (by have:=f.lo;omega))],(a5 3).2⟩
 have dl:=bM b1
 by_cases b7:(R.length:Int)≠(n:Int)
 ·have b1:=bV b7
  simp(disch:=omega)only[go_sem,c_chain_Check,aF,bx,hB,e1,n1,e2,n2,e3,H.aG Q,g3,Y,e4,H.aG g4,s,d2,A,H.aG a3,b8,dl,b9,b1]
  exact⟨by rw[chk_form Z om (λf=>b7 (by have:=f.lr;omega))],(a5 3).2⟩
 have b1:=bM b7
 have b7:h4.next=B+1+1+1:=by rw[n4];exact n3
 obtain⟨h5,e5,n5,g5,o5,f5⟩:=dL b7 [.aD]
 have c9:h5.get B=some (.cells false [aB n,p,q]):=by rw[o5 _ om];exact a3
 have rB:=aS c9
 simp(disch:=omega)only[go_sem,c_chain_Check,aF,bx,hB,e1,n1,e2,n2,e3,H.aG Q,g3,Y,e4,H.aG g4,s,d2,A,H.aG a3,b8,dl,b9,b1,b7,e5,rB]
 refine (reps_ok (n:Int) p q a8 a6 h5).mono ?_
 rintro _ W ⟨rfl,g6,n6,Q⟩
 simp(disch:=omega)only[go_sem]
 have F6:Fr h W:=(F4.trans f5).trans Q
 have d0:W.get B=some (.cells false [aB n,p,q]):=by rw[Q.get _ om];exact c9
 have d7:W.get (B+1)=some (.cells false [aB 0]):=by rw[Q.get _ om,f5.get _ om];exact A
 have d8:W.get (B+1+1)=some (.cells false [aB n]):=by rw[Q.get _ om,f5.get _ om];exact g4
 have d5:W.get (B+1+1+1)=some (.cells false [.aD]):=by rw[Q.get _ om];exact g5
 refine⟨rfl,sJ λr hr=>?_⟩
 obtain⟨id,b6⟩:=IP W.next
 obtain⟨b,hb⟩:=IP h5.next
 rw[hb] at g6 n6
 rw[b6,hb]
 have gY:r.st= .ready:=by rw[hr]
 have b3:r.pend=none:=by rw[hr]
 have e6:R.length=n:=om
 have d9:O.length=n:=om
 have f7:Fr W (W.new (.loop r)):=(Fr.refl W).new _
 have o7: ∀k,k<id->(W.new (.loop r)).get k=W.get k:=λk hk=>H.bJ W om _
 have J0:CkJ h (W.new (.loop r)) B id b r n p q O R 0 []:=
  ⟨by rw[o7 _ om];exact d0,by rw[o7 _ om];exact d7,by rw[o7 _ om];exact d8,⟨.aD, [],by rw[o7 _ om];exact d5,Own.aD _ _ _,trivial⟩,by rw[←b6,H.aN],by rw[o7 _ om];exact g6,by rw[H.aY];omega,F6.trans f7,λj hj=>om⟩
 refine (reps1_ok id b (n:Int) p q wR _ (by rw[lR];exact sr.1) (λi l=>CkJ h l B id b r n p q O R i (R.take i).flatten) (λl=>CkD h l B id r n O R) J0 (λi l J=>⟨J.gb,tR.mono J.fr⟩) ?_).mono ?_
 ·rintro i l hi J
  have a1:i<n:=om
  refine pM J.gr (by rw[hr];rfl) gY λN g7 n7 o7=>?_
  rw[congrArg fM.assign hr,congrArg fM.vars hr,congrArg fM.pars hr]
  simp(disch:=omega)only[go_sem,List.zip_cons_cons,List.zip_nil_left]
  rw[congrArg fM.body hr]
  have J7:CkJ h N B id b (nW r) n p q O R i (R.take i).flatten:=J.loop om om om g7 n7 o7
  have c3:=getD_row aO (i:=i) om .undef []
  have A:=getD_row aR (i:=i) om .undef []
  obtain⟨wr,tr,ar⟩:=A
  have lr:=ar.length
  have a9:cV (wR.getD i .undef)=some (aB ((R.getD i []).length:Int)):=by unfold cV;rw[tr.len (n:=(R.getD i []).length) om om];rfl
  have b0:=c3.lens
  obtain⟨Q,A,a0,c0,c8⟩:=(tO.mono J7.fr).shape O.length om om
  have co:N.cell Q (A+i)=some (wO.getD i .undef):=by rw[c8 i om,List.getD,eX om];rfl
  have cB:=H.aG J7.gB
  have cN:=H.aG J7.gN
  have c5: ∀l G,CkJ h l B id b (nW r) n p q O R i G-> ¬Frm n O R->CkD h ((l.set (B+1) (some (.cells false [aB 3]))).set id (some (.loop (uZ r .ret)))) B id r n O R:=λl G J hb=>by
   have:=J.nx;refine⟨by rw[H.aI _ om,H.aT],by rw[H.aT],J.nx,(J.fr.set om _).set om _,hb⟩
  have yq: ∀l o G,CkJ h l B id b (nW r) n p q O R i G-> ¬Frm n O R->Ca id (λv h'=>v= .bool true/\CkJ h h' B id b r n p q O R (i+1) (R.take (i+1)).flatten∨v= .bool false/\CkD h h' B id r n O R) .ret o (l.set (B+1) (some (.cells false [aB 3]))):=λl o G J hb=>
   Ec (by rw[H.aI _ om];exact J.gr) (.inr ⟨rfl,c5 l G J hb⟩)
  by_cases t:((R.getD i []).length:Int)≠((O.getD i []).length:Int)
  ·have s:=bV t
   simp(disch:=omega)only[go_sem,a9,cB,a0.ixa,co,b0,s,J7.gR,Y]
   exact yq _ _ _ J7 λf=>t (by have:=(f.row i a1).1;omega)
  have s:=bM t
  by_cases A:(n:Int)-(i:Int)<((R.getD i []).length:Int)
  ·have d2:=bV A
   simp(disch:=omega)only[go_sem,a9,cB,cN,a0.ixa,co,b0,s,d2,J7.gR,Y]
   exact yq _ _ _ J7 λf=>by have:=(f.row i a1).2;omega
  have d2:=bM A
  simp(disch:=omega)only[go_sem,a9,cB,cN,a0.ixa,co,b0,s,d2]
  refine aH (λk' o l=> ∃(k:Nat),(∃g:Nat->V,o= [g 0,.ptr B 0,.ptr (B+1) 0,.ptr (B+1+1) 0,.ptr (B+1+1+1) 0,g 5,g 6,g 7,g 8,g 9,g 10,g 11,g 12,g 13,wR.getD i .undef,aB ((R.getD i []).length:Int),aB k,g 17,g 18,g 19])/\k<=(R.getD i []).length/\CkJ h l B id b (nW r) n p q O R i ((R.take i).flatten++(R.getD i []).take k)/\
    (∀x∈(R.getD i []).take k,x.length=n/\pckOk x=true)/\k'=(R.getD i []).length-k) (R.getD i []).length
   ⟨0,aA rfl,eY _,by rw[List.take_zero,pN];exact J7,λx hx=>by simp at hx,rfl⟩ ?_
  clear co cB cN c0 c8 J7 s d2 a0 g7 n7 o7 N
  rintro k' o h8 ⟨k,⟨g,rfl⟩,hk,P,b5,rfl⟩
  by_cases c6:(k:Int)<((R.getD i []).length:Int)
  case neg=>
   have e1:=bM c6;obtain rfl:k=(R.getD i []).length:=om
   rw[List.take_length] at P b5;rw[←take_flat om] at P;simp(disch:=omega)only[go_sem,e1];refine pG gY b3 P.gr (.inl ⟨rfl,?_⟩);have a:=P.loop (h2:=h8.set id (some (.loop r))) om om om (by rw[H.aT]) rfl (λk hk=>H.aI _ hk _)
   have b4: ∀j,j<i+1->RowOk n O R j:=λj hj=>by
    by_cases e:j=i
    ·subst e;exact⟨⟨om,om⟩,b5⟩
    ·exact a.rows j om
   exact⟨a.gB,a.gR,a.gN,a.gA,a.gr,a.gb,a.nx,a.fr,b4⟩
  have e1:=bV c6
  have a2:k<(R.getD i []).length:=om
  obtain⟨x,hx⟩:=IP ((R.getD i []).getD k [])
  have sx:=getD_row ar a2 .undef []
  rw[hx] at sx
  have c7:x∈R.getD i []:=by rw[←hx];exact getD_mem a2
  obtain⟨o,g,c2,A,A⟩:=(tr.mono P.fr).shape (R.getD i []).length om om
  have ck:h8.cell o (g+k)=some (wr.getD k .undef):=by rw[A k om,List.getD,eX om];rfl
  have cN:=H.aG P.gN
  generalize wr.getD k .undef=vx at sx ck
  have g:=sx.lens
  by_cases t:(x.length:Int)≠(n:Int)
  ·have s:=bV t
   simp(disch:=omega)only[go_sem,e1,c2.ixa,ck,g,cN,s,P.gR,Y]
   exact yq _ _ _ P λf=>t (by have:=(f.perm i a1 x c7).1;omega)
  have s:=bM t
  simp(disch:=omega)only[go_sem,e1,c2.ixa,ck,g,cN,s]
  refine (perm_Check_ok vx x h8 om (sx.mono P.fr)).mono ?_
  rintro _ h9 ⟨rfl,f9⟩
  have a:=P.mono om om f9
  cases hpk:pckOk x with
  |false=>
   have e3:decide (pck x≠0)=true:=bV (by unfold pck;rw[aZ om,hpk];simp);simp(disch:=omega)only[go_sem,e3,a.gR,Y];exact yq _ _ _ a λf=>by have:=(f.perm i a1 x c7).2;rw[hpk] at this;cases this
  |true=>
   have e3:decide (pck x≠0)=false:=bM (by unfold pck;rw[aZ om,hpk];simp);obtain⟨va,ws,gA,ow,al⟩:=a.gA
   have one:vx.cells= [vx]/\vx.one=true:=⟨sx.dC.1,sx.dC.2.1⟩
   have f:=a.nx;obtain⟨b2,e7,f,e0,f,K⟩:=dL (h:=h9) rfl [vx];have cA:=H.aG gA;have f:b2.cell (B+1+1+1) 0=some va:=by rw[H.aG (by rw[K.get _ om];exact gA)];rfl
   have f:=al.length
   have f:((R.take i).flatten++(R.getD i []).take k).length<=400:=by
    have h1:=flat_len (m:=7) (R:=R) (i:=i) om (λj hj=>by have:=(a.rows j hj).1.2;omega);have h2:i*7<=7*7:=Nat.mul_le_mul_right 7 om;rw[jD,xV];omega
   obtain⟨c4,e9,a4⟩:=(ow.fr K).push (bytes:=24) (SV.one om e0 (.kn 1)) (n:=ws.length) (m:=1) om rfl om om om;have o: ∀k,k<=id->dF va k:=λk hk f d6 m c e e2=>by have:=(ow.in _ _ _ _ e).2.1;omega
   have f:c4.get (B+1+1+1)=some (.cells false [va]):=by rw[a4.old _ om (o _ om),K.get _ om];exact gA
   have g:=a4.next;have g: ∀(l:H) (y:V),dS (some (.cells false [va])) l (B+1+1+1) 0 [y]=some (l.set (B+1+1+1) (some (.cells false [y]))):=λl y=>bE (by simp) l _ _
   simp(disch:=omega)only[go_sem,e3,cA,cJ h9 (z:= .aD) one.1 one.2,e7,e9,f,g];rw[dX k]
   have U: ∀k,k<=id->k≠B+1+1+1->(c4.set (B+1+1+1) (some (.cells false [.sl b2.next 0 (ws.length+1) (.un 1)]))).get k=h9.get k:=λk h1 h2=>by
    rw[H.aI _ h2,a4.old _ om (o _ h1),K.get _ om]
   have tk:(R.take i).flatten++(R.getD i []).take (k+1)=((R.take i).flatten++(R.getD i []).take k)++ [x]:=by
    rw[oH,take_getD [] a2,hx]
   refine⟨(R.getD i []).length-(k+1),om,k+1,aA rfl,om,⟨by rw[U _ om om];exact a.gB,by rw[U _ om om];exact a.gR,by rw[U _ om om];exact a.gN,⟨_,ws++ [vx],by rw[H.aT],?_,?_⟩,by rw[U _ om om];exact a.gr,by rw[U _ om om];exact a.gb,by simp only[H.cZ];omega,?_,a.rows⟩,λy hy=>?_,rfl⟩
   ·refine (a4.own (b:=id+1) om rfl om).mono (fH _) λk d6 m c e h1 h2=>H.aI _ om _
   ·rw[tk];exact al.append ⟨sx,trivial⟩
   ·refine⟨by simp only[H.cZ];have:=a.fr.next;omega,λk hk=>?_⟩
    rw[U k om om];exact a.fr.get k hk
   ·rw[take_getD [] a2,hx] at hy
    rcases sP.1 hy with hy|hy
    ·exact b5 y hy
    ·rw[List.mem_singleton.1 hy]
     exact⟨om,hpk⟩
 ·rintro _ l (J|D)
  ·refine⟨r,J.gr,by rw[gY];simp,?_⟩
   have en:r.pend.getD .norm= .norm:=by rw[b3];rfl
   rw[en]
   rw[lR,List.take_length] at J
   have J:=J.loop (r2:={r with st:= .out}) (h2:=l.set id (some (.loop {r with st:= .out}))) om om om (by rw[H.aT]) rfl (λk hk=>H.aI _ hk _)
   generalize l.set id (some (.loop {r with st:= .out}))=N at J
   clear J0 f7 o7 b3 gY hr
   have frm:Frm n O R:=Frm.of d9 e6 λj hj=>J.rows j om
   obtain⟨R',eR,hP⟩:=frm.nat
   obtain⟨va,ws,gA,ow,al⟩:=J.gA
   have f:R.flatten=R'.flatten.map zi:=by rw[eR,List.map_flatten]
   rw[f] at al
   have nx:=J.nx
   have rB:=aS J.gB
   have cN:=H.aG J.gN
   have cA:=H.aG gA
   have fb:Fr N (H.mk N.tr (N.next+7)):=(Fr.refl N).bL om
   have b:SP (H.mk N.tr (N.next+7)) va R'.flatten:=⟨ws,(ow.fr fb).sv,al.mono λ_ _ x=>x.mono (J.fr.trans fb)⟩
   have e:R'.flatten.length<1000000:=by
    have h1:=flat_len (m:=7) (R:=R) (i:=n) om (λj hj=>by have:=(J.rows j om).1.2;omega);have h2:n*7<=7*7:=Nat.mul_le_mul_right 7 om;rw[yR om,f,iK] at h1;omega
   simp(disch:=omega)only[go_sem,aS (h:=H.mk N.tr (N.next+7)) J.gB,cN,cA]
   refine (build_ok n va R'.flatten _ Z c1 e b hP).mono ?_
   rintro _ h8 ⟨e8,L,F,τ,rfl,f,k,b,_⟩
   have e:Fr N h8:=fb.trans b
   have P:=J.mono om om e
   have g:=tO.dJ
   have b:=tR.dJ
   simp(disch:=omega)only[go_sem,aS P.gB,g,b]
   refine (tchain_ok h8 n e8 L F τ c1 f k.tw).mono ?_
   rintro e h9 ⟨O2,R2,f0,f,f9⟩
   have a:=P.mono om om f9
   have a7:dU n (Co n R') O2 R2:=f.congr k.group
   obtain⟨d4,d3⟩:=chain_small (λx hx=>fA.isP hP hx) om a7
   simp(disch:=omega)only[go_sem,aS a.gB,g,b]
   refine (csame_ok _ e (n:Int) (n:Int) O (O2.map zi) R (R2.map (List.map zi)) h9 ⟨p,q,rfl,⟨wO,tO.mono a.fr,aO.mono λ_ _ x=>x.mono a.fr⟩,⟨wR,tR.mono a.fr,aR.mono (λ_ _ x=>x.mono a.fr),kR⟩⟩ f0.ch so d4 (sr.inn (λj hj x hx=>(frm.perm j om x hx).1) om) d3).mono ?_
   rintro _ b2 ⟨rfl,K⟩
   have b:=a.mono om om K
   have iff:=ChkP.iff (O:=O) Z om hP a7
   rw[←eR] at iff
   by_cases a:(n:Int)=(n:Int)/\O=O2.map zi/\R=R2.map (List.map zi)
   ·have e:=bV a
    rw[e]
    simp(disch:=omega)only[go_sem,b.gR,Y]
    refine⟨?_,b.fr.set om _⟩
    unfold chkE
    rw[aZ om,aV (iff.2 a.2)]
   ·have e:=bM a
    rw[e]
    simp(disch:=omega)only[go_sem,b.gR,Y]
    refine⟨?_,b.fr.set om _⟩
    unfold chkE
    rw[aZ om,aZ (λc=>a ⟨rfl,iff.1 c⟩)]
  ·refine⟨_,D.gr,by simp [uZ],?_⟩
   have en:(uZ r .ret).pend.getD .norm= .ret:=rfl
   rw[en]
   have nx:=D.nx
   have gR:(l.set id (some (.loop {uZ r .ret with st:= .out}))).cell (B+1) 0=some (aB 3):=by rw[H.xW _ om,H.aG D.gR];rfl
   simp(disch:=omega)only[go_sem,gR]
   exact⟨by rw[chk_form Z om D.bad],D.fr.set (by have:=D.fr.next;omega) _⟩
end
set_option maxRecDepth 100000
theorem gd_map {α β:Type}(f:α->β){l:List α}{i:Nat}{d:α}{e:β}(h:i<l.length):(l.map f).getD i e=f (l.getD i d):=by
 simp [List.getD,h]
theorem Frsh.mono {h h' h2:H}{v:V}{l:List Int}(f:Frsh h h' v l)(g:Fr h' h2):Frsh h h2 v l:=by
 obtain⟨id,a,e,d,b,c,i⟩:=f.ex;exact⟨⟨id,a,e,d,iO b g.next,by rw[g.get _ b];exact c,i⟩,f.fr.trans g⟩
theorem newp_frsh {h h':H}{v:V}{l:List Nat}(n:Jl h h' v l):Frsh h h' v (zi l):=by
 obtain⟨e,g,a,f⟩:=n;exact⟨⟨h.next,_,by rw[e,aQ],fH _,om,g,.inr (by rw[aQ])⟩,f⟩
theorem Frsh.le {b h h':H}{v:V}{l:List Int}(f:Frsh h h' v l)(g:Fr b h):Frsh b h' v l:=by
 obtain⟨id,a,e,d,j,c,i⟩:=f.ex;exact⟨⟨id,a,e,jC g.next d,j,c,i⟩,g.trans f.fr⟩
section
variable {W:Nat->Prop} {h:H} {vc:V} {n:Nat} {O:LN} {G:List Nat->Prop}
structure GC (W:Nat->Prop)(h:H)(vc:V)(n:Nat)(O:LN)(R:jL)(G:List Nat->Prop):Prop where
 cw:ChW W h vc n O R
 isc:dU n G O R
 grp:mD n G
 n0:1<=n
 n7:n<=7
theorem GC.go {a:Nat->Prop}{h':H}{R:jL}(g:GC W h vc n O R G)(f:Fx W h h')(b: ∀id,id<h.next->a id->W id):GC a h' vc n O R G:=⟨g.cw.go f b,g.isc,g.grp,g.n0,g.n7⟩
theorem GC.ch {R:jL}(g:GC W h vc n O R G):ChI h vc (n:Int) (O.map zi) (R.map (List.map zi)):=g.cw.ch
theorem GC.mono {h':H}{R:jL}(g:GC W h vc n O R G)(f:Fr h h'):GC W h' vc n O R G:=⟨g.cw.mono f,g.isc,g.grp,g.n0,g.n7⟩
theorem chain_gen {n:Nat}{G:List Nat->Prop}(b:mD n G){O:LN}{R:jL}(c:dU n G O R): ∀d i x,i+d=n->G x->Fix i x->Co n R x
 |0,i,x,h,hx,fx=>by
  have X:=b.isP hx;obtain rfl:i=n:=om
  rw[fx.all X];exact .one
 |d+1,i,x,h,hx,fx=>by
  have hi:i<n:=om
  have X:=b.isP hx;have m:=(c.mem i hi (x.getD i 0)).2 ⟨x,hx,fx,rfl⟩;obtain⟨k,f,e⟩:=vJ.1 m;have a:=c.rep i hi k f;rw[bP f,e] at a;obtain⟨z,j⟩:=IP ((R.getD i []).getD k []);rw[j] at a;have Z:=b.isP a.mem
  have g:z∈R.flatten:=by
   have l:k<(R.getD i []).length:=by rw[c.rl i hi];exact f
   exact List.mem_flatten.2 ⟨R.getD i [],getD_mem (by rw[c.lr];exact hi),by rw[←j];exact getD_mem l⟩
  have o:=chain_gen b c d (i+1) (bD x (dH z)) om (b.mul hx (b.inv a.mem)) ((Fix.mul X om fx (Fix.inv Z om a.fix)).succ (by
   rw[cX (by rw[X.len];exact hi)];have:=nH Z hi
   rwa [a.maps] at this))
  have:=fA.mul o g;rwa [bN X Z.inv Z,gI Z,dA X] at this
theorem chain_mem {R:jL}(c:dU n G O R): ∀g∈R.flatten,G g:=λg b=>by
 obtain⟨r,f,b⟩:=List.mem_flatten.1 b;obtain⟨i,hi,rfl⟩:=vJ.1 f;obtain⟨k,d,rfl⟩:=vJ.1 b;have a:i<n:=by have:=c.lr;omega
 have e:R.getD i []=R[i]:=by rw[List.getD,eX hi];rfl
 have b:k<(O.getD i []).length:=by rw[←c.rl i a,e];exact d
 have:=(c.rep i a k b).mem;rw[e,List.getD,eX d] at this;exact this
theorem chain_iff (a:mD n G){R:jL}(c:dU n G O R)(x:List Nat):Co n R x↔G x:=
 ⟨λh=>h.le a (chain_mem c),λh=>chain_gen a c n 0 x om h (λk b=>om)⟩
theorem GC.chk {R:jL}(g:GC W h vc n O R G):chkE (n:Int) (O.map zi) (R.map (List.map zi))=0:=by
 unfold chkE;have:=g.n0;have:=g.n7;rw[aZ om,aV ⟨n,O,R,rfl,g.n0,om,rfl,rfl,λx a=>g.grp.isP (chain_mem g.isc x a),g.isc.congr λx=>(chain_iff g.grp g.isc x).symm⟩]
theorem GC.small {R:jL}(g:GC W h vc n O R G):SmallO (O.map zi)/\SmallRR (R.map (List.map zi)):=chain_small (λx a=>g.grp.isP a) (by have:=g.n7;omega) g.isc
theorem GC.check {R:jL}(g:GC W h vc n O R G):Ev T 97 [vc] h (λv h'=>v= aB 0/\Fr h h'):=by
 have:=check_ok vc _ _ _ h g.ch (.inl (by have:=g.n7;omega)) g.small.1 g.small.2.out;rwa [g.chk] at this
theorem pck_zi {x:List Nat}(X:bT n x)(a:1<=n)(h2:n<=64):pck (zi x)=0:=by
 unfold pck;rw[aZ (by rw[aQ,X.len];omega),pckOk_zi X];rfl
end
set_option maxRecDepth 100000
section
variable {b A:Nat} {hh:H} {l:LN}
theorem sv_tail {h:H}{v:V}{ws:List V}(s:SV h v 1 ws)(g:CapOk v)(m:1<=ws.length): ∃v',oY 1 v (some (aB 1)) none none=some v'/\SV h v' 1 (ws.drop 1):=by
 rcases s with ⟨_,e⟩|⟨id,a,len,q,k,d,rfl,j,i,f,q,o⟩
 ·rw[e] at m;simp at m
 have q:kP none len len=some len:=by simp [kP]
 have n:((d.drop a).take (len*1)).drop 1=(d.drop (a+1)).take (len- 1):=by
  rw[List.drop_take,List.drop_drop,jY]
 rcases g _ _ _ _ rfl with rfl|⟨c,rfl,q⟩
 ·by_cases p:1<len
  ·refine⟨.sl id (a+1) (len- 1) (.un 1),?_,.inr ⟨id,a+1,len- 1,_,k,d,rfl,by rw[Cg,j];omega,i,f,om,by rw[←o,n,jY]⟩⟩
   simp [oY,kP,p,show (1:Int)<=(len:Int) by omega]
  ·refine⟨.sl id a 0 (.un 1),?_,.inr ⟨id,a,0,_,k,d,rfl,by rw[Cg,j];omega,i,f,om,?_⟩⟩
   ·have:len=1:=om
    subst this;simp [oY,kP]
   ·have:ws.drop 1= []:=Yd (by rw[Cg];omega)
    rw[this];simp
 ·refine⟨.sl id (if c=1 then a else a+1) (len- 1) (.kn (c- 1)),?_,.inr ⟨id,_,len- 1,_,k,d,rfl,by rw[Cg,j];omega,i,f,by split<;>omega,?_⟩⟩
  ·have:1<=len:=om
   simp [oY,kP,show (1:Int)<=(len:Int) by omega,show 1<=c by omega]
  ·by_cases e:c=1
   ·have:ws.drop 1= []:=Yd (by rw[Cg];omega)
    rw[this];have:len- 1=0:=om
    rw[this];simp
   ·rw[aZ e,←o,n,jY]
def AccB (b:Nat)(hh:H)(A:Nat)(l:LN):Prop:= ∃va ws W,hh.get A=bX [va]/\Own hh va 1 ws b/\PVs W hh ws l/\BlkIn W va/\(∀id,id<b->W id)/\ ∀id,W id->id<hh.next
theorem AccB.mono {h2:H}(a:AccB b hh A l)(c:A<hh.next)(f:Fr hh h2):AccB b h2 A l:=by
 obtain⟨d,i,W,g,o,p,k,h,e⟩:=a;exact⟨d,i,W,by rw[f.get _ c];exact g,o.fr f,p.fx (Fx.of f),k,h,λid h=>iO (e id h) f.next⟩
theorem AccB.other {h2:H}(a:AccB b hh A l){k:Nat}(t:k<b)(c:k≠A)(n:h2.next=hh.next)(o: ∀j,j≠k->h2.get j=hh.get j):AccB b h2 A l:=by
 obtain⟨m,s,W,g,q,p,i,d,r⟩:=a
 have f:Fx W hh h2:=⟨om,λid h u=>o id λe=>u (e▸d k t)⟩
 exact⟨m,s,W,by rw[o _ (Ne.symm c)];exact g,q.mono om λid _ _ _ _ h _=>o id om,PVs.go p f (λ_ _ h=>h),i,d,λid h=>by rw[n];exact r id h⟩
theorem AccB.push {d:H}(a:AccB b hh A l)(t:A<b){x:List Nat}{o y:V}(bytes:Nat)(z:bytes<=24)(P:l.length<1000000)(f:Fr hh d)(K:b<=hh.next)(J:PV (λid=>id<hh.next) d o x)(w:SV d y 1 [o]):
  ∃va h6,hh.get A=bX [va]/\qV d 1 bytes va y=some (.sl d.next 0 (l.length+1) (.un 1),h6)/\h6.get A=bX [va]/\h6.next=d.next+1/\(∀k,k<b->h6.get k=d.get k)/\
   (va.cells= [va]/\va.one=true)/\dJ va va=true/\ ∀h7,h6.set A (bX [.sl d.next 0 (l.length+1) (.un 1)])=h7->AccB b h7 A (l++ [x]):=by
 obtain⟨va,L,W,g,i,p,G,u,s⟩:=a
 have r:=All2.length p
 have r:=f.next
 obtain⟨h6,B,q⟩:=(i.fr f).push (bytes:=bytes) w (n:=l.length) (m:=1) om rfl om om ⟨by have:=Nat.mul_le_mul_left (2*(l.length+1)+1000) z;omega,om⟩
 have N: ∀k,k<b->dF va k:=λk v id j m c e r=>by have:=(i.in _ _ _ _ e).2.1;omega
 have O:=q.next
 have r: ∀k,k<b->h6.get k=d.get k:=λk v=>q.old k om (N k v)
 refine⟨va,h6,g,B,by rw[r A t,f.get A om];exact g,O,r,⟨i.sv.dC.1,i.sv.dC.2.1⟩,i.sv.dJ,λh7 e=>?_⟩
 subst e
 have r:Fx W d h6:=q.fx G
 have i:Fx W h6 (h6.set A (bX [.sl d.next 0 (l.length+1) (.un 1)])):=Fx.set h6 (u A t) _
 have g:=r.trans i (λ_ _ h=>h)
 have r: ∀id,id<d.next->(W id∨id=d.next)->W id:=λid F i=>by
  rcases i with i|i
  ·exact i
  ·omega
 have i:PV W d o x:=J.weak λid _ h=>s id h
 refine⟨_,L++ [o],λid=>W id∨id=d.next,by rw[H.aT],?_,(PVs.go (p.fx (Fx.of f)) g r).append (PVs.one (PV.go i g r)),λid j n c e=>by cases e;exact .inr rfl,λid h=> .inl (u id h),λid h=>?_⟩
 ·exact (q.own (b:=b) om rfl om).mono (fH _) λid j m c e F _=>H.aI h6 om _
 ·simp only[H.cZ]
  rcases h with h|h
  ·have:=s id h;omega
  ·omega
end
def strongL (R:jL):LN:=R.flatMap (List.drop 1)
theorem strong_take {R:jL}{i:Nat}(hi:i<R.length):strongL (R.take (i+1))=strongL (R.take i)++(R.getD i []).drop 1:=by
 unfold strongL;rw[take_getD [] hi,List.flatMap_append];simp
theorem strong_len {n:Nat}{R:jL}: ∀{i:Nat},i<=R.length->(∀j,j<i->(R.getD j []).length<=n)->(strongL (R.take i)).length<=i*n
 |0,_,_=>by simp [strongL]
 |i+1,h,hr=>by
  rw[strong_take om,jD,Cg,Nat.succ_mul];have c:=strong_len (i:=i) om (λj b=>hr j om);have a:=hr i om;omega
structure NewL (h h':H)(v:V)(l:LN):Prop where
 ex: ∃ws W,Own h' v 1 ws h.next/\PVs W h' ws l/\BlkIn W v/\(∀id,id<h.next->W id)
 fr:Fr h h'
theorem NewL.sp {h h':H}{v:V}{l:LN}(n:NewL h h' v l):SP h' v l:=by
 obtain⟨b,W,o,p,_⟩:=n.ex;have a:=All2.length p
 exact⟨b,o.sv,All2.iC (by simpa using a) λi hi a=>by
  have:=(All2.get p i hi om).si
  simpa using this⟩
theorem NewL.pl {h h':H}{v:V}{l:LN}(n:NewL h h' v l):PL (λid=>id<h.next) h' v l:=by
 obtain⟨b,W,o,p,_,a⟩:=n.ex;exact⟨b,o.sv,off_of o,p.weak (λid _ h=>a id h),Own.capOk o⟩
structure StJ (h hh:H)(id b B:Nat)(r:fM)(n:Nat)(vO vR:V)(R:jL)(i:Nat):Prop where
 acc:AccB (id+1) hh (B+1) (strongL (R.take i))
 gr:hh.get id=some (.loop r)
 gb:hh.get b=bX [aB n,vO,vR]
 nx:id<hh.next
 fr:Fr h hh
theorem strong_ok {W:Nat->Prop}(vc:V)(n:Nat)(O:LN)(R:jL)(G:List Nat->Prop)(h:H)(gc:GC W h vc n O R G):
  Ev T 84 [vc] h (λv h'=> ∃vl,v= .tup [vl,aB 0]/\NewL h h' vl (strongL R)):=by
 obtain⟨U,vR,e,sO,sR⟩:=gc.ch
 subst e
 refine bH c_chain_Strong rfl rfl ?_
 obtain⟨wR,tR,aR,kR⟩:=sR
 have lR:=aR.length
 have c:=gc.isc
 rw[iK,c.lr] at lR
 have a8:U.one=true:=tH sO
 have a6:=tR.dC.2.1
 have n0:=gc.n0
 have n7:=gc.n7
 obtain⟨B,hB⟩:=IP h.next
 obtain⟨h1,e1,n1,g1,o1,f1⟩:=dL hB [aB n,U,vR]
 have bx:=bF h (v:= aB n) (u:=U) (w:=vR) rfl a8 a6
 have rB:=aS g1
 simp(disch:=omega)only[go_sem,c_chain_Strong,aF,bx,hB,e1,rB]
 refine ((gc.mono f1).check).mono ?_
 rintro _ h2 ⟨rfl,f2⟩
 simp(disch:=omega)only[go_sem]
 refine bB (λhc=>(hc rfl).elim) (λ_=>?_)
 obtain⟨A,hA⟩:=IP h2.next
 have n2:=f2.next
 obtain⟨h3,e3,n3,g3,o3,f3⟩:=dL hA [.aD]
 have c8:h3.get B=bX [aB n,U,vR]:=by rw[f3.get _ om,f2.get _ om];exact g1
 have B:=aS c8
 simp(disch:=omega)only[go_sem,hA,e3,B]
 refine (reps_ok (n:Int) U vR a8 a6 h3).mono ?_
 rintro _ h4 ⟨rfl,g4,B,f4⟩
 simp(disch:=omega)only[go_sem]
 obtain⟨id,b2⟩:=IP h4.next
 obtain⟨b,hb⟩:=IP h3.next
 rw[hb] at g4 B
 refine⟨rfl,sJ λr hr=>?_⟩
 rw[b2,hb]
 have gY:r.st= .ready:=by rw[hr]
 have b7:r.pend=none:=by rw[hr]
 have o5: ∀k,k<id->(h4.new (.loop r)).get k=h4.get k:=λk N=>H.bJ h4 om _
 have f5:Fr h4 (h4.new (.loop r)):=(Fr.refl h4).new _
 have B:(h4.new (.loop r)).next=id+1:=by rw[H.aY,b2]
 have F4:=((f1.trans f2).trans f3).trans f4
 have rl: ∀j,j<n->(R.getD j []).length<=n:=λj P=>by
  rw[c.rl j P];exact jC (orb_len (λx hx=>gc.grp.isP hx) P (c.asc j P) (c.mem j P)) om
 obtain⟨t,b3⟩: ∃t,A=t+1:=⟨A- 1,om⟩
 have J0:StJ h (h4.new (.loop r)) id b t r n U vR R 0:=by
  refine⟨⟨.aD, [],λk=>k<id+1,?_,Own.aD _ _ _,trivial,λ_ _ _ _ e=>(by cases e),λ_ h=>h,λk N=>om⟩,by rw[←b2,H.aN],by rw[o5 _ om];exact g4,om,F4.trans f5⟩;rw[←b3,o5 _ om,f4.get _ om];exact g3
 refine (reps1_ok id b (n:Int) U vR wR _ om (λi o=>StJ h o id b t r n U vR R i) (λo=>False) J0 (λi o J=>⟨J.gb,tR.mono J.fr⟩) ?_).mono ?_
 ·rintro i o hi J
  have m:i<n:=om
  refine pM J.gr (by rw[hr];rfl) gY λh9 g9 n9 o9=>?_
  rw[congrArg fM.assign hr,congrArg fM.vars hr,congrArg fM.pars hr]
  simp(disch:=omega)only[go_sem,List.zip_cons_cons,List.zip_nil_left]
  rw[congrArg fM.body hr]
  have nx:=J.nx
  have B:(R.map (List.map zi)).getD i []=(R.getD i []).map zi:=gd_map (List.map zi) (by rw[c.lr];exact m)
  have e:=getD_row aR (i:=i) (by rw[iK,c.lr];exact m) .undef []
  rw[B] at e
  obtain⟨wr,tr,ar⟩:=e
  have lr:=ar.length
  rw[iK] at lr
  have e:1<=wr.length:=by
   rw[lr,c.rl i m];have:=(c.mem i m i).2 ⟨cG n,gc.grp.one,Fix.one n i om,eP m⟩;exact Py this
  have F9:Fr h h9:=⟨by rw[n9];exact J.fr.next,λk N=>by rw[o9 k om];exact J.fr.get k N⟩
  obtain⟨vt,d4,tt⟩:=sv_tail tr (kR _ (getD_mem om)) e
  have lt:cV vt=some (aB (wr.length- 1:Nat)):=by unfold cV;rw[tt.len (n:=wr.length- 1) (by rw[Cg];omega) om];rfl
  have e:wr.length<=7:=by have:=rl i m;omega
  simp(disch:=omega)only[go_sem,d4,lt]
  have A9:AccB (id+1) h9 (t+1) (strongL (R.take i)):=J.acc.other (k:=id) om om n9 o9
  refine aH (λk' a7 o=> ∃(k:Nat),(∃g:Nat->V,a7= [g 0,g 1,g 2,g 3,g 4,.ptr A 0,g 6,g 7,g 8,g 9,g 10,g 11,vt,aB (wr.length- 1:Nat),aB k,g 15])/\k<=wr.length- 1/\AccB (id+1) o (t+1) (strongL (R.take i)++((R.getD i []).drop 1).take k)/\
    o.get id=some (.loop (nW r))/\o.get b=bX [aB n,U,vR]/\id<o.next/\Fr h o/\k'=wr.length- 1-k) (wr.length- 1)
   ⟨0,aA rfl,eY _,by rw[List.take_zero,pN];exact A9,g9,by rw[o9 _ om];exact J.gb,om,F9,rfl⟩ ?_
  rintro k' a7 a ⟨k,⟨g,rfl⟩,N,Y,a9,a5,b8,F,rfl⟩
  have e:((R.getD i []).drop 1).length=wr.length- 1:=by rw[Cg];omega
  by_cases c0:(k:Int)<((wr.length- 1:Nat):Int)
  case neg=>
   have d1:=bM c0;have e:k=wr.length- 1:=om
   rw[e,yR (l:=(R.getD i []).drop 1) om,←strong_take (by rw[c.lr];exact m)] at Y;simp(disch:=omega)only[go_sem,d1];refine pG gY b7 a9 (.inl ⟨rfl,Y.other (k:=id) om om rfl (λj P=>H.aI _ P _),by rw[H.aT],by rw[H.aI _ om];exact a5,b8,F.set om _⟩)
  have d1:=bV c0
  have e:k<wr.length- 1:=om
  have b4:k+1<(R.getD i []).length:=om
  obtain⟨x,hx⟩:=IP ((R.getD i []).getD (k+1) [])
  have c6:((R.getD i []).drop 1).getD k []=x:=by
   rw[←hx];generalize R.getD i []=row;rw[List.getD,List.getD,List.getElem?_drop,Nat.add_comm 1 k]
  have X:bT n x:=by
   rw[←hx];exact gc.grp.isP (c.rep i m (k+1) (by rw[←c.rl i m];exact b4)).mem
  have sx:=getD_row ar (i:=k+1) (by rw[iK];exact b4) .undef []
  rw[gd_map zi (d:= []) b4,hx] at sx
  obtain⟨g,e,c9,m,m⟩:=(tt.mono F).shape (wr.length- 1) (by rw[Cg];omega) om
  have ck:a.cell g (e+k)=some (wr.getD (k+1) .undef):=by
   rw[m k (by rw[Cg];omega),List.getElem?_drop,List.getD,Nat.add_comm 1 k,eX om];rfl
  generalize wr.getD (k+1) .undef=g at sx ck
  obtain⟨L,gA,m⟩: ∃L,a.get (t+1)=bX [L]/\dJ L L=true:=by
   obtain⟨L,_,_,gA,ow,_⟩:=Y;exact⟨L,gA,ow.sv.dJ⟩
  have e:Fr a (H.mk a.tr (a.next+6)):=(Fr.refl a).bL om
  rw[b3]
  simp(disch:=omega)only[go_sem,d1,c9.ixa,ck,H.aG gA]
  refine (clone_ok g (zi x) (H.mk a.tr (a.next+6)) (by rw[aQ,X.len];omega) (by rw[aQ,X.len];omega) (sx.mono (F.trans e))).mono ?_
  rintro y p s
  have c1:=e.trans s.fr
  have c3:=s.fr.next
  have e:p.get (t+1)=bX [L]:=by rw[c1.get _ om];exact gA
  have g:PV (λid=>id<a.next) p y x:=s.pv λid h=>by simp;omega
  simp(disch:=omega)only[go_sem,H.aG e,m,cJ _ (z:= .aD) g.dQ.1 g.dQ.2]
  obtain⟨f,q⟩: ∃f:H,f=H.mk ((H.mk p.tr (a.next+3)).new (Ob.cells false [y])).tr p.next:=⟨_,rfl⟩
  rw[←q]
  have m:f.get (a.next+3)=bX [y]:=by rw[q];exact H.aN (H.mk p.tr (a.next+3)) _
  have e:f.next=p.next:=by rw[q]
  have e: ∀k,k≠a.next+3->f.get k=p.get k:=λk N=>by rw[q];exact H.bJ (H.mk p.tr (a.next+3)) (by simpa using N) _
  simp only at c3
  have Q:Fr a f:=⟨om,λk N=>by rw[e k om];exact c1.get k N⟩
  have g:PV (λid=>id<a.next) f y x:=by
   obtain⟨A,p,p,y,q,q,B⟩:=s.ex;simp only at y;rw[p];exact⟨SV.all (by rw[aL,jY]) om (by rw[e _ om];exact q) _,λo=>by have:A<a.next:=o;omega⟩
  have e:(strongL (R.take i)++((R.getD i []).drop 1).take k).length<1000000:=by
   have h1:=strong_len (n:=n) (R:=R) (i:=i) (by rw[c.lr];omega) (λj P=>rl j om);have h2:i*n<=7*7:=Nat.mul_le_mul om n7;rw[jD,xV];omega
  obtain⟨b9,b5,c2,d0,d3,p,b1,one,_,c4⟩:=Y.push om (bytes:=24) (fH _) e Q om g (SV.one om m (.kn 1))
  have c7:b9=L:=by rw[gA] at c2;cases c2;rfl
  subst c7
  have e: ∀(o:H) (y:V),dS (bX [b9]) o (t+1) 0 [y]=some (o.set (t+1) (bX [y])):=λo y=>bE (by simp) o _ _
  simp(disch:=omega)only[go_sem,d0,d3,e]
  rw[dX k]
  have b0:=c4 _ rfl
  have e:strongL (R.take i)++((R.getD i []).drop 1).take k++ [x]=strongL (R.take i)++((R.getD i []).drop 1).take (k+1):=by
   rw[oH,take_getD [] om,c6]
  rw[e] at b0
  have e:Fr a (b5.set (t+1) (bX [.sl f.next 0 ((strongL (R.take i)++((R.getD i []).drop 1).take k).length+1) (.un 1)]))->True:=λ_=>trivial
  obtain⟨Z,K⟩: ∃Z,Z=b5.set (t+1) (bX [.sl f.next 0 ((strongL (R.take i)++((R.getD i []).drop 1).take k).length+1) (.un 1)]):=⟨_,rfl⟩
  rw[←K] at b0 ⊢
  have d2: ∀k,k<=id->k≠t+1->Z.get k=a.get k:=λk h1 h2=>by rw[K,H.aI _ h2,b1 k om];exact Q.get k om
  have a:Z.next=b5.next:=by rw[K];rfl
  refine⟨wr.length- 1-(k+1),om,k+1,aA rfl,om,b0,by rw[b1 id om,Q.get _ om];exact a9,by rw[b1 b om,Q.get _ om];exact a5,om,⟨by have:=F.next;omega,λk N=>by rw[d2 k om om];exact F.get k N⟩,rfl⟩
 ·rintro _ o (J|a)
  case inr=>exact a.elim
  refine⟨r,J.gr,by rw[gY];simp,?_⟩
  have en:r.pend.getD .norm= .norm:=by rw[b7];rfl
  rw[en]
  have nx:=J.nx
  have b6:=J.acc
  rw[lR,yR (by rw[c.lr];omega)] at b6
  obtain⟨h9,a0⟩: ∃h9,h9=o.set id (some (.loop {r with st:= .out})):=⟨_,rfl⟩
  have A9:=b6.other (h2:=h9) (k:=id) om om (by rw[a0];rfl) (λj P=>by rw[a0,H.aI _ P])
  have F9:Fr h h9:=by rw[a0];exact J.fr.set om _
  rw[←a0,b3]
  obtain⟨L,ws,W',gA,ow,pv,bl,l1,a⟩:=A9
  simp(disch:=omega)only[go_sem,H.aG gA]
  exact⟨L,rfl,⟨ws,W',ow.le om,pv,bl,λid h=>l1 id om⟩,F9⟩
end Go.Proofs.YtapfcpkecmmagaaGreat
namespace Go.Pm
set_option maxRecDepth 100000
section
variable {x:List Nat} {i:Nat}
def fF (O:qX)(x:List Nat)(i:Nat):List Nat:=(O.getD i []).map λq=>x.getD q 0
def iF (l:List Nat):List Nat:=l.mergeSort λa b=>decide (a<=b)
theorem fW (l:List Nat):(iF l).Perm l:=List.mergeSort_perm l _
theorem wY (l:List Nat):(iF l).Pairwise (· <= ·):=by
 have:=List.pairwise_mergeSort (le:=λa b:Nat=>decide (a<=b)) (λa b c d e=>by simp at*;omega) (λa b=>by simp;omega) l;exact this.imp λh=>by simpa using h
def jO (O:qX)(R:Ti)(x:List Nat)(i im:Nat):List Nat:=bD ((R.getD i []).getD ((fF O x i).idxOf im) []) x
def cI (O:qX)(R:Ti):Nat->Nat->List Nat->qX
 |0,_,x=> [x]
 |d+1,i,x=>(iF (fF O x i)).flatMap λim=>cI O R d (i+1) (jO O R x i im)
structure eQ (G:List Nat->Prop)(L:qX):Prop where
 asc:L.Pairwise Lt
 mem: ∀x,x∈L↔G x
theorem Lt.irrefl (h:Lt x x):False:=h.asymm h
theorem Lt.trans {y z:List Nat}(o:x.length=y.length)(a:Lt x y)(b:Lt y z):Lt x z:=by
 obtain⟨k,f,d,l⟩:=a;obtain⟨m,n,e,g⟩:=b;rcases Nat.lt_trichotomy k m with h|h|h
 ·exact⟨k,f,λj c=>(d j c).trans (e j oq),by rw[←e k h];exact l⟩
 ·subst h;exact⟨k,f,λj c=>(d j c).trans (e j c),oq⟩
 ·exact⟨m,oq,λj c=>(d j oq).trans (e j c),by rw[d m h];exact g⟩
theorem Pk: ∀{a b:qX},a.Pairwise Lt->b.Pairwise Lt->(∀p,p∈a↔p∈b)->a=b
 | [], [],_,_,_=>rfl
 | [],y::b,_,_,h=>by have:=(h y).2 (by simp);simp at this
 |x::a, [],_,_,h=>by have:=(h x).1 (by simp);simp at this
 |x::a,y::b,ha,hb,h=>by
  obtain⟨k,m⟩:=List.pairwise_cons.1 ha;obtain⟨j,l⟩:=List.pairwise_cons.1 hb
  have e:x=y:=by
   have c:=(h x).1 (by simp);have f:=(h y).2 (by simp);rcases List.mem_cons.1 c with c|c
   ·exact c
   ·rcases List.mem_cons.1 f with f|f
    ·exact f.symm
    ·exact ((j x c).asymm (k y f)).elim
  subst e;congr 1
  refine Pk m l λp=>⟨λd=>?_,λd=>?_⟩
  ·rcases List.mem_cons.1 ((h p).1 (List.mem_cons_of_mem _ d)) with e|g
   ·subst e;exact ((k p d).irrefl).elim
   ·exact g
  ·rcases List.mem_cons.1 ((h p).2 (List.mem_cons_of_mem _ d)) with e|g
   ·subst e;exact ((j p d).irrefl).elim
   ·exact g
theorem eQ.uniq {G:List Nat->Prop}{L M:qX}(a:eQ G L)(b:eQ G M):L=M:=Pk a.asc b.asc λp=>(a.mem p).trans (b.mem p).symm
theorem eQ.nodup {G:List Nat->Prop}{L:qX}(a:eQ G L):L.Nodup:=by
 rw[List.nodup_iff_pairwise_ne];exact a.asc.imp λh e=>by rw[e] at h;exact h.irrefl
def tB (O:qX):Nat->Nat->Nat
 |0,_=>1
 |d+1,i=>(O.getD i []).length*tB O d (i+1)
section
variable {n:Nat} {G:List Nat->Prop} {O:qX} {R:Ti}
theorem Vt {im:Nat}:im∈fF O x i↔ ∃q∈O.getD i [],x.getD q 0=im:=by simp [fF]
theorem uB (b:mD n G)(c:dU n G O R)(hi:i<n){q:Nat}(a:q∈O.getD i []):q<n:=by
 obtain⟨g,d,_,rfl⟩:=(c.mem i hi q).1 a;exact (b.isP d).dZ hi
theorem zH (d:mD n G)(c:dU n G O R)(X:bT n x)(hi:i<n):(fF O x i).Nodup:=by
 have nd:(O.getD i []).Pairwise (· < ·):=c.asc i hi;rw[List.nodup_iff_pairwise_ne];unfold fF;rw[List.pairwise_map];refine nd.imp_of_mem λ{a b} f a b e=>?_
 have:=X.inj (uB d c hi f) (uB d c hi a) e;omega
theorem lX (m:mD n G)(c:dU n G O R)(X:bT n x)(hi:i<n){im:Nat}(g:im∈fF O x i):
  ∃k,k<(O.getD i []).length/\(fF O x i).idxOf im=k/\x.getD ((O.getD i []).getD k 0) 0=im/\yM n G i ((O.getD i []).getD k 0) ((R.getD i []).getD k [])/\jO O R x i im=bD ((R.getD i []).getD k []) x/\bT n (jO O R x i im)/\(jO O R x i im).getD i 0=im/\ ∀j,j<i->(jO O R x i im).getD j 0=x.getD j 0:=by
 have b:=List.idxOf_lt_length_iff.2 g
 have a:(fF O x i).idxOf im<(O.getD i []).length:=by simpa [fF] using b
 have d:(fF O x i).getD ((fF O x i).idxOf im) 0=im:=by rw[bP b,List.getElem_idxOf]
 obtain⟨k,e⟩: ∃k,(fF O x i).idxOf im=k:=⟨_,rfl⟩
 rw[e] at a d b
 have h:x.getD ((O.getD i []).getD k 0) 0=im:=by
  rw[←d];unfold fF;rw[List.getD_eq_getElem?_getD (l:=List.map _ _),List.getElem?_map,List.getElem?_eq_getElem a,bP a];rfl
 have b:=c.rep i hi k a
 have f:=m.isP b.mem
 have d:jO O R x i im=bD ((R.getD i []).getD k []) x:=by unfold jO;rw[e]
 refine⟨k,a,e,h,b,d,by rw[d];exact f.mul X,?_,λj a=>?_⟩
 ·rw[d,cX (by rw[f.len];exact hi),b.maps,h]
 ·rw[d,cX (by rw[f.len];omega),b.fix j a]
theorem wG (m:mD n G)(c:dU n G O R): ∀(d i:Nat) (x:List Nat),i+d=n->bT n x->
  (∀z,z∈cI O R d i x↔ ∃g,G g/\Fix i g/\z=bD g x)/\(cI O R d i x).Pairwise Lt/\(cI O R d i x).length=tB O d i
 |0,i,x,h,X=>by
  obtain rfl:i=n:=oq
  refine⟨λz=>?_,by simp [cI],rfl⟩;simp only[cI,List.mem_singleton];constructor
  ·rintro rfl;exact⟨cG i,m.one,Fix.one i i (Nat.le_refl _),(fG X).symm⟩
  ·rintro⟨g,p,q,rfl⟩;rw[q.all (m.isP p),fG X]
 |d+1,i,x,h,X=>by
  have hi:i<n:=oq
  have t:=λo (e:o∈fF O x i)=>wG m c d (i+1) (jO O R x i o) oq (lX m c X hi e).choose_spec.2.2.2.2.2.1
  have v: ∀o,o∈iF (fF O x i)↔o∈fF O x i:=λo=>(fW _).mem_iff
  have s: ∀o,o∈fF O x i-> ∀z,z∈cI O R d (i+1) (jO O R x i o)->z.length=n/\z.getD i 0=o/\ ∀j,j<i->z.getD j 0=x.getD j 0:=λo e z y=>by
   obtain⟨g,p,q,rfl⟩:=((t o e).1 z).1 y;obtain⟨k,_,_,_,_,_,_,s1,s2⟩:=lX m c X hi e;have r:=m.isP p;refine⟨by rw[eH,r.len],?_,λj A=>?_⟩
   ·rw[cX (by rw[r.len];exact hi),q i oq,s1]
   ·rw[cX (by rw[r.len];omega),q j oq,s2 j A]
  refine⟨λz=>?_,?_,?_⟩
  ·simp only[cI,List.mem_flatMap,v]
   constructor
   ·rintro⟨o,e,y⟩
    obtain⟨g,p,q,rfl⟩:=((t o e).1 z).1 y;obtain⟨k,_,_,_,f,B,_⟩:=lX m c X hi e;refine⟨bD g ((R.getD i []).getD k []),m.mul p f.mem,Fix.mul (m.isP p) oq (q.mono oq) f.fix,?_⟩;rw[B,bN (m.isP p) (m.isP f.mem) X]
   ·rintro⟨g,p,q,rfl⟩
    have r:=m.isP p;have L:=(c.mem i hi (g.getD i 0)).2 ⟨g,p,q,rfl⟩;have e:x.getD (g.getD i 0) 0∈fF O x i:=Vt.2 ⟨_,L,rfl⟩;refine⟨_,e,((t _ e).1 _).2 ?_⟩;obtain⟨k,N,_,hx,f,B,_⟩:=lX m c X hi e;have J:(O.getD i []).getD k 0=g.getD i 0:=X.inj (uB m c hi (by rw[bP N];exact List.getElem_mem N)) (uB m c hi L) hx;rw[J] at f;have u:=m.isP f.mem;refine⟨bD g (dH ((R.getD i []).getD k [])),m.mul p (m.inv f.mem),(Fix.mul r oq q (Fix.inv u oq f.fix)).succ ?_,?_⟩
    ·rw[cX (by rw[r.len];exact hi)]
     have:=nH u hi;rwa [f.maps] at this
    ·rw[B,←bN (r.mul u.inv) u X,bN r u.inv u,gI u,dA r]
  ·unfold cI
   rw[List.pairwise_flatMap];refine⟨λo e=>(t o ((v o).1 e)).2.1,?_⟩;have F:=wY (fF O x i);have nd:(iF (fF O x i)).Nodup:=(fW _).nodup_iff.2 (zH m c X hi);rw[List.nodup_iff_pairwise_ne] at nd;refine (F.and nd).imp_of_mem λ{a b} K P a0 z y w Y=>?_
   obtain⟨l1,Z,U⟩:=s a ((v a).1 K) z y;obtain⟨l2,Q,w2⟩:=s b ((v b).1 P) w Y;exact⟨i,oq,λj A=>by rw[U j A,w2 j A],by rw[Z,Q];omega⟩
  ·unfold cI tB
   rw[List.length_flatMap];have:(iF (fF O x i)).map (λa=>(cI O R d (i+1) (jO O R x i a)).length)=(iF (fF O x i)).map λ_=>tB O d (i+1):=List.map_congr_left λa K=>(t a ((v a).1 K)).2.2
   rw[this];have W:(iF (fF O x i)).length=(O.getD i []).length:=by rw[(fW _).length_eq];simp [fF]
   rw[←W];generalize iF (fF O x i)=l
   induction l with
   |nil=>simp
   |cons a l t=>simp only[List.map_cons,List.sum_cons,t,List.length_cons,Nat.succ_mul];omega
theorem eJ (a:mD n G)(c:dU n G O R):eQ G (cI O R n 0 (cG n))/\(cI O R n 0 (cG n)).length=tB O n 0:=by
 obtain⟨b,d,e⟩:=wG a c n 0 (cG n) oq (bT.one n);refine⟨⟨d,λx=>?_⟩,e⟩;rw[b];constructor
 ·rintro⟨g,hg,_,rfl⟩;rw[dA (a.isP hg)];exact hg
 ·exact λb=>⟨x,b,λk d=>oq,(dA (a.isP b)).symm⟩
end
end
end Go.Pm
namespace Go.Proofs.YtapfcpkecmmagaaGreat
open Go Go.Ay Go.Pm
set_option maxRecDepth 100000
theorem szF_le {O:LN}{m:Nat}(a:1<=m): ∀d i,(∀j,i<=j->j<i+d->(O.getD j []).length<=m)->tB O d i<=m^d
 |0,_,_=>fH _
 |d+1,i,h=>by
  unfold tB;rw[Nat.pow_succ,Nat.mul_comm (m^d)];exact Nat.mul_le_mul (h i (fH _) om) (szF_le a d (i+1) λj c b=>h j om om)
theorem szF_pos {O:LN}: ∀d i,(∀j,i<=j->j<i+d->0<(O.getD j []).length)->0<tB O d i
 |0,_,_=>Nat.one_pos
 |d+1,i,h=>Nat.mul_pos (h i (fH _) om) (szF_pos d (i+1) λj b a=>h j om om)
theorem GC.row {W:Nat->Prop}{h:H}{b:V}{n:Nat}{O:LN}{R:jL}{G:List Nat->Prop}(g:GC W h b n O R G){j:Nat}(a:j<n):0<(O.getD j []).length/\(O.getD j []).length<=n:=by
 refine⟨?_,jC (orb_len (λx c=>g.grp.isP c) a (g.isc.asc j a) (g.isc.mem j a)) om⟩;exact Py ((g.isc.mem j a j).2 ⟨cG n,g.grp.one,Fix.one n j om,eP a⟩)
theorem app_in {h:H}{S k c:Nat}{vs:List V}{y w:V}(a:h.get S=some (.cells false vs))(g:vs.length=c)(i:k<c)(f:c<1000000)(b:SV h y 1 [w]):
  qV h 1 8 (.sl S 0 k (.kn c)) y=some (.sl S 0 (k+1) (.kn c),h.set S (some (.cells false (vs.set k w)))):=by
 have d:qV h 1 8 (.sl S 0 k (.kn c)) y=Ay.qB h 1 8 (.sl S 0 k (.kn c)) 1 [w]:=by
  simp only[qV,b.len (n:=1) rfl om,b.slice]
 rw[d]
 have d:h.slice 1 (.sl S 0 k (.kn c))=some (vs.take k):=by
  simp only[H.slice,H.row,a,sub];rw[aV om];simp
 have e:h.put S (0+k*1) [w]=some (h.set S (some (.cells false (vs.set k w)))):=by
  rw[H.put_eq,a,Nat.zero_add,jY,bE om]
 unfold Ay.qB
 simp only[d,mH]
 rw[aZ om,aV om,aV om,e]
theorem sortN_uniq {l:List Int}{a:List Nat}(c:l.Perm (zi a))(b:l.Pairwise (· <= ·)):l=zi (iF a):=by
 refine asc_perm ?_ b ?_
 ·exact c.trans ((fW a).map _).symm
 ·unfold zi
  rw[List.pairwise_map];exact (wY a).imp λh=>om
theorem imgs_len (O:LN)(x:List Nat)(i:Nat):(fF O x i).length=(O.getD i []).length:=by simp [fF]
theorem imgs_at {O:LN}{x:List Nat}{i k:Nat}(a:k<(O.getD i []).length):(fF O x i).getD k 0=x.getD ((O.getD i []).getD k 0) 0:=by
 unfold fF;rw[gd_map (λq=>x.getD q 0) (d:=0) a]
theorem choices_ok {W:Nat->Prop}(vc vx:V)(n i:Nat)(O:LN)(R:jL)(G:List Nat->Prop)(x:List Nat)(h:H)(Q:GC W h vc n O R G)(hi:i<n)(hx:SI h vx (zi x))(X:bT n x):
  Ev T 119 [vc,vx,aB i] h (λv h'=>Frsh h h' v (zi (iF (fF O x i)))):=by
 obtain⟨vO,vR,e,sO,sR⟩:=Q.ch
 subst e
 refine bH c_rank_choices rfl rfl ?_
 have b:=Q.isc
 have n7:=Q.n7
 obtain⟨wO,tO,aO⟩:=sO
 have lO:=aO.length
 rw[iK,b.lo] at lO
 have a0:=tO.dC.2.1
 have y:vR.one=true:=sT sR
 obtain⟨B,hB⟩:=IP h.next
 obtain⟨h1,e1,n1,g1,o1,f1⟩:=dL hB [aB n,vO,vR]
 have bx:=bF h (v:= aB n) (u:=vO) (w:=vR) rfl a0 y
 have a:=getD_row aO (i:=i) (by rw[iK,b.lo];omega) .undef []
 rw[gd_map zi (d:= []) (by rw[b.lo];omega)] at a
 obtain⟨J,f,a3,U,y⟩:=(tO.mono f1).shape n om om
 have co:h1.cell J (f+i)=some (wO.getD i .undef):=by rw[y i om,List.getD,eX om];rfl
 generalize wO.getD i .undef=vo at a co
 have lo:=a.lens
 rw[aQ] at lo
 obtain⟨m,s⟩:=IP ((O.getD i []).length)
 rw[s] at lo
 have y:=Q.row (j:=i) hi
 rw[s] at y
 have mk:uJ h1 1 8 [aB 0] (aB 0) (aB m)=some (.sl (B+1) 0 0 (.kn m),h1.new (.cells false (rc m λ_=> aB 0))):=by
  rw[lZ om om om om,Cd,jY,xJ,show ints (List.replicate m 0)=rc m λ_=> aB 0 from (xT (by simp [aL]) λi hi=>by simp [ints,hi]).symm,n1]
  rfl
 obtain⟨h2,e2,y,g2,o2,f2⟩:=dL n1 (rc m λ_=> aB 0)
 rw[e2] at mk
 have y:h2.get B=some (.cells false [aB n,vO,vR]):=by rw[o2 _ om];exact g1
 have a0:h2.cell J (f+i)=some vo:=by rw[f2.cell (by have:=U om;omega)];exact co
 simp(disch:=omega)only[go_sem,c_rank_choices,aF,bx,hB,e1,H.aG g1,a3.ixa,co,lo,mk,H.aG y,a0]
 obtain⟨a2,P,A,c,K⟩:=a.open
 rw[aQ,s] at A c K
 obtain⟨idx,L,t,o,Z⟩:=hx.open
 rw[aQ,X.len] at t o Z
 refine aH (λk' l a=> ∃(k:Nat),(∃g:Nat->V,l= [g 0,vx,g 2,g 3,g 4,.sl (B+1) 0 k (.kn m),g 6,vo,aB m,aB k,g 10])/\k<=m/\a.get (B+1)=some (.cells false (rc m λj=>if j<k then aB ((fF O x i).getD j 0:Nat) else aB 0))/\B+1<a.next/\Fr h a/\k'=m-k) m
  ⟨0,aA rfl,eY _,by rw[g2];rfl,om,f1.trans f2,rfl⟩ ?_
 rintro k' l p ⟨k,⟨g,rfl⟩,a,gS,nx,F,rfl⟩
 by_cases N:(k:Int)<(m:Int)
 ·have d1:=bV N
  have Y:k<m:=om
  have cq:p.cell a2 (P+k)=some (aB ((O.getD i []).getD k 0:Nat)):=by rw[F.cell (c om),K k Y];congr 2;rw[zi,gd_map _ (d:=0) om]
  have hq:=uB Q.grp b hi (q:=(O.getD i []).getD k 0) (getD_mem om)
  have a1:=imgs_at (O:=O) (x:=x) (i:=i) (k:=k) om
  generalize (O.getD i []).getD k 0=q at cq hq a1
  have cx:p.cell idx (L+q)=some (aB (x.getD q 0:Nat)):=by rw[F.cell (o om),Z q hq];congr 2;simp [zi,X.len,hq]
  obtain⟨h5,e5,a,g5,a,r⟩:=dL (h:=p) rfl [aB (x.getD q 0:Nat)]
  have a:h5.get (B+1)=some (.cells false (rc m λj=>if j<k then aB ((fF O x i).getD j 0:Nat) else aB 0)):=by rw[r.get _ nx];exact gS
  have ap:=app_in a (cK _ _) Y om (SV.one (v:= aB (x.getD q 0:Nat)) (id:=p.next) om g5 (.kn 1))
  rw[eG] at ap
  simp(disch:=omega)only[go_sem,d1,A.ixa,cq,t.ixa,cx,cJ p (z:= aB 0) (v:= aB (x.getD q 0:Nat)) rfl rfl,e5,ap]
  rw[dX k]
  refine⟨m-(k+1),om,k+1,aA rfl,om,?_,om,(F.trans r).set om _,rfl⟩
  congr 2
  refine aX λj hj=>?_
  by_cases e:j=k
  ·subst e;rw[aV rfl,aV om,a1]
  ·rw[aZ e]
   by_cases e2:j<k
   ·rw[aV e2,aV om]
   ·rw[aZ e2,aZ om]
 have d1:=bM N
 obtain rfl:k=m:=om
 have a:(zi (fF O x i)).length=k:=by rw[aQ,imgs_len,s]
 have b:p.get (B+1)=some (.cells false (ints (zi (fF O x i)))):=by
  rw[gS,←Du,imgs_len,s];congr 2;exact aX λj hj=>by rw[aV hj]
 have c:=sort_ok p (B+1) (zi (fF O x i)) (.kn k) om b nx
 rw[a] at c
 simp(disch:=omega)only[go_sem,d1]
 refine c.mono ?_
 rintro _ h5 ⟨a,g5,b,a,r⟩
 have el:=sortN_uniq b a
 subst el
 have a:(zi (iF (fF O x i))).length=k:=by rw[aQ,(fW _).length_eq,imgs_len,s]
 simp(disch:=omega)only[go_sem]
 refine⟨⟨B+1,_,by rw[a],om,iO nx r.next,g5,.inr (by rw[a])⟩,⟨jC F.next r.next,λid a=>?_⟩⟩
 rw[r.get id (iO a F.next) (λe=>by have:id=B+1:=e;omega)]
 exact F.get id a
theorem idx_le: ∀{l:List Nat} {k im:Nat},l[k]? =some im->l.idxOf im<=k
 | [],k,im,h=>by simp at h
 |a::l,0,im,h=>by
  have:a=im:=by simpa using h
  subst this;simp [List.idxOf_cons]
 |a::l,k+1,im,h=>by
  rw[List.idxOf_cons]
  by_cases e:a=im
  ·subst e;simp
  ·have b:(a==im)=false:=by simpa using e
   rw[b];have:=idx_le (l:=l) (k:=k) (im:=im) (by simpa using h);simp only[cond_false];omega
theorem idx_ok (y A:V)(a b:Nat)(o x:List Nat)(im:Nat)(h:H)(hn:o.length<1000000)(O:SI h y (zi o))(hx:SI h A (zi x))(ha:h.get a=some (.cells false [A]))(U:h.get b=some (.cells false [aB im]))(K:a<h.next)(G:b<h.next)(W: ∀q∈o,q<x.length)(s:im∈o.map λq=>x.getD q 0):
  Ev T 94 [y,.fn 160 [] [.ptr a 0,.ptr b 0]] h (λv h'=>v= aB ((o.map λq=>x.getD q 0).idxOf im:Nat)/\Fr h h'):=by
 refine bH c_slices_IndexFunc_int_int rfl rfl ?_
 have Q:=O.lens
 rw[aQ] at Q
 obtain⟨J,w,p,f,r⟩:=O.open
 rw[aQ] at p f r
 obtain⟨idx,t,m,j,n⟩:=hx.open
 rw[aQ] at m j n
 have L:=Ye.2 s
 rw[iK] at L
 simp(disch:=omega)only[go_sem,c_slices_IndexFunc_int_int,aF,Q]
 refine aH (λN i e=> ∃(k:Nat),(∃g:Nat->V,i= [y,.fn 160 [] [.ptr a 0,.ptr b 0],g 2,g 3,aB (o.length:Int),aB k,g 6,g 7])/\k<=(o.map λq=>x.getD q 0).idxOf im/\Fr h e/\N=o.length-k) o.length
  ⟨0,aA rfl,eY _,Fr.refl h,rfl⟩ ?_
 rintro N i e ⟨k,⟨g,rfl⟩,g,F,rfl⟩
 have c:k<o.length:=om
 have Z:decide ((k:Int)<(o.length:Int))=true:=bV om
 have P:e.cell J (w+k)=some (aB (o.getD k 0:Nat)):=by rw[F.cell (f om),r k c];congr 2;rw[zi,gd_map _ (d:=0) c]
 have z:=W _ (getD_mem (d:=0) c)
 have l:(o.map λq=>x.getD q 0)[k]'(by simpa using c)=x.getD (o.getD k 0) 0:=by simp [List.getD,c]
 generalize o.getD k 0=q at P z l
 have Y:e.cell idx (t+q)=some (aB (x.getD q 0:Nat)):=by rw[F.cell (j om),n q z];congr 2;simp [zi,z]
 have ca:e.cell a 0=some A:=by rw[H.aG (by rw[F.get _ K];exact ha)];rfl
 have cb:e.cell b 0=some (aB im):=by rw[H.aG (by rw[F.get _ G];exact U)];rfl
 have cl:Ev T 160 [aB q,.ptr a 0,.ptr b 0] e (λv h'=>v= .bool (decide (((x.getD q 0:Nat):Int)=(im:Int)))/\Fr e h'):=by
  refine bH c_rank_step_1 rfl rfl ?_;simp(disch:=omega)only[go_sem,c_rank_step_1,aF,ca,m.ixa,Y,cb];exact (Fr.refl e).bL om
 simp(disch:=omega)only[go_sem,Z,p.ixa,P]
 refine cl.mono ?_
 rintro _ e ⟨rfl,R⟩
 by_cases u:((x.getD q 0:Nat):Int)=(im:Int)
 ·rw[bV u]
  simp(disch:=omega)only[go_sem]
  have:(o.map λq=>x.getD q 0).idxOf im=k:=by
   have B:(o.map λq=>x.getD q 0).idxOf im<=k:=idx_le (by
    rw[eX (by simpa using c),l]
    congr 1;omega)
   omega
  rw[this]
  exact⟨rfl,F.trans R⟩
 ·rw[bM u]
  simp(disch:=omega)only[go_sem]
  rw[dX k]
  refine⟨o.length-(k+1),om,k+1,aA rfl,?_,F.trans R,rfl⟩
  have:(o.map λq=>x.getD q 0).idxOf im≠k:=λe=>by
   have B:=List.getElem_idxOf (Ye.2 s);simp only[e] at B;rw[l] at B;omega
  omega
theorem step_ok {W:Nat->Prop}(vc l:V)(n i im:Nat)(O:LN)(R:jL)(G:List Nat->Prop)(x:List Nat)(h:H)(g:GC W h vc n O R G)(hi:i<n)(z:SI h l (zi x))(X:bT n x)(t:im∈fF O x i):
  Ev T 120 [vc,l,aB i,aB im] h (λv h'=>Frsh h h' v (zi (jO O R x i im))):=by
 obtain⟨y,F,e,sO,sR⟩:=g.ch
 subst e
 refine bH c_rank_step rfl rfl ?_
 have a:=g.isc
 have e:=g.n7
 obtain⟨wO,tO,aO⟩:=sO
 obtain⟨wR,tR,aR,e⟩:=sR
 have lO:=aO.length
 have e:=aR.length
 rw[iK,a.lo] at lO
 rw[iK,a.lr] at e
 have s:=tO.dC.2.1
 have m:=tR.dC.2.1
 obtain⟨B,hB⟩:=IP h.next
 obtain⟨h1,e1,Y,g1,e,f1⟩:=dL hB [aB n,y,F]
 obtain⟨h2,e2,n2,g2,o2,e⟩:=dL Y [l]
 obtain⟨J,e3,n3,g3,o3,f3⟩:=dL n2 [aB im]
 have A:=(f1.trans e).trans f3
 have bx:=bF h (v:= aB n) (u:=y) (w:=F) rfl s m
 have L:=kC z.dC.1 z.dC.2.1 h1
 have N:=An h2 .i64 (im:Int)
 have p:J.get B=some (.cells false [aB n,y,F]):=by rw[o3 _ om,o2 _ om];exact g1
 have r:J.get (B+1)=some (.cells false [l]):=by rw[o3 _ om];exact g2
 have b:=getD_row aO (i:=i) (by rw[iK,a.lo];omega) .undef []
 rw[gd_map zi (d:= []) (by rw[a.lo];omega)] at b
 obtain⟨m,e,P,s,s⟩:=(tO.mono A).shape n om om
 have co:J.cell m (e+i)=some (wO.getD i .undef):=by rw[s i om,List.getD,eX om];rfl
 generalize wO.getD i .undef=e at b co
 simp(disch:=omega)only[go_sem,c_rank_step,aF,bx,hB,e1,L,Y,e2,N,n2,e3,H.aG p,P.ixa,co]
 have row:=g.row (j:=i) hi
 refine (idx_ok e l (B+1) (B+1+1) (O.getD i []) x im J om (b.mono A) (z.mono A) r g3 om om (λq b=>by rw[X.len];exact uB g.grp a hi b) t).mono ?_
 rintro _ f ⟨rfl,b⟩
 obtain⟨k,hk,m,_,Q,s,Y,_⟩:=lX g.grp a X hi t
 have e:(List.map (λq=>x.getD q 0) (O.getD i [])).idxOf im=k:=m
 rw[e,s]
 have o:=A.trans b
 have a0:f.get B=some (.cells false [aB n,y,F]):=by rw[b.get _ om];exact p
 have U:f.get (B+1)=some (.cells false [l]):=by rw[b.get _ om];exact r
 have c:=getD_row aR (i:=i) (by rw[iK,a.lr];omega) .undef []
 rw[gd_map (List.map zi) (d:= []) (by rw[a.lr];omega)] at c
 obtain⟨m,b,a1,e,e⟩:=(tR.mono o).shape n om om
 have cr:f.cell m (b+i)=some (wR.getD i .undef):=by rw[e i om,List.getD,eX om];rfl
 generalize wR.getD i .undef=b at c cr
 obtain⟨wr,tr,e⟩:=c
 have lr:=e.length
 rw[iK] at lr
 have b:k<(R.getD i []).length:=by rw[a.rl i hi];exact hk
 have sz:=getD_row e (i:=k) (by rw[iK];exact b) .undef []
 rw[gd_map zi (d:= []) b] at sz
 obtain⟨b,a,K,c,c⟩:=(tr.mono o).shape (R.getD i []).length om om
 have cz:f.cell b (a+k)=some (wr.getD k .undef):=by rw[c k om,List.getD,eX om];rfl
 generalize wr.getD k .undef=vz at sz cz
 have a:(k:Int)<((R.getD i []).length:Int):=om
 have Z:=g.grp.isP Q.mem
 have fb:Fr f (H.mk f.tr (f.next+11)):=(Fr.refl f).bL om
 simp(disch:=omega)only[go_sem,H.aG a0,a1.ixa,cr,K.ixa,cz,H.aG U]
 refine (mul_gen (rfl:T 161=some c_rank_mul) vz l _ x (H.mk f.tr (f.next+11)) (by rw[Z.len];omega) (sz.mono (o.trans fb)) (z.mono (o.trans fb)) (λj a=>by rw[X.len];exact Z.dZ (by rw[←Z.len];exact a))).mono ?_
 rintro v a a
 simp(disch:=omega)only[go_sem]
 exact (newp_frsh a).le (o.trans fb)
def Kept (b:Nat)(W:Nat->Prop)(hh h':H):Prop:=hh.next<=h'.next/\ ∀id,id<hh.next->(id<b∨W id)->h'.get id=hh.get id
theorem Kept.fr {b:Nat}{W:Nat->Prop}{hh h':H}(f:Fr hh h'):Kept b W hh h':=⟨f.next,λid h _=>f.get id h⟩
structure Rdr (id b:Nat)(L:LN)(W0:Nat->Prop)(J:Nat->(Nat->Prop)->H->Prop)(D:(Nat->Prop)->H->Prop):Prop where
 kJ: ∀k W hh h',J k W hh->Kept b W hh h'->J k W h'
 kD: ∀W hh h',D W hh->Kept b W hh h'->D W h'
 y: ∀k W hh v,k<L.length->J k W hh->PV W hh v (L.getD k [])->(∀id,W id->id<hh.next)->b<=hh.next->(∀id,id<b->W id->W0 id)->
  Ey T id [v] hh (λv h'=> ∃W2,(∀id,id<hh.next->W2 id->W id)/\(∀id,W2 id->id<h'.next)/\Fx W hh h'/\(v= .bool true/\J (k+1) W2 h'∨v= .bool false/\D W2 h'))
def ElC (n:Nat)(vO vR:V)(O:LN)(R:jL)(G:List Nat->Prop)(d:Nat):Prop:=
 ∀(i:Nat) (x:List Nat) (vx:V) (id bi bc bx:Nat) (h:H) (W:Nat->Prop) (J:Nat->(Nat->Prop)->H->Prop) (D:(Nat->Prop)->H->Prop),i+d=n->bT n x->
  h.get bi=bX [aB i]->h.get bc=bX [aB n,vO,vR]->h.get bx=bX [vx]->PV W h vx x->bi<h.next->bc<h.next->bx<h.next-> ¬W bi-> ¬W bc-> ¬W bx->
  GC W h (.agg [aB n,vO,vR]) n O R G->(∀id,W id->id<h.next)->J 0 W h->Rdr id h.next (cI O R d i x) W J D->
  Ev T 118 [.yl id,.ptr bi 0,.ptr bc 0,.ptr bx 0] h (λ_ h'=> ∃W2,(∀id,id<h.next->W2 id->W id)/\(∀id,W2 id->id<h'.next)/\Fx W h h'/\(J (cI O R d i x).length W2 h'∨D W2 h'))
theorem el_zero (n:Nat)(r p:V)(O:LN)(R:jL)(G:List Nat->Prop):ElC n r p O R G 0:=by
 intro i x s id t z A h W J D hi X w f l u g g g g g g g k q rd;refine bH c_rank_elements_1 rfl rfl ?_;obtain rfl:i=n:=om
 obtain⟨B,e⟩:=IP h.next;obtain⟨a,m,g,j,b,c⟩:=dL e [.yl id];have d:=kC (x:= .yl id) rfl rfl h;have ci:=H.aG (h:=a) (id:=t) (by rw[b _ om];exact w);have v:=H.aG (h:=a) (id:=z) (by rw[b _ om];exact f);have o:=H.aG (h:=a) (id:=A) (by rw[b _ om];exact l);have b:decide ((i:Int)=(i:Int))=true:=bV rfl;simp(disch:=omega)only[go_sem,c_rank_elements_1,aF,d,e,m,ci,v];refine bB (λ_=>?_) (λb=>(b (by first|rfl|trivial)).elim);simp(disch:=omega)only[go_sem,H.aG j,o];refine (rd.y 0 W a s (by simp [cI]) (rd.kJ 0 W h a q (Kept.fr c)) (u.mono c) (λid h=>by have:=k id h;omega) om (λid _ h=>h)).mono ?_;rintro v d ⟨g,e,i,f,b⟩;simp(disch:=omega)only[go_sem];refine⟨g,λid a d=>e id om d,i,(Fx.of c).trans f (λ_ _ h=>h),?_⟩;rcases b with ⟨_,b⟩|⟨_,b⟩
 ·exact .inl b
 ·exact .inr b
theorem rel_ok (d:Int)(c b a:V)(i:Int)(z:c.one=true)(K:b.one=true)(f:a.cells= [a])(j:a.one=true)(h:H):Ev T 98 [.agg [aB d,c,b],a,aB i] h (λv h'=>v= .fn 118 [] [.ptr (h.next+1+1) 0,.ptr h.next 0,.ptr (h.next+1) 0]/\
  h'.get h.next=bX [aB d,c,b]/\h'.get (h.next+1)=bX [a]/\h'.get (h.next+1+1)=bX [aB i]/\h'.next=h.next+3/\Fr h h'):=by
 refine bH c_rank_elements rfl rfl ?_
 obtain⟨B,k⟩:=IP h.next
 obtain⟨e,L,l,p,g,r⟩:=dL k [aB d,c,b]
 obtain⟨q,t,m,x,o,F⟩:=dL l [a]
 obtain⟨g,A,y,s,n,G⟩:=dL m [aB i]
 have J:=bF h (v:= aB d) (u:=c) (w:=b) rfl z K
 have g:=kC f j e
 have e:=An q .i64 i
 simp(disch:=omega)only[go_sem,c_rank_elements,aF,J,k,L,g,l,t,e,m,A]
 exact⟨by rw[n _ om,o _ om];exact p,by rw[n _ om];exact x,s,y,(r.trans F).trans G⟩
theorem offs {α β:Type}{l:List α}{f:α->List β}{m:Nat}(a:m<l.length)(d:α):((l.take (m+1)).flatMap f).length=((l.take m).flatMap f).length+(f (l.getD m d)).length:=by
 rw[take_getD d a,List.flatMap_append];simp
theorem offs_at {α β:Type}{f:α->List β}{e:β}(d:α): ∀{l:List α} {m k:Nat},m<l.length->k<(f (l.getD m d)).length->(l.flatMap f).getD (((l.take m).flatMap f).length+k) e=(f (l.getD m d)).getD k e/\((l.take m).flatMap f).length+k<(l.flatMap f).length
 | [],m,k,h,_=>by simp at h
 |a::l,0,k,_,b=>by
  have b:k<(f a).length:=b;constructor
  ·simp only[List.take_zero,List.flatMap_nil,List.length_nil,Nat.zero_add,List.flatMap_cons]
   rw[List.getD,List.getD,vY b];rfl
  ·simp;omega
 |a::l,m+1,k,h,b=>by
  have i:m<l.length:=by simpa using h
  have c:k<(f (l.getD m d)).length:=by simpa using b
  obtain⟨g,j⟩:=offs_at (e:=e) d (l:=l) i c;constructor
  ·simp only[List.take_succ_cons,List.flatMap_cons,jD]
   rw[Nat.add_assoc,List.getD,Dw om,Nat.add_sub_cancel_left];exact g
  ·simp only[List.take_succ_cons,List.flatMap_cons,jD];omega
structure InJ (off id2 b4 id:Nat)(r:fM)(J:Nat->(Nat->Prop)->H->Prop)(W0:Nat->Prop)(k:Nat)(W:Nat->Prop)(hh:H):Prop where
 ex: ∃W3,(∀id,W id↔(W3 id∨id=id2))/\ ¬W3 id2/\ ¬W3 b4/\J (off+k) W3 hh/\(∀id,W3 id->id<hh.next)/\ ∀id,id<id2->W3 id->W0 id
 gr:hh.get id2=some (.loop r)
 g4:hh.get b4=bX [.yl id]
 nx:id2<hh.next
structure InD (id2 b4:Nat)(r:fM)(D:(Nat->Prop)->H->Prop)(W0:Nat->Prop)(W:Nat->Prop)(hh:H):Prop where
 ex: ∃W3,(∀id,W id↔(W3 id∨id=id2))/\ ¬W3 id2/\D W3 hh/\(∀id,W3 id->id<hh.next)/\ ∀id,id<id2->W3 id->W0 id
 gr:hh.get id2=some (.loop (uZ r .ret))
 nx:id2<hh.next
theorem el_succ (n:Nat)(F K:V)(O:LN)(R:jL)(G:List Nat->Prop)(d:Nat)(ih:ElC n F K O R G d):ElC n F K O R G (d+1):=by
 intro i x vx id bi bc bx h W J D hi X gi gc gx px li lc lx wi wc wx gC hW hJ rd;refine bH c_rank_elements_1 rfl rfl ?_;have a6:i<n:=om
 have n7:=gC.n7
 obtain⟨c9,c4⟩:F.one=true/\K.one=true:=by
  obtain⟨a,b,e,s1,s2⟩:=gC.ch;cases e;obtain⟨_,t1,_⟩:=s1;obtain⟨_,t2,_⟩:=s2;exact⟨t1.dC.2.1,t2.dC.2.1⟩
 obtain⟨B,hB⟩:=IP h.next;obtain⟨p,e1,n1,g1,o1,f1⟩:=dL hB [.yl id];have a5:=kC (x:= .yl id) rfl rfl h;have c7:p.get bi=bX [aB i]:=by rw[o1 _ om];exact gi
 have b2:p.get bc=bX [aB n,F,K]:=by rw[o1 _ om];exact gc
 have c2:p.get bx=bX [vx]:=by rw[o1 _ om];exact gx
 have d1:decide ((i:Int)=(n:Int))=false:=bM om;have e8:=aS b2;simp(disch:=omega)only[go_sem,c_rank_elements_1,aF,a5,hB,e1,H.aG c7,H.aG b2,d1,e8,H.aG c2];refine (choices_ok (.agg [aB n,F,K]) vx n i O R G x p (gC.mono f1) a6 (px.mono f1).si X).mono ?_;rintro v8 c b1;obtain⟨w,a5⟩:=IP (iF (fF O x i));rw[a5] at b1;have f2:=b1.fr;have F2:=f1.trans f2
 have e8:w.length<=7:=by
  have:=(gC.row (j:=i) a6).2;rw[←a5,(fW _).length_eq,imgs_len];omega
 have d7: ∀q,q∈w->q∈fF O x i:=λq h=>(fW _).mem_iff.1 (by rw[a5];exact h)
 have hL:cI O R (d+1) i x=w.flatMap λq=>cI O R d (i+1) (jO O R x i q):=by rw[←a5];rfl
 obtain⟨P,cp,b9,a5,e2,gP,_⟩:=b1.ex;rw[aQ] at b9;have l8:cV v8=some (aB (w.length:Int)):=by rw[b9];rfl
 have e9:J 0 W c:=rd.kJ 0 W h c hJ (Kept.fr F2);have n2:=f2.next;simp(disch:=omega)only[go_sem,l8];refine aH (λk' a9 hh=> ∃(m:Nat) (s:Nat->Prop),(∃g:Nat->V,a9= [.yl id,.ptr bi 0,.ptr bc 0,.ptr bx 0,.ptr B 0,g 5,g 6,g 7,v8,aB (w.length:Int),aB m,g 11,g 12,g 13,g 14])/\m<=w.length/\J ((w.take m).flatMap λq=>cI O R d (i+1) (jO O R x i q)).length s hh/\Fx W c hh/\(∀id,id<c.next->s id->W id)/\(∀id,s id->id<hh.next)/\k'=w.length-m) w.length
  ⟨0,W,aA rfl,eY _,e9,Fx.refl _ _,λ_ _ h=>h,λid h=>by have:=hW id h;omega,rfl⟩ ?_
 rintro k' a9 u ⟨m,s,⟨g,rfl⟩,g,a3,F3,w1,w2,rfl⟩
 by_cases c6:(m:Int)<(w.length:Int)
 case neg=>
  have d2:=bM c6;obtain rfl:m=w.length:=om
  simp(disch:=omega)only[go_sem,d2];rw[List.take_length,←hL] at a3;exact⟨s,λid p c=>w1 id om c,w2,(Fx.of F2).trans F3 (λ_ _ h=>h),.inl a3⟩
 have d2:=bV c6;have a4:m<w.length:=om
 obtain⟨q,Q⟩:=IP (w.getD m 0);have a8:q∈fF O x i:=d7 q (by rw[←Q];exact getD_mem a4);obtain⟨_,_,_,_,_,_,Y,_⟩:=lX gC.grp gC.isc X a6 a8;have g:=F3.next;have keep: ∀k,k<c.next-> ¬W k->u.get k=c.get k:=λk p c=>F3.get k p c
 have wB: ¬W B:=λh=>by have:=hW B h;omega
 have g: ¬W P:=λh=>by have:=hW P h;omega
 have c3:u.get bi=bX [aB i]:=by rw[keep _ om wi,f2.get _ om];exact c7
 have b7:u.get bc=bX [aB n,F,K]:=by rw[keep _ om wc,f2.get _ om];exact b2
 have e6:u.get bx=bX [vx]:=by rw[keep _ om wx,f2.get _ om];exact c2
 have e4:u.get B=bX [.yl id]:=by rw[keep _ om wB,f2.get _ om];exact g1
 have cP:u.cell P m=some (aB q):=by rw[H.aG (by rw[keep _ e2 g];exact gP),tY a4,Q]
 have d5:=aS b7
 have eO:dJ F F=true:=by
  obtain⟨a,b,e,s1,s2⟩:=gC.ch;cases e;obtain⟨_,t1,_⟩:=s1;exact t1.dJ
 have eR:dJ K K=true:=by
  obtain⟨a,b,e,s1,s2⟩:=gC.ch;cases e;obtain⟨_,t2,_⟩:=s2;exact t2.dJ
 have b:GC W u (.agg [aB n,F,K]) n O R G:=(gC.mono F2).go F3 (λ_ _ h=>h);have P:PV W u vx x:=(px.mono F2).fx F3;have g:Fr u (H.mk u.tr (u.next+9)):=(Fr.refl u).bL om;rw[b9];have a:(i:Int)+1=((i+1:Nat):Int):=om
 simp(disch:=omega)only[go_sem,d2,cP,d5,aS (h:=H.mk u.tr (u.next+9)) b7,H.aG e6,H.aG c3,a];refine (step_ok (.agg [aB n,F,K]) vx n i q O R G x (H.mk u.tr (u.next+9)) (b.mono g) a6 (P.mono g).si X a8).mono ?_;rintro b5 h4 a;have f4:=g.trans a.fr;have b:=f4.next;have b:h4.get bi=bX [aB i]:=by rw[f4.get _ om];exact c3
 have g:h4.get bc=bX [aB n,F,K]:=by rw[f4.get _ om];exact b7
 have b8:PV s h4 b5 (jO O R x i q):=a.pv λid h=>by have:=w2 id h;simp;omega
 simp(disch:=omega)only[go_sem,H.aG b,aS g,eO,eR];refine (rel_ok (n:Int) F K b5 ((i+1:Nat):Int) c9 c4 b8.dQ.1 b8.dQ.2 h4).mono ?_;rintro _ h5 ⟨rfl,e5,d9,e0,a,f5⟩;simp(disch:=omega)only[go_sem];refine⟨rfl,sJ λr hr=>?_⟩;obtain⟨o,b6⟩:=IP h5.next;rw[b6];have gY:r.st= .ready:=by rw[hr]
 have c1:r.pend=none:=by rw[hr]
 obtain⟨h6,a0⟩: ∃h6,h6=h5.new (.loop r):=⟨_,rfl⟩
 have d3:h6.get o=some (.loop r):=by rw[a0,←b6,H.aN]
 have a:h6.next=o+1:=by rw[a0,H.aY,b6]
 have f6:Fr h5 h6:=by rw[a0];exact (Fr.refl h5).new _
 rw[←a0];have b4:=(f4.trans f5).trans f6;obtain⟨N,L⟩:=IP (((w.take m).flatMap λq=>cI O R d (i+1) (jO O R x i q)).length);rw[L] at a3;have a:=f5.next;have d4: ¬s o:=λh=>by have:=w2 o h;omega
 have e3: ¬s B:=λh=>wB (w1 B om h)
 have b: ∀k,k<(cI O R d (i+1) (jO O R x i q)).length->(cI O R (d+1) i x).getD (N+k) []=(cI O R d (i+1) (jO O R x i q)).getD k []/\N+k<(cI O R (d+1) i x).length:=λk hk=>by
  rw[hL,←L];have:=offs_at (f:=λq=>cI O R d (i+1) (jO O R x i q)) (e:=([]:List Nat)) 0 (l:=w) (m:=m) (k:=k) a4 (by rw[Q];exact hk);rw[Q] at this;exact this
 have c0:Fx W h h6:=((Fx.of F2).trans F3 (λ_ _ h=>h)).trans (Fx.of b4) (λ_ _ h=>h)
 have d0:Rdr o h6.next (cI O R d (i+1) (jO O R x i q)) (λk=>s k∨k=o) (InJ N o B id r J s) (InD o B r D s):=by
  refine⟨λk W2 hh g j a=>?_,λW2 hh g j a=>?_,λk W2 hh v hk j pv g g g=>?_⟩
  ·obtain⟨W3,t,Z,q3,q4,q5,q6⟩:=j.ex
   have nx:=j.nx;exact⟨⟨W3,t,Z,q3,rd.kJ _ _ _ _ q4 ⟨a.1,λid p c=>a.2 id p (by rcases c with c|c;exact .inl om;exact .inr ((t id).2 (.inl c)))⟩,λid h=>iO (q5 id h) a.1,q6⟩,by rw[a.2 _ nx (.inl om)];exact j.gr,by rw[a.2 _ om (.inl om)];exact j.g4,iO nx a.1⟩
  ·obtain⟨W3,t,Z,q4,q5,q6⟩:=j.ex
   have nx:=j.nx;exact⟨⟨W3,t,Z,rd.kD _ _ _ q4 ⟨a.1,λid p c=>a.2 id p (by rcases c with c|c;exact .inl om;exact .inr ((t id).2 (.inl c)))⟩,λid h=>iO (q5 id h) a.1,q6⟩,by rw[a.2 _ nx (.inl om)];exact j.gr,iO nx a.1⟩
  ·obtain⟨W3,t,Z,q3,q4,q5,q6⟩:=j.ex
   have nx:=j.nx;obtain⟨e7,d6⟩:=b k hk;refine pM j.gr (by rw[hr];rfl) gY λh9 g9 n9 a=>?_
   rw[congrArg fM.assign hr,congrArg fM.vars hr,congrArg fM.pars hr];simp(disch:=omega)only[go_sem,List.zip_cons_cons,List.zip_nil_left];rw[congrArg fM.body hr];have c8:h9.get B=bX [.yl id]:=by rw[a _ om];exact j.g4
   have f9:Fx W2 hh h9:=⟨om,λk _ c=>a k λe=>c ((t k).2 (.inr e))⟩
   have k9:Kept h.next W3 hh h9:=⟨om,λk p c=>a k λe=>by
    subst e;rcases c with c|c
    ·omega
    ·exact Z c⟩
   simp(disch:=omega)only[go_sem,H.aG c8];refine (rd.y (N+k) W3 h9 v d6 (rd.kJ _ _ _ _ q4 k9) (by rw[e7];exact PV.go pv f9 λid _ h=>(t id).2 (.inl h)) (λid h=>by rw[n9];exact q5 id h) om (λid p c=>w1 id om (q6 id om c))).mono ?_;rintro a z ⟨W4,u1,u2,a,hv⟩;have b:=a.next;have b3: ¬W4 o:=λh=>Z (u1 o om h)
   have d8: ¬W4 B:=λh=>q3 (u1 B om h)
   have b0:z.get o=some (.loop (nW r)):=by rw[a.get o om Z];exact g9
   have c5:z.get B=bX [.yl id]:=by rw[a.get B om q3];exact c8
   have a7:Fx W2 hh z:=f9.trans a λid _ h=>(t id).2 (.inl h)
   have low: ∀k,k<o->W4 k->s k:=λk p c=>q6 k p (u1 k om c)
   have kk: ∀a:fM,Kept h.next W4 z (z.set o (some (.loop a))):=λa=>⟨fH _,λk p c=>H.aI _ (λe=>by
    subst e;rcases c with c|c
    ·omega
    ·exact b3 c) _⟩
   rcases hv with ⟨rfl,hv⟩|⟨rfl,hv⟩
   ·simp(disch:=omega)only[go_sem]
    refine pG gY c1 b0 ⟨λk=>W4 k∨k=o,λk p c=>?_,λk c=>?_,a7.trans (Fx.set z ((t o).2 (.inr rfl)) _) (λ_ _ h=>h),.inl ⟨rfl,⟨W4,λk=>Iff.rfl,b3,d8,?_,u2,low⟩,by rw[H.aT],by rw[H.aI _ om];exact c5,by simp only[H.cZ];omega⟩⟩
    ·rcases c with c|c
     ·exact (t k).2 (.inl (u1 k om c))
     ·exact (t k).2 (.inr c)
    ·rcases c with c|c
     ·exact u2 k c
     ·simp only[H.cZ];omega
    ·exact rd.kJ _ _ _ _ hv (kk r)
   ·simp(disch:=omega)only[go_sem]
    refine Ec b0 ⟨λk=>W4 k∨k=o,λk p c=>?_,λk c=>?_,a7.trans (Fx.set z ((t o).2 (.inr rfl)) _) (λ_ _ h=>h),.inr ⟨rfl,⟨W4,λk=>Iff.rfl,b3,?_,u2,low⟩,by rw[H.aT],by simp only[H.cZ];omega⟩⟩
    ·rcases c with c|c
     ·exact (t k).2 (.inl (u1 k om c))
     ·exact (t k).2 (.inr c)
    ·rcases c with c|c
     ·exact u2 k c
     ·simp only[H.cZ];omega
    ·exact rd.kD _ _ _ hv (kk _)
 have A: ∀k,k<h5.next->h6.get k=h5.get k:=λk hk=>f6.get k hk
 have a:GC (λk=>s k∨k=o) h6 (.agg [aB n,F,K]) n O R G:=gC.go c0 λk p c=>by
  rcases c with c|c
  ·exact w1 k om c
  ·omega
 refine (ih (i+1) (jO O R x i q) b5 o (h4.next+1+1) h4.next (h4.next+1) h6 (λk=>s k∨k=o) (InJ N o B id r J s) (InD o B r D s) om Y (by rw[A _ om];exact e0) (by rw[A _ om];exact e5) (by rw[A _ om];exact d9)
  (((b8.mono f5).weak λk p c=>(by rcases c with c|c;exact c;omega)).mono f6) om om om (λh=>by rcases h with h|h;have:=w2 _ h;omega;omega) (λh=>by rcases h with h|h;have:=w2 _ h;omega;omega) (λh=>by rcases h with h|h;have:=w2 _ h;omega;omega) a (λk h=>by rcases h with h|h;have:=w2 _ h;omega;omega)
  ⟨⟨s,λk=>Iff.rfl,d4,e3,rd.kJ _ _ _ _ a3 (Kept.fr b4),λk h=>by have:=w2 _ h;omega,λ_ _ h=>h⟩,d3,by rw[A _ om,f5.get _ om,f4.get _ om];exact e4,om⟩ d0).mono ?_
 rintro _ h7 ⟨a,a,a,F7,j|j⟩
 ·obtain⟨W3,t,Z,q3,q4,q5,q6⟩:=j.ex
  have nx:=j.nx;refine⟨r,j.gr,by rw[gY];simp,?_⟩;have en:r.pend.getD .norm= .norm:=by rw[c1];rfl
  rw[en];simp(disch:=omega)only[go_sem];rw[dX m]
  have U:Fx W c h7:=F3.trans ((Fx.of (W:=λk=>s k∨k=o) b4).trans F7 (λ_ _ h=>h)) λk p c=>by
   rcases c with c|c
   ·exact w1 k p c
   ·omega
  refine⟨w.length-(m+1),om,m+1,W3,aA rfl,om,?_,⟨U.next,λk p c=>by rw[H.aI _ om];exact U.get k p c⟩,λk p c=>w1 k p (q6 k om c),q5,rfl⟩;rw[offs a4 0,Q,L]
  refine rd.kJ _ _ _ _ q4 ⟨fH _,λk p c=>H.aI _ (λe=>by
   subst e;rcases c with c|c
   ·omega
   ·exact Z c) _⟩
 ·obtain⟨W3,t,Z,q4,q5,q6⟩:=j.ex
  have nx:=j.nx;refine⟨_,j.gr,by simp [uZ],?_⟩;have en:(uZ r .ret).pend.getD .norm= .ret:=rfl;rw[en];simp(disch:=omega)only[go_sem]
  have U:Fx W h h7:=c0.trans F7 λk p c=>by
   rcases c with c|c
   ·exact w1 k om c
   ·omega
  refine⟨W3,λk p c=>w1 k om (q6 k om c),q5,⟨U.next,λk p c=>by rw[H.aI _ om];exact U.get k p c⟩,.inr ?_⟩
  refine rd.kD _ _ _ q4 ⟨fH _,λk p c=>H.aI _ (λe=>by
   subst e;rcases c with c|c
   ·omega
   ·exact Z c) _⟩
theorem el_all (n:Nat)(b a:V)(O:LN)(R:jL)(G:List Nat->Prop): ∀d,ElC n b a O R G d
 |0=>el_zero n b a O R G
 |d+1=>el_succ n b a O R G d (el_all n b a O R G d)
def OwnE (W M:Nat->Prop)(b:Nat)(hh:H)(w:V)(x:List Nat):Prop:= ∃id cap,w= .sl id 0 x.length cap/\W id/\ ¬M id/\b<=id/\id<hh.next/\hh.get id=bX (ints (zi x))
structure LsJ (h:H)(b0 A B id2:Nat)(r:fM)(l:LN)(W:Nat->Prop)(hh:H):Prop where
 ex: ∃va ws M,hh.get A=bX [va]/\Own hh va 1 ws (id2+1)/\All2 (OwnE W M (id2+1) hh) ws l/\BlkIn M va/\(∀id,M id->W id)/\(∀id,M id->id<hh.next)/\M A/\ ∀id off n c,va= .sl id off n c->id≠id2/\id≠A
 gr:hh.get id2=some (.loop r)
 wA:W A
 w2:W id2
 g1:hh.get (B+1)=bX [.aD]
 g2:hh.get (B+1+1)=bX [aB 0]
 nx:id2<hh.next
 nA:A<hh.next
 fr:Fr h hh
theorem LsJ.kept {h:H}{d b A B a:Nat}{r:fM}{l:LN}{W:Nat->Prop}{hh h':H}(j:LsJ h d A B a r l W hh)(k:Kept b W hh h')(q:B+1+1<b)(s:h.next<=b)(i:b<=hh.next):LsJ h d A B a r l W h':=by
 obtain⟨c,n,M,p,e,el,f,g,m,o,ne⟩:=j.ex
 refine⟨⟨c,n,M,by rw[k.2 A j.nA (.inr j.wA)];exact p,e.mono k.1 λid c n c e _ c=>k.2 id c (.inr (g _ (f _ _ _ _ e))),el.mono λw x ⟨id,cap,e,e1,e2,e3,e4,e5⟩=>⟨id,cap,e,e1,e2,e3,iO e4 k.1,by rw[k.2 id e4 (.inr e1)];exact e5⟩,f,g,λid h=>iO (m id h) k.1,o,ne⟩,
  by rw[k.2 _ j.nx (.inr j.w2)];exact j.gr,j.wA,j.w2,by rw[k.2 _ om (.inl om)];exact j.g1,by rw[k.2 _ om (.inl om)];exact j.g2,iO j.nx k.1,iO j.nA k.1,⟨jC j.fr.next k.1,λid c=>by rw[k.2 id (iO c j.fr.next) (.inl om)];exact j.fr.get id c⟩⟩
theorem szF_fact {W:Nat->Prop}{h:H}{e:V}{n:Nat}{O:LN}{R:jL}{G:List Nat->Prop}(g:GC W h e n O R G):tB O n 0<=5040:=by
 have b: ∀i,i<n->(O.getD i []).length<=n-i:=λi hi=>orb_len (λx c=>g.grp.isP c) hi (g.isc.asc i hi) (g.isc.mem i hi)
 have a: ∀d i,i+d=n->tB O d i<= [1,1,2,6,24,120,720,5040].getD d 0:=by
  intro d
  induction d with
  |zero=>intro i _;simp [tB]
  |succ d ih=>
   intro i hi;unfold tB;have c:=ih (i+1) om;have f:=b i om;have j:(O.getD i []).length<=d+1:=om
   have b:=g.n7;have f:=Nat.mul_le_mul j c;refine jC f ?_;have:d<=6:=om
   match d,this with
   |0,_=>decide
   |1,_=>decide
   |2,_=>decide
   |3,_=>decide
   |4,_=>decide
   |5,_=>decide
   |6,_=>decide
 have b:=g.n7;refine jC (a n 0 om) ?_
 match n,b with
 |0,_=>decide
 |1,_=>decide
 |2,_=>decide
 |3,_=>decide
 |4,_=>decide
 |5,_=>decide
 |6,_=>decide
 |7,_=>decide
theorem list_bad (l:V)(d:Int)(O:List (List Int))(R:List (List (List Int)))(h:H)(n:ChI h l d O R)(x:d<=7∨64<d)(z:SmallO O)(sr:SmallR R)(r:chkE d O R≠0):
  Ev T 68 [l] h (λv h'=>v= .tup [.aD,aB (chkE d O R)]/\Fr h h'):=by
 have g:=n
 obtain⟨f,c,e,L,t⟩:=n
 subst e
 refine bH c_rank_List rfl rfl ?_
 have b:f.one=true:=tH L
 have a:c.one=true:=sT t
 obtain⟨B,i⟩:=IP h.next
 obtain⟨e,A,j,s,e,e⟩:=dL i [aB d,f,c]
 obtain⟨t,J,m,y,F,t⟩:=dL j [.aD]
 obtain⟨q,K,L,G,o,L⟩:=dL m [aB 0]
 have p:=(e.trans t).trans L
 have N:=bF h (v:= aB d) (u:=f) (w:=c) rfl b a
 have a:q.get B=bX [aB d,f,c]:=by rw[o _ om,F _ om];exact s
 have b:=aS a
 simp(disch:=omega)only[go_sem,c_rank_List,aF,N,i,A,j,J,m,K,b]
 refine (check_ok _ d O R q (g.mono p) x z sr).mono ?_
 rintro _ k ⟨rfl,a⟩
 have e:k.get (B+1)=bX [.aD]:=by rw[a.get _ om,o _ om];exact y
 have c:k.get (B+1+1)=bX [aB 0]:=by rw[a.get _ om];exact G
 have g:=bV r
 have f: ∀(b:H) (id:Nat) (u w:V),dS (bX [u]) b id 0 [w]=some (b.set id (bX [w])):=λb id u w=>bE (by simp) b _ _
 have b:=a.next
 simp(disch:=omega)only[go_sem,g,e,c,f]
 exact ((p.trans a).set om _).set om _
theorem list_ok {W0:Nat->Prop}(vc:V)(n:Nat)(O:LN)(R:jL)(G:List Nat->Prop)(h:H)(gc:GC W0 h vc n O R G):
  Ev T 68 [vc] h (λv h'=> ∃vl,v= .tup [vl,aB 0]/\NewL h h' vl (cI O R n 0 (cG n))):=by
 obtain⟨vO,vR,e,sO,sR⟩:=gc.ch
 subst e
 refine bH c_rank_List rfl rfl ?_
 have d4:=gc.isc
 have t:=gc.n0
 have t:=gc.n7
 have b2:vO.one=true:=tH sO
 have b1:vR.one=true:=sT sR
 have eO:dJ vO vO=true:=by obtain⟨_,t,_⟩:=sO;exact t.dJ
 have eR:dJ vR vR=true:=by obtain⟨_,t,_⟩:=sR;exact t.dJ
 obtain⟨L,hL⟩:=IP (cI O R n 0 (cG n))
 obtain⟨t,ll⟩:=eJ gc.grp d4
 have d4:=szF_fact gc
 rw[hL] at t ll
 have LP: ∀k,k<L.length->bT n (L.getD k []):=λk Z=>gc.grp.isP ((t.mem _).1 (getD_mem Z))
 obtain⟨B,hB⟩:=IP h.next
 obtain⟨h1,e1,n1,g1,t,t⟩:=dL hB [aB n,vO,vR]
 obtain⟨l,P,n2,g2,o2,f2⟩:=dL n1 [.aD]
 obtain⟨h3,e3,n3,g3,o3,f3⟩:=dL n2 [aB 0]
 have F3:=(t.trans f2).trans f3
 have bx:=bF h (v:= aB n) (u:=vO) (w:=vR) rfl b2 b1
 have c6:h3.get B=bX [aB n,vO,vR]:=by rw[o3 _ om,o2 _ om];exact g1
 have t:=aS c6
 simp(disch:=omega)only[go_sem,c_rank_List,aF,bx,hB,e1,n1,P,n2,e3,t]
 refine ((gc.mono F3).check).mono ?_
 rintro _ h4 ⟨rfl,t⟩
 have n4:=t.next
 obtain⟨A,hA⟩:=IP h4.next
 obtain⟨N,e5,n5,g5,o5,f5⟩:=dL hA [.aD]
 have b0:N.get B=bX [aB n,vO,vR]:=by rw[f5.get _ om,t.get _ om];exact c6
 have d1:N.get (B+1)=bX [.aD]:=by rw[f5.get _ om,t.get _ om,o3 _ om];exact g2
 have d7:N.get (B+1+1)=bX [aB 0]:=by rw[f5.get _ om,t.get _ om];exact g3
 have F5:=(F3.trans t).trans f5
 have e4:=aS b0
 have c0:=aS (h:=H.mk N.tr (N.next+5)) b0
 simp(disch:=omega)only[go_sem]
 refine bB (λt=>(t (by first|rfl|trivial)).elim) (λ_=>?_)
 simp(disch:=omega)only[go_sem,hA,e5,e4,c0,H.aG b0]
 refine (one_gen (rfl:T 99=some c_rank_one) n (H.mk N.tr (N.next+5)) om).mono ?_
 rintro v6 h6 t
 have fb:Fr N (H.mk N.tr (N.next+5)):=(Fr.refl N).bL om
 have f6:=fb.trans t.fr
 have n6:=f6.next
 have c0:h6.get B=bX [aB n,vO,vR]:=by rw[f6.get _ om];exact b0
 have c7:=newp_frsh t
 have t:=c7.own
 simp(disch:=omega)only[go_sem,aS c0,eO,eR]
 refine (rel_ok (n:Int) vO vR v6 0 b2 b1 t.sv.dC.1 t.sv.dC.2.1 h6).mono ?_
 rintro _ h7 ⟨rfl,d3,d8,d0,t,f7⟩
 simp(disch:=omega)only[go_sem]
 refine⟨rfl,sJ λr hr=>?_⟩
 obtain⟨a,b8⟩:=IP h7.next
 rw[b8]
 have gY:r.st= .ready:=by rw[hr]
 have c2:r.pend=none:=by rw[hr]
 obtain⟨h8,a9⟩: ∃h8,h8=h7.new (.loop r):=⟨_,rfl⟩
 have d9:h8.get a=some (.loop r):=by rw[a9,←b8,H.aN]
 have t:h8.next=a+1:=by rw[a9,H.aY,b8]
 have f8:Fr h7 h8:=by rw[a9];exact (Fr.refl h7).new _
 have x: ∀k,k<h7.next->h8.get k=h7.get k:=λk Z=>f8.get k Z
 rw[←a9]
 have t:=(f6.trans f7).trans f8
 have F8:=F5.trans t
 have b3: ∀k,k<N.next->h8.get k=N.get k:=λk Z=>t.get k Z
 have J0:LsJ h B A B a r (L.take 0) (λk=>k=A∨k=a) h8:=
  ⟨⟨.aD, [],λk=>k=A,by rw[b3 _ om];exact g5,Own.aD _ _ _,trivial,λ_ _ _ _ e=>(by cases e),λk h=> .inl h,λk h=>by have:k=A:=h;omega,rfl,λ_ _ _ _ e=>(by cases e)⟩,d9,.inl rfl,.inr rfl,by rw[b3 _ om];exact d1,by rw[b3 _ om];exact d7,om,om,F8⟩
 have t: ∀k,(k=A∨k=a)->k<h8.next:=λk h=>by rcases h with h|h<;>omega
 have N:GC (λk=>k=A∨k=a) h8 (.agg [aB n,vO,vR]) n O R G:=gc.go (Fx.of F8) λk h1 l=>by rcases l with l|l<;>omega
 have p6:PV (λk=>k=A∨k=a) h8 v6 (cG n):=by
  obtain⟨i5,c5,ev,a1,a2,a3,a4⟩:=c7.ex;simp only at a1;rw[ev];exact⟨SV.all (by rw[aL,jY]) (by have:=(f7.trans f8).next;omega) (by rw[x _ (by have:=f7.next;omega),f7.get _ a2];exact a3) _,λh=>by have:i5=A∨i5=a:=h;have:=f7.next;omega⟩
 refine (el_all n vO vR O R G n 0 (cG n) v6 a (h6.next+1+1) h6.next (h6.next+1) h8 (λk=>k=A∨k=a) (λk W F=>LsJ h B A B a r (L.take k) W F) (λ_ _=>False) om (bT.one n)
  (by rw[x _ om];exact d0) (by rw[x _ om];exact d3) (by rw[x _ om];exact d8) p6 om om om (λh=>by rcases h with h|h<;>omega) (λh=>by rcases h with h|h<;>omega) (λh=>by rcases h with h|h<;>omega) N t J0 ?_).mono ?_
 ·rw[hL]
  refine⟨λk W F h' j t=>j.kept t om (by have:=F8.next;omega) (by have:=j.nx;omega),λ_ _ _ h=>h.elim,λk W F v Z j pv d6 t t=>?_⟩
  obtain⟨va,ws,M,gA,ow,el,bl,mw,mn,mA,ne⟩:=j.ex
  have nx:=j.nx
  have nA:=j.nA
  have c3:=All2.length el
  rw[xV,Nat.min_eq_left om] at c3
  refine pM j.gr (by rw[hr];rfl) gY λs g9 t o9=>?_
  rw[congrArg fM.assign hr,congrArg fM.vars hr,congrArg fM.pars hr]
  simp(disch:=omega)only[go_sem,List.zip_cons_cons,List.zip_nil_left]
  rw[congrArg fM.body hr]
  have b5:s.get A=bX [va]:=by rw[o9 _ om];exact gA
  have x:Fx W F s:=⟨om,λk _ l=>o9 k λe=>l (e▸j.w2)⟩
  have t:=pv.fx x
  obtain⟨x,hx⟩:=IP (L.getD k [])
  rw[hx] at t
  have X:bT n x:=by rw[←hx];exact LP k Z
  have b6:Own s va 1 ws (a+1):=ow.mono om λid g m c e _ _=>o9 id (ne _ _ _ _ e).1
  have N:=Own.lens b6 c3
  have a9:=b6.sv.dJ
  have d5:decide ((k:Int)=5040)=false:=bM om
  have L:Fr s (H.mk s.tr (s.next+6)):=(Fr.refl s).bL om
  simp(disch:=omega)only[go_sem,H.aG b5,N,d5]
  refine (clone_ok v (zi x) (H.mk s.tr (s.next+6)) (by rw[aQ,X.len];omega) (by rw[aQ,X.len];omega) (t.mono L).si).mono ?_
  rintro b7 d y
  have a0:=L.trans y.fr
  obtain⟨i5,c5,ev,a1,a2,a3,a4⟩:=y.ex
  simp only at a1
  have a7:d.get A=bX [va]:=by rw[a0.get _ om];exact b5
  have t:=y.own
  simp(disch:=omega)only[go_sem,H.aG a7,a9,cJ _ (z:= .aD) t.sv.dC.1 t.sv.dC.2.1]
  obtain⟨f,i⟩: ∃f:H,f=H.mk ((H.mk d.tr (s.next+3)).new (Ob.cells false [b7])).tr d.next:=⟨_,rfl⟩
  rw[←i]
  have t:f.get (s.next+3)=bX [b7]:=by rw[i];exact H.aN (H.mk d.tr (s.next+3)) _
  have c9:f.next=d.next:=by rw[i]
  have U: ∀k,k≠s.next+3->f.get k=d.get k:=λk Z=>by rw[i];exact H.bJ (H.mk d.tr (s.next+3)) (by simpa using Z) _
  have J:Fr s f:=⟨by have:=a0.next;omega,λk Z=>by rw[U k om];exact a0.get k Z⟩
  obtain⟨a6,d2,p⟩:=(b6.fr J).push (bytes:=24) (SV.one (by have:=a0.next;have:=y.fr.next;simp only at this;omega) t (.kn 1)) (n:=k) (m:=1) om rfl om om om
  have t:=p.next
  have x:dF va A:=λid g m c e P=>(ne _ _ _ _ e).2 P.symm
  have y:dF va a:=λid g m c e P=>(ne _ _ _ _ e).1 P.symm
  have e0:=a0.next
  have t:a6.get A=bX [va]:=by rw[p.old A om x,J.get A om];exact b5
  have b9:a6.get a=some (.loop (nW r)):=by rw[p.old a om y,J.get a om];exact g9
  have x: ∀(F:H) (y:V),dS (bX [va]) F A 0 [y]=some (F.set A (bX [y])):=λF y=>bE (by simp) F _ _
  simp(disch:=omega)only[go_sem,d2,t,x]
  obtain⟨Y,o⟩: ∃Y,Y=(a6.set A (bX [.sl f.next 0 (k+1) (.un 1)])).set a (some (.loop r)):=⟨_,rfl⟩
  have c8:A≠a:=om
  have K: ∀q,q≠A->q≠a->Y.get q=a6.get q:=λq h1 l=>by rw[o,H.aI _ l,H.aI _ h1]
  have t:Y.next=a6.next:=by rw[o];rfl
  refine pG gY c2 (by rw[H.aI _ (Ne.symm c8)];exact b9) ?_
  rw[←o]
  have t: ∀q,q<F.next-> ¬W q->Y.get q=F.get q:=λq h1 l=>by
   rw[K q (λe=>l (e▸j.wA)) (λe=>l (e▸j.w2)),p.old q om (λid g m c e P=>l (P▸mw _ (bl _ _ _ _ e))),J.get q om,o9 q (λe=>l (e▸j.w2))]
  refine⟨λq=>W q∨q=f.next∨q=i5,λq h1 l=>by rcases l with l|l|l;exact l;omega;omega,λq h=>by rcases h with h|h|h;have:=d6 q h;omega;omega;omega,⟨om,t⟩,.inl ⟨rfl,?_⟩⟩
  refine⟨⟨.sl f.next 0 (k+1) (.un 1),ws++ [b7],λq=>M q∨q=f.next,by rw[o,H.aI _ c8,H.aT],?_,?_,λid g m c e=>by cases e;exact .inr rfl,λq h=>by rcases h with h|h;exact .inl (mw q h);exact .inr (.inl h),λq h=>by rcases h with h|h;have:=mn q h;omega;omega,.inl mA,λid g m c e=>by cases e;exact⟨om,om⟩⟩,
   by rw[o,H.aT],.inl j.wA,.inl j.w2,?_,?_,om,om,?_⟩
  ·exact (p.own (b:=a+1) om rfl om).mono om λid g m c e h1 l=>by cases e;exact K _ om om
  ·rw[take_getD [] Z,hx]
   have b4: ∀(q:Nat) (o:Option Ob),q<F.next-> ¬M q->q≠a->Y.get q=F.get q:=λq _ h1 l h3=>by
    rw[K q (λe=>l (e▸mA)) h3,p.old q om (λa8 g m c e P=>l (P▸bl _ _ _ _ e)),J.get q om,o9 q h3]
   have c4: ∀q z,F.get q=bX z->q≠a:=λq z h e=>by rw[e,j.gr] at h;cases h
   refine (el.mono λw z ⟨id,c1,e,q1,q2,q3,q4,q5⟩=>⟨id,c1,e,.inl q1,(λh=>by rcases h with h|h;exact q2 h;omega),q3,om,(by rw[b4 id none q4 q2 (c4 _ _ q5)];exact q5)⟩).append ⟨⟨i5,c5,by rw[ev,aQ],.inr (.inr rfl),λh=>by rcases h with h|h;have:=mn i5 h;omega;omega,om,om,?_⟩,trivial⟩
   rw[K i5 om om,p.old i5 om (λa8 g m c e P=>by have:=mn _ (bl _ _ _ _ e);omega),U i5 om]
   exact a3
  ·rw[K _ om om,p.old _ om (λa8 g m c e P=>by have:=(ow.in _ _ _ _ e).2.1;omega),J.get _ om,o9 _ om];exact j.g1
  ·rw[K _ om om,p.old _ om (λa8 g m c e P=>by have:=(ow.in _ _ _ _ e).2.1;omega),J.get _ om,o9 _ om];exact j.g2
  ·refine⟨by have:=j.fr.next;omega,λq hq=>?_⟩
   have:=j.fr.next
   rw[K q om om,p.old q om (λa8 g m c e P=>by have:=(ow.in _ _ _ _ e).2.1;omega),J.get q om,o9 q om]
   exact j.fr.get q hq
 ·rintro _ s ⟨W2,a1,a2,k,j|k⟩
  case inr=>exact k.elim
  rw[hL,List.take_length] at j
  obtain⟨va,ws,M,gA,ow,el,bl,mw,mn,mA,ne⟩:=j.ex
  have nx:=j.nx
  have nA:=j.nA
  have pt: ∀(F:H) (id:Nat) (u w:V),dS (bX [u]) F id 0 [w]=some (F.set id (bX [w])):=λF id u w=>bE (by simp) F _ _
  refine⟨r,j.gr,by rw[gY];simp,?_⟩
  have en:r.pend.getD .norm= .norm:=by rw[c2];rfl
  rw[en]
  obtain⟨d,a5⟩: ∃d,d=s.set a (some (.loop {r with st:= .out})):=⟨_,rfl⟩
  have Q: ∀q,q≠a->d.get q=s.get q:=λq hq=>by rw[a5,H.aI _ hq]
  have e0:d.next=s.next:=by rw[a5];rfl
  have a7:d.get A=bX [va]:=by rw[Q _ om];exact gA
  have o:d.get (B+1)=bX [.aD]:=by rw[Q _ om];exact j.g1
  have k:d.get (B+1+1)=bX [aB 0]:=by rw[Q _ om];exact j.g2
  rw[←a5]
  simp(disch:=omega)only[go_sem,H.aG a7,o,k,pt,fZ ow.sv.dC.1 ow.sv.dC.2.1]
  obtain⟨f,i⟩: ∃f,f=(d.set (B+1) (bX [va])).set (B+1+1) (bX [aB 0]):=⟨_,rfl⟩
  rw[←i]
  have U: ∀q,q≠B+1->q≠B+1+1->f.get q=d.get q:=λq h1 l=>by rw[i,H.aI _ l,H.aI _ h1]
  have c9:f.next=d.next:=by rw[i];rfl
  have d:=j.fr.next
  refine⟨va,rfl,⟨ws,λq=>M q∨q<h.next,?_,?_,λid g n c e=> .inl (bl _ _ _ _ e),λq h=> .inr h⟩,⟨om,λq hq=>?_⟩⟩
  ·refine (ow.mono om λid g m c e h1 _=>?_).le om
   rw[U id om om,Q id om]
  ·rw[hL]
   refine All2.mono (R:=OwnE W2 M (a+1) s) (λw z a=>?_) el
   obtain⟨id,c1,e,q1,q2,q3,q4,q5⟩:=a
   rw[e]
   exact⟨SV.all (by rw[aL,aQ,jY]) om (by rw[U id om om,Q id om];exact q5) _,λh=>by rcases h with h|h;exact q2 h;omega⟩
  ·rw[U q om om,Q q om]
   exact j.fr.get q hq
end Go.Proofs.YtapfcpkecmmagaaGreat
namespace Go.Pm
set_option maxRecDepth 100000
section
variable {i:Nat}
def it (a:List Nat):Nat->Nat->Nat
 |0,i=>i
 |t+1,i=>a.getD (it a t i) 0
section
variable {n:Nat} {a:List Nat}
theorem qQ (A:bT n a){i:Nat}(hi:i<n): ∀t,it a t i<n
 |0=>hi
 |t+1=>A.dZ (qQ A hi t)
theorem mG (a:List Nat)(s i:Nat): ∀t,it a (s+t) i=it a t (it a s i)
 |0=>rfl
 |t+1=>by
  show a.getD (it a (s+t) i) 0=a.getD (it a t (it a s i)) 0;rw[mG a s i t]
theorem Dr (A:bT n a){i:Nat}(hi:i<n): ∀t,it a t i=(pw n a t).getD i 0
 |0=>(eP hi).symm
 |t+1=>by
  show a.getD (it a t i) 0=(bD (pw n a t) a).getD i 0;rw[cX (by rw[(iB A t).len];exact hi),Dr A hi t]
theorem Kw (A:bT n a){i j:Nat}(hi:i<n)(b:j<n): ∀t,it a t i=it a t j->i=j
 |0,h=>h
 |t+1,h=>Kw A hi b t (A.inj (qQ A hi t) (qQ A b t) h)
noncomputable def jA (a:List Nat)(i:Nat):Nat:=by
 classical exact if h: ∃t,0<t/\it a t i=i/\ ∀s,0<s->s<t->it a s i≠i then h.choose else 1
theorem CP (A:bT n a)(hi:i<n): ∃t,0<t/\it a t i=i:=by
 obtain⟨k,b,_,c⟩:=Gn A;exact⟨k,b,by rw[Dr A hi,c,eP hi]⟩
theorem iT (A:bT n a)(hi:i<n):0<jA a i/\it a (jA a i) i=i/\ ∀t,0<t->t<jA a i->it a t i≠i:=by
 classical
 have h: ∃t,0<t/\it a t i=i/\ ∀s,0<s->s<t->it a s i≠i:=by
  obtain⟨t,g,f⟩:=CP A hi
  induction t using Nat.strongRecOn with
  |_ t ih=>
   by_cases e: ∃s,0<s/\s<t/\it a s i=i
   ·obtain⟨s,c,d,b⟩:=e
    exact ih s d c b
   ·exact⟨t,g,f,λs c d b=>e ⟨s,c,d,b⟩⟩
 have e:jA a i=h.choose:=by unfold jA;rw[dif_pos h]
 rw[e];exact h.choose_spec
theorem Fq (A:bT n a){i:Nat}(hi:i<n): ∀k,it a (jA a i*k) i=i
 |0=>rfl
 |k+1=>by rw[Nat.mul_succ,mG,Fq A hi k,(iT A hi).2.1]
theorem Gx (A:bT n a)(hi:i<n)(t:Nat):it a t i=it a (t%jA a i) i:=by
 have:=mG a (jA a i*(t/jA a i)) i (t%jA a i);rw[Nat.div_add_mod,Fq A hi] at this;exact this
theorem rU (A:bT n a)(hi:i<n)(t:Nat):it a t i=i↔jA a i∣t:=by
 obtain⟨b,c,c⟩:=iT A hi;constructor
 ·intro h
  rw[Gx A hi] at h;refine Nat.dvd_of_mod_eq_zero (Classical.byContradiction λd=>c _ oq (Nat.mod_lt _ b) h)
 ·rintro⟨k,rfl⟩;exact Fq A hi k
theorem BW (A:bT n a)(hi:i<n){s t:Nat}(f:s<jA a i)(d:t<jA a i)(h:it a s i=it a t i):s=t:=by
 have b: ∀s t,s<=t->t<jA a i->it a s i=it a t i->s=t:=λs t gY d h=>by
  have e:it a t i=it a s (it a (t-s) i):=by rw[←mG];congr 1;omega
  rw[e] at h;have:=Kw A hi (qQ A hi (t-s)) s h;have c:=(rU A hi (t-s)).1 this.symm;have:=Nat.eq_zero_of_dvd_of_lt c oq;omega
 rcases Nat.le_total s t with c|c
 ·exact b s t c d h
 ·exact (b t s c f h.symm).symm
noncomputable def yY (a:List Nat)(i:Nat):List Nat:=(List.range (jA a i)).map λt=>it a t i
theorem iZ (a:List Nat)(i:Nat):(yY a i).length=jA a i:=by simp [yY]
theorem Ov (A:bT n a)(hi:i<n){j:Nat}:j∈yY a i↔ ∃t,it a t i=j:=by
 unfold yY;rw[List.mem_map];constructor
 ·rintro⟨t,_,h⟩;exact⟨t,h⟩
 ·rintro⟨t,h⟩;exact⟨t%jA a i,List.mem_range.2 (Nat.mod_lt _ (iT A hi).1),by rw[←Gx A hi];exact h⟩
theorem Qo (A:bT n a)(hi:i<n):(yY a i).Nodup:=by
 unfold yY;rw[List.nodup_iff_pairwise_ne,List.pairwise_map,List.pairwise_iff_getElem];intro s t c b gY h;simp only[List.length_range] at c b;simp only[List.getElem_range] at h;have:=BW A hi c b h;omega
theorem zZ (A:bT n a)(hi:i<n):jA a i<=n:=by
 rw[←iZ a i]
 have:=List.Nodup.length_le_of_subset (Qo A hi) (l₂:=List.range n) λj b=>by
  obtain⟨t,rfl⟩:=(Ov A hi).1 b;exact List.mem_range.2 (qQ A hi t)
 simpa using this
theorem yX (A:bT n a)(hi:i<n)(t:Nat): ∃s,it a s (it a t i)=i:=by
 obtain⟨b,_,_⟩:=iT A hi;refine⟨jA a i*(t/jA a i+1)-t,?_⟩;rw[←mG,show t+(jA a i*(t/jA a i+1)-t)=jA a i*(t/jA a i+1) from ?_,Fq A hi];have:=Nat.div_add_mod t (jA a i);have:=Nat.mod_lt t b;rw[Nat.mul_succ];omega
theorem Ww (A:bT n a)(hi:i<n)(t:Nat):jA a (it a t i)=jA a i:=by
 have c:=qQ A hi t
 have b: ∀k,it a k (it a t i)=it a t i↔it a k i=i:=λk=>by
  rw[←mG,Nat.add_comm,mG];exact⟨λh=>Kw A (qQ A hi k) hi t h,λh=>by rw[h]⟩
 refine Nat.dvd_antisymm ?_ ?_
 ·rw[←rU A c,b,rU A hi];exact Nat.dvd_refl _
 ·rw[←rU A hi,←b,rU A c];exact Nat.dvd_refl _
def gK (a:List Nat)(n i:Nat):Prop:= ∀t,i<=it a t i
open Classical in
noncomputable def yS (a:List Nat)(n:Nat):List Nat:=(List.range n).filter λi=>decide (gK a n i)
noncomputable def jS (a:List Nat)(n:Nat):qX:=(yS a n).map (yY a)
theorem Vc (A:bT n a)(hi:i<n): ∃j,j<n/\gK a n j/\ ∃t,it a t j=i:=by
 induction i using Nat.strongRecOn with
 |_ i ih=>
  by_cases h:gK a n i
  ·exact⟨i,hi,h,0,rfl⟩
  ·have: ∃t,it a t i<i:=Classical.byContradiction λc=>h λt=>Nat.le_of_not_lt λb=>c ⟨t,b⟩
   obtain⟨t,d⟩:=this;obtain⟨j,c,b,s,e⟩:=ih _ d (qQ A hi t);obtain⟨u,d⟩:=yX A hi t;exact⟨j,c,b,s+u,by rw[mG,e,d]⟩
theorem sI (A:bT n a)(hi:i<n):gK a n i↔ ∀j,j<i-> ∀t,it a t j≠i:=by
 constructor
 ·intro h j b t e
  obtain⟨s,b⟩:=yX A (show j<n by omega) t;rw[e] at b;have:=h s;omega
 ·intro h t
  refine Nat.le_of_not_lt λc=>?_
  obtain⟨s,b⟩:=yX A hi t;exact h _ c s b
def lD (l:List Nat):Nat:=l.foldl (λm c=>m/Nat.gcd m c*c) 1
theorem Xt (m c:Nat):m/Nat.gcd m c*c=Nat.lcm m c:=by
 unfold Nat.lcm;rw[Nat.mul_comm,←Nat.mul_div_assoc _ (Nat.gcd_dvd_left m c),Nat.mul_comm]
theorem Jm: ∀(l:List Nat) (m k:Nat),l.foldl (λm c=>m/Nat.gcd m c*c) m∣k↔m∣k/\ ∀c∈l,c∣k
 | [],m,k=>by simp
 |c::l,m,k=>by
  rw[List.foldl_cons,Jm l,Xt,Nat.lcm_dvd_iff];simp only[List.mem_cons,forall_eq_or_imp,and_assoc]
theorem pD (l:List Nat)(k:Nat):lD l∣k↔ ∀c∈l,c∣k:=by
 unfold lD;rw[Jm];simp
noncomputable def dW (a:List Nat)(n:Nat):Nat:=lD ((jS a n).map List.length)
theorem kL (A:bT n a)(k:Nat):dW a n∣k↔pw n a k=cG n:=by
 unfold dW;rw[pD];constructor
 ·intro h
  refine oP (by rw[(iB A k).len,gU]) λi hi=>?_
  rw[(iB A k).len] at hi;rw[←Dr A hi,eP hi,rU A hi];obtain⟨j,d,b,t,c⟩:=Vc A hi;have:=h (jA a j) (List.mem_map.2 ⟨yY a j,List.mem_map.2 ⟨j,by unfold yS;rw[List.mem_filter];exact⟨List.mem_range.2 d,by simpa using b⟩,rfl⟩,iZ a j⟩);rw[←Ww A d t,c] at this;exact this
 ·rintro h c e
  obtain⟨l,f,rfl⟩:=List.mem_map.1 e;obtain⟨j,d,rfl⟩:=List.mem_map.1 f
  have b:j<n:=by
   unfold yS at d;exact List.mem_range.1 (List.mem_filter.1 d).1
  rw[iZ,←rU A b,Dr A b,h,eP b]
theorem nI (A:bT n a):0<dW a n:=by
 obtain⟨k,b,_,b⟩:=Gn A;have:=(kL A k).2 b;refine Nat.pos_of_ne_zero λe=>?_
 rw[e] at this;have:=Nat.eq_zero_of_zero_dvd this;omega
theorem Nt (A:bT n a):dW a n<=n^n:=by
 obtain⟨k,c,b,d⟩:=Gn A;exact Nat.le_trans (Nat.le_of_dvd c ((kL A k).2 d)) b
theorem Xc (A:bT n a)(k:Nat):pw n a k=pw n a (k%dW a n):=by
 have h:pw n a (dW a n*(k/dW a n))=cG n:=(kL A _).1 ⟨_,rfl⟩;have:=Gi A (dW a n*(k/dW a n)) (k%dW a n);rw[Nat.div_add_mod,h,fG (iB A _)] at this;exact this
end
end
end Go.Pm
namespace Go.Proofs.YtapfcpkecmmagaaGreat
open Go Go.Ay Go.Pm
set_option maxRecDepth 100000
section
variable {a:List Nat} {i n:Nat}
theorem gcd_ok {g:Nat}(j:T g=some c_perm_gcd)(a b:Nat)(h:H)(o:a<1000000)(m:b<1000000):Ev T g [aB a,aB b] h (λv h'=>v= aB (Nat.gcd a b:Nat)/\Fr h h'):=by
 refine yH j rfl ?_;simp(disch:=omega)only[go_sem,c_perm_gcd,aF];refine aH (λc d l=> ∃(x y:Nat),(∃g:Nat->V,d= [aB x,aB y,g 2,g 3])/\x<1000000/\y<1000000/\Nat.gcd x y=Nat.gcd a b/\Fr h l/\c=y) b
  ⟨a,b,aA rfl,o,m,rfl,Fr.refl h,rfl⟩ ?_
 rintro c d l ⟨x,y,⟨g,rfl⟩,d,q,k,F,p⟩;subst p
 by_cases e:(0:Int)<(c:Int)
 ·have f:=bV e
  have l:(c:Int)≠0:=om
  have p:(x:Int).tmod (c:Int)=((x%c:Nat):Int):=tmod_nat x c;have d:=Nat.mod_lt x (show c>0 by omega);simp(disch:=omega)only[go_sem,f,l,p];exact⟨x%c,d,c,x%c,aA rfl,q,om,by rw[Nat.gcd_comm,←Nat.gcd_rec,Nat.gcd_comm];exact k,F.bL om,rfl⟩
 ·have f:=bM e
  obtain rfl:c=0:=om
  simp(disch:=omega)only[go_sem,f];rw[←k,Nat.gcd_zero_right];exact⟨rfl,F⟩
open Classical in
noncomputable def snB (a:List Nat)(i s j:Nat):Bool:=decide ((∃i0,i0<i/\ ∃t,it a t i0=j)∨ ∃t,t<s/\it a t i=j)
theorem snB_iff {s j:Nat}:snB a i s j=true↔(∃i0,i0<i/\ ∃t,it a t i0=j)∨ ∃t,t<s/\it a t i=j:=by classical unfold snB;simp only[decide_eq_true_eq]
theorem snB_zero (a:List Nat)(j:Nat):snB a 0 0 j=false:=by
 rw[←Bool.not_eq_true,snB_iff];rintro (⟨b,h,_⟩|⟨t,h,_⟩)<;>omega
theorem snB_step (a:List Nat)(i s j:Nat):snB a i (s+1) j=if j=it a s i then true else snB a i s j:=by
 by_cases e:j=it a s i
 ·rw[aV e,snB_iff];exact .inr ⟨s,om,e.symm⟩
 ·rw[aZ e,wW,snB_iff,snB_iff]
  constructor
  ·rintro (h|⟨t,d,b⟩)
   ·exact .inl h
   ·exact .inr ⟨t,by have:t≠s:=λc=>e (by rw[←c];exact b.symm);omega,b⟩
  ·rintro (h|⟨t,d,b⟩)
   ·exact .inl h
   ·exact .inr ⟨t,om,b⟩
theorem snB_next (A:bT n a)(hi:i<n)(j:Nat):snB a i (jA a i) j=snB a (i+1) 0 j:=by
 rw[wW,snB_iff,snB_iff];constructor
 ·rintro (⟨c,d,b⟩|⟨t,d,b⟩)
  ·exact .inl ⟨c,om,b⟩
  ·exact .inl ⟨i,om,t,b⟩
 ·rintro (⟨c,d,t,b⟩|⟨t,d,_⟩)
  ·by_cases e:c=i
   ·subst e;exact .inr ⟨t%jA a c,Nat.mod_lt _ (iT A hi).1,by rw[←Gx A hi];exact b⟩
   ·exact .inl ⟨c,om,t,b⟩
  ·omega
theorem snB_skip (A:bT n a)(hi:i<n)(h: ¬gK a n i)(j:Nat):snB a i 0 j=snB a (i+1) 0 j:=by
 have b: ∃c,c<i/\ ∃t,it a t c=i:=Bz λf=>h ((sI A hi).2 λc l t e=>f ⟨c,l,t,e⟩)
 obtain⟨c,m,g,k⟩:=b;rw[wW,snB_iff,snB_iff];constructor
 ·rintro (⟨d,f,b⟩|⟨t,f,_⟩)
  ·exact .inl ⟨d,om,b⟩
  ·omega
 ·rintro (⟨d,f,t,b⟩|⟨t,f,_⟩)
  ·by_cases e:d=i
   ·subst e;exact .inl ⟨c,m,g+t,by rw[mG,k];exact b⟩
   ·exact .inl ⟨d,om,t,b⟩
  ·omega
theorem snB_new (A:bT n a){s:Nat}(hi:i<n)(d:gK a n i)(g:s<=jA a i):(snB a i s (it a s i)=false↔s<jA a i):=by
 obtain⟨f,c,j⟩:=iT A hi;constructor
 ·intro h
  refine Bz λj=>?_
  have e:s=jA a i:=om
  subst e;rw[c] at h;have:snB a i (jA a i) i=true:=snB_iff.2 (.inr ⟨0,f,rfl⟩);rw[h] at this;cases this
 ·intro h
  rw[←Bool.not_eq_true,snB_iff];rintro (⟨f,c,t,b⟩|⟨t,c,b⟩)
  ·obtain⟨u,e⟩:=yX A hi s
   have:=(sI A hi).1 d f c (t+u);rw[mG,b,e] at this;exact this rfl
  ·have:=BW A hi (show t<jA a i by omega) h b
   omega
theorem snB_old (A:bT n a)(hi:i<n)(d: ¬gK a n i):snB a i 0 i=true:=by
 have c: ∃b,b<i/\ ∃t,it a t b=i:=Bz λf=>d ((sI A hi).2 λb g t e=>f ⟨b,g,t,e⟩)
 exact snB_iff.2 (.inl c)
theorem fsts_take (hi:i<=n):((yS a n).filter λj=>decide (j<i))=(open Classical in (List.range i).filter λj=>decide (gK a n j)):=by
 classical
 unfold yS;have:List.range n=List.range i++(List.range (n-i)).map (i+ ·):=by rw[←List.range_add];congr 1;omega
 rw[this,List.filter_append,List.filter_append]
 have c:(((List.range (n-i)).map (i+ ·)).filter λj=>decide (gK a n j)).filter (λj=>decide (j<i))= []:=by
  rw[List.filter_eq_nil_iff];intro x b;obtain⟨y,_,rfl⟩:=pU.1 (Sq.1 b).1;simp
 rw[c,pN];rw[List.filter_eq_self];intro x b;simpa using Ae.1 (Sq.1 b).1
noncomputable def cyB (a:List Nat)(n i:Nat):LN:=((yS a n).filter λj=>decide (j<i)).map (yY a)
theorem cyB_all (a:List Nat)(n:Nat):cyB a n n=jS a n:=by
 classical
 unfold cyB jS;congr 1;rw[List.filter_eq_self];intro x b;unfold yS at b;simpa using Ae.1 (Sq.1 b).1
theorem cyB_succ (hi:i<n):(gK a n i->cyB a n (i+1)=cyB a n i++ [yY a i])/\(¬gK a n i->cyB a n (i+1)=cyB a n i):=by
 classical
 unfold cyB;rw[fsts_take (show i+1<=n by omega),fsts_take (show i<=n by omega),List.range_succ,List.filter_append];constructor
 ·intro h
  rw[show ([i]:List Nat).filter (λj=>decide (gK a n j))= [i] by simp [h],List.map_append];rfl
 ·intro h
  rw[show ([i]:List Nat).filter (λj=>decide (gK a n j))= [] by simp [h],pN]
theorem cyB_pre: ∀i,i<=n->cyB a n i<+:jS a n:=by
 intro i hi
 obtain⟨d,b⟩: ∃d,i+d=n:=⟨n-i,om⟩
 induction d generalizing i with
 |zero=>
      have:i=n:=om
      subst this;rw[cyB_all];exact List.prefix_rfl
 |succ d ih=>
  have b:=ih (i+1) om om
  by_cases c:gK a n i
  ·rw[(cyB_succ om).1 c] at b
   exact (List.prefix_append _ _).trans b
  ·rw[(cyB_succ om).2 c] at b
   exact b
theorem cyB_zero (a:List Nat)(n:Nat):cyB a n 0= []:=by
 unfold cyB;rw[show (yS a n).filter (λj=>decide (j<0))= [] by rw[List.filter_eq_nil_iff];intro x _;simp];rfl
theorem pre_getD {α:Type}{l m:List α}(h:l<+:m)(hi:i<l.length)(d:α):m.getD i d=l.getD i d:=by
 obtain⟨t,rfl⟩:=h;rw[List.getD,vY hi];rfl
theorem cycles1_ok (id b:Nat)(Q:V)(n:Nat)(a:List Nat)(h:H)(a7:1<=n)(hn:n<=64)(A:bT n a)(y:Nat)(a3:y<=h.next)(a4:b<y)(hb:h.get b=some (.cells false [Q]))(a5:b<h.next)(hv:SI h Q (zi a))(J:Nat->H->Prop)(h0:J 0 h)
  (kJ: ∀k hh h',J k hh->hh.next<=h'.next->(∀q,q<y->h'.get q=hh.get q)->J k h') (jb: ∀k hh,J k hh->hh.get b=some (.cells false [Q])/\SI hh Q (zi a))
  (hy: ∀k hh v,k<(jS a n).length->J k hh->SI hh v (zi ((jS a n).getD k []))->y<=hh.next->Ey T id [v] hh (λv h'=>v= .bool true/\J (k+1) h'/\Fx (λq=>q<y) hh h')):
  Ev T 121 [.yl id,.ptr b 0] h (λ_ h'=>J (jS a n).length h'):=by
 refine bH c_perm_cycles_1 rfl rfl ?_
 obtain⟨S,hS⟩:=IP h.next
 obtain⟨h1,e1,N,g1,o1,f1⟩:=dL hS (rc 64 λ_=>V.bool false)
 have Z:=H.aG (h:=h1) (id:=b) (by rw[o1 _ om];exact hb)
 have N:=hv.lens
 rw[aQ,A.len] at N
 simp(disch:=omega)only[go_sem,c_perm_cycles_1,aF,bools64,hS,e1,Z,N]
 have a1:h1.get S=some (.cells false (rc 64 λj=> .bool (snB a 0 0 j))):=by
  rw[g1,show (λj=>V.bool (snB a 0 0 j))=λ_=>V.bool false from funext λj=>by rw[snB_zero]]
 refine aH (λK o hh=> ∃(i:Nat),(∃g:Nat->V,o= [.yl id,.ptr b 0,.ptr S 0,g 3,g 4,g 5,aB n,aB i,g 8,g 9,g 10])/\i<=n/\J (cyB a n i).length hh/\hh.get S=some (.cells false (rc 64 λj=> .bool (snB a i 0 j)))/\S<hh.next/\K=n-i) n
  ⟨0,aA rfl,eY _,by rw[cyB_zero];exact kJ _ _ _ h0 f1.next (λq hq=>o1 q om),a1,om,rfl⟩ ?_
 rintro K o Y ⟨i,⟨g,rfl⟩,hi,p,u,w,rfl⟩
 by_cases L:(i:Int)<(n:Int)
 case neg=>
  have d1:=bM L;obtain rfl:i=n:=om
  simp(disch:=omega)only[go_sem,d1];rw[cyB_all] at p;exact p
 have d1:=bV L
 have l:i<n:=om
 simp(disch:=omega)only[go_sem,d1]
 obtain⟨L,L,L⟩:=iT A l
 have L:=zZ A l
 refine bW (λvs hh=> ∃(r:V) (c:List Nat),(∃g:Nat->V,vs= [.yl id,.ptr b 0,.ptr S 0,g 3,r,g 5,aB n,aB i,g 8,g 9,g 10])/\Own hh r 1 (ints (zi c)) (S+1)/\(gK a n i/\c=yY a i∨ ¬gK a n i/\c= [])/\
   J (cyB a n i).length hh/\hh.get S=some (.cells false (rc 64 λj=> .bool (snB a (i+1) 0 j)))/\S<hh.next) ?_ ?_
 ·refine aH (λK vs hh=> ∃(s:Nat) (r:V),(∃g:Nat->V,vs= [.yl id,.ptr b 0,.ptr S 0,g 3,r,aB (it a s i:Nat),aB n,aB i,g 8,g 9,g 10])/\s<=jA a i/\(0<s->gK a n i)/\Own hh r 1 (ints (zi ((List.range s).map λt=>it a t i))) (S+1)/\
    J (cyB a n i).length hh/\hh.get S=some (.cells false (rc 64 λj=> .bool (snB a i s j)))/\S<hh.next/\K=jA a i-s) (jA a i)
   ⟨0,.aD,aA rfl,eY _,λh=>om,Own.aD _ _ _,p,u,w,rfl⟩ ?_
  clear p u w
  rintro K o B ⟨s,r,⟨g,rfl⟩,hs,hf,x,p,u,w,rfl⟩
  have hp:=qQ A l s
  have R:=gO u (i:=it a s i) om
  cases hsn:snB a i s (it a s i) with
  |true=>
   rw[hsn] at R;simp(disch:=omega)only[go_sem,R]
   by_cases f:gK a n i
   ·have e:s=jA a i:=Bz λO=>by
     have:=(snB_new A l f hs).2 om;rw[hsn] at this;cases this
    refine⟨r,yY a i,aA rfl,by rw[e] at x;exact x,.inl ⟨f,rfl⟩,p,?_,w⟩;rw[u,e];congr 2;exact aX λj _=>by rw[snB_next A l]
   ·have e:s=0:=Bz λO=>f (hf om)
    subst e;refine⟨r, [],aA rfl,x,.inr ⟨f,rfl⟩,p,?_,w⟩;rw[u];congr 2;exact aX λj _=>by rw[snB_skip A l f]
  |false=>
   rw[hsn] at R
   have f:gK a n i:=Bz λf=>by
    have e:s=0:=Bz λO=>f (hf om)
    subst e;have:=snB_old A l f;have Y:snB a i 0 i=false:=hsn;rw[Y] at this;cases this
   have K:=(snB_new A l f hs).1 hsn;have pt:=bE (vs:=rc 64 λj=> .bool (snB a i s j)) (off:=it a s i) (by rw[cK];omega);obtain⟨h4,e4,n4,g4,o4⟩:=nP B S ((rc 64 λj=> .bool (snB a i s j)).set (it a s i) (.bool true));obtain⟨L,e5,K,N,o5,K⟩:=dL (h:=h4) (ID:=B.next) n4 [aB (it a s i:Nat)];have K:Own L r 1 (ints (zi ((List.range s).map λt=>it a t i))) (S+1):=x.mono om λk off m c e h1 Y=>by rw[o5 k om,o4 k om]
   obtain⟨W,a6,U⟩:=K.push (bytes:=8) (SV.one (v:= aB (it a s i:Nat)) (id:=B.next) om N (.kn 1)) (n:=s) (m:=1) (by rw[aL,aQ];simp) rfl om om om;have K:=U.next;have ap: ∀q,q<=S->dF r q:=λq hq k off m c e m=>by have:=(x.in _ _ _ _ e).2.1;omega
   have m: ∀q,q<y->W.get q=B.get q:=λq hq=>by rw[U.old q om (ap q om),o5 q om,o4 q om]
   have J6:=kJ _ _ W p om m;obtain⟨a2,N⟩:=jb _ _ J6;obtain⟨idx,m,G,K,L⟩:=N.open;rw[aQ,A.len] at G K L
   have cx:W.cell idx (m+it a s i)=some (aB (it a (s+1) i:Nat)):=by
    rw[L _ hp];congr 2;rw[zi,gd_map _ (d:=0) (by rw[A.len];exact hp)];rfl
   simp(disch:=omega)only[go_sem,R,u,pt,e4,cJ h4 (z:= aB 0) (v:= aB (it a s i:Nat)) rfl rfl,n4,e5,a6,H.aG a2,G.ixa,cx]
   have a0:W.get S=some (.cells false (rc 64 λj=> .bool (snB a i (s+1) j))):=by
    rw[U.old S om (ap S (fH _)),o5 S om,g4,eG];congr 2
    exact aX λj _=>by
     rw[snB_step]
     by_cases e:j=it a s i
     ·rw[aV e,aV e]
     ·rw[aZ e,aZ e]
   have el:ints (zi ((List.range (s+1)).map λt=>it a t i))=ints (zi ((List.range s).map λt=>it a t i))++ [aB (it a s i:Nat)]:=by
    rw[List.range_succ,List.map_append];simp [zi,ints]
   refine⟨jA a i-(s+1),om,s+1,_,aA rfl,om,λ_=>f,by rw[el];exact U.own (by rw[aL,aQ];simp) rfl om,J6,a0,om,rfl⟩
 clear p u w
 rintro o B ⟨r,c,⟨g,rfl⟩,x,e,p,u,w⟩
 have P:=Own.lens x (n:=c.length) (by rw[aL,aQ])
 rcases e with ⟨f,rfl⟩|⟨f,rfl⟩
 ·have d2:decide ((0:Int)<((yY a i).length:Int))=true:=bV (by rw[iZ];omega)
  have c:=cyB_pre (a:=a) (n:=n) (i+1) om
  have F:=(cyB_succ l).1 f
  rw[F] at c
  have g:(jS a n).getD (cyB a n i).length []=yY a i:=by rw[pre_getD c (by simp)];exact getD_app_new
  have e:=c.length_le
  rw[jD] at e
  simp(disch:=omega)only[go_sem,P,d2]
  refine (hy _ B r (by simp at e;omega) p (by rw[g];exact x.sv) om).mono ?_
  rintro _ h4 ⟨rfl,J4,f4⟩
  simp(disch:=omega)only[go_sem]
  rw[dX i]
  refine⟨n-(i+1),om,i+1,aA rfl,om,by rw[F,jD];exact J4,by rw[f4.get S w (λh=>by have:S<y:=h;omega)];exact u,iO w f4.next,rfl⟩
 ·have d2:decide ((0:Int)<((0:Nat):Int))=false:=rfl
  simp(disch:=omega)only[go_sem,P,d2]
  rw[dX i]
  exact⟨n-(i+1),om,i+1,aA rfl,om,by rw[(cyB_succ l).2 f];exact p,u,w,rfl⟩
end
theorem first_ok (u:V)(ws:List V)(n:Nat)(h:H)(F:1<=n)(N:n<=64)(L:ws.length<1000000)(B:SV h u 1 ws)(w: ∀i,i<ws.length-> ∃a,bT n a/\SI h (ws.getD i .undef) (zi a)):Ev T 78 [u] h (λv h'=>v= aB 0/\Fr h h'):=by
 refine bH c_perm_first rfl rfl ?_;have A:cV u=some (aB (ws.length:Int)):=by unfold cV;rw[SV.len B (n:=ws.length) om om];rfl
 obtain⟨id,d,t,k,y⟩:=SV.shape B ws.length om om;have o: ∀i:Nat,i<ws.length->h.cell id (d+i)=some (ws.getD i .undef):=λi hi=>by rw[y i om];simp [List.getD,hi]
 simp(disch:=omega)only[go_sem,c_perm_first,aF,A];refine bW (λe m=>(∃g:Nat->V,e= [u,aB 0,g 2,g 3,g 4,g 5,g 6,g 7,g 8,g 9,g 10,g 11,g 12,g 13,g 14])/\Fr h m) ?_ ?_
 ·refine aH (λq e m=> ∃(i:Nat),(∃g:Nat->V,e= [u,aB 0,g 2,g 3,g 4,u,aB (ws.length:Int),aB i,g 8,g 9,g 10,g 11,g 12,g 13,g 14])/\i<=ws.length/\Fr h m/\q=ws.length-i) ws.length
   ⟨0,aA rfl,eY _,Fr.refl h,rfl⟩ ?_
  rintro q b p ⟨i,⟨g,rfl⟩,hi,f,rfl⟩
  by_cases c:(i:Int)<(ws.length:Int)
  ·have l:=bV c
   have j:i<ws.length:=om
   have ci:p.cell id (d+i)=some (ws.getD i .undef):=by rw[f.cell (k om),o i om]
   obtain⟨a,X,r⟩:=w i j;generalize ws.getD i .undef=z at ci r;simp(disch:=omega)only[go_sem,l,t.ixa,ci];refine (perm_Check_ok z _ p (by rw[aQ,X.len];omega) (r.mono f)).mono ?_;rw[pck_zi X om om];rintro _ K ⟨rfl,J⟩;simp(disch:=omega)only[go_sem];refine bB (λo=>(o rfl).elim) (λ_=>?_);simp(disch:=omega)only[go_sem];rw[dX i];exact⟨ws.length-(i+1),om,i+1,aA rfl,om,f.trans J,rfl⟩
  ·have l:=bM c
   simp(disch:=omega)only[go_sem,l];exact⟨aA rfl,f⟩
 rintro b p ⟨⟨g,rfl⟩,f⟩;simp(disch:=omega)only[go_sem,A];refine bW (λe m=>(∃g:Nat->V,e= [u,aB 0,g 2,g 3,g 4,g 5,g 6,g 7,g 8,g 9,g 10,g 11,g 12,g 13,g 14])/\Fr h m) ?_ ?_
 ·refine aH (λq e m=> ∃(i:Nat),(∃g:Nat->V,e= [u,aB 0,g 2,g 3,g 4,g 5,g 6,g 7,g 8,g 9,u,aB (ws.length:Int),aB i,g 13,g 14])/\i<=ws.length/\Fr h m/\q=ws.length-i) ws.length
   ⟨0,aA rfl,eY _,f,rfl⟩ ?_
  clear f;rintro q b p ⟨i,⟨g,rfl⟩,hi,f,rfl⟩
  by_cases c:(i:Int)<(ws.length:Int)
  ·have l:=bV c
   have j:i<ws.length:=om
   have ci:p.cell id (d+i)=some (ws.getD i .undef):=by rw[f.cell (k om),o i om]
   have x:p.cell id (d+0)=some (ws.getD 0 .undef):=by rw[f.cell (k om),o 0 om]
   obtain⟨a,X,r⟩:=w i j;obtain⟨e,G,s⟩:=w 0 om;generalize ws.getD i .undef=z at ci r;generalize ws.getD 0 .undef=e at x s;have j:=r.lens;have k:=s.lens;rw[aQ,X.len] at j;rw[aQ,G.len] at k;have e:Ko 1 u (aB 0)=some (.ptr id (d+0)):=t.ixa .i64 0 om om;rw[Nat.add_zero] at e x;simp(disch:=omega)only[go_sem,l,t.ixa,ci,e,x,j,k];refine bB (λo=>(o rfl).elim) (λ_=>?_);simp(disch:=omega)only[go_sem];rw[dX i];exact⟨ws.length-(i+1),om,i+1,aA rfl,om,f,rfl⟩
  ·have l:=bM c
   simp(disch:=omega)only[go_sem,l];exact⟨aA rfl,f⟩
 rintro b K ⟨⟨g,rfl⟩,f⟩;simp(disch:=omega)only[go_sem];exact f
theorem lcm_take_dvd (l:List Nat)(k:Nat):lD (l.take k)∣lD l:=(pD _ _).2 λc a=>(pD l _).1 (Nat.dvd_refl _) c (List.mem_of_mem_take a)
theorem lcm_take_succ (l:List Nat)(k:Nat)(a:k<l.length):lD (l.take (k+1))=lD (l.take k)/Nat.gcd (lD (l.take k)) (l.getD k 0)*l.getD k 0:=by
 unfold lD;rw[take_getD 0 a,List.foldl_append];rfl
theorem pow_small {n:Nat}(a:n<=7):n^n<=823543:=by
 have: ∀m,m<8->m^m<=823543:=by decide
 exact this n om
structure OrJ (h:H)(A b id2:Nat)(va:V)(a:List Nat)(r:fM)(m:Nat)(hh:H):Prop where
 gr:hh.get id2=some (.loop r)
 gA:hh.get A=bX [aB m]
 gb:hh.get b=bX [va]
 si:SI hh va (zi a)
 nx:id2<hh.next
 fr:Fr h hh
theorem cycles_ok (a:V)(h:H)(g:a.cells= [a])(c:a.one=true):Ev T 101 [a] h (λv h'=> ∃b,v= .fn 121 [] [.ptr b 0]/\b=h.next/\h'.get b=bX [a]/\h'.next=h.next+1/\Fr h h'):=by
 refine bH c_perm_cycles rfl rfl ?_;obtain⟨j,i,f,d,j,e⟩:=dL (h:=h) rfl [a];simp(disch:=omega)only[go_sem,c_perm_cycles,aF,kC g c h,i];exact⟨h.next,rfl,rfl,d,f,e⟩
theorem order_ok (u:V)(n:Nat)(a:List Nat)(h:H)(a0:1<=n)(hn:n<=7)(A:bT n a)(N:SI h u (zi a)):
  Ev T 69 [u] h (λv h'=>v= .tup [aB (dW a n:Nat),aB 0]/\Fr h h'):=by
 refine bH c_perm_Order rfl rfl ?_
 obtain⟨S,hS⟩:=IP h.next
 obtain⟨h1,e1,n1,g1,o1,f1⟩:=dL hS [u]
 have on:=(SV.dC N).2.1
 simp(disch:=omega)only[go_sem,c_perm_Order,aF,cJ h (z:= .aD) (v:=u) (SV.dC N).1 on,hS,e1]
 have a5: ∀i,i< [u].length-> ∃a,bT n a/\SI h1 ([u].getD i .undef) (zi a):=λi hi=>by
  obtain rfl:i=0:=by simp at hi;omega
  exact⟨a,A,N.mono f1⟩
 refine (first_ok (.sl S 0 1 (.kn 1)) [u] n h1 a0 om (by simp) (SV.one om g1 _) a5).mono ?_
 rintro _ O ⟨rfl,f2⟩
 simp(disch:=omega)only[go_sem]
 refine bB (λhc=>(hc rfl).elim) (λ_=>?_)
 obtain⟨B,hB⟩:=IP O.next
 obtain⟨h3,e3,n3,g3,o3,f3⟩:=dL hB [aB 0]
 obtain⟨h4,e4,n4,g4,o4⟩:=nP h3 B [aB 1]
 have a5: ∀(s:H) (y:V),dS (bX [aB 0]) s B 0 [y]=some (s.set B (bX [y])):=λs y=>bE (by simp) s _ _
 simp(disch:=omega)only[go_sem,hB,e3,g3,a5,e4]
 refine (cycles_ok u h4 (SV.dC N).1 on).mono ?_
 rintro _ h5 ⟨b,rfl,hb,g5,n5,f5⟩
 simp(disch:=omega)only[go_sem]
 refine⟨rfl,sJ λr P=>?_⟩
 obtain⟨g,R⟩:=IP h5.next
 rw[R]
 have gY:r.st= .ready:=by rw[P]
 have a1:r.pend=none:=by rw[P]
 obtain⟨L,K⟩: ∃L,L=h5.new (.loop r):=⟨_,rfl⟩
 have a7:L.get g=some (.loop r):=by rw[K,←R,H.aN]
 have n6:L.next=g+1:=by rw[K,H.aY,R]
 have f6:Fr h5 L:=by rw[K];exact (Fr.refl h5).new _
 rw[←K]
 have F2:=f1.trans f2
 have K:=F2.trans f3
 have R:=F2.next
 have F4:Fr h h4:=⟨by rw[n4];exact K.next,λq p=>by rw[o4 q om];exact K.get q p⟩
 have R:=(F4.trans f5).trans f6
 have K:g=b+1:=om
 have a5:L.get B=bX [aB 1]:=by rw[f6.get _ om,f5.get _ om];exact g4
 have K:L.get b=bX [u]:=by rw[f6.get _ om];exact g5
 have J0:OrJ h B b g u a r (lD (((jS a n).map List.length).take 0)) L:=⟨a7,a5,K,N.mono R,om,R⟩
 refine (cycles1_ok g b u n a L a0 om A (g+1) om om K om (N.mono R) (λk s=>OrJ h B b g u a r (lD (((jS a n).map List.length).take k)) s) J0
  (λk s h' j L p=>⟨by rw[p _ om];exact j.gr,by rw[p _ om];exact j.gA,by rw[p _ om];exact j.gb,N.mono ⟨jC j.fr.next L,λq K=>by rw[p _ om];exact j.fr.get q K⟩,iO j.nx L,⟨jC j.fr.next L,λq K=>by rw[p _ om];exact j.fr.get q K⟩⟩)
  (λk s j=>⟨j.gb,j.si⟩) ?_).mono ?_
 ·intro k s v R j a4 K
  obtain⟨m,hm⟩:=IP (lD (((jS a n).map List.length).take k))
  obtain⟨c,U⟩:=IP ((jS a n).getD k [])
  have K:((jS a n).map List.length).getD k 0=c.length:=by rw[gd_map _ (d:= []) R,U]
  have L:k<((jS a n).map List.length).length:=by rw[iK];exact R
  have x:=lcm_take_succ ((jS a n).map List.length) k L
  rw[hm,K] at x
  have L:=nI A
  have K:=jC (Nt A) (pow_small hn)
  have a5:m<=823543:=jC (by rw[←hm];exact Nat.le_of_dvd L (lcm_take_dvd _ k)) K
  have Z:lD (((jS a n).map List.length).take (k+1))<=823543:=jC (Nat.le_of_dvd L (lcm_take_dvd _ (k+1))) K
  have K:1<=c.length/\c.length<=7:=by
   have:=getD_mem (l:=jS a n) (d:= []) R;rw[U] at this;obtain⟨i,hi,rfl⟩:=pU.1 this;have K:i<n:=by unfold yS at hi;exact Ae.1 (Sq.1 hi).1
   rw[iZ];have:=(iT A K).1;have:=zZ A K;omega
  rw[U] at a4
  have lv:=a4.lens
  rw[aQ] at lv
  rw[hm] at j
  refine pM j.gr (by rw[P];rfl) gY λJ g9 i o9=>?_
  rw[congrArg fM.assign P,congrArg fM.vars P,congrArg fM.pars P]
  simp(disch:=omega)only[go_sem,List.zip_cons_cons,List.zip_nil_left]
  rw[congrArg fM.body P]
  have nx:=j.nx
  have Y:J.get B=bX [aB m]:=by rw[o9 _ om];exact j.gA
  simp(disch:=omega)only[go_sem,H.aG Y,lv]
  refine (gcd_ok (rfl:T 102=some c_perm_gcd) m c.length _ om om).mono ?_
  rintro _ f ⟨rfl,i⟩
  have a8:J.next+10<=f.next:=i.next
  have o: ∀q,q<J.next->f.get q=J.get q:=λq p=>i.get q (by show q<J.next+10;omega)
  have t:f.get B=bX [aB m]:=by rw[o _ om];exact Y
  obtain⟨G,i⟩:=IP (Nat.gcd m c.length)
  rw[i] at x
  rw[i]
  have K:0<G:=by rw[←i];exact Nat.gcd_pos_of_pos_right _ om
  have a6:(G:Int)≠0:=om
  have a3:(m:Int).tdiv (G:Int)=((m/G:Nat):Int):=by rw[Int.tdiv_eq_ediv_of_nonneg om];rfl
  have b0:m/G<=m:=Nat.div_le_self _ _
  have Q:((m/G:Nat):Int)*(c.length:Int)=((lD (((jS a n).map List.length).take (k+1)):Nat):Int):=by rw[x,Int.natCast_mul]
  generalize lD (((jS a n).map List.length).take (k+1))=m2 at Q Z x
  generalize m/G=q at a3 b0 Q x
  have c: ∀(s:H) (y:V),dS (bX [aB m]) s B 0 [y]=some (s.set B (bX [y])):=λs y=>bE (by simp) s _ _
  simp(disch:=omega)only[go_sem,a6,a3,Q,lv,H.aG t,t,c]
  refine pG gY a1 (by rw[H.aI _ om];rw[o _ om];exact g9) ?_
  obtain⟨w,e⟩: ∃w,w=(f.set B (bX [aB m2])).set g (some (.loop r)):=⟨_,rfl⟩
  rw[←e]
  have c:w.next=f.next:=by rw[e];rfl
  have W: ∀q,q≠B->q≠g->w.get q=f.get q:=λq h1 O=>by rw[e,H.aI _ O,H.aI _ h1]
  have a9:=j.fr.next
  have a2:Fr h w:=⟨om,λq p=>by rw[W q om om,o q om,o9 q om];exact j.fr.get q p⟩
  exact⟨rfl,⟨by rw[e,H.aT],by rw[e,H.aI _ om,H.aT],by rw[W b om om,o b om,o9 b om];exact j.gb,N.mono a2,om,a2⟩,⟨om,λq h1 O=>by rw[W q (λe=>O om) (λe=>O om),o q om,o9 q (λe=>O om)]⟩⟩
 ·rintro _ J j
  rw[show (jS a n).length=((jS a n).map List.length).length from (iK _).symm,List.take_length] at j
  have Z:dW a n<=823543:=jC (Nt A) (pow_small hn)
  have j':OrJ h B b g u a r (dW a n) J:=j
  refine⟨r,j'.gr,by rw[gY];simp,?_⟩
  have en:r.pend.getD .norm= .norm:=by rw[a1];rfl
  rw[en]
  obtain⟨f,F⟩: ∃f,f=J.set g (some (.loop {r with st:= .out})):=⟨_,rfl⟩
  have o: ∀q,q≠g->f.get q=J.get q:=λq p=>by rw[F,H.aI _ p]
  have a8:f.next=J.next:=by rw[F];rfl
  have t:f.get B=bX [aB (dW a n:Nat)]:=by rw[o _ om];exact j'.gA
  have a9:=j'.fr.next
  have b:Fr h f:=⟨om,λq p=>by rw[o q om];exact j'.fr.get q p⟩
  rw[←F]
  simp(disch:=omega)only[go_sem,H.aG t]
  exact b
theorem mks_bytes (h:H)(n:Nat)(a:n<=100000):uJ h 1 1 [.int .u8 0] (aB n) (aB n)=some (.sl h.next 0 n (.kn n),h.new (.cells false (rc n λ_=> .int .u8 0))):=by
 rw[lZ om (Int.le_refl _) om om,Cd,jY]
 have e:dN [V.int .u8 0] n=rc n λ_=> .int .u8 0:=by
  symm;refine xT ?_ λi hi=>?_
  ·simp [dN]
  ·simp [dN,hi,Nat.mod_one]
 rw[e]
theorem bytesV_map: ∀l:List Nat,(∀x∈l,x<256)->mS (l.map λ(x:Nat)=>V.int .u8 (x:Int))=some l
 | [],_=>rfl
 |x::r,h=>by
  have b:=h x (by simp);show (if 0<=(x:Int)/\(x:Int)<256 then (mS (r.map λ(x:Nat)=>V.int .u8 (x:Int))).map ((x:Int).toNat:: ·) else none)=_;rw[aV ⟨om,om⟩,bytesV_map r λy a=>h y (by simp [a])]
  rfl
theorem word_ok (u:V)(a:List Nat)(h:H)(R:a.length<=1000)(w: ∀x∈a,x<256)(O:SI h u (zi a)):
  Ev T 83 [u] h (λv h'=>v= .str a/\Fr h h'):=by
 refine bH c_classes_element_word rfl rfl ?_
 obtain⟨n,q⟩:=IP a.length
 have B:=O.lens
 rw[aQ,q] at B
 obtain⟨id,off,y,o,N⟩:=O.open
 rw[aQ,q] at y o N
 simp(disch:=omega)only[go_sem,c_classes_element_word,aF,B,mks_bytes h n om]
 have l:Fr h (h.new (.cells false (rc n λ_=> .int .u8 0))):=(Fr.refl h).new _
 have d:(h.new (.cells false (rc n λ_=> .int .u8 0))).get h.next=some (.cells false (rc n λ_=> .int .u8 0)):=H.aN ..
 have f:(h.new (.cells false (rc n λ_=> .int .u8 0))).next=h.next+1:=H.aY ..
 generalize h.new (.cells false (rc n λ_=> .int .u8 0))=W at*
 obtain⟨S,G⟩:=IP h.next
 rw[G] at d f
 rw[G]
 refine aH (λz b t=> ∃(i:Nat),(∃j:Nat->V,b= [u,j 1,.sl S 0 n (.kn n),j 3,j 4,u,aB n,aB i,j 8])/\i<=n/\
   t.get S=some (.cells false (rc n λj=>if j<i then .int .u8 ((a.getD j 0:Nat):Int) else .int .u8 0))/\t.next=S+1/\Fr h t/\z=n-i) n
  ⟨0,aA rfl,eY _,by rw[d];rfl,f,l,rfl⟩ ?_
 clear d l f
 rintro z b g ⟨i,⟨U,rfl⟩,hi,L,P,F,rfl⟩
 simp(disch:=omega)only[go_sem]
 by_cases p:(i:Int)<(n:Int)
 ·rw[bV p]
  have c:i<n:=om
  have ci:g.cell id (off+i)=some (aB (a.getD i 0:Nat)):=by rw[F.cell (o om),N i c];congr 2;simp [zi,q,c]
  have r:=w (a.getD i 0) (getD_mem om)
  generalize Q:a.getD i 0=k at ci r
  have A:=bE (vs:=rc n λj=>if j<i then .int .u8 ((a.getD j 0:Nat):Int) else .int .u8 0) (off:=i) (by rw[cK];exact c) g S (.int .u8 (k:Int))
  rw[eG] at A
  simp(disch:=omega)only[go_sem,y.ixa,ci,L,wrap_u8_in,A]
  rw[dX i]
  refine⟨n-(i+1),om,i+1,aA rfl,om,?_,P,F.set om _,rfl⟩
  congr 2
  refine aX λj K=>?_
  by_cases e:j=i
  ·rw[aV e,aV om,e,Q]
  ·rw[aZ e]
   by_cases J:j<i
   ·rw[aV J,aV om]
   ·rw[aZ J,aZ om]
 rw[bM p]
 obtain rfl:i=n:=om
 have m:g.row S 0 i=some (a.map λ(x:Nat)=>V.int .u8 (x:Int)):=by
  have e:(rc i λj=>if j<i then V.int .u8 ((a.getD j 0:Nat):Int) else .int .u8 0)=a.map λ(x:Nat)=>V.int .u8 (x:Int):=xT (by rw[iK,q]) λj K=>by
   rw[aV K,Kt,eX om,List.getD,eX om];rfl
  unfold H.row;rw[L,e];simp only[sub];rw[aV (by rw[iK];omega)];rw[List.drop_zero,yR (by rw[iK];omega)]
 have s:Vn g (.sl S 0 i (.kn i))=some (.str a):=by
  show (match g.row S 0 i with|some ys=>(mS ys).map V.str|none=>none)=_;rw[m];show (mS (a.map λ(x:Nat)=>V.int .u8 (x:Int))).map V.str=_;rw[bytesV_map a w];rfl
 simp(disch:=omega)only[go_sem,AX,s]
 exact F
section
variable {y x g:List Nat}
section
variable {n:Nat} {G:List Nat->Prop} {O:LN} {R:jL}
theorem one_le (Y:bT n y):Le (cG n) y:=by
 by_cases h: ∃k,k<n/\y.getD k 0≠k
 ·obtain⟨k,⟨b,a⟩,c⟩: ∃k,(k<n/\y.getD k 0≠k)/\ ∀j,j<k-> ¬(j<n/\y.getD j 0≠j):=by
   obtain⟨k,b⟩:=h
   induction k using Nat.strongRecOn with
   |_ k ih=>
    by_cases a: ∃j,j<k/\(j<n/\y.getD j 0≠j)
    ·obtain⟨j,e,d⟩:=a;exact ih j e d
    ·exact⟨k,b,λj d e=>a ⟨j,d,e⟩⟩
  have a: ∀j,j<k->y.getD j 0=j:=λj d=>Bz λe=>c j d ⟨om,e⟩
  refine .inr ⟨k,by rw[gU];exact b,λj d=>by rw[eP om,a j d],?_⟩;rw[eP b];refine Bz λc=>?_
  have c:y.getD k 0<k:=om
  have:=Y.inj om b (a _ c);omega
 ·exact .inl ((Fix.all Y λk b=>Bz λe=>h ⟨k,b,e⟩).symm)
theorem first_one (f:mD n G)(c:dU n G O R){i:Nat}(hi:i<n):0<(R.getD i []).length/\(R.getD i []).getD 0 []=cG n:=by
 have m:i∈O.getD i []:=(c.mem i hi i).2 ⟨cG n,f.one,Fix.one n i om,eP hi⟩;have a:0<(O.getD i []).length:=Py m;have b:=c.rep i hi 0 a
 have o:(O.getD i []).getD 0 0=i:=by
  have d:(O.getD i []).getD 0 0∈O.getD i []:=getD_mem a;obtain⟨x,p,fx,e⟩:=(c.mem i hi _).1 d
  have d: ¬(O.getD i []).getD 0 0<i:=λd=>by
   have X:=f.isP p;have:=X.inj (i:=(O.getD i []).getD 0 0) (j:=i) om hi (by rw[fx _ d,e]);omega
  obtain⟨k,q,d⟩:=vJ.1 m;have l:=Po.1 (c.asc i hi);have d:(O.getD i []).getD 0 0=(O.getD i [])[0]:=Pm.bP a
  by_cases h:k=0
  ·subst h;omega
  ·have:=l 0 k a q om
   omega
 rw[o] at b;refine⟨by rw[c.rl i hi];exact a,b.uniq ⟨f.one,Fix.one n i om,eP hi,λy a _ _=>one_le (f.isP a)⟩⟩
theorem strong_mem (c:dU n G O R)(a:x∈strongL R):G x:=by
 unfold strongL at a;obtain⟨r,d,b⟩:=List.mem_flatMap.1 a;exact chain_mem c x (List.mem_flatten.2 ⟨r,d,List.mem_of_mem_drop b⟩)
theorem strong_gen (f:mD n G)(c:dU n G O R)(o:G x):fA n (λg=>g∈strongL R) x:=by
 have h:=(chain_iff f c x).2 o;have q: ∀g,g∈strongL R->bT n g:=λg b=>f.isP (strong_mem c b)
 clear o
 induction h with
 |one=>exact .one
 | @mul y g _ b ih=>
  obtain⟨r,j,p⟩:=List.mem_flatten.1 b;obtain⟨i,hi,b⟩:=vJ.1 j;have e:i<n:=by have:=c.lr;omega
  have a:R.getD i []=r:=by rw[List.getD,eX hi,←b];rfl
  obtain⟨b,m⟩:=first_one f c e;rw[a] at b m;obtain⟨k,s,l⟩:=vJ.1 p
  by_cases d:k=0
  ·subst d
   have:g=cG n:=by rw[←m,List.getD,eX s,←l];rfl
   rw[this,dA (ih.isP q)];exact ih
  ·refine ih.mul ?_
   unfold strongL;refine List.mem_flatMap.2 ⟨r,j,vJ.2 ⟨k- 1,by rw[Cg];omega,?_⟩⟩;rw[List.getElem_drop];simp only[show 1+(k- 1)=k by omega,l]
def conjP (x g:List Nat):List Nat:=bD (bD (dH g) x) g
theorem conjP_isP (X:bT n x)(g':bT n g):bT n (conjP x g):=(g'.inv.mul X).mul g'
theorem conjP_one (X:bT n x):conjP x (cG n)=x:=by
 unfold conjP;rw[rP,fG X,dA X]
theorem conjP_mul {k:List Nat}(X:bT n x)(A:bT n g)(B:bT n k):conjP x (bD g k)=conjP (conjP x g) k:=by
 unfold conjP;rw[Wi A B];have a:=A.inv;have b:=B.inv;rw[bN b a X,←bN (b.mul (a.mul X)) A B,←bN b (a.mul X) A|>.symm]
theorem conjP_inv (X:bT n x)(A:bT n g):conjP (conjP x g) (dH g)=x:=by
 rw[←conjP_mul X A A.inv,iH A,conjP_one X]
def cj (G:List Nat->Prop)(x y:List Nat):Prop:= ∃g,G g/\conjP x g=y
theorem cj_refl (a:mD n G)(X:bT n x):cj G x x:=⟨cG n,a.one,conjP_one X⟩
theorem cj_symm (a:mD n G)(X:bT n x)(h:cj G x y):cj G y x:=by
 obtain⟨g,b,rfl⟩:=h;exact⟨dH g,a.inv b,conjP_inv X (a.isP b)⟩
theorem cj_trans (a:mD n G){z:List Nat}(X:bT n x)(h:cj G x y)(h2:cj G y z):cj G x z:=by
 obtain⟨g,c,rfl⟩:=h;obtain⟨k,b,rfl⟩:=h2;exact⟨bD g k,a.mul c b,conjP_mul X (a.isP c) (a.isP b)⟩
theorem cj_ind {S:List Nat->Prop}(b: ∀g,S g->bT n g)(a: ∀x,G x->fA n S x){P:List Nat->Prop}(X:bT n x)(e:P x)(d: ∀y g,bT n y->P y->S g->P (conjP y g))(h:cj G x y):P y:=by
 obtain⟨g,c,rfl⟩:=h;have:=a g c;clear c
 induction this with
 |one=>rw[conjP_one X];exact e
 | @mul z k hz hk ih=>
  rw[conjP_mul X (hz.isP b) (b k hk)];exact d _ _ (conjP_isP X (hz.isP b)) ih hk
end
end
end Go.Proofs.YtapfcpkecmmagaaGreat
namespace Go.Proofs.YtapfcpkecmmagaaGreat.Cls
open Go Go.Ay Go.Sort
set_option maxRecDepth 100000
section
variable {h:H} {S N i j a:Nat}
class Srt (α:Type)[Inhabited α] where
 lt:α->α->Bool
 enc:α->List V
 P:α->Prop
 B:H->Prop
 f:Nat
 b0:Nat
 S:Nat
 swo:SWO lt
 len: ∀a,(enc a).length=4
 one: ∀a,(enc a).all V.one=true
 eqv: ∀a,dJ (.agg (enc a)) (.agg (enc a))=true
 cmp: ∀h a b,B h->P a->P b->Ev T f [.agg (enc a),.agg (enc b)] h (λv h'=> ∃z,v= aB z/\decide (z<0)=lt a b/\Fr h h')
 bfr: ∀h h',B h->Fr h h'->B h'
 bS: ∀h h',B h->Fx (· =S) h h'->B h'
 bR: ∀h h' R,B h->b0<=R->Fx (· =R) h h'->B h'
 bn: ∀h,B h->b0<=h.next
def flat {α:Type}[Inhabited α][Srt α](l:List α):List V:=l.flatMap Srt.enc
structure Arr {α:Type}[Inhabited α][O:Srt α](h:H)(S N:Nat)(d:Array α):Prop where
 get:h.get S=bX (flat d.toList)
 size:d.size=N
 lt:S<h.next
 eqS:S=O.S
 base:O.B h
 all: ∀i,i<d.size->O.P d[i]!
section
variable {α:Type} [Inhabited α] [O:Srt α]
theorem flat_len: ∀l:List α,(flat l).length=l.length*4
 | []=>rfl
 |x::r=>by
  show (Srt.enc x++flat r).length=_;rw[jD,Srt.len,flat_len r,List.length_cons];omega
theorem flat_drop: ∀(l:List α) (i:Nat),(flat l).drop (i*4)=flat (l.drop i)
 |l,0=>by simp
 | [],i+1=>by simp [flat]
 |x::r,i+1=>by
  show (Srt.enc x++flat r).drop ((i+1)*4)=_;rw[List.drop_append,List.drop_eq_nil_of_le (by rw[Srt.len];omega),Srt.len,List.nil_append,show (i+1)*4- 4=i*4 by omega,flat_drop r i,List.drop_succ_cons]
theorem flat_take: ∀(l:List α) (i:Nat),(flat l).take (i*4)=flat (l.take i)
 |l,0=>by simp [flat]
 | [],i+1=>by simp [flat]
 |x::r,i+1=>by
  show (Srt.enc x++flat r).take ((i+1)*4)=_;rw[List.take_append,yR (by rw[Srt.len];omega),Srt.len,show (i+1)*4- 4=i*4 by omega,flat_take r i,List.take_succ_cons];rfl
theorem stV_enc (h:H)(id off:Nat)(a:α):Kz h 4 (.ptr id off) (.agg (Srt.enc a))=dS (h.get id) h id off (Srt.enc a):=pY h id off 4 _ (Srt.len a) (Srt.one a)
theorem eqV_enc (a:α):dJ (.agg (Srt.enc a)) (.agg (Srt.enc a))=true:=Srt.eqv a
theorem Arr.rd {d:Array α}(A:Arr h S N d)(hi:i<N):h.row S (i*4) 4=some (Srt.enc d[i]!):=by
 have b:i<d.size:=by rw[A.size];exact hi
 have c:i<d.toList.length:=by simpa using b
 unfold H.row;rw[A.get];simp only[sub];rw[aV (by rw[flat_len];omega),flat_drop,Tb c];show some ((Srt.enc d.toList[i]++flat _).take 4)=_;rw[List.take_append,yR (by rw[Srt.len];exact fH _),Srt.len];simp [b]
theorem Arr.fr {h':H}{d:Array α}(A:Arr h S N d)(f:Fr h h'):Arr h' S N d:=⟨by rw[f.get _ A.lt];exact A.get,A.size,iO A.lt f.next,A.eqS,O.bfr _ _ A.base f,A.all⟩
theorem put_cont {d:Array α}(hi:i<d.size)(hh:H)(S:Nat)(x:α):dS (bX (flat d.toList)) hh S (i*4) (Srt.enc x)=some (hh.set S (bX (flat (d.setIfInBounds i x).toList))):=by
 have b:i<d.toList.length:=by simpa using hi
 have e:(flat d.toList).take (i*4)++Srt.enc x++(flat d.toList).drop (i*4+4)=flat (d.setIfInBounds i x).toList:=by
  rw[Array.toList_setIfInBounds,List.set_eq_take_append_cons_drop,aV b,flat_take,show i*4+4=(i+1)*4 by omega,flat_drop];simp [flat]
 simp only[dS,putAt,Srt.len];rw[aV (by rw[flat_len];omega),e];rfl
theorem put_cont' {d:Array α}{y:α}(hi:i<d.size)(hh:H)(S:Nat)(x:α):dS (bX (flat (d.setIfInBounds j y).toList)) hh S (i*4) (Srt.enc x)=some (hh.set S (bX (flat ((d.setIfInBounds j y).setIfInBounds i x).toList))):=
 put_cont (by simpa using hi) hh S x
theorem Arr.swap {h2:H}{d:Array α}(A:Arr h S N d){nx:Nat}(f:h.next<=nx)(e:h2=((H.mk h.tr nx).set S (bX (flat (d.setIfInBounds i d[j]!).toList))).set S (bX (flat ((d.setIfInBounds i d[j]!).setIfInBounds j d[i]!).toList)))(hi:i<N:=by omega)(l:j<N:=by omega):Arr h2 S N (swp d i j)/\Fx (· =S) h h2:=by
 subst e
 have fx:Fx (· =S) h (((H.mk h.tr nx).set S (bX (flat (d.setIfInBounds i d[j]!).toList))).set S (bX (flat ((d.setIfInBounds i d[j]!).setIfInBounds j d[i]!).toList))):=⟨f,λid _ b=>by rw[H.aI _ b,H.aI _ b];rfl⟩
 have c:=A.size;refine⟨⟨?_,?_,iO A.lt f,A.eqS,O.bS _ _ A.base (by have:=A.eqS;subst this;exact fx),?_⟩,fx⟩
 ·rw[H.aT];rfl
 ·simp [swp,c]
 ·intro k c
  have b:k<d.size:=by simpa [swp] using c
  unfold swp
  have c: ∀(x:Array α) (u:Nat) (y:α),k<x.size->(x.setIfInBounds u y)[k]! =if u=k then y else x[k]! :=λx u y g=>by
   rw[getElem!_pos (x.setIfInBounds u y) k (by simpa using g),getElem!_pos x k g,Array.getElem_setIfInBounds]
  rw[c _ _ _ (by simpa using b),c _ _ _ b]
  by_cases c:j=k
  ·rw[aV c];exact A.all i om
  ·rw[aZ c]
   by_cases c:i=k
   ·rw[aV c];exact A.all j om
   ·rw[aZ c];exact A.all k b
theorem srt_cmp {d:Array α}(A:Arr h S N d)(hi:i<N)(c:j<N)(nx:Nat)(b:h.next<=nx):Ev T (Srt.f α) [.agg (Srt.enc d[i]!),.agg (Srt.enc d[j]!)] (H.mk h.tr nx) (λv h'=> ∃z,v= aB z/\decide (z<0)=Srt.lt d[i]! d[j]! /\Fr (H.mk h.tr nx) h'):=
 O.cmp _ _ _ (O.bfr _ _ A.base ((Fr.refl h).bL b)) (A.all i (by rw[A.size];exact hi)) (A.all j (by rw[A.size];exact c))
end
attribute [go_sem] stV_enc eqV_enc H.Ix
theorem fxt {a b c:H}(x:Fx (· =S) a b)(y:Fx (· =S) b c):Fx (· =S) a c:=x.trans y λ_ _ h=>h
theorem insI_t {α:Type}[Inhabited α]{lt:α->α->Bool}{d:Array α}(b:a<j+1)(h2:lt d[j+1]! d[j]! =true):insInner lt a (j+1) d=insInner lt a j (swp d (j+1) j):=by
 rw[insInner,aV (by simp [b,h2])]
theorem insI_f {α:Type}[Inhabited α]{lt:α->α->Bool}{d:Array α}(h2:lt d[j+1]! d[j]! =false):insInner lt a (j+1) d=d:=by
 rw[insInner,aZ (by simp [h2])]
theorem insI_s {α:Type}[Inhabited α]{lt:α->α->Bool}{d:Array α}(h:j<=a):insInner lt a j d=d:=by
 cases j with
 |zero=>rfl
 |succ j=>rw[insInner,aZ (by simp;omega)]
theorem insertion_ok {α:Type}[Inhabited α][O:Srt α](h:H)(S N a b:Nat)(d:Array α)(v:mE)(Q:N<1000000)(A:Arr h S N d)(P:b<=N)(L:a<=b):
  Ev T 139 [.sl S 0 N v,aB a,aB b,.fn (Srt.f α) [] []] h (λ_ h'=>Arr h' S N (insertionSort Srt.lt d a b)/\Fx (· =S) h h'):=by
 refine bH c_slices_insertionSortCmpFunc_classes_class rfl rfl ?_
 simp(disch:=omega)only[go_sem,c_slices_insertionSortCmpFunc_classes_class,aF]
 rw[dX a]
 refine aH (λq c s=> ∃(i:Nat) (e:Array α),(∃g:Nat->V,c= [.sl S 0 N v,aB a,aB b,.fn (Srt.f α) [] [],aB i,g 5,g 6,g 7])/\a<i/\i<=b+1/\Arr s S N e/\insOuter Srt.lt a b i e=insertionSort Srt.lt d a b/\Fx (· =S) h s/\q=b+1-i) (b+1-(a+1))
  ⟨a+1,d,aA rfl,om,om,A,rfl,Fx.refl _ h,rfl⟩ ?_
 clear A
 rintro q c t ⟨i,e,⟨g,rfl⟩,t,t,A,n,F,rfl⟩
 simp(disch:=omega)only[go_sem]
 by_cases t:(i:Int)<(b:Int)
 case neg=>
  rw[bM t];simp(disch:=omega)only[go_sem];rw[insOuter,aZ om] at n;rw[←n];exact⟨A,F⟩
 rw[bV t]
 rw[insOuter,aV om] at n
 simp(disch:=omega)only[go_sem]
 refine aH (λq c s=> ∃(j:Nat) (k:Array α),(∃g:Nat->V,c= [.sl S 0 N v,aB a,aB b,.fn (Srt.f α) [] [],aB i,aB j,g 6,g 7])/\a<=j/\j<=i/\Arr s S N k/\insInner Srt.lt a j k=insInner Srt.lt a i e/\Fx (· =S) h s/\q=j) i
  ⟨i,e,aA rfl,om,om,A,rfl,F,rfl⟩ ?_
 clear A F
 rintro q c o ⟨j,k,⟨c,rfl⟩,c,c,A,p,F,c⟩
 have c:=A.size
 by_cases r:(a:Int)<(j:Int)
 ·obtain⟨m,rfl⟩: ∃m,j=m+1:=⟨j- 1,om⟩
  have c:=A.rd (i:=m+1) om
  have e:=A.rd (i:=m) om
  have w:=bV r
  have y:((m+1:Nat):Int)- 1=(m:Int):=om
  simp(disch:=omega)only[go_sem,w,y,c,e]
  refine (srt_cmp A (i:=m+1) (j:=m) om om _ om).mono ?_
  rintro _ G ⟨z,rfl,x,c⟩
  have l:Fr o G:=Fr.trans ((Fr.refl o).bL om) c
  have u:=A.fr l
  have J:=u.rd (i:=m+1) om
  have K:=u.rd (i:=m) om
  cases hl:Srt.lt k[m+1]! k[m]! with
  |false=>
   rw[insI_f hl] at p;simp(disch:=omega)only[go_sem,x,hl];rw[dX i];rw[←p] at n;exact⟨b+1-(i+1),om,i+1,k,aA rfl,om,om,u,n,fxt F (Fx.of l),rfl⟩
  |true=>
   rw[insI_t om hl] at p;simp(disch:=omega)only[go_sem,x,hl,y,J,K,u.get,put_cont,put_cont'];have W:=u.swap (i:=m+1) (j:=m) (nx:=G.next+18) om rfl;exact⟨m,om,m,_,aA rfl,om,om,W.1,p,fxt (fxt F (Fx.of l)) W.2,rfl⟩
 ·have w:=bM r
  rw[insI_s om] at p
  simp(disch:=omega)only[go_sem,w]
  rw[dX i]
  rw[←p] at n
  have B:Fr o (H.mk o.tr (o.next+17)):=(Fr.refl o).bL om
  exact⟨b+1-(i+1),om,i+1,k,aA rfl,om,om,A.fr B,n,fxt F (Fx.of B),rfl⟩
end
def chd {α:Type}[Inhabited α](lt:α->α->Bool)(hi first root:Nat)(d:Array α):Nat:=if 2*root+1+1<hi/\lt d[first+(2*root+1)]! d[first+(2*root+1)+1]! =true then 2*root+2 else 2*root+1
theorem sift_eq {α:Type}[Inhabited α]{lt:α->α->Bool}(hi first a:Nat)(d:Array α):siftDown lt hi first a d=if 2*a+1≥hi then d else
  if lt d[first+a]! d[first+chd lt hi first a d]! =true then siftDown lt hi first (chd lt hi first a d) (swp d (first+a) (first+chd lt hi first a d)) else d:=by
 rw[siftDown]
 unfold chd
 by_cases b:2*a+1≥hi
 ·rw[dif_pos b,aV b]
 ·rw[dif_neg b,aZ b]
  by_cases c:2*a+1+1<hi/\lt d[first+(2*a+1)]! d[first+(2*a+1)+1]! =true
  ·rw[aV (by simpa using c),aV c]
   cases h3:lt d[first+a]! d[first+(2*a+2)]!
   ·simp
   ·simp [show 2*a+2<hi by omega]
  ·rw[aZ (by simpa using c),aZ c]
   cases h3:lt d[first+a]! d[first+(2*a+1)]! <;>simp
theorem siftDown_ok  {α:Type}[Inhabited α][O:Srt α](h:H)(S N x hi first:Nat)(d:Array α)(Y:mE)(hN:N<1000000)(A:Arr h S N d)(hb:first+hi<=N)(P:x<=hi):
  Ev T 173 [.sl S 0 N Y,aB x,aB hi,aB first,.fn (Srt.f α) [] []] h (λ_ h'=>Arr h' S N (siftDown Srt.lt hi first x d)/\Fx (· =S) h h'):=by
 refine bH c_slices_siftDownCmpFunc_classes_class rfl rfl ?_
 simp(disch:=omega)only[go_sem,c_slices_siftDownCmpFunc_classes_class,aF]
 refine aH (λZ s hh=> ∃(r:Nat) (e:Array α),(∃g:Nat->V,s= [.sl S 0 N Y,aB x,aB hi,aB first,.fn (Srt.f α) [] [],aB r,g 6,g 7,g 8,g 9])/\r<=hi/\Arr hh S N e/\siftDown Srt.lt hi first r e=siftDown Srt.lt hi first x d/\Fx (· =S) h hh/\Z=hi-r) (hi-x)
  ⟨x,d,aA rfl,P,A,rfl,Fx.refl _ h,rfl⟩ ?_
 clear A
 rintro Z s t ⟨r,e,⟨g,rfl⟩,g,A,a,F,rfl⟩
 have Q:2*(r:Int)+1=((2*r+1:Nat):Int):=om
 by_cases g:(hi:Int)<=((2*r+1:Nat):Int)
 ·have L:=bV g
  simp(disch:=omega)only[go_sem,Q,L]
  rw[sift_eq,aV om] at a
  rw[←a]
  exact⟨A,F⟩
 have L:=bM g
 rw[sift_eq,aZ om] at a
 have U:((2*r+1:Nat):Int)+1=((2*r+2:Nat):Int):=om
 have c:(first:Int)+(r:Int)=((first+r:Nat):Int):=om
 have n:(first:Int)+((2*r+1:Nat):Int)=((first+(2*r+1):Nat):Int):=om
 have K:(first:Int)+((2*r+2:Nat):Int)=((first+(2*r+2):Nat):Int):=om
 have g:((first+(2*r+1):Nat):Int)+1=((first+(2*r+1)+1:Nat):Int):=om
 have s:=A.size
 by_cases J:((2*r+2:Nat):Int)<(hi:Int)
 ·have R:=bV J
  have p:=A.rd (i:=first+(2*r+1)) om
  have B:=A.rd (i:=first+(2*r+1)+1) om
  simp(disch:=omega)only[go_sem,Q,L,U,R,n,g,p,B]
  refine (srt_cmp A (i:=first+(2*r+1)) (j:=first+(2*r+1)+1) om om _ om).mono ?_
  rintro _ y ⟨z,rfl,l,g⟩
  have G:Fr t y:=Fr.trans ((Fr.refl t).bL om) g
  have q:=A.fr G
  have o:=q.rd (i:=first+r) om
  have p:=q.rd (i:=first+(2*r+1)) om
  have B:=q.rd (i:=first+(2*r+2)) om
  cases hl:Srt.lt e[first+(2*r+1)]! e[first+(2*r+1)+1]! with
  |false=>
   have m:chd Srt.lt hi first r e=2*r+1:=aZ (by rw[hl];simp)
   rw[m] at a;simp(disch:=omega)only[go_sem,l,hl,c,n,o,p];refine (srt_cmp q (i:=first+r) (j:=first+(2*r+1)) om om _ om).mono ?_;rintro _ w ⟨z,rfl,l,k⟩;have u:Fr y w:=Fr.trans ((Fr.refl y).bL om) k;have b:=q.fr u;have o:=b.rd (i:=first+r) om;have p:=b.rd (i:=first+(2*r+1)) om;have v:=fxt (fxt F (Fx.of G)) (Fx.of u)
   cases hl2:Srt.lt e[first+r]! e[first+(2*r+1)]! with
   |false=>
    rw[aZ (by rw[hl2];simp)] at a;simp(disch:=omega)only[go_sem,l,hl2];rw[←a];exact⟨b,v⟩
   |true=>
    rw[aV hl2] at a;simp(disch:=omega)only[go_sem,l,hl2,c,n,o,p,b.get,put_cont,put_cont'];have W:=b.swap (i:=first+r) (j:=first+(2*r+1)) (nx:=w.next+24) om rfl;exact⟨hi-(2*r+1),om,2*r+1,_,aA rfl,om,W.1,a,fxt v W.2,rfl⟩
  |true=>
   have m:chd Srt.lt hi first r e=2*r+2:=aV ⟨om,hl⟩
   rw[m] at a;simp(disch:=omega)only[go_sem,l,hl,U,c,K,o,B];refine (srt_cmp q (i:=first+r) (j:=first+(2*r+2)) om om _ om).mono ?_;rintro _ w ⟨z,rfl,l,k⟩;have u:Fr y w:=Fr.trans ((Fr.refl y).bL om) k;have b:=q.fr u;have o:=b.rd (i:=first+r) om;have B:=b.rd (i:=first+(2*r+2)) om;have v:=fxt (fxt F (Fx.of G)) (Fx.of u)
   cases hl2:Srt.lt e[first+r]! e[first+(2*r+2)]! with
   |false=>
    rw[aZ (by rw[hl2];simp)] at a;simp(disch:=omega)only[go_sem,l,hl2];rw[←a];exact⟨b,v⟩
   |true=>
    rw[aV hl2] at a;simp(disch:=omega)only[go_sem,l,hl2,c,K,o,B,b.get,put_cont,put_cont'];have W:=b.swap (i:=first+r) (j:=first+(2*r+2)) (nx:=w.next+24) om rfl;exact⟨hi-(2*r+2),om,2*r+2,_,aA rfl,om,W.1,a,fxt v W.2,rfl⟩
 ·have R:=bM J
  have m:chd Srt.lt hi first r e=2*r+1:=aZ om
  rw[m] at a
  have G:Fr t (H.mk t.tr (t.next+20)):=(Fr.refl t).bL om
  have q:=A.fr G
  have o:=A.rd (i:=first+r) om
  have p:=A.rd (i:=first+(2*r+1)) om
  simp(disch:=omega)only[go_sem,Q,L,U,R,c,n,o,p]
  refine (srt_cmp A (i:=first+r) (j:=first+(2*r+1)) om om _ om).mono ?_
  rintro _ w ⟨z,rfl,l,k⟩
  have u:Fr t w:=Fr.trans ((Fr.refl t).bL om) k
  have b:=A.fr u
  have o:=b.rd (i:=first+r) om
  have p:=b.rd (i:=first+(2*r+1)) om
  have v:=fxt F (Fx.of u)
  cases hl2:Srt.lt e[first+r]! e[first+(2*r+1)]! with
  |false=>
   rw[aZ (by rw[hl2];simp)] at a;simp(disch:=omega)only[go_sem,l,hl2];rw[←a];exact⟨b,v⟩
  |true=>
   rw[aV hl2] at a;simp(disch:=omega)only[go_sem,l,hl2,c,n,o,p,b.get,put_cont,put_cont'];have W:=b.swap (i:=first+r) (j:=first+(2*r+1)) (nx:=w.next+24) om rfl;exact⟨hi-(2*r+1),om,2*r+1,_,aA rfl,om,W.1,a,fxt v W.2,rfl⟩
theorem heapSort_ok  {α:Type}[Inhabited α][O:Srt α](h:H)(S N a b:Nat)(d:Array α)(q:mE)(B:N<1000000)(A:Arr h S N d)(Z:b<=N)(U:a<=b):
  Ev T 140 [.sl S 0 N q,aB a,aB b,.fn (Srt.f α) [] []] h (λ_ h'=>Arr h' S N (heapSort Srt.lt d a b)/\Fx (· =S) h h'):=by
 refine bH c_slices_heapSortCmpFunc_classes_class rfl rfl ?_
 obtain⟨n,G⟩:=IP (b-a)
 have K:(b:Int)-(a:Int)=(n:Int):=om
 have Q:((n:Int)- 1).tdiv 2=(((n- 1)/2+1:Nat):Int)- 1:=by
  by_cases J:n=0
  ·subst J;decide
  ·rw[Int.tdiv_eq_ediv_of_nonneg om];omega
 simp(disch:=omega)only[go_sem,c_slices_heapSortCmpFunc_classes_class,aF,K,Q]
 refine aH (λl c t=> ∃(k:Nat) (e:Array α),(∃g:Nat->V,c= [.sl S 0 N q,aB a,aB b,.fn (Srt.f α) [] [],aB a,aB 0,aB n,aB ((k:Int)- 1),g 8,g 9,g 10])/\k<=n+1/\(k=1∨k<=n)/\Arr t S N e/\heapBuild Srt.lt n a k e=heapBuild Srt.lt n a ((n- 1)/2+1) d/\Fx (· =S) h t/\l=k) ((n- 1)/2+1)
  ⟨(n- 1)/2+1,d,aA rfl,om,om,A,rfl,Fx.refl _ h,rfl⟩ ?_
 clear A
 rintro l c P ⟨k,e,⟨g,rfl⟩,u,x,A,w,F,y⟩
 subst y
 by_cases o:(0:Int)<=(l:Int)- 1
 ·have p:=bV o
  obtain⟨m,rfl⟩: ∃m,l=m+1:=⟨l- 1,om⟩
  have s:((m+1:Nat):Int)- 1=(m:Int):=om
  rw[s] at p
  rw[s]
  simp(disch:=omega)only[go_sem,p]
  refine (siftDown_ok P S N m n a e q B A om om).mono ?_
  rintro _ z ⟨L,F2⟩
  simp(disch:=omega)only[go_sem]
  exact⟨m,om,m,_,aA rfl,om,om,L,w,fxt F F2,rfl⟩
 have p:=bM o
 obtain rfl:l=0:=om
 have w:e=heapBuild Srt.lt n a ((n- 1)/2+1) d:=w
 simp(disch:=omega)only[go_sem,p]
 refine aH (λl c t=> ∃(k:Nat) (r:Array α),(∃g:Nat->V,c= [.sl S 0 N q,aB a,aB b,.fn (Srt.f α) [] [],aB a,aB 0,aB n,g 7,aB ((k:Int)- 1),g 9,g 10])/\k<=n/\Arr t S N r/\heapPop Srt.lt a k r=heapPop Srt.lt a n e/\Fx (· =S) h t/\l=k) n
  ⟨n,e,aA rfl,om,A,rfl,F,rfl⟩ ?_
 clear A F o p u x
 rintro l c z ⟨k,r,⟨g,rfl⟩,u,A,v,F,y⟩
 subst y
 have c:=A.size
 by_cases o:(0:Int)<=(l:Int)- 1
 ·have p:=bV o
  obtain⟨m,rfl⟩: ∃m,l=m+1:=⟨l- 1,om⟩
  have s:((m+1:Nat):Int)- 1=(m:Int):=om
  rw[s] at p
  rw[s]
  have k:(a:Int)+(m:Int)=((a+m:Nat):Int):=om
  have c:=A.rd (i:=a+m) om
  have g:=A.rd (i:=a) om
  simp(disch:=omega)only[go_sem,p,k,c,g,A.get,put_cont,put_cont']
  have W:=A.swap (i:=a) (j:=a+m) (nx:=z.next+20) om rfl
  have c:=siftDown_ok _ S N 0 m a _ q B W.1 om om
  refine c.mono ?_
  rintro _ c ⟨R,Y⟩
  simp(disch:=omega)only[go_sem]
  exact⟨m,om,m,_,aA rfl,om,R,v,fxt (fxt F W.2) Y,rfl⟩
 have p:=bM o
 obtain rfl:l=0:=om
 simp(disch:=omega)only[go_sem,p]
 have v:r=heapPop Srt.lt a n e:=v
 have:heapSort Srt.lt d a b=r:=by unfold heapSort;rw[G,v,w]
 rw[this]
 exact⟨A,F⟩
theorem Arr.fxo  {α:Type}[Inhabited α][O:Srt α]{h h':H}{S N R:Nat}{d:Array α}(A:Arr h S N d)(f:Fx (· =R) h h')(b:R≠S)(a:Srt.b0 α<=R):Arr h' S N d:=⟨by rw[f.get S A.lt (λe=>b e.symm)];exact A.get,A.size,iO A.lt f.next,A.eqS,O.bR _ _ _ A.base a f,A.all⟩
theorem reverse_ok  {α:Type}[Inhabited α][O:Srt α](h:H)(S N a b:Nat)(d:Array α)(o:mE)(u:N<1000000)(A:Arr h S N d)(t:b<=N)(r:a<b):
  Ev T 143 [.sl S 0 N o,aB a,aB b,.fn (Srt.f α) [] []] h (λ_ h'=>Arr h' S N (reverseRange d a b)/\Fx (· =S) h h'):=by
 refine bH c_slices_reverseRangeCmpFunc_classes_class rfl rfl ?_
 have p:(b:Int)- 1=((b- 1:Nat):Int):=om
 simp(disch:=omega)only[go_sem,c_slices_reverseRangeCmpFunc_classes_class,aF,p]
 refine aH (λc k p=> ∃(i j:Nat) (e:Array α),(∃g:Nat->V,k= [.sl S 0 N o,aB a,aB b,aB i,aB j,g 5])/\j<b/\i<=b/\Arr p S N e/\reverseLoop i j e=reverseLoop a (b- 1) d/\Fx (· =S) h p/\c=j) (b- 1)
  ⟨a,b- 1,d,aA rfl,om,om,A,rfl,Fx.refl _ h,rfl⟩ ?_
 clear A
 rintro c k q ⟨i,j,e,⟨g,rfl⟩,e,hi,A,m,F,s⟩
 subst s
 have e:=A.size
 rw[reverseLoop] at m
 by_cases l:(i:Int)<(c:Int)
 ·have n:=bV l
  rw[aV om] at m
  have e:=A.rd (i:=i) om
  have g:=A.rd (i:=c) om
  simp(disch:=omega)only[go_sem,n,e,g,A.get,put_cont,put_cont']
  have W:=A.swap (i:=i) (j:=c) (nx:=q.next+16) om rfl
  rw[show (i:Int)+1=((i+1:Nat):Int) from om,show (c:Int)- 1=((c- 1:Nat):Int) from om]
  exact⟨c- 1,om,i+1,c- 1,_,aA rfl,om,om,W.1,m,fxt F W.2,rfl⟩
 have n:=bM l
 rw[aZ om] at m
 simp(disch:=omega)only[go_sem,n]
 unfold reverseRange
 rw[←m]
 exact⟨A,F⟩
theorem tdivN (n:Nat){k:Int}{m:Nat}(a:k=(m:Int)):(n:Int).tdiv k=((n/m:Nat):Int):=by
 rw[a,Int.tdiv_eq_ediv_of_nonneg om];rfl
theorem break_ok  {α:Type}[Inhabited α][O:Srt α](h:H)(S N a b:Nat)(d:Array α)(cp:mE)(hN:N<60000)(A:Arr h S N d)(hb:b<=N)(a2:a<=b):
  Ev T 141 [.sl S 0 N cp,aB a,aB b,.fn (Srt.f α) [] []] h (λ_ h'=> ∃e,Arr h' S N e/\PermIn a b d e/\Fx (· =S) h h'):=by
 refine bH c_slices_breakPatternsCmpFunc_classes_class rfl rfl ?_
 obtain⟨n,u⟩:=IP (b-a)
 have en:(b:Int)-(a:Int)=(n:Int):=om
 by_cases u:(8:Int)<=(n:Int)
 case neg=>
  have Z:=bM u;simp(disch:=omega)only[go_sem,c_slices_breakPatternsCmpFunc_classes_class,aF,en,Z];exact⟨d,A,permIn_refl d a b,Fx.refl _ h⟩
 have Z:=bV u
 have J:=tdivN n (k:=4) (m:=4) rfl
 obtain⟨q,u⟩:=IP (n/4)
 rw[u] at J
 have ei:(a:Int)+(q:Int)*2- 1=((a+q*2- 1:Nat):Int):=om
 have ej:(a:Int)+(q:Int)*2+1=((a+q*2+1:Nat):Int):=om
 have hp:=two_pow_bitsLen_le (show 0<n by omega)
 have u:=lt_two_pow_bitsLen n
 obtain⟨m,hm⟩:=IP (2^bitsLen n)
 rw[hm] at hp u
 obtain⟨R,hR⟩:=IP h.next
 have a1:R≠S:=by have:=A.lt;omega
 have L:Srt.b0 α<=R:=by have:=O.bn _ A.base;omega
 have a0: ∀c:H,dS (bX [.int .u64 0]) c R 0 [.int .u64 (n:Int)]=some (c.set R (bX [.int .u64 (n:Int)])):=λc=>bE (by simp) c R _
 have u:(h.new (.cells false [.int .u64 0])).get R=bX [.int .u64 0]:=by rw[←hR,H.aN]
 simp(disch:=omega)only[go_sem,c_slices_breakPatternsCmpFunc_classes_class,aF,en,Z,hR,wrap_u64_in (n:=(n:Int)) om om,u,a0]
 obtain⟨p,l⟩: ∃p,p=(h.new (.cells false [.int .u64 0])).set R (bX [.int .u64 (n:Int)]):=⟨_,rfl⟩
 rw[←l]
 have g1:p.get R=bX [.int .u64 (n:Int)]:=by rw[l,H.aT]
 have n1:p.next=R+1:=by rw[l,H.cZ,H.aY,hR]
 have f1:Fr h p:=by rw[l];exact ((Fr.refl h).new _).set om _
 clear l
 refine (pow2_ok n p om).mono ?_
 rintro _ l ⟨rfl,c⟩
 rw[c,hm]
 simp(disch:=omega)only[go_sem,J,ei]
 refine aH (λk' r c=> ∃(i:Nat) (e:Array α) (x:Int),(∃g:Nat->V,r= [.sl S 0 N cp,aB a,aB b,aB n,.ptr R 0,.int .u64 (m:Int),aB i,g 7,g 8,g 9,g 10])/\a<=i/\i<=a+q*2+2/\Arr c S N e/\PermIn a b d e/\c.get R=bX [.int .u64 x]/\R<c.next/\Fx (· =S) h c/\k'=a+q*2+2-i) (a+q*2+2-(a+q*2- 1))
  ⟨a+q*2- 1,d,_,aA rfl,om,om,A.fr f1,permIn_refl d a b,g1,om,Fx.of f1,rfl⟩ ?_
 clear A g1 n1 f1 c p
 rintro k' r p ⟨i,e,x,⟨g,rfl⟩,B,c,A,K,gR,nR,F,rfl⟩
 by_cases c:(i:Int)<=((a+q*2+1:Nat):Int)
 case neg=>
  have g:=bM c;simp(disch:=omega)only[go_sem,J,ej,g];exact⟨e,A,K,F⟩
 have g:=bV c
 simp(disch:=omega)only[go_sem,J,ej,g]
 refine (next_ok R x p gR nR).mono ?_
 rintro _ G ⟨y,rfl,v,F2⟩
 have o:=A.fxo F2 a1 L
 obtain⟨w,hw,c⟩:=and_u64 y (m- 1) om
 have em:(m:Int)- 1=((m- 1:Nat):Int):=om
 have c:=o.size
 have z:Fx (· =S) h G:=⟨jC F.next F2.next,λid c g=>(F2.get id (iO c F.next) (λe=>by have:id=R:=e;omega)).trans (F.get id c g)⟩
 have t:R<G.next:=iO nR F2.next
 by_cases s:(n:Int)<=(w:Int)
 ·have P:=bV s
  have c:(w:Int)-(n:Int)=((w-n:Nat):Int):=om
  have Y:(a:Int)+((w-n:Nat):Int)=((a+(w-n):Nat):Int):=om
  have Q:=o.rd (i:=i) om
  have U:=o.rd (i:=a+(w-n)) om
  simp(disch:=omega)only[go_sem,em,wrap_u64_in (n:=((m- 1:Nat):Int)) om om,hw,P,c,Y,Q,U,o.get,put_cont,put_cont']
  have W:=o.swap (i:=i) (j:=a+(w-n)) (nx:=G.next+20) om rfl
  rw[dX i]
  refine⟨a+q*2+2-(i+1),om,i+1,_,y,aA rfl,om,om,W.1,permIn_trans _ _ _ a b K (swp_permIn e a b i (a+(w-n)) B om om om om),?_,iO t W.2.next,fxt z W.2,rfl⟩
  exact v
 ·have P:=bM s
  have Y:(a:Int)+(w:Int)=((a+w:Nat):Int):=om
  have Q:=o.rd (i:=i) om
  have U:=o.rd (i:=a+w) om
  simp(disch:=omega)only[go_sem,em,wrap_u64_in (n:=((m- 1:Nat):Int)) om om,hw,P,Y,Q,U,o.get,put_cont,put_cont']
  have W:=o.swap (i:=i) (j:=a+w) (nx:=G.next+20) om rfl
  rw[dX i]
  refine⟨a+q*2+2-(i+1),om,i+1,_,y,aA rfl,om,om,W.1,permIn_trans _ _ _ a b K (swp_permIn e a b i (a+w) B om om om om),?_,iO t W.2.next,fxt z W.2,rfl⟩
  exact v
structure Chs (h h':H)(R:Nat):Prop where
 get: ∃s,h'.get R=bX [aB s]
 fx:Fx (· =R) h h'
theorem Chs.trans {a b c:H}{R:Nat}(x:Chs a b R)(y:Chs b c R):Chs a c R:=⟨y.get,x.fx.trans y.fx λ_ _ h=>h⟩
theorem order2_ok  {α:Type}[Inhabited α][O:Srt α](h:H)(S N a b R:Nat)(d:Array α)(n:mE)(x:N<1000000)(A:Arr h S N d)(t:a<N)(r:b<N)(u:R≠S)(l:R<h.next)(q:Srt.b0 α<=R)(s:Int)(o:h.get R=bX [aB s]):
  Ev T 187 [.sl S 0 N n,aB a,aB b,.ptr R 0,.fn (Srt.f α) [] []] h (λv h'=>(v= .tup [aB a,aB b]∨v= .tup [aB b,aB a])/\Chs h h' R):=by
 refine bH c_slices_order2CmpFunc_classes_class rfl rfl ?_
 have g:=A.rd (i:=a) om
 have p:=A.rd (i:=b) om
 simp(disch:=omega)only[go_sem,c_slices_order2CmpFunc_classes_class,aF,g,p]
 refine (srt_cmp A (i:=b) (j:=a) om om _ om).mono ?_
 rintro _ e ⟨z,rfl,m,g⟩
 have k:Fr h e:=Fr.trans ((Fr.refl h).bL om) g
 have c:e.get R=bX [aB s]:=by rw[k.get R l];exact o
 cases hl:Srt.lt d[b]! d[a]! with
 |false=>
  simp(disch:=omega)only[go_sem,m,hl];exact⟨.inl trivial,⟨s,c⟩,Fx.of k⟩
 |true=>
  have cR:e.cell R 0=some (aB s):=by rw[H.aG c];rfl
  have p: ∀(w:Int) (g:H),dS (bX [aB s]) g R 0 [aB w]=some (g.set R (bX [aB w])):=λw g=>bE (by simp) g R _
  simp(disch:=omega)only[go_sem,m,hl,cR,c,p];exact⟨.inr trivial,⟨_,by rw[H.aT]⟩,(Fx.of (W:=(· =R)) k).trans (Fx.set e (W:=(· =R)) rfl _) (λ_ _ h=>h)⟩
theorem median_ok  {α:Type}[Inhabited α][O:Srt α](h:H)(S N a b c R:Nat)(d:Array α)(k:mE)(q:N<1000000)(A:Arr h S N d)(u:a<N)(p:b<N)(K:c<N)(i:R≠S)(j:R<h.next)(e:Srt.b0 α<=R)(s:Int)(W:h.get R=bX [aB s]):
  Ev T 175 [.sl S 0 N k,aB a,aB b,aB c,.ptr R 0,.fn (Srt.f α) [] []] h (λv h'=>(∃m,v= aB (m:Nat)/\(m=a∨m=b∨m=c))/\Chs h h' R):=by
 refine bH c_slices_medianCmpFunc_classes_class rfl rfl ?_
 simp(disch:=omega)only[go_sem,c_slices_medianCmpFunc_classes_class,aF]
 refine (order2_ok h S N a b R d k q A u p i j e s W).mono ?_
 rintro Q U ⟨t,l⟩
 obtain⟨G,n,rfl,w,g,L⟩: ∃x y,Q= .tup [aB (x:Nat),aB (y:Nat)]/\x<N/\y<N/\((x=a∨x=b)/\(y=a∨y=b)):=by
  rcases t with rfl|rfl
  ·exact⟨a,b,rfl,u,p,.inl rfl,.inr rfl⟩
  ·exact⟨b,a,rfl,p,u,.inr rfl,.inl rfl⟩
 have F:=A.fxo l.fx i e
 obtain⟨L,t⟩:=l.get
 have B:=iO j l.fx.next
 simp(disch:=omega)only[go_sem]
 refine (order2_ok U S N n c R d k q F g K i B e L t).mono ?_
 rintro Y P ⟨r,o⟩
 obtain⟨J,t,rfl,z,t⟩: ∃x y,Y= .tup [aB (x:Nat),aB (y:Nat)]/\x<N/\(x=n∨x=c):=by
  rcases r with rfl|rfl
  ·exact⟨n,c,rfl,g,.inl rfl⟩
  ·exact⟨c,n,rfl,K,.inr rfl⟩
 have n:=F.fxo o.fx i e
 obtain⟨t,g⟩:=o.get
 have r:=iO B o.fx.next
 simp(disch:=omega)only[go_sem]
 refine (order2_ok P S N G J R d k q n w z i r e t g).mono ?_
 rintro g g ⟨g,n⟩
 have C:=(l.trans o).trans n
 rcases g with rfl|rfl
 ·simp(disch:=omega)only[go_sem]
  exact⟨⟨J,rfl,om⟩,C⟩
 ·simp(disch:=omega)only[go_sem]
  exact⟨⟨G,rfl,om⟩,C⟩
theorem medianA_ok  {α:Type}[Inhabited α][O:Srt α](h:H)(S N a R:Nat)(d:Array α)(e:mE)(n:N<1000000)(A:Arr h S N d)(o:0<a)(p:a+1<N)(l:R≠S)(b:R<h.next)(c:Srt.b0 α<=R)(s:Int)(g:h.get R=bX [aB s]):
  Ev T 174 [.sl S 0 N e,aB a,.ptr R 0,.fn (Srt.f α) [] []] h (λv h'=>(∃m,v= aB (m:Nat)/\(m=a- 1∨m=a∨m=a+1))/\Chs h h' R):=by
 refine bH c_slices_medianAdjacentCmpFunc_classes_class rfl rfl ?_
 have k:(a:Int)- 1=((a- 1:Nat):Int):=om
 have i:(a:Int)+1=((a+1:Nat):Int):=om
 simp(disch:=omega)only[go_sem,c_slices_medianAdjacentCmpFunc_classes_class,aF,k,i]
 refine (median_ok h S N (a- 1) a (a+1) R d e n A om om om l b c s g).mono ?_
 rintro _ i ⟨⟨m,rfl,j⟩,C⟩
 simp(disch:=omega)only[go_sem]
 exact⟨⟨m,rfl,j⟩,C⟩
theorem pivot_ok  {α:Type}[Inhabited α][O:Srt α](h:H)(S N a b:Nat)(d:Array α)(G:mE)(U:N<1000000)(A:Arr h S N d)(hb:b<=N)(a1:a<b):
  Ev T 142 [.sl S 0 N G,aB a,aB b,.fn (Srt.f α) [] []] h (λv h'=> ∃(p:Nat) (t:Int),v= .tup [aB p,aB t]/\a<=p/\p<b/\Fr h h'):=by
 refine bH c_slices_choosePivotCmpFunc_classes_class rfl rfl ?_
 obtain⟨n,e⟩:=IP (b-a)
 have en:(b:Int)-(a:Int)=(n:Int):=om
 have Y:=tdivN n (k:=4) (m:=4) rfl
 obtain⟨q,e⟩:=IP (n/4)
 rw[e] at Y
 have ei:(a:Int)+(q:Int)*1=((a+q:Nat):Int):=om
 have ej:(a:Int)+(q:Int)*2=((a+q*2:Nat):Int):=om
 have ek:(a:Int)+(q:Int)*3=((a+q*3:Nat):Int):=om
 obtain⟨R,Q⟩:=IP h.next
 have g:R≠S:=by have:=A.lt;omega
 have c:Srt.b0 α<=R:=by have:=O.bn _ A.base;omega
 obtain⟨r,o⟩: ∃r,r=h.new (.cells false [aB 0]):=⟨_,rfl⟩
 have g1:r.get R=bX [aB 0]:=by rw[o,←Q,H.aN]
 have e:r.next=R+1:=by rw[o,H.aY,Q]
 have f1:Fr h r:=by rw[o];exact (Fr.refl h).new _
 have A1:=A.fr f1
 have P: ∀(p:Nat) (l:H),a<=p->p<b->Fx (· =R) r l->a<=p/\p<b/\Fr h l:=λp l x1 x2 e=>⟨x1,x2,jC f1.next e.next,λid a0=>(e.get id om (λe=>by have:id=R:=e;omega)).trans (f1.get id a0)⟩
 by_cases h8:(8:Int)<=(n:Int)
 case neg=>
  have Z:=bM h8;simp(disch:=omega)only[go_sem,c_slices_choosePivotCmpFunc_classes_class,aF,en,Y,ei,ej,ek,Z];rw[←o];have cR:r.cell R 0=some (aB 0):=by rw[H.aG g1];rfl
  simp(disch:=omega)only[go_sem,Q,cR];refine bB (λ_=>?_) (λe=>(e (by trivial)).elim);simp(disch:=omega)only[go_sem];exact⟨a+q*2,1,rfl,P _ _ om om (Fx.refl _ _)⟩
 have Z:=bV h8
 have u: ∀(i j k:Nat) (l:H) (K:Int),a<=i->i<b->a<=j->j<b->a<=k->k<b->Arr l S N d->l.get R=bX [aB K]->R<l.next->Fx (· =R) r l->
   Ev T 175 [.sl S 0 N G,aB i,aB j,aB k,.ptr R 0,.fn (Srt.f α) [] []] l (λv h'=> ∃p s,v= aB (p:Nat)/\a<=p/\p<b/\h'.get R=bX [aB s]/\Fr h h'):=by
  intro i j k l K e e e e e e W g2 n2 F2
  refine (median_ok l S N i j k R d G U W om om om g n2 c K g2).mono ?_
  rintro _ B ⟨⟨p,rfl,e⟩,⟨s,y⟩,L⟩
  exact⟨p,s,rfl,om,om,y,(P p B om om (F2.trans L λ_ _ h=>h)).2.2⟩
 by_cases J:(50:Int)<=(n:Int)
 case neg=>
  have x:=bM J;simp(disch:=omega)only[go_sem,c_slices_choosePivotCmpFunc_classes_class,aF,en,Y,ei,ej,ek,Z,x];rw[←o];simp(disch:=omega)only[go_sem,Q];refine (u (a+q) (a+q*2) (a+q*3) r 0 om om om om om om A1 g1 om (Fx.refl _ _)).mono ?_;rintro _ B ⟨p,s,rfl,z,w,y,F⟩;have cR:B.cell R 0=some (aB s):=by rw[H.aG y];rfl
  simp(disch:=omega)only[go_sem,cR];refine bB (λ_=>?_) (λ_=>?_)
  ·simp(disch:=omega)only[go_sem]
   exact⟨p,1,rfl,z,w,F⟩
  ·simp(disch:=omega)only[go_sem]
   refine bB (λ_=>?_) (λ_=>?_)
   ·simp(disch:=omega)only[go_sem]
    exact⟨p,2,rfl,z,w,F⟩
   ·simp(disch:=omega)only[go_sem]
    exact⟨p,0,rfl,z,w,F⟩
 have x:=bV J
 simp(disch:=omega)only[go_sem,c_slices_choosePivotCmpFunc_classes_class,aF,en,Y,ei,ej,ek,Z,x]
 rw[←o]
 simp(disch:=omega)only[go_sem,Q]
 refine (medianA_ok r S N (a+q) R d G U A1 om om g om c 0 g1).mono ?_
 rintro _ l ⟨⟨i,rfl,hi⟩,⟨K,g2⟩,F2⟩
 have W:=A1.fxo F2 g c
 have n2:=F2.next
 simp(disch:=omega)only[go_sem]
 refine (medianA_ok l S N (a+q*2) R d G U W om om g om c K g2).mono ?_
 rintro _ B ⟨⟨j,rfl,e⟩,⟨s,y⟩,L⟩
 have A3:=W.fxo L g c
 have e:=L.next
 simp(disch:=omega)only[go_sem]
 refine (medianA_ok B S N (a+q*3) R d G U A3 om om g om c s y).mono ?_
 rintro _ h4 ⟨⟨k,rfl,e⟩,⟨l,n⟩,e⟩
 have A4:=A3.fxo e g c
 have c:=e.next
 simp(disch:=omega)only[go_sem]
 refine (u i j k h4 l om om om om om om A4 n om ((F2.trans L λ_ _ h=>h).trans e λ_ _ h=>h)).mono ?_
 rintro _ B ⟨p,s,rfl,z,w,y,F⟩
 have cR:B.cell R 0=some (aB s):=by rw[H.aG y];rfl
 simp(disch:=omega)only[go_sem,cR]
 refine bB (λ_=>?_) (λ_=>?_)
 ·simp(disch:=omega)only[go_sem]
  exact⟨p,1,rfl,z,w,F⟩
 ·simp(disch:=omega)only[go_sem]
  refine bB (λ_=>?_) (λ_=>?_)
  ·simp(disch:=omega)only[go_sem]
   exact⟨p,2,rfl,z,w,F⟩
  ·simp(disch:=omega)only[go_sem]
   exact⟨p,0,rfl,z,w,F⟩
section
variable {j b:Nat}
theorem shD_t {α:Type}[Inhabited α]{lt:α->α->Bool}{d:Array α}(h:lt d[j+1]! d[j]! =true):shiftDown lt (j+1) d=shiftDown lt j (swp d (j+1) j):=by rw[shiftDown,aZ (by simp [h])]
theorem shD_f {α:Type}[Inhabited α]{lt:α->α->Bool}{d:Array α}(h:lt d[j+1]! d[j]! =false):shiftDown lt (j+1) d=d:=by rw[shiftDown,aV (by simp [h])]
theorem shU_t {α:Type}[Inhabited α]{lt:α->α->Bool}{d:Array α}(a:j<b)(h:lt d[j]! d[j- 1]! =true):shiftUp lt b j d=shiftUp lt b (j+1) (swp d j (j- 1)):=by rw[shiftUp,aV a,aZ (by simp [h])]
theorem shU_f {α:Type}[Inhabited α]{lt:α->α->Bool}{d:Array α}(a:j<b)(h:lt d[j]! d[j- 1]! =false):shiftUp lt b j d=d:=by rw[shiftUp,aV a,aV (by simp [h])]
theorem scS_t {α:Type}[Inhabited α]{lt:α->α->Bool}{i:Nat}{d:Array α}(hi:i<b)(h:lt d[i]! d[i- 1]! =false):scanSorted lt d b i=scanSorted lt d b (i+1):=by rw[scanSorted,aV (by simp [h,hi])]
theorem scS_f {α:Type}[Inhabited α]{lt:α->α->Bool}{i:Nat}{d:Array α}(h: ¬(i<b/\lt d[i]! d[i- 1]! =false)):scanSorted lt d b i=i:=by rw[scanSorted,aZ (by simpa using h)]
theorem pIns_eq {α:Type}[Inhabited α](lt:α->α->Bool)(a b s i:Nat)(d:Array α):partialIns lt a b (s+1) i d=if scanSorted lt d b i=b then (d,true) else if b-a<50 then (d,false) else
  partialIns lt a b s (scanSorted lt d b i) (if b-scanSorted lt d b i≥2 then shiftUp lt b (scanSorted lt d b i+1) (if scanSorted lt d b i-a≥2 then shiftDown lt (scanSorted lt d b i- 1) (swp d (scanSorted lt d b i) (scanSorted lt d b i- 1)) else swp d (scanSorted lt d b i) (scanSorted lt d b i- 1)) else
   (if scanSorted lt d b i-a≥2 then shiftDown lt (scanSorted lt d b i- 1) (swp d (scanSorted lt d b i) (scanSorted lt d b i- 1)) else swp d (scanSorted lt d b i) (scanSorted lt d b i- 1))):=by rw[partialIns]
theorem partial_ok {α:Type}[Inhabited α][O:Srt α](h:H)(S N a b:Nat)(d:Array α)(cp:mE)(hN:N<1000000)(A:Arr h S N d)(hb:b<=N)(b1:a<b):
  Ev T 144 [.sl S 0 N cp,aB a,aB b,.fn (Srt.f α) [] []] h (λv h'=>v= .bool (partialInsertionSort Srt.lt d a b).2/\Arr h' S N (partialInsertionSort Srt.lt d a b).1/\Fx (· =S) h h'):=by
 refine bH c_slices_partialInsertionSortCmpFunc_classes_class rfl rfl ?_
 simp(disch:=omega)only[go_sem,c_slices_partialInsertionSortCmpFunc_classes_class,aF]
 rw[dX a]
 refine aH (λk c t=> ∃(s i:Nat) (e:Array α),(∃g:Nat->V,c= [.sl S 0 N cp,aB a,aB b,.fn (Srt.f α) [] [],g 4,aB i,aB (5-(s:Int)),g 7,g 8,g 9,g 10,g 11,g 12,g 13,g 14,g 15,g 16,g 17,g 18])/\s<=5/\a<i/\i<=b/\Arr t S N e/\partialIns Srt.lt a b s i e=partialInsertionSort Srt.lt d a b/\Fx (· =S) h t/\k=s) 5
  ⟨5,a+1,d,aA rfl,om,om,om,A,rfl,Fx.refl _ h,rfl⟩ ?_
 clear A
 rintro k c h1 ⟨s,i,e,⟨g,rfl⟩,hs,a9,b0,A,l,F,hk⟩
 subst hk
 by_cases K:(5:Int)-(k:Int)<5
 case neg=>
  have n:=bM K;obtain rfl:k=0:=om
  simp(disch:=omega)only[go_sem,n];have l:(e,false)=partialInsertionSort Srt.lt d a b:=l;rw[←l];exact⟨rfl,A,F⟩
 have n:=bV K
 obtain⟨s,rfl⟩: ∃s,k=s+1:=⟨k- 1,om⟩
 simp(disch:=omega)only[go_sem,n]
 rw[pIns_eq] at l
 refine aH (λk c t=> ∃(m:Nat),(∃g:Nat->V,c= [.sl S 0 N cp,aB a,aB b,.fn (Srt.f α) [] [],g 4,aB m,aB (5-((s+1:Nat):Int)),g 7,g 8,g 9,g 10,g 11,g 12,g 13,g 14,g 15,g 16,g 17,g 18])/\a<m/\m<=b/\Arr t S N e/\scanSorted Srt.lt e b m=scanSorted Srt.lt e b i/\Fx (· =S) h t/\k=b-m) (b-i)
  ⟨i,aA rfl,a9,b0,A,rfl,F,rfl⟩ ?_
 clear A F K n
 rintro k c y ⟨m,⟨g,rfl⟩,K,K,A,Z,F,rfl⟩
 have K:=A.size
 have R:(m:Int)- 1=((m- 1:Nat):Int):=om
 have a4:(m:Int)+1=((m+1:Nat):Int):=om
 by_cases a6:(m:Int)<(b:Int)
 case neg=>
  have n:=bM a6;have K:m=b:=om
  rw[scS_f om] at Z;rw[←Z,aV K] at l;have e2:decide ((m:Int)=(b:Int))=true:=bV om;simp(disch:=omega)only[go_sem,n,e2];rw[←l];exact⟨rfl,A.fr ((Fr.refl y).bL om),fxt F (Fx.of ((Fr.refl y).bL om))⟩
 have n:=bV a6
 have p:=A.rd (i:=m) om
 have r:=A.rd (i:=m- 1) om
 simp(disch:=omega)only[go_sem,n,R,p,r]
 refine (srt_cmp A (i:=m) (j:=m- 1) om om _ om).mono ?_
 rintro _ h3 ⟨z,rfl,u,a1⟩
 have J:Fr y h3:=Fr.trans ((Fr.refl y).bL om) a1
 have L:=A.fr J
 have F3:=fxt F (Fx.of J)
 cases hl:Srt.lt e[m]! e[m- 1]! with
 |false=>
  rw[scS_t om hl] at Z;simp(disch:=omega)only[go_sem,u,hl,a4];exact⟨b-(m+1),om,m+1,aA rfl,om,om,L,Z,F3,rfl⟩
 |true=>
  rw[scS_f (by rw[hl];simp)] at Z;rw[←Z,aZ om] at l;have e2:decide ((m:Int)=(b:Int))=false:=bM om
  by_cases a3:(b:Int)-(a:Int)<50
  ·have G:=bV a3
   rw[aV om] at l;simp(disch:=omega)only[go_sem,u,hl,e2,G];rw[←l];exact⟨rfl,L,F3⟩
  have G:=bM a3;rw[aZ om] at l;have p:=L.rd (i:=m) om;have r:=L.rd (i:=m- 1) om;simp(disch:=omega)only[go_sem,u,hl,e2,G,R,p,r,L.get,put_cont,put_cont'];have W:=L.swap (i:=m) (j:=m- 1) (nx:=h3.next+18) om rfl
  obtain⟨F,a7⟩: ∃F,F=((H.mk h3.tr (h3.next+18)).set S (bX (flat (e.setIfInBounds m e[m- 1]!).toList))).set S (bX (flat ((e.setIfInBounds m e[m- 1]!).setIfInBounds (m- 1) e[m]!).toList)):=⟨_,rfl⟩
  rw[←a7] at W ⊢;obtain⟨A4,F⟩:=W;have B:=fxt F3 F;clear a7 F L F3 J a1 p r;obtain⟨e4,a5⟩:=IP (swp e m (m- 1));rw[a5] at A4 l;refine kB (λe U=> ∃e5,(∃g:Nat->V,e= [.sl S 0 N cp,aB a,aB b,.fn (Srt.f α) [] [],g 4,aB m,aB (5-((s+1:Nat):Int)),g 7,g 8,g 9,g 10,g 11,g 12,g 13,g 14,g 15,g 16,g 17,g 18])/\Arr U S N e5/\e5=(if m-a≥2 then shiftDown Srt.lt (m- 1) e4 else e4)/\Fx (· =S) h U) ?_ ?_
  ·refine bB (λy=>?_) (λy=>?_)
   ·simp(disch:=omega)only[go_sem,R]
    refine aH (λk c t=> ∃(j:Nat) (x:Array α),(∃g:Nat->V,c= [.sl S 0 N cp,aB a,aB b,.fn (Srt.f α) [] [],g 4,aB m,aB (5-((s+1:Nat):Int)),aB j,g 8,g 9,g 10,g 11,g 12,g 13,g 14,g 15,g 16,g 17,g 18])/\j<b/\Arr t S N x/\shiftDown Srt.lt j x=shiftDown Srt.lt (m- 1) e4/\Fx (· =S) h t/\k=j) (m- 1)
     ⟨m- 1,e4,aA rfl,om,A4,rfl,B,rfl⟩ ?_
    rintro k c U ⟨j,x,⟨g,rfl⟩,hj,w,P,F5,hk⟩;subst hk;have e:=w.size
    by_cases h1:(1:Int)<=(k:Int)
    ·have n:=bV h1
     obtain⟨q,rfl⟩: ∃q,k=q+1:=⟨k- 1,om⟩
     have a0:((q+1:Nat):Int)- 1=(q:Int):=om
     have p:=w.rd (i:=q+1) om;have r:=w.rd (i:=q) om;simp(disch:=omega)only[go_sem,n,a0,p,r];refine (srt_cmp w (i:=q+1) (j:=q) om om _ om).mono ?_;rintro _ h6 ⟨z,rfl,u,e⟩;have F:Fr U h6:=Fr.trans ((Fr.refl U).bL om) e;have o:=w.fr F;have F6:=fxt F5 (Fx.of F)
     cases hl:Srt.lt x[q+1]! x[q]! with
     |false=>
      rw[shD_f hl] at P;simp(disch:=omega)only[go_sem,u,hl];exact .inl ⟨x,aA rfl,o,by rw[aV om,←P],F6⟩
     |true=>
      rw[shD_t hl] at P;have p:=o.rd (i:=q+1) om;have r:=o.rd (i:=q) om;simp(disch:=omega)only[go_sem,u,hl,a0,p,r,o.get,put_cont,put_cont'];have W:=o.swap (i:=q+1) (j:=q) (nx:=h6.next+18) om rfl;exact⟨q,om,q,_,aA rfl,om,W.1,P,fxt F6 W.2,rfl⟩
    ·have n:=bM h1
     obtain rfl:k=0:=om
     simp(disch:=omega)only[go_sem,n];have P:x=shiftDown Srt.lt (m- 1) e4:=P;exact .inl ⟨x,aA rfl,w,by rw[aV om,←P],F5⟩
   ·simp(disch:=omega)only[go_sem]
    exact .inl ⟨e4,aA rfl,A4,by rw[aZ om],B⟩
  ·rintro c U ⟨e5,⟨g,rfl⟩,w,e,F5⟩
   rw[←e] at l;clear A4 B e a5;simp(disch:=omega)only[go_sem];have Q:(5:Int)-((s+1:Nat):Int)+1=5-(s:Int):=om
   refine bB (λy=>?_) (λy=>?_)
   ·rw[aV om] at l
    simp(disch:=omega)only[go_sem,a4];refine aH (λk c t=> ∃(j:Nat) (x:Array α),(∃g:Nat->V,c= [.sl S 0 N cp,aB a,aB b,.fn (Srt.f α) [] [],g 4,aB m,aB (5-((s+1:Nat):Int)),g 7,aB j,g 9,g 10,g 11,g 12,g 13,g 14,g 15,g 16,g 17,g 18])/\0<j/\j<=b/\Arr t S N x/\shiftUp Srt.lt b j x=shiftUp Srt.lt b (m+1) e5/\Fx (· =S) h t/\k=b-j) (b-(m+1))
     ⟨m+1,e5,aA rfl,om,om,w,rfl,F5,rfl⟩ ?_
    rintro k c h6 ⟨j,x,⟨g,rfl⟩,c,hj,o,Y,F6,rfl⟩;have c:=o.size
    by_cases h1:(j:Int)<(b:Int)
    ·have n:=bV h1
     have a2:(j:Int)- 1=((j- 1:Nat):Int):=om
     have a8:(j:Int)+1=((j+1:Nat):Int):=om
     have p:=o.rd (i:=j) om;have r:=o.rd (i:=j- 1) om;simp(disch:=omega)only[go_sem,n,a2,p,r];refine (srt_cmp o (i:=j) (j:=j- 1) om om _ om).mono ?_;rintro _ h7 ⟨z,rfl,u,c⟩;have e:Fr h6 h7:=Fr.trans ((Fr.refl h6).bL om) c;have A7:=o.fr e;have F7:=fxt F6 (Fx.of e)
     cases hl:Srt.lt x[j]! x[j- 1]! with
     |false=>
      rw[shU_f om hl] at Y;rw[←Y] at l;simp(disch:=omega)only[go_sem,u,hl,Q];exact⟨s,om,s,m,x,aA rfl,om,om,om,A7,l,F7,rfl⟩
     |true=>
      rw[shU_t om hl] at Y;have p:=A7.rd (i:=j) om;have r:=A7.rd (i:=j- 1) om;simp(disch:=omega)only[go_sem,u,hl,a2,a8,p,r,A7.get,put_cont,put_cont'];have W:=A7.swap (i:=j) (j:=j- 1) (nx:=h7.next+18) om rfl;exact⟨b-(j+1),om,j+1,_,aA rfl,om,om,W.1,Y,fxt F7 W.2,rfl⟩
    ·have n:=bM h1
     rw[shiftUp,aZ om] at Y;rw[←Y] at l;simp(disch:=omega)only[go_sem,n,Q];exact⟨s,om,s,m,x,aA rfl,om,om,om,o,l,F6,rfl⟩
   ·rw[aZ om] at l
    simp(disch:=omega)only[go_sem,Q];exact⟨s,om,s,m,e5,aA rfl,om,om,om,w,l,F5,rfl⟩
end
section
variable {j i:Nat}
theorem scU_t {α:Type}[Inhabited α]{p:α->Bool}{d:Array α}(a:i<=j)(h2:p d[i]! =true):scanUp p d j i=scanUp p d j (i+1):=by rw[scanUp,aV (by simp [a,h2])]
theorem scU_f {α:Type}[Inhabited α]{p:α->Bool}{d:Array α}(h: ¬(i<=j/\p d[i]! =true)):scanUp p d j i=i:=by rw[scanUp,aZ (by simpa using h)]
theorem scD_t {α:Type}[Inhabited α]{p:α->Bool}{d:Array α}(a:i<=j+1)(h2:p d[j+1]! =true):scanDown p d i (j+1)=scanDown p d i j:=by rw[scanDown,aV (by simp [a,h2])]
theorem scD_f {α:Type}[Inhabited α]{p:α->Bool}{d:Array α}(h: ¬(i<=j/\p d[j]! =true)):scanDown p d i j=j:=by
 cases j with
 |zero=>rfl
 |succ j=>rw[scanDown,aZ (by simpa using h)]
theorem scanUp_hi {α:Type}[Inhabited α](p:α->Bool)(d:Array α)(j i:Nat):scanUp p d j i<=max i (j+1):=by
 obtain⟨n,a⟩:=IP (j+1-i)
 induction n generalizing i with
 |zero=>rw[scU_f (λh=>by have:=h.1;omega)];omega
 |succ n ih=>
  by_cases h:i<=j/\p d[i]! =true
  ·rw[scU_t h.1 h.2]
   have:=ih (i+1) om;omega
  ·rw[scU_f h];omega
theorem partition_ok {α:Type}[Inhabited α][O:Srt α](h:H)(S N a b pv:Nat)(d:Array α)(Z:mE)(hN:N<1000000)(A:Arr h S N d)(hb:b<=N)(b5:a<=pv)(b4:pv<b):
  Ev T 146 [.sl S 0 N Z,aB a,aB b,aB pv,.fn (Srt.f α) [] []] h (λv h'=>v= .tup [aB ((partition Srt.lt d a b pv).1:Nat),.bool (partition Srt.lt d a b pv).2.1]/\Arr h' S N (partition Srt.lt d a b pv).2.2/\Fx (· =S) h h'):=by
 refine bH c_slices_partitionCmpFunc_classes_class rfl rfl ?_
 have sz:=A.size
 have K:=A.rd (i:=a) om
 have L:=A.rd (i:=pv) om
 simp(disch:=omega)only[go_sem,c_slices_partitionCmpFunc_classes_class,aF,K,L,A.get,put_cont,put_cont']
 have W:=A.swap (i:=a) (j:=pv) (nx:=h.next+16) om rfl
 obtain⟨h1,R⟩: ∃h1,h1=((H.mk h.tr (h.next+16)).set S (bX (flat (d.setIfInBounds a d[pv]!).toList))).set S (bX (flat ((d.setIfInBounds a d[pv]!).setIfInBounds pv d[a]!).toList)):=⟨_,rfl⟩
 rw[←R] at W ⊢
 obtain⟨A1,F1⟩:=W
 obtain⟨e,he⟩:=IP (swp d a pv)
 rw[he] at A1
 clear R K L A
 have eb:(b:Int)- 1=((b- 1:Nat):Int):=om
 have ea:(a:Int)+1=((a+1:Nat):Int):=om
 have hP:partition Srt.lt d a b pv=if scanUp (λx=>Srt.lt x e[a]!) e (b- 1) (a+1)>scanDown (λx=>!Srt.lt x e[a]!) e (scanUp (λx=>Srt.lt x e[a]!) e (b- 1) (a+1)) (b- 1) then
   (scanDown (λx=>!Srt.lt x e[a]!) e (scanUp (λx=>Srt.lt x e[a]!) e (b- 1) (a+1)) (b- 1),true,swp e (scanDown (λx=>!Srt.lt x e[a]!) e (scanUp (λx=>Srt.lt x e[a]!) e (b- 1) (a+1)) (b- 1)) a) else
   ((partLoop Srt.lt a (scanUp (λx=>Srt.lt x e[a]!) e (b- 1) (a+1)+1) (scanDown (λx=>!Srt.lt x e[a]!) e (scanUp (λx=>Srt.lt x e[a]!) e (b- 1) (a+1)) (b- 1)- 1) (swp e (scanUp (λx=>Srt.lt x e[a]!) e (b- 1) (a+1)) (scanDown (λx=>!Srt.lt x e[a]!) e (scanUp (λx=>Srt.lt x e[a]!) e (b- 1) (a+1)) (b- 1)))).1,false,
    swp (partLoop Srt.lt a (scanUp (λx=>Srt.lt x e[a]!) e (b- 1) (a+1)+1) (scanDown (λx=>!Srt.lt x e[a]!) e (scanUp (λx=>Srt.lt x e[a]!) e (b- 1) (a+1)) (b- 1)- 1) (swp e (scanUp (λx=>Srt.lt x e[a]!) e (b- 1) (a+1)) (scanDown (λx=>!Srt.lt x e[a]!) e (scanUp (λx=>Srt.lt x e[a]!) e (b- 1) (a+1)) (b- 1)))).2 (partLoop Srt.lt a (scanUp (λx=>Srt.lt x e[a]!) e (b- 1) (a+1)+1) (scanDown (λx=>!Srt.lt x e[a]!) e (scanUp (λx=>Srt.lt x e[a]!) e (b- 1) (a+1)) (b- 1)- 1) (swp e (scanUp (λx=>Srt.lt x e[a]!) e (b- 1) (a+1)) (scanDown (λx=>!Srt.lt x e[a]!) e (scanUp (λx=>Srt.lt x e[a]!) e (b- 1) (a+1)) (b- 1)))).1 a):=by
  rw[←he];rfl
 obtain⟨R,R⟩:=IP (partition Srt.lt d a b pv)
 rw[R] at hP
 rw[R]
 simp(disch:=omega)only[go_sem,ea,eb]
 refine bW (λG c=>(∃g:Nat->V,G= [.sl S 0 N Z,aB a,aB b,aB pv,.fn (Srt.f α) [] [],g 5,g 6,aB (scanUp (λx=>Srt.lt x e[a]!) e (b- 1) (a+1):Nat),aB ((b- 1):Nat),g 9,g 10,g 11,g 12,g 13,g 14])/\Arr c S N e/\Fx (· =S) h c) ?_ ?_
 ·refine aH (λF G c=> ∃(k:Nat),(∃g:Nat->V,G= [.sl S 0 N Z,aB a,aB b,aB pv,.fn (Srt.f α) [] [],g 5,g 6,aB (k:Nat),aB ((b- 1):Nat),g 9,g 10,g 11,g 12,g 13,g 14])/\(a+1)<=k/\k<=N+2/\Arr c S N e/\scanUp (λx=>Srt.lt x e[a]!) e (b- 1) k=scanUp (λx=>Srt.lt x e[a]!) e (b- 1) (a+1)/\Fx (· =S) h c/\F=(b- 1)+1-k) ((b- 1)+1-(a+1))
   ⟨(a+1),aA rfl,om,om,A1,rfl,F1,rfl⟩ ?_
  rintro F m J ⟨k,⟨g,rfl⟩,a7,b2,n,o,Fs,rfl⟩
  by_cases l:(k:Int)<=(((b- 1):Nat):Int)
  ·have q:decide ((k:Int)<=(((b- 1):Nat):Int))=true:=bV l
   have eK:(k:Int)+1=((k+1:Nat):Int):=om
   have a6:=n.size
   have K:=n.rd (i:=k) om
   have L:=n.rd (i:=a) om
   simp(disch:=omega)only[go_sem,q,K,L]
   refine (srt_cmp n (i:=k) (j:=a) om om _ om).mono ?_
   rintro _ P ⟨z,rfl,Y,r⟩
   have y:Fr J P:=Fr.trans ((Fr.refl J).bL om) r
   have s:=n.fr y
   have t:=fxt Fs (Fx.of y)
   cases hl:Srt.lt e[k]! e[a]! with
   |false=>
    rw[scU_f (λc=>by have:=c.2;simp [hl] at this)] at o;simp(disch:=omega)only[go_sem,Y,hl];exact⟨by rw[←o];exact aA rfl,s,t⟩
   |true=>
    rw[scU_t om (by simp [hl])] at o;simp(disch:=omega)only[go_sem,Y,hl,eK];exact⟨(b- 1)+1-(k+1),om,k+1,aA rfl,om,om,s,o,t,rfl⟩
  ·have q:decide ((k:Int)<=(((b- 1):Nat):Int))=false:=bM l
   rw[scU_f (λc=>l (by have:=c.1;omega))] at o
   simp(disch:=omega)only[go_sem,q]
   exact⟨by rw[←o];exact aA rfl,n.fr ((Fr.refl J).bL om),fxt Fs (Fx.of ((Fr.refl J).bL om))⟩
 ·rintro m h9 ⟨⟨g,rfl⟩,A9,F9⟩
  have a1:=scanUp_ge (λx=>Srt.lt x e[a]!) e (b- 1) (a+1)
  have a4:=scanUp_hi (λx=>Srt.lt x e[a]!) e (b- 1) (a+1)
  obtain⟨p,a0⟩: ∃x,scanUp (λx=>Srt.lt x e[a]!) e (b- 1) (a+1)=x:=⟨_,rfl⟩
  rw[a0] at a1 a4
  rw[a0]
  simp(disch:=omega)only[go_sem]
  refine bW (λG c=>(∃g:Nat->V,G= [.sl S 0 N Z,aB a,aB b,aB pv,.fn (Srt.f α) [] [],g 5,g 6,aB (p:Nat),aB (scanDown (λx=>!Srt.lt x e[a]!) e p (b- 1):Nat),g 9,g 10,g 11,g 12,g 13,g 14])/\Arr c S N e/\Fx (· =S) h c) ?_ ?_
  ·refine aH (λF G c=> ∃(k:Nat),(∃g:Nat->V,G= [.sl S 0 N Z,aB a,aB b,aB pv,.fn (Srt.f α) [] [],g 5,g 6,aB (p:Nat),aB (k:Nat),g 9,g 10,g 11,g 12,g 13,g 14])/\k<=(b- 1)/\Arr c S N e/\scanDown (λx=>!Srt.lt x e[a]!) e p k=scanDown (λx=>!Srt.lt x e[a]!) e p (b- 1)/\Fx (· =S) h c/\F=k) (b- 1)
    ⟨(b- 1),aA rfl,om,A9,rfl,F9,rfl⟩ ?_
   rintro F m J ⟨k,⟨g,rfl⟩,a7,n,o,Fs,a5⟩
   subst a5
   by_cases l:((p:Nat):Int)<=(F:Int)
   ·have q:=bV l
    obtain⟨k,rfl⟩: ∃k,F=k+1:=⟨F- 1,om⟩
    have eK:((k+1:Nat):Int)- 1=(k:Int):=om
    have a6:=n.size
    have K:=n.rd (i:=k+1) om
    have L:=n.rd (i:=a) om
    simp(disch:=omega)only[go_sem,q,K,L]
    refine (srt_cmp n (i:=k+1) (j:=a) om om _ om).mono ?_
    rintro _ P ⟨z,rfl,Y,r⟩
    have y:Fr J P:=Fr.trans ((Fr.refl J).bL om) r
    have s:=n.fr y
    have t:=fxt Fs (Fx.of y)
    cases hl:Srt.lt e[k+1]! e[a]! with
    |true=>
     rw[scD_f (λc=>by have:=c.2;simp [hl] at this)] at o;simp(disch:=omega)only[go_sem,Y,hl];exact⟨by rw[←o];exact aA rfl,s,t⟩
    |false=>
     rw[scD_t om (by simp [hl])] at o;simp(disch:=omega)only[go_sem,Y,hl,eK];exact⟨k,om,k,aA rfl,om,s,o,t,rfl⟩
   ·have q:=bM l
    rw[scD_f (λc=>l (by have:=c.1;omega))] at o
    simp(disch:=omega)only[go_sem,q]
    exact⟨by rw[←o];exact aA rfl,n.fr ((Fr.refl J).bL om),fxt Fs (Fx.of ((Fr.refl J).bL om))⟩
  ·rintro m h2 ⟨⟨g,rfl⟩,A2,F2⟩
   have a3:=scanDown_le (λx=>!Srt.lt x e[a]!) e p (b- 1)
   obtain⟨B,a2⟩: ∃x,scanDown (λx=>!Srt.lt x e[a]!) e p (b- 1)=x:=⟨_,rfl⟩
   rw[a2] at a3
   rw[a2]
   rw[a0,a2] at hP
   have b3:=A2.size
   by_cases Q:(B:Int)<(p:Int)
   ·have q:=bV Q
    rw[aV om] at hP
    have K:=A2.rd (i:=B) om
    have L:=A2.rd (i:=a) om
    simp(disch:=omega)only[go_sem,q,K,L,A2.get,put_cont,put_cont']
    have W:=A2.swap (i:=B) (j:=a) (nx:=h2.next+16) om rfl
    rw[hP]
    exact⟨rfl,W.1,fxt F2 W.2⟩
   have q:=bM Q
   rw[aZ om] at hP
   have K:=A2.rd (i:=p) om
   have L:=A2.rd (i:=B) om
   simp(disch:=omega)only[go_sem,q,K,L,A2.get,put_cont,put_cont']
   have W:=A2.swap (i:=p) (j:=B) (nx:=h2.next+16) om rfl
   obtain⟨h3,a9⟩: ∃h3,h3=((H.mk h2.tr (h2.next+16)).set S (bX (flat (e.setIfInBounds p e[B]!).toList))).set S (bX (flat ((e.setIfInBounds p e[B]!).setIfInBounds B e[p]!).toList)):=⟨_,rfl⟩
   rw[←a9] at W ⊢
   obtain⟨A3,b0⟩:=W
   have F3:=fxt F2 b0
   have a8:p<=B:=om
   obtain⟨e0,b1⟩:=IP (swp e p B)
   rw[b1] at A3 hP
   clear a9 K L A2 A9 F9 A1 F1 he Q q
   have ei:(p:Int)+1=((p+1:Nat):Int):=om
   have ej:(B:Int)- 1=((B- 1:Nat):Int):=om
   simp(disch:=omega)only[go_sem,ei,ej]
   refine bW (λG c=>(∃g:Nat->V,G= [.sl S 0 N Z,aB a,aB b,aB pv,.fn (Srt.f α) [] [],g 5,g 6,g 7,aB (((partLoop Srt.lt a (p+1) (B- 1) e0).1:Nat):Int),g 9,g 10,g 11,g 12,g 13,g 14])/\Arr c S N (partLoop Srt.lt a (p+1) (B- 1) e0).2/\(partLoop Srt.lt a (p+1) (B- 1) e0).1<b/\Fx (· =S) h c) ?_ ?_
   ·refine aH (λF G c=> ∃(i j:Nat) (e:Array α),(∃g:Nat->V,G= [.sl S 0 N Z,aB a,aB b,aB pv,.fn (Srt.f α) [] [],g 5,g 6,aB i,aB j,g 9,g 10,g 11,g 12,g 13,g 14])/\a<i/\i<=b+1/\j<b/\Arr c S N e/\partLoop Srt.lt a i j e=partLoop Srt.lt a (p+1) (B- 1) e0/\Fx (· =S) h c/\F=j) (B- 1)
     ⟨p+1,B- 1,e0,aA rfl,om,om,om,A3,rfl,F3,rfl⟩ ?_
    obtain⟨R,R⟩:=IP (partLoop Srt.lt a (p+1) (B- 1) e0)
    rw[R]
    clear hP R a0 a2 b1 ei ej a3 a1 a4 F3 b0 A3 b3 h3 a8
    clear p B
    rintro F m h3 ⟨i,j,e,⟨g,rfl⟩,R,a0,R,A3,hL,F3,a5⟩
    rw[partLoop_eq] at hL
    simp(disch:=omega)only[go_sem]
    refine bW (λG c=>(∃g:Nat->V,G= [.sl S 0 N Z,aB a,aB b,aB pv,.fn (Srt.f α) [] [],g 5,g 6,aB (scanUp (λx=>Srt.lt x e[a]!) e j i:Nat),aB (j:Nat),g 9,g 10,g 11,g 12,g 13,g 14])/\Arr c S N e/\Fx (· =S) h c) ?_ ?_
    ·refine aH (λF G c=> ∃(k:Nat),(∃g:Nat->V,G= [.sl S 0 N Z,aB a,aB b,aB pv,.fn (Srt.f α) [] [],g 5,g 6,aB (k:Nat),aB (j:Nat),g 9,g 10,g 11,g 12,g 13,g 14])/\i<=k/\k<=N+2/\Arr c S N e/\scanUp (λx=>Srt.lt x e[a]!) e j k=scanUp (λx=>Srt.lt x e[a]!) e j i/\Fx (· =S) h c/\F=j+1-k) (j+1-i)
      ⟨i,aA rfl,om,om,A3,rfl,F3,rfl⟩ ?_
     rintro F m J ⟨k,⟨g,rfl⟩,a7,b2,n,o,Fs,rfl⟩
     by_cases l:(k:Int)<=((j:Nat):Int)
     ·have q:=bV l
      have eK:(k:Int)+1=((k+1:Nat):Int):=om
      have a6:=n.size
      have K:=n.rd (i:=k) om
      have L:=n.rd (i:=a) om
      simp(disch:=omega)only[go_sem,q,K,L]
      refine (srt_cmp n (i:=k) (j:=a) om om _ om).mono ?_
      rintro _ P ⟨z,rfl,Y,r⟩
      have y:Fr J P:=Fr.trans ((Fr.refl J).bL om) r
      have s:=n.fr y
      have t:=fxt Fs (Fx.of y)
      cases hl:Srt.lt e[k]! e[a]! with
      |false=>
       rw[scU_f (λc=>by have:=c.2;simp [hl] at this)] at o;simp(disch:=omega)only[go_sem,Y,hl];exact⟨by rw[←o];exact aA rfl,s,t⟩
      |true=>
       rw[scU_t om (by simp [hl])] at o;simp(disch:=omega)only[go_sem,Y,hl,eK];exact⟨j+1-(k+1),om,k+1,aA rfl,om,om,s,o,t,rfl⟩
     ·have q:=bM l
      rw[scU_f (λc=>l (by have:=c.1;omega))] at o
      simp(disch:=omega)only[go_sem,q]
      exact⟨by rw[←o];exact aA rfl,n.fr ((Fr.refl J).bL om),fxt Fs (Fx.of ((Fr.refl J).bL om))⟩
    ·rintro m h9 ⟨⟨g,rfl⟩,A9,F9⟩
     have a1:=scanUp_ge (λx=>Srt.lt x e[a]!) e j i
     have a4:=scanUp_hi (λx=>Srt.lt x e[a]!) e j i
     obtain⟨u,hu⟩: ∃x,scanUp (λx=>Srt.lt x e[a]!) e j i=x:=⟨_,rfl⟩
     rw[hu] at a1 a4
     rw[hu]
     simp(disch:=omega)only[go_sem]
     refine bW (λG c=>(∃g:Nat->V,G= [.sl S 0 N Z,aB a,aB b,aB pv,.fn (Srt.f α) [] [],g 5,g 6,aB (u:Nat),aB (scanDown (λx=>!Srt.lt x e[a]!) e u j:Nat),g 9,g 10,g 11,g 12,g 13,g 14])/\Arr c S N e/\Fx (· =S) h c) ?_ ?_
     ·refine aH (λF G c=> ∃(k:Nat),(∃g:Nat->V,G= [.sl S 0 N Z,aB a,aB b,aB pv,.fn (Srt.f α) [] [],g 5,g 6,aB (u:Nat),aB (k:Nat),g 9,g 10,g 11,g 12,g 13,g 14])/\k<=j/\Arr c S N e/\scanDown (λx=>!Srt.lt x e[a]!) e u k=scanDown (λx=>!Srt.lt x e[a]!) e u j/\Fx (· =S) h c/\F=k) j
       ⟨j,aA rfl,om,A9,rfl,F9,rfl⟩ ?_
      rintro F m J ⟨k,⟨g,rfl⟩,a7,n,o,Fs,a5⟩
      subst a5
      by_cases l:((u:Nat):Int)<=(F:Int)
      ·have q:=bV l
       obtain⟨k,rfl⟩: ∃k,F=k+1:=⟨F- 1,om⟩
       have eK:((k+1:Nat):Int)- 1=(k:Int):=om
       have a6:=n.size
       have K:=n.rd (i:=k+1) om
       have L:=n.rd (i:=a) om
       simp(disch:=omega)only[go_sem,q,K,L]
       refine (srt_cmp n (i:=k+1) (j:=a) om om _ om).mono ?_
       rintro _ P ⟨z,rfl,Y,r⟩
       have y:Fr J P:=Fr.trans ((Fr.refl J).bL om) r
       have s:=n.fr y
       have t:=fxt Fs (Fx.of y)
       cases hl:Srt.lt e[k+1]! e[a]! with
       |true=>
        rw[scD_f (λc=>by have:=c.2;simp [hl] at this)] at o;simp(disch:=omega)only[go_sem,Y,hl];exact⟨by rw[←o];exact aA rfl,s,t⟩
       |false=>
        rw[scD_t om (by simp [hl])] at o;simp(disch:=omega)only[go_sem,Y,hl,eK];exact⟨k,om,k,aA rfl,om,s,o,t,rfl⟩
      ·have q:=bM l
       rw[scD_f (λc=>l (by have:=c.1;omega))] at o
       simp(disch:=omega)only[go_sem,q]
       exact⟨by rw[←o];exact aA rfl,n.fr ((Fr.refl J).bL om),fxt Fs (Fx.of ((Fr.refl J).bL om))⟩
     ·rintro m h4 ⟨⟨g,rfl⟩,A4,F4⟩
      have a3:=scanDown_le (λx=>!Srt.lt x e[a]!) e u j
      obtain⟨w,hw⟩: ∃x,scanDown (λx=>!Srt.lt x e[a]!) e u j=x:=⟨_,rfl⟩
      rw[hw] at a3
      rw[hw]
      rw[hu,hw] at hL
      have c:=A4.size
      by_cases Q:(w:Int)<(u:Int)
      ·have q:=bV Q
       rw[aV om] at hL
       simp(disch:=omega)only[go_sem,q]
       rw[←hL]
       exact⟨aA rfl,A4,om,F4⟩
      have q:=bM Q
      rw[aZ om] at hL
      have K:=A4.rd (i:=u) om
      have L:=A4.rd (i:=w) om
      have ei:(u:Int)+1=((u+1:Nat):Int):=om
      have ej:(w:Int)- 1=((w- 1:Nat):Int):=om
      simp(disch:=omega)only[go_sem,q,K,L,A4.get,put_cont,put_cont',ei,ej]
      have W:=A4.swap (i:=u) (j:=w) (nx:=h4.next+16) om rfl
      exact⟨w- 1,om,u+1,w- 1,_,aA rfl,om,om,om,W.1,hL,fxt F4 W.2,rfl⟩
   ·rintro m h5 ⟨⟨g,rfl⟩,A5,U,F5⟩
    generalize partLoop Srt.lt a (p+1) (B- 1) e0=r at hP A5 U
    obtain⟨m,c⟩:=r
    have U:m<b:=U
    have A5:Arr h5 S N c:=A5
    have c:=A5.size
    have K:=A5.rd (i:=m) om
    have L:=A5.rd (i:=a) om
    simp(disch:=omega)only[go_sem,K,L,A5.get,put_cont,put_cont']
    have W:=A5.swap (i:=m) (j:=a) (nx:=h5.next+16) om rfl
    rw[hP]
    exact⟨rfl,W.1,fxt F5 W.2⟩
theorem partEq_ok {α:Type}[Inhabited α][O:Srt α](h:H)(S N a b pv:Nat)(d:Array α)(K:mE)(hN:N<1000000)(A:Arr h S N d)(hb:b<=N)(a6:a<=pv)(a5:pv<b):
  Ev T 145 [.sl S 0 N K,aB a,aB b,aB pv,.fn (Srt.f α) [] []] h (λv h'=>v= aB ((partitionEqual Srt.lt d a b pv).1:Nat)/\Arr h' S N (partitionEqual Srt.lt d a b pv).2/\Fx (· =S) h h'):=by
 refine bH c_slices_partitionEqualCmpFunc_classes_class rfl rfl ?_
 have sz:=A.size
 have G:=A.rd (i:=a) om
 have J:=A.rd (i:=pv) om
 simp(disch:=omega)only[go_sem,c_slices_partitionEqualCmpFunc_classes_class,aF,G,J,A.get,put_cont,put_cont']
 have W:=A.swap (i:=a) (j:=pv) (nx:=h.next+16) om rfl
 obtain⟨h1,U⟩: ∃h1,h1=((H.mk h.tr (h.next+16)).set S (bX (flat (d.setIfInBounds a d[pv]!).toList))).set S (bX (flat ((d.setIfInBounds a d[pv]!).setIfInBounds pv d[a]!).toList)):=⟨_,rfl⟩
 rw[←U] at W ⊢
 obtain⟨A1,F1⟩:=W
 have eb:(b:Int)- 1=((b- 1:Nat):Int):=om
 have ea:(a:Int)+1=((a+1:Nat):Int):=om
 unfold partitionEqual
 obtain⟨Q,he⟩: ∃e,swp d a pv=e:=⟨_,rfl⟩
 rw[he] at A1 ⊢
 clear U G J A
 simp(disch:=omega)only[go_sem,ea,eb]
 refine bW (λp c=>(∃g:Nat->V,p= [.sl S 0 N K,aB a,aB b,aB pv,.fn (Srt.f α) [] [],g 5,aB (((partEqLoop Srt.lt a (a+1) (b- 1) Q).1:Nat):Int),g 7,g 8,g 9,g 10])/\Arr c S N (partEqLoop Srt.lt a (a+1) (b- 1) Q).2/\Fx (· =S) h c) ?_ ?_
 ·refine aH (λq p c=> ∃(i j:Nat) (e:Array α),(∃g:Nat->V,p= [.sl S 0 N K,aB a,aB b,aB pv,.fn (Srt.f α) [] [],g 5,aB i,aB j,g 8,g 9,g 10])/\a<i/\i<=b+1/\j<b/\Arr c S N e/\partEqLoop Srt.lt a i j e=partEqLoop Srt.lt a (a+1) (b- 1) Q/\Fx (· =S) h c/\q=j) (b- 1)
   ⟨a+1,b- 1,Q,aA rfl,om,om,om,A1,rfl,F1,rfl⟩ ?_
  obtain⟨U,U⟩:=IP (partEqLoop Srt.lt a (a+1) (b- 1) Q)
  rw[U]
  clear U F1 A1 h1 he Q
  rintro q l Q ⟨i,j,e,⟨g,rfl⟩,Q,Q,Q,A3,P,F3,Z⟩
  rw[partEqLoop_eq] at P
  simp(disch:=omega)only[go_sem]
  refine bW (λp c=>(∃g:Nat->V,p= [.sl S 0 N K,aB a,aB b,aB pv,.fn (Srt.f α) [] [],g 5,aB (scanUp (λx=>!Srt.lt e[a]! x) e j i:Nat),aB (j:Nat),g 8,g 9,g 10])/\Arr c S N e/\Fx (· =S) h c) ?_ ?_
  ·refine aH (λq p c=> ∃(k:Nat),(∃g:Nat->V,p= [.sl S 0 N K,aB a,aB b,aB pv,.fn (Srt.f α) [] [],g 5,aB (k:Nat),aB (j:Nat),g 8,g 9,g 10])/\i<=k/\k<=N+2/\Arr c S N e/\scanUp (λx=>!Srt.lt e[a]! x) e j k=scanUp (λx=>!Srt.lt e[a]! x) e j i/\Fx (· =S) h c/\q=j+1-k) (j+1-i)
    ⟨i,aA rfl,om,om,A3,rfl,F3,rfl⟩ ?_
   rintro q l F ⟨k,⟨g,rfl⟩,a3,Q,n,o,Fs,rfl⟩
   by_cases m:(k:Int)<=((j:Nat):Int)
   ·have t:=bV m
    have eK:(k:Int)+1=((k+1:Nat):Int):=om
    have a1:=n.size
    have G:=n.rd (i:=k) om
    have J:=n.rd (i:=a) om
    simp(disch:=omega)only[go_sem,t,G,J]
    refine (srt_cmp n (i:=a) (j:=k) om om _ om).mono ?_
    rintro _ L ⟨z,rfl,R,r⟩
    have B:Fr F L:=Fr.trans ((Fr.refl F).bL om) r
    have s:=n.fr B
    have y:=fxt Fs (Fx.of B)
    cases hl:Srt.lt e[a]! e[k]! with
    |true=>
     rw[scU_f (λc=>by have:=c.2;simp [hl] at this)] at o;simp(disch:=omega)only[go_sem,R,hl];exact⟨by rw[←o];exact aA rfl,s,y⟩
    |false=>
     rw[scU_t om (by simp [hl])] at o;simp(disch:=omega)only[go_sem,R,hl,eK];exact⟨j+1-(k+1),om,k+1,aA rfl,om,om,s,o,y,rfl⟩
   ·have t:=bM m
    rw[scU_f (λc=>m (by have:=c.1;omega))] at o
    simp(disch:=omega)only[go_sem,t]
    exact⟨by rw[←o];exact aA rfl,n.fr ((Fr.refl F).bL om),fxt Fs (Fx.of ((Fr.refl F).bL om))⟩
  ·rintro l Q ⟨⟨g,rfl⟩,A9,F9⟩
   have a0:=scanUp_ge (λx=>!Srt.lt e[a]! x) e j i
   have a4:=scanUp_hi (λx=>!Srt.lt e[a]! x) e j i
   obtain⟨u,hu⟩: ∃x,scanUp (λx=>!Srt.lt e[a]! x) e j i=x:=⟨_,rfl⟩
   rw[hu] at a0 a4
   rw[hu]
   simp(disch:=omega)only[go_sem]
   refine bW (λp c=>(∃g:Nat->V,p= [.sl S 0 N K,aB a,aB b,aB pv,.fn (Srt.f α) [] [],g 5,aB (u:Nat),aB (scanDown (λx=>Srt.lt e[a]! x) e u j:Nat),g 8,g 9,g 10])/\Arr c S N e/\Fx (· =S) h c) ?_ ?_
   ·refine aH (λq p c=> ∃(k:Nat),(∃g:Nat->V,p= [.sl S 0 N K,aB a,aB b,aB pv,.fn (Srt.f α) [] [],g 5,aB (u:Nat),aB (k:Nat),g 8,g 9,g 10])/\k<=j/\Arr c S N e/\scanDown (λx=>Srt.lt e[a]! x) e u k=scanDown (λx=>Srt.lt e[a]! x) e u j/\Fx (· =S) h c/\q=k) j
     ⟨j,aA rfl,om,A9,rfl,F9,rfl⟩ ?_
    rintro q l F ⟨k,⟨g,rfl⟩,a3,n,o,Fs,Z⟩
    subst Z
    by_cases m:((u:Nat):Int)<=(q:Int)
    ·have t:=bV m
     obtain⟨k,rfl⟩: ∃k,q=k+1:=⟨q- 1,om⟩
     have eK:((k+1:Nat):Int)- 1=(k:Int):=om
     have a1:=n.size
     have G:=n.rd (i:=k+1) om
     have J:=n.rd (i:=a) om
     simp(disch:=omega)only[go_sem,t,G,J]
     refine (srt_cmp n (i:=a) (j:=k+1) om om _ om).mono ?_
     rintro _ L ⟨z,rfl,R,r⟩
     have B:Fr F L:=Fr.trans ((Fr.refl F).bL om) r
     have s:=n.fr B
     have y:=fxt Fs (Fx.of B)
     cases hl:Srt.lt e[a]! e[k+1]! with
     |false=>
      rw[scD_f (λc=>by have:=c.2;simp [hl] at this)] at o;simp(disch:=omega)only[go_sem,R,hl];exact⟨by rw[←o];exact aA rfl,s,y⟩
     |true=>
      rw[scD_t om (by simp [hl])] at o;simp(disch:=omega)only[go_sem,R,hl,eK];exact⟨k,om,k,aA rfl,om,s,o,y,rfl⟩
    ·have t:=bM m
     rw[scD_f (λc=>m (by have:=c.1;omega))] at o
     simp(disch:=omega)only[go_sem,t]
     exact⟨by rw[←o];exact aA rfl,n.fr ((Fr.refl F).bL om),fxt Fs (Fx.of ((Fr.refl F).bL om))⟩
   ·rintro l h4 ⟨⟨g,rfl⟩,A4,F4⟩
    have a2:=scanDown_le (λx=>Srt.lt e[a]! x) e u j
    obtain⟨w,hw⟩: ∃x,scanDown (λx=>Srt.lt e[a]! x) e u j=x:=⟨_,rfl⟩
    rw[hw] at a2
    rw[hw]
    rw[hu,hw] at P
    have c:=A4.size
    by_cases Y:(w:Int)<(u:Int)
    ·have t:=bV Y
     rw[aV om] at P
     simp(disch:=omega)only[go_sem,t]
     rw[←P]
     exact⟨aA rfl,A4,F4⟩
    have t:=bM Y
    rw[aZ om] at P
    have G:=A4.rd (i:=u) om
    have J:=A4.rd (i:=w) om
    have c:(u:Int)+1=((u+1:Nat):Int):=om
    have e:(w:Int)- 1=((w- 1:Nat):Int):=om
    simp(disch:=omega)only[go_sem,t,G,J,A4.get,put_cont,put_cont',c,e]
    have W:=A4.swap (i:=u) (j:=w) (nx:=h4.next+16) om rfl
    exact⟨w- 1,om,u+1,w- 1,_,aA rfl,om,om,om,W.1,P,fxt F4 W.2,rfl⟩
 ·rintro l c ⟨⟨g,rfl⟩,c,e⟩
  simp(disch:=omega)only[go_sem]
  exact⟨c,e⟩
end
def PdqC  {α:Type}[Inhabited α][O:Srt α](n:Nat):Prop:= ∀(h:H) (S N a b:Nat) (lim:Int) (d:Array α) (cp:mE),N<60000->Arr h S N d->a<=b->b<=N->b-a<=n->0<=lim->lim<1000000->Below Srt.lt a b d->
 Ev T 113 [.sl S 0 N cp,aB a,aB b,aB lim,.fn (Srt.f α) [] []] h (λ_ h'=> ∃e,Arr h' S N e/\PermIn a b d e/\SortedIn Srt.lt a b e/\Fx (· =S) h h')
theorem pdq_ok  {α:Type}[Inhabited α][O:Srt α](n:Nat)(ih: ∀m,m<n->PdqC (α:=α) m):PdqC (α:=α) n:=by
 intro h S N a b a6 d s hN A x a7 hn w u hB;refine bH c_slices_pdqsortCmpFunc_classes_class rfl rfl ?_;simp(disch:=omega)only[go_sem,c_slices_pdqsortCmpFunc_classes_class,aF]
 refine aH (λk' y W=> ∃(c l:Nat) (l':Int) (U wp:Bool) (e:Array α),(∃g:Nat->V,y= [.sl S 0 N s,aB (c:Int),aB (l:Int),aB l',.fn (Srt.f α) [] [],.bool U,.bool wp,g 7,g 8,g 9,g 10,g 11,g 12,g 13,g 14,g 15,g 16,g 17,g 18,g 19,g 20,g 21,g 22,g 23])/\c<=l/\l<=N/\a<=c/\l<=b/\0<=l'/\l'<1000000/\Below Srt.lt c l e/\Arr W S N e/\Fx (· =S) h W/\
   (∀R,PermIn c l e R->SortedIn Srt.lt c l R->PermIn a b d R/\SortedIn Srt.lt a b R)/\k'=l-c) (b-a)
  ⟨a,b,a6,true,true,d,aA rfl,x,a7,fH _,fH _,w,u,hB,A,Fx.refl _ h,λR h1 h2=>⟨h1,h2⟩,rfl⟩ ?_
 clear A hB w u;rintro k' y h1 ⟨c,l,l',U,wp,e,⟨g,rfl⟩,z,o,a4,a2,w,u,hB,A,F,K,rfl⟩;obtain⟨m,a⟩:=IP (l-c);have b:(l:Int)-(c:Int)=(m:Int):=om
 have ez: ∀{x:Array α} {hx:H},Arr hx S N x->l<=x.size:=λA=>by rw[A.size];exact o
 by_cases a:(m:Int)<=12
 ·have Z:=bV a
  simp(disch:=omega)only[go_sem,b,Z];refine (insertion_ok h1 S N c l e s om A o z).mono ?_;rintro _ h2 ⟨A2,F2⟩;obtain⟨d,p2⟩:=insertionSort_holds (Srt.swo (α:=α)) e c l z (ez A);obtain⟨q1,q2⟩:=K _ d p2;simp(disch:=omega)only[go_sem];exact⟨_,A2,q1,q2,fxt F F2⟩
 have Z:=bM a
 by_cases hl:l'=0
 ·have G:=bV hl
  simp(disch:=omega)only[go_sem,b,Z,G];refine (heapSort_ok h1 S N c l e s om A o z).mono ?_;rintro _ h2 ⟨A2,F2⟩;obtain⟨d,p2⟩:=heapSort_holds (Srt.swo (α:=α)) e c l z (ez A);obtain⟨q1,q2⟩:=K _ d p2;simp(disch:=omega)only[go_sem];exact⟨_,A2,q1,q2,fxt F F2⟩
 have G:=bM hl;simp(disch:=omega)only[go_sem,b,Z,G];refine kB (λY W=> ∃(G:Array α) (B:Int) (g:Nat->V),Y= [.sl S 0 N s,aB (c:Int),aB (l:Int),aB B,.fn (Srt.f α) [] [],.bool U,.bool wp,aB m,g 8,g 9,g 10,g 11,g 12,g 13,g 14,g 15,g 16,g 17,g 18,g 19,g 20,g 21,g 22,g 23]/\0<=B/\B<1000000/\Arr W S N G/\PermIn c l e G/\Fx (· =S) h W) ?_ ?_
 ·cases U with
  |true=>
   simp(disch:=omega)only[go_sem];exact .inl ⟨e,l',_,(aA rfl: ∃g:Nat->V,_= [.sl S 0 N s,aB (c:Int),aB (l:Int),aB l',.fn (Srt.f α) [] [],.bool true,.bool wp,aB m,g 8,g 9,g 10,g 11,g 12,g 13,g 14,g 15,g 16,g 17,g 18,g 19,g 20,g 21,g 22,g 23]).choose_spec,w,u,A,permIn_refl e c l,F⟩
  |false=>
   simp(disch:=omega)only[go_sem];refine (break_ok h1 S N c l e s hN A o z).mono ?_;rintro _ h2 ⟨G,A2,p2,F2⟩;simp(disch:=omega)only[go_sem];exact .inl ⟨G,l'- 1,_,(aA rfl: ∃g:Nat->V,_= [.sl S 0 N s,aB (c:Int),aB (l:Int),aB (l'- 1),.fn (Srt.f α) [] [],.bool false,.bool wp,aB m,g 8,g 9,g 10,g 11,g 12,g 13,g 14,g 15,g 16,g 17,g 18,g 19,g 20,g 21,g 22,g 23]).choose_spec,om,om,A2,p2,fxt F F2⟩
 clear A F w u hl G g;rintro y h2 ⟨G,B,g,rfl,w,u,A,P2,F⟩;have B2:=hB.perm (by rw[←P2.1];exact ez A) P2;simp(disch:=omega)only[go_sem];refine (pivot_ok h2 S N c l G s om A o om).mono ?_;rintro _ h3 ⟨p,t,rfl,P,Q,f3⟩;have A3:=A.fr f3;have F3:=fxt F (Fx.of f3);clear A F;simp(disch:=omega)only[go_sem];refine kB (λY W=> ∃(e3:Array α) (p2:Nat) (t2:Int) (g:Nat->V),Y= [.sl S 0 N s,aB (c:Int),aB (l:Int),aB B,.fn (Srt.f α) [] [],.bool U,.bool wp,aB m,aB p2,aB t2,g 10,g 11,g 12,g 13,g 14,g 15,g 16,g 17,g 18,g 19,g 20,g 21,g 22,g 23]/\c<=p2/\p2<l/\Arr W S N e3/\PermIn c l G e3/\Fx (· =S) h W) ?_ ?_
 ·refine bB (λht=>?_) (λht=>?_)
  ·simp(disch:=omega)only[go_sem]
   refine (reverse_ok h3 S N c l G s om A3 o om).mono ?_;rintro _ h4 ⟨A4,F4⟩;have e5:(l:Int)- 1-((p:Int)-(c:Int))=(((l- 1)-(p-c):Nat):Int):=om
   simp(disch:=omega)only[go_sem,e5];exact .inl ⟨_,(l- 1)-(p-c),1,_,(aA rfl: ∃g:Nat->V,_= [.sl S 0 N s,aB (c:Int),aB (l:Int),aB B,.fn (Srt.f α) [] [],.bool U,.bool wp,aB m,aB ((l- 1)-(p-c):Nat),aB 1,g 10,g 11,g 12,g 13,g 14,g 15,g 16,g 17,g 18,g 19,g 20,g 21,g 22,g 23]).choose_spec,om,om,A4,reverseRange_holds G c l z (ez A3),fxt F3 F4⟩
  ·simp(disch:=omega)only[go_sem]
   exact .inl ⟨G,p,t,_,(aA rfl: ∃g:Nat->V,_= [.sl S 0 N s,aB (c:Int),aB (l:Int),aB B,.fn (Srt.f α) [] [],.bool U,.bool wp,aB m,aB p,aB t,g 10,g 11,g 12,g 13,g 14,g 15,g 16,g 17,g 18,g 19,g 20,g 21,g 22,g 23]).choose_spec,P,Q,A3,permIn_refl G c l,F3⟩
 have a0:=ez A3;clear A3 F3 P Q f3 p t g;rintro y h4 ⟨e3,p,t,g,rfl,P,Q,A,P3,F⟩;have B3:=B2.perm a0 P3;have a1:=permIn_trans _ _ _ c l P2 P3;have a5:l<=G.size:=a0;clear a0 B2 hB;refine yW (λY W=> ∃(J:Array α) (g:Nat->V),Y= [.sl S 0 N s,aB (c:Int),aB (l:Int),aB B,.fn (Srt.f α) [] [],.bool U,.bool wp,aB m,aB p,g 9,g 10,g 11,g 12,g 13,g 14,g 15,g 16,g 17,g 18,g 19,g 20,g 21,g 22,g 23]/\Arr W S N J/\PermIn c l e J/\Below Srt.lt c l J/\Fx (· =S) h W) ?_ ?_
 ·have skip: ∀(Y:List V),(∃g:Nat->V,Y= [.sl S 0 N s,aB (c:Int),aB (l:Int),aB B,.fn (Srt.f α) [] [],.bool U,.bool wp,aB m,aB p,g 9,g 10,g 11,g 12,g 13,g 14,g 15,g 16,g 17,g 18,g 19,g 20,g 21,g 22,g 23])-> ∃(J:Array α) (g:Nat->V),Y= [.sl S 0 N s,aB (c:Int),aB (l:Int),aB B,.fn (Srt.f α) [] [],.bool U,.bool wp,aB m,aB p,g 9,g 10,g 11,g 12,g 13,g 14,g 15,g 16,g 17,g 18,g 19,g 20,g 21,g 22,g 23]/\Arr h4 S N J/\PermIn c l e J/\Below Srt.lt c l J/\Fx (· =S) h h4:=λY ⟨g,a⟩=>⟨e3,g,a,A,a1,B3,F⟩
  have run: ∀g:Nat->V,Ev T 144 [.sl S 0 N s,aB (c:Int),aB (l:Int),.fn (Srt.f α) [] []] h4 (λv b=> ∃r:Array α×Bool,v= .bool r.2/\Arr b S N r.1/\Fx (· =S) h4 b/\PermIn c l e3 r.1/\(r.2=true->SortedIn Srt.lt c l r.1)):=λ_=>by
   refine (partial_ok h4 S N c l e3 s om A o om).mono ?_;rintro v h5 ⟨a,A5,F5⟩;obtain⟨q1,q2⟩:=partialInsertionSort_holds (Srt.swo (α:=α)) e3 c l om (ez A) B3;exact⟨_,a,A5,F5,q1,q2⟩
  cases U with
  |false=>
   simp(disch:=omega)only[go_sem];exact .inl (skip _ (aA rfl))
  |true=>cases wp with
   |false=>
    simp(disch:=omega)only[go_sem]
    exact .inl (skip _ (aA rfl))
   |true=>
    simp(disch:=omega)only[go_sem]
    refine bB (λht=>?_) (λht=>?_)
    ·simp(disch:=omega)only[go_sem]
     refine (run g).mono ?_
     rintro v h5 ⟨⟨e5,r5⟩,rfl,A5,F5,q1,q2⟩
     have A5:Arr h5 S N e5:=A5
     have q1:PermIn c l e3 e5:=q1
     have P5:=permIn_trans _ _ _ c l a1 q1
     cases r5 with
     |false=>
      simp(disch:=omega)only[go_sem];exact .inl ⟨e5,_,(aA rfl: ∃g:Nat->V,_= [.sl S 0 N s,aB (c:Int),aB (l:Int),aB B,.fn (Srt.f α) [] [],.bool true,.bool true,aB m,aB p,g 9,g 10,g 11,g 12,g 13,g 14,g 15,g 16,g 17,g 18,g 19,g 20,g 21,g 22,g 23]).choose_spec,A5,P5,B3.perm (ez A) q1,fxt F F5⟩
     |true=>
      obtain⟨w1,w2⟩:=K _ P5 (q2 rfl);simp(disch:=omega)only[go_sem];exact .inr ⟨by simp,e5,A5,w1,w2,fxt F F5⟩
    ·simp(disch:=omega)only[go_sem]
     exact .inl (skip _ (aA rfl))
 clear A P3 a1 B3 F P2 a5 e3 G;rintro y h5 ⟨J,g,rfl,A,P4,B4,F⟩;have a3:=ez A;refine yW (λY W=> ∃(g:Nat->V),Y= [.sl S 0 N s,aB (c:Int),aB (l:Int),aB B,.fn (Srt.f α) [] [],.bool U,.bool wp,aB m,aB p,g 9,g 10,g 11,g 12,g 13,g 14,g 15,g 16,g 17,g 18,g 19,g 20,g 21,g 22,g 23]/\Arr W S N J/\Fx (· =S) h W) ?_ ?_
 ·by_cases h0:(0:Int)<(c:Int)
  case neg=>
   have Z:=bM h0;simp(disch:=omega)only[go_sem,Z];exact .inl ⟨_,(aA rfl: ∃g:Nat->V,_= [.sl S 0 N s,aB (c:Int),aB (l:Int),aB B,.fn (Srt.f α) [] [],.bool U,.bool wp,aB m,aB p,g 9,g 10,g 11,g 12,g 13,g 14,g 15,g 16,g 17,g 18,g 19,g 20,g 21,g 22,g 23]).choose_spec,A.fr ((Fr.refl h5).bL om),fxt F (Fx.of ((Fr.refl h5).bL om))⟩
  have Z:=bV h0;have b:(c:Int)- 1=((c- 1:Nat):Int):=om
  have d:=A.rd (i:=c- 1) om;have a:=A.rd (i:=p) om;simp(disch:=omega)only[go_sem,Z,b,d,a];refine (srt_cmp A (i:=c- 1) (j:=p) om om _ om).mono ?_;rintro _ h6 ⟨z,rfl,hz,a⟩;have b:Fr h5 h6:=Fr.trans ((Fr.refl h5).bL om) a;have A6:=A.fr b;have F6:=fxt F (Fx.of b)
  cases hl:Srt.lt J[c- 1]! J[p]! with
  |true=>
   simp(disch:=omega)only[go_sem,hz,hl];exact .inl ⟨_,(aA rfl: ∃g:Nat->V,_= [.sl S 0 N s,aB (c:Int),aB (l:Int),aB B,.fn (Srt.f α) [] [],.bool U,.bool wp,aB m,aB p,g 9,g 10,g 11,g 12,g 13,g 14,g 15,g 16,g 17,g 18,g 19,g 20,g 21,g 22,g 23]).choose_spec,A6,F6⟩
  |false=>
   obtain⟨w1,w2,w3,w4,w5⟩:=round_eq (Srt.swo (α:=α)) (partitionEqual_holds Srt.lt) om P Q a3 B4 hl (Prod.eta (partitionEqual Srt.lt J c l p)).symm;simp(disch:=omega)only[go_sem,hz,hl];refine (partEq_ok h6 S N c l p J s om A6 o P Q).mono ?_;rintro _ h7 ⟨rfl,A7,F7⟩;simp(disch:=omega)only[go_sem];refine .inr ⟨by simp,l-(partitionEqual Srt.lt J c l p).1,om,(partitionEqual Srt.lt J c l p).1,l,B,U,wp,_,aA rfl,w2,o,om,a2,w,u,w4,A7,fxt F6 F7,λR r1 r2=>?_,rfl⟩;obtain⟨t1,t2⟩:=w5 R r1 r2;exact K R (permIn_trans _ _ _ c l P4 t1) t2
 clear A F;rintro y h6 ⟨g,rfl,A,F⟩;have e8:=tdivN m (k:=8) (m:=8) rfl;simp(disch:=omega)only[go_sem];refine (partition_ok h6 S N c l p J s om A o P Q).mono ?_;obtain⟨r,a⟩:=IP (partition Srt.lt J c l p);rw[a];obtain⟨q,ap,e5⟩:=r;obtain⟨w1,w2,w3,w4,w5,w6,w7⟩:=round_part (Srt.swo (α:=α)) (partition_holds Srt.lt) P Q a3 B4 a;rintro _ h7 ⟨rfl,A7,F7⟩;have A7:Arr h7 S N e5:=A7;have F7:=fxt F F7;have el:(q:Int)-(c:Int)=((q-c:Nat):Int):=om
 have a:(l:Int)-(q:Int)=((l-q:Nat):Int):=om
 have Z:(q:Int)+1=((q+1:Nat):Int):=om
 simp(disch:=omega)only[go_sem,el,a,e8];refine bB (λht=>?_) (λht=>?_)
 ·simp(disch:=omega)only[go_sem]
  refine (ih (q-c) om h7 S N c q B e5 s hN A7 w1 om (fH _) w u w4).mono ?_;rintro _ h8 ⟨L,A8,p8,s8,F8⟩;obtain⟨u1,u2⟩:=w6 L p8 s8;simp(disch:=omega)only[go_sem,Z];refine⟨l-(q+1),om,q+1,l,B,_,ap,L,aA rfl,om,o,om,a2,w,u,u1,A8,fxt F7 F8,λR r1 r2=>?_,rfl⟩;obtain⟨t1,t2⟩:=u2 R r1 r2;exact K R (permIn_trans _ _ _ c l P4 t1) t2
 ·simp(disch:=omega)only[go_sem,Z]
  refine (ih (l-(q+1)) om h7 S N (q+1) l B e5 s hN A7 om o (fH _) w u w5).mono ?_;rintro _ h8 ⟨L,A8,p8,s8,F8⟩;obtain⟨u1,u2⟩:=w7 L p8 s8;simp(disch:=omega)only[go_sem];refine⟨q-c,om,c,q,B,_,ap,L,aA rfl,om,om,a4,om,w,u,u1,A8,fxt F7 F8,λR r1 r2=>?_,rfl⟩;obtain⟨t1,t2⟩:=u2 R r1 r2;exact K R (permIn_trans _ _ _ c l P4 t1) t2
theorem pdq_all  {α:Type}[Inhabited α][O:Srt α](n:Nat):PdqC (α:=α) n:=by
 induction n using Nat.strongRecOn with
 |_ n ih=>exact pdq_ok n  ih
theorem sortFunc_ok {α:Type}[Inhabited α][O:Srt α](h:H)(S N:Nat)(d:Array α)(a:mE)(g:N<60000)(A:Arr h S N d):
  Ev T 88 [.sl S 0 N a,.fn (Srt.f α) [] []] h (λ_ h'=> ∃e,Arr h' S N e/\PermIn 0 N d e/\SortedIn Srt.lt 0 N e/\Fx (· =S) h h'):=by
 refine bH c_slices_SortFunc_classes_class_classes_class rfl rfl ?_
 have i:bitsLen N<=16:=(bitsLen_le_iff _ 16).2 om
 simp(disch:=omega)only[go_sem,c_slices_SortFunc_classes_class_classes_class,aF,wrap_u64_in (n:=(N:Int)) om om]
 refine (len_ok N h om).mono ?_
 rintro _ b ⟨rfl,c⟩
 subst c
 simp(disch:=omega)only[go_sem]
 refine (pdq_all N b S N 0 N _ d a g A om om om om om (.inl rfl)).mono ?_
 rintro _ b ⟨e,b,p,s,F⟩
 simp(disch:=omega)only[go_sem]
 exact⟨e,b,p,s,F⟩
theorem isNaN_int (a:Int)(h:H):Ev T 147 [aB a] h (λv h'=>v= .bool false/\h'=h):=by
 refine bH c_cmp_isNaN_int rfl rfl ?_;have e:decide (a≠a)=false:=bM om;simp(disch:=omega)only[go_sem,c_cmp_isNaN_int,aF,e]
def cmpI (a b:Int):Int:=if a<b then -1 else if b<a then 1 else 0
theorem compare_ok (a b:Int)(h:H):Ev T 114 [aB a,aB b] h (λv h'=>v= aB (cmpI a b)/\Fr h h'):=by
 refine bH c_cmp_Compare_int rfl rfl ?_;simp(disch:=omega)only[go_sem,c_cmp_Compare_int,aF];refine (isNaN_int a h).mono ?_;rintro _ c ⟨rfl,rfl⟩;simp(disch:=omega)only[go_sem];refine (isNaN_int b c).mono ?_;rintro _ d ⟨rfl,rfl⟩;simp(disch:=omega)only[go_sem];unfold cmpI
 by_cases c:a<b
 ·have e:=bV c
  simp(disch:=omega)only[go_sem,e,aV c];exact Fr.refl _
 ·have e:=bM c
  by_cases d:b<a
  ·have f:=bV d
   simp(disch:=omega)only[go_sem,e,f,aZ c,aV d];exact Fr.refl _
  ·have f:=bM d
   simp(disch:=omega)only[go_sem,e,f,aZ c,aZ d];exact Fr.refl _
def orI:List Int->Int
 | []=>0
 |x::r=>if x=0 then orI r else x
theorem orI_drop {l:List Int}{i:Nat}(hi:i<l.length)(h:l.getD i 0=0):orI (l.drop i)=orI (l.drop (i+1)):=by
 rw[Tb hi];show (if l[i]=0 then _ else _)=_;rw[aV (by rw[List.getD,eX hi] at h;exact h)]
theorem orI_hit {l:List Int}{i:Nat}(hi:i<l.length)(h:l.getD i 0≠0):orI (l.drop i)=l.getD i 0:=by
 rw[Tb hi];show (if l[i]=0 then _ else l[i])=_;have e:l.getD i 0=l[i]:=by rw[List.getD,eX hi];rfl
 rw[aZ (by rw[←e];exact h),e]
theorem or_ok (u:V)(l:List Int)(h:H)(y:l.length<1000000)(p:SI h u l):Ev T 93 [u] h (λv h'=>v= aB (orI l)/\Fr h h'):=by
 refine bH c_cmp_Or_int rfl rfl ?_;have q:=p.lens;obtain⟨id,k,r,n,w⟩:=p.open;simp(disch:=omega)only[go_sem,c_cmp_Or_int,aF,q];refine aH (λo q t=> ∃(i:Nat),(∃g:Nat->V,q= [u,aB 0,aB 0,g 3,u,aB (l.length:Int),aB i,g 7,g 8])/\i<=l.length/\orI (l.drop i)=orI l/\Fr h t/\o=l.length-i) l.length
   ⟨0,aA rfl,eY _,rfl,Fr.refl h,rfl⟩ ?_
 rintro o o s ⟨i,⟨g,rfl⟩,hi,d,f,rfl⟩
 by_cases b:(i:Int)<(l.length:Int)
 ·have j:=bV b
  have a:i<l.length:=om
  have ci:s.cell id (k+i)=some (aB (l.getD i 0)):=by rw[f.cell (n om),w i a]
  generalize m:l.getD i 0=x at ci;simp(disch:=omega)only[go_sem,j,r.ixa,ci]
  by_cases c:x=0
  ·have e:decide (x≠0)=false:=bM (by simpa using c)
   simp(disch:=omega)only[go_sem,e];rw[dX i];exact⟨l.length-(i+1),om,i+1,aA rfl,om,by rw[←orI_drop a (m.trans c)];exact d,f.bL om,rfl⟩
  ·have e:=bV c
   simp(disch:=omega)only[go_sem,e];exact⟨by rw[←d,orI_hit a (by rw[m];exact c),m],f.bL om⟩
 have j:=bM b;obtain rfl:i=l.length:=om
 simp(disch:=omega)only[go_sem,j];rw[List.drop_length] at d;exact⟨by rw[←d];rfl,f⟩
structure KE where
 rep:V
 ord:Nat
 size:Nat
 ranks:V
 fst:Nat
 hrep:rep.cells= [rep]/\rep.one=true/\dJ rep rep=true
 hranks:ranks.cells= [ranks]/\ranks.one=true/\dJ ranks ranks=true
instance:Inhabited KE:=⟨⟨.aD,0,0,.aD,0,⟨rfl,rfl,rfl⟩,⟨rfl,rfl,rfl⟩⟩⟩
def KE.enc (a:KE):List V:= [a.rep,aB (a.ord:Int),aB (a.size:Int),a.ranks]
def KE.cmp (a b:KE):Int:=orI [cmpI a.ord b.ord,cmpI a.size b.size,cmpI a.fst b.fst]
def KE.lt (a b:KE):Bool:=decide (a.cmp b<0)
theorem boxV_enc (a:KE)(h:H):Bk h (.agg a.enc)=some (.ptr h.next 0,h.new (.cells false a.enc)):=rT h _ (by simp [KE.enc,a.hrep.2.1,a.hranks.2.1,show (aB (a.ord:Int)).one=true from rfl,show (aB (a.size:Int)).one=true from rfl])
theorem corder_ok (a b:KE)(h:H):Ev T 90 [.agg a.enc,.agg b.enc] h (λv h'=>v= aB (cmpI a.ord b.ord)/\Fr h h'):=by
 refine bH c_classes_class_order rfl rfl ?_;obtain⟨A,d⟩:=IP h.next;obtain⟨f,n,e,g,f,i⟩:=dL d a.enc;obtain⟨c,j,f,k,f,m⟩:=dL e b.enc;have o:c.get A=some (.cells false a.enc):=by rw[f _ om];exact g
 have l:c.cell A 1=some (aB (a.ord:Int)):=by rw[H.aG o];rfl
 have p:c.cell (A+1) 1=some (aB (b.ord:Int)):=by rw[H.aG k];rfl
 simp(disch:=omega)only[go_sem,c_classes_class_order,aF,boxV_enc,d,n,e,j,l,p];refine (compare_ok _ _ c).mono ?_;rintro _ c ⟨rfl,c⟩;simp(disch:=omega)only[go_sem];exact (i.trans m).trans c
theorem csize_ok (a b:KE)(h:H):Ev T 91 [.agg a.enc,.agg b.enc] h (λv h'=>v= aB (cmpI a.size b.size)/\Fr h h'):=by
 refine bH c_classes_class_size rfl rfl ?_;obtain⟨A,d⟩:=IP h.next;obtain⟨f,n,e,g,f,i⟩:=dL d a.enc;obtain⟨c,j,f,k,f,m⟩:=dL e b.enc;have o:c.get A=some (.cells false a.enc):=by rw[f _ om];exact g
 have l:c.cell A 2=some (aB (a.size:Int)):=by rw[H.aG o];rfl
 have p:c.cell (A+1) 2=some (aB (b.size:Int)):=by rw[H.aG k];rfl
 simp(disch:=omega)only[go_sem,c_classes_class_size,aF,boxV_enc,d,n,e,j,l,p];refine (compare_ok _ _ c).mono ?_;rintro _ c ⟨rfl,c⟩;simp(disch:=omega)only[go_sem];exact (i.trans m).trans c
def KE.At (h:H)(a:KE):Prop:= ∃id off n cap,a.ranks= .sl id off (n+1) cap/\id<h.next/\h.cell id off=some (aB (a.fst:Int))
theorem cfirst_ok (a b:KE)(h:H)(p:a.At h)(r:b.At h):Ev T 92 [.agg a.enc,.agg b.enc] h (λv h'=>v= aB (cmpI a.fst b.fst)/\Fr h h'):=by
 refine bH c_classes_class_first rfl rfl ?_;obtain⟨A,o⟩:=IP h.next;obtain⟨s,u,d,s,w,x⟩:=dL o a.enc;obtain⟨c,y,w,t,w,G⟩:=dL d b.enc;obtain⟨i,f,z,O,K,B,F⟩:=p;obtain⟨l,k,L,N,q,lb,J⟩:=r;have F2:=x.trans G;have x:c.get A=some (.cells false a.enc):=by rw[w _ om];exact s
 have g:c.cell A 3=some a.ranks:=by rw[H.aG x];rfl
 have j:c.cell (A+1) 3=some b.ranks:=by rw[H.aG t];rfl
 rw[K] at g;rw[q] at j;have m:c.cell i f=some (aB (a.fst:Int)):=by rw[F2.cell B];exact F
 have n:c.cell l k=some (aB (b.fst:Int)):=by rw[F2.cell lb];exact J
 simp(disch:=omega)only[go_sem,c_classes_class_first,aF,boxV_enc,o,u,d,y,g,j,m,n];refine (compare_ok _ _ _).mono ?_;rintro _ e ⟨rfl,o⟩;have d:Fr c e:=((Fr.refl c).bL om).trans o;have p:=F2.next;have c:e.cell A 3=some (.sl i f (z+1) O):=by rw[d.cell om];exact g
 have g:e.cell (A+1) 3=some (.sl l k (L+1) N):=by rw[d.cell om];exact j
 have j:e.cell i f=some (aB (a.fst:Int)):=by rw[d.cell om];exact m
 have f:e.cell l k=some (aB (b.fst:Int)):=by rw[d.cell om];exact n
 simp(disch:=omega)only[go_sem,c,g,j,f];exact F2.trans d
theorem row_enc {h:H}{A:Nat}{ro:Bool}{a:KE}(b:h.get A=some (.cells ro a.enc)):h.row A 0 4=some a.enc:=by
 simp [H.row,b,sub,KE.enc]
theorem eqV_ke (a:KE):dJ (.agg a.enc) (.agg a.enc)=true:=by
 show nJ a.enc a.enc=true;simp [KE.enc,nJ,dJ,a.hrep.2.2,a.hranks.2.2]
theorem KE.At.fr {a:KE}{h h':H}(x:a.At h)(f:Fr h h'):a.At h':=by
 obtain⟨g,d,e,j,c,b,i⟩:=x;exact⟨g,d,e,j,c,iO b f.next,by rw[f.cell b];exact i⟩
theorem blsV_three (h:H)(x y z:Int):pF h 1 [aB 0] 3 [(0,1,aB x),(1,1,aB y),(2,1,aB z)]=some (.sl h.next 0 3 (.kn 3),h.new (.cells false (ints [x,y,z]))):=rfl
theorem ccmp_ok (a b:KE)(h:H)(G:a.At h)(r:b.At h):Ev T 89 [.agg a.enc,.agg b.enc] h (λv h'=>v= aB (a.cmp b)/\Fr h h'):=by
 refine bH c_classes_of_1 rfl rfl ?_;obtain⟨A,n⟩:=IP h.next;obtain⟨j,x,j,s,y,z⟩:=dL n a.enc;obtain⟨f,B,y,g,y,F⟩:=dL j b.enc;have F2:=z.trans F;have z:f.get A=some (.cells false a.enc):=by rw[y _ om];exact s
 simp(disch:=omega)only[go_sem,c_classes_of_1,aF,boxV_enc,n,x,j,B,row_enc z,row_enc g,eqV_ke,H.Ix];have j:=F2.next;refine (corder_ok a b _).mono ?_;rintro _ k ⟨rfl,p⟩;have q:Fr f k:=((Fr.refl f).bL om).trans p;have j:k.get (A+1)=some (.cells false b.enc):=by rw[q.get _ om];exact g
 simp(disch:=omega)only[go_sem,row_enc j,eqV_ke];refine (csize_ok a b _).mono ?_;rintro _ t ⟨rfl,m⟩;have i:=q.trans m;have j:t.get (A+1)=some (.cells false b.enc):=by rw[i.get _ om];exact g
 simp(disch:=omega)only[go_sem,row_enc j,eqV_ke];refine (cfirst_ok a b _ (G.fr (F2.trans i)) (r.fr (F2.trans i))).mono ?_;rintro _ d ⟨rfl,j⟩;have l:=i.trans j;have i:d.get (A+1)=some (.cells false b.enc):=by rw[l.get _ om];exact g
 simp(disch:=omega)only[go_sem,row_enc i,eqV_ke];obtain⟨I,i⟩:=IP (f.next+9+9);have n:=j.next;have j:=m.next;have j:f.next+9+12<=k.next:=p.next;simp(disch:=omega)only[go_sem,i,blsV_three]
 obtain⟨e,c⟩: ∃e:H,e=H.mk ((H.mk d.tr I).new (Ob.cells false (ints [cmpI a.ord b.ord,cmpI a.size b.size,cmpI a.fst b.fst]))).tr d.next:=⟨_,rfl⟩
 rw[←c];have m:e.get I=bX (ints [cmpI a.ord b.ord,cmpI a.size b.size,cmpI a.fst b.fst]):=by rw[c];exact H.aN (H.mk d.tr I) _
 have i:e.next=d.next:=by rw[c]
 have j: ∀k,k≠I->e.get k=d.get k:=λk i=>by rw[c];exact H.bJ (H.mk d.tr I) (by simpa using i) _
 have w:Fr f e:=⟨by have:=l.next;omega,λk i=>by rw[j k om];exact l.get k i⟩
 refine (or_ok _ [cmpI a.ord b.ord,cmpI a.size b.size,cmpI a.fst b.fst] e (by simp) (SV.all (by simp [aL]) om m _)).mono ?_;rintro _ u ⟨rfl,c⟩;have o:=w.trans c;have c:u.get (A+1)=some (.cells false b.enc):=by rw[o.get _ om];exact g
 simp(disch:=omega)only[go_sem,row_enc c,eqV_ke];exact⟨rfl,F2.trans o⟩
theorem KE.lt_iff (a b:KE):a.lt b=true↔a.ord<b.ord∨a.ord=b.ord/\(a.size<b.size∨a.size=b.size/\a.fst<b.fst):=by
 unfold KE.lt KE.cmp orI orI orI orI cmpI;rw[decide_eq_true_eq]
 repeat' split
 all_goals omega
theorem ke_swo:SWO KE.lt where
 irrefl x:=by rw[←Bool.not_eq_true,KE.lt_iff];omega
 trans x y z h1 h2:=by rw[KE.lt_iff] at*;omega
 ntrans x y z h1 h2:=by rw[←Bool.not_eq_true,KE.lt_iff] at*;omega
def KE.Pp (hB:H)(b0 S:Nat)(a:KE):Prop:= ∃id off n cap,a.ranks= .sl id off (n+1) cap/\id<b0/\id≠S/\hB.cell id off=some (aB (a.fst:Int))
def Bb (hB:H)(b0 S:Nat)(h:H):Prop:=b0<=h.next/\ ∀q,q<b0->q≠S->h.get q=hB.get q
theorem KE.Pp.at {i h:H}{f S:Nat}{a:KE}(p:a.Pp i f S)(b:Bb i f S h):a.At h:=by
 obtain⟨id,d,n,c,e,g,j,k⟩:=p;refine⟨id,d,n,c,e,iO g b.1,?_⟩;rw[←k];unfold H.cell;rw[b.2 id g j]
@[reducible] def srtKE (hB:H)(b0 S:Nat):Srt KE where
 lt:=KE.lt
 enc:=KE.enc
 P:=KE.Pp hB b0 S
 B:=Bb hB b0 S
 f:=89
 b0:=b0
 S:=S
 swo:=ke_swo
 len _:=rfl
 one a:=by simp [KE.enc,a.hrep.2.1,a.hranks.2.1,show (aB (a.ord:Int)).one=true from rfl,show (aB (a.size:Int)).one=true from rfl]
 eqv:=eqV_ke
 cmp h a b hb pa pb:=(ccmp_ok a b h (pa.at hb) (pb.at hb)).mono λv h' ⟨e,f⟩=>⟨_,e,rfl,f⟩
 bfr h h' b f:=⟨jC b.1 f.next,λq h1 h2=>by rw[f.get q (iO h1 b.1)];exact b.2 q h1 h2⟩
 bS h h' b f:=⟨jC b.1 f.next,λq h1 h2=>by rw[f.get q (iO h1 b.1) h2];exact b.2 q h1 h2⟩
 bR h h' R b hR f:=⟨jC b.1 f.next,λq h1 h2=>by rw[f.get q (iO h1 b.1) (λe=>by have:q=R:=e;omega)];exact b.2 q h1 h2⟩
 bn h b:=b.1
theorem arr_list {l:List KE}{N:Nat}(h:l.length=N){e:Array KE}(m:PermIn 0 N l.toArray e)(k:SortedIn KE.lt 0 N e):e.toList.Perm l/\e.toList.Pairwise (λa b=>KE.lt b a=false):=by
 obtain⟨d,c,f⟩:=m;have c:e.size=N:=by rw[d];simpa using h
 refine⟨?_,?_⟩
 ·have g:(e.extract 0 N).toList=e.toList:=by rw[←c];simp
  have d:(l.toArray.extract 0 N).toList=l:=by rw[←h];simp
  rwa [g,d] at f
 ·rw[Po]
  intro i j hi g d;have f:j<N:=by simpa [c] using g
  have:=k i j (eY _) d f;have d:e[i]! =e.toList[i]:=by simp at hi;simp [hi]
  have c:e[j]! =e.toList[j]:=by simp at g;simp [g]
  rw[d,c] at this;exact this
def kflat (l:List KE):List V:=l.flatMap KE.enc
theorem csort_ok (h:H)(S d:Nat)(l:List KE)(f:mE)(r:l.length<60000)(k:h.get S=bX (kflat l))(m:S<h.next)(g:d<=h.next)(q: ∀a∈l,a.Pp h d S):
  Ev T 88 [.sl S 0 l.length f,.fn 89 [] []] h (λ_ h'=> ∃l',h'.get S=bX (kflat l')/\l'.Perm l/\l'.Pairwise (λa b=>KE.lt b a=false)/\Fx (· =S) h h'):=by
 letI:=srtKE h d S
 have A:Arr h S l.length l.toArray:=⟨k,by simp,m,rfl,⟨g,λ_ _ _=>rfl⟩,λi hi=>by
  have c:i<l.length:=by simpa using hi
  have:l.toArray[i]! =l[i]:=by simp [c]
  rw[this]
  exact q _ (wT c)⟩
 refine (sortFunc_ok h S l.length l.toArray f r A).mono ?_
 rintro _ h' ⟨e,n,p,s,F⟩
 obtain⟨j,o⟩:=arr_list rfl p s
 exact⟨e.toList,n.get,j,o,F⟩
end Go.Proofs.YtapfcpkecmmagaaGreat.Cls
namespace Go.Proofs.YtapfcpkecmmagaaGreat
open Go Go.Ay Go.Pm
set_option maxRecDepth 100000
section
variable {i j p:Nat} {S:LN} {Q:List Nat}
section
variable {n:Nat} {G:List Nat->Prop} {L:LN}
theorem nd_inj {l:LN}(nd:l.Nodup)(hi:i<l.length)(b:j<l.length)(e:l.getD i []=l.getD j []):i=j:=by
 have c:l.getD i []=l[i]:=by rw[List.getD,eX hi];rfl
 have a:l.getD j []=l[j]:=by rw[List.getD,eX b];rfl
 rw[c,a] at e;have h:=Po.1 nd;rcases Nat.lt_trichotomy i j with a|a|a
 ·exact absurd e (h i j hi b a)
 ·exact a
 ·exact absurd e.symm (h j i b hi a)
def cR (G:List Nat->Prop)(L:LN)(i j:Nat):Prop:=cj G (L.getD i []) (L.getD j [])
open Classical in
noncomputable def orbC (G:List Nat->Prop)(L:LN)(i:Nat):List Nat:=(List.range L.length).filter λj=>decide (cR G L i j)
theorem orbC_mem:j∈orbC G L i↔j<L.length/\cR G L i j:=by
 classical
 unfold orbC;rw[Sq,Ae,Cr]
theorem orbC_asc (i:Nat):(orbC G L i).Pairwise (· < ·):=by
 classical
 unfold orbC;exact List.Pairwise.filter _ List.pairwise_lt_range
theorem orbC_nodup (i:Nat):(orbC G L i).Nodup:=by
 classical
 unfold orbC;exact List.Pairwise.filter _ List.nodup_range
def isR (G:List Nat->Prop)(L:LN)(i:Nat):Prop:= ∀j,j<i-> ¬cR G L j i
open Classical in
noncomputable def repsC (G:List Nat->Prop)(L:LN)(k:Nat):List Nat:=(List.range k).filter λj=>decide (isR G L j)
theorem repsC_succ (k:Nat):(isR G L k->repsC G L (k+1)=repsC G L k++ [k])/\(¬isR G L k->repsC G L (k+1)=repsC G L k):=by
 classical
 unfold repsC;rw[List.range_succ,List.filter_append];refine⟨λh=>?_,λh=>?_⟩
 ·rw[List.filter_cons_of_pos (by simpa using h)];rfl
 ·rw[List.filter_cons_of_neg (by simpa using h),List.filter_nil,pN]
theorem repsC_mem {k:Nat}:i∈repsC G L k↔i<k/\isR G L i:=by
 classical
 unfold repsC;rw[Sq,Ae,Cr]
variable (hG:mD n G) (E:eQ G L)
include hG E
omit hG in
theorem el_mem (hi:i<L.length):G (L.getD i []):=(E.mem _).1 (getD_mem hi)
theorem el_isP (hi:i<L.length):bT n (L.getD i []):=hG.isP (el_mem E hi)
theorem cR_refl (hi:i<L.length):cR G L i i:=cj_refl hG (el_isP hG E hi)
theorem cR_symm (hi:i<L.length)(h:cR G L i j):cR G L j i:=cj_symm hG (el_isP hG E hi) h
theorem cR_trans {k:Nat}(hi:i<L.length)(h:cR G L i j)(h2:cR G L j k):cR G L i k:=cj_trans hG (el_isP hG E hi) h h2
theorem rep_ex (hi:i<L.length): ∃r,r<=i/\isR G L r/\cR G L r i:=by
 induction i using Nat.strongRecOn with
 |_ i ih=>
  by_cases h:isR G L i
  ·exact⟨i,fH _,h,cR_refl hG E hi⟩
  ·obtain⟨j,b,a⟩: ∃j,j<i/\cR G L j i:=Bz λc=>h λj b a=>c ⟨j,b,a⟩
   obtain⟨r,c,c,d⟩:=ih j b om;exact⟨r,om,c,cR_trans hG E om d a⟩
theorem rep_uniq {r s:Nat}(d:r<L.length)(b:s<L.length)(e:isR G L r)(h2:isR G L s)(a:cR G L r i)(c:cR G L s i):r=s:=by
 have f:=cR_trans hG E d a (cR_symm hG E b c);have g:=cR_trans hG E b c (cR_symm hG E d a);rcases Nat.lt_trichotomy r s with h|h|h
 ·exact absurd f (h2 r h)
 ·exact h
 ·exact absurd g (e s h)
omit hG E in
structure BQ (G:List Nat->Prop)(L S:LN)(i:Nat)(Q:List Nat)(p:Nat):Prop where
 nd:Q.Nodup
 ne:0<Q.length
 hd:Q.getD 0 0=i
 mem: ∀j∈Q,j<L.length/\cR G L i j
 cl: ∀k,k<p-> ∀s∈S,∃j∈Q,L.getD j []=conjP (L.getD (Q.getD k 0) []) s
omit hG E in
theorem BQ.len (b:BQ G L S i Q p):Q.length<=L.length:=by
 have h:Q ⊆ List.range L.length:=λj a=>Ae.2 (b.mem j a).1
 have:=List.Nodup.length_le_of_subset b.nd h;rwa [zE] at this
theorem BQ.done (b:BQ G L S i Q p)(v:Q.length<=p)(hi:i<L.length)(q: ∀s∈S,G s)(a: ∀x,G x->fA n (λg=>g∈S) x)(j:Nat):j∈Q↔j<L.length/\cR G L i j:=by
 refine⟨b.mem j,λ⟨r,hc⟩=>?_⟩
 have f: ∃k∈Q,L.getD k []=L.getD j []:=by
  refine cj_ind (S:=λg=>g∈S) (λg d=>hG.isP (q g d)) a (P:=λy=> ∃k∈Q,L.getD k []=y) (el_isP hG E hi) ⟨i,by rw[←b.hd];exact getD_mem b.ne,rfl⟩ ?_ hc;rintro y g Y ⟨k,c,rfl⟩ d;obtain⟨t,m,u⟩:=vJ.1 c;obtain⟨l,o,h⟩:=b.cl t om g d;have e:Q.getD t 0=k:=by rw[Pm.bP m,u]
  rw[e] at h;exact⟨l,o,h⟩
 obtain⟨k,c,e⟩:=f;have d:=(b.mem k c).1;rw[←nd_inj E.nodup d r e];exact c
theorem BQ.sort (b:BQ G L S i Q p)(e:Q.length<=p)(hi:i<L.length)(f: ∀s∈S,G s)(a: ∀x,G x->fA n (λg=>g∈S) x){c:List Int}(d:c.Perm (zi Q))(h2:c.Pairwise (· <= ·)):c=zi (orbC G L i):=by
 refine asc_perm (d.trans ?_) h2 ?_
 ·refine List.Perm.map _ ((List.perm_ext_iff_of_nodup b.nd (orbC_nodup i)).2 λj=>?_)
  rw[b.done hG E e hi f a j,orbC_mem]
 ·unfold zi
  rw[List.pairwise_map];exact (orbC_asc i).imp λh=>om
theorem orbC_head (hi:i<L.length)(f:isR G L i):0<(orbC G L i).length/\(orbC G L i).getD 0 0=i:=by
 have e:i∈orbC G L i:=orbC_mem.2 ⟨hi,cR_refl hG E hi⟩;have a:=Py e;refine⟨a,?_⟩;have h:=orbC_mem.1 (getD_mem (d:=0) a);obtain⟨k,l,g⟩:=vJ.1 e;have b:=Po.1 (orbC_asc (G:=G) (L:=L) i);rw[Pm.bP a] at*
 by_cases c:k=0
 ·subst c;exact g
 ·have m:=b 0 k a l om
  exact absurd (cR_symm hG E hi h.2) (f _ om)
end
end
end Go.Proofs.YtapfcpkecmmagaaGreat
namespace Go.Ay
open Go
def Mx (o:Option Ob)(h:H)(id:Nat)(s:pW)(k y:V):Option (V×H):=match o with
 |some (.wmap sh es)=>if s=sh/\isKey s k=true then
   some (V.undef,h.set id (some (.wmap sh (match eZ k es with
    |some e=>es.set e.1 (k,y)
    |none=>es++ [(k,y)]))))
  else none
 |_=>none
def DK (s:pW)(h:H)(x k y:V):Option (V×H):=match x with
 | .mp id=>Mx (h.get id) h id s k y
 |_=>none
theorem AU (ρ:X->V)(h:H)(s:pW)(x k y:X):cW ρ h (.msw s x k y)=DK s h (ρ x) (ρ k) (ρ y):=by
 simp only[cW,DK,Mx];cases ρ x<;>try rfl
theorem AL (s:pW)(h:H)(id:Nat)(k y:V):DK s h (.mp id) k y=Mx (h.get id) h id s k y:=rfl
def Cf (o:Option Ob)(s:pW)(zero:V)(ok:Bool)(k:V):Option V:=match o with
 |some (.wmap sh es)=>if s=sh/\isKey s k=true then
   match eZ k es with
   |some e=>some (if ok then .tup [e.2,.bool true] else e.2)
   |none=>some (if ok then .tup [zero,.bool false] else zero)
  else none
 |_=>none
def ES (s:pW)(zero:V)(ok:Bool)(h:H)(x k:V):Option V:=match x with
 | .mp id=>Cf (h.get id) s zero ok k
 |_=>none
theorem Gz (ρ:X->V)(h:H)(s:pW)(zero:V)(b:Bool)(x k:X):cW ρ h (.lkw s zero b x k)=(ES s zero b h (ρ x) (ρ k)).map (·,h):=by
 simp only[cW,ES,Cf];cases ρ x<;>try rfl
 rename_i id;simp only
 cases hg:h.get id with
 |none=>rfl
 |some o=>
  cases o<;>try rfl
  rename_i d c;simp only
  by_cases a:s=d/\isKey s (ρ k)=true
  ·rw[aV a,aV a]
   cases eZ (ρ k) c<;>rfl
  ·rw[aZ a,aZ a];rfl
theorem Gm (s:pW)(zero:V)(a:Bool)(h:H)(id:Nat)(k:V):ES s zero a h (.mp id) k=Cf (h.get id) s zero a k:=rfl
attribute [go_sem] AU AL Gz Gm
end Go.Ay
namespace Go.Proofs.YtapfcpkecmmagaaGreat
open Go Go.Ay Go.Pm
set_option maxRecDepth 100000
def wmp (L:LN)(k:Nat):List (V×V):=(List.range k).map λi=>(V.str (L.getD i []),aB i)
theorem findW_app (k:V): ∀(a b:List (V×V)),eZ k a=none->eZ k (a++b)=(eZ k b).map λq=>(q.1+a.length,q.2)
 | [],b,_=>by
  cases h:eZ k b<;>simp [h]
 |e::a,b,h=>by
  show (if dJ k e.1 then some (0,e.2) else (eZ k (a++b)).map λq=>(q.1+1,q.2))=_;have c:(if dJ k e.1 then some (0,e.2) else (eZ k a).map λq=>(q.1+1,q.2))=none:=h;split at c
  ·cases c
  ·rename_i d
   rw[aZ d,findW_app k a b (by cases h2:eZ k a with|none=>rfl|some x=>rw[h2] at c;cases c),Option.map_map]
   rfl
theorem wmp_succ (L:LN)(k:Nat):wmp L (k+1)=wmp L k++ [(V.str (L.getD k []),aB k)]:=by
 unfold wmp;rw[List.range_succ,List.map_append];rfl
theorem wmp_none {L:LN}{w:List Nat}: ∀{k:Nat},(∀i,i<k->L.getD i []≠w)->eZ (.str w) (wmp L k)=none
 |0,_=>rfl
 |k+1,h=>by
  rw[wmp_succ,findW_app _ _ _ (wmp_none λi hi=>h i om)]
  have:(dJ (.str w) (.str (L.getD k [])))=false:=by
   have:=h k om;simp only[dJ,beq_eq_false_iff_ne,ne_eq];exact λe=>this e.symm
  show Option.map _ (if dJ (.str w) (.str (L.getD k [])) then _ else _)=_;rw[aZ (by rw[this];simp)];rfl
theorem wmp_find {L:LN}(nd:L.Nodup): ∀{k i:Nat},k<=L.length->i<k->eZ (.str (L.getD i [])) (wmp L k)=some (i,aB i)
 |0,i,_,h=>om
 |k+1,i,hk,h=>by
  rw[wmp_succ]
  by_cases e:i=k
  ·subst e
   rw[findW_app _ _ _ (wmp_none λj l e=>by have:=nd_inj nd om om e;omega)];show Option.map _ (if dJ (.str (L.getD i [])) (.str (L.getD i [])) then some (0,aB i) else _)=_;rw[aV (by simp [dJ])];simp [wmp]
  ·have g:=wmp_find nd (k:=k) om (show i<k by omega)
   have d: ∀(a b:List (V×V)) (x:V) (r:Nat×V),eZ x a=some r->eZ x (a++b)=some r:=by
    intro a
    induction a with
    |nil=>intro b x r h;cases h
    |cons y a ih2=>
     intro b x r h;show (if dJ x y.1 then some (0,y.2) else (eZ x (a++b)).map λq=>(q.1+1,q.2))=_;have c:(if dJ x y.1 then some (0,y.2) else (eZ x a).map λq=>(q.1+1,q.2))=some r:=h
     by_cases f:dJ x y.1=true
     ·rw[aV f] at c ⊢;exact c
     ·rw[aZ f] at c ⊢
      cases h2:eZ x a with
      |none=>rw[h2] at c;cases c
      |some r2=>rw[h2] at c;rw[ih2 b x r2 h2];exact c
   exact d _ _ _ _ g
theorem isKey_word {w:List Nat}(b:w.length<=1000)(h2: ∀x∈w,x<256):isKey .str (.str w)=true:=by
 have e:(decide (w.length<2^62)&&w.all λn=>decide (n<256))=true:=by
  rw[pQ,decide_eq_true_eq,yQ];exact⟨om,λx a=>by simpa using h2 x a⟩
 exact e
theorem mswO_new {L:LN}(nd:L.Nodup){k:Nat}(a:k<L.length)(b:isKey .str (.str (L.getD k []))=true)(hh:H)(M:Nat):
  Mx (some (.wmap .str (wmp L k))) hh M .str (.str (L.getD k [])) (aB k)=some (.undef,hh.set M (some (.wmap .str (wmp L (k+1))))):=by
 have e:eZ (.str (L.getD k [])) (wmp L k)=none:=wmp_none λj c e=>by have:=nd_inj nd om a e;omega
 simp only[Mx]
 rw[aV ⟨trivial,b⟩,e,wmp_succ]
theorem lkwO_hit {L:LN}(nd:L.Nodup){i:Nat}(hi:i<L.length)(a:isKey .str (.str (L.getD i []))=true)(z:V):
  Cf (some (.wmap .str (wmp L L.length))) .str z false (.str (L.getD i []))=some (aB i):=by
 simp only[Cf]
 rw[aV ⟨trivial,a⟩,wmp_find nd (fH _) hi];rfl
end Go.Proofs.YtapfcpkecmmagaaGreat
namespace Go.Ay
open Go
set_option maxRecDepth 100000
section
variable {e:Nat×V} {y:V}
def La (o:Option Ob)(h:H)(id:Nat)(s:pW)(zero k:V):Option (V×H):=match o with
 |some (.wmap sh es)=>if s=sh/\isKey s k=true then
   match eZ k es with
   |some e=>some (.tup [e.2,.int .i64 (e.1:Nat)],h)
   |none=>some (.tup [zero,.int .i64 es.length],h.set id (some (.wmap sh (es++ [(k,zero)]))))
  else none
 |_=>none
def DL (s:pW)(zero:V)(h:H)(x k:V):Option (V×H):=match x with
 | .mp id=>La (h.get id) h id s zero k
 |_=>none
theorem Yy (ρ:X->V)(h:H)(s:pW)(zero:V)(x k:X):cW ρ h (.ent s zero x k)=DL s zero h (ρ x) (ρ k):=by
 simp only[cW,DL,La];cases ρ x<;>try rfl
theorem BL (s:pW)(zero:V)(h:H)(id:Nat)(k:V):DL s zero h (.mp id) k=La (h.get id) h id s zero k:=rfl
def Sv (o:Option Ob)(h:H)(id:Nat)(n:Int)(y:V):Option (V×H):=match o with
 |some (.wmap sh es)=>if 0<=n then
   match es[n.toNat]? with
   |some e=>some (V.undef,h.set id (some (.wmap sh (es.set n.toNat (e.1,y)))))
   |none=>none
  else none
 |_=>none
def CR (h:H)(x s y:V):Option (V×H):=match x,s with
 | .mp id,.int .i64 n=>Sv (h.get id) h id n y
 |_,_=>none
theorem AB (ρ:X->V)(h:H)(x s y:X):cW ρ h (.ens x s y)=CR h (ρ x) (ρ s) (ρ y):=by
 simp only[cW,CR,Sv];cases ρ x<;>try rfl
theorem BD (h:H)(id:Nat)(n:Int)(y:V):CR h (.mp id) (.int .i64 n) y=Sv (h.get id) h id n y:=rfl
attribute [go_sem] Yy BL AB BD
section
variable {κ:Type} [DecidableEq κ]
def tS:List (κ×V)->κ->Option (Nat×V)
 | [],_=>none
 |p::l,a=>if a=p.1 then some (0,p.2) else (tS l a).map λq=>(q.1+1,q.2)
def gH (enc:κ->V)(l:List (κ×V)):List (V×V):=l.map λp=>(enc p.1,p.2)
def Cc (l:List (κ×V))(a:κ):Option V:=(tS l a).map (·.2)
def Hk (l:List (κ×V))(a:κ)(y:V):List (κ×V):=match tS l a with
 |some e=>l.set e.1 (a,y)
 |none=>l++ [(a,y)]
theorem sG {enc:κ->V}{P:κ->Prop}(c: ∀a b,P a->P b->dJ (enc a) (enc b)=decide (a=b)){a:κ}(d:P a): ∀{l:List (κ×V)},(∀p∈l,P p.1)->eZ (enc a) (gH enc l)=tS l a
 | [],_=>rfl
 |p::l,h=>by
  show (if dJ (enc a) (enc p.1) then some (0,p.2) else (eZ (enc a) (gH enc l)).map λq=>(q.1+1,q.2))=if a=p.1 then some (0,p.2) else (tS l a).map λq=>(q.1+1,q.2)
  rw[c a p.1 d (h p (by simp)),sG c d λq f=>h q (by simp [f])]
  by_cases e:a=p.1<;>simp [e]
theorem Tn {l:List (κ×V)}{a:κ}(h:tS l a=some e):l[e.1]? =some (a,e.2):=by
 induction l generalizing e with
 |nil=>cases h
 |cons p l ih=>
  rw[tS] at h
  by_cases c:a=p.1
  ·rw[aV c] at h
   cases h;simp [c]
  ·rw[aZ c] at h
   obtain⟨q,b,rfl⟩:=jB.1 h;simpa using ih b
theorem Yq (a:κ)(l m:List (κ×V))(h:tS l a=none):tS (l++m) a=(tS m a).map λq=>(q.1+l.length,q.2):=by
 induction l with
 |nil=>cases hm:tS m a<;>simp [hm]
 |cons p l ih=>
  rw[tS] at h
  by_cases c:a=p.1
  ·rw[aV c] at h;cases h
  ·rw[aZ c] at h
   have b:tS l a=none:=by cases hl:tS l a with|none=>rfl|some x=>rw[hl] at h;cases h
   rw[List.cons_append,tS,aZ c,ih b,Option.map_map]
   rfl
theorem Hi (a:κ)(l m:List (κ×V))(h:tS l a=some e):tS (l++m) a=some e:=by
 induction l generalizing e with
 |nil=>cases h
 |cons p l ih=>
  rw[tS] at h;rw[List.cons_append,tS]
  by_cases c:a=p.1
  ·rw[aV c] at h ⊢;exact h
  ·rw[aZ c] at h ⊢
   obtain⟨q,b,rfl⟩:=jB.1 h;rw[ih b];rfl
theorem BG (l:List (κ×V)){a:κ}(y:V)(h:tS l a=some e)(b:κ):Cc (l.set e.1 (a,y)) b=if b=a then some y else Cc l b:=by
 unfold Cc
 induction l generalizing e with
 |nil=>cases h
 |cons p l f=>
  rw[tS] at h
  by_cases c:a=p.1
  ·rw[aV c] at h
   cases h;show Option.map _ (if b=a then some (0,y) else (tS l b).map λq=>(q.1+1,q.2))=_
   by_cases d:b=a
   ·rw[aV d,aV d];rfl
   ·rw[aZ d,aZ d,tS,aZ (by rw[←c];exact d)]
  ·rw[aZ c] at h
   obtain⟨q,g,rfl⟩:=jB.1 h;have f:=f g;show Option.map _ (if b=p.1 then some (0,p.2) else (tS (l.set q.1 (a,y)) b).map λq=>(q.1+1,q.2))=_
   by_cases d:b=p.1
   ·rw[aV d,aZ (by rw[d];exact λe=>c e.symm),tS,aV d]
   ·rw[aZ d,Option.map_map,tS,aZ d,Option.map_map]
    exact f
theorem yU (l:List (κ×V))(a:κ)(y:V)(b:κ):Cc (Hk l a y) b=if b=a then some y else Cc l b:=by
 unfold Hk
 cases h:tS l a with
 |some e=>exact BG l y h b
 |none=>
  show Cc (l++ [(a,y)]) b=_;unfold Cc
  cases hb:tS l b with
  |some e=>
   rw[Hi b l _ hb,aZ (λe=>by rw[e,h] at hb;cases hb)]
  |none=>
   rw[Yq b l _ hb];show Option.map _ (Option.map _ (if b=a then some (0,y) else none))=_
   by_cases d:b=a
   ·rw[aV d,aV d];rfl
   ·rw[aZ d,aZ d];rfl
theorem xB {P:κ->Prop}{l:List (κ×V)}{a:κ}(d:P a)(c: ∀p∈l,P p.1): ∀p∈Hk l a y,P p.1:=by
 unfold Hk;intro p b;split at b
 ·rcases List.mem_or_eq_of_mem_set b with h|rfl
  ·exact c p h
  ·exact d
 ·rcases sP.1 b with h|h
  ·exact c p h
  ·rw[List.mem_singleton.1 h];exact d
omit [DecidableEq κ] in
theorem Ab {enc:κ->V}{l:List (κ×V)}{k:Nat}{a:κ}:(gH enc l).set k (enc a,y)=gH enc (l.set k (a,y)):=by
 unfold gH;rw[List.map_set]
omit [DecidableEq κ] in
theorem Df {enc:κ->V}{l:List (κ×V)}{a:κ}:gH enc l++ [(enc a,y)]=gH enc (l++ [(a,y)]):=by
 unfold gH;rw[List.map_append];rfl
theorem Xu {enc:κ->V}{P:κ->Prop}(g: ∀a b,P a->P b->dJ (enc a) (enc b)=decide (a=b)){s:pW}(f: ∀a,P a->isKey s (enc a)=true){l:List (κ×V)}(d: ∀p∈l,P p.1){a:κ}(c:P a)(y:V)(h:H)(id:Nat):
  Mx (some (.wmap s (gH enc l))) h id s (enc a) y=some (.undef,h.set id (some (.wmap s (gH enc (Hk l a y))))):=by
 simp only[Mx]
 rw[aV ⟨trivial,f a c⟩,sG g c d]
 unfold Hk
 cases tS l a with
 |some e=>simp only[Ab]
 |none=>simp only[Df]
theorem oA {enc:κ->V}{P:κ->Prop}(g: ∀a b,P a->P b->dJ (enc a) (enc b)=decide (a=b)){s:pW}(f: ∀a,P a->isKey s (enc a)=true){l:List (κ×V)}(d: ∀p∈l,P p.1){a:κ}(c:P a)(z:V):
  Cf (some (.wmap s (gH enc l))) s z false (enc a)=some ((Cc l a).getD z):=by
 simp only[Cf]
 rw[aV ⟨trivial,f a c⟩,sG g c d]
 unfold Cc
 cases tS l a<;>rfl
theorem Pg {enc:κ->V}{P:κ->Prop}(q: ∀a b,P a->P b->dJ (enc a) (enc b)=decide (a=b)){s:pW}(c: ∀a,P a->isKey s (enc a)=true){l:List (κ×V)}(i: ∀p∈l,P p.1){a:κ}(f:P a)(z y:V)(h:H)(id:Nat)(o:h.get id=some (.wmap s (gH enc l))):
  ∃(v:V) (n:Nat) (l1:List (κ×V)) (h1:H),La (some (.wmap s (gH enc l))) h id s z (enc a)=some (.tup [v,.int .i64 (n:Int)],h1)/\h1.next=h.next/\(∀k,k≠id->h1.get k=h.get k)/\h1.get id=some (.wmap s (gH enc l1))/\(∀p∈l1,P p.1)/\(∀b,(Cc l1 b).getD z=(Cc l b).getD z)/\
   ∀hh,Sv (some (.wmap s (gH enc l1))) hh id (n:Int) y=some (.undef,hh.set id (some (.wmap s (gH enc (Hk l a y))))):=by
 have g:=sG q f i
 unfold Hk
 cases hx:tS l a with
 |some e=>
  rw[hx] at g;refine⟨e.2,e.1,l,h,?_,rfl,λ_ _=>rfl,o,i,λ_=>rfl,λhh=>?_⟩
  ·simp only[La];rw[aV ⟨trivial,c a f⟩,g]
  ·have j:=Tn hx
   have:(gH enc l)[(e.1:Int).toNat]? =some (enc a,e.2):=by
    rw[Cd];unfold gH;rw[Kt,j];rfl
   simp only[Sv];rw[aV om,this];simp only[Cd,Ab]
 |none=>
  rw[hx] at g;refine⟨z,l.length,l++ [(a,z)],h.set id (some (.wmap s (gH enc (l++ [(a,z)])))),?_,rfl,λk c=>H.aI _ c _,H.aT ..,?_,λb=>?_,λhh=>?_⟩
  ·simp only[La]
   rw[aV ⟨trivial,c a f⟩,g];simp only[Df];rw[show (gH enc l).length=l.length from by unfold gH;rw[iK]]
  ·intro p m
   rcases sP.1 m with h|h
   ·exact i p h
   ·rw[List.mem_singleton.1 h];exact f
  ·have:=yU l a z b
   unfold Hk at this;rw[hx] at this;have this:Cc (l++ [(a,z)]) b=if b=a then some z else Cc l b:=this
   rw[this]
   by_cases d:b=a
   ·rw[aV d,d];unfold Cc;rw[hx];rfl
   ·rw[aZ d]
  ·have:(gH enc (l++ [(a,z)]))[(l.length:Int).toNat]? =some (enc a,z):=by
    rw[Cd];unfold gH;rw[Kt];simp
   simp only[Sv];rw[aV om,this];simp only[Cd,Ab];simp
end
end
end Go.Ay
