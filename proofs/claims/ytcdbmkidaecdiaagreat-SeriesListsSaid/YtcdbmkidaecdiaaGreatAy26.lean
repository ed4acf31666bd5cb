/- Slices as lists. -/
import Derived.Test.YtcdbmkidaecdiaaGreatAy25
namespace Go.Ay
section
variable {l:List Int} {v x u:V} {sz n id off b bytes mid:Nat} {h h' a:H} {ws us:List V} {ro:Bool} {ll:List (List Int)}
def ints (l:List Int):List V:=l.map (V.int .i64)
theorem VS:ints []= []:=rfl
theorem NQ (a:Int)(l:List Int):ints (a::l)= .int .i64 a::ints l:=rfl
theorem aP (l:List Int):(ints l).length=l.length:=iN ..
theorem uW (a b:List Int):ints (a++b)=ints a++ints b:=List.map_append ..
theorem ints_set (l:List Int)(i:Nat)(x:Int):(ints l).set i (.int .i64 x)=ints (l.set i x):=by
 simp only[ints,List.map_set]
theorem UX (l:List Int)(i:Nat):(ints l)[i]? =(l[i]?).map (V.int .i64):=by simp [ints]
theorem Sn {i:Nat}(hi:i<l.length):(ints l)[i]? =some (.int .i64 (l.getD i 0)):=by
 rw[UX,dF hi,UT,dF hi];rfl
theorem Xm: ∀{a b:List Int},ints a=ints b->a=b
 | [], [],_=>rfl
 | [],_::_,h=>by cases h
 |_::_, [],h=>by cases h
 |x::a,y::b,h=>by
  simp only[NQ,List.cons.injEq,V.int.injEq,true_and] at h;rw[h.1,Xm h.2]
theorem Qb (n:Nat)(x:Int):ints (List.replicate n x)=List.replicate n (.int .i64 x):=by simp [ints]
structure Sl (v:V)(sz n id off:Nat):Prop where
 len:uB v=some n
 ixa: ∀(k:IntKind) (i:Int),0<=i->i<n->Gu sz v (.int k i)=some (.ptr id (off+i.toNat*sz))
 one:v.one=true
 cells:v.cells= [v]
theorem Sl.lens (s:Sl v sz n id off):bF v=some (.int .i64 (n:Int)):=by
 unfold bF;rw[s.len];rfl
def SV (h:H)(v:V)(sz:Nat)(ws:List V):Prop:=(v= .aE∨ ∃a,v= .emp a)/\ws= []∨
 ∃id off len cap ro vs,v= .sl id off len cap/\ws.length=len*sz/\id<h.next/\h.get id=some (.cells ro vs)/\off+len*sz<=vs.length/\(vs.drop off).take (len*sz)=ws
theorem SV.aE (h:H)(sz:Nat):SV h .aE sz []:= .inl ⟨.inl rfl,rfl⟩
theorem SV.emp (h:H)(a:Addr)(sz:Nat):SV h (.emp a) sz []:= .inl ⟨.inr ⟨a,rfl⟩,rfl⟩
theorem SV.mono (s:SV h v sz ws)(f:Fr h h'):SV h' v sz ws:=by
 rcases s with s|⟨id,off,len,c,ro,i,g,j,d,m,k,e⟩
 ·exact .inl s
 ·exact .inr ⟨id,off,len,c,ro,i,g,j,jB d f.next,by rw[f.get id d];exact m,k,e⟩
theorem SV.all {vs:List V}{len:Nat}(e:vs.length=len*sz)(d:id<h.next)(f:h.get id=some (.cells ro vs))(c:pF):SV h (.sl id 0 len c) sz vs:=
 .inr ⟨id,0,len,c,ro,vs,rfl,e,d,f,om,by rw[List.drop_zero,←e,List.take_length]⟩
theorem SV.shape (s:SV h v sz ws)(n:Nat)(e:ws.length=n*sz)(p:0<sz): ∃id off,Sl v sz n id off/\(0<n->id<h.next)/\ ∀i,i<ws.length->h.cell id (off+i)=ws[i]? :=by
 rcases s with ⟨m,rfl⟩|⟨id,off,len,o,ro,r,rfl,d,j,q,t,g⟩
 ·have:n=0:=by
   cases n with
   |zero=>rfl
   |succ n=>simp [Nat.succ_mul] at e;omega
  subst this;rcases m with rfl|⟨a,rfl⟩<;>exact⟨0,0,⟨rfl,λk i f d=>om,rfl,rfl⟩,λh=>om,λi hi=>by simp at hi⟩
 ·have c:len=n:=by
   rw[d] at e;exact Nat.eq_of_mul_eq_mul_right p e
  subst c;refine⟨id,off,⟨rfl,λk i f d=>Lu f d,rfl,rfl⟩,λ_=>j,λi hi=>?_⟩;rw[H.aF q,←g,List.getElem?_take_of_lt om,List.getElem?_drop]
theorem SV.slice (s:SV h v sz ws):h.slice sz v=some ws:=by
 rcases s with ⟨rfl|⟨a,rfl⟩,rfl⟩|⟨id,off,len,d,ro,g,rfl,i,j,f,e,c⟩
 ·rfl
 ·rfl
 ·simp only[H.slice,H.row,f,sub]
  rw[bJ e,c]
theorem SV.len (s:SV h v sz ws)(d:ws.length=n*sz)(c:0<sz):uB v=some n:=by
 obtain⟨id,off,s,_⟩:=s.shape n d c;exact s.len
def SI (h:H)(v:V)(l:List Int):Prop:=SV h v 1 (ints l)
theorem SI.aE (h:H):SI h .aE []:=SV.aE h 1
theorem SI.emp (h:H)(a:Addr):SI h (.emp a) []:=SV.emp h a 1
theorem SI.mono (s:SI h v l)(f:Fr h h'):SI h' v l:=SV.mono s f
theorem SI.own (d:id<h.next)(e:h.get id=some (.cells ro (ints l)))(c:pF):SI h (.sl id 0 l.length c) l:=
 SV.all (by rw[aP,uH]) d e c
theorem SI.open (s:SI h v l): ∃id off,Sl v 1 l.length id off/\(0<l.length->id<h.next)/\ ∀i:Nat,i<l.length->h.cell id (off+i)=some (.int .i64 (l.getD i 0)):=by
 obtain⟨id,off,c,d,e⟩:=SV.shape s l.length (by rw[aP,uH]) om;refine⟨id,off,c,d,λi f=>?_⟩;rw[e i (by rw[aP];omega),Sn f]
theorem SI.len (s:SI h v l):uB v=some l.length:=SV.len s (by rw[aP,uH]) om
theorem SI.lens (s:SI h v l):bF v=some (.int .i64 (l.length:Int)):=by unfold bF;rw[s.len];rfl
theorem Fv (f:Fr h h'){F:Nat->V}(c:0<n->id<h.next)(d: ∀i:Nat,i<n->h.cell id (off+i)=some (F i)): ∀i:Nat,i<n->h'.cell id (off+i)=some (F i):=λi e=>by
 rw[f.cell (c om)];exact d i e
def aM {α β:Type}(R:α->β->Prop):List α->List β->Prop
 | [], []=>True
 |a::as,b::bs=>R a b/\aM R as bs
 |_,_=>False
theorem aM.length {α β:Type}{R:α->β->Prop}: ∀{as:List α} {bs:List β},aM R as bs->as.length=bs.length
 | [], [],_=>rfl
 |_::_,_::_,h=>by rw[List.length_cons,List.length_cons,aM.length h.2]
 | [],_::_,h=>h.elim
 |_::_, [],h=>h.elim
theorem aM.mono {α β:Type}{R S:α->β->Prop}(k: ∀a b,R a b->S a b): ∀{as:List α} {bs:List β},aM R as bs->aM S as bs
 | [], [],_=>trivial
 |_::_,_::_,h=>⟨k _ _ h.1,aM.mono k h.2⟩
 | [],_::_,h=>h.elim
 |_::_, [],h=>h.elim
theorem aM.get {α β:Type}{R:α->β->Prop}: ∀{as:List α} {bs:List β},aM R as bs-> ∀i (hi:i<as.length) (hj:i<bs.length),R as[i] bs[i]
 |a::as,b::bs,h,0,_,_=>h.1
 |a::as,b::bs,h,i+1,hi,hj=>aM.get h.2 i (by simpa using hi) (by simpa using hj)
 | [],_,_,i,hi,_=>by simp at hi
 |_::_, [],h,_,_,_=>h.elim
theorem aM.append {α β:Type}{R:α->β->Prop}: ∀{as:List α} {bs:List β} {cs:List α} {ds:List β},aM R as bs->aM R cs ds->aM R (as++cs) (bs++ds)
 | [], [],_,_,_,h=>h
 |_::_,_::_,_,_,h,k=>⟨h.1,aM.append h.2 k⟩
 | [],_::_,_,_,h,_=>h.elim
 |_::_, [],_,_,h,_=>h.elim
theorem aM.kH {α β:Type}{R:α->β->Prop}: ∀{as:List α} {bs:List β},as.length=bs.length->(∀i (hi:i<as.length) (hj:i<bs.length),R as[i] bs[i])->aM R as bs
 | [], [],_,_=>trivial
 |a::as,b::bs,hl,h=>⟨h 0 (by simp) (by simp),aM.kH (by simpa using hl) λi hi hj=>h (i+1) (by simpa using hi) (by simpa using hj)⟩
 | [],_::_,hl,_=>by simp at hl
 |_::_, [],hl,_=>by simp at hl
theorem aM.set {α β:Type}{R:α->β->Prop}: ∀{as:List α} {bs:List β},aM R as bs-> ∀(i:Nat) {a:α} {b:β},R a b->aM R (as.set i a) (bs.set i b)
 | [], [],_,_,_,_,_=>trivial
 |_::_,_::_,h,0,_,_,r=>⟨r,h.2⟩
 |_::_,_::_,h,i+1,_,_,r=>⟨h.1,aM.set h.2 i r⟩
 | [],_::_,h,_,_,_,_=>h.elim
 |_::_, [],h,_,_,_,_=>h.elim
def SR (h:H)(v:V)(ll:List (List Int)):Prop:= ∃ws,SV h v 1 ws/\aM (SI h) ws ll
theorem SR.aE (h:H):SR h .aE []:=⟨[],SV.aE h 1,trivial⟩
theorem SR.mono (s:SR h v ll)(f:Fr h h'):SR h' v ll:=by
 obtain⟨ws,s,a⟩:=s;exact⟨ws,s.mono f,a.mono λ_ _ x=>x.mono f⟩
theorem SR.open (s:SR h v ll): ∃id off ws,Sl v 1 ll.length id off/\(0<ll.length->id<h.next)/\ws.length=ll.length/\(∀i:Nat,i<ll.length->h.cell id (off+i)=some (ws.getD i .undef))/\aM (SI h) ws ll:=by
 obtain⟨ws,s,a⟩:=s;have c:=a.length;obtain⟨id,off,d,e,f⟩:=s.shape ll.length (by rw[c,uH]) om;refine⟨id,off,ws,d,e,c,λi g=>?_,a⟩;rw[f i om,UT,dF om];rfl
theorem SR.len (s:SR h v ll):uB v=some ll.length:=by
 obtain⟨id,off,ws,c,_⟩:=s.open;exact c.len
theorem SR.lens (s:SR h v ll):bF v=some (.int .i64 (ll.length:Int)):=by unfold bF;rw[s.len];rfl
theorem Vy (a:aM (SI h) ws ll){i:Nat}(hi:i<ll.length):SI h (ws.getD i .undef) (ll.getD i []):=by
 have c:=a.length;rw[UT,dF om,UT,dF hi];exact a.get i om hi
def cQ (h:H)(v:V)(sz:Nat)(ws:List V)(b:Nat):Prop:=v= .aE/\ws= []∨
 ∃id n cap rest,v= .sl id 0 n cap/\ws.length=n*sz/\(cap= .un sz∨cap= .kn n/\rest= [])/\b<=id/\id<h.next/\h.get id=some (.cells false (ws++rest))
theorem cQ.aE (h:H)(sz b:Nat):cQ h .aE sz [] b:= .inl ⟨rfl,rfl⟩
theorem cQ.new (h:H)(sz n b:Nat)(ws:List V)(d:ws.length=n*sz)(c:b<=h.next):cQ (h.new (.cells false ws)) (.sl h.next 0 n (.kn n)) sz ws b:=
 .inr ⟨h.next,n,_, [],rfl,d,.inr ⟨rfl,rfl⟩,c,by rw[H.aU];omega,by rw[H.aL,tD]⟩
theorem cQ.sv (o:cQ h v sz ws b):SV h v sz ws:=by
 rcases o with o|⟨id,n,d,c,rfl,e,_,_,f,g⟩
 ·exact .inl ⟨.inl o.1,o.2⟩
 ·exact .inr ⟨id,0,n,d,false,ws++c,rfl,e,f,g,by rw[iA];omega,by rw[List.drop_zero,←e,List.take_left]⟩
theorem cQ.le {c:Nat}(o:cQ h v sz ws b)(f:c<=b):cQ h v sz ws c:=by
 rcases o with o|⟨id,n,e,d,i,g,j,k,m⟩
 ·exact .inl o
 ·exact .inr ⟨id,n,e,d,i,g,j,lX f k,m⟩
def cZ (v:V)(k:Nat):Prop:= ∀id off n c,v= .sl id off n c->k≠id
theorem cZ.aE (k:Nat):cZ .aE k:=λ_ _ _ _ h=>by cases h
theorem cZ.sl {k:Nat}{c:pF}(h:k≠id):cZ (.sl id off n c) k:=λ_ _ _ _ e=>by cases e;exact h
theorem cQ.mono (o:cQ h v sz ws b)(p:h.next<=h'.next)(j: ∀id off n c,v= .sl id off n c->b<=id->id<h.next->h'.get id=h.get id):cQ h' v sz ws b:=by
 rcases o with o|⟨id,n,d,e,rfl,i,k,f,g,m⟩
 ·exact .inl o
 ·exact .inr ⟨id,n,d,e,rfl,i,k,f,jB g p,by rw[j id 0 n d rfl f g];exact m⟩
theorem cQ.fr {h h':H}{v:V}{sz:Nat}{ws:List V}{b:Nat}(o:cQ h v sz ws b)(f:Fr h h'):cQ h' v sz ws b:=
 o.mono f.next λid _ _ _ _ _ c=>f.get id c
structure agA (h:H)(x:V)(sz n m:Nat)(ws us:List V)(b:Nat)(v:V)(h':H):Prop where
 own:cQ h' v sz (ws++us) b
 next:h.next<=h'.next
 get: ∀k,k<h.next->cZ x k->h'.get k=h.get k
 fr: ∀a,Fr a h->a.next<=b->Fr a h'
 cF:m=0/\v=x∨ ∃id,v= .sl id 0 (n+m) (.un sz)/\b<=id/\id<h'.next/\h'.get id=some (.cells false (ws++us))
theorem cQ.yA {h:H}{x:V}{sz bytes b:Nat}{ws us:List V}(o:cQ h x sz ws b)(r:b<=h.next){n m:Nat}(q:ws.length=n*sz)(F:us.length=m*sz)(A:0<sz)(i:(2*(n+m)+1000)*bytes<=2^48/\n+m<2^62):
  ∃v h',yA h sz bytes x m us=some (v,h')/\agA h x sz n m ws us b v h':=by
 have z:=o.sv
 have e:=z.len q A
 have p:=z.slice
 unfold Ay.yA
 simp only[e,p]
 by_cases j:m=0
 ·subst j
  have G:us= []:=WE om
  subst G
  rw[bJ rfl]
  exact⟨x,h,rfl,by rw[tD];exact o,eH _,λ_ _ _=>rfl,λ_ f _=>f,.inl ⟨rfl,rfl⟩⟩
 ·rw[bL j,bJ i]
  have c: ∀g:H,g.next=h.next->(∀k,k<h.next->cZ x k->g.get k=h.get k)->(∀a,Fr a h->a.next<=b->Fr a g)-> ∃v h',some (V.sl h.next 0 (n+m) (.un sz),g.new (.cells false (ws++us)))=some (v,h')/\agA h x sz n m ws us b v h':=by
   intro g y O B;refine⟨_,_,rfl,.inr ⟨h.next,n+m,.un sz, [],rfl,by rw[iA,q,F,Nat.add_mul],.inl rfl,r,by rw[H.aU];omega,by rw[←y,H.aL,tD]⟩,by rw[H.aU];omega,λk s d=>?_,λa f d=>(B a f d).new _,.inr ⟨_,rfl,r,by rw[H.aU];omega,by rw[←y,H.aL]⟩⟩;rw[H.bD g om];exact O k s d
  rcases o with ⟨rfl,rfl⟩|⟨id,w,N,t,rfl,L,P,K,Q,J⟩
  ·exact c h rfl (λ_ _ _=>rfl) (λ_ f _=>f)
  ·have:w=n:=Nat.eq_of_mul_eq_mul_right A (L.symm.trans q)
   subst this
   rcases P with rfl|⟨rfl,rfl⟩
   ·simp only[J,if_true]
    exact c (h.set id none) rfl (λk s d=>H.aH h (d id 0 w _ rfl) none) (λa f d=>f.set (lX d K) none)
   ·simp only
    rw[bL om]
    exact c h rfl (λ_ _ _=>rfl) (λ_ f _=>f)
theorem cQ.app {y:V}(o:cQ h x sz ws b)(g:b<=h.next)(e:SV h y sz us){m:Nat}(j:ws.length=n*sz)(f:us.length=m*sz)(d:0<sz)(c:(2*(n+m)+1000)*bytes<=2^48/\n+m<2^62):
  ∃v h',yE h sz bytes x y=some (v,h')/\agA h x sz n m ws us b v h':=by
 have i:yE h sz bytes x y=Ay.yA h sz bytes x m us:=by
  simp only[yE,e.len f d,e.slice]
 rw[i]
 exact o.yA g j f d c
def aiU (h:H)(sz bytes:Nat)(zero:List V)(x n:V):Option (V×H):=match n with
  | .int .i64 n=>if 0<=n/\n*bytes<=2^48/\n<2^62/\zero.length=sz then yA h sz bytes x n.toNat (dC zero (n.toNat*sz)) else none
  |_=>none
theorem acE (ρ:X->V)(h:H)(sz bytes:Nat)(zero:List V)(x n:X):cK ρ h (.apz sz bytes zero x n)=aiU h sz bytes zero (ρ x) (ρ n):=by
 simp only[cK,aiU];cases ρ n<;>rfl
def BL (h:H)(mid x:Nat):Prop:= ∀es n v,h.get mid=some (.map es)->zY .i64 n es=some v-> ∀off len c,v≠ .sl x off len c
structure Xi (mid:Nat)(h h':H):Prop where
 next:h.next<=h'.next
 get: ∀id,id<h.next->id≠mid->h'.get id=h.get id
 av:mid<h.next-> ∀x,x<h.next->BL h mid x->BL h' mid x
theorem Xi.refl (mid:Nat)(h:H):Xi mid h h:=⟨eH _,λ_ _ _=>rfl,λ_ _ _ h=>h⟩
theorem Xi.trans {b c:H}(x:Xi mid a b)(y:Xi mid b c):Xi mid a c:=
 ⟨lX x.next y.next,λid d e=>(y.get id (jB d x.next) e).trans (x.get id d e),λg k f h=>y.av (jB g x.next) k (jB f x.next) (x.av g k f h)⟩
theorem BL.fr {b:H}{x:Nat}(h:BL a mid x)(f:b.get mid=a.get mid):BL b mid x:=λe n v c d=>h e n v (f▸c) d
theorem Fr.toM {b:H}(x:Fr a b)(mid:Nat):Xi mid a b:=⟨x.next,λid c _=>x.get id c,λd _ _ h=>h.fr (x.get mid d)⟩
theorem Xi.bH {b:H}(x:Xi mid a b)(f:b.next<=n):Xi mid a (H.mk b.tr n):=⟨lX x.next f,λk c d=>(H.qB b n k).trans (x.get k c d),λe k c h=>(x.av e k c h).fr (H.qB b n mid)⟩
theorem Xi.new {b:H}(x:Xi mid a b)(o:Ob):Xi mid a (b.new o):=x.trans (((Fr.refl b).new o).toM mid)
theorem Xi.set {b:H}(x:Xi mid a b)(f:a.next<=id)(o:Option Ob):Xi mid a (b.set id o):=
 ⟨x.next,λk c d=>(H.aH b om o).trans (x.get k c d),λe k c h=>(x.av e k c h).fr (H.aH b om o)⟩
theorem Xi.cell {b:H}(x:Xi mid a b)(c:id<a.next)(d:id≠mid)(off:Nat):b.cell id off=a.cell id off:=by unfold H.cell;rw[x.get id c d]
def agM (o:Option Ob)(zero:V)(ok:Bool)(kk:IntKind)(n:Int):Option V:=match o with
 |some (.map es)=>if sZ kk es then
   match zY kk n es with
   |some v=>some (if ok then .tup [v,.bool true] else v)
   |none=>some (if ok then .tup [zero,.bool false] else zero)
  else none
 |_=>none
def afQ (h:H)(zero:V)(ok:Bool)(x k:V):Option V:=match x,k with
 | .mp id,.int kk n=>agM (h.get id) zero ok kk n
 |_,_=>none
theorem adO (h:H)(zero:V)(ok:Bool)(id:Nat)(c:IntKind)(n:Int):afQ h zero ok (.mp id) (.int c n)=agM (h.get id) zero ok c n:=rfl
theorem aeD (ρ:X->V)(h:H)(zero:V)(ok:Bool)(x k:X):cK ρ h (.lkp zero ok x k)=(afQ h zero ok (ρ x) (ρ k)).map (·,h):=by
 simp only[cK,afQ];cases ρ x<;>try rfl
 cases ρ k<;>try rfl
 simp only[agM];rename_i id d n
 cases h.get id with
 |none=>rfl
 |some o=>cases o with
  |map es=>
   simp only
   by_cases c:sZ d es=true
   ·rw[bJ c,bJ c]
    cases zY d n es<;>rfl
   ·rw[bL c,bL c];rfl
  |_=>rfl
def PM (o:Option Ob)(h:H)(id:Nat)(kk:IntKind)(n:Int)(y:V):Option H:=match o with
 |some (.map es)=>if sZ kk es then some (h.set id (some (.map (Jr kk n y es)))) else none
 |_=>none
def PA (h:H)(x k y:V):Option H:=match x,k with
 | .mp id,.int kk n=>PM (h.get id) h id kk n y
 |_,_=>none
theorem XR (h:H)(id:Nat)(c:IntKind)(n:Int)(y:V):PA h (.mp id) (.int c n) y=PM (h.get id) h id c n y:=rfl
theorem QB (ρ:X->V)(h:H)(x k y:X):cK ρ h (.mset x k y)=(PA h (ρ x) (ρ k) (ρ y)).map λh'=>(V.undef,h'):=by
 simp only[cK,PA];cases ρ x<;>try rfl
 cases ρ k<;>try rfl
 simp only[PM];rename_i id d n
 cases h.get id with
 |none=>rfl
 |some o=>cases o with
  |map es=>
   simp only
   by_cases c:sZ d es=true
   ·rw[bJ c,bJ c];rfl
   ·rw[bL c,bL c];rfl
  |_=>rfl
theorem tC {zero:List V}{j k:IntKind}{l c:Int}(e:0<=l)(d:l<=c)(h2:c*bytes<=281474976710656)(h3:c<4611686018427387904):
  Iv h sz bytes zero (.int j l) (.int k c)=some (.sl h.next 0 l.toNat (.kn c.toNat),h.new (.cells false (dC zero (c.toNat*sz)))):=by
 simp only[Iv];rw[bJ ⟨e,d,h2,h3⟩]
theorem Iy (n:Nat):dC [.int .i64 0] n=ints (List.replicate n 0):=by
 rw[Qb];unfold dC;apply List.ext_getElem
 ·simp
 ·intro i c d
  simp [Nat.mod_one]
theorem YB (h:H)(sz:Nat)(zero:List V):mH h sz zero 0 []=some (.sl h.next 0 0 (.kn 0),h.new (.cells false [])):=by
 simp [mH,gZ,dC]
theorem SV.cF (s:SV h v sz ws):v.cells= [v]/\v.one=true/\ ∀k n,v≠ .int k n:=by
 rcases s with ⟨rfl|⟨a,rfl⟩,_⟩|⟨id,off,len,c,ro,d,rfl,_⟩
 ·exact⟨rfl,rfl,λk n h=>by cases h⟩
 ·exact⟨rfl,rfl,λk n h=>by cases h⟩
 ·exact⟨rfl,rfl,λk n h=>by cases h⟩
theorem SV.st1 (s:SV h v sz ws)(h':H)(id off:Nat):Xh h' 1 (.ptr id off) v=dR (h'.get id) h' id off [v]:=kL s.cF.1 s.cF.2.1 h' id off
theorem SI.other (s:SI h v l)(j:l≠ []){P:Nat}(q:h.get P=some (.cells ro ws))(r: ∀(i:Nat) (w:V),ws[i]? =some w-> ∀k n,w≠ .int k n)(o:Option Ob):SI (h.set P o) v l:=by
 rcases s with ⟨_,p⟩|⟨id,off,len,d,c,t,m,y,A,f,z,g⟩
 ·exact absurd (Xm (p.trans VS.symm)) j
 ·by_cases e:id=P
  ·subst e
   rw[q] at f;cases f
   cases l with
   |nil=>exact absurd rfl j
   |cons a l=>
    have:((ws.drop off).take (len*1))[0]? =some (.int .i64 a):=by rw[g];rfl
    rw[List.getElem?_take] at this;split at this
    ·rw[List.getElem?_drop] at this
     exact absurd rfl (r _ _ this _ _)
    ·cases this
  ·exact .inr ⟨id,off,len,d,c,t,m,y,A,by rw[H.aH h e];exact f,z,g⟩
def Dis (v u:V):Prop:= ∀i o n c,v= .sl i o n c-> ∀i' o' n' c',u= .sl i' o' n' c'->i≠i'
theorem cQ.IF (x:cQ h v sz ws b)(y:cQ h' u sz us h.next):Dis v u:=by
 intro i o n c e s B z w d;rcases x with ⟨j,_⟩|⟨id,k,r,p,j,_,_,_,A,_⟩
 ·rw[j] at e;cases e
 ·rw[j] at e;cases e
  rcases y with ⟨g,_⟩|⟨q,t,m,f,g,_,_,F,_⟩
  ·rw[g] at d;cases d
  ·rw[g] at d;cases d
   omega
theorem cQ.set {P:Nat}(x:cQ h v sz ws b)(d:P<b)(o:Option Ob):cQ (h.set P o) v sz ws b:=
 x.mono (eH _) λid _ _ _ _ c _=>H.aH h om o
theorem QN {z1 z2:V}(e:v.cells= [v])(c:v.one=true)(g:u.cells= [u])(d:u.one=true):rK [z1,z2] [(0,1,v),(1,1,u)]=some (.agg [v,u]):=by
 have i:putAt [z1,z2] 0 [v]=some [v,z2]:=by simp [putAt]
 have f:putAt [v,z2] 1 [u]=some [v,u]:=by simp [putAt]
 simp only[rK,gZ,e,g,List.length_singleton,List.all_cons,List.all_nil,c,d,Bool.and_self,and_self,if_true,i,f,Option.map_some]
theorem VD (z:List V):rK z []=some (.agg z):=rfl
theorem vW (h:H)(c:v.one=true)(d:u.one=true):En h (.agg [v,u])=some (.ptr h.next 0,h.new (.cells false [v,u])):=tJ h _ (by simp [c,d])
theorem Hc (h:H)(id off:Nat)(c:v.one=true)(d:u.one=true):Xh h 2 (.ptr id off) (.agg [v,u])=dR (h.get id) h id off [v,u]:=By h id off 2 _ rfl (by simp [c,d])
theorem VF {y:V}(h:H)(id:Nat):dR (some (.cells false [x,y])) h id 0 [v,u]=some (h.set id (some (.cells false [v,u]))):=by
 simp [dR,putAt]
def okE (h:H)(j:I)(v:V):Bool:=match cK (xv [] []) h j with|some (u,_)=>dB u v|none=>false
theorem CX (cks:List Nat)(k:Nat)(j:I)(v:V)(c:Log)(h:H):rG cks ((k,j,v)::c) h=((!cks.contains k||okE h j v)&&rG cks c h):=rfl
theorem Yq (cks:List Nat)(h:H):rG cks [] h=true:=rfl
def WU (o:Option V)(v:V):Bool:=match o with|some u=>dB u v|none=>false
theorem YA (u v:V):WU (some u) v=dB u v:=rfl
theorem adC (h:H)(x v:V):okE h (.ld false 1 (.c x)) v=WU (Oi h x) v:=by
 unfold okE;rw[Xc,afG];cases Oi h x<;>rfl
theorem acR (h:H)(n:Nat)(x v:V):okE h (.ld true n (.c x)) v=WU (CD h n x) v:=by
 unfold okE;rw[HX,afG];cases CD h n x<;>rfl
theorem adH (k:IntKind)(a:Int):dB (.int k a) (.int k a)=true:=by simp [dB]
theorem WQ (a:Bool):dB (.bool a) (.bool a)=true:=by simp [dB]
theorem ZF (a b:Nat):dB (.ptr a b) (.ptr a b)=true:=by simp [dB]
theorem adN (a b:List V):dB (.agg a) (.agg b)=tI a b:=by simp [dB]
theorem QZ:tI [] []=true:=by simp [tI]
theorem JT (a b:V)(c d:List V):tI (a::c) (b::d)=(dB a b&&tI c d):=by simp [tI]
theorem SV.dB {h:H}{v:V}{sz:Nat}{ws:List V}(s:SV h v sz ws):dB v v=true:=by
 rcases s with ⟨rfl|⟨a,rfl⟩,_⟩|⟨id,off,len,c,ro,d,rfl,_⟩<;>simp [Ay.dB]
theorem adB (i:Nat)(d:D)(g:Option (X×Bool))(j:I)(al:Bool)(cks:List Nat)(c:List V)(v:V)(e:Log):Lh ⟨i,⟨d,g,.op j⟩,al,cks⟩ c v e=if j.sP then (i,j.close (xv c []),v)::e else e:=rfl
theorem MG (i:Nat)(d:D)(g:Option (X×Bool))(f:Nat)(xs:List X)(al:Bool)(cks:List Nat)(c:List V)(v:V)(e:Log):Lh ⟨i,⟨d,g,.call f xs⟩,al,cks⟩ c v e=e:=rfl
theorem CK (i:Nat)(d:D)(g:Option (X×Bool))(f:X)(xs:List X)(al:Bool)(cks:List Nat)(c:List V)(v:V)(e:Log):Lh ⟨i,⟨d,g,.callv f xs⟩,al,cks⟩ c v e=e:=rfl
theorem FC (i:Nat)(d:D)(g:Option (X×Bool))(f:Nat)(xs:List X)(al:Bool)(cks:List Nat)(c:List V)(v:V)(e:Log):Lh ⟨i,⟨d,g,.callp f xs⟩,al,cks⟩ c v e=e:=rfl
attribute [go_sem] CX Yq YA adC acR adH WQ ZF adN QZ JT adB MG CK FC I.sP I.close List.contains_cons List.contains_nil Nat.reduceBEq Bool.or_false Bool.false_or Bool.or_true Bool.true_or Bool.and_true Bool.true_and
def aeN (o:Option (V×H))(m:Nat):Option (V×H):=match o with|some (v,h')=>some (v,H.mk h'.tr m)|none=>none
theorem YR (c:List V)(h:H)(n:Nat)(i:I):Pb c h n (.op i)=aeN (cK (xv c []) (H.mk h.tr n) i) h.next:=rfl
theorem FG (v:V)(h':H)(m:Nat):aeN (some (v,h')) m=some (v,H.mk h'.tr m):=rfl
attribute [go_sem] YR FG
def aiP (l:List V):Nat->V:=λi=>l.getD i .undef
theorem aB {L:List V}{F:(Nat->V)->List V}(h:L=F (aiP L)): ∃g,L=F g:=⟨aiP L,h⟩
theorem Sk {l:List Int}{off:Nat}(c:off<l.length)(h:H)(id:Nat)(x:Int):dR (some (.cells false (ints l))) h id off [.int .i64 x]=some (h.set id (some (.cells false (ints (l.set off x))))):=by
 rw[bP (by rw[aP];exact c),ints_set]
attribute [go_sem] OM Int.toNat_zero Int.toNat_one Nat.add_zero Nat.zero_add
attribute [go_sem] VD VF List.getElem?_cons_zero List.getElem?_cons_succ List.getElem?_nil
attribute [go_sem] acE aeD QB adO XR
attribute [go_sem] Sk aP ints_set tC Iy YB uH Nat.mul_zero
theorem Qn:(∀{a:Type} (l:List a) (i:Nat) (x:a),(l.set i x).length=l.length)/\(∀{a:Type} (n:Nat) (x:a),(List.replicate n x).length=n)/\(∀{a:Type} (l m:List a),(l++m).length=l.length+m.length)/\(∀{a:Type} (i:Nat) (l:List a),(l.take i).length=min i l.length)/\(∀{a:Type} (i:Nat) (l:List a),(l.drop i).length=l.length-i)/\(∀{a:Type} (x:a) (l:List a),(x::l).length=l.length+1)/\(∀{a:Type},([]:List a).length=0)/\(∀{a b:Type} (f:a->b) (l:List a),(l.map f).length=l.length)/\(∀n:Nat,(List.range n).length=n)/\(∀l:List Int,(ints l).length=l.length):=
 ⟨λ_ _ _=>List.length_set ..,λ_ _=>List.length_replicate ..,λ_ _=>iA ..,λ_ _=>Cq ..,λ_ _=>BM ..,λ_ _=>rfl,rfl,λ_ _=>iN ..,λ_=>YI ..,λ_=>aP _⟩
end
end Go.Ay
