/- Slices as lists. -/
import Derived.Test.YtapfcpkecmmagaaGreatAy25
namespace Go.Ay
section
variable {l:List Int} {v x u:V} {sz n id off b bytes mid:Nat} {h h' a:H} {ws us:List V} {ro:Bool} {ll:List (List Int)} {k:IntKind}
def ints (l:List Int):List V:=l.map (V.int .i64)
theorem Ul:ints []= []:=rfl
theorem Rh (a:Int)(l:List Int):ints (a::l)= .int .i64 a::ints l:=rfl
theorem aL (l:List Int):(ints l).length=l.length:=iR ..
theorem iN (a b:List Int):ints (a++b)=ints a++ints b:=List.map_append ..
theorem ints_set (l:List Int)(i:Nat)(x:Int):(ints l).set i (.int .i64 x)=ints (l.set i x):=by
 simp only[ints,List.map_set]
theorem Xl (l:List Int)(i:Nat):(ints l)[i]? =(l[i]?).map (V.int .i64):=by simp [ints]
theorem wH {i:Nat}(hi:i<l.length):(ints l)[i]? =some (.int .i64 (l.getD i 0)):=by
 rw[Xl,eV hi,zB,eV hi];rfl
theorem Kx: ∀{a b:List Int},ints a=ints b->a=b
 | [], [],_=>rfl
 | [],_::_,h=>by cases h
 |_::_, [],h=>by cases h
 |x::a,y::b,h=>by
  simp only[Rh,List.cons.injEq,V.int.injEq,true_and] at h;rw[h.1,Kx h.2]
theorem zV (n:Nat)(x:Int):ints (List.replicate n x)=List.replicate n (.int .i64 x):=by simp [ints]
structure Sl (v:V)(sz n id off:Nat):Prop where
 len:mG v=some n
 ixa: ∀(k:IntKind) (i:Int),0<=i->i<n->Cu sz v (.int k i)=some (.ptr id (off+i.toNat*sz))
 one:v.one=true
 cells:v.cells= [v]
theorem Sl.lens (s:Sl v sz n id off):dA v=some (.int .i64 (n:Int)):=by
 unfold dA;rw[s.len];rfl
def SV (h:H)(v:V)(sz:Nat)(ws:List V):Prop:=(v= .aD∨ ∃a,v= .emp a)/\ws= []∨
 ∃id off len cap ro vs,v= .sl id off len cap/\ws.length=len*sz/\id<h.next/\h.get id=some (.cells ro vs)/\off+len*sz<=vs.length/\(vs.drop off).take (len*sz)=ws
theorem SV.aD (h:H)(sz:Nat):SV h .aD sz []:= .inl ⟨.inl rfl,rfl⟩
theorem SV.emp (h:H)(a:Addr)(sz:Nat):SV h (.emp a) sz []:= .inl ⟨.inr ⟨a,rfl⟩,rfl⟩
theorem SV.mono (s:SV h v sz ws)(f:Fr h h'):SV h' v sz ws:=by
 rcases s with s|⟨id,off,len,c,ro,m,g,o,d,j,e,i⟩
 ·exact .inl s
 ·exact .inr ⟨id,off,len,c,ro,m,g,o,iP d f.next,by rw[f.get id d];exact j,e,i⟩
theorem SV.all {vs:List V}{len:Nat}(e:vs.length=len*sz)(d:id<h.next)(f:h.get id=some (.cells ro vs))(c:mF):SV h (.sl id 0 len c) sz vs:=
 .inr ⟨id,0,len,c,ro,vs,rfl,e,d,f,om,by rw[List.drop_zero,←e,List.take_length]⟩
theorem SV.shape (s:SV h v sz ws)(n:Nat)(e:ws.length=n*sz)(m:0<sz): ∃id off,Sl v sz n id off/\(0<n->id<h.next)/\ ∀i,i<ws.length->h.cell id (off+i)=ws[i]? :=by
 rcases s with ⟨q,rfl⟩|⟨id,off,len,o,ro,o,rfl,d,g,p,o,j⟩
 ·have:n=0:=by
   cases n with
   |zero=>rfl
   |succ n=>simp [Nat.succ_mul] at e;omega
  subst this;rcases q with rfl|⟨a,rfl⟩<;>exact⟨0,0,⟨rfl,λk i f d=>om,rfl,rfl⟩,λh=>om,λi hi=>by simp at hi⟩
 ·have c:len=n:=by
   rw[d] at e;exact Nat.eq_of_mul_eq_mul_right m e
  subst c;refine⟨id,off,⟨rfl,λk i f d=>sT f d,rfl,rfl⟩,λ_=>g,λi hi=>?_⟩;rw[H.aG p,←j,List.getElem?_take_of_lt om,List.getElem?_drop]
theorem SV.slice (s:SV h v sz ws):h.slice sz v=some ws:=by
 rcases s with ⟨rfl|⟨a,rfl⟩,rfl⟩|⟨id,off,len,e,ro,e,rfl,e,e,f,c,d⟩
 ·rfl
 ·rfl
 ·simp only[H.slice,H.row,f,sub]
  rw[aV c,d]
theorem SV.len (s:SV h v sz ws)(d:ws.length=n*sz)(c:0<sz):mG v=some n:=by
 obtain⟨id,off,s,_⟩:=s.shape n d c;exact s.len
def SI (h:H)(v:V)(l:List Int):Prop:=SV h v 1 (ints l)
theorem SI.aD (h:H):SI h .aD []:=SV.aD h 1
theorem SI.emp (h:H)(a:Addr):SI h (.emp a) []:=SV.emp h a 1
theorem SI.mono (s:SI h v l)(f:Fr h h'):SI h' v l:=SV.mono s f
theorem SI.own (d:id<h.next)(e:h.get id=some (.cells ro (ints l)))(c:mF):SI h (.sl id 0 l.length c) l:=
 SV.all (by rw[aL,kF]) d e c
theorem SI.open (s:SI h v l): ∃id off,Sl v 1 l.length id off/\(0<l.length->id<h.next)/\ ∀i:Nat,i<l.length->h.cell id (off+i)=some (.int .i64 (l.getD i 0)):=by
 obtain⟨id,off,d,c,e⟩:=SV.shape s l.length (by rw[aL,kF]) om;refine⟨id,off,d,c,λi c=>?_⟩;rw[e i (by rw[aL];omega),wH c]
theorem SI.len (s:SI h v l):mG v=some l.length:=SV.len s (by rw[aL,kF]) om
theorem SI.lens (s:SI h v l):dA v=some (.int .i64 (l.length:Int)):=by unfold dA;rw[s.len];rfl
theorem vG (f:Fr h h'){F:Nat->V}(c:0<n->id<h.next)(e: ∀i:Nat,i<n->h.cell id (off+i)=some (F i)): ∀i:Nat,i<n->h'.cell id (off+i)=some (F i):=λi d=>by
 rw[f.cell (c om)];exact e i d
def All2 {α β:Type}(R:α->β->Prop):List α->List β->Prop
 | [], []=>True
 |a::as,b::bs=>R a b/\All2 R as bs
 |_,_=>False
theorem All2.length {α β:Type}{R:α->β->Prop}: ∀{as:List α} {bs:List β},All2 R as bs->as.length=bs.length
 | [], [],_=>rfl
 |_::_,_::_,h=>by rw[List.length_cons,List.length_cons,All2.length h.2]
 | [],_::_,h=>h.elim
 |_::_, [],h=>h.elim
theorem All2.mono {α β:Type}{R S:α->β->Prop}(k: ∀a b,R a b->S a b): ∀{as:List α} {bs:List β},All2 R as bs->All2 S as bs
 | [], [],_=>trivial
 |_::_,_::_,h=>⟨k _ _ h.1,All2.mono k h.2⟩
 | [],_::_,h=>h.elim
 |_::_, [],h=>h.elim
theorem All2.get {α β:Type}{R:α->β->Prop}: ∀{as:List α} {bs:List β},All2 R as bs-> ∀i (hi:i<as.length) (hj:i<bs.length),R as[i] bs[i]
 |a::as,b::bs,h,0,_,_=>h.1
 |a::as,b::bs,h,i+1,hi,hj=>All2.get h.2 i (by simpa using hi) (by simpa using hj)
 | [],_,_,i,hi,_=>by simp at hi
 |_::_, [],h,_,_,_=>h.elim
theorem All2.append {α β:Type}{R:α->β->Prop}: ∀{as:List α} {bs:List β} {cs:List α} {ds:List β},All2 R as bs->All2 R cs ds->All2 R (as++cs) (bs++ds)
 | [], [],_,_,_,h=>h
 |_::_,_::_,_,_,h,k=>⟨h.1,All2.append h.2 k⟩
 | [],_::_,_,_,h,_=>h.elim
 |_::_, [],_,_,h,_=>h.elim
theorem All2.iC {α β:Type}{R:α->β->Prop}: ∀{as:List α} {bs:List β},as.length=bs.length->(∀i (hi:i<as.length) (hj:i<bs.length),R as[i] bs[i])->All2 R as bs
 | [], [],_,_=>trivial
 |a::as,b::bs,hl,h=>⟨h 0 (by simp) (by simp),All2.iC (by simpa using hl) λi hi hj=>h (i+1) (by simpa using hi) (by simpa using hj)⟩
 | [],_::_,hl,_=>by simp at hl
 |_::_, [],hl,_=>by simp at hl
theorem All2.set {α β:Type}{R:α->β->Prop}: ∀{as:List α} {bs:List β},All2 R as bs-> ∀(i:Nat) {a:α} {b:β},R a b->All2 R (as.set i a) (bs.set i b)
 | [], [],_,_,_,_,_=>trivial
 |_::_,_::_,h,0,_,_,r=>⟨r,h.2⟩
 |_::_,_::_,h,i+1,_,_,r=>⟨h.1,All2.set h.2 i r⟩
 | [],_::_,h,_,_,_,_=>h.elim
 |_::_, [],h,_,_,_,_=>h.elim
def SR (h:H)(v:V)(ll:List (List Int)):Prop:= ∃ws,SV h v 1 ws/\All2 (SI h) ws ll
theorem SR.aD (h:H):SR h .aD []:=⟨[],SV.aD h 1,trivial⟩
theorem SR.mono (s:SR h v ll)(f:Fr h h'):SR h' v ll:=by
 obtain⟨ws,s,a⟩:=s;exact⟨ws,s.mono f,a.mono λ_ _ x=>x.mono f⟩
theorem SR.open (s:SR h v ll): ∃id off ws,Sl v 1 ll.length id off/\(0<ll.length->id<h.next)/\ws.length=ll.length/\(∀i:Nat,i<ll.length->h.cell id (off+i)=some (ws.getD i .undef))/\All2 (SI h) ws ll:=by
 obtain⟨ws,s,a⟩:=s;have c:=a.length;obtain⟨id,off,d,f,e⟩:=s.shape ll.length (by rw[c,kF]) om;refine⟨id,off,ws,d,f,c,λi c=>?_,a⟩;rw[e i om,zB,eV om];rfl
theorem SR.len (s:SR h v ll):mG v=some ll.length:=by
 obtain⟨id,off,ws,c,_⟩:=s.open;exact c.len
theorem SR.lens (s:SR h v ll):dA v=some (.int .i64 (ll.length:Int)):=by unfold dA;rw[s.len];rfl
theorem Ge (a:All2 (SI h) ws ll){i:Nat}(hi:i<ll.length):SI h (ws.getD i .undef) (ll.getD i []):=by
 have c:=a.length;rw[zB,eV om,zB,eV hi];exact a.get i om hi
def Own (h:H)(v:V)(sz:Nat)(ws:List V)(b:Nat):Prop:=v= .aD/\ws= []∨
 ∃id n cap rest,v= .sl id 0 n cap/\ws.length=n*sz/\(cap= .un sz∨cap= .kn n/\rest= [])/\b<=id/\id<h.next/\h.get id=some (.cells false (ws++rest))
theorem Own.aD (h:H)(sz b:Nat):Own h .aD sz [] b:= .inl ⟨rfl,rfl⟩
theorem Own.new (h:H)(sz n b:Nat)(ws:List V)(d:ws.length=n*sz)(c:b<=h.next):Own (h.new (.cells false ws)) (.sl h.next 0 n (.kn n)) sz ws b:=
 .inr ⟨h.next,n,_, [],rfl,d,.inr ⟨rfl,rfl⟩,c,by rw[H.aX];omega,by rw[H.aN,qA]⟩
theorem Own.sv (o:Own h v sz ws b):SV h v sz ws:=by
 rcases o with o|⟨id,n,d,c,rfl,e,_,_,g,f⟩
 ·exact .inl ⟨.inl o.1,o.2⟩
 ·exact .inr ⟨id,0,n,d,false,ws++c,rfl,e,g,f,by rw[iZ];omega,by rw[List.drop_zero,←e,List.take_left]⟩
theorem Own.le {c:Nat}(o:Own h v sz ws b)(f:c<=b):Own h v sz ws c:=by
 rcases o with o|⟨id,n,e,d,j,g,p,i,m⟩
 ·exact .inl o
 ·exact .inr ⟨id,n,e,d,j,g,p,jK f i,m⟩
def dH (v:V)(k:Nat):Prop:= ∀id off n c,v= .sl id off n c->k≠id
theorem dH.aD (k:Nat):dH .aD k:=λ_ _ _ _ h=>by cases h
theorem dH.sl {k:Nat}{c:mF}(h:k≠id):dH (.sl id off n c) k:=λ_ _ _ _ e=>by cases e;exact h
theorem Own.mono (o:Own h v sz ws b)(p:h.next<=h'.next)(j: ∀id off n c,v= .sl id off n c->b<=id->id<h.next->h'.get id=h.get id):Own h' v sz ws b:=by
 rcases o with o|⟨id,n,e,d,rfl,m,q,f,g,i⟩
 ·exact .inl o
 ·exact .inr ⟨id,n,e,d,rfl,m,q,f,iP g p,by rw[j id 0 n e rfl f g];exact i⟩
theorem Own.fr {h h':H}{v:V}{sz:Nat}{ws:List V}{b:Nat}(o:Own h v sz ws b)(f:Fr h h'):Own h' v sz ws b:=
 o.mono f.next λid _ _ _ _ _ c=>f.get id c
structure GB (h:H)(x:V)(sz n m:Nat)(ws us:List V)(b:Nat)(v:V)(h':H):Prop where
 own:Own h' v sz (ws++us) b
 next:h.next<=h'.next
 get: ∀k,k<h.next->dH x k->h'.get k=h.get k
 fr: ∀a,Fr a h->a.next<=b->Fr a h'
 dG:m=0/\v=x∨ ∃id,v= .sl id 0 (n+m) (.un sz)/\b<=id/\id<h'.next/\h'.get id=some (.cells false (ws++us))
theorem Own.oT {h:H}{x:V}{sz bytes b:Nat}{ws us:List V}(o:Own h x sz ws b)(z:b<=h.next){n m:Nat}(p:ws.length=n*sz)(K:us.length=m*sz)(r:0<sz)(i:(2*(n+m)+1000)*bytes<=2^48/\n+m<2^62):
  ∃v h',oT h sz bytes x m us=some (v,h')/\GB h x sz n m ws us b v h':=by
 have s:=o.sv
 have e:=s.len p r
 have q:=s.slice
 unfold Ay.oT
 simp only[e,q]
 by_cases j:m=0
 ·subst j
  have J:us= []:=Yx om
  subst J
  rw[aV rfl]
  exact⟨x,h,rfl,by rw[qA];exact o,eS _,λ_ _ _=>rfl,λ_ f _=>f,.inl ⟨rfl,rfl⟩⟩
 ·rw[aZ j,aV i]
  have d: ∀g:H,g.next=h.next->(∀k,k<h.next->dH x k->g.get k=h.get k)->(∀a,Fr a h->a.next<=b->Fr a g)-> ∃v h',some (V.sl h.next 0 (n+m) (.un sz),g.new (.cells false (ws++us)))=some (v,h')/\GB h x sz n m ws us b v h':=by
   intro g w A B;refine⟨_,_,rfl,.inr ⟨h.next,n+m,.un sz, [],rfl,by rw[iZ,p,K,Nat.add_mul],.inl rfl,z,by rw[H.aX];omega,by rw[←w,H.aN,qA]⟩,by rw[H.aX];omega,λk t c=>?_,λa f c=>(B a f c).new _,.inr ⟨_,rfl,z,by rw[H.aX];omega,by rw[←w,H.aN]⟩⟩;rw[H.bL g om];exact A k t c
  rcases o with ⟨rfl,rfl⟩|⟨id,y,e,e,rfl,L,N,G,e,F⟩
  ·exact d h rfl (λ_ _ _=>rfl) (λ_ f _=>f)
  ·have:y=n:=Nat.eq_of_mul_eq_mul_right r (L.symm.trans p)
   subst this
   rcases N with rfl|⟨rfl,rfl⟩
   ·simp only[F,if_true]
    exact d (h.set id none) rfl (λk t c=>H.aI h (c id 0 y _ rfl) none) (λa f c=>f.set (jK c G) none)
   ·simp only
    rw[aZ om]
    exact d h rfl (λ_ _ _=>rfl) (λ_ f _=>f)
theorem Own.app {y:V}(o:Own h x sz ws b)(i:b<=h.next)(e:SV h y sz us){m:Nat}(j:ws.length=n*sz)(f:us.length=m*sz)(d:0<sz)(c:(2*(n+m)+1000)*bytes<=2^48/\n+m<2^62):
  ∃v h',qY h sz bytes x y=some (v,h')/\GB h x sz n m ws us b v h':=by
 have g:qY h sz bytes x y=Ay.oT h sz bytes x m us:=by
  simp only[qY,e.len f d,e.slice]
 rw[g]
 exact o.oT i j f d c
def CG (h:H)(sz bytes:Nat)(zero:List V)(x n:V):Option (V×H):=match n with
  | .int .i64 n=>if 0<=n/\n*bytes<=2^48/\n<2^62/\zero.length=sz then oT h sz bytes x n.toNat (dO zero (n.toNat*sz)) else none
  |_=>none
theorem AK (ρ:X->V)(h:H)(sz bytes:Nat)(zero:List V)(x n:X):cZ ρ h (.apz sz bytes zero x n)=CG h sz bytes zero (ρ x) (ρ n):=by
 simp only[cZ,CG];cases ρ n<;>rfl
theorem Yu {zero:List V}{n:Int}(d:0<=n)(c:n*bytes<=281474976710656)(h2:n<4611686018427387904)(e:zero.length=sz):CG h sz bytes zero x (.int .i64 n)=oT h sz bytes x n.toNat (dO zero (n.toNat*sz)):=by
 simp only[CG];rw[aV ⟨d,c,h2,e⟩]
def Iw (h:H)(mid x:Nat):Prop:= ∀es n v,h.get mid=some (.map es)->sD .i64 n es=some v-> ∀off len c,v≠ .sl x off len c
structure Hu (mid:Nat)(h h':H):Prop where
 next:h.next<=h'.next
 get: ∀id,id<h.next->id≠mid->h'.get id=h.get id
 av:mid<h.next-> ∀x,x<h.next->Iw h mid x->Iw h' mid x
theorem Hu.refl (mid:Nat)(h:H):Hu mid h h:=⟨eS _,λ_ _ _=>rfl,λ_ _ _ h=>h⟩
theorem Hu.trans {b c:H}(x:Hu mid a b)(y:Hu mid b c):Hu mid a c:=
 ⟨jK x.next y.next,λid e d=>(y.get id (iP e x.next) d).trans (x.get id e d),λd k e h=>y.av (iP d x.next) k (iP e x.next) (x.av d k e h)⟩
theorem Iw.fr {b:H}{x:Nat}(h:Iw a mid x)(c:b.get mid=a.get mid):Iw b mid x:=λf n v e d=>h f n v (c▸e) d
theorem Fr.JF {b:H}(x:Fr a b)(mid:Nat):Hu mid a b:=⟨x.next,λid c _=>x.get id c,λc _ _ h=>h.fr (x.get mid c)⟩
theorem Hu.bN {b:H}(x:Hu mid a b)(e:b.next<=n):Hu mid a (H.mk b.tr n):=⟨jK x.next e,λk d c=>(H.lJ b n k).trans (x.get k d c),λc k d h=>(x.av c k d h).fr (H.lJ b n mid)⟩
theorem Hu.new {b:H}(x:Hu mid a b)(o:Ob):Hu mid a (b.new o):=x.trans (((Fr.refl b).new o).JF mid)
theorem Hu.set {b:H}(x:Hu mid a b)(e:a.next<=id)(o:Option Ob):Hu mid a (b.set id o):=
 ⟨x.next,λk d c=>(H.aI b om o).trans (x.get k d c),λc k d h=>(x.av c k d h).fr (H.aI b om o)⟩
theorem Hu.cell {b:H}(x:Hu mid a b)(d:id<a.next)(c:id≠mid)(off:Nat):b.cell id off=a.cell id off:=by unfold H.cell;rw[x.get id d c]
def DF (o:Option Ob)(zero:V)(ok:Bool)(kk:IntKind)(n:Int):Option V:=match o with
 |some (.map es)=>if mZ kk es then
   match sD kk n es with
   |some v=>some (if ok then .tup [v,.bool true] else v)
   |none=>some (if ok then .tup [zero,.bool false] else zero)
  else none
 |_=>none
def FN (h:H)(zero:V)(ok:Bool)(x k:V):Option V:=match x,k with
 | .mp id,.int kk n=>DF (h.get id) zero ok kk n
 |_,_=>none
theorem BA (h:H)(zero:V)(d:Bool)(id:Nat)(c:IntKind)(n:Int):FN h zero d (.mp id) (.int c n)=DF (h.get id) zero d c n:=rfl
theorem Zq (ρ:X->V)(h:H)(zero:V)(e:Bool)(x k:X):cZ ρ h (.lkp zero e x k)=(FN h zero e (ρ x) (ρ k)).map (·,h):=by
 simp only[cZ,FN];cases ρ x<;>try rfl
 cases ρ k<;>try rfl
 simp only[DF];rename_i id d n
 cases h.get id with
 |none=>rfl
 |some o=>cases o with
  |map es=>
   simp only
   by_cases c:mZ d es=true
   ·rw[aV c,aV c]
    cases sD d n es<;>rfl
   ·rw[aZ c,aZ c];rfl
  |_=>rfl
def Xt (o:Option Ob)(h:H)(id:Nat)(kk:IntKind)(n:Int)(y:V):Option H:=match o with
 |some (.map es)=>if mZ kk es then some (h.set id (some (.map (wJ kk n y es)))) else none
 |_=>none
def Va (h:H)(x k y:V):Option H:=match x,k with
 | .mp id,.int kk n=>Xt (h.get id) h id kk n y
 |_,_=>none
theorem Xb (h:H)(id:Nat)(c:IntKind)(n:Int)(y:V):Va h (.mp id) (.int c n) y=Xt (h.get id) h id c n y:=rfl
theorem Yl (ρ:X->V)(h:H)(x k y:X):cZ ρ h (.mset x k y)=(Va h (ρ x) (ρ k) (ρ y)).map λh'=>(V.undef,h'):=by
 simp only[cZ,Va];cases ρ x<;>try rfl
 cases ρ k<;>try rfl
 simp only[Xt];rename_i id d n
 cases h.get id with
 |none=>rfl
 |some o=>cases o with
  |map es=>
   simp only
   by_cases c:mZ d es=true
   ·rw[aV c,aV c];rfl
   ·rw[aZ c,aZ c];rfl
  |_=>rfl
theorem lZ {zero:List V}{j:IntKind}{l c:Int}(e:0<=l)(d:l<=c)(h2:c*bytes<=281474976710656)(h3:c<4611686018427387904):
  vH h sz bytes zero (.int j l) (.int k c)=some (.sl h.next 0 l.toNat (.kn c.toNat),h.new (.cells false (dO zero (c.toNat*sz)))):=by
 simp only[vH];rw[aV ⟨e,d,h2,h3⟩]
theorem sG (n:Nat):dO [.int .i64 0] n=ints (List.replicate n 0):=by
 rw[zV];unfold dO;apply List.ext_getElem
 ·simp
 ·intro i c c
  simp [Nat.mod_one]
theorem Yn (h:H)(sz:Nat)(zero:List V):pG h sz zero 0 []=some (.sl h.next 0 0 (.kn 0),h.new (.cells false [])):=by
 simp [pG,gI,dO]
theorem Ya {len:Nat}{hi:Int}(e:0<=hi)(d:hi<=len):nE 1 (.sl id off len (.un 1)) none (some (.int k hi)) none=some (.sl id off hi.toNat (.un 1)):=by
 simp only[nE,kS];rw[aV ⟨e,d⟩];simp only[if_true]
 by_cases c:0<len
 ·rw[aV c];simp
 ·rw[aZ c]
  have:hi.toNat=0:=om
  simp [this]
theorem EW {len c:Nat}{hi:Int}(e:0<=hi)(d:hi<=c):nE 1 (.sl id off len (.kn c)) none (some (.int k hi)) none=some (.sl id off hi.toNat (.kn c)):=by
 simp only[nE,kS];rw[aV ⟨e,d⟩];simp
theorem Um:nE 1 .aD none (some (.int k 0)) none=some .aD:=by
 simp [nE,kS]
theorem SV.dG (s:SV h v sz ws):v.cells= [v]/\v.one=true/\ ∀k n,v≠ .int k n:=by
 rcases s with ⟨rfl|⟨a,rfl⟩,_⟩|⟨id,off,len,c,ro,c,rfl,_⟩
 ·exact⟨rfl,rfl,λk n h=>by cases h⟩
 ·exact⟨rfl,rfl,λk n h=>by cases h⟩
 ·exact⟨rfl,rfl,λk n h=>by cases h⟩
theorem SI.other (s:SI h v l)(g:l≠ []){P:Nat}(p:h.get P=some (.cells ro ws))(A: ∀(i:Nat) (w:V),ws[i]? =some w-> ∀k n,w≠ .int k n)(o:Option Ob):SI (h.set P o) v l:=by
 rcases s with ⟨_,t⟩|⟨id,off,len,d,c,y,q,z,r,f,m,j⟩
 ·exact absurd (Kx (t.trans Ul.symm)) g
 ·by_cases e:id=P
  ·subst e
   rw[p] at f;cases f
   cases l with
   |nil=>exact absurd rfl g
   |cons a l=>
    have:((ws.drop off).take (len*1))[0]? =some (.int .i64 a):=by rw[j];rfl
    rw[List.getElem?_take] at this;split at this
    ·rw[List.getElem?_drop] at this
     exact absurd rfl (A _ _ this _ _)
    ·cases this
  ·exact .inr ⟨id,off,len,d,c,y,q,z,r,by rw[H.aI h e];exact f,m,j⟩
def HX (v u:V):Prop:= ∀i o n c,v= .sl i o n c-> ∀i' o' n' c',u= .sl i' o' n' c'->i≠i'
theorem Own.dis (x:Own h v sz ws b)(y:Own h' u sz us h.next):HX v u:=by
 intro i o n c e c c c c d;rcases x with ⟨g,_⟩|⟨id,k,c,c,g,_,_,_,c,_⟩
 ·rw[g] at e;cases e
 ·rw[g] at e;cases e
  rcases y with ⟨f,_⟩|⟨c,c,c,c,f,_,_,c,_⟩
  ·rw[f] at d;cases d
  ·rw[f] at d;cases d
   omega
theorem Own.set {P:Nat}(x:Own h v sz ws b)(d:P<b)(o:Option Ob):Own (h.set P o) v sz ws b:=
 x.mono (eS _) λid _ _ _ _ c _=>H.aI h om o
theorem Wu {z1 z2:V}(g:v.cells= [v])(c:v.one=true)(i:u.cells= [u])(d:u.one=true):kY [z1,z2] [(0,1,v),(1,1,u)]=some (.agg [v,u]):=by
 have e:putAt [z1,z2] 0 [v]=some [v,z2]:=by simp [putAt]
 have f:putAt [v,z2] 1 [u]=some [v,u]:=by simp [putAt]
 simp only[kY,gI,g,i,List.length_singleton,List.all_cons,List.all_nil,c,d,Bool.and_self,and_self,if_true,e,f,Option.map_some]
theorem Bm (z:List V):kY z []=some (.agg z):=rfl
theorem Dx (h:H)(c:v.one=true)(d:u.one=true):Ck h (.agg [v,u])=some (.ptr h.next 0,h.new (.cells false [v,u])):=rO h _ (by simp [c,d])
theorem Xp (h:H)(id off:Nat)(c:v.one=true)(d:u.one=true):Ln h 2 (.ptr id off) (.agg [v,u])=dQ (h.get id) h id off [v,u]:=qE h id off 2 _ rfl (by simp [c,d])
theorem Ky {y:V}(h:H)(id:Nat):dQ (some (.cells false [x,y])) h id 0 [v,u]=some (h.set id (some (.cells false [v,u]))):=by
 simp [dQ,putAt]
theorem BZ (c:h.get id=some (.cells ro [v,u])):h.row id 0 2=some [v,u]:=by
 simp [H.row,c,sub]
def BD (h:H)(j:I)(v:V):Bool:=match cZ (xv [] []) h j with|some (u,_)=>dJ u v|none=>false
theorem Lp (cks:List Nat)(k:Nat)(j:I)(v:V)(c:Log)(h:H):lX cks ((k,j,v)::c) h=((!cks.contains k||BD h j v)&&lX cks c h):=rfl
theorem Jm (cks:List Nat)(h:H):lX cks [] h=true:=rfl
def HC (o:Option V)(v:V):Bool:=match o with|some u=>dJ u v|none=>false
theorem Xm (u v:V):HC (some u) v=dJ u v:=rfl
theorem AO (h:H)(x v:V):BD h (.ld false 1 (.c x)) v=HC (zQ h x) v:=by
 unfold BD;rw[Gl,EU];cases zQ h x<;>rfl
theorem BR (h:H)(n:Nat)(x v:V):BD h (.ld true n (.c x)) v=HC (Lz h n x) v:=by
 unfold BD;rw[Nx,EU];cases Lz h n x<;>rfl
theorem AT (k:IntKind)(a:Int):dJ (.int k a) (.int k a)=true:=by simp [dJ]
theorem Wz (a:Bool):dJ (.bool a) (.bool a)=true:=by simp [dJ]
theorem CO (a b:Nat):dJ (.ptr a b) (.ptr a b)=true:=by simp [dJ]
theorem CP (a b:List V):dJ (.agg a) (.agg b)=nJ a b:=by simp [dJ]
theorem Xd:nJ [] []=true:=by simp [nJ]
theorem Qj (a b:V)(as c:List V):nJ (a::as) (b::c)=(dJ a b&&nJ as c):=by simp [nJ]
theorem SV.dJ {h:H}{v:V}{sz:Nat}{ws:List V}(s:SV h v sz ws):dJ v v=true:=by
 rcases s with ⟨rfl|⟨a,rfl⟩,_⟩|⟨id,off,len,c,ro,c,rfl,_⟩<;>simp [Ay.dJ]
theorem AW (i:Nat)(d:D)(g:Option (X×Bool))(j:I)(al:Bool)(cks:List Nat)(c:List V)(v:V)(e:Log):zC ⟨i,⟨d,g,.op j⟩,al,cks⟩ c v e=if j.mL then (i,j.close (xv c []),v)::e else e:=rfl
theorem Qe (i:Nat)(d:D)(g:Option (X×Bool))(f:Nat)(xs:List X)(al:Bool)(cks:List Nat)(e:List V)(v:V)(c:Log):zC ⟨i,⟨d,g,.call f xs⟩,al,cks⟩ e v c=c:=rfl
theorem Lx (i:Nat)(d:D)(g:Option (X×Bool))(f:X)(xs:List X)(al:Bool)(cks:List Nat)(e:List V)(v:V)(c:Log):zC ⟨i,⟨d,g,.callv f xs⟩,al,cks⟩ e v c=c:=rfl
theorem Ly (i:Nat)(d:D)(g:Option (X×Bool))(f:Nat)(xs:List X)(al:Bool)(cks:List Nat)(e:List V)(v:V)(c:Log):zC ⟨i,⟨d,g,.callp f xs⟩,al,cks⟩ e v c=c:=rfl
attribute [go_sem] Lp Jm Xm AO BR AT Wz CO CP Xd Qj AW Qe Lx Ly I.mL I.close List.contains_cons List.contains_nil Nat.reduceBEq Bool.or_false Bool.false_or Bool.or_true Bool.true_or Bool.and_true Bool.true_and
def CV (o:Option (V×H))(m:Nat):Option (V×H):=match o with|some (v,h')=>some (v,H.mk h'.tr m)|none=>none
theorem BY (c:List V)(h:H)(n:Nat)(i:I):Bg c h n (.op i)=CV (cZ (xv c []) (H.mk h.tr n) i) h.next:=rfl
theorem Ll (v:V)(h':H)(m:Nat):CV (some (v,h')) m=some (v,H.mk h'.tr m):=rfl
attribute [go_sem] BY Ll
def HK (l:List V):Nat->V:=λi=>l.getD i .undef
theorem aA {L:List V}{F:(Nat->V)->List V}(h:L=F (HK L)): ∃g,L=F g:=⟨HK L,h⟩
theorem Ec {l:List Int}{off:Nat}(c:off<l.length)(h:H)(id:Nat)(x:Int):dQ (some (.cells false (ints l))) h id off [.int .i64 x]=some (h.set id (some (.cells false (ints (l.set off x))))):=by
 rw[bF (by rw[aL];exact c),ints_set]
attribute [go_sem] De Int.toNat_zero Int.toNat_one Nat.add_zero Nat.zero_add
attribute [go_sem] Bm Ky List.getElem?_cons_zero List.getElem?_cons_succ List.getElem?_nil
attribute [go_sem] AK Zq Yl BA Xb
attribute [go_sem] Ec aL ints_set lZ sG Yn kF Nat.mul_zero
theorem Qn:(∀{a:Type} (l:List a) (i:Nat) (x:a),(l.set i x).length=l.length)/\(∀{a:Type} (n:Nat) (x:a),(List.replicate n x).length=n)/\(∀{a:Type} (l m:List a),(l++m).length=l.length+m.length)/\(∀{a:Type} (i:Nat) (l:List a),(l.take i).length=min i l.length)/\(∀{a:Type} (i:Nat) (l:List a),(l.drop i).length=l.length-i)/\(∀{a:Type} (x:a) (l:List a),(x::l).length=l.length+1)/\(∀{a:Type},([]:List a).length=0)/\(∀{a b:Type} (f:a->b) (l:List a),(l.map f).length=l.length)/\(∀n:Nat,(List.range n).length=n)/\(∀l:List Int,(ints l).length=l.length):=
 ⟨λ_ _ _=>List.length_set ..,λ_ _=>List.length_replicate ..,λ_ _=>iZ ..,λ_ _=>xF ..,λ_ _=>Cw ..,λ_ _=>rfl,rfl,λ_ _=>iR ..,λ_=>zU ..,λ_=>aL _⟩
end
end Go.Ay
