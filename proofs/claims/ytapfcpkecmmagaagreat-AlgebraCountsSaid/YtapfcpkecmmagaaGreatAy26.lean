/- Slices as lists. -/
import Derived.Test.YtapfcpkecmmagaaGreatAy25
namespace Go.Ay
section
variable {l:List Int} {v x u:V} {sz n id off b bytes mid:Nat} {h h' a:H} {ws us:List V} {ro:Bool} {ll:List (List Int)} {k:IntKind}
def ints (l:List Int):List V:=l.map (V.int .i64)
theorem Wo:ints []= []:=rfl
theorem Sh (a:Int)(l:List Int):ints (a::l)= .int .i64 a::ints l:=rfl
theorem aL (l:List Int):(ints l).length=l.length:=iK ..
theorem jZ (a b:List Int):ints (a++b)=ints a++ints b:=List.map_append ..
theorem ints_set (l:List Int)(i:Nat)(x:Int):(ints l).set i (.int .i64 x)=ints (l.set i x):=by
 simp only[ints,List.map_set]
theorem Xn (l:List Int)(i:Nat):(ints l)[i]? =(l[i]?).map (V.int .i64):=by simp [ints]
theorem Da {i:Nat}(hi:i<l.length):(ints l)[i]? =some (.int .i64 (l.getD i 0)):=by
 rw[Xn,eX hi,Cs,eX hi];rfl
theorem Ij: ∀{a b:List Int},ints a=ints b->a=b
 | [], [],_=>rfl
 | [],_::_,h=>by cases h
 |_::_, [],h=>by cases h
 |x::a,y::b,h=>by
  simp only[Sh,List.cons.injEq,V.int.injEq,true_and] at h;rw[h.1,Ij h.2]
theorem Bu (n:Nat)(x:Int):ints (List.replicate n x)=List.replicate n (.int .i64 x):=by simp [ints]
structure Sl (v:V)(sz n id off:Nat):Prop where
 len:mH v=some n
 ixa: ∀(k:IntKind) (i:Int),0<=i->i<n->Ko sz v (.int k i)=some (.ptr id (off+i.toNat*sz))
 one:v.one=true
 cells:v.cells= [v]
theorem Sl.lens (s:Sl v sz n id off):cV v=some (.int .i64 (n:Int)):=by
 unfold cV;rw[s.len];rfl
def SV (h:H)(v:V)(sz:Nat)(ws:List V):Prop:=(v= .aD∨ ∃a,v= .emp a)/\ws= []∨
 ∃id off len cap ro vs,v= .sl id off len cap/\ws.length=len*sz/\id<h.next/\h.get id=some (.cells ro vs)/\off+len*sz<=vs.length/\(vs.drop off).take (len*sz)=ws
theorem SV.aD (h:H)(sz:Nat):SV h .aD sz []:= .inl ⟨.inl rfl,rfl⟩
theorem SV.emp (h:H)(a:Addr)(sz:Nat):SV h (.emp a) sz []:= .inl ⟨.inr ⟨a,rfl⟩,rfl⟩
theorem SV.mono (s:SV h v sz ws)(f:Fr h h'):SV h' v sz ws:=by
 rcases s with s|⟨id,off,len,c,ro,j,e,g,d,i,m,o⟩
 ·exact .inl s
 ·exact .inr ⟨id,off,len,c,ro,j,e,g,iO d f.next,by rw[f.get id d];exact i,m,o⟩
theorem SV.all {vs:List V}{len:Nat}(e:vs.length=len*sz)(d:id<h.next)(f:h.get id=some (.cells ro vs))(c:mE):SV h (.sl id 0 len c) sz vs:=
 .inr ⟨id,0,len,c,ro,vs,rfl,e,d,f,om,by rw[List.drop_zero,←e,List.take_length]⟩
theorem SV.shape (s:SV h v sz ws)(n:Nat)(e:ws.length=n*sz)(g:0<sz): ∃id off,Sl v sz n id off/\(0<n->id<h.next)/\ ∀i,i<ws.length->h.cell id (off+i)=ws[i]? :=by
 rcases s with ⟨o,rfl⟩|⟨id,off,len,j,ro,j,rfl,d,q,m,j,p⟩
 ·have:n=0:=by
   cases n with
   |zero=>rfl
   |succ n=>simp [Nat.succ_mul] at e;omega
  subst this;rcases o with rfl|⟨a,rfl⟩<;>exact⟨0,0,⟨rfl,λk i f d=>om,rfl,rfl⟩,λh=>om,λi hi=>by simp at hi⟩
 ·have c:len=n:=by
   rw[d] at e;exact Nat.eq_of_mul_eq_mul_right g e
  subst c;refine⟨id,off,⟨rfl,λk i f d=>sD f d,rfl,rfl⟩,λ_=>q,λi hi=>?_⟩;rw[H.aG m,←p,List.getElem?_take_of_lt om,List.getElem?_drop]
theorem SV.slice (s:SV h v sz ws):h.slice sz v=some ws:=by
 rcases s with ⟨rfl|⟨a,rfl⟩,rfl⟩|⟨id,off,len,c,ro,c,rfl,c,c,d,e,f⟩
 ·rfl
 ·rfl
 ·simp only[H.slice,H.row,d,sub]
  rw[aV e,f]
theorem SV.len (s:SV h v sz ws)(d:ws.length=n*sz)(c:0<sz):mH v=some n:=by
 obtain⟨id,off,s,_⟩:=s.shape n d c;exact s.len
def SI (h:H)(v:V)(l:List Int):Prop:=SV h v 1 (ints l)
theorem SI.aD (h:H):SI h .aD []:=SV.aD h 1
theorem SI.emp (h:H)(a:Addr):SI h (.emp a) []:=SV.emp h a 1
theorem SI.mono (s:SI h v l)(f:Fr h h'):SI h' v l:=SV.mono s f
theorem SI.own (d:id<h.next)(e:h.get id=some (.cells ro (ints l)))(c:mE):SI h (.sl id 0 l.length c) l:=
 SV.all (by rw[aL,jY]) d e c
theorem SI.open (s:SI h v l): ∃id off,Sl v 1 l.length id off/\(0<l.length->id<h.next)/\ ∀i:Nat,i<l.length->h.cell id (off+i)=some (.int .i64 (l.getD i 0)):=by
 obtain⟨id,off,c,d,e⟩:=SV.shape s l.length (by rw[aL,jY]) om;refine⟨id,off,c,d,λi c=>?_⟩;rw[e i (by rw[aL];omega),Da c]
theorem SI.len (s:SI h v l):mH v=some l.length:=SV.len s (by rw[aL,jY]) om
theorem SI.lens (s:SI h v l):cV v=some (.int .i64 (l.length:Int)):=by unfold cV;rw[s.len];rfl
theorem uH (f:Fr h h'){F:Nat->V}(c:0<n->id<h.next)(e: ∀i:Nat,i<n->h.cell id (off+i)=some (F i)): ∀i:Nat,i<n->h'.cell id (off+i)=some (F i):=λi d=>by
 rw[f.cell (c om)];exact e i d
def All2 {α β:Type}(R:α->β->Prop):List α->List β->Prop
 | [], []=>True
 |a::as,b::bs=>R a b/\All2 R as bs
 |_,_=>False
theorem All2.length {α β:Type}{R:α->β->Prop}: ∀{as:List α} {bs:List β},All2 R as bs->as.length=bs.length
 | [], [],_=>rfl
 |_::_,_::_,h=>by rw[List.length_cons,List.length_cons,All2.length h.2]
 | [],_::_,h=>h.elim
 |_::_, [],h=>h.elim
theorem All2.mono {α β:Type}{R S:α->β->Prop}(k: ∀a b,R a b->S a b): ∀{as:List α} {bs:List β},All2 R as bs->All2 S as bs
 | [], [],_=>trivial
 |_::_,_::_,h=>⟨k _ _ h.1,All2.mono k h.2⟩
 | [],_::_,h=>h.elim
 |_::_, [],h=>h.elim
theorem All2.get {α β:Type}{R:α->β->Prop}: ∀{as:List α} {bs:List β},All2 R as bs-> ∀i (hi:i<as.length) (hj:i<bs.length),R as[i] bs[i]
 |a::as,b::bs,h,0,_,_=>h.1
 |a::as,b::bs,h,i+1,hi,hj=>All2.get h.2 i (by simpa using hi) (by simpa using hj)
 | [],_,_,i,hi,_=>by simp at hi
 |_::_, [],h,_,_,_=>h.elim
theorem All2.append {α β:Type}{R:α->β->Prop}: ∀{as:List α} {bs:List β} {cs:List α} {ds:List β},All2 R as bs->All2 R cs ds->All2 R (as++cs) (bs++ds)
 | [], [],_,_,_,h=>h
 |_::_,_::_,_,_,h,k=>⟨h.1,All2.append h.2 k⟩
 | [],_::_,_,_,h,_=>h.elim
 |_::_, [],_,_,h,_=>h.elim
theorem All2.iC {α β:Type}{R:α->β->Prop}: ∀{as:List α} {bs:List β},as.length=bs.length->(∀i (hi:i<as.length) (hj:i<bs.length),R as[i] bs[i])->All2 R as bs
 | [], [],_,_=>trivial
 |a::as,b::bs,hl,h=>⟨h 0 (by simp) (by simp),All2.iC (by simpa using hl) λi hi hj=>h (i+1) (by simpa using hi) (by simpa using hj)⟩
 | [],_::_,hl,_=>by simp at hl
 |_::_, [],hl,_=>by simp at hl
theorem All2.set {α β:Type}{R:α->β->Prop}: ∀{as:List α} {bs:List β},All2 R as bs-> ∀(i:Nat) {a:α} {b:β},R a b->All2 R (as.set i a) (bs.set i b)
 | [], [],_,_,_,_,_=>trivial
 |_::_,_::_,h,0,_,_,r=>⟨r,h.2⟩
 |_::_,_::_,h,i+1,_,_,r=>⟨h.1,All2.set h.2 i r⟩
 | [],_::_,h,_,_,_,_=>h.elim
 |_::_, [],h,_,_,_,_=>h.elim
def SR (h:H)(v:V)(ll:List (List Int)):Prop:= ∃ws,SV h v 1 ws/\All2 (SI h) ws ll
theorem SR.aD (h:H):SR h .aD []:=⟨[],SV.aD h 1,trivial⟩
theorem SR.mono (s:SR h v ll)(f:Fr h h'):SR h' v ll:=by
 obtain⟨ws,s,a⟩:=s;exact⟨ws,s.mono f,a.mono λ_ _ x=>x.mono f⟩
theorem SR.open (s:SR h v ll): ∃id off ws,Sl v 1 ll.length id off/\(0<ll.length->id<h.next)/\ws.length=ll.length/\(∀i:Nat,i<ll.length->h.cell id (off+i)=some (ws.getD i .undef))/\All2 (SI h) ws ll:=by
 obtain⟨ws,s,a⟩:=s;have c:=a.length;obtain⟨id,off,e,f,d⟩:=s.shape ll.length (by rw[c,jY]) om;refine⟨id,off,ws,e,f,c,λi c=>?_,a⟩;rw[d i om,Cs,eX om];rfl
theorem SR.len (s:SR h v ll):mH v=some ll.length:=by
 obtain⟨id,off,ws,c,_⟩:=s.open;exact c.len
theorem SR.lens (s:SR h v ll):cV v=some (.int .i64 (ll.length:Int)):=by unfold cV;rw[s.len];rfl
theorem Hf (a:All2 (SI h) ws ll){i:Nat}(hi:i<ll.length):SI h (ws.getD i .undef) (ll.getD i []):=by
 have c:=a.length;rw[Cs,eX om,Cs,eX hi];exact a.get i om hi
def Own (h:H)(v:V)(sz:Nat)(ws:List V)(b:Nat):Prop:=v= .aD/\ws= []∨
 ∃id n cap rest,v= .sl id 0 n cap/\ws.length=n*sz/\(cap= .un sz∨cap= .kn n/\rest= [])/\b<=id/\id<h.next/\h.get id=some (.cells false (ws++rest))
theorem Own.aD (h:H)(sz b:Nat):Own h .aD sz [] b:= .inl ⟨rfl,rfl⟩
theorem Own.new (h:H)(sz n b:Nat)(ws:List V)(c:ws.length=n*sz)(d:b<=h.next):Own (h.new (.cells false ws)) (.sl h.next 0 n (.kn n)) sz ws b:=
 .inr ⟨h.next,n,_, [],rfl,c,.inr ⟨rfl,rfl⟩,d,by rw[H.aY];omega,by rw[H.aN,pN]⟩
theorem Own.sv (o:Own h v sz ws b):SV h v sz ws:=by
 rcases o with o|⟨id,n,d,c,rfl,e,_,_,g,f⟩
 ·exact .inl ⟨.inl o.1,o.2⟩
 ·exact .inr ⟨id,0,n,d,false,ws++c,rfl,e,g,f,by rw[jD];omega,by rw[List.drop_zero,←e,List.take_left]⟩
theorem Own.le {c:Nat}(o:Own h v sz ws b)(i:c<=b):Own h v sz ws c:=by
 rcases o with o|⟨id,n,e,d,m,f,g,p,j⟩
 ·exact .inl o
 ·exact .inr ⟨id,n,e,d,m,f,g,jC i p,j⟩
def dF (v:V)(k:Nat):Prop:= ∀id off n c,v= .sl id off n c->k≠id
theorem dF.aD (k:Nat):dF .aD k:=λ_ _ _ _ h=>by cases h
theorem dF.sl {k:Nat}{c:mE}(h:k≠id):dF (.sl id off n c) k:=λ_ _ _ _ e=>by cases e;exact h
theorem Own.mono (o:Own h v sz ws b)(q:h.next<=h'.next)(m: ∀id off n c,v= .sl id off n c->b<=id->id<h.next->h'.get id=h.get id):Own h' v sz ws b:=by
 rcases o with o|⟨id,n,e,d,rfl,i,j,f,g,p⟩
 ·exact .inl o
 ·exact .inr ⟨id,n,e,d,rfl,i,j,f,iO g q,by rw[m id 0 n e rfl f g];exact p⟩
theorem Own.fr {h h':H}{v:V}{sz:Nat}{ws:List V}{b:Nat}(o:Own h v sz ws b)(f:Fr h h'):Own h' v sz ws b:=
 o.mono f.next λid _ _ _ _ _ c=>f.get id c
structure DW (h:H)(x:V)(sz n m:Nat)(ws us:List V)(b:Nat)(v:V)(h':H):Prop where
 own:Own h' v sz (ws++us) b
 next:h.next<=h'.next
 get: ∀k,k<h.next->dF x k->h'.get k=h.get k
 fr: ∀a,Fr a h->a.next<=b->Fr a h'
 dC:m=0/\v=x∨ ∃id,v= .sl id 0 (n+m) (.un sz)/\b<=id/\id<h'.next/\h'.get id=some (.cells false (ws++us))
theorem Own.qB {h:H}{x:V}{sz bytes b:Nat}{ws us:List V}(o:Own h x sz ws b)(s:b<=h.next){n m:Nat}(p:ws.length=n*sz)(K:us.length=m*sz)(r:0<sz)(e:(2*(n+m)+1000)*bytes<=2^48/\n+m<2^62):
  ∃v h',qB h sz bytes x m us=some (v,h')/\DW h x sz n m ws us b v h':=by
 have y:=o.sv
 have i:=y.len p r
 have q:=y.slice
 unfold Ay.qB
 simp only[i,q]
 by_cases j:m=0
 ·subst j
  have L:us= []:=Yd om
  subst L
  rw[aV rfl]
  exact⟨x,h,rfl,by rw[pN];exact o,fH _,λ_ _ _=>rfl,λ_ f _=>f,.inl ⟨rfl,rfl⟩⟩
 ·rw[aZ j,aV e]
  have c: ∀g:H,g.next=h.next->(∀k,k<h.next->dF x k->g.get k=h.get k)->(∀a,Fr a h->a.next<=b->Fr a g)-> ∃v h',some (V.sl h.next 0 (n+m) (.un sz),g.new (.cells false (ws++us)))=some (v,h')/\DW h x sz n m ws us b v h':=by
   intro g t G J;refine⟨_,_,rfl,.inr ⟨h.next,n+m,.un sz, [],rfl,by rw[jD,p,K,Nat.add_mul],.inl rfl,s,by rw[H.aY];omega,by rw[←t,H.aN,pN]⟩,by rw[H.aY];omega,λk z d=>?_,λa f d=>(J a f d).new _,.inr ⟨_,rfl,s,by rw[H.aY];omega,by rw[←t,H.aN]⟩⟩;rw[H.bJ g om];exact G k z d
  rcases o with ⟨rfl,rfl⟩|⟨id,w,g,g,rfl,A,B,N,g,F⟩
  ·exact c h rfl (λ_ _ _=>rfl) (λ_ f _=>f)
  ·have:w=n:=Nat.eq_of_mul_eq_mul_right r (A.symm.trans p)
   subst this
   rcases B with rfl|⟨rfl,rfl⟩
   ·simp only[F,if_true]
    exact c (h.set id none) rfl (λk z d=>H.aI h (d id 0 w _ rfl) none) (λa f d=>f.set (jC d N) none)
   ·simp only
    rw[aZ om]
    exact c h rfl (λ_ _ _=>rfl) (λ_ f _=>f)
theorem Own.app {y:V}(o:Own h x sz ws b)(i:b<=h.next)(f:SV h y sz us){m:Nat}(j:ws.length=n*sz)(d:us.length=m*sz)(e:0<sz)(c:(2*(n+m)+1000)*bytes<=2^48/\n+m<2^62):
  ∃v h',qV h sz bytes x y=some (v,h')/\DW h x sz n m ws us b v h':=by
 have g:qV h sz bytes x y=Ay.qB h sz bytes x m us:=by
  simp only[qV,f.len d e,f.slice]
 rw[g]
 exact o.qB i j d e c
def GD (h:H)(sz bytes:Nat)(zero:List V)(x n:V):Option (V×H):=match n with
  | .int .i64 n=>if 0<=n/\n*bytes<=2^48/\n<2^62/\zero.length=sz then qB h sz bytes x n.toNat (dN zero (n.toNat*sz)) else none
  |_=>none
theorem AW (ρ:X->V)(h:H)(sz bytes:Nat)(zero:List V)(x n:X):cW ρ h (.apz sz bytes zero x n)=GD h sz bytes zero (ρ x) (ρ n):=by
 simp only[cW,GD];cases ρ n<;>rfl
def Kg (h:H)(mid x:Nat):Prop:= ∀es n v,h.get mid=some (.map es)->rH .i64 n es=some v-> ∀off len c,v≠ .sl x off len c
structure Hp (mid:Nat)(h h':H):Prop where
 next:h.next<=h'.next
 get: ∀id,id<h.next->id≠mid->h'.get id=h.get id
 av:mid<h.next-> ∀x,x<h.next->Kg h mid x->Kg h' mid x
theorem Hp.refl (mid:Nat)(h:H):Hp mid h h:=⟨fH _,λ_ _ _=>rfl,λ_ _ _ h=>h⟩
theorem Hp.trans {b c:H}(x:Hp mid a b)(y:Hp mid b c):Hp mid a c:=
 ⟨jC x.next y.next,λid d e=>(y.get id (iO d x.next) e).trans (x.get id d e),λd k e h=>y.av (iO d x.next) k (iO e x.next) (x.av d k e h)⟩
theorem Kg.fr {b:H}{x:Nat}(h:Kg a mid x)(c:b.get mid=a.get mid):Kg b mid x:=λd n v e f=>h d n v (c▸e) f
theorem Fr.IA {b:H}(x:Fr a b)(mid:Nat):Hp mid a b:=⟨x.next,λid c _=>x.get id c,λc _ _ h=>h.fr (x.get mid c)⟩
theorem Hp.bL {b:H}(x:Hp mid a b)(e:b.next<=n):Hp mid a (H.mk b.tr n):=⟨jC x.next e,λk c d=>(H.lG b n k).trans (x.get k c d),λd k c h=>(x.av d k c h).fr (H.lG b n mid)⟩
theorem Hp.new {b:H}(x:Hp mid a b)(o:Ob):Hp mid a (b.new o):=x.trans (((Fr.refl b).new o).IA mid)
theorem Hp.set {b:H}(x:Hp mid a b)(e:a.next<=id)(o:Option Ob):Hp mid a (b.set id o):=
 ⟨x.next,λk c d=>(H.aI b om o).trans (x.get k c d),λd k c h=>(x.av d k c h).fr (H.aI b om o)⟩
theorem Hp.cell {b:H}(x:Hp mid a b)(c:id<a.next)(d:id≠mid)(off:Nat):b.cell id off=a.cell id off:=by unfold H.cell;rw[x.get id c d]
def CE (o:Option Ob)(zero:V)(ok:Bool)(kk:IntKind)(n:Int):Option V:=match o with
 |some (.map es)=>if mW kk es then
   match rH kk n es with
   |some v=>some (if ok then .tup [v,.bool true] else v)
   |none=>some (if ok then .tup [zero,.bool false] else zero)
  else none
 |_=>none
def CU (h:H)(zero:V)(ok:Bool)(x k:V):Option V:=match x,k with
 | .mp id,.int kk n=>CE (h.get id) zero ok kk n
 |_,_=>none
theorem Yt (h:H)(zero:V)(c:Bool)(id:Nat)(d:IntKind)(n:Int):CU h zero c (.mp id) (.int d n)=CE (h.get id) zero c d n:=rfl
theorem Zi (ρ:X->V)(h:H)(zero:V)(e:Bool)(x k:X):cW ρ h (.lkp zero e x k)=(CU h zero e (ρ x) (ρ k)).map (·,h):=by
 simp only[cW,CU];cases ρ x<;>try rfl
 cases ρ k<;>try rfl
 simp only[CE];rename_i id d n
 cases h.get id with
 |none=>rfl
 |some o=>cases o with
  |map es=>
   simp only
   by_cases c:mW d es=true
   ·rw[aV c,aV c]
    cases rH d n es<;>rfl
   ·rw[aZ c,aZ c];rfl
  |_=>rfl
def Vp (o:Option Ob)(h:H)(id:Nat)(kk:IntKind)(n:Int)(y:V):Option H:=match o with
 |some (.map es)=>if mW kk es then some (h.set id (some (.map (xP kk n y es)))) else none
 |_=>none
def Um (h:H)(x k y:V):Option H:=match x,k with
 | .mp id,.int kk n=>Vp (h.get id) h id kk n y
 |_,_=>none
theorem Vj (h:H)(id:Nat)(c:IntKind)(n:Int)(y:V):Um h (.mp id) (.int c n) y=Vp (h.get id) h id c n y:=rfl
theorem Vg (ρ:X->V)(h:H)(x k y:X):cW ρ h (.mset x k y)=(Um h (ρ x) (ρ k) (ρ y)).map λh'=>(V.undef,h'):=by
 simp only[cW,Um];cases ρ x<;>try rfl
 cases ρ k<;>try rfl
 simp only[Vp];rename_i id d n
 cases h.get id with
 |none=>rfl
 |some o=>cases o with
  |map es=>
   simp only
   by_cases c:mW d es=true
   ·rw[aV c,aV c];rfl
   ·rw[aZ c,aZ c];rfl
  |_=>rfl
theorem lZ {zero:List V}{j:IntKind}{l c:Int}(d:0<=l)(e:l<=c)(h2:c*bytes<=281474976710656)(h3:c<4611686018427387904):
  uJ h sz bytes zero (.int j l) (.int k c)=some (.sl h.next 0 l.toNat (.kn c.toNat),h.new (.cells false (dN zero (c.toNat*sz)))):=by
 simp only[uJ];rw[aV ⟨d,e,h2,h3⟩]
theorem xJ (n:Nat):dN [.int .i64 0] n=ints (List.replicate n 0):=by
 rw[Bu];unfold dN;apply List.ext_getElem
 ·simp
 ·intro i c c
  simp [Nat.mod_one]
theorem Yb (h:H)(sz:Nat)(zero:List V):pF h sz zero 0 []=some (.sl h.next 0 0 (.kn 0),h.new (.cells false [])):=by
 simp [pF,gG,dN]
theorem EM {len:Nat}{hi:Int}(d:0<=hi)(e:hi<=len):oY 1 (.sl id off len (.un 1)) none (some (.int k hi)) none=some (.sl id off hi.toNat (.un 1)):=by
 simp only[oY,kP];rw[aV ⟨d,e⟩];simp only[if_true]
 by_cases c:0<len
 ·rw[aV c];simp
 ·rw[aZ c]
  have:hi.toNat=0:=om
  simp [this]
theorem EZ {len c:Nat}{hi:Int}(d:0<=hi)(e:hi<=c):oY 1 (.sl id off len (.kn c)) none (some (.int k hi)) none=some (.sl id off hi.toNat (.kn c)):=by
 simp only[oY,kP];rw[aV ⟨d,e⟩];simp
theorem SV.dC (s:SV h v sz ws):v.cells= [v]/\v.one=true/\ ∀k n,v≠ .int k n:=by
 rcases s with ⟨rfl|⟨a,rfl⟩,_⟩|⟨id,off,len,c,ro,c,rfl,_⟩
 ·exact⟨rfl,rfl,λk n h=>by cases h⟩
 ·exact⟨rfl,rfl,λk n h=>by cases h⟩
 ·exact⟨rfl,rfl,λk n h=>by cases h⟩
theorem SI.other (s:SI h v l)(g:l≠ []){P:Nat}(r:h.get P=some (.cells ro ws))(m: ∀(i:Nat) (w:V),ws[i]? =some w-> ∀k n,w≠ .int k n)(o:Option Ob):SI (h.set P o) v l:=by
 rcases s with ⟨_,z⟩|⟨id,off,len,c,d,t,p,q,A,f,y,j⟩
 ·exact absurd (Ij (z.trans Wo.symm)) g
 ·by_cases e:id=P
  ·subst e
   rw[r] at f;cases f
   cases l with
   |nil=>exact absurd rfl g
   |cons a l=>
    have:((ws.drop off).take (len*1))[0]? =some (.int .i64 a):=by rw[j];rfl
    rw[List.getElem?_take] at this;split at this
    ·rw[List.getElem?_drop] at this
     exact absurd rfl (m _ _ this _ _)
    ·cases this
  ·exact .inr ⟨id,off,len,c,d,t,p,q,A,by rw[H.aI h e];exact f,y,j⟩
def GN (v u:V):Prop:= ∀i o n c,v= .sl i o n c-> ∀i' o' n' c',u= .sl i' o' n' c'->i≠i'
theorem Own.dis (x:Own h v sz ws b)(y:Own h' u sz us h.next):GN v u:=by
 intro i o n c e c c c c d;rcases x with ⟨f,_⟩|⟨id,k,c,c,f,_,_,_,c,_⟩
 ·rw[f] at e;cases e
 ·rw[f] at e;cases e
  rcases y with ⟨g,_⟩|⟨c,c,c,c,g,_,_,c,_⟩
  ·rw[g] at d;cases d
  ·rw[g] at d;cases d
   omega
theorem Own.set {P:Nat}(x:Own h v sz ws b)(d:P<b)(o:Option Ob):Own (h.set P o) v sz ws b:=
 x.mono (fH _) λid _ _ _ _ c _=>H.aI h om o
theorem Vk {z1 z2:V}(i:v.cells= [v])(c:v.one=true)(g:u.cells= [u])(d:u.one=true):kU [z1,z2] [(0,1,v),(1,1,u)]=some (.agg [v,u]):=by
 have f:putAt [z1,z2] 0 [v]=some [v,z2]:=by simp [putAt]
 have e:putAt [v,z2] 1 [u]=some [v,u]:=by simp [putAt]
 simp only[kU,gG,i,g,List.length_singleton,List.all_cons,List.all_nil,c,d,Bool.and_self,and_self,if_true,f,e,Option.map_some]
theorem zN (z:List V):kU z []=some (.agg z):=rfl
theorem Eh (h:H)(c:v.one=true)(d:u.one=true):Bk h (.agg [v,u])=some (.ptr h.next 0,h.new (.cells false [v,u])):=rT h _ (by simp [c,d])
theorem Wr (h:H)(id off:Nat)(c:v.one=true)(d:u.one=true):Kz h 2 (.ptr id off) (.agg [v,u])=dS (h.get id) h id off [v,u]:=pY h id off 2 _ rfl (by simp [c,d])
theorem Iy {y:V}(h:H)(id:Nat):dS (some (.cells false [x,y])) h id 0 [v,u]=some (h.set id (some (.cells false [v,u]))):=by
 simp [dS,putAt]
theorem Zv (c:h.get id=some (.cells ro [v,u])):h.row id 0 2=some [v,u]:=by
 simp [H.row,c,sub]
def Zj (h:H)(j:I)(v:V):Bool:=match cW (xv [] []) h j with|some (u,_)=>dJ u v|none=>false
theorem Mi (cks:List Nat)(k:Nat)(j:I)(v:V)(c:Log)(h:H):mC cks ((k,j,v)::c) h=((!cks.contains k||Zj h j v)&&mC cks c h):=rfl
theorem Km (cks:List Nat)(h:H):mC cks [] h=true:=rfl
def FG (o:Option V)(v:V):Bool:=match o with|some u=>dJ u v|none=>false
theorem Ue (u v:V):FG (some u) v=dJ u v:=rfl
theorem Zo (h:H)(x v:V):Zj h (.ld false 1 (.c x)) v=FG (Bn h x) v:=by
 unfold Zj;rw[Hm,EC];cases Bn h x<;>rfl
theorem Yl (h:H)(n:Nat)(x v:V):Zj h (.ld true n (.c x)) v=FG (Kx h n x) v:=by
 unfold Zj;rw[Ow,EC];cases Kx h n x<;>rfl
theorem Yr (k:IntKind)(a:Int):dJ (.int k a) (.int k a)=true:=by simp [dJ]
theorem Xg (a:Bool):dJ (.bool a) (.bool a)=true:=by simp [dJ]
theorem Yi (a b:Nat):dJ (.ptr a b) (.ptr a b)=true:=by simp [dJ]
theorem Yp (a b:List V):dJ (.agg a) (.agg b)=nJ a b:=by simp [dJ]
theorem Ws:nJ [] []=true:=by simp [nJ]
theorem Sf (a b:V)(as c:List V):nJ (a::as) (b::c)=(dJ a b&&nJ as c):=by simp [nJ]
theorem SV.dJ {h:H}{v:V}{sz:Nat}{ws:List V}(s:SV h v sz ws):dJ v v=true:=by
 rcases s with ⟨rfl|⟨a,rfl⟩,_⟩|⟨id,off,len,c,ro,c,rfl,_⟩<;>simp [Ay.dJ]
theorem BB (i:Nat)(d:D)(g:Option (X×Bool))(j:I)(al:Bool)(cks:List Nat)(c:List V)(v:V)(e:Log):yT ⟨i,⟨d,g,.op j⟩,al,cks⟩ c v e=if j.mN then (i,j.close (xv c []),v)::e else e:=rfl
theorem Su (i:Nat)(d:D)(g:Option (X×Bool))(f:Nat)(xs:List X)(al:Bool)(cks:List Nat)(c:List V)(v:V)(e:Log):yT ⟨i,⟨d,g,.call f xs⟩,al,cks⟩ c v e=e:=rfl
theorem Mv (i:Nat)(d:D)(g:Option (X×Bool))(f:X)(xs:List X)(al:Bool)(cks:List Nat)(c:List V)(v:V)(e:Log):yT ⟨i,⟨d,g,.callv f xs⟩,al,cks⟩ c v e=e:=rfl
theorem Mg (i:Nat)(d:D)(g:Option (X×Bool))(f:Nat)(xs:List X)(al:Bool)(cks:List Nat)(c:List V)(v:V)(e:Log):yT ⟨i,⟨d,g,.callp f xs⟩,al,cks⟩ c v e=e:=rfl
attribute [go_sem] Mi Km Ue Zo Yl Yr Xg Yi Yp Ws Sf BB Su Mv Mg I.mN I.close List.contains_cons List.contains_nil Nat.reduceBEq Bool.or_false Bool.false_or Bool.or_true Bool.true_or Bool.and_true Bool.true_and
def BX (o:Option (V×H))(m:Nat):Option (V×H):=match o with|some (v,h')=>some (v,H.mk h'.tr m)|none=>none
theorem AF (c:List V)(h:H)(n:Nat)(i:I):zJ c h n (.op i)=BX (cW (xv c []) (H.mk h.tr n) i) h.next:=rfl
theorem Ln (v:V)(h':H)(m:Nat):BX (some (v,h')) m=some (v,H.mk h'.tr m):=rfl
attribute [go_sem] AF Ln
def FJ (l:List V):Nat->V:=λi=>l.getD i .undef
theorem aA {L:List V}{F:(Nat->V)->List V}(h:L=F (FJ L)): ∃g,L=F g:=⟨FJ L,h⟩
theorem Fg {l:List Int}{off:Nat}(c:off<l.length)(h:H)(id:Nat)(x:Int):dS (some (.cells false (ints l))) h id off [.int .i64 x]=some (h.set id (some (.cells false (ints (l.set off x))))):=by
 rw[bE (by rw[aL];exact c),ints_set]
attribute [go_sem] Cd Int.toNat_zero Int.toNat_one Nat.add_zero Nat.zero_add
attribute [go_sem] zN Iy List.getElem?_cons_zero List.getElem?_cons_succ List.getElem?_nil
attribute [go_sem] AW Zi Vg Yt Vj
attribute [go_sem] Fg aL ints_set lZ xJ Yb jY Nat.mul_zero
theorem Qn:(∀{a:Type} (l:List a) (i:Nat) (x:a),(l.set i x).length=l.length)/\(∀{a:Type} (n:Nat) (x:a),(List.replicate n x).length=n)/\(∀{a:Type} (l m:List a),(l++m).length=l.length+m.length)/\(∀{a:Type} (i:Nat) (l:List a),(l.take i).length=min i l.length)/\(∀{a:Type} (i:Nat) (l:List a),(l.drop i).length=l.length-i)/\(∀{a:Type} (x:a) (l:List a),(x::l).length=l.length+1)/\(∀{a:Type},([]:List a).length=0)/\(∀{a b:Type} (f:a->b) (l:List a),(l.map f).length=l.length)/\(∀n:Nat,(List.range n).length=n)/\(∀l:List Int,(ints l).length=l.length):=
 ⟨λ_ _ _=>List.length_set ..,λ_ _=>List.length_replicate ..,λ_ _=>jD ..,λ_ _=>xV ..,λ_ _=>Cg ..,λ_ _=>rfl,rfl,λ_ _=>iK ..,λ_=>zE ..,λ_=>aL _⟩
end
end Go.Ay
