/- Slices as lists. -/
import Derived.Test.YtcdbmkidaecdiaaGreatAy25
namespace Go.Ay
section
variable {l:List Int} {v x u:V} {sz n id off b bytes mid:Nat} {h h' a:H} {ws us:List V} {ro:Bool} {ll:List (List Int)}
def ints (l:List Int):List V:=l.map (V.int .i64)
theorem OK:ints []= []:=rfl
theorem IS (a:Int)(l:List Int):ints (a::l)= .int .i64 a::ints l:=rfl
theorem fT (l:List Int):(ints l).length=l.length:=jV ..
theorem uT (a b:List Int):ints (a++b)=ints a++ints b:=List.map_append ..
theorem ints_set (l:List Int)(i:Nat)(x:Int):(ints l).set i (.int .i64 x)=ints (l.set i x):=by
 simp only[ints,List.map_set]
theorem OI (l:List Int)(i:Nat):(ints l)[i]? =(l[i]?).map (V.int .i64):=by simp [ints]
theorem MH {i:Nat}(hi:i<l.length):(ints l)[i]? =some (.int .i64 (l.getD i 0)):=by
 rw[OI,dD hi,WN,dD hi];rfl
theorem Xc: ∀{a b:List Int},ints a=ints b->a=b
 | [], [],_=>rfl
 | [],_::_,h=>by cases h
 |_::_, [],h=>by cases h
 |x::a,y::b,h=>by
  simp only[IS,List.cons.injEq,V.int.injEq,true_and] at h;rw[h.1,Xc h.2]
theorem Ly (n:Nat)(x:Int):ints (List.replicate n x)=List.replicate n (.int .i64 x):=by simp [ints]
structure Sl (v:V)(sz n id off:Nat):Prop where
 len:sW v=some n
 ixa: ∀(k:IntKind) (i:Int),0<=i->i<n->Dz sz v (.int k i)=some (.ptr id (off+i.toNat*sz))
 one:v.one=true
 cells:v.cells= [v]
theorem Sl.lens (s:Sl v sz n id off):bT v=some (.int .i64 (n:Int)):=by
 unfold bT;rw[s.len];rfl
def SV (h:H)(v:V)(sz:Nat)(ws:List V):Prop:=(v= .aE∨ ∃a,v= .emp a)/\ws= []∨
 ∃id off len cap ro vs,v= .sl id off len cap/\ws.length=len*sz/\id<h.next/\h.get id=some (.cells ro vs)/\off+len*sz<=vs.length/\(vs.drop off).take (len*sz)=ws
theorem SV.aE (h:H)(sz:Nat):SV h .aE sz []:= .inl ⟨.inl rfl,rfl⟩
theorem SV.emp (h:H)(a:Addr)(sz:Nat):SV h (.emp a) sz []:= .inl ⟨.inr ⟨a,rfl⟩,rfl⟩
theorem SV.mono (s:SV h v sz ws)(f:Fr h h'):SV h' v sz ws:=by
 rcases s with s|⟨id,off,len,c,ro,o,m,i,d,j,k,p⟩
 ·exact .inl s
 ·exact .inr ⟨id,off,len,c,ro,o,m,i,iW d f.next,by rw[f.get id d];exact j,k,p⟩
theorem SV.all {vs:List V}{len:Nat}(f:vs.length=len*sz)(d:id<h.next)(i:h.get id=some (.cells ro vs))(c:Kh):SV h (.sl id 0 len c) sz vs:=
 .inr ⟨id,0,len,c,ro,vs,rfl,f,d,i,om,by rw[List.drop_zero,←f,List.take_length]⟩
theorem SV.shape (s:SV h v sz ws)(n:Nat)(f:ws.length=n*sz)(p:0<sz): ∃id off,Sl v sz n id off/\(0<n->id<h.next)/\ ∀i,i<ws.length->h.cell id (off+i)=ws[i]? :=by
 rcases s with ⟨o,rfl⟩|⟨id,off,len,t,ro,y,rfl,d,r,m,w,q⟩
 ·have:n=0:=by
   cases n with
   |zero=>rfl
   |succ n=>simp [Nat.succ_mul] at f;omega
  subst this;rcases o with rfl|⟨a,rfl⟩<;>exact⟨0,0,⟨rfl,λk i j d=>om,rfl,rfl⟩,λh=>om,λi hi=>by simp at hi⟩
 ·have c:len=n:=by
   rw[d] at f;exact Nat.eq_of_mul_eq_mul_right p f
  subst c;refine⟨id,off,⟨rfl,λk i j d=>Lg j d,rfl,rfl⟩,λ_=>r,λi hi=>?_⟩;rw[H.aF m,←q,List.getElem?_take_of_lt om,List.getElem?_drop]
theorem SV.slice (s:SV h v sz ws):h.slice sz v=some ws:=by
 rcases s with ⟨rfl|⟨a,rfl⟩,rfl⟩|⟨id,off,len,i,ro,m,rfl,j,k,c,d,f⟩
 ·rfl
 ·rfl
 ·simp only[H.slice,H.row,c,sub]
  rw[bF d,f]
theorem SV.len (s:SV h v sz ws)(d:ws.length=n*sz)(c:0<sz):sW v=some n:=by
 obtain⟨id,off,s,_⟩:=s.shape n d c;exact s.len
def SI (h:H)(v:V)(l:List Int):Prop:=SV h v 1 (ints l)
theorem SI.aE (h:H):SI h .aE []:=SV.aE h 1
theorem SI.emp (h:H)(a:Addr):SI h (.emp a) []:=SV.emp h a 1
theorem SI.mono (s:SI h v l)(f:Fr h h'):SI h' v l:=SV.mono s f
theorem SI.own (d:id<h.next)(f:h.get id=some (.cells ro (ints l)))(c:Kh):SI h (.sl id 0 l.length c) l:=
 SV.all (by rw[fT,uW]) d f c
theorem SI.open (s:SI h v l): ∃id off,Sl v 1 l.length id off/\(0<l.length->id<h.next)/\ ∀i:Nat,i<l.length->h.cell id (off+i)=some (.int .i64 (l.getD i 0)):=by
 obtain⟨id,off,j,c,d⟩:=SV.shape s l.length (by rw[fT,uW]) om;refine⟨id,off,j,c,λi f=>?_⟩;rw[d i (by rw[fT];omega),MH f]
theorem SI.len (s:SI h v l):sW v=some l.length:=SV.len s (by rw[fT,uW]) om
theorem SI.lens (s:SI h v l):bT v=some (.int .i64 (l.length:Int)):=by unfold bT;rw[s.len];rfl
theorem Fe (f:Fr h h'){F:Nat->V}(c:0<n->id<h.next)(d: ∀i:Nat,i<n->h.cell id (off+i)=some (F i)): ∀i:Nat,i<n->h'.cell id (off+i)=some (F i):=λi j=>by
 rw[f.cell (c om)];exact d i j
def aM {α β:Type}(R:α->β->Prop):List α->List β->Prop
 | [], []=>True
 |a::as,b::bs=>R a b/\aM R as bs
 |_,_=>False
theorem aM.length {α β:Type}{R:α->β->Prop}: ∀{as:List α} {bs:List β},aM R as bs->as.length=bs.length
 | [], [],_=>rfl
 |_::_,_::_,h=>by rw[List.length_cons,List.length_cons,aM.length h.2]
 | [],_::_,h=>h.elim
 |_::_, [],h=>h.elim
theorem aM.mono {α β:Type}{R S:α->β->Prop}(k: ∀a b,R a b->S a b): ∀{as:List α} {bs:List β},aM R as bs->aM S as bs
 | [], [],_=>trivial
 |_::_,_::_,h=>⟨k _ _ h.1,aM.mono k h.2⟩
 | [],_::_,h=>h.elim
 |_::_, [],h=>h.elim
theorem aM.get {α β:Type}{R:α->β->Prop}: ∀{as:List α} {bs:List β},aM R as bs-> ∀i (hi:i<as.length) (hj:i<bs.length),R as[i] bs[i]
 |a::as,b::bs,h,0,_,_=>h.1
 |a::as,b::bs,h,i+1,hi,hj=>aM.get h.2 i (by simpa using hi) (by simpa using hj)
 | [],_,_,i,hi,_=>by simp at hi
 |_::_, [],h,_,_,_=>h.elim
theorem aM.append {α β:Type}{R:α->β->Prop}: ∀{as:List α} {bs:List β} {cs:List α} {ds:List β},aM R as bs->aM R cs ds->aM R (as++cs) (bs++ds)
 | [], [],_,_,_,h=>h
 |_::_,_::_,_,_,h,k=>⟨h.1,aM.append h.2 k⟩
 | [],_::_,_,_,h,_=>h.elim
 |_::_, [],_,_,h,_=>h.elim
theorem aM.mQ {α β:Type}{R:α->β->Prop}: ∀{as:List α} {bs:List β},as.length=bs.length->(∀i (hi:i<as.length) (hj:i<bs.length),R as[i] bs[i])->aM R as bs
 | [], [],_,_=>trivial
 |a::as,b::bs,hl,h=>⟨h 0 (by simp) (by simp),aM.mQ (by simpa using hl) λi hi hj=>h (i+1) (by simpa using hi) (by simpa using hj)⟩
 | [],_::_,hl,_=>by simp at hl
 |_::_, [],hl,_=>by simp at hl
theorem aM.set {α β:Type}{R:α->β->Prop}: ∀{as:List α} {bs:List β},aM R as bs-> ∀(i:Nat) {a:α} {b:β},R a b->aM R (as.set i a) (bs.set i b)
 | [], [],_,_,_,_,_=>trivial
 |_::_,_::_,h,0,_,_,r=>⟨r,h.2⟩
 |_::_,_::_,h,i+1,_,_,r=>⟨h.1,aM.set h.2 i r⟩
 | [],_::_,h,_,_,_,_=>h.elim
 |_::_, [],h,_,_,_,_=>h.elim
def SR (h:H)(v:V)(ll:List (List Int)):Prop:= ∃ws,SV h v 1 ws/\aM (SI h) ws ll
theorem SR.aE (h:H):SR h .aE []:=⟨[],SV.aE h 1,trivial⟩
theorem SR.mono (s:SR h v ll)(f:Fr h h'):SR h' v ll:=by
 obtain⟨ws,s,a⟩:=s;exact⟨ws,s.mono f,a.mono λ_ _ x=>x.mono f⟩
theorem SR.open (s:SR h v ll): ∃id off ws,Sl v 1 ll.length id off/\(0<ll.length->id<h.next)/\ws.length=ll.length/\(∀i:Nat,i<ll.length->h.cell id (off+i)=some (ws.getD i .undef))/\aM (SI h) ws ll:=by
 obtain⟨ws,s,a⟩:=s;have c:=a.length;obtain⟨id,off,j,d,f⟩:=s.shape ll.length (by rw[c,uW]) om;refine⟨id,off,ws,j,d,c,λi k=>?_,a⟩;rw[f i om,WN,dD om];rfl
theorem SR.len (s:SR h v ll):sW v=some ll.length:=by
 obtain⟨id,off,ws,c,_⟩:=s.open;exact c.len
theorem SR.lens (s:SR h v ll):bT v=some (.int .i64 (ll.length:Int)):=by unfold bT;rw[s.len];rfl
theorem akD (a:aM (SI h) ws ll){i:Nat}(hi:i<ll.length):SI h (ws.getD i .undef) (ll.getD i []):=by
 have c:=a.length;rw[WN,dD om,WN,dD hi];exact a.get i om hi
def cY (h:H)(v:V)(sz:Nat)(ws:List V)(b:Nat):Prop:=v= .aE/\ws= []∨
 ∃id n cap rest,v= .sl id 0 n cap/\ws.length=n*sz/\(cap= .un sz∨cap= .kn n/\rest= [])/\b<=id/\id<h.next/\h.get id=some (.cells false (ws++rest))
theorem cY.aE (h:H)(sz b:Nat):cY h .aE sz [] b:= .inl ⟨rfl,rfl⟩
theorem cY.new (h:H)(sz n b:Nat)(ws:List V)(d:ws.length=n*sz)(c:b<=h.next):cY (h.new (.cells false ws)) (.sl h.next 0 n (.kn n)) sz ws b:=
 .inr ⟨h.next,n,_, [],rfl,d,.inr ⟨rfl,rfl⟩,c,by rw[H.aU];omega,by rw[H.aL,vF]⟩
theorem cY.sv (o:cY h v sz ws b):SV h v sz ws:=by
 rcases o with o|⟨id,n,d,c,rfl,f,_,_,i,j⟩
 ·exact .inl ⟨.inl o.1,o.2⟩
 ·exact .inr ⟨id,0,n,d,false,ws++c,rfl,f,i,j,by rw[jZ];omega,by rw[List.drop_zero,←f,List.take_left]⟩
theorem cY.le {c:Nat}(o:cY h v sz ws b)(p:c<=b):cY h v sz ws c:=by
 rcases o with o|⟨id,n,f,d,m,q,i,k,j⟩
 ·exact .inl o
 ·exact .inr ⟨id,n,f,d,m,q,i,mT p k,j⟩
def dL (v:V)(k:Nat):Prop:= ∀id off n c,v= .sl id off n c->k≠id
theorem dL.aE (k:Nat):dL .aE k:=λ_ _ _ _ h=>by cases h
theorem dL.sl {k:Nat}{c:Kh}(h:k≠id):dL (.sl id off n c) k:=λ_ _ _ _ e=>by cases e;exact h
theorem cY.mono (o:cY h v sz ws b)(p:h.next<=h'.next)(k: ∀id off n c,v= .sl id off n c->b<=id->id<h.next->h'.get id=h.get id):cY h' v sz ws b:=by
 rcases o with o|⟨id,n,f,d,rfl,r,m,j,i,q⟩
 ·exact .inl o
 ·exact .inr ⟨id,n,f,d,rfl,r,m,j,iW i p,by rw[k id 0 n f rfl j i];exact q⟩
theorem cY.fr {h h':H}{v:V}{sz:Nat}{ws:List V}{b:Nat}(o:cY h v sz ws b)(f:Fr h h'):cY h' v sz ws b:=
 o.mono f.next λid _ _ _ _ _ c=>f.get id c
structure aeV (h:H)(x:V)(sz n m:Nat)(ws us:List V)(b:Nat)(v:V)(h':H):Prop where
 own:cY h' v sz (ws++us) b
 next:h.next<=h'.next
 get: ∀k,k<h.next->dL x k->h'.get k=h.get k
 fr: ∀a,Fr a h->a.next<=b->Fr a h'
 cK:m=0/\v=x∨ ∃id,v= .sl id 0 (n+m) (.un sz)/\b<=id/\id<h'.next/\h'.get id=some (.cells false (ws++us))
theorem cY.yB {h:H}{x:V}{sz bytes b:Nat}{ws us:List V}(o:cY h x sz ws b)(t:b<=h.next){n m:Nat}(r:ws.length=n*sz)(J:us.length=m*sz)(w:0<sz)(p:(2*(n+m)+1000)*bytes<=2^48/\n+m<2^62):
  ∃v h',yB h sz bytes x m us=some (v,h')/\aeV h x sz n m ws us b v h':=by
 have z:=o.sv
 have j:=z.len r w
 have q:=z.slice
 unfold Ay.yB
 simp only[j,q]
 by_cases i:m=0
 ·subst i
  have O:us= []:=WJ om
  subst O
  rw[bF rfl]
  exact⟨x,h,rfl,by rw[vF];exact o,fM _,λ_ _ _=>rfl,λ_ f _=>f,.inl ⟨rfl,rfl⟩⟩
 ·rw[bI i,bF p]
  have c: ∀g:H,g.next=h.next->(∀k,k<h.next->dL x k->g.get k=h.get k)->(∀a,Fr a h->a.next<=b->Fr a g)-> ∃v h',some (V.sl h.next 0 (n+m) (.un sz),g.new (.cells false (ws++us)))=some (v,h')/\aeV h x sz n m ws us b v h':=by
   intro g B F L;refine⟨_,_,rfl,.inr ⟨h.next,n+m,.un sz, [],rfl,by rw[jZ,r,J,Nat.add_mul],.inl rfl,t,by rw[H.aU];omega,by rw[←B,H.aL,vF]⟩,by rw[H.aU];omega,λk s d=>?_,λa f d=>(L a f d).new _,.inr ⟨_,rfl,t,by rw[H.aU];omega,by rw[←B,H.aL]⟩⟩;rw[H.bG g om];exact F k s d
  rcases o with ⟨rfl,rfl⟩|⟨id,y,Q,A,rfl,P,G,N,R,K⟩
  ·exact c h rfl (λ_ _ _=>rfl) (λ_ f _=>f)
  ·have:y=n:=Nat.eq_of_mul_eq_mul_right w (P.symm.trans r)
   subst this
   rcases G with rfl|⟨rfl,rfl⟩
   ·simp only[K,if_true]
    exact c (h.set id none) rfl (λk s d=>H.aG h (d id 0 y _ rfl) none) (λa f d=>f.set (mT d N) none)
   ·simp only
    rw[bI om]
    exact c h rfl (λ_ _ _=>rfl) (λ_ f _=>f)
theorem cY.app {y:V}(o:cY h x sz ws b)(p:b<=h.next)(d:SV h y sz us){m:Nat}(j:ws.length=n*sz)(f:us.length=m*sz)(i:0<sz)(c:(2*(n+m)+1000)*bytes<=2^48/\n+m<2^62):
  ∃v h',xQ h sz bytes x y=some (v,h')/\aeV h x sz n m ws us b v h':=by
 have k:xQ h sz bytes x y=Ay.yB h sz bytes x m us:=by
  simp only[xQ,d.len f i,d.slice]
 rw[k]
 exact o.yB p j f i c
def ahD (h:H)(sz bytes:Nat)(zero:List V)(x n:V):Option (V×H):=match n with
  | .int .i64 n=>if 0<=n/\n*bytes<=2^48/\n<2^62/\zero.length=sz then yB h sz bytes x n.toNat (cX zero (n.toNat*sz)) else none
  |_=>none
theorem YZ (ρ:X->V)(h:H)(sz bytes:Nat)(zero:List V)(x n:X):cI ρ h (.apz sz bytes zero x n)=ahD h sz bytes zero (ρ x) (ρ n):=by
 simp only[cI,ahD];cases ρ n<;>rfl
def Zl (h:H)(mid x:Nat):Prop:= ∀es n v,h.get mid=some (.map es)->zQ .i64 n es=some v-> ∀off len c,v≠ .sl x off len c
structure Wk (mid:Nat)(h h':H):Prop where
 next:h.next<=h'.next
 get: ∀id,id<h.next->id≠mid->h'.get id=h.get id
 av:mid<h.next-> ∀x,x<h.next->Zl h mid x->Zl h' mid x
theorem Wk.refl (mid:Nat)(h:H):Wk mid h h:=⟨fM _,λ_ _ _=>rfl,λ_ _ _ h=>h⟩
theorem Wk.trans {b c:H}(x:Wk mid a b)(y:Wk mid b c):Wk mid a c:=
 ⟨mT x.next y.next,λid f d=>(y.get id (iW f x.next) d).trans (x.get id f d),λi k j h=>y.av (iW i x.next) k (iW j x.next) (x.av i k j h)⟩
theorem Zl.fr {b:H}{x:Nat}(h:Zl a mid x)(c:b.get mid=a.get mid):Zl b mid x:=λi n v f d=>h i n v (c▸f) d
theorem Fr.toM {b:H}(x:Fr a b)(mid:Nat):Wk mid a b:=⟨x.next,λid c _=>x.get id c,λd _ _ h=>h.fr (x.get mid d)⟩
theorem Wk.bA {b:H}(x:Wk mid a b)(i:b.next<=n):Wk mid a (H.mk b.tr n):=⟨mT x.next i,λk d c=>(H.pY b n k).trans (x.get k d c),λf k d h=>(x.av f k d h).fr (H.pY b n mid)⟩
theorem Wk.new {b:H}(x:Wk mid a b)(o:Ob):Wk mid a (b.new o):=x.trans (((Fr.refl b).new o).toM mid)
theorem Wk.set {b:H}(x:Wk mid a b)(i:a.next<=id)(o:Option Ob):Wk mid a (b.set id o):=
 ⟨x.next,λk d c=>(H.aG b om o).trans (x.get k d c),λf k d h=>(x.av f k d h).fr (H.aG b om o)⟩
theorem Wk.cell {b:H}(x:Wk mid a b)(d:id<a.next)(c:id≠mid)(off:Nat):b.cell id off=a.cell id off:=by unfold H.cell;rw[x.get id d c]
def adJ (o:Option Ob)(zero:V)(ok:Bool)(kk:IntKind)(n:Int):Option V:=match o with
 |some (.map es)=>if tQ kk es then
   match zQ kk n es with
   |some v=>some (if ok then .tup [v,.bool true] else v)
   |none=>some (if ok then .tup [zero,.bool false] else zero)
  else none
 |_=>none
def afC (h:H)(zero:V)(ok:Bool)(x k:V):Option V:=match x,k with
 | .mp id,.int kk n=>adJ (h.get id) zero ok kk n
 |_,_=>none
theorem abF (h:H)(zero:V)(ok:Bool)(id:Nat)(c:IntKind)(n:Int):afC h zero ok (.mp id) (.int c n)=adJ (h.get id) zero ok c n:=rfl
theorem ZC (ρ:X->V)(h:H)(zero:V)(ok:Bool)(x k:X):cI ρ h (.lkp zero ok x k)=(afC h zero ok (ρ x) (ρ k)).map (·,h):=by
 simp only[cI,afC];cases ρ x<;>try rfl
 cases ρ k<;>try rfl
 simp only[adJ];rename_i id d n
 cases h.get id with
 |none=>rfl
 |some o=>cases o with
  |map es=>
   simp only
   by_cases c:tQ d es=true
   ·rw[bF c,bF c]
    cases zQ d n es<;>rfl
   ·rw[bI c,bI c];rfl
  |_=>rfl
def SN (o:Option Ob)(h:H)(id:Nat)(kk:IntKind)(n:Int)(y:V):Option H:=match o with
 |some (.map es)=>if tQ kk es then some (h.set id (some (.map (Ih kk n y es)))) else none
 |_=>none
def TT (h:H)(x k y:V):Option H:=match x,k with
 | .mp id,.int kk n=>SN (h.get id) h id kk n y
 |_,_=>none
theorem VF (h:H)(id:Nat)(c:IntKind)(n:Int)(y:V):TT h (.mp id) (.int c n) y=SN (h.get id) h id c n y:=rfl
theorem SU (ρ:X->V)(h:H)(x k y:X):cI ρ h (.mset x k y)=(TT h (ρ x) (ρ k) (ρ y)).map λh'=>(V.undef,h'):=by
 simp only[cI,TT];cases ρ x<;>try rfl
 cases ρ k<;>try rfl
 simp only[SN];rename_i id d n
 cases h.get id with
 |none=>rfl
 |some o=>cases o with
  |map es=>
   simp only
   by_cases c:tQ d es=true
   ·rw[bF c,bF c];rfl
   ·rw[bI c,bI c];rfl
  |_=>rfl
theorem tU {zero:List V}{j k:IntKind}{l c:Int}(f:0<=l)(d:l<=c)(h2:c*bytes<=281474976710656)(h3:c<4611686018427387904):
  Jo h sz bytes zero (.int j l) (.int k c)=some (.sl h.next 0 l.toNat (.kn c.toNat),h.new (.cells false (cX zero (c.toNat*sz)))):=by
 simp only[Jo];rw[bF ⟨f,d,h2,h3⟩]
theorem Jf (n:Nat):cX [.int .i64 0] n=ints (List.replicate n 0):=by
 rw[Ly];unfold cX;apply List.ext_getElem
 ·simp
 ·intro i d c
  simp [Nat.mod_one]
theorem TV (h:H)(sz:Nat)(zero:List V):lQ h sz zero 0 []=some (.sl h.next 0 0 (.kn 0),h.new (.cells false [])):=by
 simp [lQ,iS,cX]
theorem SV.cK (s:SV h v sz ws):v.cells= [v]/\v.one=true/\ ∀k n,v≠ .int k n:=by
 rcases s with ⟨rfl|⟨a,rfl⟩,_⟩|⟨id,off,len,c,ro,d,rfl,_⟩
 ·exact⟨rfl,rfl,λk n h=>by cases h⟩
 ·exact⟨rfl,rfl,λk n h=>by cases h⟩
 ·exact⟨rfl,rfl,λk n h=>by cases h⟩
theorem SV.st1 (s:SV h v sz ws)(h':H)(id off:Nat):Wj h' 1 (.ptr id off) v=dX (h'.get id) h' id off [v]:=Fw s.cK.1 s.cK.2.1 h' id off
theorem SI.other (s:SI h v l)(j:l≠ []){P:Nat}(p:h.get P=some (.cells ro ws))(r: ∀(i:Nat) (w:V),ws[i]? =some w-> ∀k n,w≠ .int k n)(o:Option Ob):SI (h.set P o) v l:=by
 rcases s with ⟨_,z⟩|⟨id,off,len,f,d,A,y,q,t,c,B,m⟩
 ·exact absurd (Xc (z.trans OK.symm)) j
 ·by_cases e:id=P
  ·subst e
   rw[p] at c;cases c
   cases l with
   |nil=>exact absurd rfl j
   |cons a l=>
    have:((ws.drop off).take (len*1))[0]? =some (.int .i64 a):=by rw[m];rfl
    rw[List.getElem?_take] at this;split at this
    ·rw[List.getElem?_drop] at this
     exact absurd rfl (r _ _ this _ _)
    ·cases this
  ·exact .inr ⟨id,off,len,f,d,A,y,q,t,by rw[H.aG h e];exact c,B,m⟩
def Dis (v u:V):Prop:= ∀i o n c,v= .sl i o n c-> ∀i' o' n' c',u= .sl i' o' n' c'->i≠i'
theorem cY.IQ (x:cY h v sz ws b)(y:cY h' u sz us h.next):Dis v u:=by
 intro i o n c e F z A G d;rcases x with ⟨m,_⟩|⟨id,k,s,q,m,_,_,_,t,_⟩
 ·rw[m] at e;cases e
 ·rw[m] at e;cases e
  rcases y with ⟨f,_⟩|⟨r,B,p,j,f,_,_,w,_⟩
  ·rw[f] at d;cases d
  ·rw[f] at d;cases d
   omega
theorem cY.set {P:Nat}(x:cY h v sz ws b)(d:P<b)(o:Option Ob):cY (h.set P o) v sz ws b:=
 x.mono (fM _) λid _ _ _ _ c _=>H.aG h om o
theorem PW {z1 z2:V}(j:v.cells= [v])(c:v.one=true)(f:u.cells= [u])(d:u.one=true):rO [z1,z2] [(0,1,v),(1,1,u)]=some (.agg [v,u]):=by
 have i:putAt [z1,z2] 0 [v]=some [v,z2]:=by simp [putAt]
 have k:putAt [v,z2] 1 [u]=some [v,u]:=by simp [putAt]
 simp only[rO,iS,j,f,List.length_singleton,List.all_cons,List.all_nil,c,d,Bool.and_self,and_self,if_true,i,k,Option.map_some]
theorem QN (z:List V):rO z []=some (.agg z):=rfl
theorem wW (h:H)(c:v.one=true)(d:u.one=true):Cv h (.agg [v,u])=some (.ptr h.next 0,h.new (.cells false [v,u])):=tL h _ (by simp [c,d])
theorem Gv (h:H)(id off:Nat)(c:v.one=true)(d:u.one=true):Wj h 2 (.ptr id off) (.agg [v,u])=dX (h.get id) h id off [v,u]:=Cd h id off 2 _ rfl (by simp [c,d])
theorem TJ {y:V}(h:H)(id:Nat):dX (some (.cells false [x,y])) h id 0 [v,u]=some (h.set id (some (.cells false [v,u]))):=by
 simp [dX,putAt]
theorem PB (c:h.get id=some (.cells ro [v,u])):h.row id 0 2=some [v,u]:=by
 simp [H.row,c,sub]
def okE (h:H)(j:I)(v:V):Bool:=match cI (xv [] []) h j with|some (u,_)=>dE u v|none=>false
theorem DW (cks:List Nat)(k:Nat)(j:I)(v:V)(c:Log)(h:H):rI cks ((k,j,v)::c) h=((!cks.contains k||okE h j v)&&rI cks c h):=rfl
theorem Ww (cks:List Nat)(h:H):rI cks [] h=true:=rfl
def okV (o:Option V)(v:V):Bool:=match o with|some u=>dE u v|none=>false
theorem UM (u v:V):okV (some u) v=dE u v:=rfl
theorem XM (h:H)(x v:V):okE h (.ld false 1 (.c x)) v=okV (Mr h x) v:=by
 unfold okE;rw[Vd,adK];cases Mr h x<;>rfl
theorem XT (h:H)(n:Nat)(x v:V):okE h (.ld true n (.c x)) v=okV (CM h n x) v:=by
 unfold okE;rw[GG,adK];cases CM h n x<;>rfl
theorem YU (k:IntKind)(a:Int):dE (.int k a) (.int k a)=true:=by simp [dE]
theorem OP (a:Bool):dE (.bool a) (.bool a)=true:=by simp [dE]
theorem ZV (a b:Nat):dE (.ptr a b) (.ptr a b)=true:=by simp [dE]
theorem acN (a b:List V):dE (.agg a) (.agg b)=aoW a b:=by simp [dE]
theorem TO:aoW [] []=true:=by simp [aoW]
theorem LA (a b:V)(c d:List V):aoW (a::c) (b::d)=(dE a b&&aoW c d):=by simp [aoW]
theorem SV.dE {h:H}{v:V}{sz:Nat}{ws:List V}(s:SV h v sz ws):dE v v=true:=by
 rcases s with ⟨rfl|⟨a,rfl⟩,_⟩|⟨id,off,len,c,ro,d,rfl,_⟩<;>simp [Ay.dE]
theorem aoV (i:Nat)(d:D)(g:Option (X×Bool))(j:I)(al:Bool)(cks:List Nat)(c:List V)(v:V)(f:Log):Kz ⟨i,⟨d,g,.op j⟩,al,cks⟩ c v f=if j.sJ then (i,j.close (xv c []),v)::f else f:=rfl
theorem LL (i:Nat)(d:D)(g:Option (X×Bool))(f:Nat)(xs:List X)(al:Bool)(cks:List Nat)(j:List V)(v:V)(c:Log):Kz ⟨i,⟨d,g,.call f xs⟩,al,cks⟩ j v c=c:=rfl
theorem CG (i:Nat)(d:D)(g:Option (X×Bool))(f:X)(xs:List X)(al:Bool)(cks:List Nat)(j:List V)(v:V)(c:Log):Kz ⟨i,⟨d,g,.callv f xs⟩,al,cks⟩ j v c=c:=rfl
theorem EF (i:Nat)(d:D)(g:Option (X×Bool))(f:Nat)(xs:List X)(al:Bool)(cks:List Nat)(j:List V)(v:V)(c:Log):Kz ⟨i,⟨d,g,.callp f xs⟩,al,cks⟩ j v c=c:=rfl
attribute [go_sem] DW Ww UM XM XT YU OP ZV acN TO LA aoV LL CG EF I.sJ I.close List.contains_cons List.contains_nil Nat.reduceBEq Bool.or_false Bool.false_or Bool.or_true Bool.true_or Bool.and_true Bool.true_and
def acW (o:Option (V×H))(m:Nat):Option (V×H):=match o with|some (v,h')=>some (v,H.mk h'.tr m)|none=>none
theorem ZM (c:List V)(h:H)(n:Nat)(i:I):Oq c h n (.op i)=acW (cI (xv c []) (H.mk h.tr n) i) h.next:=rfl
theorem CW (v:V)(h':H)(m:Nat):acW (some (v,h')) m=some (v,H.mk h'.tr m):=rfl
attribute [go_sem] ZM CW
def agQ (l:List V):Nat->V:=λi=>l.getD i .undef
theorem aB {L:List V}{F:(Nat->V)->List V}(h:L=F (agQ L)): ∃g,L=F g:=⟨agQ L,h⟩
theorem ajZ {l:List Int}{off:Nat}(c:off<l.length)(h:H)(id:Nat)(x:Int):dX (some (.cells false (ints l))) h id off [.int .i64 x]=some (h.set id (some (.cells false (ints (l.set off x))))):=by
 rw[bN (by rw[fT];exact c),ints_set]
attribute [go_sem] NK Int.toNat_zero Int.toNat_one Nat.add_zero Nat.zero_add
attribute [go_sem] QN TJ List.getElem?_cons_zero List.getElem?_cons_succ List.getElem?_nil
attribute [go_sem] YZ ZC SU abF VF
attribute [go_sem] ajZ fT ints_set tU Jf TV uW Nat.mul_zero
theorem Qn:(∀{a:Type} (l:List a) (i:Nat) (x:a),(l.set i x).length=l.length)/\(∀{a:Type} (n:Nat) (x:a),(List.replicate n x).length=n)/\(∀{a:Type} (l m:List a),(l++m).length=l.length+m.length)/\(∀{a:Type} (i:Nat) (l:List a),(l.take i).length=min i l.length)/\(∀{a:Type} (i:Nat) (l:List a),(l.drop i).length=l.length-i)/\(∀{a:Type} (x:a) (l:List a),(x::l).length=l.length+1)/\(∀{a:Type},([]:List a).length=0)/\(∀{a b:Type} (f:a->b) (l:List a),(l.map f).length=l.length)/\(∀n:Nat,(List.range n).length=n)/\(∀l:List Int,(ints l).length=l.length):=
 ⟨λ_ _ _=>List.length_set ..,λ_ _=>List.length_replicate ..,λ_ _=>jZ ..,λ_ _=>Fj ..,λ_ _=>AQ ..,λ_ _=>rfl,rfl,λ_ _=>jV ..,λ_=>NM ..,λ_=>fT _⟩
end
end Go.Ay
