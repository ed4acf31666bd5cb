/- Slices as lists. -/
import Derived.Test.YtapfcpkecmmagaaGreatAy25
namespace Go.Ay
section
variable {l:List Int} {v x u:V} {sz n id off b bytes mid:Nat} {h h' a:H} {ws us:List V} {ro:Bool} {ll:List (List Int)} {k:IntKind}
def ints (l:List Int):List V:=l.map (V.int .i64)
theorem JW:ints []= []:=rfl
theorem FY (a:Int)(l:List Int):ints (a::l)= .int .i64 a::ints l:=rfl
theorem aJ (l:List Int):(ints l).length=l.length:=qX ..
theorem qD (a b:List Int):ints (a++b)=ints a++ints b:=List.map_append ..
theorem ints_set (l:List Int)(i:Nat)(x:Int):(ints l).set i (.int .i64 x)=ints (l.set i x):=by
 simp only[ints,List.map_set]
theorem HK (l:List Int)(i:Nat):(ints l)[i]? =(l[i]?).map (V.int .i64):=by simp [ints]
theorem Mh {i:Nat}(hi:i<l.length):(ints l)[i]? =some (.int .i64 (l.getD i 0)):=by
 rw[HK,iK hi,List.getD_eq_getElem?_getD,iK hi];rfl
theorem Ts: ∀{a b:List Int},ints a=ints b->a=b
 | [], [],_=>rfl
 | [],_::_,h=>by cases h
 |_::_, [],h=>by cases h
 |x::a,y::b,h=>by
  simp only[FY,List.cons.injEq,V.int.injEq,true_and] at h;rw[h.1,Ts h.2]
theorem Ie (n:Nat)(x:Int):ints (List.replicate n x)=List.replicate n (.int .i64 x):=by simp [ints]
structure Sl (v:V)(sz n id off:Nat):Prop where
 len:qS v=some n
 ixa: ∀(k:IntKind) (i:Int),0<=i->i<n->Ul sz v (.int k i)=some (.ptr id (off+i.toNat*sz))
 one:v.one=true
 cells:v.cells= [v]
theorem Sl.lens (s:Sl v sz n id off):dM v=some (.int .i64 (n:Int)):=by
 unfold dM;rw[s.len];rfl
def SV (h:H)(v:V)(sz:Nat)(ws:List V):Prop:=(v= .aC∨ ∃a,v= .emp a)/\ws= []∨
 ∃id off len cap ro vs,v= .sl id off len cap/\ws.length=len*sz/\id<h.next/\h.get id=some (.cells ro vs)/\off+len*sz<=vs.length/\(vs.drop off).take (len*sz)=ws
theorem SV.aC (h:H)(sz:Nat):SV h .aC sz []:= .inl ⟨.inl rfl,rfl⟩
theorem SV.emp (h:H)(a:Addr)(sz:Nat):SV h (.emp a) sz []:= .inl ⟨.inr ⟨a,rfl⟩,rfl⟩
theorem SV.mono (s:SV h v sz ws)(f:Fr h h'):SV h' v sz ws:=by
 rcases s with s|⟨id,off,len,cap,ro,vs,h1,h2,h3,h4,h5,h6⟩
 ·exact .inl s
 ·exact .inr ⟨id,off,len,cap,ro,vs,h1,h2,kY h3 f.next,by rw[f.get id h3];exact h4,h5,h6⟩
theorem SV.all {vs:List V}{len:Nat}(hl:vs.length=len*sz)(hid:id<h.next)(hg:h.get id=some (.cells ro vs))(cap:qP):SV h (.sl id 0 len cap) sz vs:=
 .inr ⟨id,0,len,cap,ro,vs,rfl,hl,hid,hg,by omega,by rw[List.drop_zero,←hl,List.take_length]⟩
theorem SV.shape (s:SV h v sz ws)(n:Nat)(hn:ws.length=n*sz)(hz:0<sz): ∃id off,Sl v sz n id off/\(0<n->id<h.next)/\ ∀i,i<ws.length->h.cell id (off+i)=ws[i]? :=by
 rcases s with ⟨hv,rfl⟩|⟨id,off,len,cap,ro,vs,rfl,h2,h3,h4,h5,h6⟩
 ·have:n=0:=by
   cases n with
   |zero=>rfl
   |succ n=>simp [Nat.succ_mul] at hn;omega
  subst this;rcases hv with rfl|⟨a,rfl⟩<;>exact⟨0,0,⟨rfl,λk i h1 h2=>by omega,rfl,rfl⟩,λh=>by omega,λi hi=>by simp at hi⟩
 ·have hlen:len=n:=by
   rw[h2] at hn;exact Nat.eq_of_mul_eq_mul_right hz hn
  subst hlen;refine⟨id,off,⟨rfl,λk i h1 h2=>Ds h1 h2,rfl,rfl⟩,λ_=>h3,λi hi=>?_⟩;rw[H.aE h4,←h6,List.getElem?_take_of_lt (by omega),List.getElem?_drop]
theorem SV.slice (s:SV h v sz ws):h.slice sz v=some ws:=by
 rcases s with ⟨rfl|⟨a,rfl⟩,rfl⟩|⟨id,off,len,cap,ro,vs,rfl,h2,h3,h4,h5,h6⟩
 ·rfl
 ·rfl
 ·simp only[H.slice,H.row,h4,sub]
  rw[if_pos h5,h6]
theorem SV.len (s:SV h v sz ws)(hn:ws.length=n*sz)(hz:0<sz):qS v=some n:=by
 obtain⟨id,off,s,_⟩:=s.shape n hn hz;exact s.len
def SI (h:H)(v:V)(l:List Int):Prop:=SV h v 1 (ints l)
theorem SI.aC (h:H):SI h .aC []:=SV.aC h 1
theorem SI.emp (h:H)(a:Addr):SI h (.emp a) []:=SV.emp h a 1
theorem SI.mono (s:SI h v l)(f:Fr h h'):SI h' v l:=SV.mono s f
theorem SI.own (hid:id<h.next)(hg:h.get id=some (.cells ro (ints l)))(cap:qP):SI h (.sl id 0 l.length cap) l:=
 SV.all (by rw[aJ,Nat.mul_one]) hid hg cap
theorem SI.open (s:SI h v l): ∃id off,Sl v 1 l.length id off/\(0<l.length->id<h.next)/\ ∀i:Nat,i<l.length->h.cell id (off+i)=some (.int .i64 (l.getD i 0)):=by
 obtain⟨id,off,h1,h2,h3⟩:=SV.shape s l.length (by rw[aJ,Nat.mul_one]) (by omega);refine⟨id,off,h1,h2,λi i1=>?_⟩;rw[h3 i (by rw[aJ];omega),Mh i1]
theorem SI.len (s:SI h v l):qS v=some l.length:=SV.len s (by rw[aJ,Nat.mul_one]) (by omega)
theorem SI.lens (s:SI h v l):dM v=some (.int .i64 (l.length:Int)):=by unfold dM;rw[s.len];rfl
theorem Ci (f:Fr h h'){F:Nat->V}(hid:0<n->id<h.next)(hc: ∀i:Nat,i<n->h.cell id (off+i)=some (F i)): ∀i:Nat,i<n->h'.cell id (off+i)=some (F i):=λi i1=>by
 rw[f.cell (hid (by omega))];exact hc i i1
def bY {α β:Type}(R:α->β->Prop):List α->List β->Prop
 | [], []=>True
 |a::as,b::bs=>R a b/\bY R as bs
 |_,_=>False
theorem bY.length {α β:Type}{R:α->β->Prop}: ∀{as:List α} {bs:List β},bY R as bs->as.length=bs.length
 | [], [],_=>rfl
 |_::_,_::_,h=>by rw[List.length_cons,List.length_cons,bY.length h.2]
 | [],_::_,h=>h.elim
 |_::_, [],h=>h.elim
theorem bY.mono {α β:Type}{R S:α->β->Prop}(k: ∀a b,R a b->S a b): ∀{as:List α} {bs:List β},bY R as bs->bY S as bs
 | [], [],_=>trivial
 |_::_,_::_,h=>⟨k _ _ h.1,bY.mono k h.2⟩
 | [],_::_,h=>h.elim
 |_::_, [],h=>h.elim
theorem bY.get {α β:Type}{R:α->β->Prop}: ∀{as:List α} {bs:List β},bY R as bs-> ∀i (hi:i<as.length) (hj:i<bs.length),R as[i] bs[i]
 |a::as,b::bs,h,0,_,_=>h.1
 |a::as,b::bs,h,i+1,hi,hj=>bY.get h.2 i (by simpa using hi) (by simpa using hj)
 | [],_,_,i,hi,_=>by simp at hi
 |_::_, [],h,_,_,_=>h.elim
theorem bY.append {α β:Type}{R:α->β->Prop}: ∀{as:List α} {bs:List β} {cs:List α} {ds:List β},bY R as bs->bY R cs ds->bY R (as++cs) (bs++ds)
 | [], [],_,_,_,h=>h
 |_::_,_::_,_,_,h,k=>⟨h.1,bY.append h.2 k⟩
 | [],_::_,_,_,h,_=>h.elim
 |_::_, [],_,_,h,_=>h.elim
theorem bY.nC {α β:Type}{R:α->β->Prop}: ∀{as:List α} {bs:List β},as.length=bs.length->(∀i (hi:i<as.length) (hj:i<bs.length),R as[i] bs[i])->bY R as bs
 | [], [],_,_=>trivial
 |a::as,b::bs,hl,h=>⟨h 0 (by simp) (by simp),bY.nC (by simpa using hl) λi hi hj=>h (i+1) (by simpa using hi) (by simpa using hj)⟩
 | [],_::_,hl,_=>by simp at hl
 |_::_, [],hl,_=>by simp at hl
theorem bY.set {α β:Type}{R:α->β->Prop}: ∀{as:List α} {bs:List β},bY R as bs-> ∀(i:Nat) {a:α} {b:β},R a b->bY R (as.set i a) (bs.set i b)
 | [], [],_,_,_,_,_=>trivial
 |_::_,_::_,h,0,_,_,r=>⟨r,h.2⟩
 |_::_,_::_,h,i+1,_,_,r=>⟨h.1,bY.set h.2 i r⟩
 | [],_::_,h,_,_,_,_=>h.elim
 |_::_, [],h,_,_,_,_=>h.elim
def SR (h:H)(v:V)(ll:List (List Int)):Prop:= ∃ws,SV h v 1 ws/\bY (SI h) ws ll
theorem SR.aC (h:H):SR h .aC []:=⟨[],SV.aC h 1,trivial⟩
theorem SR.mono (s:SR h v ll)(f:Fr h h'):SR h' v ll:=by
 obtain⟨ws,s,a⟩:=s;exact⟨ws,s.mono f,a.mono λ_ _ x=>x.mono f⟩
theorem SR.open (s:SR h v ll): ∃id off ws,Sl v 1 ll.length id off/\(0<ll.length->id<h.next)/\ws.length=ll.length/\(∀i:Nat,i<ll.length->h.cell id (off+i)=some (ws.getD i .undef))/\bY (SI h) ws ll:=by
 obtain⟨ws,s,a⟩:=s;have hl:=a.length;obtain⟨id,off,h1,h2,h3⟩:=s.shape ll.length (by rw[hl,Nat.mul_one]) (by omega);refine⟨id,off,ws,h1,h2,hl,λi i1=>?_,a⟩;rw[h3 i (by omega),List.getD_eq_getElem?_getD,iK (by omega)];rfl
theorem SR.len (s:SR h v ll):qS v=some ll.length:=by
 obtain⟨id,off,ws,h1,_⟩:=s.open;exact h1.len
theorem SR.lens (s:SR h v ll):dM v=some (.int .i64 (ll.length:Int)):=by unfold dM;rw[s.len];rfl
theorem Oi (a:bY (SI h) ws ll){i:Nat}(hi:i<ll.length):SI h (ws.getD i .undef) (ll.getD i []):=by
 have hl:=a.length;rw[List.getD_eq_getElem?_getD,iK (by omega),List.getD_eq_getElem?_getD,iK hi];exact a.get i (by omega) hi
def fC (h:H)(v:V)(sz:Nat)(ws:List V)(b:Nat):Prop:=v= .aC/\ws= []∨
 ∃id n cap rest,v= .sl id 0 n cap/\ws.length=n*sz/\(cap= .un sz∨cap= .kn n/\rest= [])/\b<=id/\id<h.next/\h.get id=some (.cells false (ws++rest))
theorem fC.aC (h:H)(sz b:Nat):fC h .aC sz [] b:= .inl ⟨rfl,rfl⟩
theorem fC.new (h:H)(sz n b:Nat)(ws:List V)(hn:ws.length=n*sz)(hb:b<=h.next):fC (h.new (.cells false ws)) (.sl h.next 0 n (.kn n)) sz ws b:=
 .inr ⟨h.next,n,_, [],rfl,hn,.inr ⟨rfl,rfl⟩,hb,by rw[H.aV];omega,by rw[H.aL,List.append_nil]⟩
theorem fC.sv (o:fC h v sz ws b):SV h v sz ws:=by
 rcases o with o|⟨id,n,cap,rest,rfl,h1,_,_,h2,h3⟩
 ·exact .inl ⟨.inl o.1,o.2⟩
 ·exact .inr ⟨id,0,n,cap,false,ws++rest,rfl,h1,h2,h3,by rw[oS];omega,by rw[List.drop_zero,←h1,List.take_left]⟩
theorem fC.le {c:Nat}(o:fC h v sz ws b)(hc:c<=b):fC h v sz ws c:=by
 rcases o with o|⟨id,n,cap,rest,h0,h1,h2,h3,h4⟩
 ·exact .inl o
 ·exact .inr ⟨id,n,cap,rest,h0,h1,h2,Nat.le_trans hc h3,h4⟩
def dO (v:V)(k:Nat):Prop:= ∀id off n c,v= .sl id off n c->k≠id
theorem dO.aC (k:Nat):dO .aC k:=λ_ _ _ _ h=>by cases h
theorem dO.sl {k:Nat}{c:qP}(h:k≠id):dO (.sl id off n c) k:=λ_ _ _ _ e=>by cases e;exact h
theorem fC.mono (o:fC h v sz ws b)(hn:h.next<=h'.next)(hg: ∀id off n c,v= .sl id off n c->b<=id->id<h.next->h'.get id=h.get id):fC h' v sz ws b:=by
 rcases o with o|⟨id,n,cap,rest,rfl,h1,h2,h3,h4,h5⟩
 ·exact .inl o
 ·exact .inr ⟨id,n,cap,rest,rfl,h1,h2,h3,kY h4 hn,by rw[hg id 0 n cap rfl h3 h4];exact h5⟩
theorem fC.fr {h h':H}{v:V}{sz:Nat}{ws:List V}{b:Nat}(o:fC h v sz ws b)(f:Fr h h'):fC h' v sz ws b:=
 o.mono f.next λid _ _ _ _ _ hid=>f.get id hid
structure abA (h:H)(x:V)(sz n m:Nat)(ws us:List V)(b:Nat)(v:V)(h':H):Prop where
 own:fC h' v sz (ws++us) b
 next:h.next<=h'.next
 get: ∀k,k<h.next->dO x k->h'.get k=h.get k
 fr: ∀a,Fr a h->a.next<=b->Fr a h'
 eD:m=0/\v=x∨ ∃id,v= .sl id 0 (n+m) (.un sz)/\b<=id/\id<h'.next/\h'.get id=some (.cells false (ws++us))
theorem fC.wQ {h:H}{x:V}{sz bytes b:Nat}{ws us:List V}(o:fC h x sz ws b)(hb:b<=h.next){n m:Nat}(hn:ws.length=n*sz)(hm:us.length=m*sz)(hz:0<sz)(room:(2*(n+m)+1000)*bytes<=2^48/\n+m<2^62):
  ∃v h',wQ h sz bytes x m us=some (v,h')/\abA h x sz n m ws us b v h':=by
 have hx:=o.sv
 have hlen:=hx.len hn hz
 have hsl:=hx.slice
 unfold Ay.wQ
 simp only[hlen,hsl]
 by_cases hm0:m=0
 ·subst hm0
  have hu:us= []:=List.eq_nil_of_length_eq_zero (by omega)
  subst hu
  rw[if_pos rfl]
  exact⟨x,h,rfl,by rw[List.append_nil];exact o,jA _,λ_ _ _=>rfl,λ_ f _=>f,.inl ⟨rfl,rfl⟩⟩
 ·rw[if_neg hm0,if_pos room]
  have key: ∀g:H,g.next=h.next->(∀k,k<h.next->dO x k->g.get k=h.get k)->(∀a,Fr a h->a.next<=b->Fr a g)-> ∃v h',some (V.sl h.next 0 (n+m) (.un sz),g.new (.cells false (ws++us)))=some (v,h')/\abA h x sz n m ws us b v h':=by
   intro g gn gg gf;refine⟨_,_,rfl,.inr ⟨h.next,n+m,.un sz, [],rfl,by rw[oS,hn,hm,Nat.add_mul],.inl rfl,hb,by rw[H.aV];omega,by rw[←gn,H.aL,List.append_nil]⟩,by rw[H.aV];omega,λk hk ha=>?_,λa f ha=>(gf a f ha).new _,.inr ⟨_,rfl,hb,by rw[H.aV];omega,by rw[←gn,H.aL]⟩⟩;rw[H.bE g (by omega)];exact gg k hk ha
  rcases o with ⟨rfl,rfl⟩|⟨id,n',cap,rest,rfl,h1,h2,h3,h4,h5⟩
  ·exact key h rfl (λ_ _ _=>rfl) (λ_ f _=>f)
  ·have:n'=n:=Nat.eq_of_mul_eq_mul_right hz (h1.symm.trans hn)
   subst this
   rcases h2 with rfl|⟨rfl,rfl⟩
   ·simp only[h5,if_true]
    exact key (h.set id none) rfl (λk hk ha=>H.aH h (ha id 0 n' _ rfl) none) (λa f ha=>f.set (Nat.le_trans ha h3) none)
   ·simp only
    rw[if_neg (by omega)]
    exact key h rfl (λ_ _ _=>rfl) (λ_ f _=>f)
theorem fC.app {y:V}(o:fC h x sz ws b)(hb:b<=h.next)(hy:SV h y sz us){m:Nat}(hn:ws.length=n*sz)(hm:us.length=m*sz)(hz:0<sz)(room:(2*(n+m)+1000)*bytes<=2^48/\n+m<2^62):
  ∃v h',Bk h sz bytes x y=some (v,h')/\abA h x sz n m ws us b v h':=by
 have e1:Bk h sz bytes x y=Ay.wQ h sz bytes x m us:=by
  simp only[Bk,hy.len hm hz,hy.slice]
 rw[e1]
 exact o.wQ hb hn hm hz room
def acD (h:H)(sz bytes:Nat)(zero:List V)(x n:V):Option (V×H):=match n with
  | .int .i64 n=>if 0<=n/\n*bytes<=2^48/\n<2^62/\zero.length=sz then wQ h sz bytes x n.toNat (eE zero (n.toNat*sz)) else none
  |_=>none
theorem UB (ρ:X->V)(h:H)(sz bytes:Nat)(zero:List V)(x n:X):cK ρ h (.apz sz bytes zero x n)=acD h sz bytes zero (ρ x) (ρ n):=by
 simp only[cK,acD];cases ρ n<;>rfl
def Tj (h:H)(mid x:Nat):Prop:= ∀es n v,h.get mid=some (.map es)->yV .i64 n es=some v-> ∀off len c,v≠ .sl x off len c
structure Rm (mid:Nat)(h h':H):Prop where
 next:h.next<=h'.next
 get: ∀id,id<h.next->id≠mid->h'.get id=h.get id
 av:mid<h.next-> ∀x,x<h.next->Tj h mid x->Tj h' mid x
theorem Rm.refl (mid:Nat)(h:H):Rm mid h h:=⟨jA _,λ_ _ _=>rfl,λ_ _ _ h=>h⟩
theorem Rm.trans {b c:H}(x:Rm mid a b)(y:Rm mid b c):Rm mid a c:=
 ⟨Nat.le_trans x.next y.next,λid hid hne=>(y.get id (kY hid x.next) hne).trans (x.get id hid hne),λhm k hk h=>y.av (kY hm x.next) k (kY hk x.next) (x.av hm k hk h)⟩
theorem Tj.fr {b:H}{x:Nat}(h:Tj a mid x)(hm:b.get mid=a.get mid):Tj b mid x:=λes n v h1 h2=>h es n v (hm▸h1) h2
theorem Fr.toM {b:H}(x:Fr a b)(mid:Nat):Rm mid a b:=⟨x.next,λid hid _=>x.get id hid,λhm _ _ h=>h.fr (x.get mid hm)⟩
theorem Rm.bJ {b:H}(x:Rm mid a b)(hn:b.next<=n):Rm mid a (H.mk b.tr n):=⟨Nat.le_trans x.next hn,λk hk hne=>(H.oZ b n k).trans (x.get k hk hne),λhm k hk h=>(x.av hm k hk h).fr (H.oZ b n mid)⟩
theorem Rm.new {b:H}(x:Rm mid a b)(o:Ob):Rm mid a (b.new o):=x.trans (((Fr.refl b).new o).toM mid)
theorem Rm.set {b:H}(x:Rm mid a b)(hid:a.next<=id)(o:Option Ob):Rm mid a (b.set id o):=
 ⟨x.next,λk hk hne=>(H.aH b (by omega) o).trans (x.get k hk hne),λhm k hk h=>(x.av hm k hk h).fr (H.aH b (by omega) o)⟩
theorem Rm.cell {b:H}(x:Rm mid a b)(hid:id<a.next)(hne:id≠mid)(off:Nat):b.cell id off=a.cell id off:=by unfold H.cell;rw[x.get id hid hne]
def ZR (o:Option Ob)(zero:V)(ok:Bool)(kk:IntKind)(n:Int):Option V:=match o with
 |some (.map es)=>if tK kk es then
   match yV kk n es with
   |some v=>some (if ok then .tup [v,.bool true] else v)
   |none=>some (if ok then .tup [zero,.bool false] else zero)
  else none
 |_=>none
def aaV (h:H)(zero:V)(ok:Bool)(x k:V):Option V:=match x,k with
 | .mp id,.int kk n=>ZR (h.get id) zero ok kk n
 |_,_=>none
theorem QR (h:H)(zero:V)(ok:Bool)(id:Nat)(kk:IntKind)(n:Int):aaV h zero ok (.mp id) (.int kk n)=ZR (h.get id) zero ok kk n:=rfl
theorem RY (ρ:X->V)(h:H)(zero:V)(ok:Bool)(x k:X):cK ρ h (.lkp zero ok x k)=(aaV h zero ok (ρ x) (ρ k)).map (·,h):=by
 simp only[cK,aaV];cases ρ x<;>try rfl
 cases ρ k<;>try rfl
 simp only[ZR];rename_i id kk n
 cases h.get id with
 |none=>rfl
 |some o=>cases o with
  |map es=>
   simp only
   by_cases hk:tK kk es=true
   ·rw[if_pos hk,if_pos hk]
    cases yV kk n es<;>rfl
   ·rw[if_neg hk,if_neg hk];rfl
  |_=>rfl
def KW (o:Option Ob)(h:H)(id:Nat)(kk:IntKind)(n:Int)(y:V):Option H:=match o with
 |some (.map es)=>if tK kk es then some (h.set id (some (.map (Fm kk n y es)))) else none
 |_=>none
def QD (h:H)(x k y:V):Option H:=match x,k with
 | .mp id,.int kk n=>KW (h.get id) h id kk n y
 |_,_=>none
theorem IZ (h:H)(id:Nat)(kk:IntKind)(n:Int)(y:V):QD h (.mp id) (.int kk n) y=KW (h.get id) h id kk n y:=rfl
theorem HS (ρ:X->V)(h:H)(x k y:X):cK ρ h (.mset x k y)=(QD h (ρ x) (ρ k) (ρ y)).map λh'=>(V.undef,h'):=by
 simp only[cK,QD];cases ρ x<;>try rfl
 cases ρ k<;>try rfl
 simp only[KW];rename_i id kk n
 cases h.get id with
 |none=>rfl
 |some o=>cases o with
  |map es=>
   simp only
   by_cases hk:tK kk es=true
   ·rw[if_pos hk,if_pos hk];rfl
   ·rw[if_neg hk,if_neg hk];rfl
  |_=>rfl
theorem sG {zero:List V}{j:IntKind}{l c:Int}(h0:0<=l)(h1:l<=c)(h2:c*bytes<=281474976710656)(h3:c<4611686018427387904):
  Fh h sz bytes zero (.int j l) (.int k c)=some (.sl h.next 0 l.toNat (.kn c.toNat),h.new (.cells false (eE zero (c.toNat*sz)))):=by
 simp only[Fh];rw[if_pos ⟨h0,h1,h2,h3⟩]
theorem Dx (n:Nat):eE [.int .i64 0] n=ints (List.replicate n 0):=by
 rw[Ie];unfold eE;apply List.ext_getElem
 ·simp
 ·intro i h1 h2
  simp [Nat.mod_one]
theorem HM (h:H)(sz:Nat)(zero:List V):uY h sz zero 0 []=some (.sl h.next 0 0 (.kn 0),h.new (.cells false [])):=by
 simp [uY,jQ,eE]
theorem XT {len:Nat}{hi:Int}(h0:0<=hi)(h1:hi<=len):uW 1 (.sl id off len (.un 1)) none (some (.int k hi)) none=some (.sl id off hi.toNat (.un 1)):=by
 simp only[uW,oP];rw[if_pos ⟨h0,h1⟩];simp only[if_true]
 by_cases hl:0<len
 ·rw[if_pos hl];simp
 ·rw[if_neg hl]
  have:hi.toNat=0:=by omega
  simp [this]
theorem aaN {len c:Nat}{hi:Int}(h0:0<=hi)(h1:hi<=c):uW 1 (.sl id off len (.kn c)) none (some (.int k hi)) none=some (.sl id off hi.toNat (.kn c)):=by
 simp only[uW,oP];rw[if_pos ⟨h0,h1⟩];simp
theorem SV.eD (s:SV h v sz ws):v.cells= [v]/\v.one=true/\ ∀k n,v≠ .int k n:=by
 rcases s with ⟨rfl|⟨a,rfl⟩,_⟩|⟨id,off,len,cap,ro,vs,rfl,_⟩
 ·exact⟨rfl,rfl,λk n h=>by cases h⟩
 ·exact⟨rfl,rfl,λk n h=>by cases h⟩
 ·exact⟨rfl,rfl,λk n h=>by cases h⟩
theorem SI.other (s:SI h v l)(hl:l≠ []){P:Nat}(hg:h.get P=some (.cells ro ws))(hw: ∀(i:Nat) (w:V),ws[i]? =some w-> ∀k n,w≠ .int k n)(o:Option Ob):SI (h.set P o) v l:=by
 rcases s with ⟨_,h0⟩|⟨id,off,len,cap,ro',vs,h1,h2,h3,h4,h5,h6⟩
 ·exact absurd (Ts (h0.trans JW.symm)) hl
 ·by_cases e:id=P
  ·subst e
   rw[hg] at h4;cases h4
   cases l with
   |nil=>exact absurd rfl hl
   |cons a l=>
    have:((ws.drop off).take (len*1))[0]? =some (.int .i64 a):=by rw[h6];rfl
    rw[List.getElem?_take] at this;split at this
    ·rw[List.getElem?_drop] at this
     exact absurd rfl (hw _ _ this _ _)
    ·cases this
  ·exact .inr ⟨id,off,len,cap,ro',vs,h1,h2,h3,by rw[H.aH h e];exact h4,h5,h6⟩
def Dis (v u:V):Prop:= ∀i o n c,v= .sl i o n c-> ∀i' o' n' c',u= .sl i' o' n' c'->i≠i'
theorem fC.Hb (x:fC h v sz ws b)(y:fC h' u sz us h.next):Dis v u:=by
 intro i o n c e i' o' n' c' e';rcases x with ⟨h1,_⟩|⟨id,k,cap,rest,h1,_,_,_,h2,_⟩
 ·rw[h1] at e;cases e
 ·rw[h1] at e;cases e
  rcases y with ⟨h3,_⟩|⟨id',k',cap',rest',h3,_,_,h4,_⟩
  ·rw[h3] at e';cases e'
  ·rw[h3] at e';cases e'
   omega
theorem fC.set {P:Nat}(x:fC h v sz ws b)(hP:P<b)(o:Option Ob):fC (h.set P o) v sz ws b:=
 x.mono (jA _) λid _ _ _ _ hid _=>H.aH h (by omega) o
theorem KA {z1 z2:V}(hv:v.cells= [v])(hv1:v.one=true)(hu:u.cells= [u])(hu1:u.one=true):uK [z1,z2] [(0,1,v),(1,1,u)]=some (.agg [v,u]):=by
 have e1:putAt [z1,z2] 0 [v]=some [v,z2]:=by simp [putAt]
 have e2:putAt [v,z2] 1 [u]=some [v,u]:=by simp [putAt]
 simp only[uK,jQ,hv,hu,List.length_singleton,List.all_cons,List.all_nil,hv1,hu1,Bool.and_self,and_self,if_true,e1,e2,Option.map_some]
theorem NT (z:List V):uK z []=some (.agg z):=rfl
theorem Nb (h:H)(hv1:v.one=true)(hu1:u.one=true):Gy h (.agg [v,u])=some (.ptr h.next 0,h.new (.cells false [v,u])):=vG h _ (by simp [hv1,hu1])
theorem Cz (h:H)(id off:Nat)(hv1:v.one=true)(hu1:u.one=true):Zp h 2 (.ptr id off) (.agg [v,u])=fI (h.get id) h id off [v,u]:=zR h id off 2 _ rfl (by simp [hv1,hu1])
theorem zA {y:V}(h:H)(id:Nat):fI (some (.cells false [x,y])) h id 0 [v,u]=some (h.set id (some (.cells false [v,u]))):=by
 simp [fI,putAt]
theorem Pe (hg:h.get id=some (.cells ro [v,u])):h.row id 0 2=some [v,u]:=by
 simp [H.row,hg,sub]
def SN (h:H)(j:I)(v:V):Bool:=match cK (xv [] []) h j with|some (u,_)=>eN u v|none=>false
theorem Ze (cks:List Nat)(k:Nat)(j:I)(v:V)(log:Log)(h:H):qM cks ((k,j,v)::log) h=((!cks.contains k||SN h j v)&&qM cks log h):=rfl
theorem Sa (cks:List Nat)(h:H):qM cks [] h=true:=rfl
def okV (o:Option V)(v:V):Bool:=match o with|some u=>eN u v|none=>false
theorem MK (u v:V):okV (some u) v=eN u v:=rfl
theorem SH (h:H)(x v:V):SN h (.ld false 1 (.c x)) v=okV (Kq h x) v:=by
 unfold SN;rw[On,ZG];cases Kq h x<;>rfl
theorem VO (h:H)(n:Nat)(x v:V):SN h (.ld true n (.c x)) v=okV (Xj h n x) v:=by
 unfold SN;rw[AH,ZG];cases Xj h n x<;>rfl
theorem TA (k:IntKind)(a:Int):eN (.int k a) (.int k a)=true:=by simp [eN]
theorem NQ (a:Bool):eN (.bool a) (.bool a)=true:=by simp [eN]
theorem SZ (a b:Nat):eN (.ptr a b) (.ptr a b)=true:=by simp [eN]
theorem RJ (a b:List V):eN (.agg a) (.agg b)=sJ a b:=by simp [eN]
theorem PZ:sJ [] []=true:=by simp [sJ]
theorem EP (a b:V)(as bs:List V):sJ (a::as) (b::bs)=(eN a b&&sJ as bs):=by simp [sJ]
theorem SV.eN {h:H}{v:V}{sz:Nat}{ws:List V}(s:SV h v sz ws):eN v v=true:=by
 rcases s with ⟨rfl|⟨a,rfl⟩,_⟩|⟨id,off,len,cap,ro,vs,rfl,_⟩<;>simp [Ay.eN]
theorem QQ (i:Nat)(d:D)(g:Option (X×Bool))(j:I)(al:Bool)(cks:List Nat)(vars:List V)(v:V)(log:Log):Gu ⟨i,⟨d,g,.op j⟩,al,cks⟩ vars v log=if j.rJ then (i,j.close (xv vars []),v)::log else log:=rfl
theorem DY (i:Nat)(d:D)(g:Option (X×Bool))(f:Nat)(xs:List X)(al:Bool)(cks:List Nat)(vars:List V)(v:V)(log:Log):Gu ⟨i,⟨d,g,.call f xs⟩,al,cks⟩ vars v log=log:=rfl
theorem Yj (i:Nat)(d:D)(g:Option (X×Bool))(f:X)(xs:List X)(al:Bool)(cks:List Nat)(vars:List V)(v:V)(log:Log):Gu ⟨i,⟨d,g,.callv f xs⟩,al,cks⟩ vars v log=log:=rfl
theorem Xw (i:Nat)(d:D)(g:Option (X×Bool))(f:Nat)(xs:List X)(al:Bool)(cks:List Nat)(vars:List V)(v:V)(log:Log):Gu ⟨i,⟨d,g,.callp f xs⟩,al,cks⟩ vars v log=log:=rfl
attribute [go_sem] Ze Sa MK SH VO TA NQ SZ RJ PZ EP QQ DY Yj Xw I.rJ I.close List.contains_cons List.contains_nil Nat.reduceBEq Bool.or_false Bool.false_or Bool.or_true Bool.true_or Bool.and_true Bool.true_and
def WV (o:Option (V×H))(m:Nat):Option (V×H):=match o with|some (v,h')=>some (v,H.mk h'.tr m)|none=>none
theorem TH (vars:List V)(h:H)(n:Nat)(i:I):Ht vars h n (.op i)=WV (cK (xv vars []) (H.mk h.tr n) i) h.next:=rfl
theorem Zh (v:V)(h':H)(m:Nat):WV (some (v,h')) m=some (v,H.mk h'.tr m):=rfl
attribute [go_sem] TH Zh
def acC (l:List V):Nat->V:=λi=>l.getD i .undef
theorem aA {L:List V}{F:(Nat->V)->List V}(h:L=F (acC L)): ∃g,L=F g:=⟨acC L,h⟩
theorem Ma {l:List Int}{off:Nat}(hlt:off<l.length)(h:H)(id:Nat)(x:Int):fI (some (.cells false (ints l))) h id off [.int .i64 x]=some (h.set id (some (.cells false (ints (l.set off x))))):=by
 rw[aX (by rw[aJ];exact hlt),ints_set]
attribute [go_sem] Int.toNat_natCast Int.toNat_zero Int.toNat_one Nat.add_zero Nat.zero_add
attribute [go_sem] NT zA List.getElem?_cons_zero List.getElem?_cons_succ List.getElem?_nil
attribute [go_sem] UB RY HS QR IZ
attribute [go_sem] Ma aJ ints_set sG Dx HM Nat.mul_one Nat.mul_zero
theorem Qn:(∀{a:Type} (l:List a) (i:Nat) (x:a),(l.set i x).length=l.length)/\(∀{a:Type} (n:Nat) (x:a),(List.replicate n x).length=n)/\(∀{a:Type} (l m:List a),(l++m).length=l.length+m.length)/\(∀{a:Type} (i:Nat) (l:List a),(l.take i).length=min i l.length)/\(∀{a:Type} (i:Nat) (l:List a),(l.drop i).length=l.length-i)/\(∀{a:Type} (x:a) (l:List a),(x::l).length=l.length+1)/\(∀{a:Type},([]:List a).length=0)/\(∀{a b:Type} (f:a->b) (l:List a),(l.map f).length=l.length)/\(∀n:Nat,(List.range n).length=n)/\(∀l:List Int,(ints l).length=l.length):=
 ⟨λ_ _ _=>List.length_set ..,λ_ _=>List.length_replicate ..,λ_ _=>oS ..,λ_ _=>Lm ..,λ_ _=>List.length_drop ..,λ_ _=>rfl,rfl,λ_ _=>qX ..,λ_=>List.length_range ..,λ_=>aJ _⟩
end
end Go.Ay
