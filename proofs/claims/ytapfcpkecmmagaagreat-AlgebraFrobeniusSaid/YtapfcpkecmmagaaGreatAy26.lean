/- Slices as lists. -/
import Derived.Test.YtapfcpkecmmagaaGreatAy25
namespace Go.Ay
section
variable {l:List Int} {v x u:V} {sz n id off b bytes mid:Nat} {h h' a:H} {ws us:List V} {ro:Bool} {ll:List (List Int)} {k:IntKind}
def ints (l:List Int):List V:=l.map (V.int .i64)
theorem Mt:ints []= []:=rfl
theorem Jf (a:Int)(l:List Int):ints (a::l)= .int .i64 a::ints l:=rfl
theorem aN (l:List Int):(ints l).length=l.length:=jS ..
theorem kB (a b:List Int):ints (a++b)=ints a++ints b:=List.map_append ..
theorem ints_set (l:List Int)(i:Nat)(x:Int):(ints l).set i (.int .i64 x)=ints (l.set i x):=by
 simp only[ints,List.map_set]
theorem Nu (l:List Int)(i:Nat):(ints l)[i]? =(l[i]?).map (V.int .i64):=by simp [ints]
theorem yV {i:Nat}(hi:i<l.length):(ints l)[i]? =some (.int .i64 (l.getD i 0)):=by
 rw[Nu,eQ hi,List.getD_eq_getElem?_getD,eQ hi];rfl
theorem Co: ∀{a b:List Int},ints a=ints b->a=b
 | [], [],_=>rfl
 | [],_::_,h=>by cases h
 |_::_, [],h=>by cases h
 |x::a,y::b,h=>by
  simp only[Jf,List.cons.injEq,V.int.injEq,true_and] at h;rw[h.1,Co h.2]
theorem wT (n:Nat)(x:Int):ints (List.replicate n x)=List.replicate n (.int .i64 x):=by simp [ints]
structure Sl (v:V)(sz n id off:Nat):Prop where
 len:kM v=some n
 ixa: ∀(k:IntKind) (i:Int),0<=i->i<n->Cr sz v (.int k i)=some (.ptr id (off+i.toNat*sz))
 one:v.one=true
 cells:v.cells= [v]
theorem Sl.lens (s:Sl v sz n id off):dB v=some (.int .i64 (n:Int)):=by
 unfold dB;rw[s.len];rfl
def SV (h:H)(v:V)(sz:Nat)(ws:List V):Prop:=(v= .aB∨ ∃a,v= .emp a)/\ws= []∨
 ∃id off len cap ro vs,v= .sl id off len cap/\ws.length=len*sz/\id<h.next/\h.get id=some (.cells ro vs)/\off+len*sz<=vs.length/\(vs.drop off).take (len*sz)=ws
theorem SV.aB (h:H)(sz:Nat):SV h .aB sz []:= .inl ⟨.inl rfl,rfl⟩
theorem SV.emp (h:H)(a:Addr)(sz:Nat):SV h (.emp a) sz []:= .inl ⟨.inr ⟨a,rfl⟩,rfl⟩
theorem SV.mono (s:SV h v sz ws)(f:Fr h h'):SV h' v sz ws:=by
 rcases s with s|⟨id,off,len,cap,ro,vs,h1,h2,h3,h4,h5,h6⟩
 ·exact .inl s
 ·exact .inr ⟨id,off,len,cap,ro,vs,h1,h2,gE h3 f.next,by rw[f.get id h3];exact h4,h5,h6⟩
theorem SV.all {vs:List V}{len:Nat}(hl:vs.length=len*sz)(hid:id<h.next)(hg:h.get id=some (.cells ro vs))(cap:kL):SV h (.sl id 0 len cap) sz vs:=
 .inr ⟨id,0,len,cap,ro,vs,rfl,hl,hid,hg,by omega,by rw[List.drop_zero,←hl,List.take_length]⟩
theorem SV.shape (s:SV h v sz ws)(n:Nat)(hn:ws.length=n*sz)(hz:0<sz): ∃id off,Sl v sz n id off/\(0<n->id<h.next)/\ ∀i,i<ws.length->h.cell id (off+i)=ws[i]? :=by
 rcases s with ⟨hv,rfl⟩|⟨id,off,len,cap,ro,vs,rfl,h2,h3,h4,h5,h6⟩
 ·have:n=0:=by
   cases n with
   |zero=>rfl
   |succ n=>simp [Nat.succ_mul] at hn;omega
  subst this;rcases hv with rfl|⟨a,rfl⟩<;>exact⟨0,0,⟨rfl,λk i h1 h2=>by omega,rfl,rfl⟩,λh=>by omega,λi hi=>by simp at hi⟩
 ·have hlen:len=n:=by
   rw[h2] at hn;exact Nat.eq_of_mul_eq_mul_right hz hn
  subst hlen;refine⟨id,off,⟨rfl,λk i h1 h2=>rR h1 h2,rfl,rfl⟩,λ_=>h3,λi hi=>?_⟩;rw[H.aF h4,←h6,List.getElem?_take_of_lt (by omega),List.getElem?_drop]
theorem SV.slice (s:SV h v sz ws):h.slice sz v=some ws:=by
 rcases s with ⟨rfl|⟨a,rfl⟩,rfl⟩|⟨id,off,len,cap,ro,vs,rfl,h2,h3,h4,h5,h6⟩
 ·rfl
 ·rfl
 ·simp only[H.slice,H.row,h4,sub]
  rw[if_pos h5,h6]
theorem SV.len (s:SV h v sz ws)(hn:ws.length=n*sz)(hz:0<sz):kM v=some n:=by
 obtain⟨id,off,s,_⟩:=s.shape n hn hz;exact s.len
def SI (h:H)(v:V)(l:List Int):Prop:=SV h v 1 (ints l)
theorem SI.aB (h:H):SI h .aB []:=SV.aB h 1
theorem SI.emp (h:H)(a:Addr):SI h (.emp a) []:=SV.emp h a 1
theorem SI.mono (s:SI h v l)(f:Fr h h'):SI h' v l:=SV.mono s f
theorem SI.own (hid:id<h.next)(hg:h.get id=some (.cells ro (ints l)))(cap:kL):SI h (.sl id 0 l.length cap) l:=
 SV.all (by rw[aN,Nat.mul_one]) hid hg cap
theorem SI.open (s:SI h v l): ∃id off,Sl v 1 l.length id off/\(0<l.length->id<h.next)/\ ∀i:Nat,i<l.length->h.cell id (off+i)=some (.int .i64 (l.getD i 0)):=by
 obtain⟨id,off,h1,h2,h3⟩:=SV.shape s l.length (by rw[aN,Nat.mul_one]) (by omega);refine⟨id,off,h1,h2,λi i1=>?_⟩;rw[h3 i (by rw[aN];omega),yV i1]
theorem SI.len (s:SI h v l):kM v=some l.length:=SV.len s (by rw[aN,Nat.mul_one]) (by omega)
theorem SI.lens (s:SI h v l):dB v=some (.int .i64 (l.length:Int)):=by unfold dB;rw[s.len];rfl
theorem sH (f:Fr h h'){F:Nat->V}(hid:0<n->id<h.next)(hc: ∀i:Nat,i<n->h.cell id (off+i)=some (F i)): ∀i:Nat,i<n->h'.cell id (off+i)=some (F i):=λi i1=>by
 rw[f.cell (hid (by omega))];exact hc i i1
def All2 {α β:Type}(R:α->β->Prop):List α->List β->Prop
 | [], []=>True
 |a::as,b::bs=>R a b/\All2 R as bs
 |_,_=>False
theorem All2.length {α β:Type}{R:α->β->Prop}: ∀{as:List α} {bs:List β},All2 R as bs->as.length=bs.length
 | [], [],_=>rfl
 |_::_,_::_,h=>by rw[List.length_cons,List.length_cons,All2.length h.2]
 | [],_::_,h=>h.elim
 |_::_, [],h=>h.elim
theorem All2.mono {α β:Type}{R S:α->β->Prop}(k: ∀a b,R a b->S a b): ∀{as:List α} {bs:List β},All2 R as bs->All2 S as bs
 | [], [],_=>trivial
 |_::_,_::_,h=>⟨k _ _ h.1,All2.mono k h.2⟩
 | [],_::_,h=>h.elim
 |_::_, [],h=>h.elim
theorem All2.get {α β:Type}{R:α->β->Prop}: ∀{as:List α} {bs:List β},All2 R as bs-> ∀i (hi:i<as.length) (hj:i<bs.length),R as[i] bs[i]
 |a::as,b::bs,h,0,_,_=>h.1
 |a::as,b::bs,h,i+1,hi,hj=>All2.get h.2 i (by simpa using hi) (by simpa using hj)
 | [],_,_,i,hi,_=>by simp at hi
 |_::_, [],h,_,_,_=>h.elim
theorem All2.append {α β:Type}{R:α->β->Prop}: ∀{as:List α} {bs:List β} {cs:List α} {ds:List β},All2 R as bs->All2 R cs ds->All2 R (as++cs) (bs++ds)
 | [], [],_,_,_,h=>h
 |_::_,_::_,_,_,h,k=>⟨h.1,All2.append h.2 k⟩
 | [],_::_,_,_,h,_=>h.elim
 |_::_, [],_,_,h,_=>h.elim
theorem All2.iS {α β:Type}{R:α->β->Prop}: ∀{as:List α} {bs:List β},as.length=bs.length->(∀i (hi:i<as.length) (hj:i<bs.length),R as[i] bs[i])->All2 R as bs
 | [], [],_,_=>trivial
 |a::as,b::bs,hl,h=>⟨h 0 (by simp) (by simp),All2.iS (by simpa using hl) λi hi hj=>h (i+1) (by simpa using hi) (by simpa using hj)⟩
 | [],_::_,hl,_=>by simp at hl
 |_::_, [],hl,_=>by simp at hl
theorem All2.set {α β:Type}{R:α->β->Prop}: ∀{as:List α} {bs:List β},All2 R as bs-> ∀(i:Nat) {a:α} {b:β},R a b->All2 R (as.set i a) (bs.set i b)
 | [], [],_,_,_,_,_=>trivial
 |_::_,_::_,h,0,_,_,r=>⟨r,h.2⟩
 |_::_,_::_,h,i+1,_,_,r=>⟨h.1,All2.set h.2 i r⟩
 | [],_::_,h,_,_,_,_=>h.elim
 |_::_, [],h,_,_,_,_=>h.elim
def SR (h:H)(v:V)(ll:List (List Int)):Prop:= ∃ws,SV h v 1 ws/\All2 (SI h) ws ll
theorem SR.aB (h:H):SR h .aB []:=⟨[],SV.aB h 1,trivial⟩
theorem SR.mono (s:SR h v ll)(f:Fr h h'):SR h' v ll:=by
 obtain⟨ws,s,a⟩:=s;exact⟨ws,s.mono f,a.mono λ_ _ x=>x.mono f⟩
theorem SR.open (s:SR h v ll): ∃id off ws,Sl v 1 ll.length id off/\(0<ll.length->id<h.next)/\ws.length=ll.length/\(∀i:Nat,i<ll.length->h.cell id (off+i)=some (ws.getD i .undef))/\All2 (SI h) ws ll:=by
 obtain⟨ws,s,a⟩:=s;have hl:=a.length;obtain⟨id,off,h1,h2,h3⟩:=s.shape ll.length (by rw[hl,Nat.mul_one]) (by omega);refine⟨id,off,ws,h1,h2,hl,λi i1=>?_,a⟩;rw[h3 i (by omega),List.getD_eq_getElem?_getD,eQ (by omega)];rfl
theorem SR.len (s:SR h v ll):kM v=some ll.length:=by
 obtain⟨id,off,ws,h1,_⟩:=s.open;exact h1.len
theorem SR.lens (s:SR h v ll):dB v=some (.int .i64 (ll.length:Int)):=by unfold dB;rw[s.len];rfl
theorem Fg (a:All2 (SI h) ws ll){i:Nat}(hi:i<ll.length):SI h (ws.getD i .undef) (ll.getD i []):=by
 have hl:=a.length;rw[List.getD_eq_getElem?_getD,eQ (by omega),List.getD_eq_getElem?_getD,eQ hi];exact a.get i (by omega) hi
def Own (h:H)(v:V)(sz:Nat)(ws:List V)(b:Nat):Prop:=v= .aB/\ws= []∨
 ∃id n cap rest,v= .sl id 0 n cap/\ws.length=n*sz/\(cap= .un sz∨cap= .kn n/\rest= [])/\b<=id/\id<h.next/\h.get id=some (.cells false (ws++rest))
theorem Own.aB (h:H)(sz b:Nat):Own h .aB sz [] b:= .inl ⟨rfl,rfl⟩
theorem Own.new (h:H)(sz n b:Nat)(ws:List V)(hn:ws.length=n*sz)(hb:b<=h.next):Own (h.new (.cells false ws)) (.sl h.next 0 n (.kn n)) sz ws b:=
 .inr ⟨h.next,n,_, [],rfl,hn,.inr ⟨rfl,rfl⟩,hb,by rw[H.aV];omega,by rw[H.aM,List.append_nil]⟩
theorem Own.sv (o:Own h v sz ws b):SV h v sz ws:=by
 rcases o with o|⟨id,n,cap,rest,rfl,h1,_,_,h2,h3⟩
 ·exact .inl ⟨.inl o.1,o.2⟩
 ·exact .inr ⟨id,0,n,cap,false,ws++rest,rfl,h1,h2,h3,by rw[jD];omega,by rw[List.drop_zero,←h1,List.take_left]⟩
theorem Own.le {c:Nat}(o:Own h v sz ws b)(hc:c<=b):Own h v sz ws c:=by
 rcases o with o|⟨id,n,cap,rest,h0,h1,h2,h3,h4⟩
 ·exact .inl o
 ·exact .inr ⟨id,n,cap,rest,h0,h1,h2,Nat.le_trans hc h3,h4⟩
def dA (v:V)(k:Nat):Prop:= ∀id off n c,v= .sl id off n c->k≠id
theorem dA.aB (k:Nat):dA .aB k:=λ_ _ _ _ h=>by cases h
theorem dA.sl {k:Nat}{c:kL}(h:k≠id):dA (.sl id off n c) k:=λ_ _ _ _ e=>by cases e;exact h
theorem Own.mono (o:Own h v sz ws b)(hn:h.next<=h'.next)(hg: ∀id off n c,v= .sl id off n c->b<=id->id<h.next->h'.get id=h.get id):Own h' v sz ws b:=by
 rcases o with o|⟨id,n,cap,rest,rfl,h1,h2,h3,h4,h5⟩
 ·exact .inl o
 ·exact .inr ⟨id,n,cap,rest,rfl,h1,h2,h3,gE h4 hn,by rw[hg id 0 n cap rfl h3 h4];exact h5⟩
theorem Own.fr {h h':H}{v:V}{sz:Nat}{ws:List V}{b:Nat}(o:Own h v sz ws b)(f:Fr h h'):Own h' v sz ws b:=
 o.mono f.next λid _ _ _ _ _ hid=>f.get id hid
structure Vz (h:H)(x:V)(sz n m:Nat)(ws us:List V)(b:Nat)(v:V)(h':H):Prop where
 own:Own h' v sz (ws++us) b
 next:h.next<=h'.next
 get: ∀k,k<h.next->dA x k->h'.get k=h.get k
 fr: ∀a,Fr a h->a.next<=b->Fr a h'
 cW:m=0/\v=x∨ ∃id,v= .sl id 0 (n+m) (.un sz)/\b<=id/\id<h'.next/\h'.get id=some (.cells false (ws++us))
theorem Own.oE {h:H}{x:V}{sz bytes b:Nat}{ws us:List V}(o:Own h x sz ws b)(hb:b<=h.next){n m:Nat}(hn:ws.length=n*sz)(hm:us.length=m*sz)(hz:0<sz)(room:(2*(n+m)+1000)*bytes<=2^48/\n+m<2^62):
  ∃v h',oE h sz bytes x m us=some (v,h')/\Vz h x sz n m ws us b v h':=by
 have hx:=o.sv
 have hlen:=hx.len hn hz
 have hsl:=hx.slice
 unfold Ay.oE
 simp only[hlen,hsl]
 by_cases hm0:m=0
 ·subst hm0
  have hu:us= []:=List.eq_nil_of_length_eq_zero (by omega)
  subst hu
  rw[if_pos rfl]
  exact⟨x,h,rfl,by rw[List.append_nil];exact o,eP _,λ_ _ _=>rfl,λ_ f _=>f,.inl ⟨rfl,rfl⟩⟩
 ·rw[if_neg hm0,if_pos room]
  have key: ∀g:H,g.next=h.next->(∀k,k<h.next->dA x k->g.get k=h.get k)->(∀a,Fr a h->a.next<=b->Fr a g)-> ∃v h',some (V.sl h.next 0 (n+m) (.un sz),g.new (.cells false (ws++us)))=some (v,h')/\Vz h x sz n m ws us b v h':=by
   intro g gn gg gf;refine⟨_,_,rfl,.inr ⟨h.next,n+m,.un sz, [],rfl,by rw[jD,hn,hm,Nat.add_mul],.inl rfl,hb,by rw[H.aV];omega,by rw[←gn,H.aM,List.append_nil]⟩,by rw[H.aV];omega,λk hk ha=>?_,λa f ha=>(gf a f ha).new _,.inr ⟨_,rfl,hb,by rw[H.aV];omega,by rw[←gn,H.aM]⟩⟩;rw[H.bG g (by omega)];exact gg k hk ha
  rcases o with ⟨rfl,rfl⟩|⟨id,n',cap,rest,rfl,h1,h2,h3,h4,h5⟩
  ·exact key h rfl (λ_ _ _=>rfl) (λ_ f _=>f)
  ·have:n'=n:=Nat.eq_of_mul_eq_mul_right hz (h1.symm.trans hn)
   subst this
   rcases h2 with rfl|⟨rfl,rfl⟩
   ·simp only[h5,if_true]
    exact key (h.set id none) rfl (λk hk ha=>H.aH h (ha id 0 n' _ rfl) none) (λa f ha=>f.set (Nat.le_trans ha h3) none)
   ·simp only
    rw[if_neg (by omega)]
    exact key h rfl (λ_ _ _=>rfl) (λ_ f _=>f)
theorem Own.app {y:V}(o:Own h x sz ws b)(hb:b<=h.next)(hy:SV h y sz us){m:Nat}(hn:ws.length=n*sz)(hm:us.length=m*sz)(hz:0<sz)(room:(2*(n+m)+1000)*bytes<=2^48/\n+m<2^62):
  ∃v h',qX h sz bytes x y=some (v,h')/\Vz h x sz n m ws us b v h':=by
 have e1:qX h sz bytes x y=Ay.oE h sz bytes x m us:=by
  simp only[qX,hy.len hm hz,hy.slice]
 rw[e1]
 exact o.oE hb hn hm hz room
def Xw (h:H)(sz bytes:Nat)(zero:List V)(x n:V):Option (V×H):=match n with
  | .int .i64 n=>if 0<=n/\n*bytes<=2^48/\n<2^62/\zero.length=sz then oE h sz bytes x n.toNat (dG zero (n.toNat*sz)) else none
  |_=>none
theorem Tv (ρ:X->V)(h:H)(sz bytes:Nat)(zero:List V)(x n:X):cI ρ h (.apz sz bytes zero x n)=Xw h sz bytes zero (ρ x) (ρ n):=by
 simp only[cI,Xw];cases ρ n<;>rfl
def By (h:H)(mid x:Nat):Prop:= ∀es n v,h.get mid=some (.map es)->pL .i64 n es=some v-> ∀off len c,v≠ .sl x off len c
structure Bh (mid:Nat)(h h':H):Prop where
 next:h.next<=h'.next
 get: ∀id,id<h.next->id≠mid->h'.get id=h.get id
 av:mid<h.next-> ∀x,x<h.next->By h mid x->By h' mid x
theorem Bh.refl (mid:Nat)(h:H):Bh mid h h:=⟨eP _,λ_ _ _=>rfl,λ_ _ _ h=>h⟩
theorem Bh.trans {b c:H}(x:Bh mid a b)(y:Bh mid b c):Bh mid a c:=
 ⟨Nat.le_trans x.next y.next,λid hid hne=>(y.get id (gE hid x.next) hne).trans (x.get id hid hne),λhm k hk h=>y.av (gE hm x.next) k (gE hk x.next) (x.av hm k hk h)⟩
theorem By.fr {b:H}{x:Nat}(h:By a mid x)(hm:b.get mid=a.get mid):By b mid x:=λes n v h1 h2=>h es n v (hm▸h1) h2
theorem Fr.AN {b:H}(x:Fr a b)(mid:Nat):Bh mid a b:=⟨x.next,λid hid _=>x.get id hid,λhm _ _ h=>h.fr (x.get mid hm)⟩
theorem Bh.bJ {b:H}(x:Bh mid a b)(hn:b.next<=n):Bh mid a (H.mk b.tr n):=⟨Nat.le_trans x.next hn,λk hk hne=>(H.jM b n k).trans (x.get k hk hne),λhm k hk h=>(x.av hm k hk h).fr (H.jM b n mid)⟩
theorem Bh.new {b:H}(x:Bh mid a b)(o:Ob):Bh mid a (b.new o):=x.trans (((Fr.refl b).new o).AN mid)
theorem Bh.set {b:H}(x:Bh mid a b)(hid:a.next<=id)(o:Option Ob):Bh mid a (b.set id o):=
 ⟨x.next,λk hk hne=>(H.aH b (by omega) o).trans (x.get k hk hne),λhm k hk h=>(x.av hm k hk h).fr (H.aH b (by omega) o)⟩
theorem Bh.cell {b:H}(x:Bh mid a b)(hid:id<a.next)(hne:id≠mid)(off:Nat):b.cell id off=a.cell id off:=by unfold H.cell;rw[x.get id hid hne]
def Ve (o:Option Ob)(zero:V)(ok:Bool)(kk:IntKind)(n:Int):Option V:=match o with
 |some (.map es)=>if lD kk es then
   match pL kk n es with
   |some v=>some (if ok then .tup [v,.bool true] else v)
   |none=>some (if ok then .tup [zero,.bool false] else zero)
  else none
 |_=>none
def Xg (h:H)(zero:V)(ok:Bool)(x k:V):Option V:=match x,k with
 | .mp id,.int kk n=>Ve (h.get id) zero ok kk n
 |_,_=>none
theorem Rt (h:H)(zero:V)(ok:Bool)(id:Nat)(kk:IntKind)(n:Int):Xg h zero ok (.mp id) (.int kk n)=Ve (h.get id) zero ok kk n:=rfl
theorem Td (ρ:X->V)(h:H)(zero:V)(ok:Bool)(x k:X):cI ρ h (.lkp zero ok x k)=(Xg h zero ok (ρ x) (ρ k)).map (·,h):=by
 simp only[cI,Xg];cases ρ x<;>try rfl
 cases ρ k<;>try rfl
 simp only[Ve];rename_i id kk n
 cases h.get id with
 |none=>rfl
 |some o=>cases o with
  |map es=>
   simp only
   by_cases hk:lD kk es=true
   ·rw[if_pos hk,if_pos hk]
    cases pL kk n es<;>rfl
   ·rw[if_neg hk,if_neg hk];rfl
  |_=>rfl
def Oy (o:Option Ob)(h:H)(id:Nat)(kk:IntKind)(n:Int)(y:V):Option H:=match o with
 |some (.map es)=>if lD kk es then some (h.set id (some (.map (tD kk n y es)))) else none
 |_=>none
def Pk (h:H)(x k y:V):Option H:=match x,k with
 | .mp id,.int kk n=>Oy (h.get id) h id kk n y
 |_,_=>none
theorem Qd (h:H)(id:Nat)(kk:IntKind)(n:Int)(y:V):Pk h (.mp id) (.int kk n) y=Oy (h.get id) h id kk n y:=rfl
theorem Ps (ρ:X->V)(h:H)(x k y:X):cI ρ h (.mset x k y)=(Pk h (ρ x) (ρ k) (ρ y)).map λh'=>(V.undef,h'):=by
 simp only[cI,Pk];cases ρ x<;>try rfl
 cases ρ k<;>try rfl
 simp only[Oy];rename_i id kk n
 cases h.get id with
 |none=>rfl
 |some o=>cases o with
  |map es=>
   simp only
   by_cases hk:lD kk es=true
   ·rw[if_pos hk,if_pos hk];rfl
   ·rw[if_neg hk,if_neg hk];rfl
  |_=>rfl
theorem lQ {zero:List V}{j:IntKind}{l c:Int}(h0:0<=l)(h1:l<=c)(h2:c*bytes<=281474976710656)(h3:c<4611686018427387904):
  tF h sz bytes zero (.int j l) (.int k c)=some (.sl h.next 0 l.toNat (.kn c.toNat),h.new (.cells false (dG zero (c.toNat*sz)))):=by
 simp only[tF];rw[if_pos ⟨h0,h1,h2,h3⟩]
theorem tC (n:Nat):dG [.int .i64 0] n=ints (List.replicate n 0):=by
 rw[wT];unfold dG;apply List.ext_getElem
 ·simp
 ·intro i h1 h2
  simp [Nat.mod_one]
theorem Qe (h:H)(sz:Nat)(zero:List V):nG h sz zero 0 []=some (.sl h.next 0 0 (.kn 0),h.new (.cells false [])):=by
 simp [nG,fU,dG]
theorem Vv {len:Nat}{hi:Int}(h0:0<=hi)(h1:hi<=len):nJ 1 (.sl id off len (.un 1)) none (some (.int k hi)) none=some (.sl id off hi.toNat (.un 1)):=by
 simp only[nJ,jF];rw[if_pos ⟨h0,h1⟩];simp only[if_true]
 by_cases hl:0<len
 ·rw[if_pos hl];simp
 ·rw[if_neg hl]
  have:hi.toNat=0:=by omega
  simp [this]
theorem Vj {len c:Nat}{hi:Int}(h0:0<=hi)(h1:hi<=c):nJ 1 (.sl id off len (.kn c)) none (some (.int k hi)) none=some (.sl id off hi.toNat (.kn c)):=by
 simp only[nJ,jF];rw[if_pos ⟨h0,h1⟩];simp
theorem SV.cW (s:SV h v sz ws):v.cells= [v]/\v.one=true/\ ∀k n,v≠ .int k n:=by
 rcases s with ⟨rfl|⟨a,rfl⟩,_⟩|⟨id,off,len,cap,ro,vs,rfl,_⟩
 ·exact⟨rfl,rfl,λk n h=>by cases h⟩
 ·exact⟨rfl,rfl,λk n h=>by cases h⟩
 ·exact⟨rfl,rfl,λk n h=>by cases h⟩
theorem SI.other (s:SI h v l)(hl:l≠ []){P:Nat}(hg:h.get P=some (.cells ro ws))(hw: ∀(i:Nat) (w:V),ws[i]? =some w-> ∀k n,w≠ .int k n)(o:Option Ob):SI (h.set P o) v l:=by
 rcases s with ⟨_,h0⟩|⟨id,off,len,cap,ro',vs,h1,h2,h3,h4,h5,h6⟩
 ·exact absurd (Co (h0.trans Mt.symm)) hl
 ·by_cases e:id=P
  ·subst e
   rw[hg] at h4;cases h4
   cases l with
   |nil=>exact absurd rfl hl
   |cons a l=>
    have:((ws.drop off).take (len*1))[0]? =some (.int .i64 a):=by rw[h6];rfl
    rw[List.getElem?_take] at this;split at this
    ·rw[List.getElem?_drop] at this
     exact absurd rfl (hw _ _ this _ _)
    ·cases this
  ·exact .inr ⟨id,off,len,cap,ro',vs,h1,h2,h3,by rw[H.aH h e];exact h4,h5,h6⟩
def Yi (v u:V):Prop:= ∀i o n c,v= .sl i o n c-> ∀i' o' n' c',u= .sl i' o' n' c'->i≠i'
theorem Own.dis (x:Own h v sz ws b)(y:Own h' u sz us h.next):Yi v u:=by
 intro i o n c e i' o' n' c' e';rcases x with ⟨h1,_⟩|⟨id,k,cap,rest,h1,_,_,_,h2,_⟩
 ·rw[h1] at e;cases e
 ·rw[h1] at e;cases e
  rcases y with ⟨h3,_⟩|⟨id',k',cap',rest',h3,_,_,h4,_⟩
  ·rw[h3] at e';cases e'
  ·rw[h3] at e';cases e'
   omega
theorem Own.set {P:Nat}(x:Own h v sz ws b)(hP:P<b)(o:Option Ob):Own (h.set P o) v sz ws b:=
 x.mono (eP _) λid _ _ _ _ hid _=>H.aH h (by omega) o
theorem Pa {z1 z2:V}(hv:v.cells= [v])(hv1:v.one=true)(hu:u.cells= [u])(hu1:u.one=true):mM [z1,z2] [(0,1,v),(1,1,u)]=some (.agg [v,u]):=by
 have e1:putAt [z1,z2] 0 [v]=some [v,z2]:=by simp [putAt]
 have e2:putAt [v,z2] 1 [u]=some [v,u]:=by simp [putAt]
 simp only[mM,fU,hv,hu,List.length_singleton,List.all_cons,List.all_nil,hv1,hu1,Bool.and_self,and_self,if_true,e1,e2,Option.map_some]
theorem Ou (z:List V):mM z []=some (.agg z):=rfl
theorem yC (h:H)(hv1:v.one=true)(hu1:u.one=true):uI h (.agg [v,u])=some (.ptr h.next 0,h.new (.cells false [v,u])):=nP h _ (by simp [hv1,hu1])
theorem rJ (h:H)(id off:Nat)(hv1:v.one=true)(hu1:u.one=true):Hg h 2 (.ptr id off) (.agg [v,u])=dV (h.get id) h id off [v,u]:=pU h id off 2 _ rfl (by simp [hv1,hu1])
theorem oX {y:V}(h:H)(id:Nat):dV (some (.cells false [x,y])) h id 0 [v,u]=some (h.set id (some (.cells false [v,u]))):=by
 simp [dV,putAt]
theorem zW (hg:h.get id=some (.cells ro [v,u])):h.row id 0 2=some [v,u]:=by
 simp [H.row,hg,sub]
def Rz (h:H)(j:I)(v:V):Bool:=match cI (xv [] []) h j with|some (u,_)=>dI u v|none=>false
theorem Gf (cks:List Nat)(k:Nat)(j:I)(v:V)(log:Log)(h:H):kE cks ((k,j,v)::log) h=((!cks.contains k||Rz h j v)&&kE cks log h):=rfl
theorem Bj (cks:List Nat)(h:H):kE cks [] h=true:=rfl
def Xs (o:Option V)(v:V):Bool:=match o with|some u=>dI u v|none=>false
theorem Ow (u v:V):Xs (some u) v=dI u v:=rfl
theorem So (h:H)(x v:V):Rz h (.ld false 1 (.c x)) v=Xs (vV h x) v:=by
 unfold Rz;rw[zI,Wc];cases vV h x<;>rfl
theorem Ug (h:H)(n:Nat)(x v:V):Rz h (.ld true n (.c x)) v=Xs (Ew h n x) v:=by
 unfold Rz;rw[Gz,Wc];cases Ew h n x<;>rfl
theorem Rs (k:IntKind)(a:Int):dI (.int k a) (.int k a)=true:=by simp [dI]
theorem Od (a:Bool):dI (.bool a) (.bool a)=true:=by simp [dI]
theorem Sf (a b:Nat):dI (.ptr a b) (.ptr a b)=true:=by simp [dI]
theorem Rk (a b:List V):dI (.agg a) (.agg b)=lV a b:=by simp [dI]
theorem Na:lV [] []=true:=by simp [lV]
theorem Kq (a b:V)(as bs:List V):lV (a::as) (b::bs)=(dI a b&&lV as bs):=by simp [lV]
theorem SV.dI {h:H}{v:V}{sz:Nat}{ws:List V}(s:SV h v sz ws):dI v v=true:=by
 rcases s with ⟨rfl|⟨a,rfl⟩,_⟩|⟨id,off,len,cap,ro,vs,rfl,_⟩<;>simp [Ay.dI]
theorem Re (i:Nat)(d:D)(g:Option (X×Bool))(j:I)(al:Bool)(cks:List Nat)(vars:List V)(v:V)(log:Log):uF ⟨i,⟨d,g,.op j⟩,al,cks⟩ vars v log=if j.kT then (i,j.close (xv vars []),v)::log else log:=rfl
theorem Jl (i:Nat)(d:D)(g:Option (X×Bool))(f:Nat)(xs:List X)(al:Bool)(cks:List Nat)(vars:List V)(v:V)(log:Log):uF ⟨i,⟨d,g,.call f xs⟩,al,cks⟩ vars v log=log:=rfl
theorem Eb (i:Nat)(d:D)(g:Option (X×Bool))(f:X)(xs:List X)(al:Bool)(cks:List Nat)(vars:List V)(v:V)(log:Log):uF ⟨i,⟨d,g,.callv f xs⟩,al,cks⟩ vars v log=log:=rfl
theorem Ft (i:Nat)(d:D)(g:Option (X×Bool))(f:Nat)(xs:List X)(al:Bool)(cks:List Nat)(vars:List V)(v:V)(log:Log):uF ⟨i,⟨d,g,.callp f xs⟩,al,cks⟩ vars v log=log:=rfl
attribute [go_sem] Gf Bj Ow So Ug Rs Od Sf Rk Na Kq Re Jl Eb Ft I.kT I.close List.contains_cons List.contains_nil Nat.reduceBEq Bool.or_false Bool.false_or Bool.or_true Bool.true_or Bool.and_true Bool.true_and
def Ur (o:Option (V×H))(m:Nat):Option (V×H):=match o with|some (v,h')=>some (v,H.mk h'.tr m)|none=>none
theorem Ub (vars:List V)(h:H)(n:Nat)(i:I):uP vars h n (.op i)=Ur (cI (xv vars []) (H.mk h.tr n) i) h.next:=rfl
theorem Ge (v:V)(h':H)(m:Nat):Ur (some (v,h')) m=some (v,H.mk h'.tr m):=rfl
attribute [go_sem] Ub Ge
def Xx (l:List V):Nat->V:=λi=>l.getD i .undef
theorem aA {L:List V}{F:(Nat->V)->List V}(h:L=F (Xx L)): ∃g,L=F g:=⟨Xx L,h⟩
theorem xX {l:List Int}{off:Nat}(hlt:off<l.length)(h:H)(id:Nat)(x:Int):dV (some (.cells false (ints l))) h id off [.int .i64 x]=some (h.set id (some (.cells false (ints (l.set off x))))):=by
 rw[bE (by rw[aN];exact hlt),ints_set]
attribute [go_sem] Int.toNat_natCast Int.toNat_zero Int.toNat_one Nat.add_zero Nat.zero_add
attribute [go_sem] Ou oX List.getElem?_cons_zero List.getElem?_cons_succ List.getElem?_nil
attribute [go_sem] Tv Td Ps Rt Qd
attribute [go_sem] xX aN ints_set lQ tC Qe Nat.mul_one Nat.mul_zero
theorem Qn:(∀{a:Type} (l:List a) (i:Nat) (x:a),(l.set i x).length=l.length)/\(∀{a:Type} (n:Nat) (x:a),(List.replicate n x).length=n)/\(∀{a:Type} (l m:List a),(l++m).length=l.length+m.length)/\(∀{a:Type} (i:Nat) (l:List a),(l.take i).length=min i l.length)/\(∀{a:Type} (i:Nat) (l:List a),(l.drop i).length=l.length-i)/\(∀{a:Type} (x:a) (l:List a),(x::l).length=l.length+1)/\(∀{a:Type},([]:List a).length=0)/\(∀{a b:Type} (f:a->b) (l:List a),(l.map f).length=l.length)/\(∀n:Nat,(List.range n).length=n)/\(∀l:List Int,(ints l).length=l.length):=
 ⟨λ_ _ _=>List.length_set ..,λ_ _=>List.length_replicate ..,λ_ _=>jD ..,λ_ _=>xL ..,λ_ _=>List.length_drop ..,λ_ _=>rfl,rfl,λ_ _=>jS ..,λ_=>List.length_range ..,λ_=>aN _⟩
end
end Go.Ay
