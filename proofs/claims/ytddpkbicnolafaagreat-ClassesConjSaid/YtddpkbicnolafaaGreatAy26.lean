/- Slices as lists. -/
import Derived.Test.YtddpkbicnolafaaGreatAy25
namespace Go.Ay
def ints (l:List Int):List V:=l.map (V.int .i64)
theorem XR:ints []= []:=rfl
theorem RC (a:Int) (l:List Int):ints (a::l)= .int .i64 a::ints l:=rfl
theorem aS (l:List Int):(ints l).length=l.length:=nO ..
theorem uG (a b:List Int):ints (a++b)=ints a++ints b:=List.map_append ..
theorem ints_set (l:List Int) (i:Nat) (x:Int):(ints l).set i (.int .i64 x)=ints (l.set i x):=by
 simp only [ints,List.map_set]
theorem aaZ (l:List Int) (i:Nat):(ints l)[i]? =(l[i]?).map (V.int .i64):=by simp [ints]
theorem Ym {l:List Int} {i:Nat} (hi:i<l.length):(ints l)[i]? =some (.int .i64 (l.getD i 0)):=by
 rw [aaZ,iH hi,List.getD_eq_getElem?_getD,iH hi];rfl
theorem FQ: ∀ {a b:List Int},ints a=ints b->a=b
 | [], [],_=>rfl
 | [],_::_,h=>by cases h
 |_::_, [],h=>by cases h
 |x::a,y::b,h=>by
  simp only [RC,List.cons.injEq,V.int.injEq,true_and] at h
  rw [h.1,FQ h.2]
theorem Rt (n:Nat) (x:Int):ints (List.replicate n x)=List.replicate n (.int .i64 x):=by simp [ints]
structure Sl (v:V) (sz n id off:Nat):Prop where
 len:xF v=some n
 ixa: ∀ (k:IntKind) (i:Int),0<=i->i<n->CW sz v (.int k i)=some (.ptr id (off+i.toNat*sz))
 one:v.one=true
 cells:v.cells= [v]
theorem Sl.lens {v:V} {sz n id off:Nat} (s:Sl v sz n id off):dW v=some (.int .i64 (n:Int)):=by
 unfold dW;rw [s.len];rfl
def SV (h:H) (v:V) (sz:Nat) (ws:List V):Prop:=(v= .aC∨ ∃ a,v= .emp a)/\ws= []∨
 ∃ id off len cap ro vs,v= .sl id off len cap/\ws.length=len*sz/\id<h.next/\h.get id=some (.cells ro vs)/\off+len*sz<=vs.length/\(vs.drop off).take (len*sz)=ws
theorem SV.aC (h:H) (sz:Nat):SV h .aC sz []:= .inl ⟨.inl rfl,rfl⟩
theorem SV.emp (h:H) (a:Addr) (sz:Nat):SV h (.emp a) sz []:= .inl ⟨.inr ⟨a,rfl⟩,rfl⟩
theorem SV.mono {h h':H} {v:V} {sz:Nat} {ws:List V} (s:SV h v sz ws) (f:Fr h h'):SV h' v sz ws:=by
 rcases s with s|⟨id,off,len,cap,ro,vs,h1,h2,h3,h4,h5,h6⟩
 ·exact .inl s
 ·exact .inr ⟨id,off,len,cap,ro,vs,h1,h2,mM h3 f.next,by rw [f.get id h3];exact h4,h5,h6⟩
theorem SV.all {h:H} {id:Nat} {ro:Bool} {vs:List V} {sz len:Nat} (hl:vs.length=len*sz) (hid:id<h.next) (hg:h.get id=some (.cells ro vs)) (cap:uO):SV h (.sl id 0 len cap) sz vs:=
 .inr ⟨id,0,len,cap,ro,vs,rfl,hl,hid,hg,by omega,by rw [List.drop_zero,←hl,List.take_length]⟩
theorem SV.shape {h:H} {v:V} {sz:Nat} {ws:List V} (s:SV h v sz ws) (n:Nat) (hn:ws.length=n*sz) (hz:0<sz): ∃ id off,Sl v sz n id off/\(0<n->id<h.next)/\ ∀ i,i<ws.length->h.cell id (off+i)=ws[i]? :=by
 rcases s with ⟨hv,rfl⟩|⟨id,off,len,cap,ro,vs,rfl,h2,h3,h4,h5,h6⟩
 ·have:n=0:=by
   cases n with
   |zero=>rfl
   |succ n=>simp [Nat.succ_mul] at hn;omega
  subst this
  rcases hv with rfl|⟨a,rfl⟩<;>exact ⟨0,0,⟨rfl,λ k i h1 h2=>by omega,rfl,rfl⟩,λ h=>by omega,λ i hi=>by simp at hi⟩
 ·have hlen:len=n:=by
   rw [h2] at hn
   exact Nat.eq_of_mul_eq_mul_right hz hn
  subst hlen
  refine ⟨id,off,⟨rfl,λ k i h1 h2=>Ky h1 h2,rfl,rfl⟩,λ _=>h3,λ i hi=>?_⟩
  rw [H.aG h4,←h6,List.getElem?_take_of_lt (by omega),List.getElem?_drop]
theorem SV.slice {h:H} {v:V} {sz:Nat} {ws:List V} (s:SV h v sz ws):h.slice sz v=some ws:=by
 rcases s with ⟨rfl|⟨a,rfl⟩,rfl⟩|⟨id,off,len,cap,ro,vs,rfl,h2,h3,h4,h5,h6⟩
 ·rfl
 ·rfl
 ·simp only [H.slice,H.row,h4,sub]
  rw [if_pos h5,h6]
theorem SV.len {h:H} {v:V} {sz:Nat} {ws:List V} (s:SV h v sz ws) {n:Nat} (hn:ws.length=n*sz) (hz:0<sz):xF v=some n:=by
 obtain ⟨id,off,s,_⟩:=s.shape n hn hz
 exact s.len
def SI (h:H) (v:V) (l:List Int):Prop:=SV h v 1 (ints l)
theorem SI.aC (h:H):SI h .aC []:=SV.aC h 1
theorem SI.emp (h:H) (a:Addr):SI h (.emp a) []:=SV.emp h a 1
theorem SI.mono {h h':H} {v:V} {l:List Int} (s:SI h v l) (f:Fr h h'):SI h' v l:=SV.mono s f
theorem SI.own {h:H} {id:Nat} {ro:Bool} {l:List Int} (hid:id<h.next) (hg:h.get id=some (.cells ro (ints l))) (cap:uO):SI h (.sl id 0 l.length cap) l:=
 SV.all (by rw [aS,Nat.mul_one]) hid hg cap
theorem SI.open {h:H} {v:V} {l:List Int} (s:SI h v l): ∃ id off,Sl v 1 l.length id off/\(0<l.length->id<h.next)/\ ∀ i:Nat,i<l.length->h.cell id (off+i)=some (.int .i64 (l.getD i 0)):=by
 obtain ⟨id,off,h1,h2,h3⟩:=SV.shape s l.length (by rw [aS,Nat.mul_one]) (by omega)
 refine ⟨id,off,h1,h2,λ i i1=>?_⟩
 rw [h3 i (by rw [aS];omega),Ym i1]
theorem SI.len {h:H} {v:V} {l:List Int} (s:SI h v l):xF v=some l.length:=SV.len s (by rw [aS,Nat.mul_one]) (by omega)
theorem SI.lens {h:H} {v:V} {l:List Int} (s:SI h v l):dW v=some (.int .i64 (l.length:Int)):=by unfold dW;rw [s.len];rfl
theorem Ll {h h':H} (f:Fr h h') {id off n:Nat} {F:Nat->V} (hid:0<n->id<h.next) (hc: ∀ i:Nat,i<n->h.cell id (off+i)=some (F i)): ∀ i:Nat,i<n->h'.cell id (off+i)=some (F i):=λ i i1=>by
 rw [f.cell (hid (by omega))];exact hc i i1
def bJ {α β:Type} (R:α->β->Prop):List α->List β->Prop
 | [], []=>True
 |a::as,b::bs=>R a b/\bJ R as bs
 |_,_=>False
theorem bJ.length {α β:Type} {R:α->β->Prop}: ∀ {as:List α} {bs:List β},bJ R as bs->as.length=bs.length
 | [], [],_=>rfl
 |_::_,_::_,h=>by rw [List.length_cons,List.length_cons,bJ.length h.2]
 | [],_::_,h=>h.elim
 |_::_, [],h=>h.elim
theorem bJ.mono {α β:Type} {R S:α->β->Prop} (k: ∀ a b,R a b->S a b): ∀ {as:List α} {bs:List β},bJ R as bs->bJ S as bs
 | [], [],_=>trivial
 |_::_,_::_,h=>⟨k _ _ h.1,bJ.mono k h.2⟩
 | [],_::_,h=>h.elim
 |_::_, [],h=>h.elim
theorem bJ.get {α β:Type} {R:α->β->Prop}: ∀ {as:List α} {bs:List β},bJ R as bs-> ∀ i (hi:i<as.length) (hj:i<bs.length),R as[i] bs[i]
 |a::as,b::bs,h,0,_,_=>h.1
 |a::as,b::bs,h,i+1,hi,hj=>bJ.get h.2 i (by simpa using hi) (by simpa using hj)
 | [],_,_,i,hi,_=>by simp at hi
 |_::_, [],h,_,_,_=>h.elim
theorem bJ.append {α β:Type} {R:α->β->Prop}: ∀ {as:List α} {bs:List β} {cs:List α} {ds:List β},bJ R as bs->bJ R cs ds->bJ R (as++cs) (bs++ds)
 | [], [],_,_,_,h=>h
 |_::_,_::_,_,_,h,k=>⟨h.1,bJ.append h.2 k⟩
 | [],_::_,_,_,h,_=>h.elim
 |_::_, [],_,_,h,_=>h.elim
theorem bJ.oT {α β:Type} {R:α->β->Prop}: ∀ {as:List α} {bs:List β},as.length=bs.length->(∀ i (hi:i<as.length) (hj:i<bs.length),R as[i] bs[i])->bJ R as bs
 | [], [],_,_=>trivial
 |a::as,b::bs,hl,h=>⟨h 0 (by simp) (by simp),bJ.oT (by simpa using hl) λ i hi hj=>h (i+1) (by simpa using hi) (by simpa using hj)⟩
 | [],_::_,hl,_=>by simp at hl
 |_::_, [],hl,_=>by simp at hl
theorem bJ.set {α β:Type} {R:α->β->Prop}: ∀ {as:List α} {bs:List β},bJ R as bs-> ∀ (i:Nat) {a:α} {b:β},R a b->bJ R (as.set i a) (bs.set i b)
 | [], [],_,_,_,_,_=>trivial
 |_::_,_::_,h,0,_,_,r=>⟨r,h.2⟩
 |_::_,_::_,h,i+1,_,_,r=>⟨h.1,bJ.set h.2 i r⟩
 | [],_::_,h,_,_,_,_=>h.elim
 |_::_, [],h,_,_,_,_=>h.elim
def SR (h:H) (v:V) (ll:List (List Int)):Prop:= ∃ ws,SV h v 1 ws/\bJ (SI h) ws ll
theorem SR.aC (h:H):SR h .aC []:=⟨[],SV.aC h 1,trivial⟩
theorem SR.mono {h h':H} {v:V} {ll:List (List Int)} (s:SR h v ll) (f:Fr h h'):SR h' v ll:=by
 obtain ⟨ws,s,a⟩:=s
 exact ⟨ws,s.mono f,a.mono λ _ _ x=>x.mono f⟩
theorem SR.open {h:H} {v:V} {ll:List (List Int)} (s:SR h v ll): ∃ id off ws,Sl v 1 ll.length id off/\(0<ll.length->id<h.next)/\ws.length=ll.length/\(∀ i:Nat,i<ll.length->h.cell id (off+i)=some (ws.getD i .undef))/\bJ (SI h) ws ll:=by
 obtain ⟨ws,s,a⟩:=s
 have hl:=a.length
 obtain ⟨id,off,h1,h2,h3⟩:=s.shape ll.length (by rw [hl,Nat.mul_one]) (by omega)
 refine ⟨id,off,ws,h1,h2,hl,λ i i1=>?_,a⟩
 rw [h3 i (by omega),List.getD_eq_getElem?_getD,iH (by omega)];rfl
theorem SR.len {h:H} {v:V} {ll:List (List Int)} (s:SR h v ll):xF v=some ll.length:=by
 obtain ⟨id,off,ws,h1,_⟩:=s.open;exact h1.len
theorem SR.lens {h:H} {v:V} {ll:List (List Int)} (s:SR h v ll):dW v=some (.int .i64 (ll.length:Int)):=by unfold dW;rw [s.len];rfl
theorem LS {h:H} {ws:List V} {ll:List (List Int)} (a:bJ (SI h) ws ll) {i:Nat} (hi:i<ll.length):SI h (ws.getD i .undef) (ll.getD i []):=by
 have hl:=a.length
 rw [List.getD_eq_getElem?_getD,iH (by omega),List.getD_eq_getElem?_getD,iH hi]
 exact a.get i (by omega) hi
def eL (h:H) (v:V) (sz:Nat) (ws:List V) (b:Nat):Prop:=v= .aC/\ws= []∨
 ∃ id n cap rest,v= .sl id 0 n cap/\ws.length=n*sz/\(cap= .un sz∨cap= .kn n/\rest= [])/\b<=id/\id<h.next/\h.get id=some (.cells false (ws++rest))
theorem eL.aC (h:H) (sz b:Nat):eL h .aC sz [] b:= .inl ⟨rfl,rfl⟩
theorem eL.new (h:H) (sz n b:Nat) (ws:List V) (hn:ws.length=n*sz) (hb:b<=h.next):eL (h.new (.cells false ws)) (.sl h.next 0 n (.kn n)) sz ws b:=
 .inr ⟨h.next,n,_, [],rfl,hn,.inr ⟨rfl,rfl⟩,hb,by rw [H.bD];omega,by rw [H.aQ,List.append_nil]⟩
theorem eL.sv {h:H} {v:V} {sz:Nat} {ws:List V} {b:Nat} (o:eL h v sz ws b):SV h v sz ws:=by
 rcases o with o|⟨id,n,cap,rest,rfl,h1,_,_,h2,h3⟩
 ·exact .inl ⟨.inl o.1,o.2⟩
 ·exact .inr ⟨id,0,n,cap,false,ws++rest,rfl,h1,h2,h3,by rw [vA];omega,by rw [List.drop_zero,←h1,List.take_left]⟩
theorem eL.le {h:H} {v:V} {sz:Nat} {ws:List V} {b c:Nat} (o:eL h v sz ws b) (hc:c<=b):eL h v sz ws c:=by
 rcases o with o|⟨id,n,cap,rest,h0,h1,h2,h3,h4⟩
 ·exact .inl o
 ·exact .inr ⟨id,n,cap,rest,h0,h1,h2,Nat.le_trans hc h3,h4⟩
def eC (v:V) (k:Nat):Prop:= ∀ id off n c,v= .sl id off n c->k≠id
theorem eC.aC (k:Nat):eC .aC k:=λ _ _ _ _ h=>by cases h
theorem eC.sl {id off n k:Nat} {c:uO} (h:k≠id):eC (.sl id off n c) k:=λ _ _ _ _ e=>by cases e;exact h
theorem eL.mono {h h':H} {v:V} {sz:Nat} {ws:List V} {b:Nat} (o:eL h v sz ws b) (hn:h.next<=h'.next) (hg: ∀ id off n c,v= .sl id off n c->b<=id->id<h.next->h'.get id=h.get id):eL h' v sz ws b:=by
 rcases o with o|⟨id,n,cap,rest,rfl,h1,h2,h3,h4,h5⟩
 ·exact .inl o
 ·exact .inr ⟨id,n,cap,rest,rfl,h1,h2,h3,mM h4 hn,by rw [hg id 0 n cap rfl h3 h4];exact h5⟩
theorem eL.fr {h h':H} {v:V} {sz:Nat} {ws:List V} {b:Nat} (o:eL h v sz ws b) (f:Fr h h'):eL h' v sz ws b:=
 o.mono f.next λ id _ _ _ _ _ hid=>f.get id hid
structure aiQ (h:H) (x:V) (sz n m:Nat) (ws us:List V) (b:Nat) (v:V) (h':H):Prop where
 own:eL h' v sz (ws++us) b
 next:h.next<=h'.next
 get: ∀ k,k<h.next->eC x k->h'.get k=h.get k
 fr: ∀ a,Fr a h->a.next<=b->Fr a h'
 bP:m=0/\v=x∨ ∃ id,v= .sl id 0 (n+m) (.un sz)/\b<=id/\id<h'.next/\h'.get id=some (.cells false (ws++us))
theorem eL.Di {h:H} {x:V} {sz bytes b:Nat} {ws us:List V} (o:eL h x sz ws b) (hb:b<=h.next) {n m:Nat} (hn:ws.length=n*sz) (hm:us.length=m*sz) (hz:0<sz) (room:(2*(n+m)+1000)*bytes<=2^48/\n+m<2^62):
  ∃ v h',Di h sz bytes x m us=some (v,h')/\aiQ h x sz n m ws us b v h':=by
 have hx:=o.sv
 have hlen:=hx.len hn hz
 have hsl:=hx.slice
 unfold Ay.Di
 simp only [hlen,hsl]
 by_cases hm0:m=0
 ·subst hm0
  have hu:us= []:=List.eq_nil_of_length_eq_zero (by omega)
  subst hu
  rw [if_pos rfl]
  exact ⟨x,h,rfl,by rw [List.append_nil];exact o,jI _,λ _ _ _=>rfl,λ _ f _=>f,.inl ⟨rfl,rfl⟩⟩
 ·rw [if_neg hm0,if_pos room]
  have key: ∀ g:H,g.next=h.next->(∀ k,k<h.next->eC x k->g.get k=h.get k)->(∀ a,Fr a h->a.next<=b->Fr a g)-> ∃ v h',some (V.sl h.next 0 (n+m) (.un sz),g.new (.cells false (ws++us)))=some (v,h')/\aiQ h x sz n m ws us b v h':=by
   intro g gn gg gf
   refine ⟨_,_,rfl,.inr ⟨h.next,n+m,.un sz, [],rfl,by rw [vA,hn,hm,Nat.add_mul],.inl rfl,hb,by rw [H.bD];omega,by rw [←gn,H.aQ,List.append_nil]⟩,by rw [H.bD];omega,λ k hk ha=>?_,λ a f ha=>(gf a f ha).new _,.inr ⟨_,rfl,hb,by rw [H.bD];omega,by rw [←gn,H.aQ]⟩⟩
   rw [H.bM g (by omega)]
   exact gg k hk ha
  rcases o with ⟨rfl,rfl⟩|⟨id,n',cap,rest,rfl,h1,h2,h3,h4,h5⟩
  ·exact key h rfl (λ _ _ _=>rfl) (λ _ f _=>f)
  ·have:n'=n:=Nat.eq_of_mul_eq_mul_right hz (h1.symm.trans hn)
   subst this
   rcases h2 with rfl|⟨rfl,rfl⟩
   ·simp only [h5,if_true]
    exact key (h.set id none) rfl (λ k hk ha=>H.aH h (ha id 0 n' _ rfl) none) (λ a f ha=>f.set (Nat.le_trans ha h3) none)
   ·simp only
    rw [if_neg (by omega)]
    exact key h rfl (λ _ _ _=>rfl) (λ _ f _=>f)
theorem eL.app {h:H} {x y:V} {sz bytes b:Nat} {ws us:List V} (o:eL h x sz ws b) (hb:b<=h.next) (hy:SV h y sz us) {n m:Nat} (hn:ws.length=n*sz) (hm:us.length=m*sz) (hz:0<sz) (room:(2*(n+m)+1000)*bytes<=2^48/\n+m<2^62):
  ∃ v h',Lc h sz bytes x y=some (v,h')/\aiQ h x sz n m ws us b v h':=by
 have e1:Lc h sz bytes x y=Ay.Di h sz bytes x m us:=by
  simp only [Lc,hy.len hm hz,hy.slice]
 rw [e1]
 exact o.Di hb hn hm hz room
def akU (h:H) (sz bytes:Nat) (zero:List V) (x n:V):Option (V×H):=match n with
  | .int .i64 n=>if 0<=n/\n*bytes<=2^48/\n<2^62/\zero.length=sz then Di h sz bytes x n.toNat (dQ zero (n.toNat*sz)) else none
  |_=>none
theorem acX (ρ:X->V) (h:H) (sz bytes:Nat) (zero:List V) (x n:X):cY ρ h (.apz sz bytes zero x n)=akU h sz bytes zero (ρ x) (ρ n):=by
 simp only [cY,akU]
 cases ρ n<;>rfl
def FX (h:H) (mid x:Nat):Prop:= ∀ es n v,h.get mid=some (.map es)->Dd .i64 n es=some v-> ∀ off len c,v≠ .sl x off len c
structure EA (mid:Nat) (h h':H):Prop where
 next:h.next<=h'.next
 get: ∀ id,id<h.next->id≠mid->h'.get id=h.get id
 av:mid<h.next-> ∀ x,x<h.next->FX h mid x->FX h' mid x
theorem EA.refl (mid:Nat) (h:H):EA mid h h:=⟨jI _,λ _ _ _=>rfl,λ _ _ _ h=>h⟩
theorem EA.trans {mid:Nat} {a b c:H} (x:EA mid a b) (y:EA mid b c):EA mid a c:=
 ⟨Nat.le_trans x.next y.next,λ id hid hne=>(y.get id (mM hid x.next) hne).trans (x.get id hid hne),λ hm k hk h=>y.av (mM hm x.next) k (mM hk x.next) (x.av hm k hk h)⟩
theorem FX.fr {a b:H} {mid x:Nat} (h:FX a mid x) (hm:b.get mid=a.get mid):FX b mid x:=λ es n v h1 h2=>h es n v (hm▸h1) h2
theorem Fr.toM {a b:H} (x:Fr a b) (mid:Nat):EA mid a b:=⟨x.next,λ id hid _=>x.get id hid,λ hm _ _ h=>h.fr (x.get mid hm)⟩
theorem EA.bF {mid:Nat} {a b:H} (x:EA mid a b) {n:Nat} (hn:b.next<=n):EA mid a (H.mk b.tr n):=⟨Nat.le_trans x.next hn,λ k hk hne=>(H.sS b n k).trans (x.get k hk hne),λ hm k hk h=>(x.av hm k hk h).fr (H.sS b n mid)⟩
theorem EA.new {mid:Nat} {a b:H} (x:EA mid a b) (o:Ob):EA mid a (b.new o):=x.trans (((Fr.refl b).new o).toM mid)
theorem EA.set {mid:Nat} {a b:H} (x:EA mid a b) {id:Nat} (hid:a.next<=id) (o:Option Ob):EA mid a (b.set id o):=
 ⟨x.next,λ k hk hne=>(H.aH b (by omega) o).trans (x.get k hk hne),λ hm k hk h=>(x.av hm k hk h).fr (H.aH b (by omega) o)⟩
theorem EA.cell {mid:Nat} {a b:H} (x:EA mid a b) {id:Nat} (hid:id<a.next) (hne:id≠mid) (off:Nat):b.cell id off=a.cell id off:=by unfold H.cell;rw [x.get id hid hne]
def aiP (o:Option Ob) (zero:V) (ok:Bool) (kk:IntKind) (n:Int):Option V:=match o with
 |some (.map es)=>if xL kk es then
   match Dd kk n es with
   |some v=>some (if ok then .tup [v,.bool true] else v)
   |none=>some (if ok then .tup [zero,.bool false] else zero)
  else none
 |_=>none
def ahW (h:H) (zero:V) (ok:Bool) (x k:V):Option V:=match x,k with
 | .mp id,.int kk n=>aiP (h.get id) zero ok kk n
 |_,_=>none
theorem aeR (h:H) (zero:V) (ok:Bool) (id:Nat) (kk:IntKind) (n:Int):ahW h zero ok (.mp id) (.int kk n)=aiP (h.get id) zero ok kk n:=rfl
theorem afN (ρ:X->V) (h:H) (zero:V) (ok:Bool) (x k:X):cY ρ h (.lkp zero ok x k)=(ahW h zero ok (ρ x) (ρ k)).map (·,h):=by
 simp only [cY,ahW]
 cases ρ x<;>try rfl
 cases ρ k<;>try rfl
 simp only [aiP]
 rename_i id kk n
 cases h.get id with
 |none=>rfl
 |some o=>cases o with
  |map es=>
   simp only
   by_cases hk:xL kk es=true
   ·rw [if_pos hk,if_pos hk]
    cases Dd kk n es<;>rfl
   ·rw [if_neg hk,if_neg hk];rfl
  |_=>rfl
def YI (o:Option Ob) (h:H) (id:Nat) (kk:IntKind) (n:Int) (y:V):Option H:=match o with
 |some (.map es)=>if xL kk es then some (h.set id (some (.map (Nr kk n y es)))) else none
 |_=>none
def WE (h:H) (x k y:V):Option H:=match x,k with
 | .mp id,.int kk n=>YI (h.get id) h id kk n y
 |_,_=>none
theorem YH (h:H) (id:Nat) (kk:IntKind) (n:Int) (y:V):WE h (.mp id) (.int kk n) y=YI (h.get id) h id kk n y:=rfl
theorem acE (ρ:X->V) (h:H) (x k y:X):cY ρ h (.mset x k y)=(WE h (ρ x) (ρ k) (ρ y)).map λ h'=>(V.undef,h'):=by
 simp only [cY,WE]
 cases ρ x<;>try rfl
 cases ρ k<;>try rfl
 simp only [YI]
 rename_i id kk n
 cases h.get id with
 |none=>rfl
 |some o=>cases o with
  |map es=>
   simp only
   by_cases hk:xL kk es=true
   ·rw [if_pos hk,if_pos hk];rfl
   ·rw [if_neg hk,if_neg hk];rfl
  |_=>rfl
theorem xS {h:H} {sz bytes:Nat} {zero:List V} {j k:IntKind} {l c:Int} (h0:0<=l) (h1:l<=c) (h2:c*bytes<=281474976710656) (h3:c<4611686018427387904):
  Ms h sz bytes zero (.int j l) (.int k c)=some (.sl h.next 0 l.toNat (.kn c.toNat),h.new (.cells false (dQ zero (c.toNat*sz)))):=by
 simp only [Ms];rw [if_pos ⟨h0,h1,h2,h3⟩]
theorem Mm (n:Nat):dQ [.int .i64 0] n=ints (List.replicate n 0):=by
 rw [Rt]
 unfold dQ
 apply List.ext_getElem
 ·simp
 ·intro i h1 h2
  simp [Nat.mod_one]
theorem ZB (h:H) (sz:Nat) (zero:List V):rV h sz zero 0 []=some (.sl h.next 0 0 (.kn 0),h.new (.cells false [])):=by
 simp [rV,jJ,dQ]
theorem SV.bP {h:H} {v:V} {sz:Nat} {ws:List V} (s:SV h v sz ws):v.cells= [v]/\v.one=true/\ ∀ k n,v≠ .int k n:=by
 rcases s with ⟨rfl|⟨a,rfl⟩,_⟩|⟨id,off,len,cap,ro,vs,rfl,_⟩
 ·exact ⟨rfl,rfl,λ k n h=>by cases h⟩
 ·exact ⟨rfl,rfl,λ k n h=>by cases h⟩
 ·exact ⟨rfl,rfl,λ k n h=>by cases h⟩
theorem SV.st1 {h:H} {v:V} {sz:Nat} {ws:List V} (s:SV h v sz ws) (h':H) (id off:Nat):DY h' 1 (.ptr id off) v=fI (h'.get id) h' id off [v]:=lU s.bP.1 s.bP.2.1 h' id off
theorem SI.other {h:H} {v:V} {l:List Int} (s:SI h v l) (hl:l≠ []) {P:Nat} {ro:Bool} {ws:List V} (hg:h.get P=some (.cells ro ws)) (hw: ∀ (i:Nat) (w:V),ws[i]? =some w-> ∀ k n,w≠ .int k n) (o:Option Ob):SI (h.set P o) v l:=by
 rcases s with ⟨_,h0⟩|⟨id,off,len,cap,ro',vs,h1,h2,h3,h4,h5,h6⟩
 ·exact absurd (FQ (h0.trans XR.symm)) hl
 ·by_cases e:id=P
  ·subst e
   rw [hg] at h4;cases h4
   cases l with
   |nil=>exact absurd rfl hl
   |cons a l=>
    have:((ws.drop off).take (len*1))[0]? =some (.int .i64 a):=by rw [h6];rfl
    rw [List.getElem?_take] at this
    split at this
    ·rw [List.getElem?_drop] at this
     exact absurd rfl (hw _ _ this _ _)
    ·cases this
  ·exact .inr ⟨id,off,len,cap,ro',vs,h1,h2,h3,by rw [H.aH h e];exact h4,h5,h6⟩
def Dis (v u:V):Prop:= ∀ i o n c,v= .sl i o n c-> ∀ i' o' n' c',u= .sl i' o' n' c'->i≠i'
theorem eL.PQ {h h':H} {v u:V} {sz:Nat} {ws us:List V} {b:Nat} (x:eL h v sz ws b) (y:eL h' u sz us h.next):Dis v u:=by
 intro i o n c e i' o' n' c' e'
 rcases x with ⟨h1,_⟩|⟨id,k,cap,rest,h1,_,_,_,h2,_⟩
 ·rw [h1] at e;cases e
 ·rw [h1] at e;cases e
  rcases y with ⟨h3,_⟩|⟨id',k',cap',rest',h3,_,_,h4,_⟩
  ·rw [h3] at e';cases e'
  ·rw [h3] at e';cases e'
   omega
theorem eL.set {h:H} {v:V} {sz:Nat} {ws:List V} {b P:Nat} (x:eL h v sz ws b) (hP:P<b) (o:Option Ob):eL (h.set P o) v sz ws b:=
 x.mono (jI _) λ id _ _ _ _ hid _=>H.aH h (by omega) o
theorem VV {z1 z2 v u:V} (hv:v.cells= [v]) (hv1:v.one=true) (hu:u.cells= [u]) (hu1:u.one=true):Eo [z1,z2] [(0,1,v),(1,1,u)]=some (.agg [v,u]):=by
 have e1:putAt [z1,z2] 0 [v]=some [v,z2]:=by simp [putAt]
 have e2:putAt [v,z2] 1 [u]=some [v,u]:=by simp [putAt]
 simp only [Eo,jJ,hv,hu,List.length_singleton,List.all_cons,List.all_nil,hv1,hu1,Bool.and_self,and_self,if_true,e1,e2,Option.map_some]
theorem Wg (z:List V):Eo z []=some (.agg z):=rfl
theorem Fh (h:H) {v u:V} (hv1:v.one=true) (hu1:u.one=true):Qa h (.agg [v,u])=some (.ptr h.next 0,h.new (.cells false [v,u])):=Ew h _ (by simp [hv1,hu1])
theorem Sj (h:H) (id off:Nat) {v u:V} (hv1:v.one=true) (hu1:u.one=true):DY h 2 (.ptr id off) (.agg [v,u])=fI (h.get id) h id off [v,u]:=Qz h id off 2 _ rfl (by simp [hv1,hu1])
theorem Lp {x y v u:V} (h:H) (id:Nat):fI (some (.cells false [x,y])) h id 0 [v,u]=some (h.set id (some (.cells false [v,u]))):=by
 simp [fI,putAt]
theorem Ra {h:H} {id:Nat} {ro:Bool} {v u:V} (hg:h.get id=some (.cells ro [v,u])):h.row id 0 2=some [v,u]:=by
 simp [H.row,hg,sub]
def okE (h:H) (j:I) (v:V):Bool:=match cY (xv [] []) h j with|some (u,_)=>eU u v|none=>false
theorem MP (cks:List Nat) (k:Nat) (j:I) (v:V) (log:Log) (h:H):tV cks ((k,j,v)::log) h=((!cks.contains k||okE h j v)&&tV cks log h):=rfl
theorem FD (cks:List Nat) (h:H):tV cks [] h=true:=rfl
def okV (o:Option V) (v:V):Bool:=match o with|some u=>eU u v|none=>false
theorem abJ (u v:V):okV (some u) v=eU u v:=rfl
theorem aeU (h:H) (x v:V):okE h (.ld false 1 (.c x)) v=okV (Uy h x) v:=by
 unfold okE;rw [DH,ajT];cases Uy h x<;>rfl
theorem acL (h:H) (n:Nat) (x v:V):okE h (.ld true n (.c x)) v=okV (IS h n x) v:=by
 unfold okE;rw [NH,ajT];cases IS h n x<;>rfl
theorem adF (k:IntKind) (a:Int):eU (.int k a) (.int k a)=true:=by simp [eU]
theorem VL (a:Bool):eU (.bool a) (.bool a)=true:=by simp [eU]
theorem agD (a b:Nat):eU (.ptr a b) (.ptr a b)=true:=by simp [eU]
theorem afB (a b:List V):eU (.agg a) (.agg b)=yB a b:=by simp [eU]
theorem YF:yB [] []=true:=by simp [yB]
theorem TF (a b:V) (as bs:List V):yB (a::as) (b::bs)=(eU a b&&yB as bs):=by simp [yB]
theorem SV.eU {h:H} {v:V} {sz:Nat} {ws:List V} (s:SV h v sz ws):eU v v=true:=by
 rcases s with ⟨rfl|⟨a,rfl⟩,_⟩|⟨id,off,len,cap,ro,vs,rfl,_⟩<;>simp [Ay.eU]
theorem agF (i:Nat) (d:D) (g:Option (X×Bool)) (j:I) (al:Bool) (cks:List Nat) (vars:List V) (v:V) (log:Log):Pk ⟨i,⟨d,g,.op j⟩,al,cks⟩ vars v log=if j.vY then (i,j.close (xv vars []),v)::log else log:=rfl
theorem RX (i:Nat) (d:D) (g:Option (X×Bool)) (f:Nat) (xs:List X) (al:Bool) (cks:List Nat) (vars:List V) (v:V) (log:Log):Pk ⟨i,⟨d,g,.call f xs⟩,al,cks⟩ vars v log=log:=rfl
theorem KP (i:Nat) (d:D) (g:Option (X×Bool)) (f:X) (xs:List X) (al:Bool) (cks:List Nat) (vars:List V) (v:V) (log:Log):Pk ⟨i,⟨d,g,.callv f xs⟩,al,cks⟩ vars v log=log:=rfl
theorem KM (i:Nat) (d:D) (g:Option (X×Bool)) (f:Nat) (xs:List X) (al:Bool) (cks:List Nat) (vars:List V) (v:V) (log:Log):Pk ⟨i,⟨d,g,.callp f xs⟩,al,cks⟩ vars v log=log:=rfl
attribute [go_sem] MP FD abJ aeU acL adF VL agD afB YF TF agF RX KP KM I.vY I.close List.contains_cons List.contains_nil Nat.reduceBEq Bool.or_false Bool.false_or Bool.or_true Bool.true_or Bool.and_true Bool.true_and
def ahB (o:Option (V×H)) (m:Nat):Option (V×H):=match o with|some (v,h')=>some (v,H.mk h'.tr m)|none=>none
theorem aeP (vars:List V) (h:H) (n:Nat) (i:I):Um vars h n (.op i)=ahB (cY (xv vars []) (H.mk h.tr n) i) h.next:=rfl
theorem MQ (v:V) (h':H) (m:Nat):ahB (some (v,h')) m=some (v,H.mk h'.tr m):=rfl
attribute [go_sem] aeP MQ
def akV (l:List V):Nat->V:=λ i=>l.getD i .undef
theorem aA {L:List V} {F:(Nat->V)->List V} (h:L=F (akV L)): ∃ g,L=F g:=⟨akV L,h⟩
theorem Yt {l:List Int} {off:Nat} (hlt:off<l.length) (h:H) (id:Nat) (x:Int):fI (some (.cells false (ints l))) h id off [.int .i64 x]=some (h.set id (some (.cells false (ints (l.set off x))))):=by
 rw [bT (by rw [aS];exact hlt),ints_set]
attribute [go_sem] Int.toNat_natCast Int.toNat_zero Int.toNat_one Nat.add_zero Nat.zero_add
attribute [go_sem] Wg Lp List.getElem?_cons_zero List.getElem?_cons_succ List.getElem?_nil
attribute [go_sem] acX afN acE aeR YH
attribute [go_sem] Yt aS ints_set xS Mm ZB Nat.mul_one Nat.mul_zero
theorem Qn:(∀ {a:Type} (l:List a) (i:Nat) (x:a),(l.set i x).length=l.length)/\(∀ {a:Type} (n:Nat) (x:a),(List.replicate n x).length=n)/\(∀ {a:Type} (l m:List a),(l++m).length=l.length+m.length)/\(∀ {a:Type} (i:Nat) (l:List a),(l.take i).length=min i l.length)/\(∀ {a:Type} (i:Nat) (l:List a),(l.drop i).length=l.length-i)/\(∀ {a:Type} (x:a) (l:List a),(x::l).length=l.length+1)/\(∀ {a:Type},([]:List a).length=0)/\(∀ {a b:Type} (f:a->b) (l:List a),(l.map f).length=l.length)/\(∀ n:Nat,(List.range n).length=n)/\(∀ l:List Int,(ints l).length=l.length):=
 ⟨λ _ _ _=>List.length_set ..,λ _ _=>List.length_replicate ..,λ _ _=>vA ..,λ _ _=>List.length_take ..,λ _ _=>List.length_drop ..,λ _ _=>rfl,rfl,λ _ _=>nO ..,λ _=>List.length_range ..,λ _=>aS _⟩
end Go.Ay
