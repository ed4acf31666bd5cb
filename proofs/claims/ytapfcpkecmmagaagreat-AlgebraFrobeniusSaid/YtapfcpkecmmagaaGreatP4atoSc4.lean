/- Texts of the claim. -/
import Derived.Test.YtapfcpkecmmagaaGreatC27code
import Derived.Test.YtapfcpkecmmagaaGreatDp2toSm
import Derived.Test.YtapfcpkecmmagaaGreatP5a
import Derived.Test.YtapfcpkecmmagaaGreatAy39
import Derived.Sort.AssemblyPlain
set_option maxHeartbeats 64000000
namespace Go.Proofs.YtapfcpkecmmagaaGreat
open Go Go.Ay
set_option maxRecDepth 100000
section
variable {h h' a:H} {l:List Int} {n:Int} {u:V} {b x:Nat}
def Copy (h:H)(l:List Int)(v:V)(h':H):Prop:=Own h' v 1 (ints l) h.next/\Fr h h'/\(0<l.length-> ∃id,v= .sl id 0 l.length (.un 1)/\h.next<=id/\id<h'.next/\h'.get id=cE (ints l))
theorem copy_of {v:V}(hs:SI h v l)(hl:l.length<1000000): ∃v' h',qX (h.new (.cells false [])) 1 8 (.sl h.next 0 0 (.kn 0)) v=some (v',h')/\Copy h l v' h':=by
 obtain⟨v',h',e,a⟩:=(Own.new h 1 0 h.next [] rfl (eP _)).app (bytes:=8) (n:=0) (by rw[H.aV];omega) (SV.mono hs ((Fr.refl h).new _)) (m:=l.length) rfl (by rw[aN,Nat.mul_one]) (by omega) (by omega);refine⟨v',h',e,a.own,a.fr h ((Fr.refl h).new _) (eP _),λh0=>?_⟩;rcases a.cW with ⟨h1,_⟩|⟨id,h1,h2,h3,h4⟩
 ·omega
 ·exact⟨id,by rw[h1,Nat.zero_add],h2,h3,h4⟩
theorem own_ok (v:V)(l:List Int)(h:H)(hs:SI h v l)(hl:l.length<1000000):Ev T 55 [v] h (Copy h l):=by
 refine bP c_kit_Own_int rfl rfl ?_;simp only[c_kit_Own_int,aE,go_sem];obtain⟨v',h',e,c⟩:=copy_of hs hl;simp only[e,go_sem];exact c
theorem tmod_nat (n d:Nat):(n:Int).tmod (d:Int)=((n%d:Nat):Int):=rfl
theorem tmod_bd (a:Int)(hn:0<n): -n<a.tmod n/\a.tmod n<n:=by
 have h1:=Int.tmod_lt_of_pos a hn;refine⟨?_,h1⟩;rcases Int.le_total 0 a with h|h
 ·have:=Int.tmod_nonneg n h;omega
 ·have h2:=Int.tmod_lt_of_pos (-a) hn
  rw[Int.neg_tmod] at h2;omega
theorem tmod_fix (a:Int)(hn:0<n):(if a.tmod n<0 then a.tmod n+n else a.tmod n)=a%n:=by
 have h0:=tmod_bd a hn;have h1:a.tmod n=a-n*(a.tdiv n):=by have:=Int.mul_tdiv_add_tmod a n;omega
 have h2:a%n=a-n*(a/n):=Int.emod_def a n;have h3:=Int.emod_nonneg a (show n≠0 by omega);have h4:=Int.emod_lt_of_pos a hn
 have h5:(a.tmod n)%n=a%n:=by
  rw[h1,Int.sub_emod,Int.mul_emod_right,Int.sub_zero,Int.emod_emod]
 split
 ·rw[←h5,←Int.emod_eq_of_lt (a:=a.tmod n+n) (b:=n) (by omega) (by omega),Int.add_emod_right]
 ·rw[←h5,Int.emod_eq_of_lt (by omega) (by omega)]
theorem pick_ok (a n:Int)(h:H)(hn:0<n)(hn2:n<1000000000):Ev T 22 [aC a,aC n] h (λv h'=>v= aC (a%n)/\h'=h):=by
 refine bP c_kit_Pick rfl rfl ?_;have h0:=tmod_bd a hn;have h1:=tmod_fix a hn;simp (disch:=first|omega|(simp only[Qn];(try omega);done)|fail) only[go_sem,c_kit_Pick,aE];refine bD (λhlt=>?_) (λhge=>?_)
 ·rw[if_pos hlt] at h1
  simp (disch:=first|omega|(simp only[Qn];(try omega);done)|fail) only[go_sem];exact⟨by rw[h1],trivial⟩
 ·rw[if_neg hge] at h1
  simp (disch:=first|omega|(simp only[Qn];(try omega);done)|fail) only[go_sem];exact⟨by rw[h1],trivial⟩
theorem eq_of_getD {a b:List Int}(hl:a.length=b.length)(h: ∀j,j<a.length->a.getD j 0=b.getD j 0):a=b:=by
 apply List.ext_getElem hl;intro i h1 h2;have:=h i h1;rw[List.getD_eq_getElem?_getD,eQ h1,List.getD_eq_getElem?_getD,eQ h2] at this;exact this
theorem equal_gen {g:Nat}(hgt:T g=some c_slices_Equal_int_int)(va vb:V)(a b:List Int)(h:H)(ha:SI h va a)(hb:SI h vb b)(hla:a.length<1000000)(hlb:b.length<1000000):Ev T g [va,vb] h (λv h'=>v= .bool (decide (a=b))/\Fr h h'):=by
 refine tX hgt rfl ?_;obtain⟨id,off,hsl,hid,hc⟩:=ha.open;obtain⟨id2,off2,hsl2,hid2,hc2⟩:=hb.open;simp (disch:=first|omega|(simp only[Qn];(try omega);done)|fail) only[go_sem,c_slices_Equal_int_int,aE,ha.lens,hb.lens];refine bD (λhne=>?_) (λheq=>?_)
 ·simp (disch:=first|omega|(simp only[Qn];(try omega);done)|fail) only[go_sem]
  have:a≠b:=λe=>hne (by rw[e])
  exact⟨by rw[decide_eq_false this],Fr.refl h⟩
 have heq:a.length=b.length:=by omega
 simp (disch:=first|omega|(simp only[Qn];(try omega);done)|fail) only[go_sem,ha.lens];refine aJ (λk vars h2=> ∃(i:Nat) (x3 x7 x8:V),vars= [va,vb,.bool false,x3,.bool (decide ((a.length:Int)≠(b.length:Int))),aC (a.length:Int),aC i,x7,x8]/\i<=a.length/\(∀j,j<i->a.getD j 0=b.getD j 0)/\Fr h h2/\k=a.length-i) a.length
  ⟨0,_,_,_,rfl,gK _,λj hj=>by omega,Fr.refl h,rfl⟩ ?_
 rintro k vars h2 ⟨i,x3,x7,x8,rfl,hi,hpre,hf2,rfl⟩;simp (disch:=first|omega|(simp only[Qn];(try omega);done)|fail) only[go_sem];refine bD (λhlt=>?_) (λhge=>?_)
 ·have hc':=sH hf2 hid hc
  have hc2':=sH hf2 hid2 hc2;simp (disch:=first|omega|(simp only[Qn];(try omega);done)|fail) only[go_sem,hsl.ixa,hsl2.ixa,hc',hc2',Int.toNat_natCast];refine bD (λhne=>?_) (λhe=>?_)
  ·simp (disch:=first|omega|(simp only[Qn];(try omega);done)|fail) only[go_sem]
   have:a≠b:=λe=>hne (by rw[e])
   exact⟨by rw[decide_eq_false this],hf2.bJ (by omega)⟩
  ·simp (disch:=first|omega|(simp only[Qn];(try omega);done)|fail) only[go_sem]
   rw[iO i];refine⟨a.length-(i+1),by omega,i+1,_,_,_,rfl,by omega,λj hj=>?_,hf2.bJ (by omega),rfl⟩
   by_cases h3:j=i
   ·rw[h3];exact Decidable.byContradiction he
   ·exact hpre j (by omega)
 ·simp (disch:=first|omega|(simp only[Qn];(try omega);done)|fail) only[go_sem]
  have:a=b:=eq_of_getD heq λj hj=>hpre j (by omega)
  exact⟨by rw[decide_eq_true this],hf2⟩
theorem equal_ok (va vb:V)(a b:List Int)(h:H)(ha:SI h va a)(hb:SI h vb b)(hla:a.length<1000000)(hlb:b.length<1000000):Ev T 149 [va,vb] h (λv h'=>v= .bool (decide (a=b))/\Fr h h'):=equal_gen (rfl:T 149=some c_slices_Equal_int_int) va vb a b h ha hb hla hlb
theorem same_ok (va vb:V)(a b:List Int)(h:H)(ha:SI h va a)(hb:SI h vb b)(hla:a.length<1000000)(hlb:b.length<1000000):Ev T 16 [va,vb] h (λv h'=>v= .bool (decide (a=b))/\Fr h h'):=by
 refine bP c_kit_Same_int rfl rfl ?_;obtain⟨id,off,hsl,hid,hc⟩:=ha.open;obtain⟨id2,off2,hsl2,hid2,hc2⟩:=hb.open;simp (disch:=first|omega|(simp only[Qn];(try omega);done)|fail) only[go_sem,c_kit_Same_int,aE,ha.lens,hb.lens];refine bD (λhne=>?_) (λheq=>?_)
 ·simp (disch:=first|omega|(simp only[Qn];(try omega);done)|fail) only[go_sem]
  have:a≠b:=λe=>hne (by rw[e])
  exact⟨by rw[decide_eq_false this],Fr.refl h⟩
 have heq:a.length=b.length:=by omega
 simp (disch:=first|omega|(simp only[Qn];(try omega);done)|fail) only[go_sem,ha.lens];refine aJ (λk vars h2=> ∃(i:Nat) (x4 x5 x6:V),vars= [va,vb,.bool false,aC i,x4,x5,x6]/\i<=a.length/\(∀j,j<i->a.getD j 0=b.getD j 0)/\Fr h h2/\k=a.length-i) a.length
  ⟨0,_,_,_,rfl,gK _,λj hj=>by omega,Fr.refl h,rfl⟩ ?_
 rintro k vars h2 ⟨i,x3,x7,x8,rfl,hi,hpre,hf2,rfl⟩;simp (disch:=first|omega|(simp only[Qn];(try omega);done)|fail) only[go_sem,ha.lens];refine bD (λhlt=>?_) (λhge=>?_)
 ·have hc':=sH hf2 hid hc
  have hc2':=sH hf2 hid2 hc2;simp (disch:=first|omega|(simp only[Qn];(try omega);done)|fail) only[go_sem,hsl.ixa,hsl2.ixa,hc',hc2',Int.toNat_natCast];refine bD (λhne=>?_) (λhe=>?_)
  ·simp (disch:=first|omega|(simp only[Qn];(try omega);done)|fail) only[go_sem]
   have:a≠b:=λe=>hne (by rw[e])
   exact⟨by rw[decide_eq_false this],hf2.bJ (by omega)⟩
  ·simp (disch:=first|omega|(simp only[Qn];(try omega);done)|fail) only[go_sem]
   rw[iO i];refine⟨a.length-(i+1),by omega,i+1,_,_,_,rfl,by omega,λj hj=>?_,hf2.bJ (by omega),rfl⟩
   by_cases h3:j=i
   ·rw[h3];exact Decidable.byContradiction he
   ·exact hpre j (by omega)
 ·simp (disch:=first|omega|(simp only[Qn];(try omega);done)|fail) only[go_sem]
  have:a=b:=eq_of_getD heq λj hj=>hpre j (by omega)
  exact⟨by rw[decide_eq_true this],hf2⟩
def Frs (u:V)(b:Nat):Prop:= ∀id off n c,u= .sl id off n c->b<=id
theorem Frs.ne {id off n:Nat}{c:kL}(f:Frs u b)(h:id<b):u≠ .sl id off n c:=λe=>by have:=f _ _ _ _ e;omega
theorem Frs.le {b':Nat}(f:Frs u b)(h:b'<=b):Frs u b':=λid off n c e=>Nat.le_trans h (f id off n c e)
theorem Frs.own {v:V}{sz:Nat}{ws:List V}(o:Own h v sz ws b):Frs v b:=λid off n c e=>by
 rcases o with ⟨h1,_⟩|⟨id',_,_,_,h1,_,_,h2,_⟩
 ·rw[h1] at e;cases e
 ·rw[h1] at e;cases e;exact h2
structure FxT (x:Nat)(h h':H):Prop where
 next:h.next<=h'.next
 get: ∀id,id<h.next->id≠x->h'.get id=h.get id
theorem FxT.refl (x:Nat)(h:H):FxT x h h:=⟨eP _,λ_ _ _=>rfl⟩
theorem FxT.of (f:Fr h h'):FxT x h h':=⟨f.next,λid hid _=>f.get id hid⟩
theorem FxT.trans {b c:H}(f:FxT x a b)(g:FxT x b c):FxT x a c:=⟨Nat.le_trans f.next g.next,λid hid hx=>(g.get id (gE hid f.next) hx).trans (f.get id hid hx)⟩
theorem FxT.set {b:H}(f:FxT x a b)(o:Option Ob):FxT x a (b.set x o):=⟨f.next,λid hid hx=>(H.aH b hx o).trans (f.get id hid hx)⟩
theorem FxT.fr {b c:H}(f:Fr a b)(hx:a.next<=x)(g:FxT x b c):Fr a c:=⟨Nat.le_trans f.next g.next,λid hid=>(g.get id (gE hid f.next) (by omega)).trans (f.get id hid)⟩
theorem SI.fx {lo:Nat}(s:SI h u l)(fs:Frs u lo)(hx:x<lo)(f:FxT x h h'):SI h' u l:=by
 rcases s with s|⟨id,off,len,cap,ro,vs,rfl,h2,h3,h4,h5,h6⟩
 ·exact .inl s
 ·have hid:=fs _ _ _ _ rfl
  exact .inr ⟨id,off,len,cap,ro,vs,rfl,h2,gE h3 f.next,by rw[f.get id h3 (by omega)];exact h4,h5,h6⟩
def Tk (h:H)(x:Nat)(l:List Int):Prop:= ∃vl,∃a:Nat,h.get x=cE [vl,aC a]/\SI h vl l/\(∀id off len c,vl= .sl id off len c->id<x)/\a<=l.length/\x<h.next
theorem Tk.mono (t:Tk h x l)(f:Fr h h'):Tk h' x l:=by
 obtain⟨vl,a,h1,h2,h3,h4,h5⟩:=t;exact⟨vl,a,(f.get x h5).trans h1,h2.mono f,h3,h4,gE h5 f.next⟩
theorem Tk.low (t:Tk h x l)(hn:h.next<=h'.next)(hg: ∀id,id<=x->h'.get id=h.get id):Tk h' x l:=by
 obtain⟨vl,a,h1,h2,h3,h4,h5⟩:=t;refine⟨vl,a,(hg x (eP _)).trans h1,?_,h3,h4,gE h5 hn⟩;rcases h2 with h0|⟨id,off,len,cap,ro,vs,e,q2,q3,q4,q5,q6⟩
 ·exact .inl h0
 ·have:=h3 _ _ _ _ e
  exact .inr ⟨id,off,len,cap,ro,vs,e,q2,gE q3 hn,(hg id (by omega)).trans q4,q5,q6⟩
theorem Tk.set {y:Nat}(t:Tk h x l)(hy:h.next<=y)(o:Option Ob):Tk (h.set y o) x l:=t.mono ((Fr.refl h).set hy o)
theorem tmod_range (a:Int)(hn:0<n):0<=a%n/\a%n<n:=⟨Int.emod_nonneg a (by omega),Int.emod_lt_of_pos a hn⟩
def divG (n:Nat):Nat->Nat->Nat
 |0,_=>n
 |f+1,d=>if d*d<=n then (if n%d=0 then d else divG n f (d+1)) else n
def divF (n:Nat):Nat:=divG n 1000 2
def isP (n:Int):Bool:=decide (1<n)&&(decide (n<1000000)&&decide (divF n.toNat=n.toNat))
end
end Go.Proofs.YtapfcpkecmmagaaGreat
namespace Go.Proofs.YtapfcpkecmmagaaGreat
open Go Go.Ay Go.Pm
set_option maxRecDepth 100000
theorem equalFunc_gen {g:Nat}(hgt:T g=some c_slices_EqualFunc_int_int_int_int)(f:Nat)(va vb:V)(wa wb:List V)(e:Nat->Bool)(h:H)(ha:SV h va 1 wa)(hb:SV h vb 1 wb)(hla:wa.length<1000000)(hlb:wb.length<1000000)
  (hf:wa.length=wb.length-> ∀i,i<wa.length-> ∀hh,Fr h hh->Ev T f [wa.getD i .undef,wb.getD i .undef] hh (λv h'=>v= .bool (e i)/\Fr hh h')):
  Ev T g [va,vb,.fn f [] []] h (λv h'=>v= .bool (decide (wa.length=wb.length/\ ∀i,i<wa.length->e i=true))/\Fr h h'):=by
 refine tX hgt rfl ?_
 have l1:dB va=some (aC (wa.length:Int)):=by unfold dB;rw[ha.len (n:=wa.length) (by omega) (by omega)];rfl
 have l2:dB vb=some (aC (wb.length:Int)):=by unfold dB;rw[hb.len (n:=wb.length) (by omega) (by omega)];rfl
 obtain⟨id,off,sh,hid,hc⟩:=ha.shape wa.length (by omega) (by omega)
 obtain⟨id2,off2,sh2,hid2,hc2⟩:=hb.shape wb.length (by omega) (by omega)
 simp(disch:=omega)only[go_sem,c_slices_EqualFunc_int_int_int_int,aE,l1,l2]
 refine bD (λhne=>?_) (λheq=>?_)
 ·simp(disch:=omega)only[go_sem]
  exact⟨by rw[decide_eq_false (λh=>hne (by omega))],Fr.refl h⟩
 have heq:wa.length=wb.length:=by omega
 simp(disch:=omega)only[go_sem,l1]
 refine aJ (λk' vars hh=> ∃(i:Nat),(∃g:Nat->V,vars= [va,vb,.fn f [] [],g 3,g 4,g 5,g 6,g 7,va,aC (wa.length:Int),aC i,g 11,g 12])/\i<=wa.length/\(∀j,j<i->e j=true)/\Fr h hh/\k'=wa.length-i) wa.length
  ⟨0,aA rfl,gK _,λj hj=>by omega,Fr.refl h,rfl⟩ ?_
 rintro k' vars hh ⟨i,⟨g,rfl⟩,hi,pre,F,rfl⟩
 by_cases hlt:(i:Int)<(wa.length:Int)
 ·have e1:=mF hlt
  have hi':i<wa.length:=by omega
  have c1:hh.cell id (off+i)=some (wa.getD i .undef):=by rw[F.cell (hid (by omega)),hc i hi',List.getD,eQ hi'];rfl
  have c2:hh.cell id2 (off2+i)=some (wb.getD i .undef):=by rw[F.cell (hid2 (by omega)),hc2 i (by omega),List.getD,eQ (by omega)];rfl
  simp(disch:=omega)only[go_sem,e1,sh.ixa,sh2.ixa,c1,c2]
  refine (hf heq i hi' hh F).mono ?_
  rintro _ h2 ⟨rfl,f2⟩
  cases he:e i with
  |true=>
   simp(disch:=omega)only[go_sem];rw[iO i];refine⟨wa.length-(i+1),by omega,i+1,aA rfl,by omega,λj hj=>?_,F.trans f2,rfl⟩
   by_cases e2:j=i
   ·rw[e2];exact he
   ·exact pre j (by omega)
  |false=>
   simp(disch:=omega)only[go_sem];exact⟨by rw[decide_eq_false (λh=>by have:=h.2 i hi';rw[he] at this;cases this)],F.trans f2⟩
 have e1:=iG hlt
 obtain rfl:i=wa.length:=by omega
 simp(disch:=omega)only[go_sem,e1]
 exact⟨by rw[decide_eq_true ⟨heq,pre⟩],F⟩
theorem getD_row {α β:Type}{R:α->β->Prop}{as:List α}{bs:List β}(a:All2 R as bs){i:Nat}(hi:i<bs.length)(d:α)(e:β):R (as.getD i d) (bs.getD i e):=by
 have hl:=a.length;rw[List.getD,eQ (by omega),List.getD,eQ hi];exact a.get i (by omega) hi
theorem list_ext_getD {α:Type}[DecidableEq α]{a b:List α}(d:α):decide (a=b)=decide (a.length=b.length/\ ∀i,i<a.length->decide (a.getD i d=b.getD i d)=true):=by
 congr 1;rw[eq_iff_iff];constructor
 ·rintro rfl;exact⟨rfl,λi _=>by simp⟩
 ·rintro⟨h1,h2⟩
  exact sJ (d:=d) h1 λi hi=>by simpa using h2 i hi
def SmallR (R:List (List (List Int))):Prop:=R.length<1000000/\ ∀i,i<R.length->(R.getD i []).length<1000000
def SmallRR (R:List (List (List Int))):Prop:=R.length<1000000/\ ∀i,i<R.length->(R.getD i []).length<1000000/\ ∀k,k<(R.getD i []).length->((R.getD i []).getD k []).length<1000000
def SmallO (O:List (List Int)):Prop:=O.length<1000000/\ ∀i,i<O.length->(O.getD i []).length<1000000
theorem csame_ok (va vb:V)(d d':Int)(O O':List (List Int))(R R':List (List (List Int)))(h:H)(ha:ChI h va d O R)(hb:ChI h vb d' O' R')(so:SmallO O)(so':SmallO O')(sr:SmallRR R)(sr':SmallRR R'):
  Ev T 115 [va,vb] h (λv h'=>v= .bool (decide (d=d'/\O=O'/\R=R'))/\Fr h h'):=by
 obtain⟨vO,vR,rfl,sO,sR⟩:=ha
 obtain⟨vO',vR',rfl,sO',sR'⟩:=hb
 refine bP c_chain_same rfl rfl ?_
 obtain⟨wO,tO,aO⟩:=sO
 obtain⟨wO',tO',aO'⟩:=sO'
 obtain⟨wR,tR,aR,_⟩:=sR
 obtain⟨wR',tR',aR',_⟩:=sR'
 have lO:=aO.length
 have lO':=aO'.length
 have lR:=aR.length
 have lR':=aR'.length
 simp(disch:=omega)only[go_sem,c_chain_same,aE,dQ h (v:= aC d) (u:=vO) (w:=vR) rfl tO.cW.2.1 tR.cW.2.1]
 obtain⟨h1,h1e⟩: ∃h1,h1=h.new (.cells false [aC d,vO,vR]):=⟨_,rfl⟩
 have g1:h1.get h.next=some (.cells false [aC d,vO,vR]):=by rw[h1e,H.aM]
 have n1:h1.next=h.next+1:=by rw[h1e,H.aV]
 have f1:Fr h h1:=by rw[h1e];exact (Fr.refl h).new _
 rw[←h1e]
 simp(disch:=omega)only[go_sem,dQ h1 (v:= aC d') (u:=vO') (w:=vR') rfl tO'.cW.2.1 tR'.cW.2.1]
 obtain⟨h2,h2e⟩: ∃h2,h2=h1.new (.cells false [aC d',vO',vR']):=⟨_,rfl⟩
 have g2:h2.get h1.next=some (.cells false [aC d',vO',vR']):=by rw[h2e,H.aM]
 have n2:h2.next=h1.next+1:=by rw[h2e,H.aV]
 have f2:Fr h1 h2:=by rw[h2e];exact (Fr.refl h1).new _
 rw[←h2e]
 have ga: ∀hh,Fr h2 hh-> ∀i,hh.cell h.next i= [aC d,vO,vR][i]? :=λhh f i=>by rw[H.aF (by rw[f.get _ (by omega),f2.get _ (by omega)];exact g1)]
 have gb: ∀hh,Fr h2 hh-> ∀i,hh.cell h1.next i= [aC d',vO',vR'][i]? :=λhh f i=>by rw[H.aF (by rw[f.get _ (by omega)];exact g2)]
 have F2:=f1.trans f2
 by_cases hd:d=d'
 case neg=>
  have e1:decide (d=d')=false:=decide_eq_false hd;simp(disch:=omega)only[go_sem,H.aF g1,ga h2 (Fr.refl _),gb h2 (Fr.refl _),e1];exact⟨by rw[decide_eq_false (λh=>hd h.1)],F2⟩
 have e1:decide (d=d')=true:=decide_eq_true hd
 simp(disch:=omega)only[go_sem,H.aF g1,ga h2 (Fr.refl _),gb h2 (Fr.refl _),e1]
 refine (equalFunc_gen (rfl:T 148=some c_slices_EqualFunc_int_int_int_int) 149 vO vO' wO wO' (λi=>decide (O.getD i []=O'.getD i [])) h2 (tO.mono F2) (tO'.mono F2) (by rw[lO];exact so.1) (by rw[lO'];exact so'.1) (λhl i hi hh f=>?_)).mono ?_
 ·exact equal_ok _ _ _ _ hh ((getD_row aO (by omega) _ _).mono (F2.trans f)) ((getD_row aO' (by omega) _ _).mono (F2.trans f)) (so.2 i (by omega)) (so'.2 i (by omega))
 rw[lO,lO',←list_ext_getD]
 rintro _ h3 ⟨rfl,f3⟩
 by_cases hO:O=O'
 case neg=>
  rw[decide_eq_false hO];simp(disch:=omega)only[go_sem];exact⟨by rw[decide_eq_false (λh=>hO h.2.1)],F2.trans f3⟩
 rw[decide_eq_true hO]
 simp(disch:=omega)only[go_sem,ga h3 f3,gb h3 f3]
 have F3:=F2.trans f3
 refine (equalFunc_gen (rfl:T 150=some c_slices_EqualFunc_api_Perm_api_Perm_api_Perm_api_Perm) 151 vR vR' wR wR' (λi=>decide (R.getD i []=R'.getD i [])) h3 (tR.mono F3) (tR'.mono F3) (by rw[lR];exact sr.1) (by rw[lR'];exact sr'.1) (λhl i hi hh f=>?_)).mono ?_
 ·refine bP c_chain_same_1 rfl rfl ?_
  simp(disch:=omega)only[go_sem,c_chain_same_1,aE]
  obtain⟨ws,s1,s2⟩:=(getD_row aR (i:=i) (by omega) .undef []).mono (F3.trans f)
  obtain⟨ws',s1',s2'⟩:=(getD_row aR' (i:=i) (by omega) .undef []).mono (F3.trans f)
  have k1:=s2.length
  have k2:=s2'.length
  refine (equalFunc_gen (rfl:T 152=some c_slices_EqualFunc_api_Perm_api_Perm_api_Perm_api_Perm_x152) 153 _ _ ws ws' (λk=>decide ((R.getD i []).getD k []=(R'.getD i []).getD k [])) hh s1 s1' (by rw[k1];exact (sr.2 i (by omega)).1) (by rw[k2];exact (sr'.2 i (by omega)).1) (λhl2 k hk h4 f4=>?_)).mono ?_
  ·refine bP c_chain_same_1_1 rfl rfl ?_
   simp(disch:=omega)only[go_sem,c_chain_same_1_1,aE]
   refine (equal_gen (rfl:T 154=some c_slices_Equal_api_Perm_int) _ _ _ _ h4 ((getD_row s2 (by omega) _ _).mono f4) ((getD_row s2' (by omega) _ _).mono f4) ((sr.2 i (by omega)).2 k (by omega)) ((sr'.2 i (by omega)).2 k (by omega))).mono ?_
   rintro _ h5 ⟨rfl,f5⟩
   simp(disch:=omega)only[go_sem]
   exact f5
  rw[k1,k2,←list_ext_getD]
  rintro _ h5 ⟨rfl,f5⟩
  simp(disch:=omega)only[go_sem]
  exact f5
 rw[lR,lR',←list_ext_getD]
 rintro _ h4 ⟨rfl,f4⟩
 simp(disch:=omega)only[go_sem]
 refine⟨?_,F3.trans f4⟩
 congr 2
 rw[eq_iff_iff]
 exact⟨λh=>⟨hd,hO,h⟩,λh=>h.2.2⟩
section
variable {i:Nat} {a:List Int}
def pckOk (a:List Int):Bool:=decide a.Nodup&&a.all λx=>decide (0<=x)&&decide (x<(a.length:Int))
def pck (a:List Int):Int:=if a.length<1∨64<a.length then 2 else if pckOk a=true then 0 else 3
structure Pre (a:List Int)(i:Nat):Prop where
 nd:(a.take i).Nodup
 rg: ∀x∈a.take i,0<=x/\x<(a.length:Int)
theorem takeI {l:List Int}(hi:i<l.length):l.take (i+1)=l.take i++ [l.getD i 0]:=by
 rw[List.take_add_one,eQ hi];simp [List.getD,hi]
theorem Pre.zero (a:List Int):Pre a 0:=⟨by simp,λx hx=>by simp at hx⟩
theorem Pre.succ (p:Pre a i)(hi:i<a.length)(h0:0<=a.getD i 0)(h1:a.getD i 0<(a.length:Int))(h2:a.getD i 0∉a.take i):Pre a (i+1):=by
 refine⟨?_,λx hx=>?_⟩
 ·rw[takeI hi,List.nodup_append]
  exact⟨p.nd,by simp,λx hx y hy=>by
   have e:y=a.getD i 0:=by simpa using hy
   intro e2;rw[e2,e] at hx
   exact h2 hx⟩
 ·rw[takeI hi] at hx
  rcases xH.1 hx with hx|hx
  ·exact p.rg x hx
  ·simp at hx;subst hx;exact⟨h0,h1⟩
theorem Pre.all (p:Pre a a.length):pckOk a=true:=by
 have e:a.take a.length=a:=List.take_length;unfold pckOk;simp only[Bool.and_eq_true,decide_eq_true_eq,List.all_eq_true];exact⟨e▸p.nd,λx hx=>p.rg x (by rw[e];exact hx)⟩
theorem pck_bad (hi:i<a.length)(h:a.getD i 0<0∨(a.length:Int)<=a.getD i 0∨a.getD i 0∈a.take i):pckOk a=false:=by
 cases e:pckOk a with
 |false=>rfl
 |true=>
  exfalso;unfold pckOk at e;simp only[Bool.and_eq_true,decide_eq_true_eq,List.all_eq_true] at e;obtain⟨e1,e2⟩:=e
  have hm:a.getD i 0∈a:=by
   have:a.getD i 0=a[i]:=by simp [List.getD,hi]
   rw[this];exact List.getElem_mem hi
  have:=e2 _ hm;rcases h with h|h|h
  ·omega
  ·omega
  ·have hs:(a.take (i+1)).Nodup:=e1.sublist (List.take_sublist _ _)
   rw[takeI hi,List.nodup_append] at hs;exact hs.2.2 _ h _ (by simp) rfl
theorem bools64: [V.bool false,.bool false,.bool false,.bool false,.bool false,.bool false,.bool false,.bool false,.bool false,.bool false,.bool false,.bool false,.bool false,.bool false,.bool false,.bool false,
 .bool false,.bool false,.bool false,.bool false,.bool false,.bool false,.bool false,.bool false,.bool false,.bool false,.bool false,.bool false,.bool false,.bool false,.bool false,.bool false,
 .bool false,.bool false,.bool false,.bool false,.bool false,.bool false,.bool false,.bool false,.bool false,.bool false,.bool false,.bool false,.bool false,.bool false,.bool false,.bool false,
 .bool false,.bool false,.bool false,.bool false,.bool false,.bool false,.bool false,.bool false,.bool false,.bool false,.bool false,.bool false,.bool false,.bool false,.bool false,.bool false]=rc 64 (λ_=> .bool false):=rfl
theorem perm_Check_ok (u:V)(a:List Int)(h:H)(hl:a.length<1000000)(hu:SI h u a):
  Ev T 108 [u] h (λv h'=>v= aC (pck a)/\Fr h h'):=by
 refine bP c_perm_Check rfl rfl ?_
 have lu:=hu.lens
 obtain⟨id,off,sh,hid,hc⟩:=hu.open
 by_cases h1:a.length<1
 ·have d1:decide ((a.length:Int)<1)=true:=mF (by omega)
  simp(disch:=omega)only[go_sem,c_perm_Check,aE,lu,d1]
  exact⟨by unfold pck;rw[if_pos (.inl h1)],Fr.refl h⟩
 have d1:decide ((a.length:Int)<1)=false:=iG (by omega)
 by_cases h2:64<a.length
 ·have d2:decide ((64:Int)<(a.length:Int))=true:=mF (by omega)
  simp(disch:=omega)only[go_sem,c_perm_Check,aE,lu,d1,d2]
  exact⟨by unfold pck;rw[if_pos (.inr h2)],Fr.refl h⟩
 have d2:decide ((64:Int)<(a.length:Int))=false:=iG (by omega)
 have hp:pck a=if pckOk a=true then 0 else 3:=by unfold pck;rw[if_neg (by omega)]
 simp(disch:=omega)only[go_sem,c_perm_Check,aE,lu,d1,d2,bools64]
 have hf1:Fr h (h.new (.cells false (rc 64 λ_=>V.bool false))):=(Fr.refl h).new _
 have hg1:(h.new (.cells false (rc 64 λ_=>V.bool false))).get h.next=some (.cells false (rc 64 λ_=>V.bool false)):=H.aM ..
 have hn1:(h.new (.cells false (rc 64 λ_=>V.bool false))).next=h.next+1:=H.aV ..
 generalize h.new (.cells false (rc 64 λ_=>V.bool false))=h1 at*
 obtain⟨S,hS⟩:=AS h.next
 rw[hS] at hg1 hn1
 rw[hS]
 refine aJ (λk' vars hh=> ∃(i:Nat),(∃j:Nat->V,vars= [u,aC 0,.ptr S 0,j 3,j 4,u,aC (a.length:Int),aC i,j 8,j 9])/\i<=a.length/\Pre a i/\
   hh.get S=some (.cells false (rc 64 λj=> .bool ((a.take i).contains (j:Int))))/\Fr h hh/\k'=a.length-i) a.length
  ⟨0,aA rfl,gK _,Pre.zero a,by rw[hg1];rfl,hf1,rfl⟩ ?_
 clear hg1 hf1 hn1
 rintro k' vars h3 ⟨i,⟨jk,rfl⟩,hi,pre,gS,F,rfl⟩
 simp(disch:=omega)only[go_sem]
 by_cases hlt:(i:Int)<(a.length:Int)
 ·rw[decide_eq_true hlt]
  have hi':i<a.length:=by omega
  have ci:h3.cell id (off+i)=some (aC (a.getD i 0)):=by rw[F.cell (hid (by omega)),hc i hi']
  generalize hx:a.getD i 0=x at ci
  by_cases hx0:x<0
  ·have e0:decide (x<0)=true:=decide_eq_true hx0
   simp(disch:=omega)only[go_sem,sh.ixa,ci,e0]
   refine⟨?_,F⟩
   rw[hp,pck_bad hi' (.inl (by rw[hx];exact hx0))];rfl
  have e0:decide (x<0)=false:=decide_eq_false hx0
  by_cases hx1:(a.length:Int)<=x
  ·have e1:decide ((a.length:Int)<=x)=true:=mF (by omega)
   simp(disch:=omega)only[go_sem,sh.ixa,ci,e0,e1,lu]
   refine⟨?_,F⟩
   rw[hp,pck_bad hi' (.inr (.inl (by rw[hx];exact hx1)))];rfl
  have e1:decide ((a.length:Int)<=x)=false:=iG (by omega)
  obtain⟨k,rfl⟩: ∃k:Nat,x=(k:Int):=⟨x.toNat,by omega⟩
  have hk:k<64:=by omega
  have cS:=pW gS hk
  cases hm:(a.take i).contains (k:Int) with
  |true=>
   rw[hm] at cS;simp(disch:=omega)only[go_sem,sh.ixa,ci,e0,e1,lu,cS];refine⟨?_,F⟩;rw[hp,pck_bad hi' (.inr (.inr (by rw[hx];simpa using hm)))];rfl
  |false=>
   rw[hm] at cS;have pt:=bE (vs:=rc 64 λj=> .bool ((a.take i).contains (j:Int))) (off:=k) (by rw[cV];exact hk) h3 S (.bool true);rw[eY] at pt;simp(disch:=omega)only[go_sem,sh.ixa,ci,e0,e1,lu,cS,gS,pt];rw[iO i];refine⟨a.length-(i+1),by omega,i+1,aA rfl,by omega,pre.succ hi' (by rw[hx];omega) (by rw[hx];omega) (by rw[hx];simpa using hm),?_,F.set (by omega) _,rfl⟩;congr 2;refine bH λj hj=>?_
   rw[takeI hi',hx]
   by_cases e:j=k
   ·subst e;rw[if_pos rfl];simp
   ·rw[if_neg e]
    congr 1;rw[Bool.eq_iff_iff];simp only[List.contains_iff_mem,xH,List.mem_singleton];constructor
    ·exact .inl
    ·rintro (h|h)
     ·exact h
     ·omega
 rw[decide_eq_false hlt]
 obtain rfl:i=a.length:=by omega
 simp(disch:=omega)only[go_sem]
 refine⟨?_,F⟩
 rw[hp,pre.all];rfl
end
theorem mks_bools (hh:H)(c:Nat)(hc:c<=100000):tF hh 1 1 [.bool false] (aC c) (aC c)=some (.sl hh.next 0 c (.kn c),hh.new (.cells false (rc c λ_=> .bool false))):=by
 rw[lQ (by omega) (Int.le_refl _) (by omega) (by omega),Int.toNat_natCast,Nat.mul_one];congr 4;refine List.ext_getElem (by simp [dG,rc]) λi _ _=>?_
 simp [dG,Nat.mod_one,rc]
theorem pckOk_isP {a:List Int}(h:pckOk a=true):a=zi (a.map Int.toNat)/\aX a.length (a.map Int.toNat):=by
 unfold pckOk at h;simp only[Bool.and_eq_true,decide_eq_true_eq,List.all_eq_true] at h;obtain⟨h1,h2⟩:=h
 have e:a=zi (a.map Int.toNat):=by
  unfold zi;rw[List.map_map];refine (List.map_id a).symm.trans (List.map_congr_left λx hx=>?_);have:=(h2 x hx).1
  show x=((x.toNat:Nat):Int)
  omega
 refine⟨e,by simp,?_,λx hx=>?_⟩
 ·rw[List.nodup_iff_pairwise_ne,List.pairwise_map]
  rw[List.nodup_iff_pairwise_ne] at h1;refine h1.imp_of_mem λ{x y} hx hy hne e2=>?_
  have:=(h2 x hx).1;have:=(h2 y hy).1;omega
 ·obtain⟨y,hy,rfl⟩:=jH.1 hx
  have:=h2 y hy;omega
theorem pckOk_zi {n:Nat}{l:List Nat}(L:aX n l):pckOk (zi l)=true:=by
 unfold pckOk;simp only[Bool.and_eq_true,decide_eq_true_eq,List.all_eq_true];refine⟨?_,λx hx=>?_⟩
 ·unfold zi
  have:=L.nd;rw[List.nodup_iff_pairwise_ne] at this ⊢;rw[List.pairwise_map];exact this.imp λhne e=>hne (by omega)
 ·obtain⟨k,hk,rfl⟩:=jH.1 hx
  have:=L.lt k hk;rw[aU,L.len];omega
def lessB:List Nat->List Nat->Bool
 |x::a,y::b=>if x=y then lessB a b else decide (x<y)
 |a,b=>decide (a.length<b.length)
theorem lessB_at: ∀{a b:List Nat} {i:Nat},(∀j,j<i->a.getD j 0=b.getD j 0)->i<a.length->i<b.length->a.getD i 0≠b.getD i 0->lessB a b=decide (a.getD i 0<b.getD i 0)
 | [],_,i,_,h,_,_=>by simp at h
 |_::_, [],i,_,_,h,_=>by simp at h
 |x::a,y::b,0,_,_,_,hne=>by
  have:x≠y:=by simpa using hne
  simp [lessB,this]
 |x::a,y::b,i+1,h,h1,h2,hne=>by
  have e:x=y:=by simpa using h 0 (by omega)
  unfold lessB;rw[if_pos e,lessB_at (a:=a) (b:=b) (i:=i) (λj hj=>by simpa using h (j+1) (by omega)) (by simpa using h1) (by simpa using h2) (by simpa using hne)];simp
theorem lessB_self: ∀a:List Nat,lessB a a=false
 | []=>by simp [lessB]
 |x::a=>by unfold lessB;rw[if_pos rfl];exact lessB_self a
theorem lessB_iff {a b:List Nat}(hl:a.length=b.length):lessB a b=true↔Lt a b:=by
 by_cases h: ∃i,i<a.length/\a.getD i 0≠b.getD i 0
 ·have hw: ∃i,(i<a.length/\a.getD i 0≠b.getD i 0)/\ ∀j,j<i-> ¬(j<a.length/\a.getD j 0≠b.getD j 0):=by
   obtain⟨i,hi⟩:=h
   induction i using Nat.strongRecOn with
   |_ i ih=>
    by_cases hj: ∃j,j<i/\j<a.length/\a.getD j 0≠b.getD j 0
    ·obtain⟨j,h1,h2⟩:=hj;exact ih j h1 h2
    ·exact⟨i,hi,λj h1 h2=>hj ⟨j,h1,h2⟩⟩
  obtain⟨i,⟨h1,h2⟩,h3⟩:=hw;have hpre: ∀j,j<i->a.getD j 0=b.getD j 0:=λj hj=>xG λhn=>h3 j hj ⟨by omega,hn⟩
  rw[lessB_at hpre h1 (by omega) h2,decide_eq_true_eq];constructor
  ·intro h;exact⟨i,h1,hpre,h⟩
  ·rintro⟨k,h4,h5,h6⟩
   rcases Nat.lt_trichotomy i k with h|h|h
   ·exact absurd (h5 i h) h2
   ·subst h;exact h6
   ·have:=hpre k h;omega
 ·have e:a=b:=lW hl λi hi=>xG λhn=>h ⟨i,hi,hn⟩
  subst e;rw[lessB_self];constructor
  ·intro h;cases h
  ·exact λh=>(h.asymm h).elim
theorem less_ok (u w:V)(n:Nat)(a b:List Nat)(h:H)(hn:n<100000)(la:a.length=n)(lb:b.length=n)(hu:SI h u (zi a))(hw:SI h w (zi b)):
  Ev T 82 [u,w] h (λv h'=>v= .bool (lessB a b)/\Fr h h'):=by
 refine bP c_kit_Less rfl rfl ?_
 have lu:=hu.lens
 rw[aU,la] at lu
 have lw:=hw.lens
 rw[aU,lb] at lw
 obtain⟨id,off,sh,hid,hc⟩:=hu.open
 rw[aU,la] at sh hid hc
 obtain⟨id2,off2,sh2,hid2,hc2⟩:=hw.open
 rw[aU,lb] at sh2 hid2 hc2
 simp(disch:=omega)only[go_sem,c_kit_Less,aE]
 refine aJ (λk' vars hh=> ∃(i:Nat),(∃j:Nat->V,vars= [u,w,.bool false,aC i,j 4,j 5])/\i<=n/\(∀j,j<i->a.getD j 0=b.getD j 0)/\Fr h hh/\k'=n-i) n
  ⟨0,aA rfl,gK _,λ_ h=>by omega,Fr.refl h,rfl⟩ ?_
 rintro k' vars h3 ⟨i,⟨jk,rfl⟩,hi,pre,F,rfl⟩
 by_cases hlt:(i:Int)<(n:Int)
 ·have d:=mF hlt
  have hi':i<n:=by omega
  have ci:h3.cell id (off+i)=some (aC (a.getD i 0:Nat)):=by rw[F.cell (hid (by omega)),hc i hi'];congr 2;simp [zi,la,hi']
  have ck:h3.cell id2 (off2+i)=some (aC (b.getD i 0:Nat)):=by rw[F.cell (hid2 (by omega)),hc2 i hi'];congr 2;simp [zi,lb,hi']
  by_cases he:a.getD i 0=b.getD i 0
  ·have e0:decide (((a.getD i 0:Nat):Int)≠((b.getD i 0:Nat):Int))=false:=iG (by omega)
   simp(disch:=omega)only[go_sem,lu,lw,d,sh.ixa,sh2.ixa,ci,ck,e0]
   rw[iO i]
   refine⟨n-(i+1),by omega,i+1,aA rfl,by omega,λj hj=>?_,?_,rfl⟩
   ·by_cases e:j=i
    ·rw[e];exact he
    ·exact pre j (by omega)
   ·first|exact F|exact F.bJ (by omega)
  ·have e0:decide (((a.getD i 0:Nat):Int)≠((b.getD i 0:Nat):Int))=true:=mF (by omega)
   simp(disch:=omega)only[go_sem,lu,lw,d,sh.ixa,sh2.ixa,ci,ck,e0]
   refine⟨?_,?_⟩
   ·rw[lessB_at pre (by omega) (by omega) he]
    congr 1
    rw[Bool.eq_iff_iff];simp
   ·first|exact F|exact F.bJ (by omega)|exact (F.bJ (by omega)).bJ (by simp;omega)
 have d:=iG hlt
 have en:decide ((n:Int)<(n:Int))=false:=iG (by omega)
 obtain rfl:i=n:=by omega
 simp(disch:=omega)only[go_sem,lu,lw,d]
 have e:a=b:=lW (by omega) λj hj=>pre j (by omega)
 refine⟨?_,F⟩
 rw[e,lessB_self]
section
variable {n:Nat} {O:List (List Int)}
theorem reps_ok (d:Int)(vO vR:V)(hO:vO.one=true)(hR:vR.one=true)(h:H):Ev T 110 [.agg [aC d,vO,vR]] h (λv h'=>v= .fn 127 [] [.ptr h.next 0]/\h'.get h.next=cE [aC d,vO,vR]/\h'.next=h.next+1/\Fr h h'):=by
 refine bP c_chain_reps rfl rfl ?_;simp(disch:=omega)only[go_sem,c_chain_reps,aE,dQ h (v:= aC d) (u:=vO) (w:=vR) rfl hO hR];exact (Fr.refl h).new _
theorem reps1_ok (id b:Nat)(d:Int)(vO vR:V)(ws:List V)(h:H)(hn:ws.length<1000000)(J:Nat->H->Prop)(D:H->Prop)(h0:J 0 h)
  (hk: ∀i hh,J i hh->hh.get b=cE [aC d,vO,vR]/\SV hh vR 1 ws)
  (hy: ∀i hh,i<ws.length->J i hh->Ey T id [aC i,ws.getD i .undef] hh (λv h'=>v= .bool true/\J (i+1) h'∨v= .bool false/\D h')):
  Ev T 127 [.yl id,.ptr b 0] h (λ_ h'=>J ws.length h'∨D h'):=by
 refine bP c_chain_reps_1 rfl rfl ?_
 obtain⟨g0,s0⟩:=hk 0 h h0
 have cb:h.cell b 2=some vR:=by rw[H.aF g0];rfl
 have lv:dB vR=some (aC (ws.length:Int)):=by unfold dB;rw[s0.len (n:=ws.length) (by omega) (by omega)];rfl
 simp(disch:=omega)only[go_sem,c_chain_reps_1,aE,cb,lv]
 refine aJ (λk' vars hh=> ∃(i:Nat),(∃g:Nat->V,vars= [.yl id,.ptr b 0,g 2,g 3,vR,aC (ws.length:Int),aC i,g 7,g 8])/\i<=ws.length/\J i hh/\k'=ws.length-i) ws.length
  ⟨0,aA rfl,gK _,h0,rfl⟩ ?_
 rintro k' vars h2 ⟨i,⟨g,rfl⟩,hi,hJ,rfl⟩
 by_cases hlt:(i:Int)<(ws.length:Int)
 ·have e1:=mF hlt
  obtain⟨g2,s2⟩:=hk i h2 hJ
  obtain⟨id2,off,sh,hid,hc⟩:=s2.shape ws.length (by omega) (by omega)
  have ci:h2.cell id2 (off+i)=some (ws.getD i .undef):=by rw[hc i (by omega),List.getD,eQ (by omega)];rfl
  simp(disch:=omega)only[go_sem,e1,sh.ixa,ci]
  refine (hy i h2 (by omega) hJ).mono ?_
  rintro v h3 (⟨rfl,h4⟩|⟨rfl,h4⟩)
  ·simp(disch:=omega)only[go_sem]
   rw[iO i]
   exact⟨ws.length-(i+1),by omega,i+1,aA rfl,by omega,h4,rfl⟩
  ·simp(disch:=omega)only[go_sem]
   exact .inr h4
 have e1:=iG hlt
 obtain rfl:i=ws.length:=by omega
 simp(disch:=omega)only[go_sem,e1]
 exact .inl hJ
structure Frm (n:Nat)(O:List (List Int))(R:List (List (List Int))):Prop where
 lo:O.length=n
 lr:R.length=n
 row: ∀i,i<n->(R.getD i []).length=(O.getD i []).length/\(R.getD i []).length<=n-i
 perm: ∀i,i<n-> ∀x∈R.getD i [],x.length=n/\pckOk x=true
def ChkP (d:Int)(O:List (List Int))(R:List (List (List Int))):Prop:= ∃(n:Nat) (O':LN) (R':lU),d=(n:Int)/\1<=n/\n<=64/\O=O'.map zi/\R=R'.map (List.map zi)/\Valid n O' R'
open Classical in
noncomputable def chkE (d:Int)(O:List (List Int))(R:List (List (List Int))):Int:=if d<1∨64<d then 2 else if ChkP d O R then 0 else 3
theorem zi_inj {a b:List Nat}(h:zi a=zi b):a=b:=by
 have:=congrArg (List.map Int.toNat) h
 have e: ∀a:List Nat,(zi a).map Int.toNat=a:=λa=>by
  unfold zi;rw[List.map_map];exact (List.map_congr_left λx _=>by simp).trans (List.map_id a)
 rwa [e,e] at this
theorem map_inj {α β:Type}{f:α->β}(hf: ∀x y,f x=f y->x=y): ∀{a b:List α},a.map f=b.map f->a=b
 | [], [],_=>rfl
 | [],_::_,h=>by cases h
 |_::_, [],h=>by cases h
 |x::a,y::b,h=>by
  simp only[List.map_cons,List.cons.injEq] at h;rw[hf x y h.1,map_inj hf h.2]
theorem orb_len {i:Nat}{G:List Nat->Prop}(hG: ∀x,G x->aX n x){o:List Nat}(hi:i<n)(asc:o.Pairwise (· < ·))(mem: ∀p,p∈o↔ ∃x,G x/\Fix i x/\x.getD i 0=p):o.length<=n-i:=by
 have nd:o.Nodup:=by rw[List.nodup_iff_pairwise_ne];exact asc.imp λh e=>by omega
 have:=List.Nodup.length_le_of_subset nd (l₂:=(List.range (n-i)).map (· +i)) λp hp=>by
  obtain⟨x,hx,hf,rfl⟩:=(mem p).1 hp;have X:=hG x hx;have h1:=X.dU hi
  have h2:i<=x.getD i 0:=xG λhn=>by
   have:=X.inj hi (j:=x.getD i 0) (by omega) (by rw[hf (x.getD i 0) (by omega)]);omega
  exact jH.2 ⟨x.getD i 0-i,rH.2 (by omega),by omega⟩
 simpa using this
theorem ChkP.frm {R:List (List (List Int))}(c:ChkP (n:Int) O R):Frm n O R:=by
 obtain⟨m,O',R',e,h1,h2,rfl,rfl,hP,v⟩:=c;obtain rfl:n=m:=by omega
 have gd: ∀i,i<n->(R'.map (List.map zi)).getD i []=(R'.getD i []).map zi/\(O'.map zi).getD i []=zi (O'.getD i [])/\ ∀x∈R'.getD i [],x∈R'.flatten:=λi hi=>by
  have h3:=v.lr;have h4:=v.lo;refine⟨by simp [List.getD,show i<R'.length by omega],by simp [List.getD,show i<O'.length by omega],λx hx=>?_⟩;rw[List.getD,eQ (by omega)] at hx;exact List.mem_flatten.2 ⟨_,List.getElem_mem (by omega),hx⟩
 refine⟨by rw[jS];exact v.lo,by rw[jS];exact v.lr,λi hi=>?_,λi hi x hx=>?_⟩
 ·obtain⟨e1,e2,_⟩:=gd i hi
  rw[e1,e2,jS,aU,v.rl i hi];exact⟨rfl,orb_len (λx hx=>dF.isP hP hx) hi (v.asc i hi) (v.mem i hi)⟩
 ·obtain⟨e1,_,e3⟩:=gd i hi
  rw[e1] at hx;obtain⟨y,hy,rfl⟩:=jH.1 hx;have Y:=hP y (e3 y hy);exact⟨by rw[aU];exact Y.len,pckOk_zi Y⟩
theorem Frm.nat {R:List (List (List Int))}(f:Frm n O R): ∃R':lU,R=R'.map (List.map zi)/\ ∀g∈R'.flatten,aX n g:=by
 have key: ∀x,(∃i,i<n/\x∈R.getD i [])->x=zi (x.map Int.toNat)/\aX n (x.map Int.toNat):=λx ⟨i,hi,hx⟩=>by
  obtain⟨h1,h2⟩:=f.perm i hi x hx;obtain⟨h3,h4⟩:=pckOk_isP h2;rw[h1] at h4;exact⟨h3,h4⟩
 have mem: ∀r∈R,∀x∈r,∃i,i<n/\x∈R.getD i []:=λr hr x hx=>by
  obtain⟨i,hi,rfl⟩:=uH.1 hr;have:=f.lr;exact⟨i,by omega,by rw[List.getD,eQ hi];exact hx⟩
 refine⟨R.map (List.map (List.map Int.toNat)),?_,λg hg=>?_⟩
 ·rw[List.map_map]
  refine (List.map_id R).symm.trans (List.map_congr_left λr hr=>?_);show r=(r.map (List.map Int.toNat)).map zi;rw[List.map_map];refine (List.map_id r).symm.trans (List.map_congr_left λx hx=>(key x (mem r hr x hx)).1)
 ·obtain⟨r',hr',hg⟩:=List.mem_flatten.1 hg
  obtain⟨r,hr,rfl⟩:=jH.1 hr';obtain⟨x,hx,rfl⟩:=jH.1 hg;exact (key x (mem r hr x hx)).2
theorem ChkP.iff {R':lU}(h1:1<=n)(h2:n<=64)(hP: ∀g∈R'.flatten,aX n g){O2:LN}{R2:lU}(c:dK n (Ea n R') O2 R2):
  ChkP (n:Int) O (R'.map (List.map zi))↔O=O2.map zi/\R'.map (List.map zi)=R2.map (List.map zi):=by
 have inj: ∀a b:LN,a.map zi=b.map zi->a=b:=λa b h=>map_inj (λ_ _=>zi_inj) h
 constructor
 ·rintro⟨m,O3,R3,e,_,_,rfl,e3,v⟩
  obtain rfl:n=m:=by omega
  have:=map_inj inj e3
  subst this
  obtain⟨e4,e5⟩:=(Valid.iff hP c).1 v
  subst e4 e5
  exact⟨rfl,rfl⟩
 ·rintro⟨rfl,e⟩
  have:=map_inj inj e
  subst this
  exact⟨n,O2,R',rfl,h1,h2,rfl,rfl,(Valid.iff hP c).2 ⟨rfl,rfl⟩⟩
end
section
variable {n i:Nat} {O:List (List Int)} {R:List (List (List Int))}
def RowOk (n:Nat)(O:List (List Int))(R:List (List (List Int)))(j:Nat):Prop:=((R.getD j []).length=(O.getD j []).length/\(R.getD j []).length<=n-j)/\ ∀x∈R.getD j [],x.length=n/\pckOk x=true
theorem Frm.of (h1:O.length=n)(h2:R.length=n)(h: ∀j,j<n->RowOk n O R j):Frm n O R:=⟨h1,h2,λi hi=>(h i hi).1,λi hi=>(h i hi).2⟩
theorem chk_form (h1:1<=n)(h2:n<=64)(h: ¬Frm n O R):chkE (n:Int) O R=3:=by
 unfold chkE;rw[if_neg (by omega),if_neg (λc=>h c.frm)]
theorem getD_mem {α:Type}{l:List α}{k:Nat}{d:α}(h:k<l.length):l.getD k d∈l:=by
 rw[List.getD,eQ h];exact List.getElem_mem h
theorem take_getD {α:Type}{l:List α}{k:Nat}(d:α)(h:k<l.length):l.take (k+1)=l.take k++ [l.getD k d]:=by
 rw[←List.take_append_getElem h,List.getD,eQ h];rfl
theorem flat_len {R:List (List (List Int))}{m:Nat}: ∀{i:Nat},i<=R.length->(∀j,j<i->(R.getD j []).length<=m)->((R.take i).flatten).length<=i*m
 |0,_,_=>by simp
 |i+1,h,hr=>by
  rw[←List.take_append_getElem (show i<R.length by omega),List.flatten_append,jD];have h1:=flat_len (i:=i) (by omega) (λj hj=>hr j (by omega));have h2:=hr i (by omega);rw[List.getD,eQ (by omega)] at h2;have h2:R[i].length<=m:=h2;simp only[List.flatten_cons,List.flatten_nil,List.append_nil];rw[Nat.succ_mul];omega
theorem chain_small {G:List Nat->Prop}(hG: ∀x,G x->aX n x){O:LN}{R:lU}(hn:n<=64)(c:dK n G O R):SmallO (O.map zi)/\SmallRR (R.map (List.map zi)):=by
 have ol: ∀i,i<n->(O.getD i []).length<=n:=λi hi=>Nat.le_trans (orb_len hG hi (c.asc i hi) (c.mem i hi)) (by omega)
 refine⟨⟨by rw[jS,c.lo];omega,λi hi=>?_⟩,⟨by rw[jS,c.lr];omega,λi hi=>?_⟩⟩
 ·rw[jS,c.lo] at hi
  have:(O.map zi).getD i []=zi (O.getD i []):=by simp [List.getD,show i<O.length by rw[c.lo];exact hi]
  rw[this,aU];have:=ol i hi;omega
 ·rw[jS,c.lr] at hi
  have e:(R.map (List.map zi)).getD i []=(R.getD i []).map zi:=by simp [List.getD,show i<R.length by rw[c.lr];exact hi]
  rw[e,jS,c.rl i hi];refine⟨by have:=ol i hi;omega,λk hk=>?_⟩
  have:((R.getD i []).map zi).getD k []=zi ((R.getD i []).getD k []):=by
   have:=c.rl i hi;simp [List.getD,show k<(R[i]?.getD []).length by simp [List.getD] at this hk;omega]
  rw[this,aU,(hG _ (c.rep i hi k hk).mem).len];omega
theorem SmallRR.out (s:SmallRR R):SmallR R:=⟨s.1,λi hi=>(s.2 i hi).1⟩
theorem SmallR.inn (s:SmallR R)(f: ∀i,i<R.length-> ∀x∈R.getD i [],x.length=n)(hn:n<=64):SmallRR R:=⟨s.1,λi hi=>⟨s.2 i hi,λk hk=>by rw[f i hi _ (getD_mem hk)];omega⟩⟩
theorem take_flat {α:Type}{R:List (List α)}(hi:i<R.length):(R.take (i+1)).flatten=(R.take i).flatten++R.getD i []:=by
 rw[←List.take_append_getElem hi,List.flatten_append];simp [List.getD,hi]
structure CkJ (h hh:H)(B id b:Nat)(r:eH)(n:Nat)(vO vR:V)(O:List (List Int))(R:List (List (List Int)))(i:Nat)(acc:List (List Int)):Prop where
 gB:hh.get B=some (.cells false [aC n,vO,vR])
 gR:hh.get (B+1)=some (.cells false [aC 0])
 gN:hh.get (B+1+1)=some (.cells false [aC n])
 gA: ∃va ws,hh.get (B+1+1+1)=some (.cells false [va])/\Own hh va 1 ws (id+1)/\All2 (SI h) ws acc
 gr:hh.get id=some (.loop r)
 gb:hh.get b=some (.cells false [aC n,vO,vR])
 nx:id<hh.next
 fr:Fr h hh
 rows: ∀j,j<i->RowOk n O R j
structure CkD (h hh:H)(B id:Nat)(r:eH)(n:Nat)(O:List (List Int))(R:List (List (List Int))):Prop where
 gR:hh.get (B+1)=some (.cells false [aC 3])
 gr:hh.get id=some (.loop (sF r .ret))
 nx:id<hh.next
 fr:Fr h hh
 bad: ¬Frm n O R
theorem CkJ.mono {h hh h2:H}{B id b:Nat}{r:eH}{vO vR:V}{acc:List (List Int)}(J:CkJ h hh B id b r n vO vR O R i acc)(hid:B+1+1+1<id)(hb:b<id)(f:Fr hh h2):CkJ h h2 B id b r n vO vR O R i acc:=by
 obtain⟨va,ws,g,o,a⟩:=J.gA;have:=J.nx;exact⟨by rw[f.get _ (by omega)];exact J.gB,by rw[f.get _ (by omega)];exact J.gR,by rw[f.get _ (by omega)];exact J.gN,⟨va,ws,by rw[f.get _ (by omega)];exact g,o.fr f,a⟩,by rw[f.get _ (by omega)];exact J.gr,by rw[f.get _ (by omega)];exact J.gb,gE J.nx f.next,J.fr.trans f,J.rows⟩
theorem CkJ.loop {h hh h2:H}{B id b:Nat}{r r2:eH}{vO vR:V}{acc:List (List Int)}(J:CkJ h hh B id b r n vO vR O R i acc)(hid:B+1+1+1<id)(hb:b<id)(hh0:h.next<=B)(g:h2.get id=some (.loop r2))(n2:h2.next=hh.next)(o: ∀k,k≠id->h2.get k=hh.get k):CkJ h h2 B id b r2 n vO vR O R i acc:=by
 obtain⟨va,ws,g1,ow,a⟩:=J.gA;refine⟨by rw[o _ (by omega)];exact J.gB,by rw[o _ (by omega)];exact J.gR,by rw[o _ (by omega)];exact J.gN,⟨va,ws,by rw[o _ (by omega)];exact g1,ow.mono (by omega) λk _ _ _ _ h1 _=>o k (by omega),a⟩,g,by rw[o _ (by omega)];exact J.gb,by rw[n2];exact J.nx,⟨by rw[n2];exact J.fr.next,λk hk=>by rw[o k (by omega)];exact J.fr.get k hk⟩,J.rows⟩
theorem check_ok (vc:V)(d:Int)(O:List (List Int))(R:List (List (List Int)))(h:H)(hc:ChI h vc d O R)(hd:d<=7∨64<d)(so:SmallO O)(sr:SmallR R):
  Ev T 97 [vc] h (λv h'=>v= aC (chkE d O R)/\Fr h h'):=by
 obtain⟨vO,vR,rfl,sO,sR⟩:=hc
 refine bP c_chain_Check rfl rfl ?_
 obtain⟨wO,tO,aO⟩:=sO
 obtain⟨wR,tR,aR,kR⟩:=sR
 have lO:=aO.length
 have lR:=aR.length
 have lvO:dB vO=some (aC (O.length:Int)):=by unfold dB;rw[tO.len (n:=O.length) (by omega) (by omega)];rfl
 have lvR:dB vR=some (aC (R.length:Int)):=by unfold dB;rw[tR.len (n:=R.length) (by omega) (by omega)];rfl
 have oneO:=tO.cW.2.1
 have oneR:=tR.cW.2.1
 obtain⟨B,hB⟩:=AS h.next
 obtain⟨h1,e1,n1,g1,o1,f1⟩:=fC hB [aC d,vO,vR]
 obtain⟨h2,e2,n2,g2,o2,f2⟩:=fC n1 [aC 0]
 obtain⟨h3,e3,n3,g3,o3,f3⟩:=fC n2 [aC 0]
 obtain⟨h4,e4,n4,g4,o4⟩:=uB h3 (B+1+1) [aC d]
 have gB2:h2.get B=some (.cells false [aC d,vO,vR]):=by rw[o2 _ (by omega)];exact g1
 have gB4:h4.get B=some (.cells false [aC d,vO,vR]):=by rw[o4 _ (by omega),o3 _ (by omega)];exact gB2
 have gR4:h4.get (B+1)=some (.cells false [aC 0]):=by rw[o4 _ (by omega),o3 _ (by omega)];exact g2
 have F4:Fr h h4:=by
  refine⟨by omega,λid hid=>?_⟩;rw[o4 _ (by omega),o3 _ (by omega),o2 _ (by omega),o1 _ (by omega)]
 have pt: ∀(hh:H) (id:Nat) (x y:Int),dV (some (.cells false [aC x])) hh id 0 [aC y]=some (hh.set id (some (.cells false [aC y]))):=λhh id x y=>bE (by simp) hh _ _
 have bx:=dQ h (v:= aC d) (u:=vO) (w:=vR) rfl oneO oneR
 have gR4':=H.aF gR4
 have ret: ∀z:Int,(h4.set (B+1) (some (.cells false [aC z]))).cell (B+1) 0=some (aC z)/\Fr h (h4.set (B+1) (some (.cells false [aC z]))):=λz=>⟨by rw[H.qG];rfl,F4.set (by omega) _⟩
 by_cases hd1:d<1
 ·have d1:decide (d<1)=true:=decide_eq_true hd1
  simp(disch:=omega)only[go_sem,c_chain_Check,aE,bx,hB,e1,n1,e2,n2,e3,H.aF gB2,g3,pt,e4,H.aF g4,d1,gR4]
  exact⟨by unfold chkE;rw[if_pos (.inl hd1)],(ret 2).2⟩
 have d1:decide (d<1)=false:=decide_eq_false hd1
 by_cases hd2:64<d
 ·have d2:decide (64<d)=true:=decide_eq_true hd2
  simp(disch:=omega)only[go_sem,c_chain_Check,aE,bx,hB,e1,n1,e2,n2,e3,H.aF gB2,g3,pt,e4,H.aF g4,d1,d2,gR4]
  exact⟨by unfold chkE;rw[if_pos (.inr hd2)],(ret 2).2⟩
 have d2:decide (64<d)=false:=decide_eq_false hd2
 obtain⟨n,rfl⟩: ∃n:Nat,d=(n:Int):=⟨d.toNat,by omega⟩
 have hn1:1<=n:=by omega
 have hn7:n<=7:=by omega
 by_cases hl1:(O.length:Int)≠(n:Int)
 ·have dl:decide ((O.length:Int)≠(n:Int))=true:=decide_eq_true hl1
  simp(disch:=omega)only[go_sem,c_chain_Check,aE,bx,hB,e1,n1,e2,n2,e3,H.aF gB2,g3,pt,e4,H.aF g4,d1,d2,gR4,H.aF gB4,lvO,dl]
  exact⟨by rw[chk_form hn1 (by omega) (λf=>hl1 (by have:=f.lo;omega))],(ret 3).2⟩
 have dl:decide ((O.length:Int)≠(n:Int))=false:=decide_eq_false hl1
 by_cases hl2:(R.length:Int)≠(n:Int)
 ·have dl2:decide ((R.length:Int)≠(n:Int))=true:=decide_eq_true hl2
  simp(disch:=omega)only[go_sem,c_chain_Check,aE,bx,hB,e1,n1,e2,n2,e3,H.aF gB2,g3,pt,e4,H.aF g4,d1,d2,gR4,H.aF gB4,lvO,dl,lvR,dl2]
  exact⟨by rw[chk_form hn1 (by omega) (λf=>hl2 (by have:=f.lr;omega))],(ret 3).2⟩
 have dl2:decide ((R.length:Int)≠(n:Int))=false:=decide_eq_false hl2
 have n4':h4.next=B+1+1+1:=by rw[n4];exact n3
 obtain⟨h5,e5,n5,g5,o5,f5⟩:=fC n4' [.aB]
 have gB5:h5.get B=some (.cells false [aC n,vO,vR]):=by rw[o5 _ (by omega)];exact gB4
 have rB:=bU gB5
 simp(disch:=omega)only[go_sem,c_chain_Check,aE,bx,hB,e1,n1,e2,n2,e3,H.aF gB2,g3,pt,e4,H.aF g4,d1,d2,gR4,H.aF gB4,lvO,dl,lvR,dl2,n4',e5,rB]
 refine (reps_ok (n:Int) vO vR oneO oneR h5).mono ?_
 rintro _ h6 ⟨rfl,g6,n6,f6⟩
 simp(disch:=omega)only[go_sem]
 have F6:Fr h h6:=(F4.trans f5).trans f6
 have gB6:h6.get B=some (.cells false [aC n,vO,vR]):=by rw[f6.get _ (by omega)];exact gB5
 have gR6:h6.get (B+1)=some (.cells false [aC 0]):=by rw[f6.get _ (by omega),f5.get _ (by omega)];exact gR4
 have gN6:h6.get (B+1+1)=some (.cells false [aC n]):=by rw[f6.get _ (by omega),f5.get _ (by omega)];exact g4
 have gA6:h6.get (B+1+1+1)=some (.cells false [.aB]):=by rw[f6.get _ (by omega)];exact g5
 refine⟨rfl,pY λr hr=>?_⟩
 obtain⟨id,hid⟩:=AS h6.next
 obtain⟨b,hb⟩:=AS h5.next
 rw[hb] at g6 n6
 rw[hid,hb]
 have fG:r.st= .ready:=by rw[hr]
 have hpd:r.pend=none:=by rw[hr]
 have hRn:R.length=n:=by omega
 have hOn:O.length=n:=by omega
 have f7:Fr h6 (h6.new (.loop r)):=(Fr.refl h6).new _
 have o7: ∀k,k<id->(h6.new (.loop r)).get k=h6.get k:=λk hk=>H.bG h6 (by omega) _
 have J0:CkJ h (h6.new (.loop r)) B id b r n vO vR O R 0 []:=
  ⟨by rw[o7 _ (by omega)];exact gB6,by rw[o7 _ (by omega)];exact gR6,by rw[o7 _ (by omega)];exact gN6,⟨.aB, [],by rw[o7 _ (by omega)];exact gA6,Own.aB _ _ _,trivial⟩,by rw[←hid,H.aM],by rw[o7 _ (by omega)];exact g6,by rw[H.aV];omega,F6.trans f7,λj hj=>by omega⟩
 refine (reps1_ok id b (n:Int) vO vR wR _ (by rw[lR];exact sr.1) (λi hh=>CkJ h hh B id b r n vO vR O R i (R.take i).flatten) (λhh=>CkD h hh B id r n O R) J0 (λi hh J=>⟨J.gb,tR.mono J.fr⟩) ?_).mono ?_
 ·rintro i hh hi J
  have hi':i<n:=by omega
  refine mV J.gr (by rw[hr];rfl) fG λh7 g7 n7 o7=>?_
  rw[congrArg eH.assign hr,congrArg eH.vars hr,congrArg eH.pars hr]
  simp(disch:=omega)only[go_sem,List.zip_cons_cons,List.zip_nil_left]
  rw[congrArg eH.body hr]
  have J7:CkJ h h7 B id b (lZ r) n vO vR O R i (R.take i).flatten:=J.loop (by omega) (by omega) (by omega) g7 n7 o7
  have rowO:=getD_row aO (i:=i) (by omega) .undef []
  have rowR:=getD_row aR (i:=i) (by omega) .undef []
  obtain⟨wr,tr,ar⟩:=rowR
  have lr:=ar.length
  have lvr:dB (wR.getD i .undef)=some (aC ((R.getD i []).length:Int)):=by unfold dB;rw[tr.len (n:=(R.getD i []).length) (by omega) (by omega)];rfl
  have lvo:=rowO.lens
  obtain⟨ido,offo,sho,hido,hco⟩:=(tO.mono J7.fr).shape O.length (by omega) (by omega)
  have co:h7.cell ido (offo+i)=some (wO.getD i .undef):=by rw[hco i (by omega),List.getD,eQ (by omega)];rfl
  have cB:=H.aF J7.gB
  have cN:=H.aF J7.gN
  have quit: ∀hh acc,CkJ h hh B id b (lZ r) n vO vR O R i acc-> ¬Frm n O R->CkD h ((hh.set (B+1) (some (.cells false [aC 3]))).set id (some (.loop (sF r .ret)))) B id r n O R:=λhh acc J hb=>by
   have:=J.nx;refine⟨by rw[H.aH _ (by omega),H.aT],by rw[H.aT],J.nx,(J.fr.set (by omega) _).set (by omega) _,hb⟩
  have yq: ∀hh vars acc,CkJ h hh B id b (lZ r) n vO vR O R i acc-> ¬Frm n O R->vJ id (λv h'=>v= .bool true/\CkJ h h' B id b r n vO vR O R (i+1) (R.take (i+1)).flatten∨v= .bool false/\CkD h h' B id r n O R) .ret vars (hh.set (B+1) (some (.cells false [aC 3]))):=λhh vars acc J hb=>
   xV (by rw[H.aH _ (by omega)];exact J.gr) (.inr ⟨rfl,quit hh acc J hb⟩)
  by_cases hx1:((R.getD i []).length:Int)≠((O.getD i []).length:Int)
  ·have d1:decide (((R.getD i []).length:Int)≠((O.getD i []).length:Int))=true:=decide_eq_true hx1
   simp(disch:=omega)only[go_sem,lvr,cB,sho.ixa,co,lvo,d1,J7.gR,pt]
   exact yq _ _ _ J7 λf=>hx1 (by have:=(f.row i hi').1;omega)
  have d1:decide (((R.getD i []).length:Int)≠((O.getD i []).length:Int))=false:=decide_eq_false hx1
  by_cases hx2:(n:Int)-(i:Int)<((R.getD i []).length:Int)
  ·have d2:decide ((n:Int)-(i:Int)<((R.getD i []).length:Int))=true:=decide_eq_true hx2
   simp(disch:=omega)only[go_sem,lvr,cB,cN,sho.ixa,co,lvo,d1,d2,J7.gR,pt]
   exact yq _ _ _ J7 λf=>by have:=(f.row i hi').2;omega
  have d2:decide ((n:Int)-(i:Int)<((R.getD i []).length:Int))=false:=decide_eq_false hx2
  simp(disch:=omega)only[go_sem,lvr,cB,cN,sho.ixa,co,lvo,d1,d2]
  refine aJ (λk' vars hh=> ∃(k:Nat),(∃g:Nat->V,vars= [g 0,.ptr B 0,.ptr (B+1) 0,.ptr (B+1+1) 0,.ptr (B+1+1+1) 0,g 5,g 6,g 7,g 8,g 9,g 10,g 11,g 12,g 13,wR.getD i .undef,aC ((R.getD i []).length:Int),aC k,g 17,g 18,g 19])/\k<=(R.getD i []).length/\CkJ h hh B id b (lZ r) n vO vR O R i ((R.take i).flatten++(R.getD i []).take k)/\
    (∀x∈(R.getD i []).take k,x.length=n/\pckOk x=true)/\k'=(R.getD i []).length-k) (R.getD i []).length
   ⟨0,aA rfl,gK _,by rw[List.take_zero,List.append_nil];exact J7,λx hx=>by simp at hx,rfl⟩ ?_
  clear co cB cN hido hco J7 d1 d2 sho g7 n7 o7 h7
  rintro k' vars h8 ⟨k,⟨g,rfl⟩,hk,J8,hok,rfl⟩
  by_cases hlt:(k:Int)<((R.getD i []).length:Int)
  case neg=>
   have e1:decide ((k:Int)<((R.getD i []).length:Int))=false:=decide_eq_false hlt;obtain rfl:k=(R.getD i []).length:=by omega
   rw[List.take_length] at J8 hok;rw[←take_flat (by omega)] at J8;simp(disch:=omega)only[go_sem,e1];refine mU fG hpd J8.gr (.inl ⟨rfl,?_⟩);have J9:=J8.loop (h2:=h8.set id (some (.loop r))) (by omega) (by omega) (by omega) (by rw[H.aT]) rfl (λk hk=>H.aH _ hk _)
   have hrows: ∀j,j<i+1->RowOk n O R j:=λj hj=>by
    by_cases e:j=i
    ·subst e;exact⟨⟨by omega,by omega⟩,hok⟩
    ·exact J9.rows j (by omega)
   exact⟨J9.gB,J9.gR,J9.gN,J9.gA,J9.gr,J9.gb,J9.nx,J9.fr,hrows⟩
  have e1:decide ((k:Int)<((R.getD i []).length:Int))=true:=decide_eq_true hlt
  have hk':k<(R.getD i []).length:=by omega
  obtain⟨x,hx⟩:=AS ((R.getD i []).getD k [])
  have sx:=getD_row ar hk' .undef []
  rw[hx] at sx
  have hxm:x∈R.getD i []:=by rw[←hx];exact getD_mem hk'
  obtain⟨idr,offr,shr,hidr,hcr⟩:=(tr.mono J8.fr).shape (R.getD i []).length (by omega) (by omega)
  have ck:h8.cell idr (offr+k)=some (wr.getD k .undef):=by rw[hcr k (by omega),List.getD,eQ (by omega)];rfl
  have cN:=H.aF J8.gN
  generalize wr.getD k .undef=vx at sx ck
  have lvx:=sx.lens
  by_cases hx1:(x.length:Int)≠(n:Int)
  ·have d1:decide ((x.length:Int)≠(n:Int))=true:=decide_eq_true hx1
   simp(disch:=omega)only[go_sem,e1,shr.ixa,ck,lvx,cN,d1,J8.gR,pt]
   exact yq _ _ _ J8 λf=>hx1 (by have:=(f.perm i hi' x hxm).1;omega)
  have d1:decide ((x.length:Int)≠(n:Int))=false:=decide_eq_false hx1
  simp(disch:=omega)only[go_sem,e1,shr.ixa,ck,lvx,cN,d1]
  refine (perm_Check_ok vx x h8 (by omega) (sx.mono J8.fr)).mono ?_
  rintro _ h9 ⟨rfl,f9⟩
  have J9:=J8.mono (by omega) (by omega) f9
  cases hpk:pckOk x with
  |false=>
   have e3:decide (pck x≠0)=true:=decide_eq_true (by unfold pck;rw[if_neg (by omega),hpk];simp);simp(disch:=omega)only[go_sem,e3,J9.gR,pt];exact yq _ _ _ J9 λf=>by have:=(f.perm i hi' x hxm).2;rw[hpk] at this;cases this
  |true=>
   have e3:decide (pck x≠0)=false:=decide_eq_false (by unfold pck;rw[if_neg (by omega),hpk];simp);obtain⟨va,ws,gA,ow,al⟩:=J9.gA
   have one:vx.cells= [vx]/\vx.one=true:=⟨sx.cW.1,sx.cW.2.1⟩
   have nx9:=J9.nx;obtain⟨h10,e10,n10,g10,o10,f10⟩:=fC (h:=h9) rfl [vx];have cA:=H.aF gA;have cA10:h10.cell (B+1+1+1) 0=some va:=by rw[H.aF (by rw[f10.get _ (by omega)];exact gA)];rfl
   have hws:=al.length
   have accl:((R.take i).flatten++(R.getD i []).take k).length<=400:=by
    have h1:=flat_len (m:=7) (R:=R) (i:=i) (by omega) (λj hj=>by have:=(J9.rows j hj).1.2;omega);have h2:i*7<=7*7:=Nat.mul_le_mul_right 7 (by omega);rw[jD,xL];omega
   obtain⟨h11,a11,p11⟩:=(ow.fr f10).push (bytes:=24) (SV.one (by omega) g10 (.kn 1)) (n:=ws.length) (m:=1) (by omega) rfl (by omega) (by omega) (by omega);have ap: ∀k,k<=id->dA va k:=λk hk id' off m c e e2=>by have:=(ow.in _ _ _ _ e).2.1;omega
   have gA11:h11.get (B+1+1+1)=some (.cells false [va]):=by rw[p11.old _ (by omega) (ap _ (by omega)),f10.get _ (by omega)];exact gA
   have n11:=p11.next;have ptA: ∀(hh:H) (y:V),dV (some (.cells false [va])) hh (B+1+1+1) 0 [y]=some (hh.set (B+1+1+1) (some (.cells false [y]))):=λhh y=>bE (by simp) hh _ _
   simp(disch:=omega)only[go_sem,e3,cA,dC h9 (z:= .aB) one.1 one.2,e10,a11,gA11,ptA];rw[iO k]
   have old: ∀k,k<=id->k≠B+1+1+1->(h11.set (B+1+1+1) (some (.cells false [.sl h10.next 0 (ws.length+1) (.un 1)]))).get k=h9.get k:=λk h1 h2=>by
    rw[H.aH _ h2,p11.old _ (by omega) (ap _ h1),f10.get _ (by omega)]
   have tk:(R.take i).flatten++(R.getD i []).take (k+1)=((R.take i).flatten++(R.getD i []).take k)++ [x]:=by
    rw[List.append_assoc,take_getD [] hk',hx]
   refine⟨(R.getD i []).length-(k+1),by omega,k+1,aA rfl,by omega,⟨by rw[old _ (by omega) (by omega)];exact J9.gB,by rw[old _ (by omega) (by omega)];exact J9.gR,by rw[old _ (by omega) (by omega)];exact J9.gN,⟨_,ws++ [vx],by rw[H.aT],?_,?_⟩,by rw[old _ (by omega) (by omega)];exact J9.gr,by rw[old _ (by omega) (by omega)];exact J9.gb,by simp only[H.cJ];omega,?_,J9.rows⟩,λy hy=>?_,rfl⟩
   ·refine (p11.own (b:=id+1) (by omega) rfl (by omega)).mono (eP _) λk off m c e h1 h2=>H.aH _ (by omega) _
   ·rw[tk];exact al.append ⟨sx,trivial⟩
   ·refine⟨by simp only[H.cJ];have:=J9.fr.next;omega,λk hk=>?_⟩
    rw[old k (by omega) (by omega)];exact J9.fr.get k hk
   ·rw[take_getD [] hk',hx] at hy
    rcases xH.1 hy with hy|hy
    ·exact hok y hy
    ·rw[List.mem_singleton.1 hy]
     exact⟨by omega,hpk⟩
 ·rintro _ hh (J|D)
  ·refine⟨r,J.gr,by rw[fG];simp,?_⟩
   have en:r.pend.getD .norm= .norm:=by rw[hpd];rfl
   rw[en]
   rw[lR,List.take_length] at J
   have J:=J.loop (r2:={r with st:= .out}) (h2:=hh.set id (some (.loop {r with st:= .out}))) (by omega) (by omega) (by omega) (by rw[H.aT]) rfl (λk hk=>H.aH _ hk _)
   generalize hh.set id (some (.loop {r with st:= .out}))=h7 at J
   clear J0 f7 o7 hpd fG hr
   have frm:Frm n O R:=Frm.of hOn hRn λj hj=>J.rows j (by omega)
   obtain⟨R',eR,hP⟩:=frm.nat
   obtain⟨va,ws,gA,ow,al⟩:=J.gA
   have eF:R.flatten=R'.flatten.map zi:=by rw[eR,List.map_flatten]
   rw[eF] at al
   have nx:=J.nx
   have rB:=bU J.gB
   have cN:=H.aF J.gN
   have cA:=H.aF gA
   have fb:Fr h7 (H.mk h7.tr (h7.next+7)):=(Fr.refl h7).bJ (by omega)
   have spv:SP (H.mk h7.tr (h7.next+7)) va R'.flatten:=⟨ws,(ow.fr fb).sv,al.mono λ_ _ x=>x.mono (J.fr.trans fb)⟩
   have hl0:R'.flatten.length<1000000:=by
    have h1:=flat_len (m:=7) (R:=R) (i:=n) (by omega) (λj hj=>by have:=(J.rows j (by omega)).1.2;omega);have h2:n*7<=7*7:=Nat.mul_le_mul_right 7 (by omega);rw[List.take_of_length_le (by omega),eF,jS] at h1;omega
   simp(disch:=omega)only[go_sem,bU (h:=H.mk h7.tr (h7.next+7)) J.gB,cN,cA]
   refine (build_ok n va R'.flatten _ hn1 hn7 hl0 spv hP).mono ?_
   rintro _ h8 ⟨tid,L,F,τ,rfl,RR,tl,f8,_⟩
   have F8:Fr h7 h8:=fb.trans f8
   have J8:=J.mono (by omega) (by omega) F8
   have eO:=tO.dI
   have eR2:=tR.dI
   simp(disch:=omega)only[go_sem,bU J8.gB,eO,eR2]
   refine (tchain_ok h8 n tid L F τ hn7 RR tl.tw).mono ?_
   rintro vch h9 ⟨O2,R2,cch,isc,f9⟩
   have J9:=J8.mono (by omega) (by omega) f9
   have isc2:dK n (Ea n R') O2 R2:=isc.congr tl.group
   obtain⟨so2,sr2⟩:=chain_small (λx hx=>dF.isP hP hx) (by omega) isc2
   simp(disch:=omega)only[go_sem,bU J9.gB,eO,eR2]
   refine (csame_ok _ vch (n:Int) (n:Int) O (O2.map zi) R (R2.map (List.map zi)) h9 ⟨vO,vR,rfl,⟨wO,tO.mono J9.fr,aO.mono λ_ _ x=>x.mono J9.fr⟩,⟨wR,tR.mono J9.fr,aR.mono (λ_ _ x=>x.mono J9.fr),kR⟩⟩ cch.ch so so2 (sr.inn (λj hj x hx=>(frm.perm j (by omega) x hx).1) (by omega)) sr2).mono ?_
   rintro _ h10 ⟨rfl,f10⟩
   have J10:=J9.mono (by omega) (by omega) f10
   have iff:=ChkP.iff (O:=O) hn1 (by omega) hP isc2
   rw[←eR] at iff
   by_cases hq:(n:Int)=(n:Int)/\O=O2.map zi/\R=R2.map (List.map zi)
   ·have ed:=mF hq
    rw[ed]
    simp(disch:=omega)only[go_sem,J10.gR,pt]
    refine⟨?_,J10.fr.set (by omega) _⟩
    unfold chkE
    rw[if_neg (by omega),if_pos (iff.2 hq.2)]
   ·have ed:=iG hq
    rw[ed]
    simp(disch:=omega)only[go_sem,J10.gR,pt]
    refine⟨?_,J10.fr.set (by omega) _⟩
    unfold chkE
    rw[if_neg (by omega),if_neg (λc=>hq ⟨rfl,iff.1 c⟩)]
  ·refine⟨_,D.gr,by simp [sF],?_⟩
   have en:(sF r .ret).pend.getD .norm= .ret:=rfl
   rw[en]
   have nx:=D.nx
   have gR:(hh.set id (some (.loop {sF r .ret with st:= .out}))).cell (B+1) 0=some (aC 3):=by rw[H.tW _ (by omega),H.aF D.gR];rfl
   simp(disch:=omega)only[go_sem,gR]
   exact⟨by rw[chk_form hn1 (by omega) D.bad],D.fr.set (by have:=D.fr.next;omega) _⟩
end
set_option maxRecDepth 100000
theorem gd_map {α β:Type}(f:α->β){l:List α}{i:Nat}{d:α}{e:β}(h:i<l.length):(l.map f).getD i e=f (l.getD i d):=by
 simp [List.getD,h]
theorem Frsh.mono {h h' h2:H}{v:V}{l:List Int}(f:Frsh h h' v l)(g:Fr h' h2):Frsh h h2 v l:=by
 obtain⟨id,cap,e,h1,h3,h4,h5⟩:=f.ex;exact⟨⟨id,cap,e,h1,gE h3 g.next,by rw[g.get _ h3];exact h4,h5⟩,f.fr.trans g⟩
theorem newp_frsh {h h':H}{v:V}{l:List Nat}(n:Gl h h' v l):Frsh h h' v (zi l):=by
 obtain⟨e,g,nx,f⟩:=n;exact⟨⟨h.next,_,by rw[e,aU],eP _,by omega,g,.inr (by rw[aU])⟩,f⟩
theorem Frsh.le {h0 h h':H}{v:V}{l:List Int}(f:Frsh h h' v l)(g:Fr h0 h):Frsh h0 h' v l:=by
 obtain⟨id,cap,e,h1,h3,h4,h5⟩:=f.ex;exact⟨⟨id,cap,e,Nat.le_trans g.next h1,h3,h4,h5⟩,g.trans f.fr⟩
section
variable {W:Nat->Prop} {h:H} {vc:V} {n:Nat} {O:LN} {G:List Nat->Prop}
structure GC (W:Nat->Prop)(h:H)(vc:V)(n:Nat)(O:LN)(R:lU)(G:List Nat->Prop):Prop where
 cw:ChW W h vc n O R
 isc:dK n G O R
 grp:iL n G
 n0:1<=n
 n7:n<=7
theorem GC.go {W':Nat->Prop}{h':H}{R:lU}(g:GC W h vc n O R G)(f:Fx W h h')(hw: ∀id,id<h.next->W' id->W id):GC W' h' vc n O R G:=⟨g.cw.go f hw,g.isc,g.grp,g.n0,g.n7⟩
theorem GC.ch {R:lU}(g:GC W h vc n O R G):ChI h vc (n:Int) (O.map zi) (R.map (List.map zi)):=g.cw.ch
theorem GC.mono {h':H}{R:lU}(g:GC W h vc n O R G)(f:Fr h h'):GC W h' vc n O R G:=⟨g.cw.mono f,g.isc,g.grp,g.n0,g.n7⟩
theorem chain_gen {n:Nat}{G:List Nat->Prop}(hG:iL n G){O:LN}{R:lU}(c:dK n G O R): ∀d i x,i+d=n->G x->Fix i x->Ea n R x
 |0,i,x,h,hx,fx=>by
  have X:=hG.isP hx;obtain rfl:i=n:=by omega
  rw[fx.all X];exact .one
 |d+1,i,x,h,hx,fx=>by
  have hi:i<n:=by omega
  have X:=hG.isP hx;have hm:=(c.mem i hi (x.getD i 0)).2 ⟨x,hx,fx,rfl⟩;obtain⟨k,hk,e⟩:=uH.1 hm;have rep:=c.rep i hi k hk;rw[cG hk,e] at rep;obtain⟨z,hz⟩:=AS ((R.getD i []).getD k []);rw[hz] at rep;have Z:=hG.isP rep.mem
  have hzm:z∈R.flatten:=by
   have h1:k<(R.getD i []).length:=by rw[c.rl i hi];exact hk
   exact List.mem_flatten.2 ⟨R.getD i [],getD_mem (by rw[c.lr];exact hi),by rw[←hz];exact getD_mem h1⟩
  have ih:=chain_gen hG c d (i+1) (aQ x (bX z)) (by omega) (hG.mul hx (hG.inv rep.mem)) ((Fix.mul X (by omega) fx (Fix.inv Z (by omega) rep.fix)).succ (by
   rw[cH (by rw[X.len];exact hi)];have:=lE Z hi
   rwa [rep.maps] at this))
  have:=dF.mul ih hzm;rwa [aI X Z.inv Z,cZ Z,bB X] at this
theorem chain_mem {R:lU}(c:dK n G O R): ∀g∈R.flatten,G g:=λg hg=>by
 obtain⟨r,hr,hg⟩:=List.mem_flatten.1 hg;obtain⟨i,hi,rfl⟩:=uH.1 hr;obtain⟨k,hk,rfl⟩:=uH.1 hg;have hi':i<n:=by have:=c.lr;omega
 have e:R.getD i []=R[i]:=by rw[List.getD,eQ hi];rfl
 have hk':k<(O.getD i []).length:=by rw[←c.rl i hi',e];exact hk
 have:=(c.rep i hi' k hk').mem;rw[e,List.getD,eQ hk] at this;exact this
theorem chain_iff (hG:iL n G){R:lU}(c:dK n G O R)(x:List Nat):Ea n R x↔G x:=
 ⟨λh=>h.le hG (chain_mem c),λh=>chain_gen hG c n 0 x (by omega) h (λk hk=>by omega)⟩
theorem GC.chk {R:lU}(g:GC W h vc n O R G):chkE (n:Int) (O.map zi) (R.map (List.map zi))=0:=by
 unfold chkE;have:=g.n0;have:=g.n7;rw[if_neg (by omega),if_pos ⟨n,O,R,rfl,g.n0,by omega,rfl,rfl,λx hx=>g.grp.isP (chain_mem g.isc x hx),g.isc.congr λx=>(chain_iff g.grp g.isc x).symm⟩]
theorem GC.small {R:lU}(g:GC W h vc n O R G):SmallO (O.map zi)/\SmallRR (R.map (List.map zi)):=chain_small (λx hx=>g.grp.isP hx) (by have:=g.n7;omega) g.isc
theorem GC.check {R:lU}(g:GC W h vc n O R G):Ev T 97 [vc] h (λv h'=>v= aC 0/\Fr h h'):=by
 have:=check_ok vc _ _ _ h g.ch (.inl (by have:=g.n7;omega)) g.small.1 g.small.2.out;rwa [g.chk] at this
theorem pck_zi {x:List Nat}(X:aX n x)(h1:1<=n)(h2:n<=64):pck (zi x)=0:=by
 unfold pck;rw[if_neg (by rw[aU,X.len];omega),pckOk_zi X];rfl
end
set_option maxRecDepth 100000
section
variable {b A:Nat} {hh:H} {l:LN}
theorem sv_tail {h:H}{v:V}{ws:List V}(s:SV h v 1 ws)(cOk:CapOk v)(h1:1<=ws.length): ∃v',nJ 1 v (some (aC 1)) none none=some v'/\SV h v' 1 (ws.drop 1):=by
 rcases s with ⟨_,e⟩|⟨id,off,len,cap,ro,vs,rfl,l1,l2,l3,l4,l5⟩
 ·rw[e] at h1;simp at h1
 have hb:jF none len len=some len:=by simp [jF]
 have tl:((vs.drop off).take (len*1)).drop 1=(vs.drop (off+1)).take (len- 1):=by
  rw[List.drop_take,List.drop_drop,Nat.mul_one]
 rcases cOk _ _ _ _ rfl with rfl|⟨c,rfl,hc⟩
 ·by_cases h2:1<len
  ·refine⟨.sl id (off+1) (len- 1) (.un 1),?_,.inr ⟨id,off+1,len- 1,_,ro,vs,rfl,by rw[List.length_drop,l1];omega,l2,l3,by omega,by rw[←l5,tl,Nat.mul_one]⟩⟩
   simp [nJ,jF,h2,show (1:Int)<=(len:Int) by omega]
  ·refine⟨.sl id off 0 (.un 1),?_,.inr ⟨id,off,0,_,ro,vs,rfl,by rw[List.length_drop,l1];omega,l2,l3,by omega,?_⟩⟩
   ·have:len=1:=by omega
    subst this;simp [nJ,jF]
   ·have:ws.drop 1= []:=List.eq_nil_of_length_eq_zero (by rw[List.length_drop];omega)
    rw[this];simp
 ·refine⟨.sl id (if c=1 then off else off+1) (len- 1) (.kn (c- 1)),?_,.inr ⟨id,_,len- 1,_,ro,vs,rfl,by rw[List.length_drop,l1];omega,l2,l3,by split<;>omega,?_⟩⟩
  ·have:1<=len:=by omega
   simp [nJ,jF,show (1:Int)<=(len:Int) by omega,show 1<=c by omega]
  ·by_cases e:c=1
   ·have:ws.drop 1= []:=List.eq_nil_of_length_eq_zero (by rw[List.length_drop];omega)
    rw[this];have:len- 1=0:=by omega
    rw[this];simp
   ·rw[if_neg e,←l5,tl,Nat.mul_one]
def AccB (b:Nat)(hh:H)(A:Nat)(l:LN):Prop:= ∃va ws W,hh.get A=cE [va]/\Own hh va 1 ws b/\PVs W hh ws l/\BlkIn W va/\(∀id,id<b->W id)/\ ∀id,W id->id<hh.next
theorem AccB.mono {h2:H}(a:AccB b hh A l)(hA:A<hh.next)(f:Fr hh h2):AccB b h2 A l:=by
 obtain⟨va,ws,W,g,o,p,k,l1,l2⟩:=a;exact⟨va,ws,W,by rw[f.get _ hA];exact g,o.fr f,p.fx (Fx.of f),k,l1,λid h=>gE (l2 id h) f.next⟩
theorem AccB.other {h2:H}(a:AccB b hh A l){k:Nat}(hk:k<b)(hkA:k≠A)(n:h2.next=hh.next)(o: ∀j,j≠k->h2.get j=hh.get j):AccB b h2 A l:=by
 obtain⟨va,ws,W,g,ow,p,bl,l1,l2⟩:=a
 have f:Fx W hh h2:=⟨by omega,λid h1 h3=>o id λe=>h3 (e▸l1 k hk)⟩
 exact⟨va,ws,W,by rw[o _ (Ne.symm hkA)];exact g,ow.mono (by omega) λid _ _ _ _ h1 _=>o id (by omega),PVs.go p f (λ_ _ h=>h),bl,l1,λid h=>by rw[n];exact l2 id h⟩
theorem AccB.push {h5:H}(a:AccB b hh A l)(hA:A<b){x:List Nat}{vx y:V}(bytes:Nat)(hb:bytes<=24)(hl:l.length<1000000)(f:Fr hh h5)(hbn:b<=hh.next)(px:PV (λid=>id<hh.next) h5 vx x)(sy:SV h5 y 1 [vx]):
  ∃va h6,hh.get A=cE [va]/\qX h5 1 bytes va y=some (.sl h5.next 0 (l.length+1) (.un 1),h6)/\h6.get A=cE [va]/\h6.next=h5.next+1/\(∀k,k<b->h6.get k=h5.get k)/\
   (va.cells= [va]/\va.one=true)/\dI va va=true/\ ∀h7,h6.set A (cE [.sl h5.next 0 (l.length+1) (.un 1)])=h7->AccB b h7 A (l++ [x]):=by
 obtain⟨va,ws,W,g,ow,p,bl,l1,l2⟩:=a
 have hws:=All2.length p
 have nx:=f.next
 obtain⟨h6,a6,p6⟩:=(ow.fr f).push (bytes:=bytes) sy (n:=l.length) (m:=1) (by omega) rfl (by omega) (by omega) ⟨by have:=Nat.mul_le_mul_left (2*(l.length+1)+1000) hb;omega,by omega⟩
 have ap: ∀k,k<b->dA va k:=λk hk id off m c e e2=>by have:=(ow.in _ _ _ _ e).2.1;omega
 have n6:=p6.next
 have g6: ∀k,k<b->h6.get k=h5.get k:=λk hk=>p6.old k (by omega) (ap k hk)
 refine⟨va,h6,g,a6,by rw[g6 A hA,f.get A (by omega)];exact g,n6,g6,⟨ow.sv.cW.1,ow.sv.cW.2.1⟩,ow.sv.dI,λh7 e=>?_⟩
 subst e
 have fx1:Fx W h5 h6:=p6.fx bl
 have fx2:Fx W h6 (h6.set A (cE [.sl h5.next 0 (l.length+1) (.un 1)])):=Fx.set h6 (l1 A hA) _
 have fx3:=fx1.trans fx2 (λ_ _ h=>h)
 have hw: ∀id,id<h5.next->(W id∨id=h5.next)->W id:=λid h1 h2=>by
  rcases h2 with h2|h2
  ·exact h2
  ·omega
 have px':PV W h5 vx x:=px.weak λid _ h=>l2 id h
 refine⟨_,ws++ [vx],λid=>W id∨id=h5.next,by rw[H.aT],?_,(PVs.go (p.fx (Fx.of f)) fx3 hw).append (PVs.one (PV.go px' fx3 hw)),λid off n c e=>by cases e;exact .inr rfl,λid h=> .inl (l1 id h),λid h=>?_⟩
 ·exact (p6.own (b:=b) (by omega) rfl (by omega)).mono (eP _) λid off m c e h1 _=>H.aH h6 (by omega) _
 ·simp only[H.cJ]
  rcases h with h|h
  ·have:=l2 id h;omega
  ·omega
end
def strongL (R:lU):LN:=R.flatMap (List.drop 1)
theorem strong_take {R:lU}{i:Nat}(hi:i<R.length):strongL (R.take (i+1))=strongL (R.take i)++(R.getD i []).drop 1:=by
 unfold strongL;rw[take_getD [] hi,List.flatMap_append];simp
theorem strong_len {n:Nat}{R:lU}: ∀{i:Nat},i<=R.length->(∀j,j<i->(R.getD j []).length<=n)->(strongL (R.take i)).length<=i*n
 |0,_,_=>by simp [strongL]
 |i+1,h,hr=>by
  rw[strong_take (by omega),jD,List.length_drop,Nat.succ_mul];have h1:=strong_len (i:=i) (by omega) (λj hj=>hr j (by omega));have h2:=hr i (by omega);omega
structure NewL (h h':H)(v:V)(l:LN):Prop where
 ex: ∃ws W,Own h' v 1 ws h.next/\PVs W h' ws l/\BlkIn W v/\(∀id,id<h.next->W id)
 fr:Fr h h'
theorem NewL.sp {h h':H}{v:V}{l:LN}(n:NewL h h' v l):SP h' v l:=by
 obtain⟨ws,W,o,p,_⟩:=n.ex;have hl:=All2.length p
 exact⟨ws,o.sv,All2.iS (by simpa using hl) λi hi hj=>by
  have:=(All2.get p i hi (by omega)).si
  simpa using this⟩
theorem NewL.pl {h h':H}{v:V}{l:LN}(n:NewL h h' v l):PL (λid=>id<h.next) h' v l:=by
 obtain⟨ws,W,o,p,_,l1⟩:=n.ex;exact⟨ws,o.sv,off_of o,p.weak (λid _ h=>l1 id h),Own.capOk o⟩
structure StJ (h hh:H)(id b B:Nat)(r:eH)(n:Nat)(vO vR:V)(R:lU)(i:Nat):Prop where
 acc:AccB (id+1) hh (B+1) (strongL (R.take i))
 gr:hh.get id=some (.loop r)
 gb:hh.get b=cE [aC n,vO,vR]
 nx:id<hh.next
 fr:Fr h hh
theorem strong_ok {W:Nat->Prop}(vc:V)(n:Nat)(O:LN)(R:lU)(G:List Nat->Prop)(h:H)(gc:GC W h vc n O R G):
  Ev T 84 [vc] h (λv h'=> ∃vl,v= .tup [vl,aC 0]/\NewL h h' vl (strongL R)):=by
 obtain⟨vO,vR,e,sO,sR⟩:=gc.ch
 subst e
 refine bP c_chain_Strong rfl rfl ?_
 obtain⟨wR,tR,aR,kR⟩:=sR
 have lR:=aR.length
 have isc:=gc.isc
 rw[jS,isc.lr] at lR
 have oneO:vO.one=true:=Xo sO
 have oneR:=tR.cW.2.1
 have n0:=gc.n0
 have n7:=gc.n7
 obtain⟨B,hB⟩:=AS h.next
 obtain⟨h1,e1,n1,g1,o1,f1⟩:=fC hB [aC n,vO,vR]
 have bx:=dQ h (v:= aC n) (u:=vO) (w:=vR) rfl oneO oneR
 have rB:=bU g1
 simp(disch:=omega)only[go_sem,c_chain_Strong,aE,bx,hB,e1,rB]
 refine ((gc.mono f1).check).mono ?_
 rintro _ h2 ⟨rfl,f2⟩
 simp(disch:=omega)only[go_sem]
 refine bD (λhc=>(hc rfl).elim) (λ_=>?_)
 obtain⟨A,hA⟩:=AS h2.next
 have n2:=f2.next
 obtain⟨h3,e3,n3,g3,o3,f3⟩:=fC hA [.aB]
 have gB3:h3.get B=cE [aC n,vO,vR]:=by rw[f3.get _ (by omega),f2.get _ (by omega)];exact g1
 have rB3:=bU gB3
 simp(disch:=omega)only[go_sem,hA,e3,rB3]
 refine (reps_ok (n:Int) vO vR oneO oneR h3).mono ?_
 rintro _ h4 ⟨rfl,g4,n4,f4⟩
 simp(disch:=omega)only[go_sem]
 obtain⟨id,hid⟩:=AS h4.next
 obtain⟨b,hb⟩:=AS h3.next
 rw[hb] at g4 n4
 refine⟨rfl,pY λr hr=>?_⟩
 rw[hid,hb]
 have fG:r.st= .ready:=by rw[hr]
 have hpd:r.pend=none:=by rw[hr]
 have o5: ∀k,k<id->(h4.new (.loop r)).get k=h4.get k:=λk hk=>H.bG h4 (by omega) _
 have f5:Fr h4 (h4.new (.loop r)):=(Fr.refl h4).new _
 have n5:(h4.new (.loop r)).next=id+1:=by rw[H.aV,hid]
 have F4:=((f1.trans f2).trans f3).trans f4
 have rl: ∀j,j<n->(R.getD j []).length<=n:=λj hj=>by
  rw[isc.rl j hj];exact Nat.le_trans (orb_len (λx hx=>gc.grp.isP hx) hj (isc.asc j hj) (isc.mem j hj)) (by omega)
 obtain⟨B',hB'⟩: ∃B',A=B'+1:=⟨A- 1,by omega⟩
 have J0:StJ h (h4.new (.loop r)) id b B' r n vO vR R 0:=by
  refine⟨⟨.aB, [],λk=>k<id+1,?_,Own.aB _ _ _,trivial,λ_ _ _ _ e=>(by cases e),λ_ h=>h,λk hk=>by omega⟩,by rw[←hid,H.aM],by rw[o5 _ (by omega)];exact g4,by omega,F4.trans f5⟩;rw[←hB',o5 _ (by omega),f4.get _ (by omega)];exact g3
 refine (reps1_ok id b (n:Int) vO vR wR _ (by omega) (λi hh=>StJ h hh id b B' r n vO vR R i) (λhh=>False) J0 (λi hh J=>⟨J.gb,tR.mono J.fr⟩) ?_).mono ?_
 ·rintro i hh hi J
  have hi':i<n:=by omega
  refine mV J.gr (by rw[hr];rfl) fG λh9 g9 n9 o9=>?_
  rw[congrArg eH.assign hr,congrArg eH.vars hr,congrArg eH.pars hr]
  simp(disch:=omega)only[go_sem,List.zip_cons_cons,List.zip_nil_left]
  rw[congrArg eH.body hr]
  have nx:=J.nx
  have ri:(R.map (List.map zi)).getD i []=(R.getD i []).map zi:=gd_map (List.map zi) (by rw[isc.lr];exact hi')
  have rowR:=getD_row aR (i:=i) (by rw[jS,isc.lr];exact hi') .undef []
  rw[ri] at rowR
  obtain⟨wr,tr,ar⟩:=rowR
  have lr:=ar.length
  rw[jS] at lr
  have hpos:1<=wr.length:=by
   rw[lr,isc.rl i hi'];have:=(isc.mem i hi' i).2 ⟨aW n,gc.grp.one,Fix.one n i (by omega),dM hi'⟩;exact List.length_pos_of_mem this
  have F9:Fr h h9:=⟨by rw[n9];exact J.fr.next,λk hk=>by rw[o9 k (by omega)];exact J.fr.get k hk⟩
  obtain⟨vt,esl,tt⟩:=sv_tail tr (kR _ (getD_mem (by omega))) hpos
  have lt:dB vt=some (aC (wr.length- 1:Nat)):=by unfold dB;rw[tt.len (n:=wr.length- 1) (by rw[List.length_drop];omega) (by omega)];rfl
  have hw7:wr.length<=7:=by have:=rl i hi';omega
  simp(disch:=omega)only[go_sem,esl,lt]
  have A9:AccB (id+1) h9 (B'+1) (strongL (R.take i)):=J.acc.other (k:=id) (by omega) (by omega) n9 o9
  refine aJ (λk' vars hh=> ∃(k:Nat),(∃g:Nat->V,vars= [g 0,g 1,g 2,g 3,g 4,.ptr A 0,g 6,g 7,g 8,g 9,g 10,g 11,vt,aC (wr.length- 1:Nat),aC k,g 15])/\k<=wr.length- 1/\AccB (id+1) hh (B'+1) (strongL (R.take i)++((R.getD i []).drop 1).take k)/\
    hh.get id=some (.loop (lZ r))/\hh.get b=cE [aC n,vO,vR]/\id<hh.next/\Fr h hh/\k'=wr.length- 1-k) (wr.length- 1)
   ⟨0,aA rfl,gK _,by rw[List.take_zero,List.append_nil];exact A9,g9,by rw[o9 _ (by omega)];exact J.gb,by omega,F9,rfl⟩ ?_
  rintro k' vars h10 ⟨k,⟨g,rfl⟩,hk,A10,gr10,gb10,nx10,F10,rfl⟩
  have hdl:((R.getD i []).drop 1).length=wr.length- 1:=by rw[List.length_drop];omega
  by_cases hlt:(k:Int)<((wr.length- 1:Nat):Int)
  case neg=>
   have d1:decide ((k:Int)<((wr.length- 1:Nat):Int))=false:=decide_eq_false hlt;have ek:k=wr.length- 1:=by omega
   rw[ek,List.take_of_length_le (l:=(R.getD i []).drop 1) (by omega),←strong_take (by rw[isc.lr];exact hi')] at A10;simp(disch:=omega)only[go_sem,d1];refine mU fG hpd gr10 (.inl ⟨rfl,A10.other (k:=id) (by omega) (by omega) rfl (λj hj=>H.aH _ hj _),by rw[H.aT],by rw[H.aH _ (by omega)];exact gb10,nx10,F10.set (by omega) _⟩)
  have d1:decide ((k:Int)<((wr.length- 1:Nat):Int))=true:=decide_eq_true hlt
  have hk':k<wr.length- 1:=by omega
  have hkR:k+1<(R.getD i []).length:=by omega
  obtain⟨x,hx⟩:=AS ((R.getD i []).getD (k+1) [])
  have hxd:((R.getD i []).drop 1).getD k []=x:=by
   rw[←hx];generalize R.getD i []=row;rw[List.getD,List.getD,List.getElem?_drop,Nat.add_comm 1 k]
  have X:aX n x:=by
   rw[←hx];exact gc.grp.isP (isc.rep i hi' (k+1) (by rw[←isc.rl i hi'];exact hkR)).mem
  have sx:=getD_row ar (i:=k+1) (by rw[jS];exact hkR) .undef []
  rw[gd_map zi (d:= []) hkR,hx] at sx
  obtain⟨idr,offr,shr,hidr,hcr⟩:=(tt.mono F10).shape (wr.length- 1) (by rw[List.length_drop];omega) (by omega)
  have ck:h10.cell idr (offr+k)=some (wr.getD (k+1) .undef):=by
   rw[hcr k (by rw[List.length_drop];omega),List.getElem?_drop,List.getD,Nat.add_comm 1 k,eQ (by omega)];rfl
  generalize wr.getD (k+1) .undef=vx at sx ck
  obtain⟨va,gA,ova⟩: ∃va,h10.get (B'+1)=cE [va]/\dI va va=true:=by
   obtain⟨va,_,_,gA,ow,_⟩:=A10;exact⟨va,gA,ow.sv.dI⟩
  have fb:Fr h10 (H.mk h10.tr (h10.next+6)):=(Fr.refl h10).bJ (by omega)
  rw[hB']
  simp(disch:=omega)only[go_sem,d1,shr.ixa,ck,H.aF gA]
  refine (clone_ok vx (zi x) (H.mk h10.tr (h10.next+6)) (by rw[aU,X.len];omega) (by rw[aU,X.len];omega) (sx.mono (F10.trans fb))).mono ?_
  rintro v11 h11 fr11
  have f11:=fb.trans fr11.fr
  have n11:=fr11.fr.next
  have gA11:h11.get (B'+1)=cE [va]:=by rw[f11.get _ (by omega)];exact gA
  have p11:PV (λid=>id<h10.next) h11 v11 x:=fr11.pv λid h=>by simp;omega
  simp(disch:=omega)only[go_sem,H.aF gA11,ova,dC _ (z:= .aB) p11.eN.1 p11.eN.2]
  obtain⟨h12,h12e⟩: ∃h12:H,h12=H.mk ((H.mk h11.tr (h10.next+3)).new (Ob.cells false [v11])).tr h11.next:=⟨_,rfl⟩
  rw[←h12e]
  have g12:h12.get (h10.next+3)=cE [v11]:=by rw[h12e];exact H.aM (H.mk h11.tr (h10.next+3)) _
  have n12:h12.next=h11.next:=by rw[h12e]
  have o12: ∀k,k≠h10.next+3->h12.get k=h11.get k:=λk hk=>by rw[h12e];exact H.bG (H.mk h11.tr (h10.next+3)) (by simpa using hk) _
  simp only at n11
  have f12:Fr h10 h12:=⟨by omega,λk hk=>by rw[o12 k (by omega)];exact f11.get k hk⟩
  have p12:PV (λid=>id<h10.next) h12 v11 x:=by
   obtain⟨i5,c5,ev,a1,a2,a3,a4⟩:=fr11.ex;simp only at a1;rw[ev];exact⟨SV.all (by rw[aN,Nat.mul_one]) (by omega) (by rw[o12 _ (by omega)];exact a3) _,λhh=>by have:i5<h10.next:=hh;omega⟩
  have hll:(strongL (R.take i)++((R.getD i []).drop 1).take k).length<1000000:=by
   have h1:=strong_len (n:=n) (R:=R) (i:=i) (by rw[isc.lr];omega) (λj hj=>rl j (by omega));have h2:i*n<=7*7:=Nat.mul_le_mul (by omega) n7;rw[jD,xL];omega
  obtain⟨va',h13,gA',a13,g13,n13,o13,one,_,fin⟩:=A10.push (by omega) (bytes:=24) (eP _) hll f12 (by omega) p12 (SV.one (by omega) g12 (.kn 1))
  have eva:va'=va:=by rw[gA] at gA';cases gA';rfl
  subst eva
  have ptA: ∀(hh:H) (y:V),dV (cE [va']) hh (B'+1) 0 [y]=some (hh.set (B'+1) (cE [y])):=λhh y=>bE (by simp) hh _ _
  simp(disch:=omega)only[go_sem,a13,g13,ptA]
  rw[iO k]
  have A14:=fin _ rfl
  have etk:strongL (R.take i)++((R.getD i []).drop 1).take k++ [x]=strongL (R.take i)++((R.getD i []).drop 1).take (k+1):=by
   rw[List.append_assoc,take_getD [] (by omega),hxd]
  rw[etk] at A14
  have F13:Fr h10 (h13.set (B'+1) (cE [.sl h12.next 0 ((strongL (R.take i)++((R.getD i []).drop 1).take k).length+1) (.un 1)]))->True:=λ_=>trivial
  obtain⟨h14,h14e⟩: ∃h14,h14=h13.set (B'+1) (cE [.sl h12.next 0 ((strongL (R.take i)++((R.getD i []).drop 1).take k).length+1) (.un 1)]):=⟨_,rfl⟩
  rw[←h14e] at A14 ⊢
  have o14: ∀k,k<=id->k≠B'+1->h14.get k=h10.get k:=λk h1 h2=>by rw[h14e,H.aH _ h2,o13 k (by omega)];exact f12.get k (by omega)
  have n14:h14.next=h13.next:=by rw[h14e];rfl
  refine⟨wr.length- 1-(k+1),by omega,k+1,aA rfl,by omega,A14,by rw[o13 id (by omega),f12.get _ (by omega)];exact gr10,by rw[o13 b (by omega),f12.get _ (by omega)];exact gb10,by omega,⟨by have:=F10.next;omega,λk hk=>by rw[o14 k (by omega) (by omega)];exact F10.get k hk⟩,rfl⟩
 ·rintro _ hh (J|hf)
  case inr=>exact hf.elim
  refine⟨r,J.gr,by rw[fG];simp,?_⟩
  have en:r.pend.getD .norm= .norm:=by rw[hpd];rfl
  rw[en]
  have nx:=J.nx
  have acc:=J.acc
  rw[lR,List.take_of_length_le (by rw[isc.lr];omega)] at acc
  obtain⟨h9,h9e⟩: ∃h9,h9=hh.set id (some (.loop {r with st:= .out})):=⟨_,rfl⟩
  have A9:=acc.other (h2:=h9) (k:=id) (by omega) (by omega) (by rw[h9e];rfl) (λj hj=>by rw[h9e,H.aH _ hj])
  have F9:Fr h h9:=by rw[h9e];exact J.fr.set (by omega) _
  rw[←h9e,hB']
  obtain⟨va,ws,W',gA,ow,pv,bl,l1,l2⟩:=A9
  simp(disch:=omega)only[go_sem,H.aF gA]
  exact⟨va,rfl,⟨ws,W',ow.le (by omega),pv,bl,λid h=>l1 id (by omega)⟩,F9⟩
end Go.Proofs.YtapfcpkecmmagaaGreat
namespace Go.Pm
set_option maxRecDepth 100000
section
variable {x:List Nat} {i:Nat}
def fR (O:oN)(x:List Nat)(i:Nat):List Nat:=(O.getD i []).map λq=>x.getD q 0
def nC (l:List Nat):List Nat:=l.mergeSort λa b=>decide (a<=b)
theorem iP (l:List Nat):(nC l).Perm l:=List.mergeSort_perm l _
theorem yX (l:List Nat):(nC l).Pairwise (· <= ·):=by
 have:=List.pairwise_mergeSort (le:=λa b:Nat=>decide (a<=b)) (λa b c h1 h2=>by simp at*;omega) (λa b=>by simp;omega) l;exact this.imp λh=>by simpa using h
def iV (O:oN)(R:Nv)(x:List Nat)(i im:Nat):List Nat:=aQ ((R.getD i []).getD ((fR O x i).idxOf im) []) x
def cU (O:oN)(R:Nv):Nat->Nat->List Nat->oN
 |0,_,x=> [x]
 |d+1,i,x=>(nC (fR O x i)).flatMap λim=>cU O R d (i+1) (iV O R x i im)
structure cX (G:List Nat->Prop)(L:oN):Prop where
 asc:L.Pairwise Lt
 mem: ∀x,x∈L↔G x
theorem Lt.irrefl (h:Lt x x):False:=h.asymm h
theorem Lt.trans {y z:List Nat}(hl:x.length=y.length)(a:Lt x y)(b:Lt y z):Lt x z:=by
 obtain⟨k,h1,h2,h3⟩:=a;obtain⟨m,h4,h5,h6⟩:=b;rcases Nat.lt_trichotomy k m with h|h|h
 ·exact⟨k,h1,λj hj=>(h2 j hj).trans (h5 j (by omega)),by rw[←h5 k h];exact h3⟩
 ·subst h;exact⟨k,h1,λj hj=>(h2 j hj).trans (h5 j hj),by omega⟩
 ·exact⟨m,by omega,λj hj=>(h2 j (by omega)).trans (h5 j hj),by rw[h2 m h];exact h6⟩
theorem Gx: ∀{a b:oN},a.Pairwise Lt->b.Pairwise Lt->(∀p,p∈a↔p∈b)->a=b
 | [], [],_,_,_=>rfl
 | [],y::b,_,_,h=>by have:=(h y).2 (by simp);simp at this
 |x::a, [],_,_,h=>by have:=(h x).1 (by simp);simp at this
 |x::a,y::b,ha,hb,h=>by
  obtain⟨a1,a2⟩:=List.pairwise_cons.1 ha;obtain⟨b1,b2⟩:=List.pairwise_cons.1 hb
  have e:x=y:=by
   have h1:=(h x).1 (by simp);have h2:=(h y).2 (by simp);rcases List.mem_cons.1 h1 with h1|h1
   ·exact h1
   ·rcases List.mem_cons.1 h2 with h2|h2
    ·exact h2.symm
    ·exact ((b1 x h1).asymm (a1 y h2)).elim
  subst e;congr 1
  refine Gx a2 b2 λp=>⟨λhp=>?_,λhp=>?_⟩
  ·rcases List.mem_cons.1 ((h p).1 (List.mem_cons_of_mem _ hp)) with e|h3
   ·subst e;exact ((a1 p hp).irrefl).elim
   ·exact h3
  ·rcases List.mem_cons.1 ((h p).2 (List.mem_cons_of_mem _ hp)) with e|h3
   ·subst e;exact ((b1 p hp).irrefl).elim
   ·exact h3
theorem cX.uniq {G:List Nat->Prop}{L M:oN}(a:cX G L)(b:cX G M):L=M:=Gx a.asc b.asc λp=>(a.mem p).trans (b.mem p).symm
theorem cX.nodup {G:List Nat->Prop}{L:oN}(a:cX G L):L.Nodup:=by
 rw[List.nodup_iff_pairwise_ne];exact a.asc.imp λh e=>by rw[e] at h;exact h.irrefl
def Qv (O:oN):Nat->Nat->Nat
 |0,_=>1
 |d+1,i=>(O.getD i []).length*Qv O d (i+1)
section
variable {n:Nat} {G:List Nat->Prop} {O:oN} {R:Nv}
theorem Md {im:Nat}:im∈fR O x i↔ ∃q∈O.getD i [],x.getD q 0=im:=by simp [fR]
theorem tP (hG:iL n G)(c:dK n G O R)(hi:i<n){q:Nat}(hq:q∈O.getD i []):q<n:=by
 obtain⟨g,hg,_,rfl⟩:=(c.mem i hi q).1 hq;exact (hG.isP hg).dU hi
theorem Fe (hG:iL n G)(c:dK n G O R)(X:aX n x)(hi:i<n):(fR O x i).Nodup:=by
 have nd:(O.getD i []).Pairwise (· < ·):=c.asc i hi;rw[List.nodup_iff_pairwise_ne];unfold fR;rw[List.pairwise_map];refine nd.imp_of_mem λ{a b} ha hb hlt e=>?_
 have:=X.inj (tP hG c hi ha) (tP hG c hi hb) e;omega
theorem nK (hG:iL n G)(c:dK n G O R)(X:aX n x)(hi:i<n){im:Nat}(him:im∈fR O x i):
  ∃k,k<(O.getD i []).length/\(fR O x i).idxOf im=k/\x.getD ((O.getD i []).getD k 0) 0=im/\tZ n G i ((O.getD i []).getD k 0) ((R.getD i []).getD k [])/\iV O R x i im=aQ ((R.getD i []).getD k []) x/\aX n (iV O R x i im)/\(iV O R x i im).getD i 0=im/\ ∀j,j<i->(iV O R x i im).getD j 0=x.getD j 0:=by
 have hk:=List.idxOf_lt_length_iff.2 him
 have hk':(fR O x i).idxOf im<(O.getD i []).length:=by simpa [fR] using hk
 have he:(fR O x i).getD ((fR O x i).idxOf im) 0=im:=by rw[cG hk,List.getElem_idxOf]
 obtain⟨k,e⟩: ∃k,(fR O x i).idxOf im=k:=⟨_,rfl⟩
 rw[e] at hk' he hk
 have hx:x.getD ((O.getD i []).getD k 0) 0=im:=by
  rw[←he];unfold fR;rw[List.getD_eq_getElem?_getD (l:=List.map _ _),List.getElem?_map,List.getElem?_eq_getElem hk',cG hk'];rfl
 have rep:=c.rep i hi k hk'
 have Rp:=hG.isP rep.mem
 have es:iV O R x i im=aQ ((R.getD i []).getD k []) x:=by unfold iV;rw[e]
 refine⟨k,hk',e,hx,rep,es,by rw[es];exact Rp.mul X,?_,λj hj=>?_⟩
 ·rw[es,cH (by rw[Rp.len];exact hi),rep.maps,hx]
 ·rw[es,cH (by rw[Rp.len];omega),rep.fix j hj]
theorem yT (hG:iL n G)(c:dK n G O R): ∀(d i:Nat) (x:List Nat),i+d=n->aX n x->
  (∀z,z∈cU O R d i x↔ ∃g,G g/\Fix i g/\z=aQ g x)/\(cU O R d i x).Pairwise Lt/\(cU O R d i x).length=Qv O d i
 |0,i,x,h,X=>by
  obtain rfl:i=n:=by omega
  refine⟨λz=>?_,by simp [cU],rfl⟩;simp only[cU,List.mem_singleton];constructor
  ·rintro rfl;exact⟨aW i,hG.one,Fix.one i i (Nat.le_refl _),(bW X).symm⟩
  ·rintro⟨g,hg,fg,rfl⟩;rw[fg.all (hG.isP hg),bW X]
 |d+1,i,x,h,X=>by
  have hi:i<n:=by omega
  have ih:=λim (him:im∈fR O x i)=>yT hG c d (i+1) (iV O R x i im) (by omega) (nK hG c X hi him).choose_spec.2.2.2.2.2.1
  have ms: ∀im,im∈nC (fR O x i)↔im∈fR O x i:=λim=>(iP _).mem_iff
  have head: ∀im,im∈fR O x i-> ∀z,z∈cU O R d (i+1) (iV O R x i im)->z.length=n/\z.getD i 0=im/\ ∀j,j<i->z.getD j 0=x.getD j 0:=λim him z hz=>by
   obtain⟨g,hg,fg,rfl⟩:=((ih im him).1 z).1 hz;obtain⟨k,_,_,_,_,_,_,s1,s2⟩:=nK hG c X hi him;have Gp:=hG.isP hg;refine⟨by rw[dP,Gp.len],?_,λj hj=>?_⟩
   ·rw[cH (by rw[Gp.len];exact hi),fg i (by omega),s1]
   ·rw[cH (by rw[Gp.len];omega),fg j (by omega),s2 j hj]
  refine⟨λz=>?_,?_,?_⟩
  ·simp only[cU,List.mem_flatMap,ms]
   constructor
   ·rintro⟨im,him,hz⟩
    obtain⟨g,hg,fg,rfl⟩:=((ih im him).1 z).1 hz;obtain⟨k,_,_,_,rep,es,_⟩:=nK hG c X hi him;refine⟨aQ g ((R.getD i []).getD k []),hG.mul hg rep.mem,Fix.mul (hG.isP hg) (by omega) (fg.mono (by omega)) rep.fix,?_⟩;rw[es,aI (hG.isP hg) (hG.isP rep.mem) X]
   ·rintro⟨g,hg,fg,rfl⟩
    have Gp:=hG.isP hg;have hq:=(c.mem i hi (g.getD i 0)).2 ⟨g,hg,fg,rfl⟩;have him:x.getD (g.getD i 0) 0∈fR O x i:=Md.2 ⟨_,hq,rfl⟩;refine⟨_,him,((ih _ him).1 _).2 ?_⟩;obtain⟨k,hk,_,hx,rep,es,_⟩:=nK hG c X hi him;have hqk:(O.getD i []).getD k 0=g.getD i 0:=X.inj (tP hG c hi (by rw[cG hk];exact List.getElem_mem hk)) (tP hG c hi hq) hx;rw[hqk] at rep;have Rp:=hG.isP rep.mem;refine⟨aQ g (bX ((R.getD i []).getD k [])),hG.mul hg (hG.inv rep.mem),(Fix.mul Gp (by omega) fg (Fix.inv Rp (by omega) rep.fix)).succ ?_,?_⟩
    ·rw[cH (by rw[Gp.len];exact hi)]
     have:=lE Rp hi;rwa [rep.maps] at this
    ·rw[es,←aI (Gp.mul Rp.inv) Rp X,aI Gp Rp.inv Rp,cZ Rp,bB Gp]
  ·unfold cU
   rw[List.pairwise_flatMap];refine⟨λim him=>(ih im ((ms im).1 him)).2.1,?_⟩;have asc:=yX (fR O x i);have nd:(nC (fR O x i)).Nodup:=(iP _).nodup_iff.2 (Fe hG c X hi);rw[List.nodup_iff_pairwise_ne] at nd;refine (asc.and nd).imp_of_mem λ{a b} ha hb hab z hz w hw=>?_
   obtain⟨l1,z1,z2⟩:=head a ((ms a).1 ha) z hz;obtain⟨l2,w1,w2⟩:=head b ((ms b).1 hb) w hw;exact⟨i,by omega,λj hj=>by rw[z2 j hj,w2 j hj],by rw[z1,w1];omega⟩
  ·unfold cU Qv
   rw[List.length_flatMap];have:(nC (fR O x i)).map (λa=>(cU O R d (i+1) (iV O R x i a)).length)=(nC (fR O x i)).map λ_=>Qv O d (i+1):=List.map_congr_left λa ha=>(ih a ((ms a).1 ha)).2.2
   rw[this];have hl:(nC (fR O x i)).length=(O.getD i []).length:=by rw[(iP _).length_eq];simp [fR]
   rw[←hl];generalize nC (fR O x i)=l
   induction l with
   |nil=>simp
   |cons a l ih=>simp only[List.map_cons,List.sum_cons,ih,List.length_cons,Nat.succ_mul];omega
theorem fQ (hG:iL n G)(c:dK n G O R):cX G (cU O R n 0 (aW n))/\(cU O R n 0 (aW n)).length=Qv O n 0:=by
 obtain⟨h1,h2,h3⟩:=yT hG c n 0 (aW n) (by omega) (aX.one n);refine⟨⟨h2,λx=>?_⟩,h3⟩;rw[h1];constructor
 ·rintro⟨g,hg,_,rfl⟩;rw[bB (hG.isP hg)];exact hg
 ·exact λhx=>⟨x,hx,λk hk=>by omega,(bB (hG.isP hx)).symm⟩
end
end
end Go.Pm
namespace Go.Proofs.YtapfcpkecmmagaaGreat
open Go Go.Ay Go.Pm
set_option maxRecDepth 100000
theorem GC.row {W:Nat->Prop}{h:H}{vc:V}{n:Nat}{O:LN}{R:lU}{G:List Nat->Prop}(g:GC W h vc n O R G){j:Nat}(hj:j<n):0<(O.getD j []).length/\(O.getD j []).length<=n:=by
 refine⟨?_,Nat.le_trans (orb_len (λx hx=>g.grp.isP hx) hj (g.isc.asc j hj) (g.isc.mem j hj)) (by omega)⟩;exact List.length_pos_of_mem ((g.isc.mem j hj j).2 ⟨aW n,g.grp.one,Fix.one n j (by omega),dM hj⟩)
theorem app_in {h:H}{S k c:Nat}{vs:List V}{y w:V}(hg:h.get S=some (.cells false vs))(hl:vs.length=c)(hk:k<c)(hc:c<1000000)(hy:SV h y 1 [w]):
  qX h 1 8 (.sl S 0 k (.kn c)) y=some (.sl S 0 (k+1) (.kn c),h.set S (some (.cells false (vs.set k w)))):=by
 have e1:qX h 1 8 (.sl S 0 k (.kn c)) y=Ay.oE h 1 8 (.sl S 0 k (.kn c)) 1 [w]:=by
  simp only[qX,hy.len (n:=1) rfl (by omega),hy.slice]
 rw[e1]
 have hs:h.slice 1 (.sl S 0 k (.kn c))=some (vs.take k):=by
  simp only[H.slice,H.row,hg,sub];rw[if_pos (by omega)];simp
 have hp:h.put S (0+k*1) [w]=some (h.set S (some (.cells false (vs.set k w)))):=by
  rw[H.put_eq,hg,Nat.zero_add,Nat.mul_one,bE (by omega)]
 unfold Ay.oE
 simp only[hs,kM]
 rw[if_neg (by omega),if_pos (by omega),if_pos (by omega),hp]
theorem sortN_uniq {l:List Int}{a:List Nat}(hp:l.Perm (zi a))(hs:l.Pairwise (· <= ·)):l=zi (nC a):=by
 refine asc_perm ?_ hs ?_
 ·exact hp.trans ((iP a).map _).symm
 ·unfold zi
  rw[List.pairwise_map];exact (yX a).imp λh=>by omega
theorem imgs_len (O:LN)(x:List Nat)(i:Nat):(fR O x i).length=(O.getD i []).length:=by simp [fR]
theorem imgs_at {O:LN}{x:List Nat}{i k:Nat}(hk:k<(O.getD i []).length):(fR O x i).getD k 0=x.getD ((O.getD i []).getD k 0) 0:=by
 unfold fR;rw[gd_map (λq=>x.getD q 0) (d:=0) hk]
theorem choices_ok {W:Nat->Prop}(vc vx:V)(n i:Nat)(O:LN)(R:lU)(G:List Nat->Prop)(x:List Nat)(h:H)(gc:GC W h vc n O R G)(hi:i<n)(hx:SI h vx (zi x))(X:aX n x):
  Ev T 119 [vc,vx,aC i] h (λv h'=>Frsh h h' v (zi (nC (fR O x i)))):=by
 obtain⟨vO,vR,e,sO,sR⟩:=gc.ch
 subst e
 refine bP c_rank_choices rfl rfl ?_
 have isc:=gc.isc
 have n7:=gc.n7
 obtain⟨wO,tO,aO⟩:=sO
 have lO:=aO.length
 rw[jS,isc.lo] at lO
 have oneO:=tO.cW.2.1
 have oneR:vR.one=true:=Xy sR
 obtain⟨B,hB⟩:=AS h.next
 obtain⟨h1,e1,n1,g1,o1,f1⟩:=fC hB [aC n,vO,vR]
 have bx:=dQ h (v:= aC n) (u:=vO) (w:=vR) rfl oneO oneR
 have rowO:=getD_row aO (i:=i) (by rw[jS,isc.lo];omega) .undef []
 rw[gd_map zi (d:= []) (by rw[isc.lo];omega)] at rowO
 obtain⟨ido,offo,sho,hido,hco⟩:=(tO.mono f1).shape n (by omega) (by omega)
 have co:h1.cell ido (offo+i)=some (wO.getD i .undef):=by rw[hco i (by omega),List.getD,eQ (by omega)];rfl
 generalize wO.getD i .undef=vo at rowO co
 have lo:=rowO.lens
 rw[aU] at lo
 obtain⟨m,hm⟩:=AS ((O.getD i []).length)
 rw[hm] at lo
 have hrow:=gc.row (j:=i) hi
 rw[hm] at hrow
 have mk:tF h1 1 8 [aC 0] (aC 0) (aC m)=some (.sl (B+1) 0 0 (.kn m),h1.new (.cells false (rc m λ_=> aC 0))):=by
  rw[lQ (by omega) (by omega) (by omega) (by omega),Int.toNat_natCast,Nat.mul_one,tC,show ints (List.replicate m 0)=rc m λ_=> aC 0 from (xF (by simp [aN]) λi hi=>by simp [ints,hi]).symm,n1]
  rfl
 obtain⟨h2,e2,n2,g2,o2,f2⟩:=fC n1 (rc m λ_=> aC 0)
 rw[e2] at mk
 have g12:h2.get B=some (.cells false [aC n,vO,vR]):=by rw[o2 _ (by omega)];exact g1
 have co2:h2.cell ido (offo+i)=some vo:=by rw[f2.cell (by have:=hido (by omega);omega)];exact co
 simp(disch:=omega)only[go_sem,c_rank_choices,aE,bx,hB,e1,H.aF g1,sho.ixa,co,lo,mk,H.aF g12,co2]
 obtain⟨idp,offp,shp,hidp,hcp⟩:=rowO.open
 rw[aU,hm] at shp hidp hcp
 obtain⟨idx,offx,shx,hidx,hcx⟩:=hx.open
 rw[aU,X.len] at shx hidx hcx
 refine aJ (λk' vars hh=> ∃(k:Nat),(∃g:Nat->V,vars= [g 0,vx,g 2,g 3,g 4,.sl (B+1) 0 k (.kn m),g 6,vo,aC m,aC k,g 10])/\k<=m/\hh.get (B+1)=some (.cells false (rc m λj=>if j<k then aC ((fR O x i).getD j 0:Nat) else aC 0))/\B+1<hh.next/\Fr h hh/\k'=m-k) m
  ⟨0,aA rfl,gK _,by rw[g2];rfl,by omega,f1.trans f2,rfl⟩ ?_
 rintro k' vars h4 ⟨k,⟨g,rfl⟩,hk,gS,nx,F,rfl⟩
 by_cases hlt:(k:Int)<(m:Int)
 ·have d1:=mF hlt
  have hk':k<m:=by omega
  have cq:h4.cell idp (offp+k)=some (aC ((O.getD i []).getD k 0:Nat)):=by rw[F.cell (hidp (by omega)),hcp k hk'];congr 2;rw[zi,gd_map _ (d:=0) (by omega)]
  have hq:=tP gc.grp isc hi (q:=(O.getD i []).getD k 0) (getD_mem (by omega))
  have him:=imgs_at (O:=O) (x:=x) (i:=i) (k:=k) (by omega)
  generalize (O.getD i []).getD k 0=q at cq hq him
  have cx:h4.cell idx (offx+q)=some (aC (x.getD q 0:Nat)):=by rw[F.cell (hidx (by omega)),hcx q hq];congr 2;simp [zi,X.len,hq]
  obtain⟨h5,e5,n5,g5,o5,f5⟩:=fC (h:=h4) rfl [aC (x.getD q 0:Nat)]
  have gS5:h5.get (B+1)=some (.cells false (rc m λj=>if j<k then aC ((fR O x i).getD j 0:Nat) else aC 0)):=by rw[f5.get _ nx];exact gS
  have ap:=app_in gS5 (cV _ _) hk' (by omega) (SV.one (v:= aC (x.getD q 0:Nat)) (id:=h4.next) (by omega) g5 (.kn 1))
  rw[eY] at ap
  simp(disch:=omega)only[go_sem,d1,shp.ixa,cq,shx.ixa,cx,dC h4 (z:= aC 0) (v:= aC (x.getD q 0:Nat)) rfl rfl,e5,ap]
  rw[iO k]
  refine⟨m-(k+1),by omega,k+1,aA rfl,by omega,?_,by omega,(F.trans f5).set (by omega) _,rfl⟩
  congr 2
  refine bH λj hj=>?_
  by_cases e:j=k
  ·subst e;rw[if_pos rfl,if_pos (by omega),him]
  ·rw[if_neg e]
   by_cases e2:j<k
   ·rw[if_pos e2,if_pos (by omega)]
   ·rw[if_neg e2,if_neg (by omega)]
 have d1:=iG hlt
 obtain rfl:k=m:=by omega
 have lim:(zi (fR O x i)).length=k:=by rw[aU,imgs_len,hm]
 have gS':h4.get (B+1)=some (.cells false (ints (zi (fR O x i)))):=by
  rw[gS,←Da,imgs_len,hm];congr 2;exact bH λj hj=>by rw[if_pos hj]
 have so:=sort_ok h4 (B+1) (zi (fR O x i)) (.kn k) (by omega) gS' nx
 rw[lim] at so
 simp(disch:=omega)only[go_sem,d1]
 refine so.mono ?_
 rintro _ h5 ⟨l',g5,p5,a5,f5⟩
 have el:=sortN_uniq p5 a5
 subst el
 have ls:(zi (nC (fR O x i))).length=k:=by rw[aU,(iP _).length_eq,imgs_len,hm]
 simp(disch:=omega)only[go_sem]
 refine⟨⟨B+1,_,by rw[ls],by omega,gE nx f5.next,g5,.inr (by rw[ls])⟩,⟨Nat.le_trans F.next f5.next,λid hid=>?_⟩⟩
 rw[f5.get id (gE hid F.next) (λe=>by have:id=B+1:=e;omega)]
 exact F.get id hid
theorem idx_le: ∀{l:List Nat} {k im:Nat},l[k]? =some im->l.idxOf im<=k
 | [],k,im,h=>by simp at h
 |a::l,0,im,h=>by
  have:a=im:=by simpa using h
  subst this;simp [List.idxOf_cons]
 |a::l,k+1,im,h=>by
  rw[List.idxOf_cons]
  by_cases e:a=im
  ·subst e;simp
  ·have h1:(a==im)=false:=by simpa using e
   rw[h1];have:=idx_le (l:=l) (k:=k) (im:=im) (by simpa using h);simp only[cond_false];omega
theorem idx_ok (vo vx:V)(a b:Nat)(o x:List Nat)(im:Nat)(h:H)(hn:o.length<1000000)(ho:SI h vo (zi o))(hx:SI h vx (zi x))(ha:h.get a=some (.cells false [vx]))(hb:h.get b=some (.cells false [aC im]))(han:a<h.next)(hbn:b<h.next)(hr: ∀q∈o,q<x.length)(him:im∈o.map λq=>x.getD q 0):
  Ev T 94 [vo,.fn 160 [] [.ptr a 0,.ptr b 0]] h (λv h'=>v= aC ((o.map λq=>x.getD q 0).idxOf im:Nat)/\Fr h h'):=by
 refine bP c_slices_IndexFunc_int_int rfl rfl ?_
 have lo:=ho.lens
 rw[aU] at lo
 obtain⟨idp,offp,shp,hidp,hcp⟩:=ho.open
 rw[aU] at shp hidp hcp
 obtain⟨idx,offx,shx,hidx,hcx⟩:=hx.open
 rw[aU] at shx hidx hcx
 have hlt:=List.idxOf_lt_length_iff.2 him
 rw[jS] at hlt
 simp(disch:=omega)only[go_sem,c_slices_IndexFunc_int_int,aE,lo]
 refine aJ (λk' vars hh=> ∃(k:Nat),(∃g:Nat->V,vars= [vo,.fn 160 [] [.ptr a 0,.ptr b 0],g 2,g 3,aC (o.length:Int),aC k,g 6,g 7])/\k<=(o.map λq=>x.getD q 0).idxOf im/\Fr h hh/\k'=o.length-k) o.length
  ⟨0,aA rfl,gK _,Fr.refl h,rfl⟩ ?_
 rintro k' vars hh ⟨k,⟨g,rfl⟩,hk,F,rfl⟩
 have hk':k<o.length:=by omega
 have d1:decide ((k:Int)<(o.length:Int))=true:=mF (by omega)
 have cq:hh.cell idp (offp+k)=some (aC (o.getD k 0:Nat)):=by rw[F.cell (hidp (by omega)),hcp k hk'];congr 2;rw[zi,gd_map _ (d:=0) hk']
 have hq:=hr _ (getD_mem (d:=0) hk')
 have hmk:(o.map λq=>x.getD q 0)[k]'(by simpa using hk')=x.getD (o.getD k 0) 0:=by simp [List.getD,hk']
 generalize o.getD k 0=q at cq hq hmk
 have cx:hh.cell idx (offx+q)=some (aC (x.getD q 0:Nat)):=by rw[F.cell (hidx (by omega)),hcx q hq];congr 2;simp [zi,hq]
 have ca:hh.cell a 0=some vx:=by rw[H.aF (by rw[F.get _ han];exact ha)];rfl
 have cb:hh.cell b 0=some (aC im):=by rw[H.aF (by rw[F.get _ hbn];exact hb)];rfl
 have cl:Ev T 160 [aC q,.ptr a 0,.ptr b 0] hh (λv h'=>v= .bool (decide (((x.getD q 0:Nat):Int)=(im:Int)))/\Fr hh h'):=by
  refine bP c_rank_step_1 rfl rfl ?_;simp(disch:=omega)only[go_sem,c_rank_step_1,aE,ca,shx.ixa,cx,cb];exact (Fr.refl hh).bJ (by omega)
 simp(disch:=omega)only[go_sem,d1,shp.ixa,cq]
 refine cl.mono ?_
 rintro _ h2 ⟨rfl,f2⟩
 by_cases heq:((x.getD q 0:Nat):Int)=(im:Int)
 ·rw[decide_eq_true heq]
  simp(disch:=omega)only[go_sem]
  have:(o.map λq=>x.getD q 0).idxOf im=k:=by
   have h1:(o.map λq=>x.getD q 0).idxOf im<=k:=idx_le (by
    rw[eQ (by simpa using hk'),hmk]
    congr 1;omega)
   omega
  rw[this]
  exact⟨rfl,F.trans f2⟩
 ·rw[decide_eq_false heq]
  simp(disch:=omega)only[go_sem]
  rw[iO k]
  refine⟨o.length-(k+1),by omega,k+1,aA rfl,?_,F.trans f2,rfl⟩
  have:(o.map λq=>x.getD q 0).idxOf im≠k:=λe=>by
   have h1:=List.getElem_idxOf (List.idxOf_lt_length_iff.2 him);simp only[e] at h1;rw[hmk] at h1;omega
  omega
theorem step_ok {W:Nat->Prop}(vc vx:V)(n i im:Nat)(O:LN)(R:lU)(G:List Nat->Prop)(x:List Nat)(h:H)(gc:GC W h vc n O R G)(hi:i<n)(hx:SI h vx (zi x))(X:aX n x)(him:im∈fR O x i):
  Ev T 120 [vc,vx,aC i,aC im] h (λv h'=>Frsh h h' v (zi (iV O R x i im))):=by
 obtain⟨vO,vR,e,sO,sR⟩:=gc.ch
 subst e
 refine bP c_rank_step rfl rfl ?_
 have isc:=gc.isc
 have n7:=gc.n7
 obtain⟨wO,tO,aO⟩:=sO
 obtain⟨wR,tR,aR,kR⟩:=sR
 have lO:=aO.length
 have lR:=aR.length
 rw[jS,isc.lo] at lO
 rw[jS,isc.lr] at lR
 have oneO:=tO.cW.2.1
 have oneR:=tR.cW.2.1
 obtain⟨B,hB⟩:=AS h.next
 obtain⟨h1,e1,n1,g1,o1,f1⟩:=fC hB [aC n,vO,vR]
 obtain⟨h2,e2,n2,g2,o2,f2⟩:=fC n1 [vx]
 obtain⟨h3,e3,n3,g3,o3,f3⟩:=fC n2 [aC im]
 have F3:=(f1.trans f2).trans f3
 have bx:=dQ h (v:= aC n) (u:=vO) (w:=vR) rfl oneO oneR
 have bx2:=iW hx.cW.1 hx.cW.2.1 h1
 have bx3:=wF h2 .i64 (im:Int)
 have g13:h3.get B=some (.cells false [aC n,vO,vR]):=by rw[o3 _ (by omega),o2 _ (by omega)];exact g1
 have g23:h3.get (B+1)=some (.cells false [vx]):=by rw[o3 _ (by omega)];exact g2
 have rowO:=getD_row aO (i:=i) (by rw[jS,isc.lo];omega) .undef []
 rw[gd_map zi (d:= []) (by rw[isc.lo];omega)] at rowO
 obtain⟨ido,offo,sho,hido,hco⟩:=(tO.mono F3).shape n (by omega) (by omega)
 have co:h3.cell ido (offo+i)=some (wO.getD i .undef):=by rw[hco i (by omega),List.getD,eQ (by omega)];rfl
 generalize wO.getD i .undef=vo at rowO co
 simp(disch:=omega)only[go_sem,c_rank_step,aE,bx,hB,e1,bx2,n1,e2,bx3,n2,e3,H.aF g13,sho.ixa,co]
 have row:=gc.row (j:=i) hi
 refine (idx_ok vo vx (B+1) (B+1+1) (O.getD i []) x im h3 (by omega) (rowO.mono F3) (hx.mono F3) g23 g3 (by omega) (by omega) (λq hq=>by rw[X.len];exact tP gc.grp isc hi hq) him).mono ?_
 rintro _ h4 ⟨rfl,f4⟩
 obtain⟨k,hk,ek,_,rep,es,Y,_⟩:=nK gc.grp isc X hi him
 have ek':(List.map (λq=>x.getD q 0) (O.getD i [])).idxOf im=k:=ek
 rw[ek',es]
 have F4:=F3.trans f4
 have g14:h4.get B=some (.cells false [aC n,vO,vR]):=by rw[f4.get _ (by omega)];exact g13
 have g24:h4.get (B+1)=some (.cells false [vx]):=by rw[f4.get _ (by omega)];exact g23
 have rowR:=getD_row aR (i:=i) (by rw[jS,isc.lr];omega) .undef []
 rw[gd_map (List.map zi) (d:= []) (by rw[isc.lr];omega)] at rowR
 obtain⟨idr,offr,shr,hidr,hcr⟩:=(tR.mono F4).shape n (by omega) (by omega)
 have cr:h4.cell idr (offr+i)=some (wR.getD i .undef):=by rw[hcr i (by omega),List.getD,eQ (by omega)];rfl
 generalize wR.getD i .undef=vr at rowR cr
 obtain⟨wr,tr,ar⟩:=rowR
 have lr:=ar.length
 rw[jS] at lr
 have hkl:k<(R.getD i []).length:=by rw[isc.rl i hi];exact hk
 have sz:=getD_row ar (i:=k) (by rw[jS];exact hkl) .undef []
 rw[gd_map zi (d:= []) hkl] at sz
 obtain⟨idz,offz,shz,hidz,hcz⟩:=(tr.mono F4).shape (R.getD i []).length (by omega) (by omega)
 have cz:h4.cell idz (offz+k)=some (wr.getD k .undef):=by rw[hcz k (by omega),List.getD,eQ (by omega)];rfl
 generalize wr.getD k .undef=vz at sz cz
 have hkk:(k:Int)<((R.getD i []).length:Int):=by omega
 have Z:=gc.grp.isP rep.mem
 have fb:Fr h4 (H.mk h4.tr (h4.next+11)):=(Fr.refl h4).bJ (by omega)
 simp(disch:=omega)only[go_sem,H.aF g14,shr.ixa,cr,shz.ixa,cz,H.aF g24]
 refine (mul_gen (rfl:T 161=some c_rank_mul) vz vx _ x (H.mk h4.tr (h4.next+11)) (by rw[Z.len];omega) (sz.mono (F4.trans fb)) (hx.mono (F4.trans fb)) (λj hj=>by rw[X.len];exact Z.dU (by rw[←Z.len];exact hj))).mono ?_
 rintro v h5 nw
 simp(disch:=omega)only[go_sem]
 exact (newp_frsh nw).le (F4.trans fb)
def Kept (b:Nat)(W:Nat->Prop)(hh h':H):Prop:=hh.next<=h'.next/\ ∀id,id<hh.next->(id<b∨W id)->h'.get id=hh.get id
theorem Kept.fr {b:Nat}{W:Nat->Prop}{hh h':H}(f:Fr hh h'):Kept b W hh h':=⟨f.next,λid h _=>f.get id h⟩
structure Rdr (id b:Nat)(L:LN)(W0:Nat->Prop)(J:Nat->(Nat->Prop)->H->Prop)(D:(Nat->Prop)->H->Prop):Prop where
 kJ: ∀k W hh h',J k W hh->Kept b W hh h'->J k W h'
 kD: ∀W hh h',D W hh->Kept b W hh h'->D W h'
 y: ∀k W hh v,k<L.length->J k W hh->PV W hh v (L.getD k [])->(∀id,W id->id<hh.next)->b<=hh.next->(∀id,id<b->W id->W0 id)->
  Ey T id [v] hh (λv h'=> ∃W2,(∀id,id<hh.next->W2 id->W id)/\(∀id,W2 id->id<h'.next)/\Fx W hh h'/\(v= .bool true/\J (k+1) W2 h'∨v= .bool false/\D W2 h'))
def ElC (n:Nat)(vO vR:V)(O:LN)(R:lU)(G:List Nat->Prop)(d:Nat):Prop:=
 ∀(i:Nat) (x:List Nat) (vx:V) (id bi bc bx:Nat) (h:H) (W:Nat->Prop) (J:Nat->(Nat->Prop)->H->Prop) (D:(Nat->Prop)->H->Prop),i+d=n->aX n x->
  h.get bi=cE [aC i]->h.get bc=cE [aC n,vO,vR]->h.get bx=cE [vx]->PV W h vx x->bi<h.next->bc<h.next->bx<h.next-> ¬W bi-> ¬W bc-> ¬W bx->
  GC W h (.agg [aC n,vO,vR]) n O R G->(∀id,W id->id<h.next)->J 0 W h->Rdr id h.next (cU O R d i x) W J D->
  Ev T 118 [.yl id,.ptr bi 0,.ptr bc 0,.ptr bx 0] h (λ_ h'=> ∃W2,(∀id,id<h.next->W2 id->W id)/\(∀id,W2 id->id<h'.next)/\Fx W h h'/\(J (cU O R d i x).length W2 h'∨D W2 h'))
theorem el_zero (n:Nat)(vO vR:V)(O:LN)(R:lU)(G:List Nat->Prop):ElC n vO vR O R G 0:=by
 intro i x vx id bi bc bx h W J D hi X gi gc gx px li lc lx wi wc wx g hW hJ rd;refine bP c_rank_elements_1 rfl rfl ?_;obtain rfl:i=n:=by omega
 obtain⟨B,hB⟩:=AS h.next;obtain⟨h1,e1,n1,g1,o1,f1⟩:=fC hB [.yl id];have bx1:=iW (x:= .yl id) rfl rfl h;have ci:=H.aF (h:=h1) (id:=bi) (by rw[o1 _ (by omega)];exact gi);have cc:=H.aF (h:=h1) (id:=bc) (by rw[o1 _ (by omega)];exact gc);have cx:=H.aF (h:=h1) (id:=bx) (by rw[o1 _ (by omega)];exact gx);have d1:decide ((i:Int)=(i:Int))=true:=decide_eq_true rfl;simp(disch:=omega)only[go_sem,c_rank_elements_1,aE,bx1,hB,e1,ci,cc];refine bD (λ_=>?_) (λhc=>(hc (by first|rfl|trivial)).elim);simp(disch:=omega)only[go_sem,H.aF g1,cx];refine (rd.y 0 W h1 vx (by simp [cU]) (rd.kJ 0 W h h1 hJ (Kept.fr f1)) (px.mono f1) (λid h=>by have:=hW id h;omega) (by omega) (λid _ h=>h)).mono ?_;rintro v h2 ⟨W2,w1,w2,f2,hv⟩;simp(disch:=omega)only[go_sem];refine⟨W2,λid h1 h2=>w1 id (by omega) h2,w2,(Fx.of f1).trans f2 (λ_ _ h=>h),?_⟩;rcases hv with ⟨_,hv⟩|⟨_,hv⟩
 ·exact .inl hv
 ·exact .inr hv
theorem rel_ok (d:Int)(vO vR vx:V)(i:Int)(hO:vO.one=true)(hR:vR.one=true)(hx1:vx.cells= [vx])(hx2:vx.one=true)(h:H):Ev T 98 [.agg [aC d,vO,vR],vx,aC i] h (λv h'=>v= .fn 118 [] [.ptr (h.next+1+1) 0,.ptr h.next 0,.ptr (h.next+1) 0]/\
  h'.get h.next=cE [aC d,vO,vR]/\h'.get (h.next+1)=cE [vx]/\h'.get (h.next+1+1)=cE [aC i]/\h'.next=h.next+3/\Fr h h'):=by
 refine bP c_rank_elements rfl rfl ?_
 obtain⟨B,hB⟩:=AS h.next
 obtain⟨h1,e1,n1,g1,o1,f1⟩:=fC hB [aC d,vO,vR]
 obtain⟨h2,e2,n2,g2,o2,f2⟩:=fC n1 [vx]
 obtain⟨h3,e3,n3,g3,o3,f3⟩:=fC n2 [aC i]
 have bx:=dQ h (v:= aC d) (u:=vO) (w:=vR) rfl hO hR
 have bx2:=iW hx1 hx2 h1
 have bx3:=wF h2 .i64 i
 simp(disch:=omega)only[go_sem,c_rank_elements,aE,bx,hB,e1,bx2,n1,e2,bx3,n2,e3]
 exact⟨by rw[o3 _ (by omega),o2 _ (by omega)];exact g1,by rw[o3 _ (by omega)];exact g2,g3,n3,(f1.trans f2).trans f3⟩
theorem offs {α β:Type}{l:List α}{f:α->List β}{m:Nat}(hm:m<l.length)(d:α):((l.take (m+1)).flatMap f).length=((l.take m).flatMap f).length+(f (l.getD m d)).length:=by
 rw[take_getD d hm,List.flatMap_append];simp
theorem offs_at {α β:Type}{f:α->List β}{e:β}(d:α): ∀{l:List α} {m k:Nat},m<l.length->k<(f (l.getD m d)).length->(l.flatMap f).getD (((l.take m).flatMap f).length+k) e=(f (l.getD m d)).getD k e/\((l.take m).flatMap f).length+k<(l.flatMap f).length
 | [],m,k,h,_=>by simp at h
 |a::l,0,k,_,hk=>by
  have hk:k<(f a).length:=hk;constructor
  ·simp only[List.take_zero,List.flatMap_nil,List.length_nil,Nat.zero_add,List.flatMap_cons]
   rw[List.getD,List.getD,wY hk];rfl
  ·simp;omega
 |a::l,m+1,k,h,hk=>by
  have h':m<l.length:=by simpa using h
  have hk':k<(f (l.getD m d)).length:=by simpa using hk
  obtain⟨i1,i2⟩:=offs_at (e:=e) d (l:=l) h' hk';constructor
  ·simp only[List.take_succ_cons,List.flatMap_cons,jD]
   rw[Nat.add_assoc,List.getD,List.getElem?_append_right (by omega),Nat.add_sub_cancel_left];exact i1
  ·simp only[List.take_succ_cons,List.flatMap_cons,jD];omega
structure InJ (off id2 b4 id:Nat)(r:eH)(J:Nat->(Nat->Prop)->H->Prop)(W0:Nat->Prop)(k:Nat)(W:Nat->Prop)(hh:H):Prop where
 ex: ∃W3,(∀id,W id↔(W3 id∨id=id2))/\ ¬W3 id2/\ ¬W3 b4/\J (off+k) W3 hh/\(∀id,W3 id->id<hh.next)/\ ∀id,id<id2->W3 id->W0 id
 gr:hh.get id2=some (.loop r)
 g4:hh.get b4=cE [.yl id]
 nx:id2<hh.next
structure InD (id2 b4:Nat)(r:eH)(D:(Nat->Prop)->H->Prop)(W0:Nat->Prop)(W:Nat->Prop)(hh:H):Prop where
 ex: ∃W3,(∀id,W id↔(W3 id∨id=id2))/\ ¬W3 id2/\D W3 hh/\(∀id,W3 id->id<hh.next)/\ ∀id,id<id2->W3 id->W0 id
 gr:hh.get id2=some (.loop (sF r .ret))
 nx:id2<hh.next
theorem el_succ (n:Nat)(vO vR:V)(O:LN)(R:lU)(G:List Nat->Prop)(d:Nat)(ih:ElC n vO vR O R G d):ElC n vO vR O R G (d+1):=by
 intro i x vx id bi bc bx h W J D hi X gi gc gx px li lc lx wi wc wx gC hW hJ rd;refine bP c_rank_elements_1 rfl rfl ?_;have hin:i<n:=by omega
 have n7:=gC.n7
 obtain⟨oneO,oneR⟩:vO.one=true/\vR.one=true:=by
  obtain⟨a,b,e,s1,s2⟩:=gC.ch;cases e;obtain⟨_,t1,_⟩:=s1;obtain⟨_,t2,_⟩:=s2;exact⟨t1.cW.2.1,t2.cW.2.1⟩
 obtain⟨B,hB⟩:=AS h.next;obtain⟨h1,e1,n1,g1,o1,f1⟩:=fC hB [.yl id];have bx1:=iW (x:= .yl id) rfl rfl h;have gi1:h1.get bi=cE [aC i]:=by rw[o1 _ (by omega)];exact gi
 have gc1:h1.get bc=cE [aC n,vO,vR]:=by rw[o1 _ (by omega)];exact gc
 have gx1:h1.get bx=cE [vx]:=by rw[o1 _ (by omega)];exact gx
 have d1:decide ((i:Int)=(n:Int))=false:=iG (by omega);have rc1:=bU gc1;simp(disch:=omega)only[go_sem,c_rank_elements_1,aE,bx1,hB,e1,H.aF gi1,H.aF gc1,d1,rc1,H.aF gx1];refine (choices_ok (.agg [aC n,vO,vR]) vx n i O R G x h1 (gC.mono f1) hin (px.mono f1).si X).mono ?_;rintro v8 h2 fr2;obtain⟨cs,hcs⟩:=AS (nC (fR O x i));rw[hcs] at fr2;have f2:=fr2.fr;have F2:=f1.trans f2
 have hcl:cs.length<=7:=by
  have:=(gC.row (j:=i) hin).2;rw[←hcs,(iP _).length_eq,imgs_len];omega
 have hcm: ∀im,im∈cs->im∈fR O x i:=λim h=>(iP _).mem_iff.1 (by rw[hcs];exact h)
 have hL:cU O R (d+1) i x=cs.flatMap λim=>cU O R d (i+1) (iV O R x i im):=by rw[←hcs];rfl
 obtain⟨P,cp,ev8,hP1,hP2,gP,_⟩:=fr2.ex;rw[aU] at ev8;have l8:dB v8=some (aC (cs.length:Int)):=by rw[ev8];rfl
 have hJ2:J 0 W h2:=rd.kJ 0 W h h2 hJ (Kept.fr F2);have n2:=f2.next;simp(disch:=omega)only[go_sem,l8];refine aJ (λk' vars hh=> ∃(m:Nat) (W':Nat->Prop),(∃g:Nat->V,vars= [.yl id,.ptr bi 0,.ptr bc 0,.ptr bx 0,.ptr B 0,g 5,g 6,g 7,v8,aC (cs.length:Int),aC m,g 11,g 12,g 13,g 14])/\m<=cs.length/\J ((cs.take m).flatMap λim=>cU O R d (i+1) (iV O R x i im)).length W' hh/\Fx W h2 hh/\(∀id,id<h2.next->W' id->W id)/\(∀id,W' id->id<hh.next)/\k'=cs.length-m) cs.length
  ⟨0,W,aA rfl,gK _,hJ2,Fx.refl _ _,λ_ _ h=>h,λid h=>by have:=hW id h;omega,rfl⟩ ?_
 rintro k' vars h3 ⟨m,W',⟨g,rfl⟩,hm,hJ3,F3,w1,w2,rfl⟩
 by_cases hlt:(m:Int)<(cs.length:Int)
 case neg=>
  have d2:=iG hlt;obtain rfl:m=cs.length:=by omega
  simp(disch:=omega)only[go_sem,d2];rw[List.take_length,←hL] at hJ3;exact⟨W',λid h1 h2=>w1 id (by omega) h2,w2,(Fx.of F2).trans F3 (λ_ _ h=>h),.inl hJ3⟩
 have d2:=mF hlt;have hm':m<cs.length:=by omega
 obtain⟨im,him⟩:=AS (cs.getD m 0);have himm:im∈fR O x i:=hcm im (by rw[←him];exact getD_mem hm');obtain⟨_,_,_,_,_,_,Y,_⟩:=nK gC.grp gC.isc X hin himm;have n3:=F3.next;have keep: ∀k,k<h2.next-> ¬W k->h3.get k=h2.get k:=λk h1 h2=>F3.get k h1 h2
 have wB: ¬W B:=λh=>by have:=hW B h;omega
 have wP: ¬W P:=λh=>by have:=hW P h;omega
 have gi3:h3.get bi=cE [aC i]:=by rw[keep _ (by omega) wi,f2.get _ (by omega)];exact gi1
 have gc3:h3.get bc=cE [aC n,vO,vR]:=by rw[keep _ (by omega) wc,f2.get _ (by omega)];exact gc1
 have gx3:h3.get bx=cE [vx]:=by rw[keep _ (by omega) wx,f2.get _ (by omega)];exact gx1
 have g43:h3.get B=cE [.yl id]:=by rw[keep _ (by omega) wB,f2.get _ (by omega)];exact g1
 have cP:h3.cell P m=some (aC im):=by rw[H.aF (by rw[keep _ hP2 wP];exact gP),qZ hm',him]
 have rc3:=bU gc3
 have eO:dI vO vO=true:=by
  obtain⟨a,b,e,s1,s2⟩:=gC.ch;cases e;obtain⟨_,t1,_⟩:=s1;exact t1.dI
 have eR:dI vR vR=true:=by
  obtain⟨a,b,e,s1,s2⟩:=gC.ch;cases e;obtain⟨_,t2,_⟩:=s2;exact t2.dI
 have gC3:GC W h3 (.agg [aC n,vO,vR]) n O R G:=(gC.mono F2).go F3 (λ_ _ h=>h);have px3:PV W h3 vx x:=(px.mono F2).fx F3;have fb:Fr h3 (H.mk h3.tr (h3.next+9)):=(Fr.refl h3).bJ (by omega);rw[ev8];have ei1:(i:Int)+1=((i+1:Nat):Int):=by omega
 simp(disch:=omega)only[go_sem,d2,cP,rc3,bU (h:=H.mk h3.tr (h3.next+9)) gc3,H.aF gx3,H.aF gi3,ei1];refine (step_ok (.agg [aC n,vO,vR]) vx n i im O R G x (H.mk h3.tr (h3.next+9)) (gC3.mono fb) hin (px3.mono fb).si X himm).mono ?_;rintro v20 h4 fr4;have f4:=fb.trans fr4.fr;have n4:=f4.next;have gi4:h4.get bi=cE [aC i]:=by rw[f4.get _ (by omega)];exact gi3
 have gc4:h4.get bc=cE [aC n,vO,vR]:=by rw[f4.get _ (by omega)];exact gc3
 have py4:PV W' h4 v20 (iV O R x i im):=fr4.pv λid h=>by have:=w2 id h;simp;omega
 simp(disch:=omega)only[go_sem,H.aF gi4,bU gc4,eO,eR];refine (rel_ok (n:Int) vO vR v20 ((i+1:Nat):Int) oneO oneR py4.eN.1 py4.eN.2 h4).mono ?_;rintro _ h5 ⟨rfl,gc5,gx5,gi5,n5,f5⟩;simp(disch:=omega)only[go_sem];refine⟨rfl,pY λr hr=>?_⟩;obtain⟨id2,hid⟩:=AS h5.next;rw[hid];have fG:r.st= .ready:=by rw[hr]
 have hpd:r.pend=none:=by rw[hr]
 obtain⟨h6,h6e⟩: ∃h6,h6=h5.new (.loop r):=⟨_,rfl⟩
 have gr6:h6.get id2=some (.loop r):=by rw[h6e,←hid,H.aM]
 have n6:h6.next=id2+1:=by rw[h6e,H.aV,hid]
 have f6:Fr h5 h6:=by rw[h6e];exact (Fr.refl h5).new _
 rw[←h6e];have f36:=(f4.trans f5).trans f6;obtain⟨off,hoff⟩:=AS (((cs.take m).flatMap λim=>cU O R d (i+1) (iV O R x i im)).length);rw[hoff] at hJ3;have n5':=f5.next;have w2': ¬W' id2:=λh=>by have:=w2 id2 h;omega
 have wB': ¬W' B:=λh=>wB (w1 B (by omega) h)
 have hLm: ∀k,k<(cU O R d (i+1) (iV O R x i im)).length->(cU O R (d+1) i x).getD (off+k) []=(cU O R d (i+1) (iV O R x i im)).getD k []/\off+k<(cU O R (d+1) i x).length:=λk hk=>by
  rw[hL,←hoff];have:=offs_at (f:=λim=>cU O R d (i+1) (iV O R x i im)) (e:=([]:List Nat)) 0 (l:=cs) (m:=m) (k:=k) hm' (by rw[him];exact hk);rw[him] at this;exact this
 have F06:Fx W h h6:=((Fx.of F2).trans F3 (λ_ _ h=>h)).trans (Fx.of f36) (λ_ _ h=>h)
 have rdr:Rdr id2 h6.next (cU O R d (i+1) (iV O R x i im)) (λk=>W' k∨k=id2) (InJ off id2 B id r J W') (InD id2 B r D W'):=by
  refine⟨λk W2 hh h' j kp=>?_,λW2 hh h' j kp=>?_,λk W2 hh v hk j pv hWn hbn hW0=>?_⟩
  ·obtain⟨W3,q1,q2,q3,q4,q5,q6⟩:=j.ex
   have nx:=j.nx;exact⟨⟨W3,q1,q2,q3,rd.kJ _ _ _ _ q4 ⟨kp.1,λid h1 h2=>kp.2 id h1 (by rcases h2 with h2|h2;exact .inl (by omega);exact .inr ((q1 id).2 (.inl h2)))⟩,λid h=>gE (q5 id h) kp.1,q6⟩,by rw[kp.2 _ nx (.inl (by omega))];exact j.gr,by rw[kp.2 _ (by omega) (.inl (by omega))];exact j.g4,gE nx kp.1⟩
  ·obtain⟨W3,q1,q2,q4,q5,q6⟩:=j.ex
   have nx:=j.nx;exact⟨⟨W3,q1,q2,rd.kD _ _ _ q4 ⟨kp.1,λid h1 h2=>kp.2 id h1 (by rcases h2 with h2|h2;exact .inl (by omega);exact .inr ((q1 id).2 (.inl h2)))⟩,λid h=>gE (q5 id h) kp.1,q6⟩,by rw[kp.2 _ nx (.inl (by omega))];exact j.gr,gE nx kp.1⟩
  ·obtain⟨W3,q1,q2,q3,q4,q5,q6⟩:=j.ex
   have nx:=j.nx;obtain⟨hm1,hm2⟩:=hLm k hk;refine mV j.gr (by rw[hr];rfl) fG λh9 g9 n9 o9=>?_
   rw[congrArg eH.assign hr,congrArg eH.vars hr,congrArg eH.pars hr];simp(disch:=omega)only[go_sem,List.zip_cons_cons,List.zip_nil_left];rw[congrArg eH.body hr];have g49:h9.get B=cE [.yl id]:=by rw[o9 _ (by omega)];exact j.g4
   have f9:Fx W2 hh h9:=⟨by omega,λk _ h2=>o9 k λe=>h2 ((q1 k).2 (.inr e))⟩
   have k9:Kept h.next W3 hh h9:=⟨by omega,λk h1 h2=>o9 k λe=>by
    subst e;rcases h2 with h2|h2
    ·omega
    ·exact q2 h2⟩
   simp(disch:=omega)only[go_sem,H.aF g49];refine (rd.y (off+k) W3 h9 v hm2 (rd.kJ _ _ _ _ q4 k9) (by rw[hm1];exact PV.go pv f9 λid _ h=>(q1 id).2 (.inl h)) (λid h=>by rw[n9];exact q5 id h) (by omega) (λid h1 h2=>w1 id (by omega) (q6 id (by omega) h2))).mono ?_;rintro v' h10 ⟨W4,u1,u2,f10,hv⟩;have n10:=f10.next;have w42: ¬W4 id2:=λh=>q2 (u1 id2 (by omega) h)
   have w4B: ¬W4 B:=λh=>q3 (u1 B (by omega) h)
   have gr10:h10.get id2=some (.loop (lZ r)):=by rw[f10.get id2 (by omega) q2];exact g9
   have g410:h10.get B=cE [.yl id]:=by rw[f10.get B (by omega) q3];exact g49
   have f910:Fx W2 hh h10:=f9.trans f10 λid _ h=>(q1 id).2 (.inl h)
   have low: ∀k,k<id2->W4 k->W' k:=λk h1 h2=>q6 k h1 (u1 k (by omega) h2)
   have kk: ∀r2:eH,Kept h.next W4 h10 (h10.set id2 (some (.loop r2))):=λr2=>⟨eP _,λk h1 h2=>H.aH _ (λe=>by
    subst e;rcases h2 with h2|h2
    ·omega
    ·exact w42 h2) _⟩
   rcases hv with ⟨rfl,hv⟩|⟨rfl,hv⟩
   ·simp(disch:=omega)only[go_sem]
    refine mU fG hpd gr10 ⟨λk=>W4 k∨k=id2,λk h1 h2=>?_,λk h2=>?_,f910.trans (Fx.set h10 ((q1 id2).2 (.inr rfl)) _) (λ_ _ h=>h),.inl ⟨rfl,⟨W4,λk=>Iff.rfl,w42,w4B,?_,u2,low⟩,by rw[H.aT],by rw[H.aH _ (by omega)];exact g410,by simp only[H.cJ];omega⟩⟩
    ·rcases h2 with h2|h2
     ·exact (q1 k).2 (.inl (u1 k (by omega) h2))
     ·exact (q1 k).2 (.inr h2)
    ·rcases h2 with h2|h2
     ·exact u2 k h2
     ·simp only[H.cJ];omega
    ·exact rd.kJ _ _ _ _ hv (kk r)
   ·simp(disch:=omega)only[go_sem]
    refine xV gr10 ⟨λk=>W4 k∨k=id2,λk h1 h2=>?_,λk h2=>?_,f910.trans (Fx.set h10 ((q1 id2).2 (.inr rfl)) _) (λ_ _ h=>h),.inr ⟨rfl,⟨W4,λk=>Iff.rfl,w42,?_,u2,low⟩,by rw[H.aT],by simp only[H.cJ];omega⟩⟩
    ·rcases h2 with h2|h2
     ·exact (q1 k).2 (.inl (u1 k (by omega) h2))
     ·exact (q1 k).2 (.inr h2)
    ·rcases h2 with h2|h2
     ·exact u2 k h2
     ·simp only[H.cJ];omega
    ·exact rd.kD _ _ _ hv (kk _)
 have old6: ∀k,k<h5.next->h6.get k=h5.get k:=λk hk=>f6.get k hk
 have gC6:GC (λk=>W' k∨k=id2) h6 (.agg [aC n,vO,vR]) n O R G:=gC.go F06 λk h1 h2=>by
  rcases h2 with h2|h2
  ·exact w1 k (by omega) h2
  ·omega
 refine (ih (i+1) (iV O R x i im) v20 id2 (h4.next+1+1) h4.next (h4.next+1) h6 (λk=>W' k∨k=id2) (InJ off id2 B id r J W') (InD id2 B r D W') (by omega) Y (by rw[old6 _ (by omega)];exact gi5) (by rw[old6 _ (by omega)];exact gc5) (by rw[old6 _ (by omega)];exact gx5)
  (((py4.mono f5).weak λk h1 h2=>(by rcases h2 with h2|h2;exact h2;omega)).mono f6) (by omega) (by omega) (by omega) (λh=>by rcases h with h|h;have:=w2 _ h;omega;omega) (λh=>by rcases h with h|h;have:=w2 _ h;omega;omega) (λh=>by rcases h with h|h;have:=w2 _ h;omega;omega) gC6 (λk h=>by rcases h with h|h;have:=w2 _ h;omega;omega)
  ⟨⟨W',λk=>Iff.rfl,w2',wB',rd.kJ _ _ _ _ hJ3 (Kept.fr f36),λk h=>by have:=w2 _ h;omega,λ_ _ h=>h⟩,gr6,by rw[old6 _ (by omega),f5.get _ (by omega),f4.get _ (by omega)];exact g43,by omega⟩ rdr).mono ?_
 rintro _ h7 ⟨W7,a1,a2,F7,j|j⟩
 ·obtain⟨W3,q1,q2,q3,q4,q5,q6⟩:=j.ex
  have nx:=j.nx;refine⟨r,j.gr,by rw[fG];simp,?_⟩;have en:r.pend.getD .norm= .norm:=by rw[hpd];rfl
  rw[en];simp(disch:=omega)only[go_sem];rw[iO m]
  have F27:Fx W h2 h7:=F3.trans ((Fx.of (W:=λk=>W' k∨k=id2) f36).trans F7 (λ_ _ h=>h)) λk h1 h2=>by
   rcases h2 with h2|h2
   ·exact w1 k h1 h2
   ·omega
  refine⟨cs.length-(m+1),by omega,m+1,W3,aA rfl,by omega,?_,⟨F27.next,λk h1 h2=>by rw[H.aH _ (by omega)];exact F27.get k h1 h2⟩,λk h1 h2=>w1 k h1 (q6 k (by omega) h2),q5,rfl⟩;rw[offs hm' 0,him,hoff]
  refine rd.kJ _ _ _ _ q4 ⟨eP _,λk h1 h2=>H.aH _ (λe=>by
   subst e;rcases h2 with h2|h2
   ·omega
   ·exact q2 h2) _⟩
 ·obtain⟨W3,q1,q2,q4,q5,q6⟩:=j.ex
  have nx:=j.nx;refine⟨_,j.gr,by simp [sF],?_⟩;have en:(sF r .ret).pend.getD .norm= .ret:=rfl;rw[en];simp(disch:=omega)only[go_sem]
  have F27:Fx W h h7:=F06.trans F7 λk h1 h2=>by
   rcases h2 with h2|h2
   ·exact w1 k (by omega) h2
   ·omega
  refine⟨W3,λk h1 h2=>w1 k (by omega) (q6 k (by omega) h2),q5,⟨F27.next,λk h1 h2=>by rw[H.aH _ (by omega)];exact F27.get k h1 h2⟩,.inr ?_⟩
  refine rd.kD _ _ _ q4 ⟨eP _,λk h1 h2=>H.aH _ (λe=>by
   subst e;rcases h2 with h2|h2
   ·omega
   ·exact q2 h2) _⟩
theorem el_all (n:Nat)(vO vR:V)(O:LN)(R:lU)(G:List Nat->Prop): ∀d,ElC n vO vR O R G d
 |0=>el_zero n vO vR O R G
 |d+1=>el_succ n vO vR O R G d (el_all n vO vR O R G d)
def OwnE (W M:Nat->Prop)(b:Nat)(hh:H)(w:V)(x:List Nat):Prop:= ∃id cap,w= .sl id 0 x.length cap/\W id/\ ¬M id/\b<=id/\id<hh.next/\hh.get id=cE (ints (zi x))
structure LsJ (h:H)(b0 A B id2:Nat)(r:eH)(l:LN)(W:Nat->Prop)(hh:H):Prop where
 ex: ∃va ws M,hh.get A=cE [va]/\Own hh va 1 ws (id2+1)/\All2 (OwnE W M (id2+1) hh) ws l/\BlkIn M va/\(∀id,M id->W id)/\(∀id,M id->id<hh.next)/\M A/\ ∀id off n c,va= .sl id off n c->id≠id2/\id≠A
 gr:hh.get id2=some (.loop r)
 wA:W A
 w2:W id2
 g1:hh.get (B+1)=cE [.aB]
 g2:hh.get (B+1+1)=cE [aC 0]
 nx:id2<hh.next
 nA:A<hh.next
 fr:Fr h hh
theorem LsJ.kept {h:H}{b0 b A B id2:Nat}{r:eH}{l:LN}{W:Nat->Prop}{hh h':H}(j:LsJ h b0 A B id2 r l W hh)(k:Kept b W hh h')(hb:B+1+1<b)(hn:h.next<=b)(hbn:b<=hh.next):LsJ h b0 A B id2 r l W h':=by
 obtain⟨va,ws,M,gA,ow,el,bl,mw,mn,mA,ne⟩:=j.ex
 refine⟨⟨va,ws,M,by rw[k.2 A j.nA (.inr j.wA)];exact gA,ow.mono k.1 λid off n c e _ h1=>k.2 id h1 (.inr (mw _ (bl _ _ _ _ e))),el.mono λw x ⟨id,cap,e,e1,e2,e3,e4,e5⟩=>⟨id,cap,e,e1,e2,e3,gE e4 k.1,by rw[k.2 id e4 (.inr e1)];exact e5⟩,bl,mw,λid h=>gE (mn id h) k.1,mA,ne⟩,
  by rw[k.2 _ j.nx (.inr j.w2)];exact j.gr,j.wA,j.w2,by rw[k.2 _ (by omega) (.inl (by omega))];exact j.g1,by rw[k.2 _ (by omega) (.inl (by omega))];exact j.g2,gE j.nx k.1,gE j.nA k.1,⟨Nat.le_trans j.fr.next k.1,λid hid=>by rw[k.2 id (gE hid j.fr.next) (.inl (by omega))];exact j.fr.get id hid⟩⟩
theorem szF_fact {W:Nat->Prop}{h:H}{vc:V}{n:Nat}{O:LN}{R:lU}{G:List Nat->Prop}(g:GC W h vc n O R G):Qv O n 0<=5040:=by
 have hl: ∀i,i<n->(O.getD i []).length<=n-i:=λi hi=>orb_len (λx hx=>g.grp.isP hx) hi (g.isc.asc i hi) (g.isc.mem i hi)
 have key: ∀d i,i+d=n->Qv O d i<= [1,1,2,6,24,120,720,5040].getD d 0:=by
  intro d
  induction d with
  |zero=>intro i _;simp [Qv]
  |succ d ih=>
   intro i hi;unfold Qv;have h1:=ih (i+1) (by omega);have h2:=hl i (by omega);have h3:(O.getD i []).length<=d+1:=by omega
   have n7:=g.n7;have h4:=Nat.mul_le_mul h3 h1;refine Nat.le_trans h4 ?_;have:d<=6:=by omega
   match d,this with
   |0,_=>decide
   |1,_=>decide
   |2,_=>decide
   |3,_=>decide
   |4,_=>decide
   |5,_=>decide
   |6,_=>decide
 have n7:=g.n7;refine Nat.le_trans (key n 0 (by omega)) ?_
 match n,n7 with
 |0,_=>decide
 |1,_=>decide
 |2,_=>decide
 |3,_=>decide
 |4,_=>decide
 |5,_=>decide
 |6,_=>decide
 |7,_=>decide
theorem list_ok {W0:Nat->Prop}(vc:V)(n:Nat)(O:LN)(R:lU)(G:List Nat->Prop)(h:H)(gc:GC W0 h vc n O R G):
  Ev T 68 [vc] h (λv h'=> ∃vl,v= .tup [vl,aC 0]/\NewL h h' vl (cU O R n 0 (aW n))):=by
 obtain⟨vO,vR,e,sO,sR⟩:=gc.ch
 subst e
 refine bP c_rank_List rfl rfl ?_
 have isc:=gc.isc
 have n0:=gc.n0
 have n7:=gc.n7
 have oneO:vO.one=true:=Xo sO
 have oneR:vR.one=true:=Xy sR
 have eO:dI vO vO=true:=by obtain⟨_,t,_⟩:=sO;exact t.dI
 have eR:dI vR vR=true:=by obtain⟨_,t,_⟩:=sR;exact t.dI
 obtain⟨L,hL⟩:=AS (cU O R n 0 (aW n))
 obtain⟨iel,ll⟩:=fQ gc.grp isc
 have ll5:=szF_fact gc
 rw[hL] at iel ll
 have LP: ∀k,k<L.length->aX n (L.getD k []):=λk hk=>gc.grp.isP ((iel.mem _).1 (getD_mem hk))
 obtain⟨B,hB⟩:=AS h.next
 obtain⟨h1,e1,n1,g1,o1,f1⟩:=fC hB [aC n,vO,vR]
 obtain⟨h2,e2,n2,g2,o2,f2⟩:=fC n1 [.aB]
 obtain⟨h3,e3,n3,g3,o3,f3⟩:=fC n2 [aC 0]
 have F3:=(f1.trans f2).trans f3
 have bx:=dQ h (v:= aC n) (u:=vO) (w:=vR) rfl oneO oneR
 have gB3:h3.get B=cE [aC n,vO,vR]:=by rw[o3 _ (by omega),o2 _ (by omega)];exact g1
 have rB3:=bU gB3
 simp(disch:=omega)only[go_sem,c_rank_List,aE,bx,hB,e1,n1,e2,n2,e3,rB3]
 refine ((gc.mono F3).check).mono ?_
 rintro _ h4 ⟨rfl,f4⟩
 have n4:=f4.next
 obtain⟨A,hA⟩:=AS h4.next
 obtain⟨h5,e5,n5,g5,o5,f5⟩:=fC hA [.aB]
 have gB5:h5.get B=cE [aC n,vO,vR]:=by rw[f5.get _ (by omega),f4.get _ (by omega)];exact gB3
 have g15:h5.get (B+1)=cE [.aB]:=by rw[f5.get _ (by omega),f4.get _ (by omega),o3 _ (by omega)];exact g2
 have g25:h5.get (B+1+1)=cE [aC 0]:=by rw[f5.get _ (by omega),f4.get _ (by omega)];exact g3
 have F5:=(F3.trans f4).trans f5
 have rB5:=bU gB5
 have rB5b:=bU (h:=H.mk h5.tr (h5.next+5)) gB5
 simp(disch:=omega)only[go_sem]
 refine bD (λhc=>(hc (by first|rfl|trivial)).elim) (λ_=>?_)
 simp(disch:=omega)only[go_sem,hA,e5,rB5,rB5b,H.aF gB5]
 refine (one_gen (rfl:T 99=some c_rank_one) n (H.mk h5.tr (h5.next+5)) (by omega)).mono ?_
 rintro v6 h6 nw
 have fb:Fr h5 (H.mk h5.tr (h5.next+5)):=(Fr.refl h5).bJ (by omega)
 have f6:=fb.trans nw.fr
 have n6:=f6.next
 have gB6:h6.get B=cE [aC n,vO,vR]:=by rw[f6.get _ (by omega)];exact gB5
 have fr6:=newp_frsh nw
 have ow6:=fr6.own
 simp(disch:=omega)only[go_sem,bU gB6,eO,eR]
 refine (rel_ok (n:Int) vO vR v6 0 oneO oneR ow6.sv.cW.1 ow6.sv.cW.2.1 h6).mono ?_
 rintro _ h7 ⟨rfl,gc7,gx7,gi7,n7',f7⟩
 simp(disch:=omega)only[go_sem]
 refine⟨rfl,pY λr hr=>?_⟩
 obtain⟨id2,hid⟩:=AS h7.next
 rw[hid]
 have fG:r.st= .ready:=by rw[hr]
 have hpd:r.pend=none:=by rw[hr]
 obtain⟨h8,h8e⟩: ∃h8,h8=h7.new (.loop r):=⟨_,rfl⟩
 have gr8:h8.get id2=some (.loop r):=by rw[h8e,←hid,H.aM]
 have n8:h8.next=id2+1:=by rw[h8e,H.aV,hid]
 have f8:Fr h7 h8:=by rw[h8e];exact (Fr.refl h7).new _
 have old8: ∀k,k<h7.next->h8.get k=h7.get k:=λk hk=>f8.get k hk
 rw[←h8e]
 have f58:=(f6.trans f7).trans f8
 have F8:=F5.trans f58
 have o58: ∀k,k<h5.next->h8.get k=h5.get k:=λk hk=>f58.get k hk
 have J0:LsJ h B A B id2 r (L.take 0) (λk=>k=A∨k=id2) h8:=
  ⟨⟨.aB, [],λk=>k=A,by rw[o58 _ (by omega)];exact g5,Own.aB _ _ _,trivial,λ_ _ _ _ e=>(by cases e),λk h=> .inl h,λk h=>by have:k=A:=h;omega,rfl,λ_ _ _ _ e=>(by cases e)⟩,gr8,.inl rfl,.inr rfl,by rw[o58 _ (by omega)];exact g15,by rw[o58 _ (by omega)];exact g25,by omega,by omega,F8⟩
 have wlt: ∀k,(k=A∨k=id2)->k<h8.next:=λk h=>by rcases h with h|h<;>omega
 have gC8:GC (λk=>k=A∨k=id2) h8 (.agg [aC n,vO,vR]) n O R G:=gc.go (Fx.of F8) λk h1 h2=>by rcases h2 with h2|h2<;>omega
 have p6:PV (λk=>k=A∨k=id2) h8 v6 (aW n):=by
  obtain⟨i5,c5,ev,a1,a2,a3,a4⟩:=fr6.ex;simp only at a1;rw[ev];exact⟨SV.all (by rw[aN,Nat.mul_one]) (by have:=(f7.trans f8).next;omega) (by rw[old8 _ (by have:=f7.next;omega),f7.get _ a2];exact a3) _,λh=>by have:i5=A∨i5=id2:=h;have:=f7.next;omega⟩
 refine (el_all n vO vR O R G n 0 (aW n) v6 id2 (h6.next+1+1) h6.next (h6.next+1) h8 (λk=>k=A∨k=id2) (λk W hh=>LsJ h B A B id2 r (L.take k) W hh) (λ_ _=>False) (by omega) (aX.one n)
  (by rw[old8 _ (by omega)];exact gi7) (by rw[old8 _ (by omega)];exact gc7) (by rw[old8 _ (by omega)];exact gx7) p6 (by omega) (by omega) (by omega) (λh=>by rcases h with h|h<;>omega) (λh=>by rcases h with h|h<;>omega) (λh=>by rcases h with h|h<;>omega) gC8 wlt J0 ?_).mono ?_
 ·rw[hL]
  refine⟨λk W hh h' j kp=>j.kept kp (by omega) (by have:=F8.next;omega) (by have:=j.nx;omega),λ_ _ _ h=>h.elim,λk W hh v hk j pv hWn hbn hW0=>?_⟩
  obtain⟨va,ws,M,gA,ow,el,bl,mw,mn,mA,ne⟩:=j.ex
  have nx:=j.nx
  have nA:=j.nA
  have hws:=All2.length el
  rw[xL,Nat.min_eq_left (by omega)] at hws
  refine mV j.gr (by rw[hr];rfl) fG λh9 g9 n9 o9=>?_
  rw[congrArg eH.assign hr,congrArg eH.vars hr,congrArg eH.pars hr]
  simp(disch:=omega)only[go_sem,List.zip_cons_cons,List.zip_nil_left]
  rw[congrArg eH.body hr]
  have gA9:h9.get A=cE [va]:=by rw[o9 _ (by omega)];exact gA
  have fx9:Fx W hh h9:=⟨by omega,λk _ h2=>o9 k λe=>h2 (e▸j.w2)⟩
  have pv9:=pv.fx fx9
  obtain⟨x,hx⟩:=AS (L.getD k [])
  rw[hx] at pv9
  have X:aX n x:=by rw[←hx];exact LP k hk
  have ow9:Own h9 va 1 ws (id2+1):=ow.mono (by omega) λid off m c e _ _=>o9 id (ne _ _ _ _ e).1
  have lva:=Own.lens ow9 hws
  have ova:=ow9.sv.dI
  have d5:decide ((k:Int)=5040)=false:=iG (by omega)
  have fb9:Fr h9 (H.mk h9.tr (h9.next+6)):=(Fr.refl h9).bJ (by omega)
  simp(disch:=omega)only[go_sem,H.aF gA9,lva,d5]
  refine (clone_ok v (zi x) (H.mk h9.tr (h9.next+6)) (by rw[aU,X.len];omega) (by rw[aU,X.len];omega) (pv9.mono fb9).si).mono ?_
  rintro v10 h10 fr10
  have f10:=fb9.trans fr10.fr
  obtain⟨i5,c5,ev,a1,a2,a3,a4⟩:=fr10.ex
  simp only at a1
  have gA10:h10.get A=cE [va]:=by rw[f10.get _ (by omega)];exact gA9
  have ow10:=fr10.own
  simp(disch:=omega)only[go_sem,H.aF gA10,ova,dC _ (z:= .aB) ow10.sv.cW.1 ow10.sv.cW.2.1]
  obtain⟨h11,h11e⟩: ∃h11:H,h11=H.mk ((H.mk h10.tr (h9.next+3)).new (Ob.cells false [v10])).tr h10.next:=⟨_,rfl⟩
  rw[←h11e]
  have g11:h11.get (h9.next+3)=cE [v10]:=by rw[h11e];exact H.aM (H.mk h10.tr (h9.next+3)) _
  have n11:h11.next=h10.next:=by rw[h11e]
  have o11: ∀k,k≠h9.next+3->h11.get k=h10.get k:=λk hk=>by rw[h11e];exact H.bG (H.mk h10.tr (h9.next+3)) (by simpa using hk) _
  have f11:Fr h9 h11:=⟨by have:=f10.next;omega,λk hk=>by rw[o11 k (by omega)];exact f10.get k hk⟩
  obtain⟨h12,a12,p12⟩:=(ow9.fr f11).push (bytes:=24) (SV.one (by have:=f10.next;have:=fr10.fr.next;simp only at this;omega) g11 (.kn 1)) (n:=k) (m:=1) (by omega) rfl (by omega) (by omega) (by omega)
  have n12:=p12.next
  have apA:dA va A:=λid off m c e e2=>(ne _ _ _ _ e).2 e2.symm
  have ap2:dA va id2:=λid off m c e e2=>(ne _ _ _ _ e).1 e2.symm
  have n10:=f10.next
  have gA12:h12.get A=cE [va]:=by rw[p12.old A (by omega) apA,f11.get A (by omega)];exact gA9
  have gr12:h12.get id2=some (.loop (lZ r)):=by rw[p12.old id2 (by omega) ap2,f11.get id2 (by omega)];exact g9
  have ptA: ∀(hh:H) (y:V),dV (cE [va]) hh A 0 [y]=some (hh.set A (cE [y])):=λhh y=>bE (by simp) hh _ _
  simp(disch:=omega)only[go_sem,a12,gA12,ptA]
  obtain⟨h13,h13e⟩: ∃h13,h13=(h12.set A (cE [.sl h11.next 0 (k+1) (.un 1)])).set id2 (some (.loop r)):=⟨_,rfl⟩
  have nA2:A≠id2:=by omega
  have o13: ∀q,q≠A->q≠id2->h13.get q=h12.get q:=λq h1 h2=>by rw[h13e,H.aH _ h2,H.aH _ h1]
  have n13:h13.next=h12.next:=by rw[h13e];rfl
  refine mU fG hpd (by rw[H.aH _ (Ne.symm nA2)];exact gr12) ?_
  rw[←h13e]
  have hnon: ∀q,q<hh.next-> ¬W q->h13.get q=hh.get q:=λq h1 h2=>by
   rw[o13 q (λe=>h2 (e▸j.wA)) (λe=>h2 (e▸j.w2)),p12.old q (by omega) (λid off m c e e2=>h2 (e2▸mw _ (bl _ _ _ _ e))),f11.get q (by omega),o9 q (λe=>h2 (e▸j.w2))]
  refine⟨λq=>W q∨q=h11.next∨q=i5,λq h1 h2=>by rcases h2 with h2|h2|h2;exact h2;omega;omega,λq h=>by rcases h with h|h|h;have:=hWn q h;omega;omega;omega,⟨by omega,hnon⟩,.inl ⟨rfl,?_⟩⟩
  refine⟨⟨.sl h11.next 0 (k+1) (.un 1),ws++ [v10],λq=>M q∨q=h11.next,by rw[h13e,H.aH _ nA2,H.aT],?_,?_,λid off m c e=>by cases e;exact .inr rfl,λq h=>by rcases h with h|h;exact .inl (mw q h);exact .inr (.inl h),λq h=>by rcases h with h|h;have:=mn q h;omega;omega,.inl mA,λid off m c e=>by cases e;exact⟨by omega,by omega⟩⟩,
   by rw[h13e,H.aT],.inl j.wA,.inl j.w2,?_,?_,by omega,by omega,?_⟩
  ·exact (p12.own (b:=id2+1) (by omega) rfl (by omega)).mono (by omega) λid off m c e h1 h2=>by cases e;exact o13 _ (by omega) (by omega)
  ·rw[take_getD [] hk,hx]
   have keepE: ∀(q:Nat) (o:Option Ob),q<hh.next-> ¬M q->q≠id2->h13.get q=hh.get q:=λq _ h1 h2 h3=>by
    rw[o13 q (λe=>h2 (e▸mA)) h3,p12.old q (by omega) (λid' off m c e e2=>h2 (e2▸bl _ _ _ _ e)),f11.get q (by omega),o9 q h3]
   have hne2: ∀q z,hh.get q=cE z->q≠id2:=λq z h e=>by rw[e,j.gr] at h;cases h
   refine (el.mono λw z ⟨id,cap,e,q1,q2,q3,q4,q5⟩=>⟨id,cap,e,.inl q1,(λh=>by rcases h with h|h;exact q2 h;omega),q3,(by omega),(by rw[keepE id none q4 q2 (hne2 _ _ q5)];exact q5)⟩).append ⟨⟨i5,c5,by rw[ev,aU],.inr (.inr rfl),λh=>by rcases h with h|h;have:=mn i5 h;omega;omega,by omega,by omega,?_⟩,trivial⟩
   rw[o13 i5 (by omega) (by omega),p12.old i5 (by omega) (λid' off m c e e2=>by have:=mn _ (bl _ _ _ _ e);omega),o11 i5 (by omega)]
   exact a3
  ·rw[o13 _ (by omega) (by omega),p12.old _ (by omega) (λid' off m c e e2=>by have:=(ow.in _ _ _ _ e).2.1;omega),f11.get _ (by omega),o9 _ (by omega)];exact j.g1
  ·rw[o13 _ (by omega) (by omega),p12.old _ (by omega) (λid' off m c e e2=>by have:=(ow.in _ _ _ _ e).2.1;omega),f11.get _ (by omega),o9 _ (by omega)];exact j.g2
  ·refine⟨by have:=j.fr.next;omega,λq hq=>?_⟩
   have:=j.fr.next
   rw[o13 q (by omega) (by omega),p12.old q (by omega) (λid' off m c e e2=>by have:=(ow.in _ _ _ _ e).2.1;omega),f11.get q (by omega),o9 q (by omega)]
   exact j.fr.get q hq
 ·rintro _ h9 ⟨W2,a1,a2,F9,j|hf⟩
  case inr=>exact hf.elim
  rw[hL,List.take_length] at j
  obtain⟨va,ws,M,gA,ow,el,bl,mw,mn,mA,ne⟩:=j.ex
  have nx:=j.nx
  have nA:=j.nA
  have pt: ∀(hh:H) (id:Nat) (u w:V),dV (cE [u]) hh id 0 [w]=some (hh.set id (cE [w])):=λhh id u w=>bE (by simp) hh _ _
  refine⟨r,j.gr,by rw[fG];simp,?_⟩
  have en:r.pend.getD .norm= .norm:=by rw[hpd];rfl
  rw[en]
  obtain⟨h10,h10e⟩: ∃h10,h10=h9.set id2 (some (.loop {r with st:= .out})):=⟨_,rfl⟩
  have o10: ∀q,q≠id2->h10.get q=h9.get q:=λq hq=>by rw[h10e,H.aH _ hq]
  have n10:h10.next=h9.next:=by rw[h10e];rfl
  have gA10:h10.get A=cE [va]:=by rw[o10 _ (by omega)];exact gA
  have g110:h10.get (B+1)=cE [.aB]:=by rw[o10 _ (by omega)];exact j.g1
  have g210:h10.get (B+1+1)=cE [aC 0]:=by rw[o10 _ (by omega)];exact j.g2
  rw[←h10e]
  simp(disch:=omega)only[go_sem,H.aF gA10,g110,g210,pt,gH ow.sv.cW.1 ow.sv.cW.2.1]
  obtain⟨h11,h11e⟩: ∃h11,h11=(h10.set (B+1) (cE [va])).set (B+1+1) (cE [aC 0]):=⟨_,rfl⟩
  rw[←h11e]
  have o11: ∀q,q≠B+1->q≠B+1+1->h11.get q=h10.get q:=λq h1 h2=>by rw[h11e,H.aH _ h2,H.aH _ h1]
  have n11:h11.next=h10.next:=by rw[h11e];rfl
  have hn:=j.fr.next
  refine⟨va,rfl,⟨ws,λq=>M q∨q<h.next,?_,?_,λid off n c e=> .inl (bl _ _ _ _ e),λq h=> .inr h⟩,⟨by omega,λq hq=>?_⟩⟩
  ·refine (ow.mono (by omega) λid off m c e h1 _=>?_).le (by omega)
   rw[o11 id (by omega) (by omega),o10 id (by omega)]
  ·rw[hL]
   refine All2.mono (R:=OwnE W2 M (id2+1) h9) (λw z hw=>?_) el
   obtain⟨id,cap,e,q1,q2,q3,q4,q5⟩:=hw
   rw[e]
   exact⟨SV.all (by rw[aN,aU,Nat.mul_one]) (by omega) (by rw[o11 id (by omega) (by omega),o10 id (by omega)];exact q5) _,λh=>by rcases h with h|h;exact q2 h;omega⟩
  ·rw[o11 q (by omega) (by omega),o10 q (by omega)]
   exact j.fr.get q hq
end Go.Proofs.YtapfcpkecmmagaaGreat
namespace Go.Pm
set_option maxRecDepth 100000
section
variable {i:Nat}
def it (a:List Nat):Nat->Nat->Nat
 |0,i=>i
 |t+1,i=>a.getD (it a t i) 0
section
variable {n:Nat} {a:List Nat}
theorem rL (A:aX n a){i:Nat}(hi:i<n): ∀t,it a t i<n
 |0=>hi
 |t+1=>A.dU (rL A hi t)
theorem mJ (a:List Nat)(s i:Nat): ∀t,it a (s+t) i=it a t (it a s i)
 |0=>rfl
 |t+1=>by
  show a.getD (it a (s+t) i) 0=a.getD (it a t (it a s i)) 0;rw[mJ a s i t]
theorem Hq (A:aX n a){i:Nat}(hi:i<n): ∀t,it a t i=(pw n a t).getD i 0
 |0=>(dM hi).symm
 |t+1=>by
  show a.getD (it a t i) 0=(aQ (pw n a t) a).getD i 0;rw[cH (by rw[(aY A t).len];exact hi),Hq A hi t]
theorem Gs (A:aX n a){i j:Nat}(hi:i<n)(hj:j<n): ∀t,it a t i=it a t j->i=j
 |0,h=>h
 |t+1,h=>Gs A hi hj t (A.inj (rL A hi t) (rL A hj t) h)
noncomputable def nU (a:List Nat)(i:Nat):Nat:=by
 classical exact if h: ∃t,0<t/\it a t i=i/\ ∀s,0<s->s<t->it a s i≠i then h.choose else 1
theorem Wd (A:aX n a)(hi:i<n): ∃t,0<t/\it a t i=i:=by
 obtain⟨k,h0,_,hk⟩:=Ai A;exact⟨k,h0,by rw[Hq A hi,hk,dM hi]⟩
theorem iZ (A:aX n a)(hi:i<n):0<nU a i/\it a (nU a i) i=i/\ ∀t,0<t->t<nU a i->it a t i≠i:=by
 classical
 have h: ∃t,0<t/\it a t i=i/\ ∀s,0<s->s<t->it a s i≠i:=by
  obtain⟨t,h0,h1⟩:=Wd A hi
  induction t using Nat.strongRecOn with
  |_ t ih=>
   by_cases h2: ∃s,0<s/\s<t/\it a s i=i
   ·obtain⟨s,a1,a2,a3⟩:=h2
    exact ih s a2 a1 a3
   ·exact⟨t,h0,h1,λs a1 a2 a3=>h2 ⟨s,a1,a2,a3⟩⟩
 have e:nU a i=h.choose:=by unfold nU;rw[dif_pos h]
 rw[e];exact h.choose_spec
theorem zN (A:aX n a){i:Nat}(hi:i<n): ∀k,it a (nU a i*k) i=i
 |0=>rfl
 |k+1=>by rw[Nat.mul_succ,mJ,zN A hi k,(iZ A hi).2.1]
theorem Ek (A:aX n a)(hi:i<n)(t:Nat):it a t i=it a (t%nU a i) i:=by
 have:=mJ a (nU a i*(t/nU a i)) i (t%nU a i);rw[Nat.div_add_mod,zN A hi] at this;exact this
theorem rF (A:aX n a)(hi:i<n)(t:Nat):it a t i=i↔nU a i∣t:=by
 obtain⟨h0,h1,h2⟩:=iZ A hi;constructor
 ·intro h
  rw[Ek A hi] at h;refine Nat.dvd_of_mod_eq_zero (Classical.byContradiction λhn=>h2 _ (by omega) (Nat.mod_lt _ h0) h)
 ·rintro⟨k,rfl⟩;exact zN A hi k
theorem Uk (A:aX n a)(hi:i<n){s t:Nat}(hs:s<nU a i)(ht:t<nU a i)(h:it a s i=it a t i):s=t:=by
 have key: ∀s t,s<=t->t<nU a i->it a s i=it a t i->s=t:=λs t fG ht h=>by
  have e:it a t i=it a s (it a (t-s) i):=by rw[←mJ];congr 1;omega
  rw[e] at h;have:=Gs A hi (rL A hi (t-s)) s h;have hd:=(rF A hi (t-s)).1 this.symm;have:=Nat.eq_zero_of_dvd_of_lt hd (by omega);omega
 rcases Nat.le_total s t with h1|h1
 ·exact key s t h1 ht h
 ·exact (key t s h1 hs h.symm).symm
noncomputable def Hd (a:List Nat)(i:Nat):List Nat:=(List.range (nU a i)).map λt=>it a t i
theorem pQ (a:List Nat)(i:Nat):(Hd a i).length=nU a i:=by simp [Hd]
theorem Rj (A:aX n a)(hi:i<n){j:Nat}:j∈Hd a i↔ ∃t,it a t i=j:=by
 unfold Hd;rw[List.mem_map];constructor
 ·rintro⟨t,_,h⟩;exact⟨t,h⟩
 ·rintro⟨t,h⟩;exact⟨t%nU a i,List.mem_range.2 (Nat.mod_lt _ (iZ A hi).1),by rw[←Ek A hi];exact h⟩
theorem Iu (A:aX n a)(hi:i<n):(Hd a i).Nodup:=by
 unfold Hd;rw[List.nodup_iff_pairwise_ne,List.pairwise_map,List.pairwise_iff_getElem];intro s t hs ht fG h;simp only[List.length_range] at hs ht;simp only[List.getElem_range] at h;have:=Uk A hi hs ht h;omega
theorem Dz (A:aX n a)(hi:i<n):nU a i<=n:=by
 rw[←pQ a i]
 have:=List.Nodup.length_le_of_subset (Iu A hi) (l₂:=List.range n) λj hj=>by
  obtain⟨t,rfl⟩:=(Rj A hi).1 hj;exact List.mem_range.2 (rL A hi t)
 simpa using this
theorem uM (A:aX n a)(hi:i<n)(t:Nat): ∃s,it a s (it a t i)=i:=by
 obtain⟨h0,_,_⟩:=iZ A hi;refine⟨nU a i*(t/nU a i+1)-t,?_⟩;rw[←mJ,show t+(nU a i*(t/nU a i+1)-t)=nU a i*(t/nU a i+1) from ?_,zN A hi];have:=Nat.div_add_mod t (nU a i);have:=Nat.mod_lt t h0;rw[Nat.mul_succ];omega
theorem Lk (A:aX n a)(hi:i<n)(t:Nat):nU a (it a t i)=nU a i:=by
 have hj:=rL A hi t
 have key: ∀k,it a k (it a t i)=it a t i↔it a k i=i:=λk=>by
  rw[←mJ,Nat.add_comm,mJ];exact⟨λh=>Gs A (rL A hi k) hi t h,λh=>by rw[h]⟩
 refine Nat.dvd_antisymm ?_ ?_
 ·rw[←rF A hj,key,rF A hi];exact Nat.dvd_refl _
 ·rw[←rF A hi,←key,rF A hj];exact Nat.dvd_refl _
def iX (a:List Nat)(n i:Nat):Prop:= ∀t,i<=it a t i
open Classical in
noncomputable def xJ (a:List Nat)(n:Nat):List Nat:=(List.range n).filter λi=>decide (iX a n i)
noncomputable def mL (a:List Nat)(n:Nat):oN:=(xJ a n).map (Hd a)
theorem Wt (A:aX n a)(hi:i<n): ∃j,j<n/\iX a n j/\ ∃t,it a t j=i:=by
 induction i using Nat.strongRecOn with
 |_ i ih=>
  by_cases h:iX a n i
  ·exact⟨i,hi,h,0,rfl⟩
  ·have: ∃t,it a t i<i:=Classical.byContradiction λhn=>h λt=>Nat.le_of_not_lt λh2=>hn ⟨t,h2⟩
   obtain⟨t,ht⟩:=this;obtain⟨j,h1,h2,s,h3⟩:=ih _ ht (rL A hi t);obtain⟨u,hu⟩:=uM A hi t;exact⟨j,h1,h2,s+u,by rw[mJ,h3,hu]⟩
theorem tA (A:aX n a)(hi:i<n):iX a n i↔ ∀j,j<i-> ∀t,it a t j≠i:=by
 constructor
 ·intro h j hj t e
  obtain⟨s,hs⟩:=uM A (show j<n by omega) t;rw[e] at hs;have:=h s;omega
 ·intro h t
  refine Nat.le_of_not_lt λh2=>?_
  obtain⟨s,hs⟩:=uM A hi t;exact h _ h2 s hs
def qT (l:List Nat):Nat:=l.foldl (λm c=>m/Nat.gcd m c*c) 1
theorem Nb (m c:Nat):m/Nat.gcd m c*c=Nat.lcm m c:=by
 unfold Nat.lcm;rw[Nat.mul_comm,←Nat.mul_div_assoc _ (Nat.gcd_dvd_left m c),Nat.mul_comm]
theorem Dr: ∀(l:List Nat) (m k:Nat),l.foldl (λm c=>m/Nat.gcd m c*c) m∣k↔m∣k/\ ∀c∈l,c∣k
 | [],m,k=>by simp
 |c::l,m,k=>by
  rw[List.foldl_cons,Dr l,Nb,Nat.lcm_dvd_iff];simp only[List.mem_cons,forall_eq_or_imp,and_assoc]
theorem rY (l:List Nat)(k:Nat):qT l∣k↔ ∀c∈l,c∣k:=by
 unfold qT;rw[Dr];simp
noncomputable def cM (a:List Nat)(n:Nat):Nat:=qT ((mL a n).map List.length)
theorem bL (A:aX n a)(k:Nat):cM a n∣k↔pw n a k=aW n:=by
 unfold cM;rw[rY];constructor
 ·intro h
  refine lW (by rw[(aY A k).len,eJ]) λi hi=>?_
  rw[(aY A k).len] at hi;rw[←Hq A hi,dM hi,rF A hi];obtain⟨j,hj,h1,t,ht⟩:=Wt A hi;have:=h (nU a j) (List.mem_map.2 ⟨Hd a j,List.mem_map.2 ⟨j,by unfold xJ;rw[List.mem_filter];exact⟨List.mem_range.2 hj,by simpa using h1⟩,rfl⟩,pQ a j⟩);rw[←Lk A hj t,ht] at this;exact this
 ·rintro h c hc
  obtain⟨l,hl,rfl⟩:=List.mem_map.1 hc;obtain⟨j,hj,rfl⟩:=List.mem_map.1 hl
  have hjn:j<n:=by
   unfold xJ at hj;exact List.mem_range.1 (List.mem_filter.1 hj).1
  rw[pQ,←rF A hjn,Hq A hjn,h,dM hjn]
theorem kA (A:aX n a):0<cM a n:=by
 obtain⟨k,h0,_,hk⟩:=Ai A;have:=(bL A k).2 hk;refine Nat.pos_of_ne_zero λe=>?_
 rw[e] at this;have:=Nat.eq_zero_of_zero_dvd this;omega
theorem Hi (A:aX n a):cM a n<=n^n:=by
 obtain⟨k,h0,h1,hk⟩:=Ai A;exact Nat.le_trans (Nat.le_of_dvd h0 ((bL A k).2 hk)) h1
theorem zO (A:aX n a)(k:Nat):pw n a k=pw n a (k%cM a n):=by
 have h:pw n a (cM a n*(k/cM a n))=aW n:=(bL A _).1 ⟨_,rfl⟩;have:=fZ A (cM a n*(k/cM a n)) (k%cM a n);rw[Nat.div_add_mod,h,bW (aY A _)] at this;exact this
end
end
end Go.Pm
namespace Go.Proofs.YtapfcpkecmmagaaGreat
open Go Go.Ay Go.Pm
set_option maxRecDepth 100000
section
variable {a:List Nat} {i n:Nat}
theorem gcd_ok {g:Nat}(hgt:T g=some c_perm_gcd)(a b:Nat)(h:H)(ha:a<1000000)(hb:b<1000000):Ev T g [aC a,aC b] h (λv h'=>v= aC (Nat.gcd a b:Nat)/\Fr h h'):=by
 refine tX hgt rfl ?_;simp(disch:=omega)only[go_sem,c_perm_gcd,aE];refine aJ (λk' vars hh=> ∃(x y:Nat),(∃g:Nat->V,vars= [aC x,aC y,g 2,g 3])/\x<1000000/\y<1000000/\Nat.gcd x y=Nat.gcd a b/\Fr h hh/\k'=y) b
  ⟨a,b,aA rfl,ha,hb,rfl,Fr.refl h,rfl⟩ ?_
 rintro k' vars hh ⟨x,y,⟨g,rfl⟩,hx,hy,hg,F,hk⟩;subst hk
 by_cases hlt:(0:Int)<(k':Int)
 ·have d1:=mF hlt
  have hz:(k':Int)≠0:=by omega
  have hm:(x:Int).tmod (k':Int)=((x%k':Nat):Int):=tmod_nat x k';have hml:=Nat.mod_lt x (show k'>0 by omega);simp(disch:=omega)only[go_sem,d1,hz,hm];exact⟨x%k',hml,k',x%k',aA rfl,hy,by omega,by rw[Nat.gcd_comm,←Nat.gcd_rec,Nat.gcd_comm];exact hg,F.bJ (by omega),rfl⟩
 ·have d1:=iG hlt
  obtain rfl:k'=0:=by omega
  simp(disch:=omega)only[go_sem,d1];rw[←hg,Nat.gcd_zero_right];exact⟨rfl,F⟩
open Classical in
noncomputable def snB (a:List Nat)(i s j:Nat):Bool:=decide ((∃i0,i0<i/\ ∃t,it a t i0=j)∨ ∃t,t<s/\it a t i=j)
theorem snB_iff {s j:Nat}:snB a i s j=true↔(∃i0,i0<i/\ ∃t,it a t i0=j)∨ ∃t,t<s/\it a t i=j:=by classical unfold snB;simp only[decide_eq_true_eq]
theorem snB_zero (a:List Nat)(j:Nat):snB a 0 0 j=false:=by
 rw[←Bool.not_eq_true,snB_iff];rintro (⟨i0,h,_⟩|⟨t,h,_⟩)<;>omega
theorem snB_step (a:List Nat)(i s j:Nat):snB a i (s+1) j=if j=it a s i then true else snB a i s j:=by
 by_cases e:j=it a s i
 ·rw[if_pos e,snB_iff];exact .inr ⟨s,by omega,e.symm⟩
 ·rw[if_neg e,Bool.eq_iff_iff,snB_iff,snB_iff]
  constructor
  ·rintro (h|⟨t,h1,h2⟩)
   ·exact .inl h
   ·exact .inr ⟨t,by have:t≠s:=λe2=>e (by rw[←e2];exact h2.symm);omega,h2⟩
  ·rintro (h|⟨t,h1,h2⟩)
   ·exact .inl h
   ·exact .inr ⟨t,by omega,h2⟩
theorem snB_next (A:aX n a)(hi:i<n)(j:Nat):snB a i (nU a i) j=snB a (i+1) 0 j:=by
 rw[Bool.eq_iff_iff,snB_iff,snB_iff];constructor
 ·rintro (⟨i0,h1,h2⟩|⟨t,h1,h2⟩)
  ·exact .inl ⟨i0,by omega,h2⟩
  ·exact .inl ⟨i,by omega,t,h2⟩
 ·rintro (⟨i0,h1,t,h2⟩|⟨t,h1,_⟩)
  ·by_cases e:i0=i
   ·subst e;exact .inr ⟨t%nU a i0,Nat.mod_lt _ (iZ A hi).1,by rw[←Ek A hi];exact h2⟩
   ·exact .inl ⟨i0,by omega,t,h2⟩
  ·omega
theorem snB_skip (A:aX n a)(hi:i<n)(h: ¬iX a n i)(j:Nat):snB a i 0 j=snB a (i+1) 0 j:=by
 have h2: ∃j0,j0<i/\ ∃t,it a t j0=i:=xG λhn=>h ((tA A hi).2 λj0 hj t e=>hn ⟨j0,hj,t,e⟩)
 obtain⟨j0,h3,t0,h4⟩:=h2;rw[Bool.eq_iff_iff,snB_iff,snB_iff];constructor
 ·rintro (⟨i0,h1,h2⟩|⟨t,h1,_⟩)
  ·exact .inl ⟨i0,by omega,h2⟩
  ·omega
 ·rintro (⟨i0,h1,t,h2⟩|⟨t,h1,_⟩)
  ·by_cases e:i0=i
   ·subst e;exact .inl ⟨j0,h3,t0+t,by rw[mJ,h4];exact h2⟩
   ·exact .inl ⟨i0,by omega,t,h2⟩
  ·omega
theorem snB_new (A:aX n a){s:Nat}(hi:i<n)(hf:iX a n i)(hs:s<=nU a i):(snB a i s (it a s i)=false↔s<nU a i):=by
 obtain⟨h0,h1,h2⟩:=iZ A hi;constructor
 ·intro h
  refine xG λhn=>?_
  have e:s=nU a i:=by omega
  subst e;rw[h1] at h;have:snB a i (nU a i) i=true:=snB_iff.2 (.inr ⟨0,h0,rfl⟩);rw[h] at this;cases this
 ·intro h
  rw[←Bool.not_eq_true,snB_iff];rintro (⟨i0,h3,t,h4⟩|⟨t,h3,h4⟩)
  ·obtain⟨u,hu⟩:=uM A hi s
   have:=(tA A hi).1 hf i0 h3 (t+u);rw[mJ,h4,hu] at this;exact this rfl
  ·have:=Uk A hi (show t<nU a i by omega) h h4
   omega
theorem snB_old (A:aX n a)(hi:i<n)(hf: ¬iX a n i):snB a i 0 i=true:=by
 have h2: ∃j0,j0<i/\ ∃t,it a t j0=i:=xG λhn=>hf ((tA A hi).2 λj0 hj t e=>hn ⟨j0,hj,t,e⟩)
 exact snB_iff.2 (.inl h2)
theorem fsts_take (hi:i<=n):((xJ a n).filter λj=>decide (j<i))=(open Classical in (List.range i).filter λj=>decide (iX a n j)):=by
 classical
 unfold xJ;have:List.range n=List.range i++(List.range (n-i)).map (i+ ·):=by rw[←List.range_add];congr 1;omega
 rw[this,List.filter_append,List.filter_append]
 have e2:(((List.range (n-i)).map (i+ ·)).filter λj=>decide (iX a n j)).filter (λj=>decide (j<i))= []:=by
  rw[List.filter_eq_nil_iff];intro x hx;obtain⟨y,_,rfl⟩:=jH.1 (jY.1 hx).1;simp
 rw[e2,List.append_nil];rw[List.filter_eq_self];intro x hx;simpa using rH.1 (jY.1 hx).1
noncomputable def cyB (a:List Nat)(n i:Nat):LN:=((xJ a n).filter λj=>decide (j<i)).map (Hd a)
theorem cyB_all (a:List Nat)(n:Nat):cyB a n n=mL a n:=by
 classical
 unfold cyB mL;congr 1;rw[List.filter_eq_self];intro x hx;unfold xJ at hx;simpa using rH.1 (jY.1 hx).1
theorem cyB_succ (hi:i<n):(iX a n i->cyB a n (i+1)=cyB a n i++ [Hd a i])/\(¬iX a n i->cyB a n (i+1)=cyB a n i):=by
 classical
 unfold cyB;rw[fsts_take (show i+1<=n by omega),fsts_take (show i<=n by omega),List.range_succ,List.filter_append];constructor
 ·intro h
  rw[show ([i]:List Nat).filter (λj=>decide (iX a n j))= [i] by simp [h],List.map_append];rfl
 ·intro h
  rw[show ([i]:List Nat).filter (λj=>decide (iX a n j))= [] by simp [h],List.append_nil]
theorem cyB_pre: ∀i,i<=n->cyB a n i<+:mL a n:=by
 intro i hi
 obtain⟨d,hd⟩: ∃d,i+d=n:=⟨n-i,by omega⟩
 induction d generalizing i with
 |zero=>
      have:i=n:=by omega
      subst this;rw[cyB_all];exact List.prefix_rfl
 |succ d ih=>
  have h1:=ih (i+1) (by omega) (by omega)
  by_cases hf:iX a n i
  ·rw[(cyB_succ (by omega)).1 hf] at h1
   exact (List.prefix_append _ _).trans h1
  ·rw[(cyB_succ (by omega)).2 hf] at h1
   exact h1
theorem cyB_zero (a:List Nat)(n:Nat):cyB a n 0= []:=by
 unfold cyB;rw[show (xJ a n).filter (λj=>decide (j<0))= [] by rw[List.filter_eq_nil_iff];intro x _;simp];rfl
theorem pre_getD {α:Type}{l m:List α}(h:l<+:m)(hi:i<l.length)(d:α):m.getD i d=l.getD i d:=by
 obtain⟨t,rfl⟩:=h;rw[List.getD,wY hi];rfl
theorem cycles1_ok (id b:Nat)(va:V)(n:Nat)(a:List Nat)(h:H)(hn1:1<=n)(hn:n<=64)(A:aX n a)(b0:Nat)(hb0:b0<=h.next)(hbb:b<b0)(hb:h.get b=some (.cells false [va]))(hbn:b<h.next)(hv:SI h va (zi a))(J:Nat->H->Prop)(h0:J 0 h)
  (kJ: ∀k hh h',J k hh->hh.next<=h'.next->(∀q,q<b0->h'.get q=hh.get q)->J k h') (jb: ∀k hh,J k hh->hh.get b=some (.cells false [va])/\SI hh va (zi a))
  (hy: ∀k hh v,k<(mL a n).length->J k hh->SI hh v (zi ((mL a n).getD k []))->b0<=hh.next->Ey T id [v] hh (λv h'=>v= .bool true/\J (k+1) h'/\Fx (λq=>q<b0) hh h')):
  Ev T 121 [.yl id,.ptr b 0] h (λ_ h'=>J (mL a n).length h'):=by
 refine bP c_perm_cycles_1 rfl rfl ?_
 obtain⟨S,hS⟩:=AS h.next
 obtain⟨h1,e1,n1,g1,o1,f1⟩:=fC hS (rc 64 λ_=>V.bool false)
 have cb1:=H.aF (h:=h1) (id:=b) (by rw[o1 _ (by omega)];exact hb)
 have lva:=hv.lens
 rw[aU,A.len] at lva
 simp(disch:=omega)only[go_sem,c_perm_cycles_1,aE,bools64,hS,e1,cb1,lva]
 have hs0:h1.get S=some (.cells false (rc 64 λj=> .bool (snB a 0 0 j))):=by
  rw[g1,show (λj=>V.bool (snB a 0 0 j))=λ_=>V.bool false from funext λj=>by rw[snB_zero]]
 refine aJ (λk' vars hh=> ∃(i:Nat),(∃g:Nat->V,vars= [.yl id,.ptr b 0,.ptr S 0,g 3,g 4,g 5,aC n,aC i,g 8,g 9,g 10])/\i<=n/\J (cyB a n i).length hh/\hh.get S=some (.cells false (rc 64 λj=> .bool (snB a i 0 j)))/\S<hh.next/\k'=n-i) n
  ⟨0,aA rfl,gK _,by rw[cyB_zero];exact kJ _ _ _ h0 f1.next (λq hq=>o1 q (by omega)),hs0,by omega,rfl⟩ ?_
 rintro k' vars h2 ⟨i,⟨g,rfl⟩,hi,hJ,gS,nS,rfl⟩
 by_cases hlt:(i:Int)<(n:Int)
 case neg=>
  have d1:=iG hlt;obtain rfl:i=n:=by omega
  simp(disch:=omega)only[go_sem,d1];rw[cyB_all] at hJ;exact hJ
 have d1:=mF hlt
 have hi':i<n:=by omega
 simp(disch:=omega)only[go_sem,d1]
 obtain⟨p0,p1,p2⟩:=iZ A hi'
 have hpn:=Dz A hi'
 refine cF (λvs hh=> ∃(vc:V) (c:List Nat),(∃g:Nat->V,vs= [.yl id,.ptr b 0,.ptr S 0,g 3,vc,g 5,aC n,aC i,g 8,g 9,g 10])/\Own hh vc 1 (ints (zi c)) (S+1)/\(iX a n i/\c=Hd a i∨ ¬iX a n i/\c= [])/\
   J (cyB a n i).length hh/\hh.get S=some (.cells false (rc 64 λj=> .bool (snB a (i+1) 0 j)))/\S<hh.next) ?_ ?_
 ·refine aJ (λk' vs hh=> ∃(s:Nat) (vc:V),(∃g:Nat->V,vs= [.yl id,.ptr b 0,.ptr S 0,g 3,vc,aC (it a s i:Nat),aC n,aC i,g 8,g 9,g 10])/\s<=nU a i/\(0<s->iX a n i)/\Own hh vc 1 (ints (zi ((List.range s).map λt=>it a t i))) (S+1)/\
    J (cyB a n i).length hh/\hh.get S=some (.cells false (rc 64 λj=> .bool (snB a i s j)))/\S<hh.next/\k'=nU a i-s) (nU a i)
   ⟨0,.aB,aA rfl,gK _,λh=>by omega,Own.aB _ _ _,hJ,gS,nS,rfl⟩ ?_
  clear hJ gS nS
  rintro k' vars h3 ⟨s,vc,⟨g,rfl⟩,hs,hf,ow,hJ,gS,nS,rfl⟩
  have hp:=rL A hi' s
  have cS:=pW gS (i:=it a s i) (by omega)
  cases hsn:snB a i s (it a s i) with
  |true=>
   rw[hsn] at cS;simp(disch:=omega)only[go_sem,cS]
   by_cases hfi:iX a n i
   ·have e:s=nU a i:=xG λhne=>by
     have:=(snB_new A hi' hfi hs).2 (by omega);rw[hsn] at this;cases this
    refine⟨vc,Hd a i,aA rfl,by rw[e] at ow;exact ow,.inl ⟨hfi,rfl⟩,hJ,?_,nS⟩;rw[gS,e];congr 2;exact bH λj _=>by rw[snB_next A hi']
   ·have e:s=0:=xG λhne=>hfi (hf (by omega))
    subst e;refine⟨vc, [],aA rfl,ow,.inr ⟨hfi,rfl⟩,hJ,?_,nS⟩;rw[gS];congr 2;exact bH λj _=>by rw[snB_skip A hi' hfi]
  |false=>
   rw[hsn] at cS
   have hfi:iX a n i:=xG λhfi=>by
    have e:s=0:=xG λhne=>hfi (hf (by omega))
    subst e;have:=snB_old A hi' hfi;have h2:snB a i 0 i=false:=hsn;rw[h2] at this;cases this
   have hlt2:=(snB_new A hi' hfi hs).1 hsn;have pt:=bE (vs:=rc 64 λj=> .bool (snB a i s j)) (off:=it a s i) (by rw[cV];omega);obtain⟨h4,e4,n4,g4,o4⟩:=uB h3 S ((rc 64 λj=> .bool (snB a i s j)).set (it a s i) (.bool true));obtain⟨h5,e5,n5,g5,o5,f5⟩:=fC (h:=h4) (ID:=h3.next) n4 [aC (it a s i:Nat)];have ow5:Own h5 vc 1 (ints (zi ((List.range s).map λt=>it a t i))) (S+1):=ow.mono (by omega) λk off m c e h1 h2=>by rw[o5 k (by omega),o4 k (by omega)]
   obtain⟨h6,a6,p6⟩:=ow5.push (bytes:=8) (SV.one (v:= aC (it a s i:Nat)) (id:=h3.next) (by omega) g5 (.kn 1)) (n:=s) (m:=1) (by rw[aN,aU];simp) rfl (by omega) (by omega) (by omega);have n6:=p6.next;have ap: ∀q,q<=S->dA vc q:=λq hq k off m c e e2=>by have:=(ow.in _ _ _ _ e).2.1;omega
   have o6: ∀q,q<b0->h6.get q=h3.get q:=λq hq=>by rw[p6.old q (by omega) (ap q (by omega)),o5 q (by omega),o4 q (by omega)]
   have J6:=kJ _ _ h6 hJ (by omega) o6;obtain⟨jb1,jb2⟩:=jb _ _ J6;obtain⟨idx,offx,shx,hidx,hcx⟩:=jb2.open;rw[aU,A.len] at shx hidx hcx
   have cx:h6.cell idx (offx+it a s i)=some (aC (it a (s+1) i:Nat)):=by
    rw[hcx _ hp];congr 2;rw[zi,gd_map _ (d:=0) (by rw[A.len];exact hp)];rfl
   simp(disch:=omega)only[go_sem,cS,gS,pt,e4,dC h4 (z:= aC 0) (v:= aC (it a s i:Nat)) rfl rfl,n4,e5,a6,H.aF jb1,shx.ixa,cx]
   have gS6:h6.get S=some (.cells false (rc 64 λj=> .bool (snB a i (s+1) j))):=by
    rw[p6.old S (by omega) (ap S (eP _)),o5 S (by omega),g4,eY];congr 2
    exact bH λj _=>by
     rw[snB_step]
     by_cases e:j=it a s i
     ·rw[if_pos e,if_pos e]
     ·rw[if_neg e,if_neg e]
   have el:ints (zi ((List.range (s+1)).map λt=>it a t i))=ints (zi ((List.range s).map λt=>it a t i))++ [aC (it a s i:Nat)]:=by
    rw[List.range_succ,List.map_append];simp [zi,ints]
   refine⟨nU a i-(s+1),by omega,s+1,_,aA rfl,by omega,λ_=>hfi,by rw[el];exact p6.own (by rw[aN,aU];simp) rfl (by omega),J6,gS6,by omega,rfl⟩
 clear hJ gS nS
 rintro vars h3 ⟨vc,c,⟨g,rfl⟩,ow,hc,hJ,gS,nS⟩
 have lvc:=Own.lens ow (n:=c.length) (by rw[aN,aU])
 rcases hc with ⟨hfi,rfl⟩|⟨hfi,rfl⟩
 ·have d2:decide ((0:Int)<((Hd a i).length:Int))=true:=decide_eq_true (by rw[pQ];omega)
  have hpre:=cyB_pre (a:=a) (n:=n) (i+1) (by omega)
  have hsu:=(cyB_succ hi').1 hfi
  rw[hsu] at hpre
  have hg:(mL a n).getD (cyB a n i).length []=Hd a i:=by rw[pre_getD hpre (by simp)];exact getD_app_new
  have hlen:=hpre.length_le
  rw[jD] at hlen
  simp(disch:=omega)only[go_sem,lvc,d2]
  refine (hy _ h3 vc (by simp at hlen;omega) hJ (by rw[hg];exact ow.sv) (by omega)).mono ?_
  rintro _ h4 ⟨rfl,J4,f4⟩
  simp(disch:=omega)only[go_sem]
  rw[iO i]
  refine⟨n-(i+1),by omega,i+1,aA rfl,by omega,by rw[hsu,jD];exact J4,by rw[f4.get S nS (λh=>by have:S<b0:=h;omega)];exact gS,gE nS f4.next,rfl⟩
 ·have d2:decide ((0:Int)<((0:Nat):Int))=false:=rfl
  simp(disch:=omega)only[go_sem,lvc,d2]
  rw[iO i]
  exact⟨n-(i+1),by omega,i+1,aA rfl,by omega,by rw[(cyB_succ hi').2 hfi];exact hJ,gS,nS,rfl⟩
end
theorem first_ok (u:V)(ws:List V)(n:Nat)(h:H)(hn1:1<=n)(hn:n<=64)(hl:ws.length<1000000)(hu:SV h u 1 ws)(hv: ∀i,i<ws.length-> ∃a,aX n a/\SI h (ws.getD i .undef) (zi a)):Ev T 78 [u] h (λv h'=>v= aC 0/\Fr h h'):=by
 refine bP c_perm_first rfl rfl ?_;have lu:dB u=some (aC (ws.length:Int)):=by unfold dB;rw[SV.len hu (n:=ws.length) (by omega) (by omega)];rfl
 obtain⟨id,off,sh,hid,hc0⟩:=SV.shape hu ws.length (by omega) (by omega);have hc: ∀i:Nat,i<ws.length->h.cell id (off+i)=some (ws.getD i .undef):=λi hi=>by rw[hc0 i (by omega)];simp [List.getD,hi]
 simp(disch:=omega)only[go_sem,c_perm_first,aE,lu];refine cF (λvs hh=>(∃g:Nat->V,vs= [u,aC 0,g 2,g 3,g 4,g 5,g 6,g 7,g 8,g 9,g 10,g 11,g 12,g 13,g 14])/\Fr h hh) ?_ ?_
 ·refine aJ (λk' vs hh=> ∃(i:Nat),(∃g:Nat->V,vs= [u,aC 0,g 2,g 3,g 4,u,aC (ws.length:Int),aC i,g 8,g 9,g 10,g 11,g 12,g 13,g 14])/\i<=ws.length/\Fr h hh/\k'=ws.length-i) ws.length
   ⟨0,aA rfl,gK _,Fr.refl h,rfl⟩ ?_
  rintro k' vars h2 ⟨i,⟨g,rfl⟩,hi,f,rfl⟩
  by_cases hlt:(i:Int)<(ws.length:Int)
  ·have d4:=mF hlt
   have hi':i<ws.length:=by omega
   have ci:h2.cell id (off+i)=some (ws.getD i .undef):=by rw[f.cell (hid (by omega)),hc i (by omega)]
   obtain⟨a,X,s0⟩:=hv i hi';generalize ws.getD i .undef=vx at ci s0;simp(disch:=omega)only[go_sem,d4,sh.ixa,ci];refine (perm_Check_ok vx _ h2 (by rw[aU,X.len];omega) (s0.mono f)).mono ?_;rw[pck_zi X (by omega) (by omega)];rintro _ h3 ⟨rfl,f3⟩;simp(disch:=omega)only[go_sem];refine bD (λhc=>(hc rfl).elim) (λ_=>?_);simp(disch:=omega)only[go_sem];rw[iO i];exact⟨ws.length-(i+1),by omega,i+1,aA rfl,by omega,f.trans f3,rfl⟩
  ·have d4:=iG hlt
   simp(disch:=omega)only[go_sem,d4];exact⟨aA rfl,f⟩
 rintro vars h2 ⟨⟨g,rfl⟩,f⟩;simp(disch:=omega)only[go_sem,lu];refine cF (λvs hh=>(∃g:Nat->V,vs= [u,aC 0,g 2,g 3,g 4,g 5,g 6,g 7,g 8,g 9,g 10,g 11,g 12,g 13,g 14])/\Fr h hh) ?_ ?_
 ·refine aJ (λk' vs hh=> ∃(i:Nat),(∃g:Nat->V,vs= [u,aC 0,g 2,g 3,g 4,g 5,g 6,g 7,g 8,g 9,u,aC (ws.length:Int),aC i,g 13,g 14])/\i<=ws.length/\Fr h hh/\k'=ws.length-i) ws.length
   ⟨0,aA rfl,gK _,f,rfl⟩ ?_
  clear f;rintro k' vars h2 ⟨i,⟨g,rfl⟩,hi,f,rfl⟩
  by_cases hlt:(i:Int)<(ws.length:Int)
  ·have d4:=mF hlt
   have hi':i<ws.length:=by omega
   have ci:h2.cell id (off+i)=some (ws.getD i .undef):=by rw[f.cell (hid (by omega)),hc i (by omega)]
   have c0:h2.cell id (off+0)=some (ws.getD 0 .undef):=by rw[f.cell (hid (by omega)),hc 0 (by omega)]
   obtain⟨a,X,s0⟩:=hv i hi';obtain⟨a',X',s0'⟩:=hv 0 (by omega);generalize ws.getD i .undef=vx at ci s0;generalize ws.getD 0 .undef=vy at c0 s0';have lx:=s0.lens;have ly:=s0'.lens;rw[aU,X.len] at lx;rw[aU,X'.len] at ly;have ix0':Cr 1 u (aC 0)=some (.ptr id (off+0)):=sh.ixa .i64 0 (by omega) (by omega);rw[Nat.add_zero] at ix0' c0;simp(disch:=omega)only[go_sem,d4,sh.ixa,ci,ix0',c0,lx,ly];refine bD (λhc=>(hc rfl).elim) (λ_=>?_);simp(disch:=omega)only[go_sem];rw[iO i];exact⟨ws.length-(i+1),by omega,i+1,aA rfl,by omega,f,rfl⟩
  ·have d4:=iG hlt
   simp(disch:=omega)only[go_sem,d4];exact⟨aA rfl,f⟩
 rintro vars h3 ⟨⟨g,rfl⟩,f⟩;simp(disch:=omega)only[go_sem];exact f
theorem lcm_take_dvd (l:List Nat)(k:Nat):qT (l.take k)∣qT l:=(rY _ _).2 λc hc=>(rY l _).1 (Nat.dvd_refl _) c (List.mem_of_mem_take hc)
theorem lcm_take_succ (l:List Nat)(k:Nat)(hk:k<l.length):qT (l.take (k+1))=qT (l.take k)/Nat.gcd (qT (l.take k)) (l.getD k 0)*l.getD k 0:=by
 unfold qT;rw[take_getD 0 hk,List.foldl_append];rfl
theorem pow_small {n:Nat}(hn:n<=7):n^n<=823543:=by
 have: ∀m,m<8->m^m<=823543:=by decide
 exact this n (by omega)
structure OrJ (h:H)(A b id2:Nat)(va:V)(a:List Nat)(r:eH)(m:Nat)(hh:H):Prop where
 gr:hh.get id2=some (.loop r)
 gA:hh.get A=cE [aC m]
 gb:hh.get b=cE [va]
 si:SI hh va (zi a)
 nx:id2<hh.next
 fr:Fr h hh
theorem cycles_ok (va:V)(h:H)(hc:va.cells= [va])(on:va.one=true):Ev T 101 [va] h (λv h'=> ∃b,v= .fn 121 [] [.ptr b 0]/\b=h.next/\h'.get b=cE [va]/\h'.next=h.next+1/\Fr h h'):=by
 refine bP c_perm_cycles rfl rfl ?_;obtain⟨h1,e1,n1,g1,o1,f1⟩:=fC (h:=h) rfl [va];simp(disch:=omega)only[go_sem,c_perm_cycles,aE,iW hc on h,e1];exact⟨h.next,rfl,rfl,g1,n1,f1⟩
theorem order_ok (va:V)(n:Nat)(a:List Nat)(h:H)(hn1:1<=n)(hn:n<=7)(A:aX n a)(hv:SI h va (zi a)):
  Ev T 69 [va] h (λv h'=>v= .tup [aC (cM a n:Nat),aC 0]/\Fr h h'):=by
 refine bP c_perm_Order rfl rfl ?_
 obtain⟨S,hS⟩:=AS h.next
 obtain⟨h1,e1,n1,g1,o1,f1⟩:=fC hS [va]
 have on:=(SV.cW hv).2.1
 simp(disch:=omega)only[go_sem,c_perm_Order,aE,dC h (z:= .aB) (v:=va) (SV.cW hv).1 on,hS,e1]
 have hv1: ∀i,i< [va].length-> ∃a,aX n a/\SI h1 ([va].getD i .undef) (zi a):=λi hi=>by
  obtain rfl:i=0:=by simp at hi;omega
  exact⟨a,A,hv.mono f1⟩
 refine (first_ok (.sl S 0 1 (.kn 1)) [va] n h1 hn1 (by omega) (by simp) (SV.one (by omega) g1 _) hv1).mono ?_
 rintro _ h2 ⟨rfl,f2⟩
 simp(disch:=omega)only[go_sem]
 refine bD (λhc=>(hc rfl).elim) (λ_=>?_)
 obtain⟨B,hB⟩:=AS h2.next
 obtain⟨h3,e3,n3,g3,o3,f3⟩:=fC hB [aC 0]
 obtain⟨h4,e4,n4,g4,o4⟩:=uB h3 B [aC 1]
 have pt3: ∀(hh:H) (y:V),dV (cE [aC 0]) hh B 0 [y]=some (hh.set B (cE [y])):=λhh y=>bE (by simp) hh _ _
 simp(disch:=omega)only[go_sem,hB,e3,g3,pt3,e4]
 refine (cycles_ok va h4 (SV.cW hv).1 on).mono ?_
 rintro _ h5 ⟨b,rfl,hb,g5,n5,f5⟩
 simp(disch:=omega)only[go_sem]
 refine⟨rfl,pY λr hr=>?_⟩
 obtain⟨id2,hid⟩:=AS h5.next
 rw[hid]
 have fG:r.st= .ready:=by rw[hr]
 have hpd:r.pend=none:=by rw[hr]
 obtain⟨h6,h6e⟩: ∃h6,h6=h5.new (.loop r):=⟨_,rfl⟩
 have gr6:h6.get id2=some (.loop r):=by rw[h6e,←hid,H.aM]
 have n6:h6.next=id2+1:=by rw[h6e,H.aV,hid]
 have f6:Fr h5 h6:=by rw[h6e];exact (Fr.refl h5).new _
 rw[←h6e]
 have F2:=f1.trans f2
 have F3:=F2.trans f3
 have hs:=F2.next
 have F4:Fr h h4:=⟨by rw[n4];exact F3.next,λq hq=>by rw[o4 q (by omega)];exact F3.get q hq⟩
 have F6:=(F4.trans f5).trans f6
 have hid2:id2=b+1:=by omega
 have gB6:h6.get B=cE [aC 1]:=by rw[f6.get _ (by omega),f5.get _ (by omega)];exact g4
 have gb6:h6.get b=cE [va]:=by rw[f6.get _ (by omega)];exact g5
 have J0:OrJ h B b id2 va a r (qT (((mL a n).map List.length).take 0)) h6:=⟨gr6,gB6,gb6,hv.mono F6,by omega,F6⟩
 refine (cycles1_ok id2 b va n a h6 hn1 (by omega) A (id2+1) (by omega) (by omega) gb6 (by omega) (hv.mono F6) (λk hh=>OrJ h B b id2 va a r (qT (((mL a n).map List.length).take k)) hh) J0
  (λk hh h' j hx hq=>⟨by rw[hq _ (by omega)];exact j.gr,by rw[hq _ (by omega)];exact j.gA,by rw[hq _ (by omega)];exact j.gb,hv.mono ⟨Nat.le_trans j.fr.next hx,λq hq2=>by rw[hq _ (by omega)];exact j.fr.get q hq2⟩,gE j.nx hx,⟨Nat.le_trans j.fr.next hx,λq hq2=>by rw[hq _ (by omega)];exact j.fr.get q hq2⟩⟩)
  (λk hh j=>⟨j.gb,j.si⟩) ?_).mono ?_
 ·intro k hh v hk j hsi hb0
  obtain⟨m,hm⟩:=AS (qT (((mL a n).map List.length).take k))
  obtain⟨c,hcc⟩:=AS ((mL a n).getD k [])
  have hlen:((mL a n).map List.length).getD k 0=c.length:=by rw[gd_map _ (d:= []) hk,hcc]
  have hk2:k<((mL a n).map List.length).length:=by rw[jS];exact hk
  have hs1:=lcm_take_succ ((mL a n).map List.length) k hk2
  rw[hm,hlen] at hs1
  have hp:=kA A
  have ole:=Nat.le_trans (Hi A) (pow_small hn)
  have hm1:m<=823543:=Nat.le_trans (by rw[←hm];exact Nat.le_of_dvd hp (lcm_take_dvd _ k)) ole
  have hm2:qT (((mL a n).map List.length).take (k+1))<=823543:=Nat.le_trans (Nat.le_of_dvd hp (lcm_take_dvd _ (k+1))) ole
  have hc0:1<=c.length/\c.length<=7:=by
   have:=getD_mem (l:=mL a n) (d:= []) hk;rw[hcc] at this;obtain⟨i,hi,rfl⟩:=jH.1 this;have hin:i<n:=by unfold xJ at hi;exact rH.1 (jY.1 hi).1
   rw[pQ];have:=(iZ A hin).1;have:=Dz A hin;omega
  rw[hcc] at hsi
  have lv:=hsi.lens
  rw[aU] at lv
  rw[hm] at j
  refine mV j.gr (by rw[hr];rfl) fG λh9 g9 n9 o9=>?_
  rw[congrArg eH.assign hr,congrArg eH.vars hr,congrArg eH.pars hr]
  simp(disch:=omega)only[go_sem,List.zip_cons_cons,List.zip_nil_left]
  rw[congrArg eH.body hr]
  have nx:=j.nx
  have gB9:h9.get B=cE [aC m]:=by rw[o9 _ (by omega)];exact j.gA
  simp(disch:=omega)only[go_sem,H.aF gB9,lv]
  refine (gcd_ok (rfl:T 102=some c_perm_gcd) m c.length _ (by omega) (by omega)).mono ?_
  rintro _ h10 ⟨rfl,f10⟩
  have n10:h9.next+10<=h10.next:=f10.next
  have o10: ∀q,q<h9.next->h10.get q=h9.get q:=λq hq=>f10.get q (by show q<h9.next+10;omega)
  have gB10:h10.get B=cE [aC m]:=by rw[o10 _ (by omega)];exact gB9
  obtain⟨G,hG⟩:=AS (Nat.gcd m c.length)
  rw[hG] at hs1
  rw[hG]
  have hg0:0<G:=by rw[←hG];exact Nat.gcd_pos_of_pos_right _ (by omega)
  have hgz:(G:Int)≠0:=by omega
  have hdv:(m:Int).tdiv (G:Int)=((m/G:Nat):Int):=by rw[Int.tdiv_eq_ediv_of_nonneg (by omega)];rfl
  have hdl:m/G<=m:=Nat.div_le_self _ _
  have hmu:((m/G:Nat):Int)*(c.length:Int)=((qT (((mL a n).map List.length).take (k+1)):Nat):Int):=by rw[hs1,Int.natCast_mul]
  generalize qT (((mL a n).map List.length).take (k+1))=m2 at hmu hm2 hs1
  generalize m/G=q at hdv hdl hmu hs1
  have pt: ∀(hh:H) (y:V),dV (cE [aC m]) hh B 0 [y]=some (hh.set B (cE [y])):=λhh y=>bE (by simp) hh _ _
  simp(disch:=omega)only[go_sem,hgz,hdv,hmu,lv,H.aF gB10,gB10,pt]
  refine mU fG hpd (by rw[H.aH _ (by omega)];rw[o10 _ (by omega)];exact g9) ?_
  obtain⟨h11,h11e⟩: ∃h11,h11=(h10.set B (cE [aC m2])).set id2 (some (.loop r)):=⟨_,rfl⟩
  rw[←h11e]
  have n11:h11.next=h10.next:=by rw[h11e];rfl
  have o11: ∀q,q≠B->q≠id2->h11.get q=h10.get q:=λq h1 h2=>by rw[h11e,H.aH _ h2,H.aH _ h1]
  have hfn:=j.fr.next
  have F11:Fr h h11:=⟨by omega,λq hq=>by rw[o11 q (by omega) (by omega),o10 q (by omega),o9 q (by omega)];exact j.fr.get q hq⟩
  exact⟨rfl,⟨by rw[h11e,H.aT],by rw[h11e,H.aH _ (by omega),H.aT],by rw[o11 b (by omega) (by omega),o10 b (by omega),o9 b (by omega)];exact j.gb,hv.mono F11,by omega,F11⟩,⟨by omega,λq h1 h2=>by rw[o11 q (λe=>h2 (by omega)) (λe=>h2 (by omega)),o10 q (by omega),o9 q (λe=>h2 (by omega))]⟩⟩
 ·rintro _ h9 j
  rw[show (mL a n).length=((mL a n).map List.length).length from (jS _).symm,List.take_length] at j
  have hm2:cM a n<=823543:=Nat.le_trans (Hi A) (pow_small hn)
  have j':OrJ h B b id2 va a r (cM a n) h9:=j
  refine⟨r,j'.gr,by rw[fG];simp,?_⟩
  have en:r.pend.getD .norm= .norm:=by rw[hpd];rfl
  rw[en]
  obtain⟨h10,h10e⟩: ∃h10,h10=h9.set id2 (some (.loop {r with st:= .out})):=⟨_,rfl⟩
  have o10: ∀q,q≠id2->h10.get q=h9.get q:=λq hq=>by rw[h10e,H.aH _ hq]
  have n10:h10.next=h9.next:=by rw[h10e];rfl
  have gB10:h10.get B=cE [aC (cM a n:Nat)]:=by rw[o10 _ (by omega)];exact j'.gA
  have hfn:=j'.fr.next
  have F10:Fr h h10:=⟨by omega,λq hq=>by rw[o10 q (by omega)];exact j'.fr.get q hq⟩
  rw[←h10e]
  simp(disch:=omega)only[go_sem,H.aF gB10]
  exact F10
theorem mks_bytes (h:H)(n:Nat)(hn:n<=100000):tF h 1 1 [.int .u8 0] (aC n) (aC n)=some (.sl h.next 0 n (.kn n),h.new (.cells false (rc n λ_=> .int .u8 0))):=by
 rw[lQ (by omega) (Int.le_refl _) (by omega) (by omega),Int.toNat_natCast,Nat.mul_one]
 have e:dG [V.int .u8 0] n=rc n λ_=> .int .u8 0:=by
  symm;refine xF ?_ λi hi=>?_
  ·simp [dG]
  ·simp [dG,hi,Nat.mod_one]
 rw[e]
theorem bytesV_map: ∀l:List Nat,(∀x∈l,x<256)->lP (l.map λ(x:Nat)=>V.int .u8 (x:Int))=some l
 | [],_=>rfl
 |x::r,h=>by
  have hx:=h x (by simp);show (if 0<=(x:Int)/\(x:Int)<256 then (lP (r.map λ(x:Nat)=>V.int .u8 (x:Int))).map ((x:Int).toNat:: ·) else none)=_;rw[if_pos ⟨by omega,by omega⟩,bytesV_map r λy hy=>h y (by simp [hy])]
  rfl
theorem word_ok (u:V)(a:List Nat)(h:H)(hn:a.length<=1000)(hb: ∀x∈a,x<256)(hu:SI h u (zi a)):
  Ev T 83 [u] h (λv h'=>v= .str a/\Fr h h'):=by
 refine bP c_classes_element_word rfl rfl ?_
 obtain⟨n,la⟩:=AS a.length
 have lu:=hu.lens
 rw[aU,la] at lu
 obtain⟨id,off,sh,hid,hc⟩:=hu.open
 rw[aU,la] at sh hid hc
 simp(disch:=omega)only[go_sem,c_classes_element_word,aE,lu,mks_bytes h n (by omega)]
 have hf1:Fr h (h.new (.cells false (rc n λ_=> .int .u8 0))):=(Fr.refl h).new _
 have hg1:(h.new (.cells false (rc n λ_=> .int .u8 0))).get h.next=some (.cells false (rc n λ_=> .int .u8 0)):=H.aM ..
 have hn1:(h.new (.cells false (rc n λ_=> .int .u8 0))).next=h.next+1:=H.aV ..
 generalize h.new (.cells false (rc n λ_=> .int .u8 0))=h1 at*
 obtain⟨S,hS⟩:=AS h.next
 rw[hS] at hg1 hn1
 rw[hS]
 refine aJ (λk' vars hh=> ∃(i:Nat),(∃j:Nat->V,vars= [u,j 1,.sl S 0 n (.kn n),j 3,j 4,u,aC n,aC i,j 8])/\i<=n/\
   hh.get S=some (.cells false (rc n λj=>if j<i then .int .u8 ((a.getD j 0:Nat):Int) else .int .u8 0))/\hh.next=S+1/\Fr h hh/\k'=n-i) n
  ⟨0,aA rfl,gK _,by rw[hg1];rfl,hn1,hf1,rfl⟩ ?_
 clear hg1 hf1 hn1
 rintro k' vars h2 ⟨i,⟨jk,rfl⟩,hi,gS,lS,F,rfl⟩
 simp(disch:=omega)only[go_sem]
 by_cases hlt:(i:Int)<(n:Int)
 ·rw[decide_eq_true hlt]
  have hi':i<n:=by omega
  have ci:h2.cell id (off+i)=some (aC (a.getD i 0:Nat)):=by rw[F.cell (hid (by omega)),hc i hi'];congr 2;simp [zi,la,hi']
  have r:=hb (a.getD i 0) (getD_mem (by omega))
  generalize hk:a.getD i 0=k at ci r
  have pt:=bE (vs:=rc n λj=>if j<i then .int .u8 ((a.getD j 0:Nat):Int) else .int .u8 0) (off:=i) (by rw[cV];exact hi') h2 S (.int .u8 (k:Int))
  rw[eY] at pt
  simp(disch:=omega)only[go_sem,sh.ixa,ci,gS,wrap_u8_in,pt]
  rw[iO i]
  refine⟨n-(i+1),by omega,i+1,aA rfl,by omega,?_,lS,F.set (by omega) _,rfl⟩
  congr 2
  refine bH λj hj=>?_
  by_cases e:j=i
  ·rw[if_pos e,if_pos (by omega),e,hk]
  ·rw[if_neg e]
   by_cases e2:j<i
   ·rw[if_pos e2,if_pos (by omega)]
   ·rw[if_neg e2,if_neg (by omega)]
 rw[decide_eq_false hlt]
 obtain rfl:i=n:=by omega
 have hrow:h2.row S 0 i=some (a.map λ(x:Nat)=>V.int .u8 (x:Int)):=by
  have e:(rc i λj=>if j<i then V.int .u8 ((a.getD j 0:Nat):Int) else .int .u8 0)=a.map λ(x:Nat)=>V.int .u8 (x:Int):=xF (by rw[jS,la]) λj hj=>by
   rw[if_pos hj,List.getElem?_map,eQ (by omega),List.getD,eQ (by omega)];rfl
  unfold H.row;rw[gS,e];simp only[sub];rw[if_pos (by rw[jS];omega)];rw[List.drop_zero,List.take_of_length_le (by rw[jS];omega)]
 have hcv:Nl h2 (.sl S 0 i (.kn i))=some (.str a):=by
  show (match h2.row S 0 i with|some ys=>(lP ys).map V.str|none=>none)=_;rw[hrow];show (lP (a.map λ(x:Nat)=>V.int .u8 (x:Int))).map V.str=_;rw[bytesV_map a hb];rfl
 simp(disch:=omega)only[go_sem,Tl,hcv]
 exact F
section
variable {y x g:List Nat}
section
variable {n:Nat} {G:List Nat->Prop} {O:LN} {R:lU}
theorem one_le (Y:aX n y):Le (aW n) y:=by
 by_cases h: ∃k,k<n/\y.getD k 0≠k
 ·obtain⟨k,⟨hk,hne⟩,hmin⟩: ∃k,(k<n/\y.getD k 0≠k)/\ ∀j,j<k-> ¬(j<n/\y.getD j 0≠j):=by
   obtain⟨k,hk⟩:=h
   induction k using Nat.strongRecOn with
   |_ k ih=>
    by_cases h2: ∃j,j<k/\(j<n/\y.getD j 0≠j)
    ·obtain⟨j,h3,h4⟩:=h2;exact ih j h3 h4
    ·exact⟨k,hk,λj hj hx=>h2 ⟨j,hj,hx⟩⟩
  have hfix: ∀j,j<k->y.getD j 0=j:=λj hj=>xG λhn=>hmin j hj ⟨by omega,hn⟩
  refine .inr ⟨k,by rw[eJ];exact hk,λj hj=>by rw[dM (by omega),hfix j hj],?_⟩;rw[dM hk];refine xG λhge=>?_
  have hlt:y.getD k 0<k:=by omega
  have:=Y.inj (by omega) hk (hfix _ hlt);omega
 ·exact .inl ((Fix.all Y λk hk=>xG λhn=>h ⟨k,hk,hn⟩).symm)
theorem first_one (hG:iL n G)(c:dK n G O R){i:Nat}(hi:i<n):0<(R.getD i []).length/\(R.getD i []).getD 0 []=aW n:=by
 have hm:i∈O.getD i []:=(c.mem i hi i).2 ⟨aW n,hG.one,Fix.one n i (by omega),dM hi⟩;have hl:0<(O.getD i []).length:=List.length_pos_of_mem hm;have rep:=c.rep i hi 0 hl
 have h0:(O.getD i []).getD 0 0=i:=by
  have hmem:(O.getD i []).getD 0 0∈O.getD i []:=getD_mem hl;obtain⟨x,hx,fx,e⟩:=(c.mem i hi _).1 hmem
  have hge: ¬(O.getD i []).getD 0 0<i:=λhlt=>by
   have X:=hG.isP hx;have:=X.inj (i:=(O.getD i []).getD 0 0) (j:=i) (by omega) hi (by rw[fx _ hlt,e]);omega
  obtain⟨k,hk,ek⟩:=uH.1 hm;have asc:=List.pairwise_iff_getElem.1 (c.asc i hi);have e0:(O.getD i []).getD 0 0=(O.getD i [])[0]:=Pm.cG hl
  by_cases hk0:k=0
  ·subst hk0;omega
  ·have:=asc 0 k hl hk (by omega)
   omega
 rw[h0] at rep;refine⟨by rw[c.rl i hi];exact hl,rep.uniq ⟨hG.one,Fix.one n i (by omega),dM hi,λy hy _ _=>one_le (hG.isP hy)⟩⟩
theorem strong_mem (c:dK n G O R)(hx:x∈strongL R):G x:=by
 unfold strongL at hx;obtain⟨r,hr,h2⟩:=List.mem_flatMap.1 hx;exact chain_mem c x (List.mem_flatten.2 ⟨r,hr,List.mem_of_mem_drop h2⟩)
theorem strong_gen (hG:iL n G)(c:dK n G O R)(hx:G x):dF n (λg=>g∈strongL R) x:=by
 have h:=(chain_iff hG c x).2 hx;have hP: ∀g,g∈strongL R->aX n g:=λg hg=>hG.isP (strong_mem c hg)
 clear hx
 induction h with
 |one=>exact .one
 | @mul y g _ hg ih=>
  obtain⟨r,hr,h2⟩:=List.mem_flatten.1 hg;obtain⟨i,hi,er⟩:=uH.1 hr;have hi':i<n:=by have:=c.lr;omega
  have er':R.getD i []=r:=by rw[List.getD,eQ hi,←er];rfl
  obtain⟨f1,f2⟩:=first_one hG c hi';rw[er'] at f1 f2;obtain⟨k,hk,ek⟩:=uH.1 h2
  by_cases hk0:k=0
  ·subst hk0
   have:g=aW n:=by rw[←f2,List.getD,eQ hk,←ek];rfl
   rw[this,bB (ih.isP hP)];exact ih
  ·refine ih.mul ?_
   unfold strongL;refine List.mem_flatMap.2 ⟨r,hr,uH.2 ⟨k- 1,by rw[List.length_drop];omega,?_⟩⟩;rw[List.getElem_drop];simp only[show 1+(k- 1)=k by omega,ek]
def conjP (x g:List Nat):List Nat:=aQ (aQ (bX g) x) g
theorem conjP_isP (X:aX n x)(g':aX n g):aX n (conjP x g):=(g'.inv.mul X).mul g'
theorem conjP_one (X:aX n x):conjP x (aW n)=x:=by
 unfold conjP;rw[nI,bW X,bB X]
theorem conjP_mul {k:List Nat}(X:aX n x)(A:aX n g)(B:aX n k):conjP x (aQ g k)=conjP (conjP x g) k:=by
 unfold conjP;rw[rZ A B];have i1:=A.inv;have i2:=B.inv;rw[aI i2 i1 X,←aI (i2.mul (i1.mul X)) A B,←aI i2 (i1.mul X) A|>.symm]
theorem conjP_inv (X:aX n x)(A:aX n g):conjP (conjP x g) (bX g)=x:=by
 rw[←conjP_mul X A A.inv,dL A,conjP_one X]
def cj (G:List Nat->Prop)(x y:List Nat):Prop:= ∃g,G g/\conjP x g=y
theorem cj_refl (hG:iL n G)(X:aX n x):cj G x x:=⟨aW n,hG.one,conjP_one X⟩
theorem cj_symm (hG:iL n G)(X:aX n x)(h:cj G x y):cj G y x:=by
 obtain⟨g,hg,rfl⟩:=h;exact⟨bX g,hG.inv hg,conjP_inv X (hG.isP hg)⟩
theorem cj_trans (hG:iL n G){z:List Nat}(X:aX n x)(h:cj G x y)(h2:cj G y z):cj G x z:=by
 obtain⟨g,hg,rfl⟩:=h;obtain⟨k,hk,rfl⟩:=h2;exact⟨aQ g k,hG.mul hg hk,conjP_mul X (hG.isP hg) (hG.isP hk)⟩
theorem cj_mem (hG:iL n G)(hx:G x)(h:cj G x y):G y:=by
 obtain⟨g,hg,rfl⟩:=h;exact hG.mul (hG.mul (hG.inv hg) hx) hg
theorem cj_ind {S:List Nat->Prop}(hS: ∀g,S g->aX n g)(hgen: ∀x,G x->dF n S x){P:List Nat->Prop}(X:aX n x)(h0:P x)(hs: ∀y g,aX n y->P y->S g->P (conjP y g))(h:cj G x y):P y:=by
 obtain⟨g,hg,rfl⟩:=h;have:=hgen g hg;clear hg
 induction this with
 |one=>rw[conjP_one X];exact h0
 | @mul z k hz hk ih=>
  rw[conjP_mul X (hz.isP hS) (hS k hk)];exact hs _ _ (conjP_isP X (hz.isP hS)) ih hk
end
end
end Go.Proofs.YtapfcpkecmmagaaGreat
namespace Go.Proofs.YtapfcpkecmmagaaGreat.Cls
open Go Go.Ay Go.Sort
set_option maxRecDepth 100000
section
variable {h:H} {S N i j a:Nat}
class Srt (α:Type)[Inhabited α] where
 lt:α->α->Bool
 enc:α->List V
 P:α->Prop
 B:H->Prop
 f:Nat
 b0:Nat
 S:Nat
 swo:SWO lt
 len: ∀a,(enc a).length=4
 one: ∀a,(enc a).all V.one=true
 eqv: ∀a,dI (.agg (enc a)) (.agg (enc a))=true
 cmp: ∀h a b,B h->P a->P b->Ev T f [.agg (enc a),.agg (enc b)] h (λv h'=> ∃z,v= aC z/\decide (z<0)=lt a b/\Fr h h')
 bfr: ∀h h',B h->Fr h h'->B h'
 bS: ∀h h',B h->Fx (· =S) h h'->B h'
 bR: ∀h h' R,B h->b0<=R->Fx (· =R) h h'->B h'
 bn: ∀h,B h->b0<=h.next
def flat {α:Type}[Inhabited α][Srt α](l:List α):List V:=l.flatMap Srt.enc
structure Arr {α:Type}[Inhabited α][O:Srt α](h:H)(S N:Nat)(d:Array α):Prop where
 get:h.get S=cE (flat d.toList)
 size:d.size=N
 lt:S<h.next
 eqS:S=O.S
 base:O.B h
 all: ∀i,i<d.size->O.P d[i]!
section
variable {α:Type} [Inhabited α] [O:Srt α]
theorem flat_len: ∀l:List α,(flat l).length=l.length*4
 | []=>rfl
 |x::r=>by
  show (Srt.enc x++flat r).length=_;rw[jD,Srt.len,flat_len r,List.length_cons];omega
theorem flat_drop: ∀(l:List α) (i:Nat),(flat l).drop (i*4)=flat (l.drop i)
 |l,0=>by simp
 | [],i+1=>by simp [flat]
 |x::r,i+1=>by
  show (Srt.enc x++flat r).drop ((i+1)*4)=_;rw[List.drop_append,List.drop_eq_nil_of_le (by rw[Srt.len];omega),Srt.len,List.nil_append,show (i+1)*4- 4=i*4 by omega,flat_drop r i,List.drop_succ_cons]
theorem flat_take: ∀(l:List α) (i:Nat),(flat l).take (i*4)=flat (l.take i)
 |l,0=>by simp [flat]
 | [],i+1=>by simp [flat]
 |x::r,i+1=>by
  show (Srt.enc x++flat r).take ((i+1)*4)=_;rw[List.take_append,List.take_of_length_le (by rw[Srt.len];omega),Srt.len,show (i+1)*4- 4=i*4 by omega,flat_take r i,List.take_succ_cons];rfl
theorem stV_enc (h:H)(id off:Nat)(a:α):Hg h 4 (.ptr id off) (.agg (Srt.enc a))=dV (h.get id) h id off (Srt.enc a):=pU h id off 4 _ (Srt.len a) (Srt.one a)
theorem eqV_enc (a:α):dI (.agg (Srt.enc a)) (.agg (Srt.enc a))=true:=Srt.eqv a
theorem Arr.rd {d:Array α}(A:Arr h S N d)(hi:i<N):h.row S (i*4) 4=some (Srt.enc d[i]!):=by
 have hi':i<d.size:=by rw[A.size];exact hi
 have hl:i<d.toList.length:=by simpa using hi'
 unfold H.row;rw[A.get];simp only[sub];rw[if_pos (by rw[flat_len];omega),flat_drop,List.drop_eq_getElem_cons hl];show some ((Srt.enc d.toList[i]++flat _).take 4)=_;rw[List.take_append,List.take_of_length_le (by rw[Srt.len];exact eP _),Srt.len];simp [hi']
theorem Arr.fr {h':H}{d:Array α}(A:Arr h S N d)(f:Fr h h'):Arr h' S N d:=⟨by rw[f.get _ A.lt];exact A.get,A.size,gE A.lt f.next,A.eqS,O.bfr _ _ A.base f,A.all⟩
theorem put_cont {d:Array α}(hi:i<d.size)(hh:H)(S:Nat)(x:α):dV (cE (flat d.toList)) hh S (i*4) (Srt.enc x)=some (hh.set S (cE (flat (d.setIfInBounds i x).toList))):=by
 have hl:i<d.toList.length:=by simpa using hi
 have e:(flat d.toList).take (i*4)++Srt.enc x++(flat d.toList).drop (i*4+4)=flat (d.setIfInBounds i x).toList:=by
  rw[Array.toList_setIfInBounds,List.set_eq_take_append_cons_drop,if_pos hl,flat_take,show i*4+4=(i+1)*4 by omega,flat_drop];simp [flat]
 simp only[dV,putAt,Srt.len];rw[if_pos (by rw[flat_len];omega),e];rfl
theorem put_cont' {d:Array α}{y:α}(hi:i<d.size)(hh:H)(S:Nat)(x:α):dV (cE (flat (d.setIfInBounds j y).toList)) hh S (i*4) (Srt.enc x)=some (hh.set S (cE (flat ((d.setIfInBounds j y).setIfInBounds i x).toList))):=
 put_cont (by simpa using hi) hh S x
theorem Arr.swap {h2:H}{d:Array α}(A:Arr h S N d){nx:Nat}(hnx:h.next<=nx)(e:h2=((H.mk h.tr nx).set S (cE (flat (d.setIfInBounds i d[j]!).toList))).set S (cE (flat ((d.setIfInBounds i d[j]!).setIfInBounds j d[i]!).toList)))(hi:i<N:=by omega)(hj:j<N:=by omega):Arr h2 S N (swp d i j)/\Fx (· =S) h h2:=by
 subst e
 have fx:Fx (· =S) h (((H.mk h.tr nx).set S (cE (flat (d.setIfInBounds i d[j]!).toList))).set S (cE (flat ((d.setIfInBounds i d[j]!).setIfInBounds j d[i]!).toList))):=⟨hnx,λid _ hs=>by rw[H.aH _ hs,H.aH _ hs];rfl⟩
 have sz:=A.size;refine⟨⟨?_,?_,gE A.lt hnx,A.eqS,O.bS _ _ A.base (by have:=A.eqS;subst this;exact fx),?_⟩,fx⟩
 ·rw[H.aT];rfl
 ·simp [swp,sz]
 ·intro k hk
  have hk':k<d.size:=by simpa [swp] using hk
  unfold swp
  have key: ∀(x:Array α) (u:Nat) (y:α),k<x.size->(x.setIfInBounds u y)[k]! =if u=k then y else x[k]! :=λx u y hx=>by
   rw[getElem!_pos (x.setIfInBounds u y) k (by simpa using hx),getElem!_pos x k hx,Array.getElem_setIfInBounds]
  rw[key _ _ _ (by simpa using hk'),key _ _ _ hk']
  by_cases e1:j=k
  ·rw[if_pos e1];exact A.all i (by omega)
  ·rw[if_neg e1]
   by_cases e2:i=k
   ·rw[if_pos e2];exact A.all j (by omega)
   ·rw[if_neg e2];exact A.all k hk'
theorem srt_cmp {d:Array α}(A:Arr h S N d)(hi:i<N)(hj:j<N)(nx:Nat)(hn:h.next<=nx):Ev T (Srt.f α) [.agg (Srt.enc d[i]!),.agg (Srt.enc d[j]!)] (H.mk h.tr nx) (λv h'=> ∃z,v= aC z/\decide (z<0)=Srt.lt d[i]! d[j]! /\Fr (H.mk h.tr nx) h'):=
 O.cmp _ _ _ (O.bfr _ _ A.base ((Fr.refl h).bJ hn)) (A.all i (by rw[A.size];exact hi)) (A.all j (by rw[A.size];exact hj))
end
attribute [go_sem] stV_enc eqV_enc H.Ck
theorem fxt {a b c:H}(x:Fx (· =S) a b)(y:Fx (· =S) b c):Fx (· =S) a c:=x.trans y λ_ _ h=>h
theorem insI_t {α:Type}[Inhabited α]{lt:α->α->Bool}{d:Array α}(h1:a<j+1)(h2:lt d[j+1]! d[j]! =true):insInner lt a (j+1) d=insInner lt a j (swp d (j+1) j):=by
 rw[insInner,if_pos (by simp [h1,h2])]
theorem insI_f {α:Type}[Inhabited α]{lt:α->α->Bool}{d:Array α}(h2:lt d[j+1]! d[j]! =false):insInner lt a (j+1) d=d:=by
 rw[insInner,if_neg (by simp [h2])]
theorem insI_s {α:Type}[Inhabited α]{lt:α->α->Bool}{d:Array α}(h:j<=a):insInner lt a j d=d:=by
 cases j with
 |zero=>rfl
 |succ j=>rw[insInner,if_neg (by simp;omega)]
theorem insertion_ok {α:Type}[Inhabited α][O:Srt α](h:H)(S N a b:Nat)(d:Array α)(cp:kL)(hN:N<1000000)(A:Arr h S N d)(hb:b<=N)(hab:a<=b):
  Ev T 139 [.sl S 0 N cp,aC a,aC b,.fn (Srt.f α) [] []] h (λ_ h'=>Arr h' S N (insertionSort Srt.lt d a b)/\Fx (· =S) h h'):=by
 refine bP c_slices_insertionSortCmpFunc_classes_class rfl rfl ?_
 simp(disch:=omega)only[go_sem,c_slices_insertionSortCmpFunc_classes_class,aE]
 rw[iO a]
 refine aJ (λk' vars hh=> ∃(i:Nat) (e:Array α),(∃g:Nat->V,vars= [.sl S 0 N cp,aC a,aC b,.fn (Srt.f α) [] [],aC i,g 5,g 6,g 7])/\a<i/\i<=b+1/\Arr hh S N e/\insOuter Srt.lt a b i e=insertionSort Srt.lt d a b/\Fx (· =S) h hh/\k'=b+1-i) (b+1-(a+1))
  ⟨a+1,d,aA rfl,by omega,by omega,A,rfl,Fx.refl _ h,rfl⟩ ?_
 clear A
 rintro k' vars h1 ⟨i,e,⟨g,rfl⟩,hi1,hi2,A,hR,F,rfl⟩
 simp(disch:=omega)only[go_sem]
 by_cases hlt:(i:Int)<(b:Int)
 case neg=>
  rw[decide_eq_false hlt];simp(disch:=omega)only[go_sem];rw[insOuter,if_neg (by omega)] at hR;rw[←hR];exact⟨A,F⟩
 rw[decide_eq_true hlt]
 rw[insOuter,if_pos (by omega)] at hR
 simp(disch:=omega)only[go_sem]
 refine aJ (λk' vars hh=> ∃(j:Nat) (e':Array α),(∃g:Nat->V,vars= [.sl S 0 N cp,aC a,aC b,.fn (Srt.f α) [] [],aC i,aC j,g 6,g 7])/\a<=j/\j<=i/\Arr hh S N e'/\insInner Srt.lt a j e'=insInner Srt.lt a i e/\Fx (· =S) h hh/\k'=j) i
  ⟨i,e,aA rfl,by omega,by omega,A,rfl,F,rfl⟩ ?_
 clear A F
 rintro k' vars h2 ⟨j,e',⟨g2,rfl⟩,hj1,hj2,A,hI,F,hk⟩
 have sz:=A.size
 by_cases haj:(a:Int)<(j:Int)
 ·obtain⟨m,rfl⟩: ∃m,j=m+1:=⟨j- 1,by omega⟩
  have c1:=A.rd (i:=m+1) (by omega)
  have c2:=A.rd (i:=m) (by omega)
  have e1:decide ((a:Int)<((m+1:Nat):Int))=true:=decide_eq_true haj
  have e2:((m+1:Nat):Int)- 1=(m:Int):=by omega
  simp(disch:=omega)only[go_sem,e1,e2,c1,c2]
  refine (srt_cmp A (i:=m+1) (j:=m) (by omega) (by omega) _ (by omega)).mono ?_
  rintro _ h3 ⟨z,rfl,hz,fh3⟩
  have f3':Fr h2 h3:=Fr.trans ((Fr.refl h2).bJ (by omega)) fh3
  have A3:=A.fr f3'
  have c3:=A3.rd (i:=m+1) (by omega)
  have c4:=A3.rd (i:=m) (by omega)
  cases hl:Srt.lt e'[m+1]! e'[m]! with
  |false=>
   rw[insI_f hl] at hI;simp(disch:=omega)only[go_sem,hz,hl];rw[iO i];rw[←hI] at hR;exact⟨b+1-(i+1),by omega,i+1,e',aA rfl,by omega,by omega,A3,hR,fxt F (Fx.of f3'),rfl⟩
  |true=>
   rw[insI_t (by omega) hl] at hI;simp(disch:=omega)only[go_sem,hz,hl,e2,c3,c4,A3.get,put_cont,put_cont'];have W:=A3.swap (i:=m+1) (j:=m) (nx:=h3.next+18) (by omega) rfl;exact⟨m,by omega,m,_,aA rfl,by omega,by omega,W.1,hI,fxt (fxt F (Fx.of f3')) W.2,rfl⟩
 ·have e1:decide ((a:Int)<(j:Int))=false:=decide_eq_false haj
  rw[insI_s (by omega)] at hI
  simp(disch:=omega)only[go_sem,e1]
  rw[iO i]
  rw[←hI] at hR
  have f3:Fr h2 (H.mk h2.tr (h2.next+17)):=(Fr.refl h2).bJ (by omega)
  exact⟨b+1-(i+1),by omega,i+1,e',aA rfl,by omega,by omega,A.fr f3,hR,fxt F (Fx.of f3),rfl⟩
end
def chd {α:Type}[Inhabited α](lt:α->α->Bool)(hi first root:Nat)(d:Array α):Nat:=if 2*root+1+1<hi/\lt d[first+(2*root+1)]! d[first+(2*root+1)+1]! =true then 2*root+2 else 2*root+1
theorem sift_eq {α:Type}[Inhabited α]{lt:α->α->Bool}(hi first root:Nat)(d:Array α):siftDown lt hi first root d=if 2*root+1≥hi then d else
  if lt d[first+root]! d[first+chd lt hi first root d]! =true then siftDown lt hi first (chd lt hi first root d) (swp d (first+root) (first+chd lt hi first root d)) else d:=by
 rw[siftDown]
 unfold chd
 by_cases h1:2*root+1≥hi
 ·rw[dif_pos h1,if_pos h1]
 ·rw[dif_neg h1,if_neg h1]
  by_cases h2:2*root+1+1<hi/\lt d[first+(2*root+1)]! d[first+(2*root+1)+1]! =true
  ·rw[if_pos (by simpa using h2),if_pos h2]
   cases h3:lt d[first+root]! d[first+(2*root+2)]!
   ·simp
   ·simp [show 2*root+2<hi by omega]
  ·rw[if_neg (by simpa using h2),if_neg h2]
   cases h3:lt d[first+root]! d[first+(2*root+1)]! <;>simp
theorem siftDown_ok  {α:Type}[Inhabited α][O:Srt α](h:H)(S N lo hi first:Nat)(d:Array α)(cp:kL)(hN:N<1000000)(A:Arr h S N d)(hb:first+hi<=N)(hlo:lo<=hi):
  Ev T 173 [.sl S 0 N cp,aC lo,aC hi,aC first,.fn (Srt.f α) [] []] h (λ_ h'=>Arr h' S N (siftDown Srt.lt hi first lo d)/\Fx (· =S) h h'):=by
 refine bP c_slices_siftDownCmpFunc_classes_class rfl rfl ?_
 simp(disch:=omega)only[go_sem,c_slices_siftDownCmpFunc_classes_class,aE]
 refine aJ (λk' vars hh=> ∃(r:Nat) (e:Array α),(∃g:Nat->V,vars= [.sl S 0 N cp,aC lo,aC hi,aC first,.fn (Srt.f α) [] [],aC r,g 6,g 7,g 8,g 9])/\r<=hi/\Arr hh S N e/\siftDown Srt.lt hi first r e=siftDown Srt.lt hi first lo d/\Fx (· =S) h hh/\k'=hi-r) (hi-lo)
  ⟨lo,d,aA rfl,hlo,A,rfl,Fx.refl _ h,rfl⟩ ?_
 clear A
 rintro k' vars h1 ⟨r,e,⟨g,rfl⟩,hr,A,hR,F,rfl⟩
 have e0:2*(r:Int)+1=((2*r+1:Nat):Int):=by omega
 by_cases hge:(hi:Int)<=((2*r+1:Nat):Int)
 ·have eg:decide ((hi:Int)<=((2*r+1:Nat):Int))=true:=decide_eq_true hge
  simp(disch:=omega)only[go_sem,e0,eg]
  rw[sift_eq,if_pos (by omega)] at hR
  rw[←hR]
  exact⟨A,F⟩
 have eg:decide ((hi:Int)<=((2*r+1:Nat):Int))=false:=decide_eq_false hge
 rw[sift_eq,if_neg (by omega)] at hR
 have ec:((2*r+1:Nat):Int)+1=((2*r+2:Nat):Int):=by omega
 have ef0:(first:Int)+(r:Int)=((first+r:Nat):Int):=by omega
 have ef1:(first:Int)+((2*r+1:Nat):Int)=((first+(2*r+1):Nat):Int):=by omega
 have ef2:(first:Int)+((2*r+2:Nat):Int)=((first+(2*r+2):Nat):Int):=by omega
 have ef3:((first+(2*r+1):Nat):Int)+1=((first+(2*r+1)+1:Nat):Int):=by omega
 have sz:=A.size
 by_cases hc2:((2*r+2:Nat):Int)<(hi:Int)
 ·have e2:decide (((2*r+2:Nat):Int)<(hi:Int))=true:=decide_eq_true hc2
  have c1:=A.rd (i:=first+(2*r+1)) (by omega)
  have c2:=A.rd (i:=first+(2*r+1)+1) (by omega)
  simp(disch:=omega)only[go_sem,e0,eg,ec,e2,ef1,ef3,c1,c2]
  refine (srt_cmp A (i:=first+(2*r+1)) (j:=first+(2*r+1)+1) (by omega) (by omega) _ (by omega)).mono ?_
  rintro _ h2 ⟨z,rfl,hz,fh2⟩
  have f2:Fr h1 h2:=Fr.trans ((Fr.refl h1).bJ (by omega)) fh2
  have A2:=A.fr f2
  have c0:=A2.rd (i:=first+r) (by omega)
  have c1:=A2.rd (i:=first+(2*r+1)) (by omega)
  have c2:=A2.rd (i:=first+(2*r+2)) (by omega)
  cases hl:Srt.lt e[first+(2*r+1)]! e[first+(2*r+1)+1]! with
  |false=>
   have hch:chd Srt.lt hi first r e=2*r+1:=if_neg (by rw[hl];simp)
   rw[hch] at hR;simp(disch:=omega)only[go_sem,hz,hl,ef0,ef1,c0,c1];refine (srt_cmp A2 (i:=first+r) (j:=first+(2*r+1)) (by omega) (by omega) _ (by omega)).mono ?_;rintro _ h3 ⟨z,rfl,hz,fh3⟩;have f3:Fr h2 h3:=Fr.trans ((Fr.refl h2).bJ (by omega)) fh3;have A3:=A2.fr f3;have c0:=A3.rd (i:=first+r) (by omega);have c1:=A3.rd (i:=first+(2*r+1)) (by omega);have F3:=fxt (fxt F (Fx.of f2)) (Fx.of f3)
   cases hl2:Srt.lt e[first+r]! e[first+(2*r+1)]! with
   |false=>
    rw[if_neg (by rw[hl2];simp)] at hR;simp(disch:=omega)only[go_sem,hz,hl2];rw[←hR];exact⟨A3,F3⟩
   |true=>
    rw[if_pos hl2] at hR;simp(disch:=omega)only[go_sem,hz,hl2,ef0,ef1,c0,c1,A3.get,put_cont,put_cont'];have W:=A3.swap (i:=first+r) (j:=first+(2*r+1)) (nx:=h3.next+24) (by omega) rfl;exact⟨hi-(2*r+1),by omega,2*r+1,_,aA rfl,by omega,W.1,hR,fxt F3 W.2,rfl⟩
  |true=>
   have hch:chd Srt.lt hi first r e=2*r+2:=if_pos ⟨by omega,hl⟩
   rw[hch] at hR;simp(disch:=omega)only[go_sem,hz,hl,ec,ef0,ef2,c0,c2];refine (srt_cmp A2 (i:=first+r) (j:=first+(2*r+2)) (by omega) (by omega) _ (by omega)).mono ?_;rintro _ h3 ⟨z,rfl,hz,fh3⟩;have f3:Fr h2 h3:=Fr.trans ((Fr.refl h2).bJ (by omega)) fh3;have A3:=A2.fr f3;have c0:=A3.rd (i:=first+r) (by omega);have c2:=A3.rd (i:=first+(2*r+2)) (by omega);have F3:=fxt (fxt F (Fx.of f2)) (Fx.of f3)
   cases hl2:Srt.lt e[first+r]! e[first+(2*r+2)]! with
   |false=>
    rw[if_neg (by rw[hl2];simp)] at hR;simp(disch:=omega)only[go_sem,hz,hl2];rw[←hR];exact⟨A3,F3⟩
   |true=>
    rw[if_pos hl2] at hR;simp(disch:=omega)only[go_sem,hz,hl2,ef0,ef2,c0,c2,A3.get,put_cont,put_cont'];have W:=A3.swap (i:=first+r) (j:=first+(2*r+2)) (nx:=h3.next+24) (by omega) rfl;exact⟨hi-(2*r+2),by omega,2*r+2,_,aA rfl,by omega,W.1,hR,fxt F3 W.2,rfl⟩
 ·have e2:decide (((2*r+2:Nat):Int)<(hi:Int))=false:=decide_eq_false hc2
  have hch:chd Srt.lt hi first r e=2*r+1:=if_neg (by omega)
  rw[hch] at hR
  have f2:Fr h1 (H.mk h1.tr (h1.next+20)):=(Fr.refl h1).bJ (by omega)
  have A2:=A.fr f2
  have c0:=A.rd (i:=first+r) (by omega)
  have c1:=A.rd (i:=first+(2*r+1)) (by omega)
  simp(disch:=omega)only[go_sem,e0,eg,ec,e2,ef0,ef1,c0,c1]
  refine (srt_cmp A (i:=first+r) (j:=first+(2*r+1)) (by omega) (by omega) _ (by omega)).mono ?_
  rintro _ h3 ⟨z,rfl,hz,fh3⟩
  have f3:Fr h1 h3:=Fr.trans ((Fr.refl h1).bJ (by omega)) fh3
  have A3:=A.fr f3
  have c0:=A3.rd (i:=first+r) (by omega)
  have c1:=A3.rd (i:=first+(2*r+1)) (by omega)
  have F3:=fxt F (Fx.of f3)
  cases hl2:Srt.lt e[first+r]! e[first+(2*r+1)]! with
  |false=>
   rw[if_neg (by rw[hl2];simp)] at hR;simp(disch:=omega)only[go_sem,hz,hl2];rw[←hR];exact⟨A3,F3⟩
  |true=>
   rw[if_pos hl2] at hR;simp(disch:=omega)only[go_sem,hz,hl2,ef0,ef1,c0,c1,A3.get,put_cont,put_cont'];have W:=A3.swap (i:=first+r) (j:=first+(2*r+1)) (nx:=h3.next+24) (by omega) rfl;exact⟨hi-(2*r+1),by omega,2*r+1,_,aA rfl,by omega,W.1,hR,fxt F3 W.2,rfl⟩
theorem heapSort_ok  {α:Type}[Inhabited α][O:Srt α](h:H)(S N a b:Nat)(d:Array α)(cp:kL)(hN:N<1000000)(A:Arr h S N d)(hb:b<=N)(hab:a<=b):
  Ev T 140 [.sl S 0 N cp,aC a,aC b,.fn (Srt.f α) [] []] h (λ_ h'=>Arr h' S N (heapSort Srt.lt d a b)/\Fx (· =S) h h'):=by
 refine bP c_slices_heapSortCmpFunc_classes_class rfl rfl ?_
 obtain⟨n,hn⟩:=AS (b-a)
 have en:(b:Int)-(a:Int)=(n:Int):=by omega
 have ed:((n:Int)- 1).tdiv 2=(((n- 1)/2+1:Nat):Int)- 1:=by
  by_cases h0:n=0
  ·subst h0;decide
  ·rw[Int.tdiv_eq_ediv_of_nonneg (by omega)];omega
 simp(disch:=omega)only[go_sem,c_slices_heapSortCmpFunc_classes_class,aE,en,ed]
 refine aJ (λk' vars hh=> ∃(k:Nat) (e:Array α),(∃g:Nat->V,vars= [.sl S 0 N cp,aC a,aC b,.fn (Srt.f α) [] [],aC a,aC 0,aC n,aC ((k:Int)- 1),g 8,g 9,g 10])/\k<=n+1/\(k=1∨k<=n)/\Arr hh S N e/\heapBuild Srt.lt n a k e=heapBuild Srt.lt n a ((n- 1)/2+1) d/\Fx (· =S) h hh/\k'=k) ((n- 1)/2+1)
  ⟨(n- 1)/2+1,d,aA rfl,by omega,by omega,A,rfl,Fx.refl _ h,rfl⟩ ?_
 clear A
 rintro k' vars h1 ⟨k,e,⟨g,rfl⟩,hk1,hk2,A,hR,F,hk⟩
 subst hk
 by_cases hlt:(0:Int)<=(k':Int)- 1
 ·have e1:=mF hlt
  obtain⟨m,rfl⟩: ∃m,k'=m+1:=⟨k'- 1,by omega⟩
  have e2:((m+1:Nat):Int)- 1=(m:Int):=by omega
  rw[e2] at e1
  rw[e2]
  simp(disch:=omega)only[go_sem,e1]
  refine (siftDown_ok h1 S N m n a e cp hN A (by omega) (by omega)).mono ?_
  rintro _ h2 ⟨A2,F2⟩
  simp(disch:=omega)only[go_sem]
  exact⟨m,by omega,m,_,aA rfl,by omega,by omega,A2,hR,fxt F F2,rfl⟩
 have e1:=iG hlt
 obtain rfl:k'=0:=by omega
 have hR:e=heapBuild Srt.lt n a ((n- 1)/2+1) d:=hR
 simp(disch:=omega)only[go_sem,e1]
 refine aJ (λk' vars hh=> ∃(k:Nat) (e':Array α),(∃g:Nat->V,vars= [.sl S 0 N cp,aC a,aC b,.fn (Srt.f α) [] [],aC a,aC 0,aC n,g 7,aC ((k:Int)- 1),g 9,g 10])/\k<=n/\Arr hh S N e'/\heapPop Srt.lt a k e'=heapPop Srt.lt a n e/\Fx (· =S) h hh/\k'=k) n
  ⟨n,e,aA rfl,by omega,A,rfl,F,rfl⟩ ?_
 clear A F hlt e1 hk1 hk2
 rintro k' vars h2 ⟨k,e',⟨g,rfl⟩,hk1,A,hP,F,hk⟩
 subst hk
 have sz:=A.size
 by_cases hlt:(0:Int)<=(k':Int)- 1
 ·have e1:=mF hlt
  obtain⟨m,rfl⟩: ∃m,k'=m+1:=⟨k'- 1,by omega⟩
  have e2:((m+1:Nat):Int)- 1=(m:Int):=by omega
  rw[e2] at e1
  rw[e2]
  have e3:(a:Int)+(m:Int)=((a+m:Nat):Int):=by omega
  have c1:=A.rd (i:=a+m) (by omega)
  have c2:=A.rd (i:=a) (by omega)
  simp(disch:=omega)only[go_sem,e1,e3,c1,c2,A.get,put_cont,put_cont']
  have W:=A.swap (i:=a) (j:=a+m) (nx:=h2.next+20) (by omega) rfl
  have s0:=siftDown_ok _ S N 0 m a _ cp hN W.1 (by omega) (by omega)
  refine s0.mono ?_
  rintro _ h3 ⟨A3,F3⟩
  simp(disch:=omega)only[go_sem]
  exact⟨m,by omega,m,_,aA rfl,by omega,A3,hP,fxt (fxt F W.2) F3,rfl⟩
 have e1:=iG hlt
 obtain rfl:k'=0:=by omega
 simp(disch:=omega)only[go_sem,e1]
 have hP:e'=heapPop Srt.lt a n e:=hP
 have:heapSort Srt.lt d a b=e':=by unfold heapSort;rw[hn,hP,hR]
 rw[this]
 exact⟨A,F⟩
theorem Arr.fxo  {α:Type}[Inhabited α][O:Srt α]{h h':H}{S N R:Nat}{d:Array α}(A:Arr h S N d)(f:Fx (· =R) h h')(hR:R≠S)(hRb:Srt.b0 α<=R):Arr h' S N d:=⟨by rw[f.get S A.lt (λe=>hR e.symm)];exact A.get,A.size,gE A.lt f.next,A.eqS,O.bR _ _ _ A.base hRb f,A.all⟩
theorem reverse_ok  {α:Type}[Inhabited α][O:Srt α](h:H)(S N a b:Nat)(d:Array α)(cp:kL)(hN:N<1000000)(A:Arr h S N d)(hb:b<=N)(hab:a<b):
  Ev T 143 [.sl S 0 N cp,aC a,aC b,.fn (Srt.f α) [] []] h (λ_ h'=>Arr h' S N (reverseRange d a b)/\Fx (· =S) h h'):=by
 refine bP c_slices_reverseRangeCmpFunc_classes_class rfl rfl ?_
 have eb:(b:Int)- 1=((b- 1:Nat):Int):=by omega
 simp(disch:=omega)only[go_sem,c_slices_reverseRangeCmpFunc_classes_class,aE,eb]
 refine aJ (λk' vars hh=> ∃(i j:Nat) (e:Array α),(∃g:Nat->V,vars= [.sl S 0 N cp,aC a,aC b,aC i,aC j,g 5])/\j<b/\i<=b/\Arr hh S N e/\reverseLoop i j e=reverseLoop a (b- 1) d/\Fx (· =S) h hh/\k'=j) (b- 1)
  ⟨a,b- 1,d,aA rfl,by omega,by omega,A,rfl,Fx.refl _ h,rfl⟩ ?_
 clear A
 rintro k' vars h1 ⟨i,j,e,⟨g,rfl⟩,hj,hi,A,hR,F,hk⟩
 subst hk
 have sz:=A.size
 rw[reverseLoop] at hR
 by_cases hlt:(i:Int)<(k':Int)
 ·have e1:=mF hlt
  rw[if_pos (by omega)] at hR
  have c1:=A.rd (i:=i) (by omega)
  have c2:=A.rd (i:=k') (by omega)
  simp(disch:=omega)only[go_sem,e1,c1,c2,A.get,put_cont,put_cont']
  have W:=A.swap (i:=i) (j:=k') (nx:=h1.next+16) (by omega) rfl
  rw[show (i:Int)+1=((i+1:Nat):Int) from by omega,show (k':Int)- 1=((k'- 1:Nat):Int) from by omega]
  exact⟨k'- 1,by omega,i+1,k'- 1,_,aA rfl,by omega,by omega,W.1,hR,fxt F W.2,rfl⟩
 have e1:=iG hlt
 rw[if_neg (by omega)] at hR
 simp(disch:=omega)only[go_sem,e1]
 unfold reverseRange
 rw[←hR]
 exact⟨A,F⟩
theorem tdivN (n:Nat){k:Int}{m:Nat}(hk:k=(m:Int)):(n:Int).tdiv k=((n/m:Nat):Int):=by
 rw[hk,Int.tdiv_eq_ediv_of_nonneg (by omega)];rfl
theorem break_ok  {α:Type}[Inhabited α][O:Srt α](h:H)(S N a b:Nat)(d:Array α)(cp:kL)(hN:N<60000)(A:Arr h S N d)(hb:b<=N)(hab:a<=b):
  Ev T 141 [.sl S 0 N cp,aC a,aC b,.fn (Srt.f α) [] []] h (λ_ h'=> ∃e,Arr h' S N e/\PermIn a b d e/\Fx (· =S) h h'):=by
 refine bP c_slices_breakPatternsCmpFunc_classes_class rfl rfl ?_
 obtain⟨n,hn⟩:=AS (b-a)
 have en:(b:Int)-(a:Int)=(n:Int):=by omega
 by_cases h8:(8:Int)<=(n:Int)
 case neg=>
  have e8:decide ((8:Int)<=(n:Int))=false:=decide_eq_false h8;simp(disch:=omega)only[go_sem,c_slices_breakPatternsCmpFunc_classes_class,aE,en,e8];exact⟨d,A,permIn_refl d a b,Fx.refl _ h⟩
 have e8:decide ((8:Int)<=(n:Int))=true:=decide_eq_true h8
 have e4:=tdivN n (k:=4) (m:=4) rfl
 obtain⟨q,hq⟩:=AS (n/4)
 rw[hq] at e4
 have ei:(a:Int)+(q:Int)*2- 1=((a+q*2- 1:Nat):Int):=by omega
 have ej:(a:Int)+(q:Int)*2+1=((a+q*2+1:Nat):Int):=by omega
 have hp:=two_pow_bitsLen_le (show 0<n by omega)
 have hp1:=lt_two_pow_bitsLen n
 obtain⟨m,hm⟩:=AS (2^bitsLen n)
 rw[hm] at hp hp1
 obtain⟨R,hR⟩:=AS h.next
 have hRS:R≠S:=by have:=A.lt;omega
 have hRb:Srt.b0 α<=R:=by have:=O.bn _ A.base;omega
 have pt0: ∀hh:H,dV (cE [.int .u64 0]) hh R 0 [.int .u64 (n:Int)]=some (hh.set R (cE [.int .u64 (n:Int)])):=λhh=>bE (by simp) hh R _
 have gnew:(h.new (.cells false [.int .u64 0])).get R=cE [.int .u64 0]:=by rw[←hR,H.aM]
 simp(disch:=omega)only[go_sem,c_slices_breakPatternsCmpFunc_classes_class,aE,en,e8,hR,wrap_u64_in (n:=(n:Int)) (by omega) (by omega),gnew,pt0]
 obtain⟨h1,h1e⟩: ∃h1,h1=(h.new (.cells false [.int .u64 0])).set R (cE [.int .u64 (n:Int)]):=⟨_,rfl⟩
 rw[←h1e]
 have g1:h1.get R=cE [.int .u64 (n:Int)]:=by rw[h1e,H.aT]
 have n1:h1.next=R+1:=by rw[h1e,H.cJ,H.aV,hR]
 have f1:Fr h h1:=by rw[h1e];exact ((Fr.refl h).new _).set (by omega) _
 clear h1e
 refine (pow2_ok n h1 (by omega)).mono ?_
 rintro _ h1' ⟨rfl,hh⟩
 rw[hh,hm]
 simp(disch:=omega)only[go_sem,e4,ei]
 refine aJ (λk' vars hh=> ∃(i:Nat) (e:Array α) (x:Int),(∃g:Nat->V,vars= [.sl S 0 N cp,aC a,aC b,aC n,.ptr R 0,.int .u64 (m:Int),aC i,g 7,g 8,g 9,g 10])/\a<=i/\i<=a+q*2+2/\Arr hh S N e/\PermIn a b d e/\hh.get R=cE [.int .u64 x]/\R<hh.next/\Fx (· =S) h hh/\k'=a+q*2+2-i) (a+q*2+2-(a+q*2- 1))
  ⟨a+q*2- 1,d,_,aA rfl,by omega,by omega,A.fr f1,permIn_refl d a b,g1,by omega,Fx.of f1,rfl⟩ ?_
 clear A g1 n1 f1 hh h1
 rintro k' vars h1 ⟨i,e,x,⟨g,rfl⟩,hi1,hi2,A,hP,gR,nR,F,rfl⟩
 by_cases hlt:(i:Int)<=((a+q*2+1:Nat):Int)
 case neg=>
  have e1:decide ((i:Int)<=((a+q*2+1:Nat):Int))=false:=decide_eq_false hlt;simp(disch:=omega)only[go_sem,e4,ej,e1];exact⟨e,A,hP,F⟩
 have e1:decide ((i:Int)<=((a+q*2+1:Nat):Int))=true:=decide_eq_true hlt
 simp(disch:=omega)only[go_sem,e4,ej,e1]
 refine (next_ok R x h1 gR nR).mono ?_
 rintro _ h2 ⟨y,rfl,gR2,F2⟩
 have A2:=A.fxo F2 hRS hRb
 obtain⟨w,hw,hwm⟩:=and_u64 y (m- 1) (by omega)
 have em:(m:Int)- 1=((m- 1:Nat):Int):=by omega
 have sz:=A2.size
 have F2':Fx (· =S) h h2:=⟨Nat.le_trans F.next F2.next,λid h3 h4=>(F2.get id (gE h3 F.next) (λe=>by have:id=R:=e;omega)).trans (F.get id h3 h4)⟩
 have nR2:R<h2.next:=gE nR F2.next
 by_cases hge:(n:Int)<=(w:Int)
 ·have e2:decide ((n:Int)<=(w:Int))=true:=decide_eq_true hge
  have e3:(w:Int)-(n:Int)=((w-n:Nat):Int):=by omega
  have e5:(a:Int)+((w-n:Nat):Int)=((a+(w-n):Nat):Int):=by omega
  have c1:=A2.rd (i:=i) (by omega)
  have c2:=A2.rd (i:=a+(w-n)) (by omega)
  simp(disch:=omega)only[go_sem,em,wrap_u64_in (n:=((m- 1:Nat):Int)) (by omega) (by omega),hw,e2,e3,e5,c1,c2,A2.get,put_cont,put_cont']
  have W:=A2.swap (i:=i) (j:=a+(w-n)) (nx:=h2.next+20) (by omega) rfl
  rw[iO i]
  refine⟨a+q*2+2-(i+1),by omega,i+1,_,y,aA rfl,by omega,by omega,W.1,permIn_trans _ _ _ a b hP (swp_permIn e a b i (a+(w-n)) hi1 (by omega) (by omega) (by omega) (by omega)),?_,gE nR2 W.2.next,fxt F2' W.2,rfl⟩
  exact gR2
 ·have e2:decide ((n:Int)<=(w:Int))=false:=decide_eq_false hge
  have e5:(a:Int)+(w:Int)=((a+w:Nat):Int):=by omega
  have c1:=A2.rd (i:=i) (by omega)
  have c2:=A2.rd (i:=a+w) (by omega)
  simp(disch:=omega)only[go_sem,em,wrap_u64_in (n:=((m- 1:Nat):Int)) (by omega) (by omega),hw,e2,e5,c1,c2,A2.get,put_cont,put_cont']
  have W:=A2.swap (i:=i) (j:=a+w) (nx:=h2.next+20) (by omega) rfl
  rw[iO i]
  refine⟨a+q*2+2-(i+1),by omega,i+1,_,y,aA rfl,by omega,by omega,W.1,permIn_trans _ _ _ a b hP (swp_permIn e a b i (a+w) hi1 (by omega) (by omega) (by omega) (by omega)),?_,gE nR2 W.2.next,fxt F2' W.2,rfl⟩
  exact gR2
structure Chs (h h':H)(R:Nat):Prop where
 get: ∃s,h'.get R=cE [aC s]
 fx:Fx (· =R) h h'
theorem Chs.trans {a b c:H}{R:Nat}(x:Chs a b R)(y:Chs b c R):Chs a c R:=⟨y.get,x.fx.trans y.fx λ_ _ h=>h⟩
theorem order2_ok  {α:Type}[Inhabited α][O:Srt α](h:H)(S N a b R:Nat)(d:Array α)(cp:kL)(hN:N<1000000)(A:Arr h S N d)(ha:a<N)(hb:b<N)(hR:R≠S)(hRn:R<h.next)(hRb:Srt.b0 α<=R)(s:Int)(gR:h.get R=cE [aC s]):
  Ev T 187 [.sl S 0 N cp,aC a,aC b,.ptr R 0,.fn (Srt.f α) [] []] h (λv h'=>(v= .tup [aC a,aC b]∨v= .tup [aC b,aC a])/\Chs h h' R):=by
 refine bP c_slices_order2CmpFunc_classes_class rfl rfl ?_
 have c1:=A.rd (i:=a) (by omega)
 have c2:=A.rd (i:=b) (by omega)
 simp(disch:=omega)only[go_sem,c_slices_order2CmpFunc_classes_class,aE,c1,c2]
 refine (srt_cmp A (i:=b) (j:=a) (by omega) (by omega) _ (by omega)).mono ?_
 rintro _ h2 ⟨z,rfl,hz,fh2⟩
 have f2:Fr h h2:=Fr.trans ((Fr.refl h).bJ (by omega)) fh2
 have gR2:h2.get R=cE [aC s]:=by rw[f2.get R hRn];exact gR
 cases hl:Srt.lt d[b]! d[a]! with
 |false=>
  simp(disch:=omega)only[go_sem,hz,hl];exact⟨.inl trivial,⟨s,gR2⟩,Fx.of f2⟩
 |true=>
  have cR:h2.cell R 0=some (aC s):=by rw[H.aF gR2];rfl
  have pt: ∀(w:Int) (hh:H),dV (cE [aC s]) hh R 0 [aC w]=some (hh.set R (cE [aC w])):=λw hh=>bE (by simp) hh R _
  simp(disch:=omega)only[go_sem,hz,hl,cR,gR2,pt];exact⟨.inr trivial,⟨_,by rw[H.aT]⟩,(Fx.of (W:=(· =R)) f2).trans (Fx.set h2 (W:=(· =R)) rfl _) (λ_ _ h=>h)⟩
theorem median_ok  {α:Type}[Inhabited α][O:Srt α](h:H)(S N a b c R:Nat)(d:Array α)(cp:kL)(hN:N<1000000)(A:Arr h S N d)(ha:a<N)(hb:b<N)(hc:c<N)(hR:R≠S)(hRn:R<h.next)(hRb:Srt.b0 α<=R)(s:Int)(gR:h.get R=cE [aC s]):
  Ev T 175 [.sl S 0 N cp,aC a,aC b,aC c,.ptr R 0,.fn (Srt.f α) [] []] h (λv h'=>(∃m,v= aC (m:Nat)/\(m=a∨m=b∨m=c))/\Chs h h' R):=by
 refine bP c_slices_medianCmpFunc_classes_class rfl rfl ?_
 simp(disch:=omega)only[go_sem,c_slices_medianCmpFunc_classes_class,aE]
 refine (order2_ok h S N a b R d cp hN A ha hb hR hRn hRb s gR).mono ?_
 rintro v1 h1 ⟨hv1,C1⟩
 obtain⟨x1,y1,rfl,hx1,hy1,hxy1⟩: ∃x y,v1= .tup [aC (x:Nat),aC (y:Nat)]/\x<N/\y<N/\((x=a∨x=b)/\(y=a∨y=b)):=by
  rcases hv1 with rfl|rfl
  ·exact⟨a,b,rfl,ha,hb,.inl rfl,.inr rfl⟩
  ·exact⟨b,a,rfl,hb,ha,.inr rfl,.inl rfl⟩
 have A1:=A.fxo C1.fx hR hRb
 obtain⟨s1,g1⟩:=C1.get
 have n1:=gE hRn C1.fx.next
 simp(disch:=omega)only[go_sem]
 refine (order2_ok h1 S N y1 c R d cp hN A1 hy1 hc hR n1 hRb s1 g1).mono ?_
 rintro v2 h2 ⟨hv2,C2⟩
 obtain⟨x2,y2,rfl,hx2,hxy2⟩: ∃x y,v2= .tup [aC (x:Nat),aC (y:Nat)]/\x<N/\(x=y1∨x=c):=by
  rcases hv2 with rfl|rfl
  ·exact⟨y1,c,rfl,hy1,.inl rfl⟩
  ·exact⟨c,y1,rfl,hc,.inr rfl⟩
 have A2:=A1.fxo C2.fx hR hRb
 obtain⟨s2,g2⟩:=C2.get
 have n2:=gE n1 C2.fx.next
 simp(disch:=omega)only[go_sem]
 refine (order2_ok h2 S N x1 x2 R d cp hN A2 hx1 hx2 hR n2 hRb s2 g2).mono ?_
 rintro v3 h3 ⟨hv3,C3⟩
 have C:=(C1.trans C2).trans C3
 rcases hv3 with rfl|rfl
 ·simp(disch:=omega)only[go_sem]
  exact⟨⟨x2,rfl,by omega⟩,C⟩
 ·simp(disch:=omega)only[go_sem]
  exact⟨⟨x1,rfl,by omega⟩,C⟩
theorem medianA_ok  {α:Type}[Inhabited α][O:Srt α](h:H)(S N a R:Nat)(d:Array α)(cp:kL)(hN:N<1000000)(A:Arr h S N d)(h0:0<a)(ha:a+1<N)(hR:R≠S)(hRn:R<h.next)(hRb:Srt.b0 α<=R)(s:Int)(gR:h.get R=cE [aC s]):
  Ev T 174 [.sl S 0 N cp,aC a,.ptr R 0,.fn (Srt.f α) [] []] h (λv h'=>(∃m,v= aC (m:Nat)/\(m=a- 1∨m=a∨m=a+1))/\Chs h h' R):=by
 refine bP c_slices_medianAdjacentCmpFunc_classes_class rfl rfl ?_
 have e1:(a:Int)- 1=((a- 1:Nat):Int):=by omega
 have e2:(a:Int)+1=((a+1:Nat):Int):=by omega
 simp(disch:=omega)only[go_sem,c_slices_medianAdjacentCmpFunc_classes_class,aE,e1,e2]
 refine (median_ok h S N (a- 1) a (a+1) R d cp hN A (by omega) (by omega) (by omega) hR hRn hRb s gR).mono ?_
 rintro _ h2 ⟨⟨m,rfl,hm⟩,C⟩
 simp(disch:=omega)only[go_sem]
 exact⟨⟨m,rfl,hm⟩,C⟩
theorem pivot_ok  {α:Type}[Inhabited α][O:Srt α](h:H)(S N a b:Nat)(d:Array α)(cp:kL)(hN:N<1000000)(A:Arr h S N d)(hb:b<=N)(hab:a<b):
  Ev T 142 [.sl S 0 N cp,aC a,aC b,.fn (Srt.f α) [] []] h (λv h'=> ∃(p:Nat) (t:Int),v= .tup [aC p,aC t]/\a<=p/\p<b/\Fr h h'):=by
 refine bP c_slices_choosePivotCmpFunc_classes_class rfl rfl ?_
 obtain⟨n,hn⟩:=AS (b-a)
 have en:(b:Int)-(a:Int)=(n:Int):=by omega
 have e4:=tdivN n (k:=4) (m:=4) rfl
 obtain⟨q,hq⟩:=AS (n/4)
 rw[hq] at e4
 have ei:(a:Int)+(q:Int)*1=((a+q:Nat):Int):=by omega
 have ej:(a:Int)+(q:Int)*2=((a+q*2:Nat):Int):=by omega
 have ek:(a:Int)+(q:Int)*3=((a+q*3:Nat):Int):=by omega
 obtain⟨R,hR⟩:=AS h.next
 have hRS:R≠S:=by have:=A.lt;omega
 have hRb:Srt.b0 α<=R:=by have:=O.bn _ A.base;omega
 obtain⟨h1,h1e⟩: ∃h1,h1=h.new (.cells false [aC 0]):=⟨_,rfl⟩
 have g1:h1.get R=cE [aC 0]:=by rw[h1e,←hR,H.aM]
 have n1:h1.next=R+1:=by rw[h1e,H.aV,hR]
 have f1:Fr h h1:=by rw[h1e];exact (Fr.refl h).new _
 have A1:=A.fr f1
 have fin: ∀(p:Nat) (h2:H),a<=p->p<b->Fx (· =R) h1 h2->a<=p/\p<b/\Fr h h2:=λp h2 x1 x2 x3=>⟨x1,x2,Nat.le_trans f1.next x3.next,λid hid=>(x3.get id (by omega) (λe=>by have:id=R:=e;omega)).trans (f1.get id hid)⟩
 by_cases h8:(8:Int)<=(n:Int)
 case neg=>
  have e8:decide ((8:Int)<=(n:Int))=false:=decide_eq_false h8;simp(disch:=omega)only[go_sem,c_slices_choosePivotCmpFunc_classes_class,aE,en,e4,ei,ej,ek,e8];rw[←h1e];have cR:h1.cell R 0=some (aC 0):=by rw[H.aF g1];rfl
  simp(disch:=omega)only[go_sem,hR,cR];refine bD (λ_=>?_) (λhc=>(hc (by trivial)).elim);simp(disch:=omega)only[go_sem];exact⟨a+q*2,1,rfl,fin _ _ (by omega) (by omega) (Fx.refl _ _)⟩
 have e8:decide ((8:Int)<=(n:Int))=true:=decide_eq_true h8
 have last: ∀(i j k:Nat) (h2:H) (s2:Int),a<=i->i<b->a<=j->j<b->a<=k->k<b->Arr h2 S N d->h2.get R=cE [aC s2]->R<h2.next->Fx (· =R) h1 h2->
   Ev T 175 [.sl S 0 N cp,aC i,aC j,aC k,.ptr R 0,.fn (Srt.f α) [] []] h2 (λv h'=> ∃p s3,v= aC (p:Nat)/\a<=p/\p<b/\h'.get R=cE [aC s3]/\Fr h h'):=by
  intro i j k h2 s2 i1 i2 j1 j2 k1 k2 A2 g2 n2 F2
  refine (median_ok h2 S N i j k R d cp hN A2 (by omega) (by omega) (by omega) hRS n2 hRb s2 g2).mono ?_
  rintro _ h3 ⟨⟨p,rfl,hp⟩,⟨s3,g3⟩,F3⟩
  exact⟨p,s3,rfl,by omega,by omega,g3,(fin p h3 (by omega) (by omega) (F2.trans F3 λ_ _ h=>h)).2.2⟩
 by_cases h50:(50:Int)<=(n:Int)
 case neg=>
  have e50:decide ((50:Int)<=(n:Int))=false:=decide_eq_false h50;simp(disch:=omega)only[go_sem,c_slices_choosePivotCmpFunc_classes_class,aE,en,e4,ei,ej,ek,e8,e50];rw[←h1e];simp(disch:=omega)only[go_sem,hR];refine (last (a+q) (a+q*2) (a+q*3) h1 0 (by omega) (by omega) (by omega) (by omega) (by omega) (by omega) A1 g1 (by omega) (Fx.refl _ _)).mono ?_;rintro _ h3 ⟨p,s3,rfl,p1,p2,g3,f3⟩;have cR:h3.cell R 0=some (aC s3):=by rw[H.aF g3];rfl
  simp(disch:=omega)only[go_sem,cR];refine bD (λ_=>?_) (λ_=>?_)
  ·simp(disch:=omega)only[go_sem]
   exact⟨p,1,rfl,p1,p2,f3⟩
  ·simp(disch:=omega)only[go_sem]
   refine bD (λ_=>?_) (λ_=>?_)
   ·simp(disch:=omega)only[go_sem]
    exact⟨p,2,rfl,p1,p2,f3⟩
   ·simp(disch:=omega)only[go_sem]
    exact⟨p,0,rfl,p1,p2,f3⟩
 have e50:decide ((50:Int)<=(n:Int))=true:=decide_eq_true h50
 simp(disch:=omega)only[go_sem,c_slices_choosePivotCmpFunc_classes_class,aE,en,e4,ei,ej,ek,e8,e50]
 rw[←h1e]
 simp(disch:=omega)only[go_sem,hR]
 refine (medianA_ok h1 S N (a+q) R d cp hN A1 (by omega) (by omega) hRS (by omega) hRb 0 g1).mono ?_
 rintro _ h2 ⟨⟨i,rfl,hi⟩,⟨s2,g2⟩,F2⟩
 have A2:=A1.fxo F2 hRS hRb
 have n2:=F2.next
 simp(disch:=omega)only[go_sem]
 refine (medianA_ok h2 S N (a+q*2) R d cp hN A2 (by omega) (by omega) hRS (by omega) hRb s2 g2).mono ?_
 rintro _ h3 ⟨⟨j,rfl,hj⟩,⟨s3,g3⟩,F3⟩
 have A3:=A2.fxo F3 hRS hRb
 have n3:=F3.next
 simp(disch:=omega)only[go_sem]
 refine (medianA_ok h3 S N (a+q*3) R d cp hN A3 (by omega) (by omega) hRS (by omega) hRb s3 g3).mono ?_
 rintro _ h4 ⟨⟨k,rfl,hk⟩,⟨s4,g4⟩,F4⟩
 have A4:=A3.fxo F4 hRS hRb
 have n4:=F4.next
 simp(disch:=omega)only[go_sem]
 refine (last i j k h4 s4 (by omega) (by omega) (by omega) (by omega) (by omega) (by omega) A4 g4 (by omega) ((F2.trans F3 λ_ _ h=>h).trans F4 λ_ _ h=>h)).mono ?_
 rintro _ h3 ⟨p,s3,rfl,p1,p2,g3,f3⟩
 have cR:h3.cell R 0=some (aC s3):=by rw[H.aF g3];rfl
 simp(disch:=omega)only[go_sem,cR]
 refine bD (λ_=>?_) (λ_=>?_)
 ·simp(disch:=omega)only[go_sem]
  exact⟨p,1,rfl,p1,p2,f3⟩
 ·simp(disch:=omega)only[go_sem]
  refine bD (λ_=>?_) (λ_=>?_)
  ·simp(disch:=omega)only[go_sem]
   exact⟨p,2,rfl,p1,p2,f3⟩
  ·simp(disch:=omega)only[go_sem]
   exact⟨p,0,rfl,p1,p2,f3⟩
section
variable {j b:Nat}
theorem shD_t {α:Type}[Inhabited α]{lt:α->α->Bool}{d:Array α}(h:lt d[j+1]! d[j]! =true):shiftDown lt (j+1) d=shiftDown lt j (swp d (j+1) j):=by rw[shiftDown,if_neg (by simp [h])]
theorem shD_f {α:Type}[Inhabited α]{lt:α->α->Bool}{d:Array α}(h:lt d[j+1]! d[j]! =false):shiftDown lt (j+1) d=d:=by rw[shiftDown,if_pos (by simp [h])]
theorem shU_t {α:Type}[Inhabited α]{lt:α->α->Bool}{d:Array α}(hj:j<b)(h:lt d[j]! d[j- 1]! =true):shiftUp lt b j d=shiftUp lt b (j+1) (swp d j (j- 1)):=by rw[shiftUp,if_pos hj,if_neg (by simp [h])]
theorem shU_f {α:Type}[Inhabited α]{lt:α->α->Bool}{d:Array α}(hj:j<b)(h:lt d[j]! d[j- 1]! =false):shiftUp lt b j d=d:=by rw[shiftUp,if_pos hj,if_pos (by simp [h])]
theorem scS_t {α:Type}[Inhabited α]{lt:α->α->Bool}{i:Nat}{d:Array α}(hi:i<b)(h:lt d[i]! d[i- 1]! =false):scanSorted lt d b i=scanSorted lt d b (i+1):=by rw[scanSorted,if_pos (by simp [h,hi])]
theorem scS_f {α:Type}[Inhabited α]{lt:α->α->Bool}{i:Nat}{d:Array α}(h: ¬(i<b/\lt d[i]! d[i- 1]! =false)):scanSorted lt d b i=i:=by rw[scanSorted,if_neg (by simpa using h)]
theorem pIns_eq {α:Type}[Inhabited α](lt:α->α->Bool)(a b s i:Nat)(d:Array α):partialIns lt a b (s+1) i d=if scanSorted lt d b i=b then (d,true) else if b-a<50 then (d,false) else
  partialIns lt a b s (scanSorted lt d b i) (if b-scanSorted lt d b i≥2 then shiftUp lt b (scanSorted lt d b i+1) (if scanSorted lt d b i-a≥2 then shiftDown lt (scanSorted lt d b i- 1) (swp d (scanSorted lt d b i) (scanSorted lt d b i- 1)) else swp d (scanSorted lt d b i) (scanSorted lt d b i- 1)) else
   (if scanSorted lt d b i-a≥2 then shiftDown lt (scanSorted lt d b i- 1) (swp d (scanSorted lt d b i) (scanSorted lt d b i- 1)) else swp d (scanSorted lt d b i) (scanSorted lt d b i- 1))):=by rw[partialIns]
theorem partial_ok {α:Type}[Inhabited α][O:Srt α](h:H)(S N a b:Nat)(d:Array α)(cp:kL)(hN:N<1000000)(A:Arr h S N d)(hb:b<=N)(hab:a<b):
  Ev T 144 [.sl S 0 N cp,aC a,aC b,.fn (Srt.f α) [] []] h (λv h'=>v= .bool (partialInsertionSort Srt.lt d a b).2/\Arr h' S N (partialInsertionSort Srt.lt d a b).1/\Fx (· =S) h h'):=by
 refine bP c_slices_partialInsertionSortCmpFunc_classes_class rfl rfl ?_
 simp(disch:=omega)only[go_sem,c_slices_partialInsertionSortCmpFunc_classes_class,aE]
 rw[iO a]
 refine aJ (λk' vars hh=> ∃(s i:Nat) (e:Array α),(∃g:Nat->V,vars= [.sl S 0 N cp,aC a,aC b,.fn (Srt.f α) [] [],g 4,aC i,aC (5-(s:Int)),g 7,g 8,g 9,g 10,g 11,g 12,g 13,g 14,g 15,g 16,g 17,g 18])/\s<=5/\a<i/\i<=b/\Arr hh S N e/\partialIns Srt.lt a b s i e=partialInsertionSort Srt.lt d a b/\Fx (· =S) h hh/\k'=s) 5
  ⟨5,a+1,d,aA rfl,by omega,by omega,by omega,A,rfl,Fx.refl _ h,rfl⟩ ?_
 clear A
 rintro k' vars h1 ⟨s,i,e,⟨g,rfl⟩,hs,hi1,hi2,A,hR,F,hk⟩
 subst hk
 by_cases hlt:(5:Int)-(k':Int)<5
 case neg=>
  have e1:=iG hlt;obtain rfl:k'=0:=by omega
  simp(disch:=omega)only[go_sem,e1];have hR:(e,false)=partialInsertionSort Srt.lt d a b:=hR;rw[←hR];exact⟨rfl,A,F⟩
 have e1:=mF hlt
 obtain⟨s,rfl⟩: ∃s,k'=s+1:=⟨k'- 1,by omega⟩
 simp(disch:=omega)only[go_sem,e1]
 rw[pIns_eq] at hR
 refine aJ (λk' vars hh=> ∃(m:Nat),(∃g:Nat->V,vars= [.sl S 0 N cp,aC a,aC b,.fn (Srt.f α) [] [],g 4,aC m,aC (5-((s+1:Nat):Int)),g 7,g 8,g 9,g 10,g 11,g 12,g 13,g 14,g 15,g 16,g 17,g 18])/\a<m/\m<=b/\Arr hh S N e/\scanSorted Srt.lt e b m=scanSorted Srt.lt e b i/\Fx (· =S) h hh/\k'=b-m) (b-i)
  ⟨i,aA rfl,hi1,hi2,A,rfl,F,rfl⟩ ?_
 clear A F hlt e1
 rintro k' vars h2 ⟨m,⟨g,rfl⟩,hm1,hm2,A,hS,F,rfl⟩
 have sz:=A.size
 have em1:(m:Int)- 1=((m- 1:Nat):Int):=by omega
 have eM1:(m:Int)+1=((m+1:Nat):Int):=by omega
 by_cases hmb:(m:Int)<(b:Int)
 case neg=>
  have e1:decide ((m:Int)<(b:Int))=false:=decide_eq_false hmb;have em:m=b:=by omega
  rw[scS_f (by omega)] at hS;rw[←hS,if_pos em] at hR;have e2:decide ((m:Int)=(b:Int))=true:=mF (by omega);simp(disch:=omega)only[go_sem,e1,e2];rw[←hR];exact⟨rfl,A.fr ((Fr.refl h2).bJ (by omega)),fxt F (Fx.of ((Fr.refl h2).bJ (by omega)))⟩
 have e1:decide ((m:Int)<(b:Int))=true:=decide_eq_true hmb
 have c1:=A.rd (i:=m) (by omega)
 have c2:=A.rd (i:=m- 1) (by omega)
 simp(disch:=omega)only[go_sem,e1,em1,c1,c2]
 refine (srt_cmp A (i:=m) (j:=m- 1) (by omega) (by omega) _ (by omega)).mono ?_
 rintro _ h3 ⟨z,rfl,hz,fh3⟩
 have f3':Fr h2 h3:=Fr.trans ((Fr.refl h2).bJ (by omega)) fh3
 have A3:=A.fr f3'
 have F3:=fxt F (Fx.of f3')
 cases hl:Srt.lt e[m]! e[m- 1]! with
 |false=>
  rw[scS_t (by omega) hl] at hS;simp(disch:=omega)only[go_sem,hz,hl,eM1];exact⟨b-(m+1),by omega,m+1,aA rfl,by omega,by omega,A3,hS,F3,rfl⟩
 |true=>
  rw[scS_f (by rw[hl];simp)] at hS;rw[←hS,if_neg (by omega)] at hR;have e2:decide ((m:Int)=(b:Int))=false:=iG (by omega)
  by_cases h50:(b:Int)-(a:Int)<50
  ·have e50:decide ((b:Int)-(a:Int)<50)=true:=decide_eq_true h50
   rw[if_pos (by omega)] at hR;simp(disch:=omega)only[go_sem,hz,hl,e2,e50];rw[←hR];exact⟨rfl,A3,F3⟩
  have e50:decide ((b:Int)-(a:Int)<50)=false:=decide_eq_false h50;rw[if_neg (by omega)] at hR;have c1:=A3.rd (i:=m) (by omega);have c2:=A3.rd (i:=m- 1) (by omega);simp(disch:=omega)only[go_sem,hz,hl,e2,e50,em1,c1,c2,A3.get,put_cont,put_cont'];have W:=A3.swap (i:=m) (j:=m- 1) (nx:=h3.next+18) (by omega) rfl
  obtain⟨h4,h4e⟩: ∃h4,h4=((H.mk h3.tr (h3.next+18)).set S (cE (flat (e.setIfInBounds m e[m- 1]!).toList))).set S (cE (flat ((e.setIfInBounds m e[m- 1]!).setIfInBounds (m- 1) e[m]!).toList)):=⟨_,rfl⟩
  rw[←h4e] at W ⊢;obtain⟨A4,F4⟩:=W;have F4':=fxt F3 F4;clear h4e F4 A3 F3 f3' fh3 c1 c2;obtain⟨e4,he4⟩:=AS (swp e m (m- 1));rw[he4] at A4 hR;refine jQ (λvs h5=> ∃e5,(∃g:Nat->V,vs= [.sl S 0 N cp,aC a,aC b,.fn (Srt.f α) [] [],g 4,aC m,aC (5-((s+1:Nat):Int)),g 7,g 8,g 9,g 10,g 11,g 12,g 13,g 14,g 15,g 16,g 17,g 18])/\Arr h5 S N e5/\e5=(if m-a≥2 then shiftDown Srt.lt (m- 1) e4 else e4)/\Fx (· =S) h h5) ?_ ?_
  ·refine bD (λh2=>?_) (λh2=>?_)
   ·simp(disch:=omega)only[go_sem,em1]
    refine aJ (λk' vars hh=> ∃(j:Nat) (x:Array α),(∃g:Nat->V,vars= [.sl S 0 N cp,aC a,aC b,.fn (Srt.f α) [] [],g 4,aC m,aC (5-((s+1:Nat):Int)),aC j,g 8,g 9,g 10,g 11,g 12,g 13,g 14,g 15,g 16,g 17,g 18])/\j<b/\Arr hh S N x/\shiftDown Srt.lt j x=shiftDown Srt.lt (m- 1) e4/\Fx (· =S) h hh/\k'=j) (m- 1)
     ⟨m- 1,e4,aA rfl,by omega,A4,rfl,F4',rfl⟩ ?_
    rintro k' vars h5 ⟨j,x,⟨g,rfl⟩,hj,A5,hD,F5,hk⟩;subst hk;have sz5:=A5.size
    by_cases h1:(1:Int)<=(k':Int)
    ·have e1:decide ((1:Int)<=(k':Int))=true:=decide_eq_true h1
     obtain⟨q,rfl⟩: ∃q,k'=q+1:=⟨k'- 1,by omega⟩
     have eq1:((q+1:Nat):Int)- 1=(q:Int):=by omega
     have c1:=A5.rd (i:=q+1) (by omega);have c2:=A5.rd (i:=q) (by omega);simp(disch:=omega)only[go_sem,e1,eq1,c1,c2];refine (srt_cmp A5 (i:=q+1) (j:=q) (by omega) (by omega) _ (by omega)).mono ?_;rintro _ h6 ⟨z,rfl,hz,fh6⟩;have f6:Fr h5 h6:=Fr.trans ((Fr.refl h5).bJ (by omega)) fh6;have A6:=A5.fr f6;have F6:=fxt F5 (Fx.of f6)
     cases hl:Srt.lt x[q+1]! x[q]! with
     |false=>
      rw[shD_f hl] at hD;simp(disch:=omega)only[go_sem,hz,hl];exact .inl ⟨x,aA rfl,A6,by rw[if_pos (by omega),←hD],F6⟩
     |true=>
      rw[shD_t hl] at hD;have c1:=A6.rd (i:=q+1) (by omega);have c2:=A6.rd (i:=q) (by omega);simp(disch:=omega)only[go_sem,hz,hl,eq1,c1,c2,A6.get,put_cont,put_cont'];have W:=A6.swap (i:=q+1) (j:=q) (nx:=h6.next+18) (by omega) rfl;exact⟨q,by omega,q,_,aA rfl,by omega,W.1,hD,fxt F6 W.2,rfl⟩
    ·have e1:decide ((1:Int)<=(k':Int))=false:=decide_eq_false h1
     obtain rfl:k'=0:=by omega
     simp(disch:=omega)only[go_sem,e1];have hD:x=shiftDown Srt.lt (m- 1) e4:=hD;exact .inl ⟨x,aA rfl,A5,by rw[if_pos (by omega),←hD],F5⟩
   ·simp(disch:=omega)only[go_sem]
    exact .inl ⟨e4,aA rfl,A4,by rw[if_neg (by omega)],F4'⟩
  ·rintro vars h5 ⟨e5,⟨g,rfl⟩,A5,he5,F5⟩
   rw[←he5] at hR;clear A4 F4' he5 he4;simp(disch:=omega)only[go_sem];have e55:(5:Int)-((s+1:Nat):Int)+1=5-(s:Int):=by omega
   refine bD (λh2=>?_) (λh2=>?_)
   ·rw[if_pos (by omega)] at hR
    simp(disch:=omega)only[go_sem,eM1];refine aJ (λk' vars hh=> ∃(j:Nat) (x:Array α),(∃g:Nat->V,vars= [.sl S 0 N cp,aC a,aC b,.fn (Srt.f α) [] [],g 4,aC m,aC (5-((s+1:Nat):Int)),g 7,aC j,g 9,g 10,g 11,g 12,g 13,g 14,g 15,g 16,g 17,g 18])/\0<j/\j<=b/\Arr hh S N x/\shiftUp Srt.lt b j x=shiftUp Srt.lt b (m+1) e5/\Fx (· =S) h hh/\k'=b-j) (b-(m+1))
     ⟨m+1,e5,aA rfl,by omega,by omega,A5,rfl,F5,rfl⟩ ?_
    rintro k' vars h6 ⟨j,x,⟨g,rfl⟩,hj0,hj,A6,hU,F6,rfl⟩;have sz6:=A6.size
    by_cases h1:(j:Int)<(b:Int)
    ·have e1:decide ((j:Int)<(b:Int))=true:=decide_eq_true h1
     have ej1:(j:Int)- 1=((j- 1:Nat):Int):=by omega
     have eJ1:(j:Int)+1=((j+1:Nat):Int):=by omega
     have c1:=A6.rd (i:=j) (by omega);have c2:=A6.rd (i:=j- 1) (by omega);simp(disch:=omega)only[go_sem,e1,ej1,c1,c2];refine (srt_cmp A6 (i:=j) (j:=j- 1) (by omega) (by omega) _ (by omega)).mono ?_;rintro _ h7 ⟨z,rfl,hz,fh7⟩;have f7:Fr h6 h7:=Fr.trans ((Fr.refl h6).bJ (by omega)) fh7;have A7:=A6.fr f7;have F7:=fxt F6 (Fx.of f7)
     cases hl:Srt.lt x[j]! x[j- 1]! with
     |false=>
      rw[shU_f (by omega) hl] at hU;rw[←hU] at hR;simp(disch:=omega)only[go_sem,hz,hl,e55];exact⟨s,by omega,s,m,x,aA rfl,by omega,by omega,by omega,A7,hR,F7,rfl⟩
     |true=>
      rw[shU_t (by omega) hl] at hU;have c1:=A7.rd (i:=j) (by omega);have c2:=A7.rd (i:=j- 1) (by omega);simp(disch:=omega)only[go_sem,hz,hl,ej1,eJ1,c1,c2,A7.get,put_cont,put_cont'];have W:=A7.swap (i:=j) (j:=j- 1) (nx:=h7.next+18) (by omega) rfl;exact⟨b-(j+1),by omega,j+1,_,aA rfl,by omega,by omega,W.1,hU,fxt F7 W.2,rfl⟩
    ·have e1:decide ((j:Int)<(b:Int))=false:=decide_eq_false h1
     rw[shiftUp,if_neg (by omega)] at hU;rw[←hU] at hR;simp(disch:=omega)only[go_sem,e1,e55];exact⟨s,by omega,s,m,x,aA rfl,by omega,by omega,by omega,A6,hR,F6,rfl⟩
   ·rw[if_neg (by omega)] at hR
    simp(disch:=omega)only[go_sem,e55];exact⟨s,by omega,s,m,e5,aA rfl,by omega,by omega,by omega,A5,hR,F5,rfl⟩
end
end Go.Proofs.YtapfcpkecmmagaaGreat.Cls
