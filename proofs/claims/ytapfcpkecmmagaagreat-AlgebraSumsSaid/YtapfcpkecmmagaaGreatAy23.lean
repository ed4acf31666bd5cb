/- The abstract machine, by weakest preconditions. -/
import Derived.Test.YtapfcpkecmmagaaGreatAy22
namespace Go.Ay
section
variable {g:Nat} {args a' v v':List V} {R:V->H->Prop} {c:C} {h':H}
def mC {α:Type}(o:Option α)(K:α->Prop):Prop:= ∃a,o=some a/\K a
theorem Ur {α:Type}(a:α)(K:α->Prop):mC (some a) K=K a:=propext ⟨λ⟨_,h,k⟩=>by cases h;exact k,λk=>⟨a,rfl,k⟩⟩
theorem Ps {α:Type}{o o':Option α}{K:α->Prop}(h:o=o'):mC o K=mC o' K:=by rw[h]
section
variable (p:Nat->Option Fn)
def Ev (g:Nat)(args:List V)(h:H)(Q:V->H->Prop):Prop:= ∃N f v h',(lM p N f).1 g args h=some (v,h')/\Q v h'
def Ey (id:Nat)(args:List V)(h:H)(Q:V->H->Prop):Prop:= ∃N f v h',(lM p N f).2 id args h=some (v,h')/\Q v h'
def Nj (vars loc:List V)(h:H)(a:dZ)(Q:V->H->Prop):Prop:= ∃N f v h',lI (lM p N f).1 (lM p N f).2 vars loc h a=some (v,h')/\Q v h'
def Ux (its:List It)(vars loc:List V)(h:H)(Q:List V->H->Prop):Prop:= ∃N f vars' h',tG (lM p N f).1 (lM p N f).2 its vars loc h=some (vars',h')/\Q vars' h'
def Vk (base:Nat)(xs:List AI)(vars:List V)(log:Log)(h:H)(Q:List V->H->Prop):Prop:= ∃N f vars' h',uW (lM p N f).1 (lM p N f).2 base xs vars log h=some (vars',h')/\Q vars' h'
def Wp (rd:Option Nat)(c:C)(vars:List V)(h:H)(Q:E->List V->H->Prop):Prop:=
 ∃N f e vars' h',run (lM p N f).1 (lM p N f).2 N rd c vars h=some (e,vars', [],h')/\Q e vars' h'
variable {p}
theorem Ev.mono {h:H}{Q:V->H->Prop}(e:Ev p g args h Q)(k: ∀v h',Q v h'->R v h'):Ev p g args h R:=by
 obtain⟨N,f,v,h',e,q⟩:=e;exact⟨N,f,v,h',e,k _ _ q⟩
theorem Ey.mono {id:Nat}{h:H}{Q:V->H->Prop}(e:Ey p id args h Q)(k: ∀v h',Q v h'->R v h'):Ey p id args h R:=by
 obtain⟨N,f,v,h',e,q⟩:=e;exact⟨N,f,v,h',e,k _ _ q⟩
theorem Wp.mono {rd:Option Nat}{vars:List V}{h:H}{Q R:E->List V->H->Prop}(e:Wp p rd c vars h Q)(k: ∀e v h',Q e v h'->R e v h'):Wp p rd c vars h R:=by
 obtain⟨N,f,a,v,h',e,q⟩:=e;exact⟨N,f,a,v,h',e,k _ _ _ q⟩
theorem Ux.mono {its:List It}{vars loc:List V}{h:H}{Q R:List V->H->Prop}(e:Ux p its vars loc h Q)(k: ∀v h',Q v h'->R v h'):Ux p its vars loc h R:=by
 obtain⟨N,f,v,h',e,q⟩:=e;exact⟨N,f,v,h',e,k _ _ q⟩
theorem ML {a:List V}{h:H}{Q:V->H->Prop}(e1:a=a')(e2:h=h'):Ev p g a h Q=Ev p g a' h' Q:=by rw[e1,e2]
theorem OC {a:List V}{h:H}{Q:V->H->Prop}(e1:a=a')(e2:h=h'):Ey p g a h Q=Ey p g a' h' Q:=by rw[e1,e2]
theorem GH {a:dZ}{l l':List V}{h:H}{Q:V->H->Prop}(e1:v=v')(e3:l=l')(e2:h=h'):Nj p v l h a Q=Nj p v' l' h' a Q:=by rw[e1,e2,e3]
theorem FB {its:List It}{l l':List V}{h:H}{Q:List V->H->Prop}(e1:v=v')(e3:l=l')(e2:h=h'):Ux p its v l h Q=Ux p its v' l' h' Q:=by rw[e1,e2,e3]
theorem DG {base base':Nat}{xs:List AI}{l:Log}{h:H}{Q:List V->H->Prop}(e0:base=base')(e1:v=v')(e2:h=h'):Vk p base xs v l h Q=Vk p base' xs v' l h' Q:=by rw[e0,e1,e2]
theorem NM {rd:Option Nat}{h:H}{Q:E->List V->H->Prop}(e1:v=v')(e2:h=h'):Wp p rd c v h Q=Wp p rd c v' h' Q:=by rw[e1,e2]
def Hq (p:Nat->Option Fn)(rd:Option Nat)(a b:C)(vars:List V)(h:H)(Q:E->List V->H->Prop)(v:V):Prop:=match v with| .bool true=>Wp p rd a vars h Q| .bool false=>Wp p rd b vars h Q|_=>False
section
variable {rd:Option Nat} {a b:C} {vars:List V} {h:H} {Q:E->List V->H->Prop}
theorem Wh {v v':V}(e:v=v'):Hq p rd a b vars h Q v=Hq p rd a b vars h Q v':=by rw[e]
theorem BN:Hq p rd a b vars h Q (.bool true)=Wp p rd a vars h Q:=rfl
theorem Xw:Hq p rd a b vars h Q (.bool false)=Wp p rd b vars h Q:=rfl
theorem aY {P:Prop}[Decidable P](x:P->Wp p rd a vars h Q)(y: ¬P->Wp p rd b vars h Q):Hq p rd a b vars h Q (.bool (decide P)):=by
 by_cases h:P
 ·rw[decide_eq_true h];exact x h
 ·rw[decide_eq_false h];exact y h
theorem HX {t:Bool}:Hq p rd a b vars h Q (.bool (!t))=Hq p rd b a vars h Q (.bool t):=by cases t<;>rfl
end
def unc (K:V->H->Prop):V×H->Prop:=λr=>K r.1 r.2
theorem WY (K:V->H->Prop)(v:V)(h:H):unc K (v,h)=K v h:=rfl
def IJ (p:Nat->Option Fn)(d:D)(its:List It)(vars loc:List V)(Q:List V->H->Prop):V->H->Prop:=λv h'=>Ux p its (lK d vars loc v).1 (lK d vars loc v).2 h' Q
theorem TV (d:D)(its:List It)(vars loc:List V)(Q:List V->H->Prop)(v:V)(h':H):IJ p d its vars loc Q v h'=Ux p its (lK d vars loc v).1 (lK d vars loc v).2 h' Q:=rfl
def Ts (p:Nat->Option Fn)(d:D)(a:dZ)(its:List It)(vars loc:List V)(h:H)(Q:List V->H->Prop)(w:Bool):Prop:=match w with
 |true=>Nj p vars loc h a (IJ p d its vars loc Q)
 |false=>Ux p its (lK d vars loc .undef).1 (lK d vars loc .undef).2 h Q
section
variable {d:D} {a:dZ} {its:List It} {vars loc:List V} {h:H} {Q:List V->H->Prop}
theorem Rn {v v':Bool}(e:v=v'):Ts p d a its vars loc h Q v=Ts p d a its vars loc h Q v':=by rw[e]
theorem Wr:Ts p d a its vars loc h Q true=Nj p vars loc h a (IJ p d its vars loc Q):=rfl
theorem Ri:Ts p d a its vars loc h Q false=Ux p its (lK d vars loc .undef).1 (lK d vars loc .undef).2 h Q:=rfl
end
def Nt (p:Nat->Option Fn)(base:Nat)(x:AI)(xs:List AI)(vars:List V)(log:Log)(Q:List V->H->Prop):V->H->Prop:=λv h'=>qD x.cks log h'=true/\Vk p base xs (lK x.it.d vars [] v).1 (Gc x vars v log) h' Q
theorem VB (base i:Nat)(d:D)(g:Option (X×Bool))(a:dZ)(al:Bool)(cks:List Nat)(xs:List AI)(vars:List V)(log:Log)(Q:List V->H->Prop)(v:V)(h':H):Nt p base ⟨i,⟨d,g,a⟩,al,cks⟩ xs vars log Q v h'=(qD cks log h'=true/\Vk p base xs (lK d vars [] v).1 (Gc ⟨i,⟨d,g,a⟩,al,cks⟩ vars v log) h' Q):=rfl
def Mt (p:Nat->Option Fn)(base i:Nat)(d:D)(x:X)(b:Bool)(a:dZ)(al:Bool)(cks:List Nat)(xs:List AI)(vars:List V)(log:Log)(h:H)(Q:List V->H->Prop)(w:Bool):Prop:=match w,al with
 |true,true=>mC (Hk vars h (base+i) a) (unc (Nt p base ⟨i,⟨d,some (x,b),a⟩,true,cks⟩ xs vars log Q))
 |true,false=>Nj p vars [] h a (Nt p base ⟨i,⟨d,some (x,b),a⟩,false,cks⟩ xs vars log Q)
 |false,_=>qD cks log h=true/\Vk p base xs (lK d vars [] .undef).1 log h Q
section
variable {base i:Nat} {d:D} {x:X} {b al:Bool} {a:dZ} {cks:List Nat} {xs:List AI} {vars:List V} {log:Log} {h:H} {Q:List V->H->Prop}
theorem Ui {v v':Bool}(e:v=v'):Mt p base i d x b a al cks xs vars log h Q v=Mt p base i d x b a al cks xs vars log h Q v':=by rw[e]
theorem KH:Mt p base i d x b a true cks xs vars log h Q true=mC (Hk vars h (base+i) a) (unc (Nt p base ⟨i,⟨d,some (x,b),a⟩,true,cks⟩ xs vars log Q)):=rfl
theorem KL:Mt p base i d x b a false cks xs vars log h Q true=Nj p vars [] h a (Nt p base ⟨i,⟨d,some (x,b),a⟩,false,cks⟩ xs vars log Q):=rfl
theorem RG:Mt p base i d x b a al cks xs vars log h Q false=(qD cks log h=true/\Vk p base xs (lK d vars [] .undef).1 log h Q):=rfl
end
theorem Yp (p:Nat->Option Fn){N N' f f':Nat}(h1:N<=N')(h2:f<=f'):Le (lM p N f).1 (lM p N' f').1/\Le (lM p N f).2 (lM p N' f').2:=Sw p h1 f f' h2
theorem ZH (vars loc:List V)(h:H)(i:I)(Q:V->H->Prop):Nj p vars loc h (.op i) Q=mC (cU (xv vars loc) h i) (unc Q):=by
 unfold Nj mC;refine propext ⟨λ⟨N,f,v,h',e,q⟩=>⟨(v,h'),by rw[rN] at e;exact e,q⟩,λ⟨r,e,q⟩=>⟨0,0,r.1,r.2,by rw[rN];exact e,q⟩⟩
theorem GV (vars loc:List V)(h:H)(g:Nat)(args:List X)(Q:V->H->Prop):Nj p vars loc h (.call g args) Q=Ev p g (args.map (xv vars loc)) h Q:=by
 unfold Nj Ev;simp only[rZ]
def Aa (p:Nat->Option Fn)(x:V)(args:List V)(h:H)(Q:V->H->Prop):Prop:=match x with
 | .fn g fs cs=>Ev p g (fs++args++cs) h Q
 | .yl id=>Ey p id args h Q
 |_=>False
theorem Aa.mono {x:V}{h:H}{Q:V->H->Prop}(e:Aa p x args h Q)(k: ∀v h',Q v h'->R v h'):Aa p x args h R:=by
 unfold Aa at*;split at e
 ·exact e.mono k
 ·exact e.mono k
 ·exact e.elim
theorem Tq {x x':V}{a:List V}{h:H}{Q:V->H->Prop}(e0:x=x')(e1:a=a')(e2:h=h'):Aa p x a h Q=Aa p x' a' h' Q:=by rw[e0,e1,e2]
theorem NR (g:Nat)(fs cs args:List V)(h:H)(Q:V->H->Prop):Aa p (.fn g fs cs) args h Q=Ev p g (fs++args++cs) h Q:=rfl
theorem OV (id:Nat)(args:List V)(h:H)(Q:V->H->Prop):Aa p (.yl id) args h Q=Ey p id args h Q:=rfl
theorem CT (vars loc:List V)(h:H)(x:X)(args:List X)(Q:V->H->Prop):Nj p vars loc h (.callv x args) Q=Aa p (xv vars loc x) (args.map (xv vars loc)) h Q:=by
 unfold Nj;simp only[qB];unfold Aa;cases xv vars loc x<;>simp [Ev,Ey]
def Oq (p:Nat->Option Fn)(g t:Nat)(x:V)(args:List V)(h:H)(Q:V->H->Prop):Prop:=match x with
 | .ifc u v=>u=t/\Ev p g (v::args) h Q
 |_=>False
theorem Yu (g t:Nat)(v:V)(args:List V)(h:H)(Q:V->H->Prop):Oq p g t (.ifc t v) args h Q=Ev p g (v::args) h Q:=by
 simp [Oq]
theorem EZ (vars loc:List V)(h:H)(g t:Nat)(x:X)(args:List X)(Q:V->H->Prop):Nj p vars loc h (.calli g t x args) Q=Oq p g t (xv vars loc x) (args.map (xv vars loc)) h Q:=by
 unfold Nj;simp only[pY];unfold Oq;cases xv vars loc x<;>simp only[reduceCtorEq,false_and,exists_false];rename_i u v
 by_cases hu:u=t
 ·subst hu
  simp [Ev]
 ·have:Nat.beq u t=false:=by
   cases hq:Nat.beq u t with
   |false=>rfl
   |true=>exact absurd (Nat.eq_of_beq_eq_true hq) hu
  simp [this,hu]
def Qh (p:Nat->Option Fn)(g:Nat)(vs:List V)(h:H)(Q:V->H->Prop):Prop:=vs.all V.Eh=true/\Ev p g vs ⟨.lf,0⟩ (λv _=>v.Eh=true/\Q v h)
theorem BX (vars loc:List V)(h:H)(g:Nat)(args:List X)(Q:V->H->Prop):Nj p vars loc h (.callp g args) Q=Qh p g (args.map (xv vars loc)) h Q:=by
 unfold Nj Qh Ev;refine propext ⟨λ⟨N,f,v,h',e,q⟩=>?_,λ⟨h1,N,f,v,h',e,h2,q⟩=>⟨N,f,v,h,?_,q⟩⟩
 ·rw[lJ] at e
  obtain⟨rfl,h1,h2,h3,h4⟩:=wW e;exact⟨h1,N,f,v,h3,h4,h2,q⟩
 ·rw[lJ]
  unfold Fv;simp only[h1,e,h2,cond_true]
theorem Qh.intro {vs:List V}{h:H}{Q:V->H->Prop}(e:Ev p g vs ⟨.lf,0⟩ R)(h1:vs.all V.Eh=true)(k: ∀v h',R v h'->v.Eh=true/\Q v h):Qh p g vs h Q:=⟨h1,e.mono k⟩
theorem QO (vars loc:List V)(h:H)(Q:List V->H->Prop):Ux p [] vars loc h Q=Q vars h:=by
 unfold Ux;refine propext ⟨λ⟨N,f,v,h',e,q⟩=>?_,λq=>⟨0,0,vars,h,rfl,q⟩⟩;rw[Ez] at e;cases e;exact q
theorem KX (d:D)(a:dZ)(its:List It)(vars loc:List V)(h:H)(Q:List V->H->Prop):
  Ux p (⟨d,none,a⟩::its) vars loc h Q=Nj p vars loc h a (IJ p d its vars loc Q):=by
 unfold IJ Ux Nj
 refine propext ⟨λ⟨N,f,v,h',e,q⟩=>?_,λ⟨N,f,v,h1,e,N2,f2,vars',h',e2,q⟩=>?_⟩
 ·rw[mT] at e
  simp only[fV] at e
  split at e
  ·rename_i v1 h1 ha
   exact⟨N,f,v1,h1,ha,N,f,v,h',e,q⟩
  ·cases e
 ·refine⟨max N N2,max f f2,vars',h',?_,q⟩
  rw[mT]
  have b1:=Yp p (Nat.le_max_left N N2) (Nat.le_max_left f f2)
  have b2:=Yp p (Nat.le_max_right N N2) (Nat.le_max_right f f2)
  simp only[fV,oU b1.1 b1.2 e]
  exact oZ b2.1 b2.2 _ _ _ _ _ e2
theorem DJ (d:D)(x:X)(b:Bool)(a:dZ)(its:List It)(vars loc:List V)(h:H)(Q:List V->H->Prop):
  Ux p (⟨d,some (x,b),a⟩::its) vars loc h Q=mC (fV vars loc (some (x,b))) (Ts p d a its vars loc h Q):=by
 unfold mC
 refine propext ⟨λ⟨N,f,v,h',e,q⟩=>?_,λ⟨w,hw,k⟩=>?_⟩
 ·rw[mT] at e
  split at e
  ·rename_i hw
   refine⟨true,hw,?_⟩
   split at e
   ·rename_i v1 h1 ha
    exact⟨N,f,v1,h1,ha,N,f,v,h',e,q⟩
   ·cases e
  ·rename_i hw
   exact⟨false,hw,N,f,v,h',e,q⟩
  ·cases e
 ·cases w with
  |true=>
   obtain⟨N,f,v,h1,e,N2,f2,vars',h',e2,q⟩:=k;refine⟨max N N2,max f f2,vars',h',?_,q⟩;rw[mT];have b1:=Yp p (Nat.le_max_left N N2) (Nat.le_max_left f f2);have b2:=Yp p (Nat.le_max_right N N2) (Nat.le_max_right f f2);simp only[hw,oU b1.1 b1.2 e];exact oZ b2.1 b2.2 _ _ _ _ _ e2
  |false=>
   obtain⟨N,f,v,h',e,q⟩:=k;refine⟨N,f,v,h',?_,q⟩;rw[mT];simp only[hw];exact e
theorem SS (base:Nat)(vars:List V)(log:Log)(h:H)(Q:List V->H->Prop):Vk p base [] vars log h Q=Q vars h:=by
 unfold Vk;refine propext ⟨λ⟨N,f,v,h',e,q⟩=>?_,λq=>⟨0,0,vars,h,rfl,q⟩⟩;rw[Dk] at e;cases e;exact q
theorem HH (base i:Nat)(d:D)(a:dZ)(cks:List Nat)(xs:List AI)(vars:List V)(log:Log)(h:H)(Q:List V->H->Prop):
  Vk p base (⟨i,⟨d,none,a⟩,false,cks⟩::xs) vars log h Q=Nj p vars [] h a (Nt p base ⟨i,⟨d,none,a⟩,false,cks⟩ xs vars log Q):=by
 unfold Nt Vk Nj
 refine propext ⟨λ⟨N,f,v,h',e,q⟩=>?_,λ⟨N,f,v,h1,e,ho,N2,f2,vars',h',e2,q⟩=>?_⟩
 ·rw[jG] at e
  simp only[fV,Bool.false_eq_true,if_false] at e
  split at e
  ·rename_i v1 h1 ha
   split at e
   ·rename_i ho
    exact⟨N,f,v1,h1,ha,ho,N,f,v,h',e,q⟩
   ·cases e
  ·cases e
 ·refine⟨max N N2,max f f2,vars',h',?_,q⟩
  rw[jG]
  have b1:=Yp p (Nat.le_max_left N N2) (Nat.le_max_left f f2)
  have b2:=Yp p (Nat.le_max_right N N2) (Nat.le_max_right f f2)
  simp only[fV,Bool.false_eq_true,if_false,oU b1.1 b1.2 e,ho,if_true]
  exact sN b2.1 b2.2 _ _ _ _ _ e2
theorem FH (base i:Nat)(d:D)(a:dZ)(cks:List Nat)(xs:List AI)(vars:List V)(log:Log)(h:H)(Q:List V->H->Prop):
  Vk p base (⟨i,⟨d,none,a⟩,true,cks⟩::xs) vars log h Q=mC (Hk vars h (base+i) a) (unc (Nt p base ⟨i,⟨d,none,a⟩,true,cks⟩ xs vars log Q)):=by
 unfold unc Nt Vk mC
 refine propext ⟨λ⟨N,f,v,h',e,q⟩=>?_,λ⟨r,e,ho,N2,f2,vars',h',e2,q⟩=>?_⟩
 ·rw[jG] at e
  simp only[fV,if_true] at e
  split at e
  ·rename_i v1 h1 ha
   split at e
   ·rename_i ho
    exact⟨(v1,h1),ha,ho,N,f,v,h',e,q⟩
   ·cases e
  ·cases e
 ·refine⟨N2,f2,vars',h',?_,q⟩
  rw[jG]
  obtain⟨v,h1⟩:=r
  simp only[fV,if_true,e,ho]
  exact e2
theorem DN (base i:Nat)(d:D)(x:X)(b:Bool)(a:dZ)(al:Bool)(cks:List Nat)(xs:List AI)(vars:List V)(log:Log)(h:H)(Q:List V->H->Prop):
  Vk p base (⟨i,⟨d,some (x,b),a⟩,al,cks⟩::xs) vars log h Q=mC (fV vars [] (some (x,b))) (Mt p base i d x b a al cks xs vars log h Q):=by
 unfold mC
 refine propext ⟨λ⟨N,f,v,h',e,q⟩=>?_,λ⟨w,hw,k⟩=>?_⟩
 ·rw[jG] at e
  split at e
  ·rename_i hw
   refine⟨true,hw,?_⟩
   cases al with
   |true=>
    simp only[if_true] at e;split at e
    ·rename_i v1 h1 ha
     split at e
     ·rename_i ho
      exact⟨(v1,h1),ha,ho,N,f,v,h',e,q⟩
     ·cases e
    ·cases e
   |false=>
    simp only[Bool.false_eq_true,if_false] at e;split at e
    ·rename_i v1 h1 ha
     split at e
     ·rename_i ho
      exact⟨N,f,v1,h1,ha,ho,N,f,v,h',e,q⟩
     ·cases e
    ·cases e
  ·rename_i hw
   split at e
   ·rename_i ho
    exact⟨false,hw,ho,N,f,v,h',e,q⟩
   ·cases e
  ·cases e
 ·cases w with
  |true=>
   cases al with
   |true=>
    obtain⟨⟨v,h1⟩,e,ho,N2,f2,vars',h',e2,q⟩:=k;refine⟨N2,f2,vars',h',?_,q⟩;rw[jG];simp only[hw,if_true,e,ho];exact e2
   |false=>
    obtain⟨N,f,v,h1,e,ho,N2,f2,vars',h',e2,q⟩:=k;refine⟨max N N2,max f f2,vars',h',?_,q⟩;rw[jG];have b1:=Yp p (Nat.le_max_left N N2) (Nat.le_max_left f f2);have b2:=Yp p (Nat.le_max_right N N2) (Nat.le_max_right f f2);simp only[hw,Bool.false_eq_true,if_false,oU b1.1 b1.2 e,ho,if_true];exact sN b2.1 b2.2 _ _ _ _ _ e2
  |false=>
   obtain⟨ho,N2,f2,vars',h',e2,q⟩:=k;refine⟨N2,f2,vars',h',?_,q⟩;rw[jG];simp only[hw,ho,if_true];exact e2
variable {rd:Option Nat} {vars:List V} {h:H} {Q:E->List V->H->Prop}
theorem UB:Wp p rd .skip vars h Q=Q .norm vars h:=by
 unfold Wp;simp only[Ct];exact propext ⟨λ⟨_,_,_,_,_,e,q⟩=>by cases e;exact q,λq=>⟨0,0,_,_,_,rfl,q⟩⟩
theorem ZM:Wp p rd .ret vars h Q=Q .ret vars h:=by
 unfold Wp;simp only[Py];exact propext ⟨λ⟨_,_,_,_,_,e,q⟩=>by cases e;exact q,λq=>⟨0,0,_,_,_,rfl,q⟩⟩
theorem UG (n:Nat):Wp p rd (.exit n) vars h Q=Q (.exit n) vars h:=by
 unfold Wp;simp only[Ht];exact propext ⟨λ⟨_,_,_,_,_,e,q⟩=>by cases e;exact q,λq=>⟨0,0,_,_,_,rfl,q⟩⟩
theorem MO (a:C):Wp p rd (.scope a) vars h Q=Wp p rd a vars h Q:=by
 unfold Wp;simp only[Fe]
theorem aaC (its:List It):Wp p rd (.reg its) vars h Q=Ux p its vars [] h (Q .norm):=by
 unfold Wp Ux;simp only[Pn];refine propext ⟨λ⟨N,f,e,v,h',he,q⟩=>?_,λ⟨N,f,v,h',he,q⟩=>⟨N,f,.norm,v,h',by rw[he],q⟩⟩;split at he
 ·rename_i hr;cases he;exact⟨N,f,_,_,hr,q⟩
 ·cases he
def XL (n:Nat)(Q:E->List V->H->Prop):List V->H->Prop:=λvs h'=>Q .norm (vs.take n) h'
theorem SZ (n:Nat)(vs:List V)(h':H):XL n Q vs h'=Q .norm (vs.take n) h':=rfl
theorem ZO (k nl:Nat)(its:List AI):Wp p rd (.any k nl its) vars h Q=Vk p h.next its (vars++List.replicate nl .unk) [] {h with next:=h.next+k} (XL vars.length Q):=by
 unfold XL Wp Vk;simp only[Qa];refine propext ⟨λ⟨N,f,e,v,h',he,q⟩=>?_,λ⟨N,f,v,h',he,q⟩=>⟨N,f,.norm,_,h',by rw[he],q⟩⟩;split at he
 ·rename_i hr;cases he;exact⟨N,f,_,_,hr,q⟩
 ·cases he
def Jg (p:Nat->Option Fn)(rd:Option Nat)(b:C)(Q:E->List V->H->Prop):E->List V->H->Prop:=λe vars h=>match e with| .norm=>Wp p rd b vars h Q|e=>Q e vars h
theorem Ix (b:C)(vars:List V)(h:H):Jg p rd b Q .norm vars h=Wp p rd b vars h Q:=rfl
theorem DY (b:C)(vars:List V)(h:H):Jg p rd b Q .ret vars h=Q .ret vars h:=rfl
theorem Xq (b:C)(n:Nat)(vars:List V)(h:H):Jg p rd b Q (.exit n) vars h=Q (.exit n) vars h:=rfl
theorem MS (a b:C):Wp p rd (.seq a b) vars h Q=Wp p rd a vars h (Jg p rd b Q):=by
 refine propext ⟨λ⟨N,f,e,v,h',he,q⟩=>?_,λ⟨N,f,e,v,h1,he,k⟩=>?_⟩
 ·rw[run_seq] at he
  cases hr:run (lM p N f).1 (lM p N f).2 N rd a vars h with
  |none=>simp [hr] at he
  |some r=>
   obtain⟨e1,v1,d1,h1⟩:=r;simp only[hr] at he
   cases e1 with
   |norm=>
    simp only at he
    cases hr2:run (lM p N f).1 (lM p N f).2 N rd b v1 h1 with
    |none=>simp [hr2] at he
    |some r=>
     obtain⟨e2,v2,d2,h2⟩:=r;simp only[hr2,Option.some.injEq,Prod.mk.injEq] at he;obtain⟨rfl,rfl,hd,rfl⟩:=he;simp only[List.append_eq_nil_iff] at hd;obtain⟨rfl,rfl⟩:=hd;exact⟨N,f,.norm,v1,h1,hr,N,f,_,_,_,hr2,q⟩
   |ret=>simp only at he;cases he;exact⟨N,f,_,_,_,hr,q⟩
   |exit n=>simp only at he;cases he;exact⟨N,f,_,_,_,hr,q⟩
 ·cases e with
  |norm=>
   obtain⟨N2,f2,e2,v2,h2,he2,q⟩:=k;refine⟨max N N2,max f f2,e2,v2,h2,?_,q⟩;have b1:=Yp p (Nat.le_max_left N N2) (Nat.le_max_left f f2);have b2:=Yp p (Nat.le_max_right N N2) (Nat.le_max_right f f2);rw[run_seq,iG b1.1 b1.2 (Nat.le_max_left N N2) _ _ _ _ he];simp only[iG b2.1 b2.2 (Nat.le_max_right N N2) _ _ _ _ he2]
   rfl
  |ret=>exact⟨N,f,_,_,_,by rw[run_seq,he],k⟩
  |exit n=>exact⟨N,f,_,_,_,by rw[run_seq,he],k⟩
theorem YL (x:X)(a b:C):Wp p rd (.ite x a b) vars h Q=Hq p rd a b vars h Q (xv vars [] x):=by
 unfold Hq Wp;simp only[run_ite]
 cases xv vars [] x with
 |bool t=>cases t<;>rfl
 |_=>exact propext ⟨λ⟨_,_,_,_,_,e,_⟩=>(nomatch e),λh=>h.elim⟩
def tT (id:Nat)(Q:E->List V->H->Prop):E->List V->H->Prop:=λe vars h=>match e with| .exit n=>if n=id then Q .norm vars h else Q (.exit n) vars h|e=>Q e vars h
theorem Rf (id:Nat)(vars:List V)(h:H):tT id Q .norm vars h=Q .norm vars h:=rfl
theorem Vc (id:Nat)(vars:List V)(h:H):tT id Q .ret vars h=Q .ret vars h:=rfl
theorem xT (id:Nat)(vars:List V)(h:H):tT id Q (.exit id) vars h=Q .norm vars h:=if_pos rfl
theorem CX (id n:Nat)(hn:n≠id)(vars:List V)(h:H):tT id Q (.exit n) vars h=Q (.exit n) vars h:=if_neg hn
theorem LM (id:Nat)(a:C):Wp p rd (.block id a) vars h Q=Wp p rd a vars h (tT id Q):=by
 unfold Wp;simp only[Ep];refine propext ⟨λ⟨N,f,e,v,h',he,q⟩=>?_,λ⟨N,f,e,v,h1,he,k⟩=>?_⟩
 ·cases hr:run (lM p N f).1 (lM p N f).2 N rd a vars h with
  |none=>simp [hr] at he
  |some r=>
   obtain⟨e1,v1,d1,h1⟩:=r;simp only[hr] at he
   cases e1 with
   |exit n=>
    simp only at he;split at he
    ·rename_i hn;cases he;exact⟨N,f,_,_,_,hr,by simp only[tT];rw[if_pos hn];exact q⟩
    ·rename_i hn;cases he;exact⟨N,f,_,_,_,hr,by simp only[tT];rw[if_neg hn];exact q⟩
   |norm=>simp only at he;cases he;exact⟨N,f,_,_,_,hr,q⟩
   |ret=>simp only at he;cases he;exact⟨N,f,_,_,_,hr,q⟩
 ·cases e with
  |exit n=>
   simp only[tT] at k;split at k
   ·rename_i hn;exact⟨N,f,_,_,_,by rw[he];simp only;rw[if_pos hn],k⟩
   ·rename_i hn;exact⟨N,f,_,_,_,by rw[he];simp only;rw[if_neg hn],k⟩
  |norm=>exact⟨N,f,_,_,_,by rw[he],k⟩
  |ret=>exact⟨N,f,_,_,_,by rw[he],k⟩
def Qe (J:List V->H->Prop)(Q:E->List V->H->Prop):E->List V->H->Prop:=λe vars h=>match e with| .norm=>J vars h|e=>Q e vars h
theorem Tu (J:List V->H->Prop)(vars:List V)(h:H):Qe J Q .norm vars h=J vars h:=rfl
theorem Vf (J:List V->H->Prop)(vars:List V)(h:H):Qe J Q .ret vars h=Q .ret vars h:=rfl
theorem Uh (J:List V->H->Prop)(n:Nat)(vars:List V)(h:H):Qe J Q (.exit n) vars h=Q (.exit n) vars h:=rfl
theorem aI (J:Nat->List V->H->Prop)(k:Nat)(h0:J k vars h)
  (step: ∀k vars h,J k vars h->Wp p rd c vars h (Qe (λv h'=> ∃k',k'<k/\J k' v h') Q)):Wp p rd (.loop c) vars h Q:=by
 have key: ∀k vars h,J k vars h-> ∃N f n e vars' h',xR (run (lM p N f).1 (lM p N f).2 N rd c) n vars h=some (e,vars', [],h')/\Q e vars' h':=by
  intro k
  induction k using Nat.strongRecOn with
  |ind k ih=>
   intro vars h hJ;obtain⟨N,f,e,v,h1,he,q⟩:=step k vars h hJ
   cases e with
   |norm=>
    obtain⟨k',hk',hJ'⟩:=q;obtain⟨N2,f2,n,e2,v2,h2,he2,q2⟩:=ih k' hk' v h1 hJ';have b1:=Yp p (Nat.le_max_left N N2) (Nat.le_max_left f f2);have b2:=Yp p (Nat.le_max_right N N2) (Nat.le_max_right f f2);refine⟨max N N2,max f f2,n+1,e2,v2,h2,?_,q2⟩;rw[sQ,iG b1.1 b1.2 (Nat.le_max_left N N2) _ _ _ _ he];simp only[wI (λv h r=>iG b2.1 b2.2 (Nat.le_max_right N N2) c v h r) n n (iP _) _ _ _ he2]
    rfl
   |ret=>exact⟨N,f,1,_,_,_,by rw[sQ,he],q⟩
   |exit n=>exact⟨N,f,1,_,_,_,by rw[sQ,he],q⟩
 obtain⟨N,f,n,e,v,h',he,q⟩:=key k vars h h0
 refine⟨max N n,f,e,v,h',?_,q⟩
 have b:=Yp p (Nat.le_max_left N n) (iP f)
 rw[Jo]
 exact wI (λv h r=>iG b.1 b.2 (Nat.le_max_left N n) c v h r) n (max N n) (Nat.le_max_right N n) _ _ _ he
def MU (id:Nat)(vars:List V)(Q:E->List V->H->Prop):V->H->Prop:=λ_ h'=> ∃r,h'.get id=some (.loop r)/\r.st≠ .busy/\Q (r.pend.getD .norm) vars (h'.set id (some (.loop {r with st:= .out})))
def Kh (p:Nat->Option Fn)(rd:Option Nat)(x:V)(pars:List Nat)(assign body:C)(vars:List V)(h:H)(Q:E->List V->H->Prop):Prop:=
 match x with
 | .fn g fs cs=>FT rd h=true/\Ev p g (fs++ .yl h.next::cs) (h.new (.loop {vars,pars,assign,body,st:= .ready,pend:=none})) (MU h.next vars Q)
 |_=>False
theorem Pz {x x':V}{pars:List Nat}{a b:C}{h:H}(e0:x=x')(e1:v=v')(e2:h=h'):Kh p rd x pars a b v h Q=Kh p rd x' pars a b v' h' Q:=by rw[e0,e1,e2]
theorem CL (g:Nat)(fs cs:List V)(pars:List Nat)(assign body:C):Kh p rd (.fn g fs cs) pars assign body vars h Q=(FT rd h=true/\Ev p g (fs++ .yl h.next::cs) (h.new (.loop {vars,pars,assign,body,st:= .ready,pend:=none})) (MU h.next vars Q)):=rfl
theorem KZ (x:X)(pars:List Nat)(a b:C):Wp p rd (.range x pars a b) vars h Q=Kh p rd (xv vars [] x) pars a b vars h Q:=by
 unfold Wp Kh;simp only[Dj,yQ]
 cases xv vars [] x with
 |fn g fs cs=>
  simp only;refine propext ⟨λ⟨N,f,e,v,h',he,q⟩=>?_,λ⟨ho,N,f,v,h',he,r,hg,hb,q⟩=>?_⟩
  ·split at he
   ·rename_i ho
    refine⟨ho,?_⟩;split at he
    ·rename_i v1 h1 hc
     split at he
     ·rename_i r hg
      split at he
      ·cases he
      ·rename_i hb
       cases he;exact⟨N,f,v1,h1,hc,r,hg,hb,q⟩
     ·cases he
    ·cases he
   ·cases he
  ·refine⟨N,f,_,_,_,?_,q⟩
   rw[if_pos ho];simp only[he,hg];rw[if_neg hb]
 |_=>exact propext ⟨λ⟨_,_,_,_,_,e,_⟩=>(nomatch e),λh=>h.elim⟩
def VO (Q:V->H->Prop)(h:H):List V->Prop:=λvs=>Q (Eg vs) h
theorem RI (Q:V->H->Prop)(h:H)(vs:List V):VO Q h vs=Q (Eg vs) h:=rfl
def MD (results:List Rv)(Q:V->H->Prop):E->List V->H->Prop:=λe vars h=>match e with
 | .exit _=>False
 |_=>mC (cH (results.map (zR vars h))) (VO Q h)
theorem EH (results:List Rv)(Q:V->H->Prop)(vars:List V)(h:H):MD results Q .norm vars h=mC (cH (results.map (zR vars h))) (VO Q h):=rfl
theorem IW (results:List Rv)(Q:V->H->Prop)(vars:List V)(h:H):MD results Q .ret vars h=mC (cH (results.map (zR vars h))) (VO Q h):=rfl
theorem Fz {fn:Fn}{h:H}{Q:V->H->Prop}(hg:p g=some fn)(hl:args.length=fn.nargs)(hw:Wp p none fn.body (zW fn args) h (MD fn.results Q)):Ev p g args h Q:=by
 obtain⟨N,f,e,v,h',he,q⟩:=hw
 cases e with
 |exit n=>exact q.elim
 |norm=>
  obtain⟨vs,hv,q⟩:=q;refine⟨N,f+1,Eg vs,h',?_,q⟩;rw[pX];simp only[yK,hg,hl,if_true,he,vB,hv,Option.map_some]
 |ret=>
  obtain⟨vs,hv,q⟩:=q;refine⟨N,f+1,Eg vs,h',?_,q⟩;rw[pX];simp only[yK,hg,hl,if_true,he,vB,hv,Option.map_some]
def Hl (id:Nat)(Q:V->H->Prop):E->List V->H->Prop:=λe _ h=> ∃r3,h.get id=some (.loop r3)/\(match e with
 | .norm=>Q (.bool true) (h.set id (some (.loop {r3 with st:= .ready,pend:=none})))
 |e=>Q (.bool false) (h.set id (some (.loop {r3 with st:= .done,pend:=some e}))))
theorem abK {id:Nat}{h:H}{Q:V->H->Prop}{r:gJ}(hr:h.get id=some (.loop r))(hl:args.length=r.pars.length)
  (hw:Wp p (some id) r.assign ((r.pars.zip args).foldl (λvs q=>vs.set q.1 q.2) r.vars) h λe vars h1=>e= .norm/\ ∃r2,h1.get id=some (.loop r2)/\r2.st= .ready/\
   Wp p (some id) r.body vars (h1.set id (some (.loop {r2 with st:= .busy}))) (Hl id Q)):Ey p id args h Q:=by
 obtain⟨N,f,e,v,h1,he,rfl,r2,hr2,jB,N2,f2,e2,v2,h2,he2,r3,hr3,q⟩:=hw
 have b1:=Yp p (show N<=max N N2 by omega) (show f<=max f f2 by omega)
 have b2:=Yp p (show N2<=max N N2 by omega) (show f2<=max f f2 by omega)
 cases e2 with
 |norm=>
  refine⟨max N N2,max f f2+1,.bool true,_,?_,q⟩;rw[pX];simp only[uE,hr,hl,if_true,iG b1.1 b1.2 (show N<=max N N2 by omega) _ _ _ _ he,hr2,jB,iG b2.1 b2.2 (show N2<=max N N2 by omega) _ _ _ _ he2,hr3]
 |ret=>
  refine⟨max N N2,max f f2+1,.bool false,_,?_,q⟩;rw[pX];simp only[uE,hr,hl,if_true,iG b1.1 b1.2 (show N<=max N N2 by omega) _ _ _ _ he,hr2,jB,iG b2.1 b2.2 (show N2<=max N N2 by omega) _ _ _ _ he2,hr3]
 |exit n=>
  refine⟨max N N2,max f f2+1,.bool false,_,?_,q⟩;rw[pX];simp only[uE,hr,hl,if_true,iG b1.1 b1.2 (show N<=max N N2 by omega) _ _ _ _ he,hr2,jB,iG b2.1 b2.2 (show N2<=max N N2 by omega) _ _ _ _ he2,hr3]
end
end
end Go.Ay
