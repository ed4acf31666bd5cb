/- The abstract machine, by weakest preconditions. -/
import Derived.Test.YtapfcpkecmmagaaGreatAy22
namespace Go.Ay
section
variable {g:Nat} {args a' v v':List V} {R:V->H->Prop} {c:C} {h':H}
def mF {α:Type}(o:Option α)(K:α->Prop):Prop:= ∃a,o=some a/\K a
theorem Tc {α:Type}(a:α)(K:α->Prop):mF (some a) K=K a:=propext ⟨λ⟨_,h,k⟩=>by cases h;exact k,λk=>⟨a,rfl,k⟩⟩
theorem Mv {α:Type}{o o':Option α}{K:α->Prop}(h:o=o'):mF o K=mF o' K:=by rw[h]
section
variable (p:Nat->Option Fn)
def Ev (g:Nat)(args:List V)(h:H)(Q:V->H->Prop):Prop:= ∃N f v h',(lP p N f).1 g args h=some (v,h')/\Q v h'
def Ey (id:Nat)(args:List V)(h:H)(Q:V->H->Prop):Prop:= ∃N f v h',(lP p N f).2 id args h=some (v,h')/\Q v h'
def Me (vars loc:List V)(h:H)(a:dU)(Q:V->H->Prop):Prop:= ∃N f v h',kZ (lP p N f).1 (lP p N f).2 vars loc h a=some (v,h')/\Q v h'
def Ts (its:List It)(vars loc:List V)(h:H)(Q:List V->H->Prop):Prop:= ∃N f vars' h',sW (lP p N f).1 (lP p N f).2 its vars loc h=some (vars',h')/\Q vars' h'
def Xj (base:Nat)(xs:List AI)(vars:List V)(log:Log)(h:H)(Q:List V->H->Prop):Prop:= ∃N f vars' h',uL (lP p N f).1 (lP p N f).2 base xs vars log h=some (vars',h')/\Q vars' h'
def Wp (rd:Option Nat)(c:C)(vars:List V)(h:H)(Q:E->List V->H->Prop):Prop:=
 ∃N f e vars' h',run (lP p N f).1 (lP p N f).2 N rd c vars h=some (e,vars', [],h')/\Q e vars' h'
variable {p}
theorem Ev.mono {h:H}{Q:V->H->Prop}(e:Ev p g args h Q)(k: ∀v h',Q v h'->R v h'):Ev p g args h R:=by
 obtain⟨N,f,v,h',e,q⟩:=e;exact⟨N,f,v,h',e,k _ _ q⟩
theorem Ey.mono {id:Nat}{h:H}{Q:V->H->Prop}(e:Ey p id args h Q)(k: ∀v h',Q v h'->R v h'):Ey p id args h R:=by
 obtain⟨N,f,v,h',e,q⟩:=e;exact⟨N,f,v,h',e,k _ _ q⟩
theorem Wp.mono {rd:Option Nat}{vars:List V}{h:H}{Q R:E->List V->H->Prop}(e:Wp p rd c vars h Q)(k: ∀e v h',Q e v h'->R e v h'):Wp p rd c vars h R:=by
 obtain⟨N,f,a,v,h',e,q⟩:=e;exact⟨N,f,a,v,h',e,k _ _ _ q⟩
theorem Ts.mono {its:List It}{vars loc:List V}{h:H}{Q R:List V->H->Prop}(e:Ts p its vars loc h Q)(k: ∀v h',Q v h'->R v h'):Ts p its vars loc h R:=by
 obtain⟨N,f,v,h',e,q⟩:=e;exact⟨N,f,v,h',e,k _ _ q⟩
theorem HW {a:List V}{h:H}{Q:V->H->Prop}(e1:a=a')(e2:h=h'):Ev p g a h Q=Ev p g a' h' Q:=by rw[e1,e2]
theorem GX {a:List V}{h:H}{Q:V->H->Prop}(e1:a=a')(e2:h=h'):Ey p g a h Q=Ey p g a' h' Q:=by rw[e1,e2]
theorem DY {a:dU}{l l':List V}{h:H}{Q:V->H->Prop}(e1:v=v')(e3:l=l')(e2:h=h'):Me p v l h a Q=Me p v' l' h' a Q:=by rw[e1,e2,e3]
theorem BK {its:List It}{l l':List V}{h:H}{Q:List V->H->Prop}(e1:v=v')(e3:l=l')(e2:h=h'):Ts p its v l h Q=Ts p its v' l' h' Q:=by rw[e1,e2,e3]
theorem AM {base base':Nat}{xs:List AI}{l:Log}{h:H}{Q:List V->H->Prop}(e0:base=base')(e1:v=v')(e2:h=h'):Xj p base xs v l h Q=Xj p base' xs v' l h' Q:=by rw[e0,e1,e2]
theorem ND {rd:Option Nat}{h:H}{Q:E->List V->H->Prop}(e1:v=v')(e2:h=h'):Wp p rd c v h Q=Wp p rd c v' h' Q:=by rw[e1,e2]
def Hl (p:Nat->Option Fn)(rd:Option Nat)(a b:C)(vars:List V)(h:H)(Q:E->List V->H->Prop)(v:V):Prop:=match v with| .bool true=>Wp p rd a vars h Q| .bool false=>Wp p rd b vars h Q|_=>False
section
variable {rd:Option Nat} {a b:C} {vars:List V} {h:H} {Q:E->List V->H->Prop}
theorem Wx {v v':V}(e:v=v'):Hl p rd a b vars h Q v=Hl p rd a b vars h Q v':=by rw[e]
theorem BB:Hl p rd a b vars h Q (.bool true)=Wp p rd a vars h Q:=rfl
theorem Uj:Hl p rd a b vars h Q (.bool false)=Wp p rd b vars h Q:=rfl
theorem aW {P:Prop}[Decidable P](x:P->Wp p rd a vars h Q)(y: ¬P->Wp p rd b vars h Q):Hl p rd a b vars h Q (.bool (decide P)):=by
 by_cases h:P
 ·rw[decide_eq_true h];exact x h
 ·rw[decide_eq_false h];exact y h
theorem GL {t:Bool}:Hl p rd a b vars h Q (.bool (!t))=Hl p rd b a vars h Q (.bool t):=by cases t<;>rfl
end
def YI (K:V->H->Prop):V×H->Prop:=λr=>K r.1 r.2
theorem WZ (K:V->H->Prop)(v:V)(h:H):YI K (v,h)=K v h:=rfl
def GR (p:Nat->Option Fn)(d:D)(its:List It)(vars loc:List V)(Q:List V->H->Prop):V->H->Prop:=λv h'=>Ts p its (lK d vars loc v).1 (lK d vars loc v).2 h' Q
theorem OB (d:D)(its:List It)(vars loc:List V)(Q:List V->H->Prop)(v:V)(h':H):GR p d its vars loc Q v h'=Ts p its (lK d vars loc v).1 (lK d vars loc v).2 h' Q:=rfl
def Qe (p:Nat->Option Fn)(d:D)(a:dU)(its:List It)(vars loc:List V)(h:H)(Q:List V->H->Prop)(w:Bool):Prop:=match w with
 |true=>Me p vars loc h a (GR p d its vars loc Q)
 |false=>Ts p its (lK d vars loc .undef).1 (lK d vars loc .undef).2 h Q
section
variable {d:D} {a:dU} {its:List It} {vars loc:List V} {h:H} {Q:List V->H->Prop}
theorem Qo {v v':Bool}(e:v=v'):Qe p d a its vars loc h Q v=Qe p d a its vars loc h Q v':=by rw[e]
theorem Ud:Qe p d a its vars loc h Q true=Me p vars loc h a (GR p d its vars loc Q):=rfl
theorem Rs:Qe p d a its vars loc h Q false=Ts p its (lK d vars loc .undef).1 (lK d vars loc .undef).2 h Q:=rfl
end
def Nm (p:Nat->Option Fn)(base:Nat)(x:AI)(xs:List AI)(vars:List V)(log:Log)(Q:List V->H->Prop):V->H->Prop:=λv h'=>pL x.cks log h'=true/\Xj p base xs (lK x.it.d vars [] v).1 (Ew x vars v log) h' Q
theorem RM (base i:Nat)(d:D)(g:Option (X×Bool))(a:dU)(al:Bool)(cks:List Nat)(xs:List AI)(vars:List V)(log:Log)(Q:List V->H->Prop)(v:V)(h':H):Nm p base ⟨i,⟨d,g,a⟩,al,cks⟩ xs vars log Q v h'=(pL cks log h'=true/\Xj p base xs (lK d vars [] v).1 (Ew ⟨i,⟨d,g,a⟩,al,cks⟩ vars v log) h' Q):=rfl
def Ks (p:Nat->Option Fn)(base i:Nat)(d:D)(x:X)(b:Bool)(a:dU)(al:Bool)(cks:List Nat)(xs:List AI)(vars:List V)(log:Log)(h:H)(Q:List V->H->Prop)(w:Bool):Prop:=match w,al with
 |true,true=>mF (Jd vars h (base+i) a) (YI (Nm p base ⟨i,⟨d,some (x,b),a⟩,true,cks⟩ xs vars log Q))
 |true,false=>Me p vars [] h a (Nm p base ⟨i,⟨d,some (x,b),a⟩,false,cks⟩ xs vars log Q)
 |false,_=>pL cks log h=true/\Xj p base xs (lK d vars [] .undef).1 log h Q
section
variable {base i:Nat} {d:D} {x:X} {b al:Bool} {a:dU} {cks:List Nat} {xs:List AI} {vars:List V} {log:Log} {h:H} {Q:List V->H->Prop}
theorem Pv {v v':Bool}(e:v=v'):Ks p base i d x b a al cks xs vars log h Q v=Ks p base i d x b a al cks xs vars log h Q v':=by rw[e]
theorem LA:Ks p base i d x b a true cks xs vars log h Q true=mF (Jd vars h (base+i) a) (YI (Nm p base ⟨i,⟨d,some (x,b),a⟩,true,cks⟩ xs vars log Q)):=rfl
theorem MR:Ks p base i d x b a false cks xs vars log h Q true=Me p vars [] h a (Nm p base ⟨i,⟨d,some (x,b),a⟩,false,cks⟩ xs vars log Q):=rfl
theorem QG:Ks p base i d x b a al cks xs vars log h Q false=(pL cks log h=true/\Xj p base xs (lK d vars [] .undef).1 log h Q):=rfl
end
theorem Nj (p:Nat->Option Fn){N N' f f':Nat}(h1:N<=N')(h2:f<=f'):Le (lP p N f).1 (lP p N' f').1/\Le (lP p N f).2 (lP p N' f').2:=Ro p h1 f f' h2
theorem VC (vars loc:List V)(h:H)(i:I)(Q:V->H->Prop):Me p vars loc h (.op i) Q=mF (cG (xv vars loc) h i) (YI Q):=by
 unfold Me mF;refine propext ⟨λ⟨N,f,v,h',e,q⟩=>⟨(v,h'),by rw[rS] at e;exact e,q⟩,λ⟨r,e,q⟩=>⟨0,0,r.1,r.2,by rw[rS];exact e,q⟩⟩
theorem JM (vars loc:List V)(h:H)(g:Nat)(args:List X)(Q:V->H->Prop):Me p vars loc h (.call g args) Q=Ev p g (args.map (xv vars loc)) h Q:=by
 unfold Me Ev;simp only[sB]
def zC (p:Nat->Option Fn)(x:V)(args:List V)(h:H)(Q:V->H->Prop):Prop:=match x with
 | .fn g fs cs=>Ev p g (fs++args++cs) h Q
 | .yl id=>Ey p id args h Q
 |_=>False
theorem zC.mono {x:V}{h:H}{Q:V->H->Prop}(e:zC p x args h Q)(k: ∀v h',Q v h'->R v h'):zC p x args h R:=by
 unfold zC at*;split at e
 ·exact e.mono k
 ·exact e.mono k
 ·exact e.elim
theorem Pz {x x':V}{a:List V}{h:H}{Q:V->H->Prop}(e0:x=x')(e1:a=a')(e2:h=h'):zC p x a h Q=zC p x' a' h' Q:=by rw[e0,e1,e2]
theorem MJ (g:Nat)(fs cs args:List V)(h:H)(Q:V->H->Prop):zC p (.fn g fs cs) args h Q=Ev p g (fs++args++cs) h Q:=rfl
theorem HL (id:Nat)(args:List V)(h:H)(Q:V->H->Prop):zC p (.yl id) args h Q=Ey p id args h Q:=rfl
theorem CS (vars loc:List V)(h:H)(x:X)(args:List X)(Q:V->H->Prop):Me p vars loc h (.callv x args) Q=zC p (xv vars loc x) (args.map (xv vars loc)) h Q:=by
 unfold Me;simp only[pI];unfold zC;cases xv vars loc x<;>simp [Ev,Ey]
def Mz (p:Nat->Option Fn)(g t:Nat)(x:V)(args:List V)(h:H)(Q:V->H->Prop):Prop:=match x with
 | .ifc u v=>u=t/\Ev p g (v::args) h Q
 |_=>False
theorem Wh (g t:Nat)(v:V)(args:List V)(h:H)(Q:V->H->Prop):Mz p g t (.ifc t v) args h Q=Ev p g (v::args) h Q:=by
 simp [Mz]
theorem EP (vars loc:List V)(h:H)(g t:Nat)(x:X)(args:List X)(Q:V->H->Prop):Me p vars loc h (.calli g t x args) Q=Mz p g t (xv vars loc x) (args.map (xv vars loc)) h Q:=by
 unfold Me;simp only[pW];unfold Mz;cases xv vars loc x<;>simp only[reduceCtorEq,false_and,exists_false];rename_i u v
 by_cases hu:u=t
 ·subst hu
  simp [Ev]
 ·have:Nat.beq u t=false:=by
   cases hq:Nat.beq u t with
   |false=>rfl
   |true=>exact absurd (Nat.eq_of_beq_eq_true hq) hu
  simp [this,hu]
def My (p:Nat->Option Fn)(g:Nat)(vs:List V)(h:H)(Q:V->H->Prop):Prop:=vs.all V.Dz=true/\Ev p g vs ⟨.lf,0⟩ (λv _=>v.Dz=true/\Q v h)
theorem BY (vars loc:List V)(h:H)(g:Nat)(args:List X)(Q:V->H->Prop):Me p vars loc h (.callp g args) Q=My p g (args.map (xv vars loc)) h Q:=by
 unfold Me My Ev;refine propext ⟨λ⟨N,f,v,h',e,q⟩=>?_,λ⟨h1,N,f,v,h',e,h2,q⟩=>⟨N,f,v,h,?_,q⟩⟩
 ·rw[lF] at e
  obtain⟨rfl,h1,h2,h3,h4⟩:=vB e;exact⟨h1,N,f,v,h3,h4,h2,q⟩
 ·rw[lF]
  unfold En;simp only[h1,e,h2,cond_true]
theorem My.intro {vs:List V}{h:H}{Q:V->H->Prop}(e:Ev p g vs ⟨.lf,0⟩ R)(h1:vs.all V.Dz=true)(k: ∀v h',R v h'->v.Dz=true/\Q v h):My p g vs h Q:=⟨h1,e.mono k⟩
theorem SW (vars loc:List V)(h:H)(Q:List V->H->Prop):Ts p [] vars loc h Q=Q vars h:=by
 unfold Ts;refine propext ⟨λ⟨N,f,v,h',e,q⟩=>?_,λq=>⟨0,0,vars,h,rfl,q⟩⟩;rw[Dj] at e;cases e;exact q
theorem NK (d:D)(a:dU)(its:List It)(vars loc:List V)(h:H)(Q:List V->H->Prop):
  Ts p (⟨d,none,a⟩::its) vars loc h Q=Me p vars loc h a (GR p d its vars loc Q):=by
 unfold GR Ts Me
 refine propext ⟨λ⟨N,f,v,h',e,q⟩=>?_,λ⟨N,f,v,h1,e,N2,f2,vars',h',e2,q⟩=>?_⟩
 ·rw[mP] at e
  simp only[fO] at e
  split at e
  ·rename_i v1 h1 ha
   exact⟨N,f,v1,h1,ha,N,f,v,h',e,q⟩
  ·cases e
 ·refine⟨max N N2,max f f2,vars',h',?_,q⟩
  rw[mP]
  have b1:=Nj p (Nat.le_max_left N N2) (Nat.le_max_left f f2)
  have b2:=Nj p (Nat.le_max_right N N2) (Nat.le_max_right f f2)
  simp only[fO,oS b1.1 b1.2 e]
  exact oL b2.1 b2.2 _ _ _ _ _ e2
theorem CD (d:D)(x:X)(b:Bool)(a:dU)(its:List It)(vars loc:List V)(h:H)(Q:List V->H->Prop):
  Ts p (⟨d,some (x,b),a⟩::its) vars loc h Q=mF (fO vars loc (some (x,b))) (Qe p d a its vars loc h Q):=by
 unfold mF
 refine propext ⟨λ⟨N,f,v,h',e,q⟩=>?_,λ⟨w,hw,k⟩=>?_⟩
 ·rw[mP] at e
  split at e
  ·rename_i hw
   refine⟨true,hw,?_⟩
   split at e
   ·rename_i v1 h1 ha
    exact⟨N,f,v1,h1,ha,N,f,v,h',e,q⟩
   ·cases e
  ·rename_i hw
   exact⟨false,hw,N,f,v,h',e,q⟩
  ·cases e
 ·cases w with
  |true=>
   obtain⟨N,f,v,h1,e,N2,f2,vars',h',e2,q⟩:=k;refine⟨max N N2,max f f2,vars',h',?_,q⟩;rw[mP];have b1:=Nj p (Nat.le_max_left N N2) (Nat.le_max_left f f2);have b2:=Nj p (Nat.le_max_right N N2) (Nat.le_max_right f f2);simp only[hw,oS b1.1 b1.2 e];exact oL b2.1 b2.2 _ _ _ _ _ e2
  |false=>
   obtain⟨N,f,v,h',e,q⟩:=k;refine⟨N,f,v,h',?_,q⟩;rw[mP];simp only[hw];exact e
theorem PX (base:Nat)(vars:List V)(log:Log)(h:H)(Q:List V->H->Prop):Xj p base [] vars log h Q=Q vars h:=by
 unfold Xj;refine propext ⟨λ⟨N,f,v,h',e,q⟩=>?_,λq=>⟨0,0,vars,h,rfl,q⟩⟩;rw[Dr] at e;cases e;exact q
theorem MG (base i:Nat)(d:D)(a:dU)(cks:List Nat)(xs:List AI)(vars:List V)(log:Log)(h:H)(Q:List V->H->Prop):
  Xj p base (⟨i,⟨d,none,a⟩,false,cks⟩::xs) vars log h Q=Me p vars [] h a (Nm p base ⟨i,⟨d,none,a⟩,false,cks⟩ xs vars log Q):=by
 unfold Nm Xj Me
 refine propext ⟨λ⟨N,f,v,h',e,q⟩=>?_,λ⟨N,f,v,h1,e,ho,N2,f2,vars',h',e2,q⟩=>?_⟩
 ·rw[iY] at e
  simp only[fO,Bool.false_eq_true,if_false] at e
  split at e
  ·rename_i v1 h1 ha
   split at e
   ·rename_i ho
    exact⟨N,f,v1,h1,ha,ho,N,f,v,h',e,q⟩
   ·cases e
  ·cases e
 ·refine⟨max N N2,max f f2,vars',h',?_,q⟩
  rw[iY]
  have b1:=Nj p (Nat.le_max_left N N2) (Nat.le_max_left f f2)
  have b2:=Nj p (Nat.le_max_right N N2) (Nat.le_max_right f f2)
  simp only[fO,Bool.false_eq_true,if_false,oS b1.1 b1.2 e,ho,if_true]
  exact sG b2.1 b2.2 _ _ _ _ _ e2
theorem BF (base i:Nat)(d:D)(a:dU)(cks:List Nat)(xs:List AI)(vars:List V)(log:Log)(h:H)(Q:List V->H->Prop):
  Xj p base (⟨i,⟨d,none,a⟩,true,cks⟩::xs) vars log h Q=mF (Jd vars h (base+i) a) (YI (Nm p base ⟨i,⟨d,none,a⟩,true,cks⟩ xs vars log Q)):=by
 unfold YI Nm Xj mF
 refine propext ⟨λ⟨N,f,v,h',e,q⟩=>?_,λ⟨r,e,ho,N2,f2,vars',h',e2,q⟩=>?_⟩
 ·rw[iY] at e
  simp only[fO,if_true] at e
  split at e
  ·rename_i v1 h1 ha
   split at e
   ·rename_i ho
    exact⟨(v1,h1),ha,ho,N,f,v,h',e,q⟩
   ·cases e
  ·cases e
 ·refine⟨N2,f2,vars',h',?_,q⟩
  rw[iY]
  obtain⟨v,h1⟩:=r
  simp only[fO,if_true,e,ho]
  exact e2
theorem EW (base i:Nat)(d:D)(x:X)(b:Bool)(a:dU)(al:Bool)(cks:List Nat)(xs:List AI)(vars:List V)(log:Log)(h:H)(Q:List V->H->Prop):
  Xj p base (⟨i,⟨d,some (x,b),a⟩,al,cks⟩::xs) vars log h Q=mF (fO vars [] (some (x,b))) (Ks p base i d x b a al cks xs vars log h Q):=by
 unfold mF
 refine propext ⟨λ⟨N,f,v,h',e,q⟩=>?_,λ⟨w,hw,k⟩=>?_⟩
 ·rw[iY] at e
  split at e
  ·rename_i hw
   refine⟨true,hw,?_⟩
   cases al with
   |true=>
    simp only[if_true] at e;split at e
    ·rename_i v1 h1 ha
     split at e
     ·rename_i ho
      exact⟨(v1,h1),ha,ho,N,f,v,h',e,q⟩
     ·cases e
    ·cases e
   |false=>
    simp only[Bool.false_eq_true,if_false] at e;split at e
    ·rename_i v1 h1 ha
     split at e
     ·rename_i ho
      exact⟨N,f,v1,h1,ha,ho,N,f,v,h',e,q⟩
     ·cases e
    ·cases e
  ·rename_i hw
   split at e
   ·rename_i ho
    exact⟨false,hw,ho,N,f,v,h',e,q⟩
   ·cases e
  ·cases e
 ·cases w with
  |true=>
   cases al with
   |true=>
    obtain⟨⟨v,h1⟩,e,ho,N2,f2,vars',h',e2,q⟩:=k;refine⟨N2,f2,vars',h',?_,q⟩;rw[iY];simp only[hw,if_true,e,ho];exact e2
   |false=>
    obtain⟨N,f,v,h1,e,ho,N2,f2,vars',h',e2,q⟩:=k;refine⟨max N N2,max f f2,vars',h',?_,q⟩;rw[iY];have b1:=Nj p (Nat.le_max_left N N2) (Nat.le_max_left f f2);have b2:=Nj p (Nat.le_max_right N N2) (Nat.le_max_right f f2);simp only[hw,Bool.false_eq_true,if_false,oS b1.1 b1.2 e,ho,if_true];exact sG b2.1 b2.2 _ _ _ _ _ e2
  |false=>
   obtain⟨ho,N2,f2,vars',h',e2,q⟩:=k;refine⟨N2,f2,vars',h',?_,q⟩;rw[iY];simp only[hw,ho,if_true];exact e2
variable {rd:Option Nat} {vars:List V} {h:H} {Q:E->List V->H->Prop}
theorem TM:Wp p rd .skip vars h Q=Q .norm vars h:=by
 unfold Wp;simp only[Ap];exact propext ⟨λ⟨_,_,_,_,_,e,q⟩=>by cases e;exact q,λq=>⟨0,0,_,_,_,rfl,q⟩⟩
theorem VD:Wp p rd .ret vars h Q=Q .ret vars h:=by
 unfold Wp;simp only[Nf];exact propext ⟨λ⟨_,_,_,_,_,e,q⟩=>by cases e;exact q,λq=>⟨0,0,_,_,_,rfl,q⟩⟩
theorem QH (n:Nat):Wp p rd (.exit n) vars h Q=Q (.exit n) vars h:=by
 unfold Wp;simp only[Hd];exact propext ⟨λ⟨_,_,_,_,_,e,q⟩=>by cases e;exact q,λq=>⟨0,0,_,_,_,rfl,q⟩⟩
theorem JC (a:C):Wp p rd (.scope a) vars h Q=Wp p rd a vars h Q:=by
 unfold Wp;simp only[Di]
theorem UP (its:List It):Wp p rd (.reg its) vars h Q=Ts p its vars [] h (Q .norm):=by
 unfold Wp Ts;simp only[Ov];refine propext ⟨λ⟨N,f,e,v,h',he,q⟩=>?_,λ⟨N,f,v,h',he,q⟩=>⟨N,f,.norm,v,h',by rw[he],q⟩⟩;split at he
 ·rename_i hr;cases he;exact⟨N,f,_,_,hr,q⟩
 ·cases he
def UX (n:Nat)(Q:E->List V->H->Prop):List V->H->Prop:=λvs h'=>Q .norm (vs.take n) h'
theorem PK (n:Nat)(vs:List V)(h':H):UX n Q vs h'=Q .norm (vs.take n) h':=rfl
theorem YF (k nl:Nat)(its:List AI):Wp p rd (.any k nl its) vars h Q=Xj p h.next its (vars++List.replicate nl .unk) [] {h with next:=h.next+k} (UX vars.length Q):=by
 unfold UX Wp Xj;simp only[Pb];refine propext ⟨λ⟨N,f,e,v,h',he,q⟩=>?_,λ⟨N,f,v,h',he,q⟩=>⟨N,f,.norm,_,h',by rw[he],q⟩⟩;split at he
 ·rename_i hr;cases he;exact⟨N,f,_,_,hr,q⟩
 ·cases he
def Im (p:Nat->Option Fn)(rd:Option Nat)(b:C)(Q:E->List V->H->Prop):E->List V->H->Prop:=λe vars h=>match e with| .norm=>Wp p rd b vars h Q|e=>Q e vars h
theorem Hu (b:C)(vars:List V)(h:H):Im p rd b Q .norm vars h=Wp p rd b vars h Q:=rfl
theorem DQ (b:C)(vars:List V)(h:H):Im p rd b Q .ret vars h=Q .ret vars h:=rfl
theorem Xn (b:C)(n:Nat)(vars:List V)(h:H):Im p rd b Q (.exit n) vars h=Q (.exit n) vars h:=rfl
theorem MB (a b:C):Wp p rd (.seq a b) vars h Q=Wp p rd a vars h (Im p rd b Q):=by
 refine propext ⟨λ⟨N,f,e,v,h',he,q⟩=>?_,λ⟨N,f,e,v,h1,he,k⟩=>?_⟩
 ·rw[run_seq] at he
  cases hr:run (lP p N f).1 (lP p N f).2 N rd a vars h with
  |none=>simp [hr] at he
  |some r=>
   obtain⟨e1,v1,d1,h1⟩:=r;simp only[hr] at he
   cases e1 with
   |norm=>
    simp only at he
    cases hr2:run (lP p N f).1 (lP p N f).2 N rd b v1 h1 with
    |none=>simp [hr2] at he
    |some r=>
     obtain⟨e2,v2,d2,h2⟩:=r;simp only[hr2,Option.some.injEq,Prod.mk.injEq] at he;obtain⟨rfl,rfl,hd,rfl⟩:=he;simp only[List.append_eq_nil_iff] at hd;obtain⟨rfl,rfl⟩:=hd;exact⟨N,f,.norm,v1,h1,hr,N,f,_,_,_,hr2,q⟩
   |ret=>simp only at he;cases he;exact⟨N,f,_,_,_,hr,q⟩
   |exit n=>simp only at he;cases he;exact⟨N,f,_,_,_,hr,q⟩
 ·cases e with
  |norm=>
   obtain⟨N2,f2,e2,v2,h2,he2,q⟩:=k;refine⟨max N N2,max f f2,e2,v2,h2,?_,q⟩;have b1:=Nj p (Nat.le_max_left N N2) (Nat.le_max_left f f2);have b2:=Nj p (Nat.le_max_right N N2) (Nat.le_max_right f f2);rw[run_seq,fF b1.1 b1.2 (Nat.le_max_left N N2) _ _ _ _ he];simp only[fF b2.1 b2.2 (Nat.le_max_right N N2) _ _ _ _ he2]
   rfl
  |ret=>exact⟨N,f,_,_,_,by rw[run_seq,he],k⟩
  |exit n=>exact⟨N,f,_,_,_,by rw[run_seq,he],k⟩
theorem XQ (x:X)(a b:C):Wp p rd (.ite x a b) vars h Q=Hl p rd a b vars h Q (xv vars [] x):=by
 unfold Hl Wp;simp only[run_ite]
 cases xv vars [] x with
 |bool t=>cases t<;>rfl
 |_=>exact propext ⟨λ⟨_,_,_,_,_,e,_⟩=>(nomatch e),λh=>h.elim⟩
def tS (id:Nat)(Q:E->List V->H->Prop):E->List V->H->Prop:=λe vars h=>match e with| .exit n=>if n=id then Q .norm vars h else Q (.exit n) vars h|e=>Q e vars h
theorem Qc (id:Nat)(vars:List V)(h:H):tS id Q .norm vars h=Q .norm vars h:=rfl
theorem Us (id:Nat)(vars:List V)(h:H):tS id Q .ret vars h=Q .ret vars h:=rfl
theorem xX (id:Nat)(vars:List V)(h:H):tS id Q (.exit id) vars h=Q .norm vars h:=if_pos rfl
theorem DO (id n:Nat)(hn:n≠id)(vars:List V)(h:H):tS id Q (.exit n) vars h=Q (.exit n) vars h:=if_neg hn
theorem HA (id:Nat)(a:C):Wp p rd (.block id a) vars h Q=Wp p rd a vars h (tS id Q):=by
 unfold Wp;simp only[Dy];refine propext ⟨λ⟨N,f,e,v,h',he,q⟩=>?_,λ⟨N,f,e,v,h1,he,k⟩=>?_⟩
 ·cases hr:run (lP p N f).1 (lP p N f).2 N rd a vars h with
  |none=>simp [hr] at he
  |some r=>
   obtain⟨e1,v1,d1,h1⟩:=r;simp only[hr] at he
   cases e1 with
   |exit n=>
    simp only at he;split at he
    ·rename_i hn;cases he;exact⟨N,f,_,_,_,hr,by simp only[tS];rw[if_pos hn];exact q⟩
    ·rename_i hn;cases he;exact⟨N,f,_,_,_,hr,by simp only[tS];rw[if_neg hn];exact q⟩
   |norm=>simp only at he;cases he;exact⟨N,f,_,_,_,hr,q⟩
   |ret=>simp only at he;cases he;exact⟨N,f,_,_,_,hr,q⟩
 ·cases e with
  |exit n=>
   simp only[tS] at k;split at k
   ·rename_i hn;exact⟨N,f,_,_,_,by rw[he];simp only;rw[if_pos hn],k⟩
   ·rename_i hn;exact⟨N,f,_,_,_,by rw[he];simp only;rw[if_neg hn],k⟩
  |norm=>exact⟨N,f,_,_,_,by rw[he],k⟩
  |ret=>exact⟨N,f,_,_,_,by rw[he],k⟩
def Ih (J:List V->H->Prop)(Q:E->List V->H->Prop):E->List V->H->Prop:=λe vars h=>match e with| .norm=>J vars h|e=>Q e vars h
theorem Sd (J:List V->H->Prop)(vars:List V)(h:H):Ih J Q .norm vars h=J vars h:=rfl
theorem Ua (J:List V->H->Prop)(vars:List V)(h:H):Ih J Q .ret vars h=Q .ret vars h:=rfl
theorem Rc (J:List V->H->Prop)(n:Nat)(vars:List V)(h:H):Ih J Q (.exit n) vars h=Q (.exit n) vars h:=rfl
theorem aJ (J:Nat->List V->H->Prop)(k:Nat)(h0:J k vars h)
  (step: ∀k vars h,J k vars h->Wp p rd c vars h (Ih (λv h'=> ∃k',k'<k/\J k' v h') Q)):Wp p rd (.loop c) vars h Q:=by
 have key: ∀k vars h,J k vars h-> ∃N f n e vars' h',xT (run (lP p N f).1 (lP p N f).2 N rd c) n vars h=some (e,vars', [],h')/\Q e vars' h':=by
  intro k
  induction k using Nat.strongRecOn with
  |ind k ih=>
   intro vars h hJ;obtain⟨N,f,e,v,h1,he,q⟩:=step k vars h hJ
   cases e with
   |norm=>
    obtain⟨k',hk',hJ'⟩:=q;obtain⟨N2,f2,n,e2,v2,h2,he2,q2⟩:=ih k' hk' v h1 hJ';have b1:=Nj p (Nat.le_max_left N N2) (Nat.le_max_left f f2);have b2:=Nj p (Nat.le_max_right N N2) (Nat.le_max_right f f2);refine⟨max N N2,max f f2,n+1,e2,v2,h2,?_,q2⟩;rw[lH,fF b1.1 b1.2 (Nat.le_max_left N N2) _ _ _ _ he];simp only[rN (λv h r=>fF b2.1 b2.2 (Nat.le_max_right N N2) c v h r) n n (iL _) _ _ _ he2]
    rfl
   |ret=>exact⟨N,f,1,_,_,_,by rw[lH,he],q⟩
   |exit n=>exact⟨N,f,1,_,_,_,by rw[lH,he],q⟩
 obtain⟨N,f,n,e,v,h',he,q⟩:=key k vars h h0
 refine⟨max N n,f,e,v,h',?_,q⟩
 have b:=Nj p (Nat.le_max_left N n) (iL f)
 rw[rF]
 exact rN (λv h r=>fF b.1 b.2 (Nat.le_max_left N n) c v h r) n (max N n) (Nat.le_max_right N n) _ _ _ he
theorem jF (e:Wp p rd c vars h (Ih (λv h'=>Wp p rd (.loop c) v h' Q) Q)):Wp p rd (.loop c) vars h Q:=by
 obtain⟨N,f,e,v,h1,he,q⟩:=e
 cases e with
 |norm=>
  obtain⟨N2,f2,e2,v2,h2,he2,q⟩:=q;refine⟨max N N2+1,max f f2,e2,v2,h2,?_,q⟩;have b1:=Nj p (show N<=max N N2+1 by omega) (Nat.le_max_left f f2);have b2:=Nj p (show N2<=max N N2+1 by omega) (Nat.le_max_right f f2);rw[rF,lH,fF b1.1 b1.2 (by omega) _ _ _ _ he];rw[rF] at he2;simp only[rN (λv h r=>fF b2.1 b2.2 (show N2<=max N N2+1 by omega) c v h r) N2 (max N N2) (by omega) _ _ _ he2]
  rfl
 |ret=>
  refine⟨N+1,f,_,_,_,?_,q⟩;have b1:=Nj p (show N<=N+1 by omega) (iL f);rw[rF,lH,fF b1.1 b1.2 (by omega) _ _ _ _ he]
 |exit n=>
  refine⟨N+1,f,_,_,_,?_,q⟩;have b1:=Nj p (show N<=N+1 by omega) (iL f);rw[rF,lH,fF b1.1 b1.2 (by omega) _ _ _ _ he]
def KD (id:Nat)(vars:List V)(Q:E->List V->H->Prop):V->H->Prop:=λ_ h'=> ∃r,h'.get id=some (.loop r)/\r.st≠ .busy/\Q (r.pend.getD .norm) vars (h'.set id (some (.loop {r with st:= .out})))
def Jo (p:Nat->Option Fn)(rd:Option Nat)(x:V)(pars:List Nat)(assign body:C)(vars:List V)(h:H)(Q:E->List V->H->Prop):Prop:=
 match x with
 | .fn g fs cs=>DW rd h=true/\Ev p g (fs++ .yl h.next::cs) (h.new (.loop {vars,pars,assign,body,st:= .ready,pend:=none})) (KD h.next vars Q)
 |_=>False
theorem Ol {x x':V}{pars:List Nat}{a b:C}{h:H}(e0:x=x')(e1:v=v')(e2:h=h'):Jo p rd x pars a b v h Q=Jo p rd x' pars a b v' h' Q:=by rw[e0,e1,e2]
theorem DB (g:Nat)(fs cs:List V)(pars:List Nat)(assign body:C):Jo p rd (.fn g fs cs) pars assign body vars h Q=(DW rd h=true/\Ev p g (fs++ .yl h.next::cs) (h.new (.loop {vars,pars,assign,body,st:= .ready,pend:=none})) (KD h.next vars Q)):=rfl
theorem KX (x:X)(pars:List Nat)(a b:C):Wp p rd (.range x pars a b) vars h Q=Jo p rd (xv vars [] x) pars a b vars h Q:=by
 unfold Wp Jo;simp only[Ea,xI]
 cases xv vars [] x with
 |fn g fs cs=>
  simp only;refine propext ⟨λ⟨N,f,e,v,h',he,q⟩=>?_,λ⟨ho,N,f,v,h',he,r,hg,hb,q⟩=>?_⟩
  ·split at he
   ·rename_i ho
    refine⟨ho,?_⟩;split at he
    ·rename_i v1 h1 hc
     split at he
     ·rename_i r hg
      split at he
      ·cases he
      ·rename_i hb
       cases he;exact⟨N,f,v1,h1,hc,r,hg,hb,q⟩
     ·cases he
    ·cases he
   ·cases he
  ·refine⟨N,f,_,_,_,?_,q⟩
   rw[if_pos ho];simp only[he,hg];rw[if_neg hb]
 |_=>exact propext ⟨λ⟨_,_,_,_,_,e,_⟩=>(nomatch e),λh=>h.elim⟩
def RG (Q:V->H->Prop)(h:H):List V->Prop:=λvs=>Q (Dp vs) h
theorem PE (Q:V->H->Prop)(h:H)(vs:List V):RG Q h vs=Q (Dp vs) h:=rfl
def ME (results:List Rv)(Q:V->H->Prop):E->List V->H->Prop:=λe vars h=>match e with
 | .exit _=>False
 |_=>mF (bY (results.map (yW vars h))) (RG Q h)
theorem AO (results:List Rv)(Q:V->H->Prop)(vars:List V)(h:H):ME results Q .norm vars h=mF (bY (results.map (yW vars h))) (RG Q h):=rfl
theorem IC (results:List Rv)(Q:V->H->Prop)(vars:List V)(h:H):ME results Q .ret vars h=mF (bY (results.map (yW vars h))) (RG Q h):=rfl
theorem Et {fn:Fn}{h:H}{Q:V->H->Prop}(hg:p g=some fn)(hl:args.length=fn.nargs)(hw:Wp p none fn.body (zE fn args) h (ME fn.results Q)):Ev p g args h Q:=by
 obtain⟨N,f,e,v,h',he,q⟩:=hw
 cases e with
 |exit n=>exact q.elim
 |norm=>
  obtain⟨vs,hv,q⟩:=q;refine⟨N,f+1,Dp vs,h',?_,q⟩;rw[pG];simp only[xY,hg,hl,if_true,he,uK,hv,Option.map_some]
 |ret=>
  obtain⟨vs,hv,q⟩:=q;refine⟨N,f+1,Dp vs,h',?_,q⟩;rw[pG];simp only[xY,hg,hl,if_true,he,uK,hv,Option.map_some]
def Jh (id:Nat)(Q:V->H->Prop):E->List V->H->Prop:=λe _ h=> ∃r3,h.get id=some (.loop r3)/\(match e with
 | .norm=>Q (.bool true) (h.set id (some (.loop {r3 with st:= .ready,pend:=none})))
 |e=>Q (.bool false) (h.set id (some (.loop {r3 with st:= .done,pend:=some e}))))
theorem YU {id:Nat}{h:H}{Q:V->H->Prop}{r:gE}(hr:h.get id=some (.loop r))(hl:args.length=r.pars.length)
  (hw:Wp p (some id) r.assign ((r.pars.zip args).foldl (λvs q=>vs.set q.1 q.2) r.vars) h λe vars h1=>e= .norm/\ ∃r2,h1.get id=some (.loop r2)/\r2.st= .ready/\
   Wp p (some id) r.body vars (h1.set id (some (.loop {r2 with st:= .busy}))) (Jh id Q)):Ey p id args h Q:=by
 obtain⟨N,f,e,v,h1,he,rfl,r2,hr2,iV,N2,f2,e2,v2,h2,he2,r3,hr3,q⟩:=hw
 have b1:=Nj p (show N<=max N N2 by omega) (show f<=max f f2 by omega)
 have b2:=Nj p (show N2<=max N N2 by omega) (show f2<=max f f2 by omega)
 cases e2 with
 |norm=>
  refine⟨max N N2,max f f2+1,.bool true,_,?_,q⟩;rw[pG];simp only[tI,hr,hl,if_true,fF b1.1 b1.2 (show N<=max N N2 by omega) _ _ _ _ he,hr2,iV,fF b2.1 b2.2 (show N2<=max N N2 by omega) _ _ _ _ he2,hr3]
 |ret=>
  refine⟨max N N2,max f f2+1,.bool false,_,?_,q⟩;rw[pG];simp only[tI,hr,hl,if_true,fF b1.1 b1.2 (show N<=max N N2 by omega) _ _ _ _ he,hr2,iV,fF b2.1 b2.2 (show N2<=max N N2 by omega) _ _ _ _ he2,hr3]
 |exit n=>
  refine⟨max N N2,max f f2+1,.bool false,_,?_,q⟩;rw[pG];simp only[tI,hr,hl,if_true,fF b1.1 b1.2 (show N<=max N N2 by omega) _ _ _ _ he,hr2,iV,fF b2.1 b2.2 (show N2<=max N N2 by omega) _ _ _ _ he2,hr3]
end
end
end Go.Ay
