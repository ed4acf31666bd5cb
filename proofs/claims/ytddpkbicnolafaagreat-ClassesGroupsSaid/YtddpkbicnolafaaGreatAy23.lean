/- The abstract machine, by weakest preconditions. -/
import Derived.Test.YtddpkbicnolafaaGreatAy22
namespace Go.Ay
variable {g:Nat} {args a' v v':List V} {R:V->H->Prop} {c:C} {h':H}
def nE {α:Type}(o:Option α)(K:α->Prop):Prop:= ∃a,o=some a/\K a
theorem Sx {α:Type}(a:α)(K:α->Prop):nE (some a) K=K a:=propext ⟨λ⟨_,h,k⟩=>by cases h;exact k,λk=>⟨a,rfl,k⟩⟩
theorem Rf {α:Type}{o o':Option α}{K:α->Prop}(h:o=o'):nE o K=nE o' K:=by rw[h]
section
variable (p:Nat->Option Fn)
def Ev (g:Nat)(args:List V)(h:H)(Q:V->H->Prop):Prop:= ∃N f v h',(kB p N f).1 g args h=some (v,h')/\Q v h'
def Ey (id:Nat)(args:List V)(h:H)(Q:V->H->Prop):Prop:= ∃N f v h',(kB p N f).2 id args h=some (v,h')/\Q v h'
def Nf (vars loc:List V)(h:H)(a:dX)(Q:V->H->Prop):Prop:= ∃N f v h',mD (kB p N f).1 (kB p N f).2 vars loc h a=some (v,h')/\Q v h'
def Wb (its:List It)(vars loc:List V)(h:H)(Q:List V->H->Prop):Prop:= ∃N f vars' h',uH (kB p N f).1 (kB p N f).2 its vars loc h=some (vars',h')/\Q vars' h'
def Zf (base:Nat)(xs:List AI)(vars:List V)(log:Log)(h:H)(Q:List V->H->Prop):Prop:= ∃N f vars' h',vP (kB p N f).1 (kB p N f).2 base xs vars log h=some (vars',h')/\Q vars' h'
def Wp (rd:Option Nat)(c:C)(vars:List V)(h:H)(Q:E->List V->H->Prop):Prop:=
 ∃N f e vars' h',run (kB p N f).1 (kB p N f).2 N rd c vars h=some (e,vars', [],h')/\Q e vars' h'
variable {p}
theorem Ev.mono {h:H}{Q:V->H->Prop}(e:Ev p g args h Q)(k: ∀v h',Q v h'->R v h'):Ev p g args h R:=by
 obtain⟨N,f,v,h',e,q⟩:=e;exact⟨N,f,v,h',e,k _ _ q⟩
theorem Ey.mono {id:Nat}{h:H}{Q:V->H->Prop}(e:Ey p id args h Q)(k: ∀v h',Q v h'->R v h'):Ey p id args h R:=by
 obtain⟨N,f,v,h',e,q⟩:=e;exact⟨N,f,v,h',e,k _ _ q⟩
theorem Wp.mono {rd:Option Nat}{vars:List V}{h:H}{Q R:E->List V->H->Prop}(e:Wp p rd c vars h Q)(k: ∀e v h',Q e v h'->R e v h'):Wp p rd c vars h R:=by
 obtain⟨N,f,a,v,h',e,q⟩:=e;exact⟨N,f,a,v,h',e,k _ _ _ q⟩
theorem Wb.mono {its:List It}{vars loc:List V}{h:H}{Q R:List V->H->Prop}(e:Wb p its vars loc h Q)(k: ∀v h',Q v h'->R v h'):Wb p its vars loc h R:=by
 obtain⟨N,f,v,h',e,q⟩:=e;exact⟨N,f,v,h',e,k _ _ q⟩
theorem LI {a:List V}{h:H}{Q:V->H->Prop}(e1:a=a')(e2:h=h'):Ev p g a h Q=Ev p g a' h' Q:=by rw[e1,e2]
theorem IG {a:List V}{h:H}{Q:V->H->Prop}(e1:a=a')(e2:h=h'):Ey p g a h Q=Ey p g a' h' Q:=by rw[e1,e2]
theorem CF {a:dX}{l l':List V}{h:H}{Q:V->H->Prop}(e1:v=v')(e3:l=l')(e2:h=h'):Nf p v l h a Q=Nf p v' l' h' a Q:=by rw[e1,e2,e3]
theorem DZ {its:List It}{l l':List V}{h:H}{Q:List V->H->Prop}(e1:v=v')(e3:l=l')(e2:h=h'):Wb p its v l h Q=Wb p its v' l' h' Q:=by rw[e1,e2,e3]
theorem GG {base base':Nat}{xs:List AI}{l:Log}{h:H}{Q:List V->H->Prop}(e0:base=base')(e1:v=v')(e2:h=h'):Zf p base xs v l h Q=Zf p base' xs v' l h' Q:=by rw[e0,e1,e2]
theorem JJ {rd:Option Nat}{h:H}{Q:E->List V->H->Prop}(e1:v=v')(e2:h=h'):Wp p rd c v h Q=Wp p rd c v' h' Q:=by rw[e1,e2]
def Ln (p:Nat->Option Fn)(rd:Option Nat)(a b:C)(vars:List V)(h:H)(Q:E->List V->H->Prop)(v:V):Prop:=match v with| .bool true=>Wp p rd a vars h Q| .bool false=>Wp p rd b vars h Q|_=>False
section
variable {rd:Option Nat} {a b:C} {vars:List V} {h:H} {Q:E->List V->H->Prop}
theorem Yl {v v':V}(e:v=v'):Ln p rd a b vars h Q v=Ln p rd a b vars h Q v':=by rw[e]
theorem GO:Ln p rd a b vars h Q (.bool true)=Wp p rd a vars h Q:=rfl
theorem Zr:Ln p rd a b vars h Q (.bool false)=Wp p rd b vars h Q:=rfl
theorem aX {P:Prop}[Decidable P](x:P->Wp p rd a vars h Q)(y: ¬P->Wp p rd b vars h Q):Ln p rd a b vars h Q (.bool (decide P)):=by
 by_cases h:P
 ·rw[decide_eq_true h];exact x h
 ·rw[decide_eq_false h];exact y h
theorem PU {t:Bool}:Ln p rd a b vars h Q (.bool (!t))=Ln p rd b a vars h Q (.bool t):=by cases t<;>rfl
end
def ZW (K:V->H->Prop):V×H->Prop:=λr=>K r.1 r.2
theorem YL (K:V->H->Prop)(v:V)(h:H):ZW K (v,h)=K v h:=rfl
def LM (p:Nat->Option Fn)(d:D)(its:List It)(vars loc:List V)(Q:List V->H->Prop):V->H->Prop:=λv h'=>Wb p its (mB d vars loc v).1 (mB d vars loc v).2 h' Q
theorem VG (d:D)(its:List It)(vars loc:List V)(Q:List V->H->Prop)(v:V)(h':H):LM p d its vars loc Q v h'=Wb p its (mB d vars loc v).1 (mB d vars loc v).2 h' Q:=rfl
def Ve (p:Nat->Option Fn)(d:D)(a:dX)(its:List It)(vars loc:List V)(h:H)(Q:List V->H->Prop)(w:Bool):Prop:=match w with
 |true=>Nf p vars loc h a (LM p d its vars loc Q)
 |false=>Wb p its (mB d vars loc .undef).1 (mB d vars loc .undef).2 h Q
section
variable {d:D} {a:dX} {its:List It} {vars loc:List V} {h:H} {Q:List V->H->Prop}
theorem Vl {v v':Bool}(e:v=v'):Ve p d a its vars loc h Q v=Ve p d a its vars loc h Q v':=by rw[e]
theorem Yu:Ve p d a its vars loc h Q true=Nf p vars loc h a (LM p d its vars loc Q):=rfl
theorem Vx:Ve p d a its vars loc h Q false=Wb p its (mB d vars loc .undef).1 (mB d vars loc .undef).2 h Q:=rfl
end
def Qf (p:Nat->Option Fn)(base:Nat)(x:AI)(xs:List AI)(vars:List V)(log:Log)(Q:List V->H->Prop):V->H->Prop:=λv h'=>qN x.cks log h'=true/\Zf p base xs (mB x.it.d vars [] v).1 (Hu x vars v log) h' Q
theorem QW (base i:Nat)(d:D)(g:Option (X×Bool))(a:dX)(al:Bool)(cks:List Nat)(xs:List AI)(vars:List V)(log:Log)(Q:List V->H->Prop)(v:V)(h':H):Qf p base ⟨i,⟨d,g,a⟩,al,cks⟩ xs vars log Q v h'=(qN cks log h'=true/\Zf p base xs (mB d vars [] v).1 (Hu ⟨i,⟨d,g,a⟩,al,cks⟩ vars v log) h' Q):=rfl
def Nc (p:Nat->Option Fn)(base i:Nat)(d:D)(x:X)(b:Bool)(a:dX)(al:Bool)(cks:List Nat)(xs:List AI)(vars:List V)(log:Log)(h:H)(Q:List V->H->Prop)(w:Bool):Prop:=match w,al with
 |true,true=>nE (Lc vars h (base+i) a) (ZW (Qf p base ⟨i,⟨d,some (x,b),a⟩,true,cks⟩ xs vars log Q))
 |true,false=>Nf p vars [] h a (Qf p base ⟨i,⟨d,some (x,b),a⟩,false,cks⟩ xs vars log Q)
 |false,_=>qN cks log h=true/\Zf p base xs (mB d vars [] .undef).1 log h Q
section
variable {base i:Nat} {d:D} {x:X} {b al:Bool} {a:dX} {cks:List Nat} {xs:List AI} {vars:List V} {log:Log} {h:H} {Q:List V->H->Prop}
theorem Vh {v v':Bool}(e:v=v'):Nc p base i d x b a al cks xs vars log h Q v=Nc p base i d x b a al cks xs vars log h Q v':=by rw[e]
theorem NJ:Nc p base i d x b a true cks xs vars log h Q true=nE (Lc vars h (base+i) a) (ZW (Qf p base ⟨i,⟨d,some (x,b),a⟩,true,cks⟩ xs vars log Q)):=rfl
theorem KT:Nc p base i d x b a false cks xs vars log h Q true=Nf p vars [] h a (Qf p base ⟨i,⟨d,some (x,b),a⟩,false,cks⟩ xs vars log Q):=rfl
theorem RZ:Nc p base i d x b a al cks xs vars log h Q false=(qN cks log h=true/\Zf p base xs (mB d vars [] .undef).1 log h Q):=rfl
end
theorem Xp (p:Nat->Option Fn){N N' f f':Nat}(h1:N<=N')(h2:f<=f'):Le (kB p N f).1 (kB p N' f').1/\Le (kB p N f).2 (kB p N' f').2:=Uz p h1 f f' h2
theorem WV (vars loc:List V)(h:H)(i:I)(Q:V->H->Prop):Nf p vars loc h (.op i) Q=nE (cV (xv vars loc) h i) (ZW Q):=by
 unfold Nf nE;refine propext ⟨λ⟨N,f,v,h',e,q⟩=>⟨(v,h'),by rw[tQ] at e;exact e,q⟩,λ⟨r,e,q⟩=>⟨0,0,r.1,r.2,by rw[tQ];exact e,q⟩⟩
theorem KY (vars loc:List V)(h:H)(g:Nat)(args:List X)(Q:V->H->Prop):Nf p vars loc h (.call g args) Q=Ev p g (args.map (xv vars loc)) h Q:=by
 unfold Nf Ev;simp only[tL]
def Br (p:Nat->Option Fn)(x:V)(args:List V)(h:H)(Q:V->H->Prop):Prop:=match x with
 | .fn g fs cs=>Ev p g (fs++args++cs) h Q
 | .yl id=>Ey p id args h Q
 |_=>False
theorem Br.mono {x:V}{h:H}{Q:V->H->Prop}(e:Br p x args h Q)(k: ∀v h',Q v h'->R v h'):Br p x args h R:=by
 unfold Br at*;split at e
 ·exact e.mono k
 ·exact e.mono k
 ·exact e.elim
theorem Vv {x x':V}{a:List V}{h:H}{Q:V->H->Prop}(e0:x=x')(e1:a=a')(e2:h=h'):Br p x a h Q=Br p x' a' h' Q:=by rw[e0,e1,e2]
theorem PC (g:Nat)(fs cs args:List V)(h:H)(Q:V->H->Prop):Br p (.fn g fs cs) args h Q=Ev p g (fs++args++cs) h Q:=rfl
theorem MW (id:Nat)(args:List V)(h:H)(Q:V->H->Prop):Br p (.yl id) args h Q=Ey p id args h Q:=rfl
theorem CO (vars loc:List V)(h:H)(x:X)(args:List X)(Q:V->H->Prop):Nf p vars loc h (.callv x args) Q=Br p (xv vars loc x) (args.map (xv vars loc)) h Q:=by
 unfold Nf;simp only[qP];unfold Br;cases xv vars loc x<;>simp [Ev,Ey]
def Ps (p:Nat->Option Fn)(g t:Nat)(x:V)(args:List V)(h:H)(Q:V->H->Prop):Prop:=match x with
 | .ifc u v=>u=t/\Ev p g (v::args) h Q
 |_=>False
theorem Xl (g t:Nat)(v:V)(args:List V)(h:H)(Q:V->H->Prop):Ps p g t (.ifc t v) args h Q=Ev p g (v::args) h Q:=by
 simp [Ps]
theorem DH (vars loc:List V)(h:H)(g t:Nat)(x:X)(args:List X)(Q:V->H->Prop):Nf p vars loc h (.calli g t x args) Q=Ps p g t (xv vars loc x) (args.map (xv vars loc)) h Q:=by
 unfold Nf;simp only[qS];unfold Ps;cases xv vars loc x<;>simp only[reduceCtorEq,false_and,exists_false];rename_i u v
 by_cases hu:u=t
 ·subst hu
  simp [Ev]
 ·have:Nat.beq u t=false:=by
   cases hq:Nat.beq u t with
   |false=>rfl
   |true=>exact absurd (Nat.eq_of_beq_eq_true hq) hu
  simp [this,hu]
def Qw (p:Nat->Option Fn)(g:Nat)(vs:List V)(h:H)(Q:V->H->Prop):Prop:=vs.all V.Ft=true/\Ev p g vs ⟨.lf,0⟩ (λv _=>v.Ft=true/\Q v h)
theorem FA (vars loc:List V)(h:H)(g:Nat)(args:List X)(Q:V->H->Prop):Nf p vars loc h (.callp g args) Q=Qw p g (args.map (xv vars loc)) h Q:=by
 unfold Nf Qw Ev;refine propext ⟨λ⟨N,f,v,h',e,q⟩=>?_,λ⟨h1,N,f,v,h',e,h2,q⟩=>⟨N,f,v,h,?_,q⟩⟩
 ·rw[lX] at e
  obtain⟨rfl,h1,h2,h3,h4⟩:=xO e;exact⟨h1,N,f,v,h3,h4,h2,q⟩
 ·rw[lX]
  unfold Hq;simp only[h1,e,h2,cond_true]
theorem Qw.intro {vs:List V}{h:H}{Q:V->H->Prop}(e:Ev p g vs ⟨.lf,0⟩ R)(h1:vs.all V.Ft=true)(k: ∀v h',R v h'->v.Ft=true/\Q v h):Qw p g vs h Q:=⟨h1,e.mono k⟩
theorem UK (vars loc:List V)(h:H)(Q:List V->H->Prop):Wb p [] vars loc h Q=Q vars h:=by
 unfold Wb;refine propext ⟨λ⟨N,f,v,h',e,q⟩=>?_,λq=>⟨0,0,vars,h,rfl,q⟩⟩;rw[Gx] at e;cases e;exact q
theorem MR (d:D)(a:dX)(its:List It)(vars loc:List V)(h:H)(Q:List V->H->Prop):
  Wb p (⟨d,none,a⟩::its) vars loc h Q=Nf p vars loc h a (LM p d its vars loc Q):=by
 unfold LM Wb Nf
 refine propext ⟨λ⟨N,f,v,h',e,q⟩=>?_,λ⟨N,f,v,h1,e,N2,f2,vars',h',e2,q⟩=>?_⟩
 ·rw[oB] at e
  simp only[gE] at e
  split at e
  ·rename_i v1 h1 ha
   exact⟨N,f,v1,h1,ha,N,f,v,h',e,q⟩
  ·cases e
 ·refine⟨max N N2,max f f2,vars',h',?_,q⟩
  rw[oB]
  have b1:=Xp p (Nat.le_max_left N N2) (Nat.le_max_left f f2)
  have b2:=Xp p (Nat.le_max_right N N2) (Nat.le_max_right f f2)
  simp only[gE,pM b1.1 b1.2 e]
  exact qF b2.1 b2.2 _ _ _ _ _ e2
theorem DX (d:D)(x:X)(b:Bool)(a:dX)(its:List It)(vars loc:List V)(h:H)(Q:List V->H->Prop):
  Wb p (⟨d,some (x,b),a⟩::its) vars loc h Q=nE (gE vars loc (some (x,b))) (Ve p d a its vars loc h Q):=by
 unfold nE
 refine propext ⟨λ⟨N,f,v,h',e,q⟩=>?_,λ⟨w,hw,k⟩=>?_⟩
 ·rw[oB] at e
  split at e
  ·rename_i hw
   refine⟨true,hw,?_⟩
   split at e
   ·rename_i v1 h1 ha
    exact⟨N,f,v1,h1,ha,N,f,v,h',e,q⟩
   ·cases e
  ·rename_i hw
   exact⟨false,hw,N,f,v,h',e,q⟩
  ·cases e
 ·cases w with
  |true=>
   obtain⟨N,f,v,h1,e,N2,f2,vars',h',e2,q⟩:=k;refine⟨max N N2,max f f2,vars',h',?_,q⟩;rw[oB];have b1:=Xp p (Nat.le_max_left N N2) (Nat.le_max_left f f2);have b2:=Xp p (Nat.le_max_right N N2) (Nat.le_max_right f f2);simp only[hw,pM b1.1 b1.2 e];exact qF b2.1 b2.2 _ _ _ _ _ e2
  |false=>
   obtain⟨N,f,v,h',e,q⟩:=k;refine⟨N,f,v,h',?_,q⟩;rw[oB];simp only[hw];exact e
theorem TS (base:Nat)(vars:List V)(log:Log)(h:H)(Q:List V->H->Prop):Zf p base [] vars log h Q=Q vars h:=by
 unfold Zf;refine propext ⟨λ⟨N,f,v,h',e,q⟩=>?_,λq=>⟨0,0,vars,h,rfl,q⟩⟩;rw[Gl] at e;cases e;exact q
theorem OX (base i:Nat)(d:D)(a:dX)(cks:List Nat)(xs:List AI)(vars:List V)(log:Log)(h:H)(Q:List V->H->Prop):
  Zf p base (⟨i,⟨d,none,a⟩,false,cks⟩::xs) vars log h Q=Nf p vars [] h a (Qf p base ⟨i,⟨d,none,a⟩,false,cks⟩ xs vars log Q):=by
 unfold Qf Zf Nf
 refine propext ⟨λ⟨N,f,v,h',e,q⟩=>?_,λ⟨N,f,v,h1,e,ho,N2,f2,vars',h',e2,q⟩=>?_⟩
 ·rw[jM] at e
  simp only[gE,Bool.false_eq_true,if_false] at e
  split at e
  ·rename_i v1 h1 ha
   split at e
   ·rename_i ho
    exact⟨N,f,v1,h1,ha,ho,N,f,v,h',e,q⟩
   ·cases e
  ·cases e
 ·refine⟨max N N2,max f f2,vars',h',?_,q⟩
  rw[jM]
  have b1:=Xp p (Nat.le_max_left N N2) (Nat.le_max_left f f2)
  have b2:=Xp p (Nat.le_max_right N N2) (Nat.le_max_right f f2)
  simp only[gE,Bool.false_eq_true,if_false,pM b1.1 b1.2 e,ho,if_true]
  exact tV b2.1 b2.2 _ _ _ _ _ e2
theorem EK (base i:Nat)(d:D)(a:dX)(cks:List Nat)(xs:List AI)(vars:List V)(log:Log)(h:H)(Q:List V->H->Prop):
  Zf p base (⟨i,⟨d,none,a⟩,true,cks⟩::xs) vars log h Q=nE (Lc vars h (base+i) a) (ZW (Qf p base ⟨i,⟨d,none,a⟩,true,cks⟩ xs vars log Q)):=by
 unfold ZW Qf Zf nE
 refine propext ⟨λ⟨N,f,v,h',e,q⟩=>?_,λ⟨r,e,ho,N2,f2,vars',h',e2,q⟩=>?_⟩
 ·rw[jM] at e
  simp only[gE,if_true] at e
  split at e
  ·rename_i v1 h1 ha
   split at e
   ·rename_i ho
    exact⟨(v1,h1),ha,ho,N,f,v,h',e,q⟩
   ·cases e
  ·cases e
 ·refine⟨N2,f2,vars',h',?_,q⟩
  rw[jM]
  obtain⟨v,h1⟩:=r
  simp only[gE,if_true,e,ho]
  exact e2
theorem EE (base i:Nat)(d:D)(x:X)(b:Bool)(a:dX)(al:Bool)(cks:List Nat)(xs:List AI)(vars:List V)(log:Log)(h:H)(Q:List V->H->Prop):
  Zf p base (⟨i,⟨d,some (x,b),a⟩,al,cks⟩::xs) vars log h Q=nE (gE vars [] (some (x,b))) (Nc p base i d x b a al cks xs vars log h Q):=by
 unfold nE
 refine propext ⟨λ⟨N,f,v,h',e,q⟩=>?_,λ⟨w,hw,k⟩=>?_⟩
 ·rw[jM] at e
  split at e
  ·rename_i hw
   refine⟨true,hw,?_⟩
   cases al with
   |true=>
    simp only[if_true] at e;split at e
    ·rename_i v1 h1 ha
     split at e
     ·rename_i ho
      exact⟨(v1,h1),ha,ho,N,f,v,h',e,q⟩
     ·cases e
    ·cases e
   |false=>
    simp only[Bool.false_eq_true,if_false] at e;split at e
    ·rename_i v1 h1 ha
     split at e
     ·rename_i ho
      exact⟨N,f,v1,h1,ha,ho,N,f,v,h',e,q⟩
     ·cases e
    ·cases e
  ·rename_i hw
   split at e
   ·rename_i ho
    exact⟨false,hw,ho,N,f,v,h',e,q⟩
   ·cases e
  ·cases e
 ·cases w with
  |true=>
   cases al with
   |true=>
    obtain⟨⟨v,h1⟩,e,ho,N2,f2,vars',h',e2,q⟩:=k;refine⟨N2,f2,vars',h',?_,q⟩;rw[jM];simp only[hw,if_true,e,ho];exact e2
   |false=>
    obtain⟨N,f,v,h1,e,ho,N2,f2,vars',h',e2,q⟩:=k;refine⟨max N N2,max f f2,vars',h',?_,q⟩;rw[jM];have b1:=Xp p (Nat.le_max_left N N2) (Nat.le_max_left f f2);have b2:=Xp p (Nat.le_max_right N N2) (Nat.le_max_right f f2);simp only[hw,Bool.false_eq_true,if_false,pM b1.1 b1.2 e,ho,if_true];exact tV b2.1 b2.2 _ _ _ _ _ e2
  |false=>
   obtain⟨ho,N2,f2,vars',h',e2,q⟩:=k;refine⟨N2,f2,vars',h',?_,q⟩;rw[jM];simp only[hw,ho,if_true];exact e2
variable {rd:Option Nat} {vars:List V} {h:H} {Q:E->List V->H->Prop}
theorem TY:Wp p rd .skip vars h Q=Q .norm vars h:=by
 unfold Wp;simp only[Cs];exact propext ⟨λ⟨_,_,_,_,_,e,q⟩=>by cases e;exact q,λq=>⟨0,0,_,_,_,rfl,q⟩⟩
theorem ZE:Wp p rd .ret vars h Q=Q .ret vars h:=by
 unfold Wp;simp only[Qq];exact propext ⟨λ⟨_,_,_,_,_,e,q⟩=>by cases e;exact q,λq=>⟨0,0,_,_,_,rfl,q⟩⟩
theorem VI (n:Nat):Wp p rd (.exit n) vars h Q=Q (.exit n) vars h:=by
 unfold Wp;simp only[Lf];exact propext ⟨λ⟨_,_,_,_,_,e,q⟩=>by cases e;exact q,λq=>⟨0,0,_,_,_,rfl,q⟩⟩
theorem PQ (a:C):Wp p rd (.scope a) vars h Q=Wp p rd a vars h Q:=by
 unfold Wp;simp only[Fw]
theorem ZB (its:List It):Wp p rd (.reg its) vars h Q=Wb p its vars [] h (Q .norm):=by
 unfold Wp Wb;simp only[Ri];refine propext ⟨λ⟨N,f,e,v,h',he,q⟩=>?_,λ⟨N,f,v,h',he,q⟩=>⟨N,f,.norm,v,h',by rw[he],q⟩⟩;split at he
 ·rename_i hr;cases he;exact⟨N,f,_,_,hr,q⟩
 ·cases he
def XJ (n:Nat)(Q:E->List V->H->Prop):List V->H->Prop:=λvs h'=>Q .norm (vs.take n) h'
theorem QU (n:Nat)(vs:List V)(h':H):XJ n Q vs h'=Q .norm (vs.take n) h':=rfl
theorem WN (k nl:Nat)(its:List AI):Wp p rd (.any k nl its) vars h Q=Zf p h.next its (vars++List.replicate nl .unk) [] {h with next:=h.next+k} (XJ vars.length Q):=by
 unfold XJ Wp Zf;simp only[Ql];refine propext ⟨λ⟨N,f,e,v,h',he,q⟩=>?_,λ⟨N,f,v,h',he,q⟩=>⟨N,f,.norm,_,h',by rw[he],q⟩⟩;split at he
 ·rename_i hr;cases he;exact⟨N,f,_,_,hr,q⟩
 ·cases he
def Is (p:Nat->Option Fn)(rd:Option Nat)(b:C)(Q:E->List V->H->Prop):E->List V->H->Prop:=λe vars h=>match e with| .norm=>Wp p rd b vars h Q|e=>Q e vars h
theorem Lx (b:C)(vars:List V)(h:H):Is p rd b Q .norm vars h=Wp p rd b vars h Q:=rfl
theorem EC (b:C)(vars:List V)(h:H):Is p rd b Q .ret vars h=Q .ret vars h:=rfl
theorem Ze (b:C)(n:Nat)(vars:List V)(h:H):Is p rd b Q (.exit n) vars h=Q (.exit n) vars h:=rfl
theorem OM (a b:C):Wp p rd (.seq a b) vars h Q=Wp p rd a vars h (Is p rd b Q):=by
 refine propext ⟨λ⟨N,f,e,v,h',he,q⟩=>?_,λ⟨N,f,e,v,h1,he,k⟩=>?_⟩
 ·rw[run_seq] at he
  cases hr:run (kB p N f).1 (kB p N f).2 N rd a vars h with
  |none=>simp [hr] at he
  |some r=>
   obtain⟨e1,v1,d1,h1⟩:=r;simp only[hr] at he
   cases e1 with
   |norm=>
    simp only at he
    cases hr2:run (kB p N f).1 (kB p N f).2 N rd b v1 h1 with
    |none=>simp [hr2] at he
    |some r=>
     obtain⟨e2,v2,d2,h2⟩:=r;simp only[hr2,Option.some.injEq,Prod.mk.injEq] at he;obtain⟨rfl,rfl,hd,rfl⟩:=he;simp only[List.append_eq_nil_iff] at hd;obtain⟨rfl,rfl⟩:=hd;exact⟨N,f,.norm,v1,h1,hr,N,f,_,_,_,hr2,q⟩
   |ret=>simp only at he;cases he;exact⟨N,f,_,_,_,hr,q⟩
   |exit n=>simp only at he;cases he;exact⟨N,f,_,_,_,hr,q⟩
 ·cases e with
  |norm=>
   obtain⟨N2,f2,e2,v2,h2,he2,q⟩:=k;refine⟨max N N2,max f f2,e2,v2,h2,?_,q⟩;have b1:=Xp p (Nat.le_max_left N N2) (Nat.le_max_left f f2);have b2:=Xp p (Nat.le_max_right N N2) (Nat.le_max_right f f2);rw[run_seq,iW b1.1 b1.2 (Nat.le_max_left N N2) _ _ _ _ he];simp only[iW b2.1 b2.2 (Nat.le_max_right N N2) _ _ _ _ he2]
   rfl
  |ret=>exact⟨N,f,_,_,_,by rw[run_seq,he],k⟩
  |exit n=>exact⟨N,f,_,_,_,by rw[run_seq,he],k⟩
theorem ZF (x:X)(a b:C):Wp p rd (.ite x a b) vars h Q=Ln p rd a b vars h Q (xv vars [] x):=by
 unfold Ln Wp;simp only[run_ite]
 cases xv vars [] x with
 |bool t=>cases t<;>rfl
 |_=>exact propext ⟨λ⟨_,_,_,_,_,e,_⟩=>(nomatch e),λh=>h.elim⟩
def uY (id:Nat)(Q:E->List V->H->Prop):E->List V->H->Prop:=λe vars h=>match e with| .exit n=>if n=id then Q .norm vars h else Q (.exit n) vars h|e=>Q e vars h
theorem Tw (id:Nat)(vars:List V)(h:H):uY id Q .norm vars h=Q .norm vars h:=rfl
theorem Zo (id:Nat)(vars:List V)(h:H):uY id Q .ret vars h=Q .ret vars h:=rfl
theorem zD (id:Nat)(vars:List V)(h:H):uY id Q (.exit id) vars h=Q .norm vars h:=if_pos rfl
theorem GP (id n:Nat)(hn:n≠id)(vars:List V)(h:H):uY id Q (.exit n) vars h=Q (.exit n) vars h:=if_neg hn
theorem PH (id:Nat)(a:C):Wp p rd (.block id a) vars h Q=Wp p rd a vars h (uY id Q):=by
 unfold Wp;simp only[Gn];refine propext ⟨λ⟨N,f,e,v,h',he,q⟩=>?_,λ⟨N,f,e,v,h1,he,k⟩=>?_⟩
 ·cases hr:run (kB p N f).1 (kB p N f).2 N rd a vars h with
  |none=>simp [hr] at he
  |some r=>
   obtain⟨e1,v1,d1,h1⟩:=r;simp only[hr] at he
   cases e1 with
   |exit n=>
    simp only at he;split at he
    ·rename_i hn;cases he;exact⟨N,f,_,_,_,hr,by simp only[uY];rw[if_pos hn];exact q⟩
    ·rename_i hn;cases he;exact⟨N,f,_,_,_,hr,by simp only[uY];rw[if_neg hn];exact q⟩
   |norm=>simp only at he;cases he;exact⟨N,f,_,_,_,hr,q⟩
   |ret=>simp only at he;cases he;exact⟨N,f,_,_,_,hr,q⟩
 ·cases e with
  |exit n=>
   simp only[uY] at k;split at k
   ·rename_i hn;exact⟨N,f,_,_,_,by rw[he];simp only;rw[if_pos hn],k⟩
   ·rename_i hn;exact⟨N,f,_,_,_,by rw[he];simp only;rw[if_neg hn],k⟩
  |norm=>exact⟨N,f,_,_,_,by rw[he],k⟩
  |ret=>exact⟨N,f,_,_,_,by rw[he],k⟩
def Qg (J:List V->H->Prop)(Q:E->List V->H->Prop):E->List V->H->Prop:=λe vars h=>match e with| .norm=>J vars h|e=>Q e vars h
theorem Uu (J:List V->H->Prop)(vars:List V)(h:H):Qg J Q .norm vars h=J vars h:=rfl
theorem Wm (J:List V->H->Prop)(vars:List V)(h:H):Qg J Q .ret vars h=Q .ret vars h:=rfl
theorem Uy (J:List V->H->Prop)(n:Nat)(vars:List V)(h:H):Qg J Q (.exit n) vars h=Q (.exit n) vars h:=rfl
theorem aH (J:Nat->List V->H->Prop)(k:Nat)(h0:J k vars h)
  (step: ∀k vars h,J k vars h->Wp p rd c vars h (Qg (λv h'=> ∃k',k'<k/\J k' v h') Q)):Wp p rd (.loop c) vars h Q:=by
 have key: ∀k vars h,J k vars h-> ∃N f n e vars' h',yN (run (kB p N f).1 (kB p N f).2 N rd c) n vars h=some (e,vars', [],h')/\Q e vars' h':=by
  intro k
  induction k using Nat.strongRecOn with
  |ind k ih=>
   intro vars h hJ;obtain⟨N,f,e,v,h1,he,q⟩:=step k vars h hJ
   cases e with
   |norm=>
    obtain⟨k',hk',hJ'⟩:=q;obtain⟨N2,f2,n,e2,v2,h2,he2,q2⟩:=ih k' hk' v h1 hJ';have b1:=Xp p (Nat.le_max_left N N2) (Nat.le_max_left f f2);have b2:=Xp p (Nat.le_max_right N N2) (Nat.le_max_right f f2);refine⟨max N N2,max f f2,n+1,e2,v2,h2,?_,q2⟩;rw[sX,iW b1.1 b1.2 (Nat.le_max_left N N2) _ _ _ _ he];simp only[xY (λv h r=>iW b2.1 b2.2 (Nat.le_max_right N N2) c v h r) n n (fZ _) _ _ _ he2]
    rfl
   |ret=>exact⟨N,f,1,_,_,_,by rw[sX,he],q⟩
   |exit n=>exact⟨N,f,1,_,_,_,by rw[sX,he],q⟩
 obtain⟨N,f,n,e,v,h',he,q⟩:=key k vars h h0
 refine⟨max N n,f,e,v,h',?_,q⟩
 have b:=Xp p (Nat.le_max_left N n) (fZ f)
 rw[Ke]
 exact xY (λv h r=>iW b.1 b.2 (Nat.le_max_left N n) c v h r) n (max N n) (Nat.le_max_right N n) _ _ _ he
def IB (id:Nat)(vars:List V)(Q:E->List V->H->Prop):V->H->Prop:=λ_ h'=> ∃r,h'.get id=some (.loop r)/\r.st≠ .busy/\Q (r.pend.getD .norm) vars (h'.set id (some (.loop {r with st:= .out})))
def Ip (p:Nat->Option Fn)(rd:Option Nat)(x:V)(pars:List Nat)(assign body:C)(vars:List V)(h:H)(Q:E->List V->H->Prop):Prop:=
 match x with
 | .fn g fs cs=>DM rd h=true/\Ev p g (fs++ .yl h.next::cs) (h.new (.loop {vars,pars,assign,body,st:= .ready,pend:=none})) (IB h.next vars Q)
 |_=>False
theorem Qa {x x':V}{pars:List Nat}{a b:C}{h:H}(e0:x=x')(e1:v=v')(e2:h=h'):Ip p rd x pars a b v h Q=Ip p rd x' pars a b v' h' Q:=by rw[e0,e1,e2]
theorem EO (g:Nat)(fs cs:List V)(pars:List Nat)(assign body:C):Ip p rd (.fn g fs cs) pars assign body vars h Q=(DM rd h=true/\Ev p g (fs++ .yl h.next::cs) (h.new (.loop {vars,pars,assign,body,st:= .ready,pend:=none})) (IB h.next vars Q)):=rfl
theorem HU (x:X)(pars:List Nat)(a b:C):Wp p rd (.range x pars a b) vars h Q=Ip p rd (xv vars [] x) pars a b vars h Q:=by
 unfold Wp Ip;simp only[Gy,Aa]
 cases xv vars [] x with
 |fn g fs cs=>
  simp only;refine propext ⟨λ⟨N,f,e,v,h',he,q⟩=>?_,λ⟨ho,N,f,v,h',he,r,hg,hb,q⟩=>?_⟩
  ·split at he
   ·rename_i ho
    refine⟨ho,?_⟩;split at he
    ·rename_i v1 h1 hc
     split at he
     ·rename_i r hg
      split at he
      ·cases he
      ·rename_i hb
       cases he;exact⟨N,f,v1,h1,hc,r,hg,hb,q⟩
     ·cases he
    ·cases he
   ·cases he
  ·refine⟨N,f,_,_,_,?_,q⟩
   rw[if_pos ho];simp only[he,hg];rw[if_neg hb]
 |_=>exact propext ⟨λ⟨_,_,_,_,_,e,_⟩=>(nomatch e),λh=>h.elim⟩
def UH (Q:V->H->Prop)(h:H):List V->Prop:=λvs=>Q (Gq vs) h
theorem UM (Q:V->H->Prop)(h:H)(vs:List V):UH Q h vs=Q (Gq vs) h:=rfl
def JZ (results:List Rv)(Q:V->H->Prop):E->List V->H->Prop:=λe vars h=>match e with
 | .exit _=>False
 |_=>nE (cI (results.map (Ba vars h))) (UH Q h)
theorem CN (results:List Rv)(Q:V->H->Prop)(vars:List V)(h:H):JZ results Q .norm vars h=nE (cI (results.map (Ba vars h))) (UH Q h):=rfl
theorem JI (results:List Rv)(Q:V->H->Prop)(vars:List V)(h:H):JZ results Q .ret vars h=nE (cI (results.map (Ba vars h))) (UH Q h):=rfl
theorem Hf {fn:Fn}{h:H}{Q:V->H->Prop}(hg:p g=some fn)(hl:args.length=fn.nargs)(hw:Wp p none fn.body (Bq fn args) h (JZ fn.results Q)):Ev p g args h Q:=by
 obtain⟨N,f,e,v,h',he,q⟩:=hw
 cases e with
 |exit n=>exact q.elim
 |norm=>
  obtain⟨vs,hv,q⟩:=q;refine⟨N,f+1,Gq vs,h',?_,q⟩;rw[rF];simp only[zA,hg,hl,if_true,he,vI,hv,Option.map_some]
 |ret=>
  obtain⟨vs,hv,q⟩:=q;refine⟨N,f+1,Gq vs,h',?_,q⟩;rw[rF];simp only[zA,hg,hl,if_true,he,vI,hv,Option.map_some]
def Il (id:Nat)(Q:V->H->Prop):E->List V->H->Prop:=λe _ h=> ∃r3,h.get id=some (.loop r3)/\(match e with
 | .norm=>Q (.bool true) (h.set id (some (.loop {r3 with st:= .ready,pend:=none})))
 |e=>Q (.bool false) (h.set id (some (.loop {r3 with st:= .done,pend:=some e}))))
theorem aaU {id:Nat}{h:H}{Q:V->H->Prop}{r:fQ}(hr:h.get id=some (.loop r))(hl:args.length=r.pars.length)
  (hw:Wp p (some id) r.assign ((r.pars.zip args).foldl (λvs q=>vs.set q.1 q.2) r.vars) h λe vars h1=>e= .norm/\ ∃r2,h1.get id=some (.loop r2)/\r2.st= .ready/\
   Wp p (some id) r.body vars (h1.set id (some (.loop {r2 with st:= .busy}))) (Il id Q)):Ey p id args h Q:=by
 obtain⟨N,f,e,v,h1,he,rfl,r2,hr2,jB,N2,f2,e2,v2,h2,he2,r3,hr3,q⟩:=hw
 have b1:=Xp p (show N<=max N N2 by omega) (show f<=max f f2 by omega)
 have b2:=Xp p (show N2<=max N N2 by omega) (show f2<=max f f2 by omega)
 cases e2 with
 |norm=>
  refine⟨max N N2,max f f2+1,.bool true,_,?_,q⟩;rw[rF];simp only[uP,hr,hl,if_true,iW b1.1 b1.2 (show N<=max N N2 by omega) _ _ _ _ he,hr2,jB,iW b2.1 b2.2 (show N2<=max N N2 by omega) _ _ _ _ he2,hr3]
 |ret=>
  refine⟨max N N2,max f f2+1,.bool false,_,?_,q⟩;rw[rF];simp only[uP,hr,hl,if_true,iW b1.1 b1.2 (show N<=max N N2 by omega) _ _ _ _ he,hr2,jB,iW b2.1 b2.2 (show N2<=max N N2 by omega) _ _ _ _ he2,hr3]
 |exit n=>
  refine⟨max N N2,max f f2+1,.bool false,_,?_,q⟩;rw[rF];simp only[uP,hr,hl,if_true,iW b1.1 b1.2 (show N<=max N N2 by omega) _ _ _ _ he,hr2,jB,iW b2.1 b2.2 (show N2<=max N N2 by omega) _ _ _ _ he2,hr3]
end
end Go.Ay
