/- The abstract machine, by weakest preconditions. -/
import Derived.Test.YtddpkbicnolafaaGreatAy22
namespace Go.Ay
section
variable {g:Nat} {args a' v v':List V} {R:V->H->Prop} {c:C} {h':H}
def nE {α:Type}(o:Option α)(K:α->Prop):Prop:= ∃a,o=some a/\K a
theorem Ss {α:Type}(a:α)(K:α->Prop):nE (some a) K=K a:=propext ⟨λ⟨_,h,k⟩=>by cases h;exact k,λk=>⟨a,rfl,k⟩⟩
theorem Qq {α:Type}{o o':Option α}{K:α->Prop}(h:o=o'):nE o K=nE o' K:=by rw[h]
section
variable (p:Nat->Option Fn)
def Ev (g:Nat)(args:List V)(h:H)(Q:V->H->Prop):Prop:= ∃N f v h',(kI p N f).1 g args h=some (v,h')/\Q v h'
def Ey (id:Nat)(args:List V)(h:H)(Q:V->H->Prop):Prop:= ∃N f v h',(kI p N f).2 id args h=some (v,h')/\Q v h'
def Nl (vars loc:List V)(h:H)(a:dZ)(Q:V->H->Prop):Prop:= ∃N f v h',mE (kI p N f).1 (kI p N f).2 vars loc h a=some (v,h')/\Q v h'
def Vd (its:List It)(vars loc:List V)(h:H)(Q:List V->H->Prop):Prop:= ∃N f vars' h',uB (kI p N f).1 (kI p N f).2 its vars loc h=some (vars',h')/\Q vars' h'
def Xe (base:Nat)(xs:List AI)(vars:List V)(log:Log)(h:H)(Q:List V->H->Prop):Prop:= ∃N f vars' h',vB (kI p N f).1 (kI p N f).2 base xs vars log h=some (vars',h')/\Q vars' h'
def Wp (rd:Option Nat)(c:C)(vars:List V)(h:H)(Q:E->List V->H->Prop):Prop:=
 ∃N f e vars' h',run (kI p N f).1 (kI p N f).2 N rd c vars h=some (e,vars', [],h')/\Q e vars' h'
variable {p}
theorem Ev.mono {h:H}{Q:V->H->Prop}(e:Ev p g args h Q)(k: ∀v h',Q v h'->R v h'):Ev p g args h R:=by
 obtain⟨N,f,v,h',e,q⟩:=e;exact⟨N,f,v,h',e,k _ _ q⟩
theorem Ey.mono {id:Nat}{h:H}{Q:V->H->Prop}(e:Ey p id args h Q)(k: ∀v h',Q v h'->R v h'):Ey p id args h R:=by
 obtain⟨N,f,v,h',e,q⟩:=e;exact⟨N,f,v,h',e,k _ _ q⟩
theorem Wp.mono {rd:Option Nat}{vars:List V}{h:H}{Q R:E->List V->H->Prop}(e:Wp p rd c vars h Q)(k: ∀e v h',Q e v h'->R e v h'):Wp p rd c vars h R:=by
 obtain⟨N,f,a,v,h',e,q⟩:=e;exact⟨N,f,a,v,h',e,k _ _ _ q⟩
theorem Vd.mono {its:List It}{vars loc:List V}{h:H}{Q R:List V->H->Prop}(e:Vd p its vars loc h Q)(k: ∀v h',Q v h'->R v h'):Vd p its vars loc h R:=by
 obtain⟨N,f,v,h',e,q⟩:=e;exact⟨N,f,v,h',e,k _ _ q⟩
theorem PK {a:List V}{h:H}{Q:V->H->Prop}(e1:a=a')(e2:h=h'):Ev p g a h Q=Ev p g a' h' Q:=by rw[e1,e2]
theorem OV {a:List V}{h:H}{Q:V->H->Prop}(e1:a=a')(e2:h=h'):Ey p g a h Q=Ey p g a' h' Q:=by rw[e1,e2]
theorem CQ {a:dZ}{l l':List V}{h:H}{Q:V->H->Prop}(e1:v=v')(e3:l=l')(e2:h=h'):Nl p v l h a Q=Nl p v' l' h' a Q:=by rw[e1,e2,e3]
theorem CV {its:List It}{l l':List V}{h:H}{Q:List V->H->Prop}(e1:v=v')(e3:l=l')(e2:h=h'):Vd p its v l h Q=Vd p its v' l' h' Q:=by rw[e1,e2,e3]
theorem GG {base base':Nat}{xs:List AI}{l:Log}{h:H}{Q:List V->H->Prop}(e0:base=base')(e1:v=v')(e2:h=h'):Xe p base xs v l h Q=Xe p base' xs v' l h' Q:=by rw[e0,e1,e2]
theorem LA {rd:Option Nat}{h:H}{Q:E->List V->H->Prop}(e1:v=v')(e2:h=h'):Wp p rd c v h Q=Wp p rd c v' h' Q:=by rw[e1,e2]
def Jn (p:Nat->Option Fn)(rd:Option Nat)(a b:C)(vars:List V)(h:H)(Q:E->List V->H->Prop)(v:V):Prop:=match v with| .bool true=>Wp p rd a vars h Q| .bool false=>Wp p rd b vars h Q|_=>False
section
variable {rd:Option Nat} {a b:C} {vars:List V} {h:H} {Q:E->List V->H->Prop}
theorem Wx {v v':V}(e:v=v'):Jn p rd a b vars h Q v=Jn p rd a b vars h Q v':=by rw[e]
theorem FN:Jn p rd a b vars h Q (.bool true)=Wp p rd a vars h Q:=rfl
theorem Vs:Jn p rd a b vars h Q (.bool false)=Wp p rd b vars h Q:=rfl
theorem aY {P:Prop}[Decidable P](x:P->Wp p rd a vars h Q)(y: ¬P->Wp p rd b vars h Q):Jn p rd a b vars h Q (.bool (decide P)):=by
 by_cases h:P
 ·rw[decide_eq_true h];exact x h
 ·rw[decide_eq_false h];exact y h
theorem NT {t:Bool}:Jn p rd a b vars h Q (.bool (!t))=Jn p rd b a vars h Q (.bool t):=by cases t<;>rfl
end
def ZL (K:V->H->Prop):V×H->Prop:=λr=>K r.1 r.2
theorem YG (K:V->H->Prop)(v:V)(h:H):ZL K (v,h)=K v h:=rfl
def OO (p:Nat->Option Fn)(d:D)(its:List It)(vars loc:List V)(Q:List V->H->Prop):V->H->Prop:=λv h'=>Vd p its (lY d vars loc v).1 (lY d vars loc v).2 h' Q
theorem TV (d:D)(its:List It)(vars loc:List V)(Q:List V->H->Prop)(v:V)(h':H):OO p d its vars loc Q v h'=Vd p its (lY d vars loc v).1 (lY d vars loc v).2 h' Q:=rfl
def Us (p:Nat->Option Fn)(d:D)(a:dZ)(its:List It)(vars loc:List V)(h:H)(Q:List V->H->Prop)(w:Bool):Prop:=match w with
 |true=>Nl p vars loc h a (OO p d its vars loc Q)
 |false=>Vd p its (lY d vars loc .undef).1 (lY d vars loc .undef).2 h Q
section
variable {d:D} {a:dZ} {its:List It} {vars loc:List V} {h:H} {Q:List V->H->Prop}
theorem Rn {v v':Bool}(e:v=v'):Us p d a its vars loc h Q v=Us p d a its vars loc h Q v':=by rw[e]
theorem Yi:Us p d a its vars loc h Q true=Nl p vars loc h a (OO p d its vars loc Q):=rfl
theorem Ug:Us p d a its vars loc h Q false=Vd p its (lY d vars loc .undef).1 (lY d vars loc .undef).2 h Q:=rfl
end
def Qv (p:Nat->Option Fn)(base:Nat)(x:AI)(xs:List AI)(vars:List V)(log:Log)(Q:List V->H->Prop):V->H->Prop:=λv h'=>qX x.cks log h'=true/\Xe p base xs (lY x.it.d vars [] v).1 (Hd x vars v log) h' Q
theorem QT (base i:Nat)(d:D)(g:Option (X×Bool))(a:dZ)(al:Bool)(cks:List Nat)(xs:List AI)(vars:List V)(log:Log)(Q:List V->H->Prop)(v:V)(h':H):Qv p base ⟨i,⟨d,g,a⟩,al,cks⟩ xs vars log Q v h'=(qX cks log h'=true/\Xe p base xs (lY d vars [] v).1 (Hd ⟨i,⟨d,g,a⟩,al,cks⟩ vars v log) h' Q):=rfl
def Mw (p:Nat->Option Fn)(base i:Nat)(d:D)(x:X)(b:Bool)(a:dZ)(al:Bool)(cks:List Nat)(xs:List AI)(vars:List V)(log:Log)(h:H)(Q:List V->H->Prop)(w:Bool):Prop:=match w,al with
 |true,true=>nE (Iu vars h (base+i) a) (ZL (Qv p base ⟨i,⟨d,some (x,b),a⟩,true,cks⟩ xs vars log Q))
 |true,false=>Nl p vars [] h a (Qv p base ⟨i,⟨d,some (x,b),a⟩,false,cks⟩ xs vars log Q)
 |false,_=>qX cks log h=true/\Xe p base xs (lY d vars [] .undef).1 log h Q
section
variable {base i:Nat} {d:D} {x:X} {b al:Bool} {a:dZ} {cks:List Nat} {xs:List AI} {vars:List V} {log:Log} {h:H} {Q:List V->H->Prop}
theorem Ti {v v':Bool}(e:v=v'):Mw p base i d x b a al cks xs vars log h Q v=Mw p base i d x b a al cks xs vars log h Q v':=by rw[e]
theorem HU:Mw p base i d x b a true cks xs vars log h Q true=nE (Iu vars h (base+i) a) (ZL (Qv p base ⟨i,⟨d,some (x,b),a⟩,true,cks⟩ xs vars log Q)):=rfl
theorem HQ:Mw p base i d x b a false cks xs vars log h Q true=Nl p vars [] h a (Qv p base ⟨i,⟨d,some (x,b),a⟩,false,cks⟩ xs vars log Q):=rfl
theorem RN:Mw p base i d x b a al cks xs vars log h Q false=(qX cks log h=true/\Xe p base xs (lY d vars [] .undef).1 log h Q):=rfl
end
theorem Xi (p:Nat->Option Fn){N N' f f':Nat}(h1:N<=N')(h2:f<=f'):Le (kI p N f).1 (kI p N' f').1/\Le (kI p N f).2 (kI p N' f').2:=Ua p h1 f f' h2
theorem WN (vars loc:List V)(h:H)(i:I)(Q:V->H->Prop):Nl p vars loc h (.op i) Q=nE (cX (xv vars loc) h i) (ZL Q):=by
 unfold Nl nE;refine propext ⟨λ⟨N,f,v,h',e,q⟩=>⟨(v,h'),by rw[tA] at e;exact e,q⟩,λ⟨r,e,q⟩=>⟨0,0,r.1,r.2,by rw[tA];exact e,q⟩⟩
theorem LI (vars loc:List V)(h:H)(g:Nat)(args:List X)(Q:V->H->Prop):Nl p vars loc h (.call g args) Q=Ev p g (args.map (xv vars loc)) h Q:=by
 unfold Nl Ev;simp only[tD]
def Ap (p:Nat->Option Fn)(x:V)(args:List V)(h:H)(Q:V->H->Prop):Prop:=match x with
 | .fn g fs cs=>Ev p g (fs++args++cs) h Q
 | .yl id=>Ey p id args h Q
 |_=>False
theorem Ap.mono {x:V}{h:H}{Q:V->H->Prop}(e:Ap p x args h Q)(k: ∀v h',Q v h'->R v h'):Ap p x args h R:=by
 unfold Ap at*;split at e
 ·exact e.mono k
 ·exact e.mono k
 ·exact e.elim
theorem Td {x x':V}{a:List V}{h:H}{Q:V->H->Prop}(e0:x=x')(e1:a=a')(e2:h=h'):Ap p x a h Q=Ap p x' a' h' Q:=by rw[e0,e1,e2]
theorem OJ (g:Nat)(fs cs args:List V)(h:H)(Q:V->H->Prop):Ap p (.fn g fs cs) args h Q=Ev p g (fs++args++cs) h Q:=rfl
theorem HW (id:Nat)(args:List V)(h:H)(Q:V->H->Prop):Ap p (.yl id) args h Q=Ey p id args h Q:=rfl
theorem CC (vars loc:List V)(h:H)(x:X)(args:List X)(Q:V->H->Prop):Nl p vars loc h (.callv x args) Q=Ap p (xv vars loc x) (args.map (xv vars loc)) h Q:=by
 unfold Nl;simp only[qW];unfold Ap;cases xv vars loc x<;>simp [Ev,Ey]
def Ov (p:Nat->Option Fn)(g t:Nat)(x:V)(args:List V)(h:H)(Q:V->H->Prop):Prop:=match x with
 | .ifc u v=>u=t/\Ev p g (v::args) h Q
 |_=>False
theorem Xz (g t:Nat)(v:V)(args:List V)(h:H)(Q:V->H->Prop):Ov p g t (.ifc t v) args h Q=Ev p g (v::args) h Q:=by
 simp [Ov]
theorem FA (vars loc:List V)(h:H)(g t:Nat)(x:X)(args:List X)(Q:V->H->Prop):Nl p vars loc h (.calli g t x args) Q=Ov p g t (xv vars loc x) (args.map (xv vars loc)) h Q:=by
 unfold Nl;simp only[qS];unfold Ov;cases xv vars loc x<;>simp only[reduceCtorEq,false_and,exists_false];rename_i u v
 by_cases hu:u=t
 ·subst hu
  simp [Ev]
 ·have:Nat.beq u t=false:=by
   cases hq:Nat.beq u t with
   |false=>rfl
   |true=>exact absurd (Nat.eq_of_beq_eq_true hq) hu
  simp [this,hu]
def Oy (p:Nat->Option Fn)(g:Nat)(vs:List V)(h:H)(Q:V->H->Prop):Prop:=vs.all V.Fq=true/\Ev p g vs ⟨.lf,0⟩ (λv _=>v.Fq=true/\Q v h)
theorem DR (vars loc:List V)(h:H)(g:Nat)(args:List X)(Q:V->H->Prop):Nl p vars loc h (.callp g args) Q=Oy p g (args.map (xv vars loc)) h Q:=by
 unfold Nl Oy Ev;refine propext ⟨λ⟨N,f,v,h',e,q⟩=>?_,λ⟨h1,N,f,v,h',e,h2,q⟩=>⟨N,f,v,h,?_,q⟩⟩
 ·rw[mL] at e
  obtain⟨rfl,h1,h2,h3,h4⟩:=wJ e;exact⟨h1,N,f,v,h3,h4,h2,q⟩
 ·rw[mL]
  unfold Gh;simp only[h1,e,h2,cond_true]
theorem Oy.intro {vs:List V}{h:H}{Q:V->H->Prop}(e:Ev p g vs ⟨.lf,0⟩ R)(h1:vs.all V.Fq=true)(k: ∀v h',R v h'->v.Fq=true/\Q v h):Oy p g vs h Q:=⟨h1,e.mono k⟩
theorem SQ (vars loc:List V)(h:H)(Q:List V->H->Prop):Vd p [] vars loc h Q=Q vars h:=by
 unfold Vd;refine propext ⟨λ⟨N,f,v,h',e,q⟩=>?_,λq=>⟨0,0,vars,h,rfl,q⟩⟩;rw[Fe] at e;cases e;exact q
theorem LC (d:D)(a:dZ)(its:List It)(vars loc:List V)(h:H)(Q:List V->H->Prop):
  Vd p (⟨d,none,a⟩::its) vars loc h Q=Nl p vars loc h a (OO p d its vars loc Q):=by
 unfold OO Vd Nl
 refine propext ⟨λ⟨N,f,v,h',e,q⟩=>?_,λ⟨N,f,v,h1,e,N2,f2,vars',h',e2,q⟩=>?_⟩
 ·rw[oD] at e
  simp only[fZ] at e
  split at e
  ·rename_i v1 h1 ha
   exact⟨N,f,v1,h1,ha,N,f,v,h',e,q⟩
  ·cases e
 ·refine⟨max N N2,max f f2,vars',h',?_,q⟩
  rw[oD]
  have b1:=Xi p (Nat.le_max_left N N2) (Nat.le_max_left f f2)
  have b2:=Xi p (Nat.le_max_right N N2) (Nat.le_max_right f f2)
  simp only[fZ,qJ b1.1 b1.2 e]
  exact pX b2.1 b2.2 _ _ _ _ _ e2
theorem FL (d:D)(x:X)(b:Bool)(a:dZ)(its:List It)(vars loc:List V)(h:H)(Q:List V->H->Prop):
  Vd p (⟨d,some (x,b),a⟩::its) vars loc h Q=nE (fZ vars loc (some (x,b))) (Us p d a its vars loc h Q):=by
 unfold nE
 refine propext ⟨λ⟨N,f,v,h',e,q⟩=>?_,λ⟨w,hw,k⟩=>?_⟩
 ·rw[oD] at e
  split at e
  ·rename_i hw
   refine⟨true,hw,?_⟩
   split at e
   ·rename_i v1 h1 ha
    exact⟨N,f,v1,h1,ha,N,f,v,h',e,q⟩
   ·cases e
  ·rename_i hw
   exact⟨false,hw,N,f,v,h',e,q⟩
  ·cases e
 ·cases w with
  |true=>
   obtain⟨N,f,v,h1,e,N2,f2,vars',h',e2,q⟩:=k;refine⟨max N N2,max f f2,vars',h',?_,q⟩;rw[oD];have b1:=Xi p (Nat.le_max_left N N2) (Nat.le_max_left f f2);have b2:=Xi p (Nat.le_max_right N N2) (Nat.le_max_right f f2);simp only[hw,qJ b1.1 b1.2 e];exact pX b2.1 b2.2 _ _ _ _ _ e2
  |false=>
   obtain⟨N,f,v,h',e,q⟩:=k;refine⟨N,f,v,h',?_,q⟩;rw[oD];simp only[hw];exact e
theorem TH (base:Nat)(vars:List V)(log:Log)(h:H)(Q:List V->H->Prop):Xe p base [] vars log h Q=Q vars h:=by
 unfold Xe;refine propext ⟨λ⟨N,f,v,h',e,q⟩=>?_,λq=>⟨0,0,vars,h,rfl,q⟩⟩;rw[Fo] at e;cases e;exact q
theorem KV (base i:Nat)(d:D)(a:dZ)(cks:List Nat)(xs:List AI)(vars:List V)(log:Log)(h:H)(Q:List V->H->Prop):
  Xe p base (⟨i,⟨d,none,a⟩,false,cks⟩::xs) vars log h Q=Nl p vars [] h a (Qv p base ⟨i,⟨d,none,a⟩,false,cks⟩ xs vars log Q):=by
 unfold Qv Xe Nl
 refine propext ⟨λ⟨N,f,v,h',e,q⟩=>?_,λ⟨N,f,v,h1,e,ho,N2,f2,vars',h',e2,q⟩=>?_⟩
 ·rw[jM] at e
  simp only[fZ,Bool.false_eq_true,if_false] at e
  split at e
  ·rename_i v1 h1 ha
   split at e
   ·rename_i ho
    exact⟨N,f,v1,h1,ha,ho,N,f,v,h',e,q⟩
   ·cases e
  ·cases e
 ·refine⟨max N N2,max f f2,vars',h',?_,q⟩
  rw[jM]
  have b1:=Xi p (Nat.le_max_left N N2) (Nat.le_max_left f f2)
  have b2:=Xi p (Nat.le_max_right N N2) (Nat.le_max_right f f2)
  simp only[fZ,Bool.false_eq_true,if_false,qJ b1.1 b1.2 e,ho,if_true]
  exact sT b2.1 b2.2 _ _ _ _ _ e2
theorem DD (base i:Nat)(d:D)(a:dZ)(cks:List Nat)(xs:List AI)(vars:List V)(log:Log)(h:H)(Q:List V->H->Prop):
  Xe p base (⟨i,⟨d,none,a⟩,true,cks⟩::xs) vars log h Q=nE (Iu vars h (base+i) a) (ZL (Qv p base ⟨i,⟨d,none,a⟩,true,cks⟩ xs vars log Q)):=by
 unfold ZL Qv Xe nE
 refine propext ⟨λ⟨N,f,v,h',e,q⟩=>?_,λ⟨r,e,ho,N2,f2,vars',h',e2,q⟩=>?_⟩
 ·rw[jM] at e
  simp only[fZ,if_true] at e
  split at e
  ·rename_i v1 h1 ha
   split at e
   ·rename_i ho
    exact⟨(v1,h1),ha,ho,N,f,v,h',e,q⟩
   ·cases e
  ·cases e
 ·refine⟨N2,f2,vars',h',?_,q⟩
  rw[jM]
  obtain⟨v,h1⟩:=r
  simp only[fZ,if_true,e,ho]
  exact e2
theorem BR (base i:Nat)(d:D)(x:X)(b:Bool)(a:dZ)(al:Bool)(cks:List Nat)(xs:List AI)(vars:List V)(log:Log)(h:H)(Q:List V->H->Prop):
  Xe p base (⟨i,⟨d,some (x,b),a⟩,al,cks⟩::xs) vars log h Q=nE (fZ vars [] (some (x,b))) (Mw p base i d x b a al cks xs vars log h Q):=by
 unfold nE
 refine propext ⟨λ⟨N,f,v,h',e,q⟩=>?_,λ⟨w,hw,k⟩=>?_⟩
 ·rw[jM] at e
  split at e
  ·rename_i hw
   refine⟨true,hw,?_⟩
   cases al with
   |true=>
    simp only[if_true] at e;split at e
    ·rename_i v1 h1 ha
     split at e
     ·rename_i ho
      exact⟨(v1,h1),ha,ho,N,f,v,h',e,q⟩
     ·cases e
    ·cases e
   |false=>
    simp only[Bool.false_eq_true,if_false] at e;split at e
    ·rename_i v1 h1 ha
     split at e
     ·rename_i ho
      exact⟨N,f,v1,h1,ha,ho,N,f,v,h',e,q⟩
     ·cases e
    ·cases e
  ·rename_i hw
   split at e
   ·rename_i ho
    exact⟨false,hw,ho,N,f,v,h',e,q⟩
   ·cases e
  ·cases e
 ·cases w with
  |true=>
   cases al with
   |true=>
    obtain⟨⟨v,h1⟩,e,ho,N2,f2,vars',h',e2,q⟩:=k;refine⟨N2,f2,vars',h',?_,q⟩;rw[jM];simp only[hw,if_true,e,ho];exact e2
   |false=>
    obtain⟨N,f,v,h1,e,ho,N2,f2,vars',h',e2,q⟩:=k;refine⟨max N N2,max f f2,vars',h',?_,q⟩;rw[jM];have b1:=Xi p (Nat.le_max_left N N2) (Nat.le_max_left f f2);have b2:=Xi p (Nat.le_max_right N N2) (Nat.le_max_right f f2);simp only[hw,Bool.false_eq_true,if_false,qJ b1.1 b1.2 e,ho,if_true];exact sT b2.1 b2.2 _ _ _ _ _ e2
  |false=>
   obtain⟨ho,N2,f2,vars',h',e2,q⟩:=k;refine⟨N2,f2,vars',h',?_,q⟩;rw[jM];simp only[hw,ho,if_true];exact e2
variable {rd:Option Nat} {vars:List V} {h:H} {Q:E->List V->H->Prop}
theorem RT:Wp p rd .skip vars h Q=Q .norm vars h:=by
 unfold Wp;simp only[Ds];exact propext ⟨λ⟨_,_,_,_,_,e,q⟩=>by cases e;exact q,λq=>⟨0,0,_,_,_,rfl,q⟩⟩
theorem XB:Wp p rd .ret vars h Q=Q .ret vars h:=by
 unfold Wp;simp only[Ql];exact propext ⟨λ⟨_,_,_,_,_,e,q⟩=>by cases e;exact q,λq=>⟨0,0,_,_,_,rfl,q⟩⟩
theorem VC (n:Nat):Wp p rd (.exit n) vars h Q=Q (.exit n) vars h:=by
 unfold Wp;simp only[Jc];exact propext ⟨λ⟨_,_,_,_,_,e,q⟩=>by cases e;exact q,λq=>⟨0,0,_,_,_,rfl,q⟩⟩
theorem PG (a:C):Wp p rd (.scope a) vars h Q=Wp p rd a vars h Q:=by
 unfold Wp;simp only[Ea]
theorem WC (its:List It):Wp p rd (.reg its) vars h Q=Vd p its vars [] h (Q .norm):=by
 unfold Wp Vd;simp only[Pg];refine propext ⟨λ⟨N,f,e,v,h',he,q⟩=>?_,λ⟨N,f,v,h',he,q⟩=>⟨N,f,.norm,v,h',by rw[he],q⟩⟩;split at he
 ·rename_i hr;cases he;exact⟨N,f,_,_,hr,q⟩
 ·cases he
def WX (n:Nat)(Q:E->List V->H->Prop):List V->H->Prop:=λvs h'=>Q .norm (vs.take n) h'
theorem SG (n:Nat)(vs:List V)(h':H):WX n Q vs h'=Q .norm (vs.take n) h':=rfl
theorem XZ (k nl:Nat)(its:List AI):Wp p rd (.any k nl its) vars h Q=Xe p h.next its (vars++List.replicate nl .unk) [] {h with next:=h.next+k} (WX vars.length Q):=by
 unfold WX Wp Xe;simp only[Pq];refine propext ⟨λ⟨N,f,e,v,h',he,q⟩=>?_,λ⟨N,f,v,h',he,q⟩=>⟨N,f,.norm,_,h',by rw[he],q⟩⟩;split at he
 ·rename_i hr;cases he;exact⟨N,f,_,_,hr,q⟩
 ·cases he
def Ht (p:Nat->Option Fn)(rd:Option Nat)(b:C)(Q:E->List V->H->Prop):E->List V->H->Prop:=λe vars h=>match e with| .norm=>Wp p rd b vars h Q|e=>Q e vars h
theorem Jh (b:C)(vars:List V)(h:H):Ht p rd b Q .norm vars h=Wp p rd b vars h Q:=rfl
theorem EJ (b:C)(vars:List V)(h:H):Ht p rd b Q .ret vars h=Q .ret vars h:=rfl
theorem Xd (b:C)(n:Nat)(vars:List V)(h:H):Ht p rd b Q (.exit n) vars h=Q (.exit n) vars h:=rfl
theorem JT (a b:C):Wp p rd (.seq a b) vars h Q=Wp p rd a vars h (Ht p rd b Q):=by
 refine propext ⟨λ⟨N,f,e,v,h',he,q⟩=>?_,λ⟨N,f,e,v,h1,he,k⟩=>?_⟩
 ·rw[run_seq] at he
  cases hr:run (kI p N f).1 (kI p N f).2 N rd a vars h with
  |none=>simp [hr] at he
  |some r=>
   obtain⟨e1,v1,d1,h1⟩:=r;simp only[hr] at he
   cases e1 with
   |norm=>
    simp only at he
    cases hr2:run (kI p N f).1 (kI p N f).2 N rd b v1 h1 with
    |none=>simp [hr2] at he
    |some r=>
     obtain⟨e2,v2,d2,h2⟩:=r;simp only[hr2,Option.some.injEq,Prod.mk.injEq] at he;obtain⟨rfl,rfl,hd,rfl⟩:=he;simp only[List.append_eq_nil_iff] at hd;obtain⟨rfl,rfl⟩:=hd;exact⟨N,f,.norm,v1,h1,hr,N,f,_,_,_,hr2,q⟩
   |ret=>simp only at he;cases he;exact⟨N,f,_,_,_,hr,q⟩
   |exit n=>simp only at he;cases he;exact⟨N,f,_,_,_,hr,q⟩
 ·cases e with
  |norm=>
   obtain⟨N2,f2,e2,v2,h2,he2,q⟩:=k;refine⟨max N N2,max f f2,e2,v2,h2,?_,q⟩;have b1:=Xi p (Nat.le_max_left N N2) (Nat.le_max_left f f2);have b2:=Xi p (Nat.le_max_right N N2) (Nat.le_max_right f f2);rw[run_seq,iT b1.1 b1.2 (Nat.le_max_left N N2) _ _ _ _ he];simp only[iT b2.1 b2.2 (Nat.le_max_right N N2) _ _ _ _ he2]
   rfl
  |ret=>exact⟨N,f,_,_,_,by rw[run_seq,he],k⟩
  |exit n=>exact⟨N,f,_,_,_,by rw[run_seq,he],k⟩
theorem WU (x:X)(a b:C):Wp p rd (.ite x a b) vars h Q=Jn p rd a b vars h Q (xv vars [] x):=by
 unfold Jn Wp;simp only[run_ite]
 cases xv vars [] x with
 |bool t=>cases t<;>rfl
 |_=>exact propext ⟨λ⟨_,_,_,_,_,e,_⟩=>(nomatch e),λh=>h.elim⟩
def uM (id:Nat)(Q:E->List V->H->Prop):E->List V->H->Prop:=λe vars h=>match e with| .exit n=>if n=id then Q .norm vars h else Q (.exit n) vars h|e=>Q e vars h
theorem Uk (id:Nat)(vars:List V)(h:H):uM id Q .norm vars h=Q .norm vars h:=rfl
theorem Yb (id:Nat)(vars:List V)(h:H):uM id Q .ret vars h=Q .ret vars h:=rfl
theorem yS (id:Nat)(vars:List V)(h:H):uM id Q (.exit id) vars h=Q .norm vars h:=if_pos rfl
theorem DL (id n:Nat)(hn:n≠id)(vars:List V)(h:H):uM id Q (.exit n) vars h=Q (.exit n) vars h:=if_neg hn
theorem MZ (id:Nat)(a:C):Wp p rd (.block id a) vars h Q=Wp p rd a vars h (uM id Q):=by
 unfold Wp;simp only[Dz];refine propext ⟨λ⟨N,f,e,v,h',he,q⟩=>?_,λ⟨N,f,e,v,h1,he,k⟩=>?_⟩
 ·cases hr:run (kI p N f).1 (kI p N f).2 N rd a vars h with
  |none=>simp [hr] at he
  |some r=>
   obtain⟨e1,v1,d1,h1⟩:=r;simp only[hr] at he
   cases e1 with
   |exit n=>
    simp only at he;split at he
    ·rename_i hn;cases he;exact⟨N,f,_,_,_,hr,by simp only[uM];rw[if_pos hn];exact q⟩
    ·rename_i hn;cases he;exact⟨N,f,_,_,_,hr,by simp only[uM];rw[if_neg hn];exact q⟩
   |norm=>simp only at he;cases he;exact⟨N,f,_,_,_,hr,q⟩
   |ret=>simp only at he;cases he;exact⟨N,f,_,_,_,hr,q⟩
 ·cases e with
  |exit n=>
   simp only[uM] at k;split at k
   ·rename_i hn;exact⟨N,f,_,_,_,by rw[he];simp only;rw[if_pos hn],k⟩
   ·rename_i hn;exact⟨N,f,_,_,_,by rw[he];simp only;rw[if_neg hn],k⟩
  |norm=>exact⟨N,f,_,_,_,by rw[he],k⟩
  |ret=>exact⟨N,f,_,_,_,by rw[he],k⟩
def Om (J:List V->H->Prop)(Q:E->List V->H->Prop):E->List V->H->Prop:=λe vars h=>match e with| .norm=>J vars h|e=>Q e vars h
theorem Sa (J:List V->H->Prop)(vars:List V)(h:H):Om J Q .norm vars h=J vars h:=rfl
theorem Vz (J:List V->H->Prop)(vars:List V)(h:H):Om J Q .ret vars h=Q .ret vars h:=rfl
theorem Tq (J:List V->H->Prop)(n:Nat)(vars:List V)(h:H):Om J Q (.exit n) vars h=Q (.exit n) vars h:=rfl
theorem aG (J:Nat->List V->H->Prop)(k:Nat)(h0:J k vars h)
  (step: ∀k vars h,J k vars h->Wp p rd c vars h (Om (λv h'=> ∃k',k'<k/\J k' v h') Q)):Wp p rd (.loop c) vars h Q:=by
 have key: ∀k vars h,J k vars h-> ∃N f n e vars' h',zH (run (kI p N f).1 (kI p N f).2 N rd c) n vars h=some (e,vars', [],h')/\Q e vars' h':=by
  intro k
  induction k using Nat.strongRecOn with
  |ind k ih=>
   intro vars h hJ;obtain⟨N,f,e,v,h1,he,q⟩:=step k vars h hJ
   cases e with
   |norm=>
    obtain⟨k',hk',hJ'⟩:=q;obtain⟨N2,f2,n,e2,v2,h2,he2,q2⟩:=ih k' hk' v h1 hJ';have b1:=Xi p (Nat.le_max_left N N2) (Nat.le_max_left f f2);have b2:=Xi p (Nat.le_max_right N N2) (Nat.le_max_right f f2);refine⟨max N N2,max f f2,n+1,e2,v2,h2,?_,q2⟩;rw[sZ,iT b1.1 b1.2 (Nat.le_max_left N N2) _ _ _ _ he];simp only[wC (λv h r=>iT b2.1 b2.2 (Nat.le_max_right N N2) c v h r) n n (gV _) _ _ _ he2]
    rfl
   |ret=>exact⟨N,f,1,_,_,_,by rw[sZ,he],q⟩
   |exit n=>exact⟨N,f,1,_,_,_,by rw[sZ,he],q⟩
 obtain⟨N,f,n,e,v,h',he,q⟩:=key k vars h h0
 refine⟨max N n,f,e,v,h',?_,q⟩
 have b:=Xi p (Nat.le_max_left N n) (gV f)
 rw[Ja]
 exact wC (λv h r=>iT b.1 b.2 (Nat.le_max_left N n) c v h r) n (max N n) (Nat.le_max_right N n) _ _ _ he
def OG (id:Nat)(vars:List V)(Q:E->List V->H->Prop):V->H->Prop:=λ_ h'=> ∃r,h'.get id=some (.loop r)/\r.st≠ .busy/\Q (r.pend.getD .norm) vars (h'.set id (some (.loop {r with st:= .out})))
def Km (p:Nat->Option Fn)(rd:Option Nat)(x:V)(pars:List Nat)(assign body:C)(vars:List V)(h:H)(Q:E->List V->H->Prop):Prop:=
 match x with
 | .fn g fs cs=>DG rd h=true/\Ev p g (fs++ .yl h.next::cs) (h.new (.loop {vars,pars,assign,body,st:= .ready,pend:=none})) (OG h.next vars Q)
 |_=>False
theorem Ox {x x':V}{pars:List Nat}{a b:C}{h:H}(e0:x=x')(e1:v=v')(e2:h=h'):Km p rd x pars a b v h Q=Km p rd x' pars a b v' h' Q:=by rw[e0,e1,e2]
theorem BS (g:Nat)(fs cs:List V)(pars:List Nat)(assign body:C):Km p rd (.fn g fs cs) pars assign body vars h Q=(DG rd h=true/\Ev p g (fs++ .yl h.next::cs) (h.new (.loop {vars,pars,assign,body,st:= .ready,pend:=none})) (OG h.next vars Q)):=rfl
theorem JD (x:X)(pars:List Nat)(a b:C):Wp p rd (.range x pars a b) vars h Q=Km p rd (xv vars [] x) pars a b vars h Q:=by
 unfold Wp Km;simp only[Eh,yZ]
 cases xv vars [] x with
 |fn g fs cs=>
  simp only;refine propext ⟨λ⟨N,f,e,v,h',he,q⟩=>?_,λ⟨ho,N,f,v,h',he,r,hg,hb,q⟩=>?_⟩
  ·split at he
   ·rename_i ho
    refine⟨ho,?_⟩;split at he
    ·rename_i v1 h1 hc
     split at he
     ·rename_i r hg
      split at he
      ·cases he
      ·rename_i hb
       cases he;exact⟨N,f,v1,h1,hc,r,hg,hb,q⟩
     ·cases he
    ·cases he
   ·cases he
  ·refine⟨N,f,_,_,_,?_,q⟩
   rw[if_pos ho];simp only[he,hg];rw[if_neg hb]
 |_=>exact propext ⟨λ⟨_,_,_,_,_,e,_⟩=>(nomatch e),λh=>h.elim⟩
def RJ (Q:V->H->Prop)(h:H):List V->Prop:=λvs=>Q (Ec vs) h
theorem TJ (Q:V->H->Prop)(h:H)(vs:List V):RJ Q h vs=Q (Ec vs) h:=rfl
def OM (results:List Rv)(Q:V->H->Prop):E->List V->H->Prop:=λe vars h=>match e with
 | .exit _=>False
 |_=>nE (cQ (results.map (Ad vars h))) (RJ Q h)
theorem EL (results:List Rv)(Q:V->H->Prop)(vars:List V)(h:H):OM results Q .norm vars h=nE (cQ (results.map (Ad vars h))) (RJ Q h):=rfl
theorem NZ (results:List Rv)(Q:V->H->Prop)(vars:List V)(h:H):OM results Q .ret vars h=nE (cQ (results.map (Ad vars h))) (RJ Q h):=rfl
theorem Gg {fn:Fn}{h:H}{Q:V->H->Prop}(hg:p g=some fn)(hl:args.length=fn.nargs)(hw:Wp p none fn.body (Ax fn args) h (OM fn.results Q)):Ev p g args h Q:=by
 obtain⟨N,f,e,v,h',he,q⟩:=hw
 cases e with
 |exit n=>exact q.elim
 |norm=>
  obtain⟨vs,hv,q⟩:=q;refine⟨N,f+1,Ec vs,h',?_,q⟩;rw[qY];simp only[yV,hg,hl,if_true,he,vF,hv,Option.map_some]
 |ret=>
  obtain⟨vs,hv,q⟩:=q;refine⟨N,f+1,Ec vs,h',?_,q⟩;rw[qY];simp only[yV,hg,hl,if_true,he,vF,hv,Option.map_some]
def Hv (id:Nat)(Q:V->H->Prop):E->List V->H->Prop:=λe _ h=> ∃r3,h.get id=some (.loop r3)/\(match e with
 | .norm=>Q (.bool true) (h.set id (some (.loop {r3 with st:= .ready,pend:=none})))
 |e=>Q (.bool false) (h.set id (some (.loop {r3 with st:= .done,pend:=some e}))))
theorem aaH {id:Nat}{h:H}{Q:V->H->Prop}{r:iB}(hr:h.get id=some (.loop r))(hl:args.length=r.pars.length)
  (hw:Wp p (some id) r.assign ((r.pars.zip args).foldl (λvs q=>vs.set q.1 q.2) r.vars) h λe vars h1=>e= .norm/\ ∃r2,h1.get id=some (.loop r2)/\r2.st= .ready/\
   Wp p (some id) r.body vars (h1.set id (some (.loop {r2 with st:= .busy}))) (Hv id Q)):Ey p id args h Q:=by
 obtain⟨N,f,e,v,h1,he,rfl,r2,hr2,jK,N2,f2,e2,v2,h2,he2,r3,hr3,q⟩:=hw
 have b1:=Xi p (show N<=max N N2 by omega) (show f<=max f f2 by omega)
 have b2:=Xi p (show N2<=max N N2 by omega) (show f2<=max f f2 by omega)
 cases e2 with
 |norm=>
  refine⟨max N N2,max f f2+1,.bool true,_,?_,q⟩;rw[qY];simp only[uQ,hr,hl,if_true,iT b1.1 b1.2 (show N<=max N N2 by omega) _ _ _ _ he,hr2,jK,iT b2.1 b2.2 (show N2<=max N N2 by omega) _ _ _ _ he2,hr3]
 |ret=>
  refine⟨max N N2,max f f2+1,.bool false,_,?_,q⟩;rw[qY];simp only[uQ,hr,hl,if_true,iT b1.1 b1.2 (show N<=max N N2 by omega) _ _ _ _ he,hr2,jK,iT b2.1 b2.2 (show N2<=max N N2 by omega) _ _ _ _ he2,hr3]
 |exit n=>
  refine⟨max N N2,max f f2+1,.bool false,_,?_,q⟩;rw[qY];simp only[uQ,hr,hl,if_true,iT b1.1 b1.2 (show N<=max N N2 by omega) _ _ _ _ he,hr2,jK,iT b2.1 b2.2 (show N2<=max N N2 by omega) _ _ _ _ he2,hr3]
end
end
end Go.Ay
