/- The abstract machine, by weakest preconditions. -/
import Derived.Test.YtddpkbicnolafaaGreatAy22
namespace Go.Ay
def pP {α:Type}(o:Option α)(K:α->Prop):Prop:= ∃a,o=some a/\K a
theorem GF {α:Type}(a:α)(K:α->Prop):pP (some a) K=K a:=propext ⟨λ⟨_,h,k⟩=>by cases h;exact k,λk=>⟨a,rfl,k⟩⟩
theorem EC {α:Type}{o o':Option α}{K:α->Prop}(h:o=o'):pP o K=pP o' K:=by rw[h]
section
variable (p:Nat->Option Fn)
def Ev (g:Nat)(args:List V)(h:H)(Q:V->H->Prop):Prop:= ∃N f v h',(lV p N f).1 g args h=some (v,h')/\Q v h'
def Ey (id:Nat)(args:List V)(h:H)(Q:V->H->Prop):Prop:= ∃N f v h',(lV p N f).2 id args h=some (v,h')/\Q v h'
def Yn (vars loc:List V)(h:H)(a:eC)(Q:V->H->Prop):Prop:= ∃N f v h',oH (lV p N f).1 (lV p N f).2 vars loc h a=some (v,h')/\Q v h'
def JA (its:List It)(vars loc:List V)(h:H)(Q:List V->H->Prop):Prop:= ∃N f vars' h',zB (lV p N f).1 (lV p N f).2 its vars loc h=some (vars',h')/\Q vars' h'
def LY (base:Nat)(xs:List AI)(vars:List V)(log:Log)(h:H)(Q:List V->H->Prop):Prop:= ∃N f vars' h',zX (lV p N f).1 (lV p N f).2 base xs vars log h=some (vars',h')/\Q vars' h'
def Wp (rd:Option Nat)(c:C)(vars:List V)(h:H)(Q:E->List V->H->Prop):Prop:=
 ∃N f e vars' h',run (lV p N f).1 (lV p N f).2 N rd c vars h=some (e,vars', [],h')/\Q e vars' h'
variable {p}
theorem Ev.mono {g:Nat}{args:List V}{h:H}{Q R:V->H->Prop}(e:Ev p g args h Q)(k: ∀v h',Q v h'->R v h'):Ev p g args h R:=by
 obtain⟨N,f,v,h',e,q⟩:=e;exact⟨N,f,v,h',e,k _ _ q⟩
theorem Ey.mono {id:Nat}{args:List V}{h:H}{Q R:V->H->Prop}(e:Ey p id args h Q)(k: ∀v h',Q v h'->R v h'):Ey p id args h R:=by
 obtain⟨N,f,v,h',e,q⟩:=e;exact⟨N,f,v,h',e,k _ _ q⟩
theorem Wp.mono {rd:Option Nat}{c:C}{vars:List V}{h:H}{Q R:E->List V->H->Prop}(e:Wp p rd c vars h Q)(k: ∀e v h',Q e v h'->R e v h'):Wp p rd c vars h R:=by
 obtain⟨N,f,a,v,h',e,q⟩:=e;exact⟨N,f,a,v,h',e,k _ _ _ q⟩
theorem JA.mono {its:List It}{vars loc:List V}{h:H}{Q R:List V->H->Prop}(e:JA p its vars loc h Q)(k: ∀v h',Q v h'->R v h'):JA p its vars loc h R:=by
 obtain⟨N,f,v,h',e,q⟩:=e;exact⟨N,f,v,h',e,k _ _ q⟩
theorem VQ {g:Nat}{a a':List V}{h h':H}{Q:V->H->Prop}(e1:a=a')(e2:h=h'):Ev p g a h Q=Ev p g a' h' Q:=by rw[e1,e2]
theorem aaF {g:Nat}{a a':List V}{h h':H}{Q:V->H->Prop}(e1:a=a')(e2:h=h'):Ey p g a h Q=Ey p g a' h' Q:=by rw[e1,e2]
theorem UU {a:eC}{v v' l l':List V}{h h':H}{Q:V->H->Prop}(e1:v=v')(e3:l=l')(e2:h=h'):Yn p v l h a Q=Yn p v' l' h' a Q:=by rw[e1,e2,e3]
theorem VE {its:List It}{v v' l l':List V}{h h':H}{Q:List V->H->Prop}(e1:v=v')(e3:l=l')(e2:h=h'):JA p its v l h Q=JA p its v' l' h' Q:=by rw[e1,e2,e3]
theorem RJ {base base':Nat}{xs:List AI}{v v':List V}{l:Log}{h h':H}{Q:List V->H->Prop}(e0:base=base')(e1:v=v')(e2:h=h'):LY p base xs v l h Q=LY p base' xs v' l h' Q:=by rw[e0,e1,e2]
theorem XT {rd:Option Nat}{c:C}{v v':List V}{h h':H}{Q:E->List V->H->Prop}(e1:v=v')(e2:h=h'):Wp p rd c v h Q=Wp p rd c v' h' Q:=by rw[e1,e2]
def Vs (p:Nat->Option Fn)(rd:Option Nat)(a b:C)(vars:List V)(h:H)(Q:E->List V->H->Prop)(v:V):Prop:=match v with| .bool true=>Wp p rd a vars h Q| .bool false=>Wp p rd b vars h Q|_=>False
section
variable {rd:Option Nat} {a b:C} {vars:List V} {h:H} {Q:E->List V->H->Prop}
theorem LA {v v':V}(e:v=v'):Vs p rd a b vars h Q v=Vs p rd a b vars h Q v':=by rw[e]
theorem TW:Vs p rd a b vars h Q (.bool true)=Wp p rd a vars h Q:=rfl
theorem LM:Vs p rd a b vars h Q (.bool false)=Wp p rd b vars h Q:=rfl
theorem aZ {P:Prop}[Decidable P](x:P->Wp p rd a vars h Q)(y: ¬P->Wp p rd b vars h Q):Vs p rd a b vars h Q (.bool (decide P)):=by
 by_cases h:P
 ·rw[decide_eq_true h];exact x h
 ·rw[decide_eq_false h];exact y h
theorem acX {t:Bool}:Vs p rd a b vars h Q (.bool (!t))=Vs p rd b a vars h Q (.bool t):=by cases t<;>rfl
end
def unc (K:V->H->Prop):V×H->Prop:=λr=>K r.1 r.2
theorem akU (K:V->H->Prop)(v:V)(h:H):unc K (v,h)=K v h:=rfl
def abI (p:Nat->Option Fn)(d:D)(its:List It)(vars loc:List V)(Q:List V->H->Prop):V->H->Prop:=λv h'=>JA p its (oL d vars loc v).1 (oL d vars loc v).2 h' Q
theorem aiJ (d:D)(its:List It)(vars loc:List V)(Q:List V->H->Prop)(v:V)(h':H):abI p d its vars loc Q v h'=JA p its (oL d vars loc v).1 (oL d vars loc v).2 h' Q:=rfl
def IY (p:Nat->Option Fn)(d:D)(a:eC)(its:List It)(vars loc:List V)(h:H)(Q:List V->H->Prop)(w:Bool):Prop:=match w with
 |true=>Yn p vars loc h a (abI p d its vars loc Q)
 |false=>JA p its (oL d vars loc .undef).1 (oL d vars loc .undef).2 h Q
section
variable {d:D} {a:eC} {its:List It} {vars loc:List V} {h:H} {Q:List V->H->Prop}
theorem HO {v v':Bool}(e:v=v'):IY p d a its vars loc h Q v=IY p d a its vars loc h Q v':=by rw[e]
theorem LX:IY p d a its vars loc h Q true=Yn p vars loc h a (abI p d its vars loc Q):=rfl
theorem IV:IY p d a its vars loc h Q false=JA p its (oL d vars loc .undef).1 (oL d vars loc .undef).2 h Q:=rfl
end
def DK (p:Nat->Option Fn)(base:Nat)(x:AI)(xs:List AI)(vars:List V)(log:Log)(Q:List V->H->Prop):V->H->Prop:=λv h'=>uN x.cks log h'=true/\LY p base xs (oL x.it.d vars [] v).1 (Qj x vars v log) h' Q
theorem afK (base i:Nat)(d:D)(g:Option (X×Bool))(a:eC)(al:Bool)(cks:List Nat)(xs:List AI)(vars:List V)(log:Log)(Q:List V->H->Prop)(v:V)(h':H):DK p base ⟨i,⟨d,g,a⟩,al,cks⟩ xs vars log Q v h'=(uN cks log h'=true/\LY p base xs (oL d vars [] v).1 (Qj ⟨i,⟨d,g,a⟩,al,cks⟩ vars v log) h' Q):=rfl
def Yr (p:Nat->Option Fn)(base i:Nat)(d:D)(x:X)(b:Bool)(a:eC)(al:Bool)(cks:List Nat)(xs:List AI)(vars:List V)(log:Log)(h:H)(Q:List V->H->Prop)(w:Bool):Prop:=match w,al with
 |true,true=>pP (Sv vars h (base+i) a) (unc (DK p base ⟨i,⟨d,some (x,b),a⟩,true,cks⟩ xs vars log Q))
 |true,false=>Yn p vars [] h a (DK p base ⟨i,⟨d,some (x,b),a⟩,false,cks⟩ xs vars log Q)
 |false,_=>uN cks log h=true/\LY p base xs (oL d vars [] .undef).1 log h Q
section
variable {base i:Nat} {d:D} {x:X} {b al:Bool} {a:eC} {cks:List Nat} {xs:List AI} {vars:List V} {log:Log} {h:H} {Q:List V->H->Prop}
theorem HL {v v':Bool}(e:v=v'):Yr p base i d x b a al cks xs vars log h Q v=Yr p base i d x b a al cks xs vars log h Q v':=by rw[e]
theorem acF:Yr p base i d x b a true cks xs vars log h Q true=pP (Sv vars h (base+i) a) (unc (DK p base ⟨i,⟨d,some (x,b),a⟩,true,cks⟩ xs vars log Q)):=rfl
theorem aaD:Yr p base i d x b a false cks xs vars log h Q true=Yn p vars [] h a (DK p base ⟨i,⟨d,some (x,b),a⟩,false,cks⟩ xs vars log Q):=rfl
theorem agC:Yr p base i d x b a al cks xs vars log h Q false=(uN cks log h=true/\LY p base xs (oL d vars [] .undef).1 log h Q):=rfl
end
theorem LG (p:Nat->Option Fn){N N' f f':Nat}(h1:N<=N')(h2:f<=f'):Le (lV p N f).1 (lV p N' f').1/\Le (lV p N f).2 (lV p N' f').2:=GI p h1 f f' h2
theorem ajU (vars loc:List V)(h:H)(i:I)(Q:V->H->Prop):Yn p vars loc h (.op i) Q=pP (dB (xv vars loc) h i) (unc Q):=by
 unfold Yn pP
 refine propext ⟨λ⟨N,f,v,h',e,q⟩=>⟨(v,h'),by rw[xM] at e;exact e,q⟩,λ⟨r,e,q⟩=>⟨0,0,r.1,r.2,by rw[xM];exact e,q⟩⟩
theorem abJ (vars loc:List V)(h:H)(g:Nat)(args:List X)(Q:V->H->Prop):Yn p vars loc h (.call g args) Q=Ev p g (args.map (xv vars loc)) h Q:=by
 unfold Yn Ev
 simp only[xG]
def Ii (p:Nat->Option Fn)(x:V)(args:List V)(h:H)(Q:V->H->Prop):Prop:=match x with
 | .fn g fs cs=>Ev p g (fs++args++cs) h Q
 | .yl id=>Ey p id args h Q
 |_=>False
theorem Ii.mono {x:V}{args:List V}{h:H}{Q R:V->H->Prop}(e:Ii p x args h Q)(k: ∀v h',Q v h'->R v h'):Ii p x args h R:=by
 unfold Ii at*
 split at e
 ·exact e.mono k
 ·exact e.mono k
 ·exact e.elim
theorem GD {x x':V}{a a':List V}{h h':H}{Q:V->H->Prop}(e0:x=x')(e1:a=a')(e2:h=h'):Ii p x a h Q=Ii p x' a' h' Q:=by rw[e0,e1,e2]
theorem XB (g:Nat)(fs cs args:List V)(h:H)(Q:V->H->Prop):Ii p (.fn g fs cs) args h Q=Ev p g (fs++args++cs) h Q:=rfl
theorem ZD (id:Nat)(args:List V)(h:H)(Q:V->H->Prop):Ii p (.yl id) args h Q=Ey p id args h Q:=rfl
theorem RB (vars loc:List V)(h:H)(x:X)(args:List X)(Q:V->H->Prop):Yn p vars loc h (.callv x args) Q=Ii p (xv vars loc x) (args.map (xv vars loc)) h Q:=by
 unfold Yn
 simp only[uQ]
 unfold Ii
 cases xv vars loc x<;>simp [Ev,Ey]
def DB (p:Nat->Option Fn)(g t:Nat)(x:V)(args:List V)(h:H)(Q:V->H->Prop):Prop:=match x with
 | .ifc u v=>u=t/\Ev p g (v::args) h Q
 |_=>False
theorem KH (g t:Nat)(v:V)(args:List V)(h:H)(Q:V->H->Prop):DB p g t (.ifc t v) args h Q=Ev p g (v::args) h Q:=by
 simp [DB]
theorem TN (vars loc:List V)(h:H)(g t:Nat)(x:X)(args:List X)(Q:V->H->Prop):Yn p vars loc h (.calli g t x args) Q=DB p g t (xv vars loc x) (args.map (xv vars loc)) h Q:=by
 unfold Yn
 simp only[uF]
 unfold DB
 cases xv vars loc x<;>simp only[reduceCtorEq,false_and,exists_false]
 rename_i u v
 by_cases hu:u=t
 ·subst hu
  simp [Ev]
 ·have:Nat.beq u t=false:=by
   cases hq:Nat.beq u t with
   |false=>rfl
   |true=>exact absurd (Nat.eq_of_beq_eq_true hq) hu
  simp [this,hu]
def DU (p:Nat->Option Fn)(g:Nat)(vs:List V)(h:H)(Q:V->H->Prop):Prop:=vs.all V.Nu=true/\Ev p g vs ⟨.lf,0⟩ (λv _=>v.Nu=true/\Q v h)
theorem QR (vars loc:List V)(h:H)(g:Nat)(args:List X)(Q:V->H->Prop):Yn p vars loc h (.callp g args) Q=DU p g (args.map (xv vars loc)) h Q:=by
 unfold Yn DU Ev
 refine propext ⟨λ⟨N,f,v,h',e,q⟩=>?_,λ⟨h1,N,f,v,h',e,h2,q⟩=>⟨N,f,v,h,?_,q⟩⟩
 ·rw[nY] at e
  obtain⟨rfl,h1,h2,h3,h4⟩:=Cc e
  exact⟨h1,N,f,v,h3,h4,h2,q⟩
 ·rw[nY]
  unfold Pn
  simp only[h1,e,h2,cond_true]
theorem DU.intro {g:Nat}{vs:List V}{h:H}{Q R:V->H->Prop}(e:Ev p g vs ⟨.lf,0⟩ R)(h1:vs.all V.Nu=true)(k: ∀v h',R v h'->v.Nu=true/\Q v h):DU p g vs h Q:=⟨h1,e.mono k⟩
theorem afD (vars loc:List V)(h:H)(Q:List V->H->Prop):JA p [] vars loc h Q=Q vars h:=by
 unfold JA
 refine propext ⟨λ⟨N,f,v,h',e,q⟩=>?_,λq=>⟨0,0,vars,h,rfl,q⟩⟩
 rw[Oj] at e;cases e;exact q
theorem aaP (d:D)(a:eC)(its:List It)(vars loc:List V)(h:H)(Q:List V->H->Prop):
  JA p (⟨d,none,a⟩::its) vars loc h Q=Yn p vars loc h a (abI p d its vars loc Q):=by
 unfold abI JA Yn
 refine propext ⟨λ⟨N,f,v,h',e,q⟩=>?_,λ⟨N,f,v,h1,e,N2,f2,vars',h',e2,q⟩=>?_⟩
 ·rw[qE] at e
  simp only[gI] at e
  split at e
  ·rename_i v1 h1 ha
   exact⟨N,f,v1,h1,ha,N,f,v,h',e,q⟩
  ·cases e
 ·refine⟨max N N2,max f f2,vars',h',?_,q⟩
  rw[qE]
  have b1:=LG p (Nat.le_max_left N N2) (Nat.le_max_left f f2)
  have b2:=LG p (Nat.le_max_right N N2) (Nat.le_max_right f f2)
  simp only[gI,tI b1.1 b1.2 e]
  exact tF b2.1 b2.2 _ _ _ _ _ e2
theorem QN (d:D)(x:X)(b:Bool)(a:eC)(its:List It)(vars loc:List V)(h:H)(Q:List V->H->Prop):
  JA p (⟨d,some (x,b),a⟩::its) vars loc h Q=pP (gI vars loc (some (x,b))) (IY p d a its vars loc h Q):=by
 unfold pP
 refine propext ⟨λ⟨N,f,v,h',e,q⟩=>?_,λ⟨w,hw,k⟩=>?_⟩
 ·rw[qE] at e
  split at e
  ·rename_i hw
   refine⟨true,hw,?_⟩
   split at e
   ·rename_i v1 h1 ha
    exact⟨N,f,v1,h1,ha,N,f,v,h',e,q⟩
   ·cases e
  ·rename_i hw
   exact⟨false,hw,N,f,v,h',e,q⟩
  ·cases e
 ·cases w with
  |true=>
   obtain⟨N,f,v,h1,e,N2,f2,vars',h',e2,q⟩:=k
   refine⟨max N N2,max f f2,vars',h',?_,q⟩
   rw[qE]
   have b1:=LG p (Nat.le_max_left N N2) (Nat.le_max_left f f2)
   have b2:=LG p (Nat.le_max_right N N2) (Nat.le_max_right f f2)
   simp only[hw,tI b1.1 b1.2 e]
   exact tF b2.1 b2.2 _ _ _ _ _ e2
  |false=>
   obtain⟨N,f,v,h',e,q⟩:=k
   refine⟨N,f,v,h',?_,q⟩
   rw[qE]
   simp only[hw]
   exact e
theorem agB (base:Nat)(vars:List V)(log:Log)(h:H)(Q:List V->H->Prop):LY p base [] vars log h Q=Q vars h:=by
 unfold LY
 refine propext ⟨λ⟨N,f,v,h',e,q⟩=>?_,λq=>⟨0,0,vars,h,rfl,q⟩⟩
 rw[Ov] at e;cases e;exact q
theorem aaC (base i:Nat)(d:D)(a:eC)(cks:List Nat)(xs:List AI)(vars:List V)(log:Log)(h:H)(Q:List V->H->Prop):
  LY p base (⟨i,⟨d,none,a⟩,false,cks⟩::xs) vars log h Q=Yn p vars [] h a (DK p base ⟨i,⟨d,none,a⟩,false,cks⟩ xs vars log Q):=by
 unfold DK LY Yn
 refine propext ⟨λ⟨N,f,v,h',e,q⟩=>?_,λ⟨N,f,v,h1,e,ho,N2,f2,vars',h',e2,q⟩=>?_⟩
 ·rw[jZ] at e
  simp only[gI,Bool.false_eq_true,if_false] at e
  split at e
  ·rename_i v1 h1 ha
   split at e
   ·rename_i ho
    exact⟨N,f,v1,h1,ha,ho,N,f,v,h',e,q⟩
   ·cases e
  ·cases e
 ·refine⟨max N N2,max f f2,vars',h',?_,q⟩
  rw[jZ]
  have b1:=LG p (Nat.le_max_left N N2) (Nat.le_max_left f f2)
  have b2:=LG p (Nat.le_max_right N N2) (Nat.le_max_right f f2)
  simp only[gI,Bool.false_eq_true,if_false,tI b1.1 b1.2 e,ho,if_true]
  exact xX b2.1 b2.2 _ _ _ _ _ e2
theorem RO (base i:Nat)(d:D)(a:eC)(cks:List Nat)(xs:List AI)(vars:List V)(log:Log)(h:H)(Q:List V->H->Prop):
  LY p base (⟨i,⟨d,none,a⟩,true,cks⟩::xs) vars log h Q=pP (Sv vars h (base+i) a) (unc (DK p base ⟨i,⟨d,none,a⟩,true,cks⟩ xs vars log Q)):=by
 unfold unc DK LY pP
 refine propext ⟨λ⟨N,f,v,h',e,q⟩=>?_,λ⟨r,e,ho,N2,f2,vars',h',e2,q⟩=>?_⟩
 ·rw[jZ] at e
  simp only[gI,if_true] at e
  split at e
  ·rename_i v1 h1 ha
   split at e
   ·rename_i ho
    exact⟨(v1,h1),ha,ho,N,f,v,h',e,q⟩
   ·cases e
  ·cases e
 ·refine⟨N2,f2,vars',h',?_,q⟩
  rw[jZ]
  obtain⟨v,h1⟩:=r
  simp only[gI,if_true,e,ho]
  exact e2
theorem UX (base i:Nat)(d:D)(x:X)(b:Bool)(a:eC)(al:Bool)(cks:List Nat)(xs:List AI)(vars:List V)(log:Log)(h:H)(Q:List V->H->Prop):
  LY p base (⟨i,⟨d,some (x,b),a⟩,al,cks⟩::xs) vars log h Q=pP (gI vars [] (some (x,b))) (Yr p base i d x b a al cks xs vars log h Q):=by
 unfold pP
 refine propext ⟨λ⟨N,f,v,h',e,q⟩=>?_,λ⟨w,hw,k⟩=>?_⟩
 ·rw[jZ] at e
  split at e
  ·rename_i hw
   refine⟨true,hw,?_⟩
   cases al with
   |true=>
    simp only[if_true] at e
    split at e
    ·rename_i v1 h1 ha
     split at e
     ·rename_i ho
      exact⟨(v1,h1),ha,ho,N,f,v,h',e,q⟩
     ·cases e
    ·cases e
   |false=>
    simp only[Bool.false_eq_true,if_false] at e
    split at e
    ·rename_i v1 h1 ha
     split at e
     ·rename_i ho
      exact⟨N,f,v1,h1,ha,ho,N,f,v,h',e,q⟩
     ·cases e
    ·cases e
  ·rename_i hw
   split at e
   ·rename_i ho
    exact⟨false,hw,ho,N,f,v,h',e,q⟩
   ·cases e
  ·cases e
 ·cases w with
  |true=>
   cases al with
   |true=>
    obtain⟨⟨v,h1⟩,e,ho,N2,f2,vars',h',e2,q⟩:=k
    refine⟨N2,f2,vars',h',?_,q⟩
    rw[jZ]
    simp only[hw,if_true,e,ho]
    exact e2
   |false=>
    obtain⟨N,f,v,h1,e,ho,N2,f2,vars',h',e2,q⟩:=k
    refine⟨max N N2,max f f2,vars',h',?_,q⟩
    rw[jZ]
    have b1:=LG p (Nat.le_max_left N N2) (Nat.le_max_left f f2)
    have b2:=LG p (Nat.le_max_right N N2) (Nat.le_max_right f f2)
    simp only[hw,Bool.false_eq_true,if_false,tI b1.1 b1.2 e,ho,if_true]
    exact xX b2.1 b2.2 _ _ _ _ _ e2
  |false=>
   obtain⟨ho,N2,f2,vars',h',e2,q⟩:=k
   refine⟨N2,f2,vars',h',?_,q⟩
   rw[jZ]
   simp only[hw,ho,if_true]
   exact e2
variable {rd:Option Nat} {vars:List V} {h:H} {Q:E->List V->H->Prop}
theorem aiM:Wp p rd .skip vars h Q=Q .norm vars h:=by
 unfold Wp;simp only[Me]
 exact propext ⟨λ⟨_,_,_,_,_,e,q⟩=>by cases e;exact q,λq=>⟨0,0,_,_,_,rfl,q⟩⟩
theorem akX:Wp p rd .ret vars h Q=Q .ret vars h:=by
 unfold Wp;simp only[CL]
 exact propext ⟨λ⟨_,_,_,_,_,e,q⟩=>by cases e;exact q,λq=>⟨0,0,_,_,_,rfl,q⟩⟩
theorem agX (n:Nat):Wp p rd (.exit n) vars h Q=Q (.exit n) vars h:=by
 unfold Wp;simp only[Sb]
 exact propext ⟨λ⟨_,_,_,_,_,e,q⟩=>by cases e;exact q,λq=>⟨0,0,_,_,_,rfl,q⟩⟩
theorem ZG (a:C):Wp p rd (.scope a) vars h Q=Wp p rd a vars h Q:=by
 unfold Wp;simp only[Ng]
theorem alG (its:List It):Wp p rd (.reg its) vars h Q=JA p its vars [] h (Q .norm):=by
 unfold Wp JA;simp only[AF]
 refine propext ⟨λ⟨N,f,e,v,h',he,q⟩=>?_,λ⟨N,f,v,h',he,q⟩=>⟨N,f,.norm,v,h',by rw[he],q⟩⟩
 split at he
 ·rename_i hr;cases he;exact⟨N,f,_,_,hr,q⟩
 ·cases he
def akT (n:Nat)(Q:E->List V->H->Prop):List V->H->Prop:=λvs h'=>Q .norm (vs.take n) h'
theorem ahD (n:Nat)(vs:List V)(h':H):akT n Q vs h'=Q .norm (vs.take n) h':=rfl
theorem ajD (k nl:Nat)(its:List AI):Wp p rd (.any k nl its) vars h Q=LY p h.next its (vars++List.replicate nl .unk) [] {h with next:=h.next+k} (akT vars.length Q):=by
 unfold akT Wp LY;simp only[AH]
 refine propext ⟨λ⟨N,f,e,v,h',he,q⟩=>?_,λ⟨N,f,v,h',he,q⟩=>⟨N,f,.norm,_,h',by rw[he],q⟩⟩
 split at he
 ·rename_i hr;cases he;exact⟨N,f,_,_,hr,q⟩
 ·cases he
def Si (p:Nat->Option Fn)(rd:Option Nat)(b:C)(Q:E->List V->H->Prop):E->List V->H->Prop:=λe vars h=>match e with| .norm=>Wp p rd b vars h Q|e=>Q e vars h
theorem Vu (b:C)(vars:List V)(h:H):Si p rd b Q .norm vars h=Wp p rd b vars h Q:=rfl
theorem VA (b:C)(vars:List V)(h:H):Si p rd b Q .ret vars h=Q .ret vars h:=rfl
theorem JV (b:C)(n:Nat)(vars:List V)(h:H):Si p rd b Q (.exit n) vars h=Q (.exit n) vars h:=rfl
theorem aaZ (a b:C):Wp p rd (.seq a b) vars h Q=Wp p rd a vars h (Si p rd b Q):=by
 refine propext ⟨λ⟨N,f,e,v,h',he,q⟩=>?_,λ⟨N,f,e,v,h1,he,k⟩=>?_⟩
 ·rw[run_seq] at he
  cases hr:run (lV p N f).1 (lV p N f).2 N rd a vars h with
  |none=>simp [hr] at he
  |some r=>
   obtain⟨e1,v1,d1,h1⟩:=r
   simp only[hr] at he
   cases e1 with
   |norm=>
    simp only at he
    cases hr2:run (lV p N f).1 (lV p N f).2 N rd b v1 h1 with
    |none=>simp [hr2] at he
    |some r=>
     obtain⟨e2,v2,d2,h2⟩:=r
     simp only[hr2,Option.some.injEq,Prod.mk.injEq] at he
     obtain⟨rfl,rfl,hd,rfl⟩:=he
     simp only[List.append_eq_nil_iff] at hd
     obtain⟨rfl,rfl⟩:=hd
     exact⟨N,f,.norm,v1,h1,hr,N,f,_,_,_,hr2,q⟩
   |ret=>simp only at he;cases he;exact⟨N,f,_,_,_,hr,q⟩
   |exit n=>simp only at he;cases he;exact⟨N,f,_,_,_,hr,q⟩
 ·cases e with
  |norm=>
   obtain⟨N2,f2,e2,v2,h2,he2,q⟩:=k
   refine⟨max N N2,max f f2,e2,v2,h2,?_,q⟩
   have b1:=LG p (Nat.le_max_left N N2) (Nat.le_max_left f f2)
   have b2:=LG p (Nat.le_max_right N N2) (Nat.le_max_right f f2)
   rw[run_seq,iX b1.1 b1.2 (Nat.le_max_left N N2) _ _ _ _ he]
   simp only[iX b2.1 b2.2 (Nat.le_max_right N N2) _ _ _ _ he2]
   rfl
  |ret=>exact⟨N,f,_,_,_,by rw[run_seq,he],k⟩
  |exit n=>exact⟨N,f,_,_,_,by rw[run_seq,he],k⟩
theorem ajQ (x:X)(a b:C):Wp p rd (.ite x a b) vars h Q=Vs p rd a b vars h Q (xv vars [] x):=by
 unfold Vs Wp
 simp only[run_ite]
 cases xv vars [] x with
 |bool t=>cases t<;>rfl
 |_=>exact propext ⟨λ⟨_,_,_,_,_,e,_⟩=>(nomatch e),λh=>h.elim⟩
def zG (id:Nat)(Q:E->List V->H->Prop):E->List V->H->Prop:=λe vars h=>match e with| .exit n=>if n=id then Q .norm vars h else Q (.exit n) vars h|e=>Q e vars h
theorem FQ (id:Nat)(vars:List V)(h:H):zG id Q .norm vars h=Q .norm vars h:=rfl
theorem LF (id:Nat)(vars:List V)(h:H):zG id Q .ret vars h=Q .ret vars h:=rfl
theorem Dv (id:Nat)(vars:List V)(h:H):zG id Q (.exit id) vars h=Q .norm vars h:=if_pos rfl
theorem VG (id n:Nat)(hn:n≠id)(vars:List V)(h:H):zG id Q (.exit n) vars h=Q (.exit n) vars h:=if_neg hn
theorem XD (id:Nat)(a:C):Wp p rd (.block id a) vars h Q=Wp p rd a vars h (zG id Q):=by
 unfold Wp
 simp only[Od]
 refine propext ⟨λ⟨N,f,e,v,h',he,q⟩=>?_,λ⟨N,f,e,v,h1,he,k⟩=>?_⟩
 ·cases hr:run (lV p N f).1 (lV p N f).2 N rd a vars h with
  |none=>simp [hr] at he
  |some r=>
   obtain⟨e1,v1,d1,h1⟩:=r
   simp only[hr] at he
   cases e1 with
   |exit n=>
    simp only at he
    split at he
    ·rename_i hn;cases he;exact⟨N,f,_,_,_,hr,by simp only[zG];rw[if_pos hn];exact q⟩
    ·rename_i hn;cases he;exact⟨N,f,_,_,_,hr,by simp only[zG];rw[if_neg hn];exact q⟩
   |norm=>simp only at he;cases he;exact⟨N,f,_,_,_,hr,q⟩
   |ret=>simp only at he;cases he;exact⟨N,f,_,_,_,hr,q⟩
 ·cases e with
  |exit n=>
   simp only[zG] at k
   split at k
   ·rename_i hn;exact⟨N,f,_,_,_,by rw[he];simp only;rw[if_pos hn],k⟩
   ·rename_i hn;exact⟨N,f,_,_,_,by rw[he];simp only;rw[if_neg hn],k⟩
  |norm=>exact⟨N,f,_,_,_,by rw[he],k⟩
  |ret=>exact⟨N,f,_,_,_,by rw[he],k⟩
def DN (J:List V->H->Prop)(Q:E->List V->H->Prop):E->List V->H->Prop:=λe vars h=>match e with| .norm=>J vars h|e=>Q e vars h
theorem IJ (J:List V->H->Prop)(vars:List V)(h:H):DN J Q .norm vars h=J vars h:=rfl
theorem JK (J:List V->H->Prop)(vars:List V)(h:H):DN J Q .ret vars h=Q .ret vars h:=rfl
theorem ER (J:List V->H->Prop)(n:Nat)(vars:List V)(h:H):DN J Q (.exit n) vars h=Q (.exit n) vars h:=rfl
theorem aJ {c:C}(J:Nat->List V->H->Prop)(k:Nat)(h0:J k vars h)
  (step: ∀k vars h,J k vars h->Wp p rd c vars h (DN (λv h'=> ∃k',k'<k/\J k' v h') Q)):Wp p rd (.loop c) vars h Q:=by
 have key: ∀k vars h,J k vars h-> ∃N f n e vars' h',Fg (run (lV p N f).1 (lV p N f).2 N rd c) n vars h=some (e,vars', [],h')/\Q e vars' h':=by
  intro k
  induction k using Nat.strongRecOn with
  |ind k ih=>
   intro vars h hJ
   obtain⟨N,f,e,v,h1,he,q⟩:=step k vars h hJ
   cases e with
   |norm=>
    obtain⟨k',hk',hJ'⟩:=q
    obtain⟨N2,f2,n,e2,v2,h2,he2,q2⟩:=ih k' hk' v h1 hJ'
    have b1:=LG p (Nat.le_max_left N N2) (Nat.le_max_left f f2)
    have b2:=LG p (Nat.le_max_right N N2) (Nat.le_max_right f f2)
    refine⟨max N N2,max f f2,n+1,e2,v2,h2,?_,q2⟩
    rw[xN,iX b1.1 b1.2 (Nat.le_max_left N N2) _ _ _ _ he]
    simp only[Bl (λv h r=>iX b2.1 b2.2 (Nat.le_max_right N N2) c v h r) n n (gJ _) _ _ _ he2]
    rfl
   |ret=>exact⟨N,f,1,_,_,_,by rw[xN,he],q⟩
   |exit n=>exact⟨N,f,1,_,_,_,by rw[xN,he],q⟩
 obtain⟨N,f,n,e,v,h',he,q⟩:=key k vars h h0
 refine⟨max N n,f,e,v,h',?_,q⟩
 have b:=LG p (Nat.le_max_left N n) (gJ f)
 rw[Vj]
 exact Bl (λv h r=>iX b.1 b.2 (Nat.le_max_left N n) c v h r) n (max N n) (Nat.le_max_right N n) _ _ _ he
def XI (id:Nat)(vars:List V)(Q:E->List V->H->Prop):V->H->Prop:=λ_ h'=> ∃r,h'.get id=some (.loop r)/\r.st≠ .busy/\Q (r.pend.getD .norm) vars (h'.set id (some (.loop {r with st:= .out})))
def Rs (p:Nat->Option Fn)(rd:Option Nat)(x:V)(pars:List Nat)(assign body:C)(vars:List V)(h:H)(Q:E->List V->H->Prop):Prop:=
 match x with
 | .fn g fs cs=>SJ rd h=true/\Ev p g (fs++ .yl h.next::cs) (h.new (.loop {vars,pars,assign,body,st:= .ready,pend:=none})) (XI h.next vars Q)
 |_=>False
theorem AJ {x x':V}{pars:List Nat}{a b:C}{v v':List V}{h h':H}(e0:x=x')(e1:v=v')(e2:h=h'):Rs p rd x pars a b v h Q=Rs p rd x' pars a b v' h' Q:=by rw[e0,e1,e2]
theorem VB (g:Nat)(fs cs:List V)(pars:List Nat)(assign body:C):Rs p rd (.fn g fs cs) pars assign body vars h Q=(SJ rd h=true/\Ev p g (fs++ .yl h.next::cs) (h.new (.loop {vars,pars,assign,body,st:= .ready,pend:=none})) (XI h.next vars Q)):=rfl
theorem ZM (x:X)(pars:List Nat)(a b:C):Wp p rd (.range x pars a b) vars h Q=Rs p rd (xv vars [] x) pars a b vars h Q:=by
 unfold Wp Rs
 simp only[Oa,Fl]
 cases xv vars [] x with
 |fn g fs cs=>
  simp only
  refine propext ⟨λ⟨N,f,e,v,h',he,q⟩=>?_,λ⟨ho,N,f,v,h',he,r,hg,hb,q⟩=>?_⟩
  ·split at he
   ·rename_i ho
    refine⟨ho,?_⟩
    split at he
    ·rename_i v1 h1 hc
     split at he
     ·rename_i r hg
      split at he
      ·cases he
      ·rename_i hb
       cases he
       exact⟨N,f,v1,h1,hc,r,hg,hb,q⟩
     ·cases he
    ·cases he
   ·cases he
  ·refine⟨N,f,_,_,_,?_,q⟩
   rw[if_pos ho]
   simp only[he,hg]
   rw[if_neg hb]
 |_=>exact propext ⟨λ⟨_,_,_,_,_,e,_⟩=>(nomatch e),λh=>h.elim⟩
def ahE (Q:V->H->Prop)(h:H):List V->Prop:=λvs=>Q (Oi vs) h
theorem ahF (Q:V->H->Prop)(h:H)(vs:List V):ahE Q h vs=Q (Oi vs) h:=rfl
def agL (results:List Rv)(Q:V->H->Prop):E->List V->H->Prop:=λe vars h=>match e with
 | .exit _=>False
 |_=>pP (cK (results.map (Hf vars h))) (ahE Q h)
theorem SA (results:List Rv)(Q:V->H->Prop)(vars:List V)(h:H):agL results Q .norm vars h=pP (cK (results.map (Hf vars h))) (ahE Q h):=rfl
theorem XA (results:List Rv)(Q:V->H->Prop)(vars:List V)(h:H):agL results Q .ret vars h=pP (cK (results.map (Hf vars h))) (ahE Q h):=rfl
theorem aV {g:Nat}{fn:Fn}{args:List V}{h:H}{Q:V->H->Prop}(hg:p g=some fn)(hl:args.length=fn.nargs)(hw:Wp p none fn.body (Kp fn args) h (agL fn.results Q)):Ev p g args h Q:=by
 obtain⟨N,f,e,v,h',he,q⟩:=hw
 cases e with
 |exit n=>exact q.elim
 |norm=>
  obtain⟨vs,hv,q⟩:=q
  refine⟨N,f+1,Oi vs,h',?_,q⟩
  rw[uI]
  simp only[Et,hg,hl,if_true,he,Ao,hv,Option.map_some]
 |ret=>
  obtain⟨vs,hv,q⟩:=q
  refine⟨N,f+1,Oi vs,h',?_,q⟩
  rw[uI]
  simp only[Et,hg,hl,if_true,he,Ao,hv,Option.map_some]
def Sc (id:Nat)(Q:V->H->Prop):E->List V->H->Prop:=λe _ h=> ∃r3,h.get id=some (.loop r3)/\(match e with
 | .norm=>Q (.bool true) (h.set id (some (.loop {r3 with st:= .ready,pend:=none})))
 |e=>Q (.bool false) (h.set id (some (.loop {r3 with st:= .done,pend:=some e}))))
theorem amR {id:Nat}{args:List V}{h:H}{Q:V->H->Prop}{r:iE}(hr:h.get id=some (.loop r))(hl:args.length=r.pars.length)
  (hw:Wp p (some id) r.assign ((r.pars.zip args).foldl (λvs q=>vs.set q.1 q.2) r.vars) h λe vars h1=>e= .norm/\ ∃r2,h1.get id=some (.loop r2)/\r2.st= .ready/\
   Wp p (some id) r.body vars (h1.set id (some (.loop {r2 with st:= .busy}))) (Sc id Q)):Ey p id args h Q:=by
 obtain⟨N,f,e,v,h1,he,rfl,r2,hr2,jY,N2,f2,e2,v2,h2,he2,r3,hr3,q⟩:=hw
 have b1:=LG p (show N<=max N N2 by omega) (show f<=max f f2 by omega)
 have b2:=LG p (show N2<=max N N2 by omega) (show f2<=max f f2 by omega)
 cases e2 with
 |norm=>
  refine⟨max N N2,max f f2+1,.bool true,_,?_,q⟩
  rw[uI]
  simp only[zI,hr,hl,if_true,iX b1.1 b1.2 (show N<=max N N2 by omega) _ _ _ _ he,hr2,jY,iX b2.1 b2.2 (show N2<=max N N2 by omega) _ _ _ _ he2,hr3]
 |ret=>
  refine⟨max N N2,max f f2+1,.bool false,_,?_,q⟩
  rw[uI]
  simp only[zI,hr,hl,if_true,iX b1.1 b1.2 (show N<=max N N2 by omega) _ _ _ _ he,hr2,jY,iX b2.1 b2.2 (show N2<=max N N2 by omega) _ _ _ _ he2,hr3]
 |exit n=>
  refine⟨max N N2,max f f2+1,.bool false,_,?_,q⟩
  rw[uI]
  simp only[zI,hr,hl,if_true,iX b1.1 b1.2 (show N<=max N N2 by omega) _ _ _ _ he,hr2,jY,iX b2.1 b2.2 (show N2<=max N N2 by omega) _ _ _ _ he2,hr3]
end
end Go.Ay
