/- The abstract machine, by weakest preconditions. -/
import Derived.Test.YtddpkbicnolafaaGreatAy22
namespace Go.Ay
def oX {α:Type} (o:Option α) (K:α->Prop):Prop:= ∃ a,o=some a/\K a
theorem EE {α:Type} (a:α) (K:α->Prop):oX (some a) K=K a:=propext ⟨λ ⟨_,h,k⟩=>by cases h;exact k,λ k=>⟨a,rfl,k⟩⟩
theorem BA {α:Type} {o o':Option α} {K:α->Prop} (h:o=o'):oX o K=oX o' K:=by rw [h]
section
variable (p:Nat->Option Fn)
def Ev (g:Nat) (args:List V) (h:H) (Q:V->H->Prop):Prop:= ∃ N f v h',(lK p N f).1 g args h=some (v,h')/\Q v h'
def Ey (id:Nat) (args:List V) (h:H) (Q:V->H->Prop):Prop:= ∃ N f v h',(lK p N f).2 id args h=some (v,h')/\Q v h'
def Yi (vars loc:List V) (h:H) (a:eD) (Q:V->H->Prop):Prop:= ∃ N f v h',nK (lK p N f).1 (lK p N f).2 vars loc h a=some (v,h')/\Q v h'
def IL (its:List It) (vars loc:List V) (h:H) (Q:List V->H->Prop):Prop:= ∃ N f vars' h',yU (lK p N f).1 (lK p N f).2 its vars loc h=some (vars',h')/\Q vars' h'
def KI (base:Nat) (xs:List AI) (vars:List V) (log:Log) (h:H) (Q:List V->H->Prop):Prop:= ∃ N f vars' h',zT (lK p N f).1 (lK p N f).2 base xs vars log h=some (vars',h')/\Q vars' h'
def Wp (rd:Option Nat) (c:C) (vars:List V) (h:H) (Q:E->List V->H->Prop):Prop:=
 ∃ N f e vars' h',run (lK p N f).1 (lK p N f).2 N rd c vars h=some (e,vars', [],h')/\Q e vars' h'
variable {p}
theorem Ev.mono {g:Nat} {args:List V} {h:H} {Q R:V->H->Prop} (e:Ev p g args h Q) (k: ∀ v h',Q v h'->R v h'):Ev p g args h R:=by
 obtain ⟨N,f,v,h',e,q⟩:=e;exact ⟨N,f,v,h',e,k _ _ q⟩
theorem Ey.mono {id:Nat} {args:List V} {h:H} {Q R:V->H->Prop} (e:Ey p id args h Q) (k: ∀ v h',Q v h'->R v h'):Ey p id args h R:=by
 obtain ⟨N,f,v,h',e,q⟩:=e;exact ⟨N,f,v,h',e,k _ _ q⟩
theorem Wp.mono {rd:Option Nat} {c:C} {vars:List V} {h:H} {Q R:E->List V->H->Prop} (e:Wp p rd c vars h Q) (k: ∀ e v h',Q e v h'->R e v h'):Wp p rd c vars h R:=by
 obtain ⟨N,f,a,v,h',e,q⟩:=e;exact ⟨N,f,a,v,h',e,k _ _ _ q⟩
theorem IL.mono {its:List It} {vars loc:List V} {h:H} {Q R:List V->H->Prop} (e:IL p its vars loc h Q) (k: ∀ v h',Q v h'->R v h'):IL p its vars loc h R:=by
 obtain ⟨N,f,v,h',e,q⟩:=e;exact ⟨N,f,v,h',e,k _ _ q⟩
theorem VS {g:Nat} {a a':List V} {h h':H} {Q:V->H->Prop} (e1:a=a') (e2:h=h'):Ev p g a h Q=Ev p g a' h' Q:=by rw [e1,e2]
theorem XP {g:Nat} {a a':List V} {h h':H} {Q:V->H->Prop} (e1:a=a') (e2:h=h'):Ey p g a h Q=Ey p g a' h' Q:=by rw [e1,e2]
theorem SG {a:eD} {v v' l l':List V} {h h':H} {Q:V->H->Prop} (e1:v=v') (e3:l=l') (e2:h=h'):Yi p v l h a Q=Yi p v' l' h' a Q:=by rw [e1,e2,e3]
theorem QR {its:List It} {v v' l l':List V} {h h':H} {Q:List V->H->Prop} (e1:v=v') (e3:l=l') (e2:h=h'):IL p its v l h Q=IL p its v' l' h' Q:=by rw [e1,e2,e3]
theorem QO {base base':Nat} {xs:List AI} {v v':List V} {l:Log} {h h':H} {Q:List V->H->Prop} (e0:base=base') (e1:v=v') (e2:h=h'):KI p base xs v l h Q=KI p base' xs v' l h' Q:=by rw [e0,e1,e2]
theorem VI {rd:Option Nat} {c:C} {v v':List V} {h h':H} {Q:E->List V->H->Prop} (e1:v=v') (e2:h=h'):Wp p rd c v h Q=Wp p rd c v' h' Q:=by rw [e1,e2]
def Tp (p:Nat->Option Fn) (rd:Option Nat) (a b:C) (vars:List V) (h:H) (Q:E->List V->H->Prop) (v:V):Prop:=match v with| .bool true=>Wp p rd a vars h Q| .bool false=>Wp p rd b vars h Q|_=>False
section
variable {rd:Option Nat} {a b:C} {vars:List V} {h:H} {Q:E->List V->H->Prop}
theorem JY {v v':V} (e:v=v'):Tp p rd a b vars h Q v=Tp p rd a b vars h Q v':=by rw [e]
theorem UB:Tp p rd a b vars h Q (.bool true)=Wp p rd a vars h Q:=rfl
theorem LD:Tp p rd a b vars h Q (.bool false)=Wp p rd b vars h Q:=rfl
theorem aY {P:Prop} [Decidable P] (x:P->Wp p rd a vars h Q) (y: ¬P->Wp p rd b vars h Q):Tp p rd a b vars h Q (.bool (decide P)):=by
 by_cases h:P
 ·rw [decide_eq_true h];exact x h
 ·rw [decide_eq_false h];exact y h
theorem ZA {t:Bool}:Tp p rd a b vars h Q (.bool (!t))=Tp p rd b a vars h Q (.bool t):=by cases t<;>rfl
end
def unc (K:V->H->Prop):V×H->Prop:=λ r=>K r.1 r.2
theorem aiD (K:V->H->Prop) (v:V) (h:H):unc K (v,h)=K v h:=rfl
def abY (p:Nat->Option Fn) (d:D) (its:List It) (vars loc:List V) (Q:List V->H->Prop):V->H->Prop:=λ v h'=>IL p its (nM d vars loc v).1 (nM d vars loc v).2 h' Q
theorem afZ (d:D) (its:List It) (vars loc:List V) (Q:List V->H->Prop) (v:V) (h':H):abY p d its vars loc Q v h'=IL p its (nM d vars loc v).1 (nM d vars loc v).2 h' Q:=rfl
def FH (p:Nat->Option Fn) (d:D) (a:eD) (its:List It) (vars loc:List V) (h:H) (Q:List V->H->Prop) (w:Bool):Prop:=match w with
 |true=>Yi p vars loc h a (abY p d its vars loc Q)
 |false=>IL p its (nM d vars loc .undef).1 (nM d vars loc .undef).2 h Q
section
variable {d:D} {a:eD} {its:List It} {vars loc:List V} {h:H} {Q:List V->H->Prop}
theorem GZ {v v':Bool} (e:v=v'):FH p d a its vars loc h Q v=FH p d a its vars loc h Q v':=by rw [e]
theorem LK:FH p d a its vars loc h Q true=Yi p vars loc h a (abY p d its vars loc Q):=rfl
theorem HG:FH p d a its vars loc h Q false=IL p its (nM d vars loc .undef).1 (nM d vars loc .undef).2 h Q:=rfl
end
def BI (p:Nat->Option Fn) (base:Nat) (x:AI) (xs:List AI) (vars:List V) (log:Log) (Q:List V->H->Prop):V->H->Prop:=λ v h'=>tV x.cks log h'=true/\KI p base xs (nM x.it.d vars [] v).1 (Pk x vars v log) h' Q
theorem adW (base i:Nat) (d:D) (g:Option (X×Bool)) (a:eD) (al:Bool) (cks:List Nat) (xs:List AI) (vars:List V) (log:Log) (Q:List V->H->Prop) (v:V) (h':H):BI p base ⟨i,⟨d,g,a⟩,al,cks⟩ xs vars log Q v h'=(tV cks log h'=true/\KI p base xs (nM d vars [] v).1 (Pk ⟨i,⟨d,g,a⟩,al,cks⟩ vars v log) h' Q):=rfl
def Zi (p:Nat->Option Fn) (base i:Nat) (d:D) (x:X) (b:Bool) (a:eD) (al:Bool) (cks:List Nat) (xs:List AI) (vars:List V) (log:Log) (h:H) (Q:List V->H->Prop) (w:Bool):Prop:=match w,al with
 |true,true=>oX (Um vars h (base+i) a) (unc (BI p base ⟨i,⟨d,some (x,b),a⟩,true,cks⟩ xs vars log Q))
 |true,false=>Yi p vars [] h a (BI p base ⟨i,⟨d,some (x,b),a⟩,false,cks⟩ xs vars log Q)
 |false,_=>tV cks log h=true/\KI p base xs (nM d vars [] .undef).1 log h Q
section
variable {base i:Nat} {d:D} {x:X} {b al:Bool} {a:eD} {cks:List Nat} {xs:List AI} {vars:List V} {log:Log} {h:H} {Q:List V->H->Prop}
theorem GD {v v':Bool} (e:v=v'):Zi p base i d x b a al cks xs vars log h Q v=Zi p base i d x b a al cks xs vars log h Q v':=by rw [e]
theorem abF:Zi p base i d x b a true cks xs vars log h Q true=oX (Um vars h (base+i) a) (unc (BI p base ⟨i,⟨d,some (x,b),a⟩,true,cks⟩ xs vars log Q)):=rfl
theorem abA:Zi p base i d x b a false cks xs vars log h Q true=Yi p vars [] h a (BI p base ⟨i,⟨d,some (x,b),a⟩,false,cks⟩ xs vars log Q):=rfl
theorem acJ:Zi p base i d x b a al cks xs vars log h Q false=(tV cks log h=true/\KI p base xs (nM d vars [] .undef).1 log h Q):=rfl
end
theorem KZ (p:Nat->Option Fn) {N N' f f':Nat} (h1:N<=N') (h2:f<=f'):Le (lK p N f).1 (lK p N' f').1/\Le (lK p N f).2 (lK p N' f').2:=FY p h1 f f' h2
theorem ajF (vars loc:List V) (h:H) (i:I) (Q:V->H->Prop):Yi p vars loc h (.op i) Q=oX (cY (xv vars loc) h i) (unc Q):=by
 unfold Yi oX
 refine propext ⟨λ ⟨N,f,v,h',e,q⟩=>⟨(v,h'),by rw [xR] at e;exact e,q⟩,λ ⟨r,e,q⟩=>⟨0,0,r.1,r.2,by rw [xR];exact e,q⟩⟩
theorem XD (vars loc:List V) (h:H) (g:Nat) (args:List X) (Q:V->H->Prop):Yi p vars loc h (.call g args) Q=Ev p g (args.map (xv vars loc)) h Q:=by
 unfold Yi Ev
 simp only [xC]
def Hv (p:Nat->Option Fn) (x:V) (args:List V) (h:H) (Q:V->H->Prop):Prop:=match x with
 | .fn g fs cs=>Ev p g (fs++args++cs) h Q
 | .yl id=>Ey p id args h Q
 |_=>False
theorem Hv.mono {x:V} {args:List V} {h:H} {Q R:V->H->Prop} (e:Hv p x args h Q) (k: ∀ v h',Q v h'->R v h'):Hv p x args h R:=by
 unfold Hv at*
 split at e
 ·exact e.mono k
 ·exact e.mono k
 ·exact e.elim
theorem II {x x':V} {a a':List V} {h h':H} {Q:V->H->Prop} (e0:x=x') (e1:a=a') (e2:h=h'):Hv p x a h Q=Hv p x' a' h' Q:=by rw [e0,e1,e2]
theorem VE (g:Nat) (fs cs args:List V) (h:H) (Q:V->H->Prop):Hv p (.fn g fs cs) args h Q=Ev p g (fs++args++cs) h Q:=rfl
theorem abB (id:Nat) (args:List V) (h:H) (Q:V->H->Prop):Hv p (.yl id) args h Q=Ey p id args h Q:=rfl
theorem SU (vars loc:List V) (h:H) (x:X) (args:List X) (Q:V->H->Prop):Yi p vars loc h (.callv x args) Q=Hv p (xv vars loc x) (args.map (xv vars loc)) h Q:=by
 unfold Yi
 simp only [uF]
 unfold Hv
 cases xv vars loc x<;>simp [Ev,Ey]
def AO (p:Nat->Option Fn) (g t:Nat) (x:V) (args:List V) (h:H) (Q:V->H->Prop):Prop:=match x with
 | .ifc u v=>u=t/\Ev p g (v::args) h Q
 |_=>False
theorem MA (g t:Nat) (v:V) (args:List V) (h:H) (Q:V->H->Prop):AO p g t (.ifc t v) args h Q=Ev p g (v::args) h Q:=by
 simp [AO]
theorem SL (vars loc:List V) (h:H) (g t:Nat) (x:X) (args:List X) (Q:V->H->Prop):Yi p vars loc h (.calli g t x args) Q=AO p g t (xv vars loc x) (args.map (xv vars loc)) h Q:=by
 unfold Yi
 simp only [tK]
 unfold AO
 cases xv vars loc x<;>simp only [reduceCtorEq,false_and,exists_false]
 rename_i u v
 by_cases hu:u=t
 ·subst hu
  simp [Ev]
 ·have:Nat.beq u t=false:=by
   cases hq:Nat.beq u t with
   |false=>rfl
   |true=>exact absurd (Nat.eq_of_beq_eq_true hq) hu
  simp [this,hu]
def CR (p:Nat->Option Fn) (g:Nat) (vs:List V) (h:H) (Q:V->H->Prop):Prop:=vs.all V.Oi=true/\Ev p g vs ⟨.lf,0⟩ (λ v _=>v.Oi=true/\Q v h)
theorem TH (vars loc:List V) (h:H) (g:Nat) (args:List X) (Q:V->H->Prop):Yi p vars loc h (.callp g args) Q=CR p g (args.map (xv vars loc)) h Q:=by
 unfold Yi CR Ev
 refine propext ⟨λ ⟨N,f,v,h',e,q⟩=>?_,λ ⟨h1,N,f,v,h',e,h2,q⟩=>⟨N,f,v,h,?_,q⟩⟩
 ·rw [nQ] at e
  obtain ⟨rfl,h1,h2,h3,h4⟩:=An e
  exact ⟨h1,N,f,v,h3,h4,h2,q⟩
 ·rw [nQ]
  unfold Ot
  simp only [h1,e,h2,cond_true]
theorem CR.intro {g:Nat} {vs:List V} {h:H} {Q R:V->H->Prop} (e:Ev p g vs ⟨.lf,0⟩ R) (h1:vs.all V.Oi=true) (k: ∀ v h',R v h'->v.Oi=true/\Q v h):CR p g vs h Q:=⟨h1,e.mono k⟩
theorem adH (vars loc:List V) (h:H) (Q:List V->H->Prop):IL p [] vars loc h Q=Q vars h:=by
 unfold IL
 refine propext ⟨λ ⟨N,f,v,h',e,q⟩=>?_,λ q=>⟨0,0,vars,h,rfl,q⟩⟩
 rw [Nh] at e;cases e;exact q
theorem WV (d:D) (a:eD) (its:List It) (vars loc:List V) (h:H) (Q:List V->H->Prop):
  IL p (⟨d,none,a⟩::its) vars loc h Q=Yi p vars loc h a (abY p d its vars loc Q):=by
 unfold abY IL Yi
 refine propext ⟨λ ⟨N,f,v,h',e,q⟩=>?_,λ ⟨N,f,v,h1,e,N2,f2,vars',h',e2,q⟩=>?_⟩
 ·rw [pI] at e
  simp only [gK] at e
  split at e
  ·rename_i v1 h1 ha
   exact ⟨N,f,v1,h1,ha,N,f,v,h',e,q⟩
  ·cases e
 ·refine ⟨max N N2,max f f2,vars',h',?_,q⟩
  rw [pI]
  have b1:=KZ p (Nat.le_max_left N N2) (Nat.le_max_left f f2)
  have b2:=KZ p (Nat.le_max_right N N2) (Nat.le_max_right f f2)
  simp only [gK,sU b1.1 b1.2 e]
  exact sQ b2.1 b2.2 _ _ _ _ _ e2
theorem SA (d:D) (x:X) (b:Bool) (a:eD) (its:List It) (vars loc:List V) (h:H) (Q:List V->H->Prop):
  IL p (⟨d,some (x,b),a⟩::its) vars loc h Q=oX (gK vars loc (some (x,b))) (FH p d a its vars loc h Q):=by
 unfold oX
 refine propext ⟨λ ⟨N,f,v,h',e,q⟩=>?_,λ ⟨w,hw,k⟩=>?_⟩
 ·rw [pI] at e
  split at e
  ·rename_i hw
   refine ⟨true,hw,?_⟩
   split at e
   ·rename_i v1 h1 ha
    exact ⟨N,f,v1,h1,ha,N,f,v,h',e,q⟩
   ·cases e
  ·rename_i hw
   exact ⟨false,hw,N,f,v,h',e,q⟩
  ·cases e
 ·cases w with
  |true=>
   obtain ⟨N,f,v,h1,e,N2,f2,vars',h',e2,q⟩:=k
   refine ⟨max N N2,max f f2,vars',h',?_,q⟩
   rw [pI]
   have b1:=KZ p (Nat.le_max_left N N2) (Nat.le_max_left f f2)
   have b2:=KZ p (Nat.le_max_right N N2) (Nat.le_max_right f f2)
   simp only [hw,sU b1.1 b1.2 e]
   exact sQ b2.1 b2.2 _ _ _ _ _ e2
  |false=>
   obtain ⟨N,f,v,h',e,q⟩:=k
   refine ⟨N,f,v,h',?_,q⟩
   rw [pI]
   simp only [hw]
   exact e
theorem adK (base:Nat) (vars:List V) (log:Log) (h:H) (Q:List V->H->Prop):KI p base [] vars log h Q=Q vars h:=by
 unfold KI
 refine propext ⟨λ ⟨N,f,v,h',e,q⟩=>?_,λ q=>⟨0,0,vars,h,rfl,q⟩⟩
 rw [Na] at e;cases e;exact q
theorem aaY (base i:Nat) (d:D) (a:eD) (cks:List Nat) (xs:List AI) (vars:List V) (log:Log) (h:H) (Q:List V->H->Prop):
  KI p base (⟨i,⟨d,none,a⟩,false,cks⟩::xs) vars log h Q=Yi p vars [] h a (BI p base ⟨i,⟨d,none,a⟩,false,cks⟩ xs vars log Q):=by
 unfold BI KI Yi
 refine propext ⟨λ ⟨N,f,v,h',e,q⟩=>?_,λ ⟨N,f,v,h1,e,ho,N2,f2,vars',h',e2,q⟩=>?_⟩
 ·rw [jZ] at e
  simp only [gK,Bool.false_eq_true,if_false] at e
  split at e
  ·rename_i v1 h1 ha
   split at e
   ·rename_i ho
    exact ⟨N,f,v1,h1,ha,ho,N,f,v,h',e,q⟩
   ·cases e
  ·cases e
 ·refine ⟨max N N2,max f f2,vars',h',?_,q⟩
  rw [jZ]
  have b1:=KZ p (Nat.le_max_left N N2) (Nat.le_max_left f f2)
  have b2:=KZ p (Nat.le_max_right N N2) (Nat.le_max_right f f2)
  simp only [gK,Bool.false_eq_true,if_false,sU b1.1 b1.2 e,ho,if_true]
  exact xG b2.1 b2.2 _ _ _ _ _ e2
theorem QD (base i:Nat) (d:D) (a:eD) (cks:List Nat) (xs:List AI) (vars:List V) (log:Log) (h:H) (Q:List V->H->Prop):
  KI p base (⟨i,⟨d,none,a⟩,true,cks⟩::xs) vars log h Q=oX (Um vars h (base+i) a) (unc (BI p base ⟨i,⟨d,none,a⟩,true,cks⟩ xs vars log Q)):=by
 unfold unc BI KI oX
 refine propext ⟨λ ⟨N,f,v,h',e,q⟩=>?_,λ ⟨r,e,ho,N2,f2,vars',h',e2,q⟩=>?_⟩
 ·rw [jZ] at e
  simp only [gK,if_true] at e
  split at e
  ·rename_i v1 h1 ha
   split at e
   ·rename_i ho
    exact ⟨(v1,h1),ha,ho,N,f,v,h',e,q⟩
   ·cases e
  ·cases e
 ·refine ⟨N2,f2,vars',h',?_,q⟩
  rw [jZ]
  obtain ⟨v,h1⟩:=r
  simp only [gK,if_true,e,ho]
  exact e2
theorem SJ (base i:Nat) (d:D) (x:X) (b:Bool) (a:eD) (al:Bool) (cks:List Nat) (xs:List AI) (vars:List V) (log:Log) (h:H) (Q:List V->H->Prop):
  KI p base (⟨i,⟨d,some (x,b),a⟩,al,cks⟩::xs) vars log h Q=oX (gK vars [] (some (x,b))) (Zi p base i d x b a al cks xs vars log h Q):=by
 unfold oX
 refine propext ⟨λ ⟨N,f,v,h',e,q⟩=>?_,λ ⟨w,hw,k⟩=>?_⟩
 ·rw [jZ] at e
  split at e
  ·rename_i hw
   refine ⟨true,hw,?_⟩
   cases al with
   |true=>
    simp only [if_true] at e
    split at e
    ·rename_i v1 h1 ha
     split at e
     ·rename_i ho
      exact ⟨(v1,h1),ha,ho,N,f,v,h',e,q⟩
     ·cases e
    ·cases e
   |false=>
    simp only [Bool.false_eq_true,if_false] at e
    split at e
    ·rename_i v1 h1 ha
     split at e
     ·rename_i ho
      exact ⟨N,f,v1,h1,ha,ho,N,f,v,h',e,q⟩
     ·cases e
    ·cases e
  ·rename_i hw
   split at e
   ·rename_i ho
    exact ⟨false,hw,ho,N,f,v,h',e,q⟩
   ·cases e
  ·cases e
 ·cases w with
  |true=>
   cases al with
   |true=>
    obtain ⟨⟨v,h1⟩,e,ho,N2,f2,vars',h',e2,q⟩:=k
    refine ⟨N2,f2,vars',h',?_,q⟩
    rw [jZ]
    simp only [hw,if_true,e,ho]
    exact e2
   |false=>
    obtain ⟨N,f,v,h1,e,ho,N2,f2,vars',h',e2,q⟩:=k
    refine ⟨max N N2,max f f2,vars',h',?_,q⟩
    rw [jZ]
    have b1:=KZ p (Nat.le_max_left N N2) (Nat.le_max_left f f2)
    have b2:=KZ p (Nat.le_max_right N N2) (Nat.le_max_right f f2)
    simp only [hw,Bool.false_eq_true,if_false,sU b1.1 b1.2 e,ho,if_true]
    exact xG b2.1 b2.2 _ _ _ _ _ e2
  |false=>
   obtain ⟨ho,N2,f2,vars',h',e2,q⟩:=k
   refine ⟨N2,f2,vars',h',?_,q⟩
   rw [jZ]
   simp only [hw,ho,if_true]
   exact e2
variable {rd:Option Nat} {vars:List V} {h:H} {Q:E->List V->H->Prop}
theorem afF:Wp p rd .skip vars h Q=Q .norm vars h:=by
 unfold Wp;simp only [Ke]
 exact propext ⟨λ ⟨_,_,_,_,_,e,q⟩=>by cases e;exact q,λ q=>⟨0,0,_,_,_,rfl,q⟩⟩
theorem ahX:Wp p rd .ret vars h Q=Q .ret vars h:=by
 unfold Wp;simp only [DM]
 exact propext ⟨λ ⟨_,_,_,_,_,e,q⟩=>by cases e;exact q,λ q=>⟨0,0,_,_,_,rfl,q⟩⟩
theorem acF (n:Nat):Wp p rd (.exit n) vars h Q=Q (.exit n) vars h:=by
 unfold Wp;simp only [Ro]
 exact propext ⟨λ ⟨_,_,_,_,_,e,q⟩=>by cases e;exact q,λ q=>⟨0,0,_,_,_,rfl,q⟩⟩
theorem ZR (a:C):Wp p rd (.scope a) vars h Q=Wp p rd a vars h Q:=by
 unfold Wp;simp only [Nl]
theorem akB (its:List It):Wp p rd (.reg its) vars h Q=IL p its vars [] h (Q .norm):=by
 unfold Wp IL;simp only [AE]
 refine propext ⟨λ ⟨N,f,e,v,h',he,q⟩=>?_,λ ⟨N,f,v,h',he,q⟩=>⟨N,f,.norm,v,h',by rw [he],q⟩⟩
 split at he
 ·rename_i hr;cases he;exact ⟨N,f,_,_,hr,q⟩
 ·cases he
def ajQ (n:Nat) (Q:E->List V->H->Prop):List V->H->Prop:=λ vs h'=>Q .norm (vs.take n) h'
theorem adD (n:Nat) (vs:List V) (h':H):ajQ n Q vs h'=Q .norm (vs.take n) h':=rfl
theorem ahR (k nl:Nat) (its:List AI):Wp p rd (.any k nl its) vars h Q=KI p h.next its (vars++List.replicate nl .unk) [] {h with next:=h.next+k} (ajQ vars.length Q):=by
 unfold ajQ Wp KI;simp only [CN]
 refine propext ⟨λ ⟨N,f,e,v,h',he,q⟩=>?_,λ ⟨N,f,v,h',he,q⟩=>⟨N,f,.norm,_,h',by rw [he],q⟩⟩
 split at he
 ·rename_i hr;cases he;exact ⟨N,f,_,_,hr,q⟩
 ·cases he
def Vv (p:Nat->Option Fn) (rd:Option Nat) (b:C) (Q:E->List V->H->Prop):E->List V->H->Prop:=λ e vars h=>match e with| .norm=>Wp p rd b vars h Q|e=>Q e vars h
theorem Ul (b:C) (vars:List V) (h:H):Vv p rd b Q .norm vars h=Wp p rd b vars h Q:=rfl
theorem RH (b:C) (vars:List V) (h:H):Vv p rd b Q .ret vars h=Q .ret vars h:=rfl
theorem MK (b:C) (n:Nat) (vars:List V) (h:H):Vv p rd b Q (.exit n) vars h=Q (.exit n) vars h:=rfl
theorem VC (a b:C):Wp p rd (.seq a b) vars h Q=Wp p rd a vars h (Vv p rd b Q):=by
 refine propext ⟨λ ⟨N,f,e,v,h',he,q⟩=>?_,λ ⟨N,f,e,v,h1,he,k⟩=>?_⟩
 ·rw [run_seq] at he
  cases hr:run (lK p N f).1 (lK p N f).2 N rd a vars h with
  |none=>simp [hr] at he
  |some r=>
   obtain ⟨e1,v1,d1,h1⟩:=r
   simp only [hr] at he
   cases e1 with
   |norm=>
    simp only at he
    cases hr2:run (lK p N f).1 (lK p N f).2 N rd b v1 h1 with
    |none=>simp [hr2] at he
    |some r=>
     obtain ⟨e2,v2,d2,h2⟩:=r
     simp only [hr2,Option.some.injEq,Prod.mk.injEq] at he
     obtain ⟨rfl,rfl,hd,rfl⟩:=he
     simp only [List.append_eq_nil_iff] at hd
     obtain ⟨rfl,rfl⟩:=hd
     exact ⟨N,f,.norm,v1,h1,hr,N,f,_,_,_,hr2,q⟩
   |ret=>simp only at he;cases he;exact ⟨N,f,_,_,_,hr,q⟩
   |exit n=>simp only at he;cases he;exact ⟨N,f,_,_,_,hr,q⟩
 ·cases e with
  |norm=>
   obtain ⟨N2,f2,e2,v2,h2,he2,q⟩:=k
   refine ⟨max N N2,max f f2,e2,v2,h2,?_,q⟩
   have b1:=KZ p (Nat.le_max_left N N2) (Nat.le_max_left f f2)
   have b2:=KZ p (Nat.le_max_right N N2) (Nat.le_max_right f f2)
   rw [run_seq,iZ b1.1 b1.2 (Nat.le_max_left N N2) _ _ _ _ he]
   simp only [iZ b2.1 b2.2 (Nat.le_max_right N N2) _ _ _ _ he2]
   rfl
  |ret=>exact ⟨N,f,_,_,_,by rw [run_seq,he],k⟩
  |exit n=>exact ⟨N,f,_,_,_,by rw [run_seq,he],k⟩
theorem aiZ (x:X) (a b:C):Wp p rd (.ite x a b) vars h Q=Tp p rd a b vars h Q (xv vars [] x):=by
 unfold Tp Wp
 simp only [run_ite]
 cases xv vars [] x with
 |bool t=>cases t<;>rfl
 |_=>exact propext ⟨λ ⟨_,_,_,_,_,e,_⟩=>(nomatch e),λ h=>h.elim⟩
def yZ (id:Nat) (Q:E->List V->H->Prop):E->List V->H->Prop:=λ e vars h=>match e with| .exit n=>if n=id then Q .norm vars h else Q (.exit n) vars h|e=>Q e vars h
theorem HM (id:Nat) (vars:List V) (h:H):yZ id Q .norm vars h=Q .norm vars h:=rfl
theorem MJ (id:Nat) (vars:List V) (h:H):yZ id Q .ret vars h=Q .ret vars h:=rfl
theorem Eu (id:Nat) (vars:List V) (h:H):yZ id Q (.exit id) vars h=Q .norm vars h:=if_pos rfl
theorem SS (id n:Nat) (hn:n≠id) (vars:List V) (h:H):yZ id Q (.exit n) vars h=Q (.exit n) vars h:=if_neg hn
theorem VG (id:Nat) (a:C):Wp p rd (.block id a) vars h Q=Wp p rd a vars h (yZ id Q):=by
 unfold Wp
 simp only [Ng]
 refine propext ⟨λ ⟨N,f,e,v,h',he,q⟩=>?_,λ ⟨N,f,e,v,h1,he,k⟩=>?_⟩
 ·cases hr:run (lK p N f).1 (lK p N f).2 N rd a vars h with
  |none=>simp [hr] at he
  |some r=>
   obtain ⟨e1,v1,d1,h1⟩:=r
   simp only [hr] at he
   cases e1 with
   |exit n=>
    simp only at he
    split at he
    ·rename_i hn;cases he;exact ⟨N,f,_,_,_,hr,by simp only [yZ];rw [if_pos hn];exact q⟩
    ·rename_i hn;cases he;exact ⟨N,f,_,_,_,hr,by simp only [yZ];rw [if_neg hn];exact q⟩
   |norm=>simp only at he;cases he;exact ⟨N,f,_,_,_,hr,q⟩
   |ret=>simp only at he;cases he;exact ⟨N,f,_,_,_,hr,q⟩
 ·cases e with
  |exit n=>
   simp only [yZ] at k
   split at k
   ·rename_i hn;exact ⟨N,f,_,_,_,by rw [he];simp only;rw [if_pos hn],k⟩
   ·rename_i hn;exact ⟨N,f,_,_,_,by rw [he];simp only;rw [if_neg hn],k⟩
  |norm=>exact ⟨N,f,_,_,_,by rw [he],k⟩
  |ret=>exact ⟨N,f,_,_,_,by rw [he],k⟩
def DT (J:List V->H->Prop) (Q:E->List V->H->Prop):E->List V->H->Prop:=λ e vars h=>match e with| .norm=>J vars h|e=>Q e vars h
theorem EB (J:List V->H->Prop) (vars:List V) (h:H):DT J Q .norm vars h=J vars h:=rfl
theorem MI (J:List V->H->Prop) (vars:List V) (h:H):DT J Q .ret vars h=Q .ret vars h:=rfl
theorem HV (J:List V->H->Prop) (n:Nat) (vars:List V) (h:H):DT J Q (.exit n) vars h=Q (.exit n) vars h:=rfl
theorem aJ {c:C} (J:Nat->List V->H->Prop) (k:Nat) (h0:J k vars h)
  (step: ∀ k vars h,J k vars h->Wp p rd c vars h (DT (λ v h'=> ∃ k',k'<k/\J k' v h') Q)):Wp p rd (.loop c) vars h Q:=by
 have key: ∀ k vars h,J k vars h-> ∃ N f n e vars' h',Ez (run (lK p N f).1 (lK p N f).2 N rd c) n vars h=some (e,vars', [],h')/\Q e vars' h':=by
  intro k
  induction k using Nat.strongRecOn with
  |ind k ih=>
   intro vars h hJ
   obtain ⟨N,f,e,v,h1,he,q⟩:=step k vars h hJ
   cases e with
   |norm=>
    obtain ⟨k',hk',hJ'⟩:=q
    obtain ⟨N2,f2,n,e2,v2,h2,he2,q2⟩:=ih k' hk' v h1 hJ'
    have b1:=KZ p (Nat.le_max_left N N2) (Nat.le_max_left f f2)
    have b2:=KZ p (Nat.le_max_right N N2) (Nat.le_max_right f f2)
    refine ⟨max N N2,max f f2,n+1,e2,v2,h2,?_,q2⟩
    rw [xO,iZ b1.1 b1.2 (Nat.le_max_left N N2) _ _ _ _ he]
    simp only [Bt (λ v h r=>iZ b2.1 b2.2 (Nat.le_max_right N N2) c v h r) n n (jI _) _ _ _ he2]
    rfl
   |ret=>exact ⟨N,f,1,_,_,_,by rw [xO,he],q⟩
   |exit n=>exact ⟨N,f,1,_,_,_,by rw [xO,he],q⟩
 obtain ⟨N,f,n,e,v,h',he,q⟩:=key k vars h h0
 refine ⟨max N n,f,e,v,h',?_,q⟩
 have b:=KZ p (Nat.le_max_left N n) (jI f)
 rw [Uq]
 exact Bt (λ v h r=>iZ b.1 b.2 (Nat.le_max_left N n) c v h r) n (max N n) (Nat.le_max_right N n) _ _ _ he
def ZJ (id:Nat) (vars:List V) (Q:E->List V->H->Prop):V->H->Prop:=λ _ h'=> ∃ r,h'.get id=some (.loop r)/\r.st≠ .busy/\Q (r.pend.getD .norm) vars (h'.set id (some (.loop {r with st:= .out})))
def Uc (p:Nat->Option Fn) (rd:Option Nat) (x:V) (pars:List Nat) (assign body:C) (vars:List V) (h:H) (Q:E->List V->H->Prop):Prop:=
 match x with
 | .fn g fs cs=>RV rd h=true/\Ev p g (fs++ .yl h.next::cs) (h.new (.loop {vars,pars,assign,body,st:= .ready,pend:=none})) (ZJ h.next vars Q)
 |_=>False
theorem CA {x x':V} {pars:List Nat} {a b:C} {v v':List V} {h h':H} (e0:x=x') (e1:v=v') (e2:h=h'):Uc p rd x pars a b v h Q=Uc p rd x' pars a b v' h' Q:=by rw [e0,e1,e2]
theorem TG (g:Nat) (fs cs:List V) (pars:List Nat) (assign body:C):Uc p rd (.fn g fs cs) pars assign body vars h Q=(RV rd h=true/\Ev p g (fs++ .yl h.next::cs) (h.new (.loop {vars,pars,assign,body,st:= .ready,pend:=none})) (ZJ h.next vars Q)):=rfl
theorem YO (x:X) (pars:List Nat) (a b:C):Wp p rd (.range x pars a b) vars h Q=Uc p rd (xv vars [] x) pars a b vars h Q:=by
 unfold Wp Uc
 simp only [Np,Dc]
 cases xv vars [] x with
 |fn g fs cs=>
  simp only
  refine propext ⟨λ ⟨N,f,e,v,h',he,q⟩=>?_,λ ⟨ho,N,f,v,h',he,r,hg,hb,q⟩=>?_⟩
  ·split at he
   ·rename_i ho
    refine ⟨ho,?_⟩
    split at he
    ·rename_i v1 h1 hc
     split at he
     ·rename_i r hg
      split at he
      ·cases he
      ·rename_i hb
       cases he
       exact ⟨N,f,v1,h1,hc,r,hg,hb,q⟩
     ·cases he
    ·cases he
   ·cases he
  ·refine ⟨N,f,_,_,_,?_,q⟩
   rw [if_pos ho]
   simp only [he,hg]
   rw [if_neg hb]
 |_=>exact propext ⟨λ ⟨_,_,_,_,_,e,_⟩=>(nomatch e),λ h=>h.elim⟩
def adS (Q:V->H->Prop) (h:H):List V->Prop:=λ vs=>Q (Oj vs) h
theorem acW (Q:V->H->Prop) (h:H) (vs:List V):adS Q h vs=Q (Oj vs) h:=rfl
def aeS (results:List Rv) (Q:V->H->Prop):E->List V->H->Prop:=λ e vars h=>match e with
 | .exit _=>False
 |_=>oX (cI (results.map (Hu vars h))) (adS Q h)
theorem TC (results:List Rv) (Q:V->H->Prop) (vars:List V) (h:H):aeS results Q .norm vars h=oX (cI (results.map (Hu vars h))) (adS Q h):=rfl
theorem acD (results:List Rv) (Q:V->H->Prop) (vars:List V) (h:H):aeS results Q .ret vars h=oX (cI (results.map (Hu vars h))) (adS Q h):=rfl
theorem aZ {g:Nat} {fn:Fn} {args:List V} {h:H} {Q:V->H->Prop} (hg:p g=some fn) (hl:args.length=fn.nargs) (hw:Wp p none fn.body (Ln fn args) h (aeS fn.results Q)):Ev p g args h Q:=by
 obtain ⟨N,f,e,v,h',he,q⟩:=hw
 cases e with
 |exit n=>exact q.elim
 |norm=>
  obtain ⟨vs,hv,q⟩:=q
  refine ⟨N,f+1,Oj vs,h',?_,q⟩
  rw [uD]
  simp only [Em,hg,hl,if_true,he,zV,hv,Option.map_some]
 |ret=>
  obtain ⟨vs,hv,q⟩:=q
  refine ⟨N,f+1,Oj vs,h',?_,q⟩
  rw [uD]
  simp only [Em,hg,hl,if_true,he,zV,hv,Option.map_some]
def Vt (id:Nat) (Q:V->H->Prop):E->List V->H->Prop:=λ e _ h=> ∃ r3,h.get id=some (.loop r3)/\(match e with
 | .norm=>Q (.bool true) (h.set id (some (.loop {r3 with st:= .ready,pend:=none})))
 |e=>Q (.bool false) (h.set id (some (.loop {r3 with st:= .done,pend:=some e}))))
theorem akT {id:Nat} {args:List V} {h:H} {Q:V->H->Prop} {r:fV} (hr:h.get id=some (.loop r)) (hl:args.length=r.pars.length)
  (hw:Wp p (some id) r.assign ((r.pars.zip args).foldl (λ vs q=>vs.set q.1 q.2) r.vars) h λ e vars h1=>e= .norm/\ ∃ r2,h1.get id=some (.loop r2)/\r2.st= .ready/\
   Wp p (some id) r.body vars (h1.set id (some (.loop {r2 with st:= .busy}))) (Vt id Q)):Ey p id args h Q:=by
 obtain ⟨N,f,e,v,h1,he,rfl,r2,hr2,jH,N2,f2,e2,v2,h2,he2,r3,hr3,q⟩:=hw
 have b1:=KZ p (show N<=max N N2 by omega) (show f<=max f f2 by omega)
 have b2:=KZ p (show N2<=max N N2 by omega) (show f2<=max f f2 by omega)
 cases e2 with
 |norm=>
  refine ⟨max N N2,max f f2+1,.bool true,_,?_,q⟩
  rw [uD]
  simp only [zI,hr,hl,if_true,iZ b1.1 b1.2 (show N<=max N N2 by omega) _ _ _ _ he,hr2,jH,iZ b2.1 b2.2 (show N2<=max N N2 by omega) _ _ _ _ he2,hr3]
 |ret=>
  refine ⟨max N N2,max f f2+1,.bool false,_,?_,q⟩
  rw [uD]
  simp only [zI,hr,hl,if_true,iZ b1.1 b1.2 (show N<=max N N2 by omega) _ _ _ _ he,hr2,jH,iZ b2.1 b2.2 (show N2<=max N N2 by omega) _ _ _ _ he2,hr3]
 |exit n=>
  refine ⟨max N N2,max f f2+1,.bool false,_,?_,q⟩
  rw [uD]
  simp only [zI,hr,hl,if_true,iZ b1.1 b1.2 (show N<=max N N2 by omega) _ _ _ _ he,hr2,jH,iZ b2.1 b2.2 (show N2<=max N N2 by omega) _ _ _ _ he2,hr3]
end
end Go.Ay
