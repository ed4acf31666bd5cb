/- The abstract machine, by weakest preconditions. -/
import Derived.Test.YtapfcpkecmmagaaGreatAy22
namespace Go.Ay
section
variable {g:Nat} {args a' v v':List V} {R:V->H->Prop} {c:C} {h':H}
def mG {α:Type}(o:Option α)(K:α->Prop):Prop:= ∃a,o=some a/\K a
theorem Sr {α:Type}(a:α)(K:α->Prop):mG (some a) K=K a:=propext ⟨λ⟨_,h,k⟩=>by cases h;exact k,λk=>⟨a,rfl,k⟩⟩
theorem Qb {α:Type}{o o':Option α}{K:α->Prop}(h:o=o'):mG o K=mG o' K:=by rw[h]
section
variable (p:Nat->Option Fn)
def Ev (g:Nat)(args:List V)(h:H)(Q:V->H->Prop):Prop:= ∃N f v h',(lZ p N f).1 g args h=some (v,h')/\Q v h'
def Ey (id:Nat)(args:List V)(h:H)(Q:V->H->Prop):Prop:= ∃N f v h',(lZ p N f).2 id args h=some (v,h')/\Q v h'
def My (vars loc:List V)(h:H)(a:dZ)(Q:V->H->Prop):Prop:= ∃N f v h',lT (lZ p N f).1 (lZ p N f).2 vars loc h a=some (v,h')/\Q v h'
def Vs (its:List It)(vars loc:List V)(h:H)(Q:List V->H->Prop):Prop:= ∃N f vars' h',tU (lZ p N f).1 (lZ p N f).2 its vars loc h=some (vars',h')/\Q vars' h'
def Xd (base:Nat)(xs:List AI)(vars:List V)(log:Log)(h:H)(Q:List V->H->Prop):Prop:= ∃N f vars' h',vW (lZ p N f).1 (lZ p N f).2 base xs vars log h=some (vars',h')/\Q vars' h'
def Wp (rd:Option Nat)(c:C)(vars:List V)(h:H)(Q:E->List V->H->Prop):Prop:=
 ∃N f e vars' h',run (lZ p N f).1 (lZ p N f).2 N rd c vars h=some (e,vars', [],h')/\Q e vars' h'
variable {p}
theorem Ev.mono {h:H}{Q:V->H->Prop}(e:Ev p g args h Q)(k: ∀v h',Q v h'->R v h'):Ev p g args h R:=by
 obtain⟨N,f,v,h',e,q⟩:=e;exact⟨N,f,v,h',e,k _ _ q⟩
theorem Ey.mono {id:Nat}{h:H}{Q:V->H->Prop}(e:Ey p id args h Q)(k: ∀v h',Q v h'->R v h'):Ey p id args h R:=by
 obtain⟨N,f,v,h',e,q⟩:=e;exact⟨N,f,v,h',e,k _ _ q⟩
theorem Wp.mono {rd:Option Nat}{vars:List V}{h:H}{Q R:E->List V->H->Prop}(e:Wp p rd c vars h Q)(k: ∀e v h',Q e v h'->R e v h'):Wp p rd c vars h R:=by
 obtain⟨N,f,a,v,h',e,q⟩:=e;exact⟨N,f,a,v,h',e,k _ _ _ q⟩
theorem Vs.mono {its:List It}{vars loc:List V}{h:H}{Q R:List V->H->Prop}(e:Vs p its vars loc h Q)(k: ∀v h',Q v h'->R v h'):Vs p its vars loc h R:=by
 obtain⟨N,f,v,h',e,q⟩:=e;exact⟨N,f,v,h',e,k _ _ q⟩
theorem LY {a:List V}{h:H}{Q:V->H->Prop}(e1:a=a')(e2:h=h'):Ev p g a h Q=Ev p g a' h' Q:=by rw[e1,e2]
theorem IC {a:List V}{h:H}{Q:V->H->Prop}(e1:a=a')(e2:h=h'):Ey p g a h Q=Ey p g a' h' Q:=by rw[e1,e2]
theorem EU {a:dZ}{l l':List V}{h:H}{Q:V->H->Prop}(e1:v=v')(e3:l=l')(e2:h=h'):My p v l h a Q=My p v' l' h' a Q:=by rw[e1,e2,e3]
theorem DN {its:List It}{l l':List V}{h:H}{Q:List V->H->Prop}(e1:v=v')(e3:l=l')(e2:h=h'):Vs p its v l h Q=Vs p its v' l' h' Q:=by rw[e1,e2,e3]
theorem ES {base base':Nat}{xs:List AI}{l:Log}{h:H}{Q:List V->H->Prop}(e0:base=base')(e1:v=v')(e2:h=h'):Xd p base xs v l h Q=Xd p base' xs v' l h' Q:=by rw[e0,e1,e2]
theorem PT {rd:Option Nat}{h:H}{Q:E->List V->H->Prop}(e1:v=v')(e2:h=h'):Wp p rd c v h Q=Wp p rd c v' h' Q:=by rw[e1,e2]
def Je (p:Nat->Option Fn)(rd:Option Nat)(a b:C)(vars:List V)(h:H)(Q:E->List V->H->Prop)(v:V):Prop:=match v with| .bool true=>Wp p rd a vars h Q| .bool false=>Wp p rd b vars h Q|_=>False
section
variable {rd:Option Nat} {a b:C} {vars:List V} {h:H} {Q:E->List V->H->Prop}
theorem Vy {v v':V}(e:v=v'):Je p rd a b vars h Q v=Je p rd a b vars h Q v':=by rw[e]
theorem FR:Je p rd a b vars h Q (.bool true)=Wp p rd a vars h Q:=rfl
theorem Yb:Je p rd a b vars h Q (.bool false)=Wp p rd b vars h Q:=rfl
theorem aZ {P:Prop}[Decidable P](x:P->Wp p rd a vars h Q)(y: ¬P->Wp p rd b vars h Q):Je p rd a b vars h Q (.bool (decide P)):=by
 by_cases h:P
 ·rw[decide_eq_true h];exact x h
 ·rw[decide_eq_false h];exact y h
theorem NJ {t:Bool}:Je p rd a b vars h Q (.bool (!t))=Je p rd b a vars h Q (.bool t):=by cases t<;>rfl
end
def unc (K:V->H->Prop):V×H->Prop:=λr=>K r.1 r.2
theorem YK (K:V->H->Prop)(v:V)(h:H):unc K (v,h)=K v h:=rfl
def OL (p:Nat->Option Fn)(d:D)(its:List It)(vars loc:List V)(Q:List V->H->Prop):V->H->Prop:=λv h'=>Vs p its (lW d vars loc v).1 (lW d vars loc v).2 h' Q
theorem UJ (d:D)(its:List It)(vars loc:List V)(Q:List V->H->Prop)(v:V)(h':H):OL p d its vars loc Q v h'=Vs p its (lW d vars loc v).1 (lW d vars loc v).2 h' Q:=rfl
def Uu (p:Nat->Option Fn)(d:D)(a:dZ)(its:List It)(vars loc:List V)(h:H)(Q:List V->H->Prop)(w:Bool):Prop:=match w with
 |true=>My p vars loc h a (OL p d its vars loc Q)
 |false=>Vs p its (lW d vars loc .undef).1 (lW d vars loc .undef).2 h Q
section
variable {d:D} {a:dZ} {its:List It} {vars loc:List V} {h:H} {Q:List V->H->Prop}
theorem Sg {v v':Bool}(e:v=v'):Uu p d a its vars loc h Q v=Uu p d a its vars loc h Q v':=by rw[e]
theorem Zl:Uu p d a its vars loc h Q true=My p vars loc h a (OL p d its vars loc Q):=rfl
theorem Vd:Uu p d a its vars loc h Q false=Vs p its (lW d vars loc .undef).1 (lW d vars loc .undef).2 h Q:=rfl
end
def Om (p:Nat->Option Fn)(base:Nat)(x:AI)(xs:List AI)(vars:List V)(log:Log)(Q:List V->H->Prop):V->H->Prop:=λv h'=>qM x.cks log h'=true/\Xd p base xs (lW x.it.d vars [] v).1 (Gu x vars v log) h' Q
theorem RM (base i:Nat)(d:D)(g:Option (X×Bool))(a:dZ)(al:Bool)(cks:List Nat)(xs:List AI)(vars:List V)(log:Log)(Q:List V->H->Prop)(v:V)(h':H):Om p base ⟨i,⟨d,g,a⟩,al,cks⟩ xs vars log Q v h'=(qM cks log h'=true/\Xd p base xs (lW d vars [] v).1 (Gu ⟨i,⟨d,g,a⟩,al,cks⟩ vars v log) h' Q):=rfl
def Mg (p:Nat->Option Fn)(base i:Nat)(d:D)(x:X)(b:Bool)(a:dZ)(al:Bool)(cks:List Nat)(xs:List AI)(vars:List V)(log:Log)(h:H)(Q:List V->H->Prop)(w:Bool):Prop:=match w,al with
 |true,true=>mG (Ht vars h (base+i) a) (unc (Om p base ⟨i,⟨d,some (x,b),a⟩,true,cks⟩ xs vars log Q))
 |true,false=>My p vars [] h a (Om p base ⟨i,⟨d,some (x,b),a⟩,false,cks⟩ xs vars log Q)
 |false,_=>qM cks log h=true/\Xd p base xs (lW d vars [] .undef).1 log h Q
section
variable {base i:Nat} {d:D} {x:X} {b al:Bool} {a:dZ} {cks:List Nat} {xs:List AI} {vars:List V} {log:Log} {h:H} {Q:List V->H->Prop}
theorem Ug {v v':Bool}(e:v=v'):Mg p base i d x b a al cks xs vars log h Q v=Mg p base i d x b a al cks xs vars log h Q v':=by rw[e]
theorem IP:Mg p base i d x b a true cks xs vars log h Q true=mG (Ht vars h (base+i) a) (unc (Om p base ⟨i,⟨d,some (x,b),a⟩,true,cks⟩ xs vars log Q)):=rfl
theorem KS:Mg p base i d x b a false cks xs vars log h Q true=My p vars [] h a (Om p base ⟨i,⟨d,some (x,b),a⟩,false,cks⟩ xs vars log Q):=rfl
theorem RD:Mg p base i d x b a al cks xs vars log h Q false=(qM cks log h=true/\Xd p base xs (lW d vars [] .undef).1 log h Q):=rfl
end
theorem Yl (p:Nat->Option Fn){N N' f f':Nat}(h1:N<=N')(h2:f<=f'):Le (lZ p N f).1 (lZ p N' f').1/\Le (lZ p N f).2 (lZ p N' f').2:=Vn p h1 f f' h2
theorem abB (vars loc:List V)(h:H)(i:I)(Q:V->H->Prop):My p vars loc h (.op i) Q=mG (cK (xv vars loc) h i) (unc Q):=by
 unfold My mG;refine propext ⟨λ⟨N,f,v,h',e,q⟩=>⟨(v,h'),by rw[sY] at e;exact e,q⟩,λ⟨r,e,q⟩=>⟨0,0,r.1,r.2,by rw[sY];exact e,q⟩⟩
theorem PO (vars loc:List V)(h:H)(g:Nat)(args:List X)(Q:V->H->Prop):My p vars loc h (.call g args) Q=Ev p g (args.map (xv vars loc)) h Q:=by
 unfold My Ev;simp only[rW]
def Al (p:Nat->Option Fn)(x:V)(args:List V)(h:H)(Q:V->H->Prop):Prop:=match x with
 | .fn g fs cs=>Ev p g (fs++args++cs) h Q
 | .yl id=>Ey p id args h Q
 |_=>False
theorem Al.mono {x:V}{h:H}{Q:V->H->Prop}(e:Al p x args h Q)(k: ∀v h',Q v h'->R v h'):Al p x args h R:=by
 unfold Al at*;split at e
 ·exact e.mono k
 ·exact e.mono k
 ·exact e.elim
theorem Um {x x':V}{a:List V}{h:H}{Q:V->H->Prop}(e0:x=x')(e1:a=a')(e2:h=h'):Al p x a h Q=Al p x' a' h' Q:=by rw[e0,e1,e2]
theorem PK (g:Nat)(fs cs args:List V)(h:H)(Q:V->H->Prop):Al p (.fn g fs cs) args h Q=Ev p g (fs++args++cs) h Q:=rfl
theorem NC (id:Nat)(args:List V)(h:H)(Q:V->H->Prop):Al p (.yl id) args h Q=Ey p id args h Q:=rfl
theorem DQ (vars loc:List V)(h:H)(x:X)(args:List X)(Q:V->H->Prop):My p vars loc h (.callv x args) Q=Al p (xv vars loc x) (args.map (xv vars loc)) h Q:=by
 unfold My;simp only[qC];unfold Al;cases xv vars loc x<;>simp [Ev,Ey]
def Pu (p:Nat->Option Fn)(g t:Nat)(x:V)(args:List V)(h:H)(Q:V->H->Prop):Prop:=match x with
 | .ifc u v=>u=t/\Ev p g (v::args) h Q
 |_=>False
theorem Xk (g t:Nat)(v:V)(args:List V)(h:H)(Q:V->H->Prop):Pu p g t (.ifc t v) args h Q=Ev p g (v::args) h Q:=by
 simp [Pu]
theorem GG (vars loc:List V)(h:H)(g t:Nat)(x:X)(args:List X)(Q:V->H->Prop):My p vars loc h (.calli g t x args) Q=Pu p g t (xv vars loc x) (args.map (xv vars loc)) h Q:=by
 unfold My;simp only[qF];unfold Pu;cases xv vars loc x<;>simp only[reduceCtorEq,false_and,exists_false];rename_i u v
 by_cases hu:u=t
 ·subst hu
  simp [Ev]
 ·have:Nat.beq u t=false:=by
   cases hq:Nat.beq u t with
   |false=>rfl
   |true=>exact absurd (Nat.eq_of_beq_eq_true hq) hu
  simp [this,hu]
def Qv (p:Nat->Option Fn)(g:Nat)(vs:List V)(h:H)(Q:V->H->Prop):Prop:=vs.all V.Fk=true/\Ev p g vs ⟨.lf,0⟩ (λv _=>v.Fk=true/\Q v h)
theorem EI (vars loc:List V)(h:H)(g:Nat)(args:List X)(Q:V->H->Prop):My p vars loc h (.callp g args) Q=Qv p g (args.map (xv vars loc)) h Q:=by
 unfold My Qv Ev;refine propext ⟨λ⟨N,f,v,h',e,q⟩=>?_,λ⟨h1,N,f,v,h',e,h2,q⟩=>⟨N,f,v,h,?_,q⟩⟩
 ·rw[lV] at e
  obtain⟨rfl,h1,h2,h3,h4⟩:=wW e;exact⟨h1,N,f,v,h3,h4,h2,q⟩
 ·rw[lV]
  unfold Gg;simp only[h1,e,h2,cond_true]
theorem Qv.intro {vs:List V}{h:H}{Q:V->H->Prop}(e:Ev p g vs ⟨.lf,0⟩ R)(h1:vs.all V.Fk=true)(k: ∀v h',R v h'->v.Fk=true/\Q v h):Qv p g vs h Q:=⟨h1,e.mono k⟩
theorem VA (vars loc:List V)(h:H)(Q:List V->H->Prop):Vs p [] vars loc h Q=Q vars h:=by
 unfold Vs;refine propext ⟨λ⟨N,f,v,h',e,q⟩=>?_,λq=>⟨0,0,vars,h,rfl,q⟩⟩;rw[En] at e;cases e;exact q
theorem NN (d:D)(a:dZ)(its:List It)(vars loc:List V)(h:H)(Q:List V->H->Prop):
  Vs p (⟨d,none,a⟩::its) vars loc h Q=My p vars loc h a (OL p d its vars loc Q):=by
 unfold OL Vs My
 refine propext ⟨λ⟨N,f,v,h',e,q⟩=>?_,λ⟨N,f,v,h1,e,N2,f2,vars',h',e2,q⟩=>?_⟩
 ·rw[nH] at e
  simp only[fY] at e
  split at e
  ·rename_i v1 h1 ha
   exact⟨N,f,v1,h1,ha,N,f,v,h',e,q⟩
  ·cases e
 ·refine⟨max N N2,max f f2,vars',h',?_,q⟩
  rw[nH]
  have b1:=Yl p (Nat.le_max_left N N2) (Nat.le_max_left f f2)
  have b2:=Yl p (Nat.le_max_right N N2) (Nat.le_max_right f f2)
  simp only[fY,pQ b1.1 b1.2 e]
  exact pH b2.1 b2.2 _ _ _ _ _ e2
theorem FC (d:D)(x:X)(b:Bool)(a:dZ)(its:List It)(vars loc:List V)(h:H)(Q:List V->H->Prop):
  Vs p (⟨d,some (x,b),a⟩::its) vars loc h Q=mG (fY vars loc (some (x,b))) (Uu p d a its vars loc h Q):=by
 unfold mG
 refine propext ⟨λ⟨N,f,v,h',e,q⟩=>?_,λ⟨w,hw,k⟩=>?_⟩
 ·rw[nH] at e
  split at e
  ·rename_i hw
   refine⟨true,hw,?_⟩
   split at e
   ·rename_i v1 h1 ha
    exact⟨N,f,v1,h1,ha,N,f,v,h',e,q⟩
   ·cases e
  ·rename_i hw
   exact⟨false,hw,N,f,v,h',e,q⟩
  ·cases e
 ·cases w with
  |true=>
   obtain⟨N,f,v,h1,e,N2,f2,vars',h',e2,q⟩:=k;refine⟨max N N2,max f f2,vars',h',?_,q⟩;rw[nH];have b1:=Yl p (Nat.le_max_left N N2) (Nat.le_max_left f f2);have b2:=Yl p (Nat.le_max_right N N2) (Nat.le_max_right f f2);simp only[hw,pQ b1.1 b1.2 e];exact pH b2.1 b2.2 _ _ _ _ _ e2
  |false=>
   obtain⟨N,f,v,h',e,q⟩:=k;refine⟨N,f,v,h',?_,q⟩;rw[nH];simp only[hw];exact e
theorem VC (base:Nat)(vars:List V)(log:Log)(h:H)(Q:List V->H->Prop):Xd p base [] vars log h Q=Q vars h:=by
 unfold Xd;refine propext ⟨λ⟨N,f,v,h',e,q⟩=>?_,λq=>⟨0,0,vars,h,rfl,q⟩⟩;rw[Ei] at e;cases e;exact q
theorem NW (base i:Nat)(d:D)(a:dZ)(cks:List Nat)(xs:List AI)(vars:List V)(log:Log)(h:H)(Q:List V->H->Prop):
  Xd p base (⟨i,⟨d,none,a⟩,false,cks⟩::xs) vars log h Q=My p vars [] h a (Om p base ⟨i,⟨d,none,a⟩,false,cks⟩ xs vars log Q):=by
 unfold Om Xd My
 refine propext ⟨λ⟨N,f,v,h',e,q⟩=>?_,λ⟨N,f,v,h1,e,ho,N2,f2,vars',h',e2,q⟩=>?_⟩
 ·rw[jK] at e
  simp only[fY,Bool.false_eq_true,if_false] at e
  split at e
  ·rename_i v1 h1 ha
   split at e
   ·rename_i ho
    exact⟨N,f,v1,h1,ha,ho,N,f,v,h',e,q⟩
   ·cases e
  ·cases e
 ·refine⟨max N N2,max f f2,vars',h',?_,q⟩
  rw[jK]
  have b1:=Yl p (Nat.le_max_left N N2) (Nat.le_max_left f f2)
  have b2:=Yl p (Nat.le_max_right N N2) (Nat.le_max_right f f2)
  simp only[fY,Bool.false_eq_true,if_false,pQ b1.1 b1.2 e,ho,if_true]
  exact sV b2.1 b2.2 _ _ _ _ _ e2
theorem FN (base i:Nat)(d:D)(a:dZ)(cks:List Nat)(xs:List AI)(vars:List V)(log:Log)(h:H)(Q:List V->H->Prop):
  Xd p base (⟨i,⟨d,none,a⟩,true,cks⟩::xs) vars log h Q=mG (Ht vars h (base+i) a) (unc (Om p base ⟨i,⟨d,none,a⟩,true,cks⟩ xs vars log Q)):=by
 unfold unc Om Xd mG
 refine propext ⟨λ⟨N,f,v,h',e,q⟩=>?_,λ⟨r,e,ho,N2,f2,vars',h',e2,q⟩=>?_⟩
 ·rw[jK] at e
  simp only[fY,if_true] at e
  split at e
  ·rename_i v1 h1 ha
   split at e
   ·rename_i ho
    exact⟨(v1,h1),ha,ho,N,f,v,h',e,q⟩
   ·cases e
  ·cases e
 ·refine⟨N2,f2,vars',h',?_,q⟩
  rw[jK]
  obtain⟨v,h1⟩:=r
  simp only[fY,if_true,e,ho]
  exact e2
theorem ED (base i:Nat)(d:D)(x:X)(b:Bool)(a:dZ)(al:Bool)(cks:List Nat)(xs:List AI)(vars:List V)(log:Log)(h:H)(Q:List V->H->Prop):
  Xd p base (⟨i,⟨d,some (x,b),a⟩,al,cks⟩::xs) vars log h Q=mG (fY vars [] (some (x,b))) (Mg p base i d x b a al cks xs vars log h Q):=by
 unfold mG
 refine propext ⟨λ⟨N,f,v,h',e,q⟩=>?_,λ⟨w,hw,k⟩=>?_⟩
 ·rw[jK] at e
  split at e
  ·rename_i hw
   refine⟨true,hw,?_⟩
   cases al with
   |true=>
    simp only[if_true] at e;split at e
    ·rename_i v1 h1 ha
     split at e
     ·rename_i ho
      exact⟨(v1,h1),ha,ho,N,f,v,h',e,q⟩
     ·cases e
    ·cases e
   |false=>
    simp only[Bool.false_eq_true,if_false] at e;split at e
    ·rename_i v1 h1 ha
     split at e
     ·rename_i ho
      exact⟨N,f,v1,h1,ha,ho,N,f,v,h',e,q⟩
     ·cases e
    ·cases e
  ·rename_i hw
   split at e
   ·rename_i ho
    exact⟨false,hw,ho,N,f,v,h',e,q⟩
   ·cases e
  ·cases e
 ·cases w with
  |true=>
   cases al with
   |true=>
    obtain⟨⟨v,h1⟩,e,ho,N2,f2,vars',h',e2,q⟩:=k;refine⟨N2,f2,vars',h',?_,q⟩;rw[jK];simp only[hw,if_true,e,ho];exact e2
   |false=>
    obtain⟨N,f,v,h1,e,ho,N2,f2,vars',h',e2,q⟩:=k;refine⟨max N N2,max f f2,vars',h',?_,q⟩;rw[jK];have b1:=Yl p (Nat.le_max_left N N2) (Nat.le_max_left f f2);have b2:=Yl p (Nat.le_max_right N N2) (Nat.le_max_right f f2);simp only[hw,Bool.false_eq_true,if_false,pQ b1.1 b1.2 e,ho,if_true];exact sV b2.1 b2.2 _ _ _ _ _ e2
  |false=>
   obtain⟨ho,N2,f2,vars',h',e2,q⟩:=k;refine⟨N2,f2,vars',h',?_,q⟩;rw[jK];simp only[hw,ho,if_true];exact e2
variable {rd:Option Nat} {vars:List V} {h:H} {Q:E->List V->H->Prop}
theorem QM:Wp p rd .skip vars h Q=Q .norm vars h:=by
 unfold Wp;simp only[Cr];exact propext ⟨λ⟨_,_,_,_,_,e,q⟩=>by cases e;exact q,λq=>⟨0,0,_,_,_,rfl,q⟩⟩
theorem XS:Wp p rd .ret vars h Q=Q .ret vars h:=by
 unfold Wp;simp only[Oh];exact propext ⟨λ⟨_,_,_,_,_,e,q⟩=>by cases e;exact q,λq=>⟨0,0,_,_,_,rfl,q⟩⟩
theorem SG (n:Nat):Wp p rd (.exit n) vars h Q=Q (.exit n) vars h:=by
 unfold Wp;simp only[Ip];exact propext ⟨λ⟨_,_,_,_,_,e,q⟩=>by cases e;exact q,λq=>⟨0,0,_,_,_,rfl,q⟩⟩
theorem KB (a:C):Wp p rd (.scope a) vars h Q=Wp p rd a vars h Q:=by
 unfold Wp;simp only[Fp]
theorem YW (its:List It):Wp p rd (.reg its) vars h Q=Vs p its vars [] h (Q .norm):=by
 unfold Wp Vs;simp only[Pz];refine propext ⟨λ⟨N,f,e,v,h',he,q⟩=>?_,λ⟨N,f,v,h',he,q⟩=>⟨N,f,.norm,v,h',by rw[he],q⟩⟩;split at he
 ·rename_i hr;cases he;exact⟨N,f,_,_,hr,q⟩
 ·cases he
def YY (n:Nat)(Q:E->List V->H->Prop):List V->H->Prop:=λvs h'=>Q .norm (vs.take n) h'
theorem VG (n:Nat)(vs:List V)(h':H):YY n Q vs h'=Q .norm (vs.take n) h':=rfl
theorem ZY (k nl:Nat)(its:List AI):Wp p rd (.any k nl its) vars h Q=Xd p h.next its (vars++List.replicate nl .unk) [] {h with next:=h.next+k} (YY vars.length Q):=by
 unfold YY Wp Xd;simp only[Qi];refine propext ⟨λ⟨N,f,e,v,h',he,q⟩=>?_,λ⟨N,f,v,h',he,q⟩=>⟨N,f,.norm,_,h',by rw[he],q⟩⟩;split at he
 ·rename_i hr;cases he;exact⟨N,f,_,_,hr,q⟩
 ·cases he
def Ic (p:Nat->Option Fn)(rd:Option Nat)(b:C)(Q:E->List V->H->Prop):E->List V->H->Prop:=λe vars h=>match e with| .norm=>Wp p rd b vars h Q|e=>Q e vars h
theorem Jy (b:C)(vars:List V)(h:H):Ic p rd b Q .norm vars h=Wp p rd b vars h Q:=rfl
theorem DH (b:C)(vars:List V)(h:H):Ic p rd b Q .ret vars h=Q .ret vars h:=rfl
theorem Zj (b:C)(n:Nat)(vars:List V)(h:H):Ic p rd b Q (.exit n) vars h=Q (.exit n) vars h:=rfl
theorem KI (a b:C):Wp p rd (.seq a b) vars h Q=Wp p rd a vars h (Ic p rd b Q):=by
 refine propext ⟨λ⟨N,f,e,v,h',he,q⟩=>?_,λ⟨N,f,e,v,h1,he,k⟩=>?_⟩
 ·rw[run_seq] at he
  cases hr:run (lZ p N f).1 (lZ p N f).2 N rd a vars h with
  |none=>simp [hr] at he
  |some r=>
   obtain⟨e1,v1,d1,h1⟩:=r;simp only[hr] at he
   cases e1 with
   |norm=>
    simp only at he
    cases hr2:run (lZ p N f).1 (lZ p N f).2 N rd b v1 h1 with
    |none=>simp [hr2] at he
    |some r=>
     obtain⟨e2,v2,d2,h2⟩:=r;simp only[hr2,Option.some.injEq,Prod.mk.injEq] at he;obtain⟨rfl,rfl,hd,rfl⟩:=he;simp only[List.append_eq_nil_iff] at hd;obtain⟨rfl,rfl⟩:=hd;exact⟨N,f,.norm,v1,h1,hr,N,f,_,_,_,hr2,q⟩
   |ret=>simp only at he;cases he;exact⟨N,f,_,_,_,hr,q⟩
   |exit n=>simp only at he;cases he;exact⟨N,f,_,_,_,hr,q⟩
 ·cases e with
  |norm=>
   obtain⟨N2,f2,e2,v2,h2,he2,q⟩:=k;refine⟨max N N2,max f f2,e2,v2,h2,?_,q⟩;have b1:=Yl p (Nat.le_max_left N N2) (Nat.le_max_left f f2);have b2:=Yl p (Nat.le_max_right N N2) (Nat.le_max_right f f2);rw[run_seq,iM b1.1 b1.2 (Nat.le_max_left N N2) _ _ _ _ he];simp only[iM b2.1 b2.2 (Nat.le_max_right N N2) _ _ _ _ he2]
   rfl
  |ret=>exact⟨N,f,_,_,_,by rw[run_seq,he],k⟩
  |exit n=>exact⟨N,f,_,_,_,by rw[run_seq,he],k⟩
theorem YB (x:X)(a b:C):Wp p rd (.ite x a b) vars h Q=Je p rd a b vars h Q (xv vars [] x):=by
 unfold Je Wp;simp only[run_ite]
 cases xv vars [] x with
 |bool t=>cases t<;>rfl
 |_=>exact propext ⟨λ⟨_,_,_,_,_,e,_⟩=>(nomatch e),λh=>h.elim⟩
def uD (id:Nat)(Q:E->List V->H->Prop):E->List V->H->Prop:=λe vars h=>match e with| .exit n=>if n=id then Q .norm vars h else Q (.exit n) vars h|e=>Q e vars h
theorem Uk (id:Nat)(vars:List V)(h:H):uD id Q .norm vars h=Q .norm vars h:=rfl
theorem Wn (id:Nat)(vars:List V)(h:H):uD id Q .ret vars h=Q .ret vars h:=rfl
theorem yD (id:Nat)(vars:List V)(h:H):uD id Q (.exit id) vars h=Q .norm vars h:=if_pos rfl
theorem DB (id n:Nat)(hn:n≠id)(vars:List V)(h:H):uD id Q (.exit n) vars h=Q (.exit n) vars h:=if_neg hn
theorem QC (id:Nat)(a:C):Wp p rd (.block id a) vars h Q=Wp p rd a vars h (uD id Q):=by
 unfold Wp;simp only[Ea];refine propext ⟨λ⟨N,f,e,v,h',he,q⟩=>?_,λ⟨N,f,e,v,h1,he,k⟩=>?_⟩
 ·cases hr:run (lZ p N f).1 (lZ p N f).2 N rd a vars h with
  |none=>simp [hr] at he
  |some r=>
   obtain⟨e1,v1,d1,h1⟩:=r;simp only[hr] at he
   cases e1 with
   |exit n=>
    simp only at he;split at he
    ·rename_i hn;cases he;exact⟨N,f,_,_,_,hr,by simp only[uD];rw[if_pos hn];exact q⟩
    ·rename_i hn;cases he;exact⟨N,f,_,_,_,hr,by simp only[uD];rw[if_neg hn];exact q⟩
   |norm=>simp only at he;cases he;exact⟨N,f,_,_,_,hr,q⟩
   |ret=>simp only at he;cases he;exact⟨N,f,_,_,_,hr,q⟩
 ·cases e with
  |exit n=>
   simp only[uD] at k;split at k
   ·rename_i hn;exact⟨N,f,_,_,_,by rw[he];simp only;rw[if_pos hn],k⟩
   ·rename_i hn;exact⟨N,f,_,_,_,by rw[he];simp only;rw[if_neg hn],k⟩
  |norm=>exact⟨N,f,_,_,_,by rw[he],k⟩
  |ret=>exact⟨N,f,_,_,_,by rw[he],k⟩
def Qp (J:List V->H->Prop)(Q:E->List V->H->Prop):E->List V->H->Prop:=λe vars h=>match e with| .norm=>J vars h|e=>Q e vars h
theorem Sk (J:List V->H->Prop)(vars:List V)(h:H):Qp J Q .norm vars h=J vars h:=rfl
theorem Yn (J:List V->H->Prop)(vars:List V)(h:H):Qp J Q .ret vars h=Q .ret vars h:=rfl
theorem Tz (J:List V->H->Prop)(n:Nat)(vars:List V)(h:H):Qp J Q (.exit n) vars h=Q (.exit n) vars h:=rfl
theorem aI (J:Nat->List V->H->Prop)(k:Nat)(h0:J k vars h)
  (step: ∀k vars h,J k vars h->Wp p rd c vars h (Qp (λv h'=> ∃k',k'<k/\J k' v h') Q)):Wp p rd (.loop c) vars h Q:=by
 have key: ∀k vars h,J k vars h-> ∃N f n e vars' h',yU (run (lZ p N f).1 (lZ p N f).2 N rd c) n vars h=some (e,vars', [],h')/\Q e vars' h':=by
  intro k
  induction k using Nat.strongRecOn with
  |ind k ih=>
   intro vars h hJ;obtain⟨N,f,e,v,h1,he,q⟩:=step k vars h hJ
   cases e with
   |norm=>
    obtain⟨k',hk',hJ'⟩:=q;obtain⟨N2,f2,n,e2,v2,h2,he2,q2⟩:=ih k' hk' v h1 hJ';have b1:=Yl p (Nat.le_max_left N N2) (Nat.le_max_left f f2);have b2:=Yl p (Nat.le_max_right N N2) (Nat.le_max_right f f2);refine⟨max N N2,max f f2,n+1,e2,v2,h2,?_,q2⟩;rw[sX,iM b1.1 b1.2 (Nat.le_max_left N N2) _ _ _ _ he];simp only[xF (λv h r=>iM b2.1 b2.2 (Nat.le_max_right N N2) c v h r) n n (jA _) _ _ _ he2]
    rfl
   |ret=>exact⟨N,f,1,_,_,_,by rw[sX,he],q⟩
   |exit n=>exact⟨N,f,1,_,_,_,by rw[sX,he],q⟩
 obtain⟨N,f,n,e,v,h',he,q⟩:=key k vars h h0
 refine⟨max N n,f,e,v,h',?_,q⟩
 have b:=Yl p (Nat.le_max_left N n) (jA f)
 rw[Iw]
 exact xF (λv h r=>iM b.1 b.2 (Nat.le_max_left N n) c v h r) n (max N n) (Nat.le_max_right N n) _ _ _ he
def HN (id:Nat)(vars:List V)(Q:E->List V->H->Prop):V->H->Prop:=λ_ h'=> ∃r,h'.get id=some (.loop r)/\r.st≠ .busy/\Q (r.pend.getD .norm) vars (h'.set id (some (.loop {r with st:= .out})))
def Ko (p:Nat->Option Fn)(rd:Option Nat)(x:V)(pars:List Nat)(assign body:C)(vars:List V)(h:H)(Q:E->List V->H->Prop):Prop:=
 match x with
 | .fn g fs cs=>CY rd h=true/\Ev p g (fs++ .yl h.next::cs) (h.new (.loop {vars,pars,assign,body,st:= .ready,pend:=none})) (HN h.next vars Q)
 |_=>False
theorem Oe {x x':V}{pars:List Nat}{a b:C}{h:H}(e0:x=x')(e1:v=v')(e2:h=h'):Ko p rd x pars a b v h Q=Ko p rd x' pars a b v' h' Q:=by rw[e0,e1,e2]
theorem FU (g:Nat)(fs cs:List V)(pars:List Nat)(assign body:C):Ko p rd (.fn g fs cs) pars assign body vars h Q=(CY rd h=true/\Ev p g (fs++ .yl h.next::cs) (h.new (.loop {vars,pars,assign,body,st:= .ready,pend:=none})) (HN h.next vars Q)):=rfl
theorem JX (x:X)(pars:List Nat)(a b:C):Wp p rd (.range x pars a b) vars h Q=Ko p rd (xv vars [] x) pars a b vars h Q:=by
 unfold Wp Ko;simp only[Fq,yN]
 cases xv vars [] x with
 |fn g fs cs=>
  simp only;refine propext ⟨λ⟨N,f,e,v,h',he,q⟩=>?_,λ⟨ho,N,f,v,h',he,r,hg,hb,q⟩=>?_⟩
  ·split at he
   ·rename_i ho
    refine⟨ho,?_⟩;split at he
    ·rename_i v1 h1 hc
     split at he
     ·rename_i r hg
      split at he
      ·cases he
      ·rename_i hb
       cases he;exact⟨N,f,v1,h1,hc,r,hg,hb,q⟩
     ·cases he
    ·cases he
   ·cases he
  ·refine⟨N,f,_,_,_,?_,q⟩
   rw[if_pos ho];simp only[he,hg];rw[if_neg hb]
 |_=>exact propext ⟨λ⟨_,_,_,_,_,e,_⟩=>(nomatch e),λh=>h.elim⟩
def RN (Q:V->H->Prop)(h:H):List V->Prop:=λvs=>Q (Eh vs) h
theorem VY (Q:V->H->Prop)(h:H)(vs:List V):RN Q h vs=Q (Eh vs) h:=rfl
def HT (results:List Rv)(Q:V->H->Prop):E->List V->H->Prop:=λe vars h=>match e with
 | .exit _=>False
 |_=>mG (cE (results.map (Ac vars h))) (RN Q h)
theorem CP (results:List Rv)(Q:V->H->Prop)(vars:List V)(h:H):HT results Q .norm vars h=mG (cE (results.map (Ac vars h))) (RN Q h):=rfl
theorem PX (results:List Rv)(Q:V->H->Prop)(vars:List V)(h:H):HT results Q .ret vars h=mG (cE (results.map (Ac vars h))) (RN Q h):=rfl
theorem Gq {fn:Fn}{h:H}{Q:V->H->Prop}(hg:p g=some fn)(hl:args.length=fn.nargs)(hw:Wp p none fn.body (Ag fn args) h (HT fn.results Q)):Ev p g args h Q:=by
 obtain⟨N,f,e,v,h',he,q⟩:=hw
 cases e with
 |exit n=>exact q.elim
 |norm=>
  obtain⟨vs,hv,q⟩:=q;refine⟨N,f+1,Eh vs,h',?_,q⟩;rw[qH];simp only[yF,hg,hl,if_true,he,vX,hv,Option.map_some]
 |ret=>
  obtain⟨vs,hv,q⟩:=q;refine⟨N,f+1,Eh vs,h',?_,q⟩;rw[qH];simp only[yF,hg,hl,if_true,he,vX,hv,Option.map_some]
def Ij (id:Nat)(Q:V->H->Prop):E->List V->H->Prop:=λe _ h=> ∃r3,h.get id=some (.loop r3)/\(match e with
 | .norm=>Q (.bool true) (h.set id (some (.loop {r3 with st:= .ready,pend:=none})))
 |e=>Q (.bool false) (h.set id (some (.loop {r3 with st:= .done,pend:=some e}))))
theorem abW {id:Nat}{h:H}{Q:V->H->Prop}{r:gX}(hr:h.get id=some (.loop r))(hl:args.length=r.pars.length)
  (hw:Wp p (some id) r.assign ((r.pars.zip args).foldl (λvs q=>vs.set q.1 q.2) r.vars) h λe vars h1=>e= .norm/\ ∃r2,h1.get id=some (.loop r2)/\r2.st= .ready/\
   Wp p (some id) r.body vars (h1.set id (some (.loop {r2 with st:= .busy}))) (Ij id Q)):Ey p id args h Q:=by
 obtain⟨N,f,e,v,h1,he,rfl,r2,hr2,jG,N2,f2,e2,v2,h2,he2,r3,hr3,q⟩:=hw
 have b1:=Yl p (show N<=max N N2 by omega) (show f<=max f f2 by omega)
 have b2:=Yl p (show N2<=max N N2 by omega) (show f2<=max f f2 by omega)
 cases e2 with
 |norm=>
  refine⟨max N N2,max f f2+1,.bool true,_,?_,q⟩;rw[qH];simp only[uT,hr,hl,if_true,iM b1.1 b1.2 (show N<=max N N2 by omega) _ _ _ _ he,hr2,jG,iM b2.1 b2.2 (show N2<=max N N2 by omega) _ _ _ _ he2,hr3]
 |ret=>
  refine⟨max N N2,max f f2+1,.bool false,_,?_,q⟩;rw[qH];simp only[uT,hr,hl,if_true,iM b1.1 b1.2 (show N<=max N N2 by omega) _ _ _ _ he,hr2,jG,iM b2.1 b2.2 (show N2<=max N N2 by omega) _ _ _ _ he2,hr3]
 |exit n=>
  refine⟨max N N2,max f f2+1,.bool false,_,?_,q⟩;rw[qH];simp only[uT,hr,hl,if_true,iM b1.1 b1.2 (show N<=max N N2 by omega) _ _ _ _ he,hr2,jG,iM b2.1 b2.2 (show N2<=max N N2 by omega) _ _ _ _ he2,hr3]
end
end
end Go.Ay
