/- The abstract machine, by weakest preconditions. -/
import Derived.Test.YtapfcpkecmmagaaGreatAy22
namespace Go.Ay
section
variable {g:Nat} {args a' v v':List V} {R:V->H->Prop} {c:C} {h':H}
def jS {α:Type}(o:Option α)(K:α->Prop):Prop:= ∃a,o=some a/\K a
theorem Ju {α:Type}(a:α)(K:α->Prop):jS (some a) K=K a:=propext ⟨λ⟨_,h,k⟩=>by cases h;exact k,λk=>⟨a,rfl,k⟩⟩
theorem Gy {α:Type}{o a:Option α}{K:α->Prop}(h:o=a):jS o K=jS a K:=by rw[h]
section
variable (p:Nat->Option Fn)
def Ev (g:Nat)(args:List V)(h:H)(Q:V->H->Prop):Prop:= ∃N f v h',(iO p N f).1 g args h=some (v,h')/\Q v h'
def Ey (id:Nat)(args:List V)(h:H)(Q:V->H->Prop):Prop:= ∃N f v h',(iO p N f).2 id args h=some (v,h')/\Q v h'
def Dk (vars loc:List V)(h:H)(a:dV)(Q:V->H->Prop):Prop:= ∃N f v h',jC (iO p N f).1 (iO p N f).2 vars loc h a=some (v,h')/\Q v h'
def Ld (its:List It)(vars loc:List V)(h:H)(Q:List V->H->Prop):Prop:= ∃N f vars' h',oK (iO p N f).1 (iO p N f).2 its vars loc h=some (vars',h')/\Q vars' h'
def Mx (base:Nat)(xs:List AI)(vars:List V)(log:Log)(h:H)(Q:List V->H->Prop):Prop:= ∃N f vars' h',pI (iO p N f).1 (iO p N f).2 base xs vars log h=some (vars',h')/\Q vars' h'
def Wp (rd:Option Nat)(c:C)(vars:List V)(h:H)(Q:E->List V->H->Prop):Prop:=
 ∃N f e vars' h',run (iO p N f).1 (iO p N f).2 N rd c vars h=some (e,vars', [],h')/\Q e vars' h'
variable {p}
theorem Ev.mono {h:H}{Q:V->H->Prop}(e:Ev p g args h Q)(k: ∀v h',Q v h'->R v h'):Ev p g args h R:=by
 obtain⟨N,f,v,h',e,q⟩:=e;exact⟨N,f,v,h',e,k _ _ q⟩
theorem Ey.mono {id:Nat}{h:H}{Q:V->H->Prop}(e:Ey p id args h Q)(k: ∀v h',Q v h'->R v h'):Ey p id args h R:=by
 obtain⟨N,f,v,h',e,q⟩:=e;exact⟨N,f,v,h',e,k _ _ q⟩
theorem Wp.mono {rd:Option Nat}{b:List V}{h:H}{Q R:E->List V->H->Prop}(e:Wp p rd c b h Q)(k: ∀e v h',Q e v h'->R e v h'):Wp p rd c b h R:=by
 obtain⟨N,f,a,v,h',e,q⟩:=e;exact⟨N,f,a,v,h',e,k _ _ _ q⟩
theorem Ld.mono {d:List It}{a b:List V}{h:H}{Q R:List V->H->Prop}(e:Ld p d a b h Q)(k: ∀v h',Q v h'->R v h'):Ld p d a b h R:=by
 obtain⟨N,f,v,h',e,q⟩:=e;exact⟨N,f,v,h',e,k _ _ q⟩
theorem Uu {a:List V}{h:H}{Q:V->H->Prop}(e1:a=a')(b:h=h'):Ev p g a h Q=Ev p g a' h' Q:=by rw[e1,b]
theorem Vi {a:List V}{h:H}{Q:V->H->Prop}(e1:a=a')(b:h=h'):Ey p g a h Q=Ey p g a' h' Q:=by rw[e1,b]
theorem Rj {a:dV}{l b:List V}{h:H}{Q:V->H->Prop}(e1:v=v')(e:l=b)(d:h=h'):Dk p v l h a Q=Dk p v' b h' a Q:=by rw[e1,d,e]
theorem Re {a:List It}{l b:List V}{h:H}{Q:List V->H->Prop}(e1:v=v')(e:l=b)(d:h=h'):Ld p a v l h Q=Ld p a v' b h' Q:=by rw[e1,d,e]
theorem Te {base a:Nat}{xs:List AI}{l:Log}{h:H}{Q:List V->H->Prop}(b:base=a)(e1:v=v')(d:h=h'):Mx p base xs v l h Q=Mx p a xs v' l h' Q:=by rw[b,e1,d]
theorem Ws {rd:Option Nat}{h:H}{Q:E->List V->H->Prop}(e1:v=v')(a:h=h'):Wp p rd c v h Q=Wp p rd c v' h' Q:=by rw[e1,a]
def Av (p:Nat->Option Fn)(rd:Option Nat)(a b:C)(vars:List V)(h:H)(Q:E->List V->H->Prop)(v:V):Prop:=match v with| .bool true=>Wp p rd a vars h Q| .bool false=>Wp p rd b vars h Q|_=>False
section
variable {rd:Option Nat} {a b:C} {vars:List V} {h:H} {Q:E->List V->H->Prop}
theorem Mk {v v':V}(e:v=v'):Av p rd a b vars h Q v=Av p rd a b vars h Q v':=by rw[e]
theorem Qk:Av p rd a b vars h Q (.bool true)=Wp p rd a vars h Q:=rfl
theorem Lm:Av p rd a b vars h Q (.bool false)=Wp p rd b vars h Q:=rfl
theorem bB {P:Prop}[Decidable P](x:P->Wp p rd a vars h Q)(y: ¬P->Wp p rd b vars h Q):Av p rd a b vars h Q (.bool (decide P)):=by
 by_cases h:P
 ·rw[decide_eq_true h];exact x h
 ·rw[decide_eq_false h];exact y h
theorem Xc {t:Bool}:Av p rd a b vars h Q (.bool (!t))=Av p rd b a vars h Q (.bool t):=by cases t<;>rfl
end
def GK (K:V->H->Prop):V×H->Prop:=λr=>K r.1 r.2
theorem DP (K:V->H->Prop)(v:V)(h:H):GK K (v,h)=K v h:=rfl
def Wk (p:Nat->Option Fn)(d:D)(its:List It)(vars loc:List V)(Q:List V->H->Prop):V->H->Prop:=λv h'=>Ld p its (jI d vars loc v).1 (jI d vars loc v).2 h' Q
theorem BN (d:D)(f:List It)(vars e:List V)(Q:List V->H->Prop)(v:V)(h':H):Wk p d f vars e Q v h'=Ld p f (jI d vars e v).1 (jI d vars e v).2 h' Q:=rfl
def Ip (p:Nat->Option Fn)(d:D)(a:dV)(its:List It)(vars loc:List V)(h:H)(Q:List V->H->Prop)(w:Bool):Prop:=match w with
 |true=>Dk p vars loc h a (Wk p d its vars loc Q)
 |false=>Ld p its (jI d vars loc .undef).1 (jI d vars loc .undef).2 h Q
section
variable {d:D} {a:dV} {its:List It} {vars loc:List V} {h:H} {Q:List V->H->Prop}
theorem Hw {v v':Bool}(e:v=v'):Ip p d a its vars loc h Q v=Ip p d a its vars loc h Q v':=by rw[e]
theorem Mh:Ip p d a its vars loc h Q true=Dk p vars loc h a (Wk p d its vars loc Q):=rfl
theorem Km:Ip p d a its vars loc h Q false=Ld p its (jI d vars loc .undef).1 (jI d vars loc .undef).2 h Q:=rfl
end
def Gu (p:Nat->Option Fn)(base:Nat)(x:AI)(xs:List AI)(vars:List V)(log:Log)(Q:List V->H->Prop):V->H->Prop:=λv h'=>lX x.cks log h'=true/\Mx p base xs (jI x.it.d vars [] v).1 (zC x vars v log) h' Q
theorem Zh (base i:Nat)(d:D)(g:Option (X×Bool))(a:dV)(al:Bool)(cks:List Nat)(xs:List AI)(vars:List V)(e:Log)(Q:List V->H->Prop)(v:V)(h':H):Gu p base ⟨i,⟨d,g,a⟩,al,cks⟩ xs vars e Q v h'=(lX cks e h'=true/\Mx p base xs (jI d vars [] v).1 (zC ⟨i,⟨d,g,a⟩,al,cks⟩ vars v e) h' Q):=rfl
def Ek (p:Nat->Option Fn)(base i:Nat)(d:D)(x:X)(b:Bool)(a:dV)(al:Bool)(cks:List Nat)(xs:List AI)(vars:List V)(log:Log)(h:H)(Q:List V->H->Prop)(w:Bool):Prop:=match w,al with
 |true,true=>jS (Bg vars h (base+i) a) (GK (Gu p base ⟨i,⟨d,some (x,b),a⟩,true,cks⟩ xs vars log Q))
 |true,false=>Dk p vars [] h a (Gu p base ⟨i,⟨d,some (x,b),a⟩,false,cks⟩ xs vars log Q)
 |false,_=>lX cks log h=true/\Mx p base xs (jI d vars [] .undef).1 log h Q
section
variable {base i:Nat} {d:D} {x:X} {b al:Bool} {a:dV} {cks:List Nat} {xs:List AI} {vars:List V} {log:Log} {h:H} {Q:List V->H->Prop}
theorem Ji {v v':Bool}(e:v=v'):Ek p base i d x b a al cks xs vars log h Q v=Ek p base i d x b a al cks xs vars log h Q v':=by rw[e]
theorem Wi:Ek p base i d x b a true cks xs vars log h Q true=jS (Bg vars h (base+i) a) (GK (Gu p base ⟨i,⟨d,some (x,b),a⟩,true,cks⟩ xs vars log Q)):=rfl
theorem Ui:Ek p base i d x b a false cks xs vars log h Q true=Dk p vars [] h a (Gu p base ⟨i,⟨d,some (x,b),a⟩,false,cks⟩ xs vars log Q):=rfl
theorem Zj:Ek p base i d x b a al cks xs vars log h Q false=(lX cks log h=true/\Mx p base xs (jI d vars [] .undef).1 log h Q):=rfl
end
theorem zA (p:Nat->Option Fn){N j f e:Nat}(k:N<=j)(h2:f<=e):Le (iO p N f).1 (iO p j e).1/\Le (iO p N f).2 (iO p j e).2:=Il p k f e h2
theorem EY (vars loc:List V)(h:H)(i:I)(Q:V->H->Prop):Dk p vars loc h (.op i) Q=jS (cZ (xv vars loc) h i) (GK Q):=by
 unfold Dk jS;refine propext ⟨λ⟨N,f,v,h',e,q⟩=>⟨(v,h'),by rw[nG] at e;exact e,q⟩,λ⟨r,e,q⟩=>⟨0,0,r.1,r.2,by rw[nG];exact e,q⟩⟩
theorem Ug (vars loc:List V)(h:H)(g:Nat)(args:List X)(Q:V->H->Prop):Dk p vars loc h (.call g args) Q=Ev p g (args.map (xv vars loc)) h Q:=by
 unfold Dk Ev;simp only[mW]
def tD (p:Nat->Option Fn)(x:V)(args:List V)(h:H)(Q:V->H->Prop):Prop:=match x with
 | .fn g fs cs=>Ev p g (fs++args++cs) h Q
 | .yl id=>Ey p id args h Q
 |_=>False
theorem tD.mono {x:V}{h:H}{Q:V->H->Prop}(e:tD p x args h Q)(k: ∀v h',Q v h'->R v h'):tD p x args h R:=by
 unfold tD at*;split at e
 ·exact e.mono k
 ·exact e.mono k
 ·exact e.elim
theorem Is {x e:V}{a:List V}{h:H}{Q:V->H->Prop}(f:x=e)(e1:a=a')(j:h=h'):tD p x a h Q=tD p e a' h' Q:=by rw[f,e1,j]
theorem Vg (g:Nat)(e f args:List V)(h:H)(Q:V->H->Prop):tD p (.fn g e f) args h Q=Ev p g (e++args++f) h Q:=rfl
theorem We (id:Nat)(args:List V)(h:H)(Q:V->H->Prop):tD p (.yl id) args h Q=Ey p id args h Q:=rfl
theorem Sn (vars loc:List V)(h:H)(x:X)(args:List X)(Q:V->H->Prop):Dk p vars loc h (.callv x args) Q=tD p (xv vars loc x) (args.map (xv vars loc)) h Q:=by
 unfold Dk;simp only[mC];unfold tD;cases xv vars loc x<;>simp [Ev,Ey]
def Hi (p:Nat->Option Fn)(g t:Nat)(x:V)(args:List V)(h:H)(Q:V->H->Prop):Prop:=match x with
 | .ifc u v=>u=t/\Ev p g (v::args) h Q
 |_=>False
theorem Mg (g t:Nat)(v:V)(args:List V)(h:H)(Q:V->H->Prop):Hi p g t (.ifc t v) args h Q=Ev p g (v::args) h Q:=by
 simp [Hi]
theorem Sb (vars loc:List V)(h:H)(g t:Nat)(x:X)(args:List X)(Q:V->H->Prop):Dk p vars loc h (.calli g t x args) Q=Hi p g t (xv vars loc x) (args.map (xv vars loc)) h Q:=by
 unfold Dk;simp only[mB];unfold Hi;cases xv vars loc x<;>simp only[reduceCtorEq,false_and,exists_false];rename_i u v
 by_cases e:u=t
 ·subst e
  simp [Ev]
 ·have:Nat.beq u t=false:=by
   cases hq:Nat.beq u t with
   |false=>rfl
   |true=>exact absurd (Nat.eq_of_beq_eq_true hq) e
  simp [this,e]
def Hg (p:Nat->Option Fn)(g:Nat)(vs:List V)(h:H)(Q:V->H->Prop):Prop:=vs.all V.xP=true/\Ev p g vs ⟨.lf,0⟩ (λv _=>v.xP=true/\Q v h)
theorem Tl (vars loc:List V)(h:H)(g:Nat)(args:List X)(Q:V->H->Prop):Dk p vars loc h (.callp g args) Q=Hg p g (args.map (xv vars loc)) h Q:=by
 unfold Dk Hg Ev;refine propext ⟨λ⟨N,f,v,h',e,q⟩=>?_,λ⟨j,N,f,v,h',e,k,q⟩=>⟨N,f,v,h,?_,q⟩⟩
 ·rw[jG] at e
  obtain⟨rfl,j,k,m,l⟩:=qJ e;exact⟨j,N,f,v,m,l,k,q⟩
 ·rw[jG]
  unfold yA;simp only[j,e,k,cond_true]
theorem Hg.intro {vs:List V}{h:H}{Q:V->H->Prop}(e:Ev p g vs ⟨.lf,0⟩ R)(f:vs.all V.xP=true)(k: ∀v h',R v h'->v.xP=true/\Q v h):Hg p g vs h Q:=⟨f,e.mono k⟩
theorem BO (vars loc:List V)(h:H)(Q:List V->H->Prop):Ld p [] vars loc h Q=Q vars h:=by
 unfold Ld;refine propext ⟨λ⟨N,f,v,h',e,q⟩=>?_,λq=>⟨0,0,vars,h,rfl,q⟩⟩;rw[xA] at e;cases e;exact q
theorem Xo (d:D)(a:dV)(its:List It)(vars loc:List V)(h:H)(Q:List V->H->Prop):
  Ld p (⟨d,none,a⟩::its) vars loc h Q=Dk p vars loc h a (Wk p d its vars loc Q):=by
 unfold Wk Ld Dk
 refine propext ⟨λ⟨N,f,v,h',e,q⟩=>?_,λ⟨N,f,v,j,e,N2,f2,vars',h',e2,q⟩=>?_⟩
 ·rw[kC] at e
  simp only[fK] at e
  split at e
  ·rename_i m j n
   exact⟨N,f,m,j,n,N,f,v,h',e,q⟩
  ·cases e
 ·refine⟨max N N2,max f f2,vars',h',?_,q⟩
  rw[kC]
  have k:=zA p (Nat.le_max_left N N2) (Nat.le_max_left f f2)
  have l:=zA p (Nat.le_max_right N N2) (Nat.le_max_right f f2)
  simp only[fK,lM k.1 k.2 e]
  exact lH l.1 l.2 _ _ _ _ _ e2
theorem Sr (d:D)(x:X)(b:Bool)(a:dV)(its:List It)(vars loc:List V)(h:H)(Q:List V->H->Prop):
  Ld p (⟨d,some (x,b),a⟩::its) vars loc h Q=jS (fK vars loc (some (x,b))) (Ip p d a its vars loc h Q):=by
 unfold jS
 refine propext ⟨λ⟨N,f,v,h',e,q⟩=>?_,λ⟨w,l,k⟩=>?_⟩
 ·rw[kC] at e
  split at e
  ·rename_i l
   refine⟨true,l,?_⟩
   split at e
   ·rename_i y s t
    exact⟨N,f,y,s,t,N,f,v,h',e,q⟩
   ·cases e
  ·rename_i l
   exact⟨false,l,N,f,v,h',e,q⟩
  ·cases e
 ·cases w with
  |true=>
   obtain⟨N,f,v,s,e,m,n,j,h',u,q⟩:=k;refine⟨max N m,max f n,j,h',?_,q⟩;rw[kC];have o:=zA p (Nat.le_max_left N m) (Nat.le_max_left f n);have r:=zA p (Nat.le_max_right N m) (Nat.le_max_right f n);simp only[l,lM o.1 o.2 e];exact lH r.1 r.2 _ _ _ _ _ u
  |false=>
   obtain⟨N,f,v,h',e,q⟩:=k;refine⟨N,f,v,h',?_,q⟩;rw[kC];simp only[l];exact e
theorem Zx (base:Nat)(vars:List V)(log:Log)(h:H)(Q:List V->H->Prop):Mx p base [] vars log h Q=Q vars h:=by
 unfold Mx;refine propext ⟨λ⟨N,f,v,h',e,q⟩=>?_,λq=>⟨0,0,vars,h,rfl,q⟩⟩;rw[wZ] at e;cases e;exact q
theorem Ye (base i:Nat)(d:D)(a:dV)(cks:List Nat)(xs:List AI)(vars:List V)(log:Log)(h:H)(Q:List V->H->Prop):
  Mx p base (⟨i,⟨d,none,a⟩,false,cks⟩::xs) vars log h Q=Dk p vars [] h a (Gu p base ⟨i,⟨d,none,a⟩,false,cks⟩ xs vars log Q):=by
 unfold Gu Mx Dk
 refine propext ⟨λ⟨N,f,v,h',e,q⟩=>?_,λ⟨N,f,v,k,e,j,N2,f2,vars',h',e2,q⟩=>?_⟩
 ·rw[iB] at e
  simp only[fK,Bool.false_eq_true,if_false] at e
  split at e
  ·rename_i n k o
   split at e
   ·rename_i j
    exact⟨N,f,n,k,o,j,N,f,v,h',e,q⟩
   ·cases e
  ·cases e
 ·refine⟨max N N2,max f f2,vars',h',?_,q⟩
  rw[iB]
  have l:=zA p (Nat.le_max_left N N2) (Nat.le_max_left f f2)
  have m:=zA p (Nat.le_max_right N N2) (Nat.le_max_right f f2)
  simp only[fK,Bool.false_eq_true,if_false,lM l.1 l.2 e,j,if_true]
  exact mV m.1 m.2 _ _ _ _ _ e2
theorem Qt (base i:Nat)(d:D)(a:dV)(cks:List Nat)(xs:List AI)(vars:List V)(log:Log)(h:H)(Q:List V->H->Prop):
  Mx p base (⟨i,⟨d,none,a⟩,true,cks⟩::xs) vars log h Q=jS (Bg vars h (base+i) a) (GK (Gu p base ⟨i,⟨d,none,a⟩,true,cks⟩ xs vars log Q)):=by
 unfold GK Gu Mx jS
 refine propext ⟨λ⟨N,f,v,h',e,q⟩=>?_,λ⟨r,e,j,N2,f2,vars',h',e2,q⟩=>?_⟩
 ·rw[iB] at e
  simp only[fK,if_true] at e
  split at e
  ·rename_i l k m
   split at e
   ·rename_i j
    exact⟨(l,k),m,j,N,f,v,h',e,q⟩
   ·cases e
  ·cases e
 ·refine⟨N2,f2,vars',h',?_,q⟩
  rw[iB]
  obtain⟨v,k⟩:=r
  simp only[fK,if_true,e,j]
  exact e2
theorem Tc (base i:Nat)(d:D)(x:X)(b:Bool)(a:dV)(al:Bool)(cks:List Nat)(xs:List AI)(vars:List V)(log:Log)(h:H)(Q:List V->H->Prop):
  Mx p base (⟨i,⟨d,some (x,b),a⟩,al,cks⟩::xs) vars log h Q=jS (fK vars [] (some (x,b))) (Ek p base i d x b a al cks xs vars log h Q):=by
 unfold jS
 refine propext ⟨λ⟨N,f,v,h',e,q⟩=>?_,λ⟨w,o,k⟩=>?_⟩
 ·rw[iB] at e
  split at e
  ·rename_i o
   refine⟨true,o,?_⟩
   cases al with
   |true=>
    simp only[if_true] at e;split at e
    ·rename_i u s t
     split at e
     ·rename_i l
      exact⟨(u,s),t,l,N,f,v,h',e,q⟩
     ·cases e
    ·cases e
   |false=>
    simp only[Bool.false_eq_true,if_false] at e;split at e
    ·rename_i u s t
     split at e
     ·rename_i l
      exact⟨N,f,u,s,t,l,N,f,v,h',e,q⟩
     ·cases e
    ·cases e
  ·rename_i o
   split at e
   ·rename_i l
    exact⟨false,o,l,N,f,v,h',e,q⟩
   ·cases e
  ·cases e
 ·cases w with
  |true=>
   cases al with
   |true=>
    obtain⟨⟨v,s⟩,e,l,m,n,j,h',r,q⟩:=k;refine⟨m,n,j,h',?_,q⟩;rw[iB];simp only[o,if_true,e,l];exact r
   |false=>
    obtain⟨N,f,v,s,e,l,m,n,j,h',r,q⟩:=k;refine⟨max N m,max f n,j,h',?_,q⟩;rw[iB];have y:=zA p (Nat.le_max_left N m) (Nat.le_max_left f n);have z:=zA p (Nat.le_max_right N m) (Nat.le_max_right f n);simp only[o,Bool.false_eq_true,if_false,lM y.1 y.2 e,l,if_true];exact mV z.1 z.2 _ _ _ _ _ r
  |false=>
   obtain⟨l,m,n,j,h',r,q⟩:=k;refine⟨m,n,j,h',?_,q⟩;rw[iB];simp only[o,l,if_true];exact r
variable {rd:Option Nat} {vars:List V} {h:H} {Q:E->List V->H->Prop}
theorem Zw:Wp p rd .skip vars h Q=Q .norm vars h:=by
 unfold Wp;simp only[uL];exact propext ⟨λ⟨_,_,_,_,_,e,q⟩=>by cases e;exact q,λq=>⟨0,0,_,_,_,rfl,q⟩⟩
theorem EB:Wp p rd .ret vars h Q=Q .ret vars h:=by
 unfold Wp;simp only[Fv];exact propext ⟨λ⟨_,_,_,_,_,e,q⟩=>by cases e;exact q,λq=>⟨0,0,_,_,_,rfl,q⟩⟩
theorem Zm (n:Nat):Wp p rd (.exit n) vars h Q=Q (.exit n) vars h:=by
 unfold Wp;simp only[Cd];exact propext ⟨λ⟨_,_,_,_,_,e,q⟩=>by cases e;exact q,λq=>⟨0,0,_,_,_,rfl,q⟩⟩
theorem Vy (a:C):Wp p rd (.scope a) vars h Q=Wp p rd a vars h Q:=by
 unfold Wp;simp only[wV]
theorem DC (its:List It):Wp p rd (.reg its) vars h Q=Ld p its vars [] h (Q .norm):=by
 unfold Wp Ld;simp only[Gf];refine propext ⟨λ⟨N,f,e,v,h',he,q⟩=>?_,λ⟨N,f,v,h',he,q⟩=>⟨N,f,.norm,v,h',by rw[he],q⟩⟩;split at he
 ·rename_i j;cases he;exact⟨N,f,_,_,j,q⟩
 ·cases he
def EJ (n:Nat)(Q:E->List V->H->Prop):List V->H->Prop:=λvs h'=>Q .norm (vs.take n) h'
theorem CN (n:Nat)(vs:List V)(h':H):EJ n Q vs h'=Q .norm (vs.take n) h':=rfl
theorem EX (k j:Nat)(its:List AI):Wp p rd (.any k j its) vars h Q=Mx p h.next its (vars++List.replicate j .unk) [] {h with next:=h.next+k} (EJ vars.length Q):=by
 unfold EJ Wp Mx;simp only[Hk];refine propext ⟨λ⟨N,f,e,v,h',he,q⟩=>?_,λ⟨N,f,v,h',he,q⟩=>⟨N,f,.norm,_,h',by rw[he],q⟩⟩;split at he
 ·rename_i l;cases he;exact⟨N,f,_,_,l,q⟩
 ·cases he
def Ah (p:Nat->Option Fn)(rd:Option Nat)(b:C)(Q:E->List V->H->Prop):E->List V->H->Prop:=λe vars h=>match e with| .norm=>Wp p rd b vars h Q|e=>Q e vars h
theorem Bc (b:C)(vars:List V)(h:H):Ah p rd b Q .norm vars h=Wp p rd b vars h Q:=rfl
theorem Qg (b:C)(vars:List V)(h:H):Ah p rd b Q .ret vars h=Q .ret vars h:=rfl
theorem Lq (b:C)(n:Nat)(vars:List V)(h:H):Ah p rd b Q (.exit n) vars h=Q (.exit n) vars h:=rfl
theorem Vu (a b:C):Wp p rd (.seq a b) vars h Q=Wp p rd a vars h (Ah p rd b Q):=by
 refine propext ⟨λ⟨N,f,e,v,h',he,q⟩=>?_,λ⟨N,f,e,v,j,he,k⟩=>?_⟩
 ·rw[run_seq] at he
  cases hr:run (iO p N f).1 (iO p N f).2 N rd a vars h with
  |none=>simp [hr] at he
  |some r=>
   obtain⟨u,m,w,j⟩:=r;simp only[hr] at he
   cases u with
   |norm=>
    simp only at he
    cases hr2:run (iO p N f).1 (iO p N f).2 N rd b m j with
    |none=>simp [hr2] at he
    |some r=>
     obtain⟨o,t,u,s⟩:=r;simp only[hr2,Option.some.injEq,Prod.mk.injEq] at he;obtain⟨rfl,rfl,l,rfl⟩:=he;simp only[List.append_eq_nil_iff] at l;obtain⟨rfl,rfl⟩:=l;exact⟨N,f,.norm,m,j,hr,N,f,_,_,_,hr2,q⟩
   |ret=>simp only at he;cases he;exact⟨N,f,_,_,_,hr,q⟩
   |exit n=>simp only at he;cases he;exact⟨N,f,_,_,_,hr,q⟩
 ·cases e with
  |norm=>
   obtain⟨j,l,o,t,s,m,q⟩:=k;refine⟨max N j,max f l,o,t,s,?_,q⟩;have o:=zA p (Nat.le_max_left N j) (Nat.le_max_left f l);have q:=zA p (Nat.le_max_right N j) (Nat.le_max_right f l);rw[run_seq,eY o.1 o.2 (Nat.le_max_left N j) _ _ _ _ he];simp only[eY q.1 q.2 (Nat.le_max_right N j) _ _ _ _ m]
   rfl
  |ret=>exact⟨N,f,_,_,_,by rw[run_seq,he],k⟩
  |exit n=>exact⟨N,f,_,_,_,by rw[run_seq,he],k⟩
theorem FU (x:X)(a b:C):Wp p rd (.ite x a b) vars h Q=Av p rd a b vars h Q (xv vars [] x):=by
 unfold Av Wp;simp only[run_ite]
 cases xv vars [] x with
 |bool t=>cases t<;>rfl
 |_=>exact propext ⟨λ⟨_,_,_,_,_,e,_⟩=>(nomatch e),λh=>h.elim⟩
def oZ (id:Nat)(Q:E->List V->H->Prop):E->List V->H->Prop:=λe vars h=>match e with| .exit n=>if n=id then Q .norm vars h else Q (.exit n) vars h|e=>Q e vars h
theorem Kv (id:Nat)(vars:List V)(h:H):oZ id Q .norm vars h=Q .norm vars h:=rfl
theorem Nr (id:Nat)(vars:List V)(h:H):oZ id Q .ret vars h=Q .ret vars h:=rfl
theorem rJ (id:Nat)(vars:List V)(h:H):oZ id Q (.exit id) vars h=Q .norm vars h:=aV rfl
theorem Sq (id n:Nat)(e:n≠id)(vars:List V)(h:H):oZ id Q (.exit n) vars h=Q (.exit n) vars h:=aZ e
theorem Vr (id:Nat)(a:C):Wp p rd (.block id a) vars h Q=Wp p rd a vars h (oZ id Q):=by
 unfold Wp;simp only[xN];refine propext ⟨λ⟨N,f,e,v,h',he,q⟩=>?_,λ⟨N,f,e,v,m,he,k⟩=>?_⟩
 ·cases hr:run (iO p N f).1 (iO p N f).2 N rd a vars h with
  |none=>simp [hr] at he
  |some r=>
   obtain⟨l,s,o,m⟩:=r;simp only[hr] at he
   cases l with
   |exit n=>
    simp only at he;split at he
    ·rename_i j;cases he;exact⟨N,f,_,_,_,hr,by simp only[oZ];rw[aV j];exact q⟩
    ·rename_i j;cases he;exact⟨N,f,_,_,_,hr,by simp only[oZ];rw[aZ j];exact q⟩
   |norm=>simp only at he;cases he;exact⟨N,f,_,_,_,hr,q⟩
   |ret=>simp only at he;cases he;exact⟨N,f,_,_,_,hr,q⟩
 ·cases e with
  |exit n=>
   simp only[oZ] at k;split at k
   ·rename_i j;exact⟨N,f,_,_,_,by rw[he];simp only;rw[aV j],k⟩
   ·rename_i j;exact⟨N,f,_,_,_,by rw[he];simp only;rw[aZ j],k⟩
  |norm=>exact⟨N,f,_,_,_,by rw[he],k⟩
  |ret=>exact⟨N,f,_,_,_,by rw[he],k⟩
def Bs (J:List V->H->Prop)(Q:E->List V->H->Prop):E->List V->H->Prop:=λe vars h=>match e with| .norm=>J vars h|e=>Q e vars h
theorem Kg (J:List V->H->Prop)(vars:List V)(h:H):Bs J Q .norm vars h=J vars h:=rfl
theorem Mi (J:List V->H->Prop)(vars:List V)(h:H):Bs J Q .ret vars h=Q .ret vars h:=rfl
theorem Iv (J:List V->H->Prop)(n:Nat)(vars:List V)(h:H):Bs J Q (.exit n) vars h=Q (.exit n) vars h:=rfl
theorem aH (J:Nat->List V->H->Prop)(k:Nat)(A:J k vars h)
  (step: ∀k vars h,J k vars h->Wp p rd c vars h (Bs (λv h'=> ∃k',k'<k/\J k' v h') Q)):Wp p rd (.loop c) vars h Q:=by
 have s: ∀k vars h,J k vars h-> ∃N f n e j h',rZ (run (iO p N f).1 (iO p N f).2 N rd c) n vars h=some (e,j, [],h')/\Q e j h':=by
  intro k
  induction k using Nat.strongRecOn with
  |ind k ih=>
   intro vars h j;obtain⟨N,f,e,v,z,l,q⟩:=step k vars h j
   cases e with
   |norm=>
    obtain⟨k',u,t⟩:=q;obtain⟨j,m,n,y,F,B,o,w⟩:=ih k' u v z t;have t:=zA p (Nat.le_max_left N j) (Nat.le_max_left f m);have u:=zA p (Nat.le_max_right N j) (Nat.le_max_right f m);refine⟨max N j,max f m,n+1,y,F,B,?_,w⟩;rw[jE,eY t.1 t.2 (Nat.le_max_left N j) _ _ _ _ l];simp only[nU (λv h r=>eY u.1 u.2 (Nat.le_max_right N j) c v h r) n n (eS _) _ _ _ o]
    rfl
   |ret=>exact⟨N,f,1,_,_,_,by rw[jE,l],q⟩
   |exit n=>exact⟨N,f,1,_,_,_,by rw[jE,l],q⟩
 obtain⟨N,f,n,e,v,h',l,q⟩:=s k vars h A
 refine⟨max N n,f,e,v,h',?_,q⟩
 have b:=zA p (Nat.le_max_left N n) (eS f)
 rw[nH]
 exact nU (λv h r=>eY b.1 b.2 (Nat.le_max_left N n) c v h r) n (max N n) (Nat.le_max_right N n) _ _ _ l
theorem iJ (e:Wp p rd c vars h (Bs (λv h'=>Wp p rd (.loop c) v h' Q) Q)):Wp p rd (.loop c) vars h Q:=by
 obtain⟨N,f,e,v,j,o,q⟩:=e
 cases e with
 |norm=>
  obtain⟨j,m,r,t,s,l,q⟩:=q;refine⟨max N j+1,max f m,r,t,s,?_,q⟩;have k:=zA p (show N<=max N j+1 by omega) (Nat.le_max_left f m);have s:=zA p (show j<=max N j+1 by omega) (Nat.le_max_right f m);rw[nH,jE,eY k.1 k.2 om _ _ _ _ o];rw[nH] at l;simp only[nU (λv h r=>eY s.1 s.2 (show j<=max N j+1 by omega) c v h r) j (max N j) om _ _ _ l]
  rfl
 |ret=>
  refine⟨N+1,f,_,_,_,?_,q⟩;have k:=zA p (show N<=N+1 by omega) (eS f);rw[nH,jE,eY k.1 k.2 om _ _ _ _ o]
 |exit n=>
  refine⟨N+1,f,_,_,_,?_,q⟩;have k:=zA p (show N<=N+1 by omega) (eS f);rw[nH,jE,eY k.1 k.2 om _ _ _ _ o]
def Ut (id:Nat)(vars:List V)(Q:E->List V->H->Prop):V->H->Prop:=λ_ h'=> ∃r,h'.get id=some (.loop r)/\r.st≠ .busy/\Q (r.pend.getD .norm) vars (h'.set id (some (.loop {r with st:= .out})))
def Bw (p:Nat->Option Fn)(rd:Option Nat)(x:V)(pars:List Nat)(assign body:C)(vars:List V)(h:H)(Q:E->List V->H->Prop):Prop:=
 match x with
 | .fn g fs cs=>Rs rd h=true/\Ev p g (fs++ .yl h.next::cs) (h.new (.loop {vars,pars,assign,body,st:= .ready,pend:=none})) (Ut h.next vars Q)
 |_=>False
theorem Gg {x f:V}{e:List Nat}{a b:C}{h:H}(j:x=f)(e1:v=v')(k:h=h'):Bw p rd x e a b v h Q=Bw p rd f e a b v' h' Q:=by rw[j,e1,k]
theorem Ro (g:Nat)(e f:List V)(pars:List Nat)(assign body:C):Bw p rd (.fn g e f) pars assign body vars h Q=(Rs rd h=true/\Ev p g (e++ .yl h.next::f) (h.new (.loop {vars,pars,assign,body,st:= .ready,pend:=none})) (Ut h.next vars Q)):=rfl
theorem Vk (x:X)(j:List Nat)(a b:C):Wp p rd (.range x j a b) vars h Q=Bw p rd (xv vars [] x) j a b vars h Q:=by
 unfold Wp Bw;simp only[wG,rQ]
 cases xv vars [] x with
 |fn g fs cs=>
  simp only;refine propext ⟨λ⟨N,f,e,v,h',he,q⟩=>?_,λ⟨m,N,f,v,h',he,r,k,l,q⟩=>?_⟩
  ·split at he
   ·rename_i m
    refine⟨m,?_⟩;split at he
    ·rename_i s o n
     split at he
     ·rename_i r k
      split at he
      ·cases he
      ·rename_i l
       cases he;exact⟨N,f,s,o,n,r,k,l,q⟩
     ·cases he
    ·cases he
   ·cases he
  ·refine⟨N,f,_,_,_,?_,q⟩
   rw[aV m];simp only[he,k];rw[aZ l]
 |_=>exact propext ⟨λ⟨_,_,_,_,_,e,_⟩=>(nomatch e),λh=>h.elim⟩
def BP (Q:V->H->Prop)(h:H):List V->Prop:=λvs=>Q (xQ vs) h
theorem AQ (Q:V->H->Prop)(h:H)(vs:List V):BP Q h vs=Q (xQ vs) h:=rfl
def Vs (results:List Rv)(Q:V->H->Prop):E->List V->H->Prop:=λe vars h=>match e with
 | .exit _=>False
 |_=>jS (cV (results.map (sY vars h))) (BP Q h)
theorem Qi (results:List Rv)(Q:V->H->Prop)(vars:List V)(h:H):Vs results Q .norm vars h=jS (cV (results.map (sY vars h))) (BP Q h):=rfl
theorem Xz (results:List Rv)(Q:V->H->Prop)(vars:List V)(h:H):Vs results Q .ret vars h=jS (cV (results.map (sY vars h))) (BP Q h):=rfl
theorem yN {j:Fn}{h:H}{Q:V->H->Prop}(l:p g=some j)(m:args.length=j.nargs)(r:Wp p none j.body (tM j args) h (Vs j.results Q)):Ev p g args h Q:=by
 obtain⟨N,f,e,v,h',o,q⟩:=r
 cases e with
 |exit n=>exact q.elim
 |norm=>
  obtain⟨e,k,q⟩:=q;refine⟨N,f+1,xQ e,h',?_,q⟩;rw[mD];simp only[rN,l,m,if_true,o,pH,k,Option.map_some]
 |ret=>
  obtain⟨e,k,q⟩:=q;refine⟨N,f+1,xQ e,h',?_,q⟩;rw[mD];simp only[rN,l,m,if_true,o,pH,k,Option.map_some]
def Bo (id:Nat)(Q:V->H->Prop):E->List V->H->Prop:=λe _ h=> ∃r3,h.get id=some (.loop r3)/\(match e with
 | .norm=>Q (.bool true) (h.set id (some (.loop {r3 with st:= .ready,pend:=none})))
 |e=>Q (.bool false) (h.set id (some (.loop {r3 with st:= .done,pend:=some e}))))
theorem HB {id:Nat}{h:H}{Q:V->H->Prop}{r:fQ}(u:h.get id=some (.loop r))(w:args.length=r.pars.length)
  (A:Wp p (some id) r.assign ((r.pars.zip args).foldl (λvs q=>vs.set q.1 q.2) r.vars) h λe vars h1=>e= .norm/\ ∃r2,h1.get id=some (.loop r2)/\r2.st= .ready/\
   Wp p (some id) r.body vars (h1.set id (some (.loop {r2 with st:= .busy}))) (Bo id Q)):Ey p id args h Q:=by
 obtain⟨N,f,e,v,h1,y,rfl,r2,k,iA,j,s,z,B,B,l,B,m,q⟩:=A
 have o:=zA p (show N<=max N j by omega) (show f<=max f s by omega)
 have t:=zA p (show j<=max N j by omega) (show s<=max f s by omega)
 cases z with
 |norm=>
  refine⟨max N j,max f s+1,.bool true,_,?_,q⟩;rw[mD];simp only[oY,u,w,if_true,eY o.1 o.2 (show N<=max N j by omega) _ _ _ _ y,k,iA,eY t.1 t.2 (show j<=max N j by omega) _ _ _ _ l,m]
 |ret=>
  refine⟨max N j,max f s+1,.bool false,_,?_,q⟩;rw[mD];simp only[oY,u,w,if_true,eY o.1 o.2 (show N<=max N j by omega) _ _ _ _ y,k,iA,eY t.1 t.2 (show j<=max N j by omega) _ _ _ _ l,m]
 |exit n=>
  refine⟨max N j,max f s+1,.bool false,_,?_,q⟩;rw[mD];simp only[oY,u,w,if_true,eY o.1 o.2 (show N<=max N j by omega) _ _ _ _ y,k,iA,eY t.1 t.2 (show j<=max N j by omega) _ _ _ _ l,m]
end
end
end Go.Ay
