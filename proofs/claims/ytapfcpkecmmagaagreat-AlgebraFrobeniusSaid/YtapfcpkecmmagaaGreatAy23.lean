/- The abstract machine, by weakest preconditions. -/
import Derived.Test.YtapfcpkecmmagaaGreatAy22
namespace Go.Ay
section
variable {g:Nat} {args a' v v':List V} {R:V->H->Prop} {c:C} {h':H}
def iI {α:Type}(o:Option α)(K:α->Prop):Prop:= ∃a,o=some a/\K a
theorem Ct {α:Type}(a:α)(K:α->Prop):iI (some a) K=K a:=propext ⟨λ⟨_,h,k⟩=>by cases h;exact k,λk=>⟨a,rfl,k⟩⟩
theorem zK {α:Type}{o o':Option α}{K:α->Prop}(h:o=o'):iI o K=iI o' K:=by rw[h]
section
variable (p:Nat->Option Fn)
def Ev (g:Nat)(args:List V)(h:H)(Q:V->H->Prop):Prop:= ∃N f v h',(iC p N f).1 g args h=some (v,h')/\Q v h'
def Ey (id:Nat)(args:List V)(h:H)(Q:V->H->Prop):Prop:= ∃N f v h',(iC p N f).2 id args h=some (v,h')/\Q v h'
def yP (vars loc:List V)(h:H)(a:dE)(Q:V->H->Prop):Prop:= ∃N f v h',gO (iC p N f).1 (iC p N f).2 vars loc h a=some (v,h')/\Q v h'
def Du (its:List It)(vars loc:List V)(h:H)(Q:List V->H->Prop):Prop:= ∃N f vars' h',mH (iC p N f).1 (iC p N f).2 its vars loc h=some (vars',h')/\Q vars' h'
def Fz (base:Nat)(xs:List AI)(vars:List V)(log:Log)(h:H)(Q:List V->H->Prop):Prop:= ∃N f vars' h',nH (iC p N f).1 (iC p N f).2 base xs vars log h=some (vars',h')/\Q vars' h'
def Wp (rd:Option Nat)(c:C)(vars:List V)(h:H)(Q:E->List V->H->Prop):Prop:=
 ∃N f e vars' h',run (iC p N f).1 (iC p N f).2 N rd c vars h=some (e,vars', [],h')/\Q e vars' h'
variable {p}
theorem Ev.mono {h:H}{Q:V->H->Prop}(e:Ev p g args h Q)(k: ∀v h',Q v h'->R v h'):Ev p g args h R:=by
 obtain⟨N,f,v,h',e,q⟩:=e;exact⟨N,f,v,h',e,k _ _ q⟩
theorem Ey.mono {id:Nat}{h:H}{Q:V->H->Prop}(e:Ey p id args h Q)(k: ∀v h',Q v h'->R v h'):Ey p id args h R:=by
 obtain⟨N,f,v,h',e,q⟩:=e;exact⟨N,f,v,h',e,k _ _ q⟩
theorem Wp.mono {rd:Option Nat}{vars:List V}{h:H}{Q R:E->List V->H->Prop}(e:Wp p rd c vars h Q)(k: ∀e v h',Q e v h'->R e v h'):Wp p rd c vars h R:=by
 obtain⟨N,f,a,v,h',e,q⟩:=e;exact⟨N,f,a,v,h',e,k _ _ _ q⟩
theorem Du.mono {its:List It}{vars loc:List V}{h:H}{Q R:List V->H->Prop}(e:Du p its vars loc h Q)(k: ∀v h',Q v h'->R v h'):Du p its vars loc h R:=by
 obtain⟨N,f,v,h',e,q⟩:=e;exact⟨N,f,v,h',e,k _ _ q⟩
theorem Qa {a:List V}{h:H}{Q:V->H->Prop}(e1:a=a')(e2:h=h'):Ev p g a h Q=Ev p g a' h' Q:=by rw[e1,e2]
theorem Pu {a:List V}{h:H}{Q:V->H->Prop}(e1:a=a')(e2:h=h'):Ey p g a h Q=Ey p g a' h' Q:=by rw[e1,e2]
theorem Kh {a:dE}{l l':List V}{h:H}{Q:V->H->Prop}(e1:v=v')(e3:l=l')(e2:h=h'):yP p v l h a Q=yP p v' l' h' a Q:=by rw[e1,e2,e3]
theorem Iy {its:List It}{l l':List V}{h:H}{Q:List V->H->Prop}(e1:v=v')(e3:l=l')(e2:h=h'):Du p its v l h Q=Du p its v' l' h' Q:=by rw[e1,e2,e3]
theorem Jr {base base':Nat}{xs:List AI}{l:Log}{h:H}{Q:List V->H->Prop}(e0:base=base')(e1:v=v')(e2:h=h'):Fz p base xs v l h Q=Fz p base' xs v' l h' Q:=by rw[e0,e1,e2]
theorem Mj {rd:Option Nat}{h:H}{Q:E->List V->H->Prop}(e1:v=v')(e2:h=h'):Wp p rd c v h Q=Wp p rd c v' h' Q:=by rw[e1,e2]
def wM (p:Nat->Option Fn)(rd:Option Nat)(a b:C)(vars:List V)(h:H)(Q:E->List V->H->Prop)(v:V):Prop:=match v with| .bool true=>Wp p rd a vars h Q| .bool false=>Wp p rd b vars h Q|_=>False
section
variable {rd:Option Nat} {a b:C} {vars:List V} {h:H} {Q:E->List V->H->Prop}
theorem Dv {v v':V}(e:v=v'):wM p rd a b vars h Q v=wM p rd a b vars h Q v':=by rw[e]
theorem Jo:wM p rd a b vars h Q (.bool true)=Wp p rd a vars h Q:=rfl
theorem Gk:wM p rd a b vars h Q (.bool false)=Wp p rd b vars h Q:=rfl
theorem bD {P:Prop}[Decidable P](x:P->Wp p rd a vars h Q)(y: ¬P->Wp p rd b vars h Q):wM p rd a b vars h Q (.bool (decide P)):=by
 by_cases h:P
 ·rw[decide_eq_true h];exact x h
 ·rw[decide_eq_false h];exact y h
theorem Lz {t:Bool}:wM p rd a b vars h Q (.bool (!t))=wM p rd b a vars h Q (.bool t):=by cases t<;>rfl
end
def Xk (K:V->H->Prop):V×H->Prop:=λr=>K r.1 r.2
theorem Vq (K:V->H->Prop)(v:V)(h:H):Xk K (v,h)=K v h:=rfl
def Mz (p:Nat->Option Fn)(d:D)(its:List It)(vars loc:List V)(Q:List V->H->Prop):V->H->Prop:=λv h'=>Du p its (iA d vars loc v).1 (iA d vars loc v).2 h' Q
theorem Rw (d:D)(its:List It)(vars loc:List V)(Q:List V->H->Prop)(v:V)(h':H):Mz p d its vars loc Q v h'=Du p its (iA d vars loc v).1 (iA d vars loc v).2 h' Q:=rfl
def Df (p:Nat->Option Fn)(d:D)(a:dE)(its:List It)(vars loc:List V)(h:H)(Q:List V->H->Prop)(w:Bool):Prop:=match w with
 |true=>yP p vars loc h a (Mz p d its vars loc Q)
 |false=>Du p its (iA d vars loc .undef).1 (iA d vars loc .undef).2 h Q
section
variable {d:D} {a:dE} {its:List It} {vars loc:List V} {h:H} {Q:List V->H->Prop}
theorem Cu {v v':Bool}(e:v=v'):Df p d a its vars loc h Q v=Df p d a its vars loc h Q v':=by rw[e]
theorem Fm:Df p d a its vars loc h Q true=yP p vars loc h a (Mz p d its vars loc Q):=rfl
theorem Bw:Df p d a its vars loc h Q false=Du p its (iA d vars loc .undef).1 (iA d vars loc .undef).2 h Q:=rfl
end
def zT (p:Nat->Option Fn)(base:Nat)(x:AI)(xs:List AI)(vars:List V)(log:Log)(Q:List V->H->Prop):V->H->Prop:=λv h'=>kE x.cks log h'=true/\Fz p base xs (iA x.it.d vars [] v).1 (uF x vars v log) h' Q
theorem Ry (base i:Nat)(d:D)(g:Option (X×Bool))(a:dE)(al:Bool)(cks:List Nat)(xs:List AI)(vars:List V)(log:Log)(Q:List V->H->Prop)(v:V)(h':H):zT p base ⟨i,⟨d,g,a⟩,al,cks⟩ xs vars log Q v h'=(kE cks log h'=true/\Fz p base xs (iA d vars [] v).1 (uF ⟨i,⟨d,g,a⟩,al,cks⟩ vars v log) h' Q):=rfl
def yW (p:Nat->Option Fn)(base i:Nat)(d:D)(x:X)(b:Bool)(a:dE)(al:Bool)(cks:List Nat)(xs:List AI)(vars:List V)(log:Log)(h:H)(Q:List V->H->Prop)(w:Bool):Prop:=match w,al with
 |true,true=>iI (uP vars h (base+i) a) (Xk (zT p base ⟨i,⟨d,some (x,b),a⟩,true,cks⟩ xs vars log Q))
 |true,false=>yP p vars [] h a (zT p base ⟨i,⟨d,some (x,b),a⟩,false,cks⟩ xs vars log Q)
 |false,_=>kE cks log h=true/\Fz p base xs (iA d vars [] .undef).1 log h Q
section
variable {base i:Nat} {d:D} {x:X} {b al:Bool} {a:dE} {cks:List Nat} {xs:List AI} {vars:List V} {log:Log} {h:H} {Q:List V->H->Prop}
theorem Dl {v v':Bool}(e:v=v'):yW p base i d x b a al cks xs vars log h Q v=yW p base i d x b a al cks xs vars log h Q v':=by rw[e]
theorem Ph:yW p base i d x b a true cks xs vars log h Q true=iI (uP vars h (base+i) a) (Xk (zT p base ⟨i,⟨d,some (x,b),a⟩,true,cks⟩ xs vars log Q)):=rfl
theorem Ml:yW p base i d x b a false cks xs vars log h Q true=yP p vars [] h a (zT p base ⟨i,⟨d,some (x,b),a⟩,false,cks⟩ xs vars log Q):=rfl
theorem Sh:yW p base i d x b a al cks xs vars log h Q false=(kE cks log h=true/\Fz p base xs (iA d vars [] .undef).1 log h Q):=rfl
end
theorem En (p:Nat->Option Fn){N N' f f':Nat}(h1:N<=N')(h2:f<=f'):Le (iC p N f).1 (iC p N' f').1/\Le (iC p N f).2 (iC p N' f').2:=Bz p h1 f f' h2
theorem Wi (vars loc:List V)(h:H)(i:I)(Q:V->H->Prop):yP p vars loc h (.op i) Q=iI (cI (xv vars loc) h i) (Xk Q):=by
 unfold yP iI;refine propext ⟨λ⟨N,f,v,h',e,q⟩=>⟨(v,h'),by rw[lX] at e;exact e,q⟩,λ⟨r,e,q⟩=>⟨0,0,r.1,r.2,by rw[lX];exact e,q⟩⟩
theorem Pw (vars loc:List V)(h:H)(g:Nat)(args:List X)(Q:V->H->Prop):yP p vars loc h (.call g args) Q=Ev p g (args.map (xv vars loc)) h Q:=by
 unfold yP Ev;simp only[lB]
def qH (p:Nat->Option Fn)(x:V)(args:List V)(h:H)(Q:V->H->Prop):Prop:=match x with
 | .fn g fs cs=>Ev p g (fs++args++cs) h Q
 | .yl id=>Ey p id args h Q
 |_=>False
theorem qH.mono {x:V}{h:H}{Q:V->H->Prop}(e:qH p x args h Q)(k: ∀v h',Q v h'->R v h'):qH p x args h R:=by
 unfold qH at*;split at e
 ·exact e.mono k
 ·exact e.mono k
 ·exact e.elim
theorem Cd {x x':V}{a:List V}{h:H}{Q:V->H->Prop}(e0:x=x')(e1:a=a')(e2:h=h'):qH p x a h Q=qH p x' a' h' Q:=by rw[e0,e1,e2]
theorem Lw (g:Nat)(fs cs args:List V)(h:H)(Q:V->H->Prop):qH p (.fn g fs cs) args h Q=Ev p g (fs++args++cs) h Q:=rfl
theorem Oa (id:Nat)(args:List V)(h:H)(Q:V->H->Prop):qH p (.yl id) args h Q=Ey p id args h Q:=rfl
theorem Is (vars loc:List V)(h:H)(x:X)(args:List X)(Q:V->H->Prop):yP p vars loc h (.callv x args) Q=qH p (xv vars loc x) (args.map (xv vars loc)) h Q:=by
 unfold yP;simp only[kI];unfold qH;cases xv vars loc x<;>simp [Ev,Ey]
def Ab (p:Nat->Option Fn)(g t:Nat)(x:V)(args:List V)(h:H)(Q:V->H->Prop):Prop:=match x with
 | .ifc u v=>u=t/\Ev p g (v::args) h Q
 |_=>False
theorem Gq (g t:Nat)(v:V)(args:List V)(h:H)(Q:V->H->Prop):Ab p g t (.ifc t v) args h Q=Ev p g (v::args) h Q:=by
 simp [Ab]
theorem Kv (vars loc:List V)(h:H)(g t:Nat)(x:X)(args:List X)(Q:V->H->Prop):yP p vars loc h (.calli g t x args) Q=Ab p g t (xv vars loc x) (args.map (xv vars loc)) h Q:=by
 unfold yP;simp only[kH];unfold Ab;cases xv vars loc x<;>simp only[reduceCtorEq,false_and,exists_false];rename_i u v
 by_cases hu:u=t
 ·subst hu
  simp [Ev]
 ·have:Nat.beq u t=false:=by
   cases hq:Nat.beq u t with
   |false=>rfl
   |true=>exact absurd (Nat.eq_of_beq_eq_true hq) hu
  simp [this,hu]
def Ar (p:Nat->Option Fn)(g:Nat)(vs:List V)(h:H)(Q:V->H->Prop):Prop:=vs.all V.tN=true/\Ev p g vs ⟨.lf,0⟩ (λv _=>v.tN=true/\Q v h)
theorem Km (vars loc:List V)(h:H)(g:Nat)(args:List X)(Q:V->H->Prop):yP p vars loc h (.callp g args) Q=Ar p g (args.map (xv vars loc)) h Q:=by
 unfold yP Ar Ev;refine propext ⟨λ⟨N,f,v,h',e,q⟩=>?_,λ⟨h1,N,f,v,h',e,h2,q⟩=>⟨N,f,v,h,?_,q⟩⟩
 ·rw[gW] at e
  obtain⟨rfl,h1,h2,h3,h4⟩:=nY e;exact⟨h1,N,f,v,h3,h4,h2,q⟩
 ·rw[gW]
  unfold uD;simp only[h1,e,h2,cond_true]
theorem Ar.intro {vs:List V}{h:H}{Q:V->H->Prop}(e:Ev p g vs ⟨.lf,0⟩ R)(h1:vs.all V.tN=true)(k: ∀v h',R v h'->v.tN=true/\Q v h):Ar p g vs h Q:=⟨h1,e.mono k⟩
theorem Sw (vars loc:List V)(h:H)(Q:List V->H->Prop):Du p [] vars loc h Q=Q vars h:=by
 unfold Du;refine propext ⟨λ⟨N,f,v,h',e,q⟩=>?_,λq=>⟨0,0,vars,h,rfl,q⟩⟩;rw[sY] at e;cases e;exact q
theorem Pc (d:D)(a:dE)(its:List It)(vars loc:List V)(h:H)(Q:List V->H->Prop):
  Du p (⟨d,none,a⟩::its) vars loc h Q=yP p vars loc h a (Mz p d its vars loc Q):=by
 unfold Mz Du yP
 refine propext ⟨λ⟨N,f,v,h',e,q⟩=>?_,λ⟨N,f,v,h1,e,N2,f2,vars',h',e2,q⟩=>?_⟩
 ·rw[iQ] at e
  simp only[dZ] at e
  split at e
  ·rename_i v1 h1 ha
   exact⟨N,f,v1,h1,ha,N,f,v,h',e,q⟩
  ·cases e
 ·refine⟨max N N2,max f f2,vars',h',?_,q⟩
  rw[iQ]
  have b1:=En p (Nat.le_max_left N N2) (Nat.le_max_left f f2)
  have b2:=En p (Nat.le_max_right N N2) (Nat.le_max_right f f2)
  simp only[dZ,jO b1.1 b1.2 e]
  exact jN b2.1 b2.2 _ _ _ _ _ e2
theorem Jx (d:D)(x:X)(b:Bool)(a:dE)(its:List It)(vars loc:List V)(h:H)(Q:List V->H->Prop):
  Du p (⟨d,some (x,b),a⟩::its) vars loc h Q=iI (dZ vars loc (some (x,b))) (Df p d a its vars loc h Q):=by
 unfold iI
 refine propext ⟨λ⟨N,f,v,h',e,q⟩=>?_,λ⟨w,hw,k⟩=>?_⟩
 ·rw[iQ] at e
  split at e
  ·rename_i hw
   refine⟨true,hw,?_⟩
   split at e
   ·rename_i v1 h1 ha
    exact⟨N,f,v1,h1,ha,N,f,v,h',e,q⟩
   ·cases e
  ·rename_i hw
   exact⟨false,hw,N,f,v,h',e,q⟩
  ·cases e
 ·cases w with
  |true=>
   obtain⟨N,f,v,h1,e,N2,f2,vars',h',e2,q⟩:=k;refine⟨max N N2,max f f2,vars',h',?_,q⟩;rw[iQ];have b1:=En p (Nat.le_max_left N N2) (Nat.le_max_left f f2);have b2:=En p (Nat.le_max_right N N2) (Nat.le_max_right f f2);simp only[hw,jO b1.1 b1.2 e];exact jN b2.1 b2.2 _ _ _ _ _ e2
  |false=>
   obtain⟨N,f,v,h',e,q⟩:=k;refine⟨N,f,v,h',?_,q⟩;rw[iQ];simp only[hw];exact e
theorem Sk (base:Nat)(vars:List V)(log:Log)(h:H)(Q:List V->H->Prop):Fz p base [] vars log h Q=Q vars h:=by
 unfold Fz;refine propext ⟨λ⟨N,f,v,h',e,q⟩=>?_,λq=>⟨0,0,vars,h,rfl,q⟩⟩;rw[sX] at e;cases e;exact q
theorem Qh (base i:Nat)(d:D)(a:dE)(cks:List Nat)(xs:List AI)(vars:List V)(log:Log)(h:H)(Q:List V->H->Prop):
  Fz p base (⟨i,⟨d,none,a⟩,false,cks⟩::xs) vars log h Q=yP p vars [] h a (zT p base ⟨i,⟨d,none,a⟩,false,cks⟩ xs vars log Q):=by
 unfold zT Fz yP
 refine propext ⟨λ⟨N,f,v,h',e,q⟩=>?_,λ⟨N,f,v,h1,e,ho,N2,f2,vars',h',e2,q⟩=>?_⟩
 ·rw[fI] at e
  simp only[dZ,Bool.false_eq_true,if_false] at e
  split at e
  ·rename_i v1 h1 ha
   split at e
   ·rename_i ho
    exact⟨N,f,v1,h1,ha,ho,N,f,v,h',e,q⟩
   ·cases e
  ·cases e
 ·refine⟨max N N2,max f f2,vars',h',?_,q⟩
  rw[fI]
  have b1:=En p (Nat.le_max_left N N2) (Nat.le_max_left f f2)
  have b2:=En p (Nat.le_max_right N N2) (Nat.le_max_right f f2)
  simp only[dZ,Bool.false_eq_true,if_false,jO b1.1 b1.2 e,ho,if_true]
  exact lC b2.1 b2.2 _ _ _ _ _ e2
theorem Lg (base i:Nat)(d:D)(a:dE)(cks:List Nat)(xs:List AI)(vars:List V)(log:Log)(h:H)(Q:List V->H->Prop):
  Fz p base (⟨i,⟨d,none,a⟩,true,cks⟩::xs) vars log h Q=iI (uP vars h (base+i) a) (Xk (zT p base ⟨i,⟨d,none,a⟩,true,cks⟩ xs vars log Q)):=by
 unfold Xk zT Fz iI
 refine propext ⟨λ⟨N,f,v,h',e,q⟩=>?_,λ⟨r,e,ho,N2,f2,vars',h',e2,q⟩=>?_⟩
 ·rw[fI] at e
  simp only[dZ,if_true] at e
  split at e
  ·rename_i v1 h1 ha
   split at e
   ·rename_i ho
    exact⟨(v1,h1),ha,ho,N,f,v,h',e,q⟩
   ·cases e
  ·cases e
 ·refine⟨N2,f2,vars',h',?_,q⟩
  rw[fI]
  obtain⟨v,h1⟩:=r
  simp only[dZ,if_true,e,ho]
  exact e2
theorem Jm (base i:Nat)(d:D)(x:X)(b:Bool)(a:dE)(al:Bool)(cks:List Nat)(xs:List AI)(vars:List V)(log:Log)(h:H)(Q:List V->H->Prop):
  Fz p base (⟨i,⟨d,some (x,b),a⟩,al,cks⟩::xs) vars log h Q=iI (dZ vars [] (some (x,b))) (yW p base i d x b a al cks xs vars log h Q):=by
 unfold iI
 refine propext ⟨λ⟨N,f,v,h',e,q⟩=>?_,λ⟨w,hw,k⟩=>?_⟩
 ·rw[fI] at e
  split at e
  ·rename_i hw
   refine⟨true,hw,?_⟩
   cases al with
   |true=>
    simp only[if_true] at e;split at e
    ·rename_i v1 h1 ha
     split at e
     ·rename_i ho
      exact⟨(v1,h1),ha,ho,N,f,v,h',e,q⟩
     ·cases e
    ·cases e
   |false=>
    simp only[Bool.false_eq_true,if_false] at e;split at e
    ·rename_i v1 h1 ha
     split at e
     ·rename_i ho
      exact⟨N,f,v1,h1,ha,ho,N,f,v,h',e,q⟩
     ·cases e
    ·cases e
  ·rename_i hw
   split at e
   ·rename_i ho
    exact⟨false,hw,ho,N,f,v,h',e,q⟩
   ·cases e
  ·cases e
 ·cases w with
  |true=>
   cases al with
   |true=>
    obtain⟨⟨v,h1⟩,e,ho,N2,f2,vars',h',e2,q⟩:=k;refine⟨N2,f2,vars',h',?_,q⟩;rw[fI];simp only[hw,if_true,e,ho];exact e2
   |false=>
    obtain⟨N,f,v,h1,e,ho,N2,f2,vars',h',e2,q⟩:=k;refine⟨max N N2,max f f2,vars',h',?_,q⟩;rw[fI];have b1:=En p (Nat.le_max_left N N2) (Nat.le_max_left f f2);have b2:=En p (Nat.le_max_right N N2) (Nat.le_max_right f f2);simp only[hw,Bool.false_eq_true,if_false,jO b1.1 b1.2 e,ho,if_true];exact lC b2.1 b2.2 _ _ _ _ _ e2
  |false=>
   obtain⟨ho,N2,f2,vars',h',e2,q⟩:=k;refine⟨N2,f2,vars',h',?_,q⟩;rw[fI];simp only[hw,ho,if_true];exact e2
variable {rd:Option Nat} {vars:List V} {h:H} {Q:E->List V->H->Prop}
theorem Rf:Wp p rd .skip vars h Q=Q .norm vars h:=by
 unfold Wp;simp only[rP];exact propext ⟨λ⟨_,_,_,_,_,e,q⟩=>by cases e;exact q,λq=>⟨0,0,_,_,_,rfl,q⟩⟩
theorem Vr:Wp p rd .ret vars h Q=Q .ret vars h:=by
 unfold Wp;simp only[Bd];exact propext ⟨λ⟨_,_,_,_,_,e,q⟩=>by cases e;exact q,λq=>⟨0,0,_,_,_,rfl,q⟩⟩
theorem Sx (n:Nat):Wp p rd (.exit n) vars h Q=Q (.exit n) vars h:=by
 unfold Wp;simp only[uV];exact propext ⟨λ⟨_,_,_,_,_,e,q⟩=>by cases e;exact q,λq=>⟨0,0,_,_,_,rfl,q⟩⟩
theorem Mi (a:C):Wp p rd (.scope a) vars h Q=Wp p rd a vars h Q:=by
 unfold Wp;simp only[tH]
theorem Xa (its:List It):Wp p rd (.reg its) vars h Q=Du p its vars [] h (Q .norm):=by
 unfold Wp Du;simp only[zV];refine propext ⟨λ⟨N,f,e,v,h',he,q⟩=>?_,λ⟨N,f,v,h',he,q⟩=>⟨N,f,.norm,v,h',by rw[he],q⟩⟩;split at he
 ·rename_i hr;cases he;exact⟨N,f,_,_,hr,q⟩
 ·cases he
def Xc (n:Nat)(Q:E->List V->H->Prop):List V->H->Prop:=λvs h'=>Q .norm (vs.take n) h'
theorem Tc (n:Nat)(vs:List V)(h':H):Xc n Q vs h'=Q .norm (vs.take n) h':=rfl
theorem Va (k nl:Nat)(its:List AI):Wp p rd (.any k nl its) vars h Q=Fz p h.next its (vars++List.replicate nl .unk) [] {h with next:=h.next+k} (Xc vars.length Q):=by
 unfold Xc Wp Fz;simp only[zU];refine propext ⟨λ⟨N,f,e,v,h',he,q⟩=>?_,λ⟨N,f,v,h',he,q⟩=>⟨N,f,.norm,_,h',by rw[he],q⟩⟩;split at he
 ·rename_i hr;cases he;exact⟨N,f,_,_,hr,q⟩
 ·cases he
def vF (p:Nat->Option Fn)(rd:Option Nat)(b:C)(Q:E->List V->H->Prop):E->List V->H->Prop:=λe vars h=>match e with| .norm=>Wp p rd b vars h Q|e=>Q e vars h
theorem wV (b:C)(vars:List V)(h:H):vF p rd b Q .norm vars h=Wp p rd b vars h Q:=rfl
theorem Ig (b:C)(vars:List V)(h:H):vF p rd b Q .ret vars h=Q .ret vars h:=rfl
theorem Ec (b:C)(n:Nat)(vars:List V)(h:H):vF p rd b Q (.exit n) vars h=Q (.exit n) vars h:=rfl
theorem Ol (a b:C):Wp p rd (.seq a b) vars h Q=Wp p rd a vars h (vF p rd b Q):=by
 refine propext ⟨λ⟨N,f,e,v,h',he,q⟩=>?_,λ⟨N,f,e,v,h1,he,k⟩=>?_⟩
 ·rw[run_seq] at he
  cases hr:run (iC p N f).1 (iC p N f).2 N rd a vars h with
  |none=>simp [hr] at he
  |some r=>
   obtain⟨e1,v1,d1,h1⟩:=r;simp only[hr] at he
   cases e1 with
   |norm=>
    simp only at he
    cases hr2:run (iC p N f).1 (iC p N f).2 N rd b v1 h1 with
    |none=>simp [hr2] at he
    |some r=>
     obtain⟨e2,v2,d2,h2⟩:=r;simp only[hr2,Option.some.injEq,Prod.mk.injEq] at he;obtain⟨rfl,rfl,hd,rfl⟩:=he;simp only[List.append_eq_nil_iff] at hd;obtain⟨rfl,rfl⟩:=hd;exact⟨N,f,.norm,v1,h1,hr,N,f,_,_,_,hr2,q⟩
   |ret=>simp only at he;cases he;exact⟨N,f,_,_,_,hr,q⟩
   |exit n=>simp only at he;cases he;exact⟨N,f,_,_,_,hr,q⟩
 ·cases e with
  |norm=>
   obtain⟨N2,f2,e2,v2,h2,he2,q⟩:=k;refine⟨max N N2,max f f2,e2,v2,h2,?_,q⟩;have b1:=En p (Nat.le_max_left N N2) (Nat.le_max_left f f2);have b2:=En p (Nat.le_max_right N N2) (Nat.le_max_right f f2);rw[run_seq,eV b1.1 b1.2 (Nat.le_max_left N N2) _ _ _ _ he];simp only[eV b2.1 b2.2 (Nat.le_max_right N N2) _ _ _ _ he2]
   rfl
  |ret=>exact⟨N,f,_,_,_,by rw[run_seq,he],k⟩
  |exit n=>exact⟨N,f,_,_,_,by rw[run_seq,he],k⟩
theorem Uz (x:X)(a b:C):Wp p rd (.ite x a b) vars h Q=wM p rd a b vars h Q (xv vars [] x):=by
 unfold wM Wp;simp only[run_ite]
 cases xv vars [] x with
 |bool t=>cases t<;>rfl
 |_=>exact propext ⟨λ⟨_,_,_,_,_,e,_⟩=>(nomatch e),λh=>h.elim⟩
def mN (id:Nat)(Q:E->List V->H->Prop):E->List V->H->Prop:=λe vars h=>match e with| .exit n=>if n=id then Q .norm vars h else Q (.exit n) vars h|e=>Q e vars h
theorem Cv (id:Nat)(vars:List V)(h:H):mN id Q .norm vars h=Q .norm vars h:=rfl
theorem Fo (id:Nat)(vars:List V)(h:H):mN id Q .ret vars h=Q .ret vars h:=rfl
theorem pI (id:Nat)(vars:List V)(h:H):mN id Q (.exit id) vars h=Q .norm vars h:=if_pos rfl
theorem Ip (id n:Nat)(hn:n≠id)(vars:List V)(h:H):mN id Q (.exit n) vars h=Q (.exit n) vars h:=if_neg hn
theorem Pb (id:Nat)(a:C):Wp p rd (.block id a) vars h Q=Wp p rd a vars h (mN id Q):=by
 unfold Wp;simp only[sZ];refine propext ⟨λ⟨N,f,e,v,h',he,q⟩=>?_,λ⟨N,f,e,v,h1,he,k⟩=>?_⟩
 ·cases hr:run (iC p N f).1 (iC p N f).2 N rd a vars h with
  |none=>simp [hr] at he
  |some r=>
   obtain⟨e1,v1,d1,h1⟩:=r;simp only[hr] at he
   cases e1 with
   |exit n=>
    simp only at he;split at he
    ·rename_i hn;cases he;exact⟨N,f,_,_,_,hr,by simp only[mN];rw[if_pos hn];exact q⟩
    ·rename_i hn;cases he;exact⟨N,f,_,_,_,hr,by simp only[mN];rw[if_neg hn];exact q⟩
   |norm=>simp only at he;cases he;exact⟨N,f,_,_,_,hr,q⟩
   |ret=>simp only at he;cases he;exact⟨N,f,_,_,_,hr,q⟩
 ·cases e with
  |exit n=>
   simp only[mN] at k;split at k
   ·rename_i hn;exact⟨N,f,_,_,_,by rw[he];simp only;rw[if_pos hn],k⟩
   ·rename_i hn;exact⟨N,f,_,_,_,by rw[he];simp only;rw[if_neg hn],k⟩
  |norm=>exact⟨N,f,_,_,_,by rw[he],k⟩
  |ret=>exact⟨N,f,_,_,_,by rw[he],k⟩
def Ax (J:List V->H->Prop)(Q:E->List V->H->Prop):E->List V->H->Prop:=λe vars h=>match e with| .norm=>J vars h|e=>Q e vars h
theorem Bs (J:List V->H->Prop)(vars:List V)(h:H):Ax J Q .norm vars h=J vars h:=rfl
theorem Gb (J:List V->H->Prop)(vars:List V)(h:H):Ax J Q .ret vars h=Q .ret vars h:=rfl
theorem Di (J:List V->H->Prop)(n:Nat)(vars:List V)(h:H):Ax J Q (.exit n) vars h=Q (.exit n) vars h:=rfl
theorem aJ (J:Nat->List V->H->Prop)(k:Nat)(h0:J k vars h)
  (step: ∀k vars h,J k vars h->Wp p rd c vars h (Ax (λv h'=> ∃k',k'<k/\J k' v h') Q)):Wp p rd (.loop c) vars h Q:=by
 have key: ∀k vars h,J k vars h-> ∃N f n e vars' h',oV (run (iC p N f).1 (iC p N f).2 N rd c) n vars h=some (e,vars', [],h')/\Q e vars' h':=by
  intro k
  induction k using Nat.strongRecOn with
  |ind k ih=>
   intro vars h hJ;obtain⟨N,f,e,v,h1,he,q⟩:=step k vars h hJ
   cases e with
   |norm=>
    obtain⟨k',hk',hJ'⟩:=q;obtain⟨N2,f2,n,e2,v2,h2,he2,q2⟩:=ih k' hk' v h1 hJ';have b1:=En p (Nat.le_max_left N N2) (Nat.le_max_left f f2);have b2:=En p (Nat.le_max_right N N2) (Nat.le_max_right f f2);refine⟨max N N2,max f f2,n+1,e2,v2,h2,?_,q2⟩;rw[kZ,eV b1.1 b1.2 (Nat.le_max_left N N2) _ _ _ _ he];simp only[oA (λv h r=>eV b2.1 b2.2 (Nat.le_max_right N N2) c v h r) n n (eP _) _ _ _ he2]
    rfl
   |ret=>exact⟨N,f,1,_,_,_,by rw[kZ,he],q⟩
   |exit n=>exact⟨N,f,1,_,_,_,by rw[kZ,he],q⟩
 obtain⟨N,f,n,e,v,h',he,q⟩:=key k vars h h0
 refine⟨max N n,f,e,v,h',?_,q⟩
 have b:=En p (Nat.le_max_left N n) (eP f)
 rw[wZ]
 exact oA (λv h r=>eV b.1 b.2 (Nat.le_max_left N n) c v h r) n (max N n) (Nat.le_max_right N n) _ _ _ he
def Lq (id:Nat)(vars:List V)(Q:E->List V->H->Prop):V->H->Prop:=λ_ h'=> ∃r,h'.get id=some (.loop r)/\r.st≠ .busy/\Q (r.pend.getD .norm) vars (h'.set id (some (.loop {r with st:= .out})))
def vU (p:Nat->Option Fn)(rd:Option Nat)(x:V)(pars:List Nat)(assign body:C)(vars:List V)(h:H)(Q:E->List V->H->Prop):Prop:=
 match x with
 | .fn g fs cs=>Jj rd h=true/\Ev p g (fs++ .yl h.next::cs) (h.new (.loop {vars,pars,assign,body,st:= .ready,pend:=none})) (Lq h.next vars Q)
 |_=>False
theorem Aw {x x':V}{pars:List Nat}{a b:C}{h:H}(e0:x=x')(e1:v=v')(e2:h=h'):vU p rd x pars a b v h Q=vU p rd x' pars a b v' h' Q:=by rw[e0,e1,e2]
theorem Jn (g:Nat)(fs cs:List V)(pars:List Nat)(assign body:C):vU p rd (.fn g fs cs) pars assign body vars h Q=(Jj rd h=true/\Ev p g (fs++ .yl h.next::cs) (h.new (.loop {vars,pars,assign,body,st:= .ready,pend:=none})) (Lq h.next vars Q)):=rfl
theorem Nq (x:X)(pars:List Nat)(a b:C):Wp p rd (.range x pars a b) vars h Q=vU p rd (xv vars [] x) pars a b vars h Q:=by
 unfold Wp vU;simp only[tE,pM]
 cases xv vars [] x with
 |fn g fs cs=>
  simp only;refine propext ⟨λ⟨N,f,e,v,h',he,q⟩=>?_,λ⟨ho,N,f,v,h',he,r,hg,hb,q⟩=>?_⟩
  ·split at he
   ·rename_i ho
    refine⟨ho,?_⟩;split at he
    ·rename_i v1 h1 hc
     split at he
     ·rename_i r hg
      split at he
      ·cases he
      ·rename_i hb
       cases he;exact⟨N,f,v1,h1,hc,r,hg,hb,q⟩
     ·cases he
    ·cases he
   ·cases he
  ·refine⟨N,f,_,_,_,?_,q⟩
   rw[if_pos ho];simp only[he,hg];rw[if_neg hb]
 |_=>exact propext ⟨λ⟨_,_,_,_,_,e,_⟩=>(nomatch e),λh=>h.elim⟩
def Tj (Q:V->H->Prop)(h:H):List V->Prop:=λvs=>Q (tJ vs) h
theorem Rm (Q:V->H->Prop)(h:H)(vs:List V):Tj Q h vs=Q (tJ vs) h:=rfl
def Mb (results:List Rv)(Q:V->H->Prop):E->List V->H->Prop:=λe vars h=>match e with
 | .exit _=>False
 |_=>iI (bY (results.map (qD vars h))) (Tj Q h)
theorem Iz (results:List Rv)(Q:V->H->Prop)(vars:List V)(h:H):Mb results Q .norm vars h=iI (bY (results.map (qD vars h))) (Tj Q h):=rfl
theorem Nm (results:List Rv)(Q:V->H->Prop)(vars:List V)(h:H):Mb results Q .ret vars h=iI (bY (results.map (qD vars h))) (Tj Q h):=rfl
theorem tX {fn:Fn}{h:H}{Q:V->H->Prop}(hg:p g=some fn)(hl:args.length=fn.nargs)(hw:Wp p none fn.body (qF fn args) h (Mb fn.results Q)):Ev p g args h Q:=by
 obtain⟨N,f,e,v,h',he,q⟩:=hw
 cases e with
 |exit n=>exact q.elim
 |norm=>
  obtain⟨vs,hv,q⟩:=q;refine⟨N,f+1,tJ vs,h',?_,q⟩;rw[jZ];simp only[pF,hg,hl,if_true,he,mY,hv,Option.map_some]
 |ret=>
  obtain⟨vs,hv,q⟩:=q;refine⟨N,f+1,tJ vs,h',?_,q⟩;rw[jZ];simp only[pF,hg,hl,if_true,he,mY,hv,Option.map_some]
def vJ (id:Nat)(Q:V->H->Prop):E->List V->H->Prop:=λe _ h=> ∃r3,h.get id=some (.loop r3)/\(match e with
 | .norm=>Q (.bool true) (h.set id (some (.loop {r3 with st:= .ready,pend:=none})))
 |e=>Q (.bool false) (h.set id (some (.loop {r3 with st:= .done,pend:=some e}))))
theorem Ya {id:Nat}{h:H}{Q:V->H->Prop}{r:eH}(hr:h.get id=some (.loop r))(hl:args.length=r.pars.length)
  (hw:Wp p (some id) r.assign ((r.pars.zip args).foldl (λvs q=>vs.set q.1 q.2) r.vars) h λe vars h1=>e= .norm/\ ∃r2,h1.get id=some (.loop r2)/\r2.st= .ready/\
   Wp p (some id) r.body vars (h1.set id (some (.loop {r2 with st:= .busy}))) (vJ id Q)):Ey p id args h Q:=by
 obtain⟨N,f,e,v,h1,he,rfl,r2,hr2,fG,N2,f2,e2,v2,h2,he2,r3,hr3,q⟩:=hw
 have b1:=En p (show N<=max N N2 by omega) (show f<=max f f2 by omega)
 have b2:=En p (show N2<=max N N2 by omega) (show f2<=max f f2 by omega)
 cases e2 with
 |norm=>
  refine⟨max N N2,max f f2+1,.bool true,_,?_,q⟩;rw[jZ];simp only[mI,hr,hl,if_true,eV b1.1 b1.2 (show N<=max N N2 by omega) _ _ _ _ he,hr2,fG,eV b2.1 b2.2 (show N2<=max N N2 by omega) _ _ _ _ he2,hr3]
 |ret=>
  refine⟨max N N2,max f f2+1,.bool false,_,?_,q⟩;rw[jZ];simp only[mI,hr,hl,if_true,eV b1.1 b1.2 (show N<=max N N2 by omega) _ _ _ _ he,hr2,fG,eV b2.1 b2.2 (show N2<=max N N2 by omega) _ _ _ _ he2,hr3]
 |exit n=>
  refine⟨max N N2,max f f2+1,.bool false,_,?_,q⟩;rw[jZ];simp only[mI,hr,hl,if_true,eV b1.1 b1.2 (show N<=max N N2 by omega) _ _ _ _ he,hr2,fG,eV b2.1 b2.2 (show N2<=max N N2 by omega) _ _ _ _ he2,hr3]
end
end
end Go.Ay
