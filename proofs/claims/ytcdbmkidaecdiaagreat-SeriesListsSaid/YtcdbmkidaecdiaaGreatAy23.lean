/- The abstract machine, by weakest preconditions. -/
import Derived.Test.YtcdbmkidaecdiaaGreatAy22
namespace Go.Ay
section
variable {g:Nat} {args a' v v':List V} {R:V->H->Prop} {c:C} {h':H}
def mI {α:Type}(o:Option α)(K:α->Prop):Prop:= ∃a,o=some a/\K a
theorem BB {α:Type}(a:α)(K:α->Prop):mI (some a) K=K a:=propext ⟨λ⟨_,h,k⟩=>by cases h;exact k,λk=>⟨a,rfl,k⟩⟩
theorem Vt {α:Type}{o a:Option α}{K:α->Prop}(h:o=a):mI o K=mI a K:=by rw[h]
section
variable (p:Nat->Option Fn)
def Ev (g:Nat)(args:List V)(h:H)(Q:V->H->Prop):Prop:= ∃N f v h',(jO p N f).1 g args h=some (v,h')/\Q v h'
def Ey (id:Nat)(args:List V)(h:H)(Q:V->H->Prop):Prop:= ∃N f v h',(jO p N f).2 id args h=some (v,h')/\Q v h'
def Rg (vars loc:List V)(h:H)(a:dO)(Q:V->H->Prop):Prop:= ∃N f v h',kY (jO p N f).1 (jO p N f).2 vars loc h a=some (v,h')/\Q v h'
def BW (its:List It)(vars loc:List V)(h:H)(Q:List V->H->Prop):Prop:= ∃N f vars' h',uZ (jO p N f).1 (jO p N f).2 its vars loc h=some (vars',h')/\Q vars' h'
def CF (base:Nat)(xs:List AI)(vars:List V)(log:Log)(h:H)(Q:List V->H->Prop):Prop:= ∃N f vars' h',wW (jO p N f).1 (jO p N f).2 base xs vars log h=some (vars',h')/\Q vars' h'
def Wp (rd:Option Nat)(c:C)(vars:List V)(h:H)(Q:E->List V->H->Prop):Prop:=
 ∃N f e vars' h',run (jO p N f).1 (jO p N f).2 N rd c vars h=some (e,vars', [],h')/\Q e vars' h'
variable {p}
theorem Ev.mono {h:H}{Q:V->H->Prop}(e:Ev p g args h Q)(k: ∀v h',Q v h'->R v h'):Ev p g args h R:=by
 obtain⟨N,f,v,h',e,q⟩:=e;exact⟨N,f,v,h',e,k _ _ q⟩
theorem Ey.mono {id:Nat}{h:H}{Q:V->H->Prop}(e:Ey p id args h Q)(k: ∀v h',Q v h'->R v h'):Ey p id args h R:=by
 obtain⟨N,f,v,h',e,q⟩:=e;exact⟨N,f,v,h',e,k _ _ q⟩
theorem Wp.mono {rd:Option Nat}{b:List V}{h:H}{Q R:E->List V->H->Prop}(e:Wp p rd c b h Q)(k: ∀e v h',Q e v h'->R e v h'):Wp p rd c b h R:=by
 obtain⟨N,f,a,v,h',e,q⟩:=e;exact⟨N,f,a,v,h',e,k _ _ _ q⟩
theorem BW.mono {b:List It}{a d:List V}{h:H}{Q R:List V->H->Prop}(e:BW p b a d h Q)(k: ∀v h',Q v h'->R v h'):BW p b a d h R:=by
 obtain⟨N,f,v,h',e,q⟩:=e;exact⟨N,f,v,h',e,k _ _ q⟩
theorem VQ {a:List V}{h:H}{Q:V->H->Prop}(e1:a=a')(b:h=h'):Ev p g a h Q=Ev p g a' h' Q:=by rw[e1,b]
theorem WI {a:List V}{h:H}{Q:V->H->Prop}(e1:a=a')(b:h=h'):Ey p g a h Q=Ey p g a' h' Q:=by rw[e1,b]
theorem JZ {a:dO}{l b:List V}{h:H}{Q:V->H->Prop}(e1:v=v')(d:l=b)(e:h=h'):Rg p v l h a Q=Rg p v' b h' a Q:=by rw[e1,e,d]
theorem MJ {a:List It}{l b:List V}{h:H}{Q:List V->H->Prop}(e1:v=v')(d:l=b)(e:h=h'):BW p a v l h Q=BW p a v' b h' Q:=by rw[e1,e,d]
theorem NY {base a:Nat}{xs:List AI}{l:Log}{h:H}{Q:List V->H->Prop}(b:base=a)(e1:v=v')(d:h=h'):CF p base xs v l h Q=CF p a xs v' l h' Q:=by rw[b,e1,d]
theorem TN {rd:Option Nat}{h:H}{Q:E->List V->H->Prop}(e1:v=v')(a:h=h'):Wp p rd c v h Q=Wp p rd c v' h' Q:=by rw[e1,a]
def Ot (p:Nat->Option Fn)(rd:Option Nat)(a b:C)(vars:List V)(h:H)(Q:E->List V->H->Prop)(v:V):Prop:=match v with| .bool true=>Wp p rd a vars h Q| .bool false=>Wp p rd b vars h Q|_=>False
section
variable {rd:Option Nat} {a b:C} {vars:List V} {h:H} {Q:E->List V->H->Prop}
theorem EB {v v':V}(e:v=v'):Ot p rd a b vars h Q v=Ot p rd a b vars h Q v':=by rw[e]
theorem LS:Ot p rd a b vars h Q (.bool true)=Wp p rd a vars h Q:=rfl
theorem DF:Ot p rd a b vars h Q (.bool false)=Wp p rd b vars h Q:=rfl
theorem bA {P:Prop}[Decidable P](x:P->Wp p rd a vars h Q)(y: ¬P->Wp p rd b vars h Q):Ot p rd a b vars h Q (.bool (decide P)):=by
 by_cases h:P
 ·rw[decide_eq_true h];exact x h
 ·rw[decide_eq_false h];exact y h
theorem UG {t:Bool}:Ot p rd a b vars h Q (.bool (!t))=Ot p rd b a vars h Q (.bool t):=by cases t<;>rfl
end
def unc (K:V->H->Prop):V×H->Prop:=λr=>K r.1 r.2
theorem agT (K:V->H->Prop)(v:V)(h:H):unc K (v,h)=K v h:=rfl
def WJ (p:Nat->Option Fn)(d:D)(its:List It)(vars loc:List V)(Q:List V->H->Prop):V->H->Prop:=λv h'=>BW p its (lI d vars loc v).1 (lI d vars loc v).2 h' Q
theorem acW (d:D)(f:List It)(vars e:List V)(Q:List V->H->Prop)(v:V)(h':H):WJ p d f vars e Q v h'=BW p f (lI d vars e v).1 (lI d vars e v).2 h' Q:=rfl
def AY (p:Nat->Option Fn)(d:D)(a:dO)(its:List It)(vars loc:List V)(h:H)(Q:List V->H->Prop)(w:Bool):Prop:=match w with
 |true=>Rg p vars loc h a (WJ p d its vars loc Q)
 |false=>BW p its (lI d vars loc .undef).1 (lI d vars loc .undef).2 h Q
section
variable {d:D} {a:dO} {its:List It} {vars loc:List V} {h:H} {Q:List V->H->Prop}
theorem Za {v v':Bool}(e:v=v'):AY p d a its vars loc h Q v=AY p d a its vars loc h Q v':=by rw[e]
theorem FF:AY p d a its vars loc h Q true=Rg p vars loc h a (WJ p d its vars loc Q):=rfl
theorem AE:AY p d a its vars loc h Q false=BW p its (lI d vars loc .undef).1 (lI d vars loc .undef).2 h Q:=rfl
end
def Vl (p:Nat->Option Fn)(base:Nat)(x:AI)(xs:List AI)(vars:List V)(log:Log)(Q:List V->H->Prop):V->H->Prop:=λv h'=>rG x.cks log h'=true/\CF p base xs (lI x.it.d vars [] v).1 (Lh x vars v log) h' Q
theorem abG (base i:Nat)(d:D)(g:Option (X×Bool))(a:dO)(al:Bool)(cks:List Nat)(xs:List AI)(vars:List V)(e:Log)(Q:List V->H->Prop)(v:V)(h':H):Vl p base ⟨i,⟨d,g,a⟩,al,cks⟩ xs vars e Q v h'=(rG cks e h'=true/\CF p base xs (lI d vars [] v).1 (Lh ⟨i,⟨d,g,a⟩,al,cks⟩ vars v e) h' Q):=rfl
def Rl (p:Nat->Option Fn)(base i:Nat)(d:D)(x:X)(b:Bool)(a:dO)(al:Bool)(cks:List Nat)(xs:List AI)(vars:List V)(log:Log)(h:H)(Q:List V->H->Prop)(w:Bool):Prop:=match w,al with
 |true,true=>mI (Pb vars h (base+i) a) (unc (Vl p base ⟨i,⟨d,some (x,b),a⟩,true,cks⟩ xs vars log Q))
 |true,false=>Rg p vars [] h a (Vl p base ⟨i,⟨d,some (x,b),a⟩,false,cks⟩ xs vars log Q)
 |false,_=>rG cks log h=true/\CF p base xs (lI d vars [] .undef).1 log h Q
section
variable {base i:Nat} {d:D} {x:X} {b al:Bool} {a:dO} {cks:List Nat} {xs:List AI} {vars:List V} {log:Log} {h:H} {Q:List V->H->Prop}
theorem Ya {v v':Bool}(e:v=v'):Rl p base i d x b a al cks xs vars log h Q v=Rl p base i d x b a al cks xs vars log h Q v':=by rw[e]
theorem WY:Rl p base i d x b a true cks xs vars log h Q true=mI (Pb vars h (base+i) a) (unc (Vl p base ⟨i,⟨d,some (x,b),a⟩,true,cks⟩ xs vars log Q)):=rfl
theorem TA:Rl p base i d x b a false cks xs vars log h Q true=Rg p vars [] h a (Vl p base ⟨i,⟨d,some (x,b),a⟩,false,cks⟩ xs vars log Q):=rfl
theorem abU:Rl p base i d x b a al cks xs vars log h Q false=(rG cks log h=true/\CF p base xs (lI d vars [] .undef).1 log h Q):=rfl
end
theorem BZ (p:Nat->Option Fn){N j f e:Nat}(k:N<=j)(h2:f<=e):Le (jO p N f).1 (jO p j e).1/\Le (jO p N f).2 (jO p j e).2:=AG p k f e h2
theorem afR (vars loc:List V)(h:H)(i:I)(Q:V->H->Prop):Rg p vars loc h (.op i) Q=mI (cK (xv vars loc) h i) (unc Q):=by
 unfold Rg mI;refine propext ⟨λ⟨N,f,v,h',e,q⟩=>⟨(v,h'),by rw[tQ] at e;exact e,q⟩,λ⟨r,e,q⟩=>⟨0,0,r.1,r.2,by rw[tQ];exact e,q⟩⟩
theorem XW (vars loc:List V)(h:H)(g:Nat)(args:List X)(Q:V->H->Prop):Rg p vars loc h (.call g args) Q=Ev p g (args.map (xv vars loc)) h Q:=by
 unfold Rg Ev;simp only[tS]
def Da (p:Nat->Option Fn)(x:V)(args:List V)(h:H)(Q:V->H->Prop):Prop:=match x with
 | .fn g fs cs=>Ev p g (fs++args++cs) h Q
 | .yl id=>Ey p id args h Q
 |_=>False
theorem Da.mono {x:V}{h:H}{Q:V->H->Prop}(e:Da p x args h Q)(k: ∀v h',Q v h'->R v h'):Da p x args h R:=by
 unfold Da at*;split at e
 ·exact e.mono k
 ·exact e.mono k
 ·exact e.elim
theorem Xn {x e:V}{a:List V}{h:H}{Q:V->H->Prop}(f:x=e)(e1:a=a')(j:h=h'):Da p x a h Q=Da p e a' h' Q:=by rw[f,e1,j]
theorem VH (g:Nat)(e f args:List V)(h:H)(Q:V->H->Prop):Da p (.fn g e f) args h Q=Ev p g (e++args++f) h Q:=rfl
theorem WH (id:Nat)(args:List V)(h:H)(Q:V->H->Prop):Da p (.yl id) args h Q=Ey p id args h Q:=rfl
theorem KM (vars loc:List V)(h:H)(x:X)(args:List X)(Q:V->H->Prop):Rg p vars loc h (.callv x args) Q=Da p (xv vars loc x) (args.map (xv vars loc)) h Q:=by
 unfold Rg;simp only[rL];unfold Da;cases xv vars loc x<;>simp [Ev,Ey]
def Vp (p:Nat->Option Fn)(g t:Nat)(x:V)(args:List V)(h:H)(Q:V->H->Prop):Prop:=match x with
 | .ifc u v=>u=t/\Ev p g (v::args) h Q
 |_=>False
theorem DQ (g t:Nat)(v:V)(args:List V)(h:H)(Q:V->H->Prop):Vp p g t (.ifc t v) args h Q=Ev p g (v::args) h Q:=by
 simp [Vp]
theorem NA (vars loc:List V)(h:H)(g t:Nat)(x:X)(args:List X)(Q:V->H->Prop):Rg p vars loc h (.calli g t x args) Q=Vp p g t (xv vars loc x) (args.map (xv vars loc)) h Q:=by
 unfold Rg;simp only[rE];unfold Vp;cases xv vars loc x<;>simp only[reduceCtorEq,false_and,exists_false];rename_i u v
 by_cases e:u=t
 ·subst e
  simp [Ev]
 ·have:Nat.beq u t=false:=by
   cases hq:Nat.beq u t with
   |false=>rfl
   |true=>exact absurd (Nat.eq_of_beq_eq_true hq) e
  simp [this,e]
def Uw (p:Nat->Option Fn)(g:Nat)(vs:List V)(h:H)(Q:V->H->Prop):Prop:=vs.all V.Jh=true/\Ev p g vs ⟨.lf,0⟩ (λv _=>v.Jh=true/\Q v h)
theorem NO (vars loc:List V)(h:H)(g:Nat)(args:List X)(Q:V->H->Prop):Rg p vars loc h (.callp g args) Q=Uw p g (args.map (xv vars loc)) h Q:=by
 unfold Rg Uw Ev;refine propext ⟨λ⟨N,f,v,h',e,q⟩=>?_,λ⟨j,N,f,v,h',e,k,q⟩=>⟨N,f,v,h,?_,q⟩⟩
 ·rw[lD] at e
  obtain⟨rfl,j,k,l,m⟩:=xS e;exact⟨j,N,f,v,l,m,k,q⟩
 ·rw[lD]
  unfold Lg;simp only[j,e,k,cond_true]
theorem Uw.intro {vs:List V}{h:H}{Q:V->H->Prop}(e:Ev p g vs ⟨.lf,0⟩ R)(f:vs.all V.Jh=true)(k: ∀v h',R v h'->v.Jh=true/\Q v h):Uw p g vs h Q:=⟨f,e.mono k⟩
theorem ZK (vars loc:List V)(h:H)(Q:List V->H->Prop):BW p [] vars loc h Q=Q vars h:=by
 unfold BW;refine propext ⟨λ⟨N,f,v,h',e,q⟩=>?_,λq=>⟨0,0,vars,h,rfl,q⟩⟩;rw[Ka] at e;cases e;exact q
theorem TZ (d:D)(a:dO)(its:List It)(vars loc:List V)(h:H)(Q:List V->H->Prop):
  BW p (⟨d,none,a⟩::its) vars loc h Q=Rg p vars loc h a (WJ p d its vars loc Q):=by
 unfold WJ BW Rg
 refine propext ⟨λ⟨N,f,v,h',e,q⟩=>?_,λ⟨N,f,v,j,e,N2,f2,vars',h',e2,q⟩=>?_⟩
 ·rw[mQ] at e
  simp only[fU] at e
  split at e
  ·rename_i n j m
   exact⟨N,f,n,j,m,N,f,v,h',e,q⟩
  ·cases e
 ·refine⟨max N N2,max f f2,vars',h',?_,q⟩
  rw[mQ]
  have l:=BZ p (Nat.le_max_left N N2) (Nat.le_max_left f f2)
  have k:=BZ p (Nat.le_max_right N N2) (Nat.le_max_right f f2)
  simp only[fU,pN l.1 l.2 e]
  exact pJ k.1 k.2 _ _ _ _ _ e2
theorem MM (d:D)(x:X)(b:Bool)(a:dO)(its:List It)(vars loc:List V)(h:H)(Q:List V->H->Prop):
  BW p (⟨d,some (x,b),a⟩::its) vars loc h Q=mI (fU vars loc (some (x,b))) (AY p d a its vars loc h Q):=by
 unfold mI
 refine propext ⟨λ⟨N,f,v,h',e,q⟩=>?_,λ⟨w,l,k⟩=>?_⟩
 ·rw[mQ] at e
  split at e
  ·rename_i l
   refine⟨true,l,?_⟩
   split at e
   ·rename_i t r y
    exact⟨N,f,t,r,y,N,f,v,h',e,q⟩
   ·cases e
  ·rename_i l
   exact⟨false,l,N,f,v,h',e,q⟩
  ·cases e
 ·cases w with
  |true=>
   obtain⟨N,f,v,r,e,m,n,j,h',u,q⟩:=k;refine⟨max N m,max f n,j,h',?_,q⟩;rw[mQ];have s:=BZ p (Nat.le_max_left N m) (Nat.le_max_left f n);have o:=BZ p (Nat.le_max_right N m) (Nat.le_max_right f n);simp only[l,pN s.1 s.2 e];exact pJ o.1 o.2 _ _ _ _ _ u
  |false=>
   obtain⟨N,f,v,h',e,q⟩:=k;refine⟨N,f,v,h',?_,q⟩;rw[mQ];simp only[l];exact e
theorem aaA (base:Nat)(vars:List V)(log:Log)(h:H)(Q:List V->H->Prop):CF p base [] vars log h Q=Q vars h:=by
 unfold CF;refine propext ⟨λ⟨N,f,v,h',e,q⟩=>?_,λq=>⟨0,0,vars,h,rfl,q⟩⟩;rw[Kd] at e;cases e;exact q
theorem RH (base i:Nat)(d:D)(a:dO)(cks:List Nat)(xs:List AI)(vars:List V)(log:Log)(h:H)(Q:List V->H->Prop):
  CF p base (⟨i,⟨d,none,a⟩,false,cks⟩::xs) vars log h Q=Rg p vars [] h a (Vl p base ⟨i,⟨d,none,a⟩,false,cks⟩ xs vars log Q):=by
 unfold Vl CF Rg
 refine propext ⟨λ⟨N,f,v,h',e,q⟩=>?_,λ⟨N,f,v,k,e,j,N2,f2,vars',h',e2,q⟩=>?_⟩
 ·rw[iY] at e
  simp only[fU,Bool.false_eq_true,if_false] at e
  split at e
  ·rename_i o k n
   split at e
   ·rename_i j
    exact⟨N,f,o,k,n,j,N,f,v,h',e,q⟩
   ·cases e
  ·cases e
 ·refine⟨max N N2,max f f2,vars',h',?_,q⟩
  rw[iY]
  have m:=BZ p (Nat.le_max_left N N2) (Nat.le_max_left f f2)
  have l:=BZ p (Nat.le_max_right N N2) (Nat.le_max_right f f2)
  simp only[fU,Bool.false_eq_true,if_false,pN m.1 m.2 e,j,if_true]
  exact uE l.1 l.2 _ _ _ _ _ e2
theorem JU (base i:Nat)(d:D)(a:dO)(cks:List Nat)(xs:List AI)(vars:List V)(log:Log)(h:H)(Q:List V->H->Prop):
  CF p base (⟨i,⟨d,none,a⟩,true,cks⟩::xs) vars log h Q=mI (Pb vars h (base+i) a) (unc (Vl p base ⟨i,⟨d,none,a⟩,true,cks⟩ xs vars log Q)):=by
 unfold unc Vl CF mI
 refine propext ⟨λ⟨N,f,v,h',e,q⟩=>?_,λ⟨r,e,j,N2,f2,vars',h',e2,q⟩=>?_⟩
 ·rw[iY] at e
  simp only[fU,if_true] at e
  split at e
  ·rename_i m k l
   split at e
   ·rename_i j
    exact⟨(m,k),l,j,N,f,v,h',e,q⟩
   ·cases e
  ·cases e
 ·refine⟨N2,f2,vars',h',?_,q⟩
  rw[iY]
  obtain⟨v,k⟩:=r
  simp only[fU,if_true,e,j]
  exact e2
theorem NZ (base i:Nat)(d:D)(x:X)(b:Bool)(a:dO)(al:Bool)(cks:List Nat)(xs:List AI)(vars:List V)(log:Log)(h:H)(Q:List V->H->Prop):
  CF p base (⟨i,⟨d,some (x,b),a⟩,al,cks⟩::xs) vars log h Q=mI (fU vars [] (some (x,b))) (Rl p base i d x b a al cks xs vars log h Q):=by
 unfold mI
 refine propext ⟨λ⟨N,f,v,h',e,q⟩=>?_,λ⟨w,n,k⟩=>?_⟩
 ·rw[iY] at e
  split at e
  ·rename_i n
   refine⟨true,n,?_⟩
   cases al with
   |true=>
    simp only[if_true] at e;split at e
    ·rename_i t s u
     split at e
     ·rename_i l
      exact⟨(t,s),u,l,N,f,v,h',e,q⟩
     ·cases e
    ·cases e
   |false=>
    simp only[Bool.false_eq_true,if_false] at e;split at e
    ·rename_i t s u
     split at e
     ·rename_i l
      exact⟨N,f,t,s,u,l,N,f,v,h',e,q⟩
     ·cases e
    ·cases e
  ·rename_i n
   split at e
   ·rename_i l
    exact⟨false,n,l,N,f,v,h',e,q⟩
   ·cases e
  ·cases e
 ·cases w with
  |true=>
   cases al with
   |true=>
    obtain⟨⟨v,s⟩,e,l,m,o,j,h',r,q⟩:=k;refine⟨m,o,j,h',?_,q⟩;rw[iY];simp only[n,if_true,e,l];exact r
   |false=>
    obtain⟨N,f,v,s,e,l,m,o,j,h',r,q⟩:=k;refine⟨max N m,max f o,j,h',?_,q⟩;rw[iY];have z:=BZ p (Nat.le_max_left N m) (Nat.le_max_left f o);have y:=BZ p (Nat.le_max_right N m) (Nat.le_max_right f o);simp only[n,Bool.false_eq_true,if_false,pN z.1 z.2 e,l,if_true];exact uE y.1 y.2 _ _ _ _ _ r
  |false=>
   obtain⟨l,m,o,j,h',r,q⟩:=k;refine⟨m,o,j,h',?_,q⟩;rw[iY];simp only[n,l,if_true];exact r
variable {rd:Option Nat} {vars:List V} {h:H} {Q:E->List V->H->Prop}
theorem adZ:Wp p rd .skip vars h Q=Q .norm vars h:=by
 unfold Wp;simp only[Hx];exact propext ⟨λ⟨_,_,_,_,_,e,q⟩=>by cases e;exact q,λq=>⟨0,0,_,_,_,rfl,q⟩⟩
theorem agO:Wp p rd .ret vars h Q=Q .ret vars h:=by
 unfold Wp;simp only[Vn];exact propext ⟨λ⟨_,_,_,_,_,e,q⟩=>by cases e;exact q,λq=>⟨0,0,_,_,_,rfl,q⟩⟩
theorem abF (n:Nat):Wp p rd (.exit n) vars h Q=Q (.exit n) vars h:=by
 unfold Wp;simp only[Mq];exact propext ⟨λ⟨_,_,_,_,_,e,q⟩=>by cases e;exact q,λq=>⟨0,0,_,_,_,rfl,q⟩⟩
theorem XY (a:C):Wp p rd (.scope a) vars h Q=Wp p rd a vars h Q:=by
 unfold Wp;simp only[Kf]
theorem afM (its:List It):Wp p rd (.reg its) vars h Q=BW p its vars [] h (Q .norm):=by
 unfold Wp BW;simp only[Ut];refine propext ⟨λ⟨N,f,e,v,h',he,q⟩=>?_,λ⟨N,f,v,h',he,q⟩=>⟨N,f,.norm,v,h',by rw[he],q⟩⟩;split at he
 ·rename_i j;cases he;exact⟨N,f,_,_,j,q⟩
 ·cases he
def ahW (n:Nat)(Q:E->List V->H->Prop):List V->H->Prop:=λvs h'=>Q .norm (vs.take n) h'
theorem acG (n:Nat)(vs:List V)(h':H):ahW n Q vs h'=Q .norm (vs.take n) h':=rfl
theorem afL (k j:Nat)(its:List AI):Wp p rd (.any k j its) vars h Q=CF p h.next its (vars++List.replicate j .unk) [] {h with next:=h.next+k} (ahW vars.length Q):=by
 unfold ahW Wp CF;simp only[Uk];refine propext ⟨λ⟨N,f,e,v,h',he,q⟩=>?_,λ⟨N,f,v,h',he,q⟩=>⟨N,f,.norm,_,h',by rw[he],q⟩⟩;split at he
 ·rename_i l;cases he;exact⟨N,f,_,_,l,q⟩
 ·cases he
def Nu (p:Nat->Option Fn)(rd:Option Nat)(b:C)(Q:E->List V->H->Prop):E->List V->H->Prop:=λe vars h=>match e with| .norm=>Wp p rd b vars h Q|e=>Q e vars h
theorem Pa (b:C)(vars:List V)(h:H):Nu p rd b Q .norm vars h=Wp p rd b vars h Q:=rfl
theorem LC (b:C)(vars:List V)(h:H):Nu p rd b Q .ret vars h=Q .ret vars h:=rfl
theorem CS (b:C)(n:Nat)(vars:List V)(h:H):Nu p rd b Q (.exit n) vars h=Q (.exit n) vars h:=rfl
theorem TC (a b:C):Wp p rd (.seq a b) vars h Q=Wp p rd a vars h (Nu p rd b Q):=by
 refine propext ⟨λ⟨N,f,e,v,h',he,q⟩=>?_,λ⟨N,f,e,v,o,he,k⟩=>?_⟩
 ·rw[run_seq] at he
  cases hr:run (jO p N f).1 (jO p N f).2 N rd a vars h with
  |none=>simp [hr] at he
  |some r=>
   obtain⟨B,t,F,o⟩:=r;simp only[hr] at he
   cases B with
   |norm=>
    simp only at he
    cases hr2:run (jO p N f).1 (jO p N f).2 N rd b t o with
    |none=>simp [hr2] at he
    |some r=>
     obtain⟨w,z,G,A⟩:=r;simp only[hr2,Option.some.injEq,Prod.mk.injEq] at he;obtain⟨rfl,rfl,s,rfl⟩:=he;simp only[List.append_eq_nil_iff] at s;obtain⟨rfl,rfl⟩:=s;exact⟨N,f,.norm,t,o,hr,N,f,_,_,_,hr2,q⟩
   |ret=>simp only at he;cases he;exact⟨N,f,_,_,_,hr,q⟩
   |exit n=>simp only at he;cases he;exact⟨N,f,_,_,_,hr,q⟩
 ·cases e with
  |norm=>
   obtain⟨j,m,w,z,A,l,q⟩:=k;refine⟨max N j,max f m,w,z,A,?_,q⟩;have y:=BZ p (Nat.le_max_left N j) (Nat.le_max_left f m);have u:=BZ p (Nat.le_max_right N j) (Nat.le_max_right f m);rw[run_seq,iH y.1 y.2 (Nat.le_max_left N j) _ _ _ _ he];simp only[iH u.1 u.2 (Nat.le_max_right N j) _ _ _ _ l]
   rfl
  |ret=>exact⟨N,f,_,_,_,by rw[run_seq,he],k⟩
  |exit n=>exact⟨N,f,_,_,_,by rw[run_seq,he],k⟩
theorem agN (x:X)(a b:C):Wp p rd (.ite x a b) vars h Q=Ot p rd a b vars h Q (xv vars [] x):=by
 unfold Ot Wp;simp only[run_ite]
 cases xv vars [] x with
 |bool t=>cases t<;>rfl
 |_=>exact propext ⟨λ⟨_,_,_,_,_,e,_⟩=>(nomatch e),λh=>h.elim⟩
def vN (id:Nat)(Q:E->List V->H->Prop):E->List V->H->Prop:=λe vars h=>match e with| .exit n=>if n=id then Q .norm vars h else Q (.exit n) vars h|e=>Q e vars h
theorem Zs (id:Nat)(vars:List V)(h:H):vN id Q .norm vars h=Q .norm vars h:=rfl
theorem DO (id:Nat)(vars:List V)(h:H):vN id Q .ret vars h=Q .ret vars h:=rfl
theorem Aw (id:Nat)(vars:List V)(h:H):vN id Q (.exit id) vars h=Q .norm vars h:=bJ rfl
theorem KB (id n:Nat)(e:n≠id)(vars:List V)(h:H):vN id Q (.exit n) vars h=Q (.exit n) vars h:=bL e
theorem AB (id:Nat)(a:C):Wp p rd (.block id a) vars h Q=Wp p rd a vars h (vN id Q):=by
 unfold Wp;simp only[Jq];refine propext ⟨λ⟨N,f,e,v,h',he,q⟩=>?_,λ⟨N,f,e,v,l,he,k⟩=>?_⟩
 ·cases hr:run (jO p N f).1 (jO p N f).2 N rd a vars h with
  |none=>simp [hr] at he
  |some r=>
   obtain⟨m,o,s,l⟩:=r;simp only[hr] at he
   cases m with
   |exit n=>
    simp only at he;split at he
    ·rename_i j;cases he;exact⟨N,f,_,_,_,hr,by simp only[vN];rw[bJ j];exact q⟩
    ·rename_i j;cases he;exact⟨N,f,_,_,_,hr,by simp only[vN];rw[bL j];exact q⟩
   |norm=>simp only at he;cases he;exact⟨N,f,_,_,_,hr,q⟩
   |ret=>simp only at he;cases he;exact⟨N,f,_,_,_,hr,q⟩
 ·cases e with
  |exit n=>
   simp only[vN] at k;split at k
   ·rename_i j;exact⟨N,f,_,_,_,by rw[he];simp only;rw[bJ j],k⟩
   ·rename_i j;exact⟨N,f,_,_,_,by rw[he];simp only;rw[bL j],k⟩
  |norm=>exact⟨N,f,_,_,_,by rw[he],k⟩
  |ret=>exact⟨N,f,_,_,_,by rw[he],k⟩
def Xd (J:List V->H->Prop)(Q:E->List V->H->Prop):E->List V->H->Prop:=λe vars h=>match e with| .norm=>J vars h|e=>Q e vars h
theorem AR (J:List V->H->Prop)(vars:List V)(h:H):Xd J Q .norm vars h=J vars h:=rfl
theorem DI (J:List V->H->Prop)(vars:List V)(h:H):Xd J Q .ret vars h=Q .ret vars h:=rfl
theorem Zu (J:List V->H->Prop)(n:Nat)(vars:List V)(h:H):Xd J Q (.exit n) vars h=Q (.exit n) vars h:=rfl
theorem aI (J:Nat->List V->H->Prop)(k:Nat)(A:J k vars h)
  (step: ∀k vars h,J k vars h->Wp p rd c vars h (Xd (λv h'=> ∃k',k'<k/\J k' v h') Q)):Wp p rd (.loop c) vars h Q:=by
 have w: ∀k vars h,J k vars h-> ∃N f n e j h',Be (run (jO p N f).1 (jO p N f).2 N rd c) n vars h=some (e,j, [],h')/\Q e j h':=by
  intro k
  induction k using Nat.strongRecOn with
  |ind k ih=>
   intro vars h G;obtain⟨N,f,e,v,K,m,q⟩:=step k vars h G
   cases e with
   |norm=>
    obtain⟨k',t,o⟩:=q;obtain⟨l,u,n,F,L,O,s,B⟩:=ih k' t v K o;have z:=BZ p (Nat.le_max_left N l) (Nat.le_max_left f u);have y:=BZ p (Nat.le_max_right N l) (Nat.le_max_right f u);refine⟨max N l,max f u,n+1,F,L,O,?_,B⟩;rw[uA,iH z.1 z.2 (Nat.le_max_left N l) _ _ _ _ m];simp only[xP (λv h r=>iH y.1 y.2 (Nat.le_max_right N l) c v h r) n n (eH _) _ _ _ s]
    rfl
   |ret=>exact⟨N,f,1,_,_,_,by rw[uA,m],q⟩
   |exit n=>exact⟨N,f,1,_,_,_,by rw[uA,m],q⟩
 obtain⟨N,f,n,e,v,h',m,q⟩:=w k vars h A
 refine⟨max N n,f,e,v,h',?_,q⟩
 have b:=BZ p (Nat.le_max_left N n) (eH f)
 rw[Qj]
 exact xP (λv h r=>iH b.1 b.2 (Nat.le_max_left N n) c v h r) n (max N n) (Nat.le_max_right N n) _ _ _ m
def VN (id:Nat)(vars:List V)(Q:E->List V->H->Prop):V->H->Prop:=λ_ h'=> ∃r,h'.get id=some (.loop r)/\r.st≠ .busy/\Q (r.pend.getD .norm) vars (h'.set id (some (.loop {r with st:= .out})))
def Px (p:Nat->Option Fn)(rd:Option Nat)(x:V)(pars:List Nat)(assign body:C)(vars:List V)(h:H)(Q:E->List V->H->Prop):Prop:=
 match x with
 | .fn g fs cs=>LI rd h=true/\Ev p g (fs++ .yl h.next::cs) (h.new (.loop {vars,pars,assign,body,st:= .ready,pend:=none})) (VN h.next vars Q)
 |_=>False
theorem Uh {x f:V}{e:List Nat}{a b:C}{h:H}(j:x=f)(e1:v=v')(k:h=h'):Px p rd x e a b v h Q=Px p rd f e a b v' h' Q:=by rw[j,e1,k]
theorem LX (g:Nat)(f e:List V)(pars:List Nat)(assign body:C):Px p rd (.fn g f e) pars assign body vars h Q=(LI rd h=true/\Ev p g (f++ .yl h.next::e) (h.new (.loop {vars,pars,assign,body,st:= .ready,pend:=none})) (VN h.next vars Q)):=rfl
theorem PJ (x:X)(j:List Nat)(a b:C):Wp p rd (.range x j a b) vars h Q=Px p rd (xv vars [] x) j a b vars h Q:=by
 unfold Wp Px;simp only[Jy,Bd]
 cases xv vars [] x with
 |fn g fs cs=>
  simp only;refine propext ⟨λ⟨N,f,e,v,h',he,q⟩=>?_,λ⟨k,N,f,v,h',he,r,l,m,q⟩=>?_⟩
  ·split at he
   ·rename_i k
    refine⟨k,?_⟩;split at he
    ·rename_i s o n
     split at he
     ·rename_i r l
      split at he
      ·cases he
      ·rename_i m
       cases he;exact⟨N,f,s,o,n,r,l,m,q⟩
     ·cases he
    ·cases he
   ·cases he
  ·refine⟨N,f,_,_,_,?_,q⟩
   rw[bJ k];simp only[he,l];rw[bL m]
 |_=>exact propext ⟨λ⟨_,_,_,_,_,e,_⟩=>(nomatch e),λh=>h.elim⟩
def adQ (Q:V->H->Prop)(h:H):List V->Prop:=λvs=>Q (Js vs) h
theorem abZ (Q:V->H->Prop)(h:H)(vs:List V):adQ Q h vs=Q (Js vs) h:=rfl
def KY (results:List Rv)(Q:V->H->Prop):E->List V->H->Prop:=λe vars h=>match e with
 | .exit _=>False
 |_=>mI (cI (results.map (Ch vars h))) (adQ Q h)
theorem JY (results:List Rv)(Q:V->H->Prop)(vars:List V)(h:H):KY results Q .norm vars h=mI (cI (results.map (Ch vars h))) (adQ Q h):=rfl
theorem XA (results:List Rv)(Q:V->H->Prop)(vars:List V)(h:H):KY results Q .ret vars h=mI (cI (results.map (Ch vars h))) (adQ Q h):=rfl
theorem Kg {j:Fn}{h:H}{Q:V->H->Prop}(o:p g=some j)(m:args.length=j.nargs)(s:Wp p none j.body (Af j args) h (KY j.results Q)):Ev p g args h Q:=by
 obtain⟨N,f,e,v,h',r,q⟩:=s
 cases e with
 |exit n=>exact q.elim
 |norm=>
  obtain⟨l,k,q⟩:=q;refine⟨N,f+1,Js l,h',?_,q⟩;rw[qS];simp only[Bf,o,m,if_true,r,vX,k,Option.map_some]
 |ret=>
  obtain⟨l,k,q⟩:=q;refine⟨N,f+1,Js l,h',?_,q⟩;rw[qS];simp only[Bf,o,m,if_true,r,vX,k,Option.map_some]
def Jp (id:Nat)(Q:V->H->Prop):E->List V->H->Prop:=λe _ h=> ∃r3,h.get id=some (.loop r3)/\(match e with
 | .norm=>Q (.bool true) (h.set id (some (.loop {r3 with st:= .ready,pend:=none})))
 |e=>Q (.bool false) (h.set id (some (.loop {r3 with st:= .done,pend:=some e}))))
theorem aeQ {id:Nat}{h:H}{Q:V->H->Prop}{r:dY}(y:h.get id=some (.loop r))(u:args.length=r.pars.length)
  (z:Wp p (some id) r.assign ((r.pars.zip args).foldl (λvs q=>vs.set q.1 q.2) r.vars) h λe vars h1=>e= .norm/\ ∃r2,h1.get id=some (.loop r2)/\r2.st= .ready/\
   Wp p (some id) r.body vars (h1.set id (some (.loop {r2 with st:= .busy}))) (Jp id Q)):Ey p id args h Q:=by
 obtain⟨N,f,e,v,h1,w,rfl,r2,m,iB,j,s,A,F,G,k,B,l,q⟩:=z
 have t:=BZ p (show N<=max N j by omega) (show f<=max f s by omega)
 have o:=BZ p (show j<=max N j by omega) (show s<=max f s by omega)
 cases A with
 |norm=>
  refine⟨max N j,max f s+1,.bool true,_,?_,q⟩;rw[qS];simp only[vG,y,u,if_true,iH t.1 t.2 (show N<=max N j by omega) _ _ _ _ w,m,iB,iH o.1 o.2 (show j<=max N j by omega) _ _ _ _ k,l]
 |ret=>
  refine⟨max N j,max f s+1,.bool false,_,?_,q⟩;rw[qS];simp only[vG,y,u,if_true,iH t.1 t.2 (show N<=max N j by omega) _ _ _ _ w,m,iB,iH o.1 o.2 (show j<=max N j by omega) _ _ _ _ k,l]
 |exit n=>
  refine⟨max N j,max f s+1,.bool false,_,?_,q⟩;rw[qS];simp only[vG,y,u,if_true,iH t.1 t.2 (show N<=max N j by omega) _ _ _ _ w,m,iB,iH o.1 o.2 (show j<=max N j by omega) _ _ _ _ k,l]
end
end
end Go.Ay
