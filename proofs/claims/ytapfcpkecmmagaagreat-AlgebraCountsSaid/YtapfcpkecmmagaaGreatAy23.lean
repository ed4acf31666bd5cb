/- The abstract machine, by weakest preconditions. -/
import Derived.Test.YtapfcpkecmmagaaGreatAy22
namespace Go.Ay
section
variable {g:Nat} {args a' v v':List V} {R:V->H->Prop} {c:C} {h':H}
def jT {α:Type}(o:Option α)(K:α->Prop):Prop:= ∃a,o=some a/\K a
theorem Ir {α:Type}(a:α)(K:α->Prop):jT (some a) K=K a:=propext ⟨λ⟨_,h,k⟩=>by cases h;exact k,λk=>⟨a,rfl,k⟩⟩
theorem Gd {α:Type}{o a:Option α}{K:α->Prop}(h:o=a):jT o K=jT a K:=by rw[h]
section
variable (p:Nat->Option Fn)
def Ev (g:Nat)(args:List V)(h:H)(Q:V->H->Prop):Prop:= ∃N f v h',(iL p N f).1 g args h=some (v,h')/\Q v h'
def Ey (id:Nat)(args:List V)(h:H)(Q:V->H->Prop):Prop:= ∃N f v h',(iL p N f).2 id args h=some (v,h')/\Q v h'
def Es (vars loc:List V)(h:H)(a:dR)(Q:V->H->Prop):Prop:= ∃N f v h',jI (iL p N f).1 (iL p N f).2 vars loc h a=some (v,h')/\Q v h'
def Ks (its:List It)(vars loc:List V)(h:H)(Q:List V->H->Prop):Prop:= ∃N f vars' h',oD (iL p N f).1 (iL p N f).2 its vars loc h=some (vars',h')/\Q vars' h'
def Lh (base:Nat)(xs:List AI)(vars:List V)(log:Log)(h:H)(Q:List V->H->Prop):Prop:= ∃N f vars' h',oW (iL p N f).1 (iL p N f).2 base xs vars log h=some (vars',h')/\Q vars' h'
def Wp (rd:Option Nat)(c:C)(vars:List V)(h:H)(Q:E->List V->H->Prop):Prop:=
 ∃N f e vars' h',run (iL p N f).1 (iL p N f).2 N rd c vars h=some (e,vars', [],h')/\Q e vars' h'
variable {p}
theorem Ev.mono {h:H}{Q:V->H->Prop}(e:Ev p g args h Q)(k: ∀v h',Q v h'->R v h'):Ev p g args h R:=by
 obtain⟨N,f,v,h',e,q⟩:=e;exact⟨N,f,v,h',e,k _ _ q⟩
theorem Ey.mono {id:Nat}{h:H}{Q:V->H->Prop}(e:Ey p id args h Q)(k: ∀v h',Q v h'->R v h'):Ey p id args h R:=by
 obtain⟨N,f,v,h',e,q⟩:=e;exact⟨N,f,v,h',e,k _ _ q⟩
theorem Wp.mono {rd:Option Nat}{b:List V}{h:H}{Q R:E->List V->H->Prop}(e:Wp p rd c b h Q)(k: ∀e v h',Q e v h'->R e v h'):Wp p rd c b h R:=by
 obtain⟨N,f,a,v,h',e,q⟩:=e;exact⟨N,f,a,v,h',e,k _ _ _ q⟩
theorem Ks.mono {d:List It}{a b:List V}{h:H}{Q R:List V->H->Prop}(e:Ks p d a b h Q)(k: ∀v h',Q v h'->R v h'):Ks p d a b h R:=by
 obtain⟨N,f,v,h',e,q⟩:=e;exact⟨N,f,v,h',e,k _ _ q⟩
theorem Ya {a:List V}{h:H}{Q:V->H->Prop}(e1:a=a')(b:h=h'):Ev p g a h Q=Ev p g a' h' Q:=by rw[e1,b]
theorem Vz {a:List V}{h:H}{Q:V->H->Prop}(e1:a=a')(b:h=h'):Ey p g a h Q=Ey p g a' h' Q:=by rw[e1,b]
theorem Sd {a:dR}{l b:List V}{h:H}{Q:V->H->Prop}(e1:v=v')(e:l=b)(d:h=h'):Es p v l h a Q=Es p v' b h' a Q:=by rw[e1,d,e]
theorem Qg {a:List It}{l b:List V}{h:H}{Q:List V->H->Prop}(e1:v=v')(e:l=b)(d:h=h'):Ks p a v l h Q=Ks p a v' b h' Q:=by rw[e1,d,e]
theorem Ql {base a:Nat}{xs:List AI}{l:Log}{h:H}{Q:List V->H->Prop}(d:base=a)(e1:v=v')(b:h=h'):Lh p base xs v l h Q=Lh p a xs v' l h' Q:=by rw[d,e1,b]
theorem Tp {rd:Option Nat}{h:H}{Q:E->List V->H->Prop}(e1:v=v')(a:h=h'):Wp p rd c v h Q=Wp p rd c v' h' Q:=by rw[e1,a]
def Ac (p:Nat->Option Fn)(rd:Option Nat)(a b:C)(vars:List V)(h:H)(Q:E->List V->H->Prop)(v:V):Prop:=match v with| .bool true=>Wp p rd a vars h Q| .bool false=>Wp p rd b vars h Q|_=>False
section
variable {rd:Option Nat} {a b:C} {vars:List V} {h:H} {Q:E->List V->H->Prop}
theorem Lo {v v':V}(e:v=v'):Ac p rd a b vars h Q v=Ac p rd a b vars h Q v':=by rw[e]
theorem Qz:Ac p rd a b vars h Q (.bool true)=Wp p rd a vars h Q:=rfl
theorem Lf:Ac p rd a b vars h Q (.bool false)=Wp p rd b vars h Q:=rfl
theorem bB {P:Prop}[Decidable P](x:P->Wp p rd a vars h Q)(y: ¬P->Wp p rd b vars h Q):Ac p rd a b vars h Q (.bool (decide P)):=by
 by_cases h:P
 ·rw[decide_eq_true h];exact x h
 ·rw[decide_eq_false h];exact y h
theorem Xz {t:Bool}:Ac p rd a b vars h Q (.bool (!t))=Ac p rd b a vars h Q (.bool t):=by cases t<;>rfl
end
def FC (K:V->H->Prop):V×H->Prop:=λr=>K r.1 r.2
theorem EE (K:V->H->Prop)(v:V)(h:H):FC K (v,h)=K v h:=rfl
def Us (p:Nat->Option Fn)(d:D)(its:List It)(vars loc:List V)(Q:List V->H->Prop):V->H->Prop:=λv h'=>Ks p its (jJ d vars loc v).1 (jJ d vars loc v).2 h' Q
theorem AE (d:D)(f:List It)(vars e:List V)(Q:List V->H->Prop)(v:V)(h':H):Us p d f vars e Q v h'=Ks p f (jJ d vars e v).1 (jJ d vars e v).2 h' Q:=rfl
def Jb (p:Nat->Option Fn)(d:D)(a:dR)(its:List It)(vars loc:List V)(h:H)(Q:List V->H->Prop)(w:Bool):Prop:=match w with
 |true=>Es p vars loc h a (Us p d its vars loc Q)
 |false=>Ks p its (jJ d vars loc .undef).1 (jJ d vars loc .undef).2 h Q
section
variable {d:D} {a:dR} {its:List It} {vars loc:List V} {h:H} {Q:List V->H->Prop}
theorem Kj {v v':Bool}(e:v=v'):Jb p d a its vars loc h Q v=Jb p d a its vars loc h Q v':=by rw[e]
theorem Mb:Jb p d a its vars loc h Q true=Es p vars loc h a (Us p d its vars loc Q):=rfl
theorem Jy:Jb p d a its vars loc h Q false=Ks p its (jJ d vars loc .undef).1 (jJ d vars loc .undef).2 h Q:=rfl
end
def Fp (p:Nat->Option Fn)(base:Nat)(x:AI)(xs:List AI)(vars:List V)(log:Log)(Q:List V->H->Prop):V->H->Prop:=λv h'=>mC x.cks log h'=true/\Lh p base xs (jJ x.it.d vars [] v).1 (yT x vars v log) h' Q
theorem Zc (base i:Nat)(d:D)(g:Option (X×Bool))(a:dR)(al:Bool)(cks:List Nat)(xs:List AI)(vars:List V)(e:Log)(Q:List V->H->Prop)(v:V)(h':H):Fp p base ⟨i,⟨d,g,a⟩,al,cks⟩ xs vars e Q v h'=(mC cks e h'=true/\Lh p base xs (jJ d vars [] v).1 (yT ⟨i,⟨d,g,a⟩,al,cks⟩ vars v e) h' Q):=rfl
def Cx (p:Nat->Option Fn)(base i:Nat)(d:D)(x:X)(b:Bool)(a:dR)(al:Bool)(cks:List Nat)(xs:List AI)(vars:List V)(log:Log)(h:H)(Q:List V->H->Prop)(w:Bool):Prop:=match w,al with
 |true,true=>jT (zJ vars h (base+i) a) (FC (Fp p base ⟨i,⟨d,some (x,b),a⟩,true,cks⟩ xs vars log Q))
 |true,false=>Es p vars [] h a (Fp p base ⟨i,⟨d,some (x,b),a⟩,false,cks⟩ xs vars log Q)
 |false,_=>mC cks log h=true/\Lh p base xs (jJ d vars [] .undef).1 log h Q
section
variable {base i:Nat} {d:D} {x:X} {b al:Bool} {a:dR} {cks:List Nat} {xs:List AI} {vars:List V} {log:Log} {h:H} {Q:List V->H->Prop}
theorem Je {v v':Bool}(e:v=v'):Cx p base i d x b a al cks xs vars log h Q v=Cx p base i d x b a al cks xs vars log h Q v':=by rw[e]
theorem Vq:Cx p base i d x b a true cks xs vars log h Q true=jT (zJ vars h (base+i) a) (FC (Fp p base ⟨i,⟨d,some (x,b),a⟩,true,cks⟩ xs vars log Q)):=rfl
theorem Xs:Cx p base i d x b a false cks xs vars log h Q true=Es p vars [] h a (Fp p base ⟨i,⟨d,some (x,b),a⟩,false,cks⟩ xs vars log Q):=rfl
theorem Yj:Cx p base i d x b a al cks xs vars log h Q false=(mC cks log h=true/\Lh p base xs (jJ d vars [] .undef).1 log h Q):=rfl
end
theorem Mh (p:Nat->Option Fn){N j f e:Nat}(k:N<=j)(h2:f<=e):Le (iL p N f).1 (iL p j e).1/\Le (iL p N f).2 (iL p j e).2:=Il p k f e h2
theorem EH (vars loc:List V)(h:H)(i:I)(Q:V->H->Prop):Es p vars loc h (.op i) Q=jT (cW (xv vars loc) h i) (FC Q):=by
 unfold Es jT;refine propext ⟨λ⟨N,f,v,h',e,q⟩=>⟨(v,h'),by rw[nE] at e;exact e,q⟩,λ⟨r,e,q⟩=>⟨0,0,r.1,r.2,by rw[nE];exact e,q⟩⟩
theorem Vl (vars loc:List V)(h:H)(g:Nat)(args:List X)(Q:V->H->Prop):Es p vars loc h (.call g args) Q=Ev p g (args.map (xv vars loc)) h Q:=by
 unfold Es Ev;simp only[mV]
def tI (p:Nat->Option Fn)(x:V)(args:List V)(h:H)(Q:V->H->Prop):Prop:=match x with
 | .fn g fs cs=>Ev p g (fs++args++cs) h Q
 | .yl id=>Ey p id args h Q
 |_=>False
theorem tI.mono {x:V}{h:H}{Q:V->H->Prop}(e:tI p x args h Q)(k: ∀v h',Q v h'->R v h'):tI p x args h R:=by
 unfold tI at*;split at e
 ·exact e.mono k
 ·exact e.mono k
 ·exact e.elim
theorem Jc {x e:V}{a:List V}{h:H}{Q:V->H->Prop}(j:x=e)(e1:a=a')(f:h=h'):tI p x a h Q=tI p e a' h' Q:=by rw[j,e1,f]
theorem Up (g:Nat)(e f args:List V)(h:H)(Q:V->H->Prop):tI p (.fn g e f) args h Q=Ev p g (e++args++f) h Q:=rfl
theorem Xm (id:Nat)(args:List V)(h:H)(Q:V->H->Prop):tI p (.yl id) args h Q=Ey p id args h Q:=rfl
theorem Qy (vars loc:List V)(h:H)(x:X)(args:List X)(Q:V->H->Prop):Es p vars loc h (.callv x args) Q=tI p (xv vars loc x) (args.map (xv vars loc)) h Q:=by
 unfold Es;simp only[mB];unfold tI;cases xv vars loc x<;>simp [Ev,Ey]
def Fo (p:Nat->Option Fn)(g t:Nat)(x:V)(args:List V)(h:H)(Q:V->H->Prop):Prop:=match x with
 | .ifc u v=>u=t/\Ev p g (v::args) h Q
 |_=>False
theorem Mj (g t:Nat)(v:V)(args:List V)(h:H)(Q:V->H->Prop):Fo p g t (.ifc t v) args h Q=Ev p g (v::args) h Q:=by
 simp [Fo]
theorem Sr (vars loc:List V)(h:H)(g t:Nat)(x:X)(args:List X)(Q:V->H->Prop):Es p vars loc h (.calli g t x args) Q=Fo p g t (xv vars loc x) (args.map (xv vars loc)) h Q:=by
 unfold Es;simp only[lU];unfold Fo;cases xv vars loc x<;>simp only[reduceCtorEq,false_and,exists_false];rename_i u v
 by_cases e:u=t
 ·subst e
  simp [Ev]
 ·have:Nat.beq u t=false:=by
   cases hq:Nat.beq u t with
   |false=>rfl
   |true=>exact absurd (Nat.eq_of_beq_eq_true hq) e
  simp [this,e]
def Hd (p:Nat->Option Fn)(g:Nat)(vs:List V)(h:H)(Q:V->H->Prop):Prop:=vs.all V.wJ=true/\Ev p g vs ⟨.lf,0⟩ (λv _=>v.wJ=true/\Q v h)
theorem Sb (vars loc:List V)(h:H)(g:Nat)(args:List X)(Q:V->H->Prop):Es p vars loc h (.callp g args) Q=Hd p g (args.map (xv vars loc)) h Q:=by
 unfold Es Hd Ev;refine propext ⟨λ⟨N,f,v,h',e,q⟩=>?_,λ⟨j,N,f,v,h',e,k,q⟩=>⟨N,f,v,h,?_,q⟩⟩
 ·rw[jG] at e
  obtain⟨rfl,j,k,m,l⟩:=qF e;exact⟨j,N,f,v,m,l,k,q⟩
 ·rw[jG]
  unfold xX;simp only[j,e,k,cond_true]
theorem Hd.intro {vs:List V}{h:H}{Q:V->H->Prop}(e:Ev p g vs ⟨.lf,0⟩ R)(f:vs.all V.wJ=true)(k: ∀v h',R v h'->v.wJ=true/\Q v h):Hd p g vs h Q:=⟨f,e.mono k⟩
theorem AJ (vars loc:List V)(h:H)(Q:List V->H->Prop):Ks p [] vars loc h Q=Q vars h:=by
 unfold Ks;refine propext ⟨λ⟨N,f,v,h',e,q⟩=>?_,λq=>⟨0,0,vars,h,rfl,q⟩⟩;rw[xE] at e;cases e;exact q
theorem Uu (d:D)(a:dR)(its:List It)(vars loc:List V)(h:H)(Q:List V->H->Prop):
  Ks p (⟨d,none,a⟩::its) vars loc h Q=Es p vars loc h a (Us p d its vars loc Q):=by
 unfold Us Ks Es
 refine propext ⟨λ⟨N,f,v,h',e,q⟩=>?_,λ⟨N,f,v,j,e,N2,f2,vars',h',e2,q⟩=>?_⟩
 ·rw[jX] at e
  simp only[fJ] at e
  split at e
  ·rename_i n j m
   exact⟨N,f,n,j,m,N,f,v,h',e,q⟩
  ·cases e
 ·refine⟨max N N2,max f f2,vars',h',?_,q⟩
  rw[jX]
  have l:=Mh p (Nat.le_max_left N N2) (Nat.le_max_left f f2)
  have k:=Mh p (Nat.le_max_right N N2) (Nat.le_max_right f f2)
  simp only[fJ,lE l.1 l.2 e]
  exact lH k.1 k.2 _ _ _ _ _ e2
theorem So (d:D)(x:X)(b:Bool)(a:dR)(its:List It)(vars loc:List V)(h:H)(Q:List V->H->Prop):
  Ks p (⟨d,some (x,b),a⟩::its) vars loc h Q=jT (fJ vars loc (some (x,b))) (Jb p d a its vars loc h Q):=by
 unfold jT
 refine propext ⟨λ⟨N,f,v,h',e,q⟩=>?_,λ⟨w,l,k⟩=>?_⟩
 ·rw[jX] at e
  split at e
  ·rename_i l
   refine⟨true,l,?_⟩
   split at e
   ·rename_i y o u
    exact⟨N,f,y,o,u,N,f,v,h',e,q⟩
   ·cases e
  ·rename_i l
   exact⟨false,l,N,f,v,h',e,q⟩
  ·cases e
 ·cases w with
  |true=>
   obtain⟨N,f,v,o,e,n,m,j,h',t,q⟩:=k;refine⟨max N n,max f m,j,h',?_,q⟩;rw[jX];have s:=Mh p (Nat.le_max_left N n) (Nat.le_max_left f m);have r:=Mh p (Nat.le_max_right N n) (Nat.le_max_right f m);simp only[l,lE s.1 s.2 e];exact lH r.1 r.2 _ _ _ _ _ t
  |false=>
   obtain⟨N,f,v,h',e,q⟩:=k;refine⟨N,f,v,h',?_,q⟩;rw[jX];simp only[l];exact e
theorem Yf (base:Nat)(vars:List V)(log:Log)(h:H)(Q:List V->H->Prop):Lh p base [] vars log h Q=Q vars h:=by
 unfold Lh;refine propext ⟨λ⟨N,f,v,h',e,q⟩=>?_,λq=>⟨0,0,vars,h,rfl,q⟩⟩;rw[xI] at e;cases e;exact q
theorem Tu (base i:Nat)(d:D)(a:dR)(cks:List Nat)(xs:List AI)(vars:List V)(log:Log)(h:H)(Q:List V->H->Prop):
  Lh p base (⟨i,⟨d,none,a⟩,false,cks⟩::xs) vars log h Q=Es p vars [] h a (Fp p base ⟨i,⟨d,none,a⟩,false,cks⟩ xs vars log Q):=by
 unfold Fp Lh Es
 refine propext ⟨λ⟨N,f,v,h',e,q⟩=>?_,λ⟨N,f,v,k,e,j,N2,f2,vars',h',e2,q⟩=>?_⟩
 ·rw[iD] at e
  simp only[fJ,Bool.false_eq_true,if_false] at e
  split at e
  ·rename_i o k n
   split at e
   ·rename_i j
    exact⟨N,f,o,k,n,j,N,f,v,h',e,q⟩
   ·cases e
  ·cases e
 ·refine⟨max N N2,max f f2,vars',h',?_,q⟩
  rw[iD]
  have m:=Mh p (Nat.le_max_left N N2) (Nat.le_max_left f f2)
  have l:=Mh p (Nat.le_max_right N N2) (Nat.le_max_right f f2)
  simp only[fJ,Bool.false_eq_true,if_false,lE m.1 m.2 e,j,if_true]
  exact mU l.1 l.2 _ _ _ _ _ e2
theorem Pu (base i:Nat)(d:D)(a:dR)(cks:List Nat)(xs:List AI)(vars:List V)(log:Log)(h:H)(Q:List V->H->Prop):
  Lh p base (⟨i,⟨d,none,a⟩,true,cks⟩::xs) vars log h Q=jT (zJ vars h (base+i) a) (FC (Fp p base ⟨i,⟨d,none,a⟩,true,cks⟩ xs vars log Q)):=by
 unfold FC Fp Lh jT
 refine propext ⟨λ⟨N,f,v,h',e,q⟩=>?_,λ⟨r,e,j,N2,f2,vars',h',e2,q⟩=>?_⟩
 ·rw[iD] at e
  simp only[fJ,if_true] at e
  split at e
  ·rename_i m k l
   split at e
   ·rename_i j
    exact⟨(m,k),l,j,N,f,v,h',e,q⟩
   ·cases e
  ·cases e
 ·refine⟨N2,f2,vars',h',?_,q⟩
  rw[iD]
  obtain⟨v,k⟩:=r
  simp only[fJ,if_true,e,j]
  exact e2
theorem Sc (base i:Nat)(d:D)(x:X)(b:Bool)(a:dR)(al:Bool)(cks:List Nat)(xs:List AI)(vars:List V)(log:Log)(h:H)(Q:List V->H->Prop):
  Lh p base (⟨i,⟨d,some (x,b),a⟩,al,cks⟩::xs) vars log h Q=jT (fJ vars [] (some (x,b))) (Cx p base i d x b a al cks xs vars log h Q):=by
 unfold jT
 refine propext ⟨λ⟨N,f,v,h',e,q⟩=>?_,λ⟨w,n,k⟩=>?_⟩
 ·rw[iD] at e
  split at e
  ·rename_i n
   refine⟨true,n,?_⟩
   cases al with
   |true=>
    simp only[if_true] at e;split at e
    ·rename_i u r t
     split at e
     ·rename_i l
      exact⟨(u,r),t,l,N,f,v,h',e,q⟩
     ·cases e
    ·cases e
   |false=>
    simp only[Bool.false_eq_true,if_false] at e;split at e
    ·rename_i u r t
     split at e
     ·rename_i l
      exact⟨N,f,u,r,t,l,N,f,v,h',e,q⟩
     ·cases e
    ·cases e
  ·rename_i n
   split at e
   ·rename_i l
    exact⟨false,n,l,N,f,v,h',e,q⟩
   ·cases e
  ·cases e
 ·cases w with
  |true=>
   cases al with
   |true=>
    obtain⟨⟨v,r⟩,e,l,o,m,j,h',s,q⟩:=k;refine⟨o,m,j,h',?_,q⟩;rw[iD];simp only[n,if_true,e,l];exact s
   |false=>
    obtain⟨N,f,v,r,e,l,o,m,j,h',s,q⟩:=k;refine⟨max N o,max f m,j,h',?_,q⟩;rw[iD];have z:=Mh p (Nat.le_max_left N o) (Nat.le_max_left f m);have y:=Mh p (Nat.le_max_right N o) (Nat.le_max_right f m);simp only[n,Bool.false_eq_true,if_false,lE z.1 z.2 e,l,if_true];exact mU y.1 y.2 _ _ _ _ _ s
  |false=>
   obtain⟨l,o,m,j,h',s,q⟩:=k;refine⟨o,m,j,h',?_,q⟩;rw[iD];simp only[n,l,if_true];exact s
variable {rd:Option Nat} {vars:List V} {h:H} {Q:E->List V->H->Prop}
theorem BJ:Wp p rd .skip vars h Q=Q .norm vars h:=by
 unfold Wp;simp only[uP];exact propext ⟨λ⟨_,_,_,_,_,e,q⟩=>by cases e;exact q,λq=>⟨0,0,_,_,_,rfl,q⟩⟩
theorem ED:Wp p rd .ret vars h Q=Q .ret vars h:=by
 unfold Wp;simp only[Gw];exact propext ⟨λ⟨_,_,_,_,_,e,q⟩=>by cases e;exact q,λq=>⟨0,0,_,_,_,rfl,q⟩⟩
theorem Yk (n:Nat):Wp p rd (.exit n) vars h Q=Q (.exit n) vars h:=by
 unfold Wp;simp only[Ak];exact propext ⟨λ⟨_,_,_,_,_,e,q⟩=>by cases e;exact q,λq=>⟨0,0,_,_,_,rfl,q⟩⟩
theorem Vv (a:C):Wp p rd (.scope a) vars h Q=Wp p rd a vars h Q:=by
 unfold Wp;simp only[xG]
theorem ER (its:List It):Wp p rd (.reg its) vars h Q=Ks p its vars [] h (Q .norm):=by
 unfold Wp Ks;simp only[Gk];refine propext ⟨λ⟨N,f,e,v,h',he,q⟩=>?_,λ⟨N,f,v,h',he,q⟩=>⟨N,f,.norm,v,h',by rw[he],q⟩⟩;split at he
 ·rename_i j;cases he;exact⟨N,f,_,_,j,q⟩
 ·cases he
def CG (n:Nat)(Q:E->List V->H->Prop):List V->H->Prop:=λvs h'=>Q .norm (vs.take n) h'
theorem Zz (n:Nat)(vs:List V)(h':H):CG n Q vs h'=Q .norm (vs.take n) h':=rfl
theorem CQ (k j:Nat)(its:List AI):Wp p rd (.any k j its) vars h Q=Lh p h.next its (vars++List.replicate j .unk) [] {h with next:=h.next+k} (CG vars.length Q):=by
 unfold CG Wp Lh;simp only[Gf];refine propext ⟨λ⟨N,f,e,v,h',he,q⟩=>?_,λ⟨N,f,v,h',he,q⟩=>⟨N,f,.norm,_,h',by rw[he],q⟩⟩;split at he
 ·rename_i l;cases he;exact⟨N,f,_,_,l,q⟩
 ·cases he
def Bp (p:Nat->Option Fn)(rd:Option Nat)(b:C)(Q:E->List V->H->Prop):E->List V->H->Prop:=λe vars h=>match e with| .norm=>Wp p rd b vars h Q|e=>Q e vars h
theorem zG (b:C)(vars:List V)(h:H):Bp p rd b Q .norm vars h=Wp p rd b vars h Q:=rfl
theorem Rz (b:C)(vars:List V)(h:H):Bp p rd b Q .ret vars h=Q .ret vars h:=rfl
theorem Nb (b:C)(n:Nat)(vars:List V)(h:H):Bp p rd b Q (.exit n) vars h=Q (.exit n) vars h:=rfl
theorem Uf (a b:C):Wp p rd (.seq a b) vars h Q=Wp p rd a vars h (Bp p rd b Q):=by
 refine propext ⟨λ⟨N,f,e,v,h',he,q⟩=>?_,λ⟨N,f,e,v,j,he,k⟩=>?_⟩
 ·rw[run_seq] at he
  cases hr:run (iL p N f).1 (iL p N f).2 N rd a vars h with
  |none=>simp [hr] at he
  |some r=>
   obtain⟨u,m,w,j⟩:=r;simp only[hr] at he
   cases u with
   |norm=>
    simp only at he
    cases hr2:run (iL p N f).1 (iL p N f).2 N rd b m j with
    |none=>simp [hr2] at he
    |some r=>
     obtain⟨s,t,u,o⟩:=r;simp only[hr2,Option.some.injEq,Prod.mk.injEq] at he;obtain⟨rfl,rfl,l,rfl⟩:=he;simp only[List.append_eq_nil_iff] at l;obtain⟨rfl,rfl⟩:=l;exact⟨N,f,.norm,m,j,hr,N,f,_,_,_,hr2,q⟩
   |ret=>simp only at he;cases he;exact⟨N,f,_,_,_,hr,q⟩
   |exit n=>simp only at he;cases he;exact⟨N,f,_,_,_,hr,q⟩
 ·cases e with
  |norm=>
   obtain⟨j,l,s,t,o,m,q⟩:=k;refine⟨max N j,max f l,s,t,o,?_,q⟩;have q:=Mh p (Nat.le_max_left N j) (Nat.le_max_left f l);have o:=Mh p (Nat.le_max_right N j) (Nat.le_max_right f l);rw[run_seq,fY q.1 q.2 (Nat.le_max_left N j) _ _ _ _ he];simp only[fY o.1 o.2 (Nat.le_max_right N j) _ _ _ _ m]
   rfl
  |ret=>exact⟨N,f,_,_,_,by rw[run_seq,he],k⟩
  |exit n=>exact⟨N,f,_,_,_,by rw[run_seq,he],k⟩
theorem DN (x:X)(a b:C):Wp p rd (.ite x a b) vars h Q=Ac p rd a b vars h Q (xv vars [] x):=by
 unfold Ac Wp;simp only[run_ite]
 cases xv vars [] x with
 |bool t=>cases t<;>rfl
 |_=>exact propext ⟨λ⟨_,_,_,_,_,e,_⟩=>(nomatch e),λh=>h.elim⟩
def oJ (id:Nat)(Q:E->List V->H->Prop):E->List V->H->Prop:=λe vars h=>match e with| .exit n=>if n=id then Q .norm vars h else Q (.exit n) vars h|e=>Q e vars h
theorem Jx (id:Nat)(vars:List V)(h:H):oJ id Q .norm vars h=Q .norm vars h:=rfl
theorem Ma (id:Nat)(vars:List V)(h:H):oJ id Q .ret vars h=Q .ret vars h:=rfl
theorem rQ (id:Nat)(vars:List V)(h:H):oJ id Q (.exit id) vars h=Q .norm vars h:=aV rfl
theorem Qv (id n:Nat)(e:n≠id)(vars:List V)(h:H):oJ id Q (.exit n) vars h=Q (.exit n) vars h:=aZ e
theorem Ug (id:Nat)(a:C):Wp p rd (.block id a) vars h Q=Wp p rd a vars h (oJ id Q):=by
 unfold Wp;simp only[xH];refine propext ⟨λ⟨N,f,e,v,h',he,q⟩=>?_,λ⟨N,f,e,v,m,he,k⟩=>?_⟩
 ·cases hr:run (iL p N f).1 (iL p N f).2 N rd a vars h with
  |none=>simp [hr] at he
  |some r=>
   obtain⟨l,o,s,m⟩:=r;simp only[hr] at he
   cases l with
   |exit n=>
    simp only at he;split at he
    ·rename_i j;cases he;exact⟨N,f,_,_,_,hr,by simp only[oJ];rw[aV j];exact q⟩
    ·rename_i j;cases he;exact⟨N,f,_,_,_,hr,by simp only[oJ];rw[aZ j];exact q⟩
   |norm=>simp only at he;cases he;exact⟨N,f,_,_,_,hr,q⟩
   |ret=>simp only at he;cases he;exact⟨N,f,_,_,_,hr,q⟩
 ·cases e with
  |exit n=>
   simp only[oJ] at k;split at k
   ·rename_i j;exact⟨N,f,_,_,_,by rw[he];simp only;rw[aV j],k⟩
   ·rename_i j;exact⟨N,f,_,_,_,by rw[he];simp only;rw[aZ j],k⟩
  |norm=>exact⟨N,f,_,_,_,by rw[he],k⟩
  |ret=>exact⟨N,f,_,_,_,by rw[he],k⟩
def Gy (J:List V->H->Prop)(Q:E->List V->H->Prop):E->List V->H->Prop:=λe vars h=>match e with| .norm=>J vars h|e=>Q e vars h
theorem Ii (J:List V->H->Prop)(vars:List V)(h:H):Gy J Q .norm vars h=J vars h:=rfl
theorem Ms (J:List V->H->Prop)(vars:List V)(h:H):Gy J Q .ret vars h=Q .ret vars h:=rfl
theorem Is (J:List V->H->Prop)(n:Nat)(vars:List V)(h:H):Gy J Q (.exit n) vars h=Q (.exit n) vars h:=rfl
theorem aH (J:Nat->List V->H->Prop)(k:Nat)(A:J k vars h)
  (step: ∀k vars h,J k vars h->Wp p rd c vars h (Gy (λv h'=> ∃k',k'<k/\J k' v h') Q)):Wp p rd (.loop c) vars h Q:=by
 have m: ∀k vars h,J k vars h-> ∃N f n e j h',rD (run (iL p N f).1 (iL p N f).2 N rd c) n vars h=some (e,j, [],h')/\Q e j h':=by
  intro k
  induction k using Nat.strongRecOn with
  |ind k ih=>
   intro vars h j;obtain⟨N,f,e,v,w,l,q⟩:=step k vars h j
   cases e with
   |norm=>
    obtain⟨k',t,o⟩:=q;obtain⟨j,s,n,z,F,y,u,B⟩:=ih k' t v w o;have t:=Mh p (Nat.le_max_left N j) (Nat.le_max_left f s);have o:=Mh p (Nat.le_max_right N j) (Nat.le_max_right f s);refine⟨max N j,max f s,n+1,z,F,y,?_,B⟩;rw[mQ,fY t.1 t.2 (Nat.le_max_left N j) _ _ _ _ l];simp only[qJ (λv h r=>fY o.1 o.2 (Nat.le_max_right N j) c v h r) n n (fH _) _ _ _ u]
    rfl
   |ret=>exact⟨N,f,1,_,_,_,by rw[mQ,l],q⟩
   |exit n=>exact⟨N,f,1,_,_,_,by rw[mQ,l],q⟩
 obtain⟨N,f,n,e,v,h',l,q⟩:=m k vars h A
 refine⟨max N n,f,e,v,h',?_,q⟩
 have b:=Mh p (Nat.le_max_left N n) (fH f)
 rw[Ai]
 exact qJ (λv h r=>fY b.1 b.2 (Nat.le_max_left N n) c v h r) n (max N n) (Nat.le_max_right N n) _ _ _ l
def Vb (id:Nat)(vars:List V)(Q:E->List V->H->Prop):V->H->Prop:=λ_ h'=> ∃r,h'.get id=some (.loop r)/\r.st≠ .busy/\Q (r.pend.getD .norm) vars (h'.set id (some (.loop {r with st:= .out})))
def Bm (p:Nat->Option Fn)(rd:Option Nat)(x:V)(pars:List Nat)(assign body:C)(vars:List V)(h:H)(Q:E->List V->H->Prop):Prop:=
 match x with
 | .fn g fs cs=>Qm rd h=true/\Ev p g (fs++ .yl h.next::cs) (h.new (.loop {vars,pars,assign,body,st:= .ready,pend:=none})) (Vb h.next vars Q)
 |_=>False
theorem Ga {x f:V}{e:List Nat}{a b:C}{h:H}(k:x=f)(e1:v=v')(j:h=h'):Bm p rd x e a b v h Q=Bm p rd f e a b v' h' Q:=by rw[k,e1,j]
theorem Rq (g:Nat)(e f:List V)(pars:List Nat)(assign body:C):Bm p rd (.fn g e f) pars assign body vars h Q=(Qm rd h=true/\Ev p g (e++ .yl h.next::f) (h.new (.loop {vars,pars,assign,body,st:= .ready,pend:=none})) (Vb h.next vars Q)):=rfl
theorem Xb (x:X)(j:List Nat)(a b:C):Wp p rd (.range x j a b) vars h Q=Bm p rd (xv vars [] x) j a b vars h Q:=by
 unfold Wp Bm;simp only[wZ,rN]
 cases xv vars [] x with
 |fn g fs cs=>
  simp only;refine propext ⟨λ⟨N,f,e,v,h',he,q⟩=>?_,λ⟨l,N,f,v,h',he,r,m,k,q⟩=>?_⟩
  ·split at he
   ·rename_i l
    refine⟨l,?_⟩;split at he
    ·rename_i s n o
     split at he
     ·rename_i r m
      split at he
      ·cases he
      ·rename_i k
       cases he;exact⟨N,f,s,n,o,r,m,k,q⟩
     ·cases he
    ·cases he
   ·cases he
  ·refine⟨N,f,_,_,_,?_,q⟩
   rw[aV l];simp only[he,m];rw[aZ k]
 |_=>exact propext ⟨λ⟨_,_,_,_,_,e,_⟩=>(nomatch e),λh=>h.elim⟩
def Yg (Q:V->H->Prop)(h:H):List V->Prop:=λvs=>Q (wF vs) h
theorem BN (Q:V->H->Prop)(h:H)(vs:List V):Yg Q h vs=Q (wF vs) h:=rfl
def Tg (results:List Rv)(Q:V->H->Prop):E->List V->H->Prop:=λe vars h=>match e with
 | .exit _=>False
 |_=>jT (cU (results.map (sY vars h))) (Yg Q h)
theorem Pw (results:List Rv)(Q:V->H->Prop)(vars:List V)(h:H):Tg results Q .norm vars h=jT (cU (results.map (sY vars h))) (Yg Q h):=rfl
theorem Xl (results:List Rv)(Q:V->H->Prop)(vars:List V)(h:H):Tg results Q .ret vars h=jT (cU (results.map (sY vars h))) (Yg Q h):=rfl
theorem yH {j:Fn}{h:H}{Q:V->H->Prop}(l:p g=some j)(m:args.length=j.nargs)(r:Wp p none j.body (tK j args) h (Tg j.results Q)):Ev p g args h Q:=by
 obtain⟨N,f,e,v,h',o,q⟩:=r
 cases e with
 |exit n=>exact q.elim
 |norm=>
  obtain⟨k,e,q⟩:=q;refine⟨N,f+1,wF k,h',?_,q⟩;rw[lY];simp only[qZ,l,m,if_true,o,oX,e,Option.map_some]
 |ret=>
  obtain⟨k,e,q⟩:=q;refine⟨N,f+1,wF k,h',?_,q⟩;rw[lY];simp only[qZ,l,m,if_true,o,oX,e,Option.map_some]
def Ca (id:Nat)(Q:V->H->Prop):E->List V->H->Prop:=λe _ h=> ∃r3,h.get id=some (.loop r3)/\(match e with
 | .norm=>Q (.bool true) (h.set id (some (.loop {r3 with st:= .ready,pend:=none})))
 |e=>Q (.bool false) (h.set id (some (.loop {r3 with st:= .done,pend:=some e}))))
theorem FV {id:Nat}{h:H}{Q:V->H->Prop}{r:fM}(w:h.get id=some (.loop r))(u:args.length=r.pars.length)
  (A:Wp p (some id) r.assign ((r.pars.zip args).foldl (λvs q=>vs.set q.1 q.2) r.vars) h λe vars h1=>e= .norm/\ ∃r2,h1.get id=some (.loop r2)/\r2.st= .ready/\
   Wp p (some id) r.body vars (h1.set id (some (.loop {r2 with st:= .busy}))) (Ca id Q)):Ey p id args h Q:=by
 obtain⟨N,f,e,v,h1,y,rfl,r2,m,gY,j,o,z,B,B,l,B,k,q⟩:=A
 have t:=Mh p (show N<=max N j by omega) (show f<=max f o by omega)
 have s:=Mh p (show j<=max N j by omega) (show o<=max f o by omega)
 cases z with
 |norm=>
  refine⟨max N j,max f o+1,.bool true,_,?_,q⟩;rw[lY];simp only[oN,w,u,if_true,fY t.1 t.2 (show N<=max N j by omega) _ _ _ _ y,m,gY,fY s.1 s.2 (show j<=max N j by omega) _ _ _ _ l,k]
 |ret=>
  refine⟨max N j,max f o+1,.bool false,_,?_,q⟩;rw[lY];simp only[oN,w,u,if_true,fY t.1 t.2 (show N<=max N j by omega) _ _ _ _ y,m,gY,fY s.1 s.2 (show j<=max N j by omega) _ _ _ _ l,k]
 |exit n=>
  refine⟨max N j,max f o+1,.bool false,_,?_,q⟩;rw[lY];simp only[oN,w,u,if_true,fY t.1 t.2 (show N<=max N j by omega) _ _ _ _ y,m,gY,fY s.1 s.2 (show j<=max N j by omega) _ _ _ _ l,k]
end
end
end Go.Ay
