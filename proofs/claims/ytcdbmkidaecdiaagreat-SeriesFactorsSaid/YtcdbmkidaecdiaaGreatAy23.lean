/- The abstract machine, by weakest preconditions. -/
import Derived.Test.YtcdbmkidaecdiaaGreatAy22
namespace Go.Ay
section
variable {g:Nat} {args a' v v':List V} {R:V->H->Prop} {c:C} {h':H}
def Jy {α:Type}(o:Option α)(K:α->Prop):Prop:= ∃a,o=some a/\K a
theorem Wo {α:Type}(a:α)(K:α->Prop):Jy (some a) K=K a:=propext ⟨λ⟨_,h,k⟩=>by cases h;exact k,λk=>⟨a,rfl,k⟩⟩
theorem Ue {α:Type}{o a:Option α}{K:α->Prop}(h:o=a):Jy o K=Jy a K:=by rw[h]
section
variable (p:Nat->Option Fn)
def Ev (g:Nat)(args:List V)(h:H)(Q:V->H->Prop):Prop:= ∃N f v h',(jX p N f).1 g args h=some (v,h')/\Q v h'
def Ey (id:Nat)(args:List V)(h:H)(Q:V->H->Prop):Prop:= ∃N f v h',(jX p N f).2 id args h=some (v,h')/\Q v h'
def So (vars loc:List V)(h:H)(a:dR)(Q:V->H->Prop):Prop:= ∃N f v h',Lh (jX p N f).1 (jX p N f).2 vars loc h a=some (v,h')/\Q v h'
def AO (its:List It)(vars loc:List V)(h:H)(Q:List V->H->Prop):Prop:= ∃N f vars' h',vA (jX p N f).1 (jX p N f).2 its vars loc h=some (vars',h')/\Q vars' h'
def DZ (base:Nat)(xs:List AI)(vars:List V)(log:Log)(h:H)(Q:List V->H->Prop):Prop:= ∃N f vars' h',wZ (jX p N f).1 (jX p N f).2 base xs vars log h=some (vars',h')/\Q vars' h'
def Wp (rd:Option Nat)(c:C)(vars:List V)(h:H)(Q:E->List V->H->Prop):Prop:=
 ∃N f e vars' h',run (jX p N f).1 (jX p N f).2 N rd c vars h=some (e,vars', [],h')/\Q e vars' h'
variable {p}
theorem Ev.mono {h:H}{Q:V->H->Prop}(e:Ev p g args h Q)(k: ∀v h',Q v h'->R v h'):Ev p g args h R:=by
 obtain⟨N,f,v,h',e,q⟩:=e;exact⟨N,f,v,h',e,k _ _ q⟩
theorem Ey.mono {id:Nat}{h:H}{Q:V->H->Prop}(e:Ey p id args h Q)(k: ∀v h',Q v h'->R v h'):Ey p id args h R:=by
 obtain⟨N,f,v,h',e,q⟩:=e;exact⟨N,f,v,h',e,k _ _ q⟩
theorem Wp.mono {rd:Option Nat}{b:List V}{h:H}{Q R:E->List V->H->Prop}(e:Wp p rd c b h Q)(k: ∀e v h',Q e v h'->R e v h'):Wp p rd c b h R:=by
 obtain⟨N,f,a,v,h',e,q⟩:=e;exact⟨N,f,a,v,h',e,k _ _ _ q⟩
theorem AO.mono {b:List It}{a d:List V}{h:H}{Q R:List V->H->Prop}(e:AO p b a d h Q)(k: ∀v h',Q v h'->R v h'):AO p b a d h R:=by
 obtain⟨N,f,v,h',e,q⟩:=e;exact⟨N,f,v,h',e,k _ _ q⟩
theorem SM {a:List V}{h:H}{Q:V->H->Prop}(d:a=a')(b:h=h'):Ev p g a h Q=Ev p g a' h' Q:=by rw[d,b]
theorem VS {a:List V}{h:H}{Q:V->H->Prop}(d:a=a')(b:h=h'):Ey p g a h Q=Ey p g a' h' Q:=by rw[d,b]
theorem LJ {a:dR}{l b:List V}{h:H}{Q:V->H->Prop}(i:v=v')(f:l=b)(d:h=h'):So p v l h a Q=So p v' b h' a Q:=by rw[i,d,f]
theorem JK {a:List It}{l b:List V}{h:H}{Q:List V->H->Prop}(d:v=v')(i:l=b)(f:h=h'):AO p a v l h Q=AO p a v' b h' Q:=by rw[d,f,i]
theorem HZ {base a:Nat}{xs:List AI}{l:Log}{h:H}{Q:List V->H->Prop}(b:base=a)(f:v=v')(d:h=h'):DZ p base xs v l h Q=DZ p a xs v' l h' Q:=by rw[b,f,d]
theorem PM {rd:Option Nat}{h:H}{Q:E->List V->H->Prop}(b:v=v')(a:h=h'):Wp p rd c v h Q=Wp p rd c v' h' Q:=by rw[b,a]
def Nh (p:Nat->Option Fn)(rd:Option Nat)(a b:C)(vars:List V)(h:H)(Q:E->List V->H->Prop)(v:V):Prop:=match v with| .bool true=>Wp p rd a vars h Q| .bool false=>Wp p rd b vars h Q|_=>False
section
variable {rd:Option Nat} {a b:C} {vars:List V} {h:H} {Q:E->List V->H->Prop}
theorem BN {v v':V}(e:v=v'):Nh p rd a b vars h Q v=Nh p rd a b vars h Q v':=by rw[e]
theorem LG:Nh p rd a b vars h Q (.bool true)=Wp p rd a vars h Q:=rfl
theorem BK:Nh p rd a b vars h Q (.bool false)=Wp p rd b vars h Q:=rfl
theorem aW {P:Prop}[Decidable P](x:P->Wp p rd a vars h Q)(y: ¬P->Wp p rd b vars h Q):Nh p rd a b vars h Q (.bool (decide P)):=by
 by_cases h:P
 ·rw[decide_eq_true h];exact x h
 ·rw[decide_eq_false h];exact y h
theorem RB {t:Bool}:Nh p rd a b vars h Q (.bool (!t))=Nh p rd b a vars h Q (.bool t):=by cases t<;>rfl
end
def unc (K:V->H->Prop):V×H->Prop:=λr=>K r.1 r.2
theorem agJ (K:V->H->Prop)(v:V)(h:H):unc K (v,h)=K v h:=rfl
def NY (p:Nat->Option Fn)(d:D)(its:List It)(vars loc:List V)(Q:List V->H->Prop):V->H->Prop:=λv h'=>AO p its (lX d vars loc v).1 (lX d vars loc v).2 h' Q
theorem abH (d:D)(i:List It)(vars f:List V)(Q:List V->H->Prop)(v:V)(h':H):NY p d i vars f Q v h'=AO p i (lX d vars f v).1 (lX d vars f v).2 h' Q:=rfl
def Zn (p:Nat->Option Fn)(d:D)(a:dR)(its:List It)(vars loc:List V)(h:H)(Q:List V->H->Prop)(w:Bool):Prop:=match w with
 |true=>So p vars loc h a (NY p d its vars loc Q)
 |false=>AO p its (lX d vars loc .undef).1 (lX d vars loc .undef).2 h Q
section
variable {d:D} {a:dR} {its:List It} {vars loc:List V} {h:H} {Q:List V->H->Prop}
theorem Xp {v v':Bool}(e:v=v'):Zn p d a its vars loc h Q v=Zn p d a its vars loc h Q v':=by rw[e]
theorem CZ:Zn p d a its vars loc h Q true=So p vars loc h a (NY p d its vars loc Q):=rfl
theorem Yg:Zn p d a its vars loc h Q false=AO p its (lX d vars loc .undef).1 (lX d vars loc .undef).2 h Q:=rfl
end
def Vq (p:Nat->Option Fn)(base:Nat)(x:AI)(xs:List AI)(vars:List V)(log:Log)(Q:List V->H->Prop):V->H->Prop:=λv h'=>rI x.cks log h'=true/\DZ p base xs (lX x.it.d vars [] v).1 (Kz x vars v log) h' Q
theorem YF (base i:Nat)(d:D)(g:Option (X×Bool))(a:dR)(al:Bool)(cks:List Nat)(xs:List AI)(vars:List V)(f:Log)(Q:List V->H->Prop)(v:V)(h':H):Vq p base ⟨i,⟨d,g,a⟩,al,cks⟩ xs vars f Q v h'=(rI cks f h'=true/\DZ p base xs (lX d vars [] v).1 (Kz ⟨i,⟨d,g,a⟩,al,cks⟩ vars v f) h' Q):=rfl
def Sy (p:Nat->Option Fn)(base i:Nat)(d:D)(x:X)(b:Bool)(a:dR)(al:Bool)(cks:List Nat)(xs:List AI)(vars:List V)(log:Log)(h:H)(Q:List V->H->Prop)(w:Bool):Prop:=match w,al with
 |true,true=>Jy (Oq vars h (base+i) a) (unc (Vq p base ⟨i,⟨d,some (x,b),a⟩,true,cks⟩ xs vars log Q))
 |true,false=>So p vars [] h a (Vq p base ⟨i,⟨d,some (x,b),a⟩,false,cks⟩ xs vars log Q)
 |false,_=>rI cks log h=true/\DZ p base xs (lX d vars [] .undef).1 log h Q
section
variable {base i:Nat} {d:D} {x:X} {b al:Bool} {a:dR} {cks:List Nat} {xs:List AI} {vars:List V} {log:Log} {h:H} {Q:List V->H->Prop}
theorem Xl {v v':Bool}(e:v=v'):Sy p base i d x b a al cks xs vars log h Q v=Sy p base i d x b a al cks xs vars log h Q v':=by rw[e]
theorem WH:Sy p base i d x b a true cks xs vars log h Q true=Jy (Oq vars h (base+i) a) (unc (Vq p base ⟨i,⟨d,some (x,b),a⟩,true,cks⟩ xs vars log Q)):=rfl
theorem TP:Sy p base i d x b a false cks xs vars log h Q true=So p vars [] h a (Vq p base ⟨i,⟨d,some (x,b),a⟩,false,cks⟩ xs vars log Q):=rfl
theorem ZB:Sy p base i d x b a al cks xs vars log h Q false=(rI cks log h=true/\DZ p base xs (lX d vars [] .undef).1 log h Q):=rfl
end
theorem EB (p:Nat->Option Fn){N k f j:Nat}(l:N<=k)(h2:f<=j):Le (jX p N f).1 (jX p k j).1/\Le (jX p N f).2 (jX p k j).2:=Yl p l f j h2
theorem agC (vars loc:List V)(h:H)(i:I)(Q:V->H->Prop):So p vars loc h (.op i) Q=Jy (cI (xv vars loc) h i) (unc Q):=by
 unfold So Jy;refine propext ⟨λ⟨N,f,v,h',e,q⟩=>⟨(v,h'),by rw[sX] at e;exact e,q⟩,λ⟨r,e,q⟩=>⟨0,0,r.1,r.2,by rw[sX];exact e,q⟩⟩
theorem QZ (vars loc:List V)(h:H)(g:Nat)(args:List X)(Q:V->H->Prop):So p vars loc h (.call g args) Q=Ev p g (args.map (xv vars loc)) h Q:=by
 unfold So Ev;simp only[tS]
def Cz (p:Nat->Option Fn)(x:V)(args:List V)(h:H)(Q:V->H->Prop):Prop:=match x with
 | .fn g fs cs=>Ev p g (fs++args++cs) h Q
 | .yl id=>Ey p id args h Q
 |_=>False
theorem Cz.mono {x:V}{h:H}{Q:V->H->Prop}(e:Cz p x args h Q)(k: ∀v h',Q v h'->R v h'):Cz p x args h R:=by
 unfold Cz at*;split at e
 ·exact e.mono k
 ·exact e.mono k
 ·exact e.elim
theorem AJ {x f:V}{a:List V}{h:H}{Q:V->H->Prop}(j:x=f)(l:a=a')(k:h=h'):Cz p x a h Q=Cz p f a' h' Q:=by rw[j,l,k]
theorem SS (g:Nat)(f j args:List V)(h:H)(Q:V->H->Prop):Cz p (.fn g f j) args h Q=Ev p g (f++args++j) h Q:=rfl
theorem RP (id:Nat)(args:List V)(h:H)(Q:V->H->Prop):Cz p (.yl id) args h Q=Ey p id args h Q:=rfl
theorem IK (vars loc:List V)(h:H)(x:X)(args:List X)(Q:V->H->Prop):So p vars loc h (.callv x args) Q=Cz p (xv vars loc x) (args.map (xv vars loc)) h Q:=by
 unfold So;simp only[rF];unfold Cz;cases xv vars loc x<;>simp [Ev,Ey]
def Vm (p:Nat->Option Fn)(g t:Nat)(x:V)(args:List V)(h:H)(Q:V->H->Prop):Prop:=match x with
 | .ifc u v=>u=t/\Ev p g (v::args) h Q
 |_=>False
theorem CT (g t:Nat)(v:V)(args:List V)(h:H)(Q:V->H->Prop):Vm p g t (.ifc t v) args h Q=Ev p g (v::args) h Q:=by
 simp [Vm]
theorem KA (vars loc:List V)(h:H)(g t:Nat)(x:X)(args:List X)(Q:V->H->Prop):So p vars loc h (.calli g t x args) Q=Vm p g t (xv vars loc x) (args.map (xv vars loc)) h Q:=by
 unfold So;simp only[rH];unfold Vm;cases xv vars loc x<;>simp only[reduceCtorEq,false_and,exists_false];rename_i u v
 by_cases f:u=t
 ·subst f
  simp [Ev]
 ·have:Nat.beq u t=false:=by
   cases hq:Nat.beq u t with
   |false=>rfl
   |true=>exact absurd (Nat.eq_of_beq_eq_true hq) f
  simp [this,f]
def Vx (p:Nat->Option Fn)(g:Nat)(vs:List V)(h:H)(Q:V->H->Prop):Prop:=vs.all V.Iu=true/\Ev p g vs ⟨.lf,0⟩ (λv _=>v.Iu=true/\Q v h)
theorem JI (vars loc:List V)(h:H)(g:Nat)(args:List X)(Q:V->H->Prop):So p vars loc h (.callp g args) Q=Vx p g (args.map (xv vars loc)) h Q:=by
 unfold So Vx Ev;refine propext ⟨λ⟨N,f,v,h',e,q⟩=>?_,λ⟨k,N,f,v,h',e,j,q⟩=>⟨N,f,v,h,?_,q⟩⟩
 ·rw[mB] at e
  obtain⟨rfl,k,j,m,l⟩:=yL e;exact⟨k,N,f,v,m,l,j,q⟩
 ·rw[mB]
  unfold Kg;simp only[k,e,j,cond_true]
theorem Vx.intro {vs:List V}{h:H}{Q:V->H->Prop}(e:Ev p g vs ⟨.lf,0⟩ R)(f:vs.all V.Iu=true)(k: ∀v h',R v h'->v.Iu=true/\Q v h):Vx p g vs h Q:=⟨f,e.mono k⟩
theorem YW (vars loc:List V)(h:H)(Q:List V->H->Prop):AO p [] vars loc h Q=Q vars h:=by
 unfold AO;refine propext ⟨λ⟨N,f,v,h',e,q⟩=>?_,λq=>⟨0,0,vars,h,rfl,q⟩⟩;rw[Jb] at e;cases e;exact q
theorem VO (d:D)(a:dR)(its:List It)(vars loc:List V)(h:H)(Q:List V->H->Prop):
  AO p (⟨d,none,a⟩::its) vars loc h Q=So p vars loc h a (NY p d its vars loc Q):=by
 unfold NY AO So
 refine propext ⟨λ⟨N,f,v,h',e,q⟩=>?_,λ⟨N,f,v,l,e,N2,f2,vars',h',e2,q⟩=>?_⟩
 ·rw[nL] at e
  simp only[vQ] at e
  split at e
  ·rename_i n l m
   exact⟨N,f,n,l,m,N,f,v,h',e,q⟩
  ·cases e
 ·refine⟨max N N2,max f f2,vars',h',?_,q⟩
  rw[nL]
  have j:=EB p (Nat.le_max_left N N2) (Nat.le_max_left f f2)
  have k:=EB p (Nat.le_max_right N N2) (Nat.le_max_right f f2)
  simp only[vQ,QB j.1 j.2 e]
  exact qK k.1 k.2 _ _ _ _ _ e2
theorem JC (d:D)(x:X)(b:Bool)(a:dR)(its:List It)(vars loc:List V)(h:H)(Q:List V->H->Prop):
  AO p (⟨d,some (x,b),a⟩::its) vars loc h Q=Jy (vQ vars loc (some (x,b))) (Zn p d a its vars loc h Q):=by
 unfold Jy
 refine propext ⟨λ⟨N,f,v,h',e,q⟩=>?_,λ⟨w,l,k⟩=>?_⟩
 ·rw[nL] at e
  split at e
  ·rename_i l
   refine⟨true,l,?_⟩
   split at e
   ·rename_i y s u
    exact⟨N,f,y,s,u,N,f,v,h',e,q⟩
   ·cases e
  ·rename_i l
   exact⟨false,l,N,f,v,h',e,q⟩
  ·cases e
 ·cases w with
  |true=>
   obtain⟨N,f,v,s,e,m,n,j,h',t,q⟩:=k;refine⟨max N m,max f n,j,h',?_,q⟩;rw[nL];have o:=EB p (Nat.le_max_left N m) (Nat.le_max_left f n);have r:=EB p (Nat.le_max_right N m) (Nat.le_max_right f n);simp only[l,QB o.1 o.2 e];exact qK r.1 r.2 _ _ _ _ _ t
  |false=>
   obtain⟨N,f,v,h',e,q⟩:=k;refine⟨N,f,v,h',?_,q⟩;rw[nL];simp only[l];exact e
theorem XA (base:Nat)(vars:List V)(log:Log)(h:H)(Q:List V->H->Prop):DZ p base [] vars log h Q=Q vars h:=by
 unfold DZ;refine propext ⟨λ⟨N,f,v,h',e,q⟩=>?_,λq=>⟨0,0,vars,h,rfl,q⟩⟩;rw[Ik] at e;cases e;exact q
theorem TQ (base i:Nat)(d:D)(a:dR)(cks:List Nat)(xs:List AI)(vars:List V)(log:Log)(h:H)(Q:List V->H->Prop):
  DZ p base (⟨i,⟨d,none,a⟩,false,cks⟩::xs) vars log h Q=So p vars [] h a (Vq p base ⟨i,⟨d,none,a⟩,false,cks⟩ xs vars log Q):=by
 unfold Vq DZ So
 refine propext ⟨λ⟨N,f,v,h',e,q⟩=>?_,λ⟨N,f,v,m,e,j,N2,f2,vars',h',e2,q⟩=>?_⟩
 ·rw[jK] at e
  simp only[vQ,Bool.false_eq_true,if_false] at e
  split at e
  ·rename_i o m n
   split at e
   ·rename_i j
    exact⟨N,f,o,m,n,j,N,f,v,h',e,q⟩
   ·cases e
  ·cases e
 ·refine⟨max N N2,max f f2,vars',h',?_,q⟩
  rw[jK]
  have k:=EB p (Nat.le_max_left N N2) (Nat.le_max_left f f2)
  have l:=EB p (Nat.le_max_right N N2) (Nat.le_max_right f f2)
  simp only[vQ,Bool.false_eq_true,if_false,QB k.1 k.2 e,j,if_true]
  exact tG l.1 l.2 _ _ _ _ _ e2
theorem IB (base i:Nat)(d:D)(a:dR)(cks:List Nat)(xs:List AI)(vars:List V)(log:Log)(h:H)(Q:List V->H->Prop):
  DZ p base (⟨i,⟨d,none,a⟩,true,cks⟩::xs) vars log h Q=Jy (Oq vars h (base+i) a) (unc (Vq p base ⟨i,⟨d,none,a⟩,true,cks⟩ xs vars log Q)):=by
 unfold unc Vq DZ Jy
 refine propext ⟨λ⟨N,f,v,h',e,q⟩=>?_,λ⟨r,e,j,N2,f2,vars',h',e2,q⟩=>?_⟩
 ·rw[jK] at e
  simp only[vQ,if_true] at e
  split at e
  ·rename_i m k l
   split at e
   ·rename_i j
    exact⟨(m,k),l,j,N,f,v,h',e,q⟩
   ·cases e
  ·cases e
 ·refine⟨N2,f2,vars',h',?_,q⟩
  rw[jK]
  obtain⟨v,k⟩:=r
  simp only[vQ,if_true,e,j]
  exact e2
theorem JB (base i:Nat)(d:D)(x:X)(b:Bool)(a:dR)(al:Bool)(cks:List Nat)(xs:List AI)(vars:List V)(log:Log)(h:H)(Q:List V->H->Prop):
  DZ p base (⟨i,⟨d,some (x,b),a⟩,al,cks⟩::xs) vars log h Q=Jy (vQ vars [] (some (x,b))) (Sy p base i d x b a al cks xs vars log h Q):=by
 unfold Jy
 refine propext ⟨λ⟨N,f,v,h',e,q⟩=>?_,λ⟨w,m,k⟩=>?_⟩
 ·rw[jK] at e
  split at e
  ·rename_i m
   refine⟨true,m,?_⟩
   cases al with
   |true=>
    simp only[if_true] at e;split at e
    ·rename_i u s t
     split at e
     ·rename_i l
      exact⟨(u,s),t,l,N,f,v,h',e,q⟩
     ·cases e
    ·cases e
   |false=>
    simp only[Bool.false_eq_true,if_false] at e;split at e
    ·rename_i u s t
     split at e
     ·rename_i l
      exact⟨N,f,u,s,t,l,N,f,v,h',e,q⟩
     ·cases e
    ·cases e
  ·rename_i m
   split at e
   ·rename_i l
    exact⟨false,m,l,N,f,v,h',e,q⟩
   ·cases e
  ·cases e
 ·cases w with
  |true=>
   cases al with
   |true=>
    obtain⟨⟨v,s⟩,e,l,n,o,j,h',r,q⟩:=k;refine⟨n,o,j,h',?_,q⟩;rw[jK];simp only[m,if_true,e,l];exact r
   |false=>
    obtain⟨N,f,v,s,e,l,n,o,j,h',r,q⟩:=k;refine⟨max N n,max f o,j,h',?_,q⟩;rw[jK];have y:=EB p (Nat.le_max_left N n) (Nat.le_max_left f o);have z:=EB p (Nat.le_max_right N n) (Nat.le_max_right f o);simp only[m,Bool.false_eq_true,if_false,QB y.1 y.2 e,l,if_true];exact tG z.1 z.2 _ _ _ _ _ r
  |false=>
   obtain⟨l,n,o,j,h',r,q⟩:=k;refine⟨n,o,j,h',?_,q⟩;rw[jK];simp only[m,l,if_true];exact r
variable {rd:Option Nat} {vars:List V} {h:H} {Q:E->List V->H->Prop}
theorem YH:Wp p rd .skip vars h Q=Q .norm vars h:=by
 unfold Wp;simp only[Ez];exact propext ⟨λ⟨_,_,_,_,_,e,q⟩=>by cases e;exact q,λq=>⟨0,0,_,_,_,rfl,q⟩⟩
theorem aeW:Wp p rd .ret vars h Q=Q .ret vars h:=by
 unfold Wp;simp only[Vg];exact propext ⟨λ⟨_,_,_,_,_,e,q⟩=>by cases e;exact q,λq=>⟨0,0,_,_,_,rfl,q⟩⟩
theorem WW (n:Nat):Wp p rd (.exit n) vars h Q=Q (.exit n) vars h:=by
 unfold Wp;simp only[Og];exact propext ⟨λ⟨_,_,_,_,_,e,q⟩=>by cases e;exact q,λq=>⟨0,0,_,_,_,rfl,q⟩⟩
theorem WG (a:C):Wp p rd (.scope a) vars h Q=Wp p rd a vars h Q:=by
 unfold Wp;simp only[Ja]
theorem afX (its:List It):Wp p rd (.reg its) vars h Q=AO p its vars [] h (Q .norm):=by
 unfold Wp AO;simp only[Va];refine propext ⟨λ⟨N,f,e,v,h',he,q⟩=>?_,λ⟨N,f,v,h',he,q⟩=>⟨N,f,.norm,v,h',by rw[he],q⟩⟩;split at he
 ·rename_i j;cases he;exact⟨N,f,_,_,j,q⟩
 ·cases he
def adX (n:Nat)(Q:E->List V->H->Prop):List V->H->Prop:=λvs h'=>Q .norm (vs.take n) h'
theorem XE (n:Nat)(vs:List V)(h':H):adX n Q vs h'=Q .norm (vs.take n) h':=rfl
theorem aeT (k j:Nat)(its:List AI):Wp p rd (.any k j its) vars h Q=DZ p h.next its (vars++List.replicate j .unk) [] {h with next:=h.next+k} (adX vars.length Q):=by
 unfold adX Wp DZ;simp only[Ur];refine propext ⟨λ⟨N,f,e,v,h',he,q⟩=>?_,λ⟨N,f,v,h',he,q⟩=>⟨N,f,.norm,_,h',by rw[he],q⟩⟩;split at he
 ·rename_i l;cases he;exact⟨N,f,_,_,l,q⟩
 ·cases he
def On (p:Nat->Option Fn)(rd:Option Nat)(b:C)(Q:E->List V->H->Prop):E->List V->H->Prop:=λe vars h=>match e with| .norm=>Wp p rd b vars h Q|e=>Q e vars h
theorem Md (b:C)(vars:List V)(h:H):On p rd b Q .norm vars h=Wp p rd b vars h Q:=rfl
theorem KX (b:C)(vars:List V)(h:H):On p rd b Q .ret vars h=Q .ret vars h:=rfl
theorem AZ (b:C)(n:Nat)(vars:List V)(h:H):On p rd b Q (.exit n) vars h=Q (.exit n) vars h:=rfl
theorem VN (a b:C):Wp p rd (.seq a b) vars h Q=Wp p rd a vars h (On p rd b Q):=by
 refine propext ⟨λ⟨N,f,e,v,h',he,q⟩=>?_,λ⟨N,f,e,v,o,he,k⟩=>?_⟩
 ·rw[run_seq] at he
  cases hr:run (jX p N f).1 (jX p N f).2 N rd a vars h with
  |none=>simp [hr] at he
  |some r=>
   obtain⟨B,A,G,o⟩:=r;simp only[hr] at he
   cases B with
   |norm=>
    simp only at he
    cases hr2:run (jX p N f).1 (jX p N f).2 N rd b A o with
    |none=>simp [hr2] at he
    |some r=>
     obtain⟨t,u,F,s⟩:=r;simp only[hr2,Option.some.injEq,Prod.mk.injEq] at he;obtain⟨rfl,rfl,y,rfl⟩:=he;simp only[List.append_eq_nil_iff] at y;obtain⟨rfl,rfl⟩:=y;exact⟨N,f,.norm,A,o,hr,N,f,_,_,_,hr2,q⟩
   |ret=>simp only at he;cases he;exact⟨N,f,_,_,_,hr,q⟩
   |exit n=>simp only at he;cases he;exact⟨N,f,_,_,_,hr,q⟩
 ·cases e with
  |norm=>
   obtain⟨j,l,t,u,s,m,q⟩:=k;refine⟨max N j,max f l,t,u,s,?_,q⟩;have w:=EB p (Nat.le_max_left N j) (Nat.le_max_left f l);have z:=EB p (Nat.le_max_right N j) (Nat.le_max_right f l);rw[run_seq,iU w.1 w.2 (Nat.le_max_left N j) _ _ _ _ he];simp only[iU z.1 z.2 (Nat.le_max_right N j) _ _ _ _ m]
   rfl
  |ret=>exact⟨N,f,_,_,_,by rw[run_seq,he],k⟩
  |exit n=>exact⟨N,f,_,_,_,by rw[run_seq,he],k⟩
theorem afR (x:X)(a b:C):Wp p rd (.ite x a b) vars h Q=Nh p rd a b vars h Q (xv vars [] x):=by
 unfold Nh Wp;simp only[run_ite]
 cases xv vars [] x with
 |bool t=>cases t<;>rfl
 |_=>exact propext ⟨λ⟨_,_,_,_,_,e,_⟩=>(nomatch e),λh=>h.elim⟩
def vH (id:Nat)(Q:E->List V->H->Prop):E->List V->H->Prop:=λe vars h=>match e with| .exit n=>if n=id then Q .norm vars h else Q (.exit n) vars h|e=>Q e vars h
theorem Yn (id:Nat)(vars:List V)(h:H):vH id Q .norm vars h=Q .norm vars h:=rfl
theorem ED (id:Nat)(vars:List V)(h:H):vH id Q .ret vars h=Q .ret vars h:=rfl
theorem An (id:Nat)(vars:List V)(h:H):vH id Q (.exit id) vars h=Q .norm vars h:=bF rfl
theorem KF (id n:Nat)(f:n≠id)(vars:List V)(h:H):vH id Q (.exit n) vars h=Q (.exit n) vars h:=bI f
theorem AD (id:Nat)(a:C):Wp p rd (.block id a) vars h Q=Wp p rd a vars h (vH id Q):=by
 unfold Wp;simp only[Iq];refine propext ⟨λ⟨N,f,e,v,h',he,q⟩=>?_,λ⟨N,f,e,v,l,he,k⟩=>?_⟩
 ·cases hr:run (jX p N f).1 (jX p N f).2 N rd a vars h with
  |none=>simp [hr] at he
  |some r=>
   obtain⟨m,o,s,l⟩:=r;simp only[hr] at he
   cases m with
   |exit n=>
    simp only at he;split at he
    ·rename_i j;cases he;exact⟨N,f,_,_,_,hr,by simp only[vH];rw[bF j];exact q⟩
    ·rename_i j;cases he;exact⟨N,f,_,_,_,hr,by simp only[vH];rw[bI j];exact q⟩
   |norm=>simp only at he;cases he;exact⟨N,f,_,_,_,hr,q⟩
   |ret=>simp only at he;cases he;exact⟨N,f,_,_,_,hr,q⟩
 ·cases e with
  |exit n=>
   simp only[vH] at k;split at k
   ·rename_i j;exact⟨N,f,_,_,_,by rw[he];simp only;rw[bF j],k⟩
   ·rename_i j;exact⟨N,f,_,_,_,by rw[he];simp only;rw[bI j],k⟩
  |norm=>exact⟨N,f,_,_,_,by rw[he],k⟩
  |ret=>exact⟨N,f,_,_,_,by rw[he],k⟩
def Tl (J:List V->H->Prop)(Q:E->List V->H->Prop):E->List V->H->Prop:=λe vars h=>match e with| .norm=>J vars h|e=>Q e vars h
theorem Wx (J:List V->H->Prop)(vars:List V)(h:H):Tl J Q .norm vars h=J vars h:=rfl
theorem alM (J:List V->H->Prop)(vars:List V)(h:H):Tl J Q .ret vars h=Q .ret vars h:=rfl
theorem Yo (J:List V->H->Prop)(n:Nat)(vars:List V)(h:H):Tl J Q (.exit n) vars h=Q (.exit n) vars h:=rfl
theorem aH (J:Nat->List V->H->Prop)(k:Nat)(F:J k vars h)
  (step: ∀k vars h,J k vars h->Wp p rd c vars h (Tl (λv h'=> ∃k',k'<k/\J k' v h') Q)):Wp p rd (.loop c) vars h Q:=by
 have t: ∀k vars h,J k vars h-> ∃N f n e j h',Bg (run (jX p N f).1 (jX p N f).2 N rd c) n vars h=some (e,j, [],h')/\Q e j h':=by
  intro k
  induction k using Nat.strongRecOn with
  |ind k ih=>
   intro vars h G;obtain⟨N,f,e,v,O,m,q⟩:=step k vars h G
   cases e with
   |norm=>
    obtain⟨k',w,u⟩:=q;obtain⟨l,o,n,B,K,A,s,L⟩:=ih k' w v O u;have y:=EB p (Nat.le_max_left N l) (Nat.le_max_left f o);have z:=EB p (Nat.le_max_right N l) (Nat.le_max_right f o);refine⟨max N l,max f o,n+1,B,K,A,?_,L⟩;rw[tD,iU y.1 y.2 (Nat.le_max_left N l) _ _ _ _ m];simp only[yG (λv h r=>iU z.1 z.2 (Nat.le_max_right N l) c v h r) n n (fM _) _ _ _ s]
    rfl
   |ret=>exact⟨N,f,1,_,_,_,by rw[tD,m],q⟩
   |exit n=>exact⟨N,f,1,_,_,_,by rw[tD,m],q⟩
 obtain⟨N,f,n,e,v,h',m,q⟩:=t k vars h F
 refine⟨max N n,f,e,v,h',?_,q⟩
 have b:=EB p (Nat.le_max_left N n) (fM f)
 rw[Nc]
 exact yG (λv h r=>iU b.1 b.2 (Nat.le_max_left N n) c v h r) n (max N n) (Nat.le_max_right N n) _ _ _ m
def VB (id:Nat)(vars:List V)(Q:E->List V->H->Prop):V->H->Prop:=λ_ h'=> ∃r,h'.get id=some (.loop r)/\r.st≠ .busy/\Q (r.pend.getD .norm) vars (h'.set id (some (.loop {r with st:= .out})))
def Mj (p:Nat->Option Fn)(rd:Option Nat)(x:V)(pars:List Nat)(assign body:C)(vars:List V)(h:H)(Q:E->List V->H->Prop):Prop:=
 match x with
 | .fn g fs cs=>LR rd h=true/\Ev p g (fs++ .yl h.next::cs) (h.new (.loop {vars,pars,assign,body,st:= .ready,pend:=none})) (VB h.next vars Q)
 |_=>False
theorem Up {x j:V}{f:List Nat}{a b:C}{h:H}(k:x=j)(l:v=v')(m:h=h'):Mj p rd x f a b v h Q=Mj p rd j f a b v' h' Q:=by rw[k,l,m]
theorem KV (g:Nat)(f j:List V)(pars:List Nat)(assign body:C):Mj p rd (.fn g f j) pars assign body vars h Q=(LR rd h=true/\Ev p g (f++ .yl h.next::j) (h.new (.loop {vars,pars,assign,body,st:= .ready,pend:=none})) (VB h.next vars Q)):=rfl
theorem VJ (x:X)(j:List Nat)(a b:C):Wp p rd (.range x j a b) vars h Q=Mj p rd (xv vars [] x) j a b vars h Q:=by
 unfold Wp Mj;simp only[Jd,zS]
 cases xv vars [] x with
 |fn g fs cs=>
  simp only;refine propext ⟨λ⟨N,f,e,v,h',he,q⟩=>?_,λ⟨m,N,f,v,h',he,r,k,l,q⟩=>?_⟩
  ·split at he
   ·rename_i m
    refine⟨m,?_⟩;split at he
    ·rename_i n o s
     split at he
     ·rename_i r k
      split at he
      ·cases he
      ·rename_i l
       cases he;exact⟨N,f,n,o,s,r,k,l,q⟩
     ·cases he
    ·cases he
   ·cases he
  ·refine⟨N,f,_,_,_,?_,q⟩
   rw[bF m];simp only[he,k];rw[bI l]
 |_=>exact propext ⟨λ⟨_,_,_,_,_,e,_⟩=>(nomatch e),λh=>h.elim⟩
def YM (Q:V->H->Prop)(h:H):List V->Prop:=λvs=>Q (Jm vs) h
theorem abA (Q:V->H->Prop)(h:H)(vs:List V):YM Q h vs=Q (Jm vs) h:=rfl
def JN (results:List Rv)(Q:V->H->Prop):E->List V->H->Prop:=λe vars h=>match e with
 | .exit _=>False
 |_=>Jy (cH (results.map (Ct vars h))) (YM Q h)
theorem LW (results:List Rv)(Q:V->H->Prop)(vars:List V)(h:H):JN results Q .norm vars h=Jy (cH (results.map (Ct vars h))) (YM Q h):=rfl
theorem anA (results:List Rv)(Q:V->H->Prop)(vars:List V)(h:H):JN results Q .ret vars h=Jy (cH (results.map (Ct vars h))) (YM Q h):=rfl
theorem Ko {j:Fn}{h:H}{Q:V->H->Prop}(m:p g=some j)(r:args.length=j.nargs)(s:Wp p none j.body (Fk j args) h (JN j.results Q)):Ev p g args h Q:=by
 obtain⟨N,f,e,v,h',o,q⟩:=s
 cases e with
 |exit n=>exact q.elim
 |norm=>
  obtain⟨l,k,q⟩:=q;refine⟨N,f+1,Jm l,h',?_,q⟩;rw[qU];simp only[Af,m,r,if_true,o,xF,k,Option.map_some]
 |ret=>
  obtain⟨l,k,q⟩:=q;refine⟨N,f+1,Jm l,h',?_,q⟩;rw[qU];simp only[Af,m,r,if_true,o,xF,k,Option.map_some]
def Jc (id:Nat)(Q:V->H->Prop):E->List V->H->Prop:=λe _ h=> ∃r3,h.get id=some (.loop r3)/\(match e with
 | .norm=>Q (.bool true) (h.set id (some (.loop {r3 with st:= .ready,pend:=none})))
 |e=>Q (.bool false) (h.set id (some (.loop {r3 with st:= .done,pend:=some e}))))
theorem acY {id:Nat}{h:H}{Q:V->H->Prop}{r:eH}(u:h.get id=some (.loop r))(y:args.length=r.pars.length)
  (z:Wp p (some id) r.assign ((r.pars.zip args).foldl (λvs q=>vs.set q.1 q.2) r.vars) h λe vars h1=>e= .norm/\ ∃r2,h1.get id=some (.loop r2)/\r2.st= .ready/\
   Wp p (some id) r.body vars (h1.set id (some (.loop {r2 with st:= .busy}))) (Jc id Q)):Ey p id args h Q:=by
 obtain⟨N,f,e,v,h1,w,rfl,r2,l,iP,j,o,A,G,B,k,F,m,q⟩:=z
 have s:=EB p (show N<=max N j by omega) (show f<=max f o by omega)
 have t:=EB p (show j<=max N j by omega) (show o<=max f o by omega)
 cases A with
 |norm=>
  refine⟨max N j,max f o+1,.bool true,_,?_,q⟩;rw[qU];simp only[vG,u,y,if_true,iU s.1 s.2 (show N<=max N j by omega) _ _ _ _ w,l,iP,iU t.1 t.2 (show j<=max N j by omega) _ _ _ _ k,m]
 |ret=>
  refine⟨max N j,max f o+1,.bool false,_,?_,q⟩;rw[qU];simp only[vG,u,y,if_true,iU s.1 s.2 (show N<=max N j by omega) _ _ _ _ w,l,iP,iU t.1 t.2 (show j<=max N j by omega) _ _ _ _ k,m]
 |exit n=>
  refine⟨max N j,max f o+1,.bool false,_,?_,q⟩;rw[qU];simp only[vG,u,y,if_true,iU s.1 s.2 (show N<=max N j by omega) _ _ _ _ w,l,iP,iU t.1 t.2 (show j<=max N j by omega) _ _ _ _ k,m]
end
end
end Go.Ay
