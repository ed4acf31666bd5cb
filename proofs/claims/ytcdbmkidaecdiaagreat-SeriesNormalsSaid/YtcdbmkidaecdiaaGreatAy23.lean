/- The abstract machine, by weakest preconditions. -/
import Derived.Test.YtcdbmkidaecdiaaGreatAy1b
namespace Go.Ay
section
variable {g:Nat} {args a' v v':List V} {R:V->H->Prop} {c:C} {h':H}
def iG {α:Type}(o:Option α)(K:α->Prop):Prop:= ∃a,o=some a/\K a
theorem Zq {α:Type}(a:α)(K:α->Prop):iG (some a) K=K a:=propext ⟨λ⟨_,h,k⟩=>by cases h;exact k,λk=>⟨a,rfl,k⟩⟩
theorem Wh {α:Type}{o o':Option α}{K:α->Prop}(h:o=o'):iG o K=iG o' K:=by rw[h]
section
variable (p:Nat->Option Fn)
def Ev (g:Nat)(args:List V)(h:H)(Q:V->H->Prop):Prop:= ∃n v h',(∀m,n<=m->(nG p m).1 g args h=some (v,h'))/\Q v h'
def Ey (id:Nat)(args:List V)(h:H)(Q:V->H->Prop):Prop:= ∃n v h',(∀m,n<=m->(nG p m).2 id args h=some (v,h'))/\Q v h'
def zQ (x:V)(args:List V)(h:H)(Q:V->H->Prop):Prop:=match x with
 | .fn g fs cs=>Ev p g (fs++args++cs) h Q
 | .yl id=>Ey p id args h Q
 |_=>False
def YK (K:V->H->Prop):V×H->Prop:=λr=>K r.1 r.2
def Jc (vars loc:List V)(h:H):fO->(V->H->Prop)->Prop
 | .op i,Q=>iG (fC (xv vars loc) h i) (YK Q)
 | .call g args,Q=>Ev p g (args.map (xv vars loc)) h Q
 | .callv x args,Q=>zQ p (xv vars loc x) (args.map (xv vars loc)) h Q
def Kg:List It->List V->List V->H->(List V->H->Prop)->Prop
 | [],vars,_,h,Q=>Q vars h
 |⟨d,none,a⟩::its,vars,loc,h,Q=>Jc p vars loc h a λv h'=>Kg its (jG d vars loc v).1 (jG d vars loc v).2 h' Q
 |⟨d,some g,a⟩::its,vars,loc,h,Q=>iG (iU vars loc (some g)) λw=>match w with
  |true=>Jc p vars loc h a λv h'=>Kg its (jG d vars loc v).1 (jG d vars loc v).2 h' Q
  |false=>Kg its (jG d vars loc .undef).1 (jG d vars loc .undef).2 h Q
def Dc (base:Nat):List AI->List V->Log->H->(List V->H->Prop)->Prop
 | [],vars,_,h,Q=>Q vars h
 |⟨i,⟨d,none,a⟩,false,cks⟩::xs,vars,log,h,Q=>Jc p vars [] h a λv h'=>qG cks log h'=true/\Dc base xs (jG d vars [] v).1 (Kr ⟨i,⟨d,none,a⟩,false,cks⟩ vars v log) h' Q
 |⟨i,⟨d,none,a⟩,true,cks⟩::xs,vars,log,h,Q=>iG (Kw vars h (base+i) a) (YK λv h'=>qG cks log h'=true/\Dc base xs (jG d vars [] v).1 (Kr ⟨i,⟨d,none,a⟩,true,cks⟩ vars v log) h' Q)
 |⟨i,⟨d,some (x,b),a⟩,al,cks⟩::xs,vars,log,h,Q=>iG (iU vars [] (some (x,b))) λw=>match w,al with
  |true,true=>iG (Kw vars h (base+i) a) (YK λv h'=>qG cks log h'=true/\Dc base xs (jG d vars [] v).1 (Kr ⟨i,⟨d,some (x,b),a⟩,true,cks⟩ vars v log) h' Q)
  |true,false=>Jc p vars [] h a λv h'=>qG cks log h'=true/\Dc base xs (jG d vars [] v).1 (Kr ⟨i,⟨d,some (x,b),a⟩,false,cks⟩ vars v log) h' Q
  |false,_=>qG cks log h=true/\Dc base xs (jG d vars [] .undef).1 log h Q
def agN (n:Nat)(Q:E->List V->H->Prop):List V->H->Prop:=λvs h'=>Q .norm (vs.take n) h'
def xE (id:Nat)(Q:E->List V->H->Prop):E->List V->H->Prop:=λe vars h=>match e with| .exit n=>if n=id then Q .norm vars h else Q (.exit n) vars h|e=>Q e vars h
def Js (J:List V->H->Prop)(Q:E->List V->H->Prop):E->List V->H->Prop:=λe vars h=>match e with| .norm=>J vars h|e=>Q e vars h
def TK (id:Nat)(vars:List V)(Q:E->List V->H->Prop):V->H->Prop:=λ_ h'=> ∃r,h'.get id=some (.loop r)/\r.st≠ .busy/\Q (r.pend.getD .norm) vars (h'.set id (some (.loop {r with st:= .out})))
def sN (rd:Option Nat)(x:V)(pars:List Nat)(assign body:C)(vars:List V)(h:H)(Q:E->List V->H->Prop):Prop:=
 match x with
 | .fn g fs cs=>KI rd h=true/\Ev p g (fs++ .yl h.next::cs) (h.new (.loop {vars,pars,assign,body,st:= .ready,pend:=none})) (TK h.next vars Q)
 |_=>False
def Wp (rd:Option Nat):C->List V->H->(E->List V->H->Prop)->Prop
 | .skip,vars,h,Q=>Q .norm vars h
 | .reg its,vars,h,Q=>Kg p its vars [] h (Q .norm)
 | .any k nl its,vars,h,Q=>Dc p h.next its (vars++List.replicate nl .unk) [] {h with next:=h.next+k} (agN vars.length Q)
 | .seq a b,vars,h,Q=>Wp rd a vars h (Js (λvars h=>Wp rd b vars h Q) Q)
 | .ite x a b,vars,h,Q=>match xv vars [] x with| .bool true=>Wp rd a vars h Q| .bool false=>Wp rd b vars h Q|_=>False
 | .block id a,vars,h,Q=>Wp rd a vars h (xE id Q)
 | .loop a,vars,h,Q=> ∀I:List V->H->Prop,(∀vars h,Wp rd a vars h (Js I Q)->I vars h)->I vars h
 | .exit n,vars,h,Q=>Q (.exit n) vars h
 | .ret,vars,h,Q=>Q .ret vars h
 | .range x pars a b,vars,h,Q=>sN p rd (xv vars [] x) pars a b vars h Q
 | .fail,_,_,_=>False
variable {p}
theorem Ev.mono {h:H}{Q:V->H->Prop}(e:Ev p g args h Q)(k: ∀v h',Q v h'->R v h'):Ev p g args h R:=
 let ⟨n,v,h',e,q⟩:=e;⟨n,v,h',e,k _ _ q⟩
theorem Ey.mono {h:H}{Q:V->H->Prop}(e:Ey p g args h Q)(k: ∀v h',Q v h'->R v h'):Ey p g args h R:=
 let ⟨n,v,h',e,q⟩:=e;⟨n,v,h',e,k _ _ q⟩
theorem iG.mono {α:Type}{o:Option α}{K L:α->Prop}(e:iG o K)(k: ∀a,K a->L a):iG o L:=let ⟨a,e,q⟩:=e;⟨a,e,k a q⟩
theorem zQ.mono {x:V}{h:H}{Q:V->H->Prop}(e:zQ p x args h Q)(k: ∀v h',Q v h'->R v h'):zQ p x args h R:=by
 unfold zQ at*;split at e
 ·exact e.mono k
 ·exact e.mono k
 ·exact e
theorem Jc.mono {b d:List V}{h:H}{a:fO}{Q:V->H->Prop}(e:Jc p b d h a Q)(k: ∀v h',Q v h'->R v h'):Jc p b d h a R:=by
 cases a with
 |op i=>exact iG.mono e λ_=>k _ _
 |call g args=>exact Ev.mono e k
 |callv x args=>exact zQ.mono e k
theorem Kg.mono {Q R:List V->H->Prop}(k: ∀v h',Q v h'->R v h'): ∀{its:List It} {vars loc:List V} {h:H},Kg p its vars loc h Q->Kg p its vars loc h R
 | [],_,_,_,e=>k _ _ e
 |⟨_,none,_⟩::_,_,_,_,e=>Jc.mono e λ_ _=>Kg.mono k
 |⟨_,some _,_⟩::_,_,_,_,e=>iG.mono e λw q=>by
  cases w
  ·exact Kg.mono k q
  ·exact Jc.mono q λ_ _=>Kg.mono k
theorem Dc.mono {base:Nat}{Q R:List V->H->Prop}(k: ∀v h',Q v h'->R v h'): ∀{xs:List AI} {vars:List V} {log:Log} {h:H},Dc p base xs vars log h Q->Dc p base xs vars log h R
 | [],_,_,_,e=>k _ _ e
 |⟨_,⟨_,none,_⟩,false,_⟩::_,_,_,_,e=>Jc.mono e λ_ _ q=>⟨q.1,Dc.mono k q.2⟩
 |⟨_,⟨_,none,_⟩,true,_⟩::_,_,_,_,e=>iG.mono e λ_ q=>⟨q.1,Dc.mono k q.2⟩
 |⟨_,⟨_,some _,_⟩,al,_⟩::_,_,_,_,e=>iG.mono e λw q=>by
  cases w
  ·exact⟨q.1,Dc.mono k q.2⟩
  ·cases al
   ·exact Jc.mono q λ_ _ q=>⟨q.1,Dc.mono k q.2⟩
   ·exact iG.mono q λ_ q=>⟨q.1,Dc.mono k q.2⟩
theorem Wp.mono {rd:Option Nat}{d:List V}{h:H}{Q R:E->List V->H->Prop}(e:Wp p rd c d h Q)(k: ∀e v h',Q e v h'->R e v h'):Wp p rd c d h R:=by
 induction c generalizing d h Q R with
 |skip|exit _|ret=>exact k _ _ _ e
 |reg _=>exact Kg.mono (k _) e
 |any _ _ _=>exact Dc.mono (λ_ _=>k _ _ _) e
 |seq a b iha ihb=>
  refine iha e λe v h q=>?_
  cases e
  ·exact ihb q k
  ·exact k _ _ _ q
  ·exact k _ _ _ q
 |ite x a b iha ihb=>
  simp only[Wp] at*;split at e
  ·exact iha e k
  ·exact ihb e k
  ·exact e
 |block id a iha=>
  refine iha e λe v h q=>?_
  cases e with
  |exit n=>
   simp only[xE] at*;split at q
   ·rename_i f;rw[bJ f];exact k _ _ _ q
   ·rename_i f;rw[bU f];exact k _ _ _ q
  |_=>exact k _ _ _ q
 |loop a iha=>
  refine λI i=>e I λv h q=>i v h (iha q λe v h q=>?_)
  cases e
  ·exact q
  ·exact k _ _ _ q
  ·exact k _ _ _ q
 |range x ps a b _ _=>
  simp only[Wp,sN] at*;split at e
  ·exact⟨e.1,e.2.mono λ_ _ ⟨r,a,b,q⟩=>⟨r,a,b,k _ _ _ q⟩⟩
  ·exact e
 |fail=>exact e
theorem XP {a:List V}{h:H}{Q:V->H->Prop}(e1:a=a')(b:h=h'):Ev p g a h Q=Ev p g a' h' Q:=by rw[e1,b]
theorem VJ {a:List V}{h:H}{Q:V->H->Prop}(e1:a=a')(b:h=h'):Ey p g a h Q=Ey p g a' h' Q:=by rw[e1,b]
theorem LY {a:fO}{l b:List V}{h:H}{Q:V->H->Prop}(e1:v=v')(e:l=b)(d:h=h'):Jc p v l h a Q=Jc p v' b h' a Q:=by rw[e1,d,e]
theorem KP {a:List It}{l b:List V}{h:H}{Q:List V->H->Prop}(e1:v=v')(e:l=b)(d:h=h'):Kg p a v l h Q=Kg p a v' b h' Q:=by rw[e1,d,e]
theorem MZ {base a:Nat}{xs:List AI}{l:Log}{h:H}{Q:List V->H->Prop}(d:base=a)(e1:v=v')(b:h=h'):Dc p base xs v l h Q=Dc p a xs v' l h' Q:=by rw[d,e1,b]
theorem XE {rd:Option Nat}{h:H}{Q:E->List V->H->Prop}(e1:v=v')(a:h=h'):Wp p rd c v h Q=Wp p rd c v' h' Q:=by rw[e1,a]
def Rf (p:Nat->Option Fn)(rd:Option Nat)(a b:C)(vars:List V)(h:H)(Q:E->List V->H->Prop)(v:V):Prop:=match v with| .bool true=>Wp p rd a vars h Q| .bool false=>Wp p rd b vars h Q|_=>False
section
variable {rd:Option Nat} {a b:C} {vars:List V} {h:H} {Q:E->List V->H->Prop}
theorem EV {v v':V}(e:v=v'):Rf p rd a b vars h Q v=Rf p rd a b vars h Q v':=by rw[e]
theorem JZ:Rf p rd a b vars h Q (.bool true)=Wp p rd a vars h Q:=(rfl)
theorem EC:Rf p rd a b vars h Q (.bool false)=Wp p rd b vars h Q:=(rfl)
theorem bA {P:Prop}[Decidable P](x:P->Wp p rd a vars h Q)(y: ¬P->Wp p rd b vars h Q):Rf p rd a b vars h Q (.bool (decide P)):=by
 by_cases h:P
 ·rw[decide_eq_true h];exact x h
 ·rw[decide_eq_false h];exact y h
theorem VG {t:Bool}:Rf p rd a b vars h Q (.bool (!t))=Rf p rd b a vars h Q (.bool t):=by cases t<;>rfl
end
theorem agB (K:V->H->Prop)(v:V)(h:H):YK K (v,h)=K v h:=(rfl)
def abV (p:Nat->Option Fn)(d:D)(its:List It)(vars loc:List V)(Q:List V->H->Prop):V->H->Prop:=λv h'=>Kg p its (jG d vars loc v).1 (jG d vars loc v).2 h' Q
theorem ZE (d:D)(f:List It)(vars e:List V)(Q:List V->H->Prop)(v:V)(h':H):abV p d f vars e Q v h'=Kg p f (jG d vars e v).1 (jG d vars e v).2 h' Q:=(rfl)
def Yw (p:Nat->Option Fn)(d:D)(a:fO)(its:List It)(vars loc:List V)(h:H)(Q:List V->H->Prop)(w:Bool):Prop:=match w with
 |true=>Jc p vars loc h a (abV p d its vars loc Q)
 |false=>Kg p its (jG d vars loc .undef).1 (jG d vars loc .undef).2 h Q
section
variable {d:D} {a:fO} {its:List It} {vars loc:List V} {h:H} {Q:List V->H->Prop}
theorem AT {v v':Bool}(e:v=v'):Yw p d a its vars loc h Q v=Yw p d a its vars loc h Q v':=by rw[e]
theorem DG:Yw p d a its vars loc h Q true=Jc p vars loc h a (abV p d its vars loc Q):=(rfl)
theorem Yp:Yw p d a its vars loc h Q false=Kg p its (jG d vars loc .undef).1 (jG d vars loc .undef).2 h Q:=(rfl)
end
def FB (p:Nat->Option Fn)(base:Nat)(x:AI)(xs:List AI)(vars:List V)(log:Log)(Q:List V->H->Prop):V->H->Prop:=λv h'=>qG x.cks log h'=true/\Dc p base xs (jG x.it.d vars [] v).1 (Kr x vars v log) h' Q
theorem acH (base i:Nat)(d:D)(g:Option (X×Bool))(a:fO)(al:Bool)(cks:List Nat)(xs:List AI)(vars:List V)(e:Log)(Q:List V->H->Prop)(v:V)(h':H):FB p base ⟨i,⟨d,g,a⟩,al,cks⟩ xs vars e Q v h'=(qG cks e h'=true/\Dc p base xs (jG d vars [] v).1 (Kr ⟨i,⟨d,g,a⟩,al,cks⟩ vars v e) h' Q):=(rfl)
def Tq (p:Nat->Option Fn)(base i:Nat)(d:D)(x:X)(b:Bool)(a:fO)(al:Bool)(cks:List Nat)(xs:List AI)(vars:List V)(log:Log)(h:H)(Q:List V->H->Prop)(w:Bool):Prop:=match w,al with
 |true,true=>iG (Kw vars h (base+i) a) (YK (FB p base ⟨i,⟨d,some (x,b),a⟩,true,cks⟩ xs vars log Q))
 |true,false=>Jc p vars [] h a (FB p base ⟨i,⟨d,some (x,b),a⟩,false,cks⟩ xs vars log Q)
 |false,_=>qG cks log h=true/\Dc p base xs (jG d vars [] .undef).1 log h Q
section
variable {base i:Nat} {d:D} {x:X} {b al:Bool} {a:fO} {cks:List Nat} {xs:List AI} {vars:List V} {log:Log} {h:H} {Q:List V->H->Prop}
theorem AN {v v':Bool}(e:v=v'):Tq p base i d x b a al cks xs vars log h Q v=Tq p base i d x b a al cks xs vars log h Q v':=by rw[e]
theorem RQ:Tq p base i d x b a true cks xs vars log h Q true=iG (Kw vars h (base+i) a) (YK (FB p base ⟨i,⟨d,some (x,b),a⟩,true,cks⟩ xs vars log Q)):=(rfl)
theorem VX:Tq p base i d x b a false cks xs vars log h Q true=Jc p vars [] h a (FB p base ⟨i,⟨d,some (x,b),a⟩,false,cks⟩ xs vars log Q):=(rfl)
theorem ZY:Tq p base i d x b a al cks xs vars log h Q false=(qG cks log h=true/\Dc p base xs (jG d vars [] .undef).1 log h Q):=(rfl)
end
theorem ahA (vars loc:List V)(h:H)(i:I)(Q:V->H->Prop):Jc p vars loc h (.op i) Q=iG (fC (xv vars loc) h i) (YK Q):=(rfl)
theorem RX (vars loc:List V)(h:H)(g:Nat)(args:List X)(Q:V->H->Prop):Jc p vars loc h (.call g args) Q=Ev p g (args.map (xv vars loc)) h Q:=(rfl)
theorem Xm {x e:V}{a:List V}{h:H}{Q:V->H->Prop}(j:x=e)(e1:a=a')(f:h=h'):zQ p x a h Q=zQ p e a' h' Q:=by rw[j,e1,f]
theorem UQ (g:Nat)(f e args:List V)(h:H)(Q:V->H->Prop):zQ p (.fn g f e) args h Q=Ev p g (f++args++e) h Q:=rfl
theorem VI (id:Nat)(args:List V)(h:H)(Q:V->H->Prop):zQ p (.yl id) args h Q=Ey p id args h Q:=rfl
theorem KM (vars loc:List V)(h:H)(x:X)(args:List X)(Q:V->H->Prop):Jc p vars loc h (.callv x args) Q=zQ p (xv vars loc x) (args.map (xv vars loc)) h Q:=(rfl)
theorem abE (vars loc:List V)(h:H)(Q:List V->H->Prop):Kg p [] vars loc h Q=Q vars h:=(rfl)
theorem WN (d:D)(a:fO)(its:List It)(vars loc:List V)(h:H)(Q:List V->H->Prop):
  Kg p (⟨d,none,a⟩::its) vars loc h Q=Jc p vars loc h a (abV p d its vars loc Q):=(rfl)
theorem MJ (d:D)(x:X)(b:Bool)(a:fO)(its:List It)(vars loc:List V)(h:H)(Q:List V->H->Prop):
  Kg p (⟨d,some (x,b),a⟩::its) vars loc h Q=iG (iU vars loc (some (x,b))) (Yw p d a its vars loc h Q):=(rfl)
theorem acX (base:Nat)(vars:List V)(log:Log)(h:H)(Q:List V->H->Prop):Dc p base [] vars log h Q=Q vars h:=(rfl)
theorem RA (base i:Nat)(d:D)(a:fO)(cks:List Nat)(xs:List AI)(vars:List V)(log:Log)(h:H)(Q:List V->H->Prop):
  Dc p base (⟨i,⟨d,none,a⟩,false,cks⟩::xs) vars log h Q=Jc p vars [] h a (FB p base ⟨i,⟨d,none,a⟩,false,cks⟩ xs vars log Q):=(rfl)
theorem JY (base i:Nat)(d:D)(a:fO)(cks:List Nat)(xs:List AI)(vars:List V)(log:Log)(h:H)(Q:List V->H->Prop):
  Dc p base (⟨i,⟨d,none,a⟩,true,cks⟩::xs) vars log h Q=iG (Kw vars h (base+i) a) (YK (FB p base ⟨i,⟨d,none,a⟩,true,cks⟩ xs vars log Q)):=(rfl)
theorem OF (base i:Nat)(d:D)(x:X)(b:Bool)(a:fO)(al:Bool)(cks:List Nat)(xs:List AI)(vars:List V)(log:Log)(h:H)(Q:List V->H->Prop):
  Dc p base (⟨i,⟨d,some (x,b),a⟩,al,cks⟩::xs) vars log h Q=iG (iU vars [] (some (x,b))) (Tq p base i d x b a al cks xs vars log h Q):=(rfl)
variable {rd:Option Nat} {vars:List V} {h:H} {Q:E->List V->H->Prop}
theorem YL:Wp p rd .skip vars h Q=Q .norm vars h:=(rfl)
theorem afB:Wp p rd .ret vars h Q=Q .ret vars h:=(rfl)
theorem adZ (n:Nat):Wp p rd (.exit n) vars h Q=Q (.exit n) vars h:=(rfl)
theorem afO (its:List It):Wp p rd (.reg its) vars h Q=Kg p its vars [] h (Q .norm):=(rfl)
theorem abO (n:Nat)(vs:List V)(h':H):agN n Q vs h'=Q .norm (vs.take n) h':=rfl
theorem ahT (k e:Nat)(its:List AI):Wp p rd (.any k e its) vars h Q=Dc p h.next its (vars++List.replicate e .unk) [] {h with next:=h.next+k} (agN vars.length Q):=(rfl)
def Pn (p:Nat->Option Fn)(rd:Option Nat)(b:C)(Q:E->List V->H->Prop):E->List V->H->Prop:=λe vars h=>match e with| .norm=>Wp p rd b vars h Q|e=>Q e vars h
theorem Qg (b:C)(vars:List V)(h:H):Pn p rd b Q .norm vars h=Wp p rd b vars h Q:=(rfl)
theorem LJ (b:C)(vars:List V)(h:H):Pn p rd b Q .ret vars h=Q .ret vars h:=rfl
theorem EX (b:C)(n:Nat)(vars:List V)(h:H):Pn p rd b Q (.exit n) vars h=Q (.exit n) vars h:=rfl
theorem TU (a b:C):Wp p rd (.seq a b) vars h Q=Wp p rd a vars h (Pn p rd b Q):=(rfl)
theorem aiE (x:X)(a b:C):Wp p rd (.ite x a b) vars h Q=Rf p rd a b vars h Q (xv vars [] x):=(rfl)
theorem AG (id:Nat)(vars:List V)(h:H):xE id Q .norm vars h=Q .norm vars h:=rfl
theorem DJ (id:Nat)(vars:List V)(h:H):xE id Q .ret vars h=Q .ret vars h:=rfl
theorem Cb (id:Nat)(vars:List V)(h:H):xE id Q (.exit id) vars h=Q .norm vars h:=bJ rfl
theorem ML (id n:Nat)(e:n≠id)(vars:List V)(h:H):xE id Q (.exit n) vars h=Q (.exit n) vars h:=bU e
theorem Xw (id:Nat)(a:C):Wp p rd (.block id a) vars h Q=Wp p rd a vars h (xE id Q):=(rfl)
theorem Ye (J:List V->H->Prop)(vars:List V)(h:H):Js J Q .norm vars h=J vars h:=rfl
theorem DP (J:List V->H->Prop)(vars:List V)(h:H):Js J Q .ret vars h=Q .ret vars h:=rfl
theorem Xs (J:List V->H->Prop)(n:Nat)(vars:List V)(h:H):Js J Q (.exit n) vars h=Q (.exit n) vars h:=rfl
theorem aI (J:Nat->List V->H->Prop)(k:Nat)(f:J k vars h)
  (step: ∀k vars h,J k vars h->Wp p rd c vars h (Js (λv h'=> ∃k',k'<k/\J k' v h') Q)):Wp p rd (.loop c) vars h Q:=by
 intro I j
 induction k using Nat.strongRecOn generalizing vars h with
 |ind k ih=>
  refine j _ _ ((step k _ _ f).mono λe v h q=>?_);cases e
  ·exact let ⟨k',a,b⟩:=q;ih k' a b
  ·exact q
  ·exact q
theorem Ul {x f:V}{e:List Nat}{a b:C}{h:H}(k:x=f)(e1:v=v')(j:h=h'):sN p rd x e a b v h Q=sN p rd f e a b v' h' Q:=by rw[k,e1,j]
theorem MK (g:Nat)(f e:List V)(pars:List Nat)(assign body:C):sN p rd (.fn g f e) pars assign body vars h Q=(KI rd h=true/\Ev p g (f++ .yl h.next::e) (h.new (.loop {vars,pars,assign,body,st:= .ready,pend:=none})) (TK h.next vars Q)):=rfl
theorem WD (x:X)(e:List Nat)(a b:C):Wp p rd (.range x e a b) vars h Q=sN p rd (xv vars [] x) e a b vars h Q:=(rfl)
theorem Jc.run {vars loc:List V}{h:H}{a:fO}{Q:V->H->Prop}(e:Jc p vars loc h a Q): ∃n r,(∀m,n<=m->uN (nG p m).1 (nG p m).2 vars loc h a=some r)/\Q r.1 r.2:=by
 cases a with
 |op i=>obtain⟨r,e,q⟩:=e;exact⟨0,r,λ_ _=>e,q⟩
 |call g args=>obtain⟨n,v,h',e,q⟩:=e;exact⟨n,_,e,q⟩
 |callv x args=>
  simp only[Jc,zQ,uN] at*;split at e
  ·rename_i f;obtain⟨n,v,h',e,q⟩:=e;simp only[f];exact⟨n,_,e,q⟩
  ·rename_i f;obtain⟨n,v,h',e,q⟩:=e;simp only[f];exact⟨n,_,e,q⟩
  ·exact e.elim
theorem Kg.run {Q:List V->H->Prop}: ∀{its:List It} {vars loc:List V} {h:H},Kg p its vars loc h Q-> ∃n r,(∀m,n<=m->Ar (nG p m).1 (nG p m).2 its vars loc h=some r)/\Q r.1 r.2
 | [],_,_,_,e=>⟨0,_,λ_ _=>rfl,e⟩
 |⟨d,none,a⟩::its,vars,loc,h,e=>by
  obtain⟨n,r,e,q⟩:=Jc.run e;obtain⟨k,j,f,q⟩:=Kg.run q;exact⟨max n k,j,λm l=>by simp only[Ar,iU,e m om];exact f m om,q⟩
 |⟨d,some g,a⟩::its,vars,loc,h,e=>by
  obtain⟨w,o,e⟩:=e
  cases w with
  |true=>
   obtain⟨n,r,e,q⟩:=Jc.run e;obtain⟨k,j,f,q⟩:=Kg.run q;exact⟨max n k,j,λm l=>by simp only[Ar,o,e m om];exact f m om,q⟩
  |false=>
   obtain⟨k,j,f,q⟩:=Kg.run e;exact⟨k,j,λm l=>by simp only[Ar,o];exact f m l,q⟩
theorem Dc.run {base:Nat}{Q:List V->H->Prop}: ∀{xs:List AI} {vars:List V} {log:Log} {h:H},Dc p base xs vars log h Q-> ∃n r,(∀m,n<=m->mB (nG p m).1 (nG p m).2 base xs vars log h=some r)/\Q r.1 r.2
 | [],_,_,_,e=>⟨0,_,λ_ _=>rfl,e⟩
 |⟨i,⟨d,none,a⟩,false,cks⟩::xs,vars,log,h,e=>by
  obtain⟨n,r,e,k,q⟩:=Jc.run e;obtain⟨l,j,f,q⟩:=Dc.run q;exact⟨max n l,j,λm o=>by simp only[mB,iU,Bool.false_eq_true,if_false,e m om,k,if_true];exact f m om,q⟩
 |⟨i,⟨d,none,a⟩,true,cks⟩::xs,vars,log,h,e=>by
  obtain⟨r,e,k,q⟩:=e;obtain⟨l,j,f,q⟩:=Dc.run q;exact⟨l,j,λm o=>by simp only[mB,iU,if_true,e,k];exact f m o,q⟩
 |⟨i,⟨d,some g,a⟩,al,cks⟩::xs,vars,log,h,e=>by
  obtain⟨w,s,e⟩:=e
  cases w with
  |true=>
   cases al with
   |true=>
    obtain⟨r,e,k,q⟩:=e;obtain⟨l,j,f,q⟩:=Dc.run q;exact⟨l,j,λm o=>by simp only[mB,s,if_true,e,k];exact f m o,q⟩
   |false=>
    obtain⟨n,r,e,k,q⟩:=Jc.run e;obtain⟨l,j,f,q⟩:=Dc.run q;exact⟨max n l,j,λm o=>by simp only[mB,s,Bool.false_eq_true,if_false,e m om,k,if_true];exact f m om,q⟩
  |false=>
   obtain⟨k,q⟩:=e;obtain⟨l,j,f,q⟩:=Dc.run q;exact⟨l,j,λm o=>by simp only[mB,s,k,if_true];exact f m o,q⟩
theorem Wp.run (e:Wp p rd c vars h Q): ∃n r,(∀m,n<=m->Ay.run (nG p m).1 (nG p m).2 m rd c vars h=some r)/\Q r.1 r.2.1 r.2.2:=by
 induction c generalizing vars h Q with
 |skip|exit _|ret=>exact⟨0,_,λ_ _=>rfl,e⟩
 |reg its=>obtain⟨n,r,e,q⟩:=Kg.run e;exact⟨n,(.norm,r.1,r.2),λm f=>by simp only[Ay.run,e m f],q⟩
 |any k nl its=>obtain⟨n,r,e,q⟩:=Dc.run e;exact⟨n,(.norm,_,r.2),λm f=>by simp only[Ay.run,e m f],q⟩
 |seq a b iha ihb=>
  obtain⟨n,⟨e,v,o⟩,l,q⟩:=iha e
  cases e with
  |norm=>obtain⟨y,w,u,q⟩:=ihb q;exact⟨max n y,w,λm f=>by simp only[Ay.run,l m om];exact u m om,q⟩
  |_=>exact⟨n,_,λm f=>by simp only[Ay.run,l m f],q⟩
 |ite x a b iha ihb=>
  simp only[Wp,Ay.run] at*;split at e
  ·rename_i s;simp only[s];exact iha e
  ·rename_i s;simp only[s];exact ihb e
  ·exact e.elim
 |block id a iha=>
  obtain⟨n,⟨e,v,o⟩,l,q⟩:=iha e
  cases e with
  |exit k=>
   simp only[xE] at q;split at q
   ·rename_i t;exact⟨n,(.norm,v,o),λm f=>by simp only[Ay.run,l m f,bJ t],q⟩
   ·rename_i t;exact⟨n,(.exit k,v,o),λm f=>by simp only[Ay.run,l m f,bU t],q⟩
  |_=>exact⟨n,_,λm f=>by simp only[Ay.run,l m f],q⟩
 |loop a iha=>
  obtain⟨n,r,e,q⟩:=e (λv h=> ∃n r,(∀m j,n<=m->n<=j->Ph (Ay.run (nG p m).1 (nG p m).2 m rd a) j v h=some r)/\Q r.1 r.2.1 r.2.2) λv h e=>by
   obtain⟨n,⟨e,v,o⟩,l,q⟩:=iha e
   cases e with
   |norm=>
    obtain⟨y,w,u,q⟩:=q;refine⟨max n y+1,w,λm j f z=>?_,q⟩
    obtain⟨j,rfl⟩: ∃k,j=k+1:=⟨j- 1,om⟩
    simp only[Ph,l m om];exact u m j om om
   |_=>
    refine⟨n+1,_,λm j f z=>?_,q⟩
    obtain⟨j,rfl⟩: ∃k,j=k+1:=⟨j- 1,om⟩
    simp only[Ph,l m om]
  exact⟨n,r,λm f=>e m m f f,q⟩
 |range x ps a b _ _=>
  simp only[Wp,sN,Ay.run] at*;split at e
  ·rename_i s
   obtain⟨F,n,v,o,e,r,A,B,q⟩:=e;simp only[s];exact⟨n,(_,_,_),λm f=>by rw[bJ F];simp only[e m f,A];rw[bU B];rfl,q⟩
  ·exact e.elim
 |fail=>exact e.elim
def YW (Q:V->H->Prop)(h:H):List V->Prop:=λvs=>Q (Yv vs) h
theorem abN (Q:V->H->Prop)(h:H)(vs:List V):YW Q h vs=Q (Yv vs) h:=rfl
def LX (results:List Rv)(Q:V->H->Prop):E->List V->H->Prop:=λe vars h=>match e with
 | .exit _=>False
 |_=>iG (dG (results.map (Kh vars h))) (YW Q h)
theorem MX (results:List Rv)(Q:V->H->Prop)(vars:List V)(h:H):LX results Q .norm vars h=iG (dG (results.map (Kh vars h))) (YW Q h):=rfl
theorem PN (results:List Rv)(Q:V->H->Prop)(vars:List V)(h:H):LX results Q .ret vars h=iG (dG (results.map (Kh vars h))) (YW Q h):=rfl
theorem mX {f:Fn}{h:H}{Q:V->H->Prop}(u:p g=some f)(t:args.length=f.nargs)(o:Wp p none f.body (Hv f args) h (LX f.results Q))(s:f.srt=false:=by rfl):Ev p g args h Q:=by
 obtain⟨n,⟨e,v,h'⟩,j,q⟩:=o.run
 cases e with
 |exit n=>exact q.elim
 |_=>
  obtain⟨l,r,q⟩:=q;refine⟨n+1,Yv l,h',λm w=>?_,q⟩
  obtain⟨m,rfl⟩: ∃k,m=k+1:=⟨m- 1,om⟩
  simp only[nG,GO,u,s,Bool.false_eq_true,if_false,t,if_true,j m om,r,Option.map_some]
def Kq (id:Nat)(Q:V->H->Prop):E->List V->H->Prop:=λe _ h=> ∃r3,h.get id=some (.loop r3)/\(match e with
 | .norm=>Q (.bool true) (h.set id (some (.loop {r3 with st:= .ready,pend:=none})))
 |e=>Q (.bool false) (h.set id (some (.loop {r3 with st:= .done,pend:=some e}))))
theorem afA {id:Nat}{h:H}{Q:V->H->Prop}{r:fK}(s:h.get id=some (.loop r))(t:args.length=r.pars.length)
  (w:Wp p (some id) r.assign ((r.pars.zip args).foldl (λvs q=>vs.set q.1 q.2) r.vars) h λe vars h1=>e= .norm/\ ∃r2,h1.get id=some (.loop r2)/\r2.st= .ready/\
   Wp p (some id) r.body vars (h1.set id (some (.loop {r2 with st:= .busy}))) (Kq id Q)):Ey p id args h Q:=by
 obtain⟨n,⟨e,v,h1⟩,o,rfl,r2,f,jI,k⟩:=w.run
 obtain⟨u,⟨y,F,A⟩,l,B,j,q⟩:=k.run
 cases y with
 |norm=>
  refine⟨max n u+1,.bool true,_,λm z=>?_,q⟩
  obtain⟨m,rfl⟩: ∃k,m=k+1:=⟨m- 1,om⟩
  simp only[nG,Ou,s,t,if_true,o m om,f,jI,l m om,j]
 |_=>
  refine⟨max n u+1,.bool false,_,λm z=>?_,q⟩
  obtain⟨m,rfl⟩: ∃k,m=k+1:=⟨m- 1,om⟩
  simp only[nG,Ou,s,t,if_true,o m om,f,jI,l m om,j]
end
end
end Go.Ay
