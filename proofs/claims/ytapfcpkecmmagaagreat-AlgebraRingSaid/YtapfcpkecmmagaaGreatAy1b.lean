/- The evaluator: calls by levels, loops by fuel, all else by recursion on the code. -/
import Derived.Test.YtapfcpkecmmagaaGreatAy1
namespace Go.Ay
noncomputable section
def abT (ρ:X->V)(h:H)(x:X):Option (V×H):=some (ρ x,h)
def ND (ρ:X->V)(h:H)(c a b:X):Option (V×H):=match ρ c with| .bool t=>some (cond t (ρ a) (ρ b),h)|_=>none
def HN (h:H)(o:Option V):Option (V×H):=Option.rec none (λv=>some (v,h)) o
def YH (ρ:X->V)(h:H)(op:BinOp)(k:IntKind)(x y:X):Option (V×H):=match ρ x,ρ y with
 | .int j a,.int j' b=>if j=k/\j'=k then HN h (Ww op k a b) else none
 |_,_=>none
def abC (ρ:X->V)(h:H)(neg:Bool)(x:X):Option (V×H):=match ρ x with
 | .aC=>some (.bool (!neg),h)
 | .sl .. | .emp _=>some (.bool neg,h)
 |_=>none
def abU (ρ:X->V)(h:H)(x:X):Option (V×H):=match ρ x with| .bool a=>some (.bool (!a),h)|_=>none
def YL (ρ:X->V)(h:H)(x:X)(i:Nat):Option (V×H):=match ρ x with| .tup vs=>HN h (vs[i]?)|_=>none
def OO (ρ:X->V)(h:H)(x:X):Option (V×H):=match ρ x with
 | .aC=>some (.int .i64 0,h)
 | .emp _=>some (.int .i64 0,h)
 | .sl _ _ len _=>some (.int .i64 (len:Int),h)
 |_=>none
def ldX (h:H)(agg:Bool)(n:Nat)(v:V):Option V:=match v with
 | .ptr id off=>match h.Lg id with
  |some (.cells _ vs)=>match HC vs off n with
   |some ws=>cond agg (some (.agg ws)) (match ws with| [v]=>some v|_=>none)
   |none=>none
  |_=>none
 |_=>none
def fLd (ρ:X->V)(h:H)(agg:Bool)(n:Nat)(x:X):Option (V×H):=HN h (ldX h agg n (ρ x))
def Nc (h:H)(id off:Nat)(ws:List V):Option H:=match h.Lg id with
 |some (.cells false vs)=>match RU off ws vs with
  |some vs'=>some (h.Ko id (some (.cells false vs')))
  |none=>none
 |_=>none
def fSt (ρ:X->V)(h:H)(n:Nat)(x y:X):Option (V×H):=match ρ x with
 | .ptr id off=>if (ρ y).cells.length=n/\(ρ y).cells.all V.one then (match Nc h id off (ρ y).cells with|some h'=>some (V.undef,h')|none=>none) else none
 |_=>none
def Zw (n:Int):Option Nat:=Int.rec (λa=>some a) (λ_=>none) n
def XV (ρ:X->V)(h:H)(sz:Nat)(x i:X):Option (V×H):=match ρ x,ρ i with
 | .sl id off len _,.int _ n=>(match Zw n with|some k=>cond (Nat.blt k len) (some (.ptr id (off+k*sz),h)) none|none=>none)
 |_,_=>none
def YZ (ρ:X->V)(h:H)(n sz:Nat)(x i:X):Option (V×H):=match ρ x,ρ i with
 | .ptr id off,.int _ z=>(match Zw z with|some k=>cond (Nat.blt k n) (some (.ptr id (off+k*sz),h)) none|none=>none)
 |_,_=>none
def abY (ρ:X->V)(h:H)(off:Nat)(x:X):Option (V×H):=match ρ x with| .ptr id o=>some (.ptr id (o+off),h)|_=>none
def IH (ρ:X->V)(h:H)(agg:Bool)(off n:Nat)(x:X):Option (V×H):=match ρ x with
 | .agg vs=>cond agg (match HC vs off n with|some ws=>some (.agg ws,h)|none=>none) (HN h (vs[off]?))
 |_=>none
def abZ (ρ:X->V)(h:H)(f:Nat)(fs cs:List X):Option (V×H):=some (.fn f (fs.map ρ) (cs.map ρ),h)
def IP (h:H)(o:Ob):H:=H.rec (λt n=>⟨Tr.Ko (n+1) t n (some o),n+1⟩) h
theorem Yt (h:H)(o:Ob):IP h o=h.new o:=by
 cases h;show H.mk _ _=_;rw[←Tr.pJ];rfl
def aaH (h:H)(zero:List V):Option (V×H):=some (.ptr h.next 0,IP h (.cells false zero))
def abS (ρ:X->V)(h:H)(x:X):Option (V×H):=match ρ x with| .ptr id off=>some (.ptr id off,h)|_=>none
def ZG (h:H)(id off n:Nat):Option (List V):=match h.Lg id with
 |some (.cells _ vs)=>HC vs off n
 |_=>none
theorem RX (h:H)(id off n:Nat):ZG h id off n=h.row id off n:=by
 unfold ZG H.row;rw[H.rE]
 cases h.get id with
 |none=>rfl
 |some o=>cases o<;>simp only[Od]
def Qm (h:H)(sz:Nat):V->Option (List V)
 | .aC=>some []
 | .emp _=>some []
 | .sl id off len _=>ZG h id off (len*sz)
 |_=>none
theorem Ma (h:H)(sz:Nat)(v:V):Qm h sz v=h.slice sz v:=by
 cases v<;>simp only[Qm,H.slice,RX]
def LV (l m:List V):List V:=List.rec m (λv _ ih=>v::ih) l
theorem Yx: ∀(l m:List V),LV l m=l++m
 | [],_=>rfl
 |v::l,m=>by show v::LV l m=_;rw[Yx l m];rfl
def LX (h:H)(sz bytes:Nat)(x:V)(m:Nat)(ys:List V):Option (V×H):=
 match qN x with
 |some n=>
  match Qm h sz x with
  |some xs=>
  if m=0 then some (x,h) else
  cond (Nat.ble ((2*(n+m)+1000)*bytes) 281474976710656&&Nat.blt (n+m) 4611686018427387904) (
   match x with
   | .sl id off len (.kn c)=>
    cond (Nat.ble (len+m) c) (match Nc h id (off+len*sz) ys with
     |some h'=>some (.sl id off (len+m) (.kn c),h')
     |none=>none)
    (some (.sl h.next 0 (n+m) (.un sz),IP h (.cells false (LV xs ys))))
   | .sl id _ _ (.un e)=>
    match h.Lg id with
    |some (.cells false _)=>cond (Nat.beq e sz) (some (.sl h.next 0 (n+m) (.un sz),IP (h.Ko id none) (.cells false (LV xs ys)))) none
    |_=>none
   | .emp _=>none
   |_=>some (.sl h.next 0 (n+m) (.un sz),IP h (.cells false (LV xs ys)))) none
  |none=>none
 |none=>none
theorem DR (h:H)(id off:Nat)(ws:List V):Nc h id off ws=h.put id off ws:=by
 unfold Nc H.put;simp only[H.rE,Ny,H.pJ]
 cases h.get id with
 |none=>rfl
 |some o=>cases o with
  |cells ro vs=>cases ro<;>simp only<;>cases putAt vs off ws<;>rfl
  |_=>rfl
theorem OY (h:H)(sz bytes:Nat)(x:V)(m:Nat)(ys:List V):LX h sz bytes x m ys=uA h sz bytes x m ys:=by
 unfold LX uA;rw[Ma]
 cases hn:qN x with
 |none=>rfl
 |some n=>
  cases hs:h.slice sz x with
  |none=>rfl
  |some xs=>
   simp only
   by_cases hm:m=0
   ·simp [hm]
   ·simp only[hm,if_false]
    have hb:(Nat.ble ((2*(n+m)+1000)*bytes) 281474976710656&&Nat.blt (n+m) 4611686018427387904)=decide ((2*(n+m)+1000)*bytes<=2^48/\n+m<2^62):=by
     rw[Bool.eq_iff_iff];simp only[Bool.and_eq_true,Nat.ble_eq,Nat.blt_eq,decide_eq_true_eq]
    rw[hb]
    by_cases hc:(2*(n+m)+1000)*bytes<=2^48/\n+m<2^62
    ·rw[if_pos hc,decide_eq_true hc]
     simp only[cond_true,Yt,H.pJ,H.rE,Yx,DR]
     cases x with
     |sl id off len cap=>
      cases cap with
      |kn c=>
       simp only
       by_cases hle:len+m<=c
       ·rw[if_pos hle,(Nat.ble_eq).mpr hle];rfl
       ·rw[if_neg hle,show Nat.ble (len+m) c=false from by
         cases h9:Nat.ble (len+m) c with
         |false=>rfl
         |true=>exact absurd ((Nat.ble_eq).mp h9) hle];rfl
      |un e=>
       simp only
       cases h.get id with
       |none=>rfl
       |some o=>cases o with
        |cells ro vs=>cases ro with
         |true=>rfl
         |false=>
          simp only
          by_cases he:e=sz
          ·rw[if_pos he,(Nat.beq_eq).mpr he];rfl
          ·rw[if_neg he,show Nat.beq e sz=false from by
            cases h9:Nat.beq e sz with
            |false=>rfl
            |true=>exact absurd ((Nat.beq_eq).mp h9) he];rfl
        |_=>rfl
     |_=>rfl
    ·rw[if_neg hc,decide_eq_false hc];rfl
def aaB (ρ:X->V)(h:H)(sz bytes:Nat)(x y:X):Option (V×H):=match qN (ρ y) with
 |some m=>match Qm h sz (ρ y) with
  |some ys=>LX h sz bytes (ρ x) m ys
  |none=>none
 |none=>none
def evX (ρ:X->V)(h:H)(i:I):Option (V×H):=
 I.rec (motive:=λ_=>Option (V×H))
  (abT ρ h) (ND ρ h) (YH ρ h) (λa b c d=>cJ ρ h (.shf a b c d)) (λa b c=>cJ ρ h (.beq a b c)) (abC ρ h) (abU ρ h) (λk x=>cJ ρ h (.neg k x)) (λk x=>cJ ρ h (.conv k x))
  (IH ρ h) (YL ρ h) (OO ρ h) (λx=>cJ ρ h (.lenm x)) (λx=>cJ ρ h (.caps x)) (λm xs=>cJ ρ h (.mm m xs)) (fLd ρ h) (fSt ρ h) (XV ρ h) (abY ρ h)
  (λa b c d e=>cJ ρ h (.slc a b c d e)) (λa b c d e=>cJ ρ h (.mks a b c d e)) (aaH h) (λx=>cJ ρ h (.box x)) (λz ps=>cJ ρ h (.bld z ps)) (λa b c d=>cJ ρ h (.bls a b c d))
  (aaB ρ h) (λa b c d e=>cJ ρ h (.apz a b c d e)) (λa b c=>cJ ρ h (.cpy a b c)) (abZ ρ h) (cJ ρ h .mkm) (λa b c d=>cJ ρ h (.lkp a b c d)) (λa b c=>cJ ρ h (.mset a b c)) (abS ρ h)
  (YZ ρ h) (λx=>cJ ρ h (.cvs x)) (λt x=>cJ ρ h (.mif t x)) (λa b=>cJ ρ h (.mkw a b)) (λs a b c d=>cJ ρ h (.lkw s a b c d)) (λs a b c=>cJ ρ h (.msw s a b c)) (λs a b c=>cJ ρ h (.ent s a b c)) (λa b c=>cJ ρ h (.ens a b c)) (λa b=>cJ ρ h (.six a b)) (λa b c=>cJ ρ h (.seq a b c)) (λa b=>cJ ρ h (.sad a b)) (λa=>cJ ρ h (.cir a)) (λa b c=>cJ ρ h (.clr a b c)) (λa b c d e=>cJ ρ h (.sla a b c d e)) none i
theorem Df (h:H)(o:Option V):HN h o=o.map (·,h):=by cases o<;>rfl
theorem WO (h:H)(agg:Bool)(n:Nat)(v:V):ldX h agg n v=LC h agg n v:=by
 unfold ldX LC H.row
 cases v with
 |ptr id off=>
  simp only[H.rE,Od]
  cases h.get id with
  |none=>rfl
  |some o=>cases o with
   |cells ro vs=>simp only;cases sub vs off n with
    |none=>rfl
    |some ws=>cases agg<;>rfl
   |_=>rfl
 |_=>rfl
theorem LM (h:H)(id off:Nat)(ws:List V):Nc h id off ws=h.put id off ws:=by
 unfold Nc H.put;simp only[H.rE,Ny,H.pJ]
 cases h.get id with
 |none=>rfl
 |some o=>cases o with
  |cells ro vs=>cases ro<;>simp only<;>cases putAt vs off ws<;>rfl
  |_=>rfl
theorem ZE (ρ:X->V)(h:H)(i:I):evX ρ h i=cJ ρ h i:=by
 cases i with
 |pick c a b=>
         show ND ρ h c a b=_;simp only[ND,cJ];cases ρ c<;>try rfl
         rename_i t;cases t<;>rfl
 |bin op k x y=>show YH ρ h op k x y=_;simp only[YH,cJ,Df,BG];rfl
 |ext x i=>show YL ρ h x i=_;simp only[YL,cJ,Df];rfl
 |lens x=>show OO ρ h x=_;simp only[OO,cJ];cases ρ x<;>rfl
 |ld agg n x=>show fLd ρ h agg n x=_;simp only[fLd,cJ,Df,WO]
 |st n x y=>
  show fSt ρ h n x y=_;simp only[fSt,cJ,LM];cases ρ x<;>try rfl
  simp only;split<;>try rfl
  cases h.put _ _ _<;>rfl
 |ixa sz x i=>
  show XV ρ h sz x i=_;simp only[XV,cJ,Ku];cases ρ x<;>try rfl
  cases ρ i<;>try rfl
  rename_i id off len cap k n;simp only
  cases n with
  |ofNat a=>
   simp only[Zw]
   by_cases h1:a<len
   ·rw[(Nat.blt_eq).mpr h1]
    have h2:(0:Int)<=Int.ofNat a/\Int.ofNat a<(len:Int):=⟨Int.natCast_nonneg a,by simpa using h1⟩
    rw[if_pos h2];rfl
   ·have h3:Nat.blt a len=false:=by
     cases h4:Nat.blt a len with
     |false=>rfl
     |true=>exact absurd ((Nat.blt_eq).mp h4) h1
    rw[h3];have h2: ¬((0:Int)<=Int.ofNat a/\Int.ofNat a<(len:Int)):=λh=>h1 (by simpa using h.2)
    rw[if_neg h2];rfl
  |negSucc a=>
   have h2: ¬((0:Int)<=Int.negSucc a/\Int.negSucc a<(len:Int)):=λh=>by have:=h.1;omega
   rw[if_neg h2];rfl
 |ixd len sz x i=>
  show YZ ρ h len sz x i=_;simp only[YZ,cJ,BF];cases ρ x<;>try rfl
  cases ρ i<;>try rfl
  rename_i id off k n;simp only
  cases n with
  |ofNat a=>
   simp only[Zw]
   by_cases h1:a<len
   ·rw[(Nat.blt_eq).mpr h1]
    have h2:(0:Int)<=Int.ofNat a/\Int.ofNat a<(len:Int):=⟨Int.natCast_nonneg a,by simpa using h1⟩
    rw[if_pos h2];rfl
   ·have h3:Nat.blt a len=false:=by
     cases h4:Nat.blt a len with
     |false=>rfl
     |true=>exact absurd ((Nat.blt_eq).mp h4) h1
    rw[h3];have h2: ¬((0:Int)<=Int.ofNat a/\Int.ofNat a<(len:Int)):=λh=>h1 (by simpa using h.2)
    rw[if_neg h2];rfl
  |negSucc a=>
   have h2: ¬((0:Int)<=Int.negSucc a/\Int.negSucc a<(len:Int)):=λh=>by have:=h.1;omega
   rw[if_neg h2];rfl
 |alc z=>show aaH h z=_;simp only[aaH,cJ,Yt]
 |app sz b x y=>
  show aaB ρ h sz b x y=_;simp only[aaB,cJ,Ma,OY];cases qN (ρ y)<;>cases h.slice sz (ρ y)<;>rfl
 |part agg off n x=>
  show IH ρ h agg off n x=_;simp only[IH,cJ,Od,Df];cases ρ x<;>try rfl
  cases agg
  ·rfl
  ·simp only[cond_true,if_true]
   cases sub _ _ _<;>rfl
 |_=>rfl
abbrev dO:=Nat->List V->H->Option (V×H)
def Fw (cl:dO)(g:Nat)(vs:List V)(h:H):Option (V×H):=
 cond (vs.all V.Ds) (match cl g vs ⟨.lf,0⟩ with|some (v,_)=>cond v.Ds (some (v,h)) none|none=>none) none
def kX (cl yl:dO)(vars loc:List V)(h:H)(a:dW):Option (V×H):=
 dW.rec (motive:=λ_=>Option (V×H)) (evX (Zy vars loc) h) (λg args=>cl g (args.map (Zy vars loc)) h)
  (λx args=>match Zy vars loc x with
   | .fn g fs cs=>cl g (fs++args.map (Zy vars loc)++cs) h
   | .yl id=>yl id (args.map (Zy vars loc)) h
   |_=>none)
  (λg args=>Fw cl g (args.map (Zy vars loc)) h)
  (λg t x args=>match Zy vars loc x with
   | .ifc u v=>cond (Nat.beq u t) (cl g (v::args.map (Zy vars loc)) h) none
   |_=>none) a
theorem sU (cl yl:dO)(vars loc:List V)(h:H)(i:I):kX cl yl vars loc h (.op i)=cJ (xv vars loc) h i:=by
 show evX (Zy vars loc) h i=_;rw[ZE,Af]
theorem sT (cl yl:dO)(vars loc:List V)(h:H)(g:Nat)(args:List X):kX cl yl vars loc h (.call g args)=cl g (args.map (xv vars loc)) h:=by
 show cl g (args.map (Zy vars loc)) h=_;rw[Af]
theorem pU (cl yl:dO)(vars loc:List V)(h:H)(x:X)(args:List X):kX cl yl vars loc h (.callv x args)=match xv vars loc x with
   | .fn g fs cs=>cl g (fs++args.map (xv vars loc)++cs) h
   | .yl id=>yl id (args.map (xv vars loc)) h
   |_=>none:=by
 rw[←Af];rfl
theorem qB (cl yl:dO)(vars loc:List V)(h:H)(g t:Nat)(x:X)(args:List X):kX cl yl vars loc h (.calli g t x args)=match xv vars loc x with
   | .ifc u v=>cond (Nat.beq u t) (cl g (v::args.map (xv vars loc)) h) none
   |_=>none:=by
 rw[←Af];rfl
theorem lL (cl yl:dO)(vars loc:List V)(h:H)(g:Nat)(args:List X):kX cl yl vars loc h (.callp g args)=Fw cl g (args.map (xv vars loc)) h:=by
 show Fw cl g (args.map (Zy vars loc)) h=_;rw[Af]
theorem xB {cl:dO}{g:Nat}{vs:List V}{h h':H}{v:V}(he:Fw cl g vs h=some (v,h')):h'=h/\vs.all V.Ds=true/\v.Ds=true/\ ∃h2,cl g vs ⟨.lf,0⟩=some (v,h2):=by
 unfold Fw at he
 cases h1:vs.all V.Ds with
 |false=>rw[h1] at he;cases he
 |true=>
  rw[h1] at he;simp only[cond_true] at he;split at he
  ·rename_i w h2 hc
   cases h3:w.Ds with
   |false=>rw[h3] at he;cases he
   |true=>rw[h3] at he;cases he;exact⟨rfl,rfl,h3,h2,hc⟩
  ·cases he
def yU (vars loc:List V)(g:Option (X×Bool)):Option Bool:=
 match g with
 |none=>some true
 |some (x,b)=>match Zy vars loc x with| .bool a=>some (a==b)| .tup []=>some false|_=>none
theorem Je (vars loc:List V)(g:Option (X×Bool)):yU vars loc g=fP vars loc g:=by
 unfold yU fP;rw[Af];rfl
def Bs {α:Type}(d:D)(vars loc:List V)(v:V)(k:List V->List V->α):α:=
 D.rec (λi=>k (KV vars i v) loc) (k vars (v::loc)) (k vars loc) d
theorem To {α:Type}(d:D)(vars loc:List V)(v:V)(k:List V->List V->α):Bs d vars loc v k=k (lH d vars loc v).1 (lH d vars loc v).2:=by
 cases d with
 |v i=>show k (KV vars i v) loc=_;rw[AQ];rfl
 |l=>rfl
 |n=>rfl
def tI (cl yl:dO)(its:List It):List V->List V->H->Option (List V×H):=
 List.rec (λvars _ h=>some (vars,h)) (λit _ ih vars loc h=>
  match yU vars loc it.g with
  |some true=>match kX cl yl vars loc h it.a with
   |some (v,h)=>Bs it.d vars loc v λvars loc=>ih vars loc h
   |none=>none
  |some false=>Bs it.d vars loc .undef λvars loc=>ih vars loc h
  |none=>none) its
theorem Eh (cl yl:dO)(vars loc:List V)(h:H):tI cl yl [] vars loc h=some (vars,h):=rfl
theorem mI (cl yl:dO)(it:It)(its:List It)(vars loc:List V)(h:H):tI cl yl (it::its) vars loc h=
  match fP vars loc it.g with
  |some true=>match kX cl yl vars loc h it.a with
   |some (v,h)=>tI cl yl its (lH it.d vars loc v).1 (lH it.d vars loc v).2 h
   |none=>none
  |some false=>tI cl yl its (lH it.d vars loc .undef).1 (lH it.d vars loc .undef).2 h
  |none=>none:=by
 rw[←Je]
 show (match yU vars loc it.g with
  |some true=>match kX cl yl vars loc h it.a with
   |some (v,h)=>Bs it.d vars loc v λvars loc=>tI cl yl its vars loc h
   |none=>none
  |some false=>Bs it.d vars loc .undef λvars loc=>tI cl yl its vars loc h
  |none=>none)=_
 simp only[To]
def vP (cl yl:dO)(base:Nat)(xs:List AI):List V->Log->H->Option (List V×H):=
 List.rec (λvars _ h=>some (vars,h)) (λx _ ih vars log h=>
  match yU vars [] x.it.g with
  |some true=>
   match cond x.al (Ij vars h (base+x.i) x.it.a) (kX cl yl vars [] h x.it.a) with
   |some (v,h)=>if pV x.cks log h then Bs x.it.d vars [] v λvars' _=>ih vars' (Gd x vars v log) h else none
   |none=>none
  |some false=>if pV x.cks log h then Bs x.it.d vars [] .undef λvars' _=>ih vars' log h else none
  |none=>none) xs
theorem Dh (cl yl:dO)(base:Nat)(vars:List V)(log:Log)(h:H):vP cl yl base [] vars log h=some (vars,h):=rfl
theorem iY (cl yl:dO)(base:Nat)(x:AI)(xs:List AI)(vars:List V)(log:Log)(h:H):vP cl yl base (x::xs) vars log h=
  match fP vars [] x.it.g with
  |some true=>
   match (if x.al then Ij vars h (base+x.i) x.it.a else kX cl yl vars [] h x.it.a) with
   |some (v,h)=>if pV x.cks log h then vP cl yl base xs (lH x.it.d vars [] v).1 (Gd x vars v log) h else none
   |none=>none
  |some false=>if pV x.cks log h then vP cl yl base xs (lH x.it.d vars [] .undef).1 log h else none
  |none=>none:=by
 rw[←Je]
 show (match yU vars [] x.it.g with
  |some true=>
   match cond x.al (Ij vars h (base+x.i) x.it.a) (kX cl yl vars [] h x.it.a) with
   |some (v,h)=>if pV x.cks log h then Bs x.it.d vars [] v λvars' _=>vP cl yl base xs vars' (Gd x vars v log) h else none
   |none=>none
  |some false=>if pV x.cks log h then Bs x.it.d vars [] .undef λvars' _=>vP cl yl base xs vars' log h else none
  |none=>none)=_
 simp only[To,Bool.cond_eq_ite]
abbrev Ru:=Option (E×List V×GG×H)
def xT (step:List V->H->Ru)(n:Nat):List V->H->Ru:=
 Nat.rec (λ_ _=>none) (λ_ ih vars h=>match step vars h with
  |some (.norm,vars,dfs,h)=>match ih vars h with
   |some (e,vars,dfs2,h)=>some (e,vars,dfs2++dfs,h)
   |none=>none
  |r=>r) n
theorem Jz (step:List V->H->Ru)(vars:List V)(h:H):xT step 0 vars h=none:=rfl
theorem lK (step:List V->H->Ru)(n:Nat)(vars:List V)(h:H):xT step (n+1) vars h=match step vars h with
  |some (.norm,vars,dfs,h)=>match xT step n vars h with
   |some (e,vars,dfs2,h)=>some (e,vars,dfs2++dfs,h)
   |none=>none
  |r=>r:=rfl
def ZF (a b:List V->H->Ru)(vars:List V)(h:H):Ru:=match a vars h with
 |some (.norm,vars,dfs,h)=>match b vars h with
  |some (e,vars,dfs2,h)=>some (e,vars,dfs2++dfs,h)
  |none=>none
 |r=>r
def ZU (x:X)(a b:List V->H->Ru)(vars:List V)(h:H):Ru:=match Zy vars [] x with
 | .bool true=>a vars h
 | .bool false=>b vars h
 |_=>none
def MG (id:Nat)(a:List V->H->Ru)(vars:List V)(h:H):Ru:=match a vars h with
 |some (.exit n,vars,dfs,h)=>if n=id then some (.norm,vars,dfs,h) else some (.exit n,vars,dfs,h)
 |r=>r
def aaE (cl yl:dO)(its:List It)(vars:List V)(h:H):Ru:=match tI cl yl its vars [] h with
 |some (vars,h)=>some (.norm,vars, [],h)
 |none=>none
def YA (cl yl:dO)(k nl:Nat)(its:List AI)(vars:List V)(h:H):Ru:=
 match vP cl yl h.next its (vars++List.replicate nl .unk) [] {h with next:=h.next+k} with
 |some (vs,h)=>some (.norm,vs.take vars.length, [],h)
 |none=>none
def Gh (cl yl:dO)(rd:Option Nat)(its:List It)(x:X)(args:List X)(vars:List V)(h:H):Ru:=
 if rd.isSome then none else match tI cl yl its vars [] h with
  |some (vars,h)=>match xv vars [] x with
   | .fn g fs cs=>some (.norm,vars, [(g,fs++args.map (xv vars [])++cs)],h)
   |_=>none
  |none=>none
def xS (cl:dO)(rd:Option Nat)(x:X)(pars:List Nat)(assign body:C)(vars:List V)(h:H):Ru:=
 match xv vars [] x with
 | .fn g fs cs=>
  if DJ rd h then
  match cl g (fs++ .yl h.next::cs) (h.new (.loop {vars,pars,assign,body,st:= .ready,pend:=none})) with
  |some (_,h')=>
   match h'.get h.next with
   |some (.loop r)=>
    if r.st= .busy then none else
    some (r.pend.getD .norm,vars, [],h'.set h.next (some (.loop {r with st:= .out})))
   |_=>none
  |none=>none
  else none
 |_=>none
def run (cl yl:dO)(N:Nat)(rd:Option Nat)(c:C):List V->H->Ru:=
 C.rec (motive:=λ_=>List V->H->Ru) (λvars h=>some (.norm,vars, [],h)) (aaE cl yl) (YA cl yl) (Gh cl yl rd) (λ_ _ a b=>ZF a b) (λx _ _ a b=>ZU x a b) (λid _ a=>MG id a)
  (λ_ a=>xT a N) (λn vars h=>some (.exit n,vars, [],h)) (λvars h=>some (.ret,vars, [],h)) (λ_ a=>a) (λx pars as bd _ _=>xS cl rd x pars as bd) (λ_ _=>none) c
section
variable (cl yl:dO) (N:Nat) (rd:Option Nat) (vars:List V) (h:H)
theorem Cy:run cl yl N rd .skip vars h=some (.norm,vars, [],h):=rfl
theorem Qa (its:List It):run cl yl N rd (.reg its) vars h=match tI cl yl its vars [] h with
 |some (vars,h)=>some (.norm,vars, [],h)
 |none=>none:=rfl
theorem Oc (k nl:Nat)(its:List AI):run cl yl N rd (.any k nl its) vars h=match vP cl yl h.next its (vars++List.replicate nl .unk) [] {h with next:=h.next+k} with
 |some (vs,h)=>some (.norm,vs.take vars.length, [],h)
 |none=>none:=rfl
theorem Sy (its:List It)(x:X)(args:List X):run cl yl N rd (.regd its x args) vars h=Gh cl yl rd its x args vars h:=rfl
theorem run_seq (a b:C):run cl yl N rd (.seq a b) vars h=match run cl yl N rd a vars h with
 |some (.norm,vars,dfs,h)=>match run cl yl N rd b vars h with
  |some (e,vars,dfs2,h)=>some (e,vars,dfs2++dfs,h)
  |none=>none
 |r=>r:=rfl
theorem run_ite (x:X)(a b:C):run cl yl N rd (.ite x a b) vars h=match xv vars [] x with
 | .bool true=>run cl yl N rd a vars h
 | .bool false=>run cl yl N rd b vars h
 |_=>none:=by rw[←Af];rfl
theorem Ea (id:Nat)(a:C):run cl yl N rd (.block id a) vars h=match run cl yl N rd a vars h with
 |some (.exit n,vars,dfs,h)=>if n=id then some (.norm,vars,dfs,h) else some (.exit n,vars,dfs,h)
 |r=>r:=rfl
theorem rS (a:C):run cl yl N rd (.loop a) vars h=xT (run cl yl N rd a) N vars h:=rfl
theorem Js (n:Nat):run cl yl N rd (.exit n) vars h=some (.exit n,vars, [],h):=rfl
theorem Ow:run cl yl N rd .ret vars h=some (.ret,vars, [],h):=rfl
theorem Ed (a:C):run cl yl N rd (.scope a) vars h=run cl yl N rd a vars h:=rfl
theorem Dp (x:X)(pars:List Nat)(a b:C):run cl yl N rd (.range x pars a b) vars h=xS cl rd x pars a b vars h:=rfl
end
def Ac (p:Nat->Option Fn)(cl:dO)(dfs:GG):H->Option H:=
 List.rec (λh=>some h) (λd _ ih h=>match p d.1 with
  |some fn=>if fn.body.Ot then (match cl d.1 d.2 h with|some (_,h)=>ih h|none=>none) else none
  |none=>none) dfs
theorem uW (p:Nat->Option Fn)(cl:dO)(h:H):Ac p cl [] h=some h:=rfl
theorem Hd (p:Nat->Option Fn)(cl:dO)(g:Nat)(args:List V)(r:GG)(h:H):Ac p cl ((g,args)::r) h=match p g with
  |some fn=>if fn.body.Ot then (match cl g args h with|some (_,h)=>Ac p cl r h|none=>none) else none
  |none=>none:=rfl
def xX (p:Nat->Option Fn)(cl yl:dO)(N:Nat):dO:=λg args h=>
 match p g with
 |none=>none
 |some fn=>
  if args.length=fn.nargs then
   match run cl yl N none fn.body (zU fn args) h with
   |some (.norm,vars,dfs,h)|some (.ret,vars,dfs,h)=>
    match Ac p cl dfs h with
    |some h=>(cF (fn.results.map (zR vars h))).map λvs=>(Ep vs,h)
    |none=>none
   |_=>none
  else none
def uO (cl yl:dO)(N:Nat):dO:=λid args h=>
 match h.get id with
 |some (.loop r)=>
  if args.length=r.pars.length then
   match run cl yl N (some id) r.assign ((r.pars.zip args).foldl (λvs q=>vs.set q.1 q.2) r.vars) h with
   |some (.norm,vars,_,h)=>
    match h.get id with
    |some (.loop r2)=>
     if r2.st= .ready then
      match run cl yl N (some id) r.body vars (h.set id (some (.loop {r2 with st:= .busy}))) with
      |some (e,_,_,h)=>
       match h.get id with
       |some (.loop r3)=>
        (match e with
        | .norm=>some (.bool true,h.set id (some (.loop {r3 with st:= .ready,pend:=none})))
        |e=>some (.bool false,h.set id (some (.loop {r3 with st:= .done,pend:=some e}))))
       |_=>none
      |none=>none
     else none
    |_=>none
   |_=>none
  else none
 |_=>none
def lM (p:Nat->Option Fn)(N f:Nat):dO×dO:=
 Nat.rec (λ_ _ _=>none,λ_ _ _=>none) (λ_ q=>(xX p q.1 q.2 N,uO q.1 q.2 N)) f
def ZC (p:Nat->Option Fn)(N f:Nat):dO:=(lM p N f).1
theorem Uf (p:Nat->Option Fn)(N:Nat):lM p N 0=(λ_ _ _=>none,λ_ _ _=>none):=rfl
theorem pX (p:Nat->Option Fn)(N f:Nat):lM p N (f+1)=(xX p (lM p N f).1 (lM p N f).2 N,uO (lM p N f).1 (lM p N f).2 N):=rfl
end
end Go.Ay
