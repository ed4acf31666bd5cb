/- The evaluator: calls by levels, loops by fuel, all else by recursion on the code. -/
import Derived.Test.YtapfcpkecmmagaaGreatAy1
namespace Go.Ay
noncomputable section
def abV (ρ:X->V)(h:H)(x:X):Option (V×H):=some (ρ x,h)
def NP (ρ:X->V)(h:H)(c a b:X):Option (V×H):=match ρ c with| .bool t=>some (cond t (ρ a) (ρ b),h)|_=>none
def JQ (h:H)(o:Option V):Option (V×H):=Option.rec none (λv=>some (v,h)) o
def YI (ρ:X->V)(h:H)(op:BinOp)(k:IntKind)(x y:X):Option (V×H):=match ρ x,ρ y with
 | .int j a,.int j' b=>if j=k/\j'=k then JQ h (Vt op k a b) else none
 |_,_=>none
def abI (ρ:X->V)(h:H)(neg:Bool)(x:X):Option (V×H):=match ρ x with
 | .aC=>some (.bool (!neg),h)
 | .sl .. | .emp _=>some (.bool neg,h)
 |_=>none
def acB (ρ:X->V)(h:H)(x:X):Option (V×H):=match ρ x with| .bool a=>some (.bool (!a),h)|_=>none
def ZE (ρ:X->V)(h:H)(x:X)(i:Nat):Option (V×H):=match ρ x with| .tup vs=>JQ h (vs[i]?)|_=>none
def JO (ρ:X->V)(h:H)(x:X):Option (V×H):=match ρ x with
 | .aC=>some (.int .i64 0,h)
 | .emp _=>some (.int .i64 0,h)
 | .sl _ _ len _=>some (.int .i64 (len:Int),h)
 |_=>none
def ldX (h:H)(agg:Bool)(n:Nat)(v:V):Option V:=match v with
 | .ptr id off=>match h.Lb id with
  |some (.cells _ vs)=>match LO vs off n with
   |some ws=>cond agg (some (.agg ws)) (match ws with| [v]=>some v|_=>none)
   |none=>none
  |_=>none
 |_=>none
def fLd (ρ:X->V)(h:H)(agg:Bool)(n:Nat)(x:X):Option (V×H):=JQ h (ldX h agg n (ρ x))
def Nn (h:H)(id off:Nat)(ws:List V):Option H:=match h.Lb id with
 |some (.cells false vs)=>match QV off ws vs with
  |some vs'=>some (h.Ka id (some (.cells false vs')))
  |none=>none
 |_=>none
def fSt (ρ:X->V)(h:H)(n:Nat)(x y:X):Option (V×H):=match ρ x with
 | .ptr id off=>if (ρ y).cells.length=n/\(ρ y).cells.all V.one then (match Nn h id off (ρ y).cells with|some h'=>some (V.undef,h')|none=>none) else none
 |_=>none
def Zb (n:Int):Option Nat:=Int.rec (λa=>some a) (λ_=>none) n
def YR (ρ:X->V)(h:H)(sz:Nat)(x i:X):Option (V×H):=match ρ x,ρ i with
 | .sl id off len _,.int _ n=>(match Zb n with|some k=>cond (Nat.blt k len) (some (.ptr id (off+k*sz),h)) none|none=>none)
 |_,_=>none
def ZU (ρ:X->V)(h:H)(n sz:Nat)(x i:X):Option (V×H):=match ρ x,ρ i with
 | .ptr id off,.int _ z=>(match Zb z with|some k=>cond (Nat.blt k n) (some (.ptr id (off+k*sz),h)) none|none=>none)
 |_,_=>none
def abZ (ρ:X->V)(h:H)(off:Nat)(x:X):Option (V×H):=match ρ x with| .ptr id o=>some (.ptr id (o+off),h)|_=>none
def JR (ρ:X->V)(h:H)(agg:Bool)(off n:Nat)(x:X):Option (V×H):=match ρ x with
 | .agg vs=>cond agg (match LO vs off n with|some ws=>some (.agg ws,h)|none=>none) (JQ h (vs[off]?))
 |_=>none
def acI (ρ:X->V)(h:H)(f:Nat)(fs cs:List X):Option (V×H):=some (.fn f (fs.map ρ) (cs.map ρ),h)
def HJ (h:H)(o:Ob):H:=H.rec (λt n=>⟨Tr.Ka (n+1) t n (some o),n+1⟩) h
theorem Yx (h:H)(o:Ob):HJ h o=h.new o:=by
 cases h;show H.mk _ _=_;rw[←Tr.pI];rfl
def XZ (h:H)(zero:List V):Option (V×H):=some (.ptr h.next 0,HJ h (.cells false zero))
def acM (ρ:X->V)(h:H)(x:X):Option (V×H):=match ρ x with| .ptr id off=>some (.ptr id off,h)|_=>none
def XW (h:H)(id off n:Nat):Option (List V):=match h.Lb id with
 |some (.cells _ vs)=>LO vs off n
 |_=>none
theorem TD (h:H)(id off n:Nat):XW h id off n=h.row id off n:=by
 unfold XW H.row;rw[H.qX]
 cases h.get id with
 |none=>rfl
 |some o=>cases o<;>simp only[Pb]
def Oe (h:H)(sz:Nat):V->Option (List V)
 | .aC=>some []
 | .emp _=>some []
 | .sl id off len _=>XW h id off (len*sz)
 |_=>none
theorem Ms (h:H)(sz:Nat)(v:V):Oe h sz v=h.slice sz v:=by
 cases v<;>simp only[Oe,H.slice,TD]
def LH (l m:List V):List V:=List.rec m (λv _ ih=>v::ih) l
theorem AT: ∀(l m:List V),LH l m=l++m
 | [],_=>rfl
 |v::l,m=>by show v::LH l m=_;rw[AT l m];rfl
def OZ (h:H)(sz bytes:Nat)(x:V)(m:Nat)(ys:List V):Option (V×H):=
 match qH x with
 |some n=>
  match Oe h sz x with
  |some xs=>
  if m=0 then some (x,h) else
  cond (Nat.ble ((2*(n+m)+1000)*bytes) 281474976710656&&Nat.blt (n+m) 4611686018427387904) (
   match x with
   | .sl id off len (.kn c)=>
    cond (Nat.ble (len+m) c) (match Nn h id (off+len*sz) ys with
     |some h'=>some (.sl id off (len+m) (.kn c),h')
     |none=>none)
    (some (.sl h.next 0 (n+m) (.un sz),HJ h (.cells false (LH xs ys))))
   | .sl id _ _ (.un e)=>
    match h.Lb id with
    |some (.cells false _)=>cond (Nat.beq e sz) (some (.sl h.next 0 (n+m) (.un sz),HJ (h.Ka id none) (.cells false (LH xs ys)))) none
    |_=>none
   | .emp _=>none
   |_=>some (.sl h.next 0 (n+m) (.un sz),HJ h (.cells false (LH xs ys)))) none
  |none=>none
 |none=>none
theorem DE (h:H)(id off:Nat)(ws:List V):Nn h id off ws=h.put id off ws:=by
 unfold Nn H.put;simp only[H.qX,Oo,H.pI]
 cases h.get id with
 |none=>rfl
 |some o=>cases o with
  |cells ro vs=>cases ro<;>simp only<;>cases putAt vs off ws<;>rfl
  |_=>rfl
theorem MR (h:H)(sz bytes:Nat)(x:V)(m:Nat)(ys:List V):OZ h sz bytes x m ys=vX h sz bytes x m ys:=by
 unfold OZ vX;rw[Ms]
 cases hn:qH x with
 |none=>rfl
 |some n=>
  cases hs:h.slice sz x with
  |none=>rfl
  |some xs=>
   simp only
   by_cases hm:m=0
   ·simp [hm]
   ·simp only[hm,if_false]
    have hb:(Nat.ble ((2*(n+m)+1000)*bytes) 281474976710656&&Nat.blt (n+m) 4611686018427387904)=decide ((2*(n+m)+1000)*bytes<=2^48/\n+m<2^62):=by
     rw[Bool.eq_iff_iff];simp only[Bool.and_eq_true,Nat.ble_eq,Nat.blt_eq,decide_eq_true_eq]
    rw[hb]
    by_cases hc:(2*(n+m)+1000)*bytes<=2^48/\n+m<2^62
    ·rw[if_pos hc,decide_eq_true hc]
     simp only[cond_true,Yx,H.pI,H.qX,AT,DE]
     cases x with
     |sl id off len cap=>
      cases cap with
      |kn c=>
       simp only
       by_cases hle:len+m<=c
       ·rw[if_pos hle,(Nat.ble_eq).mpr hle];rfl
       ·rw[if_neg hle,show Nat.ble (len+m) c=false from by
         cases h9:Nat.ble (len+m) c with
         |false=>rfl
         |true=>exact absurd ((Nat.ble_eq).mp h9) hle];rfl
      |un e=>
       simp only
       cases h.get id with
       |none=>rfl
       |some o=>cases o with
        |cells ro vs=>cases ro with
         |true=>rfl
         |false=>
          simp only
          by_cases he:e=sz
          ·rw[if_pos he,(Nat.beq_eq).mpr he];rfl
          ·rw[if_neg he,show Nat.beq e sz=false from by
            cases h9:Nat.beq e sz with
            |false=>rfl
            |true=>exact absurd ((Nat.beq_eq).mp h9) he];rfl
        |_=>rfl
     |_=>rfl
    ·rw[if_neg hc,decide_eq_false hc];rfl
def YC (ρ:X->V)(h:H)(sz bytes:Nat)(x y:X):Option (V×H):=match qH (ρ y) with
 |some m=>match Oe h sz (ρ y) with
  |some ys=>OZ h sz bytes (ρ x) m ys
  |none=>none
 |none=>none
def evX (ρ:X->V)(h:H)(i:I):Option (V×H):=
 I.rec (motive:=λ_=>Option (V×H))
  (abV ρ h) (NP ρ h) (YI ρ h) (λa b c d=>cU ρ h (.shf a b c d)) (λa b c=>cU ρ h (.beq a b c)) (abI ρ h) (acB ρ h) (λk x=>cU ρ h (.neg k x)) (λk x=>cU ρ h (.conv k x))
  (JR ρ h) (ZE ρ h) (JO ρ h) (λx=>cU ρ h (.lenm x)) (λx=>cU ρ h (.caps x)) (λm xs=>cU ρ h (.mm m xs)) (fLd ρ h) (fSt ρ h) (YR ρ h) (abZ ρ h)
  (λa b c d e=>cU ρ h (.slc a b c d e)) (λa b c d e=>cU ρ h (.mks a b c d e)) (XZ h) (λx=>cU ρ h (.box x)) (λz ps=>cU ρ h (.bld z ps)) (λa b c d=>cU ρ h (.bls a b c d))
  (YC ρ h) (λa b c d e=>cU ρ h (.apz a b c d e)) (λa b c=>cU ρ h (.cpy a b c)) (acI ρ h) (cU ρ h .mkm) (λa b c d=>cU ρ h (.lkp a b c d)) (λa b c=>cU ρ h (.mset a b c)) (acM ρ h)
  (ZU ρ h) (λx=>cU ρ h (.cvs x)) (λt x=>cU ρ h (.mif t x)) (λa b=>cU ρ h (.mkw a b)) (λs a b c d=>cU ρ h (.lkw s a b c d)) (λs a b c=>cU ρ h (.msw s a b c)) (λs a b c=>cU ρ h (.ent s a b c)) (λa b c=>cU ρ h (.ens a b c)) (λa b=>cU ρ h (.six a b)) (λa b c=>cU ρ h (.seq a b c)) (λa b=>cU ρ h (.sad a b)) (λa=>cU ρ h (.cir a)) (λa b c=>cU ρ h (.clr a b c)) (λa b c d e=>cU ρ h (.sla a b c d e)) none i
theorem Cq (h:H)(o:Option V):JQ h o=o.map (·,h):=by cases o<;>rfl
theorem YT (h:H)(agg:Bool)(n:Nat)(v:V):ldX h agg n v=MA h agg n v:=by
 unfold ldX MA H.row
 cases v with
 |ptr id off=>
  simp only[H.qX,Pb]
  cases h.get id with
  |none=>rfl
  |some o=>cases o with
   |cells ro vs=>simp only;cases sub vs off n with
    |none=>rfl
    |some ws=>cases agg<;>rfl
   |_=>rfl
 |_=>rfl
theorem KC (h:H)(id off:Nat)(ws:List V):Nn h id off ws=h.put id off ws:=by
 unfold Nn H.put;simp only[H.qX,Oo,H.pI]
 cases h.get id with
 |none=>rfl
 |some o=>cases o with
  |cells ro vs=>cases ro<;>simp only<;>cases putAt vs off ws<;>rfl
  |_=>rfl
theorem XH (ρ:X->V)(h:H)(i:I):evX ρ h i=cU ρ h i:=by
 cases i with
 |pick c a b=>
         show NP ρ h c a b=_;simp only[NP,cU];cases ρ c<;>try rfl
         rename_i t;cases t<;>rfl
 |bin op k x y=>show YI ρ h op k x y=_;simp only[YI,cU,Cq,DH];rfl
 |ext x i=>show ZE ρ h x i=_;simp only[ZE,cU,Cq];rfl
 |lens x=>show JO ρ h x=_;simp only[JO,cU];cases ρ x<;>rfl
 |ld agg n x=>show fLd ρ h agg n x=_;simp only[fLd,cU,Cq,YT]
 |st n x y=>
  show fSt ρ h n x y=_;simp only[fSt,cU,KC];cases ρ x<;>try rfl
  simp only;split<;>try rfl
  cases h.put _ _ _<;>rfl
 |ixa sz x i=>
  show YR ρ h sz x i=_;simp only[YR,cU,Nx];cases ρ x<;>try rfl
  cases ρ i<;>try rfl
  rename_i id off len cap k n;simp only
  cases n with
  |ofNat a=>
   simp only[Zb]
   by_cases h1:a<len
   ·rw[(Nat.blt_eq).mpr h1]
    have h2:(0:Int)<=Int.ofNat a/\Int.ofNat a<(len:Int):=⟨Int.natCast_nonneg a,by simpa using h1⟩
    rw[if_pos h2];rfl
   ·have h3:Nat.blt a len=false:=by
     cases h4:Nat.blt a len with
     |false=>rfl
     |true=>exact absurd ((Nat.blt_eq).mp h4) h1
    rw[h3];have h2: ¬((0:Int)<=Int.ofNat a/\Int.ofNat a<(len:Int)):=λh=>h1 (by simpa using h.2)
    rw[if_neg h2];rfl
  |negSucc a=>
   have h2: ¬((0:Int)<=Int.negSucc a/\Int.negSucc a<(len:Int)):=λh=>by have:=h.1;omega
   rw[if_neg h2];rfl
 |ixd len sz x i=>
  show ZU ρ h len sz x i=_;simp only[ZU,cU,EV];cases ρ x<;>try rfl
  cases ρ i<;>try rfl
  rename_i id off k n;simp only
  cases n with
  |ofNat a=>
   simp only[Zb]
   by_cases h1:a<len
   ·rw[(Nat.blt_eq).mpr h1]
    have h2:(0:Int)<=Int.ofNat a/\Int.ofNat a<(len:Int):=⟨Int.natCast_nonneg a,by simpa using h1⟩
    rw[if_pos h2];rfl
   ·have h3:Nat.blt a len=false:=by
     cases h4:Nat.blt a len with
     |false=>rfl
     |true=>exact absurd ((Nat.blt_eq).mp h4) h1
    rw[h3];have h2: ¬((0:Int)<=Int.ofNat a/\Int.ofNat a<(len:Int)):=λh=>h1 (by simpa using h.2)
    rw[if_neg h2];rfl
  |negSucc a=>
   have h2: ¬((0:Int)<=Int.negSucc a/\Int.negSucc a<(len:Int)):=λh=>by have:=h.1;omega
   rw[if_neg h2];rfl
 |alc z=>show XZ h z=_;simp only[XZ,cU,Yx]
 |app sz b x y=>
  show YC ρ h sz b x y=_;simp only[YC,cU,Ms,MR];cases qH (ρ y)<;>cases h.slice sz (ρ y)<;>rfl
 |part agg off n x=>
  show JR ρ h agg off n x=_;simp only[JR,cU,Pb,Cq];cases ρ x<;>try rfl
  cases agg
  ·rfl
  ·simp only[cond_true,if_true]
   cases sub _ _ _<;>rfl
 |_=>rfl
abbrev dU:=Nat->List V->H->Option (V×H)
def Fv (cl:dU)(g:Nat)(vs:List V)(h:H):Option (V×H):=
 cond (vs.all V.Eh) (match cl g vs ⟨.lf,0⟩ with|some (v,_)=>cond v.Eh (some (v,h)) none|none=>none) none
def lI (cl yl:dU)(vars loc:List V)(h:H)(a:dZ):Option (V×H):=
 dZ.rec (motive:=λ_=>Option (V×H)) (evX (BL vars loc) h) (λg args=>cl g (args.map (BL vars loc)) h)
  (λx args=>match BL vars loc x with
   | .fn g fs cs=>cl g (fs++args.map (BL vars loc)++cs) h
   | .yl id=>yl id (args.map (BL vars loc)) h
   |_=>none)
  (λg args=>Fv cl g (args.map (BL vars loc)) h)
  (λg t x args=>match BL vars loc x with
   | .ifc u v=>cond (Nat.beq u t) (cl g (v::args.map (BL vars loc)) h) none
   |_=>none) a
theorem rN (cl yl:dU)(vars loc:List V)(h:H)(i:I):lI cl yl vars loc h (.op i)=cU (xv vars loc) h i:=by
 show evX (BL vars loc) h i=_;rw[XH,Ap]
theorem rZ (cl yl:dU)(vars loc:List V)(h:H)(g:Nat)(args:List X):lI cl yl vars loc h (.call g args)=cl g (args.map (xv vars loc)) h:=by
 show cl g (args.map (BL vars loc)) h=_;rw[Ap]
theorem qB (cl yl:dU)(vars loc:List V)(h:H)(x:X)(args:List X):lI cl yl vars loc h (.callv x args)=match xv vars loc x with
   | .fn g fs cs=>cl g (fs++args.map (xv vars loc)++cs) h
   | .yl id=>yl id (args.map (xv vars loc)) h
   |_=>none:=by
 rw[←Ap];rfl
theorem pY (cl yl:dU)(vars loc:List V)(h:H)(g t:Nat)(x:X)(args:List X):lI cl yl vars loc h (.calli g t x args)=match xv vars loc x with
   | .ifc u v=>cond (Nat.beq u t) (cl g (v::args.map (xv vars loc)) h) none
   |_=>none:=by
 rw[←Ap];rfl
theorem lJ (cl yl:dU)(vars loc:List V)(h:H)(g:Nat)(args:List X):lI cl yl vars loc h (.callp g args)=Fv cl g (args.map (xv vars loc)) h:=by
 show Fv cl g (args.map (BL vars loc)) h=_;rw[Ap]
theorem wW {cl:dU}{g:Nat}{vs:List V}{h h':H}{v:V}(he:Fv cl g vs h=some (v,h')):h'=h/\vs.all V.Eh=true/\v.Eh=true/\ ∃h2,cl g vs ⟨.lf,0⟩=some (v,h2):=by
 unfold Fv at he
 cases h1:vs.all V.Eh with
 |false=>rw[h1] at he;cases he
 |true=>
  rw[h1] at he;simp only[cond_true] at he;split at he
  ·rename_i w h2 hc
   cases h3:w.Eh with
   |false=>rw[h3] at he;cases he
   |true=>rw[h3] at he;cases he;exact⟨rfl,rfl,h3,h2,hc⟩
  ·cases he
def zG (vars loc:List V)(g:Option (X×Bool)):Option Bool:=
 match g with
 |none=>some true
 |some (x,b)=>match BL vars loc x with| .bool a=>some (a==b)| .tup []=>some false|_=>none
theorem Js (vars loc:List V)(g:Option (X×Bool)):zG vars loc g=fV vars loc g:=by
 unfold zG fV;rw[Ap];rfl
def Bu {α:Type}(d:D)(vars loc:List V)(v:V)(k:List V->List V->α):α:=
 D.rec (λi=>k (NB vars i v) loc) (k vars (v::loc)) (k vars loc) d
theorem Rw {α:Type}(d:D)(vars loc:List V)(v:V)(k:List V->List V->α):Bu d vars loc v k=k (lK d vars loc v).1 (lK d vars loc v).2:=by
 cases d with
 |v i=>show k (NB vars i v) loc=_;rw[AK];rfl
 |l=>rfl
 |n=>rfl
def tG (cl yl:dU)(its:List It):List V->List V->H->Option (List V×H):=
 List.rec (λvars _ h=>some (vars,h)) (λit _ ih vars loc h=>
  match zG vars loc it.g with
  |some true=>match lI cl yl vars loc h it.a with
   |some (v,h)=>Bu it.d vars loc v λvars loc=>ih vars loc h
   |none=>none
  |some false=>Bu it.d vars loc .undef λvars loc=>ih vars loc h
  |none=>none) its
theorem Ez (cl yl:dU)(vars loc:List V)(h:H):tG cl yl [] vars loc h=some (vars,h):=rfl
theorem mT (cl yl:dU)(it:It)(its:List It)(vars loc:List V)(h:H):tG cl yl (it::its) vars loc h=
  match fV vars loc it.g with
  |some true=>match lI cl yl vars loc h it.a with
   |some (v,h)=>tG cl yl its (lK it.d vars loc v).1 (lK it.d vars loc v).2 h
   |none=>none
  |some false=>tG cl yl its (lK it.d vars loc .undef).1 (lK it.d vars loc .undef).2 h
  |none=>none:=by
 rw[←Js]
 show (match zG vars loc it.g with
  |some true=>match lI cl yl vars loc h it.a with
   |some (v,h)=>Bu it.d vars loc v λvars loc=>tG cl yl its vars loc h
   |none=>none
  |some false=>Bu it.d vars loc .undef λvars loc=>tG cl yl its vars loc h
  |none=>none)=_
 simp only[Rw]
def uW (cl yl:dU)(base:Nat)(xs:List AI):List V->Log->H->Option (List V×H):=
 List.rec (λvars _ h=>some (vars,h)) (λx _ ih vars log h=>
  match zG vars [] x.it.g with
  |some true=>
   match cond x.al (Hk vars h (base+x.i) x.it.a) (lI cl yl vars [] h x.it.a) with
   |some (v,h)=>if qD x.cks log h then Bu x.it.d vars [] v λvars' _=>ih vars' (Gc x vars v log) h else none
   |none=>none
  |some false=>if qD x.cks log h then Bu x.it.d vars [] .undef λvars' _=>ih vars' log h else none
  |none=>none) xs
theorem Dk (cl yl:dU)(base:Nat)(vars:List V)(log:Log)(h:H):uW cl yl base [] vars log h=some (vars,h):=rfl
theorem jG (cl yl:dU)(base:Nat)(x:AI)(xs:List AI)(vars:List V)(log:Log)(h:H):uW cl yl base (x::xs) vars log h=
  match fV vars [] x.it.g with
  |some true=>
   match (if x.al then Hk vars h (base+x.i) x.it.a else lI cl yl vars [] h x.it.a) with
   |some (v,h)=>if qD x.cks log h then uW cl yl base xs (lK x.it.d vars [] v).1 (Gc x vars v log) h else none
   |none=>none
  |some false=>if qD x.cks log h then uW cl yl base xs (lK x.it.d vars [] .undef).1 log h else none
  |none=>none:=by
 rw[←Js]
 show (match zG vars [] x.it.g with
  |some true=>
   match cond x.al (Hk vars h (base+x.i) x.it.a) (lI cl yl vars [] h x.it.a) with
   |some (v,h)=>if qD x.cks log h then Bu x.it.d vars [] v λvars' _=>uW cl yl base xs vars' (Gc x vars v log) h else none
   |none=>none
  |some false=>if qD x.cks log h then Bu x.it.d vars [] .undef λvars' _=>uW cl yl base xs vars' log h else none
  |none=>none)=_
 simp only[Rw,Bool.cond_eq_ite]
abbrev Un:=Option (E×List V×GQ×H)
def xR (step:List V->H->Un)(n:Nat):List V->H->Un:=
 Nat.rec (λ_ _=>none) (λ_ ih vars h=>match step vars h with
  |some (.norm,vars,dfs,h)=>match ih vars h with
   |some (e,vars,dfs2,h)=>some (e,vars,dfs2++dfs,h)
   |none=>none
  |r=>r) n
theorem Iq (step:List V->H->Un)(vars:List V)(h:H):xR step 0 vars h=none:=rfl
theorem sQ (step:List V->H->Un)(n:Nat)(vars:List V)(h:H):xR step (n+1) vars h=match step vars h with
  |some (.norm,vars,dfs,h)=>match xR step n vars h with
   |some (e,vars,dfs2,h)=>some (e,vars,dfs2++dfs,h)
   |none=>none
  |r=>r:=rfl
def ZF (a b:List V->H->Un)(vars:List V)(h:H):Un:=match a vars h with
 |some (.norm,vars,dfs,h)=>match b vars h with
  |some (e,vars,dfs2,h)=>some (e,vars,dfs2++dfs,h)
  |none=>none
 |r=>r
def YU (x:X)(a b:List V->H->Un)(vars:List V)(h:H):Un:=match BL vars [] x with
 | .bool true=>a vars h
 | .bool false=>b vars h
 |_=>none
def KJ (id:Nat)(a:List V->H->Un)(vars:List V)(h:H):Un:=match a vars h with
 |some (.exit n,vars,dfs,h)=>if n=id then some (.norm,vars,dfs,h) else some (.exit n,vars,dfs,h)
 |r=>r
def ZQ (cl yl:dU)(its:List It)(vars:List V)(h:H):Un:=match tG cl yl its vars [] h with
 |some (vars,h)=>some (.norm,vars, [],h)
 |none=>none
def ZP (cl yl:dU)(k nl:Nat)(its:List AI)(vars:List V)(h:H):Un:=
 match uW cl yl h.next its (vars++List.replicate nl .unk) [] {h with next:=h.next+k} with
 |some (vs,h)=>some (.norm,vs.take vars.length, [],h)
 |none=>none
def Gm (cl yl:dU)(rd:Option Nat)(its:List It)(x:X)(args:List X)(vars:List V)(h:H):Un:=
 if rd.isSome then none else match tG cl yl its vars [] h with
  |some (vars,h)=>match xv vars [] x with
   | .fn g fs cs=>some (.norm,vars, [(g,fs++args.map (xv vars [])++cs)],h)
   |_=>none
  |none=>none
def yQ (cl:dU)(rd:Option Nat)(x:X)(pars:List Nat)(assign body:C)(vars:List V)(h:H):Un:=
 match xv vars [] x with
 | .fn g fs cs=>
  if FT rd h then
  match cl g (fs++ .yl h.next::cs) (h.new (.loop {vars,pars,assign,body,st:= .ready,pend:=none})) with
  |some (_,h')=>
   match h'.get h.next with
   |some (.loop r)=>
    if r.st= .busy then none else
    some (r.pend.getD .norm,vars, [],h'.set h.next (some (.loop {r with st:= .out})))
   |_=>none
  |none=>none
  else none
 |_=>none
def run (cl yl:dU)(N:Nat)(rd:Option Nat)(c:C):List V->H->Un:=
 C.rec (motive:=λ_=>List V->H->Un) (λvars h=>some (.norm,vars, [],h)) (ZQ cl yl) (ZP cl yl) (Gm cl yl rd) (λ_ _ a b=>ZF a b) (λx _ _ a b=>YU x a b) (λid _ a=>KJ id a)
  (λ_ a=>xR a N) (λn vars h=>some (.exit n,vars, [],h)) (λvars h=>some (.ret,vars, [],h)) (λ_ a=>a) (λx pars as bd _ _=>yQ cl rd x pars as bd) (λ_ _=>none) c
section
variable (cl yl:dU) (N:Nat) (rd:Option Nat) (vars:List V) (h:H)
theorem Ct:run cl yl N rd .skip vars h=some (.norm,vars, [],h):=rfl
theorem Pn (its:List It):run cl yl N rd (.reg its) vars h=match tG cl yl its vars [] h with
 |some (vars,h)=>some (.norm,vars, [],h)
 |none=>none:=rfl
theorem Qa (k nl:Nat)(its:List AI):run cl yl N rd (.any k nl its) vars h=match uW cl yl h.next its (vars++List.replicate nl .unk) [] {h with next:=h.next+k} with
 |some (vs,h)=>some (.norm,vs.take vars.length, [],h)
 |none=>none:=rfl
theorem Ta (its:List It)(x:X)(args:List X):run cl yl N rd (.regd its x args) vars h=Gm cl yl rd its x args vars h:=rfl
theorem run_seq (a b:C):run cl yl N rd (.seq a b) vars h=match run cl yl N rd a vars h with
 |some (.norm,vars,dfs,h)=>match run cl yl N rd b vars h with
  |some (e,vars,dfs2,h)=>some (e,vars,dfs2++dfs,h)
  |none=>none
 |r=>r:=rfl
theorem run_ite (x:X)(a b:C):run cl yl N rd (.ite x a b) vars h=match xv vars [] x with
 | .bool true=>run cl yl N rd a vars h
 | .bool false=>run cl yl N rd b vars h
 |_=>none:=by rw[←Ap];rfl
theorem Ep (id:Nat)(a:C):run cl yl N rd (.block id a) vars h=match run cl yl N rd a vars h with
 |some (.exit n,vars,dfs,h)=>if n=id then some (.norm,vars,dfs,h) else some (.exit n,vars,dfs,h)
 |r=>r:=rfl
theorem Jo (a:C):run cl yl N rd (.loop a) vars h=xR (run cl yl N rd a) N vars h:=rfl
theorem Ht (n:Nat):run cl yl N rd (.exit n) vars h=some (.exit n,vars, [],h):=rfl
theorem Py:run cl yl N rd .ret vars h=some (.ret,vars, [],h):=rfl
theorem Fe (a:C):run cl yl N rd (.scope a) vars h=run cl yl N rd a vars h:=rfl
theorem Dj (x:X)(pars:List Nat)(a b:C):run cl yl N rd (.range x pars a b) vars h=yQ cl rd x pars a b vars h:=rfl
end
def zX (p:Nat->Option Fn)(cl:dU)(dfs:GQ):H->Option H:=
 List.rec (λh=>some h) (λd _ ih h=>match p d.1 with
  |some fn=>if fn.body.Pt then (match cl d.1 d.2 h with|some (_,h)=>ih h|none=>none) else none
  |none=>none) dfs
theorem vB (p:Nat->Option Fn)(cl:dU)(h:H):zX p cl [] h=some h:=rfl
theorem Hc (p:Nat->Option Fn)(cl:dU)(g:Nat)(args:List V)(r:GQ)(h:H):zX p cl ((g,args)::r) h=match p g with
  |some fn=>if fn.body.Pt then (match cl g args h with|some (_,h)=>zX p cl r h|none=>none) else none
  |none=>none:=rfl
def yK (p:Nat->Option Fn)(cl yl:dU)(N:Nat):dU:=λg args h=>
 match p g with
 |none=>none
 |some fn=>
  if args.length=fn.nargs then
   match run cl yl N none fn.body (zW fn args) h with
   |some (.norm,vars,dfs,h)|some (.ret,vars,dfs,h)=>
    match zX p cl dfs h with
    |some h=>(cH (fn.results.map (zR vars h))).map λvs=>(Eg vs,h)
    |none=>none
   |_=>none
  else none
def uE (cl yl:dU)(N:Nat):dU:=λid args h=>
 match h.get id with
 |some (.loop r)=>
  if args.length=r.pars.length then
   match run cl yl N (some id) r.assign ((r.pars.zip args).foldl (λvs q=>vs.set q.1 q.2) r.vars) h with
   |some (.norm,vars,_,h)=>
    match h.get id with
    |some (.loop r2)=>
     if r2.st= .ready then
      match run cl yl N (some id) r.body vars (h.set id (some (.loop {r2 with st:= .busy}))) with
      |some (e,_,_,h)=>
       match h.get id with
       |some (.loop r3)=>
        (match e with
        | .norm=>some (.bool true,h.set id (some (.loop {r3 with st:= .ready,pend:=none})))
        |e=>some (.bool false,h.set id (some (.loop {r3 with st:= .done,pend:=some e}))))
       |_=>none
      |none=>none
     else none
    |_=>none
   |_=>none
  else none
 |_=>none
def lM (p:Nat->Option Fn)(N f:Nat):dU×dU:=
 Nat.rec (λ_ _ _=>none,λ_ _ _=>none) (λ_ q=>(yK p q.1 q.2 N,uE q.1 q.2 N)) f
def XU (p:Nat->Option Fn)(N f:Nat):dU:=(lM p N f).1
theorem Rx (p:Nat->Option Fn)(N:Nat):lM p N 0=(λ_ _ _=>none,λ_ _ _=>none):=rfl
theorem pX (p:Nat->Option Fn)(N f:Nat):lM p N (f+1)=(yK p (lM p N f).1 (lM p N f).2 N,uE (lM p N f).1 (lM p N f).2 N):=rfl
end
end Go.Ay
