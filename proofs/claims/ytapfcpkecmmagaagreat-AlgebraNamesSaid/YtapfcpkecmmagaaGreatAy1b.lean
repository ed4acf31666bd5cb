/- The evaluator: calls by levels, loops by fuel, all else by recursion on the code. -/
import Derived.Test.YtapfcpkecmmagaaGreatAy1
namespace Go.Ay
noncomputable section
def aaP (ρ:X->V)(h:H)(x:X):Option (V×H):=some (ρ x,h)
def FI (ρ:X->V)(h:H)(c a b:X):Option (V×H):=match ρ c with| .bool t=>some (cond t (ρ a) (ρ b),h)|_=>none
def IQ (h:H)(o:Option V):Option (V×H):=Option.rec none (λv=>some (v,h)) o
def XL (ρ:X->V)(h:H)(op:BinOp)(k:IntKind)(x y:X):Option (V×H):=match ρ x,ρ y with
 | .int j a,.int j' b=>if j=k/\j'=k then IQ h (Vu op k a b) else none
 |_,_=>none
def ZJ (ρ:X->V)(h:H)(neg:Bool)(x:X):Option (V×H):=match ρ x with
 | .aC=>some (.bool (!neg),h)
 | .sl .. | .emp _=>some (.bool neg,h)
 |_=>none
def aaI (ρ:X->V)(h:H)(x:X):Option (V×H):=match ρ x with| .bool a=>some (.bool (!a),h)|_=>none
def UJ (ρ:X->V)(h:H)(x:X)(i:Nat):Option (V×H):=match ρ x with| .tup vs=>IQ h (vs[i]?)|_=>none
def HG (ρ:X->V)(h:H)(x:X):Option (V×H):=match ρ x with
 | .aC=>some (.int .i64 0,h)
 | .emp _=>some (.int .i64 0,h)
 | .sl _ _ len _=>some (.int .i64 (len:Int),h)
 |_=>none
def ldX (h:H)(agg:Bool)(n:Nat)(v:V):Option V:=match v with
 | .ptr id off=>match h.Jx id with
  |some (.cells _ vs)=>match NL vs off n with
   |some ws=>cond agg (some (.agg ws)) (match ws with| [v]=>some v|_=>none)
   |none=>none
  |_=>none
 |_=>none
def fLd (ρ:X->V)(h:H)(agg:Bool)(n:Nat)(x:X):Option (V×H):=IQ h (ldX h agg n (ρ x))
def Ky (h:H)(id off:Nat)(ws:List V):Option H:=match h.Jx id with
 |some (.cells false vs)=>match QC off ws vs with
  |some vs'=>some (h.Hr id (some (.cells false vs')))
  |none=>none
 |_=>none
def fSt (ρ:X->V)(h:H)(n:Nat)(x y:X):Option (V×H):=match ρ x with
 | .ptr id off=>if (ρ y).cells.length=n/\(ρ y).cells.all V.one then (match Ky h id off (ρ y).cells with|some h'=>some (V.undef,h')|none=>none) else none
 |_=>none
def Zy (n:Int):Option Nat:=Int.rec (λa=>some a) (λ_=>none) n
def UL (ρ:X->V)(h:H)(sz:Nat)(x i:X):Option (V×H):=match ρ x,ρ i with
 | .sl id off len _,.int _ n=>(match Zy n with|some k=>cond (Nat.blt k len) (some (.ptr id (off+k*sz),h)) none|none=>none)
 |_,_=>none
def WI (ρ:X->V)(h:H)(n sz:Nat)(x i:X):Option (V×H):=match ρ x,ρ i with
 | .ptr id off,.int _ z=>(match Zy z with|some k=>cond (Nat.blt k n) (some (.ptr id (off+k*sz),h)) none|none=>none)
 |_,_=>none
def aaG (ρ:X->V)(h:H)(off:Nat)(x:X):Option (V×H):=match ρ x with| .ptr id o=>some (.ptr id (o+off),h)|_=>none
def HX (ρ:X->V)(h:H)(agg:Bool)(off n:Nat)(x:X):Option (V×H):=match ρ x with
 | .agg vs=>cond agg (match NL vs off n with|some ws=>some (.agg ws,h)|none=>none) (IQ h (vs[off]?))
 |_=>none
def aaB (ρ:X->V)(h:H)(f:Nat)(fs cs:List X):Option (V×H):=some (.fn f (fs.map ρ) (cs.map ρ),h)
def JI (h:H)(o:Ob):H:=H.rec (λt n=>⟨Tr.Hr (n+1) t n (some o),n+1⟩) h
theorem Yr (h:H)(o:Ob):JI h o=h.new o:=by
 cases h;show H.mk _ _=_;rw[←Tr.oX];rfl
def UT (h:H)(zero:List V):Option (V×H):=some (.ptr h.next 0,JI h (.cells false zero))
def aaT (ρ:X->V)(h:H)(x:X):Option (V×H):=match ρ x with| .ptr id off=>some (.ptr id off,h)|_=>none
def YG (h:H)(id off n:Nat):Option (List V):=match h.Jx id with
 |some (.cells _ vs)=>NL vs off n
 |_=>none
theorem TG (h:H)(id off n:Nat):YG h id off n=h.row id off n:=by
 unfold YG H.row;rw[H.qP]
 cases h.get id with
 |none=>rfl
 |some o=>cases o<;>simp only[Oc]
def On (h:H)(sz:Nat):V->Option (List V)
 | .aC=>some []
 | .emp _=>some []
 | .sl id off len _=>YG h id off (len*sz)
 |_=>none
theorem Ku (h:H)(sz:Nat)(v:V):On h sz v=h.slice sz v:=by
 cases v<;>simp only[On,H.slice,TG]
def NR (l m:List V):List V:=List.rec m (λv _ ih=>v::ih) l
theorem Xv: ∀(l m:List V),NR l m=l++m
 | [],_=>rfl
 |v::l,m=>by show v::NR l m=_;rw[Xv l m];rfl
def MT (h:H)(sz bytes:Nat)(x:V)(m:Nat)(ys:List V):Option (V×H):=
 match qC x with
 |some n=>
  match On h sz x with
  |some xs=>
  if m=0 then some (x,h) else
  cond (Nat.ble ((2*(n+m)+1000)*bytes) 281474976710656&&Nat.blt (n+m) 4611686018427387904) (
   match x with
   | .sl id off len (.kn c)=>
    cond (Nat.ble (len+m) c) (match Ky h id (off+len*sz) ys with
     |some h'=>some (.sl id off (len+m) (.kn c),h')
     |none=>none)
    (some (.sl h.next 0 (n+m) (.un sz),JI h (.cells false (NR xs ys))))
   | .sl id _ _ (.un e)=>
    match h.Jx id with
    |some (.cells false _)=>cond (Nat.beq e sz) (some (.sl h.next 0 (n+m) (.un sz),JI (h.Hr id none) (.cells false (NR xs ys)))) none
    |_=>none
   | .emp _=>none
   |_=>some (.sl h.next 0 (n+m) (.un sz),JI h (.cells false (NR xs ys)))) none
  |none=>none
 |none=>none
theorem BO (h:H)(id off:Nat)(ws:List V):Ky h id off ws=h.put id off ws:=by
 unfold Ky H.put;simp only[H.qP,Ni,H.oX]
 cases h.get id with
 |none=>rfl
 |some o=>cases o with
  |cells ro vs=>cases ro<;>simp only<;>cases putAt vs off ws<;>rfl
  |_=>rfl
theorem KZ (h:H)(sz bytes:Nat)(x:V)(m:Nat)(ys:List V):MT h sz bytes x m ys=tX h sz bytes x m ys:=by
 unfold MT tX;rw[Ku]
 cases hn:qC x with
 |none=>rfl
 |some n=>
  cases hs:h.slice sz x with
  |none=>rfl
  |some xs=>
   simp only
   by_cases hm:m=0
   ·simp [hm]
   ·simp only[hm,if_false]
    have hb:(Nat.ble ((2*(n+m)+1000)*bytes) 281474976710656&&Nat.blt (n+m) 4611686018427387904)=decide ((2*(n+m)+1000)*bytes<=2^48/\n+m<2^62):=by
     rw[Bool.eq_iff_iff];simp only[Bool.and_eq_true,Nat.ble_eq,Nat.blt_eq,decide_eq_true_eq]
    rw[hb]
    by_cases hc:(2*(n+m)+1000)*bytes<=2^48/\n+m<2^62
    ·rw[if_pos hc,decide_eq_true hc]
     simp only[cond_true,Yr,H.oX,H.qP,Xv,BO]
     cases x with
     |sl id off len cap=>
      cases cap with
      |kn c=>
       simp only
       by_cases hle:len+m<=c
       ·rw[if_pos hle,(Nat.ble_eq).mpr hle];rfl
       ·rw[if_neg hle,show Nat.ble (len+m) c=false from by
         cases h9:Nat.ble (len+m) c with
         |false=>rfl
         |true=>exact absurd ((Nat.ble_eq).mp h9) hle];rfl
      |un e=>
       simp only
       cases h.get id with
       |none=>rfl
       |some o=>cases o with
        |cells ro vs=>cases ro with
         |true=>rfl
         |false=>
          simp only
          by_cases he:e=sz
          ·rw[if_pos he,(Nat.beq_eq).mpr he];rfl
          ·rw[if_neg he,show Nat.beq e sz=false from by
            cases h9:Nat.beq e sz with
            |false=>rfl
            |true=>exact absurd ((Nat.beq_eq).mp h9) he];rfl
        |_=>rfl
     |_=>rfl
    ·rw[if_neg hc,decide_eq_false hc];rfl
def YA (ρ:X->V)(h:H)(sz bytes:Nat)(x y:X):Option (V×H):=match qC (ρ y) with
 |some m=>match On h sz (ρ y) with
  |some ys=>MT h sz bytes (ρ x) m ys
  |none=>none
 |none=>none
def evX (ρ:X->V)(h:H)(i:I):Option (V×H):=
 I.rec (motive:=λ_=>Option (V×H))
  (aaP ρ h) (FI ρ h) (XL ρ h) (λa b c d=>cG ρ h (.shf a b c d)) (λa b c=>cG ρ h (.beq a b c)) (ZJ ρ h) (aaI ρ h) (λk x=>cG ρ h (.neg k x)) (λk x=>cG ρ h (.conv k x))
  (HX ρ h) (UJ ρ h) (HG ρ h) (λx=>cG ρ h (.lenm x)) (λx=>cG ρ h (.caps x)) (λm xs=>cG ρ h (.mm m xs)) (fLd ρ h) (fSt ρ h) (UL ρ h) (aaG ρ h)
  (λa b c d e=>cG ρ h (.slc a b c d e)) (λa b c d e=>cG ρ h (.mks a b c d e)) (UT h) (λx=>cG ρ h (.box x)) (λz ps=>cG ρ h (.bld z ps)) (λa b c d=>cG ρ h (.bls a b c d))
  (YA ρ h) (λa b c d e=>cG ρ h (.apz a b c d e)) (λa b c=>cG ρ h (.cpy a b c)) (aaB ρ h) (cG ρ h .mkm) (λa b c d=>cG ρ h (.lkp a b c d)) (λa b c=>cG ρ h (.mset a b c)) (aaT ρ h)
  (WI ρ h) (λx=>cG ρ h (.cvs x)) (λt x=>cG ρ h (.mif t x)) (λa b=>cG ρ h (.mkw a b)) (λs a b c d=>cG ρ h (.lkw s a b c d)) (λs a b c=>cG ρ h (.msw s a b c)) (λs a b c=>cG ρ h (.ent s a b c)) (λa b c=>cG ρ h (.ens a b c)) (λa b=>cG ρ h (.six a b)) (λa b c=>cG ρ h (.seq a b c)) (λa b=>cG ρ h (.sad a b)) (λa=>cG ρ h (.cir a)) (λa b c=>cG ρ h (.clr a b c)) (λa b c d e=>cG ρ h (.sla a b c d e)) none i
theorem Al (h:H)(o:Option V):IQ h o=o.map (·,h):=by cases o<;>rfl
theorem VH (h:H)(agg:Bool)(n:Nat)(v:V):ldX h agg n v=GO h agg n v:=by
 unfold ldX GO H.row
 cases v with
 |ptr id off=>
  simp only[H.qP,Oc]
  cases h.get id with
  |none=>rfl
  |some o=>cases o with
   |cells ro vs=>simp only;cases sub vs off n with
    |none=>rfl
    |some ws=>cases agg<;>rfl
   |_=>rfl
 |_=>rfl
theorem GJ (h:H)(id off:Nat)(ws:List V):Ky h id off ws=h.put id off ws:=by
 unfold Ky H.put;simp only[H.qP,Ni,H.oX]
 cases h.get id with
 |none=>rfl
 |some o=>cases o with
  |cells ro vs=>cases ro<;>simp only<;>cases putAt vs off ws<;>rfl
  |_=>rfl
theorem UN (ρ:X->V)(h:H)(i:I):evX ρ h i=cG ρ h i:=by
 cases i with
 |pick c a b=>
         show FI ρ h c a b=_;simp only[FI,cG];cases ρ c<;>try rfl
         rename_i t;cases t<;>rfl
 |bin op k x y=>show XL ρ h op k x y=_;simp only[XL,cG,Al,AE];rfl
 |ext x i=>show UJ ρ h x i=_;simp only[UJ,cG,Al];rfl
 |lens x=>show HG ρ h x=_;simp only[HG,cG];cases ρ x<;>rfl
 |ld agg n x=>show fLd ρ h agg n x=_;simp only[fLd,cG,Al,VH]
 |st n x y=>
  show fSt ρ h n x y=_;simp only[fSt,cG,GJ];cases ρ x<;>try rfl
  simp only;split<;>try rfl
  cases h.put _ _ _<;>rfl
 |ixa sz x i=>
  show UL ρ h sz x i=_;simp only[UL,cG,Jw];cases ρ x<;>try rfl
  cases ρ i<;>try rfl
  rename_i id off len cap k n;simp only
  cases n with
  |ofNat a=>
   simp only[Zy]
   by_cases h1:a<len
   ·rw[(Nat.blt_eq).mpr h1]
    have h2:(0:Int)<=Int.ofNat a/\Int.ofNat a<(len:Int):=⟨Int.natCast_nonneg a,by simpa using h1⟩
    rw[if_pos h2];rfl
   ·have h3:Nat.blt a len=false:=by
     cases h4:Nat.blt a len with
     |false=>rfl
     |true=>exact absurd ((Nat.blt_eq).mp h4) h1
    rw[h3];have h2: ¬((0:Int)<=Int.ofNat a/\Int.ofNat a<(len:Int)):=λh=>h1 (by simpa using h.2)
    rw[if_neg h2];rfl
  |negSucc a=>
   have h2: ¬((0:Int)<=Int.negSucc a/\Int.negSucc a<(len:Int)):=λh=>by have:=h.1;omega
   rw[if_neg h2];rfl
 |ixd len sz x i=>
  show WI ρ h len sz x i=_;simp only[WI,cG,CW];cases ρ x<;>try rfl
  cases ρ i<;>try rfl
  rename_i id off k n;simp only
  cases n with
  |ofNat a=>
   simp only[Zy]
   by_cases h1:a<len
   ·rw[(Nat.blt_eq).mpr h1]
    have h2:(0:Int)<=Int.ofNat a/\Int.ofNat a<(len:Int):=⟨Int.natCast_nonneg a,by simpa using h1⟩
    rw[if_pos h2];rfl
   ·have h3:Nat.blt a len=false:=by
     cases h4:Nat.blt a len with
     |false=>rfl
     |true=>exact absurd ((Nat.blt_eq).mp h4) h1
    rw[h3];have h2: ¬((0:Int)<=Int.ofNat a/\Int.ofNat a<(len:Int)):=λh=>h1 (by simpa using h.2)
    rw[if_neg h2];rfl
  |negSucc a=>
   have h2: ¬((0:Int)<=Int.negSucc a/\Int.negSucc a<(len:Int)):=λh=>by have:=h.1;omega
   rw[if_neg h2];rfl
 |alc z=>show UT h z=_;simp only[UT,cG,Yr]
 |app sz b x y=>
  show YA ρ h sz b x y=_;simp only[YA,cG,Ku,KZ];cases qC (ρ y)<;>cases h.slice sz (ρ y)<;>rfl
 |part agg off n x=>
  show HX ρ h agg off n x=_;simp only[HX,cG,Oc,Al];cases ρ x<;>try rfl
  cases agg
  ·rfl
  ·simp only[cond_true,if_true]
   cases sub _ _ _<;>rfl
 |_=>rfl
abbrev dP:=Nat->List V->H->Option (V×H)
def En (cl:dP)(g:Nat)(vs:List V)(h:H):Option (V×H):=
 cond (vs.all V.Dz) (match cl g vs ⟨.lf,0⟩ with|some (v,_)=>cond v.Dz (some (v,h)) none|none=>none) none
def kZ (cl yl:dP)(vars loc:List V)(h:H)(a:dU):Option (V×H):=
 dU.rec (motive:=λ_=>Option (V×H)) (evX (Zb vars loc) h) (λg args=>cl g (args.map (Zb vars loc)) h)
  (λx args=>match Zb vars loc x with
   | .fn g fs cs=>cl g (fs++args.map (Zb vars loc)++cs) h
   | .yl id=>yl id (args.map (Zb vars loc)) h
   |_=>none)
  (λg args=>En cl g (args.map (Zb vars loc)) h)
  (λg t x args=>match Zb vars loc x with
   | .ifc u v=>cond (Nat.beq u t) (cl g (v::args.map (Zb vars loc)) h) none
   |_=>none) a
theorem rS (cl yl:dP)(vars loc:List V)(h:H)(i:I):kZ cl yl vars loc h (.op i)=cG (xv vars loc) h i:=by
 show evX (Zb vars loc) h i=_;rw[UN,Ae]
theorem sB (cl yl:dP)(vars loc:List V)(h:H)(g:Nat)(args:List X):kZ cl yl vars loc h (.call g args)=cl g (args.map (xv vars loc)) h:=by
 show cl g (args.map (Zb vars loc)) h=_;rw[Ae]
theorem pI (cl yl:dP)(vars loc:List V)(h:H)(x:X)(args:List X):kZ cl yl vars loc h (.callv x args)=match xv vars loc x with
   | .fn g fs cs=>cl g (fs++args.map (xv vars loc)++cs) h
   | .yl id=>yl id (args.map (xv vars loc)) h
   |_=>none:=by
 rw[←Ae];rfl
theorem pW (cl yl:dP)(vars loc:List V)(h:H)(g t:Nat)(x:X)(args:List X):kZ cl yl vars loc h (.calli g t x args)=match xv vars loc x with
   | .ifc u v=>cond (Nat.beq u t) (cl g (v::args.map (xv vars loc)) h) none
   |_=>none:=by
 rw[←Ae];rfl
theorem lF (cl yl:dP)(vars loc:List V)(h:H)(g:Nat)(args:List X):kZ cl yl vars loc h (.callp g args)=En cl g (args.map (xv vars loc)) h:=by
 show En cl g (args.map (Zb vars loc)) h=_;rw[Ae]
theorem vB {cl:dP}{g:Nat}{vs:List V}{h h':H}{v:V}(he:En cl g vs h=some (v,h')):h'=h/\vs.all V.Dz=true/\v.Dz=true/\ ∃h2,cl g vs ⟨.lf,0⟩=some (v,h2):=by
 unfold En at he
 cases h1:vs.all V.Dz with
 |false=>rw[h1] at he;cases he
 |true=>
  rw[h1] at he;simp only[cond_true] at he;split at he
  ·rename_i w h2 hc
   cases h3:w.Dz with
   |false=>rw[h3] at he;cases he
   |true=>rw[h3] at he;cases he;exact⟨rfl,rfl,h3,h2,hc⟩
  ·cases he
def yR (vars loc:List V)(g:Option (X×Bool)):Option Bool:=
 match g with
 |none=>some true
 |some (x,b)=>match Zb vars loc x with| .bool a=>some (a==b)| .tup []=>some false|_=>none
theorem Hn (vars loc:List V)(g:Option (X×Bool)):yR vars loc g=fO vars loc g:=by
 unfold yR fO;rw[Ae];rfl
def Ce {α:Type}(d:D)(vars loc:List V)(v:V)(k:List V->List V->α):α:=
 D.rec (λi=>k (JQ vars i v) loc) (k vars (v::loc)) (k vars loc) d
theorem Qr {α:Type}(d:D)(vars loc:List V)(v:V)(k:List V->List V->α):Ce d vars loc v k=k (lK d vars loc v).1 (lK d vars loc v).2:=by
 cases d with
 |v i=>show k (JQ vars i v) loc=_;rw[Ye];rfl
 |l=>rfl
 |n=>rfl
def sW (cl yl:dP)(its:List It):List V->List V->H->Option (List V×H):=
 List.rec (λvars _ h=>some (vars,h)) (λit _ ih vars loc h=>
  match yR vars loc it.g with
  |some true=>match kZ cl yl vars loc h it.a with
   |some (v,h)=>Ce it.d vars loc v λvars loc=>ih vars loc h
   |none=>none
  |some false=>Ce it.d vars loc .undef λvars loc=>ih vars loc h
  |none=>none) its
theorem Dj (cl yl:dP)(vars loc:List V)(h:H):sW cl yl [] vars loc h=some (vars,h):=rfl
theorem mP (cl yl:dP)(it:It)(its:List It)(vars loc:List V)(h:H):sW cl yl (it::its) vars loc h=
  match fO vars loc it.g with
  |some true=>match kZ cl yl vars loc h it.a with
   |some (v,h)=>sW cl yl its (lK it.d vars loc v).1 (lK it.d vars loc v).2 h
   |none=>none
  |some false=>sW cl yl its (lK it.d vars loc .undef).1 (lK it.d vars loc .undef).2 h
  |none=>none:=by
 rw[←Hn]
 show (match yR vars loc it.g with
  |some true=>match kZ cl yl vars loc h it.a with
   |some (v,h)=>Ce it.d vars loc v λvars loc=>sW cl yl its vars loc h
   |none=>none
  |some false=>Ce it.d vars loc .undef λvars loc=>sW cl yl its vars loc h
  |none=>none)=_
 simp only[Qr]
def uL (cl yl:dP)(base:Nat)(xs:List AI):List V->Log->H->Option (List V×H):=
 List.rec (λvars _ h=>some (vars,h)) (λx _ ih vars log h=>
  match yR vars [] x.it.g with
  |some true=>
   match cond x.al (Jd vars h (base+x.i) x.it.a) (kZ cl yl vars [] h x.it.a) with
   |some (v,h)=>if pL x.cks log h then Ce x.it.d vars [] v λvars' _=>ih vars' (Ew x vars v log) h else none
   |none=>none
  |some false=>if pL x.cks log h then Ce x.it.d vars [] .undef λvars' _=>ih vars' log h else none
  |none=>none) xs
theorem Dr (cl yl:dP)(base:Nat)(vars:List V)(log:Log)(h:H):uL cl yl base [] vars log h=some (vars,h):=rfl
theorem iY (cl yl:dP)(base:Nat)(x:AI)(xs:List AI)(vars:List V)(log:Log)(h:H):uL cl yl base (x::xs) vars log h=
  match fO vars [] x.it.g with
  |some true=>
   match (if x.al then Jd vars h (base+x.i) x.it.a else kZ cl yl vars [] h x.it.a) with
   |some (v,h)=>if pL x.cks log h then uL cl yl base xs (lK x.it.d vars [] v).1 (Ew x vars v log) h else none
   |none=>none
  |some false=>if pL x.cks log h then uL cl yl base xs (lK x.it.d vars [] .undef).1 log h else none
  |none=>none:=by
 rw[←Hn]
 show (match yR vars [] x.it.g with
  |some true=>
   match cond x.al (Jd vars h (base+x.i) x.it.a) (kZ cl yl vars [] h x.it.a) with
   |some (v,h)=>if pL x.cks log h then Ce x.it.d vars [] v λvars' _=>uL cl yl base xs vars' (Ew x vars v log) h else none
   |none=>none
  |some false=>if pL x.cks log h then Ce x.it.d vars [] .undef λvars' _=>uL cl yl base xs vars' log h else none
  |none=>none)=_
 simp only[Qr,Bool.cond_eq_ite]
abbrev Rf:=Option (E×List V×FC×H)
def xT (step:List V->H->Rf)(n:Nat):List V->H->Rf:=
 Nat.rec (λ_ _=>none) (λ_ ih vars h=>match step vars h with
  |some (.norm,vars,dfs,h)=>match ih vars h with
   |some (e,vars,dfs2,h)=>some (e,vars,dfs2++dfs,h)
   |none=>none
  |r=>r) n
theorem Hz (step:List V->H->Rf)(vars:List V)(h:H):xT step 0 vars h=none:=rfl
theorem lH (step:List V->H->Rf)(n:Nat)(vars:List V)(h:H):xT step (n+1) vars h=match step vars h with
  |some (.norm,vars,dfs,h)=>match xT step n vars h with
   |some (e,vars,dfs2,h)=>some (e,vars,dfs2++dfs,h)
   |none=>none
  |r=>r:=rfl
def YH (a b:List V->H->Rf)(vars:List V)(h:H):Rf:=match a vars h with
 |some (.norm,vars,dfs,h)=>match b vars h with
  |some (e,vars,dfs2,h)=>some (e,vars,dfs2++dfs,h)
  |none=>none
 |r=>r
def XJ (x:X)(a b:List V->H->Rf)(vars:List V)(h:H):Rf:=match Zb vars [] x with
 | .bool true=>a vars h
 | .bool false=>b vars h
 |_=>none
def GU (id:Nat)(a:List V->H->Rf)(vars:List V)(h:H):Rf:=match a vars h with
 |some (.exit n,vars,dfs,h)=>if n=id then some (.norm,vars,dfs,h) else some (.exit n,vars,dfs,h)
 |r=>r
def VX (cl yl:dP)(its:List It)(vars:List V)(h:H):Rf:=match sW cl yl its vars [] h with
 |some (vars,h)=>some (.norm,vars, [],h)
 |none=>none
def XR (cl yl:dP)(k nl:Nat)(its:List AI)(vars:List V)(h:H):Rf:=
 match uL cl yl h.next its (vars++List.replicate nl .unk) [] {h with next:=h.next+k} with
 |some (vs,h)=>some (.norm,vs.take vars.length, [],h)
 |none=>none
def Fv (cl yl:dP)(rd:Option Nat)(its:List It)(x:X)(args:List X)(vars:List V)(h:H):Rf:=
 if rd.isSome then none else match sW cl yl its vars [] h with
  |some (vars,h)=>match xv vars [] x with
   | .fn g fs cs=>some (.norm,vars, [(g,fs++args.map (xv vars [])++cs)],h)
   |_=>none
  |none=>none
def xI (cl:dP)(rd:Option Nat)(x:X)(pars:List Nat)(assign body:C)(vars:List V)(h:H):Rf:=
 match xv vars [] x with
 | .fn g fs cs=>
  if DW rd h then
  match cl g (fs++ .yl h.next::cs) (h.new (.loop {vars,pars,assign,body,st:= .ready,pend:=none})) with
  |some (_,h')=>
   match h'.get h.next with
   |some (.loop r)=>
    if r.st= .busy then none else
    some (r.pend.getD .norm,vars, [],h'.set h.next (some (.loop {r with st:= .out})))
   |_=>none
  |none=>none
  else none
 |_=>none
def run (cl yl:dP)(N:Nat)(rd:Option Nat)(c:C):List V->H->Rf:=
 C.rec (motive:=λ_=>List V->H->Rf) (λvars h=>some (.norm,vars, [],h)) (VX cl yl) (XR cl yl) (Fv cl yl rd) (λ_ _ a b=>YH a b) (λx _ _ a b=>XJ x a b) (λid _ a=>GU id a)
  (λ_ a=>xT a N) (λn vars h=>some (.exit n,vars, [],h)) (λvars h=>some (.ret,vars, [],h)) (λ_ a=>a) (λx pars as bd _ _=>xI cl rd x pars as bd) (λ_ _=>none) c
section
variable (cl yl:dP) (N:Nat) (rd:Option Nat) (vars:List V) (h:H)
theorem Ap:run cl yl N rd .skip vars h=some (.norm,vars, [],h):=rfl
theorem Ov (its:List It):run cl yl N rd (.reg its) vars h=match sW cl yl its vars [] h with
 |some (vars,h)=>some (.norm,vars, [],h)
 |none=>none:=rfl
theorem Pb (k nl:Nat)(its:List AI):run cl yl N rd (.any k nl its) vars h=match uL cl yl h.next its (vars++List.replicate nl .unk) [] {h with next:=h.next+k} with
 |some (vs,h)=>some (.norm,vs.take vars.length, [],h)
 |none=>none:=rfl
theorem Sb (its:List It)(x:X)(args:List X):run cl yl N rd (.regd its x args) vars h=Fv cl yl rd its x args vars h:=rfl
theorem run_seq (a b:C):run cl yl N rd (.seq a b) vars h=match run cl yl N rd a vars h with
 |some (.norm,vars,dfs,h)=>match run cl yl N rd b vars h with
  |some (e,vars,dfs2,h)=>some (e,vars,dfs2++dfs,h)
  |none=>none
 |r=>r:=rfl
theorem run_ite (x:X)(a b:C):run cl yl N rd (.ite x a b) vars h=match xv vars [] x with
 | .bool true=>run cl yl N rd a vars h
 | .bool false=>run cl yl N rd b vars h
 |_=>none:=by rw[←Ae];rfl
theorem Dy (id:Nat)(a:C):run cl yl N rd (.block id a) vars h=match run cl yl N rd a vars h with
 |some (.exit n,vars,dfs,h)=>if n=id then some (.norm,vars,dfs,h) else some (.exit n,vars,dfs,h)
 |r=>r:=rfl
theorem rF (a:C):run cl yl N rd (.loop a) vars h=xT (run cl yl N rd a) N vars h:=rfl
theorem Hd (n:Nat):run cl yl N rd (.exit n) vars h=some (.exit n,vars, [],h):=rfl
theorem Nf:run cl yl N rd .ret vars h=some (.ret,vars, [],h):=rfl
theorem Di (a:C):run cl yl N rd (.scope a) vars h=run cl yl N rd a vars h:=rfl
theorem Ea (x:X)(pars:List Nat)(a b:C):run cl yl N rd (.range x pars a b) vars h=xI cl rd x pars a b vars h:=rfl
end
def yY (p:Nat->Option Fn)(cl:dP)(dfs:FC):H->Option H:=
 List.rec (λh=>some h) (λd _ ih h=>match p d.1 with
  |some fn=>if fn.body.Oh then (match cl d.1 d.2 h with|some (_,h)=>ih h|none=>none) else none
  |none=>none) dfs
theorem uK (p:Nat->Option Fn)(cl:dP)(h:H):yY p cl [] h=some h:=rfl
theorem Jl (p:Nat->Option Fn)(cl:dP)(g:Nat)(args:List V)(r:FC)(h:H):yY p cl ((g,args)::r) h=match p g with
  |some fn=>if fn.body.Oh then (match cl g args h with|some (_,h)=>yY p cl r h|none=>none) else none
  |none=>none:=rfl
def xY (p:Nat->Option Fn)(cl yl:dP)(N:Nat):dP:=λg args h=>
 match p g with
 |none=>none
 |some fn=>
  if args.length=fn.nargs then
   match run cl yl N none fn.body (zE fn args) h with
   |some (.norm,vars,dfs,h)|some (.ret,vars,dfs,h)=>
    match yY p cl dfs h with
    |some h=>(bY (fn.results.map (yW vars h))).map λvs=>(Dp vs,h)
    |none=>none
   |_=>none
  else none
def tI (cl yl:dP)(N:Nat):dP:=λid args h=>
 match h.get id with
 |some (.loop r)=>
  if args.length=r.pars.length then
   match run cl yl N (some id) r.assign ((r.pars.zip args).foldl (λvs q=>vs.set q.1 q.2) r.vars) h with
   |some (.norm,vars,_,h)=>
    match h.get id with
    |some (.loop r2)=>
     if r2.st= .ready then
      match run cl yl N (some id) r.body vars (h.set id (some (.loop {r2 with st:= .busy}))) with
      |some (e,_,_,h)=>
       match h.get id with
       |some (.loop r3)=>
        (match e with
        | .norm=>some (.bool true,h.set id (some (.loop {r3 with st:= .ready,pend:=none})))
        |e=>some (.bool false,h.set id (some (.loop {r3 with st:= .done,pend:=some e}))))
       |_=>none
      |none=>none
     else none
    |_=>none
   |_=>none
  else none
 |_=>none
def lP (p:Nat->Option Fn)(N f:Nat):dP×dP:=
 Nat.rec (λ_ _ _=>none,λ_ _ _=>none) (λ_ q=>(xY p q.1 q.2 N,tI q.1 q.2 N)) f
def XK (p:Nat->Option Fn)(N f:Nat):dP:=(lP p N f).1
theorem Px (p:Nat->Option Fn)(N:Nat):lP p N 0=(λ_ _ _=>none,λ_ _ _=>none):=rfl
theorem pG (p:Nat->Option Fn)(N f:Nat):lP p N (f+1)=(xY p (lP p N f).1 (lP p N f).2 N,tI (lP p N f).1 (lP p N f).2 N):=rfl
end
end Go.Ay
