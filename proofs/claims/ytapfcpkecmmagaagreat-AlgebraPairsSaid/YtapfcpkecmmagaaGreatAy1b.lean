/- The evaluator: calls by levels, loops by fuel, all else by recursion on the code. -/
import Derived.Test.YtapfcpkecmmagaaGreatAy1
namespace Go.Ay
noncomputable section
def adB (ρ:X->V)(h:H)(x:X):Option (V×H):=some (ρ x,h)
def OO (ρ:X->V)(h:H)(c a b:X):Option (V×H):=match ρ c with| .bool t=>some (cond t (ρ a) (ρ b),h)|_=>none
def HU (h:H)(o:Option V):Option (V×H):=Option.rec none (λv=>some (v,h)) o
def ZZ (ρ:X->V)(h:H)(op:BinOp)(k:IntKind)(x y:X):Option (V×H):=match ρ x,ρ y with
 | .int j a,.int j' b=>if j=k/\j'=k then HU h (Ya op k a b) else none
 |_,_=>none
def abP (ρ:X->V)(h:H)(neg:Bool)(x:X):Option (V×H):=match ρ x with
 | .aC=>some (.bool (!neg),h)
 | .sl .. | .emp _=>some (.bool neg,h)
 |_=>none
def acY (ρ:X->V)(h:H)(x:X):Option (V×H):=match ρ x with| .bool a=>some (.bool (!a),h)|_=>none
def aaM (ρ:X->V)(h:H)(x:X)(i:Nat):Option (V×H):=match ρ x with| .tup vs=>HU h (vs[i]?)|_=>none
def OG (ρ:X->V)(h:H)(x:X):Option (V×H):=match ρ x with
 | .aC=>some (.int .i64 0,h)
 | .emp _=>some (.int .i64 0,h)
 | .sl _ _ len _=>some (.int .i64 (len:Int),h)
 |_=>none
def ldX (h:H)(agg:Bool)(n:Nat)(v:V):Option V:=match v with
 | .ptr id off=>match h.Lk id with
  |some (.cells _ vs)=>match LW vs off n with
   |some ws=>cond agg (some (.agg ws)) (match ws with| [v]=>some v|_=>none)
   |none=>none
  |_=>none
 |_=>none
def fLd (ρ:X->V)(h:H)(agg:Bool)(n:Nat)(x:X):Option (V×H):=HU h (ldX h agg n (ρ x))
def Nt (h:H)(id off:Nat)(ws:List V):Option H:=match h.Lk id with
 |some (.cells false vs)=>match VZ off ws vs with
  |some vs'=>some (h.Ja id (some (.cells false vs')))
  |none=>none
 |_=>none
def fSt (ρ:X->V)(h:H)(n:Nat)(x y:X):Option (V×H):=match ρ x with
 | .ptr id off=>if (ρ y).cells.length=n/\(ρ y).cells.all V.one then (match Nt h id off (ρ y).cells with|some h'=>some (V.undef,h')|none=>none) else none
 |_=>none
def Zs (n:Int):Option Nat:=Int.rec (λa=>some a) (λ_=>none) n
def aaL (ρ:X->V)(h:H)(sz:Nat)(x i:X):Option (V×H):=match ρ x,ρ i with
 | .sl id off len _,.int _ n=>(match Zs n with|some k=>cond (Nat.blt k len) (some (.ptr id (off+k*sz),h)) none|none=>none)
 |_,_=>none
def aaW (ρ:X->V)(h:H)(n sz:Nat)(x i:X):Option (V×H):=match ρ x,ρ i with
 | .ptr id off,.int _ z=>(match Zs z with|some k=>cond (Nat.blt k n) (some (.ptr id (off+k*sz),h)) none|none=>none)
 |_,_=>none
def adC (ρ:X->V)(h:H)(off:Nat)(x:X):Option (V×H):=match ρ x with| .ptr id o=>some (.ptr id (o+off),h)|_=>none
def LK (ρ:X->V)(h:H)(agg:Bool)(off n:Nat)(x:X):Option (V×H):=match ρ x with
 | .agg vs=>cond agg (match LW vs off n with|some ws=>some (.agg ws,h)|none=>none) (HU h (vs[off]?))
 |_=>none
def acZ (ρ:X->V)(h:H)(f:Nat)(fs cs:List X):Option (V×H):=some (.fn f (fs.map ρ) (cs.map ρ),h)
def MI (h:H)(o:Ob):H:=H.rec (λt n=>⟨Tr.Ja (n+1) t n (some o),n+1⟩) h
theorem AX (h:H)(o:Ob):MI h o=h.new o:=by
 cases h;show H.mk _ _=_;rw[←Tr.pX];rfl
def ZM (h:H)(zero:List V):Option (V×H):=some (.ptr h.next 0,MI h (.cells false zero))
def acR (ρ:X->V)(h:H)(x:X):Option (V×H):=match ρ x with| .ptr id off=>some (.ptr id off,h)|_=>none
def aaJ (h:H)(id off n:Nat):Option (List V):=match h.Lk id with
 |some (.cells _ vs)=>LW vs off n
 |_=>none
theorem RI (h:H)(id off n:Nat):aaJ h id off n=h.row id off n:=by
 unfold aaJ H.row;rw[H.rP]
 cases h.get id with
 |none=>rfl
 |some o=>cases o<;>simp only[Qz]
def Pa (h:H)(sz:Nat):V->Option (List V)
 | .aC=>some []
 | .emp _=>some []
 | .sl id off len _=>aaJ h id off (len*sz)
 |_=>none
theorem Nn (h:H)(sz:Nat)(v:V):Pa h sz v=h.slice sz v:=by
 cases v<;>simp only[Pa,H.slice,RI]
def MC (l m:List V):List V:=List.rec m (λv _ ih=>v::ih) l
theorem BB: ∀(l m:List V),MC l m=l++m
 | [],_=>rfl
 |v::l,m=>by show v::MC l m=_;rw[BB l m];rfl
def OH (h:H)(sz bytes:Nat)(x:V)(m:Nat)(ys:List V):Option (V×H):=
 match qS x with
 |some n=>
  match Pa h sz x with
  |some xs=>
  if m=0 then some (x,h) else
  cond (Nat.ble ((2*(n+m)+1000)*bytes) 281474976710656&&Nat.blt (n+m) 4611686018427387904) (
   match x with
   | .sl id off len (.kn c)=>
    cond (Nat.ble (len+m) c) (match Nt h id (off+len*sz) ys with
     |some h'=>some (.sl id off (len+m) (.kn c),h')
     |none=>none)
    (some (.sl h.next 0 (n+m) (.un sz),MI h (.cells false (MC xs ys))))
   | .sl id _ _ (.un e)=>
    match h.Lk id with
    |some (.cells false _)=>cond (Nat.beq e sz) (some (.sl h.next 0 (n+m) (.un sz),MI (h.Ja id none) (.cells false (MC xs ys)))) none
    |_=>none
   | .emp _=>none
   |_=>some (.sl h.next 0 (n+m) (.un sz),MI h (.cells false (MC xs ys)))) none
  |none=>none
 |none=>none
theorem CZ (h:H)(id off:Nat)(ws:List V):Nt h id off ws=h.put id off ws:=by
 unfold Nt H.put;simp only[H.rP,Qg,H.pX]
 cases h.get id with
 |none=>rfl
 |some o=>cases o with
  |cells ro vs=>cases ro<;>simp only<;>cases putAt vs off ws<;>rfl
  |_=>rfl
theorem KG (h:H)(sz bytes:Nat)(x:V)(m:Nat)(ys:List V):OH h sz bytes x m ys=wQ h sz bytes x m ys:=by
 unfold OH wQ;rw[Nn]
 cases hn:qS x with
 |none=>rfl
 |some n=>
  cases hs:h.slice sz x with
  |none=>rfl
  |some xs=>
   simp only
   by_cases hm:m=0
   ·simp [hm]
   ·simp only[hm,if_false]
    have hb:(Nat.ble ((2*(n+m)+1000)*bytes) 281474976710656&&Nat.blt (n+m) 4611686018427387904)=decide ((2*(n+m)+1000)*bytes<=2^48/\n+m<2^62):=by
     rw[Bool.eq_iff_iff];simp only[Bool.and_eq_true,Nat.ble_eq,Nat.blt_eq,decide_eq_true_eq]
    rw[hb]
    by_cases hc:(2*(n+m)+1000)*bytes<=2^48/\n+m<2^62
    ·rw[if_pos hc,decide_eq_true hc]
     simp only[cond_true,AX,H.pX,H.rP,BB,CZ]
     cases x with
     |sl id off len cap=>
      cases cap with
      |kn c=>
       simp only
       by_cases hle:len+m<=c
       ·rw[if_pos hle,(Nat.ble_eq).mpr hle];rfl
       ·rw[if_neg hle,show Nat.ble (len+m) c=false from by
         cases h9:Nat.ble (len+m) c with
         |false=>rfl
         |true=>exact absurd ((Nat.ble_eq).mp h9) hle];rfl
      |un e=>
       simp only
       cases h.get id with
       |none=>rfl
       |some o=>cases o with
        |cells ro vs=>cases ro with
         |true=>rfl
         |false=>
          simp only
          by_cases he:e=sz
          ·rw[if_pos he,(Nat.beq_eq).mpr he];rfl
          ·rw[if_neg he,show Nat.beq e sz=false from by
            cases h9:Nat.beq e sz with
            |false=>rfl
            |true=>exact absurd ((Nat.beq_eq).mp h9) he];rfl
        |_=>rfl
     |_=>rfl
    ·rw[if_neg hc,decide_eq_false hc];rfl
def ZE (ρ:X->V)(h:H)(sz bytes:Nat)(x y:X):Option (V×H):=match qS (ρ y) with
 |some m=>match Pa h sz (ρ y) with
  |some ys=>OH h sz bytes (ρ x) m ys
  |none=>none
 |none=>none
def evX (ρ:X->V)(h:H)(i:I):Option (V×H):=
 I.rec (motive:=λ_=>Option (V×H))
  (adB ρ h) (OO ρ h) (ZZ ρ h) (λa b c d=>cK ρ h (.shf a b c d)) (λa b c=>cK ρ h (.beq a b c)) (abP ρ h) (acY ρ h) (λk x=>cK ρ h (.neg k x)) (λk x=>cK ρ h (.conv k x))
  (LK ρ h) (aaM ρ h) (OG ρ h) (λx=>cK ρ h (.lenm x)) (λx=>cK ρ h (.caps x)) (λm xs=>cK ρ h (.mm m xs)) (fLd ρ h) (fSt ρ h) (aaL ρ h) (adC ρ h)
  (λa b c d e=>cK ρ h (.slc a b c d e)) (λa b c d e=>cK ρ h (.mks a b c d e)) (ZM h) (λx=>cK ρ h (.box x)) (λz ps=>cK ρ h (.bld z ps)) (λa b c d=>cK ρ h (.bls a b c d))
  (ZE ρ h) (λa b c d e=>cK ρ h (.apz a b c d e)) (λa b c=>cK ρ h (.cpy a b c)) (acZ ρ h) (cK ρ h .mkm) (λa b c d=>cK ρ h (.lkp a b c d)) (λa b c=>cK ρ h (.mset a b c)) (acR ρ h)
  (aaW ρ h) (λx=>cK ρ h (.cvs x)) (λt x=>cK ρ h (.mif t x)) (λa b=>cK ρ h (.mkw a b)) (λs a b c d=>cK ρ h (.lkw s a b c d)) (λs a b c=>cK ρ h (.msw s a b c)) (λs a b c=>cK ρ h (.ent s a b c)) (λa b c=>cK ρ h (.ens a b c)) (λa b=>cK ρ h (.six a b)) (λa b c=>cK ρ h (.seq a b c)) (λa b=>cK ρ h (.sad a b)) (λa=>cK ρ h (.cir a)) (λa b c=>cK ρ h (.clr a b c)) (λa b c d e=>cK ρ h (.sla a b c d e)) none i
theorem Ct (h:H)(o:Option V):HU h o=o.map (·,h):=by cases o<;>rfl
theorem YE (h:H)(agg:Bool)(n:Nat)(v:V):ldX h agg n v=HY h agg n v:=by
 unfold ldX HY H.row
 cases v with
 |ptr id off=>
  simp only[H.rP,Qz]
  cases h.get id with
  |none=>rfl
  |some o=>cases o with
   |cells ro vs=>simp only;cases sub vs off n with
    |none=>rfl
    |some ws=>cases agg<;>rfl
   |_=>rfl
 |_=>rfl
theorem LF (h:H)(id off:Nat)(ws:List V):Nt h id off ws=h.put id off ws:=by
 unfold Nt H.put;simp only[H.rP,Qg,H.pX]
 cases h.get id with
 |none=>rfl
 |some o=>cases o with
  |cells ro vs=>cases ro<;>simp only<;>cases putAt vs off ws<;>rfl
  |_=>rfl
theorem YQ (ρ:X->V)(h:H)(i:I):evX ρ h i=cK ρ h i:=by
 cases i with
 |pick c a b=>
         show OO ρ h c a b=_;simp only[OO,cK];cases ρ c<;>try rfl
         rename_i t;cases t<;>rfl
 |bin op k x y=>show ZZ ρ h op k x y=_;simp only[ZZ,cK,Ct,FM];rfl
 |ext x i=>show aaM ρ h x i=_;simp only[aaM,cK,Ct];rfl
 |lens x=>show OG ρ h x=_;simp only[OG,cK];cases ρ x<;>rfl
 |ld agg n x=>show fLd ρ h agg n x=_;simp only[fLd,cK,Ct,YE]
 |st n x y=>
  show fSt ρ h n x y=_;simp only[fSt,cK,LF];cases ρ x<;>try rfl
  simp only;split<;>try rfl
  cases h.put _ _ _<;>rfl
 |ixa sz x i=>
  show aaL ρ h sz x i=_;simp only[aaL,cK,Ul];cases ρ x<;>try rfl
  cases ρ i<;>try rfl
  rename_i id off len cap k n;simp only
  cases n with
  |ofNat a=>
   simp only[Zs]
   by_cases h1:a<len
   ·rw[(Nat.blt_eq).mpr h1]
    have h2:(0:Int)<=Int.ofNat a/\Int.ofNat a<(len:Int):=⟨Int.natCast_nonneg a,by simpa using h1⟩
    rw[if_pos h2];rfl
   ·have h3:Nat.blt a len=false:=by
     cases h4:Nat.blt a len with
     |false=>rfl
     |true=>exact absurd ((Nat.blt_eq).mp h4) h1
    rw[h3];have h2: ¬((0:Int)<=Int.ofNat a/\Int.ofNat a<(len:Int)):=λh=>h1 (by simpa using h.2)
    rw[if_neg h2];rfl
  |negSucc a=>
   have h2: ¬((0:Int)<=Int.negSucc a/\Int.negSucc a<(len:Int)):=λh=>by have:=h.1;omega
   rw[if_neg h2];rfl
 |ixd len sz x i=>
  show aaW ρ h len sz x i=_;simp only[aaW,cK,DD];cases ρ x<;>try rfl
  cases ρ i<;>try rfl
  rename_i id off k n;simp only
  cases n with
  |ofNat a=>
   simp only[Zs]
   by_cases h1:a<len
   ·rw[(Nat.blt_eq).mpr h1]
    have h2:(0:Int)<=Int.ofNat a/\Int.ofNat a<(len:Int):=⟨Int.natCast_nonneg a,by simpa using h1⟩
    rw[if_pos h2];rfl
   ·have h3:Nat.blt a len=false:=by
     cases h4:Nat.blt a len with
     |false=>rfl
     |true=>exact absurd ((Nat.blt_eq).mp h4) h1
    rw[h3];have h2: ¬((0:Int)<=Int.ofNat a/\Int.ofNat a<(len:Int)):=λh=>h1 (by simpa using h.2)
    rw[if_neg h2];rfl
  |negSucc a=>
   have h2: ¬((0:Int)<=Int.negSucc a/\Int.negSucc a<(len:Int)):=λh=>by have:=h.1;omega
   rw[if_neg h2];rfl
 |alc z=>show ZM h z=_;simp only[ZM,cK,AX]
 |app sz b x y=>
  show ZE ρ h sz b x y=_;simp only[ZE,cK,Nn,KG];cases qS (ρ y)<;>cases h.slice sz (ρ y)<;>rfl
 |part agg off n x=>
  show LK ρ h agg off n x=_;simp only[LK,cK,Qz,Ct];cases ρ x<;>try rfl
  cases agg
  ·rfl
  ·simp only[cond_true,if_true]
   cases sub _ _ _<;>rfl
 |_=>rfl
abbrev dW:=Nat->List V->H->Option (V×H)
def Gg (cl:dW)(g:Nat)(vs:List V)(h:H):Option (V×H):=
 cond (vs.all V.Fk) (match cl g vs ⟨.lf,0⟩ with|some (v,_)=>cond v.Fk (some (v,h)) none|none=>none) none
def lT (cl yl:dW)(vars loc:List V)(h:H)(a:dZ):Option (V×H):=
 dZ.rec (motive:=λ_=>Option (V×H)) (evX (BL vars loc) h) (λg args=>cl g (args.map (BL vars loc)) h)
  (λx args=>match BL vars loc x with
   | .fn g fs cs=>cl g (fs++args.map (BL vars loc)++cs) h
   | .yl id=>yl id (args.map (BL vars loc)) h
   |_=>none)
  (λg args=>Gg cl g (args.map (BL vars loc)) h)
  (λg t x args=>match BL vars loc x with
   | .ifc u v=>cond (Nat.beq u t) (cl g (v::args.map (BL vars loc)) h) none
   |_=>none) a
theorem sY (cl yl:dW)(vars loc:List V)(h:H)(i:I):lT cl yl vars loc h (.op i)=cK (xv vars loc) h i:=by
 show evX (BL vars loc) h i=_;rw[YQ,Bs]
theorem rW (cl yl:dW)(vars loc:List V)(h:H)(g:Nat)(args:List X):lT cl yl vars loc h (.call g args)=cl g (args.map (xv vars loc)) h:=by
 show cl g (args.map (BL vars loc)) h=_;rw[Bs]
theorem qC (cl yl:dW)(vars loc:List V)(h:H)(x:X)(args:List X):lT cl yl vars loc h (.callv x args)=match xv vars loc x with
   | .fn g fs cs=>cl g (fs++args.map (xv vars loc)++cs) h
   | .yl id=>yl id (args.map (xv vars loc)) h
   |_=>none:=by
 rw[←Bs];rfl
theorem qF (cl yl:dW)(vars loc:List V)(h:H)(g t:Nat)(x:X)(args:List X):lT cl yl vars loc h (.calli g t x args)=match xv vars loc x with
   | .ifc u v=>cond (Nat.beq u t) (cl g (v::args.map (xv vars loc)) h) none
   |_=>none:=by
 rw[←Bs];rfl
theorem lV (cl yl:dW)(vars loc:List V)(h:H)(g:Nat)(args:List X):lT cl yl vars loc h (.callp g args)=Gg cl g (args.map (xv vars loc)) h:=by
 show Gg cl g (args.map (BL vars loc)) h=_;rw[Bs]
theorem wW {cl:dW}{g:Nat}{vs:List V}{h h':H}{v:V}(he:Gg cl g vs h=some (v,h')):h'=h/\vs.all V.Fk=true/\v.Fk=true/\ ∃h2,cl g vs ⟨.lf,0⟩=some (v,h2):=by
 unfold Gg at he
 cases h1:vs.all V.Fk with
 |false=>rw[h1] at he;cases he
 |true=>
  rw[h1] at he;simp only[cond_true] at he;split at he
  ·rename_i w h2 hc
   cases h3:w.Fk with
   |false=>rw[h3] at he;cases he
   |true=>rw[h3] at he;cases he;exact⟨rfl,rfl,h3,h2,hc⟩
  ·cases he
def zU (vars loc:List V)(g:Option (X×Bool)):Option Bool:=
 match g with
 |none=>some true
 |some (x,b)=>match BL vars loc x with| .bool a=>some (a==b)| .tup []=>some false|_=>none
theorem Jf (vars loc:List V)(g:Option (X×Bool)):zU vars loc g=fY vars loc g:=by
 unfold zU fY;rw[Bs];rfl
def Dp {α:Type}(d:D)(vars loc:List V)(v:V)(k:List V->List V->α):α:=
 D.rec (λi=>k (IL vars i v) loc) (k vars (v::loc)) (k vars loc) d
theorem Uj {α:Type}(d:D)(vars loc:List V)(v:V)(k:List V->List V->α):Dp d vars loc v k=k (lW d vars loc v).1 (lW d vars loc v).2:=by
 cases d with
 |v i=>show k (IL vars i v) loc=_;rw[BG];rfl
 |l=>rfl
 |n=>rfl
def tU (cl yl:dW)(its:List It):List V->List V->H->Option (List V×H):=
 List.rec (λvars _ h=>some (vars,h)) (λit _ ih vars loc h=>
  match zU vars loc it.g with
  |some true=>match lT cl yl vars loc h it.a with
   |some (v,h)=>Dp it.d vars loc v λvars loc=>ih vars loc h
   |none=>none
  |some false=>Dp it.d vars loc .undef λvars loc=>ih vars loc h
  |none=>none) its
theorem En (cl yl:dW)(vars loc:List V)(h:H):tU cl yl [] vars loc h=some (vars,h):=rfl
theorem nH (cl yl:dW)(it:It)(its:List It)(vars loc:List V)(h:H):tU cl yl (it::its) vars loc h=
  match fY vars loc it.g with
  |some true=>match lT cl yl vars loc h it.a with
   |some (v,h)=>tU cl yl its (lW it.d vars loc v).1 (lW it.d vars loc v).2 h
   |none=>none
  |some false=>tU cl yl its (lW it.d vars loc .undef).1 (lW it.d vars loc .undef).2 h
  |none=>none:=by
 rw[←Jf]
 show (match zU vars loc it.g with
  |some true=>match lT cl yl vars loc h it.a with
   |some (v,h)=>Dp it.d vars loc v λvars loc=>tU cl yl its vars loc h
   |none=>none
  |some false=>Dp it.d vars loc .undef λvars loc=>tU cl yl its vars loc h
  |none=>none)=_
 simp only[Uj]
def vW (cl yl:dW)(base:Nat)(xs:List AI):List V->Log->H->Option (List V×H):=
 List.rec (λvars _ h=>some (vars,h)) (λx _ ih vars log h=>
  match zU vars [] x.it.g with
  |some true=>
   match cond x.al (Ht vars h (base+x.i) x.it.a) (lT cl yl vars [] h x.it.a) with
   |some (v,h)=>if qM x.cks log h then Dp x.it.d vars [] v λvars' _=>ih vars' (Gu x vars v log) h else none
   |none=>none
  |some false=>if qM x.cks log h then Dp x.it.d vars [] .undef λvars' _=>ih vars' log h else none
  |none=>none) xs
theorem Ei (cl yl:dW)(base:Nat)(vars:List V)(log:Log)(h:H):vW cl yl base [] vars log h=some (vars,h):=rfl
theorem jK (cl yl:dW)(base:Nat)(x:AI)(xs:List AI)(vars:List V)(log:Log)(h:H):vW cl yl base (x::xs) vars log h=
  match fY vars [] x.it.g with
  |some true=>
   match (if x.al then Ht vars h (base+x.i) x.it.a else lT cl yl vars [] h x.it.a) with
   |some (v,h)=>if qM x.cks log h then vW cl yl base xs (lW x.it.d vars [] v).1 (Gu x vars v log) h else none
   |none=>none
  |some false=>if qM x.cks log h then vW cl yl base xs (lW x.it.d vars [] .undef).1 log h else none
  |none=>none:=by
 rw[←Jf]
 show (match zU vars [] x.it.g with
  |some true=>
   match cond x.al (Ht vars h (base+x.i) x.it.a) (lT cl yl vars [] h x.it.a) with
   |some (v,h)=>if qM x.cks log h then Dp x.it.d vars [] v λvars' _=>vW cl yl base xs vars' (Gu x vars v log) h else none
   |none=>none
  |some false=>if qM x.cks log h then Dp x.it.d vars [] .undef λvars' _=>vW cl yl base xs vars' log h else none
  |none=>none)=_
 simp only[Uj,Bool.cond_eq_ite]
abbrev Sf:=Option (E×List V×HC×H)
def yU (step:List V->H->Sf)(n:Nat):List V->H->Sf:=
 Nat.rec (λ_ _=>none) (λ_ ih vars h=>match step vars h with
  |some (.norm,vars,dfs,h)=>match ih vars h with
   |some (e,vars,dfs2,h)=>some (e,vars,dfs2++dfs,h)
   |none=>none
  |r=>r) n
theorem Js (step:List V->H->Sf)(vars:List V)(h:H):yU step 0 vars h=none:=rfl
theorem sX (step:List V->H->Sf)(n:Nat)(vars:List V)(h:H):yU step (n+1) vars h=match step vars h with
  |some (.norm,vars,dfs,h)=>match yU step n vars h with
   |some (e,vars,dfs2,h)=>some (e,vars,dfs2++dfs,h)
   |none=>none
  |r=>r:=rfl
def ZC (a b:List V->H->Sf)(vars:List V)(h:H):Sf:=match a vars h with
 |some (.norm,vars,dfs,h)=>match b vars h with
  |some (e,vars,dfs2,h)=>some (e,vars,dfs2++dfs,h)
  |none=>none
 |r=>r
def ZP (x:X)(a b:List V->H->Sf)(vars:List V)(h:H):Sf:=match BL vars [] x with
 | .bool true=>a vars h
 | .bool false=>b vars h
 |_=>none
def PM (id:Nat)(a:List V->H->Sf)(vars:List V)(h:H):Sf:=match a vars h with
 |some (.exit n,vars,dfs,h)=>if n=id then some (.norm,vars,dfs,h) else some (.exit n,vars,dfs,h)
 |r=>r
def YZ (cl yl:dW)(its:List It)(vars:List V)(h:H):Sf:=match tU cl yl its vars [] h with
 |some (vars,h)=>some (.norm,vars, [],h)
 |none=>none
def YF (cl yl:dW)(k nl:Nat)(its:List AI)(vars:List V)(h:H):Sf:=
 match vW cl yl h.next its (vars++List.replicate nl .unk) [] {h with next:=h.next+k} with
 |some (vs,h)=>some (.norm,vs.take vars.length, [],h)
 |none=>none
def Hg (cl yl:dW)(rd:Option Nat)(its:List It)(x:X)(args:List X)(vars:List V)(h:H):Sf:=
 if rd.isSome then none else match tU cl yl its vars [] h with
  |some (vars,h)=>match xv vars [] x with
   | .fn g fs cs=>some (.norm,vars, [(g,fs++args.map (xv vars [])++cs)],h)
   |_=>none
  |none=>none
def yN (cl:dW)(rd:Option Nat)(x:X)(pars:List Nat)(assign body:C)(vars:List V)(h:H):Sf:=
 match xv vars [] x with
 | .fn g fs cs=>
  if CY rd h then
  match cl g (fs++ .yl h.next::cs) (h.new (.loop {vars,pars,assign,body,st:= .ready,pend:=none})) with
  |some (_,h')=>
   match h'.get h.next with
   |some (.loop r)=>
    if r.st= .busy then none else
    some (r.pend.getD .norm,vars, [],h'.set h.next (some (.loop {r with st:= .out})))
   |_=>none
  |none=>none
  else none
 |_=>none
def run (cl yl:dW)(N:Nat)(rd:Option Nat)(c:C):List V->H->Sf:=
 C.rec (motive:=λ_=>List V->H->Sf) (λvars h=>some (.norm,vars, [],h)) (YZ cl yl) (YF cl yl) (Hg cl yl rd) (λ_ _ a b=>ZC a b) (λx _ _ a b=>ZP x a b) (λid _ a=>PM id a)
  (λ_ a=>yU a N) (λn vars h=>some (.exit n,vars, [],h)) (λvars h=>some (.ret,vars, [],h)) (λ_ a=>a) (λx pars as bd _ _=>yN cl rd x pars as bd) (λ_ _=>none) c
section
variable (cl yl:dW) (N:Nat) (rd:Option Nat) (vars:List V) (h:H)
theorem Cr:run cl yl N rd .skip vars h=some (.norm,vars, [],h):=rfl
theorem Pz (its:List It):run cl yl N rd (.reg its) vars h=match tU cl yl its vars [] h with
 |some (vars,h)=>some (.norm,vars, [],h)
 |none=>none:=rfl
theorem Qi (k nl:Nat)(its:List AI):run cl yl N rd (.any k nl its) vars h=match vW cl yl h.next its (vars++List.replicate nl .unk) [] {h with next:=h.next+k} with
 |some (vs,h)=>some (.norm,vs.take vars.length, [],h)
 |none=>none:=rfl
theorem To (its:List It)(x:X)(args:List X):run cl yl N rd (.regd its x args) vars h=Hg cl yl rd its x args vars h:=rfl
theorem run_seq (a b:C):run cl yl N rd (.seq a b) vars h=match run cl yl N rd a vars h with
 |some (.norm,vars,dfs,h)=>match run cl yl N rd b vars h with
  |some (e,vars,dfs2,h)=>some (e,vars,dfs2++dfs,h)
  |none=>none
 |r=>r:=rfl
theorem run_ite (x:X)(a b:C):run cl yl N rd (.ite x a b) vars h=match xv vars [] x with
 | .bool true=>run cl yl N rd a vars h
 | .bool false=>run cl yl N rd b vars h
 |_=>none:=by rw[←Bs];rfl
theorem Ea (id:Nat)(a:C):run cl yl N rd (.block id a) vars h=match run cl yl N rd a vars h with
 |some (.exit n,vars,dfs,h)=>if n=id then some (.norm,vars,dfs,h) else some (.exit n,vars,dfs,h)
 |r=>r:=rfl
theorem Iw (a:C):run cl yl N rd (.loop a) vars h=yU (run cl yl N rd a) N vars h:=rfl
theorem Ip (n:Nat):run cl yl N rd (.exit n) vars h=some (.exit n,vars, [],h):=rfl
theorem Oh:run cl yl N rd .ret vars h=some (.ret,vars, [],h):=rfl
theorem Fp (a:C):run cl yl N rd (.scope a) vars h=run cl yl N rd a vars h:=rfl
theorem Fq (x:X)(pars:List Nat)(a b:C):run cl yl N rd (.range x pars a b) vars h=yN cl rd x pars a b vars h:=rfl
end
def Ak (p:Nat->Option Fn)(cl:dW)(dfs:HC):H->Option H:=
 List.rec (λh=>some h) (λd _ ih h=>match p d.1 with
  |some fn=>if fn.body.Rg then (match cl d.1 d.2 h with|some (_,h)=>ih h|none=>none) else none
  |none=>none) dfs
theorem vX (p:Nat->Option Fn)(cl:dW)(h:H):Ak p cl [] h=some h:=rfl
theorem Jo (p:Nat->Option Fn)(cl:dW)(g:Nat)(args:List V)(r:HC)(h:H):Ak p cl ((g,args)::r) h=match p g with
  |some fn=>if fn.body.Rg then (match cl g args h with|some (_,h)=>Ak p cl r h|none=>none) else none
  |none=>none:=rfl
def yF (p:Nat->Option Fn)(cl yl:dW)(N:Nat):dW:=λg args h=>
 match p g with
 |none=>none
 |some fn=>
  if args.length=fn.nargs then
   match run cl yl N none fn.body (Ag fn args) h with
   |some (.norm,vars,dfs,h)|some (.ret,vars,dfs,h)=>
    match Ak p cl dfs h with
    |some h=>(cE (fn.results.map (Ac vars h))).map λvs=>(Eh vs,h)
    |none=>none
   |_=>none
  else none
def uT (cl yl:dW)(N:Nat):dW:=λid args h=>
 match h.get id with
 |some (.loop r)=>
  if args.length=r.pars.length then
   match run cl yl N (some id) r.assign ((r.pars.zip args).foldl (λvs q=>vs.set q.1 q.2) r.vars) h with
   |some (.norm,vars,_,h)=>
    match h.get id with
    |some (.loop r2)=>
     if r2.st= .ready then
      match run cl yl N (some id) r.body vars (h.set id (some (.loop {r2 with st:= .busy}))) with
      |some (e,_,_,h)=>
       match h.get id with
       |some (.loop r3)=>
        (match e with
        | .norm=>some (.bool true,h.set id (some (.loop {r3 with st:= .ready,pend:=none})))
        |e=>some (.bool false,h.set id (some (.loop {r3 with st:= .done,pend:=some e}))))
       |_=>none
      |none=>none
     else none
    |_=>none
   |_=>none
  else none
 |_=>none
def lZ (p:Nat->Option Fn)(N f:Nat):dW×dW:=
 Nat.rec (λ_ _ _=>none,λ_ _ _=>none) (λ_ q=>(yF p q.1 q.2 N,uT q.1 q.2 N)) f
def aaY (p:Nat->Option Fn)(N f:Nat):dW:=(lZ p N f).1
theorem Ro (p:Nat->Option Fn)(N:Nat):lZ p N 0=(λ_ _ _=>none,λ_ _ _=>none):=rfl
theorem qH (p:Nat->Option Fn)(N f:Nat):lZ p N (f+1)=(yF p (lZ p N f).1 (lZ p N f).2 N,uT (lZ p N f).1 (lZ p N f).2 N):=rfl
end
end Go.Ay
