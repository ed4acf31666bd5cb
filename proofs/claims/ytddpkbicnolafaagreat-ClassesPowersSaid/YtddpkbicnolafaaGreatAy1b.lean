/- The evaluator: calls by levels, loops by fuel, all else by recursion on the code. -/
import Derived.Test.YtddpkbicnolafaaGreatAy1
namespace Go.Ay
noncomputable section
def aaY (ρ:X->V)(h:H)(x:X):Option (V×H):=some (ρ x,h)
def NV (ρ:X->V)(h:H)(c a b:X):Option (V×H):=match ρ c with| .bool t=>some (cond t (ρ a) (ρ b),h)|_=>none
def NX (h:H)(o:Option V):Option (V×H):=Option.rec none (λv=>some (v,h)) o
def YT (ρ:X->V)(h:H)(op:BinOp)(k:IntKind)(x y:X):Option (V×H):=match ρ x,ρ y with
 | .int j a,.int j' b=>if j=k/\j'=k then NX h (Wl op k a b) else none
 |_,_=>none
def aaO (ρ:X->V)(h:H)(neg:Bool)(x:X):Option (V×H):=match ρ x with
 | .aC=>some (.bool (!neg),h)
 | .sl .. | .emp _=>some (.bool neg,h)
 |_=>none
def aaZ (ρ:X->V)(h:H)(x:X):Option (V×H):=match ρ x with| .bool a=>some (.bool (!a),h)|_=>none
def YV (ρ:X->V)(h:H)(x:X)(i:Nat):Option (V×H):=match ρ x with| .tup vs=>NX h (vs[i]?)|_=>none
def MV (ρ:X->V)(h:H)(x:X):Option (V×H):=match ρ x with
 | .aC=>some (.int .i64 0,h)
 | .emp _=>some (.int .i64 0,h)
 | .sl _ _ len _=>some (.int .i64 (len:Int),h)
 |_=>none
def ldX (h:H)(agg:Bool)(n:Nat)(v:V):Option V:=match v with
 | .ptr id off=>match h.Lk id with
  |some (.cells _ vs)=>match HF vs off n with
   |some ws=>cond agg (some (.agg ws)) (match ws with| [v]=>some v|_=>none)
   |none=>none
  |_=>none
 |_=>none
def fLd (ρ:X->V)(h:H)(agg:Bool)(n:Nat)(x:X):Option (V×H):=NX h (ldX h agg n (ρ x))
def Nt (h:H)(id off:Nat)(ws:List V):Option H:=match h.Lk id with
 |some (.cells false vs)=>match RX off ws vs with
  |some vs'=>some (h.Ks id (some (.cells false vs')))
  |none=>none
 |_=>none
def fSt (ρ:X->V)(h:H)(n:Nat)(x y:X):Option (V×H):=match ρ x with
 | .ptr id off=>if (ρ y).cells.length=n/\(ρ y).cells.all V.one then (match Nt h id off (ρ y).cells with|some h'=>some (V.undef,h')|none=>none) else none
 |_=>none
def BP (n:Int):Option Nat:=Int.rec (λa=>some a) (λ_=>none) n
def XA (ρ:X->V)(h:H)(sz:Nat)(x i:X):Option (V×H):=match ρ x,ρ i with
 | .sl id off len _,.int _ n=>(match BP n with|some k=>cond (Nat.blt k len) (some (.ptr id (off+k*sz),h)) none|none=>none)
 |_,_=>none
def XP (ρ:X->V)(h:H)(n sz:Nat)(x i:X):Option (V×H):=match ρ x,ρ i with
 | .ptr id off,.int _ z=>(match BP z with|some k=>cond (Nat.blt k n) (some (.ptr id (off+k*sz),h)) none|none=>none)
 |_,_=>none
def aaU (ρ:X->V)(h:H)(off:Nat)(x:X):Option (V×H):=match ρ x with| .ptr id o=>some (.ptr id (o+off),h)|_=>none
def LR (ρ:X->V)(h:H)(agg:Bool)(off n:Nat)(x:X):Option (V×H):=match ρ x with
 | .agg vs=>cond agg (match HF vs off n with|some ws=>some (.agg ws,h)|none=>none) (NX h (vs[off]?))
 |_=>none
def abE (ρ:X->V)(h:H)(f:Nat)(fs cs:List X):Option (V×H):=some (.fn f (fs.map ρ) (cs.map ρ),h)
def JK (h:H)(o:Ob):H:=H.rec (λt n=>⟨Tr.Ks (n+1) t n (some o),n+1⟩) h
theorem BG (h:H)(o:Ob):JK h o=h.new o:=by
 cases h;show H.mk _ _=_;rw[←Tr.qN];rfl
def VW (h:H)(zero:List V):Option (V×H):=some (.ptr h.next 0,JK h (.cells false zero))
def abM (ρ:X->V)(h:H)(x:X):Option (V×H):=match ρ x with| .ptr id off=>some (.ptr id off,h)|_=>none
def WZ (h:H)(id off n:Nat):Option (List V):=match h.Lk id with
 |some (.cells _ vs)=>HF vs off n
 |_=>none
theorem UE (h:H)(id off n:Nat):WZ h id off n=h.row id off n:=by
 unfold WZ H.row;rw[H.rY]
 cases h.get id with
 |none=>rfl
 |some o=>cases o<;>simp only[Oj]
def Pu (h:H)(sz:Nat):V->Option (List V)
 | .aC=>some []
 | .emp _=>some []
 | .sl id off len _=>WZ h id off (len*sz)
 |_=>none
theorem Ns (h:H)(sz:Nat)(v:V):Pu h sz v=h.slice sz v:=by
 cases v<;>simp only[Pu,H.slice,UE]
def HC (l m:List V):List V:=List.rec m (λv _ ih=>v::ih) l
theorem BE: ∀(l m:List V),HC l m=l++m
 | [],_=>rfl
 |v::l,m=>by show v::HC l m=_;rw[BE l m];rfl
def JF (h:H)(sz bytes:Nat)(x:V)(m:Nat)(ys:List V):Option (V×H):=
 match sN x with
 |some n=>
  match Pu h sz x with
  |some xs=>
  if m=0 then some (x,h) else
  cond (Nat.ble ((2*(n+m)+1000)*bytes) 281474976710656&&Nat.blt (n+m) 4611686018427387904) (
   match x with
   | .sl id off len (.kn c)=>
    cond (Nat.ble (len+m) c) (match Nt h id (off+len*sz) ys with
     |some h'=>some (.sl id off (len+m) (.kn c),h')
     |none=>none)
    (some (.sl h.next 0 (n+m) (.un sz),JK h (.cells false (HC xs ys))))
   | .sl id _ _ (.un e)=>
    match h.Lk id with
    |some (.cells false _)=>cond (Nat.beq e sz) (some (.sl h.next 0 (n+m) (.un sz),JK (h.Ks id none) (.cells false (HC xs ys)))) none
    |_=>none
   | .emp _=>none
   |_=>some (.sl h.next 0 (n+m) (.un sz),JK h (.cells false (HC xs ys)))) none
  |none=>none
 |none=>none
theorem BT (h:H)(id off:Nat)(ws:List V):Nt h id off ws=h.put id off ws:=by
 unfold Nt H.put;simp only[H.rY,Qm,H.qN]
 cases h.get id with
 |none=>rfl
 |some o=>cases o with
  |cells ro vs=>cases ro<;>simp only<;>cases putAt vs off ws<;>rfl
  |_=>rfl
theorem NB (h:H)(sz bytes:Nat)(x:V)(m:Nat)(ys:List V):JF h sz bytes x m ys=wH h sz bytes x m ys:=by
 unfold JF wH;rw[Ns]
 cases hn:sN x with
 |none=>rfl
 |some n=>
  cases hs:h.slice sz x with
  |none=>rfl
  |some xs=>
   simp only
   by_cases hm:m=0
   ·simp [hm]
   ·simp only[hm,if_false]
    have hb:(Nat.ble ((2*(n+m)+1000)*bytes) 281474976710656&&Nat.blt (n+m) 4611686018427387904)=decide ((2*(n+m)+1000)*bytes<=2^48/\n+m<2^62):=by
     rw[Bool.eq_iff_iff];simp only[Bool.and_eq_true,Nat.ble_eq,Nat.blt_eq,decide_eq_true_eq]
    rw[hb]
    by_cases hc:(2*(n+m)+1000)*bytes<=2^48/\n+m<2^62
    ·rw[if_pos hc,decide_eq_true hc]
     simp only[cond_true,BG,H.qN,H.rY,BE,BT]
     cases x with
     |sl id off len cap=>
      cases cap with
      |kn c=>
       simp only
       by_cases hle:len+m<=c
       ·rw[if_pos hle,(Nat.ble_eq).mpr hle];rfl
       ·rw[if_neg hle,show Nat.ble (len+m) c=false from by
         cases h9:Nat.ble (len+m) c with
         |false=>rfl
         |true=>exact absurd ((Nat.ble_eq).mp h9) hle];rfl
      |un e=>
       simp only
       cases h.get id with
       |none=>rfl
       |some o=>cases o with
        |cells ro vs=>cases ro with
         |true=>rfl
         |false=>
          simp only
          by_cases he:e=sz
          ·rw[if_pos he,(Nat.beq_eq).mpr he];rfl
          ·rw[if_neg he,show Nat.beq e sz=false from by
            cases h9:Nat.beq e sz with
            |false=>rfl
            |true=>exact absurd ((Nat.beq_eq).mp h9) he];rfl
        |_=>rfl
     |_=>rfl
    ·rw[if_neg hc,decide_eq_false hc];rfl
def VY (ρ:X->V)(h:H)(sz bytes:Nat)(x y:X):Option (V×H):=match sN (ρ y) with
 |some m=>match Pu h sz (ρ y) with
  |some ys=>JF h sz bytes (ρ x) m ys
  |none=>none
 |none=>none
def evX (ρ:X->V)(h:H)(i:I):Option (V×H):=
 I.rec (motive:=λ_=>Option (V×H))
  (aaY ρ h) (NV ρ h) (YT ρ h) (λa b c d=>cX ρ h (.shf a b c d)) (λa b c=>cX ρ h (.beq a b c)) (aaO ρ h) (aaZ ρ h) (λk x=>cX ρ h (.neg k x)) (λk x=>cX ρ h (.conv k x))
  (LR ρ h) (YV ρ h) (MV ρ h) (λx=>cX ρ h (.lenm x)) (λx=>cX ρ h (.caps x)) (λm xs=>cX ρ h (.mm m xs)) (fLd ρ h) (fSt ρ h) (XA ρ h) (aaU ρ h)
  (λa b c d e=>cX ρ h (.slc a b c d e)) (λa b c d e=>cX ρ h (.mks a b c d e)) (VW h) (λx=>cX ρ h (.box x)) (λz ps=>cX ρ h (.bld z ps)) (λa b c d=>cX ρ h (.bls a b c d))
  (VY ρ h) (λa b c d e=>cX ρ h (.apz a b c d e)) (λa b c=>cX ρ h (.cpy a b c)) (abE ρ h) (cX ρ h .mkm) (λa b c d=>cX ρ h (.lkp a b c d)) (λa b c=>cX ρ h (.mset a b c)) (abM ρ h)
  (XP ρ h) (λx=>cX ρ h (.cvs x)) (λt x=>cX ρ h (.mif t x)) (λa b=>cX ρ h (.mkw a b)) (λs a b c d=>cX ρ h (.lkw s a b c d)) (λs a b c=>cX ρ h (.msw s a b c)) (λs a b c=>cX ρ h (.ent s a b c)) (λa b c=>cX ρ h (.ens a b c)) (λa b=>cX ρ h (.six a b)) (λa b c=>cX ρ h (.seq a b c)) (λa b=>cX ρ h (.sad a b)) (λa=>cX ρ h (.cir a)) (λa b c=>cX ρ h (.clr a b c)) (λa b c d e=>cX ρ h (.sla a b c d e)) none i
theorem Di (h:H)(o:Option V):NX h o=o.map (·,h):=by cases o<;>rfl
theorem YC (h:H)(agg:Bool)(n:Nat)(v:V):ldX h agg n v=HD h agg n v:=by
 unfold ldX HD H.row
 cases v with
 |ptr id off=>
  simp only[H.rY,Oj]
  cases h.get id with
  |none=>rfl
  |some o=>cases o with
   |cells ro vs=>simp only;cases sub vs off n with
    |none=>rfl
    |some ws=>cases agg<;>rfl
   |_=>rfl
 |_=>rfl
theorem IB (h:H)(id off:Nat)(ws:List V):Nt h id off ws=h.put id off ws:=by
 unfold Nt H.put;simp only[H.rY,Qm,H.qN]
 cases h.get id with
 |none=>rfl
 |some o=>cases o with
  |cells ro vs=>cases ro<;>simp only<;>cases putAt vs off ws<;>rfl
  |_=>rfl
theorem ZE (ρ:X->V)(h:H)(i:I):evX ρ h i=cX ρ h i:=by
 cases i with
 |pick c a b=>
         show NV ρ h c a b=_;simp only[NV,cX];cases ρ c<;>try rfl
         rename_i t;cases t<;>rfl
 |bin op k x y=>show YT ρ h op k x y=_;simp only[YT,cX,Di,CW];rfl
 |ext x i=>show YV ρ h x i=_;simp only[YV,cX,Di];rfl
 |lens x=>show MV ρ h x=_;simp only[MV,cX];cases ρ x<;>rfl
 |ld agg n x=>show fLd ρ h agg n x=_;simp only[fLd,cX,Di,YC]
 |st n x y=>
  show fSt ρ h n x y=_;simp only[fSt,cX,IB];cases ρ x<;>try rfl
  simp only;split<;>try rfl
  cases h.put _ _ _<;>rfl
 |ixa sz x i=>
  show XA ρ h sz x i=_;simp only[XA,cX,Qo];cases ρ x<;>try rfl
  cases ρ i<;>try rfl
  rename_i id off len cap k n;simp only
  cases n with
  |ofNat a=>
   simp only[BP]
   by_cases h1:a<len
   ·rw[(Nat.blt_eq).mpr h1]
    have h2:(0:Int)<=Int.ofNat a/\Int.ofNat a<(len:Int):=⟨Int.natCast_nonneg a,by simpa using h1⟩
    rw[if_pos h2];rfl
   ·have h3:Nat.blt a len=false:=by
     cases h4:Nat.blt a len with
     |false=>rfl
     |true=>exact absurd ((Nat.blt_eq).mp h4) h1
    rw[h3];have h2: ¬((0:Int)<=Int.ofNat a/\Int.ofNat a<(len:Int)):=λh=>h1 (by simpa using h.2)
    rw[if_neg h2];rfl
  |negSucc a=>
   have h2: ¬((0:Int)<=Int.negSucc a/\Int.negSucc a<(len:Int)):=λh=>by have:=h.1;omega
   rw[if_neg h2];rfl
 |ixd len sz x i=>
  show XP ρ h len sz x i=_;simp only[XP,cX,DB];cases ρ x<;>try rfl
  cases ρ i<;>try rfl
  rename_i id off k n;simp only
  cases n with
  |ofNat a=>
   simp only[BP]
   by_cases h1:a<len
   ·rw[(Nat.blt_eq).mpr h1]
    have h2:(0:Int)<=Int.ofNat a/\Int.ofNat a<(len:Int):=⟨Int.natCast_nonneg a,by simpa using h1⟩
    rw[if_pos h2];rfl
   ·have h3:Nat.blt a len=false:=by
     cases h4:Nat.blt a len with
     |false=>rfl
     |true=>exact absurd ((Nat.blt_eq).mp h4) h1
    rw[h3];have h2: ¬((0:Int)<=Int.ofNat a/\Int.ofNat a<(len:Int)):=λh=>h1 (by simpa using h.2)
    rw[if_neg h2];rfl
  |negSucc a=>
   have h2: ¬((0:Int)<=Int.negSucc a/\Int.negSucc a<(len:Int)):=λh=>by have:=h.1;omega
   rw[if_neg h2];rfl
 |alc z=>show VW h z=_;simp only[VW,cX,BG]
 |app sz b x y=>
  show VY ρ h sz b x y=_;simp only[VY,cX,Ns,NB];cases sN (ρ y)<;>cases h.slice sz (ρ y)<;>rfl
 |part agg off n x=>
  show LR ρ h agg off n x=_;simp only[LR,cX,Oj,Di];cases ρ x<;>try rfl
  cases agg
  ·rfl
  ·simp only[cond_true,if_true]
   cases sub _ _ _<;>rfl
 |_=>rfl
abbrev dX:=Nat->List V->H->Option (V×H)
def Gh (cl:dX)(g:Nat)(vs:List V)(h:H):Option (V×H):=
 cond (vs.all V.Fq) (match cl g vs ⟨.lf,0⟩ with|some (v,_)=>cond v.Fq (some (v,h)) none|none=>none) none
def mE (cl yl:dX)(vars loc:List V)(h:H)(a:dZ):Option (V×H):=
 dZ.rec (motive:=λ_=>Option (V×H)) (evX (Zm vars loc) h) (λg args=>cl g (args.map (Zm vars loc)) h)
  (λx args=>match Zm vars loc x with
   | .fn g fs cs=>cl g (fs++args.map (Zm vars loc)++cs) h
   | .yl id=>yl id (args.map (Zm vars loc)) h
   |_=>none)
  (λg args=>Gh cl g (args.map (Zm vars loc)) h)
  (λg t x args=>match Zm vars loc x with
   | .ifc u v=>cond (Nat.beq u t) (cl g (v::args.map (Zm vars loc)) h) none
   |_=>none) a
theorem tA (cl yl:dX)(vars loc:List V)(h:H)(i:I):mE cl yl vars loc h (.op i)=cX (xv vars loc) h i:=by
 show evX (Zm vars loc) h i=_;rw[ZE,Be]
theorem tD (cl yl:dX)(vars loc:List V)(h:H)(g:Nat)(args:List X):mE cl yl vars loc h (.call g args)=cl g (args.map (xv vars loc)) h:=by
 show cl g (args.map (Zm vars loc)) h=_;rw[Be]
theorem qW (cl yl:dX)(vars loc:List V)(h:H)(x:X)(args:List X):mE cl yl vars loc h (.callv x args)=match xv vars loc x with
   | .fn g fs cs=>cl g (fs++args.map (xv vars loc)++cs) h
   | .yl id=>yl id (args.map (xv vars loc)) h
   |_=>none:=by
 rw[←Be];rfl
theorem qS (cl yl:dX)(vars loc:List V)(h:H)(g t:Nat)(x:X)(args:List X):mE cl yl vars loc h (.calli g t x args)=match xv vars loc x with
   | .ifc u v=>cond (Nat.beq u t) (cl g (v::args.map (xv vars loc)) h) none
   |_=>none:=by
 rw[←Be];rfl
theorem mL (cl yl:dX)(vars loc:List V)(h:H)(g:Nat)(args:List X):mE cl yl vars loc h (.callp g args)=Gh cl g (args.map (xv vars loc)) h:=by
 show Gh cl g (args.map (Zm vars loc)) h=_;rw[Be]
theorem wJ {cl:dX}{g:Nat}{vs:List V}{h h':H}{v:V}(he:Gh cl g vs h=some (v,h')):h'=h/\vs.all V.Fq=true/\v.Fq=true/\ ∃h2,cl g vs ⟨.lf,0⟩=some (v,h2):=by
 unfold Gh at he
 cases h1:vs.all V.Fq with
 |false=>rw[h1] at he;cases he
 |true=>
  rw[h1] at he;simp only[cond_true] at he;split at he
  ·rename_i w h2 hc
   cases h3:w.Fq with
   |false=>rw[h3] at he;cases he
   |true=>rw[h3] at he;cases he;exact⟨rfl,rfl,h3,h2,hc⟩
  ·cases he
def Aa (vars loc:List V)(g:Option (X×Bool)):Option Bool:=
 match g with
 |none=>some true
 |some (x,b)=>match Zm vars loc x with| .bool a=>some (a==b)| .tup []=>some false|_=>none
theorem Hr (vars loc:List V)(g:Option (X×Bool)):Aa vars loc g=fZ vars loc g:=by
 unfold Aa fZ;rw[Be];rfl
def Cg {α:Type}(d:D)(vars loc:List V)(v:V)(k:List V->List V->α):α:=
 D.rec (λi=>k (LQ vars i v) loc) (k vars (v::loc)) (k vars loc) d
theorem Uh {α:Type}(d:D)(vars loc:List V)(v:V)(k:List V->List V->α):Cg d vars loc v k=k (lY d vars loc v).1 (lY d vars loc v).2:=by
 cases d with
 |v i=>show k (LQ vars i v) loc=_;rw[BA];rfl
 |l=>rfl
 |n=>rfl
def uB (cl yl:dX)(its:List It):List V->List V->H->Option (List V×H):=
 List.rec (λvars _ h=>some (vars,h)) (λit _ ih vars loc h=>
  match Aa vars loc it.g with
  |some true=>match mE cl yl vars loc h it.a with
   |some (v,h)=>Cg it.d vars loc v λvars loc=>ih vars loc h
   |none=>none
  |some false=>Cg it.d vars loc .undef λvars loc=>ih vars loc h
  |none=>none) its
theorem Fe (cl yl:dX)(vars loc:List V)(h:H):uB cl yl [] vars loc h=some (vars,h):=rfl
theorem oD (cl yl:dX)(it:It)(its:List It)(vars loc:List V)(h:H):uB cl yl (it::its) vars loc h=
  match fZ vars loc it.g with
  |some true=>match mE cl yl vars loc h it.a with
   |some (v,h)=>uB cl yl its (lY it.d vars loc v).1 (lY it.d vars loc v).2 h
   |none=>none
  |some false=>uB cl yl its (lY it.d vars loc .undef).1 (lY it.d vars loc .undef).2 h
  |none=>none:=by
 rw[←Hr]
 show (match Aa vars loc it.g with
  |some true=>match mE cl yl vars loc h it.a with
   |some (v,h)=>Cg it.d vars loc v λvars loc=>uB cl yl its vars loc h
   |none=>none
  |some false=>Cg it.d vars loc .undef λvars loc=>uB cl yl its vars loc h
  |none=>none)=_
 simp only[Uh]
def vB (cl yl:dX)(base:Nat)(xs:List AI):List V->Log->H->Option (List V×H):=
 List.rec (λvars _ h=>some (vars,h)) (λx _ ih vars log h=>
  match Aa vars [] x.it.g with
  |some true=>
   match cond x.al (Iu vars h (base+x.i) x.it.a) (mE cl yl vars [] h x.it.a) with
   |some (v,h)=>if qX x.cks log h then Cg x.it.d vars [] v λvars' _=>ih vars' (Hd x vars v log) h else none
   |none=>none
  |some false=>if qX x.cks log h then Cg x.it.d vars [] .undef λvars' _=>ih vars' log h else none
  |none=>none) xs
theorem Fo (cl yl:dX)(base:Nat)(vars:List V)(log:Log)(h:H):vB cl yl base [] vars log h=some (vars,h):=rfl
theorem jM (cl yl:dX)(base:Nat)(x:AI)(xs:List AI)(vars:List V)(log:Log)(h:H):vB cl yl base (x::xs) vars log h=
  match fZ vars [] x.it.g with
  |some true=>
   match (if x.al then Iu vars h (base+x.i) x.it.a else mE cl yl vars [] h x.it.a) with
   |some (v,h)=>if qX x.cks log h then vB cl yl base xs (lY x.it.d vars [] v).1 (Hd x vars v log) h else none
   |none=>none
  |some false=>if qX x.cks log h then vB cl yl base xs (lY x.it.d vars [] .undef).1 log h else none
  |none=>none:=by
 rw[←Hr]
 show (match Aa vars [] x.it.g with
  |some true=>
   match cond x.al (Iu vars h (base+x.i) x.it.a) (mE cl yl vars [] h x.it.a) with
   |some (v,h)=>if qX x.cks log h then Cg x.it.d vars [] v λvars' _=>vB cl yl base xs vars' (Hd x vars v log) h else none
   |none=>none
  |some false=>if qX x.cks log h then Cg x.it.d vars [] .undef λvars' _=>vB cl yl base xs vars' log h else none
  |none=>none)=_
 simp only[Uh,Bool.cond_eq_ite]
abbrev Tj:=Option (E×List V×GR×H)
def zH (step:List V->H->Tj)(n:Nat):List V->H->Tj:=
 Nat.rec (λ_ _=>none) (λ_ ih vars h=>match step vars h with
  |some (.norm,vars,dfs,h)=>match ih vars h with
   |some (e,vars,dfs2,h)=>some (e,vars,dfs2++dfs,h)
   |none=>none
  |r=>r) n
theorem Ku (step:List V->H->Tj)(vars:List V)(h:H):zH step 0 vars h=none:=rfl
theorem sZ (step:List V->H->Tj)(n:Nat)(vars:List V)(h:H):zH step (n+1) vars h=match step vars h with
  |some (.norm,vars,dfs,h)=>match zH step n vars h with
   |some (e,vars,dfs2,h)=>some (e,vars,dfs2++dfs,h)
   |none=>none
  |r=>r:=rfl
def XE (a b:List V->H->Tj)(vars:List V)(h:H):Tj:=match a vars h with
 |some (.norm,vars,dfs,h)=>match b vars h with
  |some (e,vars,dfs2,h)=>some (e,vars,dfs2++dfs,h)
  |none=>none
 |r=>r
def XW (x:X)(a b:List V->H->Tj)(vars:List V)(h:H):Tj:=match Zm vars [] x with
 | .bool true=>a vars h
 | .bool false=>b vars h
 |_=>none
def OE (id:Nat)(a:List V->H->Tj)(vars:List V)(h:H):Tj:=match a vars h with
 |some (.exit n,vars,dfs,h)=>if n=id then some (.norm,vars,dfs,h) else some (.exit n,vars,dfs,h)
 |r=>r
def WM (cl yl:dX)(its:List It)(vars:List V)(h:H):Tj:=match uB cl yl its vars [] h with
 |some (vars,h)=>some (.norm,vars, [],h)
 |none=>none
def YR (cl yl:dX)(k nl:Nat)(its:List AI)(vars:List V)(h:H):Tj:=
 match vB cl yl h.next its (vars++List.replicate nl .unk) [] {h with next:=h.next+k} with
 |some (vs,h)=>some (.norm,vs.take vars.length, [],h)
 |none=>none
def Hj (cl yl:dX)(rd:Option Nat)(its:List It)(x:X)(args:List X)(vars:List V)(h:H):Tj:=
 if rd.isSome then none else match uB cl yl its vars [] h with
  |some (vars,h)=>match xv vars [] x with
   | .fn g fs cs=>some (.norm,vars, [(g,fs++args.map (xv vars [])++cs)],h)
   |_=>none
  |none=>none
def yZ (cl:dX)(rd:Option Nat)(x:X)(pars:List Nat)(assign body:C)(vars:List V)(h:H):Tj:=
 match xv vars [] x with
 | .fn g fs cs=>
  if DG rd h then
  match cl g (fs++ .yl h.next::cs) (h.new (.loop {vars,pars,assign,body,st:= .ready,pend:=none})) with
  |some (_,h')=>
   match h'.get h.next with
   |some (.loop r)=>
    if r.st= .busy then none else
    some (r.pend.getD .norm,vars, [],h'.set h.next (some (.loop {r with st:= .out})))
   |_=>none
  |none=>none
  else none
 |_=>none
def run (cl yl:dX)(N:Nat)(rd:Option Nat)(c:C):List V->H->Tj:=
 C.rec (motive:=λ_=>List V->H->Tj) (λvars h=>some (.norm,vars, [],h)) (WM cl yl) (YR cl yl) (Hj cl yl rd) (λ_ _ a b=>XE a b) (λx _ _ a b=>XW x a b) (λid _ a=>OE id a)
  (λ_ a=>zH a N) (λn vars h=>some (.exit n,vars, [],h)) (λvars h=>some (.ret,vars, [],h)) (λ_ a=>a) (λx pars as bd _ _=>yZ cl rd x pars as bd) (λ_ _=>none) c
section
variable (cl yl:dX) (N:Nat) (rd:Option Nat) (vars:List V) (h:H)
theorem Ds:run cl yl N rd .skip vars h=some (.norm,vars, [],h):=rfl
theorem Pg (its:List It):run cl yl N rd (.reg its) vars h=match uB cl yl its vars [] h with
 |some (vars,h)=>some (.norm,vars, [],h)
 |none=>none:=rfl
theorem Pq (k nl:Nat)(its:List AI):run cl yl N rd (.any k nl its) vars h=match vB cl yl h.next its (vars++List.replicate nl .unk) [] {h with next:=h.next+k} with
 |some (vs,h)=>some (.norm,vs.take vars.length, [],h)
 |none=>none:=rfl
theorem Tn (its:List It)(x:X)(args:List X):run cl yl N rd (.regd its x args) vars h=Hj cl yl rd its x args vars h:=rfl
theorem run_seq (a b:C):run cl yl N rd (.seq a b) vars h=match run cl yl N rd a vars h with
 |some (.norm,vars,dfs,h)=>match run cl yl N rd b vars h with
  |some (e,vars,dfs2,h)=>some (e,vars,dfs2++dfs,h)
  |none=>none
 |r=>r:=rfl
theorem run_ite (x:X)(a b:C):run cl yl N rd (.ite x a b) vars h=match xv vars [] x with
 | .bool true=>run cl yl N rd a vars h
 | .bool false=>run cl yl N rd b vars h
 |_=>none:=by rw[←Be];rfl
theorem Dz (id:Nat)(a:C):run cl yl N rd (.block id a) vars h=match run cl yl N rd a vars h with
 |some (.exit n,vars,dfs,h)=>if n=id then some (.norm,vars,dfs,h) else some (.exit n,vars,dfs,h)
 |r=>r:=rfl
theorem Ja (a:C):run cl yl N rd (.loop a) vars h=zH (run cl yl N rd a) N vars h:=rfl
theorem Jc (n:Nat):run cl yl N rd (.exit n) vars h=some (.exit n,vars, [],h):=rfl
theorem Ql:run cl yl N rd .ret vars h=some (.ret,vars, [],h):=rfl
theorem Ea (a:C):run cl yl N rd (.scope a) vars h=run cl yl N rd a vars h:=rfl
theorem Eh (x:X)(pars:List Nat)(a b:C):run cl yl N rd (.range x pars a b) vars h=yZ cl rd x pars a b vars h:=rfl
end
def Av (p:Nat->Option Fn)(cl:dX)(dfs:GR):H->Option H:=
 List.rec (λh=>some h) (λd _ ih h=>match p d.1 with
  |some fn=>if fn.body.Oi then (match cl d.1 d.2 h with|some (_,h)=>ih h|none=>none) else none
  |none=>none) dfs
theorem vF (p:Nat->Option Fn)(cl:dX)(h:H):Av p cl [] h=some h:=rfl
theorem Kt (p:Nat->Option Fn)(cl:dX)(g:Nat)(args:List V)(r:GR)(h:H):Av p cl ((g,args)::r) h=match p g with
  |some fn=>if fn.body.Oi then (match cl g args h with|some (_,h)=>Av p cl r h|none=>none) else none
  |none=>none:=rfl
def yV (p:Nat->Option Fn)(cl yl:dX)(N:Nat):dX:=λg args h=>
 match p g with
 |none=>none
 |some fn=>
  if args.length=fn.nargs then
   match run cl yl N none fn.body (Ax fn args) h with
   |some (.norm,vars,dfs,h)|some (.ret,vars,dfs,h)=>
    match Av p cl dfs h with
    |some h=>(cQ (fn.results.map (Ad vars h))).map λvs=>(Ec vs,h)
    |none=>none
   |_=>none
  else none
def uQ (cl yl:dX)(N:Nat):dX:=λid args h=>
 match h.get id with
 |some (.loop r)=>
  if args.length=r.pars.length then
   match run cl yl N (some id) r.assign ((r.pars.zip args).foldl (λvs q=>vs.set q.1 q.2) r.vars) h with
   |some (.norm,vars,_,h)=>
    match h.get id with
    |some (.loop r2)=>
     if r2.st= .ready then
      match run cl yl N (some id) r.body vars (h.set id (some (.loop {r2 with st:= .busy}))) with
      |some (e,_,_,h)=>
       match h.get id with
       |some (.loop r3)=>
        (match e with
        | .norm=>some (.bool true,h.set id (some (.loop {r3 with st:= .ready,pend:=none})))
        |e=>some (.bool false,h.set id (some (.loop {r3 with st:= .done,pend:=some e}))))
       |_=>none
      |none=>none
     else none
    |_=>none
   |_=>none
  else none
 |_=>none
def kI (p:Nat->Option Fn)(N f:Nat):dX×dX:=
 Nat.rec (λ_ _ _=>none,λ_ _ _=>none) (λ_ q=>(yV p q.1 q.2 N,uQ q.1 q.2 N)) f
def XQ (p:Nat->Option Fn)(N f:Nat):dX:=(kI p N f).1
theorem Sz (p:Nat->Option Fn)(N:Nat):kI p N 0=(λ_ _ _=>none,λ_ _ _=>none):=rfl
theorem qY (p:Nat->Option Fn)(N f:Nat):kI p N (f+1)=(yV p (kI p N f).1 (kI p N f).2 N,uQ (kI p N f).1 (kI p N f).2 N):=rfl
end
end Go.Ay
