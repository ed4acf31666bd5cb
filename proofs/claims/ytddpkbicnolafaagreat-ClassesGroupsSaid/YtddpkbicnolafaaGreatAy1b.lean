/- The evaluator: calls by levels, loops by fuel, all else by recursion on the code. -/
import Derived.Test.YtddpkbicnolafaaGreatAy1
namespace Go.Ay
noncomputable section
def abP (ρ:X->V)(h:H)(x:X):Option (V×H):=some (ρ x,h)
def OL (ρ:X->V)(h:H)(c a b:X):Option (V×H):=match ρ c with| .bool t=>some (cond t (ρ a) (ρ b),h)|_=>none
def NT (h:H)(o:Option V):Option (V×H):=Option.rec none (λv=>some (v,h)) o
def XA (ρ:X->V)(h:H)(op:BinOp)(k:IntKind)(x y:X):Option (V×H):=match ρ x,ρ y with
 | .int j a,.int j' b=>if j=k/\j'=k then NT h (Wc op k a b) else none
 |_,_=>none
def aaK (ρ:X->V)(h:H)(neg:Bool)(x:X):Option (V×H):=match ρ x with
 | .aB=>some (.bool (!neg),h)
 | .sl .. | .emp _=>some (.bool neg,h)
 |_=>none
def aaZ (ρ:X->V)(h:H)(x:X):Option (V×H):=match ρ x with| .bool a=>some (.bool (!a),h)|_=>none
def YH (ρ:X->V)(h:H)(x:X)(i:Nat):Option (V×H):=match ρ x with| .tup vs=>NT h (vs[i]?)|_=>none
def OK (ρ:X->V)(h:H)(x:X):Option (V×H):=match ρ x with
 | .aB=>some (.int .i64 0,h)
 | .emp _=>some (.int .i64 0,h)
 | .sl _ _ len _=>some (.int .i64 (len:Int),h)
 |_=>none
def ldX (h:H)(agg:Bool)(n:Nat)(v:V):Option V:=match v with
 | .ptr id off=>match h.Mf id with
  |some (.cells _ vs)=>match PF vs off n with
   |some ws=>cond agg (some (.agg ws)) (match ws with| [v]=>some v|_=>none)
   |none=>none
  |_=>none
 |_=>none
def fLd (ρ:X->V)(h:H)(agg:Bool)(n:Nat)(x:X):Option (V×H):=NT h (ldX h agg n (ρ x))
def Mo (h:H)(id off:Nat)(ws:List V):Option H:=match h.Mf id with
 |some (.cells false vs)=>match SU off ws vs with
  |some vs'=>some (h.Jy id (some (.cells false vs')))
  |none=>none
 |_=>none
def fSt (ρ:X->V)(h:H)(n:Nat)(x y:X):Option (V×H):=match ρ x with
 | .ptr id off=>if (ρ y).cells.length=n/\(ρ y).cells.all V.one then (match Mo h id off (ρ y).cells with|some h'=>some (V.undef,h')|none=>none) else none
 |_=>none
def BJ (n:Int):Option Nat:=Int.rec (λa=>some a) (λ_=>none) n
def XM (ρ:X->V)(h:H)(sz:Nat)(x i:X):Option (V×H):=match ρ x,ρ i with
 | .sl id off len _,.int _ n=>(match BJ n with|some k=>cond (Nat.blt k len) (some (.ptr id (off+k*sz),h)) none|none=>none)
 |_,_=>none
def ZM (ρ:X->V)(h:H)(n sz:Nat)(x i:X):Option (V×H):=match ρ x,ρ i with
 | .ptr id off,.int _ z=>(match BJ z with|some k=>cond (Nat.blt k n) (some (.ptr id (off+k*sz),h)) none|none=>none)
 |_,_=>none
def abL (ρ:X->V)(h:H)(off:Nat)(x:X):Option (V×H):=match ρ x with| .ptr id o=>some (.ptr id (o+off),h)|_=>none
def LC (ρ:X->V)(h:H)(agg:Bool)(off n:Nat)(x:X):Option (V×H):=match ρ x with
 | .agg vs=>cond agg (match PF vs off n with|some ws=>some (.agg ws,h)|none=>none) (NT h (vs[off]?))
 |_=>none
def abR (ρ:X->V)(h:H)(f:Nat)(fs cs:List X):Option (V×H):=some (.fn f (fs.map ρ) (cs.map ρ),h)
def IH (h:H)(o:Ob):H:=H.rec (λt n=>⟨Tr.Jy (n+1) t n (some o),n+1⟩) h
theorem AE (h:H)(o:Ob):IH h o=h.new o:=by
 cases h;show H.mk _ _=_;rw[←Tr.qK];rfl
def WJ (h:H)(zero:List V):Option (V×H):=some (.ptr h.next 0,IH h (.cells false zero))
def abD (ρ:X->V)(h:H)(x:X):Option (V×H):=match ρ x with| .ptr id off=>some (.ptr id off,h)|_=>none
def XN (h:H)(id off n:Nat):Option (List V):=match h.Mf id with
 |some (.cells _ vs)=>PF vs off n
 |_=>none
theorem VE (h:H)(id off n:Nat):XN h id off n=h.row id off n:=by
 unfold XN H.row;rw[H.rZ]
 cases h.get id with
 |none=>rfl
 |some o=>cases o<;>simp only[Rk]
def Pg (h:H)(sz:Nat):V->Option (List V)
 | .aB=>some []
 | .emp _=>some []
 | .sl id off len _=>XN h id off (len*sz)
 |_=>none
theorem Ns (h:H)(sz:Nat)(v:V):Pg h sz v=h.slice sz v:=by
 cases v<;>simp only[Pg,H.slice,VE]
def MD (l m:List V):List V:=List.rec m (λv _ ih=>v::ih) l
theorem Zs: ∀(l m:List V),MD l m=l++m
 | [],_=>rfl
 |v::l,m=>by show v::MD l m=_;rw[Zs l m];rfl
def HY (h:H)(sz bytes:Nat)(x:V)(m:Nat)(ys:List V):Option (V×H):=
 match tF x with
 |some n=>
  match Pg h sz x with
  |some xs=>
  if m=0 then some (x,h) else
  cond (Nat.ble ((2*(n+m)+1000)*bytes) 281474976710656&&Nat.blt (n+m) 4611686018427387904) (
   match x with
   | .sl id off len (.kn c)=>
    cond (Nat.ble (len+m) c) (match Mo h id (off+len*sz) ys with
     |some h'=>some (.sl id off (len+m) (.kn c),h')
     |none=>none)
    (some (.sl h.next 0 (n+m) (.un sz),IH h (.cells false (MD xs ys))))
   | .sl id _ _ (.un e)=>
    match h.Mf id with
    |some (.cells false _)=>cond (Nat.beq e sz) (some (.sl h.next 0 (n+m) (.un sz),IH (h.Jy id none) (.cells false (MD xs ys)))) none
    |_=>none
   | .emp _=>none
   |_=>some (.sl h.next 0 (n+m) (.un sz),IH h (.cells false (MD xs ys)))) none
  |none=>none
 |none=>none
theorem CK (h:H)(id off:Nat)(ws:List V):Mo h id off ws=h.put id off ws:=by
 unfold Mo H.put;simp only[H.rZ,Qv,H.qK]
 cases h.get id with
 |none=>rfl
 |some o=>cases o with
  |cells ro vs=>cases ro<;>simp only<;>cases putAt vs off ws<;>rfl
  |_=>rfl
theorem KD (h:H)(sz bytes:Nat)(x:V)(m:Nat)(ys:List V):HY h sz bytes x m ys=xA h sz bytes x m ys:=by
 unfold HY xA;rw[Ns]
 cases hn:tF x with
 |none=>rfl
 |some n=>
  cases hs:h.slice sz x with
  |none=>rfl
  |some xs=>
   simp only
   by_cases hm:m=0
   ·simp [hm]
   ·simp only[hm,if_false]
    have hb:(Nat.ble ((2*(n+m)+1000)*bytes) 281474976710656&&Nat.blt (n+m) 4611686018427387904)=decide ((2*(n+m)+1000)*bytes<=2^48/\n+m<2^62):=by
     rw[Bool.eq_iff_iff];simp only[Bool.and_eq_true,Nat.ble_eq,Nat.blt_eq,decide_eq_true_eq]
    rw[hb]
    by_cases hc:(2*(n+m)+1000)*bytes<=2^48/\n+m<2^62
    ·rw[if_pos hc,decide_eq_true hc]
     simp only[cond_true,AE,H.qK,H.rZ,Zs,CK]
     cases x with
     |sl id off len cap=>
      cases cap with
      |kn c=>
       simp only
       by_cases hle:len+m<=c
       ·rw[if_pos hle,(Nat.ble_eq).mpr hle];rfl
       ·rw[if_neg hle,show Nat.ble (len+m) c=false from by
         cases h9:Nat.ble (len+m) c with
         |false=>rfl
         |true=>exact absurd ((Nat.ble_eq).mp h9) hle];rfl
      |un e=>
       simp only
       cases h.get id with
       |none=>rfl
       |some o=>cases o with
        |cells ro vs=>cases ro with
         |true=>rfl
         |false=>
          simp only
          by_cases he:e=sz
          ·rw[if_pos he,(Nat.beq_eq).mpr he];rfl
          ·rw[if_neg he,show Nat.beq e sz=false from by
            cases h9:Nat.beq e sz with
            |false=>rfl
            |true=>exact absurd ((Nat.beq_eq).mp h9) he];rfl
        |_=>rfl
     |_=>rfl
    ·rw[if_neg hc,decide_eq_false hc];rfl
def XP (ρ:X->V)(h:H)(sz bytes:Nat)(x y:X):Option (V×H):=match tF (ρ y) with
 |some m=>match Pg h sz (ρ y) with
  |some ys=>HY h sz bytes (ρ x) m ys
  |none=>none
 |none=>none
def evX (ρ:X->V)(h:H)(i:I):Option (V×H):=
 I.rec (motive:=λ_=>Option (V×H))
  (abP ρ h) (OL ρ h) (XA ρ h) (λa b c d=>cV ρ h (.shf a b c d)) (λa b c=>cV ρ h (.beq a b c)) (aaK ρ h) (aaZ ρ h) (λk x=>cV ρ h (.neg k x)) (λk x=>cV ρ h (.conv k x))
  (LC ρ h) (YH ρ h) (OK ρ h) (λx=>cV ρ h (.lenm x)) (λx=>cV ρ h (.caps x)) (λm xs=>cV ρ h (.mm m xs)) (fLd ρ h) (fSt ρ h) (XM ρ h) (abL ρ h)
  (λa b c d e=>cV ρ h (.slc a b c d e)) (λa b c d e=>cV ρ h (.mks a b c d e)) (WJ h) (λx=>cV ρ h (.box x)) (λz ps=>cV ρ h (.bld z ps)) (λa b c d=>cV ρ h (.bls a b c d))
  (XP ρ h) (λa b c d e=>cV ρ h (.apz a b c d e)) (λa b c=>cV ρ h (.cpy a b c)) (abR ρ h) (cV ρ h .mkm) (λa b c d=>cV ρ h (.lkp a b c d)) (λa b c=>cV ρ h (.mset a b c)) (abD ρ h)
  (ZM ρ h) (λx=>cV ρ h (.cvs x)) (λt x=>cV ρ h (.mif t x)) (λa b=>cV ρ h (.mkw a b)) (λs a b c d=>cV ρ h (.lkw s a b c d)) (λs a b c=>cV ρ h (.msw s a b c)) (λs a b c=>cV ρ h (.ent s a b c)) (λa b c=>cV ρ h (.ens a b c)) (λa b=>cV ρ h (.six a b)) (λa b c=>cV ρ h (.seq a b c)) (λa b=>cV ρ h (.sad a b)) (λa=>cV ρ h (.cir a)) (λa b c=>cV ρ h (.clr a b c)) (λa b c d e=>cV ρ h (.sla a b c d e)) none i
theorem Dg (h:H)(o:Option V):NT h o=o.map (·,h):=by cases o<;>rfl
theorem ZC (h:H)(agg:Bool)(n:Nat)(v:V):ldX h agg n v=OY h agg n v:=by
 unfold ldX OY H.row
 cases v with
 |ptr id off=>
  simp only[H.rZ,Rk]
  cases h.get id with
  |none=>rfl
  |some o=>cases o with
   |cells ro vs=>simp only;cases sub vs off n with
    |none=>rfl
    |some ws=>cases agg<;>rfl
   |_=>rfl
 |_=>rfl
theorem OW (h:H)(id off:Nat)(ws:List V):Mo h id off ws=h.put id off ws:=by
 unfold Mo H.put;simp only[H.rZ,Qv,H.qK]
 cases h.get id with
 |none=>rfl
 |some o=>cases o with
  |cells ro vs=>cases ro<;>simp only<;>cases putAt vs off ws<;>rfl
  |_=>rfl
theorem YF (ρ:X->V)(h:H)(i:I):evX ρ h i=cV ρ h i:=by
 cases i with
 |pick c a b=>
         show OL ρ h c a b=_;simp only[OL,cV];cases ρ c<;>try rfl
         rename_i t;cases t<;>rfl
 |bin op k x y=>show XA ρ h op k x y=_;simp only[XA,cV,Dg,CQ];rfl
 |ext x i=>show YH ρ h x i=_;simp only[YH,cV,Dg];rfl
 |lens x=>show OK ρ h x=_;simp only[OK,cV];cases ρ x<;>rfl
 |ld agg n x=>show fLd ρ h agg n x=_;simp only[fLd,cV,Dg,ZC]
 |st n x y=>
  show fSt ρ h n x y=_;simp only[fSt,cV,OW];cases ρ x<;>try rfl
  simp only;split<;>try rfl
  cases h.put _ _ _<;>rfl
 |ixa sz x i=>
  show XM ρ h sz x i=_;simp only[XM,cV,Qu];cases ρ x<;>try rfl
  cases ρ i<;>try rfl
  rename_i id off len cap k n;simp only
  cases n with
  |ofNat a=>
   simp only[BJ]
   by_cases h1:a<len
   ·rw[(Nat.blt_eq).mpr h1]
    have h2:(0:Int)<=Int.ofNat a/\Int.ofNat a<(len:Int):=⟨Int.natCast_nonneg a,by simpa using h1⟩
    rw[if_pos h2];rfl
   ·have h3:Nat.blt a len=false:=by
     cases h4:Nat.blt a len with
     |false=>rfl
     |true=>exact absurd ((Nat.blt_eq).mp h4) h1
    rw[h3];have h2: ¬((0:Int)<=Int.ofNat a/\Int.ofNat a<(len:Int)):=λh=>h1 (by simpa using h.2)
    rw[if_neg h2];rfl
  |negSucc a=>
   have h2: ¬((0:Int)<=Int.negSucc a/\Int.negSucc a<(len:Int)):=λh=>by have:=h.1;omega
   rw[if_neg h2];rfl
 |ixd len sz x i=>
  show ZM ρ h len sz x i=_;simp only[ZM,cV,GK];cases ρ x<;>try rfl
  cases ρ i<;>try rfl
  rename_i id off k n;simp only
  cases n with
  |ofNat a=>
   simp only[BJ]
   by_cases h1:a<len
   ·rw[(Nat.blt_eq).mpr h1]
    have h2:(0:Int)<=Int.ofNat a/\Int.ofNat a<(len:Int):=⟨Int.natCast_nonneg a,by simpa using h1⟩
    rw[if_pos h2];rfl
   ·have h3:Nat.blt a len=false:=by
     cases h4:Nat.blt a len with
     |false=>rfl
     |true=>exact absurd ((Nat.blt_eq).mp h4) h1
    rw[h3];have h2: ¬((0:Int)<=Int.ofNat a/\Int.ofNat a<(len:Int)):=λh=>h1 (by simpa using h.2)
    rw[if_neg h2];rfl
  |negSucc a=>
   have h2: ¬((0:Int)<=Int.negSucc a/\Int.negSucc a<(len:Int)):=λh=>by have:=h.1;omega
   rw[if_neg h2];rfl
 |alc z=>show WJ h z=_;simp only[WJ,cV,AE]
 |app sz b x y=>
  show XP ρ h sz b x y=_;simp only[XP,cV,Ns,KD];cases tF (ρ y)<;>cases h.slice sz (ρ y)<;>rfl
 |part agg off n x=>
  show LC ρ h agg off n x=_;simp only[LC,cV,Rk,Dg];cases ρ x<;>try rfl
  cases agg
  ·rfl
  ·simp only[cond_true,if_true]
   cases sub _ _ _<;>rfl
 |_=>rfl
abbrev dS:=Nat->List V->H->Option (V×H)
def Hq (cl:dS)(g:Nat)(vs:List V)(h:H):Option (V×H):=
 cond (vs.all V.Ft) (match cl g vs ⟨.lf,0⟩ with|some (v,_)=>cond v.Ft (some (v,h)) none|none=>none) none
def mD (cl yl:dS)(vars loc:List V)(h:H)(a:dX):Option (V×H):=
 dX.rec (motive:=λ_=>Option (V×H)) (evX (Zw vars loc) h) (λg args=>cl g (args.map (Zw vars loc)) h)
  (λx args=>match Zw vars loc x with
   | .fn g fs cs=>cl g (fs++args.map (Zw vars loc)++cs) h
   | .yl id=>yl id (args.map (Zw vars loc)) h
   |_=>none)
  (λg args=>Hq cl g (args.map (Zw vars loc)) h)
  (λg t x args=>match Zw vars loc x with
   | .ifc u v=>cond (Nat.beq u t) (cl g (v::args.map (Zw vars loc)) h) none
   |_=>none) a
theorem tQ (cl yl:dS)(vars loc:List V)(h:H)(i:I):mD cl yl vars loc h (.op i)=cV (xv vars loc) h i:=by
 show evX (Zw vars loc) h i=_;rw[YF,Ce]
theorem tL (cl yl:dS)(vars loc:List V)(h:H)(g:Nat)(args:List X):mD cl yl vars loc h (.call g args)=cl g (args.map (xv vars loc)) h:=by
 show cl g (args.map (Zw vars loc)) h=_;rw[Ce]
theorem qP (cl yl:dS)(vars loc:List V)(h:H)(x:X)(args:List X):mD cl yl vars loc h (.callv x args)=match xv vars loc x with
   | .fn g fs cs=>cl g (fs++args.map (xv vars loc)++cs) h
   | .yl id=>yl id (args.map (xv vars loc)) h
   |_=>none:=by
 rw[←Ce];rfl
theorem qS (cl yl:dS)(vars loc:List V)(h:H)(g t:Nat)(x:X)(args:List X):mD cl yl vars loc h (.calli g t x args)=match xv vars loc x with
   | .ifc u v=>cond (Nat.beq u t) (cl g (v::args.map (xv vars loc)) h) none
   |_=>none:=by
 rw[←Ce];rfl
theorem lX (cl yl:dS)(vars loc:List V)(h:H)(g:Nat)(args:List X):mD cl yl vars loc h (.callp g args)=Hq cl g (args.map (xv vars loc)) h:=by
 show Hq cl g (args.map (Zw vars loc)) h=_;rw[Ce]
theorem xO {cl:dS}{g:Nat}{vs:List V}{h h':H}{v:V}(he:Hq cl g vs h=some (v,h')):h'=h/\vs.all V.Ft=true/\v.Ft=true/\ ∃h2,cl g vs ⟨.lf,0⟩=some (v,h2):=by
 unfold Hq at he
 cases h1:vs.all V.Ft with
 |false=>rw[h1] at he;cases he
 |true=>
  rw[h1] at he;simp only[cond_true] at he;split at he
  ·rename_i w h2 hc
   cases h3:w.Ft with
   |false=>rw[h3] at he;cases he
   |true=>rw[h3] at he;cases he;exact⟨rfl,rfl,h3,h2,hc⟩
  ·cases he
def Ao (vars loc:List V)(g:Option (X×Bool)):Option Bool:=
 match g with
 |none=>some true
 |some (x,b)=>match Zw vars loc x with| .bool a=>some (a==b)| .tup []=>some false|_=>none
theorem Ix (vars loc:List V)(g:Option (X×Bool)):Ao vars loc g=gE vars loc g:=by
 unfold Ao gE;rw[Ce];rfl
def Dx {α:Type}(d:D)(vars loc:List V)(v:V)(k:List V->List V->α):α:=
 D.rec (λi=>k (MO vars i v) loc) (k vars (v::loc)) (k vars loc) d
theorem Vq {α:Type}(d:D)(vars loc:List V)(v:V)(k:List V->List V->α):Dx d vars loc v k=k (mB d vars loc v).1 (mB d vars loc v).2:=by
 cases d with
 |v i=>show k (MO vars i v) loc=_;rw[AM];rfl
 |l=>rfl
 |n=>rfl
def uH (cl yl:dS)(its:List It):List V->List V->H->Option (List V×H):=
 List.rec (λvars _ h=>some (vars,h)) (λit _ ih vars loc h=>
  match Ao vars loc it.g with
  |some true=>match mD cl yl vars loc h it.a with
   |some (v,h)=>Dx it.d vars loc v λvars loc=>ih vars loc h
   |none=>none
  |some false=>Dx it.d vars loc .undef λvars loc=>ih vars loc h
  |none=>none) its
theorem Gx (cl yl:dS)(vars loc:List V)(h:H):uH cl yl [] vars loc h=some (vars,h):=rfl
theorem oB (cl yl:dS)(it:It)(its:List It)(vars loc:List V)(h:H):uH cl yl (it::its) vars loc h=
  match gE vars loc it.g with
  |some true=>match mD cl yl vars loc h it.a with
   |some (v,h)=>uH cl yl its (mB it.d vars loc v).1 (mB it.d vars loc v).2 h
   |none=>none
  |some false=>uH cl yl its (mB it.d vars loc .undef).1 (mB it.d vars loc .undef).2 h
  |none=>none:=by
 rw[←Ix]
 show (match Ao vars loc it.g with
  |some true=>match mD cl yl vars loc h it.a with
   |some (v,h)=>Dx it.d vars loc v λvars loc=>uH cl yl its vars loc h
   |none=>none
  |some false=>Dx it.d vars loc .undef λvars loc=>uH cl yl its vars loc h
  |none=>none)=_
 simp only[Vq]
def vP (cl yl:dS)(base:Nat)(xs:List AI):List V->Log->H->Option (List V×H):=
 List.rec (λvars _ h=>some (vars,h)) (λx _ ih vars log h=>
  match Ao vars [] x.it.g with
  |some true=>
   match cond x.al (Lc vars h (base+x.i) x.it.a) (mD cl yl vars [] h x.it.a) with
   |some (v,h)=>if qN x.cks log h then Dx x.it.d vars [] v λvars' _=>ih vars' (Hu x vars v log) h else none
   |none=>none
  |some false=>if qN x.cks log h then Dx x.it.d vars [] .undef λvars' _=>ih vars' log h else none
  |none=>none) xs
theorem Gl (cl yl:dS)(base:Nat)(vars:List V)(log:Log)(h:H):vP cl yl base [] vars log h=some (vars,h):=rfl
theorem jM (cl yl:dS)(base:Nat)(x:AI)(xs:List AI)(vars:List V)(log:Log)(h:H):vP cl yl base (x::xs) vars log h=
  match gE vars [] x.it.g with
  |some true=>
   match (if x.al then Lc vars h (base+x.i) x.it.a else mD cl yl vars [] h x.it.a) with
   |some (v,h)=>if qN x.cks log h then vP cl yl base xs (mB x.it.d vars [] v).1 (Hu x vars v log) h else none
   |none=>none
  |some false=>if qN x.cks log h then vP cl yl base xs (mB x.it.d vars [] .undef).1 log h else none
  |none=>none:=by
 rw[←Ix]
 show (match Ao vars [] x.it.g with
  |some true=>
   match cond x.al (Lc vars h (base+x.i) x.it.a) (mD cl yl vars [] h x.it.a) with
   |some (v,h)=>if qN x.cks log h then Dx x.it.d vars [] v λvars' _=>vP cl yl base xs vars' (Hu x vars v log) h else none
   |none=>none
  |some false=>if qN x.cks log h then Dx x.it.d vars [] .undef λvars' _=>vP cl yl base xs vars' log h else none
  |none=>none)=_
 simp only[Vq,Bool.cond_eq_ite]
abbrev Sw:=Option (E×List V×GV×H)
def yN (step:List V->H->Sw)(n:Nat):List V->H->Sw:=
 Nat.rec (λ_ _=>none) (λ_ ih vars h=>match step vars h with
  |some (.norm,vars,dfs,h)=>match ih vars h with
   |some (e,vars,dfs2,h)=>some (e,vars,dfs2++dfs,h)
   |none=>none
  |r=>r) n
theorem Lo (step:List V->H->Sw)(vars:List V)(h:H):yN step 0 vars h=none:=rfl
theorem sX (step:List V->H->Sw)(n:Nat)(vars:List V)(h:H):yN step (n+1) vars h=match step vars h with
  |some (.norm,vars,dfs,h)=>match yN step n vars h with
   |some (e,vars,dfs2,h)=>some (e,vars,dfs2++dfs,h)
   |none=>none
  |r=>r:=rfl
def XE (a b:List V->H->Sw)(vars:List V)(h:H):Sw:=match a vars h with
 |some (.norm,vars,dfs,h)=>match b vars h with
  |some (e,vars,dfs2,h)=>some (e,vars,dfs2++dfs,h)
  |none=>none
 |r=>r
def XD (x:X)(a b:List V->H->Sw)(vars:List V)(h:H):Sw:=match Zw vars [] x with
 | .bool true=>a vars h
 | .bool false=>b vars h
 |_=>none
def LZ (id:Nat)(a:List V->H->Sw)(vars:List V)(h:H):Sw:=match a vars h with
 |some (.exit n,vars,dfs,h)=>if n=id then some (.norm,vars,dfs,h) else some (.exit n,vars,dfs,h)
 |r=>r
def WQ (cl yl:dS)(its:List It)(vars:List V)(h:H):Sw:=match uH cl yl its vars [] h with
 |some (vars,h)=>some (.norm,vars, [],h)
 |none=>none
def WW (cl yl:dS)(k nl:Nat)(its:List AI)(vars:List V)(h:H):Sw:=
 match vP cl yl h.next its (vars++List.replicate nl .unk) [] {h with next:=h.next+k} with
 |some (vs,h)=>some (.norm,vs.take vars.length, [],h)
 |none=>none
def Ig (cl yl:dS)(rd:Option Nat)(its:List It)(x:X)(args:List X)(vars:List V)(h:H):Sw:=
 if rd.isSome then none else match uH cl yl its vars [] h with
  |some (vars,h)=>match xv vars [] x with
   | .fn g fs cs=>some (.norm,vars, [(g,fs++args.map (xv vars [])++cs)],h)
   |_=>none
  |none=>none
def Aa (cl:dS)(rd:Option Nat)(x:X)(pars:List Nat)(assign body:C)(vars:List V)(h:H):Sw:=
 match xv vars [] x with
 | .fn g fs cs=>
  if DM rd h then
  match cl g (fs++ .yl h.next::cs) (h.new (.loop {vars,pars,assign,body,st:= .ready,pend:=none})) with
  |some (_,h')=>
   match h'.get h.next with
   |some (.loop r)=>
    if r.st= .busy then none else
    some (r.pend.getD .norm,vars, [],h'.set h.next (some (.loop {r with st:= .out})))
   |_=>none
  |none=>none
  else none
 |_=>none
def run (cl yl:dS)(N:Nat)(rd:Option Nat)(c:C):List V->H->Sw:=
 C.rec (motive:=λ_=>List V->H->Sw) (λvars h=>some (.norm,vars, [],h)) (WQ cl yl) (WW cl yl) (Ig cl yl rd) (λ_ _ a b=>XE a b) (λx _ _ a b=>XD x a b) (λid _ a=>LZ id a)
  (λ_ a=>yN a N) (λn vars h=>some (.exit n,vars, [],h)) (λvars h=>some (.ret,vars, [],h)) (λ_ a=>a) (λx pars as bd _ _=>Aa cl rd x pars as bd) (λ_ _=>none) c
section
variable (cl yl:dS) (N:Nat) (rd:Option Nat) (vars:List V) (h:H)
theorem Cs:run cl yl N rd .skip vars h=some (.norm,vars, [],h):=rfl
theorem Ri (its:List It):run cl yl N rd (.reg its) vars h=match uH cl yl its vars [] h with
 |some (vars,h)=>some (.norm,vars, [],h)
 |none=>none:=rfl
theorem Ql (k nl:Nat)(its:List AI):run cl yl N rd (.any k nl its) vars h=match vP cl yl h.next its (vars++List.replicate nl .unk) [] {h with next:=h.next+k} with
 |some (vs,h)=>some (.norm,vs.take vars.length, [],h)
 |none=>none:=rfl
theorem Sk (its:List It)(x:X)(args:List X):run cl yl N rd (.regd its x args) vars h=Ig cl yl rd its x args vars h:=rfl
theorem run_seq (a b:C):run cl yl N rd (.seq a b) vars h=match run cl yl N rd a vars h with
 |some (.norm,vars,dfs,h)=>match run cl yl N rd b vars h with
  |some (e,vars,dfs2,h)=>some (e,vars,dfs2++dfs,h)
  |none=>none
 |r=>r:=rfl
theorem run_ite (x:X)(a b:C):run cl yl N rd (.ite x a b) vars h=match xv vars [] x with
 | .bool true=>run cl yl N rd a vars h
 | .bool false=>run cl yl N rd b vars h
 |_=>none:=by rw[←Ce];rfl
theorem Gn (id:Nat)(a:C):run cl yl N rd (.block id a) vars h=match run cl yl N rd a vars h with
 |some (.exit n,vars,dfs,h)=>if n=id then some (.norm,vars,dfs,h) else some (.exit n,vars,dfs,h)
 |r=>r:=rfl
theorem Ke (a:C):run cl yl N rd (.loop a) vars h=yN (run cl yl N rd a) N vars h:=rfl
theorem Lf (n:Nat):run cl yl N rd (.exit n) vars h=some (.exit n,vars, [],h):=rfl
theorem Qq:run cl yl N rd .ret vars h=some (.ret,vars, [],h):=rfl
theorem Fw (a:C):run cl yl N rd (.scope a) vars h=run cl yl N rd a vars h:=rfl
theorem Gy (x:X)(pars:List Nat)(a b:C):run cl yl N rd (.range x pars a b) vars h=Aa cl rd x pars a b vars h:=rfl
end
def Bm (p:Nat->Option Fn)(cl:dS)(dfs:GV):H->Option H:=
 List.rec (λh=>some h) (λd _ ih h=>match p d.1 with
  |some fn=>if fn.body.Rg then (match cl d.1 d.2 h with|some (_,h)=>ih h|none=>none) else none
  |none=>none) dfs
theorem vI (p:Nat->Option Fn)(cl:dS)(h:H):Bm p cl [] h=some h:=rfl
theorem Lm (p:Nat->Option Fn)(cl:dS)(g:Nat)(args:List V)(r:GV)(h:H):Bm p cl ((g,args)::r) h=match p g with
  |some fn=>if fn.body.Rg then (match cl g args h with|some (_,h)=>Bm p cl r h|none=>none) else none
  |none=>none:=rfl
def zA (p:Nat->Option Fn)(cl yl:dS)(N:Nat):dS:=λg args h=>
 match p g with
 |none=>none
 |some fn=>
  if args.length=fn.nargs then
   match run cl yl N none fn.body (Bq fn args) h with
   |some (.norm,vars,dfs,h)|some (.ret,vars,dfs,h)=>
    match Bm p cl dfs h with
    |some h=>(cI (fn.results.map (Ba vars h))).map λvs=>(Gq vs,h)
    |none=>none
   |_=>none
  else none
def uP (cl yl:dS)(N:Nat):dS:=λid args h=>
 match h.get id with
 |some (.loop r)=>
  if args.length=r.pars.length then
   match run cl yl N (some id) r.assign ((r.pars.zip args).foldl (λvs q=>vs.set q.1 q.2) r.vars) h with
   |some (.norm,vars,_,h)=>
    match h.get id with
    |some (.loop r2)=>
     if r2.st= .ready then
      match run cl yl N (some id) r.body vars (h.set id (some (.loop {r2 with st:= .busy}))) with
      |some (e,_,_,h)=>
       match h.get id with
       |some (.loop r3)=>
        (match e with
        | .norm=>some (.bool true,h.set id (some (.loop {r3 with st:= .ready,pend:=none})))
        |e=>some (.bool false,h.set id (some (.loop {r3 with st:= .done,pend:=some e}))))
       |_=>none
      |none=>none
     else none
    |_=>none
   |_=>none
  else none
 |_=>none
def kB (p:Nat->Option Fn)(N f:Nat):dS×dS:=
 Nat.rec (λ_ _ _=>none,λ_ _ _=>none) (λ_ q=>(zA p q.1 q.2 N,uP q.1 q.2 N)) f
def XX (p:Nat->Option Fn)(N f:Nat):dS:=(kB p N f).1
theorem Um (p:Nat->Option Fn)(N:Nat):kB p N 0=(λ_ _ _=>none,λ_ _ _=>none):=rfl
theorem rF (p:Nat->Option Fn)(N f:Nat):kB p N (f+1)=(zA p (kB p N f).1 (kB p N f).2 N,uP (kB p N f).1 (kB p N f).2 N):=rfl
end
end Go.Ay
