/- The evaluator: calls by levels, loops by fuel, all else by recursion on the code. -/
import Derived.Test.YtddpkbicnolafaaGreatAy1
namespace Go.Ay
noncomputable section
def anG (ρ:X->V)(h:H)(x:X):Option (V×H):=some (ρ x,h)
def ZX (ρ:X->V)(h:H)(c a b:X):Option (V×H):=match ρ c with| .bool t=>some (cond t (ρ a) (ρ b),h)|_=>none
def XW (h:H)(o:Option V):Option (V×H):=Option.rec none (λv=>some (v,h)) o
def alA (ρ:X->V)(h:H)(op:BinOp)(k:IntKind)(x y:X):Option (V×H):=match ρ x,ρ y with
 | .int j a,.int j' b=>if j=k/\j'=k then XW h (LO op k a b) else none
 |_,_=>none
def amK (ρ:X->V)(h:H)(neg:Bool)(x:X):Option (V×H):=match ρ x with
 | .aC=>some (.bool (!neg),h)
 | .sl .. | .emp _=>some (.bool neg,h)
 |_=>none
def anH (ρ:X->V)(h:H)(x:X):Option (V×H):=match ρ x with| .bool a=>some (.bool (!a),h)|_=>none
def akY (ρ:X->V)(h:H)(x:X)(i:Nat):Option (V×H):=match ρ x with| .tup vs=>XW h (vs[i]?)|_=>none
def YT (ρ:X->V)(h:H)(x:X):Option (V×H):=match ρ x with
 | .aC=>some (.int .i64 0,h)
 | .emp _=>some (.int .i64 0,h)
 | .sl _ _ len _=>some (.int .i64 (len:Int),h)
 |_=>none
def ldX (h:H)(agg:Bool)(n:Nat)(v:V):Option V:=match v with
 | .ptr id off=>match h.Xh id with
  |some (.cells _ vs)=>match VX vs off n with
   |some ws=>cond agg (some (.agg ws)) (match ws with| [v]=>some v|_=>none)
   |none=>none
  |_=>none
 |_=>none
def fLd (ρ:X->V)(h:H)(agg:Bool)(n:Nat)(x:X):Option (V×H):=XW h (ldX h agg n (ρ x))
def Yo (h:H)(id off:Nat)(ws:List V):Option H:=match h.Xh id with
 |some (.cells false vs)=>match agZ off ws vs with
  |some vs'=>some (h.Tv id (some (.cells false vs')))
  |none=>none
 |_=>none
def fSt (ρ:X->V)(h:H)(n:Nat)(x y:X):Option (V×H):=match ρ x with
 | .ptr id off=>if (ρ y).cells.length=n/\(ρ y).cells.all V.one then (match Yo h id off (ρ y).cells with|some h'=>some (V.undef,h')|none=>none) else none
 |_=>none
def PQ (n:Int):Option Nat:=Int.rec (λa=>some a) (λ_=>none) n
def akB (ρ:X->V)(h:H)(sz:Nat)(x i:X):Option (V×H):=match ρ x,ρ i with
 | .sl id off len _,.int _ n=>(match PQ n with|some k=>cond (Nat.blt k len) (some (.ptr id (off+k*sz),h)) none|none=>none)
 |_,_=>none
def ajH (ρ:X->V)(h:H)(n sz:Nat)(x i:X):Option (V×H):=match ρ x,ρ i with
 | .ptr id off,.int _ z=>(match PQ z with|some k=>cond (Nat.blt k n) (some (.ptr id (off+k*sz),h)) none|none=>none)
 |_,_=>none
def amT (ρ:X->V)(h:H)(off:Nat)(x:X):Option (V×H):=match ρ x with| .ptr id o=>some (.ptr id (o+off),h)|_=>none
def abG (ρ:X->V)(h:H)(agg:Bool)(off n:Nat)(x:X):Option (V×H):=match ρ x with
 | .agg vs=>cond agg (match VX vs off n with|some ws=>some (.agg ws,h)|none=>none) (XW h (vs[off]?))
 |_=>none
def anO (ρ:X->V)(h:H)(f:Nat)(fs cs:List X):Option (V×H):=some (.fn f (fs.map ρ) (cs.map ρ),h)
def YL (h:H)(o:Ob):H:=H.rec (λt n=>⟨Tr.Tv (n+1) t n (some o),n+1⟩) h
theorem OF (h:H)(o:Ob):YL h o=h.new o:=by
 cases h;show H.mk _ _=_;rw[←Tr.tX];rfl
def ajC (h:H)(zero:List V):Option (V×H):=some (.ptr h.next 0,YL h (.cells false zero))
def anC (ρ:X->V)(h:H)(x:X):Option (V×H):=match ρ x with| .ptr id off=>some (.ptr id off,h)|_=>none
def alX (h:H)(id off n:Nat):Option (List V):=match h.Xh id with
 |some (.cells _ vs)=>VX vs off n
 |_=>none
theorem aeB (h:H)(id off n:Nat):alX h id off n=h.row id off n:=by
 unfold alX H.row;rw[H.wM]
 cases h.get id with
 |none=>rfl
 |some o=>cases o<;>simp only[BG]
def CA (h:H)(sz:Nat):V->Option (List V)
 | .aC=>some []
 | .emp _=>some []
 | .sl id off len _=>alX h id off (len*sz)
 |_=>none
theorem Zr (h:H)(sz:Nat)(v:V):CA h sz v=h.slice sz v:=by
 cases v<;>simp only[CA,H.slice,aeB]
def VW (l m:List V):List V:=List.rec m (λv _ ih=>v::ih) l
theorem PD: ∀(l m:List V),VW l m=l++m
 | [],_=>rfl
 |v::l,m=>by show v::VW l m=_;rw[PD l m];rfl
def YB (h:H)(sz bytes:Nat)(x:V)(m:Nat)(ys:List V):Option (V×H):=
 match xI x with
 |some n=>
  match CA h sz x with
  |some xs=>
  if m=0 then some (x,h) else
  cond (Nat.ble ((2*(n+m)+1000)*bytes) 281474976710656&&Nat.blt (n+m) 4611686018427387904) (
   match x with
   | .sl id off len (.kn c)=>
    cond (Nat.ble (len+m) c) (match Yo h id (off+len*sz) ys with
     |some h'=>some (.sl id off (len+m) (.kn c),h')
     |none=>none)
    (some (.sl h.next 0 (n+m) (.un sz),YL h (.cells false (VW xs ys))))
   | .sl id _ _ (.un e)=>
    match h.Xh id with
    |some (.cells false _)=>cond (Nat.beq e sz) (some (.sl h.next 0 (n+m) (.un sz),YL (h.Tv id none) (.cells false (VW xs ys)))) none
    |_=>none
   | .emp _=>none
   |_=>some (.sl h.next 0 (n+m) (.un sz),YL h (.cells false (VW xs ys)))) none
  |none=>none
 |none=>none
theorem TJ (h:H)(id off:Nat)(ws:List V):Yo h id off ws=h.put id off ws:=by
 unfold Yo H.put
 simp only[H.wM,DQ,H.tX]
 cases h.get id with
 |none=>rfl
 |some o=>cases o with
  |cells ro vs=>cases ro<;>simp only<;>cases putAt vs off ws<;>rfl
  |_=>rfl
theorem WG (h:H)(sz bytes:Nat)(x:V)(m:Nat)(ys:List V):YB h sz bytes x m ys=Ba h sz bytes x m ys:=by
 unfold YB Ba
 rw[Zr]
 cases hn:xI x with
 |none=>rfl
 |some n=>
  cases hs:h.slice sz x with
  |none=>rfl
  |some xs=>
   simp only
   by_cases hm:m=0
   ·simp [hm]
   ·simp only[hm,if_false]
    have hb:(Nat.ble ((2*(n+m)+1000)*bytes) 281474976710656&&Nat.blt (n+m) 4611686018427387904)=decide ((2*(n+m)+1000)*bytes<=2^48/\n+m<2^62):=by
     rw[Bool.eq_iff_iff]
     simp only[Bool.and_eq_true,Nat.ble_eq,Nat.blt_eq,decide_eq_true_eq]
    rw[hb]
    by_cases hc:(2*(n+m)+1000)*bytes<=2^48/\n+m<2^62
    ·rw[if_pos hc,decide_eq_true hc]
     simp only[cond_true,OF,H.tX,H.wM,PD,TJ]
     cases x with
     |sl id off len cap=>
      cases cap with
      |kn c=>
       simp only
       by_cases hle:len+m<=c
       ·rw[if_pos hle,(Nat.ble_eq).mpr hle];rfl
       ·rw[if_neg hle,show Nat.ble (len+m) c=false from by
         cases h9:Nat.ble (len+m) c with
         |false=>rfl
         |true=>exact absurd ((Nat.ble_eq).mp h9) hle];rfl
      |un e=>
       simp only
       cases h.get id with
       |none=>rfl
       |some o=>cases o with
        |cells ro vs=>cases ro with
         |true=>rfl
         |false=>
          simp only
          by_cases he:e=sz
          ·rw[if_pos he,(Nat.beq_eq).mpr he];rfl
          ·rw[if_neg he,show Nat.beq e sz=false from by
            cases h9:Nat.beq e sz with
            |false=>rfl
            |true=>exact absurd ((Nat.beq_eq).mp h9) he];rfl
        |_=>rfl
     |_=>rfl
    ·rw[if_neg hc,decide_eq_false hc];rfl
def ajJ (ρ:X->V)(h:H)(sz bytes:Nat)(x y:X):Option (V×H):=match xI (ρ y) with
 |some m=>match CA h sz (ρ y) with
  |some ys=>YB h sz bytes (ρ x) m ys
  |none=>none
 |none=>none
def evX (ρ:X->V)(h:H)(i:I):Option (V×H):=
 I.rec (motive:=λ_=>Option (V×H))
  (anG ρ h) (ZX ρ h) (alA ρ h) (λa b c d=>dB ρ h (.shf a b c d)) (λa b c=>dB ρ h (.beq a b c)) (amK ρ h) (anH ρ h) (λk x=>dB ρ h (.neg k x)) (λk x=>dB ρ h (.conv k x))
  (abG ρ h) (akY ρ h) (YT ρ h) (λx=>dB ρ h (.lenm x)) (λx=>dB ρ h (.caps x)) (λm xs=>dB ρ h (.mm m xs)) (fLd ρ h) (fSt ρ h) (akB ρ h) (amT ρ h)
  (λa b c d e=>dB ρ h (.slc a b c d e)) (λa b c d e=>dB ρ h (.mks a b c d e)) (ajC h) (λx=>dB ρ h (.box x)) (λz ps=>dB ρ h (.bld z ps)) (λa b c d=>dB ρ h (.bls a b c d))
  (ajJ ρ h) (λa b c d e=>dB ρ h (.apz a b c d e)) (λa b c=>dB ρ h (.cpy a b c)) (anO ρ h) (dB ρ h .mkm) (λa b c d=>dB ρ h (.lkp a b c d)) (λa b c=>dB ρ h (.mset a b c)) (anC ρ h)
  (ajH ρ h) (λx=>dB ρ h (.cvs x)) (λt x=>dB ρ h (.mif t x)) (λa b=>dB ρ h (.mkw a b)) (λs a b c d=>dB ρ h (.lkw s a b c d)) (λs a b c=>dB ρ h (.msw s a b c)) (λs a b c=>dB ρ h (.ent s a b c)) (λa b c=>dB ρ h (.ens a b c)) (λa b=>dB ρ h (.six a b)) (λa b c=>dB ρ h (.seq a b c)) (λa b=>dB ρ h (.sad a b)) (λa=>dB ρ h (.cir a)) (λa b c=>dB ρ h (.clr a b c)) (λa b c d e=>dB ρ h (.sla a b c d e)) none i
theorem Mb (h:H)(o:Option V):XW h o=o.map (·,h):=by cases o<;>rfl
theorem akV (h:H)(agg:Bool)(n:Nat)(v:V):ldX h agg n v=YK h agg n v:=by
 unfold ldX YK H.row
 cases v with
 |ptr id off=>
  simp only[H.wM,BG]
  cases h.get id with
  |none=>rfl
  |some o=>cases o with
   |cells ro vs=>simp only;cases sub vs off n with
    |none=>rfl
    |some ws=>cases agg<;>rfl
   |_=>rfl
 |_=>rfl
theorem abN (h:H)(id off:Nat)(ws:List V):Yo h id off ws=h.put id off ws:=by
 unfold Yo H.put
 simp only[H.wM,DQ,H.tX]
 cases h.get id with
 |none=>rfl
 |some o=>cases o with
  |cells ro vs=>cases ro<;>simp only<;>cases putAt vs off ws<;>rfl
  |_=>rfl
theorem alP (ρ:X->V)(h:H)(i:I):evX ρ h i=dB ρ h i:=by
 cases i with
 |pick c a b=>
         show ZX ρ h c a b=_;simp only[ZX,dB];cases ρ c<;>try rfl
         rename_i t;cases t<;>rfl
 |bin op k x y=>show alA ρ h op k x y=_;simp only[alA,dB,Mb,QI];rfl
 |ext x i=>show akY ρ h x i=_;simp only[akY,dB,Mb];rfl
 |lens x=>show YT ρ h x=_;simp only[YT,dB];cases ρ x<;>rfl
 |ld agg n x=>show fLd ρ h agg n x=_;simp only[fLd,dB,Mb,akV]
 |st n x y=>
  show fSt ρ h n x y=_
  simp only[fSt,dB,abN]
  cases ρ x<;>try rfl
  simp only
  split<;>try rfl
  cases h.put _ _ _<;>rfl
 |ixa sz x i=>
  show akB ρ h sz x i=_
  simp only[akB,dB,CS]
  cases ρ x<;>try rfl
  cases ρ i<;>try rfl
  rename_i id off len cap k n
  simp only
  cases n with
  |ofNat a=>
   simp only[PQ]
   by_cases h1:a<len
   ·rw[(Nat.blt_eq).mpr h1]
    have h2:(0:Int)<=Int.ofNat a/\Int.ofNat a<(len:Int):=⟨Int.natCast_nonneg a,by simpa using h1⟩
    rw[if_pos h2];rfl
   ·have h3:Nat.blt a len=false:=by
     cases h4:Nat.blt a len with
     |false=>rfl
     |true=>exact absurd ((Nat.blt_eq).mp h4) h1
    rw[h3]
    have h2: ¬((0:Int)<=Int.ofNat a/\Int.ofNat a<(len:Int)):=λh=>h1 (by simpa using h.2)
    rw[if_neg h2];rfl
  |negSucc a=>
   have h2: ¬((0:Int)<=Int.negSucc a/\Int.negSucc a<(len:Int)):=λh=>by have:=h.1;omega
   rw[if_neg h2];rfl
 |ixd len sz x i=>
  show ajH ρ h len sz x i=_
  simp only[ajH,dB,QT]
  cases ρ x<;>try rfl
  cases ρ i<;>try rfl
  rename_i id off k n
  simp only
  cases n with
  |ofNat a=>
   simp only[PQ]
   by_cases h1:a<len
   ·rw[(Nat.blt_eq).mpr h1]
    have h2:(0:Int)<=Int.ofNat a/\Int.ofNat a<(len:Int):=⟨Int.natCast_nonneg a,by simpa using h1⟩
    rw[if_pos h2];rfl
   ·have h3:Nat.blt a len=false:=by
     cases h4:Nat.blt a len with
     |false=>rfl
     |true=>exact absurd ((Nat.blt_eq).mp h4) h1
    rw[h3]
    have h2: ¬((0:Int)<=Int.ofNat a/\Int.ofNat a<(len:Int)):=λh=>h1 (by simpa using h.2)
    rw[if_neg h2];rfl
  |negSucc a=>
   have h2: ¬((0:Int)<=Int.negSucc a/\Int.negSucc a<(len:Int)):=λh=>by have:=h.1;omega
   rw[if_neg h2];rfl
 |alc z=>show ajC h z=_;simp only[ajC,dB,OF]
 |app sz b x y=>
  show ajJ ρ h sz b x y=_
  simp only[ajJ,dB,Zr,WG]
  cases xI (ρ y)<;>cases h.slice sz (ρ y)<;>rfl
 |part agg off n x=>
  show abG ρ h agg off n x=_
  simp only[abG,dB,BG,Mb]
  cases ρ x<;>try rfl
  cases agg
  ·rfl
  ·simp only[cond_true,if_true]
   cases sub _ _ _<;>rfl
 |_=>rfl
abbrev dZ:=Nat->List V->H->Option (V×H)
def Pn (cl:dZ)(g:Nat)(vs:List V)(h:H):Option (V×H):=
 cond (vs.all V.Nu) (match cl g vs ⟨.lf,0⟩ with|some (v,_)=>cond v.Nu (some (v,h)) none|none=>none) none
def oH (cl yl:dZ)(vars loc:List V)(h:H)(a:eC):Option (V×H):=
 eC.rec (motive:=λ_=>Option (V×H)) (evX (NW vars loc) h) (λg args=>cl g (args.map (NW vars loc)) h)
  (λx args=>match NW vars loc x with
   | .fn g fs cs=>cl g (fs++args.map (NW vars loc)++cs) h
   | .yl id=>yl id (args.map (NW vars loc)) h
   |_=>none)
  (λg args=>Pn cl g (args.map (NW vars loc)) h)
  (λg t x args=>match NW vars loc x with
   | .ifc u v=>cond (Nat.beq u t) (cl g (v::args.map (NW vars loc)) h) none
   |_=>none) a
theorem xM (cl yl:dZ)(vars loc:List V)(h:H)(i:I):oH cl yl vars loc h (.op i)=dB (xv vars loc) h i:=by
 show evX (NW vars loc) h i=_;rw[alP,Ji]
theorem xG (cl yl:dZ)(vars loc:List V)(h:H)(g:Nat)(args:List X):oH cl yl vars loc h (.call g args)=cl g (args.map (xv vars loc)) h:=by
 show cl g (args.map (NW vars loc)) h=_;rw[Ji]
theorem uQ (cl yl:dZ)(vars loc:List V)(h:H)(x:X)(args:List X):oH cl yl vars loc h (.callv x args)=match xv vars loc x with
   | .fn g fs cs=>cl g (fs++args.map (xv vars loc)++cs) h
   | .yl id=>yl id (args.map (xv vars loc)) h
   |_=>none:=by
 rw[←Ji];rfl
theorem uF (cl yl:dZ)(vars loc:List V)(h:H)(g t:Nat)(x:X)(args:List X):oH cl yl vars loc h (.calli g t x args)=match xv vars loc x with
   | .ifc u v=>cond (Nat.beq u t) (cl g (v::args.map (xv vars loc)) h) none
   |_=>none:=by
 rw[←Ji];rfl
theorem nY (cl yl:dZ)(vars loc:List V)(h:H)(g:Nat)(args:List X):oH cl yl vars loc h (.callp g args)=Pn cl g (args.map (xv vars loc)) h:=by
 show Pn cl g (args.map (NW vars loc)) h=_;rw[Ji]
theorem Cc {cl:dZ}{g:Nat}{vs:List V}{h h':H}{v:V}(he:Pn cl g vs h=some (v,h')):h'=h/\vs.all V.Nu=true/\v.Nu=true/\ ∃h2,cl g vs ⟨.lf,0⟩=some (v,h2):=by
 unfold Pn at he
 cases h1:vs.all V.Nu with
 |false=>rw[h1] at he;cases he
 |true=>
  rw[h1] at he
  simp only[cond_true] at he
  split at he
  ·rename_i w h2 hc
   cases h3:w.Nu with
   |false=>rw[h3] at he;cases he
   |true=>rw[h3] at he;cases he;exact⟨rfl,rfl,h3,h2,hc⟩
  ·cases he
def Fz (vars loc:List V)(g:Option (X×Bool)):Option Bool:=
 match g with
 |none=>some true
 |some (x,b)=>match NW vars loc x with| .bool a=>some (a==b)| .tup []=>some false|_=>none
theorem Ty (vars loc:List V)(g:Option (X×Bool)):Fz vars loc g=gI vars loc g:=by
 unfold Fz gI;rw[Ji];rfl
def Kf {α:Type}(d:D)(vars loc:List V)(v:V)(k:List V->List V->α):α:=
 D.rec (λi=>k (aaB vars i v) loc) (k vars (v::loc)) (k vars loc) d
theorem IB {α:Type}(d:D)(vars loc:List V)(v:V)(k:List V->List V->α):Kf d vars loc v k=k (oL d vars loc v).1 (oL d vars loc v).2:=by
 cases d with
 |v i=>show k (aaB vars i v) loc=_;rw[OS];rfl
 |l=>rfl
 |n=>rfl
def zB (cl yl:dZ)(its:List It):List V->List V->H->Option (List V×H):=
 List.rec (λvars _ h=>some (vars,h)) (λit _ ih vars loc h=>
  match Fz vars loc it.g with
  |some true=>match oH cl yl vars loc h it.a with
   |some (v,h)=>Kf it.d vars loc v λvars loc=>ih vars loc h
   |none=>none
  |some false=>Kf it.d vars loc .undef λvars loc=>ih vars loc h
  |none=>none) its
theorem Oj (cl yl:dZ)(vars loc:List V)(h:H):zB cl yl [] vars loc h=some (vars,h):=rfl
theorem qE (cl yl:dZ)(it:It)(its:List It)(vars loc:List V)(h:H):zB cl yl (it::its) vars loc h=
  match gI vars loc it.g with
  |some true=>match oH cl yl vars loc h it.a with
   |some (v,h)=>zB cl yl its (oL it.d vars loc v).1 (oL it.d vars loc v).2 h
   |none=>none
  |some false=>zB cl yl its (oL it.d vars loc .undef).1 (oL it.d vars loc .undef).2 h
  |none=>none:=by
 rw[←Ty]
 show (match Fz vars loc it.g with
  |some true=>match oH cl yl vars loc h it.a with
   |some (v,h)=>Kf it.d vars loc v λvars loc=>zB cl yl its vars loc h
   |none=>none
  |some false=>Kf it.d vars loc .undef λvars loc=>zB cl yl its vars loc h
  |none=>none)=_
 simp only[IB]
def zX (cl yl:dZ)(base:Nat)(xs:List AI):List V->Log->H->Option (List V×H):=
 List.rec (λvars _ h=>some (vars,h)) (λx _ ih vars log h=>
  match Fz vars [] x.it.g with
  |some true=>
   match cond x.al (Sv vars h (base+x.i) x.it.a) (oH cl yl vars [] h x.it.a) with
   |some (v,h)=>if uN x.cks log h then Kf x.it.d vars [] v λvars' _=>ih vars' (Qj x vars v log) h else none
   |none=>none
  |some false=>if uN x.cks log h then Kf x.it.d vars [] .undef λvars' _=>ih vars' log h else none
  |none=>none) xs
theorem Ov (cl yl:dZ)(base:Nat)(vars:List V)(log:Log)(h:H):zX cl yl base [] vars log h=some (vars,h):=rfl
theorem jZ (cl yl:dZ)(base:Nat)(x:AI)(xs:List AI)(vars:List V)(log:Log)(h:H):zX cl yl base (x::xs) vars log h=
  match gI vars [] x.it.g with
  |some true=>
   match (if x.al then Sv vars h (base+x.i) x.it.a else oH cl yl vars [] h x.it.a) with
   |some (v,h)=>if uN x.cks log h then zX cl yl base xs (oL x.it.d vars [] v).1 (Qj x vars v log) h else none
   |none=>none
  |some false=>if uN x.cks log h then zX cl yl base xs (oL x.it.d vars [] .undef).1 log h else none
  |none=>none:=by
 rw[←Ty]
 show (match Fz vars [] x.it.g with
  |some true=>
   match cond x.al (Sv vars h (base+x.i) x.it.a) (oH cl yl vars [] h x.it.a) with
   |some (v,h)=>if uN x.cks log h then Kf x.it.d vars [] v λvars' _=>zX cl yl base xs vars' (Qj x vars v log) h else none
   |none=>none
  |some false=>if uN x.cks log h then Kf x.it.d vars [] .undef λvars' _=>zX cl yl base xs vars' log h else none
  |none=>none)=_
 simp only[IB,Bool.cond_eq_ite]
abbrev HQ:=Option (E×List V×VO×H)
def Fg (step:List V->H->HQ)(n:Nat):List V->H->HQ:=
 Nat.rec (λ_ _=>none) (λ_ ih vars h=>match step vars h with
  |some (.norm,vars,dfs,h)=>match ih vars h with
   |some (e,vars,dfs2,h)=>some (e,vars,dfs2++dfs,h)
   |none=>none
  |r=>r) n
theorem Tg (step:List V->H->HQ)(vars:List V)(h:H):Fg step 0 vars h=none:=rfl
theorem xN (step:List V->H->HQ)(n:Nat)(vars:List V)(h:H):Fg step (n+1) vars h=match step vars h with
  |some (.norm,vars,dfs,h)=>match Fg step n vars h with
   |some (e,vars,dfs2,h)=>some (e,vars,dfs2++dfs,h)
   |none=>none
  |r=>r:=rfl
def alM (a b:List V->H->HQ)(vars:List V)(h:H):HQ:=match a vars h with
 |some (.norm,vars,dfs,h)=>match b vars h with
  |some (e,vars,dfs2,h)=>some (e,vars,dfs2++dfs,h)
  |none=>none
 |r=>r
def akC (x:X)(a b:List V->H->HQ)(vars:List V)(h:H):HQ:=match NW vars [] x with
 | .bool true=>a vars h
 | .bool false=>b vars h
 |_=>none
def abH (id:Nat)(a:List V->H->HQ)(vars:List V)(h:H):HQ:=match a vars h with
 |some (.exit n,vars,dfs,h)=>if n=id then some (.norm,vars,dfs,h) else some (.exit n,vars,dfs,h)
 |r=>r
def alW (cl yl:dZ)(its:List It)(vars:List V)(h:H):HQ:=match zB cl yl its vars [] h with
 |some (vars,h)=>some (.norm,vars, [],h)
 |none=>none
def alH (cl yl:dZ)(k nl:Nat)(its:List AI)(vars:List V)(h:H):HQ:=
 match zX cl yl h.next its (vars++List.replicate nl .unk) [] {h with next:=h.next+k} with
 |some (vs,h)=>some (.norm,vs.take vars.length, [],h)
 |none=>none
def Ro (cl yl:dZ)(rd:Option Nat)(its:List It)(x:X)(args:List X)(vars:List V)(h:H):HQ:=
 if rd.isSome then none else match zB cl yl its vars [] h with
  |some (vars,h)=>match xv vars [] x with
   | .fn g fs cs=>some (.norm,vars, [(g,fs++args.map (xv vars [])++cs)],h)
   |_=>none
  |none=>none
def Fl (cl:dZ)(rd:Option Nat)(x:X)(pars:List Nat)(assign body:C)(vars:List V)(h:H):HQ:=
 match xv vars [] x with
 | .fn g fs cs=>
  if SJ rd h then
  match cl g (fs++ .yl h.next::cs) (h.new (.loop {vars,pars,assign,body,st:= .ready,pend:=none})) with
  |some (_,h')=>
   match h'.get h.next with
   |some (.loop r)=>
    if r.st= .busy then none else
    some (r.pend.getD .norm,vars, [],h'.set h.next (some (.loop {r with st:= .out})))
   |_=>none
  |none=>none
  else none
 |_=>none
def run (cl yl:dZ)(N:Nat)(rd:Option Nat)(c:C):List V->H->HQ:=
 C.rec (motive:=λ_=>List V->H->HQ) (λvars h=>some (.norm,vars, [],h)) (alW cl yl) (alH cl yl) (Ro cl yl rd) (λ_ _ a b=>alM a b) (λx _ _ a b=>akC x a b) (λid _ a=>abH id a)
  (λ_ a=>Fg a N) (λn vars h=>some (.exit n,vars, [],h)) (λvars h=>some (.ret,vars, [],h)) (λ_ a=>a) (λx pars as bd _ _=>Fl cl rd x pars as bd) (λ_ _=>none) c
section
variable (cl yl:dZ) (N:Nat) (rd:Option Nat) (vars:List V) (h:H)
theorem Me:run cl yl N rd .skip vars h=some (.norm,vars, [],h):=rfl
theorem AF (its:List It):run cl yl N rd (.reg its) vars h=match zB cl yl its vars [] h with
 |some (vars,h)=>some (.norm,vars, [],h)
 |none=>none:=rfl
theorem AH (k nl:Nat)(its:List AI):run cl yl N rd (.any k nl its) vars h=match zX cl yl h.next its (vars++List.replicate nl .unk) [] {h with next:=h.next+k} with
 |some (vs,h)=>some (.norm,vs.take vars.length, [],h)
 |none=>none:=rfl
theorem HM (its:List It)(x:X)(args:List X):run cl yl N rd (.regd its x args) vars h=Ro cl yl rd its x args vars h:=rfl
theorem run_seq (a b:C):run cl yl N rd (.seq a b) vars h=match run cl yl N rd a vars h with
 |some (.norm,vars,dfs,h)=>match run cl yl N rd b vars h with
  |some (e,vars,dfs2,h)=>some (e,vars,dfs2++dfs,h)
  |none=>none
 |r=>r:=rfl
theorem run_ite (x:X)(a b:C):run cl yl N rd (.ite x a b) vars h=match xv vars [] x with
 | .bool true=>run cl yl N rd a vars h
 | .bool false=>run cl yl N rd b vars h
 |_=>none:=by rw[←Ji];rfl
theorem Od (id:Nat)(a:C):run cl yl N rd (.block id a) vars h=match run cl yl N rd a vars h with
 |some (.exit n,vars,dfs,h)=>if n=id then some (.norm,vars,dfs,h) else some (.exit n,vars,dfs,h)
 |r=>r:=rfl
theorem Vj (a:C):run cl yl N rd (.loop a) vars h=Fg (run cl yl N rd a) N vars h:=rfl
theorem Sb (n:Nat):run cl yl N rd (.exit n) vars h=some (.exit n,vars, [],h):=rfl
theorem CL:run cl yl N rd .ret vars h=some (.ret,vars, [],h):=rfl
theorem Ng (a:C):run cl yl N rd (.scope a) vars h=run cl yl N rd a vars h:=rfl
theorem Oa (x:X)(pars:List Nat)(a b:C):run cl yl N rd (.range x pars a b) vars h=Fl cl rd x pars a b vars h:=rfl
end
def Ia (p:Nat->Option Fn)(cl:dZ)(dfs:VO):H->Option H:=
 List.rec (λh=>some h) (λd _ ih h=>match p d.1 with
  |some fn=>if fn.body.BM then (match cl d.1 d.2 h with|some (_,h)=>ih h|none=>none) else none
  |none=>none) dfs
theorem Ao (p:Nat->Option Fn)(cl:dZ)(h:H):Ia p cl [] h=some h:=rfl
theorem Wa (p:Nat->Option Fn)(cl:dZ)(g:Nat)(args:List V)(r:VO)(h:H):Ia p cl ((g,args)::r) h=match p g with
  |some fn=>if fn.body.BM then (match cl g args h with|some (_,h)=>Ia p cl r h|none=>none) else none
  |none=>none:=rfl
def Et (p:Nat->Option Fn)(cl yl:dZ)(N:Nat):dZ:=λg args h=>
 match p g with
 |none=>none
 |some fn=>
  if args.length=fn.nargs then
   match run cl yl N none fn.body (Kp fn args) h with
   |some (.norm,vars,dfs,h)|some (.ret,vars,dfs,h)=>
    match Ia p cl dfs h with
    |some h=>(cK (fn.results.map (Hf vars h))).map λvs=>(Oi vs,h)
    |none=>none
   |_=>none
  else none
def zI (cl yl:dZ)(N:Nat):dZ:=λid args h=>
 match h.get id with
 |some (.loop r)=>
  if args.length=r.pars.length then
   match run cl yl N (some id) r.assign ((r.pars.zip args).foldl (λvs q=>vs.set q.1 q.2) r.vars) h with
   |some (.norm,vars,_,h)=>
    match h.get id with
    |some (.loop r2)=>
     if r2.st= .ready then
      match run cl yl N (some id) r.body vars (h.set id (some (.loop {r2 with st:= .busy}))) with
      |some (e,_,_,h)=>
       match h.get id with
       |some (.loop r3)=>
        (match e with
        | .norm=>some (.bool true,h.set id (some (.loop {r3 with st:= .ready,pend:=none})))
        |e=>some (.bool false,h.set id (some (.loop {r3 with st:= .done,pend:=some e}))))
       |_=>none
      |none=>none
     else none
    |_=>none
   |_=>none
  else none
 |_=>none
def lV (p:Nat->Option Fn)(N f:Nat):dZ×dZ:=
 Nat.rec (λ_ _ _=>none,λ_ _ _=>none) (λ_ q=>(Et p q.1 q.2 N,zI q.1 q.2 N)) f
def amB (p:Nat->Option Fn)(N f:Nat):dZ:=(lV p N f).1
theorem HX (p:Nat->Option Fn)(N:Nat):lV p N 0=(λ_ _ _=>none,λ_ _ _=>none):=rfl
theorem uI (p:Nat->Option Fn)(N f:Nat):lV p N (f+1)=(Et p (lV p N f).1 (lV p N f).2 N,zI (lV p N f).1 (lV p N f).2 N):=rfl
end
end Go.Ay
