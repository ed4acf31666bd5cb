/- The evaluator: calls by levels, loops by fuel, all else by recursion on the code. -/
import Derived.Test.YtcdbmkidaecdiaaGreatAy1
namespace Go.Ay
noncomputable section
def ajV (ρ:X->V)(h:H)(x:X):Option (V×H):=some (ρ x,h)
def XK (ρ:X->V)(h:H)(c a b:X):Option (V×H):=match ρ c with| .bool t=>some (cond t (ρ a) (ρ b),h)|_=>none
def UC (h:H)(o:Option V):Option (V×H):=Option.rec none (λv=>some (v,h)) o
def afF (ρ:X->V)(h:H)(op:BinOp)(k:IntKind)(x y:X):Option (V×H):=match ρ x,ρ y with
 | .int j a,.int j' b=>if j=k/\j'=k then UC h (FY op k a b) else none
 |_,_=>none
def aiJ (ρ:X->V)(h:H)(neg:Bool)(x:X):Option (V×H):=match ρ x with
 | .aE=>some (.bool (!neg),h)
 | .sl .. | .emp _=>some (.bool neg,h)
 |_=>none
def ajR (ρ:X->V)(h:H)(x:X):Option (V×H):=match ρ x with| .bool a=>some (.bool (!a),h)|_=>none
def aeU (ρ:X->V)(h:H)(x:X)(i:Nat):Option (V×H):=match ρ x with| .tup vs=>UC h (vs[i]?)|_=>none
def QL (ρ:X->V)(h:H)(x:X):Option (V×H):=match ρ x with
 | .aE=>some (.int .i64 0,h)
 | .emp _=>some (.int .i64 0,h)
 | .sl _ _ len _=>some (.int .i64 (len:Int),h)
 |_=>none
def ldX (h:H)(agg:Bool)(n:Nat)(v:V):Option V:=match v with
 | .ptr id off=>match h.Qq id with
  |some (.cells _ vs)=>match VE vs off n with
   |some ws=>cond agg (some (.agg ws)) (match ws with| [v]=>some v|_=>none)
   |none=>none
  |_=>none
 |_=>none
def fLd (ρ:X->V)(h:H)(agg:Bool)(n:Nat)(x:X):Option (V×H):=UC h (ldX h agg n (ρ x))
def Tx (h:H)(id off:Nat)(ws:List V):Option H:=match h.Qq id with
 |some (.cells false vs)=>match acI off ws vs with
  |some vs'=>some (h.Pv id (some (.cells false vs')))
  |none=>none
 |_=>none
def fSt (ρ:X->V)(h:H)(n:Nat)(x y:X):Option (V×H):=match ρ x with
 | .ptr id off=>if (ρ y).cells.length=n/\(ρ y).cells.all V.one then (match Tx h id off (ρ y).cells with|some h'=>some (V.undef,h')|none=>none) else none
 |_=>none
def IY (n:Int):Option Nat:=Int.rec (λa=>some a) (λ_=>none) n
def aeY (ρ:X->V)(h:H)(sz:Nat)(x i:X):Option (V×H):=match ρ x,ρ i with
 | .sl id off len _,.int _ n=>(match IY n with|some k=>cond (Nat.blt k len) (some (.ptr id (off+k*sz),h)) none|none=>none)
 |_,_=>none
def ahX (ρ:X->V)(h:H)(n sz:Nat)(x i:X):Option (V×H):=match ρ x,ρ i with
 | .ptr id off,.int _ z=>(match IY z with|some k=>cond (Nat.blt k n) (some (.ptr id (off+k*sz),h)) none|none=>none)
 |_,_=>none
def ajL (ρ:X->V)(h:H)(off:Nat)(x:X):Option (V×H):=match ρ x with| .ptr id o=>some (.ptr id (o+off),h)|_=>none
def QG (ρ:X->V)(h:H)(agg:Bool)(off n:Nat)(x:X):Option (V×H):=match ρ x with
 | .agg vs=>cond agg (match VE vs off n with|some ws=>some (.agg ws,h)|none=>none) (UC h (vs[off]?))
 |_=>none
def ajJ (ρ:X->V)(h:H)(f:Nat)(fs cs:List X):Option (V×H):=some (.fn f (fs.map ρ) (cs.map ρ),h)
def SD (h:H)(o:Ob):H:=H.rec (λt n=>⟨Tr.Pv (n+1) t n (some o),n+1⟩) h
theorem IL (h:H)(o:Ob):SD h o=h.new o:=by
 cases h;show H.mk _ _=_;rw[←Tr.qK];rfl
def ahZ (h:H)(zero:List V):Option (V×H):=some (.ptr h.next 0,SD h (.cells false zero))
def ajN (ρ:X->V)(h:H)(x:X):Option (V×H):=match ρ x with| .ptr id off=>some (.ptr id off,h)|_=>none
def afU (h:H)(id off n:Nat):Option (List V):=match h.Qq id with
 |some (.cells _ vs)=>VE vs off n
 |_=>none
theorem acJ (h:H)(id off n:Nat):afU h id off n=h.row id off n:=by
 unfold afU H.row;rw[H.sJ]
 cases h.get id with
 |none=>rfl
 |some o=>cases o<;>simp only[Vk]
def Wg (h:H)(sz:Nat):V->Option (List V)
 | .aE=>some []
 | .emp _=>some []
 | .sl id off len _=>afU h id off (len*sz)
 |_=>none
theorem So (h:H)(sz:Nat)(v:V):Wg h sz v=h.slice sz v:=by
 cases v<;>simp only[Wg,H.slice,acJ]
def RZ (l m:List V):List V:=List.rec m (λv _ ih=>v::ih) l
theorem GV: ∀(l m:List V),RZ l m=l++m
 | [],_=>rfl
 |v::l,m=>by show v::RZ l m=_;rw[GV l m];rfl
def RJ (h:H)(sz bytes:Nat)(x:V)(m:Nat)(ys:List V):Option (V×H):=
 match uB x with
 |some n=>
  match Wg h sz x with
  |some xs=>
  if m=0 then some (x,h) else
  cond (Nat.ble ((2*(n+m)+1000)*bytes) 281474976710656&&Nat.blt (n+m) 4611686018427387904) (
   match x with
   | .sl id off len (.kn c)=>
    cond (Nat.ble (len+m) c) (match Tx h id (off+len*sz) ys with
     |some h'=>some (.sl id off (len+m) (.kn c),h')
     |none=>none)
    (some (.sl h.next 0 (n+m) (.un sz),SD h (.cells false (RZ xs ys))))
   | .sl id _ _ (.un e)=>
    match h.Qq id with
    |some (.cells false _)=>cond (Nat.beq e sz) (some (.sl h.next 0 (n+m) (.un sz),SD (h.Pv id none) (.cells false (RZ xs ys)))) none
    |_=>none
   | .emp _=>none
   |_=>some (.sl h.next 0 (n+m) (.un sz),SD h (.cells false (RZ xs ys)))) none
  |none=>none
 |none=>none
theorem KN (h:H)(id off:Nat)(ws:List V):Tx h id off ws=h.put id off ws:=by
 unfold Tx H.put;simp only[H.sJ,Un,H.qK]
 cases h.get id with
 |none=>rfl
 |some o=>cases o with
  |cells ro vs=>cases ro<;>simp only<;>cases putAt vs off ws<;>rfl
  |_=>rfl
theorem QP (h:H)(sz bytes:Nat)(x:V)(m:Nat)(f:List V):RJ h sz bytes x m f=yA h sz bytes x m f:=by
 unfold RJ yA;rw[So]
 cases hn:uB x with
 |none=>rfl
 |some n=>
  cases hs:h.slice sz x with
  |none=>rfl
  |some xs=>
   simp only
   by_cases g:m=0
   ·simp [g]
   ·simp only[g,if_false]
    have i:(Nat.ble ((2*(n+m)+1000)*bytes) 281474976710656&&Nat.blt (n+m) 4611686018427387904)=decide ((2*(n+m)+1000)*bytes<=2^48/\n+m<2^62):=by
     rw[Qk];simp only[vV,Nat.ble_eq,Nat.blt_eq,decide_eq_true_eq]
    rw[i]
    by_cases b:(2*(n+m)+1000)*bytes<=2^48/\n+m<2^62
    ·rw[bJ b,decide_eq_true b]
     simp only[cond_true,IL,H.qK,H.sJ,GV,KN]
     cases x with
     |sl id off len cap=>
      cases cap with
      |kn c=>
       simp only
       by_cases a:len+m<=c
       ·rw[bJ a,(Nat.ble_eq).mpr a];rfl
       ·rw[bL a,show Nat.ble (len+m) c=false from by
         cases h9:Nat.ble (len+m) c with
         |false=>rfl
         |true=>exact absurd ((Nat.ble_eq).mp h9) a];rfl
      |un e=>
       simp only
       cases h.get id with
       |none=>rfl
       |some o=>cases o with
        |cells ro vs=>cases ro with
         |true=>rfl
         |false=>
          simp only
          by_cases d:e=sz
          ·rw[bJ d,(Nat.beq_eq).mpr d];rfl
          ·rw[bL d,show Nat.beq e sz=false from by
            cases h9:Nat.beq e sz with
            |false=>rfl
            |true=>exact absurd ((Nat.beq_eq).mp h9) d];rfl
        |_=>rfl
     |_=>rfl
    ·rw[bL b,decide_eq_false b];rfl
def aiG (ρ:X->V)(h:H)(sz bytes:Nat)(x y:X):Option (V×H):=match uB (ρ y) with
 |some m=>match Wg h sz (ρ y) with
  |some ys=>RJ h sz bytes (ρ x) m ys
  |none=>none
 |none=>none
def evX (ρ:X->V)(h:H)(i:I):Option (V×H):=
 I.rec (motive:=λ_=>Option (V×H))
  (ajV ρ h) (XK ρ h) (afF ρ h) (λa b c d=>cK ρ h (.shf a b c d)) (λa b c=>cK ρ h (.beq a b c)) (aiJ ρ h) (ajR ρ h) (λk x=>cK ρ h (.neg k x)) (λk x=>cK ρ h (.conv k x))
  (QG ρ h) (aeU ρ h) (QL ρ h) (λx=>cK ρ h (.lenm x)) (λx=>cK ρ h (.caps x)) (λm xs=>cK ρ h (.mm m xs)) (fLd ρ h) (fSt ρ h) (aeY ρ h) (ajL ρ h)
  (λa b c d e=>cK ρ h (.slc a b c d e)) (λa b c d e=>cK ρ h (.mks a b c d e)) (ahZ h) (λx=>cK ρ h (.box x)) (λz ps=>cK ρ h (.bld z ps)) (λa b c d=>cK ρ h (.bls a b c d))
  (aiG ρ h) (λa b c d e=>cK ρ h (.apz a b c d e)) (λa b c=>cK ρ h (.cpy a b c)) (ajJ ρ h) (cK ρ h .mkm) (λa b c d=>cK ρ h (.lkp a b c d)) (λa b c=>cK ρ h (.mset a b c)) (ajN ρ h)
  (ahX ρ h) (λx=>cK ρ h (.cvs x)) (λt x=>cK ρ h (.mif t x)) (λa b=>cK ρ h (.mkw a b)) (λs a b c d=>cK ρ h (.lkw s a b c d)) (λs a b c=>cK ρ h (.msw s a b c)) (λs a b c=>cK ρ h (.ent s a b c)) (λa b c=>cK ρ h (.ens a b c)) (λa b=>cK ρ h (.six a b)) (λa b c=>cK ρ h (.seq a b c)) (λa b=>cK ρ h (.sad a b)) (λa=>cK ρ h (.cir a)) (λa b c=>cK ρ h (.clr a b c)) (λa b c d e=>cK ρ h (.sla a b c d e)) none i
theorem Hn (h:H)(o:Option V):UC h o=o.map (·,h):=by cases o<;>rfl
theorem afB (h:H)(agg:Bool)(n:Nat)(v:V):ldX h agg n v=RV h agg n v:=by
 unfold ldX RV H.row
 cases v with
 |ptr id off=>
  simp only[H.sJ,Vk]
  cases h.get id with
  |none=>rfl
  |some o=>cases o with
   |cells ro vs=>simp only;cases sub vs off n with
    |none=>rfl
    |some ws=>cases agg<;>rfl
   |_=>rfl
 |_=>rfl
theorem QW (h:H)(id off:Nat)(ws:List V):Tx h id off ws=h.put id off ws:=by
 unfold Tx H.put;simp only[H.sJ,Un,H.qK]
 cases h.get id with
 |none=>rfl
 |some o=>cases o with
  |cells ro vs=>cases ro<;>simp only<;>cases putAt vs off ws<;>rfl
  |_=>rfl
theorem ahO (ρ:X->V)(h:H)(i:I):evX ρ h i=cK ρ h i:=by
 cases i with
 |pick c a b=>
         show XK ρ h c a b=_;simp only[XK,cK];cases ρ c<;>try rfl
         rename_i t;cases t<;>rfl
 |bin op k x y=>show afF ρ h op k x y=_;simp only[afF,cK,Hn,KI];rfl
 |ext x i=>show aeU ρ h x i=_;simp only[aeU,cK,Hn];rfl
 |lens x=>show QL ρ h x=_;simp only[QL,cK];cases ρ x<;>rfl
 |ld agg n x=>show fLd ρ h agg n x=_;simp only[fLd,cK,Hn,afB]
 |st n x y=>
  show fSt ρ h n x y=_;simp only[fSt,cK,QW];cases ρ x<;>try rfl
  simp only;split<;>try rfl
  cases h.put _ _ _<;>rfl
 |ixa sz x i=>
  show aeY ρ h sz x i=_;simp only[aeY,cK,Gu];cases ρ x<;>try rfl
  cases ρ i<;>try rfl
  rename_i id f len j k n;simp only
  cases n with
  |ofNat a=>
   simp only[IY]
   by_cases e:a<len
   ·rw[(Nat.blt_eq).mpr e]
    have d:(0:Int)<=Int.ofNat a/\Int.ofNat a<(len:Int):=⟨Int.natCast_nonneg a,by simpa using e⟩
    rw[bJ d];rfl
   ·have g:Nat.blt a len=false:=by
     cases h4:Nat.blt a len with
     |false=>rfl
     |true=>exact absurd ((Nat.blt_eq).mp h4) e
    rw[g];have d: ¬((0:Int)<=Int.ofNat a/\Int.ofNat a<(len:Int)):=λh=>e (by simpa using h.2)
    rw[bL d];rfl
  |negSucc a=>
   have d: ¬((0:Int)<=Int.negSucc a/\Int.negSucc a<(len:Int)):=λh=>by have:=h.1;omega
   rw[bL d];rfl
 |ixd len sz x i=>
  show ahX ρ h len sz x i=_;simp only[ahX,cK,OC];cases ρ x<;>try rfl
  cases ρ i<;>try rfl
  rename_i id f k n;simp only
  cases n with
  |ofNat a=>
   simp only[IY]
   by_cases e:a<len
   ·rw[(Nat.blt_eq).mpr e]
    have d:(0:Int)<=Int.ofNat a/\Int.ofNat a<(len:Int):=⟨Int.natCast_nonneg a,by simpa using e⟩
    rw[bJ d];rfl
   ·have g:Nat.blt a len=false:=by
     cases h4:Nat.blt a len with
     |false=>rfl
     |true=>exact absurd ((Nat.blt_eq).mp h4) e
    rw[g];have d: ¬((0:Int)<=Int.ofNat a/\Int.ofNat a<(len:Int)):=λh=>e (by simpa using h.2)
    rw[bL d];rfl
  |negSucc a=>
   have d: ¬((0:Int)<=Int.negSucc a/\Int.negSucc a<(len:Int)):=λh=>by have:=h.1;omega
   rw[bL d];rfl
 |alc z=>show ahZ h z=_;simp only[ahZ,cK,IL]
 |app sz b x y=>
  show aiG ρ h sz b x y=_;simp only[aiG,cK,So,QP];cases uB (ρ y)<;>cases h.slice sz (ρ y)<;>rfl
 |part agg f n x=>
  show QG ρ h agg f n x=_;simp only[QG,cK,Vk,Hn];cases ρ x<;>try rfl
  cases agg
  ·rfl
  ·simp only[cond_true,if_true]
   cases sub _ _ _<;>rfl
 |_=>rfl
abbrev dM:=Nat->List V->H->Option (V×H)
def Lg (cl:dM)(g:Nat)(vs:List V)(h:H):Option (V×H):=
 cond (vs.all V.Jh) (match cl g vs ⟨.lf,0⟩ with|some (v,_)=>cond v.Jh (some (v,h)) none|none=>none) none
def kY (cl yl:dM)(vars loc:List V)(h:H)(a:dO):Option (V×H):=
 dO.rec (motive:=λ_=>Option (V×H)) (evX (HP vars loc) h) (λg args=>cl g (args.map (HP vars loc)) h)
  (λx args=>match HP vars loc x with
   | .fn g fs cs=>cl g (fs++args.map (HP vars loc)++cs) h
   | .yl id=>yl id (args.map (HP vars loc)) h
   |_=>none)
  (λg args=>Lg cl g (args.map (HP vars loc)) h)
  (λg t x args=>match HP vars loc x with
   | .ifc u v=>cond (Nat.beq u t) (cl g (v::args.map (HP vars loc)) h) none
   |_=>none) a
theorem tQ (d c:dM)(a b:List V)(h:H)(i:I):kY d c a b h (.op i)=cK (xv a b) h i:=by
 show evX (HP a b) h i=_;rw[ahO,Dq]
theorem tS (c d:dM)(a b:List V)(h:H)(g:Nat)(args:List X):kY c d a b h (.call g args)=c g (args.map (xv a b)) h:=by
 show c g (args.map (HP a b)) h=_;rw[Dq]
theorem rL (c yl:dM)(a b:List V)(h:H)(x:X)(args:List X):kY c yl a b h (.callv x args)=match xv a b x with
   | .fn g fs cs=>c g (fs++args.map (xv a b)++cs) h
   | .yl id=>yl id (args.map (xv a b)) h
   |_=>none:=by
 rw[←Dq];rfl
theorem rE (c d:dM)(a b:List V)(h:H)(g t:Nat)(x:X)(args:List X):kY c d a b h (.calli g t x args)=match xv a b x with
   | .ifc u v=>cond (Nat.beq u t) (c g (v::args.map (xv a b)) h) none
   |_=>none:=by
 rw[←Dq];rfl
theorem lD (c d:dM)(a b:List V)(h:H)(g:Nat)(args:List X):kY c d a b h (.callp g args)=Lg c g (args.map (xv a b)) h:=by
 show Lg c g (args.map (HP a b)) h=_;rw[Dq]
theorem xS {b:dM}{g:Nat}{vs:List V}{h h':H}{v:V}(a:Lg b g vs h=some (v,h')):h'=h/\vs.all V.Jh=true/\v.Jh=true/\ ∃h2,b g vs ⟨.lf,0⟩=some (v,h2):=by
 unfold Lg at a
 cases h1:vs.all V.Jh with
 |false=>rw[h1] at a;cases a
 |true=>
  rw[h1] at a;simp only[cond_true] at a;split at a
  ·rename_i w h2 c
   cases h3:w.Jh with
   |false=>rw[h3] at a;cases a
   |true=>rw[h3] at a;cases a;exact⟨rfl,rfl,h3,h2,c⟩
  ·cases a
def Bx (vars loc:List V)(g:Option (X×Bool)):Option Bool:=
 match g with
 |none=>some true
 |some (x,b)=>match HP vars loc x with| .bool a=>some (a==b)| .tup []=>some false|_=>none
theorem Nn (a b:List V)(g:Option (X×Bool)):Bx a b g=fU a b g:=by
 unfold Bx fU;rw[Dq];rfl
def Gy {α:Type}(d:D)(vars loc:List V)(v:V)(k:List V->List V->α):α:=
 D.rec (λi=>k (QR vars i v) loc) (k vars (v::loc)) (k vars loc) d
theorem BN {α:Type}(d:D)(a b:List V)(v:V)(k:List V->List V->α):Gy d a b v k=k (lI d a b v).1 (lI d a b v).2:=by
 cases d with
 |v i=>show k (QR a i v) b=_;rw[IS];rfl
 |l=>rfl
 |n=>rfl
def uZ (cl yl:dM)(its:List It):List V->List V->H->Option (List V×H):=
 List.rec (λvars _ h=>some (vars,h)) (λit _ ih vars loc h=>
  match Bx vars loc it.g with
  |some true=>match kY cl yl vars loc h it.a with
   |some (v,h)=>Gy it.d vars loc v λvars loc=>ih vars loc h
   |none=>none
  |some false=>Gy it.d vars loc .undef λvars loc=>ih vars loc h
  |none=>none) its
theorem Ka (d c:dM)(a b:List V)(h:H):uZ d c [] a b h=some (a,h):=rfl
theorem mQ (i f:dM)(it:It)(e:List It)(b c:List V)(h:H):uZ i f (it::e) b c h=
  match fU b c it.g with
  |some true=>match kY i f b c h it.a with
   |some (v,h)=>uZ i f e (lI it.d b c v).1 (lI it.d b c v).2 h
   |none=>none
  |some false=>uZ i f e (lI it.d b c .undef).1 (lI it.d b c .undef).2 h
  |none=>none:=by
 rw[←Nn]
 show (match Bx b c it.g with
  |some true=>match kY i f b c h it.a with
   |some (v,h)=>Gy it.d b c v λb c=>uZ i f e b c h
   |none=>none
  |some false=>Gy it.d b c .undef λb c=>uZ i f e b c h
  |none=>none)=_
 simp only[BN]
def wW (cl yl:dM)(base:Nat)(xs:List AI):List V->Log->H->Option (List V×H):=
 List.rec (λvars _ h=>some (vars,h)) (λx _ ih vars log h=>
  match Bx vars [] x.it.g with
  |some true=>
   match cond x.al (Pb vars h (base+x.i) x.it.a) (kY cl yl vars [] h x.it.a) with
   |some (v,h)=>if rG x.cks log h then Gy x.it.d vars [] v λvars' _=>ih vars' (Lh x vars v log) h else none
   |none=>none
  |some false=>if rG x.cks log h then Gy x.it.d vars [] .undef λvars' _=>ih vars' log h else none
  |none=>none) xs
theorem Kd (c d:dM)(base:Nat)(a:List V)(b:Log)(h:H):wW c d base [] a b h=some (a,h):=rfl
theorem iY (f j:dM)(base:Nat)(x:AI)(xs:List AI)(b:List V)(c:Log)(h:H):wW f j base (x::xs) b c h=
  match fU b [] x.it.g with
  |some true=>
   match (if x.al then Pb b h (base+x.i) x.it.a else kY f j b [] h x.it.a) with
   |some (v,h)=>if rG x.cks c h then wW f j base xs (lI x.it.d b [] v).1 (Lh x b v c) h else none
   |none=>none
  |some false=>if rG x.cks c h then wW f j base xs (lI x.it.d b [] .undef).1 c h else none
  |none=>none:=by
 rw[←Nn]
 show (match Bx b [] x.it.g with
  |some true=>
   match cond x.al (Pb b h (base+x.i) x.it.a) (kY f j b [] h x.it.a) with
   |some (v,h)=>if rG x.cks c h then Gy x.it.d b [] v λe _=>wW f j base xs e (Lh x b v c) h else none
   |none=>none
  |some false=>if rG x.cks c h then Gy x.it.d b [] .undef λe _=>wW f j base xs e c h else none
  |none=>none)=_
 simp only[BN,Bool.cond_eq_ite]
abbrev Yp:=Option (E×List V×OK×H)
def Be (step:List V->H->Yp)(n:Nat):List V->H->Yp:=
 Nat.rec (λ_ _=>none) (λ_ ih vars h=>match step vars h with
  |some (.norm,vars,dfs,h)=>match ih vars h with
   |some (e,vars,dfs2,h)=>some (e,vars,dfs2++dfs,h)
   |none=>none
  |r=>r) n
theorem Pc (step:List V->H->Yp)(a:List V)(h:H):Be step 0 a h=none:=rfl
theorem uA (step:List V->H->Yp)(n:Nat)(a:List V)(h:H):Be step (n+1) a h=match step a h with
  |some (.norm,a,dfs,h)=>match Be step n a h with
   |some (e,a,dfs2,h)=>some (e,a,dfs2++dfs,h)
   |none=>none
  |r=>r:=rfl
def aeZ (a b:List V->H->Yp)(vars:List V)(h:H):Yp:=match a vars h with
 |some (.norm,vars,dfs,h)=>match b vars h with
  |some (e,vars,dfs2,h)=>some (e,vars,dfs2++dfs,h)
  |none=>none
 |r=>r
def afX (x:X)(a b:List V->H->Yp)(vars:List V)(h:H):Yp:=match HP vars [] x with
 | .bool true=>a vars h
 | .bool false=>b vars h
 |_=>none
def OZ (id:Nat)(a:List V->H->Yp)(vars:List V)(h:H):Yp:=match a vars h with
 |some (.exit n,vars,dfs,h)=>if n=id then some (.norm,vars,dfs,h) else some (.exit n,vars,dfs,h)
 |r=>r
def ahH (cl yl:dM)(its:List It)(vars:List V)(h:H):Yp:=match uZ cl yl its vars [] h with
 |some (vars,h)=>some (.norm,vars, [],h)
 |none=>none
def ahY (cl yl:dM)(k nl:Nat)(its:List AI)(vars:List V)(h:H):Yp:=
 match wW cl yl h.next its (vars++List.replicate nl .unk) [] {h with next:=h.next+k} with
 |some (vs,h)=>some (.norm,vs.take vars.length, [],h)
 |none=>none
def Lx (cl yl:dM)(rd:Option Nat)(its:List It)(x:X)(args:List X)(vars:List V)(h:H):Yp:=
 if rd.isSome then none else match uZ cl yl its vars [] h with
  |some (vars,h)=>match xv vars [] x with
   | .fn g fs cs=>some (.norm,vars, [(g,fs++args.map (xv vars [])++cs)],h)
   |_=>none
  |none=>none
def Bd (cl:dM)(rd:Option Nat)(x:X)(pars:List Nat)(assign body:C)(vars:List V)(h:H):Yp:=
 match xv vars [] x with
 | .fn g fs cs=>
  if LI rd h then
  match cl g (fs++ .yl h.next::cs) (h.new (.loop {vars,pars,assign,body,st:= .ready,pend:=none})) with
  |some (_,h')=>
   match h'.get h.next with
   |some (.loop r)=>
    if r.st= .busy then none else
    some (r.pend.getD .norm,vars, [],h'.set h.next (some (.loop {r with st:= .out})))
   |_=>none
  |none=>none
  else none
 |_=>none
def run (cl yl:dM)(N:Nat)(rd:Option Nat)(c:C):List V->H->Yp:=
 C.rec (motive:=λ_=>List V->H->Yp) (λvars h=>some (.norm,vars, [],h)) (ahH cl yl) (ahY cl yl) (Lx cl yl rd) (λ_ _ a b=>aeZ a b) (λx _ _ a b=>afX x a b) (λid _ a=>OZ id a)
  (λ_ a=>Be a N) (λn vars h=>some (.exit n,vars, [],h)) (λvars h=>some (.ret,vars, [],h)) (λ_ a=>a) (λx pars as bd _ _=>Bd cl rd x pars as bd) (λ_ _=>none) c
section
variable (cl yl:dM) (N:Nat) (rd:Option Nat) (vars:List V) (h:H)
theorem Hx:run cl yl N rd .skip vars h=some (.norm,vars, [],h):=rfl
theorem Ut (a:List It):run cl yl N rd (.reg a) vars h=match uZ cl yl a vars [] h with
 |some (vars,h)=>some (.norm,vars, [],h)
 |none=>none:=rfl
theorem Uk (k b:Nat)(a:List AI):run cl yl N rd (.any k b a) vars h=match wW cl yl h.next a (vars++List.replicate b .unk) [] {h with next:=h.next+k} with
 |some (vs,h)=>some (.norm,vs.take vars.length, [],h)
 |none=>none:=rfl
theorem BJ (a:List It)(x:X)(args:List X):run cl yl N rd (.regd a x args) vars h=Lx cl yl rd a x args vars h:=rfl
theorem run_seq (a b:C):run cl yl N rd (.seq a b) vars h=match run cl yl N rd a vars h with
 |some (.norm,vars,dfs,h)=>match run cl yl N rd b vars h with
  |some (e,vars,dfs2,h)=>some (e,vars,dfs2++dfs,h)
  |none=>none
 |r=>r:=rfl
theorem run_ite (x:X)(a b:C):run cl yl N rd (.ite x a b) vars h=match xv vars [] x with
 | .bool true=>run cl yl N rd a vars h
 | .bool false=>run cl yl N rd b vars h
 |_=>none:=by rw[←Dq];rfl
theorem Jq (id:Nat)(a:C):run cl yl N rd (.block id a) vars h=match run cl yl N rd a vars h with
 |some (.exit n,vars,dfs,h)=>if n=id then some (.norm,vars,dfs,h) else some (.exit n,vars,dfs,h)
 |r=>r:=rfl
theorem Qj (a:C):run cl yl N rd (.loop a) vars h=Be (run cl yl N rd a) N vars h:=rfl
theorem Mq (n:Nat):run cl yl N rd (.exit n) vars h=some (.exit n,vars, [],h):=rfl
theorem Vn:run cl yl N rd .ret vars h=some (.ret,vars, [],h):=rfl
theorem Kf (a:C):run cl yl N rd (.scope a) vars h=run cl yl N rd a vars h:=rfl
theorem Jy (x:X)(c:List Nat)(a b:C):run cl yl N rd (.range x c a b) vars h=Bd cl rd x c a b vars h:=rfl
end
def Dp (p:Nat->Option Fn)(cl:dM)(dfs:OK):H->Option H:=
 List.rec (λh=>some h) (λd _ ih h=>match p d.1 with
  |some fn=>if fn.body.Vm then (match cl d.1 d.2 h with|some (_,h)=>ih h|none=>none) else none
  |none=>none) dfs
theorem vX (p:Nat->Option Fn)(cl:dM)(h:H):Dp p cl [] h=some h:=rfl
theorem Nq (p:Nat->Option Fn)(cl:dM)(g:Nat)(args:List V)(r:OK)(h:H):Dp p cl ((g,args)::r) h=match p g with
  |some fn=>if fn.body.Vm then (match cl g args h with|some (_,h)=>Dp p cl r h|none=>none) else none
  |none=>none:=rfl
def Bf (p:Nat->Option Fn)(cl yl:dM)(N:Nat):dM:=λg args h=>
 match p g with
 |none=>none
 |some fn=>
  if args.length=fn.nargs then
   match run cl yl N none fn.body (Af fn args) h with
   |some (.norm,vars,dfs,h)|some (.ret,vars,dfs,h)=>
    match Dp p cl dfs h with
    |some h=>(cI (fn.results.map (Ch vars h))).map λvs=>(Js vs,h)
    |none=>none
   |_=>none
  else none
def vG (cl yl:dM)(N:Nat):dM:=λid args h=>
 match h.get id with
 |some (.loop r)=>
  if args.length=r.pars.length then
   match run cl yl N (some id) r.assign ((r.pars.zip args).foldl (λvs q=>vs.set q.1 q.2) r.vars) h with
   |some (.norm,vars,_,h)=>
    match h.get id with
    |some (.loop r2)=>
     if r2.st= .ready then
      match run cl yl N (some id) r.body vars (h.set id (some (.loop {r2 with st:= .busy}))) with
      |some (e,_,_,h)=>
       match h.get id with
       |some (.loop r3)=>
        (match e with
        | .norm=>some (.bool true,h.set id (some (.loop {r3 with st:= .ready,pend:=none})))
        |e=>some (.bool false,h.set id (some (.loop {r3 with st:= .done,pend:=some e}))))
       |_=>none
      |none=>none
     else none
    |_=>none
   |_=>none
  else none
 |_=>none
def jO (p:Nat->Option Fn)(N f:Nat):dM×dM:=
 Nat.rec (λ_ _ _=>none,λ_ _ _=>none) (λ_ q=>(Bf p q.1 q.2 N,vG q.1 q.2 N)) f
def aeX (p:Nat->Option Fn)(N f:Nat):dM:=(jO p N f).1
theorem AF (p:Nat->Option Fn)(N:Nat):jO p N 0=(λ_ _ _=>none,λ_ _ _=>none):=rfl
theorem qS (p:Nat->Option Fn)(N f:Nat):jO p N (f+1)=(Bf p (jO p N f).1 (jO p N f).2 N,vG (jO p N f).1 (jO p N f).2 N):=rfl
end
end Go.Ay
