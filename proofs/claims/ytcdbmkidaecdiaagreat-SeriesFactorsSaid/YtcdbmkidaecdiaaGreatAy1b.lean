/- The evaluator: calls by levels, loops by fuel, all else by recursion on the code. -/
import Derived.Test.YtcdbmkidaecdiaaGreatAy1
namespace Go.Ay
noncomputable section
def aiC (ρ:X->V)(h:H)(x:X):Option (V×H):=some (ρ x,h)
def VX (ρ:X->V)(h:H)(c a b:X):Option (V×H):=match ρ c with| .bool t=>some (cond t (ρ a) (ρ b),h)|_=>none
def NT (h:H)(o:Option V):Option (V×H):=Option.rec none (λv=>some (v,h)) o
def aeD (ρ:X->V)(h:H)(op:BinOp)(k:IntKind)(x y:X):Option (V×H):=match ρ x,ρ y with
 | .int j a,.int j' b=>if j=k/\j'=k then NT h (DN op k a b) else none
 |_,_=>none
def ahE (ρ:X->V)(h:H)(neg:Bool)(x:X):Option (V×H):=match ρ x with
 | .aE=>some (.bool (!neg),h)
 | .sl .. | .emp _=>some (.bool neg,h)
 |_=>none
def aiA (ρ:X->V)(h:H)(x:X):Option (V×H):=match ρ x with| .bool a=>some (.bool (!a),h)|_=>none
def aeJ (ρ:X->V)(h:H)(x:X)(i:Nat):Option (V×H):=match ρ x with| .tup vs=>NT h (vs[i]?)|_=>none
def QR (ρ:X->V)(h:H)(x:X):Option (V×H):=match ρ x with
 | .aE=>some (.int .i64 0,h)
 | .emp _=>some (.int .i64 0,h)
 | .sl _ _ len _=>some (.int .i64 (len:Int),h)
 |_=>none
def ldX (h:H)(agg:Bool)(n:Nat)(v:V):Option V:=match v with
 | .ptr id off=>match h.Qb id with
  |some (.cells _ vs)=>match NX vs off n with
   |some ws=>cond agg (some (.agg ws)) (match ws with| [v]=>some v|_=>none)
   |none=>none
  |_=>none
 |_=>none
def fLd (ρ:X->V)(h:H)(agg:Bool)(n:Nat)(x:X):Option (V×H):=NT h (ldX h agg n (ρ x))
def Si (h:H)(id off:Nat)(ws:List V):Option H:=match h.Qb id with
 |some (.cells false vs)=>match ZA off ws vs with
  |some vs'=>some (h.Mm id (some (.cells false vs')))
  |none=>none
 |_=>none
def fSt (ρ:X->V)(h:H)(n:Nat)(x y:X):Option (V×H):=match ρ x with
 | .ptr id off=>if (ρ y).cells.length=n/\(ρ y).cells.all V.one then (match Si h id off (ρ y).cells with|some h'=>some (V.undef,h')|none=>none) else none
 |_=>none
def EI (n:Int):Option Nat:=Int.rec (λa=>some a) (λ_=>none) n
def agA (ρ:X->V)(h:H)(sz:Nat)(x i:X):Option (V×H):=match ρ x,ρ i with
 | .sl id off len _,.int _ n=>(match EI n with|some k=>cond (Nat.blt k len) (some (.ptr id (off+k*sz),h)) none|none=>none)
 |_,_=>none
def afS (ρ:X->V)(h:H)(n sz:Nat)(x i:X):Option (V×H):=match ρ x,ρ i with
 | .ptr id off,.int _ z=>(match EI z with|some k=>cond (Nat.blt k n) (some (.ptr id (off+k*sz),h)) none|none=>none)
 |_,_=>none
def aiB (ρ:X->V)(h:H)(off:Nat)(x:X):Option (V×H):=match ρ x with| .ptr id o=>some (.ptr id (o+off),h)|_=>none
def QP (ρ:X->V)(h:H)(agg:Bool)(off n:Nat)(x:X):Option (V×H):=match ρ x with
 | .agg vs=>cond agg (match NX vs off n with|some ws=>some (.agg ws,h)|none=>none) (NT h (vs[off]?))
 |_=>none
def ahU (ρ:X->V)(h:H)(f:Nat)(fs cs:List X):Option (V×H):=some (.fn f (fs.map ρ) (cs.map ρ),h)
def TL (h:H)(o:Ob):H:=H.rec (λt n=>⟨Tr.Mm (n+1) t n (some o),n+1⟩) h
theorem GY (h:H)(o:Ob):TL h o=h.new o:=by
 cases h;show H.mk _ _=_;rw[←Tr.qP];rfl
def agE (h:H)(zero:List V):Option (V×H):=some (.ptr h.next 0,TL h (.cells false zero))
def aiK (ρ:X->V)(h:H)(x:X):Option (V×H):=match ρ x with| .ptr id off=>some (.ptr id off,h)|_=>none
def aeC (h:H)(id off n:Nat):Option (List V):=match h.Qb id with
 |some (.cells _ vs)=>NX vs off n
 |_=>none
theorem ZT (h:H)(id off n:Nat):aeC h id off n=h.row id off n:=by
 unfold aeC H.row;rw[H.sQ]
 cases h.get id with
 |none=>rfl
 |some o=>cases o<;>simp only[Ux]
def Wb (h:H)(sz:Nat):V->Option (List V)
 | .aE=>some []
 | .emp _=>some []
 | .sl id off len _=>aeC h id off (len*sz)
 |_=>none
theorem Rz (h:H)(sz:Nat)(v:V):Wb h sz v=h.slice sz v:=by
 cases v<;>simp only[Wb,H.slice,ZT]
def OU (l m:List V):List V:=List.rec m (λv _ ih=>v::ih) l
theorem FH: ∀(l m:List V),OU l m=l++m
 | [],_=>rfl
 |v::l,m=>by show v::OU l m=_;rw[FH l m];rfl
def US (h:H)(sz bytes:Nat)(x:V)(m:Nat)(ys:List V):Option (V×H):=
 match sW x with
 |some n=>
  match Wb h sz x with
  |some xs=>
  if m=0 then some (x,h) else
  cond (Nat.ble ((2*(n+m)+1000)*bytes) 281474976710656&&Nat.blt (n+m) 4611686018427387904) (
   match x with
   | .sl id off len (.kn c)=>
    cond (Nat.ble (len+m) c) (match Si h id (off+len*sz) ys with
     |some h'=>some (.sl id off (len+m) (.kn c),h')
     |none=>none)
    (some (.sl h.next 0 (n+m) (.un sz),TL h (.cells false (OU xs ys))))
   | .sl id _ _ (.un e)=>
    match h.Qb id with
    |some (.cells false _)=>cond (Nat.beq e sz) (some (.sl h.next 0 (n+m) (.un sz),TL (h.Mm id none) (.cells false (OU xs ys)))) none
    |_=>none
   | .emp _=>none
   |_=>some (.sl h.next 0 (n+m) (.un sz),TL h (.cells false (OU xs ys)))) none
  |none=>none
 |none=>none
theorem KW (h:H)(id off:Nat)(ws:List V):Si h id off ws=h.put id off ws:=by
 unfold Si H.put;simp only[H.sQ,Uv,H.qP]
 cases h.get id with
 |none=>rfl
 |some o=>cases o with
  |cells ro vs=>cases ro<;>simp only<;>cases putAt vs off ws<;>rfl
  |_=>rfl
theorem OA (h:H)(sz bytes:Nat)(x:V)(m:Nat)(i:List V):US h sz bytes x m i=yB h sz bytes x m i:=by
 unfold US yB;rw[Rz]
 cases hn:sW x with
 |none=>rfl
 |some n=>
  cases hs:h.slice sz x with
  |none=>rfl
  |some xs=>
   simp only
   by_cases f:m=0
   ·simp [f]
   ·simp only[f,if_false]
    have j:(Nat.ble ((2*(n+m)+1000)*bytes) 281474976710656&&Nat.blt (n+m) 4611686018427387904)=decide ((2*(n+m)+1000)*bytes<=2^48/\n+m<2^62):=by
     rw[Py];simp only[vN,Nat.ble_eq,Nat.blt_eq,decide_eq_true_eq]
    rw[j]
    by_cases d:(2*(n+m)+1000)*bytes<=2^48/\n+m<2^62
    ·rw[bF d,decide_eq_true d]
     simp only[cond_true,GY,H.qP,H.sQ,FH,KW]
     cases x with
     |sl id off len cap=>
      cases cap with
      |kn c=>
       simp only
       by_cases a:len+m<=c
       ·rw[bF a,(Nat.ble_eq).mpr a];rfl
       ·rw[bI a,show Nat.ble (len+m) c=false from by
         cases h9:Nat.ble (len+m) c with
         |false=>rfl
         |true=>exact absurd ((Nat.ble_eq).mp h9) a];rfl
      |un e=>
       simp only
       cases h.get id with
       |none=>rfl
       |some o=>cases o with
        |cells ro vs=>cases ro with
         |true=>rfl
         |false=>
          simp only
          by_cases b:e=sz
          ·rw[bF b,(Nat.beq_eq).mpr b];rfl
          ·rw[bI b,show Nat.beq e sz=false from by
            cases h9:Nat.beq e sz with
            |false=>rfl
            |true=>exact absurd ((Nat.beq_eq).mp h9) b];rfl
        |_=>rfl
     |_=>rfl
    ·rw[bI d,decide_eq_false d];rfl
def aeK (ρ:X->V)(h:H)(sz bytes:Nat)(x y:X):Option (V×H):=match sW (ρ y) with
 |some m=>match Wb h sz (ρ y) with
  |some ys=>US h sz bytes (ρ x) m ys
  |none=>none
 |none=>none
def evX (ρ:X->V)(h:H)(i:I):Option (V×H):=
 I.rec (motive:=λ_=>Option (V×H))
  (aiC ρ h) (VX ρ h) (aeD ρ h) (λa b c d=>cI ρ h (.shf a b c d)) (λa b c=>cI ρ h (.beq a b c)) (ahE ρ h) (aiA ρ h) (λk x=>cI ρ h (.neg k x)) (λk x=>cI ρ h (.conv k x))
  (QP ρ h) (aeJ ρ h) (QR ρ h) (λx=>cI ρ h (.lenm x)) (λx=>cI ρ h (.caps x)) (λm xs=>cI ρ h (.mm m xs)) (fLd ρ h) (fSt ρ h) (agA ρ h) (aiB ρ h)
  (λa b c d e=>cI ρ h (.slc a b c d e)) (λa b c d e=>cI ρ h (.mks a b c d e)) (agE h) (λx=>cI ρ h (.box x)) (λz ps=>cI ρ h (.bld z ps)) (λa b c d=>cI ρ h (.bls a b c d))
  (aeK ρ h) (λa b c d e=>cI ρ h (.apz a b c d e)) (λa b c=>cI ρ h (.cpy a b c)) (ahU ρ h) (cI ρ h .mkm) (λa b c d=>cI ρ h (.lkp a b c d)) (λa b c=>cI ρ h (.mset a b c)) (aiK ρ h)
  (afS ρ h) (λx=>cI ρ h (.cvs x)) (λt x=>cI ρ h (.mif t x)) (λa b=>cI ρ h (.mkw a b)) (λs a b c d=>cI ρ h (.lkw s a b c d)) (λs a b c=>cI ρ h (.msw s a b c)) (λs a b c=>cI ρ h (.ent s a b c)) (λa b c=>cI ρ h (.ens a b c)) (λa b=>cI ρ h (.six a b)) (λa b c=>cI ρ h (.seq a b c)) (λa b=>cI ρ h (.sad a b)) (λa=>cI ρ h (.cir a)) (λa b c=>cI ρ h (.clr a b c)) (λa b c d e=>cI ρ h (.sla a b c d e)) none i
theorem Fp (h:H)(o:Option V):NT h o=o.map (·,h):=by cases o<;>rfl
theorem afA (h:H)(agg:Bool)(n:Nat)(v:V):ldX h agg n v=QW h agg n v:=by
 unfold ldX QW H.row
 cases v with
 |ptr id off=>
  simp only[H.sQ,Ux]
  cases h.get id with
  |none=>rfl
  |some o=>cases o with
   |cells ro vs=>simp only;cases sub vs off n with
    |none=>rfl
    |some ws=>cases agg<;>rfl
   |_=>rfl
 |_=>rfl
theorem SX (h:H)(id off:Nat)(ws:List V):Si h id off ws=h.put id off ws:=by
 unfold Si H.put;simp only[H.sQ,Uv,H.qP]
 cases h.get id with
 |none=>rfl
 |some o=>cases o with
  |cells ro vs=>cases ro<;>simp only<;>cases putAt vs off ws<;>rfl
  |_=>rfl
theorem aeX (ρ:X->V)(h:H)(i:I):evX ρ h i=cI ρ h i:=by
 cases i with
 |pick c a b=>
         show VX ρ h c a b=_;simp only[VX,cI];cases ρ c<;>try rfl
         rename_i t;cases t<;>rfl
 |bin op k x y=>show aeD ρ h op k x y=_;simp only[aeD,cI,Fp,LU];rfl
 |ext x i=>show aeJ ρ h x i=_;simp only[aeJ,cI,Fp];rfl
 |lens x=>show QR ρ h x=_;simp only[QR,cI];cases ρ x<;>rfl
 |ld agg n x=>show fLd ρ h agg n x=_;simp only[fLd,cI,Fp,afA]
 |st n x y=>
  show fSt ρ h n x y=_;simp only[fSt,cI,SX];cases ρ x<;>try rfl
  simp only;split<;>try rfl
  cases h.put _ _ _<;>rfl
 |ixa sz x i=>
  show agA ρ h sz x i=_;simp only[agA,cI,Dz];cases ρ x<;>try rfl
  cases ρ i<;>try rfl
  rename_i id j len m k n;simp only
  cases n with
  |ofNat a=>
   simp only[EI]
   by_cases f:a<len
   ·rw[(Nat.blt_eq).mpr f]
    have d:(0:Int)<=Int.ofNat a/\Int.ofNat a<(len:Int):=⟨Int.natCast_nonneg a,by simpa using f⟩
    rw[bF d];rfl
   ·have l:Nat.blt a len=false:=by
     cases h4:Nat.blt a len with
     |false=>rfl
     |true=>exact absurd ((Nat.blt_eq).mp h4) f
    rw[l];have d: ¬((0:Int)<=Int.ofNat a/\Int.ofNat a<(len:Int)):=λh=>f (by simpa using h.2)
    rw[bI d];rfl
  |negSucc a=>
   have d: ¬((0:Int)<=Int.negSucc a/\Int.negSucc a<(len:Int)):=λh=>by have:=h.1;omega
   rw[bI d];rfl
 |ixd len sz x i=>
  show afS ρ h len sz x i=_;simp only[afS,cI,KZ];cases ρ x<;>try rfl
  cases ρ i<;>try rfl
  rename_i id j k n;simp only
  cases n with
  |ofNat a=>
   simp only[EI]
   by_cases f:a<len
   ·rw[(Nat.blt_eq).mpr f]
    have d:(0:Int)<=Int.ofNat a/\Int.ofNat a<(len:Int):=⟨Int.natCast_nonneg a,by simpa using f⟩
    rw[bF d];rfl
   ·have l:Nat.blt a len=false:=by
     cases h4:Nat.blt a len with
     |false=>rfl
     |true=>exact absurd ((Nat.blt_eq).mp h4) f
    rw[l];have d: ¬((0:Int)<=Int.ofNat a/\Int.ofNat a<(len:Int)):=λh=>f (by simpa using h.2)
    rw[bI d];rfl
  |negSucc a=>
   have d: ¬((0:Int)<=Int.negSucc a/\Int.negSucc a<(len:Int)):=λh=>by have:=h.1;omega
   rw[bI d];rfl
 |alc z=>show agE h z=_;simp only[agE,cI,GY]
 |app sz b x y=>
  show aeK ρ h sz b x y=_;simp only[aeK,cI,Rz,OA];cases sW (ρ y)<;>cases h.slice sz (ρ y)<;>rfl
 |part agg j n x=>
  show QP ρ h agg j n x=_;simp only[QP,cI,Ux,Fp];cases ρ x<;>try rfl
  cases agg
  ·rfl
  ·simp only[cond_true,if_true]
   cases sub _ _ _<;>rfl
 |_=>rfl
abbrev dP:=Nat->List V->H->Option (V×H)
def Kg (cl:dP)(g:Nat)(vs:List V)(h:H):Option (V×H):=
 cond (vs.all V.Iu) (match cl g vs ⟨.lf,0⟩ with|some (v,_)=>cond v.Iu (some (v,h)) none|none=>none) none
def Lh (cl yl:dP)(vars loc:List V)(h:H)(a:dR):Option (V×H):=
 dR.rec (motive:=λ_=>Option (V×H)) (evX (GR vars loc) h) (λg args=>cl g (args.map (GR vars loc)) h)
  (λx args=>match GR vars loc x with
   | .fn g fs cs=>cl g (fs++args.map (GR vars loc)++cs) h
   | .yl id=>yl id (args.map (GR vars loc)) h
   |_=>none)
  (λg args=>Kg cl g (args.map (GR vars loc)) h)
  (λg t x args=>match GR vars loc x with
   | .ifc u v=>cond (Nat.beq u t) (cl g (v::args.map (GR vars loc)) h) none
   |_=>none) a
theorem sX (c d:dP)(a b:List V)(h:H)(i:I):Lh c d a b h (.op i)=cI (xv a b) h i:=by
 show evX (GR a b) h i=_;rw[aeX,Ej]
theorem tS (c d:dP)(a b:List V)(h:H)(g:Nat)(args:List X):Lh c d a b h (.call g args)=c g (args.map (xv a b)) h:=by
 show c g (args.map (GR a b)) h=_;rw[Ej]
theorem rF (c yl:dP)(a b:List V)(h:H)(x:X)(args:List X):Lh c yl a b h (.callv x args)=match xv a b x with
   | .fn g fs cs=>c g (fs++args.map (xv a b)++cs) h
   | .yl id=>yl id (args.map (xv a b)) h
   |_=>none:=by
 rw[←Ej];rfl
theorem rH (c d:dP)(a b:List V)(h:H)(g t:Nat)(x:X)(args:List X):Lh c d a b h (.calli g t x args)=match xv a b x with
   | .ifc u v=>cond (Nat.beq u t) (c g (v::args.map (xv a b)) h) none
   |_=>none:=by
 rw[←Ej];rfl
theorem mB (c d:dP)(a b:List V)(h:H)(g:Nat)(args:List X):Lh c d a b h (.callp g args)=Kg c g (args.map (xv a b)) h:=by
 show Kg c g (args.map (GR a b)) h=_;rw[Ej]
theorem yL {b:dP}{g:Nat}{vs:List V}{h h':H}{v:V}(a:Kg b g vs h=some (v,h')):h'=h/\vs.all V.Iu=true/\v.Iu=true/\ ∃h2,b g vs ⟨.lf,0⟩=some (v,h2):=by
 unfold Kg at a
 cases h1:vs.all V.Iu with
 |false=>rw[h1] at a;cases a
 |true=>
  rw[h1] at a;simp only[cond_true] at a;split at a
  ·rename_i w h2 c
   cases h3:w.Iu with
   |false=>rw[h3] at a;cases a
   |true=>rw[h3] at a;cases a;exact⟨rfl,rfl,h3,h2,c⟩
  ·cases a
def Ch (vars loc:List V)(g:Option (X×Bool)):Option Bool:=
 match g with
 |none=>some true
 |some (x,b)=>match GR vars loc x with| .bool a=>some (a==b)| .tup []=>some false|_=>none
theorem Pt (a b:List V)(g:Option (X×Bool)):Ch a b g=vQ a b g:=by
 unfold Ch vQ;rw[Ej];rfl
def Ho {α:Type}(d:D)(vars loc:List V)(v:V)(k:List V->List V->α):α:=
 D.rec (λi=>k (OF vars i v) loc) (k vars (v::loc)) (k vars loc) d
theorem Xu {α:Type}(d:D)(a b:List V)(v:V)(k:List V->List V->α):Ho d a b v k=k (lX d a b v).1 (lX d a b v).2:=by
 cases d with
 |v i=>show k (OF a i v) b=_;rw[HI];rfl
 |l=>rfl
 |n=>rfl
def vA (cl yl:dP)(its:List It):List V->List V->H->Option (List V×H):=
 List.rec (λvars _ h=>some (vars,h)) (λit _ ih vars loc h=>
  match Ch vars loc it.g with
  |some true=>match Lh cl yl vars loc h it.a with
   |some (v,h)=>Ho it.d vars loc v λvars loc=>ih vars loc h
   |none=>none
  |some false=>Ho it.d vars loc .undef λvars loc=>ih vars loc h
  |none=>none) its
theorem Jb (c d:dP)(a b:List V)(h:H):vA c d [] a b h=some (a,h):=rfl
theorem nL (i j:dP)(it:It)(f:List It)(b c:List V)(h:H):vA i j (it::f) b c h=
  match vQ b c it.g with
  |some true=>match Lh i j b c h it.a with
   |some (v,h)=>vA i j f (lX it.d b c v).1 (lX it.d b c v).2 h
   |none=>none
  |some false=>vA i j f (lX it.d b c .undef).1 (lX it.d b c .undef).2 h
  |none=>none:=by
 rw[←Pt]
 show (match Ch b c it.g with
  |some true=>match Lh i j b c h it.a with
   |some (v,h)=>Ho it.d b c v λb c=>vA i j f b c h
   |none=>none
  |some false=>Ho it.d b c .undef λb c=>vA i j f b c h
  |none=>none)=_
 simp only[Xu]
def wZ (cl yl:dP)(base:Nat)(xs:List AI):List V->Log->H->Option (List V×H):=
 List.rec (λvars _ h=>some (vars,h)) (λx _ ih vars log h=>
  match Ch vars [] x.it.g with
  |some true=>
   match cond x.al (Oq vars h (base+x.i) x.it.a) (Lh cl yl vars [] h x.it.a) with
   |some (v,h)=>if rI x.cks log h then Ho x.it.d vars [] v λvars' _=>ih vars' (Kz x vars v log) h else none
   |none=>none
  |some false=>if rI x.cks log h then Ho x.it.d vars [] .undef λvars' _=>ih vars' log h else none
  |none=>none) xs
theorem Ik (c d:dP)(base:Nat)(a:List V)(b:Log)(h:H):wZ c d base [] a b h=some (a,h):=rfl
theorem jK (j k:dP)(base:Nat)(x:AI)(xs:List AI)(b:List V)(c:Log)(h:H):wZ j k base (x::xs) b c h=
  match vQ b [] x.it.g with
  |some true=>
   match (if x.al then Oq b h (base+x.i) x.it.a else Lh j k b [] h x.it.a) with
   |some (v,h)=>if rI x.cks c h then wZ j k base xs (lX x.it.d b [] v).1 (Kz x b v c) h else none
   |none=>none
  |some false=>if rI x.cks c h then wZ j k base xs (lX x.it.d b [] .undef).1 c h else none
  |none=>none:=by
 rw[←Pt]
 show (match Ch b [] x.it.g with
  |some true=>
   match cond x.al (Oq b h (base+x.i) x.it.a) (Lh j k b [] h x.it.a) with
   |some (v,h)=>if rI x.cks c h then Ho x.it.d b [] v λf _=>wZ j k base xs f (Kz x b v c) h else none
   |none=>none
  |some false=>if rI x.cks c h then Ho x.it.d b [] .undef λf _=>wZ j k base xs f c h else none
  |none=>none)=_
 simp only[Xu,Bool.cond_eq_ite]
abbrev Zd:=Option (E×List V×MZ×H)
def Bg (step:List V->H->Zd)(n:Nat):List V->H->Zd:=
 Nat.rec (λ_ _=>none) (λ_ ih vars h=>match step vars h with
  |some (.norm,vars,dfs,h)=>match ih vars h with
   |some (e,vars,dfs2,h)=>some (e,vars,dfs2++dfs,h)
   |none=>none
  |r=>r) n
theorem Nk (step:List V->H->Zd)(a:List V)(h:H):Bg step 0 a h=none:=rfl
theorem tD (step:List V->H->Zd)(n:Nat)(a:List V)(h:H):Bg step (n+1) a h=match step a h with
  |some (.norm,a,dfs,h)=>match Bg step n a h with
   |some (e,a,dfs2,h)=>some (e,a,dfs2++dfs,h)
   |none=>none
  |r=>r:=rfl
def adP (a b:List V->H->Zd)(vars:List V)(h:H):Zd:=match a vars h with
 |some (.norm,vars,dfs,h)=>match b vars h with
  |some (e,vars,dfs2,h)=>some (e,vars,dfs2++dfs,h)
  |none=>none
 |r=>r
def afM (x:X)(a b:List V->H->Zd)(vars:List V)(h:H):Zd:=match GR vars [] x with
 | .bool true=>a vars h
 | .bool false=>b vars h
 |_=>none
def SY (id:Nat)(a:List V->H->Zd)(vars:List V)(h:H):Zd:=match a vars h with
 |some (.exit n,vars,dfs,h)=>if n=id then some (.norm,vars,dfs,h) else some (.exit n,vars,dfs,h)
 |r=>r
def aeB (cl yl:dP)(its:List It)(vars:List V)(h:H):Zd:=match vA cl yl its vars [] h with
 |some (vars,h)=>some (.norm,vars, [],h)
 |none=>none
def adV (cl yl:dP)(k nl:Nat)(its:List AI)(vars:List V)(h:H):Zd:=
 match wZ cl yl h.next its (vars++List.replicate nl .unk) [] {h with next:=h.next+k} with
 |some (vs,h)=>some (.norm,vs.take vars.length, [],h)
 |none=>none
def Lc (cl yl:dP)(rd:Option Nat)(its:List It)(x:X)(args:List X)(vars:List V)(h:H):Zd:=
 if rd.isSome then none else match vA cl yl its vars [] h with
  |some (vars,h)=>match xv vars [] x with
   | .fn g fs cs=>some (.norm,vars, [(g,fs++args.map (xv vars [])++cs)],h)
   |_=>none
  |none=>none
def zS (cl:dP)(rd:Option Nat)(x:X)(pars:List Nat)(assign body:C)(vars:List V)(h:H):Zd:=
 match xv vars [] x with
 | .fn g fs cs=>
  if LR rd h then
  match cl g (fs++ .yl h.next::cs) (h.new (.loop {vars,pars,assign,body,st:= .ready,pend:=none})) with
  |some (_,h')=>
   match h'.get h.next with
   |some (.loop r)=>
    if r.st= .busy then none else
    some (r.pend.getD .norm,vars, [],h'.set h.next (some (.loop {r with st:= .out})))
   |_=>none
  |none=>none
  else none
 |_=>none
def run (cl yl:dP)(N:Nat)(rd:Option Nat)(c:C):List V->H->Zd:=
 C.rec (motive:=λ_=>List V->H->Zd) (λvars h=>some (.norm,vars, [],h)) (aeB cl yl) (adV cl yl) (Lc cl yl rd) (λ_ _ a b=>adP a b) (λx _ _ a b=>afM x a b) (λid _ a=>SY id a)
  (λ_ a=>Bg a N) (λn vars h=>some (.exit n,vars, [],h)) (λvars h=>some (.ret,vars, [],h)) (λ_ a=>a) (λx pars as bd _ _=>zS cl rd x pars as bd) (λ_ _=>none) c
section
variable (cl yl:dP) (N:Nat) (rd:Option Nat) (vars:List V) (h:H)
theorem Ez:run cl yl N rd .skip vars h=some (.norm,vars, [],h):=rfl
theorem Va (a:List It):run cl yl N rd (.reg a) vars h=match vA cl yl a vars [] h with
 |some (vars,h)=>some (.norm,vars, [],h)
 |none=>none:=rfl
theorem Ur (k b:Nat)(a:List AI):run cl yl N rd (.any k b a) vars h=match wZ cl yl h.next a (vars++List.replicate b .unk) [] {h with next:=h.next+k} with
 |some (vs,h)=>some (.norm,vs.take vars.length, [],h)
 |none=>none:=rfl
theorem Xd (a:List It)(x:X)(args:List X):run cl yl N rd (.regd a x args) vars h=Lc cl yl rd a x args vars h:=rfl
theorem run_seq (a b:C):run cl yl N rd (.seq a b) vars h=match run cl yl N rd a vars h with
 |some (.norm,vars,dfs,h)=>match run cl yl N rd b vars h with
  |some (e,vars,dfs2,h)=>some (e,vars,dfs2++dfs,h)
  |none=>none
 |r=>r:=rfl
theorem run_ite (x:X)(a b:C):run cl yl N rd (.ite x a b) vars h=match xv vars [] x with
 | .bool true=>run cl yl N rd a vars h
 | .bool false=>run cl yl N rd b vars h
 |_=>none:=by rw[←Ej];rfl
theorem Iq (id:Nat)(a:C):run cl yl N rd (.block id a) vars h=match run cl yl N rd a vars h with
 |some (.exit n,vars,dfs,h)=>if n=id then some (.norm,vars,dfs,h) else some (.exit n,vars,dfs,h)
 |r=>r:=rfl
theorem Nc (a:C):run cl yl N rd (.loop a) vars h=Bg (run cl yl N rd a) N vars h:=rfl
theorem Og (n:Nat):run cl yl N rd (.exit n) vars h=some (.exit n,vars, [],h):=rfl
theorem Vg:run cl yl N rd .ret vars h=some (.ret,vars, [],h):=rfl
theorem Ja (a:C):run cl yl N rd (.scope a) vars h=run cl yl N rd a vars h:=rfl
theorem Jd (x:X)(c:List Nat)(a b:C):run cl yl N rd (.range x c a b) vars h=zS cl rd x c a b vars h:=rfl
end
def Dt (p:Nat->Option Fn)(cl:dP)(dfs:MZ):H->Option H:=
 List.rec (λh=>some h) (λd _ ih h=>match p d.1 with
  |some fn=>if fn.body.Tj then (match cl d.1 d.2 h with|some (_,h)=>ih h|none=>none) else none
  |none=>none) dfs
theorem xF (p:Nat->Option Fn)(cl:dP)(h:H):Dt p cl [] h=some h:=rfl
theorem Pn (p:Nat->Option Fn)(cl:dP)(g:Nat)(args:List V)(r:MZ)(h:H):Dt p cl ((g,args)::r) h=match p g with
  |some fn=>if fn.body.Tj then (match cl g args h with|some (_,h)=>Dt p cl r h|none=>none) else none
  |none=>none:=rfl
def Af (p:Nat->Option Fn)(cl yl:dP)(N:Nat):dP:=λg args h=>
 match p g with
 |none=>none
 |some fn=>
  if args.length=fn.nargs then
   match run cl yl N none fn.body (Fk fn args) h with
   |some (.norm,vars,dfs,h)|some (.ret,vars,dfs,h)=>
    match Dt p cl dfs h with
    |some h=>(cH (fn.results.map (Ct vars h))).map λvs=>(Jm vs,h)
    |none=>none
   |_=>none
  else none
def vG (cl yl:dP)(N:Nat):dP:=λid args h=>
 match h.get id with
 |some (.loop r)=>
  if args.length=r.pars.length then
   match run cl yl N (some id) r.assign ((r.pars.zip args).foldl (λvs q=>vs.set q.1 q.2) r.vars) h with
   |some (.norm,vars,_,h)=>
    match h.get id with
    |some (.loop r2)=>
     if r2.st= .ready then
      match run cl yl N (some id) r.body vars (h.set id (some (.loop {r2 with st:= .busy}))) with
      |some (e,_,_,h)=>
       match h.get id with
       |some (.loop r3)=>
        (match e with
        | .norm=>some (.bool true,h.set id (some (.loop {r3 with st:= .ready,pend:=none})))
        |e=>some (.bool false,h.set id (some (.loop {r3 with st:= .done,pend:=some e}))))
       |_=>none
      |none=>none
     else none
    |_=>none
   |_=>none
  else none
 |_=>none
def jX (p:Nat->Option Fn)(N f:Nat):dP×dP:=
 Nat.rec (λ_ _ _=>none,λ_ _ _=>none) (λ_ q=>(Af p q.1 q.2 N,vG q.1 q.2 N)) f
def agH (p:Nat->Option Fn)(N f:Nat):dP:=(jX p N f).1
theorem AA (p:Nat->Option Fn)(N:Nat):jX p N 0=(λ_ _ _=>none,λ_ _ _=>none):=rfl
theorem qU (p:Nat->Option Fn)(N f:Nat):jX p N (f+1)=(Af p (jX p N f).1 (jX p N f).2 N,vG (jX p N f).1 (jX p N f).2 N):=rfl
end
end Go.Ay
