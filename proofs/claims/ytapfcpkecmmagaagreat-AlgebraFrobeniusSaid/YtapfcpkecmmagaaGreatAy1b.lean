/- The evaluator: calls by levels, loops by fuel, all else by recursion on the code. -/
import Derived.Test.YtapfcpkecmmagaaGreatAy1
namespace Go.Ay
noncomputable section
def Zc (ρ:X->V)(h:H)(x:X):Option (V×H):=some (ρ x,h)
def Lr (ρ:X->V)(h:H)(c a b:X):Option (V×H):=match ρ c with| .bool t=>some (cond t (ρ a) (ρ b),h)|_=>none
def Pj (h:H)(o:Option V):Option (V×H):=Option.rec none (λv=>some (v,h)) o
def Xf (ρ:X->V)(h:H)(op:BinOp)(k:IntKind)(x y:X):Option (V×H):=match ρ x,ρ y with
 | .int j a,.int j' b=>if j=k/\j'=k then Pj h (Fv op k a b) else none
 |_,_=>none
def Xu (ρ:X->V)(h:H)(neg:Bool)(x:X):Option (V×H):=match ρ x with
 | .aB=>some (.bool (!neg),h)
 | .sl .. | .emp _=>some (.bool neg,h)
 |_=>none
def Zk (ρ:X->V)(h:H)(x:X):Option (V×H):=match ρ x with| .bool a=>some (.bool (!a),h)|_=>none
def Wk (ρ:X->V)(h:H)(x:X)(i:Nat):Option (V×H):=match ρ x with| .tup vs=>Pj h (vs[i]?)|_=>none
def Qf (ρ:X->V)(h:H)(x:X):Option (V×H):=match ρ x with
 | .aB=>some (.int .i64 0,h)
 | .emp _=>some (.int .i64 0,h)
 | .sl _ _ len _=>some (.int .i64 (len:Int),h)
 |_=>none
def Zn (h:H)(agg:Bool)(n:Nat)(v:V):Option V:=match v with
 | .ptr id off=>match h.xO id with
  |some (.cells _ vs)=>match Py vs off n with
   |some ws=>cond agg (some (.agg ws)) (match ws with| [v]=>some v|_=>none)
   |none=>none
  |_=>none
 |_=>none
def Yu (ρ:X->V)(h:H)(agg:Bool)(n:Nat)(x:X):Option (V×H):=Pj h (Zn h agg n (ρ x))
def zC (h:H)(id off:Nat)(ws:List V):Option H:=match h.xO id with
 |some (.cells false vs)=>match Ue off ws vs with
  |some vs'=>some (h.uX id (some (.cells false vs')))
  |none=>none
 |_=>none
def Ze (ρ:X->V)(h:H)(n:Nat)(x y:X):Option (V×H):=match ρ x with
 | .ptr id off=>if (ρ y).cells.length=n/\(ρ y).cells.all V.one then (match zC h id off (ρ y).cells with|some h'=>some (V.undef,h')|none=>none) else none
 |_=>none
def Hx (n:Int):Option Nat:=Int.rec (λa=>some a) (λ_=>none) n
def Xh (ρ:X->V)(h:H)(sz:Nat)(x i:X):Option (V×H):=match ρ x,ρ i with
 | .sl id off len _,.int _ n=>(match Hx n with|some k=>cond (Nat.blt k len) (some (.ptr id (off+k*sz),h)) none|none=>none)
 |_,_=>none
def Xi (ρ:X->V)(h:H)(n sz:Nat)(x i:X):Option (V×H):=match ρ x,ρ i with
 | .ptr id off,.int _ z=>(match Hx z with|some k=>cond (Nat.blt k n) (some (.ptr id (off+k*sz),h)) none|none=>none)
 |_,_=>none
def Zb (ρ:X->V)(h:H)(off:Nat)(x:X):Option (V×H):=match ρ x with| .ptr id o=>some (.ptr id (o+off),h)|_=>none
def Pz (ρ:X->V)(h:H)(agg:Bool)(off n:Nat)(x:X):Option (V×H):=match ρ x with
 | .agg vs=>cond agg (match Py vs off n with|some ws=>some (.agg ws,h)|none=>none) (Pj h (vs[off]?))
 |_=>none
def Zf (ρ:X->V)(h:H)(f:Nat)(fs cs:List X):Option (V×H):=some (.fn f (fs.map ρ) (cs.map ρ),h)
def Po (h:H)(o:Ob):H:=H.rec (λt n=>⟨Tr.uX (n+1) t n (some o),n+1⟩) h
theorem Ho (h:H)(o:Ob):Po h o=h.new o:=by
 cases h;show H.mk _ _=_;rw[←Tr.jV];rfl
def We (h:H)(zero:List V):Option (V×H):=some (.ptr h.next 0,Po h (.cells false zero))
def Zi (ρ:X->V)(h:H)(x:X):Option (V×H):=match ρ x with| .ptr id off=>some (.ptr id off,h)|_=>none
def Vy (h:H)(id off n:Nat):Option (List V):=match h.xO id with
 |some (.cells _ vs)=>Py vs off n
 |_=>none
theorem Th (h:H)(id off n:Nat):Vy h id off n=h.row id off n:=by
 unfold Vy H.row;rw[H.kW]
 cases h.get id with
 |none=>rfl
 |some o=>cases o<;>simp only[Am]
def Ag (h:H)(sz:Nat):V->Option (List V)
 | .aB=>some []
 | .emp _=>some []
 | .sl id off len _=>Vy h id off (len*sz)
 |_=>none
theorem zA (h:H)(sz:Nat)(v:V):Ag h sz v=h.slice sz v:=by
 cases v<;>simp only[Ag,H.slice,Th]
def Mx (l m:List V):List V:=List.rec m (λv _ ih=>v::ih) l
theorem Hw: ∀(l m:List V),Mx l m=l++m
 | [],_=>rfl
 |v::l,m=>by show v::Mx l m=_;rw[Hw l m];rfl
def My (h:H)(sz bytes:Nat)(x:V)(m:Nat)(ys:List V):Option (V×H):=
 match kM x with
 |some n=>
  match Ag h sz x with
  |some xs=>
  if m=0 then some (x,h) else
  cond (Nat.ble ((2*(n+m)+1000)*bytes) 281474976710656&&Nat.blt (n+m) 4611686018427387904) (
   match x with
   | .sl id off len (.kn c)=>
    cond (Nat.ble (len+m) c) (match zC h id (off+len*sz) ys with
     |some h'=>some (.sl id off (len+m) (.kn c),h')
     |none=>none)
    (some (.sl h.next 0 (n+m) (.un sz),Po h (.cells false (Mx xs ys))))
   | .sl id _ _ (.un e)=>
    match h.xO id with
    |some (.cells false _)=>cond (Nat.beq e sz) (some (.sl h.next 0 (n+m) (.un sz),Po (h.uX id none) (.cells false (Mx xs ys)))) none
    |_=>none
   | .emp _=>none
   |_=>some (.sl h.next 0 (n+m) (.un sz),Po h (.cells false (Mx xs ys)))) none
  |none=>none
 |none=>none
theorem Ih (h:H)(id off:Nat)(ws:List V):zC h id off ws=h.put id off ws:=by
 unfold zC H.put;simp only[H.kW,Ak,H.jV]
 cases h.get id with
 |none=>rfl
 |some o=>cases o with
  |cells ro vs=>cases ro<;>simp only<;>cases putAt vs off ws<;>rfl
  |_=>rfl
theorem Px (h:H)(sz bytes:Nat)(x:V)(m:Nat)(ys:List V):My h sz bytes x m ys=oE h sz bytes x m ys:=by
 unfold My oE;rw[zA]
 cases hn:kM x with
 |none=>rfl
 |some n=>
  cases hs:h.slice sz x with
  |none=>rfl
  |some xs=>
   simp only
   by_cases hm:m=0
   ·simp [hm]
   ·simp only[hm,if_false]
    have hb:(Nat.ble ((2*(n+m)+1000)*bytes) 281474976710656&&Nat.blt (n+m) 4611686018427387904)=decide ((2*(n+m)+1000)*bytes<=2^48/\n+m<2^62):=by
     rw[Bool.eq_iff_iff];simp only[Bool.and_eq_true,Nat.ble_eq,Nat.blt_eq,decide_eq_true_eq]
    rw[hb]
    by_cases hc:(2*(n+m)+1000)*bytes<=2^48/\n+m<2^62
    ·rw[if_pos hc,decide_eq_true hc]
     simp only[cond_true,Ho,H.jV,H.kW,Hw,Ih]
     cases x with
     |sl id off len cap=>
      cases cap with
      |kn c=>
       simp only
       by_cases hle:len+m<=c
       ·rw[if_pos hle,(Nat.ble_eq).mpr hle];rfl
       ·rw[if_neg hle,show Nat.ble (len+m) c=false from by
         cases h9:Nat.ble (len+m) c with
         |false=>rfl
         |true=>exact absurd ((Nat.ble_eq).mp h9) hle];rfl
      |un e=>
       simp only
       cases h.get id with
       |none=>rfl
       |some o=>cases o with
        |cells ro vs=>cases ro with
         |true=>rfl
         |false=>
          simp only
          by_cases he:e=sz
          ·rw[if_pos he,(Nat.beq_eq).mpr he];rfl
          ·rw[if_neg he,show Nat.beq e sz=false from by
            cases h9:Nat.beq e sz with
            |false=>rfl
            |true=>exact absurd ((Nat.beq_eq).mp h9) he];rfl
        |_=>rfl
     |_=>rfl
    ·rw[if_neg hc,decide_eq_false hc];rfl
def Xj (ρ:X->V)(h:H)(sz bytes:Nat)(x y:X):Option (V×H):=match kM (ρ y) with
 |some m=>match Ag h sz (ρ y) with
  |some ys=>My h sz bytes (ρ x) m ys
  |none=>none
 |none=>none
def Zl (ρ:X->V)(h:H)(i:I):Option (V×H):=
 I.rec (motive:=λ_=>Option (V×H))
  (Zc ρ h) (Lr ρ h) (Xf ρ h) (λa b c d=>cI ρ h (.shf a b c d)) (λa b c=>cI ρ h (.beq a b c)) (Xu ρ h) (Zk ρ h) (λk x=>cI ρ h (.neg k x)) (λk x=>cI ρ h (.conv k x))
  (Pz ρ h) (Wk ρ h) (Qf ρ h) (λx=>cI ρ h (.lenm x)) (λx=>cI ρ h (.caps x)) (λm xs=>cI ρ h (.mm m xs)) (Yu ρ h) (Ze ρ h) (Xh ρ h) (Zb ρ h)
  (λa b c d e=>cI ρ h (.slc a b c d e)) (λa b c d e=>cI ρ h (.mks a b c d e)) (We h) (λx=>cI ρ h (.box x)) (λz ps=>cI ρ h (.bld z ps)) (λa b c d=>cI ρ h (.bls a b c d))
  (Xj ρ h) (λa b c d e=>cI ρ h (.apz a b c d e)) (λa b c=>cI ρ h (.cpy a b c)) (Zf ρ h) (cI ρ h .mkm) (λa b c d=>cI ρ h (.lkp a b c d)) (λa b c=>cI ρ h (.mset a b c)) (Zi ρ h)
  (Xi ρ h) (λx=>cI ρ h (.cvs x)) (λt x=>cI ρ h (.mif t x)) (λa b=>cI ρ h (.mkw a b)) (λs a b c d=>cI ρ h (.lkw s a b c d)) (λs a b c=>cI ρ h (.msw s a b c)) (λs a b c=>cI ρ h (.ent s a b c)) (λa b c=>cI ρ h (.ens a b c)) (λa b=>cI ρ h (.six a b)) (λa b c=>cI ρ h (.seq a b c)) (λa b=>cI ρ h (.sad a b)) (λa=>cI ρ h (.cir a)) (λa b c=>cI ρ h (.clr a b c)) (λa b c d e=>cI ρ h (.sla a b c d e)) none i
theorem rT (h:H)(o:Option V):Pj h o=o.map (·,h):=by cases o<;>rfl
theorem Uy (h:H)(agg:Bool)(n:Nat)(v:V):Zn h agg n v=Pl h agg n v:=by
 unfold Zn Pl H.row
 cases v with
 |ptr id off=>
  simp only[H.kW,Am]
  cases h.get id with
  |none=>rfl
  |some o=>cases o with
   |cells ro vs=>simp only;cases sub vs off n with
    |none=>rfl
    |some ws=>cases agg<;>rfl
   |_=>rfl
 |_=>rfl
theorem Nk (h:H)(id off:Nat)(ws:List V):zC h id off ws=h.put id off ws:=by
 unfold zC H.put;simp only[H.kW,Ak,H.jV]
 cases h.get id with
 |none=>rfl
 |some o=>cases o with
  |cells ro vs=>cases ro<;>simp only<;>cases putAt vs off ws<;>rfl
  |_=>rfl
theorem Wu (ρ:X->V)(h:H)(i:I):Zl ρ h i=cI ρ h i:=by
 cases i with
 |pick c a b=>
         show Lr ρ h c a b=_;simp only[Lr,cI];cases ρ c<;>try rfl
         rename_i t;cases t<;>rfl
 |bin op k x y=>show Xf ρ h op k x y=_;simp only[Xf,cI,rT,Lc];rfl
 |ext x i=>show Wk ρ h x i=_;simp only[Wk,cI,rT];rfl
 |lens x=>show Qf ρ h x=_;simp only[Qf,cI];cases ρ x<;>rfl
 |ld agg n x=>show Yu ρ h agg n x=_;simp only[Yu,cI,rT,Uy]
 |st n x y=>
  show Ze ρ h n x y=_;simp only[Ze,cI,Nk];cases ρ x<;>try rfl
  simp only;split<;>try rfl
  cases h.put _ _ _<;>rfl
 |ixa sz x i=>
  show Xh ρ h sz x i=_;simp only[Xh,cI,Cr];cases ρ x<;>try rfl
  cases ρ i<;>try rfl
  rename_i id off len cap k n;simp only
  cases n with
  |ofNat a=>
   simp only[Hx]
   by_cases h1:a<len
   ·rw[(Nat.blt_eq).mpr h1]
    have h2:(0:Int)<=Int.ofNat a/\Int.ofNat a<(len:Int):=⟨Int.natCast_nonneg a,by simpa using h1⟩
    rw[if_pos h2];rfl
   ·have h3:Nat.blt a len=false:=by
     cases h4:Nat.blt a len with
     |false=>rfl
     |true=>exact absurd ((Nat.blt_eq).mp h4) h1
    rw[h3];have h2: ¬((0:Int)<=Int.ofNat a/\Int.ofNat a<(len:Int)):=λh=>h1 (by simpa using h.2)
    rw[if_neg h2];rfl
  |negSucc a=>
   have h2: ¬((0:Int)<=Int.negSucc a/\Int.negSucc a<(len:Int)):=λh=>by have:=h.1;omega
   rw[if_neg h2];rfl
 |ixd len sz x i=>
  show Xi ρ h len sz x i=_;simp only[Xi,cI,Ju];cases ρ x<;>try rfl
  cases ρ i<;>try rfl
  rename_i id off k n;simp only
  cases n with
  |ofNat a=>
   simp only[Hx]
   by_cases h1:a<len
   ·rw[(Nat.blt_eq).mpr h1]
    have h2:(0:Int)<=Int.ofNat a/\Int.ofNat a<(len:Int):=⟨Int.natCast_nonneg a,by simpa using h1⟩
    rw[if_pos h2];rfl
   ·have h3:Nat.blt a len=false:=by
     cases h4:Nat.blt a len with
     |false=>rfl
     |true=>exact absurd ((Nat.blt_eq).mp h4) h1
    rw[h3];have h2: ¬((0:Int)<=Int.ofNat a/\Int.ofNat a<(len:Int)):=λh=>h1 (by simpa using h.2)
    rw[if_neg h2];rfl
  |negSucc a=>
   have h2: ¬((0:Int)<=Int.negSucc a/\Int.negSucc a<(len:Int)):=λh=>by have:=h.1;omega
   rw[if_neg h2];rfl
 |alc z=>show We h z=_;simp only[We,cI,Ho]
 |app sz b x y=>
  show Xj ρ h sz b x y=_;simp only[Xj,cI,zA,Px];cases kM (ρ y)<;>cases h.slice sz (ρ y)<;>rfl
 |part agg off n x=>
  show Pz ρ h agg off n x=_;simp only[Pz,cI,Am,rT];cases ρ x<;>try rfl
  cases agg
  ·rfl
  ·simp only[cond_true,if_true]
   cases sub _ _ _<;>rfl
 |_=>rfl
abbrev dD:=Nat->List V->H->Option (V×H)
def uD (cl:dD)(g:Nat)(vs:List V)(h:H):Option (V×H):=
 cond (vs.all V.tN) (match cl g vs ⟨.lf,0⟩ with|some (v,_)=>cond v.tN (some (v,h)) none|none=>none) none
def gO (cl yl:dD)(vars loc:List V)(h:H)(a:dE):Option (V×H):=
 dE.rec (motive:=λ_=>Option (V×H)) (Zl (Ha vars loc) h) (λg args=>cl g (args.map (Ha vars loc)) h)
  (λx args=>match Ha vars loc x with
   | .fn g fs cs=>cl g (fs++args.map (Ha vars loc)++cs) h
   | .yl id=>yl id (args.map (Ha vars loc)) h
   |_=>none)
  (λg args=>uD cl g (args.map (Ha vars loc)) h)
  (λg t x args=>match Ha vars loc x with
   | .ifc u v=>cond (Nat.beq u t) (cl g (v::args.map (Ha vars loc)) h) none
   |_=>none) a
theorem lX (cl yl:dD)(vars loc:List V)(h:H)(i:I):gO cl yl vars loc h (.op i)=cI (xv vars loc) h i:=by
 show Zl (Ha vars loc) h i=_;rw[Wu,rG]
theorem lB (cl yl:dD)(vars loc:List V)(h:H)(g:Nat)(args:List X):gO cl yl vars loc h (.call g args)=cl g (args.map (xv vars loc)) h:=by
 show cl g (args.map (Ha vars loc)) h=_;rw[rG]
theorem kI (cl yl:dD)(vars loc:List V)(h:H)(x:X)(args:List X):gO cl yl vars loc h (.callv x args)=match xv vars loc x with
   | .fn g fs cs=>cl g (fs++args.map (xv vars loc)++cs) h
   | .yl id=>yl id (args.map (xv vars loc)) h
   |_=>none:=by
 rw[←rG];rfl
theorem kH (cl yl:dD)(vars loc:List V)(h:H)(g t:Nat)(x:X)(args:List X):gO cl yl vars loc h (.calli g t x args)=match xv vars loc x with
   | .ifc u v=>cond (Nat.beq u t) (cl g (v::args.map (xv vars loc)) h) none
   |_=>none:=by
 rw[←rG];rfl
theorem gW (cl yl:dD)(vars loc:List V)(h:H)(g:Nat)(args:List X):gO cl yl vars loc h (.callp g args)=uD cl g (args.map (xv vars loc)) h:=by
 show uD cl g (args.map (Ha vars loc)) h=_;rw[rG]
theorem nY {cl:dD}{g:Nat}{vs:List V}{h h':H}{v:V}(he:uD cl g vs h=some (v,h')):h'=h/\vs.all V.tN=true/\v.tN=true/\ ∃h2,cl g vs ⟨.lf,0⟩=some (v,h2):=by
 unfold uD at he
 cases h1:vs.all V.tN with
 |false=>rw[h1] at he;cases he
 |true=>
  rw[h1] at he;simp only[cond_true] at he;split at he
  ·rename_i w h2 hc
   cases h3:w.tN with
   |false=>rw[h3] at he;cases he
   |true=>rw[h3] at he;cases he;exact⟨rfl,rfl,h3,h2,hc⟩
  ·cases he
def pX (vars loc:List V)(g:Option (X×Bool)):Option Bool:=
 match g with
 |none=>some true
 |some (x,b)=>match Ha vars loc x with| .bool a=>some (a==b)| .tup []=>some false|_=>none
theorem vP (vars loc:List V)(g:Option (X×Bool)):pX vars loc g=dZ vars loc g:=by
 unfold pX dZ;rw[rG];rfl
def rQ {α:Type}(d:D)(vars loc:List V)(v:V)(k:List V->List V->α):α:=
 D.rec (λi=>k (Qg vars i v) loc) (k vars (v::loc)) (k vars loc) d
theorem Bv {α:Type}(d:D)(vars loc:List V)(v:V)(k:List V->List V->α):rQ d vars loc v k=k (iA d vars loc v).1 (iA d vars loc v).2:=by
 cases d with
 |v i=>show k (Qg vars i v) loc=_;rw[Hv];rfl
 |l=>rfl
 |n=>rfl
def mH (cl yl:dD)(its:List It):List V->List V->H->Option (List V×H):=
 List.rec (λvars _ h=>some (vars,h)) (λit _ ih vars loc h=>
  match pX vars loc it.g with
  |some true=>match gO cl yl vars loc h it.a with
   |some (v,h)=>rQ it.d vars loc v λvars loc=>ih vars loc h
   |none=>none
  |some false=>rQ it.d vars loc .undef λvars loc=>ih vars loc h
  |none=>none) its
theorem sY (cl yl:dD)(vars loc:List V)(h:H):mH cl yl [] vars loc h=some (vars,h):=rfl
theorem iQ (cl yl:dD)(it:It)(its:List It)(vars loc:List V)(h:H):mH cl yl (it::its) vars loc h=
  match dZ vars loc it.g with
  |some true=>match gO cl yl vars loc h it.a with
   |some (v,h)=>mH cl yl its (iA it.d vars loc v).1 (iA it.d vars loc v).2 h
   |none=>none
  |some false=>mH cl yl its (iA it.d vars loc .undef).1 (iA it.d vars loc .undef).2 h
  |none=>none:=by
 rw[←vP]
 show (match pX vars loc it.g with
  |some true=>match gO cl yl vars loc h it.a with
   |some (v,h)=>rQ it.d vars loc v λvars loc=>mH cl yl its vars loc h
   |none=>none
  |some false=>rQ it.d vars loc .undef λvars loc=>mH cl yl its vars loc h
  |none=>none)=_
 simp only[Bv]
def nH (cl yl:dD)(base:Nat)(xs:List AI):List V->Log->H->Option (List V×H):=
 List.rec (λvars _ h=>some (vars,h)) (λx _ ih vars log h=>
  match pX vars [] x.it.g with
  |some true=>
   match cond x.al (uP vars h (base+x.i) x.it.a) (gO cl yl vars [] h x.it.a) with
   |some (v,h)=>if kE x.cks log h then rQ x.it.d vars [] v λvars' _=>ih vars' (uF x vars v log) h else none
   |none=>none
  |some false=>if kE x.cks log h then rQ x.it.d vars [] .undef λvars' _=>ih vars' log h else none
  |none=>none) xs
theorem sX (cl yl:dD)(base:Nat)(vars:List V)(log:Log)(h:H):nH cl yl base [] vars log h=some (vars,h):=rfl
theorem fI (cl yl:dD)(base:Nat)(x:AI)(xs:List AI)(vars:List V)(log:Log)(h:H):nH cl yl base (x::xs) vars log h=
  match dZ vars [] x.it.g with
  |some true=>
   match (if x.al then uP vars h (base+x.i) x.it.a else gO cl yl vars [] h x.it.a) with
   |some (v,h)=>if kE x.cks log h then nH cl yl base xs (iA x.it.d vars [] v).1 (uF x vars v log) h else none
   |none=>none
  |some false=>if kE x.cks log h then nH cl yl base xs (iA x.it.d vars [] .undef).1 log h else none
  |none=>none:=by
 rw[←vP]
 show (match pX vars [] x.it.g with
  |some true=>
   match cond x.al (uP vars h (base+x.i) x.it.a) (gO cl yl vars [] h x.it.a) with
   |some (v,h)=>if kE x.cks log h then rQ x.it.d vars [] v λvars' _=>nH cl yl base xs vars' (uF x vars v log) h else none
   |none=>none
  |some false=>if kE x.cks log h then rQ x.it.d vars [] .undef λvars' _=>nH cl yl base xs vars' log h else none
  |none=>none)=_
 simp only[Bv,Bool.cond_eq_ite]
abbrev De:=Option (E×List V×Lh×H)
def oV (step:List V->H->De)(n:Nat):List V->H->De:=
 Nat.rec (λ_ _=>none) (λ_ ih vars h=>match step vars h with
  |some (.norm,vars,dfs,h)=>match ih vars h with
   |some (e,vars,dfs2,h)=>some (e,vars,dfs2++dfs,h)
   |none=>none
  |r=>r) n
theorem xB (step:List V->H->De)(vars:List V)(h:H):oV step 0 vars h=none:=rfl
theorem kZ (step:List V->H->De)(n:Nat)(vars:List V)(h:H):oV step (n+1) vars h=match step vars h with
  |some (.norm,vars,dfs,h)=>match oV step n vars h with
   |some (e,vars,dfs2,h)=>some (e,vars,dfs2++dfs,h)
   |none=>none
  |r=>r:=rfl
def Xd (a b:List V->H->De)(vars:List V)(h:H):De:=match a vars h with
 |some (.norm,vars,dfs,h)=>match b vars h with
  |some (e,vars,dfs2,h)=>some (e,vars,dfs2++dfs,h)
  |none=>none
 |r=>r
def Wa (x:X)(a b:List V->H->De)(vars:List V)(h:H):De:=match Ha vars [] x with
 | .bool true=>a vars h
 | .bool false=>b vars h
 |_=>none
def Ov (id:Nat)(a:List V->H->De)(vars:List V)(h:H):De:=match a vars h with
 |some (.exit n,vars,dfs,h)=>if n=id then some (.norm,vars,dfs,h) else some (.exit n,vars,dfs,h)
 |r=>r
def Ww (cl yl:dD)(its:List It)(vars:List V)(h:H):De:=match mH cl yl its vars [] h with
 |some (vars,h)=>some (.norm,vars, [],h)
 |none=>none
def Wx (cl yl:dD)(k nl:Nat)(its:List AI)(vars:List V)(h:H):De:=
 match nH cl yl h.next its (vars++List.replicate nl .unk) [] {h with next:=h.next+k} with
 |some (vs,h)=>some (.norm,vs.take vars.length, [],h)
 |none=>none
def uJ (cl yl:dD)(rd:Option Nat)(its:List It)(x:X)(args:List X)(vars:List V)(h:H):De:=
 if rd.isSome then none else match mH cl yl its vars [] h with
  |some (vars,h)=>match xv vars [] x with
   | .fn g fs cs=>some (.norm,vars, [(g,fs++args.map (xv vars [])++cs)],h)
   |_=>none
  |none=>none
def pM (cl:dD)(rd:Option Nat)(x:X)(pars:List Nat)(assign body:C)(vars:List V)(h:H):De:=
 match xv vars [] x with
 | .fn g fs cs=>
  if Jj rd h then
  match cl g (fs++ .yl h.next::cs) (h.new (.loop {vars,pars,assign,body,st:= .ready,pend:=none})) with
  |some (_,h')=>
   match h'.get h.next with
   |some (.loop r)=>
    if r.st= .busy then none else
    some (r.pend.getD .norm,vars, [],h'.set h.next (some (.loop {r with st:= .out})))
   |_=>none
  |none=>none
  else none
 |_=>none
def run (cl yl:dD)(N:Nat)(rd:Option Nat)(c:C):List V->H->De:=
 C.rec (motive:=λ_=>List V->H->De) (λvars h=>some (.norm,vars, [],h)) (Ww cl yl) (Wx cl yl) (uJ cl yl rd) (λ_ _ a b=>Xd a b) (λx _ _ a b=>Wa x a b) (λid _ a=>Ov id a)
  (λ_ a=>oV a N) (λn vars h=>some (.exit n,vars, [],h)) (λvars h=>some (.ret,vars, [],h)) (λ_ a=>a) (λx pars as bd _ _=>pM cl rd x pars as bd) (λ_ _=>none) c
section
variable (cl yl:dD) (N:Nat) (rd:Option Nat) (vars:List V) (h:H)
theorem rP:run cl yl N rd .skip vars h=some (.norm,vars, [],h):=rfl
theorem zV (its:List It):run cl yl N rd (.reg its) vars h=match mH cl yl its vars [] h with
 |some (vars,h)=>some (.norm,vars, [],h)
 |none=>none:=rfl
theorem zU (k nl:Nat)(its:List AI):run cl yl N rd (.any k nl its) vars h=match nH cl yl h.next its (vars++List.replicate nl .unk) [] {h with next:=h.next+k} with
 |some (vs,h)=>some (.norm,vs.take vars.length, [],h)
 |none=>none:=rfl
theorem Cg (its:List It)(x:X)(args:List X):run cl yl N rd (.regd its x args) vars h=uJ cl yl rd its x args vars h:=rfl
theorem run_seq (a b:C):run cl yl N rd (.seq a b) vars h=match run cl yl N rd a vars h with
 |some (.norm,vars,dfs,h)=>match run cl yl N rd b vars h with
  |some (e,vars,dfs2,h)=>some (e,vars,dfs2++dfs,h)
  |none=>none
 |r=>r:=rfl
theorem run_ite (x:X)(a b:C):run cl yl N rd (.ite x a b) vars h=match xv vars [] x with
 | .bool true=>run cl yl N rd a vars h
 | .bool false=>run cl yl N rd b vars h
 |_=>none:=by rw[←rG];rfl
theorem sZ (id:Nat)(a:C):run cl yl N rd (.block id a) vars h=match run cl yl N rd a vars h with
 |some (.exit n,vars,dfs,h)=>if n=id then some (.norm,vars,dfs,h) else some (.exit n,vars,dfs,h)
 |r=>r:=rfl
theorem wZ (a:C):run cl yl N rd (.loop a) vars h=oV (run cl yl N rd a) N vars h:=rfl
theorem uV (n:Nat):run cl yl N rd (.exit n) vars h=some (.exit n,vars, [],h):=rfl
theorem Bd:run cl yl N rd .ret vars h=some (.ret,vars, [],h):=rfl
theorem tH (a:C):run cl yl N rd (.scope a) vars h=run cl yl N rd a vars h:=rfl
theorem tE (x:X)(pars:List Nat)(a b:C):run cl yl N rd (.range x pars a b) vars h=pM cl rd x pars a b vars h:=rfl
end
def qM (p:Nat->Option Fn)(cl:dD)(dfs:Lh):H->Option H:=
 List.rec (λh=>some h) (λd _ ih h=>match p d.1 with
  |some fn=>if fn.body.Be then (match cl d.1 d.2 h with|some (_,h)=>ih h|none=>none) else none
  |none=>none) dfs
theorem mY (p:Nat->Option Fn)(cl:dD)(h:H):qM p cl [] h=some h:=rfl
theorem xC (p:Nat->Option Fn)(cl:dD)(g:Nat)(args:List V)(r:Lh)(h:H):qM p cl ((g,args)::r) h=match p g with
  |some fn=>if fn.body.Be then (match cl g args h with|some (_,h)=>qM p cl r h|none=>none) else none
  |none=>none:=rfl
def pF (p:Nat->Option Fn)(cl yl:dD)(N:Nat):dD:=λg args h=>
 match p g with
 |none=>none
 |some fn=>
  if args.length=fn.nargs then
   match run cl yl N none fn.body (qF fn args) h with
   |some (.norm,vars,dfs,h)|some (.ret,vars,dfs,h)=>
    match qM p cl dfs h with
    |some h=>(bY (fn.results.map (qD vars h))).map λvs=>(tJ vs,h)
    |none=>none
   |_=>none
  else none
def mI (cl yl:dD)(N:Nat):dD:=λid args h=>
 match h.get id with
 |some (.loop r)=>
  if args.length=r.pars.length then
   match run cl yl N (some id) r.assign ((r.pars.zip args).foldl (λvs q=>vs.set q.1 q.2) r.vars) h with
   |some (.norm,vars,_,h)=>
    match h.get id with
    |some (.loop r2)=>
     if r2.st= .ready then
      match run cl yl N (some id) r.body vars (h.set id (some (.loop {r2 with st:= .busy}))) with
      |some (e,_,_,h)=>
       match h.get id with
       |some (.loop r3)=>
        (match e with
        | .norm=>some (.bool true,h.set id (some (.loop {r3 with st:= .ready,pend:=none})))
        |e=>some (.bool false,h.set id (some (.loop {r3 with st:= .done,pend:=some e}))))
       |_=>none
      |none=>none
     else none
    |_=>none
   |_=>none
  else none
 |_=>none
def iC (p:Nat->Option Fn)(N f:Nat):dD×dD:=
 Nat.rec (λ_ _ _=>none,λ_ _ _=>none) (λ_ q=>(pF p q.1 q.2 N,mI q.1 q.2 N)) f
def Ut (p:Nat->Option Fn)(N f:Nat):dD:=(iC p N f).1
theorem Bq (p:Nat->Option Fn)(N:Nat):iC p N 0=(λ_ _ _=>none,λ_ _ _=>none):=rfl
theorem jZ (p:Nat->Option Fn)(N f:Nat):iC p N (f+1)=(pF p (iC p N f).1 (iC p N f).2 N,mI (iC p N f).1 (iC p N f).2 N):=rfl
end
end Go.Ay
