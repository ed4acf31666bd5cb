/- The evaluator: calls by levels, loops by fuel, all else by recursion on the code. -/
import Derived.Test.YtddpkbicnolafaaGreatAy1
namespace Go.Ay
noncomputable section
def anP (ρ:X->V)(h:H)(x:X):Option (V×H):=some (ρ x,h)
def aaE (ρ:X->V)(h:H)(c a b:X):Option (V×H):=match ρ c with| .bool t=>some (cond t (ρ a) (ρ b),h)|_=>none
def abM (h:H)(o:Option V):Option (V×H):=Option.rec none (λv=>some (v,h)) o
def akC (ρ:X->V)(h:H)(op:BinOp)(k:IntKind)(x y:X):Option (V×H):=match ρ x,ρ y with
 | .int j a,.int j' b=>if j=k/\j'=k then abM h (MX op k a b) else none
 |_,_=>none
def anE (ρ:X->V)(h:H)(neg:Bool)(x:X):Option (V×H):=match ρ x with
 | .aC=>some (.bool (!neg),h)
 | .sl .. | .emp _=>some (.bool neg,h)
 |_=>none
def anT (ρ:X->V)(h:H)(x:X):Option (V×H):=match ρ x with| .bool a=>some (.bool (!a),h)|_=>none
def amH (ρ:X->V)(h:H)(x:X)(i:Nat):Option (V×H):=match ρ x with| .tup vs=>abM h (vs[i]?)|_=>none
def abH (ρ:X->V)(h:H)(x:X):Option (V×H):=match ρ x with
 | .aC=>some (.int .i64 0,h)
 | .emp _=>some (.int .i64 0,h)
 | .sl _ _ len _=>some (.int .i64 (len:Int),h)
 |_=>none
def ldX (h:H)(agg:Bool)(n:Nat)(v:V):Option V:=match v with
 | .ptr id off=>match h.Yq id with
  |some (.cells _ vs)=>match abC vs off n with
   |some ws=>cond agg (some (.agg ws)) (match ws with| [v]=>some v|_=>none)
   |none=>none
  |_=>none
 |_=>none
def fLd (ρ:X->V)(h:H)(agg:Bool)(n:Nat)(x:X):Option (V×H):=abM h (ldX h agg n (ρ x))
def AF (h:H)(id off:Nat)(ws:List V):Option H:=match h.Yq id with
 |some (.cells false vs)=>match afX off ws vs with
  |some vs'=>some (h.Tj id (some (.cells false vs')))
  |none=>none
 |_=>none
def fSt (ρ:X->V)(h:H)(n:Nat)(x y:X):Option (V×H):=match ρ x with
 | .ptr id off=>if (ρ y).cells.length=n/\(ρ y).cells.all V.one then (match AF h id off (ρ y).cells with|some h'=>some (V.undef,h')|none=>none) else none
 |_=>none
def QE (n:Int):Option Nat:=Int.rec (λa=>some a) (λ_=>none) n
def akH (ρ:X->V)(h:H)(sz:Nat)(x i:X):Option (V×H):=match ρ x,ρ i with
 | .sl id off len _,.int _ n=>(match QE n with|some k=>cond (Nat.blt k len) (some (.ptr id (off+k*sz),h)) none|none=>none)
 |_,_=>none
def amR (ρ:X->V)(h:H)(n sz:Nat)(x i:X):Option (V×H):=match ρ x,ρ i with
 | .ptr id off,.int _ z=>(match QE z with|some k=>cond (Nat.blt k n) (some (.ptr id (off+k*sz),h)) none|none=>none)
 |_,_=>none
def aoG (ρ:X->V)(h:H)(off:Nat)(x:X):Option (V×H):=match ρ x with| .ptr id o=>some (.ptr id (o+off),h)|_=>none
def acR (ρ:X->V)(h:H)(agg:Bool)(off n:Nat)(x:X):Option (V×H):=match ρ x with
 | .agg vs=>cond agg (match abC vs off n with|some ws=>some (.agg ws,h)|none=>none) (abM h (vs[off]?))
 |_=>none
def aoE (ρ:X->V)(h:H)(f:Nat)(fs cs:List X):Option (V×H):=some (.fn f (fs.map ρ) (cs.map ρ),h)
def aaQ (h:H)(o:Ob):H:=H.rec (λt n=>⟨Tr.Tj (n+1) t n (some o),n+1⟩) h
theorem PW (h:H)(o:Ob):aaQ h o=h.new o:=by
 cases h;show H.mk _ _=_;rw[←Tr.tL];rfl
def alI (h:H)(zero:List V):Option (V×H):=some (.ptr h.next 0,aaQ h (.cells false zero))
def aoC (ρ:X->V)(h:H)(x:X):Option (V×H):=match ρ x with| .ptr id off=>some (.ptr id off,h)|_=>none
def amD (h:H)(id off n:Nat):Option (List V):=match h.Yq id with
 |some (.cells _ vs)=>abC vs off n
 |_=>none
theorem agX (h:H)(id off n:Nat):amD h id off n=h.row id off n:=by
 unfold amD H.row;rw[H.vI]
 cases h.get id with
 |none=>rfl
 |some o=>cases o<;>simp only[CW]
def CB (h:H)(sz:Nat):V->Option (List V)
 | .aC=>some []
 | .emp _=>some []
 | .sl id off len _=>amD h id off (len*sz)
 |_=>none
theorem AU (h:H)(sz:Nat)(v:V):CB h sz v=h.slice sz v:=by
 cases v<;>simp only[CB,H.slice,agX]
def YQ (l m:List V):List V:=List.rec m (λv _ ih=>v::ih) l
theorem PR: ∀(l m:List V),YQ l m=l++m
 | [],_=>rfl
 |v::l,m=>by show v::YQ l m=_;rw[PR l m];rfl
def abD (h:H)(sz bytes:Nat)(x:V)(m:Nat)(ys:List V):Option (V×H):=
 match vA x with
 |some n=>
  match CB h sz x with
  |some xs=>
  if m=0 then some (x,h) else
  cond (Nat.ble ((2*(n+m)+1000)*bytes) 281474976710656&&Nat.blt (n+m) 4611686018427387904) (
   match x with
   | .sl id off len (.kn c)=>
    cond (Nat.ble (len+m) c) (match AF h id (off+len*sz) ys with
     |some h'=>some (.sl id off (len+m) (.kn c),h')
     |none=>none)
    (some (.sl h.next 0 (n+m) (.un sz),aaQ h (.cells false (YQ xs ys))))
   | .sl id _ _ (.un e)=>
    match h.Yq id with
    |some (.cells false _)=>cond (Nat.beq e sz) (some (.sl h.next 0 (n+m) (.un sz),aaQ (h.Tj id none) (.cells false (YQ xs ys)))) none
    |_=>none
   | .emp _=>none
   |_=>some (.sl h.next 0 (n+m) (.un sz),aaQ h (.cells false (YQ xs ys)))) none
  |none=>none
 |none=>none
theorem UU (h:H)(id off:Nat)(ws:List V):AF h id off ws=h.put id off ws:=by
 unfold AF H.put
 simp only[H.vI,EW,H.tL]
 cases h.get id with
 |none=>rfl
 |some o=>cases o with
  |cells ro vs=>cases ro<;>simp only<;>cases putAt vs off ws<;>rfl
  |_=>rfl
theorem acA (h:H)(sz bytes:Nat)(x:V)(m:Nat)(ys:List V):abD h sz bytes x m ys=Cj h sz bytes x m ys:=by
 unfold abD Cj
 rw[AU]
 cases hn:vA x with
 |none=>rfl
 |some n=>
  cases hs:h.slice sz x with
  |none=>rfl
  |some xs=>
   simp only
   by_cases hm:m=0
   ·simp [hm]
   ·simp only[hm,if_false]
    have hb:(Nat.ble ((2*(n+m)+1000)*bytes) 281474976710656&&Nat.blt (n+m) 4611686018427387904)=decide ((2*(n+m)+1000)*bytes<=2^48/\n+m<2^62):=by
     rw[Bool.eq_iff_iff]
     simp only[Bool.and_eq_true,Nat.ble_eq,Nat.blt_eq,decide_eq_true_eq]
    rw[hb]
    by_cases hc:(2*(n+m)+1000)*bytes<=2^48/\n+m<2^62
    ·rw[if_pos hc,decide_eq_true hc]
     simp only[cond_true,PW,H.tL,H.vI,PR,UU]
     cases x with
     |sl id off len cap=>
      cases cap with
      |kn c=>
       simp only
       by_cases hle:len+m<=c
       ·rw[if_pos hle,(Nat.ble_eq).mpr hle];rfl
       ·rw[if_neg hle,show Nat.ble (len+m) c=false from by
         cases h9:Nat.ble (len+m) c with
         |false=>rfl
         |true=>exact absurd ((Nat.ble_eq).mp h9) hle];rfl
      |un e=>
       simp only
       cases h.get id with
       |none=>rfl
       |some o=>cases o with
        |cells ro vs=>cases ro with
         |true=>rfl
         |false=>
          simp only
          by_cases he:e=sz
          ·rw[if_pos he,(Nat.beq_eq).mpr he];rfl
          ·rw[if_neg he,show Nat.beq e sz=false from by
            cases h9:Nat.beq e sz with
            |false=>rfl
            |true=>exact absurd ((Nat.beq_eq).mp h9) he];rfl
        |_=>rfl
     |_=>rfl
    ·rw[if_neg hc,decide_eq_false hc];rfl
def amO (ρ:X->V)(h:H)(sz bytes:Nat)(x y:X):Option (V×H):=match vA (ρ y) with
 |some m=>match CB h sz (ρ y) with
  |some ys=>abD h sz bytes (ρ x) m ys
  |none=>none
 |none=>none
def evX (ρ:X->V)(h:H)(i:I):Option (V×H):=
 I.rec (motive:=λ_=>Option (V×H))
  (anP ρ h) (aaE ρ h) (akC ρ h) (λa b c d=>cZ ρ h (.shf a b c d)) (λa b c=>cZ ρ h (.beq a b c)) (anE ρ h) (anT ρ h) (λk x=>cZ ρ h (.neg k x)) (λk x=>cZ ρ h (.conv k x))
  (acR ρ h) (amH ρ h) (abH ρ h) (λx=>cZ ρ h (.lenm x)) (λx=>cZ ρ h (.caps x)) (λm xs=>cZ ρ h (.mm m xs)) (fLd ρ h) (fSt ρ h) (akH ρ h) (aoG ρ h)
  (λa b c d e=>cZ ρ h (.slc a b c d e)) (λa b c d e=>cZ ρ h (.mks a b c d e)) (alI h) (λx=>cZ ρ h (.box x)) (λz ps=>cZ ρ h (.bld z ps)) (λa b c d=>cZ ρ h (.bls a b c d))
  (amO ρ h) (λa b c d e=>cZ ρ h (.apz a b c d e)) (λa b c=>cZ ρ h (.cpy a b c)) (aoE ρ h) (cZ ρ h .mkm) (λa b c d=>cZ ρ h (.lkp a b c d)) (λa b c=>cZ ρ h (.mset a b c)) (aoC ρ h)
  (amR ρ h) (λx=>cZ ρ h (.cvs x)) (λt x=>cZ ρ h (.mif t x)) (λa b=>cZ ρ h (.mkw a b)) (λs a b c d=>cZ ρ h (.lkw s a b c d)) (λs a b c=>cZ ρ h (.msw s a b c)) (λs a b c=>cZ ρ h (.ent s a b c)) (λa b c=>cZ ρ h (.ens a b c)) (λa b=>cZ ρ h (.six a b)) (λa b c=>cZ ρ h (.seq a b c)) (λa b=>cZ ρ h (.sad a b)) (λa=>cZ ρ h (.cir a)) (λa b c=>cZ ρ h (.clr a b c)) (λa b c d e=>cZ ρ h (.sla a b c d e)) none i
theorem Nc (h:H)(o:Option V):abM h o=o.map (·,h):=by cases o<;>rfl
theorem alY (h:H)(agg:Bool)(n:Nat)(v:V):ldX h agg n v=ZU h agg n v:=by
 unfold ldX ZU H.row
 cases v with
 |ptr id off=>
  simp only[H.vI,CW]
  cases h.get id with
  |none=>rfl
  |some o=>cases o with
   |cells ro vs=>simp only;cases sub vs off n with
    |none=>rfl
    |some ws=>cases agg<;>rfl
   |_=>rfl
 |_=>rfl
theorem aeF (h:H)(id off:Nat)(ws:List V):AF h id off ws=h.put id off ws:=by
 unfold AF H.put
 simp only[H.vI,EW,H.tL]
 cases h.get id with
 |none=>rfl
 |some o=>cases o with
  |cells ro vs=>cases ro<;>simp only<;>cases putAt vs off ws<;>rfl
  |_=>rfl
theorem amS (ρ:X->V)(h:H)(i:I):evX ρ h i=cZ ρ h i:=by
 cases i with
 |pick c a b=>
         show aaE ρ h c a b=_;simp only[aaE,cZ];cases ρ c<;>try rfl
         rename_i t;cases t<;>rfl
 |bin op k x y=>show akC ρ h op k x y=_;simp only[akC,cZ,Nc,RK];rfl
 |ext x i=>show amH ρ h x i=_;simp only[amH,cZ,Nc];rfl
 |lens x=>show abH ρ h x=_;simp only[abH,cZ];cases ρ x<;>rfl
 |ld agg n x=>show fLd ρ h agg n x=_;simp only[fLd,cZ,Nc,alY]
 |st n x y=>
  show fSt ρ h n x y=_
  simp only[fSt,cZ,aeF]
  cases ρ x<;>try rfl
  simp only
  split<;>try rfl
  cases h.put _ _ _<;>rfl
 |ixa sz x i=>
  show akH ρ h sz x i=_
  simp only[akH,cZ,ER]
  cases ρ x<;>try rfl
  cases ρ i<;>try rfl
  rename_i id off len cap k n
  simp only
  cases n with
  |ofNat a=>
   simp only[QE]
   by_cases h1:a<len
   ·rw[(Nat.blt_eq).mpr h1]
    have h2:(0:Int)<=Int.ofNat a/\Int.ofNat a<(len:Int):=⟨Int.natCast_nonneg a,by simpa using h1⟩
    rw[if_pos h2];rfl
   ·have h3:Nat.blt a len=false:=by
     cases h4:Nat.blt a len with
     |false=>rfl
     |true=>exact absurd ((Nat.blt_eq).mp h4) h1
    rw[h3]
    have h2: ¬((0:Int)<=Int.ofNat a/\Int.ofNat a<(len:Int)):=λh=>h1 (by simpa using h.2)
    rw[if_neg h2];rfl
  |negSucc a=>
   have h2: ¬((0:Int)<=Int.negSucc a/\Int.negSucc a<(len:Int)):=λh=>by have:=h.1;omega
   rw[if_neg h2];rfl
 |ixd len sz x i=>
  show amR ρ h len sz x i=_
  simp only[amR,cZ,WD]
  cases ρ x<;>try rfl
  cases ρ i<;>try rfl
  rename_i id off k n
  simp only
  cases n with
  |ofNat a=>
   simp only[QE]
   by_cases h1:a<len
   ·rw[(Nat.blt_eq).mpr h1]
    have h2:(0:Int)<=Int.ofNat a/\Int.ofNat a<(len:Int):=⟨Int.natCast_nonneg a,by simpa using h1⟩
    rw[if_pos h2];rfl
   ·have h3:Nat.blt a len=false:=by
     cases h4:Nat.blt a len with
     |false=>rfl
     |true=>exact absurd ((Nat.blt_eq).mp h4) h1
    rw[h3]
    have h2: ¬((0:Int)<=Int.ofNat a/\Int.ofNat a<(len:Int)):=λh=>h1 (by simpa using h.2)
    rw[if_neg h2];rfl
  |negSucc a=>
   have h2: ¬((0:Int)<=Int.negSucc a/\Int.negSucc a<(len:Int)):=λh=>by have:=h.1;omega
   rw[if_neg h2];rfl
 |alc z=>show alI h z=_;simp only[alI,cZ,PW]
 |app sz b x y=>
  show amO ρ h sz b x y=_
  simp only[amO,cZ,AU,acA]
  cases vA (ρ y)<;>cases h.slice sz (ρ y)<;>rfl
 |part agg off n x=>
  show acR ρ h agg off n x=_
  simp only[acR,cZ,CW,Nc]
  cases ρ x<;>try rfl
  cases agg
  ·rfl
  ·simp only[cond_true,if_true]
   cases sub _ _ _<;>rfl
 |_=>rfl
abbrev dZ:=Nat->List V->H->Option (V×H)
def Qc (cl:dZ)(g:Nat)(vs:List V)(h:H):Option (V×H):=
 cond (vs.all V.On) (match cl g vs ⟨.lf,0⟩ with|some (v,_)=>cond v.On (some (v,h)) none|none=>none) none
def nQ (cl yl:dZ)(vars loc:List V)(h:H)(a:eC):Option (V×H):=
 eC.rec (motive:=λ_=>Option (V×H)) (evX (QG vars loc) h) (λg args=>cl g (args.map (QG vars loc)) h)
  (λx args=>match QG vars loc x with
   | .fn g fs cs=>cl g (fs++args.map (QG vars loc)++cs) h
   | .yl id=>yl id (args.map (QG vars loc)) h
   |_=>none)
  (λg args=>Qc cl g (args.map (QG vars loc)) h)
  (λg t x args=>match QG vars loc x with
   | .ifc u v=>cond (Nat.beq u t) (cl g (v::args.map (QG vars loc)) h) none
   |_=>none) a
theorem xO (cl yl:dZ)(vars loc:List V)(h:H)(i:I):nQ cl yl vars loc h (.op i)=cZ (xv vars loc) h i:=by
 show evX (QG vars loc) h i=_;rw[amS,Jm]
theorem yA (cl yl:dZ)(vars loc:List V)(h:H)(g:Nat)(args:List X):nQ cl yl vars loc h (.call g args)=cl g (args.map (xv vars loc)) h:=by
 show cl g (args.map (QG vars loc)) h=_;rw[Jm]
theorem uC (cl yl:dZ)(vars loc:List V)(h:H)(x:X)(args:List X):nQ cl yl vars loc h (.callv x args)=match xv vars loc x with
   | .fn g fs cs=>cl g (fs++args.map (xv vars loc)++cs) h
   | .yl id=>yl id (args.map (xv vars loc)) h
   |_=>none:=by
 rw[←Jm];rfl
theorem uD (cl yl:dZ)(vars loc:List V)(h:H)(g t:Nat)(x:X)(args:List X):nQ cl yl vars loc h (.calli g t x args)=match xv vars loc x with
   | .ifc u v=>cond (Nat.beq u t) (cl g (v::args.map (xv vars loc)) h) none
   |_=>none:=by
 rw[←Jm];rfl
theorem nK (cl yl:dZ)(vars loc:List V)(h:H)(g:Nat)(args:List X):nQ cl yl vars loc h (.callp g args)=Qc cl g (args.map (xv vars loc)) h:=by
 show Qc cl g (args.map (QG vars loc)) h=_;rw[Jm]
theorem Ca {cl:dZ}{g:Nat}{vs:List V}{h h':H}{v:V}(he:Qc cl g vs h=some (v,h')):h'=h/\vs.all V.On=true/\v.On=true/\ ∃h2,cl g vs ⟨.lf,0⟩=some (v,h2):=by
 unfold Qc at he
 cases h1:vs.all V.On with
 |false=>rw[h1] at he;cases he
 |true=>
  rw[h1] at he
  simp only[cond_true] at he
  split at he
  ·rename_i w h2 hc
   cases h3:w.On with
   |false=>rw[h3] at he;cases he
   |true=>rw[h3] at he;cases he;exact⟨rfl,rfl,h3,h2,hc⟩
  ·cases he
def Gx (vars loc:List V)(g:Option (X×Bool)):Option Bool:=
 match g with
 |none=>some true
 |some (x,b)=>match QG vars loc x with| .bool a=>some (a==b)| .tup []=>some false|_=>none
theorem Uz (vars loc:List V)(g:Option (X×Bool)):Gx vars loc g=gQ vars loc g:=by
 unfold Gx gQ;rw[Jm];rfl
def Ms {α:Type}(d:D)(vars loc:List V)(v:V)(k:List V->List V->α):α:=
 D.rec (λi=>k (aeK vars i v) loc) (k vars (v::loc)) (k vars loc) d
theorem HO {α:Type}(d:D)(vars loc:List V)(v:V)(k:List V->List V->α):Ms d vars loc v k=k (nE d vars loc v).1 (nE d vars loc v).2:=by
 cases d with
 |v i=>show k (aeK vars i v) loc=_;rw[QX];rfl
 |l=>rfl
 |n=>rfl
def yO (cl yl:dZ)(its:List It):List V->List V->H->Option (List V×H):=
 List.rec (λvars _ h=>some (vars,h)) (λit _ ih vars loc h=>
  match Gx vars loc it.g with
  |some true=>match nQ cl yl vars loc h it.a with
   |some (v,h)=>Ms it.d vars loc v λvars loc=>ih vars loc h
   |none=>none
  |some false=>Ms it.d vars loc .undef λvars loc=>ih vars loc h
  |none=>none) its
theorem Ph (cl yl:dZ)(vars loc:List V)(h:H):yO cl yl [] vars loc h=some (vars,h):=rfl
theorem qB (cl yl:dZ)(it:It)(its:List It)(vars loc:List V)(h:H):yO cl yl (it::its) vars loc h=
  match gQ vars loc it.g with
  |some true=>match nQ cl yl vars loc h it.a with
   |some (v,h)=>yO cl yl its (nE it.d vars loc v).1 (nE it.d vars loc v).2 h
   |none=>none
  |some false=>yO cl yl its (nE it.d vars loc .undef).1 (nE it.d vars loc .undef).2 h
  |none=>none:=by
 rw[←Uz]
 show (match Gx vars loc it.g with
  |some true=>match nQ cl yl vars loc h it.a with
   |some (v,h)=>Ms it.d vars loc v λvars loc=>yO cl yl its vars loc h
   |none=>none
  |some false=>Ms it.d vars loc .undef λvars loc=>yO cl yl its vars loc h
  |none=>none)=_
 simp only[HO]
def Ad (cl yl:dZ)(base:Nat)(xs:List AI):List V->Log->H->Option (List V×H):=
 List.rec (λvars _ h=>some (vars,h)) (λx _ ih vars log h=>
  match Gx vars [] x.it.g with
  |some true=>
   match cond x.al (Vh vars h (base+x.i) x.it.a) (nQ cl yl vars [] h x.it.a) with
   |some (v,h)=>if uH x.cks log h then Ms x.it.d vars [] v λvars' _=>ih vars' (Qp x vars v log) h else none
   |none=>none
  |some false=>if uH x.cks log h then Ms x.it.d vars [] .undef λvars' _=>ih vars' log h else none
  |none=>none) xs
theorem Pj (cl yl:dZ)(base:Nat)(vars:List V)(log:Log)(h:H):Ad cl yl base [] vars log h=some (vars,h):=rfl
theorem kA (cl yl:dZ)(base:Nat)(x:AI)(xs:List AI)(vars:List V)(log:Log)(h:H):Ad cl yl base (x::xs) vars log h=
  match gQ vars [] x.it.g with
  |some true=>
   match (if x.al then Vh vars h (base+x.i) x.it.a else nQ cl yl vars [] h x.it.a) with
   |some (v,h)=>if uH x.cks log h then Ad cl yl base xs (nE x.it.d vars [] v).1 (Qp x vars v log) h else none
   |none=>none
  |some false=>if uH x.cks log h then Ad cl yl base xs (nE x.it.d vars [] .undef).1 log h else none
  |none=>none:=by
 rw[←Uz]
 show (match Gx vars [] x.it.g with
  |some true=>
   match cond x.al (Vh vars h (base+x.i) x.it.a) (nQ cl yl vars [] h x.it.a) with
   |some (v,h)=>if uH x.cks log h then Ms x.it.d vars [] v λvars' _=>Ad cl yl base xs vars' (Qp x vars v log) h else none
   |none=>none
  |some false=>if uH x.cks log h then Ms x.it.d vars [] .undef λvars' _=>Ad cl yl base xs vars' log h else none
  |none=>none)=_
 simp only[HO,Bool.cond_eq_ite]
abbrev IV:=Option (E×List V×WZ×H)
def Gb (step:List V->H->IV)(n:Nat):List V->H->IV:=
 Nat.rec (λ_ _=>none) (λ_ ih vars h=>match step vars h with
  |some (.norm,vars,dfs,h)=>match ih vars h with
   |some (e,vars,dfs2,h)=>some (e,vars,dfs2++dfs,h)
   |none=>none
  |r=>r) n
theorem Vm (step:List V->H->IV)(vars:List V)(h:H):Gb step 0 vars h=none:=rfl
theorem wY (step:List V->H->IV)(n:Nat)(vars:List V)(h:H):Gb step (n+1) vars h=match step vars h with
  |some (.norm,vars,dfs,h)=>match Gb step n vars h with
   |some (e,vars,dfs2,h)=>some (e,vars,dfs2++dfs,h)
   |none=>none
  |r=>r:=rfl
def ajW (a b:List V->H->IV)(vars:List V)(h:H):IV:=match a vars h with
 |some (.norm,vars,dfs,h)=>match b vars h with
  |some (e,vars,dfs2,h)=>some (e,vars,dfs2++dfs,h)
  |none=>none
 |r=>r
def alW (x:X)(a b:List V->H->IV)(vars:List V)(h:H):IV:=match QG vars [] x with
 | .bool true=>a vars h
 | .bool false=>b vars h
 |_=>none
def adD (id:Nat)(a:List V->H->IV)(vars:List V)(h:H):IV:=match a vars h with
 |some (.exit n,vars,dfs,h)=>if n=id then some (.norm,vars,dfs,h) else some (.exit n,vars,dfs,h)
 |r=>r
def akT (cl yl:dZ)(its:List It)(vars:List V)(h:H):IV:=match yO cl yl its vars [] h with
 |some (vars,h)=>some (.norm,vars, [],h)
 |none=>none
def amP (cl yl:dZ)(k nl:Nat)(its:List AI)(vars:List V)(h:H):IV:=
 match Ad cl yl h.next its (vars++List.replicate nl .unk) [] {h with next:=h.next+k} with
 |some (vs,h)=>some (.norm,vs.take vars.length, [],h)
 |none=>none
def Rx (cl yl:dZ)(rd:Option Nat)(its:List It)(x:X)(args:List X)(vars:List V)(h:H):IV:=
 if rd.isSome then none else match yO cl yl its vars [] h with
  |some (vars,h)=>match xv vars [] x with
   | .fn g fs cs=>some (.norm,vars, [(g,fs++args.map (xv vars [])++cs)],h)
   |_=>none
  |none=>none
def Gf (cl:dZ)(rd:Option Nat)(x:X)(pars:List Nat)(assign body:C)(vars:List V)(h:H):IV:=
 match xv vars [] x with
 | .fn g fs cs=>
  if TZ rd h then
  match cl g (fs++ .yl h.next::cs) (h.new (.loop {vars,pars,assign,body,st:= .ready,pend:=none})) with
  |some (_,h')=>
   match h'.get h.next with
   |some (.loop r)=>
    if r.st= .busy then none else
    some (r.pend.getD .norm,vars, [],h'.set h.next (some (.loop {r with st:= .out})))
   |_=>none
  |none=>none
  else none
 |_=>none
def run (cl yl:dZ)(N:Nat)(rd:Option Nat)(c:C):List V->H->IV:=
 C.rec (motive:=λ_=>List V->H->IV) (λvars h=>some (.norm,vars, [],h)) (akT cl yl) (amP cl yl) (Rx cl yl rd) (λ_ _ a b=>ajW a b) (λx _ _ a b=>alW x a b) (λid _ a=>adD id a)
  (λ_ a=>Gb a N) (λn vars h=>some (.exit n,vars, [],h)) (λvars h=>some (.ret,vars, [],h)) (λ_ a=>a) (λx pars as bd _ _=>Gf cl rd x pars as bd) (λ_ _=>none) c
section
variable (cl yl:dZ) (N:Nat) (rd:Option Nat) (vars:List V) (h:H)
theorem Mk:run cl yl N rd .skip vars h=some (.norm,vars, [],h):=rfl
theorem DY (its:List It):run cl yl N rd (.reg its) vars h=match yO cl yl its vars [] h with
 |some (vars,h)=>some (.norm,vars, [],h)
 |none=>none:=rfl
theorem CS (k nl:Nat)(its:List AI):run cl yl N rd (.any k nl its) vars h=match Ad cl yl h.next its (vars++List.replicate nl .unk) [] {h with next:=h.next+k} with
 |some (vs,h)=>some (.norm,vs.take vars.length, [],h)
 |none=>none:=rfl
theorem JG (its:List It)(x:X)(args:List X):run cl yl N rd (.regd its x args) vars h=Rx cl yl rd its x args vars h:=rfl
theorem run_seq (a b:C):run cl yl N rd (.seq a b) vars h=match run cl yl N rd a vars h with
 |some (.norm,vars,dfs,h)=>match run cl yl N rd b vars h with
  |some (e,vars,dfs2,h)=>some (e,vars,dfs2++dfs,h)
  |none=>none
 |r=>r:=rfl
theorem run_ite (x:X)(a b:C):run cl yl N rd (.ite x a b) vars h=match xv vars [] x with
 | .bool true=>run cl yl N rd a vars h
 | .bool false=>run cl yl N rd b vars h
 |_=>none:=by rw[←Jm];rfl
theorem Nq (id:Nat)(a:C):run cl yl N rd (.block id a) vars h=match run cl yl N rd a vars h with
 |some (.exit n,vars,dfs,h)=>if n=id then some (.norm,vars,dfs,h) else some (.exit n,vars,dfs,h)
 |r=>r:=rfl
theorem Te (a:C):run cl yl N rd (.loop a) vars h=Gb (run cl yl N rd a) N vars h:=rfl
theorem Vq (n:Nat):run cl yl N rd (.exit n) vars h=some (.exit n,vars, [],h):=rfl
theorem DC:run cl yl N rd .ret vars h=some (.ret,vars, [],h):=rfl
theorem Oe (a:C):run cl yl N rd (.scope a) vars h=run cl yl N rd a vars h:=rfl
theorem Oi (x:X)(pars:List Nat)(a b:C):run cl yl N rd (.range x pars a b) vars h=Gf cl rd x pars a b vars h:=rfl
end
def Ix (p:Nat->Option Fn)(cl:dZ)(dfs:WZ):H->Option H:=
 List.rec (λh=>some h) (λd _ ih h=>match p d.1 with
  |some fn=>if fn.body.CF then (match cl d.1 d.2 h with|some (_,h)=>ih h|none=>none) else none
  |none=>none) dfs
theorem Be (p:Nat->Option Fn)(cl:dZ)(h:H):Ix p cl [] h=some h:=rfl
theorem Sk (p:Nat->Option Fn)(cl:dZ)(g:Nat)(args:List V)(r:WZ)(h:H):Ix p cl ((g,args)::r) h=match p g with
  |some fn=>if fn.body.CF then (match cl g args h with|some (_,h)=>Ix p cl r h|none=>none) else none
  |none=>none:=rfl
def Er (p:Nat->Option Fn)(cl yl:dZ)(N:Nat):dZ:=λg args h=>
 match p g with
 |none=>none
 |some fn=>
  if args.length=fn.nargs then
   match run cl yl N none fn.body (Lo fn args) h with
   |some (.norm,vars,dfs,h)|some (.ret,vars,dfs,h)=>
    match Ix p cl dfs h with
    |some h=>(cM (fn.results.map (Hx vars h))).map λvs=>(Ow vs,h)
    |none=>none
   |_=>none
  else none
def zL (cl yl:dZ)(N:Nat):dZ:=λid args h=>
 match h.get id with
 |some (.loop r)=>
  if args.length=r.pars.length then
   match run cl yl N (some id) r.assign ((r.pars.zip args).foldl (λvs q=>vs.set q.1 q.2) r.vars) h with
   |some (.norm,vars,_,h)=>
    match h.get id with
    |some (.loop r2)=>
     if r2.st= .ready then
      match run cl yl N (some id) r.body vars (h.set id (some (.loop {r2 with st:= .busy}))) with
      |some (e,_,_,h)=>
       match h.get id with
       |some (.loop r3)=>
        (match e with
        | .norm=>some (.bool true,h.set id (some (.loop {r3 with st:= .ready,pend:=none})))
        |e=>some (.bool false,h.set id (some (.loop {r3 with st:= .done,pend:=some e}))))
       |_=>none
      |none=>none
     else none
    |_=>none
   |_=>none
  else none
 |_=>none
def lT (p:Nat->Option Fn)(N f:Nat):dZ×dZ:=
 Nat.rec (λ_ _ _=>none,λ_ _ _=>none) (λ_ q=>(Er p q.1 q.2 N,zL q.1 q.2 N)) f
def amJ (p:Nat->Option Fn)(N f:Nat):dZ:=(lT p N f).1
theorem JW (p:Nat->Option Fn)(N:Nat):lT p N 0=(λ_ _ _=>none,λ_ _ _=>none):=rfl
theorem uJ (p:Nat->Option Fn)(N f:Nat):lT p N (f+1)=(Er p (lT p N f).1 (lT p N f).2 N,zL (lT p N f).1 (lT p N f).2 N):=rfl
end
end Go.Ay
