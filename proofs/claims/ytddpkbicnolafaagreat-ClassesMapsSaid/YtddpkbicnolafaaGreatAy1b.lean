/- The evaluator: calls by levels, loops by fuel, all else by recursion on the code. -/
import Derived.Test.YtddpkbicnolafaaGreatAy1
namespace Go.Ay
noncomputable section
def alO (ρ:X->V) (h:H) (x:X):Option (V×H):=some (ρ x,h)
def XW (ρ:X->V) (h:H) (c a b:X):Option (V×H):=match ρ c with| .bool t=>some (cond t (ρ a) (ρ b),h)|_=>none
def VS (h:H) (o:Option V):Option (V×H):=Option.rec none (λ v=>some (v,h)) o
def aiI (ρ:X->V) (h:H) (op:BinOp) (k:IntKind) (x y:X):Option (V×H):=match ρ x,ρ y with
 | .int j a,.int j' b=>if j=k/\j'=k then VS h (KA op k a b) else none
 |_,_=>none
def akZ (ρ:X->V) (h:H) (neg:Bool) (x:X):Option (V×H):=match ρ x with
 | .aC=>some (.bool (!neg),h)
 | .sl .. | .emp _=>some (.bool neg,h)
 |_=>none
def alU (ρ:X->V) (h:H) (x:X):Option (V×H):=match ρ x with| .bool a=>some (.bool (!a),h)|_=>none
def ajZ (ρ:X->V) (h:H) (x:X) (i:Nat):Option (V×H):=match ρ x with| .tup vs=>VS h (vs[i]?)|_=>none
def VD (ρ:X->V) (h:H) (x:X):Option (V×H):=match ρ x with
 | .aC=>some (.int .i64 0,h)
 | .emp _=>some (.int .i64 0,h)
 | .sl _ _ len _=>some (.int .i64 (len:Int),h)
 |_=>none
def ldX (h:H) (agg:Bool) (n:Nat) (v:V):Option V:=match v with
 | .ptr id off=>match h.Xv id with
  |some (.cells _ vs)=>match abH vs off n with
   |some ws=>cond agg (some (.agg ws)) (match ws with| [v]=>some v|_=>none)
   |none=>none
  |_=>none
 |_=>none
def fLd (ρ:X->V) (h:H) (agg:Bool) (n:Nat) (x:X):Option (V×H):=VS h (ldX h agg n (ρ x))
def Zj (h:H) (id off:Nat) (ws:List V):Option H:=match h.Xv id with
 |some (.cells false vs)=>match afK off ws vs with
  |some vs'=>some (h.Rn id (some (.cells false vs')))
  |none=>none
 |_=>none
def fSt (ρ:X->V) (h:H) (n:Nat) (x y:X):Option (V×H):=match ρ x with
 | .ptr id off=>if (ρ y).cells.length=n/\(ρ y).cells.all V.one then (match Zj h id off (ρ y).cells with|some h'=>some (V.undef,h')|none=>none) else none
 |_=>none
def NS (n:Int):Option Nat:=Int.rec (λ a=>some a) (λ _=>none) n
def ajB (ρ:X->V) (h:H) (sz:Nat) (x i:X):Option (V×H):=match ρ x,ρ i with
 | .sl id off len _,.int _ n=>(match NS n with|some k=>cond (Nat.blt k len) (some (.ptr id (off+k*sz),h)) none|none=>none)
 |_,_=>none
def aiV (ρ:X->V) (h:H) (n sz:Nat) (x i:X):Option (V×H):=match ρ x,ρ i with
 | .ptr id off,.int _ z=>(match NS z with|some k=>cond (Nat.blt k n) (some (.ptr id (off+k*sz),h)) none|none=>none)
 |_,_=>none
def alP (ρ:X->V) (h:H) (off:Nat) (x:X):Option (V×H):=match ρ x with| .ptr id o=>some (.ptr id (o+off),h)|_=>none
def ZN (ρ:X->V) (h:H) (agg:Bool) (off n:Nat) (x:X):Option (V×H):=match ρ x with
 | .agg vs=>cond agg (match abH vs off n with|some ws=>some (.agg ws,h)|none=>none) (VS h (vs[off]?))
 |_=>none
def alQ (ρ:X->V) (h:H) (f:Nat) (fs cs:List X):Option (V×H):=some (.fn f (fs.map ρ) (cs.map ρ),h)
def YJ (h:H) (o:Ob):H:=H.rec (λ t n=>⟨Tr.Rn (n+1) t n (some o),n+1⟩) h
theorem OZ (h:H) (o:Ob):YJ h o=h.new o:=by
 cases h;show H.mk _ _=_;rw [←Tr.tH];rfl
def ajF (h:H) (zero:List V):Option (V×H):=some (.ptr h.next 0,YJ h (.cells false zero))
def alS (ρ:X->V) (h:H) (x:X):Option (V×H):=match ρ x with| .ptr id off=>some (.ptr id off,h)|_=>none
def aiT (h:H) (id off n:Nat):Option (List V):=match h.Xv id with
 |some (.cells _ vs)=>abH vs off n
 |_=>none
theorem afH (h:H) (id off n:Nat):aiT h id off n=h.row id off n:=by
 unfold aiT H.row;rw [H.vD]
 cases h.get id with
 |none=>rfl
 |some o=>cases o<;>simp only [CQ]
def BD (h:H) (sz:Nat):V->Option (List V)
 | .aC=>some []
 | .emp _=>some []
 | .sl id off len _=>aiT h id off (len*sz)
 |_=>none
theorem Zg (h:H) (sz:Nat) (v:V):BD h sz v=h.slice sz v:=by
 cases v<;>simp only [BD,H.slice,afH]
def VZ (l m:List V):List V:=List.rec m (λ v _ ih=>v::ih) l
theorem NV: ∀ (l m:List V),VZ l m=l++m
 | [],_=>rfl
 |v::l,m=>by show v::VZ l m=_;rw [NV l m];rfl
def VT (h:H) (sz bytes:Nat) (x:V) (m:Nat) (ys:List V):Option (V×H):=
 match xT x with
 |some n=>
  match BD h sz x with
  |some xs=>
  if m=0 then some (x,h) else
  cond (Nat.ble ((2*(n+m)+1000)*bytes) 281474976710656&&Nat.blt (n+m) 4611686018427387904) (
   match x with
   | .sl id off len (.kn c)=>
    cond (Nat.ble (len+m) c) (match Zj h id (off+len*sz) ys with
     |some h'=>some (.sl id off (len+m) (.kn c),h')
     |none=>none)
    (some (.sl h.next 0 (n+m) (.un sz),YJ h (.cells false (VZ xs ys))))
   | .sl id _ _ (.un e)=>
    match h.Xv id with
    |some (.cells false _)=>cond (Nat.beq e sz) (some (.sl h.next 0 (n+m) (.un sz),YJ (h.Rn id none) (.cells false (VZ xs ys)))) none
    |_=>none
   | .emp _=>none
   |_=>some (.sl h.next 0 (n+m) (.un sz),YJ h (.cells false (VZ xs ys)))) none
  |none=>none
 |none=>none
theorem SC (h:H) (id off:Nat) (ws:List V):Zj h id off ws=h.put id off ws:=by
 unfold Zj H.put
 simp only [H.vD,DS,H.tH]
 cases h.get id with
 |none=>rfl
 |some o=>cases o with
  |cells ro vs=>cases ro<;>simp only<;>cases putAt vs off ws<;>rfl
  |_=>rfl
theorem YC (h:H) (sz bytes:Nat) (x:V) (m:Nat) (ys:List V):VT h sz bytes x m ys=Ej h sz bytes x m ys:=by
 unfold VT Ej
 rw [Zg]
 cases hn:xT x with
 |none=>rfl
 |some n=>
  cases hs:h.slice sz x with
  |none=>rfl
  |some xs=>
   simp only
   by_cases hm:m=0
   ·simp [hm]
   ·simp only [hm,if_false]
    have hb:(Nat.ble ((2*(n+m)+1000)*bytes) 281474976710656&&Nat.blt (n+m) 4611686018427387904)=decide ((2*(n+m)+1000)*bytes<=2^48/\n+m<2^62):=by
     rw [Bool.eq_iff_iff]
     simp only [Bool.and_eq_true,Nat.ble_eq,Nat.blt_eq,decide_eq_true_eq]
    rw [hb]
    by_cases hc:(2*(n+m)+1000)*bytes<=2^48/\n+m<2^62
    ·rw [if_pos hc,decide_eq_true hc]
     simp only [cond_true,OZ,H.tH,H.vD,NV,SC]
     cases x with
     |sl id off len cap=>
      cases cap with
      |kn c=>
       simp only
       by_cases hle:len+m<=c
       ·rw [if_pos hle,(Nat.ble_eq).mpr hle];rfl
       ·rw [if_neg hle,show Nat.ble (len+m) c=false from by
         cases h9:Nat.ble (len+m) c with
         |false=>rfl
         |true=>exact absurd ((Nat.ble_eq).mp h9) hle];rfl
      |un e=>
       simp only
       cases h.get id with
       |none=>rfl
       |some o=>cases o with
        |cells ro vs=>cases ro with
         |true=>rfl
         |false=>
          simp only
          by_cases he:e=sz
          ·rw [if_pos he,(Nat.beq_eq).mpr he];rfl
          ·rw [if_neg he,show Nat.beq e sz=false from by
            cases h9:Nat.beq e sz with
            |false=>rfl
            |true=>exact absurd ((Nat.beq_eq).mp h9) he];rfl
        |_=>rfl
     |_=>rfl
    ·rw [if_neg hc,decide_eq_false hc];rfl
def akB (ρ:X->V) (h:H) (sz bytes:Nat) (x y:X):Option (V×H):=match xT (ρ y) with
 |some m=>match BD h sz (ρ y) with
  |some ys=>VT h sz bytes (ρ x) m ys
  |none=>none
 |none=>none
def evX (ρ:X->V) (h:H) (i:I):Option (V×H):=
 I.rec (motive:=λ _=>Option (V×H))
  (alO ρ h) (XW ρ h) (aiI ρ h) (λ a b c d=>cY ρ h (.shf a b c d)) (λ a b c=>cY ρ h (.beq a b c)) (akZ ρ h) (alU ρ h) (λ k x=>cY ρ h (.neg k x)) (λ k x=>cY ρ h (.conv k x))
  (ZN ρ h) (ajZ ρ h) (VD ρ h) (λ x=>cY ρ h (.lenm x)) (λ x=>cY ρ h (.caps x)) (λ m xs=>cY ρ h (.mm m xs)) (fLd ρ h) (fSt ρ h) (ajB ρ h) (alP ρ h)
  (λ a b c d e=>cY ρ h (.slc a b c d e)) (λ a b c d e=>cY ρ h (.mks a b c d e)) (ajF h) (λ x=>cY ρ h (.box x)) (λ z ps=>cY ρ h (.bld z ps)) (λ a b c d=>cY ρ h (.bls a b c d))
  (akB ρ h) (λ a b c d e=>cY ρ h (.apz a b c d e)) (λ a b c=>cY ρ h (.cpy a b c)) (alQ ρ h) (cY ρ h .mkm) (λ a b c d=>cY ρ h (.lkp a b c d)) (λ a b c=>cY ρ h (.mset a b c)) (alS ρ h)
  (aiV ρ h) (λ x=>cY ρ h (.cvs x)) (λ t x=>cY ρ h (.mif t x)) (λ a b=>cY ρ h (.mkw a b)) (λ s a b c d=>cY ρ h (.lkw s a b c d)) (λ s a b c=>cY ρ h (.msw s a b c)) (λ s a b c=>cY ρ h (.ent s a b c)) (λ a b c=>cY ρ h (.ens a b c)) (λ a b=>cY ρ h (.six a b)) (λ a b c=>cY ρ h (.seq a b c)) (λ a b=>cY ρ h (.sad a b)) (λ a=>cY ρ h (.cir a)) (λ a b c=>cY ρ h (.clr a b c)) (λ a b c d e=>cY ρ h (.sla a b c d e)) none i
theorem Li (h:H) (o:Option V):VS h o=o.map (·,h):=by cases o<;>rfl
theorem akJ (h:H) (agg:Bool) (n:Nat) (v:V):ldX h agg n v=XK h agg n v:=by
 unfold ldX XK H.row
 cases v with
 |ptr id off=>
  simp only [H.vD,CQ]
  cases h.get id with
  |none=>rfl
  |some o=>cases o with
   |cells ro vs=>simp only;cases sub vs off n with
    |none=>rfl
    |some ws=>cases agg<;>rfl
   |_=>rfl
 |_=>rfl
theorem VN (h:H) (id off:Nat) (ws:List V):Zj h id off ws=h.put id off ws:=by
 unfold Zj H.put
 simp only [H.vD,DS,H.tH]
 cases h.get id with
 |none=>rfl
 |some o=>cases o with
  |cells ro vs=>cases ro<;>simp only<;>cases putAt vs off ws<;>rfl
  |_=>rfl
theorem akR (ρ:X->V) (h:H) (i:I):evX ρ h i=cY ρ h i:=by
 cases i with
 |pick c a b=>
         show XW ρ h c a b=_;simp only [XW,cY];cases ρ c<;>try rfl
         rename_i t;cases t<;>rfl
 |bin op k x y=>show aiI ρ h op k x y=_;simp only [aiI,cY,Li,RK];rfl
 |ext x i=>show ajZ ρ h x i=_;simp only [ajZ,cY,Li];rfl
 |lens x=>show VD ρ h x=_;simp only [VD,cY];cases ρ x<;>rfl
 |ld agg n x=>show fLd ρ h agg n x=_;simp only [fLd,cY,Li,akJ]
 |st n x y=>
  show fSt ρ h n x y=_
  simp only [fSt,cY,VN]
  cases ρ x<;>try rfl
  simp only
  split<;>try rfl
  cases h.put _ _ _<;>rfl
 |ixa sz x i=>
  show ajB ρ h sz x i=_
  simp only [ajB,cY,AR]
  cases ρ x<;>try rfl
  cases ρ i<;>try rfl
  rename_i id off len cap k n
  simp only
  cases n with
  |ofNat a=>
   simp only [NS]
   by_cases h1:a<len
   ·rw [(Nat.blt_eq).mpr h1]
    have h2:(0:Int)<=Int.ofNat a/\Int.ofNat a<(len:Int):=⟨Int.natCast_nonneg a,by simpa using h1⟩
    rw [if_pos h2];rfl
   ·have h3:Nat.blt a len=false:=by
     cases h4:Nat.blt a len with
     |false=>rfl
     |true=>exact absurd ((Nat.blt_eq).mp h4) h1
    rw [h3]
    have h2: ¬((0:Int)<=Int.ofNat a/\Int.ofNat a<(len:Int)):=λ h=>h1 (by simpa using h.2)
    rw [if_neg h2];rfl
  |negSucc a=>
   have h2: ¬((0:Int)<=Int.negSucc a/\Int.negSucc a<(len:Int)):=λ h=>by have:=h.1;omega
   rw [if_neg h2];rfl
 |ixd len sz x i=>
  show aiV ρ h len sz x i=_
  simp only [aiV,cY,TK]
  cases ρ x<;>try rfl
  cases ρ i<;>try rfl
  rename_i id off k n
  simp only
  cases n with
  |ofNat a=>
   simp only [NS]
   by_cases h1:a<len
   ·rw [(Nat.blt_eq).mpr h1]
    have h2:(0:Int)<=Int.ofNat a/\Int.ofNat a<(len:Int):=⟨Int.natCast_nonneg a,by simpa using h1⟩
    rw [if_pos h2];rfl
   ·have h3:Nat.blt a len=false:=by
     cases h4:Nat.blt a len with
     |false=>rfl
     |true=>exact absurd ((Nat.blt_eq).mp h4) h1
    rw [h3]
    have h2: ¬((0:Int)<=Int.ofNat a/\Int.ofNat a<(len:Int)):=λ h=>h1 (by simpa using h.2)
    rw [if_neg h2];rfl
  |negSucc a=>
   have h2: ¬((0:Int)<=Int.negSucc a/\Int.negSucc a<(len:Int)):=λ h=>by have:=h.1;omega
   rw [if_neg h2];rfl
 |alc z=>show ajF h z=_;simp only [ajF,cY,OZ]
 |app sz b x y=>
  show akB ρ h sz b x y=_
  simp only [akB,cY,Zg,YC]
  cases xT (ρ y)<;>cases h.slice sz (ρ y)<;>rfl
 |part agg off n x=>
  show ZN ρ h agg off n x=_
  simp only [ZN,cY,CQ,Li]
  cases ρ x<;>try rfl
  cases agg
  ·rfl
  ·simp only [cond_true,if_true]
   cases sub _ _ _<;>rfl
 |_=>rfl
abbrev dW:=Nat->List V->H->Option (V×H)
def Oy (cl:dW) (g:Nat) (vs:List V) (h:H):Option (V×H):=
 cond (vs.all V.My) (match cl g vs ⟨.lf,0⟩ with|some (v,_)=>cond v.My (some (v,h)) none|none=>none) none
def nV (cl yl:dW) (vars loc:List V) (h:H) (a:dZ):Option (V×H):=
 dZ.rec (motive:=λ _=>Option (V×H)) (evX (OQ vars loc) h) (λ g args=>cl g (args.map (OQ vars loc)) h)
  (λ x args=>match OQ vars loc x with
   | .fn g fs cs=>cl g (fs++args.map (OQ vars loc)++cs) h
   | .yl id=>yl id (args.map (OQ vars loc)) h
   |_=>none)
  (λ g args=>Oy cl g (args.map (OQ vars loc)) h)
  (λ g t x args=>match OQ vars loc x with
   | .ifc u v=>cond (Nat.beq u t) (cl g (v::args.map (OQ vars loc)) h) none
   |_=>none) a
theorem xS (cl yl:dW) (vars loc:List V) (h:H) (i:I):nV cl yl vars loc h (.op i)=cY (xv vars loc) h i:=by
 show evX (OQ vars loc) h i=_;rw [akR,Il]
theorem xL (cl yl:dW) (vars loc:List V) (h:H) (g:Nat) (args:List X):nV cl yl vars loc h (.call g args)=cl g (args.map (xv vars loc)) h:=by
 show cl g (args.map (OQ vars loc)) h=_;rw [Il]
theorem tP (cl yl:dW) (vars loc:List V) (h:H) (x:X) (args:List X):nV cl yl vars loc h (.callv x args)=match xv vars loc x with
   | .fn g fs cs=>cl g (fs++args.map (xv vars loc)++cs) h
   | .yl id=>yl id (args.map (xv vars loc)) h
   |_=>none:=by
 rw [←Il];rfl
theorem tN (cl yl:dW) (vars loc:List V) (h:H) (g t:Nat) (x:X) (args:List X):nV cl yl vars loc h (.calli g t x args)=match xv vars loc x with
   | .ifc u v=>cond (Nat.beq u t) (cl g (v::args.map (xv vars loc)) h) none
   |_=>none:=by
 rw [←Il];rfl
theorem nI (cl yl:dW) (vars loc:List V) (h:H) (g:Nat) (args:List X):nV cl yl vars loc h (.callp g args)=Oy cl g (args.map (xv vars loc)) h:=by
 show Oy cl g (args.map (OQ vars loc)) h=_;rw [Il]
theorem Ap {cl:dW} {g:Nat} {vs:List V} {h h':H} {v:V} (he:Oy cl g vs h=some (v,h')):h'=h/\vs.all V.My=true/\v.My=true/\ ∃ h2,cl g vs ⟨.lf,0⟩=some (v,h2):=by
 unfold Oy at he
 cases h1:vs.all V.My with
 |false=>rw [h1] at he;cases he
 |true=>
  rw [h1] at he
  simp only [cond_true] at he
  split at he
  ·rename_i w h2 hc
   cases h3:w.My with
   |false=>rw [h3] at he;cases he
   |true=>rw [h3] at he;cases he;exact ⟨rfl,rfl,h3,h2,hc⟩
  ·cases he
def Fq (vars loc:List V) (g:Option (X×Bool)):Option Bool:=
 match g with
 |none=>some true
 |some (x,b)=>match OQ vars loc x with| .bool a=>some (a==b)| .tup []=>some false|_=>none
theorem Vu (vars loc:List V) (g:Option (X×Bool)):Fq vars loc g=gO vars loc g:=by
 unfold Fq gO;rw [Il];rfl
def Lp {α:Type} (d:D) (vars loc:List V) (v:V) (k:List V->List V->α):α:=
 D.rec (λ i=>k (YW vars i v) loc) (k vars (v::loc)) (k vars loc) d
theorem HF {α:Type} (d:D) (vars loc:List V) (v:V) (k:List V->List V->α):Lp d vars loc v k=k (nQ d vars loc v).1 (nQ d vars loc v).2:=by
 cases d with
 |v i=>show k (YW vars i v) loc=_;rw [OS];rfl
 |l=>rfl
 |n=>rfl
def yK (cl yl:dW) (its:List It):List V->List V->H->Option (List V×H):=
 List.rec (λ vars _ h=>some (vars,h)) (λ it _ ih vars loc h=>
  match Fq vars loc it.g with
  |some true=>match nV cl yl vars loc h it.a with
   |some (v,h)=>Lp it.d vars loc v λ vars loc=>ih vars loc h
   |none=>none
  |some false=>Lp it.d vars loc .undef λ vars loc=>ih vars loc h
  |none=>none) its
theorem Mt (cl yl:dW) (vars loc:List V) (h:H):yK cl yl [] vars loc h=some (vars,h):=rfl
theorem pN (cl yl:dW) (it:It) (its:List It) (vars loc:List V) (h:H):yK cl yl (it::its) vars loc h=
  match gO vars loc it.g with
  |some true=>match nV cl yl vars loc h it.a with
   |some (v,h)=>yK cl yl its (nQ it.d vars loc v).1 (nQ it.d vars loc v).2 h
   |none=>none
  |some false=>yK cl yl its (nQ it.d vars loc .undef).1 (nQ it.d vars loc .undef).2 h
  |none=>none:=by
 rw [←Vu]
 show (match Fq vars loc it.g with
  |some true=>match nV cl yl vars loc h it.a with
   |some (v,h)=>Lp it.d vars loc v λ vars loc=>yK cl yl its vars loc h
   |none=>none
  |some false=>Lp it.d vars loc .undef λ vars loc=>yK cl yl its vars loc h
  |none=>none)=_
 simp only [HF]
def zQ (cl yl:dW) (base:Nat) (xs:List AI):List V->Log->H->Option (List V×H):=
 List.rec (λ vars _ h=>some (vars,h)) (λ x _ ih vars log h=>
  match Fq vars [] x.it.g with
  |some true=>
   match cond x.al (Uw vars h (base+x.i) x.it.a) (nV cl yl vars [] h x.it.a) with
   |some (v,h)=>if tS x.cks log h then Lp x.it.d vars [] v λ vars' _=>ih vars' (Qi x vars v log) h else none
   |none=>none
  |some false=>if tS x.cks log h then Lp x.it.d vars [] .undef λ vars' _=>ih vars' log h else none
  |none=>none) xs
theorem Nz (cl yl:dW) (base:Nat) (vars:List V) (log:Log) (h:H):zQ cl yl base [] vars log h=some (vars,h):=rfl
theorem jV (cl yl:dW) (base:Nat) (x:AI) (xs:List AI) (vars:List V) (log:Log) (h:H):zQ cl yl base (x::xs) vars log h=
  match gO vars [] x.it.g with
  |some true=>
   match (if x.al then Uw vars h (base+x.i) x.it.a else nV cl yl vars [] h x.it.a) with
   |some (v,h)=>if tS x.cks log h then zQ cl yl base xs (nQ x.it.d vars [] v).1 (Qi x vars v log) h else none
   |none=>none
  |some false=>if tS x.cks log h then zQ cl yl base xs (nQ x.it.d vars [] .undef).1 log h else none
  |none=>none:=by
 rw [←Vu]
 show (match Fq vars [] x.it.g with
  |some true=>
   match cond x.al (Uw vars h (base+x.i) x.it.a) (nV cl yl vars [] h x.it.a) with
   |some (v,h)=>if tS x.cks log h then Lp x.it.d vars [] v λ vars' _=>zQ cl yl base xs vars' (Qi x vars v log) h else none
   |none=>none
  |some false=>if tS x.cks log h then Lp x.it.d vars [] .undef λ vars' _=>zQ cl yl base xs vars' log h else none
  |none=>none)=_
 simp only [HF,Bool.cond_eq_ite]
abbrev IE:=Option (E×List V×UT×H)
def Er (step:List V->H->IE) (n:Nat):List V->H->IE:=
 Nat.rec (λ _ _=>none) (λ _ ih vars h=>match step vars h with
  |some (.norm,vars,dfs,h)=>match ih vars h with
   |some (e,vars,dfs2,h)=>some (e,vars,dfs2++dfs,h)
   |none=>none
  |r=>r) n
theorem Sy (step:List V->H->IE) (vars:List V) (h:H):Er step 0 vars h=none:=rfl
theorem wM (step:List V->H->IE) (n:Nat) (vars:List V) (h:H):Er step (n+1) vars h=match step vars h with
  |some (.norm,vars,dfs,h)=>match Er step n vars h with
   |some (e,vars,dfs2,h)=>some (e,vars,dfs2++dfs,h)
   |none=>none
  |r=>r:=rfl
def aiD (a b:List V->H->IE) (vars:List V) (h:H):IE:=match a vars h with
 |some (.norm,vars,dfs,h)=>match b vars h with
  |some (e,vars,dfs2,h)=>some (e,vars,dfs2++dfs,h)
  |none=>none
 |r=>r
def akG (x:X) (a b:List V->H->IE) (vars:List V) (h:H):IE:=match OQ vars [] x with
 | .bool true=>a vars h
 | .bool false=>b vars h
 |_=>none
def acL (id:Nat) (a:List V->H->IE) (vars:List V) (h:H):IE:=match a vars h with
 |some (.exit n,vars,dfs,h)=>if n=id then some (.norm,vars,dfs,h) else some (.exit n,vars,dfs,h)
 |r=>r
def ajJ (cl yl:dW) (its:List It) (vars:List V) (h:H):IE:=match yK cl yl its vars [] h with
 |some (vars,h)=>some (.norm,vars, [],h)
 |none=>none
def ajH (cl yl:dW) (k nl:Nat) (its:List AI) (vars:List V) (h:H):IE:=
 match zQ cl yl h.next its (vars++List.replicate nl .unk) [] {h with next:=h.next+k} with
 |some (vs,h)=>some (.norm,vs.take vars.length, [],h)
 |none=>none
def Rf (cl yl:dW) (rd:Option Nat) (its:List It) (x:X) (args:List X) (vars:List V) (h:H):IE:=
 if rd.isSome then none else match yK cl yl its vars [] h with
  |some (vars,h)=>match xv vars [] x with
   | .fn g fs cs=>some (.norm,vars, [(g,fs++args.map (xv vars [])++cs)],h)
   |_=>none
  |none=>none
def Du (cl:dW) (rd:Option Nat) (x:X) (pars:List Nat) (assign body:C) (vars:List V) (h:H):IE:=
 match xv vars [] x with
 | .fn g fs cs=>
  if TR rd h then
  match cl g (fs++ .yl h.next::cs) (h.new (.loop {vars,pars,assign,body,st:= .ready,pend:=none})) with
  |some (_,h')=>
   match h'.get h.next with
   |some (.loop r)=>
    if r.st= .busy then none else
    some (r.pend.getD .norm,vars, [],h'.set h.next (some (.loop {r with st:= .out})))
   |_=>none
  |none=>none
  else none
 |_=>none
def run (cl yl:dW) (N:Nat) (rd:Option Nat) (c:C):List V->H->IE:=
 C.rec (motive:=λ _=>List V->H->IE) (λ vars h=>some (.norm,vars, [],h)) (ajJ cl yl) (ajH cl yl) (Rf cl yl rd) (λ _ _ a b=>aiD a b) (λ x _ _ a b=>akG x a b) (λ id _ a=>acL id a)
  (λ _ a=>Er a N) (λ n vars h=>some (.exit n,vars, [],h)) (λ vars h=>some (.ret,vars, [],h)) (λ _ a=>a) (λ x pars as bd _ _=>Du cl rd x pars as bd) (λ _ _=>none) c
section
variable (cl yl:dW) (N:Nat) (rd:Option Nat) (vars:List V) (h:H)
theorem Ka:run cl yl N rd .skip vars h=some (.norm,vars, [],h):=rfl
theorem CR (its:List It):run cl yl N rd (.reg its) vars h=match yK cl yl its vars [] h with
 |some (vars,h)=>some (.norm,vars, [],h)
 |none=>none:=rfl
theorem AQ (k nl:Nat) (its:List AI):run cl yl N rd (.any k nl its) vars h=match zQ cl yl h.next its (vars++List.replicate nl .unk) [] {h with next:=h.next+k} with
 |some (vs,h)=>some (.norm,vs.take vars.length, [],h)
 |none=>none:=rfl
theorem GF (its:List It) (x:X) (args:List X):run cl yl N rd (.regd its x args) vars h=Rf cl yl rd its x args vars h:=rfl
theorem run_seq (a b:C):run cl yl N rd (.seq a b) vars h=match run cl yl N rd a vars h with
 |some (.norm,vars,dfs,h)=>match run cl yl N rd b vars h with
  |some (e,vars,dfs2,h)=>some (e,vars,dfs2++dfs,h)
  |none=>none
 |r=>r:=rfl
theorem run_ite (x:X) (a b:C):run cl yl N rd (.ite x a b) vars h=match xv vars [] x with
 | .bool true=>run cl yl N rd a vars h
 | .bool false=>run cl yl N rd b vars h
 |_=>none:=by rw [←Il];rfl
theorem Mu (id:Nat) (a:C):run cl yl N rd (.block id a) vars h=match run cl yl N rd a vars h with
 |some (.exit n,vars,dfs,h)=>if n=id then some (.norm,vars,dfs,h) else some (.exit n,vars,dfs,h)
 |r=>r:=rfl
theorem Sr (a:C):run cl yl N rd (.loop a) vars h=Er (run cl yl N rd a) N vars h:=rfl
theorem Va (n:Nat):run cl yl N rd (.exit n) vars h=some (.exit n,vars, [],h):=rfl
theorem CO:run cl yl N rd .ret vars h=some (.ret,vars, [],h):=rfl
theorem Nl (a:C):run cl yl N rd (.scope a) vars h=run cl yl N rd a vars h:=rfl
theorem Mv (x:X) (pars:List Nat) (a b:C):run cl yl N rd (.range x pars a b) vars h=Du cl rd x pars a b vars h:=rfl
end
def Ht (p:Nat->Option Fn) (cl:dW) (dfs:UT):H->Option H:=
 List.rec (λ h=>some h) (λ d _ ih h=>match p d.1 with
  |some fn=>if fn.body.CM then (match cl d.1 d.2 h with|some (_,h)=>ih h|none=>none) else none
  |none=>none) dfs
theorem Ad (p:Nat->Option Fn) (cl:dW) (h:H):Ht p cl [] h=some h:=rfl
theorem Se (p:Nat->Option Fn) (cl:dW) (g:Nat) (args:List V) (r:UT) (h:H):Ht p cl ((g,args)::r) h=match p g with
  |some fn=>if fn.body.CM then (match cl g args h with|some (_,h)=>Ht p cl r h|none=>none) else none
  |none=>none:=rfl
def Dr (p:Nat->Option Fn) (cl yl:dW) (N:Nat):dW:=λ g args h=>
 match p g with
 |none=>none
 |some fn=>
  if args.length=fn.nargs then
   match run cl yl N none fn.body (Lf fn args) h with
   |some (.norm,vars,dfs,h)|some (.ret,vars,dfs,h)=>
    match Ht p cl dfs h with
    |some h=>(cK (fn.results.map (Gw vars h))).map λ vs=>(Ny vs,h)
    |none=>none
   |_=>none
  else none
def zB (cl yl:dW) (N:Nat):dW:=λ id args h=>
 match h.get id with
 |some (.loop r)=>
  if args.length=r.pars.length then
   match run cl yl N (some id) r.assign ((r.pars.zip args).foldl (λ vs q=>vs.set q.1 q.2) r.vars) h with
   |some (.norm,vars,_,h)=>
    match h.get id with
    |some (.loop r2)=>
     if r2.st= .ready then
      match run cl yl N (some id) r.body vars (h.set id (some (.loop {r2 with st:= .busy}))) with
      |some (e,_,_,h)=>
       match h.get id with
       |some (.loop r3)=>
        (match e with
        | .norm=>some (.bool true,h.set id (some (.loop {r3 with st:= .ready,pend:=none})))
        |e=>some (.bool false,h.set id (some (.loop {r3 with st:= .done,pend:=some e}))))
       |_=>none
      |none=>none
     else none
    |_=>none
   |_=>none
  else none
 |_=>none
def lQ (p:Nat->Option Fn) (N f:Nat):dW×dW:=
 Nat.rec (λ _ _ _=>none,λ _ _ _=>none) (λ _ q=>(Dr p q.1 q.2 N,zB q.1 q.2 N)) f
def ajX (p:Nat->Option Fn) (N f:Nat):dW:=(lQ p N f).1
theorem HV (p:Nat->Option Fn) (N:Nat):lQ p N 0=(λ _ _ _=>none,λ _ _ _=>none):=rfl
theorem tM (p:Nat->Option Fn) (N f:Nat):lQ p N (f+1)=(Dr p (lQ p N f).1 (lQ p N f).2 N,zB (lQ p N f).1 (lQ p N f).2 N):=rfl
end
end Go.Ay
