/- The evaluator: calls by levels, loops by fuel, all else by recursion on the code. -/
import Derived.Test.YtddpkbicnolafaaGreatAy1
namespace Go.Ay
noncomputable section
def alW (ρ:X->V) (h:H) (x:X):Option (V×H):=some (ρ x,h)
def WO (ρ:X->V) (h:H) (c a b:X):Option (V×H):=match ρ c with| .bool t=>some (cond t (ρ a) (ρ b),h)|_=>none
def YM (h:H) (o:Option V):Option (V×H):=Option.rec none (λ v=>some (v,h)) o
def akF (ρ:X->V) (h:H) (op:BinOp) (k:IntKind) (x y:X):Option (V×H):=match ρ x,ρ y with
 | .int j a,.int j' b=>if j=k/\j'=k then YM h (IY op k a b) else none
 |_,_=>none
def akY (ρ:X->V) (h:H) (neg:Bool) (x:X):Option (V×H):=match ρ x with
 | .aC=>some (.bool (!neg),h)
 | .sl .. | .emp _=>some (.bool neg,h)
 |_=>none
def alL (ρ:X->V) (h:H) (x:X):Option (V×H):=match ρ x with| .bool a=>some (.bool (!a),h)|_=>none
def ajC (ρ:X->V) (h:H) (x:X) (i:Nat):Option (V×H):=match ρ x with| .tup vs=>YM h (vs[i]?)|_=>none
def abC (ρ:X->V) (h:H) (x:X):Option (V×H):=match ρ x with
 | .aC=>some (.int .i64 0,h)
 | .emp _=>some (.int .i64 0,h)
 | .sl _ _ len _=>some (.int .i64 (len:Int),h)
 |_=>none
def ldX (h:H) (agg:Bool) (n:Nat) (v:V):Option V:=match v with
 | .ptr id off=>match h.Wl id with
  |some (.cells _ vs)=>match WZ vs off n with
   |some ws=>cond agg (some (.agg ws)) (match ws with| [v]=>some v|_=>none)
   |none=>none
  |_=>none
 |_=>none
def fLd (ρ:X->V) (h:H) (agg:Bool) (n:Nat) (x:X):Option (V×H):=YM h (ldX h agg n (ρ x))
def Yq (h:H) (id off:Nat) (ws:List V):Option H:=match h.Wl id with
 |some (.cells false vs)=>match afD off ws vs with
  |some vs'=>some (h.Uz id (some (.cells false vs')))
  |none=>none
 |_=>none
def fSt (ρ:X->V) (h:H) (n:Nat) (x y:X):Option (V×H):=match ρ x with
 | .ptr id off=>if (ρ y).cells.length=n/\(ρ y).cells.all V.one then (match Yq h id off (ρ y).cells with|some h'=>some (V.undef,h')|none=>none) else none
 |_=>none
def OA (n:Int):Option Nat:=Int.rec (λ a=>some a) (λ _=>none) n
def aiY (ρ:X->V) (h:H) (sz:Nat) (x i:X):Option (V×H):=match ρ x,ρ i with
 | .sl id off len _,.int _ n=>(match OA n with|some k=>cond (Nat.blt k len) (some (.ptr id (off+k*sz),h)) none|none=>none)
 |_,_=>none
def akJ (ρ:X->V) (h:H) (n sz:Nat) (x i:X):Option (V×H):=match ρ x,ρ i with
 | .ptr id off,.int _ z=>(match OA z with|some k=>cond (Nat.blt k n) (some (.ptr id (off+k*sz),h)) none|none=>none)
 |_,_=>none
def alF (ρ:X->V) (h:H) (off:Nat) (x:X):Option (V×H):=match ρ x with| .ptr id o=>some (.ptr id (o+off),h)|_=>none
def WW (ρ:X->V) (h:H) (agg:Bool) (off n:Nat) (x:X):Option (V×H):=match ρ x with
 | .agg vs=>cond agg (match WZ vs off n with|some ws=>some (.agg ws,h)|none=>none) (YM h (vs[off]?))
 |_=>none
def alK (ρ:X->V) (h:H) (f:Nat) (fs cs:List X):Option (V×H):=some (.fn f (fs.map ρ) (cs.map ρ),h)
def abG (h:H) (o:Ob):H:=H.rec (λ t n=>⟨Tr.Uz (n+1) t n (some o),n+1⟩) h
theorem NL (h:H) (o:Ob):abG h o=h.new o:=by
 cases h;show H.mk _ _=_;rw [←Tr.sZ];rfl
def aiM (h:H) (zero:List V):Option (V×H):=some (.ptr h.next 0,abG h (.cells false zero))
def alD (ρ:X->V) (h:H) (x:X):Option (V×H):=match ρ x with| .ptr id off=>some (.ptr id off,h)|_=>none
def akG (h:H) (id off n:Nat):Option (List V):=match h.Wl id with
 |some (.cells _ vs)=>WZ vs off n
 |_=>none
theorem agO (h:H) (id off n:Nat):akG h id off n=h.row id off n:=by
 unfold akG H.row;rw [H.vZ]
 cases h.get id with
 |none=>rfl
 |some o=>cases o<;>simp only [DR]
def CO (h:H) (sz:Nat):V->Option (List V)
 | .aC=>some []
 | .emp _=>some []
 | .sl id off len _=>akG h id off (len*sz)
 |_=>none
theorem Yg (h:H) (sz:Nat) (v:V):CO h sz v=h.slice sz v:=by
 cases v<;>simp only [CO,H.slice,agO]
def VB (l m:List V):List V:=List.rec m (λ v _ ih=>v::ih) l
theorem OU: ∀ (l m:List V),VB l m=l++m
 | [],_=>rfl
 |v::l,m=>by show v::VB l m=_;rw [OU l m];rfl
def VZ (h:H) (sz bytes:Nat) (x:V) (m:Nat) (ys:List V):Option (V×H):=
 match xF x with
 |some n=>
  match CO h sz x with
  |some xs=>
  if m=0 then some (x,h) else
  cond (Nat.ble ((2*(n+m)+1000)*bytes) 281474976710656&&Nat.blt (n+m) 4611686018427387904) (
   match x with
   | .sl id off len (.kn c)=>
    cond (Nat.ble (len+m) c) (match Yq h id (off+len*sz) ys with
     |some h'=>some (.sl id off (len+m) (.kn c),h')
     |none=>none)
    (some (.sl h.next 0 (n+m) (.un sz),abG h (.cells false (VB xs ys))))
   | .sl id _ _ (.un e)=>
    match h.Wl id with
    |some (.cells false _)=>cond (Nat.beq e sz) (some (.sl h.next 0 (n+m) (.un sz),abG (h.Uz id none) (.cells false (VB xs ys)))) none
    |_=>none
   | .emp _=>none
   |_=>some (.sl h.next 0 (n+m) (.un sz),abG h (.cells false (VB xs ys)))) none
  |none=>none
 |none=>none
theorem UF (h:H) (id off:Nat) (ws:List V):Yq h id off ws=h.put id off ws:=by
 unfold Yq H.put
 simp only [H.vZ,AY,H.sZ]
 cases h.get id with
 |none=>rfl
 |some o=>cases o with
  |cells ro vs=>cases ro<;>simp only<;>cases putAt vs off ws<;>rfl
  |_=>rfl
theorem acB (h:H) (sz bytes:Nat) (x:V) (m:Nat) (ys:List V):VZ h sz bytes x m ys=Di h sz bytes x m ys:=by
 unfold VZ Di
 rw [Yg]
 cases hn:xF x with
 |none=>rfl
 |some n=>
  cases hs:h.slice sz x with
  |none=>rfl
  |some xs=>
   simp only
   by_cases hm:m=0
   ·simp [hm]
   ·simp only [hm,if_false]
    have hb:(Nat.ble ((2*(n+m)+1000)*bytes) 281474976710656&&Nat.blt (n+m) 4611686018427387904)=decide ((2*(n+m)+1000)*bytes<=2^48/\n+m<2^62):=by
     rw [Bool.eq_iff_iff]
     simp only [Bool.and_eq_true,Nat.ble_eq,Nat.blt_eq,decide_eq_true_eq]
    rw [hb]
    by_cases hc:(2*(n+m)+1000)*bytes<=2^48/\n+m<2^62
    ·rw [if_pos hc,decide_eq_true hc]
     simp only [cond_true,NL,H.sZ,H.vZ,OU,UF]
     cases x with
     |sl id off len cap=>
      cases cap with
      |kn c=>
       simp only
       by_cases hle:len+m<=c
       ·rw [if_pos hle,(Nat.ble_eq).mpr hle];rfl
       ·rw [if_neg hle,show Nat.ble (len+m) c=false from by
         cases h9:Nat.ble (len+m) c with
         |false=>rfl
         |true=>exact absurd ((Nat.ble_eq).mp h9) hle];rfl
      |un e=>
       simp only
       cases h.get id with
       |none=>rfl
       |some o=>cases o with
        |cells ro vs=>cases ro with
         |true=>rfl
         |false=>
          simp only
          by_cases he:e=sz
          ·rw [if_pos he,(Nat.beq_eq).mpr he];rfl
          ·rw [if_neg he,show Nat.beq e sz=false from by
            cases h9:Nat.beq e sz with
            |false=>rfl
            |true=>exact absurd ((Nat.beq_eq).mp h9) he];rfl
        |_=>rfl
     |_=>rfl
    ·rw [if_neg hc,decide_eq_false hc];rfl
def aiL (ρ:X->V) (h:H) (sz bytes:Nat) (x y:X):Option (V×H):=match xF (ρ y) with
 |some m=>match CO h sz (ρ y) with
  |some ys=>VZ h sz bytes (ρ x) m ys
  |none=>none
 |none=>none
def evX (ρ:X->V) (h:H) (i:I):Option (V×H):=
 I.rec (motive:=λ _=>Option (V×H))
  (alW ρ h) (WO ρ h) (akF ρ h) (λ a b c d=>cY ρ h (.shf a b c d)) (λ a b c=>cY ρ h (.beq a b c)) (akY ρ h) (alL ρ h) (λ k x=>cY ρ h (.neg k x)) (λ k x=>cY ρ h (.conv k x))
  (WW ρ h) (ajC ρ h) (abC ρ h) (λ x=>cY ρ h (.lenm x)) (λ x=>cY ρ h (.caps x)) (λ m xs=>cY ρ h (.mm m xs)) (fLd ρ h) (fSt ρ h) (aiY ρ h) (alF ρ h)
  (λ a b c d e=>cY ρ h (.slc a b c d e)) (λ a b c d e=>cY ρ h (.mks a b c d e)) (aiM h) (λ x=>cY ρ h (.box x)) (λ z ps=>cY ρ h (.bld z ps)) (λ a b c d=>cY ρ h (.bls a b c d))
  (aiL ρ h) (λ a b c d e=>cY ρ h (.apz a b c d e)) (λ a b c=>cY ρ h (.cpy a b c)) (alK ρ h) (cY ρ h .mkm) (λ a b c d=>cY ρ h (.lkp a b c d)) (λ a b c=>cY ρ h (.mset a b c)) (alD ρ h)
  (akJ ρ h) (λ x=>cY ρ h (.cvs x)) (λ t x=>cY ρ h (.mif t x)) (λ a b=>cY ρ h (.mkw a b)) (λ s a b c d=>cY ρ h (.lkw s a b c d)) (λ s a b c=>cY ρ h (.msw s a b c)) (λ s a b c=>cY ρ h (.ent s a b c)) (λ a b c=>cY ρ h (.ens a b c)) (λ a b=>cY ρ h (.six a b)) (λ a b c=>cY ρ h (.seq a b c)) (λ a b=>cY ρ h (.sad a b)) (λ a=>cY ρ h (.cir a)) (λ a b c=>cY ρ h (.clr a b c)) (λ a b c d e=>cY ρ h (.sla a b c d e)) none i
theorem Ls (h:H) (o:Option V):YM h o=o.map (·,h):=by cases o<;>rfl
theorem ajX (h:H) (agg:Bool) (n:Nat) (v:V):ldX h agg n v=ldV h agg n v:=by
 unfold ldX ldV H.row
 cases v with
 |ptr id off=>
  simp only [H.vZ,DR]
  cases h.get id with
  |none=>rfl
  |some o=>cases o with
   |cells ro vs=>simp only;cases sub vs off n with
    |none=>rfl
    |some ws=>cases agg<;>rfl
   |_=>rfl
 |_=>rfl
theorem abX (h:H) (id off:Nat) (ws:List V):Yq h id off ws=h.put id off ws:=by
 unfold Yq H.put
 simp only [H.vZ,AY,H.sZ]
 cases h.get id with
 |none=>rfl
 |some o=>cases o with
  |cells ro vs=>cases ro<;>simp only<;>cases putAt vs off ws<;>rfl
  |_=>rfl
theorem aiF (ρ:X->V) (h:H) (i:I):evX ρ h i=cY ρ h i:=by
 cases i with
 |pick c a b=>
         show WO ρ h c a b=_;simp only [WO,cY];cases ρ c<;>try rfl
         rename_i t;cases t<;>rfl
 |bin op k x y=>show akF ρ h op k x y=_;simp only [akF,cY,Ls,TB];rfl
 |ext x i=>show ajC ρ h x i=_;simp only [ajC,cY,Ls];rfl
 |lens x=>show abC ρ h x=_;simp only [abC,cY];cases ρ x<;>rfl
 |ld agg n x=>show fLd ρ h agg n x=_;simp only [fLd,cY,Ls,ajX]
 |st n x y=>
  show fSt ρ h n x y=_
  simp only [fSt,cY,abX]
  cases ρ x<;>try rfl
  simp only
  split<;>try rfl
  cases h.put _ _ _<;>rfl
 |ixa sz x i=>
  show aiY ρ h sz x i=_
  simp only [aiY,cY,CW]
  cases ρ x<;>try rfl
  cases ρ i<;>try rfl
  rename_i id off len cap k n
  simp only
  cases n with
  |ofNat a=>
   simp only [OA]
   by_cases h1:a<len
   ·rw [(Nat.blt_eq).mpr h1]
    have h2:(0:Int)<=Int.ofNat a/\Int.ofNat a<(len:Int):=⟨Int.natCast_nonneg a,by simpa using h1⟩
    rw [if_pos h2];rfl
   ·have h3:Nat.blt a len=false:=by
     cases h4:Nat.blt a len with
     |false=>rfl
     |true=>exact absurd ((Nat.blt_eq).mp h4) h1
    rw [h3]
    have h2: ¬((0:Int)<=Int.ofNat a/\Int.ofNat a<(len:Int)):=λ h=>h1 (by simpa using h.2)
    rw [if_neg h2];rfl
  |negSucc a=>
   have h2: ¬((0:Int)<=Int.negSucc a/\Int.negSucc a<(len:Int)):=λ h=>by have:=h.1;omega
   rw [if_neg h2];rfl
 |ixd len sz x i=>
  show akJ ρ h len sz x i=_
  simp only [akJ,cY,TS]
  cases ρ x<;>try rfl
  cases ρ i<;>try rfl
  rename_i id off k n
  simp only
  cases n with
  |ofNat a=>
   simp only [OA]
   by_cases h1:a<len
   ·rw [(Nat.blt_eq).mpr h1]
    have h2:(0:Int)<=Int.ofNat a/\Int.ofNat a<(len:Int):=⟨Int.natCast_nonneg a,by simpa using h1⟩
    rw [if_pos h2];rfl
   ·have h3:Nat.blt a len=false:=by
     cases h4:Nat.blt a len with
     |false=>rfl
     |true=>exact absurd ((Nat.blt_eq).mp h4) h1
    rw [h3]
    have h2: ¬((0:Int)<=Int.ofNat a/\Int.ofNat a<(len:Int)):=λ h=>h1 (by simpa using h.2)
    rw [if_neg h2];rfl
  |negSucc a=>
   have h2: ¬((0:Int)<=Int.negSucc a/\Int.negSucc a<(len:Int)):=λ h=>by have:=h.1;omega
   rw [if_neg h2];rfl
 |alc z=>show aiM h z=_;simp only [aiM,cY,NL]
 |app sz b x y=>
  show aiL ρ h sz b x y=_
  simp only [aiL,cY,Yg,acB]
  cases xF (ρ y)<;>cases h.slice sz (ρ y)<;>rfl
 |part agg off n x=>
  show WW ρ h agg off n x=_
  simp only [WW,cY,DR,Ls]
  cases ρ x<;>try rfl
  cases agg
  ·rfl
  ·simp only [cond_true,if_true]
   cases sub _ _ _<;>rfl
 |_=>rfl
abbrev dZ:=Nat->List V->H->Option (V×H)
def Ot (cl:dZ) (g:Nat) (vs:List V) (h:H):Option (V×H):=
 cond (vs.all V.Oi) (match cl g vs ⟨.lf,0⟩ with|some (v,_)=>cond v.Oi (some (v,h)) none|none=>none) none
def nK (cl yl:dZ) (vars loc:List V) (h:H) (a:eD):Option (V×H):=
 eD.rec (motive:=λ _=>Option (V×H)) (evX (OS vars loc) h) (λ g args=>cl g (args.map (OS vars loc)) h)
  (λ x args=>match OS vars loc x with
   | .fn g fs cs=>cl g (fs++args.map (OS vars loc)++cs) h
   | .yl id=>yl id (args.map (OS vars loc)) h
   |_=>none)
  (λ g args=>Ot cl g (args.map (OS vars loc)) h)
  (λ g t x args=>match OS vars loc x with
   | .ifc u v=>cond (Nat.beq u t) (cl g (v::args.map (OS vars loc)) h) none
   |_=>none) a
theorem xR (cl yl:dZ) (vars loc:List V) (h:H) (i:I):nK cl yl vars loc h (.op i)=cY (xv vars loc) h i:=by
 show evX (OS vars loc) h i=_;rw [aiF,Ja]
theorem xC (cl yl:dZ) (vars loc:List V) (h:H) (g:Nat) (args:List X):nK cl yl vars loc h (.call g args)=cl g (args.map (xv vars loc)) h:=by
 show cl g (args.map (OS vars loc)) h=_;rw [Ja]
theorem uF (cl yl:dZ) (vars loc:List V) (h:H) (x:X) (args:List X):nK cl yl vars loc h (.callv x args)=match xv vars loc x with
   | .fn g fs cs=>cl g (fs++args.map (xv vars loc)++cs) h
   | .yl id=>yl id (args.map (xv vars loc)) h
   |_=>none:=by
 rw [←Ja];rfl
theorem tK (cl yl:dZ) (vars loc:List V) (h:H) (g t:Nat) (x:X) (args:List X):nK cl yl vars loc h (.calli g t x args)=match xv vars loc x with
   | .ifc u v=>cond (Nat.beq u t) (cl g (v::args.map (xv vars loc)) h) none
   |_=>none:=by
 rw [←Ja];rfl
theorem nQ (cl yl:dZ) (vars loc:List V) (h:H) (g:Nat) (args:List X):nK cl yl vars loc h (.callp g args)=Ot cl g (args.map (xv vars loc)) h:=by
 show Ot cl g (args.map (OS vars loc)) h=_;rw [Ja]
theorem An {cl:dZ} {g:Nat} {vs:List V} {h h':H} {v:V} (he:Ot cl g vs h=some (v,h')):h'=h/\vs.all V.Oi=true/\v.Oi=true/\ ∃ h2,cl g vs ⟨.lf,0⟩=some (v,h2):=by
 unfold Ot at he
 cases h1:vs.all V.Oi with
 |false=>rw [h1] at he;cases he
 |true=>
  rw [h1] at he
  simp only [cond_true] at he
  split at he
  ·rename_i w h2 hc
   cases h3:w.Oi with
   |false=>rw [h3] at he;cases he
   |true=>rw [h3] at he;cases he;exact ⟨rfl,rfl,h3,h2,hc⟩
  ·cases he
def Fp (vars loc:List V) (g:Option (X×Bool)):Option Bool:=
 match g with
 |none=>some true
 |some (x,b)=>match OS vars loc x with| .bool a=>some (a==b)| .tup []=>some false|_=>none
theorem Tc (vars loc:List V) (g:Option (X×Bool)):Fp vars loc g=gK vars loc g:=by
 unfold Fp gK;rw [Ja];rfl
def Lx {α:Type} (d:D) (vars loc:List V) (v:V) (k:List V->List V->α):α:=
 D.rec (λ i=>k (WN vars i v) loc) (k vars (v::loc)) (k vars loc) d
theorem ET {α:Type} (d:D) (vars loc:List V) (v:V) (k:List V->List V->α):Lx d vars loc v k=k (nM d vars loc v).1 (nM d vars loc v).2:=by
 cases d with
 |v i=>show k (WN vars i v) loc=_;rw [OY];rfl
 |l=>rfl
 |n=>rfl
def yU (cl yl:dZ) (its:List It):List V->List V->H->Option (List V×H):=
 List.rec (λ vars _ h=>some (vars,h)) (λ it _ ih vars loc h=>
  match Fp vars loc it.g with
  |some true=>match nK cl yl vars loc h it.a with
   |some (v,h)=>Lx it.d vars loc v λ vars loc=>ih vars loc h
   |none=>none
  |some false=>Lx it.d vars loc .undef λ vars loc=>ih vars loc h
  |none=>none) its
theorem Nh (cl yl:dZ) (vars loc:List V) (h:H):yU cl yl [] vars loc h=some (vars,h):=rfl
theorem pI (cl yl:dZ) (it:It) (its:List It) (vars loc:List V) (h:H):yU cl yl (it::its) vars loc h=
  match gK vars loc it.g with
  |some true=>match nK cl yl vars loc h it.a with
   |some (v,h)=>yU cl yl its (nM it.d vars loc v).1 (nM it.d vars loc v).2 h
   |none=>none
  |some false=>yU cl yl its (nM it.d vars loc .undef).1 (nM it.d vars loc .undef).2 h
  |none=>none:=by
 rw [←Tc]
 show (match Fp vars loc it.g with
  |some true=>match nK cl yl vars loc h it.a with
   |some (v,h)=>Lx it.d vars loc v λ vars loc=>yU cl yl its vars loc h
   |none=>none
  |some false=>Lx it.d vars loc .undef λ vars loc=>yU cl yl its vars loc h
  |none=>none)=_
 simp only [ET]
def zT (cl yl:dZ) (base:Nat) (xs:List AI):List V->Log->H->Option (List V×H):=
 List.rec (λ vars _ h=>some (vars,h)) (λ x _ ih vars log h=>
  match Fp vars [] x.it.g with
  |some true=>
   match cond x.al (Um vars h (base+x.i) x.it.a) (nK cl yl vars [] h x.it.a) with
   |some (v,h)=>if tV x.cks log h then Lx x.it.d vars [] v λ vars' _=>ih vars' (Pk x vars v log) h else none
   |none=>none
  |some false=>if tV x.cks log h then Lx x.it.d vars [] .undef λ vars' _=>ih vars' log h else none
  |none=>none) xs
theorem Na (cl yl:dZ) (base:Nat) (vars:List V) (log:Log) (h:H):zT cl yl base [] vars log h=some (vars,h):=rfl
theorem jZ (cl yl:dZ) (base:Nat) (x:AI) (xs:List AI) (vars:List V) (log:Log) (h:H):zT cl yl base (x::xs) vars log h=
  match gK vars [] x.it.g with
  |some true=>
   match (if x.al then Um vars h (base+x.i) x.it.a else nK cl yl vars [] h x.it.a) with
   |some (v,h)=>if tV x.cks log h then zT cl yl base xs (nM x.it.d vars [] v).1 (Pk x vars v log) h else none
   |none=>none
  |some false=>if tV x.cks log h then zT cl yl base xs (nM x.it.d vars [] .undef).1 log h else none
  |none=>none:=by
 rw [←Tc]
 show (match Fp vars [] x.it.g with
  |some true=>
   match cond x.al (Um vars h (base+x.i) x.it.a) (nK cl yl vars [] h x.it.a) with
   |some (v,h)=>if tV x.cks log h then Lx x.it.d vars [] v λ vars' _=>zT cl yl base xs vars' (Pk x vars v log) h else none
   |none=>none
  |some false=>if tV x.cks log h then Lx x.it.d vars [] .undef λ vars' _=>zT cl yl base xs vars' log h else none
  |none=>none)=_
 simp only [ET,Bool.cond_eq_ite]
abbrev GU:=Option (E×List V×UP×H)
def Ez (step:List V->H->GU) (n:Nat):List V->H->GU:=
 Nat.rec (λ _ _=>none) (λ _ ih vars h=>match step vars h with
  |some (.norm,vars,dfs,h)=>match ih vars h with
   |some (e,vars,dfs2,h)=>some (e,vars,dfs2++dfs,h)
   |none=>none
  |r=>r) n
theorem Uj (step:List V->H->GU) (vars:List V) (h:H):Ez step 0 vars h=none:=rfl
theorem xO (step:List V->H->GU) (n:Nat) (vars:List V) (h:H):Ez step (n+1) vars h=match step vars h with
  |some (.norm,vars,dfs,h)=>match Ez step n vars h with
   |some (e,vars,dfs2,h)=>some (e,vars,dfs2++dfs,h)
   |none=>none
  |r=>r:=rfl
def ajM (a b:List V->H->GU) (vars:List V) (h:H):GU:=match a vars h with
 |some (.norm,vars,dfs,h)=>match b vars h with
  |some (e,vars,dfs2,h)=>some (e,vars,dfs2++dfs,h)
  |none=>none
 |r=>r
def akH (x:X) (a b:List V->H->GU) (vars:List V) (h:H):GU:=match OS vars [] x with
 | .bool true=>a vars h
 | .bool false=>b vars h
 |_=>none
def VK (id:Nat) (a:List V->H->GU) (vars:List V) (h:H):GU:=match a vars h with
 |some (.exit n,vars,dfs,h)=>if n=id then some (.norm,vars,dfs,h) else some (.exit n,vars,dfs,h)
 |r=>r
def ahQ (cl yl:dZ) (its:List It) (vars:List V) (h:H):GU:=match yU cl yl its vars [] h with
 |some (vars,h)=>some (.norm,vars, [],h)
 |none=>none
def ahS (cl yl:dZ) (k nl:Nat) (its:List AI) (vars:List V) (h:H):GU:=
 match zT cl yl h.next its (vars++List.replicate nl .unk) [] {h with next:=h.next+k} with
 |some (vs,h)=>some (.norm,vs.take vars.length, [],h)
 |none=>none
def Rd (cl yl:dZ) (rd:Option Nat) (its:List It) (x:X) (args:List X) (vars:List V) (h:H):GU:=
 if rd.isSome then none else match yU cl yl its vars [] h with
  |some (vars,h)=>match xv vars [] x with
   | .fn g fs cs=>some (.norm,vars, [(g,fs++args.map (xv vars [])++cs)],h)
   |_=>none
  |none=>none
def Dc (cl:dZ) (rd:Option Nat) (x:X) (pars:List Nat) (assign body:C) (vars:List V) (h:H):GU:=
 match xv vars [] x with
 | .fn g fs cs=>
  if RV rd h then
  match cl g (fs++ .yl h.next::cs) (h.new (.loop {vars,pars,assign,body,st:= .ready,pend:=none})) with
  |some (_,h')=>
   match h'.get h.next with
   |some (.loop r)=>
    if r.st= .busy then none else
    some (r.pend.getD .norm,vars, [],h'.set h.next (some (.loop {r with st:= .out})))
   |_=>none
  |none=>none
  else none
 |_=>none
def run (cl yl:dZ) (N:Nat) (rd:Option Nat) (c:C):List V->H->GU:=
 C.rec (motive:=λ _=>List V->H->GU) (λ vars h=>some (.norm,vars, [],h)) (ahQ cl yl) (ahS cl yl) (Rd cl yl rd) (λ _ _ a b=>ajM a b) (λ x _ _ a b=>akH x a b) (λ id _ a=>VK id a)
  (λ _ a=>Ez a N) (λ n vars h=>some (.exit n,vars, [],h)) (λ vars h=>some (.ret,vars, [],h)) (λ _ a=>a) (λ x pars as bd _ _=>Dc cl rd x pars as bd) (λ _ _=>none) c
section
variable (cl yl:dZ) (N:Nat) (rd:Option Nat) (vars:List V) (h:H)
theorem Ke:run cl yl N rd .skip vars h=some (.norm,vars, [],h):=rfl
theorem AE (its:List It):run cl yl N rd (.reg its) vars h=match yU cl yl its vars [] h with
 |some (vars,h)=>some (.norm,vars, [],h)
 |none=>none:=rfl
theorem CN (k nl:Nat) (its:List AI):run cl yl N rd (.any k nl its) vars h=match zT cl yl h.next its (vars++List.replicate nl .unk) [] {h with next:=h.next+k} with
 |some (vs,h)=>some (.norm,vs.take vars.length, [],h)
 |none=>none:=rfl
theorem EK (its:List It) (x:X) (args:List X):run cl yl N rd (.regd its x args) vars h=Rd cl yl rd its x args vars h:=rfl
theorem run_seq (a b:C):run cl yl N rd (.seq a b) vars h=match run cl yl N rd a vars h with
 |some (.norm,vars,dfs,h)=>match run cl yl N rd b vars h with
  |some (e,vars,dfs2,h)=>some (e,vars,dfs2++dfs,h)
  |none=>none
 |r=>r:=rfl
theorem run_ite (x:X) (a b:C):run cl yl N rd (.ite x a b) vars h=match xv vars [] x with
 | .bool true=>run cl yl N rd a vars h
 | .bool false=>run cl yl N rd b vars h
 |_=>none:=by rw [←Ja];rfl
theorem Ng (id:Nat) (a:C):run cl yl N rd (.block id a) vars h=match run cl yl N rd a vars h with
 |some (.exit n,vars,dfs,h)=>if n=id then some (.norm,vars,dfs,h) else some (.exit n,vars,dfs,h)
 |r=>r:=rfl
theorem Uq (a:C):run cl yl N rd (.loop a) vars h=Ez (run cl yl N rd a) N vars h:=rfl
theorem Ro (n:Nat):run cl yl N rd (.exit n) vars h=some (.exit n,vars, [],h):=rfl
theorem DM:run cl yl N rd .ret vars h=some (.ret,vars, [],h):=rfl
theorem Nl (a:C):run cl yl N rd (.scope a) vars h=run cl yl N rd a vars h:=rfl
theorem Np (x:X) (pars:List Nat) (a b:C):run cl yl N rd (.range x pars a b) vars h=Dc cl rd x pars a b vars h:=rfl
end
def Ih (p:Nat->Option Fn) (cl:dZ) (dfs:UP):H->Option H:=
 List.rec (λ h=>some h) (λ d _ ih h=>match p d.1 with
  |some fn=>if fn.body.CF then (match cl d.1 d.2 h with|some (_,h)=>ih h|none=>none) else none
  |none=>none) dfs
theorem zV (p:Nat->Option Fn) (cl:dZ) (h:H):Ih p cl [] h=some h:=rfl
theorem Wd (p:Nat->Option Fn) (cl:dZ) (g:Nat) (args:List V) (r:UP) (h:H):Ih p cl ((g,args)::r) h=match p g with
  |some fn=>if fn.body.CF then (match cl g args h with|some (_,h)=>Ih p cl r h|none=>none) else none
  |none=>none:=rfl
def Em (p:Nat->Option Fn) (cl yl:dZ) (N:Nat):dZ:=λ g args h=>
 match p g with
 |none=>none
 |some fn=>
  if args.length=fn.nargs then
   match run cl yl N none fn.body (Ln fn args) h with
   |some (.norm,vars,dfs,h)|some (.ret,vars,dfs,h)=>
    match Ih p cl dfs h with
    |some h=>(cI (fn.results.map (Hu vars h))).map λ vs=>(Oj vs,h)
    |none=>none
   |_=>none
  else none
def zI (cl yl:dZ) (N:Nat):dZ:=λ id args h=>
 match h.get id with
 |some (.loop r)=>
  if args.length=r.pars.length then
   match run cl yl N (some id) r.assign ((r.pars.zip args).foldl (λ vs q=>vs.set q.1 q.2) r.vars) h with
   |some (.norm,vars,_,h)=>
    match h.get id with
    |some (.loop r2)=>
     if r2.st= .ready then
      match run cl yl N (some id) r.body vars (h.set id (some (.loop {r2 with st:= .busy}))) with
      |some (e,_,_,h)=>
       match h.get id with
       |some (.loop r3)=>
        (match e with
        | .norm=>some (.bool true,h.set id (some (.loop {r3 with st:= .ready,pend:=none})))
        |e=>some (.bool false,h.set id (some (.loop {r3 with st:= .done,pend:=some e}))))
       |_=>none
      |none=>none
     else none
    |_=>none
   |_=>none
  else none
 |_=>none
def lK (p:Nat->Option Fn) (N f:Nat):dZ×dZ:=
 Nat.rec (λ _ _ _=>none,λ _ _ _=>none) (λ _ q=>(Em p q.1 q.2 N,zI q.1 q.2 N)) f
def ajE (p:Nat->Option Fn) (N f:Nat):dZ:=(lK p N f).1
theorem GF (p:Nat->Option Fn) (N:Nat):lK p N 0=(λ _ _ _=>none,λ _ _ _=>none):=rfl
theorem uD (p:Nat->Option Fn) (N f:Nat):lK p N (f+1)=(Em p (lK p N f).1 (lK p N f).2 N,zI (lK p N f).1 (lK p N f).2 N):=rfl
end
end Go.Ay
