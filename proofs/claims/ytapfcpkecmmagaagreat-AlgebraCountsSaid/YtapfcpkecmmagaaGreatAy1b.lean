/- The evaluator: calls by levels, loops by fuel, all else by recursion on the code. -/
import Derived.Test.YtapfcpkecmmagaaGreatAy1
namespace Go.Ay
noncomputable section
def HG (ρ:X->V)(h:H)(x:X):Option (V×H):=some (ρ x,h)
def Tq (ρ:X->V)(h:H)(c a b:X):Option (V×H):=match ρ c with| .bool t=>some (cond t (ρ a) (ρ b),h)|_=>none
def Wu (h:H)(o:Option V):Option (V×H):=Option.rec none (λv=>some (v,h)) o
def DB (ρ:X->V)(h:H)(op:BinOp)(k:IntKind)(x y:X):Option (V×H):=match ρ x,ρ y with
 | .int j a,.int j' b=>if j=k/\j'=k then Wu h (Md op k a b) else none
 |_,_=>none
def FY (ρ:X->V)(h:H)(neg:Bool)(x:X):Option (V×H):=match ρ x with
 | .aD=>some (.bool (!neg),h)
 | .sl .. | .emp _=>some (.bool neg,h)
 |_=>none
def HC (ρ:X->V)(h:H)(x:X):Option (V×H):=match ρ x with| .bool a=>some (.bool (!a),h)|_=>none
def CY (ρ:X->V)(h:H)(x:X)(i:Nat):Option (V×H):=match ρ x with| .tup vs=>Wu h (vs[i]?)|_=>none
def Xi (ρ:X->V)(h:H)(x:X):Option (V×H):=match ρ x with
 | .aD=>some (.int .i64 0,h)
 | .emp _=>some (.int .i64 0,h)
 | .sl _ _ len _=>some (.int .i64 (len:Int),h)
 |_=>none
def GV (h:H)(agg:Bool)(n:Nat)(v:V):Option V:=match v with
 | .ptr id off=>match h.Ct id with
  |some (.cells _ vs)=>match Uo vs off n with
   |some ws=>cond agg (some (.agg ws)) (match ws with| [v]=>some v|_=>none)
   |none=>none
  |_=>none
 |_=>none
def GZ (ρ:X->V)(h:H)(agg:Bool)(n:Nat)(x:X):Option (V×H):=Wu h (GV h agg n (ρ x))
def Dp (h:H)(id off:Nat)(ws:List V):Option H:=match h.Ct id with
 |some (.cells false vs)=>match Zh off ws vs with
  |some vs'=>some (h.Ad id (some (.cells false vs')))
  |none=>none
 |_=>none
def HF (ρ:X->V)(h:H)(n:Nat)(x y:X):Option (V×H):=match ρ x with
 | .ptr id off=>if (ρ y).cells.length=n/\(ρ y).cells.all V.one then (match Dp h id off (ρ y).cells with|some h'=>some (V.undef,h')|none=>none) else none
 |_=>none
def Om (n:Int):Option Nat:=Int.rec (λa=>some a) (λ_=>none) n
def CS (ρ:X->V)(h:H)(sz:Nat)(x i:X):Option (V×H):=match ρ x,ρ i with
 | .sl id off len _,.int _ n=>(match Om n with|some k=>cond (Nat.blt k len) (some (.ptr id (off+k*sz),h)) none|none=>none)
 |_,_=>none
def CT (ρ:X->V)(h:H)(n sz:Nat)(x i:X):Option (V×H):=match ρ x,ρ i with
 | .ptr id off,.int _ z=>(match Om z with|some k=>cond (Nat.blt k n) (some (.ptr id (off+k*sz),h)) none|none=>none)
 |_,_=>none
def HJ (ρ:X->V)(h:H)(off:Nat)(x:X):Option (V×H):=match ρ x with| .ptr id o=>some (.ptr id (o+off),h)|_=>none
def Vf (ρ:X->V)(h:H)(agg:Bool)(off n:Nat)(x:X):Option (V×H):=match ρ x with
 | .agg vs=>cond agg (match Uo vs off n with|some ws=>some (.agg ws,h)|none=>none) (Wu h (vs[off]?))
 |_=>none
def HP (ρ:X->V)(h:H)(f:Nat)(fs cs:List X):Option (V×H):=some (.fn f (fs.map ρ) (cs.map ρ),h)
def Xv (h:H)(o:Ob):H:=H.rec (λt n=>⟨Tr.Ad (n+1) t n (some o),n+1⟩) h
theorem Nz (h:H)(o:Ob):Xv h o=h.new o:=by
 cases h;show H.mk _ _=_;rw[←Tr.lM];rfl
def DR (h:H)(zero:List V):Option (V×H):=some (.ptr h.next 0,Xv h (.cells false zero))
def HO (ρ:X->V)(h:H)(x:X):Option (V×H):=match ρ x with| .ptr id off=>some (.ptr id off,h)|_=>none
def EV (h:H)(id off n:Nat):Option (List V):=match h.Ct id with
 |some (.cells _ vs)=>Uo vs off n
 |_=>none
theorem Zf (h:H)(id off n:Nat):EV h id off n=h.row id off n:=by
 unfold EV H.row;rw[H.mO]
 cases h.get id with
 |none=>rfl
 |some o=>cases o<;>simp only[Ft]
def Gv (h:H)(sz:Nat):V->Option (List V)
 | .aD=>some []
 | .emp _=>some []
 | .sl id off len _=>EV h id off (len*sz)
 |_=>none
theorem Dg (h:H)(sz:Nat)(v:V):Gv h sz v=h.slice sz v:=by
 cases v<;>simp only[Gv,H.slice,Zf]
def Vr (l m:List V):List V:=List.rec m (λv _ ih=>v::ih) l
theorem Oi: ∀(l m:List V),Vr l m=l++m
 | [],_=>rfl
 |v::l,m=>by show v::Vr l m=_;rw[Oi l m];rfl
def Tv (h:H)(sz bytes:Nat)(x:V)(m:Nat)(ys:List V):Option (V×H):=
 match mH x with
 |some n=>
  match Gv h sz x with
  |some xs=>
  if m=0 then some (x,h) else
  cond (Nat.ble ((2*(n+m)+1000)*bytes) 281474976710656&&Nat.blt (n+m) 4611686018427387904) (
   match x with
   | .sl id off len (.kn c)=>
    cond (Nat.ble (len+m) c) (match Dp h id (off+len*sz) ys with
     |some h'=>some (.sl id off (len+m) (.kn c),h')
     |none=>none)
    (some (.sl h.next 0 (n+m) (.un sz),Xv h (.cells false (Vr xs ys))))
   | .sl id _ _ (.un e)=>
    match h.Ct id with
    |some (.cells false _)=>cond (Nat.beq e sz) (some (.sl h.next 0 (n+m) (.un sz),Xv (h.Ad id none) (.cells false (Vr xs ys)))) none
    |_=>none
   | .emp _=>none
   |_=>some (.sl h.next 0 (n+m) (.un sz),Xv h (.cells false (Vr xs ys)))) none
  |none=>none
 |none=>none
theorem Sa (h:H)(id off:Nat)(ws:List V):Dp h id off ws=h.put id off ws:=by
 unfold Dp H.put;simp only[H.mO,Hg,H.lM]
 cases h.get id with
 |none=>rfl
 |some o=>cases o with
  |cells ro vs=>cases ro<;>simp only<;>cases putAt vs off ws<;>rfl
  |_=>rfl
theorem Ua (h:H)(sz bytes:Nat)(x:V)(m:Nat)(g:List V):Tv h sz bytes x m g=qB h sz bytes x m g:=by
 unfold Tv qB;rw[Dg]
 cases hn:mH x with
 |none=>rfl
 |some n=>
  cases hs:h.slice sz x with
  |none=>rfl
  |some xs=>
   simp only
   by_cases f:m=0
   ·simp [f]
   ·simp only[f,if_false]
    have f:(Nat.ble ((2*(n+m)+1000)*bytes) 281474976710656&&Nat.blt (n+m) 4611686018427387904)=decide ((2*(n+m)+1000)*bytes<=2^48/\n+m<2^62):=by
     rw[wW];simp only[pQ,Nat.ble_eq,Nat.blt_eq,decide_eq_true_eq]
    rw[f]
    by_cases d:(2*(n+m)+1000)*bytes<=2^48/\n+m<2^62
    ·rw[aV d,decide_eq_true d]
     simp only[cond_true,Nz,H.lM,H.mO,Oi,Sa]
     cases x with
     |sl id off len cap=>
      cases cap with
      |kn c=>
       simp only
       by_cases a:len+m<=c
       ·rw[aV a,(Nat.ble_eq).mpr a];rfl
       ·rw[aZ a,show Nat.ble (len+m) c=false from by
         cases h9:Nat.ble (len+m) c with
         |false=>rfl
         |true=>exact absurd ((Nat.ble_eq).mp h9) a];rfl
      |un e=>
       simp only
       cases h.get id with
       |none=>rfl
       |some o=>cases o with
        |cells ro vs=>cases ro with
         |true=>rfl
         |false=>
          simp only
          by_cases b:e=sz
          ·rw[aV b,(Nat.beq_eq).mpr b];rfl
          ·rw[aZ b,show Nat.beq e sz=false from by
            cases h9:Nat.beq e sz with
            |false=>rfl
            |true=>exact absurd ((Nat.beq_eq).mp h9) b];rfl
        |_=>rfl
     |_=>rfl
    ·rw[aZ d,decide_eq_false d];rfl
def CC (ρ:X->V)(h:H)(sz bytes:Nat)(x y:X):Option (V×H):=match mH (ρ y) with
 |some m=>match Gv h sz (ρ y) with
  |some ys=>Tv h sz bytes (ρ x) m ys
  |none=>none
 |none=>none
def HE (ρ:X->V)(h:H)(i:I):Option (V×H):=
 I.rec (motive:=λ_=>Option (V×H))
  (HG ρ h) (Tq ρ h) (DB ρ h) (λa b c d=>cW ρ h (.shf a b c d)) (λa b c=>cW ρ h (.beq a b c)) (FY ρ h) (HC ρ h) (λk x=>cW ρ h (.neg k x)) (λk x=>cW ρ h (.conv k x))
  (Vf ρ h) (CY ρ h) (Xi ρ h) (λx=>cW ρ h (.lenm x)) (λx=>cW ρ h (.caps x)) (λm xs=>cW ρ h (.mm m xs)) (GZ ρ h) (HF ρ h) (CS ρ h) (HJ ρ h)
  (λa b c d e=>cW ρ h (.slc a b c d e)) (λa b c d e=>cW ρ h (.mks a b c d e)) (DR h) (λx=>cW ρ h (.box x)) (λz ps=>cW ρ h (.bld z ps)) (λa b c d=>cW ρ h (.bls a b c d))
  (CC ρ h) (λa b c d e=>cW ρ h (.apz a b c d e)) (λa b c=>cW ρ h (.cpy a b c)) (HP ρ h) (cW ρ h .mkm) (λa b c d=>cW ρ h (.lkp a b c d)) (λa b c=>cW ρ h (.mset a b c)) (HO ρ h)
  (CT ρ h) (λx=>cW ρ h (.cvs x)) (λt x=>cW ρ h (.mif t x)) (λa b=>cW ρ h (.mkw a b)) (λs a b c d=>cW ρ h (.lkw s a b c d)) (λs a b c=>cW ρ h (.msw s a b c)) (λs a b c=>cW ρ h (.ent s a b c)) (λa b c=>cW ρ h (.ens a b c)) (λa b=>cW ρ h (.six a b)) (λa b c=>cW ρ h (.seq a b c)) (λa b=>cW ρ h (.sad a b)) (λa=>cW ρ h (.cir a)) (λa b c=>cW ρ h (.clr a b c)) (λa b c d e=>cW ρ h (.sla a b c d e)) none i
theorem uL (h:H)(o:Option V):Wu h o=o.map (·,h):=by cases o<;>rfl
theorem EG (h:H)(agg:Bool)(n:Nat)(v:V):GV h agg n v=Yc h agg n v:=by
 unfold GV Yc H.row
 cases v with
 |ptr id off=>
  simp only[H.mO,Ft]
  cases h.get id with
  |none=>rfl
  |some o=>cases o with
   |cells ro vs=>simp only;cases sub vs off n with
    |none=>rfl
    |some ws=>cases agg<;>rfl
   |_=>rfl
 |_=>rfl
theorem Ux (h:H)(id off:Nat)(ws:List V):Dp h id off ws=h.put id off ws:=by
 unfold Dp H.put;simp only[H.mO,Hg,H.lM]
 cases h.get id with
 |none=>rfl
 |some o=>cases o with
  |cells ro vs=>cases ro<;>simp only<;>cases putAt vs off ws<;>rfl
  |_=>rfl
theorem DO (ρ:X->V)(h:H)(i:I):HE ρ h i=cW ρ h i:=by
 cases i with
 |pick c a b=>
         show Tq ρ h c a b=_;simp only[Tq,cW];cases ρ c<;>try rfl
         rename_i t;cases t<;>rfl
 |bin op k x y=>show DB ρ h op k x y=_;simp only[DB,cW,uL,Rk];rfl
 |ext x i=>show CY ρ h x i=_;simp only[CY,cW,uL];rfl
 |lens x=>show Xi ρ h x=_;simp only[Xi,cW];cases ρ x<;>rfl
 |ld agg n x=>show GZ ρ h agg n x=_;simp only[GZ,cW,uL,EG]
 |st n x y=>
  show HF ρ h n x y=_;simp only[HF,cW,Ux];cases ρ x<;>try rfl
  simp only;split<;>try rfl
  cases h.put _ _ _<;>rfl
 |ixa sz x i=>
  show CS ρ h sz x i=_;simp only[CS,cW,Ko];cases ρ x<;>try rfl
  cases ρ i<;>try rfl
  rename_i id f len j k n;simp only
  cases n with
  |ofNat a=>
   simp only[Om]
   by_cases e:a<len
   ·rw[(Nat.blt_eq).mpr e]
    have d:(0:Int)<=Int.ofNat a/\Int.ofNat a<(len:Int):=⟨Int.natCast_nonneg a,by simpa using e⟩
    rw[aV d];rfl
   ·have g:Nat.blt a len=false:=by
     cases h4:Nat.blt a len with
     |false=>rfl
     |true=>exact absurd ((Nat.blt_eq).mp h4) e
    rw[g];have d: ¬((0:Int)<=Int.ofNat a/\Int.ofNat a<(len:Int)):=λh=>e (by simpa using h.2)
    rw[aZ d];rfl
  |negSucc a=>
   have d: ¬((0:Int)<=Int.negSucc a/\Int.negSucc a<(len:Int)):=λh=>by have:=h.1;omega
   rw[aZ d];rfl
 |ixd len sz x i=>
  show CT ρ h len sz x i=_;simp only[CT,cW,Rg];cases ρ x<;>try rfl
  cases ρ i<;>try rfl
  rename_i id f k n;simp only
  cases n with
  |ofNat a=>
   simp only[Om]
   by_cases e:a<len
   ·rw[(Nat.blt_eq).mpr e]
    have d:(0:Int)<=Int.ofNat a/\Int.ofNat a<(len:Int):=⟨Int.natCast_nonneg a,by simpa using e⟩
    rw[aV d];rfl
   ·have g:Nat.blt a len=false:=by
     cases h4:Nat.blt a len with
     |false=>rfl
     |true=>exact absurd ((Nat.blt_eq).mp h4) e
    rw[g];have d: ¬((0:Int)<=Int.ofNat a/\Int.ofNat a<(len:Int)):=λh=>e (by simpa using h.2)
    rw[aZ d];rfl
  |negSucc a=>
   have d: ¬((0:Int)<=Int.negSucc a/\Int.negSucc a<(len:Int)):=λh=>by have:=h.1;omega
   rw[aZ d];rfl
 |alc z=>show DR h z=_;simp only[DR,cW,Nz]
 |app sz b x y=>
  show CC ρ h sz b x y=_;simp only[CC,cW,Dg,Ua];cases mH (ρ y)<;>cases h.slice sz (ρ y)<;>rfl
 |part agg f n x=>
  show Vf ρ h agg f n x=_;simp only[Vf,cW,Ft,uL];cases ρ x<;>try rfl
  cases agg
  ·rfl
  ·simp only[cond_true,if_true]
   cases sub _ _ _<;>rfl
 |_=>rfl
abbrev dP:=Nat->List V->H->Option (V×H)
def xX (cl:dP)(g:Nat)(vs:List V)(h:H):Option (V×H):=
 cond (vs.all V.wJ) (match cl g vs ⟨.lf,0⟩ with|some (v,_)=>cond v.wJ (some (v,h)) none|none=>none) none
def jI (cl yl:dP)(vars loc:List V)(h:H)(a:dR):Option (V×H):=
 dR.rec (motive:=λ_=>Option (V×H)) (HE (Nh vars loc) h) (λg args=>cl g (args.map (Nh vars loc)) h)
  (λx args=>match Nh vars loc x with
   | .fn g fs cs=>cl g (fs++args.map (Nh vars loc)++cs) h
   | .yl id=>yl id (args.map (Nh vars loc)) h
   |_=>none)
  (λg args=>xX cl g (args.map (Nh vars loc)) h)
  (λg t x args=>match Nh vars loc x with
   | .ifc u v=>cond (Nat.beq u t) (cl g (v::args.map (Nh vars loc)) h) none
   |_=>none) a
theorem nE (c d:dP)(a b:List V)(h:H)(i:I):jI c d a b h (.op i)=cW (xv a b) h i:=by
 show HE (Nh a b) h i=_;rw[DO,uD]
theorem mV (c d:dP)(a b:List V)(h:H)(g:Nat)(args:List X):jI c d a b h (.call g args)=c g (args.map (xv a b)) h:=by
 show c g (args.map (Nh a b)) h=_;rw[uD]
theorem mB (c yl:dP)(a b:List V)(h:H)(x:X)(args:List X):jI c yl a b h (.callv x args)=match xv a b x with
   | .fn g fs cs=>c g (fs++args.map (xv a b)++cs) h
   | .yl id=>yl id (args.map (xv a b)) h
   |_=>none:=by
 rw[←uD];rfl
theorem lU (c d:dP)(a b:List V)(h:H)(g t:Nat)(x:X)(args:List X):jI c d a b h (.calli g t x args)=match xv a b x with
   | .ifc u v=>cond (Nat.beq u t) (c g (v::args.map (xv a b)) h) none
   |_=>none:=by
 rw[←uD];rfl
theorem jG (c d:dP)(a b:List V)(h:H)(g:Nat)(args:List X):jI c d a b h (.callp g args)=xX c g (args.map (xv a b)) h:=by
 show xX c g (args.map (Nh a b)) h=_;rw[uD]
theorem qF {b:dP}{g:Nat}{vs:List V}{h h':H}{v:V}(a:xX b g vs h=some (v,h')):h'=h/\vs.all V.wJ=true/\v.wJ=true/\ ∃h2,b g vs ⟨.lf,0⟩=some (v,h2):=by
 unfold xX at a
 cases h1:vs.all V.wJ with
 |false=>rw[h1] at a;cases a
 |true=>
  rw[h1] at a;simp only[cond_true] at a;split at a
  ·rename_i w h2 c
   cases h3:w.wJ with
   |false=>rw[h3] at a;cases a
   |true=>rw[h3] at a;cases a;exact⟨rfl,rfl,h3,h2,c⟩
  ·cases a
def sH (vars loc:List V)(g:Option (X×Bool)):Option Bool:=
 match g with
 |none=>some true
 |some (x,b)=>match Nh vars loc x with| .bool a=>some (a==b)| .tup []=>some false|_=>none
theorem zY (a b:List V)(g:Option (X×Bool)):sH a b g=fJ a b g:=by
 unfold sH fJ;rw[uD];rfl
def uE {α:Type}(d:D)(vars loc:List V)(v:V)(k:List V->List V->α):α:=
 D.rec (λi=>k (Xf vars i v) loc) (k vars (v::loc)) (k vars loc) d
theorem Hv {α:Type}(d:D)(a b:List V)(v:V)(k:List V->List V->α):uE d a b v k=k (jJ d a b v).1 (jJ d a b v).2:=by
 cases d with
 |v i=>show k (Xf a i v) b=_;rw[Nu];rfl
 |l=>rfl
 |n=>rfl
def oD (cl yl:dP)(its:List It):List V->List V->H->Option (List V×H):=
 List.rec (λvars _ h=>some (vars,h)) (λit _ ih vars loc h=>
  match sH vars loc it.g with
  |some true=>match jI cl yl vars loc h it.a with
   |some (v,h)=>uE it.d vars loc v λvars loc=>ih vars loc h
   |none=>none
  |some false=>uE it.d vars loc .undef λvars loc=>ih vars loc h
  |none=>none) its
theorem xE (c d:dP)(a b:List V)(h:H):oD c d [] a b h=some (a,h):=rfl
theorem jX (i f:dP)(it:It)(e:List It)(b c:List V)(h:H):oD i f (it::e) b c h=
  match fJ b c it.g with
  |some true=>match jI i f b c h it.a with
   |some (v,h)=>oD i f e (jJ it.d b c v).1 (jJ it.d b c v).2 h
   |none=>none
  |some false=>oD i f e (jJ it.d b c .undef).1 (jJ it.d b c .undef).2 h
  |none=>none:=by
 rw[←zY]
 show (match sH b c it.g with
  |some true=>match jI i f b c h it.a with
   |some (v,h)=>uE it.d b c v λb c=>oD i f e b c h
   |none=>none
  |some false=>uE it.d b c .undef λb c=>oD i f e b c h
  |none=>none)=_
 simp only[Hv]
def oW (cl yl:dP)(base:Nat)(xs:List AI):List V->Log->H->Option (List V×H):=
 List.rec (λvars _ h=>some (vars,h)) (λx _ ih vars log h=>
  match sH vars [] x.it.g with
  |some true=>
   match cond x.al (zJ vars h (base+x.i) x.it.a) (jI cl yl vars [] h x.it.a) with
   |some (v,h)=>if mC x.cks log h then uE x.it.d vars [] v λvars' _=>ih vars' (yT x vars v log) h else none
   |none=>none
  |some false=>if mC x.cks log h then uE x.it.d vars [] .undef λvars' _=>ih vars' log h else none
  |none=>none) xs
theorem xI (c d:dP)(base:Nat)(a:List V)(b:Log)(h:H):oW c d base [] a b h=some (a,h):=rfl
theorem iD (j f:dP)(base:Nat)(x:AI)(xs:List AI)(b:List V)(c:Log)(h:H):oW j f base (x::xs) b c h=
  match fJ b [] x.it.g with
  |some true=>
   match (if x.al then zJ b h (base+x.i) x.it.a else jI j f b [] h x.it.a) with
   |some (v,h)=>if mC x.cks c h then oW j f base xs (jJ x.it.d b [] v).1 (yT x b v c) h else none
   |none=>none
  |some false=>if mC x.cks c h then oW j f base xs (jJ x.it.d b [] .undef).1 c h else none
  |none=>none:=by
 rw[←zY]
 show (match sH b [] x.it.g with
  |some true=>
   match cond x.al (zJ b h (base+x.i) x.it.a) (jI j f b [] h x.it.a) with
   |some (v,h)=>if mC x.cks c h then uE x.it.d b [] v λe _=>oW j f base xs e (yT x b v c) h else none
   |none=>none
  |some false=>if mC x.cks c h then uE x.it.d b [] .undef λe _=>oW j f base xs e c h else none
  |none=>none)=_
 simp only[Hv,Bool.cond_eq_ite]
abbrev Ju:=Option (E×List V×Sz×H)
def rD (step:List V->H->Ju)(n:Nat):List V->H->Ju:=
 Nat.rec (λ_ _=>none) (λ_ ih vars h=>match step vars h with
  |some (.norm,vars,dfs,h)=>match ih vars h with
   |some (e,vars,dfs2,h)=>some (e,vars,dfs2++dfs,h)
   |none=>none
  |r=>r) n
theorem zL (step:List V->H->Ju)(a:List V)(h:H):rD step 0 a h=none:=rfl
theorem mQ (step:List V->H->Ju)(n:Nat)(a:List V)(h:H):rD step (n+1) a h=match step a h with
  |some (.norm,a,dfs,h)=>match rD step n a h with
   |some (e,a,dfs2,h)=>some (e,a,dfs2++dfs,h)
   |none=>none
  |r=>r:=rfl
def DG (a b:List V->H->Ju)(vars:List V)(h:H):Ju:=match a vars h with
 |some (.norm,vars,dfs,h)=>match b vars h with
  |some (e,vars,dfs2,h)=>some (e,vars,dfs2++dfs,h)
  |none=>none
 |r=>r
def DD (x:X)(a b:List V->H->Ju)(vars:List V)(h:H):Ju:=match Nh vars [] x with
 | .bool true=>a vars h
 | .bool false=>b vars h
 |_=>none
def Xo (id:Nat)(a:List V->H->Ju)(vars:List V)(h:H):Ju:=match a vars h with
 |some (.exit n,vars,dfs,h)=>if n=id then some (.norm,vars,dfs,h) else some (.exit n,vars,dfs,h)
 |r=>r
def DJ (cl yl:dP)(its:List It)(vars:List V)(h:H):Ju:=match oD cl yl its vars [] h with
 |some (vars,h)=>some (.norm,vars, [],h)
 |none=>none
def EK (cl yl:dP)(k nl:Nat)(its:List AI)(vars:List V)(h:H):Ju:=
 match oW cl yl h.next its (vars++List.replicate nl .unk) [] {h with next:=h.next+k} with
 |some (vs,h)=>some (.norm,vs.take vars.length, [],h)
 |none=>none
def zB (cl yl:dP)(rd:Option Nat)(its:List It)(x:X)(args:List X)(vars:List V)(h:H):Ju:=
 if rd.isSome then none else match oD cl yl its vars [] h with
  |some (vars,h)=>match xv vars [] x with
   | .fn g fs cs=>some (.norm,vars, [(g,fs++args.map (xv vars [])++cs)],h)
   |_=>none
  |none=>none
def rN (cl:dP)(rd:Option Nat)(x:X)(pars:List Nat)(assign body:C)(vars:List V)(h:H):Ju:=
 match xv vars [] x with
 | .fn g fs cs=>
  if Qm rd h then
  match cl g (fs++ .yl h.next::cs) (h.new (.loop {vars,pars,assign,body,st:= .ready,pend:=none})) with
  |some (_,h')=>
   match h'.get h.next with
   |some (.loop r)=>
    if r.st= .busy then none else
    some (r.pend.getD .norm,vars, [],h'.set h.next (some (.loop {r with st:= .out})))
   |_=>none
  |none=>none
  else none
 |_=>none
def run (cl yl:dP)(N:Nat)(rd:Option Nat)(c:C):List V->H->Ju:=
 C.rec (motive:=λ_=>List V->H->Ju) (λvars h=>some (.norm,vars, [],h)) (DJ cl yl) (EK cl yl) (zB cl yl rd) (λ_ _ a b=>DG a b) (λx _ _ a b=>DD x a b) (λid _ a=>Xo id a)
  (λ_ a=>rD a N) (λn vars h=>some (.exit n,vars, [],h)) (λvars h=>some (.ret,vars, [],h)) (λ_ a=>a) (λx pars as bd _ _=>rN cl rd x pars as bd) (λ_ _=>none) c
section
variable (cl yl:dP) (N:Nat) (rd:Option Nat) (vars:List V) (h:H)
theorem uP:run cl yl N rd .skip vars h=some (.norm,vars, [],h):=rfl
theorem Gk (a:List It):run cl yl N rd (.reg a) vars h=match oD cl yl a vars [] h with
 |some (vars,h)=>some (.norm,vars, [],h)
 |none=>none:=rfl
theorem Gf (k b:Nat)(a:List AI):run cl yl N rd (.any k b a) vars h=match oW cl yl h.next a (vars++List.replicate b .unk) [] {h with next:=h.next+k} with
 |some (vs,h)=>some (.norm,vs.take vars.length, [],h)
 |none=>none:=rfl
theorem Kf (a:List It)(x:X)(args:List X):run cl yl N rd (.regd a x args) vars h=zB cl yl rd a x args vars h:=rfl
theorem run_seq (a b:C):run cl yl N rd (.seq a b) vars h=match run cl yl N rd a vars h with
 |some (.norm,vars,dfs,h)=>match run cl yl N rd b vars h with
  |some (e,vars,dfs2,h)=>some (e,vars,dfs2++dfs,h)
  |none=>none
 |r=>r:=rfl
theorem run_ite (x:X)(a b:C):run cl yl N rd (.ite x a b) vars h=match xv vars [] x with
 | .bool true=>run cl yl N rd a vars h
 | .bool false=>run cl yl N rd b vars h
 |_=>none:=by rw[←uD];rfl
theorem xH (id:Nat)(a:C):run cl yl N rd (.block id a) vars h=match run cl yl N rd a vars h with
 |some (.exit n,vars,dfs,h)=>if n=id then some (.norm,vars,dfs,h) else some (.exit n,vars,dfs,h)
 |r=>r:=rfl
theorem Ai (a:C):run cl yl N rd (.loop a) vars h=rD (run cl yl N rd a) N vars h:=rfl
theorem Ak (n:Nat):run cl yl N rd (.exit n) vars h=some (.exit n,vars, [],h):=rfl
theorem Gw:run cl yl N rd .ret vars h=some (.ret,vars, [],h):=rfl
theorem xG (a:C):run cl yl N rd (.scope a) vars h=run cl yl N rd a vars h:=rfl
theorem wZ (x:X)(c:List Nat)(a b:C):run cl yl N rd (.range x c a b) vars h=rN cl rd x c a b vars h:=rfl
end
def tA (p:Nat->Option Fn)(cl:dP)(dfs:Sz):H->Option H:=
 List.rec (λh=>some h) (λd _ ih h=>match p d.1 with
  |some fn=>if fn.body.Fz then (match cl d.1 d.2 h with|some (_,h)=>ih h|none=>none) else none
  |none=>none) dfs
theorem oX (p:Nat->Option Fn)(cl:dP)(h:H):tA p cl [] h=some h:=rfl
theorem Bq (p:Nat->Option Fn)(cl:dP)(g:Nat)(args:List V)(r:Sz)(h:H):tA p cl ((g,args)::r) h=match p g with
  |some fn=>if fn.body.Fz then (match cl g args h with|some (_,h)=>tA p cl r h|none=>none) else none
  |none=>none:=rfl
def qZ (p:Nat->Option Fn)(cl yl:dP)(N:Nat):dP:=λg args h=>
 match p g with
 |none=>none
 |some fn=>
  if args.length=fn.nargs then
   match run cl yl N none fn.body (tK fn args) h with
   |some (.norm,vars,dfs,h)|some (.ret,vars,dfs,h)=>
    match tA p cl dfs h with
    |some h=>(cU (fn.results.map (sY vars h))).map λvs=>(wF vs,h)
    |none=>none
   |_=>none
  else none
def oN (cl yl:dP)(N:Nat):dP:=λid args h=>
 match h.get id with
 |some (.loop r)=>
  if args.length=r.pars.length then
   match run cl yl N (some id) r.assign ((r.pars.zip args).foldl (λvs q=>vs.set q.1 q.2) r.vars) h with
   |some (.norm,vars,_,h)=>
    match h.get id with
    |some (.loop r2)=>
     if r2.st= .ready then
      match run cl yl N (some id) r.body vars (h.set id (some (.loop {r2 with st:= .busy}))) with
      |some (e,_,_,h)=>
       match h.get id with
       |some (.loop r3)=>
        (match e with
        | .norm=>some (.bool true,h.set id (some (.loop {r3 with st:= .ready,pend:=none})))
        |e=>some (.bool false,h.set id (some (.loop {r3 with st:= .done,pend:=some e}))))
       |_=>none
      |none=>none
     else none
    |_=>none
   |_=>none
  else none
 |_=>none
def iL (p:Nat->Option Fn)(N f:Nat):dP×dP:=
 Nat.rec (λ_ _ _=>none,λ_ _ _=>none) (λ_ q=>(qZ p q.1 q.2 N,oN q.1 q.2 N)) f
def EN (p:Nat->Option Fn)(N f:Nat):dP:=(iL p N f).1
theorem Jz (p:Nat->Option Fn)(N:Nat):iL p N 0=(λ_ _ _=>none,λ_ _ _=>none):=rfl
theorem lY (p:Nat->Option Fn)(N f:Nat):iL p N (f+1)=(qZ p (iL p N f).1 (iL p N f).2 N,oN (iL p N f).1 (iL p N f).2 N):=rfl
end
end Go.Ay
