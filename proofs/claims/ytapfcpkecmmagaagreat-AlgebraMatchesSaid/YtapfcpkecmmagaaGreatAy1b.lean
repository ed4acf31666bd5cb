/- The evaluator: calls by levels, loops by fuel, all else by recursion on the code. -/
import Derived.Test.YtapfcpkecmmagaaGreatAy1
namespace Go.Ay
noncomputable section
def IH (ρ:X->V)(h:H)(x:X):Option (V×H):=some (ρ x,h)
def Uf (ρ:X->V)(h:H)(c a b:X):Option (V×H):=match ρ c with| .bool t=>some (cond t (ρ a) (ρ b),h)|_=>none
def Vm (h:H)(o:Option V):Option (V×H):=Option.rec none (λv=>some (v,h)) o
def DI (ρ:X->V)(h:H)(op:BinOp)(k:IntKind)(x y:X):Option (V×H):=match ρ x,ρ y with
 | .int j a,.int j' b=>if j=k/\j'=k then Vm h (Mj op k a b) else none
 |_,_=>none
def HA (ρ:X->V)(h:H)(neg:Bool)(x:X):Option (V×H):=match ρ x with
 | .aD=>some (.bool (!neg),h)
 | .sl .. | .emp _=>some (.bool neg,h)
 |_=>none
def IJ (ρ:X->V)(h:H)(x:X):Option (V×H):=match ρ x with| .bool a=>some (.bool (!a),h)|_=>none
def EO (ρ:X->V)(h:H)(x:X)(i:Nat):Option (V×H):=match ρ x with| .tup vs=>Vm h (vs[i]?)|_=>none
def Wm (ρ:X->V)(h:H)(x:X):Option (V×H):=match ρ x with
 | .aD=>some (.int .i64 0,h)
 | .emp _=>some (.int .i64 0,h)
 | .sl _ _ len _=>some (.int .i64 (len:Int),h)
 |_=>none
def IC (h:H)(agg:Bool)(n:Nat)(v:V):Option V:=match v with
 | .ptr id off=>match h.Cy id with
  |some (.cells _ vs)=>match Wg vs off n with
   |some ws=>cond agg (some (.agg ws)) (match ws with| [v]=>some v|_=>none)
   |none=>none
  |_=>none
 |_=>none
def IP (ρ:X->V)(h:H)(agg:Bool)(n:Nat)(x:X):Option (V×H):=Vm h (IC h agg n (ρ x))
def Eg (h:H)(id off:Nat)(ws:List V):Option H:=match h.Cy id with
 |some (.cells false vs)=>match Zn off ws vs with
  |some vs'=>some (h.Ce id (some (.cells false vs')))
  |none=>none
 |_=>none
def IT (ρ:X->V)(h:H)(n:Nat)(x y:X):Option (V×H):=match ρ x with
 | .ptr id off=>if (ρ y).cells.length=n/\(ρ y).cells.all V.one then (match Eg h id off (ρ y).cells with|some h'=>some (V.undef,h')|none=>none) else none
 |_=>none
def Nt (n:Int):Option Nat:=Int.rec (λa=>some a) (λ_=>none) n
def DK (ρ:X->V)(h:H)(sz:Nat)(x i:X):Option (V×H):=match ρ x,ρ i with
 | .sl id off len _,.int _ n=>(match Nt n with|some k=>cond (Nat.blt k len) (some (.ptr id (off+k*sz),h)) none|none=>none)
 |_,_=>none
def FD (ρ:X->V)(h:H)(n sz:Nat)(x i:X):Option (V×H):=match ρ x,ρ i with
 | .ptr id off,.int _ z=>(match Nt z with|some k=>cond (Nat.blt k n) (some (.ptr id (off+k*sz),h)) none|none=>none)
 |_,_=>none
def IA (ρ:X->V)(h:H)(off:Nat)(x:X):Option (V×H):=match ρ x with| .ptr id o=>some (.ptr id (o+off),h)|_=>none
def Uj (ρ:X->V)(h:H)(agg:Bool)(off n:Nat)(x:X):Option (V×H):=match ρ x with
 | .agg vs=>cond agg (match Wg vs off n with|some ws=>some (.agg ws,h)|none=>none) (Vm h (vs[off]?))
 |_=>none
def IU (ρ:X->V)(h:H)(f:Nat)(fs cs:List X):Option (V×H):=some (.fn f (fs.map ρ) (cs.map ρ),h)
def Xj (h:H)(o:Ob):H:=H.rec (λt n=>⟨Tr.Ce (n+1) t n (some o),n+1⟩) h
theorem Pc (h:H)(o:Ob):Xj h o=h.new o:=by
 cases h;show H.mk _ _=_;rw[←Tr.lP];rfl
def FV (h:H)(zero:List V):Option (V×H):=some (.ptr h.next 0,Xj h (.cells false zero))
def IM (ρ:X->V)(h:H)(x:X):Option (V×H):=match ρ x with| .ptr id off=>some (.ptr id off,h)|_=>none
def FI (h:H)(id off n:Nat):Option (List V):=match h.Cy id with
 |some (.cells _ vs)=>Wg vs off n
 |_=>none
theorem Zs (h:H)(id off n:Nat):FI h id off n=h.row id off n:=by
 unfold FI H.row;rw[H.mM]
 cases h.get id with
 |none=>rfl
 |some o=>cases o<;>simp only[Gj]
def Hb (h:H)(sz:Nat):V->Option (List V)
 | .aD=>some []
 | .emp _=>some []
 | .sl id off len _=>FI h id off (len*sz)
 |_=>none
theorem Dg (h:H)(sz:Nat)(v:V):Hb h sz v=h.slice sz v:=by
 cases v<;>simp only[Hb,H.slice,Zs]
def Xg (l m:List V):List V:=List.rec m (λv _ ih=>v::ih) l
theorem Py: ∀(l m:List V),Xg l m=l++m
 | [],_=>rfl
 |v::l,m=>by show v::Xg l m=_;rw[Py l m];rfl
def Wy (h:H)(sz bytes:Nat)(x:V)(m:Nat)(ys:List V):Option (V×H):=
 match mG x with
 |some n=>
  match Hb h sz x with
  |some xs=>
  if m=0 then some (x,h) else
  cond (Nat.ble ((2*(n+m)+1000)*bytes) 281474976710656&&Nat.blt (n+m) 4611686018427387904) (
   match x with
   | .sl id off len (.kn c)=>
    cond (Nat.ble (len+m) c) (match Eg h id (off+len*sz) ys with
     |some h'=>some (.sl id off (len+m) (.kn c),h')
     |none=>none)
    (some (.sl h.next 0 (n+m) (.un sz),Xj h (.cells false (Xg xs ys))))
   | .sl id _ _ (.un e)=>
    match h.Cy id with
    |some (.cells false _)=>cond (Nat.beq e sz) (some (.sl h.next 0 (n+m) (.un sz),Xj (h.Ce id none) (.cells false (Xg xs ys)))) none
    |_=>none
   | .emp _=>none
   |_=>some (.sl h.next 0 (n+m) (.un sz),Xj h (.cells false (Xg xs ys)))) none
  |none=>none
 |none=>none
theorem Rd (h:H)(id off:Nat)(ws:List V):Eg h id off ws=h.put id off ws:=by
 unfold Eg H.put;simp only[H.mM,Hn,H.lP]
 cases h.get id with
 |none=>rfl
 |some o=>cases o with
  |cells ro vs=>cases ro<;>simp only<;>cases putAt vs off ws<;>rfl
  |_=>rfl
theorem Xx (h:H)(sz bytes:Nat)(x:V)(m:Nat)(g:List V):Wy h sz bytes x m g=oT h sz bytes x m g:=by
 unfold Wy oT;rw[Dg]
 cases hn:mG x with
 |none=>rfl
 |some n=>
  cases hs:h.slice sz x with
  |none=>rfl
  |some xs=>
   simp only
   by_cases f:m=0
   ·simp [f]
   ·simp only[f,if_false]
    have f:(Nat.ble ((2*(n+m)+1000)*bytes) 281474976710656&&Nat.blt (n+m) 4611686018427387904)=decide ((2*(n+m)+1000)*bytes<=2^48/\n+m<2^62):=by
     rw[xJ];simp only[pF,Nat.ble_eq,Nat.blt_eq,decide_eq_true_eq]
    rw[f]
    by_cases b:(2*(n+m)+1000)*bytes<=2^48/\n+m<2^62
    ·rw[aV b,decide_eq_true b]
     simp only[cond_true,Pc,H.lP,H.mM,Py,Rd]
     cases x with
     |sl id off len cap=>
      cases cap with
      |kn c=>
       simp only
       by_cases a:len+m<=c
       ·rw[aV a,(Nat.ble_eq).mpr a];rfl
       ·rw[aZ a,show Nat.ble (len+m) c=false from by
         cases h9:Nat.ble (len+m) c with
         |false=>rfl
         |true=>exact absurd ((Nat.ble_eq).mp h9) a];rfl
      |un e=>
       simp only
       cases h.get id with
       |none=>rfl
       |some o=>cases o with
        |cells ro vs=>cases ro with
         |true=>rfl
         |false=>
          simp only
          by_cases d:e=sz
          ·rw[aV d,(Nat.beq_eq).mpr d];rfl
          ·rw[aZ d,show Nat.beq e sz=false from by
            cases h9:Nat.beq e sz with
            |false=>rfl
            |true=>exact absurd ((Nat.beq_eq).mp h9) d];rfl
        |_=>rfl
     |_=>rfl
    ·rw[aZ b,decide_eq_false b];rfl
def DS (ρ:X->V)(h:H)(sz bytes:Nat)(x y:X):Option (V×H):=match mG (ρ y) with
 |some m=>match Hb h sz (ρ y) with
  |some ys=>Wy h sz bytes (ρ x) m ys
  |none=>none
 |none=>none
def IQ (ρ:X->V)(h:H)(i:I):Option (V×H):=
 I.rec (motive:=λ_=>Option (V×H))
  (IH ρ h) (Uf ρ h) (DI ρ h) (λa b c d=>cZ ρ h (.shf a b c d)) (λa b c=>cZ ρ h (.beq a b c)) (HA ρ h) (IJ ρ h) (λk x=>cZ ρ h (.neg k x)) (λk x=>cZ ρ h (.conv k x))
  (Uj ρ h) (EO ρ h) (Wm ρ h) (λx=>cZ ρ h (.lenm x)) (λx=>cZ ρ h (.caps x)) (λm xs=>cZ ρ h (.mm m xs)) (IP ρ h) (IT ρ h) (DK ρ h) (IA ρ h)
  (λa b c d e=>cZ ρ h (.slc a b c d e)) (λa b c d e=>cZ ρ h (.mks a b c d e)) (FV h) (λx=>cZ ρ h (.box x)) (λz ps=>cZ ρ h (.bld z ps)) (λa b c d=>cZ ρ h (.bls a b c d))
  (DS ρ h) (λa b c d e=>cZ ρ h (.apz a b c d e)) (λa b c=>cZ ρ h (.cpy a b c)) (IU ρ h) (cZ ρ h .mkm) (λa b c d=>cZ ρ h (.lkp a b c d)) (λa b c=>cZ ρ h (.mset a b c)) (IM ρ h)
  (FD ρ h) (λx=>cZ ρ h (.cvs x)) (λt x=>cZ ρ h (.mif t x)) (λa b=>cZ ρ h (.mkw a b)) (λs a b c d=>cZ ρ h (.lkw s a b c d)) (λs a b c=>cZ ρ h (.msw s a b c)) (λs a b c=>cZ ρ h (.ent s a b c)) (λa b c=>cZ ρ h (.ens a b c)) (λa b=>cZ ρ h (.six a b)) (λa b c=>cZ ρ h (.seq a b c)) (λa b=>cZ ρ h (.sad a b)) (λa=>cZ ρ h (.cir a)) (λa b c=>cZ ρ h (.clr a b c)) (λa b c d e=>cZ ρ h (.sla a b c d e)) none i
theorem uU (h:H)(o:Option V):Vm h o=o.map (·,h):=by cases o<;>rfl
theorem ED (h:H)(agg:Bool)(n:Nat)(v:V):IC h agg n v=Wa h agg n v:=by
 unfold IC Wa H.row
 cases v with
 |ptr id off=>
  simp only[H.mM,Gj]
  cases h.get id with
  |none=>rfl
  |some o=>cases o with
   |cells ro vs=>simp only;cases sub vs off n with
    |none=>rfl
    |some ws=>cases agg<;>rfl
   |_=>rfl
 |_=>rfl
theorem Wv (h:H)(id off:Nat)(ws:List V):Eg h id off ws=h.put id off ws:=by
 unfold Eg H.put;simp only[H.mM,Hn,H.lP]
 cases h.get id with
 |none=>rfl
 |some o=>cases o with
  |cells ro vs=>cases ro<;>simp only<;>cases putAt vs off ws<;>rfl
  |_=>rfl
theorem EM (ρ:X->V)(h:H)(i:I):IQ ρ h i=cZ ρ h i:=by
 cases i with
 |pick c a b=>
         show Uf ρ h c a b=_;simp only[Uf,cZ];cases ρ c<;>try rfl
         rename_i t;cases t<;>rfl
 |bin op k x y=>show DI ρ h op k x y=_;simp only[DI,cZ,uU,Tn];rfl
 |ext x i=>show EO ρ h x i=_;simp only[EO,cZ,uU];rfl
 |lens x=>show Wm ρ h x=_;simp only[Wm,cZ];cases ρ x<;>rfl
 |ld agg n x=>show IP ρ h agg n x=_;simp only[IP,cZ,uU,ED]
 |st n x y=>
  show IT ρ h n x y=_;simp only[IT,cZ,Wv];cases ρ x<;>try rfl
  simp only;split<;>try rfl
  cases h.put _ _ _<;>rfl
 |ixa sz x i=>
  show DK ρ h sz x i=_;simp only[DK,cZ,Cu];cases ρ x<;>try rfl
  cases ρ i<;>try rfl
  rename_i id f len j k n;simp only
  cases n with
  |ofNat a=>
   simp only[Nt]
   by_cases e:a<len
   ·rw[(Nat.blt_eq).mpr e]
    have d:(0:Int)<=Int.ofNat a/\Int.ofNat a<(len:Int):=⟨Int.natCast_nonneg a,by simpa using e⟩
    rw[aV d];rfl
   ·have g:Nat.blt a len=false:=by
     cases h4:Nat.blt a len with
     |false=>rfl
     |true=>exact absurd ((Nat.blt_eq).mp h4) e
    rw[g];have d: ¬((0:Int)<=Int.ofNat a/\Int.ofNat a<(len:Int)):=λh=>e (by simpa using h.2)
    rw[aZ d];rfl
  |negSucc a=>
   have d: ¬((0:Int)<=Int.negSucc a/\Int.negSucc a<(len:Int)):=λh=>by have:=h.1;omega
   rw[aZ d];rfl
 |ixd len sz x i=>
  show FD ρ h len sz x i=_;simp only[FD,cZ,Rl];cases ρ x<;>try rfl
  cases ρ i<;>try rfl
  rename_i id f k n;simp only
  cases n with
  |ofNat a=>
   simp only[Nt]
   by_cases e:a<len
   ·rw[(Nat.blt_eq).mpr e]
    have d:(0:Int)<=Int.ofNat a/\Int.ofNat a<(len:Int):=⟨Int.natCast_nonneg a,by simpa using e⟩
    rw[aV d];rfl
   ·have g:Nat.blt a len=false:=by
     cases h4:Nat.blt a len with
     |false=>rfl
     |true=>exact absurd ((Nat.blt_eq).mp h4) e
    rw[g];have d: ¬((0:Int)<=Int.ofNat a/\Int.ofNat a<(len:Int)):=λh=>e (by simpa using h.2)
    rw[aZ d];rfl
  |negSucc a=>
   have d: ¬((0:Int)<=Int.negSucc a/\Int.negSucc a<(len:Int)):=λh=>by have:=h.1;omega
   rw[aZ d];rfl
 |alc z=>show FV h z=_;simp only[FV,cZ,Pc]
 |app sz b x y=>
  show DS ρ h sz b x y=_;simp only[DS,cZ,Dg,Xx];cases mG (ρ y)<;>cases h.slice sz (ρ y)<;>rfl
 |part agg f n x=>
  show Uj ρ h agg f n x=_;simp only[Uj,cZ,Gj,uU];cases ρ x<;>try rfl
  cases agg
  ·rfl
  ·simp only[cond_true,if_true]
   cases sub _ _ _<;>rfl
 |_=>rfl
abbrev dP:=Nat->List V->H->Option (V×H)
def yA (cl:dP)(g:Nat)(vs:List V)(h:H):Option (V×H):=
 cond (vs.all V.xP) (match cl g vs ⟨.lf,0⟩ with|some (v,_)=>cond v.xP (some (v,h)) none|none=>none) none
def jC (cl yl:dP)(vars loc:List V)(h:H)(a:dV):Option (V×H):=
 dV.rec (motive:=λ_=>Option (V×H)) (IQ (Po vars loc) h) (λg args=>cl g (args.map (Po vars loc)) h)
  (λx args=>match Po vars loc x with
   | .fn g fs cs=>cl g (fs++args.map (Po vars loc)++cs) h
   | .yl id=>yl id (args.map (Po vars loc)) h
   |_=>none)
  (λg args=>yA cl g (args.map (Po vars loc)) h)
  (λg t x args=>match Po vars loc x with
   | .ifc u v=>cond (Nat.beq u t) (cl g (v::args.map (Po vars loc)) h) none
   |_=>none) a
theorem nG (d c:dP)(a b:List V)(h:H)(i:I):jC d c a b h (.op i)=cZ (xv a b) h i:=by
 show IQ (Po a b) h i=_;rw[EM,uI]
theorem mW (c d:dP)(a b:List V)(h:H)(g:Nat)(args:List X):jC c d a b h (.call g args)=c g (args.map (xv a b)) h:=by
 show c g (args.map (Po a b)) h=_;rw[uI]
theorem mC (c yl:dP)(a b:List V)(h:H)(x:X)(args:List X):jC c yl a b h (.callv x args)=match xv a b x with
   | .fn g fs cs=>c g (fs++args.map (xv a b)++cs) h
   | .yl id=>yl id (args.map (xv a b)) h
   |_=>none:=by
 rw[←uI];rfl
theorem mB (c d:dP)(a b:List V)(h:H)(g t:Nat)(x:X)(args:List X):jC c d a b h (.calli g t x args)=match xv a b x with
   | .ifc u v=>cond (Nat.beq u t) (c g (v::args.map (xv a b)) h) none
   |_=>none:=by
 rw[←uI];rfl
theorem jG (c d:dP)(a b:List V)(h:H)(g:Nat)(args:List X):jC c d a b h (.callp g args)=yA c g (args.map (xv a b)) h:=by
 show yA c g (args.map (Po a b)) h=_;rw[uI]
theorem qJ {b:dP}{g:Nat}{vs:List V}{h h':H}{v:V}(a:yA b g vs h=some (v,h')):h'=h/\vs.all V.xP=true/\v.xP=true/\ ∃h2,b g vs ⟨.lf,0⟩=some (v,h2):=by
 unfold yA at a
 cases h1:vs.all V.xP with
 |false=>rw[h1] at a;cases a
 |true=>
  rw[h1] at a;simp only[cond_true] at a;split at a
  ·rename_i w h2 c
   cases h3:w.xP with
   |false=>rw[h3] at a;cases a
   |true=>rw[h3] at a;cases a;exact⟨rfl,rfl,h3,h2,c⟩
  ·cases a
def sJ (vars loc:List V)(g:Option (X×Bool)):Option Bool:=
 match g with
 |none=>some true
 |some (x,b)=>match Po vars loc x with| .bool a=>some (a==b)| .tup []=>some false|_=>none
theorem Ai (a b:List V)(g:Option (X×Bool)):sJ a b g=fK a b g:=by
 unfold sJ fK;rw[uI];rfl
def vD {α:Type}(d:D)(vars loc:List V)(v:V)(k:List V->List V->α):α:=
 D.rec (λi=>k (Xk vars i v) loc) (k vars (v::loc)) (k vars loc) d
theorem Im {α:Type}(d:D)(a b:List V)(v:V)(k:List V->List V->α):vD d a b v k=k (jI d a b v).1 (jI d a b v).2:=by
 cases d with
 |v i=>show k (Xk a i v) b=_;rw[Pf];rfl
 |l=>rfl
 |n=>rfl
def oK (cl yl:dP)(its:List It):List V->List V->H->Option (List V×H):=
 List.rec (λvars _ h=>some (vars,h)) (λit _ ih vars loc h=>
  match sJ vars loc it.g with
  |some true=>match jC cl yl vars loc h it.a with
   |some (v,h)=>vD it.d vars loc v λvars loc=>ih vars loc h
   |none=>none
  |some false=>vD it.d vars loc .undef λvars loc=>ih vars loc h
  |none=>none) its
theorem xA (d c:dP)(a b:List V)(h:H):oK d c [] a b h=some (a,h):=rfl
theorem kC (i f:dP)(it:It)(e:List It)(b c:List V)(h:H):oK i f (it::e) b c h=
  match fK b c it.g with
  |some true=>match jC i f b c h it.a with
   |some (v,h)=>oK i f e (jI it.d b c v).1 (jI it.d b c v).2 h
   |none=>none
  |some false=>oK i f e (jI it.d b c .undef).1 (jI it.d b c .undef).2 h
  |none=>none:=by
 rw[←Ai]
 show (match sJ b c it.g with
  |some true=>match jC i f b c h it.a with
   |some (v,h)=>vD it.d b c v λb c=>oK i f e b c h
   |none=>none
  |some false=>vD it.d b c .undef λb c=>oK i f e b c h
  |none=>none)=_
 simp only[Im]
def pI (cl yl:dP)(base:Nat)(xs:List AI):List V->Log->H->Option (List V×H):=
 List.rec (λvars _ h=>some (vars,h)) (λx _ ih vars log h=>
  match sJ vars [] x.it.g with
  |some true=>
   match cond x.al (Bg vars h (base+x.i) x.it.a) (jC cl yl vars [] h x.it.a) with
   |some (v,h)=>if lX x.cks log h then vD x.it.d vars [] v λvars' _=>ih vars' (zC x vars v log) h else none
   |none=>none
  |some false=>if lX x.cks log h then vD x.it.d vars [] .undef λvars' _=>ih vars' log h else none
  |none=>none) xs
theorem wZ (d c:dP)(base:Nat)(a:List V)(b:Log)(h:H):pI d c base [] a b h=some (a,h):=rfl
theorem iB (j f:dP)(base:Nat)(x:AI)(xs:List AI)(b:List V)(c:Log)(h:H):pI j f base (x::xs) b c h=
  match fK b [] x.it.g with
  |some true=>
   match (if x.al then Bg b h (base+x.i) x.it.a else jC j f b [] h x.it.a) with
   |some (v,h)=>if lX x.cks c h then pI j f base xs (jI x.it.d b [] v).1 (zC x b v c) h else none
   |none=>none
  |some false=>if lX x.cks c h then pI j f base xs (jI x.it.d b [] .undef).1 c h else none
  |none=>none:=by
 rw[←Ai]
 show (match sJ b [] x.it.g with
  |some true=>
   match cond x.al (Bg b h (base+x.i) x.it.a) (jC j f b [] h x.it.a) with
   |some (v,h)=>if lX x.cks c h then vD x.it.d b [] v λe _=>pI j f base xs e (zC x b v c) h else none
   |none=>none
  |some false=>if lX x.cks c h then vD x.it.d b [] .undef λe _=>pI j f base xs e c h else none
  |none=>none)=_
 simp only[Im,Bool.cond_eq_ite]
abbrev Kq:=Option (E×List V×Tt×H)
def rZ (step:List V->H->Kq)(n:Nat):List V->H->Kq:=
 Nat.rec (λ_ _=>none) (λ_ ih vars h=>match step vars h with
  |some (.norm,vars,dfs,h)=>match ih vars h with
   |some (e,vars,dfs2,h)=>some (e,vars,dfs2++dfs,h)
   |none=>none
  |r=>r) n
theorem An (step:List V->H->Kq)(a:List V)(h:H):rZ step 0 a h=none:=rfl
theorem jE (step:List V->H->Kq)(n:Nat)(a:List V)(h:H):rZ step (n+1) a h=match step a h with
  |some (.norm,a,dfs,h)=>match rZ step n a h with
   |some (e,a,dfs2,h)=>some (e,a,dfs2++dfs,h)
   |none=>none
  |r=>r:=rfl
def FJ (a b:List V->H->Kq)(vars:List V)(h:H):Kq:=match a vars h with
 |some (.norm,vars,dfs,h)=>match b vars h with
  |some (e,vars,dfs2,h)=>some (e,vars,dfs2++dfs,h)
  |none=>none
 |r=>r
def DM (x:X)(a b:List V->H->Kq)(vars:List V)(h:H):Kq:=match Po vars [] x with
 | .bool true=>a vars h
 | .bool false=>b vars h
 |_=>none
def Wc (id:Nat)(a:List V->H->Kq)(vars:List V)(h:H):Kq:=match a vars h with
 |some (.exit n,vars,dfs,h)=>if n=id then some (.norm,vars,dfs,h) else some (.exit n,vars,dfs,h)
 |r=>r
def DO (cl yl:dP)(its:List It)(vars:List V)(h:H):Kq:=match oK cl yl its vars [] h with
 |some (vars,h)=>some (.norm,vars, [],h)
 |none=>none
def DV (cl yl:dP)(k nl:Nat)(its:List AI)(vars:List V)(h:H):Kq:=
 match pI cl yl h.next its (vars++List.replicate nl .unk) [] {h with next:=h.next+k} with
 |some (vs,h)=>some (.norm,vs.take vars.length, [],h)
 |none=>none
def zH (cl yl:dP)(rd:Option Nat)(its:List It)(x:X)(args:List X)(vars:List V)(h:H):Kq:=
 if rd.isSome then none else match oK cl yl its vars [] h with
  |some (vars,h)=>match xv vars [] x with
   | .fn g fs cs=>some (.norm,vars, [(g,fs++args.map (xv vars [])++cs)],h)
   |_=>none
  |none=>none
def rQ (cl:dP)(rd:Option Nat)(x:X)(pars:List Nat)(assign body:C)(vars:List V)(h:H):Kq:=
 match xv vars [] x with
 | .fn g fs cs=>
  if Rs rd h then
  match cl g (fs++ .yl h.next::cs) (h.new (.loop {vars,pars,assign,body,st:= .ready,pend:=none})) with
  |some (_,h')=>
   match h'.get h.next with
   |some (.loop r)=>
    if r.st= .busy then none else
    some (r.pend.getD .norm,vars, [],h'.set h.next (some (.loop {r with st:= .out})))
   |_=>none
  |none=>none
  else none
 |_=>none
def run (cl yl:dP)(N:Nat)(rd:Option Nat)(c:C):List V->H->Kq:=
 C.rec (motive:=λ_=>List V->H->Kq) (λvars h=>some (.norm,vars, [],h)) (DO cl yl) (DV cl yl) (zH cl yl rd) (λ_ _ a b=>FJ a b) (λx _ _ a b=>DM x a b) (λid _ a=>Wc id a)
  (λ_ a=>rZ a N) (λn vars h=>some (.exit n,vars, [],h)) (λvars h=>some (.ret,vars, [],h)) (λ_ a=>a) (λx pars as bd _ _=>rQ cl rd x pars as bd) (λ_ _=>none) c
section
variable (cl yl:dP) (N:Nat) (rd:Option Nat) (vars:List V) (h:H)
theorem uL:run cl yl N rd .skip vars h=some (.norm,vars, [],h):=rfl
theorem Gf (a:List It):run cl yl N rd (.reg a) vars h=match oK cl yl a vars [] h with
 |some (vars,h)=>some (.norm,vars, [],h)
 |none=>none:=rfl
theorem Hk (k b:Nat)(a:List AI):run cl yl N rd (.any k b a) vars h=match pI cl yl h.next a (vars++List.replicate b .unk) [] {h with next:=h.next+k} with
 |some (vs,h)=>some (.norm,vs.take vars.length, [],h)
 |none=>none:=rfl
theorem Jl (a:List It)(x:X)(args:List X):run cl yl N rd (.regd a x args) vars h=zH cl yl rd a x args vars h:=rfl
theorem run_seq (a b:C):run cl yl N rd (.seq a b) vars h=match run cl yl N rd a vars h with
 |some (.norm,vars,dfs,h)=>match run cl yl N rd b vars h with
  |some (e,vars,dfs2,h)=>some (e,vars,dfs2++dfs,h)
  |none=>none
 |r=>r:=rfl
theorem run_ite (x:X)(a b:C):run cl yl N rd (.ite x a b) vars h=match xv vars [] x with
 | .bool true=>run cl yl N rd a vars h
 | .bool false=>run cl yl N rd b vars h
 |_=>none:=by rw[←uI];rfl
theorem xN (id:Nat)(a:C):run cl yl N rd (.block id a) vars h=match run cl yl N rd a vars h with
 |some (.exit n,vars,dfs,h)=>if n=id then some (.norm,vars,dfs,h) else some (.exit n,vars,dfs,h)
 |r=>r:=rfl
theorem nH (a:C):run cl yl N rd (.loop a) vars h=rZ (run cl yl N rd a) N vars h:=rfl
theorem Cd (n:Nat):run cl yl N rd (.exit n) vars h=some (.exit n,vars, [],h):=rfl
theorem Fv:run cl yl N rd .ret vars h=some (.ret,vars, [],h):=rfl
theorem wV (a:C):run cl yl N rd (.scope a) vars h=run cl yl N rd a vars h:=rfl
theorem wG (x:X)(c:List Nat)(a b:C):run cl yl N rd (.range x c a b) vars h=rQ cl rd x c a b vars h:=rfl
end
def tP (p:Nat->Option Fn)(cl:dP)(dfs:Tt):H->Option H:=
 List.rec (λh=>some h) (λd _ ih h=>match p d.1 with
  |some fn=>if fn.body.Gz then (match cl d.1 d.2 h with|some (_,h)=>ih h|none=>none) else none
  |none=>none) dfs
theorem pH (p:Nat->Option Fn)(cl:dP)(h:H):tP p cl [] h=some h:=rfl
theorem Ca (p:Nat->Option Fn)(cl:dP)(g:Nat)(args:List V)(r:Tt)(h:H):tP p cl ((g,args)::r) h=match p g with
  |some fn=>if fn.body.Gz then (match cl g args h with|some (_,h)=>tP p cl r h|none=>none) else none
  |none=>none:=rfl
def rN (p:Nat->Option Fn)(cl yl:dP)(N:Nat):dP:=λg args h=>
 match p g with
 |none=>none
 |some fn=>
  if args.length=fn.nargs then
   match run cl yl N none fn.body (tM fn args) h with
   |some (.norm,vars,dfs,h)|some (.ret,vars,dfs,h)=>
    match tP p cl dfs h with
    |some h=>(cV (fn.results.map (sY vars h))).map λvs=>(xQ vs,h)
    |none=>none
   |_=>none
  else none
def oY (cl yl:dP)(N:Nat):dP:=λid args h=>
 match h.get id with
 |some (.loop r)=>
  if args.length=r.pars.length then
   match run cl yl N (some id) r.assign ((r.pars.zip args).foldl (λvs q=>vs.set q.1 q.2) r.vars) h with
   |some (.norm,vars,_,h)=>
    match h.get id with
    |some (.loop r2)=>
     if r2.st= .ready then
      match run cl yl N (some id) r.body vars (h.set id (some (.loop {r2 with st:= .busy}))) with
      |some (e,_,_,h)=>
       match h.get id with
       |some (.loop r3)=>
        (match e with
        | .norm=>some (.bool true,h.set id (some (.loop {r3 with st:= .ready,pend:=none})))
        |e=>some (.bool false,h.set id (some (.loop {r3 with st:= .done,pend:=some e}))))
       |_=>none
      |none=>none
     else none
    |_=>none
   |_=>none
  else none
 |_=>none
def iO (p:Nat->Option Fn)(N f:Nat):dP×dP:=
 Nat.rec (λ_ _ _=>none,λ_ _ _=>none) (λ_ q=>(rN p q.1 q.2 N,oY q.1 q.2 N)) f
def DA (p:Nat->Option Fn)(N f:Nat):dP:=(iO p N f).1
theorem Hx (p:Nat->Option Fn)(N:Nat):iO p N 0=(λ_ _ _=>none,λ_ _ _=>none):=rfl
theorem mD (p:Nat->Option Fn)(N f:Nat):iO p N (f+1)=(rN p (iO p N f).1 (iO p N f).2 N,oY (iO p N f).1 (iO p N f).2 N):=rfl
end
end Go.Ay
