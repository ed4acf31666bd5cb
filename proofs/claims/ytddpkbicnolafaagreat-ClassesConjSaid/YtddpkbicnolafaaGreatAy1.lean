/- The abstract machine: values, heaps, the intermediate code, its evaluator, and the compiler from the model's code. -/
import GoSem.Dispatch
import GoSem.Core.Code
namespace Go.Ay
theorem iH.{u} {α:Type u} {l:List α} {i:Nat} (h:i<l.length):l[i]?=some l[i]:=List.getElem?_eq_getElem h
theorem oE.{u,v} {α:Type u} {β:Type v} {b:β} {x:Option α} {f:α->β}:Option.map f x=some b↔∃ a,x=some a/\f a=b:=Option.map_eq_some_iff
theorem tH.{u} {α β:Type u} {o:Option α} {f:α->Option β} {b:β}:o.bind f=some b↔∃ a,o=some a/\f a=some b:=Option.bind_eq_some_iff
theorem mM {n m k:Nat} (h:n<m) (h2:m<=k):n<k:=Nat.lt_of_lt_of_le h h2
theorem jI (n:Nat):n<=n:=Nat.le_refl n
theorem mJ (n:Nat):0<=n:=Nat.zero_le n
theorem nO.{u,v} {α:Type u} {β:Type v} {as:List α} (f:α->β):(as.map f).length=as.length:=List.length_map f
theorem vA.{u} {α:Type u} {as bs:List α}:(as++bs).length=as.length+bs.length:=List.length_append
theorem DZ {p:Prop} (h:¬p->False):p:=Classical.byContradiction h
inductive uO where
 |kn (c:Nat)
 |un (esz:Nat)
 deriving DecidableEq,Repr,Inhabited
inductive V where
 |int (k:IntKind) (n:Int)
 |bool (b:Bool)
 |ptr (id off:Nat)
 |nilp
 |sl (id off len:Nat) (cap:uO)
 |aC
 |emp (a:Addr)
 |str (l:List Nat)
 |ifc (t:Nat) (x:V)
 |mp (id:Nat)
 |nilm
 |fn (f:Nat) (first cs:List V)
 |yl (id:Nat)
 |nilf
 |agg (vs:List V)
 |tup (vs:List V)
 |unk
 deriving Repr,Inhabited
def V.undef:V:= .tup []
def V.cells:V->List V
 | .agg vs=>vs
 |v=> [v]
def V.one:V->Bool
 | .agg _| .tup _| .unk=>false
 |_=>true
inductive X where
 |v (k:Nat)
 |l (k:Nat)
 |c (x:V)
 deriving Repr,Inhabited
inductive D where
 |v (k:Nat)
 |l
 |n
 deriving Repr,Inhabited,DecidableEq
inductive Hx where
 |str
 |arr (n:Nat) (k:IntKind)
 deriving Repr,Inhabited,DecidableEq
inductive I where
 |mov (x:X)
 |pick (c a b:X)
 |bin (op:BinOp) (k:IntKind) (x y:X)
 |shf (op:BinOp) (k:IntKind) (x y:X)
 |beq (neg:Bool) (x y:X)
 |snil (neg:Bool) (x:X)
 |not (x:X)
 |neg (k:IntKind) (x:X)
 |conv (k:IntKind) (x:X)
 |part (agg:Bool) (off n:Nat) (x:X)
 |ext (x:X) (i:Nat)
 |lens (x:X)
 |lenm (x:X)
 |caps (x:X)
 |mm (max:Bool) (xs:List X)
 |ld (agg:Bool) (n:Nat) (x:X)
 |st (n:Nat) (x y:X)
 |ixa (sz:Nat) (x i:X)
 |fla (off:Nat) (x:X)
 |slc (sz:Nat) (x:X) (lo hi mx:Option X)
 |mks (sz bytes:Nat) (zero:List V) (l c:X)
 |alc (zero:List V)
 |box (x:X)
 |bld (zero:List V) (parts:List (Nat×Nat×X))
 |bls (sz:Nat) (zero:List V) (n:Nat) (parts:List (Nat×Nat×X))
 |app (sz bytes:Nat) (x y:X)
 |apz (sz bytes:Nat) (zero:List V) (x n:X)
 |cpy (sz:Nat) (x y:X)
 |mkf (f:Nat) (first cs:List X)
 |mkm
 |lkp (zero:V) (ok:Bool) (x k:X)
 |mset (x k y:X)
 |nck (x:X)
 |ixd (n sz:Nat) (x i:X)
 |cvs (x:X)
 |mif (t:Nat) (x:X)
 |mkw (sh:Hx) (r:Option X)
 |lkw (sh:Hx) (zero:V) (ok:Bool) (x k:X)
 |msw (sh:Hx) (x k y:X)
 |ent (sh:Hx) (zero:V) (x k:X)
 |ens (x s y:X)
 |six (x i:X)
 |seq (neg:Bool) (x y:X)
 |sad (x y:X)
 |cir (x:X)
 |clr (sz:Nat) (zero:List V) (x:X)
 |sla (n sz:Nat) (x:X) (lo hi:Option X)
 |fail
 deriving Repr,Inhabited
def V.Oi:V->Bool
 | .int .. | .bool _=>true
 |_=>false
inductive eD where
 |op (i:I)
 |call (f:Nat) (args:List X)
 |callv (x:X) (args:List X)
 |callp (f:Nat) (args:List X)
 |calli (f t:Nat) (x:X) (args:List X)
 deriving Repr,Inhabited
structure It where
 d:D
 g:Option (X×Bool)
 a:eD
 deriving Repr,Inhabited
structure AI where
 i:Nat
 it:It
 al:Bool
 cks:List Nat
 deriving Repr,Inhabited
inductive C where
 |skip
 |reg (its:List It)
 |any (k nl:Nat) (its:List AI)
 |regd (its:List It) (x:X) (args:List X)
 |seq (a b:C)
 |ite (x:X) (a b:C)
 |block (id:Nat) (c:C)
 |loop (c:C)
 |exit (id:Nat)
 |ret
 |scope (c:C)
 |range (f:X) (pars:List Nat) (assign body:C)
 |fail
 deriving Repr,Inhabited
inductive E where
 |norm
 |ret
 |exit (id:Nat)
 deriving Repr,Inhabited,DecidableEq
inductive LSt where
 |ready
 |busy
 |done
 |out
 deriving Repr,Inhabited,DecidableEq
structure fV where
 vars:List V
 pars:List Nat
 assign:C
 body:C
 st:LSt
 pend:Option E
inductive Ob where
 |cells (ro:Bool) (vs:List V)
 |map (es:List (V×V))
 |wmap (sh:Hx) (es:List (V×V))
 |loop (r:fV)
inductive Tr where
 |lf
 |nd (v:Option Ob) (l r:Tr)
def Tr.get:Tr->Nat->Option Ob
 | .lf,_=>none
 | .nd v l r,n=>cond (n==0) v (cond (n%2==1) (l.get (n/2)) (r.get (n/2- 1)))
def Tr.Xk:Nat->Tr->Nat->Option Ob->Tr
 |0,t,_,_=>t
 |f+1,.lf,n,o=>cond (n==0) (.nd o .lf .lf) (cond (n%2==1) (.nd none (Xk f .lf (n/2) o) .lf) (.nd none .lf (Xk f .lf (n/2- 1) o)))
 |f+1,.nd v l r,n,o=>cond (n==0) (.nd o l r) (cond (n%2==1) (.nd v (Xk f l (n/2) o) r) (.nd v l (Xk f r (n/2- 1) o)))
theorem Tr.Ae: ∀ (f:Nat) (t:Tr) (n k:Nat) (o:Option Ob),n<f->(t.Xk f n o).get k=if k=n then o else t.get k
 |0,_,_,_,_,h=>by omega
 |f+1,.lf,n,k,o,h=>by
  simp only [Tr.Xk]
  by_cases hn:n=0
  ·subst hn
   simp only [beq_self_eq_true,cond_true,Tr.get]
   by_cases hk:k=0
   ·simp [hk]
   ·have h1:(k==0)=false:=by simp [hk]
    simp [h1,hk,Tr.get]
  ·have h0:(n==0)=false:=by simp [hn]
   simp only [h0,cond_false]
   by_cases hp:n%2=1
   ·have h1:(n%2==1)=true:=by simp [hp]
    simp only [h1,cond_true,Tr.get]
    by_cases hk:k=0
    ·subst hk;simp [show (0:Nat)≠n from λ e=>hn e.symm]
    ·have h2:(k==0)=false:=by simp [hk]
     simp only [h2,cond_false]
     by_cases hq:k%2=1
     ·have h3:(k%2==1)=true:=by simp [hq]
      simp only [h3,cond_true]
      rw [Tr.Ae f .lf (n/2) (k/2) o (by omega)]
      have:k/2=n/2↔k=n:=by omega
      simp [this,Tr.get]
     ·have h3:(k%2==1)=false:=by simp;omega
      have:k≠n:=λ e=>hq (e▸hp)
      simp [h3,this,Tr.get]
   ·have h1:(n%2==1)=false:=by simp;omega
    simp only [h1,cond_false,Tr.get]
    by_cases hk:k=0
    ·subst hk;simp [show (0:Nat)≠n from λ e=>hn e.symm]
    ·have h2:(k==0)=false:=by simp [hk]
     simp only [h2,cond_false]
     by_cases hq:k%2=1
     ·have h3:(k%2==1)=true:=by simp [hq]
      have:k≠n:=λ e=>hp (e▸hq)
      simp [h3,this,Tr.get]
     ·have h3:(k%2==1)=false:=by simp;omega
      simp only [h3,cond_false]
      rw [Tr.Ae f .lf (n/2- 1) (k/2- 1) o (by omega)]
      have:k/2- 1=n/2- 1↔k=n:=by omega
      simp [this,Tr.get]
 |f+1,.nd v l r,n,k,o,h=>by
  simp only [Tr.Xk]
  by_cases hn:n=0
  ·subst hn
   simp only [beq_self_eq_true,cond_true,Tr.get]
   by_cases hk:k=0
   ·simp [hk]
   ·have h1:(k==0)=false:=by simp [hk]
    simp [h1,hk]
  ·have h0:(n==0)=false:=by simp [hn]
   simp only [h0,cond_false]
   by_cases hp:n%2=1
   ·have h1:(n%2==1)=true:=by simp [hp]
    simp only [h1,cond_true,Tr.get]
    by_cases hk:k=0
    ·subst hk;simp [show (0:Nat)≠n from λ e=>hn e.symm]
    ·have h2:(k==0)=false:=by simp [hk]
     simp only [h2,cond_false]
     by_cases hq:k%2=1
     ·have h3:(k%2==1)=true:=by simp [hq]
      simp only [h3,cond_true]
      rw [Tr.Ae f l (n/2) (k/2) o (by omega)]
      have:k/2=n/2↔k=n:=by omega
      simp [this]
     ·have h3:(k%2==1)=false:=by simp;omega
      have:k≠n:=λ e=>hq (e▸hp)
      simp [h3,this]
   ·have h1:(n%2==1)=false:=by simp;omega
    simp only [h1,cond_false,Tr.get]
    by_cases hk:k=0
    ·subst hk;simp [show (0:Nat)≠n from λ e=>hn e.symm]
    ·have h2:(k==0)=false:=by simp [hk]
     simp only [h2,cond_false]
     by_cases hq:k%2=1
     ·have h3:(k%2==1)=true:=by simp [hq]
      have:k≠n:=λ e=>hp (e▸hq)
      simp [h3,this]
     ·have h3:(k%2==1)=false:=by simp;omega
      simp only [h3,cond_false]
      rw [Tr.Ae f r (n/2- 1) (k/2- 1) o (by omega)]
      have:k/2- 1=n/2- 1↔k=n:=by omega
      simp [this]
structure H where
 tr:Tr
 next:Nat
def H.get (h:H) (i:Nat):Option Ob:=h.tr.get i
def H.set (h:H) (id:Nat) (o:Option Ob):H:={h with tr:=h.tr.Xk (id+1) id o}
def H.new (h:H) (o:Ob):H:={tr:=h.tr.Xk (h.next+1) h.next (some o),next:=h.next+1}
theorem H.jP (h:H) (id:Nat) (o:Option Ob) (k:Nat):(h.set id o).get k=if k=id then o else h.get k:=Tr.Ae _ _ _ _ _ (Nat.lt_succ_self _)
theorem H.lT (h:H) (o:Ob) (k:Nat):(h.new o).get k=if k=h.next then some o else h.get k:=Tr.Ae _ _ _ _ _ (Nat.lt_succ_self _)
theorem H.cG (h:H) (id:Nat) (o:Option Ob):(h.set id o).next=h.next:=rfl
theorem H.bD (h:H) (o:Ob):(h.new o).next=h.next+1:=rfl
inductive Rv where
 |v (k:Nat)
 |cell (k:Nat) (agg:Bool) (n:Nat)
 deriving Repr,Inhabited
structure Fn where
 nargs:Nat
 init:List (Option Nat)
 results:List Rv
 body:C
 deriving Repr,Inhabited
def xv (vars loc:List V):X->V
 | .v k=>vars.getD k .undef
 | .l k=>loc.getD k .undef
 | .c x=>x
def yW (vars:List V) (k:Nat) (v:V):List V:=vars.set k v
def arith (op:BinOp) (k:IntKind) (a b:Int):Option V:=
 match op with
 | .add=>some (.int k (k.wrap (a+b)))
 | .sub=>some (.int k (k.wrap (a-b)))
 | .mul=>some (.int k (k.wrap (a*b)))
 | .quo=>if b=0 then none else some (.int k (k.wrap (a.tdiv b)))
 | .rem=>if b=0 then none else some (.int k (a.tmod b))
 | .eql=>some (.bool (a==b))
 | .neq=>some (.bool (a !=b))
 | .lss=>some (.bool (a<b))
 | .leq=>some (.bool (a<=b))
 | .gtr=>some (.bool (a>b))
 | .geq=>some (.bool (a≥b))
 | .and=>some (.int k (k.wrap (BitVec.ofInt k.bits a&&&BitVec.ofInt k.bits b).toNat))
 | .or=>some (.int k (k.wrap (BitVec.ofInt k.bits a|||BitVec.ofInt k.bits b).toNat))
 | .xor=>some (.int k (k.wrap (BitVec.ofInt k.bits a^^^BitVec.ofInt k.bits b).toNat))
 |_=>none
def Ej (op:BinOp) (k:IntKind) (a b:Int):Option V:=
 if b<0 then none else
 match op with
 | .shl=>some (.int k (k.wrap (a*2^(min b.toNat k.bits))))
 | .shr=>some (.int k (a.fdiv (2^(min b.toNat k.bits))))
 |_=>none
def sub (vs:List V) (off n:Nat):Option (List V):=
 if off+n<=vs.length then some ((vs.drop off).take n) else none
def putAt (vs:List V) (off:Nat) (ws:List V):Option (List V):=
 if off+ws.length<=vs.length then some (vs.take off++ws++vs.drop (off+ws.length)) else none
def H.row (h:H) (id off n:Nat):Option (List V):=
 match h.get id with
 |some (.cells _ vs)=>sub vs off n
 |_=>none
def H.put (h:H) (id off:Nat) (ws:List V):Option H:=
 match h.get id with
 |some (.cells false vs)=>(putAt vs off ws).map λ vs'=>h.set id (some (.cells false vs'))
 |_=>none
def H.slice (h:H) (sz:Nat):V->Option (List V)
 | .aC=>some []
 | .emp _=>some []
 | .sl id off len _=>h.row id off (len*sz)
 |_=>none
def xF:V->Option Nat
 | .aC=>some 0
 | .emp _=>some 0
 | .sl _ _ len _=>some len
 |_=>none
def ldV (h:H) (agg:Bool) (n:Nat):V->Option V
 | .ptr id off=>
  match h.row id off n with
  |some vs=>if agg then some (.agg vs) else match vs with| [v]=>some v|_=>none
  |none=>none
 |_=>none
def CW (sz:Nat) (x i:V):Option V:=
 match x,i with
 | .sl id off len _,.int _ n=>if 0<=n/\n<len then some (.ptr id (off+n.toNat*sz)) else none
 |_,_=>none
def vB (x:Option V) (dflt top:Nat):Option Nat:=
 match x with
 |none=>some dflt
 |some (.int _ n)=>if 0<=n/\n<=top then some n.toNat else none
 |_=>none
def Ui (sz:Nat) (x:V) (lo hi mx:Option V):Option V:=
 match x with
 | .aC=>
  match mx,vB hi 0 0 with
  |none,some h=>match vB lo 0 h with|some _=>some .aC|none=>none
  |_,_=>none
 | .sl id off len cap=>
  match mx with
  |some _=>none
  |none=>
   match vB hi len (match cap with| .kn c=>c| .un _=>len) with
   |none=>none
   |some h=>
    match vB lo 0 h with
    |none=>none
    |some l=>
     match cap with
     | .kn c=>if l<=c then some (.sl id (if c=l then off else off+l*sz) (h-l) (.kn (c-l))) else none
     | .un e=>if e=sz then (if l<len then some (.sl id (off+l*sz) (h-l) (.un e)) else some (.sl id off 0 (.un e))) else none
 |_=>none
def jJ (cells:List V):List (Nat×Nat×V)->Option (List V)
 | []=>some cells
 |(off,n,v)::rest=>
  if v.cells.length=n/\v.cells.all V.one then
   match putAt cells off v.cells with
   |some cs=>jJ cs rest
   |none=>none
  else none
def dQ (zero:List V) (n:Nat):List V:=(List.range n).map λ i=>zero.getD (i%zero.length) .undef
def Dd (k:IntKind) (n:Int):List (V×V)->Option V
 | []=>none
 |(.int k' m,v)::es=>if k'=k then if n=m then some v else Dd k n es else none
 |_=>none
def xL (k:IntKind):List (V×V)->Bool
 | []=>true
 |(.int k' _,_)::es=>k'==k&&xL k es
 |_=>false
def Nr (k:IntKind) (n:Int) (y:V):List (V×V)->List (V×V)
 | []=> [(.int k n,y)]
 |(.int k' m,v)::es=>if n=m then (.int k' m,y)::es else (.int k' m,v)::Nr k n y es
 |e::es=>e::Nr k n y es
def UO (max:Bool):V->List V->Option V
 |x, []=>some x
 | .int k x,.int k' y::r=>if k=k' then UO max (.int k (if max then (if y>x then y else x) else (if y<x then y else x))) r else none
 |_,_=>none
def Di (h:H) (sz bytes:Nat) (x:V) (m:Nat) (ys:List V):Option (V×H):=
 match xF x,h.slice sz x with
 |some n,some xs=>
  if m=0 then some (x,h) else
  if (2*(n+m)+1000)*bytes<=2^48/\n+m<2^62 then
   match x with
   | .sl id off len (.kn c)=>
    if len+m<=c then
     match h.put id (off+len*sz) ys with
     |some h'=>some (.sl id off (len+m) (.kn c),h')
     |none=>none
    else some (.sl h.next 0 (n+m) (.un sz),h.new (.cells false (xs++ys)))
   | .sl id _ _ (.un e)=>
    match h.get id with
    |some (.cells false _)=>if e=sz then some (.sl h.next 0 (n+m) (.un sz),(h.set id none).new (.cells false (xs++ys))) else none
    |_=>none
   | .emp _=>none
   |_=>some (.sl h.next 0 (n+m) (.un sz),h.new (.cells false (xs++ys)))
  else none
 |_,_=>none
def adO (h:H) (sz:Nat) (x y:V):Option (V×H):=
 match xF x,xF y with
 |some n,some m=>
  let k:=min m n
  match x,y with
  | .sl id off _ _,.sl id' off' _ _=>
   match h.row id' off' (k*sz) with
   |some ys=>match h.put id off ys with
    |some h'=>some (.int .i64 k,h')
    |none=>none
   |none=>none
  |_,_=>if k=0 then some (.int .i64 0,h) else none
 |_,_=>none
def Ms (h:H) (sz bytes:Nat) (zero:List V) (l c:V):Option (V×H):=
 match l,c with
 | .int _ l,.int _ c=>
  if 0<=l/\l<=c/\c*bytes<=2^48/\c<2^62 then
   some (.sl h.next 0 l.toNat (.kn c.toNat),h.new (.cells false (dQ zero (c.toNat*sz))))
  else none
 |_,_=>none
mutual
def eU:V->V->Bool
 | .int k a,.int j b=>k==j&&a==b
 | .bool a,.bool b=>a==b
 | .ptr i o,.ptr j p=>i==j&&o==p
 | .nilp,.nilp=>true
 | .sl i o l c,.sl j p n d=>i==j&&o==p&&l==n&&decide (c=d)
 | .aC,.aC=>true
 | .emp a,.emp b=>decide (a=b)
 | .str a,.str b=>a==b
 | .ifc a x,.ifc b y=>a==b&&eU x y
 | .mp i,.mp j=>i==j
 | .nilm,.nilm=>true
 | .fn f a b,.fn g c d=>f==g&&yB a c&&yB b d
 | .yl i,.yl j=>i==j
 | .nilf,.nilf=>true
 | .agg a,.agg b=>yB a b
 | .tup a,.tup b=>yB a b
 |_,_=>false
def yB:List V->List V->Bool
 | [], []=>true
 |a::as,b::bs=>eU a b&&yB as bs
 |_,_=>false
end
def aaO:V->Bool
 | .int .. =>true
 |_=>false
def Te:Option V->Bool
 |none=>true
 |some v=>aaO v
def TS (n sz:Nat) (x i:V):Option V:=
 match x,i with
 | .ptr id off,.int _ z=>if 0<=z/\z<(n:Int) then some (.ptr id (off+z.toNat*sz)) else none
 |_,_=>none
def wY:List V->Option (List Nat)
 | []=>some []
 | .int .u8 n::r=>if 0<=n/\n<256 then (wY r).map (n.toNat:: ·) else none
 |_=>none
def YT (h:H) (x:V):Option V:=
 match x with
 | .aC=>some (.str [])
 | .sl id off len _=>match h.row id off len with
  |some ys=>(wY ys).map V.str
  |none=>none
 |_=>none
def isKey:Hx->V->Bool
 | .str,.str l=>decide (l.length<2^62)&&l.all (λ n=>decide (n<256))
 | .arr n k,.agg vs=>decide (vs.length=n)&&vs.all (fun| .int j a=>decide (j=k)&&(decide (k.min<=a)&&decide (a<=k.max))|_=>false)
 |_,_=>false
def gW (k:V):List (V×V)->Option (Nat×V)
 | []=>none
 |e::es=>if eU k e.1 then some (0,e.2) else (gW k es).map λ q=>(q.1+1,q.2)
def cY (ρ:X->V) (h:H):I->Option (V×H)
 | .mov x=>some (ρ x,h)
 | .pick c a b=>match ρ c with| .bool t=>some (if t then ρ a else ρ b,h)|_=>none
 | .bin op k x y=>match ρ x,ρ y with
  | .int j a,.int j' b=>if j=k/\j'=k then (arith op k a b).map (·,h) else none
  |_,_=>none
 | .shf op k x y=>match ρ x,ρ y with
  | .int j a,.int _ b=>if j=k then (Ej op k a b).map (·,h) else none
  |_,_=>none
 | .beq neg x y=>match ρ x,ρ y with
  | .bool a,.bool b=>some (.bool (if neg then !(a==b) else a==b),h)
  |_,_=>none
 | .snil neg x=>match ρ x with
  | .aC=>some (.bool (!neg),h)
  | .sl .. | .emp _=>some (.bool neg,h)
  |_=>none
 | .not x=>match ρ x with| .bool a=>some (.bool (!a),h)|_=>none
 | .neg k x=>match ρ x with| .int j a=>if j=k then some (.int k (k.wrap (0-a)),h) else none|_=>none
 | .conv k x=>match ρ x with| .int _ a=>some (.int k (k.wrap a),h)|_=>none
 | .part agg off n x=>match ρ x with
  | .agg vs=>if agg then (sub vs off n).map (λ ws=>(.agg ws,h)) else (vs[off]?).map (·,h)
  |_=>none
 | .ext x i=>match ρ x with| .tup vs=>(vs[i]?).map (·,h)|_=>none
 | .lens x=>(xF (ρ x)).map λ (n:Nat)=>(V.int .i64 (n:Int),h)
 | .caps x=>match ρ x with
  | .aC=>some (.int .i64 0,h)
  | .sl _ _ _ (.kn c)=>if c<2^62 then some (.int .i64 c,h) else none
  |_=>none
 | .lenm x=>match ρ x with
  | .nilm=>some (.int .i64 0,h)
  | .mp id=>match h.get id with|some (.map es)=>some (.int .i64 es.length,h)|_=>none
  |_=>none
 | .mm max xs=>match xs.map ρ with| []=>none|x::r=>(UO max x r).map (·,h)
 | .ld agg n x=>(ldV h agg n (ρ x)).map (·,h)
 | .st n x y=>match ρ x with
  | .ptr id off=>if (ρ y).cells.length=n/\(ρ y).cells.all V.one then (h.put id off (ρ y).cells).map (λ h'=>(V.undef,h')) else none
  |_=>none
 | .ixa sz x i=>(CW sz (ρ x) (ρ i)).map (·,h)
 | .fla off x=>match ρ x with| .ptr id o=>some (.ptr id (o+off),h)|_=>none
 | .slc sz x lo hi mx=>(Ui sz (ρ x) (lo.map ρ) (hi.map ρ) (mx.map ρ)).map (·,h)
 | .mks sz bytes zero l c=>Ms h sz bytes zero (ρ l) (ρ c)
 | .alc zero=>some (.ptr h.next 0,h.new (.cells false zero))
 | .box x=>if (ρ x).cells.all V.one then some (.ptr h.next 0,h.new (.cells false (ρ x).cells)) else none
 | .bld zero parts=>(jJ zero (parts.map λ p=>(p.1,p.2.1,ρ p.2.2))).map λ cs=>(.agg cs,h)
 | .bls sz zero n parts=>match jJ (dQ zero (n*sz)) (parts.map λ p=>(p.1,p.2.1,ρ p.2.2)) with
  |some cs=>if cs.all V.one then some (.sl h.next 0 n (.kn n),h.new (.cells false cs)) else none
  |none=>none
 | .app sz bytes x y=>match xF (ρ y),h.slice sz (ρ y) with
  |some m,some ys=>Di h sz bytes (ρ x) m ys
  |_,_=>none
 | .apz sz bytes zero x n=>match ρ n with
  | .int .i64 n=>if 0<=n/\n*bytes<=2^48/\n<2^62/\zero.length=sz then Di h sz bytes (ρ x) n.toNat (dQ zero (n.toNat*sz)) else none
  |_=>none
 | .cpy sz x y=>adO h sz (ρ x) (ρ y)
 | .mkf f fs cs=>some (.fn f (fs.map ρ) (cs.map ρ),h)
 | .mkm=>some (.mp h.next,h.new (.map []))
 | .lkp zero ok x k=>match ρ x,ρ k with
  | .mp id,.int kk n=>match h.get id with
   |some (.map es)=>if xL kk es then
     match Dd kk n es with
     |some v=>some (if ok then .tup [v,.bool true] else v,h)
     |none=>some (if ok then .tup [zero,.bool false] else zero,h)
    else none
   |_=>none
  |_,_=>none
 | .mset x k y=>match ρ x,ρ k with
  | .mp id,.int kk n=>match h.get id with
   |some (.map es)=>if xL kk es then some (V.undef,h.set id (some (.map (Nr kk n (ρ y) es)))) else none
   |_=>none
  |_,_=>none
 | .nck x=>match ρ x with| .ptr id off=>some (.ptr id off,h)|_=>none
 | .ixd n sz x i=>(TS n sz (ρ x) (ρ i)).map (·,h)
 | .cvs x=>(YT h (ρ x)).map (·,h)
 | .mif t x=>some (.ifc t (ρ x),h)
 | .mkw sh r=>if Te (r.map ρ)=true then some (.mp h.next,h.new (.wmap sh [])) else none
 | .lkw s zero ok x k=>match ρ x with
  | .mp id=>match h.get id with
   |some (.wmap sh es)=>if s=sh/\isKey s (ρ k)=true then
     match gW (ρ k) es with
     |some e=>some (if ok then .tup [e.2,.bool true] else e.2,h)
     |none=>some (if ok then .tup [zero,.bool false] else zero,h)
    else none
   |_=>none
  |_=>none
 | .msw s x k y=>match ρ x with
  | .mp id=>match h.get id with
   |some (.wmap sh es)=>if s=sh/\isKey s (ρ k)=true then
     some (V.undef,h.set id (some (.wmap sh (match gW (ρ k) es with
      |some e=>es.set e.1 (ρ k,ρ y)
      |none=>es++ [(ρ k,ρ y)]))))
    else none
   |_=>none
  |_=>none
 | .ent s zero x k=>match ρ x with
  | .mp id=>match h.get id with
   |some (.wmap sh es)=>if s=sh/\isKey s (ρ k)=true then
     match gW (ρ k) es with
     |some e=>some (.tup [e.2,.int .i64 (e.1:Nat)],h)
     |none=>some (.tup [zero,.int .i64 es.length],h.set id (some (.wmap sh (es++ [(ρ k,zero)]))))
    else none
   |_=>none
  |_=>none
 | .ens x s y=>match ρ x,ρ s with
  | .mp id,.int .i64 n=>match h.get id with
   |some (.wmap sh es)=>if 0<=n then
     match es[n.toNat]? with
     |some e=>some (V.undef,h.set id (some (.wmap sh (es.set n.toNat (e.1,ρ y)))))
     |none=>none
    else none
   |_=>none
  |_,_=>none
 | .six x i=>match ρ x,ρ i with
  | .str l,.int _ z=>if 0<=z then (l[z.toNat]?).map (λ (c:Nat)=>(V.int .u8 ((c%256:Nat):Int),h)) else none
  |_,_=>none
 | .sla n sz x lo hi=>match ρ x with
  | .ptr id off=>(Ui sz (.sl id off n (.kn n)) (lo.map ρ) (hi.map ρ) none).map (·,h)
  |_=>none
 | .seq neg x y=>match ρ x,ρ y with
  | .str a,.str b=>some (.bool (if neg then !(a.map (· %256)==b.map (· %256)) else a.map (· %256)==b.map (· %256)),h)
  |_,_=>none
 | .sad x y=>match ρ x,ρ y with
  | .str a,.str b=>if a.length+b.length<2^62 then some (.str (a++b),h) else none
  |_,_=>none
 | .cir x=>match ρ x with
  | .int _ n=>if 0<=n/\n<128 then some (.str [n.toNat],h) else none
  |_=>none
 | .clr sz zero x=>match ρ x with
  | .aC=>some (V.undef,h)
  | .emp _=>some (V.undef,h)
  | .sl id off len _=>if len=0 then some (V.undef,h) else
   if zero.length=sz/\zero.all V.one=true then (h.put id off (dQ zero (len*sz))).map (λ h'=>(V.undef,h')) else none
  |_=>none
 | .fail=>none
def nM (d:D) (vars loc:List V) (v:V):List V×List V:=
 match d with
 | .v k=>(vars.set k v,loc)
 | .l=>(vars,v::loc)
 | .n=>(vars,loc)
def Hu (vars:List V) (h:H):Rv->Option V
 | .v k=>some (vars.getD k .undef)
 | .cell k agg n=>ldV h agg n (vars.getD k .undef)
def Oj:List V->V
 | [v]=>v
 |vs=> .tup vs
def cI {α:Type}:List (Option α)->Option (List α)
 | []=>some []
 |none::_=>none
 |some a::r=>(cI r).map (a:: ·)
def gK (vars loc:List V):Option (X×Bool)->Option Bool
 |none=>some true
 |some (x,b)=>match xv vars loc x with| .bool a=>some (a==b)| .tup []=>some false|_=>none
def I.vY:I->Bool
 | .ld .. | .lenm _| .lkp .. | .cvs _| .lkw .. =>true
 |_=>false
def I.oU:I->Bool
 | .mks .. | .alc _| .box _| .bls .. | .mkm| .mkw .. =>true
 |_=>false
def I.wT:I->Bool
 | .st .. | .app .. | .apz .. | .cpy .. | .mset .. | .msw .. | .ent .. | .ens .. | .clr .. =>true
 |_=>false
def eD.vY:eD->Bool
 | .op i=>i.vY
 |_=>false
def eD.oU:eD->Bool
 | .op i=>i.oU
 |_=>false
def eD.wT:eD->Bool
 | .op i=>i.wT
 | .callp .. =>false
 |_=>true
def I.close (ρ:X->V):I->I
 | .ld a n x=> .ld a n (.c (ρ x))
 | .lenm x=> .lenm (.c (ρ x))
 | .lkp z ok x k=> .lkp z ok (.c (ρ x)) (.c (ρ k))
 | .cvs x=> .cvs (.c (ρ x))
 | .lkw s z ok x k=> .lkw s z ok (.c (ρ x)) (.c (ρ k))
 |i=>i
abbrev Log:=List (Nat×I×V)
def tV (cks:List Nat) (log:Log) (h:H):Bool:=
 log.all λ e=>!cks.contains e.1||(match cY (xv [] []) h e.2.1 with|some (v,_)=>eU v e.2.2|none=>false)
def Pk (x:AI) (vars:List V) (v:V) (log:Log):Log:=
 match x.it.a with
 | .op i=>if i.vY then (x.i,i.close (xv vars []),v)::log else log
 |_=>log
def Um (vars:List V) (h:H) (n:Nat):eD->Option (V×H)
 | .op i=>match cY (xv vars []) {h with next:=n} i with
  |some (v,h')=>some (v,{h' with next:=h.next})
  |none=>none
 |_=>none
def Ln (fn:Fn) (args:List V):List V:=fn.init.map λ o=>match o with|some j=>args.getD j .undef|none=> .undef
def C.CF:C->Bool
 | .seq a b| .ite _ a b=>a.CF&&b.CF
 | .block _ c| .loop c| .scope c=>c.CF
 | .range .. | .regd .. =>false
 |_=>true
def RV (rd:Option Nat) (h:H):Bool:=
 match rd with
 |none=>true
 |some id=>match h.get id with
  |some (.loop _)=>true
  |_=>false
abbrev UP:=List (Nat×List V)
noncomputable section
def nth (l:List V):Nat->V:=List.rec (λ _=>V.undef) (λ v _ ih k=>Nat.rec v (λ k _=>ih k) k) l
def WN (l:List V):Nat->V->List V:=List.rec (λ _ _=> []) (λ u us ih k v=>Nat.rec (v::us) (λ k _=>u::ih k v) k) l
def OS (vars loc:List V) (x:X):V:=X.rec (nth vars) (nth loc) (λ v=>v) x
theorem LO: ∀ (l:List V) (k:Nat),nth l k=l.getD k .undef
 | [],k=>by simp [nth]
 |v::l,0=>rfl
 |v::l,k+1=>by
  have:=LO l k
  show nth l k=_
  rw [this];simp [List.getD]
theorem OY: ∀ (l:List V) (k:Nat) (v:V),WN l k v=l.set k v
 | [],k,v=>by simp [WN]
 |u::l,0,v=>rfl
 |u::l,k+1,v=>by
  have:=OY l k v
  show u::WN l k v=_
  rw [this];rfl
theorem Ja (vars loc:List V):OS vars loc=xv vars loc:=by
 funext x
 cases x with
 |v k=>exact LO vars k
 |l k=>exact LO loc k
 |c v=>rfl
def Pe (v:V) (o:Option (List V)):Option (List V):=Option.rec none (λ r=>some (v::r)) o
theorem Ax (v:V) (r:List V):Pe v (some r)=some (v::r):=rfl
theorem Ij (v:V):Pe v none=none:=rfl
def OB (n:Nat):List V->Option (List V):=Nat.rec (λ l=>some l) (λ _ ih l=>List.rec none (λ _ t _=>ih t) l) n
def NJ (n:Nat):List V->Option (List V):=Nat.rec (λ _=>some []) (λ _ ih l=>List.rec none (λ v t _=>Pe v (ih t)) l) n
def WZ (vs:List V) (off n:Nat):Option (List V):=Option.rec none (λ t=>NJ n t) (OB off vs)
def Zy (ws:List V):List V->Option (List V):=List.rec (λ l=>some l) (λ w _ ih l=>List.rec none (λ _ t _=>Pe w (ih t)) l) ws
def afD (off:Nat) (ws:List V):List V->Option (List V):=Nat.rec (λ l=>Zy ws l) (λ _ ih l=>List.rec none (λ v t _=>Pe v (ih t)) l) off
theorem HD: ∀ (n:Nat) (l:List V),NJ n l=if n<=l.length then some (l.take n) else none
 |0,l=>by show some []=_;simp
 |n+1, []=>by simp [NJ]
 |n+1,v::t=>by
  have ih:=HD n t
  show Pe v (NJ n t)=_
  rw [ih]
  by_cases h:n<=t.length<;>simp [h,Ax,Ij]
theorem HC: ∀ (n:Nat) (l:List V),OB n l=if n<=l.length then some (l.drop n) else none
 |0,l=>by show some l=_;simp
 |n+1, []=>by simp [OB]
 |n+1,v::t=>by
  have ih:=HC n t
  show OB n t=_
  rw [ih]
  by_cases h:n<=t.length<;>simp [h,Ax,Ij]
theorem DR (vs:List V) (off n:Nat):WZ vs off n=sub vs off n:=by
 unfold WZ sub
 rw [HC]
 by_cases h:off<=vs.length
 ·simp only [h,if_true,HD,List.length_drop]
  by_cases h2:off+n<=vs.length
  ·rw [if_pos h2,if_pos (by omega)]
  ·rw [if_neg h2,if_neg (by omega)]
 ·simp only [h,if_false]
  rw [if_neg (by omega)]
theorem IF: ∀ (ws l:List V),Zy ws l=if ws.length<=l.length then some (ws++l.drop ws.length) else none
 | [],l=>by simp [Zy]
 |w::ws, []=>by simp [Zy]
 |w::ws,v::t=>by
  have ih:=IF ws t
  show Pe w (Zy ws t)=_
  rw [ih]
  by_cases h:ws.length<=t.length<;>simp [h,Ax,Ij]
theorem AY: ∀ (off:Nat) (ws l:List V),afD off ws l=putAt l off ws
 |0,ws,l=>by
  show Zy ws l=_
  rw [IF];simp [putAt]
 |off+1,ws, []=>by
  have: ¬(off+1+ws.length<=0):=by omega
  simp [afD,putAt,this]
 |off+1,ws,v::t=>by
  have ih:=AY off ws t
  show Pe v (afD off ws t)=_
  rw [ih]
  unfold putAt
  by_cases h:off+ws.length<=t.length
  ·rw [if_pos h,if_pos (by simp;omega)]
   simp [Ax,show off+1+ws.length=(off+ws.length)+1 from by omega]
  ·rw [if_neg h,if_neg (by simp;omega)];rfl
theorem RT (a b:Nat):Nat.beq a b=(a==b):=by rw [Bool.eq_iff_iff,Nat.beq_eq];simp
def Tr.Wl (t:Tr):Nat->Option Ob:=Tr.rec (λ _=>none) (λ v _ _ ihl ihr n=>cond (Nat.beq n 0) v (cond (Nat.beq (n%2) 1) (ihl (n/2)) (ihr (n/2- 1)))) t
theorem Tr.vZ: ∀ (t:Tr) (n:Nat),t.Wl n=t.get n
 | .lf,n=>rfl
 | .nd v l r,n=>by
  show cond (Nat.beq n 0) v (cond (Nat.beq (n%2) 1) (l.Wl (n/2)) (r.Wl (n/2- 1)))=_
  rw [Tr.vZ l,Tr.vZ r,RT,RT];rfl
def Tr.Uz (f:Nat):Tr->Nat->Option Ob->Tr:=
 Nat.rec (λ t _ _=>t) (λ _ ih t n o=>Tr.rec
  (cond (Nat.beq n 0) (.nd o .lf .lf) (cond (Nat.beq (n%2) 1) (.nd none (ih .lf (n/2) o) .lf) (.nd none .lf (ih .lf (n/2- 1) o))))
  (λ v l r _ _=>cond (Nat.beq n 0) (.nd o l r) (cond (Nat.beq (n%2) 1) (.nd v (ih l (n/2) o) r) (.nd v l (ih r (n/2- 1) o)))) t) f
theorem Tr.sZ: ∀ (f:Nat) (t:Tr) (n:Nat) (o:Option Ob),t.Xk f n o=Tr.Uz f t n o
 |0,t,n,o=>by cases t<;>rfl
 |f+1,.lf,n,o=>by
  show _=cond (Nat.beq n 0) (Tr.nd o .lf .lf) (cond (Nat.beq (n%2) 1) (.nd none (Tr.Uz f .lf (n/2) o) .lf) (.nd none .lf (Tr.Uz f .lf (n/2- 1) o)))
  rw [←Tr.sZ f,←Tr.sZ f,RT,RT];rfl
 |f+1,.nd v l r,n,o=>by
  show _=cond (Nat.beq n 0) (Tr.nd o l r) (cond (Nat.beq (n%2) 1) (.nd v (Tr.Uz f l (n/2) o) r) (.nd v l (Tr.Uz f r (n/2- 1) o)))
  rw [←Tr.sZ f,←Tr.sZ f,RT,RT];rfl
def H.Wl (h:H) (i:Nat):Option Ob:=h.tr.Wl i
theorem H.vZ (h:H) (i:Nat):h.Wl i=h.get i:=Tr.vZ _ _
def H.Uz (h:H) (id:Nat) (o:Option Ob):H:=H.rec (λ t n=>⟨Tr.Uz (id+1) t id o,n⟩) h
theorem H.sZ (h:H) (id:Nat) (o:Option Ob):h.Uz id o=h.set id o:=by
 cases h;show H.mk _ _=_;rw [←Tr.sZ];rfl
theorem wrap_i64 {n:Int} (h1: -9223372036854775808<=n) (h2:n<9223372036854775808):IntKind.i64.wrap n=n:=by
 unfold IntKind.wrap
 simp only [IntKind.bits,IntKind.signed]
 by_cases h:0<=n
 ·have:n%2^64=n:=Int.emod_eq_of_lt h (by omega)
  simp only [this]
  rw [if_neg]
  simp;omega
 ·have:n%2^64=n+2^64:=by
   rw [←Int.add_emod_right]
   exact Int.emod_eq_of_lt (by omega) (by omega)
  simp only [this]
  rw [if_pos]
  ·omega
  ·simp;omega
def US (n:Int):Bool:=Int.rec (λ a=>Nat.blt a 9223372036854775808) (λ a=>Nat.blt a 9223372036854775808) n
theorem Rs {n:Int} (h:US n=true): -9223372036854775808<=n/\n<9223372036854775808:=by
 cases n with
 |ofNat a=>
  have h2:=(Nat.blt_eq (x:=a) (y:=9223372036854775808)).mp h
  have h3:Int.ofNat a=(a:Int):=rfl
  rw [h3];omega
 |negSucc a=>
  have h2:=(Nat.blt_eq (x:=a) (y:=9223372036854775808)).mp h
  have h3:=Int.negSucc_eq a
  rw [h3];omega
def IE (k:IntKind) (n:Int):Int:=
 match k with
 | .i64=>cond (US n) n (IntKind.i64.wrap n)
 |k=>k.wrap n
theorem aaF (k:IntKind) (n:Int):IE k n=k.wrap n:=by
 cases k<;>try rfl
 simp only [IE]
 cases h:US n with
 |false=>rfl
 |true=>rw [wrap_i64 (Rs h).1 (Rs h).2];rfl
def ZT (a b:Int):Bool:=Int.rec (λ a=>Int.rec (λ b=>Nat.blt a b) (λ _=>false) b) (λ a=>Int.rec (λ _=>true) (λ b=>Nat.blt b a) b) a
theorem agH (a b:Int):ZT a b=decide (a<b):=by
 cases a with
 |ofNat a=>cases b with
  |ofNat b=>show Nat.blt a b=_;rw [Bool.eq_iff_iff,Nat.blt_eq];simp
  |negSucc b=>show false=_;simp;omega
 |negSucc a=>cases b with
  |ofNat b=>show true=_;simp;omega
  |negSucc b=>show Nat.blt b a=_;rw [Bool.eq_iff_iff,Nat.blt_eq];simp;omega
def ajW (a b:Int):Bool:=Int.rec (λ a=>Int.rec (λ b=>Nat.beq a b) (λ _=>false) b) (λ a=>Int.rec (λ _=>false) (λ b=>Nat.beq a b) b) a
theorem aeF (a b:Int):ajW a b=(a==b):=by
 cases a with
 |ofNat a=>cases b with
  |ofNat b=>show Nat.beq a b=_;rw [Bool.eq_iff_iff,Nat.beq_eq];simp;omega
  |negSucc b=>show false=_;symm;simp
 |negSucc a=>cases b with
  |ofNat b=>show false=_;symm;simp
  |negSucc b=>show Nat.beq a b=_;rw [Bool.eq_iff_iff,Nat.beq_eq];simp
def IY (op:BinOp) (k:IntKind) (a b:Int):Option V:=
 match op with
 | .add=>some (.int k (IE k (a+b)))
 | .sub=>some (.int k (IE k (a-b)))
 | .mul=>some (.int k (IE k (a*b)))
 | .eql=>some (.bool (ajW a b))
 | .neq=>some (.bool (!ajW a b))
 | .lss=>some (.bool (ZT a b))
 | .leq=>some (.bool (!ZT b a))
 | .gtr=>some (.bool (ZT b a))
 | .geq=>some (.bool (!ZT a b))
 |op=>arith op k a b
theorem TB (op:BinOp) (k:IntKind) (a b:Int):IY op k a b=arith op k a b:=by
 cases op<;>simp only [IY,arith,aaF,aeF,agH]
 ·simp [bne]
 ·congr 2;rw [Bool.eq_iff_iff];simp
 ·congr 2;rw [Bool.eq_iff_iff];simp
end
end Go.Ay
