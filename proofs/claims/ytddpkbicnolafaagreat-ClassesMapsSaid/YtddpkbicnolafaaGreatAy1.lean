/- The abstract machine: values, heaps, the intermediate code, its evaluator, and the compiler from the model's code. -/
import GoSem.Dispatch
import GoSem.Core.Code
namespace Go.Ay
theorem iM.{u} {α:Type u} {l:List α} {i:Nat} (h:i<l.length):l[i]?=some l[i]:=List.getElem?_eq_getElem h
theorem oC.{u,v} {α:Type u} {β:Type v} {b:β} {x:Option α} {f:α->β}:Option.map f x=some b↔∃ a,x=some a/\f a=b:=Option.map_eq_some_iff
theorem sX.{u} {α β:Type u} {o:Option α} {f:α->Option β} {b:β}:o.bind f=some b↔∃ a,o=some a/\f a=some b:=Option.bind_eq_some_iff
theorem mS {n m k:Nat} (h:n<m) (h2:m<=k):n<k:=Nat.lt_of_lt_of_le h h2
theorem jC (n:Nat):n<=n:=Nat.le_refl n
theorem mQ (n:Nat):0<=n:=Nat.zero_le n
theorem pE.{u,v} {α:Type u} {β:Type v} {as:List α} (f:α->β):(as.map f).length=as.length:=List.length_map f
theorem uY.{u} {α:Type u} {as bs:List α}:(as++bs).length=as.length+bs.length:=List.length_append
theorem EB {p:Prop} (h:¬p->False):p:=Classical.byContradiction h
inductive uN where
 |kn (c:Nat)
 |un (esz:Nat)
 deriving DecidableEq,Repr,Inhabited
inductive V where
 |int (k:IntKind) (n:Int)
 |bool (b:Bool)
 |ptr (id off:Nat)
 |nilp
 |sl (id off len:Nat) (cap:uN)
 |aC
 |emp (a:Addr)
 |str (l:List Nat)
 |ifc (t:Nat) (x:V)
 |mp (id:Nat)
 |nilm
 |fn (f:Nat) (first cs:List V)
 |yl (id:Nat)
 |nilf
 |agg (vs:List V)
 |tup (vs:List V)
 |unk
 deriving Repr,Inhabited
def V.undef:V:= .tup []
def V.cells:V->List V
 | .agg vs=>vs
 |v=> [v]
def V.one:V->Bool
 | .agg _| .tup _| .unk=>false
 |_=>true
inductive X where
 |v (k:Nat)
 |l (k:Nat)
 |c (x:V)
 deriving Repr,Inhabited
inductive D where
 |v (k:Nat)
 |l
 |n
 deriving Repr,Inhabited,DecidableEq
inductive Ib where
 |str
 |arr (n:Nat) (k:IntKind)
 deriving Repr,Inhabited,DecidableEq
inductive I where
 |mov (x:X)
 |pick (c a b:X)
 |bin (op:BinOp) (k:IntKind) (x y:X)
 |shf (op:BinOp) (k:IntKind) (x y:X)
 |beq (neg:Bool) (x y:X)
 |snil (neg:Bool) (x:X)
 |not (x:X)
 |neg (k:IntKind) (x:X)
 |conv (k:IntKind) (x:X)
 |part (agg:Bool) (off n:Nat) (x:X)
 |ext (x:X) (i:Nat)
 |lens (x:X)
 |lenm (x:X)
 |caps (x:X)
 |mm (max:Bool) (xs:List X)
 |ld (agg:Bool) (n:Nat) (x:X)
 |st (n:Nat) (x y:X)
 |ixa (sz:Nat) (x i:X)
 |fla (off:Nat) (x:X)
 |slc (sz:Nat) (x:X) (lo hi mx:Option X)
 |mks (sz bytes:Nat) (zero:List V) (l c:X)
 |alc (zero:List V)
 |box (x:X)
 |bld (zero:List V) (parts:List (Nat×Nat×X))
 |bls (sz:Nat) (zero:List V) (n:Nat) (parts:List (Nat×Nat×X))
 |app (sz bytes:Nat) (x y:X)
 |apz (sz bytes:Nat) (zero:List V) (x n:X)
 |cpy (sz:Nat) (x y:X)
 |mkf (f:Nat) (first cs:List X)
 |mkm
 |lkp (zero:V) (ok:Bool) (x k:X)
 |mset (x k y:X)
 |nck (x:X)
 |ixd (n sz:Nat) (x i:X)
 |cvs (x:X)
 |mif (t:Nat) (x:X)
 |mkw (sh:Ib) (r:Option X)
 |lkw (sh:Ib) (zero:V) (ok:Bool) (x k:X)
 |msw (sh:Ib) (x k y:X)
 |ent (sh:Ib) (zero:V) (x k:X)
 |ens (x s y:X)
 |six (x i:X)
 |seq (neg:Bool) (x y:X)
 |sad (x y:X)
 |cir (x:X)
 |clr (sz:Nat) (zero:List V) (x:X)
 |sla (n sz:Nat) (x:X) (lo hi:Option X)
 |fail
 deriving Repr,Inhabited
def V.My:V->Bool
 | .int .. | .bool _=>true
 |_=>false
inductive dZ where
 |op (i:I)
 |call (f:Nat) (args:List X)
 |callv (x:X) (args:List X)
 |callp (f:Nat) (args:List X)
 |calli (f t:Nat) (x:X) (args:List X)
 deriving Repr,Inhabited
structure It where
 d:D
 g:Option (X×Bool)
 a:dZ
 deriving Repr,Inhabited
structure AI where
 i:Nat
 it:It
 al:Bool
 cks:List Nat
 deriving Repr,Inhabited
inductive C where
 |skip
 |reg (its:List It)
 |any (k nl:Nat) (its:List AI)
 |regd (its:List It) (x:X) (args:List X)
 |seq (a b:C)
 |ite (x:X) (a b:C)
 |block (id:Nat) (c:C)
 |loop (c:C)
 |exit (id:Nat)
 |ret
 |scope (c:C)
 |range (f:X) (pars:List Nat) (assign body:C)
 |fail
 deriving Repr,Inhabited
inductive E where
 |norm
 |ret
 |exit (id:Nat)
 deriving Repr,Inhabited,DecidableEq
inductive LSt where
 |ready
 |busy
 |done
 |out
 deriving Repr,Inhabited,DecidableEq
structure fV where
 vars:List V
 pars:List Nat
 assign:C
 body:C
 st:LSt
 pend:Option E
inductive Ob where
 |cells (ro:Bool) (vs:List V)
 |map (es:List (V×V))
 |wmap (sh:Ib) (es:List (V×V))
 |loop (r:fV)
inductive Tr where
 |lf
 |nd (v:Option Ob) (l r:Tr)
def Tr.get:Tr->Nat->Option Ob
 | .lf,_=>none
 | .nd v l r,n=>cond (n==0) v (cond (n%2==1) (l.get (n/2)) (r.get (n/2- 1)))
def Tr.Xy:Nat->Tr->Nat->Option Ob->Tr
 |0,t,_,_=>t
 |f+1,.lf,n,o=>cond (n==0) (.nd o .lf .lf) (cond (n%2==1) (.nd none (Xy f .lf (n/2) o) .lf) (.nd none .lf (Xy f .lf (n/2- 1) o)))
 |f+1,.nd v l r,n,o=>cond (n==0) (.nd o l r) (cond (n%2==1) (.nd v (Xy f l (n/2) o) r) (.nd v l (Xy f r (n/2- 1) o)))
theorem Tr.zN: ∀ (f:Nat) (t:Tr) (n k:Nat) (o:Option Ob),n<f->(t.Xy f n o).get k=if k=n then o else t.get k
 |0,_,_,_,_,h=>by omega
 |f+1,.lf,n,k,o,h=>by
  simp only [Tr.Xy]
  by_cases hn:n=0
  ·subst hn
   simp only [beq_self_eq_true,cond_true,Tr.get]
   by_cases hk:k=0
   ·simp [hk]
   ·have h1:(k==0)=false:=by simp [hk]
    simp [h1,hk,Tr.get]
  ·have h0:(n==0)=false:=by simp [hn]
   simp only [h0,cond_false]
   by_cases hp:n%2=1
   ·have h1:(n%2==1)=true:=by simp [hp]
    simp only [h1,cond_true,Tr.get]
    by_cases hk:k=0
    ·subst hk;simp [show (0:Nat)≠n from λ e=>hn e.symm]
    ·have h2:(k==0)=false:=by simp [hk]
     simp only [h2,cond_false]
     by_cases hq:k%2=1
     ·have h3:(k%2==1)=true:=by simp [hq]
      simp only [h3,cond_true]
      rw [Tr.zN f .lf (n/2) (k/2) o (by omega)]
      have:k/2=n/2↔k=n:=by omega
      simp [this,Tr.get]
     ·have h3:(k%2==1)=false:=by simp;omega
      have:k≠n:=λ e=>hq (e▸hp)
      simp [h3,this,Tr.get]
   ·have h1:(n%2==1)=false:=by simp;omega
    simp only [h1,cond_false,Tr.get]
    by_cases hk:k=0
    ·subst hk;simp [show (0:Nat)≠n from λ e=>hn e.symm]
    ·have h2:(k==0)=false:=by simp [hk]
     simp only [h2,cond_false]
     by_cases hq:k%2=1
     ·have h3:(k%2==1)=true:=by simp [hq]
      have:k≠n:=λ e=>hp (e▸hq)
      simp [h3,this,Tr.get]
     ·have h3:(k%2==1)=false:=by simp;omega
      simp only [h3,cond_false]
      rw [Tr.zN f .lf (n/2- 1) (k/2- 1) o (by omega)]
      have:k/2- 1=n/2- 1↔k=n:=by omega
      simp [this,Tr.get]
 |f+1,.nd v l r,n,k,o,h=>by
  simp only [Tr.Xy]
  by_cases hn:n=0
  ·subst hn
   simp only [beq_self_eq_true,cond_true,Tr.get]
   by_cases hk:k=0
   ·simp [hk]
   ·have h1:(k==0)=false:=by simp [hk]
    simp [h1,hk]
  ·have h0:(n==0)=false:=by simp [hn]
   simp only [h0,cond_false]
   by_cases hp:n%2=1
   ·have h1:(n%2==1)=true:=by simp [hp]
    simp only [h1,cond_true,Tr.get]
    by_cases hk:k=0
    ·subst hk;simp [show (0:Nat)≠n from λ e=>hn e.symm]
    ·have h2:(k==0)=false:=by simp [hk]
     simp only [h2,cond_false]
     by_cases hq:k%2=1
     ·have h3:(k%2==1)=true:=by simp [hq]
      simp only [h3,cond_true]
      rw [Tr.zN f l (n/2) (k/2) o (by omega)]
      have:k/2=n/2↔k=n:=by omega
      simp [this]
     ·have h3:(k%2==1)=false:=by simp;omega
      have:k≠n:=λ e=>hq (e▸hp)
      simp [h3,this]
   ·have h1:(n%2==1)=false:=by simp;omega
    simp only [h1,cond_false,Tr.get]
    by_cases hk:k=0
    ·subst hk;simp [show (0:Nat)≠n from λ e=>hn e.symm]
    ·have h2:(k==0)=false:=by simp [hk]
     simp only [h2,cond_false]
     by_cases hq:k%2=1
     ·have h3:(k%2==1)=true:=by simp [hq]
      have:k≠n:=λ e=>hp (e▸hq)
      simp [h3,this]
     ·have h3:(k%2==1)=false:=by simp;omega
      simp only [h3,cond_false]
      rw [Tr.zN f r (n/2- 1) (k/2- 1) o (by omega)]
      have:k/2- 1=n/2- 1↔k=n:=by omega
      simp [this]
structure H where
 tr:Tr
 next:Nat
def H.get (h:H) (i:Nat):Option Ob:=h.tr.get i
def H.set (h:H) (id:Nat) (o:Option Ob):H:={h with tr:=h.tr.Xy (id+1) id o}
def H.new (h:H) (o:Ob):H:={tr:=h.tr.Xy (h.next+1) h.next (some o),next:=h.next+1}
theorem H.jM (h:H) (id:Nat) (o:Option Ob) (k:Nat):(h.set id o).get k=if k=id then o else h.get k:=Tr.zN _ _ _ _ _ (Nat.lt_succ_self _)
theorem H.lW (h:H) (o:Ob) (k:Nat):(h.new o).get k=if k=h.next then some o else h.get k:=Tr.zN _ _ _ _ _ (Nat.lt_succ_self _)
theorem H.cG (h:H) (id:Nat) (o:Option Ob):(h.set id o).next=h.next:=rfl
theorem H.bD (h:H) (o:Ob):(h.new o).next=h.next+1:=rfl
inductive Rv where
 |v (k:Nat)
 |cell (k:Nat) (agg:Bool) (n:Nat)
 deriving Repr,Inhabited
structure Fn where
 nargs:Nat
 init:List (Option Nat)
 results:List Rv
 body:C
 deriving Repr,Inhabited
def xv (vars loc:List V):X->V
 | .v k=>vars.getD k .undef
 | .l k=>loc.getD k .undef
 | .c x=>x
def zD (vars:List V) (k:Nat) (v:V):List V:=vars.set k v
def arith (op:BinOp) (k:IntKind) (a b:Int):Option V:=
 match op with
 | .add=>some (.int k (k.wrap (a+b)))
 | .sub=>some (.int k (k.wrap (a-b)))
 | .mul=>some (.int k (k.wrap (a*b)))
 | .quo=>if b=0 then none else some (.int k (k.wrap (a.tdiv b)))
 | .rem=>if b=0 then none else some (.int k (a.tmod b))
 | .eql=>some (.bool (a==b))
 | .neq=>some (.bool (a !=b))
 | .lss=>some (.bool (a<b))
 | .leq=>some (.bool (a<=b))
 | .gtr=>some (.bool (a>b))
 | .geq=>some (.bool (a≥b))
 | .and=>some (.int k (k.wrap (BitVec.ofInt k.bits a&&&BitVec.ofInt k.bits b).toNat))
 | .or=>some (.int k (k.wrap (BitVec.ofInt k.bits a|||BitVec.ofInt k.bits b).toNat))
 | .xor=>some (.int k (k.wrap (BitVec.ofInt k.bits a^^^BitVec.ofInt k.bits b).toNat))
 |_=>none
def Dt (op:BinOp) (k:IntKind) (a b:Int):Option V:=
 if b<0 then none else
 match op with
 | .shl=>some (.int k (k.wrap (a*2^(min b.toNat k.bits))))
 | .shr=>some (.int k (a.fdiv (2^(min b.toNat k.bits))))
 |_=>none
def sub (vs:List V) (off n:Nat):Option (List V):=
 if off+n<=vs.length then some ((vs.drop off).take n) else none
def putAt (vs:List V) (off:Nat) (ws:List V):Option (List V):=
 if off+ws.length<=vs.length then some (vs.take off++ws++vs.drop (off+ws.length)) else none
def H.row (h:H) (id off n:Nat):Option (List V):=
 match h.get id with
 |some (.cells _ vs)=>sub vs off n
 |_=>none
def H.put (h:H) (id off:Nat) (ws:List V):Option H:=
 match h.get id with
 |some (.cells false vs)=>(putAt vs off ws).map λ vs'=>h.set id (some (.cells false vs'))
 |_=>none
def H.slice (h:H) (sz:Nat):V->Option (List V)
 | .aC=>some []
 | .emp _=>some []
 | .sl id off len _=>h.row id off (len*sz)
 |_=>none
def xT:V->Option Nat
 | .aC=>some 0
 | .emp _=>some 0
 | .sl _ _ len _=>some len
 |_=>none
def XK (h:H) (agg:Bool) (n:Nat):V->Option V
 | .ptr id off=>
  match h.row id off n with
  |some vs=>if agg then some (.agg vs) else match vs with| [v]=>some v|_=>none
  |none=>none
 |_=>none
def AR (sz:Nat) (x i:V):Option V:=
 match x,i with
 | .sl id off len _,.int _ n=>if 0<=n/\n<len then some (.ptr id (off+n.toNat*sz)) else none
 |_,_=>none
def wC (x:Option V) (dflt top:Nat):Option Nat:=
 match x with
 |none=>some dflt
 |some (.int _ n)=>if 0<=n/\n<=top then some n.toNat else none
 |_=>none
def Sk (sz:Nat) (x:V) (lo hi mx:Option V):Option V:=
 match x with
 | .aC=>
  match mx,wC hi 0 0 with
  |none,some h=>match wC lo 0 h with|some _=>some .aC|none=>none
  |_,_=>none
 | .sl id off len cap=>
  match mx with
  |some _=>none
  |none=>
   match wC hi len (match cap with| .kn c=>c| .un _=>len) with
   |none=>none
   |some h=>
    match wC lo 0 h with
    |none=>none
    |some l=>
     match cap with
     | .kn c=>if l<=c then some (.sl id (if c=l then off else off+l*sz) (h-l) (.kn (c-l))) else none
     | .un e=>if e=sz then (if l<len then some (.sl id (off+l*sz) (h-l) (.un e)) else some (.sl id off 0 (.un e))) else none
 |_=>none
def jF (cells:List V):List (Nat×Nat×V)->Option (List V)
 | []=>some cells
 |(off,n,v)::rest=>
  if v.cells.length=n/\v.cells.all V.one then
   match putAt cells off v.cells with
   |some cs=>jF cs rest
   |none=>none
  else none
def dN (zero:List V) (n:Nat):List V:=(List.range n).map λ i=>zero.getD (i%zero.length) .undef
def Et (k:IntKind) (n:Int):List (V×V)->Option V
 | []=>none
 |(.int k' m,v)::es=>if k'=k then if n=m then some v else Et k n es else none
 |_=>none
def xB (k:IntKind):List (V×V)->Bool
 | []=>true
 |(.int k' _,_)::es=>k'==k&&xB k es
 |_=>false
def Oi (k:IntKind) (n:Int) (y:V):List (V×V)->List (V×V)
 | []=> [(.int k n,y)]
 |(.int k' m,v)::es=>if n=m then (.int k' m,y)::es else (.int k' m,v)::Oi k n y es
 |e::es=>e::Oi k n y es
def UP (max:Bool):V->List V->Option V
 |x, []=>some x
 | .int k x,.int k' y::r=>if k=k' then UP max (.int k (if max then (if y>x then y else x) else (if y<x then y else x))) r else none
 |_,_=>none
def Ej (h:H) (sz bytes:Nat) (x:V) (m:Nat) (ys:List V):Option (V×H):=
 match xT x,h.slice sz x with
 |some n,some xs=>
  if m=0 then some (x,h) else
  if (2*(n+m)+1000)*bytes<=2^48/\n+m<2^62 then
   match x with
   | .sl id off len (.kn c)=>
    if len+m<=c then
     match h.put id (off+len*sz) ys with
     |some h'=>some (.sl id off (len+m) (.kn c),h')
     |none=>none
    else some (.sl h.next 0 (n+m) (.un sz),h.new (.cells false (xs++ys)))
   | .sl id _ _ (.un e)=>
    match h.get id with
    |some (.cells false _)=>if e=sz then some (.sl h.next 0 (n+m) (.un sz),(h.set id none).new (.cells false (xs++ys))) else none
    |_=>none
   | .emp _=>none
   |_=>some (.sl h.next 0 (n+m) (.un sz),h.new (.cells false (xs++ys)))
  else none
 |_,_=>none
def agF (h:H) (sz:Nat) (x y:V):Option (V×H):=
 match xT x,xT y with
 |some n,some m=>
  let k:=min m n
  match x,y with
  | .sl id off _ _,.sl id' off' _ _=>
   match h.row id' off' (k*sz) with
   |some ys=>match h.put id off ys with
    |some h'=>some (.int .i64 k,h')
    |none=>none
   |none=>none
  |_,_=>if k=0 then some (.int .i64 0,h) else none
 |_,_=>none
def Oq (h:H) (sz bytes:Nat) (zero:List V) (l c:V):Option (V×H):=
 match l,c with
 | .int _ l,.int _ c=>
  if 0<=l/\l<=c/\c*bytes<=2^48/\c<2^62 then
   some (.sl h.next 0 l.toNat (.kn c.toNat),h.new (.cells false (dN zero (c.toNat*sz))))
  else none
 |_,_=>none
mutual
def eY:V->V->Bool
 | .int k a,.int j b=>k==j&&a==b
 | .bool a,.bool b=>a==b
 | .ptr i o,.ptr j p=>i==j&&o==p
 | .nilp,.nilp=>true
 | .sl i o l c,.sl j p n d=>i==j&&o==p&&l==n&&decide (c=d)
 | .aC,.aC=>true
 | .emp a,.emp b=>decide (a=b)
 | .str a,.str b=>a==b
 | .ifc a x,.ifc b y=>a==b&&eY x y
 | .mp i,.mp j=>i==j
 | .nilm,.nilm=>true
 | .fn f a b,.fn g c d=>f==g&&yA a c&&yA b d
 | .yl i,.yl j=>i==j
 | .nilf,.nilf=>true
 | .agg a,.agg b=>yA a b
 | .tup a,.tup b=>yA a b
 |_,_=>false
def yA:List V->List V->Bool
 | [], []=>true
 |a::as,b::bs=>eY a b&&yA as bs
 |_,_=>false
end
def acF:V->Bool
 | .int .. =>true
 |_=>false
def Tb:Option V->Bool
 |none=>true
 |some v=>acF v
def TK (n sz:Nat) (x i:V):Option V:=
 match x,i with
 | .ptr id off,.int _ z=>if 0<=z/\z<(n:Int) then some (.ptr id (off+z.toNat*sz)) else none
 |_,_=>none
def xZ:List V->Option (List Nat)
 | []=>some []
 | .int .u8 n::r=>if 0<=n/\n<256 then (xZ r).map (n.toNat:: ·) else none
 |_=>none
def WU (h:H) (x:V):Option V:=
 match x with
 | .aC=>some (.str [])
 | .sl id off len _=>match h.row id off len with
  |some ys=>(xZ ys).map V.str
  |none=>none
 |_=>none
def isKey:Ib->V->Bool
 | .str,.str l=>decide (l.length<2^62)&&l.all (λ n=>decide (n<256))
 | .arr n k,.agg vs=>decide (vs.length=n)&&vs.all (fun| .int j a=>decide (j=k)&&(decide (k.min<=a)&&decide (a<=k.max))|_=>false)
 |_,_=>false
def gU (k:V):List (V×V)->Option (Nat×V)
 | []=>none
 |e::es=>if eY k e.1 then some (0,e.2) else (gU k es).map λ q=>(q.1+1,q.2)
def cY (ρ:X->V) (h:H):I->Option (V×H)
 | .mov x=>some (ρ x,h)
 | .pick c a b=>match ρ c with| .bool t=>some (if t then ρ a else ρ b,h)|_=>none
 | .bin op k x y=>match ρ x,ρ y with
  | .int j a,.int j' b=>if j=k/\j'=k then (arith op k a b).map (·,h) else none
  |_,_=>none
 | .shf op k x y=>match ρ x,ρ y with
  | .int j a,.int _ b=>if j=k then (Dt op k a b).map (·,h) else none
  |_,_=>none
 | .beq neg x y=>match ρ x,ρ y with
  | .bool a,.bool b=>some (.bool (if neg then !(a==b) else a==b),h)
  |_,_=>none
 | .snil neg x=>match ρ x with
  | .aC=>some (.bool (!neg),h)
  | .sl .. | .emp _=>some (.bool neg,h)
  |_=>none
 | .not x=>match ρ x with| .bool a=>some (.bool (!a),h)|_=>none
 | .neg k x=>match ρ x with| .int j a=>if j=k then some (.int k (k.wrap (0-a)),h) else none|_=>none
 | .conv k x=>match ρ x with| .int _ a=>some (.int k (k.wrap a),h)|_=>none
 | .part agg off n x=>match ρ x with
  | .agg vs=>if agg then (sub vs off n).map (λ ws=>(.agg ws,h)) else (vs[off]?).map (·,h)
  |_=>none
 | .ext x i=>match ρ x with| .tup vs=>(vs[i]?).map (·,h)|_=>none
 | .lens x=>(xT (ρ x)).map λ (n:Nat)=>(V.int .i64 (n:Int),h)
 | .caps x=>match ρ x with
  | .aC=>some (.int .i64 0,h)
  | .sl _ _ _ (.kn c)=>if c<2^62 then some (.int .i64 c,h) else none
  |_=>none
 | .lenm x=>match ρ x with
  | .nilm=>some (.int .i64 0,h)
  | .mp id=>match h.get id with|some (.map es)=>some (.int .i64 es.length,h)|_=>none
  |_=>none
 | .mm max xs=>match xs.map ρ with| []=>none|x::r=>(UP max x r).map (·,h)
 | .ld agg n x=>(XK h agg n (ρ x)).map (·,h)
 | .st n x y=>match ρ x with
  | .ptr id off=>if (ρ y).cells.length=n/\(ρ y).cells.all V.one then (h.put id off (ρ y).cells).map (λ h'=>(V.undef,h')) else none
  |_=>none
 | .ixa sz x i=>(AR sz (ρ x) (ρ i)).map (·,h)
 | .fla off x=>match ρ x with| .ptr id o=>some (.ptr id (o+off),h)|_=>none
 | .slc sz x lo hi mx=>(Sk sz (ρ x) (lo.map ρ) (hi.map ρ) (mx.map ρ)).map (·,h)
 | .mks sz bytes zero l c=>Oq h sz bytes zero (ρ l) (ρ c)
 | .alc zero=>some (.ptr h.next 0,h.new (.cells false zero))
 | .box x=>if (ρ x).cells.all V.one then some (.ptr h.next 0,h.new (.cells false (ρ x).cells)) else none
 | .bld zero parts=>(jF zero (parts.map λ p=>(p.1,p.2.1,ρ p.2.2))).map λ cs=>(.agg cs,h)
 | .bls sz zero n parts=>match jF (dN zero (n*sz)) (parts.map λ p=>(p.1,p.2.1,ρ p.2.2)) with
  |some cs=>if cs.all V.one then some (.sl h.next 0 n (.kn n),h.new (.cells false cs)) else none
  |none=>none
 | .app sz bytes x y=>match xT (ρ y),h.slice sz (ρ y) with
  |some m,some ys=>Ej h sz bytes (ρ x) m ys
  |_,_=>none
 | .apz sz bytes zero x n=>match ρ n with
  | .int .i64 n=>if 0<=n/\n*bytes<=2^48/\n<2^62/\zero.length=sz then Ej h sz bytes (ρ x) n.toNat (dN zero (n.toNat*sz)) else none
  |_=>none
 | .cpy sz x y=>agF h sz (ρ x) (ρ y)
 | .mkf f fs cs=>some (.fn f (fs.map ρ) (cs.map ρ),h)
 | .mkm=>some (.mp h.next,h.new (.map []))
 | .lkp zero ok x k=>match ρ x,ρ k with
  | .mp id,.int kk n=>match h.get id with
   |some (.map es)=>if xB kk es then
     match Et kk n es with
     |some v=>some (if ok then .tup [v,.bool true] else v,h)
     |none=>some (if ok then .tup [zero,.bool false] else zero,h)
    else none
   |_=>none
  |_,_=>none
 | .mset x k y=>match ρ x,ρ k with
  | .mp id,.int kk n=>match h.get id with
   |some (.map es)=>if xB kk es then some (V.undef,h.set id (some (.map (Oi kk n (ρ y) es)))) else none
   |_=>none
  |_,_=>none
 | .nck x=>match ρ x with| .ptr id off=>some (.ptr id off,h)|_=>none
 | .ixd n sz x i=>(TK n sz (ρ x) (ρ i)).map (·,h)
 | .cvs x=>(WU h (ρ x)).map (·,h)
 | .mif t x=>some (.ifc t (ρ x),h)
 | .mkw sh r=>if Tb (r.map ρ)=true then some (.mp h.next,h.new (.wmap sh [])) else none
 | .lkw s zero ok x k=>match ρ x with
  | .mp id=>match h.get id with
   |some (.wmap sh es)=>if s=sh/\isKey s (ρ k)=true then
     match gU (ρ k) es with
     |some e=>some (if ok then .tup [e.2,.bool true] else e.2,h)
     |none=>some (if ok then .tup [zero,.bool false] else zero,h)
    else none
   |_=>none
  |_=>none
 | .msw s x k y=>match ρ x with
  | .mp id=>match h.get id with
   |some (.wmap sh es)=>if s=sh/\isKey s (ρ k)=true then
     some (V.undef,h.set id (some (.wmap sh (match gU (ρ k) es with
      |some e=>es.set e.1 (ρ k,ρ y)
      |none=>es++ [(ρ k,ρ y)]))))
    else none
   |_=>none
  |_=>none
 | .ent s zero x k=>match ρ x with
  | .mp id=>match h.get id with
   |some (.wmap sh es)=>if s=sh/\isKey s (ρ k)=true then
     match gU (ρ k) es with
     |some e=>some (.tup [e.2,.int .i64 (e.1:Nat)],h)
     |none=>some (.tup [zero,.int .i64 es.length],h.set id (some (.wmap sh (es++ [(ρ k,zero)]))))
    else none
   |_=>none
  |_=>none
 | .ens x s y=>match ρ x,ρ s with
  | .mp id,.int .i64 n=>match h.get id with
   |some (.wmap sh es)=>if 0<=n then
     match es[n.toNat]? with
     |some e=>some (V.undef,h.set id (some (.wmap sh (es.set n.toNat (e.1,ρ y)))))
     |none=>none
    else none
   |_=>none
  |_,_=>none
 | .six x i=>match ρ x,ρ i with
  | .str l,.int _ z=>if 0<=z then (l[z.toNat]?).map (λ (c:Nat)=>(V.int .u8 ((c%256:Nat):Int),h)) else none
  |_,_=>none
 | .sla n sz x lo hi=>match ρ x with
  | .ptr id off=>(Sk sz (.sl id off n (.kn n)) (lo.map ρ) (hi.map ρ) none).map (·,h)
  |_=>none
 | .seq neg x y=>match ρ x,ρ y with
  | .str a,.str b=>some (.bool (if neg then !(a.map (· %256)==b.map (· %256)) else a.map (· %256)==b.map (· %256)),h)
  |_,_=>none
 | .sad x y=>match ρ x,ρ y with
  | .str a,.str b=>if a.length+b.length<2^62 then some (.str (a++b),h) else none
  |_,_=>none
 | .cir x=>match ρ x with
  | .int _ n=>if 0<=n/\n<128 then some (.str [n.toNat],h) else none
  |_=>none
 | .clr sz zero x=>match ρ x with
  | .aC=>some (V.undef,h)
  | .emp _=>some (V.undef,h)
  | .sl id off len _=>if len=0 then some (V.undef,h) else
   if zero.length=sz/\zero.all V.one=true then (h.put id off (dN zero (len*sz))).map (λ h'=>(V.undef,h')) else none
  |_=>none
 | .fail=>none
def nQ (d:D) (vars loc:List V) (v:V):List V×List V:=
 match d with
 | .v k=>(vars.set k v,loc)
 | .l=>(vars,v::loc)
 | .n=>(vars,loc)
def Gw (vars:List V) (h:H):Rv->Option V
 | .v k=>some (vars.getD k .undef)
 | .cell k agg n=>XK h agg n (vars.getD k .undef)
def Ny:List V->V
 | [v]=>v
 |vs=> .tup vs
def cK {α:Type}:List (Option α)->Option (List α)
 | []=>some []
 |none::_=>none
 |some a::r=>(cK r).map (a:: ·)
def gO (vars loc:List V):Option (X×Bool)->Option Bool
 |none=>some true
 |some (x,b)=>match xv vars loc x with| .bool a=>some (a==b)| .tup []=>some false|_=>none
def I.vY:I->Bool
 | .ld .. | .lenm _| .lkp .. | .cvs _| .lkw .. =>true
 |_=>false
def I.oN:I->Bool
 | .mks .. | .alc _| .box _| .bls .. | .mkm| .mkw .. =>true
 |_=>false
def I.wT:I->Bool
 | .st .. | .app .. | .apz .. | .cpy .. | .mset .. | .msw .. | .ent .. | .ens .. | .clr .. =>true
 |_=>false
def dZ.vY:dZ->Bool
 | .op i=>i.vY
 |_=>false
def dZ.oN:dZ->Bool
 | .op i=>i.oN
 |_=>false
def dZ.wT:dZ->Bool
 | .op i=>i.wT
 | .callp .. =>false
 |_=>true
def I.close (ρ:X->V):I->I
 | .ld a n x=> .ld a n (.c (ρ x))
 | .lenm x=> .lenm (.c (ρ x))
 | .lkp z ok x k=> .lkp z ok (.c (ρ x)) (.c (ρ k))
 | .cvs x=> .cvs (.c (ρ x))
 | .lkw s z ok x k=> .lkw s z ok (.c (ρ x)) (.c (ρ k))
 |i=>i
abbrev Log:=List (Nat×I×V)
def tS (cks:List Nat) (log:Log) (h:H):Bool:=
 log.all λ e=>!cks.contains e.1||(match cY (xv [] []) h e.2.1 with|some (v,_)=>eY v e.2.2|none=>false)
def Qi (x:AI) (vars:List V) (v:V) (log:Log):Log:=
 match x.it.a with
 | .op i=>if i.vY then (x.i,i.close (xv vars []),v)::log else log
 |_=>log
def Uw (vars:List V) (h:H) (n:Nat):dZ->Option (V×H)
 | .op i=>match cY (xv vars []) {h with next:=n} i with
  |some (v,h')=>some (v,{h' with next:=h.next})
  |none=>none
 |_=>none
def Lf (fn:Fn) (args:List V):List V:=fn.init.map λ o=>match o with|some j=>args.getD j .undef|none=> .undef
def C.CM:C->Bool
 | .seq a b| .ite _ a b=>a.CM&&b.CM
 | .block _ c| .loop c| .scope c=>c.CM
 | .range .. | .regd .. =>false
 |_=>true
def TR (rd:Option Nat) (h:H):Bool:=
 match rd with
 |none=>true
 |some id=>match h.get id with
  |some (.loop _)=>true
  |_=>false
abbrev UT:=List (Nat×List V)
noncomputable section
def nth (l:List V):Nat->V:=List.rec (λ _=>V.undef) (λ v _ ih k=>Nat.rec v (λ k _=>ih k) k) l
def YW (l:List V):Nat->V->List V:=List.rec (λ _ _=> []) (λ u us ih k v=>Nat.rec (v::us) (λ k _=>u::ih k v) k) l
def OQ (vars loc:List V) (x:X):V:=X.rec (nth vars) (nth loc) (λ v=>v) x
theorem KZ: ∀ (l:List V) (k:Nat),nth l k=l.getD k .undef
 | [],k=>by simp [nth]
 |v::l,0=>rfl
 |v::l,k+1=>by
  have:=KZ l k
  show nth l k=_
  rw [this];simp [List.getD]
theorem OS: ∀ (l:List V) (k:Nat) (v:V),YW l k v=l.set k v
 | [],k,v=>by simp [YW]
 |u::l,0,v=>rfl
 |u::l,k+1,v=>by
  have:=OS l k v
  show u::YW l k v=_
  rw [this];rfl
theorem Il (vars loc:List V):OQ vars loc=xv vars loc:=by
 funext x
 cases x with
 |v k=>exact KZ vars k
 |l k=>exact KZ loc k
 |c v=>rfl
def Pb (v:V) (o:Option (List V)):Option (List V):=Option.rec none (λ r=>some (v::r)) o
theorem Be (v:V) (r:List V):Pb v (some r)=some (v::r):=rfl
theorem Jc (v:V):Pb v none=none:=rfl
def OW (n:Nat):List V->Option (List V):=Nat.rec (λ l=>some l) (λ _ ih l=>List.rec none (λ _ t _=>ih t) l) n
def OG (n:Nat):List V->Option (List V):=Nat.rec (λ _=>some []) (λ _ ih l=>List.rec none (λ v t _=>Pb v (ih t)) l) n
def abH (vs:List V) (off n:Nat):Option (List V):=Option.rec none (λ t=>OG n t) (OW off vs)
def AE (ws:List V):List V->Option (List V):=List.rec (λ l=>some l) (λ w _ ih l=>List.rec none (λ _ t _=>Pb w (ih t)) l) ws
def afK (off:Nat) (ws:List V):List V->Option (List V):=Nat.rec (λ l=>AE ws l) (λ _ ih l=>List.rec none (λ v t _=>Pb v (ih t)) l) off
theorem HO: ∀ (n:Nat) (l:List V),OG n l=if n<=l.length then some (l.take n) else none
 |0,l=>by show some []=_;simp
 |n+1, []=>by simp [OG]
 |n+1,v::t=>by
  have ih:=HO n t
  show Pb v (OG n t)=_
  rw [ih]
  by_cases h:n<=t.length<;>simp [h,Be,Jc]
theorem EU: ∀ (n:Nat) (l:List V),OW n l=if n<=l.length then some (l.drop n) else none
 |0,l=>by show some l=_;simp
 |n+1, []=>by simp [OW]
 |n+1,v::t=>by
  have ih:=EU n t
  show OW n t=_
  rw [ih]
  by_cases h:n<=t.length<;>simp [h,Be,Jc]
theorem CQ (vs:List V) (off n:Nat):abH vs off n=sub vs off n:=by
 unfold abH sub
 rw [EU]
 by_cases h:off<=vs.length
 ·simp only [h,if_true,HO,List.length_drop]
  by_cases h2:off+n<=vs.length
  ·rw [if_pos h2,if_pos (by omega)]
  ·rw [if_neg h2,if_neg (by omega)]
 ·simp only [h,if_false]
  rw [if_neg (by omega)]
theorem GO: ∀ (ws l:List V),AE ws l=if ws.length<=l.length then some (ws++l.drop ws.length) else none
 | [],l=>by simp [AE]
 |w::ws, []=>by simp [AE]
 |w::ws,v::t=>by
  have ih:=GO ws t
  show Pb w (AE ws t)=_
  rw [ih]
  by_cases h:ws.length<=t.length<;>simp [h,Be,Jc]
theorem DS: ∀ (off:Nat) (ws l:List V),afK off ws l=putAt l off ws
 |0,ws,l=>by
  show AE ws l=_
  rw [GO];simp [putAt]
 |off+1,ws, []=>by
  have: ¬(off+1+ws.length<=0):=by omega
  simp [afK,putAt,this]
 |off+1,ws,v::t=>by
  have ih:=DS off ws t
  show Pb v (afK off ws t)=_
  rw [ih]
  unfold putAt
  by_cases h:off+ws.length<=t.length
  ·rw [if_pos h,if_pos (by simp;omega)]
   simp [Be,show off+1+ws.length=(off+ws.length)+1 from by omega]
  ·rw [if_neg h,if_neg (by simp;omega)];rfl
theorem SO (a b:Nat):Nat.beq a b=(a==b):=by rw [Bool.eq_iff_iff,Nat.beq_eq];simp
def Tr.Xv (t:Tr):Nat->Option Ob:=Tr.rec (λ _=>none) (λ v _ _ ihl ihr n=>cond (Nat.beq n 0) v (cond (Nat.beq (n%2) 1) (ihl (n/2)) (ihr (n/2- 1)))) t
theorem Tr.vD: ∀ (t:Tr) (n:Nat),t.Xv n=t.get n
 | .lf,n=>rfl
 | .nd v l r,n=>by
  show cond (Nat.beq n 0) v (cond (Nat.beq (n%2) 1) (l.Xv (n/2)) (r.Xv (n/2- 1)))=_
  rw [Tr.vD l,Tr.vD r,SO,SO];rfl
def Tr.Rn (f:Nat):Tr->Nat->Option Ob->Tr:=
 Nat.rec (λ t _ _=>t) (λ _ ih t n o=>Tr.rec
  (cond (Nat.beq n 0) (.nd o .lf .lf) (cond (Nat.beq (n%2) 1) (.nd none (ih .lf (n/2) o) .lf) (.nd none .lf (ih .lf (n/2- 1) o))))
  (λ v l r _ _=>cond (Nat.beq n 0) (.nd o l r) (cond (Nat.beq (n%2) 1) (.nd v (ih l (n/2) o) r) (.nd v l (ih r (n/2- 1) o)))) t) f
theorem Tr.tH: ∀ (f:Nat) (t:Tr) (n:Nat) (o:Option Ob),t.Xy f n o=Tr.Rn f t n o
 |0,t,n,o=>by cases t<;>rfl
 |f+1,.lf,n,o=>by
  show _=cond (Nat.beq n 0) (Tr.nd o .lf .lf) (cond (Nat.beq (n%2) 1) (.nd none (Tr.Rn f .lf (n/2) o) .lf) (.nd none .lf (Tr.Rn f .lf (n/2- 1) o)))
  rw [←Tr.tH f,←Tr.tH f,SO,SO];rfl
 |f+1,.nd v l r,n,o=>by
  show _=cond (Nat.beq n 0) (Tr.nd o l r) (cond (Nat.beq (n%2) 1) (.nd v (Tr.Rn f l (n/2) o) r) (.nd v l (Tr.Rn f r (n/2- 1) o)))
  rw [←Tr.tH f,←Tr.tH f,SO,SO];rfl
def H.Xv (h:H) (i:Nat):Option Ob:=h.tr.Xv i
theorem H.vD (h:H) (i:Nat):h.Xv i=h.get i:=Tr.vD _ _
def H.Rn (h:H) (id:Nat) (o:Option Ob):H:=H.rec (λ t n=>⟨Tr.Rn (id+1) t id o,n⟩) h
theorem H.tH (h:H) (id:Nat) (o:Option Ob):h.Rn id o=h.set id o:=by
 cases h;show H.mk _ _=_;rw [←Tr.tH];rfl
theorem wrap_i64 {n:Int} (h1: -9223372036854775808<=n) (h2:n<9223372036854775808):IntKind.i64.wrap n=n:=by
 unfold IntKind.wrap
 simp only [IntKind.bits,IntKind.signed]
 by_cases h:0<=n
 ·have:n%2^64=n:=Int.emod_eq_of_lt h (by omega)
  simp only [this]
  rw [if_neg]
  simp;omega
 ·have:n%2^64=n+2^64:=by
   rw [←Int.add_emod_right]
   exact Int.emod_eq_of_lt (by omega) (by omega)
  simp only [this]
  rw [if_pos]
  ·omega
  ·simp;omega
def VY (n:Int):Bool:=Int.rec (λ a=>Nat.blt a 9223372036854775808) (λ a=>Nat.blt a 9223372036854775808) n
theorem Tv {n:Int} (h:VY n=true): -9223372036854775808<=n/\n<9223372036854775808:=by
 cases n with
 |ofNat a=>
  have h2:=(Nat.blt_eq (x:=a) (y:=9223372036854775808)).mp h
  have h3:Int.ofNat a=(a:Int):=rfl
  rw [h3];omega
 |negSucc a=>
  have h2:=(Nat.blt_eq (x:=a) (y:=9223372036854775808)).mp h
  have h3:=Int.negSucc_eq a
  rw [h3];omega
def EV (k:IntKind) (n:Int):Int:=
 match k with
 | .i64=>cond (VY n) n (IntKind.i64.wrap n)
 |k=>k.wrap n
theorem WJ (k:IntKind) (n:Int):EV k n=k.wrap n:=by
 cases k<;>try rfl
 simp only [EV]
 cases h:VY n with
 |false=>rfl
 |true=>rw [wrap_i64 (Tv h).1 (Tv h).2];rfl
def aaE (a b:Int):Bool:=Int.rec (λ a=>Int.rec (λ b=>Nat.blt a b) (λ _=>false) b) (λ a=>Int.rec (λ _=>true) (λ b=>Nat.blt b a) b) a
theorem ahI (a b:Int):aaE a b=decide (a<b):=by
 cases a with
 |ofNat a=>cases b with
  |ofNat b=>show Nat.blt a b=_;rw [Bool.eq_iff_iff,Nat.blt_eq];simp
  |negSucc b=>show false=_;simp;omega
 |negSucc a=>cases b with
  |ofNat b=>show true=_;simp;omega
  |negSucc b=>show Nat.blt b a=_;rw [Bool.eq_iff_iff,Nat.blt_eq];simp;omega
def ajT (a b:Int):Bool:=Int.rec (λ a=>Int.rec (λ b=>Nat.beq a b) (λ _=>false) b) (λ a=>Int.rec (λ _=>false) (λ b=>Nat.beq a b) b) a
theorem agJ (a b:Int):ajT a b=(a==b):=by
 cases a with
 |ofNat a=>cases b with
  |ofNat b=>show Nat.beq a b=_;rw [Bool.eq_iff_iff,Nat.beq_eq];simp;omega
  |negSucc b=>show false=_;symm;simp
 |negSucc a=>cases b with
  |ofNat b=>show false=_;symm;simp
  |negSucc b=>show Nat.beq a b=_;rw [Bool.eq_iff_iff,Nat.beq_eq];simp
def KA (op:BinOp) (k:IntKind) (a b:Int):Option V:=
 match op with
 | .add=>some (.int k (EV k (a+b)))
 | .sub=>some (.int k (EV k (a-b)))
 | .mul=>some (.int k (EV k (a*b)))
 | .eql=>some (.bool (ajT a b))
 | .neq=>some (.bool (!ajT a b))
 | .lss=>some (.bool (aaE a b))
 | .leq=>some (.bool (!aaE b a))
 | .gtr=>some (.bool (aaE b a))
 | .geq=>some (.bool (!aaE a b))
 |op=>arith op k a b
theorem RK (op:BinOp) (k:IntKind) (a b:Int):KA op k a b=arith op k a b:=by
 cases op<;>simp only [KA,arith,WJ,agJ,ahI]
 ·simp [bne]
 ·congr 2;rw [Bool.eq_iff_iff];simp
 ·congr 2;rw [Bool.eq_iff_iff];simp
end
end Go.Ay
