/- Texts of the claim. -/
import GoSem.Dispatch
import GoSem.Core.Code
import Derived.Attr
import Derived.RangeFuncLeaves
import Derived.RangeFuncRecord
import Derived.Laws.AppendOwn
import Derived.OwnWalkIn
import Derived.ChangeKeysEq
import Derived.Laws.MakeOwn
import Derived.Great.BuildSlice
import Derived.WideKeyArr
import Derived.StringKeys
set_option maxHeartbeats 1000000
set_option maxRecDepth 100000
namespace Go.Ay
section
variable {i:Nat} {p:Prop}
theorem dJ.{u}{α:Type u}{l:List α}{i:Nat}(h:i<l.length):l[i]?=some l[i]:=List.getElem?_eq_getElem h
theorem kU.{u,v}{α:Type u}{β:Type v}{b:β}{x:Option α}{f:α->β}:Option.map f x=some b↔∃a,x=some a/\f a=b:=Option.map_eq_some_iff
theorem qA.{u}{α β:Type u}{o:Option α}{f:α->Option β}{b:β}:o.bind f=some b↔∃a,o=some a/\f a=some b:=Option.bind_eq_some_iff
theorem iD {n m k:Nat}(h:n<m)(h2:m<=k):n<k:=Nat.lt_of_lt_of_le h h2
theorem dN (n:Nat):n<=n:=Nat.le_refl n
theorem fY (n:Nat):0<=n:=Nat.zero_le n
theorem dO.{u,v}{α:Type u}{β:Type v}{a:List α}(f:α->β):(a.map f).length=a.length:=List.length_map f
theorem eE.{u}{α:Type u}{a b:List α}:(a++b).length=a.length+b.length:=List.length_append
theorem oG.{u,v}{α:Type u}{β:Type v}{b:β}{f:α->β}{l:List α}:b∈l.map f↔∃a,a∈l/\f a=b:=List.mem_map
theorem Es.{u}{α:Type u}{a:α}{s t:List α}:a∈s++t↔a∈s\/a∈t:=List.mem_append
theorem mS {m n:Nat}:m∈List.range n↔m<n:=List.mem_range
theorem Gh.{u}{α:Type u}{p:α->Bool}{a:List α}{x:α}:x∈a.filter p↔x∈a/\p x=true:=List.mem_filter
theorem Aw.{u}{α:Type u}{l m:List α}{i:Nat}(h:i<l.length):(l++m)[i]?=l[i]?:=List.getElem?_append_left h
theorem jG.{u}{α:Type u}{i:Nat}{l:List α}:(l.take i).length=min i l.length:=List.length_take
theorem Bj.{u}{α:Type u}{a:α}{l:List α}:a∈l↔∃(i:Nat) (h:i<l.length),l[i]=a:=List.mem_iff_getElem
theorem zL (h:¬p->False):p:=Classical.byContradiction h
theorem siM (h:p:=by simp):p:=h
theorem deC (h:p:=by decide):p:=h
theorem siO (h:p:=by simp;omega):p:=h
theorem om (h:p:=by omega):p:=h
theorem aS:type_of% @if_pos:=@if_pos
theorem aQ:type_of% @if_neg:=@if_neg
theorem AA:type_of% @List.append_assoc:=@List.append_assoc
theorem uA:type_of% @Option.bind_eq_bind:=@Option.bind_eq_bind
theorem kQ:type_of% @Nat.le_trans:=@Nat.le_trans
theorem Iq:type_of% @List.getElem?_eq_some_iff:=@List.getElem?_eq_some_iff
theorem wH:type_of% @List.mem_cons_of_mem:=@List.mem_cons_of_mem
theorem oD:type_of% @Bool.and_eq_true:=@Bool.and_eq_true
theorem jP:type_of% @Nat.mul_one:=@Nat.mul_one
theorem qH:type_of% @List.append_nil:=@List.append_nil
theorem Nb:type_of% @List.take_of_length_le:=@List.take_of_length_le
theorem Hs:type_of% @List.getElem?_append_right:=@List.getElem?_append_right
theorem gV:type_of% @List.getD_eq_getElem?_getD:=@List.getD_eq_getElem?_getD
theorem Nt:type_of% @List.map_congr_left:=@List.map_congr_left
theorem gT:type_of% @List.length_range:=@List.length_range
theorem Hn:type_of% @List.getElem_mem:=@List.getElem_mem
theorem wI:type_of% @List.mem_cons_self:=@List.mem_cons_self
theorem Hu:type_of% @List.mem_cons:=@List.mem_cons
theorem Iz:type_of% @List.pairwise_iff_getElem:=@List.pairwise_iff_getElem
theorem Ri:type_of% @Bool.eq_iff_iff:=@Bool.eq_iff_iff
theorem uR:type_of% @List.all_eq_true:=@List.all_eq_true
theorem xF:type_of% @decide_eq_true_iff:=@decide_eq_true_iff
theorem Mc:type_of% @Int.toNat_natCast:=@Int.toNat_natCast
theorem Vm:type_of% @Array.getElem?_eq_some_iff:=@Array.getElem?_eq_some_iff
theorem jR:type_of% @List.length_drop:=@List.length_drop
theorem Ow:type_of% @List.nodup_iff_pairwise_ne:=@List.nodup_iff_pairwise_ne
theorem HP:type_of% @List.mem_of_getElem?:=@List.mem_of_getElem?
theorem iLL:type_of% @List.idxOf_lt_length_iff:=@List.idxOf_lt_length_iff
theorem PC:type_of% @List.length_pos_of_mem:=@List.length_pos_of_mem
theorem Al:type_of% @List.getElem?_map:=@List.getElem?_map
theorem EF:type_of% @List.drop_eq_getElem_cons:=@List.drop_eq_getElem_cons
theorem PB:type_of% @Array.getD_eq_getD_getElem?:=@Array.getD_eq_getD_getElem?
theorem Zs:type_of% @List.eq_nil_of_length_eq_zero:=@List.eq_nil_of_length_eq_zero
inductive qD where
 |kn (c:Nat)
 |un (esz:Nat)
 deriving DecidableEq,Repr,Inhabited
inductive V where
 |int (k:IntKind) (n:Int)
 |bool (b:Bool)
 |ptr (id off:Nat)
 |nilp
 |sl (id off len:Nat) (cap:qD)
 |aH
 |emp (a:Addr)
 |str (l:List Nat)
 |ifc (t:Nat) (x:V)
 |mp (id:Nat)
 |nilm
 |fn (f:Nat) (first cs:List V)
 |yl (id:Nat)
 |nilf
 |agg (vs:List V)
 |tup (vs:List V)
 |unk
 deriving Repr,Inhabited
def V.undef:V:= .tup []
def V.cells:V->List V
 | .agg vs=>vs
 |v=> [v]
def V.one:V->Bool
 | .agg _| .tup _| .unk=>false
 |_=>true
inductive X where
 |v (k:Nat)
 |l (k:Nat)
 |c (x:V)
 deriving Repr,Inhabited
inductive D where
 |v (k:Nat)
 |l
 |n
 deriving Repr,Inhabited,DecidableEq
inductive vF where
 |str
 |arr (n:Nat) (k:IntKind)
 deriving Repr,Inhabited,DecidableEq
inductive I where
 |mov (x:X)
 |pick (c a b:X)
 |bin (op:BinOp) (k:IntKind) (x y:X)
 |Hx (op:BinOp) (k:IntKind) (x y:X)
 |beq (neg:Bool) (x y:X)
 |snil (neg:Bool) (x:X)
 |not (x:X)
 |neg (k:IntKind) (x:X)
 |conv (k:IntKind) (x:X)
 |part (agg:Bool) (off n:Nat) (x:X)
 |mm (max:Bool) (xs:List X)
 |apz (sz bytes:Nat) (zero:List V) (x n:X)
 |mkm
 |caps (x:X)
 |kH (sh:vF) (zero:V) (x k:X)
 |ens (x s y:X)
 |lkp (zero:V) (ok:Bool) (x k:X)
 |mset (x k y:X)
 |ext (x:X) (i:Nat)
 |lens (x:X)
 |lenm (x:X)
 |ld (agg:Bool) (n:Nat) (x:X)
 |st (n:Nat) (x y:X)
 |ixa (sz:Nat) (x i:X)
 |fla (off:Nat) (x:X)
 |slc (sz:Nat) (x:X) (lo hi mx:Option X)
 |mks (sz bytes:Nat) (zero:List V) (l c:X)
 |alc (zero:List V)
 |box (x:X)
 |bld (zero:List V) (parts:List (Nat×Nat×X))
 |bls (sz:Nat) (zero:List V) (n:Nat) (parts:List (Nat×Nat×X))
 |app (sz bytes:Nat) (x y:X)
 |cpy (sz:Nat) (x y:X)
 |mkf (f:Nat) (first cs:List X)
 |nck (x:X)
 |ixd (n sz:Nat) (x i:X)
 |cvs (x:X)
 |mif (t:Nat) (x:X)
 |mkw (sh:vF) (r:Option X)
 |lkw (sh:vF) (zero:V) (ok:Bool) (x k:X)
 |msw (sh:vF) (x k y:X)
 |six (x i:X)
 |seq (neg:Bool) (x y:X)
 |sad (x y:X)
 |cir (x:X)
 |clr (sz:Nat) (zero:List V) (x:X)
 |fail
 deriving Repr,Inhabited
inductive dU where
 |op (i:I)
 |call (f:Nat) (args:List X)
 |callv (x:X) (args:List X)
 |calli (f t:Nat) (x:X) (args:List X)
 deriving Repr,Inhabited
structure It where
 d:D
 g:Option (X×Bool)
 a:dU
 deriving Repr,Inhabited
structure AI where
 i:Nat
 it:It
 al:Bool
 cks:List Nat
 deriving Repr,Inhabited
inductive C where
 |skip
 |reg (its:List It)
 |any (k nl:Nat) (its:List AI)
 |seq (a b:C)
 |ite (x:X) (a b:C)
 |block (id:Nat) (c:C)
 |loop (c:C)
 |exit (id:Nat)
 |ret
 |range (f:X) (pars:List Nat) (assign body:C)
 |fail
 deriving Repr,Inhabited
inductive E where
 |norm
 |ret
 |exit (id:Nat)
 deriving Repr,Inhabited,DecidableEq
inductive YZ where
 |ready
 |busy
 |done
 |out
 deriving Repr,Inhabited,DecidableEq
structure dP where
 vars:List V
 pars:List Nat
 assign:C
 body:C
 st:YZ
 pend:Option E
inductive Ob where
 |cells (ro:Bool) (vs:List V)
 |map (es:List (V×V))
 |wmap (sh:vF) (es:List (V×V))
 |loop (r:dP)
structure H where
 tr:Nat->Option Ob
 next:Nat
def H.get (h:H)(i:Nat):Option Ob:=h.tr i
def H.set (h:H)(id:Nat)(o:Option Ob):H:={h with tr:=λk=>if k=id then o else h.tr k}
def H.new (h:H)(o:Ob):H:={tr:=λk=>if k=h.next then some o else h.tr k,next:=h.next+1}
def lf:Nat->Option Ob:=λ_=>none
theorem H.gY (h:H)(id:Nat)(o:Option Ob)(k:Nat):(h.set id o).get k=if k=id then o else h.get k:=rfl
theorem H.jY (h:H)(o:Ob)(k:Nat):(h.new o).get k=if k=h.next then some o else h.get k:=rfl
theorem H.bT (h:H)(id:Nat)(o:Option Ob):(h.set id o).next=h.next:=rfl
theorem H.aM (h:H)(o:Ob):(h.new o).next=h.next+1:=rfl
inductive Rv where
 |v (k:Nat)
 |cell (k:Nat) (agg:Bool) (n:Nat)
 deriving Repr,Inhabited
structure Fn where
 nargs:Nat
 init:List (Option Nat)
 results:List Rv
 body:C
 Pn:Bool:=false
 deriving Repr,Inhabited
def xv (vars loc:List V):X->V
 | .v k=>vars.getD k .undef
 | .l k=>loc.getD k .undef
 | .c x=>x
def tG (vars:List V)(k:Nat)(v:V):List V:=vars.set k v
def arith (op:BinOp)(k:IntKind)(a b:Int):Option V:=
 match op with
 | .add=>some (.int k (k.wrap (a+b)))
 | .sub=>some (.int k (k.wrap (a-b)))
 | .mul=>some (.int k (k.wrap (a*b)))
 | .quo=>if b=0 then none else some (.int k (k.wrap (a.tdiv b)))
 | .rem=>if b=0 then none else some (.int k (a.tmod b))
 | .eql=>some (.bool (a==b))
 | .neq=>some (.bool (a !=b))
 | .lss=>some (.bool (a<b))
 | .leq=>some (.bool (a<=b))
 | .gtr=>some (.bool (a>b))
 | .geq=>some (.bool (a>=b))
 | .and=>some (.int k (k.wrap (BitVec.ofInt k.bits a&&&BitVec.ofInt k.bits b).toNat))
 | .or=>some (.int k (k.wrap (BitVec.ofInt k.bits a|||BitVec.ofInt k.bits b).toNat))
 | .xor=>some (.int k (k.wrap (BitVec.ofInt k.bits a^^^BitVec.ofInt k.bits b).toNat))
 |_=>none
def Vg (op:BinOp)(k:IntKind)(a b:Int):Option V:=
 if b<0 then none else
 match op with
 | .shl=>some (.int k (k.wrap (a*2^(min b.toNat k.bits))))
 | .shr=>some (.int k (a.fdiv (2^(min b.toNat k.bits))))
 |_=>none
def sub (vs:List V)(off n:Nat):Option (List V):=
 if off+n<=vs.length then some ((vs.drop off).take n) else none
def putAt (vs:List V)(off:Nat)(ws:List V):Option (List V):=
 if off+ws.length<=vs.length then some (vs.take off++ws++vs.drop (off+ws.length)) else none
def H.row (h:H)(id off n:Nat):Option (List V):=
 match h.get id with
 |some (.cells _ vs)=>sub vs off n
 |_=>none
def H.put (h:H)(id off:Nat)(ws:List V):Option H:=
 match h.get id with
 |some (.cells false vs)=>(putAt vs off ws).map λvs'=>h.set id (some (.cells false vs'))
 |_=>none
def H.slice (h:H)(sz:Nat):V->Option (List V)
 | .aH=>some []
 | .emp _=>some []
 | .sl id off len _=>h.row id off (len*sz)
 |_=>none
def oU:V->Option Nat
 | .aH=>some 0
 | .emp _=>some 0
 | .sl _ _ len _=>some len
 |_=>none
def ldV (h:H)(agg:Bool)(n:Nat):V->Option V
 | .ptr id off=>
  match h.row id off n with
  |some vs=>if agg then some (.agg vs) else match vs with| [v]=>some v|_=>none
  |none=>none
 |_=>none
def Ci (sz:Nat)(x i:V):Option V:=
 match x,i with
 | .sl id off len _,.int _ n=>if 0<=n/\n<len then some (.ptr id (off+n.toNat*sz)) else none
 |_,_=>none
def mQ (x:Option V)(dflt top:Nat):Option Nat:=
 match x with
 |none=>some dflt
 |some (.int _ n)=>if 0<=n/\n<=top then some n.toNat else none
 |_=>none
def pV (sz:Nat)(x:V)(lo hi mx:Option V):Option V:=
 match x with
 | .aH=>
  match mx,mQ hi 0 0 with
  |none,some h=>match mQ lo 0 h with|some _=>some .aH|none=>none
  |_,_=>none
 | .sl id off len cap=>
  match mx with
  |some _=>none
  |none=>
   match mQ hi len (match cap with| .kn c=>c| .un _=>len) with
   |none=>none
   |some h=>
    match mQ lo 0 h with
    |none=>none
    |some l=>
     match cap with
     | .kn c=>if l<=c then some (.sl id (if c=l then off else off+l*sz) (h-l) (.kn (c-l))) else none
     | .un e=>if e=sz then (if l<len then some (.sl id (off+l*sz) (h-l) (.un e)) else some (.sl id off 0 (.un e))) else none
 |_=>none
def fP (cells:List V):List (Nat×Nat×V)->Option (List V)
 | []=>some cells
 |(off,n,v)::rest=>
  if v.cells.length=n/\v.cells.all V.one then
   match putAt cells off v.cells with
   |some cs=>fP cs rest
   |none=>none
  else none
def cJ (zero:List V)(n:Nat):List V:=(List.range n).map λi=>zero.getD (i%zero.length) .undef
def mB (k:IntKind)(n:Int):List (V×V)->Option V
 | []=>none
 |(.int k' m,v)::es=>if k'=k then if n=m then some v else mB k n es else none
 |_=>none
def jA (k:IntKind):List (V×V)->Bool
 | []=>true
 |(.int k' _,_)::es=>k'==k&&jA k es
 |_=>false
def rG (k:IntKind)(n:Int)(y:V):List (V×V)->List (V×V)
 | []=> [(.int k n,y)]
 |(.int k' m,v)::es=>if n=m then (.int k' m,y)::es else (.int k' m,v)::rG k n y es
 |e::es=>e::rG k n y es
def OZ (max:Bool):V->List V->Option V
 |x, []=>some x
 | .int k x,.int k' y::r=>if k=k' then OZ max (.int k (if max then (if y>x then y else x) else (if y<x then y else x))) r else none
 |_,_=>none
def tV (h:H)(sz bytes:Nat)(x:V)(m:Nat)(ys:List V):Option (V×H):=
 match oU x,h.slice sz x with
 |some n,some xs=>
  if m=0 then some (x,h) else
  if (2*(n+m)+1000)*bytes<=2^48/\n+m<2^62 then
   match x with
   | .sl id off len (.kn c)=>
    if len+m<=c then
     match h.put id (off+len*sz) ys with
     |some h'=>some (.sl id off (len+m) (.kn c),h')
     |none=>none
    else some (.sl h.next 0 (n+m) (.un sz),h.new (.cells false (xs++ys)))
   | .sl id _ _ (.un e)=>
    match h.get id with
    |some (.cells false _)=>if e=sz then some (.sl h.next 0 (n+m) (.un sz),(h.set id none).new (.cells false (xs++ys))) else none
    |_=>none
   | .emp _=>none
   |_=>some (.sl h.next 0 (n+m) (.un sz),h.new (.cells false (xs++ys)))
  else none
 |_,_=>none
def Nh (h:H)(sz:Nat)(x y:V):Option (V×H):=
 match oU x,oU y with
 |some n,some m=>
  let k:=min m n
  match x,y with
  | .sl id off _ _,.sl id' off' _ _=>
   match h.row id' off' (k*sz) with
   |some ys=>match h.put id off ys with
    |some h'=>some (.int .i64 k,h')
    |none=>none
   |none=>none
  |_,_=>if k=0 then some (.int .i64 0,h) else none
 |_,_=>none
def sD (h:H)(sz bytes:Nat)(zero:List V)(l c:V):Option (V×H):=
 match l,c with
 | .int _ l,.int _ c=>
  if 0<=l/\l<=c/\c*bytes<=2^48/\c<2^62 then
   some (.sl h.next 0 l.toNat (.kn c.toNat),h.new (.cells false (cJ zero (c.toNat*sz))))
  else none
 |_,_=>none
mutual
def dS:V->V->Bool
 | .int k a,.int j b=>k==j&&a==b
 | .bool a,.bool b=>a==b
 | .ptr i o,.ptr j p=>i==j&&o==p
 | .nilp,.nilp=>true
 | .sl i o l c,.sl j p n d=>i==j&&o==p&&l==n&&decide (c=d)
 | .aH,.aH=>true
 | .emp a,.emp b=>decide (a=b)
 | .str a,.str b=>a==b
 | .ifc a x,.ifc b y=>a==b&&dS x y
 | .mp i,.mp j=>i==j
 | .nilm,.nilm=>true
 | .fn f a b,.fn g c d=>f==g&&qE a c&&qE b d
 | .yl i,.yl j=>i==j
 | .nilf,.nilf=>true
 | .agg a,.agg b=>qE a b
 | .tup a,.tup b=>qE a b
 |_,_=>false
def qE:List V->List V->Bool
 | [], []=>true
 |a::aQ_,b::bs=>dS a b&&qE aQ_ bs
 |_,_=>false
end
def QU:V->Bool
 | .int .. =>true
 |_=>false
def Lb:Option V->Bool
 |none=>true
 |some v=>QU v
def RE (n sz:Nat)(x i:V):Option V:=
 match x,i with
 | .ptr id off,.int _ z=>if 0<=z/\z<(n:Int) then some (.ptr id (off+z.toNat*sz)) else none
 |_,_=>none
def rF:List V->Option (List Nat)
 | []=>some []
 | .int .u8 n::r=>if 0<=n/\n<256 then (rF r).map (n.toNat:: ·) else none
 |_=>none
def RQ (h:H)(x:V):Option V:=
 match x with
 | .aH=>some (.str [])
 | .sl id off len _=>match h.row id off len with
  |some ys=>(rF ys).map V.str
  |none=>none
 |_=>none
def isKey:vF->V->Bool
 | .str,.str l=>decide (l.length<2^62)&&l.all (λn=>decide (n<256))
 | .arr n k,.agg vs=>decide (vs.length=n)&&vs.all (fun| .int j a=>decide (j=k)&&(decide (k.min<=a)&&decide (a<=k.max))|_=>false)
 |_,_=>false
def fR (k:V):List (V×V)->Option (Nat×V)
 | []=>none
 |e::es=>if dS k e.1 then some (0,e.2) else (fR k es).map λq=>(q.1+1,q.2)
def dI (ρ:X->V)(h:H):I->Option (V×H)
 | .mov x=>some (ρ x,h)
 | .pick c a b=>match ρ c with| .bool t=>some (if t then ρ a else ρ b,h)|_=>none
 | .bin op k x y=>match ρ x,ρ y with
  | .int j a,.int j' b=>if j=k/\j'=k then (arith op k a b).map (·,h) else none
  |_,_=>none
 | .Hx op k x y=>match ρ x,ρ y with
  | .int j a,.int _ b=>if j=k then (Vg op k a b).map (·,h) else none
  |_,_=>none
 | .beq neg x y=>match ρ x,ρ y with
  | .bool a,.bool b=>some (.bool (if neg then !(a==b) else a==b),h)
  |_,_=>none
 | .snil neg x=>match ρ x with
  | .aH=>some (.bool (!neg),h)
  | .sl .. | .emp _=>some (.bool neg,h)
  |_=>none
 | .not x=>match ρ x with| .bool a=>some (.bool (!a),h)|_=>none
 | .conv k x=>match ρ x with| .int _ a=>some (.int k (k.wrap a),h)|_=>none
 | .ext x i=>match ρ x with| .tup vs=>(vs[i]?).map (·,h)|_=>none
 | .lens x=>(oU (ρ x)).map λ(n:Nat)=>(V.int .i64 (n:Int),h)
 | .lenm x=>match ρ x with
  | .nilm=>some (.int .i64 0,h)
  | .mp id=>match h.get id with|some (.map es)=>some (.int .i64 es.length,h)|some (.wmap _ es)=>some (.int .i64 es.length,h)|_=>none
  |_=>none
 | .ld agg n x=>(ldV h agg n (ρ x)).map (·,h)
 | .st n x y=>match ρ x with
  | .ptr id off=>if (ρ y).cells.length=n/\(ρ y).cells.all V.one then (h.put id off (ρ y).cells).map (λh'=>(V.undef,h')) else none
  |_=>none
 | .ixa sz x i=>(Ci sz (ρ x) (ρ i)).map (·,h)
 | .fla off x=>match ρ x with| .ptr id o=>some (.ptr id (o+off),h)|_=>none
 | .slc sz x lo hi mx=>(pV sz (ρ x) (lo.map ρ) (hi.map ρ) (mx.map ρ)).map (·,h)
 | .mks sz bytes zero l c=>sD h sz bytes zero (ρ l) (ρ c)
 | .alc zero=>some (.ptr h.next 0,h.new (.cells false zero))
 | .box x=>if (ρ x).cells.all V.one then some (.ptr h.next 0,h.new (.cells false (ρ x).cells)) else none
 | .bld zero parts=>(fP zero (parts.map λp=>(p.1,p.2.1,ρ p.2.2))).map λcs=>(.agg cs,h)
 | .bls sz zero n parts=>match fP (cJ zero (n*sz)) (parts.map λp=>(p.1,p.2.1,ρ p.2.2)) with
  |some cs=>if cs.all V.one then some (.sl h.next 0 n (.kn n),h.new (.cells false cs)) else none
  |none=>none
 | .app sz bytes x y=>match oU (ρ y),h.slice sz (ρ y) with
  |some m,some ys=>tV h sz bytes (ρ x) m ys
  |_,_=>none
 | .cpy sz x y=>Nh h sz (ρ x) (ρ y)
 | .mkf f fs cs=>some (.fn f (fs.map ρ) (cs.map ρ),h)
 | .nck x=>match ρ x with| .ptr id off=>some (.ptr id off,h)|_=>none
 | .ixd n sz x i=>(RE n sz (ρ x) (ρ i)).map (·,h)
 | .cvs x=>(RQ h (ρ x)).map (·,h)
 | .mif t x=>some (.ifc t (ρ x),h)
 | .mkw sh r=>if Lb (r.map ρ)=true then some (.mp h.next,h.new (.wmap sh [])) else none
 | .lkw s zero ok x k=>match ρ x with
  | .mp id=>match h.get id with
   |some (.wmap sh es)=>if s=sh/\isKey s (ρ k)=true then
     match fR (ρ k) es with
     |some e=>some (if ok then .tup [e.2,.bool true] else e.2,h)
     |none=>some (if ok then .tup [zero,.bool false] else zero,h)
    else none
   |_=>none
  |_=>none
 | .msw s x k y=>match ρ x with
  | .mp id=>match h.get id with
   |some (.wmap sh es)=>if s=sh/\isKey s (ρ k)=true then
     some (V.undef,h.set id (some (.wmap sh (match fR (ρ k) es with
      |some e=>es.set e.1 (ρ k,ρ y)
      |none=>es++ [(ρ k,ρ y)]))))
    else none
   |_=>none
  |_=>none
 | .six x i=>match ρ x,ρ i with
  | .str l,.int _ z=>if 0<=z then (l[z.toNat]?).map (λ(c:Nat)=>(V.int .u8 ((c%256:Nat):Int),h)) else none
  |_,_=>none
 | .seq neg x y=>match ρ x,ρ y with
  | .str a,.str b=>some (.bool (if neg then !(a.map (· %256)==b.map (· %256)) else a.map (· %256)==b.map (· %256)),h)
  |_,_=>none
 | .sad x y=>match ρ x,ρ y with
  | .str a,.str b=>if a.length+b.length<2^62 then some (.str (a++b),h) else none
  |_,_=>none
 | .cir x=>match ρ x with
  | .int _ n=>if 0<=n/\n<128 then some (.str [n.toNat],h) else none
  |_=>none
 | .clr sz zero x=>match ρ x with
  | .aH=>some (V.undef,h)
  | .emp _=>some (V.undef,h)
  | .sl id off len _=>if len=0 then some (V.undef,h) else
   if zero.length=sz/\zero.all V.one=true then (h.put id off (cJ zero (len*sz))).map (λh'=>(V.undef,h')) else none
  |_=>none
 | .neg k x=>match ρ x with| .int j a=>if j=k then some (.int k (k.wrap (0-a)),h) else none|_=>none
 | .part agg off n x=>match ρ x with
  | .agg vs=>if agg then (sub vs off n).map (λws=>(.agg ws,h)) else (vs[off]?).map (·,h)
  |_=>none
 | .mm max xs=>match xs.map ρ with| []=>none|x::r=>(OZ max x r).map (·,h)
 | .apz sz bytes zero x n=>match ρ n with
  | .int .i64 n=>if 0<=n/\n*bytes<=2^48/\n<2^62/\zero.length=sz then tV h sz bytes (ρ x) n.toNat (cJ zero (n.toNat*sz)) else none
  |_=>none
 | .mkm=>some (.mp h.next,h.new (.map []))
 | .lkp zero ok x k=>match ρ x,ρ k with
  | .mp id,.int kk n=>match h.get id with
   |some (.map es)=>if jA kk es then
     match mB kk n es with
     |some v=>some (if ok then .tup [v,.bool true] else v,h)
     |none=>some (if ok then .tup [zero,.bool false] else zero,h)
    else none
   |_=>none
  |_,_=>none
 | .mset x k y=>match ρ x,ρ k with
  | .mp id,.int kk n=>match h.get id with
   |some (.map es)=>if jA kk es then some (V.undef,h.set id (some (.map (rG kk n (ρ y) es)))) else none
   |_=>none
  |_,_=>none
 | .caps x=>match ρ x with
  | .aH=>some (.int .i64 0,h)
  | .sl _ _ _ (.kn c)=>if c<2^62 then some (.int .i64 c,h) else none
  |_=>none
 | .kH s zero x k=>match ρ x with
  | .mp id=>match h.get id with
   |some (.wmap sh es)=>if s=sh/\isKey s (ρ k)=true then
     match fR (ρ k) es with
     |some e=>some (.tup [e.2,.int .i64 (e.1:Nat)],h)
     |none=>some (.tup [zero,.int .i64 es.length],h.set id (some (.wmap sh (es++ [(ρ k,zero)]))))
    else none
   |_=>none
  |_=>none
 | .ens x s y=>match ρ x,ρ s with
  | .mp id,.int .i64 n=>match h.get id with
   |some (.wmap sh es)=>if 0<=n then
     match es[n.toNat]? with
     |some e=>some (V.undef,h.set id (some (.wmap sh (es.set n.toNat (e.1,ρ y)))))
     |none=>none
    else none
   |_=>none
  |_,_=>none
 | .fail=>none
def jC (d:D)(vars loc:List V)(v:V):List V×List V:=
 match d with
 | .v k=>(vars.set k v,loc)
 | .l=>(vars,v::loc)
 | .n=>(vars,loc)
def Fv (vars:List V)(h:H):Rv->Option V
 | .v k=>some (vars.getD k .undef)
 | .cell k agg n=>ldV h agg n (vars.getD k .undef)
def Wz:List V->V
 | [v]=>v
 |vs=> .tup vs
def dB {α:Type}:List (Option α)->Option (List α)
 | []=>some []
 |none::_=>none
 |some a::r=>(dB r).map (a:: ·)
def iT (vars loc:List V):Option (X×Bool)->Option Bool
 |none=>some true
 |some (x,b)=>match xv vars loc x with| .bool a=>some (a==b)| .tup []=>some false|_=>none
def I.qG:I->Bool
 | .ld .. | .lenm _| .lkp .. | .cvs _| .lkw .. =>true
 |_=>false
def I.lV:I->Bool
 | .mks .. | .alc _| .box _| .bls .. | .mkm| .mkw .. =>true
 |_=>false
def I.qU:I->Bool
 | .st .. | .app .. | .apz .. | .cpy .. | .mset .. | .msw .. | .kH .. | .ens .. | .clr .. =>true
 |_=>false
def dU.qG:dU->Bool
 | .op i=>i.qG
 |_=>false
def dU.lV:dU->Bool
 | .op i=>i.lV
 |_=>false
def dU.qU:dU->Bool
 | .op i=>i.qU
 |_=>true
def I.close (ρ:X->V):I->I
 | .ld a n x=> .ld a n (.c (ρ x))
 | .lenm x=> .lenm (.c (ρ x))
 | .lkp z ok x k=> .lkp z ok (.c (ρ x)) (.c (ρ k))
 | .cvs x=> .cvs (.c (ρ x))
 | .lkw s z ok x k=> .lkw s z ok (.c (ρ x)) (.c (ρ k))
 |i=>i
abbrev Log:=List (Nat×I×V)
def oI (cks:List Nat)(log:Log)(h:H):Bool:=
 log.all λe=>!cks.contains e.1||(match dI (xv [] []) h e.2.1 with|some (v,_)=>dS v e.2.2|none=>false)
def Dp (x:AI)(vars:List V)(v:V)(log:Log):Log:=
 match x.it.a with
 | .op i=>if i.qG then (x.i,i.close (xv vars []),v)::log else log
 |_=>log
def Ng (vars:List V)(h:H)(n:Nat):dU->Option (V×H)
 | .op i=>match dI (xv vars []) {h with next:=n} i with
  |some (v,h')=>some (v,{h' with next:=h.next})
  |none=>none
 |_=>none
def qC (fn:Fn)(args:List V):List V:=fn.init.map λo=>match o with|some j=>args.getD j .undef|none=> .undef
def MT (rd:Option Nat)(h:H):Bool:=
 match rd with
 |none=>true
 |some id=>match h.get id with
  |some (.loop _)=>true
  |_=>false
end
end Go.Ay
namespace Go.Ay
abbrev kO:=Nat->List V->H->Option (V×H)
def oF (cl yl:kO)(vars loc:List V)(h:H):dU->Option (V×H)
 | .op i=>dI (xv vars loc) h i
 | .call g args=>cl g (args.map (xv vars loc)) h
 | .callv x args=>match xv vars loc x with
  | .fn g fs cs=>cl g (fs++args.map (xv vars loc)++cs) h
  | .yl id=>yl id (args.map (xv vars loc)) h
  |_=>none
 | .calli g t x args=>match xv vars loc x with
  | .ifc u v=>if u=t then cl g (v::args.map (xv vars loc)) h else none
  |_=>none
def wU (cl yl:kO):List It->List V->List V->H->Option (List V×H)
 | [],vars,_,h=>some (vars,h)
 |it::its,vars,loc,h=>match iT vars loc it.g with
  |some true=>match oF cl yl vars loc h it.a with
   |some (v,h)=>wU cl yl its (jC it.d vars loc v).1 (jC it.d vars loc v).2 h
   |none=>none
  |some false=>wU cl yl its (jC it.d vars loc .undef).1 (jC it.d vars loc .undef).2 h
  |none=>none
def uH (cl yl:kO)(base:Nat):List AI->List V->Log->H->Option (List V×H)
 | [],vars,_,h=>some (vars,h)
 |x::xs,vars,log,h=>match iT vars [] x.it.g with
  |some true=>
   match (if x.al then Ng vars h (base+x.i) x.it.a else oF cl yl vars [] h x.it.a) with
   |some (v,h)=>if oI x.cks log h then uH cl yl base xs (jC x.it.d vars [] v).1 (Dp x vars v log) h else none
   |none=>none
  |some false=>if oI x.cks log h then uH cl yl base xs (jC x.it.d vars [] .undef).1 log h else none
  |none=>none
abbrev Res:=Option (E×List V×H)
def Lh (step:List V->H->Res):Nat->List V->H->Res
 |0,_,_=>none
 |n+1,vars,h=>match step vars h with
  |some (.norm,vars,h)=>Lh step n vars h
  |r=>r
def run (cl yl:kO)(N:Nat)(rd:Option Nat):C->List V->H->Res
 | .skip,vars,h=>some (.norm,vars,h)
 | .reg its,vars,h=>match wU cl yl its vars [] h with
  |some (vars,h)=>some (.norm,vars,h)
  |none=>none
 | .any k nl its,vars,h=>match uH cl yl h.next its (vars++List.replicate nl .unk) [] {h with next:=h.next+k} with
  |some (vs,h)=>some (.norm,vs.take vars.length,h)
  |none=>none
 | .seq a b,vars,h=>match run cl yl N rd a vars h with
  |some (.norm,vars,h)=>run cl yl N rd b vars h
  |r=>r
 | .ite x a b,vars,h=>match xv vars [] x with
  | .bool true=>run cl yl N rd a vars h
  | .bool false=>run cl yl N rd b vars h
  |_=>none
 | .block id a,vars,h=>match run cl yl N rd a vars h with
  |some (.exit n,vars,h)=>if n=id then some (.norm,vars,h) else some (.exit n,vars,h)
  |r=>r
 | .loop a,vars,h=>Lh (run cl yl N rd a) N vars h
 | .exit n,vars,h=>some (.exit n,vars,h)
 | .ret,vars,h=>some (.ret,vars,h)
 | .range x pars assign body,vars,h=>match xv vars [] x with
  | .fn g fs cs=>
   if MT rd h then
   match cl g (fs++ .yl h.next::cs) (h.new (.loop {vars,pars,assign,body,st:= .ready,pend:=none})) with
   |some (_,h')=>
    match h'.get h.next with
    |some (.loop r)=>
     if r.st= .busy then none else
     some (r.pend.getD .norm,vars,h'.set h.next (some (.loop {r with st:= .out})))
    |_=>none
   |none=>none
   else none
  |_=>none
 | .fail,_,_=>none
def isI:V->Bool
 | .int .i64 _=>true
 |_=>false
def unI:V->Int
 | .int _ n=>n
 |_=>0
def Pu:List V->H->Option (V×H)
 | [.sl id 0 len _],h=>if len=0 then some (.tup [],h) else match h.get id with
  |some (.cells false vs)=>if vs.length=len/\vs.all isI=true/\len<4611686018427387904 then some (.tup [],h.set id (some (.cells false (((vs.map unI).mergeSort λx y=>decide (x<=y)).map (.int .i64))))) else none
  |_=>none
 |_,_=>none
def Pc (p:Nat->Option Fn)(cl yl:kO)(N:Nat):kO:=λg args h=>
 match p g with
 |none=>none
 |some fn=>if fn.Pn then Pu args h else
  if args.length=fn.nargs then
   match run cl yl N none fn.body (qC fn args) h with
   |some (.norm,vars,h)|some (.ret,vars,h)=>(dB (fn.results.map (Fv vars h))).map λvs=>(Wz vs,h)
   |_=>none
  else none
def La (cl yl:kO)(N:Nat):kO:=λid args h=>
 match h.get id with
 |some (.loop r)=>
  if args.length=r.pars.length then
   match run cl yl N (some id) r.assign ((r.pars.zip args).foldl (λvs q=>vs.set q.1 q.2) r.vars) h with
   |some (.norm,vars,h)=>
    match h.get id with
    |some (.loop r2)=>
     if r2.st= .ready then
      match run cl yl N (some id) r.body vars (h.set id (some (.loop {r2 with st:= .busy}))) with
      |some (e,_,h)=>
       match h.get id with
       |some (.loop r3)=>
        (match e with
        | .norm=>some (.bool true,h.set id (some (.loop {r3 with st:= .ready,pend:=none})))
        |e=>some (.bool false,h.set id (some (.loop {r3 with st:= .done,pend:=some e}))))
       |_=>none
      |none=>none
     else none
    |_=>none
   |_=>none
  else none
 |_=>none
def nY (p:Nat->Option Fn):Nat->kO×kO
 |0=>(λ_ _ _=>none,λ_ _ _=>none)
 |f+1=>(Pc p (nY p f).1 (nY p f).2 f,La (nY p f).1 (nY p f).2 f)
end Go.Ay
namespace Go.Ay
section
variable {g:Nat} {args a' v v':List V} {R:V->H->Prop} {c:C} {h':H} {x':V}
def iC {α:Type}(o:Option α)(K:α->Prop):Prop:= ∃a,o=some a/\K a
theorem Vs {α:Type}(a:α)(K:α->Prop):iC (some a) K=K a:=propext ⟨λ⟨_,h,k⟩=>by cases h;exact k,λk=>⟨a,rfl,k⟩⟩
theorem Se {α:Type}{o o':Option α}{K:α->Prop}(h:o=o'):iC o K=iC o' K:=by rw[h]
section
variable (p:Nat->Option Fn)
def Ev (g:Nat)(args:List V)(h:H)(Q:V->H->Prop):Prop:= ∃n v h',(∀m,n<=m->(nY p m).1 g args h=some (v,h'))/\Q v h'
def Ey (id:Nat)(args:List V)(h:H)(Q:V->H->Prop):Prop:= ∃n v h',(∀m,n<=m->(nY p m).2 id args h=some (v,h'))/\Q v h'
def mD (x:V)(args:List V)(h:H)(Q:V->H->Prop):Prop:=match x with
 | .fn g fs cs=>Ev p g (fs++args++cs) h Q
 | .yl id=>Ey p id args h Q
 |_=>False
def xZ (g t:Nat)(x:V)(args:List V)(h:H)(Q:V->H->Prop):Prop:=match x with
 | .ifc u v=>u=t/\Ev p g (v::args) h Q
 |_=>False
def unc (K:V->H->Prop):V×H->Prop:=λr=>K r.1 r.2
def Ab (vars loc:List V)(h:H):dU->(V->H->Prop)->Prop
 | .op i,Q=>iC (dI (xv vars loc) h i) (unc Q)
 | .call g args,Q=>Ev p g (args.map (xv vars loc)) h Q
 | .callv x args,Q=>mD p (xv vars loc x) (args.map (xv vars loc)) h Q
 | .calli g t x args,Q=>xZ p g t (xv vars loc x) (args.map (xv vars loc)) h Q
def Gw:List It->List V->List V->H->(List V->H->Prop)->Prop
 | [],vars,_,h,Q=>Q vars h
 |⟨d,none,a⟩::its,vars,loc,h,Q=>Ab p vars loc h a λv h'=>Gw its (jC d vars loc v).1 (jC d vars loc v).2 h' Q
 |⟨d,some g,a⟩::its,vars,loc,h,Q=>iC (iT vars loc (some g)) λw=>match w with
  |true=>Ab p vars loc h a λv h'=>Gw its (jC d vars loc v).1 (jC d vars loc v).2 h' Q
  |false=>Gw its (jC d vars loc .undef).1 (jC d vars loc .undef).2 h Q
def yV (base:Nat):List AI->List V->Log->H->(List V->H->Prop)->Prop
 | [],vars,_,h,Q=>Q vars h
 |⟨i,⟨d,none,a⟩,false,cks⟩::xs,vars,log,h,Q=>Ab p vars [] h a λv h'=>oI cks log h'=true/\yV base xs (jC d vars [] v).1 (Dp ⟨i,⟨d,none,a⟩,false,cks⟩ vars v log) h' Q
 |⟨i,⟨d,none,a⟩,true,cks⟩::xs,vars,log,h,Q=>iC (Ng vars h (base+i) a) (unc λv h'=>oI cks log h'=true/\yV base xs (jC d vars [] v).1 (Dp ⟨i,⟨d,none,a⟩,true,cks⟩ vars v log) h' Q)
 |⟨i,⟨d,some (x,b),a⟩,al,cks⟩::xs,vars,log,h,Q=>iC (iT vars [] (some (x,b))) λw=>match w,al with
  |true,true=>iC (Ng vars h (base+i) a) (unc λv h'=>oI cks log h'=true/\yV base xs (jC d vars [] v).1 (Dp ⟨i,⟨d,some (x,b),a⟩,true,cks⟩ vars v log) h' Q)
  |true,false=>Ab p vars [] h a λv h'=>oI cks log h'=true/\yV base xs (jC d vars [] v).1 (Dp ⟨i,⟨d,some (x,b),a⟩,false,cks⟩ vars v log) h' Q
  |false,_=>oI cks log h=true/\yV base xs (jC d vars [] .undef).1 log h Q
def ajN (n:Nat)(Q:E->List V->H->Prop):List V->H->Prop:=λvs h'=>Q .norm (vs.take n) h'
def tP (id:Nat)(Q:E->List V->H->Prop):E->List V->H->Prop:=λe vars h=>match e with| .exit n=>if n=id then Q .norm vars h else Q (.exit n) vars h|e=>Q e vars h
def An (J:List V->H->Prop)(Q:E->List V->H->Prop):E->List V->H->Prop:=λe vars h=>match e with| .norm=>J vars h|e=>Q e vars h
def TD (id:Nat)(vars:List V)(Q:E->List V->H->Prop):V->H->Prop:=λ_ h'=> ∃r,h'.get id=some (.loop r)/\r.st≠ .busy/\Q (r.pend.getD .norm) vars (h'.set id (some (.loop {r with st:= .out})))
def Ae (rd:Option Nat)(x:V)(pars:List Nat)(assign body:C)(vars:List V)(h:H)(Q:E->List V->H->Prop):Prop:=
 match x with
 | .fn g fs cs=>MT rd h=true/\Ev p g (fs++ .yl h.next::cs) (h.new (.loop {vars,pars,assign,body,st:= .ready,pend:=none})) (TD h.next vars Q)
 |_=>False
def Wp (rd:Option Nat):C->List V->H->(E->List V->H->Prop)->Prop
 | .skip,vars,h,Q=>Q .norm vars h
 | .reg its,vars,h,Q=>Gw p its vars [] h (Q .norm)
 | .any k nl its,vars,h,Q=>yV p h.next its (vars++List.replicate nl .unk) [] {h with next:=h.next+k} (ajN vars.length Q)
 | .seq a b,vars,h,Q=>Wp rd a vars h (An (λvars h=>Wp rd b vars h Q) Q)
 | .ite x a b,vars,h,Q=>match xv vars [] x with| .bool true=>Wp rd a vars h Q| .bool false=>Wp rd b vars h Q|_=>False
 | .block id a,vars,h,Q=>Wp rd a vars h (tP id Q)
 | .loop a,vars,h,Q=> ∀I:List V->H->Prop,(∀vars h,Wp rd a vars h (An I Q)->I vars h)->I vars h
 | .exit n,vars,h,Q=>Q (.exit n) vars h
 | .ret,vars,h,Q=>Q .ret vars h
 | .range x pars a b,vars,h,Q=>Ae p rd (xv vars [] x) pars a b vars h Q
 | .fail,_,_,_=>False
variable {p}
theorem Ev.mono {h:H}{Q:V->H->Prop}(e:Ev p g args h Q)(k: ∀v h',Q v h'->R v h'):Ev p g args h R:=
 let ⟨n,v,h',e,q⟩:=e;⟨n,v,h',e,k _ _ q⟩
theorem Ey.mono {h:H}{Q:V->H->Prop}(e:Ey p g args h Q)(k: ∀v h',Q v h'->R v h'):Ey p g args h R:=
 let ⟨n,v,h',e,q⟩:=e;⟨n,v,h',e,k _ _ q⟩
theorem iC.mono {α:Type}{o:Option α}{K L:α->Prop}(e:iC o K)(k: ∀a,K a->L a):iC o L:=let ⟨a,e,q⟩:=e;⟨a,e,k a q⟩
theorem mD.mono {x:V}{h:H}{Q:V->H->Prop}(e:mD p x args h Q)(k: ∀v h',Q v h'->R v h'):mD p x args h R:=by
 unfold mD at*;split at e
 .exact e.mono k
 .exact e.mono k
 .exact e
theorem Ab.mono {b d:List V}{h:H}{a:dU}{Q:V->H->Prop}(e:Ab p b d h a Q)(k: ∀v h',Q v h'->R v h'):Ab p b d h a R:=by
 cases a with
 |op i=>exact iC.mono e λ_=>k _ _
 |call g args=>exact Ev.mono e k
 |callv x args=>exact mD.mono e k
 |calli g t x args=>
  simp only[Ab,xZ] at*;split at e
  .exact⟨e.1,e.2.mono k⟩
  .exact e
theorem Gw.mono {Q R:List V->H->Prop}(k: ∀v h',Q v h'->R v h'):{its:List It}->{vars loc:List V}->{h:H}->Gw p its vars loc h Q->Gw p its vars loc h R
 | [],_,_,_,e=>k _ _ e
 |⟨_,none,_⟩::_,_,_,_,e=>Ab.mono e λ_ _=>Gw.mono k
 |⟨_,some _,_⟩::_,_,_,_,e=>iC.mono e λw q=>by
  cases w
  .exact Gw.mono k q
  .exact Ab.mono q λ_ _=>Gw.mono k
theorem yV.mono {base:Nat}{Q R:List V->H->Prop}(k: ∀v h',Q v h'->R v h'):{xs:List AI}->{vars:List V}->{log:Log}->{h:H}->yV p base xs vars log h Q->yV p base xs vars log h R
 | [],_,_,_,e=>k _ _ e
 |⟨_,⟨_,none,_⟩,false,_⟩::_,_,_,_,e=>Ab.mono e λ_ _ q=>⟨q.1,yV.mono k q.2⟩
 |⟨_,⟨_,none,_⟩,true,_⟩::_,_,_,_,e=>iC.mono e λ_ q=>⟨q.1,yV.mono k q.2⟩
 |⟨_,⟨_,some _,_⟩,al,_⟩::_,_,_,_,e=>iC.mono e λw q=>by
  cases w
  .exact⟨q.1,yV.mono k q.2⟩
  .cases al
   .exact Ab.mono q λ_ _ q=>⟨q.1,yV.mono k q.2⟩
   .exact iC.mono q λ_ q=>⟨q.1,yV.mono k q.2⟩
theorem Wp.mono {rd:Option Nat}{d:List V}{h:H}{Q R:E->List V->H->Prop}(e:Wp p rd c d h Q)(k: ∀e v h',Q e v h'->R e v h'):Wp p rd c d h R:=by
 induction c generalizing d h Q R with
 |skip|exit _|ret=>exact k _ _ _ e
 |reg _=>exact Gw.mono (k _) e
 |any _ _ _=>exact yV.mono (λ_ _=>k _ _ _) e
 |seq a b iha ihb=>
  refine iha e λe v h q=>?_
  cases e
  .exact ihb q k
  .exact k _ _ _ q
  .exact k _ _ _ q
 |ite x a b iha ihb=>
  simp only[Wp] at*;split at e
  .exact iha e k
  .exact ihb e k
  .exact e
 |block id a iha=>
  refine iha e λe v h q=>?_
  cases e with
  |exit n=>
   simp only[tP] at*;split at q
   .rename_i f;rw[aS f];exact k _ _ _ q
   .rename_i f;rw[aQ f];exact k _ _ _ q
  |_=>exact k _ _ _ q
 |loop a iha=>
  refine λI i=>e I λv h q=>i v h (iha q λe v h q=>?_)
  cases e
  .exact q
  .exact k _ _ _ q
  .exact k _ _ _ q
 |range x ps a b _ _=>
  simp only[Wp,Ae] at*;split at e
  .exact⟨e.1,e.2.mono λ_ _ ⟨r,a,b,q⟩=>⟨r,a,b,k _ _ _ q⟩⟩
  .exact e
 |fail=>exact e
theorem TL {a:List V}{h:H}{Q:V->H->Prop}(e1:a=a')(e2:h=h'):Ev p g a h Q=Ev p g a' h' Q:=by rw[e1,e2]
theorem QB {a:List V}{h:H}{Q:V->H->Prop}(e1:a=a')(e2:h=h'):Ey p g a h Q=Ey p g a' h' Q:=by rw[e1,e2]
theorem MU {a:dU}{l b:List V}{h:H}{Q:V->H->Prop}(e1:v=v')(d:l=b)(e2:h=h'):Ab p v l h a Q=Ab p v' b h' a Q:=by rw[e1,e2,d]
theorem NP {a:List It}{l b:List V}{h:H}{Q:List V->H->Prop}(e1:v=v')(d:l=b)(e2:h=h'):Gw p a v l h Q=Gw p a v' b h' Q:=by rw[e1,e2,d]
theorem KP {base a:Nat}{xs:List AI}{l:Log}{h:H}{Q:List V->H->Prop}(e0:base=a)(e1:v=v')(e2:h=h'):yV p base xs v l h Q=yV p a xs v' l h' Q:=by rw[e0,e1,e2]
theorem QF {rd:Option Nat}{h:H}{Q:E->List V->H->Prop}(e1:v=v')(e2:h=h'):Wp p rd c v h Q=Wp p rd c v' h' Q:=by rw[e1,e2]
def Hw (p:Nat->Option Fn)(rd:Option Nat)(a b:C)(vars:List V)(h:H)(Q:E->List V->H->Prop)(v:V):Prop:=match v with| .bool true=>Wp p rd a vars h Q| .bool false=>Wp p rd b vars h Q|_=>False
section
variable {rd:Option Nat} {a b:C} {vars:List V} {h:H} {Q:E->List V->H->Prop}
theorem CK {v v':V}(e:v=v'):Hw p rd a b vars h Q v=Hw p rd a b vars h Q v':=by rw[e]
theorem MJ:Hw p rd a b vars h Q (.bool true)=Wp p rd a vars h Q:=(rfl)
theorem AO:Hw p rd a b vars h Q (.bool false)=Wp p rd b vars h Q:=(rfl)
theorem bV {P:Prop}[Decidable P](x:P->Wp p rd a vars h Q)(y: ¬P->Wp p rd b vars h Q):Hw p rd a b vars h Q (.bool (decide P)):=by
 by_cases h:P
 .rw[decide_eq_true h];exact x h
 .rw[decide_eq_false h];exact y h
theorem TG {t:Bool}:Hw p rd a b vars h Q (.bool (!t))=Hw p rd b a vars h Q (.bool t):=by cases t<;>rfl
end
theorem ahS (K:V->H->Prop)(v:V)(h:H):unc K (v,h)=K v h:=(rfl)
def aeO (p:Nat->Option Fn)(d:D)(its:List It)(vars loc:List V)(Q:List V->H->Prop):V->H->Prop:=λv h'=>Gw p its (jC d vars loc v).1 (jC d vars loc v).2 h' Q
theorem ZM (d:D)(i:List It)(vars f:List V)(Q:List V->H->Prop)(v:V)(h':H):aeO p d i vars f Q v h'=Gw p i (jC d vars f v).1 (jC d vars f v).2 h' Q:=(rfl)
def Yj (p:Nat->Option Fn)(d:D)(a:dU)(its:List It)(vars loc:List V)(h:H)(Q:List V->H->Prop)(w:Bool):Prop:=match w with
 |true=>Ab p vars loc h a (aeO p d its vars loc Q)
 |false=>Gw p its (jC d vars loc .undef).1 (jC d vars loc .undef).2 h Q
section
variable {d:D} {a:dU} {its:List It} {vars loc:List V} {h:H} {Q:List V->H->Prop}
theorem Zk {v v':Bool}(e:v=v'):Yj p d a its vars loc h Q v=Yj p d a its vars loc h Q v':=by rw[e]
theorem CV:Yj p d a its vars loc h Q true=Ab p vars loc h a (aeO p d its vars loc Q):=(rfl)
theorem Xj:Yj p d a its vars loc h Q false=Gw p its (jC d vars loc .undef).1 (jC d vars loc .undef).2 h Q:=(rfl)
end
def CA (p:Nat->Option Fn)(base:Nat)(x:AI)(xs:List AI)(vars:List V)(log:Log)(Q:List V->H->Prop):V->H->Prop:=λv h'=>oI x.cks log h'=true/\yV p base xs (jC x.it.d vars [] v).1 (Dp x vars v log) h' Q
theorem adE (base i:Nat)(d:D)(g:Option (X×Bool))(a:dU)(al:Bool)(cks:List Nat)(xs:List AI)(vars:List V)(f:Log)(Q:List V->H->Prop)(v:V)(h':H):CA p base ⟨i,⟨d,g,a⟩,al,cks⟩ xs vars f Q v h'=(oI cks f h'=true/\yV p base xs (jC d vars [] v).1 (Dp ⟨i,⟨d,g,a⟩,al,cks⟩ vars v f) h' Q):=(rfl)
def Qi (p:Nat->Option Fn)(base i:Nat)(d:D)(x:X)(b:Bool)(a:dU)(al:Bool)(cks:List Nat)(xs:List AI)(vars:List V)(log:Log)(h:H)(Q:List V->H->Prop)(w:Bool):Prop:=match w,al with
 |true,true=>iC (Ng vars h (base+i) a) (unc (CA p base ⟨i,⟨d,some (x,b),a⟩,true,cks⟩ xs vars log Q))
 |true,false=>Ab p vars [] h a (CA p base ⟨i,⟨d,some (x,b),a⟩,false,cks⟩ xs vars log Q)
 |false,_=>oI cks log h=true/\yV p base xs (jC d vars [] .undef).1 log h Q
section
variable {base i:Nat} {d:D} {x:X} {b al:Bool} {a:dU} {cks:List Nat} {xs:List AI} {vars:List V} {log:Log} {h:H} {Q:List V->H->Prop}
theorem Yu {v v':Bool}(e:v=v'):Qi p base i d x b a al cks xs vars log h Q v=Qi p base i d x b a al cks xs vars log h Q v':=by rw[e]
theorem RH:Qi p base i d x b a true cks xs vars log h Q true=iC (Ng vars h (base+i) a) (unc (CA p base ⟨i,⟨d,some (x,b),a⟩,true,cks⟩ xs vars log Q)):=(rfl)
theorem QK:Qi p base i d x b a false cks xs vars log h Q true=Ab p vars [] h a (CA p base ⟨i,⟨d,some (x,b),a⟩,false,cks⟩ xs vars log Q):=(rfl)
theorem afO:Qi p base i d x b a al cks xs vars log h Q false=(oI cks log h=true/\yV p base xs (jC d vars [] .undef).1 log h Q):=(rfl)
end
theorem ahN (vars loc:List V)(h:H)(i:I)(Q:V->H->Prop):Ab p vars loc h (.op i) Q=iC (dI (xv vars loc) h i) (unc Q):=(rfl)
theorem PM (vars loc:List V)(h:H)(g:Nat)(args:List X)(Q:V->H->Prop):Ab p vars loc h (.call g args) Q=Ev p g (args.map (xv vars loc)) h Q:=(rfl)
theorem Zf {x:V}{a:List V}{h:H}{Q:V->H->Prop}(e0:x=x')(e1:a=a')(e2:h=h'):mD p x a h Q=mD p x' a' h' Q:=by rw[e0,e1,e2]
theorem QJ (g:Nat)(f j args:List V)(h:H)(Q:V->H->Prop):mD p (.fn g f j) args h Q=Ev p g (f++args++j) h Q:=rfl
theorem XI (id:Nat)(args:List V)(h:H)(Q:V->H->Prop):mD p (.yl id) args h Q=Ey p id args h Q:=rfl
theorem LV (vars loc:List V)(h:H)(x:X)(args:List X)(Q:V->H->Prop):Ab p vars loc h (.callv x args) Q=mD p (xv vars loc x) (args.map (xv vars loc)) h Q:=(rfl)
theorem CD (g t:Nat)(v:V)(args:List V)(h:H)(Q:V->H->Prop):xZ p g t (.ifc t v) args h Q=Ev p g (v::args) h Q:=by simp only[xZ,true_and]
theorem Uy {t:Nat}{x:V}{a:List V}{h:H}{Q:V->H->Prop}(e0:x=x')(e1:a=a')(e2:h=h'):xZ p g t x a h Q=xZ p g t x' a' h' Q:=by rw[e0,e1,e2]
theorem ME (vars loc:List V)(h:H)(g t:Nat)(x:X)(args:List X)(Q:V->H->Prop):Ab p vars loc h (.calli g t x args) Q=xZ p g t (xv vars loc x) (args.map (xv vars loc)) h Q:=(rfl)
theorem aaU (vars loc:List V)(h:H)(Q:List V->H->Prop):Gw p [] vars loc h Q=Q vars h:=(rfl)
theorem PF (d:D)(a:dU)(its:List It)(vars loc:List V)(h:H)(Q:List V->H->Prop):
  Gw p (⟨d,none,a⟩::its) vars loc h Q=Ab p vars loc h a (aeO p d its vars loc Q):=(rfl)
theorem IZ (d:D)(x:X)(b:Bool)(a:dU)(its:List It)(vars loc:List V)(h:H)(Q:List V->H->Prop):
  Gw p (⟨d,some (x,b),a⟩::its) vars loc h Q=iC (iT vars loc (some (x,b))) (Yj p d a its vars loc h Q):=(rfl)
theorem aeV (base:Nat)(vars:List V)(log:Log)(h:H)(Q:List V->H->Prop):yV p base [] vars log h Q=Q vars h:=(rfl)
theorem PG (base i:Nat)(d:D)(a:dU)(cks:List Nat)(xs:List AI)(vars:List V)(log:Log)(h:H)(Q:List V->H->Prop):
  yV p base (⟨i,⟨d,none,a⟩,false,cks⟩::xs) vars log h Q=Ab p vars [] h a (CA p base ⟨i,⟨d,none,a⟩,false,cks⟩ xs vars log Q):=(rfl)
theorem ND (base i:Nat)(d:D)(a:dU)(cks:List Nat)(xs:List AI)(vars:List V)(log:Log)(h:H)(Q:List V->H->Prop):
  yV p base (⟨i,⟨d,none,a⟩,true,cks⟩::xs) vars log h Q=iC (Ng vars h (base+i) a) (unc (CA p base ⟨i,⟨d,none,a⟩,true,cks⟩ xs vars log Q)):=(rfl)
theorem LR (base i:Nat)(d:D)(x:X)(b:Bool)(a:dU)(al:Bool)(cks:List Nat)(xs:List AI)(vars:List V)(log:Log)(h:H)(Q:List V->H->Prop):
  yV p base (⟨i,⟨d,some (x,b),a⟩,al,cks⟩::xs) vars log h Q=iC (iT vars [] (some (x,b))) (Qi p base i d x b a al cks xs vars log h Q):=(rfl)
variable {rd:Option Nat} {vars:List V} {h:H} {Q:E->List V->H->Prop}
theorem aeZ:Wp p rd .skip vars h Q=Q .norm vars h:=(rfl)
theorem ajP:Wp p rd .ret vars h Q=Q .ret vars h:=(rfl)
theorem aaR (n:Nat):Wp p rd (.exit n) vars h Q=Q (.exit n) vars h:=(rfl)
theorem agQ (its:List It):Wp p rd (.reg its) vars h Q=Gw p its vars [] h (Q .norm):=(rfl)
theorem aaC (n:Nat)(vs:List V)(h':H):ajN n Q vs h'=Q .norm (vs.take n) h':=rfl
theorem ahD (k f:Nat)(its:List AI):Wp p rd (.any k f its) vars h Q=yV p h.next its (vars++List.replicate f .unk) [] {h with next:=h.next+k} (ajN vars.length Q):=(rfl)
def Dm (p:Nat->Option Fn)(rd:Option Nat)(b:C)(Q:E->List V->H->Prop):E->List V->H->Prop:=λe vars h=>match e with| .norm=>Wp p rd b vars h Q|e=>Q e vars h
theorem Lg (b:C)(vars:List V)(h:H):Dm p rd b Q .norm vars h=Wp p rd b vars h Q:=(rfl)
theorem JA (b:C)(vars:List V)(h:H):Dm p rd b Q .ret vars h=Q .ret vars h:=rfl
theorem DN (b:C)(n:Nat)(vars:List V)(h:H):Dm p rd b Q (.exit n) vars h=Q (.exit n) vars h:=rfl
theorem akH (a b:C):Wp p rd (.seq a b) vars h Q=Wp p rd a vars h (Dm p rd b Q):=(rfl)
theorem aiQ (x:X)(a b:C):Wp p rd (.ite x a b) vars h Q=Hw p rd a b vars h Q (xv vars [] x):=(rfl)
theorem Yg (id:Nat)(vars:List V)(h:H):tP id Q .norm vars h=Q .norm vars h:=rfl
theorem BP (id:Nat)(vars:List V)(h:H):tP id Q .ret vars h=Q .ret vars h:=rfl
theorem yH (id:Nat)(vars:List V)(h:H):tP id Q (.exit id) vars h=Q .norm vars h:=aS rfl
theorem MW (id n:Nat)(f:n≠id)(vars:List V)(h:H):tP id Q (.exit n) vars h=Q (.exit n) vars h:=aQ f
theorem UC (id:Nat)(a:C):Wp p rd (.block id a) vars h Q=Wp p rd a vars h (tP id Q):=(rfl)
theorem Yd (J:List V->H->Prop)(vars:List V)(h:H):An J Q .norm vars h=J vars h:=rfl
theorem AF (J:List V->H->Prop)(vars:List V)(h:H):An J Q .ret vars h=Q .ret vars h:=rfl
theorem Zb (J:List V->H->Prop)(n:Nat)(vars:List V)(h:H):An J Q (.exit n) vars h=Q (.exit n) vars h:=rfl
theorem aP (J:Nat->List V->H->Prop)(k:Nat)(j:J k vars h)
  (step: ∀k vars h,J k vars h->Wp p rd c vars h (An (λv h'=> ∃k',k'<k/\J k' v h') Q)):Wp p rd (.loop c) vars h Q:=by
 intro I f
 induction k using Nat.strongRecOn generalizing vars h with
 |ind k ih=>
  refine f _ _ ((step k _ _ j).mono λe v h q=>?_);cases e
  .exact let ⟨k',a,b⟩:=q;ih k' a b
  .exact q
  .exact q
theorem jL (e:Wp p rd c vars h (An (λv h'=>Wp p rd (.loop c) v h' Q) Q)):Wp p rd (.loop c) vars h Q:=by
 refine λI f=>f _ _ (Wp.mono e λe v h q=>?_)
 cases e
 .exact q I f
 .exact q
 .exact q
theorem Su {x:V}{f:List Nat}{a b:C}{h:H}(e0:x=x')(e1:v=v')(e2:h=h'):Ae p rd x f a b v h Q=Ae p rd x' f a b v' h' Q:=by rw[e0,e1,e2]
theorem LX (g:Nat)(f j:List V)(pars:List Nat)(assign body:C):Ae p rd (.fn g f j) pars assign body vars h Q=(MT rd h=true/\Ev p g (f++ .yl h.next::j) (h.new (.loop {vars,pars,assign,body,st:= .ready,pend:=none})) (TD h.next vars Q)):=rfl
theorem SX (x:X)(f:List Nat)(a b:C):Wp p rd (.range x f a b) vars h Q=Ae p rd (xv vars [] x) f a b vars h Q:=(rfl)
theorem Ab.run {vars loc:List V}{h:H}{a:dU}{Q:V->H->Prop}(e:Ab p vars loc h a Q): ∃n r,(∀m,n<=m->oF (nY p m).1 (nY p m).2 vars loc h a=some r)/\Q r.1 r.2:=by
 cases a with
 |op i=>have⟨r,e,q⟩:=e;exact⟨0,r,λ_ _=>e,q⟩
 |call g args=>have⟨n,v,h',e,q⟩:=e;exact⟨n,_,e,q⟩
 |callv x args=>
  simp only[Ab,mD,oF] at*;split at e
  .rename_i f;have⟨n,v,h',e,q⟩:=e;try simp only[f]
   exact⟨n,_,e,q⟩
  .rename_i f;have⟨n,v,h',e,q⟩:=e;try simp only[f]
   exact⟨n,_,e,q⟩
  .exact e.elim
 |calli g t x args=>
  simp only[Ab,xZ,oF] at*;split at e
  .rename_i f;obtain⟨rfl,n,v,h',e,q⟩:=e;try simp only[f]
   exact⟨n,(v,h'),λm j=>by simp only[if_true];exact e m j,q⟩
  .exact e.elim
theorem Gw.run {Q:List V->H->Prop}:{its:List It}->{vars loc:List V}->{h:H}->Gw p its vars loc h Q-> ∃n r,(∀m,n<=m->wU (nY p m).1 (nY p m).2 its vars loc h=some r)/\Q r.1 r.2
 | [],_,_,_,e=>⟨0,_,λ_ _=>rfl,e⟩
 |⟨d,none,a⟩::its,vars,loc,h,e=>by
  obtain⟨n,r,e,q⟩:=Ab.run e;obtain⟨f,j,k,q⟩:=Gw.run q;exact⟨max n f,j,λm l=>by simp only[wU,iT,e m om];exact k m om,q⟩
 |⟨d,some g,a⟩::its,vars,loc,h,e=>by
  have⟨w,o,e⟩:=e
  cases w with
  |true=>
   obtain⟨n,r,e,q⟩:=Ab.run e;obtain⟨f,j,k,q⟩:=Gw.run q;exact⟨max n f,j,λm l=>by simp only[wU,o,e m om];exact k m om,q⟩
  |false=>
   obtain⟨f,j,k,q⟩:=Gw.run e;exact⟨f,j,λm l=>by simp only[wU,o];exact k m l,q⟩
theorem yV.run {base:Nat}{Q:List V->H->Prop}:{xs:List AI}->{vars:List V}->{log:Log}->{h:H}->yV p base xs vars log h Q-> ∃n r,(∀m,n<=m->uH (nY p m).1 (nY p m).2 base xs vars log h=some r)/\Q r.1 r.2
 | [],_,_,_,e=>⟨0,_,λ_ _=>rfl,e⟩
 |⟨i,⟨d,none,a⟩,false,cks⟩::xs,vars,log,h,e=>by
  obtain⟨n,r,e,j,q⟩:=Ab.run e;obtain⟨f,k,l,q⟩:=yV.run q;exact⟨max n f,k,λm o=>by simp only[uH,iT,Bool.false_eq_true,if_false,e m om,j,if_true];exact l m om,q⟩
 |⟨i,⟨d,none,a⟩,true,cks⟩::xs,vars,log,h,e=>by
  have⟨r,e,j,q⟩:=e;obtain⟨f,k,l,q⟩:=yV.run q;exact⟨f,k,λm o=>by simp only[uH,iT,if_true,e,j];exact l m o,q⟩
 |⟨i,⟨d,some g,a⟩,al,cks⟩::xs,vars,log,h,e=>by
  have⟨w,s,e⟩:=e
  cases w with
  |true=>
   cases al with
   |true=>
    have⟨r,e,j,q⟩:=e;obtain⟨f,k,l,q⟩:=yV.run q;exact⟨f,k,λm o=>by simp only[uH,s,if_true,e,j];exact l m o,q⟩
   |false=>
    obtain⟨n,r,e,j,q⟩:=Ab.run e;obtain⟨f,k,l,q⟩:=yV.run q;exact⟨max n f,k,λm o=>by simp only[uH,s,Bool.false_eq_true,if_false,e m om,j,if_true];exact l m om,q⟩
  |false=>
   have⟨j,q⟩:=e;obtain⟨f,k,l,q⟩:=yV.run q;exact⟨f,k,λm o=>by simp only[uH,s,j,if_true];exact l m o,q⟩
theorem Wp.run (e:Wp p rd c vars h Q): ∃n r,(∀m,n<=m->Ay.run (nY p m).1 (nY p m).2 m rd c vars h=some r)/\Q r.1 r.2.1 r.2.2:=by
 induction c generalizing vars h Q with
 |skip|exit _|ret=>exact⟨0,_,λ_ _=>rfl,e⟩
 |reg its=>obtain⟨n,r,e,q⟩:=Gw.run e;exact⟨n,(.norm,r.1,r.2),λm f=>by simp only[Ay.run,e m f],q⟩
 |any k nl its=>obtain⟨n,r,e,q⟩:=yV.run e;exact⟨n,(.norm,_,r.2),λm f=>by simp only[Ay.run,e m f],q⟩
 |seq a b iha ihb=>
  obtain⟨n,⟨e,v,o⟩,e1,q⟩:=iha e
  cases e with
  |norm=>obtain⟨s,t,w,q⟩:=ihb q;exact⟨max n s,t,λm f=>by simp only[Ay.run,e1 m om];exact w m om,q⟩
  |_=>exact⟨n,_,λm f=>by simp only[Ay.run,e1 m f],q⟩
 |ite x a b iha ihb=>
  simp only[Wp,Ay.run] at*;split at e
  .rename_i l;try simp only[l]
   exact iha e
  .rename_i l;try simp only[l]
   exact ihb e
  .exact e.elim
 |block id a iha=>
  obtain⟨n,⟨e,v,o⟩,e1,q⟩:=iha e
  cases e with
  |exit k=>
   simp only[tP] at q;split at q
   .rename_i u;exact⟨n,(.norm,v,o),λm f=>by simp only[Ay.run,e1 m f,aS u],q⟩
   .rename_i u;exact⟨n,(.exit k,v,o),λm f=>by simp only[Ay.run,e1 m f,aQ u],q⟩
  |_=>exact⟨n,_,λm f=>by simp only[Ay.run,e1 m f],q⟩
 |loop a iha=>
  obtain⟨n,r,e,q⟩:=e (λv h=> ∃n r,(∀m j,n<=m->n<=j->Lh (Ay.run (nY p m).1 (nY p m).2 m rd a) j v h=some r)/\Q r.1 r.2.1 r.2.2) λv h e=>by
   obtain⟨n,⟨e,v,o⟩,e1,q⟩:=iha e
   cases e with
   |norm=>
    have⟨s,t,w,q⟩:=q;refine⟨max n s+1,t,λm j f B=>?_,q⟩
    obtain⟨j,rfl⟩: ∃k,j=k+1:=⟨j- 1,om⟩
    simp only[Lh,e1 m om];exact w m j om om
   |_=>
    refine⟨n+1,_,λm j f B=>?_,q⟩
    obtain⟨j,rfl⟩: ∃k,j=k+1:=⟨j- 1,om⟩
    simp only[Lh,e1 m om]
  exact⟨n,r,λm f=>e m m f f,q⟩
 |range x ps a b _ _=>
  simp only[Wp,Ae,Ay.run] at*;split at e
  .rename_i l
   have⟨y,n,v,o,e,r,A,z,q⟩:=e
   try simp only[l]
   exact⟨n,(_,_,_),λm f=>by rw[aS y];simp only[e m f,A];rw[aQ z];rfl,q⟩
  .exact e.elim
 |fail=>exact e.elim
def aaI (Q:V->H->Prop)(h:H):List V->Prop:=λvs=>Q (Wz vs) h
theorem acA (Q:V->H->Prop)(h:H)(vs:List V):aaI Q h vs=Q (Wz vs) h:=rfl
def Gb (results:List Rv)(Q:V->H->Prop):E->List V->H->Prop:=λe vars h=>match e with
 | .exit _=>False
 |_=>iC (dB (results.map (Fv vars h))) (aaI Q h)
theorem JN (results:List Rv)(Q:V->H->Prop)(vars:List V)(h:H):Gb results Q .norm vars h=iC (dB (results.map (Fv vars h))) (aaI Q h):=rfl
theorem YC (results:List Rv)(Q:V->H->Prop)(vars:List V)(h:H):Gb results Q .ret vars h=iC (dB (results.map (Fv vars h))) (aaI Q h):=rfl
theorem vZ {f:Fn}{h:H}{Q:V->H->Prop}(t:p g=some f)(s:args.length=f.nargs)(j:Wp p none f.body (qC f args) h (Gb f.results Q))(u:f.Pn=false:=by rfl):Ev p g args h Q:=by
 obtain⟨n,⟨e,v,h'⟩,o,q⟩:=j.run
 cases e with
 |exit n=>exact q.elim
 |_=>
  have⟨l,r,q⟩:=q;refine⟨n+1,Wz l,h',λm w=>?_,q⟩
  obtain⟨m,rfl⟩: ∃k,m=k+1:=⟨m- 1,om⟩
  simp only[nY,Pc,t,u,Bool.false_eq_true,if_false,s,if_true,o m om,r,Option.map_some]
def Jp (id:Nat)(Q:V->H->Prop):E->List V->H->Prop:=λe _ h=> ∃r3,h.get id=some (.loop r3)/\(match e with
 | .norm=>Q (.bool true) (h.set id (some (.loop {r3 with st:= .ready,pend:=none})))
 |e=>Q (.bool false) (h.set id (some (.loop {r3 with st:= .done,pend:=some e}))))
theorem Ph {id:Nat}{h:H}{Q:V->H->Prop}{r:dP}(t:h.get id=some (.loop r))(s:args.length=r.pars.length)
  (w:Wp p (some id) r.assign ((r.pars.zip args).foldl (λvs q=>vs.set q.1 q.2) r.vars) h λe vars h1=>e= .norm/\ ∃r2,h1.get id=some (.loop r2)/\r2.st= .ready/\
   Wp p (some id) r.body vars (h1.set id (some (.loop {r2 with st:= .busy}))) (Jp id Q)):Ey p id args h Q:=by
 obtain⟨n,⟨e,v,h1⟩,u,rfl,r2,f,iS,k⟩:=w.run
 obtain⟨o,⟨e2,B,A⟩,j,z,l,q⟩:=k.run
 cases e2 with
 |norm=>
  refine⟨max n o+1,.bool true,_,λm y=>?_,q⟩
  obtain⟨m,rfl⟩: ∃k,m=k+1:=⟨m- 1,om⟩
  simp only[nY,La,t,s,if_true,u m om,f,iS,j m om,l]
 |_=>
  refine⟨max n o+1,.bool false,_,λm y=>?_,q⟩
  obtain⟨m,rfl⟩: ∃k,m=k+1:=⟨m- 1,om⟩
  simp only[nY,La,t,s,if_true,u m om,f,iS,j m om,l]
end
end
end Go.Ay
namespace Go.Ay
section
variable {id k off:Nat} {vs:List V} {p q p0 p1 p2 p3 p4 p5 p6:Prop}
def find:List (Nat×Fn)->Nat->Option Fn
 | [],_=>none
 |(k,f)::l,n=>cond (Nat.beq k n) (some f) (find l n)
attribute [congr] Se TL QB MU NP KP QF CK Zk Yu Zf Uy Su
def H.cell (h:H)(id off:Nat):Option V:=match h.get id with
 |some (.cells _ vs)=>vs[off]?
 |_=>none
section
variable (h:H)
theorem H.cell_of {h:H}{ro:Bool}(a:h.get id=some (.cells ro vs))(off:Nat):h.cell id off=vs[off]? :=by
 unfold H.cell;rw[a]
theorem H.aJ (id:Nat)(o:Option Ob):(h.set id o).get id=o:=by rw[H.gY,aS rfl]
theorem H.Cj (a:k≠id)(o:Option Ob):(h.set id o).get k=h.get k:=by rw[H.gY,aQ a]
theorem H.aI (o:Ob):(h.new o).get h.next=some o:=by rw[H.jY,aS rfl]
theorem H.bG (a:k≠h.next)(o:Ob):(h.new o).get k=h.get k:=by rw[H.jY,aQ a]
theorem H.kL (n k:Nat):(H.mk h.tr n).get k=h.get k:=rfl
theorem H.JL (n k off:Nat):(H.mk h.tr n).cell k off=h.cell k off:=rfl
theorem H.Aa (id:Nat)(ro:Bool)(vs:List V)(off:Nat):(h.set id (some (.cells ro vs))).cell id off=vs[off]? :=H.cell_of (H.aJ ..) off
theorem H.kW (a:k≠id)(o:Option Ob)(off:Nat):(h.set id o).cell k off=h.cell k off:=by unfold H.cell;rw[H.Cj h a]
theorem H.Nl (ro:Bool)(vs:List V)(off:Nat):(h.new (.cells ro vs)).cell h.next off=vs[off]? :=H.cell_of (H.aI ..) off
theorem H.Zl (a:k≠h.next)(o:Ob)(off:Nat):(h.new o).cell k off=h.cell k off:=by unfold H.cell;rw[H.bG h a]
end
structure Fr (h h':H):Prop where
 next:h.next<=h'.next
 get: ∀id,id<h.next->h'.get id=h.get id
theorem Fr.refl (h:H):Fr h h:=⟨dN _,λ_ _=>rfl⟩
theorem Fr.trans {a b c:H}(x:Fr a b)(y:Fr b c):Fr a c:=⟨kQ x.next y.next,λid d=>(y.get id (iD d x.next)).trans (x.get id d)⟩
theorem Fr.new {a b:H}(x:Fr a b)(o:Ob):Fr a (b.new o):=x.trans ⟨by rw[H.aM];omega,λid c=>H.bG b om o⟩
theorem Fr.set {a b:H}(x:Fr a b)(c:a.next<=id)(o:Option Ob):Fr a (b.set id o):=⟨x.next,λk d=>(H.Cj b om o).trans (x.get k d)⟩
theorem Fr.cU {a b:H}(x:Fr a b){n:Nat}(c:b.next<=n):Fr a (H.mk b.tr n):=⟨kQ x.next c,λk d=>(H.kL b n k).trans (x.get k d)⟩
theorem Fr.cell {a b:H}(x:Fr a b)(c:id<a.next)(off:Nat):b.cell id off=a.cell id off:=by unfold H.cell;rw[x.get id c]
def acX (op:BinOp)(k:IntKind)(x y:V):Option V:=match x,y with
 | .int j a,.int j' b=>if j=k/\j'=k then arith op k a b else none
 |_,_=>none
theorem XM (op:BinOp)(k:IntKind)(a b:Int):acX op k (.int k a) (.int k b)=arith op k a b:=by simp [acX]
def agR:V->Option V
 | .bool a=>some (.bool (!a))
 |_=>none
theorem KG (a:Bool):agR (.bool a)=some (.bool (!a)):=rfl
def SO (c a b:V):Option V:=match c with
 | .bool t=>some (if t then a else b)
 |_=>none
theorem CC (t:Bool)(a b:V):SO (.bool t) a b=some (if t then a else b):=rfl
def Jv (neg:Bool):V->Option V
 | .aH=>some (.bool (!neg))
 | .sl .. | .emp _=>some (.bool neg)
 |_=>none
theorem AD (neg:Bool):Jv neg .aH=some (.bool (!neg)):=rfl
theorem KD (neg:Bool)(a:Addr):Jv neg (.emp a)=some (.bool neg):=rfl
theorem SC (neg:Bool)(a b c:Nat)(d:qD):Jv neg (.sl a b c d)=some (.bool neg):=rfl
def acM (neg:Bool)(x y:V):Option V:=match x,y with
 | .bool a,.bool b=>some (.bool (if neg then !(a==b) else a==b))
 |_,_=>none
theorem akD (a b:Bool):acM false (.bool a) (.bool b)=some (.bool (a==b)):=rfl
theorem aiB (a b:Bool):acM true (.bool a) (.bool b)=some (.bool (!(a==b))):=rfl
def afJ (k:IntKind):V->Option V
 | .int j a=>if j=k then some (.int k (k.wrap (0-a))) else none
 |_=>none
theorem YM (k:IntKind)(a:Int):afJ k (.int k a)=some (.int k (k.wrap (0-a))):=by simp [afJ]
def SF (k:IntKind):V->Option V
 | .int _ a=>some (.int k (k.wrap a))
 |_=>none
theorem NH (k j:IntKind)(a:Int):SF k (.int j a)=some (.int k (k.wrap a)):=rfl
def ahO (i:Nat):V->Option V
 | .tup vs=>vs[i]?
 |_=>none
theorem SD (i:Nat)(vs:List V):ahO i (.tup vs)=vs[i]? :=rfl
def dD (v:V):Option V:=(oU v).map λ(n:Nat)=>V.int .i64 (n:Int)
theorem CL:dD .aH=some (.int .i64 0):=rfl
theorem VS (a b c:Nat)(d:qD):dD (.sl a b c d)=some (.int .i64 (c:Int)):=rfl
def IK (agg:Bool)(off n:Nat):V->Option V
 | .agg vs=>if agg then (sub vs off n).map (λws=> .agg ws) else vs[off]?
 |_=>none
theorem OF (off n:Nat)(vs:List V):IK false off n (.agg vs)=vs[off]? :=rfl
theorem LW (off n:Nat)(vs:List V):IK true off n (.agg vs)=(sub vs off n).map (λws=> .agg ws):=rfl
def aiI (off:Nat):V->Option V
 | .ptr id o=>some (.ptr id (o+off))
 |_=>none
theorem YD (off id o:Nat):aiI off (.ptr id o)=some (.ptr id (o+off)):=rfl
def agK:V->Option V
 | .ptr id o=>some (.ptr id o)
 |_=>none
theorem XV (id o:Nat):agK (.ptr id o)=some (.ptr id o):=rfl
def Ly (h:H):V->Option V
 | .ptr id off=>h.cell id off
 |_=>none
theorem OL (h:H)(id off:Nat):Ly h (.ptr id off)=h.cell id off:=rfl
def CB (h:H)(n:Nat):V->Option V
 | .ptr id off=>(h.row id off n).map .agg
 |_=>none
theorem SU (h:H)(id off n:Nat):CB h n (.ptr id off)=(h.row id off n).map .agg:=rfl
def HO (h:H)(n:Nat)(x y:V):Option H:=match x with
 | .ptr id off=>if y.cells.length=n/\y.cells.all V.one then h.put id off y.cells else none
 |_=>none
def dY (o:Option Ob)(h:H)(id off:Nat)(ws:List V):Option H:=match o with
 |some (.cells false vs)=>(putAt vs off ws).map λvs'=>h.set id (some (.cells false vs'))
 |_=>none
theorem H.put_eq (h:H)(id off:Nat)(ws:List V):h.put id off ws=dY (h.get id) h id off ws:=by
 unfold H.put dY
 cases h.get id with
 |none=>rfl
 |some o=>cases o with
  |cells ro vs=>cases ro<;>rfl
  |_=>rfl
theorem BG {o o':Option Ob}{h:H}{ws:List V}(e:o=o'):dY o h id off ws=dY o' h id off ws:=by rw[e]
theorem NQ (a:off<vs.length)(v:V):putAt vs off [v]=some (vs.set off v):=by
 unfold putAt;rw[aS siO];congr 1;rw[List.set_eq_take_append_cons_drop,aS a];simp
theorem bE (a:off<vs.length)(h:H)(id:Nat)(v:V):dY (some (.cells false vs)) h id off [v]=some (h.set id (some (.cells false (vs.set off v)))):=by
 simp only[dY];rw[NQ a];rfl
theorem eH {y:V}(a:y.cells= [y])(b:y.one=true)(h:H)(id off:Nat):HO h 1 (.ptr id off) y=dY (h.get id) h id off [y]:=by
 simp only[HO,a,List.length_singleton,List.all_cons,List.all_nil,b,Bool.and_self,and_self,if_true,H.put_eq]
theorem afD (h:H)(id off:Nat)(k:IntKind)(a:Int):HO h 1 (.ptr id off) (.int k a)=dY (h.get id) h id off [.int k a]:=eH rfl rfl h id off
theorem UE (h:H)(id off:Nat)(a:Bool):HO h 1 (.ptr id off) (.bool a)=dY (h.get id) h id off [.bool a]:=eH rfl rfl h id off
theorem ajQ (h:H)(id off a b c:Nat)(d:qD):HO h 1 (.ptr id off) (.sl a b c d)=dY (h.get id) h id off [.sl a b c d]:=eH rfl rfl h id off
theorem RC (h:H)(id off:Nat):HO h 1 (.ptr id off) .aH=dY (h.get id) h id off [.aH]:=eH rfl rfl h id off
theorem yX (h:H)(id off n:Nat)(vs:List V)(a:vs.length=n)(b:vs.all V.one=true):HO h n (.ptr id off) (.agg vs)=dY (h.get id) h id off vs:=by
 simp only[HO,V.cells,a,b,and_self,if_true,H.put_eq]
def mT (h:H)(x:V):Option (V×H):=if x.cells.all V.one then some (.ptr h.next 0,h.new (.cells false x.cells)) else none
theorem mF {x:V}(a:x.cells= [x])(b:x.one=true)(h:H):mT h x=some (.ptr h.next 0,h.new (.cells false [x])):=by
 simp [mT,a,b]
theorem Lc (h:H)(k:IntKind)(a:Int):mT h (.int k a)=some (.ptr h.next 0,h.new (.cells false [.int k a])):=rfl
theorem KA (h:H)(a:Bool):mT h (.bool a)=some (.ptr h.next 0,h.new (.cells false [.bool a])):=rfl
theorem rI (h:H)(vs:List V)(a:vs.all V.one=true):mT h (.agg vs)=some (.ptr h.next 0,h.new (.cells false vs)):=by
 simp only[mT,V.cells,a,if_true]
theorem lJ {len sz:Nat}{cap:qD}{k:IntKind}{n:Int}(b:0<=n)(a:n<len):Ci sz (.sl id off len cap) (.int k n)=some (.ptr id (off+n.toNat*sz)):=by
 simp only[Ci];rw[aS ⟨b,a⟩]
section
variable (ρ:X->V) (h:H)
theorem abG (x:X):dI ρ h (.mov x)=some (ρ x,h):=rfl
theorem VP (c a b:X):dI ρ h (.pick c a b)=(SO (ρ c) (ρ a) (ρ b)).map (·,h):=by
 simp only[dI,SO];cases ρ c<;>rfl
theorem afI (op:BinOp)(k:IntKind)(x y:X):dI ρ h (.bin op k x y)=(acX op k (ρ x) (ρ y)).map (·,h):=by
 simp only[dI,acX];cases ρ x<;>cases ρ y<;>try rfl
 simp only;split<;>rfl
theorem ZK (neg:Bool)(x y:X):dI ρ h (.beq neg x y)=(acM neg (ρ x) (ρ y)).map (·,h):=by
 simp only[dI,acM];cases ρ x<;>cases ρ y<;>rfl
theorem YJ (neg:Bool)(x:X):dI ρ h (.snil neg x)=(Jv neg (ρ x)).map (·,h):=by
 simp only[dI,Jv];cases ρ x<;>rfl
theorem adQ (x:X):dI ρ h (.not x)=(agR (ρ x)).map (·,h):=by
 simp only[dI,agR];cases ρ x<;>rfl
theorem abD (k:IntKind)(x:X):dI ρ h (.neg k x)=(afJ k (ρ x)).map (·,h):=by
 simp only[dI,afJ];cases ρ x<;>try rfl
 simp only;split<;>rfl
theorem TS (k:IntKind)(x:X):dI ρ h (.conv k x)=(SF k (ρ x)).map (·,h):=by
 simp only[dI,SF];cases ρ x<;>rfl
theorem acD (x:X)(i:Nat):dI ρ h (.ext x i)=(ahO i (ρ x)).map (·,h):=by
 simp only[dI,ahO];cases ρ x<;>rfl
theorem UP (x:X):dI ρ h (.lens x)=(dD (ρ x)).map (·,h):=by
 simp only[dI,dD,Option.map_map];rfl
theorem UU (agg:Bool)(off n:Nat)(x:X):dI ρ h (.part agg off n x)=(IK agg off n (ρ x)).map (·,h):=by
 simp only[dI,IK];cases ρ x<;>try rfl
 cases agg
 .rfl
 .simp only[if_true,Option.map_map];rfl
theorem Rw (x:X):dI ρ h (.ld false 1 x)=(Ly h (ρ x)).map (·,h):=by
 simp only[dI,ldV,Ly,H.row,H.cell];cases ρ x<;>try rfl
 simp only;rename_i id off
 cases h.get id with
 |none=>rfl
 |some o=>cases o with
  |cells ro vs=>
   simp only[sub]
   by_cases a:off<vs.length
   .rw[aS om,dJ a]
    have:(vs.drop off).take 1= [vs[off]]:=by
     rw[EF a];rfl
    rw[this];rfl
   .rw[aQ om,List.getElem?_eq_none om]
  |_=>rfl
theorem GW (n:Nat)(x:X):dI ρ h (.ld true n x)=(CB h n (ρ x)).map (·,h):=by
 simp only[dI,ldV,CB];cases ρ x<;>try rfl
 simp only;cases h.row _ _ n<;>rfl
theorem ajI (n:Nat)(x y:X):dI ρ h (.st n x y)=(HO h n (ρ x) (ρ y)).map λh'=>(V.undef,h'):=by
 simp only[dI,HO];cases ρ x<;>try rfl
 simp only;split<;>rfl
theorem acN (sz:Nat)(x i:X):dI ρ h (.ixa sz x i)=(Ci sz (ρ x) (ρ i)).map (·,h):=rfl
theorem adT (off:Nat)(x:X):dI ρ h (.fla off x)=(aiI off (ρ x)).map (·,h):=by
 simp only[dI,aiI];cases ρ x<;>rfl
theorem adU (x:X):dI ρ h (.nck x)=(agK (ρ x)).map (·,h):=by
 simp only[dI,agK];cases ρ x<;>rfl
theorem abH (sz:Nat)(x:X)(b hi a:Option X):dI ρ h (.slc sz x b hi a)=(pV sz (ρ x) (b.map ρ) (hi.map ρ) (a.map ρ)).map (·,h):=rfl
theorem afG (sz bytes:Nat)(zero:List V)(l c:X):dI ρ h (.mks sz bytes zero l c)=sD h sz bytes zero (ρ l) (ρ c):=rfl
theorem ZN (zero:List V):dI ρ h (.alc zero)=some (.ptr h.next 0,h.new (.cells false zero)):=rfl
theorem abP (x:X):dI ρ h (.box x)=mT h (ρ x):=rfl
theorem ahB (a:Bool)(x y:X):dI ρ h (.mm a [x,y])=(OZ a (ρ x) [ρ y]).map (·,h):=rfl
theorem acW (f:Nat)(a b:List X):dI ρ h (.mkf f a b)=some (.fn f (a.map ρ) (b.map ρ),h):=rfl
theorem abB:dI ρ h .mkm=some (.mp h.next,h.new (.map [])):=rfl
def tW (h:H)(sz bytes:Nat)(x y:V):Option (V×H):=match oU y,h.slice sz y with
 |some m,some ys=>tV h sz bytes x m ys
 |_,_=>none
theorem adZ (sz bytes:Nat)(x y:X):dI ρ h (.app sz bytes x y)=tW h sz bytes (ρ x) (ρ y):=rfl
def mP (zero:List V)(parts:List (Nat×Nat×V)):Option V:=(fP zero parts).map .agg
theorem ZW (zero:List V)(a:List (Nat×Nat×X)):dI ρ h (.bld zero a)=(mP zero (a.map λp=>(p.1,p.2.1,ρ p.2.2))).map (·,h):=by
 simp only[dI,mP,Option.map_map];rfl
def lU (h:H)(sz:Nat)(zero:List V)(n:Nat)(parts:List (Nat×Nat×V)):Option (V×H):=match fP (cJ zero (n*sz)) parts with
  |some cs=>if cs.all V.one then some (.sl h.next 0 n (.kn n),h.new (.cells false cs)) else none
  |none=>none
theorem ZP (sz:Nat)(zero:List V)(n:Nat)(a:List (Nat×Nat×X)):dI ρ h (.bls sz zero n a)=lU h sz zero n (a.map λp=>(p.1,p.2.1,ρ p.2.2)):=rfl
theorem acV (sz:Nat)(x y:X):dI ρ h (.cpy sz x y)=Nh h sz (ρ x) (ρ y):=rfl
end
theorem amN (a b:List V)(k:Nat):xv a b (.v k)=a.getD k .undef:=rfl
theorem amO (a b:List V)(k:Nat):xv a b (.l k)=b.getD k .undef:=rfl
theorem ajV (a b:List V)(x:V):xv a b (.c x)=x:=rfl
theorem afB (k:Nat)(a b:List V)(v:V):(jC (.v k) a b v).1=a.set k v:=rfl
theorem acL (k:Nat)(a b:List V)(v:V):(jC (.v k) a b v).2=b:=rfl
theorem adM (a b:List V)(v:V):(jC .l a b v).1=a:=rfl
theorem aaO (a b:List V)(v:V):(jC .l a b v).2=v::b:=rfl
theorem aeY (a b:List V)(v:V):(jC .n a b v).1=a:=rfl
theorem aeG (a b:List V)(v:V):(jC .n a b v).2=b:=rfl
theorem Ys (c d:List V)(x:X)(b:Bool):iT c d (some (x,b))=(match xv c d x with| .bool a=>some (a==b)| .tup []=>some false|_=>none):=rfl
theorem OD (k:IntKind)(a b:Int):arith .add k a b=some (.int k (k.wrap (a+b))):=rfl
theorem KW (k:IntKind)(a b:Int):arith .sub k a b=some (.int k (k.wrap (a-b))):=rfl
theorem KT (k:IntKind)(a b:Int):arith .mul k a b=some (.int k (k.wrap (a*b))):=rfl
theorem KL (k:IntKind)(a b:Int)(c:b≠0):arith .quo k a b=some (.int k (k.wrap (a.tdiv b))):=by simp only[arith];rw[aQ c]
theorem LM (k:IntKind)(a b:Int)(c:b≠0):arith .rem k a b=some (.int k (a.tmod b)):=by simp only[arith];rw[aQ c]
theorem LD (k:IntKind)(a b:Int):arith .eql k a b=some (.bool (decide (a=b))):=by
 simp only[arith];congr 2
theorem MM (k:IntKind)(a b:Int):arith .neq k a b=some (.bool (decide (a≠b))):=by
 simp only[arith];congr 2;rw[Ri];simp
theorem JD (k:IntKind)(a b:Int):arith .lss k a b=some (.bool (decide (a<b))):=rfl
theorem OV (k:IntKind)(a b:Int):arith .leq k a b=some (.bool (decide (a<=b))):=rfl
theorem LG (k:IntKind)(a b:Int):arith .gtr k a b=some (.bool (decide (b<a))):=rfl
theorem NR (k:IntKind)(a b:Int):arith .geq k a b=some (.bool (decide (b<=a))):=rfl
theorem TP (k:IntKind)(a b:Int):OZ false (.int k a) [.int k b]=some (.int k (if b<a then b else a)):=by
 simp only[OZ,if_true,Bool.false_eq_true,if_false]
theorem XR (k:IntKind)(a b:Int):OZ true (.int k a) [.int k b]=some (.int k (if b>a then b else a)):=by
 simp only[OZ,if_true]
theorem Ii {n:Int}(a: -9223372036854775808<=n)(h2:n<9223372036854775808):IntKind.i64.wrap n=n:=by
 unfold IntKind.wrap;simp only[IntKind.bits,IntKind.signed]
 by_cases h:0<=n
 .have:n%2^64=n:=Int.emod_eq_of_lt h om
  simp only[this];rw[aQ];simp;omega
 .have:n%2^64=n+2^64:=by
   rw[<-Int.add_emod_right];exact Int.emod_eq_of_lt om om
  simp only[this];rw[aS]
  .omega
  .simp;omega
theorem agZ (a:List V)(h:H)(k:Nat):Fv a h (.v k)=some (a.getD k .undef):=rfl
theorem AR (c:List V)(h:H)(k:Nat):Fv c h (.cell k false 1)=Ly h (c.getD k .undef):=by
 have:=Rw (λ_=>c.getD k .undef) h (.v 0);simp only[Fv];simp only[dI] at this;generalize ldV h false 1 (c.getD k .undef)=a at*;generalize Ly h (c.getD k .undef)=b at*;cases a<;>cases b<;>simp at this |-;exact this
theorem BB (a:List V)(h:H)(k n:Nat):Fv a h (.cell k true n)=CB h n (a.getD k .undef):=by
 simp only[Fv,ldV,CB];cases a.getD k .undef<;>try rfl
 simp only;cases h.row _ _ n<;>rfl
theorem Xu {α:Type}:dB ([]:List (Option α))=some []:=rfl
theorem Rf {α:Type}(a:α)(r:List (Option α)):dB (some a::r)=(dB r).map (a:: ·):=rfl
theorem YQ (v:V):Wz [v]=v:=rfl
theorem UF (v u:V):Wz [v,u]= .tup [v,u]:=rfl
theorem DA (v u t:V):Wz [v,u,t]= .tup [v,u,t]:=rfl
theorem abL:V.undef= .tup []:=rfl
theorem aV (a:Fn)(args:List V):qC a args=a.init.map λo=>match o with|some j=>args.getD j .undef|none=> .undef:=rfl
theorem KF (a:Log)(h:H):oI [] a h=true:=by simp [oI]
attribute [go_sem] abD UU ahB abB YM OF LW TP XR
attribute [go_sem] aeZ ajP aaR agQ ahD akH aiQ UC SX Lg JA DN Yg BP yH MW Yd AF Zb JN YC MJ AO CV Xj RH QK afO ahS ZM adE aaC acA LX aaU PF IZ aeV PG ND LR ahN PM LV QJ XI Vs abG VP afI ZK YJ adQ TS acD UP Rw GW ajI acN adT adU abH afG ZN abP acW adZ ZW ZP acV XM KG CC AD SC KD akD aiB Bool.not_false Bool.not_true beq_true beq_false if_true if_false Bool.false_eq_true TG NH SD CL VS YD XV OL SU afD UE ajQ RC Lc KA bE lJ amN amO ajV afB acL adM aaO aeY aeG Ys OD KW KT KL LM LD MM JD OV LG NR Ii agZ AR BB Xu Rf YQ UF DA KF H.aJ H.Cj H.aI H.bG H.kL H.JL H.Aa H.kW H.Nl H.Zl H.bT H.aM true_and Option.map_some Option.map_none List.replicate_succ List.replicate_zero List.take_succ_cons List.take_zero List.length_cons List.length_nil Nat.zero_add List.foldl_cons List.foldl_nil List.map_cons List.map_nil List.getD_cons_zero List.getD_cons_succ List.set_cons_zero List.set_cons_succ List.cons_append List.nil_append qH
attribute [congr] BG
theorem aT (y:q)(h:p=q:=by conv=>lhs;simp(disch:=omega)only[go_sem]):p:=(h).mpr y
theorem alU (h:p:=by simp(disch:=omega)only[go_sem]):p:=h
theorem bM (a:p0)(y:q)(h:p0->p=q:=by intro a;conv=>lhs;simp(disch:=omega)only[go_sem,a]):p:=(h a).mpr y
theorem amJ (a:p0)(h:p0->p:=by intro a;simp(disch:=omega)only[go_sem,a]):p:=h a
theorem eZ (a:p0)(b:p1)(y:q)(h:p0->p1->p=q:=by intro a b;conv=>lhs;simp(disch:=omega)only[go_sem,a,b]):p:=(h a b).mpr y
theorem adI (a:p0)(b:p1)(h:p0->p1->p:=by intro a b;simp(disch:=omega)only[go_sem,a,b]):p:=h a b
theorem iG (a:p0)(c:p1)(b:p2)(y:q)(h:p0->p1->p2->p=q:=by intro a c b;conv=>lhs;simp(disch:=omega)only[go_sem,a,c,b]):p:=(h a c b).mpr y
theorem agS (a:p0)(c:p1)(b:p2)(h:p0->p1->p2->p:=by intro a c b;simp(disch:=omega)only[go_sem,a,c,b]):p:=h a c b
theorem jX (a:p0)(c:p1)(b:p2)(d:p3)(y:q)(h:p0->p1->p2->p3->p=q:=by intro a c b d;conv=>lhs;simp(disch:=omega)only[go_sem,a,c,b,d]):p:=(h a c b d).mpr y
theorem amM (a:p0)(c:p1)(b:p2)(d:p3)(h:p0->p1->p2->p3->p:=by intro a c b d;simp(disch:=omega)only[go_sem,a,c,b,d]):p:=h a c b d
theorem nW (a:p0)(b:p1)(d:p2)(c:p3)(f:p4)(y:q)(h:p0->p1->p2->p3->p4->p=q:=by intro a b d c f;conv=>lhs;simp(disch:=omega)only[go_sem,a,b,d,c,f]):p:=(h a b d c f).mpr y
theorem wE (a:p0)(b:p1)(d:p2)(c:p3)(f:p4)(i:p5)(y:q)(h:p0->p1->p2->p3->p4->p5->p=q:=by intro a b d c f i;conv=>lhs;simp(disch:=omega)only[go_sem,a,b,d,c,f,i]):p:=(h a b d c f i).mpr y
theorem Ie (a:p0)(c:p1)(f:p2)(d:p3)(i:p4)(j:p5)(b:p6)(y:q)(h:p0->p1->p2->p3->p4->p5->p6->p=q:=by intro a c f d i j b;conv=>lhs;simp(disch:=omega)only[go_sem,a,c,f,d,i,j,b]):p:=(h a c f d i j b).mpr y
theorem wY {m:Prop}(a:p0)(d:p1)(j:p2)(f:p3)(b:p4)(l:p5)(c:p6)(i:m)(y:q)(h:p0->p1->p2->p3->p4->p5->p6->m->p=q:=by intro a d j f b l c i;conv=>lhs;simp(disch:=omega)only[go_sem,a,d,j,f,b,l,c,i]):p:=(h a d j f b l c i).mpr y
theorem Ux {o n:Prop}(a:p0)(f:p1)(l:p2)(i:p3)(b:p4)(m:p5)(d:p6)(j:o)(c:n)(y:q)(h:p0->p1->p2->p3->p4->p5->p6->o->n->p=q:=by intro a f l i b m d j c;conv=>lhs;simp(disch:=omega)only[go_sem,a,f,l,i,b,m,d,j,c]):p:=(h a f l i b m d j c).mpr y
abbrev cE (l:List V):Option Ob:=some (.cells false l)
@[match_pattern] abbrev aC (z:Int):V:=.int .i64 z
abbrev LN:=List (List Nat)
abbrev nZ:=List (List (List Nat))
theorem cV [d:Decidable p](h:p):decide p=true:=decide_eq_true h
theorem bZ [d:Decidable p](h:¬p):decide p=false:=decide_eq_false h
theorem exI.{u}{α:Sort u}(a:α):∃b,a=b:=⟨a,rfl⟩
theorem fJ (i:Nat):(i:Int)+1=((i+1:Nat):Int):=om
end
end Go.Ay
namespace Go.Ay
section
variable {l:List Int} {v x y u:V} {sz n id off b bytes mid:Nat} {h h' a:H} {ws us:List V} {ro:Bool} {ll:List (List Int)} {kk k:IntKind} {es:List (V×V)}
def ints (l:List Int):List V:=l.map (V.int .i64)
theorem QL:ints []= []:=rfl
theorem KI (a:Int)(l:List Int):ints (a::l)= .int .i64 a::ints l:=rfl
theorem aE (l:List Int):(ints l).length=l.length:=dO ..
theorem fQ (a b:List Int):ints (a++b)=ints a++ints b:=List.map_append ..
theorem ints_set (l:List Int)(i:Nat)(x:Int):(ints l).set i (.int .i64 x)=ints (l.set i x):=by
 simp only[ints,List.map_set]
theorem QT (l:List Int)(i:Nat):(ints l)[i]? =(l[i]?).map (V.int .i64):=by simp [ints]
theorem mK {i:Nat}(hi:i<l.length):(ints l)[i]? =some (.int .i64 (l.getD i 0)):=by
 rw[QT,dJ hi,gV,dJ hi];rfl
theorem MP (l:List Int)(n:Nat):(ints l).take n=ints (l.take n):=by simp [ints,List.map_take]
theorem Qb (l:List Int)(n:Nat):(ints l).drop n=ints (l.drop n):=by simp [ints,List.map_drop]
theorem Xx:{a b:List Int}->ints a=ints b->a=b
 | [], [],_=>rfl
 | [],_::_,h=>by cases h
 |_::_, [],h=>by cases h
 |x::a,y::b,h=>by
  simp only[KI,List.cons.injEq,V.int.injEq,true_and] at h;rw[h.1,Xx h.2]
theorem Js (n:Nat)(x:Int):ints (List.replicate n x)=List.replicate n (.int .i64 x):=by simp [ints]
structure Sl (v:V)(sz n id off:Nat):Prop where
 len:oU v=some n
 ixa:(k:IntKind)->(i:Int)->0<=i->i<n->Ci sz v (.int k i)=some (.ptr id (off+i.toNat*sz))
 one:v.one=true
 cells:v.cells= [v]
theorem Sl.lens (s:Sl v sz n id off):dD v=some (.int .i64 (n:Int)):=by
 unfold dD;rw[s.len];rfl
def SV (h:H)(v:V)(sz:Nat)(ws:List V):Prop:=(v= .aH\/ ∃a,v= .emp a)/\ws= []\/
 ∃id off len cap ro vs,v= .sl id off len cap/\ws.length=len*sz/\id<h.next/\h.get id=some (.cells ro vs)/\off+len*sz<=vs.length/\(vs.drop off).take (len*sz)=ws
theorem SV.aH (h:H)(sz:Nat):SV h .aH sz []:= .inl ⟨.inl rfl,rfl⟩
theorem SV.emp (h:H)(a:Addr)(sz:Nat):SV h (.emp a) sz []:= .inl ⟨.inr ⟨a,rfl⟩,rfl⟩
theorem SV.mono (s:SV h v sz ws)(f:Fr h h'):SV h' v sz ws:=by
 rcases s with s|⟨id,off,len,c,ro,j,q,m,d,o,r,i⟩
 .exact .inl s
 .exact .inr ⟨id,off,len,c,ro,j,q,m,iD d f.next,by rw[f.get id d];exact o,r,i⟩
theorem SV.all {vs:List V}{len:Nat}(d:vs.length=len*sz)(c:id<h.next)(f:h.get id=some (.cells ro vs))(cap:qD):SV h (.sl id 0 len cap) sz vs:=
 .inr ⟨id,0,len,cap,ro,vs,rfl,d,c,f,om,by rw[List.drop_zero,<-d,List.take_length]⟩
theorem SV.shape (s:SV h v sz ws)(n:Nat)(f:ws.length=n*sz)(w:0<sz): ∃id off,Sl v sz n id off/\(0<n->id<h.next)/\ ∀i,i<ws.length->h.cell id (off+i)=ws[i]? :=by
 rcases s with ⟨q,rfl⟩|⟨id,off,len,t,ro,z,rfl,d,m,r,A,o⟩
 .have:n=0:=by
   cases n with
   |zero=>rfl
   |succ n=>simp [Nat.succ_mul] at f;omega
  subst this;rcases q with rfl|⟨a,rfl⟩<;>exact⟨0,0,⟨rfl,λk i j d=>om,rfl,rfl⟩,λh=>om,λi hi=>by simp at hi⟩
 .have c:len=n:=by
   rw[d] at f;exact Nat.eq_of_mul_eq_mul_right w f
  subst c;refine⟨id,off,⟨rfl,λk i j d=>lJ j d,rfl,rfl⟩,λ_=>m,λi hi=>?_⟩;rw[H.cell_of r,<-o,List.getElem?_take_of_lt om,List.getElem?_drop]
theorem SV.slice (s:SV h v sz ws):h.slice sz v=some ws:=by
 rcases s with ⟨rfl|⟨a,rfl⟩,rfl⟩|⟨id,off,len,f,ro,j,rfl,m,o,d,i,c⟩
 .rfl
 .rfl
 .simp only[H.slice,H.row,d,sub]
  rw[aS i,c]
theorem SV.len (s:SV h v sz ws)(c:ws.length=n*sz)(d:0<sz):oU v=some n:=by
 obtain⟨id,off,s,_⟩:=s.shape n c d;exact s.len
def SI (h:H)(v:V)(l:List Int):Prop:=SV h v 1 (ints l)
theorem SI.aH (h:H):SI h .aH []:=SV.aH h 1
theorem SI.emp (h:H)(a:Addr):SI h (.emp a) []:=SV.emp h a 1
theorem SI.mono (s:SI h v l)(f:Fr h h'):SI h' v l:=SV.mono s f
theorem SI.own (c:id<h.next)(d:h.get id=some (.cells ro (ints l)))(cap:qD):SI h (.sl id 0 l.length cap) l:=
 SV.all (by rw[aE,jP]) c d cap
theorem SI.open (s:SI h v l): ∃id off,Sl v 1 l.length id off/\(0<l.length->id<h.next)/\ ∀i:Nat,i<l.length->h.cell id (off+i)=some (.int .i64 (l.getD i 0)):=by
 obtain⟨id,off,d,j,f⟩:=SV.shape s l.length (by rw[aE,jP]) om;refine⟨id,off,d,j,λi c=>?_⟩;rw[f i (by rw[aE];omega),mK c]
theorem SI.len (s:SI h v l):oU v=some l.length:=SV.len s (by rw[aE,jP]) om
theorem SI.lens (s:SI h v l):dD v=some (.int .i64 (l.length:Int)):=by unfold dD;rw[s.len];rfl
theorem kV (f:Fr h h'){F:Nat->V}(c:0<n->id<h.next)(j: ∀i:Nat,i<n->h.cell id (off+i)=some (F i)): ∀i:Nat,i<n->h'.cell id (off+i)=some (F i):=λi d=>by
 rw[f.cell (c om)];exact j i d
def bH {α β:Type}(R:α->β->Prop):List α->List β->Prop
 | [], []=>True
 |a::aQ_,b::bs=>R a b/\bH R aQ_ bs
 |_,_=>False
theorem bH.length {α β:Type}{R:α->β->Prop}:{aQ_:List α}->{bs:List β}->bH R aQ_ bs->aQ_.length=bs.length
 | [], [],_=>rfl
 |_::_,_::_,h=>by rw[List.length_cons,List.length_cons,bH.length h.2]
 | [],_::_,h=>h.elim
 |_::_, [],h=>h.elim
theorem bH.mono {α β:Type}{R S:α->β->Prop}(k: ∀a b,R a b->S a b):{aQ_:List α}->{bs:List β}->bH R aQ_ bs->bH S aQ_ bs
 | [], [],_=>trivial
 |_::_,_::_,h=>⟨k _ _ h.1,bH.mono k h.2⟩
 | [],_::_,h=>h.elim
 |_::_, [],h=>h.elim
theorem bH.get {α β:Type}{R:α->β->Prop}:{aQ_:List α}->{bs:List β}->bH R aQ_ bs-> ∀i (hi:i<aQ_.length) (hj:i<bs.length),R aQ_[i] bs[i]
 |a::aQ_,b::bs,h,0,_,_=>h.1
 |a::aQ_,b::bs,h,i+1,hi,hj=>bH.get h.2 i (by simpa using hi) (by simpa using hj)
 | [],_,_,i,hi,_=>by simp at hi
 |_::_, [],h,_,_,_=>h.elim
theorem bH.append {α β:Type}{R:α->β->Prop}:{aQ_:List α}->{bs:List β}->{cs:List α}->{ds:List β}->bH R aQ_ bs->bH R cs ds->bH R (aQ_++cs) (bs++ds)
 | [], [],_,_,_,h=>h
 |_::_,_::_,_,_,h,k=>⟨h.1,bH.append h.2 k⟩
 | [],_::_,_,_,h,_=>h.elim
 |_::_, [],_,_,h,_=>h.elim
theorem bH.jF {α β:Type}{R:α->β->Prop}:{aQ_:List α}->{bs:List β}->aQ_.length=bs.length->(∀i (hi:i<aQ_.length) (hj:i<bs.length),R aQ_[i] bs[i])->bH R aQ_ bs
 | [], [],_,_=>trivial
 |a::aQ_,b::bs,hl,h=>⟨h 0 siM siM,bH.jF (by simpa using hl) λi hi hj=>h (i+1) (by simpa using hi) (by simpa using hj)⟩
 | [],_::_,hl,_=>by simp at hl
 |_::_, [],hl,_=>by simp at hl
theorem bH.set {α β:Type}{R:α->β->Prop}:{aQ_:List α}->{bs:List β}->bH R aQ_ bs-> ∀(i:Nat) {a:α} {b:β},R a b->bH R (aQ_.set i a) (bs.set i b)
 | [], [],_,_,_,_,_=>trivial
 |_::_,_::_,h,0,_,_,r=>⟨r,h.2⟩
 |_::_,_::_,h,i+1,_,_,r=>⟨h.1,bH.set h.2 i r⟩
 | [],_::_,h,_,_,_,_=>h.elim
 |_::_, [],h,_,_,_,_=>h.elim
def SR (h:H)(v:V)(ll:List (List Int)):Prop:= ∃ws,SV h v 1 ws/\bH (SI h) ws ll
theorem SR.aH (h:H):SR h .aH []:=⟨[],SV.aH h 1,trivial⟩
theorem SR.mono (s:SR h v ll)(f:Fr h h'):SR h' v ll:=by
 have⟨ws,s,a⟩:=s;exact⟨ws,s.mono f,a.mono λ_ _ x=>x.mono f⟩
theorem SR.open (s:SR h v ll): ∃id off ws,Sl v 1 ll.length id off/\(0<ll.length->id<h.next)/\ws.length=ll.length/\(∀i:Nat,i<ll.length->h.cell id (off+i)=some (ws.getD i .undef))/\bH (SI h) ws ll:=by
 have⟨ws,s,a⟩:=s;have c:=a.length;obtain⟨id,off,f,d,j⟩:=s.shape ll.length (by rw[c,jP]) om;refine⟨id,off,ws,f,d,c,λi m=>?_,a⟩;rw[j i om,gV,dJ om];rfl
theorem SR.len (s:SR h v ll):oU v=some ll.length:=by
 obtain⟨id,off,ws,c,_⟩:=s.open;exact c.len
theorem SR.lens (s:SR h v ll):dD v=some (.int .i64 (ll.length:Int)):=by unfold dD;rw[s.len];rfl
theorem Mz (a:bH (SI h) ws ll){i:Nat}(hi:i<ll.length):SI h (ws.getD i .undef) (ll.getD i []):=by
 have c:=a.length;rw[gV,dJ om,gV,dJ hi];exact a.get i om hi
def dF (h:H)(v:V)(sz:Nat)(ws:List V)(b:Nat):Prop:=v= .aH/\ws= []\/
 ∃id n cap rest,v= .sl id 0 n cap/\ws.length=n*sz/\(cap= .un sz\/cap= .kn n/\rest= [])/\b<=id/\id<h.next/\h.get id=some (.cells false (ws++rest))
theorem dF.aH (h:H)(sz b:Nat):dF h .aH sz [] b:= .inl ⟨rfl,rfl⟩
theorem dF.new (h:H)(sz n b:Nat)(ws:List V)(c:ws.length=n*sz)(d:b<=h.next):dF (h.new (.cells false ws)) (.sl h.next 0 n (.kn n)) sz ws b:=
 .inr ⟨h.next,n,_, [],rfl,c,.inr ⟨rfl,rfl⟩,d,by rw[H.aM];omega,by rw[H.aI,qH]⟩
theorem dF.sv (o:dF h v sz ws b):SV h v sz ws:=by
 rcases o with o|⟨id,n,d,c,rfl,f,_,_,i,j⟩
 .exact .inl ⟨.inl o.1,o.2⟩
 .exact .inr ⟨id,0,n,d,false,ws++c,rfl,f,i,j,by rw[eE];omega,by rw[List.drop_zero,<-f,List.take_left]⟩
theorem dF.le {c:Nat}(o:dF h v sz ws b)(s:c<=b):dF h v sz ws c:=by
 rcases o with o|⟨id,n,f,d,q,m,i,r,j⟩
 .exact .inl o
 .exact .inr ⟨id,n,f,d,q,m,i,kQ s r,j⟩
def cW (v:V)(k:Nat):Prop:= ∀id off n c,v= .sl id off n c->k≠id
theorem cW.aH (k:Nat):cW .aH k:=λ_ _ _ _ h=>by cases h
theorem cW.sl {k:Nat}{c:qD}(h:k≠id):cW (.sl id off n c) k:=λ_ _ _ _ e=>by cases e;exact h
theorem dF.mono (o:dF h v sz ws b)(t:h.next<=h'.next)(s: ∀id off n c,v= .sl id off n c->b<=id->id<h.next->h'.get id=h.get id):dF h' v sz ws b:=by
 rcases o with o|⟨id,n,d,f,rfl,q,m,j,i,r⟩
 .exact .inl o
 .exact .inr ⟨id,n,d,f,rfl,q,m,j,iD i t,by rw[s id 0 n d rfl j i];exact r⟩
theorem dF.fr {h h':H}{v:V}{sz:Nat}{ws:List V}{b:Nat}(o:dF h v sz ws b)(f:Fr h h'):dF h' v sz ws b:=
 o.mono f.next λid _ _ _ _ _ c=>f.get id c
structure ahQ (h:H)(x:V)(sz n m:Nat)(ws us:List V)(b:Nat)(v:V)(h':H):Prop where
 own:dF h' v sz (ws++us) b
 next:h.next<=h'.next
 get: ∀k,k<h.next->cW x k->h'.get k=h.get k
 fr: ∀a,Fr a h->a.next<=b->Fr a h'
 cT:m=0/\v=x\/ ∃id,v= .sl id 0 (n+m) (.un sz)/\b<=id/\id<h'.next/\h'.get id=some (.cells false (ws++us))
theorem dF.tV {h:H}{x:V}{sz bytes b:Nat}{ws us:List V}(o:dF h x sz ws b)(w:b<=h.next){n m:Nat}(r:ws.length=n*sz)(N:us.length=m*sz)(F:0<sz)(i:(2*(n+m)+1000)*bytes<=2^48/\n+m<2^62):
  ∃v h',tV h sz bytes x m us=some (v,h')/\ahQ h x sz n m ws us b v h':=by
 have z:=o.sv
 have q:=z.len r F
 have s:=z.slice
 unfold Ay.tV
 simp only[q,s]
 by_cases j:m=0
 .subst j
  have K:us= []:=Zs om
  subst K
  rw[aS rfl]
  exact⟨x,h,rfl,by rw[qH];exact o,dN _,λ_ _ _=>rfl,λ_ f _=>f,.inl ⟨rfl,rfl⟩⟩
 .rw[aQ j,aS i]
  have c: ∀g:H,g.next=h.next->(∀k,k<h.next->cW x k->g.get k=h.get k)->(∀a,Fr a h->a.next<=b->Fr a g)-> ∃v h',some (V.sl h.next 0 (n+m) (.un sz),g.new (.cells false (ws++us)))=some (v,h')/\ahQ h x sz n m ws us b v h':=by
   intro g gn G gf;refine⟨_,_,rfl,.inr ⟨h.next,n+m,.un sz, [],rfl,by rw[eE,r,N,Nat.add_mul],.inl rfl,w,by rw[H.aM];omega,by rw[<-gn,H.aI,qH]⟩,by rw[H.aM];omega,λk A d=>?_,λa f d=>(gf a f d).new _,.inr ⟨_,rfl,w,by rw[H.aM];omega,by rw[<-gn,H.aI]⟩⟩;rw[H.bG g om];exact G k A d
  rcases o with ⟨rfl,rfl⟩|⟨id,t,P,B,rfl,O,J,L,R,Q⟩
  .exact c h rfl (λ_ _ _=>rfl) (λ_ f _=>f)
  .have:t=n:=Nat.eq_of_mul_eq_mul_right F (O.symm.trans r)
   subst this
   rcases J with rfl|⟨rfl,rfl⟩
   .simp only[Q,if_true]
    exact c (h.set id none) rfl (λk A d=>H.Cj h (d id 0 t _ rfl) none) (λa f d=>f.set (kQ d L) none)
   .simp only
    rw[aQ om]
    exact c h rfl (λ_ _ _=>rfl) (λ_ f _=>f)
theorem dF.app (o:dF h x sz ws b)(j:b<=h.next)(f:SV h y sz us){m:Nat}(q:ws.length=n*sz)(d:us.length=m*sz)(i:0<sz)(c:(2*(n+m)+1000)*bytes<=2^48/\n+m<2^62):
  ∃v h',tW h sz bytes x y=some (v,h')/\ahQ h x sz n m ws us b v h':=by
 have e1:tW h sz bytes x y=Ay.tV h sz bytes x m us:=by
  simp only[tW,f.len d i,f.slice]
 rw[e1]
 exact o.tV j q d i c
def ZB (h:H)(sz bytes:Nat)(zero:List V)(x n:V):Option (V×H):=match n with
  | .int .i64 n=>if 0<=n/\n*bytes<=2^48/\n<2^62/\zero.length=sz then tV h sz bytes x n.toNat (cJ zero (n.toNat*sz)) else none
  |_=>none
theorem abI (ρ:X->V)(h:H)(sz bytes:Nat)(zero:List V)(x n:X):dI ρ h (.apz sz bytes zero x n)=ZB h sz bytes zero (ρ x) (ρ n):=by
 simp only[dI,ZB]
 all_goals cases ρ n<;>rfl
theorem WL {zero:List V}{n:Int}(d:0<=n)(c:n*bytes<=281474976710656)(h2:n<4611686018427387904)(f:zero.length=sz):ZB h sz bytes zero x (.int .i64 n)=tV h sz bytes x n.toNat (cJ zero (n.toNat*sz)):=by
 simp only[ZB];rw[aS ⟨d,c,h2,f⟩]
def Vt (h:H)(mid x:Nat):Prop:= ∀es n v,h.get mid=some (.map es)->mB .i64 n es=some v-> ∀off len c,v≠ .sl x off len c
structure Vh (mid:Nat)(h h':H):Prop where
 next:h.next<=h'.next
 get: ∀id,id<h.next->id≠mid->h'.get id=h.get id
 av:mid<h.next-> ∀x,x<h.next->Vt h mid x->Vt h' mid x
theorem Vh.refl (mid:Nat)(h:H):Vh mid h h:=⟨dN _,λ_ _ _=>rfl,λ_ _ _ h=>h⟩
theorem Vh.trans {b c:H}(x:Vh mid a b)(y:Vh mid b c):Vh mid a c:=
 ⟨kQ x.next y.next,λid d f=>(y.get id (iD d x.next) f).trans (x.get id d f),λi k j h=>y.av (iD i x.next) k (iD j x.next) (x.av i k j h)⟩
theorem Vt.fr {b:H}{x:Nat}(h:Vt a mid x)(d:b.get mid=a.get mid):Vt b mid x:=λes n v c f=>h es n v (d▸c) f
theorem Fr.toM {b:H}(x:Fr a b)(mid:Nat):Vh mid a b:=⟨x.next,λid c _=>x.get id c,λd _ _ h=>h.fr (x.get mid d)⟩
theorem Vh.cU {b:H}(x:Vh mid a b)(f:b.next<=n):Vh mid a (H.mk b.tr n):=⟨kQ x.next f,λk c d=>(H.kL b n k).trans (x.get k c d),λi k c h=>(x.av i k c h).fr (H.kL b n mid)⟩
theorem Vh.new {b:H}(x:Vh mid a b)(o:Ob):Vh mid a (b.new o):=x.trans (((Fr.refl b).new o).toM mid)
theorem Vh.set {b:H}(x:Vh mid a b)(i:a.next<=id)(o:Option Ob):Vh mid a (b.set id o):=
 ⟨x.next,λk c d=>(H.Cj b om o).trans (x.get k c d),λf k c h=>(x.av f k c h).fr (H.Cj b om o)⟩
theorem Vh.cell {b:H}(x:Vh mid a b)(d:id<a.next)(c:id≠mid)(off:Nat):b.cell id off=a.cell id off:=by unfold H.cell;rw[x.get id d c]
def CT (o:Option Ob)(zero:V)(ok:Bool)(kk:IntKind)(n:Int):Option V:=match o with
 |some (.map es)=>if jA kk es then
   match mB kk n es with
   |some v=>some (if ok then .tup [v,.bool true] else v)
   |none=>some (if ok then .tup [zero,.bool false] else zero)
  else none
 |_=>none
def agM (h:H)(zero:V)(ok:Bool)(x k:V):Option V:=match x,k with
 | .mp id,.int kk n=>CT (h.get id) zero ok kk n
 |_,_=>none
theorem Dw (h:H)(zero:V)(c:Bool)(id:Nat)(kk:IntKind)(n:Int):agM h zero c (.mp id) (.int kk n)=CT (h.get id) zero c kk n:=rfl
theorem ZQ (ρ:X->V)(h:H)(zero:V)(d:Bool)(x k:X):dI ρ h (.lkp zero d x k)=(agM h zero d (ρ x) (ρ k)).map (·,h):=by
 simp only[dI,agM]
 all_goals cases ρ x<;>try rfl
 all_goals cases ρ k<;>try rfl
 simp only[CT];rename_i id kk n
 cases h.get id with
 |none=>rfl
 |some o=>cases o with
  |map es=>
   simp only
   by_cases c:jA kk es=true
   .rw[aS c,aS c]
    cases mB kk n es<;>rfl
   .rw[aQ c,aQ c];rfl
  |_=>rfl
theorem Xw {zero:V}{n:Int}(c:jA kk es=true)(d:mB kk n es=some v):CT (some (.map es)) zero true kk n=some (.tup [v,.bool true]):=by
 simp only[CT];rw[aS c,d];rfl
theorem FD {zero:V}{n:Int}(c:jA kk es=true)(d:mB kk n es=none):CT (some (.map es)) zero true kk n=some (.tup [zero,.bool false]):=by
 simp only[CT];rw[aS c,d];rfl
def Ye (o:Option Ob)(h:H)(id:Nat)(kk:IntKind)(n:Int)(y:V):Option H:=match o with
 |some (.map es)=>if jA kk es then some (h.set id (some (.map (rG kk n y es)))) else none
 |_=>none
def RV (h:H)(x k y:V):Option H:=match x,k with
 | .mp id,.int kk n=>Ye (h.get id) h id kk n y
 |_,_=>none
theorem Mf (h:H)(id:Nat)(kk:IntKind)(n:Int)(y:V):RV h (.mp id) (.int kk n) y=Ye (h.get id) h id kk n y:=rfl
theorem WC (ρ:X->V)(h:H)(x k y:X):dI ρ h (.mset x k y)=(RV h (ρ x) (ρ k) (ρ y)).map λh'=>(V.undef,h'):=by
 simp only[dI,RV]
 all_goals cases ρ x<;>try rfl
 all_goals cases ρ k<;>try rfl
 simp only[Ye];rename_i id kk n
 cases h.get id with
 |none=>rfl
 |some o=>cases o with
  |map es=>
   simp only
   by_cases c:jA kk es=true
   .rw[aS c,aS c];rfl
   .rw[aQ c,aQ c];rfl
  |_=>rfl
theorem Qa (c:jA kk es=true)(h:H)(id:Nat)(n:Int)(y:V):Ye (some (.map es)) h id kk n y=some (h.set id (some (.map (rG kk n y es)))):=by
 simp only[Ye];rw[aS c]
theorem Vc {kk:IntKind}{n:Int}{y:V}:{es:List (V×V)}->jA kk es=true->jA kk (rG kk n y es)=true
 | [],_=>by simp [rG,jA]
 |(k,v)::es,h=>by
  cases k<;>simp [jA] at h;rename_i d m;obtain⟨rfl,c⟩:=h;simp only[rG];split
  .simp [jA,c]
  .simp [jA,Vc c]
theorem Ge {kk:IntKind}{n m:Int}{y:V}:{es:List (V×V)}->jA kk es=true->mB kk m (rG kk n y es)=if m=n then some y else mB kk m es
 | [],_=>by simp only[rG,mB,if_true]
 |(k,v)::es,h=>by
  cases k<;>simp [jA] at h;rename_i i j;obtain⟨rfl,f⟩:=h;simp only[rG]
  by_cases d:n=j
  .subst d
   rw[aS rfl];simp only[mB,if_true]
   by_cases c:m=n<;>simp [c]
  .rw[aQ d]
   simp only[mB,if_true];rw[Ge f]
   by_cases c:m=j
   .rw[aS c,aS c,aQ om]
   .rw[aQ c,aQ c]
theorem iH {zero:List V}{j:IntKind}{l c:Int}(f:0<=l)(d:l<=c)(h2:c*bytes<=281474976710656)(h3:c<4611686018427387904):
  sD h sz bytes zero (.int j l) (.int k c)=some (.sl h.next 0 l.toNat (.kn c.toNat),h.new (.cells false (cJ zero (c.toNat*sz)))):=by
 simp only[sD];rw[aS ⟨f,d,h2,h3⟩]
theorem qT (n:Nat):cJ [.int .i64 0] n=ints (List.replicate n 0):=by
 rw[Js];unfold cJ;apply List.ext_getElem
 .simp
 .intro i c d
  simp [Nat.mod_one]
theorem Fz (z:V)(n:Nat):cJ [z] n=List.replicate n z:=by
 unfold cJ;apply List.ext_getElem
 .simp
 .intro i c d
  simp [Nat.mod_one]
theorem RG (h:H)(sz:Nat)(zero:List V):lU h sz zero 0 []=some (.sl h.next 0 0 (.kn 0),h.new (.cells false [])):=by
 simp [lU,fP,cJ]
theorem UM {len:Nat}{hi:Int}(f:0<=hi)(d:hi<=len):pV 1 (.sl id off len (.un 1)) none (some (.int k hi)) none=some (.sl id off hi.toNat (.un 1)):=by
 simp only[pV,mQ];rw[aS ⟨f,d⟩];simp only[if_true]
 by_cases c:0<len
 .rw[aS c];simp
 .rw[aQ c]
  have:hi.toNat=0:=om
  simp [this]
theorem WN {len c:Nat}{hi:Int}(f:0<=hi)(d:hi<=c):pV 1 (.sl id off len (.kn c)) none (some (.int k hi)) none=some (.sl id off hi.toNat (.kn c)):=by
 simp only[pV,mQ];rw[aS ⟨f,d⟩];simp
theorem VN:pV 1 .aH none (some (.int k 0)) none=some .aH:=by
 simp [pV,mQ]
theorem SV.cT (s:SV h v sz ws):v.cells= [v]/\v.one=true/\ ∀k n,v≠ .int k n:=by
 rcases s with ⟨rfl|⟨a,rfl⟩,_⟩|⟨id,off,len,c,ro,d,rfl,_⟩
 .exact⟨rfl,rfl,λk n h=>by cases h⟩
 .exact⟨rfl,rfl,λk n h=>by cases h⟩
 .exact⟨rfl,rfl,λk n h=>by cases h⟩
theorem SI.other (s:SI h v l)(m:l≠ []){P:Nat}(B:h.get P=some (.cells ro ws))(q:(i:Nat)->(w:V)->ws[i]? =some w-> ∀k n,w≠ .int k n)(o:Option Ob):SI (h.set P o) v l:=by
 rcases s with ⟨_,F⟩|⟨id,off,len,f,c,r,z,t,G,d,A,j⟩
 .exact absurd (Xx (F.trans QL.symm)) m
 .by_cases e:id=P
  .subst e
   rw[B] at d;cases d
   cases l with
   |nil=>exact absurd rfl m
   |cons a l=>
    have:((ws.drop off).take (len*1))[0]? =some (.int .i64 a):=by rw[j];rfl
    rw[List.getElem?_take] at this;split at this
    .rw[List.getElem?_drop] at this
     exact absurd rfl (q _ _ this _ _)
    .cases this
  .exact .inr ⟨id,off,len,f,c,r,z,t,G,by rw[H.Cj h e];exact d,A,j⟩
def NI (v u:V):Prop:= ∀i o n c,v= .sl i o n c-> ∀i' o' n' c',u= .sl i' o' n' c'->i≠i'
theorem dF.uY (x:dF h v sz ws b)(y:dF h' u sz us h.next):NI v u:=by
 intro i o n c e G B w A d;rcases x with ⟨j,_⟩|⟨id,k,t,r,j,_,_,_,z,_⟩
 .rw[j] at e;cases e
 .rw[j] at e;cases e
  rcases y with ⟨f,_⟩|⟨s,J,q,m,f,_,_,F,_⟩
  .rw[f] at d;cases d
  .rw[f] at d;cases d
   omega
theorem dF.set {P:Nat}(x:dF h v sz ws b)(d:P<b)(o:Option Ob):dF (h.set P o) v sz ws b:=
 x.mono (dN _) λid _ _ _ _ c _=>H.Cj h om o
theorem uB {α:Type}(l:List α)(i k:Nat)(x d:α):(l.set i x).getD k d=if i=k then (if i<l.length then x else d) else l.getD k d:=by
 rw[gV,List.getElem?_set,gV]
 by_cases h:i=k
 .rw[aS h,aS h]
  by_cases c:i<l.length
  .rw[aS om,aS c];rfl
  .rw[aQ om,aQ c];rfl
 .rw[aQ h,aQ h]
theorem Wx {z1 z2:V}(i:v.cells= [v])(d:v.one=true)(f:u.cells= [u])(c:u.one=true):mP [z1,z2] [(0,1,v),(1,1,u)]=some (.agg [v,u]):=by
 have e1:putAt [z1,z2] 0 [v]=some [v,z2]:=by simp [putAt]
 have e2:putAt [v,z2] 1 [u]=some [v,u]:=by simp [putAt]
 simp only[mP,fP,i,f,List.length_singleton,List.all_cons,List.all_nil,d,c,Bool.and_self,and_self,if_true,e1,e2,Option.map_some]
theorem SG (z:List V):mP z []=some (.agg z):=rfl
theorem oS (h:H)(c:v.one=true)(d:u.one=true):mT h (.agg [v,u])=some (.ptr h.next 0,h.new (.cells false [v,u])):=rI h _ (by simp [c,d])
theorem nU (h:H)(id off:Nat)(c:v.one=true)(d:u.one=true):HO h 2 (.ptr id off) (.agg [v,u])=dY (h.get id) h id off [v,u]:=yX h id off 2 _ rfl (by simp [c,d])
theorem Ea (h:H)(id:Nat):dY (some (.cells false [x,y])) h id 0 [v,u]=some (h.set id (some (.cells false [v,u]))):=by
 simp [dY,putAt]
theorem jH (c:h.get id=some (.cells ro [v,u])):h.row id 0 2=some [v,u]:=by
 simp [H.row,c,sub]
def okE (h:H)(j:I)(v:V):Bool:=match dI (xv [] []) h j with|some (u,_)=>dS u v|none=>false
theorem CQ (cks:List Nat)(k:Nat)(j:I)(v:V)(c:Log)(h:H):oI cks ((k,j,v)::c) h=((!cks.contains k||okE h j v)&&oI cks c h):=rfl
theorem Vp (cks:List Nat)(h:H):oI cks [] h=true:=rfl
def okV (o:Option V)(v:V):Bool:=match o with|some u=>dS u v|none=>false
theorem QE (u v:V):okV (some u) v=dS u v:=rfl
theorem abN (h:H)(x v:V):okE h (.ld false 1 (.c x)) v=okV (Ly h x) v:=by
 unfold okE;rw[Rw,ajV];cases Ly h x<;>rfl
theorem acJ (h:H)(n:Nat)(x v:V):okE h (.ld true n (.c x)) v=okV (CB h n x) v:=by
 unfold okE;rw[GW,ajV];cases CB h n x<;>rfl
theorem Sd (k:IntKind)(a:Int):dS (.int k a) (.int k a)=true:=by simp [dS]
theorem RN (a:Bool):dS (.bool a) (.bool a)=true:=by simp [dS]
theorem ZL (a b:Nat):dS (.ptr a b) (.ptr a b)=true:=by simp [dS]
theorem HS (a b:List V):dS (.agg a) (.agg b)=qE a b:=by simp [dS]
theorem Za:qE [] []=true:=by simp [qE]
theorem Nx (a b:V)(c d:List V):qE (a::c) (b::d)=(dS a b&&qE c d):=by simp [qE]
theorem SV.dS {h:H}{v:V}{sz:Nat}{ws:List V}(s:SV h v sz ws):dS v v=true:=by
 rcases s with ⟨rfl|⟨a,rfl⟩,_⟩|⟨id,off,len,c,ro,d,rfl,_⟩<;>simp [Ay.dS]
theorem aaZ (i:Nat)(d:D)(g:Option (X×Bool))(j:I)(al:Bool)(cks:List Nat)(c:List V)(v:V)(f:Log):Dp ⟨i,⟨d,g,.op j⟩,al,cks⟩ c v f=if j.qG then (i,j.close (xv c []),v)::f else f:=rfl
theorem OW (i:Nat)(d:D)(g:Option (X×Bool))(f:Nat)(xs:List X)(al:Bool)(cks:List Nat)(j:List V)(v:V)(c:Log):Dp ⟨i,⟨d,g,.call f xs⟩,al,cks⟩ j v c=c:=rfl
theorem BH (i:Nat)(d:D)(g:Option (X×Bool))(f:X)(xs:List X)(al:Bool)(cks:List Nat)(j:List V)(v:V)(c:Log):Dp ⟨i,⟨d,g,.callv f xs⟩,al,cks⟩ j v c=c:=rfl
theorem CX (i:Nat)(d:D)(g:Option (X×Bool))(f t:Nat)(x:X)(xs:List X)(al:Bool)(cks:List Nat)(j:List V)(v:V)(c:Log):Dp ⟨i,⟨d,g,.calli f t x xs⟩,al,cks⟩ j v c=c:=rfl
attribute [go_sem] CX CQ Vp QE abN acJ Sd RN ZL HS Za Nx aaZ OW BH I.qG I.close List.contains_cons List.contains_nil Nat.reduceBEq Bool.or_false Bool.false_or Bool.or_true Bool.true_or Bool.and_true Bool.true_and
def afV (o:Option (V×H))(m:Nat):Option (V×H):=match o with|some (v,h')=>some (v,H.mk h'.tr m)|none=>none
theorem adL (c:List V)(h:H)(n:Nat)(i:I):Ng c h n (.op i)=afV (dI (xv c []) (H.mk h.tr n) i) h.next:=rfl
theorem AG (v:V)(h':H)(m:Nat):afV (some (v,h')) m=some (v,H.mk h'.tr m):=rfl
attribute [go_sem] adL AG
def akT (l:List V):Nat->V:=λi=>l.getD i .undef
theorem aD {L:List V}{F:(Nat->V)->List V}(h:L=F (akT L)): ∃g,L=F g:=⟨akT L,h⟩
theorem Fl {l:List Int}{off:Nat}(c:off<l.length)(h:H)(id:Nat)(x:Int):dY (some (.cells false (ints l))) h id off [.int .i64 x]=some (h.set id (some (.cells false (ints (l.set off x))))):=by
 rw[bE (by rw[aE];exact c),ints_set]
attribute [go_sem] Mc Int.toNat_zero Int.toNat_one Nat.add_zero Nat.zero_add
attribute [go_sem] SG Ea List.getElem?_cons_zero List.getElem?_cons_succ List.getElem?_nil
attribute [go_sem] abI ZQ WC Dw Mf
attribute [go_sem] Fl aE ints_set iH qT RG jP Nat.mul_zero
theorem Qn:({a:Type}->(l:List a)->(i:Nat)->(x:a)->(l.set i x).length=l.length)/\({a:Type}->(n:Nat)->(x:a)->(List.replicate n x).length=n)/\({a:Type}->(l m:List a)->(l++m).length=l.length+m.length)/\({a:Type}->(i:Nat)->(l:List a)->(l.take i).length=min i l.length)/\({a:Type}->(i:Nat)->(l:List a)->(l.drop i).length=l.length-i)/\({a:Type}->(x:a)->(l:List a)->(x::l).length=l.length+1)/\({a:Type}->([]:List a).length=0)/\({a b:Type}->(f:a->b)->(l:List a)->(l.map f).length=l.length)/\(∀n:Nat,(List.range n).length=n)/\(∀l:List Int,(ints l).length=l.length):=
 ⟨λ_ _ _=>List.length_set ..,λ_ _=>List.length_replicate ..,λ_ _=>eE ..,λ_ _=>jG ..,λ_ _=>jR ..,λ_ _=>rfl,rfl,λ_ _=>dO ..,λ_=>gT ..,λ_=>aE _⟩
end
end Go.Ay
namespace Go.Pm
section
variable {i:Nat} {x:List Nat}
abbrev wG:=List (List Nat)
abbrev VK:=List (List (List Nat))
theorem oq {p:Prop}(h:p:=by omega):p:=h
structure bJ (n:Nat)(a:List Nat):Prop where
 len:a.length=n
 nd:a.Nodup
 lt: ∀x∈a,x<n
abbrev at' (a:List Nat)(i:Nat):Nat:=a.getD i 0
def aZ (a b:List Nat):List Nat:=a.map λp=>b.getD p 0
def bI (n:Nat):List Nat:=List.range n
def bY (a:List Nat):List Nat:=(List.range a.length).map λj=>a.idxOf j
theorem cM {a:List Nat}(h:i<a.length):a.getD i 0=a[i]:=by simp [List.getD,h]
theorem rL {a b:List Nat}(d:a.length=b.length)(h: ∀i,i<a.length->a.getD i 0=b.getD i 0):a=b:=by
 refine List.ext_getElem d λi c f=>?_
 have:=h i c;rwa [cM c,cM f] at this
section
variable {n:Nat} {a b c:List Nat}
theorem bJ.eJ (A:bJ n a)(hi:i<n):a.getD i 0<n:=by
 have h:i<a.length:=by rw[A.len];exact hi
 rw[cM h];exact A.lt _ (List.getElem_mem h)
theorem bJ.inj (A:bJ n a){j:Nat}(hi:i<n)(k:j<n)(h:a.getD i 0=a.getD j 0):i=j:=by
 have d:i<a.length:=by rw[A.len];exact hi
 have f:j<a.length:=by rw[A.len];exact k
 rw[cM d,cM f] at h;have e1:=A.nd.idxOf_getElem i d;have e2:=A.nd.idxOf_getElem j f;rw[h] at e1;exact e1.symm.trans e2
theorem bJ.Sf (f:a.length=n)(k: ∀i,i<n->a.getD i 0<n)(h2: ∀i j,i<n->j<n->a.getD i 0=a.getD j 0->i=j):bJ n a:=by
 refine⟨f,?_,λx l=>?_⟩
 .rw[List.nodup_iff_pairwise_ne,List.pairwise_iff_getElem]
  intro i j hi d h e;have:=h2 i j oq oq (by rw[cM hi,cM d];exact e);omega
 .obtain⟨i,hi,rfl⟩:=List.mem_iff_getElem.1 l
  have:=k i oq;rwa [cM hi] at this
theorem bJ.mem (A:bJ n a){p:Nat}(h:p<n):p∈a:=by
 refine Classical.byContradiction λk=>?_
 have d:(p::a).Nodup:=List.nodup_cons.2 ⟨k,A.nd⟩
 have j:(p::a) ⊆ List.range n:=λx f=>by
  rcases List.mem_cons.1 f with rfl|f
  .exact List.mem_range.2 h
  .exact List.mem_range.2 (A.lt x f)
 have:=List.Nodup.length_le_of_subset d j;have l:=A.len;simp only[List.length_cons,List.length_range] at this;omega
theorem bJ.idx (A:bJ n a){p:Nat}(d:p<n):a.idxOf p<n/\a.getD (a.idxOf p) 0=p:=by
 have h:=List.idxOf_lt_length_iff.2 (A.mem d);refine⟨by rw[<-A.len];exact h,?_⟩;rw[cM h,List.getElem_idxOf]
theorem eY (a b:List Nat):(aZ a b).length=a.length:=by simp [aZ]
theorem dA (hi:i<a.length):(aZ a b).getD i 0=b.getD (a.getD i 0) 0:=by
 have h:i<(aZ a b).length:=by rw[eY];exact hi
 rw[cM h,cM hi];simp [aZ]
theorem iF (n:Nat):(bI n).length=n:=by simp [bI]
theorem eG {n:Nat}(hi:i<n):(bI n).getD i 0=i:=by
 have h:i<(bI n).length:=by rw[iF];exact hi
 rw[cM h];simp [bI]
theorem iX (a:List Nat):(bY a).length=a.length:=by simp [bY]
theorem oX (hi:i<a.length):(bY a).getD i 0=a.idxOf i:=by
 have h:i<(bY a).length:=by rw[iX];exact hi
 rw[cM h];simp [bY]
theorem bJ.one (n:Nat):bJ n (bI n):=⟨iF n,List.nodup_range,λx d=>List.mem_range.1 d⟩
theorem bJ.mul (A:bJ n a)(B:bJ n b):bJ n (aZ a b):=by
 refine bJ.Sf (by rw[eY,A.len]) (λi hi=>?_) (λi j hi d h=>?_)
 .rw[dA (by rw[A.len];exact hi)];exact B.eJ (A.eJ hi)
 .rw[dA (by rw[A.len];exact hi),dA (by rw[A.len];exact d)] at h
  exact A.inj hi d (B.inj (A.eJ hi) (A.eJ d) h)
theorem bJ.inv (A:bJ n a):bJ n (bY a):=by
 refine bJ.Sf (by rw[iX,A.len]) (λi hi=>?_) (λi j hi d h=>?_)
 .rw[oX (by rw[A.len];exact hi)];exact (A.idx hi).1
 .rw[oX (by rw[A.len];exact hi),oX (by rw[A.len];exact d)] at h
  rw[<-(A.idx hi).2,<-(A.idx d).2,h]
theorem aX (A:bJ n a)(B:bJ n b)(C:bJ n c):aZ (aZ a b) c=aZ a (aZ b c):=by
 refine rL (by simp only[eY]) λi hi=>?_
 rw[eY,eY] at hi;have d:i<n:=by rw[<-A.len];exact hi
 rw[dA (by rw[eY];exact hi),dA hi,dA hi,dA (by rw[B.len];exact A.eJ d)]
theorem cH (A:bJ n a):aZ a (bI n)=a:=by
 refine rL (eY _ _) λi hi=>?_
 rw[eY] at hi;rw[dA hi,eG (A.eJ (by rw[<-A.len];exact hi))]
theorem dK (A:bJ n a):aZ (bI n) a=a:=by
 refine rL (by rw[eY,iF,A.len]) λi hi=>?_
 rw[eY,iF] at hi;rw[dA (by rw[iF];exact hi),eG hi]
theorem fH (A:bJ n a):aZ a (bY a)=bI n:=by
 refine rL (by rw[eY,iF,A.len]) λi hi=>?_
 rw[eY] at hi;have d:i<n:=by rw[<-A.len];exact hi
 rw[dA hi,eG d,oX (by rw[A.len];exact A.eJ d)];exact A.inj ((A.idx (A.eJ d)).1) d ((A.idx (A.eJ d)).2)
theorem dX (A:bJ n a):aZ (bY a) a=bI n:=by
 refine rL (by rw[eY,iF,iX,A.len]) λi hi=>?_
 rw[eY,iX] at hi;have d:i<n:=by rw[<-A.len];exact hi
 rw[dA (by rw[iX];exact hi),eG d,oX hi];exact (A.idx d).2
theorem xT (n:Nat):bY (bI n)=bI n:=by
 have:=fH (bJ.one n);rwa [dK (bJ.one n).inv] at this
theorem uU (A:bJ n a)(B:bJ n b)(C:bJ n c)(h:aZ a c=aZ b c):a=b:=by
 have:=congrArg (λx=>aZ x (bY c)) h
 try simp only at this
 rwa [aX A C C.inv,aX B C C.inv,fH C,cH A,cH B] at this
theorem sT (A:bJ n a)(B:bJ n b)(C:bJ n c)(h:aZ c a=aZ c b):a=b:=by
 have:=congrArg (λx=>aZ (bY c) x) h
 try simp only at this
 rwa [<-aX C.inv C A,<-aX C.inv C B,dX C,dK A,dK B] at this
theorem Jt (A:bJ n a)(B:bJ n b):bY (aZ a b)=aZ (bY b) (bY a):=by
 refine sT (A.mul B).inv (B.inv.mul A.inv) (A.mul B) ?_;rw[fH (A.mul B),aX A B (B.inv.mul A.inv),<-aX B B.inv A.inv,fH B,dK A.inv,fH A]
theorem uG (A:bJ n a):bY (bY a)=a:=by
 refine sT A.inv.inv A A.inv ?_;rw[fH A.inv,dX A]
theorem rO (A:bJ n a)(hi:i<n):(bY a).getD (a.getD i 0) 0=i:=by
 have:=congrArg (λx=>x.getD i 0) (fH A)
 try simp only at this
 rwa [dA (by rw[A.len];exact hi),eG hi] at this
theorem ahG (A:bJ n a)(hi:i<n):a.getD ((bY a).getD i 0) 0=i:=by
 have:=congrArg (λx=>x.getD i 0) (dX A)
 try simp only at this
 rwa [dA (by rw[iX,A.len];exact hi),eG hi] at this
structure oK (n:Nat)(G:List Nat->Prop):Prop where
 cF: ∀{x},G x->bJ n x
 one:G (bI n)
 mul: ∀{x y},G x->G y->G (aZ x y)
 inv: ∀{x},G x->G (bY x)
def pw (n:Nat)(x:List Nat):Nat->List Nat
 |0=>bI n
 |k+1=>aZ (pw n x k) x
theorem jW (A:bJ n a): ∀k,bJ n (pw n a k)
 |0=>bJ.one n
 |k+1=>(jW A k).mul A
theorem Rq (A:bJ n a)(i:Nat): ∀j,pw n a (i+j)=aZ (pw n a i) (pw n a j)
 |0=>(cH (jW A i)).symm
 |j+1=>by
  show aZ (pw n a (i+j)) a=aZ (pw n a i) (aZ (pw n a j) a);rw[Rq A i j,aX (jW A i) (jW A j) A]
def wV (n:Nat):Nat->wG
 |0=> [[]]
 |k+1=>(List.range n).flatMap λx=>(wV n k).map (x:: ·)
theorem Lz (n:Nat): ∀k,(wV n k).length=n^k
 |0=>rfl
 |k+1=>by
  simp only[wV,List.length_flatMap,List.length_map,Lz n k]
  have: ∀m c:Nat,((List.range m).map λ_=>c).sum=m*c:=by
   intro m c
   induction m with
   |zero=>simp
   |succ m ih=>rw[List.range_succ,List.map_append,List.sum_append,ih];simp [Nat.succ_mul]
  rw[this,Nat.pow_succ,Nat.mul_comm]
theorem qY (n:Nat):(k:Nat)->(l:List Nat)->l.length=k->(∀x∈l,x<n)->l∈wV n k
 |0, [],_,_=>by simp [wV]
 |0,_::_,h,_=>by simp at h
 |k+1, [],h,_=>by simp at h
 |k+1,x::l,h,hx=>by
  simp only[wV,List.mem_flatMap,List.mem_map];exact⟨x,List.mem_range.2 (hx x (by simp)),l,qY n k l (by simpa using h) (λy d=>hx y (by simp [d])),rfl⟩
theorem bJ.qY (A:bJ n a):a∈wV n n:=Go.Pm.qY n n a A.len A.lt
theorem Xg {l:wG}(f:l.Nodup)(d: ∀x∈l,bJ n x):l.length<=n^n:=by
 rw[<-Lz n n];exact List.Nodup.length_le_of_subset f λx h=>(d x h).qY
theorem Uh (A:bJ n a): ∃k,0<k/\k<=n^n/\pw n a k=bI n:=by
 have h: ∃i j,i<j/\j<=n^n/\pw n a i=pw n a j:=by
  refine Classical.byContradiction λo=>?_
  have f:((List.range (n^n+1)).map (pw n a)).Nodup:=by
   rw[List.nodup_iff_pairwise_ne,List.pairwise_iff_getElem];intro i j hi l d e;simp only[List.length_map,List.length_range] at hi l;simp only[List.getElem_map,List.getElem_range] at e;exact o ⟨i,j,d,oq,e⟩
  have:=Xg f (n:=n) (λx m=>by
   obtain⟨i,_,rfl⟩:=List.mem_map.1 m
   exact jW A i)
  simp only[List.length_map,List.length_range] at this;omega
 have⟨i,j,d,l,e⟩:=h;refine⟨j-i,oq,oq,?_⟩;have e2:pw n a j=aZ (pw n a i) (pw n a (j-i)):=by rw[<-Rq A,show i+(j-i)=j from oq]
 refine sT (jW A (j-i)) (bJ.one n) (jW A i) ?_;rw[<-e2,cH (jW A i),e]
inductive fG (n:Nat) (L:List Nat->Prop):List Nat->Prop where
 |one:fG n L (bI n)
 |mul {x g:List Nat}:fG n L x->L g->fG n L (aZ x g)
variable {L M:List Nat->Prop}
theorem fG.cF (d: ∀g,L g->bJ n g)(h:fG n L x):bJ n x:=by
 induction h with
 |one=>exact bJ.one n
 |mul _ hg ih=>exact ih.mul (d _ hg)
theorem fG.of (d: ∀g,L g->bJ n g){g:List Nat}(h:L g):fG n L g:=by
 have:=fG.mul (n:=n) fG.one h;rwa [dK (d g h)] at this
theorem fG.app (d: ∀g,L g->bJ n g){y:List Nat}(h:fG n L x)(f:fG n L y):fG n L (aZ x y):=by
 induction f with
 |one=>rwa [cH (h.cF d)]
 |mul f hg ih=>rw[<-aX (h.cF d) (f.cF d) (d _ hg)];exact ih.mul hg
theorem fG.pow (d: ∀g,L g->bJ n g)(f:fG n L x): ∀k,fG n L (pw n x k)
 |0=> .one
 |k+1=>(fG.pow d f k).app d f
theorem fG.inv (d: ∀g,L g->bJ n g)(f:fG n L x):fG n L (bY x):=by
 have A:=f.cF d;obtain⟨k,j,_,h⟩:=Uh A
 have e:bY x=pw n x (k- 1):=by
  refine uU A.inv (jW A _) A ?_;rw[dX A];show _=pw n x (k- 1+1);rw[show k- 1+1=k from oq,h]
 rw[e];exact f.pow d _
theorem fG.kT (d: ∀g,L g->bJ n g):oK n (fG n L):=⟨λh=>h.cF d,.one,λh k=>h.app d k,λh=>h.inv d⟩
theorem fG.le {G:List Nat->Prop}(d:oK n G)(h: ∀g,L g->G g)(f:fG n L x):G x:=by
 induction f with
 |one=>exact d.one
 |mul _ hg ih=>exact d.mul ih (h _ hg)
theorem fG.mono (h: ∀g,L g->M g)(d:fG n L x):fG n M x:=by
 induction d with
 |one=>exact .one
 |mul _ hg ih=>exact ih.mul (h _ hg)
end
end
end Go.Pm
namespace Go.Ay
open Go
section
variable {N i:Nat} {g:Nat->V}
section
variable (ρ:X->V) (h:H)
theorem abM (n sz:Nat)(x i:X):dI ρ h (.ixd n sz x i)=(RE n sz (ρ x) (ρ i)).map (·,h):=rfl
theorem YU {n sz id off:Nat}{k:IntKind}{z:Int}(b:0<=z)(a:z<(n:Int)):RE n sz (.ptr id off) (.int k z)=some (.ptr id (off+z.toNat*sz)):=by
 simp only[RE];rw[aS ⟨b,a⟩]
theorem aaG (x:X):dI ρ h (.cvs x)=(RQ h (ρ x)).map (·,h):=rfl
theorem aeL (t:Nat)(x:X):dI ρ h (.mif t x)=some (.ifc t (ρ x),h):=rfl
theorem adF (a:vF)(r:Option X):dI ρ h (.mkw a r)=if Lb (r.map ρ)=true then some (.mp h.next,h.new (.wmap a [])) else none:=rfl
theorem Yn:Lb none=true:=rfl
theorem BA (k:IntKind)(n:Int):Lb (some (.int k n))=true:=rfl
def ZF (x i:V):Option V:=match x,i with
 | .str l,.int _ z=>if 0<=z then (l[z.toNat]?).map (λ(c:Nat)=>V.int .u8 ((c%256:Nat):Int)) else none
 |_,_=>none
theorem HI (x i:X):dI ρ h (.six x i)=(ZF (ρ x) (ρ i)).map (·,h):=by
 simp only[dI,ZF];cases ρ x<;>cases ρ i<;>try rfl
 simp only;split
 .simp only[Option.map_map];rfl
 .rfl
theorem MK (k:IntKind)(a b:Int):arith .and k a b=some (.int k (k.wrap (BitVec.ofInt k.bits a&&&BitVec.ofInt k.bits b).toNat)):=rfl
end
attribute [go_sem] ME CD abM YU aeL adF Yn BA
def rc (N:Nat)(g:Nat->V):List V:=(List.range N).map g
theorem dE (N:Nat)(g:Nat->V):(rc N g).length=N:=by simp [rc]
theorem yA (hi:i<N):(rc N g)[i]? =some (g i):=by
 unfold rc;rw[Al,List.getElem?_range hi];rfl
theorem iQ (N:Nat)(g:Nat->V)(k:Nat)(x:V):(rc N g).set k x=rc N λj=>if j=k then x else g j:=by
 unfold rc;refine List.ext_getElem siM λi _ _=>?_
 rw[List.getElem_set,List.getElem_map,List.getElem_map,List.getElem_range]
 by_cases e:k=i
 .rw[aS e,aS e.symm]
 .rw[aQ e,aQ (Ne.symm e)]
theorem bW {f:Nat->V}(h: ∀i,i<N->f i=g i):rc N f=rc N g:=Nt λi hi=>h i (mS.1 hi)
theorem vD {h:H}{S:Nat}(a:h.get S=some (.cells false (rc N g)))(hi:i<N):h.cell S i=some (g i):=by
 rw[H.cell_of a,yA hi]
theorem Dg {l:List V}(a:l.length=N)(h: ∀i,i<N->l[i]? =some (g i)):rc N g=l:=by
 refine List.ext_getElem? λi=>?_
 by_cases hi:i<N
 .rw[yA hi,h i hi]
 .rw[List.getElem?_eq_none (by rw[dE];omega),List.getElem?_eq_none om]
def zi (l:List Nat):List Int:=l.map λ(k:Nat)=>(k:Int)
theorem bD (l:List Nat):(zi l).length=l.length:=by simp [zi]
theorem Ax {l:List Nat}(hi:i<l.length):(ints (zi l))[i]? =some (.int .i64 ((l.getD i 0:Nat):Int)):=by
 rw[Pm.cM hi];simp [ints,zi,hi]
theorem Pe (l:List Nat):rc l.length (λi=> .int .i64 ((l.getD i 0:Nat):Int))=ints (zi l):=
 Dg (by rw[aE,bD]) λ_ hi=>Ax hi
structure Ya (h h':H)(v:V)(l:List Nat):Prop where
 val:v= .sl h.next 0 l.length (.kn l.length)
 get:h'.get h.next=some (.cells false (ints (zi l)))
 next:h'.next=h.next+1
 fr:Fr h h'
end
end Go.Ay
namespace Go.Ay
def idx (t:Nat):List Nat->Option Nat
 | []=>none
 |s::r=>if s=t then some 0 else (idx t r).map (· +1)
def Gt:Value->Option V
 | .int k n=>some (.int k n)
 | .bool b=>some (.bool b)
 | .pointer none=>some .nilp
 | .slice none 0 0=>some .aH
 | .map none=>some .nilm
 | .nilFunc=>some .nilf
 | .string s=>some (.str (s.data.toList.map UInt8.toNat))
 | .func (.func f) first captured=>if first.isEmpty&&captured.isEmpty then some (.fn f [] []) else none
 |_=>none
def Px:Value->Option V
 | .agg cs=>(dB (cs.toList.map Gt)).map .agg
 | .tuple cs=>if cs.isEmpty then some (.tup []) else none
 |v=>Gt v
def fS (pv defs:List Nat):Operand->Option X
 | .tmp t=>match idx t defs with
  |some i=>some (.l i)
  |none=>(idx t pv).map .v
 | .const v=>(Px v).map .c
 | .func f=>some (.c (.fn f [] []))
 | .global _=>none
def rU (pv defs:List Nat)(xs:List Operand):Option (List X):=dB (xs.map (fS pv defs))
def Af (pv defs:List Nat):Option Operand->Option (Option X)
 |none=>some none
 |some x=>(fS pv defs x).map some
section
variable (P:Program)
def Pt (t:TypeId):Option Bool:=(P.underlying t).map fun| .struct _| .array _ _=>true|_=>false
def iZ (t:TypeId):Option Nat:=(P.info? t).map (·.size)
def wT (t:TypeId):Option Nat:=(P.info? t).map (·.bytes)
def afY:V->Bool
 | .tup _=>false
 |_=>true
def kX (t:TypeId):Option V:=(((P.info? t).bind (·.zero)).bind Px).filter afY
def ldN (t:TypeId):Option (Bool×Nat):=
 match Pt P t with
 |some true=>(iZ P t).map λn=>(true,n)
 |some false=>some (false,1)
 |none=>none
def By (t:TypeId):Option TypeId:=match P.underlying t with|some (.slice e)=>some e|_=>none
def Zx (e:TypeId)(s:Nat):Bool:=((P.info? e).bind (·.zero)).any λz=>z.cells.size==s
def Tp (t:TypeId)(f:Nat):Option Field:=match P.underlying t with|some (.struct fs)=>fs[f]? |_=>none
def enters (f:Nat):Bool:=(P.funcs[f]?).any λfn=>fn.body.isSome&&fn.name != "runtime.NumGoroutine"
def xX (fs:Array Field):Option (List (Nat×Nat)):=fs.toList.mapM λf=>(P.info? f.type).map λi=>(f.offset,i.size)
def ajO (t:TypeId)(parts:List (Nat×X)):Option (List (Nat×Nat×X)):=
 match P.underlying t with
 |some (.struct fs)=>match xX P fs with
  |some ps=>dB (parts.map λp=>((ps[p.1]?).map λq=>(q.1,q.2,p.2)))
  |none=>none
 |some (.array _ e)=>(iZ P e).map λs=>parts.map λp=>(p.1*s,s,p.2)
 |_=>none
def isInt (t:TypeId):Option IntKind:=match P.underlying t with|some (.int k)=>some k|_=>none
def Ka (kt:TypeId):Option vF:=
 match P.underlying kt with
 |some .string=>some .str
 |some (.array n e)=>match P.underlying e with
  |some (.int k)=>if P.cellsOf e=1/\P.cellsOf kt=n/\0<P.types.size then some (.arr n k) else none
  |_=>none
 |_=>none
def BO (name:String)(t:TypeId):Option Nat:=
 match (P.info? t).bind λi=>i.methods.find? (·.name==name) with
 |some r=>match r.path.toList,r.func,P.underlying t with
  | [],some (f,false),some d=>match d with
   | .pointer _=>none
   |_=>if enters P f then some f else none
  |_,_,_=>none
 |none=>none
def Mm (name:String):List Nat->Option (Nat×Nat)
 | []=>none
 |t::ts=>match BO P name t with
  |some f=>some (t,f)
  |none=>Mm name ts
def rR (pv defs:List Nat)(c:Call)(type:TypeId):Option dU:=
 match c.callee with
 | .value (.func f)=>if enters P f then (rU pv defs c.args.toList).map (.call f) else none
 | .value x=>do some (.callv (←fS pv defs x) (←rU pv defs c.args.toList))
 | .invoke r name=>match Mm P name (List.range P.types.size) with
  |some q=>do some (.calli q.2 q.1 (←fS pv defs r) (←rU pv defs c.args.toList))
  |none=>none
 | .builtin .len=>
  match c.args.toList,c.argTypes.toList with
  | [x], [t]=>match P.underlying t with
   |some (.slice _)=>(fS pv defs x).map λx=> .op (.lens x)
   |some (.map _ _)=>(fS pv defs x).map λx=> .op (.lenm x)
   |_=>none
  |_,_=>none
 | .builtin .cap=>
  match c.args.toList,c.argTypes.toList with
  | [x], [t]=>match P.underlying t with
   |some (.slice _)=>(fS pv defs x).map λx=> .op (.caps x)
   |_=>none
  |_,_=>none
 | .builtin .min=>(rU pv defs c.args.toList).map λxs=> .op (.mm false xs)
 | .builtin .max=>(rU pv defs c.args.toList).map λxs=> .op (.mm true xs)
 | .builtin .append=>
  match c.args.toList,c.argTypes.toList with
  | [x,y], [t,u]=>do
   let e ←By P t
   let s ←iZ P e
   if s=0\/Zx P e s=false then none else
   match P.underlying u with
   |some (.slice _)=>some (.op (.app s (←wT P e) (←fS pv defs x) (←fS pv defs y)))
   |some (.int _)=>some (.op (.apz s (←wT P e) (←kX P e).cells (←fS pv defs x) (←fS pv defs y)))
   |_=>none
  |_,_=>none
 | .builtin .clear=>
  match c.args.toList,c.argTypes.toList with
  | [x], [t]=>do
   let e ←By P t
   let s ←iZ P e
   if s=0\/Zx P e s=false then none else
   some (.op (.clr s (←kX P e).cells (←fS pv defs x)))
  |_,_=>none
 | .builtin .copy=>
  match c.args.toList,c.argTypes.toList with
  | [x,y], [t,_]=>do
   let e ←By P t
   let s ←iZ P e
   if s=0 then none else
   some (.op (.cpy s (←fS pv defs x) (←fS pv defs y)))
  |_,_=>none
 |_=>let _:=type;none
def vT (pv defs:List Nat)(o:Oper):Option dU:=
 let cx:=fS pv defs
 match o.op with
 | .move x| .assign x=>(cx x).map λx=> .op (.mov x)
 | .pick c a b=>do some (.op (.pick (←cx c) (←cx a) (←cx b)))
 | .alloc e=>do some (.op (.alc (←kX P e).cells))
 | .box _ x=>(cx x).map λx=> .op (.box x)
 | .build t parts=>do
  let ps ←dB (parts.toList.map λp=>(cx p.2).map λx=>(p.1,x))
  some (.op (.bld (←kX P t).cells (←ajO P t ps)))
 | .buildSlice t n parts=>do
  let e ←By P t
  let s ←iZ P e
  if s=0\/n*s>2^24\/Zx P e s=false then none else
  let ps ←dB (parts.toList.map λp=>(cx p.2).map λx=>(p.1*s,s,x))
  some (.op (.bls s (←kX P e).cells n ps))
 | .load t x=>match ldN P t with
  |some q=>(cx x).map λx=> .op (.ld q.1 q.2 x)
  |none=>none
 | .store t x y=>do some (.op (.st (←iZ P t) (←cx x) (←cx y)))
 | .nilCheck x=>(cx x).map λx=> .op (.nck x)
 | .binOp op t x y _=>
  match op with
  | .shl| .shr=>do some (.op (.Hx op (←isInt P t) (←cx x) (←cx y)))
  | .eql| .neq=>
   match P.underlying t with
   |some (.int k)=>do some (.op (.bin op k (←cx x) (←cx y)))
   |some .bool=>do some (.op (.beq (op matches .neq) (←cx x) (←cx y)))
   |some .string=>do some (.op (.seq (op matches .neq) (←cx x) (←cx y)))
   |some (.slice _)=>match y with
    | .const (.slice none 0 0)=>do some (.op (.snil (op matches .neq) (←cx x)))
    |_=>none
   |_=>none
  | .andNot=>none
  | .add=>match P.underlying t with
   |some .string=>do some (.op (.sad (←cx x) (←cx y)))
   |_=>do some (.op (.bin .add (←isInt P t) (←cx x) (←cx y)))
  |_=>do some (.op (.bin op (←isInt P t) (←cx x) (←cx y)))
 | .unOp op t x=>
  match op with
  | .not=>(cx x).map λx=> .op (.not x)
  | .neg=>do some (.op (.neg (←isInt P t) (←cx x)))
  |_=>none
 | .convert s d x=>match P.underlying s,P.underlying d with
  |some (.int _),some (.int k)=>(cx x).map λx=> .op (.conv k x)
  |some (.slice e),some .string=>match P.underlying e with
   |some (.int .u8)=>(cx x).map λx=> .op (.cvs x)
   |_=>none
  |some (.int _),some .string=>(cx x).map λx=> .op (.cir x)
  |_,_=>none
 | .makeFunc (.func f) first cs=>if enters P f then do some (.op (.mkf f (←rU pv defs first.toList) (←rU pv defs cs.toList))) else none
 | .makeMap t r=>match P.underlying t with
  |some (.map kt _)=>match Ka P kt with
   |some sh=>(Af pv defs r).map λr=> .op (.mkw sh r)
   |none=>match r with
    |none=>some (.op .mkm)
    |some _=>none
  |_=>none
 | .makeSlice t l c=>do
  let e ←By P t
  let s ←iZ P e
  if s=0\/Zx P e s=false then none else
  some (.op (.mks s (←wT P e) (←kX P e).cells (←cx l) (←cx c)))
 | .slice t x lo hi mx=>match P.underlying t with
  |some (.array _ _)=>none
  |_=>do
   let e ←By P t
   let s ←iZ P e
   if s=0 then none else
   some (.op (.slc s (←cx x) (←Af pv defs lo) (←Af pv defs hi) (←Af pv defs mx)))
 | .fieldAddr t x f=>do
  let f ←Tp P t f
  if (iZ P f.type).getD 0=0 then none else
  some (.op (.fla f.offset (←cx x)))
 | .field t x f=>do
  let f ←Tp P t f
  some (.op (.part (←Pt P f.type) f.offset (←iZ P f.type) (←cx x)))
 | .indexAddr t x i=>match P.underlying t,i with
  |some (.array n e),.const (.int _ z)=>if 0<=z/\z<n then do
    let s ←iZ P e
    some (.op (.fla (z.toNat*s) (←cx x)))
   else none
  |some (.array n e),i=>do
   let s ←iZ P e
   some (.op (.ixd n s (←cx x) (←cx i)))
  |_,_=>do
   let e ←By P t
   let s ←iZ P e
   some (.op (.ixa s (←cx x) (←cx i)))
 | .lookup t x k ok=>match P.underlying t with
  |some (.map kt et)=>match Ka P kt with
   |some sh=>do some (.op (.lkw sh (←kX P et) ok (←cx x) (←cx k)))
   |none=>do
    let _ ←isInt P kt
    some (.op (.lkp (←kX P et) ok (←cx x) (←cx k)))
  |_=>none
 | .mapUpdate t x k y=>match P.underlying t with
  |some (.map kt _)=>match Ka P kt with
   |some sh=>do some (.op (.msw sh (←cx x) (←cx k) (←cx y)))
   |none=>do
    let _ ←isInt P kt
    some (.op (.mset (←cx x) (←cx k) (←cx y)))
  |_=>none
 | .mapEntry t x k=>match P.underlying t with
  |some (.map kt et)=>match Ka P kt with
   |some sh=>do some (.op (.kH sh (←kX P et) (←cx x) (←cx k)))
   |none=>none
  |_=>none
 | .entryStore _ x k y=>do some (.op (.ens (←cx x) (←cx k) (←cx y)))
 | .index t x i=>match P.underlying t with
  |some .string=>do some (.op (.six (←cx x) (←cx i)))
  |_=>none
 | .extract x i=>(cx x).map λx=> .op (.ext x i)
 | .makeInterface t x=>match P.underlying t,cx x with
  |some (.interface _),_=>some (.op .fail)
  |some _,some x=>some (.op (.mif t x))
  |_,_=>some (.op .fail)
 | .panic _=>some (.op .fail)
 | .call c=>rR P pv defs c o.type
 |_=>none
def agD (pv defs:List Nat)(ops:Array Oper):Option (Nat×Bool)->Option (Option (X×Bool))
 |none=>some none
 |some (j,b)=>match (ops[j]?).bind (·.dst) with
  |some t=>(fS pv defs (.tmp t)).map λx=>some (x,b)
  |none=>none
def agA (nt:Nat)(pv defs:List Nat):Option Tmp->Option (D×List Nat)
 |none=>some (.n,defs)
 |some t=>if t<nt then (match idx t pv with
   |some k=>some (.v k,defs)
   |none=>some (.l,t::defs)) else none
def tM (nt:Nat)(pv defs:List Nat)(ops:Array Oper)(o:Oper):Option (It×List Nat):=
 match vT P pv defs o,agD pv defs ops o.guard,agA nt pv defs o.dst with
 |some a,some g,some d=>some (⟨d.1,g,a⟩,d.2)
 |_,_,_=>none
def Du (nt:Nat)(pv:List Nat)(ops:Array Oper):List Nat->List Nat->Option (List It)
 | [],_=>some []
 |i::r,defs=>
  match ops[i]? with
  |none=>none
  |some o=>
   match tM P nt pv defs ops o with
   |none=>none
   |some (it,defs')=>(Du nt pv ops r defs').map (it:: ·)
end
def X.Ov:X->List Nat
 | .v k=> [k]
 |_=> []
def I.xs:I->List X
 | .mov x| .not x| .neg _ x| .conv _ x| .snil _ x| .part _ _ _ x| .ext x _| .lens x| .lenm x| .caps x| .ld _ _ x| .fla _ x| .box x| .nck x| .cvs x| .mif _ x| .cir x| .clr _ _ x=> [x]
 | .ixd _ _ x y| .six x y| .seq _ x y| .sad x y| .lkw _ _ _ x y| .kH _ _ x y=> [x,y]
 | .mkw _ r=>r.toList
 | .msw _ x k y| .mset x k y| .ens x k y=> [x,k,y]
 | .pick c a b=> [c,a,b]
 | .bin _ _ x y| .Hx _ _ x y| .beq _ x y| .st _ x y| .ixa _ x y| .mks _ _ _ x y| .app _ _ x y| .apz _ _ _ x y| .cpy _ x y| .lkp _ _ x y=> [x,y]
 | .mm _ xs=>xs
 | .slc _ x lo hi mx=>x::(lo.toList++hi.toList++mx.toList)
 | .bld _ ps=>ps.map (·.2.2)
 | .bls _ _ _ ps=>ps.map (·.2.2)
 | .mkf _ fs cs=>fs++cs
 | .alc _| .mkm| .fail=> []
def dU.xs:dU->List X
 | .op i=>i.xs
 | .call _ args=>args
 | .callv x args=>x::args
 | .calli _ _ x args=>x::args
def It.rds (it:It):List Nat:=(it.a.xs.map X.Ov).flatten++(match it.g with|some (x,_)=>x.Ov|none=> [])
def It.wr (it:It):Option Nat:=match it.d with| .v k=>some k|_=>none
def It.Bf (it:It):Bool:=match it.d with| .l=>true|_=>false
def Ao (p q:AI):Bool:=
 (match p.it.wr with|some k=>q.it.rds.contains k||q.it.wr==some k|none=>false)||
 (match q.it.wr with|some k=>p.it.rds.contains k|none=>false)||
 ((p.it.a.qU||p.it.a.lV)&&(q.it.a.qU||q.it.a.qG))
structure Nd where
 x:AI
 dep:List Nat
 anc:Nat
 deriving Repr,Inhabited
def Hp (d:Nat):List Nd->Nat
 | []=>0
 |n::r=>if n.x.i=d then n.anc else Hp d r
def Iv:List Nd->List Nd->Bool
 | [],_=>true
 |n::rest,bef=>
  n.dep.all (λd=>bef.any (λq=>q.x.i==d))&&
  n.anc==n.dep.foldl (λm d=>m|||(2^d|||Hp d bef)) 0&&
  !bef.any (λq=>q.x.i==n.x.i)&&
  bef.all (λq=>!Ao q.x n.x||n.anc.testBit q.x.i)&&
  bef.all (λq=>!(q.x.it.a.qG&&n.x.it.a.qU)||n.anc.testBit q.x.i||n.x.cks.contains q.x.i)&&
  !n.x.it.Bf&&(n.x.al==n.x.it.a.lV)&&
  Iv rest (n::bef)
def akC (ws:List Nat)(ready:List Nd):Option Nd:=
 match ready.find? (λn=>!n.x.it.a.qU&&!n.x.it.a.lV) with
 |some n=>some n
 |none=>match ready.find? (λn=>n.x.it.a.qU) with
  |some n=>some n
  |none=>match ready.find? (λn=>ws.contains n.x.i) with
   |some n=>some n
   |none=>ready.head?
def Uw:Nat->List Nd->List Nd->List Nd
 |0,_,acc=>acc.reverse
 |f+1,todo,acc=>
  let ready:=todo.filter λn=>n.dep.all λd=>acc.any λq=>q.x.i==d
  let need:=match todo.find? (λn=>n.x.it.a.qU) with
   |some w=>(List.range todo.length.succ).foldl (λs _=>s++((todo.filter λn=>s.contains n.x.i).map (·.dep)).flatten.filter (λd=>!s.contains d&&todo.any (λn=>n.x.i==d))) w.dep
   |none=> []
  match akC need ready with
  |none=>acc.reverse
  |some n=>
   let anc:=n.dep.foldl (λm d=>m|||(2^d|||Hp d acc)) 0
   let cks:=if n.x.it.a.qU then (acc.filter λq=>q.x.it.a.qG&&!anc.testBit q.x.i).map (·.x.i) else []
   Uw f (todo.filter λm=>m.x.i !=n.x.i) ({n with anc:=anc,x:={n.x with cks:=cks}}::acc)
def xR (o:Oper):List Nat:=(o.after.toList.filter (Region.binds .any)).map (·.on)
def locals (pv:List Nat):List Nat->List Nat->List Nat
 | [],acc=>acc
 |t::ts,acc=>if pv.contains t||acc.contains t then locals pv ts acc else locals pv ts (acc++ [t])
section
variable (P:Program)
def Eg (nt:Nat)(pv:List Nat)(ops:Array Oper):Nat->List Oper->Option (List Nd)
 |_, []=>some []
 |i,o::os=>
  match tM P nt pv [] ops o with
  |some (it, [])=>(Eg nt pv ops (i+1) os).map λr=>{x:={i,it,al:=it.a.lV,cks:= []},dep:=xR o,anc:=0}::r
  |_=>none
def ahY (ns:List Nd)(pl:List Nd):Option (List Nd):=
 dB (pl.map λe=>(ns[e.x.i]?).map λm=>{x:={m.x with cks:=e.x.cks},dep:=m.dep,anc:=e.anc})
def VC (n:Nat)(ns:List Nd):Bool:=(List.range n).all (λi=>ns.any λq=>q.x.i==i)&&Iv ns []
def Uj (ns:List Nd)(n:Nat):Option (List AI):=
 match ahY ns (Uw ns.length ns []) with
 |none=>none
 |some plan=>if VC n plan then some (plan.map (·.x)) else none
def Tn (nt:Nat)(pv:List Nat)(ops:Array Oper):Option C:=
 let loc:=locals pv (ops.toList.filterMap (·.dst)) []
 match Eg P nt (pv++loc) ops 0 ops.toList with
 |none=>none
 |some ns=>
  if loc.all (· <nt) then
   (Uj ns ops.size).map (.any ops.size loc.length)
  else none
def kG (nt:Nat)(pv:List Nat):Code->Option C
 | .skip| .label _=>some .skip
 | .region _ ops draw=>if draw then Tn P nt pv ops else
  (Du P nt pv ops (List.range ops.size) []).map .reg
 | .seq a b=>do some (.seq (←kG nt pv a) (←kG nt pv b))
 | .cond x a b=>do some (.ite (←fS pv [] x) (←kG nt pv a) (←kG nt pv b))
 | .block id c=>do some (.block id (←kG nt pv c))
 | .loop c=>do some (.loop (←kG nt pv c))
 | .exit id=>some (.exit id)
 | .ret=>some .ret
 | .rangeFunc f pars a b=>do
  some (.range (←fS pv [] f) (←dB (pars.toList.map λt=>idx t pv)) (←kG nt pv a) (←kG nt pv b))
 |_=>none
def Yt (pv:List Nat):ResultVar->Option Rv
 | .tmp t=>(idx t pv).map .v
 | .cell t ty=>match ldN P ty with
  |some q=>(idx t pv).map λk=> .cell k q.1 q.2
  |none=>none
def CE (pv:List Nat)(fn:Func):Option Fn:=
 match fn.body with
 |none=>none
 |some c=>match kG P fn.ntmps pv c,dB (fn.results.toList.map (Yt P pv)) with
  |some body,some results=>
   if pv.all (· <fn.ntmps)&&fn.params.size+fn.nfree<=fn.ntmps then
    some {nargs:=fn.params.size+fn.nfree,init:=pv.map λt=>if t<fn.params.size+fn.nfree then some t else none,results,body}
   else none
  |_,_=>none
end
end Go.Ay
namespace Go.Ay
section
variable {a vars loc:List V} {c:List Value} {v:V} {x:Value} {nt s t k id:Nat} {pv defs:List Nat} {tmps:Array Value} {P:Program} {p:Nat×Nat×Nat} {w w':World} {h:H}
abbrev M:=Nat->Option (Nat×Nat×Nat)
mutual
def VR (m:M):V->Value->Prop
 | .int k n,x=>x= .int k n
 | .bool b,x=>x= .bool b
 | .ptr id o,x=> ∃p,m id=some p/\x= .pointer (some ⟨p.1,p.2.1+o,none⟩)
 | .nilp,x=>x= .pointer none
 | .sl id o len cap,x=> ∃p c o',m id=some p/\x= .slice (some ⟨p.1,p.2.1+o',none⟩) len c/\len<=c/\(0<len->o'=o)/\
   (match cap with| .kn k=>c=k/\o'=o| .un e=>p.2.1+o'+c*e<=p.2.2)
 | .aH,x=>x= .slice none 0 0
 | .emp a,x=>x= .slice (some a) 0 0
 | .str l,x=>x= .string ⟨(l.map UInt8.ofNat).toArray⟩
 | .ifc t v,x=> ∃y,x= .iface t y/\VR m v y
 | .mp id,x=> ∃p,m id=some p/\x= .map (some p.1)
 | .nilm,x=>x= .map none
 | .fn f fs cs,x=> ∃xs ys,x= .func (.func f) xs ys/\iL m fs xs.toList/\iL m cs ys.toList
 | .yl id,x=> ∃p,m id=some p/\x= .func (.yield p.1) #[] #[]
 | .nilf,x=>x= .nilFunc
 | .agg vs,x=> ∃xs,x= .agg xs/\iL m vs xs.toList
 | .tup vs,x=> ∃xs,x= .tuple xs/\iL m vs xs.toList
 | .unk,_=>True
def iL (m:M):List V->List Value->Prop
 | [], []=>True
 |v::vs,x::xs=>VR m v x/\iL m vs xs
 |_,_=>False
end
def Ext (m m':M):Prop:= ∀id p,m id=some p->m' id=some p
theorem Ext.refl (m:M):Ext m m:=λ_ _ h=>h
theorem Ext.trans {a b c:M}(h:Ext a b)(k:Ext b c):Ext a c:=λ_ _ x=>k _ _ (h _ _ x)
mutual
theorem VR.mono {m f:M}(e:Ext m f):(v:V)->(x:Value)->VR m v x->VR f v x
 | .int ..,_,h=>by simpa [VR] using h
 | .bool _,_,h=>by simpa [VR] using h
 | .ptr ..,_,h=>by have⟨p,d,b⟩:=h;exact⟨p,e _ _ d,b⟩
 | .nilp,_,h=>by simpa [VR] using h
 | .sl _ _ _ _,_,h=>by have⟨p,c,l,d,b⟩:=h;exact⟨p,c,l,e _ _ d,b⟩
 | .aH,_,h=>by simpa [VR] using h
 | .emp _,_,h=>by simpa [VR] using h
 | .str _,_,h=>by simpa [VR] using h
 | .ifc _ v,_,h=>by have⟨y,d,b⟩:=h;exact⟨y,d,VR.mono e v _ b⟩
 | .mp _,_,h=>by have⟨p,d,b⟩:=h;exact⟨p,e _ _ d,b⟩
 | .nilm,_,h=>by simpa [VR] using h
 | .fn _ fs cs,_,h=>by have⟨xs,i,d,b,j⟩:=h;exact⟨xs,i,d,iL.mono e fs _ b,iL.mono e cs _ j⟩
 | .yl _,_,h=>by have⟨p,d,b⟩:=h;exact⟨p,e _ _ d,b⟩
 | .nilf,_,h=>by simpa [VR] using h
 | .agg vs,_,h=>by have⟨xs,d,b⟩:=h;exact⟨xs,d,iL.mono e vs _ b⟩
 | .tup vs,_,h=>by have⟨xs,d,b⟩:=h;exact⟨xs,d,iL.mono e vs _ b⟩
 | .unk,_,_=>by simp [VR]
theorem iL.mono {m b:M}(e:Ext m b):(vs:List V)->(xs:List Value)->iL m vs xs->iL b vs xs
 | [], [],_=>trivial
 |v::vs,x::xs,h=>⟨VR.mono e v x h.1,iL.mono e vs xs h.2⟩
 | [],_::_,h=>h.elim
 |_::_, [],h=>h.elim
end
theorem iL.length {m:M}:{vs:List V}->{xs:List Value}->iL m vs xs->vs.length=xs.length
 | [], [],_=>rfl
 |_::vs,_::xs,h=>by simp [iL.length h.2]
 | [],_::_,h=>h.elim
 |_::_, [],h=>h.elim
theorem iL.get {m:M}:{vs:List V}->{xs:List Value}->iL m vs xs-> ∀{i:Nat} {v:V},vs[i]? =some v-> ∃x,xs[i]? =some x/\VR m v x
 | [], [],_,i,v,h=>by simp at h
 |v::vs,x::xs,h,0,u,hu=>by simp at hu;subst hu;exact⟨x,rfl,h.1⟩
 |v::vs,x::xs,h,i+1,u,hu=>by simpa using iL.get h.2 (by simpa using hu)
 | [],_::_,h,_,_,_=>h.elim
 |_::_, [],h,_,_,_=>h.elim
theorem iL.jF {m:M}:{vs:List V}->{xs:List Value}->vs.length=xs.length->((i:Nat)->(v:V)->vs[i]? =some v-> ∃x,xs[i]? =some x/\VR m v x)->iL m vs xs
 | [], [],_,_=>trivial
 |v::vs,x::xs,hl,h=>by
  refine⟨?_,iL.jF (by simpa using hl) (λi u d=>by simpa using h (i+1) u (by simpa using d))⟩;obtain⟨y,b,f⟩:=h 0 v rfl;simp at b;subst b;exact f
 | [],_::_,hl,_=>by simp at hl
 |_::_, [],hl,_=>by simp at hl
theorem iL.append {m:M}{b:List V}{d:List Value}(h:iL m a c)(k:iL m b d):iL m (a++b) (c++d):=by
 induction a generalizing c with
 |nil=>cases c with
  |nil=>exact k
  |cons _ _=>exact h.elim
 |cons x xs ih=>cases c with
  |nil=>exact h.elim
  |cons _ _=>exact⟨h.1,ih h.2⟩
theorem iL.take {m:M}(h:iL m a c)(n:Nat):iL m (a.take n) (c.take n):=by
 induction n generalizing a c with
 |zero=>exact trivial
 |succ n ih=>
  cases a<;>cases c<;>first|exact trivial|exact h.elim|exact⟨h.1,ih h.2⟩
theorem iL.drop {m:M}(h:iL m a c)(n:Nat):iL m (a.drop n) (c.drop n):=by
 induction n generalizing a c with
 |zero=>exact h
 |succ n ih=>
  cases a<;>cases c<;>first|exact trivial|exact h.elim|exact ih h.2
theorem VR.undef (m:M):VR m V.undef undef:=⟨#[],rfl,trivial⟩
theorem VR.one {m:M}(h:VR m v x)(b:v.one=true):x.oneCell'=true:=by
 cases v with
 |int|bool|nilp|aH|emp|nilm|nilf|str=>simp [VR] at h;subst h;rfl
 |ifc=>obtain⟨y,rfl,_⟩:=h;rfl
 |ptr|mp|yl=>obtain⟨p,_,rfl⟩:=h;rfl
 |sl=>obtain⟨p,c,d,_,rfl,_⟩:=h;rfl
 |fn=>obtain⟨_,_,rfl,_⟩:=h;rfl
 |agg|tup|unk=>simp [V.one] at b
theorem VR.cells {m:M}(h:VR m v x)(j:v.cells.all V.one=true):iL m v.cells x.cells.toList:=by
 cases v with
 |unk=>simp [V.cells,V.one] at j
 |agg vs=>obtain⟨xs,rfl,n⟩:=h;exact n
 |int=>simp [VR] at h;subst h;exact⟨rfl,trivial⟩
 |bool=>simp [VR] at h;subst h;exact⟨rfl,trivial⟩
 |nilp=>simp [VR] at h;subst h;exact⟨rfl,trivial⟩
 |aH=>simp [VR] at h;subst h;exact⟨rfl,trivial⟩
 |emp=>simp [VR] at h;subst h;exact⟨rfl,trivial⟩
 |str=>simp [VR] at h;subst h;exact⟨rfl,trivial⟩
 |ifc=>obtain⟨y,rfl,i⟩:=h;exact⟨⟨y,rfl,i⟩,trivial⟩
 |nilm=>simp [VR] at h;subst h;exact⟨rfl,trivial⟩
 |nilf=>simp [VR] at h;subst h;exact⟨rfl,trivial⟩
 |ptr|mp|yl=>obtain⟨p,f,rfl⟩:=h;exact⟨⟨p,f,rfl⟩,trivial⟩
 |sl=>obtain⟨p,c,l,f,rfl,d⟩:=h;exact⟨⟨p,c,l,f,rfl,d⟩,trivial⟩
 |fn=>obtain⟨a,b,rfl,d⟩:=h;exact⟨⟨a,b,rfl,d⟩,trivial⟩
 |tup=>obtain⟨a,rfl,d⟩:=h;exact⟨⟨a,rfl,d⟩,trivial⟩
structure jK (m:M)(nt:Nat)(pv:List Nat)(vars:List V)(tmps:Array Value):Prop where
 size:tmps.size=nt
 len:vars.length=pv.length
 lt: ∀s∈pv,s<nt
 val: ∀s k,idx s pv=some k->VR m (vars.getD k .undef) (tmps.getD s undef)
structure Lo (m:M)(pv defs:List Nat)(loc:List V)(tmps:Array Value):Prop where
 apart: ∀s k,idx s defs=some k->idx s pv=none
 val: ∀s k,idx s defs=some k->VR m (loc.getD k .undef) (tmps.getD s undef)
theorem Lo.nil (m:M)(pv:List Nat)(tmps:Array Value):Lo m pv [] [] tmps:=
 ⟨λ_ _ h=>by simp [idx] at h,λ_ _ h=>by simp [idx] at h⟩
theorem jK.mono {m b:M}(e:Ext m b)(h:jK m nt pv vars tmps):jK b nt pv vars tmps:=
 ⟨h.size,h.len,h.lt,λs k d=>VR.mono e _ _ (h.val s k d)⟩
theorem Lo.mono {m b:M}(e:Ext m b)(h:Lo m pv defs loc tmps):Lo b pv defs loc tmps:=
 ⟨h.apart,λs k d=>VR.mono e _ _ (h.val s k d)⟩
theorem HU {s t k:Nat}:{l:List Nat}->idx s l=some k->idx t l=some k->s=t
 | [],h,_=>by simp [idx] at h
 |a::l,h,h'=>by
  simp only[idx] at h h'
  by_cases d:a=s
  .by_cases b:a=t
   .exact d.symm.trans b
   .simp [d] at h;subst h;simp [b] at h'
  .by_cases b:a=t
   .simp [b] at h';subst h';simp [d] at h
   .simp [d] at h;simp [b] at h'
    obtain⟨i,f,rfl⟩:=h;obtain⟨j,m,n⟩:=h';have:i=j:=om
    subst this;exact HU f m
theorem Jf {s k:Nat}:{l:List Nat}->idx s l=some k->k<l.length
 | [],h=>by simp [idx] at h
 |a::l,h=>by
  simp only[idx] at h
  by_cases b:a=s
  .simp [b] at h;subst h;simp
  .simp [b] at h
   obtain⟨f,d,rfl⟩:=h;have:=Jf d;simp;omega
theorem GN {s k:Nat}:{l:List Nat}->idx s l=some k->s∈l
 | [],h=>by simp [idx] at h
 |a::l,h=>by
  simp only[idx] at h
  by_cases b:a=s
  .simp [b]
  .simp [b] at h
   obtain⟨f,d,rfl⟩:=h;exact wH _ (GN d)
theorem vX {a:Array Value}{d:Value}(h:t<a.size):(a.setIfInBounds t x).getD t d=x:=by
 simp [Array.getD,h]
theorem pE {a:Array Value}{d:Value}(h:t≠s):(a.setIfInBounds t x).getD s d=a.getD s d:=by
 simp only[PB];rw[Array.getElem?_setIfInBounds_ne h]
theorem jK.set {m:M}(h:jK m nt pv vars tmps)(b:idx t pv=some k)
    (n:VR m v x):jK m nt pv (vars.set k v) (tmps.setIfInBounds t x):=by
 have i:t<tmps.size:=by rw[h.size];exact h.lt t (GN b)
 refine⟨by simpa using h.size,by simpa using h.len,h.lt,λs j d=>?_⟩
 by_cases iS:s=t
 .subst iS
  have:j=k:=by rw[b] at d;exact (Option.some.inj d).symm
  subst this
  have l:j<vars.length:=by rw[h.len];exact Jf b
  rw[vX i]
  simp [List.getD,l]
  exact n
 .have f:j≠k:=λe=>iS (HU (e▸d) b)
  rw[pE (Ne.symm iS)]
  have:=h.val s j d
  simpa [List.getD,List.getElem?_set_ne (Ne.symm f)] using this
theorem Lo.ajE {m:M}(h:Lo m pv defs loc tmps)(b:idx t pv=some k)(x:Value):
  Lo m pv defs loc (tmps.setIfInBounds t x):=by
 refine⟨h.apart,λs j d=>?_⟩
 have:t≠s:=λe=>by subst e;rw[h.apart t j d] at b;cases b
 rw[pE this]
 exact h.val s j d
theorem jK.aiU {m:M}(h:jK m nt pv vars tmps)(b:idx t pv=none)(x:Value):
  jK m nt pv vars (tmps.setIfInBounds t x):=by
 refine⟨by simpa using h.size,h.len,h.lt,λs j d=>?_⟩
 have:t≠s:=λe=>by subst e;rw[d] at b;cases b
 rw[pE this]
 exact h.val s j d
theorem Lo.push {m:M}{nt:Nat}(h:Lo m pv defs loc tmps)(o:idx t pv=none)(l:t<tmps.size)
    (n:VR m v x):Lo m pv (t::defs) (v::loc) (tmps.setIfInBounds t x):=by
 have _:=nt
 refine⟨λs j d=>?_,λs j d=>?_⟩
 .simp only[idx] at d
  by_cases b:t=s
  .subst b;exact o
  .simp [b] at d
   obtain⟨i,f,rfl⟩:=d
   exact h.apart s i f
 .simp only[idx] at d
  by_cases b:t=s
  .subst b
   simp at d;subst d
   rw[vX l]
   exact n
  .simp [b] at d
   obtain⟨i,f,rfl⟩:=d
   rw[pE b]
   exact h.val s i f
def Ob.rw:Ob->Bool
 | .cells ro _=>!ro
 |_=>true
def RD:E->Option Code
 | .norm=>none
 | .ret=>some .ret
 | .exit n=>some (.exit n)
def aoI:YZ->LoopState
 | .ready=> .ready
 | .busy=> .busy
 | .done=> .done
 | .out=> .exhausted
structure AV (P:Program)(m:M)(r:dP)(q:Loop):Prop where
 vars: ∃nt pv,jK m nt pv r.vars q.tmps/\kG P nt pv q.assign=some r.assign/\kG P nt pv q.body=some r.body/\
  dB (q.params.toList.map λt=>idx t pv)=some r.pars
 st:q.state=aoI r.st
 pend:q.pending=r.pend.bind RD
 nn:r.pend≠some .norm
def OR (P:Program)(m:M)(o:Ob)(p:Nat×Nat×Nat)(w:World):Prop:=
 match o with
 | .cells ro vs=> ∃c elem fr,w.heap[p.1]? =some (.cells c elem fr)/\c.size=p.2.2/\p.2.1+vs.length<=p.2.2/\
   ((i:Nat)->(v:V)->vs[i]? =some v->v.one=true/\ ∃x,c[p.2.1+i]? =some x/\VR m v x)/\(ro=false->fr=(0,0))
 | .map es=> ∃es' clock,w.heap[p.1]? =some (.map es' clock)/\es.length=es'.size/\
   ∀(i:Nat) (k v:V),es[i]? =some (k,v)-> ∃e:MapEntry,es'[i]? =some e/\VR m k e.key/\VR m v e.val
 | .wmap sh es=>((i j:Nat)->(a b:V×V)->es[i]? =some a->es[j]? =some b->dS a.1 b.1=true->i=j)/\ ∃es' clock,w.heap[p.1]? =some (.map es' clock)/\es.length=es'.size/\clock=es'.size/\
   ∀(i:Nat) (k v:V),es[i]? =some (k,v)->isKey sh k=true/\ ∃e:MapEntry,es'[i]? =some e/\e.born=i/\VR m k e.key/\VR m v e.val
 | .loop r=> ∃q,w.heap[p.1]? =some (.loop q)/\AV P m r q
theorem AV.mono {m b:M}{r:dP}{q:Loop}(e:Ext m b)(h:AV P m r q):AV P b r q:=by
 have⟨⟨nt,pv,d,j⟩,i,l,f⟩:=h;exact⟨⟨nt,pv,d.mono e,j⟩,i,l,f⟩
theorem OR.mono {m B:M}{o:Ob}(e:Ext m B)(z:w'.heap[p.1]? =w.heap[p.1]?)(h:OR P m o p w):OR P B o p w':=by
 cases o with
 |cells ro vs=>
  have⟨c,el,fr,l,j,u,A,G⟩:=h;exact⟨c,el,fr,z.trans l,j,u,λi v y=>let ⟨a,x,b,c⟩:=A i v y;⟨a,x,b,VR.mono e _ _ c⟩,G⟩
 |map es=>
  have⟨n,f,l,j,u⟩:=h;exact⟨n,f,z.trans l,j,λi k v y=>let ⟨x,a,b,c⟩:=u i k v y;⟨x,a,VR.mono e _ _ b,VR.mono e _ _ c⟩⟩
 |wmap sh es=>
  have⟨F,n,f,l,j,u,A⟩:=h;exact⟨F,n,f,z.trans l,j,u,λi k v y=>let ⟨g,x,a,b,c,d⟩:=A i k v y;⟨g,x,a,b,VR.mono e _ _ c,VR.mono e _ _ d⟩⟩
 |loop r=>
  have⟨q,l,j⟩:=h;exact⟨q,z.trans l,j.mono e⟩
theorem OR.lt {m:M}{o:Ob}(h:OR P m o p w):p.1<w.heap.size:=by
 cases o with
 |cells ro vs=>have⟨c,el,fr,b,_⟩:=h;exact (Vm.1 b).1
 |map es=>have⟨c,el,b,_⟩:=h;exact (Vm.1 b).1
 |wmap sh es=>have⟨_,c,el,b,_⟩:=h;exact (Vm.1 b).1
 |loop r=>have⟨q,b,_⟩:=h;exact (Vm.1 b).1
structure HR (P:Program)(m:M)(h:H)(w:World):Prop where
 live: ∀id o,h.get id=some o-> ∃p,m id=some p/\OR P m o p w
 inj: ∀i j oi oj pi pj,i≠j->h.get i=some oi->h.get j=some oj->oi.rw=true->m i=some pi->m j=some pj->pi.1≠pj.1
def gZ (m:M)(n:Nat):Prop:=m n=none
def Na (m:M)(n:Nat):Prop:= ∀id,n<=id->m id=none
theorem Na.fresh {m:M}{n:Nat}(h:Na m n):gZ m n:=h n (dN _)
def LB (m:M)(h:H)(b:Nat):Prop:= ∃id o p,h.get id=some o/\m id=some p/\p.1=b
def FP (m:M)(h:H)(b:Nat):Prop:= ∃id o p,h.get id=some o/\o.rw=true/\m id=some p/\p.1=b
structure Kept (m:M)(h:H)(w w':World):Prop where
 os:w'.os=w.os
 tape:w'.tape=w.tape
 output:w'.output=w.output
 size:w.heap.size<=w'.heap.size
 block: ∀b,b<w.heap.size-> ¬FP m h b->w'.heap[b]? =w.heap[b]?
structure iR (P:Program)(m:M)(h:H)(w:World)(m':M)(h':H)(w':World):Prop where
 ext:Ext m m'
 rel:HR P m' h' w'
 fresh: ∀id p,m' id=some p->m id=some p\/(h.next<=id/\id<h'.next)
 kept:Kept m h w w'
 fp: ∀b,FP m' h' b->FP m h b\/w.heap.size<=b
 next:h.next<=h'.next
 lb: ∀b,LB m' h' b->LB m h b\/w.heap.size<=b
 old: ∀id,id<h.next->h.get id=none->h'.get id=none
theorem iR.low {m:M}{d:M}{h':H}(a:iR P m h w d h' w')(l:Na m h.next):Na d h'.next:=λid f=>by
 cases hm:d id with
 |none=>rfl
 |some p=>
  exfalso;have i:=a.next;rcases a.fresh id p hm with b|⟨_,b⟩
  .rw[l id om] at b;cases b
  .omega
theorem iR.Ou {m:M}(b:HR P m h w):iR P m h w m h w:=
 ⟨Ext.refl m,b,λ_ _ h=> .inl h,⟨rfl,rfl,rfl,dN _,λ_ _ _=>rfl⟩,λ_ h=> .inl h,dN _,λ_ h=> .inl h,λ_ _ h=>h⟩
theorem iR.refl {m:M}(b:HR P m h w)(_:gZ m h.next):iR P m h w m h w:=iR.Ou b
theorem iR.trans {m y f:M}{h' l:H}{j:World}(a:iR P m h w y h' w')(b:iR P y h' w' f l j):iR P m h w f l j where
 ext:=a.ext.trans b.ext
 rel:=b.rel
 fresh:=λid p A=>by
  have z:=a.next;have u:=b.next;rcases b.fresh id p A with r|r
  .rcases a.fresh id p r with o|o
   .exact .inl o
   .exact .inr ⟨o.1,om⟩
  .exact .inr ⟨om,r.2⟩
 kept:={
  os:=b.kept.os.trans a.kept.os
  tape:=b.kept.tape.trans a.kept.tape
  output:=b.kept.output.trans a.kept.output
  size:=kQ a.kept.size b.kept.size
  block:=λx d n=>by
   have z:=a.kept.block x d n;have u:=b.kept.block x (iD d a.kept.size) (λq=>(a.fp x q).elim n (λB=>om))
   exact u.trans z}
 fp:=λx d=>(b.fp x d).elim (λh=>a.fp x h) (λh=> .inr (kQ a.kept.size h))
 next:=kQ a.next b.next
 lb:=λx d=>(b.lb x d).elim (λh=>a.lb x h) (λh=> .inr (kQ a.kept.size h))
 old:=λid i n=>b.old id (iD i a.next) (a.old id i n)
theorem iR.drawn {P:Program}{m:M}{h:H}{w:World}(d:HR P m h w)(_:gZ m h.next)(n:Nat):iR P m h w m h {w with drawn:=n}:=
 ⟨Ext.refl m,⟨λid o f=>let ⟨p,a,b⟩:=d.live id o f;⟨p,a,OR.mono (w:=w) (Ext.refl m) rfl b⟩,d.inj⟩,λ_ _ h=> .inl h,⟨rfl,rfl,rfl,dN _,λ_ _ _=>rfl⟩,λ_ h=> .inl h,dN _,λ_ h=> .inl h,λ_ _ h=>h⟩
def M.set (m:M)(id:Nat)(p:Nat×Nat×Nat):M:=λi=>if i=id then some p else m i
theorem Ext.set {m:M}(h:m id=none):Ext m (m.set id p):=λi q b=>by
 unfold M.set;split
 .rename_i e;subst e;rw[h] at b;cases b
 .exact b
theorem iR.new {m:M}(O:HR P m h w)(hf:gZ m h.next)(o:Ob)(c:Obj)(q:Nat×Nat)
  (ho: ∀m',Ext m m'->m' h.next=some (w.heap.size,q)->OR P m' o (w.heap.size,q) (w.alloc c)):
  iR P m h w (m.set h.next (w.heap.size,q)) (h.new o) (w.alloc c):=by
 have hn:m h.next=none:=hf
 have Y:Ext m (m.set h.next (w.heap.size,q)):=Ext.set hn
 have l:(m.set h.next (w.heap.size,q)) h.next=some (w.heap.size,q):=by simp [M.set]
 have n: ∀id z,(h.new o).get id=some z->(id=h.next/\z=o)\/(id≠h.next/\h.get id=some z):=λid z f=>by
  simp only[H.jY,H.aM] at f
  by_cases hi:id=h.next
  .simp [hi] at f;exact .inl ⟨hi,f.symm⟩
  .simp [hi] at f;exact .inr ⟨hi,f⟩
 have d: ∀id,id≠h.next->(m.set h.next (w.heap.size,q)) id=m id:=λid hi=>by simp [M.set,hi]
 refine⟨Y,⟨λid z f=>?_,λi j U Q pi pj N hi K R A u=>?_⟩,?_,⟨rfl,rfl,rfl,siM,λb L _=>heap_alloc_old w c _ L⟩,λb L=>?_,by simp [H.jY,H.aM],λb L=>?_,λid f W=>by
  simp only[H.jY,H.aM]
  rw[aQ om];exact W⟩
 .rcases n id z f with ⟨rfl,rfl⟩|⟨r,f⟩
  .exact⟨_,l,ho _ Y l⟩
  .obtain⟨p,F,y⟩:=O.live id z f
   exact⟨p,by rw[d id r];exact F,OR.mono Y (heap_alloc_old w c _ y.lt) y⟩
 .rcases n i U hi with ⟨rfl,rfl⟩|⟨r,hi⟩
  .rcases n j Q K with ⟨rfl,rfl⟩|⟨B,K⟩
   .exact absurd rfl N
   .rw[l] at A;cases A
    rw[d j B] at u
    obtain⟨p,F,y⟩:=O.live j Q K
    rw[u] at F;cases F
    have:=y.lt
    exact Nat.ne_of_gt this
  .rw[d i r] at A
   obtain⟨p,F,y⟩:=O.live i U hi
   rw[A] at F;cases F
   rcases n j Q K with ⟨rfl,rfl⟩|⟨B,K⟩
   .rw[l] at u;cases u
    exact Nat.ne_of_lt y.lt
   .rw[d j B] at u
    exact O.inj i j U Q pi pj N hi K R A u
 .intro id p F
  by_cases e:id=h.next
  .subst e;exact .inr ⟨dN _,by simp [H.jY,H.aM]⟩
  .rw[d id e] at F;exact .inl F
 .obtain⟨id,z,p,J,Z,G,rfl⟩:=L
  rcases n id z J with ⟨rfl,rfl⟩|⟨r,J⟩
  .rw[l] at G;cases G;exact .inr (dN _)
  .rw[d id r] at G
   exact .inl ⟨id,z,p,J,Z,G,rfl⟩
 .obtain⟨id,z,p,J,G,rfl⟩:=L
  rcases n id z J with ⟨rfl,rfl⟩|⟨r,J⟩
  .rw[l] at G;cases G;exact .inr (dN _)
  .rw[d id r] at G
   exact .inl ⟨id,z,p,J,G,rfl⟩
theorem iR.put {m:M}(N:HR P m h w)(_:gZ m h.next){o o':Ob}
  (l:h.get id=some o) (r:o.rw=true) (a4:o'.rw=true) (B:m id=some p) (ho:OR P m o' p w')
  (h1:w'.os=w.os) (h2:w'.tape=w.tape) (h3:w'.output=w.output) (h4:w'.heap.size=w.heap.size) (h5: ∀b,b≠p.1->w'.heap[b]? =w.heap[b]?):
  iR P m h w m (h.set id (some o')) w':=by
 have d: ∀i f,(h.set id (some o')).get i=some f->(i=id/\f=o')\/(i≠id/\h.get i=some f):=λi f hi=>by
  simp only[H.gY,H.bT] at hi
  by_cases e:i=id
  .simp [e] at hi;exact .inl ⟨e,hi.symm⟩
  .simp [e] at hi;exact .inr ⟨e,hi⟩
 have Z: ∀b,FP m (h.set id (some o')) b->FP m h b:=λb z=>by
  obtain⟨i,f,q,G,a2,A,rfl⟩:=z;rcases d i f G with ⟨rfl,rfl⟩|⟨_,G⟩
  .rw[B] at A;cases A;exact⟨i,o,_,l,r,B,rfl⟩
  .exact⟨i,f,q,G,a2,A,rfl⟩
 have a0: ∀b,LB m (h.set id (some o')) b->LB m h b:=λb z=>by
  obtain⟨i,f,q,G,A,rfl⟩:=z;rcases d i f G with ⟨rfl,rfl⟩|⟨_,G⟩
  .rw[B] at A;cases A;exact⟨i,o,_,l,B,rfl⟩
  .exact⟨i,f,q,G,A,rfl⟩
 refine⟨Ext.refl m,⟨λi f hi=>?_,λi j f R U Y u hi hj L y F=>?_⟩,λ_ _ h=> .inl h,⟨h1,h2,h3,om,λb _ O=>h5 b (λe=>O ⟨id,o,p,l,r,B,e.symm⟩)⟩,λb z=> .inl (Z b z),dN _,λb z=> .inl (a0 b z),λi _ O=>by
  simp only[H.gY,H.bT];split
  .rename_i e;subst e;rw[l] at O;cases O
  .exact O⟩
 .rcases d i f hi with ⟨rfl,rfl⟩|⟨K,n⟩
  .exact⟨p,B,ho⟩
  .obtain⟨q,hq,W⟩:=N.live i f n
   refine⟨q,hq,OR.mono (Ext.refl m) (h5 q.1 ?_) W⟩
   exact (N.inj id i o f p q (Ne.symm K) l n r B hq).symm
 .rcases d i f hi with ⟨rfl,rfl⟩|⟨K,n⟩
  .rcases d j R hj with ⟨rfl,rfl⟩|⟨Q,J⟩
   .exact absurd rfl u
   .exact N.inj i j o R U Y u l J r y F
  .rcases d j R hj with ⟨rfl,rfl⟩|⟨Q,J⟩
   .exact N.inj i j f o U Y u n l L y F
   .exact N.inj i j f R U Y u n J L y F
theorem iR.akN {m:M}(R:HR P m h w)(hf:gZ m h.next){o o':Ob}{q:Nat×Nat×Nat}
  (y:h.get id=some o) (z:o.rw=true) (a7:o'.rw=true) (G:m id=some p) (W:q.1=p.1) (ho: ∀m',Ext m m'->OR P m' o' q w')
  (h1:w'.os=w.os) (h2:w'.tape=w.tape) (h3:w'.output=w.output) (h4:w'.heap.size=w.heap.size) (h5: ∀b,b≠p.1->w'.heap[b]? =w.heap[b]?):
  iR P m h w (m.set h.next q) ((h.set id none).new o') w':=by
 have hn:m h.next=none:=hf
 have he:Ext m (m.set h.next q):=Ext.set hn
 have J:id≠h.next:=λe=>by subst e;rw[hn] at G;cases G
 have d: ∀i,i≠h.next->(m.set h.next q) i=m i:=λi hi=>by simp [M.set,hi]
 have n:(m.set h.next q) h.next=some q:=by simp [M.set]
 have f: ∀i l,((h.set id none).new o').get i=some l->(i=h.next/\l=o')\/(i≠h.next/\i≠id/\h.get i=some l):=λi l hi=>by
  simp only[H.gY,H.bT,H.jY,H.aM] at hi
  by_cases e:i=h.next
  .simp [e] at hi;exact .inl ⟨e,hi.symm⟩
  .by_cases e':i=id
   .simp [e',J] at hi
   .simp [e,e'] at hi;exact .inr ⟨e,e',hi⟩
 refine⟨he,⟨λi l hi=>?_,λi j l Y pi pj N hi hj a0 A u=>?_⟩,?_,⟨h1,h2,h3,om,λb _ a6=>h5 b (λe=>a6 ⟨id,o,p,y,z,G,e.symm⟩)⟩,λb Z=>?_,by simp [H.jY,H.aM,H.gY,H.bT],λb Z=>?_,λi Q a4=>by
  have e:i≠h.next:=Nat.ne_of_lt Q
  by_cases e2:i=id
  .simp [H.jY,H.aM,H.gY,H.bT,e2,J]
  .simp [H.jY,H.aM,H.gY,H.bT,e,e2,a4]⟩
 .rcases f i l hi with ⟨rfl,rfl⟩|⟨e1,e2,B⟩
  .exact⟨q,n,ho _ he⟩
  .obtain⟨r,U,a5⟩:=R.live i l B
   refine⟨r,by rw[d i e1];exact U,OR.mono he (h5 r.1 ?_) a5⟩
   exact (R.inj id i o l p r (Ne.symm e2) y B z G U).symm
 .rcases f i l hi with ⟨rfl,rfl⟩|⟨e1,e2,B⟩
  .rcases f j Y hj with ⟨rfl,rfl⟩|⟨e3,e4,L⟩
   .exact absurd rfl N
   .rw[n] at A;cases A
    rw[d j e3] at u
    rw[W]
    exact R.inj id j o Y p pj (Ne.symm e4) y L z G u
  .rw[d i e1] at A
   rcases f j Y hj with ⟨rfl,rfl⟩|⟨e3,e4,L⟩
   .rw[n] at u;cases u
    rw[W]
    exact (R.inj id i o l p pi (Ne.symm e2) y B z G A).symm
   .rw[d j e3] at u
    exact R.inj i j l Y pi pj N B L a0 A u
 .intro i p O
  by_cases e:i=h.next
  .subst e;exact .inr ⟨dN _,by simp [H.jY,H.aM,H.gY,H.bT]⟩
  .rw[d i e] at O;exact .inl O
 .obtain⟨i,l,r,K,a2,F,rfl⟩:=Z
  rcases f i l K with ⟨rfl,rfl⟩|⟨e1,e2,K⟩
  .rw[n] at F;cases F;exact .inl ⟨id,o,p,y,z,G,W.symm⟩
  .rw[d i e1] at F;exact .inl ⟨i,l,r,K,a2,F,rfl⟩
 .obtain⟨i,l,r,K,F,rfl⟩:=Z
  rcases f i l K with ⟨rfl,rfl⟩|⟨e1,e2,K⟩
  .rw[n] at F;cases F;exact .inl ⟨id,o,p,y,G,W.symm⟩
  .rw[d i e1] at F;exact .inl ⟨i,l,r,K,F,rfl⟩
end
end Go.Ay
namespace Go.Ay
open Go
section
variable {v:Value} {u:V} {vs ws us:List V} {off n b:Nat} {c:Array Value} {elem t:TypeId} {fr:Nat×Nat}
section
variable {P:Program} {m:M} {h:H} {w:World}
theorem iY {α β:Type}{f:α->Option β}:{l:List α}->{r:List β}->dB (l.map f)=some r->r.length=l.length/\ ∀(i:Nat) (a:α),l[i]? =some a-> ∃b,r[i]? =some b/\f a=some b
 | [],r,h=>by simp [dB] at h;subst h;exact⟨rfl,λi a h=>by simp at h⟩
 |x::l,r,h=>by
  simp only[List.map_cons] at h
  cases hx:f x with
  |none=>simp [hx,dB] at h
  |some b=>
   simp only[hx,dB,kU] at h;obtain⟨o,j,rfl⟩:=h;obtain⟨k,d⟩:=iY j;refine⟨by simp [k],λi a hi=>?_⟩
   cases i with
   |zero=>simp at hi;subst hi;exact⟨b,rfl,hx⟩
   |succ i=>simpa using d i a (by simpa using hi)
theorem Dx (m:M)(h:Gt v=some u):VR m u v:=by
 unfold Gt at h;split at h<;>first
  |(cases h;rfl)
  |skip
 .rename_i s
  cases h;show Value.string s= .string ⟨((s.data.toList.map UInt8.toNat).map UInt8.ofNat).toArray⟩;rw[List.map_map,show (UInt8.ofNat∘UInt8.toNat)=id from funext λx=>by simp,List.map_id]
 .rename_i f first a
  split at h
  .rename_i d
   simp at d;cases h;obtain⟨rfl,rfl⟩:=d;exact⟨#[],#[],rfl,trivial,trivial⟩
  .cases h
 .cases h
theorem Hl (m:M)(h:Px v=some u):VR m u v:=by
 unfold Px at h;split at h
 .rename_i d
  simp only[kU] at h;obtain⟨r,q,rfl⟩:=h;obtain⟨s,o⟩:=iY q;refine⟨d,rfl,iL.jF (by simpa using s) (λi v f=>?_)⟩
  have a:i<d.toList.length:=by
   have:=(Iq.1 f).1;omega
  obtain⟨b,j,l⟩:=o i d.toList[i] (dJ a);rw[f] at j;cases j;exact⟨_,dJ a,Dx m l⟩
 .rename_i d
  split at h
  .rename_i k;simp at k;subst k;cases h;exact VR.undef m
  .cases h
 .exact Dx m h
theorem Kg (h:Gt v=some u):u.one=true:=by
 unfold Gt at h;split at h<;>first
  |(cases h;rfl)
  |skip
 .split at h<;>cases h
  rfl
 .cases h
theorem Ib (h:Px v=some u)(s:u≠ .tup []): ∀c∈u.cells,c.one=true:=by
 unfold Px at h;split at h
 .rename_i j
  simp only[kU] at h;obtain⟨r,q,rfl⟩:=h;obtain⟨f,o⟩:=iY q;intro c a;simp only[V.cells] at a;obtain⟨i,hi,rfl⟩:=List.getElem_of_mem a;have d:i<j.toList.length:=om
  obtain⟨b,k,l⟩:=o i j.toList[i] (dJ d);rw[dJ hi] at k;cases k;exact Kg l
 .split at h<;>cases h
  exact absurd rfl s
 .intro c a
  have f:=Kg h;cases u<;>simp [V.cells,V.one] at a f |- <;>subst a<;>rfl
structure St (m:M)(nt:Nat)(pv defs:List Nat)(vars loc:List V)(a:Act):Prop where
 vars:jK m nt pv vars a.tmps
 loc:Lo m pv defs loc a.tmps
variable {nt:Nat} {pv defs:List Nat} {vars loc:List V} {a:Act}
theorem aN (s:St m nt pv defs vars loc a){o:Operand}{x:X}(h:fS pv defs o=some x):VR m (xv vars loc x) (a.eval o):=by
 cases o with
 |tmp t=>
  simp only[fS] at h
  cases hd:idx t defs with
  |some i=>simp only[hd] at h;cases h;exact s.loc.val t i hd
  |none=>
   simp only[hd,kU] at h;obtain⟨k,d,rfl⟩:=h;exact s.vars.val t k d
 |const v=>
  simp only[fS,kU] at h;obtain⟨u,j,rfl⟩:=h;exact Hl m j
 |global g=>simp [fS] at h
 |func f=>simp only[fS] at h;cases h;exact⟨#[],#[],rfl,trivial,trivial⟩
theorem jU (s:St m nt pv defs vars loc a){f:List Operand}{xs:List X}(h:rU pv defs f=some xs):iL m (xs.map (xv vars loc)) (f.map a.eval):=by
 obtain⟨r,q⟩:=iY h;refine iL.jF (by simp [r]) (λi v j=>?_);simp only[Al,kU] at j;obtain⟨x,l,rfl⟩:=j;have d:i<f.length:=by have:=(Iq.1 l).1;omega
 obtain⟨b,k,o⟩:=q i f[i] (dJ d);rw[l] at k;cases k;exact⟨_,by simp [d],aN s o⟩
theorem sub_eq (h:sub vs off n=some ws):ws=(vs.drop off).take n/\off+n<=vs.length/\ws.length=n:=by
 unfold sub at h;split at h
 .rename_i d;cases h;refine⟨rfl,d,?_⟩;simp;omega
 .cases h
theorem yZ (q:HR P m h w){id:Nat}(d:h.row id off n=some ws):
  ∃p c elem fr,m id=some p/\w.heap[p.1]? =some (.cells c elem fr)/\c.size=p.2.2/\p.2.1+off+n<=c.size/\
   iL m ws ((c.toList.drop (p.2.1+off)).take n)/\(∀v∈ws,v.one=true):=by
 unfold H.row at d
 split at d
 .rename_i A vs r
  obtain⟨rfl,s,z⟩:=sub_eq d
  obtain⟨p,l,c,elem,fr,y,o,B,k,F⟩:=q.live id _ r
  refine⟨p,c,elem,fr,l,y,o,om,iL.jF siO (λi v f=>?_),λv f=>?_⟩
  .simp only[List.getElem?_take,List.getElem?_drop] at f |-
   split at f
   .rename_i hi
    obtain⟨_,x,j,f⟩:=k _ v f
    refine⟨x,?_,f⟩
    rw[aS hi]
    rw[<-Nat.add_assoc] at j
    simpa using j
   .cases f
  .obtain⟨i,hi,rfl⟩:=List.getElem_of_mem f
   have:=k (off+i) ((vs.drop off).take n)[i] (by
    rw[<-dJ]
    .simp only[List.getElem?_take,List.getElem?_drop];rw[aS (by simp at hi;omega)]
     )
   exact this.1
 .cases d
theorem cell_of {w:World}(d:w.heap[b]? =some (.cells c elem fr))(o:Nat):w.cell? ⟨b,o,none⟩=c[o]? :=by
 simp [World.cell?,d]
theorem kY (b o j:Nat):(⟨b,o,none⟩:Addr).add j=⟨b,o+j,none⟩:=by unfold Addr.add;split<;>simp_all
theorem dW {w:World}(f:w.heap[b]? =some (.cells c elem fr))(o n:Nat):
  ∀j v,((c.toList.drop o).take n)[j]? =some v->w.cell? ((⟨b,o,none⟩:Addr).add j)=some v:=by
 intro j v d
 rw[kY,cell_of f]
 simp only[List.getElem?_take,List.getElem?_drop] at d
 split at d
 .simpa using d
 .cases d
theorem kN {w:World}(f:w.heap[b]? =some (.cells c elem fr)){o:Nat}(i:o+n<=c.size):
  (loadCells ⟨b,o,none⟩ n).run P w= .ok ((c.toList.drop o).take n).toArray w:=by
 have:=run_loadCells_list (P:=P) w ⟨b,o,none⟩ ((c.toList.drop o).take n) (dW f o n)
 have d:((c.toList.drop o).take n).length=n:=siO
 rw[d] at this
 exact this
theorem qI {b:Bool}(h:Pt P t=some b):(isAgg t).run P w= .ok b w:=by
 unfold Pt at h;simp only[kU] at h;obtain⟨d,f,rfl⟩:=h;unfold isAgg;rw[Sem.run_bind,run_underlying f w];cases d<;>rfl
theorem gG (h:iZ P t=some n):(sizeOf t).run P w= .ok n w:=by
 unfold iZ at h;simp only[kU] at h;obtain⟨i,hi,rfl⟩:=h;simp [sizeOf,typeInfo,hi]
theorem Wa (s:HR P m h w){agg:Bool}(o:Pt P t=some agg)(j:(if agg then iZ P t else some 1)=some n)
  {v:V} {x:Value} (A:VR m v x) (f:ldV h agg n v=some u): ∃y,(Instr.loadAt t x).run P w= .ok y w/\VR m u y:=by
 cases v<;>simp only[ldV] at f<;>try cases f
 rename_i id off
 obtain⟨p,r,rfl⟩:=A
 cases hrow:h.row id off n with
 |none=>simp [hrow] at f
 |some ws=>
  simp only[hrow] at f;obtain⟨B,c,elem,fr,i,l,z,k,d,_⟩:=yZ s hrow;rw[r] at i;cases i
  cases agg with
  |true=>
   simp only[if_true] at f j;cases f;refine⟨_,?_,⟨_,rfl,d⟩⟩;simp [Instr.loadAt,Instr.sureAddr,loadVar,qI o,gG j,kN l k]
  |false=>
   simp only[Bool.false_eq_true,if_false] at f j;cases j;split at f
   .cases f
    rename_i v
    cases hl:(c.toList.drop (p.2.1+off)).take 1 with
    |nil=>rw[hl] at d;exact d.elim
    |cons y ys=>
     rw[hl] at d;refine⟨y,?_,d.1⟩;have q:=dW l (p.2.1+off) 1 0 y (by rw[hl];rfl);rw[kY,Nat.add_zero] at q;simp [Instr.loadAt,Instr.sureAddr,loadVar,qI o,q]
   .cases f
theorem Cv (h:putAt vs off ws=some us):us=vs.take off++ws++vs.drop (off+ws.length)/\off+ws.length<=vs.length:=by
 unfold putAt at h;split at h
 .cases h;exact⟨rfl,by assumption⟩
 .cases h
theorem Tz (h:putAt vs off ws=some us):us.length=vs.length:=by
 obtain⟨rfl,d⟩:=Cv h;simp;omega
theorem JV (h:putAt vs off ws=some us)(i:Nat):
  us[i]? =if i<off then vs[i]? else if i<off+ws.length then ws[i-off]? else vs[i]? :=by
 obtain⟨rfl,k⟩:=Cv h
 have j:(vs.take off).length=off:=siO
 by_cases d:i<off
 .rw[aS d,AA,Aw om,List.getElem?_take,aS d]
 .rw[aQ d]
  by_cases f:i<off+ws.length
  .rw[aS f,AA,Hs om,j,Aw om]
  .rw[aQ f,Hs siO,List.getElem?_drop]
   congr 1
   simp;omega
theorem Ls (c:Array Value)(o:Nat)(xs:List Value)(k:o+xs.length<=c.size)(i:Nat):
  ((c.toList.take o++xs++c.toList.drop (o+xs.length)).toArray)[i]? =if i<o then c[i]? else if i<o+xs.length then xs[i-o]? else c[i]? :=by
 simp only[List.getElem?_toArray]
 have j:(c.toList.take o).length=o:=siO
 by_cases d:i<o
 .rw[aS d,AA,Aw om,List.getElem?_take,aS d];simp
 .rw[aQ d]
  by_cases f:i<o+xs.length
  .rw[aS f,AA,Hs om,j,Aw om]
  .rw[aQ f,Hs siO,List.getElem?_drop]
   have:o+xs.length+(i-(c.toList.take o++xs).length)=i:=siO
   rw[this];simp
theorem Bp (c:Array Value)(o:Nat)(xs:List Value)(d:o+xs.length<=c.size):((c.toList.take o++xs++c.toList.drop (o+xs.length)).toArray).size=c.size:=by
 simp;omega
theorem yY (L:HR P m h w)(U:gZ m h.next){id:Nat}{xs:List Value}{h':H}(o:h.put id off ws=some h')(A:iL m ws xs)(F: ∀v∈ws,v.one=true)
  {p:Nat×Nat×Nat} (N:m id=some p): ∃w',(storeCells ⟨p.1,p.2.1+off,none⟩ xs).run P w= .ok () w'/\iR P m h w m h' w':=by
 unfold H.put at o
 split at o
 .rename_i vs B
  simp only[kU] at o
  obtain⟨us,f,rfl⟩:=o
  obtain⟨p',l,c,elem,fr,e1,e2,Y,O,Q⟩:=L.live id _ B
  rw[N] at l;cases l
  have s:=Q rfl
  subst s
  obtain⟨_,Z⟩:=Cv f
  have G:=iL.length A
  have z: ∀x∈xs,x.oneCell'=true:=by
   intro x W;obtain⟨i,hi,rfl⟩:=List.getElem_of_mem W;have k:i<ws.length:=om
   obtain⟨y,q,j⟩:=A.get (dJ k);rw[dJ hi] at q;cases q;exact j.one (F _ (Hn k))
  have iS:=run_storeCells_at P p.1 (p.2.1+off) elem xs 0 c w e1 om z
  simp only[Nat.add_zero] at iS
  refine⟨_,iS,?_⟩
  have R:=setRow_heap w p.1 c (c.toList.take (p.2.1+off)++xs++c.toList.drop (p.2.1+off+xs.length)).toArray elem (0,0) e1
  refine iR.put L U B rfl rfl N ⟨_,elem,(0,0),R,?_,?_,λi v d=>?_,λ_=>rfl⟩ rfl rfl rfl siM (λb r=>setRow_other w p.1 b _ r)
  .rw[Bp _ _ _ om];exact e2
  .rw[Tz f];exact Y
  .rw[JV f] at d
   rw[Ls _ _ _ om]
   by_cases J:i<off
   .rw[aS J] at d;rw[aS om];exact O i v d
   .rw[aQ J] at d
    by_cases K:i<off+ws.length
    .rw[aS K] at d
     rw[aQ om,aS om]
     obtain⟨y,q,j⟩:=A.get d
     refine⟨F v (HP d),y,?_,j⟩
     rw[show p.2.1+i-(p.2.1+off)=i-off from om];exact q
    .rw[aQ K] at d
     rw[aQ om,aQ om]
     exact O i v d
 .cases o
theorem uJ (x:HR P m h w)(r:gZ m h.next){xs:List Value}(l:List Value)(o:iL m ws xs)(z: ∀v∈ws,v.one=true)(elem:TypeId):
  iR P m h w (m.set h.next (w.heap.size,0,xs.length+l.length)) (h.new (.cells false ws)) (w.alloc (.cells (xs++l).toArray elem)):=by
 have f:=iL.length o
 refine iR.new x r _ _ _ (λA s _=>⟨_,elem,(0,0),heap_alloc_new w _,siM,by simp [f],λi v d=>?_,λ_=>rfl⟩)
 refine⟨z v (HP d),?_⟩
 obtain⟨y,q,k⟩:=o.get d
 refine⟨y,?_,VR.mono s _ _ k⟩
 have j:i<xs.length:=(Iq.1 q).1
 simp only[Nat.zero_add,List.getElem?_toArray]
 rw[Aw j];exact q
end
end
end Go.Ay
namespace Go.Ay
open Go
section
variable {v:V} {x:Value} {k:IntKind}
def Yields (P:Program)(o:Oper)(a:Act)(w:World)(x:Value)(w':World):Prop:=
 (execOp a.eval o).run P w= .ok (.value x) w'\/((execOp a.eval o).run P w= .ok .skip w'/\x=undef)
section
variable {P:Program} {m:M} {h:H} {w:World}
def aY (P:Program)(m:M)(h:H)(w:World)(s:Sem Value)(v:V)(h':H):Prop:=
 ∃x w' m',s.run P w= .ok x w'/\VR m' v x/\iR P m h w m' h' w'
theorem aY.still (c:HR P m h w)(b:gZ m h.next){s:Sem Value}(a:s.run P w= .ok x w)(h2:VR m v x):aY P m h w s v h:=
 ⟨x,w,m,a,h2,iR.refl c b⟩
theorem Xn {op:BinOp}{a b:Int}(c:arith op k a b=some v)(t:TypeId): ∃x,(binOp op t (.int k a) (.int k b)).run P w= .ok x w/\VR m v x:=by
 cases op<;>simp only[arith] at c<;>first
  |(cases c;done)
  |(cases c;exact⟨_,by simp [binOp,Op.intArith,Op.intCmp,Op.intBits];done,rfl⟩)
  |(split at c
    .cases c
    .rename_i d
     cases c
     exact⟨_,by simp [binOp,Op.intDiv,d],rfl⟩)
theorem AY {op:BinOp}{a b:Int}{j:IntKind}(c:Vg op k a b=some v)(t:TypeId): ∃x,(binOp op t (.int k a) (.int j b)).run P w= .ok x w/\VR m v x:=by
 unfold Vg at c;split at c
 .cases c
 .rename_i d
  cases op<;>simp only at c<;>first
   |(cases c;done)
   |(cases c;exact⟨_,by simp [binOp,Op.shift,d],rfl⟩)
theorem Hq (op:BinOp)(t:TypeId)(x y:Operand)(k:IntKind)(a:Int)(b:Value):(eqGuard op t x y (.int k a) b).run P w= .ok () w:=by
 unfold eqGuard;cases op<;>simp
theorem Tu (op:BinOp)(t:TypeId)(x y:Operand)(a:Bool)(b:Value):(eqGuard op t x y (.bool a) b).run P w= .ok () w:=by
 unfold eqGuard;cases op<;>simp
theorem tB (op:BinOp)(t:TypeId)(x y:Operand)(a:Option Addr)(n c:Nat)(b:Value):(eqGuard op t x y (.slice a n c) b).run P w= .ok () w:=by
 unfold eqGuard;cases op<;>simp
theorem VR.int {n:Int}(h:VR m (.int k n) x):x= .int k n:=h
theorem qV {n:Nat}(b:VR m v x)(d:oU v=some n): ∃a c,x= .slice a n c:=by
 cases v<;>simp only[oU] at d<;>try cases d
 .obtain⟨p,c,f,_,rfl,_⟩:=b;exact⟨_,_,rfl⟩
 .exact⟨none,0,b⟩
 .exact⟨some _,0,b⟩
theorem Hj (z:HR P m h w){n sz:Nat}{ws:List V}(i:VR m v x)(o:oU v=some n)(a:h.slice sz v=some ws):
  ∃xs:List Value,(∀d,(Builtin.firstCells sz n x).run P {w with drawn:=d}= .ok xs.toArray {w with drawn:=d})/\iL m ws xs/\(∀u∈ws,u.one=true)/\xs.length=n*sz:=by
 cases v<;>simp only[oU] at o<;>try cases o
 .rename_i id y F
  simp only[H.slice] at a
  obtain⟨p,c,q,fr,s,A,_,l,f,B⟩:=yZ z a
  obtain⟨K,G,J,b,rfl,_,t,_⟩:=i
  rw[s] at b;cases b
  by_cases j:0<n
  .obtain rfl:=t j
   exact⟨_,λd=>kN (w:={w with drawn:=d}) A l,f,B,siO⟩
  .obtain rfl:n=0:=om
   have r:ws= []:=Zs (by rw[iL.length f];simp)
   subst r
   exact⟨[],λd=>by simp only[Builtin.firstCells,Nat.zero_mul,loadCells,loadCellsFrom];rfl,trivial,siM,siM⟩
 .simp only[H.slice] at a
  cases a
  obtain rfl:x= .slice none 0 0:=i
  exact⟨[],λd=>by simp [Builtin.firstCells],trivial,siM,siM⟩
 .simp only[H.slice] at a
  cases a
  obtain rfl:x= .slice (some _) 0 0:=i
  exact⟨[],λd=>by simp only[Builtin.firstCells,Nat.zero_mul,loadCells,loadCellsFrom];rfl,trivial,siM,siM⟩
theorem OA {n:Int}{y:Nat}{a:BoundsCode}(c:0<=n)(b:n<=y):(Instr.sliceBound (.int k n) y a).run P w= .ok n.toNat w:=by
 simp [Instr.sliceBound,asIntOf,c,b]
def UL (m:M)(o:Option V)(x:Option Value):Prop:=match o,x with|none,none=>True|some v,some x=>VR m v x|_,_=>False
def BK (xo:Option Value)(d top:Nat)(code:BoundsCode):Sem Nat:=match xo with|some v=>Instr.sliceBound v top code|none=>pure d
theorem oT {o:Option V}{f:Option Value}(i:UL m o f){d c r:Nat}(a:mQ o d c=some r)(b:BoundsCode):
  (BK f d c b).run P w= .ok r w:=by
 cases o with
 |none=>
  cases f with
  |none=>simp only[mQ] at a;cases a;rfl
  |some x=>exact i.elim
 |some v=>
  cases f with
  |none=>exact i.elim
  |some x=>
   cases v<;>simp only[mQ] at a<;>try cases a
   rename_i k n;split at a
   .rename_i j
    cases a;obtain rfl:x= .int k n:=i;exact OA j.1 j.2
   .cases a
theorem nJ {a d:Option Value}{len c l f:Nat}(b:(BK d len c .sliceAcap).run P w= .ok f w)(r2:(BK a 0 f .sliceB).run P w= .ok l w):
  (Instr.sliceBounds true len c a d none).run P w= .ok (l,f,c) w:=by
 cases d with
 |none=>
  cases a with
  |none=>simp only[BK,Sem.run_pure] at b r2;cases b;cases r2;simp [Instr.sliceBounds]
  |some y=>simp only[BK,Sem.run_pure] at b r2;cases b;simp [Instr.sliceBounds,r2]
 |some z=>
  cases a with
  |none=>simp only[BK,Sem.run_pure] at b r2;cases r2;simp [Instr.sliceBounds,b]
  |some y=>simp only[BK] at b r2;simp [Instr.sliceBounds,b,r2]
theorem yR {o:Option V}{d b r:Nat}(a:mQ o d b=some r)(c:d<=b):r<=b:=by
 unfold mQ at a;split at a
 .cases a;exact c
 .split at a
  .rename_i f;cases a;omega
  .cases a
 .cases a
theorem MI (A:HR P m h w)(z:gZ m h.next){t e:TypeId}{sz:Nat}(s:P.underlying t=some (.slice e))(hs:iZ P e=some sz)
  {u:V}  {B hi O:Option V} {J L i:Option Value} (hx:VR m v x) (r:UL m B J) (o:UL m hi L) (F:UL m O i) (a:pV sz v B hi O=some u):
  aY P m h w (Instr.sliceAt t x J L i) u h:=by
 have f:=gG (w:=w) hs
 cases v<;>simp only[pV] at a<;>try cases a
 .rename_i id a0 len U
  obtain⟨p,c,q,G,rfl,Z,ho,d⟩:=hx
  cases O with
  |some _=>cases a
  |none=>
   cases i with
   |some _=>exact F.elim
   |none=>
    cases U with
    |kn k=>
     simp only at d a;obtain⟨d,rfl⟩:=d;subst d
     cases ehh:mQ hi len c with
     |none=>simp [ehh] at a
     |some hh=>
      simp only[ehh] at a
      cases el:mQ B 0 hh with
      |none=>simp [el] at a
      |some l=>
       simp only[el] at a;have N:=yR ehh Z;have Q:=yR el (fY _);have j:=nJ (P:=P) (w:=w) (oT o ehh .sliceAcap) (oT r el .sliceB);split at a
       .cases a
        by_cases b:c=l
        .rw[aS b]
         refine⟨.slice (some ⟨p.1,p.2.1+q,none⟩) (hh-l) (c-l),w,m,?_,⟨p,_,_,G,rfl,om,λ_=>rfl,rfl,rfl⟩,iR.refl A z⟩;simp only[Instr.sliceAt,Sem.run_bind,run_underlying s,Result.andThen_ok,Instr.slice,j,f,Sem.run_pure,aS b]
        .rw[aQ b]
         refine⟨.slice (some ⟨p.1,p.2.1+(q+l*sz),none⟩) (hh-l) (c-l),w,m,?_,⟨p,_,_,G,rfl,om,λ_=>rfl,rfl,rfl⟩,iR.refl A z⟩;simp only[Instr.sliceAt,Sem.run_bind,run_underlying s,Result.andThen_ok,Instr.slice,j,f,Sem.run_pure,aQ b,Option.map_some,kY,Nat.add_assoc]
       .cases a
    |un e=>
     simp only at d a
     cases ehh:mQ hi len len with
     |none=>simp [ehh] at a
     |some hh=>
      simp only[ehh] at a
      cases el:mQ B 0 hh with
      |none=>simp [el] at a
      |some l=>
       simp only[el] at a;have N:=yR ehh (dN _);have Q:=yR el (fY _)
       have W:mQ hi len c=some hh:=by
        cases hi with
        |none=>exact ehh
        |some y=>
         cases y<;>simp only[mQ] at ehh |- <;>try cases ehh
         rename_i k n;split at ehh
         .rename_i hc;cases ehh
          rw[aS ⟨hc.1,om⟩]
         .cases ehh
       have j:=nJ (P:=P) (w:=w) (oT o W .sliceAcap) (oT r el .sliceB)
       by_cases K:e=sz
       .subst K
        rw[aS rfl] at a
        by_cases hl:l<len
        .rw[aS hl] at a
         cases a;have b:c≠l:=om
         obtain rfl:=ho om;refine⟨.slice (some ⟨p.1,p.2.1+(q+l*e),none⟩) (hh-l) (c-l),w,m,?_,⟨p,_,_,G,rfl,om,λ_=>rfl,?_⟩,iR.refl A z⟩
         .simp only[Instr.sliceAt,Sem.run_bind,run_underlying s,Result.andThen_ok,Instr.slice,j,f,Sem.run_pure,aQ b,Option.map_some,kY,Nat.add_assoc]
         .simp only
          have:(c-l)*e+l*e=c*e:=by rw[<-Nat.add_mul];congr 1;omega
          omega
        .rw[aQ hl] at a
         cases a;obtain rfl:hh=l:=om
         by_cases b:c=hh
         .refine⟨.slice (some ⟨p.1,p.2.1+q,none⟩) (hh-hh) (c-hh),w,m,?_,⟨p,_,q,G,by rw[Nat.sub_self],om,λh=>om,?_⟩,iR.refl A z⟩
          .simp only[Instr.sliceAt,Sem.run_bind,run_underlying s,Result.andThen_ok,Instr.slice,j,f,Sem.run_pure,aS b]
          .simp only
           have:(c-hh)*e<=c*e:=Nat.mul_le_mul_right _ om;omega
         .refine⟨.slice (some ⟨p.1,p.2.1+(q+hh*e),none⟩) (hh-hh) (c-hh),w,m,?_,⟨p,_,q+hh*e,G,by rw[Nat.sub_self],om,λh=>om,?_⟩,iR.refl A z⟩
          .simp only[Instr.sliceAt,Sem.run_bind,run_underlying s,Result.andThen_ok,Instr.slice,j,f,Sem.run_pure,aQ b,Option.map_some,kY,Nat.add_assoc]
          .simp only
           have:(c-hh)*e+hh*e=c*e:=by rw[<-Nat.add_mul];congr 1;omega
           omega
       .rw[aQ K] at a;cases a
 .cases O with
  |some _=>simp at a
  |none=>
   cases i with
   |some _=>exact F.elim
   |none=>
    obtain rfl:x= .slice none 0 0:=hx
    cases ehh:mQ hi 0 0 with
    |none=>simp [ehh] at a
    |some hh=>
     simp only[ehh] at a
     cases el:mQ B 0 hh with
     |none=>simp [el] at a
     |some l=>
      simp only[el] at a;cases a;have j:=nJ (P:=P) (w:=w) (oT o ehh .sliceAcap) (oT r el .sliceB);have Y:hh=0:=by have:=yR ehh (dN _);omega
      subst Y;have R:l=0:=by have:=yR el (dN _);omega
      subst R;refine aY.still A z (x:= .slice none 0 0) ?_ rfl;simp [Instr.sliceAt,run_underlying s,Instr.slice,j,f]
end
end
end Go.Ay
namespace Go.Ay
open Go
section
variable {e t u:TypeId} {ns:List Value} {n k:Nat} {i:TypeInfo} {z y:Value}
section
variable {P:Program} {m:M} {h:H} {w:World}
theorem Vn {s b:Nat}(c:iZ P e=some s)(d:wT P e=some b): ∃i,P.info? e=some i/\i.size=s/\i.bytes=b:=by
 unfold iZ wT at*;simp only[kU] at*;obtain⟨i,hi,rfl⟩:=c;obtain⟨j,a,rfl⟩:=d;rw[hi] at a;cases a;exact⟨i,hi,rfl,rfl⟩
theorem Dr {s:Nat}(h:Zx P e s=true): ∃i z,P.info? e=some i/\i.zero=some z/\z.cells.size=s:=by
 unfold Zx at h
 cases hi:P.info? e with
 |none=>simp [hi] at h
 |some i=>
  cases hz:i.zero with
  |none=>simp [hi,hz] at h
  |some z=>simp [hi,hz] at h;exact⟨i,z,rfl,hz,h⟩
theorem Hz (z:Array Value)(n:Nat):(Builtin.zeroCells z n).size=n*z.size:=by simp [Builtin.zeroCells]
theorem DQ (A:HR P m h w)(o:gZ m h.next){xs j:List V}{b:List Value}(B:iL m xs b)(x:iL m j ns)(l: ∀v∈xs,v.one=true)(f: ∀v∈j,v.one=true)
  {sz cap:Nat} (s:b.length=n*sz) (F:ns.length=k*sz) (c:n+k<=cap) {z:Array Value} (K:z.size=sz) (a:TypeId) (d:Nat):
  ∃m',VR m' (.sl h.next 0 (n+k) (.un sz)) (.slice (some ⟨w.heap.size,0,none⟩) (n+k) cap)/\
   iR P m h w m' (h.new (.cells false (xs++j))) (({w with drawn:=d}:World).alloc (.cells (b.toArray++ns.toArray++Builtin.zeroCells z (cap-(n+k))) a)):=by
 have q:=iR.drawn A o d
 have r:=uJ (w:={w with drawn:=d}) q.rel o (Builtin.zeroCells z (cap-(n+k))).toList (B.append x) (by
  intro v J;rcases Es.1 J with h|h
  .exact l v h
  .exact f v h) a
 have G:(b++ns++(Builtin.zeroCells z (cap-(n+k))).toList).toArray=b.toArray++ns.toArray++Builtin.zeroCells z (cap-(n+k)):=by
  apply Array.toList_inj.1;simp
 rw[G] at r
 refine⟨_,⟨(w.heap.size,0,b.length+ns.length+(Builtin.zeroCells z (cap-(n+k))).size),cap,0,by simp [M.set],rfl,c,λ_=>rfl,?_⟩,q.trans r⟩
 simp only[Hz,K,s,F]
 have:cap*sz=(n*sz+k*sz)+(cap-(n+k))*sz:=by rw[<-Nat.add_mul,<-Nat.add_mul];congr 1;omega
 omega
structure ajR (P:Program)(w:World)(u:TypeId)(elem:TypeId)(i:TypeInfo)(z:Value)(k:Nat)(y:Value)(ns:List Value):Prop where
 len:ns.length=k*i.size
 run:(∃e',P.underlying u=some (.slice e')/\(Builtin.lenOf y).run P w= .ok k w/\ ∀d,(Builtin.firstCells i.size k y).run P {w with drawn:=d}= .ok ns.toArray {w with drawn:=d})\/
  (∃kk,P.underlying u=some (.int kk)/\y= .int .i64 (k:Int)/\(k:Int)*i.bytes<=2^48/\(k:Int)<2^62/\(k*i.size≠0->ns.toArray=Builtin.zeroCells z.cells k))
theorem wrap_small (h:(n:Int)<2^62):IntKind.i64.wrap n=n:=by
 unfold IntKind.wrap;simp only[IntKind.bits,IntKind.signed];have:(n:Int)%2^64=n:=Int.emod_eq_of_lt om om;simp only[this];rw[aQ];simp;omega
theorem yC {ty:TypeId}(x:P.underlying t=some (.slice e))(hi:P.info? e=some i)(G:i.zero=some z)
  {base:Option Addr} {c:Nat}   (l:ajR P w u e i z k y ns) (f:n+k<=c) {w':World}
  (j:match base with|some a=>(storeCells (a.add (n*i.size)) ns).run P w= .ok () w'|none=>w'=w):
  (Builtin.append_ #[t,u] ty #[.slice base n c,y]).run P w= .ok (.slice base (n+k) c) w':=by
 rcases l.run with ⟨L,v,r,o⟩|⟨K,v,rfl,J,b,B⟩
 .have F:=o w.drawn
  cases base with
  |none=>simp only at j;subst j;simp [Builtin.append_,run_underlying x,run_underlying v,sizeOf,typeInfo,hi,r,F,f]
  |some a=>simp only at j;simp [Builtin.append_,run_underlying x,run_underlying v,sizeOf,typeInfo,hi,r,F,f,j]
 .have q: ¬((k:Int)<0):=om
  have A: ¬(281474976710656<(k:Int)*i.bytes):=om
  by_cases d:k*i.size=0
  .have s:ns= []:=Zs (by rw[l.len,d])
   subst s
   cases base with
   |none=>simp only at j;subst j;simp [Builtin.append_,run_underlying x,run_underlying v,sizeOf,typeInfo,hi,asInt,asIntOf,wrap_small b,q,A,f,d]
   |some a=>simp only at j;simp [Builtin.append_,run_underlying x,run_underlying v,sizeOf,typeInfo,hi,asInt,asIntOf,wrap_small b,q,A,f,d,j]
  .have s:=B d
   cases base with
   |none=>simp only at j;subst j;simp [Builtin.append_,run_underlying x,run_underlying v,sizeOf,typeInfo,zeroValue,hi,G,asInt,asIntOf,wrap_small b,q,A,f,d]
   |some a=>
    have:(Builtin.zeroCells z.cells k).toList=ns:=by rw[<-s]
    simp only at j;simp [Builtin.append_,run_underlying x,run_underlying v,sizeOf,typeInfo,zeroValue,hi,G,asInt,asIntOf,wrap_small b,q,A,f,d,this,j]
theorem Xq {ty:TypeId}(G:P.underlying t=some (.slice e))(hi:P.info? e=some i)(O:i.zero=some z)
  {base:Option Addr} {c:Nat}  {K:List Value} (f:ajR P w u e i z k y ns) (L: ∀d,(Builtin.firstCells i.size n (.slice base n c)).run P {w with drawn:=d}= .ok K.toArray {w with drawn:=d})
  (J:c<n+k) (U:(2*(n+k)+1000)*i.bytes<=2^48) (Y:n+k<2^62):
  ∃cap d,n+k<=cap/\(Builtin.append_ #[t,u] ty #[.slice base n c,y]).run P w= .ok (.slice (some ⟨w.heap.size,0,none⟩) (n+k) cap)
   (({w with drawn:=d}:World).alloc (.cells (K.toArray++ns.toArray++Builtin.zeroCells z.cells (cap-(n+k))) e)):=by
 have b: ¬(Builtin.nextslicecap (n+k) c*i.bytes>2^48):=by
  have h1:=nextslicecap_le J;have Q:Builtin.nextslicecap (n+k) c*i.bytes<=(2*(n+k)+1000)*i.bytes:=Nat.mul_le_mul_right _ om;omega
 have a:(Question.appendCap (n+k) c e).forced=false:=rfl
 have v: ¬(9223372036854775807<(n:Int)+(k:Int)):=om
 have l:IntKind.i64.max=9223372036854775807:=deC
 refine⟨(Question.appendCap (n+k) c e).cut (w.tape w.drawn (.appendCap (n+k) c e)),w.drawn+1,by simp [Question.cut],?_⟩
 have j: ¬(n+k<=c):=om
 have F:(Builtin.firstCells i.size n (.slice base n c)).run P w.drew= .ok K.toArray w.drew:=L (w.drawn+1)
 rcases f.run with ⟨e',B,A,o⟩|⟨Z,B,rfl,W,r,N⟩
 .have Q:(Builtin.firstCells i.size k y).run P w.drew= .ok ns.toArray w.drew:=o (w.drawn+1)
  simp [Builtin.append_,run_underlying G,run_underlying B,sizeOf,typeInfo,zeroValue,hi,O,A,j,v,l,b,a,F,Q,newRow]
  congr 2
  apply Array.toList_inj.1
  simp
 .have x: ¬((k:Int)<0):=om
  have R: ¬(281474976710656<(k:Int)*i.bytes):=om
  by_cases q:k*i.size=0
  .have s:ns= []:=Zs (by rw[f.len,q])
   subst s
   simp [Builtin.append_,run_underlying G,run_underlying B,sizeOf,typeInfo,zeroValue,hi,O,asInt,asIntOf,wrap_small r,x,R,j,v,l,b,a,F,newRow,q]
  .have s:=N q
   simp [Builtin.append_,run_underlying G,run_underlying B,sizeOf,typeInfo,zeroValue,hi,O,asInt,asIntOf,wrap_small r,x,R,j,v,l,b,a,F,newRow,q,s]
theorem Qt (hr:HR P m h w)(hf:gZ m h.next){sz bytes:Nat}(ht:P.underlying t=some (.slice e))(hi:P.info? e=some i)(hz:i.zero=some z)
  (hs:i.size=sz) (hb:i.bytes=bytes) (c8:z.cells.size=sz) {v r:V} {x:Value}  {U:List V}  {h':H} (R:VR m v x) (hy:iL m U ns) (Y: ∀v∈U,v.one=true)
  (a:ajR P w u e i z k y ns) (A:tV h sz bytes v k U=some (r,h')) (ty:TypeId):
  aY P m h w (Builtin.append_ #[t,u] ty #[x,y]) r h':=by
 subst hs
 subst hb
 unfold tV at A
 split at A
 .rename_i n xs hn c0
  obtain⟨os,d4,b9,c1,c5⟩:=Hj hr R hn c0
  obtain⟨Z,c,rfl⟩:=qV R hn
  have a6:U.length=k*i.size:=(iL.length hy).trans a.len
  split at A
  .rename_i hk
   cases A
   subst hk
   have b5:ns= []:=Zs (by rw[a.len];simp)
   subst b5
   have c4:n+0<=c:=by
    cases v<;>simp only[oU] at hn<;>try cases hn
    .have⟨p,c',K,_,N,c4,_⟩:=R;cases N;omega
    .cases R;omega
    .cases R;omega
   refine aY.still hr hf (yC ht hi hz a c4 (w':=w) ?_) R
   cases Z<;>simp [storeCells]
  .split at A
   .rename_i d9 a4
    have grow:c<n+k-> ∀(hh:H),hh=h.new (.cells false (xs++U))->aY P m h w (Builtin.append_ #[t,u] ty #[.slice Z n c,y]) (.sl h.next 0 (n+k) (.un i.size)) hh:=by
     intro c7 hh d6;subst d6;obtain⟨c3,d,s,b6⟩:=Xq ht hi hz a d4 c7 a4.1 a4.2 (ty:=ty);obtain⟨m',h1,h2⟩:=DQ hr hf b9 hy c1 Y c5 a.len s c8 e d;exact⟨_,_,m',b6,h1,h2⟩
    cases v<;>simp only[oU] at hn<;>try cases hn
    .rename_i id d3 c3
     have⟨p,c',K,hp,N,e6,ho,s⟩:=R
     cases N
     cases c3 with
     |kn c2=>
      simp only at s A;obtain⟨s,rfl⟩:=s;subst s;split at A
      .rename_i f
       cases hput:h.put id (K+n*i.size) U with
       |none=>simp [hput] at A
       |some h2=>
        simp only[hput] at A;cases A;obtain⟨w',iS,b0⟩:=yY hr hf hput hy Y hp;refine⟨_,w',m,yC ht hi hz a f (w':=w') ?_,⟨p,_,_,hp,rfl,f,λ_=>rfl,rfl,rfl⟩,b0⟩;simp only;rw[kY,Nat.add_assoc];exact iS
      .rename_i f
       cases A;exact grow om _ rfl
     |un e2=>
      simp only at s A;split at A
      .rename_i vs hg
       split at A
       .rename_i c9
        subst c9;cases A
        by_cases f:n+k<=c
        ·--in place
         obtain⟨p',a8,cc,O,fr,e1,c6,e3,e4,e5⟩:=hr.live id _ hg;rw[hp] at a8;cases a8;have d0:=e5 rfl;subst d0
         have d1: ∀x∈ns,x.oneCell'=true:=by
          intro x R;obtain⟨j,G,rfl⟩:=List.getElem_of_mem R;have b7:j<U.length:=by rw[iL.length hy];exact G
          obtain⟨y',Q,a7⟩:=hy.get (dJ b7);rw[dJ G] at Q;cases Q;exact a7.one (Y _ (Hn b7))
         have d7:(n+k)*i.size<=c*i.size:=Nat.mul_le_mul_right _ f;have d5:(n+k)*i.size=n*i.size+k*i.size:=Nat.add_mul _ _ _;have L:p.2.1+K+n*i.size+ns.length<=cc.size:=by rw[a.len];omega
         have iS:=run_storeCells_at P p.1 (p.2.1+K+n*i.size) O ns 0 cc w e1 (by simpa using L) d1;simp only[Nat.add_zero] at iS;have F:h.row id d3 (n*i.size)=some xs:=c0;unfold H.row at F;rw[hg] at F;simp only at F;obtain⟨N,d8,a0⟩:=sub_eq F
         refine⟨.slice (some ⟨p.1,p.2.1+K,none⟩) (n+k) c,w.setRow p.1 (cc.toList.take (p.2.1+K+n*i.size)++ns++cc.toList.drop (p.2.1+K+n*i.size+ns.length)).toArray,
          m.set h.next (p.1,p.2.1+K,p.2.2),yC ht hi hz a f ?_,⟨(p.1,p.2.1+K,p.2.2),c,0,?_,rfl,f,λ_=>rfl,?_⟩,?_⟩
         .simp only
          rw[kY];exact iS
         .simp [M.set]
         .simp only;omega
         .have hb:=setRow_heap w p.1 cc (cc.toList.take (p.2.1+K+n*i.size)++ns++cc.toList.drop (p.2.1+K+n*i.size+ns.length)).toArray O (0,0) e1
          refine iR.akN hr hf hg rfl rfl hp rfl (λm' b8=>⟨_,O,(0,0),hb,?_,?_,λj v J=>?_,λ_=>rfl⟩) rfl rfl rfl siM (λb a5=>setRow_other w p.1 b _ a5)
          .rw[Bp _ _ _ L];exact c6
          .simp only[eE,a0,a6];omega
          .rw[Ls _ _ _ L]
           by_cases G:j<n*i.size
           .rw[Aw om] at J
            obtain rfl:=ho (by
                       rcases Nat.eq_zero_or_pos n with h0|h0;· rw[h0,Nat.zero_mul] at G;omega
                       .exact h0)
            rw[aS (by simp only;omega)];rw[N,List.getElem?_take,aS G,List.getElem?_drop] at J;obtain⟨a1,x2,a2,a3⟩:=e4 _ v J;exact⟨a1,x2,by rw[<-Nat.add_assoc] at a2;exact a2,VR.mono b8 _ _ a3⟩
           .rw[Hs om,a0] at J
            obtain⟨y',Q,a7⟩:=hy.get J;have a9:j-n*i.size<ns.length:=(Iq.1 Q).1;refine⟨Y v (HP J),y',?_,VR.mono b8 _ _ a7⟩;rw[aQ (by simp only;omega),aS (by simp only;omega)];rw[show (p.2.1+K,p.2.2).1+j-(p.2.1+K+n*i.size)=j-n*i.size from by simp only;omega];exact Q
        .obtain⟨x2,w2,m2,r1,r2,W⟩:=grow om _ rfl
         refine⟨x2,w2,m2,r1,r2,?_⟩
         have a5:id≠h.next:=λe=>by
          have this:m h.next=none:=hf;rw[<-e,hp] at this;cases this
         have B: ∀j o,((h.set id none).new (.cells false (xs++U))).get j=some o->(h.new (.cells false (xs++U))).get j=some o:=by
          intro j o G;simp only[H.gY,H.bT,H.jY,H.aM] at G |-
          by_cases e1:j=h.next
          .simpa [e1] using G
          .by_cases e2:j=id
           .simp [e1,e2] at G
            exact absurd G.1 a5
           .simpa [e1,e2] using G
         refine⟨W.ext,⟨λj o G=>W.rel.live j o (B j o G),λj l oj ol pj pl a9 G hl=>W.rel.inj j l oj ol pj pl a9 (B _ _ G) (B _ _ hl)⟩,W.fresh,W.kept,λb hb=>?_,W.next,λb hb=>?_,λj G hn=>?_⟩
         .have⟨j,o,q,b1,b2,b3,b4⟩:=hb
          exact W.fp b ⟨j,o,q,B _ _ b1,b2,b3,b4⟩
         .have⟨j,o,q,b1,b3,b4⟩:=hb
          exact W.lb b ⟨j,o,q,B _ _ b1,b3,b4⟩
         .cases hg2:((h.set id none).new (.cells false (xs++U))).get j with
          |none=>rfl
          |some o=>have h9:=B j o hg2;rw[W.old j G hn] at h9;cases h9
       .cases A
      .cases A
    .cases R
     simp only at A
     cases A
     exact grow om _ rfl
    .simp only at A
     cases A
   .cases A
 .cases A
end
end
end Go.Ay
namespace Go.Ay
open Go
section
variable {e t kt:TypeId} {sz:Nat} {zu:V} {x y:Value} {es:List (V×V)} {kk j:IntKind} {n:Int}
section
variable {P:Program} {m:M} {h:H} {w:World}
theorem M.jN (m:M)(id:Nat)(p:Nat×Nat×Nat):(m.set id p) id=some p:=by simp [M.set]
theorem foldl_set (off:Nat):(xs:List Value)->(k:Nat)->(cells:Array Value)->off+k+xs.length<=cells.size->
  ((xs.zipIdx k).foldl (λcs (p:Value×Nat)=>cs.setIfInBounds (off+p.2) p.1) cells).toList=cells.toList.take (off+k)++xs++cells.toList.drop (off+k+xs.length)
 | [],k,cells,_=>by simp
 |x::xs,k,cells,h=>by
  simp only[List.zipIdx_cons,List.foldl_cons,List.length_cons] at h |-;rw[foldl_set off xs (k+1) _ siO];have:=list_seg_step cells.toList (off+k) x xs siO;simp only[Array.toList_setIfInBounds];rw[show off+(k+1)=off+k+1 from om];rw[this]
theorem vB {place:Nat->Option (Nat×Nat)}:(ps:List (Nat×Nat×V))->(qs:List (Nat×Value))->(cs us:List V)->(xs:Array Value)->iL m cs xs.toList->
  ps.length=qs.length->((i:Nat)->(a:Nat×Nat×V)->(q:Nat×Value)->ps[i]? =some a->qs[i]? =some q->place q.1=some (a.1,a.2.1)/\VR m a.2.2 q.2)->fP cs ps=some us->
  ∃ys,Instr.fill place xs qs=some ys/\iL m us ys.toList
 | [], [],cs,us,xs,hx,_,_,he=>by simp only[fP] at he;cases he;exact⟨xs,rfl,hx⟩
 |a::ps,q::qs,cs,us,xs,hx,hl,hp,he=>by
  have⟨b,n,v⟩:=a;have⟨i,y⟩:=q;obtain⟨s,o⟩:=hp 0 _ _ rfl rfl;simp only at s o;simp only[fP] at he;split at he
  .rename_i r
   have⟨r,c⟩:=r
   cases hput:putAt cs b v.cells with
   |none=>simp [hput] at he
   |some cs'=>
    simp only[hput] at he;have u:=VR.cells o c;have k:=iL.length u;have f:=iL.length hx;obtain⟨rfl,B⟩:=Cv hput;simp only[Array.length_toList] at k f;have l:=foldl_set b y.cells.toList 0 xs siO;simp only[Nat.add_zero] at l
    have d:iL m (cs.take b++v.cells++cs.drop (b+v.cells.length)) (((y.cells.toList.zipIdx 0).foldl (λcs (p:Value×Nat)=>cs.setIfInBounds (b+p.2) p.1) xs).toList):=by
     rw[l];have:b+v.cells.length=b+y.cells.toList.length:=siO
     rw[this];exact ((hx.take _).append u).append (hx.drop _)
    obtain⟨ys,e1,e2⟩:=vB ps qs _ us _ d (by simpa using hl) (λj a q A z=>hp (j+1) a q (by simpa using A) (by simpa using z)) he;refine⟨ys,?_,e2⟩;simp only[Instr.fill,s];rw[aQ]
    .rw[<-e1]
     congr 1;rw[<-Array.foldl_toList,Array.toList_zipIdx]
    .simp;omega
  .cases he
 | [],_::_,_,_,_,_,hl,_,_=>by simp at hl
 |_::_, [],_,_,_,_,hl,_,_=>by simp at hl
theorem kC (m:M){u:V}{i:TypeInfo}{z:Value}(h:kX P e=some u)(hi:P.info? e=some i)(d:i.zero=some z):iL m u.cells z.cells.toList/\(∀c∈u.cells,c.one=true)/\VR m u z:=by
 unfold kX at h;simp only[hi,Option.bind_some,d,Option.filter_eq_some_iff] at h;have b:=Hl m h.1;have a:=Ib h.1 (λe=>by rw[e] at h;simp [afY] at h);exact⟨b.cells (uR.2 a),a,b⟩
theorem sY {zero:List V}{z:Array Value}(u:iL m zero z.toList)(d:0<zero.length)(n:Nat):
  iL m (cJ zero n) ((Array.range n).map (z[· %z.size]!)).toList:=by
 have k:=iL.length u
 simp only[Array.length_toList] at k
 refine iL.jF (by simp [cJ]) (λi v r=>?_)
 simp only[cJ,Al,kU] at r
 obtain⟨j,A,rfl⟩:=r
 have f:i<n/\j=i:=by
  obtain⟨s,o⟩:=Iq.1 A;simp at s o;exact⟨s,o.symm⟩
 obtain⟨hi,rfl⟩:=f
 have a:j%zero.length<zero.length:=Nat.mod_lt _ d
 obtain⟨x,q,l⟩:=u.get (i:=j%zero.length) (dJ a)
 refine⟨z[j%z.size]!,by simp [hi],?_⟩
 have:zero.getD (j%zero.length) V.undef=zero[j%zero.length]:=by simp [List.getD,a]
 rw[this]
 have c:j%z.size<z.size:=by rw[<-k];exact a
 have:z[j%z.size]! =x:=by
  rw[getElem!_pos z _ c];have b:z[j%z.size]? =some x:=by rw[k] at q;simpa using q
  rw[Vm] at b;exact b.2
 rw[this];exact l
theorem Ar {zero:List V}(h: ∀c∈zero,c.one=true)(a:0<zero.length)(n:Nat): ∀c∈cJ zero n,c.one=true:=by
 intro c d;simp only[cJ,oG] at d;obtain⟨i,_,rfl⟩:=d;have b:i%zero.length<zero.length:=Nat.mod_lt _ a;have:zero.getD (i%zero.length) V.undef=zero[i%zero.length]:=by simp [List.getD,b]
 rw[this];exact h _ (Hn b)
theorem JB (N:HR P m h w)(K:gZ m h.next){bytes:Nat}(O:P.underlying t=some (.slice e))(R:iZ P e=some sz)(Q:wT P e=some bytes)
  (hz:kX P e=some zu) (u:Zx P e sz=true) (Y:sz≠0) {l c r:V}  {h':H} (U:VR m l x) (L:VR m c y) (d:sD h sz bytes zu.cells l c=some (r,h')):
  aY P m h w (Instr.makeSlice t x y) r h':=by
 obtain⟨i,hi,A,v⟩:=Vn R Q
 obtain⟨i',z,o,q,s⟩:=Dr u
 rw[hi] at o;cases o
 subst A
 subst v
 obtain⟨k,B,_⟩:=kC m hz hi q
 have Z:zu.cells.length=i.size:=by rw[iL.length k];simpa using s
 cases l<;>simp only[sD] at d<;>try cases d
 cases c<;>simp only at d<;>try cases d
 rename_i G l F c
 split at d
 .rename_i J
  cases d
  obtain rfl:x= .int G l:=U
  obtain rfl:y= .int F c:=L
  have a:(i.bytes:Int)*c<=281474976710656:=by rw[Int.mul_comm];omega
  have f:=run_make w t e i z O hi q G F l c J.1 J.2.1 a om
  have W:=sY k om (c.toNat*i.size)
  have b:=uJ N K [] W (Ar B om _) e
  simp only[qH,Array.toArray_toList] at b
  refine⟨_,_,_,f,⟨_,_,0,M.jN ..,rfl,om,λ_=>rfl,rfl,rfl⟩,b⟩
 .cases d
theorem OT (R:HR P m h w)(O:gZ m h.next){n:Nat}(J:P.underlying t=some (.slice e))(F:iZ P e=some sz)
  (Y:kX P e=some zu) (G:Zx P e sz=true) (a2:sz≠0) (b: ¬n*sz>2^24) {s:List (Nat×Nat×V)} {k:Array (Nat×Value)} {us:List V} (Q:s.length=k.size)
  (N:(j:Nat)->(a:Nat×Nat×V)->(q:Nat×Value)->s[j]? =some a->k.toList[j]? =some q->some (q.1*sz,sz)=some (a.1,a.2.1)/\VR m a.2.2 q.2)
  (W:fP (cJ zu.cells (n*sz)) s=some us) (Z: ∀v∈us,v.one=true):
  aY P m h w (Instr.buildSlice t n k) (.sl h.next 0 n (.kn n)) (h.new (.cells false us)):=by
 obtain⟨L,z,c,r,u⟩:=Dr G
 have d:L.size=sz:=by unfold iZ at F;rw[c] at F;simpa using F
 obtain⟨o,a1,_⟩:=kC m Y c r
 have a0:zu.cells.length=sz:=by rw[iL.length o];simpa using u
 have U:=sY o om (n*sz)
 obtain⟨K,e1,e2⟩:=vB (place:=λi=>some (i*sz,sz)) s k.toList _ us _ U (by simpa using Q) N W
 have f:=uJ R O [] e2 Z e
 simp only[qH,Array.toArray_toList] at f
 have l:(Instr.buildSlice t n k).run P w= .ok (.slice (some ⟨w.heap.size,0,none⟩) n n) (w.alloc (.cells K e)):=by
  by_cases B:n*sz=0
  .rw[B,show ((Array.range 0).map (z.cells[· %z.cells.size]!))=(#[]:Array Value) from by simp] at e1
   have A:(Array.range 0).map (λ(_:Nat)=>(default:Value))= #[]:=siM
   simp [Instr.buildSlice,run_underlying J,sizeOf,typeInfo,c,d,B,newRow,A,e1]
  .exact run_buildSlice w t e n k K L z J c r (by rw[d];exact b) (by rw[d];exact B) (by rw[d];exact e1)
 exact⟨_,_,_,l,⟨_,_,0,M.jN ..,rfl,dN _,λ_=>rfl,rfl,rfl⟩,f⟩
theorem Yb {a:Array Field}{b:List (Nat×Nat)}(h:xX P a=some b):a.toList.mapM (λf=>(P.info? f.type).map λi=>(f.offset,i.size))=some b:=h
theorem OK (hr:HR P m h w)(Z:gZ m h.next)(J:kX P t=some zu){c:List (Nat×X)}{N:List (Nat×Nat×X)}(d:ajO P t c=some N)
  {ρ:X->V} {f:Array (Nat×Value)} (hl:c.length=f.size) (Y:(j:Nat)->(a:Nat×X)->(q:Nat×Value)->c[j]? =some a->f.toList[j]? =some q->q.1=a.1/\VR m (ρ a.2) q.2)
  {us:List V} (he:fP zu.cells (N.map λp=>(p.1,p.2.1,ρ p.2.2))=some us):
  aY P m h w (Instr.build t f) (.agg us) h:=by
 unfold ajO at d
 have o: ∃i z,P.info? t=some i/\i.zero=some z:=by
  unfold kX at J
  cases hi:P.info? t with
  |none=>simp [hi] at J
  |some i=>
   cases hzz:i.zero with
   |none=>simp [hi,hzz] at J
   |some z=>exact⟨i,z,rfl,hzz⟩
 have⟨i,z,hi,l⟩:=o
 obtain⟨B,_,_⟩:=kC m J hi l
 split at d
 .rename_i fs k
  cases hfp:xX P fs with
  |none=>simp [hfp] at d
  |some pls=>
   simp only[hfp] at d;obtain⟨a1,a2⟩:=iY d
   obtain⟨v,e1,e2⟩:=vB (place:=(pls.toArray[·]?)) (N.map λp=>(p.1,p.2.1,ρ p.2.2)) f.toList zu.cells us z.cells B (by simp [a1];omega) (λj a q G u=>by
    simp only[Al,kU] at G;obtain⟨p,K,rfl⟩:=G;have hj:j<c.length:=by have:=(Iq.1 K).1;omega
    obtain⟨b,A,F⟩:=a2 j c[j] (dJ hj);rw[K] at A;cases A;obtain⟨O,Q⟩:=Y j _ q (dJ hj) u;simp only[kU] at F;obtain⟨r,U,rfl⟩:=F
    exact⟨by simp only[List.getElem?_toArray,O];rw[U],Q⟩) he
   have A:P.built t f.toList=some v:=by
    unfold Program.built;simp only[hi,k,l,Yb hfp];exact e1
   exact aY.still hr Z (run_build w t f v A) ⟨v,rfl,e2⟩
 .rename_i n e k
  simp only[kU] at d
  obtain⟨s,R,rfl⟩:=d
  unfold iZ at R
  simp only[kU] at R
  obtain⟨L,W,rfl⟩:=R
  obtain⟨v,e1,e2⟩:=vB (place:=λj=>some (j*L.size,L.size)) ((c.map λp=>(p.1*L.size,L.size,p.2)).map λp=>(p.1,p.2.1,ρ p.2.2)) f.toList zu.cells us z.cells B siO (λj a q G u=>by
   simp only[List.map_map,Al,kU] at G;obtain⟨p,K,rfl⟩:=G;obtain⟨O,Q⟩:=Y j _ q K u
   exact⟨by simp [O],Q⟩) he
  have A:P.built t f.toList=some v:=by
   unfold Program.built;simp only[hi,k,l,W];exact e1
  exact aY.still hr Z (run_build w t f v A) ⟨v,rfl,e2⟩
 .cases d
theorem JJ (O:HR P m h w)(hf:gZ m h.next){u:TypeId}(B:P.underlying t=some (.slice e))(hs:iZ P e=some sz)
  {v1 v2 r:V}  {h':H} (hx:VR m v1 x) (hy:VR m v2 y) (f:Nh h sz v1 v2=some (r,h')) (ty:TypeId):
  aY P m h w (Builtin.copy_ #[t,u] ty #[x,y]) r h':=by
 have o:=gG (w:=w) hs
 unfold Nh at f
 split at f
 .rename_i n k U F
  have v: ∀a b:Nat,Nat.min a b=min a b:=λ_ _=>rfl
  simp only at f
  split at f
  .rename_i id N l1 c1 R s l2 c2
   simp only[oU] at U F
   cases U;cases F
   obtain⟨p,c,o1,hp,rfl,_,L,_⟩:=hx
   obtain⟨p',c',o2,G,rfl,_,Y,_⟩:=hy
   cases hrow:h.row R s (min k n*sz) with
   |none=>simp [hrow] at f
   |some ys=>
    simp only[hrow] at f
    cases hput:h.put id N ys with
    |none=>simp [hput] at f
    |some h2=>
     simp only[hput] at f;cases f;obtain⟨q,cc,a0,fr,Z,hb,_,W,K,h1⟩:=yZ O hrow;rw[G] at Z;cases Z;obtain⟨A,iS,l⟩:=yY O hf hput K h1 hp;have hl:=kN (P:=P) hb W
     by_cases a1:0<min k n
     .obtain rfl:=L om
      obtain rfl:=Y om;refine⟨_,A,m,?_,(rfl:VR m (.int .i64 ((min k n:Nat):Int)) _),l⟩;simp [Builtin.copy_,run_underlying B,Builtin.lenOf,o,Builtin.firstCells,v,hl,iS,goInt]
     .have i:min k n=0:=om
      have z:Nat.min k n=0:=i
      have hw:A=w:=by
       rw[i] at iS;simp [storeCells] at iS;exact iS.symm
      subst hw;refine⟨_,A,m,?_,(rfl:VR m (.int .i64 ((min k n:Nat):Int)) _),l⟩;rw[i];simp [Builtin.copy_,run_underlying B,Builtin.lenOf,o,z,Builtin.firstCells,loadCells,loadCellsFrom,storeCells,goInt]
  .split at f
   .rename_i J
    cases f
    obtain⟨a,c,rfl⟩:=qV hx U
    obtain⟨b,d,rfl⟩:=qV hy F
    refine aY.still O hf (x:=goInt 0) ?_ rfl
    have i:Nat.min k n=0:=J
    have Q:(Builtin.firstCells sz 0 (.slice b k d)).run P w= .ok #[] w:=by
     cases b<;>simp [Builtin.firstCells,loadCells,loadCellsFrom]
    cases a<;>simp [Builtin.copy_,run_underlying B,Builtin.lenOf,o,i,Q,storeCells]
   .cases f
 .cases f
def Jq (m:M)(es:List (V×V))(es':List MapEntry):Prop:=
 es.length=es'.length/\ ∀(i:Nat) (k v:V),es[i]? =some (k,v)-> ∃e:MapEntry,es'[i]? =some e/\VR m k e.key/\VR m v e.val
theorem Pq {k v:V}{e:MapEntry}{b:List MapEntry}(h:Jq m ((k,v)::es) (e::b)):VR m k e.key/\VR m v e.val/\Jq m es b:=by
 have⟨l,c⟩:=h;obtain⟨o,a,d,f⟩:=c 0 k v rfl;simp at a;subst a;exact⟨d,f,by simpa using l,λi k v hi=>by simpa using c (i+1) k v (by simpa using hi)⟩
theorem Jm {kk:IntKind}{n:Int}:{es:List (V×V)}->{es':List MapEntry}->(i:Nat)->Jq m es es'->jA kk es=true-> ∀j,
  (match mB kk n es with
   |some v=> ∃l x,Instr.findNow (.int j) (.int kk n) es' i=some (some (i+l,x))/\VR m v x/\l<es.length
   |none=>Instr.findNow (.int j) (.int kk n) es' i=some none)
 | [],es',i,h,_,j=>by
  have⟨f,_⟩:=h
  cases es' with
  |nil=>simp [mB,Instr.findNow]
  |cons _ _=>simp at f
 |(k,v)::es,es',i,h,c,j=>by
  cases es' with
  |nil=>simp [Jq] at h
  |cons e es'=>
   obtain⟨q,r,b⟩:=Pq h
   cases k with
   |int k' n'=>
    simp only[jA,oD,beq_iff_eq] at c;obtain⟨rfl,c⟩:=c;have a:e.key= .int k' n':=q;simp only[mB,if_true]
    by_cases o:n=n'
    .subst o
     rw[aS rfl];exact⟨0,e.val,by simp [Instr.findNow,Instr.sameNow,a],r,siM⟩
    .rw[aQ o]
     have d:=Jm (n:=n) (i+1) b c j
     have z:Instr.findNow (.int j) (.int k' n) (e::es') i=Instr.findNow (.int j) (.int k' n) es' (i+1):=by
      simp [Instr.findNow,Instr.sameNow,a,show (n==n')=false from by simpa using o]
     rw[z]
     cases hf:mB k' n es with
     |none=>simpa [hf] using d
     |some u=>
      simp only[hf] at d |-;have⟨l,x,f,s,A⟩:=d;exact⟨l+1,x,by rw[f];congr 3;omega,s,siO⟩
   |_=>simp [jA] at c
theorem Br (a:P.underlying kt=some (.int j))(b:Bool)(n:Nat)(x:Value):(Instr.checkKey b (n+1) kt x).run P w= .ok () w:=by
 simp [Instr.checkKey,run_underlying a]
theorem JS (G:HR P m h w)(O:gZ m h.next){L:TypeId}(K:P.underlying t=some (.map kt L))(u:P.underlying kt=some (.int j))(N:kX P L=some zu)
  {id:Nat}     (hx:VR m (.mp id) x) (hy:VR m (.int kk n) y) (Y:h.get id=some (.map es)) (o:jA kk es=true) (F:Bool):
  aY P m h w (Instr.lookup t x y F) (match mB kk n es with|some v=>(if F then .tup [v,.bool true] else v)|none=>(if F then .tup [zu,.bool false] else zu)) h:=by
 obtain⟨p,Z,rfl⟩:=hx
 obtain rfl:y= .int kk n:=hy
 obtain⟨p',A,q,r,W,B,R⟩:=G.live id _ Y
 rw[Z] at A;cases A
 have s:Jq m es q.toList:=⟨by simpa using B,λi k v hi=>by simpa using R i k v hi⟩
 have a:=Jm (n:=n) 0 s o j
 have b:(getObj p.1).run P w= .ok (.map q r) w:=by simp [getObj,Sem.run,W]
 have c:=Br (w:=w) u q.isEmpty 9999 (.int kk n)
 have f: ∃i z,P.info? L=some i/\i.zero=some z:=by
  unfold kX at N
  cases hi:P.info? L with
  |none=>simp [hi] at N
  |some i=>
   cases hzz:i.zero with
   |none=>simp [hi,hzz] at N
   |some z=>exact⟨i,z,rfl,hzz⟩
 have⟨i,z,hi,d⟩:=f
 obtain⟨_,_,J⟩:=kC m N hi d
 cases hf2:mB kk n es with
 |some v=>
  simp only[hf2] at a;have⟨l,x,Q,U,_⟩:=a;simp only[Nat.zero_add] at Q
  cases F with
  |true=>
   refine aY.still G O (x:= .tuple #[x,.bool true]) ?_ ⟨_,rfl,U,rfl,trivial⟩;simp [Instr.lookup,run_underlying K,b,c,Instr.findKey,run_underlying u,Q]
  |false=>
   refine aY.still G O (x:=x) ?_ U;simp [Instr.lookup,run_underlying K,b,c,Instr.findKey,run_underlying u,Q]
 |none=>
  simp only[hf2] at a
  cases F with
  |true=>
   refine aY.still G O (x:= .tuple #[z,.bool false]) ?_ ⟨_,rfl,J,rfl,trivial⟩;simp [Instr.lookup,run_underlying K,b,c,Instr.findKey,run_underlying u,a,zeroValue,typeInfo,hi,d]
  |false=>
   refine aY.still G O (x:=z) ?_ J;simp [Instr.lookup,run_underlying K,b,c,Instr.findKey,run_underlying u,a,zeroValue,typeInfo,hi,d]
theorem Nv {kk:IntKind}{n:Int}{y:V}{z:Value}(s:VR m y z):{es:List (V×V)}->{es':List MapEntry}->(i:Nat)->Jq m es es'->jA kk es=true-> ∀(j:IntKind) (born:Nat),
  (∃l x,Instr.findNow (.int j) (.int kk n) es' i=some (some (i+l,x))/\(∃e,es'[l]? =some e/\e.key= .int kk n)/\Jq m (rG kk n y es) (es'.modify l λe=>{e with key:= .int kk n,val:=z}))\/
  (Instr.findNow (.int j) (.int kk n) es' i=some none/\Jq m (rG kk n y es) (es'++ [{key:= .int kk n,val:=z,born:=born}]))
 | [],es',i,h,_,j,born=>by
  have⟨r,_⟩:=h
  cases es' with
  |nil=>
   refine .inr ⟨by simp [Instr.findNow],by simp [rG],λq k v a=>?_⟩
   cases q with
   |zero=>simp [rG] at a;obtain⟨rfl,rfl⟩:=a;exact⟨_,rfl,rfl,s⟩
   |succ q=>simp [rG] at a
  |cons _ _=>simp at r
 |(k,v)::es,es',i,h,f,j,born=>by
  cases es' with
  |nil=>simp [Jq] at h
  |cons e es'=>
   obtain⟨d,A,b⟩:=Pq h
   cases k with
   |int k' n'=>
    simp only[jA,oD,beq_iff_eq] at f;obtain⟨rfl,f⟩:=f;have c:e.key= .int k' n':=d;simp only[rG]
    by_cases u:n=n'
    .subst u
     rw[aS rfl];refine .inl ⟨0,e.val,by simp [Instr.findNow,Instr.sameNow,c],⟨e,rfl,c⟩,by simp [b.1],λq k v a=>?_⟩
     cases q with
     |zero=>simp at a;obtain⟨rfl,rfl⟩:=a;exact⟨_,rfl,rfl,s⟩
     |succ q=>simpa using b.2 q k v (by simpa using a)
    .rw[aQ u]
     have G:Instr.findNow (.int j) (.int k' n) (e::es') i=Instr.findNow (.int j) (.int k' n) es' (i+1):=by
      simp [Instr.findNow,Instr.sameNow,c,show (n==n')=false from by simpa using u]
     rw[G];rcases Nv (n:=n) s (i+1) b f j born with ⟨l,x,r,⟨e2,B,F⟩,o⟩|⟨r,o⟩
     .refine .inl ⟨l+1,x,by rw[r];congr 3;omega,⟨e2,by simpa using B,F⟩,by simpa using o.1,λq k v a=>?_⟩
      cases q with
      |zero=>simp at a;obtain⟨rfl,rfl⟩:=a;exact⟨e,rfl,d,A⟩
      |succ q=>simpa using o.2 q k v (by simpa using a)
     .refine .inr ⟨r,by simpa using o.1,λq k v a=>?_⟩
      cases q with
      |zero=>simp at a;obtain⟨rfl,rfl⟩:=a;exact⟨e,rfl,d,A⟩
      |succ q=>simpa using o.2 q k v (by simpa using a)
   |_=>simp [jA] at f
theorem AK (hr:HR P m h w)(hf:gZ m h.next){et:TypeId}(Y:P.underlying t=some (.map kt et))(Q:P.underlying kt=some (.int j))
  {id:Nat}    {v:V} {z:Value} (hx:VR m (.mp id) x) (hy:VR m (.int kk n) y) (hz:VR m v z) (Z:h.get id=some (.map es)) (s:jA kk es=true):
  ∃w',(Instr.mapUpdate t x y z).run P w= .ok () w'/\iR P m h w m (h.set id (some (.map (rG kk n v es)))) w':=by
 obtain⟨p,hp,rfl⟩:=hx
 obtain rfl:y= .int kk n:=hy
 obtain⟨p',F,d,a,B,J,W⟩:=hr.live id _ Z
 rw[hp] at F;cases F
 have u:Jq m es d.toList:=⟨by simpa using J,λi k v hi=>by simpa using W i k v hi⟩
 have r:(getObj p.1).run P w= .ok (.map d a) w:=by simp [getObj,Sem.run,B]
 have L:=Br (w:=w) Q false 9999 (.int kk n)
 have q: ∀o,(setObj p.1 o).run P w= .ok () (w.putObj p.1 o):=λo=>by simp [setObj,Sem.run,B,World.putObj]
 have O:p.1<w.heap.size:=(Vm.1 B).1
 have A: ∀f c,Jq m (rG kk n v es) (Array.toList f)->iR P m h w m (h.set id (some (.map (rG kk n v es)))) (w.putObj p.1 (.map f c)):=λf c K=>
  iR.put hr hf Z rfl rfl hp ⟨f,c,World.putObj_heap_same O,by simpa using K.1,λi k v hi=>by simpa using K.2 i k v hi⟩ rfl rfl rfl siM (λb B=>World.putObj_heap_other B)
 rcases Nv (n:=n) hz 0 u s j a with ⟨l,x,N,⟨e,h2,h3⟩,R⟩|⟨N,R⟩
 .simp only[Nat.zero_add] at N
  refine⟨_,?_,A (d.modify l λe=>{e with key:= .int kk n,val:=z}) a (by simpa using R)⟩
  have U:d[l]? =some e:=by simpa using h2
  have G:(Option.map MapEntry.key d[l]?).getD (.int kk n)= .int kk n:=by rw[U];exact h3
  have iS:(Instr.keyThatStays (.int kk n) (.int kk n)).run P w= .ok (.int kk n) w:=by
   simp [Instr.keyThatStays,Instr.sameBits]
  simp only[Instr.mapUpdate,Sem.run_bind,run_underlying Y,Result.andThen_ok,r,L,Instr.findKey,run_underlying Q,N,Sem.run_pure,G,iS,q]
 .refine⟨_,?_,A (d.push {key:= .int kk n,val:=z,born:=a}) (a+1) (by simpa using R)⟩
  simp only[Instr.mapUpdate,Sem.run_bind,run_underlying Y,Result.andThen_ok,r,L,Instr.findKey,run_underlying Q,N,Sem.run_pure,q]
end
end
end Go.Ay
namespace Go.Ay
open Go
def Goal (P:Program)(m:M)(h:H)(w:World)(o:Oper)(a:Act)(v:V)(h':H):Prop:=
 ∃x w' m',Yields P o a w x w'/\VR m' v x/\iR P m h w m' h' w'
section
variable {P:Program} {m:M} {h:H} {w:World} {o:Oper} {a:Act} {v:V} {h':H}
theorem aY.goal {s:Sem Value}(c:aY P m h w s v h')(d:execOp a.eval o=(do pure (.value (←s)))):Goal P m h w o a v h':=by
 have⟨x,i,k,b,j,f⟩:=c;exact⟨x,i,k,.inl (by rw[d];simp [b]),j,f⟩
theorem Fo (f:HR P m h w)(d:gZ m h.next){x:Value}(b:execOp a.eval o=pure (.value x))(c:VR m v x):Goal P m h w o a v h:=
 ⟨x,w,m,.inl (by rw[b];rfl),c,iR.refl f d⟩
theorem yU {s:Sem Unit}{w':World}{b:M}(d:execOp a.eval o=(do s;pure .skip))(c:s.run P w= .ok () w')(f:iR P m h w b h' w'):Goal P m h w o a V.undef h':=
 ⟨undef,w',b,.inr ⟨by rw[d];simp [c],rfl⟩,VR.undef b,f⟩
theorem qW {t:TypeId}{k:IntKind}(h:isInt P t=some k):P.underlying t=some (.int k):=by
 unfold isInt at h;split at h
 .cases h;assumption
 .cases h
theorem pJ {t e:TypeId}(h:By P t=some e):P.underlying t=some (.slice e):=by
 unfold By at h;split at h
 .cases h;assumption
 .cases h
theorem Qv {t:TypeId}{i:Nat}{f:Field}(h:Tp P t i=some f): ∃fs,P.underlying t=some (.struct fs)/\fs[i]? =some f:=by
 unfold Tp at h;split at h
 .exact⟨_,by assumption,h⟩
 .cases h
variable {nt:Nat} {pv defs:List Nat} {vars loc:List V}
theorem qJ (s:St m nt pv defs vars loc a){c:Option Operand}{xs:Option X}(b:Af pv defs c=some xs):UL m (xs.map (xv vars loc)) (c.map a.eval):=by
 cases c with
 |none=>simp only[Af] at b;cases b;trivial
 |some o=>
  simp only[Af,kU] at b;obtain⟨x,d,rfl⟩:=b;exact aN s d
theorem Yi (s:St m nt pv defs vars loc a){c:Array (Nat×Operand)}{f:Nat×Operand->X->Nat×X}{l:List (Nat×X)}
  (B:dB (c.toList.map λp=>(fS pv defs p.2).map (f p))=some l) (r: ∀p x,(f p x).2=x):
  l.length=(c.map λ(i,x)=>(i,a.eval x)).size/\ ∀(j:Nat) (b:Nat×X) (q:Nat×Value),l[j]? =some b->(c.map λ(i,x)=>(i,a.eval x)).toList[j]? =some q->
   ∃p,c.toList[j]? =some p/\q.1=p.1/\b=f p b.2/\VR m (xv vars loc b.2) q.2:=by
 obtain⟨A,u⟩:=iY B
 refine⟨by simpa using A,λj b q y t=>?_⟩
 simp only[Array.toList_map,Al,kU] at t
 obtain⟨p,n,rfl⟩:=t
 obtain⟨F,d,k⟩:=u j p n
 rw[y] at d;cases d
 simp only[kU] at k
 obtain⟨x,z,rfl⟩:=k
 exact⟨p,n,rfl,by rw[r],by rw[r];exact aN s z⟩
theorem Lp {d:Bool}(op:Value->Value->Sem Value)(c: ∀k x y,op (.int k x) (.int k y)=pure (.int k (if d then (if y>x then y else x) else (if y<x then y else x)))):
  ∀{vs:List V} {xs:List Value} {v u:V} {x:Value},VR m v x->iL m vs xs->OZ d v vs=some u->(xs= []->vs= [])-> ∃y,(xs.foldlM op x).run P w= .ok y w/\VR m u y
 | [], [],v,u,x,hv,_,he,_=>by simp only[OZ] at he;cases he;exact⟨x,rfl,hv⟩
 |b::vs,y::xs,v,u,x,hv,hvs,he,_=>by
  cases v with
  |int k n=>
   cases b with
   |int k' n'=>
    simp only[OZ] at he;split at he
    .rename_i i
     subst i;obtain rfl:x= .int k n:=hv;obtain rfl:y= .int k n':=hvs.1
     obtain⟨z,f,j⟩:=Lp op c (v:= .int k (if d then (if n'>n then n' else n) else (if n'<n then n' else n))) rfl hvs.2 he (λe=>by
      subst e
      cases vs with
      |nil=>rfl
      |cons _ _=>exact hvs.2.elim)
     exact⟨z,by simp only[List.foldlM_cons,c];exact f,j⟩
    .cases he
   |_=>simp [OZ] at he
  |_=>simp [OZ] at he
 | [],_::_,_,_,_,_,h,_,_=>h.elim
 |_::_, [],_,_,_,_,h,_,_=>h.elim
theorem AE (s:St m nt pv defs vars loc a)(O:HR P m h w)(U:gZ m h.next){c:Call}(d3:o.op= .call c){i:I}(d:rR P pv defs c o.type=some (.op i))(l:dI (xv vars loc) h i=some (v,h')):Goal P m h w o a v h':=by
 have⟨W,B,j⟩:=c
 have ex: ∀b,W= .builtin b-> ∀sv:Sem Value,builtin b j o.type (B.map fun| .const _=>true|_=>false) (B.map a.eval)=(do pure (.value (←sv)))->
   execOp a.eval o=(do pure (.value (←sv))):=by
  intro b Z sv c4
  unfold execOp
  rw[d3]
  subst Z
  simp only[resolve,Go.invoke]
  exact c4
 unfold rR at d
 cases W with
 |value f=>
  exfalso
  cases f with
  |func f=>simp only at d;split at d<;>simp at d
  |_=>simp [qA] at d
 |invoke r mm=>
  simp only at d;split at d
  .simp [qA] at d
  .cases d
 |builtin b=>
  cases b<;>simp only at d<;>try (cases d;done)
  case clear=>
   split at d
   .rename_i x t ha ht
    have N:B= #[x]:=by apply Array.toList_inj.1;simpa using ha
    have K:j= #[t]:=by apply Array.toList_inj.1;simpa using ht
    subst N;subst K;simp only[uA,qA] at d;have⟨e,a0,Y,L,d⟩:=d;split at d
    .cases d
    .rename_i a8
     have b5:Zx P e Y=true:=by cases hq:Zx P e Y with
      |true=>rfl
      |false=>exact absurd (.inr hq) a8
     have d1:Y≠0:=λe=>a8 (.inl e)
     simp only[qA] at d;have⟨zu,hz,cx,q,d⟩:=d;cases d;obtain⟨i2,z,J,a2,a4⟩:=Dr b5;have a1:i2.size=Y:=by unfold iZ at L;rw[J] at L;simpa using L
     obtain⟨b4,b8,_⟩:=kC m hz J a2;have A:=aN s q;have b2:=pJ a0
     have b1:{w':World}->{m':M}->(Builtin.clear_ #[t] o.type #[a.eval x]).run P w= .ok (.tuple #[]) w'->v=V.undef->iR P m h w m' h' w'->Goal P m h w o a v h':=by
      intro w' m' h1 h2 h3;subst h2;exact aY.goal (s:=Builtin.clear_ #[t] o.type #[a.eval x]) ⟨.tuple #[],w',m',h1,VR.undef m',h3⟩ (ex _ rfl _ (by simp [Go.builtin]))
     simp only[dI] at l;split at l
     .rename_i hx
      rw[hx] at A;cases l;have G:a.eval x= .slice none 0 0:=A;exact b1 (by simp [Builtin.clear_,G,run_underlying b2]) rfl (iR.refl O U)
     .rename_i ad hx
      rw[hx] at A;cases l;have G:a.eval x= .slice (some ad) 0 0:=A;exact b1 (by simp [Builtin.clear_,G,run_underlying b2]) rfl (iR.refl O U)
     .rename_i id d6 len cap hx
      rw[hx] at A;have⟨p,c,o',hp,G,d8,ho,_⟩:=A;split at l
      .rename_i h0
       cases l;subst h0;exact b1 (by simp [Builtin.clear_,G,run_underlying b2]) rfl (iR.refl O U)
      .rename_i h0
       obtain rfl:=ho om;split at l
       .rename_i c9
        simp only[kU] at l;have⟨h2,c3,l⟩:=l;cases l;have b3:0<zu.cells.length:=by rw[c9.1];omega
        have hv:=sY b4 b3 (len*Y);obtain⟨w',iS,c1⟩:=yY O U c3 hv (Ar b8 b3 _) hp;have b9:z.cells.size=Y:=by simpa using a4
        have c8:(zeroValue e).run P w= .ok z w:=by simp [zeroValue,typeInfo,J,a2]
        refine b1 ?_ rfl c1
        obtain⟨n,rfl⟩: ∃n,len=n+1:=⟨len- 1,om⟩
        have c2:(Builtin.zeroCells z.cells (n+1)).toList=((Array.range ((n+1)*Y)).map (z.cells[· %z.cells.size]!)).toList:=by
         unfold Builtin.zeroCells;rw[b9]
        simp [Builtin.clear_,G,run_underlying b2,c8];rw[c2,iS]
        rfl
       .cases l
     .cases l
   .cases d
  case append=>
   split at d
   .rename_i x y t u ha ht
    have N:B= #[x,y]:=by apply Array.toList_inj.1;simpa using ha
    have K:j= #[t,u]:=by apply Array.toList_inj.1;simpa using ht
    subst N;subst K;simp only[uA,qA] at d;have⟨e,a0,Y,L,d⟩:=d;split at d
    .cases d
    .rename_i a8
     have d1:Y≠0:=λe=>a8 (.inl e)
     have b5:Zx P e Y=true:=by cases hq:Zx P e Y with
      |true=>rfl
      |false=>exact absurd (.inr hq) a8
     obtain⟨i2,z,J,a2,a4⟩:=Dr b5;have a1:i2.size=Y:=by unfold iZ at L;rw[J] at L;simpa using L
     refine aY.goal (s:=Builtin.append_ #[t,u] o.type #[a.eval x,a.eval y]) ?_ (ex _ rfl _ (by simp [Go.builtin]));split at d
     .rename_i hu
      simp only[qA] at d;have⟨R,Z,cx,q,cy,a6,d⟩:=d;cases d;have b0:i2.bytes=R:=by unfold wT at Z;rw[J] at Z;simpa using Z
      simp only[dI] at l;split at l
      .rename_i k ys hk c6
       have a9:=aN s a6;obtain⟨ns,d5,c0,h1,hl⟩:=Hj O a9 hk c6;obtain⟨ab,ac,d0⟩:=qV a9 hk;exact Qt O U (pJ a0) J a2 a1 b0 a4 (aN s q) c0 h1 ⟨by rw[a1];exact hl,.inl ⟨_,hu,by rw[d0];rfl,by rw[a1];exact d5⟩⟩ l o.type
      .cases l
     .rename_i hu
      simp only[qA] at d;have⟨R,Z,zu,c7,cx,q,cy,a6,d⟩:=d;cases d;have b0:i2.bytes=R:=by unfold wT at Z;rw[J] at Z;simpa using Z
      simp only[dI] at l;have a9:=aN s a6;split at l
      .rename_i n d4
       rw[d4] at a9;split at l
       .rename_i b6
        have⟨n0,nb,d7,nz⟩:=b6;obtain⟨b4,b8,_⟩:=kC m c7 J a2;have hv:=sY b4 om (n.toNat*Y)
        have c5:a.eval y= .int .i64 ((n.toNat:Nat):Int):=by
         rw[show a.eval y= .int .i64 n from a9];congr 1;omega
        rw[c5];refine Qt O U (pJ a0) J a2 a1 b0 a4 (aN s q) hv (Ar b8 om _) ⟨by simp [a1],.inr ⟨_,hu,rfl,?_,om,λ_=>?_⟩⟩ l o.type
        .rw[b0]
         have:((n.toNat:Nat):Int)=n:=om
         rw[this];exact nb
        .apply Array.toList_inj.1
         simp [Builtin.zeroCells,a4]
       .cases l
      .cases l
     .cases d
   .cases d
  case cap=>
   split at d
   .rename_i x t ha ht
    have N:B= #[x]:=by apply Array.toList_inj.1;simpa using ha
    have K:j= #[t]:=by apply Array.toList_inj.1;simpa using ht
    subst N;subst K;split at d
    .rename_i e hu
     simp only[kU,dU.op.injEq] at d;obtain⟨cx,q,rfl⟩:=d;have A:=aN s q;simp only[dI] at l;refine aY.goal (s:=Builtin.cap_ #[t] o.type #[a.eval x]) ?_ (ex _ rfl _ (by simp [Go.builtin]));split at l
     .rename_i hx
      rw[hx] at A;cases l;refine aY.still O U (x:= .int .i64 0) ?_ rfl;rw[show a.eval x= .slice none 0 0 from A];simp [Builtin.cap_,run_underlying hu,goInt]
     .rename_i id d6 len c hx
      rw[hx] at A;split at l
      .cases l
       obtain⟨p,c',o',hp,G,_,_,rfl,rfl⟩:=A;refine aY.still O U (x:= .int .i64 c') ?_ rfl;rw[G];simp [Builtin.cap_,run_underlying hu,goInt]
      .cases l
     .cases l
    .cases d
   .cases d
  case copy=>
   split at d
   .rename_i x y t u ha ht
    have N:B= #[x,y]:=by apply Array.toList_inj.1;simpa using ha
    have K:j= #[t,u]:=by apply Array.toList_inj.1;simpa using ht
    subst N;subst K;simp only[uA,qA] at d;have⟨e,a0,Y,L,d⟩:=d;split at d
    .cases d
    .simp only[qA] at d
     have⟨cx,q,cy,a6,d⟩:=d;cases d;exact aY.goal (s:=Builtin.copy_ #[t,u] o.type #[a.eval x,a.eval y]) (JJ O U (pJ a0) L (aN s q) (aN s a6) l o.type) (ex _ rfl _ (by simp [Go.builtin]))
   .cases d
  case len=>
   split at d
   .rename_i x t ha ht
    have N:B= #[x]:=by apply Array.toList_inj.1;simpa using ha
    have K:j= #[t]:=by apply Array.toList_inj.1;simpa using ht
    subst N;subst K;split at d
    .rename_i e hu
     simp only[kU,dU.op.injEq] at d;obtain⟨cx,q,rfl⟩:=d;simp only[dI,kU] at l;have⟨n,hn,l⟩:=l;cases l;obtain⟨b,c,G⟩:=qV (aN s q) hn;refine aY.goal (s:=Builtin.len_ #[t] o.type #[a.eval x]) (aY.still O U (x:= .int .i64 n) ?_ rfl) (ex _ rfl _ (by simp [Go.builtin]));rw[G];simp [Builtin.len_,run_underlying hu,goInt]
    .rename_i k e hu
     simp only[kU,dU.op.injEq] at d;obtain⟨cx,q,rfl⟩:=d;have A:=aN s q;simp only[dI] at l;refine aY.goal (s:=Builtin.len_ #[t] o.type #[a.eval x]) ?_ (ex _ rfl _ (by simp [Go.builtin]));split at l
     .rename_i hx
      rw[hx] at A;cases l;refine aY.still O U (x:= .int .i64 0) ?_ rfl;rw[show a.eval x= .map none from A];simp [Builtin.len_,run_underlying hu,goInt]
     .rename_i id hx
      rw[hx] at A;split at l
      .rename_i es hg
       cases l;have⟨p,hp,G⟩:=A;obtain⟨p',a3,a7,Q,Z,hl,_⟩:=O.live id _ hg;rw[hp] at a3;cases a3;refine aY.still O U (x:= .int .i64 a7.size) ?_ (by rw[hl];rfl);rw[G];have a5:(getObj p.1).run P w= .ok (.map a7 Q) w:=by simp [getObj,Sem.run,Z]
       simp [Builtin.len_,run_underlying hu,goInt,a5]
      .rename_i sh es hg
       cases l;have⟨p,hp,G⟩:=A;obtain⟨p',a3,_,a7,Q,Z,hl,_⟩:=O.live id _ hg;rw[hp] at a3;cases a3;refine aY.still O U (x:= .int .i64 a7.size) ?_ (by rw[hl];rfl);rw[G];have a5:(getObj p.1).run P w= .ok (.map a7 Q) w:=by simp [getObj,Sem.run,Z]
       simp [Builtin.len_,run_underlying hu,goInt,a5]
      .cases l
     .cases l
    .cases d
   .cases d
  case max=>
   simp only[kU,dU.op.injEq] at d;obtain⟨cx,q,rfl⟩:=d;have F:=jU s q;simp only[dI] at l;refine aY.goal (s:=Builtin.max_ j o.type (B.map a.eval)) ?_ (ex _ rfl _ (by simp [Go.builtin]))
   cases hm:cx.map (xv vars loc) with
   |nil=>simp [hm] at l
   |cons u us=>
    rw[hm] at F;simp only[hm,kU] at l;have⟨r,b7,l⟩:=l;cases l
    cases hl:B.toList.map a.eval with
    |nil=>rw[hl] at F;exact F.elim
    |cons x xs=>
     rw[hl] at F;obtain⟨y,h1,h2⟩:=Lp (P:=P) (w:=w) Builtin.max2 (λk x y=>by simp [Builtin.max2]) F.1 F.2 b7 (λe=>by subst e;cases us<;>first|rfl|exact F.2.elim);refine aY.still O U (x:=y) ?_ h2;unfold Builtin.max_;rw[Array.toList_map,hl];exact h1
  case min=>
   simp only[kU,dU.op.injEq] at d;obtain⟨cx,q,rfl⟩:=d;have F:=jU s q;simp only[dI] at l;refine aY.goal (s:=Builtin.min_ j o.type (B.map a.eval)) ?_ (ex _ rfl _ (by simp [Go.builtin]))
   cases hm:cx.map (xv vars loc) with
   |nil=>simp [hm] at l
   |cons u us=>
    rw[hm] at F;simp only[hm,kU] at l;have⟨r,b7,l⟩:=l;cases l
    cases hl:B.toList.map a.eval with
    |nil=>rw[hl] at F;exact F.elim
    |cons x xs=>
     rw[hl] at F;obtain⟨y,h1,h2⟩:=Lp (P:=P) (w:=w) Builtin.min2 (λk x y=>by simp [Builtin.min2]) F.1 F.2 b7 (λe=>by subst e;cases us<;>first|rfl|exact F.2.elim);refine aY.still O U (x:=y) ?_ h2;unfold Builtin.min_;rw[Array.toList_map,hl];exact h1
end
end Go.Ay
namespace Go.Ay
open Go
section
variable {k v:V} {i id:Nat} {x y:Value} {kt t et:TypeId} {es:List (V×V)} {es':List MapEntry}
mutual
theorem Ft:(a b:V)->dS a b=true->a=b
 | .int ..,b,h=>by cases b<;>simp [dS] at h;simp [h]
 | .bool _,b,h=>by cases b<;>simp [dS] at h;simp [h]
 | .ptr ..,b,h=>by cases b<;>simp [dS] at h;simp [h]
 | .nilp,b,h=>by cases b<;>simp [dS] at h;rfl
 | .sl ..,b,h=>by cases b<;>simp [dS] at h;simp [h]
 | .aH,b,h=>by cases b<;>simp [dS] at h;rfl
 | .emp _,b,h=>by cases b<;>simp [dS] at h;rw[h]
 | .str _,b,h=>by cases b<;>simp [dS] at h;rw[h]
 | .ifc t x,b,h=>by
  cases b<;>simp [dS] at h;rw[h.1,Ft x _ h.2]
 | .mp _,b,h=>by cases b<;>simp [dS] at h;simp [h]
 | .nilm,b,h=>by cases b<;>simp [dS] at h;rfl
 | .fn _ a1 a2,b,h=>by
  cases b<;>simp [dS] at h;rw[h.1.1,En a1 _ h.1.2,En a2 _ h.2]
 | .yl _,b,h=>by cases b<;>simp [dS] at h;simp [h]
 | .nilf,b,h=>by cases b<;>simp [dS] at h;rfl
 | .agg a,b,h=>by
  cases b<;>simp [dS] at h;rw[En a _ h]
 | .tup a,b,h=>by
  cases b<;>simp [dS] at h;rw[En a _ h]
 | .unk,b,h=>by simp [dS] at h
theorem En:(a b:List V)->qE a b=true->a=b
 | [], [],_=>rfl
 |x::a,y::b,h=>by
  simp only[qE,oD] at h;rw[Ft x y h.1,En a b h.2]
 | [],_::_,h=>by simp [qE] at h
 |_::_, [],h=>by simp [qE] at h
end
def Ml (k:IntKind):V->Bool:=fun| .int j a=>decide (j=k)&&(decide (k.min<=a)&&decide (a<=k.max))|_=>false
theorem qZ {k:IntKind}(h:Ml k v=true): ∃a,v= .int k a/\(Lit.int k a).wf=true:=by
 cases v<;>simp [Ml] at h;rename_i j a;obtain⟨rfl,b,c⟩:=h;exact⟨a,rfl,by simp [Lit.wf,b,c]⟩
theorem Oe {k:IntKind}:{l:List V}->l.all (Ml k)=true->qE l l=true
 | [],_=>rfl
 |v::l,h=>by
  simp only[List.all_cons,oD] at h;obtain⟨a,rfl,_⟩:=qZ h.1;simp only[qE,dS,beq_self_eq_true,Bool.true_and];exact Oe h.2
theorem GF {a:vF}(h:isKey a k=true):dS k k=true:=by
 cases a<;>cases k<;>simp only[isKey,Bool.false_eq_true] at h
 .simp [dS]
 .rename_i n j b
  simp only[oD] at h;simp only[dS];exact Oe (k:=j) h.2
theorem aeN {l:List Nat}{c:Nat}(h:l[i]? =some c):(⟨(l.map UInt8.ofNat).toArray⟩:ByteArray)[i]? =some (UInt8.ofNat c):=by
 obtain⟨a,d⟩:=Iq.1 h;have b:i<(⟨(l.map UInt8.ofNat).toArray⟩:ByteArray).size:=by show i<(l.map UInt8.ofNat).toArray.size;simpa using a
 rw[getElem?_pos _ i b];congr 1;show (l.map UInt8.ofNat).toArray[i]=_;simp [d]
section
variable {P:Program} {m:M} {h:H} {w:World}
theorem iL.ints {k:IntKind}:{l:List V}->{xs:List Value}->iL m l xs->l.all (Ml k)=true-> ∀x∈xs,∃a,x= .int k a/\(Lit.int k a).wf=true
 | [], [],_,_,x,b=>by simp at b
 |v::l,y::xs,h,ha,x,b=>by
  simp only[List.all_cons,oD] at ha;rcases Hu.1 b with rfl|b
  .obtain⟨a,rfl,c⟩:=qZ ha.1
   exact⟨a,h.1,c⟩
  .exact iL.ints h.2 ha.2 x b
 | [],_::_,h,_,_,_=>h.elim
 |_::_, [],h,_,_,_=>h.elim
theorem iL.iE {k:IntKind}:{l:List V}->{xs ys:List Value}->l.all (Ml k)=true->iL m l xs->iL m l ys->xs=ys
 | [], [], [],_,_,_=>rfl
 |v::l,x::xs,y::ys,ha,h1,h2=>by
  simp only[List.all_cons,oD] at ha;obtain⟨a,rfl,_⟩:=qZ ha.1;rw[show x= .int k a from h1.1,show y= .int k a from h2.1,iL.iE ha.2 h1.2 h2.2]
 | [],_::_,_,_,h,_=>h.elim
 | [], [],_::_,_,_,h=>h.elim
 |_::_, [],_,_,h,_=>h.elim
 |_::_,_::_, [],_,_,h=>h.elim
theorem iL.inj {k:IntKind}:{l l':List V}->{xs:List Value}->l.all (Ml k)=true->l'.all (Ml k)=true->iL m l xs->iL m l' xs->l=l'
 | [], [], [],_,_,_,_=>rfl
 |v::l,v'::l',x::xs,ha,hb,h1,h2=>by
  simp only[List.all_cons,oD] at ha hb;obtain⟨a,rfl,_⟩:=qZ ha.1;obtain⟨b,rfl,_⟩:=qZ hb.1;have:(Value.int k a)= .int k b:=(show x= .int k a from h1.1).symm.trans h2.1;cases this;rw[iL.inj ha.2 hb.2 h1.2 h2.2]
 | [],_,_::_,_,_,h,_=>h.elim
 |_, [],_::_,_,_,_,h=>h.elim
 |_::_,_, [],_,_,h,_=>h.elim
 |_,_::_, [],_,_,_,h=>h.elim
theorem Gd:{l:List Nat}->l.all (λn=>decide (n<256))=true->(l.map UInt8.ofNat).map UInt8.toNat=l
 | [],_=>rfl
 |n::l,h=>by
  simp only[List.all_cons,oD,decide_eq_true_eq] at h;simp only[List.map_cons,List.cons.injEq];exact⟨by simp [UInt8.toNat_ofNat];omega,Gd h.2⟩
theorem aaL {c:vF}(a:isKey c k=true)(d:VR m k x)(b:VR m k y):x=y:=by
 cases c<;>cases k<;>simp only[isKey,Bool.false_eq_true] at a
 .rename_i l
  rw[show x= .string ⟨(l.map UInt8.ofNat).toArray⟩ from d,show y= .string ⟨(l.map UInt8.ofNat).toArray⟩ from b]
 .rename_i n j r
  simp only[oD] at a;obtain⟨xs,rfl,q⟩:=d;obtain⟨f,rfl,o⟩:=b;have:xs=f:=Array.toList_inj.1 (iL.iE (k:=j) a.2 q o);rw[this]
theorem key_inj {d:vF}{c:V}(b:isKey d k=true)(a:isKey d c=true)(o:VR m k x)(f:VR m c x):k=c:=by
 cases d<;>cases k<;>simp only[isKey,Bool.false_eq_true] at b<;>cases c<;>simp only[isKey,Bool.false_eq_true] at a
 .rename_i l r
  simp only[oD] at b a;have e:Value.string ⟨(l.map UInt8.ofNat).toArray⟩= .string ⟨(r.map UInt8.ofNat).toArray⟩:=(show x=_ from o).symm.trans f;simp only[Value.string.injEq,ByteArray.mk.injEq] at e;have e2:l.map UInt8.ofNat=r.map UInt8.ofNat:=by simpa using e
  have q:=congrArg (List.map UInt8.toNat) e2;rw[Gd b.2,Gd a.2] at q;rw[q]
 .rename_i n j B u
  simp only[oD] at b a;obtain⟨xs,rfl,z⟩:=o;have⟨A,e,s⟩:=f;cases e;rw[iL.inj (k:=j) b.2 a.2 z s]
theorem mapM_some {α β:Type}{f:α->Option β}:(l:List α)->(∀a∈l,∃b,f a=some b)-> ∃bs,l.mapM f=some bs
 | [],_=>⟨[],rfl⟩
 |a::l,h=>by
  obtain⟨b,j⟩:=h a siM;obtain⟨bs,d⟩:=mapM_some l (λc n=>h c (by simp [n]));exact⟨b::bs,by rw[List.mapM_cons,j,d];rfl⟩
theorem Ll {K:vF}(b:Ka P kt=some K)(j:isKey K k=true)(J:VR m k x):WideMaps.KeyLaw P kt/\ ∃l,keyOf P kt x=some l:=by
 unfold Ka at b;split at b
 .rename_i d
  cases b;cases k<;>simp only[isKey,Bool.false_eq_true] at j;rename_i l;simp only[oD,decide_eq_true_eq] at j;refine⟨WideMaps.string_law d,.string (l.map UInt8.ofNat).toArray.toList,?_⟩;rw[show x= .string ⟨(l.map UInt8.ofNat).toArray⟩ from J];refine WideMaps.keyOf_string_mk (s:=⟨(l.map UInt8.ofNat).toArray⟩) d ?_;show (l.map UInt8.ofNat).toArray.size<=maxLen;have:maxLen=2^63- 1:=rfl;have:=j.1;simp;omega
 .rename_i n e d
  split at b
  .rename_i q L
   split at b
   .rename_i B
    cases b;cases k<;>simp only[isKey,Bool.false_eq_true] at j;rename_i Y;simp only[oD,decide_eq_true_eq] at j
    have A:WideMaps.ArrKey P kt e n:=⟨d,by simp [Program.plainKey,L],B.1,B.2.1⟩
    have r: ∃m,P.types.size=m+1:=⟨P.types.size- 1,om⟩
    have F:=A.keyType r;have⟨R,z⟩:=r;obtain⟨xs,rfl,N⟩:=J;have c:xs.size=n:=by have:=iL.length N;simp at this;omega
    have f:=iL.ints (k:=q) N j.2
    have U: ∃G,(List.range n).mapM (λi=>P.keyLits (R+1) e ((xs.toList.drop (i*P.cellsOf e)).take (P.cellsOf e)))=some G:=by
     refine mapM_some _ (λi hi=>?_);have Q:i<n:=by simpa using hi
     rw[B.1,jP];have o:i<xs.toList.length:=siO
     have e1:(xs.toList.drop i).take 1= [xs.toList[i]]:=by rw[EF o];rfl
     rw[e1];obtain⟨a,W,O⟩:=f _ (Hn o);rw[W];exact⟨[.int q a],by simp [Program.keyLits,L,O]⟩
    have⟨G,u⟩:=U;refine⟨A.law,?_⟩;unfold keyOf;simp only[d];rw[aS (by simp [F,Value.formed,d,A.size,c]),z];unfold Program.keyLits;simp only[d,Value.cells];rw[aS (by rw[A.size];simpa using c),u];exact⟨_,rfl⟩
   .cases b
  .cases b
 .cases b
theorem Bc {k:V}:{es:List (V×V)}->{q:Nat×V}->fR k es=some q-> ∃k',es[q.1]? =some (k',q.2)/\dS k k'=true
 | [],q,h=>by simp [fR] at h
 |e::es,q,h=>by
  simp only[fR] at h;split at h
  .rename_i b
   cases h;exact⟨e.1,rfl,b⟩
  .simp only[kU] at h
   obtain⟨r,d,rfl⟩:=h;obtain⟨k',a,c⟩:=Bc d;exact⟨k',by simpa using a,c⟩
theorem Au {k:V}:{es:List (V×V)}->fR k es=none-> ∀e∈es,dS k e.1=false
 | [],_,e,a=>by simp at a
 |e::es,h,e',a=>by
  simp only[fR] at h;split at h
  .cases h
  .rename_i b
   simp only[Option.map_eq_none_iff] at h;rcases Hu.1 a with rfl|a
   .simpa using b
   .exact Au h e' a
structure WR (m:M)(sh:vF)(es:List (V×V))(es':List MapEntry):Prop where
 len:es.length=es'.length
 one:(i j:Nat)->(a b:V×V)->es[i]? =some a->es[j]? =some b->dS a.1 b.1=true->i=j
 kH:(i:Nat)->(k v:V)->es[i]? =some (k,v)->isKey sh k=true/\ ∃e:MapEntry,es'[i]? =some e/\e.born=i/\VR m k e.key/\VR m v e.val
theorem WR.keys {c:vF}(W:WR m c es es')(n:Ka P kt=some c): ∀e∈es',∃l,keyOf P kt e.key=some l:=by
 intro e f;obtain⟨i,hi⟩:=List.mem_iff_getElem?.1 f;have a:i<es.length:=by rw[W.len];exact (Iq.1 hi).1
 obtain⟨d,o,b,_,j,_⟩:=W.kH i _ _ (dJ a);rw[hi] at b;cases b;exact (Ll n d j).2
theorem yF {F:vF}(W:WR m F es es')(O:Ka P kt=some F)(A:isKey F k=true)(J:VR m k x):
  (∃i v e,fR k es=some (i,v)/\es[i]? =some (k,v)/\es'[i]? =some e/\e.born=i/\e.key=x/\VR m v e.val/\(Instr.findKey kt x es').run P w= .ok (some (i,e.val)) w)\/
  (fR k es=none/\(∀e∈es,dS k e.1=false)/\(Instr.findKey kt x es').run P w= .ok none w):=by
 obtain⟨K,l,hl⟩:=Ll O A J
 have s:(i:Nat)->(d v:V)->es[i]? =some (d,v)->dS k d=true-> ∃e,es'[i]? =some e/\e.key=x:=by
  intro i d v hi L;obtain⟨r,e,a,_,b,_⟩:=W.kH i d v hi;have:=Ft _ _ L;subst this;exact⟨e,a,aaL A b J⟩
 have u:(j:Nat)->(e:MapEntry)->es'[j]? =some e->e.key=x-> ∃v,es[j]? =some (k,v):=by
  intro j e Q L;have f:j<es.length:=by rw[W.len];exact (Iq.1 Q).1
  obtain⟨r,Y,a,_,b,_⟩:=W.kH j _ _ (dJ f);rw[Q] at a;cases a;rw[L] at b;have:=key_inj A r J b;exact⟨es[j].2,by rw[dJ f,this];rfl⟩
 rcases K.find w hl es' (W.keys O) with ⟨a,n⟩|⟨j,e,a,n,b⟩
 .refine .inr ?_
  cases hf:fR k es with
  |none=>exact⟨rfl,Au hf,a⟩
  |some q=>
   exfalso;obtain⟨d,c,B⟩:=Bc hf;obtain⟨e,h6,U⟩:=s _ _ _ c B;exact n e (HP h6) U
 .refine .inl ?_
  obtain⟨v,z⟩:=u j e n b
  cases hf:fR k es with
  |none=>exact absurd (GF A) (by rw[Au hf _ (HP z)];simp)
  |some q=>
   obtain⟨d,c,B⟩:=Bc hf;have G:=Ft _ _ B;subst G;have o:q.1=j:=W.one _ _ _ _ c z B;have⟨i,v'⟩:=q;simp only at o c;subst o;rw[z] at c;cases c;obtain⟨_,Y,N,R,g3,Z⟩:=W.kH i k v z;rw[n] at N;cases N;exact⟨i,v,e,rfl,z,n,R,b,Z,a⟩
theorem WR.push {l:vF}(W:WR m l es es')(r:isKey l k=true)(G:VR m k x)(A:VR m v y)(q: ∀e∈es,dS k e.1=false):
  WR m l (es++ [(k,v)]) (es'++ [{key:=x,val:=y,born:=es'.length}]):=by
 refine⟨by simp [W.len],λi j a b K F d=>?_,λi O z hi=>?_⟩
 .have n:(i:Nat)->(a:V×V)->(es++ [(k,v)])[i]? =some a->(i<es.length/\es[i]? =some a)\/(i=es.length/\a=(k,v)):=by
   intro i a h
   by_cases hi:i<es.length
   .exact .inl ⟨hi,by rwa [Aw hi] at h⟩
   .rw[Hs om] at h
    by_cases f:i-es.length=0
    .rw[f] at h;simp at h;exact .inr ⟨om,h.symm⟩
    .rw[List.getElem?_eq_none siO] at h;cases h
  rcases n i a K with ⟨N,o⟩|⟨N,rfl⟩<;>rcases n j b F with ⟨B,s⟩|⟨B,rfl⟩
  .exact W.one i j a b o s d
  .have:=q a (HP o)
   have e2:=Ft _ _ d;simp only at e2;rw[e2,GF r] at this;cases this
  .have:=q b (HP s)
   simp only at d;rw[d] at this;cases this
  .omega
 .by_cases c:i<es.length
  .rw[Aw c] at hi
   obtain⟨L,e,u,J⟩:=W.kH i O z hi
   exact⟨L,e,by rw[Aw (by rw[<-W.len];exact c)];exact u,J⟩
  .rw[Hs om] at hi
   by_cases f:i-es.length=0
   .rw[f] at hi;simp at hi
    obtain⟨rfl,rfl⟩:=hi
    have:i=es'.length:=by rw[<-W.len];omega
    subst this
    exact⟨r,{key:=x,val:=y,born:=es'.length},siM,rfl,G,A⟩
   .rw[List.getElem?_eq_none siO] at hi;cases hi
theorem WR.VL {G:vF}(W:WR m G es es'){o:V}{e:MapEntry}(hi:es[i]? =some (k,v))(Y:es'[i]? =some e)(L:VR m o y):
  WR m G (es.set i (k,o)) (es'.set i {e with val:=y}):=by
 have c:i<es.length:=(Iq.1 hi).1
 have f:i<es'.length:=by rw[<-W.len];exact c
 have u:(j:Nat)->(a:V×V)->(es.set i (k,o))[j]? =some a-> ∃b,es[j]? =some b/\b.1=a.1/\((j=i/\a=(k,o))\/(j≠i/\b=a)):=by
  intro j a h
  by_cases l:j=i
  .subst l
   rw[List.getElem?_set_self c] at h;cases h;exact⟨_,hi,rfl,.inl ⟨rfl,rfl⟩⟩
  .rw[List.getElem?_set_ne (λe=>l e.symm)] at h
   exact⟨a,h,rfl,.inr ⟨l,rfl⟩⟩
 refine⟨by simp [W.len],λp q a b Q O s=>?_,λj K Z l=>?_⟩
 .obtain⟨R,B,F,_⟩:=u p a Q
  obtain⟨N,d,U,_⟩:=u q b O
  exact W.one p q R N B d (by rw[F,U];exact s)
 .obtain⟨b,B,F,d⟩:=u j _ l
  rcases d with ⟨rfl,d⟩|⟨r,rfl⟩
  .cases d
   obtain⟨A,J,n,z,g3,_⟩:=W.kH j k v hi
   rw[Y] at n;cases n
   exact⟨A,_,List.getElem?_set_self f,z,g3,L⟩
  .obtain⟨A,J,n,z⟩:=W.kH j K Z B
   exact⟨A,J,by rw[List.getElem?_set_ne (λe=>r e.symm)];exact n,z⟩
theorem uT {α:Type}(f:α->α):(l:List α)->(i:Nat)->(a:α)->l[i]? =some a->l.modify i f=l.set i (f a)
 | [],_,_,h=>by simp at h
 |b::l,0,a,h=>by simp at h;subst h;rfl
 |b::l,i+1,a,h=>by simp at h;simp [List.modify_succ_cons,uT f l i a h]
theorem jN {α:Type}:(l:List α)->(i:Nat)->(a:α)->l[i]? =some a->l.set i a=l
 | [],_,_,h=>by simp at h
 |b::l,0,a,h=>by simp at h;subst h;rfl
 |b::l,i+1,a,h=>by simp at h;simp [jN l i a h]
theorem tS (l:HR P m h w){f:vF}{p:Nat×Nat×Nat}(j:m id=some p)(r:h.get id=some (.wmap f es)):
  ∃es':Array MapEntry,w.heap[p.1]? =some (.map es' es'.size)/\WR m f es es'.toList:=by
 obtain⟨s,a,n,es',d,o,b,q,c⟩:=l.live id _ r
 rw[j] at a;cases a
 subst q
 exact⟨es',o,by simpa using b,n,λi k v hi=>by simpa using c i k v hi⟩
theorem MY (q:HR P m h w)(s:gZ m h.next){F:vF}{B:V}(u:P.underlying t=some (.map kt et))(L:Ka P kt=some F)(A:kX P et=some B)
      (Y:VR m (.mp id) x) (J:VR m k y) (U:h.get id=some (.wmap F es)) (d:isKey F k=true) (o:Bool):
  aY P m h w (Instr.lookup t x y o) (match fR k es with|some e=>(if o then .tup [e.2,.bool true] else e.2)|none=>(if o then .tup [B,.bool false] else B)) h:=by
 obtain⟨p,O,rfl⟩:=Y
 obtain⟨es',R,W⟩:=tS q O U
 obtain⟨K,l,Q⟩:=Ll L d J
 have b:(getObj p.1).run P w= .ok (.map es' es'.size) w:=by simp [getObj,Sem.run,R]
 have c:=K.check w es'.isEmpty Q
 have n: ∃i z,P.info? et=some i/\i.zero=some z:=by
  unfold kX at A
  cases hi:P.info? et with
  |none=>simp [hi] at A
  |some i=>
   cases hzz:i.zero with
   |none=>simp [hi,hzz] at A
   |some z=>exact⟨i,z,rfl,hzz⟩
 have⟨i,z,hi,f⟩:=n
 obtain⟨_,_,r⟩:=kC m A hi f
 rcases yF (w:=w) W L d J with ⟨j,v,e,G,_,_,_,_,N,a⟩|⟨G,_,a⟩
 .rw[G]
  cases o with
  |true=>
   refine aY.still q s (x:= .tuple #[e.val,.bool true]) ?_ ⟨_,rfl,N,rfl,trivial⟩;simp [Instr.lookup,run_underlying u,b,c,a]
  |false=>
   refine aY.still q s (x:=e.val) ?_ N;simp [Instr.lookup,run_underlying u,b,c,a]
 .rw[G]
  cases o with
  |true=>
   refine aY.still q s (x:= .tuple #[z,.bool false]) ?_ ⟨_,rfl,r,rfl,trivial⟩;simp [Instr.lookup,run_underlying u,b,c,a,zeroValue,typeInfo,hi,f]
  |false=>
   refine aY.still q s (x:=z) ?_ r;simp [Instr.lookup,run_underlying u,b,c,a,zeroValue,typeInfo,hi,f]
theorem XH (l:HR P m h w)(o:gZ m h.next){f:vF}{a:List (V×V)}{p:Nat×Nat×Nat}(j:m id=some p)(n:h.get id=some (.wmap f es))
  {es':Array MapEntry} (W:WR m f a es'.toList):(setObj p.1 (.map es' es'.size)).run P w= .ok () (w.putObj p.1 (.map es' es'.size))/\
   iR P m h w m (h.set id (some (.wmap f a))) (w.putObj p.1 (.map es' es'.size)):=by
 obtain⟨q,c,_⟩:=tS l j n
 have d:p.1<w.heap.size:=(Vm.1 c).1
 refine⟨by simp [setObj,Sem.run,c,World.putObj],?_⟩
 exact iR.put l o n rfl rfl j ⟨W.one,es',es'.size,World.putObj_heap_same d,by simpa using W.len,rfl,λi k v hi=>by simpa using W.kH i k v hi⟩ rfl rfl rfl siM (λb c=>World.putObj_heap_other c)
theorem NY (F:HR P m h w)(U:gZ m h.next){f:vF}(N:P.underlying t=some (.map kt et))(O:Ka P kt=some f)
     {z:Value} (hx:VR m (.mp id) x) (B:VR m k y) (R:VR m v z) (r:h.get id=some (.wmap f es)) (a:isKey f k=true):
  ∃w',(Instr.mapUpdate t x y z).run P w= .ok () w'/\iR P m h w m (h.set id (some (.wmap f (match fR k es with|some e=>es.set e.1 (k,v)|none=>es++ [(k,v)])))) w':=by
 obtain⟨p,A,rfl⟩:=hx
 obtain⟨es',hb,W⟩:=tS F A r
 obtain⟨K,l,Y⟩:=Ll O a B
 have c:(getObj p.1).run P w= .ok (.map es' es'.size) w:=by simp [getObj,Sem.run,hb]
 have q:=K.check w false Y
 rcases yF (w:=w) W O a B with ⟨i,u,e,s,Z,G,h4,Q,_,b⟩|⟨s,hn,b⟩
 .rw[s]
  have J:es'[i]? =some e:=by simpa using G
  have iS:=K.stays w Y
  have n:(es'.modify i λe=>{e with key:=y,val:=z}).toList=es'.toList.set i {e with val:=z}:=by
   rw[Array.toList_modify,uT _ _ _ _ G,<-Q]
  have L:WR m f (es.set i (k,v)) (es'.modify i λe=>{e with key:=y,val:=z}).toList:=by
   rw[n];exact W.VL Z G R
  obtain⟨o,j⟩:=XH F U A r L
  simp only[Array.size_modify] at o j
  refine⟨_,?_,j⟩
  have d:(Option.map MapEntry.key es'[i]?).getD y=y:=by rw[J];exact Q
  simp only[Instr.mapUpdate,Sem.run_bind,run_underlying N,Result.andThen_ok,c,q,b,Sem.run_pure,d,iS,o]
 .rw[s]
  have L:WR m f (es++ [(k,v)]) (es'.push {key:=y,val:=z,born:=es'.size}).toList:=by
   rw[Array.toList_push];have:=W.push a B R hn;simpa using this
  obtain⟨o,j⟩:=XH F U A r L
  simp only[Array.size_push] at o j
  refine⟨_,?_,j⟩
  simp only[Instr.mapUpdate,Sem.run_bind,run_underlying N,Result.andThen_ok,c,q,b,Sem.run_pure,o]
theorem JU (J:HR P m h w)(U:gZ m h.next){o:vF}{B:V}(ht:P.underlying t=some (.map kt et))(hk:Ka P kt=some o)(F:kX P et=some B)
      (hx:VR m (.mp id) x) (Y:VR m k y) (N:h.get id=some (.wmap o es)) (a:isKey o k=true):
  aY P m h w (Instr.mapEntry t x y) (match fR k es with|some e=> .tup [e.2,.int .i64 (e.1:Nat)]|none=> .tup [B,.int .i64 es.length])
   (match fR k es with|some _=>h|none=>h.set id (some (.wmap o (es++ [(k,B)])))):=by
 obtain⟨p,R,rfl⟩:=hx
 obtain⟨es',L,W⟩:=tS J R N
 obtain⟨K,l,hl⟩:=Ll hk a Y
 have a1:p.1<w.heap.size:=(Vm.1 L).1
 have c:(getObj p.1).run P w= .ok (.map es' es'.size) w:=by simp [getObj,Sem.run,L]
 have s:=K.check w false hl
 have f: ∃i z,P.info? et=some i/\i.zero=some z:=by
  unfold kX at F
  cases hi:P.info? et with
  |none=>simp [hi] at F
  |some i=>
   cases hzz:i.zero with
   |none=>simp [hi,hzz] at F
   |some z=>exact⟨i,z,rfl,hzz⟩
 have⟨i,z,hi,q⟩:=f
 obtain⟨_,_,A⟩:=kC m F hi q
 rcases yF (w:=w) W hk a Y with ⟨i,u,e,Q,h2,Z,h4,h5,h6,b⟩|⟨Q,hn,b⟩
 .rw[Q]
  have j:es'[i]? =some e:=by simpa using Z
  have iS:=K.stays w hl
  have r:(es'.modify i λe=>{e with key:=y})=es':=by
   apply Array.toList_inj.1;rw[Array.toList_modify,uT _ _ _ _ Z,<-h5];exact jN _ _ _ Z
  have d:(Option.map MapEntry.key es'[i]?).getD y=y:=by rw[j];exact h5
  have a0:(Option.map MapEntry.born es'[i]?).getD 0=i:=by rw[j];exact h4
  have W1:WR m o (es.set i (k,u)) es'.toList:=by rw[jN _ _ _ h2];exact W
  obtain⟨G,O⟩:=XH J U R N W1
  have n:w.putObj p.1 (.map es' es'.size)=w:=by
   have:w.heap.setIfInBounds p.1 (.map es' es'.size)=w.heap:=by
    apply Array.ext';simp only[Array.toList_setIfInBounds];exact jN _ _ _ (by simpa using L)
   unfold World.putObj;rw[this]
  refine aY.still J U (x:= .tuple #[e.val,goInt (i:Nat)]) ?_ ⟨_,rfl,h6,rfl,trivial⟩
  simp only[Instr.mapEntry,Sem.run_bind,run_underlying ht,Result.andThen_ok,c,s,b,Sem.run_pure,d,iS,r,G,n]
  simp [j,h4]
 .rw[Q]
  have W2:WR m o (es++ [(k,B)]) (es'.push {key:=y,val:=z,born:=es'.size}).toList:=by
   rw[Array.toList_push];have:=W.push a Y A hn;simpa using this
  obtain⟨G,O⟩:=XH J U R N W2
  simp only[Array.size_push] at G O
  refine⟨.tuple #[z,goInt (es'.size:Nat)],_,m,?_,⟨_,rfl,A,?_,trivial⟩,O⟩
  .simp [Instr.mapEntry,run_underlying ht,c,s,b,zeroValue,typeInfo,hi,q,G]
  .have:es.length=es'.size:=by simpa using W.len
   rw[this];rfl
theorem Lj:(l:List MapEntry)->(o i:Nat)->((j:Nat)->(e:MapEntry)->l[j]? =some e->e.born=o+j)->i<l.length->l.findIdx? (λe=>((e.born:Nat):Int)==((o+i:Nat):Int))=some i
 | [],_,_,_,h=>by simp at h
 |a::l,o,0,hb,_=>by
  have:=hb 0 a rfl;simp [List.findIdx?_cons,this]
 |a::l,o,i+1,hb,hl=>by
  have f:=hb 0 a rfl;have c:=Lj l (o+1) i (λj e d=>by have:=hb (j+1) e (by simpa using d);omega) (by simpa using hl)
  have b:(((a.born:Nat):Int)==((o+(i+1):Nat):Int))=false:=by
   simp only[beq_eq_false_iff_ne,ne_eq,Int.natCast_inj];omega
  rw[List.findIdx?_cons,b];have e1:o+1+i=o+(i+1):=om
  rw[e1] at c;rw[c];rfl
theorem KH (s:HR P m h w)(F:gZ m h.next){l:vF}{u:V}{z:Value}(J:VR m (.mp id) x)(L:VR m v z)(A:h.get id=some (.wmap l es))(hi:es[i]? =some (k,u)):
  ∃w',(Instr.entryStore t x (.int .i64 (i:Nat)) z).run P w= .ok () w'/\iR P m h w m (h.set id (some (.wmap l (es.set i (k,v))))) w':=by
 obtain⟨p,q,rfl⟩:=J
 obtain⟨es',G,W⟩:=tS s q A
 have a:(getObj p.1).run P w= .ok (.map es' es'.size) w:=by simp [getObj,Sem.run,G]
 have f:i<es.length:=(Iq.1 hi).1
 obtain⟨_,e,r,_⟩:=W.kH i k u hi
 have b:es'.findIdx? (λe=>((e.born:Nat):Int)==((i:Nat):Int))=some i:=by
  have:es'.findIdx? (λe=>((e.born:Nat):Int)==((i:Nat):Int))=es'.toList.findIdx? (λe=>((e.born:Nat):Int)==((i:Nat):Int)):=by
   cases es';simp
  rw[this]
  have:=Lj es'.toList 0 i (λj e B=>by
   have o:j<es.length:=by rw[W.len];exact (Iq.1 B).1
   obtain⟨_,N,c,n,_⟩:=W.kH j _ _ (dJ o)
   rw[B] at c;cases c;omega) (by rw[<-W.len];exact f)
  simpa using this
 have d:(es'.modify i λe=>{e with val:=z}).toList=es'.toList.set i {e with val:=z}:=by
  rw[Array.toList_modify,uT _ _ _ _ r]
 have K:WR m l (es.set i (k,v)) (es'.modify i λe=>{e with val:=z}).toList:=by
  rw[d];exact W.VL hi r L
 obtain⟨c,n⟩:=XH s F q A K
 simp only[Array.size_modify] at c n
 refine⟨_,?_,n⟩
 simp [Instr.entryStore,a,asInt,asIntOf,b,c]
theorem FM (a b:List Nat):((⟨(a.map UInt8.ofNat).toArray⟩:ByteArray).toList==(⟨(b.map UInt8.ofNat).toArray⟩:ByteArray).toList)=(a.map (· %256)==b.map (· %256)):=by
 rw[ByteArray.toList_eq,ByteArray.toList_eq];simp only
 have c:(a b:List Nat)->(a.map UInt8.ofNat=b.map UInt8.ofNat)↔a.map (· %256)=b.map (· %256):=by
  intro a
  induction a with
  |nil=>intro b;cases b<;>simp
  |cons x a ih=>
   intro b
   cases b with
   |nil=>simp
   |cons y b=>
    simp only[List.map_cons,List.cons.injEq,ih b];constructor
    .rintro⟨h1,h2⟩
     have:=congrArg UInt8.toNat h1;exact⟨by simpa [UInt8.toNat_ofNat] using this,h2⟩
    .rintro⟨h1,h2⟩
     exact⟨UInt8.toNat_inj.1 (by simpa [UInt8.toNat_ofNat] using h1),h2⟩
 rw[Ri];simp only[beq_iff_eq];exact c a b
theorem Oz (l:HR P m h w)(f:gZ m h.next){op:BinOp}(d:op= .eql\/op= .neq){x y:Operand}{a b:List Nat}{u v:Value}(n:VR m (.str a) u)(j:VR m (.str b) v){neg:Bool}(c:neg=(op matches .neq)):
  aY P m h w (do eqGuard op t x y u v;binOp op t u v) (.bool (if neg then !(a.map (· %256)==b.map (· %256)) else a.map (· %256)==b.map (· %256))) h:=by
 rw[show u= .string ⟨(a.map UInt8.ofNat).toArray⟩ from n,show v= .string ⟨(b.map UInt8.ofNat).toArray⟩ from j]
 refine aY.still l f (x:= .bool (if neg then !(a.map (· %256)==b.map (· %256)) else a.map (· %256)==b.map (· %256))) ?_ rfl
 have q:(eqGuard op t x y (.string ⟨(a.map UInt8.ofNat).toArray⟩) (.string ⟨(b.map UInt8.ofNat).toArray⟩)).run P w= .ok () w:=by
  unfold eqGuard;rcases d with rfl|rfl<;>simp
 have o:(binOp op t (.string ⟨(a.map UInt8.ofNat).toArray⟩) (.string ⟨(b.map UInt8.ofNat).toArray⟩)).run P w=(Op.stringOp op ⟨(a.map UInt8.ofNat).toArray⟩ ⟨(b.map UInt8.ofNat).toArray⟩).run P w:=by
  rcases d with rfl|rfl<;>rfl
 simp only[Sem.run_bind,q,Result.andThen_ok,o]
 subst c
 rcases d with rfl|rfl
 .simp only[Op.stringOp,FM,Sem.run_pure];rfl
 .simp only[Op.stringOp,FM,Sem.run_pure];rfl
theorem OO (n:HR P m h w)(j:gZ m h.next){x y:Operand}{a b:List Nat}{u v:Value}(o:VR m (.str a) u)(l:VR m (.str b) v)(s:a.length+b.length<2^62):
  aY P m h w (do eqGuard .add t x y u v;binOp .add t u v) (.str (a++b)) h:=by
 rw[show u= .string ⟨(a.map UInt8.ofNat).toArray⟩ from o,show v= .string ⟨(b.map UInt8.ofNat).toArray⟩ from l]
 refine aY.still n j (x:= .string ⟨((a++b).map UInt8.ofNat).toArray⟩) ?_ rfl
 have r:(eqGuard .add t x y (.string ⟨(a.map UInt8.ofNat).toArray⟩) (.string ⟨(b.map UInt8.ofNat).toArray⟩)).run P w= .ok () w:=by
  unfold eqGuard;simp
 have q:(binOp .add t (.string ⟨(a.map UInt8.ofNat).toArray⟩) (.string ⟨(b.map UInt8.ofNat).toArray⟩)).run P w=(Op.stringOp .add ⟨(a.map UInt8.ofNat).toArray⟩ ⟨(b.map UInt8.ofNat).toArray⟩).run P w:=rfl
 simp only[Sem.run_bind,r,Result.andThen_ok,q]
 have d:(⟨(a.map UInt8.ofNat).toArray⟩:ByteArray).size=a.length:=by show (a.map UInt8.ofNat).toArray.size=_;simp
 have f:(⟨(b.map UInt8.ofNat).toArray⟩:ByteArray).size=b.length:=by show (b.map UInt8.ofNat).toArray.size=_;simp
 have c:IntKind.i64.max=9223372036854775807:=rfl
 unfold Op.stringOp
 simp only[d,f]
 rw[aQ (by rw[c];omega)]
 simp only[Sem.run_pure]
 congr 2
 apply ByteArray.ext
 rw[ByteArray.data_append]
 simp
theorem NL (l:HR P m h w)(d:gZ m h.next){b a:TypeId}{j:IntKind}(o:P.underlying b=some (.int j))(c:P.underlying a=some .string){k:IntKind}{n:Int}(q:VR m (.int k n) x)(s:0<=n)(r:n<128):
  aY P m h w (convert b a x) (.str [n.toNat]) h:=by
 rw[show x= .int k n from q]
 refine aY.still l d (x:= .string ⟨#[UInt8.ofNat n.toNat]⟩) ?_ rfl
 have f:Utf8.valid n=true:=by unfold Utf8.valid;simp;omega
 simp only[convert,Sem.run_bind,run_underlying o,run_underlying c,Result.andThen_ok,Conv.intToString,Sem.run_pure,Utf8.encode,f,if_true]
 rw[aS om]
theorem Jj (body:Value->ByteArray->Sem (ForInStep ByteArray))(b: ∀n s,body (.int .u8 n) s=pure (.yield (s.push (UInt8.ofNat n.toNat)))):(cs:List Value)->(vs:List V)->(l:List Nat)->(acc:ByteArray)->
  iL m vs cs->rF vs=some l->(forIn cs acc body).run P w= .ok ⟨acc.data++(l.map UInt8.ofNat).toArray⟩ w
 | [], [],l,acc,_,hl=>by
  simp only[rF,Option.some.injEq] at hl;subst hl;simp
 |c::cs,v::vs,l,acc,hv,hl=>by
  cases v<;>try (simp only[rF,reduceCtorEq] at hl;done)
  rename_i k n;cases k<;>try (simp only[rF,reduceCtorEq] at hl;done)
  simp only[rF] at hl;split at hl
  .simp only[kU] at hl
   obtain⟨d,a,rfl⟩:=hl;rw[show c= .int .u8 n from hv.1,List.forIn_cons,b];simp only[Sem.run_bind,Sem.run_pure,Result.andThen_ok];rw[Jj body b cs vs d _ hv.2 a];congr 2;apply Array.toList_inj.1;simp [ByteArray.push]
  .cases hl
 | [],_::_,_,_,h,_=>h.elim
 |_::_, [],_,_,h,_=>h.elim
theorem IY (B:HR P m h w)(J:gZ m h.next){o j e:TypeId}(hs:P.underlying o=some (.slice e))(L:P.underlying j=some .string)(he:P.underlying e=some (.int .u8))
  {u:V}  (K:VR m v x) (f:RQ h v=some u):aY P m h w (convert o j x) u h:=by
 have d: ∀a n c,(convert o j (.slice a n c)).run P w=(Conv.bytesToString (.slice a n c)).run P w:=by
  intro a n c;simp [convert,run_underlying hs,run_underlying L,run_underlying he]
 unfold RQ at f
 split at f
 .cases f
  obtain rfl:x= .slice none 0 0:=K
  refine aY.still B J (x:= .string .empty) ?_ rfl
  rw[d]
  simp [Conv.bytesToString]
 .rename_i id W len Q
  obtain⟨p,c,o',R,rfl,_,U,_⟩:=K
  split at f
  .rename_i A z
   simp only[kU] at f
   obtain⟨l,Y,rfl⟩:=f
   have b: ∃xs:List Value,(loadCells ⟨p.1,p.2.1+o',none⟩ len).run P w= .ok xs.toArray w/\iL m A xs:=by
    obtain⟨p',c',G,fr,q,O,_,F,r,_⟩:=yZ B z;rw[R] at q;cases q
    by_cases N:len=0
    .subst N
     have Z:A= []:=by
      have:=r;simp only[List.take_zero] at this
      cases A with
      |nil=>rfl
      |cons _ _=>exact this.elim
     subst Z;exact⟨[],by simp only[loadCells,loadCellsFrom];rfl,trivial⟩
    .obtain rfl:=U om
     exact⟨_,kN O F,r⟩
   have⟨xs,b,hv⟩:=b
   refine aY.still B J (x:= .string ⟨(l.map UInt8.ofNat).toArray⟩) ?_ rfl
   rw[d]
   simp only[Conv.bytesToString,Sem.run_bind,b,Result.andThen_ok]
   rw[<-Array.forIn_toList]
   rw[Jj (m:=m) _ (λn s=>rfl) xs A l _ hv Y]
   simp only[Result.andThen_ok,Sem.run_pure]
   congr 2
   have e0:ByteArray.empty.data= #[]:=rfl
   rw[e0]
   simp only[Array.empty_append]
  .cases f
 .cases f
end
end
end Go.Ay
namespace Go.Ay
open Go
section
variable {t ty e:TypeId} {op:BinOp} {x y:Operand} {cx cy:X}
section
variable {P:Program} {m:M} {h:H} {w:World} {o:Oper} {a:Act} {v:V} {h':H} {nt:Nat} {pv defs:List Nat} {vars loc:List V}
theorem KC {c:V}(b:kX P t=some c): ∃i z,P.info? t=some i/\i.zero=some z:=by
 unfold kX at b
 cases hi:P.info? t with
 |none=>simp [hi] at b
 |some i=>
  cases hzz:i.zero with
  |none=>simp [hi,hzz] at b
  |some z=>exact⟨i,z,rfl,hzz⟩
theorem lH {β:Type}{x:Option β}{h h':H}{v:β}(b:x.map (λy=>(y,h))=some (v,h')):x=some v/\h=h':=by
 cases x with
 |none=>simp at b
 |some u=>simp at b;exact⟨by rw[b.1],b.2⟩
theorem DM {agg:Bool}{n:Nat}(h:ldN P t=some (agg,n)):Pt P t=some agg/\(if agg then iZ P t else some 1)=some n:=by
 unfold ldN at h;split at h
 .rename_i b
  simp only[kU] at h;have⟨k,c,h⟩:=h;cases h;exact⟨b,c⟩
 .cases h;exact⟨by assumption,rfl⟩
 .cases h
theorem Lw (s:St m nt pv defs vars loc a)(F:HR P m h w)(u:gZ m h.next)(q:o.op= .binOp op t x y ty){k:IntKind}
  (l:fS pv defs x=some cx) (r:fS pv defs y=some cy) (c:dI (xv vars loc) h (.bin op k cx cy)=some (v,h')):Goal P m h w o a v h':=by
 have d:=aN s l
 have f:=aN s r
 simp only[dI] at c
 split at c
 .rename_i j b L G J B
  rw[J] at d
  rw[B] at f
  split at c
  .rename_i n
   obtain⟨i,rfl⟩:=lH c
   obtain⟨rfl,rfl⟩:=n
   obtain⟨z,K,A⟩:=Xn (P:=P) (m:=m) (w:=w) i t
   refine aY.goal (s:=do eqGuard op t x y (a.eval x) (a.eval y);binOp op t (a.eval x) (a.eval y)) (aY.still F u (x:=z) ?_ A) (by simp only[execOp,q])
   rw[show a.eval x= .int _ b from d,show a.eval y= .int _ G from f]
   simp [Hq,K]
  .cases c
 .cases c
theorem UI (s:St m nt pv defs vars loc a)(G:HR P m h w)(A:gZ m h.next)(q:o.op= .binOp op t x y ty){k:IntKind}
  (l:fS pv defs x=some cx) (r:fS pv defs y=some cy) (c:dI (xv vars loc) h (.Hx op k cx cy)=some (v,h')):Goal P m h w o a v h':=by
 have d:=aN s l
 have f:=aN s r
 simp only[dI] at c
 split at c
 .rename_i j b u J K F
  rw[K] at d
  rw[F] at f
  split at c
  .rename_i n
   obtain⟨i,rfl⟩:=lH c
   subst n
   obtain⟨z,L,B⟩:=AY (P:=P) (m:=m) (w:=w) (j:=u) i t
   refine aY.goal (s:=do eqGuard op t x y (a.eval x) (a.eval y);binOp op t (a.eval x) (a.eval y)) (aY.still G A (x:=z) ?_ B) (by simp only[execOp,q])
   rw[show a.eval x= .int _ b from d,show a.eval y= .int _ J from f]
   simp [Hq,L]
  .cases c
 .cases c
theorem CG (b:P.underlying t=some .bool)(x y:Bool):(Op.equal t (.bool x) (.bool y)).run P w= .ok (x==y) w:=by
 have: ∀d,(Op.equalIn (d+1) t (.bool x) (.bool y)).run P w= .ok (x==y) w:=λd=>by simp [Op.equalIn,run_underlying b]
 exact this 9999
theorem BN (b:P.underlying t=some (.slice e)):(Op.equal t (.slice none 0 0) (.slice none 0 0)).run P w= .ok true w:=by
 have: ∀d,(Op.equalIn (d+1) t (.slice none 0 0) (.slice none 0 0)).run P w= .ok true w:=λd=>by simp [Op.equalIn,run_underlying b]
 exact this 9999
theorem Jo (f:P.underlying t=some (.slice e))(b:Addr)(n c:Nat):(Op.equal t (.slice (some b) n c) (.slice none 0 0)).run P w= .ok false w:=by
 have: ∀d,(Op.equalIn (d+1) t (.slice (some b) n c) (.slice none 0 0)).run P w= .ok false w:=λd=>by simp [Op.equalIn,run_underlying f]
 exact this 9999
theorem aeD (s:St m nt pv defs vars loc a)(z:HR P m h w)(q:gZ m h.next)(r:op= .eql\/op= .neq)(l:o.op= .binOp op t x y ty)(A:P.underlying t=some .bool)
  (j:fS pv defs x=some cx) (n:fS pv defs y=some cy) {neg:Bool} (c:neg=(op matches .neq)) (i:dI (xv vars loc) h (.beq neg cx cy)=some (v,h')):Goal P m h w o a v h':=by
 have d:=aN s j
 have f:=aN s n
 simp only[dI] at i
 split at i
 .rename_i b k B u
  rw[B] at d
  rw[u] at f
  cases i
  refine aY.goal (s:=do eqGuard op t x y (a.eval x) (a.eval y);binOp op t (a.eval x) (a.eval y)) (aY.still z q (x:= .bool (if neg then !(b==k) else b==k)) ?_ rfl) (by simp only[execOp,l])
  rw[show a.eval x= .bool b from d,show a.eval y= .bool k from f]
  subst c
  rcases r with rfl|rfl<;>simp [Tu,binOp,CG A]
 .cases i
theorem OS (s:St m nt pv defs vars loc a)(r:HR P m h w)(l:gZ m h.next)(n:op= .eql\/op= .neq)(i:o.op= .binOp op t x y ty)(q:a.eval y= .slice none 0 0)(z:P.underlying t=some (.slice e))
  (u:fS pv defs x=some cx) {neg:Bool} (d:neg=(op matches .neq)) (j:dI (xv vars loc) h (.snil neg cx)=some (v,h')):Goal P m h w o a v h':=by
 have b:=aN s u
 simp only[dI] at j
 split at j
 .rename_i k
  rw[k] at b
  cases j
  refine aY.goal (s:=do eqGuard op t x y (a.eval x) (a.eval y);binOp op t (a.eval x) (a.eval y)) (aY.still r l (x:= .bool (!neg)) ?_ rfl) (by simp only[execOp,i])
  rw[show a.eval x= .slice none 0 0 from b,q]
  subst d
  rcases n with rfl|rfl<;>simp [tB,binOp,BN z]
 .rename_i id A len B k
  rw[k] at b
  cases j
  have⟨p,c,G,F,f,_⟩:=b
  refine aY.goal (s:=do eqGuard op t x y (a.eval x) (a.eval y);binOp op t (a.eval x) (a.eval y)) (aY.still r l (x:= .bool neg) ?_ rfl) (by simp only[execOp,i])
  rw[f,q]
  subst d
  rcases n with rfl|rfl<;>simp [tB,binOp,Jo z]
 .rename_i ad k
  rw[k] at b
  cases j
  have f:a.eval x= .slice (some ad) 0 0:=b
  refine aY.goal (s:=do eqGuard op t x y (a.eval x) (a.eval y);binOp op t (a.eval x) (a.eval y)) (aY.still r l (x:= .bool neg) ?_ rfl) (by simp only[execOp,i])
  rw[f,q]
  subst d
  rcases n with rfl|rfl<;>simp [tB,binOp,Jo z]
 .cases j
theorem Jl (s:St m nt pv defs vars loc a)(L:HR P m h w)(N:gZ m h.next){i:I}(A:vT P pv defs o=some (.op i))(B:dI (xv vars loc) h i=some (v,h')):Goal P m h w o a v h':=by
 unfold vT at A;cases hop:o.op<;>simp only[hop] at A<;>try (cases A;done)
 case move x=>
  simp only[kU,dU.op.injEq] at A;obtain⟨cx,G,rfl⟩:=A;simp only[dI] at B;cases B;exact Fo L N (by simp only[execOp,hop]) (aN s G)
 case assign x=>
  simp only[kU,dU.op.injEq] at A;obtain⟨cx,G,rfl⟩:=A;simp only[dI] at B;cases B;exact Fo L N (by simp only[execOp,hop]) (aN s G)
 case pick c x y=>
  simp only[uA,qA] at A;have⟨cc,b4,cx,G,cy,J,A⟩:=A;cases A;have c8:=aN s b4;simp only[dI] at B;split at B
  .rename_i t ht
   rw[ht] at c8;cases B;refine aY.goal (s:=do pure (if ←asBool (a.eval c) then a.eval x else a.eval y)) (aY.still L N (x:=if t then a.eval x else a.eval y) ?_ ?_) (by simp only[execOp,hop];simp)
   .rw[show a.eval c= .bool t from c8];simp [asBool]
   .cases t
    .simpa using aN s J
    .simpa using aN s G
  .cases B
 case alloc e=>
  simp only[uA,qA] at A;have⟨zu,hz,A⟩:=A;cases A;simp only[dI] at B;cases B;obtain⟨i2,z,hi,d0⟩:=KC hz;obtain⟨e6,f2,_⟩:=kC m hz hi d0;have U:=uJ L N [] e6 f2 e;simp only[qH,Array.toArray_toList] at U;refine aY.goal (s:=Instr.alloc e true (.tuple #[])) ⟨.pointer (some ⟨w.heap.size,0,none⟩),_,_,?_,⟨_,M.jN ..,rfl⟩,U⟩ (by simp only[execOp,hop]);simp [Instr.alloc,zeroValue,typeInfo,hi,d0,newVar,newRow]
 case box e x=>
  simp only[kU,dU.op.injEq] at A;obtain⟨cx,G,rfl⟩:=A;simp only[dI] at B;split at B
  .rename_i a9
   cases B;have hv:=VR.cells (aN s G) a9;have U:=uJ L N [] hv (λc A=>(uR.1 a9) c A) e;simp only[qH,Array.toArray_toList] at U;refine aY.goal (s:=Instr.box e (a.eval x)) ⟨.pointer (some ⟨w.heap.size,0,none⟩),_,_,?_,⟨_,M.jN ..,rfl⟩,U⟩ (by simp only[execOp,hop]);simp [Instr.box,newVar,newRow]
  .cases B
 case build t parts=>
  simp only[uA,qA] at A;have⟨ps,c1,zu,hz,pl,e5,A⟩:=A;cases A;simp only[dI,kU] at B;have⟨us,c2,B⟩:=B;cases B;obtain⟨h1,h2⟩:=Yi s (f:=λp x=>(p.1,x)) c1 (λ_ _=>rfl);refine aY.goal (s:=Instr.build t (parts.map λ(i,x)=>(i,a.eval x))) (OK L N hz e5 h1 (λj b q hb hq=>?_) c2) (by simp only[execOp,hop]);obtain⟨p,hp,e1,e2,e3⟩:=h2 j b q hb hq;exact⟨by rw[e1,e2],e3⟩
 case buildSlice t n parts=>
  simp only[uA,qA] at A;have⟨e,a4,sz,Y,A⟩:=A;split at A
  .cases A
  .rename_i b1
   have c0:sz≠0:=λe=>b1 (.inl e)
   have d3: ¬n*sz>2^24:=λe=>b1 (.inr (.inl e))
   have b8:Zx P e sz=true:=by cases hq:Zx P e sz with
    |true=>rfl
    |false=>exact absurd (.inr (.inr hq)) b1
   simp only[qA] at A;have⟨ps,c1,zu,hz,A⟩:=A;cases A;simp only[dI] at B;split at B
   .rename_i us c2
    split at B
    .rename_i a9
     cases B;obtain⟨a1,a2⟩:=iY c1;refine aY.goal (s:=Instr.buildSlice t n (parts.map λ(i,x)=>(i,a.eval x))) (OT L N (pJ a4) Y hz b8 c0 d3 (by simpa using a1) (λj b q hb hq=>?_) c2 (λc A=>(uR.1 a9) c A)) (by simp only[execOp,hop]);simp only[Al,kU] at hb;obtain⟨p,hp,rfl⟩:=hb;simp only[Array.toList_map,Al,kU] at hq;obtain⟨r,d4,rfl⟩:=hq;obtain⟨b',c7,c4⟩:=a2 j r d4;rw[hp] at c7;cases c7;simp only[kU] at c4;obtain⟨x,O,rfl⟩:=c4;exact⟨rfl,aN s O⟩
    .cases B
   .cases B
 case load t x=>
  split at A
  .rename_i q hq
   have⟨c5,n⟩:=q;simp only[kU,dU.op.injEq] at A;obtain⟨cx,G,rfl⟩:=A;simp only[dI] at B;obtain⟨K,rfl⟩:=lH B;obtain⟨y,h1,h2⟩:=Wa L (DM hq).1 (DM hq).2 (aN s G) K;exact aY.goal (s:=Instr.loadAt t (a.eval x)) (aY.still L N h1 h2) (by simp only[execOp,hop])
  .cases A
 case store t x y=>
  simp only[uA,qA] at A;have⟨n,hn,cx,G,cy,J,A⟩:=A;cases A;have F:=aN s G;have Q:=aN s J;simp only[dI] at B;split at B
  .rename_i id a3 O
   rw[O] at F;split at B
   .rename_i a7
    simp only[kU] at B;have⟨h2,d1,B⟩:=B;cases B;have⟨p,hp,R⟩:=F;obtain⟨w',iS,U⟩:=yY L N d1 (VR.cells Q a7.2) (λc A=>(uR.1 a7.2) c A) hp;refine yU (s:=Instr.storeAt t (a.eval x) (a.eval y)) (by simp only[execOp,hop]) ?_ U
    have d8:(a.eval y).cells.size=n:=by
     have:=iL.length (VR.cells Q a7.2);simp at this;omega
    rw[R];simp [Instr.storeAt,Instr.sureAddr,storeVar,gG hn,d8,iS]
   .cases B
  .cases B
 case nilCheck x=>
  simp only[kU,dU.op.injEq] at A;obtain⟨cx,G,rfl⟩:=A;have F:=aN s G;simp only[dI] at B;split at B
  .rename_i id a3 O
   rw[O] at F;cases B;have⟨p,hp,R⟩:=F;refine Fo L N (x:= .pointer (some ⟨p.1,p.2.1+a3,none⟩)) ?_ ⟨p,hp,rfl⟩;simp only[execOp,hop,R]
  .cases B
 case binOp op t x y ty=>
  cases op<;>simp only at A<;>try (cases A;done)
  all_goals first
   |(simp only[uA,qA] at A
     have⟨k,hk,cx,G,cy,J,A⟩:=A
     cases A
     exact Lw s L N hop G J B)
   |(simp only[uA,qA] at A
     have⟨k,hk,cx,G,cy,J,A⟩:=A
     cases A
     exact UI s L N hop G J B)
   |skip
  case add=>
   split at A
   .simp only[uA,qA] at A
    have⟨cx,G,cy,J,A⟩:=A;cases A;have F:=aN s G;have Q:=aN s J;simp only[dI] at B;split at B
    .rename_i sa sb O hy
     rw[O] at F;rw[hy] at Q;split at B
     .rename_i hl
      cases B;exact aY.goal (OO (t:=t) (x:=x) (y:=y) L N F Q hl) (by simp only[execOp,hop])
     .cases B
    .cases B
   .simp only[uA,qA] at A
    have⟨k,hk,cx,G,cy,J,A⟩:=A;cases A;exact Lw s L N hop G J B
  all_goals
   split at A
   .simp only[uA,qA] at A
    have⟨cx,G,cy,J,A⟩:=A
    cases A
    exact Lw s L N hop G J B
   .rename_i hk
    simp only[uA,qA] at A
    have⟨cx,G,cy,J,A⟩:=A
    cases A
    exact aeD s L N siM hop hk G J rfl B
   .rename_i hk
    simp only[uA,qA] at A
    have⟨cx,G,cy,J,A⟩:=A
    cases A
    have F:=aN s G
    have Q:=aN s J
    simp only[dI] at B
    split at B
    .rename_i sa sb O hy
     rw[O] at F
     rw[hy] at Q
     cases B
     first
      |exact aY.goal (Oz (op:= .eql) (t:=t) (x:=x) (y:=y) L N (.inl rfl) F Q rfl) (by simp only[execOp,hop])
      |exact aY.goal (Oz (op:= .neq) (t:=t) (x:=x) (y:=y) L N (.inr rfl) F Q rfl) (by simp only[execOp,hop])
    .cases B
   .rename_i e hk
    split at A
    .simp only[uA,qA] at A
     have⟨cx,G,A⟩:=A
     cases A
     exact OS s L N siM hop rfl hk G rfl B
    .cases A
   .cases A
 case unOp op t x=>
  cases op<;>simp only at A<;>try (cases A;done)
  .simp only[uA,qA] at A
   have⟨k,hk,cx,G,A⟩:=A;cases A;have F:=aN s G;simp only[dI] at B;split at B
   .rename_i j b O
    rw[O] at F;split at B
    .rename_i d6
     subst d6;cases B;refine aY.goal (s:=Op.unary .neg (a.eval x)) (aY.still L N (x:= .int j (j.wrap (0-b))) ?_ rfl) (by simp only[execOp,hop]);rw[show a.eval x= .int _ b from F];simp [Op.unary,Op.intArith]
    .cases B
   .cases B
  .simp only[kU,dU.op.injEq] at A
   obtain⟨cx,G,rfl⟩:=A;have F:=aN s G;simp only[dI] at B;split at B
   .rename_i b O
    rw[O] at F;cases B;refine aY.goal (s:=Op.unary .not (a.eval x)) (aY.still L N (x:= .bool (!b)) ?_ rfl) (by simp only[execOp,hop]);rw[show a.eval x= .bool b from F];simp [Op.unary]
   .cases B
 case convert src dst x=>
  split at A
  .rename_i k0 k hs hd
   simp only[kU,dU.op.injEq] at A;obtain⟨cx,G,rfl⟩:=A;have F:=aN s G;simp only[dI] at B;split at B
   .rename_i j b O
    rw[O] at F;cases B;refine aY.goal (s:=convert src dst (a.eval x)) (aY.still L N (x:= .int k (k.wrap b)) ?_ rfl) (by simp only[execOp,hop]);rw[show a.eval x= .int _ b from F];simp [convert,run_underlying hs,run_underlying hd,Conv.intToInt]
   .cases B
  .rename_i e hs hd
   split at A
   .rename_i a4
    simp only[kU,dU.op.injEq] at A;obtain⟨cx,G,rfl⟩:=A;have F:=aN s G;simp only[dI] at B;obtain⟨K,rfl⟩:=lH B;exact aY.goal (s:=convert src dst (a.eval x)) (IY L N hs hd a4 F K) (by simp only[execOp,hop])
   .cases A
  .rename_i k0 hs hd
   simp only[kU,dU.op.injEq] at A;obtain⟨cx,G,rfl⟩:=A;have F:=aN s G;simp only[dI] at B;split at B
   .rename_i k n O
    rw[O] at F;split at B
    .rename_i hn
     cases B;exact aY.goal (s:=convert src dst (a.eval x)) (NL L N hs hd F hn.1 hn.2) (by simp only[execOp,hop])
    .cases B
   .cases B
  .cases A
 case makeFunc fn first cs=>
  cases fn<;>simp only at A<;>try (cases A;done)
  rename_i f;split at A
  .simp only[uA,qA] at A
   have⟨cf,d5,cc,b4,A⟩:=A;cases A;simp only[dI] at B;cases B;refine aY.goal (s:=Instr.makeFunc (.func f) (first.map a.eval) (cs.map a.eval)) (aY.still L N (x:= .func (.func f) (first.map a.eval) (cs.map a.eval)) rfl ⟨_,_,rfl,?_,?_⟩) (by simp only[execOp,hop])
   .simpa using jU s d5
   .simpa using jU s b4
  .cases A
 case makeMap t r=>
  split at A
  .rename_i kt et ht
   split at A
   .rename_i sh b0
    simp only[kU,dU.op.injEq] at A;obtain⟨cr,f1,rfl⟩:=A;have a8:=qJ s f1;simp only[dI] at B;split at B
    .rename_i b3
     cases B;have U:=iR.new L N (.wmap sh []) (.map #[] 0) (0,0) (λm' _ _=>⟨λi j a b hi=>by simp at hi,#[],0,heap_alloc_new w _,rfl,rfl,λi k v hi=>by simp at hi⟩);refine aY.goal (s:=Instr.makeMap t (r.map a.eval)) ⟨.map (some w.heap.size),_,_,?_,⟨_,M.jN ..,rfl⟩,U⟩ (by simp only[execOp,hop])
     cases r with
     |none=>simp [Instr.makeMap]
     |some x=>
      cases cr with
      |none=>exact a8.elim
      |some cx=>
       simp only[Option.map_some,Lb] at b3;have F:VR m (xv vars loc cx) (a.eval x):=a8;cases hxx:xv vars loc cx<;>rw[hxx] at b3<;>simp only[QU,Bool.false_eq_true] at b3;rename_i k n;rw[hxx] at F;have R:a.eval x= .int k n:=F;simp [Instr.makeMap,R,run_underlying ht,asInt,asIntOf]
    .cases B
   .split at A
    .cases A
     simp only[dI] at B;cases B;have U:=iR.new L N (.map []) (.map #[] 0) (0,0) (λm' _ _=>⟨#[],0,heap_alloc_new w _,rfl,λi k v hi=>by simp at hi⟩);refine aY.goal (s:=Instr.makeMap t (Option.map a.eval none)) ⟨.map (some w.heap.size),_,_,?_,⟨_,M.jN ..,rfl⟩,U⟩ (by simp only[execOp,hop]);simp [Instr.makeMap]
    .cases A
  .cases A
 case makeSlice t l c=>
  simp only[uA,qA] at A;have⟨e,a4,sz,Y,A⟩:=A;split at A
  .cases A
  .rename_i b1
   have c0:sz≠0:=λe=>b1 (.inl e)
   have b8:Zx P e sz=true:=by cases hq:Zx P e sz with
    |true=>rfl
    |false=>exact absurd (.inr hq) b1
   simp only[qA] at A;have⟨e9,hb,zu,hz,cl,b5,cc,b4,A⟩:=A;cases A;simp only[dI] at B;exact aY.goal (s:=Instr.makeSlice t (a.eval l) (a.eval c)) (JB L N (pJ a4) Y hb hz b8 c0 (aN s b5) (aN s b4) B) (by simp only[execOp,hop])
 case slice t x lo hi mx=>
  split at A
  .cases A
  .simp only[uA,qA] at A
   have⟨e,a4,sz,Y,A⟩:=A;split at A
   .cases A
   .simp only[qA] at A
    have⟨cx,G,cl,b5,ch,f0,cm,e4,A⟩:=A;cases A;simp only[dI] at B;obtain⟨K,rfl⟩:=lH B;exact aY.goal (s:=Instr.sliceAt t (a.eval x) (lo.map a.eval) (hi.map a.eval) (mx.map a.eval)) (MI L N (pJ a4) Y (aN s G) (qJ s b5) (qJ s f0) (qJ s e4) K) (by simp only[execOp,hop])
 case fieldAddr t x f=>
  simp only[uA,qA] at A;have⟨fd,b9,A⟩:=A;split at A
  .cases A
  .rename_i Y
   simp only[qA] at A;have⟨cx,G,A⟩:=A;cases A;have F:=aN s G;simp only[dI] at B;split at B
   .rename_i id a3 O
    rw[O] at F;cases B;have⟨p,hp,R⟩:=F;obtain⟨fs,b6,b7⟩:=Qv b9
    cases hsz2:iZ P fd.type with
    |none=>simp [hsz2] at Y
    |some n=>
     have hn: ¬n=0:=by simpa [hsz2] using Y
     refine aY.goal (s:=Instr.fieldAt t (a.eval x) f) (aY.still L N (x:= .pointer (some ⟨p.1,p.2.1+(a3+fd.offset),none⟩)) ?_ ⟨p,hp,rfl⟩) (by simp only[execOp,hop]);rw[R];simp [Instr.fieldAt,run_underlying b6,b7,Instr.sureAddr,fieldPlace,gG hsz2,hn,kY,Nat.add_assoc]
   .cases B
 case field t x f=>
  simp only[uA,qA] at A;have⟨fd,b9,c5,c9,n,hn,cx,G,A⟩:=A;cases A;have F:=aN s G;obtain⟨fs,b6,b7⟩:=Qv b9;simp only[dI] at B;split at B
  .rename_i vs O
   rw[O] at F;have⟨xs,R,a8⟩:=F
   cases c5 with
   |true=>
    simp only[if_true,kU] at B;have⟨ws,d9,B⟩:=B;cases B;obtain⟨rfl,f3,hl⟩:=sub_eq d9;refine aY.goal (s:=Instr.field t (a.eval x) f) (aY.still L N (x:= .agg (xs.extract fd.offset (fd.offset+n))) ?_ ⟨_,rfl,?_⟩) (by simp only[execOp,hop])
    .rw[R]
     simp [Instr.field,run_underlying b6,b7,part,asAgg,qI c9,gG hn]
    .have:(xs.extract fd.offset (fd.offset+n)).toList=(xs.toList.drop fd.offset).take n:=by
      simp [List.extract_eq_take_drop]
     rw[this];exact (a8.drop _).take _
   |false=>
    simp only[Bool.false_eq_true,if_false] at B;obtain⟨K,rfl⟩:=lH B;obtain⟨y,hy,Q⟩:=a8.get K;refine aY.goal (s:=Instr.field t (a.eval x) f) (aY.still L N (x:=y) ?_ Q) (by simp only[execOp,hop]);rw[R];have c3:xs[fd.offset]? =some y:=by simpa using hy
    simp [Instr.field,run_underlying b6,b7,part,asAgg,qI c9,c3]
  .cases B
 case indexAddr t x ix=>
  split at A
  .rename_i n e k z hu
   split at A
   .rename_i hb
    simp only[uA,qA] at A;have⟨sz,Y,cx,G,A⟩:=A;cases A;have F:=aN s G;simp only[dI] at B;split at B
    .rename_i id a3 O
     rw[O] at F;cases B;have⟨p,hp,R⟩:=F;refine aY.goal (s:=Instr.indexAt t (a.eval x) (.int k z)) (aY.still L N (x:= .pointer (some ⟨p.1,p.2.1+(a3+z.toNat*sz),none⟩)) ?_ ⟨p,hp,rfl⟩) (by simp only[execOp,hop];rfl);rw[R];simp [Instr.indexAt,asIntOf,run_underlying hu,Instr.sureAddr,gG Y,hb.1,hb.2,kY,Nat.add_assoc]
    .cases B
   .cases A
  .rename_i n e hu _
   simp only[uA,qA] at A;have⟨sz,Y,cx,G,ci,b2,A⟩:=A;cases A;have F:=aN s G;have a5:=aN s b2;simp only[dI] at B;obtain⟨K,rfl⟩:=lH B;unfold RE at K;split at K
   .rename_i id a3 k z O hi
    rw[O] at F;rw[hi] at a5;split at K
    .rename_i hb
     cases K;have⟨p,hp,R⟩:=F;refine aY.goal (s:=Instr.indexAt t (a.eval x) (.int k z)) (aY.still L N (x:= .pointer (some ⟨p.1,p.2.1+(a3+z.toNat*sz),none⟩)) ?_ ⟨p,hp,rfl⟩) (by simp only[execOp,hop];rw[show a.eval _= .int k z from a5]);rw[R];simp [Instr.indexAt,asIntOf,run_underlying hu,Instr.sureAddr,gG Y,hb.1,hb.2,kY,Nat.add_assoc]
    .cases K
   .cases K
  .simp only[uA,qA] at A
   have⟨e,a4,sz,Y,cx,G,ci,b2,A⟩:=A;cases A;have F:=aN s G;have a5:=aN s b2;simp only[dI] at B;obtain⟨K,rfl⟩:=lH B;unfold Ci at K;split at K
   .rename_i id a3 len f4 k n O hi
    rw[O] at F;rw[hi] at a5;split at K
    .rename_i hb
     cases K;have⟨p,c,o',hp,R,_,ho,_⟩:=F;obtain rfl:=ho om;refine aY.goal (s:=Instr.indexAt t (a.eval x) (.int k n)) (aY.still L N (x:= .pointer (some ⟨p.1,p.2.1+(o'+n.toNat*sz),none⟩)) ?_ ⟨p,hp,rfl⟩) (by simp only[execOp,hop];rw[show a.eval _= .int k n from a5]);rw[R];simp [Instr.indexAt,asIntOf,run_underlying (pJ a4),gG Y,hb.1,hb.2,kY,Nat.add_assoc]
    .cases K
   .cases K
 case lookup t x k ok=>
  split at A
  .rename_i kt et ht
   split at A
   .rename_i sh b0
    simp only[uA,qA] at A;have⟨zu,hz,cx,G,ck,a0,A⟩:=A;cases A;have F:=aN s G;have Z:=aN s a0;simp only[dI] at B;split at B
    .rename_i id O
     rw[O] at F;split at B
     .rename_i c6 es hg
      split at B
      .rename_i W
       obtain⟨rfl,W⟩:=W;have hs:=MY L N ht b0 hz F Z hg W ok;split at B
       .rename_i u hu
        cases B;rw[hu] at hs;exact aY.goal (s:=Instr.lookup t (a.eval x) (a.eval k) ok) hs (by simp only[execOp,hop])
       .rename_i hu
        cases B;rw[hu] at hs;exact aY.goal (s:=Instr.lookup t (a.eval x) (a.eval k) ok) hs (by simp only[execOp,hop])
      .cases B
     .cases B
    .cases B
   simp only[uA,qA] at A;have⟨j,hj,zu,hz,cx,G,ck,a0,A⟩:=A;cases A;have F:=aN s G;have Z:=aN s a0;simp only[dI] at B;split at B
   .rename_i id kk n O hk
    rw[O] at F;rw[hk] at Z;split at B
    .rename_i es hg
     split at B
     .rename_i a6
      have hs:=JS L N ht (qW hj) hz F Z hg a6 ok;split at B
      .rename_i u hu
       cases B;rw[hu] at hs;exact aY.goal (s:=Instr.lookup t (a.eval x) (a.eval k) ok) hs (by simp only[execOp,hop])
      .rename_i hu
       cases B;rw[hu] at hs;exact aY.goal (s:=Instr.lookup t (a.eval x) (a.eval k) ok) hs (by simp only[execOp,hop])
     .cases B
    .cases B
   .cases B
  .cases A
 case mapUpdate t x k y=>
  split at A
  .rename_i kt et ht
   split at A
   .rename_i sh b0
    simp only[uA,qA] at A;have⟨cx,G,ck,a0,cy,J,A⟩:=A;cases A;have F:=aN s G;have Z:=aN s a0;have Q:=aN s J;simp only[dI] at B;split at B
    .rename_i id O
     rw[O] at F;split at B
     .rename_i c6 es hg
      split at B
      .rename_i W
       obtain⟨rfl,W⟩:=W;cases B;obtain⟨w',h1,h2⟩:=NY L N ht b0 F Z Q hg W;exact yU (s:=Instr.mapUpdate t (a.eval x) (a.eval k) (a.eval y)) (by simp only[execOp,hop]) h1 h2
      .cases B
     .cases B
    .cases B
   simp only[uA,qA] at A;have⟨j,hj,cx,G,ck,a0,cy,J,A⟩:=A;cases A;have F:=aN s G;have Z:=aN s a0;have Q:=aN s J;simp only[dI] at B;split at B
   .rename_i id kk n O hk
    rw[O] at F;rw[hk] at Z;split at B
    .rename_i es hg
     split at B
     .rename_i a6
      cases B;obtain⟨w',h1,h2⟩:=AK L N ht (qW hj) F Z Q hg a6;exact yU (s:=Instr.mapUpdate t (a.eval x) (a.eval k) (a.eval y)) (by simp only[execOp,hop]) h1 h2
     .cases B
    .cases B
   .cases B
  .cases A
 case mapEntry t x k=>
  split at A
  .rename_i kt et ht
   split at A
   .rename_i sh b0
    simp only[uA,qA] at A;have⟨zu,hz,cx,G,ck,a0,A⟩:=A;cases A;have F:=aN s G;have Z:=aN s a0;simp only[dI] at B;split at B
    .rename_i id O
     rw[O] at F;split at B
     .rename_i c6 es hg
      split at B
      .rename_i W
       obtain⟨rfl,W⟩:=W;have hs:=JU L N ht b0 hz F Z hg W;split at B
       .rename_i u hu
        cases B;rw[hu] at hs;exact aY.goal (s:=Instr.mapEntry t (a.eval x) (a.eval k)) hs (by simp only[execOp,hop])
       .rename_i hu
        cases B;rw[hu] at hs;exact aY.goal (s:=Instr.mapEntry t (a.eval x) (a.eval k)) hs (by simp only[execOp,hop])
      .cases B
     .cases B
    .cases B
   .cases A
  .cases A
 case entryStore t x k y=>
  simp only[uA,qA] at A;have⟨cx,G,ck,a0,cy,J,A⟩:=A;cases A;have F:=aN s G;have Z:=aN s a0;have Q:=aN s J;simp only[dI] at B;split at B
  .rename_i id n O hk
   rw[O] at F;rw[hk] at Z;split at B
   .rename_i sh es hg
    split at B
    .rename_i hn
     split at B
     .rename_i e e8
      cases B;have⟨kk,u⟩:=e;obtain⟨w',h1,h2⟩:=KH (t:=t) L N F Q hg e8
      have d7:a.eval k= .int .i64 ((n.toNat:Nat):Int):=by
       rw[show a.eval k= .int .i64 n from Z];congr 1;omega
      rw[<-d7] at h1;exact yU (s:=Instr.entryStore t (a.eval x) (a.eval k) (a.eval y)) (by simp only[execOp,hop]) h1 h2
     .cases B
    .cases B
   .cases B
  .cases B
 case index t x ix=>
  split at A
  .rename_i ht
   simp only[uA,qA] at A;have⟨cx,G,ci,b2,A⟩:=A;cases A;have F:=aN s G;have a5:=aN s b2;simp only[dI] at B;split at B
   .rename_i l k z O hi
    rw[O] at F;rw[hi] at a5;split at B
    .rename_i hz
     simp only[kU] at B;have⟨c,b5,B⟩:=B;cases B;refine aY.goal (s:=Instr.index t (a.eval x) (a.eval ix)) (aY.still L N (x:= .int .u8 ((c%256:Nat):Int)) ?_ rfl) (by simp only[execOp,hop]);rw[show a.eval x= .string ⟨(l.map UInt8.ofNat).toArray⟩ from F,show a.eval ix= .int k z from a5];have hb:(⟨(l.map UInt8.ofNat).toArray⟩:ByteArray)[z.toNat]? =some (UInt8.ofNat c):=aeN b5;simp [Instr.index,asIntOf,run_underlying ht,hz,hb]
    .cases B
   .cases B
  .cases A
 case extract x i2=>
  simp only[kU,dU.op.injEq] at A;obtain⟨cx,G,rfl⟩:=A;have F:=aN s G;simp only[dI] at B;split at B
  .rename_i vs O
   rw[O] at F;have⟨xs,R,a8⟩:=F;obtain⟨K,rfl⟩:=lH B;obtain⟨y,hy,Q⟩:=a8.get K;refine aY.goal (s:=Instr.extract (a.eval x) i2) (aY.still L N (x:=y) ?_ Q) (by simp only[execOp,hop]);have c3:xs[i2]? =some y:=by simpa using hy
   rw[R];simp [Instr.extract,c3]
  .cases B
 case makeInterface t x=>
  split at A
  .cases A;simp [dI] at B
  .rename_i d cx e7 hu G
   cases A;have F:=aN s G;simp only[dI] at B;cases B;refine aY.goal (s:=Instr.makeInterface t (a.eval x)) (aY.still L N (x:= .iface t (a.eval x)) ?_ ⟨_,rfl,F⟩) (by simp only[execOp,hop]);cases d<;>first
    |(simp [Instr.makeInterface,run_underlying hu];done)
    |exact (e7 _ rfl).elim
  .cases A;simp [dI] at B
 case panic=>cases A;simp [dI] at B
 case call c=>exact AE s L N hop A B
end
end
end Go.Ay
namespace Go.Ay
open Go
section
variable {g:Nat} {r:Option Nat} {K:Act->World->Prop} {Q:Exit->Act->World->Prop}
abbrev Wf (r:Option Nat):Fence:={Fence.wide with round:=r}
def zS (P:Program)(m:M)(h:H)(w:World)(v:V)(h':H):Ending->World->Prop:=λe w'=> ∃x m',e= .returned x/\VR m' v x/\iR P m h w m' h' w'
def Ep (P:Program)(cl:kO):Prop:= ∀g args h v h',cl g args h=some (v,h')->enters P g=true/\ ∀m w (xs:Array Value),iL m args xs.toList->HR P m h w->Na m h.next->
 CallsIn (Wf none) 0 P g xs w (zS P m h w v h')
def TR (P:Program)(g:Nat):Prop:= ∀args h v h',Pu args h=some (v,h')->enters P g=true/\ ∀m w (xs:Array Value),iL m args xs.toList->HR P m h w->Na m h.next->
 CallsIn (Wf none) 0 P g xs w (zS P m h w v h')
def POk (P:Program)(p:Nat->Option Fn):Prop:= ∀g fn,p g=some fn->fn.Pn=true/\TR P g\/ ∃pv F,P.funcs[g]? =some F/\CE P pv F=some fn/\enters P g=true
def yM (P:Program)(yl:kO):Prop:= ∀id args h v h',yl id args h=some (v,h')-> ∀m w (xs:Array Value) q,iL m args xs.toList->HR P m h w->Na m h.next->m id=some q->
 ∃fn tmps assign body,(Instr.yield q.1 xs).run P w= .ok (.round q.1 fn tmps assign body) w/\RoundIn (Wf none) 0 P q.1 fn tmps assign body w (zS P m h w v h')
section
variable {P:Program} {cl yl:kO}
theorem vJ {xs:Array Value}{w:World}(h:enters P g=true):(callFunc g xs).run P w= .ok (.enter g xs) w:=by
 unfold enters at h
 cases hf:P.funcs[g]? with
 |none=>simp [hf] at h
 |some fn=>
  simp only[hf,Option.any_some,oD,bne_iff_ne,ne_eq] at h;obtain⟨b,a⟩:=Option.isSome_iff_exists.1 h.1;simp [callFunc,hf,h.2,a]
variable {m:M} {h h':H} {w:World} {nt:Nat} {pv defs:List Nat} {vars loc:List V} {a:Act} {o:Oper} {v:V}
theorem Sh (j: ∀c,o.op≠ .defer c)(k:Goal P m h w o a v h')
  (i: ∀x w' m',VR m' v x->iR P m h w m' h' w'->K (a.put o.dst x) w'):o.wpIn (Wf r) 0 P a w K Q:=by
 have⟨x,w',m',b,f,d⟩:=k
 refine⟨λ_ _=>trivial,?_⟩
 rw[Oper.semAt_eq _ _ _ j]
 rcases b with b|⟨b,rfl⟩
 .rw[b,Oper.uponIn_value];exact i x w' m' f d
 .rw[b,Oper.uponIn_skip];exact i _ w' m' f d
theorem Lu (i: ∀c,o.op≠ .defer c){xs:Array Value}(d:(execOp a.eval o).run P w= .ok (.enter g xs) w)
  (b:CallsIn (Wf none) 0 P g xs w (zS P m h w v h')) (l: ∀x w' m',VR m' v x->iR P m h w m' h' w'->K (a.put o.dst x) w'):o.wpIn (Wf r) 0 P a w K Q:=by
 refine⟨λ_ _=>trivial,?_⟩
 rw[Oper.semAt_eq _ _ _ i,d,Oper.uponIn_enter]
 refine⟨λh=>by simp [Fence.wide] at h,?_⟩
 have f:CallsIn (Wf r) 0 P g xs w (zS P m h w v h'):=b
 refine CallsIn.mono f (λe w' j=>?_)
 obtain⟨x,m',rfl,k,f⟩:=j
 exact l x w' m' k f
theorem TJ (n: ∀c,o.op≠ .defer c){l:Nat}{j:FuncId}{tmps:Array Value}{k f:Code}(d:(execOp a.eval o).run P w= .ok (.round l j tmps k f) w)
  (b:RoundIn (Wf none) 0 P l j tmps k f w (zS P m h w v h')) (t: ∀x w' m',VR m' v x->iR P m h w m' h' w'->K (a.put o.dst x) w'):o.wpIn (Wf r) 0 P a w K Q:=by
 refine⟨λ_ _=>trivial,?_⟩
 rw[Oper.semAt_eq _ _ _ n,d,Oper.uponIn_round]
 refine⟨λh=>by simp [Fence.wide] at h,?_⟩
 have i:RoundIn (Wf r) 0 P l j tmps k f w (zS P m h w v h'):=b
 refine RoundIn.mono i (λe w' q=>?_)
 obtain⟨x,m',rfl,s,i⟩:=q
 exact t x w' m' s i
theorem rD {act:dU}(d:vT P pv defs o=some act): ∀c,o.op≠ .defer c:=by
 intro c b;unfold vT at d;rw[b] at d;simp at d
def DD (x:Option dU):Prop:= ∀act,x=some act-> ∃i,act= .op i
theorem Qz:DD none:=λ_ h=>by cases h
theorem Oo (i:I):DD (some (.op i)):=λ_ h=>by cases h;exact⟨i,rfl⟩
theorem Zm {α:Type}(x:Option α)(f:α->I):DD (x.map λa=> .op (f a)):=λ_ h=>by
 obtain⟨b,_,c⟩:=kU.1 h;exact⟨f b,c.symm⟩
theorem Oq {α:Type}(x:Option α)(f:α->Option dU)(h: ∀b,DD (f b)):DD (x.bind f):=λ_ d=>by
 obtain⟨b,_,c⟩:=qA.1 d;exact h b _ c
theorem XP {b:Builtin}{args:Array Operand}{c:Array TypeId}{ty:TypeId}:DD (rR P pv defs ⟨.builtin b,args,c⟩ ty):=by
 unfold rR
 cases b<;>simp only[uA]<;>
  repeat' first
   |exact Qz
   |contradiction
   |exact Oo _
   |exact Zm _ _
   |(refine Oq _ _ (λ_=>?_))
   |split
theorem MR (b: ∀c,o.op≠ .call c):DD (vT P pv defs o):=by
 unfold vT;cases hop:o.op
 case call c=>exact absurd hop (b c)
 all_goals
  simp only[uA]
  repeat' first
   |exact Qz
   |contradiction
   |exact Oo _
   |exact Zm _ _
   |(refine Oq _ _ (λ_=>?_))
   |split
theorem Lm {name:String}:{l:List Nat}->{t g:Nat}->Mm P name l=some (t,g)->t∈l/\BO P name t=some g
 | [],t,g,h=>by simp [Mm] at h
 |u::l,t,g,h=>by
  simp only[Mm] at h;split at h
  .rename_i f d
   cases h;exact⟨siM,d⟩
  .obtain⟨b,c⟩:=Lm h
   exact⟨by simp [b],c⟩
theorem ED {name:String}{t:Nat}(h:Mm P name (List.range P.types.size)=some (t,g))(v:Value)(w:World):
  enters P g=true/\(method (P.types.size+Made.depth) t v name).run P w= .ok (g,v) w:=by
 obtain⟨A,b⟩:=Lm h
 have B:0<P.types.size:=by have:=mS.1 A;omega
 unfold BO at b
 split at b
 .rename_i r x
  obtain⟨i,hi,u⟩:=qA.1 x
  split at b
  .rename_i f d s l y
   have c:enters P f=true->(∀e,d≠ .pointer e)->f=g->enters P g=true/\(method (P.types.size+Made.depth) t v name).run P w= .ok (g,v) w:=by
    intro k n j;subst j;refine⟨k,?_⟩
    obtain⟨q,z⟩: ∃q,P.types.size+Made.depth=q+1:=⟨P.types.size+Made.depth- 1,om⟩
    rw[z];unfold method;simp only[Sem.run_bind,show (typeInfo t).run P w= .ok i w from by simp [typeInfo,hi],Result.andThen_ok,u,s,follow,Sem.run_pure,l];cases d<;>first
     |exact absurd rfl (n _)
     |simp [receiverAt,run_underlying y,Place.get]
   cases d<;>simp only at b<;>first
    |(cases b;done)
    |(split at b
      .rename_i k
       cases b
       exact c k (λ_=>by simp) rfl
      .cases b)
  .cases b
 .cases b
theorem Xo {act:dU}(d:vT P pv defs o=some act)(u: ∀i,act≠ .op i):(∃c r name g t cx args,o.op= .call c/\c.callee= .invoke r name/\act= .calli g t cx args/\
   Mm P name (List.range P.types.size)=some (t,g)/\fS pv defs r=some cx/\rU pv defs c.args.toList=some args)\/ ∃c x,o.op= .call c/\c.callee= .value x/\
  ((∃g args,x= .func g/\act= .call g args/\enters P g=true/\rU pv defs c.args.toList=some args)\/
   (∃cx args,act= .callv cx args/\fS pv defs x=some cx/\rU pv defs c.args.toList=some args)):=by
 by_cases f: ∀c,o.op≠ .call c
 .obtain⟨i,rfl⟩:=MR f _ d
  exact absurd rfl (u i)
 .have ⟨c,hop⟩: ∃c,o.op= .call c:=zL λh=>f λc d=>h ⟨c,d⟩
  unfold vT at d
  rw[hop] at d
  have⟨j,args,B⟩:=c
  simp only at d
  cases j with
  |value x=>
   refine .inr ⟨_,x,hop,rfl,?_⟩;simp only[rR] at d
   cases x with
   |func g=>
    simp only at d;split at d
    .rename_i A
     simp only[kU] at d;obtain⟨xs,y,rfl⟩:=d;exact .inl ⟨g,xs,rfl,rfl,A,y⟩
    .cases d
   |_=>
    simp only[uA,qA] at d;have⟨cx,s,n,k,l⟩:=d;cases l;exact .inr ⟨cx,n,rfl,s,k⟩
  |invoke r mm=>
   simp only[rR] at d;split at d
   .rename_i q z
    simp only[uA,qA] at d;have⟨cx,s,n,k,l⟩:=d;cases l;exact .inl ⟨_,r,mm,q.2,q.1,cx,n,hop,rfl,rfl,z,s,k⟩
   .cases d
  |builtin b=>
   obtain⟨i,rfl⟩:=XP _ d;exact absurd rfl (u i)
theorem TW (hS:Ep P cl)(hY:yM P yl){act:dU}(hc:vT P pv defs o=some act)(s:St m nt pv defs vars loc a)(hr:HR P m h w)(hl:Na m h.next)
  (l:oF cl yl vars loc h act=some (v,h'))  
  (Z: ∀x w' m',VR m' v x->iR P m h w m' h' w'->K (a.put o.dst x) w'):o.wpIn (Wf r) 0 P a w K Q:=by
 have R:=rD hc
 by_cases hi: ∃i,act= .op i
 .obtain⟨i,rfl⟩:=hi
  exact Sh R (Jl s hr hl.fresh hc l) Z
 .have hi: ∀i,act≠ .op i:=λi e=>hi ⟨i,e⟩
  rcases Xo hc hi with ⟨c,U,Y,g,t,cx,B,G,j,rfl,hm,F,d⟩|⟨c,x,G,j,n⟩
  .have⟨A,b,a6⟩:=c
   simp only at j d
   subst j
   rw[oF] at l
   have O:=jU s d
   have k:=aN s F
   split at l
   .rename_i u uv N
    rw[N] at k
    have⟨y,z,a3⟩:=k
    split at l
    case isFalse=>cases l
    .rename_i a4
     obtain rfl:=a4
     obtain⟨_,a5⟩:=ED hm y w
     have f:(execOp a.eval o).run P w= .ok (.enter g (#[y]++b.map a.eval)) w:=by
      have a1:((#[a.eval U]++b.map a.eval).extract 1 (#[a.eval U]++b.map a.eval).size)=b.map a.eval:=by
       apply Array.toList_inj.1;simp [List.extract_eq_take_drop,Nb]
      have a2:execOp a.eval o=Go.invoke (.fn (.method Y) #[]) (#[a.eval U]++b.map a.eval):=by
       unfold execOp;rw[G];simp [resolve]
      rw[a2];have h0:(#[a.eval U]++b.map a.eval)[0]? =some (a.eval U):=by rw[Array.getElem?_append_left siM];rfl
      simp only[Go.invoke,h0,a1];simp only[z,callMethod,Sem.run_bind,run_program,Result.andThen_ok,a5];exact vJ (hS _ _ _ _ _ l).1
     exact Lu R f ((hS _ _ _ _ _ l).2 m w _ (by simpa using ⟨a3,O⟩) hr hl) Z
   .cases l
  have⟨A,b,a6⟩:=c
  simp only at j n
  subst j
  have L:(fn:Go.Fn)->(first J:Array Value)->a.eval x= .func fn first J->execOp a.eval o=Go.invoke (.fn fn J) (first++b.map a.eval):=by
   intro fn first J N
   unfold execOp;rw[G];simp [resolve,Deferred.ofValue,N]
  rcases n with ⟨g,B,rfl,rfl,W,d⟩|⟨cx,B,rfl,F,d⟩
  .have O:=jU s d
   have f:(execOp a.eval o).run P w= .ok (.enter g (b.map a.eval)) w:=by
    rw[L _ _ _ rfl];simp [Go.invoke,vJ W]
   exact Lu R f ((hS _ _ _ _ _ l).2 m w _ (by simpa using O) hr hl) Z
  .rw[oF] at l
   have O:=jU s d
   have k:=aN s F
   split at l
   .rename_i g fs cs N
    rw[N] at k
    have⟨xs,ys,z,h1,h2⟩:=k
    have f:(execOp a.eval o).run P w= .ok (.enter g (xs++b.map a.eval++ys)) w:=by
     rw[L _ _ _ z];simp only[Go.invoke];exact vJ (hS _ _ _ _ _ l).1
    exact Lu R f ((hS _ _ _ _ _ l).2 m w _ (by simpa using (h1.append (O.append h2))) hr hl) Z
   .rename_i id N
    rw[N] at k
    have⟨q,hq,z⟩:=k
    obtain⟨fn,a0,aQ_,bd,h1,h2⟩:=hY _ _ _ _ _ l m w (b.map a.eval) q (by simpa using O) hr hl hq
    have f:(execOp a.eval o).run P w= .ok (.round q.1 fn a0 aQ_ bd) w:=by
     rw[L _ _ _ z];simpa [Go.invoke] using h1
    exact TJ R f h2 Z
   .cases l
end
end
end Go.Ay
namespace Go.Ay
open Go
section
variable {ops:Array Oper}
section
variable {P:Program} {cl yl:kO} {m:M} {h h':H} {w:World} {nt:Nat} {pv defs:List Nat} {vars loc:List V} {a:Act} {o:Oper} {v:V}
def Dst (nt:Nat)(pv defs:List Nat)(dst:Option Tmp)(d:D)(defs':List Nat):Prop:=
 match dst with
 |none=>d= .n/\defs'=defs
 |some t=>t<nt/\match idx t pv with
  |some k=>d= .v k/\defs'=defs
  |none=>d= .l/\defs'=t::defs
theorem St.put (s:St m nt pv defs vars loc a){f:Option Tmp}{d:D}{b:List Nat}(c:Dst nt pv defs f d b){x:Value}(i:VR m v x):
  St m nt pv b (jC d vars loc v).1 (jC d vars loc v).2 (a.put f x):=by
 cases f with
 |none=>obtain⟨rfl,rfl⟩:=c;exact s
 |some t=>
  have⟨j,c⟩:=c;simp only[Act.put]
  cases hk:idx t pv with
  |some k=>
   simp only[hk] at c;obtain⟨rfl,rfl⟩:=c;exact⟨s.vars.set hk i,s.loc.ajE hk x⟩
  |none=>
   simp only[hk] at c;obtain⟨rfl,rfl⟩:=c;exact⟨s.vars.aiU hk x,s.loc.push (nt:=nt) hk (by rw[s.vars.size];exact j) i⟩
theorem St.mono {b:M}(e:Ext m b)(s:St m nt pv defs vars loc a):St b nt pv defs vars loc a:=⟨s.vars.mono e,s.loc.mono e⟩
theorem He {it:It}{c:List Nat}(n:tM P nt pv defs ops o=some (it,c)):
  vT P pv defs o=some it.a/\Dst nt pv defs o.dst it.d c/\
  (match o.guard with
   |none=>it.g=none
   |some (j,b)=> ∃t x,(ops[j]?).bind (·.dst)=some t/\fS pv defs (.tmp t)=some x/\it.g=some (x,b)):=by
 unfold tM at n
 split at n
 .rename_i act g d q i f
  cases n
  refine⟨q,?_,?_⟩
  .cases hdst:o.dst with
   |none=>rw[hdst] at f;cases f;exact⟨rfl,rfl⟩
   |some t=>
    rw[hdst] at f;simp only[agA] at f;split at f
    .rename_i l
     refine⟨l,?_⟩
     cases hk:idx t pv with
     |some k=>simp only[hk] at f;cases f;exact⟨rfl,rfl⟩
     |none=>simp only[hk] at f;cases f;exact⟨rfl,rfl⟩
    .cases f
  .cases ho:o.guard with
   |none=>rw[ho] at i;cases i;rfl
   |some jb=>
    have⟨j,b⟩:=jb;rw[ho] at i;simp only[agD] at i
    cases l:(ops[j]?).bind (·.dst) with
    |none=>simp [l] at i
    |some t=>
     simp only[l,kU] at i;obtain⟨x,r,rfl⟩:=i;exact⟨t,x,l,r,rfl⟩
 .cases n
theorem Dl (s:St m nt pv defs vars loc a){g:Option (X×Bool)}{b:Bool}(i:(match o.guard with
   |none=>g=none
   |some (j,b)=> ∃t x,(ops[j]?).bind (·.dst)=some t/\fS pv defs (.tmp t)=some x/\g=some (x,b))) (f:iT vars loc g=some b):
  Region.wanted o (yielded ops a.tmps)=b:=by
 unfold Region.wanted
 cases ho:o.guard with
 |none=>simp only[ho] at i;subst i;simp only[iT] at f;cases f;rfl
 |some jb=>
  have⟨j,n⟩:=jb;simp only[ho] at i;obtain⟨t,x,q,r,rfl⟩:=i;have d:=aN s r;simp only[iT] at f;simp only[yielded,q,Option.bind_some];have l:a.eval (.tmp t)=a.tmps.getD t undef:=rfl;rw[l] at d;split at f
  .rename_i c k
   rw[k] at d;have d:a.tmps.getD t undef= .bool c:=d;cases f
   cases hq:a.tmps[t]? with
   |none=>simp [PB,hq,undef] at d
   |some y=>
    simp [PB,hq] at d;subst d;simp
  .rename_i k
   rw[k] at d;have⟨xs,d,_⟩:=d;cases f
   cases hq:a.tmps[t]? with
   |none=>simp
   |some y=>
    simp [PB,hq] at d;subst d;simp
  .cases f
theorem agP (W:Ep P cl)(L:yM P yl){r:Option Nat}{Q:Exit->Act->World->Prop}(J:List Nat):(l:List Nat)->(defs:List Nat)->(its:List It)->(vars loc:List V)->(h:H)->(vars':List V)->(h':H)->
  Du P nt pv ops l defs=some its->wU cl yl its vars loc h=some (vars',h')->
  ∀(m:M) (w:World) (a:Act),St m nt pv defs vars loc a->HR P m h w->Na m h.next->
  (∀a' w' m',jK m' nt pv vars' a'.tmps->a'.defers=a.defers->iR P m h w m' h' w'->wpOpsIn (Wf r) 0 P ops Q J a' w')->
  wpOpsIn (Wf r) 0 P ops Q (l++J) a w:=by
 intro l
 induction l with
 |nil=>
  intro defs its vars loc h vars' h' j f m w a s y F A;simp only[Du] at j;cases j;have:vars=vars'/\h=h':=by simpa [wU] using f
  obtain⟨rfl,rfl⟩:=this;exact A a w m s.vars rfl (iR.Ou y)
 |cons i l ih=>
  intro defs its vars loc h vars' h' j f m w a s y F A;simp only[Du] at j
  cases ho:ops[i]? with
  |none=>simp [ho] at j
  |some o=>
   simp only[ho] at j
   cases hit:tM P nt pv defs ops o with
   |none=>simp [hit] at j
   |some q=>
    have⟨it,n⟩:=q;simp only[hit,kU] at j;obtain⟨k,B,rfl⟩:=j;obtain⟨K,N,O⟩:=He hit;rw[wU] at f
    have next:(v:V)->(t:H)->wU cl yl k (jC it.d vars loc v).1 (jC it.d vars loc v).2 t=some (vars',h')-> ∀x u z,VR z v x->iR P m h w z t u->wpOpsIn (Wf r) 0 P ops Q (l++J) (a.put o.dst x) u:=by
     intro v t G x u z U c;refine ih n k _ _ t vars' h' B G z u _ ((s.mono c.ext).put N U) c.rel (c.low F) (λa' w' m' e1 e2 R=>A a' w' m' e1 ?_ (c.trans R));rw[e2];cases o.dst<;>rfl
    simp only[List.cons_append,wpOpsIn,ho]
    cases hw:iT vars loc it.g with
    |none=>simp [hw] at f
    |some b=>
     rw[hw] at f;rw[Dl s O hw]
     cases b with
     |true=>
      simp only[if_true];simp only at f
      cases hact:oF cl yl vars loc h it.a with
      |none=>simp [hact] at f
      |some q=>
       have⟨v,t⟩:=q;simp only[hact] at f;exact TW W L K s y F hact (next v t f)
     |false=>
      simp only[Bool.false_eq_true,if_false];exact⟨λ_ _=>trivial,next .undef h f undef w m (VR.undef m) (iR.Ou y)⟩
end
end
end Go.Ay
namespace Go.Ay
open Go
section
variable {ρ:X->V} {h h':H} {i:I} {v:V}
theorem Gi {ρ':X->V}(a: ∀x∈i.xs,ρ x=ρ' x):dI ρ h i=dI ρ' h i:=by
 have c:(l:List X)->(∀x∈l,ρ x=ρ' x)->l.map ρ=l.map ρ':=λl j=>Nt j
 cases i with
 |mm mx xs=>simp only[dI];rw[c xs a]
 |mkf f fs cs=>simp only[dI];rw[c fs (λx h=>a x (by simp [I.xs,h])),c cs (λx h=>a x (by simp [I.xs,h]))]
 |bld z ps=>
  simp only[dI];rw[show (ps.map λp=>(p.1,p.2.1,ρ p.2.2))=ps.map λp=>(p.1,p.2.1,ρ' p.2.2) from Nt λp b=>by rw[a p.2.2 (by simp only[I.xs,oG];exact⟨p,b,rfl⟩)]]
 |bls s z n ps=>
  simp only[dI];rw[show (ps.map λp=>(p.1,p.2.1,ρ p.2.2))=ps.map λp=>(p.1,p.2.1,ρ' p.2.2) from Nt λp b=>by rw[a p.2.2 (by simp only[I.xs,oG];exact⟨p,b,rfl⟩)]]
 |slc s x lo hi mx=>
  simp only[dI];rw[a x (by simp [I.xs])];have e1:lo.map ρ=lo.map ρ':=by cases lo with|none=>rfl|some y=>simp [a y (by simp [I.xs])]
  have e2:hi.map ρ=hi.map ρ':=by cases hi with|none=>rfl|some y=>simp [a y (by simp [I.xs])]
  have d:mx.map ρ=mx.map ρ':=by cases mx with|none=>rfl|some y=>simp [a y (by simp [I.xs])]
  rw[e1,e2,d]
 |mkw s r=>
  have e1:r.map ρ=r.map ρ':=by cases r with|none=>rfl|some y=>simp [a y (by simp [I.xs])]
  simp only[dI,e1]
 |_=>simp only[dI,I.xs,Hu,List.mem_nil_iff,or_false,forall_eq_or_imp,forall_eq,List.not_mem_nil] at a |- <;>simp only[a]
theorem Yh (b:i.qG=false)(h2:i.lV=false)(h3:i.qU=false)(a:dI ρ h i=some (v,h')):
  h'=h/\ ∀h2,dI ρ h2 i=some (v,h2):=by
 cases i<;>simp [I.qG,I.lV,I.qU] at b h2 h3<;>simp only[dI,Option.map_map] at a |- <;>
  (repeat' first
   |(cases a;done)
   |(cases a;exact⟨rfl,λ_=>by simp [*]⟩)
   |exact⟨rfl,λ_=>rfl⟩
   |(simp only[kU,Prod.mk.injEq] at a;obtain⟨_,e1,rfl,rfl⟩:=a;exact⟨rfl,λ_=>by simp [*]⟩)
   |split at a)
theorem VE (b:i.qG=true)(a:dI ρ h i=some (v,h')):h'=h:=by
 cases i<;>simp [I.qG] at b<;>simp only[dI] at a<;>
  (repeat' first
   |(cases a;done)
   |(cases a;rfl)
   |(simp only[kU,Prod.mk.injEq] at a;obtain⟨_,e1,e2,rfl⟩:=a;rfl)
   |split at a)
theorem JQ {vs ws:List V}(a:i.qG=true):dI (xv vs ws) h (i.close ρ)=dI ρ h i:=by
 cases i<;>simp [I.qG] at a<;>first|rfl|simp only[dI,I.close,xv]
theorem aiY (f:i.lV=true)(a:dI ρ h i=some (v,h')):
  ∃o:Ob,o.rw=true/\h'=h.new o/\ ∀h2:H,h2.next=h.next->dI ρ h2 i=some (v,h2.new o):=by
 cases i<;>simp [I.lV] at f<;>simp only[dI,sD] at a |-
 case alc z=>cases a;exact⟨_,rfl,rfl,λh2 e=>by rw[e]⟩
 case mkm=>cases a;exact⟨_,rfl,rfl,λh2 e=>by rw[e]⟩
 case mkw s r=>
  split at a
  .rename_i d
   cases a;exact⟨_,rfl,rfl,λh2 e=>by rw[aS d,e]⟩
  .cases a
 case box x=>
  split at a
  .rename_i d
   cases a;exact⟨.cells false (ρ x).cells,rfl,rfl,λh2 e=>by rw[aS d,e]⟩
  .cases a
 case mks s b z l c=>
  split at a
  .rename_i j m k t e1 e2
   split at a
   .rename_i d
    cases a;exact⟨_,rfl,rfl,λh2 e=>by rw[aS d,e]⟩
   .cases a
  .cases a
 case bls s z n ps=>
  split at a
  .rename_i q e1
   split at a
   .rename_i d
    cases a;exact⟨_,rfl,rfl,λh2 e=>by rw[aS d,e]⟩
   .cases a
  .cases a
theorem Zd {f j:kO}{act:dU}{c a b:List V}(d: ∀x∈act.xs,xv c b x=xv a b x):
  oF f j c b h act=oF f j a b h act:=by
 cases act with
 |op i=>exact Gi d
 |call g args=>simp only[oF];rw[show args.map (xv c b)=args.map (xv a b) from Nt (λx h=>d x h)]
 |callv x args=>
  simp only[oF];rw[d x (by simp [dU.xs]),Nt (λy h=>d y (by simp [dU.xs,h]))]
 |calli g t x args=>
  simp only[oF];rw[d x (by simp [dU.xs]),Nt (λy h=>d y (by simp [dU.xs,h]))]
end
end Go.Ay
namespace Go.Ay
open Go
section
variable {P:Program}
theorem HR.sub {m:M}{h g:H}{w:World}(c:HR P m h w)(a: ∀id o,g.get id=some o->h.get id=some o):HR P m g w:=
 ⟨λid o d=>c.live id o (a id o d),λi j l q n f b hi k=>c.inj i j l q n f b (a _ _ hi) (a _ _ k)⟩
theorem iR.frame {m0 m m':M}{h0 G v g g':H}{w0 w w':World}(a:iR P m0 h0 w0 m G w)(l: ∀id o,g.get id=some o->G.get id=some o)(b:iR P m g w m' g' w')
  (Q: ∀id o,v.get id=some o->g'.get id=some o\/(G.get id=some o/\o.rw=true/\g.get id=none))
  (n1:h0.next<=g.next) (n2:g'.next<=v.next) (n3:G.next<=v.next):iR P m0 h0 w0 m' v w':=by
 have k: ∀id o p,G.get id=some o->o.rw=true->g.get id=none->m id=some p-> ¬LB m g p.1:=by
  intro id o p c t n h4 ⟨j,A,q,e1,e2,s⟩;have a5:id≠j:=λe=>by subst e;rw[n] at e1;cases e1
  exact a.rel.inj id j o A p q a5 c (l _ _ e1) t h4 e2 s.symm
 have a3:(m:M)->(h:H)->(b:Nat)->FP m h b->LB m h b:=λm h b ⟨i,o,p,e1,_,s,z⟩=>⟨i,o,p,e1,s,z⟩
 have y: ∀b,FP m g b->FP m G b:=λb ⟨i,o,p,e1,e2,s,z⟩=>⟨i,o,p,l _ _ e1,e2,s,z⟩
 have N: ∀b,LB m g b->LB m G b:=λb ⟨i,o,p,e1,s,z⟩=>⟨i,o,p,l _ _ e1,s,z⟩
 have d: ∀id o,G.get id=some o-> ∃p,m id=some p/\OR P m o p w:=a.rel.live
 have kept: ∀id o p,G.get id=some o->o.rw=true->g.get id=none->m id=some p->OR P m o p w->OR P m' o p w':=by
  intro id o p c t n h4 J;exact OR.mono b.ext (b.kept.block _ J.lt (λW=>k id o p c t n h4 (a3 _ _ _ W))) J
 refine⟨a.ext.trans b.ext,⟨λid o R=>?_,λi j Y A pi pj a1 hi hj Z L F=>?_⟩,λid p hp=>?_,?_,λx O=>?_,?_,λx O=>?_,λid R hn=>?_⟩
 .rcases Q id o R with c|⟨c,t,n⟩
  .exact b.rel.live id o c
  .obtain⟨p,hp,J⟩:=d id o c
   exact⟨p,b.ext _ _ hp,kept id o p c t n hp J⟩
 .rcases Q i Y hi with c|⟨c,t,n⟩
  .rcases Q j A hj with B|⟨B,k2,k3⟩
   .exact b.rel.inj i j Y A pi pj a1 c B Z L F
   .obtain⟨q,u,J⟩:=d j A B
    have f:=b.ext _ _ u
    rw[F] at f;cases f
    intro e
    rcases b.lb pi.1 ⟨i,Y,pi,c,L,rfl⟩ with r|r
    .exact k j A _ B k2 k3 u (e▸r)
    .have:=J.lt;omega
  .obtain⟨q,u,J⟩:=d i Y c
   have f:=b.ext _ _ u
   rw[L] at f;cases f
   rcases Q j A hj with B|⟨B,k2,k3⟩
   .intro e
    rcases b.lb pj.1 ⟨j,A,pj,B,F,rfl⟩ with r|r
    .exact k i Y _ c t n u (e▸r)
    .have:=J.lt;omega
   .obtain⟨q2,a4,_⟩:=d j A B
    have K:=b.ext _ _ a4
    rw[F] at K;cases K
    exact a.rel.inj i j Y A _ _ a1 c B Z u a4
 .rcases b.fresh id p hp with c|⟨c,t⟩
  .rcases a.fresh id p c with n|⟨n,h4⟩
   .exact .inl n
   .exact .inr ⟨n,om⟩
  .exact .inr ⟨om,om⟩
 .exact⟨b.kept.os.trans a.kept.os,b.kept.tape.trans a.kept.tape,b.kept.output.trans a.kept.output,kQ a.kept.size b.kept.size,λx a2 a0=>by
   have c:=a.kept.block x a2 a0;have t:=b.kept.block x (iD a2 a.kept.size) (λW=>(a.fp x (y x W)).elim a0 (λa7=>om))
   exact t.trans c⟩
 .have⟨i,o,p,e1,e2,s,z⟩:=O
  rcases Q i o e1 with c|⟨c,t,n⟩
  .rcases b.fp x ⟨i,o,p,c,e2,s,z⟩ with r|r
   .exact a.fp x (y x r)
   .exact .inr (kQ a.kept.size r)
  .obtain⟨q,u,_⟩:=d i o c
   have f:=b.ext _ _ u
   rw[s] at f;cases f
   exact a.fp x ⟨i,o,_,c,e2,u,z⟩
 .have:=a.next;omega
 .have⟨i,o,p,e1,s,z⟩:=O
  rcases Q i o e1 with c|⟨c,t,n⟩
  .rcases b.lb x ⟨i,o,p,c,s,z⟩ with r|r
   .exact a.lb x (N x r)
   .exact .inr (kQ a.kept.size r)
  .obtain⟨q,u,_⟩:=d i o c
   have f:=b.ext _ _ u
   rw[s] at f;cases f
   exact a.lb x ⟨i,o,_,c,u,z⟩
 .cases hg:v.get id with
  |none=>rfl
  |some o=>
   exfalso;have U:=a.old id R hn;rcases Q id o hg with c|⟨c,_⟩
   .have a6:g.get id=none:=by
     cases hgg:g.get id with
     |none=>rfl
     |some o2=>rw[l _ _ hgg] at U;cases U
    rw[b.old id om a6] at c;cases c
   .rw[U] at c;cases c
end
end Go.Ay
