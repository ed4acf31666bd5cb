/- Texts of the claim. -/
import GoSem.Dispatch
import GoSem.Core.Code
import Derived.Attr
import Derived.RangeFuncLeaves
import Derived.RangeFuncRecord
import Derived.Laws.AppendOwn
import Derived.OwnWalkIn
import Derived.ChangeKeysEq
import Derived.Laws.MakeOwn
import Derived.Great.BuildSlice
import Derived.WideKeyArr
import Derived.StringKeys
import Derived.OrdersIn
set_option maxHeartbeats 1000000
set_option maxRecDepth 100000
namespace Go.Ay
section
variable {i:Nat} {p:Prop}
theorem dC.{u}{α:Type u}{l:List α}{i:Nat}(h:i<l.length):l[i]?=some l[i]:=List.getElem?_eq_getElem h
theorem oF.{u,v}{α:Type u}{β:Type v}{b:β}{x:Option α}{f:α->β}:Option.map f x=some b↔∃a,x=some a/\f a=b:=Option.map_eq_some_iff
theorem uW.{u}{α β:Type u}{o:Option α}{f:α->Option β}{b:β}:o.bind f=some b↔∃a,o=some a/\f a=some b:=Option.bind_eq_some_iff
theorem kQ {n m k:Nat}(h:n<m)(h2:m<=k):n<k:=Nat.lt_of_lt_of_le h h2
theorem eU (n:Nat):n<=n:=Nat.le_refl n
theorem fE (n:Nat):0<=n:=Nat.zero_le n
theorem fL.{u,v}{α:Type u}{β:Type v}{a:List α}(f:α->β):(a.map f).length=a.length:=List.length_map f
theorem iB.{u}{α:Type u}{a b:List α}:(a++b).length=a.length+b.length:=List.length_append
theorem qU.{u,v}{α:Type u}{β:Type v}{b:β}{f:α->β}{l:List α}:b∈l.map f↔∃a,a∈l/\f a=b:=List.mem_map
theorem jO.{u}{α:Type u}{a:α}{s t:List α}:a∈s++t↔a∈s\/a∈t:=List.mem_append
theorem wY {m n:Nat}:m∈List.range n↔m<n:=List.mem_range
theorem Re.{u}{α:Type u}{p:α->Bool}{a:List α}{x:α}:x∈a.filter p↔x∈a/\p x=true:=List.mem_filter
theorem wU.{u}{α:Type u}{l m:List α}{i:Nat}(h:i<l.length):(l++m)[i]?=l[i]?:=List.getElem?_append_left h
theorem wH.{u}{α:Type u}{i:Nat}{l:List α}:(l.take i).length=min i l.length:=List.length_take
theorem rV.{u}{α:Type u}{a:α}{l:List α}:a∈l↔∃(i:Nat) (h:i<l.length),l[i]=a:=List.mem_iff_getElem
theorem zQ (h:¬p->False):p:=Classical.byContradiction h
theorem siM (h:p:=by simp):p:=h
theorem deC (h:p:=by decide):p:=h
theorem siO (h:p:=by simp;omega):p:=h
theorem om (h:p:=by omega):p:=h
theorem bL:type_of% @if_pos:=@if_pos
theorem bV:type_of% @if_neg:=@if_neg
theorem pJ:type_of% @List.append_assoc:=@List.append_assoc
theorem zA:type_of% @Option.bind_eq_bind:=@Option.bind_eq_bind
theorem kP:type_of% @Nat.le_trans:=@Nat.le_trans
theorem rW:type_of% @List.getElem?_eq_some_iff:=@List.getElem?_eq_some_iff
theorem tX:type_of% @List.mem_cons_of_mem:=@List.mem_cons_of_mem
theorem rG:type_of% @Bool.and_eq_true:=@Bool.and_eq_true
theorem qZ:type_of% @Nat.mul_one:=@Nat.mul_one
theorem qV:type_of% @List.append_nil:=@List.append_nil
theorem Bo:type_of% @List.take_of_length_le:=@List.take_of_length_le
theorem zT:type_of% @List.getElem?_append_right:=@List.getElem?_append_right
theorem Zo:type_of% @List.getD_eq_getElem?_getD:=@List.getD_eq_getElem?_getD
theorem Sk:type_of% @List.map_congr_left:=@List.map_congr_left
theorem Ng:type_of% @List.length_range:=@List.length_range
theorem pN:type_of% @List.getElem_mem:=@List.getElem_mem
theorem sZ:type_of% @List.mem_cons_self:=@List.mem_cons_self
theorem uL:type_of% @List.mem_cons:=@List.mem_cons
theorem Sr:type_of% @List.pairwise_iff_getElem:=@List.pairwise_iff_getElem
theorem Lf:type_of% @Bool.eq_iff_iff:=@Bool.eq_iff_iff
theorem vE:type_of% @List.all_eq_true:=@List.all_eq_true
theorem tU:type_of% @decide_eq_true_iff:=@decide_eq_true_iff
theorem IF:type_of% @Int.toNat_natCast:=@Int.toNat_natCast
theorem Wq:type_of% @Array.getElem?_eq_some_iff:=@Array.getElem?_eq_some_iff
theorem Nx:type_of% @List.length_drop:=@List.length_drop
theorem Xz:type_of% @List.nodup_iff_pairwise_ne:=@List.nodup_iff_pairwise_ne
theorem Oc:type_of% @List.mem_of_getElem?:=@List.mem_of_getElem?
theorem iLL:type_of% @List.idxOf_lt_length_iff:=@List.idxOf_lt_length_iff
theorem Ss:type_of% @List.length_pos_of_mem:=@List.length_pos_of_mem
theorem Jj:type_of% @List.getElem?_map:=@List.getElem?_map
theorem Ij:type_of% @List.drop_eq_getElem_cons:=@List.drop_eq_getElem_cons
theorem KN:type_of% @Array.getD_eq_getD_getElem?:=@Array.getD_eq_getD_getElem?
theorem Yl:type_of% @List.eq_nil_of_length_eq_zero:=@List.eq_nil_of_length_eq_zero
inductive uF where
 |kn (c:Nat)
 |un (esz:Nat)
 deriving DecidableEq,Repr,Inhabited
inductive V where
 |int (k:IntKind) (n:Int)
 |bool (b:Bool)
 |ptr (id off:Nat)
 |nilp
 |sl (id off len:Nat) (cap:uF)
 |aD
 |emp (a:Addr)
 |str (l:List Nat)
 |ifc (t:Nat) (x:V)
 |mp (id:Nat)
 |nilm
 |fn (f:Nat) (first cs:List V)
 |yl (id:Nat)
 |nilf
 |agg (vs:List V)
 |tup (vs:List V)
 |unk
 deriving Repr,Inhabited
def V.undef:V:= .tup []
def V.cells:V->List V
 | .agg vs=>vs
 |v=> [v]
def V.one:V->Bool
 | .agg _| .tup _| .unk=>false
 |_=>true
inductive X where
 |v (k:Nat)
 |l (k:Nat)
 |c (x:V)
 deriving Repr,Inhabited
inductive D where
 |v (k:Nat)
 |l
 |n
 deriving Repr,Inhabited,DecidableEq
inductive Bp where
 |str
 |arr (n:Nat) (k:IntKind)
 deriving Repr,Inhabited,DecidableEq
inductive I where
 |mov (x:X)
 |pick (c a b:X)
 |bin (op:BinOp) (k:IntKind) (x y:X)
 |shf (op:BinOp) (k:IntKind) (x y:X)
 |beq (neg:Bool) (x y:X)
 |snil (neg:Bool) (x:X)
 |not (x:X)
 |conv (k:IntKind) (x:X)
 |ext (x:X) (i:Nat)
 |lens (x:X)
 |lenm (x:X)
 |ld (agg:Bool) (n:Nat) (x:X)
 |st (n:Nat) (x y:X)
 |ixa (sz:Nat) (x i:X)
 |fla (off:Nat) (x:X)
 |slc (sz:Nat) (x:X) (lo hi mx:Option X)
 |mks (sz bytes:Nat) (zero:List V) (l c:X)
 |alc (zero:List V)
 |box (x:X)
 |bld (zero:List V) (parts:List (Nat×Nat×X))
 |bls (sz:Nat) (zero:List V) (n:Nat) (parts:List (Nat×Nat×X))
 |app (sz bytes:Nat) (x y:X)
 |cpy (sz:Nat) (x y:X)
 |mkf (f:Nat) (first cs:List X)
 |nck (x:X)
 |ixd (n sz:Nat) (x i:X)
 |cvs (x:X)
 |mif (t:Nat) (x:X)
 |mkw (sh:Bp) (r:Option X)
 |lkw (sh:Bp) (zero:V) (ok:Bool) (x k:X)
 |msw (sh:Bp) (x k y:X)
 |six (x i:X)
 |seq (neg:Bool) (x y:X)
 |sad (x y:X)
 |cir (x:X)
 |clr (sz:Nat) (zero:List V) (x:X)
 |fail
 deriving Repr,Inhabited
inductive fU where
 |op (i:I)
 |call (f:Nat) (args:List X)
 |callv (x:X) (args:List X)
 deriving Repr,Inhabited
structure It where
 d:D
 g:Option (X×Bool)
 a:fU
 deriving Repr,Inhabited
structure AI where
 i:Nat
 it:It
 al:Bool
 cks:List Nat
 deriving Repr,Inhabited
inductive C where
 |skip
 |reg (its:List It)
 |any (k nl:Nat) (its:List AI)
 |seq (a b:C)
 |ite (x:X) (a b:C)
 |block (id:Nat) (c:C)
 |loop (c:C)
 |exit (id:Nat)
 |ret
 |range (f:X) (pars:List Nat) (assign body:C)
 |fail
 deriving Repr,Inhabited
inductive E where
 |norm
 |ret
 |exit (id:Nat)
 deriving Repr,Inhabited,DecidableEq
inductive LSt where
 |ready
 |busy
 |done
 |out
 deriving Repr,Inhabited,DecidableEq
structure fR where
 vars:List V
 pars:List Nat
 assign:C
 body:C
 st:LSt
 pend:Option E
inductive Ob where
 |cells (ro:Bool) (vs:List V)
 |wmap (sh:Bp) (es:List (V×V))
 |loop (r:fR)
structure H where
 tr:Nat->Option Ob
 next:Nat
def H.get (h:H)(i:Nat):Option Ob:=h.tr i
def H.set (h:H)(id:Nat)(o:Option Ob):H:={h with tr:=λk=>if k=id then o else h.tr k}
def H.new (h:H)(o:Ob):H:={tr:=λk=>if k=h.next then some o else h.tr k,next:=h.next+1}
def lf:Nat->Option Ob:=λ_=>none
theorem H.jD (h:H)(id:Nat)(o:Option Ob)(k:Nat):(h.set id o).get k=if k=id then o else h.get k:=rfl
theorem H.kG (h:H)(o:Ob)(k:Nat):(h.new o).get k=if k=h.next then some o else h.get k:=rfl
theorem H.dE (h:H)(id:Nat)(o:Option Ob):(h.set id o).next=h.next:=rfl
theorem H.aZ (h:H)(o:Ob):(h.new o).next=h.next+1:=rfl
inductive Rv where
 |v (k:Nat)
 |cell (k:Nat) (agg:Bool) (n:Nat)
 deriving Repr,Inhabited
structure Fn where
 nargs:Nat
 init:List (Option Nat)
 results:List Rv
 body:C
 Hm:Bool:=false
 deriving Repr,Inhabited
def xv (vars loc:List V):X->V
 | .v k=>vars.getD k .undef
 | .l k=>loc.getD k .undef
 | .c x=>x
def tZ (vars:List V)(k:Nat)(v:V):List V:=vars.set k v
def arith (op:BinOp)(k:IntKind)(a b:Int):Option V:=
 match op with
 | .add=>some (.int k (k.wrap (a+b)))
 | .sub=>some (.int k (k.wrap (a-b)))
 | .mul=>some (.int k (k.wrap (a*b)))
 | .quo=>if b=0 then none else some (.int k (k.wrap (a.tdiv b)))
 | .rem=>if b=0 then none else some (.int k (a.tmod b))
 | .eql=>some (.bool (a==b))
 | .neq=>some (.bool (a !=b))
 | .lss=>some (.bool (a<b))
 | .leq=>some (.bool (a<=b))
 | .gtr=>some (.bool (a>b))
 | .geq=>some (.bool (a>=b))
 | .and=>some (.int k (k.wrap (BitVec.ofInt k.bits a&&&BitVec.ofInt k.bits b).toNat))
 | .or=>some (.int k (k.wrap (BitVec.ofInt k.bits a|||BitVec.ofInt k.bits b).toNat))
 | .xor=>some (.int k (k.wrap (BitVec.ofInt k.bits a^^^BitVec.ofInt k.bits b).toNat))
 |_=>none
def Bn (op:BinOp)(k:IntKind)(a b:Int):Option V:=
 if b<0 then none else
 match op with
 | .shl=>some (.int k (k.wrap (a*2^(min b.toNat k.bits))))
 | .shr=>some (.int k (a.fdiv (2^(min b.toNat k.bits))))
 |_=>none
def sub (vs:List V)(off n:Nat):Option (List V):=
 if off+n<=vs.length then some ((vs.drop off).take n) else none
def putAt (vs:List V)(off:Nat)(ws:List V):Option (List V):=
 if off+ws.length<=vs.length then some (vs.take off++ws++vs.drop (off+ws.length)) else none
def H.row (h:H)(id off n:Nat):Option (List V):=
 match h.get id with
 |some (.cells _ vs)=>sub vs off n
 |_=>none
def H.put (h:H)(id off:Nat)(ws:List V):Option H:=
 match h.get id with
 |some (.cells false vs)=>(putAt vs off ws).map λvs'=>h.set id (some (.cells false vs'))
 |_=>none
def H.slice (h:H)(sz:Nat):V->Option (List V)
 | .aD=>some []
 | .emp _=>some []
 | .sl id off len _=>h.row id off (len*sz)
 |_=>none
def vT:V->Option Nat
 | .aD=>some 0
 | .emp _=>some 0
 | .sl _ _ len _=>some len
 |_=>none
def ldV (h:H)(agg:Bool)(n:Nat):V->Option V
 | .ptr id off=>
  match h.row id off n with
  |some vs=>if agg then some (.agg vs) else match vs with| [v]=>some v|_=>none
  |none=>none
 |_=>none
def El (sz:Nat)(x i:V):Option V:=
 match x,i with
 | .sl id off len _,.int _ n=>if 0<=n/\n<len then some (.ptr id (off+n.toNat*sz)) else none
 |_,_=>none
def kT (x:Option V)(dflt top:Nat):Option Nat:=
 match x with
 |none=>some dflt
 |some (.int _ n)=>if 0<=n/\n<=top then some n.toNat else none
 |_=>none
def pI (sz:Nat)(x:V)(lo hi mx:Option V):Option V:=
 match x with
 | .aD=>
  match mx,kT hi 0 0 with
  |none,some h=>match kT lo 0 h with|some _=>some .aD|none=>none
  |_,_=>none
 | .sl id off len cap=>
  match mx with
  |some _=>none
  |none=>
   match kT hi len (match cap with| .kn c=>c| .un _=>len) with
   |none=>none
   |some h=>
    match kT lo 0 h with
    |none=>none
    |some l=>
     match cap with
     | .kn c=>if l<=c then some (.sl id (if c=l then off else off+l*sz) (h-l) (.kn (c-l))) else none
     | .un e=>if e=sz then (if l<len then some (.sl id (off+l*sz) (h-l) (.un e)) else some (.sl id off 0 (.un e))) else none
 |_=>none
def iH (cells:List V):List (Nat×Nat×V)->Option (List V)
 | []=>some cells
 |(off,n,v)::rest=>
  if v.cells.length=n/\v.cells.all V.one then
   match putAt cells off v.cells with
   |some cs=>iH cs rest
   |none=>none
  else none
def dT (zero:List V)(n:Nat):List V:=(List.range n).map λi=>zero.getD (i%zero.length) .undef
def zL (h:H)(sz bytes:Nat)(x:V)(m:Nat)(ys:List V):Option (V×H):=
 match vT x,h.slice sz x with
 |some n,some xs=>
  if m=0 then some (x,h) else
  if (2*(n+m)+1000)*bytes<=2^48/\n+m<2^62 then
   match x with
   | .sl id off len (.kn c)=>
    if len+m<=c then
     match h.put id (off+len*sz) ys with
     |some h'=>some (.sl id off (len+m) (.kn c),h')
     |none=>none
    else some (.sl h.next 0 (n+m) (.un sz),h.new (.cells false (xs++ys)))
   | .sl id _ _ (.un e)=>
    match h.get id with
    |some (.cells false _)=>if e=sz then some (.sl h.next 0 (n+m) (.un sz),(h.set id none).new (.cells false (xs++ys))) else none
    |_=>none
   | .emp _=>none
   |_=>some (.sl h.next 0 (n+m) (.un sz),h.new (.cells false (xs++ys)))
  else none
 |_,_=>none
def XT (h:H)(sz:Nat)(x y:V):Option (V×H):=
 match vT x,vT y with
 |some n,some m=>
  let k:=min m n
  match x,y with
  | .sl id off _ _,.sl id' off' _ _=>
   match h.row id' off' (k*sz) with
   |some ys=>match h.put id off ys with
    |some h'=>some (.int .i64 k,h')
    |none=>none
   |none=>none
  |_,_=>if k=0 then some (.int .i64 0,h) else none
 |_,_=>none
def Ct (h:H)(sz bytes:Nat)(zero:List V)(l c:V):Option (V×H):=
 match l,c with
 | .int _ l,.int _ c=>
  if 0<=l/\l<=c/\c*bytes<=2^48/\c<2^62 then
   some (.sl h.next 0 l.toNat (.kn c.toNat),h.new (.cells false (dT zero (c.toNat*sz))))
  else none
 |_,_=>none
mutual
def dM:V->V->Bool
 | .int k a,.int j b=>k==j&&a==b
 | .bool a,.bool b=>a==b
 | .ptr i o,.ptr j p=>i==j&&o==p
 | .nilp,.nilp=>true
 | .sl i o l c,.sl j p n d=>i==j&&o==p&&l==n&&decide (c=d)
 | .aD,.aD=>true
 | .emp a,.emp b=>decide (a=b)
 | .str a,.str b=>a==b
 | .ifc a x,.ifc b y=>a==b&&dM x y
 | .mp i,.mp j=>i==j
 | .nilm,.nilm=>true
 | .fn f a b,.fn g c d=>f==g&&rJ a c&&rJ b d
 | .yl i,.yl j=>i==j
 | .nilf,.nilf=>true
 | .agg a,.agg b=>rJ a b
 | .tup a,.tup b=>rJ a b
 |_,_=>false
def rJ:List V->List V->Bool
 | [], []=>true
 |a::aQ_,b::bs=>dM a b&&rJ aQ_ bs
 |_,_=>false
end
def MN:V->Bool
 | .int .. =>true
 |_=>false
def Jt:Option V->Bool
 |none=>true
 |some v=>MN v
def MY (n sz:Nat)(x i:V):Option V:=
 match x,i with
 | .ptr id off,.int _ z=>if 0<=z/\z<(n:Int) then some (.ptr id (off+z.toNat*sz)) else none
 |_,_=>none
def pV:List V->Option (List Nat)
 | []=>some []
 | .int .u8 n::r=>if 0<=n/\n<256 then (pV r).map (n.toNat:: ·) else none
 |_=>none
def GY (h:H)(x:V):Option V:=
 match x with
 | .aD=>some (.str [])
 | .sl id off len _=>match h.row id off len with
  |some ys=>(pV ys).map V.str
  |none=>none
 |_=>none
def isKey:Bp->V->Bool
 | .str,.str l=>decide (l.length<2^62)&&l.all (λn=>decide (n<256))
 | .arr n k,.agg vs=>decide (vs.length=n)&&vs.all (fun| .int j a=>decide (j=k)&&(decide (k.min<=a)&&decide (a<=k.max))|_=>false)
 |_,_=>false
def iO (k:V):List (V×V)->Option (Nat×V)
 | []=>none
 |e::es=>if dM k e.1 then some (0,e.2) else (iO k es).map λq=>(q.1+1,q.2)
def fJ (ρ:X->V)(h:H):I->Option (V×H)
 | .mov x=>some (ρ x,h)
 | .pick c a b=>match ρ c with| .bool t=>some (if t then ρ a else ρ b,h)|_=>none
 | .bin op k x y=>match ρ x,ρ y with
  | .int j a,.int j' b=>if j=k/\j'=k then (arith op k a b).map (·,h) else none
  |_,_=>none
 | .shf op k x y=>match ρ x,ρ y with
  | .int j a,.int _ b=>if j=k then (Bn op k a b).map (·,h) else none
  |_,_=>none
 | .beq neg x y=>match ρ x,ρ y with
  | .bool a,.bool b=>some (.bool (if neg then !(a==b) else a==b),h)
  |_,_=>none
 | .snil neg x=>match ρ x with
  | .aD=>some (.bool (!neg),h)
  | .sl .. | .emp _=>some (.bool neg,h)
  |_=>none
 | .not x=>match ρ x with| .bool a=>some (.bool (!a),h)|_=>none
 | .conv k x=>match ρ x with| .int _ a=>some (.int k (k.wrap a),h)|_=>none
 | .ext x i=>match ρ x with| .tup vs=>(vs[i]?).map (·,h)|_=>none
 | .lens x=>(vT (ρ x)).map λ(n:Nat)=>(V.int .i64 (n:Int),h)
 | .lenm x=>match ρ x with
  | .nilm=>some (.int .i64 0,h)
  | .mp id=>match h.get id with|some (.wmap _ es)=>some (.int .i64 es.length,h)|_=>none
  |_=>none
 | .ld agg n x=>(ldV h agg n (ρ x)).map (·,h)
 | .st n x y=>match ρ x with
  | .ptr id off=>if (ρ y).cells.length=n/\(ρ y).cells.all V.one then (h.put id off (ρ y).cells).map (λh'=>(V.undef,h')) else none
  |_=>none
 | .ixa sz x i=>(El sz (ρ x) (ρ i)).map (·,h)
 | .fla off x=>match ρ x with| .ptr id o=>some (.ptr id (o+off),h)|_=>none
 | .slc sz x lo hi mx=>(pI sz (ρ x) (lo.map ρ) (hi.map ρ) (mx.map ρ)).map (·,h)
 | .mks sz bytes zero l c=>Ct h sz bytes zero (ρ l) (ρ c)
 | .alc zero=>some (.ptr h.next 0,h.new (.cells false zero))
 | .box x=>if (ρ x).cells.all V.one then some (.ptr h.next 0,h.new (.cells false (ρ x).cells)) else none
 | .bld zero parts=>(iH zero (parts.map λp=>(p.1,p.2.1,ρ p.2.2))).map λcs=>(.agg cs,h)
 | .bls sz zero n parts=>match iH (dT zero (n*sz)) (parts.map λp=>(p.1,p.2.1,ρ p.2.2)) with
  |some cs=>if cs.all V.one then some (.sl h.next 0 n (.kn n),h.new (.cells false cs)) else none
  |none=>none
 | .app sz bytes x y=>match vT (ρ y),h.slice sz (ρ y) with
  |some m,some ys=>zL h sz bytes (ρ x) m ys
  |_,_=>none
 | .cpy sz x y=>XT h sz (ρ x) (ρ y)
 | .mkf f fs cs=>some (.fn f (fs.map ρ) (cs.map ρ),h)
 | .nck x=>match ρ x with| .ptr id off=>some (.ptr id off,h)|_=>none
 | .ixd n sz x i=>(MY n sz (ρ x) (ρ i)).map (·,h)
 | .cvs x=>(GY h (ρ x)).map (·,h)
 | .mif t x=>some (.ifc t (ρ x),h)
 | .mkw sh r=>if Jt (r.map ρ)=true then some (.mp h.next,h.new (.wmap sh [])) else none
 | .lkw s zero ok x k=>match ρ x with
  | .mp id=>match h.get id with
   |some (.wmap sh es)=>if s=sh/\isKey s (ρ k)=true then
     match iO (ρ k) es with
     |some e=>some (if ok then .tup [e.2,.bool true] else e.2,h)
     |none=>some (if ok then .tup [zero,.bool false] else zero,h)
    else none
   |_=>none
  |_=>none
 | .msw s x k y=>match ρ x with
  | .mp id=>match h.get id with
   |some (.wmap sh es)=>if s=sh/\isKey s (ρ k)=true then
     some (V.undef,h.set id (some (.wmap sh (match iO (ρ k) es with
      |some e=>es.set e.1 (ρ k,ρ y)
      |none=>es++ [(ρ k,ρ y)]))))
    else none
   |_=>none
  |_=>none
 | .six x i=>match ρ x,ρ i with
  | .str l,.int _ z=>if 0<=z then (l[z.toNat]?).map (λ(c:Nat)=>(V.int .u8 ((c%256:Nat):Int),h)) else none
  |_,_=>none
 | .seq neg x y=>match ρ x,ρ y with
  | .str a,.str b=>some (.bool (if neg then !(a.map (· %256)==b.map (· %256)) else a.map (· %256)==b.map (· %256)),h)
  |_,_=>none
 | .sad x y=>match ρ x,ρ y with
  | .str a,.str b=>if a.length+b.length<2^62 then some (.str (a++b),h) else none
  |_,_=>none
 | .cir x=>match ρ x with
  | .int _ n=>if 0<=n/\n<128 then some (.str [n.toNat],h) else none
  |_=>none
 | .clr sz zero x=>match ρ x with
  | .aD=>some (V.undef,h)
  | .emp _=>some (V.undef,h)
  | .sl id off len _=>if len=0 then some (V.undef,h) else
   if zero.length=sz/\zero.all V.one=true then (h.put id off (dT zero (len*sz))).map (λh'=>(V.undef,h')) else none
  |_=>none
 | .fail=>none
def jG (d:D)(vars loc:List V)(v:V):List V×List V:=
 match d with
 | .v k=>(vars.set k v,loc)
 | .l=>(vars,v::loc)
 | .n=>(vars,loc)
def Er (vars:List V)(h:H):Rv->Option V
 | .v k=>some (vars.getD k .undef)
 | .cell k agg n=>ldV h agg n (vars.getD k .undef)
def Tx:List V->V
 | [v]=>v
 |vs=> .tup vs
def dP {α:Type}:List (Option α)->Option (List α)
 | []=>some []
 |none::_=>none
 |some a::r=>(dP r).map (a:: ·)
def iV (vars loc:List V):Option (X×Bool)->Option Bool
 |none=>some true
 |some (x,b)=>match xv vars loc x with| .bool a=>some (a==b)| .tup []=>some false|_=>none
def I.rN:I->Bool
 | .ld .. | .lenm _| .cvs _| .lkw .. =>true
 |_=>false
def I.nY:I->Bool
 | .mks .. | .alc _| .box _| .bls .. | .mkw .. =>true
 |_=>false
def I.sY:I->Bool
 | .st .. | .app .. | .cpy .. | .msw .. | .clr .. =>true
 |_=>false
def fU.rN:fU->Bool
 | .op i=>i.rN
 |_=>false
def fU.nY:fU->Bool
 | .op i=>i.nY
 |_=>false
def fU.sY:fU->Bool
 | .op i=>i.sY
 |_=>true
def I.close (ρ:X->V):I->I
 | .ld a n x=> .ld a n (.c (ρ x))
 | .lenm x=> .lenm (.c (ρ x))
 | .cvs x=> .cvs (.c (ρ x))
 | .lkw s z ok x k=> .lkw s z ok (.c (ρ x)) (.c (ρ k))
 |i=>i
abbrev Log:=List (Nat×I×V)
def pM (cks:List Nat)(log:Log)(h:H):Bool:=
 log.all λe=>!cks.contains e.1||(match fJ (xv [] []) h e.2.1 with|some (v,_)=>dM v e.2.2|none=>false)
def Fo (x:AI)(vars:List V)(v:V)(log:Log):Log:=
 match x.it.a with
 | .op i=>if i.rN then (x.i,i.close (xv vars []),v)::log else log
 |_=>log
def Ll (vars:List V)(h:H)(n:Nat):fU->Option (V×H)
 | .op i=>match fJ (xv vars []) {h with next:=n} i with
  |some (v,h')=>some (v,{h' with next:=h.next})
  |none=>none
 |_=>none
def qP (fn:Fn)(args:List V):List V:=fn.init.map λo=>match o with|some j=>args.getD j .undef|none=> .undef
def IP (rd:Option Nat)(h:H):Bool:=
 match rd with
 |none=>true
 |some id=>match h.get id with
  |some (.loop _)=>true
  |_=>false
end
end Go.Ay
namespace Go.Ay
abbrev lJ:=Nat->List V->H->Option (V×H)
def rZ (cl yl:lJ)(vars loc:List V)(h:H):fU->Option (V×H)
 | .op i=>fJ (xv vars loc) h i
 | .call g args=>cl g (args.map (xv vars loc)) h
 | .callv x args=>match xv vars loc x with
  | .fn g fs cs=>cl g (fs++args.map (xv vars loc)++cs) h
  | .yl id=>yl id (args.map (xv vars loc)) h
  |_=>none
def xE (cl yl:lJ):List It->List V->List V->H->Option (List V×H)
 | [],vars,_,h=>some (vars,h)
 |it::its,vars,loc,h=>match iV vars loc it.g with
  |some true=>match rZ cl yl vars loc h it.a with
   |some (v,h)=>xE cl yl its (jG it.d vars loc v).1 (jG it.d vars loc v).2 h
   |none=>none
  |some false=>xE cl yl its (jG it.d vars loc .undef).1 (jG it.d vars loc .undef).2 h
  |none=>none
def uT (cl yl:lJ)(base:Nat):List AI->List V->Log->H->Option (List V×H)
 | [],vars,_,h=>some (vars,h)
 |x::xs,vars,log,h=>match iV vars [] x.it.g with
  |some true=>
   match (if x.al then Ll vars h (base+x.i) x.it.a else rZ cl yl vars [] h x.it.a) with
   |some (v,h)=>if pM x.cks log h then uT cl yl base xs (jG x.it.d vars [] v).1 (Fo x vars v log) h else none
   |none=>none
  |some false=>if pM x.cks log h then uT cl yl base xs (jG x.it.d vars [] .undef).1 log h else none
  |none=>none
abbrev Res:=Option (E×List V×H)
def Jz (step:List V->H->Res):Nat->List V->H->Res
 |0,_,_=>none
 |n+1,vars,h=>match step vars h with
  |some (.norm,vars,h)=>Jz step n vars h
  |r=>r
def run (cl yl:lJ)(N:Nat)(rd:Option Nat):C->List V->H->Res
 | .skip,vars,h=>some (.norm,vars,h)
 | .reg its,vars,h=>match xE cl yl its vars [] h with
  |some (vars,h)=>some (.norm,vars,h)
  |none=>none
 | .any k nl its,vars,h=>match uT cl yl h.next its (vars++List.replicate nl .unk) [] {h with next:=h.next+k} with
  |some (vs,h)=>some (.norm,vs.take vars.length,h)
  |none=>none
 | .seq a b,vars,h=>match run cl yl N rd a vars h with
  |some (.norm,vars,h)=>run cl yl N rd b vars h
  |r=>r
 | .ite x a b,vars,h=>match xv vars [] x with
  | .bool true=>run cl yl N rd a vars h
  | .bool false=>run cl yl N rd b vars h
  |_=>none
 | .block id a,vars,h=>match run cl yl N rd a vars h with
  |some (.exit n,vars,h)=>if n=id then some (.norm,vars,h) else some (.exit n,vars,h)
  |r=>r
 | .loop a,vars,h=>Jz (run cl yl N rd a) N vars h
 | .exit n,vars,h=>some (.exit n,vars,h)
 | .ret,vars,h=>some (.ret,vars,h)
 | .range x pars assign body,vars,h=>match xv vars [] x with
  | .fn g fs cs=>
   if IP rd h then
   match cl g (fs++ .yl h.next::cs) (h.new (.loop {vars,pars,assign,body,st:= .ready,pend:=none})) with
   |some (_,h')=>
    match h'.get h.next with
    |some (.loop r)=>
     if r.st= .busy then none else
     some (r.pend.getD .norm,vars,h'.set h.next (some (.loop {r with st:= .out})))
    |_=>none
   |none=>none
   else none
  |_=>none
 | .fail,_,_=>none
def isI:V->Bool
 | .int .i64 _=>true
 |_=>false
def unI:V->Int
 | .int _ n=>n
 |_=>0
def Np:List V->H->Option (V×H)
 | [.sl id 0 len _],h=>if len=0 then some (.tup [],h) else match h.get id with
  |some (.cells false vs)=>if vs.length=len/\vs.all isI=true/\len<4611686018427387904 then some (.tup [],h.set id (some (.cells false (((vs.map unI).mergeSort λx y=>decide (x<=y)).map (.int .i64))))) else none
  |_=>none
 |_,_=>none
def My (p:Nat->Option Fn)(cl yl:lJ)(N:Nat):lJ:=λg args h=>
 match p g with
 |none=>none
 |some fn=>if fn.Hm then Np args h else
  if args.length=fn.nargs then
   match run cl yl N none fn.body (qP fn args) h with
   |some (.norm,vars,h)|some (.ret,vars,h)=>(dP (fn.results.map (Er vars h))).map λvs=>(Tx vs,h)
   |_=>none
  else none
def Jr (cl yl:lJ)(N:Nat):lJ:=λid args h=>
 match h.get id with
 |some (.loop r)=>
  if args.length=r.pars.length then
   match run cl yl N (some id) r.assign ((r.pars.zip args).foldl (λvs q=>vs.set q.1 q.2) r.vars) h with
   |some (.norm,vars,h)=>
    match h.get id with
    |some (.loop r2)=>
     if r2.st= .ready then
      match run cl yl N (some id) r.body vars (h.set id (some (.loop {r2 with st:= .busy}))) with
      |some (e,_,h)=>
       match h.get id with
       |some (.loop r3)=>
        (match e with
        | .norm=>some (.bool true,h.set id (some (.loop {r3 with st:= .ready,pend:=none})))
        |e=>some (.bool false,h.set id (some (.loop {r3 with st:= .done,pend:=some e}))))
       |_=>none
      |none=>none
     else none
    |_=>none
   |_=>none
  else none
 |_=>none
def mV (p:Nat->Option Fn):Nat->lJ×lJ
 |0=>(λ_ _ _=>none,λ_ _ _=>none)
 |f+1=>(My p (mV p f).1 (mV p f).2 f,Jr (mV p f).1 (mV p f).2 f)
end Go.Ay
namespace Go.Ay
section
variable {g:Nat} {args a' v v':List V} {R:V->H->Prop} {c:C} {h':H}
def iG {α:Type}(o:Option α)(K:α->Prop):Prop:= ∃a,o=some a/\K a
theorem Sz {α:Type}(a:α)(K:α->Prop):iG (some a) K=K a:=propext ⟨λ⟨_,h,k⟩=>by cases h;exact k,λk=>⟨a,rfl,k⟩⟩
theorem Py {α:Type}{o o':Option α}{K:α->Prop}(h:o=o'):iG o K=iG o' K:=by rw[h]
section
variable (p:Nat->Option Fn)
def Ev (g:Nat)(args:List V)(h:H)(Q:V->H->Prop):Prop:= ∃n v h',(∀m,n<=m->(mV p m).1 g args h=some (v,h'))/\Q v h'
def Ey (id:Nat)(args:List V)(h:H)(Q:V->H->Prop):Prop:= ∃n v h',(∀m,n<=m->(mV p m).2 id args h=some (v,h'))/\Q v h'
def wJ (x:V)(args:List V)(h:H)(Q:V->H->Prop):Prop:=match x with
 | .fn g fs cs=>Ev p g (fs++args++cs) h Q
 | .yl id=>Ey p id args h Q
 |_=>False
def unc (K:V->H->Prop):V×H->Prop:=λr=>K r.1 r.2
def Dg (vars loc:List V)(h:H):fU->(V->H->Prop)->Prop
 | .op i,Q=>iG (fJ (xv vars loc) h i) (unc Q)
 | .call g args,Q=>Ev p g (args.map (xv vars loc)) h Q
 | .callv x args,Q=>wJ p (xv vars loc x) (args.map (xv vars loc)) h Q
def Gj:List It->List V->List V->H->(List V->H->Prop)->Prop
 | [],vars,_,h,Q=>Q vars h
 |⟨d,none,a⟩::its,vars,loc,h,Q=>Dg p vars loc h a λv h'=>Gj its (jG d vars loc v).1 (jG d vars loc v).2 h' Q
 |⟨d,some g,a⟩::its,vars,loc,h,Q=>iG (iV vars loc (some g)) λw=>match w with
  |true=>Dg p vars loc h a λv h'=>Gj its (jG d vars loc v).1 (jG d vars loc v).2 h' Q
  |false=>Gj its (jG d vars loc .undef).1 (jG d vars loc .undef).2 h Q
def yY (base:Nat):List AI->List V->Log->H->(List V->H->Prop)->Prop
 | [],vars,_,h,Q=>Q vars h
 |⟨i,⟨d,none,a⟩,false,cks⟩::xs,vars,log,h,Q=>Dg p vars [] h a λv h'=>pM cks log h'=true/\yY base xs (jG d vars [] v).1 (Fo ⟨i,⟨d,none,a⟩,false,cks⟩ vars v log) h' Q
 |⟨i,⟨d,none,a⟩,true,cks⟩::xs,vars,log,h,Q=>iG (Ll vars h (base+i) a) (unc λv h'=>pM cks log h'=true/\yY base xs (jG d vars [] v).1 (Fo ⟨i,⟨d,none,a⟩,true,cks⟩ vars v log) h' Q)
 |⟨i,⟨d,some (x,b),a⟩,al,cks⟩::xs,vars,log,h,Q=>iG (iV vars [] (some (x,b))) λw=>match w,al with
  |true,true=>iG (Ll vars h (base+i) a) (unc λv h'=>pM cks log h'=true/\yY base xs (jG d vars [] v).1 (Fo ⟨i,⟨d,some (x,b),a⟩,true,cks⟩ vars v log) h' Q)
  |true,false=>Dg p vars [] h a λv h'=>pM cks log h'=true/\yY base xs (jG d vars [] v).1 (Fo ⟨i,⟨d,some (x,b),a⟩,false,cks⟩ vars v log) h' Q
  |false,_=>pM cks log h=true/\yY base xs (jG d vars [] .undef).1 log h Q
def aeX (n:Nat)(Q:E->List V->H->Prop):List V->H->Prop:=λvs h'=>Q .norm (vs.take n) h'
def uH (id:Nat)(Q:E->List V->H->Prop):E->List V->H->Prop:=λe vars h=>match e with| .exit n=>if n=id then Q .norm vars h else Q (.exit n) vars h|e=>Q e vars h
def Eu (J:List V->H->Prop)(Q:E->List V->H->Prop):E->List V->H->Prop:=λe vars h=>match e with| .norm=>J vars h|e=>Q e vars h
def OM (id:Nat)(vars:List V)(Q:E->List V->H->Prop):V->H->Prop:=λ_ h'=> ∃r,h'.get id=some (.loop r)/\r.st≠ .busy/\Q (r.pend.getD .norm) vars (h'.set id (some (.loop {r with st:= .out})))
def Ah (rd:Option Nat)(x:V)(pars:List Nat)(assign body:C)(vars:List V)(h:H)(Q:E->List V->H->Prop):Prop:=
 match x with
 | .fn g fs cs=>IP rd h=true/\Ev p g (fs++ .yl h.next::cs) (h.new (.loop {vars,pars,assign,body,st:= .ready,pend:=none})) (OM h.next vars Q)
 |_=>False
def Wp (rd:Option Nat):C->List V->H->(E->List V->H->Prop)->Prop
 | .skip,vars,h,Q=>Q .norm vars h
 | .reg its,vars,h,Q=>Gj p its vars [] h (Q .norm)
 | .any k nl its,vars,h,Q=>yY p h.next its (vars++List.replicate nl .unk) [] {h with next:=h.next+k} (aeX vars.length Q)
 | .seq a b,vars,h,Q=>Wp rd a vars h (Eu (λvars h=>Wp rd b vars h Q) Q)
 | .ite x a b,vars,h,Q=>match xv vars [] x with| .bool true=>Wp rd a vars h Q| .bool false=>Wp rd b vars h Q|_=>False
 | .block id a,vars,h,Q=>Wp rd a vars h (uH id Q)
 | .loop a,vars,h,Q=> ∀I:List V->H->Prop,(∀vars h,Wp rd a vars h (Eu I Q)->I vars h)->I vars h
 | .exit n,vars,h,Q=>Q (.exit n) vars h
 | .ret,vars,h,Q=>Q .ret vars h
 | .range x pars a b,vars,h,Q=>Ah p rd (xv vars [] x) pars a b vars h Q
 | .fail,_,_,_=>False
variable {p}
theorem Ev.mono {h:H}{Q:V->H->Prop}(e:Ev p g args h Q)(k: ∀v h',Q v h'->R v h'):Ev p g args h R:=
 let ⟨n,v,h',e,q⟩:=e;⟨n,v,h',e,k _ _ q⟩
theorem Ey.mono {h:H}{Q:V->H->Prop}(e:Ey p g args h Q)(k: ∀v h',Q v h'->R v h'):Ey p g args h R:=
 let ⟨n,v,h',e,q⟩:=e;⟨n,v,h',e,k _ _ q⟩
theorem iG.mono {α:Type}{o:Option α}{K L:α->Prop}(e:iG o K)(k: ∀a,K a->L a):iG o L:=let ⟨a,e,q⟩:=e;⟨a,e,k a q⟩
theorem wJ.mono {x:V}{h:H}{Q:V->H->Prop}(e:wJ p x args h Q)(k: ∀v h',Q v h'->R v h'):wJ p x args h R:=by
 unfold wJ at*;split at e
 .exact e.mono k
 .exact e.mono k
 .exact e
theorem Dg.mono {b d:List V}{h:H}{a:fU}{Q:V->H->Prop}(e:Dg p b d h a Q)(k: ∀v h',Q v h'->R v h'):Dg p b d h a R:=by
 cases a with
 |op i=>exact iG.mono e λ_=>k _ _
 |call g args=>exact Ev.mono e k
 |callv x args=>exact wJ.mono e k
theorem Gj.mono {Q R:List V->H->Prop}(k: ∀v h',Q v h'->R v h'):{its:List It}->{vars loc:List V}->{h:H}->Gj p its vars loc h Q->Gj p its vars loc h R
 | [],_,_,_,e=>k _ _ e
 |⟨_,none,_⟩::_,_,_,_,e=>Dg.mono e λ_ _=>Gj.mono k
 |⟨_,some _,_⟩::_,_,_,_,e=>iG.mono e λw q=>by
  cases w
  .exact Gj.mono k q
  .exact Dg.mono q λ_ _=>Gj.mono k
theorem yY.mono {base:Nat}{Q R:List V->H->Prop}(k: ∀v h',Q v h'->R v h'):{xs:List AI}->{vars:List V}->{log:Log}->{h:H}->yY p base xs vars log h Q->yY p base xs vars log h R
 | [],_,_,_,e=>k _ _ e
 |⟨_,⟨_,none,_⟩,false,_⟩::_,_,_,_,e=>Dg.mono e λ_ _ q=>⟨q.1,yY.mono k q.2⟩
 |⟨_,⟨_,none,_⟩,true,_⟩::_,_,_,_,e=>iG.mono e λ_ q=>⟨q.1,yY.mono k q.2⟩
 |⟨_,⟨_,some _,_⟩,al,_⟩::_,_,_,_,e=>iG.mono e λw q=>by
  cases w
  .exact⟨q.1,yY.mono k q.2⟩
  .cases al
   .exact Dg.mono q λ_ _ q=>⟨q.1,yY.mono k q.2⟩
   .exact iG.mono q λ_ q=>⟨q.1,yY.mono k q.2⟩
theorem Wp.mono {rd:Option Nat}{d:List V}{h:H}{Q R:E->List V->H->Prop}(e:Wp p rd c d h Q)(k: ∀e v h',Q e v h'->R e v h'):Wp p rd c d h R:=by
 induction c generalizing d h Q R with
 |skip|exit _|ret=>exact k _ _ _ e
 |reg _=>exact Gj.mono (k _) e
 |any _ _ _=>exact yY.mono (λ_ _=>k _ _ _) e
 |seq a b iha ihb=>
  refine iha e λe v h q=>?_
  cases e
  .exact ihb q k
  .exact k _ _ _ q
  .exact k _ _ _ q
 |ite x a b iha ihb=>
  simp only[Wp] at*;split at e
  .exact iha e k
  .exact ihb e k
  .exact e
 |block id a iha=>
  refine iha e λe v h q=>?_
  cases e with
  |exit n=>
   simp only[uH] at*;split at q
   .rename_i f;rw[bL f];exact k _ _ _ q
   .rename_i f;rw[bV f];exact k _ _ _ q
  |_=>exact k _ _ _ q
 |loop a iha=>
  refine λI i=>e I λv h q=>i v h (iha q λe v h q=>?_)
  cases e
  .exact q
  .exact k _ _ _ q
  .exact k _ _ _ q
 |range x ps a b _ _=>
  simp only[Wp,Ah] at*;split at e
  .exact⟨e.1,e.2.mono λ_ _ ⟨r,a,b,q⟩=>⟨r,a,b,k _ _ _ q⟩⟩
  .exact e
 |fail=>exact e
theorem PA {a:List V}{h:H}{Q:V->H->Prop}(e1:a=a')(b:h=h'):Ev p g a h Q=Ev p g a' h' Q:=by rw[e1,b]
theorem LS {a:List V}{h:H}{Q:V->H->Prop}(e1:a=a')(b:h=h'):Ey p g a h Q=Ey p g a' h' Q:=by rw[e1,b]
theorem IQ {a:fU}{l b:List V}{h:H}{Q:V->H->Prop}(e1:v=v')(d:l=b)(f:h=h'):Dg p v l h a Q=Dg p v' b h' a Q:=by rw[e1,f,d]
theorem JG {a:List It}{l b:List V}{h:H}{Q:List V->H->Prop}(e1:v=v')(d:l=b)(f:h=h'):Gj p a v l h Q=Gj p a v' b h' Q:=by rw[e1,f,d]
theorem HJ {base a:Nat}{xs:List AI}{l:Log}{h:H}{Q:List V->H->Prop}(b:base=a)(e1:v=v')(d:h=h'):yY p base xs v l h Q=yY p a xs v' l h' Q:=by rw[b,e1,d]
theorem LX {rd:Option Nat}{h:H}{Q:E->List V->H->Prop}(e1:v=v')(a:h=h'):Wp p rd c v h Q=Wp p rd c v' h' Q:=by rw[e1,a]
def Lj (p:Nat->Option Fn)(rd:Option Nat)(a b:C)(vars:List V)(h:H)(Q:E->List V->H->Prop)(v:V):Prop:=match v with| .bool true=>Wp p rd a vars h Q| .bool false=>Wp p rd b vars h Q|_=>False
section
variable {rd:Option Nat} {a b:C} {vars:List V} {h:H} {Q:E->List V->H->Prop}
theorem AH {v v':V}(e:v=v'):Lj p rd a b vars h Q v=Lj p rd a b vars h Q v':=by rw[e]
theorem IJ:Lj p rd a b vars h Q (.bool true)=Wp p rd a vars h Q:=(rfl)
theorem Yo:Lj p rd a b vars h Q (.bool false)=Wp p rd b vars h Q:=(rfl)
theorem bI {P:Prop}[Decidable P](x:P->Wp p rd a vars h Q)(y: ¬P->Wp p rd b vars h Q):Lj p rd a b vars h Q (.bool (decide P)):=by
 by_cases h:P
 .rw[decide_eq_true h];exact x h
 .rw[decide_eq_false h];exact y h
theorem OS {t:Bool}:Lj p rd a b vars h Q (.bool (!t))=Lj p rd b a vars h Q (.bool t):=by cases t<;>rfl
end
theorem adI (K:V->H->Prop)(v:V)(h:H):unc K (v,h)=K v h:=(rfl)
def aaK (p:Nat->Option Fn)(d:D)(its:List It)(vars loc:List V)(Q:List V->H->Prop):V->H->Prop:=λv h'=>Gj p its (jG d vars loc v).1 (jG d vars loc v).2 h' Q
theorem UW (d:D)(i:List It)(vars f:List V)(Q:List V->H->Prop)(v:V)(h':H):aaK p d i vars f Q v h'=Gj p i (jG d vars f v).1 (jG d vars f v).2 h' Q:=(rfl)
def Vv (p:Nat->Option Fn)(d:D)(a:fU)(its:List It)(vars loc:List V)(h:H)(Q:List V->H->Prop)(w:Bool):Prop:=match w with
 |true=>Dg p vars loc h a (aaK p d its vars loc Q)
 |false=>Gj p its (jG d vars loc .undef).1 (jG d vars loc .undef).2 h Q
section
variable {d:D} {a:fU} {its:List It} {vars loc:List V} {h:H} {Q:List V->H->Prop}
theorem Xi {v v':Bool}(e:v=v'):Vv p d a its vars loc h Q v=Vv p d a its vars loc h Q v':=by rw[e]
theorem AP:Vv p d a its vars loc h Q true=Dg p vars loc h a (aaK p d its vars loc Q):=(rfl)
theorem Uo:Vv p d a its vars loc h Q false=Gj p its (jG d vars loc .undef).1 (jG d vars loc .undef).2 h Q:=(rfl)
end
def Zx (p:Nat->Option Fn)(base:Nat)(x:AI)(xs:List AI)(vars:List V)(log:Log)(Q:List V->H->Prop):V->H->Prop:=λv h'=>pM x.cks log h'=true/\yY p base xs (jG x.it.d vars [] v).1 (Fo x vars v log) h' Q
theorem ZH (base i:Nat)(d:D)(g:Option (X×Bool))(a:fU)(al:Bool)(cks:List Nat)(xs:List AI)(vars:List V)(f:Log)(Q:List V->H->Prop)(v:V)(h':H):Zx p base ⟨i,⟨d,g,a⟩,al,cks⟩ xs vars f Q v h'=(pM cks f h'=true/\yY p base xs (jG d vars [] v).1 (Fo ⟨i,⟨d,g,a⟩,al,cks⟩ vars v f) h' Q):=(rfl)
def Ol (p:Nat->Option Fn)(base i:Nat)(d:D)(x:X)(b:Bool)(a:fU)(al:Bool)(cks:List Nat)(xs:List AI)(vars:List V)(log:Log)(h:H)(Q:List V->H->Prop)(w:Bool):Prop:=match w,al with
 |true,true=>iG (Ll vars h (base+i) a) (unc (Zx p base ⟨i,⟨d,some (x,b),a⟩,true,cks⟩ xs vars log Q))
 |true,false=>Dg p vars [] h a (Zx p base ⟨i,⟨d,some (x,b),a⟩,false,cks⟩ xs vars log Q)
 |false,_=>pM cks log h=true/\yY p base xs (jG d vars [] .undef).1 log h Q
section
variable {base i:Nat} {d:D} {x:X} {b al:Bool} {a:fU} {cks:List Nat} {xs:List AI} {vars:List V} {log:Log} {h:H} {Q:List V->H->Prop}
theorem Wm {v v':Bool}(e:v=v'):Ol p base i d x b a al cks xs vars log h Q v=Ol p base i d x b a al cks xs vars log h Q v':=by rw[e]
theorem NB:Ol p base i d x b a true cks xs vars log h Q true=iG (Ll vars h (base+i) a) (unc (Zx p base ⟨i,⟨d,some (x,b),a⟩,true,cks⟩ xs vars log Q)):=(rfl)
theorem MB:Ol p base i d x b a false cks xs vars log h Q true=Dg p vars [] h a (Zx p base ⟨i,⟨d,some (x,b),a⟩,false,cks⟩ xs vars log Q):=(rfl)
theorem abM:Ol p base i d x b a al cks xs vars log h Q false=(pM cks log h=true/\yY p base xs (jG d vars [] .undef).1 log h Q):=(rfl)
end
theorem adE (vars loc:List V)(h:H)(i:I)(Q:V->H->Prop):Dg p vars loc h (.op i) Q=iG (fJ (xv vars loc) h i) (unc Q):=(rfl)
theorem LC (vars loc:List V)(h:H)(g:Nat)(args:List X)(Q:V->H->Prop):Dg p vars loc h (.call g args) Q=Ev p g (args.map (xv vars loc)) h Q:=(rfl)
theorem Xa {x f:V}{a:List V}{h:H}{Q:V->H->Prop}(k:x=f)(e1:a=a')(j:h=h'):wJ p x a h Q=wJ p f a' h' Q:=by rw[k,e1,j]
theorem MA (g:Nat)(f j args:List V)(h:H)(Q:V->H->Prop):wJ p (.fn g f j) args h Q=Ev p g (f++args++j) h Q:=rfl
theorem SW (id:Nat)(args:List V)(h:H)(Q:V->H->Prop):wJ p (.yl id) args h Q=Ey p id args h Q:=rfl
theorem IA (vars loc:List V)(h:H)(x:X)(args:List X)(Q:V->H->Prop):Dg p vars loc h (.callv x args) Q=wJ p (xv vars loc x) (args.map (xv vars loc)) h Q:=(rfl)
theorem WG (vars loc:List V)(h:H)(Q:List V->H->Prop):Gj p [] vars loc h Q=Q vars h:=(rfl)
theorem KX (d:D)(a:fU)(its:List It)(vars loc:List V)(h:H)(Q:List V->H->Prop):
  Gj p (⟨d,none,a⟩::its) vars loc h Q=Dg p vars loc h a (aaK p d its vars loc Q):=(rfl)
theorem FV (d:D)(x:X)(b:Bool)(a:fU)(its:List It)(vars loc:List V)(h:H)(Q:List V->H->Prop):
  Gj p (⟨d,some (x,b),a⟩::its) vars loc h Q=iG (iV vars loc (some (x,b))) (Vv p d a its vars loc h Q):=(rfl)
theorem aaS (base:Nat)(vars:List V)(log:Log)(h:H)(Q:List V->H->Prop):yY p base [] vars log h Q=Q vars h:=(rfl)
theorem KY (base i:Nat)(d:D)(a:fU)(cks:List Nat)(xs:List AI)(vars:List V)(log:Log)(h:H)(Q:List V->H->Prop):
  yY p base (⟨i,⟨d,none,a⟩,false,cks⟩::xs) vars log h Q=Dg p vars [] h a (Zx p base ⟨i,⟨d,none,a⟩,false,cks⟩ xs vars log Q):=(rfl)
theorem IZ (base i:Nat)(d:D)(a:fU)(cks:List Nat)(xs:List AI)(vars:List V)(log:Log)(h:H)(Q:List V->H->Prop):
  yY p base (⟨i,⟨d,none,a⟩,true,cks⟩::xs) vars log h Q=iG (Ll vars h (base+i) a) (unc (Zx p base ⟨i,⟨d,none,a⟩,true,cks⟩ xs vars log Q)):=(rfl)
theorem HZ (base i:Nat)(d:D)(x:X)(b:Bool)(a:fU)(al:Bool)(cks:List Nat)(xs:List AI)(vars:List V)(log:Log)(h:H)(Q:List V->H->Prop):
  yY p base (⟨i,⟨d,some (x,b),a⟩,al,cks⟩::xs) vars log h Q=iG (iV vars [] (some (x,b))) (Ol p base i d x b a al cks xs vars log h Q):=(rfl)
variable {rd:Option Nat} {vars:List V} {h:H} {Q:E->List V->H->Prop}
theorem aaW:Wp p rd .skip vars h Q=Q .norm vars h:=(rfl)
theorem aeY:Wp p rd .ret vars h Q=Q .ret vars h:=(rfl)
theorem WD (n:Nat):Wp p rd (.exit n) vars h Q=Q (.exit n) vars h:=(rfl)
theorem acM (its:List It):Wp p rd (.reg its) vars h Q=Gj p its vars [] h (Q .norm):=(rfl)
theorem VQ (n:Nat)(vs:List V)(h':H):aeX n Q vs h'=Q .norm (vs.take n) h':=rfl
theorem acU (k f:Nat)(its:List AI):Wp p rd (.any k f its) vars h Q=yY p h.next its (vars++List.replicate f .unk) [] {h with next:=h.next+k} (aeX vars.length Q):=(rfl)
def Jy (p:Nat->Option Fn)(rd:Option Nat)(b:C)(Q:E->List V->H->Prop):E->List V->H->Prop:=λe vars h=>match e with| .norm=>Wp p rd b vars h Q|e=>Q e vars h
theorem Jx (b:C)(vars:List V)(h:H):Jy p rd b Q .norm vars h=Wp p rd b vars h Q:=(rfl)
theorem FW (b:C)(vars:List V)(h:H):Jy p rd b Q .ret vars h=Q .ret vars h:=rfl
theorem BD (b:C)(n:Nat)(vars:List V)(h:H):Jy p rd b Q (.exit n) vars h=Q (.exit n) vars h:=rfl
theorem TV (a b:C):Wp p rd (.seq a b) vars h Q=Wp p rd a vars h (Jy p rd b Q):=(rfl)
theorem aeD (x:X)(a b:C):Wp p rd (.ite x a b) vars h Q=Lj p rd a b vars h Q (xv vars [] x):=(rfl)
theorem Vm (id:Nat)(vars:List V)(h:H):uH id Q .norm vars h=Q .norm vars h:=rfl
theorem Zk (id:Nat)(vars:List V)(h:H):uH id Q .ret vars h=Q .ret vars h:=rfl
theorem yL (id:Nat)(vars:List V)(h:H):uH id Q (.exit id) vars h=Q .norm vars h:=bL rfl
theorem IS (id n:Nat)(f:n≠id)(vars:List V)(h:H):uH id Q (.exit n) vars h=Q (.exit n) vars h:=bV f
theorem Vc (id:Nat)(a:C):Wp p rd (.block id a) vars h Q=Wp p rd a vars h (uH id Q):=(rfl)
theorem Vj (J:List V->H->Prop)(vars:List V)(h:H):Eu J Q .norm vars h=J vars h:=rfl
theorem Yg (J:List V->H->Prop)(vars:List V)(h:H):Eu J Q .ret vars h=Q .ret vars h:=rfl
theorem Wu (J:List V->H->Prop)(n:Nat)(vars:List V)(h:H):Eu J Q (.exit n) vars h=Q (.exit n) vars h:=rfl
theorem aH (J:Nat->List V->H->Prop)(k:Nat)(j:J k vars h)
  (step: ∀k vars h,J k vars h->Wp p rd c vars h (Eu (λv h'=> ∃k',k'<k/\J k' v h') Q)):Wp p rd (.loop c) vars h Q:=by
 intro I f
 induction k using Nat.strongRecOn generalizing vars h with
 |ind k ih=>
  refine f _ _ ((step k _ _ j).mono λe v h q=>?_);cases e
  .exact let ⟨k',a,b⟩:=q;ih k' a b
  .exact q
  .exact q
theorem Qd {x j:V}{f:List Nat}{a b:C}{h:H}(k:x=j)(e1:v=v')(l:h=h'):Ah p rd x f a b v h Q=Ah p rd j f a b v' h' Q:=by rw[k,e1,l]
theorem IC (g:Nat)(f j:List V)(pars:List Nat)(assign body:C):Ah p rd (.fn g f j) pars assign body vars h Q=(IP rd h=true/\Ev p g (f++ .yl h.next::j) (h.new (.loop {vars,pars,assign,body,st:= .ready,pend:=none})) (OM h.next vars Q)):=rfl
theorem OF (x:X)(f:List Nat)(a b:C):Wp p rd (.range x f a b) vars h Q=Ah p rd (xv vars [] x) f a b vars h Q:=(rfl)
theorem Dg.run {vars loc:List V}{h:H}{a:fU}{Q:V->H->Prop}(e:Dg p vars loc h a Q): ∃n r,(∀m,n<=m->rZ (mV p m).1 (mV p m).2 vars loc h a=some r)/\Q r.1 r.2:=by
 cases a with
 |op i=>have⟨r,e,q⟩:=e;exact⟨0,r,λ_ _=>e,q⟩
 |call g args=>have⟨n,v,h',e,q⟩:=e;exact⟨n,_,e,q⟩
 |callv x args=>
  simp only[Dg,wJ,rZ] at*;split at e
  .rename_i f;have⟨n,v,h',e,q⟩:=e;try simp only[f]
   exact⟨n,_,e,q⟩
  .rename_i f;have⟨n,v,h',e,q⟩:=e;try simp only[f]
   exact⟨n,_,e,q⟩
  .exact e.elim
theorem Gj.run {Q:List V->H->Prop}:{its:List It}->{vars loc:List V}->{h:H}->Gj p its vars loc h Q-> ∃n r,(∀m,n<=m->xE (mV p m).1 (mV p m).2 its vars loc h=some r)/\Q r.1 r.2
 | [],_,_,_,e=>⟨0,_,λ_ _=>rfl,e⟩
 |⟨d,none,a⟩::its,vars,loc,h,e=>by
  obtain⟨n,r,e,q⟩:=Dg.run e;obtain⟨f,j,k,q⟩:=Gj.run q;exact⟨max n f,j,λm l=>by simp only[xE,iV,e m om];exact k m om,q⟩
 |⟨d,some g,a⟩::its,vars,loc,h,e=>by
  have⟨w,o,e⟩:=e
  cases w with
  |true=>
   obtain⟨n,r,e,q⟩:=Dg.run e;obtain⟨f,j,k,q⟩:=Gj.run q;exact⟨max n f,j,λm l=>by simp only[xE,o,e m om];exact k m om,q⟩
  |false=>
   obtain⟨f,j,k,q⟩:=Gj.run e;exact⟨f,j,λm l=>by simp only[xE,o];exact k m l,q⟩
theorem yY.run {base:Nat}{Q:List V->H->Prop}:{xs:List AI}->{vars:List V}->{log:Log}->{h:H}->yY p base xs vars log h Q-> ∃n r,(∀m,n<=m->uT (mV p m).1 (mV p m).2 base xs vars log h=some r)/\Q r.1 r.2
 | [],_,_,_,e=>⟨0,_,λ_ _=>rfl,e⟩
 |⟨i,⟨d,none,a⟩,false,cks⟩::xs,vars,log,h,e=>by
  obtain⟨n,r,e,j,q⟩:=Dg.run e;obtain⟨f,k,l,q⟩:=yY.run q;exact⟨max n f,k,λm o=>by simp only[uT,iV,Bool.false_eq_true,if_false,e m om,j,if_true];exact l m om,q⟩
 |⟨i,⟨d,none,a⟩,true,cks⟩::xs,vars,log,h,e=>by
  have⟨r,e,j,q⟩:=e;obtain⟨f,k,l,q⟩:=yY.run q;exact⟨f,k,λm o=>by simp only[uT,iV,if_true,e,j];exact l m o,q⟩
 |⟨i,⟨d,some g,a⟩,al,cks⟩::xs,vars,log,h,e=>by
  have⟨w,s,e⟩:=e
  cases w with
  |true=>
   cases al with
   |true=>
    have⟨r,e,j,q⟩:=e;obtain⟨f,k,l,q⟩:=yY.run q;exact⟨f,k,λm o=>by simp only[uT,s,if_true,e,j];exact l m o,q⟩
   |false=>
    obtain⟨n,r,e,j,q⟩:=Dg.run e;obtain⟨f,k,l,q⟩:=yY.run q;exact⟨max n f,k,λm o=>by simp only[uT,s,Bool.false_eq_true,if_false,e m om,j,if_true];exact l m om,q⟩
  |false=>
   have⟨j,q⟩:=e;obtain⟨f,k,l,q⟩:=yY.run q;exact⟨f,k,λm o=>by simp only[uT,s,j,if_true];exact l m o,q⟩
theorem Wp.run (e:Wp p rd c vars h Q): ∃n r,(∀m,n<=m->Ay.run (mV p m).1 (mV p m).2 m rd c vars h=some r)/\Q r.1 r.2.1 r.2.2:=by
 induction c generalizing vars h Q with
 |skip|exit _|ret=>exact⟨0,_,λ_ _=>rfl,e⟩
 |reg its=>obtain⟨n,r,e,q⟩:=Gj.run e;exact⟨n,(.norm,r.1,r.2),λm f=>by simp only[Ay.run,e m f],q⟩
 |any k nl its=>obtain⟨n,r,e,q⟩:=yY.run e;exact⟨n,(.norm,_,r.2),λm f=>by simp only[Ay.run,e m f],q⟩
 |seq a b iha ihb=>
  obtain⟨n,⟨e,v,s⟩,l,q⟩:=iha e
  cases e with
  |norm=>obtain⟨t,u,y,q⟩:=ihb q;exact⟨max n t,u,λm f=>by simp only[Ay.run,l m om];exact y m om,q⟩
  |_=>exact⟨n,_,λm f=>by simp only[Ay.run,l m f],q⟩
 |ite x a b iha ihb=>
  simp only[Wp,Ay.run] at*;split at e
  .rename_i o;try simp only[o]
   exact iha e
  .rename_i o;try simp only[o]
   exact ihb e
  .exact e.elim
 |block id a iha=>
  obtain⟨n,⟨e,v,s⟩,l,q⟩:=iha e
  cases e with
  |exit k=>
   simp only[uH] at q;split at q
   .rename_i w;exact⟨n,(.norm,v,s),λm f=>by simp only[Ay.run,l m f,bL w],q⟩
   .rename_i w;exact⟨n,(.exit k,v,s),λm f=>by simp only[Ay.run,l m f,bV w],q⟩
  |_=>exact⟨n,_,λm f=>by simp only[Ay.run,l m f],q⟩
 |loop a iha=>
  obtain⟨n,r,e,q⟩:=e (λv h=> ∃n r,(∀m j,n<=m->n<=j->Jz (Ay.run (mV p m).1 (mV p m).2 m rd a) j v h=some r)/\Q r.1 r.2.1 r.2.2) λv h e=>by
   obtain⟨n,⟨e,v,s⟩,l,q⟩:=iha e
   cases e with
   |norm=>
    have⟨t,u,y,q⟩:=q;refine⟨max n t+1,u,λm j f F=>?_,q⟩
    obtain⟨j,rfl⟩: ∃k,j=k+1:=⟨j- 1,om⟩
    simp only[Jz,l m om];exact y m j om om
   |_=>
    refine⟨n+1,_,λm j f F=>?_,q⟩
    obtain⟨j,rfl⟩: ∃k,j=k+1:=⟨j- 1,om⟩
    simp only[Jz,l m om]
  exact⟨n,r,λm f=>e m m f f,q⟩
 |range x ps a b _ _=>
  simp only[Wp,Ah,Ay.run] at*;split at e
  .rename_i o
   have⟨z,n,v,s,e,r,B,A,q⟩:=e
   try simp only[o]
   exact⟨n,(_,_,_),λm f=>by rw[bL z];simp only[e m f,B];rw[bV A];rfl,q⟩
  .exact e.elim
 |fail=>exact e.elim
def VU (Q:V->H->Prop)(h:H):List V->Prop:=λvs=>Q (Tx vs) h
theorem YC (Q:V->H->Prop)(h:H)(vs:List V):VU Q h vs=Q (Tx vs) h:=rfl
def Cr (results:List Rv)(Q:V->H->Prop):E->List V->H->Prop:=λe vars h=>match e with
 | .exit _=>False
 |_=>iG (dP (results.map (Er vars h))) (VU Q h)
theorem GJ (results:List Rv)(Q:V->H->Prop)(vars:List V)(h:H):Cr results Q .norm vars h=iG (dP (results.map (Er vars h))) (VU Q h):=rfl
theorem TO (results:List Rv)(Q:V->H->Prop)(vars:List V)(h:H):Cr results Q .ret vars h=iG (dP (results.map (Er vars h))) (VU Q h):=rfl
theorem mG {f:Fn}{h:H}{Q:V->H->Prop}(t:p g=some f)(s:args.length=f.nargs)(j:Wp p none f.body (qP f args) h (Cr f.results Q))(u:f.Hm=false:=by rfl):Ev p g args h Q:=by
 obtain⟨n,⟨e,v,h'⟩,o,q⟩:=j.run
 cases e with
 |exit n=>exact q.elim
 |_=>
  have⟨l,r,q⟩:=q;refine⟨n+1,Tx l,h',λm w=>?_,q⟩
  obtain⟨m,rfl⟩: ∃k,m=k+1:=⟨m- 1,om⟩
  simp only[mV,My,t,u,Bool.false_eq_true,if_false,s,if_true,o m om,r,Option.map_some]
def Eh (id:Nat)(Q:V->H->Prop):E->List V->H->Prop:=λe _ h=> ∃r3,h.get id=some (.loop r3)/\(match e with
 | .norm=>Q (.bool true) (h.set id (some (.loop {r3 with st:= .ready,pend:=none})))
 |e=>Q (.bool false) (h.set id (some (.loop {r3 with st:= .done,pend:=some e}))))
theorem abS {id:Nat}{h:H}{Q:V->H->Prop}{r:fR}(t:h.get id=some (.loop r))(s:args.length=r.pars.length)
  (w:Wp p (some id) r.assign ((r.pars.zip args).foldl (λvs q=>vs.set q.1 q.2) r.vars) h λe vars h1=>e= .norm/\ ∃r2,h1.get id=some (.loop r2)/\r2.st= .ready/\
   Wp p (some id) r.body vars (h1.set id (some (.loop {r2 with st:= .busy}))) (Eh id Q)):Ey p id args h Q:=by
 obtain⟨n,⟨e,v,h1⟩,u,rfl,r2,f,jE,k⟩:=w.run
 obtain⟨o,⟨z,F,B⟩,j,A,l,q⟩:=k.run
 cases z with
 |norm=>
  refine⟨max n o+1,.bool true,_,λm y=>?_,q⟩
  obtain⟨m,rfl⟩: ∃k,m=k+1:=⟨m- 1,om⟩
  simp only[mV,Jr,t,s,if_true,u m om,f,jE,j m om,l]
 |_=>
  refine⟨max n o+1,.bool false,_,λm y=>?_,q⟩
  obtain⟨m,rfl⟩: ∃k,m=k+1:=⟨m- 1,om⟩
  simp only[mV,Jr,t,s,if_true,u m om,f,jE,j m om,l]
end
end
end Go.Ay
namespace Go.Ay
section
variable {id k off:Nat} {vs:List V} {p q p0 p1 p2 p3 p4 p5 p6:Prop}
def find:List (Nat×Fn)->Nat->Option Fn
 | [],_=>none
 |(k,f)::l,n=>cond (Nat.beq k n) (some f) (find l n)
attribute [congr] Py PA LS IQ JG HJ LX AH Xi Wm Xa Qd
def H.cell (h:H)(id off:Nat):Option V:=match h.get id with
 |some (.cells _ vs)=>vs[off]?
 |_=>none
section
variable (h:H)
theorem H.cell_of {h:H}{ro:Bool}(a:h.get id=some (.cells ro vs))(off:Nat):h.cell id off=vs[off]? :=by
 unfold H.cell;rw[a]
theorem H.aW (id:Nat)(o:Option Ob):(h.set id o).get id=o:=by rw[H.jD,bL rfl]
theorem H.aF (a:k≠id)(o:Option Ob):(h.set id o).get k=h.get k:=by rw[H.jD,bV a]
theorem H.aQ (o:Ob):(h.new o).get h.next=some o:=by rw[H.kG,bL rfl]
theorem H.bN (a:k≠h.next)(o:Ob):(h.new o).get k=h.get k:=by rw[H.kG,bV a]
theorem H.uQ (n k:Nat):(H.mk h.tr n).get k=h.get k:=rfl
theorem H.GH (n k off:Nat):(H.mk h.tr n).cell k off=h.cell k off:=rfl
theorem H.zY (id:Nat)(ro:Bool)(vs:List V)(off:Nat):(h.set id (some (.cells ro vs))).cell id off=vs[off]? :=H.cell_of (H.aW ..) off
theorem H.Gx (a:k≠id)(o:Option Ob)(off:Nat):(h.set id o).cell k off=h.cell k off:=by unfold H.cell;rw[H.aF h a]
theorem H.Lm (ro:Bool)(vs:List V)(off:Nat):(h.new (.cells ro vs)).cell h.next off=vs[off]? :=H.cell_of (H.aQ ..) off
theorem H.Xk (a:k≠h.next)(o:Ob)(off:Nat):(h.new o).cell k off=h.cell k off:=by unfold H.cell;rw[H.bN h a]
end
structure Fr (h h':H):Prop where
 next:h.next<=h'.next
 get: ∀id,id<h.next->h'.get id=h.get id
theorem Fr.refl (h:H):Fr h h:=⟨eU _,λ_ _=>rfl⟩
theorem Fr.trans {a b c:H}(x:Fr a b)(y:Fr b c):Fr a c:=⟨kP x.next y.next,λid d=>(y.get id (kQ d x.next)).trans (x.get id d)⟩
theorem Fr.new {a b:H}(x:Fr a b)(o:Ob):Fr a (b.new o):=x.trans ⟨by rw[H.aZ];omega,λid c=>H.bN b om o⟩
theorem Fr.set {a b:H}(x:Fr a b)(c:a.next<=id)(o:Option Ob):Fr a (b.set id o):=⟨x.next,λk d=>(H.aF b om o).trans (x.get k d)⟩
theorem Fr.bU {a b:H}(x:Fr a b){n:Nat}(c:b.next<=n):Fr a (H.mk b.tr n):=⟨kP x.next c,λk d=>(H.uQ b n k).trans (x.get k d)⟩
theorem Fr.cell {a b:H}(x:Fr a b)(c:id<a.next)(off:Nat):b.cell id off=a.cell id off:=by unfold H.cell;rw[x.get id c]
def YY (op:BinOp)(k:IntKind)(x y:V):Option V:=match x,y with
 | .int j a,.int j' b=>if j=k/\j'=k then arith op k a b else none
 |_,_=>none
theorem TA (op:BinOp)(k:IntKind)(a b:Int):YY op k (.int k a) (.int k b)=arith op k a b:=by simp [YY]
def acN:V->Option V
 | .bool a=>some (.bool (!a))
 |_=>none
theorem HB (a:Bool):acN (.bool a)=some (.bool (!a)):=rfl
def OB (c a b:V):Option V:=match c with
 | .bool t=>some (if t then a else b)
 |_=>none
theorem AA (t:Bool)(a b:V):OB (.bool t) a b=some (if t then a else b):=rfl
def uJ (neg:Bool):V->Option V
 | .aD=>some (.bool (!neg))
 | .sl .. | .emp _=>some (.bool neg)
 |_=>none
theorem Ye (neg:Bool):uJ neg .aD=some (.bool (!neg)):=rfl
theorem GZ (neg:Bool)(a:Addr):uJ neg (.emp a)=some (.bool neg):=rfl
theorem NQ (neg:Bool)(a b c:Nat)(d:uF):uJ neg (.sl a b c d)=some (.bool neg):=rfl
def YN (neg:Bool)(x y:V):Option V:=match x,y with
 | .bool a,.bool b=>some (.bool (if neg then !(a==b) else a==b))
 |_,_=>none
theorem afL (a b:Bool):YN false (.bool a) (.bool b)=some (.bool (a==b)):=rfl
theorem adP (a b:Bool):YN true (.bool a) (.bool b)=some (.bool (!(a==b))):=rfl
def NV (k:IntKind):V->Option V
 | .int _ a=>some (.int k (k.wrap a))
 |_=>none
theorem JC (k j:IntKind)(a:Int):NV k (.int j a)=some (.int k (k.wrap a)):=rfl
def adF (i:Nat):V->Option V
 | .tup vs=>vs[i]?
 |_=>none
theorem NR (i:Nat)(vs:List V):adF i (.tup vs)=vs[i]? :=rfl
def bH (v:V):Option V:=(vT v).map λ(n:Nat)=>V.int .i64 (n:Int)
theorem AJ:bH .aD=some (.int .i64 0):=rfl
theorem RL (a b c:Nat)(d:uF):bH (.sl a b c d)=some (.int .i64 (c:Int)):=rfl
def adV (off:Nat):V->Option V
 | .ptr id o=>some (.ptr id (o+off))
 |_=>none
theorem TP (off id o:Nat):adV off (.ptr id o)=some (.ptr id (o+off)):=rfl
def acI:V->Option V
 | .ptr id o=>some (.ptr id o)
 |_=>none
theorem TH (id o:Nat):acI (.ptr id o)=some (.ptr id o):=rfl
def Ks (h:H):V->Option V
 | .ptr id off=>h.cell id off
 |_=>none
theorem JV (h:H)(id off:Nat):Ks h (.ptr id off)=h.cell id off:=rfl
def Zy (h:H)(n:Nat):V->Option V
 | .ptr id off=>(h.row id off n).map .agg
 |_=>none
theorem OE (h:H)(id off n:Nat):Zy h n (.ptr id off)=(h.row id off n).map .agg:=rfl
def Ny (h:H)(n:Nat)(x y:V):Option H:=match x with
 | .ptr id off=>if y.cells.length=n/\y.cells.all V.one then h.put id off y.cells else none
 |_=>none
def eH (o:Option Ob)(h:H)(id off:Nat)(ws:List V):Option H:=match o with
 |some (.cells false vs)=>(putAt vs off ws).map λvs'=>h.set id (some (.cells false vs'))
 |_=>none
theorem H.put_eq (h:H)(id off:Nat)(ws:List V):h.put id off ws=eH (h.get id) h id off ws:=by
 unfold H.put eH
 cases h.get id with
 |none=>rfl
 |some o=>cases o with
  |cells ro vs=>cases ro<;>rfl
  |_=>rfl
theorem Zc {o o':Option Ob}{h:H}{ws:List V}(e:o=o'):eH o h id off ws=eH o' h id off ws:=by rw[e]
theorem JH (a:off<vs.length)(v:V):putAt vs off [v]=some (vs.set off v):=by
 unfold putAt;rw[bL siO];congr 1;rw[List.set_eq_take_append_cons_drop,bL a];simp
theorem cF (a:off<vs.length)(h:H)(id:Nat)(v:V):eH (some (.cells false vs)) h id off [v]=some (h.set id (some (.cells false (vs.set off v)))):=by
 simp only[eH];rw[JH a];rfl
theorem kO {y:V}(a:y.cells= [y])(b:y.one=true)(h:H)(id off:Nat):Ny h 1 (.ptr id off) y=eH (h.get id) h id off [y]:=by
 simp only[Ny,a,List.length_singleton,List.all_cons,List.all_nil,b,Bool.and_self,and_self,if_true,H.put_eq]
theorem aaZ (h:H)(id off:Nat)(k:IntKind)(a:Int):Ny h 1 (.ptr id off) (.int k a)=eH (h.get id) h id off [.int k a]:=kO rfl rfl h id off
theorem QB (h:H)(id off:Nat)(a:Bool):Ny h 1 (.ptr id off) (.bool a)=eH (h.get id) h id off [.bool a]:=kO rfl rfl h id off
theorem TB (h:H)(id off a b c:Nat)(d:uF):Ny h 1 (.ptr id off) (.sl a b c d)=eH (h.get id) h id off [.sl a b c d]:=kO rfl rfl h id off
theorem MV (h:H)(id off:Nat):Ny h 1 (.ptr id off) .aD=eH (h.get id) h id off [.aD]:=kO rfl rfl h id off
theorem vN (h:H)(id off n:Nat)(vs:List V)(a:vs.length=n)(b:vs.all V.one=true):Ny h n (.ptr id off) (.agg vs)=eH (h.get id) h id off vs:=by
 simp only[Ny,V.cells,a,b,and_self,if_true,H.put_eq]
def An (h:H)(x:V):Option (V×H):=if x.cells.all V.one then some (.ptr h.next 0,h.new (.cells false x.cells)) else none
theorem mH {x:V}(a:x.cells= [x])(b:x.one=true)(h:H):An h x=some (.ptr h.next 0,h.new (.cells false [x])):=by
 simp [An,a,b]
theorem Ju (h:H)(k:IntKind)(a:Int):An h (.int k a)=some (.ptr h.next 0,h.new (.cells false [.int k a])):=rfl
theorem GU (h:H)(a:Bool):An h (.bool a)=some (.ptr h.next 0,h.new (.cells false [.bool a])):=rfl
theorem sQ (h:H)(vs:List V)(a:vs.all V.one=true):An h (.agg vs)=some (.ptr h.next 0,h.new (.cells false vs)):=by
 simp only[An,V.cells,a,if_true]
theorem Ih {len sz:Nat}{a:uF}{k:IntKind}{n:Int}(c:0<=n)(b:n<len):El sz (.sl id off len a) (.int k n)=some (.ptr id (off+n.toNat*sz)):=by
 simp only[El];rw[bL ⟨c,b⟩]
section
variable (ρ:X->V) (h:H)
theorem XA (x:X):fJ ρ h (.mov x)=some (ρ x,h):=rfl
theorem RK (c a b:X):fJ ρ h (.pick c a b)=(OB (ρ c) (ρ a) (ρ b)).map (·,h):=by
 simp only[fJ,OB];cases ρ c<;>rfl
theorem abD (op:BinOp)(k:IntKind)(x y:X):fJ ρ h (.bin op k x y)=(YY op k (ρ x) (ρ y)).map (·,h):=by
 simp only[fJ,YY];cases ρ x<;>cases ρ y<;>try rfl
 simp only;split<;>rfl
theorem UR (neg:Bool)(x y:X):fJ ρ h (.beq neg x y)=(YN neg (ρ x) (ρ y)).map (·,h):=by
 simp only[fJ,YN];cases ρ x<;>cases ρ y<;>rfl
theorem TS (neg:Bool)(x:X):fJ ρ h (.snil neg x)=(uJ neg (ρ x)).map (·,h):=by
 simp only[fJ,uJ];cases ρ x<;>rfl
theorem ZN (x:X):fJ ρ h (.not x)=(acN (ρ x)).map (·,h):=by
 simp only[fJ,acN];cases ρ x<;>rfl
theorem PN (k:IntKind)(x:X):fJ ρ h (.conv k x)=(NV k (ρ x)).map (·,h):=by
 simp only[fJ,NV];cases ρ x<;>rfl
theorem YE (x:X)(i:Nat):fJ ρ h (.ext x i)=(adF i (ρ x)).map (·,h):=by
 simp only[fJ,adF];cases ρ x<;>rfl
theorem QN (x:X):fJ ρ h (.lens x)=(bH (ρ x)).map (·,h):=by
 simp only[fJ,bH,Option.map_map];rfl
theorem Ps (x:X):fJ ρ h (.ld false 1 x)=(Ks h (ρ x)).map (·,h):=by
 simp only[fJ,ldV,Ks,H.row,H.cell];cases ρ x<;>try rfl
 simp only;rename_i id off
 cases h.get id with
 |none=>rfl
 |some o=>cases o with
  |cells ro vs=>
   simp only[sub]
   by_cases a:off<vs.length
   .rw[bL om,dC a]
    have:(vs.drop off).take 1= [vs[off]]:=by
     rw[Ij a];rfl
    rw[this];rfl
   .rw[bV om,List.getElem?_eq_none om]
  |_=>rfl
theorem DH (n:Nat)(x:X):fJ ρ h (.ld true n x)=(Zy h n (ρ x)).map (·,h):=by
 simp only[fJ,ldV,Zy];cases ρ x<;>try rfl
 simp only;cases h.row _ _ n<;>rfl
theorem aeR (n:Nat)(x y:X):fJ ρ h (.st n x y)=(Ny h n (ρ x) (ρ y)).map λh'=>(V.undef,h'):=by
 simp only[fJ,Ny];cases ρ x<;>try rfl
 simp only;split<;>rfl
theorem YO (sz:Nat)(x i:X):fJ ρ h (.ixa sz x i)=(El sz (ρ x) (ρ i)).map (·,h):=rfl
theorem ZT (off:Nat)(x:X):fJ ρ h (.fla off x)=(adV off (ρ x)).map (·,h):=by
 simp only[fJ,adV];cases ρ x<;>rfl
theorem ZV (x:X):fJ ρ h (.nck x)=(acI (ρ x)).map (·,h):=by
 simp only[fJ,acI];cases ρ x<;>rfl
theorem XB (sz:Nat)(x:X)(b hi a:Option X):fJ ρ h (.slc sz x b hi a)=(pI sz (ρ x) (b.map ρ) (hi.map ρ) (a.map ρ)).map (·,h):=rfl
theorem abB (sz bytes:Nat)(zero:List V)(l c:X):fJ ρ h (.mks sz bytes zero l c)=Ct h sz bytes zero (ρ l) (ρ c):=rfl
theorem UX (zero:List V):fJ ρ h (.alc zero)=some (.ptr h.next 0,h.new (.cells false zero)):=rfl
theorem XL (x:X):fJ ρ h (.box x)=An h (ρ x):=rfl
theorem YV (f:Nat)(a b:List X):fJ ρ h (.mkf f a b)=some (.fn f (a.map ρ) (b.map ρ),h):=rfl
def rD (h:H)(sz bytes:Nat)(x y:V):Option (V×H):=match vT y,h.slice sz y with
 |some m,some ys=>zL h sz bytes x m ys
 |_,_=>none
theorem ZY (sz bytes:Nat)(x y:X):fJ ρ h (.app sz bytes x y)=rD h sz bytes (ρ x) (ρ y):=rfl
def oN (zero:List V)(parts:List (Nat×Nat×V)):Option V:=(iH zero parts).map .agg
theorem VL (zero:List V)(a:List (Nat×Nat×X)):fJ ρ h (.bld zero a)=(oN zero (a.map λp=>(p.1,p.2.1,ρ p.2.2))).map (·,h):=by
 simp only[fJ,oN,Option.map_map];rfl
def mC (h:H)(sz:Nat)(zero:List V)(n:Nat)(parts:List (Nat×Nat×V)):Option (V×H):=match iH (dT zero (n*sz)) parts with
  |some cs=>if cs.all V.one then some (.sl h.next 0 n (.kn n),h.new (.cells false cs)) else none
  |none=>none
theorem UY (sz:Nat)(zero:List V)(n:Nat)(a:List (Nat×Nat×X)):fJ ρ h (.bls sz zero n a)=mC h sz zero n (a.map λp=>(p.1,p.2.1,ρ p.2.2)):=rfl
theorem YU (sz:Nat)(x y:X):fJ ρ h (.cpy sz x y)=XT h sz (ρ x) (ρ y):=rfl
end
theorem ahY (a b:List V)(k:Nat):xv a b (.v k)=a.getD k .undef:=rfl
theorem ahZ (a b:List V)(k:Nat):xv a b (.l k)=b.getD k .undef:=rfl
theorem afE (a b:List V)(x:V):xv a b (.c x)=x:=rfl
theorem aaY (k:Nat)(a b:List V)(v:V):(jG (.v k) a b v).1=a.set k v:=rfl
theorem YM (k:Nat)(a b:List V)(v:V):(jG (.v k) a b v).2=b:=rfl
theorem ZL (a b:List V)(v:V):(jG .l a b v).1=a:=rfl
theorem VY (a b:List V)(v:V):(jG .l a b v).2=v::b:=rfl
theorem aaV (a b:List V)(v:V):(jG .n a b v).1=a:=rfl
theorem aaD (a b:List V)(v:V):(jG .n a b v).2=b:=rfl
theorem Wi (c d:List V)(x:X)(b:Bool):iV c d (some (x,b))=(match xv c d x with| .bool a=>some (a==b)| .tup []=>some false|_=>none):=rfl
theorem JQ (k:IntKind)(a b:Int):arith .add k a b=some (.int k (k.wrap (a+b))):=rfl
theorem HN (k:IntKind)(a b:Int):arith .sub k a b=some (.int k (k.wrap (a-b))):=rfl
theorem HM (k:IntKind)(a b:Int):arith .mul k a b=some (.int k (k.wrap (a*b))):=rfl
theorem HE (k:IntKind)(a b:Int)(c:b≠0):arith .quo k a b=some (.int k (k.wrap (a.tdiv b))):=by simp only[arith];rw[bV c]
theorem HV (k:IntKind)(a b:Int)(c:b≠0):arith .rem k a b=some (.int k (a.tmod b)):=by simp only[arith];rw[bV c]
theorem HQ (k:IntKind)(a b:Int):arith .eql k a b=some (.bool (decide (a=b))):=by
 simp only[arith];congr 2
theorem IL (k:IntKind)(a b:Int):arith .neq k a b=some (.bool (decide (a≠b))):=by
 simp only[arith];congr 2;rw[Lf];simp
theorem FZ (k:IntKind)(a b:Int):arith .lss k a b=some (.bool (decide (a<b))):=rfl
theorem KI (k:IntKind)(a b:Int):arith .leq k a b=some (.bool (decide (a<=b))):=rfl
theorem HS (k:IntKind)(a b:Int):arith .gtr k a b=some (.bool (decide (b<a))):=rfl
theorem JI (k:IntKind)(a b:Int):arith .geq k a b=some (.bool (decide (b<=a))):=rfl
theorem VS {n:Int}(a: -9223372036854775808<=n)(h2:n<9223372036854775808):IntKind.i64.wrap n=n:=by
 unfold IntKind.wrap;simp only[IntKind.bits,IntKind.signed]
 by_cases h:0<=n
 .have:n%2^64=n:=Int.emod_eq_of_lt h om
  simp only[this];rw[bV];simp;omega
 .have:n%2^64=n+2^64:=by
   rw[<-Int.add_emod_right];exact Int.emod_eq_of_lt om om
  simp only[this];rw[bL]
  .omega
  .simp;omega
theorem acS (a:List V)(h:H)(k:Nat):Er a h (.v k)=some (a.getD k .undef):=rfl
theorem Yq (c:List V)(h:H)(k:Nat):Er c h (.cell k false 1)=Ks h (c.getD k .undef):=by
 have:=Ps (λ_=>c.getD k .undef) h (.v 0);simp only[Er];simp only[fJ] at this;generalize ldV h false 1 (c.getD k .undef)=a at*;generalize Ks h (c.getD k .undef)=b at*;cases a<;>cases b<;>simp at this |-;exact this
theorem Yz (a:List V)(h:H)(k n:Nat):Er a h (.cell k true n)=Zy h n (a.getD k .undef):=by
 simp only[Er,ldV,Zy];cases a.getD k .undef<;>try rfl
 simp only;cases h.row _ _ n<;>rfl
theorem Va {α:Type}:dP ([]:List (Option α))=some []:=rfl
theorem Pe {α:Type}(a:α)(r:List (Option α)):dP (some a::r)=(dP r).map (a:: ·):=rfl
theorem TW (v:V):Tx [v]=v:=rfl
theorem QC (v u:V):Tx [v,u]= .tup [v,u]:=rfl
theorem AV (v u t:V):Tx [v,u,t]= .tup [v,u,t]:=rfl
theorem jS:V.undef= .tup []:=rfl
theorem aI (a:Fn)(args:List V):qP a args=a.init.map λo=>match o with|some j=>args.getD j .undef|none=> .undef:=rfl
theorem HA (a:Log)(h:H):pM [] a h=true:=by simp [pM]
attribute [go_sem] aaW aeY WD acM acU TV aeD Vc OF Jx FW BD Vm Zk yL IS Vj Yg Wu GJ TO IJ Yo AP Uo NB MB abM adI UW ZH VQ YC IC WG KX FV aaS KY IZ HZ adE LC IA MA SW Sz XA RK abD UR TS ZN PN YE QN Ps DH aeR YO ZT ZV XB abB UX XL YV ZY VL UY YU TA HB AA Ye NQ GZ afL adP Bool.not_false Bool.not_true beq_true beq_false if_true if_false Bool.false_eq_true OS JC NR AJ RL TP TH JV OE aaZ QB TB MV Ju GU cF Ih ahY ahZ afE aaY YM ZL VY aaV aaD Wi JQ HN HM HE HV HQ IL FZ KI HS JI VS acS Yq Yz Va Pe TW QC AV HA H.aW H.aF H.aQ H.bN H.uQ H.GH H.zY H.Gx H.Lm H.Xk H.dE H.aZ true_and Option.map_some Option.map_none List.replicate_succ List.replicate_zero List.take_succ_cons List.take_zero List.length_cons List.length_nil Nat.zero_add List.foldl_cons List.foldl_nil List.map_cons List.map_nil List.getD_cons_zero List.getD_cons_succ List.set_cons_zero List.set_cons_succ List.cons_append List.nil_append qV
attribute [congr] Zc
theorem aM (y:q)(h:p=q:=by conv=>lhs;simp(disch:=omega)only[go_sem]):p:=(h).mpr y
theorem aiJ (h:p:=by simp(disch:=omega)only[go_sem]):p:=h
theorem bE (a:p0)(y:q)(h:p0->p=q:=by intro a;conv=>lhs;simp(disch:=omega)only[go_sem,a]):p:=(h a).mpr y
theorem cU (a:p0)(b:p1)(y:q)(h:p0->p1->p=q:=by intro a b;conv=>lhs;simp(disch:=omega)only[go_sem,a,b]):p:=(h a b).mpr y
theorem agW (a:p0)(b:p1)(h:p0->p1->p:=by intro a b;simp(disch:=omega)only[go_sem,a,b]):p:=h a b
theorem dQ (a:p0)(c:p1)(b:p2)(y:q)(h:p0->p1->p2->p=q:=by intro a c b;conv=>lhs;simp(disch:=omega)only[go_sem,a,c,b]):p:=(h a c b).mpr y
theorem ahS (a:p0)(c:p1)(b:p2)(h:p0->p1->p2->p:=by intro a c b;simp(disch:=omega)only[go_sem,a,c,b]):p:=h a c b
theorem gX (a:p0)(c:p1)(b:p2)(d:p3)(y:q)(h:p0->p1->p2->p3->p=q:=by intro a c b d;conv=>lhs;simp(disch:=omega)only[go_sem,a,c,b,d]):p:=(h a c b d).mpr y
theorem iT (a:p0)(b:p1)(d:p2)(c:p3)(f:p4)(y:q)(h:p0->p1->p2->p3->p4->p=q:=by intro a b d c f;conv=>lhs;simp(disch:=omega)only[go_sem,a,b,d,c,f]):p:=(h a b d c f).mpr y
theorem kA (a:p0)(b:p1)(d:p2)(c:p3)(f:p4)(i:p5)(y:q)(h:p0->p1->p2->p3->p4->p5->p=q:=by intro a b d c f i;conv=>lhs;simp(disch:=omega)only[go_sem,a,b,d,c,f,i]):p:=(h a b d c f i).mpr y
theorem ahQ (a:p0)(b:p1)(d:p2)(c:p3)(f:p4)(i:p5)(h:p0->p1->p2->p3->p4->p5->p:=by intro a b d c f i;simp(disch:=omega)only[go_sem,a,b,d,c,f,i]):p:=h a b d c f i
theorem uA (a:p0)(c:p1)(f:p2)(d:p3)(i:p4)(j:p5)(b:p6)(y:q)(h:p0->p1->p2->p3->p4->p5->p6->p=q:=by intro a c f d i j b;conv=>lhs;simp(disch:=omega)only[go_sem,a,c,f,d,i,j,b]):p:=(h a c f d i j b).mpr y
theorem qL {m:Prop}(a:p0)(d:p1)(j:p2)(f:p3)(b:p4)(l:p5)(c:p6)(i:m)(y:q)(h:p0->p1->p2->p3->p4->p5->p6->m->p=q:=by intro a d j f b l c i;conv=>lhs;simp(disch:=omega)only[go_sem,a,d,j,f,b,l,c,i]):p:=(h a d j f b l c i).mpr y
theorem uG {o n:Prop}(a:p0)(f:p1)(l:p2)(i:p3)(b:p4)(m:p5)(d:p6)(j:o)(c:n)(y:q)(h:p0->p1->p2->p3->p4->p5->p6->o->n->p=q:=by intro a f l i b m d j c;conv=>lhs;simp(disch:=omega)only[go_sem,a,f,l,i,b,m,d,j,c]):p:=(h a f l i b m d j c).mpr y
abbrev bG (l:List V):Option Ob:=some (.cells false l)
abbrev aC (z:Int):V:=.int .i64 z
abbrev LN:=List (List Nat)
abbrev iA:=List (List (List Nat))
theorem cJ [d:Decidable p](h:p):decide p=true:=decide_eq_true h
theorem bT [d:Decidable p](h:¬p):decide p=false:=decide_eq_false h
theorem exI.{u}{α:Sort u}(a:α):∃b,a=b:=⟨a,rfl⟩
theorem eJ (i:Nat):(i:Int)+1=((i+1:Nat):Int):=om
end
end Go.Ay
namespace Go.Ay
section
variable {l:List Int} {v x u:V} {sz n id off b bytes:Nat} {h h':H} {ws us:List V} {ro:Bool} {ll:List (List Int)}
def ints (l:List Int):List V:=l.map (V.int .i64)
theorem MD:ints []= []:=rfl
theorem HD (a:Int)(l:List Int):ints (a::l)= .int .i64 a::ints l:=rfl
theorem aN (l:List Int):(ints l).length=l.length:=fL ..
theorem oH (a b:List Int):ints (a++b)=ints a++ints b:=List.map_append ..
theorem ints_set (l:List Int)(i:Nat)(x:Int):(ints l).set i (.int .i64 x)=ints (l.set i x):=by
 simp only[ints,List.map_set]
theorem MM (l:List Int)(i:Nat):(ints l)[i]? =(l[i]?).map (V.int .i64):=by simp [ints]
theorem Lx {i:Nat}(hi:i<l.length):(ints l)[i]? =some (.int .i64 (l.getD i 0)):=by
 rw[MM,dC hi,Zo,dC hi];rfl
theorem Vd:{a b:List Int}->ints a=ints b->a=b
 | [], [],_=>rfl
 | [],_::_,h=>by cases h
 |_::_, [],h=>by cases h
 |x::a,y::b,h=>by
  simp only[HD,List.cons.injEq,V.int.injEq,true_and] at h;rw[h.1,Vd h.2]
theorem Iz (n:Nat)(x:Int):ints (List.replicate n x)=List.replicate n (.int .i64 x):=by simp [ints]
structure Sl (v:V)(sz n id off:Nat):Prop where
 len:vT v=some n
 ixa:(k:IntKind)->(i:Int)->0<=i->i<n->El sz v (.int k i)=some (.ptr id (off+i.toNat*sz))
 one:v.one=true
 cells:v.cells= [v]
theorem Sl.lens (s:Sl v sz n id off):bH v=some (.int .i64 (n:Int)):=by
 unfold bH;rw[s.len];rfl
def SV (h:H)(v:V)(sz:Nat)(ws:List V):Prop:=(v= .aD\/ ∃a,v= .emp a)/\ws= []\/
 ∃id off len cap ro vs,v= .sl id off len cap/\ws.length=len*sz/\id<h.next/\h.get id=some (.cells ro vs)/\off+len*sz<=vs.length/\(vs.drop off).take (len*sz)=ws
theorem SV.aD (h:H)(sz:Nat):SV h .aD sz []:= .inl ⟨.inl rfl,rfl⟩
theorem SV.emp (h:H)(a:Addr)(sz:Nat):SV h (.emp a) sz []:= .inl ⟨.inr ⟨a,rfl⟩,rfl⟩
theorem SV.mono (s:SV h v sz ws)(f:Fr h h'):SV h' v sz ws:=by
 rcases s with s|⟨id,off,len,a,ro,i,m,j,c,k,o,d⟩
 .exact .inl s
 .exact .inr ⟨id,off,len,a,ro,i,m,j,kQ c f.next,by rw[f.get id c];exact k,o,d⟩
theorem SV.all {vs:List V}{len:Nat}(d:vs.length=len*sz)(c:id<h.next)(f:h.get id=some (.cells ro vs))(a:uF):SV h (.sl id 0 len a) sz vs:=
 .inr ⟨id,0,len,a,ro,vs,rfl,d,c,f,om,by rw[List.drop_zero,<-d,List.take_length]⟩
theorem SV.shape (s:SV h v sz ws)(n:Nat)(f:ws.length=n*sz)(t:0<sz): ∃id off,Sl v sz n id off/\(0<n->id<h.next)/\ ∀i,i<ws.length->h.cell id (off+i)=ws[i]? :=by
 rcases s with ⟨p,rfl⟩|⟨id,off,len,r,ro,w,rfl,d,m,q,y,o⟩
 .have:n=0:=by
   cases n with
   |zero=>rfl
   |succ n=>simp [Nat.succ_mul] at f;omega
  subst this;rcases p with rfl|⟨a,rfl⟩<;>exact⟨0,0,⟨rfl,λk i j d=>om,rfl,rfl⟩,λh=>om,λi hi=>by simp at hi⟩
 .have c:len=n:=by
   rw[d] at f;exact Nat.eq_of_mul_eq_mul_right t f
  subst c;refine⟨id,off,⟨rfl,λk i j d=>Ih j d,rfl,rfl⟩,λ_=>m,λi hi=>?_⟩;rw[H.cell_of q,<-o,List.getElem?_take_of_lt om,List.getElem?_drop]
theorem SV.slice (s:SV h v sz ws):h.slice sz v=some ws:=by
 rcases s with ⟨rfl|⟨a,rfl⟩,rfl⟩|⟨id,off,len,f,ro,j,rfl,k,m,d,i,c⟩
 .rfl
 .rfl
 .simp only[H.slice,H.row,d,sub]
  rw[bL i,c]
theorem SV.len (s:SV h v sz ws)(a:ws.length=n*sz)(c:0<sz):vT v=some n:=by
 obtain⟨id,off,s,_⟩:=s.shape n a c;exact s.len
def SI (h:H)(v:V)(l:List Int):Prop:=SV h v 1 (ints l)
theorem SI.aD (h:H):SI h .aD []:=SV.aD h 1
theorem SI.emp (h:H)(a:Addr):SI h (.emp a) []:=SV.emp h a 1
theorem SI.mono (s:SI h v l)(f:Fr h h'):SI h' v l:=SV.mono s f
theorem SI.own (c:id<h.next)(d:h.get id=some (.cells ro (ints l)))(a:uF):SI h (.sl id 0 l.length a) l:=
 SV.all (by rw[aN,qZ]) c d a
theorem SI.open (s:SI h v l): ∃id off,Sl v 1 l.length id off/\(0<l.length->id<h.next)/\ ∀i:Nat,i<l.length->h.cell id (off+i)=some (.int .i64 (l.getD i 0)):=by
 obtain⟨id,off,c,f,d⟩:=SV.shape s l.length (by rw[aN,qZ]) om;refine⟨id,off,c,f,λi a=>?_⟩;rw[d i (by rw[aN];omega),Lx a]
theorem SI.len (s:SI h v l):vT v=some l.length:=SV.len s (by rw[aN,qZ]) om
theorem SI.lens (s:SI h v l):bH v=some (.int .i64 (l.length:Int)):=by unfold bH;rw[s.len];rfl
theorem Br (f:Fr h h'){F:Nat->V}(a:0<n->id<h.next)(d: ∀i:Nat,i<n->h.cell id (off+i)=some (F i)): ∀i:Nat,i<n->h'.cell id (off+i)=some (F i):=λi c=>by
 rw[f.cell (a om)];exact d i c
def aJ {α β:Type}(R:α->β->Prop):List α->List β->Prop
 | [], []=>True
 |a::aQ_,b::bs=>R a b/\aJ R aQ_ bs
 |_,_=>False
theorem aJ.length {α β:Type}{R:α->β->Prop}:{aQ_:List α}->{bs:List β}->aJ R aQ_ bs->aQ_.length=bs.length
 | [], [],_=>rfl
 |_::_,_::_,h=>by rw[List.length_cons,List.length_cons,aJ.length h.2]
 | [],_::_,h=>h.elim
 |_::_, [],h=>h.elim
theorem aJ.mono {α β:Type}{R S:α->β->Prop}(k: ∀a b,R a b->S a b):{aQ_:List α}->{bs:List β}->aJ R aQ_ bs->aJ S aQ_ bs
 | [], [],_=>trivial
 |_::_,_::_,h=>⟨k _ _ h.1,aJ.mono k h.2⟩
 | [],_::_,h=>h.elim
 |_::_, [],h=>h.elim
theorem aJ.get {α β:Type}{R:α->β->Prop}:{aQ_:List α}->{bs:List β}->aJ R aQ_ bs-> ∀i (hi:i<aQ_.length) (hj:i<bs.length),R aQ_[i] bs[i]
 |a::aQ_,b::bs,h,0,_,_=>h.1
 |a::aQ_,b::bs,h,i+1,hi,hj=>aJ.get h.2 i (by simpa using hi) (by simpa using hj)
 | [],_,_,i,hi,_=>by simp at hi
 |_::_, [],h,_,_,_=>h.elim
theorem aJ.append {α β:Type}{R:α->β->Prop}:{aQ_:List α}->{bs:List β}->{cs:List α}->{ds:List β}->aJ R aQ_ bs->aJ R cs ds->aJ R (aQ_++cs) (bs++ds)
 | [], [],_,_,_,h=>h
 |_::_,_::_,_,_,h,k=>⟨h.1,aJ.append h.2 k⟩
 | [],_::_,_,_,h,_=>h.elim
 |_::_, [],_,_,h,_=>h.elim
theorem aJ.jM {α β:Type}{R:α->β->Prop}:{aQ_:List α}->{bs:List β}->aQ_.length=bs.length->(∀i (hi:i<aQ_.length) (hj:i<bs.length),R aQ_[i] bs[i])->aJ R aQ_ bs
 | [], [],_,_=>trivial
 |a::aQ_,b::bs,hl,h=>⟨h 0 siM siM,aJ.jM (by simpa using hl) λi hi hj=>h (i+1) (by simpa using hi) (by simpa using hj)⟩
 | [],_::_,hl,_=>by simp at hl
 |_::_, [],hl,_=>by simp at hl
theorem aJ.set {α β:Type}{R:α->β->Prop}:{aQ_:List α}->{bs:List β}->aJ R aQ_ bs-> ∀(i:Nat) {a:α} {b:β},R a b->aJ R (aQ_.set i a) (bs.set i b)
 | [], [],_,_,_,_,_=>trivial
 |_::_,_::_,h,0,_,_,r=>⟨r,h.2⟩
 |_::_,_::_,h,i+1,_,_,r=>⟨h.1,aJ.set h.2 i r⟩
 | [],_::_,h,_,_,_,_=>h.elim
 |_::_, [],h,_,_,_,_=>h.elim
def SR (h:H)(v:V)(ll:List (List Int)):Prop:= ∃ws,SV h v 1 ws/\aJ (SI h) ws ll
theorem SR.aD (h:H):SR h .aD []:=⟨[],SV.aD h 1,trivial⟩
theorem SR.mono (s:SR h v ll)(f:Fr h h'):SR h' v ll:=by
 have⟨ws,s,a⟩:=s;exact⟨ws,s.mono f,a.mono λ_ _ x=>x.mono f⟩
theorem SR.open (s:SR h v ll): ∃id off ws,Sl v 1 ll.length id off/\(0<ll.length->id<h.next)/\ws.length=ll.length/\(∀i:Nat,i<ll.length->h.cell id (off+i)=some (ws.getD i .undef))/\aJ (SI h) ws ll:=by
 have⟨ws,s,a⟩:=s;have c:=a.length;obtain⟨id,off,f,d,j⟩:=s.shape ll.length (by rw[c,qZ]) om;refine⟨id,off,ws,f,d,c,λi k=>?_,a⟩;rw[j i om,Zo,dC om];rfl
theorem SR.len (s:SR h v ll):vT v=some ll.length:=by
 obtain⟨id,off,ws,a,_⟩:=s.open;exact a.len
theorem SR.lens (s:SR h v ll):bH v=some (.int .i64 (ll.length:Int)):=by unfold bH;rw[s.len];rfl
theorem Pt (a:aJ (SI h) ws ll){i:Nat}(hi:i<ll.length):SI h (ws.getD i .undef) (ll.getD i []):=by
 have c:=a.length;rw[Zo,dC om,Zo,dC hi];exact a.get i om hi
def cW (h:H)(v:V)(sz:Nat)(ws:List V)(b:Nat):Prop:=v= .aD/\ws= []\/
 ∃id n cap rest,v= .sl id 0 n cap/\ws.length=n*sz/\(cap= .un sz\/cap= .kn n/\rest= [])/\b<=id/\id<h.next/\h.get id=some (.cells false (ws++rest))
theorem cW.aD (h:H)(sz b:Nat):cW h .aD sz [] b:= .inl ⟨rfl,rfl⟩
theorem cW.new (h:H)(sz n b:Nat)(ws:List V)(a:ws.length=n*sz)(c:b<=h.next):cW (h.new (.cells false ws)) (.sl h.next 0 n (.kn n)) sz ws b:=
 .inr ⟨h.next,n,_, [],rfl,a,.inr ⟨rfl,rfl⟩,c,by rw[H.aZ];omega,by rw[H.aQ,qV]⟩
theorem cW.sv (o:cW h v sz ws b):SV h v sz ws:=by
 rcases o with o|⟨id,n,c,a,rfl,d,_,_,f,i⟩
 .exact .inl ⟨.inl o.1,o.2⟩
 .exact .inr ⟨id,0,n,c,false,ws++a,rfl,d,f,i,by rw[iB];omega,by rw[List.drop_zero,<-d,List.take_left]⟩
theorem cW.le {c:Nat}(o:cW h v sz ws b)(p:c<=b):cW h v sz ws c:=by
 rcases o with o|⟨id,n,d,a,k,j,f,m,i⟩
 .exact .inl o
 .exact .inr ⟨id,n,d,a,k,j,f,kP p m,i⟩
def dS (v:V)(k:Nat):Prop:= ∀id off n c,v= .sl id off n c->k≠id
theorem dS.aD (k:Nat):dS .aD k:=λ_ _ _ _ h=>by cases h
theorem dS.sl {k:Nat}{c:uF}(h:k≠id):dS (.sl id off n c) k:=λ_ _ _ _ e=>by cases e;exact h
theorem cW.mono (o:cW h v sz ws b)(q:h.next<=h'.next)(p: ∀id off n c,v= .sl id off n c->b<=id->id<h.next->h'.get id=h.get id):cW h' v sz ws b:=by
 rcases o with o|⟨id,n,a,d,rfl,k,j,i,f,m⟩
 .exact .inl o
 .exact .inr ⟨id,n,a,d,rfl,k,j,i,kQ f q,by rw[p id 0 n a rfl i f];exact m⟩
theorem cW.fr {h h':H}{v:V}{sz:Nat}{ws:List V}{b:Nat}(o:cW h v sz ws b)(f:Fr h h'):cW h' v sz ws b:=
 o.mono f.next λid _ _ _ _ _ a=>f.get id a
structure adH (h:H)(x:V)(sz n m:Nat)(ws us:List V)(b:Nat)(v:V)(h':H):Prop where
 own:cW h' v sz (ws++us) b
 next:h.next<=h'.next
 get: ∀k,k<h.next->dS x k->h'.get k=h.get k
 fr: ∀a,Fr a h->a.next<=b->Fr a h'
 cM:m=0/\v=x\/ ∃id,v= .sl id 0 (n+m) (.un sz)/\b<=id/\id<h'.next/\h'.get id=some (.cells false (ws++us))
theorem cW.zL {h:H}{x:V}{sz bytes b:Nat}{ws us:List V}(o:cW h x sz ws b)(t:b<=h.next){n m:Nat}(q:ws.length=n*sz)(N:us.length=m*sz)(B:0<sz)(i:(2*(n+m)+1000)*bytes<=2^48/\n+m<2^62):
  ∃v h',zL h sz bytes x m us=some (v,h')/\adH h x sz n m ws us b v h':=by
 have w:=o.sv
 have p:=w.len q B
 have r:=w.slice
 unfold Ay.zL
 simp only[p,r]
 by_cases j:m=0
 .subst j
  have K:us= []:=Yl om
  subst K
  rw[bL rfl]
  exact⟨x,h,rfl,by rw[qV];exact o,eU _,λ_ _ _=>rfl,λ_ f _=>f,.inl ⟨rfl,rfl⟩⟩
 .rw[bV j,bL i]
  have c: ∀g:H,g.next=h.next->(∀k,k<h.next->dS x k->g.get k=h.get k)->(∀a,Fr a h->a.next<=b->Fr a g)-> ∃v h',some (V.sl h.next 0 (n+m) (.un sz),g.new (.cells false (ws++us)))=some (v,h')/\adH h x sz n m ws us b v h':=by
   intro g y F G;refine⟨_,_,rfl,.inr ⟨h.next,n+m,.un sz, [],rfl,by rw[iB,q,N,Nat.add_mul],.inl rfl,t,by rw[H.aZ];omega,by rw[<-y,H.aQ,qV]⟩,by rw[H.aZ];omega,λk z d=>?_,λa f d=>(G a f d).new _,.inr ⟨_,rfl,t,by rw[H.aZ];omega,by rw[<-y,H.aQ]⟩⟩;rw[H.bN g om];exact F k z d
  rcases o with ⟨rfl,rfl⟩|⟨id,s,P,A,rfl,O,J,L,R,Q⟩
  .exact c h rfl (λ_ _ _=>rfl) (λ_ f _=>f)
  .have:s=n:=Nat.eq_of_mul_eq_mul_right B (O.symm.trans q)
   subst this
   rcases J with rfl|⟨rfl,rfl⟩
   .simp only[Q,if_true]
    exact c (h.set id none) rfl (λk z d=>H.aF h (d id 0 s _ rfl) none) (λa f d=>f.set (kP d L) none)
   .simp only
    rw[bV om]
    exact c h rfl (λ_ _ _=>rfl) (λ_ f _=>f)
theorem cW.app {y:V}(o:cW h x sz ws b)(i:b<=h.next)(d:SV h y sz us){m:Nat}(k:ws.length=n*sz)(c:us.length=m*sz)(f:0<sz)(a:(2*(n+m)+1000)*bytes<=2^48/\n+m<2^62):
  ∃v h',rD h sz bytes x y=some (v,h')/\adH h x sz n m ws us b v h':=by
 have j:rD h sz bytes x y=Ay.zL h sz bytes x m us:=by
  simp only[rD,d.len c f,d.slice]
 rw[j]
 exact o.zL i k c f a
theorem qT {zero:List V}{j k:IntKind}{l c:Int}(d:0<=l)(a:l<=c)(h2:c*bytes<=281474976710656)(h3:c<4611686018427387904):
  Ct h sz bytes zero (.int j l) (.int k c)=some (.sl h.next 0 l.toNat (.kn c.toNat),h.new (.cells false (dT zero (c.toNat*sz)))):=by
 simp only[Ct];rw[bL ⟨d,a,h2,h3⟩]
theorem Gr (n:Nat):dT [.int .i64 0] n=ints (List.replicate n 0):=by
 rw[Iz];unfold dT;apply List.ext_getElem
 .simp
 .intro i a c
  simp [Nat.mod_one]
theorem NA (h:H)(sz:Nat)(zero:List V):mC h sz zero 0 []=some (.sl h.next 0 0 (.kn 0),h.new (.cells false [])):=by
 simp [mC,iH,dT]
theorem SV.cM (s:SV h v sz ws):v.cells= [v]/\v.one=true/\ ∀k n,v≠ .int k n:=by
 rcases s with ⟨rfl|⟨a,rfl⟩,_⟩|⟨id,off,len,c,ro,d,rfl,_⟩
 .exact⟨rfl,rfl,λk n h=>by cases h⟩
 .exact⟨rfl,rfl,λk n h=>by cases h⟩
 .exact⟨rfl,rfl,λk n h=>by cases h⟩
theorem SV.UO (s:SV h v sz ws)(h':H)(id off:Nat):Ny h' 1 (.ptr id off) v=eH (h'.get id) h' id off [v]:=kO s.cM.1 s.cM.2.1 h' id off
theorem SI.other (s:SI h v l)(m:l≠ []){P:Nat}(z:h.get P=some (.cells ro ws))(p:(i:Nat)->(w:V)->ws[i]? =some w-> ∀k n,w≠ .int k n)(o:Option Ob):SI (h.set P o) v l:=by
 rcases s with ⟨_,A⟩|⟨id,off,len,f,c,q,t,r,B,d,y,j⟩
 .exact absurd (Vd (A.trans MD.symm)) m
 .by_cases e:id=P
  .subst e
   rw[z] at d;cases d
   cases l with
   |nil=>exact absurd rfl m
   |cons a l=>
    have:((ws.drop off).take (len*1))[0]? =some (.int .i64 a):=by rw[j];rfl
    rw[List.getElem?_take] at this;split at this
    .rw[List.getElem?_drop] at this
     exact absurd rfl (p _ _ this _ _)
    .cases this
  .exact .inr ⟨id,off,len,f,c,q,t,r,B,by rw[H.aF h e];exact d,y,j⟩
def Dis (v u:V):Prop:= ∀i o n c,v= .sl i o n c-> ∀i' o' n' c',u= .sl i' o' n' c'->i≠i'
theorem cW.HG (x:cW h v sz ws b)(y:cW h' u sz us h.next):Dis v u:=by
 intro i o n c e B z s w a;rcases x with ⟨f,_⟩|⟨id,k,r,p,f,_,_,_,t,_⟩
 .rw[f] at e;cases e
 .rw[f] at e;cases e
  rcases y with ⟨d,_⟩|⟨q,F,m,j,d,_,_,A,_⟩
  .rw[d] at a;cases a
  .rw[d] at a;cases a
   omega
theorem cW.set {P:Nat}(x:cW h v sz ws b)(c:P<b)(o:Option Ob):cW (h.set P o) v sz ws b:=
 x.mono (eU _) λid _ _ _ _ a _=>H.aF h om o
theorem NT {z1 z2:V}(i:v.cells= [v])(c:v.one=true)(d:u.cells= [u])(a:u.one=true):oN [z1,z2] [(0,1,v),(1,1,u)]=some (.agg [v,u]):=by
 have f:putAt [z1,z2] 0 [v]=some [v,z2]:=by simp [putAt]
 have j:putAt [v,z2] 1 [u]=some [v,u]:=by simp [putAt]
 simp only[oN,iH,i,d,List.length_singleton,List.all_cons,List.all_nil,c,a,Bool.and_self,and_self,if_true,f,j,Option.map_some]
theorem NW (z:List V):oN z []=some (.agg z):=rfl
theorem uK (h:H)(a:v.one=true)(c:u.one=true):An h (.agg [v,u])=some (.ptr h.next 0,h.new (.cells false [v,u])):=sQ h _ (by simp [a,c])
theorem Dh (h:H)(id off:Nat)(a:v.one=true)(c:u.one=true):Ny h 2 (.ptr id off) (.agg [v,u])=eH (h.get id) h id off [v,u]:=vN h id off 2 _ rfl (by simp [a,c])
theorem SA {y:V}(h:H)(id:Nat):eH (some (.cells false [x,y])) h id 0 [v,u]=some (h.set id (some (.cells false [v,u]))):=by
 simp [eH,putAt]
def okE (h:H)(j:I)(v:V):Bool:=match fJ (xv [] []) h j with|some (u,_)=>dM u v|none=>false
theorem AL (cks:List Nat)(k:Nat)(j:I)(v:V)(a:Log)(h:H):pM cks ((k,j,v)::a) h=((!cks.contains k||okE h j v)&&pM cks a h):=rfl
theorem Sv (cks:List Nat)(h:H):pM cks [] h=true:=rfl
def UH (o:Option V)(v:V):Bool:=match o with|some u=>dM u v|none=>false
theorem LV (u v:V):UH (some u) v=dM u v:=rfl
theorem XF (h:H)(x v:V):okE h (.ld false 1 (.c x)) v=UH (Ks h x) v:=by
 unfold okE;rw[Ps,afE];cases Ks h x<;>rfl
theorem YH (h:H)(n:Nat)(x v:V):okE h (.ld true n (.c x)) v=UH (Zy h n x) v:=by
 unfold okE;rw[DH,afE];cases Zy h n x<;>rfl
theorem WI (k:IntKind)(a:Int):dM (.int k a) (.int k a)=true:=by simp [dM]
theorem NJ (a:Bool):dM (.bool a) (.bool a)=true:=by simp [dM]
theorem US (a b:Nat):dM (.ptr a b) (.ptr a b)=true:=by simp [dM]
theorem ZP (a b:List V):dM (.agg a) (.agg b)=rJ a b:=by simp [dM]
theorem SM:rJ [] []=true:=by simp [rJ]
theorem FU (a b:V)(c d:List V):rJ (a::c) (b::d)=(dM a b&&rJ c d):=by simp [rJ]
theorem SV.dM {h:H}{v:V}{sz:Nat}{ws:List V}(s:SV h v sz ws):dM v v=true:=by
 rcases s with ⟨rfl|⟨a,rfl⟩,_⟩|⟨id,off,len,c,ro,d,rfl,_⟩<;>simp [Ay.dM]
theorem WQ (i:Nat)(d:D)(g:Option (X×Bool))(j:I)(al:Bool)(cks:List Nat)(a:List V)(v:V)(c:Log):Fo ⟨i,⟨d,g,.op j⟩,al,cks⟩ a v c=if j.rN then (i,j.close (xv a []),v)::c else c:=rfl
theorem KJ (i:Nat)(d:D)(g:Option (X×Bool))(f:Nat)(xs:List X)(al:Bool)(cks:List Nat)(c:List V)(v:V)(a:Log):Fo ⟨i,⟨d,g,.call f xs⟩,al,cks⟩ c v a=a:=rfl
theorem Zd (i:Nat)(d:D)(g:Option (X×Bool))(f:X)(xs:List X)(al:Bool)(cks:List Nat)(c:List V)(v:V)(a:Log):Fo ⟨i,⟨d,g,.callv f xs⟩,al,cks⟩ c v a=a:=rfl
attribute [go_sem] AL Sv LV XF YH WI NJ US ZP SM FU WQ KJ Zd I.rN I.close List.contains_cons List.contains_nil Nat.reduceBEq Bool.or_false Bool.false_or Bool.or_true Bool.true_or Bool.and_true Bool.true_and
def abR (o:Option (V×H))(m:Nat):Option (V×H):=match o with|some (v,h')=>some (v,H.mk h'.tr m)|none=>none
theorem ZJ (a:List V)(h:H)(n:Nat)(i:I):Ll a h n (.op i)=abR (fJ (xv a []) (H.mk h.tr n) i) h.next:=rfl
theorem Yh (v:V)(h':H)(m:Nat):abR (some (v,h')) m=some (v,H.mk h'.tr m):=rfl
attribute [go_sem] ZJ Yh
def agE (l:List V):Nat->V:=λi=>l.getD i .undef
theorem aB {L:List V}{F:(Nat->V)->List V}(h:L=F (agE L)): ∃g,L=F g:=⟨agE L,h⟩
theorem Ml {l:List Int}{off:Nat}(a:off<l.length)(h:H)(id:Nat)(x:Int):eH (some (.cells false (ints l))) h id off [.int .i64 x]=some (h.set id (some (.cells false (ints (l.set off x))))):=by
 rw[cF (by rw[aN];exact a),ints_set]
attribute [go_sem] IF Int.toNat_zero Int.toNat_one Nat.add_zero Nat.zero_add
attribute [go_sem] NW SA List.getElem?_cons_zero List.getElem?_cons_succ List.getElem?_nil
attribute [go_sem] Ml aN ints_set qT Gr NA qZ Nat.mul_zero
theorem Qn:({a:Type}->(l:List a)->(i:Nat)->(x:a)->(l.set i x).length=l.length)/\({a:Type}->(n:Nat)->(x:a)->(List.replicate n x).length=n)/\({a:Type}->(l m:List a)->(l++m).length=l.length+m.length)/\({a:Type}->(i:Nat)->(l:List a)->(l.take i).length=min i l.length)/\({a:Type}->(i:Nat)->(l:List a)->(l.drop i).length=l.length-i)/\({a:Type}->(x:a)->(l:List a)->(x::l).length=l.length+1)/\({a:Type}->([]:List a).length=0)/\({a b:Type}->(f:a->b)->(l:List a)->(l.map f).length=l.length)/\(∀n:Nat,(List.range n).length=n)/\(∀l:List Int,(ints l).length=l.length):=
 ⟨λ_ _ _=>List.length_set ..,λ_ _=>List.length_replicate ..,λ_ _=>iB ..,λ_ _=>wH ..,λ_ _=>Nx ..,λ_ _=>rfl,rfl,λ_ _=>fL ..,λ_=>Ng ..,λ_=>aN _⟩
end
end Go.Ay
namespace Go.Pm
section
variable {i:Nat} {x:List Nat}
abbrev wW:=List (List Nat)
abbrev RI:=List (List (List Nat))
theorem oq {p:Prop}(h:p:=by omega):p:=h
structure aY (n:Nat)(a:List Nat):Prop where
 len:a.length=n
 nd:a.Nodup
 lt: ∀x∈a,x<n
abbrev at' (a:List Nat)(i:Nat):Nat:=a.getD i 0
def aS (a b:List Nat):List Nat:=a.map λp=>b.getD p 0
def bC (n:Nat):List Nat:=List.range n
def cK (a:List Nat):List Nat:=(List.range a.length).map λj=>a.idxOf j
theorem bJ {a:List Nat}(h:i<a.length):a.getD i 0=a[i]:=by simp [List.getD,h]
theorem uD {a b:List Nat}(d:a.length=b.length)(h: ∀i,i<a.length->a.getD i 0=b.getD i 0):a=b:=by
 refine List.ext_getElem d λi c f=>?_
 have:=h i c;rwa [bJ c,bJ f] at this
section
variable {n:Nat} {a b c:List Nat}
theorem aY.fZ (A:aY n a)(hi:i<n):a.getD i 0<n:=by
 have h:i<a.length:=by rw[A.len];exact hi
 rw[bJ h];exact A.lt _ (List.getElem_mem h)
theorem aY.inj (A:aY n a){j:Nat}(hi:i<n)(l:j<n)(h:a.getD i 0=a.getD j 0):i=j:=by
 have d:i<a.length:=by rw[A.len];exact hi
 have f:j<a.length:=by rw[A.len];exact l
 rw[bJ d,bJ f] at h;have k:=A.nd.idxOf_getElem i d;have m:=A.nd.idxOf_getElem j f;rw[h] at k;exact k.symm.trans m
theorem aY.NI (f:a.length=n)(k: ∀i,i<n->a.getD i 0<n)(h2: ∀i j,i<n->j<n->a.getD i 0=a.getD j 0->i=j):aY n a:=by
 refine⟨f,?_,λx l=>?_⟩
 .rw[List.nodup_iff_pairwise_ne,List.pairwise_iff_getElem]
  intro i j hi d h e;have:=h2 i j oq oq (by rw[bJ hi,bJ d];exact e);omega
 .obtain⟨i,hi,rfl⟩:=List.mem_iff_getElem.1 l
  have:=k i oq;rwa [bJ hi] at this
theorem aY.mem (A:aY n a){p:Nat}(h:p<n):p∈a:=by
 refine Classical.byContradiction λk=>?_
 have d:(p::a).Nodup:=List.nodup_cons.2 ⟨k,A.nd⟩
 have j:(p::a) ⊆ List.range n:=λx f=>by
  rcases List.mem_cons.1 f with rfl|f
  .exact List.mem_range.2 h
  .exact List.mem_range.2 (A.lt x f)
 have:=List.Nodup.length_le_of_subset d j;have l:=A.len;simp only[List.length_cons,List.length_range] at this;omega
theorem aY.idx (A:aY n a){p:Nat}(d:p<n):a.idxOf p<n/\a.getD (a.idxOf p) 0=p:=by
 have h:=List.idxOf_lt_length_iff.2 (A.mem d);refine⟨by rw[<-A.len];exact h,?_⟩;rw[bJ h,List.getElem_idxOf]
theorem fV (a b:List Nat):(aS a b).length=a.length:=by simp [aS]
theorem dI (hi:i<a.length):(aS a b).getD i 0=b.getD (a.getD i 0) 0:=by
 have h:i<(aS a b).length:=by rw[fV];exact hi
 rw[bJ h,bJ hi];simp [aS]
theorem jB (n:Nat):(bC n).length=n:=by simp [bC]
theorem fW {n:Nat}(hi:i<n):(bC n).getD i 0=i:=by
 have h:i<(bC n).length:=by rw[jB];exact hi
 rw[bJ h];simp [bC]
theorem iI (a:List Nat):(cK a).length=a.length:=by simp [cK]
theorem vF (hi:i<a.length):(cK a).getD i 0=a.idxOf i:=by
 have h:i<(cK a).length:=by rw[iI];exact hi
 rw[bJ h];simp [cK]
theorem aY.one (n:Nat):aY n (bC n):=⟨jB n,List.nodup_range,λx d=>List.mem_range.1 d⟩
theorem aY.mul (A:aY n a)(B:aY n b):aY n (aS a b):=by
 refine aY.NI (by rw[fV,A.len]) (λi hi=>?_) (λi j hi d h=>?_)
 .rw[dI (by rw[A.len];exact hi)];exact B.fZ (A.fZ hi)
 .rw[dI (by rw[A.len];exact hi),dI (by rw[A.len];exact d)] at h
  exact A.inj hi d (B.inj (A.fZ hi) (A.fZ d) h)
theorem aY.inv (A:aY n a):aY n (cK a):=by
 refine aY.NI (by rw[iI,A.len]) (λi hi=>?_) (λi j hi d h=>?_)
 .rw[vF (by rw[A.len];exact hi)];exact (A.idx hi).1
 .rw[vF (by rw[A.len];exact hi),vF (by rw[A.len];exact d)] at h
  rw[<-(A.idx hi).2,<-(A.idx d).2,h]
theorem aG (A:aY n a)(B:aY n b)(C:aY n c):aS (aS a b) c=aS a (aS b c):=by
 refine uD (by simp only[fV]) λi hi=>?_
 rw[fV,fV] at hi;have d:i<n:=by rw[<-A.len];exact hi
 rw[dI (by rw[fV];exact hi),dI hi,dI hi,dI (by rw[B.len];exact A.fZ d)]
theorem bD (A:aY n a):aS a (bC n)=a:=by
 refine uD (fV _ _) λi hi=>?_
 rw[fV] at hi;rw[dI hi,fW (A.fZ (by rw[<-A.len];exact hi))]
theorem cV (A:aY n a):aS (bC n) a=a:=by
 refine uD (by rw[fV,jB,A.len]) λi hi=>?_
 rw[fV,jB] at hi;rw[dI (by rw[jB];exact hi),fW hi]
theorem dB (A:aY n a):aS a (cK a)=bC n:=by
 refine uD (by rw[fV,jB,A.len]) λi hi=>?_
 rw[fV] at hi;have d:i<n:=by rw[<-A.len];exact hi
 rw[dI hi,fW d,vF (by rw[A.len];exact A.fZ d)];exact A.inj ((A.idx (A.fZ d)).1) d ((A.idx (A.fZ d)).2)
theorem dU (A:aY n a):aS (cK a) a=bC n:=by
 refine uD (by rw[fV,jB,iI,A.len]) λi hi=>?_
 rw[fV,iI] at hi;have d:i<n:=by rw[<-A.len];exact hi
 rw[dI (by rw[iI];exact hi),fW d,vF hi];exact (A.idx d).2
theorem oZ (n:Nat):cK (bC n)=bC n:=by
 have:=dB (aY.one n);rwa [cV (aY.one n).inv] at this
theorem Pf (A:aY n a)(B:aY n b)(C:aY n c)(h:aS a c=aS b c):a=b:=by
 have:=congrArg (λx=>aS x (cK c)) h
 try simp only at this
 rwa [aG A C C.inv,aG B C C.inv,dB C,bD A,bD B] at this
theorem yG (A:aY n a)(B:aY n b)(C:aY n c)(h:aS c a=aS c b):a=b:=by
 have:=congrArg (λx=>aS (cK c) x) h
 try simp only at this
 rwa [<-aG C.inv C A,<-aG C.inv C B,dU C,cV A,cV B] at this
theorem xQ (A:aY n a)(B:aY n b):cK (aS a b)=aS (cK b) (cK a):=by
 refine yG (A.mul B).inv (B.inv.mul A.inv) (A.mul B) ?_;rw[dB (A.mul B),aG A B (B.inv.mul A.inv),<-aG B B.inv A.inv,dB B,cV A.inv,dB A]
theorem rE (A:aY n a)(hi:i<n):(cK a).getD (a.getD i 0) 0=i:=by
 have:=congrArg (λx=>x.getD i 0) (dB A)
 try simp only at this
 rwa [dI (by rw[A.len];exact hi),fW hi] at this
structure eM (n:Nat)(G:List Nat->Prop):Prop where
 bM: ∀{x},G x->aY n x
 one:G (bC n)
 mul: ∀{x y},G x->G y->G (aS x y)
 inv: ∀{x},G x->G (cK x)
def pw (n:Nat)(x:List Nat):Nat->List Nat
 |0=>bC n
 |k+1=>aS (pw n x k) x
theorem gY (A:aY n a): ∀k,aY n (pw n a k)
 |0=>aY.one n
 |k+1=>(gY A k).mul A
theorem Ai (A:aY n a)(i:Nat): ∀j,pw n a (i+j)=aS (pw n a i) (pw n a j)
 |0=>(bD (gY A i)).symm
 |j+1=>by
  show aS (pw n a (i+j)) a=aS (pw n a i) (aS (pw n a j) a);rw[Ai A i j,aG (gY A i) (gY A j) A]
def Af (n:Nat):Nat->wW
 |0=> [[]]
 |k+1=>(List.range n).flatMap λx=>(Af n k).map (x:: ·)
theorem Kt (n:Nat): ∀k,(Af n k).length=n^k
 |0=>rfl
 |k+1=>by
  simp only[Af,List.length_flatMap,List.length_map,Kt n k]
  have: ∀m c:Nat,((List.range m).map λ_=>c).sum=m*c:=by
   intro m c
   induction m with
   |zero=>simp
   |succ m ih=>rw[List.range_succ,List.map_append,List.sum_append,ih];simp [Nat.succ_mul]
  rw[this,Nat.pow_succ,Nat.mul_comm]
theorem vG (n:Nat):(k:Nat)->(l:List Nat)->l.length=k->(∀x∈l,x<n)->l∈Af n k
 |0, [],_,_=>by simp [Af]
 |0,_::_,h,_=>by simp at h
 |k+1, [],h,_=>by simp at h
 |k+1,x::l,h,hx=>by
  simp only[Af,List.mem_flatMap,List.mem_map];exact⟨x,List.mem_range.2 (hx x (by simp)),l,vG n k l (by simpa using h) (λy d=>hx y (by simp [d])),rfl⟩
theorem aY.vG (A:aY n a):a∈Af n n:=Go.Pm.vG n n a A.len A.lt
theorem xV {l:wW}(f:l.Nodup)(d: ∀x∈l,aY n x):l.length<=n^n:=by
 rw[<-Kt n n];exact List.Nodup.length_le_of_subset f λx h=>(d x h).vG
theorem Kf (A:aY n a): ∃k,0<k/\k<=n^n/\pw n a k=bC n:=by
 have h: ∃i j,i<j/\j<=n^n/\pw n a i=pw n a j:=by
  refine Classical.byContradiction λp=>?_
  have f:((List.range (n^n+1)).map (pw n a)).Nodup:=by
   rw[List.nodup_iff_pairwise_ne,List.pairwise_iff_getElem];intro i j hi l d e;simp only[List.length_map,List.length_range] at hi l;simp only[List.getElem_map,List.getElem_range] at e;exact p ⟨i,j,d,oq,e⟩
  have:=xV f (n:=n) (λx o=>by
   obtain⟨i,_,rfl⟩:=List.mem_map.1 o
   exact gY A i)
  simp only[List.length_map,List.length_range] at this;omega
 have⟨i,j,d,l,e⟩:=h;refine⟨j-i,oq,oq,?_⟩;have m:pw n a j=aS (pw n a i) (pw n a (j-i)):=by rw[<-Ai A,show i+(j-i)=j from oq]
 refine yG (gY A (j-i)) (aY.one n) (gY A i) ?_;rw[<-m,bD (gY A i),e]
inductive bX (n:Nat) (L:List Nat->Prop):List Nat->Prop where
 |one:bX n L (bC n)
 |mul {x g:List Nat}:bX n L x->L g->bX n L (aS x g)
variable {L M:List Nat->Prop}
theorem bX.bM (d: ∀g,L g->aY n g)(h:bX n L x):aY n x:=by
 induction h with
 |one=>exact aY.one n
 |mul _ hg ih=>exact ih.mul (d _ hg)
theorem bX.of (d: ∀g,L g->aY n g){g:List Nat}(h:L g):bX n L g:=by
 have:=bX.mul (n:=n) bX.one h;rwa [cV (d g h)] at this
theorem bX.app (d: ∀g,L g->aY n g){y:List Nat}(h:bX n L x)(f:bX n L y):bX n L (aS x y):=by
 induction f with
 |one=>rwa [bD (h.bM d)]
 |mul f hg ih=>rw[<-aG (h.bM d) (f.bM d) (d _ hg)];exact ih.mul hg
theorem bX.pow (d: ∀g,L g->aY n g)(f:bX n L x): ∀k,bX n L (pw n x k)
 |0=> .one
 |k+1=>(bX.pow d f k).app d f
theorem bX.inv (d: ∀g,L g->aY n g)(f:bX n L x):bX n L (cK x):=by
 have A:=f.bM d;obtain⟨k,j,_,h⟩:=Kf A
 have e:cK x=pw n x (k- 1):=by
  refine Pf A.inv (gY A _) A ?_;rw[dU A];show _=pw n x (k- 1+1);rw[show k- 1+1=k from oq,h]
 rw[e];exact f.pow d _
theorem bX.cX (d: ∀g,L g->aY n g):eM n (bX n L):=⟨λh=>h.bM d,.one,λh k=>h.app d k,λh=>h.inv d⟩
theorem bX.le {G:List Nat->Prop}(d:eM n G)(h: ∀g,L g->G g)(f:bX n L x):G x:=by
 induction f with
 |one=>exact d.one
 |mul _ hg ih=>exact d.mul ih (h _ hg)
theorem bX.mono (h: ∀g,L g->M g)(d:bX n L x):bX n M x:=by
 induction d with
 |one=>exact .one
 |mul _ hg ih=>exact ih.mul (h _ hg)
end
end
end Go.Pm
namespace Go.Ay
open Go
section
variable {N i:Nat} {g:Nat->V}
section
variable (ρ:X->V) (h:H)
theorem XD (n sz:Nat)(x i:X):fJ ρ h (.ixd n sz x i)=(MY n sz (ρ x) (ρ i)).map (·,h):=rfl
theorem UB {n sz id off:Nat}{k:IntKind}{z:Int}(b:0<=z)(a:z<(n:Int)):MY n sz (.ptr id off) (.int k z)=some (.ptr id (off+z.toNat*sz)):=by
 simp only[MY];rw[bL ⟨b,a⟩]
theorem CM (x:X):fJ ρ h (.cvs x)=(GY h (ρ x)).map (·,h):=rfl
theorem aaG (t:Nat)(x:X):fJ ρ h (.mif t x)=some (.ifc t (ρ x),h):=rfl
theorem ZI (a:Bp)(r:Option X):fJ ρ h (.mkw a r)=if Jt (r.map ρ)=true then some (.mp h.next,h.new (.wmap a [])) else none:=rfl
theorem Wa:Jt none=true:=rfl
theorem Yx (k:IntKind)(n:Int):Jt (some (.int k n))=true:=rfl
def UN (x i:V):Option V:=match x,i with
 | .str l,.int _ z=>if 0<=z then (l[z.toNat]?).map (λ(c:Nat)=>V.int .u8 ((c%256:Nat):Int)) else none
 |_,_=>none
theorem DU (x i:X):fJ ρ h (.six x i)=(UN (ρ x) (ρ i)).map (·,h):=by
 simp only[fJ,UN];cases ρ x<;>cases ρ i<;>try rfl
 simp only;split
 .simp only[Option.map_map];rfl
 .rfl
theorem IK (k:IntKind)(a b:Int):arith .and k a b=some (.int k (k.wrap (BitVec.ofInt k.bits a&&&BitVec.ofInt k.bits b).toNat)):=rfl
end
attribute [go_sem] XD UB aaG ZI Wa Yx
def rc (N:Nat)(g:Nat->V):List V:=(List.range N).map g
theorem iK (N:Nat)(g:Nat->V):(rc N g).length=N:=by simp [rc]
theorem Be (hi:i<N):(rc N g)[i]? =some (g i):=by
 unfold rc;rw[Jj,List.getElem?_range hi];rfl
theorem jL (N:Nat)(g:Nat->V)(k:Nat)(x:V):(rc N g).set k x=rc N λj=>if j=k then x else g j:=by
 unfold rc;refine List.ext_getElem siM λi _ _=>?_
 rw[List.getElem_set,List.getElem_map,List.getElem_map,List.getElem_range]
 by_cases e:k=i
 .rw[bL e,bL e.symm]
 .rw[bV e,bV (Ne.symm e)]
theorem cT {f:Nat->V}(h: ∀i,i<N->f i=g i):rc N f=rc N g:=Sk λi hi=>h i (wY.1 hi)
theorem iJ {h:H}{S:Nat}(a:h.get S=some (.cells false (rc N g)))(hi:i<N):h.cell S i=some (g i):=by
 rw[H.cell_of a,Be hi]
theorem Gy {l:List V}(a:l.length=N)(h: ∀i,i<N->l[i]? =some (g i)):rc N g=l:=by
 refine List.ext_getElem? λi=>?_
 by_cases hi:i<N
 .rw[Be hi,h i hi]
 .rw[List.getElem?_eq_none (by rw[iK];omega),List.getElem?_eq_none om]
def zi (l:List Nat):List Int:=l.map λ(k:Nat)=>(k:Int)
theorem aL (l:List Nat):(zi l).length=l.length:=by simp [zi]
theorem Fq {l:List Nat}(hi:i<l.length):(ints (zi l))[i]? =some (.int .i64 ((l.getD i 0:Nat):Int)):=by
 rw[Pm.bJ hi];simp [ints,zi,hi]
theorem Uh (l:List Nat):rc l.length (λi=> .int .i64 ((l.getD i 0:Nat):Int))=ints (zi l):=
 Gy (by rw[aN,aL]) λ_ hi=>Fq hi
structure Vf (h h':H)(v:V)(l:List Nat):Prop where
 val:v= .sl h.next 0 l.length (.kn l.length)
 get:h'.get h.next=some (.cells false (ints (zi l)))
 next:h'.next=h.next+1
 fr:Fr h h'
end
end Go.Ay
namespace Go.Ay
def idx (t:Nat):List Nat->Option Nat
 | []=>none
 |s::r=>if s=t then some 0 else (idx t r).map (· +1)
def Gh:Value->Option V
 | .int k n=>some (.int k n)
 | .bool b=>some (.bool b)
 | .pointer none=>some .nilp
 | .slice none 0 0=>some .aD
 | .map none=>some .nilm
 | .nilFunc=>some .nilf
 | .string s=>some (.str (s.data.toList.map UInt8.toNat))
 | .func (.func f) first captured=>if first.isEmpty&&captured.isEmpty then some (.fn f [] []) else none
 |_=>none
def Nr:Value->Option V
 | .agg cs=>(dP (cs.toList.map Gh)).map .agg
 | .tuple cs=>if cs.isEmpty then some (.tup []) else none
 |v=>Gh v
def iM (pv defs:List Nat):Operand->Option X
 | .tmp t=>match idx t defs with
  |some i=>some (.l i)
  |none=>(idx t pv).map .v
 | .const v=>(Nr v).map .c
 | .func f=>some (.c (.fn f [] []))
 | .global _=>none
def Bh (pv defs:List Nat)(xs:List Operand):Option (List X):=dP (xs.map (iM pv defs))
def Aj (pv defs:List Nat):Option Operand->Option (Option X)
 |none=>some none
 |some x=>(iM pv defs x).map some
section
variable (P:Program)
def Uz (t:TypeId):Option Bool:=(P.underlying t).map fun| .struct _| .array _ _=>true|_=>false
def jN (t:TypeId):Option Nat:=(P.info? t).map (·.size)
def Ea (t:TypeId):Option Nat:=(P.info? t).map (·.bytes)
def abU:V->Bool
 | .tup _=>false
 |_=>true
def rH (t:TypeId):Option V:=(((P.info? t).bind (·.zero)).bind Nr).filter abU
def ldN (t:TypeId):Option (Bool×Nat):=
 match Uz P t with
 |some true=>(jN P t).map λn=>(true,n)
 |some false=>some (false,1)
 |none=>none
def Bu (t:TypeId):Option TypeId:=match P.underlying t with|some (.slice e)=>some e|_=>none
def Ya (e:TypeId)(s:Nat):Bool:=((P.info? e).bind (·.zero)).any λz=>z.cells.size==s
def AE (t:TypeId)(f:Nat):Option Field:=match P.underlying t with|some (.struct fs)=>fs[f]? |_=>none
def enters (f:Nat):Bool:=(P.funcs[f]?).any λfn=>fn.body.isSome&&fn.name != "runtime.NumGoroutine"
def yE (fs:Array Field):Option (List (Nat×Nat)):=fs.toList.mapM λf=>(P.info? f.type).map λi=>(f.offset,i.size)
def AS (t:TypeId)(parts:List (Nat×X)):Option (List (Nat×Nat×X)):=
 match P.underlying t with
 |some (.struct fs)=>match yE P fs with
  |some ps=>dP (parts.map λp=>((ps[p.1]?).map λq=>(q.1,q.2,p.2)))
  |none=>none
 |some (.array _ e)=>(jN P e).map λs=>parts.map λp=>(p.1*s,s,p.2)
 |_=>none
def isInt (t:TypeId):Option IntKind:=match P.underlying t with|some (.int k)=>some k|_=>none
def Qb (kt:TypeId):Option Bp:=
 match P.underlying kt with
 |some .string=>some .str
 |some (.array n e)=>match P.underlying e with
  |some (.int k)=>if P.cellsOf e=1/\P.cellsOf kt=n/\0<P.types.size then some (.arr n k) else none
  |_=>none
 |_=>none
def uX (pv defs:List Nat)(c:Call)(type:TypeId):Option fU:=
 match c.callee with
 | .value (.func f)=>if enters P f then (Bh pv defs c.args.toList).map (.call f) else none
 | .value x=>do some (.callv (←iM pv defs x) (←Bh pv defs c.args.toList))
 | .invoke .. =>none
 | .builtin .len=>
  match c.args.toList,c.argTypes.toList with
  | [x], [t]=>match P.underlying t with
   |some (.slice _)=>(iM pv defs x).map λx=> .op (.lens x)
   |some (.map _ _)=>(iM pv defs x).map λx=> .op (.lenm x)
   |_=>none
  |_,_=>none
 | .builtin .append=>
  match c.args.toList,c.argTypes.toList with
  | [x,y], [t,u]=>do
   let e ←Bu P t
   let s ←jN P e
   if s=0\/Ya P e s=false then none else
   match P.underlying u with
   |some (.slice _)=>some (.op (.app s (←Ea P e) (←iM pv defs x) (←iM pv defs y)))
   |_=>none
  |_,_=>none
 | .builtin .clear=>
  match c.args.toList,c.argTypes.toList with
  | [x], [t]=>do
   let e ←Bu P t
   let s ←jN P e
   if s=0\/Ya P e s=false then none else
   some (.op (.clr s (←rH P e).cells (←iM pv defs x)))
  |_,_=>none
 | .builtin .copy=>
  match c.args.toList,c.argTypes.toList with
  | [x,y], [t,_]=>do
   let e ←Bu P t
   let s ←jN P e
   if s=0 then none else
   some (.op (.cpy s (←iM pv defs x) (←iM pv defs y)))
  |_,_=>none
 |_=>let _:=type;none
def oW (pv defs:List Nat)(o:Oper):Option fU:=
 let cx:=iM pv defs
 match o.op with
 | .move x| .assign x=>(cx x).map λx=> .op (.mov x)
 | .pick c a b=>do some (.op (.pick (←cx c) (←cx a) (←cx b)))
 | .alloc e=>do some (.op (.alc (←rH P e).cells))
 | .box _ x=>(cx x).map λx=> .op (.box x)
 | .build t parts=>do
  let ps ←dP (parts.toList.map λp=>(cx p.2).map λx=>(p.1,x))
  some (.op (.bld (←rH P t).cells (←AS P t ps)))
 | .buildSlice t n parts=>do
  let e ←Bu P t
  let s ←jN P e
  if s=0\/n*s>2^24\/Ya P e s=false then none else
  let ps ←dP (parts.toList.map λp=>(cx p.2).map λx=>(p.1*s,s,x))
  some (.op (.bls s (←rH P e).cells n ps))
 | .load t x=>match ldN P t with
  |some q=>(cx x).map λx=> .op (.ld q.1 q.2 x)
  |none=>none
 | .store t x y=>do some (.op (.st (←jN P t) (←cx x) (←cx y)))
 | .nilCheck x=>(cx x).map λx=> .op (.nck x)
 | .binOp op t x y _=>
  match op with
  | .shl| .shr=>do some (.op (.shf op (←isInt P t) (←cx x) (←cx y)))
  | .eql| .neq=>
   match P.underlying t with
   |some (.int k)=>do some (.op (.bin op k (←cx x) (←cx y)))
   |some .bool=>do some (.op (.beq (op matches .neq) (←cx x) (←cx y)))
   |some .string=>do some (.op (.seq (op matches .neq) (←cx x) (←cx y)))
   |some (.slice _)=>match y with
    | .const (.slice none 0 0)=>do some (.op (.snil (op matches .neq) (←cx x)))
    |_=>none
   |_=>none
  | .andNot=>none
  | .add=>match P.underlying t with
   |some .string=>do some (.op (.sad (←cx x) (←cx y)))
   |_=>do some (.op (.bin .add (←isInt P t) (←cx x) (←cx y)))
  |_=>do some (.op (.bin op (←isInt P t) (←cx x) (←cx y)))
 | .unOp op t x=>
  match op with
  | .not=>(cx x).map λx=> .op (.not x)
  |_=>none
 | .convert s d x=>match P.underlying s,P.underlying d with
  |some (.int _),some (.int k)=>(cx x).map λx=> .op (.conv k x)
  |some (.slice e),some .string=>match P.underlying e with
   |some (.int .u8)=>(cx x).map λx=> .op (.cvs x)
   |_=>none
  |some (.int _),some .string=>(cx x).map λx=> .op (.cir x)
  |_,_=>none
 | .makeFunc (.func f) first cs=>if enters P f then do some (.op (.mkf f (←Bh pv defs first.toList) (←Bh pv defs cs.toList))) else none
 | .makeMap t r=>match P.underlying t with
  |some (.map kt _)=>match Qb P kt with
   |some sh=>(Aj pv defs r).map λr=> .op (.mkw sh r)
   |none=>none
  |_=>none
 | .makeSlice t l c=>do
  let e ←Bu P t
  let s ←jN P e
  if s=0\/Ya P e s=false then none else
  some (.op (.mks s (←Ea P e) (←rH P e).cells (←cx l) (←cx c)))
 | .slice t x lo hi mx=>match P.underlying t with
  |some (.array _ _)=>none
  |_=>do
   let e ←Bu P t
   let s ←jN P e
   if s=0 then none else
   some (.op (.slc s (←cx x) (←Aj pv defs lo) (←Aj pv defs hi) (←Aj pv defs mx)))
 | .fieldAddr t x f=>do
  let f ←AE P t f
  if (jN P f.type).getD 0=0 then none else
  some (.op (.fla f.offset (←cx x)))
 | .indexAddr t x i=>match P.underlying t,i with
  |some (.array n e),.const (.int _ z)=>if 0<=z/\z<n then do
    let s ←jN P e
    some (.op (.fla (z.toNat*s) (←cx x)))
   else none
  |some (.array n e),i=>do
   let s ←jN P e
   some (.op (.ixd n s (←cx x) (←cx i)))
  |_,_=>do
   let e ←Bu P t
   let s ←jN P e
   some (.op (.ixa s (←cx x) (←cx i)))
 | .lookup t x k ok=>match P.underlying t with
  |some (.map kt et)=>do some (.op (.lkw (←Qb P kt) (←rH P et) ok (←cx x) (←cx k)))
  |_=>none
 | .mapUpdate t x k y=>match P.underlying t with
  |some (.map kt _)=>do some (.op (.msw (←Qb P kt) (←cx x) (←cx k) (←cx y)))
  |_=>none
 | .index t x i=>match P.underlying t with
  |some .string=>do some (.op (.six (←cx x) (←cx i)))
  |_=>none
 | .extract x i=>(cx x).map λx=> .op (.ext x i)
 | .makeInterface t x=>match P.underlying t,cx x with
  |some (.interface _),_=>some (.op .fail)
  |some _,some x=>some (.op (.mif t x))
  |_,_=>some (.op .fail)
 | .panic _=>some (.op .fail)
 | .call c=>uX P pv defs c o.type
 |_=>none
def abY (pv defs:List Nat)(ops:Array Oper):Option (Nat×Bool)->Option (Option (X×Bool))
 |none=>some none
 |some (j,b)=>match (ops[j]?).bind (·.dst) with
  |some t=>(iM pv defs (.tmp t)).map λx=>some (x,b)
  |none=>none
def abW (nt:Nat)(pv defs:List Nat):Option Tmp->Option (D×List Nat)
 |none=>some (.n,defs)
 |some t=>if t<nt then (match idx t pv with
   |some k=>some (.v k,defs)
   |none=>some (.l,t::defs)) else none
def uE (nt:Nat)(pv defs:List Nat)(ops:Array Oper)(o:Oper):Option (It×List Nat):=
 match oW P pv defs o,abY pv defs ops o.guard,abW nt pv defs o.dst with
 |some a,some g,some d=>some (⟨d.1,g,a⟩,d.2)
 |_,_,_=>none
def Dc (nt:Nat)(pv:List Nat)(ops:Array Oper):List Nat->List Nat->Option (List It)
 | [],_=>some []
 |i::r,defs=>
  match ops[i]? with
  |none=>none
  |some o=>
   match uE P nt pv defs ops o with
   |none=>none
   |some (it,defs')=>(Dc nt pv ops r defs').map (it:: ·)
end
def X.Mt:X->List Nat
 | .v k=> [k]
 |_=> []
def I.xs:I->List X
 | .mov x| .not x| .conv _ x| .snil _ x| .ext x _| .lens x| .lenm x| .ld _ _ x| .fla _ x| .box x| .nck x| .cvs x| .mif _ x| .cir x| .clr _ _ x=> [x]
 | .ixd _ _ x y| .six x y| .seq _ x y| .sad x y| .lkw _ _ _ x y=> [x,y]
 | .mkw _ r=>r.toList
 | .msw _ x k y=> [x,k,y]
 | .pick c a b=> [c,a,b]
 | .bin _ _ x y| .shf _ _ x y| .beq _ x y| .st _ x y| .ixa _ x y| .mks _ _ _ x y| .app _ _ x y| .cpy _ x y=> [x,y]
 | .slc _ x lo hi mx=>x::(lo.toList++hi.toList++mx.toList)
 | .bld _ ps=>ps.map (·.2.2)
 | .bls _ _ _ ps=>ps.map (·.2.2)
 | .mkf _ fs cs=>fs++cs
 | .alc _| .fail=> []
def fU.xs:fU->List X
 | .op i=>i.xs
 | .call _ args=>args
 | .callv x args=>x::args
def It.rds (it:It):List Nat:=(it.a.xs.map X.Mt).flatten++(match it.g with|some (x,_)=>x.Mt|none=> [])
def It.wr (it:It):Option Nat:=match it.d with| .v k=>some k|_=>none
def It.Bj (it:It):Bool:=match it.d with| .l=>true|_=>false
def Ar (p q:AI):Bool:=
 (match p.it.wr with|some k=>q.it.rds.contains k||q.it.wr==some k|none=>false)||
 (match q.it.wr with|some k=>p.it.rds.contains k|none=>false)||
 ((p.it.a.sY||p.it.a.nY)&&(q.it.a.sY||q.it.a.rN))
structure Nd where
 x:AI
 dep:List Nat
 anc:Nat
 deriving Repr,Inhabited
def Hg (d:Nat):List Nd->Nat
 | []=>0
 |n::r=>if n.x.i=d then n.anc else Hg d r
def Ig:List Nd->List Nd->Bool
 | [],_=>true
 |n::rest,bef=>
  n.dep.all (λd=>bef.any (λq=>q.x.i==d))&&
  n.anc==n.dep.foldl (λm d=>m|||(2^d|||Hg d bef)) 0&&
  !bef.any (λq=>q.x.i==n.x.i)&&
  bef.all (λq=>!Ar q.x n.x||n.anc.testBit q.x.i)&&
  bef.all (λq=>!(q.x.it.a.rN&&n.x.it.a.sY)||n.anc.testBit q.x.i||n.x.cks.contains q.x.i)&&
  !n.x.it.Bj&&(n.x.al==n.x.it.a.nY)&&
  Ig rest (n::bef)
def afJ (ws:List Nat)(ready:List Nd):Option Nd:=
 match ready.find? (λn=>!n.x.it.a.sY&&!n.x.it.a.nY) with
 |some n=>some n
 |none=>match ready.find? (λn=>n.x.it.a.sY) with
  |some n=>some n
  |none=>match ready.find? (λn=>ws.contains n.x.i) with
   |some n=>some n
   |none=>ready.head?
def Sg:Nat->List Nd->List Nd->List Nd
 |0,_,acc=>acc.reverse
 |f+1,todo,acc=>
  let ready:=todo.filter λn=>n.dep.all λd=>acc.any λq=>q.x.i==d
  let need:=match todo.find? (λn=>n.x.it.a.sY) with
   |some w=>(List.range todo.length.succ).foldl (λs _=>s++((todo.filter λn=>s.contains n.x.i).map (·.dep)).flatten.filter (λd=>!s.contains d&&todo.any (λn=>n.x.i==d))) w.dep
   |none=> []
  match afJ need ready with
  |none=>acc.reverse
  |some n=>
   let anc:=n.dep.foldl (λm d=>m|||(2^d|||Hg d acc)) 0
   let cks:=if n.x.it.a.sY then (acc.filter λq=>q.x.it.a.rN&&!anc.testBit q.x.i).map (·.x.i) else []
   Sg f (todo.filter λm=>m.x.i !=n.x.i) ({n with anc:=anc,x:={n.x with cks:=cks}}::acc)
def yB (o:Oper):List Nat:=(o.after.toList.filter (Region.binds .any)).map (·.on)
def locals (pv:List Nat):List Nat->List Nat->List Nat
 | [],acc=>acc
 |t::ts,acc=>if pv.contains t||acc.contains t then locals pv ts acc else locals pv ts (acc++ [t])
section
variable (P:Program)
def Dl (nt:Nat)(pv:List Nat)(ops:Array Oper):Nat->List Oper->Option (List Nd)
 |_, []=>some []
 |i,o::os=>
  match uE P nt pv [] ops o with
  |some (it, [])=>(Dl nt pv ops (i+1) os).map λr=>{x:={i,it,al:=it.a.nY,cks:= []},dep:=yB o,anc:=0}::r
  |_=>none
def adO (ns:List Nd)(pl:List Nd):Option (List Nd):=
 dP (pl.map λe=>(ns[e.x.i]?).map λm=>{x:={m.x with cks:=e.x.cks},dep:=m.dep,anc:=e.anc})
def QZ (n:Nat)(ns:List Nd):Bool:=(List.range n).all (λi=>ns.any λq=>q.x.i==i)&&Ig ns []
def Rt (ns:List Nd)(n:Nat):Option (List AI):=
 match adO ns (Sg ns.length ns []) with
 |none=>none
 |some plan=>if QZ n plan then some (plan.map (·.x)) else none
def Qj (nt:Nat)(pv:List Nat)(ops:Array Oper):Option C:=
 let loc:=locals pv (ops.toList.filterMap (·.dst)) []
 match Dl P nt (pv++loc) ops 0 ops.toList with
 |none=>none
 |some ns=>
  if loc.all (· <nt) then
   (Rt ns ops.size).map (.any ops.size loc.length)
  else none
def kU (nt:Nat)(pv:List Nat):Code->Option C
 | .skip| .label _=>some .skip
 | .region _ ops draw=>if draw then Qj P nt pv ops else
  (Dc P nt pv ops (List.range ops.size) []).map .reg
 | .seq a b=>do some (.seq (←kU nt pv a) (←kU nt pv b))
 | .cond x a b=>do some (.ite (←iM pv [] x) (←kU nt pv a) (←kU nt pv b))
 | .block id c=>do some (.block id (←kU nt pv c))
 | .loop c=>do some (.loop (←kU nt pv c))
 | .exit id=>some (.exit id)
 | .ret=>some .ret
 | .rangeFunc f pars a b=>do
  some (.range (←iM pv [] f) (←dP (pars.toList.map λt=>idx t pv)) (←kU nt pv a) (←kU nt pv b))
 |_=>none
def Wk (pv:List Nat):ResultVar->Option Rv
 | .tmp t=>(idx t pv).map .v
 | .cell t ty=>match ldN P ty with
  |some q=>(idx t pv).map λk=> .cell k q.1 q.2
  |none=>none
def AD (pv:List Nat)(fn:Func):Option Fn:=
 match fn.body with
 |none=>none
 |some c=>match kU P fn.ntmps pv c,dP (fn.results.toList.map (Wk P pv)) with
  |some body,some results=>
   if pv.all (· <fn.ntmps)&&fn.params.size+fn.nfree<=fn.ntmps then
    some {nargs:=fn.params.size+fn.nfree,init:=pv.map λt=>if t<fn.params.size+fn.nfree then some t else none,results,body}
   else none
  |_,_=>none
end
end Go.Ay
namespace Go.Ay
section
variable {a vars loc:List V} {c:List Value} {v:V} {x:Value} {nt s t k id:Nat} {pv defs:List Nat} {tmps:Array Value} {P:Program} {p:Nat×Nat×Nat} {w w':World} {h:H}
abbrev M:=Nat->Option (Nat×Nat×Nat)
mutual
def VR (m:M):V->Value->Prop
 | .int k n,x=>x= .int k n
 | .bool b,x=>x= .bool b
 | .ptr id o,x=> ∃p,m id=some p/\x= .pointer (some ⟨p.1,p.2.1+o,none⟩)
 | .nilp,x=>x= .pointer none
 | .sl id o len cap,x=> ∃p c o',m id=some p/\x= .slice (some ⟨p.1,p.2.1+o',none⟩) len c/\len<=c/\(0<len->o'=o)/\
   (match cap with| .kn k=>c=k/\o'=o| .un e=>p.2.1+o'+c*e<=p.2.2)
 | .aD,x=>x= .slice none 0 0
 | .emp a,x=>x= .slice (some a) 0 0
 | .str l,x=>x= .string ⟨(l.map UInt8.ofNat).toArray⟩
 | .ifc t v,x=> ∃y,x= .iface t y/\VR m v y
 | .mp id,x=> ∃p,m id=some p/\x= .map (some p.1)
 | .nilm,x=>x= .map none
 | .fn f fs cs,x=> ∃xs ys,x= .func (.func f) xs ys/\iQ m fs xs.toList/\iQ m cs ys.toList
 | .yl id,x=> ∃p,m id=some p/\x= .func (.yield p.1) #[] #[]
 | .nilf,x=>x= .nilFunc
 | .agg vs,x=> ∃xs,x= .agg xs/\iQ m vs xs.toList
 | .tup vs,x=> ∃xs,x= .tuple xs/\iQ m vs xs.toList
 | .unk,_=>True
def iQ (m:M):List V->List Value->Prop
 | [], []=>True
 |v::vs,x::xs=>VR m v x/\iQ m vs xs
 |_,_=>False
end
def Ext (m m':M):Prop:= ∀id p,m id=some p->m' id=some p
theorem Ext.refl (m:M):Ext m m:=λ_ _ h=>h
theorem Ext.trans {a b c:M}(h:Ext a b)(k:Ext b c):Ext a c:=λ_ _ x=>k _ _ (h _ _ x)
mutual
theorem VR.mono {m f:M}(e:Ext m f):(v:V)->(x:Value)->VR m v x->VR f v x
 | .int ..,_,h=>by simpa [VR] using h
 | .bool _,_,h=>by simpa [VR] using h
 | .ptr ..,_,h=>by have⟨p,d,b⟩:=h;exact⟨p,e _ _ d,b⟩
 | .nilp,_,h=>by simpa [VR] using h
 | .sl _ _ _ _,_,h=>by have⟨p,c,l,d,b⟩:=h;exact⟨p,c,l,e _ _ d,b⟩
 | .aD,_,h=>by simpa [VR] using h
 | .emp _,_,h=>by simpa [VR] using h
 | .str _,_,h=>by simpa [VR] using h
 | .ifc _ v,_,h=>by have⟨y,d,b⟩:=h;exact⟨y,d,VR.mono e v _ b⟩
 | .mp _,_,h=>by have⟨p,d,b⟩:=h;exact⟨p,e _ _ d,b⟩
 | .nilm,_,h=>by simpa [VR] using h
 | .fn _ fs cs,_,h=>by have⟨xs,i,d,b,j⟩:=h;exact⟨xs,i,d,iQ.mono e fs _ b,iQ.mono e cs _ j⟩
 | .yl _,_,h=>by have⟨p,d,b⟩:=h;exact⟨p,e _ _ d,b⟩
 | .nilf,_,h=>by simpa [VR] using h
 | .agg vs,_,h=>by have⟨xs,d,b⟩:=h;exact⟨xs,d,iQ.mono e vs _ b⟩
 | .tup vs,_,h=>by have⟨xs,d,b⟩:=h;exact⟨xs,d,iQ.mono e vs _ b⟩
 | .unk,_,_=>by simp [VR]
theorem iQ.mono {m b:M}(e:Ext m b):(vs:List V)->(xs:List Value)->iQ m vs xs->iQ b vs xs
 | [], [],_=>trivial
 |v::vs,x::xs,h=>⟨VR.mono e v x h.1,iQ.mono e vs xs h.2⟩
 | [],_::_,h=>h.elim
 |_::_, [],h=>h.elim
end
theorem iQ.length {m:M}:{vs:List V}->{xs:List Value}->iQ m vs xs->vs.length=xs.length
 | [], [],_=>rfl
 |_::vs,_::xs,h=>by simp [iQ.length h.2]
 | [],_::_,h=>h.elim
 |_::_, [],h=>h.elim
theorem iQ.get {m:M}:{vs:List V}->{xs:List Value}->iQ m vs xs-> ∀{i:Nat} {v:V},vs[i]? =some v-> ∃x,xs[i]? =some x/\VR m v x
 | [], [],_,i,v,h=>by simp at h
 |v::vs,x::xs,h,0,u,hu=>by simp at hu;subst hu;exact⟨x,rfl,h.1⟩
 |v::vs,x::xs,h,i+1,u,hu=>by simpa using iQ.get h.2 (by simpa using hu)
 | [],_::_,h,_,_,_=>h.elim
 |_::_, [],h,_,_,_=>h.elim
theorem iQ.jM {m:M}:{vs:List V}->{xs:List Value}->vs.length=xs.length->((i:Nat)->(v:V)->vs[i]? =some v-> ∃x,xs[i]? =some x/\VR m v x)->iQ m vs xs
 | [], [],_,_=>trivial
 |v::vs,x::xs,hl,h=>by
  refine⟨?_,iQ.jM (by simpa using hl) (λi u d=>by simpa using h (i+1) u (by simpa using d))⟩;obtain⟨y,b,f⟩:=h 0 v rfl;simp at b;subst b;exact f
 | [],_::_,hl,_=>by simp at hl
 |_::_, [],hl,_=>by simp at hl
theorem iQ.append {m:M}{b:List V}{d:List Value}(h:iQ m a c)(k:iQ m b d):iQ m (a++b) (c++d):=by
 induction a generalizing c with
 |nil=>cases c with
  |nil=>exact k
  |cons _ _=>exact h.elim
 |cons x xs ih=>cases c with
  |nil=>exact h.elim
  |cons _ _=>exact⟨h.1,ih h.2⟩
theorem iQ.take {m:M}(h:iQ m a c)(n:Nat):iQ m (a.take n) (c.take n):=by
 induction n generalizing a c with
 |zero=>exact trivial
 |succ n ih=>
  cases a<;>cases c<;>first|exact trivial|exact h.elim|exact⟨h.1,ih h.2⟩
theorem iQ.drop {m:M}(h:iQ m a c)(n:Nat):iQ m (a.drop n) (c.drop n):=by
 induction n generalizing a c with
 |zero=>exact h
 |succ n ih=>
  cases a<;>cases c<;>first|exact trivial|exact h.elim|exact ih h.2
theorem VR.undef (m:M):VR m V.undef undef:=⟨#[],rfl,trivial⟩
theorem VR.one {m:M}(h:VR m v x)(b:v.one=true):x.oneCell'=true:=by
 cases v with
 |int|bool|nilp|aD|emp|nilm|nilf|str=>simp [VR] at h;subst h;rfl
 |ifc=>obtain⟨y,rfl,_⟩:=h;rfl
 |ptr|mp|yl=>obtain⟨p,_,rfl⟩:=h;rfl
 |sl=>obtain⟨p,c,d,_,rfl,_⟩:=h;rfl
 |fn=>obtain⟨_,_,rfl,_⟩:=h;rfl
 |agg|tup|unk=>simp [V.one] at b
theorem VR.cells {m:M}(h:VR m v x)(j:v.cells.all V.one=true):iQ m v.cells x.cells.toList:=by
 cases v with
 |unk=>simp [V.cells,V.one] at j
 |agg vs=>obtain⟨xs,rfl,n⟩:=h;exact n
 |int=>simp [VR] at h;subst h;exact⟨rfl,trivial⟩
 |bool=>simp [VR] at h;subst h;exact⟨rfl,trivial⟩
 |nilp=>simp [VR] at h;subst h;exact⟨rfl,trivial⟩
 |aD=>simp [VR] at h;subst h;exact⟨rfl,trivial⟩
 |emp=>simp [VR] at h;subst h;exact⟨rfl,trivial⟩
 |str=>simp [VR] at h;subst h;exact⟨rfl,trivial⟩
 |ifc=>obtain⟨y,rfl,i⟩:=h;exact⟨⟨y,rfl,i⟩,trivial⟩
 |nilm=>simp [VR] at h;subst h;exact⟨rfl,trivial⟩
 |nilf=>simp [VR] at h;subst h;exact⟨rfl,trivial⟩
 |ptr|mp|yl=>obtain⟨p,f,rfl⟩:=h;exact⟨⟨p,f,rfl⟩,trivial⟩
 |sl=>obtain⟨p,c,l,f,rfl,d⟩:=h;exact⟨⟨p,c,l,f,rfl,d⟩,trivial⟩
 |fn=>obtain⟨a,b,rfl,d⟩:=h;exact⟨⟨a,b,rfl,d⟩,trivial⟩
 |tup=>obtain⟨a,rfl,d⟩:=h;exact⟨⟨a,rfl,d⟩,trivial⟩
structure jV (m:M)(nt:Nat)(pv:List Nat)(vars:List V)(tmps:Array Value):Prop where
 size:tmps.size=nt
 len:vars.length=pv.length
 lt: ∀s∈pv,s<nt
 val: ∀s k,idx s pv=some k->VR m (vars.getD k .undef) (tmps.getD s undef)
structure zU (m:M)(pv defs:List Nat)(loc:List V)(tmps:Array Value):Prop where
 apart: ∀s k,idx s defs=some k->idx s pv=none
 val: ∀s k,idx s defs=some k->VR m (loc.getD k .undef) (tmps.getD s undef)
theorem zU.nil (m:M)(pv:List Nat)(tmps:Array Value):zU m pv [] [] tmps:=
 ⟨λ_ _ h=>by simp [idx] at h,λ_ _ h=>by simp [idx] at h⟩
theorem jV.mono {m b:M}(e:Ext m b)(h:jV m nt pv vars tmps):jV b nt pv vars tmps:=
 ⟨h.size,h.len,h.lt,λs k d=>VR.mono e _ _ (h.val s k d)⟩
theorem zU.mono {m b:M}(e:Ext m b)(h:zU m pv defs loc tmps):zU b pv defs loc tmps:=
 ⟨h.apart,λs k d=>VR.mono e _ _ (h.val s k d)⟩
theorem EC {s t k:Nat}:{l:List Nat}->idx s l=some k->idx t l=some k->s=t
 | [],h,_=>by simp [idx] at h
 |a::l,h,h'=>by
  simp only[idx] at h h'
  by_cases d:a=s
  .by_cases b:a=t
   .exact d.symm.trans b
   .simp [d] at h;subst h;simp [b] at h'
  .by_cases b:a=t
   .simp [b] at h';subst h';simp [d] at h
   .simp [d] at h;simp [b] at h'
    obtain⟨i,f,rfl⟩:=h;obtain⟨j,m,n⟩:=h';have:i=j:=om
    subst this;exact EC f m
theorem Ip {s k:Nat}:{l:List Nat}->idx s l=some k->k<l.length
 | [],h=>by simp [idx] at h
 |a::l,h=>by
  simp only[idx] at h
  by_cases b:a=s
  .simp [b] at h;subst h;simp
  .simp [b] at h
   obtain⟨f,d,rfl⟩:=h;have:=Ip d;simp;omega
theorem CZ {s k:Nat}:{l:List Nat}->idx s l=some k->s∈l
 | [],h=>by simp [idx] at h
 |a::l,h=>by
  simp only[idx] at h
  by_cases b:a=s
  .simp [b]
  .simp [b] at h
   obtain⟨f,d,rfl⟩:=h;exact tX _ (CZ d)
theorem wK {a:Array Value}{d:Value}(h:t<a.size):(a.setIfInBounds t x).getD t d=x:=by
 simp [Array.getD,h]
theorem qJ {a:Array Value}{d:Value}(h:t≠s):(a.setIfInBounds t x).getD s d=a.getD s d:=by
 simp only[KN];rw[Array.getElem?_setIfInBounds_ne h]
theorem jV.set {m:M}(h:jV m nt pv vars tmps)(b:idx t pv=some k)
    (n:VR m v x):jV m nt pv (vars.set k v) (tmps.setIfInBounds t x):=by
 have i:t<tmps.size:=by rw[h.size];exact h.lt t (CZ b)
 refine⟨by simpa using h.size,by simpa using h.len,h.lt,λs j d=>?_⟩
 by_cases jE:s=t
 .subst jE
  have:j=k:=by rw[b] at d;exact (Option.some.inj d).symm
  subst this
  have l:j<vars.length:=by rw[h.len];exact Ip b
  rw[wK i]
  simp [List.getD,l]
  exact n
 .have f:j≠k:=λe=>jE (EC (e▸d) b)
  rw[qJ (Ne.symm jE)]
  have:=h.val s j d
  simpa [List.getD,List.getElem?_set_ne (Ne.symm f)] using this
theorem zU.aeN {m:M}(h:zU m pv defs loc tmps)(b:idx t pv=some k)(x:Value):
  zU m pv defs loc (tmps.setIfInBounds t x):=by
 refine⟨h.apart,λs j d=>?_⟩
 have:t≠s:=λe=>by subst e;rw[h.apart t j d] at b;cases b
 rw[qJ this]
 exact h.val s j d
theorem jV.aeH {m:M}(h:jV m nt pv vars tmps)(b:idx t pv=none)(x:Value):
  jV m nt pv vars (tmps.setIfInBounds t x):=by
 refine⟨by simpa using h.size,h.len,h.lt,λs j d=>?_⟩
 have:t≠s:=λe=>by subst e;rw[d] at b;cases b
 rw[qJ this]
 exact h.val s j d
theorem zU.push {m:M}{nt:Nat}(h:zU m pv defs loc tmps)(o:idx t pv=none)(l:t<tmps.size)
    (n:VR m v x):zU m pv (t::defs) (v::loc) (tmps.setIfInBounds t x):=by
 have _:=nt
 refine⟨λs j d=>?_,λs j d=>?_⟩
 .simp only[idx] at d
  by_cases b:t=s
  .subst b;exact o
  .simp [b] at d
   obtain⟨i,f,rfl⟩:=d
   exact h.apart s i f
 .simp only[idx] at d
  by_cases b:t=s
  .subst b
   simp at d;subst d
   rw[wK l]
   exact n
  .simp [b] at d
   obtain⟨i,f,rfl⟩:=d
   rw[qJ b]
   exact h.val s i f
def Ob.rw:Ob->Bool
 | .cells ro _=>!ro
 |_=>true
def MX:E->Option Code
 | .norm=>none
 | .ret=>some .ret
 | .exit n=>some (.exit n)
def agK:LSt->LoopState
 | .ready=> .ready
 | .busy=> .busy
 | .done=> .done
 | .out=> .exhausted
structure Yt (P:Program)(m:M)(r:fR)(q:Loop):Prop where
 vars: ∃nt pv,jV m nt pv r.vars q.tmps/\kU P nt pv q.assign=some r.assign/\kU P nt pv q.body=some r.body/\
  dP (q.params.toList.map λt=>idx t pv)=some r.pars
 st:q.state=agK r.st
 pend:q.pending=r.pend.bind MX
 nn:r.pend≠some .norm
def OR (P:Program)(m:M)(o:Ob)(p:Nat×Nat×Nat)(w:World):Prop:=
 match o with
 | .cells ro vs=> ∃c elem fr,w.heap[p.1]? =some (.cells c elem fr)/\c.size=p.2.2/\p.2.1+vs.length<=p.2.2/\
   ((i:Nat)->(v:V)->vs[i]? =some v->v.one=true/\ ∃x,c[p.2.1+i]? =some x/\VR m v x)/\(ro=false->fr=(0,0))
 | .wmap sh es=>((i j:Nat)->(a b:V×V)->es[i]? =some a->es[j]? =some b->dM a.1 b.1=true->i=j)/\ ∃es' clock,w.heap[p.1]? =some (.map es' clock)/\es.length=es'.size/\clock=es'.size/\
   ∀(i:Nat) (k v:V),es[i]? =some (k,v)->isKey sh k=true/\ ∃e:MapEntry,es'[i]? =some e/\e.born=i/\VR m k e.key/\VR m v e.val
 | .loop r=> ∃q,w.heap[p.1]? =some (.loop q)/\Yt P m r q
theorem Yt.mono {m b:M}{r:fR}{q:Loop}(e:Ext m b)(h:Yt P m r q):Yt P b r q:=by
 have⟨⟨nt,pv,d,j⟩,i,l,f⟩:=h;exact⟨⟨nt,pv,d.mono e,j⟩,i,l,f⟩
theorem OR.mono {m B:M}{o:Ob}(e:Ext m B)(u:w'.heap[p.1]? =w.heap[p.1]?)(h:OR P m o p w):OR P B o p w':=by
 cases o with
 |cells ro vs=>
  have⟨c,el,fr,l,j,n,z,G⟩:=h;exact⟨c,el,fr,u.trans l,j,n,λi v y=>let ⟨a,x,b,c⟩:=z i v y;⟨a,x,b,VR.mono e _ _ c⟩,G⟩
 |wmap sh es=>
  have⟨F,A,f,l,j,n,z⟩:=h;exact⟨F,A,f,u.trans l,j,n,λi k v y=>let ⟨g,x,a,b,c,d⟩:=z i k v y;⟨g,x,a,b,VR.mono e _ _ c,VR.mono e _ _ d⟩⟩
 |loop r=>
  have⟨q,l,j⟩:=h;exact⟨q,u.trans l,j.mono e⟩
theorem OR.lt {m:M}{o:Ob}(h:OR P m o p w):p.1<w.heap.size:=by
 cases o with
 |cells ro vs=>have⟨c,el,fr,b,_⟩:=h;exact (Wq.1 b).1
 |wmap sh es=>have⟨_,c,el,b,_⟩:=h;exact (Wq.1 b).1
 |loop r=>have⟨q,b,_⟩:=h;exact (Wq.1 b).1
structure HR (P:Program)(m:M)(h:H)(w:World):Prop where
 live: ∀id o,h.get id=some o-> ∃p,m id=some p/\OR P m o p w
 inj: ∀i j oi oj pi pj,i≠j->h.get i=some oi->h.get j=some oj->oi.rw=true->m i=some pi->m j=some pj->pi.1≠pj.1
def iW (m:M)(n:Nat):Prop:=m n=none
def Lg (m:M)(n:Nat):Prop:= ∀id,n<=id->m id=none
theorem Lg.fresh {m:M}{n:Nat}(h:Lg m n):iW m n:=h n (eU _)
def LB (m:M)(h:H)(b:Nat):Prop:= ∃id o p,h.get id=some o/\m id=some p/\p.1=b
def FP (m:M)(h:H)(b:Nat):Prop:= ∃id o p,h.get id=some o/\o.rw=true/\m id=some p/\p.1=b
structure Kept (m:M)(h:H)(w w':World):Prop where
 os:w'.os=w.os
 tape:w'.tape=w.tape
 output:w'.output=w.output
 size:w.heap.size<=w'.heap.size
 block: ∀b,b<w.heap.size-> ¬FP m h b->w'.heap[b]? =w.heap[b]?
structure iZ (P:Program)(m:M)(h:H)(w:World)(m':M)(h':H)(w':World):Prop where
 ext:Ext m m'
 rel:HR P m' h' w'
 fresh: ∀id p,m' id=some p->m id=some p\/(h.next<=id/\id<h'.next)
 kept:Kept m h w w'
 fp: ∀b,FP m' h' b->FP m h b\/w.heap.size<=b
 next:h.next<=h'.next
 lb: ∀b,LB m' h' b->LB m h b\/w.heap.size<=b
 old: ∀id,id<h.next->h.get id=none->h'.get id=none
theorem iZ.low {m:M}{d:M}{h':H}(a:iZ P m h w d h' w')(l:Lg m h.next):Lg d h'.next:=λid f=>by
 cases hm:d id with
 |none=>rfl
 |some p=>
  exfalso;have i:=a.next;rcases a.fresh id p hm with b|⟨_,b⟩
  .rw[l id om] at b;cases b
  .omega
theorem iZ.Mo {m:M}(b:HR P m h w):iZ P m h w m h w:=
 ⟨Ext.refl m,b,λ_ _ h=> .inl h,⟨rfl,rfl,rfl,eU _,λ_ _ _=>rfl⟩,λ_ h=> .inl h,eU _,λ_ h=> .inl h,λ_ _ h=>h⟩
theorem iZ.refl {m:M}(b:HR P m h w)(_:iW m h.next):iZ P m h w m h w:=iZ.Mo b
theorem iZ.trans {m y f:M}{h' l:H}{j:World}(a:iZ P m h w y h' w')(b:iZ P y h' w' f l j):iZ P m h w f l j where
 ext:=a.ext.trans b.ext
 rel:=b.rel
 fresh:=λid p A=>by
  have z:=a.next;have u:=b.next;rcases b.fresh id p A with r|r
  .rcases a.fresh id p r with o|o
   .exact .inl o
   .exact .inr ⟨o.1,om⟩
  .exact .inr ⟨om,r.2⟩
 kept:={
  os:=b.kept.os.trans a.kept.os
  tape:=b.kept.tape.trans a.kept.tape
  output:=b.kept.output.trans a.kept.output
  size:=kP a.kept.size b.kept.size
  block:=λx d n=>by
   have z:=a.kept.block x d n;have u:=b.kept.block x (kQ d a.kept.size) (λq=>(a.fp x q).elim n (λB=>om))
   exact u.trans z}
 fp:=λx d=>(b.fp x d).elim (λh=>a.fp x h) (λh=> .inr (kP a.kept.size h))
 next:=kP a.next b.next
 lb:=λx d=>(b.lb x d).elim (λh=>a.lb x h) (λh=> .inr (kP a.kept.size h))
 old:=λid i n=>b.old id (kQ i a.next) (a.old id i n)
theorem iZ.drawn {P:Program}{m:M}{h:H}{w:World}(d:HR P m h w)(_:iW m h.next)(n:Nat):iZ P m h w m h {w with drawn:=n}:=
 ⟨Ext.refl m,⟨λid o f=>let ⟨p,a,b⟩:=d.live id o f;⟨p,a,OR.mono (w:=w) (Ext.refl m) rfl b⟩,d.inj⟩,λ_ _ h=> .inl h,⟨rfl,rfl,rfl,eU _,λ_ _ _=>rfl⟩,λ_ h=> .inl h,eU _,λ_ h=> .inl h,λ_ _ h=>h⟩
def M.set (m:M)(id:Nat)(p:Nat×Nat×Nat):M:=λi=>if i=id then some p else m i
theorem Ext.set {m:M}(h:m id=none):Ext m (m.set id p):=λi q b=>by
 unfold M.set;split
 .rename_i e;subst e;rw[h] at b;cases b
 .exact b
theorem iZ.new {m:M}(O:HR P m h w)(hf:iW m h.next)(o:Ob)(c:Obj)(q:Nat×Nat)
  (ho: ∀m',Ext m m'->m' h.next=some (w.heap.size,q)->OR P m' o (w.heap.size,q) (w.alloc c)):
  iZ P m h w (m.set h.next (w.heap.size,q)) (h.new o) (w.alloc c):=by
 have hn:m h.next=none:=hf
 have Y:Ext m (m.set h.next (w.heap.size,q)):=Ext.set hn
 have l:(m.set h.next (w.heap.size,q)) h.next=some (w.heap.size,q):=by simp [M.set]
 have n: ∀id z,(h.new o).get id=some z->(id=h.next/\z=o)\/(id≠h.next/\h.get id=some z):=λid z f=>by
  simp only[H.kG,H.aZ] at f
  by_cases hi:id=h.next
  .simp [hi] at f;exact .inl ⟨hi,f.symm⟩
  .simp [hi] at f;exact .inr ⟨hi,f⟩
 have d: ∀id,id≠h.next->(m.set h.next (w.heap.size,q)) id=m id:=λid hi=>by simp [M.set,hi]
 refine⟨Y,⟨λid z f=>?_,λi j U Q pi pj N hi K R A u=>?_⟩,?_,⟨rfl,rfl,rfl,siM,λb L _=>heap_alloc_old w c _ L⟩,λb L=>?_,by simp [H.kG,H.aZ],λb L=>?_,λid f W=>by
  simp only[H.kG,H.aZ]
  rw[bV om];exact W⟩
 .rcases n id z f with ⟨rfl,rfl⟩|⟨r,f⟩
  .exact⟨_,l,ho _ Y l⟩
  .obtain⟨p,F,y⟩:=O.live id z f
   exact⟨p,by rw[d id r];exact F,OR.mono Y (heap_alloc_old w c _ y.lt) y⟩
 .rcases n i U hi with ⟨rfl,rfl⟩|⟨r,hi⟩
  .rcases n j Q K with ⟨rfl,rfl⟩|⟨B,K⟩
   .exact absurd rfl N
   .rw[l] at A;cases A
    rw[d j B] at u
    obtain⟨p,F,y⟩:=O.live j Q K
    rw[u] at F;cases F
    have:=y.lt
    exact Nat.ne_of_gt this
  .rw[d i r] at A
   obtain⟨p,F,y⟩:=O.live i U hi
   rw[A] at F;cases F
   rcases n j Q K with ⟨rfl,rfl⟩|⟨B,K⟩
   .rw[l] at u;cases u
    exact Nat.ne_of_lt y.lt
   .rw[d j B] at u
    exact O.inj i j U Q pi pj N hi K R A u
 .intro id p F
  by_cases e:id=h.next
  .subst e;exact .inr ⟨eU _,by simp [H.kG,H.aZ]⟩
  .rw[d id e] at F;exact .inl F
 .obtain⟨id,z,p,J,Z,G,rfl⟩:=L
  rcases n id z J with ⟨rfl,rfl⟩|⟨r,J⟩
  .rw[l] at G;cases G;exact .inr (eU _)
  .rw[d id r] at G
   exact .inl ⟨id,z,p,J,Z,G,rfl⟩
 .obtain⟨id,z,p,J,G,rfl⟩:=L
  rcases n id z J with ⟨rfl,rfl⟩|⟨r,J⟩
  .rw[l] at G;cases G;exact .inr (eU _)
  .rw[d id r] at G
   exact .inl ⟨id,z,p,J,G,rfl⟩
theorem iZ.put {m:M}(N:HR P m h w)(_:iW m h.next){o o':Ob}
  (l:h.get id=some o) (r:o.rw=true) (a4:o'.rw=true) (B:m id=some p) (ho:OR P m o' p w')
  (h1:w'.os=w.os) (h2:w'.tape=w.tape) (h3:w'.output=w.output) (h4:w'.heap.size=w.heap.size) (h5: ∀b,b≠p.1->w'.heap[b]? =w.heap[b]?):
  iZ P m h w m (h.set id (some o')) w':=by
 have d: ∀i f,(h.set id (some o')).get i=some f->(i=id/\f=o')\/(i≠id/\h.get i=some f):=λi f hi=>by
  simp only[H.jD,H.dE] at hi
  by_cases e:i=id
  .simp [e] at hi;exact .inl ⟨e,hi.symm⟩
  .simp [e] at hi;exact .inr ⟨e,hi⟩
 have Z: ∀b,FP m (h.set id (some o')) b->FP m h b:=λb z=>by
  obtain⟨i,f,q,G,a2,A,rfl⟩:=z;rcases d i f G with ⟨rfl,rfl⟩|⟨_,G⟩
  .rw[B] at A;cases A;exact⟨i,o,_,l,r,B,rfl⟩
  .exact⟨i,f,q,G,a2,A,rfl⟩
 have a0: ∀b,LB m (h.set id (some o')) b->LB m h b:=λb z=>by
  obtain⟨i,f,q,G,A,rfl⟩:=z;rcases d i f G with ⟨rfl,rfl⟩|⟨_,G⟩
  .rw[B] at A;cases A;exact⟨i,o,_,l,B,rfl⟩
  .exact⟨i,f,q,G,A,rfl⟩
 refine⟨Ext.refl m,⟨λi f hi=>?_,λi j f R U Y u hi hj L y F=>?_⟩,λ_ _ h=> .inl h,⟨h1,h2,h3,om,λb _ O=>h5 b (λe=>O ⟨id,o,p,l,r,B,e.symm⟩)⟩,λb z=> .inl (Z b z),eU _,λb z=> .inl (a0 b z),λi _ O=>by
  simp only[H.jD,H.dE];split
  .rename_i e;subst e;rw[l] at O;cases O
  .exact O⟩
 .rcases d i f hi with ⟨rfl,rfl⟩|⟨K,n⟩
  .exact⟨p,B,ho⟩
  .obtain⟨q,hq,W⟩:=N.live i f n
   refine⟨q,hq,OR.mono (Ext.refl m) (h5 q.1 ?_) W⟩
   exact (N.inj id i o f p q (Ne.symm K) l n r B hq).symm
 .rcases d i f hi with ⟨rfl,rfl⟩|⟨K,n⟩
  .rcases d j R hj with ⟨rfl,rfl⟩|⟨Q,J⟩
   .exact absurd rfl u
   .exact N.inj i j o R U Y u l J r y F
  .rcases d j R hj with ⟨rfl,rfl⟩|⟨Q,J⟩
   .exact N.inj i j f o U Y u n l L y F
   .exact N.inj i j f R U Y u n J L y F
theorem iZ.ahO {m:M}(W:HR P m h w)(hf:iW m h.next){o o':Ob}{q:Nat×Nat×Nat}
  (y:h.get id=some o) (z:o.rw=true) (a7:o'.rw=true) (J:m id=some p) (Z:q.1=p.1) (ho: ∀m',Ext m m'->OR P m' o' q w')
  (h1:w'.os=w.os) (h2:w'.tape=w.tape) (h3:w'.output=w.output) (h4:w'.heap.size=w.heap.size) (h5: ∀b,b≠p.1->w'.heap[b]? =w.heap[b]?):
  iZ P m h w (m.set h.next q) ((h.set id none).new o') w':=by
 have hn:m h.next=none:=hf
 have he:Ext m (m.set h.next q):=Ext.set hn
 have K:id≠h.next:=λe=>by subst e;rw[hn] at J;cases J
 have d: ∀i,i≠h.next->(m.set h.next q) i=m i:=λi hi=>by simp [M.set,hi]
 have n:(m.set h.next q) h.next=some q:=by simp [M.set]
 have f: ∀i l,((h.set id none).new o').get i=some l->(i=h.next/\l=o')\/(i≠h.next/\i≠id/\h.get i=some l):=λi l hi=>by
  simp only[H.jD,H.dE,H.kG,H.aZ] at hi
  by_cases e:i=h.next
  .simp [e] at hi;exact .inl ⟨e,hi.symm⟩
  .by_cases e':i=id
   .simp [e',K] at hi
   .simp [e,e'] at hi;exact .inr ⟨e,e',hi⟩
 refine⟨he,⟨λi l hi=>?_,λi j l oj pi pj Q hi hj a0 A u=>?_⟩,?_,⟨h1,h2,h3,om,λb _ a6=>h5 b (λe=>a6 ⟨id,o,p,y,z,J,e.symm⟩)⟩,λb hb=>?_,by simp [H.kG,H.aZ,H.jD,H.dE],λb hb=>?_,λi U a4=>by
  have e:i≠h.next:=Nat.ne_of_lt U
  by_cases G:i=id
  .simp [H.kG,H.aZ,H.jD,H.dE,G,K]
  .simp [H.kG,H.aZ,H.jD,H.dE,e,G,a4]⟩
 .rcases f i l hi with ⟨rfl,rfl⟩|⟨L,G,B⟩
  .exact⟨q,n,ho _ he⟩
  .obtain⟨r,Y,a5⟩:=W.live i l B
   refine⟨r,by rw[d i L];exact Y,OR.mono he (h5 r.1 ?_) a5⟩
   exact (W.inj id i o l p r (Ne.symm G) y B z J Y).symm
 .rcases f i l hi with ⟨rfl,rfl⟩|⟨L,G,B⟩
  .rcases f j oj hj with ⟨rfl,rfl⟩|⟨e3,e4,O⟩
   .exact absurd rfl Q
   .rw[n] at A;cases A
    rw[d j e3] at u
    rw[Z]
    exact W.inj id j o oj p pj (Ne.symm e4) y O z J u
  .rw[d i L] at A
   rcases f j oj hj with ⟨rfl,rfl⟩|⟨e3,e4,O⟩
   .rw[n] at u;cases u
    rw[Z]
    exact (W.inj id i o l p pi (Ne.symm G) y B z J A).symm
   .rw[d j e3] at u
    exact W.inj i j l oj pi pj Q B O a0 A u
 .intro i p R
  by_cases e:i=h.next
  .subst e;exact .inr ⟨eU _,by simp [H.kG,H.aZ,H.jD,H.dE]⟩
  .rw[d i e] at R;exact .inl R
 .obtain⟨i,l,r,N,a2,F,rfl⟩:=hb
  rcases f i l N with ⟨rfl,rfl⟩|⟨L,G,N⟩
  .rw[n] at F;cases F;exact .inl ⟨id,o,p,y,z,J,Z.symm⟩
  .rw[d i L] at F;exact .inl ⟨i,l,r,N,a2,F,rfl⟩
 .obtain⟨i,l,r,N,F,rfl⟩:=hb
  rcases f i l N with ⟨rfl,rfl⟩|⟨L,G,N⟩
  .rw[n] at F;cases F;exact .inl ⟨id,o,p,y,J,Z.symm⟩
  .rw[d i L] at F;exact .inl ⟨i,l,r,N,F,rfl⟩
end
end Go.Ay
namespace Go.Ay
open Go
section
variable {v:Value} {u:V} {vs ws us:List V} {off n b:Nat} {c:Array Value} {elem t:TypeId} {fr:Nat×Nat}
section
variable {P:Program} {m:M} {h:H} {w:World}
theorem jA {α β:Type}{f:α->Option β}:{l:List α}->{r:List β}->dP (l.map f)=some r->r.length=l.length/\ ∀(i:Nat) (a:α),l[i]? =some a-> ∃b,r[i]? =some b/\f a=some b
 | [],r,h=>by simp [dP] at h;subst h;exact⟨rfl,λi a h=>by simp at h⟩
 |x::l,r,h=>by
  simp only[List.map_cons] at h
  cases hx:f x with
  |none=>simp [hx,dP] at h
  |some b=>
   simp only[hx,dP,oF] at h;obtain⟨o,j,rfl⟩:=h;obtain⟨k,d⟩:=jA j;refine⟨by simp [k],λi a hi=>?_⟩
   cases i with
   |zero=>simp at hi;subst hi;exact⟨b,rfl,hx⟩
   |succ i=>simpa using d i a (by simpa using hi)
theorem Dd (m:M)(h:Gh v=some u):VR m u v:=by
 unfold Gh at h;split at h<;>first
  |(cases h;rfl)
  |skip
 .rename_i s
  cases h;show Value.string s= .string ⟨((s.data.toList.map UInt8.toNat).map UInt8.ofNat).toArray⟩;rw[List.map_map,show (UInt8.ofNat∘UInt8.toNat)=id from funext λx=>by simp,List.map_id]
 .rename_i f first a
  split at h
  .rename_i d
   simp at d;cases h;obtain⟨rfl,rfl⟩:=d;exact⟨#[],#[],rfl,trivial,trivial⟩
  .cases h
 .cases h
theorem Hb (m:M)(h:Nr v=some u):VR m u v:=by
 unfold Nr at h;split at h
 .rename_i d
  simp only[oF] at h;obtain⟨r,p,rfl⟩:=h;obtain⟨q,o⟩:=jA p;refine⟨d,rfl,iQ.jM (by simpa using q) (λi v f=>?_)⟩
  have a:i<d.toList.length:=by
   have:=(rW.1 f).1;omega
  obtain⟨b,j,l⟩:=o i d.toList[i] (dC a);rw[f] at j;cases j;exact⟨_,dC a,Dd m l⟩
 .rename_i d
  split at h
  .rename_i k;simp at k;subst k;cases h;exact VR.undef m
  .cases h
 .exact Dd m h
theorem Jg (h:Gh v=some u):u.one=true:=by
 unfold Gh at h;split at h<;>first
  |(cases h;rfl)
  |skip
 .split at h<;>cases h
  rfl
 .cases h
theorem Hp (h:Nr v=some u)(q:u≠ .tup []): ∀c∈u.cells,c.one=true:=by
 unfold Nr at h;split at h
 .rename_i j
  simp only[oF] at h;obtain⟨r,p,rfl⟩:=h;obtain⟨f,o⟩:=jA p;intro c a;simp only[V.cells] at a;obtain⟨i,hi,rfl⟩:=List.getElem_of_mem a;have d:i<j.toList.length:=om
  obtain⟨b,k,l⟩:=o i j.toList[i] (dC d);rw[dC hi] at k;cases k;exact Jg l
 .split at h<;>cases h
  exact absurd rfl q
 .intro c a
  have f:=Jg h;cases u<;>simp [V.cells,V.one] at a f |- <;>subst a<;>rfl
structure St (m:M)(nt:Nat)(pv defs:List Nat)(vars loc:List V)(a:Act):Prop where
 vars:jV m nt pv vars a.tmps
 loc:zU m pv defs loc a.tmps
variable {nt:Nat} {pv defs:List Nat} {vars loc:List V} {a:Act}
theorem aT (s:St m nt pv defs vars loc a){o:Operand}{x:X}(h:iM pv defs o=some x):VR m (xv vars loc x) (a.eval o):=by
 cases o with
 |tmp t=>
  simp only[iM] at h
  cases hd:idx t defs with
  |some i=>simp only[hd] at h;cases h;exact s.loc.val t i hd
  |none=>
   simp only[hd,oF] at h;obtain⟨k,d,rfl⟩:=h;exact s.vars.val t k d
 |const v=>
  simp only[iM,oF] at h;obtain⟨u,j,rfl⟩:=h;exact Hb m j
 |global g=>simp [iM] at h
 |func f=>simp only[iM] at h;cases h;exact⟨#[],#[],rfl,trivial,trivial⟩
theorem rL (s:St m nt pv defs vars loc a){f:List Operand}{xs:List X}(h:Bh pv defs f=some xs):iQ m (xs.map (xv vars loc)) (f.map a.eval):=by
 obtain⟨q,p⟩:=jA h;refine iQ.jM (by simp [q]) (λi v j=>?_);simp only[Jj,oF] at j;obtain⟨x,l,rfl⟩:=j;have d:i<f.length:=by have:=(rW.1 l).1;omega
 obtain⟨b,k,o⟩:=p i f[i] (dC d);rw[l] at k;cases k;exact⟨_,by simp [d],aT s o⟩
theorem sub_eq (h:sub vs off n=some ws):ws=(vs.drop off).take n/\off+n<=vs.length/\ws.length=n:=by
 unfold sub at h;split at h
 .rename_i d;cases h;refine⟨rfl,d,?_⟩;simp;omega
 .cases h
theorem zE (q:HR P m h w){id:Nat}(d:h.row id off n=some ws):
  ∃p c elem fr,m id=some p/\w.heap[p.1]? =some (.cells c elem fr)/\c.size=p.2.2/\p.2.1+off+n<=c.size/\
   iQ m ws ((c.toList.drop (p.2.1+off)).take n)/\(∀v∈ws,v.one=true):=by
 unfold H.row at d
 split at d
 .rename_i A vs r
  obtain⟨rfl,s,z⟩:=sub_eq d
  obtain⟨p,l,c,elem,fr,y,o,B,k,F⟩:=q.live id _ r
  refine⟨p,c,elem,fr,l,y,o,om,iQ.jM siO (λi v f=>?_),λv f=>?_⟩
  .simp only[List.getElem?_take,List.getElem?_drop] at f |-
   split at f
   .rename_i hi
    obtain⟨_,x,j,f⟩:=k _ v f
    refine⟨x,?_,f⟩
    rw[bL hi]
    rw[<-Nat.add_assoc] at j
    simpa using j
   .cases f
  .obtain⟨i,hi,rfl⟩:=List.getElem_of_mem f
   have:=k (off+i) ((vs.drop off).take n)[i] (by
    rw[<-dC]
    .simp only[List.getElem?_take,List.getElem?_drop];rw[bL (by simp at hi;omega)]
     )
   exact this.1
 .cases d
theorem cell_of {w:World}(d:w.heap[b]? =some (.cells c elem fr))(o:Nat):w.cell? ⟨b,o,none⟩=c[o]? :=by
 simp [World.cell?,d]
theorem mE (b o j:Nat):(⟨b,o,none⟩:Addr).add j=⟨b,o+j,none⟩:=by unfold Addr.add;split<;>simp_all
theorem Ug {w:World}(f:w.heap[b]? =some (.cells c elem fr))(o n:Nat):
  ∀j v,((c.toList.drop o).take n)[j]? =some v->w.cell? ((⟨b,o,none⟩:Addr).add j)=some v:=by
 intro j v d
 rw[mE,cell_of f]
 simp only[List.getElem?_take,List.getElem?_drop] at d
 split at d
 .simpa using d
 .cases d
theorem lH {w:World}(f:w.heap[b]? =some (.cells c elem fr)){o:Nat}(i:o+n<=c.size):
  (loadCells ⟨b,o,none⟩ n).run P w= .ok ((c.toList.drop o).take n).toArray w:=by
 have:=run_loadCells_list (P:=P) w ⟨b,o,none⟩ ((c.toList.drop o).take n) (Ug f o n)
 have d:((c.toList.drop o).take n).length=n:=siO
 rw[d] at this
 exact this
theorem Cj {b:Bool}(h:Uz P t=some b):(isAgg t).run P w= .ok b w:=by
 unfold Uz at h;simp only[oF] at h;obtain⟨d,f,rfl⟩:=h;unfold isAgg;rw[Sem.run_bind,run_underlying f w];cases d<;>rfl
theorem iN (h:jN P t=some n):(sizeOf t).run P w= .ok n w:=by
 unfold jN at h;simp only[oF] at h;obtain⟨i,hi,rfl⟩:=h;simp [sizeOf,typeInfo,hi]
theorem Td (s:HR P m h w){agg:Bool}(o:Uz P t=some agg)(j:(if agg then jN P t else some 1)=some n)
  {v:V} {x:Value} (A:VR m v x) (f:ldV h agg n v=some u): ∃y,(Instr.loadAt t x).run P w= .ok y w/\VR m u y:=by
 cases v<;>simp only[ldV] at f<;>try cases f
 rename_i id off
 obtain⟨p,r,rfl⟩:=A
 cases hrow:h.row id off n with
 |none=>simp [hrow] at f
 |some ws=>
  simp only[hrow] at f;obtain⟨B,c,elem,fr,i,l,z,k,d,_⟩:=zE s hrow;rw[r] at i;cases i
  cases agg with
  |true=>
   simp only[if_true] at f j;cases f;refine⟨_,?_,⟨_,rfl,d⟩⟩;simp [Instr.loadAt,Instr.sureAddr,loadVar,Cj o,iN j,lH l k]
  |false=>
   simp only[Bool.false_eq_true,if_false] at f j;cases j;split at f
   .cases f
    rename_i v
    cases hl:(c.toList.drop (p.2.1+off)).take 1 with
    |nil=>rw[hl] at d;exact d.elim
    |cons y ys=>
     rw[hl] at d;refine⟨y,?_,d.1⟩;have q:=Ug l (p.2.1+off) 1 0 y (by rw[hl];rfl);rw[mE,Nat.add_zero] at q;simp [Instr.loadAt,Instr.sureAddr,loadVar,Cj o,q]
   .cases f
theorem Cm (h:putAt vs off ws=some us):us=vs.take off++ws++vs.drop (off+ws.length)/\off+ws.length<=vs.length:=by
 unfold putAt at h;split at h
 .cases h;exact⟨rfl,by assumption⟩
 .cases h
theorem Qx (h:putAt vs off ws=some us):us.length=vs.length:=by
 obtain⟨rfl,d⟩:=Cm h;simp;omega
theorem GN (h:putAt vs off ws=some us)(i:Nat):
  us[i]? =if i<off then vs[i]? else if i<off+ws.length then ws[i-off]? else vs[i]? :=by
 obtain⟨rfl,k⟩:=Cm h
 have j:(vs.take off).length=off:=siO
 by_cases d:i<off
 .rw[bL d,pJ,wU om,List.getElem?_take,bL d]
 .rw[bV d]
  by_cases f:i<off+ws.length
  .rw[bL f,pJ,zT om,j,wU om]
  .rw[bV f,zT siO,List.getElem?_drop]
   congr 1
   simp;omega
theorem Kq (c:Array Value)(o:Nat)(xs:List Value)(k:o+xs.length<=c.size)(i:Nat):
  ((c.toList.take o++xs++c.toList.drop (o+xs.length)).toArray)[i]? =if i<o then c[i]? else if i<o+xs.length then xs[i-o]? else c[i]? :=by
 simp only[List.getElem?_toArray]
 have j:(c.toList.take o).length=o:=siO
 by_cases d:i<o
 .rw[bL d,pJ,wU om,List.getElem?_take,bL d];simp
 .rw[bV d]
  by_cases f:i<o+xs.length
  .rw[bL f,pJ,zT om,j,wU om]
  .rw[bV f,zT siO,List.getElem?_drop]
   have:o+xs.length+(i-(c.toList.take o++xs).length)=i:=siO
   rw[this];simp
theorem Bt (c:Array Value)(o:Nat)(xs:List Value)(d:o+xs.length<=c.size):((c.toList.take o++xs++c.toList.drop (o+xs.length)).toArray).size=c.size:=by
 simp;omega
theorem zD (L:HR P m h w)(Y:iW m h.next){id:Nat}{xs:List Value}{h':H}(o:h.put id off ws=some h')(A:iQ m ws xs)(F: ∀v∈ws,v.one=true)
  {p:Nat×Nat×Nat} (N:m id=some p): ∃w',(storeCells ⟨p.1,p.2.1+off,none⟩ xs).run P w= .ok () w'/\iZ P m h w m h' w':=by
 unfold H.put at o
 split at o
 .rename_i vs B
  simp only[oF] at o
  obtain⟨us,f,rfl⟩:=o
  obtain⟨p',l,c,elem,fr,O,W,e3,Q,R⟩:=L.live id _ B
  rw[N] at l;cases l
  have s:=R rfl
  subst s
  obtain⟨_,a0⟩:=Cm f
  have G:=iQ.length A
  have z: ∀x∈xs,x.oneCell'=true:=by
   intro x Z;obtain⟨i,hi,rfl⟩:=List.getElem_of_mem Z;have k:i<ws.length:=om
   obtain⟨y,q,j⟩:=A.get (dC k);rw[dC hi] at q;cases q;exact j.one (F _ (pN k))
  have jE:=run_storeCells_at P p.1 (p.2.1+off) elem xs 0 c w O om z
  simp only[Nat.add_zero] at jE
  refine⟨_,jE,?_⟩
  have U:=setRow_heap w p.1 c (c.toList.take (p.2.1+off)++xs++c.toList.drop (p.2.1+off+xs.length)).toArray elem (0,0) O
  refine iZ.put L Y B rfl rfl N ⟨_,elem,(0,0),U,?_,?_,λi v d=>?_,λ_=>rfl⟩ rfl rfl rfl siM (λb r=>setRow_other w p.1 b _ r)
  .rw[Bt _ _ _ om];exact W
  .rw[Qx f];exact e3
  .rw[GN f] at d
   rw[Kq _ _ _ om]
   by_cases J:i<off
   .rw[bL J] at d;rw[bL om];exact Q i v d
   .rw[bV J] at d
    by_cases K:i<off+ws.length
    .rw[bL K] at d
     rw[bV om,bL om]
     obtain⟨y,q,j⟩:=A.get d
     refine⟨F v (Oc d),y,?_,j⟩
     rw[show p.2.1+i-(p.2.1+off)=i-off from om];exact q
    .rw[bV K] at d
     rw[bV om,bV om]
     exact Q i v d
 .cases o
theorem uY (s:HR P m h w)(q:iW m h.next){xs:List Value}(l:List Value)(o:iQ m ws xs)(x: ∀v∈ws,v.one=true)(elem:TypeId):
  iZ P m h w (m.set h.next (w.heap.size,0,xs.length+l.length)) (h.new (.cells false ws)) (w.alloc (.cells (xs++l).toArray elem)):=by
 have f:=iQ.length o
 refine iZ.new s q _ _ _ (λz r _=>⟨_,elem,(0,0),heap_alloc_new w _,siM,by simp [f],λi v d=>?_,λ_=>rfl⟩)
 refine⟨x v (Oc d),?_⟩
 obtain⟨y,p,k⟩:=o.get d
 refine⟨y,?_,VR.mono r _ _ k⟩
 have j:i<xs.length:=(rW.1 p).1
 simp only[Nat.zero_add,List.getElem?_toArray]
 rw[wU j];exact p
end
end
end Go.Ay
namespace Go.Ay
open Go
section
variable {v:V} {x:Value} {k:IntKind}
def Yields (P:Program)(o:Oper)(a:Act)(w:World)(x:Value)(w':World):Prop:=
 (execOp a.eval o).run P w= .ok (.value x) w'\/((execOp a.eval o).run P w= .ok .skip w'/\x=undef)
section
variable {P:Program} {m:M} {h:H} {w:World}
def bF (P:Program)(m:M)(h:H)(w:World)(s:Sem Value)(v:V)(h':H):Prop:=
 ∃x w' m',s.run P w= .ok x w'/\VR m' v x/\iZ P m h w m' h' w'
theorem bF.still (c:HR P m h w)(b:iW m h.next){s:Sem Value}(a:s.run P w= .ok x w)(h2:VR m v x):bF P m h w s v h:=
 ⟨x,w,m,a,h2,iZ.refl c b⟩
theorem Ur {op:BinOp}{a b:Int}(c:arith op k a b=some v)(t:TypeId): ∃x,(binOp op t (.int k a) (.int k b)).run P w= .ok x w/\VR m v x:=by
 cases op<;>simp only[arith] at c<;>first
  |(cases c;done)
  |(cases c;exact⟨_,by simp [binOp,Op.intArith,Op.intCmp,Op.intBits];done,rfl⟩)
  |(split at c
    .cases c
    .rename_i d
     cases c
     exact⟨_,by simp [binOp,Op.intDiv,d],rfl⟩)
theorem Yw {op:BinOp}{a b:Int}{j:IntKind}(c:Bn op k a b=some v)(t:TypeId): ∃x,(binOp op t (.int k a) (.int j b)).run P w= .ok x w/\VR m v x:=by
 unfold Bn at c;split at c
 .cases c
 .rename_i d
  cases op<;>simp only at c<;>first
   |(cases c;done)
   |(cases c;exact⟨_,by simp [binOp,Op.shift,d],rfl⟩)
theorem Hi (op:BinOp)(t:TypeId)(x y:Operand)(k:IntKind)(a:Int)(b:Value):(eqGuard op t x y (.int k a) b).run P w= .ok () w:=by
 unfold eqGuard;cases op<;>simp
theorem Qt (op:BinOp)(t:TypeId)(x y:Operand)(a:Bool)(b:Value):(eqGuard op t x y (.bool a) b).run P w= .ok () w:=by
 unfold eqGuard;cases op<;>simp
theorem tV (op:BinOp)(t:TypeId)(x y:Operand)(a:Option Addr)(n c:Nat)(b:Value):(eqGuard op t x y (.slice a n c) b).run P w= .ok () w:=by
 unfold eqGuard;cases op<;>simp
theorem VR.int {n:Int}(h:VR m (.int k n) x):x= .int k n:=h
theorem rX {n:Nat}(b:VR m v x)(d:vT v=some n): ∃a c,x= .slice a n c:=by
 cases v<;>simp only[vT] at d<;>try cases d
 .obtain⟨p,c,f,_,rfl,_⟩:=b;exact⟨_,_,rfl⟩
 .exact⟨none,0,b⟩
 .exact⟨some _,0,b⟩
theorem Gw (z:HR P m h w){n sz:Nat}{ws:List V}(i:VR m v x)(o:vT v=some n)(a:h.slice sz v=some ws):
  ∃xs:List Value,(∀d,(Builtin.firstCells sz n x).run P {w with drawn:=d}= .ok xs.toArray {w with drawn:=d})/\iQ m ws xs/\(∀u∈ws,u.one=true)/\xs.length=n*sz:=by
 cases v<;>simp only[vT] at o<;>try cases o
 .rename_i id y F
  simp only[H.slice] at a
  obtain⟨p,c,q,fr,s,A,_,l,f,B⟩:=zE z a
  obtain⟨K,G,J,b,rfl,_,t,_⟩:=i
  rw[s] at b;cases b
  by_cases j:0<n
  .obtain rfl:=t j
   exact⟨_,λd=>lH (w:={w with drawn:=d}) A l,f,B,siO⟩
  .obtain rfl:n=0:=om
   have r:ws= []:=Yl (by rw[iQ.length f];simp)
   subst r
   exact⟨[],λd=>by simp only[Builtin.firstCells,Nat.zero_mul,loadCells,loadCellsFrom];rfl,trivial,siM,siM⟩
 .simp only[H.slice] at a
  cases a
  obtain rfl:x= .slice none 0 0:=i
  exact⟨[],λd=>by simp [Builtin.firstCells],trivial,siM,siM⟩
 .simp only[H.slice] at a
  cases a
  obtain rfl:x= .slice (some _) 0 0:=i
  exact⟨[],λd=>by simp only[Builtin.firstCells,Nat.zero_mul,loadCells,loadCellsFrom];rfl,trivial,siM,siM⟩
theorem JO {n:Int}{y:Nat}{a:BoundsCode}(c:0<=n)(b:n<=y):(Instr.sliceBound (.int k n) y a).run P w= .ok n.toNat w:=by
 simp [Instr.sliceBound,asIntOf,c,b]
def QK (m:M)(o:Option V)(x:Option Value):Prop:=match o,x with|none,none=>True|some v,some x=>VR m v x|_,_=>False
def Zi (xo:Option Value)(d top:Nat)(code:BoundsCode):Sem Nat:=match xo with|some v=>Instr.sliceBound v top code|none=>pure d
theorem pU {o:Option V}{f:Option Value}(i:QK m o f){d c r:Nat}(a:kT o d c=some r)(b:BoundsCode):
  (Zi f d c b).run P w= .ok r w:=by
 cases o with
 |none=>
  cases f with
  |none=>simp only[kT] at a;cases a;rfl
  |some x=>exact i.elim
 |some v=>
  cases f with
  |none=>exact i.elim
  |some x=>
   cases v<;>simp only[kT] at a<;>try cases a
   rename_i k n;split at a
   .rename_i j
    cases a;obtain rfl:x= .int k n:=i;exact JO j.1 j.2
   .cases a
theorem oU {a d:Option Value}{len c l hh:Nat}(b:(Zi d len c .sliceAcap).run P w= .ok hh w)(r2:(Zi a 0 hh .sliceB).run P w= .ok l w):
  (Instr.sliceBounds true len c a d none).run P w= .ok (l,hh,c) w:=by
 cases d with
 |none=>
  cases a with
  |none=>simp only[Zi,Sem.run_pure] at b r2;cases b;cases r2;simp [Instr.sliceBounds]
  |some y=>simp only[Zi,Sem.run_pure] at b r2;cases b;simp [Instr.sliceBounds,r2]
 |some z=>
  cases a with
  |none=>simp only[Zi,Sem.run_pure] at b r2;cases r2;simp [Instr.sliceBounds,b]
  |some y=>simp only[Zi] at b r2;simp [Instr.sliceBounds,b,r2]
theorem yW {o:Option V}{d b r:Nat}(a:kT o d b=some r)(c:d<=b):r<=b:=by
 unfold kT at a;split at a
 .cases a;exact c
 .split at a
  .rename_i f;cases a;omega
  .cases a
 .cases a
theorem II (A:HR P m h w)(z:iW m h.next){t e:TypeId}{sz:Nat}(s:P.underlying t=some (.slice e))(hs:jN P e=some sz)
  {u:V}  {B hi O:Option V} {J L i:Option Value} (hx:VR m v x) (r:QK m B J) (o:QK m hi L) (F:QK m O i) (a:pI sz v B hi O=some u):
  bF P m h w (Instr.sliceAt t x J L i) u h:=by
 have f:=iN (w:=w) hs
 cases v<;>simp only[pI] at a<;>try cases a
 .rename_i id a0 len U
  obtain⟨p,c,q,G,rfl,Z,ho,d⟩:=hx
  cases O with
  |some _=>cases a
  |none=>
   cases i with
   |some _=>exact F.elim
   |none=>
    cases U with
    |kn k=>
     simp only at d a;obtain⟨d,rfl⟩:=d;subst d
     cases ehh:kT hi len c with
     |none=>simp [ehh] at a
     |some hh=>
      simp only[ehh] at a
      cases el:kT B 0 hh with
      |none=>simp [el] at a
      |some l=>
       simp only[el] at a;have N:=yW ehh Z;have Q:=yW el (fE _);have j:=oU (P:=P) (w:=w) (pU o ehh .sliceAcap) (pU r el .sliceB);split at a
       .cases a
        by_cases b:c=l
        .rw[bL b]
         refine⟨.slice (some ⟨p.1,p.2.1+q,none⟩) (hh-l) (c-l),w,m,?_,⟨p,_,_,G,rfl,om,λ_=>rfl,rfl,rfl⟩,iZ.refl A z⟩;simp only[Instr.sliceAt,Sem.run_bind,run_underlying s,Result.andThen_ok,Instr.slice,j,f,Sem.run_pure,bL b]
        .rw[bV b]
         refine⟨.slice (some ⟨p.1,p.2.1+(q+l*sz),none⟩) (hh-l) (c-l),w,m,?_,⟨p,_,_,G,rfl,om,λ_=>rfl,rfl,rfl⟩,iZ.refl A z⟩;simp only[Instr.sliceAt,Sem.run_bind,run_underlying s,Result.andThen_ok,Instr.slice,j,f,Sem.run_pure,bV b,Option.map_some,mE,Nat.add_assoc]
       .cases a
    |un e=>
     simp only at d a
     cases ehh:kT hi len len with
     |none=>simp [ehh] at a
     |some hh=>
      simp only[ehh] at a
      cases el:kT B 0 hh with
      |none=>simp [el] at a
      |some l=>
       simp only[el] at a;have N:=yW ehh (eU _);have Q:=yW el (fE _)
       have W:kT hi len c=some hh:=by
        cases hi with
        |none=>exact ehh
        |some y=>
         cases y<;>simp only[kT] at ehh |- <;>try cases ehh
         rename_i k n;split at ehh
         .rename_i hc;cases ehh
          rw[bL ⟨hc.1,om⟩]
         .cases ehh
       have j:=oU (P:=P) (w:=w) (pU o W .sliceAcap) (pU r el .sliceB)
       by_cases K:e=sz
       .subst K
        rw[bL rfl] at a
        by_cases hl:l<len
        .rw[bL hl] at a
         cases a;have b:c≠l:=om
         obtain rfl:=ho om;refine⟨.slice (some ⟨p.1,p.2.1+(q+l*e),none⟩) (hh-l) (c-l),w,m,?_,⟨p,_,_,G,rfl,om,λ_=>rfl,?_⟩,iZ.refl A z⟩
         .simp only[Instr.sliceAt,Sem.run_bind,run_underlying s,Result.andThen_ok,Instr.slice,j,f,Sem.run_pure,bV b,Option.map_some,mE,Nat.add_assoc]
         .simp only
          have:(c-l)*e+l*e=c*e:=by rw[<-Nat.add_mul];congr 1;omega
          omega
        .rw[bV hl] at a
         cases a;obtain rfl:hh=l:=om
         by_cases b:c=hh
         .refine⟨.slice (some ⟨p.1,p.2.1+q,none⟩) (hh-hh) (c-hh),w,m,?_,⟨p,_,q,G,by rw[Nat.sub_self],om,λh=>om,?_⟩,iZ.refl A z⟩
          .simp only[Instr.sliceAt,Sem.run_bind,run_underlying s,Result.andThen_ok,Instr.slice,j,f,Sem.run_pure,bL b]
          .simp only
           have:(c-hh)*e<=c*e:=Nat.mul_le_mul_right _ om;omega
         .refine⟨.slice (some ⟨p.1,p.2.1+(q+hh*e),none⟩) (hh-hh) (c-hh),w,m,?_,⟨p,_,q+hh*e,G,by rw[Nat.sub_self],om,λh=>om,?_⟩,iZ.refl A z⟩
          .simp only[Instr.sliceAt,Sem.run_bind,run_underlying s,Result.andThen_ok,Instr.slice,j,f,Sem.run_pure,bV b,Option.map_some,mE,Nat.add_assoc]
          .simp only
           have:(c-hh)*e+hh*e=c*e:=by rw[<-Nat.add_mul];congr 1;omega
           omega
       .rw[bV K] at a;cases a
 .cases O with
  |some _=>simp at a
  |none=>
   cases i with
   |some _=>exact F.elim
   |none=>
    obtain rfl:x= .slice none 0 0:=hx
    cases ehh:kT hi 0 0 with
    |none=>simp [ehh] at a
    |some hh=>
     simp only[ehh] at a
     cases el:kT B 0 hh with
     |none=>simp [el] at a
     |some l=>
      simp only[el] at a;cases a;have j:=oU (P:=P) (w:=w) (pU o ehh .sliceAcap) (pU r el .sliceB);have Y:hh=0:=by have:=yW ehh (eU _);omega
      subst Y;have R:l=0:=by have:=yW el (eU _);omega
      subst R;refine bF.still A z (x:= .slice none 0 0) ?_ rfl;simp [Instr.sliceAt,run_underlying s,Instr.slice,j,f]
end
end
end Go.Ay
namespace Go.Ay
open Go
section
variable {e t u:TypeId} {ns:List Value} {n k:Nat} {i:TypeInfo} {z y:Value}
section
variable {P:Program} {m:M} {h:H} {w:World}
theorem Su {s b:Nat}(c:jN P e=some s)(d:Ea P e=some b): ∃i,P.info? e=some i/\i.size=s/\i.bytes=b:=by
 unfold jN Ea at*;simp only[oF] at*;obtain⟨i,hi,rfl⟩:=c;obtain⟨j,a,rfl⟩:=d;rw[hi] at a;cases a;exact⟨i,hi,rfl,rfl⟩
theorem Cy {s:Nat}(h:Ya P e s=true): ∃i z,P.info? e=some i/\i.zero=some z/\z.cells.size=s:=by
 unfold Ya at h
 cases hi:P.info? e with
 |none=>simp [hi] at h
 |some i=>
  cases hz:i.zero with
  |none=>simp [hi,hz] at h
  |some z=>simp [hi,hz] at h;exact⟨i,z,rfl,hz,h⟩
theorem Hn (z:Array Value)(n:Nat):(Builtin.zeroCells z n).size=n*z.size:=by simp [Builtin.zeroCells]
theorem BF (A:HR P m h w)(p:iW m h.next){xs l:List V}{c:List Value}(B:iQ m xs c)(x:iQ m l ns)(o: ∀v∈xs,v.one=true)(j: ∀v∈l,v.one=true)
  {sz a:Nat} (s:c.length=n*sz) (F:ns.length=k*sz) (f:n+k<=a) {z:Array Value} (K:z.size=sz) (b:TypeId) (d:Nat):
  ∃m',VR m' (.sl h.next 0 (n+k) (.un sz)) (.slice (some ⟨w.heap.size,0,none⟩) (n+k) a)/\
   iZ P m h w m' (h.new (.cells false (xs++l))) (({w with drawn:=d}:World).alloc (.cells (c.toArray++ns.toArray++Builtin.zeroCells z (a-(n+k))) b)):=by
 have q:=iZ.drawn A p d
 have r:=uY (w:={w with drawn:=d}) q.rel p (Builtin.zeroCells z (a-(n+k))).toList (B.append x) (by
  intro v J;rcases jO.1 J with h|h
  .exact o v h
  .exact j v h) b
 have G:(c++ns++(Builtin.zeroCells z (a-(n+k))).toList).toArray=c.toArray++ns.toArray++Builtin.zeroCells z (a-(n+k)):=by
  apply Array.toList_inj.1;simp
 rw[G] at r
 refine⟨_,⟨(w.heap.size,0,c.length+ns.length+(Builtin.zeroCells z (a-(n+k))).size),a,0,by simp [M.set],rfl,f,λ_=>rfl,?_⟩,q.trans r⟩
 simp only[Hn,K,s,F]
 have:a*sz=(n*sz+k*sz)+(a-(n+k))*sz:=by rw[<-Nat.add_mul,<-Nat.add_mul];congr 1;omega
 omega
structure afA (P:Program)(w:World)(u:TypeId)(elem:TypeId)(i:TypeInfo)(z:Value)(k:Nat)(y:Value)(ns:List Value):Prop where
 len:ns.length=k*i.size
 run:(∃e',P.underlying u=some (.slice e')/\(Builtin.lenOf y).run P w= .ok k w/\ ∀d,(Builtin.firstCells i.size k y).run P {w with drawn:=d}= .ok ns.toArray {w with drawn:=d})\/
  (∃kk,P.underlying u=some (.int kk)/\y= .int .i64 (k:Int)/\(k:Int)*i.bytes<=2^48/\(k:Int)<2^62/\(k*i.size≠0->ns.toArray=Builtin.zeroCells z.cells k))
theorem wrap_small (h:(n:Int)<2^62):IntKind.i64.wrap n=n:=by
 unfold IntKind.wrap;simp only[IntKind.bits,IntKind.signed];have:(n:Int)%2^64=n:=Int.emod_eq_of_lt om om;simp only[this];rw[bV];simp;omega
theorem yI {ty:TypeId}(v:P.underlying t=some (.slice e))(hi:P.info? e=some i)(F:i.zero=some z)
  {base:Option Addr} {c:Nat}   (l:afA P w u e i z k y ns) (f:n+k<=c) {w':World}
  (j:match base with|some a=>(storeCells (a.add (n*i.size)) ns).run P w= .ok () w'|none=>w'=w):
  (Builtin.append_ #[t,u] ty #[.slice base n c,y]).run P w= .ok (.slice base (n+k) c) w':=by
 rcases l.run with ⟨K,s,q,o⟩|⟨J,s,rfl,G,b,A⟩
 .have B:=o w.drawn
  cases base with
  |none=>simp only at j;subst j;simp [Builtin.append_,run_underlying v,run_underlying s,sizeOf,typeInfo,hi,q,B,f]
  |some a=>simp only at j;simp [Builtin.append_,run_underlying v,run_underlying s,sizeOf,typeInfo,hi,q,B,f,j]
 .have p: ¬((k:Int)<0):=om
  have x: ¬(281474976710656<(k:Int)*i.bytes):=om
  by_cases d:k*i.size=0
  .have r:ns= []:=Yl (by rw[l.len,d])
   subst r
   cases base with
   |none=>simp only at j;subst j;simp [Builtin.append_,run_underlying v,run_underlying s,sizeOf,typeInfo,hi,asInt,asIntOf,wrap_small b,p,x,f,d]
   |some a=>simp only at j;simp [Builtin.append_,run_underlying v,run_underlying s,sizeOf,typeInfo,hi,asInt,asIntOf,wrap_small b,p,x,f,d,j]
  .have r:=A d
   cases base with
   |none=>simp only at j;subst j;simp [Builtin.append_,run_underlying v,run_underlying s,sizeOf,typeInfo,zeroValue,hi,F,asInt,asIntOf,wrap_small b,p,x,f,d]
   |some a=>
    have:(Builtin.zeroCells z.cells k).toList=ns:=by rw[<-r]
    simp only at j;simp [Builtin.append_,run_underlying v,run_underlying s,sizeOf,typeInfo,zeroValue,hi,F,asInt,asIntOf,wrap_small b,p,x,f,d,this,j]
theorem Uu {ty:TypeId}(F:P.underlying t=some (.slice e))(hi:P.info? e=some i)(N:i.zero=some z)
  {base:Option Addr} {c:Nat}  {J:List Value} (f:afA P w u e i z k y ns) (K: ∀d,(Builtin.firstCells i.size n (.slice base n c)).run P {w with drawn:=d}= .ok J.toArray {w with drawn:=d})
  (G:c<n+k) (R:(2*(n+k)+1000)*i.bytes<=2^48) (W:n+k<2^62):
  ∃cap d,n+k<=cap/\(Builtin.append_ #[t,u] ty #[.slice base n c,y]).run P w= .ok (.slice (some ⟨w.heap.size,0,none⟩) (n+k) cap)
   (({w with drawn:=d}:World).alloc (.cells (J.toArray++ns.toArray++Builtin.zeroCells z.cells (cap-(n+k))) e)):=by
 have b: ¬(Builtin.nextslicecap (n+k) c*i.bytes>2^48):=by
  have Z:=nextslicecap_le G;have O:Builtin.nextslicecap (n+k) c*i.bytes<=(2*(n+k)+1000)*i.bytes:=Nat.mul_le_mul_right _ om;omega
 have a:(Question.appendCap (n+k) c e).forced=false:=rfl
 have s: ¬(9223372036854775807<(n:Int)+(k:Int)):=om
 have l:IntKind.i64.max=9223372036854775807:=deC
 refine⟨(Question.appendCap (n+k) c e).cut (w.tape w.drawn (.appendCap (n+k) c e)),w.drawn+1,by simp [Question.cut],?_⟩
 have j: ¬(n+k<=c):=om
 have B:(Builtin.firstCells i.size n (.slice base n c)).run P w.drew= .ok J.toArray w.drew:=K (w.drawn+1)
 rcases f.run with ⟨e',A,x,o⟩|⟨Y,A,rfl,U,q,L⟩
 .have O:(Builtin.firstCells i.size k y).run P w.drew= .ok ns.toArray w.drew:=o (w.drawn+1)
  simp [Builtin.append_,run_underlying F,run_underlying A,sizeOf,typeInfo,zeroValue,hi,N,x,j,s,l,b,a,B,O,newRow]
  congr 2
  apply Array.toList_inj.1
  simp
 .have v: ¬((k:Int)<0):=om
  have Q: ¬(281474976710656<(k:Int)*i.bytes):=om
  by_cases p:k*i.size=0
  .have r:ns= []:=Yl (by rw[f.len,p])
   subst r
   simp [Builtin.append_,run_underlying F,run_underlying A,sizeOf,typeInfo,zeroValue,hi,N,asInt,asIntOf,wrap_small q,v,Q,j,s,l,b,a,B,newRow,p]
  .have r:=L p
   simp [Builtin.append_,run_underlying F,run_underlying A,sizeOf,typeInfo,zeroValue,hi,N,asInt,asIntOf,wrap_small q,v,Q,j,s,l,b,a,B,newRow,p,r]
theorem JX (hr:HR P m h w)(hf:iW m h.next){sz bytes:Nat}(ht:P.underlying t=some (.slice e))(hi:P.info? e=some i)(hz:i.zero=some z)
  (hs:i.size=sz) (hb:i.bytes=bytes) (c8:z.cells.size=sz) {v r:V} {x:Value}  {U:List V}  {h':H} (R:VR m v x) (hy:iQ m U ns) (Y: ∀v∈U,v.one=true)
  (a:afA P w u e i z k y ns) (A:zL h sz bytes v k U=some (r,h')) (ty:TypeId):
  bF P m h w (Builtin.append_ #[t,u] ty #[x,y]) r h':=by
 subst hs
 subst hb
 unfold zL at A
 split at A
 .rename_i n xs hn c0
  obtain⟨os,d3,b9,c1,c5⟩:=Gw hr R hn c0
  obtain⟨Z,c,rfl⟩:=rX R hn
  have a6:U.length=k*i.size:=(iQ.length hy).trans a.len
  split at A
  .rename_i hk
   cases A
   subst hk
   have b5:ns= []:=Yl (by rw[a.len];simp)
   subst b5
   have c4:n+0<=c:=by
    cases v<;>simp only[vT] at hn<;>try cases hn
    .have⟨p,c',K,_,N,c4,_⟩:=R;cases N;omega
    .cases R;omega
    .cases R;omega
   refine bF.still hr hf (yI ht hi hz a c4 (w':=w) ?_) R
   cases Z<;>simp [storeCells]
  .split at A
   .rename_i d8 a4
    have grow:c<n+k-> ∀(hh:H),hh=h.new (.cells false (xs++U))->bF P m h w (Builtin.append_ #[t,u] ty #[.slice Z n c,y]) (.sl h.next 0 (n+k) (.un i.size)) hh:=by
     intro c7 hh d5;subst d5;obtain⟨c3,d,s,b6⟩:=Uu ht hi hz a d3 c7 a4.1 a4.2 (ty:=ty);obtain⟨m',h1,h2⟩:=BF hr hf b9 hy c1 Y c5 a.len s c8 e d;exact⟨_,_,m',b6,h1,h2⟩
    cases v<;>simp only[vT] at hn<;>try cases hn
    .rename_i id d2 c3
     have⟨p,c',K,hp,N,d9,ho,s⟩:=R
     cases N
     cases c3 with
     |kn c2=>
      simp only at s A;obtain⟨s,rfl⟩:=s;subst s;split at A
      .rename_i f
       cases hput:h.put id (K+n*i.size) U with
       |none=>simp [hput] at A
       |some h2=>
        simp only[hput] at A;cases A;obtain⟨w',jE,b0⟩:=zD hr hf hput hy Y hp;refine⟨_,w',m,yI ht hi hz a f (w':=w') ?_,⟨p,_,_,hp,rfl,f,λ_=>rfl,rfl,rfl⟩,b0⟩;simp only;rw[mE,Nat.add_assoc];exact jE
      .rename_i f
       cases A;exact grow om _ rfl
     |un e2=>
      simp only at s A;split at A
      .rename_i vs hg
       split at A
       .rename_i c9
        subst c9;cases A
        by_cases f:n+k<=c
        ·--in place
         obtain⟨p',a8,cc,O,fr,e1,c6,e3,e4,e5⟩:=hr.live id _ hg;rw[hp] at a8;cases a8;have d0:=e5 rfl;subst d0
         have d1: ∀x∈ns,x.oneCell'=true:=by
          intro x R;obtain⟨j,G,rfl⟩:=List.getElem_of_mem R;have b7:j<U.length:=by rw[iQ.length hy];exact G
          obtain⟨y',Q,a7⟩:=hy.get (dC b7);rw[dC G] at Q;cases Q;exact a7.one (Y _ (pN b7))
         have d6:(n+k)*i.size<=c*i.size:=Nat.mul_le_mul_right _ f;have d4:(n+k)*i.size=n*i.size+k*i.size:=Nat.add_mul _ _ _;have L:p.2.1+K+n*i.size+ns.length<=cc.size:=by rw[a.len];omega
         have jE:=run_storeCells_at P p.1 (p.2.1+K+n*i.size) O ns 0 cc w e1 (by simpa using L) d1;simp only[Nat.add_zero] at jE;have F:h.row id d2 (n*i.size)=some xs:=c0;unfold H.row at F;rw[hg] at F;simp only at F;obtain⟨N,d7,a0⟩:=sub_eq F
         refine⟨.slice (some ⟨p.1,p.2.1+K,none⟩) (n+k) c,w.setRow p.1 (cc.toList.take (p.2.1+K+n*i.size)++ns++cc.toList.drop (p.2.1+K+n*i.size+ns.length)).toArray,
          m.set h.next (p.1,p.2.1+K,p.2.2),yI ht hi hz a f ?_,⟨(p.1,p.2.1+K,p.2.2),c,0,?_,rfl,f,λ_=>rfl,?_⟩,?_⟩
         .simp only
          rw[mE];exact jE
         .simp [M.set]
         .simp only;omega
         .have hb:=setRow_heap w p.1 cc (cc.toList.take (p.2.1+K+n*i.size)++ns++cc.toList.drop (p.2.1+K+n*i.size+ns.length)).toArray O (0,0) e1
          refine iZ.ahO hr hf hg rfl rfl hp rfl (λm' b8=>⟨_,O,(0,0),hb,?_,?_,λj v J=>?_,λ_=>rfl⟩) rfl rfl rfl siM (λb a5=>setRow_other w p.1 b _ a5)
          .rw[Bt _ _ _ L];exact c6
          .simp only[iB,a0,a6];omega
          .rw[Kq _ _ _ L]
           by_cases G:j<n*i.size
           .rw[wU om] at J
            obtain rfl:=ho (by
                       rcases Nat.eq_zero_or_pos n with h0|h0;· rw[h0,Nat.zero_mul] at G;omega
                       .exact h0)
            rw[bL (by simp only;omega)];rw[N,List.getElem?_take,bL G,List.getElem?_drop] at J;obtain⟨a1,x2,a2,a3⟩:=e4 _ v J;exact⟨a1,x2,by rw[<-Nat.add_assoc] at a2;exact a2,VR.mono b8 _ _ a3⟩
           .rw[zT om,a0] at J
            obtain⟨y',Q,a7⟩:=hy.get J;have a9:j-n*i.size<ns.length:=(rW.1 Q).1;refine⟨Y v (Oc J),y',?_,VR.mono b8 _ _ a7⟩;rw[bV (by simp only;omega),bL (by simp only;omega)];rw[show (p.2.1+K,p.2.2).1+j-(p.2.1+K+n*i.size)=j-n*i.size from by simp only;omega];exact Q
        .obtain⟨x2,w2,m2,r1,r2,W⟩:=grow om _ rfl
         refine⟨x2,w2,m2,r1,r2,?_⟩
         have a5:id≠h.next:=λe=>by
          have this:m h.next=none:=hf;rw[<-e,hp] at this;cases this
         have B: ∀j o,((h.set id none).new (.cells false (xs++U))).get j=some o->(h.new (.cells false (xs++U))).get j=some o:=by
          intro j o G;simp only[H.jD,H.dE,H.kG,H.aZ] at G |-
          by_cases e1:j=h.next
          .simpa [e1] using G
          .by_cases e2:j=id
           .simp [e1,e2] at G
            exact absurd G.1 a5
           .simpa [e1,e2] using G
         refine⟨W.ext,⟨λj o G=>W.rel.live j o (B j o G),λj l oj ol pj pl a9 G hl=>W.rel.inj j l oj ol pj pl a9 (B _ _ G) (B _ _ hl)⟩,W.fresh,W.kept,λb hb=>?_,W.next,λb hb=>?_,λj G hn=>?_⟩
         .have⟨j,o,q,b1,b2,b3,b4⟩:=hb
          exact W.fp b ⟨j,o,q,B _ _ b1,b2,b3,b4⟩
         .have⟨j,o,q,b1,b3,b4⟩:=hb
          exact W.lb b ⟨j,o,q,B _ _ b1,b3,b4⟩
         .cases hg2:((h.set id none).new (.cells false (xs++U))).get j with
          |none=>rfl
          |some o=>have h9:=B j o hg2;rw[W.old j G hn] at h9;cases h9
       .cases A
      .cases A
    .cases R
     simp only at A
     cases A
     exact grow om _ rfl
    .simp only at A
     cases A
   .cases A
 .cases A
end
end
end Go.Ay
namespace Go.Ay
open Go
section
variable {e t:TypeId} {sz:Nat} {zu:V}
section
variable {P:Program} {m:M} {h:H} {w:World}
theorem M.oY (m:M)(id:Nat)(p:Nat×Nat×Nat):(m.set id p) id=some p:=by simp [M.set]
theorem foldl_set (off:Nat):(xs:List Value)->(k:Nat)->(cells:Array Value)->off+k+xs.length<=cells.size->
  ((xs.zipIdx k).foldl (λcs (p:Value×Nat)=>cs.setIfInBounds (off+p.2) p.1) cells).toList=cells.toList.take (off+k)++xs++cells.toList.drop (off+k+xs.length)
 | [],k,cells,_=>by simp
 |x::xs,k,cells,h=>by
  simp only[List.zipIdx_cons,List.foldl_cons,List.length_cons] at h |-;rw[foldl_set off xs (k+1) _ siO];have:=list_seg_step cells.toList (off+k) x xs siO;simp only[Array.toList_setIfInBounds];rw[show off+(k+1)=off+k+1 from om];rw[this]
theorem vP {place:Nat->Option (Nat×Nat)}:(ps:List (Nat×Nat×V))->(qs:List (Nat×Value))->(cs us:List V)->(xs:Array Value)->iQ m cs xs.toList->
  ps.length=qs.length->((i:Nat)->(a:Nat×Nat×V)->(q:Nat×Value)->ps[i]? =some a->qs[i]? =some q->place q.1=some (a.1,a.2.1)/\VR m a.2.2 q.2)->iH cs ps=some us->
  ∃ys,Instr.fill place xs qs=some ys/\iQ m us ys.toList
 | [], [],cs,us,xs,hx,_,_,he=>by simp only[iH] at he;cases he;exact⟨xs,rfl,hx⟩
 |a::ps,q::qs,cs,us,xs,hx,hl,hp,he=>by
  have⟨b,n,v⟩:=a;have⟨i,y⟩:=q;obtain⟨s,o⟩:=hp 0 _ _ rfl rfl;simp only at s o;simp only[iH] at he;split at he
  .rename_i r
   have⟨r,c⟩:=r
   cases hput:putAt cs b v.cells with
   |none=>simp [hput] at he
   |some cs'=>
    simp only[hput] at he;have u:=VR.cells o c;have k:=iQ.length u;have f:=iQ.length hx;obtain⟨rfl,B⟩:=Cm hput;simp only[Array.length_toList] at k f;have l:=foldl_set b y.cells.toList 0 xs siO;simp only[Nat.add_zero] at l
    have d:iQ m (cs.take b++v.cells++cs.drop (b+v.cells.length)) (((y.cells.toList.zipIdx 0).foldl (λcs (p:Value×Nat)=>cs.setIfInBounds (b+p.2) p.1) xs).toList):=by
     rw[l];have:b+v.cells.length=b+y.cells.toList.length:=siO
     rw[this];exact ((hx.take _).append u).append (hx.drop _)
    obtain⟨ys,x,F⟩:=vP ps qs _ us _ d (by simpa using hl) (λj a q A z=>hp (j+1) a q (by simpa using A) (by simpa using z)) he;refine⟨ys,?_,F⟩;simp only[Instr.fill,s];rw[bV]
    .rw[<-x]
     congr 1;rw[<-Array.foldl_toList,Array.toList_zipIdx]
    .simp;omega
  .cases he
 | [],_::_,_,_,_,_,hl,_,_=>by simp at hl
 |_::_, [],_,_,_,_,hl,_,_=>by simp at hl
theorem qD (m:M){u:V}{i:TypeInfo}{z:Value}(h:rH P e=some u)(hi:P.info? e=some i)(d:i.zero=some z):iQ m u.cells z.cells.toList/\(∀c∈u.cells,c.one=true)/\VR m u z:=by
 unfold rH at h;simp only[hi,Option.bind_some,d,Option.filter_eq_some_iff] at h;have b:=Hb m h.1;have a:=Hp h.1 (λe=>by rw[e] at h;simp [abU] at h);exact⟨b.cells (vE.2 a),a,b⟩
theorem yQ {zero:List V}{z:Array Value}(s:iQ m zero z.toList)(d:0<zero.length)(n:Nat):
  iQ m (dT zero n) ((Array.range n).map (z[· %z.size]!)).toList:=by
 have k:=iQ.length s
 simp only[Array.length_toList] at k
 refine iQ.jM (by simp [dT]) (λi v q=>?_)
 simp only[dT,Jj,oF] at q
 obtain⟨j,u,rfl⟩:=q
 have f:i<n/\j=i:=by
  obtain⟨r,o⟩:=rW.1 u;simp at r o;exact⟨r,o.symm⟩
 obtain⟨hi,rfl⟩:=f
 have a:j%zero.length<zero.length:=Nat.mod_lt _ d
 obtain⟨x,p,l⟩:=s.get (i:=j%zero.length) (dC a)
 refine⟨z[j%z.size]!,by simp [hi],?_⟩
 have:zero.getD (j%zero.length) V.undef=zero[j%zero.length]:=by simp [List.getD,a]
 rw[this]
 have c:j%z.size<z.size:=by rw[<-k];exact a
 have:z[j%z.size]! =x:=by
  rw[getElem!_pos z _ c];have b:z[j%z.size]? =some x:=by rw[k] at p;simpa using p
  rw[Wq] at b;exact b.2
 rw[this];exact l
theorem Js {zero:List V}(h: ∀c∈zero,c.one=true)(a:0<zero.length)(n:Nat): ∀c∈dT zero n,c.one=true:=by
 intro c d;simp only[dT,qU] at d;obtain⟨i,_,rfl⟩:=d;have b:i%zero.length<zero.length:=Nat.mod_lt _ a;have:zero.getD (i%zero.length) V.undef=zero[i%zero.length]:=by simp [List.getD,b]
 rw[this];exact h _ (pN b)
theorem FX (J:HR P m h w)(F:iW m h.next){bytes:Nat}(K:P.underlying t=some (.slice e))(N:jN P e=some sz)(L:Ea P e=some bytes)
  (W:rH P e=some zu) (p:Ya P e sz=true) (R:sz≠0) {l c r:V} {x y:Value} {h':H} (O:VR m l x) (G:VR m c y) (d:Ct h sz bytes zu.cells l c=some (r,h')):
  bF P m h w (Instr.makeSlice t x y) r h':=by
 obtain⟨i,hi,s,q⟩:=Su N L
 obtain⟨Y,z,k,n,o⟩:=Cy p
 rw[hi] at k;cases k
 subst s
 subst q
 obtain⟨j,u,_⟩:=qD m W hi n
 have U:zu.cells.length=i.size:=by rw[iQ.length j];simpa using o
 cases l<;>simp only[Ct] at d<;>try cases d
 cases c<;>simp only at d<;>try cases d
 rename_i A l v c
 split at d
 .rename_i B
  cases d
  obtain rfl:x= .int A l:=O
  obtain rfl:y= .int v c:=G
  have a:(i.bytes:Int)*c<=281474976710656:=by rw[Int.mul_comm];omega
  have f:=run_make w t e i z K hi n A v l c B.1 B.2.1 a om
  have Q:=yQ j om (c.toNat*i.size)
  have b:=uY J F [] Q (Js u om _) e
  simp only[qV,Array.toArray_toList] at b
  refine⟨_,_,_,f,⟨_,_,0,M.oY ..,rfl,om,λ_=>rfl,rfl,rfl⟩,b⟩
 .cases d
theorem KA (N:HR P m h w)(K:iW m h.next){n:Nat}(B:P.underlying t=some (.slice e))(x:jN P e=some sz)
  (R:rH P e=some zu) (y:Ya P e sz=true) (a0:sz≠0) (b: ¬n*sz>2^24) {ps:List (Nat×Nat×V)} {k:Array (Nat×Value)} {us:List V} (L:ps.length=k.size)
  (J:(j:Nat)->(a:Nat×Nat×V)->(q:Nat×Value)->ps[j]? =some a->k.toList[j]? =some q->some (q.1*sz,sz)=some (a.1,a.2.1)/\VR m a.2.2 q.2)
  (Q:iH (dT zu.cells (n*sz)) ps=some us) (U: ∀v∈us,v.one=true):
  bF P m h w (Instr.buildSlice t n k) (.sl h.next 0 n (.kn n)) (h.new (.cells false us)):=by
 obtain⟨G,z,c,p,r⟩:=Cy y
 have d:G.size=sz:=by unfold jN at x;rw[c] at x;simpa using x
 obtain⟨o,Z,_⟩:=qD m R c p
 have W:zu.cells.length=sz:=by rw[iQ.length o];simpa using r
 have O:=yQ o om (n*sz)
 obtain⟨F,A,Y⟩:=vP (place:=λi=>some (i*sz,sz)) ps k.toList _ us _ O (by simpa using L) J Q
 have f:=uY N K [] Y U e
 simp only[qV,Array.toArray_toList] at f
 have l:(Instr.buildSlice t n k).run P w= .ok (.slice (some ⟨w.heap.size,0,none⟩) n n) (w.alloc (.cells F e)):=by
  by_cases u:n*sz=0
  .rw[u,show ((Array.range 0).map (z.cells[· %z.cells.size]!))=(#[]:Array Value) from by simp] at A
   have s:(Array.range 0).map (λ(_:Nat)=>(default:Value))= #[]:=siM
   simp [Instr.buildSlice,run_underlying B,sizeOf,typeInfo,c,d,u,newRow,s,A]
  .exact run_buildSlice w t e n k F G z B c p (by rw[d];exact b) (by rw[d];exact u) (by rw[d];exact A)
 exact⟨_,_,_,l,⟨_,_,0,M.oY ..,rfl,eU _,λ_=>rfl,rfl,rfl⟩,f⟩
theorem Vg {a:Array Field}{ps:List (Nat×Nat)}(h:yE P a=some ps):a.toList.mapM (λf=>(P.info? f.type).map λi=>(f.offset,i.size))=some ps:=h
theorem JU (Z:HR P m h w)(Y:iW m h.next)(F:rH P t=some zu){c:List (Nat×X)}{ps:List (Nat×Nat×X)}(d:AS P t c=some ps)
  {ρ:X->V} {f:Array (Nat×Value)} (hl:c.length=f.size) (W:(j:Nat)->(a:Nat×X)->(q:Nat×Value)->c[j]? =some a->f.toList[j]? =some q->q.1=a.1/\VR m (ρ a.2) q.2)
  {us:List V} (he:iH zu.cells (ps.map λp=>(p.1,p.2.1,ρ p.2.2))=some us):
  bF P m h w (Instr.build t f) (.agg us) h:=by
 unfold AS at d
 have o: ∃i z,P.info? t=some i/\i.zero=some z:=by
  unfold rH at F
  cases hi:P.info? t with
  |none=>simp [hi] at F
  |some i=>
   cases hzz:i.zero with
   |none=>simp [hi,hzz] at F
   |some z=>exact⟨i,z,rfl,hzz⟩
 have⟨i,z,hi,l⟩:=o
 obtain⟨y,_,_⟩:=qD m F hi l
 split at d
 .rename_i fs k
  cases hfp:yE P fs with
  |none=>simp [hfp] at d
  |some pls=>
   simp only[hfp] at d;obtain⟨a1,a2⟩:=jA d
   obtain⟨v,R,K⟩:=vP (place:=(pls.toArray[·]?)) (ps.map λp=>(p.1,p.2.1,ρ p.2.2)) f.toList zu.cells us z.cells y (by simp [a1];omega) (λj a q B u=>by
    simp only[Jj,oF] at B;obtain⟨p,G,rfl⟩:=B;have hj:j<c.length:=by have:=(rW.1 G).1;omega
    obtain⟨b,x,A⟩:=a2 j c[j] (dC hj);rw[G] at x;cases x;obtain⟨L,N⟩:=W j _ q (dC hj) u;simp only[oF] at A;obtain⟨r,Q,rfl⟩:=A
    exact⟨by simp only[List.getElem?_toArray,L];rw[Q],N⟩) he
   have x:P.built t f.toList=some v:=by
    unfold Program.built;simp only[hi,k,l,Vg hfp];exact R
   exact bF.still Z Y (run_build w t f v x) ⟨v,rfl,K⟩
 .rename_i n e k
  simp only[oF] at d
  obtain⟨s,O,rfl⟩:=d
  unfold jN at O
  simp only[oF] at O
  obtain⟨J,U,rfl⟩:=O
  obtain⟨v,R,K⟩:=vP (place:=λj=>some (j*J.size,J.size)) ((c.map λp=>(p.1*J.size,J.size,p.2)).map λp=>(p.1,p.2.1,ρ p.2.2)) f.toList zu.cells us z.cells y siO (λj a q B u=>by
   simp only[List.map_map,Jj,oF] at B;obtain⟨p,G,rfl⟩:=B;obtain⟨L,N⟩:=W j _ q G u
   exact⟨by simp [L],N⟩) he
  have x:P.built t f.toList=some v:=by
   unfold Program.built;simp only[hi,k,l,U];exact R
  exact bF.still Z Y (run_build w t f v x) ⟨v,rfl,K⟩
 .cases d
theorem GB (N:HR P m h w)(hf:iW m h.next){u:TypeId}(A:P.underlying t=some (.slice e))(hs:jN P e=some sz)
  {Z v2 r:V} {x y:Value} {h':H} (hx:VR m Z x) (hy:VR m v2 y) (f:XT h sz Z v2=some (r,h')) (ty:TypeId):
  bF P m h w (Builtin.copy_ #[t,u] ty #[x,y]) r h':=by
 have l:=iN (w:=w) hs
 unfold XT at f
 split at f
 .rename_i n k R B
  have s: ∀a b:Nat,Nat.min a b=min a b:=λ_ _=>rfl
  simp only at f
  split at f
  .rename_i id L l1 c1 Q o l2 c2
   simp only[vT] at R B
   cases R;cases B
   obtain⟨p,c,o1,hp,rfl,_,K,_⟩:=hx
   obtain⟨p',c',o2,F,rfl,_,W,_⟩:=hy
   cases hrow:h.row Q o (min k n*sz) with
   |none=>simp [hrow] at f
   |some ys=>
    simp only[hrow] at f
    cases hput:h.put id L ys with
    |none=>simp [hput] at f
    |some h2=>
     simp only[hput] at f;cases f;obtain⟨q,cc,a0,fr,Y,hb,_,U,J,h1⟩:=zE N hrow;rw[F] at Y;cases Y;obtain⟨z,jE,j⟩:=zD N hf hput J h1 hp;have hl:=lH (P:=P) hb U
     by_cases a1:0<min k n
     .obtain rfl:=K om
      obtain rfl:=W om;refine⟨_,z,m,?_,(rfl:VR m (.int .i64 ((min k n:Nat):Int)) _),j⟩;simp [Builtin.copy_,run_underlying A,Builtin.lenOf,l,Builtin.firstCells,s,hl,jE,goInt]
     .have i:min k n=0:=om
      have v:Nat.min k n=0:=i
      have hw:z=w:=by
       rw[i] at jE;simp [storeCells] at jE;exact jE.symm
      subst hw;refine⟨_,z,m,?_,(rfl:VR m (.int .i64 ((min k n:Nat):Int)) _),j⟩;rw[i];simp [Builtin.copy_,run_underlying A,Builtin.lenOf,l,v,Builtin.firstCells,loadCells,loadCellsFrom,storeCells,goInt]
  .split at f
   .rename_i G
    cases f
    obtain⟨a,c,rfl⟩:=rX hx R
    obtain⟨b,d,rfl⟩:=rX hy B
    refine bF.still N hf (x:=goInt 0) ?_ rfl
    have i:Nat.min k n=0:=G
    have O:(Builtin.firstCells sz 0 (.slice b k d)).run P w= .ok #[] w:=by
     cases b<;>simp [Builtin.firstCells,loadCells,loadCellsFrom]
    cases a<;>simp [Builtin.copy_,run_underlying A,Builtin.lenOf,l,i,O,storeCells]
   .cases f
 .cases f
end
end
end Go.Ay
namespace Go.Ay
open Go
def Goal (P:Program)(m:M)(h:H)(w:World)(o:Oper)(a:Act)(v:V)(h':H):Prop:=
 ∃x w' m',Yields P o a w x w'/\VR m' v x/\iZ P m h w m' h' w'
section
variable {P:Program} {m:M} {h:H} {w:World} {o:Oper} {a:Act} {v:V} {h':H}
theorem bF.goal {s:Sem Value}(c:bF P m h w s v h')(d:execOp a.eval o=(do pure (.value (←s)))):Goal P m h w o a v h':=by
 have⟨x,i,k,b,j,f⟩:=c;exact⟨x,i,k,.inl (by rw[d];simp [b]),j,f⟩
theorem Ej (f:HR P m h w)(d:iW m h.next){x:Value}(b:execOp a.eval o=pure (.value x))(c:VR m v x):Goal P m h w o a v h:=
 ⟨x,w,m,.inl (by rw[b];rfl),c,iZ.refl f d⟩
theorem Mq {s:Sem Unit}{w':World}{b:M}(d:execOp a.eval o=(do s;pure .skip))(c:s.run P w= .ok () w')(f:iZ P m h w b h' w'):Goal P m h w o a V.undef h':=
 ⟨undef,w',b,.inr ⟨by rw[d];simp [c],rfl⟩,VR.undef b,f⟩
theorem sF {t e:TypeId}(h:Bu P t=some e):P.underlying t=some (.slice e):=by
 unfold Bu at h;split at h
 .cases h;assumption
 .cases h
theorem KB {t:TypeId}{i:Nat}{f:Field}(h:AE P t i=some f): ∃fs,P.underlying t=some (.struct fs)/\fs[i]? =some f:=by
 unfold AE at h;split at h
 .exact⟨_,by assumption,h⟩
 .cases h
variable {nt:Nat} {pv defs:List Nat} {vars loc:List V}
theorem rO (s:St m nt pv defs vars loc a){c:Option Operand}{xs:Option X}(b:Aj pv defs c=some xs):QK m (xs.map (xv vars loc)) (c.map a.eval):=by
 cases c with
 |none=>simp only[Aj] at b;cases b;trivial
 |some o=>
  simp only[Aj,oF] at b;obtain⟨x,d,rfl⟩:=b;exact aT s d
theorem Vo (s:St m nt pv defs vars loc a){c:Array (Nat×Operand)}{f:Nat×Operand->X->Nat×X}{ps:List (Nat×X)}
  (z:dP (c.toList.map λp=>(iM pv defs p.2).map (f p))=some ps) (n: ∀p x,(f p x).2=x):
  ps.length=(c.map λ(i,x)=>(i,a.eval x)).size/\ ∀(j:Nat) (b:Nat×X) (q:Nat×Value),ps[j]? =some b->(c.map λ(i,x)=>(i,a.eval x)).toList[j]? =some q->
   ∃p,c.toList[j]? =some p/\q.1=p.1/\b=f p b.2/\VR m (xv vars loc b.2) q.2:=by
 obtain⟨u,t⟩:=jA z
 refine⟨by simpa using u,λj b q y r=>?_⟩
 simp only[Array.toList_map,Jj,oF] at r
 obtain⟨p,l,rfl⟩:=r
 obtain⟨B,d,k⟩:=t j p l
 rw[y] at d;cases d
 simp only[oF] at k
 obtain⟨x,A,rfl⟩:=k
 exact⟨p,l,rfl,by rw[n],by rw[n];exact aT s A⟩
theorem Yf (s:St m nt pv defs vars loc a)(Q:HR P m h w)(hf:iW m h.next){c:Call}(c4:o.op= .call c){i:I}(d:uX P pv defs c o.type=some (.op i))(l:fJ (xv vars loc) h i=some (v,h')):Goal P m h w o a v h':=by
 have⟨N,B,j⟩:=c
 have ex: ∀b,N= .builtin b-> ∀sv:Sem Value,builtin b j o.type (B.map fun| .const _=>true|_=>false) (B.map a.eval)=(do pure (.value (←sv)))->
   execOp a.eval o=(do pure (.value (←sv))):=by
  intro b hb sv b6
  unfold execOp
  rw[c4]
  subst hb
  simp only[resolve,Go.invoke]
  exact b6
 unfold uX at d
 cases N with
 |value f=>
  exfalso
  cases f with
  |func f=>simp only at d;split at d<;>simp at d
  |_=>simp [uW] at d
 |invoke r mm=>
  cases d
 |builtin b=>
  cases b<;>simp only at d<;>try (cases d;done)
  case clear=>
   split at d
   .rename_i x t ha ht
    have L:B= #[x]:=by apply Array.toList_inj.1;simpa using ha
    have K:j= #[t]:=by apply Array.toList_inj.1;simpa using ht
    subst L;subst K;simp only[zA,uW] at d;have⟨e,O,sz,G,d⟩:=d;split at d
    .cases d
    .rename_i R
     have a4:Ya P e sz=true:=by cases hq:Ya P e sz with
      |true=>rfl
      |false=>exact absurd (.inr hq) R
     have c3:sz≠0:=λe=>R (.inl e)
     simp only[uW] at d;have⟨zu,hz,cx,F,d⟩:=d;cases d;obtain⟨i2,z,J,a0,a2⟩:=Cy a4;have W:i2.size=sz:=by unfold jN at G;rw[J] at G;simpa using G
     obtain⟨c0,c6,_⟩:=qD m hz J a0;have q:=aT s F;have Z:=sF O
     have Y:{w':World}->{m':M}->(Builtin.clear_ #[t] o.type #[a.eval x]).run P w= .ok (.tuple #[]) w'->v=V.undef->iZ P m h w m' h' w'->Goal P m h w o a v h':=by
      intro w' m' h1 h2 h3;subst h2;exact bF.goal (s:=Builtin.clear_ #[t] o.type #[a.eval x]) ⟨.tuple #[],w',m',h1,VR.undef m',h3⟩ (ex _ rfl _ (by simp [Go.builtin]))
     simp only[fJ] at l;split at l
     .rename_i U
      rw[U] at q;cases l;have A:a.eval x= .slice none 0 0:=q;exact Y (by simp [Builtin.clear_,A,run_underlying Z]) rfl (iZ.refl Q hf)
     .rename_i ad U
      rw[U] at q;cases l;have A:a.eval x= .slice (some ad) 0 0:=q;exact Y (by simp [Builtin.clear_,A,run_underlying Z]) rfl (iZ.refl Q hf)
     .rename_i id c8 len c7 U
      rw[U] at q;have⟨p,c,o',hp,A,c9,ho,_⟩:=q;split at l
      .rename_i h0
       cases l;subst h0;exact Y (by simp [Builtin.clear_,A,run_underlying Z]) rfl (iZ.refl Q hf)
      .rename_i h0
       obtain rfl:=ho om;split at l
       .rename_i c1
        simp only[oF] at l;have⟨h2,b4,l⟩:=l;cases l;have a1:0<zu.cells.length:=by rw[c1.1];omega
        have hv:=yQ c0 a1 (len*sz);obtain⟨w',jE,b0⟩:=zD Q hf b4 hv (Js c6 a1 _) hp;have a8:z.cells.size=sz:=by simpa using a2
        have b9:(zeroValue e).run P w= .ok z w:=by simp [zeroValue,typeInfo,J,a0]
        refine Y ?_ rfl b0
        obtain⟨n,rfl⟩: ∃n,len=n+1:=⟨len- 1,om⟩
        have b2:(Builtin.zeroCells z.cells (n+1)).toList=((Array.range ((n+1)*sz)).map (z.cells[· %z.cells.size]!)).toList:=by
         unfold Builtin.zeroCells;rw[a8]
        simp [Builtin.clear_,A,run_underlying Z,b9];rw[b2,jE]
        rfl
       .cases l
     .cases l
   .cases d
  case append=>
   split at d
   .rename_i x y t u ha ht
    have L:B= #[x,y]:=by apply Array.toList_inj.1;simpa using ha
    have K:j= #[t,u]:=by apply Array.toList_inj.1;simpa using ht
    subst L;subst K;simp only[zA,uW] at d;have⟨e,O,sz,G,d⟩:=d;split at d
    .cases d
    .rename_i R
     have c3:sz≠0:=λe=>R (.inl e)
     have a4:Ya P e sz=true:=by cases hq:Ya P e sz with
      |true=>rfl
      |false=>exact absurd (.inr hq) R
     obtain⟨i2,z,J,a0,a2⟩:=Cy a4;have W:i2.size=sz:=by unfold jN at G;rw[J] at G;simpa using G
     refine bF.goal (s:=Builtin.append_ #[t,u] o.type #[a.eval x,a.eval y]) ?_ (ex _ rfl _ (by simp [Go.builtin]));split at d
     .rename_i hu
      simp only[uW] at d;have⟨a5,hb,cx,F,cy,a6,d⟩:=d;cases d;have b7:i2.bytes=a5:=by unfold Ea at hb;rw[J] at hb;simpa using hb
      simp only[fJ] at l;split at l
      .rename_i k ys hk b8
       have b5:=aT s a6;obtain⟨ns,c5,a9,h1,hl⟩:=Gw Q b5 hk b8;obtain⟨ab,ac,c2⟩:=rX b5 hk;exact JX Q hf (sF O) J a0 W b7 a2 (aT s F) a9 h1 ⟨by rw[W];exact hl,.inl ⟨_,hu,by rw[c2];rfl,by rw[W];exact c5⟩⟩ l o.type
      .cases l
     .cases d
   .cases d
  case copy=>
   split at d
   .rename_i x y t u ha ht
    have L:B= #[x,y]:=by apply Array.toList_inj.1;simpa using ha
    have K:j= #[t,u]:=by apply Array.toList_inj.1;simpa using ht
    subst L;subst K;simp only[zA,uW] at d;have⟨e,O,sz,G,d⟩:=d;split at d
    .cases d
    .simp only[uW] at d
     have⟨cx,F,cy,a6,d⟩:=d;cases d;exact bF.goal (s:=Builtin.copy_ #[t,u] o.type #[a.eval x,a.eval y]) (GB Q hf (sF O) G (aT s F) (aT s a6) l o.type) (ex _ rfl _ (by simp [Go.builtin]))
   .cases d
  case len=>
   split at d
   .rename_i x t ha ht
    have L:B= #[x]:=by apply Array.toList_inj.1;simpa using ha
    have K:j= #[t]:=by apply Array.toList_inj.1;simpa using ht
    subst L;subst K;split at d
    .rename_i e hu
     simp only[oF,fU.op.injEq] at d;obtain⟨cx,F,rfl⟩:=d;simp only[fJ,oF] at l;have⟨n,hn,l⟩:=l;cases l;obtain⟨b,c,A⟩:=rX (aT s F) hn;refine bF.goal (s:=Builtin.len_ #[t] o.type #[a.eval x]) (bF.still Q hf (x:= .int .i64 n) ?_ rfl) (ex _ rfl _ (by simp [Go.builtin]));rw[A];simp [Builtin.len_,run_underlying hu,goInt]
    .rename_i k e hu
     simp only[oF,fU.op.injEq] at d;obtain⟨cx,F,rfl⟩:=d;have q:=aT s F;simp only[fJ] at l;refine bF.goal (s:=Builtin.len_ #[t] o.type #[a.eval x]) ?_ (ex _ rfl _ (by simp [Go.builtin]));split at l
     .rename_i U
      rw[U] at q;cases l;refine bF.still Q hf (x:= .int .i64 0) ?_ rfl;rw[show a.eval x= .map none from q];simp [Builtin.len_,run_underlying hu,goInt]
     .rename_i id U
      rw[U] at q;split at l
      .rename_i sh es hg
       cases l;have⟨p,hp,A⟩:=q;obtain⟨p',a7,_,b3,a3,hb,hl,_⟩:=Q.live id _ hg;rw[hp] at a7;cases a7;refine bF.still Q hf (x:= .int .i64 b3.size) ?_ (by rw[hl];rfl);rw[A];have b1:(getObj p.1).run P w= .ok (.map b3 a3) w:=by simp [getObj,Sem.run,hb]
       simp [Builtin.len_,run_underlying hu,goInt,b1]
      .cases l
     .cases l
    .cases d
   .cases d
end
end Go.Ay
namespace Go.Ay
open Go
section
variable {k v:V} {sh:Bp} {x y:Value} {kt t:TypeId} {es:List (V×V)} {es':List MapEntry} {id:Nat}
mutual
theorem Eo:(a b:V)->dM a b=true->a=b
 | .int ..,b,h=>by cases b<;>simp [dM] at h;simp [h]
 | .bool _,b,h=>by cases b<;>simp [dM] at h;simp [h]
 | .ptr ..,b,h=>by cases b<;>simp [dM] at h;simp [h]
 | .nilp,b,h=>by cases b<;>simp [dM] at h;rfl
 | .sl ..,b,h=>by cases b<;>simp [dM] at h;simp [h]
 | .aD,b,h=>by cases b<;>simp [dM] at h;rfl
 | .emp _,b,h=>by cases b<;>simp [dM] at h;rw[h]
 | .str _,b,h=>by cases b<;>simp [dM] at h;rw[h]
 | .ifc t x,b,h=>by
  cases b<;>simp [dM] at h;rw[h.1,Eo x _ h.2]
 | .mp _,b,h=>by cases b<;>simp [dM] at h;simp [h]
 | .nilm,b,h=>by cases b<;>simp [dM] at h;rfl
 | .fn _ a1 a2,b,h=>by
  cases b<;>simp [dM] at h;rw[h.1.1,Dr a1 _ h.1.2,Dr a2 _ h.2]
 | .yl _,b,h=>by cases b<;>simp [dM] at h;simp [h]
 | .nilf,b,h=>by cases b<;>simp [dM] at h;rfl
 | .agg a,b,h=>by
  cases b<;>simp [dM] at h;rw[Dr a _ h]
 | .tup a,b,h=>by
  cases b<;>simp [dM] at h;rw[Dr a _ h]
 | .unk,b,h=>by simp [dM] at h
theorem Dr:(a b:List V)->rJ a b=true->a=b
 | [], [],_=>rfl
 |x::a,y::b,h=>by
  simp only[rJ,rG] at h;rw[Eo x y h.1,Dr a b h.2]
 | [],_::_,h=>by simp [rJ] at h
 |_::_, [],h=>by simp [rJ] at h
end
def Kw (k:IntKind):V->Bool:=fun| .int j a=>decide (j=k)&&(decide (k.min<=a)&&decide (a<=k.max))|_=>false
theorem sC {k:IntKind}(h:Kw k v=true): ∃a,v= .int k a/\(Lit.int k a).wf=true:=by
 cases v<;>simp [Kw] at h;rename_i j a;obtain⟨rfl,b,c⟩:=h;exact⟨a,rfl,by simp [Lit.wf,b,c]⟩
theorem Mf {k:IntKind}:{l:List V}->l.all (Kw k)=true->rJ l l=true
 | [],_=>rfl
 |v::l,h=>by
  simp only[List.all_cons,rG] at h;obtain⟨a,rfl,_⟩:=sC h.1;simp only[rJ,dM,beq_self_eq_true,Bool.true_and];exact Mf h.2
theorem CU (h:isKey sh k=true):dM k k=true:=by
 cases sh<;>cases k<;>simp only[isKey,Bool.false_eq_true] at h
 .simp [dM]
 .rename_i n j a
  simp only[rG] at h;simp only[dM];exact Mf (k:=j) h.2
theorem aaH {l:List Nat}{i c:Nat}(h:l[i]? =some c):(⟨(l.map UInt8.ofNat).toArray⟩:ByteArray)[i]? =some (UInt8.ofNat c):=by
 obtain⟨a,d⟩:=rW.1 h;have b:i<(⟨(l.map UInt8.ofNat).toArray⟩:ByteArray).size:=by show i<(l.map UInt8.ofNat).toArray.size;simpa using a
 rw[getElem?_pos _ i b];congr 1;show (l.map UInt8.ofNat).toArray[i]=_;simp [d]
section
variable {P:Program} {m:M} {h:H} {w:World}
theorem iQ.ints {k:IntKind}:{l:List V}->{xs:List Value}->iQ m l xs->l.all (Kw k)=true-> ∀x∈xs,∃a,x= .int k a/\(Lit.int k a).wf=true
 | [], [],_,_,x,b=>by simp at b
 |v::l,y::xs,h,ha,x,b=>by
  simp only[List.all_cons,rG] at ha;rcases uL.1 b with rfl|b
  .obtain⟨a,rfl,c⟩:=sC ha.1
   exact⟨a,h.1,c⟩
  .exact iQ.ints h.2 ha.2 x b
 | [],_::_,h,_,_,_=>h.elim
 |_::_, [],h,_,_,_=>h.elim
theorem iQ.det {k:IntKind}:{l:List V}->{xs ys:List Value}->l.all (Kw k)=true->iQ m l xs->iQ m l ys->xs=ys
 | [], [], [],_,_,_=>rfl
 |v::l,x::xs,y::ys,ha,h1,h2=>by
  simp only[List.all_cons,rG] at ha;obtain⟨a,rfl,_⟩:=sC ha.1;rw[show x= .int k a from h1.1,show y= .int k a from h2.1,iQ.det ha.2 h1.2 h2.2]
 | [],_::_,_,_,h,_=>h.elim
 | [], [],_::_,_,_,h=>h.elim
 |_::_, [],_,_,h,_=>h.elim
 |_::_,_::_, [],_,_,h=>h.elim
theorem iQ.inj {k:IntKind}:{l l':List V}->{xs:List Value}->l.all (Kw k)=true->l'.all (Kw k)=true->iQ m l xs->iQ m l' xs->l=l'
 | [], [], [],_,_,_,_=>rfl
 |v::l,v'::l',x::xs,ha,hb,h1,h2=>by
  simp only[List.all_cons,rG] at ha hb;obtain⟨a,rfl,_⟩:=sC ha.1;obtain⟨b,rfl,_⟩:=sC hb.1;have:(Value.int k a)= .int k b:=(show x= .int k a from h1.1).symm.trans h2.1;cases this;rw[iQ.inj ha.2 hb.2 h1.2 h2.2]
 | [],_,_::_,_,_,h,_=>h.elim
 |_, [],_::_,_,_,_,h=>h.elim
 |_::_,_, [],_,_,h,_=>h.elim
 |_,_::_, [],_,_,_,h=>h.elim
theorem Ff:{l:List Nat}->l.all (λn=>decide (n<256))=true->(l.map UInt8.ofNat).map UInt8.toNat=l
 | [],_=>rfl
 |n::l,h=>by
  simp only[List.all_cons,rG,decide_eq_true_eq] at h;simp only[List.map_cons,List.cons.injEq];exact⟨by simp [UInt8.toNat_ofNat];omega,Ff h.2⟩
theorem VX (a:isKey sh k=true)(c:VR m k x)(b:VR m k y):x=y:=by
 cases sh<;>cases k<;>simp only[isKey,Bool.false_eq_true] at a
 .rename_i l
  rw[show x= .string ⟨(l.map UInt8.ofNat).toArray⟩ from c,show y= .string ⟨(l.map UInt8.ofNat).toArray⟩ from b]
 .rename_i n j o
  simp only[rG] at a;obtain⟨xs,rfl,i⟩:=c;obtain⟨d,rfl,f⟩:=b;have:xs=d:=Array.toList_inj.1 (iQ.det (k:=j) a.2 i f);rw[this]
theorem key_inj {c:V}(b:isKey sh k=true)(a:isKey sh c=true)(f:VR m k x)(d:VR m c x):k=c:=by
 cases sh<;>cases k<;>simp only[isKey,Bool.false_eq_true] at b<;>cases c<;>simp only[isKey,Bool.false_eq_true] at a
 .rename_i l o
  simp only[rG] at b a;have e:Value.string ⟨(l.map UInt8.ofNat).toArray⟩= .string ⟨(o.map UInt8.ofNat).toArray⟩:=(show x=_ from f).symm.trans d;simp only[Value.string.injEq,ByteArray.mk.injEq] at e;have s:l.map UInt8.ofNat=o.map UInt8.ofNat:=by simpa using e
  have i:=congrArg (List.map UInt8.toNat) s;rw[Ff b.2,Ff a.2] at i;rw[i]
 .rename_i n j z q
  simp only[rG] at b a;obtain⟨xs,rfl,r⟩:=f;have⟨u,e,p⟩:=d;cases e;rw[iQ.inj (k:=j) b.2 a.2 r p]
theorem mapM_some {α β:Type}{f:α->Option β}:(l:List α)->(∀a∈l,∃b,f a=some b)-> ∃bs,l.mapM f=some bs
 | [],_=>⟨[],rfl⟩
 |a::l,h=>by
  obtain⟨b,i⟩:=h a siM;obtain⟨bs,d⟩:=mapM_some l (λc j=>h c (by simp [j]));exact⟨b::bs,by rw[List.mapM_cons,i,d];rfl⟩
theorem Rn (b:Qb P kt=some sh)(j:isKey sh k=true)(G:VR m k x):WideMaps.KeyLaw P kt/\ ∃l,keyOf P kt x=some l:=by
 unfold Qb at b;split at b
 .rename_i d
  cases b;cases k<;>simp only[isKey,Bool.false_eq_true] at j;rename_i l;simp only[rG,decide_eq_true_eq] at j;refine⟨WideMaps.string_law d,.string (l.map UInt8.ofNat).toArray.toList,?_⟩;rw[show x= .string ⟨(l.map UInt8.ofNat).toArray⟩ from G];refine WideMaps.keyOf_string_mk (s:=⟨(l.map UInt8.ofNat).toArray⟩) d ?_;show (l.map UInt8.ofNat).toArray.size<=maxLen;have:maxLen=2^63- 1:=rfl;have:=j.1;simp;omega
 .rename_i n e d
  split at b
  .rename_i q J
   split at b
   .rename_i z
    cases b;cases k<;>simp only[isKey,Bool.false_eq_true] at j;rename_i W;simp only[rG,decide_eq_true_eq] at j
    have A:WideMaps.ArrKey P kt e n:=⟨d,by simp [Program.plainKey,J],z.1,z.2.1⟩
    have p: ∃m,P.types.size=m+1:=⟨P.types.size- 1,om⟩
    have B:=A.keyType p;have⟨O,u⟩:=p;obtain⟨xs,rfl,K⟩:=G;have c:xs.size=n:=by have:=iQ.length K;simp at this;omega
    have f:=iQ.ints (k:=q) K j.2
    have Q: ∃F,(List.range n).mapM (λi=>P.keyLits (O+1) e ((xs.toList.drop (i*P.cellsOf e)).take (P.cellsOf e)))=some F:=by
     refine mapM_some _ (λi hi=>?_);have N:i<n:=by simpa using hi
     rw[z.1,qZ];have o:i<xs.toList.length:=siO
     have R:(xs.toList.drop i).take 1= [xs.toList[i]]:=by rw[Ij o];rfl
     rw[R];obtain⟨a,U,L⟩:=f _ (pN o);rw[U];exact⟨[.int q a],by simp [Program.keyLits,J,L]⟩
    have⟨F,r⟩:=Q;refine⟨A.law,?_⟩;unfold keyOf;simp only[d];rw[bL (by simp [B,Value.formed,d,A.size,c]),u];unfold Program.keyLits;simp only[d,Value.cells];rw[bL (by rw[A.size];simpa using c),r];exact⟨_,rfl⟩
   .cases b
  .cases b
 .cases b
theorem Bf {k:V}:{es:List (V×V)}->{q:Nat×V}->iO k es=some q-> ∃k',es[q.1]? =some (k',q.2)/\dM k k'=true
 | [],q,h=>by simp [iO] at h
 |e::es,q,h=>by
  simp only[iO] at h;split at h
  .rename_i b
   cases h;exact⟨e.1,rfl,b⟩
  .simp only[oF] at h
   obtain⟨r,d,rfl⟩:=h;obtain⟨k',a,c⟩:=Bf d;exact⟨k',by simpa using a,c⟩
theorem Aw {k:V}:{es:List (V×V)}->iO k es=none-> ∀e∈es,dM k e.1=false
 | [],_,e,a=>by simp at a
 |e::es,h,e',a=>by
  simp only[iO] at h;split at h
  .cases h
  .rename_i b
   simp only[Option.map_eq_none_iff] at h;rcases uL.1 a with rfl|a
   .simpa using b
   .exact Aw h e' a
structure WR (m:M)(sh:Bp)(es:List (V×V))(es':List MapEntry):Prop where
 len:es.length=es'.length
 one:(i j:Nat)->(a b:V×V)->es[i]? =some a->es[j]? =some b->dM a.1 b.1=true->i=j
 ent:(i:Nat)->(k v:V)->es[i]? =some (k,v)->isKey sh k=true/\ ∃e:MapEntry,es'[i]? =some e/\e.born=i/\VR m k e.key/\VR m v e.val
theorem WR.keys (W:WR m sh es es')(j:Qb P kt=some sh): ∀e∈es',∃l,keyOf P kt e.key=some l:=by
 intro e d;obtain⟨i,hi⟩:=List.mem_iff_getElem?.1 d;have a:i<es.length:=by rw[W.len];exact (rW.1 hi).1
 obtain⟨c,n,b,_,f,_⟩:=W.ent i _ _ (dC a);rw[hi] at b;cases b;exact (Rn j c f).2
theorem Hj (W:WR m sh es es')(L:Qb P kt=some sh)(z:isKey sh k=true)(F:VR m k x):
  (∃i v e,iO k es=some (i,v)/\es[i]? =some (k,v)/\es'[i]? =some e/\e.born=i/\e.key=x/\VR m v e.val/\(Instr.findKey kt x es').run P w= .ok (some (i,e.val)) w)\/
  (iO k es=none/\(∀e∈es,dM k e.1=false)/\(Instr.findKey kt x es').run P w= .ok none w):=by
 obtain⟨K,l,Y⟩:=Rn L z F
 have r:(i:Nat)->(d v:V)->es[i]? =some (d,v)->dM k d=true-> ∃e,es'[i]? =some e/\e.key=x:=by
  intro i d v hi G;obtain⟨p,e,a,_,b,_⟩:=W.ent i d v hi;have:=Eo _ _ G;subst this;exact⟨e,a,VX z b F⟩
 have s:(j:Nat)->(e:MapEntry)->es'[j]? =some e->e.key=x-> ∃v,es[j]? =some (k,v):=by
  intro j e N G;have f:j<es.length:=by rw[W.len];exact (rW.1 N).1
  obtain⟨p,R,a,_,b,_⟩:=W.ent j _ _ (dC f);rw[N] at a;cases a;rw[G] at b;have:=key_inj z p F b;exact⟨es[j].2,by rw[dC f,this];rfl⟩
 rcases K.find w Y es' (W.keys L) with ⟨a,n⟩|⟨j,e,a,n,b⟩
 .refine .inr ?_
  cases hf:iO k es with
  |none=>exact⟨rfl,Aw hf,a⟩
  |some q=>
   exfalso;obtain⟨d,c,A⟩:=Bf hf;obtain⟨e,Z,Q⟩:=r _ _ _ c A;exact n e (Oc Z) Q
 .refine .inl ?_
  obtain⟨v,u⟩:=s j e n b
  cases hf:iO k es with
  |none=>exact absurd (CU z) (by rw[Aw hf _ (Oc u)];simp)
  |some q=>
   obtain⟨d,c,A⟩:=Bf hf;have B:=Eo _ _ A;subst B;have o:q.1=j:=W.one _ _ _ _ c u A;have⟨i,v'⟩:=q;simp only at o c;subst o;rw[u] at c;cases c;obtain⟨_,R,J,O,g3,U⟩:=W.ent i k v u;rw[n] at J;cases J;exact⟨i,v,e,rfl,u,n,O,b,U,a⟩
theorem WR.push (W:WR m sh es es')(p:isKey sh k=true)(F:VR m k x)(z:VR m v y)(o: ∀e∈es,dM k e.1=false):
  WR m sh (es++ [(k,v)]) (es'++ [{key:=x,val:=y,born:=es'.length}]):=by
 refine⟨by simp [W.len],λi j a b J B d=>?_,λi N u hi=>?_⟩
 .have l:(i:Nat)->(a:V×V)->(es++ [(k,v)])[i]? =some a->(i<es.length/\es[i]? =some a)\/(i=es.length/\a=(k,v)):=by
   intro i a h
   by_cases hi:i<es.length
   .exact .inl ⟨hi,by rwa [wU hi] at h⟩
   .rw[zT om] at h
    by_cases f:i-es.length=0
    .rw[f] at h;simp at h;exact .inr ⟨om,h.symm⟩
    .rw[List.getElem?_eq_none siO] at h;cases h
  rcases l i a J with ⟨L,n⟩|⟨L,rfl⟩<;>rcases l j b B with ⟨A,q⟩|⟨A,rfl⟩
  .exact W.one i j a b n q d
  .have:=o a (Oc n)
   have r:=Eo _ _ d;simp only at r;rw[r,CU p] at this;cases this
  .have:=o b (Oc q)
   simp only at d;rw[d] at this;cases this
  .omega
 .by_cases c:i<es.length
  .rw[wU c] at hi
   obtain⟨K,e,s,G⟩:=W.ent i N u hi
   exact⟨K,e,by rw[wU (by rw[<-W.len];exact c)];exact s,G⟩
  .rw[zT om] at hi
   by_cases f:i-es.length=0
   .rw[f] at hi;simp at hi
    obtain⟨rfl,rfl⟩:=hi
    have:i=es'.length:=by rw[<-W.len];omega
    subst this
    exact⟨p,{key:=x,val:=y,born:=es'.length},siM,rfl,F,z⟩
   .rw[List.getElem?_eq_none siO] at hi;cases hi
theorem WR.aeK (W:WR m sh es es'){i:Nat}{o:V}{e:MapEntry}(hi:es[i]? =some (k,v))(U:es'[i]? =some e)(K:VR m o y):
  WR m sh (es.set i (k,o)) (es'.set i {e with val:=y}):=by
 have c:i<es.length:=(rW.1 hi).1
 have f:i<es'.length:=by rw[<-W.len];exact c
 have u:(j:Nat)->(a:V×V)->(es.set i (k,o))[j]? =some a-> ∃b,es[j]? =some b/\b.1=a.1/\((j=i/\a=(k,o))\/(j≠i/\b=a)):=by
  intro j a h
  by_cases l:j=i
  .subst l
   rw[List.getElem?_set_self c] at h;cases h;exact⟨_,hi,rfl,.inl ⟨rfl,rfl⟩⟩
  .rw[List.getElem?_set_ne (λe=>l e.symm)] at h
   exact⟨a,h,rfl,.inr ⟨l,rfl⟩⟩
 refine⟨by simp [W.len],λp q a b O N s=>?_,λj J Y l=>?_⟩
 .obtain⟨Q,B,F,_⟩:=u p a O
  obtain⟨L,d,R,_⟩:=u q b N
  exact W.one p q Q L B d (by rw[F,R];exact s)
 .obtain⟨b,B,F,d⟩:=u j _ l
  rcases d with ⟨rfl,d⟩|⟨r,rfl⟩
  .cases d
   obtain⟨A,G,n,z,Z,_⟩:=W.ent j k v hi
   rw[U] at n;cases n
   exact⟨A,_,List.getElem?_set_self f,z,Z,K⟩
  .obtain⟨A,G,n,z⟩:=W.ent j J Y B
   exact⟨A,G,by rw[List.getElem?_set_ne (λe=>r e.symm)];exact n,z⟩
theorem Ir {α:Type}(f:α->α):(l:List α)->(i:Nat)->(a:α)->l[i]? =some a->l.modify i f=l.set i (f a)
 | [],_,_,h=>by simp at h
 |b::l,0,a,h=>by simp at h;subst h;rfl
 |b::l,i+1,a,h=>by simp at h;simp [List.modify_succ_cons,Ir f l i a h]
theorem oY {α:Type}:(l:List α)->(i:Nat)->(a:α)->l[i]? =some a->l.set i a=l
 | [],_,_,h=>by simp at h
 |b::l,0,a,h=>by simp at h;subst h;rfl
 |b::l,i+1,a,h=>by simp at h;simp [oY l i a h]
theorem Ef (j:HR P m h w){p:Nat×Nat×Nat}(f:m id=some p)(q:h.get id=some (.wmap sh es)):
  ∃es':Array MapEntry,w.heap[p.1]? =some (.map es' es'.size)/\WR m sh es es'.toList:=by
 obtain⟨r,a,l,es',d,n,b,o,c⟩:=j.live id _ q
 rw[f] at a;cases a
 subst o
 exact⟨es',n,by simpa using b,l,λi k v hi=>by simpa using c i k v hi⟩
theorem IT (o:HR P m h w)(r:iW m h.next){s:TypeId}{B:V}(u:P.underlying t=some (.map kt s))(J:Qb P kt=some sh)(A:rH P s=some B)
      (U:VR m (.mp id) x) (G:VR m k y) (R:h.get id=some (.wmap sh es)) (d:isKey sh k=true) (ok:Bool):
  bF P m h w (Instr.lookup t x y ok) (match iO k es with|some e=>(if ok then .tup [e.2,.bool true] else e.2)|none=>(if ok then .tup [B,.bool false] else B)) h:=by
 obtain⟨p,N,rfl⟩:=U
 obtain⟨es',Q,W⟩:=Ef o N R
 obtain⟨K,l,O⟩:=Rn J d G
 have b:(getObj p.1).run P w= .ok (.map es' es'.size) w:=by simp [getObj,Sem.run,Q]
 have c:=K.check w es'.isEmpty O
 have n: ∃i z,P.info? s=some i/\i.zero=some z:=by
  unfold rH at A
  cases hi:P.info? s with
  |none=>simp [hi] at A
  |some i=>
   cases hzz:i.zero with
   |none=>simp [hi,hzz] at A
   |some z=>exact⟨i,z,rfl,hzz⟩
 have⟨i,z,hi,f⟩:=n
 obtain⟨_,_,q⟩:=qD m A hi f
 rcases Hj (w:=w) W J d G with ⟨j,v,e,F,_,_,_,_,L,a⟩|⟨F,_,a⟩
 .rw[F]
  cases ok with
  |true=>
   refine bF.still o r (x:= .tuple #[e.val,.bool true]) ?_ ⟨_,rfl,L,rfl,trivial⟩;simp [Instr.lookup,run_underlying u,b,c,a]
  |false=>
   refine bF.still o r (x:=e.val) ?_ L;simp [Instr.lookup,run_underlying u,b,c,a]
 .rw[F]
  cases ok with
  |true=>
   refine bF.still o r (x:= .tuple #[z,.bool false]) ?_ ⟨_,rfl,q,rfl,trivial⟩;simp [Instr.lookup,run_underlying u,b,c,a,zeroValue,typeInfo,hi,f]
  |false=>
   refine bF.still o r (x:=z) ?_ q;simp [Instr.lookup,run_underlying u,b,c,a,zeroValue,typeInfo,hi,f]
theorem ahH (j:HR P m h w)(n:iW m h.next){a:List (V×V)}{p:Nat×Nat×Nat}(f:m id=some p)(l:h.get id=some (.wmap sh es))
  {es':Array MapEntry} (W:WR m sh a es'.toList):(setObj p.1 (.map es' es'.size)).run P w= .ok () (w.putObj p.1 (.map es' es'.size))/\
   iZ P m h w m (h.set id (some (.wmap sh a))) (w.putObj p.1 (.map es' es'.size)):=by
 obtain⟨o,c,_⟩:=Ef j f l
 have d:p.1<w.heap.size:=(Wq.1 c).1
 refine⟨by simp [setObj,Sem.run,c,World.putObj],?_⟩
 exact iZ.put j n l rfl rfl f ⟨W.one,es',es'.size,World.putObj_heap_same d,by simpa using W.len,rfl,λi k v hi=>by simpa using W.ent i k v hi⟩ rfl rfl rfl siM (λb c=>World.putObj_heap_other c)
theorem JM (B:HR P m h w)(Q:iW m h.next){et:TypeId}(L:P.underlying t=some (.map kt et))(N:Qb P kt=some sh)
     {z:Value} (hx:VR m (.mp id) x) (A:VR m k y) (R:VR m v z) (q:h.get id=some (.wmap sh es)) (a:isKey sh k=true):
  ∃w',(Instr.mapUpdate t x y z).run P w= .ok () w'/\iZ P m h w m (h.set id (some (.wmap sh (match iO k es with|some e=>es.set e.1 (k,v)|none=>es++ [(k,v)])))) w':=by
 obtain⟨p,s,rfl⟩:=hx
 obtain⟨es',Z,W⟩:=Ef B s q
 obtain⟨K,l,U⟩:=Rn N a A
 have c:(getObj p.1).run P w= .ok (.map es' es'.size) w:=by simp [getObj,Sem.run,Z]
 have o:=K.check w false U
 rcases Hj (w:=w) W N a A with ⟨i,u,e,r,Y,F,h4,O,_,b⟩|⟨r,hn,b⟩
 .rw[r]
  have G:es'[i]? =some e:=by simpa using F
  have jE:=K.stays w U
  have j:(es'.modify i λe=>{e with key:=y,val:=z}).toList=es'.toList.set i {e with val:=z}:=by
   rw[Array.toList_modify,Ir _ _ _ _ F,<-O]
  have J:WR m sh (es.set i (k,v)) (es'.modify i λe=>{e with key:=y,val:=z}).toList:=by
   rw[j];exact W.aeK Y F R
  obtain⟨n,f⟩:=ahH B Q s q J
  simp only[Array.size_modify] at n f
  refine⟨_,?_,f⟩
  have d:(Option.map MapEntry.key es'[i]?).getD y=y:=by rw[G];exact O
  simp only[Instr.mapUpdate,Sem.run_bind,run_underlying L,Result.andThen_ok,c,o,b,Sem.run_pure,d,jE,n]
 .rw[r]
  have J:WR m sh (es++ [(k,v)]) (es'.push {key:=y,val:=z,born:=es'.size}).toList:=by
   rw[Array.toList_push];have:=W.push a A R hn;simpa using this
  obtain⟨n,f⟩:=ahH B Q s q J
  simp only[Array.size_push] at n f
  refine⟨_,?_,f⟩
  simp only[Instr.mapUpdate,Sem.run_bind,run_underlying L,Result.andThen_ok,c,o,b,Sem.run_pure,n]
theorem CD (a b:List Nat):((⟨(a.map UInt8.ofNat).toArray⟩:ByteArray).toList==(⟨(b.map UInt8.ofNat).toArray⟩:ByteArray).toList)=(a.map (· %256)==b.map (· %256)):=by
 rw[ByteArray.toList_eq,ByteArray.toList_eq];simp only
 have c:(a b:List Nat)->(a.map UInt8.ofNat=b.map UInt8.ofNat)↔a.map (· %256)=b.map (· %256):=by
  intro a
  induction a with
  |nil=>intro b;cases b<;>simp
  |cons x a ih=>
   intro b
   cases b with
   |nil=>simp
   |cons y b=>
    simp only[List.map_cons,List.cons.injEq,ih b];constructor
    .rintro⟨h1,h2⟩
     have:=congrArg UInt8.toNat h1;exact⟨by simpa [UInt8.toNat_ofNat] using this,h2⟩
    .rintro⟨h1,h2⟩
     exact⟨UInt8.toNat_inj.1 (by simpa [UInt8.toNat_ofNat] using h1),h2⟩
 rw[Lf];simp only[beq_iff_eq];exact c a b
theorem Mx (j:HR P m h w)(f:iW m h.next){op:BinOp}(d:op= .eql\/op= .neq){x y:Operand}{a b:List Nat}{u v:Value}(l:VR m (.str a) u)(i:VR m (.str b) v){neg:Bool}(c:neg=(op matches .neq)):
  bF P m h w (do eqGuard op t x y u v;binOp op t u v) (.bool (if neg then !(a.map (· %256)==b.map (· %256)) else a.map (· %256)==b.map (· %256))) h:=by
 rw[show u= .string ⟨(a.map UInt8.ofNat).toArray⟩ from l,show v= .string ⟨(b.map UInt8.ofNat).toArray⟩ from i]
 refine bF.still j f (x:= .bool (if neg then !(a.map (· %256)==b.map (· %256)) else a.map (· %256)==b.map (· %256))) ?_ rfl
 have o:(eqGuard op t x y (.string ⟨(a.map UInt8.ofNat).toArray⟩) (.string ⟨(b.map UInt8.ofNat).toArray⟩)).run P w= .ok () w:=by
  unfold eqGuard;rcases d with rfl|rfl<;>simp
 have n:(binOp op t (.string ⟨(a.map UInt8.ofNat).toArray⟩) (.string ⟨(b.map UInt8.ofNat).toArray⟩)).run P w=(Op.stringOp op ⟨(a.map UInt8.ofNat).toArray⟩ ⟨(b.map UInt8.ofNat).toArray⟩).run P w:=by
  rcases d with rfl|rfl<;>rfl
 simp only[Sem.run_bind,o,Result.andThen_ok,n]
 subst c
 rcases d with rfl|rfl
 .simp only[Op.stringOp,CD,Sem.run_pure];rfl
 .simp only[Op.stringOp,CD,Sem.run_pure];rfl
theorem JY (l:HR P m h w)(i:iW m h.next){x y:Operand}{a b:List Nat}{u v:Value}(n:VR m (.str a) u)(j:VR m (.str b) v)(q:a.length+b.length<2^62):
  bF P m h w (do eqGuard .add t x y u v;binOp .add t u v) (.str (a++b)) h:=by
 rw[show u= .string ⟨(a.map UInt8.ofNat).toArray⟩ from n,show v= .string ⟨(b.map UInt8.ofNat).toArray⟩ from j]
 refine bF.still l i (x:= .string ⟨((a++b).map UInt8.ofNat).toArray⟩) ?_ rfl
 have p:(eqGuard .add t x y (.string ⟨(a.map UInt8.ofNat).toArray⟩) (.string ⟨(b.map UInt8.ofNat).toArray⟩)).run P w= .ok () w:=by
  unfold eqGuard;simp
 have o:(binOp .add t (.string ⟨(a.map UInt8.ofNat).toArray⟩) (.string ⟨(b.map UInt8.ofNat).toArray⟩)).run P w=(Op.stringOp .add ⟨(a.map UInt8.ofNat).toArray⟩ ⟨(b.map UInt8.ofNat).toArray⟩).run P w:=rfl
 simp only[Sem.run_bind,p,Result.andThen_ok,o]
 have d:(⟨(a.map UInt8.ofNat).toArray⟩:ByteArray).size=a.length:=by show (a.map UInt8.ofNat).toArray.size=_;simp
 have f:(⟨(b.map UInt8.ofNat).toArray⟩:ByteArray).size=b.length:=by show (b.map UInt8.ofNat).toArray.size=_;simp
 have c:IntKind.i64.max=9223372036854775807:=rfl
 unfold Op.stringOp
 simp only[d,f]
 rw[bV (by rw[c];omega)]
 simp only[Sem.run_pure]
 congr 2
 apply ByteArray.ext
 rw[ByteArray.data_append]
 simp
theorem JD (i:HR P m h w)(d:iW m h.next){b a:TypeId}{j:IntKind}(l:P.underlying b=some (.int j))(c:P.underlying a=some .string){k:IntKind}{n:Int}(o:VR m (.int k n) x)(q:0<=n)(p:n<128):
  bF P m h w (convert b a x) (.str [n.toNat]) h:=by
 rw[show x= .int k n from o]
 refine bF.still i d (x:= .string ⟨#[UInt8.ofNat n.toNat]⟩) ?_ rfl
 have f:Utf8.valid n=true:=by unfold Utf8.valid;simp;omega
 simp only[convert,Sem.run_bind,run_underlying l,run_underlying c,Result.andThen_ok,Conv.intToString,Sem.run_pure,Utf8.encode,f,if_true]
 rw[bL om]
theorem Is (body:Value->ByteArray->Sem (ForInStep ByteArray))(b: ∀n s,body (.int .u8 n) s=pure (.yield (s.push (UInt8.ofNat n.toNat)))):(cs:List Value)->(vs:List V)->(l:List Nat)->(acc:ByteArray)->
  iQ m vs cs->pV vs=some l->(forIn cs acc body).run P w= .ok ⟨acc.data++(l.map UInt8.ofNat).toArray⟩ w
 | [], [],l,acc,_,hl=>by
  simp only[pV,Option.some.injEq] at hl;subst hl;simp
 |c::cs,v::vs,l,acc,hv,hl=>by
  cases v<;>try (simp only[pV,reduceCtorEq] at hl;done)
  rename_i k n;cases k<;>try (simp only[pV,reduceCtorEq] at hl;done)
  simp only[pV] at hl;split at hl
  .simp only[oF] at hl
   obtain⟨d,a,rfl⟩:=hl;rw[show c= .int .u8 n from hv.1,List.forIn_cons,b];simp only[Sem.run_bind,Sem.run_pure,Result.andThen_ok];rw[Is body b cs vs d _ hv.2 a];congr 2;apply Array.toList_inj.1;simp [ByteArray.push]
  .cases hl
 | [],_::_,_,_,h,_=>h.elim
 |_::_, [],_,_,h,_=>h.elim
theorem FR (A:HR P m h w)(G:iW m h.next){j i e:TypeId}(hs:P.underlying j=some (.slice e))(K:P.underlying i=some .string)(he:P.underlying e=some (.int .u8))
  {u:V}  (J:VR m v x) (f:GY h v=some u):bF P m h w (convert j i x) u h:=by
 have d: ∀a n c,(convert j i (.slice a n c)).run P w=(Conv.bytesToString (.slice a n c)).run P w:=by
  intro a n c;simp [convert,run_underlying hs,run_underlying K,run_underlying he]
 unfold GY at f
 split at f
 .cases f
  obtain rfl:x= .slice none 0 0:=J
  refine bF.still A G (x:= .string .empty) ?_ rfl
  rw[d]
  simp [Conv.bytesToString]
 .rename_i id W len Q
  obtain⟨p,c,o',R,rfl,_,U,_⟩:=J
  split at f
  .rename_i z r
   simp only[oF] at f
   obtain⟨l,Y,rfl⟩:=f
   have b: ∃xs:List Value,(loadCells ⟨p.1,p.2.1+o',none⟩ len).run P w= .ok xs.toArray w/\iQ m z xs:=by
    obtain⟨p',c',F,fr,o,O,_,B,q,_⟩:=zE A r;rw[R] at o;cases o
    by_cases N:len=0
    .subst N
     have Z:z= []:=by
      have:=q;simp only[List.take_zero] at this
      cases z with
      |nil=>rfl
      |cons _ _=>exact this.elim
     subst Z;exact⟨[],by simp only[loadCells,loadCellsFrom];rfl,trivial⟩
    .obtain rfl:=U om
     exact⟨_,lH O B,q⟩
   have⟨xs,b,hv⟩:=b
   refine bF.still A G (x:= .string ⟨(l.map UInt8.ofNat).toArray⟩) ?_ rfl
   rw[d]
   simp only[Conv.bytesToString,Sem.run_bind,b,Result.andThen_ok]
   rw[<-Array.forIn_toList]
   rw[Is (m:=m) _ (λn s=>rfl) xs z l _ hv Y]
   simp only[Result.andThen_ok,Sem.run_pure]
   congr 2
   have L:ByteArray.empty.data= #[]:=rfl
   rw[L]
   simp only[Array.empty_append]
  .cases f
 .cases f
end
end
end Go.Ay
namespace Go.Ay
open Go
section
variable {t ty e:TypeId} {op:BinOp} {x y:Operand} {cx cy:X}
section
variable {P:Program} {m:M} {h:H} {w:World} {o:Oper} {a:Act} {v:V} {h':H} {nt:Nat} {pv defs:List Nat} {vars loc:List V}
theorem GX {c:V}(b:rH P t=some c): ∃i z,P.info? t=some i/\i.zero=some z:=by
 unfold rH at b
 cases hi:P.info? t with
 |none=>simp [hi] at b
 |some i=>
  cases hzz:i.zero with
  |none=>simp [hi,hzz] at b
  |some z=>exact⟨i,z,rfl,hzz⟩
theorem oI {β:Type}{x:Option β}{h h':H}{v:β}(b:x.map (λy=>(y,h))=some (v,h')):x=some v/\h=h':=by
 cases x with
 |none=>simp at b
 |some u=>simp at b;exact⟨by rw[b.1],b.2⟩
theorem BC {agg:Bool}{n:Nat}(h:ldN P t=some (agg,n)):Uz P t=some agg/\(if agg then jN P t else some 1)=some n:=by
 unfold ldN at h;split at h
 .rename_i b
  simp only[oF] at h;have⟨k,c,h⟩:=h;cases h;exact⟨b,c⟩
 .cases h;exact⟨by assumption,rfl⟩
 .cases h
theorem Kr (s:St m nt pv defs vars loc a)(B:HR P m h w)(r:iW m h.next)(p:o.op= .binOp op t x y ty){k:IntKind}
  (l:iM pv defs x=some cx) (q:iM pv defs y=some cy) (c:fJ (xv vars loc) h (.bin op k cx cy)=some (v,h')):Goal P m h w o a v h':=by
 have d:=aT s l
 have f:=aT s q
 simp only[fJ] at c
 split at c
 .rename_i j b K F G A
  rw[G] at d
  rw[A] at f
  split at c
  .rename_i n
   obtain⟨i,rfl⟩:=oI c
   obtain⟨rfl,rfl⟩:=n
   obtain⟨z,J,u⟩:=Ur (P:=P) (m:=m) (w:=w) i t
   refine bF.goal (s:=do eqGuard op t x y (a.eval x) (a.eval y);binOp op t (a.eval x) (a.eval y)) (bF.still B r (x:=z) ?_ u) (by simp only[execOp,p])
   rw[show a.eval x= .int _ b from d,show a.eval y= .int _ F from f]
   simp [Hi,J]
  .cases c
 .cases c
theorem QG (s:St m nt pv defs vars loc a)(F:HR P m h w)(u:iW m h.next)(p:o.op= .binOp op t x y ty){k:IntKind}
  (l:iM pv defs x=some cx) (q:iM pv defs y=some cy) (c:fJ (xv vars loc) h (.shf op k cx cy)=some (v,h')):Goal P m h w o a v h':=by
 have d:=aT s l
 have f:=aT s q
 simp only[fJ] at c
 split at c
 .rename_i j b r G J B
  rw[J] at d
  rw[B] at f
  split at c
  .rename_i n
   obtain⟨i,rfl⟩:=oI c
   subst n
   obtain⟨z,K,A⟩:=Yw (P:=P) (m:=m) (w:=w) (j:=r) i t
   refine bF.goal (s:=do eqGuard op t x y (a.eval x) (a.eval y);binOp op t (a.eval x) (a.eval y)) (bF.still F u (x:=z) ?_ A) (by simp only[execOp,p])
   rw[show a.eval x= .int _ b from d,show a.eval y= .int _ G from f]
   simp [Hi,K]
  .cases c
 .cases c
theorem AG (b:P.underlying t=some .bool)(x y:Bool):(Op.equal t (.bool x) (.bool y)).run P w= .ok (x==y) w:=by
 have: ∀d,(Op.equalIn (d+1) t (.bool x) (.bool y)).run P w= .ok (x==y) w:=λd=>by simp [Op.equalIn,run_underlying b]
 exact this 9999
theorem Zj (b:P.underlying t=some (.slice e)):(Op.equal t (.slice none 0 0) (.slice none 0 0)).run P w= .ok true w:=by
 have: ∀d,(Op.equalIn (d+1) t (.slice none 0 0) (.slice none 0 0)).run P w= .ok true w:=λd=>by simp [Op.equalIn,run_underlying b]
 exact this 9999
theorem Iw (f:P.underlying t=some (.slice e))(b:Addr)(n c:Nat):(Op.equal t (.slice (some b) n c) (.slice none 0 0)).run P w= .ok false w:=by
 have: ∀d,(Op.equalIn (d+1) t (.slice (some b) n c) (.slice none 0 0)).run P w= .ok false w:=λd=>by simp [Op.equalIn,run_underlying f]
 exact this 9999
theorem aaA (s:St m nt pv defs vars loc a)(u:HR P m h w)(p:iW m h.next)(q:op= .eql\/op= .neq)(l:o.op= .binOp op t x y ty)(z:P.underlying t=some .bool)
  (j:iM pv defs x=some cx) (n:iM pv defs y=some cy) {neg:Bool} (c:neg=(op matches .neq)) (i:fJ (xv vars loc) h (.beq neg cx cy)=some (v,h')):Goal P m h w o a v h':=by
 have d:=aT s j
 have f:=aT s n
 simp only[fJ] at i
 split at i
 .rename_i b k A r
  rw[A] at d
  rw[r] at f
  cases i
  refine bF.goal (s:=do eqGuard op t x y (a.eval x) (a.eval y);binOp op t (a.eval x) (a.eval y)) (bF.still u p (x:= .bool (if neg then !(b==k) else b==k)) ?_ rfl) (by simp only[execOp,l])
  rw[show a.eval x= .bool b from d,show a.eval y= .bool k from f]
  subst c
  rcases q with rfl|rfl<;>simp [Qt,binOp,AG z]
 .cases i
theorem JZ (s:St m nt pv defs vars loc a)(r:HR P m h w)(l:iW m h.next)(n:op= .eql\/op= .neq)(i:o.op= .binOp op t x y ty)(q:a.eval y= .slice none 0 0)(z:P.underlying t=some (.slice e))
  (u:iM pv defs x=some cx) {neg:Bool} (d:neg=(op matches .neq)) (j:fJ (xv vars loc) h (.snil neg cx)=some (v,h')):Goal P m h w o a v h':=by
 have b:=aT s u
 simp only[fJ] at j
 split at j
 .rename_i k
  rw[k] at b
  cases j
  refine bF.goal (s:=do eqGuard op t x y (a.eval x) (a.eval y);binOp op t (a.eval x) (a.eval y)) (bF.still r l (x:= .bool (!neg)) ?_ rfl) (by simp only[execOp,i])
  rw[show a.eval x= .slice none 0 0 from b,q]
  subst d
  rcases n with rfl|rfl<;>simp [tV,binOp,Zj z]
 .rename_i id A len B k
  rw[k] at b
  cases j
  have⟨p,c,J,G,f,_⟩:=b
  refine bF.goal (s:=do eqGuard op t x y (a.eval x) (a.eval y);binOp op t (a.eval x) (a.eval y)) (bF.still r l (x:= .bool neg) ?_ rfl) (by simp only[execOp,i])
  rw[f,q]
  subst d
  rcases n with rfl|rfl<;>simp [tV,binOp,Iw z]
 .rename_i F k
  rw[k] at b
  cases j
  have f:a.eval x= .slice (some F) 0 0:=b
  refine bF.goal (s:=do eqGuard op t x y (a.eval x) (a.eval y);binOp op t (a.eval x) (a.eval y)) (bF.still r l (x:= .bool neg) ?_ rfl) (by simp only[execOp,i])
  rw[f,q]
  subst d
  rcases n with rfl|rfl<;>simp [tV,binOp,Iw z]
 .cases j
theorem Iv (s:St m nt pv defs vars loc a)(L:HR P m h w)(N:iW m h.next){i:I}(A:oW P pv defs o=some (.op i))(B:fJ (xv vars loc) h i=some (v,h')):Goal P m h w o a v h':=by
 unfold oW at A;cases hop:o.op<;>simp only[hop] at A<;>try (cases A;done)
 case move x=>
  simp only[oF,fU.op.injEq] at A;obtain⟨cx,F,rfl⟩:=A;simp only[fJ] at B;cases B;exact Ej L N (by simp only[execOp,hop]) (aT s F)
 case assign x=>
  simp only[oF,fU.op.injEq] at A;obtain⟨cx,F,rfl⟩:=A;simp only[fJ] at B;cases B;exact Ej L N (by simp only[execOp,hop]) (aT s F)
 case pick c x y=>
  simp only[zA,uW] at A;have⟨cc,a9,cx,F,cy,K,A⟩:=A;cases A;have c1:=aT s a9;simp only[fJ] at B;split at B
  .rename_i t ht
   rw[ht] at c1;cases B;refine bF.goal (s:=do pure (if ←asBool (a.eval c) then a.eval x else a.eval y)) (bF.still L N (x:=if t then a.eval x else a.eval y) ?_ ?_) (by simp only[execOp,hop];simp)
   .rw[show a.eval c= .bool t from c1];simp [asBool]
   .cases t
    .simpa using aT s K
    .simpa using aT s F
  .cases B
 case alloc e=>
  simp only[zA,uW] at A;have⟨zu,hz,A⟩:=A;cases A;simp only[fJ] at B;cases B;obtain⟨i2,z,hi,c2⟩:=GX hz;obtain⟨d4,e0,_⟩:=qD m hz hi c2;have R:=uY L N [] d4 e0 e;simp only[qV,Array.toArray_toList] at R;refine bF.goal (s:=Instr.alloc e true (.tuple #[])) ⟨.pointer (some ⟨w.heap.size,0,none⟩),_,_,?_,⟨_,M.oY ..,rfl⟩,R⟩ (by simp only[execOp,hop]);simp [Instr.alloc,zeroValue,typeInfo,hi,c2,newVar,newRow]
 case box e x=>
  simp only[oF,fU.op.injEq] at A;obtain⟨cx,F,rfl⟩:=A;simp only[fJ] at B;split at B
  .rename_i a5
   cases B;have hv:=VR.cells (aT s F) a5;have R:=uY L N [] hv (λc A=>(vE.1 a5) c A) e;simp only[qV,Array.toArray_toList] at R;refine bF.goal (s:=Instr.box e (a.eval x)) ⟨.pointer (some ⟨w.heap.size,0,none⟩),_,_,?_,⟨_,M.oY ..,rfl⟩,R⟩ (by simp only[execOp,hop]);simp [Instr.box,newVar,newRow]
  .cases B
 case build t parts=>
  simp only[zA,uW] at A;have⟨ps,b6,zu,hz,pl,d3,A⟩:=A;cases A;simp only[fJ,oF] at B;have⟨us,b8,B⟩:=B;cases B;obtain⟨h1,h2⟩:=Vo s (f:=λp x=>(p.1,x)) b6 (λ_ _=>rfl);refine bF.goal (s:=Instr.build t (parts.map λ(i,x)=>(i,a.eval x))) (JU L N hz d3 h1 (λj b q hb hq=>?_) b8) (by simp only[execOp,hop]);obtain⟨p,hp,e1,e2,e3⟩:=h2 j b q hb hq;exact⟨by rw[e1,e2],e3⟩
 case buildSlice t n parts=>
  simp only[zA,uW] at A;have⟨e,a0,sz,U,A⟩:=A;split at A
  .cases A
  .rename_i a6
   have b5:sz≠0:=λe=>a6 (.inl e)
   have c4: ¬n*sz>2^24:=λe=>a6 (.inr (.inl e))
   have b3:Ya P e sz=true:=by cases hq:Ya P e sz with
    |true=>rfl
    |false=>exact absurd (.inr (.inr hq)) a6
   simp only[uW] at A;have⟨ps,b6,zu,hz,A⟩:=A;cases A;simp only[fJ] at B;split at B
   .rename_i us b8
    split at B
    .rename_i a5
     cases B;obtain⟨a1,a2⟩:=jA b6;refine bF.goal (s:=Instr.buildSlice t n (parts.map λ(i,x)=>(i,a.eval x))) (KA L N (sF a0) U hz b3 b5 c4 (by simpa using a1) (λj b q hb hq=>?_) b8 (λc A=>(vE.1 a5) c A)) (by simp only[execOp,hop]);simp only[Jj,oF] at hb;obtain⟨p,hp,rfl⟩:=hb;simp only[Array.toList_map,Jj,oF] at hq;obtain⟨r,c5,rfl⟩:=hq;obtain⟨b',c0,b9⟩:=a2 j r c5;rw[hp] at c0;cases c0;simp only[oF] at b9;obtain⟨x,O,rfl⟩:=b9;exact⟨rfl,aT s O⟩
    .cases B
   .cases B
 case load t x=>
  split at A
  .rename_i q hq
   have⟨e4,n⟩:=q;simp only[oF,fU.op.injEq] at A;obtain⟨cx,F,rfl⟩:=A;simp only[fJ] at B;obtain⟨J,rfl⟩:=oI B;obtain⟨y,h1,h2⟩:=Td L (BC hq).1 (BC hq).2 (aT s F) J;exact bF.goal (s:=Instr.loadAt t (a.eval x)) (bF.still L N h1 h2) (by simp only[execOp,hop])
  .cases A
 case store t x y=>
  simp only[zA,uW] at A;have⟨n,hn,cx,F,cy,K,A⟩:=A;cases A;have G:=aT s F;have W:=aT s K;simp only[fJ] at B;split at B
  .rename_i id Z O
   rw[O] at G;split at B
   .rename_i a4
    simp only[oF] at B;have⟨h2,c3,B⟩:=B;cases B;have⟨p,hp,Q⟩:=G;obtain⟨w',jE,R⟩:=zD L N c3 (VR.cells W a4.2) (λc A=>(vE.1 a4.2) c A) hp;refine Mq (s:=Instr.storeAt t (a.eval x) (a.eval y)) (by simp only[execOp,hop]) ?_ R
    have d0:(a.eval y).cells.size=n:=by
     have:=iQ.length (VR.cells W a4.2);simp at this;omega
    rw[Q];simp [Instr.storeAt,Instr.sureAddr,storeVar,iN hn,d0,jE]
   .cases B
  .cases B
 case nilCheck x=>
  simp only[oF,fU.op.injEq] at A;obtain⟨cx,F,rfl⟩:=A;have G:=aT s F;simp only[fJ] at B;split at B
  .rename_i id Z O
   rw[O] at G;cases B;have⟨p,hp,Q⟩:=G;refine Ej L N (x:= .pointer (some ⟨p.1,p.2.1+Z,none⟩)) ?_ ⟨p,hp,rfl⟩;simp only[execOp,hop,Q]
  .cases B
 case binOp op t x y ty=>
  cases op<;>simp only at A<;>try (cases A;done)
  all_goals first
   |(simp only[zA,uW] at A
     have⟨k,hk,cx,F,cy,K,A⟩:=A
     cases A
     exact Kr s L N hop F K B)
   |(simp only[zA,uW] at A
     have⟨k,hk,cx,F,cy,K,A⟩:=A
     cases A
     exact QG s L N hop F K B)
   |skip
  case add=>
   split at A
   .simp only[zA,uW] at A
    have⟨cx,F,cy,K,A⟩:=A;cases A;have G:=aT s F;have W:=aT s K;simp only[fJ] at B;split at B
    .rename_i sa sb O hy
     rw[O] at G;rw[hy] at W;split at B
     .rename_i hl
      cases B;exact bF.goal (JY (t:=t) (x:=x) (y:=y) L N G W hl) (by simp only[execOp,hop])
     .cases B
    .cases B
   .simp only[zA,uW] at A
    have⟨k,hk,cx,F,cy,K,A⟩:=A;cases A;exact Kr s L N hop F K B
  all_goals
   split at A
   .simp only[zA,uW] at A
    have⟨cx,F,cy,K,A⟩:=A
    cases A
    exact Kr s L N hop F K B
   .rename_i hk
    simp only[zA,uW] at A
    have⟨cx,F,cy,K,A⟩:=A
    cases A
    exact aaA s L N siM hop hk F K rfl B
   .rename_i hk
    simp only[zA,uW] at A
    have⟨cx,F,cy,K,A⟩:=A
    cases A
    have G:=aT s F
    have W:=aT s K
    simp only[fJ] at B
    split at B
    .rename_i sa sb O hy
     rw[O] at G
     rw[hy] at W
     cases B
     first
      |exact bF.goal (Mx (op:= .eql) (t:=t) (x:=x) (y:=y) L N (.inl rfl) G W rfl) (by simp only[execOp,hop])
      |exact bF.goal (Mx (op:= .neq) (t:=t) (x:=x) (y:=y) L N (.inr rfl) G W rfl) (by simp only[execOp,hop])
    .cases B
   .rename_i e hk
    split at A
    .simp only[zA,uW] at A
     have⟨cx,F,A⟩:=A
     cases A
     exact JZ s L N siM hop rfl hk F rfl B
    .cases A
   .cases A
 case unOp op t x=>
  cases op<;>simp only at A<;>try (cases A;done)
  .simp only[oF,fU.op.injEq] at A
   obtain⟨cx,F,rfl⟩:=A;have G:=aT s F;simp only[fJ] at B;split at B
   .rename_i b O
    rw[O] at G;cases B;refine bF.goal (s:=Op.unary .not (a.eval x)) (bF.still L N (x:= .bool (!b)) ?_ rfl) (by simp only[execOp,hop]);rw[show a.eval x= .bool b from G];simp [Op.unary]
   .cases B
 case convert src dst x=>
  split at A
  .rename_i k0 k hs hd
   simp only[oF,fU.op.injEq] at A;obtain⟨cx,F,rfl⟩:=A;have G:=aT s F;simp only[fJ] at B;split at B
   .rename_i j b O
    rw[O] at G;cases B;refine bF.goal (s:=convert src dst (a.eval x)) (bF.still L N (x:= .int k (k.wrap b)) ?_ rfl) (by simp only[execOp,hop]);rw[show a.eval x= .int _ b from G];simp [convert,run_underlying hs,run_underlying hd,Conv.intToInt]
   .cases B
  .rename_i e hs hd
   split at A
   .rename_i a0
    simp only[oF,fU.op.injEq] at A;obtain⟨cx,F,rfl⟩:=A;have G:=aT s F;simp only[fJ] at B;obtain⟨J,rfl⟩:=oI B;exact bF.goal (s:=convert src dst (a.eval x)) (FR L N hs hd a0 G J) (by simp only[execOp,hop])
   .cases A
  .rename_i k0 hs hd
   simp only[oF,fU.op.injEq] at A;obtain⟨cx,F,rfl⟩:=A;have G:=aT s F;simp only[fJ] at B;split at B
   .rename_i k n O
    rw[O] at G;split at B
    .rename_i hn
     cases B;exact bF.goal (s:=convert src dst (a.eval x)) (JD L N hs hd G hn.1 hn.2) (by simp only[execOp,hop])
    .cases B
   .cases B
  .cases A
 case makeFunc fn first cs=>
  cases fn<;>simp only at A<;>try (cases A;done)
  rename_i f;split at A
  .simp only[zA,uW] at A
   have⟨cf,c6,cc,a9,A⟩:=A;cases A;simp only[fJ] at B;cases B;refine bF.goal (s:=Instr.makeFunc (.func f) (first.map a.eval) (cs.map a.eval)) (bF.still L N (x:= .func (.func f) (first.map a.eval) (cs.map a.eval)) rfl ⟨_,_,rfl,?_,?_⟩) (by simp only[execOp,hop])
   .simpa using rL s c6
   .simpa using rL s a9
  .cases A
 case makeMap t r=>
  split at A
  .rename_i kt et ht
   split at A
   .rename_i sh b2
    simp only[oF,fU.op.injEq] at A;obtain⟨cr,d9,rfl⟩:=A;have b1:=rO s d9;simp only[fJ] at B;split at B
    .rename_i a8
     cases B;have R:=iZ.new L N (.wmap sh []) (.map #[] 0) (0,0) (λm' _ _=>⟨λi j a b hi=>by simp at hi,#[],0,heap_alloc_new w _,rfl,rfl,λi k v hi=>by simp at hi⟩);refine bF.goal (s:=Instr.makeMap t (r.map a.eval)) ⟨.map (some w.heap.size),_,_,?_,⟨_,M.oY ..,rfl⟩,R⟩ (by simp only[execOp,hop])
     cases r with
     |none=>simp [Instr.makeMap]
     |some x=>
      cases cr with
      |none=>exact b1.elim
      |some cx=>
       simp only[Option.map_some,Jt] at a8;have G:VR m (xv vars loc cx) (a.eval x):=b1;cases hxx:xv vars loc cx<;>rw[hxx] at a8<;>simp only[MN,Bool.false_eq_true] at a8;rename_i k n;rw[hxx] at G;have Q:a.eval x= .int k n:=G;simp [Instr.makeMap,Q,run_underlying ht,asInt,asIntOf]
    .cases B
   .cases A
  .cases A
 case makeSlice t l c=>
  simp only[zA,uW] at A;have⟨e,a0,sz,U,A⟩:=A;split at A
  .cases A
  .rename_i a6
   have b5:sz≠0:=λe=>a6 (.inl e)
   have b3:Ya P e sz=true:=by cases hq:Ya P e sz with
    |true=>rfl
    |false=>exact absurd (.inr hq) a6
   simp only[uW] at A;have⟨d6,hb,zu,hz,cl,b0,cc,a9,A⟩:=A;cases A;simp only[fJ] at B;exact bF.goal (s:=Instr.makeSlice t (a.eval l) (a.eval c)) (FX L N (sF a0) U hb hz b3 b5 (aT s b0) (aT s a9) B) (by simp only[execOp,hop])
 case slice t x lo hi mx=>
  split at A
  .cases A
  .simp only[zA,uW] at A
   have⟨e,a0,sz,U,A⟩:=A;split at A
   .cases A
   .simp only[uW] at A
    have⟨cx,F,cl,b0,ch,d7,cm,d2,A⟩:=A;cases A;simp only[fJ] at B;obtain⟨J,rfl⟩:=oI B;exact bF.goal (s:=Instr.sliceAt t (a.eval x) (lo.map a.eval) (hi.map a.eval) (mx.map a.eval)) (II L N (sF a0) U (aT s F) (rO s b0) (rO s d7) (rO s d2) J) (by simp only[execOp,hop])
 case fieldAddr t x f=>
  simp only[zA,uW] at A;have⟨fd,c7,A⟩:=A;split at A
  .cases A
  .rename_i U
   simp only[uW] at A;have⟨cx,F,A⟩:=A;cases A;have G:=aT s F;simp only[fJ] at B;split at B
   .rename_i id Z O
    rw[O] at G;cases B;have⟨p,hp,Q⟩:=G;obtain⟨fs,c8,d1⟩:=KB c7
    cases hsz2:jN P fd.type with
    |none=>simp [hsz2] at U
    |some n=>
     have hn: ¬n=0:=by simpa [hsz2] using U
     refine bF.goal (s:=Instr.fieldAt t (a.eval x) f) (bF.still L N (x:= .pointer (some ⟨p.1,p.2.1+(Z+fd.offset),none⟩)) ?_ ⟨p,hp,rfl⟩) (by simp only[execOp,hop]);rw[Q];simp [Instr.fieldAt,run_underlying c8,d1,Instr.sureAddr,fieldPlace,iN hsz2,hn,mE,Nat.add_assoc]
   .cases B
 case indexAddr t x ix=>
  split at A
  .rename_i n e k z hu
   split at A
   .rename_i hb
    simp only[zA,uW] at A;have⟨sz,U,cx,F,A⟩:=A;cases A;have G:=aT s F;simp only[fJ] at B;split at B
    .rename_i id Z O
     rw[O] at G;cases B;have⟨p,hp,Q⟩:=G;refine bF.goal (s:=Instr.indexAt t (a.eval x) (.int k z)) (bF.still L N (x:= .pointer (some ⟨p.1,p.2.1+(Z+z.toNat*sz),none⟩)) ?_ ⟨p,hp,rfl⟩) (by simp only[execOp,hop];rfl);rw[Q];simp [Instr.indexAt,asIntOf,run_underlying hu,Instr.sureAddr,iN U,hb.1,hb.2,mE,Nat.add_assoc]
    .cases B
   .cases A
  .rename_i n e hu _
   simp only[zA,uW] at A;have⟨sz,U,cx,F,ci,a7,A⟩:=A;cases A;have G:=aT s F;have a3:=aT s a7;simp only[fJ] at B;obtain⟨J,rfl⟩:=oI B;unfold MY at J;split at J
   .rename_i id Z k z O hi
    rw[O] at G;rw[hi] at a3;split at J
    .rename_i hb
     cases J;have⟨p,hp,Q⟩:=G;refine bF.goal (s:=Instr.indexAt t (a.eval x) (.int k z)) (bF.still L N (x:= .pointer (some ⟨p.1,p.2.1+(Z+z.toNat*sz),none⟩)) ?_ ⟨p,hp,rfl⟩) (by simp only[execOp,hop];rw[show a.eval _= .int k z from a3]);rw[Q];simp [Instr.indexAt,asIntOf,run_underlying hu,Instr.sureAddr,iN U,hb.1,hb.2,mE,Nat.add_assoc]
    .cases J
   .cases J
  .simp only[zA,uW] at A
   have⟨e,a0,sz,U,cx,F,ci,a7,A⟩:=A;cases A;have G:=aT s F;have a3:=aT s a7;simp only[fJ] at B;obtain⟨J,rfl⟩:=oI B;unfold El at J;split at J
   .rename_i id Z len e5 k n O hi
    rw[O] at G;rw[hi] at a3;split at J
    .rename_i hb
     cases J;have⟨p,c,o',hp,Q,_,ho,_⟩:=G;obtain rfl:=ho om;refine bF.goal (s:=Instr.indexAt t (a.eval x) (.int k n)) (bF.still L N (x:= .pointer (some ⟨p.1,p.2.1+(o'+n.toNat*sz),none⟩)) ?_ ⟨p,hp,rfl⟩) (by simp only[execOp,hop];rw[show a.eval _= .int k n from a3]);rw[Q];simp [Instr.indexAt,asIntOf,run_underlying (sF a0),iN U,hb.1,hb.2,mE,Nat.add_assoc]
    .cases J
   .cases J
 case lookup t x k ok=>
  split at A
  .rename_i kt et ht
   simp only[zA,uW] at A;have⟨sh,b2,zu,hz,cx,F,ck,b4,A⟩:=A;cases A;have G:=aT s F;have b7:=aT s b4;simp only[fJ] at B;split at B
   .rename_i id O
    rw[O] at G;split at B
    .rename_i c9 es hg
     split at B
     .rename_i Y
      obtain⟨rfl,Y⟩:=Y;have hs:=IT L N ht b2 hz G b7 hg Y ok;split at B
      .rename_i u hu
       cases B;rw[hu] at hs;exact bF.goal (s:=Instr.lookup t (a.eval x) (a.eval k) ok) hs (by simp only[execOp,hop])
      .rename_i hu
       cases B;rw[hu] at hs;exact bF.goal (s:=Instr.lookup t (a.eval x) (a.eval k) ok) hs (by simp only[execOp,hop])
     .cases B
    .cases B
   .cases B
  .cases A
 case mapUpdate t x k y=>
  split at A
  .rename_i kt et ht
   simp only[zA,uW] at A;have⟨sh,b2,cx,F,ck,b4,cy,K,A⟩:=A;cases A;have G:=aT s F;have b7:=aT s b4;have W:=aT s K;simp only[fJ] at B;split at B
   .rename_i id O
    rw[O] at G;split at B
    .rename_i c9 es hg
     split at B
     .rename_i Y
      obtain⟨rfl,Y⟩:=Y;cases B;obtain⟨w',h1,h2⟩:=JM L N ht b2 G b7 W hg Y;exact Mq (s:=Instr.mapUpdate t (a.eval x) (a.eval k) (a.eval y)) (by simp only[execOp,hop]) h1 h2
     .cases B
    .cases B
   .cases B
  .cases A
 case index t x ix=>
  split at A
  .rename_i ht
   simp only[zA,uW] at A;have⟨cx,F,ci,a7,A⟩:=A;cases A;have G:=aT s F;have a3:=aT s a7;simp only[fJ] at B;split at B
   .rename_i l k z O hi
    rw[O] at G;rw[hi] at a3;split at B
    .rename_i hz
     simp only[oF] at B;have⟨c,b0,B⟩:=B;cases B;refine bF.goal (s:=Instr.index t (a.eval x) (a.eval ix)) (bF.still L N (x:= .int .u8 ((c%256:Nat):Int)) ?_ rfl) (by simp only[execOp,hop]);rw[show a.eval x= .string ⟨(l.map UInt8.ofNat).toArray⟩ from G,show a.eval ix= .int k z from a3];have hb:(⟨(l.map UInt8.ofNat).toArray⟩:ByteArray)[z.toNat]? =some (UInt8.ofNat c):=aaH b0;simp [Instr.index,asIntOf,run_underlying ht,hz,hb]
    .cases B
   .cases B
  .cases A
 case extract x i2=>
  simp only[oF,fU.op.injEq] at A;obtain⟨cx,F,rfl⟩:=A;have G:=aT s F;simp only[fJ] at B;split at B
  .rename_i vs O
   rw[O] at G;have⟨xs,Q,b1⟩:=G;obtain⟨J,rfl⟩:=oI B;obtain⟨y,hy,W⟩:=b1.get J;refine bF.goal (s:=Instr.extract (a.eval x) i2) (bF.still L N (x:=y) ?_ W) (by simp only[execOp,hop]);have d8:xs[i2]? =some y:=by simpa using hy
   rw[Q];simp [Instr.extract,d8]
  .cases B
 case makeInterface t x=>
  split at A
  .cases A;simp [fJ] at B
  .rename_i d cx d5 hu F
   cases A;have G:=aT s F;simp only[fJ] at B;cases B;refine bF.goal (s:=Instr.makeInterface t (a.eval x)) (bF.still L N (x:= .iface t (a.eval x)) ?_ ⟨_,rfl,G⟩) (by simp only[execOp,hop]);cases d<;>first
    |(simp [Instr.makeInterface,run_underlying hu];done)
    |exact (d5 _ rfl).elim
  .cases A;simp [fJ] at B
 case panic=>cases A;simp [fJ] at B
 case call c=>exact Yf s L N hop A B
end
end
end Go.Ay
namespace Go.Ay
open Go
section
variable {r:Option Nat} {K:Act->World->Prop} {Q:Exit->Act->World->Prop}
abbrev Wf (r:Option Nat):Fence:={Fence.wide with round:=r}
def zV (P:Program)(m:M)(h:H)(w:World)(v:V)(h':H):Ending->World->Prop:=λe w'=> ∃x m',e= .returned x/\VR m' v x/\iZ P m h w m' h' w'
def Dt (P:Program)(cl:lJ):Prop:= ∀g args h v h',cl g args h=some (v,h')->enters P g=true/\ ∀m w (xs:Array Value),iQ m args xs.toList->HR P m h w->Lg m h.next->
 CallsIn (Wf none) 0 P g xs w (zV P m h w v h')
def PM (P:Program)(g:Nat):Prop:= ∀args h v h',Np args h=some (v,h')->enters P g=true/\ ∀m w (xs:Array Value),iQ m args xs.toList->HR P m h w->Lg m h.next->
 CallsIn (Wf none) 0 P g xs w (zV P m h w v h')
def POk (P:Program)(p:Nat->Option Fn):Prop:= ∀g fn,p g=some fn->fn.Hm=true/\PM P g\/ ∃pv F,P.funcs[g]? =some F/\AD P pv F=some fn/\enters P g=true
def yT (P:Program)(yl:lJ):Prop:= ∀id args h v h',yl id args h=some (v,h')-> ∀m w (xs:Array Value) q,iQ m args xs.toList->HR P m h w->Lg m h.next->m id=some q->
 ∃fn tmps assign body,(Instr.yield q.1 xs).run P w= .ok (.round q.1 fn tmps assign body) w/\RoundIn (Wf none) 0 P q.1 fn tmps assign body w (zV P m h w v h')
section
variable {P:Program} {cl yl:lJ}
theorem Bc {g:Nat}{xs:Array Value}{w:World}(h:enters P g=true):(callFunc g xs).run P w= .ok (.enter g xs) w:=by
 unfold enters at h
 cases hf:P.funcs[g]? with
 |none=>simp [hf] at h
 |some fn=>
  simp only[hf,Option.any_some,rG,bne_iff_ne,ne_eq] at h;obtain⟨b,a⟩:=Option.isSome_iff_exists.1 h.1;simp [callFunc,hf,h.2,a]
variable {m:M} {h h':H} {w:World} {nt:Nat} {pv defs:List Nat} {vars loc:List V} {a:Act} {o:Oper} {v:V}
theorem Pz (j: ∀c,o.op≠ .defer c)(k:Goal P m h w o a v h')
  (i: ∀x w' m',VR m' v x->iZ P m h w m' h' w'->K (a.put o.dst x) w'):o.wpIn (Wf r) 0 P a w K Q:=by
 have⟨x,w',m',b,f,d⟩:=k
 refine⟨λ_ _=>trivial,?_⟩
 rw[Oper.semAt_eq _ _ _ j]
 rcases b with b|⟨b,rfl⟩
 .rw[b,Oper.uponIn_value];exact i x w' m' f d
 .rw[b,Oper.uponIn_skip];exact i _ w' m' f d
theorem Wt (i: ∀c,o.op≠ .defer c){g:Nat}{xs:Array Value}(d:(execOp a.eval o).run P w= .ok (.enter g xs) w)
  (b:CallsIn (Wf none) 0 P g xs w (zV P m h w v h')) (l: ∀x w' m',VR m' v x->iZ P m h w m' h' w'->K (a.put o.dst x) w'):o.wpIn (Wf r) 0 P a w K Q:=by
 refine⟨λ_ _=>trivial,?_⟩
 rw[Oper.semAt_eq _ _ _ i,d,Oper.uponIn_enter]
 refine⟨λh=>by simp [Fence.wide] at h,?_⟩
 have f:CallsIn (Wf r) 0 P g xs w (zV P m h w v h'):=b
 refine CallsIn.mono f (λe w' j=>?_)
 obtain⟨x,m',rfl,k,f⟩:=j
 exact l x w' m' k f
theorem OW (n: ∀c,o.op≠ .defer c){l:Nat}{j:FuncId}{tmps:Array Value}{k f:Code}(d:(execOp a.eval o).run P w= .ok (.round l j tmps k f) w)
  (b:RoundIn (Wf none) 0 P l j tmps k f w (zV P m h w v h')) (s: ∀x w' m',VR m' v x->iZ P m h w m' h' w'->K (a.put o.dst x) w'):o.wpIn (Wf r) 0 P a w K Q:=by
 refine⟨λ_ _=>trivial,?_⟩
 rw[Oper.semAt_eq _ _ _ n,d,Oper.uponIn_round]
 refine⟨λh=>by simp [Fence.wide] at h,?_⟩
 have i:RoundIn (Wf r) 0 P l j tmps k f w (zV P m h w v h'):=b
 refine RoundIn.mono i (λe w' p=>?_)
 obtain⟨x,m',rfl,q,i⟩:=p
 exact s x w' m' q i
theorem sD {d:fU}(f:oW P pv defs o=some d): ∀c,o.op≠ .defer c:=by
 intro c b;unfold oW at f;rw[b] at f;simp at f
def AW (x:Option fU):Prop:= ∀act,x=some act-> ∃i,act= .op i
theorem Oz:AW none:=λ_ h=>by cases h
theorem Mm (i:I):AW (some (.op i)):=λ_ h=>by cases h;exact⟨i,rfl⟩
theorem Xl {α:Type}(x:Option α)(f:α->I):AW (x.map λa=> .op (f a)):=λ_ h=>by
 obtain⟨b,_,c⟩:=oF.1 h;exact⟨f b,c.symm⟩
theorem Mn {α:Type}(x:Option α)(f:α->Option fU)(h: ∀b,AW (f b)):AW (x.bind f):=λ_ d=>by
 obtain⟨b,_,c⟩:=uW.1 d;exact h b _ c
theorem TD {b:Builtin}{args:Array Operand}{c:Array TypeId}{ty:TypeId}:AW (uX P pv defs ⟨.builtin b,args,c⟩ ty):=by
 unfold uX
 cases b<;>simp only[zA]<;>
  repeat' first
   |exact Oz
   |contradiction
   |exact Mm _
   |exact Xl _ _
   |(refine Mn _ _ (λ_=>?_))
   |split
theorem IN (b: ∀c,o.op≠ .call c):AW (oW P pv defs o):=by
 unfold oW;cases hop:o.op
 case call c=>exact absurd hop (b c)
 all_goals
  simp only[zA]
  repeat' first
   |exact Oz
   |contradiction
   |exact Mm _
   |exact Xl _ _
   |(refine Mn _ _ (λ_=>?_))
   |split
theorem Us {j:fU}(d:oW P pv defs o=some j)(l: ∀i,j≠ .op i): ∃c x,o.op= .call c/\c.callee= .value x/\
  ((∃g args,x= .func g/\j= .call g args/\enters P g=true/\Bh pv defs c.args.toList=some args)\/
   (∃cx args,j= .callv cx args/\iM pv defs x=some cx/\Bh pv defs c.args.toList=some args)):=by
 by_cases f: ∀c,o.op≠ .call c
 .obtain⟨i,rfl⟩:=IN f _ d
  exact absurd rfl (l i)
 .have ⟨c,hop⟩: ∃c,o.op= .call c:=zQ λh=>f λc d=>h ⟨c,d⟩
  unfold oW at d
  rw[hop] at d
  have⟨k,args,y⟩:=c
  simp only at d
  cases k with
  |value x=>
   refine⟨_,x,hop,rfl,?_⟩;simp only[uX] at d
   cases x with
   |func g=>
    simp only at d;split at d
    .rename_i s
     simp only[oF] at d;obtain⟨xs,q,rfl⟩:=d;exact .inl ⟨g,xs,rfl,rfl,s,q⟩
    .cases d
   |_=>
    simp only[zA,uW] at d;have⟨cx,t,u,n,p⟩:=d;cases p;exact .inr ⟨cx,u,rfl,t,n⟩
  |invoke r mm=>cases d
  |builtin b=>
   obtain⟨i,rfl⟩:=TD _ d;exact absurd rfl (l i)
theorem PQ (hS:Dt P cl)(hY:yT P yl){l:fU}(hc:oW P pv defs o=some l)(s:St m nt pv defs vars loc a)(R:HR P m h w)(O:Lg m h.next)
  (p:rZ cl yl vars loc h l=some (v,h'))  
  (N: ∀x w' m',VR m' v x->iZ P m h w m' h' w'->K (a.put o.dst x) w'):o.wpIn (Wf r) 0 P a w K Q:=by
 have J:=sD hc
 by_cases hi: ∃i,l= .op i
 .obtain⟨i,rfl⟩:=hi
  exact Pz J (Iv s R O.fresh hc p) N
 .have hi: ∀i,l≠ .op i:=λi e=>hi ⟨i,e⟩
  obtain⟨c,x,Z,n,j⟩:=Us hc hi
  have⟨L,b,a0⟩:=c
  simp only at n j
  subst n
  have y:(F:Go.Fn)->(first u:Array Value)->a.eval x= .func F first u->execOp a.eval o=Go.invoke (.fn F u) (first++b.map a.eval):=by
   intro F first u G
   unfold execOp;rw[Z];simp [resolve,Deferred.ofValue,G]
  rcases j with ⟨g,z,rfl,rfl,A,f⟩|⟨cx,z,rfl,Y,f⟩
  .have U:=rL s f
   have d:(execOp a.eval o).run P w= .ok (.enter g (b.map a.eval)) w:=by
    rw[y _ _ _ rfl];simp [Go.invoke,Bc A]
   exact Wt J d ((hS _ _ _ _ _ p).2 m w _ (by simpa using U) R O) N
  .rw[rZ] at p
   have U:=rL s f
   have k:=aT s Y
   split at p
   .rename_i g fs cs G
    rw[G] at k
    have⟨xs,ys,t,h1,W⟩:=k
    have d:(execOp a.eval o).run P w= .ok (.enter g (xs++b.map a.eval++ys)) w:=by
     rw[y _ _ _ t];simp only[Go.invoke];exact Bc (hS _ _ _ _ _ p).1
    exact Wt J d ((hS _ _ _ _ _ p).2 m w _ (by simpa using (h1.append (U.append W))) R O) N
   .rename_i id G
    rw[G] at k
    have⟨q,hq,t⟩:=k
    obtain⟨F,B,aQ_,bd,h1,W⟩:=hY _ _ _ _ _ p m w (b.map a.eval) q (by simpa using U) R O hq
    have d:(execOp a.eval o).run P w= .ok (.round q.1 F B aQ_ bd) w:=by
     rw[y _ _ _ t];simpa [Go.invoke] using h1
    exact OW J d W N
   .cases p
end
end
end Go.Ay
namespace Go.Ay
open Go
section
variable {ops:Array Oper}
section
variable {P:Program} {cl yl:lJ} {m:M} {h h':H} {w:World} {nt:Nat} {pv defs:List Nat} {vars loc:List V} {a:Act} {o:Oper} {v:V}
def Dst (nt:Nat)(pv defs:List Nat)(dst:Option Tmp)(d:D)(defs':List Nat):Prop:=
 match dst with
 |none=>d= .n/\defs'=defs
 |some t=>t<nt/\match idx t pv with
  |some k=>d= .v k/\defs'=defs
  |none=>d= .l/\defs'=t::defs
theorem St.put (s:St m nt pv defs vars loc a){f:Option Tmp}{d:D}{b:List Nat}(c:Dst nt pv defs f d b){x:Value}(i:VR m v x):
  St m nt pv b (jG d vars loc v).1 (jG d vars loc v).2 (a.put f x):=by
 cases f with
 |none=>obtain⟨rfl,rfl⟩:=c;exact s
 |some t=>
  have⟨j,c⟩:=c;simp only[Act.put]
  cases hk:idx t pv with
  |some k=>
   simp only[hk] at c;obtain⟨rfl,rfl⟩:=c;exact⟨s.vars.set hk i,s.loc.aeN hk x⟩
  |none=>
   simp only[hk] at c;obtain⟨rfl,rfl⟩:=c;exact⟨s.vars.aeH hk x,s.loc.push (nt:=nt) hk (by rw[s.vars.size];exact j) i⟩
theorem St.mono {b:M}(e:Ext m b)(s:St m nt pv defs vars loc a):St b nt pv defs vars loc a:=⟨s.vars.mono e,s.loc.mono e⟩
theorem Gs {it:It}{c:List Nat}(n:uE P nt pv defs ops o=some (it,c)):
  oW P pv defs o=some it.a/\Dst nt pv defs o.dst it.d c/\
  (match o.guard with
   |none=>it.g=none
   |some (j,b)=> ∃t x,(ops[j]?).bind (·.dst)=some t/\iM pv defs (.tmp t)=some x/\it.g=some (x,b)):=by
 unfold uE at n
 split at n
 .rename_i r g d p i f
  cases n
  refine⟨p,?_,?_⟩
  .cases hdst:o.dst with
   |none=>rw[hdst] at f;cases f;exact⟨rfl,rfl⟩
   |some t=>
    rw[hdst] at f;simp only[abW] at f;split at f
    .rename_i l
     refine⟨l,?_⟩
     cases hk:idx t pv with
     |some k=>simp only[hk] at f;cases f;exact⟨rfl,rfl⟩
     |none=>simp only[hk] at f;cases f;exact⟨rfl,rfl⟩
    .cases f
  .cases ho:o.guard with
   |none=>rw[ho] at i;cases i;rfl
   |some jb=>
    have⟨j,b⟩:=jb;rw[ho] at i;simp only[abY] at i
    cases l:(ops[j]?).bind (·.dst) with
    |none=>simp [l] at i
    |some t=>
     simp only[l,oF] at i;obtain⟨x,q,rfl⟩:=i;exact⟨t,x,l,q,rfl⟩
 .cases n
theorem Cw (s:St m nt pv defs vars loc a){g:Option (X×Bool)}{b:Bool}(i:(match o.guard with
   |none=>g=none
   |some (j,b)=> ∃t x,(ops[j]?).bind (·.dst)=some t/\iM pv defs (.tmp t)=some x/\g=some (x,b))) (f:iV vars loc g=some b):
  Region.wanted o (yielded ops a.tmps)=b:=by
 unfold Region.wanted
 cases ho:o.guard with
 |none=>simp only[ho] at i;subst i;simp only[iV] at f;cases f;rfl
 |some jb=>
  have⟨j,n⟩:=jb;simp only[ho] at i;obtain⟨t,x,p,q,rfl⟩:=i;have d:=aT s q;simp only[iV] at f;simp only[yielded,p,Option.bind_some];have l:a.eval (.tmp t)=a.tmps.getD t undef:=rfl;rw[l] at d;split at f
  .rename_i c k
   rw[k] at d;have d:a.tmps.getD t undef= .bool c:=d;cases f
   cases hq:a.tmps[t]? with
   |none=>simp [KN,hq,undef] at d
   |some y=>
    simp [KN,hq] at d;subst d;simp
  .rename_i k
   rw[k] at d;have⟨xs,d,_⟩:=d;cases f
   cases hq:a.tmps[t]? with
   |none=>simp
   |some y=>
    simp [KN,hq] at d;subst d;simp
  .cases f
theorem acL (Y:Dt P cl)(L:yT P yl){r:Option Nat}{Q:Exit->Act->World->Prop}(G:List Nat):(l:List Nat)->(defs:List Nat)->(its:List It)->(vars loc:List V)->(h:H)->(vars':List V)->(h':H)->
  Dc P nt pv ops l defs=some its->xE cl yl its vars loc h=some (vars',h')->
  ∀(m:M) (w:World) (a:Act),St m nt pv defs vars loc a->HR P m h w->Lg m h.next->
  (∀a' w' m',jV m' nt pv vars' a'.tmps->a'.defers=a.defers->iZ P m h w m' h' w'->wpOpsIn (Wf r) 0 P ops Q G a' w')->
  wpOpsIn (Wf r) 0 P ops Q (l++G) a w:=by
 intro l
 induction l with
 |nil=>
  intro defs its vars loc h vars' h' j f m w a s u B z;simp only[Dc] at j;cases j;have:vars=vars'/\h=h':=by simpa [xE] using f
  obtain⟨rfl,rfl⟩:=this;exact z a w m s.vars rfl (iZ.Mo u)
 |cons i l ih=>
  intro defs its vars loc h vars' h' j f m w a s u B z;simp only[Dc] at j
  cases ho:ops[i]? with
  |none=>simp [ho] at j
  |some o=>
   simp only[ho] at j
   cases hit:uE P nt pv defs ops o with
   |none=>simp [hit] at j
   |some q=>
    have⟨it,n⟩:=q;simp only[hit,oF] at j;obtain⟨k,A,rfl⟩:=j;obtain⟨K,N,O⟩:=Gs hit;rw[xE] at f
    have next:(v:V)->(p:H)->xE cl yl k (jG it.d vars loc v).1 (jG it.d vars loc v).2 p=some (vars',h')-> ∀x t y,VR y v x->iZ P m h w y p t->wpOpsIn (Wf r) 0 P ops Q (l++G) (a.put o.dst x) t:=by
     intro v p F x t y W c;refine ih n k _ _ p vars' h' A F y t _ ((s.mono c.ext).put N W) c.rel (c.low B) (λa' w' m' R J U=>z a' w' m' R ?_ (c.trans U));rw[J];cases o.dst<;>rfl
    simp only[List.cons_append,wpOpsIn,ho]
    cases hw:iV vars loc it.g with
    |none=>simp [hw] at f
    |some b=>
     rw[hw] at f;rw[Cw s O hw]
     cases b with
     |true=>
      simp only[if_true];simp only at f
      cases hact:rZ cl yl vars loc h it.a with
      |none=>simp [hact] at f
      |some q=>
       have⟨v,p⟩:=q;simp only[hact] at f;exact PQ Y L K s u B hact (next v p f)
     |false=>
      simp only[Bool.false_eq_true,if_false];exact⟨λ_ _=>trivial,next .undef h f undef w m (VR.undef m) (iZ.Mo u)⟩
end
end
end Go.Ay
namespace Go.Ay
open Go
section
variable {ρ:X->V} {h h':H} {i:I} {v:V}
theorem Ft {ρ':X->V}(a: ∀x∈i.xs,ρ x=ρ' x):fJ ρ h i=fJ ρ' h i:=by
 have d:(l:List X)->(∀x∈l,ρ x=ρ' x)->l.map ρ=l.map ρ':=λl k=>Sk k
 cases i with
 |mkf f fs cs=>simp only[fJ];rw[d fs (λx h=>a x (by simp [I.xs,h])),d cs (λx h=>a x (by simp [I.xs,h]))]
 |bld z ps=>
  simp only[fJ];rw[show (ps.map λp=>(p.1,p.2.1,ρ p.2.2))=ps.map λp=>(p.1,p.2.1,ρ' p.2.2) from Sk λp b=>by rw[a p.2.2 (by simp only[I.xs,qU];exact⟨p,b,rfl⟩)]]
 |bls s z n ps=>
  simp only[fJ];rw[show (ps.map λp=>(p.1,p.2.1,ρ p.2.2))=ps.map λp=>(p.1,p.2.1,ρ' p.2.2) from Sk λp b=>by rw[a p.2.2 (by simp only[I.xs,qU];exact⟨p,b,rfl⟩)]]
 |slc s x lo hi mx=>
  simp only[fJ];rw[a x (by simp [I.xs])];have c:lo.map ρ=lo.map ρ':=by cases lo with|none=>rfl|some y=>simp [a y (by simp [I.xs])]
  have m:hi.map ρ=hi.map ρ':=by cases hi with|none=>rfl|some y=>simp [a y (by simp [I.xs])]
  have j:mx.map ρ=mx.map ρ':=by cases mx with|none=>rfl|some y=>simp [a y (by simp [I.xs])]
  rw[c,m,j]
 |mkw s r=>
  have c:r.map ρ=r.map ρ':=by cases r with|none=>rfl|some y=>simp [a y (by simp [I.xs])]
  simp only[fJ,c]
 |_=>simp only[fJ,I.xs,uL,List.mem_nil_iff,or_false,forall_eq_or_imp,forall_eq,List.not_mem_nil] at a |- <;>simp only[a]
theorem Vn (b:i.rN=false)(h2:i.nY=false)(h3:i.sY=false)(a:fJ ρ h i=some (v,h')):
  h'=h/\ ∀h2,fJ ρ h2 i=some (v,h2):=by
 cases i<;>simp [I.rN,I.nY,I.sY] at b h2 h3<;>simp only[fJ,Option.map_map] at a |- <;>
  (repeat' first
   |(cases a;done)
   |(cases a;exact⟨rfl,λ_=>by simp [*]⟩)
   |exact⟨rfl,λ_=>rfl⟩
   |(simp only[oF,Prod.mk.injEq] at a;obtain⟨_,c,rfl,rfl⟩:=a;exact⟨rfl,λ_=>by simp [*]⟩)
   |split at a)
theorem RB (b:i.rN=true)(a:fJ ρ h i=some (v,h')):h'=h:=by
 cases i<;>simp [I.rN] at b<;>simp only[fJ] at a<;>
  (repeat' first
   |(cases a;done)
   |(cases a;rfl)
   |(simp only[oF,Prod.mk.injEq] at a;obtain⟨_,c,d,rfl⟩:=a;rfl)
   |split at a)
theorem GL {vs ws:List V}(a:i.rN=true):fJ (xv vs ws) h (i.close ρ)=fJ ρ h i:=by
 cases i<;>simp [I.rN] at a<;>first|rfl|simp only[fJ,I.close,xv]
theorem aeJ (j:i.nY=true)(a:fJ ρ h i=some (v,h')):
  ∃o:Ob,o.rw=true/\h'=h.new o/\ ∀h2:H,h2.next=h.next->fJ ρ h2 i=some (v,h2.new o):=by
 cases i<;>simp [I.nY] at j<;>simp only[fJ,Ct] at a |-
 case alc z=>cases a;exact⟨_,rfl,rfl,λh2 e=>by rw[e]⟩
 case mkw s r=>
  split at a
  .rename_i d
   cases a;exact⟨_,rfl,rfl,λh2 e=>by rw[bL d,e]⟩
  .cases a
 case box x=>
  split at a
  .rename_i d
   cases a;exact⟨.cells false (ρ x).cells,rfl,rfl,λh2 e=>by rw[bL d,e]⟩
  .cases a
 case mks s b z l c=>
  split at a
  .rename_i k p m u f t
   split at a
   .rename_i d
    cases a;exact⟨_,rfl,rfl,λh2 e=>by rw[bL d,e]⟩
   .cases a
  .cases a
 case bls s z n ps=>
  split at a
  .rename_i q f
   split at a
   .rename_i d
    cases a;exact⟨_,rfl,rfl,λh2 e=>by rw[bL d,e]⟩
   .cases a
  .cases a
theorem Wx {j k:lJ}{d:fU}{c a b:List V}(f: ∀x∈d.xs,xv c b x=xv a b x):
  rZ j k c b h d=rZ j k a b h d:=by
 cases d with
 |op i=>exact Ft f
 |call g args=>simp only[rZ];rw[show args.map (xv c b)=args.map (xv a b) from Sk (λx h=>f x h)]
 |callv x args=>
  simp only[rZ];rw[f x (by simp [fU.xs]),Sk (λy h=>f y (by simp [fU.xs,h]))]
end
end Go.Ay
namespace Go.Ay
open Go
section
variable {P:Program}
theorem HR.sub {m:M}{h g:H}{w:World}(c:HR P m h w)(a: ∀id o,g.get id=some o->h.get id=some o):HR P m g w:=
 ⟨λid o d=>c.live id o (a id o d),λi j l p n f b hi k=>c.inj i j l p n f b (a _ _ hi) (a _ _ k)⟩
theorem iZ.frame {m0 m m':M}{h0 J y g g':H}{w0 w w':World}(a:iZ P m0 h0 w0 m J w)(l: ∀id o,g.get id=some o->J.get id=some o)(b:iZ P m g w m' g' w')
  (R: ∀id o,y.get id=some o->g'.get id=some o\/(J.get id=some o/\o.rw=true/\g.get id=none))
  (n1:h0.next<=g.next) (n2:g'.next<=y.next) (n3:J.next<=y.next):iZ P m0 h0 w0 m' y w':=by
 have k: ∀id o p,J.get id=some o->o.rw=true->g.get id=none->m id=some p-> ¬LB m g p.1:=by
  intro id o p c u n h4 ⟨j,B,q,s,e2,t⟩;have a6:id≠j:=λe=>by subst e;rw[n] at s;cases s
  exact a.rel.inj id j o B p q a6 c (l _ _ s) u h4 e2 t.symm
 have a4:(m:M)->(h:H)->(b:Nat)->FP m h b->LB m h b:=λm h b ⟨i,o,p,s,_,t,A⟩=>⟨i,o,p,s,t,A⟩
 have z: ∀b,FP m g b->FP m J b:=λb ⟨i,o,p,s,e2,t,A⟩=>⟨i,o,p,l _ _ s,e2,t,A⟩
 have O: ∀b,LB m g b->LB m J b:=λb ⟨i,o,p,s,t,A⟩=>⟨i,o,p,l _ _ s,t,A⟩
 have d: ∀id o,J.get id=some o-> ∃p,m id=some p/\OR P m o p w:=a.rel.live
 have kept: ∀id o p,J.get id=some o->o.rw=true->g.get id=none->m id=some p->OR P m o p w->OR P m' o p w':=by
  intro id o p c u n h4 K;exact OR.mono b.ext (b.kept.block _ K.lt (λY=>k id o p c u n h4 (a4 _ _ _ Y))) K
 refine⟨a.ext.trans b.ext,⟨λid o U=>?_,λi j Z B pi pj a2 hi hj a0 N G=>?_⟩,λid p hp=>?_,?_,λx Q=>?_,?_,λx Q=>?_,λid U hn=>?_⟩
 .rcases R id o U with c|⟨c,u,n⟩
  .exact b.rel.live id o c
  .obtain⟨p,hp,K⟩:=d id o c
   exact⟨p,b.ext _ _ hp,kept id o p c u n hp K⟩
 .rcases R i Z hi with c|⟨c,u,n⟩
  .rcases R j B hj with F|⟨F,k2,k3⟩
   .exact b.rel.inj i j Z B pi pj a2 c F a0 N G
   .obtain⟨q,v,K⟩:=d j B F
    have f:=b.ext _ _ v
    rw[G] at f;cases f
    intro e
    rcases b.lb pi.1 ⟨i,Z,pi,c,N,rfl⟩ with r|r
    .exact k j B _ F k2 k3 v (e▸r)
    .have:=K.lt;omega
  .obtain⟨q,v,K⟩:=d i Z c
   have f:=b.ext _ _ v
   rw[N] at f;cases f
   rcases R j B hj with F|⟨F,k2,k3⟩
   .intro e
    rcases b.lb pj.1 ⟨j,B,pj,F,G,rfl⟩ with r|r
    .exact k i Z _ c u n v (e▸r)
    .have:=K.lt;omega
   .obtain⟨q2,a5,_⟩:=d j B F
    have L:=b.ext _ _ a5
    rw[G] at L;cases L
    exact a.rel.inj i j Z B _ _ a2 c F a0 v a5
 .rcases b.fresh id p hp with c|⟨c,u⟩
  .rcases a.fresh id p c with n|⟨n,h4⟩
   .exact .inl n
   .exact .inr ⟨n,om⟩
  .exact .inr ⟨om,om⟩
 .exact⟨b.kept.os.trans a.kept.os,b.kept.tape.trans a.kept.tape,b.kept.output.trans a.kept.output,kP a.kept.size b.kept.size,λx a3 a1=>by
   have c:=a.kept.block x a3 a1;have u:=b.kept.block x (kQ a3 a.kept.size) (λY=>(a.fp x (z x Y)).elim a1 (λa8=>om))
   exact u.trans c⟩
 .have⟨i,o,p,s,e2,t,A⟩:=Q
  rcases R i o s with c|⟨c,u,n⟩
  .rcases b.fp x ⟨i,o,p,c,e2,t,A⟩ with r|r
   .exact a.fp x (z x r)
   .exact .inr (kP a.kept.size r)
  .obtain⟨q,v,_⟩:=d i o c
   have f:=b.ext _ _ v
   rw[t] at f;cases f
   exact a.fp x ⟨i,o,_,c,e2,v,A⟩
 .have:=a.next;omega
 .have⟨i,o,p,s,t,A⟩:=Q
  rcases R i o s with c|⟨c,u,n⟩
  .rcases b.lb x ⟨i,o,p,c,t,A⟩ with r|r
   .exact a.lb x (O x r)
   .exact .inr (kP a.kept.size r)
  .obtain⟨q,v,_⟩:=d i o c
   have f:=b.ext _ _ v
   rw[t] at f;cases f
   exact a.lb x ⟨i,o,_,c,v,A⟩
 .cases hg:y.get id with
  |none=>rfl
  |some o=>
   exfalso;have W:=a.old id U hn;rcases R id o hg with c|⟨c,_⟩
   .have a7:g.get id=none:=by
     cases hgg:g.get id with
     |none=>rfl
     |some o2=>rw[l _ _ hgg] at W;cases W
    rw[b.old id om a7] at c;cases c
   .rw[W] at c;cases c
end
end Go.Ay
namespace Go.Ay
open Go
section
variable {h:H} {S S':Nat->Bool}
structure Rec where
 x:AI
 vars:List V
 hb:H
 b:Bool
 v:V
 ha:H
def Rec.aff (r:Rec):Bool:=r.x.it.a.sY||(r.x.al&&r.b)
def KQ (vs:List V)(r:Rec):List V:=(jG r.x.it.d vs [] r.v).1
def xA (S:Nat->Bool)(T:List Rec)(vs:List V):List V:=T.foldl (λvs r=>if S r.x.i then KQ vs r else vs) vs
def jE (base:Nat)(S:Nat->Bool)(h:H)(r:Rec):H:=
 if S r.x.i then (if r.x.it.a.sY then r.ha else if r.x.al&&r.b then h.set (base+r.x.i) (r.ha.get (base+r.x.i)) else h) else h
def mL (base:Nat)(S:Nat->Bool)(T:List Rec)(h:H):H:=T.foldl (jE base S) h
def Cv (r:Rec)(log:Log):Log:=if r.b then Fo r.x r.vars r.v log else log
def Tz (T:List Rec)(log:Log):Log:=T.foldl (λl r=>Cv r l) log
def abV (cl yl:lJ)(base:Nat)(log:Log)(r:Rec):Prop:=
 iV r.vars [] r.x.it.g=some r.b/\pM r.x.cks log r.ha=true/\
 (if r.b then (if r.x.al then Ll r.vars r.hb (base+r.x.i) r.x.it.a=some (r.v,r.ha) else rZ cl yl r.vars [] r.hb r.x.it.a=some (r.v,r.ha)) else r.v= .undef/\r.ha=r.hb)
def Mh (cl yl:lJ)(base:Nat):List Rec->List V->Log->H->List V->H->Prop
 | [],vars,_,h,vars',h'=>vars=vars'/\h=h'
 |r::T,vars,log,h,vars',h'=>r.vars=vars/\r.hb=h/\abV cl yl base log r/\Mh cl yl base T (KQ vars r) (Cv r log) r.ha vars' h'
section
variable {cl yl:lJ} {base:Nat}
theorem Jh:(xs:List AI)->(vars:List V)->(log:Log)->(h:H)->(vars':List V)->(h':H)->uT cl yl base xs vars log h=some (vars',h')->
  ∃T:List Rec,T.map (·.x)=xs/\Mh cl yl base T vars log h vars' h'
 | [],vars,log,h,vars',h',he=>by
  rw[uT] at he;have:vars=vars'/\h=h':=by simpa using he
  exact⟨[],rfl,this⟩
 |x::xs,vars,log,h,vars',h',he=>by
  rw[uT] at he;split at he
  .rename_i d
   split at he
   .rename_i v j a
    split at he
    .rename_i b
     obtain⟨T,i,f⟩:=Jh xs _ _ _ _ _ he;refine⟨⟨x,vars,h,true,v,j⟩::T,by simp [i],rfl,rfl,⟨d,b,?_⟩,f⟩;simp only[if_true]
     by_cases c:x.al=true
     .simp only[c,if_true] at a |-;exact a
     .simp only[c,if_false] at a |-;exact a
    .cases he
   .cases he
  .rename_i d
   split at he
   .rename_i b
    obtain⟨T,i,f⟩:=Jh xs _ _ _ _ _ he;exact⟨⟨x,vars,h,false,.undef,h⟩::T,by simp [i],rfl,rfl,⟨d,b,siM⟩,f⟩
   .cases he
  .cases he
theorem Qf {b:List V}{h':H}{n:Nat}{a:fU}{v:V}(c:a.nY=true)(d:Ll b h n a=some (v,h')):
  ∃i o,a= .op i/\i.nY=true/\o.rw=true/\h'=h.set n (some o)/\ ∀h2:H,h2.next=n->fJ (xv b []) h2 i=some (v,h2.new o):=by
 cases a with
 |op i=>
  simp only[fU.nY] at c;simp only[Ll] at d;split at d
  .rename_i m l hi
   obtain⟨o,f,k,j⟩:=aeJ c hi;cases d;exact⟨i,o,rfl,c,f,by rw[k];rfl,j⟩
  .cases d
 |call g args=>simp [fU.nY] at c
 |callv x args=>simp [fU.nY] at c
theorem Nl {a:List V}{h':H}{b:fU}{v:V}(c:b.sY=false)(j:b.nY=false)(d:rZ cl yl a [] h b=some (v,h')):
  h'=h/\ ∃i,b= .op i/\fJ (xv a []) h i=some (v,h')/\(i.rN=false-> ∀h2,fJ (xv a []) h2 i=some (v,h2)):=by
 cases b with
 |op i=>
  simp only[fU.sY,fU.nY] at c j;refine⟨?_,i,rfl,d,λf=>(Vn f j c d).2⟩
  by_cases f:i.rN=true
  .exact RB f d
  .exact (Vn (by simpa using f) j c d).1
 |call g args=>simp [fU.sY] at c
 |callv x args=>simp [fU.sY] at c
theorem QI {a:fU}(h:a.nY=true):a.sY=false:=by
 cases a with
 |op i=>cases i<;>simp_all [fU.nY,fU.sY,I.nY,I.sY]
 |_=>simp [fU.nY] at h
theorem aaO {j:Log}{r:Rec}(d:r.x.al=r.x.it.a.nY)(c:abV cl yl base j r):jE base (λ_=>true) r.hb r=r.ha:=by
 have⟨_,_,c⟩:=c;simp only[jE,if_true]
 by_cases f:r.x.it.a.sY=true
 .simp [f]
 .simp only[f]
  cases hb:r.b with
  |false=>simp only[hb] at c;simp [c.2]
  |true=>
   simp only[hb,if_true] at c
   cases ha:r.x.al with
   |true=>
    simp only[ha,if_true] at c;obtain⟨i,o,_,_,_,e,_⟩:=Qf (d▸ha) c;simp [e,H.jD,H.dE]
   |false=>
    simp only[ha] at c;obtain⟨e,_⟩:=Nl (by simpa using f) (d▸ha) c;simp [e]
theorem uV:(T1 T2:List Rec)->(vars:List V)->(log:Log)->(h:H)->(vars':List V)->(h':H)->(∀r∈T1,r.x.al=r.x.it.a.nY)->Mh cl yl base (T1++T2) vars log h vars' h'->
  Mh cl yl base T2 (xA (λ_=>true) T1 vars) (Tz T1 log) (mL base (λ_=>true) T1 h) vars' h'
 | [],T2,vars,log,h,vars',h',_,hc=>hc
 |r::T1,T2,vars,log,h,vars',h',ha,hc=>by
  have⟨j,f,d,i⟩:=hc;have:=uV T1 T2 _ _ _ _ _ (λq c=>ha q (tX _ c)) i;have b:=aaO (ha r (sZ ..)) d;rw[f] at b;simpa [xA,mL,Tz,b] using this
theorem xH {vs:List V}{r:Rec}(a:r.x.it.Bj=false):KQ vs r=match r.x.it.wr with|some k=>vs.set k r.v|none=>vs:=by
 unfold KQ It.wr jG It.Bj at*;cases hd:r.x.it.d<;>simp_all
theorem Em {S S':Nat->Bool}{k:Nat}:(T:List Rec)->(vs vs':List V)->(∀r∈T,r.x.it.Bj=false)->vs.length=vs'.length->vs.getD k .undef=vs'.getD k .undef->
  (∀r∈T,r.x.it.wr=some k->S r.x.i=S' r.x.i)->(xA S T vs).getD k .undef=(xA S' T vs').getD k .undef
 | [],_,_,_,_,h,_=>h
 |r::T,vs,vs',hl,hlen,h,hk=>by
  have n:=hl r (sZ ..);simp only[xA,List.foldl_cons]
  have a:(c:Bool)->(b:List V)->(if c then KQ b r else b).length=b.length:=by
   intro c b;split
   .rw[xH n];split<;>simp
   .rfl
  refine Em T _ _ (λq o=>hl q (tX _ o)) (by rw[a,a,hlen]) ?_ (λq o=>hk q (tX _ o))
  have d:(c:Bool)->(b:List V)->r.x.it.wr≠some k->(if c then KQ b r else b).getD k V.undef=b.getD k .undef:=by
   intro c b p;split
   .rw[xH n]
    split
    .rename_i j s
     have:j≠k:=λe=>p (by rw[s,e])
     simp [List.getD,List.getElem?_set_ne this]
    .rfl
   .rfl
  by_cases m:r.x.it.wr=some k
  .rw[hk r (sZ ..) m]
   split
   .rw[xH n,xH n,m]
    simp only[List.getD,List.getElem?_set_self',hlen]
    by_cases f:k<vs'.length
    .simp [f,hlen]
    .have l: ¬k<vs.length:=om
     simp [f,l]
   .exact h
  .rw[d _ _ m,d _ _ m];exact h
theorem RP {S:Nat->Bool}{r:Rec}(d:r.x.it.Bj=false):(T:List Rec)->(vs:List V)->(∀q∈T,q.x.it.Bj=false)->(∀q∈T,S q.x.i=true-> ∀k,q.x.it.wr=some k->r.x.it.wr≠some k)->
  xA S T (KQ vs r)=KQ (xA S T vs) r
 | [],_,_,_=>rfl
 |q::T,vs,hl,hk=>by
  have f:=hl q (sZ ..);have c:=RP (S:=S) d T;simp only[xA,List.foldl_cons] at c |-
  by_cases b:S q.x.i=true
  .simp only[b,if_true]
   rw[<-c (KQ vs q) (λy a=>hl y (tX _ a)) (λy a=>hk y (tX _ a))];congr 1;rw[xH d,xH f,xH f,xH d]
   cases hw:r.x.it.wr with
   |none=>rfl
   |some j=>
    cases hw2:q.x.it.wr with
    |none=>rfl
    |some k=>
     have:j≠k:=λe=>hk q (sZ ..) b k hw2 (by rw[hw,e])
     simp only;exact List.set_comm _ _ this
  .simp only[b,Bool.false_eq_true,if_false]
   exact c vs (λy a=>hl y (tX _ a)) (λy a=>hk y (tX _ a))
theorem Ds {S S':Nat->Bool}:(T:List Rec)->(vs:List V)->(∀q∈T,S q.x.i=S' q.x.i)->xA S T vs=xA S' T vs
 | [],_,_=>rfl
 |q::T,vs,h=>by
  have a:=Ds (S:=S) (S':=S') T;simp only[xA,List.foldl_cons] at a |-;rw[h q (sZ ..)];exact a _ (λy b=>h y (tX _ b))
theorem DQ {r:Rec}(j:r.aff=true->S r.x.i=S' r.x.i):jE base S h r=jE base S' h r:=by
 by_cases c:r.aff=true
 .simp only[jE,j c]
 .have d:r.x.it.a.sY=false:=by simp [Rec.aff] at c;exact c.1
  have f:(r.x.al&&r.b)=false:=by simp [Rec.aff] at c;simpa using c.2
  simp [jE,d,f]
theorem yD {S S':Nat->Bool}:(T:List Rec)->(h:H)->(∀q∈T,q.aff=true->S q.x.i=S' q.x.i)->mL base S T h=mL base S' T h
 | [],_,_=>rfl
 |q::T,h,hs=>by
  have a:=yD (S:=S) (S':=S') T;simp only[mL,List.foldl_cons] at a |-;rw[DQ (hs q (sZ ..))];exact a _ (λy b=>hs y (tX _ b))
def Extra (base:Nat)(S:Nat->Bool)(T:List Rec)(id:Nat):Prop:= ∃q∈T,S q.x.i=true/\q.x.al=true/\q.b=true/\base+q.x.i=id
theorem ZZ {r:Rec}(d:S r.x.i=true->r.x.it.a.sY=false):
  jE base S h r=if S r.x.i=true/\r.x.al=true/\r.b=true then h.set (base+r.x.i) (r.ha.get (base+r.x.i)) else h:=by
 unfold jE
 by_cases c:S r.x.i=true
 .simp only[c,if_true,d c,Bool.false_eq_true,if_false,true_and,rG]
 .simp [c]
theorem qH {S:Nat->Bool}:(T:List Rec)->(h:H)->(∀q∈T,S q.x.i=true->q.x.it.a.sY=false)->
  (mL base S T h).next=h.next/\
  (∀id,¬Extra base S T id->(mL base S T h).get id=h.get id)/\
  (∀id,Extra base S T id-> ∃q∈T,S q.x.i=true/\q.x.al=true/\q.b=true/\base+q.x.i=id/\ ∀h',(mL base S T h').get id=q.ha.get id)
 | [],h,_=>⟨rfl,λ_ _=>rfl,λid p=>by have⟨q,c,_⟩:=p;cases c⟩
 |r::T,h,hn=>by
  have e:=λh=>ZZ (base:=base) (h:=h) (hn r (sZ ..))
  have j:=λh=>qH T h (λq c=>hn q (tX _ c))
  simp only[mL,List.foldl_cons] at j |-;refine⟨?_,λid d=>?_,λid d=>?_⟩
  .rw[(j _).1,e]
   split<;>rfl
  .have m: ¬Extra base S T id:=λ⟨q,c,hh⟩=>d ⟨q,tX _ c,hh⟩
   rw[(j _).2.1 id m,e];split
   .rename_i o
    have:id≠base+r.x.i:=λe=>d ⟨r,sZ ..,o.1,o.2.1,o.2.2,e.symm⟩
    simp [H.jD,H.dE,this]
   .rfl
  .by_cases m:Extra base S T id
   .obtain⟨q,c,k,l,n,f,s⟩:=(j h).2.2 id m
    exact⟨q,tX _ c,k,l,n,f,λh'=>s _⟩
   .have⟨q,c,k,l,n,f⟩:=d
    rcases uL.1 c with rfl|c
    .refine⟨q,sZ ..,k,l,n,f,λh'=>?_⟩
     rw[(j _).2.1 id m,e,bL ⟨k,l,n⟩];simp [H.jD,H.dE,<-f]
    .exact absurd ⟨q,c,k,l,n,f⟩ m
theorem Ud {S:Nat->Bool}{id:Nat}:(T:List Rec)->(h:H)->h.get id=none->(∀q∈T,S q.x.i=true->q.x.it.a.sY=true->q.ha.get id=none)->(∀q∈T,base+q.x.i≠id)->
  (mL base S T h).get id=none
 | [],h,hn,_,_=>hn
 |r::T,h,hn,h1,h2=>by
  have c:=Ud (S:=S) (id:=id) T;simp only[mL,List.foldl_cons] at c |-;refine c _ ?_ (λq b=>h1 q (tX _ b)) (λq b=>h2 q (tX _ b));unfold jE;split
  .rename_i f
   split
   .rename_i d;exact h1 r (sZ ..) f d
   .split
    .have:id≠base+r.x.i:=λe=>h2 r (sZ ..) e.symm
     simp [H.jD,H.dE,this,hn]
    .exact hn
  .exact hn
theorem DM {a b:List Rec}:mL base S (a++b) h=mL base S b (mL base S a h):=by simp [mL]
theorem VE {a b:List Rec}{vs:List V}:xA S (a++b) vs=xA S b (xA S a vs):=by simp [xA]
end
end
end Go.Ay
namespace Go.Ay
open Go
section
variable {p q:AI} {k:Nat}
def Down (dep:Nat->List Nat)(S:Nat->Bool):Prop:= ∀j,S j=true-> ∀d∈dep j,S d=true
def OU (dep:Nat->List Nat)(a b:Nat):Prop:= ∀S:Nat->Bool,Down dep S->(∀d∈dep b,S d=true)->S a=true
structure Ys (dep:Nat->List Nat)(n:Nat)(xs:List AI):Prop where
 pw:xs.Pairwise λa b=>a.i≠b.i/\(Ar a b=true->OU dep a.i b.i)/\(a.it.a.rN=true->b.it.a.sY=true->OU dep a.i b.i\/b.cks.contains a.i=true)
 al: ∀x∈xs,x.al=x.it.a.nY/\x.it.Bj=false
 lt: ∀x∈xs,x.i<n
 cover: ∀i,i<n-> ∃x∈xs,x.i=i
 ord: ∀l1 x l2,xs=l1++x::l2-> ∀d∈dep x.i,∃y∈l1,y.i=d
structure Inv (P:Program)(base n:Nat)(T:List Rec)(vars0:List V)(hS:H)(nt:Nat)(pv:List Nat)(m0:M)(h0:H)(w0:World)(ds:List Deferred)(S:Nat->Bool)(m:M)(a:Act)(w:World):Prop where
 st:St m nt pv [] (xA S T vars0) [] a
 df:a.defers=ds
 Xx:iZ P m0 h0 w0 m (mL base S T hS) w
 nx:base+n<=(mL base S T hS).next
 free: ∀r∈T,r.x.al=true->S r.x.i=false->m (base+r.x.i)=none
 none: ∀T1 q T2,T=T1++q::T2->S q.x.i=true->q.x.it.a.sY=true-> ∀r∈T2,r.x.al=true->q.ha.get (base+r.x.i)=none
section
variable {P:Program} {cl yl:lJ} {base n:Nat} {T:List Rec} {vars0:List V} {hS:H} {nt:Nat} {pv:List Nat} {m0:M} {h0:H} {w0:World} {ds:List Deferred}
 {S:Nat->Bool} {m:M} {a:Act} {w:World} {dep:Nat->List Nat} {ops:Array Oper}
theorem Tb {vs us:List V}{x:X}(h: ∀k∈x.Mt,vs.getD k .undef=us.getD k .undef):xv vs [] x=xv us [] x:=by
 cases x with
 |v k=>exact h k (by simp [X.Mt])
 |l k=>rfl
 |c v=>rfl
theorem acA (j:Ys dep n (T.map (·.x))){c f:List Rec}{r:Rec}(l:T=c++r::f):
  (∀q∈c,q.x.i≠r.x.i/\(Ar q.x r.x=true->OU dep q.x.i r.x.i)/\(q.x.it.a.rN=true->r.x.it.a.sY=true->OU dep q.x.i r.x.i\/r.x.cks.contains q.x.i=true))/\
  (∀q∈f,r.x.i≠q.x.i/\(Ar r.x q.x=true->OU dep r.x.i q.x.i)/\(r.x.it.a.rN=true->q.x.it.a.sY=true->OU dep r.x.i q.x.i\/q.x.cks.contains r.x.i=true))/\
  (∀q∈c,∀q2∈f,q.x.i≠q2.x.i):=by
 have h:=j.pw
 rw[List.pairwise_map,l,List.pairwise_append,List.pairwise_cons] at h
 exact⟨λq b=>h.2.2 q b r (sZ ..),λq b=>h.2.1.1 q b,λq b q2 d=>(h.2.2 q b q2 (tX _ d)).1⟩
theorem MQ (b:p.it.wr=some k)(h2:k∈q.it.rds):Ar p q=true:=by
 simp [Ar,b,h2]
theorem PX (b:q.it.wr=some k)(h2:k∈p.it.rds):Ar p q=true:=by
 simp [Ar,b,h2]
theorem aaE (b:p.it.wr=some k)(h2:q.it.wr=some k):Ar p q=true:=by
 simp [Ar,b,h2]
theorem Mw (b:p.it.a.sY=true\/p.it.a.nY=true)(h2:q.it.a.sY=true\/q.it.a.rN=true):Ar p q=true:=by
 unfold Ar;simp only[Bool.or_eq_true,rG];exact .inr ⟨b,h2⟩
theorem ND {it:It}{vs:List V}{v:V}(h:it.Bj=false):(jG it.d vs [] v).2= []:=by
 unfold It.Bj at h;unfold jG
 cases hd:it.d with
 |l=>simp [hd] at h
 |v k=>rfl
 |n=>rfl
theorem AY:(T:List Rec)->(z:List V)->xA (λ_=>false) T z=z
 | [],_=>rfl
 |q::t,z=>by simpa [xA] using AY t z
theorem Tv {e:Nat×I×V}:(T:List Rec)->(log:Log)->e∈log->e∈Tz T log
 | [],_,h=>h
 |r::T,log,h=>by
  refine Tv T _ ?_;simp only[Cv];split
  .unfold Fo
   split
   .split
    .exact tX _ h
    .exact h
   .exact h
  .exact h
theorem BK {cks:List Nat}{b:Log}{h:H}(d:pM cks b h=true){i:Nat}{I:I}{v:V}(c:(i,I,v)∈b)(l:cks.contains i=true):
  ∃h',fJ (xv [] []) h I=some (v,h'):=by
 have:=vE.1 d _ c
 simp only[l,Bool.not_true,Bool.false_or] at this
 split at this
 .rename_i o j f
  exact⟨j,by rw[f,Eo _ _ this]⟩
 .cases this
theorem acJ (i9:Dt P cl)(j3:yT P yl){e7:List V}{h':H}(hC:Mh cl yl base T vars0 [] hS e7 h')(hP:Ys dep n (T.map (·.x)))
  (hb:base=h0.next) (f3:hS.get=h0.get) (f5:Lg m0 h0.next) (j1:HR P m0 h0 w0)
  {J F:List Rec} {r:Rec} (hT:T=J++r::F) (hd:Down dep S) (g1: ∀d∈dep r.x.i,S d=true) (b9:S r.x.i=false)
  {o:Oper} (ho:ops[r.x.i]? =some o) (c1:oW P pv [] o=some r.x.it.a) (c2:Dst nt pv [] o.dst r.x.it.d [])
  (c3:match o.guard with
   |none=>r.x.it.g=none
   |some (j,b)=> ∃t x,(ops[j]?).bind (·.dst)=some t/\iM pv [] (.tmp t)=some x/\r.x.it.g=some (x,b))
  (N:Inv P base n T vars0 hS nt pv m0 h0 w0 ds S m a w) {rr:Option Nat} {Q:Exit->Act->World->Prop} {K:Act->World->Prop}
  (hK: ∀a' w' m',Inv P base n T vars0 hS nt pv m0 h0 w0 ds (λj=>S j||j==r.x.i) m' a' w'->K a' w'):wpOpIn (Wf rr) 0 P ops Q r.x.i K a w:=by
 obtain⟨pA,pB,pC⟩:=acA hP hT
 have hA: ∀q∈J,Ar q.x r.x=true->S q.x.i=true:=λq f hc=>(pA q f).2.1 hc S hd g1
 have hB: ∀q∈F,Ar r.x q.x=true->S q.x.i=false:=λq f hc=>by
  cases hs:S q.x.i with
  |false=>rfl
  |true=>have:=(pB q f).2.1 hc S hd (hd _ hs);rw[b9] at this;cases this
 have a2: ∀q∈T,q.x.al=q.x.it.a.nY/\q.x.it.Bj=false:=λq f=>hP.al q.x (qU.2 ⟨q,f,rfl⟩)
 have e8: ∀q∈T,q.x.i<n:=λq f=>hP.lt q.x (qU.2 ⟨q,f,rfl⟩)
 have d3: ∀q∈J,q∈T:=λq f=>by rw[hT];simp [f]
 have b4: ∀q∈F,q∈T:=λq f=>by rw[hT];simp [f]
 have inr:r∈T:=by rw[hT];simp
 have i6: ∀q∈J,q.x.it.Bj=false:=λq f=>(a2 q (d3 q f)).2
 have g2: ∀q∈F,q.x.it.Bj=false:=λq f=>(a2 q (b4 q f)).2
 have g6:r.x.it.Bj=false:=(a2 r inr).2
 have g4:=hC
 rw[hT] at g4
 obtain⟨e1,e2,e3,_⟩:=uV J (r::F) _ _ _ _ _ (λq f=>(a2 q (d3 q f)).1) g4
 have split:(S:Nat->Bool)->mL base S T hS=mL base S F (jE base S (mL base S J hS) r):=λS=>by rw[hT,DM];rfl
 have a8:(S:Nat->Bool)->xA S T vars0=xA S F (if S r.x.i then KQ (xA S J vars0) r else xA S J vars0):=λS=>by rw[hT,VE];rfl
 let W:Nat->Bool:=λj=>S j||j==r.x.i
 have f1:W r.x.i=true:=by simp [W]
 have d7: ∀i,i≠r.x.i->W i=S i:=λi hi=>by simp [W,hi]
 have g9: ∀q∈J,S q.x.i=W q.x.i:=λq f=>(d7 _ (pA q f).1).symm
 have h5: ∀q∈F,S q.x.i=W q.x.i:=λq f=>(d7 _ (Ne.symm (pB q f).1)).symm
 have a1:mL base S T hS=mL base S F (mL base S J hS):=by rw[split S];simp [jE,b9]
 have b2:mL base W T hS=mL base S F (jE base (λ_=>true) (mL base S J hS) r):=by
  rw[split W,yD J hS (S:=W) (S':=S) (λq f _=>(g9 q f).symm),DQ (S:=W) (S':=λ_=>true) (λ_=>by simp [f1]),yD F _ (S:=W) (S':=S) (λq f _=>(h5 q f).symm)]
 have i3:xA W T vars0=KQ (xA S T vars0) r:=by
  rw[a8 W,a8 S];simp only[f1,b9,if_true,Bool.false_eq_true,if_false];rw[Ds J vars0 (λq f=>(g9 q f).symm),Ds F _ (λq f=>(h5 q f).symm)];refine RP g6 F _ g2 (λq f b7 k hk h8=>?_);have:=hB q f (aaE h8 hk);rw[b7] at this;cases this
 have g7: ∀k∈r.x.it.rds,(xA S T vars0).getD k .undef=r.vars.getD k .undef:=by
  intro k hk;rw[a8 S,e1];simp only[b9,Bool.false_eq_true,if_false]
  have h1:(xA S F (xA S J vars0)).getD k .undef=(xA (λ_=>false) F (xA S J vars0)).getD k .undef:=
   Em F _ _ g2 rfl rfl (λq f hw=>hB q f (PX hw hk))
  rw[h1,AY];exact Em J _ _ i6 rfl rfl (λq f hw=>hA q f (MQ hw hk))
 have d5: ∀x∈r.x.it.a.xs,xv (xA S T vars0) [] x=xv r.vars [] x:=λx L=>Tb λk hk=>g7 k (by
  unfold It.rds
  exact List.mem_append_left _ (List.mem_flatten.2 ⟨x.Mt,qU.2 ⟨x,L,rfl⟩,hk⟩))
 have g8:iV (xA S T vars0) [] r.x.it.g=iV r.vars [] r.x.it.g:=by
  cases l:r.x.it.g with
  |none=>rfl
  |some xb=>
   have⟨x,b⟩:=xb;simp only[iV];rw[Tb (x:=x) λk hk=>g7 k (by unfold It.rds;rw[l];exact List.mem_append_right _ hk)]
 have e4: ∀id,base<=id->hS.get id=none:=λid j7=>by
  rw[f3]
  cases l:h0.get id with
  |none=>rfl
  |some o=>
   obtain⟨q,f,_⟩:=j1.live id o l;rw[f5 id om] at f;cases f
 have L0: ∀q∈F,q.x.al=true->(mL base S J hS).get (base+q.x.i)=none:=by
  intro q f G;refine Ud J hS (e4 _ om) (λq2 e9 i4 i0=>?_) (λq2 e9 e=>pC q2 e9 q f om);obtain⟨U1,Z,hU⟩:=List.append_of_mem e9;exact N.none U1 q2 (Z++r::F) (by rw[hT,hU];simp) i4 i0 q (by simp [f]) G
 have b3:r.x.it.a.sY=true\/r.x.it.a.rN=true->mL base S J hS=r.hb:=by
  intro hw;rw[e2];refine yD J hS (λq f ha=>?_);refine hA q f (Mw ?_ hw);simp only[Rec.aff,Bool.or_eq_true,rG] at ha;rcases ha with h|h
  .exact .inl h
  .exact .inr ((a2 q (d3 q f)).1▸h.1)
 have c4:r.x.it.a.sY=true\/r.x.it.a.nY=true-> ∀q∈F,S q.x.i=true->q.x.it.a.sY=false:=by
  intro hw q f hs
  cases b6:q.x.it.a.sY with
  |false=>rfl
  |true=>have:=hB q f (Mw hw (.inl b6));rw[hs] at this;cases this
 have c5: ∀q∈T,q.x.al=true->q.b=true-> ∀R,q.ha.get (base+q.x.i)=some R->R.rw=true:=by
  intro q f q2 q3 R l;obtain⟨U1,Z,hU⟩:=List.append_of_mem f;have c9:=hC;rw[hU] at c9;obtain⟨_,_,⟨_,_,k3⟩,_⟩:=uV U1 (q::Z) _ _ _ _ _ (λy hy=>(a2 y (by rw[hU];simp [hy])).1) c9;simp only[q3,if_true,q2] at k3;obtain⟨_,i2,_,_,k4,k5,_⟩:=Qf ((a2 q f).1▸q2) k3;rw[k5] at l;simp [H.jD,H.dE] at l;subst l;exact k4
 have⟨w1,w2,w3⟩:=e3
 have i1:=Cw N.st c3 (g8.trans w1)
 have d8: ∀x,(a.put o.dst x).defers=ds:=λx=>by rw[<-N.df];cases o.dst<;>rfl
 have d9:(m':M)->(x:Value)->Ext m m'->VR m' r.v x->St m' nt pv [] (xA W T vars0) [] (a.put o.dst x):=by
  intro m' x he hv;have:=(N.st.mono he).put c2 hv;rw[i3];have j0:(jG r.x.it.d (xA S T vars0) [] r.v).2= []:=ND g6;rw[j0] at this;exact this
 have a9:(m':M)->(g g':Nat)->(∀id q,m' id=some q->m id=some q\/(g<=id/\id<g'))->(base+n<=g\/(g=base+r.x.i/\g'=base+r.x.i+1))-> ∀q∈T,q.x.al=true->W q.x.i=false->m' (base+q.x.i)=none:=by
  intro m' g g' hf l q f G hs;have d6:q.x.i≠r.x.i:=λe=>by rw[e,f1] at hs;cases hs
  rw[d7 _ d6] at hs;have h1:=N.free q f G hs;have h2:=e8 q f
  cases hm:m' (base+q.x.i) with
  |none=>rfl
  |some z=>
   rcases hf _ _ hm with h3|h3
   .rw[h1] at h3;cases h3
   .omega
 have a3:(r.x.it.a.sY=true-> ∀q∈F,q.x.al=true->r.ha.get (base+q.x.i)=none)-> ∀U1 q Z,T=U1++q::Z->W q.x.i=true->q.x.it.a.sY=true-> ∀y∈Z,y.x.al=true->q.ha.get (base+y.x.i)=none:=by
  intro h7 U1 q Z hU hs hw y hy G
  by_cases d6:q.x.i=r.x.i
  ·--the same item
   have nd:(A B:List Rec)->(x y:Rec)->(C D:List Rec)->A++x::B=C++y::D->x.x.i=y.x.i->(A++x::B).Pairwise (λu v=>u.x.i≠v.x.i)->x=y/\B=D:=by
    intro A
    induction A with
    |nil=>
     intro B x y C D he hi hp
     cases C with
     |nil=>simp at he;exact⟨he.1,he.2⟩
     |cons c C=>
      simp only[List.nil_append,List.cons_append,List.cons.injEq] at he;simp only[List.nil_append,List.pairwise_cons] at hp;exact absurd hi (hp.1 y (by rw[he.2];simp))
    |cons b A ih=>
     intro B x y C D he hi hp
     cases C with
     |nil=>
      simp only[List.nil_append,List.cons_append,List.cons.injEq] at he;simp only[List.cons_append,List.pairwise_cons] at hp;exact absurd (by rw[he.1,hi]) (hp.1 x siM)
     |cons c C=>
      simp only[List.cons_append,List.cons.injEq] at he;simp only[List.cons_append,List.pairwise_cons] at hp;exact ih B x y C D he.2 hi hp.2
   have i8:(J++r::F).Pairwise (λu v=>u.x.i≠v.x.i):=by
    have h:=hP.pw;rw[List.pairwise_map,hT] at h;exact h.imp λhh=>hh.1
   obtain⟨h1,h2⟩:=nd J F r q U1 Z (hT.symm.trans hU) d6.symm i8;subst h1;subst h2;exact h7 hw y hy G
  .rw[d7 _ d6] at hs
   exact N.none U1 q Z hU hs hw y hy G
 unfold wpOpIn
 simp only[ho]
 rw[i1]
 cases hbb:r.b with
 |false=>
  simp only[hbb] at w3;obtain⟨hv,c0⟩:r.v= .undef/\r.ha=r.hb:=by simpa using w3
  simp only[Bool.false_eq_true,if_false];refine⟨λ_ _=>trivial,hK _ w m ?_⟩
  have a0:mL base W T hS=mL base S T hS:=by
   rw[b2,a1];congr 1
   by_cases hw:r.x.it.a.sY=true
   .simp only[jE,if_true,hw];rw[c0,b3 (.inl hw)]
   .simp only[jE,hw,hbb];simp
  refine⟨d9 m undef (Ext.refl m) (by rw[hv];exact VR.undef m),d8 _,by show iZ P m0 h0 w0 m (mL base W T hS) w;rw[a0];exact N.Xx,by show base+n<=(mL base W T hS).next;rw[a0];exact N.nx,?_,?_⟩
  .exact a9 m (base+n) (base+n) (λ_ _ h=> .inl h) (.inl (eU _))
  .exact a3 (λhw q f G=>by rw[c0,<-b3 (.inl hw)];exact L0 q f G)
 |true=>
  simp only[hbb,if_true] at w3;simp only[if_true];have e0:Lg m (mL base S T hS).next:=N.Xx.low f5
  by_cases hw:r.x.it.a.sY=true
  ·--it turns the heap
   have G:r.x.al=false:=by
    cases h9:r.x.al with
    |false=>rfl
    |true=>have:=QI ((a2 r inr).1▸h9);rw[hw] at this;cases this
   simp only[G] at w3;have b5:rZ cl yl r.vars [] r.hb r.x.it.a=some (r.v,r.ha):=by simpa using w3
   have a4:=b3 (.inl hw);have Y:=c4 (.inl hw);obtain⟨b1,O,_⟩:=qH (base:=base) F (mL base S J hS) Y;obtain⟨d1,c8,_⟩:=qH (base:=base) F r.ha Y;have g0: ∀id,Extra base S F id->(mL base S J hS).get id=none:=λid ⟨q,f,_,e5,_,e⟩=>e▸L0 q f e5
   have b0: ∀id R,r.hb.get id=some R->(mL base S T hS).get id=some R:=by
    intro id R l;rw[<-a4] at l;rw[a1]
    by_cases L:Extra base S F id
    .rw[g0 id L] at l;cases l
    .rw[O id L];exact l
   have a6:r.hb.next=(mL base S T hS).next:=by rw[a1,b1,a4]
   have a5:mL base W T hS=mL base S F r.ha:=by rw[b2];simp [jE,hw]
   rw[Wx (λx L=>(d5 x L).symm)] at b5;refine PQ i9 j3 c1 N.st (N.Xx.rel.sub b0) (by rw[a6];exact e0) b5 (λx w' m' hv s=>?_);refine hK _ w' m' ⟨d9 m' x s.ext hv,d8 x,?_,?_,?_,?_⟩
   .show iZ P m0 h0 w0 m' (mL base W T hS) w'
    refine N.Xx.frame b0 s (λid R l=>?_) (by have:=N.nx;omega) (by rw[a5,d1];exact eU _) (by rw[a5,d1,<-a6];exact s.next);rw[a5] at l
    by_cases L:Extra base S F id
    .obtain⟨q,f,q1,q2,q3,q4,q5⟩:=(qH (base:=base) F r.ha Y).2.2 id L
     rw[q5] at l;exact .inr ⟨by rw[a1,q5];exact l,c5 q (b4 q f) q2 q3 R (by rw[q4];exact l),by rw[<-a4];exact g0 id L⟩
    .rw[c8 id L] at l;exact .inl l
   .show base+n<=(mL base W T hS).next
    rw[a5,d1];have:=s.next;have:=N.nx;omega
   .exact a9 m' _ _ s.fresh (.inl (by rw[a6];exact N.nx))
   .refine a3 (λ_ q f e5=>s.old _ ?_ ?_)
    .rw[a6]
     have:=N.nx;have:=e8 q (b4 q f);omega
    .rw[<-a4];exact L0 q f e5
  .have c7:r.x.it.a.sY=false:=by simpa using hw
   cases G:r.x.al with
   |true=>
    simp only[G,if_true] at w3;have a7:r.x.it.a.nY=true:=(a2 r inr).1▸G;obtain⟨i,R,hi,j5,j6,c0,f8⟩:=Qf a7 w3;have Y:=c4 (.inr a7);obtain⟨b1,O,_⟩:=qH (base:=base) F (mL base S J hS) Y
    let g:H:={mL base S T hS with next:=base+r.x.i}
    have d4:=f8 g rfl;have i7:m (base+r.x.i)=none:=N.free r inr G b9;have d0:oW P pv [] o=some (.op i):=hi▸c1;rw[Ft (ρ':=xv (xA S T vars0) []) (λx L=>(d5 x (by rw[hi];exact L)).symm)] at d4;have j2:HR P m g w:=N.Xx.rel.sub (λ_ _ h=>h);refine Pz (sD d0) (Iv N.st j2 i7 d0 d4) (λx w' m' hv s=>?_)
    have a5:(mL base W T hS).get=(g.new R).get/\(mL base W T hS).next=(mL base S T hS).next:=by
     rw[b2]
     have f7:jE base (λ_=>true) (mL base S J hS) r=(mL base S J hS).set (base+r.x.i) (some R):=by
      simp only[jE,if_true,c7,Bool.false_eq_true,if_false,G,hbb,Bool.and_self];rw[c0];simp [H.jD,H.dE]
     rw[f7];obtain⟨d1,c8,j4⟩:=qH (base:=base) F ((mL base S J hS).set (base+r.x.i) (some R)) Y;refine⟨funext λid=>?_,by rw[d1,a1,b1];rfl⟩
     by_cases L:Extra base S F id
     .obtain⟨q,f,q1,q2,q3,q4,q5⟩:=j4 id L
      have h6:id≠base+r.x.i:=λe=>(pB q f).1 om
      have f0:g.get id=(mL base S T hS).get id:=rfl;rw[q5,H.kG,bV (show id≠g.next from h6),f0,a1,q5]
     .have f0:g.get id=(mL base S T hS).get id:=rfl
      rw[c8 id L,H.jD,H.kG,f0,a1,O id L]
    refine hK _ w' m' ⟨d9 m' x s.ext hv,d8 x,?_,?_,?_,?_⟩
    .show iZ P m0 h0 w0 m' (mL base W T hS) w'
     have:=N.nx;have:=e8 r inr;exact N.Xx.frame (g:=g) (g':=g.new R) (λ_ _ h=>h) s (λid i2 l=> .inl (by rw[<-a5.1];exact l)) (by show h0.next<=base+r.x.i;omega) (by rw[a5.2];show base+r.x.i+1<=_;omega) (by rw[a5.2];exact eU _)
    .show base+n<=(mL base W T hS).next
     rw[a5.2];exact N.nx
    .exact a9 m' _ _ s.fresh (.inr ⟨rfl,rfl⟩)
    .exact a3 (λh=>by rw[c7] at h;cases h)
   |false=>
    simp only[G] at w3;have b5:rZ cl yl r.vars [] r.hb r.x.it.a=some (r.v,r.ha):=by simpa using w3
    have a7:r.x.it.a.nY=false:=(a2 r inr).1▸G;obtain⟨c0,f2⟩:=Nl c7 a7 b5
    have a0:mL base W T hS=mL base S T hS:=by
     rw[b2,a1];congr 1;simp only[jE,if_true,c7,G];simp
    have⟨i,hi,d4,f4⟩:=f2;have d0:oW P pv [] o=some (.op i):=hi▸c1
    have ⟨g,b0,hgx,hgn,hgv⟩: ∃g:H,(∀id R,g.get id=some R->(mL base S T hS).get id=some R)/\(∀id R,(mL base S T hS).get id=some R->g.get id=some R\/(R.rw=true/\g.get id=none))/\
      g.next=(mL base S T hS).next/\fJ (xv r.vars []) g i=some (r.v,g):=by
     cases hrd:i.rN with
     |false=>exact⟨mL base S T hS,λ_ _ h=>h,λ_ _ h=> .inl h,rfl,f4 hrd _⟩
     |true=>
      have c6:r.x.it.a.rN=true:=by rw[hi];exact hrd
      have g3:(U:List Rec)->(∀q∈U,S q.x.i=true->q.x.it.a.sY=false)\/ ∃U1 q Z,U=U1++q::Z/\S q.x.i=true/\q.x.it.a.sY=true/\ ∀y∈Z,S y.x.i=true->y.x.it.a.sY=false:=by
       intro U
       induction U with
       |nil=>exact .inl λq f=>by cases f
       |cons q U ih=>
        rcases ih with ih|⟨U1,y,Z,k1,k2,k3,k4⟩
        .by_cases f:S q.x.i=true/\q.x.it.a.sY=true
         .exact .inr ⟨[],q,U,rfl,f.1,f.2,ih⟩
         .refine .inl λy hy hs=>?_
          rcases uL.1 hy with rfl|hy
          .cases h9:y.x.it.a.sY with
           |false=>rfl
           |true=>exact absurd ⟨hs,h9⟩ f
          .exact ih y hy hs
        .exact .inr ⟨q::U1,y,Z,by simp [k1],k2,k3,k4⟩
      rcases g3 F with Y|⟨U1,q,Z,hU,b7,b6,Y⟩
      .have a4:=b3 (.inr c6)
       obtain⟨b1,O,_⟩:=qH (base:=base) F (mL base S J hS) Y;refine⟨r.hb,λid R l=>?_,λid R l=>?_,by rw[a1,b1,a4],by rw[c0] at d4;exact d4⟩
       .rw[<-a4] at l
        rw[a1]
        by_cases L:Extra base S F id
        .have⟨y,hy,_,e6,_,e⟩:=L
         rw[<-e,L0 y hy e6] at l;cases l
        .rw[O id L];exact l
       .rw[a1] at l
        by_cases L:Extra base S F id
        .obtain⟨y,hy,y1,y2,y3,y4,y5⟩:=(qH (base:=base) F (mL base S J hS) Y).2.2 id L
         rw[y5] at l;exact .inr ⟨c5 y (b4 y hy) y2 y3 R (by rw[y4];exact l),by rw[<-a4,<-y4];exact L0 y hy y2⟩
        .rw[O id L,a4] at l;exact .inl l
      .have b8:T=(J++r::U1)++q::Z:=by rw[hT,hU];simp
       have d2:mL base S T hS=mL base S Z q.ha:=by
        rw[b8,DM];simp only[mL,List.foldl_cons];congr 1;simp [jE,b7,b6]
       obtain⟨b1,O,_⟩:=qH (base:=base) Z q.ha Y;have h4: ∀y∈Z,y∈T:=λy hy=>by rw[b8];simp [hy]
       refine⟨q.ha,λid R l=>?_,λid R l=>?_,by rw[d2,b1],?_⟩
       .rw[d2]
        by_cases L:Extra base S Z id
        .have⟨y,hy,_,e6,_,e⟩:=L
         rw[<-e,N.none _ q Z b8 b7 b6 y hy e6] at l;cases l
        .rw[O id L];exact l
       .rw[d2] at l
        by_cases L:Extra base S Z id
        .obtain⟨y,hy,y1,y2,y3,y4,y5⟩:=(qH (base:=base) Z q.ha Y).2.2 id L
         rw[y5] at l;exact .inr ⟨c5 y (h4 y hy) y2 y3 R (by rw[y4];exact l),by rw[<-y4];exact N.none _ q Z b8 b7 b6 y hy y2⟩
        .rw[O id L] at l;exact .inl l
       ·--it has been read again behind q
        have g5:q∈F:=by rw[hU];simp
        rcases (pB q g5).2.2 c6 b6 with f6|i5
        .have:=f6 S hd (hd _ b7);rw[b9] at this;cases this
        .have c9:=hC
         rw[b8] at c9;obtain⟨_,_,⟨_,k2,_⟩,_⟩:=uV (J++r::U1) (q::Z) _ _ _ _ _ (λy hy=>(a2 y (by rw[b8];exact List.mem_append_left _ hy)).1) c9
         have f9:(r.x.i,i.close (xv r.vars []),r.v)∈Tz (J++r::U1) []:=by
          have:Tz (J++r::U1) []=Tz U1 (Cv r (Tz J [])):=by simp [Tz]
          rw[this];refine Tv U1 _ ?_;simp only[Cv,hbb,if_true,Fo,hi,hrd];exact sZ ..
         obtain⟨h9,k9⟩:=BK k2 f9 i5;rw[GL hrd] at k9;have:=RB hrd k9;rw[this] at k9;exact k9
    rw[Ft (ρ':=xv (xA S T vars0) []) (λx L=>(d5 x (by rw[hi];exact L)).symm)] at hgv;refine Pz (sD d0) (Iv N.st (N.Xx.rel.sub b0) (by rw[hgn];exact e0.fresh) d0 hgv) (λx w' m' hv s=>?_);refine hK _ w' m' ⟨d9 m' x s.ext hv,d8 x,?_,?_,?_,?_⟩
    .show iZ P m0 h0 w0 m' (mL base W T hS) w'
     rw[a0];refine N.Xx.frame b0 s (λid R l=>?_) (by have:=N.nx;omega) om (eU _);rcases hgx id R l with h1|⟨h1,h2⟩
     .exact .inl h1
     .exact .inr ⟨l,h1,h2⟩
    .show base+n<=(mL base W T hS).next
     rw[a0];exact N.nx
    .exact a9 m' _ _ s.fresh (.inl (by rw[hgn];exact N.nx))
    .exact a3 (λh=>by rw[c7] at h;cases h)
end
end
end Go.Ay
namespace Go.Ay
open Go
def Bz (ops:Array Oper)(i:Nat):List Nat:=match ops[i]? with|some o=>yB o|none=> []
def Rel (dep:Nat->List Nat)(a b:AI):Prop:=
 a.i≠b.i/\(Ar a b=true->OU dep a.i b.i)/\(a.it.a.rN=true->b.it.a.sY=true->OU dep a.i b.i\/b.cks.contains a.i=true)
theorem Ow {d j:Nat}:(bef:List Nd)->(Hg d bef).testBit j=true-> ∃q∈bef,q.x.i=d/\q.anc.testBit j=true
 | [],h=>by simp [Hg] at h
 |n::r,h=>by
  simp only[Hg] at h;split at h
  .rename_i e;exact⟨n,sZ ..,e,h⟩
  .obtain⟨q,b,a⟩:=Ow r h;exact⟨q,tX _ b,a⟩
theorem Mi {b:List Nd}{j:Nat}:(ds:List Nat)->(m0:Nat)->(ds.foldl (λm d=>m|||(2^d|||Hg d b)) m0).testBit j=true->
  m0.testBit j=true\/ ∃d∈ds,d=j\/(Hg d b).testBit j=true
 | [],m0,h=> .inl h
 |d::ds,m0,h=>by
  simp only[List.foldl_cons] at h;rcases Mi ds _ h with a|⟨f,c,a⟩
  .simp only[Nat.testBit_or,Bool.or_eq_true,Nat.testBit_two_pow,decide_eq_true_eq] at a
   rcases a with a|a|a
   .exact .inl a
   .exact .inr ⟨d,sZ ..,.inl a⟩
   .exact .inr ⟨d,sZ ..,.inr a⟩
  .exact .inr ⟨f,tX _ c,a⟩
theorem Cu {dep:Nat->List Nat}:(l bef:List Nd)->Ig l bef=true->(∀n∈l,n.dep=dep n.x.i)->(∀q∈bef,q.dep=dep q.x.i/\ ∀j,q.anc.testBit j=true->OU dep j q.x.i)->
  (∀q∈bef,∀n∈l,Rel dep q.x n.x)/\l.Pairwise (λa b=>Rel dep a.x b.x)/\(∀n∈l,n.x.al=n.x.it.a.nY/\n.x.it.Bj=false)/\
  (∀l1 n l2,l=l1++n::l2-> ∀d∈n.dep,∃y,(y∈bef\/y∈l1)/\y.x.i=d)
 | [],bef,_,_,_=>by
  refine⟨λ_ _ n h=>?_,List.Pairwise.nil,λn h=>?_,λl1 n l2 h=>?_⟩
  .cases h
  .cases h
  .cases l1<;>simp at h
 |n::rest,bef,h,hd,hb=>by
  simp only[Ig,rG] at h;obtain⟨⟨⟨⟨⟨⟨⟨U,A⟩,J⟩,c4⟩,W⟩,Z⟩,R⟩,P⟩:=h;have K:=hd n (sZ ..)
  have k: ∀j,n.anc.testBit j=true->OU dep j n.x.i:=by
   intro j L S N B;have A:=beq_iff_eq.1 A;rw[A] at L;rcases Mi _ _ L with r|⟨d,p,r⟩
   .simp at r
   .have v:S d=true:=B d (K▸p)
    rcases r with r|r
    .exact r▸v
    .obtain⟨q,c,e,w⟩:=Ow _ r
     exact (hb q c).2 j w S N (by rw[e];exact N d v)
  have F: ∀q∈n::bef,q.dep=dep q.x.i/\ ∀j,q.anc.testBit j=true->OU dep j q.x.i:=λq c=>by
   rcases uL.1 c with rfl|c
   .exact⟨K,k⟩
   .exact hb q c
  obtain⟨G,Y,O,Q⟩:=Cu rest (n::bef) P (λm o=>hd m (tX _ o)) F
  have u: ∀q∈bef,Rel dep q.x n.x:=by
   intro q c;refine⟨λe=>?_,λhc=>?_,λr w=>?_⟩
   .have f:(bef.any λq=>q.x.i==n.x.i)=true:=List.any_eq_true.2 ⟨q,c,by simp [e]⟩
    rw[f] at J;cases J
   .have f:=vE.1 c4 q c
    simp only[hc,Bool.not_true,Bool.false_or] at f;exact k _ f
   .have f:=vE.1 W q c
    simp only[r,w,Bool.and_self,Bool.not_true,Bool.false_or,Bool.or_eq_true] at f;rcases f with f|f
    .exact .inl (k _ f)
    .exact .inr f
  refine⟨λq c m o=>?_,List.pairwise_cons.2 ⟨λm o=>G n (sZ ..) m o,Y⟩,λm o=>?_,λl1 m l2 t d p=>?_⟩
  .rcases uL.1 o with rfl|o
   .exact u q c
   .exact G q (tX _ c) m o
  .rcases uL.1 o with rfl|o
   .exact⟨beq_iff_eq.1 R,by simpa using Z⟩
   .exact O m o
  .cases l1 with
   |nil=>
    simp only[List.nil_append,List.cons.injEq] at t;obtain⟨rfl,rfl⟩:=t;have f:=vE.1 U d p;obtain⟨q,c,e⟩:=List.any_eq_true.1 f;exact⟨q,.inl c,by simpa using e⟩
   |cons y l1=>
    simp only[List.cons_append,List.cons.injEq] at t;obtain⟨rfl,t⟩:=t;obtain⟨z,s,e⟩:=Q l1 m l2 t d p;refine⟨z,?_,e⟩;rcases s with s|s
    .rcases uL.1 s with rfl|s
     .exact .inr (sZ ..)
     .exact .inl s
    .exact .inr (tX _ s)
section
variable {P:Program} {nt:Nat} {pv:List Nat} {ops:Array Oper}
theorem Bv:(os:List Oper)->(k:Nat)->(ns:List Nd)->Dl P nt pv ops k os=some ns->
  ∀(j:Nat) (nd:Nd),ns[j]? =some nd-> ∃o,os[j]? =some o/\nd.x.i=k+j/\uE P nt pv [] ops o=some (nd.x.it, [])/\nd.dep=yB o
 | [],k,ns,h,j,nd,hj=>by simp only[Dl] at h;cases h;simp at hj
 |o::os,k,ns,h,j,nd,hj=>by
  simp only[Dl] at h;split at h
  .rename_i it a
   simp only[oF] at h;obtain⟨r,c,rfl⟩:=h
   cases j with
   |zero=>simp at hj;subst hj;exact⟨o,rfl,siM,a,rfl⟩
   |succ j=>
    obtain⟨l,d,m,f,b⟩:=Bv os (k+1) r c j nd (by simpa using hj);exact⟨l,by simpa using d,om,f,b⟩
  .cases h
structure Sj (P:Program)(nt:Nat)(pv:List Nat)(ops:Array Oper)(xs:List AI):Prop where
 ok:Ys (Bz ops) ops.size xs
 it: ∀x∈xs,∃o,ops[x.i]? =some o/\uE P nt pv [] ops o=some (x.it, [])
theorem Qg {t:List Nd}{xs:List AI}(A:(j:Nat)->(nd:Nd)->t[j]? =some nd-> ∃o,ops[nd.x.i]? =some o/\uE P nt pv [] ops o=some (nd.x.it, [])/\nd.dep=yB o)
  (m:Rt t ops.size=some xs):Sj P nt pv ops xs:=by
 unfold Rt at m
 split at m
 .cases m
 .rename_i h l
  split at m
  .rename_i s
   cases m
   simp only[rG,QZ] at s
   have⟨U,Q⟩:=s
   have c: ∀nd∈h,∃o,ops[nd.x.i]? =some o/\uE P nt pv [] ops o=some (nd.x.it, [])/\nd.dep=yB o:=by
    intro nd a;obtain⟨m1,N⟩:=jA l;obtain⟨j,Z,B⟩:=List.getElem_of_mem a;have w:j<(Sg t.length t []).length:=om
    obtain⟨b,J,p⟩:=N j _ (dC w);rw[dC Z,B] at J;cases J;simp only[oF] at p;obtain⟨mm,u,rfl⟩:=p;exact let ⟨o,f,k,h3⟩:=A _ _ u;⟨o,f,k,h3⟩
   obtain⟨_,R,L,O⟩:=Cu (dep:=Bz ops) h [] Q (λnd a=>by
    obtain⟨o,f,_,k⟩:=c nd a
    rw[k];simp [Bz,f]) (λq v=>by cases v)
   refine⟨⟨?_,λx r=>?_,λx r=>?_,λi hi=>?_,λl1 x l2 he d G=>?_⟩,λx r=>?_⟩
   case refine_1=>rw[List.pairwise_map];exact R
   case refine_2=>
    obtain⟨nd,a,rfl⟩:=qU.1 r;exact L nd a
   case refine_3=>
    obtain⟨nd,a,rfl⟩:=qU.1 r;obtain⟨o,f,_⟩:=c nd a;exact (Wq.1 f).1
   case refine_4=>
    have W:=vE.1 U i (wY.2 hi);obtain⟨q,v,e⟩:=List.any_eq_true.1 W;exact⟨q.x,qU.2 ⟨q,v,rfl⟩,by simpa using e⟩
   case refine_5=>
    obtain⟨L1,F,K,Y,z⟩:=List.map_eq_append_iff.1 he
    cases F with
    |nil=>simp at z
    |cons nd F=>
     simp only[List.map_cons,List.cons.injEq] at z;obtain⟨o,f,_,k⟩:=c nd (by rw[K];simp);obtain⟨y,n,e⟩:=O L1 nd F K d (by rw[k];rw[<-z.1] at G;simpa [Bz,f] using G);rcases n with n|n
     .cases n
     .exact⟨y.x,by rw[<-Y];exact qU.2 ⟨y,n,rfl⟩,e⟩
   case refine_6=>
    obtain⟨nd,a,rfl⟩:=qU.1 r;obtain⟨o,f,k,_⟩:=c nd a;exact⟨o,f,k⟩
  .cases m
theorem Pw {c:C}(a:Qj P nt pv ops=some c): ∃(loc:List Nat) (xs:List AI),c= .any ops.size loc.length xs/\(∀t∈loc,t<nt)/\Sj P nt (pv++loc) ops xs:=by
 unfold Qj at a;simp only at a;split at a
 .cases a
 .rename_i m d
  have b:(j:Nat)->(nd:Nd)->m[j]? =some nd-> ∃o,ops[nd.x.i]? =some o/\uE P nt (pv++locals pv (ops.toList.filterMap (·.dst)) []) [] ops o=some (nd.x.it, [])/\nd.dep=yB o:=λj nd q=>by
   obtain⟨o,s,l,p,r⟩:=Bv _ _ _ d j nd q;exact⟨o,by simp only[l,Nat.zero_add];simpa using s,p,r⟩
  split at a
  .rename_i h
   have k: ∀t∈locals pv (ops.toList.filterMap (·.dst)) [],t<nt:=λt n=>by simpa using vE.1 h t n
   obtain⟨xs,f,rfl⟩:=oF.1 a;exact⟨_,_,rfl,k,Qg b f⟩
  .cases a
end
end Go.Ay
namespace Go.Ay
open Go
def left (S:Nat->Bool):Nat->Nat
 |0=>0
 |n+1=>left S n+(if S n then 0 else 1)
theorem FB (S:Nat->Bool): ∀n,left S n<=n
 |0=>eU _
 |n+1=>by have:=FB S n;simp only[left];split<;>omega
theorem Ou {S:Nat->Bool}: ∀n,left S n=0-> ∀i,i<n->S i=true
 |0,_,i,h=>om
 |n+1,h,i,hi=>by
  simp only[left] at h
  by_cases a:i=n
  .subst a
   cases hs:S i with
   |true=>rfl
   |false=>simp [hs] at h
  .exact Ou n om i om
theorem Nq {S a:Nat->Bool}{i:Nat}(b:S i=false)(h2:a=λj=>S j||j==i): ∀n,left a n<=left S n/\(i<n->left a n+1<=left S n)
 |0=>⟨eU _,λh=>om⟩
 |n+1=>by
  have d:=Nq b h2 n;subst h2;simp only[left]
  by_cases c:n=i
  .subst c
   simp only[b,beq_self_eq_true,Bool.or_true,if_true,Bool.false_eq_true,if_false];exact⟨om,λ_=>om⟩
  .have:(S n||n==i)=S n:=by simp [c]
   simp only[this];exact⟨om,λh=>by have:=d.2 om;omega⟩
section
variable {P:Program} {cl yl:lJ} {base n:Nat} {T:List Rec} {vars0:List V} {hS:H} {nt:Nat} {pv:List Nat} {m0:M} {h0:H} {w0:World} {ds:List Deferred}
 {ops:Array Oper}
theorem Oh {S:Nat->Bool}:(T:List Rec)->(∀q∈T,S q.x.i=true)\/ ∃T1 q T2,T=T1++q::T2/\S q.x.i=false/\ ∀y∈T1,S y.x.i=true
 | []=> .inl λ_ h=>by cases h
 |q::T=>by
  cases hs:S q.x.i with
  |false=>exact .inr ⟨[],q,T,rfl,hs,λ_ h=>by cases h⟩
  |true=>
   rcases Oh (S:=S) T with h|⟨T1,y,T2,d,c,f⟩
   .refine .inl λy a=>?_
    rcases uL.1 a with rfl|a
    .exact hs
    .exact h y a
   .refine .inr ⟨q::T1,y,T2,by simp [d],c,λz b=>?_⟩
    rcases uL.1 b with rfl|b
    .exact hs
    .exact f z b
theorem aeI (a2:Dt P cl)(a5:yT P yl){c:List V}{h':H}(hC:Mh cl yl base T vars0 [] hS c h')(L:Sj P nt pv ops (T.map (·.x)))
  (hb:base=h0.next) (U:hS.get=h0.get) (a1:Lg m0 h0.next) (a3:HR P m0 h0 w0) {rr:Option Nat} {Q:Exit->Act->World->Prop}
  (hQ: ∀a w m,St m nt pv [] c [] a->a.defers=ds->iZ P m0 h0 w0 m h' w->Q .normal a w):
  ∀(fuel:Nat) (listed:Array Bool) (m:M) (a:Act) (w:World),listed.size=ops.size->Down (Bz ops) (λj=>listed.getD j false)->left (λj=>listed.getD j false) ops.size<=fuel->
   Inv P base ops.size T vars0 hS nt pv m0 h0 w0 ds (λj=>listed.getD j false) m a w->wpAnyIn (Wf rr) 0 P .any ops Q fuel listed a w:=by
 have a0: ∀q∈T,q.x.al=q.x.it.a.nY/\q.x.it.Bj=false:=λq B=>L.ok.al q.x (qU.2 ⟨q,B,rfl⟩)
 have done:(listed:Array Bool)->(m:M)->(a:Act)->(w:World)->(∀q∈T,listed.getD q.x.i false=true)->Inv P base ops.size T vars0 hS nt pv m0 h0 w0 ds (λj=>listed.getD j false) m a w->Q .normal a w:=by
  intro listed m a w b F;have hc:=uV T [] vars0 [] hS c h' (λq B=>(a0 q B).1) (by simpa using hC);obtain⟨e1,e2⟩:=hc;have v1:xA (λj=>listed.getD j false) T vars0=c:=by rw[<-e1];exact Ds T vars0 (λq B=>b q B)
  have v2:mL base (λj=>listed.getD j false) T hS=h':=by rw[<-e2];exact yD T hS (λq B _=>b q B)
  exact hQ a w m (by rw[<-v1];exact F.st) F.df (by rw[<-v2];exact F.Xx)
 have f:(listed:Array Bool)->listed.size=ops.size->Region.ready .any ops listed= []-> ∀q∈T,listed.getD q.x.i false=true:=by
  intro listed A R;rcases Oh (S:=λj=>listed.getD j false) T with h|⟨T1,q,T2,s,v,h3⟩
  .exact h
  .exfalso
   obtain⟨o,u,_⟩:=L.it q.x (qU.2 ⟨q,by rw[s];simp,rfl⟩);have p:=(Wq.1 u).1
   have:q.x.i∈Region.ready .any ops listed:=by
    refine mem_ready.2 ⟨?_,o,u,λe he N=>?_⟩
    .simp only[KN] at v |-
     rw[Array.getElem?_eq_getElem om] at v |-;exact v
    .have O:e.on∈Bz ops q.x.i:=by
      simp only[Bz,u,yB,qU,Re];exact⟨e,⟨by simpa using he,N⟩,rfl⟩
     obtain⟨y,hy,a4⟩:=L.ok.ord (T1.map (·.x)) q.x (T2.map (·.x)) (by rw[s];simp) e.on O;obtain⟨z,hz,rfl⟩:=qU.1 hy;rw[<-a4];exact h3 z hz
   rw[R] at this;cases this
 intro fuel
 induction fuel with
 |zero=>
  intro listed m a w A K a8 F;have b: ∀i,i<ops.size->listed.getD i false=true:=Ou ops.size om;refine⟨?_,done listed m a w (λq B=>b _ (L.ok.lt q.x (qU.2 ⟨q,B,rfl⟩))) F⟩
  cases R:Region.ready .any ops listed with
  |nil=>rfl
  |cons i l=>
   obtain⟨s,o,u,_⟩:=mem_ready.1 (show i∈Region.ready .any ops listed by rw[R];simp);have p:=(Wq.1 u).1;have v:=b i p;simp only[KN] at s v;rw[Array.getElem?_eq_getElem om] at s v;simp only[Option.getD_some] at s v;rw[s] at v;cases v
 |succ fuel ih=>
  intro listed m a w A K a8 F;refine⟨λR=>done listed m a w (f listed A R) F,λi hi=>?_⟩;obtain⟨s,o,u,b⟩:=mem_ready.1 hi;have p:=(Wq.1 u).1
  have Y:listed.getD i false=false:=by
   simp only[KN] at s |-;rw[Array.getElem?_eq_getElem om] at s |-;exact s
  have t:(λj=>(listed.setIfInBounds i true).getD j false)=λj=>listed.getD j false||j==i:=by
   funext j
   by_cases k:j=i
   .subst k
    simp only[KN];rw[Array.getElem?_setIfInBounds_self_of_lt om];simp
   .simp only[KN]
    rw[Array.getElem?_setIfInBounds_ne (Ne.symm k)];simp [k]
  obtain⟨x,hx,a7⟩:=L.ok.cover i p;obtain⟨r,R,rfl⟩:=qU.1 hx;obtain⟨T1,T2,hT⟩:=List.append_of_mem R;obtain⟨o',Z,a6⟩:=L.it r.x hx;subst a7;rw[u] at Z;cases Z;obtain⟨c1,c2,c3⟩:=Gs a6
  have G: ∀d∈Bz ops r.x.i,listed.getD d false=true:=by
   intro d O;simp only[Bz,u,yB,qU,Re] at O;obtain⟨e,⟨he,N⟩,rfl⟩:=O;exact b e (by simpa using he) N
  refine acJ a2 a5 hC L.ok hb U a1 a3 hT K G Y u c1 c2 c3 F (λa' w' m' W=>?_);rw[<-t] at W;refine ih (listed.setIfInBounds r.x.i true) m' a' w' (by simpa using A) ?_ ?_ W
  .intro j k d O
   have J: ∀j,(listed.setIfInBounds r.x.i true).getD j false=(listed.getD j false||j==r.x.i):=congrFun t;simp only at k |-;rw[J] at k |-;simp only[Bool.or_eq_true,beq_iff_eq] at k |-;rcases k with k|k
   .exact .inl (K j k d O)
   .subst k;exact .inl (G d O)
  .rw[t]
   have:=(Nq (S:=λj=>listed.getD j false) (i:=r.x.i) Y rfl ops.size).2 p;omega
theorem Jc {s k:Nat}:(pv loc:List Nat)->idx s (pv++loc)=some k->idx s pv=some k\/(idx s pv=none/\pv.length<=k)
 | [],loc,h=> .inr ⟨rfl,fE _⟩
 |a::pv,loc,h=>by
  simp only[List.cons_append,idx] at h |-
  by_cases c:a=s
  .simp only[c,if_true] at h |-;exact .inl h
  .simp only[c,if_false,oF] at h |-
   obtain⟨f,d,rfl⟩:=h;rcases Jc pv loc d with b|⟨b,i⟩
   .exact .inl ⟨f,b,rfl⟩
   .exact .inr ⟨by simp [b],siO⟩
theorem wM {s k:Nat}:(pv loc:List Nat)->idx s pv=some k->idx s (pv++loc)=some k
 | [],loc,h=>by simp [idx] at h
 |a::pv,loc,h=>by
  simp only[List.cons_append,idx] at h |-
  by_cases b:a=s
  .simp only[b,if_true] at h |-;exact h
  .simp only[b,if_false,oF] at h |-
   obtain⟨d,c,rfl⟩:=h;exact⟨d,wM pv loc c,rfl⟩
theorem adC (hm:P.follows .mixedOrders=true)(F:Dt P cl)(B:yT P yl){xs:List AI}{c:List Nat}(v: ∀t∈c,t<nt)(hP:Sj P nt (pv++c) ops xs)
  {d f:List V} {h h':H} (he:uT cl yl h.next xs (d++List.replicate c.length .unk) [] {h with next:=h.next+ops.size}=some (f,h'))
  {m:M} {w:World} {a:Act} (l:jV m nt pv d a.tmps) (hr:HR P m h w) (L:Lg m h.next) {rr:Option Nat} {id:Nat} {Q:Exit->Act->World->Prop}
  (Z: ∀a' w' m',jV m' nt pv (f.take d.length) a'.tmps->a'.defers=a.defers->iZ P m h w m' h' w'->Q .normal a' w'):(Code.region id ops true).wpIn (Wf rr) 0 P Q a w:=by
 obtain⟨T,R,O⟩:=Jh xs _ _ _ _ _ he
 have y:=iZ.drawn hr L.fresh (w.drawn+1)
 refine wpIn_region_any hm ?_
 have J:jV m nt (pv++c) (d++List.replicate c.length .unk) a.tmps:=by
  refine⟨l.size,by simp [l.len],λs x=>?_,λs k u=>?_⟩
  .rcases jO.1 x with i|i
   .exact l.lt s i
   .exact v s i
  .have A:=Ip u
   rcases Jc pv c u with i|⟨_,i⟩
   .have:=Ip i
    have z:=l.val s k i;simp only[List.getD] at z |-;rw[wU (by rw[l.len];exact this)];exact z
   .simp only[List.getD]
    rw[zT (by rw[l.len];exact i),List.getElem?_replicate,bL (by rw[l.len];simp at A;omega)];simp [VR]
 have o:(j:Nat)->(Array.replicate ops.size false).getD j false=false:=by
  intro j;simp only[KN,Array.getElem?_replicate];split<;>rfl
 have K:(λj=>(Array.replicate ops.size false).getD j false)=λ_=>false:=funext o
 refine aeI (T:=T) (base:=h.next) (ds:=a.defers) (nt:=nt) (pv:=pv++c) F B O (by rw[R];exact hP) rfl rfl L y.rel (λa' w' m' N s2 s3=>?_) ops.size (Array.replicate ops.size false) m a _ siM ?_ ?_ ?_
 .refine Z a' w' m' ⟨N.vars.size,?_,λs x=>l.lt s x,λs k u=>?_⟩ s2 (y.trans s3)
  .have:=N.vars.len
   rw[wH,this,l.len];simp
  .have i:=N.vars.val s k (wM pv c u)
   have z:=Ip u
   simp only[List.getD] at i |-
   rw[List.getElem?_take,bL (by rw[l.len];exact z)]
   exact i
 .intro j W;simp only[o] at W;cases W
 .exact FB _ _
 .rw[K]
  have p:mL h.next (λ_=>false) T {h with next:=h.next+ops.size}={h with next:=h.next+ops.size}:=by
   clear O R
   induction T with
   |nil=>rfl
   |cons q t ih=>simpa [mL,jE] using ih
  refine⟨?_,rfl,?_,?_,λr Y _ _=>?_,λT1 q T2 _ x=>by cases x⟩
  .rw[AY];exact⟨J,zU.nil ..⟩
  .rw[p]
   have U:=iZ.Mo y.rel
   exact⟨U.ext,y.rel.sub (λ_ _ h=>h),λ_ _ h=> .inl h,U.kept,λb G=> .inl G,Nat.le_add_right _ _,λb G=> .inl G,λ_ _ h=>h⟩
  .rw[p];exact eU _
  .exact L _ (Nat.le_add_right _ _)
end
end Go.Ay
