/- The abstract machine: values, heaps, the intermediate code, its evaluator, and the compiler from the model's code. -/
import GoSem.Dispatch
import GoSem.Core.Code
namespace Go.Ay
theorem dD.{u}{α:Type u}{l:List α}{i:Nat}(h:i<l.length):l[i]?=some l[i]:=List.getElem?_eq_getElem h
theorem oU.{u,v}{α:Type u}{β:Type v}{b:β}{x:Option α}{f:α->β}:Option.map f x=some b↔∃a,x=some a/\f a=b:=Option.map_eq_some_iff
theorem xP.{u}{α β:Type u}{o:Option α}{f:α->Option β}{b:β}:o.bind f=some b↔∃a,o=some a/\f a=some b:=Option.bind_eq_some_iff
theorem jM {n m k:Nat}(h:n<m)(h2:m<=k):n<k:=Nat.lt_of_lt_of_le h h2
theorem dT (n:Nat):n<=n:=Nat.le_refl n
theorem iB (n:Nat):0<=n:=Nat.zero_le n
theorem iA.{u,v}{α:Type u}{β:Type v}{a:List α}(f:α->β):(a.map f).length=a.length:=List.length_map f
theorem iV.{u}{α:Type u}{b a:List α}:(b++a).length=b.length+a.length:=List.length_append
theorem pH.{u,v}{α:Type u}{β:Type v}{b:β}{f:α->β}{l:List α}:b∈l.map f↔∃a,a∈l/\f a=b:=List.mem_map
theorem oD.{u}{α:Type u}{a:α}{s t:List α}:a∈s++t↔a∈s∨a∈t:=List.mem_append
theorem Dj {m n:Nat}:m∈List.range n↔m<n:=List.mem_range
theorem Rq.{u}{α:Type u}{p:α->Bool}{a:List α}{x:α}:x∈a.filter p↔x∈a/\p x=true:=List.mem_filter
theorem Dt.{u}{α:Type u}{l m:List α}{i:Nat}(h:i<l.length):(l++m)[i]?=l[i]?:=List.getElem?_append_left h
theorem zO.{u}{α:Type u}{i:Nat}{l:List α}:(l.take i).length=min i l.length:=List.length_take
theorem Ad.{u}{α:Type u}{a:α}{l:List α}:a∈l↔∃(i:Nat) (h:i<l.length),l[i]=a:=List.mem_iff_getElem
theorem Jj {p:Prop}(h:¬p->False):p:=Classical.byContradiction h
theorem om {p:Prop}(h:p:=by omega):p:=h
theorem bJ:type_of% @if_pos:=@if_pos
theorem bU:type_of% @if_neg:=@if_neg
theorem Lz:type_of% @List.append_assoc:=@List.append_assoc
theorem Da:type_of% @Option.bind_eq_bind:=@Option.bind_eq_bind
theorem mY:type_of% @Nat.le_trans:=@Nat.le_trans
theorem vJ:type_of% @List.getElem?_eq_some_iff:=@List.getElem?_eq_some_iff
theorem wI:type_of% @List.mem_cons_of_mem:=@List.mem_cons_of_mem
theorem sE:type_of% @Bool.and_eq_true:=@Bool.and_eq_true
theorem tW:type_of% @Nat.mul_one:=@Nat.mul_one
theorem tZ:type_of% @List.append_nil:=@List.append_nil
theorem Ro:type_of% @List.take_of_length_le:=@List.take_of_length_le
theorem Jg:type_of% @List.getElem?_append_right:=@List.getElem?_append_right
theorem OU:type_of% @List.getD_eq_getElem?_getD:=@List.getD_eq_getElem?_getD
theorem Xa:type_of% @List.map_congr_left:=@List.map_congr_left
theorem Xf:type_of% @List.length_range:=@List.length_range
theorem xG:type_of% @List.getElem_mem:=@List.getElem_mem
theorem tQ:type_of% @List.mem_cons_self:=@List.mem_cons_self
theorem vI:type_of% @List.mem_cons:=@List.mem_cons
theorem GP:type_of% @List.pairwise_iff_getElem:=@List.pairwise_iff_getElem
theorem DW:type_of% @Bool.eq_iff_iff:=@Bool.eq_iff_iff
theorem zP:type_of% @List.all_eq_true:=@List.all_eq_true
theorem Ak:type_of% @decide_eq_true_iff:=@decide_eq_true_iff
theorem DK:type_of% @Int.toNat_natCast:=@Int.toNat_natCast
theorem HF:type_of% @Array.getElem?_eq_some_iff:=@Array.getElem?_eq_some_iff
theorem Gb:type_of% @List.length_drop:=@List.length_drop
theorem MV:type_of% @List.nodup_iff_pairwise_ne:=@List.nodup_iff_pairwise_ne
theorem Xu:type_of% @List.mem_of_getElem?:=@List.mem_of_getElem?
theorem XK:type_of% @List.idxOf_lt_length_iff:=@List.idxOf_lt_length_iff
theorem Rl:type_of% @List.length_pos_of_mem:=@List.length_pos_of_mem
theorem Qy:type_of% @List.getElem?_map:=@List.getElem?_map
theorem Zh:type_of% @List.drop_eq_getElem_cons:=@List.drop_eq_getElem_cons
theorem OV:type_of% @Array.getD_eq_getD_getElem?:=@Array.getD_eq_getD_getElem?
theorem ON:type_of% @List.eq_nil_of_length_eq_zero:=@List.eq_nil_of_length_eq_zero
inductive pY where
 |kn (c:Nat)
 |un (esz:Nat)
 deriving DecidableEq,Repr,Inhabited
inductive V where
 |int (k:IntKind) (n:Int)
 |bool (b:Bool)
 |ptr (id off:Nat)
 |nilp
 |sl (id off len:Nat) (cap:pY)
 |aD
 |emp (a:Addr)
 |str (l:List Nat)
 |ifc (t:Nat) (x:V)
 |mp (id:Nat)
 |nilm
 |fn (f:Nat) (first cs:List V)
 |yl (id:Nat)
 |nilf
 |agg (vs:List V)
 |tup (vs:List V)
 |unk
 deriving Repr,Inhabited
def V.undef:V:= .tup []
def V.cells:V->List V
 | .agg vs=>vs
 |v=> [v]
def V.one:V->Bool
 | .agg _| .tup _| .unk=>false
 |_=>true
inductive X where
 |v (k:Nat)
 |l (k:Nat)
 |c (x:V)
 deriving Repr,Inhabited
inductive D where
 |v (k:Nat)
 |l
 |n
 deriving Repr,Inhabited,DecidableEq
inductive Gn where
 |str
 |arr (n:Nat) (k:IntKind)
 deriving Repr,Inhabited,DecidableEq
inductive I where
 |mov (x:X)
 |pick (c a b:X)
 |bin (op:BinOp) (k:IntKind) (x y:X)
 |shf (op:BinOp) (k:IntKind) (x y:X)
 |beq (neg:Bool) (x y:X)
 |snil (neg:Bool) (x:X)
 |not (x:X)
 |conv (k:IntKind) (x:X)
 |ext (x:X) (i:Nat)
 |lens (x:X)
 |lenm (x:X)
 |ld (agg:Bool) (n:Nat) (x:X)
 |st (n:Nat) (x y:X)
 |ixa (sz:Nat) (x i:X)
 |fla (off:Nat) (x:X)
 |slc (sz:Nat) (x:X) (lo hi mx:Option X)
 |mks (sz bytes:Nat) (zero:List V) (l c:X)
 |alc (zero:List V)
 |box (x:X)
 |bld (zero:List V) (parts:List (Nat×Nat×X))
 |bls (sz:Nat) (zero:List V) (n:Nat) (parts:List (Nat×Nat×X))
 |app (sz bytes:Nat) (x y:X)
 |cpy (sz:Nat) (x y:X)
 |mkf (f:Nat) (first cs:List X)
 |nck (x:X)
 |ixd (n sz:Nat) (x i:X)
 |cvs (x:X)
 |mif (t:Nat) (x:X)
 |mkw (sh:Gn) (r:Option X)
 |lkw (sh:Gn) (zero:V) (ok:Bool) (x k:X)
 |msw (sh:Gn) (x k y:X)
 |six (x i:X)
 |seq (neg:Bool) (x y:X)
 |sad (x y:X)
 |cir (x:X)
 |clr (sz:Nat) (zero:List V) (x:X)
 |fail
 deriving Repr,Inhabited
inductive fO where
 |op (i:I)
 |call (f:Nat) (args:List X)
 |callv (x:X) (args:List X)
 deriving Repr,Inhabited
structure It where
 d:D
 g:Option (X×Bool)
 a:fO
 deriving Repr,Inhabited
structure AI where
 i:Nat
 it:It
 al:Bool
 cks:List Nat
 deriving Repr,Inhabited
inductive C where
 |skip
 |reg (its:List It)
 |any (k nl:Nat) (its:List AI)
 |seq (a b:C)
 |ite (x:X) (a b:C)
 |block (id:Nat) (c:C)
 |loop (c:C)
 |exit (id:Nat)
 |ret
 |range (f:X) (pars:List Nat) (assign body:C)
 |fail
 deriving Repr,Inhabited
inductive E where
 |norm
 |ret
 |exit (id:Nat)
 deriving Repr,Inhabited,DecidableEq
inductive LSt where
 |ready
 |busy
 |done
 |out
 deriving Repr,Inhabited,DecidableEq
structure fK where
 vars:List V
 pars:List Nat
 assign:C
 body:C
 st:LSt
 pend:Option E
inductive Ob where
 |cells (ro:Bool) (vs:List V)
 |wmap (sh:Gn) (es:List (V×V))
 |loop (r:fK)
structure H where
 tr:Nat->Option Ob
 next:Nat
def H.get (h:H)(i:Nat):Option Ob:=h.tr i
def H.set (h:H)(id:Nat)(o:Option Ob):H:={h with tr:=λk=>if k=id then o else h.tr k}
def H.new (h:H)(o:Ob):H:={tr:=λk=>if k=h.next then some o else h.tr k,next:=h.next+1}
def lf:Nat->Option Ob:=λ_=>none
theorem H.jB (h:H)(id:Nat)(o:Option Ob)(k:Nat):(h.set id o).get k=if k=id then o else h.get k:=rfl
theorem H.kL (h:H)(o:Ob)(k:Nat):(h.new o).get k=if k=h.next then some o else h.get k:=rfl
theorem H.cV (h:H)(id:Nat)(o:Option Ob):(h.set id o).next=h.next:=rfl
theorem H.aW (h:H)(o:Ob):(h.new o).next=h.next+1:=rfl
inductive Rv where
 |v (k:Nat)
 |cell (k:Nat) (agg:Bool) (n:Nat)
 deriving Repr,Inhabited
structure Fn where
 nargs:Nat
 init:List (Option Nat)
 results:List Rv
 body:C
 srt:Bool:=false
 deriving Repr,Inhabited
def xv (vars loc:List V):X->V
 | .v k=>vars.getD k .undef
 | .l k=>loc.getD k .undef
 | .c x=>x
def wM (vars:List V)(k:Nat)(v:V):List V:=vars.set k v
def arith (op:BinOp)(k:IntKind)(a b:Int):Option V:=
 match op with
 | .add=>some (.int k (k.wrap (a+b)))
 | .sub=>some (.int k (k.wrap (a-b)))
 | .mul=>some (.int k (k.wrap (a*b)))
 | .quo=>if b=0 then none else some (.int k (k.wrap (a.tdiv b)))
 | .rem=>if b=0 then none else some (.int k (a.tmod b))
 | .eql=>some (.bool (a==b))
 | .neq=>some (.bool (a !=b))
 | .lss=>some (.bool (a<b))
 | .leq=>some (.bool (a<=b))
 | .gtr=>some (.bool (a>b))
 | .geq=>some (.bool (a≥b))
 | .and=>some (.int k (k.wrap (BitVec.ofInt k.bits a&&&BitVec.ofInt k.bits b).toNat))
 | .or=>some (.int k (k.wrap (BitVec.ofInt k.bits a|||BitVec.ofInt k.bits b).toNat))
 | .xor=>some (.int k (k.wrap (BitVec.ofInt k.bits a^^^BitVec.ofInt k.bits b).toNat))
 |_=>none
def Fq (op:BinOp)(k:IntKind)(a b:Int):Option V:=
 if b<0 then none else
 match op with
 | .shl=>some (.int k (k.wrap (a*2^(min b.toNat k.bits))))
 | .shr=>some (.int k (a.fdiv (2^(min b.toNat k.bits))))
 |_=>none
def sub (vs:List V)(off n:Nat):Option (List V):=
 if off+n<=vs.length then some ((vs.drop off).take n) else none
def putAt (vs:List V)(off:Nat)(ws:List V):Option (List V):=
 if off+ws.length<=vs.length then some (vs.take off++ws++vs.drop (off+ws.length)) else none
def H.row (h:H)(id off n:Nat):Option (List V):=
 match h.get id with
 |some (.cells _ vs)=>sub vs off n
 |_=>none
def H.put (h:H)(id off:Nat)(ws:List V):Option H:=
 match h.get id with
 |some (.cells false vs)=>(putAt vs off ws).map λvs'=>h.set id (some (.cells false vs'))
 |_=>none
def H.slice (h:H)(sz:Nat):V->Option (List V)
 | .aD=>some []
 | .emp _=>some []
 | .sl id off len _=>h.row id off (len*sz)
 |_=>none
def wZ:V->Option Nat
 | .aD=>some 0
 | .emp _=>some 0
 | .sl _ _ len _=>some len
 |_=>none
def YG (h:H)(agg:Bool)(n:Nat):V->Option V
 | .ptr id off=>
  match h.row id off n with
  |some vs=>if agg then some (.agg vs) else match vs with| [v]=>some v|_=>none
  |none=>none
 |_=>none
def Gr (sz:Nat)(x i:V):Option V:=
 match x,i with
 | .sl id off len _,.int _ n=>if 0<=n/\n<len then some (.ptr id (off+n.toNat*sz)) else none
 |_,_=>none
def nP (x:Option V)(dflt top:Nat):Option Nat:=
 match x with
 |none=>some dflt
 |some (.int _ n)=>if 0<=n/\n<=top then some n.toNat else none
 |_=>none
def rY (sz:Nat)(x:V)(lo hi mx:Option V):Option V:=
 match x with
 | .aD=>
  match mx,nP hi 0 0 with
  |none,some h=>match nP lo 0 h with|some _=>some .aD|none=>none
  |_,_=>none
 | .sl id off len cap=>
  match mx with
  |some _=>none
  |none=>
   match nP hi len (match cap with| .kn c=>c| .un _=>len) with
   |none=>none
   |some h=>
    match nP lo 0 h with
    |none=>none
    |some l=>
     match cap with
     | .kn c=>if l<=c then some (.sl id (if c=l then off else off+l*sz) (h-l) (.kn (c-l))) else none
     | .un e=>if e=sz then (if l<len then some (.sl id (off+l*sz) (h-l) (.un e)) else some (.sl id off 0 (.un e))) else none
 |_=>none
def iK (cells:List V):List (Nat×Nat×V)->Option (List V)
 | []=>some cells
 |(off,n,v)::rest=>
  if v.cells.length=n/\v.cells.all V.one then
   match putAt cells off v.cells with
   |some cs=>iK cs rest
   |none=>none
  else none
def dP (zero:List V)(n:Nat):List V:=(List.range n).map λi=>zero.getD (i%zero.length) .undef
def Fj (h:H)(sz bytes:Nat)(x:V)(m:Nat)(ys:List V):Option (V×H):=
 match wZ x,h.slice sz x with
 |some n,some xs=>
  if m=0 then some (x,h) else
  if (2*(n+m)+1000)*bytes<=2^48/\n+m<2^62 then
   match x with
   | .sl id off len (.kn c)=>
    if len+m<=c then
     match h.put id (off+len*sz) ys with
     |some h'=>some (.sl id off (len+m) (.kn c),h')
     |none=>none
    else some (.sl h.next 0 (n+m) (.un sz),h.new (.cells false (xs++ys)))
   | .sl id _ _ (.un e)=>
    match h.get id with
    |some (.cells false _)=>if e=sz then some (.sl h.next 0 (n+m) (.un sz),(h.set id none).new (.cells false (xs++ys))) else none
    |_=>none
   | .emp _=>none
   |_=>some (.sl h.next 0 (n+m) (.un sz),h.new (.cells false (xs++ys)))
  else none
 |_,_=>none
def KH (h:H)(sz:Nat)(x y:V):Option (V×H):=
 match wZ x,wZ y with
 |some n,some m=>
  let k:=min m n
  match x,y with
  | .sl id off _ _,.sl id' off' _ _=>
   match h.row id' off' (k*sz) with
   |some ys=>match h.put id off ys with
    |some h'=>some (.int .i64 k,h')
    |none=>none
   |none=>none
  |_,_=>if k=0 then some (.int .i64 0,h) else none
 |_,_=>none
def Jz (h:H)(sz bytes:Nat)(zero:List V)(l c:V):Option (V×H):=
 match l,c with
 | .int _ l,.int _ c=>
  if 0<=l/\l<=c/\c*bytes<=2^48/\c<2^62 then
   some (.sl h.next 0 l.toNat (.kn c.toNat),h.new (.cells false (dP zero (c.toNat*sz))))
  else none
 |_,_=>none
mutual
def dI:V->V->Bool
 | .int k a,.int j b=>k==j&&a==b
 | .bool a,.bool b=>a==b
 | .ptr i o,.ptr j p=>i==j&&o==p
 | .nilp,.nilp=>true
 | .sl i o l c,.sl j p n d=>i==j&&o==p&&l==n&&decide (c=d)
 | .aD,.aD=>true
 | .emp a,.emp b=>decide (a=b)
 | .str a,.str b=>a==b
 | .ifc a x,.ifc b y=>a==b&&dI x y
 | .mp i,.mp j=>i==j
 | .nilm,.nilm=>true
 | .fn f a b,.fn g c d=>f==g&&tG a c&&tG b d
 | .yl i,.yl j=>i==j
 | .nilf,.nilf=>true
 | .agg a,.agg b=>tG a b
 | .tup a,.tup b=>tG a b
 |_,_=>false
def tG:List V->List V->Bool
 | [], []=>true
 |a::as,b::bs=>dI a b&&tG as bs
 |_,_=>false
end
def UR:V->Bool
 | .int .. =>true
 |_=>false
def Nl:Option V->Bool
 |none=>true
 |some v=>UR v
def UO (n sz:Nat)(x i:V):Option V:=
 match x,i with
 | .ptr id off,.int _ z=>if 0<=z/\z<(n:Int) then some (.ptr id (off+z.toNat*sz)) else none
 |_,_=>none
def qL:List V->Option (List Nat)
 | []=>some []
 | .int .u8 n::r=>if 0<=n/\n<256 then (qL r).map (n.toNat:: ·) else none
 |_=>none
def LL (h:H)(x:V):Option V:=
 match x with
 | .aD=>some (.str [])
 | .sl id off len _=>match h.row id off len with
  |some ys=>(qL ys).map V.str
  |none=>none
 |_=>none
def isKey:Gn->V->Bool
 | .str,.str l=>decide (l.length<2^62)&&l.all (λn=>decide (n<256))
 | .arr n k,.agg vs=>decide (vs.length=n)&&vs.all (fun| .int j a=>decide (j=k)&&(decide (k.min<=a)&&decide (a<=k.max))|_=>false)
 |_,_=>false
def iN (k:V):List (V×V)->Option (Nat×V)
 | []=>none
 |e::es=>if dI k e.1 then some (0,e.2) else (iN k es).map λq=>(q.1+1,q.2)
def fC (ρ:X->V)(h:H):I->Option (V×H)
 | .mov x=>some (ρ x,h)
 | .pick c a b=>match ρ c with| .bool t=>some (if t then ρ a else ρ b,h)|_=>none
 | .bin op k x y=>match ρ x,ρ y with
  | .int j a,.int j' b=>if j=k/\j'=k then (arith op k a b).map (·,h) else none
  |_,_=>none
 | .shf op k x y=>match ρ x,ρ y with
  | .int j a,.int _ b=>if j=k then (Fq op k a b).map (·,h) else none
  |_,_=>none
 | .beq neg x y=>match ρ x,ρ y with
  | .bool a,.bool b=>some (.bool (if neg then !(a==b) else a==b),h)
  |_,_=>none
 | .snil neg x=>match ρ x with
  | .aD=>some (.bool (!neg),h)
  | .sl .. | .emp _=>some (.bool neg,h)
  |_=>none
 | .not x=>match ρ x with| .bool a=>some (.bool (!a),h)|_=>none
 | .conv k x=>match ρ x with| .int _ a=>some (.int k (k.wrap a),h)|_=>none
 | .ext x i=>match ρ x with| .tup vs=>(vs[i]?).map (·,h)|_=>none
 | .lens x=>(wZ (ρ x)).map λ(n:Nat)=>(V.int .i64 (n:Int),h)
 | .lenm x=>match ρ x with
  | .nilm=>some (.int .i64 0,h)
  | .mp id=>match h.get id with|some (.wmap _ es)=>some (.int .i64 es.length,h)|_=>none
  |_=>none
 | .ld agg n x=>(YG h agg n (ρ x)).map (·,h)
 | .st n x y=>match ρ x with
  | .ptr id off=>if (ρ y).cells.length=n/\(ρ y).cells.all V.one then (h.put id off (ρ y).cells).map (λh'=>(V.undef,h')) else none
  |_=>none
 | .ixa sz x i=>(Gr sz (ρ x) (ρ i)).map (·,h)
 | .fla off x=>match ρ x with| .ptr id o=>some (.ptr id (o+off),h)|_=>none
 | .slc sz x lo hi mx=>(rY sz (ρ x) (lo.map ρ) (hi.map ρ) (mx.map ρ)).map (·,h)
 | .mks sz bytes zero l c=>Jz h sz bytes zero (ρ l) (ρ c)
 | .alc zero=>some (.ptr h.next 0,h.new (.cells false zero))
 | .box x=>if (ρ x).cells.all V.one then some (.ptr h.next 0,h.new (.cells false (ρ x).cells)) else none
 | .bld zero parts=>(iK zero (parts.map λp=>(p.1,p.2.1,ρ p.2.2))).map λcs=>(.agg cs,h)
 | .bls sz zero n parts=>match iK (dP zero (n*sz)) (parts.map λp=>(p.1,p.2.1,ρ p.2.2)) with
  |some cs=>if cs.all V.one then some (.sl h.next 0 n (.kn n),h.new (.cells false cs)) else none
  |none=>none
 | .app sz bytes x y=>match wZ (ρ y),h.slice sz (ρ y) with
  |some m,some ys=>Fj h sz bytes (ρ x) m ys
  |_,_=>none
 | .cpy sz x y=>KH h sz (ρ x) (ρ y)
 | .mkf f fs cs=>some (.fn f (fs.map ρ) (cs.map ρ),h)
 | .nck x=>match ρ x with| .ptr id off=>some (.ptr id off,h)|_=>none
 | .ixd n sz x i=>(UO n sz (ρ x) (ρ i)).map (·,h)
 | .cvs x=>(LL h (ρ x)).map (·,h)
 | .mif t x=>some (.ifc t (ρ x),h)
 | .mkw sh r=>if Nl (r.map ρ)=true then some (.mp h.next,h.new (.wmap sh [])) else none
 | .lkw s zero ok x k=>match ρ x with
  | .mp id=>match h.get id with
   |some (.wmap sh es)=>if s=sh/\isKey s (ρ k)=true then
     match iN (ρ k) es with
     |some e=>some (if ok then .tup [e.2,.bool true] else e.2,h)
     |none=>some (if ok then .tup [zero,.bool false] else zero,h)
    else none
   |_=>none
  |_=>none
 | .msw s x k y=>match ρ x with
  | .mp id=>match h.get id with
   |some (.wmap sh es)=>if s=sh/\isKey s (ρ k)=true then
     some (V.undef,h.set id (some (.wmap sh (match iN (ρ k) es with
      |some e=>es.set e.1 (ρ k,ρ y)
      |none=>es++ [(ρ k,ρ y)]))))
    else none
   |_=>none
  |_=>none
 | .six x i=>match ρ x,ρ i with
  | .str l,.int _ z=>if 0<=z then (l[z.toNat]?).map (λ(c:Nat)=>(V.int .u8 ((c%256:Nat):Int),h)) else none
  |_,_=>none
 | .seq neg x y=>match ρ x,ρ y with
  | .str a,.str b=>some (.bool (if neg then !(a.map (· %256)==b.map (· %256)) else a.map (· %256)==b.map (· %256)),h)
  |_,_=>none
 | .sad x y=>match ρ x,ρ y with
  | .str a,.str b=>if a.length+b.length<2^62 then some (.str (a++b),h) else none
  |_,_=>none
 | .cir x=>match ρ x with
  | .int _ n=>if 0<=n/\n<128 then some (.str [n.toNat],h) else none
  |_=>none
 | .clr sz zero x=>match ρ x with
  | .aD=>some (V.undef,h)
  | .emp _=>some (V.undef,h)
  | .sl id off len _=>if len=0 then some (V.undef,h) else
   if zero.length=sz/\zero.all V.one=true then (h.put id off (dP zero (len*sz))).map (λh'=>(V.undef,h')) else none
  |_=>none
 | .fail=>none
def jG (d:D)(vars loc:List V)(v:V):List V×List V:=
 match d with
 | .v k=>(vars.set k v,loc)
 | .l=>(vars,v::loc)
 | .n=>(vars,loc)
def Kh (vars:List V)(h:H):Rv->Option V
 | .v k=>some (vars.getD k .undef)
 | .cell k agg n=>YG h agg n (vars.getD k .undef)
def Yv:List V->V
 | [v]=>v
 |vs=> .tup vs
def dG {α:Type}:List (Option α)->Option (List α)
 | []=>some []
 |none::_=>none
 |some a::r=>(dG r).map (a:: ·)
def iU (vars loc:List V):Option (X×Bool)->Option Bool
 |none=>some true
 |some (x,b)=>match xv vars loc x with| .bool a=>some (a==b)| .tup []=>some false|_=>none
def I.tM:I->Bool
 | .ld .. | .lenm _| .cvs _| .lkw .. =>true
 |_=>false
def I.oE:I->Bool
 | .mks .. | .alc _| .box _| .bls .. | .mkw .. =>true
 |_=>false
def I.vH:I->Bool
 | .st .. | .app .. | .cpy .. | .msw .. | .clr .. =>true
 |_=>false
def fO.tM:fO->Bool
 | .op i=>i.tM
 |_=>false
def fO.oE:fO->Bool
 | .op i=>i.oE
 |_=>false
def fO.vH:fO->Bool
 | .op i=>i.vH
 |_=>true
def I.close (ρ:X->V):I->I
 | .ld a n x=> .ld a n (.c (ρ x))
 | .lenm x=> .lenm (.c (ρ x))
 | .cvs x=> .cvs (.c (ρ x))
 | .lkw s z ok x k=> .lkw s z ok (.c (ρ x)) (.c (ρ k))
 |i=>i
abbrev Log:=List (Nat×I×V)
def qG (cks:List Nat)(log:Log)(h:H):Bool:=
 log.all λe=>!cks.contains e.1||(match fC (xv [] []) h e.2.1 with|some (v,_)=>dI v e.2.2|none=>false)
def Kr (x:AI)(vars:List V)(v:V)(log:Log):Log:=
 match x.it.a with
 | .op i=>if i.tM then (x.i,i.close (xv vars []),v)::log else log
 |_=>log
def Kw (vars:List V)(h:H)(n:Nat):fO->Option (V×H)
 | .op i=>match fC (xv vars []) {h with next:=n} i with
  |some (v,h')=>some (v,{h' with next:=h.next})
  |none=>none
 |_=>none
def Hv (fn:Fn)(args:List V):List V:=fn.init.map λo=>match o with|some j=>args.getD j .undef|none=> .undef
def KI (rd:Option Nat)(h:H):Bool:=
 match rd with
 |none=>true
 |some id=>match h.get id with
  |some (.loop _)=>true
  |_=>false
end Go.Ay
