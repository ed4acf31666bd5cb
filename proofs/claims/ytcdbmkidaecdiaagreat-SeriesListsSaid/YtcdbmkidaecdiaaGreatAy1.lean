/- The abstract machine: values, heaps, the intermediate code, its evaluator, and the compiler from the model's code. -/
import GoSem.Dispatch
import GoSem.Core.Code
namespace Go.Ay
theorem dF.{u}{α:Type u}{l:List α}{i:Nat}(h:i<l.length):l[i]?=some l[i]:=List.getElem?_eq_getElem h
theorem lT.{u,v}{α:Type u}{β:Type v}{b:β}{x:Option α}{f:α->β}:Option.map f x=some b↔∃a,x=some a/\f a=b:=Option.map_eq_some_iff
theorem qL.{u}{α β:Type u}{o:Option α}{f:α->Option β}{b:β}:o.bind f=some b↔∃a,o=some a/\f a=some b:=Option.bind_eq_some_iff
theorem jB {n m k:Nat}(h:n<m)(h2:m<=k):n<k:=Nat.lt_of_lt_of_le h h2
theorem eH (n:Nat):n<=n:=Nat.le_refl n
theorem fR (n:Nat):0<=n:=Nat.zero_le n
theorem iN.{u,v}{α:Type u}{β:Type v}{a:List α}(f:α->β):(a.map f).length=a.length:=List.length_map f
theorem iA.{u}{α:Type u}{a b:List α}:(a++b).length=a.length+b.length:=List.length_append
theorem vF.{u,v}{α:Type u}{β:Type v}{b:β}{f:α->β}{l:List α}:b∈l.map f↔∃a,a∈l/\f a=b:=List.mem_map
theorem kT.{u}{α:Type u}{a:α}{s t:List α}:a∈s++t↔a∈s∨a∈t:=List.mem_append
theorem Lk {m n:Nat}:m∈List.range n↔m<n:=List.mem_range
theorem GI.{u}{α:Type u}{p:α->Bool}{a:List α}{x:α}:x∈a.filter p↔x∈a/\p x=true:=List.mem_filter
theorem Ej.{u}{α:Type u}{l m:List α}{i:Nat}(h:i<l.length):(l++m)[i]?=l[i]?:=List.getElem?_append_left h
theorem Cq.{u}{α:Type u}{i:Nat}{l:List α}:(l.take i).length=min i l.length:=List.length_take
theorem wV.{u}{α:Type u}{a:α}{l:List α}:a∈l↔∃(i:Nat) (h:i<l.length),l[i]=a:=List.mem_iff_getElem
theorem Kh {p:Prop}(h:¬p->False):p:=Classical.byContradiction h
theorem om {p:Prop}(h:p:=by omega):p:=h
theorem bJ:type_of% @if_pos:=@if_pos
theorem bL:type_of% @if_neg:=@if_neg
theorem rS:type_of% @List.append_assoc:=@List.append_assoc
theorem vD:type_of% @Option.bind_eq_bind:=@Option.bind_eq_bind
theorem lX:type_of% @Nat.le_trans:=@Nat.le_trans
theorem zG:type_of% @List.getElem?_eq_some_iff:=@List.getElem?_eq_some_iff
theorem Cu:type_of% @List.mem_cons_of_mem:=@List.mem_cons_of_mem
theorem vV:type_of% @Bool.and_eq_true:=@Bool.and_eq_true
theorem uH:type_of% @Nat.mul_one:=@Nat.mul_one
theorem tD:type_of% @List.append_nil:=@List.append_nil
theorem Lq:type_of% @List.take_of_length_le:=@List.take_of_length_le
theorem Eb:type_of% @List.getElem?_append_right:=@List.getElem?_append_right
theorem UT:type_of% @List.getD_eq_getElem?_getD:=@List.getD_eq_getElem?_getD
theorem Wd:type_of% @List.map_congr_left:=@List.map_congr_left
theorem YI:type_of% @List.length_range:=@List.length_range
theorem Bu:type_of% @List.getElem_mem:=@List.getElem_mem
theorem Co:type_of% @List.mem_cons_self:=@List.mem_cons_self
theorem Gr:type_of% @List.mem_cons:=@List.mem_cons
theorem OP:type_of% @List.pairwise_iff_getElem:=@List.pairwise_iff_getElem
theorem Qk:type_of% @Bool.eq_iff_iff:=@Bool.eq_iff_iff
theorem Lw:type_of% @List.all_eq_true:=@List.all_eq_true
theorem Ss:type_of% @decide_eq_true_iff:=@decide_eq_true_iff
theorem OM:type_of% @Int.toNat_natCast:=@Int.toNat_natCast
theorem Wi:type_of% @Array.getElem?_eq_some_iff:=@Array.getElem?_eq_some_iff
theorem BM:type_of% @List.length_drop:=@List.length_drop
theorem nPN:type_of% @List.nodup_iff_pairwise_ne:=@List.nodup_iff_pairwise_ne
theorem EV:type_of% @List.mem_of_getElem?:=@List.mem_of_getElem?
theorem iLL:type_of% @List.idxOf_lt_length_iff:=@List.idxOf_lt_length_iff
theorem KH:type_of% @List.length_pos_of_mem:=@List.length_pos_of_mem
theorem Wy:type_of% @List.getElem?_map:=@List.getElem?_map
theorem BT:type_of% @List.drop_eq_getElem_cons:=@List.drop_eq_getElem_cons
theorem OQ:type_of% @Array.getD_eq_getD_getElem?:=@Array.getD_eq_getD_getElem?
theorem WE:type_of% @List.eq_nil_of_length_eq_zero:=@List.eq_nil_of_length_eq_zero
inductive pF where
 |kn (c:Nat)
 |un (esz:Nat)
 deriving DecidableEq,Repr,Inhabited
inductive V where
 |int (k:IntKind) (n:Int)
 |bool (b:Bool)
 |ptr (id off:Nat)
 |nilp
 |sl (id off len:Nat) (cap:pF)
 |aE
 |emp (a:Addr)
 |str (l:List Nat)
 |ifc (t:Nat) (x:V)
 |mp (id:Nat)
 |nilm
 |fn (f:Nat) (first cs:List V)
 |yl (id:Nat)
 |nilf
 |agg (vs:List V)
 |tup (vs:List V)
 |unk
 deriving Repr,Inhabited
def V.undef:V:= .tup []
def V.cells:V->List V
 | .agg vs=>vs
 |v=> [v]
def V.one:V->Bool
 | .agg _| .tup _| .unk=>false
 |_=>true
inductive X where
 |v (k:Nat)
 |l (k:Nat)
 |c (x:V)
 deriving Repr,Inhabited
inductive D where
 |v (k:Nat)
 |l
 |n
 deriving Repr,Inhabited,DecidableEq
inductive Ci where
 |str
 |arr (n:Nat) (k:IntKind)
 deriving Repr,Inhabited,DecidableEq
inductive I where
 |mov (x:X)
 |pick (c a b:X)
 |bin (op:BinOp) (k:IntKind) (x y:X)
 |shf (op:BinOp) (k:IntKind) (x y:X)
 |beq (neg:Bool) (x y:X)
 |snil (neg:Bool) (x:X)
 |not (x:X)
 |neg (k:IntKind) (x:X)
 |conv (k:IntKind) (x:X)
 |part (agg:Bool) (off n:Nat) (x:X)
 |ext (x:X) (i:Nat)
 |lens (x:X)
 |lenm (x:X)
 |caps (x:X)
 |mm (max:Bool) (xs:List X)
 |ld (agg:Bool) (n:Nat) (x:X)
 |st (n:Nat) (x y:X)
 |ixa (sz:Nat) (x i:X)
 |fla (off:Nat) (x:X)
 |slc (sz:Nat) (x:X) (lo hi mx:Option X)
 |mks (sz bytes:Nat) (zero:List V) (l c:X)
 |alc (zero:List V)
 |box (x:X)
 |bld (zero:List V) (parts:List (Nat×Nat×X))
 |bls (sz:Nat) (zero:List V) (n:Nat) (parts:List (Nat×Nat×X))
 |app (sz bytes:Nat) (x y:X)
 |apz (sz bytes:Nat) (zero:List V) (x n:X)
 |cpy (sz:Nat) (x y:X)
 |mkf (f:Nat) (first cs:List X)
 |mkm
 |lkp (zero:V) (ok:Bool) (x k:X)
 |mset (x k y:X)
 |nck (x:X)
 |ixd (n sz:Nat) (x i:X)
 |cvs (x:X)
 |mif (t:Nat) (x:X)
 |mkw (sh:Ci) (r:Option X)
 |lkw (sh:Ci) (zero:V) (ok:Bool) (x k:X)
 |msw (sh:Ci) (x k y:X)
 |ent (sh:Ci) (zero:V) (x k:X)
 |ens (x s y:X)
 |six (x i:X)
 |seq (neg:Bool) (x y:X)
 |sad (x y:X)
 |cir (x:X)
 |clr (sz:Nat) (zero:List V) (x:X)
 |sla (n sz:Nat) (x:X) (lo hi:Option X)
 |fail
 deriving Repr,Inhabited
def V.Jh:V->Bool
 | .int .. | .bool _=>true
 |_=>false
inductive dO where
 |op (i:I)
 |call (f:Nat) (args:List X)
 |callv (x:X) (args:List X)
 |callp (f:Nat) (args:List X)
 |calli (f t:Nat) (x:X) (args:List X)
 deriving Repr,Inhabited
structure It where
 d:D
 g:Option (X×Bool)
 a:dO
 deriving Repr,Inhabited
structure AI where
 i:Nat
 it:It
 al:Bool
 cks:List Nat
 deriving Repr,Inhabited
inductive C where
 |skip
 |reg (its:List It)
 |any (k nl:Nat) (its:List AI)
 |regd (its:List It) (x:X) (args:List X)
 |seq (a b:C)
 |ite (x:X) (a b:C)
 |block (id:Nat) (c:C)
 |loop (c:C)
 |exit (id:Nat)
 |ret
 |scope (c:C)
 |range (f:X) (pars:List Nat) (assign body:C)
 |fail
 deriving Repr,Inhabited
inductive E where
 |norm
 |ret
 |exit (id:Nat)
 deriving Repr,Inhabited,DecidableEq
inductive LSt where
 |ready
 |busy
 |done
 |out
 deriving Repr,Inhabited,DecidableEq
structure dY where
 vars:List V
 pars:List Nat
 assign:C
 body:C
 st:LSt
 pend:Option E
inductive Ob where
 |cells (ro:Bool) (vs:List V)
 |map (es:List (V×V))
 |wmap (sh:Ci) (es:List (V×V))
 |loop (r:dY)
inductive Tr where
 |lf
 |nd (v:Option Ob) (l r:Tr)
def Tr.get:Tr->Nat->Option Ob
 | .lf,_=>none
 | .nd v l r,n=>cond (n==0) v (cond (n%2==1) (l.get (n/2)) (r.get (n/2- 1)))
def Tr.Qs:Nat->Tr->Nat->Option Ob->Tr
 |0,t,_,_=>t
 |f+1,.lf,n,o=>cond (n==0) (.nd o .lf .lf) (cond (n%2==1) (.nd none (Qs f .lf (n/2) o) .lf) (.nd none .lf (Qs f .lf (n/2- 1) o)))
 |f+1,.nd v l r,n,o=>cond (n==0) (.nd o l r) (cond (n%2==1) (.nd v (Qs f l (n/2) o) r) (.nd v l (Qs f r (n/2- 1) o)))
theorem Tr.wF: ∀(f:Nat) (t:Tr) (n k:Nat) (o:Option Ob),n<f->(t.Qs f n o).get k=if k=n then o else t.get k
 |0,_,_,_,_,h=>om
 |f+1,.lf,n,k,o,h=>by
  simp only[Tr.Qs]
  by_cases g:n=0
  ·subst g
   simp only[beq_self_eq_true,cond_true,Tr.get]
   by_cases a:k=0
   ·simp [a]
   ·have d:(k==0)=false:=by simp [a]
    simp [d,a,Tr.get]
  ·have m:(n==0)=false:=by simp [g]
   simp only[m,cond_false]
   by_cases i:n%2=1
   ·have d:(n%2==1)=true:=by simp [i]
    simp only[d,cond_true,Tr.get]
    by_cases a:k=0
    ·subst a;simp [show (0:Nat)≠n from λe=>g e.symm]
    ·have j:(k==0)=false:=by simp [a]
     simp only[j,cond_false]
     by_cases c:k%2=1
     ·have b:(k%2==1)=true:=by simp [c]
      simp only[b,cond_true];rw[Tr.wF f .lf (n/2) (k/2) o om];have:k/2=n/2↔k=n:=om
      simp [this,Tr.get]
     ·have b:(k%2==1)=false:=by simp;omega
      have:k≠n:=λe=>c (e▸i)
      simp [b,this,Tr.get]
   ·have d:(n%2==1)=false:=by simp;omega
    simp only[d,cond_false,Tr.get]
    by_cases a:k=0
    ·subst a;simp [show (0:Nat)≠n from λe=>g e.symm]
    ·have j:(k==0)=false:=by simp [a]
     simp only[j,cond_false]
     by_cases c:k%2=1
     ·have b:(k%2==1)=true:=by simp [c]
      have:k≠n:=λe=>i (e▸c)
      simp [b,this,Tr.get]
     ·have b:(k%2==1)=false:=by simp;omega
      simp only[b,cond_false];rw[Tr.wF f .lf (n/2- 1) (k/2- 1) o om];have:k/2- 1=n/2- 1↔k=n:=om
      simp [this,Tr.get]
 |f+1,.nd v l r,n,k,o,h=>by
  simp only[Tr.Qs]
  by_cases g:n=0
  ·subst g
   simp only[beq_self_eq_true,cond_true,Tr.get]
   by_cases a:k=0
   ·simp [a]
   ·have d:(k==0)=false:=by simp [a]
    simp [d,a]
  ·have m:(n==0)=false:=by simp [g]
   simp only[m,cond_false]
   by_cases i:n%2=1
   ·have d:(n%2==1)=true:=by simp [i]
    simp only[d,cond_true,Tr.get]
    by_cases a:k=0
    ·subst a;simp [show (0:Nat)≠n from λe=>g e.symm]
    ·have j:(k==0)=false:=by simp [a]
     simp only[j,cond_false]
     by_cases c:k%2=1
     ·have b:(k%2==1)=true:=by simp [c]
      simp only[b,cond_true];rw[Tr.wF f l (n/2) (k/2) o om];have:k/2=n/2↔k=n:=om
      simp [this]
     ·have b:(k%2==1)=false:=by simp;omega
      have:k≠n:=λe=>c (e▸i)
      simp [b,this]
   ·have d:(n%2==1)=false:=by simp;omega
    simp only[d,cond_false,Tr.get]
    by_cases a:k=0
    ·subst a;simp [show (0:Nat)≠n from λe=>g e.symm]
    ·have j:(k==0)=false:=by simp [a]
     simp only[j,cond_false]
     by_cases c:k%2=1
     ·have b:(k%2==1)=true:=by simp [c]
      have:k≠n:=λe=>i (e▸c)
      simp [b,this]
     ·have b:(k%2==1)=false:=by simp;omega
      simp only[b,cond_false];rw[Tr.wF f r (n/2- 1) (k/2- 1) o om];have:k/2- 1=n/2- 1↔k=n:=om
      simp [this]
structure H where
 tr:Tr
 next:Nat
def H.get (h:H)(i:Nat):Option Ob:=h.tr.get i
def H.set (h:H)(id:Nat)(o:Option Ob):H:={h with tr:=h.tr.Qs (id+1) id o}
def H.new (h:H)(o:Ob):H:={tr:=h.tr.Qs (h.next+1) h.next (some o),next:=h.next+1}
theorem H.iW (h:H)(id:Nat)(o:Option Ob)(k:Nat):(h.set id o).get k=if k=id then o else h.get k:=Tr.wF _ _ _ _ _ (Nat.lt_succ_self _)
theorem H.jQ (h:H)(o:Ob)(k:Nat):(h.new o).get k=if k=h.next then some o else h.get k:=Tr.wF _ _ _ _ _ (Nat.lt_succ_self _)
theorem H.cH (h:H)(id:Nat)(o:Option Ob):(h.set id o).next=h.next:=rfl
theorem H.aU (h:H)(o:Ob):(h.new o).next=h.next+1:=rfl
inductive Rv where
 |v (k:Nat)
 |cell (k:Nat) (agg:Bool) (n:Nat)
 deriving Repr,Inhabited
structure Fn where
 nargs:Nat
 init:List (Option Nat)
 results:List Rv
 body:C
 deriving Repr,Inhabited
def xv (vars loc:List V):X->V
 | .v k=>vars.getD k .undef
 | .l k=>loc.getD k .undef
 | .c x=>x
def vE (vars:List V)(k:Nat)(v:V):List V:=vars.set k v
def arith (op:BinOp)(k:IntKind)(a b:Int):Option V:=
 match op with
 | .add=>some (.int k (k.wrap (a+b)))
 | .sub=>some (.int k (k.wrap (a-b)))
 | .mul=>some (.int k (k.wrap (a*b)))
 | .quo=>if b=0 then none else some (.int k (k.wrap (a.tdiv b)))
 | .rem=>if b=0 then none else some (.int k (a.tmod b))
 | .eql=>some (.bool (a==b))
 | .neq=>some (.bool (a !=b))
 | .lss=>some (.bool (a<b))
 | .leq=>some (.bool (a<=b))
 | .gtr=>some (.bool (a>b))
 | .geq=>some (.bool (a≥b))
 | .and=>some (.int k (k.wrap (BitVec.ofInt k.bits a&&&BitVec.ofInt k.bits b).toNat))
 | .or=>some (.int k (k.wrap (BitVec.ofInt k.bits a|||BitVec.ofInt k.bits b).toNat))
 | .xor=>some (.int k (k.wrap (BitVec.ofInt k.bits a^^^BitVec.ofInt k.bits b).toNat))
 |_=>none
def Dz (op:BinOp)(k:IntKind)(a b:Int):Option V:=
 if b<0 then none else
 match op with
 | .shl=>some (.int k (k.wrap (a*2^(min b.toNat k.bits))))
 | .shr=>some (.int k (a.fdiv (2^(min b.toNat k.bits))))
 |_=>none
def sub (vs:List V)(off n:Nat):Option (List V):=
 if off+n<=vs.length then some ((vs.drop off).take n) else none
def putAt (vs:List V)(off:Nat)(ws:List V):Option (List V):=
 if off+ws.length<=vs.length then some (vs.take off++ws++vs.drop (off+ws.length)) else none
def H.row (h:H)(id off n:Nat):Option (List V):=
 match h.get id with
 |some (.cells _ vs)=>sub vs off n
 |_=>none
def H.put (h:H)(id off:Nat)(ws:List V):Option H:=
 match h.get id with
 |some (.cells false vs)=>(putAt vs off ws).map λvs'=>h.set id (some (.cells false vs'))
 |_=>none
def H.slice (h:H)(sz:Nat):V->Option (List V)
 | .aE=>some []
 | .emp _=>some []
 | .sl id off len _=>h.row id off (len*sz)
 |_=>none
def uB:V->Option Nat
 | .aE=>some 0
 | .emp _=>some 0
 | .sl _ _ len _=>some len
 |_=>none
def RV (h:H)(agg:Bool)(n:Nat):V->Option V
 | .ptr id off=>
  match h.row id off n with
  |some vs=>if agg then some (.agg vs) else match vs with| [v]=>some v|_=>none
  |none=>none
 |_=>none
def Gu (sz:Nat)(x i:V):Option V:=
 match x,i with
 | .sl id off len _,.int _ n=>if 0<=n/\n<len then some (.ptr id (off+n.toNat*sz)) else none
 |_,_=>none
def nK (x:Option V)(dflt top:Nat):Option Nat:=
 match x with
 |none=>some dflt
 |some (.int _ n)=>if 0<=n/\n<=top then some n.toNat else none
 |_=>none
def xU (sz:Nat)(x:V)(lo hi mx:Option V):Option V:=
 match x with
 | .aE=>
  match mx,nK hi 0 0 with
  |none,some h=>match nK lo 0 h with|some _=>some .aE|none=>none
  |_,_=>none
 | .sl id off len cap=>
  match mx with
  |some _=>none
  |none=>
   match nK hi len (match cap with| .kn c=>c| .un _=>len) with
   |none=>none
   |some h=>
    match nK lo 0 h with
    |none=>none
    |some l=>
     match cap with
     | .kn c=>if l<=c then some (.sl id (if c=l then off else off+l*sz) (h-l) (.kn (c-l))) else none
     | .un e=>if e=sz then (if l<len then some (.sl id (off+l*sz) (h-l) (.un e)) else some (.sl id off 0 (.un e))) else none
 |_=>none
def gZ (cells:List V):List (Nat×Nat×V)->Option (List V)
 | []=>some cells
 |(off,n,v)::rest=>
  if v.cells.length=n/\v.cells.all V.one then
   match putAt cells off v.cells with
   |some cs=>gZ cs rest
   |none=>none
  else none
def dC (zero:List V)(n:Nat):List V:=(List.range n).map λi=>zero.getD (i%zero.length) .undef
def zY (k:IntKind)(n:Int):List (V×V)->Option V
 | []=>none
 |(.int k' m,v)::es=>if k'=k then if n=m then some v else zY k n es else none
 |_=>none
def sZ (k:IntKind):List (V×V)->Bool
 | []=>true
 |(.int k' _,_)::es=>k'==k&&sZ k es
 |_=>false
def Jr (k:IntKind)(n:Int)(y:V):List (V×V)->List (V×V)
 | []=> [(.int k n,y)]
 |(.int k' m,v)::es=>if n=m then (.int k' m,y)::es else (.int k' m,v)::Jr k n y es
 |e::es=>e::Jr k n y es
def OH (max:Bool):V->List V->Option V
 |x, []=>some x
 | .int k x,.int k' y::r=>if k=k' then OH max (.int k (if max then (if y>x then y else x) else (if y<x then y else x))) r else none
 |_,_=>none
def yA (h:H)(sz bytes:Nat)(x:V)(m:Nat)(ys:List V):Option (V×H):=
 match uB x,h.slice sz x with
 |some n,some xs=>
  if m=0 then some (x,h) else
  if (2*(n+m)+1000)*bytes<=2^48/\n+m<2^62 then
   match x with
   | .sl id off len (.kn c)=>
    if len+m<=c then
     match h.put id (off+len*sz) ys with
     |some h'=>some (.sl id off (len+m) (.kn c),h')
     |none=>none
    else some (.sl h.next 0 (n+m) (.un sz),h.new (.cells false (xs++ys)))
   | .sl id _ _ (.un e)=>
    match h.get id with
    |some (.cells false _)=>if e=sz then some (.sl h.next 0 (n+m) (.un sz),(h.set id none).new (.cells false (xs++ys))) else none
    |_=>none
   | .emp _=>none
   |_=>some (.sl h.next 0 (n+m) (.un sz),h.new (.cells false (xs++ys)))
  else none
 |_,_=>none
def adV (h:H)(sz:Nat)(x y:V):Option (V×H):=
 match uB x,uB y with
 |some n,some m=>
  let k:=min m n
  match x,y with
  | .sl id off _ _,.sl id' off' _ _=>
   match h.row id' off' (k*sz) with
   |some ys=>match h.put id off ys with
    |some h'=>some (.int .i64 k,h')
    |none=>none
   |none=>none
  |_,_=>if k=0 then some (.int .i64 0,h) else none
 |_,_=>none
def Iv (h:H)(sz bytes:Nat)(zero:List V)(l c:V):Option (V×H):=
 match l,c with
 | .int _ l,.int _ c=>
  if 0<=l/\l<=c/\c*bytes<=2^48/\c<2^62 then
   some (.sl h.next 0 l.toNat (.kn c.toNat),h.new (.cells false (dC zero (c.toNat*sz))))
  else none
 |_,_=>none
mutual
def dB:V->V->Bool
 | .int k a,.int j b=>k==j&&a==b
 | .bool a,.bool b=>a==b
 | .ptr i o,.ptr j p=>i==j&&o==p
 | .nilp,.nilp=>true
 | .sl i o l c,.sl j p n d=>i==j&&o==p&&l==n&&decide (c=d)
 | .aE,.aE=>true
 | .emp a,.emp b=>decide (a=b)
 | .str a,.str b=>a==b
 | .ifc a x,.ifc b y=>a==b&&dB x y
 | .mp i,.mp j=>i==j
 | .nilm,.nilm=>true
 | .fn f a b,.fn g c d=>f==g&&tI a c&&tI b d
 | .yl i,.yl j=>i==j
 | .nilf,.nilf=>true
 | .agg a,.agg b=>tI a b
 | .tup a,.tup b=>tI a b
 |_,_=>false
def tI:List V->List V->Bool
 | [], []=>true
 |a::as,b::bs=>dB a b&&tI as bs
 |_,_=>false
end
def XB:V->Bool
 | .int .. =>true
 |_=>false
def Mt:Option V->Bool
 |none=>true
 |some v=>XB v
def OC (n sz:Nat)(x i:V):Option V:=
 match x,i with
 | .ptr id off,.int _ z=>if 0<=z/\z<(n:Int) then some (.ptr id (off+z.toNat*sz)) else none
 |_,_=>none
def pV:List V->Option (List Nat)
 | []=>some []
 | .int .u8 n::r=>if 0<=n/\n<256 then (pV r).map (n.toNat:: ·) else none
 |_=>none
def LG (h:H)(x:V):Option V:=
 match x with
 | .aE=>some (.str [])
 | .sl id off len _=>match h.row id off len with
  |some ys=>(pV ys).map V.str
  |none=>none
 |_=>none
def isKey:Ci->V->Bool
 | .str,.str l=>decide (l.length<2^62)&&l.all (λn=>decide (n<256))
 | .arr n k,.agg vs=>decide (vs.length=n)&&vs.all (fun| .int j a=>decide (j=k)&&(decide (k.min<=a)&&decide (a<=k.max))|_=>false)
 |_,_=>false
def fX (k:V):List (V×V)->Option (Nat×V)
 | []=>none
 |e::es=>if dB k e.1 then some (0,e.2) else (fX k es).map λq=>(q.1+1,q.2)
def cK (ρ:X->V)(h:H):I->Option (V×H)
 | .mov x=>some (ρ x,h)
 | .pick c a b=>match ρ c with| .bool t=>some (if t then ρ a else ρ b,h)|_=>none
 | .bin op k x y=>match ρ x,ρ y with
  | .int j a,.int j' b=>if j=k/\j'=k then (arith op k a b).map (·,h) else none
  |_,_=>none
 | .shf op k x y=>match ρ x,ρ y with
  | .int j a,.int _ b=>if j=k then (Dz op k a b).map (·,h) else none
  |_,_=>none
 | .beq neg x y=>match ρ x,ρ y with
  | .bool a,.bool b=>some (.bool (if neg then !(a==b) else a==b),h)
  |_,_=>none
 | .snil neg x=>match ρ x with
  | .aE=>some (.bool (!neg),h)
  | .sl .. | .emp _=>some (.bool neg,h)
  |_=>none
 | .not x=>match ρ x with| .bool a=>some (.bool (!a),h)|_=>none
 | .neg k x=>match ρ x with| .int j a=>if j=k then some (.int k (k.wrap (0-a)),h) else none|_=>none
 | .conv k x=>match ρ x with| .int _ a=>some (.int k (k.wrap a),h)|_=>none
 | .part agg off n x=>match ρ x with
  | .agg vs=>if agg then (sub vs off n).map (λws=>(.agg ws,h)) else (vs[off]?).map (·,h)
  |_=>none
 | .ext x i=>match ρ x with| .tup vs=>(vs[i]?).map (·,h)|_=>none
 | .lens x=>(uB (ρ x)).map λ(n:Nat)=>(V.int .i64 (n:Int),h)
 | .caps x=>match ρ x with
  | .aE=>some (.int .i64 0,h)
  | .sl _ _ _ (.kn c)=>if c<2^62 then some (.int .i64 c,h) else none
  |_=>none
 | .lenm x=>match ρ x with
  | .nilm=>some (.int .i64 0,h)
  | .mp id=>match h.get id with|some (.map es)=>some (.int .i64 es.length,h)|some (.wmap _ es)=>some (.int .i64 es.length,h)|_=>none
  |_=>none
 | .mm max xs=>match xs.map ρ with| []=>none|x::r=>(OH max x r).map (·,h)
 | .ld agg n x=>(RV h agg n (ρ x)).map (·,h)
 | .st n x y=>match ρ x with
  | .ptr id off=>if (ρ y).cells.length=n/\(ρ y).cells.all V.one then (h.put id off (ρ y).cells).map (λh'=>(V.undef,h')) else none
  |_=>none
 | .ixa sz x i=>(Gu sz (ρ x) (ρ i)).map (·,h)
 | .fla off x=>match ρ x with| .ptr id o=>some (.ptr id (o+off),h)|_=>none
 | .slc sz x lo hi mx=>(xU sz (ρ x) (lo.map ρ) (hi.map ρ) (mx.map ρ)).map (·,h)
 | .mks sz bytes zero l c=>Iv h sz bytes zero (ρ l) (ρ c)
 | .alc zero=>some (.ptr h.next 0,h.new (.cells false zero))
 | .box x=>if (ρ x).cells.all V.one then some (.ptr h.next 0,h.new (.cells false (ρ x).cells)) else none
 | .bld zero parts=>(gZ zero (parts.map λp=>(p.1,p.2.1,ρ p.2.2))).map λcs=>(.agg cs,h)
 | .bls sz zero n parts=>match gZ (dC zero (n*sz)) (parts.map λp=>(p.1,p.2.1,ρ p.2.2)) with
  |some cs=>if cs.all V.one then some (.sl h.next 0 n (.kn n),h.new (.cells false cs)) else none
  |none=>none
 | .app sz bytes x y=>match uB (ρ y),h.slice sz (ρ y) with
  |some m,some ys=>yA h sz bytes (ρ x) m ys
  |_,_=>none
 | .apz sz bytes zero x n=>match ρ n with
  | .int .i64 n=>if 0<=n/\n*bytes<=2^48/\n<2^62/\zero.length=sz then yA h sz bytes (ρ x) n.toNat (dC zero (n.toNat*sz)) else none
  |_=>none
 | .cpy sz x y=>adV h sz (ρ x) (ρ y)
 | .mkf f fs cs=>some (.fn f (fs.map ρ) (cs.map ρ),h)
 | .mkm=>some (.mp h.next,h.new (.map []))
 | .lkp zero ok x k=>match ρ x,ρ k with
  | .mp id,.int kk n=>match h.get id with
   |some (.map es)=>if sZ kk es then
     match zY kk n es with
     |some v=>some (if ok then .tup [v,.bool true] else v,h)
     |none=>some (if ok then .tup [zero,.bool false] else zero,h)
    else none
   |_=>none
  |_,_=>none
 | .mset x k y=>match ρ x,ρ k with
  | .mp id,.int kk n=>match h.get id with
   |some (.map es)=>if sZ kk es then some (V.undef,h.set id (some (.map (Jr kk n (ρ y) es)))) else none
   |_=>none
  |_,_=>none
 | .nck x=>match ρ x with| .ptr id off=>some (.ptr id off,h)|_=>none
 | .ixd n sz x i=>(OC n sz (ρ x) (ρ i)).map (·,h)
 | .cvs x=>(LG h (ρ x)).map (·,h)
 | .mif t x=>some (.ifc t (ρ x),h)
 | .mkw sh r=>if Mt (r.map ρ)=true then some (.mp h.next,h.new (.wmap sh [])) else none
 | .lkw s zero ok x k=>match ρ x with
  | .mp id=>match h.get id with
   |some (.wmap sh es)=>if s=sh/\isKey s (ρ k)=true then
     match fX (ρ k) es with
     |some e=>some (if ok then .tup [e.2,.bool true] else e.2,h)
     |none=>some (if ok then .tup [zero,.bool false] else zero,h)
    else none
   |_=>none
  |_=>none
 | .msw s x k y=>match ρ x with
  | .mp id=>match h.get id with
   |some (.wmap sh es)=>if s=sh/\isKey s (ρ k)=true then
     some (V.undef,h.set id (some (.wmap sh (match fX (ρ k) es with
      |some e=>es.set e.1 (ρ k,ρ y)
      |none=>es++ [(ρ k,ρ y)]))))
    else none
   |_=>none
  |_=>none
 | .ent s zero x k=>match ρ x with
  | .mp id=>match h.get id with
   |some (.wmap sh es)=>if s=sh/\isKey s (ρ k)=true then
     match fX (ρ k) es with
     |some e=>some (.tup [e.2,.int .i64 (e.1:Nat)],h)
     |none=>some (.tup [zero,.int .i64 es.length],h.set id (some (.wmap sh (es++ [(ρ k,zero)]))))
    else none
   |_=>none
  |_=>none
 | .ens x s y=>match ρ x,ρ s with
  | .mp id,.int .i64 n=>match h.get id with
   |some (.wmap sh es)=>if 0<=n then
     match es[n.toNat]? with
     |some e=>some (V.undef,h.set id (some (.wmap sh (es.set n.toNat (e.1,ρ y)))))
     |none=>none
    else none
   |_=>none
  |_,_=>none
 | .six x i=>match ρ x,ρ i with
  | .str l,.int _ z=>if 0<=z then (l[z.toNat]?).map (λ(c:Nat)=>(V.int .u8 ((c%256:Nat):Int),h)) else none
  |_,_=>none
 | .sla n sz x lo hi=>match ρ x with
  | .ptr id off=>(xU sz (.sl id off n (.kn n)) (lo.map ρ) (hi.map ρ) none).map (·,h)
  |_=>none
 | .seq neg x y=>match ρ x,ρ y with
  | .str a,.str b=>some (.bool (if neg then !(a.map (· %256)==b.map (· %256)) else a.map (· %256)==b.map (· %256)),h)
  |_,_=>none
 | .sad x y=>match ρ x,ρ y with
  | .str a,.str b=>if a.length+b.length<2^62 then some (.str (a++b),h) else none
  |_,_=>none
 | .cir x=>match ρ x with
  | .int _ n=>if 0<=n/\n<128 then some (.str [n.toNat],h) else none
  |_=>none
 | .clr sz zero x=>match ρ x with
  | .aE=>some (V.undef,h)
  | .emp _=>some (V.undef,h)
  | .sl id off len _=>if len=0 then some (V.undef,h) else
   if zero.length=sz/\zero.all V.one=true then (h.put id off (dC zero (len*sz))).map (λh'=>(V.undef,h')) else none
  |_=>none
 | .fail=>none
def lI (d:D)(vars loc:List V)(v:V):List V×List V:=
 match d with
 | .v k=>(vars.set k v,loc)
 | .l=>(vars,v::loc)
 | .n=>(vars,loc)
def Ch (vars:List V)(h:H):Rv->Option V
 | .v k=>some (vars.getD k .undef)
 | .cell k agg n=>RV h agg n (vars.getD k .undef)
def Js:List V->V
 | [v]=>v
 |vs=> .tup vs
def cI {α:Type}:List (Option α)->Option (List α)
 | []=>some []
 |none::_=>none
 |some a::r=>(cI r).map (a:: ·)
def fU (vars loc:List V):Option (X×Bool)->Option Bool
 |none=>some true
 |some (x,b)=>match xv vars loc x with| .bool a=>some (a==b)| .tup []=>some false|_=>none
def I.sP:I->Bool
 | .ld .. | .lenm _| .lkp .. | .cvs _| .lkw .. =>true
 |_=>false
def I.mF:I->Bool
 | .mks .. | .alc _| .box _| .bls .. | .mkm| .mkw .. =>true
 |_=>false
def I.sY:I->Bool
 | .st .. | .app .. | .apz .. | .cpy .. | .mset .. | .msw .. | .ent .. | .ens .. | .clr .. =>true
 |_=>false
def dO.sP:dO->Bool
 | .op i=>i.sP
 |_=>false
def dO.mF:dO->Bool
 | .op i=>i.mF
 |_=>false
def dO.sY:dO->Bool
 | .op i=>i.sY
 | .callp .. =>false
 |_=>true
def I.close (ρ:X->V):I->I
 | .ld a n x=> .ld a n (.c (ρ x))
 | .lenm x=> .lenm (.c (ρ x))
 | .lkp z ok x k=> .lkp z ok (.c (ρ x)) (.c (ρ k))
 | .cvs x=> .cvs (.c (ρ x))
 | .lkw s z ok x k=> .lkw s z ok (.c (ρ x)) (.c (ρ k))
 |i=>i
abbrev Log:=List (Nat×I×V)
def rG (cks:List Nat)(log:Log)(h:H):Bool:=
 log.all λe=>!cks.contains e.1||(match cK (xv [] []) h e.2.1 with|some (v,_)=>dB v e.2.2|none=>false)
def Lh (x:AI)(vars:List V)(v:V)(log:Log):Log:=
 match x.it.a with
 | .op i=>if i.sP then (x.i,i.close (xv vars []),v)::log else log
 |_=>log
def Pb (vars:List V)(h:H)(n:Nat):dO->Option (V×H)
 | .op i=>match cK (xv vars []) {h with next:=n} i with
  |some (v,h')=>some (v,{h' with next:=h.next})
  |none=>none
 |_=>none
def Af (fn:Fn)(args:List V):List V:=fn.init.map λo=>match o with|some j=>args.getD j .undef|none=> .undef
def C.Vm:C->Bool
 | .seq a b| .ite _ a b=>a.Vm&&b.Vm
 | .block _ c| .loop c| .scope c=>c.Vm
 | .range .. | .regd .. =>false
 |_=>true
def LI (rd:Option Nat)(h:H):Bool:=
 match rd with
 |none=>true
 |some id=>match h.get id with
  |some (.loop _)=>true
  |_=>false
abbrev OK:=List (Nat×List V)
noncomputable section
def nth (l:List V):Nat->V:=List.rec (λ_=>V.undef) (λv _ ih k=>Nat.rec v (λk _=>ih k) k) l
def QR (l:List V):Nat->V->List V:=List.rec (λ_ _=> []) (λu us ih k v=>Nat.rec (v::us) (λk _=>u::ih k v) k) l
def HP (vars loc:List V)(x:X):V:=X.rec (nth vars) (nth loc) (λv=>v) x
theorem CH: ∀(l:List V) (k:Nat),nth l k=l.getD k .undef
 | [],k=>by simp [nth]
 |v::l,0=>rfl
 |v::l,k+1=>by
  have:=CH l k;show nth l k=_;rw[this];simp [List.getD]
theorem IS: ∀(l:List V) (k:Nat) (v:V),QR l k v=l.set k v
 | [],k,v=>by simp [QR]
 |u::l,0,v=>rfl
 |u::l,k+1,v=>by
  have:=IS l k v;show u::QR l k v=_;rw[this];rfl
theorem Dq (a b:List V):HP a b=xv a b:=by
 funext x
 cases x with
 |v k=>exact CH a k
 |l k=>exact CH b k
 |c v=>rfl
def Kl (v:V)(o:Option (List V)):Option (List V):=Option.rec none (λr=>some (v::r)) o
theorem yU (v:V)(r:List V):Kl v (some r)=some (v::r):=rfl
theorem Dt (v:V):Kl v none=none:=rfl
def JF (n:Nat):List V->Option (List V):=Nat.rec (λl=>some l) (λ_ ih l=>List.rec none (λ_ t _=>ih t) l) n
def IW (n:Nat):List V->Option (List V):=Nat.rec (λ_=>some []) (λ_ ih l=>List.rec none (λv t _=>Kl v (ih t)) l) n
def VE (vs:List V)(off n:Nat):Option (List V):=Option.rec none (λt=>IW n t) (JF off vs)
def Td (ws:List V):List V->Option (List V):=List.rec (λl=>some l) (λw _ ih l=>List.rec none (λ_ t _=>Kl w (ih t)) l) ws
def acI (off:Nat)(ws:List V):List V->Option (List V):=Nat.rec (λl=>Td ws l) (λ_ ih l=>List.rec none (λv t _=>Kl v (ih t)) l) off
theorem AT: ∀(n:Nat) (l:List V),IW n l=if n<=l.length then some (l.take n) else none
 |0,l=>by show some []=_;simp
 |n+1, []=>by simp [IW]
 |n+1,v::t=>by
  have a:=AT n t;show Kl v (IW n t)=_;rw[a]
  by_cases h:n<=t.length<;>simp [h,yU,Dt]
theorem Yr: ∀(n:Nat) (l:List V),JF n l=if n<=l.length then some (l.drop n) else none
 |0,l=>by show some l=_;simp
 |n+1, []=>by simp [JF]
 |n+1,v::t=>by
  have a:=Yr n t;show JF n t=_;rw[a]
  by_cases h:n<=t.length<;>simp [h,yU,Dt]
theorem Vk (vs:List V)(off n:Nat):VE vs off n=sub vs off n:=by
 unfold VE sub;rw[Yr]
 by_cases h:off<=vs.length
 ·simp only[h,if_true,AT,BM]
  by_cases a:off+n<=vs.length
  ·rw[bJ a,bJ om]
  ·rw[bL a,bL om]
 ·simp only[h,if_false]
  rw[bL om]
theorem Zc: ∀(ws l:List V),Td ws l=if ws.length<=l.length then some (ws++l.drop ws.length) else none
 | [],l=>by simp [Td]
 |w::ws, []=>by simp [Td]
 |w::ws,v::t=>by
  have a:=Zc ws t;show Kl w (Td ws t)=_;rw[a]
  by_cases h:ws.length<=t.length<;>simp [h,yU,Dt]
theorem Un: ∀(off:Nat) (ws l:List V),acI off ws l=putAt l off ws
 |0,ws,l=>by
  show Td ws l=_;rw[Zc];simp [putAt]
 |off+1,ws, []=>by
  have: ¬(off+1+ws.length<=0):=om
  simp [acI,putAt,this]
 |off+1,ws,v::t=>by
  have a:=Un off ws t;show Kl v (acI off ws t)=_;rw[a];unfold putAt
  by_cases h:off+ws.length<=t.length
  ·rw[bJ h,bJ (by simp;omega)]
   simp [yU,show off+1+ws.length=(off+ws.length)+1 from om]
  ·rw[bL h,bL (by simp;omega)];rfl
theorem JP (a b:Nat):Nat.beq a b=(a==b):=by rw[Qk,Nat.beq_eq];simp
def Tr.Qq (t:Tr):Nat->Option Ob:=Tr.rec (λ_=>none) (λv _ _ ihl ihr n=>cond (Nat.beq n 0) v (cond (Nat.beq (n%2) 1) (ihl (n/2)) (ihr (n/2- 1)))) t
theorem Tr.sJ: ∀(t:Tr) (n:Nat),t.Qq n=t.get n
 | .lf,n=>rfl
 | .nd v l r,n=>by
  show cond (Nat.beq n 0) v (cond (Nat.beq (n%2) 1) (l.Qq (n/2)) (r.Qq (n/2- 1)))=_;rw[Tr.sJ l,Tr.sJ r,JP,JP];rfl
def Tr.Pv (f:Nat):Tr->Nat->Option Ob->Tr:=
 Nat.rec (λt _ _=>t) (λ_ ih t n o=>Tr.rec
  (cond (Nat.beq n 0) (.nd o .lf .lf) (cond (Nat.beq (n%2) 1) (.nd none (ih .lf (n/2) o) .lf) (.nd none .lf (ih .lf (n/2- 1) o))))
  (λv l r _ _=>cond (Nat.beq n 0) (.nd o l r) (cond (Nat.beq (n%2) 1) (.nd v (ih l (n/2) o) r) (.nd v l (ih r (n/2- 1) o)))) t) f
theorem Tr.qK: ∀(f:Nat) (t:Tr) (n:Nat) (o:Option Ob),t.Qs f n o=Tr.Pv f t n o
 |0,t,n,o=>by cases t<;>rfl
 |f+1,.lf,n,o=>by
  show _=cond (Nat.beq n 0) (Tr.nd o .lf .lf) (cond (Nat.beq (n%2) 1) (.nd none (Tr.Pv f .lf (n/2) o) .lf) (.nd none .lf (Tr.Pv f .lf (n/2- 1) o)));rw[←Tr.qK f,←Tr.qK f,JP,JP];rfl
 |f+1,.nd v l r,n,o=>by
  show _=cond (Nat.beq n 0) (Tr.nd o l r) (cond (Nat.beq (n%2) 1) (.nd v (Tr.Pv f l (n/2) o) r) (.nd v l (Tr.Pv f r (n/2- 1) o)));rw[←Tr.qK f,←Tr.qK f,JP,JP];rfl
def H.Qq (h:H)(i:Nat):Option Ob:=h.tr.Qq i
theorem H.sJ (h:H)(i:Nat):h.Qq i=h.get i:=Tr.sJ _ _
def H.Pv (h:H)(id:Nat)(o:Option Ob):H:=H.rec (λt n=>⟨Tr.Pv (id+1) t id o,n⟩) h
theorem H.qK (h:H)(id:Nat)(o:Option Ob):h.Pv id o=h.set id o:=by
 cases h;show H.mk _ _=_;rw[←Tr.qK];rfl
theorem wrap_i64 {n:Int}(a: -9223372036854775808<=n)(h2:n<9223372036854775808):IntKind.i64.wrap n=n:=by
 unfold IntKind.wrap;simp only[IntKind.bits,IntKind.signed]
 by_cases h:0<=n
 ·have:n%2^64=n:=Int.emod_eq_of_lt h om
  simp only[this];rw[bL];simp;omega
 ·have:n%2^64=n+2^64:=by
   rw[←Int.add_emod_right];exact Int.emod_eq_of_lt om om
  simp only[this];rw[bJ]
  ·omega
  ·simp;omega
def UW (n:Int):Bool:=Int.rec (λa=>Nat.blt a 9223372036854775808) (λa=>Nat.blt a 9223372036854775808) n
theorem Nr {n:Int}(h:UW n=true): -9223372036854775808<=n/\n<9223372036854775808:=by
 cases n with
 |ofNat a=>
  have c:=(Nat.blt_eq (x:=a) (y:=9223372036854775808)).mp h;have b:Int.ofNat a=(a:Int):=rfl;rw[b];omega
 |negSucc a=>
  have c:=(Nat.blt_eq (x:=a) (y:=9223372036854775808)).mp h;have b:=Int.negSucc_eq a;rw[b];omega
def Yj (k:IntKind)(n:Int):Int:=
 match k with
 | .i64=>cond (UW n) n (IntKind.i64.wrap n)
 |k=>k.wrap n
theorem RA (k:IntKind)(n:Int):Yj k n=k.wrap n:=by
 cases k<;>try rfl
 simp only[Yj]
 cases h:UW n with
 |false=>rfl
 |true=>rw[wrap_i64 (Nr h).1 (Nr h).2];rfl
def TW (a b:Int):Bool:=Int.rec (λa=>Int.rec (λb=>Nat.blt a b) (λ_=>false) b) (λa=>Int.rec (λ_=>true) (λb=>Nat.blt b a) b) a
theorem ZT (a b:Int):TW a b=decide (a<b):=by
 cases a with
 |ofNat a=>cases b with
  |ofNat b=>show Nat.blt a b=_;rw[Qk,Nat.blt_eq];simp
  |negSucc b=>show false=_;simp;omega
 |negSucc a=>cases b with
  |ofNat b=>show true=_;simp;omega
  |negSucc b=>show Nat.blt b a=_;rw[Qk,Nat.blt_eq];simp;omega
def agK (a b:Int):Bool:=Int.rec (λa=>Int.rec (λb=>Nat.beq a b) (λ_=>false) b) (λa=>Int.rec (λ_=>false) (λb=>Nat.beq a b) b) a
theorem ZJ (a b:Int):agK a b=(a==b):=by
 cases a with
 |ofNat a=>cases b with
  |ofNat b=>show Nat.beq a b=_;rw[Qk,Nat.beq_eq];simp;omega
  |negSucc b=>show false=_;symm;simp
 |negSucc a=>cases b with
  |ofNat b=>show false=_;symm;simp
  |negSucc b=>show Nat.beq a b=_;rw[Qk,Nat.beq_eq];simp
def FY (op:BinOp)(k:IntKind)(a b:Int):Option V:=
 match op with
 | .add=>some (.int k (Yj k (a+b)))
 | .sub=>some (.int k (Yj k (a-b)))
 | .mul=>some (.int k (Yj k (a*b)))
 | .eql=>some (.bool (agK a b))
 | .neq=>some (.bool (!agK a b))
 | .lss=>some (.bool (TW a b))
 | .leq=>some (.bool (!TW b a))
 | .gtr=>some (.bool (TW b a))
 | .geq=>some (.bool (!TW a b))
 |op=>arith op k a b
theorem KI (op:BinOp)(k:IntKind)(a b:Int):FY op k a b=arith op k a b:=by
 cases op<;>simp only[FY,arith,RA,ZJ,ZT]
 ·simp [bne]
 ·congr 2;rw[Qk];simp
 ·congr 2;rw[Qk];simp
end
end Go.Ay
