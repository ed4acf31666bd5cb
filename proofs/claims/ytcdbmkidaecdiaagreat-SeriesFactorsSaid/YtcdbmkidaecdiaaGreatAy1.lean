/- The abstract machine: values, heaps, the intermediate code, its evaluator, and the compiler from the model's code. -/
import GoSem.Dispatch
import GoSem.Core.Code
namespace Go.Ay
theorem dD.{u}{α:Type u}{l:List α}{i:Nat}(h:i<l.length):l[i]?=some l[i]:=List.getElem?_eq_getElem h
theorem mJ.{u,v}{α:Type u}{β:Type v}{b:β}{x:Option α}{f:α->β}:Option.map f x=some b↔∃a,x=some a/\f a=b:=Option.map_eq_some_iff
theorem qM.{u}{α β:Type u}{o:Option α}{f:α->Option β}{b:β}:o.bind f=some b↔∃a,o=some a/\f a=some b:=Option.bind_eq_some_iff
theorem iW {n m k:Nat}(h:n<m)(h2:m<=k):n<k:=Nat.lt_of_lt_of_le h h2
theorem fM (n:Nat):n<=n:=Nat.le_refl n
theorem iJ (n:Nat):0<=n:=Nat.zero_le n
theorem jV.{u,v}{α:Type u}{β:Type v}{a:List α}(f:α->β):(a.map f).length=a.length:=List.length_map f
theorem jZ.{u}{α:Type u}{a b:List α}:(a++b).length=a.length+b.length:=List.length_append
theorem uF.{u,v}{α:Type u}{β:Type v}{b:β}{f:α->β}{l:List α}:b∈l.map f↔∃a,a∈l/\f a=b:=List.mem_map
theorem pH.{u}{α:Type u}{a:α}{s t:List α}:a∈s++t↔a∈s∨a∈t:=List.mem_append
theorem Gu {m n:Nat}:m∈List.range n↔m<n:=List.mem_range
theorem CH.{u}{α:Type u}{p:α->Bool}{a:List α}{x:α}:x∈a.filter p↔x∈a/\p x=true:=List.mem_filter
theorem Dv.{u}{α:Type u}{l m:List α}{i:Nat}(h:i<l.length):(l++m)[i]?=l[i]?:=List.getElem?_append_left h
theorem Fj.{u}{α:Type u}{i:Nat}{l:List α}:(l.take i).length=min i l.length:=List.length_take
theorem zF.{u}{α:Type u}{a:α}{l:List α}:a∈l↔∃(i:Nat) (h:i<l.length),l[i]=a:=List.mem_iff_getElem
theorem Jg {p:Prop}(h:¬p->False):p:=Classical.byContradiction h
theorem om {p:Prop}(h:p:=by omega):p:=h
theorem bF:type_of% @if_pos:=@if_pos
theorem bI:type_of% @if_neg:=@if_neg
theorem Ll:type_of% @List.append_assoc:=@List.append_assoc
theorem uV:type_of% @Option.bind_eq_bind:=@Option.bind_eq_bind
theorem mT:type_of% @Nat.le_trans:=@Nat.le_trans
theorem Ax:type_of% @List.getElem?_eq_some_iff:=@List.getElem?_eq_some_iff
theorem Cu:type_of% @List.mem_cons_of_mem:=@List.mem_cons_of_mem
theorem vN:type_of% @Bool.and_eq_true:=@Bool.and_eq_true
theorem uW:type_of% @Nat.mul_one:=@Nat.mul_one
theorem vF:type_of% @List.append_nil:=@List.append_nil
theorem Tn:type_of% @List.take_of_length_le:=@List.take_of_length_le
theorem Sj:type_of% @List.getElem?_append_right:=@List.getElem?_append_right
theorem WN:type_of% @List.getD_eq_getElem?_getD:=@List.getD_eq_getElem?_getD
theorem Vy:type_of% @List.map_congr_left:=@List.map_congr_left
theorem NM:type_of% @List.length_range:=@List.length_range
theorem zG:type_of% @List.getElem_mem:=@List.getElem_mem
theorem Ab:type_of% @List.mem_cons_self:=@List.mem_cons_self
theorem zH:type_of% @List.mem_cons:=@List.mem_cons
theorem JX:type_of% @List.pairwise_iff_getElem:=@List.pairwise_iff_getElem
theorem Py:type_of% @Bool.eq_iff_iff:=@Bool.eq_iff_iff
theorem Kv:type_of% @List.all_eq_true:=@List.all_eq_true
theorem Qf:type_of% @decide_eq_true_iff:=@decide_eq_true_iff
theorem NK:type_of% @Int.toNat_natCast:=@Int.toNat_natCast
theorem AS:type_of% @Array.getElem?_eq_some_iff:=@Array.getElem?_eq_some_iff
theorem AQ:type_of% @List.length_drop:=@List.length_drop
theorem nPN:type_of% @List.nodup_iff_pairwise_ne:=@List.nodup_iff_pairwise_ne
theorem AW:type_of% @List.mem_of_getElem?:=@List.mem_of_getElem?
theorem iLL:type_of% @List.idxOf_lt_length_iff:=@List.idxOf_lt_length_iff
theorem HJ:type_of% @List.length_pos_of_mem:=@List.length_pos_of_mem
theorem Ol:type_of% @List.getElem?_map:=@List.getElem?_map
theorem AR:type_of% @List.drop_eq_getElem_cons:=@List.drop_eq_getElem_cons
theorem ND:type_of% @Array.getD_eq_getD_getElem?:=@Array.getD_eq_getD_getElem?
theorem WJ:type_of% @List.eq_nil_of_length_eq_zero:=@List.eq_nil_of_length_eq_zero
inductive Kh where
 |kn (c:Nat)
 |un (esz:Nat)
 deriving DecidableEq,Repr,Inhabited
inductive V where
 |int (k:IntKind) (n:Int)
 |bool (b:Bool)
 |ptr (id off:Nat)
 |nilp
 |sl (id off len:Nat) (cap:Kh)
 |aE
 |emp (a:Addr)
 |str (l:List Nat)
 |ifc (t:Nat) (x:V)
 |mp (id:Nat)
 |nilm
 |fn (f:Nat) (first cs:List V)
 |yl (id:Nat)
 |nilf
 |agg (vs:List V)
 |tup (vs:List V)
 |unk
 deriving Repr,Inhabited
def V.undef:V:= .tup []
def V.cells:V->List V
 | .agg vs=>vs
 |v=> [v]
def V.one:V->Bool
 | .agg _| .tup _| .unk=>false
 |_=>true
inductive X where
 |v (k:Nat)
 |l (k:Nat)
 |c (x:V)
 deriving Repr,Inhabited
inductive D where
 |v (k:Nat)
 |l
 |n
 deriving Repr,Inhabited,DecidableEq
inductive Cy where
 |str
 |arr (n:Nat) (k:IntKind)
 deriving Repr,Inhabited,DecidableEq
inductive I where
 |mov (x:X)
 |pick (c a b:X)
 |bin (op:BinOp) (k:IntKind) (x y:X)
 |shf (op:BinOp) (k:IntKind) (x y:X)
 |beq (neg:Bool) (x y:X)
 |snil (neg:Bool) (x:X)
 |not (x:X)
 |neg (k:IntKind) (x:X)
 |conv (k:IntKind) (x:X)
 |part (agg:Bool) (off n:Nat) (x:X)
 |ext (x:X) (i:Nat)
 |lens (x:X)
 |lenm (x:X)
 |caps (x:X)
 |mm (max:Bool) (xs:List X)
 |ld (agg:Bool) (n:Nat) (x:X)
 |st (n:Nat) (x y:X)
 |ixa (sz:Nat) (x i:X)
 |fla (off:Nat) (x:X)
 |slc (sz:Nat) (x:X) (lo hi mx:Option X)
 |mks (sz bytes:Nat) (zero:List V) (l c:X)
 |alc (zero:List V)
 |box (x:X)
 |bld (zero:List V) (parts:List (Nat×Nat×X))
 |bls (sz:Nat) (zero:List V) (n:Nat) (parts:List (Nat×Nat×X))
 |app (sz bytes:Nat) (x y:X)
 |apz (sz bytes:Nat) (zero:List V) (x n:X)
 |cpy (sz:Nat) (x y:X)
 |mkf (f:Nat) (first cs:List X)
 |mkm
 |lkp (zero:V) (ok:Bool) (x k:X)
 |mset (x k y:X)
 |nck (x:X)
 |ixd (n sz:Nat) (x i:X)
 |cvs (x:X)
 |mif (t:Nat) (x:X)
 |mkw (sh:Cy) (r:Option X)
 |lkw (sh:Cy) (zero:V) (ok:Bool) (x k:X)
 |msw (sh:Cy) (x k y:X)
 |ent (sh:Cy) (zero:V) (x k:X)
 |ens (x s y:X)
 |six (x i:X)
 |seq (neg:Bool) (x y:X)
 |sad (x y:X)
 |cir (x:X)
 |clr (sz:Nat) (zero:List V) (x:X)
 |sla (n sz:Nat) (x:X) (lo hi:Option X)
 |fail
 deriving Repr,Inhabited
def V.Iu:V->Bool
 | .int .. | .bool _=>true
 |_=>false
inductive dR where
 |op (i:I)
 |call (f:Nat) (args:List X)
 |callv (x:X) (args:List X)
 |callp (f:Nat) (args:List X)
 |calli (f t:Nat) (x:X) (args:List X)
 deriving Repr,Inhabited
structure It where
 d:D
 g:Option (X×Bool)
 a:dR
 deriving Repr,Inhabited
structure AI where
 i:Nat
 it:It
 al:Bool
 cks:List Nat
 deriving Repr,Inhabited
inductive C where
 |skip
 |reg (its:List It)
 |any (k nl:Nat) (its:List AI)
 |regd (its:List It) (x:X) (args:List X)
 |seq (a b:C)
 |ite (x:X) (a b:C)
 |block (id:Nat) (c:C)
 |loop (c:C)
 |exit (id:Nat)
 |ret
 |scope (c:C)
 |range (f:X) (pars:List Nat) (assign body:C)
 |fail
 deriving Repr,Inhabited
inductive E where
 |norm
 |ret
 |exit (id:Nat)
 deriving Repr,Inhabited,DecidableEq
inductive LSt where
 |ready
 |busy
 |done
 |out
 deriving Repr,Inhabited,DecidableEq
structure eH where
 vars:List V
 pars:List Nat
 assign:C
 body:C
 st:LSt
 pend:Option E
inductive Ob where
 |cells (ro:Bool) (vs:List V)
 |map (es:List (V×V))
 |wmap (sh:Cy) (es:List (V×V))
 |loop (r:eH)
inductive Tr where
 |lf
 |nd (v:Option Ob) (l r:Tr)
def Tr.get:Tr->Nat->Option Ob
 | .lf,_=>none
 | .nd v l r,n=>cond (n==0) v (cond (n%2==1) (l.get (n/2)) (r.get (n/2- 1)))
def Tr.Qe:Nat->Tr->Nat->Option Ob->Tr
 |0,t,_,_=>t
 |f+1,.lf,n,o=>cond (n==0) (.nd o .lf .lf) (cond (n%2==1) (.nd none (Qe f .lf (n/2) o) .lf) (.nd none .lf (Qe f .lf (n/2- 1) o)))
 |f+1,.nd v l r,n,o=>cond (n==0) (.nd o l r) (cond (n%2==1) (.nd v (Qe f l (n/2) o) r) (.nd v l (Qe f r (n/2- 1) o)))
theorem Tr.vX: ∀(f:Nat) (t:Tr) (n k:Nat) (o:Option Ob),n<f->(t.Qe f n o).get k=if k=n then o else t.get k
 |0,_,_,_,_,h=>om
 |f+1,.lf,n,k,o,h=>by
  simp only[Tr.Qe]
  by_cases i:n=0
  ·subst i
   simp only[beq_self_eq_true,cond_true,Tr.get]
   by_cases a:k=0
   ·simp [a]
   ·have d:(k==0)=false:=by simp [a]
    simp [d,a,Tr.get]
  ·have p:(n==0)=false:=by simp [i]
   simp only[p,cond_false]
   by_cases m:n%2=1
   ·have d:(n%2==1)=true:=by simp [m]
    simp only[d,cond_true,Tr.get]
    by_cases a:k=0
    ·subst a;simp [show (0:Nat)≠n from λe=>i e.symm]
    ·have j:(k==0)=false:=by simp [a]
     simp only[j,cond_false]
     by_cases c:k%2=1
     ·have b:(k%2==1)=true:=by simp [c]
      simp only[b,cond_true];rw[Tr.vX f .lf (n/2) (k/2) o om];have:k/2=n/2↔k=n:=om
      simp [this,Tr.get]
     ·have b:(k%2==1)=false:=by simp;omega
      have:k≠n:=λe=>c (e▸m)
      simp [b,this,Tr.get]
   ·have d:(n%2==1)=false:=by simp;omega
    simp only[d,cond_false,Tr.get]
    by_cases a:k=0
    ·subst a;simp [show (0:Nat)≠n from λe=>i e.symm]
    ·have j:(k==0)=false:=by simp [a]
     simp only[j,cond_false]
     by_cases c:k%2=1
     ·have b:(k%2==1)=true:=by simp [c]
      have:k≠n:=λe=>m (e▸c)
      simp [b,this,Tr.get]
     ·have b:(k%2==1)=false:=by simp;omega
      simp only[b,cond_false];rw[Tr.vX f .lf (n/2- 1) (k/2- 1) o om];have:k/2- 1=n/2- 1↔k=n:=om
      simp [this,Tr.get]
 |f+1,.nd v l r,n,k,o,h=>by
  simp only[Tr.Qe]
  by_cases i:n=0
  ·subst i
   simp only[beq_self_eq_true,cond_true,Tr.get]
   by_cases a:k=0
   ·simp [a]
   ·have d:(k==0)=false:=by simp [a]
    simp [d,a]
  ·have p:(n==0)=false:=by simp [i]
   simp only[p,cond_false]
   by_cases m:n%2=1
   ·have d:(n%2==1)=true:=by simp [m]
    simp only[d,cond_true,Tr.get]
    by_cases a:k=0
    ·subst a;simp [show (0:Nat)≠n from λe=>i e.symm]
    ·have j:(k==0)=false:=by simp [a]
     simp only[j,cond_false]
     by_cases c:k%2=1
     ·have b:(k%2==1)=true:=by simp [c]
      simp only[b,cond_true];rw[Tr.vX f l (n/2) (k/2) o om];have:k/2=n/2↔k=n:=om
      simp [this]
     ·have b:(k%2==1)=false:=by simp;omega
      have:k≠n:=λe=>c (e▸m)
      simp [b,this]
   ·have d:(n%2==1)=false:=by simp;omega
    simp only[d,cond_false,Tr.get]
    by_cases a:k=0
    ·subst a;simp [show (0:Nat)≠n from λe=>i e.symm]
    ·have j:(k==0)=false:=by simp [a]
     simp only[j,cond_false]
     by_cases c:k%2=1
     ·have b:(k%2==1)=true:=by simp [c]
      have:k≠n:=λe=>m (e▸c)
      simp [b,this]
     ·have b:(k%2==1)=false:=by simp;omega
      simp only[b,cond_false];rw[Tr.vX f r (n/2- 1) (k/2- 1) o om];have:k/2- 1=n/2- 1↔k=n:=om
      simp [this]
structure H where
 tr:Tr
 next:Nat
def H.get (h:H)(i:Nat):Option Ob:=h.tr.get i
def H.set (h:H)(id:Nat)(o:Option Ob):H:={h with tr:=h.tr.Qe (id+1) id o}
def H.new (h:H)(o:Ob):H:={tr:=h.tr.Qe (h.next+1) h.next (some o),next:=h.next+1}
theorem H.jB (h:H)(id:Nat)(o:Option Ob)(k:Nat):(h.set id o).get k=if k=id then o else h.get k:=Tr.vX _ _ _ _ _ (Nat.lt_succ_self _)
theorem H.kF (h:H)(o:Ob)(k:Nat):(h.new o).get k=if k=h.next then some o else h.get k:=Tr.vX _ _ _ _ _ (Nat.lt_succ_self _)
theorem H.bY (h:H)(id:Nat)(o:Option Ob):(h.set id o).next=h.next:=rfl
theorem H.aU (h:H)(o:Ob):(h.new o).next=h.next+1:=rfl
inductive Rv where
 |v (k:Nat)
 |cell (k:Nat) (agg:Bool) (n:Nat)
 deriving Repr,Inhabited
structure Fn where
 nargs:Nat
 init:List (Option Nat)
 results:List Rv
 body:C
 deriving Repr,Inhabited
def xv (vars loc:List V):X->V
 | .v k=>vars.getD k .undef
 | .l k=>loc.getD k .undef
 | .c x=>x
def vI (vars:List V)(k:Nat)(v:V):List V:=vars.set k v
def arith (op:BinOp)(k:IntKind)(a b:Int):Option V:=
 match op with
 | .add=>some (.int k (k.wrap (a+b)))
 | .sub=>some (.int k (k.wrap (a-b)))
 | .mul=>some (.int k (k.wrap (a*b)))
 | .quo=>if b=0 then none else some (.int k (k.wrap (a.tdiv b)))
 | .rem=>if b=0 then none else some (.int k (a.tmod b))
 | .eql=>some (.bool (a==b))
 | .neq=>some (.bool (a !=b))
 | .lss=>some (.bool (a<b))
 | .leq=>some (.bool (a<=b))
 | .gtr=>some (.bool (a>b))
 | .geq=>some (.bool (a≥b))
 | .and=>some (.int k (k.wrap (BitVec.ofInt k.bits a&&&BitVec.ofInt k.bits b).toNat))
 | .or=>some (.int k (k.wrap (BitVec.ofInt k.bits a|||BitVec.ofInt k.bits b).toNat))
 | .xor=>some (.int k (k.wrap (BitVec.ofInt k.bits a^^^BitVec.ofInt k.bits b).toNat))
 |_=>none
def GS (op:BinOp)(k:IntKind)(a b:Int):Option V:=
 if b<0 then none else
 match op with
 | .shl=>some (.int k (k.wrap (a*2^(min b.toNat k.bits))))
 | .shr=>some (.int k (a.fdiv (2^(min b.toNat k.bits))))
 |_=>none
def sub (vs:List V)(off n:Nat):Option (List V):=
 if off+n<=vs.length then some ((vs.drop off).take n) else none
def putAt (vs:List V)(off:Nat)(ws:List V):Option (List V):=
 if off+ws.length<=vs.length then some (vs.take off++ws++vs.drop (off+ws.length)) else none
def H.row (h:H)(id off n:Nat):Option (List V):=
 match h.get id with
 |some (.cells _ vs)=>sub vs off n
 |_=>none
def H.put (h:H)(id off:Nat)(ws:List V):Option H:=
 match h.get id with
 |some (.cells false vs)=>(putAt vs off ws).map λvs'=>h.set id (some (.cells false vs'))
 |_=>none
def H.slice (h:H)(sz:Nat):V->Option (List V)
 | .aE=>some []
 | .emp _=>some []
 | .sl id off len _=>h.row id off (len*sz)
 |_=>none
def sW:V->Option Nat
 | .aE=>some 0
 | .emp _=>some 0
 | .sl _ _ len _=>some len
 |_=>none
def QW (h:H)(agg:Bool)(n:Nat):V->Option V
 | .ptr id off=>
  match h.row id off n with
  |some vs=>if agg then some (.agg vs) else match vs with| [v]=>some v|_=>none
  |none=>none
 |_=>none
def Dz (sz:Nat)(x i:V):Option V:=
 match x,i with
 | .sl id off len _,.int _ n=>if 0<=n/\n<len then some (.ptr id (off+n.toNat*sz)) else none
 |_,_=>none
def oG (x:Option V)(dflt top:Nat):Option Nat:=
 match x with
 |none=>some dflt
 |some (.int _ n)=>if 0<=n/\n<=top then some n.toNat else none
 |_=>none
def xT (sz:Nat)(x:V)(lo hi mx:Option V):Option V:=
 match x with
 | .aE=>
  match mx,oG hi 0 0 with
  |none,some h=>match oG lo 0 h with|some _=>some .aE|none=>none
  |_,_=>none
 | .sl id off len cap=>
  match mx with
  |some _=>none
  |none=>
   match oG hi len (match cap with| .kn c=>c| .un _=>len) with
   |none=>none
   |some h=>
    match oG lo 0 h with
    |none=>none
    |some l=>
     match cap with
     | .kn c=>if l<=c then some (.sl id (if c=l then off else off+l*sz) (h-l) (.kn (c-l))) else none
     | .un e=>if e=sz then (if l<len then some (.sl id (off+l*sz) (h-l) (.un e)) else some (.sl id off 0 (.un e))) else none
 |_=>none
def iS (cells:List V):List (Nat×Nat×V)->Option (List V)
 | []=>some cells
 |(off,n,v)::rest=>
  if v.cells.length=n/\v.cells.all V.one then
   match putAt cells off v.cells with
   |some cs=>iS cs rest
   |none=>none
  else none
def cX (zero:List V)(n:Nat):List V:=(List.range n).map λi=>zero.getD (i%zero.length) .undef
def zQ (k:IntKind)(n:Int):List (V×V)->Option V
 | []=>none
 |(.int k' m,v)::es=>if k'=k then if n=m then some v else zQ k n es else none
 |_=>none
def tQ (k:IntKind):List (V×V)->Bool
 | []=>true
 |(.int k' _,_)::es=>k'==k&&tQ k es
 |_=>false
def Ih (k:IntKind)(n:Int)(y:V):List (V×V)->List (V×V)
 | []=> [(.int k n,y)]
 |(.int k' m,v)::es=>if n=m then (.int k' m,y)::es else (.int k' m,v)::Ih k n y es
 |e::es=>e::Ih k n y es
def NJ (max:Bool):V->List V->Option V
 |x, []=>some x
 | .int k x,.int k' y::r=>if k=k' then NJ max (.int k (if max then (if y>x then y else x) else (if y<x then y else x))) r else none
 |_,_=>none
def yB (h:H)(sz bytes:Nat)(x:V)(m:Nat)(ys:List V):Option (V×H):=
 match sW x,h.slice sz x with
 |some n,some xs=>
  if m=0 then some (x,h) else
  if (2*(n+m)+1000)*bytes<=2^48/\n+m<2^62 then
   match x with
   | .sl id off len (.kn c)=>
    if len+m<=c then
     match h.put id (off+len*sz) ys with
     |some h'=>some (.sl id off (len+m) (.kn c),h')
     |none=>none
    else some (.sl h.next 0 (n+m) (.un sz),h.new (.cells false (xs++ys)))
   | .sl id _ _ (.un e)=>
    match h.get id with
    |some (.cells false _)=>if e=sz then some (.sl h.next 0 (n+m) (.un sz),(h.set id none).new (.cells false (xs++ys))) else none
    |_=>none
   | .emp _=>none
   |_=>some (.sl h.next 0 (n+m) (.un sz),h.new (.cells false (xs++ys)))
  else none
 |_,_=>none
def ZO (h:H)(sz:Nat)(x y:V):Option (V×H):=
 match sW x,sW y with
 |some n,some m=>
  let k:=min m n
  match x,y with
  | .sl id off _ _,.sl id' off' _ _=>
   match h.row id' off' (k*sz) with
   |some ys=>match h.put id off ys with
    |some h'=>some (.int .i64 k,h')
    |none=>none
   |none=>none
  |_,_=>if k=0 then some (.int .i64 0,h) else none
 |_,_=>none
def Jo (h:H)(sz bytes:Nat)(zero:List V)(l c:V):Option (V×H):=
 match l,c with
 | .int _ l,.int _ c=>
  if 0<=l/\l<=c/\c*bytes<=2^48/\c<2^62 then
   some (.sl h.next 0 l.toNat (.kn c.toNat),h.new (.cells false (cX zero (c.toNat*sz))))
  else none
 |_,_=>none
mutual
def dE:V->V->Bool
 | .int k a,.int j b=>k==j&&a==b
 | .bool a,.bool b=>a==b
 | .ptr i o,.ptr j p=>i==j&&o==p
 | .nilp,.nilp=>true
 | .sl i o l c,.sl j p n d=>i==j&&o==p&&l==n&&decide (c=d)
 | .aE,.aE=>true
 | .emp a,.emp b=>decide (a=b)
 | .str a,.str b=>a==b
 | .ifc a x,.ifc b y=>a==b&&dE x y
 | .mp i,.mp j=>i==j
 | .nilm,.nilm=>true
 | .fn f a b,.fn g c d=>f==g&&aoW a c&&aoW b d
 | .yl i,.yl j=>i==j
 | .nilf,.nilf=>true
 | .agg a,.agg b=>aoW a b
 | .tup a,.tup b=>aoW a b
 |_,_=>false
def aoW:List V->List V->Bool
 | [], []=>true
 |a::as,b::bs=>dE a b&&aoW as bs
 |_,_=>false
end
def PF:V->Bool
 | .int .. =>true
 |_=>false
def Mb:Option V->Bool
 |none=>true
 |some v=>PF v
def KZ (n sz:Nat)(x i:V):Option V:=
 match x,i with
 | .ptr id off,.int _ z=>if 0<=z/\z<(n:Int) then some (.ptr id (off+z.toNat*sz)) else none
 |_,_=>none
def qH:List V->Option (List Nat)
 | []=>some []
 | .int .u8 n::r=>if 0<=n/\n<256 then (qH r).map (n.toNat:: ·) else none
 |_=>none
def JA (h:H)(x:V):Option V:=
 match x with
 | .aE=>some (.str [])
 | .sl id off len _=>match h.row id off len with
  |some ys=>(qH ys).map V.str
  |none=>none
 |_=>none
def isKey:Cy->V->Bool
 | .str,.str l=>decide (l.length<2^62)&&l.all (λn=>decide (n<256))
 | .arr n k,.agg vs=>decide (vs.length=n)&&vs.all (fun| .int j a=>decide (j=k)&&(decide (k.min<=a)&&decide (a<=k.max))|_=>false)
 |_,_=>false
def gY (k:V):List (V×V)->Option (Nat×V)
 | []=>none
 |e::es=>if dE k e.1 then some (0,e.2) else (gY k es).map λq=>(q.1+1,q.2)
def cI (ρ:X->V)(h:H):I->Option (V×H)
 | .mov x=>some (ρ x,h)
 | .pick c a b=>match ρ c with| .bool t=>some (if t then ρ a else ρ b,h)|_=>none
 | .bin op k x y=>match ρ x,ρ y with
  | .int j a,.int j' b=>if j=k/\j'=k then (arith op k a b).map (·,h) else none
  |_,_=>none
 | .shf op k x y=>match ρ x,ρ y with
  | .int j a,.int _ b=>if j=k then (GS op k a b).map (·,h) else none
  |_,_=>none
 | .beq neg x y=>match ρ x,ρ y with
  | .bool a,.bool b=>some (.bool (if neg then !(a==b) else a==b),h)
  |_,_=>none
 | .snil neg x=>match ρ x with
  | .aE=>some (.bool (!neg),h)
  | .sl .. | .emp _=>some (.bool neg,h)
  |_=>none
 | .not x=>match ρ x with| .bool a=>some (.bool (!a),h)|_=>none
 | .neg k x=>match ρ x with| .int j a=>if j=k then some (.int k (k.wrap (0-a)),h) else none|_=>none
 | .conv k x=>match ρ x with| .int _ a=>some (.int k (k.wrap a),h)|_=>none
 | .part agg off n x=>match ρ x with
  | .agg vs=>if agg then (sub vs off n).map (λws=>(.agg ws,h)) else (vs[off]?).map (·,h)
  |_=>none
 | .ext x i=>match ρ x with| .tup vs=>(vs[i]?).map (·,h)|_=>none
 | .lens x=>(sW (ρ x)).map λ(n:Nat)=>(V.int .i64 (n:Int),h)
 | .caps x=>match ρ x with
  | .aE=>some (.int .i64 0,h)
  | .sl _ _ _ (.kn c)=>if c<2^62 then some (.int .i64 c,h) else none
  |_=>none
 | .lenm x=>match ρ x with
  | .nilm=>some (.int .i64 0,h)
  | .mp id=>match h.get id with|some (.map es)=>some (.int .i64 es.length,h)|some (.wmap _ es)=>some (.int .i64 es.length,h)|_=>none
  |_=>none
 | .mm max xs=>match xs.map ρ with| []=>none|x::r=>(NJ max x r).map (·,h)
 | .ld agg n x=>(QW h agg n (ρ x)).map (·,h)
 | .st n x y=>match ρ x with
  | .ptr id off=>if (ρ y).cells.length=n/\(ρ y).cells.all V.one then (h.put id off (ρ y).cells).map (λh'=>(V.undef,h')) else none
  |_=>none
 | .ixa sz x i=>(Dz sz (ρ x) (ρ i)).map (·,h)
 | .fla off x=>match ρ x with| .ptr id o=>some (.ptr id (o+off),h)|_=>none
 | .slc sz x lo hi mx=>(xT sz (ρ x) (lo.map ρ) (hi.map ρ) (mx.map ρ)).map (·,h)
 | .mks sz bytes zero l c=>Jo h sz bytes zero (ρ l) (ρ c)
 | .alc zero=>some (.ptr h.next 0,h.new (.cells false zero))
 | .box x=>if (ρ x).cells.all V.one then some (.ptr h.next 0,h.new (.cells false (ρ x).cells)) else none
 | .bld zero parts=>(iS zero (parts.map λp=>(p.1,p.2.1,ρ p.2.2))).map λcs=>(.agg cs,h)
 | .bls sz zero n parts=>match iS (cX zero (n*sz)) (parts.map λp=>(p.1,p.2.1,ρ p.2.2)) with
  |some cs=>if cs.all V.one then some (.sl h.next 0 n (.kn n),h.new (.cells false cs)) else none
  |none=>none
 | .app sz bytes x y=>match sW (ρ y),h.slice sz (ρ y) with
  |some m,some ys=>yB h sz bytes (ρ x) m ys
  |_,_=>none
 | .apz sz bytes zero x n=>match ρ n with
  | .int .i64 n=>if 0<=n/\n*bytes<=2^48/\n<2^62/\zero.length=sz then yB h sz bytes (ρ x) n.toNat (cX zero (n.toNat*sz)) else none
  |_=>none
 | .cpy sz x y=>ZO h sz (ρ x) (ρ y)
 | .mkf f fs cs=>some (.fn f (fs.map ρ) (cs.map ρ),h)
 | .mkm=>some (.mp h.next,h.new (.map []))
 | .lkp zero ok x k=>match ρ x,ρ k with
  | .mp id,.int kk n=>match h.get id with
   |some (.map es)=>if tQ kk es then
     match zQ kk n es with
     |some v=>some (if ok then .tup [v,.bool true] else v,h)
     |none=>some (if ok then .tup [zero,.bool false] else zero,h)
    else none
   |_=>none
  |_,_=>none
 | .mset x k y=>match ρ x,ρ k with
  | .mp id,.int kk n=>match h.get id with
   |some (.map es)=>if tQ kk es then some (V.undef,h.set id (some (.map (Ih kk n (ρ y) es)))) else none
   |_=>none
  |_,_=>none
 | .nck x=>match ρ x with| .ptr id off=>some (.ptr id off,h)|_=>none
 | .ixd n sz x i=>(KZ n sz (ρ x) (ρ i)).map (·,h)
 | .cvs x=>(JA h (ρ x)).map (·,h)
 | .mif t x=>some (.ifc t (ρ x),h)
 | .mkw sh r=>if Mb (r.map ρ)=true then some (.mp h.next,h.new (.wmap sh [])) else none
 | .lkw s zero ok x k=>match ρ x with
  | .mp id=>match h.get id with
   |some (.wmap sh es)=>if s=sh/\isKey s (ρ k)=true then
     match gY (ρ k) es with
     |some e=>some (if ok then .tup [e.2,.bool true] else e.2,h)
     |none=>some (if ok then .tup [zero,.bool false] else zero,h)
    else none
   |_=>none
  |_=>none
 | .msw s x k y=>match ρ x with
  | .mp id=>match h.get id with
   |some (.wmap sh es)=>if s=sh/\isKey s (ρ k)=true then
     some (V.undef,h.set id (some (.wmap sh (match gY (ρ k) es with
      |some e=>es.set e.1 (ρ k,ρ y)
      |none=>es++ [(ρ k,ρ y)]))))
    else none
   |_=>none
  |_=>none
 | .ent s zero x k=>match ρ x with
  | .mp id=>match h.get id with
   |some (.wmap sh es)=>if s=sh/\isKey s (ρ k)=true then
     match gY (ρ k) es with
     |some e=>some (.tup [e.2,.int .i64 (e.1:Nat)],h)
     |none=>some (.tup [zero,.int .i64 es.length],h.set id (some (.wmap sh (es++ [(ρ k,zero)]))))
    else none
   |_=>none
  |_=>none
 | .ens x s y=>match ρ x,ρ s with
  | .mp id,.int .i64 n=>match h.get id with
   |some (.wmap sh es)=>if 0<=n then
     match es[n.toNat]? with
     |some e=>some (V.undef,h.set id (some (.wmap sh (es.set n.toNat (e.1,ρ y)))))
     |none=>none
    else none
   |_=>none
  |_,_=>none
 | .six x i=>match ρ x,ρ i with
  | .str l,.int _ z=>if 0<=z then (l[z.toNat]?).map (λ(c:Nat)=>(V.int .u8 ((c%256:Nat):Int),h)) else none
  |_,_=>none
 | .sla n sz x lo hi=>match ρ x with
  | .ptr id off=>(xT sz (.sl id off n (.kn n)) (lo.map ρ) (hi.map ρ) none).map (·,h)
  |_=>none
 | .seq neg x y=>match ρ x,ρ y with
  | .str a,.str b=>some (.bool (if neg then !(a.map (· %256)==b.map (· %256)) else a.map (· %256)==b.map (· %256)),h)
  |_,_=>none
 | .sad x y=>match ρ x,ρ y with
  | .str a,.str b=>if a.length+b.length<2^62 then some (.str (a++b),h) else none
  |_,_=>none
 | .cir x=>match ρ x with
  | .int _ n=>if 0<=n/\n<128 then some (.str [n.toNat],h) else none
  |_=>none
 | .clr sz zero x=>match ρ x with
  | .aE=>some (V.undef,h)
  | .emp _=>some (V.undef,h)
  | .sl id off len _=>if len=0 then some (V.undef,h) else
   if zero.length=sz/\zero.all V.one=true then (h.put id off (cX zero (len*sz))).map (λh'=>(V.undef,h')) else none
  |_=>none
 | .fail=>none
def lX (d:D)(vars loc:List V)(v:V):List V×List V:=
 match d with
 | .v k=>(vars.set k v,loc)
 | .l=>(vars,v::loc)
 | .n=>(vars,loc)
def Ct (vars:List V)(h:H):Rv->Option V
 | .v k=>some (vars.getD k .undef)
 | .cell k agg n=>QW h agg n (vars.getD k .undef)
def Jm:List V->V
 | [v]=>v
 |vs=> .tup vs
def cH {α:Type}:List (Option α)->Option (List α)
 | []=>some []
 |none::_=>none
 |some a::r=>(cH r).map (a:: ·)
def vQ (vars loc:List V):Option (X×Bool)->Option Bool
 |none=>some true
 |some (x,b)=>match xv vars loc x with| .bool a=>some (a==b)| .tup []=>some false|_=>none
def I.sJ:I->Bool
 | .ld .. | .lenm _| .lkp .. | .cvs _| .lkw .. =>true
 |_=>false
def I.Ki:I->Bool
 | .mks .. | .alc _| .box _| .bls .. | .mkm| .mkw .. =>true
 |_=>false
def I.uB:I->Bool
 | .st .. | .app .. | .apz .. | .cpy .. | .mset .. | .msw .. | .ent .. | .ens .. | .clr .. =>true
 |_=>false
def dR.sJ:dR->Bool
 | .op i=>i.sJ
 |_=>false
def dR.Ki:dR->Bool
 | .op i=>i.Ki
 |_=>false
def dR.uB:dR->Bool
 | .op i=>i.uB
 | .callp .. =>false
 |_=>true
def I.close (ρ:X->V):I->I
 | .ld a n x=> .ld a n (.c (ρ x))
 | .lenm x=> .lenm (.c (ρ x))
 | .lkp z ok x k=> .lkp z ok (.c (ρ x)) (.c (ρ k))
 | .cvs x=> .cvs (.c (ρ x))
 | .lkw s z ok x k=> .lkw s z ok (.c (ρ x)) (.c (ρ k))
 |i=>i
abbrev Log:=List (Nat×I×V)
def rI (cks:List Nat)(log:Log)(h:H):Bool:=
 log.all λe=>!cks.contains e.1||(match cI (xv [] []) h e.2.1 with|some (v,_)=>dE v e.2.2|none=>false)
def Kz (x:AI)(vars:List V)(v:V)(log:Log):Log:=
 match x.it.a with
 | .op i=>if i.sJ then (x.i,i.close (xv vars []),v)::log else log
 |_=>log
def Oq (vars:List V)(h:H)(n:Nat):dR->Option (V×H)
 | .op i=>match cI (xv vars []) {h with next:=n} i with
  |some (v,h')=>some (v,{h' with next:=h.next})
  |none=>none
 |_=>none
def Fk (fn:Fn)(args:List V):List V:=fn.init.map λo=>match o with|some j=>args.getD j .undef|none=> .undef
def C.Tj:C->Bool
 | .seq a b| .ite _ a b=>a.Tj&&b.Tj
 | .block _ c| .loop c| .scope c=>c.Tj
 | .range .. | .regd .. =>false
 |_=>true
def LR (rd:Option Nat)(h:H):Bool:=
 match rd with
 |none=>true
 |some id=>match h.get id with
  |some (.loop _)=>true
  |_=>false
abbrev MZ:=List (Nat×List V)
noncomputable section
def nth (l:List V):Nat->V:=List.rec (λ_=>V.undef) (λv _ ih k=>Nat.rec v (λk _=>ih k) k) l
def OF (l:List V):Nat->V->List V:=List.rec (λ_ _=> []) (λu us ih k v=>Nat.rec (v::us) (λk _=>u::ih k v) k) l
def GR (vars loc:List V)(x:X):V:=X.rec (nth vars) (nth loc) (λv=>v) x
theorem CF: ∀(l:List V) (k:Nat),nth l k=l.getD k .undef
 | [],k=>by simp [nth]
 |v::l,0=>rfl
 |v::l,k+1=>by
  have:=CF l k;show nth l k=_;rw[this];simp [List.getD]
theorem HI: ∀(l:List V) (k:Nat) (v:V),OF l k v=l.set k v
 | [],k,v=>by simp [OF]
 |u::l,0,v=>rfl
 |u::l,k+1,v=>by
  have:=HI l k v;show u::OF l k v=_;rw[this];rfl
theorem Ej (a b:List V):GR a b=xv a b:=by
 funext x
 cases x with
 |v k=>exact CF a k
 |l k=>exact CF b k
 |c v=>rfl
def Kp (v:V)(o:Option (List V)):Option (List V):=Option.rec none (λr=>some (v::r)) o
theorem yM (v:V)(r:List V):Kp v (some r)=some (v::r):=rfl
theorem Eb (v:V):Kp v none=none:=rfl
def HS (n:Nat):List V->Option (List V):=Nat.rec (λl=>some l) (λ_ ih l=>List.rec none (λ_ t _=>ih t) l) n
def amG (n:Nat):List V->Option (List V):=Nat.rec (λ_=>some []) (λ_ ih l=>List.rec none (λv t _=>Kp v (ih t)) l) n
def NX (vs:List V)(off n:Nat):Option (List V):=Option.rec none (λt=>amG n t) (HS off vs)
def Sa (ws:List V):List V->Option (List V):=List.rec (λl=>some l) (λw _ ih l=>List.rec none (λ_ t _=>Kp w (ih t)) l) ws
def ZA (off:Nat)(ws:List V):List V->Option (List V):=Nat.rec (λl=>Sa ws l) (λ_ ih l=>List.rec none (λv t _=>Kp v (ih t)) l) off
theorem Yi: ∀(n:Nat) (l:List V),amG n l=if n<=l.length then some (l.take n) else none
 |0,l=>by show some []=_;simp
 |n+1, []=>by simp [amG]
 |n+1,v::t=>by
  have a:=Yi n t;show Kp v (amG n t)=_;rw[a]
  by_cases h:n<=t.length<;>simp [h,yM,Eb]
theorem AE: ∀(n:Nat) (l:List V),HS n l=if n<=l.length then some (l.drop n) else none
 |0,l=>by show some l=_;simp
 |n+1, []=>by simp [HS]
 |n+1,v::t=>by
  have a:=AE n t;show HS n t=_;rw[a]
  by_cases h:n<=t.length<;>simp [h,yM,Eb]
theorem Ux (vs:List V)(off n:Nat):NX vs off n=sub vs off n:=by
 unfold NX sub;rw[AE]
 by_cases h:off<=vs.length
 ·simp only[h,if_true,Yi,AQ]
  by_cases a:off+n<=vs.length
  ·rw[bF a,bF om]
  ·rw[bI a,bI om]
 ·simp only[h,if_false]
  rw[bI om]
theorem AB: ∀(ws l:List V),Sa ws l=if ws.length<=l.length then some (ws++l.drop ws.length) else none
 | [],l=>by simp [Sa]
 |w::ws, []=>by simp [Sa]
 |w::ws,v::t=>by
  have a:=AB ws t;show Kp w (Sa ws t)=_;rw[a]
  by_cases h:ws.length<=t.length<;>simp [h,yM,Eb]
theorem Uv: ∀(off:Nat) (ws l:List V),ZA off ws l=putAt l off ws
 |0,ws,l=>by
  show Sa ws l=_;rw[AB];simp [putAt]
 |off+1,ws, []=>by
  have: ¬(off+1+ws.length<=0):=om
  simp [ZA,putAt,this]
 |off+1,ws,v::t=>by
  have a:=Uv off ws t;show Kp v (ZA off ws t)=_;rw[a];unfold putAt
  by_cases h:off+ws.length<=t.length
  ·rw[bF h,bF (by simp;omega)]
   simp [yM,show off+1+ws.length=(off+ws.length)+1 from om]
  ·rw[bI h,bI (by simp;omega)];rfl
theorem MM (a b:Nat):Nat.beq a b=(a==b):=by rw[Py,Nat.beq_eq];simp
def Tr.Qb (t:Tr):Nat->Option Ob:=Tr.rec (λ_=>none) (λv _ _ ihl ihr n=>cond (Nat.beq n 0) v (cond (Nat.beq (n%2) 1) (ihl (n/2)) (ihr (n/2- 1)))) t
theorem Tr.sQ: ∀(t:Tr) (n:Nat),t.Qb n=t.get n
 | .lf,n=>rfl
 | .nd v l r,n=>by
  show cond (Nat.beq n 0) v (cond (Nat.beq (n%2) 1) (l.Qb (n/2)) (r.Qb (n/2- 1)))=_;rw[Tr.sQ l,Tr.sQ r,MM,MM];rfl
def Tr.Mm (f:Nat):Tr->Nat->Option Ob->Tr:=
 Nat.rec (λt _ _=>t) (λ_ ih t n o=>Tr.rec
  (cond (Nat.beq n 0) (.nd o .lf .lf) (cond (Nat.beq (n%2) 1) (.nd none (ih .lf (n/2) o) .lf) (.nd none .lf (ih .lf (n/2- 1) o))))
  (λv l r _ _=>cond (Nat.beq n 0) (.nd o l r) (cond (Nat.beq (n%2) 1) (.nd v (ih l (n/2) o) r) (.nd v l (ih r (n/2- 1) o)))) t) f
theorem Tr.qP: ∀(f:Nat) (t:Tr) (n:Nat) (o:Option Ob),t.Qe f n o=Tr.Mm f t n o
 |0,t,n,o=>by cases t<;>rfl
 |f+1,.lf,n,o=>by
  show _=cond (Nat.beq n 0) (Tr.nd o .lf .lf) (cond (Nat.beq (n%2) 1) (.nd none (Tr.Mm f .lf (n/2) o) .lf) (.nd none .lf (Tr.Mm f .lf (n/2- 1) o)));rw[←Tr.qP f,←Tr.qP f,MM,MM];rfl
 |f+1,.nd v l r,n,o=>by
  show _=cond (Nat.beq n 0) (Tr.nd o l r) (cond (Nat.beq (n%2) 1) (.nd v (Tr.Mm f l (n/2) o) r) (.nd v l (Tr.Mm f r (n/2- 1) o)));rw[←Tr.qP f,←Tr.qP f,MM,MM];rfl
def H.Qb (h:H)(i:Nat):Option Ob:=h.tr.Qb i
theorem H.sQ (h:H)(i:Nat):h.Qb i=h.get i:=Tr.sQ _ _
def H.Mm (h:H)(id:Nat)(o:Option Ob):H:=H.rec (λt n=>⟨Tr.Mm (id+1) t id o,n⟩) h
theorem H.qP (h:H)(id:Nat)(o:Option Ob):h.Mm id o=h.set id o:=by
 cases h;show H.mk _ _=_;rw[←Tr.qP];rfl
theorem wrap_i64 {n:Int}(a: -9223372036854775808<=n)(h2:n<9223372036854775808):IntKind.i64.wrap n=n:=by
 unfold IntKind.wrap;simp only[IntKind.bits,IntKind.signed]
 by_cases h:0<=n
 ·have:n%2^64=n:=Int.emod_eq_of_lt h om
  simp only[this];rw[bI];simp;omega
 ·have:n%2^64=n+2^64:=by
   rw[←Int.add_emod_right];exact Int.emod_eq_of_lt om om
  simp only[this];rw[bF]
  ·omega
  ·simp;omega
def RV (n:Int):Bool:=Int.rec (λa=>Nat.blt a 9223372036854775808) (λa=>Nat.blt a 9223372036854775808) n
theorem Nl {n:Int}(h:RV n=true): -9223372036854775808<=n/\n<9223372036854775808:=by
 cases n with
 |ofNat a=>
  have c:=(Nat.blt_eq (x:=a) (y:=9223372036854775808)).mp h;have b:Int.ofNat a=(a:Int):=rfl;rw[b];omega
 |negSucc a=>
  have c:=(Nat.blt_eq (x:=a) (y:=9223372036854775808)).mp h;have b:=Int.negSucc_eq a;rw[b];omega
def Zs (k:IntKind)(n:Int):Int:=
 match k with
 | .i64=>cond (RV n) n (IntKind.i64.wrap n)
 |k=>k.wrap n
theorem TN (k:IntKind)(n:Int):Zs k n=k.wrap n:=by
 cases k<;>try rfl
 simp only[Zs]
 cases h:RV n with
 |false=>rfl
 |true=>rw[wrap_i64 (Nl h).1 (Nl h).2];rfl
def TD (a b:Int):Bool:=Int.rec (λa=>Int.rec (λb=>Nat.blt a b) (λ_=>false) b) (λa=>Int.rec (λ_=>true) (λb=>Nat.blt b a) b) a
theorem YA (a b:Int):TD a b=decide (a<b):=by
 cases a with
 |ofNat a=>cases b with
  |ofNat b=>show Nat.blt a b=_;rw[Py,Nat.blt_eq];simp
  |negSucc b=>show false=_;simp;omega
 |negSucc a=>cases b with
  |ofNat b=>show true=_;simp;omega
  |negSucc b=>show Nat.blt b a=_;rw[Py,Nat.blt_eq];simp;omega
def adM (a b:Int):Bool:=Int.rec (λa=>Int.rec (λb=>Nat.beq a b) (λ_=>false) b) (λa=>Int.rec (λ_=>false) (λb=>Nat.beq a b) b) a
theorem YG (a b:Int):adM a b=(a==b):=by
 cases a with
 |ofNat a=>cases b with
  |ofNat b=>show Nat.beq a b=_;rw[Py,Nat.beq_eq];simp;omega
  |negSucc b=>show false=_;symm;simp
 |negSucc a=>cases b with
  |ofNat b=>show false=_;symm;simp
  |negSucc b=>show Nat.beq a b=_;rw[Py,Nat.beq_eq];simp
def DN (op:BinOp)(k:IntKind)(a b:Int):Option V:=
 match op with
 | .add=>some (.int k (Zs k (a+b)))
 | .sub=>some (.int k (Zs k (a-b)))
 | .mul=>some (.int k (Zs k (a*b)))
 | .eql=>some (.bool (adM a b))
 | .neq=>some (.bool (!adM a b))
 | .lss=>some (.bool (TD a b))
 | .leq=>some (.bool (!TD b a))
 | .gtr=>some (.bool (TD b a))
 | .geq=>some (.bool (!TD a b))
 |op=>arith op k a b
theorem LU (op:BinOp)(k:IntKind)(a b:Int):DN op k a b=arith op k a b:=by
 cases op<;>simp only[DN,arith,TN,YG,YA]
 ·simp [bne]
 ·congr 2;rw[Py];simp
 ·congr 2;rw[Py];simp
end
end Go.Ay
