/- The compiler from the model's code to the intermediate code. -/
import Derived.Test.YtddpkbicnolafaaGreatAy1
namespace Go.Ay

/-- The place of a number in a list. -/
def idx (t : Nat) : List Nat → Option Nat
  | [] => none
  | s :: r => if s = t then some 0 else (idx t r).map (· + 1)

def ofValS : Value → Option V
  | .int k n => some (.int k n)
  | .bool b => some (.bool b)
  | .pointer none => some .nilp
  | .slice none 0 0 => some .nils
  | .map none => some .nilm
  | .nilFunc => some .nilf
  | .string s => some (.str (s.data.toList.map UInt8.toNat))
  | .func (.func f) first captured => if first.isEmpty && captured.isEmpty then some (.fn f [] []) else none
  | _ => none

def ofVal : Value → Option V
  | .agg cs => (allSome (cs.toList.map ofValS)).map .agg
  | .tuple cs => if cs.isEmpty then some (.tup []) else none
  | v => ofValS v

def compX (pv defs : List Nat) : Operand → Option X
  | .tmp t => match idx t defs with
    | some i => some (.l i)
    | none => (idx t pv).map .v
  | .const v => (ofVal v).map .c
  | .func f => some (.c (.fn f [] []))
  | .global _ => none

def compXs (pv defs : List Nat) (xs : List Operand) : Option (List X) := allSome (xs.map (compX pv defs))

def compXo (pv defs : List Nat) : Option Operand → Option (Option X)
  | none => some none
  | some x => (compX pv defs x).map some

section
variable (P : Program)

def aggOf (t : TypeId) : Option Bool := (P.underlying t).map fun | .struct _ | .array _ _ => true | _ => false
def sizeT (t : TypeId) : Option Nat := (P.info? t).map (·.size)
def bytesT (t : TypeId) : Option Nat := (P.info? t).map (·.bytes)
def noTup : V → Bool
  | .tup _ => false
  | _ => true
def zeroT (t : TypeId) : Option V := (((P.info? t).bind (·.zero)).bind ofVal).filter noTup
/-- Is a variable of the type a row, and how many cells has it? -/
def ldN (t : TypeId) : Option (Bool × Nat) :=
  match aggOf P t with
  | some true => (sizeT P t).map fun n => (true, n)
  | some false => some (false, 1)
  | none => none
def elemT (t : TypeId) : Option TypeId := match P.underlying t with | some (.slice e) => some e | _ => none
/-- Has the zero value as many cells as a value of the type? -/
def zsz (e : TypeId) (s : Nat) : Bool := ((P.info? e).bind (·.zero)).any fun z => z.cells.size == s
def fieldT (t : TypeId) (f : Nat) : Option Field := match P.underlying t with | some (.struct fs) => fs[f]? | _ => none
def enters (f : Nat) : Bool := (P.funcs[f]?).any fun fn => fn.body.isSome && fn.name != "runtime.NumGoroutine"

def fieldPlaces (fs : Array Field) : Option (List (Nat × Nat)) := fs.toList.mapM fun f => (P.info? f.type).map fun i => (f.offset, i.size)

/-- Where the parts of a literal go: offset and size. -/
def places (t : TypeId) (parts : List (Nat × X)) : Option (List (Nat × Nat × X)) :=
  match P.underlying t with
  | some (.struct fs) => match fieldPlaces P fs with
    | some ps => allSome (parts.map fun p => ((ps[p.1]?).map fun q => (q.1, q.2, p.2)))
    | none => none
  | some (.array _ e) => (sizeT P e).map fun s => parts.map fun p => (p.1 * s, s, p.2)
  | _ => none

def isInt (t : TypeId) : Option IntKind := match P.underlying t with | some (.int k) => some k | _ => none

/-- A wide key's shape. -/
def kshT (kt : TypeId) : Option KSh :=
  match P.underlying kt with
  | some .string => some .str
  | some (.array n e) => match P.underlying e with
    | some (.int k) => if P.cellsOf e = 1 ∧ P.cellsOf kt = n ∧ 0 < P.types.size then some (.arr n k) else none
    | _ => none
  | _ => none

/-- The function of a method of a type: a row without a path, of a value. -/
def methAt (name : String) (t : TypeId) : Option Nat :=
  match (P.info? t).bind fun i => i.methods.find? (·.name == name) with
  | some r => match r.path.toList, r.func, P.underlying t with
    | [], some (f, false), some d => match d with
      | .pointer _ => none
      | _ => if enters P f then some f else none
    | _, _, _ => none
  | none => none
def methT (name : String) : List Nat → Option (Nat × Nat)
  | [] => none
  | t :: ts => match methAt P name t with
    | some f => some (t, f)
    | none => methT name ts

def compCall (pv defs : List Nat) (c : Call) (type : TypeId) : Option Act1 :=
  match c.callee with
  | .value (.func f) => if enters P f then (compXs pv defs c.args.toList).map (.call f) else none
  | .value x => do some (.callv (← compX pv defs x) (← compXs pv defs c.args.toList))
  | .invoke r name => match methT P name (List.range P.types.size) with
    | some q => do some (.calli q.2 q.1 (← compX pv defs r) (← compXs pv defs c.args.toList))
    | none => none
  | .builtin .len =>
    match c.args.toList, c.argTypes.toList with
    | [x], [t] => match P.underlying t with
      | some (.slice _) => (compX pv defs x).map fun x => .op (.lens x)
      | some (.map _ _) => (compX pv defs x).map fun x => .op (.lenm x)
      | _ => none
    | _, _ => none
  | .builtin .cap =>
    match c.args.toList, c.argTypes.toList with
    | [x], [t] => match P.underlying t with
      | some (.slice _) => (compX pv defs x).map fun x => .op (.caps x)
      | _ => none
    | _, _ => none
  | .builtin .min => (compXs pv defs c.args.toList).map fun xs => .op (.mm false xs)
  | .builtin .max => (compXs pv defs c.args.toList).map fun xs => .op (.mm true xs)
  | .builtin .append =>
    match c.args.toList, c.argTypes.toList with
    | [x, y], [t, u] => do
      let e ← elemT P t
      let s ← sizeT P e
      if s = 0 ∨ zsz P e s = false then none else
      match P.underlying u with
      | some (.slice _) => some (.op (.app s (← bytesT P e) (← compX pv defs x) (← compX pv defs y)))
      | some (.int _) => some (.op (.apz s (← bytesT P e) (← zeroT P e).cells (← compX pv defs x) (← compX pv defs y)))
      | _ => none
    | _, _ => none
  | .builtin .copy =>
    match c.args.toList, c.argTypes.toList with
    | [x, y], [t, _] => do
      let e ← elemT P t
      let s ← sizeT P e
      if s = 0 then none else
      some (.op (.cpy s (← compX pv defs x) (← compX pv defs y)))
    | _, _ => none
  | _ => let _ := type; none

def compOp (pv defs : List Nat) (o : Oper) : Option Act1 :=
  let cx := compX pv defs
  match o.op with
  | .move x | .assign x => (cx x).map fun x => .op (.mov x)
  | .pick c a b => do some (.op (.pick (← cx c) (← cx a) (← cx b)))
  | .alloc e => do some (.op (.alc (← zeroT P e).cells))
  | .box _ x => (cx x).map fun x => .op (.box x)
  | .build t parts => do
    let ps ← allSome (parts.toList.map fun p => (cx p.2).map fun x => (p.1, x))
    some (.op (.bld (← zeroT P t).cells (← places P t ps)))
  | .buildSlice t n parts => do
    let e ← elemT P t
    let s ← sizeT P e
    if s = 0 ∨ n * s > 2 ^ 24 ∨ zsz P e s = false then none else
    let ps ← allSome (parts.toList.map fun p => (cx p.2).map fun x => (p.1 * s, s, x))
    some (.op (.bls s (← zeroT P e).cells n ps))
  | .load t x => match ldN P t with
    | some q => (cx x).map fun x => .op (.ld q.1 q.2 x)
    | none => none
  | .store t x y => do some (.op (.st (← sizeT P t) (← cx x) (← cx y)))
  | .nilCheck x => (cx x).map fun x => .op (.nck x)
  | .binOp op t x y _ =>
    match op with
    | .shl | .shr => do some (.op (.shf op (← isInt P t) (← cx x) (← cx y)))
    | .eql | .neq =>
      match P.underlying t with
      | some (.int k) => do some (.op (.bin op k (← cx x) (← cx y)))
      | some .bool => do some (.op (.beq (op matches .neq) (← cx x) (← cx y)))
      | some (.slice _) => match y with
        | .const (.slice none 0 0) => do some (.op (.snil (op matches .neq) (← cx x)))
        | _ => none
      | _ => none
    | .andNot => none
    | _ => do some (.op (.bin op (← isInt P t) (← cx x) (← cx y)))
  | .unOp op t x =>
    match op with
    | .not => (cx x).map fun x => .op (.not x)
    | .neg => do some (.op (.neg (← isInt P t) (← cx x)))
    | _ => none
  | .convert s d x => match P.underlying s, P.underlying d with
    | some (.int _), some (.int k) => (cx x).map fun x => .op (.conv k x)
    | some (.slice e), some .string => match P.underlying e with
      | some (.int .u8) => (cx x).map fun x => .op (.cvs x)
      | _ => none
    | _, _ => none
  | .makeFunc (.func f) first cs => if enters P f then do some (.op (.mkf f (← compXs pv defs first.toList) (← compXs pv defs cs.toList))) else none
  | .makeMap t r => match P.underlying t with
    | some (.map kt _) => match kshT P kt with
      | some sh => (compXo pv defs r).map fun r => .op (.mkw sh r)
      | none => match r with
        | none => some (.op .mkm)
        | some _ => none
    | _ => none
  | .makeSlice t l c => do
    let e ← elemT P t
    let s ← sizeT P e
    if s = 0 ∨ zsz P e s = false then none else
    some (.op (.mks s (← bytesT P e) (← zeroT P e).cells (← cx l) (← cx c)))
  | .slice t x lo hi mx => do
    let e ← elemT P t
    let s ← sizeT P e
    if s = 0 then none else
    some (.op (.slc s (← cx x) (← compXo pv defs lo) (← compXo pv defs hi) (← compXo pv defs mx)))
  | .fieldAddr t x f => do
    let f ← fieldT P t f
    if (sizeT P f.type).getD 0 = 0 then none else
    some (.op (.fla f.offset (← cx x)))
  | .field t x f => do
    let f ← fieldT P t f
    some (.op (.part (← aggOf P f.type) f.offset (← sizeT P f.type) (← cx x)))
  | .indexAddr t x i => match P.underlying t, i with
    | some (.array n e), .const (.int _ z) => if 0 ≤ z ∧ z < n then do
        let s ← sizeT P e
        some (.op (.fla (z.toNat * s) (← cx x)))
      else none
    | some (.array n e), i => do
      let s ← sizeT P e
      some (.op (.ixd n s (← cx x) (← cx i)))
    | _, _ => do
      let e ← elemT P t
      let s ← sizeT P e
      some (.op (.ixa s (← cx x) (← cx i)))
  | .lookup t x k ok => match P.underlying t with
    | some (.map kt et) => match kshT P kt with
      | some sh => do some (.op (.lkw sh (← zeroT P et) ok (← cx x) (← cx k)))
      | none => do
        let _ ← isInt P kt
        some (.op (.lkp (← zeroT P et) ok (← cx x) (← cx k)))
    | _ => none
  | .mapUpdate t x k y => match P.underlying t with
    | some (.map kt _) => match kshT P kt with
      | some sh => do some (.op (.msw sh (← cx x) (← cx k) (← cx y)))
      | none => do
        let _ ← isInt P kt
        some (.op (.mset (← cx x) (← cx k) (← cx y)))
    | _ => none
  | .mapEntry t x k => match P.underlying t with
    | some (.map kt et) => match kshT P kt with
      | some sh => do some (.op (.ent sh (← zeroT P et) (← cx x) (← cx k)))
      | none => none
    | _ => none
  | .entryStore _ x k y => do some (.op (.ens (← cx x) (← cx k) (← cx y)))
  | .index t x i => match P.underlying t with
    | some .string => do some (.op (.six (← cx x) (← cx i)))
    | _ => none
  | .extract x i => (cx x).map fun x => .op (.ext x i)
  | .makeInterface t x => match P.underlying t, cx x with
    | some (.interface _), _ => some (.op .fail)
    | some _, some x => some (.op (.mif t x))
    | _, _ => some (.op .fail)
  | .panic _ => some (.op .fail)
  | .call c => compCall P pv defs c o.type
  | _ => none

/-- The guard. -/
def compG (pv defs : List Nat) (ops : Array Oper) : Option (Nat × Bool) → Option (Option (X × Bool))
  | none => some none
  | some (j, b) => match (ops[j]?).bind (·.dst) with
    | some t => (compX pv defs (.tmp t)).map fun x => some (x, b)
    | none => none

/-- The place of the result. -/
def compD (nt : Nat) (pv defs : List Nat) : Option Tmp → Option (D × List Nat)
  | none => some (.n, defs)
  | some t => if t < nt then (match idx t pv with
      | some k => some (.v k, defs)
      | none => some (.l, t :: defs)) else none

/-- One operation, as an item; and the slots that this region has defined. -/
def compIt (nt : Nat) (pv defs : List Nat) (ops : Array Oper) (o : Oper) : Option (It × List Nat) :=
  match compOp P pv defs o, compG pv defs ops o.guard, compD nt pv defs o.dst with
  | some a, some g, some d => some (⟨d.1, g, a⟩, d.2)
  | _, _, _ => none

def compIts (nt : Nat) (pv : List Nat) (ops : Array Oper) : List Nat → List Nat → Option (List It)
  | [], _ => some []
  | i :: r, defs =>
    match ops[i]? with
    | none => none
    | some o =>
      match compIt P nt pv defs ops o with
      | none => none
      | some (it, defs') => (compIts nt pv ops r defs').map (it :: ·)

/-! ### Regions whose order is drawn -/

end
def X.slots : X → List Nat
  | .v k => [k]
  | _ => []
def I.xs : I → List X
  | .mov x | .not x | .neg _ x | .conv _ x | .snil _ x | .part _ _ _ x | .ext x _ | .lens x | .lenm x | .caps x | .ld _ _ x | .fla _ x | .box x | .nck x | .cvs x | .mif _ x => [x]
  | .ixd _ _ x y | .six x y | .lkw _ _ _ x y | .ent _ _ x y => [x, y]
  | .mkw _ r => r.toList
  | .msw _ x k y | .ens x k y => [x, k, y]
  | .pick c a b => [c, a, b]
  | .bin _ _ x y | .shf _ _ x y | .beq _ x y | .st _ x y | .ixa _ x y | .mks _ _ _ x y | .app _ _ x y | .apz _ _ _ x y | .cpy _ x y | .lkp _ _ x y => [x, y]
  | .mm _ xs => xs
  | .slc _ x lo hi mx => x :: (lo.toList ++ hi.toList ++ mx.toList)
  | .bld _ ps => ps.map (·.2.2)
  | .bls _ _ _ ps => ps.map (·.2.2)
  | .mkf _ fs cs => fs ++ cs
  | .mset x k y => [x, k, y]
  | .alc _ | .mkm | .fail => []
def Act1.xs : Act1 → List X
  | .op i => i.xs
  | .call _ args => args
  | .callv x args => x :: args
  | .callp _ args => args
  | .calli _ _ x args => x :: args
/-- A call as one of numbers. -/
def Act1.pu : Act1 → Act1
  | .call g args => .callp g args
  | a => a
def It.pu (it : It) : It := { it with a := it.a.pu }
def It.rds (it : It) : List Nat := (it.a.xs.map X.slots).flatten ++ (match it.g with | some (x, _) => x.slots | none => [])
def It.wr (it : It) : Option Nat := match it.d with | .v k => some k | _ => none
def It.hasL (it : It) : Bool := match it.d with | .l => true | _ => false

/-- Must 'p', which comes first, come first in every order? -/
def conf (p q : AI) : Bool :=
  (match p.it.wr with | some k => q.it.rds.contains k || q.it.wr == some k | none => false) ||
  (match q.it.wr with | some k => p.it.rds.contains k | none => false) ||
  ((p.it.a.isW || p.it.a.isAl) && (q.it.a.isW || q.it.a.isRd))

/-- A node of the plan: the item, the numbers that it comes after, all that it comes after in the end. -/
structure Nd where
  x : AI
  dep : List Nat
  anc : Nat
  deriving Repr, Inhabited

def ancOf (d : Nat) : List Nd → Nat
  | [] => 0
  | n :: r => if n.x.i = d then n.anc else ancOf d r

def okNodes : List Nd → List Nd → Bool
  | [], _ => true
  | n :: rest, bef =>
    n.dep.all (fun d => bef.any (fun q => q.x.i == d)) &&
    n.anc == n.dep.foldl (fun m d => m ||| (2 ^ d ||| ancOf d bef)) 0 &&
    !bef.any (fun q => q.x.i == n.x.i) &&
    bef.all (fun q => !conf q.x n.x || n.anc.testBit q.x.i) &&
    bef.all (fun q => !(q.x.it.a.isRd && n.x.it.a.isW) || n.anc.testBit q.x.i || n.x.cks.contains q.x.i) &&
    !n.x.it.hasL && (n.x.al == n.x.it.a.isAl) &&
    okNodes rest (n :: bef)

/-- The next number to take: a pure one or a read, if one may come; else what turns the heap; else what makes an object, for the first that turns the heap. -/
def pickNd (ws : List Nat) (ready : List Nd) : Option Nd :=
  match ready.find? (fun n => !n.x.it.a.isW && !n.x.it.a.isAl) with
  | some n => some n
  | none => match ready.find? (fun n => n.x.it.a.isW) with
    | some n => some n
    | none => match ready.find? (fun n => ws.contains n.x.i) with
      | some n => some n
      | none => ready.head?

def orderNd : Nat → List Nd → List Nd → List Nd
  | 0, _, acc => acc.reverse
  | f + 1, todo, acc =>
    let ready := todo.filter fun n => n.dep.all fun d => acc.any fun q => q.x.i == d
    let need := match todo.find? (fun n => n.x.it.a.isW) with
      | some w => (List.range todo.length.succ).foldl (fun s _ => s ++ ((todo.filter fun n => s.contains n.x.i).map (·.dep)).flatten.filter (fun d => !s.contains d && todo.any (fun n => n.x.i == d))) w.dep
      | none => []
    match pickNd need ready with
    | none => acc.reverse
    | some n =>
      let anc := n.dep.foldl (fun m d => m ||| (2 ^ d ||| ancOf d acc)) 0
      let cks := if n.x.it.a.isW then (acc.filter fun q => q.x.it.a.isRd && !anc.testBit q.x.i).map (·.x.i) else []
      orderNd f (todo.filter fun m => m.x.i != n.x.i) ({ n with anc := anc, x := { n.x with cks := cks } } :: acc)

def depsOf (o : Oper) : List Nat := (o.after.toList.filter (Region.binds .any)).map (·.on)

/-- The temporaries that only the region uses. -/
def locals (pv : List Nat) : List Nat → List Nat → List Nat
  | [], acc => acc
  | t :: ts, acc => if pv.contains t || acc.contains t then locals pv ts acc else locals pv ts (acc ++ [t])

section
variable (P : Program)

def nodesOf (nt : Nat) (pv : List Nat) (ops : Array Oper) : Nat → List Oper → Option (List Nd)
  | _, [] => some []
  | i, o :: os =>
    match compIt P nt pv [] ops o with
    | some (it, []) => (nodesOf nt pv ops (i + 1) os).map fun r => { x := { i, it, al := it.a.isAl, cks := [] }, dep := depsOf o, anc := 0 } :: r
    | _ => none

/-- The nodes in the order of the plan. -/
def mkPlan (ns : List Nd) (pl : List Nd) : Option (List Nd) :=
  allSome (pl.map fun e => (ns[e.x.i]?).map fun m => { x := { m.x with cks := e.x.cks }, dep := m.dep, anc := e.anc })

def okPlan (n : Nat) (ns : List Nd) : Bool := (List.range n).all (fun i => ns.any fun q => q.x.i == i) && okNodes ns []

def Nd.pu (n : Nd) : Nd := { n with x := { n.x with it := n.x.it.pu } }
def planFor (ns : List Nd) (n : Nat) : Option (List AI) :=
  match mkPlan ns (orderNd ns.length ns []) with
  | none => none
  | some plan => if okPlan n plan then some (plan.map (·.x)) else none

def compAny (nt : Nat) (pv : List Nat) (ops : Array Oper) : Option C :=
  let loc := locals pv (ops.toList.filterMap (·.dst)) []
  match nodesOf P nt (pv ++ loc) ops 0 ops.toList with
  | none => none
  | some ns =>
    if loc.all (· < nt) then
      match planFor ns ops.size with
      | some xs => some (.any ops.size loc.length xs)
      | none => (planFor (ns.map Nd.pu) ops.size).map (.any ops.size loc.length)
    else none

def compC (nt : Nat) (pv : List Nat) : Code → Option C
  | .skip | .label _ => some .skip
  | .region _ ops draw => if draw then compAny P nt pv ops else
    match ops.back? with
    | some { op := .defer c, guard := none, dst := none, .. } => match c.callee with
      | .value x => do some (.regd (← compIts P nt pv ops (List.range (ops.size - 1)) []) (← compX pv [] x) (← compXs pv [] c.args.toList))
      | _ => none
    | _ => (compIts P nt pv ops (List.range ops.size) []).map .reg
  | .seq a b => do some (.seq (← compC nt pv a) (← compC nt pv b))
  | .cond x a b => do some (.ite (← compX pv [] x) (← compC nt pv a) (← compC nt pv b))
  | .block id c => do some (.block id (← compC nt pv c))
  | .loop c => do some (.loop (← compC nt pv c))
  | .exit id => some (.exit id)
  | .ret => some .ret
  | .scope c => do some (.scope (← compC nt pv c))
  | .rangeFunc f pars a b => do
    some (.range (← compX pv [] f) (← allSome (pars.toList.map fun t => idx t pv)) (← compC nt pv a) (← compC nt pv b))
  | _ => none

def compR (pv : List Nat) : ResultVar → Option Rv
  | .tmp t => (idx t pv).map .v
  | .cell t ty => match ldN P ty with
    | some q => (idx t pv).map fun k => .cell k q.1 q.2
    | none => none

def compFn (pv : List Nat) (fn : Func) : Option Fn :=
  match fn.body with
  | none => none
  | some c => match compC P fn.ntmps pv c, allSome (fn.results.toList.map (compR P pv)) with
    | some body, some results =>
      if pv.all (· < fn.ntmps) && fn.params.size + fn.nfree ≤ fn.ntmps then
        some { nargs := fn.params.size + fn.nfree, init := pv.map fun t => if t < fn.params.size + fn.nfree then some t else none, results, body }
      else none
    | _, _ => none

end
end Go.Ay

