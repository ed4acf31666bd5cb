/- The abstract machine: values, heaps, the intermediate code, its evaluator, and the compiler from the model's code. -/
import GoSem.Dispatch
import GoSem.Core.Code
namespace Go.Ay

/-- How much room a slice has behind its head: known, or unknown (then: the size of an element in cells). -/
inductive Cap where
  | kn (c : Nat)
  | un (esz : Nat)
  deriving DecidableEq, Repr, Inhabited

/-- Abstract values: a block is named by an abstract number. -/
inductive V where
  | int (k : IntKind) (n : Int)
  | bool (b : Bool)
  | ptr (id off : Nat)
  | nilp
  | sl (id off len : Nat) (cap : Cap)
  | nils
  | emp (a : Addr)
  | str (l : List Nat)
  | ifc (t : Nat) (x : V)
  | mp (id : Nat)
  | nilm
  | fn (f : Nat) (first cs : List V)
  | yl (id : Nat)
  | nilf
  | agg (vs : List V)
  | tup (vs : List V)
  | unk
  deriving Repr, Inhabited

def V.undef : V := .tup []
/-- The cells of a value. -/
def V.cells : V → List V
  | .agg vs => vs
  | v => [v]
/-- A value that fits one cell. -/
def V.one : V → Bool
  | .agg _ | .tup _ | .unk => false
  | _ => true

/-- Operands: a variable of the function, a value that this region has made (the newest is 0), a constant. -/
inductive X where
  | v (k : Nat)
  | l (k : Nat)
  | c (x : V)
  deriving Repr, Inhabited

/-- Where a result goes. -/
inductive D where
  | v (k : Nat)
  | l
  | n
  deriving Repr, Inhabited, DecidableEq

/-- The shape of a wide key: a string, or a row of numbers. -/
inductive KSh where
  | str
  | arr (n : Nat) (k : IntKind)
  deriving Repr, Inhabited, DecidableEq

/-- Operations that call nothing. -/
inductive I where
  | mov (x : X)
  | pick (c a b : X)
  | bin (op : BinOp) (k : IntKind) (x y : X)
  | shf (op : BinOp) (k : IntKind) (x y : X)
  | beq (neg : Bool) (x y : X)
  | snil (neg : Bool) (x : X)
  | not (x : X)
  | neg (k : IntKind) (x : X)
  | conv (k : IntKind) (x : X)
  | part (agg : Bool) (off n : Nat) (x : X)
  | ext (x : X) (i : Nat)
  | lens (x : X)
  | lenm (x : X)
  | caps (x : X)
  | mm (max : Bool) (xs : List X)
  | ld (agg : Bool) (n : Nat) (x : X)
  | st (n : Nat) (x y : X)
  | ixa (sz : Nat) (x i : X)
  | fla (off : Nat) (x : X)
  | slc (sz : Nat) (x : X) (lo hi mx : Option X)
  | mks (sz bytes : Nat) (zero : List V) (l c : X)
  | alc (zero : List V)
  | box (x : X)
  | bld (zero : List V) (parts : List (Nat × Nat × X))
  | bls (sz : Nat) (zero : List V) (n : Nat) (parts : List (Nat × Nat × X))
  | app (sz bytes : Nat) (x y : X)
  | apz (sz bytes : Nat) (zero : List V) (x n : X)
  | cpy (sz : Nat) (x y : X)
  | mkf (f : Nat) (first cs : List X)
  | mkm
  | lkp (zero : V) (ok : Bool) (x k : X)
  | mset (x k y : X)
  | nck (x : X)
  | ixd (n sz : Nat) (x i : X)
  | cvs (x : X)
  | mif (t : Nat) (x : X)
  | mkw (sh : KSh) (r : Option X)
  | lkw (sh : KSh) (zero : V) (ok : Bool) (x k : X)
  | msw (sh : KSh) (x k y : X)
  | ent (sh : KSh) (zero : V) (x k : X)
  | ens (x s y : X)
  | six (x i : X)
  | fail
  deriving Repr, Inhabited

/-- A value that names nothing. -/
def V.scal : V → Bool
  | .int .. | .bool _ => true
  | _ => false
/-- What an item of a region does; 'callp' is a call of numbers that gives a number, run with an empty heap. -/
inductive Act1 where
  | op (i : I)
  | call (f : Nat) (args : List X)
  | callv (x : X) (args : List X)
  | callp (f : Nat) (args : List X)
  | calli (f t : Nat) (x : X) (args : List X)
  deriving Repr, Inhabited

/-- An item: where its result goes, its guard, what it does. -/
structure It where
  d : D
  g : Option (X × Bool)
  a : Act1
  deriving Repr, Inhabited

/-- An item of a region whose order is drawn: its number; does it make an object; which reads it must leave alone. -/
structure AI where
  i : Nat
  it : It
  al : Bool
  cks : List Nat
  deriving Repr, Inhabited

inductive C where
  | skip
  | reg (its : List It)
  | any (k nl : Nat) (its : List AI)
  | regd (its : List It) (x : X) (args : List X)
  | seq (a b : C)
  | ite (x : X) (a b : C)
  | block (id : Nat) (c : C)
  | loop (c : C)
  | exit (id : Nat)
  | ret
  | scope (c : C)
  | range (f : X) (pars : List Nat) (assign body : C)
  | fail
  deriving Repr, Inhabited

inductive E where
  | norm
  | ret
  | exit (id : Nat)
  deriving Repr, Inhabited, DecidableEq

inductive LSt where
  | ready
  | busy
  | done
  | out
  deriving Repr, Inhabited, DecidableEq

/-- The record of a range over a function. -/
structure LRec where
  vars : List V
  pars : List Nat
  assign : C
  body : C
  st : LSt
  pend : Option E

inductive Ob where
  | cells (ro : Bool) (vs : List V)
  | map (es : List (V × V))
  | wmap (sh : KSh) (es : List (V × V))
  | loop (r : LRec)

/-- A tree of objects: the number's digits are the way. -/
inductive Tr where
  | lf
  | nd (v : Option Ob) (l r : Tr)

def Tr.get : Tr → Nat → Option Ob
  | .lf, _ => none
  | .nd v l r, n => cond (n == 0) v (cond (n % 2 == 1) (l.get (n / 2)) (r.get (n / 2 - 1)))

def Tr.setF : Nat → Tr → Nat → Option Ob → Tr
  | 0, t, _, _ => t
  | f + 1, .lf, n, o => cond (n == 0) (.nd o .lf .lf) (cond (n % 2 == 1) (.nd none (setF f .lf (n / 2) o) .lf) (.nd none .lf (setF f .lf (n / 2 - 1) o)))
  | f + 1, .nd v l r, n, o => cond (n == 0) (.nd o l r) (cond (n % 2 == 1) (.nd v (setF f l (n / 2) o) r) (.nd v l (setF f r (n / 2 - 1) o)))

theorem Tr.get_setF : ∀ (f : Nat) (t : Tr) (n k : Nat) (o : Option Ob), n < f → (t.setF f n o).get k = if k = n then o else t.get k
  | 0, _, _, _, _, h => by omega
  | f + 1, .lf, n, k, o, h => by
    simp only [Tr.setF]
    by_cases hn : n = 0
    · subst hn
      simp only [beq_self_eq_true, cond_true, Tr.get]
      by_cases hk : k = 0
      · simp [hk]
      · have h1 : (k == 0) = false := by simp [hk]
        simp [h1, hk, Tr.get]
    · have h0 : (n == 0) = false := by simp [hn]
      simp only [h0, cond_false]
      by_cases hp : n % 2 = 1
      · have h1 : (n % 2 == 1) = true := by simp [hp]
        simp only [h1, cond_true, Tr.get]
        by_cases hk : k = 0
        · subst hk; simp [show (0 : Nat) ≠ n from fun e => hn e.symm]
        · have h2 : (k == 0) = false := by simp [hk]
          simp only [h2, cond_false]
          by_cases hq : k % 2 = 1
          · have h3 : (k % 2 == 1) = true := by simp [hq]
            simp only [h3, cond_true]
            rw [Tr.get_setF f .lf (n / 2) (k / 2) o (by omega)]
            have : k / 2 = n / 2 ↔ k = n := by omega
            simp [this, Tr.get]
          · have h3 : (k % 2 == 1) = false := by simp; omega
            have : k ≠ n := fun e => hq (e ▸ hp)
            simp [h3, this, Tr.get]
      · have h1 : (n % 2 == 1) = false := by simp; omega
        simp only [h1, cond_false, Tr.get]
        by_cases hk : k = 0
        · subst hk; simp [show (0 : Nat) ≠ n from fun e => hn e.symm]
        · have h2 : (k == 0) = false := by simp [hk]
          simp only [h2, cond_false]
          by_cases hq : k % 2 = 1
          · have h3 : (k % 2 == 1) = true := by simp [hq]
            have : k ≠ n := fun e => hp (e ▸ hq)
            simp [h3, this, Tr.get]
          · have h3 : (k % 2 == 1) = false := by simp; omega
            simp only [h3, cond_false]
            rw [Tr.get_setF f .lf (n / 2 - 1) (k / 2 - 1) o (by omega)]
            have : k / 2 - 1 = n / 2 - 1 ↔ k = n := by omega
            simp [this, Tr.get]
  | f + 1, .nd v l r, n, k, o, h => by
    simp only [Tr.setF]
    by_cases hn : n = 0
    · subst hn
      simp only [beq_self_eq_true, cond_true, Tr.get]
      by_cases hk : k = 0
      · simp [hk]
      · have h1 : (k == 0) = false := by simp [hk]
        simp [h1, hk]
    · have h0 : (n == 0) = false := by simp [hn]
      simp only [h0, cond_false]
      by_cases hp : n % 2 = 1
      · have h1 : (n % 2 == 1) = true := by simp [hp]
        simp only [h1, cond_true, Tr.get]
        by_cases hk : k = 0
        · subst hk; simp [show (0 : Nat) ≠ n from fun e => hn e.symm]
        · have h2 : (k == 0) = false := by simp [hk]
          simp only [h2, cond_false]
          by_cases hq : k % 2 = 1
          · have h3 : (k % 2 == 1) = true := by simp [hq]
            simp only [h3, cond_true]
            rw [Tr.get_setF f l (n / 2) (k / 2) o (by omega)]
            have : k / 2 = n / 2 ↔ k = n := by omega
            simp [this]
          · have h3 : (k % 2 == 1) = false := by simp; omega
            have : k ≠ n := fun e => hq (e ▸ hp)
            simp [h3, this]
      · have h1 : (n % 2 == 1) = false := by simp; omega
        simp only [h1, cond_false, Tr.get]
        by_cases hk : k = 0
        · subst hk; simp [show (0 : Nat) ≠ n from fun e => hn e.symm]
        · have h2 : (k == 0) = false := by simp [hk]
          simp only [h2, cond_false]
          by_cases hq : k % 2 = 1
          · have h3 : (k % 2 == 1) = true := by simp [hq]
            have : k ≠ n := fun e => hp (e ▸ hq)
            simp [h3, this]
          · have h3 : (k % 2 == 1) = false := by simp; omega
            simp only [h3, cond_false]
            rw [Tr.get_setF f r (n / 2 - 1) (k / 2 - 1) o (by omega)]
            have : k / 2 - 1 = n / 2 - 1 ↔ k = n := by omega
            simp [this]

/-- The heap: what each number names, and the next free number. -/
structure H where
  tr : Tr
  next : Nat

def H.get (h : H) (i : Nat) : Option Ob := h.tr.get i
def H.set (h : H) (id : Nat) (o : Option Ob) : H := { h with tr := h.tr.setF (id + 1) id o }
def H.new (h : H) (o : Ob) : H := { tr := h.tr.setF (h.next + 1) h.next (some o), next := h.next + 1 }

theorem H.get_set (h : H) (id : Nat) (o : Option Ob) (k : Nat) : (h.set id o).get k = if k = id then o else h.get k := Tr.get_setF _ _ _ _ _ (Nat.lt_succ_self _)
theorem H.get_new (h : H) (o : Ob) (k : Nat) : (h.new o).get k = if k = h.next then some o else h.get k := Tr.get_setF _ _ _ _ _ (Nat.lt_succ_self _)
theorem H.next_set (h : H) (id : Nat) (o : Option Ob) : (h.set id o).next = h.next := rfl
theorem H.next_new (h : H) (o : Ob) : (h.new o).next = h.next + 1 := rfl
/-- A result of a function: a variable, or a cell of memory. -/
inductive Rv where
  | v (k : Nat)
  | cell (k : Nat) (agg : Bool) (n : Nat)
  deriving Repr, Inhabited

structure Fn where
  nargs : Nat
  init : List (Option Nat)
  results : List Rv
  body : C
  deriving Repr, Inhabited

/-! ### Evaluation -/

def xv (vars loc : List V) : X → V
  | .v k => vars.getD k .undef
  | .l k => loc.getD k .undef
  | .c x => x

def arith (op : BinOp) (k : IntKind) (a b : Int) : Option V :=
  match op with
  | .add => some (.int k (k.wrap (a + b)))
  | .sub => some (.int k (k.wrap (a - b)))
  | .mul => some (.int k (k.wrap (a * b)))
  | .quo => if b = 0 then none else some (.int k (k.wrap (a.tdiv b)))
  | .rem => if b = 0 then none else some (.int k (a.tmod b))
  | .eql => some (.bool (a == b))
  | .neq => some (.bool (a != b))
  | .lss => some (.bool (a < b))
  | .leq => some (.bool (a ≤ b))
  | .gtr => some (.bool (a > b))
  | .geq => some (.bool (a ≥ b))
  | .and => some (.int k (k.wrap (BitVec.ofInt k.bits a &&& BitVec.ofInt k.bits b).toNat))
  | .or => some (.int k (k.wrap (BitVec.ofInt k.bits a ||| BitVec.ofInt k.bits b).toNat))
  | .xor => some (.int k (k.wrap (BitVec.ofInt k.bits a ^^^ BitVec.ofInt k.bits b).toNat))
  | _ => none

def shft (op : BinOp) (k : IntKind) (a b : Int) : Option V :=
  if b < 0 then none else
  match op with
  | .shl => some (.int k (k.wrap (a * 2 ^ (min b.toNat k.bits))))
  | .shr => some (.int k (a.fdiv (2 ^ (min b.toNat k.bits))))
  | _ => none

/-- A row of a block: 'n' cells from 'off' on. -/
def sub (vs : List V) (off n : Nat) : Option (List V) :=
  if off + n ≤ vs.length then some ((vs.drop off).take n) else none

def putAt (vs : List V) (off : Nat) (ws : List V) : Option (List V) :=
  if off + ws.length ≤ vs.length then some (vs.take off ++ ws ++ vs.drop (off + ws.length)) else none

def H.row (h : H) (id off n : Nat) : Option (List V) :=
  match h.get id with
  | some (.cells _ vs) => sub vs off n
  | _ => none

def H.put (h : H) (id off : Nat) (ws : List V) : Option H :=
  match h.get id with
  | some (.cells false vs) => (putAt vs off ws).map fun vs' => h.set id (some (.cells false vs'))
  | _ => none

/-- The cells of a slice. -/
def H.slice (h : H) (sz : Nat) : V → Option (List V)
  | .nils => some []
  | .emp _ => some []
  | .sl id off len _ => h.row id off (len * sz)
  | _ => none

def lenV : V → Option Nat
  | .nils => some 0
  | .emp _ => some 0
  | .sl _ _ len _ => some len
  | _ => none

def ldV (h : H) (agg : Bool) (n : Nat) : V → Option V
  | .ptr id off =>
    match h.row id off n with
    | some vs => if agg then some (.agg vs) else match vs with | [v] => some v | _ => none
    | none => none
  | _ => none

def ixaV (sz : Nat) (x i : V) : Option V :=
  match x, i with
  | .sl id off len _, .int _ n => if 0 ≤ n ∧ n < len then some (.ptr id (off + n.toNat * sz)) else none
  | _, _ => none

/-- A slice expression's bound. -/
def bndV (x : Option V) (dflt top : Nat) : Option Nat :=
  match x with
  | none => some dflt
  | some (.int _ n) => if 0 ≤ n ∧ n ≤ top then some n.toNat else none
  | _ => none

def slcV (sz : Nat) (x : V) (lo hi mx : Option V) : Option V :=
  match x with
  | .nils =>
    match mx, bndV hi 0 0 with
    | none, some h => match bndV lo 0 h with | some _ => some .nils | none => none
    | _, _ => none
  | .sl id off len cap =>
    match mx with
    | some _ => none
    | none =>
      match bndV hi len (match cap with | .kn c => c | .un _ => len) with
      | none => none
      | some h =>
        match bndV lo 0 h with
        | none => none
        | some l =>
          match cap with
          | .kn c => if l ≤ c then some (.sl id (if c = l then off else off + l * sz) (h - l) (.kn (c - l))) else none
          | .un e => if e = sz then (if l < len then some (.sl id (off + l * sz) (h - l) (.un e)) else some (.sl id off 0 (.un e))) else none
  | _ => none

/-- Parts laid into a row. -/
def fillV (cells : List V) : List (Nat × Nat × V) → Option (List V)
  | [] => some cells
  | (off, n, v) :: rest =>
    if v.cells.length = n ∧ v.cells.all V.one then
      match putAt cells off v.cells with
      | some cs => fillV cs rest
      | none => none
    else none

/-- 'n' cells of zeros of elements whose zero value is 'zero'. -/
def zerosV (zero : List V) (n : Nat) : List V := (List.range n).map fun i => zero.getD (i % zero.length) .undef

def findV (k : IntKind) (n : Int) : List (V × V) → Option V
  | [] => none
  | (.int k' m, v) :: es => if k' = k then if n = m then some v else findV k n es else none
  | _ => none

/-- Are all keys integers of this kind? -/
def keysV (k : IntKind) : List (V × V) → Bool
  | [] => true
  | (.int k' _, _) :: es => k' == k && keysV k es
  | _ => false

def setV (k : IntKind) (n : Int) (y : V) : List (V × V) → List (V × V)
  | [] => [(.int k n, y)]
  | (.int k' m, v) :: es => if n = m then (.int k' m, y) :: es else (.int k' m, v) :: setV k n y es
  | e :: es => e :: setV k n y es

def mmV (max : Bool) : V → List V → Option V
  | x, [] => some x
  | .int k x, .int k' y :: r => if k = k' then mmV max (.int k (if max then (if y > x then y else x) else (if y < x then y else x))) r else none
  | _, _ => none

/-- 'append(x, ys...)', 'm' elements. -/
def appV (h : H) (sz bytes : Nat) (x : V) (m : Nat) (ys : List V) : Option (V × H) :=
  match lenV x, h.slice sz x with
  | some n, some xs =>
    if m = 0 then some (x, h) else
    if (2 * (n + m) + 1000) * bytes ≤ 2 ^ 48 ∧ n + m < 2 ^ 62 then
      match x with
      | .sl id off len (.kn c) =>
        if len + m ≤ c then
          match h.put id (off + len * sz) ys with
          | some h' => some (.sl id off (len + m) (.kn c), h')
          | none => none
        else some (.sl h.next 0 (n + m) (.un sz), h.new (.cells false (xs ++ ys)))
      | .sl id _ _ (.un e) =>
        match h.get id with
        | some (.cells false _) => if e = sz then some (.sl h.next 0 (n + m) (.un sz), (h.set id none).new (.cells false (xs ++ ys))) else none
        | _ => none
      | .emp _ => none
      | _ => some (.sl h.next 0 (n + m) (.un sz), h.new (.cells false (xs ++ ys)))
    else none
  | _, _ => none

def cpyV (h : H) (sz : Nat) (x y : V) : Option (V × H) :=
  match lenV x, lenV y with
  | some n, some m =>
    let k := min m n
    match x, y with
    | .sl id off _ _, .sl id' off' _ _ =>
      match h.row id' off' (k * sz) with
      | some ys => match h.put id off ys with
        | some h' => some (.int .i64 k, h')
        | none => none
      | none => none
    | _, _ => if k = 0 then some (.int .i64 0, h) else none
  | _, _ => none

def mksV (h : H) (sz bytes : Nat) (zero : List V) (l c : V) : Option (V × H) :=
  match l, c with
  | .int _ l, .int _ c =>
    if 0 ≤ l ∧ l ≤ c ∧ c * bytes ≤ 2 ^ 48 ∧ c < 2 ^ 62 then
      some (.sl h.next 0 l.toNat (.kn c.toNat), h.new (.cells false (zerosV zero (c.toNat * sz))))
    else none
  | _, _ => none

mutual
/-- Are they surely the same? -/
def eqV : V → V → Bool
  | .int k a, .int j b => k == j && a == b
  | .bool a, .bool b => a == b
  | .ptr i o, .ptr j p => i == j && o == p
  | .nilp, .nilp => true
  | .sl i o l c, .sl j p n d => i == j && o == p && l == n && decide (c = d)
  | .nils, .nils => true
  | .emp a, .emp b => decide (a = b)
  | .str a, .str b => a == b
  | .ifc a x, .ifc b y => a == b && eqV x y
  | .mp i, .mp j => i == j
  | .nilm, .nilm => true
  | .fn f a b, .fn g c d => f == g && eqVs a c && eqVs b d
  | .yl i, .yl j => i == j
  | .nilf, .nilf => true
  | .agg a, .agg b => eqVs a b
  | .tup a, .tup b => eqVs a b
  | _, _ => false
def eqVs : List V → List V → Bool
  | [], [] => true
  | a :: as, b :: bs => eqV a b && eqVs as bs
  | _, _ => false
end

def isIntV : V → Bool
  | .int .. => true
  | _ => false
def optInt : Option V → Bool
  | none => true
  | some v => isIntV v
/-- An element of an array behind a pointer. -/
def ixdV (n sz : Nat) (x i : V) : Option V :=
  match x, i with
  | .ptr id off, .int _ z => if 0 ≤ z ∧ z < (n : Int) then some (.ptr id (off + z.toNat * sz)) else none
  | _, _ => none
/-- Bytes. -/
def bytesV : List V → Option (List Nat)
  | [] => some []
  | .int .u8 n :: r => if 0 ≤ n ∧ n < 256 then (bytesV r).map (n.toNat :: ·) else none
  | _ => none
def cvsV (h : H) (x : V) : Option V :=
  match x with
  | .nils => some (.str [])
  | .sl id off len _ => match h.row id off len with
    | some ys => (bytesV ys).map V.str
    | none => none
  | _ => none
/-- A wide key of the shape. -/
def isKey : KSh → V → Bool
  | .str, .str l => decide (l.length < 2 ^ 62) && l.all (fun n => decide (n < 256))
  | .arr n k, .agg vs => decide (vs.length = n) && vs.all (fun | .int j a => decide (j = k) && (decide (k.min ≤ a) && decide (a ≤ k.max)) | _ => false)
  | _, _ => false
/-- The place and the value of a wide key. -/
def findW (k : V) : List (V × V) → Option (Nat × V)
  | [] => none
  | e :: es => if eqV k e.1 then some (0, e.2) else (findW k es).map fun q => (q.1 + 1, q.2)

/-- One operation. -/
def evI (ρ : X → V) (h : H) : I → Option (V × H)
  | .mov x => some (ρ x, h)
  | .pick c a b => match ρ c with | .bool t => some (if t then ρ a else ρ b, h) | _ => none
  | .bin op k x y => match ρ x, ρ y with
    | .int j a, .int j' b => if j = k ∧ j' = k then (arith op k a b).map (·, h) else none
    | _, _ => none
  | .shf op k x y => match ρ x, ρ y with
    | .int j a, .int _ b => if j = k then (shft op k a b).map (·, h) else none
    | _, _ => none
  | .beq neg x y => match ρ x, ρ y with
    | .bool a, .bool b => some (.bool (if neg then !(a == b) else a == b), h)
    | _, _ => none
  | .snil neg x => match ρ x with
    | .nils => some (.bool (!neg), h)
    | .sl .. | .emp _ => some (.bool neg, h)
    | _ => none
  | .not x => match ρ x with | .bool a => some (.bool (!a), h) | _ => none
  | .neg k x => match ρ x with | .int j a => if j = k then some (.int k (k.wrap (0 - a)), h) else none | _ => none
  | .conv k x => match ρ x with | .int _ a => some (.int k (k.wrap a), h) | _ => none
  | .part agg off n x => match ρ x with
    | .agg vs => if agg then (sub vs off n).map (fun ws => (.agg ws, h)) else (vs[off]?).map (·, h)
    | _ => none
  | .ext x i => match ρ x with | .tup vs => (vs[i]?).map (·, h) | _ => none
  | .lens x => (lenV (ρ x)).map fun (n : Nat) => (V.int .i64 (n : Int), h)
  | .caps x => match ρ x with
    | .nils => some (.int .i64 0, h)
    | .sl _ _ _ (.kn c) => if c < 2 ^ 62 then some (.int .i64 c, h) else none
    | _ => none
  | .lenm x => match ρ x with
    | .nilm => some (.int .i64 0, h)
    | .mp id => match h.get id with | some (.map es) => some (.int .i64 es.length, h) | _ => none
    | _ => none
  | .mm max xs => match xs.map ρ with | [] => none | x :: r => (mmV max x r).map (·, h)
  | .ld agg n x => (ldV h agg n (ρ x)).map (·, h)
  | .st n x y => match ρ x with
    | .ptr id off => if (ρ y).cells.length = n ∧ (ρ y).cells.all V.one then (h.put id off (ρ y).cells).map (fun h' => (V.undef, h')) else none
    | _ => none
  | .ixa sz x i => (ixaV sz (ρ x) (ρ i)).map (·, h)
  | .fla off x => match ρ x with | .ptr id o => some (.ptr id (o + off), h) | _ => none
  | .slc sz x lo hi mx => (slcV sz (ρ x) (lo.map ρ) (hi.map ρ) (mx.map ρ)).map (·, h)
  | .mks sz bytes zero l c => mksV h sz bytes zero (ρ l) (ρ c)
  | .alc zero => some (.ptr h.next 0, h.new (.cells false zero))
  | .box x => if (ρ x).cells.all V.one then some (.ptr h.next 0, h.new (.cells false (ρ x).cells)) else none
  | .bld zero parts => (fillV zero (parts.map fun p => (p.1, p.2.1, ρ p.2.2))).map fun cs => (.agg cs, h)
  | .bls sz zero n parts => match fillV (zerosV zero (n * sz)) (parts.map fun p => (p.1, p.2.1, ρ p.2.2)) with
    | some cs => if cs.all V.one then some (.sl h.next 0 n (.kn n), h.new (.cells false cs)) else none
    | none => none
  | .app sz bytes x y => match lenV (ρ y), h.slice sz (ρ y) with
    | some m, some ys => appV h sz bytes (ρ x) m ys
    | _, _ => none
  | .apz sz bytes zero x n => match ρ n with
    | .int .i64 n => if 0 ≤ n ∧ n * bytes ≤ 2 ^ 48 ∧ n < 2 ^ 62 ∧ zero.length = sz then appV h sz bytes (ρ x) n.toNat (zerosV zero (n.toNat * sz)) else none
    | _ => none
  | .cpy sz x y => cpyV h sz (ρ x) (ρ y)
  | .mkf f fs cs => some (.fn f (fs.map ρ) (cs.map ρ), h)
  | .mkm => some (.mp h.next, h.new (.map []))
  | .lkp zero ok x k => match ρ x, ρ k with
    | .mp id, .int kk n => match h.get id with
      | some (.map es) => if keysV kk es then
          match findV kk n es with
          | some v => some (if ok then .tup [v, .bool true] else v, h)
          | none => some (if ok then .tup [zero, .bool false] else zero, h)
        else none
      | _ => none
    | _, _ => none
  | .mset x k y => match ρ x, ρ k with
    | .mp id, .int kk n => match h.get id with
      | some (.map es) => if keysV kk es then some (V.undef, h.set id (some (.map (setV kk n (ρ y) es)))) else none
      | _ => none
    | _, _ => none
  | .nck x => match ρ x with | .ptr id off => some (.ptr id off, h) | _ => none
  | .ixd n sz x i => (ixdV n sz (ρ x) (ρ i)).map (·, h)
  | .cvs x => (cvsV h (ρ x)).map (·, h)
  | .mif t x => some (.ifc t (ρ x), h)
  | .mkw sh r => if optInt (r.map ρ) = true then some (.mp h.next, h.new (.wmap sh [])) else none
  | .lkw s zero ok x k => match ρ x with
    | .mp id => match h.get id with
      | some (.wmap sh es) => if s = sh ∧ isKey s (ρ k) = true then
          match findW (ρ k) es with
          | some e => some (if ok then .tup [e.2, .bool true] else e.2, h)
          | none => some (if ok then .tup [zero, .bool false] else zero, h)
        else none
      | _ => none
    | _ => none
  | .msw s x k y => match ρ x with
    | .mp id => match h.get id with
      | some (.wmap sh es) => if s = sh ∧ isKey s (ρ k) = true then
          some (V.undef, h.set id (some (.wmap sh (match findW (ρ k) es with
            | some e => es.set e.1 (ρ k, ρ y)
            | none => es ++ [(ρ k, ρ y)]))))
        else none
      | _ => none
    | _ => none
  | .ent s zero x k => match ρ x with
    | .mp id => match h.get id with
      | some (.wmap sh es) => if s = sh ∧ isKey s (ρ k) = true then
          match findW (ρ k) es with
          | some e => some (.tup [e.2, .int .i64 (e.1 : Nat)], h)
          | none => some (.tup [zero, .int .i64 es.length], h.set id (some (.wmap sh (es ++ [(ρ k, zero)]))))
        else none
      | _ => none
    | _ => none
  | .ens x s y => match ρ x, ρ s with
    | .mp id, .int .i64 n => match h.get id with
      | some (.wmap sh es) => if 0 ≤ n then
          match es[n.toNat]? with
          | some e => some (V.undef, h.set id (some (.wmap sh (es.set n.toNat (e.1, ρ y)))))
          | none => none
        else none
      | _ => none
    | _, _ => none
  | .six x i => match ρ x, ρ i with
    | .str l, .int _ z => if 0 ≤ z then (l[z.toNat]?).map (fun (c : Nat) => (V.int .u8 ((c % 256 : Nat) : Int), h)) else none
    | _, _ => none
  | .fail => none


def putV (d : D) (vars loc : List V) (v : V) : List V × List V :=
  match d with
  | .v k => (vars.set k v, loc)
  | .l => (vars, v :: loc)
  | .n => (vars, loc)

/-- The results of a function. -/
def resV (vars : List V) (h : H) : Rv → Option V
  | .v k => some (vars.getD k .undef)
  | .cell k agg n => ldV h agg n (vars.getD k .undef)

def tupV : List V → V
  | [v] => v
  | vs => .tup vs

def allSome {α : Type} : List (Option α) → Option (List α)
  | [] => some []
  | none :: _ => none
  | some a :: r => (allSome r).map (a :: ·)

/-- Is the item wanted? -/
def wantedV (vars loc : List V) : Option (X × Bool) → Option Bool
  | none => some true
  | some (x, b) => match xv vars loc x with | .bool a => some (a == b) | .tup [] => some false | _ => none

/-- A read of the heap. -/
def I.isRd : I → Bool
  | .ld .. | .lenm _ | .lkp .. | .cvs _ | .lkw .. => true
  | _ => false
/-- It makes an object, and that is all that it does to the heap. -/
def I.isAl : I → Bool
  | .mks .. | .alc _ | .box _ | .bls .. | .mkm | .mkw .. => true
  | _ => false
/-- It turns the heap. -/
def I.isW : I → Bool
  | .st .. | .app .. | .apz .. | .cpy .. | .mset .. | .msw .. | .ent .. | .ens .. => true
  | _ => false
def Act1.isRd : Act1 → Bool
  | .op i => i.isRd
  | _ => false
def Act1.isAl : Act1 → Bool
  | .op i => i.isAl
  | _ => false
def Act1.isW : Act1 → Bool
  | .op i => i.isW
  | .callp .. => false
  | _ => true

/-- A read, its operands filled in. -/
def I.close (ρ : X → V) : I → I
  | .ld a n x => .ld a n (.c (ρ x))
  | .lenm x => .lenm (.c (ρ x))
  | .lkp z ok x k => .lkp z ok (.c (ρ x)) (.c (ρ k))
  | .cvs x => .cvs (.c (ρ x))
  | .lkw s z ok x k => .lkw s z ok (.c (ρ x)) (.c (ρ k))
  | i => i

/-- The reads so far: number, read, what it gave. -/
abbrev Log := List (Nat × I × V)

def okLog (cks : List Nat) (log : Log) (h : H) : Bool :=
  log.all fun e => !cks.contains e.1 || (match evI (xv [] []) h e.2.1 with | some (v, _) => eqV v e.2.2 | none => false)

def logV (x : AI) (vars : List V) (v : V) (log : Log) : Log :=
  match x.it.a with
  | .op i => if i.isRd then (x.i, i.close (xv vars []), v) :: log else log
  | _ => log

/-- An operation that makes its object at the number 'n'. -/
def evAt (vars : List V) (h : H) (n : Nat) : Act1 → Option (V × H)
  | .op i => match evI (xv vars []) { h with next := n } i with
    | some (v, h') => some (v, { h' with next := h.next })
    | none => none
  | _ => none

def initV (fn : Fn) (args : List V) : List V := fn.init.map fun o => match o with | some j => args.getD j .undef | none => .undef

/-- No range over a function, no deferred call. -/
def C.nor : C → Bool
  | .seq a b | .ite _ a b => a.nor && b.nor
  | .block _ c | .loop c | .scope c => c.nor
  | .range .. | .regd .. => false
  | _ => true

/-- In a round, the loop's record is there. -/
def rdOk (rd : Option Nat) (h : H) : Bool :=
  match rd with
  | none => true
  | some id => match h.get id with
    | some (.loop _) => true
    | _ => false

/-- Deferred calls, the newest first. -/
abbrev Dfs := List (Nat × List V)

/-! ### Fast ways for the kernel -/

noncomputable section

def nth (l : List V) : Nat → V := List.rec (fun _ => V.undef) (fun v _ ih k => Nat.rec v (fun k _ => ih k) k) l
def setL (l : List V) : Nat → V → List V := List.rec (fun _ _ => []) (fun u us ih k v => Nat.rec (v :: us) (fun k _ => u :: ih k v) k) l
def xvX (vars loc : List V) (x : X) : V := X.rec (nth vars) (nth loc) (fun v => v) x

theorem nth_eq : ∀ (l : List V) (k : Nat), nth l k = l.getD k .undef
  | [], k => by simp [nth]
  | v :: l, 0 => rfl
  | v :: l, k + 1 => by
    have := nth_eq l k
    show nth l k = _
    rw [this]; simp [List.getD]

theorem setL_eq : ∀ (l : List V) (k : Nat) (v : V), setL l k v = l.set k v
  | [], k, v => by simp [setL]
  | u :: l, 0, v => rfl
  | u :: l, k + 1, v => by
    have := setL_eq l k v
    show u :: setL l k v = _
    rw [this]; rfl

theorem xvX_eq (vars loc : List V) : xvX vars loc = xv vars loc := by
  funext x
  cases x with
  | v k => exact nth_eq vars k
  | l k => exact nth_eq loc k
  | c v => rfl

def consO (v : V) (o : Option (List V)) : Option (List V) := Option.rec none (fun r => some (v :: r)) o
theorem consO_some (v : V) (r : List V) : consO v (some r) = some (v :: r) := rfl
theorem consO_none (v : V) : consO v none = none := rfl
/-- The rest behind 'n', if there are so many. -/
def dropX (n : Nat) : List V → Option (List V) := Nat.rec (fun l => some l) (fun _ ih l => List.rec none (fun _ t _ => ih t) l) n
/-- The first 'n', if there are so many. -/
def takeX (n : Nat) : List V → Option (List V) := Nat.rec (fun _ => some []) (fun _ ih l => List.rec none (fun v t _ => consO v (ih t)) l) n
def subX (vs : List V) (off n : Nat) : Option (List V) := Option.rec none (fun t => takeX n t) (dropX off vs)
/-- Laid over the first ones. -/
def overX (ws : List V) : List V → Option (List V) := List.rec (fun l => some l) (fun w _ ih l => List.rec none (fun _ t _ => consO w (ih t)) l) ws
def putX (off : Nat) (ws : List V) : List V → Option (List V) := Nat.rec (fun l => overX ws l) (fun _ ih l => List.rec none (fun v t _ => consO v (ih t)) l) off

theorem takeX_eq : ∀ (n : Nat) (l : List V), takeX n l = if n ≤ l.length then some (l.take n) else none
  | 0, l => by show some [] = _; simp
  | n + 1, [] => by simp [takeX]
  | n + 1, v :: t => by
    have ih := takeX_eq n t
    show consO v (takeX n t) = _
    rw [ih]
    by_cases h : n ≤ t.length <;> simp [h, consO_some, consO_none]

theorem dropX_eq : ∀ (n : Nat) (l : List V), dropX n l = if n ≤ l.length then some (l.drop n) else none
  | 0, l => by show some l = _; simp
  | n + 1, [] => by simp [dropX]
  | n + 1, v :: t => by
    have ih := dropX_eq n t
    show dropX n t = _
    rw [ih]
    by_cases h : n ≤ t.length <;> simp [h, consO_some, consO_none]

theorem subX_eq (vs : List V) (off n : Nat) : subX vs off n = sub vs off n := by
  unfold subX sub
  rw [dropX_eq]
  by_cases h : off ≤ vs.length
  · simp only [h, if_true, takeX_eq, List.length_drop]
    by_cases h2 : off + n ≤ vs.length
    · rw [if_pos h2, if_pos (by omega)]
    · rw [if_neg h2, if_neg (by omega)]
  · simp only [h, if_false]
    rw [if_neg (by omega)]

theorem overX_eq : ∀ (ws l : List V), overX ws l = if ws.length ≤ l.length then some (ws ++ l.drop ws.length) else none
  | [], l => by simp [overX]
  | w :: ws, [] => by simp [overX]
  | w :: ws, v :: t => by
    have ih := overX_eq ws t
    show consO w (overX ws t) = _
    rw [ih]
    by_cases h : ws.length ≤ t.length <;> simp [h, consO_some, consO_none]

theorem putX_eq : ∀ (off : Nat) (ws l : List V), putX off ws l = putAt l off ws
  | 0, ws, l => by
    show overX ws l = _
    rw [overX_eq]; simp [putAt]
  | off + 1, ws, [] => by
    have : ¬ (off + 1 + ws.length ≤ 0) := by omega
    simp [putX, putAt, this]
  | off + 1, ws, v :: t => by
    have ih := putX_eq off ws t
    show consO v (putX off ws t) = _
    rw [ih]
    unfold putAt
    by_cases h : off + ws.length ≤ t.length
    · rw [if_pos h, if_pos (by simp; omega)]
      simp [consO_some, show off + 1 + ws.length = (off + ws.length) + 1 from by omega]
    · rw [if_neg h, if_neg (by simp; omega)]; rfl

theorem beqN (a b : Nat) : Nat.beq a b = (a == b) := by rw [Bool.eq_iff_iff, Nat.beq_eq]; simp

def Tr.getX (t : Tr) : Nat → Option Ob := Tr.rec (fun _ => none) (fun v _ _ ihl ihr n => cond (Nat.beq n 0) v (cond (Nat.beq (n % 2) 1) (ihl (n / 2)) (ihr (n / 2 - 1)))) t
theorem Tr.getX_eq : ∀ (t : Tr) (n : Nat), t.getX n = t.get n
  | .lf, n => rfl
  | .nd v l r, n => by
    show cond (Nat.beq n 0) v (cond (Nat.beq (n % 2) 1) (l.getX (n / 2)) (r.getX (n / 2 - 1))) = _
    rw [Tr.getX_eq l, Tr.getX_eq r, beqN, beqN]; rfl

def Tr.setX (f : Nat) : Tr → Nat → Option Ob → Tr :=
  Nat.rec (fun t _ _ => t) (fun _ ih t n o => Tr.rec
    (cond (Nat.beq n 0) (.nd o .lf .lf) (cond (Nat.beq (n % 2) 1) (.nd none (ih .lf (n / 2) o) .lf) (.nd none .lf (ih .lf (n / 2 - 1) o))))
    (fun v l r _ _ => cond (Nat.beq n 0) (.nd o l r) (cond (Nat.beq (n % 2) 1) (.nd v (ih l (n / 2) o) r) (.nd v l (ih r (n / 2 - 1) o)))) t) f
theorem Tr.setX_eq : ∀ (f : Nat) (t : Tr) (n : Nat) (o : Option Ob), t.setF f n o = Tr.setX f t n o
  | 0, t, n, o => by cases t <;> rfl
  | f + 1, .lf, n, o => by
    show _ = cond (Nat.beq n 0) (Tr.nd o .lf .lf) (cond (Nat.beq (n % 2) 1) (.nd none (Tr.setX f .lf (n / 2) o) .lf) (.nd none .lf (Tr.setX f .lf (n / 2 - 1) o)))
    rw [← Tr.setX_eq f, ← Tr.setX_eq f, beqN, beqN]; rfl
  | f + 1, .nd v l r, n, o => by
    show _ = cond (Nat.beq n 0) (Tr.nd o l r) (cond (Nat.beq (n % 2) 1) (.nd v (Tr.setX f l (n / 2) o) r) (.nd v l (Tr.setX f r (n / 2 - 1) o)))
    rw [← Tr.setX_eq f, ← Tr.setX_eq f, beqN, beqN]; rfl

def H.getX (h : H) (i : Nat) : Option Ob := h.tr.getX i
theorem H.getX_eq (h : H) (i : Nat) : h.getX i = h.get i := Tr.getX_eq _ _
def H.setX (h : H) (id : Nat) (o : Option Ob) : H := H.rec (fun t n => ⟨Tr.setX (id + 1) t id o, n⟩) h
theorem H.setX_eq (h : H) (id : Nat) (o : Option Ob) : h.setX id o = h.set id o := by
  cases h; show H.mk _ _ = _; rw [← Tr.setX_eq]; rfl

theorem wrap_i64 {n : Int} (h1 : -9223372036854775808 ≤ n) (h2 : n < 9223372036854775808) : IntKind.i64.wrap n = n := by
  unfold IntKind.wrap
  simp only [IntKind.bits, IntKind.signed]
  by_cases h : 0 ≤ n
  · have : n % 2 ^ 64 = n := Int.emod_eq_of_lt h (by omega)
    simp only [this]
    rw [if_neg]
    simp; omega
  · have : n % 2 ^ 64 = n + 2 ^ 64 := by
      rw [← Int.add_emod_right]
      exact Int.emod_eq_of_lt (by omega) (by omega)
    simp only [this]
    rw [if_pos]
    · omega
    · simp; omega

def inI64 (n : Int) : Bool := Int.rec (fun a => Nat.blt a 9223372036854775808) (fun a => Nat.blt a 9223372036854775808) n
theorem inI64_spec {n : Int} (h : inI64 n = true) : -9223372036854775808 ≤ n ∧ n < 9223372036854775808 := by
  cases n with
  | ofNat a =>
    have h2 := (Nat.blt_eq (x := a) (y := 9223372036854775808)).mp h
    have h3 : Int.ofNat a = (a : Int) := rfl
    rw [h3]; omega
  | negSucc a =>
    have h2 := (Nat.blt_eq (x := a) (y := 9223372036854775808)).mp h
    have h3 := Int.negSucc_eq a
    rw [h3]; omega
def wrapX (k : IntKind) (n : Int) : Int :=
  match k with
  | .i64 => cond (inI64 n) n (IntKind.i64.wrap n)
  | k => k.wrap n
theorem wrapX_eq (k : IntKind) (n : Int) : wrapX k n = k.wrap n := by
  cases k <;> try rfl
  simp only [wrapX]
  cases h : inI64 n with
  | false => rfl
  | true => rw [wrap_i64 (inI64_spec h).1 (inI64_spec h).2]; rfl

def iltX (a b : Int) : Bool := Int.rec (fun a => Int.rec (fun b => Nat.blt a b) (fun _ => false) b) (fun a => Int.rec (fun _ => true) (fun b => Nat.blt b a) b) a
theorem iltX_eq (a b : Int) : iltX a b = decide (a < b) := by
  cases a with
  | ofNat a => cases b with
    | ofNat b => show Nat.blt a b = _; rw [Bool.eq_iff_iff, Nat.blt_eq]; simp
    | negSucc b => show false = _; simp; omega
  | negSucc a => cases b with
    | ofNat b => show true = _; simp; omega
    | negSucc b => show Nat.blt b a = _; rw [Bool.eq_iff_iff, Nat.blt_eq]; simp; omega
def ieqX (a b : Int) : Bool := Int.rec (fun a => Int.rec (fun b => Nat.beq a b) (fun _ => false) b) (fun a => Int.rec (fun _ => false) (fun b => Nat.beq a b) b) a
theorem ieqX_eq (a b : Int) : ieqX a b = (a == b) := by
  cases a with
  | ofNat a => cases b with
    | ofNat b => show Nat.beq a b = _; rw [Bool.eq_iff_iff, Nat.beq_eq]; simp; omega
    | negSucc b => show false = _; symm; simp
  | negSucc a => cases b with
    | ofNat b => show false = _; symm; simp
    | negSucc b => show Nat.beq a b = _; rw [Bool.eq_iff_iff, Nat.beq_eq]; simp

def arithX (op : BinOp) (k : IntKind) (a b : Int) : Option V :=
  match op with
  | .add => some (.int k (wrapX k (a + b)))
  | .sub => some (.int k (wrapX k (a - b)))
  | .mul => some (.int k (wrapX k (a * b)))
  | .eql => some (.bool (ieqX a b))
  | .neq => some (.bool (!ieqX a b))
  | .lss => some (.bool (iltX a b))
  | .leq => some (.bool (!iltX b a))
  | .gtr => some (.bool (iltX b a))
  | .geq => some (.bool (!iltX a b))
  | op => arith op k a b
theorem arithX_eq (op : BinOp) (k : IntKind) (a b : Int) : arithX op k a b = arith op k a b := by
  cases op <;> simp only [arithX, arith, wrapX_eq, ieqX_eq, iltX_eq]
  · simp [bne]
  · congr 2; rw [Bool.eq_iff_iff]; simp
  · congr 2; rw [Bool.eq_iff_iff]; simp

end


end Go.Ay

