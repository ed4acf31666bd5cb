/- Rules for walking through the abstract machine's code. -/
import Derived.Test.YtddpkbicnolafaaGreatAy23
import Derived.Attr
namespace Go.Ay

def find : List (Nat × Fn) → Nat → Option Fn
  | [], _ => none
  | (k, f) :: l, n => cond (Nat.beq k n) (some f) (find l n)

attribute [congr] onSome_congr Ev_congr Ey_congr EvA_congr WpI_congr WpA_congr Wp_congr iteW_congr caseW_congr caseA_congr callP_congr rangeP_congr

/-! ### The heap -/
def H.cell (h : H) (id off : Nat) : Option V := match h.get id with
  | some (.cells _ vs) => vs[off]?
  | _ => none

section
variable (h : H)
theorem H.cell_of {h : H} {id : Nat} {ro : Bool} {vs : List V} (hg : h.get id = some (.cells ro vs)) (off : Nat) : h.cell id off = vs[off]? := by
  unfold H.cell; rw [hg]
theorem H.get_set_same (id : Nat) (o : Option Ob) : (h.set id o).get id = o := by rw [H.get_set, if_pos rfl]
theorem H.get_set_ne {id k : Nat} (hk : k ≠ id) (o : Option Ob) : (h.set id o).get k = h.get k := by rw [H.get_set, if_neg hk]
theorem H.get_new_same (o : Ob) : (h.new o).get h.next = some o := by rw [H.get_new, if_pos rfl]
theorem H.get_new_ne {k : Nat} (hk : k ≠ h.next) (o : Ob) : (h.new o).get k = h.get k := by rw [H.get_new, if_neg hk]
theorem H.get_next' (n k : Nat) : (H.mk h.tr n).get k = h.get k := rfl
theorem H.cell_next (n k off : Nat) : (H.mk h.tr n).cell k off = h.cell k off := rfl
theorem H.cell_set_same (id : Nat) (ro : Bool) (vs : List V) (off : Nat) : (h.set id (some (.cells ro vs))).cell id off = vs[off]? := H.cell_of (H.get_set_same ..) off
theorem H.cell_set_ne {id k : Nat} (hk : k ≠ id) (o : Option Ob) (off : Nat) : (h.set id o).cell k off = h.cell k off := by unfold H.cell; rw [H.get_set_ne h hk]
theorem H.cell_new_same (ro : Bool) (vs : List V) (off : Nat) : (h.new (.cells ro vs)).cell h.next off = vs[off]? := H.cell_of (H.get_new_same ..) off
theorem H.cell_new_ne {k : Nat} (hk : k ≠ h.next) (o : Ob) (off : Nat) : (h.new o).cell k off = h.cell k off := by unfold H.cell; rw [H.get_new_ne h hk]
end

/-- What the one has, the other has. -/
structure Fr (h h' : H) : Prop where
  next : h.next ≤ h'.next
  get : ∀ id, id < h.next → h'.get id = h.get id
theorem Fr.refl (h : H) : Fr h h := ⟨Nat.le_refl _, fun _ _ => rfl⟩
theorem Fr.trans {a b c : H} (x : Fr a b) (y : Fr b c) : Fr a c := ⟨Nat.le_trans x.next y.next, fun id hid => (y.get id (Nat.lt_of_lt_of_le hid x.next)).trans (x.get id hid)⟩
theorem Fr.new {a b : H} (x : Fr a b) (o : Ob) : Fr a (b.new o) := x.trans ⟨by rw [H.next_new]; omega, fun id hid => H.get_new_ne b (by omega) o⟩
theorem Fr.set {a b : H} (x : Fr a b) {id : Nat} (hid : a.next ≤ id) (o : Option Ob) : Fr a (b.set id o) := ⟨x.next, fun k hk => (H.get_set_ne b (by omega) o).trans (x.get k hk)⟩
theorem Fr.bump {a b : H} (x : Fr a b) {n : Nat} (hn : b.next ≤ n) : Fr a (H.mk b.tr n) := ⟨Nat.le_trans x.next hn, fun k hk => (H.get_next' b n k).trans (x.get k hk)⟩
theorem Fr.cell {a b : H} (x : Fr a b) {id : Nat} (hid : id < a.next) (off : Nat) : b.cell id off = a.cell id off := by unfold H.cell; rw [x.get id hid]

/-! ### Operations, by their operands' values -/
def binV (op : BinOp) (k : IntKind) (x y : V) : Option V := match x, y with
  | .int j a, .int j' b => if j = k ∧ j' = k then arith op k a b else none
  | _, _ => none
theorem binV_int (op : BinOp) (k : IntKind) (a b : Int) : binV op k (.int k a) (.int k b) = arith op k a b := by simp [binV]
def notV : V → Option V
  | .bool a => some (.bool (!a))
  | _ => none
theorem notV_bool (a : Bool) : notV (.bool a) = some (.bool (!a)) := rfl
def pickV (c a b : V) : Option V := match c with
  | .bool t => some (if t then a else b)
  | _ => none
theorem pickV_bool (t : Bool) (a b : V) : pickV (.bool t) a b = some (if t then a else b) := rfl
def snilV (neg : Bool) : V → Option V
  | .nils => some (.bool (!neg))
  | .sl .. | .emp _ => some (.bool neg)
  | _ => none
theorem snilV_nils (neg : Bool) : snilV neg .nils = some (.bool (!neg)) := rfl
theorem snilV_emp (neg : Bool) (a : Addr) : snilV neg (.emp a) = some (.bool neg) := rfl
theorem snilV_sl (neg : Bool) (a b c : Nat) (d : Cap) : snilV neg (.sl a b c d) = some (.bool neg) := rfl
def beqV (neg : Bool) (x y : V) : Option V := match x, y with
  | .bool a, .bool b => some (.bool (if neg then !(a == b) else a == b))
  | _, _ => none
theorem beqV_f (a b : Bool) : beqV false (.bool a) (.bool b) = some (.bool (a == b)) := rfl
theorem beqV_t (a b : Bool) : beqV true (.bool a) (.bool b) = some (.bool (!(a == b))) := rfl
def negV (k : IntKind) : V → Option V
  | .int j a => if j = k then some (.int k (k.wrap (0 - a))) else none
  | _ => none
theorem negV_int (k : IntKind) (a : Int) : negV k (.int k a) = some (.int k (k.wrap (0 - a))) := by simp [negV]
def convV (k : IntKind) : V → Option V
  | .int _ a => some (.int k (k.wrap a))
  | _ => none
theorem convV_int (k j : IntKind) (a : Int) : convV k (.int j a) = some (.int k (k.wrap a)) := rfl
def extV (i : Nat) : V → Option V
  | .tup vs => vs[i]?
  | _ => none
theorem extV_tup (i : Nat) (vs : List V) : extV i (.tup vs) = vs[i]? := rfl
def lensV (v : V) : Option V := (lenV v).map fun (n : Nat) => V.int .i64 (n : Int)
theorem lensV_nils : lensV .nils = some (.int .i64 0) := rfl
theorem lensV_sl (a b c : Nat) (d : Cap) : lensV (.sl a b c d) = some (.int .i64 (c : Int)) := rfl
def partV (agg : Bool) (off n : Nat) : V → Option V
  | .agg vs => if agg then (sub vs off n).map (fun ws => .agg ws) else vs[off]?
  | _ => none
theorem partV_one (off n : Nat) (vs : List V) : partV false off n (.agg vs) = vs[off]? := rfl
theorem partV_agg (off n : Nat) (vs : List V) : partV true off n (.agg vs) = (sub vs off n).map (fun ws => .agg ws) := rfl
def flaV (off : Nat) : V → Option V
  | .ptr id o => some (.ptr id (o + off))
  | _ => none
theorem flaV_ptr (off id o : Nat) : flaV off (.ptr id o) = some (.ptr id (o + off)) := rfl
def nckV : V → Option V
  | .ptr id o => some (.ptr id o)
  | _ => none
theorem nckV_ptr (id o : Nat) : nckV (.ptr id o) = some (.ptr id o) := rfl
def cellV (h : H) : V → Option V
  | .ptr id off => h.cell id off
  | _ => none
theorem cellV_ptr (h : H) (id off : Nat) : cellV h (.ptr id off) = h.cell id off := rfl
def rowV (h : H) (n : Nat) : V → Option V
  | .ptr id off => (h.row id off n).map .agg
  | _ => none
theorem rowV_ptr (h : H) (id off n : Nat) : rowV h n (.ptr id off) = (h.row id off n).map .agg := rfl
def stV (h : H) (n : Nat) (x y : V) : Option H := match x with
  | .ptr id off => if y.cells.length = n ∧ y.cells.all V.one then h.put id off y.cells else none
  | _ => none
def putO (o : Option Ob) (h : H) (id off : Nat) (ws : List V) : Option H := match o with
  | some (.cells false vs) => (putAt vs off ws).map fun vs' => h.set id (some (.cells false vs'))
  | _ => none
theorem H.put_eq (h : H) (id off : Nat) (ws : List V) : h.put id off ws = putO (h.get id) h id off ws := by
  unfold H.put putO
  cases h.get id with
  | none => rfl
  | some o => cases o with
    | cells ro vs => cases ro <;> rfl
    | _ => rfl
theorem putO_congr {o o' : Option Ob} {h : H} {id off : Nat} {ws : List V} (e : o = o') : putO o h id off ws = putO o' h id off ws := by rw [e]
theorem putAt_one {vs : List V} {off : Nat} (hlt : off < vs.length) (v : V) : putAt vs off [v] = some (vs.set off v) := by
  unfold putAt
  rw [if_pos (by simp; omega)]
  congr 1
  rw [List.set_eq_take_append_cons_drop, if_pos hlt]
  simp
theorem putO_one {vs : List V} {off : Nat} (hlt : off < vs.length) (h : H) (id : Nat) (v : V) : putO (some (.cells false vs)) h id off [v] = some (h.set id (some (.cells false (vs.set off v)))) := by
  simp only [putO]; rw [putAt_one hlt]; rfl
theorem stV_one {y : V} (hc : y.cells = [y]) (ho : y.one = true) (h : H) (id off : Nat) : stV h 1 (.ptr id off) y = putO (h.get id) h id off [y] := by
  simp only [stV, hc, List.length_singleton, List.all_cons, List.all_nil, ho, Bool.and_self, and_self, if_true, H.put_eq]
theorem stV_int (h : H) (id off : Nat) (k : IntKind) (a : Int) : stV h 1 (.ptr id off) (.int k a) = putO (h.get id) h id off [.int k a] := stV_one rfl rfl h id off
theorem stV_bool (h : H) (id off : Nat) (a : Bool) : stV h 1 (.ptr id off) (.bool a) = putO (h.get id) h id off [.bool a] := stV_one rfl rfl h id off
theorem stV_sl (h : H) (id off a b c : Nat) (d : Cap) : stV h 1 (.ptr id off) (.sl a b c d) = putO (h.get id) h id off [.sl a b c d] := stV_one rfl rfl h id off
theorem stV_nils (h : H) (id off : Nat) : stV h 1 (.ptr id off) .nils = putO (h.get id) h id off [.nils] := stV_one rfl rfl h id off
def boxV (h : H) (x : V) : Option (V × H) := if x.cells.all V.one then some (.ptr h.next 0, h.new (.cells false x.cells)) else none
theorem boxV_int (h : H) (k : IntKind) (a : Int) : boxV h (.int k a) = some (.ptr h.next 0, h.new (.cells false [.int k a])) := rfl
theorem boxV_bool (h : H) (a : Bool) : boxV h (.bool a) = some (.ptr h.next 0, h.new (.cells false [.bool a])) := rfl
theorem ixaV_sl {id off len sz : Nat} {cap : Cap} {k : IntKind} {n : Int} (h0 : 0 ≤ n) (h1 : n < len) : ixaV sz (.sl id off len cap) (.int k n) = some (.ptr id (off + n.toNat * sz)) := by
  simp only [ixaV]; rw [if_pos ⟨h0, h1⟩]

section
variable (ρ : X → V) (h : H)
theorem evI_mov (x : X) : evI ρ h (.mov x) = some (ρ x, h) := rfl
theorem evI_pick (c a b : X) : evI ρ h (.pick c a b) = (pickV (ρ c) (ρ a) (ρ b)).map (·, h) := by
  simp only [evI, pickV]; cases ρ c <;> rfl
theorem evI_bin (op : BinOp) (k : IntKind) (x y : X) : evI ρ h (.bin op k x y) = (binV op k (ρ x) (ρ y)).map (·, h) := by
  simp only [evI, binV]
  cases ρ x <;> cases ρ y <;> try rfl
  simp only
  split <;> rfl
theorem evI_beq (neg : Bool) (x y : X) : evI ρ h (.beq neg x y) = (beqV neg (ρ x) (ρ y)).map (·, h) := by
  simp only [evI, beqV]
  cases ρ x <;> cases ρ y <;> rfl
theorem evI_snil (neg : Bool) (x : X) : evI ρ h (.snil neg x) = (snilV neg (ρ x)).map (·, h) := by
  simp only [evI, snilV]; cases ρ x <;> rfl
theorem evI_not (x : X) : evI ρ h (.not x) = (notV (ρ x)).map (·, h) := by
  simp only [evI, notV]; cases ρ x <;> rfl
theorem evI_neg (k : IntKind) (x : X) : evI ρ h (.neg k x) = (negV k (ρ x)).map (·, h) := by
  simp only [evI, negV]; cases ρ x <;> try rfl
  simp only; split <;> rfl
theorem evI_conv (k : IntKind) (x : X) : evI ρ h (.conv k x) = (convV k (ρ x)).map (·, h) := by
  simp only [evI, convV]; cases ρ x <;> rfl
theorem evI_ext (x : X) (i : Nat) : evI ρ h (.ext x i) = (extV i (ρ x)).map (·, h) := by
  simp only [evI, extV]; cases ρ x <;> rfl
theorem evI_lens (x : X) : evI ρ h (.lens x) = (lensV (ρ x)).map (·, h) := by
  simp only [evI, lensV, Option.map_map]; rfl
theorem evI_part (agg : Bool) (off n : Nat) (x : X) : evI ρ h (.part agg off n x) = (partV agg off n (ρ x)).map (·, h) := by
  simp only [evI, partV]; cases ρ x <;> try rfl
  cases agg
  · rfl
  · simp only [if_true, Option.map_map]; rfl
theorem evI_ld1 (x : X) : evI ρ h (.ld false 1 x) = (cellV h (ρ x)).map (·, h) := by
  simp only [evI, ldV, cellV, H.row, H.cell]
  cases ρ x <;> try rfl
  simp only
  rename_i id off
  cases h.get id with
  | none => rfl
  | some o => cases o with
    | cells ro vs =>
      simp only [sub]
      by_cases hlt : off < vs.length
      · rw [if_pos (by omega), List.getElem?_eq_getElem hlt]
        have : (vs.drop off).take 1 = [vs[off]] := by
          rw [List.drop_eq_getElem_cons hlt]; rfl
        rw [this]; rfl
      · rw [if_neg (by omega), List.getElem?_eq_none (by omega)]
    | _ => rfl
theorem evI_ldn (n : Nat) (x : X) : evI ρ h (.ld true n x) = (rowV h n (ρ x)).map (·, h) := by
  simp only [evI, ldV, rowV]
  cases ρ x <;> try rfl
  simp only
  cases h.row _ _ n <;> rfl
theorem evI_st (n : Nat) (x y : X) : evI ρ h (.st n x y) = (stV h n (ρ x) (ρ y)).map fun h' => (V.undef, h') := by
  simp only [evI, stV]
  cases ρ x <;> try rfl
  simp only
  split <;> rfl
theorem evI_ixa (sz : Nat) (x i : X) : evI ρ h (.ixa sz x i) = (ixaV sz (ρ x) (ρ i)).map (·, h) := rfl
theorem evI_fla (off : Nat) (x : X) : evI ρ h (.fla off x) = (flaV off (ρ x)).map (·, h) := by
  simp only [evI, flaV]; cases ρ x <;> rfl
theorem evI_nck (x : X) : evI ρ h (.nck x) = (nckV (ρ x)).map (·, h) := by
  simp only [evI, nckV]; cases ρ x <;> rfl
theorem evI_slc (sz : Nat) (x : X) (lo hi mx : Option X) : evI ρ h (.slc sz x lo hi mx) = (slcV sz (ρ x) (lo.map ρ) (hi.map ρ) (mx.map ρ)).map (·, h) := rfl
theorem evI_mks (sz bytes : Nat) (zero : List V) (l c : X) : evI ρ h (.mks sz bytes zero l c) = mksV h sz bytes zero (ρ l) (ρ c) := rfl
theorem evI_alc (zero : List V) : evI ρ h (.alc zero) = some (.ptr h.next 0, h.new (.cells false zero)) := rfl
theorem evI_box (x : X) : evI ρ h (.box x) = boxV h (ρ x) := rfl
theorem evI_mm (mx : Bool) (x y : X) : evI ρ h (.mm mx [x, y]) = (mmV mx (ρ x) [ρ y]).map (·, h) := rfl
theorem evI_mkf (f : Nat) (fs cs : List X) : evI ρ h (.mkf f fs cs) = some (.fn f (fs.map ρ) (cs.map ρ), h) := rfl
theorem evI_mkm : evI ρ h .mkm = some (.mp h.next, h.new (.map [])) := rfl
/-- 'append'. -/
def appP (h : H) (sz bytes : Nat) (x y : V) : Option (V × H) := match lenV y, h.slice sz y with
  | some m, some ys => appV h sz bytes x m ys
  | _, _ => none
theorem evI_app (sz bytes : Nat) (x y : X) : evI ρ h (.app sz bytes x y) = appP h sz bytes (ρ x) (ρ y) := rfl
def bldV (zero : List V) (parts : List (Nat × Nat × V)) : Option V := (fillV zero parts).map .agg
theorem evI_bld (zero : List V) (parts : List (Nat × Nat × X)) : evI ρ h (.bld zero parts) = (bldV zero (parts.map fun p => (p.1, p.2.1, ρ p.2.2))).map (·, h) := by
  simp only [evI, bldV, Option.map_map]; rfl
def blsV (h : H) (sz : Nat) (zero : List V) (n : Nat) (parts : List (Nat × Nat × V)) : Option (V × H) := match fillV (zerosV zero (n * sz)) parts with
    | some cs => if cs.all V.one then some (.sl h.next 0 n (.kn n), h.new (.cells false cs)) else none
    | none => none
theorem evI_bls (sz : Nat) (zero : List V) (n : Nat) (parts : List (Nat × Nat × X)) : evI ρ h (.bls sz zero n parts) = blsV h sz zero n (parts.map fun p => (p.1, p.2.1, ρ p.2.2)) := rfl
theorem evI_cpy (sz : Nat) (x y : X) : evI ρ h (.cpy sz x y) = cpyV h sz (ρ x) (ρ y) := rfl
end

theorem xv_v (vars loc : List V) (k : Nat) : xv vars loc (.v k) = vars.getD k .undef := rfl
theorem xv_l (vars loc : List V) (k : Nat) : xv vars loc (.l k) = loc.getD k .undef := rfl
theorem xv_c (vars loc : List V) (x : V) : xv vars loc (.c x) = x := rfl
theorem putV_v1 (k : Nat) (vars loc : List V) (v : V) : (putV (.v k) vars loc v).1 = vars.set k v := rfl
theorem putV_v2 (k : Nat) (vars loc : List V) (v : V) : (putV (.v k) vars loc v).2 = loc := rfl
theorem putV_l1 (vars loc : List V) (v : V) : (putV .l vars loc v).1 = vars := rfl
theorem putV_l2 (vars loc : List V) (v : V) : (putV .l vars loc v).2 = v :: loc := rfl
theorem putV_n1 (vars loc : List V) (v : V) : (putV .n vars loc v).1 = vars := rfl
theorem putV_n2 (vars loc : List V) (v : V) : (putV .n vars loc v).2 = loc := rfl

theorem wanted_true (vars loc : List V) (x : X) (b : Bool) : wantedV vars loc (some (x, b)) = (match xv vars loc x with | .bool a => some (a == b) | .tup [] => some false | _ => none) := rfl

theorem arith_add (k : IntKind) (a b : Int) : arith .add k a b = some (.int k (k.wrap (a + b))) := rfl
theorem arith_sub (k : IntKind) (a b : Int) : arith .sub k a b = some (.int k (k.wrap (a - b))) := rfl
theorem arith_mul (k : IntKind) (a b : Int) : arith .mul k a b = some (.int k (k.wrap (a * b))) := rfl
theorem arith_quo (k : IntKind) (a b : Int) (hb : b ≠ 0) : arith .quo k a b = some (.int k (k.wrap (a.tdiv b))) := by simp only [arith]; rw [if_neg hb]
theorem arith_rem (k : IntKind) (a b : Int) (hb : b ≠ 0) : arith .rem k a b = some (.int k (a.tmod b)) := by simp only [arith]; rw [if_neg hb]
theorem arith_eql (k : IntKind) (a b : Int) : arith .eql k a b = some (.bool (decide (a = b))) := by
  simp only [arith]; congr 2
theorem arith_neq (k : IntKind) (a b : Int) : arith .neq k a b = some (.bool (decide (a ≠ b))) := by
  simp only [arith]; congr 2; rw [Bool.eq_iff_iff]; simp
theorem arith_lss (k : IntKind) (a b : Int) : arith .lss k a b = some (.bool (decide (a < b))) := rfl
theorem arith_leq (k : IntKind) (a b : Int) : arith .leq k a b = some (.bool (decide (a ≤ b))) := rfl
theorem arith_gtr (k : IntKind) (a b : Int) : arith .gtr k a b = some (.bool (decide (b < a))) := rfl
theorem arith_geq (k : IntKind) (a b : Int) : arith .geq k a b = some (.bool (decide (b ≤ a))) := rfl
theorem mm_min (k : IntKind) (a b : Int) : mmV false (.int k a) [.int k b] = some (.int k (if b < a then b else a)) := by
  simp only [mmV, if_true, Bool.false_eq_true, if_false]
theorem mm_max (k : IntKind) (a b : Int) : mmV true (.int k a) [.int k b] = some (.int k (if b > a then b else a)) := by
  simp only [mmV, if_true]

theorem wrap_in {n : Int} (h1 : -9223372036854775808 ≤ n) (h2 : n < 9223372036854775808) : IntKind.i64.wrap n = n := wrap_i64 h1 h2

theorem resV_v (vars : List V) (h : H) (k : Nat) : resV vars h (.v k) = some (vars.getD k .undef) := rfl
theorem resV_cell1 (vars : List V) (h : H) (k : Nat) : resV vars h (.cell k false 1) = cellV h (vars.getD k .undef) := by
  have := evI_ld1 (fun _ => vars.getD k .undef) h (.v 0)
  simp only [resV]
  simp only [evI] at this
  generalize ldV h false 1 (vars.getD k .undef) = a at *
  generalize cellV h (vars.getD k .undef) = b at *
  cases a <;> cases b <;> simp at this ⊢
  exact this
theorem resV_celln (vars : List V) (h : H) (k n : Nat) : resV vars h (.cell k true n) = rowV h n (vars.getD k .undef) := by
  simp only [resV, ldV, rowV]
  cases vars.getD k .undef <;> try rfl
  simp only
  cases h.row _ _ n <;> rfl
theorem allSome_nil {α : Type} : allSome ([] : List (Option α)) = some [] := rfl
theorem allSome_some {α : Type} (a : α) (r : List (Option α)) : allSome (some a :: r) = (allSome r).map (a :: ·) := rfl
theorem tupV_one (v : V) : tupV [v] = v := rfl
theorem tupV_two (v u : V) : tupV [v, u] = .tup [v, u] := rfl
theorem tupV_three (v u t : V) : tupV [v, u, t] = .tup [v, u, t] := rfl
theorem okLog_nil (log : Log) (h : H) : okLog [] log h = true := by simp [okLog]

attribute [go_sem] Wp_skip Wp_ret Wp_exit Wp_scope Wp_reg Wp_any Wp_seq Wp_ite Wp_block Wp_range thenP_norm thenP_ret thenP_exit blockP_norm blockP_ret blockP_same blockP_ne roundP_norm roundP_ret roundP_exit retP_norm retP_ret
  iteW_true iteW_false caseW_true caseW_false caseA_tt caseA_tf caseA_f unc_mk itsK_mk anyK_mk endA_mk retK_mk rangeP_fn WpI_nil WpI_cons WpI_guard WpA_nil WpA_cons WpA_alloc WpA_guard EvA_op EvA_call EvA_callv EvA_callp callP_fn callP_yl onSome_some
  evI_mov evI_pick evI_bin evI_beq evI_snil evI_not evI_neg evI_conv evI_ext evI_lens evI_part evI_ld1 evI_ldn evI_st evI_ixa evI_fla evI_nck evI_slc evI_mks evI_alc evI_box evI_mm evI_mkf evI_mkm evI_app evI_bld evI_bls evI_cpy
  binV_int notV_bool pickV_bool snilV_nils snilV_sl snilV_emp beqV_f beqV_t Bool.not_false Bool.not_true beq_true beq_false if_true if_false Bool.false_eq_true iteW_not negV_int convV_int extV_tup lensV_nils lensV_sl partV_one partV_agg flaV_ptr nckV_ptr cellV_ptr rowV_ptr stV_int stV_bool stV_sl stV_nils boxV_int boxV_bool putO_one ixaV_sl
  xv_v xv_l xv_c putV_v1 putV_v2 putV_l1 putV_l2 putV_n1 putV_n2 wanted_true
  arith_add arith_sub arith_mul arith_quo arith_rem arith_eql arith_neq arith_lss arith_leq arith_gtr arith_geq mm_min mm_max wrap_in
  resV_v resV_cell1 resV_celln allSome_nil allSome_some tupV_one tupV_two tupV_three okLog_nil
  H.get_set_same H.get_set_ne H.get_new_same H.get_new_ne H.get_next' H.cell_next H.cell_set_same H.cell_set_ne H.cell_new_same H.cell_new_ne H.next_set H.next_new
  true_and Option.map_some Option.map_none List.replicate_succ List.replicate_zero List.take_succ_cons List.take_zero List.length_cons List.length_nil Nat.zero_add List.foldl_cons List.foldl_nil List.map_cons List.map_nil List.getD_cons_zero List.getD_cons_succ List.set_cons_zero List.set_cons_succ List.cons_append List.nil_append List.append_nil
attribute [congr] putO_congr
end Go.Ay

