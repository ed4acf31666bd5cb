/- Contracts: comparing, searching, residues. -/
import Derived.Test.YthfabknpogbcaaaC6b
namespace Go.Proofs.Ythfabknpogbcaaa
open Go Go.Ay
set_option maxRecDepth 100000

theorem tmod_bd (a : Int) {n : Int} (hn : 0 < n) : -n < a.tmod n ∧ a.tmod n < n := by
  have h1 := Int.tmod_lt_of_pos a hn
  refine ⟨?_, h1⟩
  rcases Int.le_total 0 a with h | h
  · have := Int.tmod_nonneg n h; omega
  · have h2 := Int.tmod_lt_of_pos (-a) hn
    rw [Int.neg_tmod] at h2
    omega
theorem tmod_fix (a : Int) {n : Int} (hn : 0 < n) : (if a.tmod n < 0 then a.tmod n + n else a.tmod n) = a % n := by
  have h0 := tmod_bd a hn
  have h1 : a.tmod n = a - n * (a.tdiv n) := by have := Int.mul_tdiv_add_tmod a n; omega
  have h2 : a % n = a - n * (a / n) := Int.emod_def a n
  have h3 := Int.emod_nonneg a (show n ≠ 0 by omega)
  have h4 := Int.emod_lt_of_pos a hn
  have h5 : (a.tmod n) % n = a % n := by
    rw [h1, Int.sub_emod, Int.mul_emod_right, Int.sub_zero, Int.emod_emod]
  split
  · rw [← h5, ← Int.emod_eq_of_lt (a := a.tmod n + n) (b := n) (by omega) (by omega), Int.add_emod_right]
  · rw [← h5, Int.emod_eq_of_lt (by omega) (by omega)]
theorem tmod_twice (a : Int) {n : Int} (hn : 0 < n) : (a.tmod n + n).tmod n = a % n := by
  have h0 := tmod_bd a hn
  have h5 := tmod_fix a hn
  rw [Int.tmod_eq_emod_of_nonneg (by omega), Int.add_emod_right]
  split at h5
  · rw [← h5, ← Int.emod_eq_of_lt (a := a.tmod n + n) (b := n) (by omega) (by omega), Int.add_emod_right]
  · rw [← h5, Int.emod_eq_of_lt (by omega) (by omega)]

theorem pick_ok (a n : Int) (h : H) (hn : 0 < n) (hn2 : n < 1000000000) : Ev T n_kit_Pick [.int .i64 a, .int .i64 n] h (fun v h' => v = .int .i64 (a % n) ∧ h' = h) := by
  refine Ev_of t_kit_Pick rfl ?_
  have h0 := tmod_bd a hn
  have h1 := tmod_fix a hn
  simp (disch := first | omega | (simp only [List.length_set, List.length_replicate, List.length_append, List.length_take, List.length_drop, List.length_cons, List.length_nil, List.length_map, List.length_range, ints_length] <;> omega)) only [go_sem, c_kit_Pick, initV_eq]
  refine iteW_dec (fun hlt => ?_) (fun hge => ?_)
  · rw [if_pos hlt] at h1
    simp (disch := first | omega | (simp only [List.length_set, List.length_replicate, List.length_append, List.length_take, List.length_drop, List.length_cons, List.length_nil, List.length_map, List.length_range, ints_length] <;> omega)) only [go_sem]
    exact ⟨by rw [h1], trivial⟩
  · rw [if_neg hge] at h1
    simp (disch := first | omega | (simp only [List.length_set, List.length_replicate, List.length_append, List.length_take, List.length_drop, List.length_cons, List.length_nil, List.length_map, List.length_range, ints_length] <;> omega)) only [go_sem]
    exact ⟨by rw [h1], trivial⟩
theorem residue_ok (a n : Int) (h : H) (hn : 0 < n) (hn2 : n < 1000000000) : Ev T n_cyclo_residue [.int .i64 a, .int .i64 n] h (fun v h' => v = .int .i64 (a % n) ∧ h' = h) := by
  refine Ev_of t_cyclo_residue rfl ?_
  have h0 := tmod_bd a hn
  have h1 := tmod_twice a hn
  simp (disch := first | omega | (simp only [List.length_set, List.length_replicate, List.length_append, List.length_take, List.length_drop, List.length_cons, List.length_nil, List.length_map, List.length_range, ints_length] <;> omega)) only [go_sem, c_cyclo_residue, initV_eq]
  exact ⟨by rw [h1], trivial⟩

def overF (x : Int) : Bool := decide (x < -10000000) || decide (10000000 < x)
theorem over_ok (x : Int) (h : H) : Ev T n_cyclo_over [.int .i64 x] h (fun v h' => v = .bool (overF x) ∧ h' = h) := by
  refine Ev_of t_cyclo_over rfl ?_
  simp (disch := first | omega | (simp only [List.length_set, List.length_replicate, List.length_append, List.length_take, List.length_drop, List.length_cons, List.length_nil, List.length_map, List.length_range, ints_length] <;> omega)) only [go_sem, c_cyclo_over, initV_eq]
  by_cases h1 : x < -10000000
  · rw [decide_eq_true h1]
    simp (disch := first | omega | (simp only [List.length_set, List.length_replicate, List.length_append, List.length_take, List.length_drop, List.length_cons, List.length_nil, List.length_map, List.length_range, ints_length] <;> omega)) only [go_sem]
    exact ⟨by rw [overF, decide_eq_true h1]; rfl, trivial⟩
  · rw [decide_eq_false h1]
    simp (disch := first | omega | (simp only [List.length_set, List.length_replicate, List.length_append, List.length_take, List.length_drop, List.length_cons, List.length_nil, List.length_map, List.length_range, ints_length] <;> omega)) only [go_sem]
    exact ⟨by rw [overF, decide_eq_false h1]; rfl, trivial⟩

theorem nz_ok (x : Int) (h : H) : Ev T n_cyclo_table_lower_1 [.int .i64 x] h (fun v h' => v = .bool (decide (x ≠ 0)) ∧ h' = h) := by
  refine Ev_of t_cyclo_table_lower_1 rfl ?_
  simp (disch := first | omega | (simp only [List.length_set, List.length_replicate, List.length_append, List.length_take, List.length_drop, List.length_cons, List.length_nil, List.length_map, List.length_range, ints_length] <;> omega)) only [go_sem, c_cyclo_table_lower_1, initV_eq]

/-- A test of integers that leaves the heap alone. -/
def TestF (f : V) (P : Int → Bool) : Prop := ∀ x h, callP T f [.int .i64 x] h (fun v h' => v = .bool (P x) ∧ h' = h)
def indexF (P : Int → Bool) (l : List Int) : Int := match l.findIdx? P with | some i => (i : Int) | none => -1

theorem index_ok (v f : V) (l : List Int) (P : Int → Bool) (h : H) (hs : SI h v l) (hl : l.length < 1000000) (hf : TestF f P) : Ev T n_slices_IndexFunc_int_int [v, f] h (fun v h' => v = .int .i64 (indexF P l) ∧ h' = h) := by
  refine Ev_of t_slices_IndexFunc_int_int rfl ?_
  obtain ⟨id, off, hsl, hid, hc⟩ := hs.open
  simp (disch := first | omega | (simp only [List.length_set, List.length_replicate, List.length_append, List.length_take, List.length_drop, List.length_cons, List.length_nil, List.length_map, List.length_range, ints_length] <;> omega)) only [go_sem, c_slices_IndexFunc_int_int, initV_eq, hs.lens]
  refine Wp_loop (fun k vars h2 => ∃ (i : Nat) (x3 x6 x7 : V), vars = [v, f, .int .i64 0, x3, .int .i64 (l.length : Int), .int .i64 (i : Int), x6, x7] ∧ i ≤ l.length ∧ (∀ j, j < i → P (l.getD j 0) = false) ∧ h2 = h ∧ k = l.length - i) l.length
    ⟨0, _, _, _, rfl, Nat.zero_le _, fun j hj => by omega, rfl, rfl⟩ ?_
  rintro k vars h2 ⟨i, x3, x6, x7, rfl, hi, hb, rfl, rfl⟩
  simp (disch := first | omega | (simp only [List.length_set, List.length_replicate, List.length_append, List.length_take, List.length_drop, List.length_cons, List.length_nil, List.length_map, List.length_range, ints_length] <;> omega)) only [go_sem]
  refine iteW_dec (fun hlt => ?_) (fun hge => ?_)
  · simp (disch := first | omega | (simp only [List.length_set, List.length_replicate, List.length_append, List.length_take, List.length_drop, List.length_cons, List.length_nil, List.length_map, List.length_range, ints_length] <;> omega)) only [go_sem, hsl.ixa, hc, Int.toNat_natCast]
    refine (hf _ _).mono ?_
    rintro v1 h1 ⟨rfl, rfl⟩
    simp (disch := first | omega | (simp only [List.length_set, List.length_replicate, List.length_append, List.length_take, List.length_drop, List.length_cons, List.length_nil, List.length_map, List.length_range, ints_length] <;> omega)) only [go_sem]
    refine iteW_bool (fun hp => ?_) (fun hp => ?_)
    · simp (disch := first | omega | (simp only [List.length_set, List.length_replicate, List.length_append, List.length_take, List.length_drop, List.length_cons, List.length_nil, List.length_map, List.length_range, ints_length] <;> omega)) only [go_sem]
      refine ⟨?_, trivial⟩
      have : l.findIdx? P = some i := by
        rw [List.findIdx?_eq_some_iff_getElem]
        have hi' : i < l.length := by omega
        refine ⟨hi', ?_, fun j hj => ?_⟩
        · rw [List.getD_eq_getElem?_getD, List.getElem?_eq_getElem hi'] at hp; exact hp
        · have := hb j hj
          rw [List.getD_eq_getElem?_getD, List.getElem?_eq_getElem (by omega)] at this
          simpa using this
      rw [indexF, this]
    · simp (disch := first | omega | (simp only [List.length_set, List.length_replicate, List.length_append, List.length_take, List.length_drop, List.length_cons, List.length_nil, List.length_map, List.length_range, ints_length] <;> omega)) only [go_sem]
      rw [show (i : Int) + 1 = ((i + 1 : Nat) : Int) from by omega]
      refine ⟨l.length - (i + 1), by omega, i + 1, _, _, _, rfl, by omega, fun j hj => ?_, rfl⟩
      by_cases h3 : j = i
      · rw [h3]; exact hp
      · exact hb j (by omega)
  · simp (disch := first | omega | (simp only [List.length_set, List.length_replicate, List.length_append, List.length_take, List.length_drop, List.length_cons, List.length_nil, List.length_map, List.length_range, ints_length] <;> omega)) only [go_sem]
    refine ⟨?_, trivial⟩
    have : l.findIdx? P = none := by
      rw [List.findIdx?_eq_none_iff]
      intro x hx
      obtain ⟨j, hj, rfl⟩ := List.getElem_of_mem hx
      have := hb j (by omega)
      rw [List.getD_eq_getElem?_getD, List.getElem?_eq_getElem hj] at this
      exact this
    rw [indexF, this]
theorem any_index (P : Int → Bool) (l : List Int) : decide (0 ≤ indexF P l) = l.any P := by
  rw [indexF]
  cases hf : l.findIdx? P with
  | none =>
    rw [List.findIdx?_eq_none_iff] at hf
    have : l.any P = false := by rw [List.any_eq_false]; intro x hx; rw [hf x hx]; simp
    rw [this]; rfl
  | some i =>
    rw [List.findIdx?_eq_some_iff_getElem] at hf
    obtain ⟨h1, h2, _⟩ := hf
    have : l.any P = true := by rw [List.any_eq_true]; exact ⟨_, List.getElem_mem h1, h2⟩
    rw [this]; simp
theorem contains_ok (v f : V) (l : List Int) (P : Int → Bool) (h : H) (hs : SI h v l) (hl : l.length < 1000000) (hf : TestF f P) : Ev T n_slices_ContainsFunc_int_int [v, f] h (fun v h' => v = .bool (l.any P) ∧ h' = h) := by
  refine Ev_of t_slices_ContainsFunc_int_int rfl ?_
  simp (disch := first | omega | (simp only [List.length_set, List.length_replicate, List.length_append, List.length_take, List.length_drop, List.length_cons, List.length_nil, List.length_map, List.length_range, ints_length] <;> omega)) only [go_sem, c_slices_ContainsFunc_int_int, initV_eq]
  refine (index_ok v f l P h hs hl hf).mono ?_
  rintro v1 h1 ⟨rfl, rfl⟩
  simp (disch := first | omega | (simp only [List.length_set, List.length_replicate, List.length_append, List.length_take, List.length_drop, List.length_cons, List.length_nil, List.length_map, List.length_range, ints_length] <;> omega)) only [go_sem, any_index]
theorem test_over : TestF (.fn 52 [] []) overF := fun x h => over_ok x h
theorem test_nz : TestF (.fn 81 [] []) (fun x => decide (x ≠ 0)) := fun x h => nz_ok x h

theorem eq_of_getD {a b : List Int} (hl : a.length = b.length) (h : ∀ j, j < a.length → a.getD j 0 = b.getD j 0) : a = b := by
  apply List.ext_getElem hl
  intro i h1 h2
  have := h i h1
  rw [List.getD_eq_getElem?_getD, List.getElem?_eq_getElem h1, List.getD_eq_getElem?_getD, List.getElem?_eq_getElem h2] at this
  exact this

theorem equal_ok (va vb : V) (a b : List Int) (h : H) (ha : SI h va a) (hb : SI h vb b) (hla : a.length < 1000000) (hlb : b.length < 1000000) : Ev T n_slices_Equal_int_int [va, vb] h (fun v h' => v = .bool (decide (a = b)) ∧ Fr h h') := by
  refine Ev_of t_slices_Equal_int_int rfl ?_
  obtain ⟨id, off, hsl, hid, hc⟩ := ha.open
  obtain ⟨id2, off2, hsl2, hid2, hc2⟩ := hb.open
  simp (disch := first | omega | (simp only [List.length_set, List.length_replicate, List.length_append, List.length_take, List.length_drop, List.length_cons, List.length_nil, List.length_map, List.length_range, ints_length] <;> omega)) only [go_sem, c_slices_Equal_int_int, initV_eq, ha.lens, hb.lens]
  refine iteW_dec (fun hne => ?_) (fun heq => ?_)
  · simp (disch := first | omega | (simp only [List.length_set, List.length_replicate, List.length_append, List.length_take, List.length_drop, List.length_cons, List.length_nil, List.length_map, List.length_range, ints_length] <;> omega)) only [go_sem]
    have : a ≠ b := fun e => hne (by rw [e])
    exact ⟨by rw [decide_eq_false this], Fr.refl h⟩
  have heq : a.length = b.length := by omega
  simp (disch := first | omega | (simp only [List.length_set, List.length_replicate, List.length_append, List.length_take, List.length_drop, List.length_cons, List.length_nil, List.length_map, List.length_range, ints_length] <;> omega)) only [go_sem, ha.lens]
  refine Wp_loop (fun k vars h2 => ∃ (i : Nat) (x3 x7 x8 : V), vars = [va, vb, .bool false, x3, .bool (decide ((a.length : Int) ≠ (b.length : Int))), .int .i64 (a.length : Int), .int .i64 (i : Int), x7, x8] ∧ i ≤ a.length ∧ (∀ j, j < i → a.getD j 0 = b.getD j 0) ∧ Fr h h2 ∧ k = a.length - i) a.length
    ⟨0, _, _, _, rfl, Nat.zero_le _, fun j hj => by omega, Fr.refl h, rfl⟩ ?_
  rintro k vars h2 ⟨i, x3, x7, x8, rfl, hi, hpre, hf2, rfl⟩
  simp (disch := first | omega | (simp only [List.length_set, List.length_replicate, List.length_append, List.length_take, List.length_drop, List.length_cons, List.length_nil, List.length_map, List.length_range, ints_length] <;> omega)) only [go_sem]
  refine iteW_dec (fun hlt => ?_) (fun hge => ?_)
  · have hc' := cells_fr hf2 hid hc
    have hc2' := cells_fr hf2 hid2 hc2
    simp (disch := first | omega | (simp only [List.length_set, List.length_replicate, List.length_append, List.length_take, List.length_drop, List.length_cons, List.length_nil, List.length_map, List.length_range, ints_length] <;> omega)) only [go_sem, hsl.ixa, hsl2.ixa, hc', hc2', Int.toNat_natCast]
    refine iteW_dec (fun hne => ?_) (fun he => ?_)
    · simp (disch := first | omega | (simp only [List.length_set, List.length_replicate, List.length_append, List.length_take, List.length_drop, List.length_cons, List.length_nil, List.length_map, List.length_range, ints_length] <;> omega)) only [go_sem]
      have : a ≠ b := fun e => hne (by rw [e])
      exact ⟨by rw [decide_eq_false this], hf2.bump (by omega)⟩
    · simp (disch := first | omega | (simp only [List.length_set, List.length_replicate, List.length_append, List.length_take, List.length_drop, List.length_cons, List.length_nil, List.length_map, List.length_range, ints_length] <;> omega)) only [go_sem]
      rw [show (i : Int) + 1 = ((i + 1 : Nat) : Int) from by omega]
      refine ⟨a.length - (i + 1), by omega, i + 1, _, _, _, rfl, by omega, fun j hj => ?_, hf2.bump (by omega), rfl⟩
      by_cases h3 : j = i
      · rw [h3]; exact Decidable.byContradiction he
      · exact hpre j (by omega)
  · simp (disch := first | omega | (simp only [List.length_set, List.length_replicate, List.length_append, List.length_take, List.length_drop, List.length_cons, List.length_nil, List.length_map, List.length_range, ints_length] <;> omega)) only [go_sem]
    have : a = b := eq_of_getD heq fun j hj => hpre j (by omega)
    exact ⟨by rw [decide_eq_true this], hf2⟩

theorem same_ok (va vb : V) (a b : List Int) (h : H) (ha : SI h va a) (hb : SI h vb b) (hla : a.length < 1000000) (hlb : b.length < 1000000) : Ev T n_kit_Same_int [va, vb] h (fun v h' => v = .bool (decide (a = b)) ∧ Fr h h') := by
  refine Ev_of t_kit_Same_int rfl ?_
  obtain ⟨id, off, hsl, hid, hc⟩ := ha.open
  obtain ⟨id2, off2, hsl2, hid2, hc2⟩ := hb.open
  simp (disch := first | omega | (simp only [List.length_set, List.length_replicate, List.length_append, List.length_take, List.length_drop, List.length_cons, List.length_nil, List.length_map, List.length_range, ints_length] <;> omega)) only [go_sem, c_kit_Same_int, initV_eq, ha.lens, hb.lens]
  refine iteW_dec (fun hne => ?_) (fun heq => ?_)
  · simp (disch := first | omega | (simp only [List.length_set, List.length_replicate, List.length_append, List.length_take, List.length_drop, List.length_cons, List.length_nil, List.length_map, List.length_range, ints_length] <;> omega)) only [go_sem]
    have : a ≠ b := fun e => hne (by rw [e])
    exact ⟨by rw [decide_eq_false this], Fr.refl h⟩
  have heq : a.length = b.length := by omega
  simp (disch := first | omega | (simp only [List.length_set, List.length_replicate, List.length_append, List.length_take, List.length_drop, List.length_cons, List.length_nil, List.length_map, List.length_range, ints_length] <;> omega)) only [go_sem, ha.lens]
  refine Wp_loop (fun k vars h2 => ∃ (i : Nat) (x4 x5 x6 : V), vars = [va, vb, .bool false, .int .i64 (i : Int), x4, x5, x6] ∧ i ≤ a.length ∧ (∀ j, j < i → a.getD j 0 = b.getD j 0) ∧ Fr h h2 ∧ k = a.length - i) a.length
    ⟨0, _, _, _, rfl, Nat.zero_le _, fun j hj => by omega, Fr.refl h, rfl⟩ ?_
  rintro k vars h2 ⟨i, x3, x7, x8, rfl, hi, hpre, hf2, rfl⟩
  simp (disch := first | omega | (simp only [List.length_set, List.length_replicate, List.length_append, List.length_take, List.length_drop, List.length_cons, List.length_nil, List.length_map, List.length_range, ints_length] <;> omega)) only [go_sem, ha.lens]
  refine iteW_dec (fun hlt => ?_) (fun hge => ?_)
  · have hc' := cells_fr hf2 hid hc
    have hc2' := cells_fr hf2 hid2 hc2
    simp (disch := first | omega | (simp only [List.length_set, List.length_replicate, List.length_append, List.length_take, List.length_drop, List.length_cons, List.length_nil, List.length_map, List.length_range, ints_length] <;> omega)) only [go_sem, hsl.ixa, hsl2.ixa, hc', hc2', Int.toNat_natCast]
    refine iteW_dec (fun hne => ?_) (fun he => ?_)
    · simp (disch := first | omega | (simp only [List.length_set, List.length_replicate, List.length_append, List.length_take, List.length_drop, List.length_cons, List.length_nil, List.length_map, List.length_range, ints_length] <;> omega)) only [go_sem]
      have : a ≠ b := fun e => hne (by rw [e])
      exact ⟨by rw [decide_eq_false this], hf2.bump (by omega)⟩
    · simp (disch := first | omega | (simp only [List.length_set, List.length_replicate, List.length_append, List.length_take, List.length_drop, List.length_cons, List.length_nil, List.length_map, List.length_range, ints_length] <;> omega)) only [go_sem]
      rw [show (i : Int) + 1 = ((i + 1 : Nat) : Int) from by omega]
      refine ⟨a.length - (i + 1), by omega, i + 1, _, _, _, rfl, by omega, fun j hj => ?_, hf2.bump (by omega), rfl⟩
      by_cases h3 : j = i
      · rw [h3]; exact Decidable.byContradiction he
      · exact hpre j (by omega)
  · simp (disch := first | omega | (simp only [List.length_set, List.length_replicate, List.length_append, List.length_take, List.length_drop, List.length_cons, List.length_nil, List.length_map, List.length_range, ints_length] <;> omega)) only [go_sem]
    have : a = b := eq_of_getD heq fun j hj => hpre j (by omega)
    exact ⟨by rw [decide_eq_true this], hf2⟩
end Go.Proofs.Ythfabknpogbcaaa
