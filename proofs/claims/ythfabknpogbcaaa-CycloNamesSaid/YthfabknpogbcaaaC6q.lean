/- Contracts: the laws' own helpers. -/
import Derived.Test.YthfabknpogbcaaaC6o
namespace Go.Proofs.Ythfabknpogbcaaa
open Go Go.Ay
set_option maxRecDepth 100000
noncomputable section

theorem lawroot_ok (n k : Int) (h : H) : Ev T n_law06_root [.int .i64 n, .int .i64 k] h (fun v h' => CycO h' v (rootF n k).1 h.next ∧ Fr h h') := by
  refine Ev_of t_law06_root rfl ?_
  simp (disch := first | omega | (simp only [List.length_set, List.length_replicate, List.length_append, List.length_take, List.length_drop, List.length_cons, List.length_nil, List.length_map, List.length_range, ints_length] <;> omega)) only [go_sem, c_law06_root, initV_eq]
  have hfa : Fr h (h.new (.cells false [.int .i64 0, .nils])) := (Fr.refl h).new _
  have hga : (h.new (.cells false [.int .i64 0, .nils])).get h.next = some (.cells false [.int .i64 0, .nils]) := H.get_new_same ..
  have hna : (h.new (.cells false [.int .i64 0, .nils])).next = h.next + 1 := H.next_new ..
  generalize h.new (.cells false [.int .i64 0, .nils]) = ha at *
  refine (Root_ok n k ha).mono ?_
  rintro v1 h1 ⟨w, rfl, ⟨u, rfl, hu, hfu⟩, hf1⟩
  generalize rootF n k = R at *
  have hst := fun hh id => stV_agg2 hh id 0 (v := .int .i64 R.1.1) (u := u) rfl hu.what.2.1
  have hn1 := hf1.next
  have hg1 := (hf1.get h.next (by omega)).trans hga
  have hr1 := row_two (h := (h1.new (.cells false [.int .i64 0, .nils])).set h1.next (some (.cells false [.int .i64 R.1.1, u]))) (H.get_set_same ..)
  have hr2 := row_two (h := ((h1.new (.cells false [.int .i64 0, .nils])).set h1.next (some (.cells false [.int .i64 R.1.1, u]))).set h.next (some (.cells false [.int .i64 R.1.1, u]))) (H.get_set_same ..)
  simp (disch := first | omega | (simp only [List.length_set, List.length_replicate, List.length_append, List.length_take, List.length_drop, List.length_cons, List.length_nil, List.length_map, List.length_range, ints_length] <;> omega)) only [go_sem, hst, hr1, hg1, hr2]
  have f2 : Fr h1 ((h1.new (.cells false [.int .i64 0, .nils])).set h1.next (some (.cells false [.int .i64 R.1.1, u]))) := ((Fr.refl h1).new _).set (Nat.le_refl _) _
  have hc : CycO h1 (.agg [.int .i64 R.1.1, u]) R.1 ha.next := ⟨u, rfl, hu, hfu⟩
  exact ⟨((hc.mono f2).set (x := h.next) (by omega) _).le (by omega), ((hfa.trans hf1).trans f2).set (Nat.le_refl _) _⟩

theorem lawsame_ok (va vb : V) (a b : Int × List Int) (h : H) (ha : CycV h va a) (hb : CycV h vb b) (hla : a.2.length < 1000000) (hlb : b.2.length < 1000000) :
    Ev T n_law06_same [va, vb] h (fun v h' => v = .bool (decide (a = b)) ∧ Fr h h') := by
  obtain ⟨u, rfl, hu⟩ := ha
  obtain ⟨w, rfl, hw⟩ := hb
  obtain ⟨N, A⟩ := a
  obtain ⟨M, B⟩ := b
  simp only at hu hw hla hlb
  refine Ev_of t_law06_same rfl ?_
  simp (disch := first | omega | (simp only [List.length_set, List.length_replicate, List.length_append, List.length_take, List.length_drop, List.length_cons, List.length_nil, List.length_map, List.length_range, ints_length] <;> omega)) only [go_sem, c_law06_same, initV_eq, boxV_agg2 h (v := .int .i64 N) rfl hu.what.2.1]
  have hfx : Fr h (h.new (.cells false [.int .i64 N, u])) := (Fr.refl h).new _
  have hgx : (h.new (.cells false [.int .i64 N, u])).get h.next = some (.cells false [.int .i64 N, u]) := H.get_new_same ..
  have hnx : (h.new (.cells false [.int .i64 N, u])).next = h.next + 1 := H.next_new ..
  generalize h.new (.cells false [.int .i64 N, u]) = hx at *
  have x0 : hx.cell h.next 0 = some (.int .i64 N) := by rw [H.cell_of hgx]; rfl
  have x1 : hx.cell h.next 1 = some u := by rw [H.cell_of hgx]; rfl
  simp (disch := first | omega | (simp only [List.length_set, List.length_replicate, List.length_append, List.length_take, List.length_drop, List.length_cons, List.length_nil, List.length_map, List.length_range, ints_length] <;> omega)) only [go_sem, boxV_agg2 hx (v := .int .i64 M) rfl hw.what.2.1, x0, x1]
  have hfy : Fr hx (hx.new (.cells false [.int .i64 M, w])) := (Fr.refl hx).new _
  have hgy : (hx.new (.cells false [.int .i64 M, w])).get hx.next = some (.cells false [.int .i64 M, w]) := H.get_new_same ..
  have c1 : (hx.new (.cells false [.int .i64 M, w])).cell hx.next 1 = some w := by rw [H.cell_of hgy]; rfl
  generalize hx.new (.cells false [.int .i64 M, w]) = hy at *
  have y1 : hy.cell h.next 1 = some u := by rw [hfy.cell (by omega)]; exact x1
  have hF := hfx.trans hfy
  by_cases hNM : N = M
  · rw [decide_eq_true hNM]
    simp (disch := first | omega | (simp only [List.length_set, List.length_replicate, List.length_append, List.length_take, List.length_drop, List.length_cons, List.length_nil, List.length_map, List.length_range, ints_length] <;> omega)) only [go_sem, y1, c1]
    refine (same_ok u w A B hy (hu.mono hF) (hw.mono hF) hla hlb).mono ?_
    rintro v3 h3 ⟨rfl, hf3⟩
    simp (disch := first | omega | (simp only [List.length_set, List.length_replicate, List.length_append, List.length_take, List.length_drop, List.length_cons, List.length_nil, List.length_map, List.length_range, ints_length] <;> omega)) only [go_sem]
    exact ⟨by simp [hNM], hF.trans hf3⟩
  · rw [decide_eq_false hNM]
    simp (disch := first | omega | (simp only [List.length_set, List.length_replicate, List.length_append, List.length_take, List.length_drop, List.length_cons, List.length_nil, List.length_map, List.length_range, ints_length] <;> omega)) only [go_sem]
    exact ⟨by simp [hNM], hF⟩

theorem is_ok (va vc : V) (a : Int × List Int) (e n : Int) (c : List Int) (h : H) (ha : CycV h va a) (hc : SI h vc c) (hla : a.2.length < 1000000) (hlc : c.length < 1000000) :
    Ev T n_law06_is [va, .int .i64 e, .int .i64 n, vc] h (fun v h' => v = .bool (decide (e = 0 ∧ a = (n, c))) ∧ Fr h h') := by
  obtain ⟨u, rfl, hu⟩ := ha
  obtain ⟨N, A⟩ := a
  simp only at hu hla
  refine Ev_of t_law06_is rfl ?_
  simp (disch := first | omega | (simp only [List.length_set, List.length_replicate, List.length_append, List.length_take, List.length_drop, List.length_cons, List.length_nil, List.length_map, List.length_range, ints_length] <;> omega)) only [go_sem, c_law06_is, initV_eq, boxV_agg2 h (v := .int .i64 N) rfl hu.what.2.1]
  have hfx : Fr h (h.new (.cells false [.int .i64 N, u])) := (Fr.refl h).new _
  have hgx : (h.new (.cells false [.int .i64 N, u])).get h.next = some (.cells false [.int .i64 N, u]) := H.get_new_same ..
  generalize h.new (.cells false [.int .i64 N, u]) = hx at *
  by_cases he : e = 0
  · rw [decide_eq_true he]
    have hbl := bldV_two (z1 := .int .i64 0) (z2 := .nils) (v := .int .i64 n) (u := vc) rfl rfl hc.what.1 hc.what.2.1
    simp (disch := first | omega | (simp only [List.length_set, List.length_replicate, List.length_append, List.length_take, List.length_drop, List.length_cons, List.length_nil, List.length_map, List.length_range, ints_length] <;> omega)) only [go_sem, row_two hgx, hbl]
    refine (lawsame_ok _ _ (N, A) (n, c) hx ⟨u, rfl, hu.mono hfx⟩ ⟨vc, rfl, hc.mono hfx⟩ hla hlc).mono ?_
    rintro v3 h3 ⟨rfl, hf3⟩
    simp (disch := first | omega | (simp only [List.length_set, List.length_replicate, List.length_append, List.length_take, List.length_drop, List.length_cons, List.length_nil, List.length_map, List.length_range, ints_length] <;> omega)) only [go_sem]
    exact ⟨by simp [he], hfx.trans hf3⟩
  · rw [decide_eq_false he]
    simp (disch := first | omega | (simp only [List.length_set, List.length_replicate, List.length_append, List.length_take, List.length_drop, List.length_cons, List.length_nil, List.length_map, List.length_range, ints_length] <;> omega)) only [go_sem]
    exact ⟨by simp [he], hfx⟩

theorem bad_ok (va : V) (a : Int × List Int) (e w : Int) (h : H) (ha : CycV h va a) (hla : a.2.length < 1000000) :
    Ev T n_law06_bad [va, .int .i64 e, .int .i64 w] h (fun v h' => v = .bool (decide (e = w ∧ a = (0, []))) ∧ Fr h h') := by
  obtain ⟨u, rfl, hu⟩ := ha
  obtain ⟨N, A⟩ := a
  simp only at hu hla
  refine Ev_of t_law06_bad rfl ?_
  simp (disch := first | omega | (simp only [List.length_set, List.length_replicate, List.length_append, List.length_take, List.length_drop, List.length_cons, List.length_nil, List.length_map, List.length_range, ints_length] <;> omega)) only [go_sem, c_law06_bad, initV_eq, boxV_agg2 h (v := .int .i64 N) rfl hu.what.2.1]
  have hfx : Fr h (h.new (.cells false [.int .i64 N, u])) := (Fr.refl h).new _
  have hgx : (h.new (.cells false [.int .i64 N, u])).get h.next = some (.cells false [.int .i64 N, u]) := H.get_new_same ..
  generalize h.new (.cells false [.int .i64 N, u]) = hx at *
  have x0 : hx.cell h.next 0 = some (.int .i64 N) := by rw [H.cell_of hgx]; rfl
  have x1 : hx.cell h.next 1 = some u := by rw [H.cell_of hgx]; rfl
  by_cases he : e = w
  · rw [decide_eq_true he]
    simp (disch := first | omega | (simp only [List.length_set, List.length_replicate, List.length_append, List.length_take, List.length_drop, List.length_cons, List.length_nil, List.length_map, List.length_range, ints_length] <;> omega)) only [go_sem, x0]
    by_cases hN : N = 0
    · rw [decide_eq_true hN]
      simp (disch := first | omega | (simp only [List.length_set, List.length_replicate, List.length_append, List.length_take, List.length_drop, List.length_cons, List.length_nil, List.length_map, List.length_range, ints_length] <;> omega)) only [go_sem, x1, (hu.mono hfx).lens]
      refine ⟨?_, hfx⟩
      congr 1
      rw [Bool.eq_iff_iff]
      simp only [decide_eq_true_eq, he, hN, true_and, Prod.mk.injEq]
      constructor
      · intro h; exact List.eq_nil_of_length_eq_zero (by omega)
      · intro h; rw [h]; rfl
    · rw [decide_eq_false hN]
      simp (disch := first | omega | (simp only [List.length_set, List.length_replicate, List.length_append, List.length_take, List.length_drop, List.length_cons, List.length_nil, List.length_map, List.length_range, ints_length] <;> omega)) only [go_sem]
      exact ⟨by simp [hN], hfx⟩
  · rw [decide_eq_false he]
    simp (disch := first | omega | (simp only [List.length_set, List.length_replicate, List.length_append, List.length_take, List.length_drop, List.length_cons, List.length_nil, List.length_map, List.length_range, ints_length] <;> omega)) only [go_sem]
    exact ⟨by simp [he], hfx⟩

/-! boxes of numbers -/
def Bx (h : H) (id : Nat) (a : Int × List Int) : Prop := ∃ u, h.get id = some (.cells false [.int .i64 a.1, u]) ∧ SI h u a.2 ∧ id < h.next
theorem Bx.mono {h h' : H} {id : Nat} {a : Int × List Int} (b : Bx h id a) (f : Fr h h') : Bx h' id a := by
  obtain ⟨u, h1, h2, h3⟩ := b; exact ⟨u, by rw [f.get id h3]; exact h1, h2.mono f, Nat.lt_of_lt_of_le h3 f.next⟩
def Bxs (h : H) (L : List (Nat × (Int × List Int))) : Prop := ∀ (i : Nat) (p : Nat × (Int × List Int)), L[i]? = some p → Bx h p.1 p.2
theorem Bxs.nil (h : H) : Bxs h [] := fun i p e => by cases e
theorem Bxs.mono {h h' : H} {L : List (Nat × (Int × List Int))} (b : Bxs h L) (f : Fr h h') : Bxs h' L := fun i p e => (b i p e).mono f
theorem Bxs.snoc {h : H} {L : List (Nat × (Int × List Int))} (b : Bxs h L) {id : Nat} {a : Int × List Int} (x : Bx h id a) : Bxs h (L ++ [(id, a)]) := fun i p e => by
  rw [List.getElem?_append] at e
  split at e
  · exact b i p e
  · rename_i hi
    cases hk : i - L.length with
    | zero => rw [hk] at e; cases e; exact x
    | succ k => rw [hk] at e; cases e
/-- A new box, filled. -/
def bxH (h : H) (N : Int) (u : V) : H := (h.new (.cells false [.int .i64 0, .nils])).set h.next (some (.cells false [.int .i64 N, u]))
theorem bxH_eq (h : H) (N : Int) (u : V) : (h.new (.cells false [.int .i64 0, .nils])).set h.next (some (.cells false [.int .i64 N, u])) = bxH h N u := rfl
theorem bxH_fr (h : H) (N : Int) (u : V) : Fr h (bxH h N u) := ((Fr.refl h).new _).set (Nat.le_refl _) _
theorem bxH_bx (h : H) {N : Int} {A : List Int} {u : V} (s : SI h u A) : Bx (bxH h N u) h.next (N, A) := ⟨u, H.get_set_same .., s.mono (bxH_fr h N u), by rw [bxH, H.next_set, H.next_new]; omega⟩
theorem Bx.cv {h : H} {id : Nat} {a : Int × List Int} (b : Bx h id a) : ∃ u, h.row id 0 2 = some [.int .i64 a.1, u] ∧ CycV h (.agg [.int .i64 a.1, u]) a := by
  obtain ⟨u, h1, h2, _⟩ := b; exact ⟨u, row_two h1, u, rfl, h2⟩
end
end Go.Proofs.Ythfabknpogbcaaa
