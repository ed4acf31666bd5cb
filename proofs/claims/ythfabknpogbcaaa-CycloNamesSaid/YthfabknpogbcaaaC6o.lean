/- Contracts: Scale, Quot, Rational, Cmp. -/
import Derived.Test.YthfabknpogbcaaaC6m
namespace Go.Proofs.Ythfabknpogbcaaa
open Go Go.Ay
set_option maxRecDepth 100000
noncomputable section

def setK (f : Int → Int) (A : List Int) : Nat → List Int
  | 0 => A
  | k + 1 => (setK f A k).set k (f (A.getD k 0))
theorem setK_len (f : Int → Int) (A : List Int) : ∀ k, (setK f A k).length = A.length
  | 0 => rfl
  | k + 1 => by rw [setK, List.length_set, setK_len f A k]
theorem setK_at (f : Int → Int) (A : List Int) : ∀ k j, j < A.length → (setK f A k).getD j 0 = if j < k then f (A.getD j 0) else A.getD j 0
  | 0, j, _ => by rw [if_neg (by omega)]; rfl
  | k + 1, j, hj => by
    rw [setK, getD_set, setK_len, setK_at f A k j hj]
    by_cases h : k = j
    · subst h; rw [if_pos rfl, if_pos hj, if_pos (by omega)]
    · rw [if_neg h]
      by_cases h2 : j < k
      · rw [if_pos h2, if_pos (by omega)]
      · rw [if_neg h2, if_neg (by omega)]
theorem setK_all (f : Int → Int) (A : List Int) : setK f A A.length = A.map f := by
  apply eq_of_getD
  · rw [setK_len, List.length_map]
  · intro j hj
    rw [setK_len] at hj
    rw [setK_at f A _ j hj, if_pos hj, List.getD_eq_getElem?_getD, List.getD_eq_getElem?_getD, List.getElem?_map, List.getElem?_eq_getElem hj]; rfl

def scaleF (a : Int × List Int) (k : Int) : (Int × List Int) × Int :=
  if checkF a ≠ 0 then ((0, []), checkF a) else if overF k then ((0, []), 5) else madeF a.1.toNat (a.2.map fun x => W (x * k))

set_option maxHeartbeats 1000000 in
theorem scale_ok (v : V) (a : Int × List Int) (k : Int) (h : H) (ha : CycV h v a) (hl : a.2.length < 1000000) :
    Ev T n_cyclo_Scale [v, .int .i64 k] h (fun v h' => ∃ w, v = .tup [w, .int .i64 (scaleF a k).2] ∧ CycO h' w (scaleF a k).1 h.next ∧ Fr h h') := by
  obtain ⟨u, rfl, hu⟩ := ha
  obtain ⟨N, A⟩ := a
  simp only at hu hl
  refine Ev_of t_cyclo_Scale rfl ?_
  simp (disch := first | omega | (simp only [List.length_set, List.length_replicate, List.length_append, List.length_take, List.length_drop, List.length_cons, List.length_nil, List.length_map, List.length_range, ints_length] <;> omega)) only [go_sem, c_cyclo_Scale, initV_eq, boxV_agg2 h (v := .int .i64 N) rfl hu.what.2.1]
  have hfx : Fr h (h.new (.cells false [.int .i64 N, u])) := (Fr.refl h).new _
  have hgx : (h.new (.cells false [.int .i64 N, u])).get h.next = some (.cells false [.int .i64 N, u]) := H.get_new_same ..
  have hnx : (h.new (.cells false [.int .i64 N, u])).next = h.next + 1 := H.next_new ..
  generalize h.new (.cells false [.int .i64 N, u]) = hx at *
  rw [← hnx]
  have hfa : Fr hx (hx.new (.cells false [.int .i64 0, .nils])) := (Fr.refl hx).new _
  have hga : (hx.new (.cells false [.int .i64 0, .nils])).get hx.next = some (.cells false [.int .i64 0, .nils]) := H.get_new_same ..
  have hna : (hx.new (.cells false [.int .i64 0, .nils])).next = hx.next + 1 := H.next_new ..
  have hst2 := fun hh => stV_agg2 hh hx.next 0 (v := .int .i64 0) (u := .nils) rfl rfl
  generalize hx.new (.cells false [.int .i64 0, .nils]) = ha at *
  have hgxa := (hfa.get h.next (by omega)).trans hgx
  have hfh := hfx.trans hfa
  simp (disch := first | omega | (simp only [List.length_set, List.length_replicate, List.length_append, List.length_take, List.length_drop, List.length_cons, List.length_nil, List.length_map, List.length_range, ints_length] <;> omega)) only [go_sem, row_two hgxa]
  refine (check_ok _ (N, A) ha ⟨u, rfl, hu.mono hfh⟩ hl).mono ?_
  rintro v1 hb ⟨rfl, hfb⟩
  have hgb := (hfb.get hx.next (by omega)).trans hga
  have hgxb := (hfb.get h.next (by omega)).trans hgxa
  have hnb := hfb.next
  have hrow0 := row_two (h := hb.set hx.next (some (.cells false [.int .i64 0, .nils]))) (H.get_set_same ..)
  have hF : Fr h hb := hfh.trans hfb
  have hzero : Fr h (hb.set hx.next (some (.cells false [.int .i64 0, .nils]))) := hF.set (by omega) _
  simp (disch := first | omega | (simp only [List.length_set, List.length_replicate, List.length_append, List.length_take, List.length_drop, List.length_cons, List.length_nil, List.length_map, List.length_range, ints_length] <;> omega)) only [go_sem]
  refine iteW_dec (fun h1 => ?_) (fun h1 => ?_)
  · simp (disch := first | omega | (simp only [List.length_set, List.length_replicate, List.length_append, List.length_take, List.length_drop, List.length_cons, List.length_nil, List.length_map, List.length_range, ints_length] <;> omega)) only [go_sem, hst2, hgb, hrow0]
    rw [scaleF, if_pos h1]
    exact ⟨_, rfl, CycO.zero _ _, hzero⟩
  have h1' : checkF (N, A) = 0 := by omega
  have hrg := check_range h1'
  simp only at hrg
  obtain ⟨m, hm⟩ : ∃ m : Nat, N = (m : Int) := ⟨N.toNat, by omega⟩
  subst hm
  rw [scaleF, if_neg h1]
  have c0 : hb.cell h.next 0 = some (.int .i64 (m : Int)) := by rw [H.cell_of hgxb]; rfl
  have c1 : hb.cell h.next 1 = some u := by rw [H.cell_of hgxb]; rfl
  have hpl := phi_len (n := m) (by omega) (by omega)
  rw [Int.toNat_natCast] at hrg
  simp (disch := first | omega | (simp only [List.length_set, List.length_replicate, List.length_append, List.length_take, List.length_drop, List.length_cons, List.length_nil, List.length_map, List.length_range, ints_length] <;> omega)) only [go_sem]
  refine (over_ok k hb).mono ?_
  rintro v3 h3 ⟨rfl, hh3⟩
  obtain rfl := hh3.symm
  simp (disch := first | omega | (simp only [List.length_set, List.length_replicate, List.length_append, List.length_take, List.length_drop, List.length_cons, List.length_nil, List.length_map, List.length_range, ints_length] <;> omega)) only [go_sem]
  refine iteW_bool (fun h5 => ?_) (fun h5 => ?_)
  · simp (disch := first | omega | (simp only [List.length_set, List.length_replicate, List.length_append, List.length_take, List.length_drop, List.length_cons, List.length_nil, List.length_map, List.length_range, ints_length] <;> omega)) only [go_sem, hst2, hgb, hrow0]
    rw [if_pos h5]
    exact ⟨_, rfl, CycO.zero _ _, hzero⟩
  rw [if_neg (by rw [h5]; simp)]
  simp (disch := first | omega | (simp only [List.length_set, List.length_replicate, List.length_append, List.length_take, List.length_drop, List.length_cons, List.length_nil, List.length_map, List.length_range, ints_length] <;> omega)) only [go_sem, c1]
  refine (clone_ok u A hb (hu.mono hF) hl).mono ?_
  rintro v4 h4 ⟨hown, hf4, hcap⟩
  obtain ⟨lid, rfl, hl1, hl2, hlg⟩ := hcap (by omega)
  have hn4 := hf4.next
  simp (disch := first | omega | (simp only [List.length_set, List.length_replicate, List.length_append, List.length_take, List.length_drop, List.length_cons, List.length_nil, List.length_map, List.length_range, ints_length] <;> omega)) only [go_sem, Int.toNat_natCast]
  refine Wp_loop (fun k' vars h6 => ∃ (j : Nat), (∃ g : Nat → V, vars = [g 0, .int .i64 k, .ptr h.next 0, .ptr hx.next 0, g 4, g 5, .sl lid 0 A.length (.un 1), g 7, g 8, g 9, .int .i64 (A.length : Int), .int .i64 (j : Int), g 12]) ∧ j ≤ A.length ∧
    h6.get lid = some (.cells false (ints (setK (fun x => W (x * k)) A j))) ∧ Fr hb h6 ∧ lid < h6.next ∧ k' = A.length - j) A.length
    ⟨0, ex_junk rfl, Nat.zero_le _, hlg, hf4, hl2, rfl⟩ ?_
  rintro k' vars h6 ⟨j, ⟨g, rfl⟩, hj, hg6, hf6, hn6, rfl⟩
  have hal := setK_len (fun x => W (x * k)) A j
  simp (disch := first | omega | (simp only [List.length_set, List.length_replicate, List.length_append, List.length_take, List.length_drop, List.length_cons, List.length_nil, List.length_map, List.length_range, ints_length] <;> omega)) only [go_sem]
  by_cases hjc : (j : Int) < (A.length : Int)
  · rw [decide_eq_true hjc]
    have hat := setK_at (fun x => W (x * k)) A j j (by omega)
    rw [if_neg (by omega)] at hat
    have hstep : setK (fun x => W (x * k)) A (j + 1) = (setK (fun x => W (x * k)) A j).set j (W (A.getD j 0 * k)) := rfl
    simp (disch := first | omega | (simp only [List.length_set, List.length_replicate, List.length_append, List.length_take, List.length_drop, List.length_cons, List.length_nil, List.length_map, List.length_range, ints_length] <;> omega)) only [go_sem, own_cell hg6, hg6, hat]
    rw [show (j : Int) + 1 = ((j + 1 : Nat) : Int) from by omega]
    refine ⟨A.length - (j + 1), by omega, j + 1, ex_junk rfl, by omega, by rw [hstep], ?_, by omega, rfl⟩
    exact hf6.set hl1 _
  · rw [decide_eq_false hjc]
    have : A.length = j := by omega
    subst this
    have d0 : h6.cell h.next 0 = some (.int .i64 (m : Int)) := by rw [hf6.cell (by omega)]; exact c0
    simp (disch := first | omega | (simp only [List.length_set, List.length_replicate, List.length_append, List.length_take, List.length_drop, List.length_cons, List.length_nil, List.length_map, List.length_range, ints_length] <;> omega)) only [go_sem, d0]
    rw [setK_all] at hg6
    have hsi : SI h6 (.sl lid 0 A.length (.un 1)) (A.map fun x => W (x * k)) := by
      have := SI.own (h := h6) (id := lid) (by omega) hg6 (.un 1)
      rw [List.length_map] at this; exact this
    refine (made_ok m _ _ h6 (by omega) (by omega) hsi (by rw [List.length_map]; omega)).mono ?_
    rintro v7 h7 ⟨w, rfl, hcy, hf7⟩
    generalize madeF m _ = M at *
    have hf47 : Fr hb h7 := hf6.trans hf7
    have hg7 := (hf47.get hx.next (by omega)).trans hgb
    have hn67 := hf6.next
    obtain ⟨u', rfl, hu', hfu⟩ := hcy
    have hst3 := fun hh => stV_agg2 hh hx.next 0 (v := .int .i64 M.1.1) (u := u') rfl hu'.what.2.1
    have hrow := row_two (h := h7.set hx.next (some (.cells false [.int .i64 M.1.1, u']))) (H.get_set_same ..)
    simp (disch := first | omega | (simp only [List.length_set, List.length_replicate, List.length_append, List.length_take, List.length_drop, List.length_cons, List.length_nil, List.length_map, List.length_range, ints_length] <;> omega)) only [go_sem, hst3, hg7, hrow]
    exact ⟨_, rfl, (CycO.set ⟨u', rfl, hu', hfu⟩ (by omega) _).le (by omega), (hF.trans hf47).set (by omega) _⟩

def quotF (a : Int × List Int) (k : Int) : (Int × List Int) × Int :=
  if checkF a ≠ 0 then ((0, []), checkF a) else if k = 0 then ((0, []), 6) else if a.2.any (fun x => decide (x.tmod k ≠ 0)) then ((0, []), 18) else ((a.1, a.2.map fun x => W (x.tdiv k)), 0)

set_option maxHeartbeats 1000000 in
theorem quot_ok (v : V) (a : Int × List Int) (k : Int) (h : H) (ha : CycV h v a) (hl : a.2.length < 1000000) :
    Ev T n_cyclo_Quot [v, .int .i64 k] h (fun v h' => ∃ w, v = .tup [w, .int .i64 (quotF a k).2] ∧ CycO h' w (quotF a k).1 h.next ∧ Fr h h') := by
  obtain ⟨u, rfl, hu⟩ := ha
  obtain ⟨N, A⟩ := a
  simp only at hu hl
  refine Ev_of t_cyclo_Quot rfl ?_
  simp (disch := first | omega | (simp only [List.length_set, List.length_replicate, List.length_append, List.length_take, List.length_drop, List.length_cons, List.length_nil, List.length_map, List.length_range, ints_length] <;> omega)) only [go_sem, c_cyclo_Quot, initV_eq, boxV_agg2 h (v := .int .i64 N) rfl hu.what.2.1]
  have hfx : Fr h (h.new (.cells false [.int .i64 N, u])) := (Fr.refl h).new _
  have hgx : (h.new (.cells false [.int .i64 N, u])).get h.next = some (.cells false [.int .i64 N, u]) := H.get_new_same ..
  have hnx : (h.new (.cells false [.int .i64 N, u])).next = h.next + 1 := H.next_new ..
  generalize h.new (.cells false [.int .i64 N, u]) = hx at *
  rw [← hnx]
  have hfa : Fr hx (hx.new (.cells false [.int .i64 0, .nils])) := (Fr.refl hx).new _
  have hga : (hx.new (.cells false [.int .i64 0, .nils])).get hx.next = some (.cells false [.int .i64 0, .nils]) := H.get_new_same ..
  have hna : (hx.new (.cells false [.int .i64 0, .nils])).next = hx.next + 1 := H.next_new ..
  have hst2 := fun hh => stV_agg2 hh hx.next 0 (v := .int .i64 0) (u := .nils) rfl rfl
  generalize hx.new (.cells false [.int .i64 0, .nils]) = ha at *
  have hgxa := (hfa.get h.next (by omega)).trans hgx
  have hfh := hfx.trans hfa
  simp (disch := first | omega | (simp only [List.length_set, List.length_replicate, List.length_append, List.length_take, List.length_drop, List.length_cons, List.length_nil, List.length_map, List.length_range, ints_length] <;> omega)) only [go_sem, row_two hgxa]
  refine (check_ok _ (N, A) ha ⟨u, rfl, hu.mono hfh⟩ hl).mono ?_
  rintro v1 hb ⟨rfl, hfb⟩
  have hgb := (hfb.get hx.next (by omega)).trans hga
  have hgxb := (hfb.get h.next (by omega)).trans hgxa
  have hnb := hfb.next
  have hrow0 := row_two (h := hb.set hx.next (some (.cells false [.int .i64 0, .nils]))) (H.get_set_same ..)
  have hF : Fr h hb := hfh.trans hfb
  have hzero : Fr h (hb.set hx.next (some (.cells false [.int .i64 0, .nils]))) := hF.set (by omega) _
  simp (disch := first | omega | (simp only [List.length_set, List.length_replicate, List.length_append, List.length_take, List.length_drop, List.length_cons, List.length_nil, List.length_map, List.length_range, ints_length] <;> omega)) only [go_sem]
  refine iteW_dec (fun h1 => ?_) (fun h1 => ?_)
  · simp (disch := first | omega | (simp only [List.length_set, List.length_replicate, List.length_append, List.length_take, List.length_drop, List.length_cons, List.length_nil, List.length_map, List.length_range, ints_length] <;> omega)) only [go_sem, hst2, hgb, hrow0]
    rw [quotF, if_pos h1]
    exact ⟨_, rfl, CycO.zero _ _, hzero⟩
  have h1' : checkF (N, A) = 0 := by omega
  have hrg := check_range h1'
  simp only at hrg
  obtain ⟨m, hm⟩ : ∃ m : Nat, N = (m : Int) := ⟨N.toNat, by omega⟩
  subst hm
  rw [quotF, if_neg h1]
  have c0 : hb.cell h.next 0 = some (.int .i64 (m : Int)) := by rw [H.cell_of hgxb]; rfl
  have c1 : hb.cell h.next 1 = some u := by rw [H.cell_of hgxb]; rfl
  have hpl := phi_len (n := m) (by omega) (by omega)
  rw [Int.toNat_natCast] at hrg
  simp (disch := first | omega | (simp only [List.length_set, List.length_replicate, List.length_append, List.length_take, List.length_drop, List.length_cons, List.length_nil, List.length_map, List.length_range, ints_length] <;> omega)) only [go_sem]
  refine iteW_dec (fun h5 => ?_) (fun h5 => ?_)
  · simp (disch := first | omega | (simp only [List.length_set, List.length_replicate, List.length_append, List.length_take, List.length_drop, List.length_cons, List.length_nil, List.length_map, List.length_range, ints_length] <;> omega)) only [go_sem, hst2, hgb, hrow0]
    rw [if_pos h5]
    exact ⟨_, rfl, CycO.zero _ _, hzero⟩
  rw [if_neg h5]
  simp (disch := first | omega | (simp only [List.length_set, List.length_replicate, List.length_append, List.length_take, List.length_drop, List.length_cons, List.length_nil, List.length_map, List.length_range, ints_length] <;> omega)) only [go_sem, c0, c1]
  refine (clone_ok u A _ ((hu.mono hF).mono ((Fr.refl hb).bump (by omega))) hl).mono ?_
  rintro v4 h4 ⟨hown, hf4, hcap⟩
  obtain ⟨lid, rfl, hl1, hl2, hlg⟩ := hcap (by omega)
  have hn4 := hf4.next
  simp only at hl1 hn4
  have hgx4 := (hf4.get h.next (by show h.next < hb.next + 8; omega)).trans hgxb
  have d0 : h4.cell h.next 0 = some (.int .i64 (m : Int)) := by rw [H.cell_of hgx4]; rfl
  have d1 : h4.cell h.next 1 = some u := by rw [H.cell_of hgx4]; rfl
  simp (disch := first | omega | (simp only [List.length_set, List.length_replicate, List.length_append, List.length_take, List.length_drop, List.length_cons, List.length_nil, List.length_map, List.length_range, ints_length] <;> omega)) only [go_sem, d0, d1, bldV_two (z1 := .int .i64 0) (z2 := .nils) (v := .int .i64 (m : Int)) (u := .sl lid 0 A.length (.un 1)) rfl rfl rfl rfl, hu.eqV]
  have hstO := fun hh => stV_agg2 hh (hb.next + 6) 0 (v := .int .i64 (m : Int)) (u := .sl lid 0 A.length (.un 1)) rfl rfl
  have hO1 : (H.mk ((H.mk h4.tr (hb.next + 6)).new (.cells false [.int .i64 0, .nils])).tr h4.next).get (hb.next + 6) = some (.cells false [.int .i64 0, .nils]) := by
    rw [H.get_next', H.get_new, if_pos rfl]
  have hO2 : ∀ z, z ≠ hb.next + 6 → (H.mk ((H.mk h4.tr (hb.next + 6)).new (.cells false [.int .i64 0, .nils])).tr h4.next).get z = h4.get z := fun z hz => by
    rw [H.get_next', H.get_new, if_neg hz]; rfl
  have hOn : (H.mk ((H.mk h4.tr (hb.next + 6)).new (.cells false [.int .i64 0, .nils])).tr h4.next).next = h4.next := rfl
  generalize H.mk ((H.mk h4.tr (hb.next + 6)).new (.cells false [.int .i64 0, .nils])).tr h4.next = h5 at *
  simp (disch := first | omega | (simp only [List.length_set, List.length_replicate, List.length_append, List.length_take, List.length_drop, List.length_cons, List.length_nil, List.length_map, List.length_range, ints_length] <;> omega)) only [go_sem, hstO, hO1]
  have hP1 : (h5.set (hb.next + 6) (some (.cells false [.int .i64 (m : Int), .sl lid 0 A.length (.un 1)]))).get (hb.next + 6) = some (.cells false [.int .i64 (m : Int), .sl lid 0 A.length (.un 1)]) := H.get_set_same ..
  have hP2 : ∀ z, z ≠ hb.next + 6 → (h5.set (hb.next + 6) (some (.cells false [.int .i64 (m : Int), .sl lid 0 A.length (.un 1)]))).get z = h4.get z := fun z hz => by rw [H.get_set_ne _ hz]; exact hO2 z hz
  have hPn : (h5.set (hb.next + 6) (some (.cells false [.int .i64 (m : Int), .sl lid 0 A.length (.un 1)]))).next = h4.next := hOn
  have d1' : h5.cell h.next 1 = some u := by unfold H.cell; rw [hO2 _ (by omega), hgx4]; rfl
  simp (disch := first | omega | (simp only [List.length_set, List.length_replicate, List.length_append, List.length_take, List.length_drop, List.length_cons, List.length_nil, List.length_map, List.length_range, ints_length] <;> omega)) only [go_sem, d1', hu.lens]
  generalize h5.set (hb.next + 6) (some (.cells false [.int .i64 (m : Int), .sl lid 0 A.length (.un 1)])) = h6 at *
  have hF6 : Fr hb h6 := ⟨by omega, fun z hz => by rw [hP2 z (by omega)]; exact hf4.get z (by show z < hb.next + 8; omega)⟩
  obtain ⟨cid, coff, hcs, hcid, hcc⟩ := hu.open
  refine Wp_loop (fun k' vars h7 => ∃ (j : Nat), (∃ g : Nat → V, vars = [g 0, .int .i64 k, .ptr h.next 0, .ptr hx.next 0, g 4, g 5, .ptr (hb.next + 6) 0, g 7, g 8, g 9, g 10, u, .int .i64 (A.length : Int), .int .i64 (j : Int), g 14, g 15]) ∧ j ≤ A.length ∧
    h7.get lid = some (.cells false (ints (setK (fun x => W (x.tdiv k)) A j))) ∧ h7.get (hb.next + 6) = some (.cells false [.int .i64 (m : Int), .sl lid 0 A.length (.un 1)]) ∧ Fr hb h7 ∧ lid < h7.next ∧ (∀ i, i < j → (A.getD i 0).tmod k = 0) ∧ k' = A.length - j) A.length
    ⟨0, ex_junk rfl, Nat.zero_le _, by rw [hP2 _ (by omega)]; exact hlg, hP1, hF6, by omega, fun i hi => by omega, rfl⟩ ?_
  rintro k' vars h7 ⟨j, ⟨g, rfl⟩, hj, hg7, ho7, hf7, hn7, hdv, rfl⟩
  have hal := setK_len (fun x => W (x.tdiv k)) A j
  simp (disch := first | omega | (simp only [List.length_set, List.length_replicate, List.length_append, List.length_take, List.length_drop, List.length_cons, List.length_nil, List.length_map, List.length_range, ints_length] <;> omega)) only [go_sem]
  by_cases hjc : (j : Int) < (A.length : Int)
  · rw [decide_eq_true hjc]
    have hcc7 := cells_fr (hF.trans hf7) hcid hcc
    have hstep : setK (fun x => W (x.tdiv k)) A (j + 1) = (setK (fun x => W (x.tdiv k)) A j).set j (W ((A.getD j 0).tdiv k)) := rfl
    simp (disch := first | omega | (simp only [List.length_set, List.length_replicate, List.length_append, List.length_take, List.length_drop, List.length_cons, List.length_nil, List.length_map, List.length_range, ints_length] <;> omega)) only [go_sem, hcs.ixa, hcc7, arith_rem]
    refine iteW_dec (fun hnz => ?_) (fun hz => ?_)
    · have hgo := (hf7.get hx.next (by omega)).trans hgb
      have hrow7 := row_two (h := h7.set hx.next (some (.cells false [.int .i64 0, .nils]))) (H.get_set_same ..)
      simp (disch := first | omega | (simp only [List.length_set, List.length_replicate, List.length_append, List.length_take, List.length_drop, List.length_cons, List.length_nil, List.length_map, List.length_range, ints_length] <;> omega)) only [go_sem, hst2, hgo, hrow7]
      have hany : A.any (fun x => decide (x.tmod k ≠ 0)) = true := by
        rw [List.any_eq_true]
        refine ⟨A.getD j 0, ?_, decide_eq_true hnz⟩
        rw [List.getD_eq_getElem?_getD, List.getElem?_eq_getElem (by omega)]
        exact List.getElem_mem _
      rw [if_pos hany]
      exact ⟨_, rfl, CycO.zero _ _, (hF.trans hf7).set (by omega) _⟩
    · have ho71 : h7.cell (hb.next + 6) 1 = some (.sl lid 0 A.length (.un 1)) := by rw [H.cell_of ho7]; rfl
      simp (disch := first | omega | (simp only [List.length_set, List.length_replicate, List.length_append, List.length_take, List.length_drop, List.length_cons, List.length_nil, List.length_map, List.length_range, ints_length] <;> omega)) only [go_sem, ho71, hg7, arith_quo]
      rw [show (j : Int) + 1 = ((j + 1 : Nat) : Int) from by omega]
      refine ⟨A.length - (j + 1), by omega, j + 1, ex_junk rfl, by omega, by rw [hstep], ho7, ?_, by omega, fun i hi => ?_, rfl⟩
      · exact (hf7.bump (by omega)).set (by omega) _
      · by_cases hij : i = j
        · rw [hij]; exact Decidable.byContradiction hz
        · exact hdv i (by omega)
  · rw [decide_eq_false hjc]
    have : A.length = j := by omega
    subst this
    rw [setK_all] at hg7
    have hgo := (hf7.get hx.next (by omega)).trans hgb
    have hst3 := fun hh => stV_agg2 hh hx.next 0 (v := .int .i64 (m : Int)) (u := .sl lid 0 A.length (.un 1)) rfl rfl
    have hrow := row_two (h := h7.set hx.next (some (.cells false [.int .i64 (m : Int), .sl lid 0 A.length (.un 1)]))) (H.get_set_same ..)
    simp (disch := first | omega | (simp only [List.length_set, List.length_replicate, List.length_append, List.length_take, List.length_drop, List.length_cons, List.length_nil, List.length_map, List.length_range, ints_length] <;> omega)) only [go_sem, row_two ho7, hst3, hgo, hrow]
    have hany : ¬ A.any (fun x => decide (x.tmod k ≠ 0)) = true := by
      rw [List.any_eq_true]
      rintro ⟨x, hx1, hx2⟩
      obtain ⟨i, hi, rfl⟩ := List.getElem_of_mem hx1
      have := hdv i hi
      rw [List.getD_eq_getElem?_getD, List.getElem?_eq_getElem hi] at this
      exact (of_decide_eq_true hx2) this
    rw [if_neg hany]
    have hsi : SI h7 (.sl lid 0 A.length (.un 1)) (A.map fun x => W (x.tdiv k)) := by
      have := SI.own (h := h7) (id := lid) (by omega) hg7 (.un 1)
      rw [List.length_map] at this; exact this
    have hco : CycO h7 (.agg [.int .i64 (m : Int), .sl lid 0 A.length (.un 1)]) ((m : Int), A.map fun x => W (x.tdiv k)) (hx.next + 1) := ⟨.sl lid 0 A.length (.un 1), rfl, hsi, fun _ _ _ _ e => by cases e; omega⟩
    exact ⟨_, rfl, (hco.set (by omega) _).le (by omega), (hF.trans hf7).set (by omega) _⟩

def ratF (a : Int × List Int) : Int × Bool := if a.1 ≠ 1 ∨ checkF a ≠ 0 then (0, false) else (a.2.getD 0 0, true)
theorem rat_ok (v : V) (a : Int × List Int) (h : H) (ha : CycV h v a) (hl : a.2.length < 1000000) :
    Ev T n_cyclo_Rational [v] h (fun v h' => v = .tup [.int .i64 (ratF a).1, .bool (ratF a).2] ∧ Fr h h') := by
  obtain ⟨u, rfl, hu⟩ := ha
  obtain ⟨N, A⟩ := a
  simp only at hu hl
  refine Ev_of t_cyclo_Rational rfl ?_
  simp (disch := first | omega | (simp only [List.length_set, List.length_replicate, List.length_append, List.length_take, List.length_drop, List.length_cons, List.length_nil, List.length_map, List.length_range, ints_length] <;> omega)) only [go_sem, c_cyclo_Rational, initV_eq, boxV_agg2 h (v := .int .i64 N) rfl hu.what.2.1]
  have hfx : Fr h (h.new (.cells false [.int .i64 N, u])) := (Fr.refl h).new _
  have hgx : (h.new (.cells false [.int .i64 N, u])).get h.next = some (.cells false [.int .i64 N, u]) := H.get_new_same ..
  have hnx : (h.new (.cells false [.int .i64 N, u])).next = h.next + 1 := H.next_new ..
  generalize h.new (.cells false [.int .i64 N, u]) = hx at *
  by_cases h1 : N ≠ 1
  · rw [decide_eq_true h1]
    simp (disch := first | omega | (simp only [List.length_set, List.length_replicate, List.length_append, List.length_take, List.length_drop, List.length_cons, List.length_nil, List.length_map, List.length_range, ints_length] <;> omega)) only [go_sem]
    rw [ratF, if_pos (.inl h1)]
    exact ⟨rfl, hfx⟩
  rw [decide_eq_false h1]
  simp (disch := first | omega | (simp only [List.length_set, List.length_replicate, List.length_append, List.length_take, List.length_drop, List.length_cons, List.length_nil, List.length_map, List.length_range, ints_length] <;> omega)) only [go_sem, row_two hgx]
  refine (check_ok _ (N, A) hx ⟨u, rfl, hu.mono hfx⟩ hl).mono ?_
  rintro v1 hb ⟨rfl, hfb⟩
  have hgb := (hfb.get h.next (by omega)).trans hgx
  simp (disch := first | omega | (simp only [List.length_set, List.length_replicate, List.length_append, List.length_take, List.length_drop, List.length_cons, List.length_nil, List.length_map, List.length_range, ints_length] <;> omega)) only [go_sem]
  refine iteW_dec (fun h2 => ?_) (fun h2 => ?_)
  · simp (disch := first | omega | (simp only [List.length_set, List.length_replicate, List.length_append, List.length_take, List.length_drop, List.length_cons, List.length_nil, List.length_map, List.length_range, ints_length] <;> omega)) only [go_sem]
    rw [ratF, if_pos (.inr h2)]
    exact ⟨rfl, hfx.trans hfb⟩
  have hrg := check_range (show checkF (N, A) = 0 by omega)
  simp only at hrg
  have hpl := phi_len (n := N.toNat) (by omega) (by omega)
  obtain ⟨cid, coff, hcs, hcid, hcc⟩ := (hu.mono (hfx.trans hfb)).open
  have c1 : hb.cell h.next 1 = some u := by rw [H.cell_of hgb]; rfl
  have hc0 := hcc 0 (by omega)
  rw [Nat.add_zero] at hc0
  simp (disch := first | omega | (simp only [List.length_set, List.length_replicate, List.length_append, List.length_take, List.length_drop, List.length_cons, List.length_nil, List.length_map, List.length_range, ints_length] <;> omega)) only [go_sem, c1, hcs.ixa, hc0]
  rw [ratF, if_neg (by simp only; omega)]
  exact ⟨rfl, hfx.trans hfb⟩

def cmpI (a b : Int) : Int := if a < b then -1 else if b < a then 1 else 0
theorem nan_ok (a : Int) (h : H) : Ev T n_cmp_isNaN_int [.int .i64 a] h (fun v h' => v = .bool false ∧ h' = h) := by
  refine Ev_of t_cmp_isNaN_int rfl ?_
  simp (disch := first | omega | (simp only [List.length_set, List.length_replicate, List.length_append, List.length_take, List.length_drop, List.length_cons, List.length_nil, List.length_map, List.length_range, ints_length] <;> omega)) only [go_sem, c_cmp_isNaN_int, initV_eq]
  exact ⟨by simp, trivial⟩
theorem cmpI_ok (a b : Int) (h : H) : Ev T n_cmp_Compare_int [.int .i64 a, .int .i64 b] h (fun v h' => v = .int .i64 (cmpI a b) ∧ h' = h) := by
  refine Ev_of t_cmp_Compare_int rfl ?_
  simp (disch := first | omega | (simp only [List.length_set, List.length_replicate, List.length_append, List.length_take, List.length_drop, List.length_cons, List.length_nil, List.length_map, List.length_range, ints_length] <;> omega)) only [go_sem, c_cmp_Compare_int, initV_eq]
  refine (nan_ok a h).mono ?_
  rintro v h1 ⟨rfl, rfl⟩
  simp (disch := first | omega | (simp only [List.length_set, List.length_replicate, List.length_append, List.length_take, List.length_drop, List.length_cons, List.length_nil, List.length_map, List.length_range, ints_length] <;> omega)) only [go_sem]
  refine (nan_ok b h1).mono ?_
  rintro v h2 ⟨rfl, rfl⟩
  simp (disch := first | omega | (simp only [List.length_set, List.length_replicate, List.length_append, List.length_take, List.length_drop, List.length_cons, List.length_nil, List.length_map, List.length_range, ints_length] <;> omega)) only [go_sem]
  refine iteW_dec (fun h1 => ?_) (fun h1 => ?_)
  · simp (disch := first | omega | (simp only [List.length_set, List.length_replicate, List.length_append, List.length_take, List.length_drop, List.length_cons, List.length_nil, List.length_map, List.length_range, ints_length] <;> omega)) only [go_sem]
    exact ⟨by rw [cmpI, if_pos h1], trivial⟩
  simp (disch := first | omega | (simp only [List.length_set, List.length_replicate, List.length_append, List.length_take, List.length_drop, List.length_cons, List.length_nil, List.length_map, List.length_range, ints_length] <;> omega)) only [go_sem]
  refine iteW_dec (fun h2 => ?_) (fun h2 => ?_)
  · simp (disch := first | omega | (simp only [List.length_set, List.length_replicate, List.length_append, List.length_take, List.length_drop, List.length_cons, List.length_nil, List.length_map, List.length_range, ints_length] <;> omega)) only [go_sem]
    exact ⟨by rw [cmpI, if_neg h1, if_pos h2], trivial⟩
  · simp (disch := first | omega | (simp only [List.length_set, List.length_replicate, List.length_append, List.length_take, List.length_drop, List.length_cons, List.length_nil, List.length_map, List.length_range, ints_length] <;> omega)) only [go_sem]
    exact ⟨by rw [cmpI, if_neg h1, if_neg h2], trivial⟩
def cmpL : List Int → List Int → Int
  | [], [] => 0
  | [], _ :: _ => -1
  | _ :: _, [] => 1
  | a :: as, b :: bs => if cmpI a b ≠ 0 then cmpI a b else cmpL as bs
theorem drop_getD (l : List Int) (k : Nat) (hk : k < l.length) : l.drop k = l.getD k 0 :: l.drop (k + 1) := by
  rw [List.drop_eq_getElem_cons hk, List.getD_eq_getElem?_getD, List.getElem?_eq_getElem hk]; rfl
theorem cmpL_ok (va vb : V) (a b : List Int) (h : H) (ha : SI h va a) (hb : SI h vb b) (hla : a.length < 1000000) (hlb : b.length < 1000000) :
    Ev T n_slices_Compare_int_int [va, vb] h (fun v h' => v = .int .i64 (cmpL a b) ∧ h' = h) := by
  refine Ev_of t_slices_Compare_int_int rfl ?_
  obtain ⟨id, off, hsl, hid, hc⟩ := ha.open
  obtain ⟨id2, off2, hsl2, hid2, hc2⟩ := hb.open
  simp (disch := first | omega | (simp only [List.length_set, List.length_replicate, List.length_append, List.length_take, List.length_drop, List.length_cons, List.length_nil, List.length_map, List.length_range, ints_length] <;> omega)) only [go_sem, c_slices_Compare_int_int, initV_eq, ha.lens]
  refine Wp_loop (fun k' vars h2 => ∃ (k : Nat), (∃ g : Nat → V, vars = [va, vb, .int .i64 0, g 3, g 4, g 5, g 6, va, .int .i64 (a.length : Int), .int .i64 (k : Int), g 10, g 11, g 12, g 13]) ∧ k ≤ a.length ∧ k ≤ b.length ∧ h2 = h ∧ cmpL a b = cmpL (a.drop k) (b.drop k) ∧ k' = a.length - k) a.length
    ⟨0, ex_junk rfl, Nat.zero_le _, Nat.zero_le _, rfl, rfl, rfl⟩ ?_
  rintro k' vars h2 ⟨k, ⟨g, rfl⟩, hk, hkb, rfl, hor, rfl⟩
  simp (disch := first | omega | (simp only [List.length_set, List.length_replicate, List.length_append, List.length_take, List.length_drop, List.length_cons, List.length_nil, List.length_map, List.length_range, ints_length] <;> omega)) only [go_sem]
  refine iteW_dec (fun hlt => ?_) (fun hge => ?_)
  · have hd := drop_getD a k (by omega)
    simp (disch := first | omega | (simp only [List.length_set, List.length_replicate, List.length_append, List.length_take, List.length_drop, List.length_cons, List.length_nil, List.length_map, List.length_range, ints_length] <;> omega)) only [go_sem, hsl.ixa, hc, hb.lens]
    refine iteW_dec (fun hbe => ?_) (fun hbl => ?_)
    · simp (disch := first | omega | (simp only [List.length_set, List.length_replicate, List.length_append, List.length_take, List.length_drop, List.length_cons, List.length_nil, List.length_map, List.length_range, ints_length] <;> omega)) only [go_sem]
      refine ⟨?_, trivial⟩
      rw [hor, hd, List.drop_of_length_le (show b.length ≤ k by omega), cmpL]
    have hd2 := drop_getD b k (by omega)
    simp (disch := first | omega | (simp only [List.length_set, List.length_replicate, List.length_append, List.length_take, List.length_drop, List.length_cons, List.length_nil, List.length_map, List.length_range, ints_length] <;> omega)) only [go_sem, hsl2.ixa, hc2]
    refine (cmpI_ok _ _ h2).mono ?_
    rintro v3 h3 ⟨rfl, rfl⟩
    simp (disch := first | omega | (simp only [List.length_set, List.length_replicate, List.length_append, List.length_take, List.length_drop, List.length_cons, List.length_nil, List.length_map, List.length_range, ints_length] <;> omega)) only [go_sem]
    refine iteW_dec (fun hne => ?_) (fun he => ?_)
    · simp (disch := first | omega | (simp only [List.length_set, List.length_replicate, List.length_append, List.length_take, List.length_drop, List.length_cons, List.length_nil, List.length_map, List.length_range, ints_length] <;> omega)) only [go_sem]
      refine ⟨?_, trivial⟩
      rw [hor, hd, hd2, cmpL, if_pos hne]
    · simp (disch := first | omega | (simp only [List.length_set, List.length_replicate, List.length_append, List.length_take, List.length_drop, List.length_cons, List.length_nil, List.length_map, List.length_range, ints_length] <;> omega)) only [go_sem]
      rw [show (k : Int) + 1 = ((k + 1 : Nat) : Int) from by omega]
      refine ⟨a.length - (k + 1), by omega, k + 1, ex_junk rfl, by omega, by omega, ?_, rfl⟩
      rw [hor, hd, hd2, cmpL, if_neg he]
  · simp (disch := first | omega | (simp only [List.length_set, List.length_replicate, List.length_append, List.length_take, List.length_drop, List.length_cons, List.length_nil, List.length_map, List.length_range, ints_length] <;> omega)) only [go_sem, ha.lens, hb.lens]
    have hda : a.drop k = [] := List.drop_of_length_le (by omega)
    refine iteW_dec (fun hlt => ?_) (fun hge2 => ?_)
    · simp (disch := first | omega | (simp only [List.length_set, List.length_replicate, List.length_append, List.length_take, List.length_drop, List.length_cons, List.length_nil, List.length_map, List.length_range, ints_length] <;> omega)) only [go_sem]
      refine ⟨?_, trivial⟩
      rw [hor, hda, drop_getD b k (by omega)]; rfl
    · simp (disch := first | omega | (simp only [List.length_set, List.length_replicate, List.length_append, List.length_take, List.length_drop, List.length_cons, List.length_nil, List.length_map, List.length_range, ints_length] <;> omega)) only [go_sem]
      refine ⟨?_, trivial⟩
      rw [hor, hda, List.drop_of_length_le (show b.length ≤ k by omega)]; rfl
theorem orI_ok (v : V) (l : List Int) (h : H) (hs : SI h v l) (hl : l.length < 1000000) : Ev T n_cmp_Or_int [v] h (fun v h' => v = .int .i64 (orF l) ∧ h' = h) := by
  refine Ev_of t_cmp_Or_int rfl ?_
  obtain ⟨id, off, hsl, hid, hc⟩ := hs.open
  simp (disch := first | omega | (simp only [List.length_set, List.length_replicate, List.length_append, List.length_take, List.length_drop, List.length_cons, List.length_nil, List.length_map, List.length_range, ints_length] <;> omega)) only [go_sem, c_cmp_Or_int, initV_eq, hs.lens]
  refine Wp_loop (fun k' vars h2 => ∃ (k : Nat), (∃ g : Nat → V, vars = [g 0, g 1, .int .i64 0, g 3, v, .int .i64 (l.length : Int), .int .i64 (k : Int), g 7, g 8]) ∧ k ≤ l.length ∧ h2 = h ∧ orF l = orF (l.drop k) ∧ k' = l.length - k) l.length
    ⟨0, ex_junk rfl, Nat.zero_le _, rfl, rfl, rfl⟩ ?_
  rintro k' vars h2 ⟨k, ⟨g, rfl⟩, hk, rfl, hor, rfl⟩
  simp (disch := first | omega | (simp only [List.length_set, List.length_replicate, List.length_append, List.length_take, List.length_drop, List.length_cons, List.length_nil, List.length_map, List.length_range, ints_length] <;> omega)) only [go_sem]
  refine iteW_dec (fun hlt => ?_) (fun hge => ?_)
  · have hd := drop_getD l k (by omega)
    simp (disch := first | omega | (simp only [List.length_set, List.length_replicate, List.length_append, List.length_take, List.length_drop, List.length_cons, List.length_nil, List.length_map, List.length_range, ints_length] <;> omega)) only [go_sem, hsl.ixa, hc]
    refine iteW_dec (fun hne => ?_) (fun he => ?_)
    · simp (disch := first | omega | (simp only [List.length_set, List.length_replicate, List.length_append, List.length_take, List.length_drop, List.length_cons, List.length_nil, List.length_map, List.length_range, ints_length] <;> omega)) only [go_sem]
      refine ⟨?_, trivial⟩
      rw [hor, hd, orF, List.find?_cons, decide_eq_true hne]; rfl
    · simp (disch := first | omega | (simp only [List.length_set, List.length_replicate, List.length_append, List.length_take, List.length_drop, List.length_cons, List.length_nil, List.length_map, List.length_range, ints_length] <;> omega)) only [go_sem]
      rw [show (k : Int) + 1 = ((k + 1 : Nat) : Int) from by omega]
      refine ⟨l.length - (k + 1), by omega, k + 1, ex_junk rfl, by omega, ?_, rfl⟩
      rw [hor, hd, orF, List.find?_cons, decide_eq_false he]; rfl
  · simp (disch := first | omega | (simp only [List.length_set, List.length_replicate, List.length_append, List.length_take, List.length_drop, List.length_cons, List.length_nil, List.length_map, List.length_range, ints_length] <;> omega)) only [go_sem]
    refine ⟨?_, trivial⟩
    rw [hor, List.drop_of_length_le (by omega)]; rfl

def cmpF (a b : Int × List Int) : Int := orF [cmpI a.1 b.1, cmpL a.2 b.2]
set_option maxHeartbeats 1000000 in
theorem cmp_ok (va vb : V) (a b : Int × List Int) (h : H) (ha : CycV h va a) (hb : CycV h vb b) (hla : a.2.length < 1000000) (hlb : b.2.length < 1000000) :
    Ev T n_cyclo_Cmp [va, vb] h (fun v h' => v = .int .i64 (cmpF a b) ∧ Fr h h') := by
  obtain ⟨u, rfl, hu⟩ := ha
  obtain ⟨w, rfl, hw⟩ := hb
  obtain ⟨N, A⟩ := a
  obtain ⟨M, B⟩ := b
  simp only at hu hw hla hlb
  refine Ev_of t_cyclo_Cmp rfl ?_
  simp (disch := first | omega | (simp only [List.length_set, List.length_replicate, List.length_append, List.length_take, List.length_drop, List.length_cons, List.length_nil, List.length_map, List.length_range, ints_length] <;> omega)) only [go_sem, c_cyclo_Cmp, initV_eq, boxV_agg2 h (v := .int .i64 N) rfl hu.what.2.1]
  have hfx : Fr h (h.new (.cells false [.int .i64 N, u])) := (Fr.refl h).new _
  have hgx : (h.new (.cells false [.int .i64 N, u])).get h.next = some (.cells false [.int .i64 N, u]) := H.get_new_same ..
  have hnx : (h.new (.cells false [.int .i64 N, u])).next = h.next + 1 := H.next_new ..
  generalize h.new (.cells false [.int .i64 N, u]) = hx at *
  have x0 : hx.cell h.next 0 = some (.int .i64 N) := by rw [H.cell_of hgx]; rfl
  have x1 : hx.cell h.next 1 = some u := by rw [H.cell_of hgx]; rfl
  simp (disch := first | omega | (simp only [List.length_set, List.length_replicate, List.length_append, List.length_take, List.length_drop, List.length_cons, List.length_nil, List.length_map, List.length_range, ints_length] <;> omega)) only [go_sem, boxV_agg2 hx (v := .int .i64 M) rfl hw.what.2.1, x0, x1]
  have hfy : Fr hx (hx.new (.cells false [.int .i64 M, w])) := (Fr.refl hx).new _
  have hgy : (hx.new (.cells false [.int .i64 M, w])).get hx.next = some (.cells false [.int .i64 M, w]) := H.get_new_same ..
  have hny : (hx.new (.cells false [.int .i64 M, w])).next = hx.next + 1 := H.next_new ..
  have c0 : (hx.new (.cells false [.int .i64 M, w])).cell hx.next 0 = some (.int .i64 M) := by rw [H.cell_of hgy]; rfl
  have c1 : (hx.new (.cells false [.int .i64 M, w])).cell hx.next 1 = some w := by rw [H.cell_of hgy]; rfl
  generalize hx.new (.cells false [.int .i64 M, w]) = hy at *
  rw [← hny]
  have hgxy := (hfy.get h.next (by omega)).trans hgx
  have d0 : hy.cell h.next 0 = some (.int .i64 N) := by rw [H.cell_of hgxy]; rfl
  have d1 : hy.cell h.next 1 = some u := by rw [H.cell_of hgxy]; rfl
  have eu : eqV u u = true := SV.eqV hu
  have ew : eqV w w = true := SV.eqV hw
  refine (cmpI_ok N M _).mono ?_
  rintro v3 h3 ⟨rfl, rfl⟩
  simp (disch := first | omega | (simp only [List.length_set, List.length_replicate, List.length_append, List.length_take, List.length_drop, List.length_cons, List.length_nil, List.length_map, List.length_range, ints_length] <;> omega)) only [go_sem, c0, c1, d0, d1, eu, ew]
  have hF := ((hfx.trans hfy).bump (n := hy.next + 13) (by omega))
  refine (cmpL_ok u w A B _ (hu.mono hF) (hw.mono hF) hla hlb).mono ?_
  rintro v3 h3 ⟨rfl, rfl⟩
  simp (disch := first | omega | (simp only [List.length_set, List.length_replicate, List.length_append, List.length_take, List.length_drop, List.length_cons, List.length_nil, List.length_map, List.length_range, ints_length] <;> omega)) only [go_sem, bls_int2]
  have hg5 : (H.mk ((H.mk hy.tr (hy.next + 10)).new (.cells false (ints [cmpI N M, cmpL A B]))).tr (hy.next + 13)).get (hy.next + 10) = some (.cells false (ints [cmpI N M, cmpL A B])) := by
    rw [H.get_next', H.get_new, if_pos rfl]
  have hF5 : Fr hy (H.mk ((H.mk hy.tr (hy.next + 10)).new (.cells false (ints [cmpI N M, cmpL A B]))).tr (hy.next + 13)) := ⟨by show hy.next ≤ hy.next + 13; omega, fun id hid => by rw [H.get_next', H.get_new, if_neg (by show id ≠ hy.next + 10; omega)]; rfl⟩
  have hn5 : (H.mk ((H.mk hy.tr (hy.next + 10)).new (.cells false (ints [cmpI N M, cmpL A B]))).tr (hy.next + 13)).next = hy.next + 13 := rfl
  generalize H.mk ((H.mk hy.tr (hy.next + 10)).new (.cells false (ints [cmpI N M, cmpL A B]))).tr (hy.next + 13) = h5 at *
  have hs5 : SI h5 (.sl (hy.next + 10) 0 2 (.kn 2)) [cmpI N M, cmpL A B] := SI.own (h := h5) (id := hy.next + 10) (l := [cmpI N M, cmpL A B]) (by omega) hg5 (.kn 2)
  refine (orI_ok _ _ h5 hs5 (by simp)).mono ?_
  rintro v6 h6 ⟨rfl, rfl⟩
  simp (disch := first | omega | (simp only [List.length_set, List.length_replicate, List.length_append, List.length_take, List.length_drop, List.length_cons, List.length_nil, List.length_map, List.length_range, ints_length] <;> omega)) only [go_sem]
  exact ⟨rfl, (hfx.trans hfy).trans hF5⟩
end
end Go.Proofs.Ythfabknpogbcaaa
