/- Contracts: Scale, Quot, Rational, Cmp. Contracts of the reference: phi, Phi, reduced, add, over. Plain facts about what the reference computes in place of what the program computes. -/
import Derived.Test.YthfabknpogbcaaaC6gtoC6m
import Derived.Test.YthfabknpogbcaaaC6s0toC6f
/- Contracts: Scale, Quot, Rational, Cmp. -/
namespace Go.Proofs.Ythfabknpogbcaaa
open Go Go.Ay
set_option maxRecDepth 100000
noncomputable section

def setK (f : Int → Int) (A : List Int) : Nat → List Int
  | 0 => A
  | k + 1 => (setK f A k).set k (f (A.getD k 0))
theorem setK_len (f : Int → Int) (A : List Int) : ∀ k, (setK f A k).length = A.length
  | 0 => rfl
  | k + 1 => by rw [setK, List.length_set, setK_len f A k]
theorem setK_at (f : Int → Int) (A : List Int) : ∀ k j, j < A.length → (setK f A k).getD j 0 = if j < k then f (A.getD j 0) else A.getD j 0
  | 0, j, _ => by rw [if_neg (by omega)]; rfl
  | k + 1, j, hj => by
    rw [setK, getD_set, setK_len, setK_at f A k j hj]
    by_cases h : k = j
    · subst h; rw [if_pos rfl, if_pos hj, if_pos (by omega)]
    · rw [if_neg h]
      by_cases h2 : j < k
      · rw [if_pos h2, if_pos (by omega)]
      · rw [if_neg h2, if_neg (by omega)]
theorem setK_all (f : Int → Int) (A : List Int) : setK f A A.length = A.map f := by
  apply eq_of_getD
  · rw [setK_len, List.length_map]
  · intro j hj
    rw [setK_len] at hj
    rw [setK_at f A _ j hj, if_pos hj, List.getD_eq_getElem?_getD, List.getD_eq_getElem?_getD, List.getElem?_map, List.getElem?_eq_getElem hj]; rfl

def scaleF (a : Int × List Int) (k : Int) : (Int × List Int) × Int :=
  if checkF a ≠ 0 then ((0, []), checkF a) else if overF k then ((0, []), 5) else madeF a.1.toNat (a.2.map fun x => W (x * k))

set_option maxHeartbeats 1000000 in
theorem scale_ok (v : V) (a : Int × List Int) (k : Int) (h : H) (ha : CycV h v a) (hl : a.2.length < 1000000) :
    Ev T n_cyclo_Scale [v, .int .i64 k] h (fun v h' => ∃ w, v = .tup [w, .int .i64 (scaleF a k).2] ∧ CycO h' w (scaleF a k).1 h.next ∧ Fr h h') := by
  obtain ⟨u, rfl, hu⟩ := ha
  obtain ⟨N, A⟩ := a
  simp only at hu hl
  refine Ev_of t_cyclo_Scale rfl ?_
  simp (disch := first | omega | (simp only [Qn] <;> omega)) only [go_sem, c_cyclo_Scale, initV_eq, boxV_agg2 h (v := .int .i64 N) rfl hu.what.2.1]
  have hfx : Fr h (h.new (.cells false [.int .i64 N, u])) := (Fr.refl h).new _
  have hgx : (h.new (.cells false [.int .i64 N, u])).get h.next = some (.cells false [.int .i64 N, u]) := H.get_new_same ..
  have hnx : (h.new (.cells false [.int .i64 N, u])).next = h.next + 1 := H.next_new ..
  generalize h.new (.cells false [.int .i64 N, u]) = hx at *
  rw [← hnx]
  have hfa : Fr hx (hx.new (.cells false [.int .i64 0, .nils])) := (Fr.refl hx).new _
  have hga : (hx.new (.cells false [.int .i64 0, .nils])).get hx.next = some (.cells false [.int .i64 0, .nils]) := H.get_new_same ..
  have hna : (hx.new (.cells false [.int .i64 0, .nils])).next = hx.next + 1 := H.next_new ..
  have hst2 := fun hh => stV_agg2 hh hx.next 0 (v := .int .i64 0) (u := .nils) rfl rfl
  generalize hx.new (.cells false [.int .i64 0, .nils]) = ha at *
  have hgxa := (hfa.get h.next (by omega)).trans hgx
  have hfh := hfx.trans hfa
  simp (disch := first | omega | (simp only [Qn] <;> omega)) only [go_sem, row_two hgxa]
  refine (check_ok _ (N, A) ha ⟨u, rfl, hu.mono hfh⟩ hl).mono ?_
  rintro v1 hb ⟨rfl, hfb⟩
  have hgb := (hfb.get hx.next (by omega)).trans hga
  have hgxb := (hfb.get h.next (by omega)).trans hgxa
  have hnb := hfb.next
  have hrow0 := row_two (h := hb.set hx.next (some (.cells false [.int .i64 0, .nils]))) (H.get_set_same ..)
  have hF : Fr h hb := hfh.trans hfb
  have hzero : Fr h (hb.set hx.next (some (.cells false [.int .i64 0, .nils]))) := hF.set (by omega) _
  simp (disch := first | omega | (simp only [Qn] <;> omega)) only [go_sem]
  refine iteW_dec (fun h1 => ?_) (fun h1 => ?_)
  · simp (disch := first | omega | (simp only [Qn] <;> omega)) only [go_sem, hst2, hgb, hrow0]
    rw [scaleF, if_pos h1]
    exact ⟨_, rfl, CycO.zero _ _, hzero⟩
  have h1' : checkF (N, A) = 0 := by omega
  have hrg := check_range h1'
  simp only at hrg
  obtain ⟨m, hm⟩ : ∃ m : Nat, N = (m : Int) := ⟨N.toNat, by omega⟩
  subst hm
  rw [scaleF, if_neg h1]
  have c0 : hb.cell h.next 0 = some (.int .i64 (m : Int)) := by rw [H.cell_of hgxb]; rfl
  have c1 : hb.cell h.next 1 = some u := by rw [H.cell_of hgxb]; rfl
  have hpl := phi_len (n := m) (by omega) (by omega)
  rw [Int.toNat_natCast] at hrg
  simp (disch := first | omega | (simp only [Qn] <;> omega)) only [go_sem]
  refine (over_ok k hb).mono ?_
  rintro v3 h3 ⟨rfl, hh3⟩
  obtain rfl := hh3.symm
  simp (disch := first | omega | (simp only [Qn] <;> omega)) only [go_sem]
  refine iteW_bool (fun h5 => ?_) (fun h5 => ?_)
  · simp (disch := first | omega | (simp only [Qn] <;> omega)) only [go_sem, hst2, hgb, hrow0]
    rw [if_pos h5]
    exact ⟨_, rfl, CycO.zero _ _, hzero⟩
  rw [if_neg (by rw [h5]; simp)]
  simp (disch := first | omega | (simp only [Qn] <;> omega)) only [go_sem, c1]
  refine (clone_ok u A hb (hu.mono hF) hl).mono ?_
  rintro v4 h4 ⟨hown, hf4, hcap⟩
  obtain ⟨lid, rfl, hl1, hl2, hlg⟩ := hcap (by omega)
  have hn4 := hf4.next
  simp (disch := first | omega | (simp only [Qn] <;> omega)) only [go_sem, Int.toNat_natCast]
  refine Wp_loop (fun k' vars h6 => ∃ (j : Nat), (∃ g : Nat → V, vars = [g 0, .int .i64 k, .ptr h.next 0, .ptr hx.next 0, g 4, g 5, .sl lid 0 A.length (.un 1), g 7, g 8, g 9, .int .i64 (A.length : Int), .int .i64 (j : Int), g 12]) ∧ j ≤ A.length ∧
    h6.get lid = some (.cells false (ints (setK (fun x => W (x * k)) A j))) ∧ Fr hb h6 ∧ lid < h6.next ∧ k' = A.length - j) A.length
    ⟨0, ex_junk rfl, Nat.zero_le _, hlg, hf4, hl2, rfl⟩ ?_
  rintro k' vars h6 ⟨j, ⟨g, rfl⟩, hj, hg6, hf6, hn6, rfl⟩
  have hal := setK_len (fun x => W (x * k)) A j
  simp (disch := first | omega | (simp only [Qn] <;> omega)) only [go_sem]
  by_cases hjc : (j : Int) < (A.length : Int)
  · rw [decide_eq_true hjc]
    have hat := setK_at (fun x => W (x * k)) A j j (by omega)
    rw [if_neg (by omega)] at hat
    have hstep : setK (fun x => W (x * k)) A (j + 1) = (setK (fun x => W (x * k)) A j).set j (W (A.getD j 0 * k)) := rfl
    simp (disch := first | omega | (simp only [Qn] <;> omega)) only [go_sem, own_cell hg6, hg6, hat]
    rw [show (j : Int) + 1 = ((j + 1 : Nat) : Int) from by omega]
    refine ⟨A.length - (j + 1), by omega, j + 1, ex_junk rfl, by omega, by rw [hstep], ?_, by omega, rfl⟩
    exact hf6.set hl1 _
  · rw [decide_eq_false hjc]
    have : A.length = j := by omega
    subst this
    have d0 : h6.cell h.next 0 = some (.int .i64 (m : Int)) := by rw [hf6.cell (by omega)]; exact c0
    simp (disch := first | omega | (simp only [Qn] <;> omega)) only [go_sem, d0]
    rw [setK_all] at hg6
    have hsi : SI h6 (.sl lid 0 A.length (.un 1)) (A.map fun x => W (x * k)) := by
      have := SI.own (h := h6) (id := lid) (by omega) hg6 (.un 1)
      rw [List.length_map] at this; exact this
    refine (made_ok m _ _ h6 (by omega) (by omega) hsi (by rw [List.length_map]; omega)).mono ?_
    rintro v7 h7 ⟨w, rfl, hcy, hf7⟩
    generalize madeF m _ = M at *
    have hf47 : Fr hb h7 := hf6.trans hf7
    have hg7 := (hf47.get hx.next (by omega)).trans hgb
    have hn67 := hf6.next
    obtain ⟨u', rfl, hu', hfu⟩ := hcy
    have hst3 := fun hh => stV_agg2 hh hx.next 0 (v := .int .i64 M.1.1) (u := u') rfl hu'.what.2.1
    have hrow := row_two (h := h7.set hx.next (some (.cells false [.int .i64 M.1.1, u']))) (H.get_set_same ..)
    simp (disch := first | omega | (simp only [Qn] <;> omega)) only [go_sem, hst3, hg7, hrow]
    exact ⟨_, rfl, (CycO.set ⟨u', rfl, hu', hfu⟩ (by omega) _).le (by omega), (hF.trans hf47).set (by omega) _⟩

def quotF (a : Int × List Int) (k : Int) : (Int × List Int) × Int :=
  if checkF a ≠ 0 then ((0, []), checkF a) else if k = 0 then ((0, []), 6) else if a.2.any (fun x => decide (x.tmod k ≠ 0)) then ((0, []), 18) else ((a.1, a.2.map fun x => W (x.tdiv k)), 0)

set_option maxHeartbeats 1000000 in
theorem quot_ok (v : V) (a : Int × List Int) (k : Int) (h : H) (ha : CycV h v a) (hl : a.2.length < 1000000) :
    Ev T n_cyclo_Quot [v, .int .i64 k] h (fun v h' => ∃ w, v = .tup [w, .int .i64 (quotF a k).2] ∧ CycO h' w (quotF a k).1 h.next ∧ Fr h h') := by
  obtain ⟨u, rfl, hu⟩ := ha
  obtain ⟨N, A⟩ := a
  simp only at hu hl
  refine Ev_of t_cyclo_Quot rfl ?_
  simp (disch := first | omega | (simp only [Qn] <;> omega)) only [go_sem, c_cyclo_Quot, initV_eq, boxV_agg2 h (v := .int .i64 N) rfl hu.what.2.1]
  have hfx : Fr h (h.new (.cells false [.int .i64 N, u])) := (Fr.refl h).new _
  have hgx : (h.new (.cells false [.int .i64 N, u])).get h.next = some (.cells false [.int .i64 N, u]) := H.get_new_same ..
  have hnx : (h.new (.cells false [.int .i64 N, u])).next = h.next + 1 := H.next_new ..
  generalize h.new (.cells false [.int .i64 N, u]) = hx at *
  rw [← hnx]
  have hfa : Fr hx (hx.new (.cells false [.int .i64 0, .nils])) := (Fr.refl hx).new _
  have hga : (hx.new (.cells false [.int .i64 0, .nils])).get hx.next = some (.cells false [.int .i64 0, .nils]) := H.get_new_same ..
  have hna : (hx.new (.cells false [.int .i64 0, .nils])).next = hx.next + 1 := H.next_new ..
  have hst2 := fun hh => stV_agg2 hh hx.next 0 (v := .int .i64 0) (u := .nils) rfl rfl
  generalize hx.new (.cells false [.int .i64 0, .nils]) = ha at *
  have hgxa := (hfa.get h.next (by omega)).trans hgx
  have hfh := hfx.trans hfa
  simp (disch := first | omega | (simp only [Qn] <;> omega)) only [go_sem, row_two hgxa]
  refine (check_ok _ (N, A) ha ⟨u, rfl, hu.mono hfh⟩ hl).mono ?_
  rintro v1 hb ⟨rfl, hfb⟩
  have hgb := (hfb.get hx.next (by omega)).trans hga
  have hgxb := (hfb.get h.next (by omega)).trans hgxa
  have hnb := hfb.next
  have hrow0 := row_two (h := hb.set hx.next (some (.cells false [.int .i64 0, .nils]))) (H.get_set_same ..)
  have hF : Fr h hb := hfh.trans hfb
  have hzero : Fr h (hb.set hx.next (some (.cells false [.int .i64 0, .nils]))) := hF.set (by omega) _
  simp (disch := first | omega | (simp only [Qn] <;> omega)) only [go_sem]
  refine iteW_dec (fun h1 => ?_) (fun h1 => ?_)
  · simp (disch := first | omega | (simp only [Qn] <;> omega)) only [go_sem, hst2, hgb, hrow0]
    rw [quotF, if_pos h1]
    exact ⟨_, rfl, CycO.zero _ _, hzero⟩
  have h1' : checkF (N, A) = 0 := by omega
  have hrg := check_range h1'
  simp only at hrg
  obtain ⟨m, hm⟩ : ∃ m : Nat, N = (m : Int) := ⟨N.toNat, by omega⟩
  subst hm
  rw [quotF, if_neg h1]
  have c0 : hb.cell h.next 0 = some (.int .i64 (m : Int)) := by rw [H.cell_of hgxb]; rfl
  have c1 : hb.cell h.next 1 = some u := by rw [H.cell_of hgxb]; rfl
  have hpl := phi_len (n := m) (by omega) (by omega)
  rw [Int.toNat_natCast] at hrg
  simp (disch := first | omega | (simp only [Qn] <;> omega)) only [go_sem]
  refine iteW_dec (fun h5 => ?_) (fun h5 => ?_)
  · simp (disch := first | omega | (simp only [Qn] <;> omega)) only [go_sem, hst2, hgb, hrow0]
    rw [if_pos h5]
    exact ⟨_, rfl, CycO.zero _ _, hzero⟩
  rw [if_neg h5]
  simp (disch := first | omega | (simp only [Qn] <;> omega)) only [go_sem, c0, c1]
  refine (clone_ok u A _ ((hu.mono hF).mono ((Fr.refl hb).bump (by omega))) hl).mono ?_
  rintro v4 h4 ⟨hown, hf4, hcap⟩
  obtain ⟨lid, rfl, hl1, hl2, hlg⟩ := hcap (by omega)
  have hn4 := hf4.next
  simp only at hl1 hn4
  have hgx4 := (hf4.get h.next (by show h.next < hb.next + 8; omega)).trans hgxb
  have d0 : h4.cell h.next 0 = some (.int .i64 (m : Int)) := by rw [H.cell_of hgx4]; rfl
  have d1 : h4.cell h.next 1 = some u := by rw [H.cell_of hgx4]; rfl
  simp (disch := first | omega | (simp only [Qn] <;> omega)) only [go_sem, d0, d1, bldV_two (z1 := .int .i64 0) (z2 := .nils) (v := .int .i64 (m : Int)) (u := .sl lid 0 A.length (.un 1)) rfl rfl rfl rfl, hu.eqV]
  have hstO := fun hh => stV_agg2 hh (hb.next + 6) 0 (v := .int .i64 (m : Int)) (u := .sl lid 0 A.length (.un 1)) rfl rfl
  have hO1 : (H.mk ((H.mk h4.tr (hb.next + 6)).new (.cells false [.int .i64 0, .nils])).tr h4.next).get (hb.next + 6) = some (.cells false [.int .i64 0, .nils]) := by
    rw [H.get_next', H.get_new, if_pos rfl]
  have hO2 : ∀ z, z ≠ hb.next + 6 → (H.mk ((H.mk h4.tr (hb.next + 6)).new (.cells false [.int .i64 0, .nils])).tr h4.next).get z = h4.get z := fun z hz => by
    rw [H.get_next', H.get_new, if_neg hz]; rfl
  have hOn : (H.mk ((H.mk h4.tr (hb.next + 6)).new (.cells false [.int .i64 0, .nils])).tr h4.next).next = h4.next := rfl
  generalize H.mk ((H.mk h4.tr (hb.next + 6)).new (.cells false [.int .i64 0, .nils])).tr h4.next = h5 at *
  simp (disch := first | omega | (simp only [Qn] <;> omega)) only [go_sem, hstO, hO1]
  have hP1 : (h5.set (hb.next + 6) (some (.cells false [.int .i64 (m : Int), .sl lid 0 A.length (.un 1)]))).get (hb.next + 6) = some (.cells false [.int .i64 (m : Int), .sl lid 0 A.length (.un 1)]) := H.get_set_same ..
  have hP2 : ∀ z, z ≠ hb.next + 6 → (h5.set (hb.next + 6) (some (.cells false [.int .i64 (m : Int), .sl lid 0 A.length (.un 1)]))).get z = h4.get z := fun z hz => by rw [H.get_set_ne _ hz]; exact hO2 z hz
  have hPn : (h5.set (hb.next + 6) (some (.cells false [.int .i64 (m : Int), .sl lid 0 A.length (.un 1)]))).next = h4.next := hOn
  have d1' : h5.cell h.next 1 = some u := by unfold H.cell; rw [hO2 _ (by omega), hgx4]; rfl
  simp (disch := first | omega | (simp only [Qn] <;> omega)) only [go_sem, d1', hu.lens]
  generalize h5.set (hb.next + 6) (some (.cells false [.int .i64 (m : Int), .sl lid 0 A.length (.un 1)])) = h6 at *
  have hF6 : Fr hb h6 := ⟨by omega, fun z hz => by rw [hP2 z (by omega)]; exact hf4.get z (by show z < hb.next + 8; omega)⟩
  obtain ⟨cid, coff, hcs, hcid, hcc⟩ := hu.open
  refine Wp_loop (fun k' vars h7 => ∃ (j : Nat), (∃ g : Nat → V, vars = [g 0, .int .i64 k, .ptr h.next 0, .ptr hx.next 0, g 4, g 5, .ptr (hb.next + 6) 0, g 7, g 8, g 9, g 10, u, .int .i64 (A.length : Int), .int .i64 (j : Int), g 14, g 15]) ∧ j ≤ A.length ∧
    h7.get lid = some (.cells false (ints (setK (fun x => W (x.tdiv k)) A j))) ∧ h7.get (hb.next + 6) = some (.cells false [.int .i64 (m : Int), .sl lid 0 A.length (.un 1)]) ∧ Fr hb h7 ∧ lid < h7.next ∧ (∀ i, i < j → (A.getD i 0).tmod k = 0) ∧ k' = A.length - j) A.length
    ⟨0, ex_junk rfl, Nat.zero_le _, by rw [hP2 _ (by omega)]; exact hlg, hP1, hF6, by omega, fun i hi => by omega, rfl⟩ ?_
  rintro k' vars h7 ⟨j, ⟨g, rfl⟩, hj, hg7, ho7, hf7, hn7, hdv, rfl⟩
  have hal := setK_len (fun x => W (x.tdiv k)) A j
  simp (disch := first | omega | (simp only [Qn] <;> omega)) only [go_sem]
  by_cases hjc : (j : Int) < (A.length : Int)
  · rw [decide_eq_true hjc]
    have hcc7 := cells_fr (hF.trans hf7) hcid hcc
    have hstep : setK (fun x => W (x.tdiv k)) A (j + 1) = (setK (fun x => W (x.tdiv k)) A j).set j (W ((A.getD j 0).tdiv k)) := rfl
    simp (disch := first | omega | (simp only [Qn] <;> omega)) only [go_sem, hcs.ixa, hcc7, arith_rem]
    refine iteW_dec (fun hnz => ?_) (fun hz => ?_)
    · have hgo := (hf7.get hx.next (by omega)).trans hgb
      have hrow7 := row_two (h := h7.set hx.next (some (.cells false [.int .i64 0, .nils]))) (H.get_set_same ..)
      simp (disch := first | omega | (simp only [Qn] <;> omega)) only [go_sem, hst2, hgo, hrow7]
      have hany : A.any (fun x => decide (x.tmod k ≠ 0)) = true := by
        rw [List.any_eq_true]
        refine ⟨A.getD j 0, ?_, decide_eq_true hnz⟩
        rw [List.getD_eq_getElem?_getD, List.getElem?_eq_getElem (by omega)]
        exact List.getElem_mem _
      rw [if_pos hany]
      exact ⟨_, rfl, CycO.zero _ _, (hF.trans hf7).set (by omega) _⟩
    · have ho71 : h7.cell (hb.next + 6) 1 = some (.sl lid 0 A.length (.un 1)) := by rw [H.cell_of ho7]; rfl
      simp (disch := first | omega | (simp only [Qn] <;> omega)) only [go_sem, ho71, hg7, arith_quo]
      rw [show (j : Int) + 1 = ((j + 1 : Nat) : Int) from by omega]
      refine ⟨A.length - (j + 1), by omega, j + 1, ex_junk rfl, by omega, by rw [hstep], ho7, ?_, by omega, fun i hi => ?_, rfl⟩
      · exact (hf7.bump (by omega)).set (by omega) _
      · by_cases hij : i = j
        · rw [hij]; exact Decidable.byContradiction hz
        · exact hdv i (by omega)
  · rw [decide_eq_false hjc]
    have : A.length = j := by omega
    subst this
    rw [setK_all] at hg7
    have hgo := (hf7.get hx.next (by omega)).trans hgb
    have hst3 := fun hh => stV_agg2 hh hx.next 0 (v := .int .i64 (m : Int)) (u := .sl lid 0 A.length (.un 1)) rfl rfl
    have hrow := row_two (h := h7.set hx.next (some (.cells false [.int .i64 (m : Int), .sl lid 0 A.length (.un 1)]))) (H.get_set_same ..)
    simp (disch := first | omega | (simp only [Qn] <;> omega)) only [go_sem, row_two ho7, hst3, hgo, hrow]
    have hany : ¬ A.any (fun x => decide (x.tmod k ≠ 0)) = true := by
      rw [List.any_eq_true]
      rintro ⟨x, hx1, hx2⟩
      obtain ⟨i, hi, rfl⟩ := List.getElem_of_mem hx1
      have := hdv i hi
      rw [List.getD_eq_getElem?_getD, List.getElem?_eq_getElem hi] at this
      exact (of_decide_eq_true hx2) this
    rw [if_neg hany]
    have hsi : SI h7 (.sl lid 0 A.length (.un 1)) (A.map fun x => W (x.tdiv k)) := by
      have := SI.own (h := h7) (id := lid) (by omega) hg7 (.un 1)
      rw [List.length_map] at this; exact this
    have hco : CycO h7 (.agg [.int .i64 (m : Int), .sl lid 0 A.length (.un 1)]) ((m : Int), A.map fun x => W (x.tdiv k)) (hx.next + 1) := ⟨.sl lid 0 A.length (.un 1), rfl, hsi, fun _ _ _ _ e => by cases e; omega⟩
    exact ⟨_, rfl, (hco.set (by omega) _).le (by omega), (hF.trans hf7).set (by omega) _⟩

def ratF (a : Int × List Int) : Int × Bool := if a.1 ≠ 1 ∨ checkF a ≠ 0 then (0, false) else (a.2.getD 0 0, true)
theorem rat_ok (v : V) (a : Int × List Int) (h : H) (ha : CycV h v a) (hl : a.2.length < 1000000) :
    Ev T n_cyclo_Rational [v] h (fun v h' => v = .tup [.int .i64 (ratF a).1, .bool (ratF a).2] ∧ Fr h h') := by
  obtain ⟨u, rfl, hu⟩ := ha
  obtain ⟨N, A⟩ := a
  simp only at hu hl
  refine Ev_of t_cyclo_Rational rfl ?_
  simp (disch := first | omega | (simp only [Qn] <;> omega)) only [go_sem, c_cyclo_Rational, initV_eq, boxV_agg2 h (v := .int .i64 N) rfl hu.what.2.1]
  have hfx : Fr h (h.new (.cells false [.int .i64 N, u])) := (Fr.refl h).new _
  have hgx : (h.new (.cells false [.int .i64 N, u])).get h.next = some (.cells false [.int .i64 N, u]) := H.get_new_same ..
  have hnx : (h.new (.cells false [.int .i64 N, u])).next = h.next + 1 := H.next_new ..
  generalize h.new (.cells false [.int .i64 N, u]) = hx at *
  by_cases h1 : N ≠ 1
  · rw [decide_eq_true h1]
    simp (disch := first | omega | (simp only [Qn] <;> omega)) only [go_sem]
    rw [ratF, if_pos (.inl h1)]
    exact ⟨rfl, hfx⟩
  rw [decide_eq_false h1]
  simp (disch := first | omega | (simp only [Qn] <;> omega)) only [go_sem, row_two hgx]
  refine (check_ok _ (N, A) hx ⟨u, rfl, hu.mono hfx⟩ hl).mono ?_
  rintro v1 hb ⟨rfl, hfb⟩
  have hgb := (hfb.get h.next (by omega)).trans hgx
  simp (disch := first | omega | (simp only [Qn] <;> omega)) only [go_sem]
  refine iteW_dec (fun h2 => ?_) (fun h2 => ?_)
  · simp (disch := first | omega | (simp only [Qn] <;> omega)) only [go_sem]
    rw [ratF, if_pos (.inr h2)]
    exact ⟨rfl, hfx.trans hfb⟩
  have hrg := check_range (show checkF (N, A) = 0 by omega)
  simp only at hrg
  have hpl := phi_len (n := N.toNat) (by omega) (by omega)
  obtain ⟨cid, coff, hcs, hcid, hcc⟩ := (hu.mono (hfx.trans hfb)).open
  have c1 : hb.cell h.next 1 = some u := by rw [H.cell_of hgb]; rfl
  have hc0 := hcc 0 (by omega)
  rw [Nat.add_zero] at hc0
  simp (disch := first | omega | (simp only [Qn] <;> omega)) only [go_sem, c1, hcs.ixa, hc0]
  rw [ratF, if_neg (by simp only; omega)]
  exact ⟨rfl, hfx.trans hfb⟩

def cmpI (a b : Int) : Int := if a < b then -1 else if b < a then 1 else 0
theorem nan_ok (a : Int) (h : H) : Ev T n_cmp_isNaN_int [.int .i64 a] h (fun v h' => v = .bool false ∧ h' = h) := by
  refine Ev_of t_cmp_isNaN_int rfl ?_
  simp (disch := first | omega | (simp only [Qn] <;> omega)) only [go_sem, c_cmp_isNaN_int, initV_eq]
  exact ⟨by simp, trivial⟩
theorem cmpI_ok (a b : Int) (h : H) : Ev T n_cmp_Compare_int [.int .i64 a, .int .i64 b] h (fun v h' => v = .int .i64 (cmpI a b) ∧ h' = h) := by
  refine Ev_of t_cmp_Compare_int rfl ?_
  simp (disch := first | omega | (simp only [Qn] <;> omega)) only [go_sem, c_cmp_Compare_int, initV_eq]
  refine (nan_ok a h).mono ?_
  rintro v h1 ⟨rfl, rfl⟩
  simp (disch := first | omega | (simp only [Qn] <;> omega)) only [go_sem]
  refine (nan_ok b h1).mono ?_
  rintro v h2 ⟨rfl, rfl⟩
  simp (disch := first | omega | (simp only [Qn] <;> omega)) only [go_sem]
  refine iteW_dec (fun h1 => ?_) (fun h1 => ?_)
  · simp (disch := first | omega | (simp only [Qn] <;> omega)) only [go_sem]
    exact ⟨by rw [cmpI, if_pos h1], trivial⟩
  simp (disch := first | omega | (simp only [Qn] <;> omega)) only [go_sem]
  refine iteW_dec (fun h2 => ?_) (fun h2 => ?_)
  · simp (disch := first | omega | (simp only [Qn] <;> omega)) only [go_sem]
    exact ⟨by rw [cmpI, if_neg h1, if_pos h2], trivial⟩
  · simp (disch := first | omega | (simp only [Qn] <;> omega)) only [go_sem]
    exact ⟨by rw [cmpI, if_neg h1, if_neg h2], trivial⟩
def cmpL : List Int → List Int → Int
  | [], [] => 0
  | [], _ :: _ => -1
  | _ :: _, [] => 1
  | a :: as, b :: bs => if cmpI a b ≠ 0 then cmpI a b else cmpL as bs
theorem drop_getD (l : List Int) (k : Nat) (hk : k < l.length) : l.drop k = l.getD k 0 :: l.drop (k + 1) := by
  rw [List.drop_eq_getElem_cons hk, List.getD_eq_getElem?_getD, List.getElem?_eq_getElem hk]; rfl
theorem cmpL_ok (va vb : V) (a b : List Int) (h : H) (ha : SI h va a) (hb : SI h vb b) (hla : a.length < 1000000) (hlb : b.length < 1000000) :
    Ev T n_slices_Compare_int_int [va, vb] h (fun v h' => v = .int .i64 (cmpL a b) ∧ h' = h) := by
  refine Ev_of t_slices_Compare_int_int rfl ?_
  obtain ⟨id, off, hsl, hid, hc⟩ := ha.open
  obtain ⟨id2, off2, hsl2, hid2, hc2⟩ := hb.open
  simp (disch := first | omega | (simp only [Qn] <;> omega)) only [go_sem, c_slices_Compare_int_int, initV_eq, ha.lens]
  refine Wp_loop (fun k' vars h2 => ∃ (k : Nat), (∃ g : Nat → V, vars = [va, vb, .int .i64 0, g 3, g 4, g 5, g 6, va, .int .i64 (a.length : Int), .int .i64 (k : Int), g 10, g 11, g 12, g 13]) ∧ k ≤ a.length ∧ k ≤ b.length ∧ h2 = h ∧ cmpL a b = cmpL (a.drop k) (b.drop k) ∧ k' = a.length - k) a.length
    ⟨0, ex_junk rfl, Nat.zero_le _, Nat.zero_le _, rfl, rfl, rfl⟩ ?_
  rintro k' vars h2 ⟨k, ⟨g, rfl⟩, hk, hkb, rfl, hor, rfl⟩
  simp (disch := first | omega | (simp only [Qn] <;> omega)) only [go_sem]
  refine iteW_dec (fun hlt => ?_) (fun hge => ?_)
  · have hd := drop_getD a k (by omega)
    simp (disch := first | omega | (simp only [Qn] <;> omega)) only [go_sem, hsl.ixa, hc, hb.lens]
    refine iteW_dec (fun hbe => ?_) (fun hbl => ?_)
    · simp (disch := first | omega | (simp only [Qn] <;> omega)) only [go_sem]
      refine ⟨?_, trivial⟩
      rw [hor, hd, List.drop_of_length_le (show b.length ≤ k by omega), cmpL]
    have hd2 := drop_getD b k (by omega)
    simp (disch := first | omega | (simp only [Qn] <;> omega)) only [go_sem, hsl2.ixa, hc2]
    refine (cmpI_ok _ _ h2).mono ?_
    rintro v3 h3 ⟨rfl, rfl⟩
    simp (disch := first | omega | (simp only [Qn] <;> omega)) only [go_sem]
    refine iteW_dec (fun hne => ?_) (fun he => ?_)
    · simp (disch := first | omega | (simp only [Qn] <;> omega)) only [go_sem]
      refine ⟨?_, trivial⟩
      rw [hor, hd, hd2, cmpL, if_pos hne]
    · simp (disch := first | omega | (simp only [Qn] <;> omega)) only [go_sem]
      rw [show (k : Int) + 1 = ((k + 1 : Nat) : Int) from by omega]
      refine ⟨a.length - (k + 1), by omega, k + 1, ex_junk rfl, by omega, by omega, ?_, rfl⟩
      rw [hor, hd, hd2, cmpL, if_neg he]
  · simp (disch := first | omega | (simp only [Qn] <;> omega)) only [go_sem, ha.lens, hb.lens]
    have hda : a.drop k = [] := List.drop_of_length_le (by omega)
    refine iteW_dec (fun hlt => ?_) (fun hge2 => ?_)
    · simp (disch := first | omega | (simp only [Qn] <;> omega)) only [go_sem]
      refine ⟨?_, trivial⟩
      rw [hor, hda, drop_getD b k (by omega)]; rfl
    · simp (disch := first | omega | (simp only [Qn] <;> omega)) only [go_sem]
      refine ⟨?_, trivial⟩
      rw [hor, hda, List.drop_of_length_le (show b.length ≤ k by omega)]; rfl
theorem orI_ok (v : V) (l : List Int) (h : H) (hs : SI h v l) (hl : l.length < 1000000) : Ev T n_cmp_Or_int [v] h (fun v h' => v = .int .i64 (orF l) ∧ h' = h) := by
  refine Ev_of t_cmp_Or_int rfl ?_
  obtain ⟨id, off, hsl, hid, hc⟩ := hs.open
  simp (disch := first | omega | (simp only [Qn] <;> omega)) only [go_sem, c_cmp_Or_int, initV_eq, hs.lens]
  refine Wp_loop (fun k' vars h2 => ∃ (k : Nat), (∃ g : Nat → V, vars = [g 0, g 1, .int .i64 0, g 3, v, .int .i64 (l.length : Int), .int .i64 (k : Int), g 7, g 8]) ∧ k ≤ l.length ∧ h2 = h ∧ orF l = orF (l.drop k) ∧ k' = l.length - k) l.length
    ⟨0, ex_junk rfl, Nat.zero_le _, rfl, rfl, rfl⟩ ?_
  rintro k' vars h2 ⟨k, ⟨g, rfl⟩, hk, rfl, hor, rfl⟩
  simp (disch := first | omega | (simp only [Qn] <;> omega)) only [go_sem]
  refine iteW_dec (fun hlt => ?_) (fun hge => ?_)
  · have hd := drop_getD l k (by omega)
    simp (disch := first | omega | (simp only [Qn] <;> omega)) only [go_sem, hsl.ixa, hc]
    refine iteW_dec (fun hne => ?_) (fun he => ?_)
    · simp (disch := first | omega | (simp only [Qn] <;> omega)) only [go_sem]
      refine ⟨?_, trivial⟩
      rw [hor, hd, orF, List.find?_cons, decide_eq_true hne]; rfl
    · simp (disch := first | omega | (simp only [Qn] <;> omega)) only [go_sem]
      rw [show (k : Int) + 1 = ((k + 1 : Nat) : Int) from by omega]
      refine ⟨l.length - (k + 1), by omega, k + 1, ex_junk rfl, by omega, ?_, rfl⟩
      rw [hor, hd, orF, List.find?_cons, decide_eq_false he]; rfl
  · simp (disch := first | omega | (simp only [Qn] <;> omega)) only [go_sem]
    refine ⟨?_, trivial⟩
    rw [hor, List.drop_of_length_le (by omega)]; rfl

def cmpF (a b : Int × List Int) : Int := orF [cmpI a.1 b.1, cmpL a.2 b.2]
set_option maxHeartbeats 1000000 in
theorem cmp_ok (va vb : V) (a b : Int × List Int) (h : H) (ha : CycV h va a) (hb : CycV h vb b) (hla : a.2.length < 1000000) (hlb : b.2.length < 1000000) :
    Ev T n_cyclo_Cmp [va, vb] h (fun v h' => v = .int .i64 (cmpF a b) ∧ Fr h h') := by
  obtain ⟨u, rfl, hu⟩ := ha
  obtain ⟨w, rfl, hw⟩ := hb
  obtain ⟨N, A⟩ := a
  obtain ⟨M, B⟩ := b
  simp only at hu hw hla hlb
  refine Ev_of t_cyclo_Cmp rfl ?_
  simp (disch := first | omega | (simp only [Qn] <;> omega)) only [go_sem, c_cyclo_Cmp, initV_eq, boxV_agg2 h (v := .int .i64 N) rfl hu.what.2.1]
  have hfx : Fr h (h.new (.cells false [.int .i64 N, u])) := (Fr.refl h).new _
  have hgx : (h.new (.cells false [.int .i64 N, u])).get h.next = some (.cells false [.int .i64 N, u]) := H.get_new_same ..
  have hnx : (h.new (.cells false [.int .i64 N, u])).next = h.next + 1 := H.next_new ..
  generalize h.new (.cells false [.int .i64 N, u]) = hx at *
  have x0 : hx.cell h.next 0 = some (.int .i64 N) := by rw [H.cell_of hgx]; rfl
  have x1 : hx.cell h.next 1 = some u := by rw [H.cell_of hgx]; rfl
  simp (disch := first | omega | (simp only [Qn] <;> omega)) only [go_sem, boxV_agg2 hx (v := .int .i64 M) rfl hw.what.2.1, x0, x1]
  have hfy : Fr hx (hx.new (.cells false [.int .i64 M, w])) := (Fr.refl hx).new _
  have hgy : (hx.new (.cells false [.int .i64 M, w])).get hx.next = some (.cells false [.int .i64 M, w]) := H.get_new_same ..
  have hny : (hx.new (.cells false [.int .i64 M, w])).next = hx.next + 1 := H.next_new ..
  have c0 : (hx.new (.cells false [.int .i64 M, w])).cell hx.next 0 = some (.int .i64 M) := by rw [H.cell_of hgy]; rfl
  have c1 : (hx.new (.cells false [.int .i64 M, w])).cell hx.next 1 = some w := by rw [H.cell_of hgy]; rfl
  generalize hx.new (.cells false [.int .i64 M, w]) = hy at *
  rw [← hny]
  have hgxy := (hfy.get h.next (by omega)).trans hgx
  have d0 : hy.cell h.next 0 = some (.int .i64 N) := by rw [H.cell_of hgxy]; rfl
  have d1 : hy.cell h.next 1 = some u := by rw [H.cell_of hgxy]; rfl
  have eu : eqV u u = true := SV.eqV hu
  have ew : eqV w w = true := SV.eqV hw
  refine (cmpI_ok N M _).mono ?_
  rintro v3 h3 ⟨rfl, rfl⟩
  simp (disch := first | omega | (simp only [Qn] <;> omega)) only [go_sem, c0, c1, d0, d1, eu, ew]
  have hF := ((hfx.trans hfy).bump (n := hy.next + 13) (by omega))
  refine (cmpL_ok u w A B _ (hu.mono hF) (hw.mono hF) hla hlb).mono ?_
  rintro v3 h3 ⟨rfl, rfl⟩
  simp (disch := first | omega | (simp only [Qn] <;> omega)) only [go_sem, bls_int2]
  have hg5 : (H.mk ((H.mk hy.tr (hy.next + 10)).new (.cells false (ints [cmpI N M, cmpL A B]))).tr (hy.next + 13)).get (hy.next + 10) = some (.cells false (ints [cmpI N M, cmpL A B])) := by
    rw [H.get_next', H.get_new, if_pos rfl]
  have hF5 : Fr hy (H.mk ((H.mk hy.tr (hy.next + 10)).new (.cells false (ints [cmpI N M, cmpL A B]))).tr (hy.next + 13)) := ⟨by show hy.next ≤ hy.next + 13; omega, fun id hid => by rw [H.get_next', H.get_new, if_neg (by show id ≠ hy.next + 10; omega)]; rfl⟩
  have hn5 : (H.mk ((H.mk hy.tr (hy.next + 10)).new (.cells false (ints [cmpI N M, cmpL A B]))).tr (hy.next + 13)).next = hy.next + 13 := rfl
  generalize H.mk ((H.mk hy.tr (hy.next + 10)).new (.cells false (ints [cmpI N M, cmpL A B]))).tr (hy.next + 13) = h5 at *
  have hs5 : SI h5 (.sl (hy.next + 10) 0 2 (.kn 2)) [cmpI N M, cmpL A B] := SI.own (h := h5) (id := hy.next + 10) (l := [cmpI N M, cmpL A B]) (by omega) hg5 (.kn 2)
  refine (orI_ok _ _ h5 hs5 (by simp)).mono ?_
  rintro v6 h6 ⟨rfl, rfl⟩
  simp (disch := first | omega | (simp only [Qn] <;> omega)) only [go_sem]
  exact ⟨rfl, (hfx.trans hfy).trans hF5⟩
end
end Go.Proofs.Ythfabknpogbcaaa
/- Contracts of the reference: phi, Phi, reduced, add, over. -/
namespace Go.Proofs.Ythfabknpogbcaaa
open Go Go.Ay
set_option maxRecDepth 100000
noncomputable section

theorem Frs.ne {u : V} {b id off n : Nat} {c : Cap} (f : Frs u b) (h : id < b) : u ≠ .sl id off n c := fun e => by have := f _ _ _ _ e; omega
theorem Frs.le {u : V} {b b' : Nat} (f : Frs u b) (h : b' ≤ b) : Frs u b' := fun id off n c e => Nat.le_trans h (f id off n c e)
theorem Frs.own {h : H} {v : V} {sz : Nat} {ws : List V} {b : Nat} (o : Own h v sz ws b) : Frs v b := fun id off n c e => by
  rcases o with ⟨h1, _⟩ | ⟨id', _, _, _, h1, _, _, h2, _⟩
  · rw [h1] at e; cases e
  · rw [h1] at e; cases e; exact h2
theorem SI.set_frs {h : H} {v : V} {l : List Int} (s : SI h v l) {b x : Nat} (f : Frs v b) (hx : x < b) (o : Option Ob) : SI (h.set x o) v l := SV.set_ne s (fun off len c => f.ne hx) o

theorem phiAux_le (n : Nat) : ∀ k, (phiAux phiF n k).length ≤ n + 1 := by
  intro k
  rw [phiAux_len]
  have : ∀ (f : Nat → Nat) k, lenAux f n k ≤ n + 1 := by
    intro f k
    induction k with
    | zero => exact Nat.le_refl _
    | succ k ih => rw [lenAux]; split <;> omega
  exact this _ _

set_option maxHeartbeats 1000000 in
theorem rphi_ok (n : Nat) (h : H) (hn1 : 1 ≤ n) (hn2 : n ≤ 120) : Ev T n_ref06_phi [.int .i64 (n : Int)] h (fun v h' => SI h' v (phiF n) ∧ Fr h h' ∧ Frs v h.next) := by
  refine Ev_of t_ref06_phi rfl ?_
  simp (disch := first | omega | (simp only [Qn] <;> omega)) only [go_sem, c_ref06_phi, initV_eq, zeros_one]
  have en : ((n : Int) + 1).toNat = n + 1 := by omega
  rw [en]
  refine Wp_loop (fun k vars h2 => ∃ (d : Nat) (ws : List V), (∃ g : Nat → V, vars = [.int .i64 (n : Int), g 1, .sl h.next 0 (n + 1) (.kn (n + 1)), .int .i64 (d : Int), g 4, g 5, g 6, g 7, g 8]) ∧ 1 ≤ d ∧ d ≤ n + 1 ∧ ws.length = n + 1 ∧ h2.get h.next = some (.cells false ws) ∧
      (∀ e, 1 ≤ e → e < d → n % e = 0 → SI h2 (ws.getD e .undef) (phiF e) ∧ Frs (ws.getD e .undef) (h.next + 1)) ∧ Fr h h2 ∧ h.next < h2.next ∧ k = n + 1 - d) n
    ⟨1, _, ex_junk rfl, Nat.le_refl _, by omega, List.length_replicate, H.get_new_same .., fun e h1 h2 => by omega, (Fr.refl h).new _, by rw [H.next_new]; omega, rfl⟩ ?_
  rintro k vars h2 ⟨d, ws, ⟨g, rfl⟩, hd1, hd2, hwl, hg2, hrows, hf2, hnx2, rfl⟩
  simp (disch := first | omega | (simp only [Qn] <;> omega)) only [go_sem]
  refine iteW_dec (fun hle => ?_) (fun hgt => ?_)
  · have ed : ((d : Int) + 1).toNat = d + 1 := by omega
    simp (disch := first | omega | (simp only [Qn] <;> omega)) only [go_sem, ed]
    obtain ⟨P, hP⟩ : ∃ P, h2.next = P := ⟨_, rfl⟩
    rw [hP]
    have hp0 : SI (((h2.new (Ob.cells false (ints (0 :: List.replicate d 0)))).set P (some (Ob.cells false (ints (-1 :: List.replicate d 0))))).set P (some (Ob.cells false (ints ((-1 :: List.replicate d 0).set d 1))))) (.sl P 0 (d + 1) (.kn (d + 1))) (phiAux phiF d 0) := by
      have := SI.own (h := (((h2.new (Ob.cells false (ints (0 :: List.replicate d 0)))).set P (some (Ob.cells false (ints (-1 :: List.replicate d 0))))).set P (some (Ob.cells false (ints ((-1 :: List.replicate d 0).set d 1)))))) (id := P) (ro := false) (l := xn1 d) (by simp only [H.next_set, H.next_new]; omega) (H.get_set_same ..) (.kn (d + 1))
      have hl : (xn1 d).length = d + 1 := by simp [xn1]
      rw [hl] at this
      exact this
    have hfp : Fr h2 (((h2.new (Ob.cells false (ints (0 :: List.replicate d 0)))).set P (some (Ob.cells false (ints (-1 :: List.replicate d 0))))).set P (some (Ob.cells false (ints ((-1 :: List.replicate d 0).set d 1))))) := (((Fr.refl h2).new _).set (by omega) _).set (by omega) _
    generalize (((h2.new (Ob.cells false (ints (0 :: List.replicate d 0)))).set P (some (Ob.cells false (ints (-1 :: List.replicate d 0))))).set P (some (Ob.cells false (ints ((-1 :: List.replicate d 0).set d 1))))) = hq at *
    refine Wp_loop (fun k3 vars h3 => ∃ (e : Nat) (p : V), (∃ g : Nat → V, vars = [.int .i64 (n : Int), g 1, .sl h.next 0 (n + 1) (.kn (n + 1)), .int .i64 (d : Int), p, .int .i64 (e : Int), g 6, g 7, g 8]) ∧ 1 ≤ e ∧ e ≤ d ∧ SI h3 p (phiAux phiF d (e - 1)) ∧ Frs p (h.next + 1) ∧ Fr h2 h3 ∧ k3 = d - e) (d - 1)
      ⟨1, _, ex_junk rfl, Nat.le_refl _, hd1, hp0, fun id off n c e => by cases e; omega, hfp, rfl⟩ ?_
    rintro k3 vars h3 ⟨e, p, ⟨g, rfl⟩, he1, he2, hp, hpf, hf3, rfl⟩
    have hg3 := (hf3.get h.next hnx2).trans hg2
    have hn3 := hf3.next
    have hset : ∀ (hfin : n % d = 0 → SI h3 p (phiF d)), ∀ e, 1 ≤ e → e < d + 1 → n % e = 0 → SI (h3.set h.next (some (.cells false (ws.set d p)))) ((ws.set d p).getD e .undef) (phiF e) ∧ Frs ((ws.set d p).getD e .undef) (h.next + 1) := fun hfin e' h1 h2' hz => by
      rw [getD_set]
      by_cases hed : d = e'
      · subst hed
        rw [if_pos rfl, if_pos (by omega)]
        exact ⟨SI.set_frs (hfin hz) hpf (by omega) _, hpf⟩
      · rw [if_neg hed]
        obtain ⟨s, f⟩ := hrows e' h1 (by omega) hz
        exact ⟨SI.set_frs (s.mono hf3) f (by omega) _, f⟩
    by_cases hlt : e < d
    · simp (disch := first | omega | (simp only [Qn] <;> omega)) only [go_sem]
      rw [decide_eq_true (show (e : Int) < (d : Int) by omega)]
      simp (disch := first | omega | (simp only [Qn] <;> omega)) only [go_sem]
      refine iteW_dec (fun hz => ?_) (fun hz => ?_)
      · rw [tmod_nat] at hz
        have hz' : n % d = 0 := by omega
        obtain ⟨e, rfl⟩ : ∃ e', e = e' + 1 := ⟨e - 1, by omega⟩
        have hstep : phiAux phiF d (e + 1) = if d % (e + 1) = 0 then (divF (phiAux phiF d e) (phiF (e + 1))).1 else phiAux phiF d e := rfl
        simp (disch := first | omega | (simp only [Qn] <;> omega)) only [go_sem]
        refine iteW_dec (fun hy => ?_) (fun hy => ?_)
        · rw [tmod_nat] at hy
          have hy' : d % (e + 1) = 0 := by omega
          have hne : n % (e + 1) = 0 := Nat.mod_eq_zero_of_dvd (Nat.dvd_trans (Nat.dvd_of_mod_eq_zero hy') (Nat.dvd_of_mod_eq_zero hz'))
          obtain ⟨srow, frow⟩ := hrows (e + 1) (by omega) hlt hne
          have ci : h3.cell h.next (e + 1) = some (ws.getD (e + 1) .undef) := by
            rw [H.cell_of hg3, List.getD_eq_getElem?_getD, List.getElem?_eq_getElem (by omega)]; rfl
          simp (disch := first | omega | (simp only [Qn] <;> omega)) only [go_sem, ci]
          have hle := phiAux_le d e
          have hl3 := phi_len (n := e + 1) (by omega) (by omega)
          rw [show e + 1 - 1 = e from rfl] at hp
          refine (rdivide_ok p _ _ _ h3 hp (srow.mono hf3) (by omega) (by omega) (by omega)).mono ?_
          rintro v4 h4 ⟨q, r, rfl, hf4, hq, hr, hqf⟩
          simp (disch := first | omega | (simp only [Qn] <;> omega)) only [go_sem, List.getElem?_cons_zero, List.getElem?_cons_succ]
          rw [show ((e + 1 : Nat) : Int) + 1 = ((e + 2 : Nat) : Int) from by omega]
          refine ⟨d - (e + 2), by omega, e + 2, q, ex_junk rfl, by omega, by omega, ?_, (Frs.le hqf (by omega)), hf3.trans hf4, rfl⟩
          rw [show e + 2 - 1 = e + 1 from rfl, hstep, if_pos hy']
          exact hq
        · rw [tmod_nat] at hy
          have hy' : ¬ d % (e + 1) = 0 := by omega
          simp (disch := first | omega | (simp only [Qn] <;> omega)) only [go_sem]
          rw [show ((e + 1 : Nat) : Int) + 1 = ((e + 2 : Nat) : Int) from by omega]
          refine ⟨d - (e + 2), by omega, e + 2, p, ex_junk rfl, by omega, by omega, ?_, hpf, hf3, rfl⟩
          rw [show e + 2 - 1 = e + 1 from rfl, hstep, if_neg hy']
          exact hp
      · rw [tmod_nat] at hz
        have hz' : ¬ n % d = 0 := by omega
        simp (disch := first | omega | (simp only [Qn] <;> omega)) only [go_sem, hp.st1, hg3]
        rw [show (d : Int) + 1 = ((d + 1 : Nat) : Int) from by omega]
        exact ⟨n + 1 - (d + 1), by omega, d + 1, ws.set d p, ex_junk rfl, by omega, by omega, by rw [List.length_set, hwl], rfl, hset (fun h => absurd h hz'), (hf2.trans hf3).set (Nat.le_refl _) _, by show h.next < h3.next; omega, rfl⟩
    · have he : e = d := by omega
      subst he
      rw [← phiF_eq e hd1] at hp
      simp (disch := first | omega | (simp only [Qn] <;> omega)) only [go_sem]
      rw [decide_eq_false (show ¬ (e : Int) < (e : Int) by omega)]
      simp (disch := first | omega | (simp only [Qn] <;> omega)) only [go_sem, hp.st1, hg3]
      rw [show (e : Int) + 1 = ((e + 1 : Nat) : Int) from by omega]
      exact ⟨n + 1 - (e + 1), by omega, e + 1, ws.set e p, ex_junk rfl, by omega, by omega, by rw [List.length_set, hwl], rfl, hset (fun _ => hp), (hf2.trans hf3).set (Nat.le_refl _) _, by show h.next < h3.next; omega, rfl⟩
  · have : d = n + 1 := by omega
    subst this
    obtain ⟨srow, frow⟩ := hrows n hn1 (by omega) (Nat.mod_self n)
    have ci : h2.cell h.next n = some (ws.getD n .undef) := by
      rw [H.cell_of hg2, List.getD_eq_getElem?_getD, List.getElem?_eq_getElem (by omega)]; rfl
    simp (disch := first | omega | (simp only [Qn] <;> omega)) only [go_sem, ci]
    exact ⟨srow, hf2, frow.le (by omega)⟩

theorem rPhi_ok (n : Int) (h : H) : Ev T n_ref06_Phi [.int .i64 n] h (fun v h' => ∃ u, v = .tup [u, .int .i64 (phiP n).2] ∧ SI h' u (phiP n).1 ∧ Fr h h') := by
  refine Ev_of t_ref06_Phi rfl ?_
  simp (disch := first | omega | (simp only [Qn] <;> omega)) only [go_sem, c_ref06_Phi, initV_eq]
  by_cases h1 : n < 1
  · rw [decide_eq_true h1]
    simp (disch := first | omega | (simp only [Qn] <;> omega)) only [go_sem]
    rw [phiP, if_pos (.inl h1)]
    exact ⟨_, rfl, SI.nils _, Fr.refl h⟩
  rw [decide_eq_false h1]
  simp (disch := first | omega | (simp only [Qn] <;> omega)) only [go_sem]
  refine iteW_dec (fun h2 => ?_) (fun h2 => ?_)
  · simp (disch := first | omega | (simp only [Qn] <;> omega)) only [go_sem]
    rw [phiP, if_pos (.inr h2)]
    exact ⟨_, rfl, SI.nils _, Fr.refl h⟩
  obtain ⟨m, hm⟩ : ∃ m : Nat, n = (m : Int) := ⟨n.toNat, by omega⟩
  subst hm
  simp (disch := first | omega | (simp only [Qn] <;> omega)) only [go_sem]
  refine (rphi_ok m h (by omega) (by omega)).mono ?_
  rintro v2 hd ⟨hp2, hf2, _⟩
  simp (disch := first | omega | (simp only [Qn] <;> omega)) only [go_sem]
  rw [phiP, if_neg (by omega), Int.toNat_natCast]
  exact ⟨_, rfl, hp2, hf2⟩

theorem rreduced_ok (n : Nat) (vc : V) (c : List Int) (h : H) (h1 : 1 ≤ n) (h2 : n ≤ 120) (hc : SI h vc c) (hl : c.length < 1000000) :
    Ev T n_ref06_reduced [.int .i64 (n : Int), vc] h (fun v h' => Own h' v 1 (ints (redF n c)) h.next ∧ Fr h h') := by
  refine Ev_of t_ref06_reduced rfl ?_
  simp (disch := first | omega | (simp only [Qn] <;> omega)) only [go_sem, c_ref06_reduced, initV_eq]
  refine (rphi_ok n h h1 h2).mono ?_
  rintro vp hp1 ⟨hvp, hf1, _⟩
  have hpl := phi_len h1 h2
  simp (disch := first | omega | (simp only [Qn] <;> omega)) only [go_sem]
  refine (rdivide_ok vc vp c (phiF n) hp1 (hc.mono hf1) hvp hl (by omega) (by omega)).mono ?_
  rintro v4 h4 ⟨q, r, rfl, hf4, hq, hr, _⟩
  have hl2 := divF_len2 c (phiF n)
  have hn1 := hf1.next
  have hn4 := hf4.next
  simp (disch := first | omega | (simp only [Qn] <;> omega)) only [go_sem, List.getElem?_cons_zero, List.getElem?_cons_succ]
  refine Wp_loop (fun k vars h5 => ∃ (j : Nat) (u : V), (∃ g : Nat → V, vars = [g 0, g 1, g 2, vp, u, g 5]) ∧ j ≤ (phiF n).length - 1 - (divF c (phiF n)).2.length ∧ Own h5 u 1 (ints ((divF c (phiF n)).2 ++ List.replicate j 0)) hp1.next ∧ Fr hp1 h5 ∧ k = (phiF n).length - 1 - (divF c (phiF n)).2.length - j) _
    ⟨0, r, ex_junk rfl, by omega, by simpa using hr, hf4, rfl⟩ ?_
  rintro k vars h5 ⟨j, u, ⟨g, rfl⟩, hj, ho, hf5, rfl⟩
  have hlu : lensV u = some (.int .i64 (((divF c (phiF n)).2 ++ List.replicate j 0).length : Int)) := SI.lens (h := h5) ho.sv
  rw [List.length_append, List.length_replicate] at hlu
  have hn5 := hf5.next
  simp (disch := first | omega | (simp only [Qn] <;> omega)) only [go_sem, hlu, (hvp.mono hf5).lens]
  refine iteW_dec (fun hlt => ?_) (fun hge => ?_)
  · simp (disch := first | omega | (simp only [Qn] <;> omega)) only [go_sem, bls_int1]
    obtain ⟨v6, h6, e6, a6⟩ := (ho.fr ((Fr.refl h5).new (.cells false (ints [0])))).app (bytes := 8) (n := (divF c (phiF n)).2.length + j) (m := 1) (us := ints [0]) (y := .sl h5.next 0 1 (.kn 1)) (by rw [H.next_new]; omega) (Own.new h5 1 1 0 (ints [0]) rfl (Nat.zero_le _)).sv (by rw [ints_length, List.length_append, List.length_replicate, Nat.mul_one]) rfl (by omega) (by omega)
    simp only [e6, go_sem]
    have ho6 := a6.own
    rw [← ints_append, List.append_assoc, show List.replicate j (0 : Int) ++ [0] = List.replicate (j + 1) 0 from List.replicate_succ'.symm] at ho6
    exact ⟨(phiF n).length - 1 - (divF c (phiF n)).2.length - (j + 1), by omega, j + 1, v6, ex_junk rfl, by omega, ho6, a6.fr hp1 (hf5.new _) (Nat.le_refl _), rfl⟩
  · simp (disch := first | omega | (simp only [Qn] <;> omega)) only [go_sem]
    have : j = (phiF n).length - 1 - (divF c (phiF n)).2.length := by omega
    subst this
    exact ⟨ho.le hn1, hf1.trans hf5⟩

theorem radd_ok (id : Nat) (cap : Cap) (l : List Int) (k x : Int) (h : H) (hg : h.get id = some (.cells false (ints l))) (h0 : 0 < l.length) (h1 : l.length < 1000000) :
    Ev T n_ref06_add [.sl id 0 l.length cap, .int .i64 k, .int .i64 x] h (fun _ h' => h' = h.set id (some (.cells false (ints (l.set (k % (l.length : Int)).toNat (W (l.getD (k % (l.length : Int)).toNat 0 + x))))))) := by
  refine Ev_of t_ref06_add rfl ?_
  simp (disch := first | omega | (simp only [Qn] <;> omega)) only [go_sem, c_ref06_add, initV_eq]
  refine (pick_ok k l.length h (by omega) (by omega)).mono ?_
  rintro v h' ⟨rfl, rfl⟩
  have hr0 := Int.emod_nonneg k (show (l.length : Int) ≠ 0 by omega)
  have hr1 := Int.emod_lt_of_pos k (show (0 : Int) < l.length by omega)
  obtain ⟨r, hr⟩ : ∃ r : Nat, k % (l.length : Int) = (r : Int) := ⟨(k % (l.length : Int)).toNat, by omega⟩
  rw [hr] at hr0 hr1 ⊢
  simp (disch := first | omega | (simp only [Qn] <;> omega)) only [go_sem, own_cell hg, hg]

theorem rover_ok (v : V) (l : List Int) (h : H) (hs : SI h v l) (hl : l.length < 1000000) : Ev T n_ref06_over [v] h (fun v h' => v = .bool (l.any overF) ∧ h' = h) := by
  refine Ev_of t_ref06_over rfl ?_
  obtain ⟨id, off, hsl, hid, hc⟩ := hs.open
  simp (disch := first | omega | (simp only [Qn] <;> omega)) only [go_sem, c_ref06_over, initV_eq]
  refine Wp_loop (fun k vars h1 => ∃ (j : Nat), (∃ g : Nat → V, vars = [v, g 1, .int .i64 (j : Int), g 3, g 4]) ∧ j ≤ l.length ∧ h1 = h ∧ (l.drop j).any overF = l.any overF ∧ k = l.length - j) l.length
    ⟨0, ex_junk rfl, Nat.zero_le _, rfl, rfl, rfl⟩ ?_
  rintro k vars h1 ⟨j, ⟨g, rfl⟩, hj, rfl, hany, rfl⟩
  simp (disch := first | omega | (simp only [Qn] <;> omega)) only [go_sem, hs.lens]
  refine iteW_dec (fun hlt => ?_) (fun hge => ?_)
  · rw [drop_getD l j (by omega), List.any_cons] at hany
    simp (disch := first | omega | (simp only [Qn] <;> omega)) only [go_sem, hsl.ixa, hc]
    by_cases h3 : l.getD j 0 < -10000000
    · rw [decide_eq_true h3]
      simp (disch := first | omega | (simp only [Qn] <;> omega)) only [go_sem]
      rw [← hany, overF, decide_eq_true h3]
      exact ⟨rfl, trivial⟩
    · rw [decide_eq_false h3]
      simp (disch := first | omega | (simp only [Qn] <;> omega)) only [go_sem, hsl.ixa, hc]
      refine iteW_dec (fun h4 => ?_) (fun h4 => ?_)
      · simp (disch := first | omega | (simp only [Qn] <;> omega)) only [go_sem]
        rw [← hany, overF, decide_eq_true h4, Bool.or_true]
        exact ⟨rfl, trivial⟩
      · simp (disch := first | omega | (simp only [Qn] <;> omega)) only [go_sem]
        rw [show (j : Int) + 1 = ((j + 1 : Nat) : Int) from by omega]
        refine ⟨l.length - (j + 1), by omega, j + 1, ex_junk rfl, by omega, ?_, rfl⟩
        rw [← hany, overF, decide_eq_false h3, decide_eq_false h4]
        rfl
  · simp (disch := first | omega | (simp only [Qn] <;> omega)) only [go_sem]
    have : j = l.length := by omega
    subst this
    rw [List.drop_length] at hany
    exact ⟨by rw [← hany]; rfl, trivial⟩
end
end Go.Proofs.Ythfabknpogbcaaa
/- Plain facts about what the reference computes in place of what the program computes. -/
namespace Go.Proofs.Ythfabknpogbcaaa
open Go Go.Ay
set_option maxRecDepth 100000
noncomputable section

/-- Numbers of 64 bits. -/
def inR (l : List Int) : Prop := ∀ z ∈ l, -9223372036854775808 ≤ z ∧ z < 9223372036854775808
theorem W_eq (x : Int) : W x = (x + 9223372036854775808) % 18446744073709551616 - 9223372036854775808 := by
  have h1 : IntKind.i64.bits = 64 := rfl
  have h2 : IntKind.i64.signed = true := rfl
  simp only [W, IntKind.wrap, h1, h2, Bool.true_and]
  rw [show (2 : Int) ^ 64 = 18446744073709551616 from by decide, show (2 : Int) ^ (64 - 1) = 9223372036854775808 from by decide]
  by_cases h : x % 18446744073709551616 ≥ 9223372036854775808
  · rw [decide_eq_true h, if_pos rfl]; omega
  · rw [decide_eq_false h]; simp only [Bool.false_eq_true, if_false]; omega
theorem W_in (x : Int) : -9223372036854775808 ≤ W x ∧ W x < 9223372036854775808 := by
  rw [W_eq]; omega
theorem W_id {x : Int} (h : -9223372036854775808 ≤ x ∧ x < 9223372036854775808) : W x = x := wrap_in h.1 h.2
theorem inR.cons {x : Int} {l : List Int} (h : inR (x :: l)) : (-9223372036854775808 ≤ x ∧ x < 9223372036854775808) ∧ inR l := ⟨h x (List.mem_cons_self ..), fun z hz => h z (List.mem_cons_of_mem _ hz)⟩
theorem inR.mk {x : Int} {l : List Int} (h1 : -9223372036854775808 ≤ x ∧ x < 9223372036854775808) (h2 : inR l) : inR (x :: l) := fun z hz => by
  rcases List.mem_cons.1 hz with rfl | hz
  · exact h1
  · exact h2 z hz
theorem inR.nil : inR [] := fun z hz => by cases hz
theorem inR.append {a b : List Int} (h1 : inR a) (h2 : inR b) : inR (a ++ b) := fun z hz => by
  rcases List.mem_append.1 hz with hz | hz
  · exact h1 z hz
  · exact h2 z hz
theorem inR.zeros (n : Nat) : inR (List.replicate n 0) := fun z hz => by rw [List.eq_of_mem_replicate hz]; omega
theorem inR.reverse {l : List Int} (h : inR l) : inR l.reverse := fun z hz => h z (List.mem_reverse.1 hz)
theorem inR.getD {l : List Int} (h : inR l) (i : Nat) : -9223372036854775808 ≤ l.getD i 0 ∧ l.getD i 0 < 9223372036854775808 := by
  rw [List.getD_eq_getElem?_getD]
  cases e : l[i]? with
  | none => simp
  | some x => exact h x (List.mem_of_getElem? e)
theorem inR.set {l : List Int} (h : inR l) {x : Int} (hx : -9223372036854775808 ≤ x ∧ x < 9223372036854775808) (i : Nat) : inR (l.set i x) := fun z hz => by
  rcases List.mem_or_eq_of_mem_set hz with hz | rfl
  · exact h z hz
  · exact hx
theorem zipS_in (x : Int) : ∀ (b r : List Int), inR r → inR (zipS x b r)
  | [], r, h => h
  | _ :: _, [], _ => inR.nil
  | y :: b, z :: r, h => by
    rw [zipS, Wq_eq]
    exact inR.mk (W_in _) (zipS_in x b r h.cons.2)
theorem divR_in (b : List Int) : ∀ (n : Nat) (a : List Int), inR a → inR (divR b n a).2
  | 0, a, h => h
  | n + 1, [], h => h
  | n + 1, x :: a, h => by
    rw [divR]
    exact divR_in b n _ (zipS_in x b a h.cons.2)
theorem divF_in {a : List Int} (b : List Int) (h : inR a) : inR (divF a b).2 := by
  rw [divF]
  exact (divR_in _ _ _ h.reverse).reverse
theorem redF_in (n : Nat) {c : List Int} (h : inR c) : inR (redF n c) := by
  rw [redF]
  exact (divF_in _ h).append (inR.zeros _)

theorem zipS_zero : ∀ (b r : List Int), b.length ≤ r.length → inR r → zipS 0 b r = r
  | [], r, _, _ => rfl
  | _ :: _, [], h, _ => by simp at h
  | y :: b, z :: r, h, hr => by
    rw [zipS, zipS_zero b r (by simpa using h) hr.cons.2, Wq_eq, Wq_eq, Int.zero_mul]
    have : W (z - W 0) = z := by
      rw [W_id (x := 0) (by omega), Int.sub_zero, W_id hr.cons.1]
    rw [this]
theorem divR_zero (b r : List Int) (hb : b.length ≤ r.length) (hr : inR r) : ∀ z, divR b z (List.replicate z 0 ++ r) = (List.replicate z 0, r)
  | 0 => rfl
  | z + 1 => by
    rw [List.replicate_succ, List.cons_append, divR, zipS_zero _ _ (by rw [List.length_append]; omega) ((inR.zeros z).append hr)]
    simp only [divR_zero b r hb hr z]
theorem redF_pad (n : Nat) (l : List Int) (z : Nat) (hl : l.length = (phiF n).length - 1) (h : inR l) : redF n (l ++ List.replicate z 0) = l := by
  have h1 : (divF (l ++ List.replicate z 0) (phiF n)).2 = l := by
    rw [divF, List.reverse_append, List.reverse_replicate, List.length_append, List.length_replicate, ← hl, show l.length + z - l.length = z by omega]
    rw [divR_zero _ _ (by rw [List.length_reverse, List.length_reverse, List.length_take]; omega) h.reverse]
    simp
  rw [redF, h1, hl, Nat.sub_self]
  simp

/-! rows by their elements -/
theorem gA_at (q m : Nat) (c : List Int) (hq : 0 < q) : ∀ k, k ≤ m * q → ∀ e i, e < q → i < m → ((gA q m c k).getD e []).getD i 0 = if i * q + e < k then c.getD (i * q + e) 0 else 0
  | 0, _, e, i, he, hi => by
    rw [if_neg (by omega), gA]
    have : (List.replicate q (List.replicate m (0 : Int))).getD e [] = List.replicate m 0 := by
      rw [List.getD_eq_getElem?_getD, List.getElem?_replicate, if_pos he]; rfl
    rw [this, List.getD_eq_getElem?_getD, List.getElem?_replicate, if_pos hi]; rfl
  | k + 1, hk, e, i, he, hi => by
    have hsh := gA_shape q m c k
    have hkq : k % q < q := Nat.mod_lt _ hq
    have hki : k / q < m := (Nat.div_lt_iff_lt_mul hq).2 (by omega)
    have hdm := Nat.div_add_mod k q
    rw [Nat.mul_comm] at hdm
    have ih := gA_at q m c hq k (by omega) e i he hi
    rw [gA, getD_set]
    by_cases h1 : k % q = e
    · rw [if_pos h1, if_pos (by rw [hsh.1]; exact hkq), getD_set]
      by_cases h2 : k / q = i
      · rw [if_pos h2, if_pos (by rw [hsh.2 _ hkq]; exact hki)]
        rw [h1, h2] at hdm
        rw [hdm, if_pos (by omega)]
      · rw [if_neg h2, h1, ih]
        have hne : i * q + e ≠ k := fun h => h2 (by
          rw [← h, Nat.mul_comm, Nat.mul_add_div hq, Nat.div_eq_of_lt he, Nat.add_zero])
        by_cases h3 : i * q + e < k
        · rw [if_pos h3, if_pos (by omega)]
        · rw [if_neg h3, if_neg (by omega)]
    · rw [if_neg h1, ih]
      have hne : i * q + e ≠ k := fun h => h1 (by
        rw [← h, Nat.mul_comm, Nat.mul_add_mod, Nat.mod_eq_of_lt he])
      by_cases h3 : i * q + e < k
      · rw [if_pos h3, if_pos (by omega)]
      · rw [if_neg h3, if_neg (by omega)]
theorem rows_in {rows : List (List Int)} (h : ∀ r ∈ rows, inR r) (e : Nat) : inR (rows.getD e []) := by
  rw [List.getD_eq_getElem?_getD]
  cases hh : rows[e]? with
  | none => exact inR.nil
  | some r => exact h r (List.mem_of_getElem? hh)
theorem gA_in (q m : Nat) {c : List Int} (h : inR c) : ∀ k, ∀ r ∈ gA q m c k, inR r
  | 0, r, hr => by rw [gA] at hr; rw [List.eq_of_mem_replicate hr]; exact inR.zeros _
  | k + 1, r, hr => by
    rw [gA] at hr
    rcases List.mem_or_eq_of_mem_set hr with hr | rfl
    · exact gA_in q m h k r hr
    · exact (rows_in (gA_in q m h k) _).set (h.getD _) _
theorem gB_in (a b q m : Nat) (c : List Int) : ∀ k, ∀ r ∈ gB a b q m c k, inR r
  | 0, r, hr => by rw [gB] at hr; rw [List.eq_of_mem_replicate hr]; exact inR.zeros _
  | k + 1, r, hr => by
    rw [gB] at hr
    rcases List.mem_or_eq_of_mem_set hr with hr | rfl
    · exact gB_in a b q m c k r hr
    · exact (rows_in (gB_in a b q m c k) _).set (W_in _) _
theorem subK_in {u : List Int} (v : List Int) (h : inR u) : ∀ k, inR (subK u v k)
  | 0 => h
  | k + 1 => by rw [subK]; exact (subK_in v h k).set (W_in _) _
theorem lowerF_in {n q : Nat} {c d : List Int} (h : inR c) (hd : lowerF n q c = some d) : inR d := by
  simp only [lowerF] at hd
  split at hd
  · simp only [lowA] at hd
    split at hd
    · cases hd
    · cases hd
      exact redF_in _ (rows_in (gA_in _ _ h _) _)
  · simp only [lowB] at hd
    split at hd
    · cases hd
      refine subK_in _ (rows_in (fun r hr => ?_) _) _
      obtain ⟨s, hs, rfl⟩ := List.mem_map.1 hr
      exact redF_in _ (gB_in _ _ _ _ _ _ s hs)
    · cases hd

/-- Every q-th coefficient, if the others are 0. -/
def evS (q : Nat) (c : List Int) : Nat → Option (List Int)
  | 0 => some []
  | k + 1 => (evS q c k).bind fun l => if k % q = 0 then some (l ++ [c.getD k 0]) else if c.getD k 0 ≠ 0 then none else some l
theorem evS_none {q : Nat} {c : List Int} : ∀ {k : Nat}, (∃ j, j < k ∧ j % q ≠ 0 ∧ c.getD j 0 ≠ 0) → evS q c k = none
  | 0, ⟨j, h, _⟩ => by omega
  | k + 1, ⟨j, h1, h2, h3⟩ => by
    rw [evS]
    by_cases hj : j < k
    · rw [evS_none ⟨j, hj, h2, h3⟩]; rfl
    · have : j = k := by omega
      subst this
      cases evS q c j with
      | none => rfl
      | some l => simp only [Option.bind_some]; rw [if_neg h2, if_pos h3]
theorem evS_some {q : Nat} {c : List Int} (hq : 0 < q) : ∀ {k : Nat}, (∀ j, j < k → j % q ≠ 0 → c.getD j 0 = 0) → evS q c k = some ((List.range ((k + q - 1) / q)).map fun i => c.getD (i * q) 0)
  | 0, _ => by
    rw [evS, show (0 + q - 1) / q = 0 from Nat.div_eq_of_lt (by omega)]; rfl
  | k + 1, h => by
    rw [evS, evS_some hq (fun j hj => h j (by omega)), Option.bind_some]
    by_cases hk : k % q = 0
    · rw [if_pos hk]
      obtain ⟨t, ht⟩ := Nat.dvd_of_mod_eq_zero hk
      subst ht
      have e1 : (q * t + 1 + q - 1) / q = t + 1 := by
        rw [show q * t + 1 + q - 1 = q * (t + 1) by rw [Nat.mul_add]; omega, Nat.mul_div_cancel_left _ hq]
      have e2 : (q * t + q - 1) / q = t := by
        rw [show q * t + q - 1 = q * t + (q - 1) by omega, Nat.mul_add_div hq, Nat.div_eq_of_lt (by omega)]; rfl
      rw [e1, e2, List.range_succ, List.map_append, List.map_singleton, Nat.mul_comm]
    · rw [if_neg hk, h k (by omega) hk, if_neg (fun h => h rfl)]
      congr 3
      have hdm := Nat.div_add_mod k q
      have hlt := Nat.mod_lt k hq
      have e1 : (k + 1 + q - 1) / q = k / q + 1 := by
        rw [show k + 1 + q - 1 = q * (k / q + 1) + k % q by rw [Nat.mul_add]; omega, Nat.mul_add_div hq, Nat.div_eq_of_lt hlt, Nat.add_zero]
      have e2 : (k + q - 1) / q = k / q + 1 := by
        have hx : (k % q - 1) / q = 0 := Nat.div_eq_of_lt (by omega)
        rw [show k + q - 1 = q * (k / q + 1) + (k % q - 1) by rw [Nat.mul_add]; omega, Nat.mul_add_div hq, hx, Nat.add_zero]
      rw [e1, e2]
theorem phi_mul : (List.range 121).all (fun n => (prOf n).all (fun q => n / q % q != 0 || (lens 120).getD n 0 - 1 == ((lens 120).getD (n / q) 0 - 1) * q)) = true := by decide +kernel
theorem phi_mulq {n q : Nat} (h1 : 1 ≤ n) (h2 : n ≤ 120) (hq : q ∈ prOf n) (hz : n / q % q = 0) : (phiF n).length - 1 = ((phiF (n / q)).length - 1) * q := by
  have h := List.all_eq_true.1 (List.all_eq_true.1 phi_mul n (List.mem_range.2 (by omega))) q hq
  have hok := lowOk h1 h2 hq
  have hlt := hok.lt
  rw [lens_eq 120 n h1 h2, lens_eq 120 (n / q) hlt.1 (by omega)] at h
  simpa [hz] using h
theorem lowA_evS {n q : Nat} {c : List Int} (h1 : 1 ≤ n) (h2 : n ≤ 120) (hq : q ∈ prOf n) (hz : n / q % q = 0) (hl : c.length = (phiF n).length - 1) (hr : inR c) : lowerF n q c = evS q c c.length := by
  have hok := lowOk h1 h2 hq
  have hlt := hok.lt
  have hq0 : 0 < q := by have := hok.q2; omega
  have hpl := phi_len h1 h2
  have hpm := phi_len hlt.1 (show n / q ≤ 120 by omega)
  have hmul := phi_mulq h1 h2 hq hz
  simp only [lowerF]
  rw [if_pos hz]
  obtain ⟨m, hm⟩ : ∃ m, n / q = m := ⟨_, rfl⟩
  have hdvd := hok.dvd
  rw [hm] at hmul hpm hlt hdvd ⊢
  have hsh := gA_shape q m c c.length
  have hat := gA_at q m c hq0 c.length (by omega)
  rw [lowA]
  by_cases hex : ∃ j, j < c.length ∧ j % q ≠ 0 ∧ c.getD j 0 ≠ 0
  · rw [evS_none hex, if_pos]
    obtain ⟨j, j1, j2, j3⟩ := hex
    have hjm : j % q < q := Nat.mod_lt _ hq0
    have hji : j / q < m := (Nat.div_lt_iff_lt_mul hq0).2 (by omega)
    have hdm := Nat.div_add_mod j q
    rw [Nat.mul_comm] at hdm
    have := hat (j % q) (j / q) hjm hji
    rw [hdm, if_pos j1] at this
    rw [List.any_eq_true]
    refine ⟨(gA q m c c.length).getD (j % q) [], ?_, ?_⟩
    · rw [List.getD_eq_getElem?_getD, List.getElem?_eq_getElem (by rw [hsh.1]; exact hjm), Option.getD_some, List.mem_iff_getElem]
      exact ⟨j % q - 1, by rw [List.length_drop, hsh.1]; omega, by rw [List.getElem_drop]; congr 1; omega⟩
    · rw [List.any_eq_true]
      have hl2 := hsh.2 _ hjm
      generalize (gA q m c c.length).getD (j % q) [] = R at hl2 this
      refine ⟨c.getD j 0, ?_, by simp [nz]; exact j3⟩
      rw [← this, List.getD_eq_getElem?_getD, List.getElem?_eq_getElem (by omega)]
      exact List.getElem_mem _
  · have hall : ∀ j, j < c.length → j % q ≠ 0 → c.getD j 0 = 0 := fun j h1 h2 => Classical.byContradiction fun h3 => hex ⟨j, h1, h2, h3⟩
    rw [evS_some hq0 hall, if_neg]
    · congr 1
      have hce : (c.length + q - 1) / q = (phiF m).length - 1 := by
        rw [hl, hmul, show ((phiF m).length - 1) * q + q - 1 = q * ((phiF m).length - 1) + (q - 1) by rw [Nat.mul_comm]; omega, Nat.mul_add_div hq0, Nat.div_eq_of_lt (by omega)]; rfl
      rw [hce]
      obtain ⟨l, hlx⟩ : ∃ l, (List.range ((phiF m).length - 1)).map (fun i => c.getD (i * q) 0) = l := ⟨_, rfl⟩
      rw [hlx]
      have hll : l.length = (phiF m).length - 1 := by rw [← hlx, List.length_map, List.length_range]
      have hlr : inR l := fun z hz => by
        rw [← hlx] at hz
        obtain ⟨i, _, rfl⟩ := List.mem_map.1 hz
        exact hr.getD _
      have hrow : (gA q m c c.length).getD 0 [] = l ++ List.replicate (m - ((phiF m).length - 1)) 0 := by
        apply eqD
        · rw [hsh.2 0 hq0, List.length_append, List.length_replicate, hll]; omega
        · intro i hi
          rw [hsh.2 0 hq0] at hi
          rw [hat 0 i hq0 hi, Nat.add_zero]
          by_cases hi2 : i < (phiF m).length - 1
          · have : i * q < c.length := by rw [hl, hmul]; exact Nat.mul_lt_mul_of_pos_right hi2 hq0
            rw [if_pos this, List.getD_eq_getElem?_getD, List.getD_eq_getElem?_getD, List.getElem?_append_left (by omega), ← hlx, List.getElem?_map, List.getElem?_range hi2, Option.map_some, Option.getD_some, List.getD_eq_getElem?_getD]
          · have : ¬ i * q < c.length := by
              rw [hl, hmul]
              have := Nat.mul_le_mul_right q (show (phiF m).length - 1 ≤ i by omega)
              omega
            rw [if_neg this, List.getD_eq_getElem?_getD, List.getElem?_append_right (by omega), List.getElem?_replicate]
            split <;> rfl
      rw [hrow, redF_pad m l _ hll hlr]
    · intro h
      rw [List.any_eq_true] at h
      obtain ⟨r, hrm, hrn⟩ := h
      obtain ⟨e, he, rfl⟩ := List.getElem_of_mem hrm
      rw [List.length_drop, hsh.1] at he
      rw [List.getElem_drop, List.any_eq_true] at hrn
      obtain ⟨x, hx, hxn⟩ := hrn
      obtain ⟨i, hi, rfl⟩ := List.getElem_of_mem hx
      have hge : (gA q m c c.length)[1 + e]'(by rw [hsh.1]; omega) = (gA q m c c.length).getD (1 + e) [] := by
        rw [List.getD_eq_getElem?_getD, List.getElem?_eq_getElem (by rw [hsh.1]; omega)]; rfl
      have hlen2 := hsh.2 (1 + e) (by omega)
      have hi' : i < m := by rw [hge, hlen2] at hi; exact hi
      have h0 := hat (1 + e) i (by omega) hi'
      have h3 : ((gA q m c c.length).getD (1 + e) []).getD i 0 = 0 := by
        rw [h0]
        split
        · rename_i hlt2
          refine hall _ hlt2 ?_
          rw [Nat.mul_comm, Nat.mul_add_mod, Nat.mod_eq_of_lt (by omega)]; omega
        · rfl
      have h4 : ((gA q m c c.length)[1 + e]'(by rw [hsh.1]; omega))[i] = ((gA q m c c.length).getD (1 + e) []).getD i 0 := by
        rw [List.getD_eq_getElem?_getD, List.getElem?_eq_getElem (by rw [hlen2]; exact hi')]
        simp only [hge]; rfl
      rw [h4, h3] at hxn
      simp [nz] at hxn

/-! the primes, as the reference finds them -/
def isPr (q : Nat) : Bool := (List.range q).all fun d => decide (d < 2) || q % d != 0
def rpF (n : Nat) : Nat → Nat → List Nat
  | 0, _ => []
  | f + 1, q => if q ≤ n then (if n % q == 0 && isPr q then q :: rpF n f (q + 1) else rpF n f (q + 1)) else []
theorem rp_all : (List.range 121).all (fun n => decide (rpF n 125 2 = prOf n)) = true := by decide +kernel
theorem rp_eq {n : Nat} (hn : n ≤ 120) : rpF n 125 2 = prOf n := of_decide_eq_true (List.all_eq_true.1 rp_all n (List.mem_range.2 (by omega)))

/-! steps of the canonical form -/
theorem stepF_spec {n q : Nat} {c d : List Int} (h : stepF n c = some (q, d)) : q ∈ prOf n ∧ lowerF n q c = some d := by
  simp only [stepF] at h
  obtain ⟨q', hq', hl⟩ := List.exists_of_findSome?_eq_some h
  simp only [Option.map_eq_some_iff] at hl
  obtain ⟨d', hd', he⟩ := hl
  cases he
  exact ⟨hq', hd'⟩
theorem leastG_stable : ∀ (n : Nat), 1 ≤ n → n ≤ 120 → ∀ (f g : Nat) (c : List Int), n ≤ f → n ≤ g → leastG f n c = leastG g n c := by
  intro n
  induction n using Nat.strongRecOn with
  | ind n ih =>
    intro h1 h2 f g c hf hg
    obtain ⟨f, rfl⟩ : ∃ f', f = f' + 1 := ⟨f - 1, by omega⟩
    obtain ⟨g, rfl⟩ : ∃ g', g = g' + 1 := ⟨g - 1, by omega⟩
    rw [leastG, leastG]
    cases hs : stepF n c with
    | none => rfl
    | some p =>
      obtain ⟨q, d⟩ := p
      obtain ⟨hq, _⟩ := stepF_spec hs
      have hlt := (lowOk h1 h2 hq).lt
      exact ih (n / q) hlt.2 hlt.1 (by omega) f g d (by omega) (by omega)
theorem leastF_step {n q : Nat} {c d : List Int} (h1 : 1 ≤ n) (h2 : n ≤ 120) (hs : stepF n c = some (q, d)) : leastF n c = leastF (n / q) d := by
  obtain ⟨hq, _⟩ := stepF_spec hs
  have hlt := (lowOk h1 h2 hq).lt
  obtain ⟨m, rfl⟩ : ∃ m, n = m + 1 := ⟨n - 1, by omega⟩
  unfold leastF
  rw [leastG, hs]
  exact leastG_stable _ hlt.1 (by omega) _ _ d (by omega) (Nat.le_refl _)
theorem leastF_stop {n : Nat} {c : List Int} (h1 : 1 ≤ n) (hs : stepF n c = none) : leastF n c = (n, c) := by
  obtain ⟨m, rfl⟩ : ∃ m, n = m + 1 := ⟨n - 1, by omega⟩
  unfold leastF
  rw [leastG, hs]
theorem leastG_len2 : ∀ (f n : Nat) (c : List Int), 1 ≤ n → n ≤ 120 → c.length = (phiF n).length - 1 → inR c → (leastG f n c).2.length = (phiF (leastG f n c).1).length - 1 ∧ inR (leastG f n c).2
  | 0, n, c, _, _, h3, h4 => ⟨h3, h4⟩
  | f + 1, n, c, h1, h2, h3, h4 => by
    rw [leastG]
    cases hs : stepF n c with
    | none => exact ⟨h3, h4⟩
    | some p =>
      obtain ⟨q, d⟩ := p
      obtain ⟨hq, hl⟩ := stepF_spec hs
      have hok := lowOk h1 h2 hq
      have hlt := hok.lt
      exact leastG_len2 f (n / q) d hlt.1 (by omega) (lowerF_len hok hl) (lowerF_in h4 hl)
end
end Go.Proofs.Ythfabknpogbcaaa
