/- Contracts: Galois, Conj, Scale. -/
import Derived.Test.YthfabknpogbcaaaC6j
namespace Go.Proofs.Ythfabknpogbcaaa
open Go Go.Ay
set_option maxRecDepth 100000
noncomputable section

def galF (a : Int × List Int) (k : Int) : (Int × List Int) × Int :=
  if checkF a ≠ 0 then ((0, []), checkF a) else if 1 < Int.gcd a.1 (k % a.1) then ((0, []), 18)
  else madeF a.1.toNat (accF (fun i => i * (k % a.1).toNat % a.1.toNat) (fun i => a.2.getD i 0) (List.replicate a.1.toNat 0) a.2.length)

set_option maxHeartbeats 1000000 in
theorem gal_ok (v : V) (a : Int × List Int) (k : Int) (h : H) (ha : CycV h v a) (hl : a.2.length < 1000000) :
    Ev T n_cyclo_Galois [v, .int .i64 k] h (fun v h' => ∃ w, v = .tup [w, .int .i64 (galF a k).2] ∧ CycO h' w (galF a k).1 h.next ∧ Fr h h') := by
  obtain ⟨u, rfl, hu⟩ := ha
  obtain ⟨N, A⟩ := a
  refine Ev_of t_cyclo_Galois rfl ?_
  simp (disch := first | omega | (simp only [List.length_set, List.length_replicate, List.length_append, List.length_take, List.length_drop, List.length_cons, List.length_nil, List.length_map, List.length_range, ints_length] <;> omega)) only [go_sem, c_cyclo_Galois, initV_eq, boxV_agg2 h (v := .int .i64 N) rfl hu.what.2.1]
  have hfx : Fr h (h.new (.cells false [.int .i64 N, u])) := (Fr.refl h).new _
  have hgx : (h.new (.cells false [.int .i64 N, u])).get h.next = some (.cells false [.int .i64 N, u]) := H.get_new_same ..
  have hnx : (h.new (.cells false [.int .i64 N, u])).next = h.next + 1 := H.next_new ..
  generalize h.new (.cells false [.int .i64 N, u]) = hx at *
  rw [← hnx]
  have hfa : Fr hx (hx.new (.cells false [.int .i64 0, .nils])) := (Fr.refl hx).new _
  have hga : (hx.new (.cells false [.int .i64 0, .nils])).get hx.next = some (.cells false [.int .i64 0, .nils]) := H.get_new_same ..
  have hna : (hx.new (.cells false [.int .i64 0, .nils])).next = hx.next + 1 := H.next_new ..
  have hst2 := fun hh => stV_agg2 hh hx.next 0 (v := .int .i64 0) (u := .nils) rfl rfl
  generalize hx.new (.cells false [.int .i64 0, .nils]) = ha at *
  have hgxa := (hfa.get h.next (by omega)).trans hgx
  have hfh := hfx.trans hfa
  simp (disch := first | omega | (simp only [List.length_set, List.length_replicate, List.length_append, List.length_take, List.length_drop, List.length_cons, List.length_nil, List.length_map, List.length_range, ints_length] <;> omega)) only [go_sem, row_two hgxa]
  refine (check_ok _ (N, A) ha ⟨u, rfl, hu.mono hfh⟩ hl).mono ?_
  rintro v1 hb ⟨rfl, hfb⟩
  have hgb := (hfb.get hx.next (by omega)).trans hga
  have hgxb := (hfb.get h.next (by omega)).trans hgxa
  have hrow0 := row_two (h := hb.set hx.next (some (.cells false [.int .i64 0, .nils]))) (H.get_set_same ..)
  have hzero : Fr h (hb.set hx.next (some (.cells false [.int .i64 0, .nils]))) := (hfh.trans hfb).set (by omega) _
  simp (disch := first | omega | (simp only [List.length_set, List.length_replicate, List.length_append, List.length_take, List.length_drop, List.length_cons, List.length_nil, List.length_map, List.length_range, ints_length] <;> omega)) only [go_sem]
  refine iteW_dec (fun h1 => ?_) (fun h1 => ?_)
  · simp (disch := first | omega | (simp only [List.length_set, List.length_replicate, List.length_append, List.length_take, List.length_drop, List.length_cons, List.length_nil, List.length_map, List.length_range, ints_length] <;> omega)) only [go_sem, hst2, hgb, hrow0]
    rw [galF, if_pos h1]
    exact ⟨_, rfl, CycO.zero _ _, hzero⟩
  have h1' : checkF (N, A) = 0 := by omega
  have hrg := check_range h1'
  simp only at hrg
  obtain ⟨m, hm⟩ : ∃ m : Nat, N = (m : Int) := ⟨N.toNat, by omega⟩
  subst hm
  rw [galF, if_neg h1]
  have c0 : hb.cell h.next 0 = some (.int .i64 (m : Int)) := by rw [H.cell_of hgxb]; rfl
  have c1 : hb.cell h.next 1 = some u := by rw [H.cell_of hgxb]; rfl
  simp (disch := first | omega | (simp only [List.length_set, List.length_replicate, List.length_append, List.length_take, List.length_drop, List.length_cons, List.length_nil, List.length_map, List.length_range, ints_length] <;> omega)) only [go_sem, c0]
  refine (residue_ok k m hb (by omega) (by omega)).mono ?_
  rintro v3 h3 ⟨rfl, hh3⟩
  obtain rfl := hh3.symm
  have hnb := hfb.next
  have hr0 := Int.emod_nonneg k (show (m : Int) ≠ 0 by omega)
  have hr1 := Int.emod_lt_of_pos k (show (0 : Int) < m by omega)
  obtain ⟨r, hr⟩ : ∃ r : Nat, k % (m : Int) = (r : Int) := ⟨(k % (m : Int)).toNat, by omega⟩
  simp only [hr, Int.toNat_natCast] at hr0 hr1 ⊢
  simp (disch := first | omega | (simp only [List.length_set, List.length_replicate, List.length_append, List.length_take, List.length_drop, List.length_cons, List.length_nil, List.length_map, List.length_range, ints_length] <;> omega)) only [go_sem, c0]
  refine (gcd_ok (m : Int) (r : Int) hb (by omega) (by omega)).mono ?_
  rintro v4 h4 ⟨rfl, hf4⟩
  have hn4 := hf4.next
  have hg4 := (hf4.get hx.next (by omega)).trans hgb
  have hgx4 := (hf4.get h.next (by omega)).trans hgxb
  have hrow4 := row_two (h := h4.set hx.next (some (.cells false [.int .i64 0, .nils]))) (H.get_set_same ..)
  have hzero4 : Fr h (h4.set hx.next (some (.cells false [.int .i64 0, .nils]))) := ((hfh.trans hfb).trans hf4).set (by omega) _
  simp (disch := first | omega | (simp only [List.length_set, List.length_replicate, List.length_append, List.length_take, List.length_drop, List.length_cons, List.length_nil, List.length_map, List.length_range, ints_length] <;> omega)) only [go_sem]
  refine iteW_dec (fun h5 => ?_) (fun h5 => ?_)
  · simp (disch := first | omega | (simp only [List.length_set, List.length_replicate, List.length_append, List.length_take, List.length_drop, List.length_cons, List.length_nil, List.length_map, List.length_range, ints_length] <;> omega)) only [go_sem, hst2, hg4, hrow4]
    rw [if_pos (by omega)]
    exact ⟨_, rfl, CycO.zero _ _, hzero4⟩
  rw [if_neg (by omega)]
  have d0 : h4.cell h.next 0 = some (.int .i64 (m : Int)) := by rw [H.cell_of hgx4]; rfl
  have d1 : h4.cell h.next 1 = some u := by rw [H.cell_of hgx4]; rfl
  have hF : Fr h h4 := (hfh.trans hfb).trans hf4
  simp (disch := first | omega | (simp only [List.length_set, List.length_replicate, List.length_append, List.length_take, List.length_drop, List.length_cons, List.length_nil, List.length_map, List.length_range, ints_length] <;> omega)) only [go_sem, d0, d1, (hu.mono hF).lens]
  have hn5 : (h4.new (.cells false (ints (List.replicate m 0)))).next = h4.next + 1 := H.next_new ..
  have hg5 : (h4.new (.cells false (ints (List.replicate m 0)))).get h4.next = some (.cells false (ints (List.replicate m 0))) := H.get_new_same ..
  have hf5 : Fr h4 (h4.new (.cells false (ints (List.replicate m 0)))) := (Fr.refl h4).new _
  generalize h4.new (.cells false (ints (List.replicate m 0))) = h5' at *
  have e1 : h5'.cell h.next 1 = some u := by rw [hf5.cell (by omega)]; exact d1
  obtain ⟨cid, coff, hcs, hcid, hcc⟩ := hu.open
  have hpl := phi_len (n := m) (by omega) (by omega)
  rw [Int.toNat_natCast] at hrg
  refine Wp_loop (fun k' vars h6 => ∃ (j : Nat), (∃ g : Nat → V, vars = [g 0, .int .i64 (r : Int), .ptr h.next 0, .ptr hx.next 0, g 4, g 5, .sl h4.next 0 m (.kn m), g 7, g 8, g 9, g 10, u, .int .i64 (A.length : Int), .int .i64 (j : Int), g 14]) ∧ j ≤ A.length ∧
    h6.get h4.next = some (.cells false (ints (accF (fun i => i * r % m) (fun i => A.getD i 0) (List.replicate m 0) j))) ∧ Fr h4 h6 ∧ h4.next < h6.next ∧ k' = A.length - j) A.length
    ⟨0, ex_junk rfl, Nat.zero_le _, hg5, hf5, by omega, rfl⟩ ?_
  rintro k' vars h6 ⟨j, ⟨g, rfl⟩, hj, hg6, hf6, hn6, rfl⟩
  have hal := accF_len (fun i => i * r % m) (fun i => A.getD i 0) (List.replicate m 0) j
  rw [List.length_replicate] at hal
  simp (disch := first | omega | (simp only [List.length_set, List.length_replicate, List.length_append, List.length_take, List.length_drop, List.length_cons, List.length_nil, List.length_map, List.length_range, ints_length] <;> omega)) only [go_sem]
  by_cases hjc : (j : Int) < (A.length : Int)
  · rw [decide_eq_true hjc]
    have hcc6 := cells_fr (hF.trans hf6) hcid hcc
    have hjr : j * r ≤ 120 * 120 := Nat.mul_le_mul (by omega) (by omega)
    have hjm : j * r % m < m := Nat.mod_lt _ (by omega)
    have em0 : (j : Int) * (r : Int) = ((j * r : Nat) : Int) := (Int.natCast_mul ..).symm
    have em : ((j * r : Nat) : Int).tmod (m : Int) = ((j * r % m : Nat) : Int) := tmod_nat ..
    have hstep : accF (fun i => i * r % m) (fun i => A.getD i 0) (List.replicate m 0) (j + 1) = (accF (fun i => i * r % m) (fun i => A.getD i 0) (List.replicate m 0) j).set (j * r % m) (W ((accF (fun i => i * r % m) (fun i => A.getD i 0) (List.replicate m 0) j).getD (j * r % m) 0 + A.getD j 0)) := rfl
    generalize j * r % m = z at hjm em hstep
    generalize j * r = y at hjr em0 em
    have f0 : h6.cell h.next 0 = some (.int .i64 (m : Int)) := by rw [hf6.cell (by omega)]; exact d0
    simp (disch := first | omega | (simp only [List.length_set, List.length_replicate, List.length_append, List.length_take, List.length_drop, List.length_cons, List.length_nil, List.length_map, List.length_range, ints_length] <;> omega)) only [go_sem, hcs.ixa, hcc6, em0, em, f0, own_cell hg6, hg6]
    rw [show (j : Int) + 1 = ((j + 1 : Nat) : Int) from by omega]
    refine ⟨A.length - (j + 1), by omega, j + 1, ex_junk rfl, by omega, by rw [hstep], ?_, by omega, rfl⟩
    exact hf6.set (Nat.le_refl _) _
  · rw [decide_eq_false hjc]
    have : A.length = j := by omega
    subst this
    have f0 : h6.cell h.next 0 = some (.int .i64 (m : Int)) := by rw [hf6.cell (by omega)]; exact d0
    simp (disch := first | omega | (simp only [List.length_set, List.length_replicate, List.length_append, List.length_take, List.length_drop, List.length_cons, List.length_nil, List.length_map, List.length_range, ints_length] <;> omega)) only [go_sem, f0]
    have hsi : SI h6 (.sl h4.next 0 m (.kn m)) (accF (fun i => i * r % m) (fun i => A.getD i 0) (List.replicate m 0) A.length) := by
      have := SI.own (h := h6) (id := h4.next) (by omega) hg6 (.kn m)
      rw [hal] at this; exact this
    refine (made_ok m _ _ h6 (by omega) (by omega) hsi (by omega)).mono ?_
    rintro v7 h7 ⟨w, rfl, hcy, hf7⟩
    generalize madeF m _ = M at *
    have hf47 : Fr h4 h7 := hf6.trans hf7
    have hg7 := (hf47.get hx.next (by omega)).trans hg4
    obtain ⟨u', rfl, hu', hfu⟩ := hcy
    have hst3 := fun hh => stV_agg2 hh hx.next 0 (v := .int .i64 M.1.1) (u := u') rfl hu'.what.2.1
    have hrow := row_two (h := h7.set hx.next (some (.cells false [.int .i64 M.1.1, u']))) (H.get_set_same ..)
    simp (disch := first | omega | (simp only [List.length_set, List.length_replicate, List.length_append, List.length_take, List.length_drop, List.length_cons, List.length_nil, List.length_map, List.length_range, ints_length] <;> omega)) only [go_sem, hst3, hg7, hrow]
    exact ⟨_, rfl, (CycO.set ⟨u', rfl, hu', hfu⟩ (by omega) _).le (by omega), (hF.trans hf47).set (by omega) _⟩

theorem conj_ok (v : V) (a : Int × List Int) (h : H) (ha : CycV h v a) (hl : a.2.length < 1000000) :
    Ev T n_cyclo_Conj [v] h (fun v h' => ∃ w, v = .tup [w, .int .i64 (galF a (-1)).2] ∧ CycO h' w (galF a (-1)).1 h.next ∧ Fr h h') := by
  obtain ⟨u, rfl, hu⟩ := ha
  obtain ⟨N, A⟩ := a
  refine Ev_of t_cyclo_Conj rfl ?_
  simp (disch := first | omega | (simp only [List.length_set, List.length_replicate, List.length_append, List.length_take, List.length_drop, List.length_cons, List.length_nil, List.length_map, List.length_range, ints_length] <;> omega)) only [go_sem, c_cyclo_Conj, initV_eq, boxV_agg2 h (v := .int .i64 N) rfl hu.what.2.1]
  have hfx : Fr h (h.new (.cells false [.int .i64 N, u])) := (Fr.refl h).new _
  have hgx : (h.new (.cells false [.int .i64 N, u])).get h.next = some (.cells false [.int .i64 N, u]) := H.get_new_same ..
  have hnx : (h.new (.cells false [.int .i64 N, u])).next = h.next + 1 := H.next_new ..
  generalize h.new (.cells false [.int .i64 N, u]) = hx at *
  rw [← hnx]
  have hfa : Fr hx (hx.new (.cells false [.int .i64 0, .nils])) := (Fr.refl hx).new _
  have hga : (hx.new (.cells false [.int .i64 0, .nils])).get hx.next = some (.cells false [.int .i64 0, .nils]) := H.get_new_same ..
  have hna : (hx.new (.cells false [.int .i64 0, .nils])).next = hx.next + 1 := H.next_new ..
  generalize hx.new (.cells false [.int .i64 0, .nils]) = ha at *
  have hgxa := (hfa.get h.next (by omega)).trans hgx
  have hfh := hfx.trans hfa
  simp (disch := first | omega | (simp only [List.length_set, List.length_replicate, List.length_append, List.length_take, List.length_drop, List.length_cons, List.length_nil, List.length_map, List.length_range, ints_length] <;> omega)) only [go_sem, row_two hgxa]
  refine (gal_ok _ (N, A) (-1) ha ⟨u, rfl, hu.mono hfh⟩ hl).mono ?_
  rintro v7 h7 ⟨w, rfl, hcy, hf7⟩
  generalize galF _ _ = M at *
  have hg7 := (hf7.get hx.next (by omega)).trans hga
  obtain ⟨u', rfl, hu', hfu⟩ := hcy
  have hst3 := fun hh => stV_agg2 hh hx.next 0 (v := .int .i64 M.1.1) (u := u') rfl hu'.what.2.1
  have hrow := row_two (h := h7.set hx.next (some (.cells false [.int .i64 M.1.1, u']))) (H.get_set_same ..)
  simp (disch := first | omega | (simp only [List.length_set, List.length_replicate, List.length_append, List.length_take, List.length_drop, List.length_cons, List.length_nil, List.length_map, List.length_range, ints_length] <;> omega)) only [go_sem, hst3, hg7, hrow]
  exact ⟨_, rfl, (CycO.set ⟨u', rfl, hu', hfu⟩ (by omega) _).le (by omega), (hfh.trans hf7).set (by omega) _⟩
end
end Go.Proofs.Ythfabknpogbcaaa
