/- Contracts: Galois, Conj, Scale. Contracts: Add, Mul. Contracts: Mul. Contracts: Scale, Quot, Rational, Cmp. Contracts of the reference: phi, Phi, reduced, add, over. -/
import Derived.Test.YthfabknpogbcaaaC6etoC6j
import Derived.Test.YthfabknpogbcaaaC6s0toC6d
/- Contracts: Galois, Conj, Scale. -/
namespace Go.Proofs.Ythfabknpogbcaaa
open Go Go.Ay
set_option maxRecDepth 100000
noncomputable section

def galF (a : Int × List Int) (k : Int) : (Int × List Int) × Int :=
  if checkF a ≠ 0 then ((0, []), checkF a) else if 1 < Int.gcd a.1 (k % a.1) then ((0, []), 18)
  else madeF a.1.toNat (accF (fun i => i * (k % a.1).toNat % a.1.toNat) (fun i => a.2.getD i 0) (List.replicate a.1.toNat 0) a.2.length)

set_option maxHeartbeats 1000000 in
theorem gal_ok (v : V) (a : Int × List Int) (k : Int) (h : H) (ha : CycV h v a) (hl : a.2.length < 1000000) :
    Ev T n_cyclo_Galois [v, .int .i64 k] h (fun v h' => ∃ w, v = .tup [w, .int .i64 (galF a k).2] ∧ CycO h' w (galF a k).1 h.next ∧ Fr h h') := by
  obtain ⟨u, rfl, hu⟩ := ha
  obtain ⟨N, A⟩ := a
  refine Ev_of t_cyclo_Galois rfl ?_
  simp (disch := first | omega | (simp only [List.length_set, List.length_replicate, List.length_append, List.length_take, List.length_drop, List.length_cons, List.length_nil, List.length_map, List.length_range, ints_length] <;> omega)) only [go_sem, c_cyclo_Galois, initV_eq, boxV_agg2 h (v := .int .i64 N) rfl hu.what.2.1]
  have hfx : Fr h (h.new (.cells false [.int .i64 N, u])) := (Fr.refl h).new _
  have hgx : (h.new (.cells false [.int .i64 N, u])).get h.next = some (.cells false [.int .i64 N, u]) := H.get_new_same ..
  have hnx : (h.new (.cells false [.int .i64 N, u])).next = h.next + 1 := H.next_new ..
  generalize h.new (.cells false [.int .i64 N, u]) = hx at *
  rw [← hnx]
  have hfa : Fr hx (hx.new (.cells false [.int .i64 0, .nils])) := (Fr.refl hx).new _
  have hga : (hx.new (.cells false [.int .i64 0, .nils])).get hx.next = some (.cells false [.int .i64 0, .nils]) := H.get_new_same ..
  have hna : (hx.new (.cells false [.int .i64 0, .nils])).next = hx.next + 1 := H.next_new ..
  have hst2 := fun hh => stV_agg2 hh hx.next 0 (v := .int .i64 0) (u := .nils) rfl rfl
  generalize hx.new (.cells false [.int .i64 0, .nils]) = ha at *
  have hgxa := (hfa.get h.next (by omega)).trans hgx
  have hfh := hfx.trans hfa
  simp (disch := first | omega | (simp only [List.length_set, List.length_replicate, List.length_append, List.length_take, List.length_drop, List.length_cons, List.length_nil, List.length_map, List.length_range, ints_length] <;> omega)) only [go_sem, row_two hgxa]
  refine (check_ok _ (N, A) ha ⟨u, rfl, hu.mono hfh⟩ hl).mono ?_
  rintro v1 hb ⟨rfl, hfb⟩
  have hgb := (hfb.get hx.next (by omega)).trans hga
  have hgxb := (hfb.get h.next (by omega)).trans hgxa
  have hrow0 := row_two (h := hb.set hx.next (some (.cells false [.int .i64 0, .nils]))) (H.get_set_same ..)
  have hzero : Fr h (hb.set hx.next (some (.cells false [.int .i64 0, .nils]))) := (hfh.trans hfb).set (by omega) _
  simp (disch := first | omega | (simp only [List.length_set, List.length_replicate, List.length_append, List.length_take, List.length_drop, List.length_cons, List.length_nil, List.length_map, List.length_range, ints_length] <;> omega)) only [go_sem]
  refine iteW_dec (fun h1 => ?_) (fun h1 => ?_)
  · simp (disch := first | omega | (simp only [List.length_set, List.length_replicate, List.length_append, List.length_take, List.length_drop, List.length_cons, List.length_nil, List.length_map, List.length_range, ints_length] <;> omega)) only [go_sem, hst2, hgb, hrow0]
    rw [galF, if_pos h1]
    exact ⟨_, rfl, CycO.zero _ _, hzero⟩
  have h1' : checkF (N, A) = 0 := by omega
  have hrg := check_range h1'
  simp only at hrg
  obtain ⟨m, hm⟩ : ∃ m : Nat, N = (m : Int) := ⟨N.toNat, by omega⟩
  subst hm
  rw [galF, if_neg h1]
  have c0 : hb.cell h.next 0 = some (.int .i64 (m : Int)) := by rw [H.cell_of hgxb]; rfl
  have c1 : hb.cell h.next 1 = some u := by rw [H.cell_of hgxb]; rfl
  simp (disch := first | omega | (simp only [List.length_set, List.length_replicate, List.length_append, List.length_take, List.length_drop, List.length_cons, List.length_nil, List.length_map, List.length_range, ints_length] <;> omega)) only [go_sem, c0]
  refine (residue_ok k m hb (by omega) (by omega)).mono ?_
  rintro v3 h3 ⟨rfl, hh3⟩
  obtain rfl := hh3.symm
  have hnb := hfb.next
  have hr0 := Int.emod_nonneg k (show (m : Int) ≠ 0 by omega)
  have hr1 := Int.emod_lt_of_pos k (show (0 : Int) < m by omega)
  obtain ⟨r, hr⟩ : ∃ r : Nat, k % (m : Int) = (r : Int) := ⟨(k % (m : Int)).toNat, by omega⟩
  simp only [hr, Int.toNat_natCast] at hr0 hr1 ⊢
  simp (disch := first | omega | (simp only [List.length_set, List.length_replicate, List.length_append, List.length_take, List.length_drop, List.length_cons, List.length_nil, List.length_map, List.length_range, ints_length] <;> omega)) only [go_sem, c0]
  refine (gcd_ok (m : Int) (r : Int) hb (by omega) (by omega)).mono ?_
  rintro v4 h4 ⟨rfl, hf4⟩
  have hn4 := hf4.next
  have hg4 := (hf4.get hx.next (by omega)).trans hgb
  have hgx4 := (hf4.get h.next (by omega)).trans hgxb
  have hrow4 := row_two (h := h4.set hx.next (some (.cells false [.int .i64 0, .nils]))) (H.get_set_same ..)
  have hzero4 : Fr h (h4.set hx.next (some (.cells false [.int .i64 0, .nils]))) := ((hfh.trans hfb).trans hf4).set (by omega) _
  simp (disch := first | omega | (simp only [List.length_set, List.length_replicate, List.length_append, List.length_take, List.length_drop, List.length_cons, List.length_nil, List.length_map, List.length_range, ints_length] <;> omega)) only [go_sem]
  refine iteW_dec (fun h5 => ?_) (fun h5 => ?_)
  · simp (disch := first | omega | (simp only [List.length_set, List.length_replicate, List.length_append, List.length_take, List.length_drop, List.length_cons, List.length_nil, List.length_map, List.length_range, ints_length] <;> omega)) only [go_sem, hst2, hg4, hrow4]
    rw [if_pos (by omega)]
    exact ⟨_, rfl, CycO.zero _ _, hzero4⟩
  rw [if_neg (by omega)]
  have d0 : h4.cell h.next 0 = some (.int .i64 (m : Int)) := by rw [H.cell_of hgx4]; rfl
  have d1 : h4.cell h.next 1 = some u := by rw [H.cell_of hgx4]; rfl
  have hF : Fr h h4 := (hfh.trans hfb).trans hf4
  simp (disch := first | omega | (simp only [List.length_set, List.length_replicate, List.length_append, List.length_take, List.length_drop, List.length_cons, List.length_nil, List.length_map, List.length_range, ints_length] <;> omega)) only [go_sem, d0, d1, (hu.mono hF).lens]
  have hn5 : (h4.new (.cells false (ints (List.replicate m 0)))).next = h4.next + 1 := H.next_new ..
  have hg5 : (h4.new (.cells false (ints (List.replicate m 0)))).get h4.next = some (.cells false (ints (List.replicate m 0))) := H.get_new_same ..
  have hf5 : Fr h4 (h4.new (.cells false (ints (List.replicate m 0)))) := (Fr.refl h4).new _
  generalize h4.new (.cells false (ints (List.replicate m 0))) = h5' at *
  have e1 : h5'.cell h.next 1 = some u := by rw [hf5.cell (by omega)]; exact d1
  obtain ⟨cid, coff, hcs, hcid, hcc⟩ := hu.open
  have hpl := phi_len (n := m) (by omega) (by omega)
  rw [Int.toNat_natCast] at hrg
  refine Wp_loop (fun k' vars h6 => ∃ (j : Nat), (∃ g : Nat → V, vars = [g 0, .int .i64 (r : Int), .ptr h.next 0, .ptr hx.next 0, g 4, g 5, .sl h4.next 0 m (.kn m), g 7, g 8, g 9, g 10, u, .int .i64 (A.length : Int), .int .i64 (j : Int), g 14]) ∧ j ≤ A.length ∧
    h6.get h4.next = some (.cells false (ints (accF (fun i => i * r % m) (fun i => A.getD i 0) (List.replicate m 0) j))) ∧ Fr h4 h6 ∧ h4.next < h6.next ∧ k' = A.length - j) A.length
    ⟨0, ex_junk rfl, Nat.zero_le _, hg5, hf5, by omega, rfl⟩ ?_
  rintro k' vars h6 ⟨j, ⟨g, rfl⟩, hj, hg6, hf6, hn6, rfl⟩
  have hal := accF_len (fun i => i * r % m) (fun i => A.getD i 0) (List.replicate m 0) j
  rw [List.length_replicate] at hal
  simp (disch := first | omega | (simp only [List.length_set, List.length_replicate, List.length_append, List.length_take, List.length_drop, List.length_cons, List.length_nil, List.length_map, List.length_range, ints_length] <;> omega)) only [go_sem]
  by_cases hjc : (j : Int) < (A.length : Int)
  · rw [decide_eq_true hjc]
    have hcc6 := cells_fr (hF.trans hf6) hcid hcc
    have hjr : j * r ≤ 120 * 120 := Nat.mul_le_mul (by omega) (by omega)
    have hjm : j * r % m < m := Nat.mod_lt _ (by omega)
    have em0 : (j : Int) * (r : Int) = ((j * r : Nat) : Int) := (Int.natCast_mul ..).symm
    have em : ((j * r : Nat) : Int).tmod (m : Int) = ((j * r % m : Nat) : Int) := tmod_nat ..
    have hstep : accF (fun i => i * r % m) (fun i => A.getD i 0) (List.replicate m 0) (j + 1) = (accF (fun i => i * r % m) (fun i => A.getD i 0) (List.replicate m 0) j).set (j * r % m) (W ((accF (fun i => i * r % m) (fun i => A.getD i 0) (List.replicate m 0) j).getD (j * r % m) 0 + A.getD j 0)) := rfl
    generalize j * r % m = z at hjm em hstep
    generalize j * r = y at hjr em0 em
    have f0 : h6.cell h.next 0 = some (.int .i64 (m : Int)) := by rw [hf6.cell (by omega)]; exact d0
    simp (disch := first | omega | (simp only [List.length_set, List.length_replicate, List.length_append, List.length_take, List.length_drop, List.length_cons, List.length_nil, List.length_map, List.length_range, ints_length] <;> omega)) only [go_sem, hcs.ixa, hcc6, em0, em, f0, own_cell hg6, hg6]
    rw [show (j : Int) + 1 = ((j + 1 : Nat) : Int) from by omega]
    refine ⟨A.length - (j + 1), by omega, j + 1, ex_junk rfl, by omega, by rw [hstep], ?_, by omega, rfl⟩
    exact hf6.set (Nat.le_refl _) _
  · rw [decide_eq_false hjc]
    have : A.length = j := by omega
    subst this
    have f0 : h6.cell h.next 0 = some (.int .i64 (m : Int)) := by rw [hf6.cell (by omega)]; exact d0
    simp (disch := first | omega | (simp only [List.length_set, List.length_replicate, List.length_append, List.length_take, List.length_drop, List.length_cons, List.length_nil, List.length_map, List.length_range, ints_length] <;> omega)) only [go_sem, f0]
    have hsi : SI h6 (.sl h4.next 0 m (.kn m)) (accF (fun i => i * r % m) (fun i => A.getD i 0) (List.replicate m 0) A.length) := by
      have := SI.own (h := h6) (id := h4.next) (by omega) hg6 (.kn m)
      rw [hal] at this; exact this
    refine (made_ok m _ _ h6 (by omega) (by omega) hsi (by omega)).mono ?_
    rintro v7 h7 ⟨w, rfl, hcy, hf7⟩
    generalize madeF m _ = M at *
    have hf47 : Fr h4 h7 := hf6.trans hf7
    have hg7 := (hf47.get hx.next (by omega)).trans hg4
    obtain ⟨u', rfl, hu', hfu⟩ := hcy
    have hst3 := fun hh => stV_agg2 hh hx.next 0 (v := .int .i64 M.1.1) (u := u') rfl hu'.what.2.1
    have hrow := row_two (h := h7.set hx.next (some (.cells false [.int .i64 M.1.1, u']))) (H.get_set_same ..)
    simp (disch := first | omega | (simp only [List.length_set, List.length_replicate, List.length_append, List.length_take, List.length_drop, List.length_cons, List.length_nil, List.length_map, List.length_range, ints_length] <;> omega)) only [go_sem, hst3, hg7, hrow]
    exact ⟨_, rfl, (CycO.set ⟨u', rfl, hu', hfu⟩ (by omega) _).le (by omega), (hF.trans hf47).set (by omega) _⟩

theorem conj_ok (v : V) (a : Int × List Int) (h : H) (ha : CycV h v a) (hl : a.2.length < 1000000) :
    Ev T n_cyclo_Conj [v] h (fun v h' => ∃ w, v = .tup [w, .int .i64 (galF a (-1)).2] ∧ CycO h' w (galF a (-1)).1 h.next ∧ Fr h h') := by
  obtain ⟨u, rfl, hu⟩ := ha
  obtain ⟨N, A⟩ := a
  refine Ev_of t_cyclo_Conj rfl ?_
  simp (disch := first | omega | (simp only [List.length_set, List.length_replicate, List.length_append, List.length_take, List.length_drop, List.length_cons, List.length_nil, List.length_map, List.length_range, ints_length] <;> omega)) only [go_sem, c_cyclo_Conj, initV_eq, boxV_agg2 h (v := .int .i64 N) rfl hu.what.2.1]
  have hfx : Fr h (h.new (.cells false [.int .i64 N, u])) := (Fr.refl h).new _
  have hgx : (h.new (.cells false [.int .i64 N, u])).get h.next = some (.cells false [.int .i64 N, u]) := H.get_new_same ..
  have hnx : (h.new (.cells false [.int .i64 N, u])).next = h.next + 1 := H.next_new ..
  generalize h.new (.cells false [.int .i64 N, u]) = hx at *
  rw [← hnx]
  have hfa : Fr hx (hx.new (.cells false [.int .i64 0, .nils])) := (Fr.refl hx).new _
  have hga : (hx.new (.cells false [.int .i64 0, .nils])).get hx.next = some (.cells false [.int .i64 0, .nils]) := H.get_new_same ..
  have hna : (hx.new (.cells false [.int .i64 0, .nils])).next = hx.next + 1 := H.next_new ..
  generalize hx.new (.cells false [.int .i64 0, .nils]) = ha at *
  have hgxa := (hfa.get h.next (by omega)).trans hgx
  have hfh := hfx.trans hfa
  simp (disch := first | omega | (simp only [List.length_set, List.length_replicate, List.length_append, List.length_take, List.length_drop, List.length_cons, List.length_nil, List.length_map, List.length_range, ints_length] <;> omega)) only [go_sem, row_two hgxa]
  refine (gal_ok _ (N, A) (-1) ha ⟨u, rfl, hu.mono hfh⟩ hl).mono ?_
  rintro v7 h7 ⟨w, rfl, hcy, hf7⟩
  generalize galF _ _ = M at *
  have hg7 := (hf7.get hx.next (by omega)).trans hga
  obtain ⟨u', rfl, hu', hfu⟩ := hcy
  have hst3 := fun hh => stV_agg2 hh hx.next 0 (v := .int .i64 M.1.1) (u := u') rfl hu'.what.2.1
  have hrow := row_two (h := h7.set hx.next (some (.cells false [.int .i64 M.1.1, u']))) (H.get_set_same ..)
  simp (disch := first | omega | (simp only [List.length_set, List.length_replicate, List.length_append, List.length_take, List.length_drop, List.length_cons, List.length_nil, List.length_map, List.length_range, ints_length] <;> omega)) only [go_sem, hst3, hg7, hrow]
  exact ⟨_, rfl, (CycO.set ⟨u', rfl, hu', hfu⟩ (by omega) _).le (by omega), (hfh.trans hf7).set (by omega) _⟩
end
end Go.Proofs.Ythfabknpogbcaaa
/- Contracts: Add, Mul. -/
namespace Go.Proofs.Ythfabknpogbcaaa
open Go Go.Ay
set_option maxRecDepth 100000
noncomputable section

theorem bls_cyc2 (h : H) {N M : Int} {u w : V} (hu : u.one = true) (hw : w.one = true) : blsV h 2 [.int .i64 0, .nils] 2 [(0, 2, .agg [.int .i64 N, u]), (2, 2, .agg [.int .i64 M, w])] = some (.sl h.next 0 2 (.kn 2), h.new (.cells false [.int .i64 N, u, .int .i64 M, w])) := by
  have z : zerosV [V.int .i64 0, .nils] (2 * 2) = [.int .i64 0, .nils, .int .i64 0, .nils] := rfl
  have p1 : putAt [V.int .i64 0, .nils, .int .i64 0, .nils] 0 [.int .i64 N, u] = some [.int .i64 N, u, .int .i64 0, .nils] := by simp [putAt]
  have p2 : putAt [V.int .i64 N, u, .int .i64 0, .nils] 2 [.int .i64 M, w] = some [.int .i64 N, u, .int .i64 M, w] := by simp [putAt]
  have o1 : (V.int .i64 N).one = true := rfl
  have o2 : (V.int .i64 M).one = true := rfl
  simp only [blsV, z, fillV, V.cells, List.length_cons, List.length_nil, List.all_cons, List.all_nil, o1, o2, hu, hw, Bool.and_self, Nat.zero_add, Nat.reduceAdd, and_self, if_true, p1, p2]

def addF (a b : Int × List Int) : (Int × List Int) × Int :=
  if (commonF a b).2 ≠ 0 then ((0, []), (commonF a b).2) else
    madeF (commonF a b).1.toNat (accF (fun i => i * ((commonF a b).1.toNat / b.1.toNat)) (fun i => b.2.getD i 0)
      (accF (fun i => i * ((commonF a b).1.toNat / a.1.toNat)) (fun i => a.2.getD i 0) (List.replicate (commonF a b).1.toNat 0) a.2.length) b.2.length)
theorem common_range {a b : Int × List Int} (h : (commonF a b).2 = 0) : checkF a = 0 ∧ checkF b = 0 ∧ 1 ≤ (commonF a b).1 ∧ (commonF a b).1 ≤ 120 := by
  by_cases h1 : orF [checkF a, checkF b] = 0
  · obtain ⟨z1, z2⟩ := or_zero h1
    have g1 := check_range z1
    have g2 := check_range z2
    unfold commonF at h ⊢
    rw [if_neg (by omega)] at h ⊢
    split at h
    · cases h
    · rename_i h3
      rw [if_neg h3]
      refine ⟨z1, z2, ?_, by simp only; omega⟩
      simp only
      have hG : 1 ≤ Int.gcd a.1 b.1 := Nat.one_le_iff_ne_zero.2 (fun e => by rw [Int.gcd_eq_zero_iff] at e; omega)
      obtain ⟨t, ht⟩ := Int.gcd_dvd_left a.1 b.1
      have hq : a.1 / (Int.gcd a.1 b.1 : Int) = t := by
        rw [ht]
        rw [show Int.gcd ((Int.gcd a.1 b.1 : Int) * t) b.1 = Int.gcd a.1 b.1 by rw [← ht]]
        exact Int.mul_ediv_cancel_left _ (by omega)
      rw [hq]
      have ht1 : 1 ≤ t := by
        rcases Int.lt_or_le 0 t with h | h
        · omega
        · have : (Int.gcd a.1 b.1 : Int) * t ≤ 0 := Int.mul_nonpos_of_nonneg_of_nonpos (by omega) h
          omega
      have := Int.mul_le_mul ht1 g2.1 (by omega) (by omega)
      omega
  · unfold commonF at h
    rw [if_pos h1] at h
    exact absurd h h1

theorem idx_lt {i n N : Nat} (hi : i < N) (hn : 1 ≤ n) : i * (n / N) < n := by
  rcases Nat.eq_zero_or_pos (n / N) with h | h
  · rw [h]; omega
  · have h1 : i * (n / N) < N * (n / N) := Nat.mul_lt_mul_of_pos_right hi h
    have h2 : N * (n / N) ≤ n := Nat.mul_div_le n N
    omega

set_option maxHeartbeats 1000000 in
theorem add_ok (va vb : V) (a b : Int × List Int) (h : H) (ha : CycV h va a) (hb : CycV h vb b) (hla : a.2.length < 1000000) (hlb : b.2.length < 1000000) :
    Ev T n_cyclo_Add [va, vb] h (fun v h' => ∃ w, v = .tup [w, .int .i64 (addF a b).2] ∧ CycO h' w (addF a b).1 h.next ∧ Fr h h') := by
  obtain ⟨u, rfl, hu⟩ := ha
  obtain ⟨w, rfl, hw⟩ := hb
  obtain ⟨N, A⟩ := a
  obtain ⟨M, B⟩ := b
  simp only at hu hw hla hlb
  refine Ev_of t_cyclo_Add rfl ?_
  simp (disch := first | omega | (simp only [List.length_set, List.length_replicate, List.length_append, List.length_take, List.length_drop, List.length_cons, List.length_nil, List.length_map, List.length_range, ints_length] <;> omega)) only [go_sem, c_cyclo_Add, initV_eq, boxV_agg2 h (v := .int .i64 N) rfl hu.what.2.1]
  have hfx : Fr h (h.new (.cells false [.int .i64 N, u])) := (Fr.refl h).new _
  have hgx : (h.new (.cells false [.int .i64 N, u])).get h.next = some (.cells false [.int .i64 N, u]) := H.get_new_same ..
  have hnx : (h.new (.cells false [.int .i64 N, u])).next = h.next + 1 := H.next_new ..
  generalize h.new (.cells false [.int .i64 N, u]) = hx at *
  simp (disch := first | omega | (simp only [List.length_set, List.length_replicate, List.length_append, List.length_take, List.length_drop, List.length_cons, List.length_nil, List.length_map, List.length_range, ints_length] <;> omega)) only [go_sem, boxV_agg2 hx (v := .int .i64 M) rfl hw.what.2.1]
  have hfy : Fr hx (hx.new (.cells false [.int .i64 M, w])) := (Fr.refl hx).new _
  have hgy : (hx.new (.cells false [.int .i64 M, w])).get hx.next = some (.cells false [.int .i64 M, w]) := H.get_new_same ..
  have hny : (hx.new (.cells false [.int .i64 M, w])).next = hx.next + 1 := H.next_new ..
  generalize hx.new (.cells false [.int .i64 M, w]) = hy at *
  rw [← hny]
  have hfa : Fr hy (hy.new (.cells false [.int .i64 0, .nils])) := (Fr.refl hy).new _
  have hga : (hy.new (.cells false [.int .i64 0, .nils])).get hy.next = some (.cells false [.int .i64 0, .nils]) := H.get_new_same ..
  have hna : (hy.new (.cells false [.int .i64 0, .nils])).next = hy.next + 1 := H.next_new ..
  have hst2 := fun hh => stV_agg2 hh hy.next 0 (v := .int .i64 0) (u := .nils) rfl rfl
  generalize hy.new (.cells false [.int .i64 0, .nils]) = ha at *
  have hgya := (hfa.get hx.next (by omega)).trans hgy
  have hgxa := (hfa.get h.next (by omega)).trans ((hfy.get h.next (by omega)).trans hgx)
  have hfh := (hfx.trans hfy).trans hfa
  simp (disch := first | omega | (simp only [List.length_set, List.length_replicate, List.length_append, List.length_take, List.length_drop, List.length_cons, List.length_nil, List.length_map, List.length_range, ints_length] <;> omega)) only [go_sem, row_two hgxa, row_two hgya]
  refine (common_ok _ _ (N, A) (M, B) ha ⟨u, rfl, hu.mono hfh⟩ ⟨w, rfl, hw.mono hfh⟩ hla hlb).mono ?_
  rintro v1 hb ⟨rfl, hfb⟩
  have hnb := hfb.next
  have hgb := (hfb.get hy.next (by omega)).trans hga
  have hgxb := (hfb.get h.next (by omega)).trans hgxa
  have hgyb := (hfb.get hx.next (by omega)).trans hgya
  have hrow0 := row_two (h := hb.set hy.next (some (.cells false [.int .i64 0, .nils]))) (H.get_set_same ..)
  have hF : Fr h hb := hfh.trans hfb
  have hzero : Fr h (hb.set hy.next (some (.cells false [.int .i64 0, .nils]))) := hF.set (by omega) _
  simp (disch := first | omega | (simp only [List.length_set, List.length_replicate, List.length_append, List.length_take, List.length_drop, List.length_cons, List.length_nil, List.length_map, List.length_range, ints_length] <;> omega)) only [go_sem]
  refine iteW_dec (fun h1 => ?_) (fun h1 => ?_)
  · simp (disch := first | omega | (simp only [List.length_set, List.length_replicate, List.length_append, List.length_take, List.length_drop, List.length_cons, List.length_nil, List.length_map, List.length_range, ints_length] <;> omega)) only [go_sem, hst2, hgb, hrow0]
    rw [addF, if_pos h1]
    exact ⟨_, rfl, CycO.zero _ _, hzero⟩
  rw [addF, if_neg h1]
  obtain ⟨r1, r2, r3, r4⟩ := common_range (show (commonF (N, A) (M, B)).2 = 0 by omega)
  have g1 := check_range r1
  have g2 := check_range r2
  simp only at g1 g2
  obtain ⟨n, hn⟩ : ∃ n : Nat, (commonF (N, A) (M, B)).1 = (n : Int) := ⟨(commonF (N, A) (M, B)).1.toNat, by omega⟩
  rw [hn] at r3 r4 ⊢
  obtain ⟨N, rfl⟩ : ∃ N' : Nat, N = (N' : Int) := ⟨N.toNat, by omega⟩
  obtain ⟨M, rfl⟩ : ∃ M' : Nat, M = (M' : Int) := ⟨M.toNat, by omega⟩
  simp only [Int.toNat_natCast] at g1 g2 ⊢
  clear hn h1 r1 r2
  have hpN := phi_len (n := N) (by omega) (by omega)
  have hpM := phi_len (n := M) (by omega) (by omega)
  simp (disch := first | omega | (simp only [List.length_set, List.length_replicate, List.length_append, List.length_take, List.length_drop, List.length_cons, List.length_nil, List.length_map, List.length_range, ints_length] <;> omega)) only [go_sem]
  have hf5 : Fr hb (hb.new (.cells false (ints (List.replicate n 0)))) := (Fr.refl hb).new _
  have hg5 : (hb.new (.cells false (ints (List.replicate n 0)))).get hb.next = some (.cells false (ints (List.replicate n 0))) := H.get_new_same ..
  have hn5 : (hb.new (.cells false (ints (List.replicate n 0)))).next = hb.next + 1 := H.next_new ..
  generalize hb.new (.cells false (ints (List.replicate n 0))) = h5 at *
  have hgx5 := (hf5.get h.next (by omega)).trans hgxb
  have hgy5 := (hf5.get hx.next (by omega)).trans hgyb
  simp (disch := first | omega | (simp only [List.length_set, List.length_replicate, List.length_append, List.length_take, List.length_drop, List.length_cons, List.length_nil, List.length_map, List.length_range, ints_length] <;> omega)) only [go_sem, row_two hgx5, row_two hgy5, bls_cyc2 h5 (N := (N : Int)) (M := (M : Int)) hu.what.2.1 hw.what.2.1]
  have hf6 : Fr h5 (h5.new (.cells false [.int .i64 (N : Int), u, .int .i64 (M : Int), w])) := (Fr.refl h5).new _
  have hg6 : (h5.new (.cells false [.int .i64 (N : Int), u, .int .i64 (M : Int), w])).get h5.next = some (.cells false [.int .i64 (N : Int), u, .int .i64 (M : Int), w]) := H.get_new_same ..
  have hn6 : (h5.new (.cells false [.int .i64 (N : Int), u, .int .i64 (M : Int), w])).next = h5.next + 1 := H.next_new ..
  generalize h5.new (.cells false [.int .i64 (N : Int), u, .int .i64 (M : Int), w]) = h6 at *
  obtain ⟨Nf, hNf⟩ : ∃ Nf : Nat → Nat, Nf = fun t => if t = 0 then N else M := ⟨_, rfl⟩
  obtain ⟨Cf, hCf⟩ : ∃ Cf : Nat → List Int, Cf = fun t => if t = 0 then A else B := ⟨_, rfl⟩
  obtain ⟨Uf, hUf⟩ : ∃ Uf : Nat → V, Uf = fun t => if t = 0 then u else w := ⟨_, rfl⟩
  obtain ⟨Sq, hSq⟩ : ∃ Sq : Nat → List Int, Sq = fun t => if t = 0 then List.replicate n 0 else if t = 1 then accF (fun i => i * (n / N)) (fun i => A.getD i 0) (List.replicate n 0) A.length else accF (fun i => i * (n / M)) (fun i => B.getD i 0) (accF (fun i => i * (n / N)) (fun i => A.getD i 0) (List.replicate n 0) A.length) B.length := ⟨_, rfl⟩
  have two : ∀ t, t < 2 → t = 0 ∨ t = 1 := fun t ht => by omega
  have k1 : ∀ t, t < 2 → 1 ≤ Nf t ∧ Nf t ≤ 120 ∧ (Cf t).length ≤ Nf t := fun t ht => by rcases two t ht with rfl | rfl <;> simp [hNf, hCf] <;> omega
  have k2 : ∀ t, t < 2 → SI h (Uf t) (Cf t) := fun t ht => by rcases two t ht with rfl | rfl <;> simp [hUf, hCf] <;> assumption
  have k3 : ∀ t, t < 2 → Sq (t + 1) = accF (fun i => i * (n / Nf t)) (fun i => (Cf t).getD i 0) (Sq t) (Cf t).length := fun t ht => by rcases two t ht with rfl | rfl <;> simp [hNf, hCf, hSq]
  have k4 : ∀ t, t < 2 → ∀ hh : H, hh.get h5.next = some (.cells false [.int .i64 (N : Int), u, .int .i64 (M : Int), w]) → hh.row h5.next (t * 2) 2 = some [.int .i64 (Nf t : Int), Uf t] := fun t ht hh hg => by rcases two t ht with rfl | rfl <;> simp [hNf, hUf, H.row, hg, sub]
  have k5 : Sq 0 = List.replicate n 0 := by simp [hSq]
  have k6 : Sq 2 = accF (fun i => i * (n / M)) (fun i => B.getD i 0) (accF (fun i => i * (n / N)) (fun i => A.getD i 0) (List.replicate n 0) A.length) B.length := by simp [hSq]
  have k7 : ∀ t, (Sq t).length = n := fun t => by simp only [hSq]; split <;> (try split) <;> simp [accF_len]
  rw [← k6]
  clear hNf hCf hUf hSq k6 two
  have hgl := hg6
  refine Wp_loop (fun k' vars h7 => ∃ (t : Nat), (∃ g : Nat → V, vars = [g 0, g 1, .ptr h.next 0, .ptr hx.next 0, .ptr hy.next 0, g 5, .int .i64 (n : Int), g 7, .sl hb.next 0 n (.kn n), g 9, g 10, g 11, g 12, .sl h5.next 0 2 (.kn 2), .int .i64 (2 : Nat), .int .i64 (t : Int), g 16, g 17, g 18, g 19, g 20]) ∧ t ≤ 2 ∧
    h7.get hb.next = some (.cells false (ints (Sq t))) ∧ h7.get h5.next = some (.cells false [.int .i64 (N : Int), u, .int .i64 (M : Int), w]) ∧ Fr hb h7 ∧ h5.next < h7.next ∧ k' = 2 - t) 2
    ⟨0, ex_junk rfl, by omega, by rw [k5, hf6.get _ (by omega)]; exact hg5, hg6, hf5.trans hf6, by omega, rfl⟩ ?_
  rintro k' vars h7 ⟨t, ⟨g, rfl⟩, ht, hg7, hl7, hf7, hn7, rfl⟩
  simp (disch := first | omega | (simp only [List.length_set, List.length_replicate, List.length_append, List.length_take, List.length_drop, List.length_cons, List.length_nil, List.length_map, List.length_range, ints_length] <;> omega)) only [go_sem]
  refine iteW_dec (fun hlt => ?_) (fun hge => ?_)
  · obtain ⟨q1, q2, q3⟩ := k1 t (by omega)
    have hs7 := k2 t (by omega)
    have hstq := fun hh id => stV_agg2 hh id 0 (v := .int .i64 (Nf t : Int)) (u := Uf t) rfl hs7.what.2.1
    simp (disch := first | omega | (simp only [List.length_set, List.length_replicate, List.length_append, List.length_take, List.length_drop, List.length_cons, List.length_nil, List.length_map, List.length_range, ints_length] <;> omega)) only [go_sem, k4 t (by omega) h7 hl7, hstq]
    have hf8 : Fr h7 ((h7.new (.cells false [.int .i64 0, .nils])).set h7.next (some (.cells false [.int .i64 (Nf t : Int), Uf t]))) := ((Fr.refl h7).new _).set (Nat.le_refl _) _
    have hg8 : ((h7.new (.cells false [.int .i64 0, .nils])).set h7.next (some (.cells false [.int .i64 (Nf t : Int), Uf t]))).get h7.next = some (.cells false [.int .i64 (Nf t : Int), Uf t]) := H.get_set_same ..
    have hn8 : ((h7.new (.cells false [.int .i64 0, .nils])).set h7.next (some (.cells false [.int .i64 (Nf t : Int), Uf t]))).next = h7.next + 1 := by rw [H.next_set, H.next_new]
    generalize (h7.new (.cells false [.int .i64 0, .nils])).set h7.next (some (.cells false [.int .i64 (Nf t : Int), Uf t])) = h8 at *
    simp (disch := first | omega | (simp only [List.length_set, List.length_replicate, List.length_append, List.length_take, List.length_drop, List.length_cons, List.length_nil, List.length_map, List.length_range, ints_length] <;> omega)) only [go_sem, hs7.lens]
    obtain ⟨cid, coff, hcs, hcid, hcc⟩ := hs7.open
    have hFb : Fr h h8 := (hF.trans hf7).trans hf8
    have hg87 := (hf8.get hb.next (by omega)).trans hg7
    have hl87 := (hf8.get h5.next (by omega)).trans hl7
    have k3t := k3 t (by omega)
    generalize Nf t = Nt at *
    generalize Cf t = Ct at *
    generalize Uf t = Ut at *
    have hSl := k7 t
    generalize Sq t = St at *
    refine Wp_loop (fun k' vars h9 => ∃ (j : Nat), (∃ g : Nat → V, vars = [g 0, g 1, .ptr h.next 0, .ptr hx.next 0, .ptr hy.next 0, g 5, .int .i64 (n : Int), g 7, .sl hb.next 0 n (.kn n), .ptr h7.next 0, g 10, g 11, g 12, .sl h5.next 0 2 (.kn 2), .int .i64 (2 : Nat), .int .i64 (t : Int), g 16, Ut, .int .i64 (Ct.length : Int), .int .i64 (j : Int), g 20]) ∧ j ≤ Ct.length ∧
      h9.get hb.next = some (.cells false (ints (accF (fun i => i * (n / Nt)) (fun i => Ct.getD i 0) St j))) ∧ h9.get h5.next = some (.cells false [.int .i64 (N : Int), u, .int .i64 (M : Int), w]) ∧ h9.get h7.next = some (.cells false [.int .i64 (Nt : Int), Ut]) ∧ Fr hb h9 ∧ h7.next < h9.next ∧ k' = Ct.length - j) Ct.length
      ⟨0, ex_junk rfl, Nat.zero_le _, hg87, hl87, hg8, hf7.trans hf8, by omega, rfl⟩ ?_
    rintro k' vars h9 ⟨j, ⟨g, rfl⟩, hj, hg9, hl9, hb9, hf9, hn9, rfl⟩
    have hal := accF_len (fun i => i * (n / Nt)) (fun i => Ct.getD i 0) St j
    simp (disch := first | omega | (simp only [List.length_set, List.length_replicate, List.length_append, List.length_take, List.length_drop, List.length_cons, List.length_nil, List.length_map, List.length_range, ints_length] <;> omega)) only [go_sem]
    by_cases hjc : (j : Int) < (Ct.length : Int)
    · rw [decide_eq_true hjc]
      have hcc9 := cells_fr (hF.trans hf9) hcid hcc
      have hjm : j * (n / Nt) < n := idx_lt (by omega) (by omega)
      have hdm : n / Nt ≤ n := Nat.div_le_self ..
      have em : (n : Int).tdiv (Nt : Int) = ((n / Nt : Nat) : Int) := rfl
      have em0 : (j : Int) * ((n / Nt : Nat) : Int) = ((j * (n / Nt) : Nat) : Int) := (Int.natCast_mul ..).symm
      have hstep : accF (fun i => i * (n / Nt)) (fun i => Ct.getD i 0) St (j + 1) = (accF (fun i => i * (n / Nt)) (fun i => Ct.getD i 0) St j).set (j * (n / Nt)) (W ((accF (fun i => i * (n / Nt)) (fun i => Ct.getD i 0) St j).getD (j * (n / Nt)) 0 + Ct.getD j 0)) := rfl
      generalize j * (n / Nt) = z at hjm em0 hstep
      generalize n / Nt = y at *
      have f0 : h9.cell h7.next 0 = some (.int .i64 (Nt : Int)) := by rw [H.cell_of hb9]; rfl
      simp (disch := first | omega | (simp only [List.length_set, List.length_replicate, List.length_append, List.length_take, List.length_drop, List.length_cons, List.length_nil, List.length_map, List.length_range, ints_length] <;> omega)) only [go_sem, hcs.ixa, hcc9, f0, em, em0, own_cell hg9, hg9]
      rw [show (j : Int) + 1 = ((j + 1 : Nat) : Int) from by omega]
      refine ⟨Ct.length - (j + 1), by omega, j + 1, ex_junk rfl, by omega, by rw [hstep], hl9, hb9, ?_, by omega, rfl⟩
      exact hf9.set (Nat.le_refl _) _
    · rw [decide_eq_false hjc]
      have : Ct.length = j := by omega
      subst this
      simp (disch := first | omega | (simp only [List.length_set, List.length_replicate, List.length_append, List.length_take, List.length_drop, List.length_cons, List.length_nil, List.length_map, List.length_range, ints_length] <;> omega)) only [go_sem]
      rw [show (t : Int) + 1 = ((t + 1 : Nat) : Int) from by omega]
      exact ⟨2 - (t + 1), by omega, t + 1, ex_junk rfl, by omega, by rw [k3t]; exact hg9, hl9, hf9, by omega, rfl⟩
  · have : t = 2 := by omega
    subst this
    simp (disch := first | omega | (simp only [List.length_set, List.length_replicate, List.length_append, List.length_take, List.length_drop, List.length_cons, List.length_nil, List.length_map, List.length_range, ints_length] <;> omega)) only [go_sem]
    have hsi : SI h7 (.sl hb.next 0 n (.kn n)) (Sq 2) := by
      have := SI.own (h := h7) (id := hb.next) (by omega) hg7 (.kn n)
      rw [k7] at this; exact this
    refine (made_ok n _ _ h7 (by omega) (by omega) hsi (by rw [k7]; omega)).mono ?_
    rintro v8 h8 ⟨w', rfl, hcy, hf8⟩
    generalize madeF n _ = M at *
    have hf48 : Fr hb h8 := hf7.trans hf8
    have hg8 := (hf48.get hy.next (by omega)).trans hgb
    obtain ⟨u', rfl, hu', hfu⟩ := hcy
    have hst3 := fun hh => stV_agg2 hh hy.next 0 (v := .int .i64 M.1.1) (u := u') rfl hu'.what.2.1
    have hrow := row_two (h := h8.set hy.next (some (.cells false [.int .i64 M.1.1, u']))) (H.get_set_same ..)
    simp (disch := first | omega | (simp only [List.length_set, List.length_replicate, List.length_append, List.length_take, List.length_drop, List.length_cons, List.length_nil, List.length_map, List.length_range, ints_length] <;> omega)) only [go_sem, hst3, hg8, hrow]
    exact ⟨_, rfl, (CycO.set ⟨u', rfl, hu', hfu⟩ (by omega) _).le (by omega), (hF.trans hf48).set (by omega) _⟩
end
end Go.Proofs.Ythfabknpogbcaaa
/- Contracts: Mul. -/
namespace Go.Proofs.Ythfabknpogbcaaa
open Go Go.Ay
set_option maxRecDepth 100000
noncomputable section

def mulR (n N M : Nat) (A B : List Int) (i : Nat) (l : List Int) : List Int := accF (fun k => (i * (n / N) + k * (n / M)) % n) (fun k => W (A.getD i 0 * B.getD k 0)) l B.length
def mulS (n N M : Nat) (A B : List Int) : Nat → List Int
  | 0 => List.replicate n 0
  | i + 1 => mulR n N M A B i (mulS n N M A B i)
theorem mulS_len (n N M : Nat) (A B : List Int) : ∀ i, (mulS n N M A B i).length = n
  | 0 => List.length_replicate
  | i + 1 => by rw [mulS, mulR, accF_len, mulS_len n N M A B i]
def mulF (a b : Int × List Int) : (Int × List Int) × Int :=
  if (commonF a b).2 ≠ 0 then ((0, []), (commonF a b).2) else
    madeF (commonF a b).1.toNat (mulS (commonF a b).1.toNat a.1.toNat b.1.toNat a.2 b.2 a.2.length)

set_option maxHeartbeats 1000000 in
theorem mul_ok (va vb : V) (a b : Int × List Int) (h : H) (ha : CycV h va a) (hb : CycV h vb b) (hla : a.2.length < 1000000) (hlb : b.2.length < 1000000) :
    Ev T n_cyclo_Mul [va, vb] h (fun v h' => ∃ w, v = .tup [w, .int .i64 (mulF a b).2] ∧ CycO h' w (mulF a b).1 h.next ∧ Fr h h') := by
  obtain ⟨u, rfl, hu⟩ := ha
  obtain ⟨w, rfl, hw⟩ := hb
  obtain ⟨N, A⟩ := a
  obtain ⟨M, B⟩ := b
  simp only at hu hw hla hlb
  refine Ev_of t_cyclo_Mul rfl ?_
  simp (disch := first | omega | (simp only [List.length_set, List.length_replicate, List.length_append, List.length_take, List.length_drop, List.length_cons, List.length_nil, List.length_map, List.length_range, ints_length] <;> omega)) only [go_sem, c_cyclo_Mul, initV_eq, boxV_agg2 h (v := .int .i64 N) rfl hu.what.2.1]
  have hfx : Fr h (h.new (.cells false [.int .i64 N, u])) := (Fr.refl h).new _
  have hgx : (h.new (.cells false [.int .i64 N, u])).get h.next = some (.cells false [.int .i64 N, u]) := H.get_new_same ..
  have hnx : (h.new (.cells false [.int .i64 N, u])).next = h.next + 1 := H.next_new ..
  generalize h.new (.cells false [.int .i64 N, u]) = hx at *
  simp (disch := first | omega | (simp only [List.length_set, List.length_replicate, List.length_append, List.length_take, List.length_drop, List.length_cons, List.length_nil, List.length_map, List.length_range, ints_length] <;> omega)) only [go_sem, boxV_agg2 hx (v := .int .i64 M) rfl hw.what.2.1]
  have hfy : Fr hx (hx.new (.cells false [.int .i64 M, w])) := (Fr.refl hx).new _
  have hgy : (hx.new (.cells false [.int .i64 M, w])).get hx.next = some (.cells false [.int .i64 M, w]) := H.get_new_same ..
  have hny : (hx.new (.cells false [.int .i64 M, w])).next = hx.next + 1 := H.next_new ..
  generalize hx.new (.cells false [.int .i64 M, w]) = hy at *
  rw [← hny]
  have hfa : Fr hy (hy.new (.cells false [.int .i64 0, .nils])) := (Fr.refl hy).new _
  have hga : (hy.new (.cells false [.int .i64 0, .nils])).get hy.next = some (.cells false [.int .i64 0, .nils]) := H.get_new_same ..
  have hna : (hy.new (.cells false [.int .i64 0, .nils])).next = hy.next + 1 := H.next_new ..
  have hst2 := fun hh => stV_agg2 hh hy.next 0 (v := .int .i64 0) (u := .nils) rfl rfl
  generalize hy.new (.cells false [.int .i64 0, .nils]) = ha at *
  have hgya := (hfa.get hx.next (by omega)).trans hgy
  have hgxa := (hfa.get h.next (by omega)).trans ((hfy.get h.next (by omega)).trans hgx)
  have hfh := (hfx.trans hfy).trans hfa
  simp (disch := first | omega | (simp only [List.length_set, List.length_replicate, List.length_append, List.length_take, List.length_drop, List.length_cons, List.length_nil, List.length_map, List.length_range, ints_length] <;> omega)) only [go_sem, row_two hgxa, row_two hgya]
  refine (common_ok _ _ (N, A) (M, B) ha ⟨u, rfl, hu.mono hfh⟩ ⟨w, rfl, hw.mono hfh⟩ hla hlb).mono ?_
  rintro v1 hb ⟨rfl, hfb⟩
  have hnb := hfb.next
  have hgb := (hfb.get hy.next (by omega)).trans hga
  have hgxb := (hfb.get h.next (by omega)).trans hgxa
  have hgyb := (hfb.get hx.next (by omega)).trans hgya
  have hrow0 := row_two (h := hb.set hy.next (some (.cells false [.int .i64 0, .nils]))) (H.get_set_same ..)
  have hF : Fr h hb := hfh.trans hfb
  have hzero : Fr h (hb.set hy.next (some (.cells false [.int .i64 0, .nils]))) := hF.set (by omega) _
  simp (disch := first | omega | (simp only [List.length_set, List.length_replicate, List.length_append, List.length_take, List.length_drop, List.length_cons, List.length_nil, List.length_map, List.length_range, ints_length] <;> omega)) only [go_sem]
  refine iteW_dec (fun h1 => ?_) (fun h1 => ?_)
  · simp (disch := first | omega | (simp only [List.length_set, List.length_replicate, List.length_append, List.length_take, List.length_drop, List.length_cons, List.length_nil, List.length_map, List.length_range, ints_length] <;> omega)) only [go_sem, hst2, hgb, hrow0]
    rw [mulF, if_pos h1]
    exact ⟨_, rfl, CycO.zero _ _, hzero⟩
  rw [mulF, if_neg h1]
  obtain ⟨r1, r2, r3, r4⟩ := common_range (show (commonF (N, A) (M, B)).2 = 0 by omega)
  have g1 := check_range r1
  have g2 := check_range r2
  simp only at g1 g2
  obtain ⟨n, hn⟩ : ∃ n : Nat, (commonF (N, A) (M, B)).1 = (n : Int) := ⟨(commonF (N, A) (M, B)).1.toNat, by omega⟩
  rw [hn] at r3 r4 ⊢
  obtain ⟨N, rfl⟩ : ∃ N' : Nat, N = (N' : Int) := ⟨N.toNat, by omega⟩
  obtain ⟨M, rfl⟩ : ∃ M' : Nat, M = (M' : Int) := ⟨M.toNat, by omega⟩
  simp only [Int.toNat_natCast] at g1 g2 ⊢
  clear hn h1 r1 r2
  have hpN := phi_len (n := N) (by omega) (by omega)
  have hpM := phi_len (n := M) (by omega) (by omega)
  have x1 : hb.cell h.next 1 = some u := by rw [H.cell_of hgxb]; rfl
  simp (disch := first | omega | (simp only [List.length_set, List.length_replicate, List.length_append, List.length_take, List.length_drop, List.length_cons, List.length_nil, List.length_map, List.length_range, ints_length] <;> omega)) only [go_sem, x1, (hu.mono hF).lens]
  have hf5 : Fr hb (hb.new (.cells false (ints (List.replicate n 0)))) := (Fr.refl hb).new _
  have hg5 : (hb.new (.cells false (ints (List.replicate n 0)))).get hb.next = some (.cells false (ints (List.replicate n 0))) := H.get_new_same ..
  have hn5 : (hb.new (.cells false (ints (List.replicate n 0)))).next = hb.next + 1 := H.next_new ..
  generalize hb.new (.cells false (ints (List.replicate n 0))) = h5 at *
  have hgx5 := (hf5.get h.next (by omega)).trans hgxb
  have hgy5 := (hf5.get hx.next (by omega)).trans hgyb
  have hF5 := hF.trans hf5
  obtain ⟨cid, coff, hcs, hcid, hcc⟩ := hu.open
  obtain ⟨did, doff, hds, hdid, hdc⟩ := hw.open
  have hml := mulS_len n N M A B
  refine Wp_loop (fun k' vars h7 => ∃ (i : Nat), (∃ g : Nat → V, vars = [g 0, g 1, .ptr h.next 0, .ptr hx.next 0, .ptr hy.next 0, g 5, .int .i64 (n : Int), g 7, .sl hb.next 0 n (.kn n), g 9, g 10, g 11, g 12, g 13, u, .int .i64 (A.length : Int), .int .i64 (i : Int), g 17, g 18, g 19, g 20, g 21]) ∧ i ≤ A.length ∧
    h7.get hb.next = some (.cells false (ints (mulS n N M A B i))) ∧ Fr hb h7 ∧ hb.next < h7.next ∧ k' = A.length - i) A.length
    ⟨0, ex_junk rfl, Nat.zero_le _, hg5, hf5, by omega, rfl⟩ ?_
  rintro k' vars h7 ⟨i, ⟨g, rfl⟩, hi, hg7, hf7, hn7, rfl⟩
  simp (disch := first | omega | (simp only [List.length_set, List.length_replicate, List.length_append, List.length_take, List.length_drop, List.length_cons, List.length_nil, List.length_map, List.length_range, ints_length] <;> omega)) only [go_sem]
  by_cases hic : (i : Int) < (A.length : Int)
  · rw [decide_eq_true hic]
    have hcc7 := cells_fr (hF.trans hf7) hcid hcc
    have y1 : h7.cell hx.next 1 = some w := by rw [hf7.cell (by omega), H.cell_of hgyb]; rfl
    simp (disch := first | omega | (simp only [List.length_set, List.length_replicate, List.length_append, List.length_take, List.length_drop, List.length_cons, List.length_nil, List.length_map, List.length_range, ints_length] <;> omega)) only [go_sem, hcs.ixa, hcc7, y1, (hw.mono (hF.trans hf7)).lens]
    have hst : mulS n N M A B (i + 1) = mulR n N M A B i (mulS n N M A B i) := rfl
    have hSl := hml i
    generalize mulS n N M A B i = St at *
    refine Wp_loop (fun k' vars h9 => ∃ (j : Nat), (∃ g : Nat → V, vars = [g 0, g 1, .ptr h.next 0, .ptr hx.next 0, .ptr hy.next 0, g 5, .int .i64 (n : Int), g 7, .sl hb.next 0 n (.kn n), .int .i64 (i : Int), .int .i64 (A.getD i 0), g 11, g 12, g 13, u, .int .i64 (A.length : Int), .int .i64 (i : Int), g 17, w, .int .i64 (B.length : Int), .int .i64 (j : Int), g 21]) ∧ j ≤ B.length ∧
      h9.get hb.next = some (.cells false (ints (accF (fun k => (i * (n / N) + k * (n / M)) % n) (fun k => W (A.getD i 0 * B.getD k 0)) St j))) ∧ Fr hb h9 ∧ hb.next < h9.next ∧ k' = B.length - j) B.length
      ⟨0, ex_junk rfl, Nat.zero_le _, hg7, hf7, hn7, rfl⟩ ?_
    rintro k' vars h9 ⟨j, ⟨g, rfl⟩, hj, hg9, hf9, hn9, rfl⟩
    have hal := accF_len (fun k => (i * (n / N) + k * (n / M)) % n) (fun k => W (A.getD i 0 * B.getD k 0)) St j
    simp (disch := first | omega | (simp only [List.length_set, List.length_replicate, List.length_append, List.length_take, List.length_drop, List.length_cons, List.length_nil, List.length_map, List.length_range, ints_length] <;> omega)) only [go_sem]
    by_cases hjc : (j : Int) < (B.length : Int)
    · rw [decide_eq_true hjc]
      have hcc9 := cells_fr (hF.trans hf9) hdid hdc
      have hz1 : i * (n / N) ≤ 120 * 120 := Nat.mul_le_mul (by omega) (Nat.le_trans (Nat.div_le_self ..) (by omega))
      have hz2 : j * (n / M) ≤ 120 * 120 := Nat.mul_le_mul (by omega) (Nat.le_trans (Nat.div_le_self ..) (by omega))
      have hd1 : n / N ≤ n := Nat.div_le_self ..
      have hd2 : n / M ≤ n := Nat.div_le_self ..
      have em1 : (n : Int).tdiv (N : Int) = ((n / N : Nat) : Int) := rfl
      have em2 : (n : Int).tdiv (M : Int) = ((n / M : Nat) : Int) := rfl
      have ep1 : (i : Int) * ((n / N : Nat) : Int) = ((i * (n / N) : Nat) : Int) := (Int.natCast_mul ..).symm
      have ep2 : (j : Int) * ((n / M : Nat) : Int) = ((j * (n / M) : Nat) : Int) := (Int.natCast_mul ..).symm
      have es : ((i * (n / N) : Nat) : Int) + ((j * (n / M) : Nat) : Int) = ((i * (n / N) + j * (n / M) : Nat) : Int) := (Int.natCast_add ..).symm
      have er : ((i * (n / N) + j * (n / M) : Nat) : Int).tmod (n : Int) = (((i * (n / N) + j * (n / M)) % n : Nat) : Int) := tmod_nat ..
      have hrn : (i * (n / N) + j * (n / M)) % n < n := Nat.mod_lt _ (by omega)
      have hstep : accF (fun k => (i * (n / N) + k * (n / M)) % n) (fun k => W (A.getD i 0 * B.getD k 0)) St (j + 1) = (accF (fun k => (i * (n / N) + k * (n / M)) % n) (fun k => W (A.getD i 0 * B.getD k 0)) St j).set ((i * (n / N) + j * (n / M)) % n) (W ((accF (fun k => (i * (n / N) + k * (n / M)) % n) (fun k => W (A.getD i 0 * B.getD k 0)) St j).getD ((i * (n / N) + j * (n / M)) % n) 0 + W (A.getD i 0 * B.getD j 0))) := rfl
      have x9 : h9.cell h.next 0 = some (.int .i64 (N : Int)) := by rw [hf9.cell (by omega), H.cell_of hgxb]; rfl
      have y9 : h9.cell hx.next 0 = some (.int .i64 (M : Int)) := by rw [hf9.cell (by omega), H.cell_of hgyb]; rfl
      generalize hrg : (i * (n / N) + j * (n / M)) % n = r at *
      generalize i * (n / N) + j * (n / M) = sm at *
      generalize hp1 : i * (n / N) = p1 at *
      generalize hp2 : j * (n / M) = p2 at *
      generalize n / N = d1 at *
      generalize n / M = d2 at *
      simp (disch := first | omega | (simp only [List.length_set, List.length_replicate, List.length_append, List.length_take, List.length_drop, List.length_cons, List.length_nil, List.length_map, List.length_range, ints_length] <;> omega)) only [go_sem, hds.ixa, hcc9, x9, y9, em1, em2, ep1, ep2, es, er, own_cell hg9, hg9]
      rw [show (j : Int) + 1 = ((j + 1 : Nat) : Int) from by omega]
      refine ⟨B.length - (j + 1), by omega, j + 1, ex_junk rfl, by omega, by rw [hstep], ?_, by omega, rfl⟩
      exact (hf9.bump (by omega)).set (Nat.le_refl _) _
    · rw [decide_eq_false hjc]
      have : B.length = j := by omega
      subst this
      simp (disch := first | omega | (simp only [List.length_set, List.length_replicate, List.length_append, List.length_take, List.length_drop, List.length_cons, List.length_nil, List.length_map, List.length_range, ints_length] <;> omega)) only [go_sem]
      rw [show (i : Int) + 1 = ((i + 1 : Nat) : Int) from by omega]
      exact ⟨A.length - (i + 1), by omega, i + 1, ex_junk rfl, by omega, by rw [hst, mulR]; exact hg9, hf9, by omega, rfl⟩
  · rw [decide_eq_false hic]
    have : A.length = i := by omega
    subst this
    simp (disch := first | omega | (simp only [List.length_set, List.length_replicate, List.length_append, List.length_take, List.length_drop, List.length_cons, List.length_nil, List.length_map, List.length_range, ints_length] <;> omega)) only [go_sem]
    have hsi : SI h7 (.sl hb.next 0 n (.kn n)) (mulS n N M A B A.length) := by
      have := SI.own (h := h7) (id := hb.next) (by omega) hg7 (.kn n)
      rw [hml] at this; exact this
    refine (made_ok n _ _ h7 (by omega) (by omega) hsi (by rw [hml]; omega)).mono ?_
    rintro v8 h8 ⟨w', rfl, hcy, hf8⟩
    generalize madeF n _ = M at *
    have hf48 : Fr hb h8 := hf7.trans hf8
    have hg8 := (hf48.get hy.next (by omega)).trans hgb
    obtain ⟨u', rfl, hu', hfu⟩ := hcy
    have hst3 := fun hh => stV_agg2 hh hy.next 0 (v := .int .i64 M.1.1) (u := u') rfl hu'.what.2.1
    have hrow := row_two (h := h8.set hy.next (some (.cells false [.int .i64 M.1.1, u']))) (H.get_set_same ..)
    simp (disch := first | omega | (simp only [List.length_set, List.length_replicate, List.length_append, List.length_take, List.length_drop, List.length_cons, List.length_nil, List.length_map, List.length_range, ints_length] <;> omega)) only [go_sem, hst3, hg8, hrow]
    exact ⟨_, rfl, (CycO.set ⟨u', rfl, hu', hfu⟩ (by omega) _).le (by omega), (hF.trans hf48).set (by omega) _⟩
end
end Go.Proofs.Ythfabknpogbcaaa
/- Contracts: Scale, Quot, Rational, Cmp. -/
namespace Go.Proofs.Ythfabknpogbcaaa
open Go Go.Ay
set_option maxRecDepth 100000
noncomputable section

def setK (f : Int → Int) (A : List Int) : Nat → List Int
  | 0 => A
  | k + 1 => (setK f A k).set k (f (A.getD k 0))
theorem setK_len (f : Int → Int) (A : List Int) : ∀ k, (setK f A k).length = A.length
  | 0 => rfl
  | k + 1 => by rw [setK, List.length_set, setK_len f A k]
theorem setK_at (f : Int → Int) (A : List Int) : ∀ k j, j < A.length → (setK f A k).getD j 0 = if j < k then f (A.getD j 0) else A.getD j 0
  | 0, j, _ => by rw [if_neg (by omega)]; rfl
  | k + 1, j, hj => by
    rw [setK, getD_set, setK_len, setK_at f A k j hj]
    by_cases h : k = j
    · subst h; rw [if_pos rfl, if_pos hj, if_pos (by omega)]
    · rw [if_neg h]
      by_cases h2 : j < k
      · rw [if_pos h2, if_pos (by omega)]
      · rw [if_neg h2, if_neg (by omega)]
theorem setK_all (f : Int → Int) (A : List Int) : setK f A A.length = A.map f := by
  apply eq_of_getD
  · rw [setK_len, List.length_map]
  · intro j hj
    rw [setK_len] at hj
    rw [setK_at f A _ j hj, if_pos hj, List.getD_eq_getElem?_getD, List.getD_eq_getElem?_getD, List.getElem?_map, List.getElem?_eq_getElem hj]; rfl

def scaleF (a : Int × List Int) (k : Int) : (Int × List Int) × Int :=
  if checkF a ≠ 0 then ((0, []), checkF a) else if overF k then ((0, []), 5) else madeF a.1.toNat (a.2.map fun x => W (x * k))

set_option maxHeartbeats 1000000 in
theorem scale_ok (v : V) (a : Int × List Int) (k : Int) (h : H) (ha : CycV h v a) (hl : a.2.length < 1000000) :
    Ev T n_cyclo_Scale [v, .int .i64 k] h (fun v h' => ∃ w, v = .tup [w, .int .i64 (scaleF a k).2] ∧ CycO h' w (scaleF a k).1 h.next ∧ Fr h h') := by
  obtain ⟨u, rfl, hu⟩ := ha
  obtain ⟨N, A⟩ := a
  simp only at hu hl
  refine Ev_of t_cyclo_Scale rfl ?_
  simp (disch := first | omega | (simp only [List.length_set, List.length_replicate, List.length_append, List.length_take, List.length_drop, List.length_cons, List.length_nil, List.length_map, List.length_range, ints_length] <;> omega)) only [go_sem, c_cyclo_Scale, initV_eq, boxV_agg2 h (v := .int .i64 N) rfl hu.what.2.1]
  have hfx : Fr h (h.new (.cells false [.int .i64 N, u])) := (Fr.refl h).new _
  have hgx : (h.new (.cells false [.int .i64 N, u])).get h.next = some (.cells false [.int .i64 N, u]) := H.get_new_same ..
  have hnx : (h.new (.cells false [.int .i64 N, u])).next = h.next + 1 := H.next_new ..
  generalize h.new (.cells false [.int .i64 N, u]) = hx at *
  rw [← hnx]
  have hfa : Fr hx (hx.new (.cells false [.int .i64 0, .nils])) := (Fr.refl hx).new _
  have hga : (hx.new (.cells false [.int .i64 0, .nils])).get hx.next = some (.cells false [.int .i64 0, .nils]) := H.get_new_same ..
  have hna : (hx.new (.cells false [.int .i64 0, .nils])).next = hx.next + 1 := H.next_new ..
  have hst2 := fun hh => stV_agg2 hh hx.next 0 (v := .int .i64 0) (u := .nils) rfl rfl
  generalize hx.new (.cells false [.int .i64 0, .nils]) = ha at *
  have hgxa := (hfa.get h.next (by omega)).trans hgx
  have hfh := hfx.trans hfa
  simp (disch := first | omega | (simp only [List.length_set, List.length_replicate, List.length_append, List.length_take, List.length_drop, List.length_cons, List.length_nil, List.length_map, List.length_range, ints_length] <;> omega)) only [go_sem, row_two hgxa]
  refine (check_ok _ (N, A) ha ⟨u, rfl, hu.mono hfh⟩ hl).mono ?_
  rintro v1 hb ⟨rfl, hfb⟩
  have hgb := (hfb.get hx.next (by omega)).trans hga
  have hgxb := (hfb.get h.next (by omega)).trans hgxa
  have hnb := hfb.next
  have hrow0 := row_two (h := hb.set hx.next (some (.cells false [.int .i64 0, .nils]))) (H.get_set_same ..)
  have hF : Fr h hb := hfh.trans hfb
  have hzero : Fr h (hb.set hx.next (some (.cells false [.int .i64 0, .nils]))) := hF.set (by omega) _
  simp (disch := first | omega | (simp only [List.length_set, List.length_replicate, List.length_append, List.length_take, List.length_drop, List.length_cons, List.length_nil, List.length_map, List.length_range, ints_length] <;> omega)) only [go_sem]
  refine iteW_dec (fun h1 => ?_) (fun h1 => ?_)
  · simp (disch := first | omega | (simp only [List.length_set, List.length_replicate, List.length_append, List.length_take, List.length_drop, List.length_cons, List.length_nil, List.length_map, List.length_range, ints_length] <;> omega)) only [go_sem, hst2, hgb, hrow0]
    rw [scaleF, if_pos h1]
    exact ⟨_, rfl, CycO.zero _ _, hzero⟩
  have h1' : checkF (N, A) = 0 := by omega
  have hrg := check_range h1'
  simp only at hrg
  obtain ⟨m, hm⟩ : ∃ m : Nat, N = (m : Int) := ⟨N.toNat, by omega⟩
  subst hm
  rw [scaleF, if_neg h1]
  have c0 : hb.cell h.next 0 = some (.int .i64 (m : Int)) := by rw [H.cell_of hgxb]; rfl
  have c1 : hb.cell h.next 1 = some u := by rw [H.cell_of hgxb]; rfl
  have hpl := phi_len (n := m) (by omega) (by omega)
  rw [Int.toNat_natCast] at hrg
  simp (disch := first | omega | (simp only [List.length_set, List.length_replicate, List.length_append, List.length_take, List.length_drop, List.length_cons, List.length_nil, List.length_map, List.length_range, ints_length] <;> omega)) only [go_sem]
  refine (over_ok k hb).mono ?_
  rintro v3 h3 ⟨rfl, hh3⟩
  obtain rfl := hh3.symm
  simp (disch := first | omega | (simp only [List.length_set, List.length_replicate, List.length_append, List.length_take, List.length_drop, List.length_cons, List.length_nil, List.length_map, List.length_range, ints_length] <;> omega)) only [go_sem]
  refine iteW_bool (fun h5 => ?_) (fun h5 => ?_)
  · simp (disch := first | omega | (simp only [List.length_set, List.length_replicate, List.length_append, List.length_take, List.length_drop, List.length_cons, List.length_nil, List.length_map, List.length_range, ints_length] <;> omega)) only [go_sem, hst2, hgb, hrow0]
    rw [if_pos h5]
    exact ⟨_, rfl, CycO.zero _ _, hzero⟩
  rw [if_neg (by rw [h5]; simp)]
  simp (disch := first | omega | (simp only [List.length_set, List.length_replicate, List.length_append, List.length_take, List.length_drop, List.length_cons, List.length_nil, List.length_map, List.length_range, ints_length] <;> omega)) only [go_sem, c1]
  refine (clone_ok u A hb (hu.mono hF) hl).mono ?_
  rintro v4 h4 ⟨hown, hf4, hcap⟩
  obtain ⟨lid, rfl, hl1, hl2, hlg⟩ := hcap (by omega)
  have hn4 := hf4.next
  simp (disch := first | omega | (simp only [List.length_set, List.length_replicate, List.length_append, List.length_take, List.length_drop, List.length_cons, List.length_nil, List.length_map, List.length_range, ints_length] <;> omega)) only [go_sem, Int.toNat_natCast]
  refine Wp_loop (fun k' vars h6 => ∃ (j : Nat), (∃ g : Nat → V, vars = [g 0, .int .i64 k, .ptr h.next 0, .ptr hx.next 0, g 4, g 5, .sl lid 0 A.length (.un 1), g 7, g 8, g 9, .int .i64 (A.length : Int), .int .i64 (j : Int), g 12]) ∧ j ≤ A.length ∧
    h6.get lid = some (.cells false (ints (setK (fun x => W (x * k)) A j))) ∧ Fr hb h6 ∧ lid < h6.next ∧ k' = A.length - j) A.length
    ⟨0, ex_junk rfl, Nat.zero_le _, hlg, hf4, hl2, rfl⟩ ?_
  rintro k' vars h6 ⟨j, ⟨g, rfl⟩, hj, hg6, hf6, hn6, rfl⟩
  have hal := setK_len (fun x => W (x * k)) A j
  simp (disch := first | omega | (simp only [List.length_set, List.length_replicate, List.length_append, List.length_take, List.length_drop, List.length_cons, List.length_nil, List.length_map, List.length_range, ints_length] <;> omega)) only [go_sem]
  by_cases hjc : (j : Int) < (A.length : Int)
  · rw [decide_eq_true hjc]
    have hat := setK_at (fun x => W (x * k)) A j j (by omega)
    rw [if_neg (by omega)] at hat
    have hstep : setK (fun x => W (x * k)) A (j + 1) = (setK (fun x => W (x * k)) A j).set j (W (A.getD j 0 * k)) := rfl
    simp (disch := first | omega | (simp only [List.length_set, List.length_replicate, List.length_append, List.length_take, List.length_drop, List.length_cons, List.length_nil, List.length_map, List.length_range, ints_length] <;> omega)) only [go_sem, own_cell hg6, hg6, hat]
    rw [show (j : Int) + 1 = ((j + 1 : Nat) : Int) from by omega]
    refine ⟨A.length - (j + 1), by omega, j + 1, ex_junk rfl, by omega, by rw [hstep], ?_, by omega, rfl⟩
    exact hf6.set hl1 _
  · rw [decide_eq_false hjc]
    have : A.length = j := by omega
    subst this
    have d0 : h6.cell h.next 0 = some (.int .i64 (m : Int)) := by rw [hf6.cell (by omega)]; exact c0
    simp (disch := first | omega | (simp only [List.length_set, List.length_replicate, List.length_append, List.length_take, List.length_drop, List.length_cons, List.length_nil, List.length_map, List.length_range, ints_length] <;> omega)) only [go_sem, d0]
    rw [setK_all] at hg6
    have hsi : SI h6 (.sl lid 0 A.length (.un 1)) (A.map fun x => W (x * k)) := by
      have := SI.own (h := h6) (id := lid) (by omega) hg6 (.un 1)
      rw [List.length_map] at this; exact this
    refine (made_ok m _ _ h6 (by omega) (by omega) hsi (by rw [List.length_map]; omega)).mono ?_
    rintro v7 h7 ⟨w, rfl, hcy, hf7⟩
    generalize madeF m _ = M at *
    have hf47 : Fr hb h7 := hf6.trans hf7
    have hg7 := (hf47.get hx.next (by omega)).trans hgb
    have hn67 := hf6.next
    obtain ⟨u', rfl, hu', hfu⟩ := hcy
    have hst3 := fun hh => stV_agg2 hh hx.next 0 (v := .int .i64 M.1.1) (u := u') rfl hu'.what.2.1
    have hrow := row_two (h := h7.set hx.next (some (.cells false [.int .i64 M.1.1, u']))) (H.get_set_same ..)
    simp (disch := first | omega | (simp only [List.length_set, List.length_replicate, List.length_append, List.length_take, List.length_drop, List.length_cons, List.length_nil, List.length_map, List.length_range, ints_length] <;> omega)) only [go_sem, hst3, hg7, hrow]
    exact ⟨_, rfl, (CycO.set ⟨u', rfl, hu', hfu⟩ (by omega) _).le (by omega), (hF.trans hf47).set (by omega) _⟩

def quotF (a : Int × List Int) (k : Int) : (Int × List Int) × Int :=
  if checkF a ≠ 0 then ((0, []), checkF a) else if k = 0 then ((0, []), 6) else if a.2.any (fun x => decide (x.tmod k ≠ 0)) then ((0, []), 18) else ((a.1, a.2.map fun x => W (x.tdiv k)), 0)

set_option maxHeartbeats 1000000 in
theorem quot_ok (v : V) (a : Int × List Int) (k : Int) (h : H) (ha : CycV h v a) (hl : a.2.length < 1000000) :
    Ev T n_cyclo_Quot [v, .int .i64 k] h (fun v h' => ∃ w, v = .tup [w, .int .i64 (quotF a k).2] ∧ CycO h' w (quotF a k).1 h.next ∧ Fr h h') := by
  obtain ⟨u, rfl, hu⟩ := ha
  obtain ⟨N, A⟩ := a
  simp only at hu hl
  refine Ev_of t_cyclo_Quot rfl ?_
  simp (disch := first | omega | (simp only [List.length_set, List.length_replicate, List.length_append, List.length_take, List.length_drop, List.length_cons, List.length_nil, List.length_map, List.length_range, ints_length] <;> omega)) only [go_sem, c_cyclo_Quot, initV_eq, boxV_agg2 h (v := .int .i64 N) rfl hu.what.2.1]
  have hfx : Fr h (h.new (.cells false [.int .i64 N, u])) := (Fr.refl h).new _
  have hgx : (h.new (.cells false [.int .i64 N, u])).get h.next = some (.cells false [.int .i64 N, u]) := H.get_new_same ..
  have hnx : (h.new (.cells false [.int .i64 N, u])).next = h.next + 1 := H.next_new ..
  generalize h.new (.cells false [.int .i64 N, u]) = hx at *
  rw [← hnx]
  have hfa : Fr hx (hx.new (.cells false [.int .i64 0, .nils])) := (Fr.refl hx).new _
  have hga : (hx.new (.cells false [.int .i64 0, .nils])).get hx.next = some (.cells false [.int .i64 0, .nils]) := H.get_new_same ..
  have hna : (hx.new (.cells false [.int .i64 0, .nils])).next = hx.next + 1 := H.next_new ..
  have hst2 := fun hh => stV_agg2 hh hx.next 0 (v := .int .i64 0) (u := .nils) rfl rfl
  generalize hx.new (.cells false [.int .i64 0, .nils]) = ha at *
  have hgxa := (hfa.get h.next (by omega)).trans hgx
  have hfh := hfx.trans hfa
  simp (disch := first | omega | (simp only [List.length_set, List.length_replicate, List.length_append, List.length_take, List.length_drop, List.length_cons, List.length_nil, List.length_map, List.length_range, ints_length] <;> omega)) only [go_sem, row_two hgxa]
  refine (check_ok _ (N, A) ha ⟨u, rfl, hu.mono hfh⟩ hl).mono ?_
  rintro v1 hb ⟨rfl, hfb⟩
  have hgb := (hfb.get hx.next (by omega)).trans hga
  have hgxb := (hfb.get h.next (by omega)).trans hgxa
  have hnb := hfb.next
  have hrow0 := row_two (h := hb.set hx.next (some (.cells false [.int .i64 0, .nils]))) (H.get_set_same ..)
  have hF : Fr h hb := hfh.trans hfb
  have hzero : Fr h (hb.set hx.next (some (.cells false [.int .i64 0, .nils]))) := hF.set (by omega) _
  simp (disch := first | omega | (simp only [List.length_set, List.length_replicate, List.length_append, List.length_take, List.length_drop, List.length_cons, List.length_nil, List.length_map, List.length_range, ints_length] <;> omega)) only [go_sem]
  refine iteW_dec (fun h1 => ?_) (fun h1 => ?_)
  · simp (disch := first | omega | (simp only [List.length_set, List.length_replicate, List.length_append, List.length_take, List.length_drop, List.length_cons, List.length_nil, List.length_map, List.length_range, ints_length] <;> omega)) only [go_sem, hst2, hgb, hrow0]
    rw [quotF, if_pos h1]
    exact ⟨_, rfl, CycO.zero _ _, hzero⟩
  have h1' : checkF (N, A) = 0 := by omega
  have hrg := check_range h1'
  simp only at hrg
  obtain ⟨m, hm⟩ : ∃ m : Nat, N = (m : Int) := ⟨N.toNat, by omega⟩
  subst hm
  rw [quotF, if_neg h1]
  have c0 : hb.cell h.next 0 = some (.int .i64 (m : Int)) := by rw [H.cell_of hgxb]; rfl
  have c1 : hb.cell h.next 1 = some u := by rw [H.cell_of hgxb]; rfl
  have hpl := phi_len (n := m) (by omega) (by omega)
  rw [Int.toNat_natCast] at hrg
  simp (disch := first | omega | (simp only [List.length_set, List.length_replicate, List.length_append, List.length_take, List.length_drop, List.length_cons, List.length_nil, List.length_map, List.length_range, ints_length] <;> omega)) only [go_sem]
  refine iteW_dec (fun h5 => ?_) (fun h5 => ?_)
  · simp (disch := first | omega | (simp only [List.length_set, List.length_replicate, List.length_append, List.length_take, List.length_drop, List.length_cons, List.length_nil, List.length_map, List.length_range, ints_length] <;> omega)) only [go_sem, hst2, hgb, hrow0]
    rw [if_pos h5]
    exact ⟨_, rfl, CycO.zero _ _, hzero⟩
  rw [if_neg h5]
  simp (disch := first | omega | (simp only [List.length_set, List.length_replicate, List.length_append, List.length_take, List.length_drop, List.length_cons, List.length_nil, List.length_map, List.length_range, ints_length] <;> omega)) only [go_sem, c0, c1]
  refine (clone_ok u A _ ((hu.mono hF).mono ((Fr.refl hb).bump (by omega))) hl).mono ?_
  rintro v4 h4 ⟨hown, hf4, hcap⟩
  obtain ⟨lid, rfl, hl1, hl2, hlg⟩ := hcap (by omega)
  have hn4 := hf4.next
  simp only at hl1 hn4
  have hgx4 := (hf4.get h.next (by show h.next < hb.next + 8; omega)).trans hgxb
  have d0 : h4.cell h.next 0 = some (.int .i64 (m : Int)) := by rw [H.cell_of hgx4]; rfl
  have d1 : h4.cell h.next 1 = some u := by rw [H.cell_of hgx4]; rfl
  simp (disch := first | omega | (simp only [List.length_set, List.length_replicate, List.length_append, List.length_take, List.length_drop, List.length_cons, List.length_nil, List.length_map, List.length_range, ints_length] <;> omega)) only [go_sem, d0, d1, bldV_two (z1 := .int .i64 0) (z2 := .nils) (v := .int .i64 (m : Int)) (u := .sl lid 0 A.length (.un 1)) rfl rfl rfl rfl, hu.eqV]
  have hstO := fun hh => stV_agg2 hh (hb.next + 6) 0 (v := .int .i64 (m : Int)) (u := .sl lid 0 A.length (.un 1)) rfl rfl
  have hO1 : (H.mk ((H.mk h4.tr (hb.next + 6)).new (.cells false [.int .i64 0, .nils])).tr h4.next).get (hb.next + 6) = some (.cells false [.int .i64 0, .nils]) := by
    rw [H.get_next', H.get_new, if_pos rfl]
  have hO2 : ∀ z, z ≠ hb.next + 6 → (H.mk ((H.mk h4.tr (hb.next + 6)).new (.cells false [.int .i64 0, .nils])).tr h4.next).get z = h4.get z := fun z hz => by
    rw [H.get_next', H.get_new, if_neg hz]; rfl
  have hOn : (H.mk ((H.mk h4.tr (hb.next + 6)).new (.cells false [.int .i64 0, .nils])).tr h4.next).next = h4.next := rfl
  generalize H.mk ((H.mk h4.tr (hb.next + 6)).new (.cells false [.int .i64 0, .nils])).tr h4.next = h5 at *
  simp (disch := first | omega | (simp only [List.length_set, List.length_replicate, List.length_append, List.length_take, List.length_drop, List.length_cons, List.length_nil, List.length_map, List.length_range, ints_length] <;> omega)) only [go_sem, hstO, hO1]
  have hP1 : (h5.set (hb.next + 6) (some (.cells false [.int .i64 (m : Int), .sl lid 0 A.length (.un 1)]))).get (hb.next + 6) = some (.cells false [.int .i64 (m : Int), .sl lid 0 A.length (.un 1)]) := H.get_set_same ..
  have hP2 : ∀ z, z ≠ hb.next + 6 → (h5.set (hb.next + 6) (some (.cells false [.int .i64 (m : Int), .sl lid 0 A.length (.un 1)]))).get z = h4.get z := fun z hz => by rw [H.get_set_ne _ hz]; exact hO2 z hz
  have hPn : (h5.set (hb.next + 6) (some (.cells false [.int .i64 (m : Int), .sl lid 0 A.length (.un 1)]))).next = h4.next := hOn
  have d1' : h5.cell h.next 1 = some u := by unfold H.cell; rw [hO2 _ (by omega), hgx4]; rfl
  simp (disch := first | omega | (simp only [List.length_set, List.length_replicate, List.length_append, List.length_take, List.length_drop, List.length_cons, List.length_nil, List.length_map, List.length_range, ints_length] <;> omega)) only [go_sem, d1', hu.lens]
  generalize h5.set (hb.next + 6) (some (.cells false [.int .i64 (m : Int), .sl lid 0 A.length (.un 1)])) = h6 at *
  have hF6 : Fr hb h6 := ⟨by omega, fun z hz => by rw [hP2 z (by omega)]; exact hf4.get z (by show z < hb.next + 8; omega)⟩
  obtain ⟨cid, coff, hcs, hcid, hcc⟩ := hu.open
  refine Wp_loop (fun k' vars h7 => ∃ (j : Nat), (∃ g : Nat → V, vars = [g 0, .int .i64 k, .ptr h.next 0, .ptr hx.next 0, g 4, g 5, .ptr (hb.next + 6) 0, g 7, g 8, g 9, g 10, u, .int .i64 (A.length : Int), .int .i64 (j : Int), g 14, g 15]) ∧ j ≤ A.length ∧
    h7.get lid = some (.cells false (ints (setK (fun x => W (x.tdiv k)) A j))) ∧ h7.get (hb.next + 6) = some (.cells false [.int .i64 (m : Int), .sl lid 0 A.length (.un 1)]) ∧ Fr hb h7 ∧ lid < h7.next ∧ (∀ i, i < j → (A.getD i 0).tmod k = 0) ∧ k' = A.length - j) A.length
    ⟨0, ex_junk rfl, Nat.zero_le _, by rw [hP2 _ (by omega)]; exact hlg, hP1, hF6, by omega, fun i hi => by omega, rfl⟩ ?_
  rintro k' vars h7 ⟨j, ⟨g, rfl⟩, hj, hg7, ho7, hf7, hn7, hdv, rfl⟩
  have hal := setK_len (fun x => W (x.tdiv k)) A j
  simp (disch := first | omega | (simp only [List.length_set, List.length_replicate, List.length_append, List.length_take, List.length_drop, List.length_cons, List.length_nil, List.length_map, List.length_range, ints_length] <;> omega)) only [go_sem]
  by_cases hjc : (j : Int) < (A.length : Int)
  · rw [decide_eq_true hjc]
    have hcc7 := cells_fr (hF.trans hf7) hcid hcc
    have hstep : setK (fun x => W (x.tdiv k)) A (j + 1) = (setK (fun x => W (x.tdiv k)) A j).set j (W ((A.getD j 0).tdiv k)) := rfl
    simp (disch := first | omega | (simp only [List.length_set, List.length_replicate, List.length_append, List.length_take, List.length_drop, List.length_cons, List.length_nil, List.length_map, List.length_range, ints_length] <;> omega)) only [go_sem, hcs.ixa, hcc7, arith_rem]
    refine iteW_dec (fun hnz => ?_) (fun hz => ?_)
    · have hgo := (hf7.get hx.next (by omega)).trans hgb
      have hrow7 := row_two (h := h7.set hx.next (some (.cells false [.int .i64 0, .nils]))) (H.get_set_same ..)
      simp (disch := first | omega | (simp only [List.length_set, List.length_replicate, List.length_append, List.length_take, List.length_drop, List.length_cons, List.length_nil, List.length_map, List.length_range, ints_length] <;> omega)) only [go_sem, hst2, hgo, hrow7]
      have hany : A.any (fun x => decide (x.tmod k ≠ 0)) = true := by
        rw [List.any_eq_true]
        refine ⟨A.getD j 0, ?_, decide_eq_true hnz⟩
        rw [List.getD_eq_getElem?_getD, List.getElem?_eq_getElem (by omega)]
        exact List.getElem_mem _
      rw [if_pos hany]
      exact ⟨_, rfl, CycO.zero _ _, (hF.trans hf7).set (by omega) _⟩
    · have ho71 : h7.cell (hb.next + 6) 1 = some (.sl lid 0 A.length (.un 1)) := by rw [H.cell_of ho7]; rfl
      simp (disch := first | omega | (simp only [List.length_set, List.length_replicate, List.length_append, List.length_take, List.length_drop, List.length_cons, List.length_nil, List.length_map, List.length_range, ints_length] <;> omega)) only [go_sem, ho71, hg7, arith_quo]
      rw [show (j : Int) + 1 = ((j + 1 : Nat) : Int) from by omega]
      refine ⟨A.length - (j + 1), by omega, j + 1, ex_junk rfl, by omega, by rw [hstep], ho7, ?_, by omega, fun i hi => ?_, rfl⟩
      · exact (hf7.bump (by omega)).set (by omega) _
      · by_cases hij : i = j
        · rw [hij]; exact Decidable.byContradiction hz
        · exact hdv i (by omega)
  · rw [decide_eq_false hjc]
    have : A.length = j := by omega
    subst this
    rw [setK_all] at hg7
    have hgo := (hf7.get hx.next (by omega)).trans hgb
    have hst3 := fun hh => stV_agg2 hh hx.next 0 (v := .int .i64 (m : Int)) (u := .sl lid 0 A.length (.un 1)) rfl rfl
    have hrow := row_two (h := h7.set hx.next (some (.cells false [.int .i64 (m : Int), .sl lid 0 A.length (.un 1)]))) (H.get_set_same ..)
    simp (disch := first | omega | (simp only [List.length_set, List.length_replicate, List.length_append, List.length_take, List.length_drop, List.length_cons, List.length_nil, List.length_map, List.length_range, ints_length] <;> omega)) only [go_sem, row_two ho7, hst3, hgo, hrow]
    have hany : ¬ A.any (fun x => decide (x.tmod k ≠ 0)) = true := by
      rw [List.any_eq_true]
      rintro ⟨x, hx1, hx2⟩
      obtain ⟨i, hi, rfl⟩ := List.getElem_of_mem hx1
      have := hdv i hi
      rw [List.getD_eq_getElem?_getD, List.getElem?_eq_getElem hi] at this
      exact (of_decide_eq_true hx2) this
    rw [if_neg hany]
    have hsi : SI h7 (.sl lid 0 A.length (.un 1)) (A.map fun x => W (x.tdiv k)) := by
      have := SI.own (h := h7) (id := lid) (by omega) hg7 (.un 1)
      rw [List.length_map] at this; exact this
    have hco : CycO h7 (.agg [.int .i64 (m : Int), .sl lid 0 A.length (.un 1)]) ((m : Int), A.map fun x => W (x.tdiv k)) (hx.next + 1) := ⟨.sl lid 0 A.length (.un 1), rfl, hsi, fun _ _ _ _ e => by cases e; omega⟩
    exact ⟨_, rfl, (hco.set (by omega) _).le (by omega), (hF.trans hf7).set (by omega) _⟩

def ratF (a : Int × List Int) : Int × Bool := if a.1 ≠ 1 ∨ checkF a ≠ 0 then (0, false) else (a.2.getD 0 0, true)
theorem rat_ok (v : V) (a : Int × List Int) (h : H) (ha : CycV h v a) (hl : a.2.length < 1000000) :
    Ev T n_cyclo_Rational [v] h (fun v h' => v = .tup [.int .i64 (ratF a).1, .bool (ratF a).2] ∧ Fr h h') := by
  obtain ⟨u, rfl, hu⟩ := ha
  obtain ⟨N, A⟩ := a
  simp only at hu hl
  refine Ev_of t_cyclo_Rational rfl ?_
  simp (disch := first | omega | (simp only [List.length_set, List.length_replicate, List.length_append, List.length_take, List.length_drop, List.length_cons, List.length_nil, List.length_map, List.length_range, ints_length] <;> omega)) only [go_sem, c_cyclo_Rational, initV_eq, boxV_agg2 h (v := .int .i64 N) rfl hu.what.2.1]
  have hfx : Fr h (h.new (.cells false [.int .i64 N, u])) := (Fr.refl h).new _
  have hgx : (h.new (.cells false [.int .i64 N, u])).get h.next = some (.cells false [.int .i64 N, u]) := H.get_new_same ..
  have hnx : (h.new (.cells false [.int .i64 N, u])).next = h.next + 1 := H.next_new ..
  generalize h.new (.cells false [.int .i64 N, u]) = hx at *
  by_cases h1 : N ≠ 1
  · rw [decide_eq_true h1]
    simp (disch := first | omega | (simp only [List.length_set, List.length_replicate, List.length_append, List.length_take, List.length_drop, List.length_cons, List.length_nil, List.length_map, List.length_range, ints_length] <;> omega)) only [go_sem]
    rw [ratF, if_pos (.inl h1)]
    exact ⟨rfl, hfx⟩
  rw [decide_eq_false h1]
  simp (disch := first | omega | (simp only [List.length_set, List.length_replicate, List.length_append, List.length_take, List.length_drop, List.length_cons, List.length_nil, List.length_map, List.length_range, ints_length] <;> omega)) only [go_sem, row_two hgx]
  refine (check_ok _ (N, A) hx ⟨u, rfl, hu.mono hfx⟩ hl).mono ?_
  rintro v1 hb ⟨rfl, hfb⟩
  have hgb := (hfb.get h.next (by omega)).trans hgx
  simp (disch := first | omega | (simp only [List.length_set, List.length_replicate, List.length_append, List.length_take, List.length_drop, List.length_cons, List.length_nil, List.length_map, List.length_range, ints_length] <;> omega)) only [go_sem]
  refine iteW_dec (fun h2 => ?_) (fun h2 => ?_)
  · simp (disch := first | omega | (simp only [List.length_set, List.length_replicate, List.length_append, List.length_take, List.length_drop, List.length_cons, List.length_nil, List.length_map, List.length_range, ints_length] <;> omega)) only [go_sem]
    rw [ratF, if_pos (.inr h2)]
    exact ⟨rfl, hfx.trans hfb⟩
  have hrg := check_range (show checkF (N, A) = 0 by omega)
  simp only at hrg
  have hpl := phi_len (n := N.toNat) (by omega) (by omega)
  obtain ⟨cid, coff, hcs, hcid, hcc⟩ := (hu.mono (hfx.trans hfb)).open
  have c1 : hb.cell h.next 1 = some u := by rw [H.cell_of hgb]; rfl
  have hc0 := hcc 0 (by omega)
  rw [Nat.add_zero] at hc0
  simp (disch := first | omega | (simp only [List.length_set, List.length_replicate, List.length_append, List.length_take, List.length_drop, List.length_cons, List.length_nil, List.length_map, List.length_range, ints_length] <;> omega)) only [go_sem, c1, hcs.ixa, hc0]
  rw [ratF, if_neg (by simp only; omega)]
  exact ⟨rfl, hfx.trans hfb⟩

def cmpI (a b : Int) : Int := if a < b then -1 else if b < a then 1 else 0
theorem nan_ok (a : Int) (h : H) : Ev T n_cmp_isNaN_int [.int .i64 a] h (fun v h' => v = .bool false ∧ h' = h) := by
  refine Ev_of t_cmp_isNaN_int rfl ?_
  simp (disch := first | omega | (simp only [List.length_set, List.length_replicate, List.length_append, List.length_take, List.length_drop, List.length_cons, List.length_nil, List.length_map, List.length_range, ints_length] <;> omega)) only [go_sem, c_cmp_isNaN_int, initV_eq]
  exact ⟨by simp, trivial⟩
theorem cmpI_ok (a b : Int) (h : H) : Ev T n_cmp_Compare_int [.int .i64 a, .int .i64 b] h (fun v h' => v = .int .i64 (cmpI a b) ∧ h' = h) := by
  refine Ev_of t_cmp_Compare_int rfl ?_
  simp (disch := first | omega | (simp only [List.length_set, List.length_replicate, List.length_append, List.length_take, List.length_drop, List.length_cons, List.length_nil, List.length_map, List.length_range, ints_length] <;> omega)) only [go_sem, c_cmp_Compare_int, initV_eq]
  refine (nan_ok a h).mono ?_
  rintro v h1 ⟨rfl, rfl⟩
  simp (disch := first | omega | (simp only [List.length_set, List.length_replicate, List.length_append, List.length_take, List.length_drop, List.length_cons, List.length_nil, List.length_map, List.length_range, ints_length] <;> omega)) only [go_sem]
  refine (nan_ok b h1).mono ?_
  rintro v h2 ⟨rfl, rfl⟩
  simp (disch := first | omega | (simp only [List.length_set, List.length_replicate, List.length_append, List.length_take, List.length_drop, List.length_cons, List.length_nil, List.length_map, List.length_range, ints_length] <;> omega)) only [go_sem]
  refine iteW_dec (fun h1 => ?_) (fun h1 => ?_)
  · simp (disch := first | omega | (simp only [List.length_set, List.length_replicate, List.length_append, List.length_take, List.length_drop, List.length_cons, List.length_nil, List.length_map, List.length_range, ints_length] <;> omega)) only [go_sem]
    exact ⟨by rw [cmpI, if_pos h1], trivial⟩
  simp (disch := first | omega | (simp only [List.length_set, List.length_replicate, List.length_append, List.length_take, List.length_drop, List.length_cons, List.length_nil, List.length_map, List.length_range, ints_length] <;> omega)) only [go_sem]
  refine iteW_dec (fun h2 => ?_) (fun h2 => ?_)
  · simp (disch := first | omega | (simp only [List.length_set, List.length_replicate, List.length_append, List.length_take, List.length_drop, List.length_cons, List.length_nil, List.length_map, List.length_range, ints_length] <;> omega)) only [go_sem]
    exact ⟨by rw [cmpI, if_neg h1, if_pos h2], trivial⟩
  · simp (disch := first | omega | (simp only [List.length_set, List.length_replicate, List.length_append, List.length_take, List.length_drop, List.length_cons, List.length_nil, List.length_map, List.length_range, ints_length] <;> omega)) only [go_sem]
    exact ⟨by rw [cmpI, if_neg h1, if_neg h2], trivial⟩
def cmpL : List Int → List Int → Int
  | [], [] => 0
  | [], _ :: _ => -1
  | _ :: _, [] => 1
  | a :: as, b :: bs => if cmpI a b ≠ 0 then cmpI a b else cmpL as bs
theorem drop_getD (l : List Int) (k : Nat) (hk : k < l.length) : l.drop k = l.getD k 0 :: l.drop (k + 1) := by
  rw [List.drop_eq_getElem_cons hk, List.getD_eq_getElem?_getD, List.getElem?_eq_getElem hk]; rfl
theorem cmpL_ok (va vb : V) (a b : List Int) (h : H) (ha : SI h va a) (hb : SI h vb b) (hla : a.length < 1000000) (hlb : b.length < 1000000) :
    Ev T n_slices_Compare_int_int [va, vb] h (fun v h' => v = .int .i64 (cmpL a b) ∧ h' = h) := by
  refine Ev_of t_slices_Compare_int_int rfl ?_
  obtain ⟨id, off, hsl, hid, hc⟩ := ha.open
  obtain ⟨id2, off2, hsl2, hid2, hc2⟩ := hb.open
  simp (disch := first | omega | (simp only [List.length_set, List.length_replicate, List.length_append, List.length_take, List.length_drop, List.length_cons, List.length_nil, List.length_map, List.length_range, ints_length] <;> omega)) only [go_sem, c_slices_Compare_int_int, initV_eq, ha.lens]
  refine Wp_loop (fun k' vars h2 => ∃ (k : Nat), (∃ g : Nat → V, vars = [va, vb, .int .i64 0, g 3, g 4, g 5, g 6, va, .int .i64 (a.length : Int), .int .i64 (k : Int), g 10, g 11, g 12, g 13]) ∧ k ≤ a.length ∧ k ≤ b.length ∧ h2 = h ∧ cmpL a b = cmpL (a.drop k) (b.drop k) ∧ k' = a.length - k) a.length
    ⟨0, ex_junk rfl, Nat.zero_le _, Nat.zero_le _, rfl, rfl, rfl⟩ ?_
  rintro k' vars h2 ⟨k, ⟨g, rfl⟩, hk, hkb, rfl, hor, rfl⟩
  simp (disch := first | omega | (simp only [List.length_set, List.length_replicate, List.length_append, List.length_take, List.length_drop, List.length_cons, List.length_nil, List.length_map, List.length_range, ints_length] <;> omega)) only [go_sem]
  refine iteW_dec (fun hlt => ?_) (fun hge => ?_)
  · have hd := drop_getD a k (by omega)
    simp (disch := first | omega | (simp only [List.length_set, List.length_replicate, List.length_append, List.length_take, List.length_drop, List.length_cons, List.length_nil, List.length_map, List.length_range, ints_length] <;> omega)) only [go_sem, hsl.ixa, hc, hb.lens]
    refine iteW_dec (fun hbe => ?_) (fun hbl => ?_)
    · simp (disch := first | omega | (simp only [List.length_set, List.length_replicate, List.length_append, List.length_take, List.length_drop, List.length_cons, List.length_nil, List.length_map, List.length_range, ints_length] <;> omega)) only [go_sem]
      refine ⟨?_, trivial⟩
      rw [hor, hd, List.drop_of_length_le (show b.length ≤ k by omega), cmpL]
    have hd2 := drop_getD b k (by omega)
    simp (disch := first | omega | (simp only [List.length_set, List.length_replicate, List.length_append, List.length_take, List.length_drop, List.length_cons, List.length_nil, List.length_map, List.length_range, ints_length] <;> omega)) only [go_sem, hsl2.ixa, hc2]
    refine (cmpI_ok _ _ h2).mono ?_
    rintro v3 h3 ⟨rfl, rfl⟩
    simp (disch := first | omega | (simp only [List.length_set, List.length_replicate, List.length_append, List.length_take, List.length_drop, List.length_cons, List.length_nil, List.length_map, List.length_range, ints_length] <;> omega)) only [go_sem]
    refine iteW_dec (fun hne => ?_) (fun he => ?_)
    · simp (disch := first | omega | (simp only [List.length_set, List.length_replicate, List.length_append, List.length_take, List.length_drop, List.length_cons, List.length_nil, List.length_map, List.length_range, ints_length] <;> omega)) only [go_sem]
      refine ⟨?_, trivial⟩
      rw [hor, hd, hd2, cmpL, if_pos hne]
    · simp (disch := first | omega | (simp only [List.length_set, List.length_replicate, List.length_append, List.length_take, List.length_drop, List.length_cons, List.length_nil, List.length_map, List.length_range, ints_length] <;> omega)) only [go_sem]
      rw [show (k : Int) + 1 = ((k + 1 : Nat) : Int) from by omega]
      refine ⟨a.length - (k + 1), by omega, k + 1, ex_junk rfl, by omega, by omega, ?_, rfl⟩
      rw [hor, hd, hd2, cmpL, if_neg he]
  · simp (disch := first | omega | (simp only [List.length_set, List.length_replicate, List.length_append, List.length_take, List.length_drop, List.length_cons, List.length_nil, List.length_map, List.length_range, ints_length] <;> omega)) only [go_sem, ha.lens, hb.lens]
    have hda : a.drop k = [] := List.drop_of_length_le (by omega)
    refine iteW_dec (fun hlt => ?_) (fun hge2 => ?_)
    · simp (disch := first | omega | (simp only [List.length_set, List.length_replicate, List.length_append, List.length_take, List.length_drop, List.length_cons, List.length_nil, List.length_map, List.length_range, ints_length] <;> omega)) only [go_sem]
      refine ⟨?_, trivial⟩
      rw [hor, hda, drop_getD b k (by omega)]; rfl
    · simp (disch := first | omega | (simp only [List.length_set, List.length_replicate, List.length_append, List.length_take, List.length_drop, List.length_cons, List.length_nil, List.length_map, List.length_range, ints_length] <;> omega)) only [go_sem]
      refine ⟨?_, trivial⟩
      rw [hor, hda, List.drop_of_length_le (show b.length ≤ k by omega)]; rfl
theorem orI_ok (v : V) (l : List Int) (h : H) (hs : SI h v l) (hl : l.length < 1000000) : Ev T n_cmp_Or_int [v] h (fun v h' => v = .int .i64 (orF l) ∧ h' = h) := by
  refine Ev_of t_cmp_Or_int rfl ?_
  obtain ⟨id, off, hsl, hid, hc⟩ := hs.open
  simp (disch := first | omega | (simp only [List.length_set, List.length_replicate, List.length_append, List.length_take, List.length_drop, List.length_cons, List.length_nil, List.length_map, List.length_range, ints_length] <;> omega)) only [go_sem, c_cmp_Or_int, initV_eq, hs.lens]
  refine Wp_loop (fun k' vars h2 => ∃ (k : Nat), (∃ g : Nat → V, vars = [g 0, g 1, .int .i64 0, g 3, v, .int .i64 (l.length : Int), .int .i64 (k : Int), g 7, g 8]) ∧ k ≤ l.length ∧ h2 = h ∧ orF l = orF (l.drop k) ∧ k' = l.length - k) l.length
    ⟨0, ex_junk rfl, Nat.zero_le _, rfl, rfl, rfl⟩ ?_
  rintro k' vars h2 ⟨k, ⟨g, rfl⟩, hk, rfl, hor, rfl⟩
  simp (disch := first | omega | (simp only [List.length_set, List.length_replicate, List.length_append, List.length_take, List.length_drop, List.length_cons, List.length_nil, List.length_map, List.length_range, ints_length] <;> omega)) only [go_sem]
  refine iteW_dec (fun hlt => ?_) (fun hge => ?_)
  · have hd := drop_getD l k (by omega)
    simp (disch := first | omega | (simp only [List.length_set, List.length_replicate, List.length_append, List.length_take, List.length_drop, List.length_cons, List.length_nil, List.length_map, List.length_range, ints_length] <;> omega)) only [go_sem, hsl.ixa, hc]
    refine iteW_dec (fun hne => ?_) (fun he => ?_)
    · simp (disch := first | omega | (simp only [List.length_set, List.length_replicate, List.length_append, List.length_take, List.length_drop, List.length_cons, List.length_nil, List.length_map, List.length_range, ints_length] <;> omega)) only [go_sem]
      refine ⟨?_, trivial⟩
      rw [hor, hd, orF, List.find?_cons, decide_eq_true hne]; rfl
    · simp (disch := first | omega | (simp only [List.length_set, List.length_replicate, List.length_append, List.length_take, List.length_drop, List.length_cons, List.length_nil, List.length_map, List.length_range, ints_length] <;> omega)) only [go_sem]
      rw [show (k : Int) + 1 = ((k + 1 : Nat) : Int) from by omega]
      refine ⟨l.length - (k + 1), by omega, k + 1, ex_junk rfl, by omega, ?_, rfl⟩
      rw [hor, hd, orF, List.find?_cons, decide_eq_false he]; rfl
  · simp (disch := first | omega | (simp only [List.length_set, List.length_replicate, List.length_append, List.length_take, List.length_drop, List.length_cons, List.length_nil, List.length_map, List.length_range, ints_length] <;> omega)) only [go_sem]
    refine ⟨?_, trivial⟩
    rw [hor, List.drop_of_length_le (by omega)]; rfl

def cmpF (a b : Int × List Int) : Int := orF [cmpI a.1 b.1, cmpL a.2 b.2]
set_option maxHeartbeats 1000000 in
theorem cmp_ok (va vb : V) (a b : Int × List Int) (h : H) (ha : CycV h va a) (hb : CycV h vb b) (hla : a.2.length < 1000000) (hlb : b.2.length < 1000000) :
    Ev T n_cyclo_Cmp [va, vb] h (fun v h' => v = .int .i64 (cmpF a b) ∧ Fr h h') := by
  obtain ⟨u, rfl, hu⟩ := ha
  obtain ⟨w, rfl, hw⟩ := hb
  obtain ⟨N, A⟩ := a
  obtain ⟨M, B⟩ := b
  simp only at hu hw hla hlb
  refine Ev_of t_cyclo_Cmp rfl ?_
  simp (disch := first | omega | (simp only [List.length_set, List.length_replicate, List.length_append, List.length_take, List.length_drop, List.length_cons, List.length_nil, List.length_map, List.length_range, ints_length] <;> omega)) only [go_sem, c_cyclo_Cmp, initV_eq, boxV_agg2 h (v := .int .i64 N) rfl hu.what.2.1]
  have hfx : Fr h (h.new (.cells false [.int .i64 N, u])) := (Fr.refl h).new _
  have hgx : (h.new (.cells false [.int .i64 N, u])).get h.next = some (.cells false [.int .i64 N, u]) := H.get_new_same ..
  have hnx : (h.new (.cells false [.int .i64 N, u])).next = h.next + 1 := H.next_new ..
  generalize h.new (.cells false [.int .i64 N, u]) = hx at *
  have x0 : hx.cell h.next 0 = some (.int .i64 N) := by rw [H.cell_of hgx]; rfl
  have x1 : hx.cell h.next 1 = some u := by rw [H.cell_of hgx]; rfl
  simp (disch := first | omega | (simp only [List.length_set, List.length_replicate, List.length_append, List.length_take, List.length_drop, List.length_cons, List.length_nil, List.length_map, List.length_range, ints_length] <;> omega)) only [go_sem, boxV_agg2 hx (v := .int .i64 M) rfl hw.what.2.1, x0, x1]
  have hfy : Fr hx (hx.new (.cells false [.int .i64 M, w])) := (Fr.refl hx).new _
  have hgy : (hx.new (.cells false [.int .i64 M, w])).get hx.next = some (.cells false [.int .i64 M, w]) := H.get_new_same ..
  have hny : (hx.new (.cells false [.int .i64 M, w])).next = hx.next + 1 := H.next_new ..
  have c0 : (hx.new (.cells false [.int .i64 M, w])).cell hx.next 0 = some (.int .i64 M) := by rw [H.cell_of hgy]; rfl
  have c1 : (hx.new (.cells false [.int .i64 M, w])).cell hx.next 1 = some w := by rw [H.cell_of hgy]; rfl
  generalize hx.new (.cells false [.int .i64 M, w]) = hy at *
  rw [← hny]
  have hgxy := (hfy.get h.next (by omega)).trans hgx
  have d0 : hy.cell h.next 0 = some (.int .i64 N) := by rw [H.cell_of hgxy]; rfl
  have d1 : hy.cell h.next 1 = some u := by rw [H.cell_of hgxy]; rfl
  have eu : eqV u u = true := SV.eqV hu
  have ew : eqV w w = true := SV.eqV hw
  refine (cmpI_ok N M _).mono ?_
  rintro v3 h3 ⟨rfl, rfl⟩
  simp (disch := first | omega | (simp only [List.length_set, List.length_replicate, List.length_append, List.length_take, List.length_drop, List.length_cons, List.length_nil, List.length_map, List.length_range, ints_length] <;> omega)) only [go_sem, c0, c1, d0, d1, eu, ew]
  have hF := ((hfx.trans hfy).bump (n := hy.next + 13) (by omega))
  refine (cmpL_ok u w A B _ (hu.mono hF) (hw.mono hF) hla hlb).mono ?_
  rintro v3 h3 ⟨rfl, rfl⟩
  simp (disch := first | omega | (simp only [List.length_set, List.length_replicate, List.length_append, List.length_take, List.length_drop, List.length_cons, List.length_nil, List.length_map, List.length_range, ints_length] <;> omega)) only [go_sem, bls_int2]
  have hg5 : (H.mk ((H.mk hy.tr (hy.next + 10)).new (.cells false (ints [cmpI N M, cmpL A B]))).tr (hy.next + 13)).get (hy.next + 10) = some (.cells false (ints [cmpI N M, cmpL A B])) := by
    rw [H.get_next', H.get_new, if_pos rfl]
  have hF5 : Fr hy (H.mk ((H.mk hy.tr (hy.next + 10)).new (.cells false (ints [cmpI N M, cmpL A B]))).tr (hy.next + 13)) := ⟨by show hy.next ≤ hy.next + 13; omega, fun id hid => by rw [H.get_next', H.get_new, if_neg (by show id ≠ hy.next + 10; omega)]; rfl⟩
  have hn5 : (H.mk ((H.mk hy.tr (hy.next + 10)).new (.cells false (ints [cmpI N M, cmpL A B]))).tr (hy.next + 13)).next = hy.next + 13 := rfl
  generalize H.mk ((H.mk hy.tr (hy.next + 10)).new (.cells false (ints [cmpI N M, cmpL A B]))).tr (hy.next + 13) = h5 at *
  have hs5 : SI h5 (.sl (hy.next + 10) 0 2 (.kn 2)) [cmpI N M, cmpL A B] := SI.own (h := h5) (id := hy.next + 10) (l := [cmpI N M, cmpL A B]) (by omega) hg5 (.kn 2)
  refine (orI_ok _ _ h5 hs5 (by simp)).mono ?_
  rintro v6 h6 ⟨rfl, rfl⟩
  simp (disch := first | omega | (simp only [List.length_set, List.length_replicate, List.length_append, List.length_take, List.length_drop, List.length_cons, List.length_nil, List.length_map, List.length_range, ints_length] <;> omega)) only [go_sem]
  exact ⟨rfl, (hfx.trans hfy).trans hF5⟩
end
end Go.Proofs.Ythfabknpogbcaaa
/- Contracts of the reference: phi, Phi, reduced, add, over. -/
namespace Go.Proofs.Ythfabknpogbcaaa
open Go Go.Ay
set_option maxRecDepth 100000
noncomputable section

theorem Frs.ne {u : V} {b id off n : Nat} {c : Cap} (f : Frs u b) (h : id < b) : u ≠ .sl id off n c := fun e => by have := f _ _ _ _ e; omega
theorem Frs.le {u : V} {b b' : Nat} (f : Frs u b) (h : b' ≤ b) : Frs u b' := fun id off n c e => Nat.le_trans h (f id off n c e)
theorem Frs.own {h : H} {v : V} {sz : Nat} {ws : List V} {b : Nat} (o : Own h v sz ws b) : Frs v b := fun id off n c e => by
  rcases o with ⟨h1, _⟩ | ⟨id', _, _, _, h1, _, _, h2, _⟩
  · rw [h1] at e; cases e
  · rw [h1] at e; cases e; exact h2
theorem SI.set_frs {h : H} {v : V} {l : List Int} (s : SI h v l) {b x : Nat} (f : Frs v b) (hx : x < b) (o : Option Ob) : SI (h.set x o) v l := SV.set_ne s (fun off len c => f.ne hx) o

theorem phiAux_le (n : Nat) : ∀ k, (phiAux phiF n k).length ≤ n + 1 := by
  intro k
  rw [phiAux_len]
  have : ∀ (f : Nat → Nat) k, lenAux f n k ≤ n + 1 := by
    intro f k
    induction k with
    | zero => exact Nat.le_refl _
    | succ k ih => rw [lenAux]; split <;> omega
  exact this _ _

set_option maxHeartbeats 1000000 in
theorem rphi_ok (n : Nat) (h : H) (hn1 : 1 ≤ n) (hn2 : n ≤ 120) : Ev T n_ref06_phi [.int .i64 (n : Int)] h (fun v h' => SI h' v (phiF n) ∧ Fr h h' ∧ Frs v h.next) := by
  refine Ev_of t_ref06_phi rfl ?_
  simp (disch := first | omega | (simp only [List.length_set, List.length_replicate, List.length_append, List.length_take, List.length_drop, List.length_cons, List.length_nil, List.length_map, List.length_range, ints_length] <;> omega)) only [go_sem, c_ref06_phi, initV_eq, zeros_one]
  have en : ((n : Int) + 1).toNat = n + 1 := by omega
  rw [en]
  refine Wp_loop (fun k vars h2 => ∃ (d : Nat) (ws : List V), (∃ g : Nat → V, vars = [.int .i64 (n : Int), g 1, .sl h.next 0 (n + 1) (.kn (n + 1)), .int .i64 (d : Int), g 4, g 5, g 6, g 7, g 8]) ∧ 1 ≤ d ∧ d ≤ n + 1 ∧ ws.length = n + 1 ∧ h2.get h.next = some (.cells false ws) ∧
      (∀ e, 1 ≤ e → e < d → n % e = 0 → SI h2 (ws.getD e .undef) (phiF e) ∧ Frs (ws.getD e .undef) (h.next + 1)) ∧ Fr h h2 ∧ h.next < h2.next ∧ k = n + 1 - d) n
    ⟨1, _, ex_junk rfl, Nat.le_refl _, by omega, List.length_replicate, H.get_new_same .., fun e h1 h2 => by omega, (Fr.refl h).new _, by rw [H.next_new]; omega, rfl⟩ ?_
  rintro k vars h2 ⟨d, ws, ⟨g, rfl⟩, hd1, hd2, hwl, hg2, hrows, hf2, hnx2, rfl⟩
  simp (disch := first | omega | (simp only [List.length_set, List.length_replicate, List.length_append, List.length_take, List.length_drop, List.length_cons, List.length_nil, List.length_map, List.length_range, ints_length] <;> omega)) only [go_sem]
  refine iteW_dec (fun hle => ?_) (fun hgt => ?_)
  · have ed : ((d : Int) + 1).toNat = d + 1 := by omega
    simp (disch := first | omega | (simp only [List.length_set, List.length_replicate, List.length_append, List.length_take, List.length_drop, List.length_cons, List.length_nil, List.length_map, List.length_range, ints_length] <;> omega)) only [go_sem, ed]
    obtain ⟨P, hP⟩ : ∃ P, h2.next = P := ⟨_, rfl⟩
    rw [hP]
    have hp0 : SI (((h2.new (Ob.cells false (ints (0 :: List.replicate d 0)))).set P (some (Ob.cells false (ints (-1 :: List.replicate d 0))))).set P (some (Ob.cells false (ints ((-1 :: List.replicate d 0).set d 1))))) (.sl P 0 (d + 1) (.kn (d + 1))) (phiAux phiF d 0) := by
      have := SI.own (h := (((h2.new (Ob.cells false (ints (0 :: List.replicate d 0)))).set P (some (Ob.cells false (ints (-1 :: List.replicate d 0))))).set P (some (Ob.cells false (ints ((-1 :: List.replicate d 0).set d 1)))))) (id := P) (ro := false) (l := xn1 d) (by simp only [H.next_set, H.next_new]; omega) (H.get_set_same ..) (.kn (d + 1))
      have hl : (xn1 d).length = d + 1 := by simp [xn1]
      rw [hl] at this
      exact this
    have hfp : Fr h2 (((h2.new (Ob.cells false (ints (0 :: List.replicate d 0)))).set P (some (Ob.cells false (ints (-1 :: List.replicate d 0))))).set P (some (Ob.cells false (ints ((-1 :: List.replicate d 0).set d 1))))) := (((Fr.refl h2).new _).set (by omega) _).set (by omega) _
    generalize (((h2.new (Ob.cells false (ints (0 :: List.replicate d 0)))).set P (some (Ob.cells false (ints (-1 :: List.replicate d 0))))).set P (some (Ob.cells false (ints ((-1 :: List.replicate d 0).set d 1))))) = hq at *
    refine Wp_loop (fun k3 vars h3 => ∃ (e : Nat) (p : V), (∃ g : Nat → V, vars = [.int .i64 (n : Int), g 1, .sl h.next 0 (n + 1) (.kn (n + 1)), .int .i64 (d : Int), p, .int .i64 (e : Int), g 6, g 7, g 8]) ∧ 1 ≤ e ∧ e ≤ d ∧ SI h3 p (phiAux phiF d (e - 1)) ∧ Frs p (h.next + 1) ∧ Fr h2 h3 ∧ k3 = d - e) (d - 1)
      ⟨1, _, ex_junk rfl, Nat.le_refl _, hd1, hp0, fun id off n c e => by cases e; omega, hfp, rfl⟩ ?_
    rintro k3 vars h3 ⟨e, p, ⟨g, rfl⟩, he1, he2, hp, hpf, hf3, rfl⟩
    have hg3 := (hf3.get h.next hnx2).trans hg2
    have hn3 := hf3.next
    have hset : ∀ (hfin : n % d = 0 → SI h3 p (phiF d)), ∀ e, 1 ≤ e → e < d + 1 → n % e = 0 → SI (h3.set h.next (some (.cells false (ws.set d p)))) ((ws.set d p).getD e .undef) (phiF e) ∧ Frs ((ws.set d p).getD e .undef) (h.next + 1) := fun hfin e' h1 h2' hz => by
      rw [getD_set]
      by_cases hed : d = e'
      · subst hed
        rw [if_pos rfl, if_pos (by omega)]
        exact ⟨SI.set_frs (hfin hz) hpf (by omega) _, hpf⟩
      · rw [if_neg hed]
        obtain ⟨s, f⟩ := hrows e' h1 (by omega) hz
        exact ⟨SI.set_frs (s.mono hf3) f (by omega) _, f⟩
    by_cases hlt : e < d
    · simp (disch := first | omega | (simp only [List.length_set, List.length_replicate, List.length_append, List.length_take, List.length_drop, List.length_cons, List.length_nil, List.length_map, List.length_range, ints_length] <;> omega)) only [go_sem]
      rw [decide_eq_true (show (e : Int) < (d : Int) by omega)]
      simp (disch := first | omega | (simp only [List.length_set, List.length_replicate, List.length_append, List.length_take, List.length_drop, List.length_cons, List.length_nil, List.length_map, List.length_range, ints_length] <;> omega)) only [go_sem]
      refine iteW_dec (fun hz => ?_) (fun hz => ?_)
      · rw [tmod_nat] at hz
        have hz' : n % d = 0 := by omega
        obtain ⟨e, rfl⟩ : ∃ e', e = e' + 1 := ⟨e - 1, by omega⟩
        have hstep : phiAux phiF d (e + 1) = if d % (e + 1) = 0 then (divF (phiAux phiF d e) (phiF (e + 1))).1 else phiAux phiF d e := rfl
        simp (disch := first | omega | (simp only [List.length_set, List.length_replicate, List.length_append, List.length_take, List.length_drop, List.length_cons, List.length_nil, List.length_map, List.length_range, ints_length] <;> omega)) only [go_sem]
        refine iteW_dec (fun hy => ?_) (fun hy => ?_)
        · rw [tmod_nat] at hy
          have hy' : d % (e + 1) = 0 := by omega
          have hne : n % (e + 1) = 0 := Nat.mod_eq_zero_of_dvd (Nat.dvd_trans (Nat.dvd_of_mod_eq_zero hy') (Nat.dvd_of_mod_eq_zero hz'))
          obtain ⟨srow, frow⟩ := hrows (e + 1) (by omega) hlt hne
          have ci : h3.cell h.next (e + 1) = some (ws.getD (e + 1) .undef) := by
            rw [H.cell_of hg3, List.getD_eq_getElem?_getD, List.getElem?_eq_getElem (by omega)]; rfl
          simp (disch := first | omega | (simp only [List.length_set, List.length_replicate, List.length_append, List.length_take, List.length_drop, List.length_cons, List.length_nil, List.length_map, List.length_range, ints_length] <;> omega)) only [go_sem, ci]
          have hle := phiAux_le d e
          have hl3 := phi_len (n := e + 1) (by omega) (by omega)
          rw [show e + 1 - 1 = e from rfl] at hp
          refine (rdivide_ok p _ _ _ h3 hp (srow.mono hf3) (by omega) (by omega) (by omega)).mono ?_
          rintro v4 h4 ⟨q, r, rfl, hf4, hq, hr, hqf⟩
          simp (disch := first | omega | (simp only [List.length_set, List.length_replicate, List.length_append, List.length_take, List.length_drop, List.length_cons, List.length_nil, List.length_map, List.length_range, ints_length] <;> omega)) only [go_sem, List.getElem?_cons_zero, List.getElem?_cons_succ]
          rw [show ((e + 1 : Nat) : Int) + 1 = ((e + 2 : Nat) : Int) from by omega]
          refine ⟨d - (e + 2), by omega, e + 2, q, ex_junk rfl, by omega, by omega, ?_, (Frs.le hqf (by omega)), hf3.trans hf4, rfl⟩
          rw [show e + 2 - 1 = e + 1 from rfl, hstep, if_pos hy']
          exact hq
        · rw [tmod_nat] at hy
          have hy' : ¬ d % (e + 1) = 0 := by omega
          simp (disch := first | omega | (simp only [List.length_set, List.length_replicate, List.length_append, List.length_take, List.length_drop, List.length_cons, List.length_nil, List.length_map, List.length_range, ints_length] <;> omega)) only [go_sem]
          rw [show ((e + 1 : Nat) : Int) + 1 = ((e + 2 : Nat) : Int) from by omega]
          refine ⟨d - (e + 2), by omega, e + 2, p, ex_junk rfl, by omega, by omega, ?_, hpf, hf3, rfl⟩
          rw [show e + 2 - 1 = e + 1 from rfl, hstep, if_neg hy']
          exact hp
      · rw [tmod_nat] at hz
        have hz' : ¬ n % d = 0 := by omega
        simp (disch := first | omega | (simp only [List.length_set, List.length_replicate, List.length_append, List.length_take, List.length_drop, List.length_cons, List.length_nil, List.length_map, List.length_range, ints_length] <;> omega)) only [go_sem, hp.st1, hg3]
        rw [show (d : Int) + 1 = ((d + 1 : Nat) : Int) from by omega]
        exact ⟨n + 1 - (d + 1), by omega, d + 1, ws.set d p, ex_junk rfl, by omega, by omega, by rw [List.length_set, hwl], rfl, hset (fun h => absurd h hz'), (hf2.trans hf3).set (Nat.le_refl _) _, by show h.next < h3.next; omega, rfl⟩
    · have he : e = d := by omega
      subst he
      rw [← phiF_eq e hd1] at hp
      simp (disch := first | omega | (simp only [List.length_set, List.length_replicate, List.length_append, List.length_take, List.length_drop, List.length_cons, List.length_nil, List.length_map, List.length_range, ints_length] <;> omega)) only [go_sem]
      rw [decide_eq_false (show ¬ (e : Int) < (e : Int) by omega)]
      simp (disch := first | omega | (simp only [List.length_set, List.length_replicate, List.length_append, List.length_take, List.length_drop, List.length_cons, List.length_nil, List.length_map, List.length_range, ints_length] <;> omega)) only [go_sem, hp.st1, hg3]
      rw [show (e : Int) + 1 = ((e + 1 : Nat) : Int) from by omega]
      exact ⟨n + 1 - (e + 1), by omega, e + 1, ws.set e p, ex_junk rfl, by omega, by omega, by rw [List.length_set, hwl], rfl, hset (fun _ => hp), (hf2.trans hf3).set (Nat.le_refl _) _, by show h.next < h3.next; omega, rfl⟩
  · have : d = n + 1 := by omega
    subst this
    obtain ⟨srow, frow⟩ := hrows n hn1 (by omega) (Nat.mod_self n)
    have ci : h2.cell h.next n = some (ws.getD n .undef) := by
      rw [H.cell_of hg2, List.getD_eq_getElem?_getD, List.getElem?_eq_getElem (by omega)]; rfl
    simp (disch := first | omega | (simp only [List.length_set, List.length_replicate, List.length_append, List.length_take, List.length_drop, List.length_cons, List.length_nil, List.length_map, List.length_range, ints_length] <;> omega)) only [go_sem, ci]
    exact ⟨srow, hf2, frow.le (by omega)⟩

theorem rPhi_ok (n : Int) (h : H) : Ev T n_ref06_Phi [.int .i64 n] h (fun v h' => ∃ u, v = .tup [u, .int .i64 (phiP n).2] ∧ SI h' u (phiP n).1 ∧ Fr h h') := by
  refine Ev_of t_ref06_Phi rfl ?_
  simp (disch := first | omega | (simp only [List.length_set, List.length_replicate, List.length_append, List.length_take, List.length_drop, List.length_cons, List.length_nil, List.length_map, List.length_range, ints_length] <;> omega)) only [go_sem, c_ref06_Phi, initV_eq]
  by_cases h1 : n < 1
  · rw [decide_eq_true h1]
    simp (disch := first | omega | (simp only [List.length_set, List.length_replicate, List.length_append, List.length_take, List.length_drop, List.length_cons, List.length_nil, List.length_map, List.length_range, ints_length] <;> omega)) only [go_sem]
    rw [phiP, if_pos (.inl h1)]
    exact ⟨_, rfl, SI.nils _, Fr.refl h⟩
  rw [decide_eq_false h1]
  simp (disch := first | omega | (simp only [List.length_set, List.length_replicate, List.length_append, List.length_take, List.length_drop, List.length_cons, List.length_nil, List.length_map, List.length_range, ints_length] <;> omega)) only [go_sem]
  refine iteW_dec (fun h2 => ?_) (fun h2 => ?_)
  · simp (disch := first | omega | (simp only [List.length_set, List.length_replicate, List.length_append, List.length_take, List.length_drop, List.length_cons, List.length_nil, List.length_map, List.length_range, ints_length] <;> omega)) only [go_sem]
    rw [phiP, if_pos (.inr h2)]
    exact ⟨_, rfl, SI.nils _, Fr.refl h⟩
  obtain ⟨m, hm⟩ : ∃ m : Nat, n = (m : Int) := ⟨n.toNat, by omega⟩
  subst hm
  simp (disch := first | omega | (simp only [List.length_set, List.length_replicate, List.length_append, List.length_take, List.length_drop, List.length_cons, List.length_nil, List.length_map, List.length_range, ints_length] <;> omega)) only [go_sem]
  refine (rphi_ok m h (by omega) (by omega)).mono ?_
  rintro v2 hd ⟨hp2, hf2, _⟩
  simp (disch := first | omega | (simp only [List.length_set, List.length_replicate, List.length_append, List.length_take, List.length_drop, List.length_cons, List.length_nil, List.length_map, List.length_range, ints_length] <;> omega)) only [go_sem]
  rw [phiP, if_neg (by omega), Int.toNat_natCast]
  exact ⟨_, rfl, hp2, hf2⟩

theorem rreduced_ok (n : Nat) (vc : V) (c : List Int) (h : H) (h1 : 1 ≤ n) (h2 : n ≤ 120) (hc : SI h vc c) (hl : c.length < 1000000) :
    Ev T n_ref06_reduced [.int .i64 (n : Int), vc] h (fun v h' => Own h' v 1 (ints (redF n c)) h.next ∧ Fr h h') := by
  refine Ev_of t_ref06_reduced rfl ?_
  simp (disch := first | omega | (simp only [List.length_set, List.length_replicate, List.length_append, List.length_take, List.length_drop, List.length_cons, List.length_nil, List.length_map, List.length_range, ints_length] <;> omega)) only [go_sem, c_ref06_reduced, initV_eq]
  refine (rphi_ok n h h1 h2).mono ?_
  rintro vp hp1 ⟨hvp, hf1, _⟩
  have hpl := phi_len h1 h2
  simp (disch := first | omega | (simp only [List.length_set, List.length_replicate, List.length_append, List.length_take, List.length_drop, List.length_cons, List.length_nil, List.length_map, List.length_range, ints_length] <;> omega)) only [go_sem]
  refine (rdivide_ok vc vp c (phiF n) hp1 (hc.mono hf1) hvp hl (by omega) (by omega)).mono ?_
  rintro v4 h4 ⟨q, r, rfl, hf4, hq, hr, _⟩
  have hl2 := divF_len2 c (phiF n)
  have hn1 := hf1.next
  have hn4 := hf4.next
  simp (disch := first | omega | (simp only [List.length_set, List.length_replicate, List.length_append, List.length_take, List.length_drop, List.length_cons, List.length_nil, List.length_map, List.length_range, ints_length] <;> omega)) only [go_sem, List.getElem?_cons_zero, List.getElem?_cons_succ]
  refine Wp_loop (fun k vars h5 => ∃ (j : Nat) (u : V), (∃ g : Nat → V, vars = [g 0, g 1, g 2, vp, u, g 5]) ∧ j ≤ (phiF n).length - 1 - (divF c (phiF n)).2.length ∧ Own h5 u 1 (ints ((divF c (phiF n)).2 ++ List.replicate j 0)) hp1.next ∧ Fr hp1 h5 ∧ k = (phiF n).length - 1 - (divF c (phiF n)).2.length - j) _
    ⟨0, r, ex_junk rfl, by omega, by simpa using hr, hf4, rfl⟩ ?_
  rintro k vars h5 ⟨j, u, ⟨g, rfl⟩, hj, ho, hf5, rfl⟩
  have hlu : lensV u = some (.int .i64 (((divF c (phiF n)).2 ++ List.replicate j 0).length : Int)) := SI.lens (h := h5) ho.sv
  rw [List.length_append, List.length_replicate] at hlu
  have hn5 := hf5.next
  simp (disch := first | omega | (simp only [List.length_set, List.length_replicate, List.length_append, List.length_take, List.length_drop, List.length_cons, List.length_nil, List.length_map, List.length_range, ints_length] <;> omega)) only [go_sem, hlu, (hvp.mono hf5).lens]
  refine iteW_dec (fun hlt => ?_) (fun hge => ?_)
  · simp (disch := first | omega | (simp only [List.length_set, List.length_replicate, List.length_append, List.length_take, List.length_drop, List.length_cons, List.length_nil, List.length_map, List.length_range, ints_length] <;> omega)) only [go_sem, bls_int1]
    obtain ⟨v6, h6, e6, a6⟩ := (ho.fr ((Fr.refl h5).new (.cells false (ints [0])))).app (bytes := 8) (n := (divF c (phiF n)).2.length + j) (m := 1) (us := ints [0]) (y := .sl h5.next 0 1 (.kn 1)) (by rw [H.next_new]; omega) (Own.new h5 1 1 0 (ints [0]) rfl (Nat.zero_le _)).sv (by rw [ints_length, List.length_append, List.length_replicate, Nat.mul_one]) rfl (by omega) (by omega)
    simp only [e6, go_sem]
    have ho6 := a6.own
    rw [← ints_append, List.append_assoc, show List.replicate j (0 : Int) ++ [0] = List.replicate (j + 1) 0 from List.replicate_succ'.symm] at ho6
    exact ⟨(phiF n).length - 1 - (divF c (phiF n)).2.length - (j + 1), by omega, j + 1, v6, ex_junk rfl, by omega, ho6, a6.fr hp1 (hf5.new _) (Nat.le_refl _), rfl⟩
  · simp (disch := first | omega | (simp only [List.length_set, List.length_replicate, List.length_append, List.length_take, List.length_drop, List.length_cons, List.length_nil, List.length_map, List.length_range, ints_length] <;> omega)) only [go_sem]
    have : j = (phiF n).length - 1 - (divF c (phiF n)).2.length := by omega
    subst this
    exact ⟨ho.le hn1, hf1.trans hf5⟩

theorem radd_ok (id : Nat) (cap : Cap) (l : List Int) (k x : Int) (h : H) (hg : h.get id = some (.cells false (ints l))) (h0 : 0 < l.length) (h1 : l.length < 1000000) :
    Ev T n_ref06_add [.sl id 0 l.length cap, .int .i64 k, .int .i64 x] h (fun _ h' => h' = h.set id (some (.cells false (ints (l.set (k % (l.length : Int)).toNat (W (l.getD (k % (l.length : Int)).toNat 0 + x))))))) := by
  refine Ev_of t_ref06_add rfl ?_
  simp (disch := first | omega | (simp only [List.length_set, List.length_replicate, List.length_append, List.length_take, List.length_drop, List.length_cons, List.length_nil, List.length_map, List.length_range, ints_length] <;> omega)) only [go_sem, c_ref06_add, initV_eq]
  refine (pick_ok k l.length h (by omega) (by omega)).mono ?_
  rintro v h' ⟨rfl, rfl⟩
  have hr0 := Int.emod_nonneg k (show (l.length : Int) ≠ 0 by omega)
  have hr1 := Int.emod_lt_of_pos k (show (0 : Int) < l.length by omega)
  obtain ⟨r, hr⟩ : ∃ r : Nat, k % (l.length : Int) = (r : Int) := ⟨(k % (l.length : Int)).toNat, by omega⟩
  rw [hr] at hr0 hr1 ⊢
  simp (disch := first | omega | (simp only [List.length_set, List.length_replicate, List.length_append, List.length_take, List.length_drop, List.length_cons, List.length_nil, List.length_map, List.length_range, ints_length] <;> omega)) only [go_sem, own_cell hg, hg]

theorem rover_ok (v : V) (l : List Int) (h : H) (hs : SI h v l) (hl : l.length < 1000000) : Ev T n_ref06_over [v] h (fun v h' => v = .bool (l.any overF) ∧ h' = h) := by
  refine Ev_of t_ref06_over rfl ?_
  obtain ⟨id, off, hsl, hid, hc⟩ := hs.open
  simp (disch := first | omega | (simp only [List.length_set, List.length_replicate, List.length_append, List.length_take, List.length_drop, List.length_cons, List.length_nil, List.length_map, List.length_range, ints_length] <;> omega)) only [go_sem, c_ref06_over, initV_eq]
  refine Wp_loop (fun k vars h1 => ∃ (j : Nat), (∃ g : Nat → V, vars = [v, g 1, .int .i64 (j : Int), g 3, g 4]) ∧ j ≤ l.length ∧ h1 = h ∧ (l.drop j).any overF = l.any overF ∧ k = l.length - j) l.length
    ⟨0, ex_junk rfl, Nat.zero_le _, rfl, rfl, rfl⟩ ?_
  rintro k vars h1 ⟨j, ⟨g, rfl⟩, hj, rfl, hany, rfl⟩
  simp (disch := first | omega | (simp only [List.length_set, List.length_replicate, List.length_append, List.length_take, List.length_drop, List.length_cons, List.length_nil, List.length_map, List.length_range, ints_length] <;> omega)) only [go_sem, hs.lens]
  refine iteW_dec (fun hlt => ?_) (fun hge => ?_)
  · rw [drop_getD l j (by omega), List.any_cons] at hany
    simp (disch := first | omega | (simp only [List.length_set, List.length_replicate, List.length_append, List.length_take, List.length_drop, List.length_cons, List.length_nil, List.length_map, List.length_range, ints_length] <;> omega)) only [go_sem, hsl.ixa, hc]
    by_cases h3 : l.getD j 0 < -10000000
    · rw [decide_eq_true h3]
      simp (disch := first | omega | (simp only [List.length_set, List.length_replicate, List.length_append, List.length_take, List.length_drop, List.length_cons, List.length_nil, List.length_map, List.length_range, ints_length] <;> omega)) only [go_sem]
      rw [← hany, overF, decide_eq_true h3]
      exact ⟨rfl, trivial⟩
    · rw [decide_eq_false h3]
      simp (disch := first | omega | (simp only [List.length_set, List.length_replicate, List.length_append, List.length_take, List.length_drop, List.length_cons, List.length_nil, List.length_map, List.length_range, ints_length] <;> omega)) only [go_sem, hsl.ixa, hc]
      refine iteW_dec (fun h4 => ?_) (fun h4 => ?_)
      · simp (disch := first | omega | (simp only [List.length_set, List.length_replicate, List.length_append, List.length_take, List.length_drop, List.length_cons, List.length_nil, List.length_map, List.length_range, ints_length] <;> omega)) only [go_sem]
        rw [← hany, overF, decide_eq_true h4, Bool.or_true]
        exact ⟨rfl, trivial⟩
      · simp (disch := first | omega | (simp only [List.length_set, List.length_replicate, List.length_append, List.length_take, List.length_drop, List.length_cons, List.length_nil, List.length_map, List.length_range, ints_length] <;> omega)) only [go_sem]
        rw [show (j : Int) + 1 = ((j + 1 : Nat) : Int) from by omega]
        refine ⟨l.length - (j + 1), by omega, j + 1, ex_junk rfl, by omega, ?_, rfl⟩
        rw [← hany, overF, decide_eq_false h3, decide_eq_false h4]
        rfl
  · simp (disch := first | omega | (simp only [List.length_set, List.length_replicate, List.length_append, List.length_take, List.length_drop, List.length_cons, List.length_nil, List.length_map, List.length_range, ints_length] <;> omega)) only [go_sem]
    have : j = l.length := by omega
    subst this
    rw [List.drop_length] at hany
    exact ⟨by rw [← hany]; rfl, trivial⟩
end
end Go.Proofs.Ythfabknpogbcaaa
