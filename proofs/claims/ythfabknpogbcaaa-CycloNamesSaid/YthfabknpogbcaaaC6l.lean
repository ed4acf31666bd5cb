/- Contracts: Add, Mul. -/
import Derived.Test.YthfabknpogbcaaaC6k
namespace Go.Proofs.Ythfabknpogbcaaa
open Go Go.Ay
set_option maxRecDepth 100000
noncomputable section

theorem bls_cyc2 (h : H) {N M : Int} {u w : V} (hu : u.one = true) (hw : w.one = true) : blsV h 2 [.int .i64 0, .nils] 2 [(0, 2, .agg [.int .i64 N, u]), (2, 2, .agg [.int .i64 M, w])] = some (.sl h.next 0 2 (.kn 2), h.new (.cells false [.int .i64 N, u, .int .i64 M, w])) := by
  have z : zerosV [V.int .i64 0, .nils] (2 * 2) = [.int .i64 0, .nils, .int .i64 0, .nils] := rfl
  have p1 : putAt [V.int .i64 0, .nils, .int .i64 0, .nils] 0 [.int .i64 N, u] = some [.int .i64 N, u, .int .i64 0, .nils] := by simp [putAt]
  have p2 : putAt [V.int .i64 N, u, .int .i64 0, .nils] 2 [.int .i64 M, w] = some [.int .i64 N, u, .int .i64 M, w] := by simp [putAt]
  have o1 : (V.int .i64 N).one = true := rfl
  have o2 : (V.int .i64 M).one = true := rfl
  simp only [blsV, z, fillV, V.cells, List.length_cons, List.length_nil, List.all_cons, List.all_nil, o1, o2, hu, hw, Bool.and_self, Nat.zero_add, Nat.reduceAdd, and_self, if_true, p1, p2]

def addF (a b : Int × List Int) : (Int × List Int) × Int :=
  if (commonF a b).2 ≠ 0 then ((0, []), (commonF a b).2) else
    madeF (commonF a b).1.toNat (accF (fun i => i * ((commonF a b).1.toNat / b.1.toNat)) (fun i => b.2.getD i 0)
      (accF (fun i => i * ((commonF a b).1.toNat / a.1.toNat)) (fun i => a.2.getD i 0) (List.replicate (commonF a b).1.toNat 0) a.2.length) b.2.length)
theorem common_range {a b : Int × List Int} (h : (commonF a b).2 = 0) : checkF a = 0 ∧ checkF b = 0 ∧ 1 ≤ (commonF a b).1 ∧ (commonF a b).1 ≤ 120 := by
  by_cases h1 : orF [checkF a, checkF b] = 0
  · obtain ⟨z1, z2⟩ := or_zero h1
    have g1 := check_range z1
    have g2 := check_range z2
    unfold commonF at h ⊢
    rw [if_neg (by omega)] at h ⊢
    split at h
    · cases h
    · rename_i h3
      rw [if_neg h3]
      refine ⟨z1, z2, ?_, by simp only; omega⟩
      simp only
      have hG : 1 ≤ Int.gcd a.1 b.1 := Nat.one_le_iff_ne_zero.2 (fun e => by rw [Int.gcd_eq_zero_iff] at e; omega)
      obtain ⟨t, ht⟩ := Int.gcd_dvd_left a.1 b.1
      have hq : a.1 / (Int.gcd a.1 b.1 : Int) = t := by
        rw [ht]
        rw [show Int.gcd ((Int.gcd a.1 b.1 : Int) * t) b.1 = Int.gcd a.1 b.1 by rw [← ht]]
        exact Int.mul_ediv_cancel_left _ (by omega)
      rw [hq]
      have ht1 : 1 ≤ t := by
        rcases Int.lt_or_le 0 t with h | h
        · omega
        · have : (Int.gcd a.1 b.1 : Int) * t ≤ 0 := Int.mul_nonpos_of_nonneg_of_nonpos (by omega) h
          omega
      have := Int.mul_le_mul ht1 g2.1 (by omega) (by omega)
      omega
  · unfold commonF at h
    rw [if_pos h1] at h
    exact absurd h h1

theorem idx_lt {i n N : Nat} (hi : i < N) (hn : 1 ≤ n) : i * (n / N) < n := by
  rcases Nat.eq_zero_or_pos (n / N) with h | h
  · rw [h]; omega
  · have h1 : i * (n / N) < N * (n / N) := Nat.mul_lt_mul_of_pos_right hi h
    have h2 : N * (n / N) ≤ n := Nat.mul_div_le n N
    omega

set_option maxHeartbeats 1000000 in
theorem add_ok (va vb : V) (a b : Int × List Int) (h : H) (ha : CycV h va a) (hb : CycV h vb b) (hla : a.2.length < 1000000) (hlb : b.2.length < 1000000) :
    Ev T n_cyclo_Add [va, vb] h (fun v h' => ∃ w, v = .tup [w, .int .i64 (addF a b).2] ∧ CycO h' w (addF a b).1 h.next ∧ Fr h h') := by
  obtain ⟨u, rfl, hu⟩ := ha
  obtain ⟨w, rfl, hw⟩ := hb
  obtain ⟨N, A⟩ := a
  obtain ⟨M, B⟩ := b
  simp only at hu hw hla hlb
  refine Ev_of t_cyclo_Add rfl ?_
  simp (disch := first | omega | (simp only [List.length_set, List.length_replicate, List.length_append, List.length_take, List.length_drop, List.length_cons, List.length_nil, List.length_map, List.length_range, ints_length] <;> omega)) only [go_sem, c_cyclo_Add, initV_eq, boxV_agg2 h (v := .int .i64 N) rfl hu.what.2.1]
  have hfx : Fr h (h.new (.cells false [.int .i64 N, u])) := (Fr.refl h).new _
  have hgx : (h.new (.cells false [.int .i64 N, u])).get h.next = some (.cells false [.int .i64 N, u]) := H.get_new_same ..
  have hnx : (h.new (.cells false [.int .i64 N, u])).next = h.next + 1 := H.next_new ..
  generalize h.new (.cells false [.int .i64 N, u]) = hx at *
  simp (disch := first | omega | (simp only [List.length_set, List.length_replicate, List.length_append, List.length_take, List.length_drop, List.length_cons, List.length_nil, List.length_map, List.length_range, ints_length] <;> omega)) only [go_sem, boxV_agg2 hx (v := .int .i64 M) rfl hw.what.2.1]
  have hfy : Fr hx (hx.new (.cells false [.int .i64 M, w])) := (Fr.refl hx).new _
  have hgy : (hx.new (.cells false [.int .i64 M, w])).get hx.next = some (.cells false [.int .i64 M, w]) := H.get_new_same ..
  have hny : (hx.new (.cells false [.int .i64 M, w])).next = hx.next + 1 := H.next_new ..
  generalize hx.new (.cells false [.int .i64 M, w]) = hy at *
  rw [← hny]
  have hfa : Fr hy (hy.new (.cells false [.int .i64 0, .nils])) := (Fr.refl hy).new _
  have hga : (hy.new (.cells false [.int .i64 0, .nils])).get hy.next = some (.cells false [.int .i64 0, .nils]) := H.get_new_same ..
  have hna : (hy.new (.cells false [.int .i64 0, .nils])).next = hy.next + 1 := H.next_new ..
  have hst2 := fun hh => stV_agg2 hh hy.next 0 (v := .int .i64 0) (u := .nils) rfl rfl
  generalize hy.new (.cells false [.int .i64 0, .nils]) = ha at *
  have hgya := (hfa.get hx.next (by omega)).trans hgy
  have hgxa := (hfa.get h.next (by omega)).trans ((hfy.get h.next (by omega)).trans hgx)
  have hfh := (hfx.trans hfy).trans hfa
  simp (disch := first | omega | (simp only [List.length_set, List.length_replicate, List.length_append, List.length_take, List.length_drop, List.length_cons, List.length_nil, List.length_map, List.length_range, ints_length] <;> omega)) only [go_sem, row_two hgxa, row_two hgya]
  refine (common_ok _ _ (N, A) (M, B) ha ⟨u, rfl, hu.mono hfh⟩ ⟨w, rfl, hw.mono hfh⟩ hla hlb).mono ?_
  rintro v1 hb ⟨rfl, hfb⟩
  have hnb := hfb.next
  have hgb := (hfb.get hy.next (by omega)).trans hga
  have hgxb := (hfb.get h.next (by omega)).trans hgxa
  have hgyb := (hfb.get hx.next (by omega)).trans hgya
  have hrow0 := row_two (h := hb.set hy.next (some (.cells false [.int .i64 0, .nils]))) (H.get_set_same ..)
  have hF : Fr h hb := hfh.trans hfb
  have hzero : Fr h (hb.set hy.next (some (.cells false [.int .i64 0, .nils]))) := hF.set (by omega) _
  simp (disch := first | omega | (simp only [List.length_set, List.length_replicate, List.length_append, List.length_take, List.length_drop, List.length_cons, List.length_nil, List.length_map, List.length_range, ints_length] <;> omega)) only [go_sem]
  refine iteW_dec (fun h1 => ?_) (fun h1 => ?_)
  · simp (disch := first | omega | (simp only [List.length_set, List.length_replicate, List.length_append, List.length_take, List.length_drop, List.length_cons, List.length_nil, List.length_map, List.length_range, ints_length] <;> omega)) only [go_sem, hst2, hgb, hrow0]
    rw [addF, if_pos h1]
    exact ⟨_, rfl, CycO.zero _ _, hzero⟩
  rw [addF, if_neg h1]
  obtain ⟨r1, r2, r3, r4⟩ := common_range (show (commonF (N, A) (M, B)).2 = 0 by omega)
  have g1 := check_range r1
  have g2 := check_range r2
  simp only at g1 g2
  obtain ⟨n, hn⟩ : ∃ n : Nat, (commonF (N, A) (M, B)).1 = (n : Int) := ⟨(commonF (N, A) (M, B)).1.toNat, by omega⟩
  rw [hn] at r3 r4 ⊢
  obtain ⟨N, rfl⟩ : ∃ N' : Nat, N = (N' : Int) := ⟨N.toNat, by omega⟩
  obtain ⟨M, rfl⟩ : ∃ M' : Nat, M = (M' : Int) := ⟨M.toNat, by omega⟩
  simp only [Int.toNat_natCast] at g1 g2 ⊢
  clear hn h1 r1 r2
  have hpN := phi_len (n := N) (by omega) (by omega)
  have hpM := phi_len (n := M) (by omega) (by omega)
  simp (disch := first | omega | (simp only [List.length_set, List.length_replicate, List.length_append, List.length_take, List.length_drop, List.length_cons, List.length_nil, List.length_map, List.length_range, ints_length] <;> omega)) only [go_sem]
  have hf5 : Fr hb (hb.new (.cells false (ints (List.replicate n 0)))) := (Fr.refl hb).new _
  have hg5 : (hb.new (.cells false (ints (List.replicate n 0)))).get hb.next = some (.cells false (ints (List.replicate n 0))) := H.get_new_same ..
  have hn5 : (hb.new (.cells false (ints (List.replicate n 0)))).next = hb.next + 1 := H.next_new ..
  generalize hb.new (.cells false (ints (List.replicate n 0))) = h5 at *
  have hgx5 := (hf5.get h.next (by omega)).trans hgxb
  have hgy5 := (hf5.get hx.next (by omega)).trans hgyb
  simp (disch := first | omega | (simp only [List.length_set, List.length_replicate, List.length_append, List.length_take, List.length_drop, List.length_cons, List.length_nil, List.length_map, List.length_range, ints_length] <;> omega)) only [go_sem, row_two hgx5, row_two hgy5, bls_cyc2 h5 (N := (N : Int)) (M := (M : Int)) hu.what.2.1 hw.what.2.1]
  have hf6 : Fr h5 (h5.new (.cells false [.int .i64 (N : Int), u, .int .i64 (M : Int), w])) := (Fr.refl h5).new _
  have hg6 : (h5.new (.cells false [.int .i64 (N : Int), u, .int .i64 (M : Int), w])).get h5.next = some (.cells false [.int .i64 (N : Int), u, .int .i64 (M : Int), w]) := H.get_new_same ..
  have hn6 : (h5.new (.cells false [.int .i64 (N : Int), u, .int .i64 (M : Int), w])).next = h5.next + 1 := H.next_new ..
  generalize h5.new (.cells false [.int .i64 (N : Int), u, .int .i64 (M : Int), w]) = h6 at *
  obtain ⟨Nf, hNf⟩ : ∃ Nf : Nat → Nat, Nf = fun t => if t = 0 then N else M := ⟨_, rfl⟩
  obtain ⟨Cf, hCf⟩ : ∃ Cf : Nat → List Int, Cf = fun t => if t = 0 then A else B := ⟨_, rfl⟩
  obtain ⟨Uf, hUf⟩ : ∃ Uf : Nat → V, Uf = fun t => if t = 0 then u else w := ⟨_, rfl⟩
  obtain ⟨Sq, hSq⟩ : ∃ Sq : Nat → List Int, Sq = fun t => if t = 0 then List.replicate n 0 else if t = 1 then accF (fun i => i * (n / N)) (fun i => A.getD i 0) (List.replicate n 0) A.length else accF (fun i => i * (n / M)) (fun i => B.getD i 0) (accF (fun i => i * (n / N)) (fun i => A.getD i 0) (List.replicate n 0) A.length) B.length := ⟨_, rfl⟩
  have two : ∀ t, t < 2 → t = 0 ∨ t = 1 := fun t ht => by omega
  have k1 : ∀ t, t < 2 → 1 ≤ Nf t ∧ Nf t ≤ 120 ∧ (Cf t).length ≤ Nf t := fun t ht => by rcases two t ht with rfl | rfl <;> simp [hNf, hCf] <;> omega
  have k2 : ∀ t, t < 2 → SI h (Uf t) (Cf t) := fun t ht => by rcases two t ht with rfl | rfl <;> simp [hUf, hCf] <;> assumption
  have k3 : ∀ t, t < 2 → Sq (t + 1) = accF (fun i => i * (n / Nf t)) (fun i => (Cf t).getD i 0) (Sq t) (Cf t).length := fun t ht => by rcases two t ht with rfl | rfl <;> simp [hNf, hCf, hSq]
  have k4 : ∀ t, t < 2 → ∀ hh : H, hh.get h5.next = some (.cells false [.int .i64 (N : Int), u, .int .i64 (M : Int), w]) → hh.row h5.next (t * 2) 2 = some [.int .i64 (Nf t : Int), Uf t] := fun t ht hh hg => by rcases two t ht with rfl | rfl <;> simp [hNf, hUf, H.row, hg, sub]
  have k5 : Sq 0 = List.replicate n 0 := by simp [hSq]
  have k6 : Sq 2 = accF (fun i => i * (n / M)) (fun i => B.getD i 0) (accF (fun i => i * (n / N)) (fun i => A.getD i 0) (List.replicate n 0) A.length) B.length := by simp [hSq]
  have k7 : ∀ t, (Sq t).length = n := fun t => by simp only [hSq]; split <;> (try split) <;> simp [accF_len]
  rw [← k6]
  clear hNf hCf hUf hSq k6 two
  have hgl := hg6
  refine Wp_loop (fun k' vars h7 => ∃ (t : Nat), (∃ g : Nat → V, vars = [g 0, g 1, .ptr h.next 0, .ptr hx.next 0, .ptr hy.next 0, g 5, .int .i64 (n : Int), g 7, .sl hb.next 0 n (.kn n), g 9, g 10, g 11, g 12, .sl h5.next 0 2 (.kn 2), .int .i64 (2 : Nat), .int .i64 (t : Int), g 16, g 17, g 18, g 19, g 20]) ∧ t ≤ 2 ∧
    h7.get hb.next = some (.cells false (ints (Sq t))) ∧ h7.get h5.next = some (.cells false [.int .i64 (N : Int), u, .int .i64 (M : Int), w]) ∧ Fr hb h7 ∧ h5.next < h7.next ∧ k' = 2 - t) 2
    ⟨0, ex_junk rfl, by omega, by rw [k5, hf6.get _ (by omega)]; exact hg5, hg6, hf5.trans hf6, by omega, rfl⟩ ?_
  rintro k' vars h7 ⟨t, ⟨g, rfl⟩, ht, hg7, hl7, hf7, hn7, rfl⟩
  simp (disch := first | omega | (simp only [List.length_set, List.length_replicate, List.length_append, List.length_take, List.length_drop, List.length_cons, List.length_nil, List.length_map, List.length_range, ints_length] <;> omega)) only [go_sem]
  refine iteW_dec (fun hlt => ?_) (fun hge => ?_)
  · obtain ⟨q1, q2, q3⟩ := k1 t (by omega)
    have hs7 := k2 t (by omega)
    have hstq := fun hh id => stV_agg2 hh id 0 (v := .int .i64 (Nf t : Int)) (u := Uf t) rfl hs7.what.2.1
    simp (disch := first | omega | (simp only [List.length_set, List.length_replicate, List.length_append, List.length_take, List.length_drop, List.length_cons, List.length_nil, List.length_map, List.length_range, ints_length] <;> omega)) only [go_sem, k4 t (by omega) h7 hl7, hstq]
    have hf8 : Fr h7 ((h7.new (.cells false [.int .i64 0, .nils])).set h7.next (some (.cells false [.int .i64 (Nf t : Int), Uf t]))) := ((Fr.refl h7).new _).set (Nat.le_refl _) _
    have hg8 : ((h7.new (.cells false [.int .i64 0, .nils])).set h7.next (some (.cells false [.int .i64 (Nf t : Int), Uf t]))).get h7.next = some (.cells false [.int .i64 (Nf t : Int), Uf t]) := H.get_set_same ..
    have hn8 : ((h7.new (.cells false [.int .i64 0, .nils])).set h7.next (some (.cells false [.int .i64 (Nf t : Int), Uf t]))).next = h7.next + 1 := by rw [H.next_set, H.next_new]
    generalize (h7.new (.cells false [.int .i64 0, .nils])).set h7.next (some (.cells false [.int .i64 (Nf t : Int), Uf t])) = h8 at *
    simp (disch := first | omega | (simp only [List.length_set, List.length_replicate, List.length_append, List.length_take, List.length_drop, List.length_cons, List.length_nil, List.length_map, List.length_range, ints_length] <;> omega)) only [go_sem, hs7.lens]
    obtain ⟨cid, coff, hcs, hcid, hcc⟩ := hs7.open
    have hFb : Fr h h8 := (hF.trans hf7).trans hf8
    have hg87 := (hf8.get hb.next (by omega)).trans hg7
    have hl87 := (hf8.get h5.next (by omega)).trans hl7
    have k3t := k3 t (by omega)
    generalize Nf t = Nt at *
    generalize Cf t = Ct at *
    generalize Uf t = Ut at *
    have hSl := k7 t
    generalize Sq t = St at *
    refine Wp_loop (fun k' vars h9 => ∃ (j : Nat), (∃ g : Nat → V, vars = [g 0, g 1, .ptr h.next 0, .ptr hx.next 0, .ptr hy.next 0, g 5, .int .i64 (n : Int), g 7, .sl hb.next 0 n (.kn n), .ptr h7.next 0, g 10, g 11, g 12, .sl h5.next 0 2 (.kn 2), .int .i64 (2 : Nat), .int .i64 (t : Int), g 16, Ut, .int .i64 (Ct.length : Int), .int .i64 (j : Int), g 20]) ∧ j ≤ Ct.length ∧
      h9.get hb.next = some (.cells false (ints (accF (fun i => i * (n / Nt)) (fun i => Ct.getD i 0) St j))) ∧ h9.get h5.next = some (.cells false [.int .i64 (N : Int), u, .int .i64 (M : Int), w]) ∧ h9.get h7.next = some (.cells false [.int .i64 (Nt : Int), Ut]) ∧ Fr hb h9 ∧ h7.next < h9.next ∧ k' = Ct.length - j) Ct.length
      ⟨0, ex_junk rfl, Nat.zero_le _, hg87, hl87, hg8, hf7.trans hf8, by omega, rfl⟩ ?_
    rintro k' vars h9 ⟨j, ⟨g, rfl⟩, hj, hg9, hl9, hb9, hf9, hn9, rfl⟩
    have hal := accF_len (fun i => i * (n / Nt)) (fun i => Ct.getD i 0) St j
    simp (disch := first | omega | (simp only [List.length_set, List.length_replicate, List.length_append, List.length_take, List.length_drop, List.length_cons, List.length_nil, List.length_map, List.length_range, ints_length] <;> omega)) only [go_sem]
    by_cases hjc : (j : Int) < (Ct.length : Int)
    · rw [decide_eq_true hjc]
      have hcc9 := cells_fr (hF.trans hf9) hcid hcc
      have hjm : j * (n / Nt) < n := idx_lt (by omega) (by omega)
      have hdm : n / Nt ≤ n := Nat.div_le_self ..
      have em : (n : Int).tdiv (Nt : Int) = ((n / Nt : Nat) : Int) := rfl
      have em0 : (j : Int) * ((n / Nt : Nat) : Int) = ((j * (n / Nt) : Nat) : Int) := (Int.natCast_mul ..).symm
      have hstep : accF (fun i => i * (n / Nt)) (fun i => Ct.getD i 0) St (j + 1) = (accF (fun i => i * (n / Nt)) (fun i => Ct.getD i 0) St j).set (j * (n / Nt)) (W ((accF (fun i => i * (n / Nt)) (fun i => Ct.getD i 0) St j).getD (j * (n / Nt)) 0 + Ct.getD j 0)) := rfl
      generalize j * (n / Nt) = z at hjm em0 hstep
      generalize n / Nt = y at *
      have f0 : h9.cell h7.next 0 = some (.int .i64 (Nt : Int)) := by rw [H.cell_of hb9]; rfl
      simp (disch := first | omega | (simp only [List.length_set, List.length_replicate, List.length_append, List.length_take, List.length_drop, List.length_cons, List.length_nil, List.length_map, List.length_range, ints_length] <;> omega)) only [go_sem, hcs.ixa, hcc9, f0, em, em0, own_cell hg9, hg9]
      rw [show (j : Int) + 1 = ((j + 1 : Nat) : Int) from by omega]
      refine ⟨Ct.length - (j + 1), by omega, j + 1, ex_junk rfl, by omega, by rw [hstep], hl9, hb9, ?_, by omega, rfl⟩
      exact hf9.set (Nat.le_refl _) _
    · rw [decide_eq_false hjc]
      have : Ct.length = j := by omega
      subst this
      simp (disch := first | omega | (simp only [List.length_set, List.length_replicate, List.length_append, List.length_take, List.length_drop, List.length_cons, List.length_nil, List.length_map, List.length_range, ints_length] <;> omega)) only [go_sem]
      rw [show (t : Int) + 1 = ((t + 1 : Nat) : Int) from by omega]
      exact ⟨2 - (t + 1), by omega, t + 1, ex_junk rfl, by omega, by rw [k3t]; exact hg9, hl9, hf9, by omega, rfl⟩
  · have : t = 2 := by omega
    subst this
    simp (disch := first | omega | (simp only [List.length_set, List.length_replicate, List.length_append, List.length_take, List.length_drop, List.length_cons, List.length_nil, List.length_map, List.length_range, ints_length] <;> omega)) only [go_sem]
    have hsi : SI h7 (.sl hb.next 0 n (.kn n)) (Sq 2) := by
      have := SI.own (h := h7) (id := hb.next) (by omega) hg7 (.kn n)
      rw [k7] at this; exact this
    refine (made_ok n _ _ h7 (by omega) (by omega) hsi (by rw [k7]; omega)).mono ?_
    rintro v8 h8 ⟨w', rfl, hcy, hf8⟩
    generalize madeF n _ = M at *
    have hf48 : Fr hb h8 := hf7.trans hf8
    have hg8 := (hf48.get hy.next (by omega)).trans hgb
    obtain ⟨u', rfl, hu', hfu⟩ := hcy
    have hst3 := fun hh => stV_agg2 hh hy.next 0 (v := .int .i64 M.1.1) (u := u') rfl hu'.what.2.1
    have hrow := row_two (h := h8.set hy.next (some (.cells false [.int .i64 M.1.1, u']))) (H.get_set_same ..)
    simp (disch := first | omega | (simp only [List.length_set, List.length_replicate, List.length_append, List.length_take, List.length_drop, List.length_cons, List.length_nil, List.length_map, List.length_range, ints_length] <;> omega)) only [go_sem, hst3, hg8, hrow]
    exact ⟨_, rfl, (CycO.set ⟨u', rfl, hu', hfu⟩ (by omega) _).le (by omega), (hF.trans hf48).set (by omega) _⟩
end
end Go.Proofs.Ythfabknpogbcaaa
