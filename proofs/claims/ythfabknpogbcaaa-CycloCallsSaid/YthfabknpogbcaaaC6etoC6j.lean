/- Contracts: with n/q in place of n. Contracts: the primes that divide a number, one after another. Contracts: the canonical form. Contracts: made, Check. Contracts: Check, Phi, Make, Root, Int. Contracts: Root, Int, the common order. -/
import Derived.Test.YthfabknpogbcaaaC6s0toC6d
/- Contracts: with n/q in place of n. -/
namespace Go.Proofs.Ythfabknpogbcaaa
open Go Go.Ay
set_option maxRecDepth 100000

theorem parts_step (P m q k : Nat) (hk : k < q) : ((List.range k).map (fun e => V.sl (P + 1 + e) 0 m (.kn m)) ++ List.replicate (q - k) V.nils).set k (.sl (P + 1 + k) 0 m (.kn m)) = (List.range (k + 1)).map (fun e => V.sl (P + 1 + e) 0 m (.kn m)) ++ List.replicate (q - (k + 1)) V.nils := by
  rw [List.set_append_right _ _ (by simp), List.range_succ, List.map_append, List.append_assoc]
  congr 1
  obtain ⟨j, hj⟩ : ∃ j, q - k = j + 1 := ⟨q - k - 1, by omega⟩
  rw [hj, show q - (k + 1) = j by omega]
  simp [List.replicate_succ]

set_option maxHeartbeats 2000000 in
theorem lower_ok (tid mid b n q : Nat) (vc : V) (c : List Int) (h : H) (ok : LowOk n q) (hb : b ≤ h.next) (ht : Tb h tid mid b) (hc : SI h vc c) (hl : c.length ≤ n) :
    Ev T n_cyclo_table_lower [.ptr tid 0, .int .i64 (n : Int), .int .i64 (q : Int), vc] h (fun v h' => Tb h' tid mid b ∧ FrM mid h h' ∧ ∃ u t, v = .tup [u, .bool t] ∧ (match lowerF n q c with | some d => t = true ∧ SI h' u d ∧ (∀ id off n c, u = .sl id off n c → h.next ≤ id) | none => t = false)) := by
  refine Ev_of t_cyclo_table_lower rfl ?_
  obtain ⟨hn1, hn2, hq2, hdvd, hia, hib⟩ := ok
  obtain ⟨m, hm⟩ : ∃ m, n / q = m := ⟨_, rfl⟩
  have hqn : q ≤ n := by
    rcases Nat.eq_zero_or_pos m with h0 | h0
    · rw [hm, h0] at hdvd; omega
    · have : 1 * q ≤ m * q := Nat.mul_le_mul_right q h0
      rw [hm] at hdvd; omega
  have hm1 : 1 ≤ m := by
    rcases Nat.eq_zero_or_pos m with h0 | h0
    · rw [hm, h0] at hdvd; omega
    · exact h0
  have hmn : m ≤ n := by rw [← hm]; exact Nat.div_le_self n q
  have e1 : (n : Int).tdiv (q : Int) = (m : Int) := by rw [← hm]; rfl
  simp (disch := first | omega | (simp only [List.length_set, List.length_replicate, List.length_append, List.length_take, List.length_drop, List.length_cons, List.length_nil, List.length_map, List.length_range, ints_length] <;> omega)) only [go_sem, c_cyclo_table_lower, initV_eq, e1, zeros_one]
  obtain ⟨P, hP⟩ : ∃ P, h.next = P := ⟨_, rfl⟩
  rw [hP]
  refine Wp_loop (fun k' vars h2 => ∃ (k : Nat), (∃ g : Nat → V, vars = [.ptr tid 0, .int .i64 (n : Int), .int .i64 (q : Int), vc, .nils, .bool false, .int .i64 (m : Int), .sl P 0 q (.kn q), g 8, g 9, g 10, g 11, g 12, g 13, g 14, g 15, g 16, g 17, g 18, g 19, .int .i64 (q : Int), .int .i64 (k : Int), g 22, g 23, g 24, g 25, g 26, g 27, g 28, g 29, g 30, g 31, g 32, g 33, g 34, g 35, g 36, g 37, g 38, g 39, g 40, g 41, g 42, g 43, g 44, g 45, g 46, g 47, g 48]) ∧ k ≤ q ∧
      h2.get P = some (.cells false ((List.range k).map (fun e => V.sl (P + 1 + e) 0 m (.kn m)) ++ List.replicate (q - k) V.nils)) ∧ (∀ e, e < k → h2.get (P + 1 + e) = some (.cells false (ints (List.replicate m 0)))) ∧ h2.next = P + 1 + k ∧ Fr h h2 ∧ k' = q - k) q
    ⟨0, ex_junk rfl, Nat.zero_le _, ?_, fun e he => by omega, ?_, (Fr.refl h).new _, rfl⟩ ?_
  · rw [← hP, H.get_new_same]; rfl
  · rw [H.next_new]; omega
  rintro k' vars h2 ⟨k, ⟨g, rfl⟩, hk, hg, hr, hnx, hf2, rfl⟩
  simp (disch := first | omega | (simp only [List.length_set, List.length_replicate, List.length_append, List.length_take, List.length_drop, List.length_cons, List.length_nil, List.length_map, List.length_range, ints_length] <;> omega)) only [go_sem]
  by_cases hkq : (k : Int) < (q : Int)
  · rw [decide_eq_true hkq]
    have hlen : k < ((List.range k).map (fun e => V.sl (P + 1 + e) 0 m (.kn m)) ++ List.replicate (q - k) V.nils).length := by
      rw [List.length_append, List.length_map, List.length_range, List.length_replicate]; omega
    simp (disch := first | omega | (simp only [List.length_set, List.length_replicate, List.length_append, List.length_take, List.length_drop, List.length_cons, List.length_nil, List.length_map, List.length_range, ints_length] <;> omega)) only [go_sem, hg, Int.toNat_natCast, hnx]
    rw [show (k : Int) + 1 = ((k + 1 : Nat) : Int) from by omega]
    refine ⟨q - (k + 1), by omega, k + 1, ex_junk rfl, by omega, by rw [parts_step P m q k (by omega)], fun e he => ?_, by omega, (hf2.new _).set (by omega) _, rfl⟩
    by_cases hek : e = k
    · rw [hek, ← hnx, H.get_new_same]
    · rw [H.get_new_ne _ (by omega)]; exact hr e (by omega)
  · rw [decide_eq_false hkq]
    have : q = k := by omega
    subst this
    have hgrid : Grid h2 P m (gA q m c 0) := by
      have hlen : (gA q m c 0).length = q := List.length_replicate
      have hrow : ∀ e, e < q → (gA q m c 0).getD e [] = List.replicate m 0 := fun e he => by
        rw [gA, List.getD_eq_getElem?_getD, List.getElem?_replicate, if_pos he]; rfl
      refine ⟨?_, fun e he => ?_, fun e he => ?_, ?_⟩
      · rw [hg, hlen, Nat.sub_self, List.replicate_zero, List.append_nil]
      · rw [hlen] at he; rw [hrow e he]; exact hr e he
      · rw [hlen] at he; rw [hrow e he]; exact List.length_replicate
      · rw [hlen]; omega
    clear hg hr hkq hk
    obtain ⟨cid, coff, hcs, hcid, hcc⟩ := hc.open
    have emq : (m : Int).tmod (q : Int) = ((m % q : Nat) : Int) := tmod_nat ..
    have hmp : P ≤ mid ∨ mid < P := by omega
    simp (disch := first | omega | (simp only [List.length_set, List.length_replicate, List.length_append, List.length_take, List.length_drop, List.length_cons, List.length_nil, List.length_map, List.length_range, ints_length] <;> omega)) only [go_sem, emq]
    by_cases hz : m % q = 0
    · rw [iteW_pos (by omega)]
      simp (disch := first | omega | (simp only [List.length_set, List.length_replicate, List.length_append, List.length_take, List.length_drop, List.length_cons, List.length_nil, List.length_map, List.length_range, ints_length] <;> omega)) only [go_sem, hc.lens]
      refine Wp_loop (fun k' vars h3 => ∃ (k : Nat), (∃ g : Nat → V, vars = [.ptr tid 0, .int .i64 (n : Int), .int .i64 (q : Int), vc, .nils, .bool false, .int .i64 (m : Int), .sl P 0 q (.kn q), g 8, g 9, g 10, g 11, g 12, g 13, g 14, g 15, g 16, g 17, g 18, g 19, g 20, g 21, g 22, g 23, vc, .int .i64 (c.length : Int), .int .i64 (k : Int), g 27, g 28, g 29, g 30, g 31, g 32, g 33, g 34, g 35, g 36, g 37, g 38, g 39, g 40, g 41, g 42, g 43, g 44, g 45, g 46, g 47, g 48]) ∧ k ≤ c.length ∧
        Grid h3 P m (gA q m c k) ∧ Fr h h3 ∧ k' = c.length - k) c.length
        ⟨0, ex_junk rfl, Nat.zero_le _, hgrid, hf2, rfl⟩ ?_
      rintro k' vars h3 ⟨k, ⟨g, rfl⟩, hk, hg3, hf3, rfl⟩
      have hsh := gA_shape q m c k
      simp (disch := first | omega | (simp only [List.length_set, List.length_replicate, List.length_append, List.length_take, List.length_drop, List.length_cons, List.length_nil, List.length_map, List.length_range, ints_length] <;> omega)) only [go_sem]
      by_cases hkc : (k : Int) < (c.length : Int)
      · rw [decide_eq_true hkc]
        have hcc3 := cells_fr hf3 hcid hcc
        have h5 : k % q < q := Nat.mod_lt _ (by omega)
        have h6 : k / q < m := by
          have : k < m * q := by rw [← hm, hdvd]; omega
          exact (Nat.div_lt_iff_lt_mul (by omega)).2 this
        have e2 : (k : Int).tmod (q : Int) = ((k % q : Nat) : Int) := tmod_nat ..
        have e3 : (k : Int).tdiv (q : Int) = ((k / q : Nat) : Int) := rfl
        have hstep : gA q m c (k + 1) = (gA q m c k).set (k % q) (((gA q m c k).getD (k % q) []).set (k / q) (c.getD k 0)) := rfl
        generalize k % q = r at h5 e2 hstep
        generalize k / q = u at h6 e3 hstep
        have hrl := hg3.rl r (by omega)
        simp (disch := first | omega | (simp only [List.length_set, List.length_replicate, List.length_append, List.length_take, List.length_drop, List.length_cons, List.length_nil, List.length_map, List.length_range, ints_length] <;> omega)) only [go_sem, hcs.ixa, hcc3, Int.toNat_natCast, e2, e3, hg3.cell (e := r) (by omega), hg3.rg r (by omega)]
        rw [show (k : Int) + 1 = ((k + 1 : Nat) : Int) from by omega]
        refine ⟨c.length - (k + 1), by omega, k + 1, ex_junk rfl, by omega, ?_, (hf3.bump (by omega)).set (by omega) _, rfl⟩
        rw [hstep]
        exact (hg3.fr ((Fr.refl h3).bump (by omega))).set (by omega) _
      · rw [decide_eq_false hkc]
        have : c.length = k := by omega
        subst this
        clear hkc hk
        simp (disch := first | omega | (simp only [List.length_set, List.length_replicate, List.length_append, List.length_take, List.length_drop, List.length_cons, List.length_nil, List.length_map, List.length_range, ints_length] <;> omega)) only [go_sem]
        have esl : slcV 1 (.sl P 0 q (.kn q)) (some (.int .i64 1)) none none = some (.sl P 1 (q - 1) (.kn (q - 1))) := by
          simp only [slcV, bndV]
          rw [if_pos (by omega)]
          simp only
          rw [if_pos (by omega), if_neg (by omega)]
          rfl
        simp (disch := first | omega | (simp only [List.length_set, List.length_replicate, List.length_append, List.length_take, List.length_drop, List.length_cons, List.length_nil, List.length_map, List.length_range, ints_length] <;> omega)) only [go_sem, esl]
        refine Wp_loop (fun k' vars h4 => ∃ (k : Nat), (∃ g : Nat → V, vars = [.ptr tid 0, .int .i64 (n : Int), .int .i64 (q : Int), vc, .nils, .bool false, .int .i64 (m : Int), .sl P 0 q (.kn q), g 8, g 9, g 10, g 11, g 12, g 13, g 14, g 15, g 16, g 17, g 18, g 19, g 20, g 21, g 22, g 23, g 24, g 25, g 26, g 27, .sl P 1 (q - 1) (.kn (q - 1)), .int .i64 ((q - 1 : Nat) : Int), .int .i64 (k : Int), g 31, g 32, g 33, g 34, g 35, g 36, g 37, g 38, g 39, g 40, g 41, g 42, g 43, g 44, g 45, g 46, g 47, g 48]) ∧ k + 1 ≤ q ∧
          Grid h4 P m (gA q m c c.length) ∧ Fr h h4 ∧ (∀ e, 1 ≤ e → e ≤ k → ((gA q m c c.length).getD e []).any nz = false) ∧ k' = q - k) q
          ⟨0, ex_junk rfl, by omega, hg3, hf3, fun e h1 h2 => by omega, rfl⟩ ?_
        rintro k' vars h4 ⟨k, ⟨g, rfl⟩, hk, hg4, hf4, hall, rfl⟩
        simp (disch := first | omega | (simp only [List.length_set, List.length_replicate, List.length_append, List.length_take, List.length_drop, List.length_cons, List.length_nil, List.length_map, List.length_range, ints_length] <;> omega)) only [go_sem]
        refine iteW_dec (fun hlt => ?_) (fun hge => ?_)
        · have hk1 : k + 1 < (gA q m c c.length).length := by rw [hsh.1]; omega
          simp (disch := first | omega | (simp only [List.length_set, List.length_replicate, List.length_append, List.length_take, List.length_drop, List.length_cons, List.length_nil, List.length_map, List.length_range, ints_length] <;> omega)) only [go_sem, Int.toNat_natCast, Nat.add_comm 1 k, hg4.cell hk1]
          refine (contains_ok _ _ _ _ _ (hg4.si hk1) (by rw [hg4.rl _ hk1]; omega) test_nz).mono ?_
          rintro v1 h1' ⟨rfl, rfl⟩
          simp (disch := first | omega | (simp only [List.length_set, List.length_replicate, List.length_append, List.length_take, List.length_drop, List.length_cons, List.length_nil, List.length_map, List.length_range, ints_length] <;> omega)) only [go_sem]
          refine iteW_bool (fun hp => ?_) (fun hp => ?_)
          · simp (disch := first | omega | (simp only [List.length_set, List.length_replicate, List.length_append, List.length_take, List.length_drop, List.length_cons, List.length_nil, List.length_map, List.length_range, ints_length] <;> omega)) only [go_sem]
            have hlow : lowerF n q c = none := by
              simp only [lowerF, hm]
              rw [if_pos hz, lowA, if_pos]
              rw [List.any_eq_true]
              refine ⟨(gA q m c c.length).getD (k + 1) [], ?_, hp⟩
              rw [List.getD_eq_getElem?_getD, List.getElem?_eq_getElem hk1, Option.getD_some]
              rw [List.mem_iff_getElem]
              exact ⟨k, by rw [List.length_drop]; omega, by rw [List.getElem_drop]; congr 1; omega⟩
            rw [hlow]
            exact ⟨ht.fr hf4, hf4.toM mid, _, _, rfl, rfl⟩
          · simp (disch := first | omega | (simp only [List.length_set, List.length_replicate, List.length_append, List.length_take, List.length_drop, List.length_cons, List.length_nil, List.length_map, List.length_range, ints_length] <;> omega)) only [go_sem]
            rw [show (k : Int) + 1 = ((k + 1 : Nat) : Int) from by omega]
            refine ⟨q - (k + 1), by omega, k + 1, ex_junk rfl, by omega, hg4, hf4, fun e h1 h2 => ?_, rfl⟩
            by_cases hek : e = k + 1
            · rw [hek]; exact hp
            · exact hall e h1 (by omega)
        · have h0 : 0 < (gA q m c c.length).length := by rw [hsh.1]; omega
          simp (disch := first | omega | (simp only [List.length_set, List.length_replicate, List.length_append, List.length_take, List.length_drop, List.length_cons, List.length_nil, List.length_map, List.length_range, ints_length] <;> omega)) only [go_sem, hg4.cell h0]
          refine (reduced_ok tid mid b m _ _ h4 hm1 (by omega) (ht.fr hf4) (hg4.si h0) (by rw [hg4.rl _ h0]; omega)).mono ?_
          rintro v5 h5 ⟨ht5, ho5, hf5, hav5⟩
          simp (disch := first | omega | (simp only [List.length_set, List.length_replicate, List.length_append, List.length_take, List.length_drop, List.length_cons, List.length_nil, List.length_map, List.length_range, ints_length] <;> omega)) only [go_sem]
          have hlow : lowerF n q c = some (redF m ((gA q m c c.length).getD 0 [])) := by
            simp only [lowerF, hm]
            rw [if_pos hz, lowA, if_neg]
            rw [List.any_eq_true]
            rintro ⟨x, hx, hx2⟩
            rw [List.mem_iff_getElem] at hx
            obtain ⟨i, hi, rfl⟩ := hx
            rw [List.length_drop, hsh.1] at hi
            rw [List.getElem_drop] at hx2
            have := hall (1 + i) (by omega) (by omega)
            rw [List.getD_eq_getElem?_getD, List.getElem?_eq_getElem (by rw [hsh.1]; omega), Option.getD_some, hx2] at this
            cases this
          rw [hlow]
          refine ⟨ht5, (hf4.toM mid).trans hf5, _, _, rfl, rfl, ho5.sv, fun id off n c e => ?_⟩
          have hnx4 := hf4.next
          rcases ho5 with ⟨h6, _⟩ | ⟨id', _, _, _, h6, _, _, h7, _⟩
          · rw [h6] at e; cases e
          · rw [h6] at e; cases e; omega
    · rw [iteW_neg (by omega)]
      obtain ⟨x0, hx0⟩ := hia (by rw [hm]; exact hz)
      obtain ⟨y0, hy0⟩ := hib (by rw [hm]; exact hz)
      rw [hm] at hx0 hy0
      simp (disch := first | omega | (simp only [List.length_set, List.length_replicate, List.length_append, List.length_take, List.length_drop, List.length_cons, List.length_nil, List.length_map, List.length_range, ints_length] <;> omega)) only [go_sem]
      refine (inverse_ok q m x0 h2 (by omega) hm1 (by omega) hx0).mono ?_
      rintro v1 h21 ⟨rfl, hf21⟩
      simp (disch := first | omega | (simp only [List.length_set, List.length_replicate, List.length_append, List.length_take, List.length_drop, List.length_cons, List.length_nil, List.length_map, List.length_range, ints_length] <;> omega)) only [go_sem]
      refine (inverse_ok m q y0 h21 (by omega) (by omega) (by omega) hy0).mono ?_
      rintro v1 h22 ⟨rfl, hf22⟩
      have ha0 : invF q m ≤ m := by rw [invF, hx0]; exact Nat.le_of_lt_succ (first_some hx0).1
      have hb0 : invF m q ≤ q := by rw [invF, hy0]; exact Nat.le_of_lt_succ (first_some hy0).1
      obtain ⟨A, hA⟩ : ∃ A, invF q m = A := ⟨_, rfl⟩
      obtain ⟨B, hB⟩ : ∃ B, invF m q = B := ⟨_, rfl⟩
      rw [hA] at ha0
      rw [hB] at hb0
      simp (disch := first | omega | (simp only [List.length_set, List.length_replicate, List.length_append, List.length_take, List.length_drop, List.length_cons, List.length_nil, List.length_map, List.length_range, ints_length] <;> omega)) only [go_sem, hc.lens, hA, hB]
      refine Wp_loop (fun k' vars h3 => ∃ (k : Nat), (∃ g : Nat → V, vars = [.ptr tid 0, .int .i64 (n : Int), .int .i64 (q : Int), vc, .nils, .bool false, .int .i64 (m : Int), .sl P 0 q (.kn q), g 8, g 9, g 10, g 11, .int .i64 (A : Int), .int .i64 (B : Int), g 14, g 15, g 16, g 17, g 18, g 19, g 20, g 21, g 22, g 23, g 24, g 25, g 26, g 27, g 28, g 29, g 30, g 31, g 32, vc, .int .i64 (c.length : Int), .int .i64 (k : Int), g 36, g 37, g 38, g 39, g 40, g 41, g 42, g 43, g 44, g 45, g 46, g 47, g 48]) ∧ k ≤ c.length ∧
        Grid h3 P m (gB A B q m c k) ∧ Fr h h3 ∧ k' = c.length - k) c.length
        ⟨0, ex_junk rfl, Nat.zero_le _, hgrid.fr (hf21.trans hf22), hf2.trans (hf21.trans hf22), rfl⟩ ?_
      rintro k' vars h3 ⟨k, ⟨g, rfl⟩, hk, hg3, hf3, rfl⟩
      have hsh := gB_shape A B q m c k
      simp (disch := first | omega | (simp only [List.length_set, List.length_replicate, List.length_append, List.length_take, List.length_drop, List.length_cons, List.length_nil, List.length_map, List.length_range, ints_length] <;> omega)) only [go_sem]
      by_cases hkc : (k : Int) < (c.length : Int)
      · rw [decide_eq_true hkc]
        have hcc3 := cells_fr hf3 hcid hcc
        have h5 : B * k % q < q := Nat.mod_lt _ (by omega)
        have h6 : A * k % m < m := Nat.mod_lt _ (by omega)
        have hBk : B * k ≤ 120 * 120 := Nat.mul_le_mul (by omega) (by omega)
        have hAk : A * k ≤ 120 * 120 := Nat.mul_le_mul (by omega) (by omega)
        have e4 : (B : Int) * (k : Int) = ((B * k : Nat) : Int) := (Int.natCast_mul ..).symm
        have e5 : (A : Int) * (k : Int) = ((A * k : Nat) : Int) := (Int.natCast_mul ..).symm
        have e2 : ((B * k : Nat) : Int).tmod (q : Int) = ((B * k % q : Nat) : Int) := tmod_nat ..
        have e3 : ((A * k : Nat) : Int).tmod (m : Int) = ((A * k % m : Nat) : Int) := tmod_nat ..
        have hstep : gB A B q m c (k + 1) = (gB A B q m c k).set (B * k % q) (((gB A B q m c k).getD (B * k % q) []).set (A * k % m) (W (((gB A B q m c k).getD (B * k % q) []).getD (A * k % m) 0 + c.getD k 0))) := rfl
        generalize B * k % q = r at h5 e2 hstep
        generalize A * k % m = u at h6 e3 hstep
        generalize B * k = Bk at e2 e4 hBk
        generalize A * k = Ak at e3 e5 hAk
        have hrl := hg3.rl r (by omega)
        simp (disch := first | omega | (simp only [List.length_set, List.length_replicate, List.length_append, List.length_take, List.length_drop, List.length_cons, List.length_nil, List.length_map, List.length_range, ints_length] <;> omega)) only [go_sem, hcs.ixa, hcc3, Int.toNat_natCast, e2, e3, e4, e5, hg3.cell (e := r) (by omega), hg3.at (e := r) (i := u) (by omega) h6, hg3.rg r (by omega)]
        rw [show (k : Int) + 1 = ((k + 1 : Nat) : Int) from by omega]
        refine ⟨c.length - (k + 1), by omega, k + 1, ex_junk rfl, by omega, ?_, (hf3.bump (by omega)).set (by omega) _, rfl⟩
        rw [hstep]
        exact (hg3.fr ((Fr.refl h3).bump (by omega))).set (by omega) _
      · rw [decide_eq_false hkc]
        have : c.length = k := by omega
        subst this
        clear hkc hk
        simp (disch := first | omega | (simp only [List.length_set, List.length_replicate, List.length_append, List.length_take, List.length_drop, List.length_cons, List.length_nil, List.length_map, List.length_range, ints_length] <;> omega)) only [go_sem]
        obtain ⟨rows, hrows⟩ : ∃ rows, gB A B q m c c.length = rows := ⟨_, rfl⟩
        rw [hrows] at hg3 hsh
        refine Wp_loop (fun k' vars h4 => ∃ (k : Nat) (ws : List V), (∃ g : Nat → V, vars = [.ptr tid 0, .int .i64 (n : Int), .int .i64 (q : Int), vc, .nils, .bool false, .int .i64 (m : Int), .sl P 0 q (.kn q), g 8, g 9, g 10, g 11, g 12, g 13, g 14, g 15, g 16, g 17, g 18, g 19, g 20, g 21, g 22, g 23, g 24, g 25, g 26, g 27, g 28, g 29, g 30, g 31, g 32, g 33, g 34, g 35, g 36, .int .i64 (q : Int), .int .i64 (k : Int), g 39, g 40, g 41, g 42, g 43, g 44, g 45, g 46, g 47, g 48]) ∧ k ≤ q ∧
          ws.length = q ∧ h4.get P = some (.cells false ws) ∧ (∀ e, k ≤ e → e < q → ws.getD e .undef = .sl (P + 1 + e) 0 m (.kn m) ∧ h4.get (P + 1 + e) = some (.cells false (ints (rows.getD e [])))) ∧
          (∀ e, e < k → Own h4 (ws.getD e .undef) 1 (ints (redF m (rows.getD e []))) (P + q + 1)) ∧ (∀ e, 1 ≤ e → e < k → Dis (ws.getD 0 .undef) (ws.getD e .undef)) ∧ (0 < k → ∀ id off n c, ws.getD 0 .undef = .sl id off n c → Avoid h4 mid id) ∧ Tb h4 tid mid b ∧ FrM mid h h4 ∧ P + q < h4.next ∧ k' = q - k) q
          ⟨0, _, ex_junk rfl, Nat.zero_le _, ?_, hg3.pg, fun e _ he => ⟨?_, hg3.rg e (by omega)⟩, fun e he => by omega, fun e _ he => by omega, fun h => by omega, ht.fr hf3, hf3.toM mid, by have := hg3.lt; omega, rfl⟩ ?_
        · rw [List.length_map, List.length_range, hsh.1]
        · rw [List.getD_eq_getElem?_getD, List.getElem?_map, List.getElem?_range (by omega)]; rfl
        clear hg3 hf3
        rintro k' vars h4 ⟨k, ws, ⟨g, rfl⟩, hk, hwl, hwg, hrest, hown, hdis, hav, ht4, hf4, hn4, rfl⟩
        simp (disch := first | omega | (simp only [List.length_set, List.length_replicate, List.length_append, List.length_take, List.length_drop, List.length_cons, List.length_nil, List.length_map, List.length_range, ints_length] <;> omega)) only [go_sem]
        by_cases hkq : (k : Int) < (q : Int)
        · rw [decide_eq_true hkq]
          obtain ⟨hw1, hw2⟩ := hrest k (Nat.le_refl _) (by omega)
          have hcell : h4.cell P k = some (.sl (P + 1 + k) 0 m (.kn m)) := by
            rw [H.cell_of hwg, List.getElem?_eq_getElem (by omega), ← hw1, List.getD_eq_getElem?_getD, List.getElem?_eq_getElem (by omega)]; rfl
          have hrk := hsh.2 k (by omega)
          have hsi : SI h4 (.sl (P + 1 + k) 0 m (.kn m)) (rows.getD k []) := by
            have := SI.own (h := h4) (id := P + 1 + k) (by omega) hw2 (.kn m)
            rw [hrk] at this; exact this
          simp (disch := first | omega | (simp only [List.length_set, List.length_replicate, List.length_append, List.length_take, List.length_drop, List.length_cons, List.length_nil, List.length_map, List.length_range, ints_length] <;> omega)) only [go_sem, hcell]
          refine (reduced_ok tid mid b m _ _ h4 hm1 (by omega) ht4 hsi (by omega)).mono ?_
          rintro v5 h5 ⟨ht5, ho5, hf5, hav5⟩
          have hP5 : h5.get P = some (.cells false ws) := by
            rw [hf5.get P (by omega) (fun e => by obtain ⟨es, hes⟩ := ht4.isMap; rw [← e, hwg] at hes; cases hes)]; exact hwg
          have hnm : ∀ id vs, h4.get id = some (.cells false vs) → id ≠ mid := fun id vs hg e => by
            obtain ⟨es, hes⟩ := ht4.isMap
            rw [e, hes] at hg; cases hg
          simp (disch := first | omega | (simp only [List.length_set, List.length_replicate, List.length_append, List.length_take, List.length_drop, List.length_cons, List.length_nil, List.length_map, List.length_range, ints_length] <;> omega)) only [go_sem, ho5.sv.st1, hP5, putO_one]
          rw [show (k : Int) + 1 = ((k + 1 : Nat) : Int) from by omega]
          have hPlt : P < P + q + 1 := by omega
          refine ⟨q - (k + 1), by omega, k + 1, ws.set k v5, ex_junk rfl, by omega, by rw [List.length_set, hwl], rfl, fun e he1 he2 => ?_, fun e he => ?_, fun e he1 he2 => ?_, ?_, ?_, ?_, by have := hf5.next; omega, rfl⟩
          · obtain ⟨r1, r2⟩ := hrest e (by omega) he2
            refine ⟨by rw [getD_set, if_neg (by omega)]; exact r1, ?_⟩
            rw [hf5.get _ (by omega) (hnm _ _ r2)]; exact r2
          · rw [getD_set]
            by_cases hke : k = e
            · subst hke
              rw [if_pos rfl, if_pos (by omega)]
              exact (ho5.le (by omega)).set hPlt _
            · rw [if_neg hke]
              exact ((hown e (by omega)).monoM ht4.isMap hf5).set hPlt _
          · have e0 : (ws.set k v5).getD 0 .undef = ws.getD 0 .undef := by rw [getD_set, if_neg (by omega)]
            rw [e0, getD_set]
            by_cases hke : k = e
            · subst hke
              rw [if_pos rfl, if_pos (by omega)]
              exact (hown 0 (by omega)).dis ho5
            · rw [if_neg hke]
              exact hdis e he1 (by omega)
          · intro _ id off n c e
            have hPm : P ≠ mid := hnm P ws hwg
            refine Avoid.fr ?_ (H.get_set_ne _ (Ne.symm hPm) _)
            by_cases hk0 : k = 0
            · subst hk0
              rw [getD_set, if_pos rfl, if_pos (by omega)] at e
              exact hav5 id off n c e
            · rw [getD_set, if_neg hk0] at e
              have hid : id < h4.next := by
                have := hown 0 (by omega)
                rw [e] at this
                exact SV.ne_of this.sv
              exact hf5.av ht4.mlt id hid (hav (by omega) id off n c e)
          · obtain ⟨es, hes⟩ := ht5.isMap
            have hPm : P ≠ mid := hnm P ws hwg
            have hPt : P ≠ tid := by have := ht.tlt; omega
            obtain ⟨es, k1, k2, k3⟩ := ht5.es
            refine ⟨by rw [H.cell_set_ne _ (Ne.symm hPt)]; exact ht5.tp, ht5.ne, ht5.tlt, ht5.mlt, ht5.tb, ht5.mb, es, by rw [H.get_set_ne _ (Ne.symm hPm)]; exact k1, k2, fun n v hv => ?_⟩
            refine ⟨(k3 n v hv).1.other (k3 n v hv).2 hP5 (fun i w hw => ?_) _, (k3 n v hv).2⟩
            have hi := (List.getElem?_eq_some_iff.1 hw).1
            have hw' : ws.getD i .undef = w := by rw [List.getD_eq_getElem?_getD, hw]; rfl
            by_cases hik : i < k
            · rw [← hw']; exact (hown i hik).sv.what.2.2
            · rw [← hw', (hrest i (by omega) (by omega)).1]
              intro k n h; cases h
          · exact (hf4.trans hf5).set (by omega) _
        · rw [decide_eq_false hkq]
          have : q = k := by omega
          subst this
          clear hkq hk hrest hx0 hy0 hcc hcs hcid
          simp (disch := first | omega | (simp only [List.length_set, List.length_replicate, List.length_append, List.length_take, List.length_drop, List.length_cons, List.length_nil, List.length_map, List.length_range, ints_length] <;> omega)) only [go_sem]
          obtain ⟨reds, hreds⟩ : ∃ reds, rows.map (redF m) = reds := ⟨_, rfl⟩
          have hrl : reds.length = q := by rw [← hreds, List.length_map, hsh.1]
          have hlen : ∀ e, e < q → reds.getD e [] = redF m (rows.getD e []) := fun e he => by
            rw [← hreds, List.getD_eq_getElem?_getD, List.getElem?_map, List.getD_eq_getElem?_getD, List.getElem?_eq_getElem (by rw [hsh.1]; exact he)]; rfl
          have hown' : ∀ e, e < q → Own h4 (ws.getD e .undef) 1 (ints (reds.getD e [])) (P + q + 1) := fun e he => by rw [hlen e he]; exact hown e he
          have hpl := phi_len hm1 (show m ≤ 120 by omega)
          have hL : ∀ e, e < q → (reds.getD e []).length = (phiF m).length - 1 := fun e he => by rw [hlen e he, redF_len]
          have hlowB : lowerF n q c = lowB reds := by
            simp only [lowerF, hm]
            rw [if_neg hz, hA, hB, hrows, hreds]
          rw [hlowB]
          clear hlowB hown hlen hdvd hia hib
          have hcell : ∀ e, e < q → h4.cell P e = some (ws.getD e .undef) := fun e he => by
            rw [H.cell_of hwg, List.getElem?_eq_getElem (by omega), List.getD_eq_getElem?_getD, List.getElem?_eq_getElem (by omega)]; rfl
          have esl : slcV 1 (.sl P 0 q (.kn q)) (some (.int .i64 1)) none none = some (.sl P 1 (q - 1) (.kn (q - 1))) := by
            simp only [slcV, bndV]
            rw [if_pos (by omega)]
            simp only
            rw [if_pos (by omega), if_neg (by omega)]
            rfl
          simp (disch := first | omega | (simp only [List.length_set, List.length_replicate, List.length_append, List.length_take, List.length_drop, List.length_cons, List.length_nil, List.length_map, List.length_range, ints_length] <;> omega)) only [go_sem, esl]
          refine Wp_loop (fun k' vars h5 => ∃ (k : Nat), (∃ g : Nat → V, vars = [.ptr tid 0, .int .i64 (n : Int), .int .i64 (q : Int), vc, .nils, .bool false, .int .i64 (m : Int), .sl P 0 q (.kn q), g 8, g 9, g 10, g 11, g 12, g 13, g 14, g 15, g 16, g 17, g 18, g 19, g 20, g 21, g 22, g 23, g 24, g 25, g 26, g 27, g 28, g 29, g 30, g 31, g 32, g 33, g 34, g 35, g 36, g 37, g 38, g 39, .sl P 1 (q - 1) (.kn (q - 1)), .int .i64 ((q - 1 : Nat) : Int), .int .i64 (k : Int), g 43, g 44, g 45, g 46, g 47, g 48]) ∧ k + 1 ≤ q ∧
            Fr h4 h5 ∧ (∀ e, 1 ≤ e → e ≤ k → reds.getD e [] = reds.getD 1 []) ∧ k' = q - k) q
            ⟨0, ex_junk rfl, by omega, Fr.refl h4, fun e h1 h2 => by omega, rfl⟩ ?_
          rintro k' vars h5 ⟨k, ⟨g, rfl⟩, hk, hf5, hall, rfl⟩
          have hcell5 : ∀ e, e < q → h5.cell P e = some (ws.getD e .undef) := fun e he => by rw [hf5.cell (by omega)]; exact hcell e he
          simp (disch := first | omega | (simp only [List.length_set, List.length_replicate, List.length_append, List.length_take, List.length_drop, List.length_cons, List.length_nil, List.length_map, List.length_range, ints_length] <;> omega)) only [go_sem]
          refine iteW_dec (fun hlt => ?_) (fun hge => ?_)
          · simp (disch := first | omega | (simp only [List.length_set, List.length_replicate, List.length_append, List.length_take, List.length_drop, List.length_cons, List.length_nil, List.length_map, List.length_range, ints_length] <;> omega)) only [go_sem, Nat.add_comm 1 k, hcell5]
            refine (equal_ok _ _ _ _ h5 ((hown' (k + 1) (by omega)).fr hf5).sv ((hown' 1 (by omega)).fr hf5).sv (by rw [hL _ (by omega)]; omega) (by rw [hL _ (by omega)]; omega)).mono ?_
            rintro v1 h6 ⟨rfl, hf6⟩
            simp (disch := first | omega | (simp only [List.length_set, List.length_replicate, List.length_append, List.length_take, List.length_drop, List.length_cons, List.length_nil, List.length_map, List.length_range, ints_length] <;> omega)) only [go_sem]
            refine iteW_dec (fun heq => ?_) (fun hne => ?_)
            · simp (disch := first | omega | (simp only [List.length_set, List.length_replicate, List.length_append, List.length_take, List.length_drop, List.length_cons, List.length_nil, List.length_map, List.length_range, ints_length] <;> omega)) only [go_sem]
              rw [show (k : Int) + 1 = ((k + 1 : Nat) : Int) from by omega]
              refine ⟨q - (k + 1), by omega, k + 1, ex_junk rfl, by omega, hf5.trans hf6, fun e h1 h2 => ?_, rfl⟩
              by_cases hek : e = k + 1
              · rw [hek]; exact heq
              · exact hall e h1 (by omega)
            · simp (disch := first | omega | (simp only [List.length_set, List.length_replicate, List.length_append, List.length_take, List.length_drop, List.length_cons, List.length_nil, List.length_map, List.length_range, ints_length] <;> omega)) only [go_sem]
              have hnone : lowB reds = none := by
                rw [lowB, if_neg]
                rw [List.all_eq_true]
                intro hx
                have := hx (reds.getD (k + 1) []) (by
                  rw [List.mem_iff_getElem]
                  exact ⟨k, by rw [List.length_drop]; omega, by rw [List.getElem_drop, List.getD_eq_getElem?_getD, List.getElem?_eq_getElem (by omega), Option.getD_some]; congr 1; omega⟩)
                exact hne (of_decide_eq_true this)
              rw [hnone]
              exact ⟨ht4.fr (hf5.trans hf6), hf4.trans ((hf5.trans hf6).toM mid), _, _, rfl, rfl⟩
          · have hsome : lowB reds = some (subK (reds.getD 0 []) (reds.getD 1 []) (reds.getD 1 []).length) := by
              rw [lowB, if_pos]
              rw [List.all_eq_true]
              intro x hx
              rw [List.mem_iff_getElem] at hx
              obtain ⟨i, hi, rfl⟩ := hx
              rw [List.length_drop] at hi
              rw [List.getElem_drop]
              have := hall (1 + i) (by omega) (by omega)
              rw [List.getD_eq_getElem?_getD, List.getElem?_eq_getElem (by omega), Option.getD_some] at this
              rw [this]
              exact decide_eq_true rfl
            rw [hsome]
            have ho0 := (hown' 0 (by omega)).fr hf5
            have ho1 := (hown' 1 (by omega)).fr hf5
            have hd01 := hdis 1 (Nat.le_refl _) (by omega)
            have hL0 := hL 0 (by omega)
            have hL1 := hL 1 (by omega)
            simp (disch := first | omega | (simp only [List.length_set, List.length_replicate, List.length_append, List.length_take, List.length_drop, List.length_cons, List.length_nil, List.length_map, List.length_range, ints_length] <;> omega)) only [go_sem, hcell5]
            have hl1 : lensV (ws.getD 1 .undef) = some (.int .i64 ((reds.getD 1 []).length : Int)) := SI.lens (h := h5) ho1.sv
            have hav0 := hav (by omega)
            simp (disch := first | omega | (simp only [List.length_set, List.length_replicate, List.length_append, List.length_take, List.length_drop, List.length_cons, List.length_nil, List.length_map, List.length_range, ints_length] <;> omega)) only [go_sem, hl1]
            obtain ⟨id1, off1, hs1, hid1, hc1⟩ := SI.open (h := h5) ho1.sv
            generalize reds.getD 0 [] = R0 at *
            generalize reds.getD 1 [] = R1 at *
            rcases ho0 with ⟨_, h0⟩ | ⟨id0, n0, cap0, rest0, hw0, hn0, hcap0, hid0, hid0', hg0⟩
            · have : (ints R0).length = 0 := by rw [h0]; rfl
              rw [ints_length] at this; omega
            rw [ints_length, Nat.mul_one] at hn0
            have hne01 : id0 ≠ id1 := by
              rcases ho1 with ⟨_, h0⟩ | ⟨id1', n1, cap1, rest1, hw1, hn1', _⟩
              · have : (ints R1).length = 0 := by rw [h0]; rfl
                rw [ints_length] at this; omega
              · have h1 := hd01 _ _ _ _ hw0 _ _ _ _ hw1
                have h2 := hs1.ixa .i64 0 (by omega) (by omega)
                rw [hw1, ixaV_sl (by omega) (by rw [ints_length] at hn1'; omega)] at h2
                simp only [Option.some.injEq, V.ptr.injEq] at h2
                omega
            have havx := (hav0 id0 0 n0 cap0 hw0).fr (hf5.get mid ht4.mlt)
            clear hcell5
            have hpc : ∀ e, e < q → h5.cell P e = some (ws.getD e .undef) := fun e he => by rw [hf5.cell (by omega)]; exact hcell e he
            have hid1' := hid1 (by omega)
            refine Wp_loop (fun k' vars h6 => ∃ (k : Nat), (∃ g : Nat → V, vars = [.ptr tid 0, .int .i64 (n : Int), .int .i64 (q : Int), vc, .nils, .bool false, .int .i64 (m : Int), .sl P 0 q (.kn q), g 8, g 9, g 10, g 11, g 12, g 13, g 14, g 15, g 16, g 17, g 18, g 19, g 20, g 21, g 22, g 23, g 24, g 25, g 26, g 27, g 28, g 29, g 30, g 31, g 32, g 33, g 34, g 35, g 36, g 37, g 38, g 39, g 40, g 41, g 42, g 43, g 44, ws.getD 1 .undef, .int .i64 (R1.length : Int), .int .i64 (k : Int), g 48]) ∧ k ≤ R1.length ∧
              h6.get id0 = some (.cells false (ints (subK R0 R1 k) ++ rest0)) ∧ (∀ x, x ≠ id0 → h6.get x = h5.get x) ∧ h6.next = h5.next ∧ k' = R1.length - k) R1.length
              ⟨0, ex_junk rfl, Nat.zero_le _, hg0, fun _ _ => rfl, rfl, rfl⟩ ?_
            rintro k' vars h6 ⟨k2, ⟨g2, rfl⟩, hk2, hg6, hoth, hn6, rfl⟩
            have hc6 : ∀ x off, x ≠ id0 → h6.cell x off = h5.cell x off := fun x off hx => by unfold H.cell; rw [hoth x hx]
            have hsl := subK_len R0 R1 k2
            simp (disch := first | omega | (simp only [List.length_set, List.length_replicate, List.length_append, List.length_take, List.length_drop, List.length_cons, List.length_nil, List.length_map, List.length_range, ints_length] <;> omega)) only [go_sem]
            by_cases hkL : (k2 : Int) < (R1.length : Int)
            · rw [decide_eq_true hkL]
              have e0 : h6.cell P 0 = some (.sl id0 0 n0 cap0) := by rw [hc6 P 0 (by omega), hpc 0 (by omega), hw0]
              have e1' : h6.cell id1 (off1 + k2) = some (.int .i64 (R1.getD k2 0)) := by rw [hc6 _ _ (Ne.symm hne01)]; exact hc1 k2 (by omega)
              have e2 : h6.cell id0 k2 = some (.int .i64 ((subK R0 R1 k2).getD k2 0)) := by
                rw [H.cell_of hg6, List.getElem?_append_left (by rw [ints_length]; omega), ints_getD (by omega)]
              have hpl2 : k2 < (ints (subK R0 R1 k2) ++ rest0).length := by rw [List.length_append, ints_length]; omega
              simp (disch := first | omega | (simp only [List.length_set, List.length_replicate, List.length_append, List.length_take, List.length_drop, List.length_cons, List.length_nil, List.length_map, List.length_range, ints_length] <;> omega)) only [go_sem, hs1.ixa, e0, e1', e2, hg6]
              rw [show (k2 : Int) + 1 = ((k2 + 1 : Nat) : Int) from by omega]
              refine ⟨R1.length - (k2 + 1), by omega, k2 + 1, ex_junk rfl, by omega, ?_, fun x hx => ?_, hn6, rfl⟩
              · rw [List.set_append_left _ _ (by rw [ints_length]; omega), ints_set]; rfl
              · rw [H.get_set_ne _ hx]; exact hoth x hx
            · rw [decide_eq_false hkL]
              have : R1.length = k2 := by omega
              subst this
              have e0 : h6.cell P 0 = some (.sl id0 0 n0 cap0) := by rw [hc6 P 0 (by omega), hpc 0 (by omega), hw0]
              simp (disch := first | omega | (simp only [List.length_set, List.length_replicate, List.length_append, List.length_take, List.length_drop, List.length_cons, List.length_nil, List.length_map, List.length_range, ints_length] <;> omega)) only [go_sem, e0]
              have hid0m : id0 ≠ mid := by have := ht.mlt; omega
              have hid0t : id0 ≠ tid := by have := ht.tlt; omega
              have hset : ∀ x, h6.get x = (h5.set id0 (some (.cells false (ints (subK R0 R1 R1.length) ++ rest0)))).get x := fun x => by
                by_cases hx : x = id0
                · rw [hx, hg6, H.get_set_same]
                · rw [hoth x hx, H.get_set_ne _ hx]
              have hF6 : Fr (h5.set id0 (some (.cells false (ints (subK R0 R1 R1.length) ++ rest0)))) h6 := ⟨by rw [H.next_set, hn6]; exact Nat.le_refl _, fun x _ => hset x⟩
              refine ⟨((ht4.fr hf5).set hid0t hid0m havx _).fr hF6, ((hf4.trans (hf5.toM mid)).set (by omega) _).trans (hF6.toM mid), _, _, rfl, rfl, ?_, fun id off n c e => by cases e; omega⟩
              refine .inr ⟨id0, 0, n0, cap0, false, _, rfl, by rw [ints_length]; omega, by omega, hg6, by rw [List.length_append, ints_length]; omega, ?_⟩
              rw [List.drop_zero, Nat.mul_one, show n0 = (ints (subK R0 R1 R1.length)).length by rw [ints_length]; omega, List.take_left]
end Go.Proofs.Ythfabknpogbcaaa
/- Contracts: the primes that divide a number, one after another. -/
namespace Go.Proofs.Ythfabknpogbcaaa
open Go Go.Ay
set_option maxRecDepth 100000

theorem primes_ok (n : Nat) (h : H) : Ev T n_cyclo_primes [.int .i64 (n : Int)] h (fun v h' => v = .fn 80 [] [.ptr h.next 0] ∧ h' = h.new (.cells false [.int .i64 (n : Int)])) := by
  refine Ev_of t_cyclo_primes rfl ?_
  simp (disch := first | omega | (simp only [List.length_set, List.length_replicate, List.length_append, List.length_take, List.length_drop, List.length_cons, List.length_nil, List.length_map, List.length_range, ints_length] <;> omega)) only [go_sem, c_cyclo_primes, initV_eq]

set_option maxHeartbeats 1000000 in
theorem primes1_ok (id nb : Nat) (Iv : List Nat → H → Prop) (Dn : H → Prop)
    (hset : ∀ l h x, Iv l h → Iv l (h.set nb (some (.cells false [.int .i64 x]))))
    (hyld : ∀ q l h, Iv (q :: l) h → Ey T id [.int .i64 (q : Int)] h (fun v h' => h'.get nb = h.get nb ∧ (v = .bool true ∧ Iv l h' ∨ v = .bool false ∧ Dn h')))
    (n : Nat) (hn : 1 ≤ n) (hn2 : n ≤ 120) (h : H) (hg : h.get nb = some (.cells false [.int .i64 (n : Int)])) (hI : Iv (prOf n) h) :
    Ev T n_cyclo_primes_1 [.yl id, .ptr nb 0] h (fun _ h' => Iv [] h' ∨ Dn h') := by
  refine Ev_of t_cyclo_primes_1 rfl ?_
  simp (disch := first | omega | (simp only [List.length_set, List.length_replicate, List.length_append, List.length_take, List.length_drop, List.length_cons, List.length_nil, List.length_map, List.length_range, ints_length] <;> omega)) only [go_sem, c_cyclo_primes_1, initV_eq]
  refine Wp_loop (fun k vars h1 => ∃ (x q : Nat) (l : List Nat), (∃ g : Nat → V, vars = [.yl id, .ptr nb 0, .int .i64 (q : Int), g 3, g 4, g 5, g 6]) ∧ 1 ≤ x ∧ x ≤ 120 ∧ 2 ≤ q ∧ q + k = 127 ∧ pgF k x q = some l ∧ h1.get nb = some (.cells false [.int .i64 (x : Int)]) ∧ Iv l h1) 125
    ⟨n, 2, _, ex_junk rfl, hn, hn2, Nat.le_refl _, rfl, prOf_some hn2, hg, hI⟩ ?_
  rintro k vars h1 ⟨x, q, l, ⟨g, rfl⟩, hx1, hx2, hq, hqk, hpg, hg1, hI1⟩
  obtain ⟨k, rfl⟩ : ∃ k', k = k' + 1 := by
    cases k with
    | zero => cases hpg
    | succ k => exact ⟨k, rfl⟩
  have hc1 : h1.cell nb 0 = some (.int .i64 (x : Int)) := by rw [H.cell_of hg1]; rfl
  simp (disch := first | omega | (simp only [List.length_set, List.length_replicate, List.length_append, List.length_take, List.length_drop, List.length_cons, List.length_nil, List.length_map, List.length_range, ints_length] <;> omega)) only [go_sem, hc1]
  rw [pgF] at hpg
  refine iteW_dec (fun hlt => ?_) (fun hge => ?_)
  · rw [if_pos (by omega)] at hpg
    have em : (x : Int).tmod (q : Int) = ((x % q : Nat) : Int) := tmod_nat ..
    simp (disch := first | omega | (simp only [List.length_set, List.length_replicate, List.length_append, List.length_take, List.length_drop, List.length_cons, List.length_nil, List.length_map, List.length_range, ints_length] <;> omega)) only [go_sem, hc1, em]
    refine iteW_dec (fun hnz => ?_) (fun hz => ?_)
    · rw [if_pos (by omega)] at hpg
      simp (disch := first | omega | (simp only [List.length_set, List.length_replicate, List.length_append, List.length_take, List.length_drop, List.length_cons, List.length_nil, List.length_map, List.length_range, ints_length] <;> omega)) only [go_sem]
      rw [show (q : Int) + 1 = ((q + 1 : Nat) : Int) from by omega]
      exact ⟨k, by omega, x, q + 1, l, ex_junk rfl, hx1, hx2, by omega, by omega, hpg, hg1, hI1⟩
    · rw [if_neg (by omega)] at hpg
      have hz' : x % q = 0 := by omega
      cases hl : pgF k (outF x x q) (q + 1) with
      | none => rw [hl] at hpg; cases hpg
      | some l' =>
        rw [hl] at hpg
        simp only [Option.map_some, Option.some.injEq] at hpg
        subst hpg
        simp (disch := first | omega | (simp only [List.length_set, List.length_replicate, List.length_append, List.length_take, List.length_drop, List.length_cons, List.length_nil, List.length_map, List.length_range, ints_length] <;> omega)) only [go_sem]
        refine Wp_loop (fun k2 vars h2 => ∃ (y : Nat), (∃ g : Nat → V, vars = [.yl id, .ptr nb 0, .int .i64 (q : Int), g 3, g 4, g 5, g 6]) ∧ 1 ≤ y ∧ y ≤ 120 ∧ outF y y q = outF x x q ∧ h2.get nb = some (.cells false [.int .i64 (y : Int)]) ∧ Iv (q :: l') h2 ∧ y = k2) x
          ⟨x, ex_junk rfl, hx1, hx2, rfl, hg1, hI1, rfl⟩ ?_
        rintro k2 vars h2 ⟨y, ⟨g, rfl⟩, hy1, hy2, hout, hg2, hI2, rfl⟩
        have hc2 : h2.cell nb 0 = some (.int .i64 (y : Int)) := by rw [H.cell_of hg2]; rfl
        have em2 : (y : Int).tmod (q : Int) = ((y % q : Nat) : Int) := tmod_nat ..
        simp (disch := first | omega | (simp only [List.length_set, List.length_replicate, List.length_append, List.length_take, List.length_drop, List.length_cons, List.length_nil, List.length_map, List.length_range, ints_length] <;> omega)) only [go_sem, hc2, em2]
        refine iteW_dec (fun hyz => ?_) (fun hynz => ?_)
        · have hyz' : y % q = 0 := by omega
          obtain ⟨s1, s2, s3⟩ := outF_step hq hy1 hyz'
          have ed : (y : Int).tdiv (q : Int) = ((y / q : Nat) : Int) := rfl
          generalize y / q = z at s1 s2 s3 ed
          simp (disch := first | omega | (simp only [List.length_set, List.length_replicate, List.length_append, List.length_take, List.length_drop, List.length_cons, List.length_nil, List.length_map, List.length_range, ints_length] <;> omega)) only [go_sem, hc2, ed, hg2]
          exact ⟨z, s2, z, ex_junk rfl, s1, by omega, s3.trans hout, rfl, hset _ _ _ hI2, rfl⟩
        · have hyz' : y % q ≠ 0 := by omega
          have hy3 : y = outF x x q := by rw [← hout, outF_stop hy1 hyz']
          simp (disch := first | omega | (simp only [List.length_set, List.length_replicate, List.length_append, List.length_take, List.length_drop, List.length_cons, List.length_nil, List.length_map, List.length_range, ints_length] <;> omega)) only [go_sem]
          refine (hyld q l' h2 hI2).mono ?_
          rintro v3 h3 ⟨hg3, ⟨rfl, hI3⟩ | ⟨rfl, hD3⟩⟩
          · simp (disch := first | omega | (simp only [List.length_set, List.length_replicate, List.length_append, List.length_take, List.length_drop, List.length_cons, List.length_nil, List.length_map, List.length_range, ints_length] <;> omega)) only [go_sem]
            rw [show (q : Int) + 1 = ((q + 1 : Nat) : Int) from by omega]
            exact ⟨k, by omega, y, q + 1, l', ex_junk rfl, hy1, hy2, by omega, by omega, by rw [hy3]; exact hl, by rw [hg3, hg2], hI3⟩
          · simp (disch := first | omega | (simp only [List.length_set, List.length_replicate, List.length_append, List.length_take, List.length_drop, List.length_cons, List.length_nil, List.length_map, List.length_range, ints_length] <;> omega)) only [go_sem]
            exact .inr hD3
  · rw [if_neg (by omega)] at hpg
    cases hpg
    simp (disch := first | omega | (simp only [List.length_set, List.length_replicate, List.length_append, List.length_take, List.length_drop, List.length_cons, List.length_nil, List.length_map, List.length_range, ints_length] <;> omega)) only [go_sem]
    exact .inl hI1
end Go.Proofs.Ythfabknpogbcaaa
/- Contracts: the canonical form. -/
namespace Go.Proofs.Ythfabknpogbcaaa
open Go Go.Ay
set_option maxRecDepth 100000

theorem boxV_ptr (h : H) (id off : Nat) : boxV h (.ptr id off) = some (.ptr h.next 0, h.new (.cells false [.ptr id off])) := boxV_one rfl rfl h

set_option maxHeartbeats 2000000 in
theorem least_ok (tid mid b n : Nat) (vc : V) (c : List Int) (h : H) (hn1 : 1 ≤ n) (hn2 : n ≤ 120) (ht : Tb h tid mid b) (hc : SI h vc c) (hl : c.length ≤ n) :
    Ev T n_cyclo_table_least [.ptr tid 0, .int .i64 (n : Int), vc] h (fun v h' => ∃ u, v = .agg [.int .i64 ((leastF n c).1 : Int), u] ∧ SI h' u (leastF n c).2 ∧ Tb h' tid mid b ∧ FrM mid h h' ∧ (u = vc ∨ ∀ id off len cc, u = .sl id off len cc → h.next ≤ id)) := by
  refine Ev_of t_cyclo_table_least rfl ?_
  simp (disch := first | omega | (simp only [List.length_set, List.length_replicate, List.length_append, List.length_take, List.length_drop, List.length_cons, List.length_nil, List.length_map, List.length_range, ints_length] <;> omega)) only [go_sem, c_cyclo_table_least, initV_eq, boxV_ptr, boxV_one hc.what.1 hc.what.2.1]
  obtain ⟨B, hB⟩ : ∃ B, h.next = B := ⟨_, rfl⟩
  rw [hB]
  have htl := ht.tlt
  have hml := ht.mlt
  refine Wp_loop (fun f vars h1 => ∃ (n' : Nat) (c' : List Int) (vc' x y : V), (∃ g : Nat → V, vars = [g 0, g 1, g 2, .ptr B 0, .ptr (B + 1) 0, .ptr (B + 2) 0, .ptr (B + 3) 0, g 7, g 8, g 9, g 10, g 11, g 12]) ∧
    h1.get B = some (.cells false [.ptr tid 0]) ∧ h1.get (B + 1) = some (.cells false [.int .i64 (n' : Int)]) ∧ h1.get (B + 2) = some (.cells false [vc']) ∧ h1.get (B + 3) = some (.cells false [x, y]) ∧
    Avoid h1 mid (B + 1) ∧ Avoid h1 mid (B + 2) ∧ Avoid h1 mid (B + 3) ∧ SI h1 vc' c' ∧ Tb h1 tid mid b ∧ FrM mid h h1 ∧ B + 3 < h1.next ∧ 1 ≤ n' ∧ n' ≤ 120 ∧ c'.length ≤ n' ∧ n' ≤ f ∧ leastG f n' c' = leastF n c ∧ (∀ z off len cc, B ≤ z → z ≤ B + 3 → vc' ≠ .sl z off len cc) ∧ (vc' = vc ∨ ∀ id off len cc, vc' = .sl id off len cc → h.next ≤ id)) n
    ⟨n, c, vc, .int .i64 0, .nils, ex_junk rfl, by simp only [H.get_new, H.next_new, hB]; repeat (first | rw [if_pos trivial] | rw [if_pos rfl] | rw [if_neg (by omega)]), by simp only [H.get_new, H.next_new, hB]; repeat (first | rw [if_pos trivial] | rw [if_pos rfl] | rw [if_neg (by omega)]), by simp only [H.get_new, H.next_new, hB]; repeat (first | rw [if_pos trivial] | rw [if_pos rfl] | rw [if_neg (by omega)]), by simp only [H.get_new, H.next_new, hB]; repeat (first | rw [if_pos trivial] | rw [if_pos rfl] | rw [if_neg (by omega)]), (ht.avoid (by omega)).fr ((((((Fr.refl h).new _).new _).new _).new _).get mid hml), (ht.avoid (by omega)).fr ((((((Fr.refl h).new _).new _).new _).new _).get mid hml), (ht.avoid (by omega)).fr ((((((Fr.refl h).new _).new _).new _).new _).get mid hml), hc.mono ((((Fr.refl h).new _).new _).new _ |>.new _), ht.fr ((((Fr.refl h).new _).new _).new _ |>.new _), Fr.toM ((((Fr.refl h).new _).new _).new _ |>.new _) mid, by simp only [H.next_new, hB]; omega, hn1, hn2, hl, Nat.le_refl _, rfl, fun z off len cc h1 h2 e => by (subst e; have := SV.ne_of hc; omega), .inl rfl⟩ ?_
  rintro f vars h1 ⟨n', c', vc', x, y, ⟨g, rfl⟩, hb0, hb1, hb2, hb3, ha1, ha2, ha4, hc1, ht1, hf1, hB1, hn1', hn2', hl', hnf, hfin, hvb, hvf⟩
  have e0 : h1.cell B 0 = some (.ptr tid 0) := by rw [H.cell_of hb0]; rfl
  have e1 : h1.cell (B + 1) 0 = some (.int .i64 (n' : Int)) := by rw [H.cell_of hb1]; rfl
  have e2 : h1.cell (B + 2) 0 = some vc' := by rw [H.cell_of hb2]; rfl
  simp (disch := first | omega | (simp only [List.length_set, List.length_replicate, List.length_append, List.length_take, List.length_drop, List.length_cons, List.length_nil, List.length_map, List.length_range, ints_length] <;> omega)) only [go_sem, e0, e1, e2]
  refine (primes_ok n' h1).mono ?_
  rintro v2 h2 ⟨rfl, rfl⟩
  simp (disch := first | omega | (simp only [List.length_set, List.length_replicate, List.length_append, List.length_take, List.length_drop, List.length_cons, List.length_nil, List.length_map, List.length_range, ints_length] <;> omega)) only [go_sem]
  generalize hrc : LRec.mk _ _ _ _ _ _ = rc
  refine ⟨rfl, ?_⟩
  obtain ⟨nb, hnb⟩ : ∃ nb, h1.next = nb := ⟨_, rfl⟩
  rw [hnb]
  have hBd : ∀ q l hh, (hh.get (nb + 1) = some (.loop rc) ∧ hh.get B = some (.cells false [.ptr tid 0]) ∧ hh.get (B + 1) = some (.cells false [.int .i64 (n' : Int)]) ∧ hh.get (B + 2) = some (.cells false [vc']) ∧ hh.get (B + 3) = some (.cells false [x, y]) ∧
      Avoid hh mid (B + 1) ∧ Avoid hh mid (B + 2) ∧ Avoid hh mid (B + 3) ∧ Avoid hh mid nb ∧ SI hh vc' c' ∧ Tb hh tid mid b ∧ FrM mid h hh ∧ nb + 1 < hh.next ∧ (∀ e ∈ (q :: l : List Nat), e ∈ prOf n') ∧ (q :: l).findSome? (fun q => (lowerF n' q c').map (fun d => (q, d))) = stepF n' c') →
      Ey T (nb + 1) [.int .i64 (q : Int)] hh (fun v hh' => hh'.get nb = hh.get nb ∧ (v = .bool true ∧ (hh'.get (nb + 1) = some (.loop rc) ∧ hh'.get B = some (.cells false [.ptr tid 0]) ∧ hh'.get (B + 1) = some (.cells false [.int .i64 (n' : Int)]) ∧ hh'.get (B + 2) = some (.cells false [vc']) ∧ hh'.get (B + 3) = some (.cells false [x, y]) ∧
      Avoid hh' mid (B + 1) ∧ Avoid hh' mid (B + 2) ∧ Avoid hh' mid (B + 3) ∧ Avoid hh' mid nb ∧ SI hh' vc' c' ∧ Tb hh' tid mid b ∧ FrM mid h hh' ∧ nb + 1 < hh'.next ∧ (∀ e ∈ l, e ∈ prOf n') ∧ l.findSome? (fun q => (lowerF n' q c').map (fun d => (q, d))) = stepF n' c') ∨
      v = .bool false ∧ ∃ d vd, hh'.get (nb + 1) = some (.loop { rc with st := .done, pend := some (.exit 1) }) ∧ hh'.get B = some (.cells false [.ptr tid 0]) ∧ hh'.get (B + 1) = some (.cells false [.int .i64 ((n' / q : Nat) : Int)]) ∧ hh'.get (B + 2) = some (.cells false [vd]) ∧ hh'.get (B + 3) = some (.cells false [x, y]) ∧
      Avoid hh' mid (B + 1) ∧ Avoid hh' mid (B + 2) ∧ Avoid hh' mid (B + 3) ∧ SI hh' vd d ∧ Tb hh' tid mid b ∧ FrM mid h hh' ∧ nb + 1 < hh'.next ∧ q ∈ prOf n' ∧ lowerF n' q c' = some d ∧ stepF n' c' = some (q, d) ∧ (∀ z off len cc, B ≤ z → z ≤ B + 3 → vd ≠ .sl z off len cc) ∧ (∀ id off len cc, vd = .sl id off len cc → h.next ≤ id))) := by
    rintro q l hh ⟨hr, k0, k1, k2, k3, a1, a2, a4, a3, hsi, htb, hfr, hnx, hmem, hfs⟩
    refine Ey_of hr (by rw [← hrc]; rfl) ?_
    have hq := lowOk hn1' hn2' (hmem q (List.mem_cons_self ..))
    have hobj : ∀ ro vs, hh.get (nb + 1) ≠ some (.cells ro vs) := fun ro vs e => by rw [hr] at e; cases e
    subst hrc
    simp (disch := first | omega | (simp only [List.length_set, List.length_replicate, List.length_append, List.length_take, List.length_drop, List.length_cons, List.length_nil, List.length_map, List.length_range, ints_length] <;> omega)) only [go_sem]
    refine ⟨_, hr, rfl, ?_⟩
    have c0 : hh.cell B 0 = some (.ptr tid 0) := by rw [H.cell_of k0]; rfl
    have c1 : hh.cell (B + 1) 0 = some (.int .i64 (n' : Int)) := by rw [H.cell_of k1]; rfl
    have c2 : hh.cell (B + 2) 0 = some vc' := by rw [H.cell_of k2]; rfl
    simp (disch := first | omega | (simp only [List.length_set, List.length_replicate, List.length_append, List.length_take, List.length_drop, List.length_cons, List.length_nil, List.length_map, List.length_range, ints_length] <;> omega)) only [go_sem, c0, c1, c2, List.zip_cons_cons, List.zip_nil_left]
    generalize hrb : Ob.loop _ = rb
    have hne1 : nb + 1 ≠ tid := by omega
    have hne2 : nb + 1 ≠ mid := by omega
    have htb2 := htb.set hne1 hne2 (htb.avoid_obj hobj) (some rb)
    have hsi2 : SI (hh.set (nb + 1) (some rb)) vc' c' := SV.set_obj hsi hobj (some rb)
    have hfr2 : FrM mid h (hh.set (nb + 1) (some rb)) := hfr.set (by omega) (some rb)
    have a1' : Avoid (hh.set (nb + 1) (some rb)) mid (B + 1) := a1.fr (H.get_set_ne _ (by omega) _)
    have a2' : Avoid (hh.set (nb + 1) (some rb)) mid (B + 2) := a2.fr (H.get_set_ne _ (by omega) _)
    have a4' : Avoid (hh.set (nb + 1) (some rb)) mid (B + 3) := a4.fr (H.get_set_ne _ (by omega) _)
    have a3' : Avoid (hh.set (nb + 1) (some rb)) mid nb := a3.fr (H.get_set_ne _ (by omega) _)
    have hr2 : (hh.set (nb + 1) (some rb)).get (nb + 1) = some rb := H.get_set_same ..
    have k0' : (hh.set (nb + 1) (some rb)).get B = some (.cells false [.ptr tid 0]) := by rw [H.get_set_ne _ (by omega)]; exact k0
    have k1' : (hh.set (nb + 1) (some rb)).get (B + 1) = some (.cells false [.int .i64 (n' : Int)]) := by rw [H.get_set_ne _ (by omega)]; exact k1
    have k2' : (hh.set (nb + 1) (some rb)).get (B + 2) = some (.cells false [vc']) := by rw [H.get_set_ne _ (by omega)]; exact k2
    have k3' : (hh.set (nb + 1) (some rb)).get (B + 3) = some (.cells false [x, y]) := by rw [H.get_set_ne _ (by omega)]; exact k3
    have kn : (hh.set (nb + 1) (some rb)).get nb = hh.get nb := H.get_set_ne _ (by omega) _
    have hnx2 : nb + 1 < (hh.set (nb + 1) (some rb)).next := hnx
    generalize hh.set (nb + 1) (some rb) = h3 at *
    refine (lower_ok tid mid b n' q vc' c' h3 hq (by have := htb2.tb; have := htb2.tlt; omega) htb2 hsi2 hl').mono ?_
    rintro v4 h4 ⟨htb4, hfr4, u, t, rfl, hlow⟩
    have nm : ∀ z, z < nb + 2 → z ≠ mid → h4.get z = h3.get z := fun z hz hzm => hfr4.get z (by omega) hzm
    have hmB : mid < B := by omega
    have j0 := (nm B (by omega) (by omega)).trans k0'
    have j1 := (nm (B + 1) (by omega) (by omega)).trans k1'
    have j2 := (nm (B + 2) (by omega) (by omega)).trans k2'
    have j3 := (nm (B + 3) (by omega) (by omega)).trans k3'
    have jr := (nm (nb + 1) (by omega) (by omega)).trans hr2
    have jn := (nm nb (by omega) (by omega)).trans kn
    have a1'' := hfr4.av htb2.mlt (B + 1) (by omega) a1'
    have a2'' := hfr4.av htb2.mlt (B + 2) (by omega) a2'
    have a4'' := hfr4.av htb2.mlt (B + 3) (by omega) a4'
    have a3'' := hfr4.av htb2.mlt nb (by omega) a3'
    have d1 : h4.cell (B + 1) 0 = some (.int .i64 (n' : Int)) := by rw [H.cell_of j1]; rfl
    simp (disch := first | omega | (simp only [List.length_set, List.length_replicate, List.length_append, List.length_take, List.length_drop, List.length_cons, List.length_nil, List.length_map, List.length_range, ints_length] <;> omega)) only [go_sem, List.getElem?_cons_zero, List.getElem?_cons_succ]
    cases hlw : lowerF n' q c' with
    | none =>
      rw [hlw] at hlow
      simp only at hlow
      subst hlow
      simp (disch := first | omega | (simp only [List.length_set, List.length_replicate, List.length_append, List.length_take, List.length_drop, List.length_cons, List.length_nil, List.length_map, List.length_range, ints_length] <;> omega)) only [go_sem]
      refine ⟨_, by rw [jr, ← hrb], ?_⟩
      have hobj4 : ∀ ro vs, h4.get (nb + 1) ≠ some (.cells ro vs) := fun ro vs e => by rw [jr, ← hrb] at e; cases e
      refine ⟨by rw [H.get_set_ne _ (by omega)]; exact jn, .inl ⟨rfl, H.get_set_same .., by rw [H.get_set_ne _ (by omega)]; exact j0, by rw [H.get_set_ne _ (by omega)]; exact j1, by rw [H.get_set_ne _ (by omega)]; exact j2, by rw [H.get_set_ne _ (by omega)]; exact j3,
        a1''.fr (H.get_set_ne _ (by omega) _), a2''.fr (H.get_set_ne _ (by omega) _), a4''.fr (H.get_set_ne _ (by omega) _), a3''.fr (H.get_set_ne _ (by omega) _), SV.set_obj (hsi2.monoM htb2.isMap hfr4) hobj4 _, htb4.set hne1 hne2 (htb4.avoid_obj hobj4) _, (hfr2.trans hfr4).set (by omega) _, by rw [H.next_set]; have := hfr4.next; omega, fun e he => hmem e (List.mem_cons_of_mem _ he), ?_⟩⟩
      rw [← hfs, List.findSome?_cons, hlw]; rfl
    | some d =>
      rw [hlw] at hlow
      simp only at hlow
      obtain ⟨rfl, hu, huf⟩ := hlow
      have hnx3 := hfr4.next
      have ed : (n' : Int).tdiv (q : Int) = ((n' / q : Nat) : Int) := rfl
      have hdl := Nat.div_le_self n' q
      have hq2 := hq.q2
      obtain ⟨m', hm'⟩ : ∃ m', n' / q = m' := ⟨_, rfl⟩
      rw [hm'] at ed hdl
      rw [hm']
      simp (disch := first | omega | (simp only [List.length_set, List.length_replicate, List.length_append, List.length_take, List.length_drop, List.length_cons, List.length_nil, List.length_map, List.length_range, ints_length] <;> omega)) only [go_sem, d1, ed, j1, hu.st1, j2]
      have hstep : stepF n' c' = some (q, d) := by rw [← hfs, List.findSome?_cons, hlw]; rfl
      have hu1 : SI (h4.set (B + 1) (some (.cells false [.int .i64 (m' : Int)]))) u d := SV.set_ne hu (fun off len cc e => by have := huf _ _ _ _ e; omega) _
      have hu2 : SI ((h4.set (B + 1) (some (.cells false [.int .i64 (m' : Int)]))).set (B + 2) (some (.cells false [u]))) u d := SV.set_ne hu1 (fun off len cc e => by have := huf _ _ _ _ e; omega) _
      have ht2' := ((htb4.set (x := B + 1) (by omega) (by omega) a1'' (some (.cells false [.int .i64 (m' : Int)]))).set (x := B + 2) (by omega) (by omega) (a2''.fr (H.get_set_ne _ (by omega) _)) (some (.cells false [u])))
      have hfr5 : FrM mid h ((h4.set (B + 1) (some (.cells false [.int .i64 (m' : Int)]))).set (B + 2) (some (.cells false [u]))) := ((hfr2.trans hfr4).set (by omega) _).set (by omega) _
      have g1 : ((h4.set (B + 1) (some (.cells false [.int .i64 (m' : Int)]))).set (B + 2) (some (.cells false [u]))).get (B + 1) = some (.cells false [.int .i64 (m' : Int)]) := by rw [H.get_set_ne _ (by omega), H.get_set_same]
      have g2 : ((h4.set (B + 1) (some (.cells false [.int .i64 (m' : Int)]))).set (B + 2) (some (.cells false [u]))).get (B + 2) = some (.cells false [u]) := H.get_set_same ..
      have g3 : ∀ z, z ≠ B + 1 → z ≠ B + 2 → ((h4.set (B + 1) (some (.cells false [.int .i64 (m' : Int)]))).set (B + 2) (some (.cells false [u]))).get z = h4.get z := fun z h1 h2 => by rw [H.get_set_ne _ h2, H.get_set_ne _ h1]
      have gn : ((h4.set (B + 1) (some (.cells false [.int .i64 (m' : Int)]))).set (B + 2) (some (.cells false [u]))).next = h4.next := rfl
      have a1f := a1''.fr (g3 mid (by omega) (by omega))
      have a2f := a2''.fr (g3 mid (by omega) (by omega))
      have a4f := a4''.fr (g3 mid (by omega) (by omega))
      generalize ((h4.set (B + 1) (some (.cells false [.int .i64 (m' : Int)]))).set (B + 2) (some (.cells false [u]))) = h5 at *
      have jr5 := (g3 (nb + 1) (by omega) (by omega)).trans jr
      have hobj5 : ∀ ro vs, h5.get (nb + 1) ≠ some (.cells ro vs) := fun ro vs e => by rw [jr5, ← hrb] at e; cases e
      refine ⟨_, by rw [jr5, ← hrb], ?_⟩
      refine ⟨by rw [H.get_set_ne _ (by omega), g3 nb (by omega) (by omega)]; exact jn, .inr ⟨rfl, d, u, H.get_set_same .., by rw [H.get_set_ne _ (by omega), g3 B (by omega) (by omega)]; exact j0, by rw [H.get_set_ne _ (by omega)]; exact g1, by rw [H.get_set_ne _ (by omega)]; exact g2, by rw [H.get_set_ne _ (by omega), g3 _ (by omega) (by omega)]; exact j3,
        a1f.fr (H.get_set_ne _ (by omega) _), a2f.fr (H.get_set_ne _ (by omega) _), a4f.fr (H.get_set_ne _ (by omega) _), SV.set_obj hu2 hobj5 _, ht2'.set hne1 hne2 (ht2'.avoid_obj hobj5) _, hfr5.set (by omega) _, by rw [H.next_set]; omega, hmem q (List.mem_cons_self ..), rfl, hstep, fun z off len cc h1 h2 e => by have := huf _ _ _ _ e; omega, fun id off len cc e => by have := huf _ _ _ _ e; omega⟩⟩
  have hvn : ∀ off len cc, vc' ≠ .sl nb off len cc := fun off len cc e => by
    subst e
    have := SV.ne_of hc1; omega
  refine (primes1_ok (nb + 1) nb (fun l hh => hh.get (nb + 1) = some (.loop rc) ∧ hh.get B = some (.cells false [.ptr tid 0]) ∧ hh.get (B + 1) = some (.cells false [.int .i64 (n' : Int)]) ∧ hh.get (B + 2) = some (.cells false [vc']) ∧ hh.get (B + 3) = some (.cells false [x, y]) ∧
      Avoid hh mid (B + 1) ∧ Avoid hh mid (B + 2) ∧ Avoid hh mid (B + 3) ∧ Avoid hh mid nb ∧ SI hh vc' c' ∧ Tb hh tid mid b ∧ FrM mid h hh ∧ nb + 1 < hh.next ∧ (∀ e ∈ l, e ∈ prOf n') ∧ l.findSome? (fun q => (lowerF n' q c').map (fun d => (q, d))) = stepF n' c')
    (fun hh' => ∃ q d vd, hh'.get (nb + 1) = some (.loop { rc with st := .done, pend := some (.exit 1) }) ∧ hh'.get B = some (.cells false [.ptr tid 0]) ∧ hh'.get (B + 1) = some (.cells false [.int .i64 ((n' / q : Nat) : Int)]) ∧ hh'.get (B + 2) = some (.cells false [vd]) ∧ hh'.get (B + 3) = some (.cells false [x, y]) ∧
      Avoid hh' mid (B + 1) ∧ Avoid hh' mid (B + 2) ∧ Avoid hh' mid (B + 3) ∧ SI hh' vd d ∧ Tb hh' tid mid b ∧ FrM mid h hh' ∧ nb + 1 < hh'.next ∧ q ∈ prOf n' ∧ lowerF n' q c' = some d ∧ stepF n' c' = some (q, d) ∧ (∀ z off len cc, B ≤ z → z ≤ B + 3 → vd ≠ .sl z off len cc) ∧ (∀ id off len cc, vd = .sl id off len cc → h.next ≤ id)) ?_ ?_ n' hn1' hn2' _ ?_ ?_).mono ?_
  · rintro l hh z ⟨hr, k0, k1, k2, k3, a1, a2, a4, a3, hsi, htb, hfr, hnx, hmem, hfs⟩
    refine ⟨by rw [H.get_set_ne _ (by omega)]; exact hr, by rw [H.get_set_ne _ (by omega)]; exact k0, by rw [H.get_set_ne _ (by omega)]; exact k1, by rw [H.get_set_ne _ (by omega)]; exact k2, by rw [H.get_set_ne _ (by omega)]; exact k3,
      a1.fr (H.get_set_ne _ (by omega) _), a2.fr (H.get_set_ne _ (by omega) _), a4.fr (H.get_set_ne _ (by omega) _), a3.fr (H.get_set_ne _ (by omega) _), SV.set_ne hsi hvn _, htb.set (by omega) (by omega) a3 _, hfr.set (by omega) _, hnx, hmem, hfs⟩
  · intro q l hh hI
    refine (hBd q l hh hI).mono ?_
    rintro v hh' ⟨hn, ⟨hv, h9⟩ | ⟨hv, d, vd, h9⟩⟩
    · exact ⟨hn, .inl ⟨hv, h9⟩⟩
    · exact ⟨hn, .inr ⟨hv, q, d, vd, h9⟩⟩
  · rw [H.get_new_ne _ (by rw [H.next_new]; omega), ← hnb, H.get_new_same]
  · have hF : Fr h1 ((h1.new (.cells false [.int .i64 (n' : Int)])).new (.loop rc)) := ((Fr.refl h1).new _).new _
    have hgf : ∀ z, z < nb → ((h1.new (.cells false [.int .i64 (n' : Int)])).new (.loop rc)).get z = h1.get z := fun z hz => hF.get z (by omega)
    refine ⟨?_, by rw [hgf B (by omega)]; exact hb0, by rw [hgf _ (by omega)]; exact hb1, by rw [hgf _ (by omega)]; exact hb2, by rw [hgf _ (by omega)]; exact hb3, ha1.fr (hgf _ (by omega)), ha2.fr (hgf _ (by omega)), ha4.fr (hgf _ (by omega)), (ht1.avoid (by omega)).fr (hgf _ (by omega)), hc1.mono hF, ht1.fr hF, hf1.trans (hF.toM mid), by simp only [H.next_new]; omega, fun e he => he, rfl⟩
    rw [show nb + 1 = (h1.new (.cells false [.int .i64 (n' : Int)])).next by rw [H.next_new, hnb], H.get_new_same]
  · rintro v5 h5 (⟨hr, k0, k1, k2, k3, a1, a2, a4, a3, hsi, htb, hfr, hnx, hmem, hfs⟩ | ⟨q, d, vd, hr, k0, k1, k2, k3, a1, a2, a4, hsi, htb, hfr, hnx, hmem, hlw, hst, hvd, hvdf⟩)
    · refine ⟨rc, hr, by rw [← hrc]; simp, ?_⟩
      have hobj : ∀ ro vs, h5.get (nb + 1) ≠ some (.cells ro vs) := fun ro vs e => by rw [hr] at e; cases e
      rw [show rc.pend = none by rw [← hrc]]
      generalize hrb : Ob.loop _ = rb
      have d1 : h5.cell (B + 1) 0 = some (.int .i64 (n' : Int)) := by rw [H.cell_of k1]; rfl
      have d2 : h5.cell (B + 2) 0 = some vc' := by rw [H.cell_of k2]; rfl
      have hbl := bldV_two (z1 := .int .i64 0) (z2 := .nils) (v := .int .i64 (n' : Int)) rfl rfl hsi.what.1 hsi.what.2.1
      have hst2 := fun hh => stV_agg2 hh (B + 3) 0 (v := .int .i64 (n' : Int)) rfl hsi.what.2.1
      simp (disch := first | omega | (simp only [List.length_set, List.length_replicate, List.length_append, List.length_take, List.length_drop, List.length_cons, List.length_nil, List.length_map, List.length_range, ints_length] <;> omega)) only [go_sem, Option.getD_none, d1, d2, hbl, hst2, k3]
      have hrow := row_two (h := (h5.set (nb + 1) (some rb)).set (B + 3) (some (.cells false [.int .i64 (n' : Int), vc']))) (H.get_set_same ..)
      simp (disch := first | omega | (simp only [List.length_set, List.length_replicate, List.length_append, List.length_take, List.length_drop, List.length_cons, List.length_nil, List.length_map, List.length_range, ints_length] <;> omega)) only [go_sem, hrow]
      have hst0 : stepF n' c' = none := by rw [← hfs]; rfl
      have hfin2 : leastF n c = (n', c') := by
        rw [← hfin]
        obtain ⟨f', rfl⟩ : ∃ f', f = f' + 1 := ⟨f - 1, by omega⟩
        simp only [leastG, hst0]
      rw [hfin2]
      have ht6 := (htb.set (x := nb + 1) (by omega) (by omega) (htb.avoid_obj hobj) (some rb))
      have hs6 : SI (h5.set (nb + 1) (some rb)) vc' c' := SV.set_obj hsi hobj _
      refine ⟨_, rfl, ?_, ht6.set (by omega) (by omega) (a4.fr (H.get_set_ne _ (by omega) _)) _, (hfr.set (by omega) _).set (by omega) _, (by rw [hB] at hvf; exact hvf)⟩
      exact SV.set_ne hs6 (fun off len cc => hvb (B + 3) off len cc (by omega) (by omega)) _
    · refine ⟨_, hr, by simp, ?_⟩
      have hobj : ∀ ro vs, h5.get (nb + 1) ≠ some (.cells ro vs) := fun ro vs e => by rw [hr] at e; cases e
      simp only [Option.getD_some]
      generalize hrb : Ob.loop _ = rb
      simp (disch := first | omega | (simp only [List.length_set, List.length_replicate, List.length_append, List.length_take, List.length_drop, List.length_cons, List.length_nil, List.length_map, List.length_range, ints_length] <;> omega)) only [go_sem]
      have hok := lowOk hn1' hn2' hmem
      have hlt := hok.lt
      have hq2 := hok.q2
      have hdl := lowerF_len hok hlw
      have hpl := phi_len hlt.1 (show n' / q ≤ 120 by omega)
      obtain ⟨f', rfl⟩ : ∃ f', f = f' + 1 := ⟨f - 1, by omega⟩
      refine ⟨f', by omega, n' / q, d, vd, x, y, ex_junk rfl, k0, k1, k2, k3, a1.fr (H.get_set_ne _ (by omega) _), a2.fr (H.get_set_ne _ (by omega) _), a4.fr (H.get_set_ne _ (by omega) _), SV.set_obj hsi hobj _,
        htb.set (x := nb + 1) (by omega) (by omega) (htb.avoid_obj hobj) _, hfr.set (by omega) _, by omega, hlt.1, by omega, by omega, by omega, ?_, hvd, .inr hvdf⟩
      rw [← hfin]
      simp only [leastG, hst]
end Go.Proofs.Ythfabknpogbcaaa
/- Contracts: made, Check. -/
namespace Go.Proofs.Ythfabknpogbcaaa
open Go Go.Ay
set_option maxRecDepth 100000
noncomputable section

/-- A number. -/
def CycV (h : H) (v : V) (a : Int × List Int) : Prop := ∃ u, v = .agg [.int .i64 a.1, u] ∧ SI h u a.2
theorem CycV.mono {h h' : H} {v : V} {a : Int × List Int} (c : CycV h v a) (f : Fr h h') : CycV h' v a := by
  obtain ⟨u, h1, h2⟩ := c; exact ⟨u, h1, h2.mono f⟩
theorem CycV.zero (h : H) : CycV h (.agg [.int .i64 0, .nils]) (0, []) := ⟨_, rfl, SI.nils h⟩

/-- A new number. -/
def Frs (u : V) (b : Nat) : Prop := ∀ id off n c, u = .sl id off n c → b ≤ id
def CycO (h : H) (v : V) (a : Int × List Int) (b : Nat) : Prop := ∃ u, v = .agg [.int .i64 a.1, u] ∧ SI h u a.2 ∧ Frs u b
theorem CycO.cv {h : H} {v : V} {a : Int × List Int} {b : Nat} (c : CycO h v a b) : CycV h v a := by
  obtain ⟨u, h1, h2, _⟩ := c; exact ⟨u, h1, h2⟩
theorem CycO.mono {h h' : H} {v : V} {a : Int × List Int} {b : Nat} (c : CycO h v a b) (f : Fr h h') : CycO h' v a b := by
  obtain ⟨u, h1, h2, h3⟩ := c; exact ⟨u, h1, h2.mono f, h3⟩
theorem CycO.le {h : H} {v : V} {a : Int × List Int} {b b' : Nat} (c : CycO h v a b) (hb : b' ≤ b) : CycO h v a b' := by
  obtain ⟨u, h1, h2, h3⟩ := c; exact ⟨u, h1, h2, fun id off n c e => Nat.le_trans hb (h3 id off n c e)⟩
theorem CycO.set {h : H} {v : V} {a : Int × List Int} {b x : Nat} (c : CycO h v a b) (hx : x < b) (o : Option Ob) : CycO (h.set x o) v a b := by
  obtain ⟨u, h1, h2, h3⟩ := c; exact ⟨u, h1, SV.set_ne h2 (fun off len cc e => by have := h3 _ _ _ _ e; omega) o, h3⟩
theorem CycO.zero (h : H) (b : Nat) : CycO h (.agg [.int .i64 0, .nils]) (0, []) b := ⟨_, rfl, SI.nils h, fun _ _ _ _ e => by cases e⟩

def madeF (n : Nat) (c : List Int) : (Int × List Int) × Int :=
  let r := leastF n (redF n c)
  if r.2.any overF then ((0, []), 5) else (((r.1 : Int), r.2), 0)

theorem leastG_len : ∀ (f n : Nat) (c : List Int), 1 ≤ n → n ≤ 120 → c.length ≤ n → 1 ≤ (leastG f n c).1 ∧ (leastG f n c).1 ≤ 120 ∧ (leastG f n c).2.length ≤ (leastG f n c).1
  | 0, n, c, h1, h2, h3 => ⟨h1, h2, h3⟩
  | f + 1, n, c, h1, h2, h3 => by
    rw [leastG]
    cases hs : stepF n c with
    | none => exact ⟨h1, h2, h3⟩
    | some p =>
      obtain ⟨q, d⟩ := p
      simp only [stepF] at hs
      obtain ⟨q', hq', hl⟩ := List.exists_of_findSome?_eq_some hs
      simp only [Option.map_eq_some_iff] at hl
      obtain ⟨d', hd', he⟩ := hl
      cases he
      have hok := lowOk h1 h2 hq'
      have hlt := hok.lt
      have := lowerF_len hok hd'
      have hp := phi_len hlt.1 (show n / q ≤ 120 by omega)
      exact leastG_len f (n / q) d hlt.1 (by omega) (by omega)

theorem made_ok (n : Nat) (vc : V) (c : List Int) (h : H) (h1 : 1 ≤ n) (h2 : n ≤ 120) (hc : SI h vc c) (hl : c.length < 1000000) :
    Ev T n_cyclo_made [.int .i64 (n : Int), vc] h (fun v h' => ∃ w, v = .tup [w, .int .i64 (madeF n c).2] ∧ CycO h' w (madeF n c).1 h.next ∧ Fr h h') := by
  refine Ev_of t_cyclo_made rfl ?_
  simp (disch := first | omega | (simp only [List.length_set, List.length_replicate, List.length_append, List.length_take, List.length_drop, List.length_cons, List.length_nil, List.length_map, List.length_range, ints_length] <;> omega)) only [go_sem, c_cyclo_made, initV_eq]
  have hfa : Fr h (h.new (.cells false [.int .i64 0, .nils])) := (Fr.refl h).new _
  have hga : (h.new (.cells false [.int .i64 0, .nils])).get h.next = some (.cells false [.int .i64 0, .nils]) := H.get_new_same ..
  have hna : (h.new (.cells false [.int .i64 0, .nils])).next = h.next + 1 := H.next_new ..
  generalize h.new (.cells false [.int .i64 0, .nils]) = ha at *
  refine (begin_ok ha).mono ?_
  rintro v1 hb ⟨tid, mid, rfl, ht, hfb⟩
  simp (disch := first | omega | (simp only [List.length_set, List.length_replicate, List.length_append, List.length_take, List.length_drop, List.length_cons, List.length_nil, List.length_map, List.length_range, ints_length] <;> omega)) only [go_sem]
  have htb := ht.tb
  have hmb := ht.mb
  refine (reduced_ok tid mid _ n vc c hb h1 h2 ht ((hc.mono hfa).mono hfb) hl).mono ?_
  rintro v2 hd ⟨ht2, ho2, hf2, _⟩
  have hrl := redF_len n c
  have hpl := phi_len h1 h2
  simp (disch := first | omega | (simp only [List.length_set, List.length_replicate, List.length_append, List.length_take, List.length_drop, List.length_cons, List.length_nil, List.length_map, List.length_range, ints_length] <;> omega)) only [go_sem]
  refine (least_ok tid mid _ n v2 (redF n c) hd h1 h2 ht2 ho2.sv (by omega)).mono ?_
  rintro v3 he ⟨u, rfl, hu, ht3, hf3, huf⟩
  have hF : Fr ha he := (hfb.thenM hf2 hmb).thenM hf3 hmb
  have hge := (hF.get h.next (by omega)).trans hga
  have hL := leastG_len n n (redF n c) h1 h2 (by omega)
  have hst := fun hh => stV_agg2 hh he.next 0 (v := .int .i64 ((leastF n (redF n c)).1 : Int)) (u := u) rfl hu.what.2.1
  have hst2 := fun hh => stV_agg2 hh h.next 0 (v := .int .i64 0) (u := .nils) rfl rfl
  have hst3 := fun hh => stV_agg2 hh h.next 0 (v := .int .i64 ((leastF n (redF n c)).1 : Int)) (u := u) rfl hu.what.2.1
  have hxn := hF.next
  simp (disch := first | omega | (simp only [List.length_set, List.length_replicate, List.length_append, List.length_take, List.length_drop, List.length_cons, List.length_nil, List.length_map, List.length_range, ints_length] <;> omega)) only [go_sem, hst, List.getElem?_cons_zero, List.getElem?_cons_succ]
  have hu2 : SI ((he.new (.cells false [.int .i64 0, .nils])).set he.next (some (.cells false [.int .i64 ((leastF n (redF n c)).1 : Int), u]))) u (leastF n (redF n c)).2 :=
    SV.set_ne (SV.mono hu ((Fr.refl he).new _)) (fun off len cc e => by subst e; have := SV.ne_of hu; omega) _
  have hF2 : Fr ha ((he.new (.cells false [.int .i64 0, .nils])).set he.next (some (.cells false [.int .i64 ((leastF n (redF n c)).1 : Int), u]))) := (hF.new _).set hxn _
  have hgf : ((he.new (.cells false [.int .i64 0, .nils])).set he.next (some (.cells false [.int .i64 ((leastF n (redF n c)).1 : Int), u]))).get he.next = some (.cells false [.int .i64 ((leastF n (redF n c)).1 : Int), u]) := H.get_set_same ..
  generalize (he.new (.cells false [.int .i64 0, .nils])).set he.next (some (.cells false [.int .i64 ((leastF n (redF n c)).1 : Int), u])) = hg at *
  have hgg := (hF2.get h.next (by omega)).trans hga
  refine (contains_ok u _ (leastF n (redF n c)).2 overF _ hu2 (by have := hL.2.1; have := hL.2.2; unfold leastF; omega) test_over).mono ?_
  rintro v4 h4 ⟨rfl, rfl⟩
  simp (disch := first | omega | (simp only [List.length_set, List.length_replicate, List.length_append, List.length_take, List.length_drop, List.length_cons, List.length_nil, List.length_map, List.length_range, ints_length] <;> omega)) only [go_sem]
  refine iteW_bool (fun hp => ?_) (fun hp => ?_)
  · have hm : madeF n c = ((0, []), 5) := by simp only [madeF]; rw [if_pos hp]
    have hrow := row_two (h := h4.set h.next (some (.cells false [.int .i64 0, .nils]))) (H.get_set_same ..)
    simp (disch := first | omega | (simp only [List.length_set, List.length_replicate, List.length_append, List.length_take, List.length_drop, List.length_cons, List.length_nil, List.length_map, List.length_range, ints_length] <;> omega)) only [go_sem, hst2, hgg, hrow]
    rw [hm]
    exact ⟨_, rfl, CycO.zero _ _, (hfa.trans hF2).set (Nat.le_refl _) _⟩
  · have hm : madeF n c = ((((leastF n (redF n c)).1 : Int), (leastF n (redF n c)).2), 0) := by simp only [madeF]; rw [if_neg (by rw [hp]; simp)]
    have hrow := row_two (h := h4.set h.next (some (.cells false [.int .i64 ((leastF n (redF n c)).1 : Int), u]))) (H.get_set_same ..)
    have hrow4 := row_two hgf
    simp (disch := first | omega | (simp only [List.length_set, List.length_replicate, List.length_append, List.length_take, List.length_drop, List.length_cons, List.length_nil, List.length_map, List.length_range, ints_length] <;> omega)) only [go_sem, hst3, hgg, hrow, hrow4]
    rw [hm]
    exact ⟨_, rfl, ⟨_, rfl, SV.set_ne hu2 (fun off len cc e => by
      rcases huf with h7 | h7
      · rw [h7] at e
        rcases ho2 with ⟨h8, _⟩ | ⟨id', _, _, _, h8, _, _, h9, _⟩
        · rw [h8] at e; cases e
        · rw [h8] at e; cases e; have := hfb.next; omega
      · have := h7 _ _ _ _ e; have := hfb.next; have := hf2.next; omega) _, fun id off n c e => by
      rcases huf with h7 | h7
      · rw [h7] at e
        rcases ho2 with ⟨h8, _⟩ | ⟨id', _, _, _, h8, _, _, h9, _⟩
        · rw [h8] at e; cases e
        · rw [h8] at e; cases e; have := hfb.next; omega
      · have := h7 _ _ _ _ e; have := hfb.next; have := hf2.next; omega⟩, (hfa.trans hF2).set (Nat.le_refl _) _⟩
end
end Go.Proofs.Ythfabknpogbcaaa
/- Contracts: Check, Phi, Make, Root, Int. -/
namespace Go.Proofs.Ythfabknpogbcaaa
open Go Go.Ay
set_option maxRecDepth 100000
noncomputable section

def checkF (a : Int × List Int) : Int :=
  if a.1 < 1 ∨ 120 < a.1 then 2 else if a.2.length ≠ (phiF a.1.toNat).length - 1 then 3 else if a.2.any overF then 5 else if (leastF a.1.toNat a.2).1 < a.1.toNat then 3 else 0

set_option maxHeartbeats 1000000 in
theorem check_ok (v : V) (a : Int × List Int) (h : H) (ha : CycV h v a) (hl : a.2.length < 1000000) :
    Ev T n_cyclo_Check [v] h (fun v h' => v = .int .i64 (checkF a) ∧ Fr h h') := by
  obtain ⟨u, rfl, hu⟩ := ha
  obtain ⟨N, C⟩ := a
  refine Ev_of t_cyclo_Check rfl ?_
  simp (disch := first | omega | (simp only [List.length_set, List.length_replicate, List.length_append, List.length_take, List.length_drop, List.length_cons, List.length_nil, List.length_map, List.length_range, ints_length] <;> omega)) only [go_sem, c_cyclo_Check, initV_eq, boxV_agg2 h (v := .int .i64 N) rfl hu.what.2.1]
  have hfa : Fr h (h.new (.cells false [.int .i64 N, u])) := (Fr.refl h).new _
  have hga : (h.new (.cells false [.int .i64 N, u])).get h.next = some (.cells false [.int .i64 N, u]) := H.get_new_same ..
  have hna : (h.new (.cells false [.int .i64 N, u])).next = h.next + 1 := H.next_new ..
  generalize h.new (.cells false [.int .i64 N, u]) = ha at *
  by_cases h1 : N < 1
  · rw [decide_eq_true h1]
    simp (disch := first | omega | (simp only [List.length_set, List.length_replicate, List.length_append, List.length_take, List.length_drop, List.length_cons, List.length_nil, List.length_map, List.length_range, ints_length] <;> omega)) only [go_sem]
    exact ⟨by rw [checkF, if_pos (.inl h1)], hfa⟩
  rw [decide_eq_false h1]
  have c0 : ha.cell h.next 0 = some (.int .i64 N) := by rw [H.cell_of hga]; rfl
  have c1 : ha.cell h.next 1 = some u := by rw [H.cell_of hga]; rfl
  simp (disch := first | omega | (simp only [List.length_set, List.length_replicate, List.length_append, List.length_take, List.length_drop, List.length_cons, List.length_nil, List.length_map, List.length_range, ints_length] <;> omega)) only [go_sem, c0]
  refine iteW_dec (fun h2 => ?_) (fun h2 => ?_)
  · simp (disch := first | omega | (simp only [List.length_set, List.length_replicate, List.length_append, List.length_take, List.length_drop, List.length_cons, List.length_nil, List.length_map, List.length_range, ints_length] <;> omega)) only [go_sem]
    exact ⟨by rw [checkF, if_pos (.inr h2)], hfa⟩
  obtain ⟨n, hn⟩ : ∃ n : Nat, N = (n : Int) := ⟨N.toNat, by omega⟩
  subst hn
  simp (disch := first | omega | (simp only [List.length_set, List.length_replicate, List.length_append, List.length_take, List.length_drop, List.length_cons, List.length_nil, List.length_map, List.length_range, ints_length] <;> omega)) only [go_sem]
  refine (begin_ok ha).mono ?_
  rintro v1 hb ⟨tid, mid, rfl, ht, hfb⟩
  have htb := ht.tb
  have hmb := ht.mb
  have hab := hfa.trans hfb
  have hgb := (hfb.get h.next (by omega)).trans hga
  have d0 : hb.cell h.next 0 = some (.int .i64 (n : Int)) := by rw [H.cell_of hgb]; rfl
  have d1 : hb.cell h.next 1 = some u := by rw [H.cell_of hgb]; rfl
  have hub := hu.mono hab
  simp (disch := first | omega | (simp only [List.length_set, List.length_replicate, List.length_append, List.length_take, List.length_drop, List.length_cons, List.length_nil, List.length_map, List.length_range, ints_length] <;> omega)) only [go_sem, d0, d1, hub.lens]
  refine (phi_ok tid mid _ n _ (by omega) (by omega) (ht.fr ((Fr.refl hb).bump (by omega)))).mono ?_
  rintro v2 hd ⟨ht2, hp2, hf2⟩
  have hpl := phi_len (n := n) (by omega) (by omega)
  have hbd : Fr ha hd := Fr.thenM (hfb.bump (by omega)) hf2 hmb
  have hgd := (hbd.get h.next (by omega)).trans hga
  have e0 : hd.cell h.next 0 = some (.int .i64 (n : Int)) := by rw [H.cell_of hgd]; rfl
  have e1 : hd.cell h.next 1 = some u := by rw [H.cell_of hgd]; rfl
  simp (disch := first | omega | (simp only [List.length_set, List.length_replicate, List.length_append, List.length_take, List.length_drop, List.length_cons, List.length_nil, List.length_map, List.length_range, ints_length] <;> omega)) only [go_sem, e0, e1, hp2.lens, hub.eqV, if_true, if_false]
  have hN : (n : Int).toNat = n := Int.toNat_natCast n
  have hFd : Fr h hd := hfa.trans hbd
  refine iteW_dec (fun h3 => ?_) (fun h3 => ?_)
  · simp (disch := first | omega | (simp only [List.length_set, List.length_replicate, List.length_append, List.length_take, List.length_drop, List.length_cons, List.length_nil, List.length_map, List.length_range, ints_length] <;> omega)) only [go_sem]
    exact ⟨by rw [checkF, if_neg (by simp only; omega), if_pos (by simp only [hN]; omega)], hFd⟩
  simp (disch := first | omega | (simp only [List.length_set, List.length_replicate, List.length_append, List.length_take, List.length_drop, List.length_cons, List.length_nil, List.length_map, List.length_range, ints_length] <;> omega)) only [go_sem, e1]
  have hud := hu.mono hFd
  refine (contains_ok u _ C overF _ hud hl test_over).mono ?_
  rintro v3 h4 ⟨rfl, rfl⟩
  simp (disch := first | omega | (simp only [List.length_set, List.length_replicate, List.length_append, List.length_take, List.length_drop, List.length_cons, List.length_nil, List.length_map, List.length_range, ints_length] <;> omega)) only [go_sem]
  refine iteW_bool (fun h5 => ?_) (fun h5 => ?_)
  · simp (disch := first | omega | (simp only [List.length_set, List.length_replicate, List.length_append, List.length_take, List.length_drop, List.length_cons, List.length_nil, List.length_map, List.length_range, ints_length] <;> omega)) only [go_sem]
    exact ⟨by rw [checkF, if_neg (by simp only; omega), if_neg (by simp only [hN]; omega), if_pos h5], hFd⟩
  simp (disch := first | omega | (simp only [List.length_set, List.length_replicate, List.length_append, List.length_take, List.length_drop, List.length_cons, List.length_nil, List.length_map, List.length_range, ints_length] <;> omega)) only [go_sem, e0, e1]
  have hlen : C.length ≤ n := by omega
  refine (least_ok tid mid _ n u C _ (by omega) (by omega) (ht2.fr ((Fr.refl h4).bump (by omega))) (hud.mono ((Fr.refl h4).bump (by omega))) hlen).mono ?_
  rintro v5 h5' ⟨w, rfl, hw, ht5, hf5, _⟩
  have hb5 : Fr ha h5' := Fr.thenM (hbd.bump (by omega)) hf5 (by omega)
  have hg5 := (hb5.get h.next (by omega)).trans hga
  have f0 : h5'.cell h.next 0 = some (.int .i64 (n : Int)) := by rw [H.cell_of hg5]; rfl
  simp (disch := first | omega | (simp only [List.length_set, List.length_replicate, List.length_append, List.length_take, List.length_drop, List.length_cons, List.length_nil, List.length_map, List.length_range, ints_length] <;> omega)) only [go_sem, f0]
  refine iteW_dec (fun h6 => ?_) (fun h6 => ?_)
  · simp (disch := first | omega | (simp only [List.length_set, List.length_replicate, List.length_append, List.length_take, List.length_drop, List.length_cons, List.length_nil, List.length_map, List.length_range, ints_length] <;> omega)) only [go_sem]
    exact ⟨by rw [checkF, if_neg (by simp only; omega), if_neg (by simp only [hN]; omega), if_neg (by rw [h5]; simp), if_pos (by simp only [hN]; omega)], hfa.trans hb5⟩
  · simp (disch := first | omega | (simp only [List.length_set, List.length_replicate, List.length_append, List.length_take, List.length_drop, List.length_cons, List.length_nil, List.length_map, List.length_range, ints_length] <;> omega)) only [go_sem]
    exact ⟨by rw [checkF, if_neg (by simp only; omega), if_neg (by simp only [hN]; omega), if_neg (by rw [h5]; simp), if_neg (by simp only [hN]; omega)], hfa.trans hb5⟩

def phiP (n : Int) : List Int × Int := if n < 1 ∨ 120 < n then ([], 2) else (phiF n.toNat, 0)
theorem Phi_ok (n : Int) (h : H) : Ev T n_cyclo_Phi [.int .i64 n] h (fun v h' => ∃ u, v = .tup [u, .int .i64 (phiP n).2] ∧ SI h' u (phiP n).1 ∧ Fr h h') := by
  refine Ev_of t_cyclo_Phi rfl ?_
  simp (disch := first | omega | (simp only [List.length_set, List.length_replicate, List.length_append, List.length_take, List.length_drop, List.length_cons, List.length_nil, List.length_map, List.length_range, ints_length] <;> omega)) only [go_sem, c_cyclo_Phi, initV_eq]
  by_cases h1 : n < 1
  · rw [decide_eq_true h1]
    simp (disch := first | omega | (simp only [List.length_set, List.length_replicate, List.length_append, List.length_take, List.length_drop, List.length_cons, List.length_nil, List.length_map, List.length_range, ints_length] <;> omega)) only [go_sem]
    rw [phiP, if_pos (.inl h1)]
    exact ⟨_, rfl, SI.nils _, Fr.refl h⟩
  rw [decide_eq_false h1]
  simp (disch := first | omega | (simp only [List.length_set, List.length_replicate, List.length_append, List.length_take, List.length_drop, List.length_cons, List.length_nil, List.length_map, List.length_range, ints_length] <;> omega)) only [go_sem]
  refine iteW_dec (fun h2 => ?_) (fun h2 => ?_)
  · simp (disch := first | omega | (simp only [List.length_set, List.length_replicate, List.length_append, List.length_take, List.length_drop, List.length_cons, List.length_nil, List.length_map, List.length_range, ints_length] <;> omega)) only [go_sem]
    rw [phiP, if_pos (.inr h2)]
    exact ⟨_, rfl, SI.nils _, Fr.refl h⟩
  obtain ⟨m, hm⟩ : ∃ m : Nat, n = (m : Int) := ⟨n.toNat, by omega⟩
  subst hm
  simp (disch := first | omega | (simp only [List.length_set, List.length_replicate, List.length_append, List.length_take, List.length_drop, List.length_cons, List.length_nil, List.length_map, List.length_range, ints_length] <;> omega)) only [go_sem]
  refine (begin_ok _).mono ?_
  rintro v1 hb ⟨tid, mid, rfl, ht, hfb⟩
  simp (disch := first | omega | (simp only [List.length_set, List.length_replicate, List.length_append, List.length_take, List.length_drop, List.length_cons, List.length_nil, List.length_map, List.length_range, ints_length] <;> omega)) only [go_sem]
  refine (phi_ok tid mid _ m _ (by omega) (by omega) ht).mono ?_
  rintro v2 hd ⟨ht2, hp2, hf2⟩
  simp (disch := first | omega | (simp only [List.length_set, List.length_replicate, List.length_append, List.length_take, List.length_drop, List.length_cons, List.length_nil, List.length_map, List.length_range, ints_length] <;> omega)) only [go_sem]
  rw [phiP, if_neg (by omega), Int.toNat_natCast]
  exact ⟨_, rfl, hp2, hfb.thenM hf2 ht.mb⟩

def accF (ix : Nat → Nat) (val : Nat → Int) (l0 : List Int) : Nat → List Int
  | 0 => l0
  | k + 1 => (accF ix val l0 k).set (ix k) (W ((accF ix val l0 k).getD (ix k) 0 + val k))
theorem accF_len (ix : Nat → Nat) (val : Nat → Int) (l0 : List Int) : ∀ k, (accF ix val l0 k).length = l0.length
  | 0 => rfl
  | k + 1 => by rw [accF, List.length_set, accF_len ix val l0 k]
def makeF (n : Int) (c : List Int) : (Int × List Int) × Int :=
  if n < 1 ∨ 120 < n then ((0, []), 2) else if 1000 < c.length then ((0, []), 4) else if c.any overF then ((0, []), 5) else madeF n.toNat (accF (fun i => i % n.toNat) (fun i => c.getD i 0) (List.replicate n.toNat 0) c.length)

set_option maxHeartbeats 1000000 in
theorem make_ok (n : Int) (vc : V) (c : List Int) (h : H) (hc : SI h vc c) (hl : c.length < 1000000) :
    Ev T n_cyclo_Make [.int .i64 n, vc] h (fun v h' => ∃ w, v = .tup [w, .int .i64 (makeF n c).2] ∧ CycO h' w (makeF n c).1 h.next ∧ Fr h h') := by
  refine Ev_of t_cyclo_Make rfl ?_
  simp (disch := first | omega | (simp only [List.length_set, List.length_replicate, List.length_append, List.length_take, List.length_drop, List.length_cons, List.length_nil, List.length_map, List.length_range, ints_length] <;> omega)) only [go_sem, c_cyclo_Make, initV_eq]
  have hfa : Fr h (h.new (.cells false [.int .i64 0, .nils])) := (Fr.refl h).new _
  have hga : (h.new (.cells false [.int .i64 0, .nils])).get h.next = some (.cells false [.int .i64 0, .nils]) := H.get_new_same ..
  have hna : (h.new (.cells false [.int .i64 0, .nils])).next = h.next + 1 := H.next_new ..
  have hst2 := fun hh => stV_agg2 hh h.next 0 (v := .int .i64 0) (u := .nils) rfl rfl
  generalize h.new (.cells false [.int .i64 0, .nils]) = ha at *
  have hrow0 := row_two (h := ha.set h.next (some (.cells false [.int .i64 0, .nils]))) (H.get_set_same ..)
  have hzero : Fr h (ha.set h.next (some (.cells false [.int .i64 0, .nils]))) := hfa.set (Nat.le_refl _) _
  by_cases h1 : n < 1
  · rw [decide_eq_true h1]
    simp (disch := first | omega | (simp only [List.length_set, List.length_replicate, List.length_append, List.length_take, List.length_drop, List.length_cons, List.length_nil, List.length_map, List.length_range, ints_length] <;> omega)) only [go_sem, hst2, hga, hrow0]
    rw [makeF, if_pos (.inl h1)]
    exact ⟨_, rfl, CycO.zero _ _, hzero⟩
  rw [decide_eq_false h1]
  simp (disch := first | omega | (simp only [List.length_set, List.length_replicate, List.length_append, List.length_take, List.length_drop, List.length_cons, List.length_nil, List.length_map, List.length_range, ints_length] <;> omega)) only [go_sem]
  refine iteW_dec (fun h2 => ?_) (fun h2 => ?_)
  · simp (disch := first | omega | (simp only [List.length_set, List.length_replicate, List.length_append, List.length_take, List.length_drop, List.length_cons, List.length_nil, List.length_map, List.length_range, ints_length] <;> omega)) only [go_sem, hst2, hga, hrow0]
    rw [makeF, if_pos (.inr h2)]
    exact ⟨_, rfl, CycO.zero _ _, hzero⟩
  simp (disch := first | omega | (simp only [List.length_set, List.length_replicate, List.length_append, List.length_take, List.length_drop, List.length_cons, List.length_nil, List.length_map, List.length_range, ints_length] <;> omega)) only [go_sem, hc.lens]
  refine iteW_dec (fun h3 => ?_) (fun h3 => ?_)
  · simp (disch := first | omega | (simp only [List.length_set, List.length_replicate, List.length_append, List.length_take, List.length_drop, List.length_cons, List.length_nil, List.length_map, List.length_range, ints_length] <;> omega)) only [go_sem, hst2, hga, hrow0]
    rw [makeF, if_neg (by omega), if_pos (by omega)]
    exact ⟨_, rfl, CycO.zero _ _, hzero⟩
  simp (disch := first | omega | (simp only [List.length_set, List.length_replicate, List.length_append, List.length_take, List.length_drop, List.length_cons, List.length_nil, List.length_map, List.length_range, ints_length] <;> omega)) only [go_sem]
  refine (contains_ok vc _ c overF _ (hc.mono hfa) hl test_over).mono ?_
  rintro v3 h4 ⟨rfl, rfl⟩
  simp (disch := first | omega | (simp only [List.length_set, List.length_replicate, List.length_append, List.length_take, List.length_drop, List.length_cons, List.length_nil, List.length_map, List.length_range, ints_length] <;> omega)) only [go_sem]
  refine iteW_bool (fun h5 => ?_) (fun h5 => ?_)
  · simp (disch := first | omega | (simp only [List.length_set, List.length_replicate, List.length_append, List.length_take, List.length_drop, List.length_cons, List.length_nil, List.length_map, List.length_range, ints_length] <;> omega)) only [go_sem, hst2, hga, hrow0]
    rw [makeF, if_neg (by omega), if_neg (by omega), if_pos h5]
    exact ⟨_, rfl, CycO.zero _ _, hzero⟩
  obtain ⟨m, hm⟩ : ∃ m : Nat, n = (m : Int) := ⟨n.toNat, by omega⟩
  subst hm
  have hmk : makeF (m : Int) c = madeF m (accF (fun i => i % m) (fun i => c.getD i 0) (List.replicate m 0) c.length) := by
    rw [makeF, if_neg (by omega), if_neg (by omega), if_neg (by rw [h5]; simp), Int.toNat_natCast]
  rw [hmk]
  simp (disch := first | omega | (simp only [List.length_set, List.length_replicate, List.length_append, List.length_take, List.length_drop, List.length_cons, List.length_nil, List.length_map, List.length_range, ints_length] <;> omega)) only [go_sem, hc.lens]
  obtain ⟨cid, coff, hcs, hcid, hcc⟩ := hc.open
  have hnb : (h4.new (.cells false (ints (List.replicate m 0)))).next = h4.next + 1 := H.next_new ..
  have hgb : (h4.new (.cells false (ints (List.replicate m 0)))).get h4.next = some (.cells false (ints (List.replicate m 0))) := H.get_new_same ..
  have hfb : Fr h4 (h4.new (.cells false (ints (List.replicate m 0)))) := (Fr.refl h4).new _
  generalize h4.new (.cells false (ints (List.replicate m 0))) = hb at *
  refine Wp_loop (fun k' vars h3 => ∃ (k : Nat), (∃ g : Nat → V, vars = [.int .i64 (m : Int), vc, .ptr h.next 0, g 3, .sl h4.next 0 m (.kn m), g 5, g 6, g 7, g 8, g 9, vc, .int .i64 (c.length : Int), .int .i64 (k : Int), g 13]) ∧ k ≤ c.length ∧
    h3.get h4.next = some (.cells false (ints (accF (fun i => i % m) (fun i => c.getD i 0) (List.replicate m 0) k))) ∧ Fr h4 h3 ∧ h4.next < h3.next ∧ k' = c.length - k) c.length
    ⟨0, ex_junk rfl, Nat.zero_le _, hgb, hfb, by omega, rfl⟩ ?_
  rintro k' vars h3 ⟨k, ⟨g, rfl⟩, hk, hg3, hf3, hn3, rfl⟩
  have hal := accF_len (fun i => i % m) (fun i => c.getD i 0) (List.replicate m 0) k
  rw [List.length_replicate] at hal
  simp (disch := first | omega | (simp only [List.length_set, List.length_replicate, List.length_append, List.length_take, List.length_drop, List.length_cons, List.length_nil, List.length_map, List.length_range, ints_length] <;> omega)) only [go_sem]
  by_cases hkc : (k : Int) < (c.length : Int)
  · rw [decide_eq_true hkc]
    have hcc3 := cells_fr (hfa.trans hf3) hcid hcc
    have hkm : k % m < m := Nat.mod_lt _ (by omega)
    have em : (k : Int).tmod (m : Int) = ((k % m : Nat) : Int) := tmod_nat ..
    have hstep : accF (fun i => i % m) (fun i => c.getD i 0) (List.replicate m 0) (k + 1) = (accF (fun i => i % m) (fun i => c.getD i 0) (List.replicate m 0) k).set (k % m) (W ((accF (fun i => i % m) (fun i => c.getD i 0) (List.replicate m 0) k).getD (k % m) 0 + c.getD k 0)) := rfl
    generalize k % m = r at hkm em hstep
    simp (disch := first | omega | (simp only [List.length_set, List.length_replicate, List.length_append, List.length_take, List.length_drop, List.length_cons, List.length_nil, List.length_map, List.length_range, ints_length] <;> omega)) only [go_sem, hcs.ixa, hcc3, em, own_cell hg3, hg3]
    rw [show (k : Int) + 1 = ((k + 1 : Nat) : Int) from by omega]
    refine ⟨c.length - (k + 1), by omega, k + 1, ex_junk rfl, by omega, by rw [hstep], ?_, by omega, rfl⟩
    exact hf3.set (Nat.le_refl _) _
  · rw [decide_eq_false hkc]
    have : c.length = k := by omega
    subst this
    simp (disch := first | omega | (simp only [List.length_set, List.length_replicate, List.length_append, List.length_take, List.length_drop, List.length_cons, List.length_nil, List.length_map, List.length_range, ints_length] <;> omega)) only [go_sem]
    have hsi : SI h3 (.sl h4.next 0 m (.kn m)) (accF (fun i => i % m) (fun i => c.getD i 0) (List.replicate m 0) c.length) := by
      have := SI.own (h := h3) (id := h4.next) (by omega) hg3 (.kn m)
      rw [hal] at this; exact this
    refine (made_ok m _ _ h3 (by omega) (by omega) hsi (by omega)).mono ?_
    rintro v5 h5' ⟨w, rfl, hcy, hf5⟩
    generalize madeF m _ = M at *
    have hf45 : Fr h4 h5' := hf3.trans hf5
    have hg5 := (hf45.get h.next (by omega)).trans hga
    obtain ⟨u, rfl, hu, hfu⟩ := hcy
    have hst3 := fun hh => stV_agg2 hh h.next 0 (v := .int .i64 M.1.1) (u := u) rfl hu.what.2.1
    have hrow := row_two (h := h5'.set h.next (some (.cells false [.int .i64 M.1.1, u]))) (H.get_set_same ..)
    simp (disch := first | omega | (simp only [List.length_set, List.length_replicate, List.length_append, List.length_take, List.length_drop, List.length_cons, List.length_nil, List.length_map, List.length_range, ints_length] <;> omega)) only [go_sem, hst3, hg5, hrow]
    exact ⟨_, rfl, (CycO.set ⟨u, rfl, hu, hfu⟩ (by omega) _).le (by omega), (hfa.trans hf45).set (Nat.le_refl _) _⟩
end
end Go.Proofs.Ythfabknpogbcaaa
/- Contracts: Root, Int, the common order. -/
namespace Go.Proofs.Ythfabknpogbcaaa
open Go Go.Ay
set_option maxRecDepth 100000
noncomputable section

theorem bls_int1 (h : H) (a : Int) : blsV h 1 [.int .i64 0] 1 [(0, 1, .int .i64 a)] = some (.sl h.next 0 1 (.kn 1), h.new (.cells false (ints [a]))) := rfl
theorem bls_int2 (h : H) (a b : Int) : blsV h 1 [.int .i64 0] 2 [(0, 1, .int .i64 a), (1, 1, .int .i64 b)] = some (.sl h.next 0 2 (.kn 2), h.new (.cells false (ints [a, b]))) := rfl

def rootF (n k : Int) : (Int × List Int) × Int :=
  if n < 1 ∨ 120 < n then ((0, []), 2) else madeF n.toNat ((List.replicate n.toNat 0).set (k % n).toNat 1)

theorem Root_ok (n k : Int) (h : H) : Ev T n_cyclo_Root [.int .i64 n, .int .i64 k] h (fun v h' => ∃ w, v = .tup [w, .int .i64 (rootF n k).2] ∧ CycO h' w (rootF n k).1 h.next ∧ Fr h h') := by
  refine Ev_of t_cyclo_Root rfl ?_
  simp (disch := first | omega | (simp only [List.length_set, List.length_replicate, List.length_append, List.length_take, List.length_drop, List.length_cons, List.length_nil, List.length_map, List.length_range, ints_length] <;> omega)) only [go_sem, c_cyclo_Root, initV_eq]
  have hfa : Fr h (h.new (.cells false [.int .i64 0, .nils])) := (Fr.refl h).new _
  have hga : (h.new (.cells false [.int .i64 0, .nils])).get h.next = some (.cells false [.int .i64 0, .nils]) := H.get_new_same ..
  have hna : (h.new (.cells false [.int .i64 0, .nils])).next = h.next + 1 := H.next_new ..
  have hst2 := fun hh => stV_agg2 hh h.next 0 (v := .int .i64 0) (u := .nils) rfl rfl
  generalize h.new (.cells false [.int .i64 0, .nils]) = ha at *
  have hrow0 := row_two (h := ha.set h.next (some (.cells false [.int .i64 0, .nils]))) (H.get_set_same ..)
  have hzero : Fr h (ha.set h.next (some (.cells false [.int .i64 0, .nils]))) := hfa.set (Nat.le_refl _) _
  by_cases h1 : n < 1
  · rw [decide_eq_true h1]
    simp (disch := first | omega | (simp only [List.length_set, List.length_replicate, List.length_append, List.length_take, List.length_drop, List.length_cons, List.length_nil, List.length_map, List.length_range, ints_length] <;> omega)) only [go_sem, hst2, hga, hrow0]
    rw [rootF, if_pos (.inl h1)]
    exact ⟨_, rfl, CycO.zero _ _, hzero⟩
  rw [decide_eq_false h1]
  simp (disch := first | omega | (simp only [List.length_set, List.length_replicate, List.length_append, List.length_take, List.length_drop, List.length_cons, List.length_nil, List.length_map, List.length_range, ints_length] <;> omega)) only [go_sem]
  refine iteW_dec (fun h2 => ?_) (fun h2 => ?_)
  · simp (disch := first | omega | (simp only [List.length_set, List.length_replicate, List.length_append, List.length_take, List.length_drop, List.length_cons, List.length_nil, List.length_map, List.length_range, ints_length] <;> omega)) only [go_sem, hst2, hga, hrow0]
    rw [rootF, if_pos (.inr h2)]
    exact ⟨_, rfl, CycO.zero _ _, hzero⟩
  obtain ⟨m, hm⟩ : ∃ m : Nat, n = (m : Int) := ⟨n.toNat, by omega⟩
  subst hm
  rw [rootF, if_neg (by omega), Int.toNat_natCast]
  simp (disch := first | omega | (simp only [List.length_set, List.length_replicate, List.length_append, List.length_take, List.length_drop, List.length_cons, List.length_nil, List.length_map, List.length_range, ints_length] <;> omega)) only [go_sem]
  have hnb : (ha.new (.cells false (ints (List.replicate m 0)))).next = ha.next + 1 := H.next_new ..
  have hgb : (ha.new (.cells false (ints (List.replicate m 0)))).get ha.next = some (.cells false (ints (List.replicate m 0))) := H.get_new_same ..
  have hfb : Fr ha (ha.new (.cells false (ints (List.replicate m 0)))) := (Fr.refl ha).new _
  generalize ha.new (.cells false (ints (List.replicate m 0))) = hb at *
  refine (residue_ok k m hb (by omega) (by omega)).mono ?_
  rintro v3 h3 ⟨rfl, rfl⟩
  have hr0 := Int.emod_nonneg k (show (m : Int) ≠ 0 by omega)
  have hr1 := Int.emod_lt_of_pos k (show (0 : Int) < m by omega)
  have hre : k % (m : Int) = (((k % (m : Int)).toNat : Nat) : Int) := by omega
  generalize hR : (k % (m : Int)).toNat = r at *
  rw [hre]
  have hrm : r < m := by omega
  clear hre hR hr0 hr1
  simp (disch := first | omega | (simp only [List.length_set, List.length_replicate, List.length_append, List.length_take, List.length_drop, List.length_cons, List.length_nil, List.length_map, List.length_range, ints_length] <;> omega)) only [go_sem, hgb]
  have hsi : SI (h3.set ha.next (some (.cells false (ints ((List.replicate m 0).set r 1))))) (.sl ha.next 0 m (.kn m)) ((List.replicate m 0).set r 1) := by
    have := SI.own (h := (h3.set ha.next (some (.cells false (ints ((List.replicate m 0).set r 1)))))) (id := ha.next) (by rw [H.next_set]; omega) (H.get_set_same ..) (.kn m)
    rw [List.length_set, List.length_replicate] at this; exact this
  refine (made_ok m _ _ _ (by omega) (by omega) hsi (by rw [List.length_set, List.length_replicate]; omega)).mono ?_
  rintro v5 h5' ⟨w, rfl, hcy, hf5⟩
  generalize madeF m _ = M at *
  have hf45 : Fr ha h5' := (hfb.set (Nat.le_refl _) _).trans hf5
  have hg5 := (hf45.get h.next (by omega)).trans hga
  obtain ⟨u, rfl, hu, hfu⟩ := hcy
  have hst3 := fun hh => stV_agg2 hh h.next 0 (v := .int .i64 M.1.1) (u := u) rfl hu.what.2.1
  have hrow := row_two (h := h5'.set h.next (some (.cells false [.int .i64 M.1.1, u]))) (H.get_set_same ..)
  simp (disch := first | omega | (simp only [List.length_set, List.length_replicate, List.length_append, List.length_take, List.length_drop, List.length_cons, List.length_nil, List.length_map, List.length_range, ints_length] <;> omega)) only [go_sem, hst3, hg5, hrow]
  rw [H.next_set] at hfu
  exact ⟨_, rfl, (CycO.set ⟨u, rfl, hu, hfu⟩ (by omega) _).le (by omega), (hfa.trans hf45).set (Nat.le_refl _) _⟩

theorem Int_ok (k : Int) (h : H) : Ev T n_cyclo_Int [.int .i64 k] h (fun v h' => ∃ w, v = .tup [w, .int .i64 (makeF 1 [k]).2] ∧ CycO h' w (makeF 1 [k]).1 h.next ∧ Fr h h') := by
  refine Ev_of t_cyclo_Int rfl ?_
  simp (disch := first | omega | (simp only [List.length_set, List.length_replicate, List.length_append, List.length_take, List.length_drop, List.length_cons, List.length_nil, List.length_map, List.length_range, ints_length] <;> omega)) only [go_sem, c_cyclo_Int, initV_eq]
  have hfa : Fr h (h.new (.cells false [.int .i64 0, .nils])) := (Fr.refl h).new _
  have hga : (h.new (.cells false [.int .i64 0, .nils])).get h.next = some (.cells false [.int .i64 0, .nils]) := H.get_new_same ..
  have hna : (h.new (.cells false [.int .i64 0, .nils])).next = h.next + 1 := H.next_new ..
  generalize h.new (.cells false [.int .i64 0, .nils]) = ha at *
  simp (disch := first | omega | (simp only [List.length_set, List.length_replicate, List.length_append, List.length_take, List.length_drop, List.length_cons, List.length_nil, List.length_map, List.length_range, ints_length] <;> omega)) only [go_sem, bls_int1]
  have hsi : SI (ha.new (.cells false (ints [k]))) (.sl ha.next 0 1 (.kn 1)) [k] := SI.own (h := ha.new (.cells false (ints [k]))) (id := ha.next) (l := [k]) (by rw [H.next_new]; omega) (H.get_new_same ..) (.kn 1)
  refine (make_ok 1 _ [k] _ hsi (by simp)).mono ?_
  rintro v5 h5' ⟨w, rfl, hcy, hf5⟩
  generalize makeF 1 _ = M at *
  have hf45 : Fr ha h5' := ((Fr.refl ha).new _).trans hf5
  have hg5 := (hf45.get h.next (by omega)).trans hga
  obtain ⟨u, rfl, hu, hfu⟩ := hcy
  have hst3 := fun hh => stV_agg2 hh h.next 0 (v := .int .i64 M.1.1) (u := u) rfl hu.what.2.1
  have hrow := row_two (h := h5'.set h.next (some (.cells false [.int .i64 M.1.1, u]))) (H.get_set_same ..)
  simp (disch := first | omega | (simp only [List.length_set, List.length_replicate, List.length_append, List.length_take, List.length_drop, List.length_cons, List.length_nil, List.length_map, List.length_range, ints_length] <;> omega)) only [go_sem, hst3, hg5, hrow]
  rw [H.next_new] at hfu
  exact ⟨_, rfl, (CycO.set ⟨u, rfl, hu, hfu⟩ (by omega) _).le (by omega), (hfa.trans hf45).set (Nat.le_refl _) _⟩

def orF (l : List Int) : Int := (l.find? (fun x => decide (x ≠ 0))).getD 0
theorem or_ok (v : V) (l : List Int) (h : H) (hs : SI h v l) (hl : l.length < 1000000) : Ev T n_cmp_Or_api_Errno [v] h (fun v h' => v = .int .i64 (orF l) ∧ h' = h) := by
  refine Ev_of t_cmp_Or_api_Errno rfl ?_
  obtain ⟨id, off, hsl, hid, hc⟩ := hs.open
  simp (disch := first | omega | (simp only [List.length_set, List.length_replicate, List.length_append, List.length_take, List.length_drop, List.length_cons, List.length_nil, List.length_map, List.length_range, ints_length] <;> omega)) only [go_sem, c_cmp_Or_api_Errno, initV_eq, hs.lens]
  refine Wp_loop (fun k' vars h2 => ∃ (k : Nat), (∃ g : Nat → V, vars = [g 0, g 1, .int .i64 0, g 3, v, .int .i64 (l.length : Int), .int .i64 (k : Int), g 7, g 8]) ∧ k ≤ l.length ∧ h2 = h ∧ orF l = orF (l.drop k) ∧ k' = l.length - k) l.length
    ⟨0, ex_junk rfl, Nat.zero_le _, rfl, rfl, rfl⟩ ?_
  rintro k' vars h2 ⟨k, ⟨g, rfl⟩, hk, rfl, hor, rfl⟩
  simp (disch := first | omega | (simp only [List.length_set, List.length_replicate, List.length_append, List.length_take, List.length_drop, List.length_cons, List.length_nil, List.length_map, List.length_range, ints_length] <;> omega)) only [go_sem]
  refine iteW_dec (fun hlt => ?_) (fun hge => ?_)
  · have hd : l.drop k = l.getD k 0 :: l.drop (k + 1) := by
      rw [List.drop_eq_getElem_cons (by omega), List.getD_eq_getElem?_getD, List.getElem?_eq_getElem (by omega)]; rfl
    simp (disch := first | omega | (simp only [List.length_set, List.length_replicate, List.length_append, List.length_take, List.length_drop, List.length_cons, List.length_nil, List.length_map, List.length_range, ints_length] <;> omega)) only [go_sem, hsl.ixa, hc]
    refine iteW_dec (fun hne => ?_) (fun he => ?_)
    · simp (disch := first | omega | (simp only [List.length_set, List.length_replicate, List.length_append, List.length_take, List.length_drop, List.length_cons, List.length_nil, List.length_map, List.length_range, ints_length] <;> omega)) only [go_sem]
      refine ⟨?_, trivial⟩
      rw [hor, hd, orF, List.find?_cons, decide_eq_true hne]; rfl
    · simp (disch := first | omega | (simp only [List.length_set, List.length_replicate, List.length_append, List.length_take, List.length_drop, List.length_cons, List.length_nil, List.length_map, List.length_range, ints_length] <;> omega)) only [go_sem]
      rw [show (k : Int) + 1 = ((k + 1 : Nat) : Int) from by omega]
      refine ⟨l.length - (k + 1), by omega, k + 1, ex_junk rfl, by omega, ?_, rfl⟩
      rw [hor, hd, orF, List.find?_cons, decide_eq_false he]; rfl
  · simp (disch := first | omega | (simp only [List.length_set, List.length_replicate, List.length_append, List.length_take, List.length_drop, List.length_cons, List.length_nil, List.length_map, List.length_range, ints_length] <;> omega)) only [go_sem]
    refine ⟨?_, trivial⟩
    rw [hor, List.drop_of_length_le (by omega)]; rfl

def commonF (a b : Int × List Int) : Int × Int :=
  if orF [checkF a, checkF b] ≠ 0 then (0, orF [checkF a, checkF b]) else if 120 < a.1 / (Int.gcd a.1 b.1 : Int) * b.1 then (0, 5) else (a.1 / (Int.gcd a.1 b.1 : Int) * b.1, 0)
theorem check_range {a : Int × List Int} (h : checkF a = 0) : 1 ≤ a.1 ∧ a.1 ≤ 120 ∧ a.2.length = (phiF a.1.toNat).length - 1 := by
  unfold checkF at h
  split at h
  · cases h
  · rename_i h1
    split at h
    · cases h
    · rename_i h2
      refine ⟨by omega, by omega, by omega⟩
theorem or_zero {a b : Int} (h : orF [a, b] = 0) : a = 0 ∧ b = 0 := by
  unfold orF at h
  simp only [List.find?_cons, List.find?_nil] at h
  by_cases ha : a = 0
  · subst ha
    simp at h
    by_cases hb : b = 0
    · exact ⟨rfl, hb⟩
    · simp [hb] at h
  · simp [ha] at h

set_option maxHeartbeats 1000000 in
theorem common_ok (va vb : V) (a b : Int × List Int) (h : H) (ha : CycV h va a) (hb : CycV h vb b) (hla : a.2.length < 1000000) (hlb : b.2.length < 1000000) :
    Ev T n_cyclo_common [va, vb] h (fun v h' => v = .tup [.int .i64 (commonF a b).1, .int .i64 (commonF a b).2] ∧ Fr h h') := by
  obtain ⟨u, rfl, hu⟩ := ha
  obtain ⟨w, rfl, hw⟩ := hb
  obtain ⟨N, A⟩ := a
  obtain ⟨M, B⟩ := b
  refine Ev_of t_cyclo_common rfl ?_
  simp (disch := first | omega | (simp only [List.length_set, List.length_replicate, List.length_append, List.length_take, List.length_drop, List.length_cons, List.length_nil, List.length_map, List.length_range, ints_length] <;> omega)) only [go_sem, c_cyclo_common, initV_eq, boxV_agg2 h (v := .int .i64 N) rfl hu.what.2.1]
  have hfa : Fr h (h.new (.cells false [.int .i64 N, u])) := (Fr.refl h).new _
  have hga : (h.new (.cells false [.int .i64 N, u])).get h.next = some (.cells false [.int .i64 N, u]) := H.get_new_same ..
  have hna : (h.new (.cells false [.int .i64 N, u])).next = h.next + 1 := H.next_new ..
  generalize h.new (.cells false [.int .i64 N, u]) = ha at *
  simp (disch := first | omega | (simp only [List.length_set, List.length_replicate, List.length_append, List.length_take, List.length_drop, List.length_cons, List.length_nil, List.length_map, List.length_range, ints_length] <;> omega)) only [go_sem, boxV_agg2 ha (v := .int .i64 M) rfl hw.what.2.1]
  have hfb : Fr ha (ha.new (.cells false [.int .i64 M, w])) := (Fr.refl ha).new _
  have hgb : (ha.new (.cells false [.int .i64 M, w])).get ha.next = some (.cells false [.int .i64 M, w]) := H.get_new_same ..
  have hnb : (ha.new (.cells false [.int .i64 M, w])).next = ha.next + 1 := H.next_new ..
  generalize ha.new (.cells false [.int .i64 M, w]) = hb at *
  have hgab := (hfb.get h.next (by omega)).trans hga
  have r0 : ∀ n, (H.mk hb.tr n).row h.next 0 2 = some [.int .i64 N, u] := fun n => row_two (h := H.mk hb.tr n) hgab
  have r1 : ∀ n, (H.mk hb.tr n).row ha.next 0 2 = some [.int .i64 M, w] := fun n => row_two (h := H.mk hb.tr n) hgb
  rw [← hnb]
  simp (disch := first | omega | (simp only [List.length_set, List.length_replicate, List.length_append, List.length_take, List.length_drop, List.length_cons, List.length_nil, List.length_map, List.length_range, ints_length] <;> omega)) only [go_sem, r0, r1]
  have hF : Fr h (H.mk hb.tr (hb.next + 7)) := (hfa.trans hfb).bump (by omega)
  refine (check_ok _ (N, A) _ ⟨u, rfl, hu.mono hF⟩ hla).mono ?_
  rintro v3 h3 ⟨rfl, hf3⟩
  have hF3 : Fr hb h3 := ((Fr.refl hb).bump (by omega)).trans hf3
  have hg3a := (hF3.get h.next (by omega)).trans hgab
  have hg3b := (hF3.get ha.next (by omega)).trans hgb
  simp (disch := first | omega | (simp only [List.length_set, List.length_replicate, List.length_append, List.length_take, List.length_drop, List.length_cons, List.length_nil, List.length_map, List.length_range, ints_length] <;> omega)) only [go_sem, row_two hg3b, hw.what.1, (show eqV w w = true from SV.eqV hw)]
  refine (check_ok _ (M, B) _ ⟨w, rfl, hw.mono (hF.trans hf3)⟩ hlb).mono ?_
  rintro v4 h4 ⟨rfl, hf4⟩
  have hF4 : Fr hb h4 := hF3.trans hf4
  have hn4 : hb.next + 7 ≤ h4.next := Nat.le_trans hf3.next hf4.next
  simp (disch := first | omega | (simp only [List.length_set, List.length_replicate, List.length_append, List.length_take, List.length_drop, List.length_cons, List.length_nil, List.length_map, List.length_range, ints_length] <;> omega)) only [go_sem, bls_int2]
  obtain ⟨e, he⟩ : ∃ e, [checkF (N, A), checkF (M, B)] = e := ⟨_, rfl⟩
  have hee : orF e = orF [checkF (N, A), checkF (M, B)] := by rw [he]
  rw [he]
  have hel : e.length = 2 := by rw [← he]; rfl
  have hg5 : (H.mk ((H.mk h4.tr (hb.next + 4)).new (.cells false (ints e))).tr h4.next).get (hb.next + 4) = some (.cells false (ints e)) := by
    rw [H.get_next', H.get_new, if_pos rfl]
  have hF5 : Fr hb (H.mk ((H.mk h4.tr (hb.next + 4)).new (.cells false (ints e))).tr h4.next) := ⟨hF4.next, fun id hid => by rw [H.get_next', H.get_new, if_neg (by show id ≠ hb.next + 4; omega)]; exact hF4.get id hid⟩
  have hn5 : (H.mk ((H.mk h4.tr (hb.next + 4)).new (.cells false (ints e))).tr h4.next).next = h4.next := rfl
  generalize H.mk ((H.mk h4.tr (hb.next + 4)).new (.cells false (ints e))).tr h4.next = h5 at *
  have hs5 : SI h5 (.sl (hb.next + 4) 0 2 (.kn 2)) e := by
    have := SI.own (h := h5) (id := hb.next + 4) (by omega) hg5 (.kn 2)
    rw [hel] at this; exact this
  refine (or_ok _ e h5 hs5 (by omega)).mono ?_
  rintro v6 h6 ⟨rfl, rfl⟩
  rw [hee]
  simp (disch := first | omega | (simp only [List.length_set, List.length_replicate, List.length_append, List.length_take, List.length_drop, List.length_cons, List.length_nil, List.length_map, List.length_range, ints_length] <;> omega)) only [go_sem]
  have hF6 : Fr h h6 := (hfa.trans hfb).trans hF5
  refine iteW_dec (fun hne => ?_) (fun hze => ?_)
  · simp (disch := first | omega | (simp only [List.length_set, List.length_replicate, List.length_append, List.length_take, List.length_drop, List.length_cons, List.length_nil, List.length_map, List.length_range, ints_length] <;> omega)) only [go_sem]
    rw [commonF, if_pos hne]
    exact ⟨rfl, hF6⟩
  have hz : orF [checkF (N, A), checkF (M, B)] = 0 := by omega
  obtain ⟨z1, z2⟩ := or_zero hz
  have g1 := check_range z1
  have g2 := check_range z2
  simp only at g1 g2
  rw [commonF, if_neg hze]
  have hg6a := (hF5.get h.next (by omega)).trans hgab
  have hg6b := (hF5.get ha.next (by omega)).trans hgb
  have c0 : ∀ n, (H.mk h6.tr n).cell h.next 0 = some (.int .i64 N) := fun n => by rw [H.cell_of (h := H.mk h6.tr n) hg6a]; rfl
  have c1 : ∀ n, (H.mk h6.tr n).cell ha.next 0 = some (.int .i64 M) := fun n => by rw [H.cell_of (h := H.mk h6.tr n) hg6b]; rfl
  simp (disch := first | omega | (simp only [List.length_set, List.length_replicate, List.length_append, List.length_take, List.length_drop, List.length_cons, List.length_nil, List.length_map, List.length_range, ints_length] <;> omega)) only [go_sem, c0, c1]
  refine (gcd_ok N M _ (by omega) (by omega)).mono ?_
  rintro v7 h7 ⟨rfl, hf7⟩
  have hF7 : Fr hb h7 := (hF5.bump (by omega)).trans hf7
  have hg7a := (hF7.get h.next (by omega)).trans hgab
  have hg7b := (hF7.get ha.next (by omega)).trans hgb
  have d0 : h7.cell h.next 0 = some (.int .i64 N) := by rw [H.cell_of hg7a]; rfl
  have d1 : h7.cell ha.next 0 = some (.int .i64 M) := by rw [H.cell_of hg7b]; rfl
  have hG : 1 ≤ Int.gcd N M := Nat.one_le_iff_ne_zero.2 (fun e => by rw [Int.gcd_eq_zero_iff] at e; omega)
  have hdv : N.tdiv (Int.gcd N M : Int) = N / (Int.gcd N M : Int) := Int.tdiv_eq_ediv_of_nonneg (by omega)
  have hq0 : 0 ≤ N / (Int.gcd N M : Int) := Int.ediv_nonneg (by omega) (by omega)
  have hq1 : N / (Int.gcd N M : Int) ≤ N := Int.ediv_le_self _ (by omega)
  generalize (Int.gcd N M : Nat) = G at *
  generalize hQ : N / (G : Int) = Q at *
  have hp0 : 0 ≤ Q * M := Int.mul_nonneg hq0 (by omega)
  have hp1 : Q * M ≤ 120 * 120 := Int.mul_le_mul (by omega) (by omega) (by omega) (by omega)
  simp (disch := first | omega | (simp only [List.length_set, List.length_replicate, List.length_append, List.length_take, List.length_drop, List.length_cons, List.length_nil, List.length_map, List.length_range, ints_length] <;> omega)) only [go_sem, d0, d1, hdv, arith_quo]
  refine iteW_dec (fun hlt => ?_) (fun hge => ?_)
  · simp (disch := first | omega | (simp only [List.length_set, List.length_replicate, List.length_append, List.length_take, List.length_drop, List.length_cons, List.length_nil, List.length_map, List.length_range, ints_length] <;> omega)) only [go_sem]
    rw [if_pos hlt]
    exact ⟨rfl, (hfa.trans hfb).trans hF7⟩
  · simp (disch := first | omega | (simp only [List.length_set, List.length_replicate, List.length_append, List.length_take, List.length_drop, List.length_cons, List.length_nil, List.length_map, List.length_range, ints_length] <;> omega)) only [go_sem]
    rw [if_neg hge]
    exact ⟨rfl, (hfa.trans hfb).trans hF7⟩
end
end Go.Proofs.Ythfabknpogbcaaa
