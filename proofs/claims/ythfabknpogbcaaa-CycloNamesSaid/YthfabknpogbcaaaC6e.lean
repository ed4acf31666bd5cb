/- Contracts: with n/q in place of n. -/
import Derived.Test.YthfabknpogbcaaaC6d
namespace Go.Proofs.Ythfabknpogbcaaa
open Go Go.Ay
set_option maxRecDepth 100000

theorem parts_step (P m q k : Nat) (hk : k < q) : ((List.range k).map (fun e => V.sl (P + 1 + e) 0 m (.kn m)) ++ List.replicate (q - k) V.nils).set k (.sl (P + 1 + k) 0 m (.kn m)) = (List.range (k + 1)).map (fun e => V.sl (P + 1 + e) 0 m (.kn m)) ++ List.replicate (q - (k + 1)) V.nils := by
  rw [List.set_append_right _ _ (by simp), List.range_succ, List.map_append, List.append_assoc]
  congr 1
  obtain ⟨j, hj⟩ : ∃ j, q - k = j + 1 := ⟨q - k - 1, by omega⟩
  rw [hj, show q - (k + 1) = j by omega]
  simp [List.replicate_succ]

set_option maxHeartbeats 2000000 in
theorem lower_ok (tid mid b n q : Nat) (vc : V) (c : List Int) (h : H) (ok : LowOk n q) (hb : b ≤ h.next) (ht : Tb h tid mid b) (hc : SI h vc c) (hl : c.length ≤ n) :
    Ev T n_cyclo_table_lower [.ptr tid 0, .int .i64 (n : Int), .int .i64 (q : Int), vc] h (fun v h' => Tb h' tid mid b ∧ FrM mid h h' ∧ ∃ u t, v = .tup [u, .bool t] ∧ (match lowerF n q c with | some d => t = true ∧ SI h' u d ∧ (∀ id off n c, u = .sl id off n c → h.next ≤ id) | none => t = false)) := by
  refine Ev_of t_cyclo_table_lower rfl ?_
  obtain ⟨hn1, hn2, hq2, hdvd, hia, hib⟩ := ok
  obtain ⟨m, hm⟩ : ∃ m, n / q = m := ⟨_, rfl⟩
  have hqn : q ≤ n := by
    rcases Nat.eq_zero_or_pos m with h0 | h0
    · rw [hm, h0] at hdvd; omega
    · have : 1 * q ≤ m * q := Nat.mul_le_mul_right q h0
      rw [hm] at hdvd; omega
  have hm1 : 1 ≤ m := by
    rcases Nat.eq_zero_or_pos m with h0 | h0
    · rw [hm, h0] at hdvd; omega
    · exact h0
  have hmn : m ≤ n := by rw [← hm]; exact Nat.div_le_self n q
  have e1 : (n : Int).tdiv (q : Int) = (m : Int) := by rw [← hm]; rfl
  simp (disch := first | omega | (simp only [List.length_set, List.length_replicate, List.length_append, List.length_take, List.length_drop, List.length_cons, List.length_nil, List.length_map, List.length_range, ints_length] <;> omega)) only [go_sem, c_cyclo_table_lower, initV_eq, e1, zeros_one]
  obtain ⟨P, hP⟩ : ∃ P, h.next = P := ⟨_, rfl⟩
  rw [hP]
  refine Wp_loop (fun k' vars h2 => ∃ (k : Nat), (∃ g : Nat → V, vars = [.ptr tid 0, .int .i64 (n : Int), .int .i64 (q : Int), vc, .nils, .bool false, .int .i64 (m : Int), .sl P 0 q (.kn q), g 8, g 9, g 10, g 11, g 12, g 13, g 14, g 15, g 16, g 17, g 18, g 19, .int .i64 (q : Int), .int .i64 (k : Int), g 22, g 23, g 24, g 25, g 26, g 27, g 28, g 29, g 30, g 31, g 32, g 33, g 34, g 35, g 36, g 37, g 38, g 39, g 40, g 41, g 42, g 43, g 44, g 45, g 46, g 47, g 48]) ∧ k ≤ q ∧
      h2.get P = some (.cells false ((List.range k).map (fun e => V.sl (P + 1 + e) 0 m (.kn m)) ++ List.replicate (q - k) V.nils)) ∧ (∀ e, e < k → h2.get (P + 1 + e) = some (.cells false (ints (List.replicate m 0)))) ∧ h2.next = P + 1 + k ∧ Fr h h2 ∧ k' = q - k) q
    ⟨0, ex_junk rfl, Nat.zero_le _, ?_, fun e he => by omega, ?_, (Fr.refl h).new _, rfl⟩ ?_
  · rw [← hP, H.get_new_same]; rfl
  · rw [H.next_new]; omega
  rintro k' vars h2 ⟨k, ⟨g, rfl⟩, hk, hg, hr, hnx, hf2, rfl⟩
  simp (disch := first | omega | (simp only [List.length_set, List.length_replicate, List.length_append, List.length_take, List.length_drop, List.length_cons, List.length_nil, List.length_map, List.length_range, ints_length] <;> omega)) only [go_sem]
  by_cases hkq : (k : Int) < (q : Int)
  · rw [decide_eq_true hkq]
    have hlen : k < ((List.range k).map (fun e => V.sl (P + 1 + e) 0 m (.kn m)) ++ List.replicate (q - k) V.nils).length := by
      rw [List.length_append, List.length_map, List.length_range, List.length_replicate]; omega
    simp (disch := first | omega | (simp only [List.length_set, List.length_replicate, List.length_append, List.length_take, List.length_drop, List.length_cons, List.length_nil, List.length_map, List.length_range, ints_length] <;> omega)) only [go_sem, hg, Int.toNat_natCast, hnx]
    rw [show (k : Int) + 1 = ((k + 1 : Nat) : Int) from by omega]
    refine ⟨q - (k + 1), by omega, k + 1, ex_junk rfl, by omega, by rw [parts_step P m q k (by omega)], fun e he => ?_, by omega, (hf2.new _).set (by omega) _, rfl⟩
    by_cases hek : e = k
    · rw [hek, ← hnx, H.get_new_same]
    · rw [H.get_new_ne _ (by omega)]; exact hr e (by omega)
  · rw [decide_eq_false hkq]
    have : q = k := by omega
    subst this
    have hgrid : Grid h2 P m (gA q m c 0) := by
      have hlen : (gA q m c 0).length = q := List.length_replicate
      have hrow : ∀ e, e < q → (gA q m c 0).getD e [] = List.replicate m 0 := fun e he => by
        rw [gA, List.getD_eq_getElem?_getD, List.getElem?_replicate, if_pos he]; rfl
      refine ⟨?_, fun e he => ?_, fun e he => ?_, ?_⟩
      · rw [hg, hlen, Nat.sub_self, List.replicate_zero, List.append_nil]
      · rw [hlen] at he; rw [hrow e he]; exact hr e he
      · rw [hlen] at he; rw [hrow e he]; exact List.length_replicate
      · rw [hlen]; omega
    clear hg hr hkq hk
    obtain ⟨cid, coff, hcs, hcid, hcc⟩ := hc.open
    have emq : (m : Int).tmod (q : Int) = ((m % q : Nat) : Int) := tmod_nat ..
    have hmp : P ≤ mid ∨ mid < P := by omega
    simp (disch := first | omega | (simp only [List.length_set, List.length_replicate, List.length_append, List.length_take, List.length_drop, List.length_cons, List.length_nil, List.length_map, List.length_range, ints_length] <;> omega)) only [go_sem, emq]
    by_cases hz : m % q = 0
    · rw [iteW_pos (by omega)]
      simp (disch := first | omega | (simp only [List.length_set, List.length_replicate, List.length_append, List.length_take, List.length_drop, List.length_cons, List.length_nil, List.length_map, List.length_range, ints_length] <;> omega)) only [go_sem, hc.lens]
      refine Wp_loop (fun k' vars h3 => ∃ (k : Nat), (∃ g : Nat → V, vars = [.ptr tid 0, .int .i64 (n : Int), .int .i64 (q : Int), vc, .nils, .bool false, .int .i64 (m : Int), .sl P 0 q (.kn q), g 8, g 9, g 10, g 11, g 12, g 13, g 14, g 15, g 16, g 17, g 18, g 19, g 20, g 21, g 22, g 23, vc, .int .i64 (c.length : Int), .int .i64 (k : Int), g 27, g 28, g 29, g 30, g 31, g 32, g 33, g 34, g 35, g 36, g 37, g 38, g 39, g 40, g 41, g 42, g 43, g 44, g 45, g 46, g 47, g 48]) ∧ k ≤ c.length ∧
        Grid h3 P m (gA q m c k) ∧ Fr h h3 ∧ k' = c.length - k) c.length
        ⟨0, ex_junk rfl, Nat.zero_le _, hgrid, hf2, rfl⟩ ?_
      rintro k' vars h3 ⟨k, ⟨g, rfl⟩, hk, hg3, hf3, rfl⟩
      have hsh := gA_shape q m c k
      simp (disch := first | omega | (simp only [List.length_set, List.length_replicate, List.length_append, List.length_take, List.length_drop, List.length_cons, List.length_nil, List.length_map, List.length_range, ints_length] <;> omega)) only [go_sem]
      by_cases hkc : (k : Int) < (c.length : Int)
      · rw [decide_eq_true hkc]
        have hcc3 := cells_fr hf3 hcid hcc
        have h5 : k % q < q := Nat.mod_lt _ (by omega)
        have h6 : k / q < m := by
          have : k < m * q := by rw [← hm, hdvd]; omega
          exact (Nat.div_lt_iff_lt_mul (by omega)).2 this
        have e2 : (k : Int).tmod (q : Int) = ((k % q : Nat) : Int) := tmod_nat ..
        have e3 : (k : Int).tdiv (q : Int) = ((k / q : Nat) : Int) := rfl
        have hstep : gA q m c (k + 1) = (gA q m c k).set (k % q) (((gA q m c k).getD (k % q) []).set (k / q) (c.getD k 0)) := rfl
        generalize k % q = r at h5 e2 hstep
        generalize k / q = u at h6 e3 hstep
        have hrl := hg3.rl r (by omega)
        simp (disch := first | omega | (simp only [List.length_set, List.length_replicate, List.length_append, List.length_take, List.length_drop, List.length_cons, List.length_nil, List.length_map, List.length_range, ints_length] <;> omega)) only [go_sem, hcs.ixa, hcc3, Int.toNat_natCast, e2, e3, hg3.cell (e := r) (by omega), hg3.rg r (by omega)]
        rw [show (k : Int) + 1 = ((k + 1 : Nat) : Int) from by omega]
        refine ⟨c.length - (k + 1), by omega, k + 1, ex_junk rfl, by omega, ?_, (hf3.bump (by omega)).set (by omega) _, rfl⟩
        rw [hstep]
        exact (hg3.fr ((Fr.refl h3).bump (by omega))).set (by omega) _
      · rw [decide_eq_false hkc]
        have : c.length = k := by omega
        subst this
        clear hkc hk
        simp (disch := first | omega | (simp only [List.length_set, List.length_replicate, List.length_append, List.length_take, List.length_drop, List.length_cons, List.length_nil, List.length_map, List.length_range, ints_length] <;> omega)) only [go_sem]
        have esl : slcV 1 (.sl P 0 q (.kn q)) (some (.int .i64 1)) none none = some (.sl P 1 (q - 1) (.kn (q - 1))) := by
          simp only [slcV, bndV]
          rw [if_pos (by omega)]
          simp only
          rw [if_pos (by omega), if_neg (by omega)]
          rfl
        simp (disch := first | omega | (simp only [List.length_set, List.length_replicate, List.length_append, List.length_take, List.length_drop, List.length_cons, List.length_nil, List.length_map, List.length_range, ints_length] <;> omega)) only [go_sem, esl]
        refine Wp_loop (fun k' vars h4 => ∃ (k : Nat), (∃ g : Nat → V, vars = [.ptr tid 0, .int .i64 (n : Int), .int .i64 (q : Int), vc, .nils, .bool false, .int .i64 (m : Int), .sl P 0 q (.kn q), g 8, g 9, g 10, g 11, g 12, g 13, g 14, g 15, g 16, g 17, g 18, g 19, g 20, g 21, g 22, g 23, g 24, g 25, g 26, g 27, .sl P 1 (q - 1) (.kn (q - 1)), .int .i64 ((q - 1 : Nat) : Int), .int .i64 (k : Int), g 31, g 32, g 33, g 34, g 35, g 36, g 37, g 38, g 39, g 40, g 41, g 42, g 43, g 44, g 45, g 46, g 47, g 48]) ∧ k + 1 ≤ q ∧
          Grid h4 P m (gA q m c c.length) ∧ Fr h h4 ∧ (∀ e, 1 ≤ e → e ≤ k → ((gA q m c c.length).getD e []).any nz = false) ∧ k' = q - k) q
          ⟨0, ex_junk rfl, by omega, hg3, hf3, fun e h1 h2 => by omega, rfl⟩ ?_
        rintro k' vars h4 ⟨k, ⟨g, rfl⟩, hk, hg4, hf4, hall, rfl⟩
        simp (disch := first | omega | (simp only [List.length_set, List.length_replicate, List.length_append, List.length_take, List.length_drop, List.length_cons, List.length_nil, List.length_map, List.length_range, ints_length] <;> omega)) only [go_sem]
        refine iteW_dec (fun hlt => ?_) (fun hge => ?_)
        · have hk1 : k + 1 < (gA q m c c.length).length := by rw [hsh.1]; omega
          simp (disch := first | omega | (simp only [List.length_set, List.length_replicate, List.length_append, List.length_take, List.length_drop, List.length_cons, List.length_nil, List.length_map, List.length_range, ints_length] <;> omega)) only [go_sem, Int.toNat_natCast, Nat.add_comm 1 k, hg4.cell hk1]
          refine (contains_ok _ _ _ _ _ (hg4.si hk1) (by rw [hg4.rl _ hk1]; omega) test_nz).mono ?_
          rintro v1 h1' ⟨rfl, rfl⟩
          simp (disch := first | omega | (simp only [List.length_set, List.length_replicate, List.length_append, List.length_take, List.length_drop, List.length_cons, List.length_nil, List.length_map, List.length_range, ints_length] <;> omega)) only [go_sem]
          refine iteW_bool (fun hp => ?_) (fun hp => ?_)
          · simp (disch := first | omega | (simp only [List.length_set, List.length_replicate, List.length_append, List.length_take, List.length_drop, List.length_cons, List.length_nil, List.length_map, List.length_range, ints_length] <;> omega)) only [go_sem]
            have hlow : lowerF n q c = none := by
              simp only [lowerF, hm]
              rw [if_pos hz, lowA, if_pos]
              rw [List.any_eq_true]
              refine ⟨(gA q m c c.length).getD (k + 1) [], ?_, hp⟩
              rw [List.getD_eq_getElem?_getD, List.getElem?_eq_getElem hk1, Option.getD_some]
              rw [List.mem_iff_getElem]
              exact ⟨k, by rw [List.length_drop]; omega, by rw [List.getElem_drop]; congr 1; omega⟩
            rw [hlow]
            exact ⟨ht.fr hf4, hf4.toM mid, _, _, rfl, rfl⟩
          · simp (disch := first | omega | (simp only [List.length_set, List.length_replicate, List.length_append, List.length_take, List.length_drop, List.length_cons, List.length_nil, List.length_map, List.length_range, ints_length] <;> omega)) only [go_sem]
            rw [show (k : Int) + 1 = ((k + 1 : Nat) : Int) from by omega]
            refine ⟨q - (k + 1), by omega, k + 1, ex_junk rfl, by omega, hg4, hf4, fun e h1 h2 => ?_, rfl⟩
            by_cases hek : e = k + 1
            · rw [hek]; exact hp
            · exact hall e h1 (by omega)
        · have h0 : 0 < (gA q m c c.length).length := by rw [hsh.1]; omega
          simp (disch := first | omega | (simp only [List.length_set, List.length_replicate, List.length_append, List.length_take, List.length_drop, List.length_cons, List.length_nil, List.length_map, List.length_range, ints_length] <;> omega)) only [go_sem, hg4.cell h0]
          refine (reduced_ok tid mid b m _ _ h4 hm1 (by omega) (ht.fr hf4) (hg4.si h0) (by rw [hg4.rl _ h0]; omega)).mono ?_
          rintro v5 h5 ⟨ht5, ho5, hf5, hav5⟩
          simp (disch := first | omega | (simp only [List.length_set, List.length_replicate, List.length_append, List.length_take, List.length_drop, List.length_cons, List.length_nil, List.length_map, List.length_range, ints_length] <;> omega)) only [go_sem]
          have hlow : lowerF n q c = some (redF m ((gA q m c c.length).getD 0 [])) := by
            simp only [lowerF, hm]
            rw [if_pos hz, lowA, if_neg]
            rw [List.any_eq_true]
            rintro ⟨x, hx, hx2⟩
            rw [List.mem_iff_getElem] at hx
            obtain ⟨i, hi, rfl⟩ := hx
            rw [List.length_drop, hsh.1] at hi
            rw [List.getElem_drop] at hx2
            have := hall (1 + i) (by omega) (by omega)
            rw [List.getD_eq_getElem?_getD, List.getElem?_eq_getElem (by rw [hsh.1]; omega), Option.getD_some, hx2] at this
            cases this
          rw [hlow]
          refine ⟨ht5, (hf4.toM mid).trans hf5, _, _, rfl, rfl, ho5.sv, fun id off n c e => ?_⟩
          have hnx4 := hf4.next
          rcases ho5 with ⟨h6, _⟩ | ⟨id', _, _, _, h6, _, _, h7, _⟩
          · rw [h6] at e; cases e
          · rw [h6] at e; cases e; omega
    · rw [iteW_neg (by omega)]
      obtain ⟨x0, hx0⟩ := hia (by rw [hm]; exact hz)
      obtain ⟨y0, hy0⟩ := hib (by rw [hm]; exact hz)
      rw [hm] at hx0 hy0
      simp (disch := first | omega | (simp only [List.length_set, List.length_replicate, List.length_append, List.length_take, List.length_drop, List.length_cons, List.length_nil, List.length_map, List.length_range, ints_length] <;> omega)) only [go_sem]
      refine (inverse_ok q m x0 h2 (by omega) hm1 (by omega) hx0).mono ?_
      rintro v1 h21 ⟨rfl, hf21⟩
      simp (disch := first | omega | (simp only [List.length_set, List.length_replicate, List.length_append, List.length_take, List.length_drop, List.length_cons, List.length_nil, List.length_map, List.length_range, ints_length] <;> omega)) only [go_sem]
      refine (inverse_ok m q y0 h21 (by omega) (by omega) (by omega) hy0).mono ?_
      rintro v1 h22 ⟨rfl, hf22⟩
      have ha0 : invF q m ≤ m := by rw [invF, hx0]; exact Nat.le_of_lt_succ (first_some hx0).1
      have hb0 : invF m q ≤ q := by rw [invF, hy0]; exact Nat.le_of_lt_succ (first_some hy0).1
      obtain ⟨A, hA⟩ : ∃ A, invF q m = A := ⟨_, rfl⟩
      obtain ⟨B, hB⟩ : ∃ B, invF m q = B := ⟨_, rfl⟩
      rw [hA] at ha0
      rw [hB] at hb0
      simp (disch := first | omega | (simp only [List.length_set, List.length_replicate, List.length_append, List.length_take, List.length_drop, List.length_cons, List.length_nil, List.length_map, List.length_range, ints_length] <;> omega)) only [go_sem, hc.lens, hA, hB]
      refine Wp_loop (fun k' vars h3 => ∃ (k : Nat), (∃ g : Nat → V, vars = [.ptr tid 0, .int .i64 (n : Int), .int .i64 (q : Int), vc, .nils, .bool false, .int .i64 (m : Int), .sl P 0 q (.kn q), g 8, g 9, g 10, g 11, .int .i64 (A : Int), .int .i64 (B : Int), g 14, g 15, g 16, g 17, g 18, g 19, g 20, g 21, g 22, g 23, g 24, g 25, g 26, g 27, g 28, g 29, g 30, g 31, g 32, vc, .int .i64 (c.length : Int), .int .i64 (k : Int), g 36, g 37, g 38, g 39, g 40, g 41, g 42, g 43, g 44, g 45, g 46, g 47, g 48]) ∧ k ≤ c.length ∧
        Grid h3 P m (gB A B q m c k) ∧ Fr h h3 ∧ k' = c.length - k) c.length
        ⟨0, ex_junk rfl, Nat.zero_le _, hgrid.fr (hf21.trans hf22), hf2.trans (hf21.trans hf22), rfl⟩ ?_
      rintro k' vars h3 ⟨k, ⟨g, rfl⟩, hk, hg3, hf3, rfl⟩
      have hsh := gB_shape A B q m c k
      simp (disch := first | omega | (simp only [List.length_set, List.length_replicate, List.length_append, List.length_take, List.length_drop, List.length_cons, List.length_nil, List.length_map, List.length_range, ints_length] <;> omega)) only [go_sem]
      by_cases hkc : (k : Int) < (c.length : Int)
      · rw [decide_eq_true hkc]
        have hcc3 := cells_fr hf3 hcid hcc
        have h5 : B * k % q < q := Nat.mod_lt _ (by omega)
        have h6 : A * k % m < m := Nat.mod_lt _ (by omega)
        have hBk : B * k ≤ 120 * 120 := Nat.mul_le_mul (by omega) (by omega)
        have hAk : A * k ≤ 120 * 120 := Nat.mul_le_mul (by omega) (by omega)
        have e4 : (B : Int) * (k : Int) = ((B * k : Nat) : Int) := (Int.natCast_mul ..).symm
        have e5 : (A : Int) * (k : Int) = ((A * k : Nat) : Int) := (Int.natCast_mul ..).symm
        have e2 : ((B * k : Nat) : Int).tmod (q : Int) = ((B * k % q : Nat) : Int) := tmod_nat ..
        have e3 : ((A * k : Nat) : Int).tmod (m : Int) = ((A * k % m : Nat) : Int) := tmod_nat ..
        have hstep : gB A B q m c (k + 1) = (gB A B q m c k).set (B * k % q) (((gB A B q m c k).getD (B * k % q) []).set (A * k % m) (W (((gB A B q m c k).getD (B * k % q) []).getD (A * k % m) 0 + c.getD k 0))) := rfl
        generalize B * k % q = r at h5 e2 hstep
        generalize A * k % m = u at h6 e3 hstep
        generalize B * k = Bk at e2 e4 hBk
        generalize A * k = Ak at e3 e5 hAk
        have hrl := hg3.rl r (by omega)
        simp (disch := first | omega | (simp only [List.length_set, List.length_replicate, List.length_append, List.length_take, List.length_drop, List.length_cons, List.length_nil, List.length_map, List.length_range, ints_length] <;> omega)) only [go_sem, hcs.ixa, hcc3, Int.toNat_natCast, e2, e3, e4, e5, hg3.cell (e := r) (by omega), hg3.at (e := r) (i := u) (by omega) h6, hg3.rg r (by omega)]
        rw [show (k : Int) + 1 = ((k + 1 : Nat) : Int) from by omega]
        refine ⟨c.length - (k + 1), by omega, k + 1, ex_junk rfl, by omega, ?_, (hf3.bump (by omega)).set (by omega) _, rfl⟩
        rw [hstep]
        exact (hg3.fr ((Fr.refl h3).bump (by omega))).set (by omega) _
      · rw [decide_eq_false hkc]
        have : c.length = k := by omega
        subst this
        clear hkc hk
        simp (disch := first | omega | (simp only [List.length_set, List.length_replicate, List.length_append, List.length_take, List.length_drop, List.length_cons, List.length_nil, List.length_map, List.length_range, ints_length] <;> omega)) only [go_sem]
        obtain ⟨rows, hrows⟩ : ∃ rows, gB A B q m c c.length = rows := ⟨_, rfl⟩
        rw [hrows] at hg3 hsh
        refine Wp_loop (fun k' vars h4 => ∃ (k : Nat) (ws : List V), (∃ g : Nat → V, vars = [.ptr tid 0, .int .i64 (n : Int), .int .i64 (q : Int), vc, .nils, .bool false, .int .i64 (m : Int), .sl P 0 q (.kn q), g 8, g 9, g 10, g 11, g 12, g 13, g 14, g 15, g 16, g 17, g 18, g 19, g 20, g 21, g 22, g 23, g 24, g 25, g 26, g 27, g 28, g 29, g 30, g 31, g 32, g 33, g 34, g 35, g 36, .int .i64 (q : Int), .int .i64 (k : Int), g 39, g 40, g 41, g 42, g 43, g 44, g 45, g 46, g 47, g 48]) ∧ k ≤ q ∧
          ws.length = q ∧ h4.get P = some (.cells false ws) ∧ (∀ e, k ≤ e → e < q → ws.getD e .undef = .sl (P + 1 + e) 0 m (.kn m) ∧ h4.get (P + 1 + e) = some (.cells false (ints (rows.getD e [])))) ∧
          (∀ e, e < k → Own h4 (ws.getD e .undef) 1 (ints (redF m (rows.getD e []))) (P + q + 1)) ∧ (∀ e, 1 ≤ e → e < k → Dis (ws.getD 0 .undef) (ws.getD e .undef)) ∧ (0 < k → ∀ id off n c, ws.getD 0 .undef = .sl id off n c → Avoid h4 mid id) ∧ Tb h4 tid mid b ∧ FrM mid h h4 ∧ P + q < h4.next ∧ k' = q - k) q
          ⟨0, _, ex_junk rfl, Nat.zero_le _, ?_, hg3.pg, fun e _ he => ⟨?_, hg3.rg e (by omega)⟩, fun e he => by omega, fun e _ he => by omega, fun h => by omega, ht.fr hf3, hf3.toM mid, by have := hg3.lt; omega, rfl⟩ ?_
        · rw [List.length_map, List.length_range, hsh.1]
        · rw [List.getD_eq_getElem?_getD, List.getElem?_map, List.getElem?_range (by omega)]; rfl
        clear hg3 hf3
        rintro k' vars h4 ⟨k, ws, ⟨g, rfl⟩, hk, hwl, hwg, hrest, hown, hdis, hav, ht4, hf4, hn4, rfl⟩
        simp (disch := first | omega | (simp only [List.length_set, List.length_replicate, List.length_append, List.length_take, List.length_drop, List.length_cons, List.length_nil, List.length_map, List.length_range, ints_length] <;> omega)) only [go_sem]
        by_cases hkq : (k : Int) < (q : Int)
        · rw [decide_eq_true hkq]
          obtain ⟨hw1, hw2⟩ := hrest k (Nat.le_refl _) (by omega)
          have hcell : h4.cell P k = some (.sl (P + 1 + k) 0 m (.kn m)) := by
            rw [H.cell_of hwg, List.getElem?_eq_getElem (by omega), ← hw1, List.getD_eq_getElem?_getD, List.getElem?_eq_getElem (by omega)]; rfl
          have hrk := hsh.2 k (by omega)
          have hsi : SI h4 (.sl (P + 1 + k) 0 m (.kn m)) (rows.getD k []) := by
            have := SI.own (h := h4) (id := P + 1 + k) (by omega) hw2 (.kn m)
            rw [hrk] at this; exact this
          simp (disch := first | omega | (simp only [List.length_set, List.length_replicate, List.length_append, List.length_take, List.length_drop, List.length_cons, List.length_nil, List.length_map, List.length_range, ints_length] <;> omega)) only [go_sem, hcell]
          refine (reduced_ok tid mid b m _ _ h4 hm1 (by omega) ht4 hsi (by omega)).mono ?_
          rintro v5 h5 ⟨ht5, ho5, hf5, hav5⟩
          have hP5 : h5.get P = some (.cells false ws) := by
            rw [hf5.get P (by omega) (fun e => by obtain ⟨es, hes⟩ := ht4.isMap; rw [← e, hwg] at hes; cases hes)]; exact hwg
          have hnm : ∀ id vs, h4.get id = some (.cells false vs) → id ≠ mid := fun id vs hg e => by
            obtain ⟨es, hes⟩ := ht4.isMap
            rw [e, hes] at hg; cases hg
          simp (disch := first | omega | (simp only [List.length_set, List.length_replicate, List.length_append, List.length_take, List.length_drop, List.length_cons, List.length_nil, List.length_map, List.length_range, ints_length] <;> omega)) only [go_sem, ho5.sv.st1, hP5, putO_one]
          rw [show (k : Int) + 1 = ((k + 1 : Nat) : Int) from by omega]
          have hPlt : P < P + q + 1 := by omega
          refine ⟨q - (k + 1), by omega, k + 1, ws.set k v5, ex_junk rfl, by omega, by rw [List.length_set, hwl], rfl, fun e he1 he2 => ?_, fun e he => ?_, fun e he1 he2 => ?_, ?_, ?_, ?_, by have := hf5.next; omega, rfl⟩
          · obtain ⟨r1, r2⟩ := hrest e (by omega) he2
            refine ⟨by rw [getD_set, if_neg (by omega)]; exact r1, ?_⟩
            rw [hf5.get _ (by omega) (hnm _ _ r2)]; exact r2
          · rw [getD_set]
            by_cases hke : k = e
            · subst hke
              rw [if_pos rfl, if_pos (by omega)]
              exact (ho5.le (by omega)).set hPlt _
            · rw [if_neg hke]
              exact ((hown e (by omega)).monoM ht4.isMap hf5).set hPlt _
          · have e0 : (ws.set k v5).getD 0 .undef = ws.getD 0 .undef := by rw [getD_set, if_neg (by omega)]
            rw [e0, getD_set]
            by_cases hke : k = e
            · subst hke
              rw [if_pos rfl, if_pos (by omega)]
              exact (hown 0 (by omega)).dis ho5
            · rw [if_neg hke]
              exact hdis e he1 (by omega)
          · intro _ id off n c e
            have hPm : P ≠ mid := hnm P ws hwg
            refine Avoid.fr ?_ (H.get_set_ne _ (Ne.symm hPm) _)
            by_cases hk0 : k = 0
            · subst hk0
              rw [getD_set, if_pos rfl, if_pos (by omega)] at e
              exact hav5 id off n c e
            · rw [getD_set, if_neg hk0] at e
              have hid : id < h4.next := by
                have := hown 0 (by omega)
                rw [e] at this
                exact SV.ne_of this.sv
              exact hf5.av ht4.mlt id hid (hav (by omega) id off n c e)
          · obtain ⟨es, hes⟩ := ht5.isMap
            have hPm : P ≠ mid := hnm P ws hwg
            have hPt : P ≠ tid := by have := ht.tlt; omega
            obtain ⟨es, k1, k2, k3⟩ := ht5.es
            refine ⟨by rw [H.cell_set_ne _ (Ne.symm hPt)]; exact ht5.tp, ht5.ne, ht5.tlt, ht5.mlt, ht5.tb, ht5.mb, es, by rw [H.get_set_ne _ (Ne.symm hPm)]; exact k1, k2, fun n v hv => ?_⟩
            refine ⟨(k3 n v hv).1.other (k3 n v hv).2 hP5 (fun i w hw => ?_) _, (k3 n v hv).2⟩
            have hi := (List.getElem?_eq_some_iff.1 hw).1
            have hw' : ws.getD i .undef = w := by rw [List.getD_eq_getElem?_getD, hw]; rfl
            by_cases hik : i < k
            · rw [← hw']; exact (hown i hik).sv.what.2.2
            · rw [← hw', (hrest i (by omega) (by omega)).1]
              intro k n h; cases h
          · exact (hf4.trans hf5).set (by omega) _
        · rw [decide_eq_false hkq]
          have : q = k := by omega
          subst this
          clear hkq hk hrest hx0 hy0 hcc hcs hcid
          simp (disch := first | omega | (simp only [List.length_set, List.length_replicate, List.length_append, List.length_take, List.length_drop, List.length_cons, List.length_nil, List.length_map, List.length_range, ints_length] <;> omega)) only [go_sem]
          obtain ⟨reds, hreds⟩ : ∃ reds, rows.map (redF m) = reds := ⟨_, rfl⟩
          have hrl : reds.length = q := by rw [← hreds, List.length_map, hsh.1]
          have hlen : ∀ e, e < q → reds.getD e [] = redF m (rows.getD e []) := fun e he => by
            rw [← hreds, List.getD_eq_getElem?_getD, List.getElem?_map, List.getD_eq_getElem?_getD, List.getElem?_eq_getElem (by rw [hsh.1]; exact he)]; rfl
          have hown' : ∀ e, e < q → Own h4 (ws.getD e .undef) 1 (ints (reds.getD e [])) (P + q + 1) := fun e he => by rw [hlen e he]; exact hown e he
          have hpl := phi_len hm1 (show m ≤ 120 by omega)
          have hL : ∀ e, e < q → (reds.getD e []).length = (phiF m).length - 1 := fun e he => by rw [hlen e he, redF_len]
          have hlowB : lowerF n q c = lowB reds := by
            simp only [lowerF, hm]
            rw [if_neg hz, hA, hB, hrows, hreds]
          rw [hlowB]
          clear hlowB hown hlen hdvd hia hib
          have hcell : ∀ e, e < q → h4.cell P e = some (ws.getD e .undef) := fun e he => by
            rw [H.cell_of hwg, List.getElem?_eq_getElem (by omega), List.getD_eq_getElem?_getD, List.getElem?_eq_getElem (by omega)]; rfl
          have esl : slcV 1 (.sl P 0 q (.kn q)) (some (.int .i64 1)) none none = some (.sl P 1 (q - 1) (.kn (q - 1))) := by
            simp only [slcV, bndV]
            rw [if_pos (by omega)]
            simp only
            rw [if_pos (by omega), if_neg (by omega)]
            rfl
          simp (disch := first | omega | (simp only [List.length_set, List.length_replicate, List.length_append, List.length_take, List.length_drop, List.length_cons, List.length_nil, List.length_map, List.length_range, ints_length] <;> omega)) only [go_sem, esl]
          refine Wp_loop (fun k' vars h5 => ∃ (k : Nat), (∃ g : Nat → V, vars = [.ptr tid 0, .int .i64 (n : Int), .int .i64 (q : Int), vc, .nils, .bool false, .int .i64 (m : Int), .sl P 0 q (.kn q), g 8, g 9, g 10, g 11, g 12, g 13, g 14, g 15, g 16, g 17, g 18, g 19, g 20, g 21, g 22, g 23, g 24, g 25, g 26, g 27, g 28, g 29, g 30, g 31, g 32, g 33, g 34, g 35, g 36, g 37, g 38, g 39, .sl P 1 (q - 1) (.kn (q - 1)), .int .i64 ((q - 1 : Nat) : Int), .int .i64 (k : Int), g 43, g 44, g 45, g 46, g 47, g 48]) ∧ k + 1 ≤ q ∧
            Fr h4 h5 ∧ (∀ e, 1 ≤ e → e ≤ k → reds.getD e [] = reds.getD 1 []) ∧ k' = q - k) q
            ⟨0, ex_junk rfl, by omega, Fr.refl h4, fun e h1 h2 => by omega, rfl⟩ ?_
          rintro k' vars h5 ⟨k, ⟨g, rfl⟩, hk, hf5, hall, rfl⟩
          have hcell5 : ∀ e, e < q → h5.cell P e = some (ws.getD e .undef) := fun e he => by rw [hf5.cell (by omega)]; exact hcell e he
          simp (disch := first | omega | (simp only [List.length_set, List.length_replicate, List.length_append, List.length_take, List.length_drop, List.length_cons, List.length_nil, List.length_map, List.length_range, ints_length] <;> omega)) only [go_sem]
          refine iteW_dec (fun hlt => ?_) (fun hge => ?_)
          · simp (disch := first | omega | (simp only [List.length_set, List.length_replicate, List.length_append, List.length_take, List.length_drop, List.length_cons, List.length_nil, List.length_map, List.length_range, ints_length] <;> omega)) only [go_sem, Nat.add_comm 1 k, hcell5]
            refine (equal_ok _ _ _ _ h5 ((hown' (k + 1) (by omega)).fr hf5).sv ((hown' 1 (by omega)).fr hf5).sv (by rw [hL _ (by omega)]; omega) (by rw [hL _ (by omega)]; omega)).mono ?_
            rintro v1 h6 ⟨rfl, hf6⟩
            simp (disch := first | omega | (simp only [List.length_set, List.length_replicate, List.length_append, List.length_take, List.length_drop, List.length_cons, List.length_nil, List.length_map, List.length_range, ints_length] <;> omega)) only [go_sem]
            refine iteW_dec (fun heq => ?_) (fun hne => ?_)
            · simp (disch := first | omega | (simp only [List.length_set, List.length_replicate, List.length_append, List.length_take, List.length_drop, List.length_cons, List.length_nil, List.length_map, List.length_range, ints_length] <;> omega)) only [go_sem]
              rw [show (k : Int) + 1 = ((k + 1 : Nat) : Int) from by omega]
              refine ⟨q - (k + 1), by omega, k + 1, ex_junk rfl, by omega, hf5.trans hf6, fun e h1 h2 => ?_, rfl⟩
              by_cases hek : e = k + 1
              · rw [hek]; exact heq
              · exact hall e h1 (by omega)
            · simp (disch := first | omega | (simp only [List.length_set, List.length_replicate, List.length_append, List.length_take, List.length_drop, List.length_cons, List.length_nil, List.length_map, List.length_range, ints_length] <;> omega)) only [go_sem]
              have hnone : lowB reds = none := by
                rw [lowB, if_neg]
                rw [List.all_eq_true]
                intro hx
                have := hx (reds.getD (k + 1) []) (by
                  rw [List.mem_iff_getElem]
                  exact ⟨k, by rw [List.length_drop]; omega, by rw [List.getElem_drop, List.getD_eq_getElem?_getD, List.getElem?_eq_getElem (by omega), Option.getD_some]; congr 1; omega⟩)
                exact hne (of_decide_eq_true this)
              rw [hnone]
              exact ⟨ht4.fr (hf5.trans hf6), hf4.trans ((hf5.trans hf6).toM mid), _, _, rfl, rfl⟩
          · have hsome : lowB reds = some (subK (reds.getD 0 []) (reds.getD 1 []) (reds.getD 1 []).length) := by
              rw [lowB, if_pos]
              rw [List.all_eq_true]
              intro x hx
              rw [List.mem_iff_getElem] at hx
              obtain ⟨i, hi, rfl⟩ := hx
              rw [List.length_drop] at hi
              rw [List.getElem_drop]
              have := hall (1 + i) (by omega) (by omega)
              rw [List.getD_eq_getElem?_getD, List.getElem?_eq_getElem (by omega), Option.getD_some] at this
              rw [this]
              exact decide_eq_true rfl
            rw [hsome]
            have ho0 := (hown' 0 (by omega)).fr hf5
            have ho1 := (hown' 1 (by omega)).fr hf5
            have hd01 := hdis 1 (Nat.le_refl _) (by omega)
            have hL0 := hL 0 (by omega)
            have hL1 := hL 1 (by omega)
            simp (disch := first | omega | (simp only [List.length_set, List.length_replicate, List.length_append, List.length_take, List.length_drop, List.length_cons, List.length_nil, List.length_map, List.length_range, ints_length] <;> omega)) only [go_sem, hcell5]
            have hl1 : lensV (ws.getD 1 .undef) = some (.int .i64 ((reds.getD 1 []).length : Int)) := SI.lens (h := h5) ho1.sv
            have hav0 := hav (by omega)
            simp (disch := first | omega | (simp only [List.length_set, List.length_replicate, List.length_append, List.length_take, List.length_drop, List.length_cons, List.length_nil, List.length_map, List.length_range, ints_length] <;> omega)) only [go_sem, hl1]
            obtain ⟨id1, off1, hs1, hid1, hc1⟩ := SI.open (h := h5) ho1.sv
            generalize reds.getD 0 [] = R0 at *
            generalize reds.getD 1 [] = R1 at *
            rcases ho0 with ⟨_, h0⟩ | ⟨id0, n0, cap0, rest0, hw0, hn0, hcap0, hid0, hid0', hg0⟩
            · have : (ints R0).length = 0 := by rw [h0]; rfl
              rw [ints_length] at this; omega
            rw [ints_length, Nat.mul_one] at hn0
            have hne01 : id0 ≠ id1 := by
              rcases ho1 with ⟨_, h0⟩ | ⟨id1', n1, cap1, rest1, hw1, hn1', _⟩
              · have : (ints R1).length = 0 := by rw [h0]; rfl
                rw [ints_length] at this; omega
              · have h1 := hd01 _ _ _ _ hw0 _ _ _ _ hw1
                have h2 := hs1.ixa .i64 0 (by omega) (by omega)
                rw [hw1, ixaV_sl (by omega) (by rw [ints_length] at hn1'; omega)] at h2
                simp only [Option.some.injEq, V.ptr.injEq] at h2
                omega
            have havx := (hav0 id0 0 n0 cap0 hw0).fr (hf5.get mid ht4.mlt)
            clear hcell5
            have hpc : ∀ e, e < q → h5.cell P e = some (ws.getD e .undef) := fun e he => by rw [hf5.cell (by omega)]; exact hcell e he
            have hid1' := hid1 (by omega)
            refine Wp_loop (fun k' vars h6 => ∃ (k : Nat), (∃ g : Nat → V, vars = [.ptr tid 0, .int .i64 (n : Int), .int .i64 (q : Int), vc, .nils, .bool false, .int .i64 (m : Int), .sl P 0 q (.kn q), g 8, g 9, g 10, g 11, g 12, g 13, g 14, g 15, g 16, g 17, g 18, g 19, g 20, g 21, g 22, g 23, g 24, g 25, g 26, g 27, g 28, g 29, g 30, g 31, g 32, g 33, g 34, g 35, g 36, g 37, g 38, g 39, g 40, g 41, g 42, g 43, g 44, ws.getD 1 .undef, .int .i64 (R1.length : Int), .int .i64 (k : Int), g 48]) ∧ k ≤ R1.length ∧
              h6.get id0 = some (.cells false (ints (subK R0 R1 k) ++ rest0)) ∧ (∀ x, x ≠ id0 → h6.get x = h5.get x) ∧ h6.next = h5.next ∧ k' = R1.length - k) R1.length
              ⟨0, ex_junk rfl, Nat.zero_le _, hg0, fun _ _ => rfl, rfl, rfl⟩ ?_
            rintro k' vars h6 ⟨k2, ⟨g2, rfl⟩, hk2, hg6, hoth, hn6, rfl⟩
            have hc6 : ∀ x off, x ≠ id0 → h6.cell x off = h5.cell x off := fun x off hx => by unfold H.cell; rw [hoth x hx]
            have hsl := subK_len R0 R1 k2
            simp (disch := first | omega | (simp only [List.length_set, List.length_replicate, List.length_append, List.length_take, List.length_drop, List.length_cons, List.length_nil, List.length_map, List.length_range, ints_length] <;> omega)) only [go_sem]
            by_cases hkL : (k2 : Int) < (R1.length : Int)
            · rw [decide_eq_true hkL]
              have e0 : h6.cell P 0 = some (.sl id0 0 n0 cap0) := by rw [hc6 P 0 (by omega), hpc 0 (by omega), hw0]
              have e1' : h6.cell id1 (off1 + k2) = some (.int .i64 (R1.getD k2 0)) := by rw [hc6 _ _ (Ne.symm hne01)]; exact hc1 k2 (by omega)
              have e2 : h6.cell id0 k2 = some (.int .i64 ((subK R0 R1 k2).getD k2 0)) := by
                rw [H.cell_of hg6, List.getElem?_append_left (by rw [ints_length]; omega), ints_getD (by omega)]
              have hpl2 : k2 < (ints (subK R0 R1 k2) ++ rest0).length := by rw [List.length_append, ints_length]; omega
              simp (disch := first | omega | (simp only [List.length_set, List.length_replicate, List.length_append, List.length_take, List.length_drop, List.length_cons, List.length_nil, List.length_map, List.length_range, ints_length] <;> omega)) only [go_sem, hs1.ixa, e0, e1', e2, hg6]
              rw [show (k2 : Int) + 1 = ((k2 + 1 : Nat) : Int) from by omega]
              refine ⟨R1.length - (k2 + 1), by omega, k2 + 1, ex_junk rfl, by omega, ?_, fun x hx => ?_, hn6, rfl⟩
              · rw [List.set_append_left _ _ (by rw [ints_length]; omega), ints_set]; rfl
              · rw [H.get_set_ne _ hx]; exact hoth x hx
            · rw [decide_eq_false hkL]
              have : R1.length = k2 := by omega
              subst this
              have e0 : h6.cell P 0 = some (.sl id0 0 n0 cap0) := by rw [hc6 P 0 (by omega), hpc 0 (by omega), hw0]
              simp (disch := first | omega | (simp only [List.length_set, List.length_replicate, List.length_append, List.length_take, List.length_drop, List.length_cons, List.length_nil, List.length_map, List.length_range, ints_length] <;> omega)) only [go_sem, e0]
              have hid0m : id0 ≠ mid := by have := ht.mlt; omega
              have hid0t : id0 ≠ tid := by have := ht.tlt; omega
              have hset : ∀ x, h6.get x = (h5.set id0 (some (.cells false (ints (subK R0 R1 R1.length) ++ rest0)))).get x := fun x => by
                by_cases hx : x = id0
                · rw [hx, hg6, H.get_set_same]
                · rw [hoth x hx, H.get_set_ne _ hx]
              have hF6 : Fr (h5.set id0 (some (.cells false (ints (subK R0 R1 R1.length) ++ rest0)))) h6 := ⟨by rw [H.next_set, hn6]; exact Nat.le_refl _, fun x _ => hset x⟩
              refine ⟨((ht4.fr hf5).set hid0t hid0m havx _).fr hF6, ((hf4.trans (hf5.toM mid)).set (by omega) _).trans (hF6.toM mid), _, _, rfl, rfl, ?_, fun id off n c e => by cases e; omega⟩
              refine .inr ⟨id0, 0, n0, cap0, false, _, rfl, by rw [ints_length]; omega, by omega, hg6, by rw [List.length_append, ints_length]; omega, ?_⟩
              rw [List.drop_zero, Nat.mul_one, show n0 = (ints (subK R0 R1 R1.length)).length by rw [ints_length]; omega, List.take_left]
end Go.Proofs.Ythfabknpogbcaaa
