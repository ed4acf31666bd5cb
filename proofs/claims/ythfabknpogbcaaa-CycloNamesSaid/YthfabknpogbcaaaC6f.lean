/- Contracts: the primes that divide a number, one after another. -/
import Derived.Test.YthfabknpogbcaaaC6e
namespace Go.Proofs.Ythfabknpogbcaaa
open Go Go.Ay
set_option maxRecDepth 100000

theorem primes_ok (n : Nat) (h : H) : Ev T n_cyclo_primes [.int .i64 (n : Int)] h (fun v h' => v = .fn 80 [] [.ptr h.next 0] ∧ h' = h.new (.cells false [.int .i64 (n : Int)])) := by
  refine Ev_of t_cyclo_primes rfl ?_
  simp (disch := first | omega | (simp only [List.length_set, List.length_replicate, List.length_append, List.length_take, List.length_drop, List.length_cons, List.length_nil, List.length_map, List.length_range, ints_length] <;> omega)) only [go_sem, c_cyclo_primes, initV_eq]

set_option maxHeartbeats 1000000 in
theorem primes1_ok (id nb : Nat) (Iv : List Nat → H → Prop) (Dn : H → Prop)
    (hset : ∀ l h x, Iv l h → Iv l (h.set nb (some (.cells false [.int .i64 x]))))
    (hyld : ∀ q l h, Iv (q :: l) h → Ey T id [.int .i64 (q : Int)] h (fun v h' => h'.get nb = h.get nb ∧ (v = .bool true ∧ Iv l h' ∨ v = .bool false ∧ Dn h')))
    (n : Nat) (hn : 1 ≤ n) (hn2 : n ≤ 120) (h : H) (hg : h.get nb = some (.cells false [.int .i64 (n : Int)])) (hI : Iv (prOf n) h) :
    Ev T n_cyclo_primes_1 [.yl id, .ptr nb 0] h (fun _ h' => Iv [] h' ∨ Dn h') := by
  refine Ev_of t_cyclo_primes_1 rfl ?_
  simp (disch := first | omega | (simp only [List.length_set, List.length_replicate, List.length_append, List.length_take, List.length_drop, List.length_cons, List.length_nil, List.length_map, List.length_range, ints_length] <;> omega)) only [go_sem, c_cyclo_primes_1, initV_eq]
  refine Wp_loop (fun k vars h1 => ∃ (x q : Nat) (l : List Nat), (∃ g : Nat → V, vars = [.yl id, .ptr nb 0, .int .i64 (q : Int), g 3, g 4, g 5, g 6]) ∧ 1 ≤ x ∧ x ≤ 120 ∧ 2 ≤ q ∧ q + k = 127 ∧ pgF k x q = some l ∧ h1.get nb = some (.cells false [.int .i64 (x : Int)]) ∧ Iv l h1) 125
    ⟨n, 2, _, ex_junk rfl, hn, hn2, Nat.le_refl _, rfl, prOf_some hn2, hg, hI⟩ ?_
  rintro k vars h1 ⟨x, q, l, ⟨g, rfl⟩, hx1, hx2, hq, hqk, hpg, hg1, hI1⟩
  obtain ⟨k, rfl⟩ : ∃ k', k = k' + 1 := by
    cases k with
    | zero => cases hpg
    | succ k => exact ⟨k, rfl⟩
  have hc1 : h1.cell nb 0 = some (.int .i64 (x : Int)) := by rw [H.cell_of hg1]; rfl
  simp (disch := first | omega | (simp only [List.length_set, List.length_replicate, List.length_append, List.length_take, List.length_drop, List.length_cons, List.length_nil, List.length_map, List.length_range, ints_length] <;> omega)) only [go_sem, hc1]
  rw [pgF] at hpg
  refine iteW_dec (fun hlt => ?_) (fun hge => ?_)
  · rw [if_pos (by omega)] at hpg
    have em : (x : Int).tmod (q : Int) = ((x % q : Nat) : Int) := tmod_nat ..
    simp (disch := first | omega | (simp only [List.length_set, List.length_replicate, List.length_append, List.length_take, List.length_drop, List.length_cons, List.length_nil, List.length_map, List.length_range, ints_length] <;> omega)) only [go_sem, hc1, em]
    refine iteW_dec (fun hnz => ?_) (fun hz => ?_)
    · rw [if_pos (by omega)] at hpg
      simp (disch := first | omega | (simp only [List.length_set, List.length_replicate, List.length_append, List.length_take, List.length_drop, List.length_cons, List.length_nil, List.length_map, List.length_range, ints_length] <;> omega)) only [go_sem]
      rw [show (q : Int) + 1 = ((q + 1 : Nat) : Int) from by omega]
      exact ⟨k, by omega, x, q + 1, l, ex_junk rfl, hx1, hx2, by omega, by omega, hpg, hg1, hI1⟩
    · rw [if_neg (by omega)] at hpg
      have hz' : x % q = 0 := by omega
      cases hl : pgF k (outF x x q) (q + 1) with
      | none => rw [hl] at hpg; cases hpg
      | some l' =>
        rw [hl] at hpg
        simp only [Option.map_some, Option.some.injEq] at hpg
        subst hpg
        simp (disch := first | omega | (simp only [List.length_set, List.length_replicate, List.length_append, List.length_take, List.length_drop, List.length_cons, List.length_nil, List.length_map, List.length_range, ints_length] <;> omega)) only [go_sem]
        refine Wp_loop (fun k2 vars h2 => ∃ (y : Nat), (∃ g : Nat → V, vars = [.yl id, .ptr nb 0, .int .i64 (q : Int), g 3, g 4, g 5, g 6]) ∧ 1 ≤ y ∧ y ≤ 120 ∧ outF y y q = outF x x q ∧ h2.get nb = some (.cells false [.int .i64 (y : Int)]) ∧ Iv (q :: l') h2 ∧ y = k2) x
          ⟨x, ex_junk rfl, hx1, hx2, rfl, hg1, hI1, rfl⟩ ?_
        rintro k2 vars h2 ⟨y, ⟨g, rfl⟩, hy1, hy2, hout, hg2, hI2, rfl⟩
        have hc2 : h2.cell nb 0 = some (.int .i64 (y : Int)) := by rw [H.cell_of hg2]; rfl
        have em2 : (y : Int).tmod (q : Int) = ((y % q : Nat) : Int) := tmod_nat ..
        simp (disch := first | omega | (simp only [List.length_set, List.length_replicate, List.length_append, List.length_take, List.length_drop, List.length_cons, List.length_nil, List.length_map, List.length_range, ints_length] <;> omega)) only [go_sem, hc2, em2]
        refine iteW_dec (fun hyz => ?_) (fun hynz => ?_)
        · have hyz' : y % q = 0 := by omega
          obtain ⟨s1, s2, s3⟩ := outF_step hq hy1 hyz'
          have ed : (y : Int).tdiv (q : Int) = ((y / q : Nat) : Int) := rfl
          generalize y / q = z at s1 s2 s3 ed
          simp (disch := first | omega | (simp only [List.length_set, List.length_replicate, List.length_append, List.length_take, List.length_drop, List.length_cons, List.length_nil, List.length_map, List.length_range, ints_length] <;> omega)) only [go_sem, hc2, ed, hg2]
          exact ⟨z, s2, z, ex_junk rfl, s1, by omega, s3.trans hout, rfl, hset _ _ _ hI2, rfl⟩
        · have hyz' : y % q ≠ 0 := by omega
          have hy3 : y = outF x x q := by rw [← hout, outF_stop hy1 hyz']
          simp (disch := first | omega | (simp only [List.length_set, List.length_replicate, List.length_append, List.length_take, List.length_drop, List.length_cons, List.length_nil, List.length_map, List.length_range, ints_length] <;> omega)) only [go_sem]
          refine (hyld q l' h2 hI2).mono ?_
          rintro v3 h3 ⟨hg3, ⟨rfl, hI3⟩ | ⟨rfl, hD3⟩⟩
          · simp (disch := first | omega | (simp only [List.length_set, List.length_replicate, List.length_append, List.length_take, List.length_drop, List.length_cons, List.length_nil, List.length_map, List.length_range, ints_length] <;> omega)) only [go_sem]
            rw [show (q : Int) + 1 = ((q + 1 : Nat) : Int) from by omega]
            exact ⟨k, by omega, y, q + 1, l', ex_junk rfl, hy1, hy2, by omega, by omega, by rw [hy3]; exact hl, by rw [hg3, hg2], hI3⟩
          · simp (disch := first | omega | (simp only [List.length_set, List.length_replicate, List.length_append, List.length_take, List.length_drop, List.length_cons, List.length_nil, List.length_map, List.length_range, ints_length] <;> omega)) only [go_sem]
            exact .inr hD3
  · rw [if_neg (by omega)] at hpg
    cases hpg
    simp (disch := first | omega | (simp only [List.length_set, List.length_replicate, List.length_append, List.length_take, List.length_drop, List.length_cons, List.length_nil, List.length_map, List.length_range, ints_length] <;> omega)) only [go_sem]
    exact .inl hI1
end Go.Proofs.Ythfabknpogbcaaa
