/- Contracts: reduced, inverse. -/
import Derived.Test.YthfabknpogbcaaaC6c
namespace Go.Proofs.Ythfabknpogbcaaa
open Go Go.Ay
set_option maxRecDepth 100000

theorem reduced_ok (tid mid b : Nat) (n : Nat) (vc : V) (c : List Int) (h : H) (h1 : 1 ≤ n) (h2 : n ≤ 120) (ht : Tb h tid mid b) (hc : SI h vc c) (hl : c.length < 1000000) :
    Ev T n_cyclo_table_reduced [.ptr tid 0, .int .i64 (n : Int), vc] h (fun v h' => Tb h' tid mid b ∧ Own h' v 1 (ints (redF n c)) h.next ∧ FrM mid h h' ∧ (∀ id off n c, v = .sl id off n c → Avoid h' mid id)) := by
  refine Ev_of t_cyclo_table_reduced rfl ?_
  simp (disch := first | omega | (simp only [List.length_set, List.length_replicate, List.length_append, List.length_take, List.length_drop, List.length_cons, List.length_nil, List.length_map, List.length_range, ints_length] <;> omega)) only [go_sem, c_cyclo_table_reduced, initV_eq]
  refine (phi_ok tid mid b n h h1 h2 ht).mono ?_
  rintro vp hp1 ⟨ht1, hvp, hf1⟩
  have hpl := phi_len h1 h2
  simp (disch := first | omega | (simp only [List.length_set, List.length_replicate, List.length_append, List.length_take, List.length_drop, List.length_cons, List.length_nil, List.length_map, List.length_range, ints_length] <;> omega)) only [go_sem]
  refine (divide_ok vc vp c (phiF n) hp1 (hc.monoM ht.isMap hf1) hvp hl (by omega) (by omega)).mono ?_
  rintro v4 h4 ⟨q, r, rfl, hf4, hq, hr, _⟩
  have hlr : lensV r = some (.int .i64 ((divF c (phiF n)).2.length : Int)) := SI.lens (h := h4) hr.sv
  have hl2 := divF_len2 c (phiF n)
  simp (disch := first | omega | (simp only [List.length_set, List.length_replicate, List.length_append, List.length_take, List.length_drop, List.length_cons, List.length_nil, List.length_map, List.length_range, ints_length] <;> omega)) only [go_sem, List.getElem?_cons_zero, List.getElem?_cons_succ, (hvp.mono hf4).lens, hlr, apzP_int]
  have e1 : ((phiF n).length : Int) - 1 - ((divF c (phiF n)).2.length : Int) = (((phiF n).length - 1 - (divF c (phiF n)).2.length : Nat) : Int) := by omega
  rw [e1, Int.toNat_natCast]
  obtain ⟨v5, h5, e, a⟩ := hr.appV (bytes := 8) (n := (divF c (phiF n)).2.length) (m := (phiF n).length - 1 - (divF c (phiF n)).2.length) (us := ints (List.replicate ((phiF n).length - 1 - (divF c (phiF n)).2.length) 0)) hf4.next (by rw [ints_length, Nat.mul_one]) (by rw [ints_length, List.length_replicate, Nat.mul_one]) (by omega) (by omega)
  rw [e]
  simp (disch := first | omega | (simp only [List.length_set, List.length_replicate, List.length_append, List.length_take, List.length_drop, List.length_cons, List.length_nil, List.length_map, List.length_range, ints_length] <;> omega)) only [go_sem]
  have hf5 : Fr hp1 h5 := a.fr hp1 hf4 (Nat.le_refl _)
  have := a.own
  rw [← ints_append] at this
  refine ⟨ht1.fr hf5, this.le hf1.next, hf1.trans (hf5.toM mid), fun id off n c e => ?_⟩
  rcases this with ⟨h6, _⟩ | ⟨id', _, _, _, h6, _, _, h7, _⟩
  · rw [h6] at e; cases e
  · rw [h6] at e; cases e
    exact (ht1.avoid h7).fr (hf5.get mid ht1.mlt)

theorem inverse_ok (a m x0 : Nat) (h : H) (ha : a ≤ 120) (h1 : 1 ≤ m) (h2 : m ≤ 120) (hx : firstF (fun x => a * x % m == 1 % m) (m + 1) = some x0) :
    Ev T n_cyclo_inverse [.int .i64 (a : Int), .int .i64 (m : Int)] h (fun v h' => v = .int .i64 ((invF a m : Nat) : Int) ∧ Fr h h') := by
  refine Ev_of t_cyclo_inverse rfl ?_
  obtain ⟨f1, f2, f3⟩ := first_some hx
  have hinv : invF a m = x0 := by rw [invF, hx]; rfl
  simp (disch := first | omega | (simp only [List.length_set, List.length_replicate, List.length_append, List.length_take, List.length_drop, List.length_cons, List.length_nil, List.length_map, List.length_range, ints_length] <;> omega)) only [go_sem, c_cyclo_inverse, initV_eq]
  refine Wp_loop (fun k vars h2 => ∃ (x : Nat) (x4 : V), vars = [.int .i64 (a : Int), .int .i64 (m : Int), .int .i64 0, .int .i64 (x : Int), x4] ∧ x ≤ x0 ∧ Fr h h2 ∧ k = x0 - x) x0
    ⟨0, _, rfl, Nat.zero_le _, Fr.refl h, rfl⟩ ?_
  rintro k vars h2 ⟨x, x4, rfl, hx0, hf2, rfl⟩
  have hb1 : a * x ≤ 120 * 121 := Nat.mul_le_mul ha (by omega)
  have hb2 : ((a : Int) * (x : Int)) = ((a * x : Nat) : Int) := (Int.natCast_mul a x).symm
  simp (disch := first | omega | (simp only [List.length_set, List.length_replicate, List.length_append, List.length_take, List.length_drop, List.length_cons, List.length_nil, List.length_map, List.length_range, ints_length] <;> omega)) only [go_sem, hb2]
  have e1 : ((a * x : Nat) : Int).tmod (m : Int) = ((a * x % m : Nat) : Int) := tmod_nat ..
  have e2 : (1 : Int).tmod (m : Int) = ((1 % m : Nat) : Int) := tmod_nat 1 m
  rw [e1, e2]
  refine iteW_dec (fun hne => ?_) (fun heq => ?_)
  · have hlt : x < x0 := by
      rcases Nat.lt_or_ge x x0 with h | h
      · exact h
      · have : x = x0 := by omega
        subst this
        simp at f2
        omega
    simp (disch := first | omega | (simp only [List.length_set, List.length_replicate, List.length_append, List.length_take, List.length_drop, List.length_cons, List.length_nil, List.length_map, List.length_range, ints_length] <;> omega)) only [go_sem]
    rw [show (x : Int) + 1 = ((x + 1 : Nat) : Int) from by omega]
    exact ⟨x0 - (x + 1), by omega, x + 1, _, rfl, by omega, hf2.bump (by omega), rfl⟩
  · have : x = x0 := by
      rcases Nat.lt_or_ge x x0 with h | h
      · have := f3 x h
        simp at this
        omega
      · omega
    simp (disch := first | omega | (simp only [List.length_set, List.length_replicate, List.length_append, List.length_take, List.length_drop, List.length_cons, List.length_nil, List.length_map, List.length_range, ints_length] <;> omega)) only [go_sem]
    exact ⟨by rw [hinv, this], hf2.bump (by omega)⟩

/-! the parts of a number -/
structure Grid (h : H) (P m : Nat) (rows : List (List Int)) : Prop where
  pg : h.get P = some (.cells false ((List.range rows.length).map fun e => V.sl (P + 1 + e) 0 m (.kn m)))
  rg : ∀ e, e < rows.length → h.get (P + 1 + e) = some (.cells false (ints (rows.getD e [])))
  rl : ∀ e, e < rows.length → (rows.getD e []).length = m
  lt : P + rows.length < h.next
theorem Grid.cell {h : H} {P m : Nat} {rows : List (List Int)} (g : Grid h P m rows) {e : Nat} (he : e < rows.length) : h.cell P e = some (.sl (P + 1 + e) 0 m (.kn m)) := by
  rw [H.cell_of g.pg, List.getElem?_map, List.getElem?_range he]; rfl
theorem Grid.at {h : H} {P m : Nat} {rows : List (List Int)} (g : Grid h P m rows) {e i : Nat} (he : e < rows.length) (hi : i < m) : h.cell (P + 1 + e) i = some (.int .i64 ((rows.getD e []).getD i 0)) :=
  own_cell (g.rg e he) i (by rw [g.rl e he]; exact hi)
theorem Grid.set {h : H} {P m : Nat} {rows : List (List Int)} (g : Grid h P m rows) {e i : Nat} (he : e < rows.length) (x : Int) : Grid (h.set (P + 1 + e) (some (.cells false (ints ((rows.getD e []).set i x))))) P m (rows.set e ((rows.getD e []).set i x)) := by
  refine ⟨?_, fun k hk => ?_, fun k hk => ?_, ?_⟩
  · rw [H.get_set_ne _ (by omega), List.length_set]; exact g.pg
  · rw [List.length_set] at hk
    rw [getD_set]
    by_cases hke : e = k
    · subst hke
      rw [H.get_set_same, if_pos rfl, if_pos he]
    · rw [H.get_set_ne _ (by omega), if_neg hke]
      exact g.rg k hk
  · rw [List.length_set] at hk
    rw [getD_set]
    by_cases hke : e = k
    · subst hke
      rw [if_pos rfl, if_pos he, List.length_set]
      exact g.rl e he
    · rw [if_neg hke]
      exact g.rl k hk
  · rw [List.length_set]; exact g.lt
theorem Grid.fr {h h' : H} {P m : Nat} {rows : List (List Int)} (g : Grid h P m rows) (f : Fr h h') : Grid h' P m rows :=
  ⟨by rw [f.get P (by have := g.lt; omega)]; exact g.pg, fun e he => by rw [f.get _ (by have := g.lt; omega)]; exact g.rg e he, g.rl, Nat.lt_of_lt_of_le g.lt f.next⟩
theorem Grid.monoM {h h' : H} {P m mid : Nat} {rows : List (List Int)} (g : Grid h P m rows) (hm : IsMap h mid) (f : FrM mid h h') : Grid h' P m rows := by
  obtain ⟨es, hm⟩ := hm
  exact ⟨by rw [f.get P (by have := g.lt; omega) (fun e => by have := g.pg; rw [e, hm] at this; cases this)]; exact g.pg, fun e he => by rw [f.get _ (by have := g.lt; omega) (fun e' => by have := g.rg e he; rw [e', hm] at this; cases this)]; exact g.rg e he, g.rl, Nat.lt_of_lt_of_le g.lt f.next⟩
theorem Grid.si {h : H} {P m : Nat} {rows : List (List Int)} (g : Grid h P m rows) {e : Nat} (he : e < rows.length) : SI h (.sl (P + 1 + e) 0 m (.kn m)) (rows.getD e []) := by
  have := SI.own (h := h) (id := P + 1 + e) (by have := g.lt; omega) (g.rg e he) (.kn m)
  rw [g.rl e he] at this
  exact this
end Go.Proofs.Ythfabknpogbcaaa
