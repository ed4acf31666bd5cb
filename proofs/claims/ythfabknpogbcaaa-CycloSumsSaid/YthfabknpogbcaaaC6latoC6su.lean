/- Contracts: the helpers of the laws. The laws CycloRing and CycloGalois, walked. The law CycloSums, walked. -/
import Derived.Test.YthfabknpogbcaaaCy10toC6r
/- Contracts: the helpers of the laws. -/
namespace Go.Proofs.Ythfabknpogbcaaa
open Go Go.Ay
set_option maxRecDepth 100000
noncomputable section

/-- One object alone may have changed. -/
structure Fx (x : Nat) (h h' : H) : Prop where
  next : h.next ≤ h'.next
  get : ∀ id, id < h.next → id ≠ x → h'.get id = h.get id
theorem Fx.refl (x : Nat) (h : H) : Fx x h h := ⟨Nat.le_refl _, fun _ _ _ => rfl⟩
theorem Fx.of {x : Nat} {h h' : H} (f : Fr h h') : Fx x h h' := ⟨f.next, fun id hid _ => f.get id hid⟩
theorem Fx.trans {x : Nat} {a b c : H} (f : Fx x a b) (g : Fx x b c) : Fx x a c := ⟨Nat.le_trans f.next g.next, fun id hid hx => (g.get id (Nat.lt_of_lt_of_le hid f.next) hx).trans (f.get id hid hx)⟩
theorem Fx.set {x : Nat} {a b : H} (f : Fx x a b) (o : Option Ob) : Fx x a (b.set x o) := ⟨f.next, fun id hid hx => (H.get_set_ne b hx o).trans (f.get id hid hx)⟩
theorem Fx.setf {x : Nat} {a b : H} (f : Fx x a b) {y : Nat} (hy : a.next ≤ y) (o : Option Ob) : Fx x a (b.set y o) := ⟨f.next, fun id hid hx => (H.get_set_ne b (by omega) o).trans (f.get id hid hx)⟩
/-- Below the object, nothing has. -/
theorem Fx.fr {x : Nat} {a b c : H} (f : Fr a b) (hx : a.next ≤ x) (g : Fx x b c) : Fr a c := ⟨Nat.le_trans f.next g.next, fun id hid => (g.get id (Nat.lt_of_lt_of_le hid f.next) (by omega)).trans (f.get id hid)⟩
theorem SI.fx {h h' : H} {x lo : Nat} {u : V} {l : List Int} (s : SI h u l) (fs : Frs u lo) (hx : x < lo) (f : Fx x h h') : SI h' u l := by
  rcases s with s | ⟨id, off, len, cap, ro, vs, rfl, h2, h3, h4, h5, h6⟩
  · exact .inl s
  · have hid := fs _ _ _ _ rfl
    exact .inr ⟨id, off, len, cap, ro, vs, rfl, h2, Nat.lt_of_lt_of_le h3 f.next, by rw [f.get id h3 (by omega)]; exact h4, h5, h6⟩

/-- A taker of numbers. -/
def Tk (h : H) (x : Nat) (l : List Int) : Prop := ∃ vl, ∃ a : Nat, h.get x = some (.cells false [vl, .int .i64 (a : Int)]) ∧ SI h vl l ∧ (∀ id off len c, vl = .sl id off len c → id < x) ∧ a ≤ l.length ∧ x < h.next
theorem Tk.mono {h h' : H} {x : Nat} {l : List Int} (t : Tk h x l) (f : Fr h h') : Tk h' x l := by
  obtain ⟨vl, a, h1, h2, h3, h4, h5⟩ := t
  exact ⟨vl, a, (f.get x h5).trans h1, h2.mono f, h3, h4, Nat.lt_of_lt_of_le h5 f.next⟩
/-- What lies up to the taker is as it was. -/
theorem Tk.low {h h' : H} {x : Nat} {l : List Int} (t : Tk h x l) (hn : h.next ≤ h'.next) (hg : ∀ id, id ≤ x → h'.get id = h.get id) : Tk h' x l := by
  obtain ⟨vl, a, h1, h2, h3, h4, h5⟩ := t
  refine ⟨vl, a, (hg x (Nat.le_refl _)).trans h1, ?_, h3, h4, Nat.lt_of_lt_of_le h5 hn⟩
  rcases h2 with h0 | ⟨id, off, len, cap, ro, vs, e, q2, q3, q4, q5, q6⟩
  · exact .inl h0
  · have := h3 _ _ _ _ e
    exact .inr ⟨id, off, len, cap, ro, vs, e, q2, Nat.lt_of_lt_of_le q3 hn, (hg id (by omega)).trans q4, q5, q6⟩
theorem Tk.set {h : H} {x y : Nat} {l : List Int} (t : Tk h x l) (hy : h.next ≤ y) (o : Option Ob) : Tk (h.set y o) x l := t.mono ((Fr.refl h).set hy o)

theorem tmod_range (a : Int) {n : Int} (hn : 0 < n) : 0 ≤ a % n ∧ a % n < n := ⟨Int.emod_nonneg a (by omega), Int.emod_lt_of_pos a hn⟩

set_option maxHeartbeats 1000000 in
theorem take_ok (x : Nat) (l : List Int) (n : Int) (h : H) (ht : Tk h x l) (hl : l.length < 1000000) (hn : 1 ≤ n) (hn2 : n < 1000000000) :
    Ev T n_kit_Taker_Take [.ptr x 0, .int .i64 n] h (fun v h' => ∃ z, v = .int .i64 z ∧ 0 ≤ z ∧ z < n ∧ Tk h' x l ∧ Fx x h h') := by
  obtain ⟨vl, a, hg, hs, hne, ha, hx⟩ := ht
  refine Ev_of t_kit_Taker_Take rfl ?_
  have g0 : h.cell x 0 = some vl := by rw [H.cell_of hg]; rfl
  have g1 : h.cell x 1 = some (.int .i64 (a : Int)) := by rw [H.cell_of hg]; rfl
  have ev : eqV vl vl = true := SV.eqV hs
  obtain ⟨id, off, hsl, hid, hc⟩ := hs.open
  simp (disch := first | omega | (simp only [Qn] <;> omega)) only [go_sem, c_kit_Taker_Take, initV_eq, g0, g1, hs.lens, ev]
  by_cases hal : (l.length : Int) ≤ (a : Int)
  · rw [decide_eq_true hal]
    simp (disch := first | omega | (simp only [Qn] <;> omega)) only [go_sem]
    exact ⟨0, rfl, by omega, by omega, ⟨vl, a, hg, hs.mono ((Fr.refl h).bump (by omega)), hne, ha, by show x < h.next + 14; omega⟩, Fx.of ((Fr.refl h).bump (by omega))⟩
  · rw [decide_eq_false hal]
    simp (disch := first | omega | (simp only [Qn] <;> omega)) only [go_sem]
    rw [decide_eq_false (show ¬ n < 1 by omega)]
    simp (disch := first | omega | (simp only [Qn] <;> omega)) only [go_sem, g1, hg]
    have hne2 : id ≠ x := by
      intro e
      have := hsl.ixa .i64 0 (by omega) (by omega)
      rcases hs with ⟨rfl, h0⟩ | ⟨id', o', len', cap', _, _, rfl, _⟩
      · have : (ints l).length = 0 := by rw [h0]; rfl
        rw [ints_length] at this; omega
      · have hll : len' = l.length := Option.some.inj hsl.len
        rw [ixaV_sl (by omega) (by omega)] at this
        simp only [Option.some.injEq, V.ptr.injEq] at this
        have := hne _ _ _ _ rfl; omega
    have c0 : h.cell id (off + a) = some (.int .i64 (l.getD a 0)) := hc a (by omega)
    have ea : ((a : Int) + 1 - 1).toNat = a := by omega
    simp (disch := first | omega | (simp only [Qn] <;> omega)) only [go_sem, g0, g1, hg, hsl.ixa, c0, ev, ea]
    have hgg : ∀ m, (H.mk ((H.mk h.tr (h.next + 14)).set x (some (.cells false [vl, .int .i64 ((a : Int) + 1)]))).tr m).get x = some (.cells false [vl, .int .i64 ((a : Int) + 1)]) := fun m => H.get_set_same ..
    have hfx : Fx x h (H.mk ((H.mk h.tr (h.next + 14)).set x (some (.cells false [vl, .int .i64 ((a : Int) + 1)]))).tr (h.next + 14 + 14)) := ⟨by show h.next ≤ h.next + 14 + 14; omega, fun id hid hne => H.get_set_ne _ hne _⟩
    have hnn : (H.mk ((H.mk h.tr (h.next + 14)).set x (some (.cells false [vl, .int .i64 ((a : Int) + 1)]))).tr (h.next + 14 + 14)).next = h.next + 14 + 14 := rfl
    have hgx := hgg (h.next + 14 + 14)
    generalize H.mk ((H.mk h.tr (h.next + 14)).set x (some (.cells false [vl, .int .i64 ((a : Int) + 1)]))).tr (h.next + 14 + 14) = h2 at *
    refine (pick_ok (l.getD a 0) n h2 (by omega) hn2).mono ?_
    rintro v h3 ⟨rfl, rfl⟩
    have k0 : h3.cell x 0 = some vl := by rw [H.cell_of hgx]; rfl
    have k1 : h3.cell x 1 = some (.int .i64 ((a : Int) + 1)) := by rw [H.cell_of hgx]; rfl
    simp (disch := first | omega | (simp only [Qn] <;> omega)) only [go_sem, k0, k1, ev]
    have hr := tmod_range (l.getD a 0) (show 0 < n by omega)
    refine ⟨_, rfl, hr.1, hr.2, ⟨vl, a + 1, ?_, ?_, hne, by omega, by omega⟩, hfx⟩
    · rw [hgx]; simp
    · rcases hs with h0 | ⟨id', o', len', cap', ro, vs, rfl, q2, q3, q4, q5, q6⟩
      · exact .inl h0
      · exact .inr ⟨id', o', len', cap', ro, vs, rfl, q2, by omega, (hfx.get id' q3 (fun e => by have := hne _ _ _ _ rfl; omega)).trans q4, q5, q6⟩

set_option maxHeartbeats 2000000 in
theorem small_ok (x : Nat) (l : List Int) (n : Nat) (h : H) (ht : Tk h x l) (hl : l.length < 1000000) (h1 : 1 ≤ n) (h2 : n ≤ 120) :
    Ev T n_law06_small [.ptr x 0, .int .i64 (n : Int)] h (fun v h' => ∃ c, L1 n c ≤ 72 ∧ ∃ w, v = .tup [w, .int .i64 0] ∧ CycO h' w (numF n c) h.next ∧ Tk h' x l ∧ Fx x h h') := by
  refine Ev_of t_law06_small rfl ?_
  have hxl : x < h.next := by obtain ⟨_, _, _, _, _, _, h⟩ := ht; exact h
  simp (disch := first | omega | (simp only [Qn] <;> omega)) only [go_sem, c_law06_small, initV_eq]
  have hfa : Fr h (h.new (.cells false [.int .i64 0, .nils])) := (Fr.refl h).new _
  have hga : (h.new (.cells false [.int .i64 0, .nils])).get h.next = some (.cells false [.int .i64 0, .nils]) := H.get_new_same ..
  have hna : (h.new (.cells false [.int .i64 0, .nils])).next = h.next + 1 := H.next_new ..
  generalize h.new (.cells false [.int .i64 0, .nils]) = ha at *
  have hta := ht.mono hfa
  refine Wp_loop (fun k' vars h3 => ∃ (i : Nat) (u : V) (c : List Int), (∃ g : Nat → V, vars = [.ptr x 0, .int .i64 (n : Int), .ptr h.next 0, g 3, u, .int .i64 (i : Int), g 6]) ∧ i ≤ n ∧ i ≤ 8 ∧ c.length = i ∧ (∀ z ∈ c, -9 ≤ z ∧ z ≤ 9) ∧ Own h3 u 1 (ints c) (h.next + 1) ∧ Tk h3 x l ∧ Fx x ha h3 ∧ k' = 8 - i) 8
    ⟨0, .nils, [], ex_junk rfl, Nat.zero_le _, Nat.zero_le _, rfl, by simp, Own.nils _ _ _, hta, Fx.refl x ha, rfl⟩ ?_
  rintro k' vars h3 ⟨i, u, c, ⟨g, rfl⟩, hin, hi8, hcl, hcz, ho, ht3, hf3, rfl⟩
  have hn3 := hf3.next
  simp (disch := first | omega | (simp only [Qn] <;> omega)) only [go_sem]
  have main : ∀ (hi : i = n ∨ i = 8), SI h3 u c → Ev T n_cyclo_Make [.int .i64 (n : Int), u] h3 (fun v h' => ∃ d, L1 n d ≤ 72 ∧ ∃ w, v = .tup [w, .int .i64 0] ∧ CycO h' w (numF n d) h3.next ∧ Fr h3 h') := fun hi hs => by
    refine (make_ok n u c h3 hs (by omega)).mono ?_
    rintro v h4 ⟨w, rfl, hw, hf4⟩
    have hL : L1 n (fun k => c.getD k 0) ≤ 72 := by
      have hsm : L1 n (fun k => c.getD k 0) = sm c.length (fun k => ab (c.getD k 0)) := sm_more (by omega) fun k a b => by
        show ab (c.getD k 0) = 0
        rw [List.getD_eq_getElem?_getD, List.getElem?_eq_none (by omega)]; rfl
      rw [hsm]
      have := sm_const_le (n := c.length) (f := fun k => ab (c.getD k 0)) (K := 9) fun k hk => by
        rw [ab_le]
        refine hcz _ ?_
        rw [List.getD_eq_getElem?_getD, List.getElem?_eq_getElem hk]
        exact List.getElem_mem _
      omega
    have hmk : makeF (n : Int) c = (numF n (fun k => c.getD k 0), 0) := make_num h1 h2 (by omega) (by
      rw [List.any_eq_false]
      intro z hz
      have := hcz z hz
      simp [overF]; omega) (fun j _ => by
        refine (sm_more (by omega) fun k a b => ?_).symm
        show c.getD k 0 * _ = 0
        rw [List.getD_eq_getElem?_getD, List.getElem?_eq_none (by omega)]; exact Int.zero_mul _) (by omega)
    rw [hmk] at hw
    exact ⟨_, hL, w, by rw [hmk], hw, hf4⟩
  have hxa : x ≠ h.next := by omega
  have fin : ∀ (hi : i = n ∨ i = 8), Ev T n_cyclo_Make [.int .i64 (n : Int), u] h3 (fun v h' => ∃ d, L1 n d ≤ 72 ∧ ∃ w, v = .tup [.agg [.int .i64 (numF n d).1, w], .int .i64 0] ∧ SI h' w (numF n d).2 ∧ Frs w h3.next ∧ Tk h' x l ∧ Fx x ha h' ∧ h'.get h.next = some (.cells false [.int .i64 0, .nils])) := fun hi => by
    refine (main hi ho.sv).mono ?_
    rintro v h4 ⟨d, hd, w, rfl, ⟨w', rfl, hw1, hw2⟩, hf4⟩
    refine ⟨d, hd, w', rfl, hw1, hw2, ht3.mono hf4, hf3.trans (Fx.of hf4), ?_⟩
    rw [(hf3.trans (Fx.of hf4)).get h.next (by omega) (by omega)]; exact hga
  by_cases hin2 : (i : Int) < (n : Int)
  · rw [decide_eq_true hin2]
    simp (disch := first | omega | (simp only [Qn] <;> omega)) only [go_sem]
    refine iteW_dec (fun hi => ?_) (fun hi => ?_)
    · simp (disch := first | omega | (simp only [Qn] <;> omega)) only [go_sem]
      refine (take_ok x l 19 h3 ht3 hl (by omega) (by omega)).mono ?_
      rintro v h4 ⟨z, rfl, hz0, hz1, ht4, hf4⟩
      have hn4 := hf4.next
      simp (disch := first | omega | (simp only [Qn] <;> omega)) only [go_sem, bls_int1]
      have ho4 : Own h4 u 1 (ints c) (h.next + 1) := ho.mono hf4.next fun id _ _ _ _ h5 h6 => hf4.get id h6 (by omega)
      obtain ⟨v6, h6, e6, a6⟩ := (ho4.fr ((Fr.refl h4).new (.cells false (ints [z - 9])))).app (bytes := 8) (n := i) (m := 1) (us := ints [z - 9]) (y := .sl h4.next 0 1 (.kn 1)) (by rw [H.next_new]; omega) (Own.new h4 1 1 0 (ints [z - 9]) rfl (Nat.zero_le _)).sv (by rw [ints_length]; omega) rfl (by omega) (by omega)
      simp (disch := first | omega | (simp only [Qn] <;> omega)) only [go_sem, e6]
      have ho6 := a6.own
      rw [← ints_append] at ho6
      have hn6 := a6.next
      rw [H.next_new] at hn6
      have hlow : ∀ id, id < h.next + 1 → h6.get id = h4.get id := fun id hid => by
        have hap : Apart u id := by
          rcases ho4 with ⟨r1, _⟩ | ⟨id', _, _, _, r1, _, _, r2, _⟩
          · rw [r1]; exact Apart.nils _
          · rw [r1]; exact Apart.sl (by omega)
        rw [a6.get id (by rw [H.next_new]; omega) hap, H.get_new_ne _ (by omega)]
      rw [show (i : Int) + 1 = ((i + 1 : Nat) : Int) from by omega]
      refine ⟨8 - (i + 1), by omega, i + 1, v6, _, ex_junk rfl, by omega, by omega, by rw [List.length_append, hcl]; rfl, fun y hy => ?_, ho6, ht4.low (by omega) (fun id hid => hlow id (by omega)), ⟨by omega, fun id hid hne => ?_⟩, rfl⟩
      · rcases List.mem_append.1 hy with hy | hy
        · exact hcz y hy
        · simp at hy; omega
      · rw [hlow id (by omega)]
        exact (hf3.trans hf4).get id hid hne
    · simp (disch := first | omega | (simp only [Qn] <;> omega)) only [go_sem]
      refine (fin (.inr (by omega))).mono ?_
      rintro v h4 ⟨d, hd, w, rfl, hw1, hw2, ht4, hf4, hg4⟩
      have hst3 := fun hh => stV_agg2 hh h.next 0 (v := .int .i64 (numF n d).1) (u := w) rfl hw1.what.2.1
      have hrow := row_two (h := h4.set h.next (some (.cells false [.int .i64 (numF n d).1, w]))) (H.get_set_same ..)
      simp (disch := first | omega | (simp only [Qn] <;> omega)) only [go_sem, hst3, hg4, hrow, List.getElem?_cons_zero, List.getElem?_cons_succ]
      refine ⟨d, hd, _, rfl, ⟨w, rfl, SI.set_frs hw1 (hw2.le (show h.next + 1 ≤ h3.next by omega)) (by omega) _, hw2.le (by omega)⟩, ht4.low (Nat.le_refl _) (fun id hid => H.get_set_ne _ (by omega) _), ((Fx.of hfa).trans hf4).setf (Nat.le_refl _) _⟩
  · rw [decide_eq_false hin2]
    simp (disch := first | omega | (simp only [Qn] <;> omega)) only [go_sem]
    refine (fin (.inl (by omega))).mono ?_
    rintro v h4 ⟨d, hd, w, rfl, hw1, hw2, ht4, hf4, hg4⟩
    have hst3 := fun hh => stV_agg2 hh h.next 0 (v := .int .i64 (numF n d).1) (u := w) rfl hw1.what.2.1
    have hrow := row_two (h := h4.set h.next (some (.cells false [.int .i64 (numF n d).1, w]))) (H.get_set_same ..)
    simp (disch := first | omega | (simp only [Qn] <;> omega)) only [go_sem, hst3, hg4, hrow, List.getElem?_cons_zero, List.getElem?_cons_succ]
    refine ⟨d, hd, _, rfl, ⟨w, rfl, SI.set_frs hw1 (hw2.le (show h.next + 1 ≤ h3.next by omega)) (by omega) _, hw2.le (by omega)⟩, ht4.low (Nat.le_refl _) (fun id hid => H.get_set_ne _ (by omega) _), ((Fx.of hfa).trans hf4).setf (Nat.le_refl _) _⟩

theorem order_ok (k : Int) (h : H) : Ev T n_law06_order [.int .i64 k] h (fun v h' => ∃ n : Nat, v = .int .i64 (n : Int) ∧ n ∈ orders ∧ Fr h h') := by
  refine Ev_of t_law06_order rfl ?_
  have hb : blsV h 1 [.int .i64 0] 26 [(0, 1, .int .i64 1), (1, 1, .int .i64 2), (2, 1, .int .i64 3), (3, 1, .int .i64 4), (4, 1, .int .i64 5), (5, 1, .int .i64 6), (6, 1, .int .i64 7), (7, 1, .int .i64 8), (8, 1, .int .i64 9), (9, 1, .int .i64 10), (10, 1, .int .i64 12), (11, 1, .int .i64 15), (12, 1, .int .i64 16), (13, 1, .int .i64 18), (14, 1, .int .i64 20), (15, 1, .int .i64 21), (16, 1, .int .i64 24), (17, 1, .int .i64 30), (18, 1, .int .i64 35), (19, 1, .int .i64 36), (20, 1, .int .i64 40), (21, 1, .int .i64 45), (22, 1, .int .i64 60), (23, 1, .int .i64 84), (24, 1, .int .i64 105), (25, 1, .int .i64 120)] = some (.sl h.next 0 26 (.kn 26), h.new (.cells false (ints (orders.map Int.ofNat)))) := rfl
  simp (disch := first | omega | (simp only [Qn] <;> omega)) only [go_sem, c_law06_order, initV_eq, hb]
  have hfa : Fr h (h.new (.cells false (ints (orders.map Int.ofNat)))) := (Fr.refl h).new _
  have hga : (h.new (.cells false (ints (orders.map Int.ofNat)))).get h.next = some (.cells false (ints (orders.map Int.ofNat))) := H.get_new_same ..
  have hna : (h.new (.cells false (ints (orders.map Int.ofNat)))).next = h.next + 1 := H.next_new ..
  generalize h.new (.cells false (ints (orders.map Int.ofNat))) = ha at *
  refine (pick_ok k 26 ha (by omega) (by omega)).mono ?_
  rintro v h2 ⟨rfl, rfl⟩
  have hr := tmod_range k (show (0 : Int) < 26 by omega)
  obtain ⟨r, hrr⟩ : ∃ r : Nat, k % 26 = (r : Int) := ⟨(k % 26).toNat, by omega⟩
  rw [hrr] at hr ⊢
  have hol : (orders.map Int.ofNat).length = 26 := rfl
  have hc := own_cell hga r (by omega)
  simp (disch := first | omega | (simp only [Qn] <;> omega)) only [go_sem, hc]
  have hlt : r < orders.length := by show r < 26; omega
  refine ⟨orders[r], ?_, List.getElem_mem _, hfa⟩
  rw [List.getD_eq_getElem?_getD, List.getElem?_map, List.getElem?_eq_getElem hlt]; rfl

set_option maxHeartbeats 1000000 in
theorem prime_ok (n : Nat) (k : Int) (h : H) (h1 : 1 ≤ n) (h2 : n ≤ 120) : Ev T n_law06_prime [.int .i64 (n : Int), .int .i64 k] h (fun v h' => ∃ k' : Nat, v = .int .i64 (k' : Int) ∧ Nat.gcd n k' = 1 ∧ k' ≤ 120001 ∧ Fr h h') := by
  refine Ev_of t_law06_prime rfl ?_
  simp (disch := first | omega | (simp only [Qn] <;> omega)) only [go_sem, c_law06_prime, initV_eq]
  refine (pick_ok k 1000 h (by omega) (by omega)).mono ?_
  rintro v h2' ⟨rfl, rfl⟩
  have hr := tmod_range k (show (0 : Int) < 1000 by omega)
  obtain ⟨r, hrr⟩ : ∃ r : Nat, k % 1000 = (r : Int) := ⟨(k % 1000).toNat, by omega⟩
  rw [hrr] at hr ⊢
  have hK : r ≤ n * r + 1 := by
    have := Nat.mul_le_mul_right r h1
    omega
  have hKb : n * r + 1 ≤ 120001 := by
    have := Nat.mul_le_mul h2 (show r ≤ 1000 by omega)
    omega
  have hKg : Nat.gcd n (n * r + 1) = 1 := by
    rw [show n * r + 1 = r * n + 1 by rw [Nat.mul_comm], Nat.gcd_mul_right_add_right]; simp
  generalize n * r + 1 = K at *
  simp (disch := first | omega | (simp only [Qn] <;> omega)) only [go_sem]
  refine Wp_loop (fun m vars h3 => ∃ (x : Nat), (∃ g : Nat → V, vars = [.int .i64 (n : Int), .int .i64 (x : Int), g 2, g 3, g 4, g 5, g 6]) ∧ x ≤ K ∧ Fr h2' h3 ∧ m = K - x) (K - r)
    ⟨r, ex_junk rfl, hK, Fr.refl h2', rfl⟩ ?_
  rintro m vars h3 ⟨x, ⟨g, rfl⟩, hx, hf3, rfl⟩
  simp (disch := first | omega | (simp only [Qn] <;> omega)) only [go_sem]
  refine Wp_loop (fun m vars h4 => ∃ a b : Nat, (∃ g : Nat → V, vars = [.int .i64 (n : Int), .int .i64 (x : Int), g 2, .int .i64 (a : Int), .int .i64 (b : Int), g 5, g 6]) ∧ Nat.gcd a b = Nat.gcd n x ∧ Fr h2' h4 ∧ m = b) x
    ⟨n, x, ex_junk rfl, rfl, hf3, rfl⟩ ?_
  rintro m vars h4 ⟨a, b, ⟨g, rfl⟩, hgc, hf4, rfl⟩
  simp (disch := first | omega | (simp only [Qn] <;> omega)) only [go_sem]
  refine iteW_dec (fun hb => ?_) (fun hb => ?_)
  · have em : (a : Int).tmod (m : Int) = ((a % m : Nat) : Int) := tmod_nat ..
    simp (disch := first | omega | (simp only [Qn] <;> omega)) only [go_sem, em]
    exact ⟨a % m, Nat.mod_lt _ (by omega), m, a % m, ex_junk rfl, by rw [← hgc, Nat.gcd_comm a m, Nat.gcd_rec m a, Nat.gcd_comm], hf4.bump (by omega), rfl⟩
  · have hb0 : m = 0 := by omega
    subst hb0
    rw [Nat.gcd_zero_right] at hgc
    simp (disch := first | omega | (simp only [Qn] <;> omega)) only [go_sem]
    refine iteW_dec (fun ha => ?_) (fun ha => ?_)
    · simp (disch := first | omega | (simp only [Qn] <;> omega)) only [go_sem]
      exact ⟨x, rfl, by omega, by omega, hf4⟩
    · simp (disch := first | omega | (simp only [Qn] <;> omega)) only [go_sem]
      have hne : x ≠ K := fun e => by rw [e, hKg] at hgc; omega
      rw [show (x : Int) + 1 = ((x + 1 : Nat) : Int) from by omega]
      exact ⟨K - (x + 1), by omega, x + 1, ex_junk rfl, by omega, hf4, rfl⟩

/-- No divisor up to the root. -/
def oddG (q : Nat) : Nat → Nat → Bool
  | 0, _ => true
  | f + 1, d => if d * d ≤ q then (if q % d = 0 then false else oddG q f (d + 1)) else true
def oddF (q : Nat) : Bool := oddG q 125 2
def oddB (n : Nat) : Bool := (List.range (n + 1)).all fun q => Nat.blt q 2 || n % q != 0 || (oddF q == (prOf n).contains q)
theorem odd_all : (List.range 121).all oddB = true := by decide +kernel
theorem odd_pr {n q : Nat} (h1 : 1 ≤ n) (h2 : n ≤ 120) (hq : 2 ≤ q) (hqn : q ≤ n) (hd : n % q = 0) (ho : oddF q = true) : q ∈ prOf n := by
  have h := List.all_eq_true.1 (List.all_eq_true.1 odd_all n (List.mem_range.2 (by omega))) q (List.mem_range.2 (by omega))
  have a : Nat.blt q 2 = false := by
    cases hh : Nat.blt q 2 with
    | false => rfl
    | true => rw [Nat.blt_eq] at hh; omega
  have b : (n % q != 0) = false := by rw [hd]; rfl
  rw [a, b, Bool.false_or, Bool.false_or, ho] at h
  simpa using h
theorem odd_ok (q : Nat) (h : H) (h2 : q ≤ 120) : Ev T n_law06_odd [.int .i64 (q : Int)] h (fun v h' => v = .bool (oddF q) ∧ h' = h) := by
  refine Ev_of t_law06_odd rfl ?_
  simp (disch := first | omega | (simp only [Qn] <;> omega)) only [go_sem, c_law06_odd, initV_eq]
  refine Wp_loop (fun m vars h3 => ∃ (d : Nat), (∃ g : Nat → V, vars = [.int .i64 (q : Int), g 1, .int .i64 (d : Int), g 3, g 4]) ∧ 2 ≤ d ∧ d + m = 127 ∧ oddG q m d = oddF q ∧ h3 = h) 125
    ⟨2, ex_junk rfl, Nat.le_refl _, rfl, rfl, rfl⟩ ?_
  rintro m vars h3 ⟨d, ⟨g, rfl⟩, hd2, hdm, hod, rfl⟩
  have hdd : d * d ≤ 127 * 127 := Nat.mul_le_mul (by omega) (by omega)
  have em0 : (d : Int) * (d : Int) = ((d * d : Nat) : Int) := (Int.natCast_mul ..).symm
  have hsq : d ≤ d * d := Nat.le_mul_of_pos_left d (by omega)
  have em : (q : Int).tmod (d : Int) = ((q % d : Nat) : Int) := tmod_nat ..
  cases m with
  | zero =>
    have hgt : ¬ d * d ≤ q := by
      have hd' : d = 127 := by omega
      subst hd'; omega
    generalize d * d = dd at *
    simp (disch := first | omega | (simp only [Qn] <;> omega)) only [go_sem, em0]
    rw [decide_eq_false (show ¬ (dd : Int) ≤ (q : Int) by omega)]
    simp (disch := first | omega | (simp only [Qn] <;> omega)) only [go_sem]
    exact ⟨by rw [← hod]; rfl, trivial⟩
  | succ m =>
    rw [oddG] at hod
    generalize d * d = dd at *
    simp (disch := first | omega | (simp only [Qn] <;> omega)) only [go_sem, em0]
    refine iteW_dec (fun hle => ?_) (fun hgt => ?_)
    · rw [if_pos (by omega)] at hod
      simp (disch := first | omega | (simp only [Qn] <;> omega)) only [go_sem, em]
      refine iteW_dec (fun hz => ?_) (fun hz => ?_)
      · rw [if_pos (by omega)] at hod
        simp (disch := first | omega | (simp only [Qn] <;> omega)) only [go_sem]
        exact ⟨by rw [← hod], trivial⟩
      · rw [if_neg (by omega)] at hod
        simp (disch := first | omega | (simp only [Qn] <;> omega)) only [go_sem]
        rw [show (d : Int) + 1 = ((d + 1 : Nat) : Int) from by omega]
        exact ⟨m, by omega, d + 1, ex_junk rfl, by omega, by omega, hod, trivial⟩
    · rw [if_neg (by omega)] at hod
      simp (disch := first | omega | (simp only [Qn] <;> omega)) only [go_sem]
      exact ⟨by rw [← hod], trivial⟩
end
end Go.Proofs.Ythfabknpogbcaaa
/- The laws CycloRing and CycloGalois, walked. -/
namespace Go.Proofs.Ythfabknpogbcaaa
open Go Go.Ay
set_option maxRecDepth 100000
noncomputable section

theorem bldV_fst {z1 z2 v : V} (hv : v.cells = [v]) (hv1 : v.one = true) : bldV [z1, z2] [(0, 1, v)] = some (.agg [v, z2]) := by
  have e1 : putAt [z1, z2] 0 [v] = some [v, z2] := by simp [putAt]
  simp only [bldV, fillV, hv, List.length_singleton, List.all_cons, List.all_nil, hv1, Bool.and_self, and_self, if_true, e1, Option.map_some]
theorem d6 : decide ((6 : Int) = 6) = true := by decide
theorem d00 : decide ((0 : Int) ≠ 0) = false := by decide
theorem d0 : decide ((0 : Int) = 0) = true := by decide
/-- A box above the taker. -/
def Bf (x : Nat) (h : H) (id : Nat) (a : Int × List Int) : Prop := ∃ u, h.get id = some (.cells false [.int .i64 a.1, u]) ∧ SI h u a.2 ∧ id < h.next ∧ x < id ∧ Frs u (x + 1)
theorem Bf.fx {x : Nat} {h h' : H} {id : Nat} {a : Int × List Int} (b : Bf x h id a) (f : Fx x h h') : Bf x h' id a := by
  obtain ⟨u, h1, h2, h3, h4, h5⟩ := b
  exact ⟨u, (f.get id h3 (by omega)).trans h1, SI.fx h2 h5 (Nat.lt_succ_self x) f, Nat.lt_of_lt_of_le h3 f.next, h4, h5⟩
theorem Bf.bx {x : Nat} {h : H} {id : Nat} {a : Int × List Int} (b : Bf x h id a) : Bx h id a := by
  obtain ⟨u, h1, h2, h3, _⟩ := b
  exact ⟨u, h1, h2, h3⟩
theorem Bf.new {x : Nat} (h : H) {a : Int × List Int} {u : V} {lo : Nat} (s : SI h u a.2) (fr : Frs u lo) (hl : x < lo) (hx : x < h.next) : Bf x (bxH h a.1 u) h.next a :=
  ⟨u, H.get_set_same .., s.mono (bxH_fr h a.1 u), by rw [bxH, H.next_set, H.next_new]; omega, hx, fr.le (by omega)⟩


set_option maxHeartbeats 16000000 in
theorem ring_ok (vl : V) (l : List Int) (nn kk : Int) (h : H) (hc : SI h vl l) (hcl : (l.length : Int) ≤ 2 ^ 63 - 1) : Ev T n_law06_CycloRing [vl, .int .i64 nn, .int .i64 kk] h (fun v _ => v = .bool true) := by
  refine Ev_of t_law06_CycloRing rfl ?_
  simp (disch := first | omega | (simp only [Qn] <;> omega)) only [go_sem, c_law06_CycloRing, initV_eq]
  refine (lives_ok h).mono ?_
  rintro v h0 ⟨rfl, g⟩
  replace hc := hc.mono g
  clear g
  simp (disch := first | omega | (simp only [Qn] <;> omega)) only [go_sem, hc.lens]
  refine iteW_dec (fun hlong => ?_) (fun hlong => ?_)
  · simp (disch := first | omega | (simp only [Qn] <;> omega)) only [go_sem]
  have hl : l.length < 1000000 := by omega
  simp (disch := first | omega | (simp only [Qn] <;> omega)) only [go_sem]
  refine (order_ok _ _).mono ?_
  rintro v hb ⟨n, rfl, hn, fb⟩
  obtain ⟨hdv, hn1, hn2⟩ := mem_dvs hn (Nat.dvd_refl n)
  replace hc := hc.mono fb
  clear fb
  simp (disch := first | omega | (simp only [Qn] <;> omega)) only [go_sem]
  have hbl := bldV_fst (z1 := .nils) (z2 := .int .i64 0) (v := vl) hc.what.1 hc.what.2.1
  have hbo := fun hh => boxV_agg2 hh (v := vl) (u := .int .i64 0) hc.what.2.1 rfl
  simp (disch := first | omega | (simp only [Qn] <;> omega)) only [go_sem, hbl, hbo]
  have hfx : Fr hb (hb.new (.cells false [vl, .int .i64 0])) := (Fr.refl hb).new _
  have hgx : (hb.new (.cells false [vl, .int .i64 0])).get hb.next = some (.cells false [vl, .int .i64 0]) := H.get_new_same ..
  have hnx : (hb.new (.cells false [vl, .int .i64 0])).next = hb.next + 1 := H.next_new ..
  generalize hb.new (.cells false [vl, .int .i64 0]) = hx at *
  have ht : Tk hx hb.next l := ⟨vl, 0, hgx, hc.mono hfx, fun id off len c e => by
    rcases hc with ⟨h0, _⟩ | ⟨_, _, _, _, _, _, h0, _, h3, _⟩
    · rw [h0] at e; cases e
    · rw [h0] at e; cases e; exact h3, Nat.zero_le _, by omega⟩
  have htid : hb.next < hx.next := by omega
  clear hfx hgx hnx hbl hbo hc
  generalize hb.next = tid at *
  refine (small_ok tid l n _ ht hl hn1 hn2).mono ?_
  rintro v h0 ⟨cA, hcA, w, rfl, ⟨u0, rfl, hu0, hw0⟩, ht0, f0⟩
  obtain ⟨A, eA⟩ : ∃ X, numF n cA = X := ⟨_, rfl⟩
  simp only [eA] at hu0 ⊢
  have st := fun hh id => stV_agg2 hh id 0 (v := .int .i64 A.1) (u := u0) rfl hu0.what.2.1
  simp (disch := first | omega | (simp only [Qn] <;> omega)) only [go_sem, d00, d0, decide_true, st, bxH_eq]
  have fx := f0.trans (Fx.of (bxH_fr h0 A.1 u0))
  have bA := Bf.new h0 hu0 hw0 htid (by have := f0.next; omega)
  clear ht
  have ht := ht0.mono (bxH_fr h0 A.1 u0)
  replace htid := Nat.lt_of_lt_of_le htid fx.next
  clear fx st hu0 ht0 f0 hw0
  generalize h0.next = i0 at *
  generalize bxH h0 A.1 u0 = k0 at *
  refine (small_ok tid l n _ ht hl hn1 hn2).mono ?_
  rintro v h1 ⟨cB, hcB, w, rfl, ⟨u1, rfl, hu1, hw1⟩, ht1, f1⟩
  obtain ⟨B, eB⟩ : ∃ X, numF n cB = X := ⟨_, rfl⟩
  simp only [eB] at hu1 ⊢
  have st := fun hh id => stV_agg2 hh id 0 (v := .int .i64 B.1) (u := u1) rfl hu1.what.2.1
  simp (disch := first | omega | (simp only [Qn] <;> omega)) only [go_sem, d00, d0, decide_true, st, bxH_eq]
  have fx := f1.trans (Fx.of (bxH_fr h1 B.1 u1))
  replace bA := bA.fx fx
  have bB := Bf.new h1 hu1 hw1 htid (by have := f1.next; omega)
  clear ht
  have ht := ht1.mono (bxH_fr h1 B.1 u1)
  replace htid := Nat.lt_of_lt_of_le htid fx.next
  clear fx st hu1 ht1 f1 hw1
  generalize h1.next = i1 at *
  generalize bxH h1 B.1 u1 = k1 at *
  refine (small_ok tid l n _ ht hl hn1 hn2).mono ?_
  rintro v h2 ⟨cC, hcC, w, rfl, ⟨u2, rfl, hu2, hw2⟩, ht2, f2⟩
  obtain ⟨C, eC⟩ : ∃ X, numF n cC = X := ⟨_, rfl⟩
  simp only [eC] at hu2 ⊢
  have st := fun hh id => stV_agg2 hh id 0 (v := .int .i64 C.1) (u := u2) rfl hu2.what.2.1
  simp (disch := first | omega | (simp only [Qn] <;> omega)) only [go_sem, d00, d0, decide_true, st, bxH_eq]
  have fx := f2.trans (Fx.of (bxH_fr h2 C.1 u2))
  replace bA := bA.fx fx
  replace bB := bB.fx fx
  have bC := Bf.new h2 hu2 hw2 htid (by have := f2.next; omega)
  clear ht
  have ht := ht2.mono (bxH_fr h2 C.1 u2)
  replace htid := Nat.lt_of_lt_of_le htid fx.next
  clear fx st hu2 ht2 f2 hw2
  generalize h2.next = i2 at *
  generalize bxH h2 C.1 u2 = k2 at *
  clear ht
  have b := ((((Bxs.nil _).snoc bA.bx).snoc bB.bx).snoc bC.bx)
  replace b : Bxs _ [(i0, A), (i1, B), (i2, C)] := b
  clear bA bB bC htid
  have hr := tmod_range kk (show (0 : Int) < 199 by omega)
  obtain ⟨k, hk⟩ : ∃ k : Int, k = kk % 199 - 99 := ⟨_, rfl⟩
  obtain ⟨AB, BC, ABC, S, AS, AC, K, KA, M, Q, E, e1, e2, e3, e4, e5, e6, e7, e8, e9, e10, e11, e12, e13, e14, e15, e16, hE, lA, lB, lC, lAB, lBC, lABC, lS, lAS, lAC, lK, lKA, lM, lQ⟩ := ring_facts hn1 hn2 hcA hcB hcC (k := k) (by omega) eA eB eC
  clear eA eB eC hcA hcB hcC cA cB cC
  obtain ⟨a0, r0, q0⟩ := b.at 0 i0 A.1 A.2 rfl
  obtain ⟨a1, r1, q1⟩ := b.at 1 i1 B.1 B.2 rfl
  simp (disch := first | omega | (simp only [Qn] <;> omega)) only [go_sem, d00, d0, decide_true, r0, r1]
  refine (mul_ok _ _ A B _ q0 q1 lA lB).mono ?_
  rintro v h3 ⟨w, rfl, ⟨u3, rfl, hu3, -⟩, f3⟩
  simp only [e1] at hu3 ⊢
  have st := fun hh id => stV_agg2 hh id 0 (v := .int .i64 AB.1) (u := u3) rfl hu3.what.2.1
  simp (disch := first | omega | (simp only [Qn] <;> omega)) only [go_sem, d00, d0, decide_true, st, bxH_eq, List.getElem?_cons_zero, List.getElem?_cons_succ]
  have fx := f3.trans (bxH_fr h3 AB.1 u3)
  replace b := b.mono fx
  replace b := b.snoc (bxH_bx h3 (N := AB.1) (A := AB.2) hu3)
  clear fx st hu3
  generalize h3.next = i3 at *
  generalize bxH h3 AB.1 u3 = k3 at *
  replace b : Bxs _ [(i0, A), (i1, B), (i2, C), (i3, AB)] := b
  obtain ⟨a0, r0, q0⟩ := b.at 1 i1 B.1 B.2 rfl
  obtain ⟨a1, r1, q1⟩ := b.at 0 i0 A.1 A.2 rfl
  simp (disch := first | omega | (simp only [Qn] <;> omega)) only [go_sem, d00, d0, decide_true, r0, r1]
  refine (mul_ok _ _ B A _ q0 q1 lB lA).mono ?_
  rintro v h4 ⟨w, rfl, ⟨u4, rfl, hu4, -⟩, f4⟩
  simp only [e2] at hu4 ⊢
  have st := fun hh id => stV_agg2 hh id 0 (v := .int .i64 AB.1) (u := u4) rfl hu4.what.2.1
  simp (disch := first | omega | (simp only [Qn] <;> omega)) only [go_sem, d00, d0, decide_true, st, bxH_eq, List.getElem?_cons_zero, List.getElem?_cons_succ]
  have fx := f4.trans (bxH_fr h4 AB.1 u4)
  replace b := b.mono fx
  replace b := b.snoc (bxH_bx h4 (N := AB.1) (A := AB.2) hu4)
  clear fx st hu4
  generalize h4.next = i4 at *
  generalize bxH h4 AB.1 u4 = k4 at *
  replace b : Bxs _ [(i0, A), (i1, B), (i2, C), (i3, AB), (i4, AB)] := b
  obtain ⟨a0, r0, q0⟩ := b.at 1 i1 B.1 B.2 rfl
  obtain ⟨a1, r1, q1⟩ := b.at 2 i2 C.1 C.2 rfl
  simp (disch := first | omega | (simp only [Qn] <;> omega)) only [go_sem, d00, d0, decide_true, r0, r1]
  refine (mul_ok _ _ B C _ q0 q1 lB lC).mono ?_
  rintro v h5 ⟨w, rfl, ⟨u5, rfl, hu5, -⟩, f5⟩
  simp only [e3] at hu5 ⊢
  have st := fun hh id => stV_agg2 hh id 0 (v := .int .i64 BC.1) (u := u5) rfl hu5.what.2.1
  simp (disch := first | omega | (simp only [Qn] <;> omega)) only [go_sem, d00, d0, decide_true, st, bxH_eq, List.getElem?_cons_zero, List.getElem?_cons_succ]
  have fx := f5.trans (bxH_fr h5 BC.1 u5)
  replace b := b.mono fx
  replace b := b.snoc (bxH_bx h5 (N := BC.1) (A := BC.2) hu5)
  clear fx st hu5
  generalize h5.next = i5 at *
  generalize bxH h5 BC.1 u5 = k5 at *
  replace b : Bxs _ [(i0, A), (i1, B), (i2, C), (i3, AB), (i4, AB), (i5, BC)] := b
  obtain ⟨a0, r0, q0⟩ := b.at 3 i3 AB.1 AB.2 rfl
  obtain ⟨a1, r1, q1⟩ := b.at 2 i2 C.1 C.2 rfl
  simp (disch := first | omega | (simp only [Qn] <;> omega)) only [go_sem, d00, d0, decide_true, r0, r1]
  refine (mul_ok _ _ AB C _ q0 q1 lAB lC).mono ?_
  rintro v h6 ⟨w, rfl, ⟨u6, rfl, hu6, -⟩, f6⟩
  simp only [e4] at hu6 ⊢
  have st := fun hh id => stV_agg2 hh id 0 (v := .int .i64 ABC.1) (u := u6) rfl hu6.what.2.1
  simp (disch := first | omega | (simp only [Qn] <;> omega)) only [go_sem, d00, d0, decide_true, st, bxH_eq, List.getElem?_cons_zero, List.getElem?_cons_succ]
  have fx := f6.trans (bxH_fr h6 ABC.1 u6)
  replace b := b.mono fx
  replace b := b.snoc (bxH_bx h6 (N := ABC.1) (A := ABC.2) hu6)
  clear fx st hu6
  generalize h6.next = i6 at *
  generalize bxH h6 ABC.1 u6 = k6 at *
  replace b : Bxs _ [(i0, A), (i1, B), (i2, C), (i3, AB), (i4, AB), (i5, BC), (i6, ABC)] := b
  obtain ⟨a0, r0, q0⟩ := b.at 0 i0 A.1 A.2 rfl
  obtain ⟨a1, r1, q1⟩ := b.at 5 i5 BC.1 BC.2 rfl
  simp (disch := first | omega | (simp only [Qn] <;> omega)) only [go_sem, d00, d0, decide_true, r0, r1]
  refine (mul_ok _ _ A BC _ q0 q1 lA lBC).mono ?_
  rintro v h7 ⟨w, rfl, ⟨u7, rfl, hu7, -⟩, f7⟩
  simp only [e5] at hu7 ⊢
  have st := fun hh id => stV_agg2 hh id 0 (v := .int .i64 ABC.1) (u := u7) rfl hu7.what.2.1
  simp (disch := first | omega | (simp only [Qn] <;> omega)) only [go_sem, d00, d0, decide_true, st, bxH_eq, List.getElem?_cons_zero, List.getElem?_cons_succ]
  have fx := f7.trans (bxH_fr h7 ABC.1 u7)
  replace b := b.mono fx
  replace b := b.snoc (bxH_bx h7 (N := ABC.1) (A := ABC.2) hu7)
  clear fx st hu7
  generalize h7.next = i7 at *
  generalize bxH h7 ABC.1 u7 = k7 at *
  replace b : Bxs _ [(i0, A), (i1, B), (i2, C), (i3, AB), (i4, AB), (i5, BC), (i6, ABC), (i7, ABC)] := b
  obtain ⟨a0, r0, q0⟩ := b.at 1 i1 B.1 B.2 rfl
  obtain ⟨a1, r1, q1⟩ := b.at 2 i2 C.1 C.2 rfl
  simp (disch := first | omega | (simp only [Qn] <;> omega)) only [go_sem, d00, d0, decide_true, r0, r1]
  refine (add_ok _ _ B C _ q0 q1 lB lC).mono ?_
  rintro v h8 ⟨w, rfl, ⟨u8, rfl, hu8, -⟩, f8⟩
  simp only [e6] at hu8 ⊢
  have st := fun hh id => stV_agg2 hh id 0 (v := .int .i64 S.1) (u := u8) rfl hu8.what.2.1
  simp (disch := first | omega | (simp only [Qn] <;> omega)) only [go_sem, d00, d0, decide_true, st, bxH_eq, List.getElem?_cons_zero, List.getElem?_cons_succ]
  have fx := f8.trans (bxH_fr h8 S.1 u8)
  replace b := b.mono fx
  replace b := b.snoc (bxH_bx h8 (N := S.1) (A := S.2) hu8)
  clear fx st hu8
  generalize h8.next = i8 at *
  generalize bxH h8 S.1 u8 = k8 at *
  replace b : Bxs _ [(i0, A), (i1, B), (i2, C), (i3, AB), (i4, AB), (i5, BC), (i6, ABC), (i7, ABC), (i8, (S.1, S.2))] := b
  obtain ⟨a0, r0, q0⟩ := b.at 2 i2 C.1 C.2 rfl
  obtain ⟨a1, r1, q1⟩ := b.at 1 i1 B.1 B.2 rfl
  simp (disch := first | omega | (simp only [Qn] <;> omega)) only [go_sem, d00, d0, decide_true, r0, r1]
  refine (add_ok _ _ C B _ q0 q1 lC lB).mono ?_
  rintro v h9 ⟨w, rfl, ⟨u9, rfl, hu9, -⟩, f9⟩
  simp only [e7] at hu9 ⊢
  have st := fun hh id => stV_agg2 hh id 0 (v := .int .i64 S.1) (u := u9) rfl hu9.what.2.1
  simp (disch := first | omega | (simp only [Qn] <;> omega)) only [go_sem, d00, d0, decide_true, st, bxH_eq, List.getElem?_cons_zero, List.getElem?_cons_succ]
  have fx := f9.trans (bxH_fr h9 S.1 u9)
  replace b := b.mono fx
  replace b := b.snoc (bxH_bx h9 (N := S.1) (A := S.2) hu9)
  clear fx st hu9
  generalize h9.next = i9 at *
  generalize bxH h9 S.1 u9 = k9 at *
  replace b : Bxs _ [(i0, A), (i1, B), (i2, C), (i3, AB), (i4, AB), (i5, BC), (i6, ABC), (i7, ABC), (i8, (S.1, S.2)), (i9, (S.1, S.2))] := b
  obtain ⟨a0, r0, q0⟩ := b.at 0 i0 A.1 A.2 rfl
  obtain ⟨a1, r1, q1⟩ := b.at 8 i8 S.1 S.2 rfl
  simp (disch := first | omega | (simp only [Qn] <;> omega)) only [go_sem, d00, d0, decide_true, r0, r1]
  refine (mul_ok _ _ A S _ q0 q1 lA lS).mono ?_
  rintro v h10 ⟨w, rfl, ⟨u10, rfl, hu10, -⟩, f10⟩
  simp only [e8] at hu10 ⊢
  have st := fun hh id => stV_agg2 hh id 0 (v := .int .i64 AS.1) (u := u10) rfl hu10.what.2.1
  simp (disch := first | omega | (simp only [Qn] <;> omega)) only [go_sem, d00, d0, decide_true, st, bxH_eq, List.getElem?_cons_zero, List.getElem?_cons_succ]
  have fx := f10.trans (bxH_fr h10 AS.1 u10)
  replace b := b.mono fx
  replace b := b.snoc (bxH_bx h10 (N := AS.1) (A := AS.2) hu10)
  clear fx st hu10
  generalize h10.next = i10 at *
  generalize bxH h10 AS.1 u10 = k10 at *
  replace b : Bxs _ [(i0, A), (i1, B), (i2, C), (i3, AB), (i4, AB), (i5, BC), (i6, ABC), (i7, ABC), (i8, (S.1, S.2)), (i9, (S.1, S.2)), (i10, (AS.1, AS.2))] := b
  obtain ⟨a0, r0, q0⟩ := b.at 0 i0 A.1 A.2 rfl
  obtain ⟨a1, r1, q1⟩ := b.at 2 i2 C.1 C.2 rfl
  simp (disch := first | omega | (simp only [Qn] <;> omega)) only [go_sem, d00, d0, decide_true, r0, r1]
  refine (mul_ok _ _ A C _ q0 q1 lA lC).mono ?_
  rintro v h11 ⟨w, rfl, ⟨u11, rfl, hu11, -⟩, f11⟩
  simp only [e9] at hu11 ⊢
  have st := fun hh id => stV_agg2 hh id 0 (v := .int .i64 AC.1) (u := u11) rfl hu11.what.2.1
  simp (disch := first | omega | (simp only [Qn] <;> omega)) only [go_sem, d00, d0, decide_true, st, bxH_eq, List.getElem?_cons_zero, List.getElem?_cons_succ]
  have fx := f11.trans (bxH_fr h11 AC.1 u11)
  replace b := b.mono fx
  replace b := b.snoc (bxH_bx h11 (N := AC.1) (A := AC.2) hu11)
  clear fx st hu11
  generalize h11.next = i11 at *
  generalize bxH h11 AC.1 u11 = k11 at *
  replace b : Bxs _ [(i0, A), (i1, B), (i2, C), (i3, AB), (i4, AB), (i5, BC), (i6, ABC), (i7, ABC), (i8, (S.1, S.2)), (i9, (S.1, S.2)), (i10, (AS.1, AS.2)), (i11, (AC.1, AC.2))] := b
  obtain ⟨a0, r0, q0⟩ := b.at 3 i3 AB.1 AB.2 rfl
  obtain ⟨a1, r1, q1⟩ := b.at 11 i11 AC.1 AC.2 rfl
  simp (disch := first | omega | (simp only [Qn] <;> omega)) only [go_sem, d00, d0, decide_true, r0, r1]
  refine (add_ok _ _ AB AC _ q0 q1 lAB lAC).mono ?_
  rintro v h12 ⟨w, rfl, ⟨u12, rfl, hu12, -⟩, f12⟩
  simp only [e10] at hu12 ⊢
  have st := fun hh id => stV_agg2 hh id 0 (v := .int .i64 AS.1) (u := u12) rfl hu12.what.2.1
  simp (disch := first | omega | (simp only [Qn] <;> omega)) only [go_sem, d00, d0, decide_true, st, bxH_eq, List.getElem?_cons_zero, List.getElem?_cons_succ]
  have fx := f12.trans (bxH_fr h12 AS.1 u12)
  replace b := b.mono fx
  replace b := b.snoc (bxH_bx h12 (N := AS.1) (A := AS.2) hu12)
  clear fx st hu12
  generalize h12.next = i12 at *
  generalize bxH h12 AS.1 u12 = k12 at *
  replace b : Bxs _ [(i0, A), (i1, B), (i2, C), (i3, AB), (i4, AB), (i5, BC), (i6, ABC), (i7, ABC), (i8, (S.1, S.2)), (i9, (S.1, S.2)), (i10, (AS.1, AS.2)), (i11, (AC.1, AC.2)), (i12, (AS.1, AS.2))] := b
  obtain ⟨a0, r0, q0⟩ := b.at 3 i3 AB.1 AB.2 rfl
  obtain ⟨a1, r1, q1⟩ := b.at 4 i4 AB.1 AB.2 rfl
  simp (disch := first | omega | (simp only [Qn] <;> omega)) only [go_sem, d00, d0, decide_true, r0, r1]
  refine (lawsame_ok _ _ _ _ _ q0 q1 lAB lAB).mono ?_
  rintro v k13 ⟨rfl, f13⟩
  replace b := b.mono f13
  try simp (disch := first | omega | (simp only [Qn] <;> omega)) only [go_sem, d00, d0, decide_true]
  obtain ⟨a0, r0, q0⟩ := b.at 6 i6 ABC.1 ABC.2 rfl
  obtain ⟨a1, r1, q1⟩ := b.at 7 i7 ABC.1 ABC.2 rfl
  simp (disch := first | omega | (simp only [Qn] <;> omega)) only [go_sem, d00, d0, decide_true, r0, r1]
  refine (lawsame_ok _ _ _ _ _ q0 q1 lABC lABC).mono ?_
  rintro v k14 ⟨rfl, f14⟩
  replace b := b.mono f14
  try simp (disch := first | omega | (simp only [Qn] <;> omega)) only [go_sem, d00, d0, decide_true]
  obtain ⟨a0, r0, q0⟩ := b.at 8 i8 S.1 S.2 rfl
  obtain ⟨a1, r1, q1⟩ := b.at 9 i9 S.1 S.2 rfl
  simp (disch := first | omega | (simp only [Qn] <;> omega)) only [go_sem, d00, d0, decide_true, r0, r1]
  refine (lawsame_ok _ _ _ _ _ q0 q1 lS lS).mono ?_
  rintro v k15 ⟨rfl, f15⟩
  replace b := b.mono f15
  try simp (disch := first | omega | (simp only [Qn] <;> omega)) only [go_sem, d00, d0, decide_true]
  obtain ⟨a0, r0, q0⟩ := b.at 10 i10 AS.1 AS.2 rfl
  obtain ⟨a1, r1, q1⟩ := b.at 12 i12 AS.1 AS.2 rfl
  simp (disch := first | omega | (simp only [Qn] <;> omega)) only [go_sem, d00, d0, decide_true, r0, r1]
  refine (lawsame_ok _ _ _ _ _ q0 q1 lAS lAS).mono ?_
  rintro v k16 ⟨rfl, f16⟩
  replace b := b.mono f16
  try simp (disch := first | omega | (simp only [Qn] <;> omega)) only [go_sem, d00, d0, decide_true]
  refine (pick_ok kk 199 _ (by omega) (by omega)).mono ?_
  rintro v hp ⟨rfl, rfl⟩
  simp (disch := first | omega | (simp only [Qn] <;> omega)) only [go_sem]
  rw [← hk]
  clear hr
  refine (Int_ok k _).mono ?_
  rintro v h17 ⟨w, rfl, ⟨u17, rfl, hu17, -⟩, f17⟩
  simp only [e11] at hu17 ⊢
  have st := fun hh id => stV_agg2 hh id 0 (v := .int .i64 K.1) (u := u17) rfl hu17.what.2.1
  simp (disch := first | omega | (simp only [Qn] <;> omega)) only [go_sem, d00, d0, decide_true, st, bxH_eq, List.getElem?_cons_zero, List.getElem?_cons_succ]
  have fx := f17.trans (bxH_fr h17 K.1 u17)
  replace b := b.mono fx
  replace b := b.snoc (bxH_bx h17 (N := K.1) (A := K.2) hu17)
  clear fx st hu17
  generalize h17.next = i17 at *
  generalize bxH h17 K.1 u17 = k17 at *
  replace b : Bxs _ [(i0, A), (i1, B), (i2, C), (i3, AB), (i4, AB), (i5, BC), (i6, ABC), (i7, ABC), (i8, (S.1, S.2)), (i9, (S.1, S.2)), (i10, (AS.1, AS.2)), (i11, (AC.1, AC.2)), (i12, (AS.1, AS.2)), (i17, (K.1, K.2))] := b
  obtain ⟨a0, r0, q0⟩ := b.at 0 i0 A.1 A.2 rfl
  obtain ⟨a1, r1, q1⟩ := b.at 13 i17 K.1 K.2 rfl
  simp (disch := first | omega | (simp only [Qn] <;> omega)) only [go_sem, d00, d0, decide_true, r0, r1]
  refine (mul_ok _ _ A K _ q0 q1 lA lK).mono ?_
  rintro v h18 ⟨w, rfl, ⟨u18, rfl, hu18, -⟩, f18⟩
  simp only [e12] at hu18 ⊢
  have st := fun hh id => stV_agg2 hh id 0 (v := .int .i64 KA.1) (u := u18) rfl hu18.what.2.1
  simp (disch := first | omega | (simp only [Qn] <;> omega)) only [go_sem, d00, d0, decide_true, st, bxH_eq, List.getElem?_cons_zero, List.getElem?_cons_succ]
  have fx := f18.trans (bxH_fr h18 KA.1 u18)
  replace b := b.mono fx
  replace b := b.snoc (bxH_bx h18 (N := KA.1) (A := KA.2) hu18)
  clear fx st hu18
  generalize h18.next = i18 at *
  generalize bxH h18 KA.1 u18 = k18 at *
  replace b : Bxs _ [(i0, A), (i1, B), (i2, C), (i3, AB), (i4, AB), (i5, BC), (i6, ABC), (i7, ABC), (i8, (S.1, S.2)), (i9, (S.1, S.2)), (i10, (AS.1, AS.2)), (i11, (AC.1, AC.2)), (i12, (AS.1, AS.2)), (i17, (K.1, K.2)), (i18, (KA.1, KA.2))] := b
  obtain ⟨a0, r0, q0⟩ := b.at 0 i0 A.1 A.2 rfl
  simp (disch := first | omega | (simp only [Qn] <;> omega)) only [go_sem, d00, d0, decide_true, r0]
  refine (scale_ok _ A k _ q0 lA).mono ?_
  rintro v h19 ⟨w, rfl, ⟨u19, rfl, hu19, -⟩, f19⟩
  simp only [e13] at hu19 ⊢
  have st := fun hh id => stV_agg2 hh id 0 (v := .int .i64 KA.1) (u := u19) rfl hu19.what.2.1
  simp (disch := first | omega | (simp only [Qn] <;> omega)) only [go_sem, d00, d0, decide_true, st, bxH_eq, List.getElem?_cons_zero, List.getElem?_cons_succ]
  have fx := f19.trans (bxH_fr h19 KA.1 u19)
  replace b := b.mono fx
  replace b := b.snoc (bxH_bx h19 (N := KA.1) (A := KA.2) hu19)
  clear fx st hu19
  generalize h19.next = i19 at *
  generalize bxH h19 KA.1 u19 = k19 at *
  replace b : Bxs _ [(i0, A), (i1, B), (i2, C), (i3, AB), (i4, AB), (i5, BC), (i6, ABC), (i7, ABC), (i8, (S.1, S.2)), (i9, (S.1, S.2)), (i10, (AS.1, AS.2)), (i11, (AC.1, AC.2)), (i12, (AS.1, AS.2)), (i17, (K.1, K.2)), (i18, (KA.1, KA.2)), (i19, (KA.1, KA.2))] := b
  obtain ⟨a0, r0, q0⟩ := b.at 0 i0 A.1 A.2 rfl
  simp (disch := first | omega | (simp only [Qn] <;> omega)) only [go_sem, d00, d0, decide_true, r0]
  refine (scale_ok _ A (-1) _ q0 lA).mono ?_
  rintro v h20 ⟨w, rfl, ⟨u20, rfl, hu20, -⟩, f20⟩
  simp only [e14] at hu20 ⊢
  have st := fun hh id => stV_agg2 hh id 0 (v := .int .i64 M.1) (u := u20) rfl hu20.what.2.1
  simp (disch := first | omega | (simp only [Qn] <;> omega)) only [go_sem, d00, d0, decide_true, st, bxH_eq, List.getElem?_cons_zero, List.getElem?_cons_succ]
  have fx := f20.trans (bxH_fr h20 M.1 u20)
  replace b := b.mono fx
  replace b := b.snoc (bxH_bx h20 (N := M.1) (A := M.2) hu20)
  clear fx st hu20
  generalize h20.next = i20 at *
  generalize bxH h20 M.1 u20 = k20 at *
  replace b : Bxs _ [(i0, A), (i1, B), (i2, C), (i3, AB), (i4, AB), (i5, BC), (i6, ABC), (i7, ABC), (i8, (S.1, S.2)), (i9, (S.1, S.2)), (i10, (AS.1, AS.2)), (i11, (AC.1, AC.2)), (i12, (AS.1, AS.2)), (i17, (K.1, K.2)), (i18, (KA.1, KA.2)), (i19, (KA.1, KA.2)), (i20, (M.1, M.2))] := b
  obtain ⟨a0, r0, q0⟩ := b.at 0 i0 A.1 A.2 rfl
  obtain ⟨a1, r1, q1⟩ := b.at 16 i20 M.1 M.2 rfl
  simp (disch := first | omega | (simp only [Qn] <;> omega)) only [go_sem, d00, d0, decide_true, r0, r1]
  refine (add_ok _ _ A M _ q0 q1 lA lM).mono ?_
  rintro v h21 ⟨w, rfl, ⟨u21, rfl, hu21, -⟩, f21⟩
  simp only [e15] at hu21 ⊢
  have st := fun hh id => stV_agg2 hh id 0 (v := .int .i64 1) (u := u21) rfl hu21.what.2.1
  simp (disch := first | omega | (simp only [Qn] <;> omega)) only [go_sem, d00, d0, decide_true, st, bxH_eq, List.getElem?_cons_zero, List.getElem?_cons_succ]
  have fx := f21.trans (bxH_fr h21 1 u21)
  replace b := b.mono fx
  replace b := b.snoc (bxH_bx h21 (N := 1) (A := [0]) hu21)
  clear fx st hu21
  generalize h21.next = i21 at *
  generalize bxH h21 1 u21 = k21 at *
  replace b : Bxs _ [(i0, A), (i1, B), (i2, C), (i3, AB), (i4, AB), (i5, BC), (i6, ABC), (i7, ABC), (i8, (S.1, S.2)), (i9, (S.1, S.2)), (i10, (AS.1, AS.2)), (i11, (AC.1, AC.2)), (i12, (AS.1, AS.2)), (i17, (K.1, K.2)), (i18, (KA.1, KA.2)), (i19, (KA.1, KA.2)), (i20, (M.1, M.2)), (i21, (1,[0]))] := b
  obtain ⟨a0, r0, q0⟩ := b.at 15 i19 KA.1 KA.2 rfl
  simp (disch := first | omega | (simp only [Qn] <;> omega)) only [go_sem, d00, d0, decide_true, r0]
  refine (quot_ok _ KA k _ q0 lKA).mono ?_
  rintro v h22 ⟨w, rfl, ⟨u22, rfl, hu22, -⟩, f22⟩
  simp only [e16] at hu22 ⊢
  have st := fun hh id => stV_agg2 hh id 0 (v := .int .i64 Q.1) (u := u22) rfl hu22.what.2.1
  simp (disch := first | omega | (simp only [Qn] <;> omega)) only [go_sem, d00, d0, decide_true, st, bxH_eq, List.getElem?_cons_zero, List.getElem?_cons_succ]
  have fx := f22.trans (bxH_fr h22 Q.1 u22)
  replace b := b.mono fx
  replace b := b.snoc (bxH_bx h22 (N := Q.1) (A := Q.2) hu22)
  clear fx st hu22
  generalize h22.next = i22 at *
  generalize bxH h22 Q.1 u22 = k22 at *
  replace b : Bxs _ [(i0, A), (i1, B), (i2, C), (i3, AB), (i4, AB), (i5, BC), (i6, ABC), (i7, ABC), (i8, (S.1, S.2)), (i9, (S.1, S.2)), (i10, (AS.1, AS.2)), (i11, (AC.1, AC.2)), (i12, (AS.1, AS.2)), (i17, (K.1, K.2)), (i18, (KA.1, KA.2)), (i19, (KA.1, KA.2)), (i20, (M.1, M.2)), (i21, (1,[0])), (i22, (Q.1, Q.2))] := b
  obtain ⟨a0, r0, q0⟩ := b.at 14 i18 KA.1 KA.2 rfl
  obtain ⟨a1, r1, q1⟩ := b.at 15 i19 KA.1 KA.2 rfl
  simp (disch := first | omega | (simp only [Qn] <;> omega)) only [go_sem, d00, d0, decide_true, r0, r1]
  refine (lawsame_ok _ _ _ _ _ q0 q1 lKA lKA).mono ?_
  rintro v k23 ⟨rfl, f23⟩
  replace b := b.mono f23
  try simp (disch := first | omega | (simp only [Qn] <;> omega)) only [go_sem, d00, d0, decide_true]
  obtain ⟨a0, r0, q0⟩ := b.at 17 i21 1 [0] rfl
  simp (disch := first | omega | (simp only [Qn] <;> omega)) only [go_sem, d00, d0, decide_true, r0, bls_one]
  refine (is_ok _ _ _ 0 1 [0] _ (q0.mono (lit_fr _ [0])) (lit_si _ [0] 1 rfl) (by decide) (by decide)).mono ?_
  rintro v8 k8 ⟨rfl, f8⟩
  rw [show decide ((0 : Int) = 0 ∧ ((1, [0]) : Int × List Int) = (1, [0])) = true from by decide]
  replace b := b.mono ((lit_fr _ [0]).trans f8)
  rcases hE with ⟨k0, rfl⟩ | ⟨k0, rfl, rfl⟩
  · have dk : decide (k = 0) = true := decide_eq_true k0
    have dk2 : decide (k ≠ 0) = false := decide_eq_false (by omega)
    simp (disch := first | omega | (simp only [Qn] <;> omega)) only [go_sem, d00, d0, d6, dk, dk2, decide_true, undef_eq]
  · have dk : decide (k = 0) = false := decide_eq_false k0
    have dk2 : decide (k ≠ 0) = true := decide_eq_true k0
    simp (disch := first | omega | (simp only [Qn] <;> omega)) only [go_sem, d00, d0, d6, dk, dk2, decide_true]
    obtain ⟨a0, r0, q0⟩ := b.at 18 i22 Q.1 Q.2 rfl
    obtain ⟨a1, r1, q1⟩ := b.at 0 i0 Q.1 Q.2 rfl
    simp (disch := first | omega | (simp only [Qn] <;> omega)) only [go_sem, d00, d0, decide_true, r0, r1]
    refine (lawsame_ok _ _ _ _ _ q0 q1 lQ lQ).mono ?_
    rintro v k9 ⟨rfl, f9⟩
    simp (disch := first | omega | (simp only [Qn] <;> omega)) only [go_sem, d00, d0, decide_true]

set_option maxHeartbeats 16000000 in
theorem galois_ok (vl : V) (l : List Int) (nn jj kk : Int) (h : H) (hc : SI h vl l) (hcl : (l.length : Int) ≤ 2 ^ 63 - 1) : Ev T n_law06_CycloGalois [vl, .int .i64 nn, .int .i64 jj, .int .i64 kk] h (fun v _ => v = .bool true) := by
  refine Ev_of t_law06_CycloGalois rfl ?_
  simp (disch := first | omega | (simp only [Qn] <;> omega)) only [go_sem, c_law06_CycloGalois, initV_eq]
  refine (lives_ok h).mono ?_
  rintro v h0 ⟨rfl, g⟩
  replace hc := hc.mono g
  clear g
  simp (disch := first | omega | (simp only [Qn] <;> omega)) only [go_sem, hc.lens]
  refine iteW_dec (fun hlong => ?_) (fun hlong => ?_)
  · simp (disch := first | omega | (simp only [Qn] <;> omega)) only [go_sem]
  have hl : l.length < 1000000 := by omega
  simp (disch := first | omega | (simp only [Qn] <;> omega)) only [go_sem]
  refine (order_ok _ _).mono ?_
  rintro v hb ⟨n, rfl, hn, fb⟩
  obtain ⟨hdv, hn1, hn2⟩ := mem_dvs hn (Nat.dvd_refl n)
  replace hc := hc.mono fb
  clear fb
  simp (disch := first | omega | (simp only [Qn] <;> omega)) only [go_sem]
  refine (prime_ok n jj _ hn1 hn2).mono ?_
  rintro v hb1 ⟨j, rfl, hj, hjb, fb1⟩
  replace hc := hc.mono fb1
  clear fb1
  simp (disch := first | omega | (simp only [Qn] <;> omega)) only [go_sem]
  refine (prime_ok n kk _ hn1 hn2).mono ?_
  rintro v hb ⟨k, rfl, hk, hkb, fb⟩
  replace hc := hc.mono fb
  clear fb
  have hjk : (0 : Int) ≤ (j : Int) * (k : Int) ∧ (j : Int) * (k : Int) ≤ 120001 * 120001 := ⟨Int.mul_nonneg (by omega) (by omega), Int.mul_le_mul (by omega) (by omega) (by omega) (by omega)⟩
  simp (disch := first | omega | (simp only [Qn] <;> omega)) only [go_sem]
  have hbl := bldV_fst (z1 := .nils) (z2 := .int .i64 0) (v := vl) hc.what.1 hc.what.2.1
  have hbo := fun hh => boxV_agg2 hh (v := vl) (u := .int .i64 0) hc.what.2.1 rfl
  simp (disch := first | omega | (simp only [Qn] <;> omega)) only [go_sem, hbl, hbo]
  have hfx : Fr hb (hb.new (.cells false [vl, .int .i64 0])) := (Fr.refl hb).new _
  have hgx : (hb.new (.cells false [vl, .int .i64 0])).get hb.next = some (.cells false [vl, .int .i64 0]) := H.get_new_same ..
  have hnx : (hb.new (.cells false [vl, .int .i64 0])).next = hb.next + 1 := H.next_new ..
  generalize hb.new (.cells false [vl, .int .i64 0]) = hx at *
  have ht : Tk hx hb.next l := ⟨vl, 0, hgx, hc.mono hfx, fun id off len c e => by
    rcases hc with ⟨h0, _⟩ | ⟨_, _, _, _, _, _, h0, _, h3, _⟩
    · rw [h0] at e; cases e
    · rw [h0] at e; cases e; exact h3, Nat.zero_le _, by omega⟩
  have htid : hb.next < hx.next := by omega
  clear hfx hgx hnx hbl hbo hc
  generalize hb.next = tid at *
  refine (small_ok tid l n _ ht hl hn1 hn2).mono ?_
  rintro v h0 ⟨cA, hcA, w, rfl, ⟨u0, rfl, hu0, hw0⟩, ht0, f0⟩
  obtain ⟨A, eA⟩ : ∃ X, numF n cA = X := ⟨_, rfl⟩
  simp only [eA] at hu0 ⊢
  have st := fun hh id => stV_agg2 hh id 0 (v := .int .i64 A.1) (u := u0) rfl hu0.what.2.1
  simp (disch := first | omega | (simp only [Qn] <;> omega)) only [go_sem, d00, d0, decide_true, st, bxH_eq]
  have fx := f0.trans (Fx.of (bxH_fr h0 A.1 u0))
  have bA := Bf.new h0 hu0 hw0 htid (by have := f0.next; omega)
  clear ht
  have ht := ht0.mono (bxH_fr h0 A.1 u0)
  replace htid := Nat.lt_of_lt_of_le htid fx.next
  clear fx st hu0 ht0 f0 hw0
  generalize h0.next = i0 at *
  generalize bxH h0 A.1 u0 = k0 at *
  refine (small_ok tid l n _ ht hl hn1 hn2).mono ?_
  rintro v h1 ⟨cB, hcB, w, rfl, ⟨u1, rfl, hu1, hw1⟩, ht1, f1⟩
  obtain ⟨B, eB⟩ : ∃ X, numF n cB = X := ⟨_, rfl⟩
  simp only [eB] at hu1 ⊢
  have st := fun hh id => stV_agg2 hh id 0 (v := .int .i64 B.1) (u := u1) rfl hu1.what.2.1
  simp (disch := first | omega | (simp only [Qn] <;> omega)) only [go_sem, d00, d0, decide_true, st, bxH_eq]
  have fx := f1.trans (Fx.of (bxH_fr h1 B.1 u1))
  replace bA := bA.fx fx
  have bB := Bf.new h1 hu1 hw1 htid (by have := f1.next; omega)
  clear ht
  have ht := ht1.mono (bxH_fr h1 B.1 u1)
  replace htid := Nat.lt_of_lt_of_le htid fx.next
  clear fx st hu1 ht1 f1 hw1
  generalize h1.next = i1 at *
  generalize bxH h1 B.1 u1 = k1 at *
  clear ht
  have b := (((Bxs.nil _).snoc bA.bx).snoc bB.bx)
  replace b : Bxs _ [(i0, A), (i1, B)] := b
  clear bA bB htid
  obtain ⟨JA, JB, S, PP, JS, JP, KJA, CA, NA, e1, e2, e3, e4, e5, e6, e7, e8, e9, e10, e11, e12, e13, e14, eN, lA, lB, lJA, lJB, lS, lPP, lJS, lJP, lKJA, lCA, lNA⟩ := gal_facts hdv hcA hcB hj hk eA eB
  clear eA eB hcA hcB cA cB
  obtain ⟨a0, r0, q0⟩ := b.at 0 i0 A.1 A.2 rfl
  simp (disch := first | omega | (simp only [Qn] <;> omega)) only [go_sem, d00, d0, decide_true, r0]
  refine (gal_ok _ A j _ q0 lA).mono ?_
  rintro v h2 ⟨w, rfl, ⟨u2, rfl, hu2, -⟩, f2⟩
  simp only [e1] at hu2 ⊢
  have st := fun hh id => stV_agg2 hh id 0 (v := .int .i64 JA.1) (u := u2) rfl hu2.what.2.1
  simp (disch := first | omega | (simp only [Qn] <;> omega)) only [go_sem, d00, d0, decide_true, st, bxH_eq, List.getElem?_cons_zero, List.getElem?_cons_succ]
  have fx := f2.trans (bxH_fr h2 JA.1 u2)
  replace b := b.mono fx
  replace b := b.snoc (bxH_bx h2 (N := JA.1) (A := JA.2) hu2)
  clear fx st hu2
  generalize h2.next = i2 at *
  generalize bxH h2 JA.1 u2 = k2 at *
  replace b : Bxs _ [(i0, A), (i1, B), (i2, (JA.1, JA.2))] := b
  obtain ⟨a0, r0, q0⟩ := b.at 1 i1 B.1 B.2 rfl
  simp (disch := first | omega | (simp only [Qn] <;> omega)) only [go_sem, d00, d0, decide_true, r0]
  refine (gal_ok _ B j _ q0 lB).mono ?_
  rintro v h3 ⟨w, rfl, ⟨u3, rfl, hu3, -⟩, f3⟩
  simp only [e2] at hu3 ⊢
  have st := fun hh id => stV_agg2 hh id 0 (v := .int .i64 JB.1) (u := u3) rfl hu3.what.2.1
  simp (disch := first | omega | (simp only [Qn] <;> omega)) only [go_sem, d00, d0, decide_true, st, bxH_eq, List.getElem?_cons_zero, List.getElem?_cons_succ]
  have fx := f3.trans (bxH_fr h3 JB.1 u3)
  replace b := b.mono fx
  replace b := b.snoc (bxH_bx h3 (N := JB.1) (A := JB.2) hu3)
  clear fx st hu3
  generalize h3.next = i3 at *
  generalize bxH h3 JB.1 u3 = k3 at *
  replace b : Bxs _ [(i0, A), (i1, B), (i2, (JA.1, JA.2)), (i3, (JB.1, JB.2))] := b
  obtain ⟨a0, r0, q0⟩ := b.at 0 i0 A.1 A.2 rfl
  obtain ⟨a1, r1, q1⟩ := b.at 1 i1 B.1 B.2 rfl
  simp (disch := first | omega | (simp only [Qn] <;> omega)) only [go_sem, d00, d0, decide_true, r0, r1]
  refine (add_ok _ _ A B _ q0 q1 lA lB).mono ?_
  rintro v h4 ⟨w, rfl, ⟨u4, rfl, hu4, -⟩, f4⟩
  simp only [e3] at hu4 ⊢
  have st := fun hh id => stV_agg2 hh id 0 (v := .int .i64 S.1) (u := u4) rfl hu4.what.2.1
  simp (disch := first | omega | (simp only [Qn] <;> omega)) only [go_sem, d00, d0, decide_true, st, bxH_eq, List.getElem?_cons_zero, List.getElem?_cons_succ]
  have fx := f4.trans (bxH_fr h4 S.1 u4)
  replace b := b.mono fx
  replace b := b.snoc (bxH_bx h4 (N := S.1) (A := S.2) hu4)
  clear fx st hu4
  generalize h4.next = i4 at *
  generalize bxH h4 S.1 u4 = k4 at *
  replace b : Bxs _ [(i0, A), (i1, B), (i2, (JA.1, JA.2)), (i3, (JB.1, JB.2)), (i4, (S.1, S.2))] := b
  obtain ⟨a0, r0, q0⟩ := b.at 0 i0 A.1 A.2 rfl
  obtain ⟨a1, r1, q1⟩ := b.at 1 i1 B.1 B.2 rfl
  simp (disch := first | omega | (simp only [Qn] <;> omega)) only [go_sem, d00, d0, decide_true, r0, r1]
  refine (mul_ok _ _ A B _ q0 q1 lA lB).mono ?_
  rintro v h5 ⟨w, rfl, ⟨u5, rfl, hu5, -⟩, f5⟩
  simp only [e4] at hu5 ⊢
  have st := fun hh id => stV_agg2 hh id 0 (v := .int .i64 PP.1) (u := u5) rfl hu5.what.2.1
  simp (disch := first | omega | (simp only [Qn] <;> omega)) only [go_sem, d00, d0, decide_true, st, bxH_eq, List.getElem?_cons_zero, List.getElem?_cons_succ]
  have fx := f5.trans (bxH_fr h5 PP.1 u5)
  replace b := b.mono fx
  replace b := b.snoc (bxH_bx h5 (N := PP.1) (A := PP.2) hu5)
  clear fx st hu5
  generalize h5.next = i5 at *
  generalize bxH h5 PP.1 u5 = k5 at *
  replace b : Bxs _ [(i0, A), (i1, B), (i2, (JA.1, JA.2)), (i3, (JB.1, JB.2)), (i4, (S.1, S.2)), (i5, (PP.1, PP.2))] := b
  obtain ⟨a0, r0, q0⟩ := b.at 4 i4 S.1 S.2 rfl
  simp (disch := first | omega | (simp only [Qn] <;> omega)) only [go_sem, d00, d0, decide_true, r0]
  refine (gal_ok _ S j _ q0 lS).mono ?_
  rintro v h6 ⟨w, rfl, ⟨u6, rfl, hu6, -⟩, f6⟩
  simp only [e5] at hu6 ⊢
  have st := fun hh id => stV_agg2 hh id 0 (v := .int .i64 JS.1) (u := u6) rfl hu6.what.2.1
  simp (disch := first | omega | (simp only [Qn] <;> omega)) only [go_sem, d00, d0, decide_true, st, bxH_eq, List.getElem?_cons_zero, List.getElem?_cons_succ]
  have fx := f6.trans (bxH_fr h6 JS.1 u6)
  replace b := b.mono fx
  replace b := b.snoc (bxH_bx h6 (N := JS.1) (A := JS.2) hu6)
  clear fx st hu6
  generalize h6.next = i6 at *
  generalize bxH h6 JS.1 u6 = k6 at *
  replace b : Bxs _ [(i0, A), (i1, B), (i2, (JA.1, JA.2)), (i3, (JB.1, JB.2)), (i4, (S.1, S.2)), (i5, (PP.1, PP.2)), (i6, (JS.1, JS.2))] := b
  obtain ⟨a0, r0, q0⟩ := b.at 5 i5 PP.1 PP.2 rfl
  simp (disch := first | omega | (simp only [Qn] <;> omega)) only [go_sem, d00, d0, decide_true, r0]
  refine (gal_ok _ PP j _ q0 lPP).mono ?_
  rintro v h7 ⟨w, rfl, ⟨u7, rfl, hu7, -⟩, f7⟩
  simp only [e6] at hu7 ⊢
  have st := fun hh id => stV_agg2 hh id 0 (v := .int .i64 JP.1) (u := u7) rfl hu7.what.2.1
  simp (disch := first | omega | (simp only [Qn] <;> omega)) only [go_sem, d00, d0, decide_true, st, bxH_eq, List.getElem?_cons_zero, List.getElem?_cons_succ]
  have fx := f7.trans (bxH_fr h7 JP.1 u7)
  replace b := b.mono fx
  replace b := b.snoc (bxH_bx h7 (N := JP.1) (A := JP.2) hu7)
  clear fx st hu7
  generalize h7.next = i7 at *
  generalize bxH h7 JP.1 u7 = k7 at *
  replace b : Bxs _ [(i0, A), (i1, B), (i2, (JA.1, JA.2)), (i3, (JB.1, JB.2)), (i4, (S.1, S.2)), (i5, (PP.1, PP.2)), (i6, (JS.1, JS.2)), (i7, (JP.1, JP.2))] := b
  obtain ⟨a0, r0, q0⟩ := b.at 2 i2 JA.1 JA.2 rfl
  obtain ⟨a1, r1, q1⟩ := b.at 3 i3 JB.1 JB.2 rfl
  simp (disch := first | omega | (simp only [Qn] <;> omega)) only [go_sem, d00, d0, decide_true, r0, r1]
  refine (add_ok _ _ JA JB _ q0 q1 lJA lJB).mono ?_
  rintro v h8 ⟨w, rfl, ⟨u8, rfl, hu8, -⟩, f8⟩
  simp only [e7] at hu8 ⊢
  have st := fun hh id => stV_agg2 hh id 0 (v := .int .i64 JS.1) (u := u8) rfl hu8.what.2.1
  simp (disch := first | omega | (simp only [Qn] <;> omega)) only [go_sem, d00, d0, decide_true, st, bxH_eq, List.getElem?_cons_zero, List.getElem?_cons_succ]
  have fx := f8.trans (bxH_fr h8 JS.1 u8)
  replace b := b.mono fx
  replace b := b.snoc (bxH_bx h8 (N := JS.1) (A := JS.2) hu8)
  clear fx st hu8
  generalize h8.next = i8 at *
  generalize bxH h8 JS.1 u8 = k8 at *
  replace b : Bxs _ [(i0, A), (i1, B), (i2, (JA.1, JA.2)), (i3, (JB.1, JB.2)), (i4, (S.1, S.2)), (i5, (PP.1, PP.2)), (i6, (JS.1, JS.2)), (i7, (JP.1, JP.2)), (i8, (JS.1, JS.2))] := b
  obtain ⟨a0, r0, q0⟩ := b.at 2 i2 JA.1 JA.2 rfl
  obtain ⟨a1, r1, q1⟩ := b.at 3 i3 JB.1 JB.2 rfl
  simp (disch := first | omega | (simp only [Qn] <;> omega)) only [go_sem, d00, d0, decide_true, r0, r1]
  refine (mul_ok _ _ JA JB _ q0 q1 lJA lJB).mono ?_
  rintro v h9 ⟨w, rfl, ⟨u9, rfl, hu9, -⟩, f9⟩
  simp only [e8] at hu9 ⊢
  have st := fun hh id => stV_agg2 hh id 0 (v := .int .i64 JP.1) (u := u9) rfl hu9.what.2.1
  simp (disch := first | omega | (simp only [Qn] <;> omega)) only [go_sem, d00, d0, decide_true, st, bxH_eq, List.getElem?_cons_zero, List.getElem?_cons_succ]
  have fx := f9.trans (bxH_fr h9 JP.1 u9)
  replace b := b.mono fx
  replace b := b.snoc (bxH_bx h9 (N := JP.1) (A := JP.2) hu9)
  clear fx st hu9
  generalize h9.next = i9 at *
  generalize bxH h9 JP.1 u9 = k9 at *
  replace b : Bxs _ [(i0, A), (i1, B), (i2, (JA.1, JA.2)), (i3, (JB.1, JB.2)), (i4, (S.1, S.2)), (i5, (PP.1, PP.2)), (i6, (JS.1, JS.2)), (i7, (JP.1, JP.2)), (i8, (JS.1, JS.2)), (i9, (JP.1, JP.2))] := b
  obtain ⟨a0, r0, q0⟩ := b.at 2 i2 JA.1 JA.2 rfl
  simp (disch := first | omega | (simp only [Qn] <;> omega)) only [go_sem, d00, d0, decide_true, r0]
  refine (gal_ok _ JA k _ q0 lJA).mono ?_
  rintro v h10 ⟨w, rfl, ⟨u10, rfl, hu10, -⟩, f10⟩
  simp only [e9] at hu10 ⊢
  have st := fun hh id => stV_agg2 hh id 0 (v := .int .i64 KJA.1) (u := u10) rfl hu10.what.2.1
  simp (disch := first | omega | (simp only [Qn] <;> omega)) only [go_sem, d00, d0, decide_true, st, bxH_eq, List.getElem?_cons_zero, List.getElem?_cons_succ]
  have fx := f10.trans (bxH_fr h10 KJA.1 u10)
  replace b := b.mono fx
  replace b := b.snoc (bxH_bx h10 (N := KJA.1) (A := KJA.2) hu10)
  clear fx st hu10
  generalize h10.next = i10 at *
  generalize bxH h10 KJA.1 u10 = k10 at *
  replace b : Bxs _ [(i0, A), (i1, B), (i2, (JA.1, JA.2)), (i3, (JB.1, JB.2)), (i4, (S.1, S.2)), (i5, (PP.1, PP.2)), (i6, (JS.1, JS.2)), (i7, (JP.1, JP.2)), (i8, (JS.1, JS.2)), (i9, (JP.1, JP.2)), (i10, (KJA.1, KJA.2))] := b
  obtain ⟨a0, r0, q0⟩ := b.at 0 i0 A.1 A.2 rfl
  simp (disch := first | omega | (simp only [Qn] <;> omega)) only [go_sem, d00, d0, decide_true, r0]
  refine (gal_ok _ A ((j : Int) * k) _ q0 lA).mono ?_
  rintro v h11 ⟨w, rfl, ⟨u11, rfl, hu11, -⟩, f11⟩
  simp only [e10] at hu11 ⊢
  have st := fun hh id => stV_agg2 hh id 0 (v := .int .i64 KJA.1) (u := u11) rfl hu11.what.2.1
  simp (disch := first | omega | (simp only [Qn] <;> omega)) only [go_sem, d00, d0, decide_true, st, bxH_eq, List.getElem?_cons_zero, List.getElem?_cons_succ]
  have fx := f11.trans (bxH_fr h11 KJA.1 u11)
  replace b := b.mono fx
  replace b := b.snoc (bxH_bx h11 (N := KJA.1) (A := KJA.2) hu11)
  clear fx st hu11
  generalize h11.next = i11 at *
  generalize bxH h11 KJA.1 u11 = k11 at *
  replace b : Bxs _ [(i0, A), (i1, B), (i2, (JA.1, JA.2)), (i3, (JB.1, JB.2)), (i4, (S.1, S.2)), (i5, (PP.1, PP.2)), (i6, (JS.1, JS.2)), (i7, (JP.1, JP.2)), (i8, (JS.1, JS.2)), (i9, (JP.1, JP.2)), (i10, (KJA.1, KJA.2)), (i11, (KJA.1, KJA.2))] := b
  obtain ⟨a0, r0, q0⟩ := b.at 0 i0 A.1 A.2 rfl
  simp (disch := first | omega | (simp only [Qn] <;> omega)) only [go_sem, d00, d0, decide_true, r0]
  refine (conj_ok _ A _ q0 lA).mono ?_
  rintro v h12 ⟨w, rfl, ⟨u12, rfl, hu12, -⟩, f12⟩
  simp only [e11] at hu12 ⊢
  have st := fun hh id => stV_agg2 hh id 0 (v := .int .i64 CA.1) (u := u12) rfl hu12.what.2.1
  simp (disch := first | omega | (simp only [Qn] <;> omega)) only [go_sem, d00, d0, decide_true, st, bxH_eq, List.getElem?_cons_zero, List.getElem?_cons_succ]
  have fx := f12.trans (bxH_fr h12 CA.1 u12)
  replace b := b.mono fx
  replace b := b.snoc (bxH_bx h12 (N := CA.1) (A := CA.2) hu12)
  clear fx st hu12
  generalize h12.next = i12 at *
  generalize bxH h12 CA.1 u12 = k12 at *
  replace b : Bxs _ [(i0, A), (i1, B), (i2, (JA.1, JA.2)), (i3, (JB.1, JB.2)), (i4, (S.1, S.2)), (i5, (PP.1, PP.2)), (i6, (JS.1, JS.2)), (i7, (JP.1, JP.2)), (i8, (JS.1, JS.2)), (i9, (JP.1, JP.2)), (i10, (KJA.1, KJA.2)), (i11, (KJA.1, KJA.2)), (i12, (CA.1, CA.2))] := b
  obtain ⟨a0, r0, q0⟩ := b.at 12 i12 CA.1 CA.2 rfl
  simp (disch := first | omega | (simp only [Qn] <;> omega)) only [go_sem, d00, d0, decide_true, r0]
  refine (conj_ok _ CA _ q0 lCA).mono ?_
  rintro v h13 ⟨w, rfl, ⟨u13, rfl, hu13, -⟩, f13⟩
  simp only [e12] at hu13 ⊢
  have st := fun hh id => stV_agg2 hh id 0 (v := .int .i64 A.1) (u := u13) rfl hu13.what.2.1
  simp (disch := first | omega | (simp only [Qn] <;> omega)) only [go_sem, d00, d0, decide_true, st, bxH_eq, List.getElem?_cons_zero, List.getElem?_cons_succ]
  have fx := f13.trans (bxH_fr h13 A.1 u13)
  replace b := b.mono fx
  replace b := b.snoc (bxH_bx h13 (N := A.1) (A := A.2) hu13)
  clear fx st hu13
  generalize h13.next = i13 at *
  generalize bxH h13 A.1 u13 = k13 at *
  replace b : Bxs _ [(i0, A), (i1, B), (i2, (JA.1, JA.2)), (i3, (JB.1, JB.2)), (i4, (S.1, S.2)), (i5, (PP.1, PP.2)), (i6, (JS.1, JS.2)), (i7, (JP.1, JP.2)), (i8, (JS.1, JS.2)), (i9, (JP.1, JP.2)), (i10, (KJA.1, KJA.2)), (i11, (KJA.1, KJA.2)), (i12, (CA.1, CA.2)), (i13, A)] := b
  obtain ⟨a0, r0, q0⟩ := b.at 0 i0 A.1 A.2 rfl
  obtain ⟨a1, r1, q1⟩ := b.at 12 i12 CA.1 CA.2 rfl
  simp (disch := first | omega | (simp only [Qn] <;> omega)) only [go_sem, d00, d0, decide_true, r0, r1]
  refine (mul_ok _ _ A CA _ q0 q1 lA lCA).mono ?_
  rintro v h14 ⟨w, rfl, ⟨u14, rfl, hu14, -⟩, f14⟩
  simp only [e13] at hu14 ⊢
  have st := fun hh id => stV_agg2 hh id 0 (v := .int .i64 NA.1) (u := u14) rfl hu14.what.2.1
  simp (disch := first | omega | (simp only [Qn] <;> omega)) only [go_sem, d00, d0, decide_true, st, bxH_eq, List.getElem?_cons_zero, List.getElem?_cons_succ]
  have fx := f14.trans (bxH_fr h14 NA.1 u14)
  replace b := b.mono fx
  replace b := b.snoc (bxH_bx h14 (N := NA.1) (A := NA.2) hu14)
  clear fx st hu14
  generalize h14.next = i14 at *
  generalize bxH h14 NA.1 u14 = k14 at *
  replace b : Bxs _ [(i0, A), (i1, B), (i2, (JA.1, JA.2)), (i3, (JB.1, JB.2)), (i4, (S.1, S.2)), (i5, (PP.1, PP.2)), (i6, (JS.1, JS.2)), (i7, (JP.1, JP.2)), (i8, (JS.1, JS.2)), (i9, (JP.1, JP.2)), (i10, (KJA.1, KJA.2)), (i11, (KJA.1, KJA.2)), (i12, (CA.1, CA.2)), (i13, A), (i14, (NA.1, NA.2))] := b
  obtain ⟨a0, r0, q0⟩ := b.at 14 i14 NA.1 NA.2 rfl
  simp (disch := first | omega | (simp only [Qn] <;> omega)) only [go_sem, d00, d0, decide_true, r0]
  refine (conj_ok _ NA _ q0 lNA).mono ?_
  rintro v h15 ⟨w, rfl, ⟨u15, rfl, hu15, -⟩, f15⟩
  simp only [e14] at hu15 ⊢
  have st := fun hh id => stV_agg2 hh id 0 (v := .int .i64 NA.1) (u := u15) rfl hu15.what.2.1
  simp (disch := first | omega | (simp only [Qn] <;> omega)) only [go_sem, d00, d0, decide_true, st, bxH_eq, List.getElem?_cons_zero, List.getElem?_cons_succ]
  have fx := f15.trans (bxH_fr h15 NA.1 u15)
  replace b := b.mono fx
  replace b := b.snoc (bxH_bx h15 (N := NA.1) (A := NA.2) hu15)
  clear fx st hu15
  generalize h15.next = i15 at *
  generalize bxH h15 NA.1 u15 = k15 at *
  replace b : Bxs _ [(i0, A), (i1, B), (i2, (JA.1, JA.2)), (i3, (JB.1, JB.2)), (i4, (S.1, S.2)), (i5, (PP.1, PP.2)), (i6, (JS.1, JS.2)), (i7, (JP.1, JP.2)), (i8, (JS.1, JS.2)), (i9, (JP.1, JP.2)), (i10, (KJA.1, KJA.2)), (i11, (KJA.1, KJA.2)), (i12, (CA.1, CA.2)), (i13, A), (i14, (NA.1, NA.2)), (i15, (NA.1, NA.2))] := b
  obtain ⟨a0, r0, q0⟩ := b.at 6 i6 JS.1 JS.2 rfl
  obtain ⟨a1, r1, q1⟩ := b.at 8 i8 JS.1 JS.2 rfl
  simp (disch := first | omega | (simp only [Qn] <;> omega)) only [go_sem, d00, d0, decide_true, r0, r1]
  refine (lawsame_ok _ _ _ _ _ q0 q1 lJS lJS).mono ?_
  rintro v k16 ⟨rfl, f16⟩
  replace b := b.mono f16
  try simp (disch := first | omega | (simp only [Qn] <;> omega)) only [go_sem, d00, d0, decide_true]
  obtain ⟨a0, r0, q0⟩ := b.at 7 i7 JP.1 JP.2 rfl
  obtain ⟨a1, r1, q1⟩ := b.at 9 i9 JP.1 JP.2 rfl
  simp (disch := first | omega | (simp only [Qn] <;> omega)) only [go_sem, d00, d0, decide_true, r0, r1]
  refine (lawsame_ok _ _ _ _ _ q0 q1 lJP lJP).mono ?_
  rintro v k17 ⟨rfl, f17⟩
  replace b := b.mono f17
  try simp (disch := first | omega | (simp only [Qn] <;> omega)) only [go_sem, d00, d0, decide_true]
  obtain ⟨a0, r0, q0⟩ := b.at 10 i10 KJA.1 KJA.2 rfl
  obtain ⟨a1, r1, q1⟩ := b.at 11 i11 KJA.1 KJA.2 rfl
  simp (disch := first | omega | (simp only [Qn] <;> omega)) only [go_sem, d00, d0, decide_true, r0, r1]
  refine (lawsame_ok _ _ _ _ _ q0 q1 lKJA lKJA).mono ?_
  rintro v k18 ⟨rfl, f18⟩
  replace b := b.mono f18
  try simp (disch := first | omega | (simp only [Qn] <;> omega)) only [go_sem, d00, d0, decide_true]
  obtain ⟨a0, r0, q0⟩ := b.at 13 i13 A.1 A.2 rfl
  obtain ⟨a1, r1, q1⟩ := b.at 0 i0 A.1 A.2 rfl
  simp (disch := first | omega | (simp only [Qn] <;> omega)) only [go_sem, d00, d0, decide_true, r0, r1]
  refine (lawsame_ok _ _ _ _ _ q0 q1 lA lA).mono ?_
  rintro v k19 ⟨rfl, f19⟩
  replace b := b.mono f19
  try simp (disch := first | omega | (simp only [Qn] <;> omega)) only [go_sem, d00, d0, decide_true]
  obtain ⟨a0, r0, q0⟩ := b.at 15 i15 NA.1 NA.2 rfl
  obtain ⟨a1, r1, q1⟩ := b.at 14 i14 NA.1 NA.2 rfl
  simp (disch := first | omega | (simp only [Qn] <;> omega)) only [go_sem, d00, d0, decide_true, r0, r1]
  refine (lawsame_ok _ _ _ _ _ q0 q1 lNA lNA).mono ?_
  rintro v k20 ⟨rfl, f20⟩
  replace b := b.mono f20
  try simp (disch := first | omega | (simp only [Qn] <;> omega)) only [go_sem, d00, d0, decide_true]
  obtain ⟨ux, gx, -, -⟩ := b 2 (i2, (JA.1, JA.2)) rfl
  obtain ⟨uy, gy, -, -⟩ := b 0 (i0, A) rfl
  have cx : k20.cell i2 0 = some (.int .i64 JA.1) := by rw [H.cell_of gx]; rfl
  have cy : k20.cell i0 0 = some (.int .i64 A.1) := by rw [H.cell_of gy]; rfl
  simp (disch := first | omega | (simp only [Qn] <;> omega)) only [go_sem, d00, d0, decide_true, cx, cy]
  exact congrArg V.bool (decide_eq_true eN)
end
end Go.Proofs.Ythfabknpogbcaaa
/- The law CycloSums, walked. -/
namespace Go.Proofs.Ythfabknpogbcaaa
open Go Go.Ay
set_option maxRecDepth 100000
noncomputable section
theorem d18 : decide ((18 : Int) = 18) = true := by decide
theorem d018 : decide ((0 : Int) = 18) = false := by decide
/-- A box set anew. -/
theorem Bx.reset {h : H} {id : Nat} {a : Int × List Int} {u : V} {lo : Nat} (s : SI h u a.2) (f : Frs u lo) (hl : id < lo) (hn : id < h.next) : Bx (h.set id (some (.cells false [.int .i64 a.1, u]))) id a := ⟨u, H.get_set_same .., SI.set_frs s f hl _, hn⟩

set_option maxHeartbeats 16000000 in
theorem sums_ok (vl : V) (l : List Int) (nn xx yy : Int) (h : H) (hc : SI h vl l) (hcl : (l.length : Int) ≤ 2 ^ 63 - 1) : Ev T n_law06_CycloSums [vl, .int .i64 nn, .int .i64 xx, .int .i64 yy] h (fun v _ => v = .bool true) := by
  refine Ev_of t_law06_CycloSums rfl ?_
  simp (disch := first | omega | (simp only [Qn] <;> omega)) only [go_sem, c_law06_CycloSums, initV_eq]
  refine (lives_ok h).mono ?_
  rintro v h0 ⟨rfl, g⟩
  replace hc := hc.mono g
  clear g
  simp (disch := first | omega | (simp only [Qn] <;> omega)) only [go_sem, hc.lens]
  refine iteW_dec (fun hlong => ?_) (fun hlong => ?_)
  · simp (disch := first | omega | (simp only [Qn] <;> omega)) only [go_sem]
  have hl : l.length < 1000000 := by omega
  simp (disch := first | omega | (simp only [Qn] <;> omega)) only [go_sem]
  refine (order_ok _ _).mono ?_
  rintro v hb ⟨n, rfl, hn, fb⟩
  obtain ⟨hdv, hn1, hn2⟩ := mem_dvs hn (Nat.dvd_refl n)
  replace hc := hc.mono fb
  clear fb
  have hrx := tmod_range xx (show (0 : Int) < 500 by omega)
  have hry := tmod_range yy (show (0 : Int) < 500 by omega)
  simp (disch := first | omega | (simp only [Qn] <;> omega)) only [go_sem]
  refine (pick_ok xx 500 _ (by omega) (by omega)).mono ?_
  rintro v hp ⟨rfl, rfl⟩
  simp (disch := first | omega | (simp only [Qn] <;> omega)) only [go_sem]
  refine (pick_ok yy 500 _ (by omega) (by omega)).mono ?_
  rintro v hq ⟨rfl, rfl⟩
  simp (disch := first | omega | (simp only [Qn] <;> omega)) only [go_sem]
  have hxb : -250 ≤ xx % 500 - 250 ∧ xx % 500 - 250 ≤ 249 := by omega
  have hyb : -250 ≤ yy % 500 - 250 ∧ yy % 500 - 250 ≤ 249 := by omega
  generalize xx % 500 - 250 = x at *
  generalize yy % 500 - 250 = y at *
  clear hrx hry
  obtain ⟨S, R, f0, f1, lS, fn⟩ := sums_facts hn
  refine (Int_ok 0 hq).mono ?_
  rintro v hs ⟨w, rfl, ⟨us, rfl, hus, -⟩, fs⟩
  simp only [f0] at hus ⊢
  have st := fun hh id => stV_agg2 hh id 0 (v := .int .i64 (S 0).1) (u := us) rfl hus.what.2.1
  simp (disch := first | omega | (simp only [Qn] <;> omega)) only [go_sem, d00, d0, decide_true, st, bxH_eq, List.getElem?_cons_zero, List.getElem?_cons_succ]
  have fxs := fs.trans (bxH_fr hs (S 0).1 us)
  have bs := bxH_bx hs (N := (S 0).1) (A := (S 0).2) hus
  clear st hus
  have ns := fs.next
  generalize hs.next = is at *
  generalize bxH hs (S 0).1 us = ks at *
  refine Wp_loop (fun m vars h3 => ∃ k : Nat, (∃ g : Nat → V, vars = [vl, .int .i64 (n : Int), .int .i64 x, .int .i64 y, g 4, .ptr is 0, .int .i64 0, .int .i64 (k : Int), g 8, g 9, g 10, g 11, g 12, g 13, g 14, g 15, g 16, g 17, g 18, g 19, g 20, g 21, g 22, g 23, g 24, g 25, g 26, g 27, g 28, g 29, g 30, g 31, g 32, g 33, g 34, g 35, g 36, g 37, g 38, g 39]) ∧ k ≤ n ∧ Bx h3 is (S k) ∧ Fr hq h3 ∧ m = n - k) n
    ⟨0, ex_junk rfl, Nat.zero_le _, bs, fxs, rfl⟩ ?_
  clear bs fs fxs
  rintro m vars h3 ⟨k, ⟨g, rfl⟩, hk, bs, fr3, rfl⟩
  have n3 : is < h3.next := by obtain ⟨_, _, _, h⟩ := bs; exact h
  simp (disch := first | omega | (simp only [Qn] <;> omega)) only [go_sem]
  by_cases hlt : (k : Int) < (n : Int)
  · rw [decide_eq_true hlt]
    obtain ⟨e1, e2, e3, e4⟩ := f1 k (by omega)
    simp (disch := first | omega | (simp only [Qn] <;> omega)) only [go_sem]
    refine (Root_ok n k h3).mono ?_
    rintro v ha ⟨w, rfl, ⟨ua, rfl, hua, -⟩, fa⟩
    simp only [e1] at hua ⊢
    have st := fun hh id => stV_agg2 hh id 0 (v := .int .i64 (R k).1) (u := ua) rfl hua.what.2.1
    simp (disch := first | omega | (simp only [Qn] <;> omega)) only [go_sem, d00, d0, decide_true, st, bxH_eq, List.getElem?_cons_zero, List.getElem?_cons_succ]
    have fxa := fa.trans (bxH_fr ha (R k).1 ua)
    have ba := bxH_bx ha (N := (R k).1) (A := (R k).2) hua
    clear st hua
    have na := fa.next
    generalize ha.next = ia at *
    generalize bxH ha (R k).1 ua = ka at *
    replace bs := bs.mono fxa
    obtain ⟨as, rs, qs⟩ := bs.cv
    obtain ⟨aa, ra, qa⟩ := ba.cv
    simp (disch := first | omega | (simp only [Qn] <;> omega)) only [go_sem, d00, d0, decide_true, rs, ra]
    refine (add_ok _ _ (S k) (R k) _ qs qa (lS k) e2).mono ?_
    rintro v ht ⟨w, rfl, ⟨ut, rfl, hut, hwt⟩, ft⟩
    simp only [e3] at hut ⊢
    have st := fun hh id => stV_agg2 hh id 0 (v := .int .i64 (S (k + 1)).1) (u := ut) rfl hut.what.2.1
    simp (disch := first | omega | (simp only [Qn] <;> omega)) only [go_sem, d00, d0, decide_true, st, bxH_eq, List.getElem?_cons_zero, List.getElem?_cons_succ]
    have fxt := ft.trans (bxH_fr ht (S (k + 1)).1 ut)
    have gt : (bxH ht (S (k + 1)).1 ut).get ht.next = some (.cells false [.int .i64 (S (k + 1)).1, ut]) := H.get_set_same ..
    have nt := ft.next
    have nu : (bxH ht (S (k + 1)).1 ut).next = ht.next + 1 := by rw [bxH, H.next_set, H.next_new]
    replace hut := hut.mono (bxH_fr ht (S (k + 1)).1 ut)
    have na := fxa.next
    generalize ht.next = it at *
    generalize bxH ht (S (k + 1)).1 ut = kt at *
    have bs' := bs.mono fxt
    replace ba := ba.mono fxt
    obtain ⟨aa, ra, qa⟩ := ba.cv
    have hbl := bldV_two (z1 := .int .i64 0) (z2 := .nils) (v := .int .i64 1) (u := .sl kt.next 0 1 (.kn 1)) rfl rfl rfl rfl
    simp (disch := first | omega | (simp only [Qn] <;> omega)) only [go_sem, d00, d0, decide_true, ra, bls_one, hbl]
    refine (lawsame_ok _ _ (R k) (1, [1]) _ (qa.mono (lit_fr _ [1])) ⟨_, rfl, lit_si _ [1] 1 rfl⟩ e2 (by decide)).mono ?_
    rintro v k8 ⟨rfl, f8⟩
    have f9 : Fr kt k8 := (lit_fr _ [1]).trans f8
    have dk : decide ((k : Int) = 0) = decide (k = 0) := by rw [decide_eq_decide]; omega
    have rt := row_two ((f9.get it (by omega)).trans gt)
    obtain ⟨us, gs, ss, ls⟩ := bs'.mono f9
    simp (disch := first | omega | (simp only [Qn] <;> omega)) only [go_sem, d00, d0, decide_true, e4, dk, beq_self_eq_true, bne_self_eq_false, Bool.not_true, rt, st, gs]
    rw [show (k : Int) + 1 = ((k + 1 : Nat) : Int) from by omega]
    exact ⟨n - (k + 1), by omega, k + 1, ex_junk rfl, by omega, Bx.reset (hut.mono f9) hwt (by omega) (by have := f9.next; omega), (((fr3.trans fxa).trans fxt).trans f9).set (by omega) _, rfl⟩
  rw [decide_eq_false hlt]
  obtain rfl : k = n := by omega
  clear f1
  obtain ⟨A, B, C, gA, gB, gC, gM, lA, lB, lC⟩ := roots_facts hn1 hn2 x y
  simp (disch := first | omega | (simp only [Qn] <;> omega)) only [go_sem]
  refine iteW_dec (fun hw => ?_) (fun hw => ?_)
  · rw [if_pos (by omega)] at fn
    rw [fn] at bs
    simp (disch := first | omega | (simp only [Qn] <;> omega)) only [go_sem]
    refine (Root_ok k x _).mono ?_
    rintro v hA ⟨w, rfl, ⟨uA, rfl, huA, -⟩, fA⟩
    simp only [gA] at huA ⊢
    have st := fun hh id => stV_agg2 hh id 0 (v := .int .i64 (A).1) (u := uA) rfl huA.what.2.1
    simp (disch := first | omega | (simp only [Qn] <;> omega)) only [go_sem, d00, d0, decide_true, st, bxH_eq, List.getElem?_cons_zero, List.getElem?_cons_succ]
    have fxA := fA.trans (bxH_fr hA (A).1 uA)
    have bA := bxH_bx hA (N := (A).1) (A := (A).2) huA
    clear st huA
    have nA := fA.next
    generalize hA.next = iA at *
    generalize bxH hA (A).1 uA = kA at *
    replace bs := bs.mono fxA
    refine (Root_ok k y _).mono ?_
    rintro v hB ⟨w, rfl, ⟨uB, rfl, huB, -⟩, fB⟩
    simp only [gB] at huB ⊢
    have st := fun hh id => stV_agg2 hh id 0 (v := .int .i64 (B).1) (u := uB) rfl huB.what.2.1
    simp (disch := first | omega | (simp only [Qn] <;> omega)) only [go_sem, d00, d0, decide_true, st, bxH_eq, List.getElem?_cons_zero, List.getElem?_cons_succ]
    have fxB := fB.trans (bxH_fr hB (B).1 uB)
    have bB := bxH_bx hB (N := (B).1) (A := (B).2) huB
    clear st huB
    have nB := fB.next
    generalize hB.next = iB at *
    generalize bxH hB (B).1 uB = kB at *
    replace bs := bs.mono fxB
    replace bA := bA.mono fxB
    refine (Root_ok k (x + y) _).mono ?_
    rintro v hC ⟨w, rfl, ⟨uC, rfl, huC, -⟩, fC⟩
    simp only [gC] at huC ⊢
    have st := fun hh id => stV_agg2 hh id 0 (v := .int .i64 (C).1) (u := uC) rfl huC.what.2.1
    simp (disch := first | omega | (simp only [Qn] <;> omega)) only [go_sem, d00, d0, decide_true, st, bxH_eq, List.getElem?_cons_zero, List.getElem?_cons_succ]
    have fxC := fC.trans (bxH_fr hC (C).1 uC)
    have bC := bxH_bx hC (N := (C).1) (A := (C).2) huC
    clear st huC
    have nC := fC.next
    generalize hC.next = iC at *
    generalize bxH hC (C).1 uC = kC at *
    replace bs := bs.mono fxC
    replace bA := bA.mono fxC
    replace bB := bB.mono fxC
    obtain ⟨aA, rA, qA⟩ := bA.cv
    obtain ⟨aB, rB, qB⟩ := bB.cv
    simp (disch := first | omega | (simp only [Qn] <;> omega)) only [go_sem, d00, d0, decide_true, rA, rB]
    refine (mul_ok _ _ A B _ qA qB lA lB).mono ?_
    rintro v hD ⟨w, rfl, ⟨uD, rfl, huD, -⟩, fD⟩
    simp only [gM] at huD ⊢
    have st := fun hh id => stV_agg2 hh id 0 (v := .int .i64 (C).1) (u := uD) rfl huD.what.2.1
    simp (disch := first | omega | (simp only [Qn] <;> omega)) only [go_sem, d00, d0, decide_true, st, bxH_eq, List.getElem?_cons_zero, List.getElem?_cons_succ]
    have fxD := fD.trans (bxH_fr hD (C).1 uD)
    have bD := bxH_bx hD (N := (C).1) (A := (C).2) huD
    clear st huD
    have nD := fD.next
    generalize hD.next = iD at *
    generalize bxH hD (C).1 uD = kD at *
    replace bs := bs.mono fxD
    replace bC := bC.mono fxD
    have fr4 := (((fr3.trans fxA).trans fxB).trans fxC).trans fxD
    have hc2 := hc.mono fr4
    have hbl := bldV_fst (z1 := .nils) (z2 := .int .i64 0) (v := vl) hc2.what.1 hc2.what.2.1
    have hbo := fun hh => boxV_agg2 hh (v := vl) (u := .int .i64 0) hc2.what.2.1 rfl
    simp (disch := first | omega | (simp only [Qn] <;> omega)) only [go_sem, hbl, hbo]
    have hfz : Fr kD (kD.new (.cells false [vl, .int .i64 0])) := (Fr.refl kD).new _
    have hgz : (kD.new (.cells false [vl, .int .i64 0])).get kD.next = some (.cells false [vl, .int .i64 0]) := H.get_new_same ..
    have hnz : (kD.new (.cells false [vl, .int .i64 0])).next = kD.next + 1 := H.next_new ..
    generalize kD.new (.cells false [vl, .int .i64 0]) = hz at *
    have ht : Tk hz kD.next l := ⟨vl, 0, hgz, hc2.mono hfz, fun id off len c e => by
      rcases hc2 with ⟨h0, _⟩ | ⟨_, _, _, _, _, _, h0, _, h3, _⟩
      · rw [h0] at e; cases e
      · rw [h0] at e; cases e; exact h3, Nat.zero_le _, by omega⟩
    refine (small_ok kD.next l k hz ht hl hn1 hn2).mono ?_
    rintro v hV ⟨cv, hcv, w, rfl, ⟨uV, rfl, huV, -⟩, -, fV⟩
    obtain ⟨N, T, t1, t2, t3, t4, t5, t6, t7⟩ := trace_facts hdv hcv
    have lV : Ln (numF k cv) := num_len (c := cv) hn1 hn2 (by omega)
    obtain ⟨VV, eV⟩ : ∃ X, numF k cv = X := ⟨_, rfl⟩
    simp only [eV] at huV t1 t7 lV ⊢
    have st := fun hh id => stV_agg2 hh id 0 (v := .int .i64 VV.1) (u := uV) rfl huV.what.2.1
    simp (disch := first | omega | (simp only [Qn] <;> omega)) only [go_sem, d00, d0, decide_true, st, bxH_eq, List.getElem?_cons_zero, List.getElem?_cons_succ]
    have fxV := (Fx.fr hfz (Nat.le_refl _) fV).trans (bxH_fr hV VV.1 uV)
    have bV := bxH_bx hV (N := VV.1) (A := VV.2) huV
    clear st huV fV ht hbl hbo hfz hgz hc2
    generalize hV.next = iV at *
    generalize bxH hV VV.1 uV = kV at *
    replace bs := bs.mono fxV
    replace bC := bC.mono fxV
    replace bD := bD.mono fxV
    obtain ⟨as, rs, qs⟩ := bs.cv
    simp (disch := first | omega | (simp only [Qn] <;> omega)) only [go_sem, d00, d0, decide_true, rs, bls_one]
    refine (is_ok _ _ (1, [1]) 0 1 [1] _ (qs.mono (lit_fr _ [1])) (lit_si _ [1] 1 rfl) (by decide) (by decide)).mono ?_
    rintro v k8 ⟨rfl, f8⟩
    rw [show decide ((0 : Int) = 0 ∧ ((1, [1]) : Int × List Int) = (1, [1])) = true from by decide]
    have f9 := (lit_fr kV [1]).trans f8
    replace bC := bC.mono f9
    replace bD := bD.mono f9
    replace bV := bV.mono f9
    obtain ⟨aC, rC, qC⟩ := bC.cv
    obtain ⟨aD, rD, qD⟩ := bD.cv
    simp (disch := first | omega | (simp only [Qn] <;> omega)) only [go_sem, d00, d0, decide_true, rC, rD]
    refine (lawsame_ok _ _ C C _ qC qD lC lC).mono ?_
    rintro v k9 ⟨rfl, f10⟩
    replace bV := bV.mono f10
    obtain ⟨ux, gx, sx, lx⟩ := bV
    have cx : k9.cell iV 0 = some (.int .i64 (N : Int)) := by rw [H.cell_of gx, ← t1]; rfl
    have dn1 : decide ((N : Int) < 1) = false := decide_eq_false (by omega)
    have dn2 : decide (120 < (N : Int)) = false := decide_eq_false (by omega)
    simp (disch := first | omega | (simp only [Qn] <;> omega)) only [go_sem, d00, d0, decide_true, cx, dn1, dn2]
    have bV : Bx k9 iV VV := ⟨ux, gx, sx, lx⟩
    refine (Int_ok 0 k9).mono ?_
    rintro v hm ⟨w, rfl, ⟨um, rfl, hum, -⟩, fm⟩
    simp only [t4] at hum ⊢
    have st := fun hh id => stV_agg2 hh id 0 (v := .int .i64 (T 0).1) (u := um) rfl hum.what.2.1
    simp (disch := first | omega | (simp only [Qn] <;> omega)) only [go_sem, d00, d0, decide_true, st, bxH_eq, List.getElem?_cons_zero, List.getElem?_cons_succ]
    have fxm := fm.trans (bxH_fr hm (T 0).1 um)
    have bm := bxH_bx hm (N := (T 0).1) (A := (T 0).2) hum
    clear st hum
    have nm := fm.next
    generalize hm.next = im at *
    generalize bxH hm (T 0).1 um = km at *
    refine Wp_loop (fun m vars h3 => ∃ j : Nat, (∃ g : Nat → V, vars = [g 0, g 1, g 2, g 3, g 4, g 5, g 6, g 7, g 8, g 9, g 10, g 11, g 12, g 13, g 14, g 15, g 16, g 17, g 18, g 19, g 20, .ptr iV 0, g 22, .ptr im 0, .int .i64 0, .int .i64 (j : Int), g 26, g 27, g 28, g 29, g 30, g 31, g 32, g 33, g 34, g 35, g 36, g 37, g 38, g 39]) ∧ j ≤ N ∧ Bx h3 im (T j) ∧ Fr k9 h3 ∧ m = N - j) N
      ⟨0, ex_junk rfl, Nat.zero_le _, bm, fxm, rfl⟩ ?_
    clear bm fm fxm cx
    rintro m vars h3 ⟨j, ⟨g, rfl⟩, hj, bm, fr3, rfl⟩
    have n3 : im < h3.next := by obtain ⟨_, _, _, h⟩ := bm; exact h
    have cx : h3.cell iV 0 = some (.int .i64 (N : Int)) := by rw [H.cell_of ((fr3.get iV lx).trans gx), ← t1]; rfl
    have bV := bV.mono fr3
    simp (disch := first | omega | (simp only [Qn] <;> omega)) only [go_sem, cx]
    by_cases hjt : (j : Int) < (N : Int)
    · rw [decide_eq_true hjt]
      obtain ⟨aV, rV, qV⟩ := bV.cv
      simp (disch := first | omega | (simp only [Qn] <;> omega)) only [go_sem, d00, d0, decide_true, rV]
      rcases t7 j (by omega) with ⟨W, e1, e2, e3⟩ | ⟨W, e1, e2, e3⟩
      · skip
        refine (gal_ok _ VV (j : Int) _ qV lV).mono ?_
        rintro v hw ⟨w, rfl, ⟨uw, rfl, huw, -⟩, fw⟩
        simp only [e1] at huw ⊢
        have st := fun hh id => stV_agg2 hh id 0 (v := .int .i64 (W).1) (u := uw) rfl huw.what.2.1
        simp (disch := first | omega | (simp only [Qn] <;> omega)) only [go_sem, d00, d0, decide_true, st, bxH_eq, List.getElem?_cons_zero, List.getElem?_cons_succ]
        have fxw := fw.trans (bxH_fr hw (W).1 uw)
        have bw := bxH_bx hw (N := (W).1) (A := (W).2) huw
        clear st huw
        have nw := fw.next
        generalize hw.next = iw at *
        generalize bxH hw (W).1 uw = kw at *
        replace bm := bm.mono fxw
        try simp (disch := first | omega | (simp only [Qn] <;> omega)) only [go_sem, d18]
        rw [show (j : Int) + 1 = ((j + 1 : Nat) : Int) from by omega]
        exact ⟨N - (j + 1), by omega, j + 1, ex_junk rfl, by omega, by rw [e3]; exact bm, fr3.trans fxw, rfl⟩
      · skip
        refine (gal_ok _ VV (j : Int) _ qV lV).mono ?_
        rintro v hw ⟨w, rfl, ⟨uw, rfl, huw, -⟩, fw⟩
        simp only [e1] at huw ⊢
        have st := fun hh id => stV_agg2 hh id 0 (v := .int .i64 (W).1) (u := uw) rfl huw.what.2.1
        simp (disch := first | omega | (simp only [Qn] <;> omega)) only [go_sem, d00, d0, decide_true, st, bxH_eq, List.getElem?_cons_zero, List.getElem?_cons_succ]
        have fxw := fw.trans (bxH_fr hw (W).1 uw)
        have bw := bxH_bx hw (N := (W).1) (A := (W).2) huw
        clear st huw
        have nw := fw.next
        generalize hw.next = iw at *
        generalize bxH hw (W).1 uw = kw at *
        replace bm := bm.mono fxw
        simp (disch := first | omega | (simp only [Qn] <;> omega)) only [go_sem, d018]
        obtain ⟨am, rm, qm⟩ := bm.cv
        obtain ⟨aw, rw, qw⟩ := bw.cv
        simp (disch := first | omega | (simp only [Qn] <;> omega)) only [go_sem, d00, d0, decide_true, rm, rw]
        refine (add_ok _ _ (T j) W _ qm qw (t5 j hj) e2).mono ?_
        rintro v hu ⟨w, rfl, ⟨uu, rfl, huu, hwu⟩, fu⟩
        simp only [e3] at huu ⊢
        have st := fun hh id => stV_agg2 hh id 0 (v := .int .i64 (T (j + 1)).1) (u := uu) rfl huu.what.2.1
        simp (disch := first | omega | (simp only [Qn] <;> omega)) only [go_sem, d00, d0, decide_true, st, bxH_eq, List.getElem?_cons_zero, List.getElem?_cons_succ]
        have fxu := fu.trans (bxH_fr hu (T (j + 1)).1 uu)
        have gu : (bxH hu (T (j + 1)).1 uu).get hu.next = some (.cells false [.int .i64 (T (j + 1)).1, uu]) := H.get_set_same ..
        have nu : (bxH hu (T (j + 1)).1 uu).next = hu.next + 1 := by rw [bxH, H.next_set, H.next_new]
        replace huu := huu.mono (bxH_fr hu (T (j + 1)).1 uu)
        have nw2 := fxw.next
        generalize hu.next = iu at *
        generalize bxH hu (T (j + 1)).1 uu = ku at *
        obtain ⟨us, gs, ss, ls⟩ := bm.mono fxu
        have rt := row_two gu
        simp (disch := first | omega | (simp only [Qn] <;> omega)) only [go_sem, d00, d0, decide_true, rt, st, gs]
        rw [show (j : Int) + 1 = ((j + 1 : Nat) : Int) from by omega]
        exact ⟨N - (j + 1), by omega, j + 1, ex_junk rfl, by omega, Bx.reset huu hwu (by omega) (by omega), ((fr3.trans fxw).trans fxu).set (by omega) _, rfl⟩
    · rw [decide_eq_false hjt]
      obtain rfl : j = N := by omega
      simp (disch := first | omega | (simp only [Qn] <;> omega)) only [go_sem]
      obtain ⟨am, rm, qm⟩ := bm.cv
      simp (disch := first | omega | (simp only [Qn] <;> omega)) only [go_sem, d00, d0, decide_true, rm]
      refine (rat_ok _ (T j) _ qm (t5 j hj)).mono ?_
      rintro v hr ⟨rfl, -⟩
      simp (disch := first | omega | (simp only [Qn] <;> omega)) only [go_sem, t6, List.getElem?_cons_zero, List.getElem?_cons_succ]
  · rw [if_neg (by omega)] at fn
    rw [fn] at bs
    simp (disch := first | omega | (simp only [Qn] <;> omega)) only [go_sem]
    refine (Root_ok k x _).mono ?_
    rintro v hA ⟨w, rfl, ⟨uA, rfl, huA, -⟩, fA⟩
    simp only [gA] at huA ⊢
    have st := fun hh id => stV_agg2 hh id 0 (v := .int .i64 (A).1) (u := uA) rfl huA.what.2.1
    simp (disch := first | omega | (simp only [Qn] <;> omega)) only [go_sem, d00, d0, decide_true, st, bxH_eq, List.getElem?_cons_zero, List.getElem?_cons_succ]
    have fxA := fA.trans (bxH_fr hA (A).1 uA)
    have bA := bxH_bx hA (N := (A).1) (A := (A).2) huA
    clear st huA
    have nA := fA.next
    generalize hA.next = iA at *
    generalize bxH hA (A).1 uA = kA at *
    replace bs := bs.mono fxA
    refine (Root_ok k y _).mono ?_
    rintro v hB ⟨w, rfl, ⟨uB, rfl, huB, -⟩, fB⟩
    simp only [gB] at huB ⊢
    have st := fun hh id => stV_agg2 hh id 0 (v := .int .i64 (B).1) (u := uB) rfl huB.what.2.1
    simp (disch := first | omega | (simp only [Qn] <;> omega)) only [go_sem, d00, d0, decide_true, st, bxH_eq, List.getElem?_cons_zero, List.getElem?_cons_succ]
    have fxB := fB.trans (bxH_fr hB (B).1 uB)
    have bB := bxH_bx hB (N := (B).1) (A := (B).2) huB
    clear st huB
    have nB := fB.next
    generalize hB.next = iB at *
    generalize bxH hB (B).1 uB = kB at *
    replace bs := bs.mono fxB
    replace bA := bA.mono fxB
    refine (Root_ok k (x + y) _).mono ?_
    rintro v hC ⟨w, rfl, ⟨uC, rfl, huC, -⟩, fC⟩
    simp only [gC] at huC ⊢
    have st := fun hh id => stV_agg2 hh id 0 (v := .int .i64 (C).1) (u := uC) rfl huC.what.2.1
    simp (disch := first | omega | (simp only [Qn] <;> omega)) only [go_sem, d00, d0, decide_true, st, bxH_eq, List.getElem?_cons_zero, List.getElem?_cons_succ]
    have fxC := fC.trans (bxH_fr hC (C).1 uC)
    have bC := bxH_bx hC (N := (C).1) (A := (C).2) huC
    clear st huC
    have nC := fC.next
    generalize hC.next = iC at *
    generalize bxH hC (C).1 uC = kC at *
    replace bs := bs.mono fxC
    replace bA := bA.mono fxC
    replace bB := bB.mono fxC
    obtain ⟨aA, rA, qA⟩ := bA.cv
    obtain ⟨aB, rB, qB⟩ := bB.cv
    simp (disch := first | omega | (simp only [Qn] <;> omega)) only [go_sem, d00, d0, decide_true, rA, rB]
    refine (mul_ok _ _ A B _ qA qB lA lB).mono ?_
    rintro v hD ⟨w, rfl, ⟨uD, rfl, huD, -⟩, fD⟩
    simp only [gM] at huD ⊢
    have st := fun hh id => stV_agg2 hh id 0 (v := .int .i64 (C).1) (u := uD) rfl huD.what.2.1
    simp (disch := first | omega | (simp only [Qn] <;> omega)) only [go_sem, d00, d0, decide_true, st, bxH_eq, List.getElem?_cons_zero, List.getElem?_cons_succ]
    have fxD := fD.trans (bxH_fr hD (C).1 uD)
    have bD := bxH_bx hD (N := (C).1) (A := (C).2) huD
    clear st huD
    have nD := fD.next
    generalize hD.next = iD at *
    generalize bxH hD (C).1 uD = kD at *
    replace bs := bs.mono fxD
    replace bC := bC.mono fxD
    have fr4 := (((fr3.trans fxA).trans fxB).trans fxC).trans fxD
    have hc2 := hc.mono fr4
    have hbl := bldV_fst (z1 := .nils) (z2 := .int .i64 0) (v := vl) hc2.what.1 hc2.what.2.1
    have hbo := fun hh => boxV_agg2 hh (v := vl) (u := .int .i64 0) hc2.what.2.1 rfl
    simp (disch := first | omega | (simp only [Qn] <;> omega)) only [go_sem, hbl, hbo]
    have hfz : Fr kD (kD.new (.cells false [vl, .int .i64 0])) := (Fr.refl kD).new _
    have hgz : (kD.new (.cells false [vl, .int .i64 0])).get kD.next = some (.cells false [vl, .int .i64 0]) := H.get_new_same ..
    have hnz : (kD.new (.cells false [vl, .int .i64 0])).next = kD.next + 1 := H.next_new ..
    generalize kD.new (.cells false [vl, .int .i64 0]) = hz at *
    have ht : Tk hz kD.next l := ⟨vl, 0, hgz, hc2.mono hfz, fun id off len c e => by
      rcases hc2 with ⟨h0, _⟩ | ⟨_, _, _, _, _, _, h0, _, h3, _⟩
      · rw [h0] at e; cases e
      · rw [h0] at e; cases e; exact h3, Nat.zero_le _, by omega⟩
    refine (small_ok kD.next l k hz ht hl hn1 hn2).mono ?_
    rintro v hV ⟨cv, hcv, w, rfl, ⟨uV, rfl, huV, -⟩, -, fV⟩
    obtain ⟨N, T, t1, t2, t3, t4, t5, t6, t7⟩ := trace_facts hdv hcv
    have lV : Ln (numF k cv) := num_len (c := cv) hn1 hn2 (by omega)
    obtain ⟨VV, eV⟩ : ∃ X, numF k cv = X := ⟨_, rfl⟩
    simp only [eV] at huV t1 t7 lV ⊢
    have st := fun hh id => stV_agg2 hh id 0 (v := .int .i64 VV.1) (u := uV) rfl huV.what.2.1
    simp (disch := first | omega | (simp only [Qn] <;> omega)) only [go_sem, d00, d0, decide_true, st, bxH_eq, List.getElem?_cons_zero, List.getElem?_cons_succ]
    have fxV := (Fx.fr hfz (Nat.le_refl _) fV).trans (bxH_fr hV VV.1 uV)
    have bV := bxH_bx hV (N := VV.1) (A := VV.2) huV
    clear st huV fV ht hbl hbo hfz hgz hc2
    generalize hV.next = iV at *
    generalize bxH hV VV.1 uV = kV at *
    replace bs := bs.mono fxV
    replace bC := bC.mono fxV
    replace bD := bD.mono fxV
    obtain ⟨as, rs, qs⟩ := bs.cv
    simp (disch := first | omega | (simp only [Qn] <;> omega)) only [go_sem, d00, d0, decide_true, rs, bls_one]
    refine (is_ok _ _ (1, [0]) 0 1 [0] _ (qs.mono (lit_fr _ [0])) (lit_si _ [0] 1 rfl) (by decide) (by decide)).mono ?_
    rintro v k8 ⟨rfl, f8⟩
    rw [show decide ((0 : Int) = 0 ∧ ((1, [0]) : Int × List Int) = (1, [0])) = true from by decide]
    have f9 := (lit_fr kV [0]).trans f8
    replace bC := bC.mono f9
    replace bD := bD.mono f9
    replace bV := bV.mono f9
    obtain ⟨aC, rC, qC⟩ := bC.cv
    obtain ⟨aD, rD, qD⟩ := bD.cv
    simp (disch := first | omega | (simp only [Qn] <;> omega)) only [go_sem, d00, d0, decide_true, rC, rD]
    refine (lawsame_ok _ _ C C _ qC qD lC lC).mono ?_
    rintro v k9 ⟨rfl, f10⟩
    replace bV := bV.mono f10
    obtain ⟨ux, gx, sx, lx⟩ := bV
    have cx : k9.cell iV 0 = some (.int .i64 (N : Int)) := by rw [H.cell_of gx, ← t1]; rfl
    have dn1 : decide ((N : Int) < 1) = false := decide_eq_false (by omega)
    have dn2 : decide (120 < (N : Int)) = false := decide_eq_false (by omega)
    simp (disch := first | omega | (simp only [Qn] <;> omega)) only [go_sem, d00, d0, decide_true, cx, dn1, dn2]
    have bV : Bx k9 iV VV := ⟨ux, gx, sx, lx⟩
    refine (Int_ok 0 k9).mono ?_
    rintro v hm ⟨w, rfl, ⟨um, rfl, hum, -⟩, fm⟩
    simp only [t4] at hum ⊢
    have st := fun hh id => stV_agg2 hh id 0 (v := .int .i64 (T 0).1) (u := um) rfl hum.what.2.1
    simp (disch := first | omega | (simp only [Qn] <;> omega)) only [go_sem, d00, d0, decide_true, st, bxH_eq, List.getElem?_cons_zero, List.getElem?_cons_succ]
    have fxm := fm.trans (bxH_fr hm (T 0).1 um)
    have bm := bxH_bx hm (N := (T 0).1) (A := (T 0).2) hum
    clear st hum
    have nm := fm.next
    generalize hm.next = im at *
    generalize bxH hm (T 0).1 um = km at *
    refine Wp_loop (fun m vars h3 => ∃ j : Nat, (∃ g : Nat → V, vars = [g 0, g 1, g 2, g 3, g 4, g 5, g 6, g 7, g 8, g 9, g 10, g 11, g 12, g 13, g 14, g 15, g 16, g 17, g 18, g 19, g 20, .ptr iV 0, g 22, .ptr im 0, .int .i64 0, .int .i64 (j : Int), g 26, g 27, g 28, g 29, g 30, g 31, g 32, g 33, g 34, g 35, g 36, g 37, g 38, g 39]) ∧ j ≤ N ∧ Bx h3 im (T j) ∧ Fr k9 h3 ∧ m = N - j) N
      ⟨0, ex_junk rfl, Nat.zero_le _, bm, fxm, rfl⟩ ?_
    clear bm fm fxm cx
    rintro m vars h3 ⟨j, ⟨g, rfl⟩, hj, bm, fr3, rfl⟩
    have n3 : im < h3.next := by obtain ⟨_, _, _, h⟩ := bm; exact h
    have cx : h3.cell iV 0 = some (.int .i64 (N : Int)) := by rw [H.cell_of ((fr3.get iV lx).trans gx), ← t1]; rfl
    have bV := bV.mono fr3
    simp (disch := first | omega | (simp only [Qn] <;> omega)) only [go_sem, cx]
    by_cases hjt : (j : Int) < (N : Int)
    · rw [decide_eq_true hjt]
      obtain ⟨aV, rV, qV⟩ := bV.cv
      simp (disch := first | omega | (simp only [Qn] <;> omega)) only [go_sem, d00, d0, decide_true, rV]
      rcases t7 j (by omega) with ⟨W, e1, e2, e3⟩ | ⟨W, e1, e2, e3⟩
      · skip
        refine (gal_ok _ VV (j : Int) _ qV lV).mono ?_
        rintro v hw ⟨w, rfl, ⟨uw, rfl, huw, -⟩, fw⟩
        simp only [e1] at huw ⊢
        have st := fun hh id => stV_agg2 hh id 0 (v := .int .i64 (W).1) (u := uw) rfl huw.what.2.1
        simp (disch := first | omega | (simp only [Qn] <;> omega)) only [go_sem, d00, d0, decide_true, st, bxH_eq, List.getElem?_cons_zero, List.getElem?_cons_succ]
        have fxw := fw.trans (bxH_fr hw (W).1 uw)
        have bw := bxH_bx hw (N := (W).1) (A := (W).2) huw
        clear st huw
        have nw := fw.next
        generalize hw.next = iw at *
        generalize bxH hw (W).1 uw = kw at *
        replace bm := bm.mono fxw
        try simp (disch := first | omega | (simp only [Qn] <;> omega)) only [go_sem, d18]
        rw [show (j : Int) + 1 = ((j + 1 : Nat) : Int) from by omega]
        exact ⟨N - (j + 1), by omega, j + 1, ex_junk rfl, by omega, by rw [e3]; exact bm, fr3.trans fxw, rfl⟩
      · skip
        refine (gal_ok _ VV (j : Int) _ qV lV).mono ?_
        rintro v hw ⟨w, rfl, ⟨uw, rfl, huw, -⟩, fw⟩
        simp only [e1] at huw ⊢
        have st := fun hh id => stV_agg2 hh id 0 (v := .int .i64 (W).1) (u := uw) rfl huw.what.2.1
        simp (disch := first | omega | (simp only [Qn] <;> omega)) only [go_sem, d00, d0, decide_true, st, bxH_eq, List.getElem?_cons_zero, List.getElem?_cons_succ]
        have fxw := fw.trans (bxH_fr hw (W).1 uw)
        have bw := bxH_bx hw (N := (W).1) (A := (W).2) huw
        clear st huw
        have nw := fw.next
        generalize hw.next = iw at *
        generalize bxH hw (W).1 uw = kw at *
        replace bm := bm.mono fxw
        simp (disch := first | omega | (simp only [Qn] <;> omega)) only [go_sem, d018]
        obtain ⟨am, rm, qm⟩ := bm.cv
        obtain ⟨aw, rw, qw⟩ := bw.cv
        simp (disch := first | omega | (simp only [Qn] <;> omega)) only [go_sem, d00, d0, decide_true, rm, rw]
        refine (add_ok _ _ (T j) W _ qm qw (t5 j hj) e2).mono ?_
        rintro v hu ⟨w, rfl, ⟨uu, rfl, huu, hwu⟩, fu⟩
        simp only [e3] at huu ⊢
        have st := fun hh id => stV_agg2 hh id 0 (v := .int .i64 (T (j + 1)).1) (u := uu) rfl huu.what.2.1
        simp (disch := first | omega | (simp only [Qn] <;> omega)) only [go_sem, d00, d0, decide_true, st, bxH_eq, List.getElem?_cons_zero, List.getElem?_cons_succ]
        have fxu := fu.trans (bxH_fr hu (T (j + 1)).1 uu)
        have gu : (bxH hu (T (j + 1)).1 uu).get hu.next = some (.cells false [.int .i64 (T (j + 1)).1, uu]) := H.get_set_same ..
        have nu : (bxH hu (T (j + 1)).1 uu).next = hu.next + 1 := by rw [bxH, H.next_set, H.next_new]
        replace huu := huu.mono (bxH_fr hu (T (j + 1)).1 uu)
        have nw2 := fxw.next
        generalize hu.next = iu at *
        generalize bxH hu (T (j + 1)).1 uu = ku at *
        obtain ⟨us, gs, ss, ls⟩ := bm.mono fxu
        have rt := row_two gu
        simp (disch := first | omega | (simp only [Qn] <;> omega)) only [go_sem, d00, d0, decide_true, rt, st, gs]
        rw [show (j : Int) + 1 = ((j + 1 : Nat) : Int) from by omega]
        exact ⟨N - (j + 1), by omega, j + 1, ex_junk rfl, by omega, Bx.reset huu hwu (by omega) (by omega), ((fr3.trans fxw).trans fxu).set (by omega) _, rfl⟩
    · rw [decide_eq_false hjt]
      obtain rfl : j = N := by omega
      simp (disch := first | omega | (simp only [Qn] <;> omega)) only [go_sem]
      obtain ⟨am, rm, qm⟩ := bm.cv
      simp (disch := first | omega | (simp only [Qn] <;> omega)) only [go_sem, d00, d0, decide_true, rm]
      refine (rat_ok _ (T j) _ qm (t5 j hj)).mono ?_
      rintro v hr ⟨rfl, -⟩
      simp (disch := first | omega | (simp only [Qn] <;> omega)) only [go_sem, t6, List.getElem?_cons_zero, List.getElem?_cons_succ]
end
end Go.Proofs.Ythfabknpogbcaaa
