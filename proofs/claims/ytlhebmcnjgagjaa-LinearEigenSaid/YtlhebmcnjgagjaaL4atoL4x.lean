/- Layer 4: small functions, primes. Layer 4: Min, Max, Check. Layer 4: zip, plus. Layer 4: valid matrices; apply. Layer 4: rows that are appended. Layer 4: the product. Layer 4: fit, Mul. Layer 4: Mul. Layer 4: residue, the identity. Layer 4: One. Layer 4: Scale. Layer 4: Apply. Layer 4: zip of rows. Layer 4: Add. Layer 4: rows that grow in their places. Layer 4: Turn. Layer 4: Same, the laws' helpers; the reference's primes. Layer 4: matrices that are read, and matrices that are filled; the reference's blank, one, One. Layer 4: the reference's one, One. Layer 4: the reference's Check, both. Layer 4: the reference's mul, Mul. Layer 4: the reference's Mul, Add. Layer 4: the reference's Scale, Turn. Layer 4: the reference's Apply. -/
import Derived.Test.YtlhebmcnjgagjaaC5code
import Derived.Test.YtlhebmcnjgagjaaSm
/- Layer 4: small functions, primes. -/
namespace Go.Proofs.Ytlhebmcnjgagjaa
open Go Go.Ay
set_option maxRecDepth 100000
/-- A copy: a block of its own. -/
def Copy (h : H) (l : List Int) (v : V) (h' : H) : Prop := Own h' v 1 (ints l) h.next ∧ Fr h h' ∧ (0 < l.length → ∃ id, v = .sl id 0 l.length (.un 1) ∧ h.next ≤ id ∧ id < h'.next ∧ h'.get id = some (.cells false (ints l)))
theorem copy_of {h : H} {l : List Int} {v : V} (hs : SI h v l) (hl : l.length < 1000000) : ∃ v' h', appP (h.new (.cells false [])) 1 8 (.sl h.next 0 0 (.kn 0)) v = some (v', h') ∧ Copy h l v' h' := by
  obtain ⟨v', h', e, a⟩ := (Own.new h 1 0 h.next [] rfl (Nat.le_refl _)).app (bytes := 8) (n := 0) (by rw [H.next_new]; omega) (SV.mono hs ((Fr.refl h).new _)) (m := l.length) rfl (by rw [ints_length, Nat.mul_one]) (by omega) (by omega)
  refine ⟨v', h', e, a.own, a.fr h ((Fr.refl h).new _) (Nat.le_refl _), fun h0 => ?_⟩
  rcases a.what with ⟨h1, _⟩ | ⟨id, h1, h2, h3, h4⟩
  · omega
  · exact ⟨id, by rw [h1, Nat.zero_add], h2, h3, h4⟩
theorem clone_ok (v : V) (l : List Int) (h : H) (hs : SI h v l) (hl : l.length < 1000000) : Ev T n_slices_Clone_int_int [v] h (Copy h l) := by
  refine Ev_of t_slices_Clone_int_int rfl ?_
  rcases id hs with ⟨rfl | ⟨ad, rfl⟩, h0⟩ | ⟨id, off, len, cap, ro, vs, rfl, hlen, hid, hg, hle, he⟩
  · have : l = [] := by cases l <;> simp_all [ints]
    subst this
    simp only [c_slices_Clone_int_int, initV_eq, go_sem]
    exact ⟨Own.nils _ _ _, Fr.refl h, fun h => by simp at h⟩
  · simp only [c_slices_Clone_int_int, initV_eq, go_sem]
    obtain ⟨v', h', e, c⟩ := copy_of hs hl
    simp only [e, go_sem]
    exact c
  · simp only [c_slices_Clone_int_int, initV_eq, go_sem]
    obtain ⟨v', h', e, c⟩ := copy_of hs hl
    simp only [e, go_sem]
    exact c
theorem tmod_nat (n d : Nat) : (n : Int).tmod (d : Int) = ((n % d : Nat) : Int) := rfl
theorem tmod_bd (a : Int) {n : Int} (hn : 0 < n) : -n < a.tmod n ∧ a.tmod n < n := by
  have h1 := Int.tmod_lt_of_pos a hn
  refine ⟨?_, h1⟩
  rcases Int.le_total 0 a with h | h
  · have := Int.tmod_nonneg n h; omega
  · have h2 := Int.tmod_lt_of_pos (-a) hn
    rw [Int.neg_tmod] at h2
    omega
theorem tmod_fix (a : Int) {n : Int} (hn : 0 < n) : (if a.tmod n < 0 then a.tmod n + n else a.tmod n) = a % n := by
  have h0 := tmod_bd a hn
  have h1 : a.tmod n = a - n * (a.tdiv n) := by have := Int.mul_tdiv_add_tmod a n; omega
  have h2 : a % n = a - n * (a / n) := Int.emod_def a n
  have h3 := Int.emod_nonneg a (show n ≠ 0 by omega)
  have h4 := Int.emod_lt_of_pos a hn
  have h5 : (a.tmod n) % n = a % n := by
    rw [h1, Int.sub_emod, Int.mul_emod_right, Int.sub_zero, Int.emod_emod]
  split
  · rw [← h5, ← Int.emod_eq_of_lt (a := a.tmod n + n) (b := n) (by omega) (by omega), Int.add_emod_right]
  · rw [← h5, Int.emod_eq_of_lt (by omega) (by omega)]
theorem tmod_twice (a : Int) {n : Int} (hn : 0 < n) : (a.tmod n + n).tmod n = a % n := by
  have h0 := tmod_bd a hn
  have h5 := tmod_fix a hn
  rw [Int.tmod_eq_emod_of_nonneg (by omega), Int.add_emod_right]
  split at h5
  · rw [← h5, ← Int.emod_eq_of_lt (a := a.tmod n + n) (b := n) (by omega) (by omega), Int.add_emod_right]
  · rw [← h5, Int.emod_eq_of_lt (by omega) (by omega)]
theorem pick_ok (a n : Int) (h : H) (hn : 0 < n) (hn2 : n < 1000000000) : Ev T n_kit_Pick [.int .i64 a, .int .i64 n] h (fun v h' => v = .int .i64 (a % n) ∧ h' = h) := by
  refine Ev_of t_kit_Pick rfl ?_
  have h0 := tmod_bd a hn
  have h1 := tmod_fix a hn
  simp (disch := first | omega | (simp only [Qn] <;> omega)) only [go_sem, c_kit_Pick, initV_eq]
  refine iteW_dec (fun hlt => ?_) (fun hge => ?_)
  · rw [if_pos hlt] at h1
    simp (disch := first | omega | (simp only [Qn] <;> omega)) only [go_sem]
    exact ⟨by rw [h1], trivial⟩
  · rw [if_neg hge] at h1
    simp (disch := first | omega | (simp only [Qn] <;> omega)) only [go_sem]
    exact ⟨by rw [h1], trivial⟩
theorem eq_of_getD {a b : List Int} (hl : a.length = b.length) (h : ∀ j, j < a.length → a.getD j 0 = b.getD j 0) : a = b := by
  apply List.ext_getElem hl
  intro i h1 h2
  have := h i h1
  rw [List.getD_eq_getElem?_getD, List.getElem?_eq_getElem h1, List.getD_eq_getElem?_getD, List.getElem?_eq_getElem h2] at this
  exact this
theorem same_ok (va vb : V) (a b : List Int) (h : H) (ha : SI h va a) (hb : SI h vb b) (hla : a.length < 1000000) (hlb : b.length < 1000000) : Ev T n_kit_Same_int [va, vb] h (fun v h' => v = .bool (decide (a = b)) ∧ Fr h h') := by
  refine Ev_of t_kit_Same_int rfl ?_
  obtain ⟨id, off, hsl, hid, hc⟩ := ha.open
  obtain ⟨id2, off2, hsl2, hid2, hc2⟩ := hb.open
  simp (disch := first | omega | (simp only [Qn] <;> omega)) only [go_sem, c_kit_Same_int, initV_eq, ha.lens, hb.lens]
  refine iteW_dec (fun hne => ?_) (fun heq => ?_)
  · simp (disch := first | omega | (simp only [Qn] <;> omega)) only [go_sem]
    have : a ≠ b := fun e => hne (by rw [e])
    exact ⟨by rw [decide_eq_false this], Fr.refl h⟩
  have heq : a.length = b.length := by omega
  simp (disch := first | omega | (simp only [Qn] <;> omega)) only [go_sem, ha.lens]
  refine Wp_loop (fun k vars h2 => ∃ (i : Nat) (x4 x5 x6 : V), vars = [va, vb, .bool false, .int .i64 (i : Int), x4, x5, x6] ∧ i ≤ a.length ∧ (∀ j, j < i → a.getD j 0 = b.getD j 0) ∧ Fr h h2 ∧ k = a.length - i) a.length
    ⟨0, _, _, _, rfl, Nat.zero_le _, fun j hj => by omega, Fr.refl h, rfl⟩ ?_
  rintro k vars h2 ⟨i, x3, x7, x8, rfl, hi, hpre, hf2, rfl⟩
  simp (disch := first | omega | (simp only [Qn] <;> omega)) only [go_sem, ha.lens]
  refine iteW_dec (fun hlt => ?_) (fun hge => ?_)
  · have hc' := cells_fr hf2 hid hc
    have hc2' := cells_fr hf2 hid2 hc2
    simp (disch := first | omega | (simp only [Qn] <;> omega)) only [go_sem, hsl.ixa, hsl2.ixa, hc', hc2', Int.toNat_natCast]
    refine iteW_dec (fun hne => ?_) (fun he => ?_)
    · simp (disch := first | omega | (simp only [Qn] <;> omega)) only [go_sem]
      have : a ≠ b := fun e => hne (by rw [e])
      exact ⟨by rw [decide_eq_false this], hf2.bump (by omega)⟩
    · simp (disch := first | omega | (simp only [Qn] <;> omega)) only [go_sem]
      rw [show (i : Int) + 1 = ((i + 1 : Nat) : Int) from by omega]
      refine ⟨a.length - (i + 1), by omega, i + 1, _, _, _, rfl, by omega, fun j hj => ?_, hf2.bump (by omega), rfl⟩
      by_cases h3 : j = i
      · rw [h3]; exact Decidable.byContradiction he
      · exact hpre j (by omega)
  · simp (disch := first | omega | (simp only [Qn] <;> omega)) only [go_sem]
    have : a = b := eq_of_getD heq fun j hj => hpre j (by omega)
    exact ⟨by rw [decide_eq_true this], hf2⟩
/-- A new number. -/
def Frs (u : V) (b : Nat) : Prop := ∀ id off n c, u = .sl id off n c → b ≤ id
theorem Frs.ne {u : V} {b id off n : Nat} {c : Cap} (f : Frs u b) (h : id < b) : u ≠ .sl id off n c := fun e => by have := f _ _ _ _ e; omega
theorem Frs.le {u : V} {b b' : Nat} (f : Frs u b) (h : b' ≤ b) : Frs u b' := fun id off n c e => Nat.le_trans h (f id off n c e)
theorem Frs.own {h : H} {v : V} {sz : Nat} {ws : List V} {b : Nat} (o : Own h v sz ws b) : Frs v b := fun id off n c e => by
  rcases o with ⟨h1, _⟩ | ⟨id', _, _, _, h1, _, _, h2, _⟩
  · rw [h1] at e; cases e
  · rw [h1] at e; cases e; exact h2
/-- One object alone may have changed. -/
structure Fx (x : Nat) (h h' : H) : Prop where
  next : h.next ≤ h'.next
  get : ∀ id, id < h.next → id ≠ x → h'.get id = h.get id
theorem Fx.refl (x : Nat) (h : H) : Fx x h h := ⟨Nat.le_refl _, fun _ _ _ => rfl⟩
theorem Fx.of {x : Nat} {h h' : H} (f : Fr h h') : Fx x h h' := ⟨f.next, fun id hid _ => f.get id hid⟩
theorem Fx.trans {x : Nat} {a b c : H} (f : Fx x a b) (g : Fx x b c) : Fx x a c := ⟨Nat.le_trans f.next g.next, fun id hid hx => (g.get id (Nat.lt_of_lt_of_le hid f.next) hx).trans (f.get id hid hx)⟩
theorem Fx.set {x : Nat} {a b : H} (f : Fx x a b) (o : Option Ob) : Fx x a (b.set x o) := ⟨f.next, fun id hid hx => (H.get_set_ne b hx o).trans (f.get id hid hx)⟩
/-- Below the object, nothing has. -/
theorem Fx.fr {x : Nat} {a b c : H} (f : Fr a b) (hx : a.next ≤ x) (g : Fx x b c) : Fr a c := ⟨Nat.le_trans f.next g.next, fun id hid => (g.get id (Nat.lt_of_lt_of_le hid f.next) (by omega)).trans (f.get id hid)⟩
theorem SI.fx {h h' : H} {x lo : Nat} {u : V} {l : List Int} (s : SI h u l) (fs : Frs u lo) (hx : x < lo) (f : Fx x h h') : SI h' u l := by
  rcases s with s | ⟨id, off, len, cap, ro, vs, rfl, h2, h3, h4, h5, h6⟩
  · exact .inl s
  · have hid := fs _ _ _ _ rfl
    exact .inr ⟨id, off, len, cap, ro, vs, rfl, h2, Nat.lt_of_lt_of_le h3 f.next, by rw [f.get id h3 (by omega)]; exact h4, h5, h6⟩
/-- A taker of numbers. -/
def Tk (h : H) (x : Nat) (l : List Int) : Prop := ∃ vl, ∃ a : Nat, h.get x = some (.cells false [vl, .int .i64 (a : Int)]) ∧ SI h vl l ∧ (∀ id off len c, vl = .sl id off len c → id < x) ∧ a ≤ l.length ∧ x < h.next
theorem Tk.mono {h h' : H} {x : Nat} {l : List Int} (t : Tk h x l) (f : Fr h h') : Tk h' x l := by
  obtain ⟨vl, a, h1, h2, h3, h4, h5⟩ := t
  exact ⟨vl, a, (f.get x h5).trans h1, h2.mono f, h3, h4, Nat.lt_of_lt_of_le h5 f.next⟩
/-- What lies up to the taker is as it was. -/
theorem Tk.low {h h' : H} {x : Nat} {l : List Int} (t : Tk h x l) (hn : h.next ≤ h'.next) (hg : ∀ id, id ≤ x → h'.get id = h.get id) : Tk h' x l := by
  obtain ⟨vl, a, h1, h2, h3, h4, h5⟩ := t
  refine ⟨vl, a, (hg x (Nat.le_refl _)).trans h1, ?_, h3, h4, Nat.lt_of_lt_of_le h5 hn⟩
  rcases h2 with h0 | ⟨id, off, len, cap, ro, vs, e, q2, q3, q4, q5, q6⟩
  · exact .inl h0
  · have := h3 _ _ _ _ e
    exact .inr ⟨id, off, len, cap, ro, vs, e, q2, Nat.lt_of_lt_of_le q3 hn, (hg id (by omega)).trans q4, q5, q6⟩
theorem Tk.set {h : H} {x y : Nat} {l : List Int} (t : Tk h x l) (hy : h.next ≤ y) (o : Option Ob) : Tk (h.set y o) x l := t.mono ((Fr.refl h).set hy o)
theorem tmod_range (a : Int) {n : Int} (hn : 0 < n) : 0 ≤ a % n ∧ a % n < n := ⟨Int.emod_nonneg a (by omega), Int.emod_lt_of_pos a hn⟩
set_option maxHeartbeats 1000000 in
theorem take_ok (x : Nat) (l : List Int) (n : Int) (h : H) (ht : Tk h x l) (hl : l.length < 1000000) (hn : 1 ≤ n) (hn2 : n < 1000000000) :
    Ev T n_kit_Taker_Take [.ptr x 0, .int .i64 n] h (fun v h' => ∃ z, v = .int .i64 z ∧ 0 ≤ z ∧ z < n ∧ Tk h' x l ∧ Fx x h h') := by
  obtain ⟨vl, a, hg, hs, hne, ha, hx⟩ := ht
  refine Ev_of t_kit_Taker_Take rfl ?_
  have g0 : h.cell x 0 = some vl := by rw [H.cell_of hg]; rfl
  have g1 : h.cell x 1 = some (.int .i64 (a : Int)) := by rw [H.cell_of hg]; rfl
  have ev : eqV vl vl = true := SV.eqV hs
  obtain ⟨id, off, hsl, hid, hc⟩ := hs.open
  simp (disch := first | omega | (simp only [Qn] <;> omega)) only [go_sem, c_kit_Taker_Take, initV_eq, g0, g1, hs.lens, ev]
  by_cases hal : (l.length : Int) ≤ (a : Int)
  · rw [decide_eq_true hal]
    simp (disch := first | omega | (simp only [Qn] <;> omega)) only [go_sem]
    exact ⟨0, rfl, by omega, by omega, ⟨vl, a, hg, hs.mono ((Fr.refl h).bump (by omega)), hne, ha, by show x < h.next + 14; omega⟩, Fx.of ((Fr.refl h).bump (by omega))⟩
  · rw [decide_eq_false hal]
    simp (disch := first | omega | (simp only [Qn] <;> omega)) only [go_sem]
    rw [decide_eq_false (show ¬ n < 1 by omega)]
    simp (disch := first | omega | (simp only [Qn] <;> omega)) only [go_sem, g1, hg]
    have hne2 : id ≠ x := by
      intro e
      have := hsl.ixa .i64 0 (by omega) (by omega)
      rcases hs with ⟨_, h0⟩ | ⟨id', o', len', cap', _, _, rfl, _⟩
      · have : (ints l).length = 0 := by rw [h0]; rfl
        rw [ints_length] at this; omega
      · have hll : len' = l.length := Option.some.inj hsl.len
        rw [ixaV_sl (by omega) (by omega)] at this
        simp only [Option.some.injEq, V.ptr.injEq] at this
        have := hne _ _ _ _ rfl; omega
    have c0 : h.cell id (off + a) = some (.int .i64 (l.getD a 0)) := hc a (by omega)
    have ea : ((a : Int) + 1 - 1).toNat = a := by omega
    simp (disch := first | omega | (simp only [Qn] <;> omega)) only [go_sem, g0, g1, hg, hsl.ixa, c0, ev, ea]
    have hgg : ∀ m, (H.mk ((H.mk h.tr (h.next + 14)).set x (some (.cells false [vl, .int .i64 ((a : Int) + 1)]))).tr m).get x = some (.cells false [vl, .int .i64 ((a : Int) + 1)]) := fun m => H.get_set_same ..
    have hfx : Fx x h (H.mk ((H.mk h.tr (h.next + 14)).set x (some (.cells false [vl, .int .i64 ((a : Int) + 1)]))).tr (h.next + 14 + 14)) := ⟨by show h.next ≤ h.next + 14 + 14; omega, fun id hid hne => H.get_set_ne _ hne _⟩
    have hnn : (H.mk ((H.mk h.tr (h.next + 14)).set x (some (.cells false [vl, .int .i64 ((a : Int) + 1)]))).tr (h.next + 14 + 14)).next = h.next + 14 + 14 := rfl
    have hgx := hgg (h.next + 14 + 14)
    generalize H.mk ((H.mk h.tr (h.next + 14)).set x (some (.cells false [vl, .int .i64 ((a : Int) + 1)]))).tr (h.next + 14 + 14) = h2 at *
    refine (pick_ok (l.getD a 0) n h2 (by omega) hn2).mono ?_
    rintro v h3 ⟨rfl, rfl⟩
    have k0 : h3.cell x 0 = some vl := by rw [H.cell_of hgx]; rfl
    have k1 : h3.cell x 1 = some (.int .i64 ((a : Int) + 1)) := by rw [H.cell_of hgx]; rfl
    simp (disch := first | omega | (simp only [Qn] <;> omega)) only [go_sem, k0, k1, ev]
    have hr := tmod_range (l.getD a 0) (show 0 < n by omega)
    refine ⟨_, rfl, hr.1, hr.2, ⟨vl, a + 1, ?_, ?_, hne, by omega, by omega⟩, hfx⟩
    · rw [hgx]; simp
    · rcases hs with h0 | ⟨id', o', len', cap', ro, vs, rfl, q2, q3, q4, q5, q6⟩
      · exact .inl h0
      · exact .inr ⟨id', o', len', cap', ro, vs, rfl, q2, by omega, (hfx.get id' q3 (fun e => by have := hne _ _ _ _ rfl; omega)).trans q4, q5, q6⟩

/-! primes -/
def divG (n : Nat) : Nat → Nat → Nat
  | 0, _ => n
  | f + 1, d => if d * d ≤ n then (if n % d = 0 then d else divG n f (d + 1)) else n
def divF (n : Nat) : Nat := divG n 1000 2
theorem divides_ok (n : Nat) (h : H) (hn : n < 1000000) : Ev T n_prime_divides [.int .i64 (n : Int)] h (fun v h' => v = .int .i64 (divF n : Int) ∧ h' = h) := by
  refine Ev_of t_prime_divides rfl ?_
  simp (disch := first | omega | (simp only [Qn] <;> omega)) only [go_sem, c_prime_divides, initV_eq]
  refine Wp_loop (fun m vars h3 => ∃ (d : Nat), (∃ g : Nat → V, vars = [.int .i64 (n : Int), g 1, .int .i64 (d : Int), g 3, g 4]) ∧ 2 ≤ d ∧ d + m = 1002 ∧ divG n m d = divF n ∧ h3 = h) 1000
    ⟨2, ex_junk rfl, Nat.le_refl _, rfl, rfl, rfl⟩ ?_
  rintro m vars h3 ⟨d, ⟨g, rfl⟩, hd2, hdm, hod, rfl⟩
  have hdd : d * d ≤ 1002 * 1002 := Nat.mul_le_mul (by omega) (by omega)
  have em0 : (d : Int) * (d : Int) = ((d * d : Nat) : Int) := (Int.natCast_mul ..).symm
  have hsq : d ≤ d * d := Nat.le_mul_of_pos_left d (by omega)
  have em : (n : Int).tmod (d : Int) = ((n % d : Nat) : Int) := tmod_nat ..
  cases m with
  | zero =>
    have hgt : ¬ d * d ≤ n := by
      have hd' : d = 1002 := by omega
      subst hd'; omega
    generalize d * d = dd at *
    simp (disch := first | omega | (simp only [Qn] <;> omega)) only [go_sem, em0]
    rw [decide_eq_false (show ¬ (dd : Int) ≤ (n : Int) by omega)]
    simp (disch := first | omega | (simp only [Qn] <;> omega)) only [go_sem]
    exact ⟨by rw [← hod]; rfl, trivial⟩
  | succ m =>
    rw [divG] at hod
    generalize d * d = dd at *
    simp (disch := first | omega | (simp only [Qn] <;> omega)) only [go_sem, em0]
    refine iteW_dec (fun hle => ?_) (fun hgt => ?_)
    · rw [if_pos (by omega)] at hod
      simp (disch := first | omega | (simp only [Qn] <;> omega)) only [go_sem, em]
      refine iteW_dec (fun hz => ?_) (fun hz => ?_)
      · rw [if_pos (by omega)] at hod
        simp (disch := first | omega | (simp only [Qn] <;> omega)) only [go_sem]
        exact ⟨by rw [← hod], trivial⟩
      · rw [if_neg (by omega)] at hod
        simp (disch := first | omega | (simp only [Qn] <;> omega)) only [go_sem]
        rw [show (d : Int) + 1 = ((d + 1 : Nat) : Int) from by omega]
        exact ⟨m, by omega, d + 1, ex_junk rfl, by omega, by omega, hod, trivial⟩
    · rw [if_neg (by omega)] at hod
      simp (disch := first | omega | (simp only [Qn] <;> omega)) only [go_sem]
      exact ⟨by rw [← hod], trivial⟩
/-- A prime below 1,000,000. -/
def isP (n : Int) : Bool := decide (1 < n) && (decide (n < 1000000) && decide (divF n.toNat = n.toNat))
theorem is_prime_ok (n : Int) (h : H) : Ev T n_prime_Is [.int .i64 n] h (fun v h' => v = .bool (isP n) ∧ h' = h) := by
  refine Ev_of t_prime_Is rfl ?_
  simp (disch := first | omega | (simp only [Qn] <;> omega)) only [go_sem, c_prime_Is, initV_eq]
  by_cases h1 : (1 : Int) < n
  · rw [decide_eq_true h1]
    simp (disch := first | omega | (simp only [Qn] <;> omega)) only [go_sem]
    by_cases h2 : n < 1000000
    · rw [decide_eq_true h2]
      obtain ⟨m, rfl⟩ : ∃ m : Nat, n = (m : Int) := ⟨n.toNat, by omega⟩
      simp (disch := first | omega | (simp only [Qn] <;> omega)) only [go_sem]
      refine (divides_ok m h (by omega)).mono ?_
      rintro v h' ⟨rfl, rfl⟩
      simp (disch := first | omega | (simp only [Qn] <;> omega)) only [go_sem]
      refine ⟨?_, trivial⟩
      rw [isP, decide_eq_true h1, decide_eq_true h2, Int.toNat_natCast, Bool.true_and, Bool.true_and]
      congr 1
      rw [decide_eq_decide]; omega
    · rw [decide_eq_false h2]
      simp (disch := first | omega | (simp only [Qn] <;> omega)) only [go_sem, undef_eq]
      exact ⟨by rw [isP, decide_eq_false h2]; simp, trivial⟩
  · rw [decide_eq_false h1]
    simp (disch := first | omega | (simp only [Qn] <;> omega)) only [go_sem, undef_eq]
    exact ⟨by rw [isP, decide_eq_false h1]; rfl, trivial⟩
def fieldF (p : Int) : Bool := decide (p < 10000) && isP p
theorem field_ok (p : Int) (h : H) : Ev T n_matrix_field [.int .i64 p] h (fun v h' => v = .bool (fieldF p) ∧ h' = h) := by
  refine Ev_of t_matrix_field rfl ?_
  simp (disch := first | omega | (simp only [Qn] <;> omega)) only [go_sem, c_matrix_field, initV_eq]
  by_cases h1 : p < 10000
  · rw [decide_eq_true h1]
    simp (disch := first | omega | (simp only [Qn] <;> omega)) only [go_sem]
    refine (is_prime_ok p h).mono ?_
    rintro v h' ⟨rfl, rfl⟩
    simp (disch := first | omega | (simp only [Qn] <;> omega)) only [go_sem]
    exact ⟨by rw [fieldF, decide_eq_true h1, Bool.true_and], trivial⟩
  · rw [decide_eq_false h1]
    simp (disch := first | omega | (simp only [Qn] <;> omega)) only [go_sem, undef_eq]
    exact ⟨by rw [fieldF, decide_eq_false h1]; rfl, trivial⟩
theorem fieldF_range {p : Int} (h : fieldF p = true) : 2 ≤ p ∧ p < 10000 := by
  simp only [fieldF, isP, Bool.and_eq_true, decide_eq_true_eq] at h
  omega
end Go.Proofs.Ytlhebmcnjgagjaa

/- Layer 4: Min, Max, Check. -/
namespace Go.Proofs.Ytlhebmcnjgagjaa
open Go Go.Ay
set_option maxRecDepth 100000
theorem any_index {l : List Int} {P : Int → Bool} : l.any P = true ↔ ∃ j, j < l.length ∧ P (l.getD j 0) = true := by
  rw [List.any_eq_true]
  constructor
  · rintro ⟨x, hx, hp⟩
    obtain ⟨j, hj, rfl⟩ := List.mem_iff_getElem.1 hx
    exact ⟨j, hj, by rw [List.getD_eq_getElem?_getD, List.getElem?_eq_getElem hj]; exact hp⟩
  · rintro ⟨j, hj, hp⟩
    rw [List.getD_eq_getElem?_getD, List.getElem?_eq_getElem hj] at hp
    exact ⟨l[j], List.getElem_mem _, hp⟩
theorem min_ok (v : V) (l : List Int) (h : H) (hs : SI h v l) (h0 : 0 < l.length) (hl : l.length < 1000000) : Ev T n_slices_Min_int_int [v] h (fun v h' => ∃ m, v = .int .i64 m ∧ h' = h ∧ ∀ t, decide (m < t) = l.any (fun x => decide (x < t))) := by
  refine Ev_of t_slices_Min_int_int rfl ?_
  obtain ⟨id, off, hsl, hid, hc⟩ := hs.open
  have c0 : h.cell id off = some (.int .i64 (l.getD 0 0)) := hc 0 h0
  simp (disch := first | omega | (simp only [Qn] <;> omega)) only [go_sem, c_slices_Min_int_int, initV_eq, hs.lens]
  rw [decide_eq_false (show ¬ (l.length : Int) < 1 by omega)]
  simp (disch := first | omega | (simp only [Qn] <;> omega)) only [go_sem, hsl.ixa, c0]
  refine Wp_loop (fun k' vars h1 => ∃ (i : Nat) (m : Int), (∃ g : Nat → V, vars = [v, g 1, .int .i64 m, .int .i64 (i : Int), g 4, g 5]) ∧ 1 ≤ i ∧ i ≤ l.length ∧ (∀ t, m < t ↔ ∃ j, j < i ∧ l.getD j 0 < t) ∧ h1 = h ∧ k' = l.length - i) (l.length - 1)
    ⟨1, l.getD 0 0, ex_junk rfl, Nat.le_refl _, h0, fun t => ⟨fun x => ⟨0, by omega, x⟩, fun ⟨j, hj, x⟩ => by
      have : j = 0 := by omega
      subst this; exact x⟩, rfl, rfl⟩ ?_
  rintro k' vars h1 ⟨i, m, ⟨g, rfl⟩, hi1, hil, hm, rfl, rfl⟩
  simp (disch := first | omega | (simp only [Qn] <;> omega)) only [go_sem, hs.lens]
  by_cases hlt : (i : Int) < (l.length : Int)
  · rw [decide_eq_true hlt]
    have ci := hc i (by omega)
    simp (disch := first | omega | (simp only [Qn] <;> omega)) only [go_sem, hsl.ixa, ci, mm_min]
    rw [show (i : Int) + 1 = ((i + 1 : Nat) : Int) from by omega]
    refine ⟨l.length - (i + 1), by omega, i + 1, _, ex_junk rfl, by omega, by omega, fun t => ?_, rfl⟩
    constructor
    · intro x
      split at x
      · exact ⟨i, by omega, x⟩
      · obtain ⟨j, hj, y⟩ := (hm t).1 x
        exact ⟨j, by omega, y⟩
    · rintro ⟨j, hj, y⟩
      by_cases hji : j = i
      · subst hji; split <;> omega
      · have := (hm t).2 ⟨j, by omega, y⟩
        split <;> omega
  · rw [decide_eq_false hlt]
    obtain rfl : i = l.length := by omega
    simp (disch := first | omega | (simp only [Qn] <;> omega)) only [go_sem]
    refine ⟨m, rfl, fun t => ?_⟩
    rw [Bool.eq_iff_iff, decide_eq_true_eq, any_index, hm t]
    simp only [decide_eq_true_eq]
theorem max_ok (v : V) (l : List Int) (h : H) (hs : SI h v l) (h0 : 0 < l.length) (hl : l.length < 1000000) : Ev T n_slices_Max_int_int [v] h (fun v h' => ∃ m, v = .int .i64 m ∧ h' = h ∧ ∀ t, decide (t ≤ m) = l.any (fun x => decide (t ≤ x))) := by
  refine Ev_of t_slices_Max_int_int rfl ?_
  obtain ⟨id, off, hsl, hid, hc⟩ := hs.open
  have c0 : h.cell id off = some (.int .i64 (l.getD 0 0)) := hc 0 h0
  simp (disch := first | omega | (simp only [Qn] <;> omega)) only [go_sem, c_slices_Max_int_int, initV_eq, hs.lens]
  rw [decide_eq_false (show ¬ (l.length : Int) < 1 by omega)]
  simp (disch := first | omega | (simp only [Qn] <;> omega)) only [go_sem, hsl.ixa, c0]
  refine Wp_loop (fun k' vars h1 => ∃ (i : Nat) (m : Int), (∃ g : Nat → V, vars = [v, g 1, .int .i64 m, .int .i64 (i : Int), g 4, g 5]) ∧ 1 ≤ i ∧ i ≤ l.length ∧ (∀ t, t ≤ m ↔ ∃ j, j < i ∧ t ≤ l.getD j 0) ∧ h1 = h ∧ k' = l.length - i) (l.length - 1)
    ⟨1, l.getD 0 0, ex_junk rfl, Nat.le_refl _, h0, fun t => ⟨fun x => ⟨0, by omega, x⟩, fun ⟨j, hj, x⟩ => by
      have : j = 0 := by omega
      subst this; exact x⟩, rfl, rfl⟩ ?_
  rintro k' vars h1 ⟨i, m, ⟨g, rfl⟩, hi1, hil, hm, rfl, rfl⟩
  simp (disch := first | omega | (simp only [Qn] <;> omega)) only [go_sem, hs.lens]
  by_cases hlt : (i : Int) < (l.length : Int)
  · rw [decide_eq_true hlt]
    have ci := hc i (by omega)
    simp (disch := first | omega | (simp only [Qn] <;> omega)) only [go_sem, hsl.ixa, ci, mm_max]
    rw [show (i : Int) + 1 = ((i + 1 : Nat) : Int) from by omega]
    refine ⟨l.length - (i + 1), by omega, i + 1, _, ex_junk rfl, by omega, by omega, fun t => ?_, rfl⟩
    constructor
    · intro x
      split at x
      · exact ⟨i, by omega, x⟩
      · obtain ⟨j, hj, y⟩ := (hm t).1 x
        exact ⟨j, by omega, y⟩
    · rintro ⟨j, hj, y⟩
      by_cases hji : j = i
      · subst hji; split <;> omega
      · have := (hm t).2 ⟨j, by omega, y⟩
        split <;> omega
  · rw [decide_eq_false hlt]
    obtain rfl : i = l.length := by omega
    simp (disch := first | omega | (simp only [Qn] <;> omega)) only [go_sem]
    refine ⟨m, rfl, fun t => ?_⟩
    rw [Bool.eq_iff_iff, decide_eq_true_eq, any_index, hm t]
    simp only [decide_eq_true_eq]

/-- A matrix: its modulus and its rows. -/
abbrev Mat := Int × List (List Int)
def MatV (h : H) (v : V) (a : Mat) : Prop := ∃ u, v = .agg [.int .i64 a.1, u] ∧ SR h u a.2
theorem MatV.mono {h h' : H} {v : V} {a : Mat} (s : MatV h v a) (f : Fr h h') : MatV h' v a := by
  obtain ⟨u, e, s⟩ := s; exact ⟨u, e, s.mono f⟩
def goodRow (p : Int) (n : Nat) (r : List Int) : Bool := decide (r.length = n) && (!r.any (fun x => decide (x < 0)) && !r.any (fun x => decide (p ≤ x)))
def checkM (a : Mat) : Int :=
  if fieldF a.1 = false then 3
  else if a.2.length < 1 ∨ 64 < a.2.length ∨ (a.2.getD 0 []).length < 1 ∨ 64 < (a.2.getD 0 []).length then 2
  else if a.2.all (goodRow a.1 (a.2.getD 0 []).length) then 0 else 3
theorem all_take {α : Type} {l : List α} {P : α → Bool} {i : Nat} (d : α) (hi : i < l.length) : (l.take (i + 1)).all P = ((l.take i).all P && P (l.getD i d)) := by
  rw [List.take_add_one, List.all_append, List.getElem?_eq_getElem hi, List.getD_eq_getElem?_getD, List.getElem?_eq_getElem hi]
  simp
theorem all_bad {α : Type} {l : List α} {P : α → Bool} {i : Nat} (d : α) (hi : i < l.length) (hb : P (l.getD i d) = false) : l.all P = false := by
  rw [List.all_eq_false]
  rw [List.getD_eq_getElem?_getD, List.getElem?_eq_getElem hi] at hb
  exact ⟨l[i], List.getElem_mem _, by simpa using hb⟩

set_option maxHeartbeats 4000000 in
theorem check_ok (v : V) (a : Mat) (h : H) (ha : MatV h v a) (hlen : (a.2.length : Int) ≤ 2 ^ 63 - 1) : Ev T n_matrix_Check [v] h (fun v h' => v = .int .i64 (checkM a) ∧ Fr h h') := by
  obtain ⟨u, rfl, hu⟩ := ha
  obtain ⟨p, rows⟩ := a
  simp only at hu hlen
  refine Ev_of t_matrix_Check rfl ?_
  have hw := SV.what hu.choose_spec.1
  simp (disch := first | omega | (simp only [Qn] <;> omega)) only [go_sem, c_matrix_Check, initV_eq, boxV_agg2 h (v := .int .i64 p) rfl hw.2.1]
  have hfx : Fr h (h.new (.cells false [.int .i64 p, u])) := (Fr.refl h).new _
  have hgx : (h.new (.cells false [.int .i64 p, u])).get h.next = some (.cells false [.int .i64 p, u]) := H.get_new_same ..
  have hnx : (h.new (.cells false [.int .i64 p, u])).next = h.next + 1 := H.next_new ..
  generalize h.new (.cells false [.int .i64 p, u]) = hx at *
  have x0 : hx.cell h.next 0 = some (.int .i64 p) := by rw [H.cell_of hgx]; rfl
  have x1 : hx.cell h.next 1 = some u := by rw [H.cell_of hgx]; rfl
  refine (field_ok p hx).mono ?_
  rintro v h' ⟨rfl, rfl⟩
  cases hf : fieldF p with
  | false =>
    simp (disch := first | omega | (simp only [Qn] <;> omega)) only [go_sem]
    exact ⟨by rw [checkM, if_pos hf], hfx⟩
  | true =>
    have hF : ∀ w : Int, (if rows.length < 1 ∨ 64 < rows.length ∨ (rows.getD 0 []).length < 1 ∨ 64 < (rows.getD 0 []).length then (2 : Int) else if rows.all (goodRow p (rows.getD 0 []).length) then 0 else 3) = w → checkM (p, rows) = w := fun w e => by
      rw [checkM, if_neg (by simp [hf])]; exact e
    simp (disch := first | omega | (simp only [Qn] <;> omega)) only [go_sem, x1, hu.lens]
    refine iteW_dec (fun a1 => ?_) (fun a1 => ?_)
    · rw [decide_eq_true a1]
      simp (disch := first | omega | (simp only [Qn] <;> omega)) only [go_sem]
      exact ⟨by rw [hF 2 (if_pos (.inl (by omega)))], hfx⟩
    rw [decide_eq_false a1]
    simp (disch := first | omega | (simp only [Qn] <;> omega)) only [go_sem, x1, hu.lens]
    refine iteW_dec (fun a2 => ?_) (fun a2 => ?_)
    · rw [decide_eq_true a2]
      simp (disch := first | omega | (simp only [Qn] <;> omega)) only [go_sem]
      exact ⟨by rw [hF 2 (if_pos (.inr (.inl (by omega))))], hfx⟩
    rw [decide_eq_false a2]
    obtain ⟨id, off, ws, su, hid, hwl, hc, hall⟩ := (hu.mono hfx).open
    have c0 : h'.cell id off = some (ws.getD 0 .undef) := hc 0 (by omega)
    have r0 := row_at hall (i := 0) (by omega)
    simp (disch := first | omega | (simp only [Qn] <;> omega)) only [go_sem, x1, su.ixa, c0, r0.lens]
    refine iteW_dec (fun a3 => ?_) (fun a3 => ?_)
    · rw [decide_eq_true a3]
      simp (disch := first | omega | (simp only [Qn] <;> omega)) only [go_sem]
      exact ⟨by rw [hF 2 (if_pos (.inr (.inr (.inl (by omega)))))], hfx⟩
    rw [decide_eq_false a3]
    simp (disch := first | omega | (simp only [Qn] <;> omega)) only [go_sem, x1, su.ixa, c0, r0.lens]
    refine iteW_dec (fun a4 => ?_) (fun a4 => ?_)
    · rw [decide_eq_true a4]
      simp (disch := first | omega | (simp only [Qn] <;> omega)) only [go_sem]
      exact ⟨by rw [hF 2 (if_pos (.inr (.inr (.inr (by omega)))))], hfx⟩
    rw [decide_eq_false a4]
    simp (disch := first | omega | (simp only [Qn] <;> omega)) only [go_sem, x1, hu.lens]
    rw [if_neg (by omega)] at hF
    obtain ⟨n0, hn0⟩ : ∃ n, (rows.getD 0 []).length = n := ⟨_, rfl⟩
    have l0 := r0.lens
    rw [hn0] at hF a3 a4 l0
    refine Wp_loop (fun k' vars h1 => ∃ i : Nat, (∃ g : Nat → V, vars = [g 0, .ptr h.next 0, g 2, g 3, g 4, g 5, u, .int .i64 (rows.length : Int), .int .i64 (i : Int), g 9, g 10]) ∧ i ≤ rows.length ∧ (rows.take i).all (goodRow p n0) = true ∧ Fr h' h1 ∧ k' = rows.length - i) rows.length
      ⟨0, ex_junk rfl, Nat.zero_le _, rfl, Fr.refl h', rfl⟩ ?_
    rintro k' vars h1 ⟨i, ⟨g, rfl⟩, hi, ht, f1, rfl⟩
    simp (disch := first | omega | (simp only [Qn] <;> omega)) only [go_sem]
    by_cases hlt : (i : Int) < (rows.length : Int)
    · rw [decide_eq_true hlt]
      have ci : h1.cell id (off + i) = some (ws.getD i .undef) := by rw [f1.cell (hid (by omega))]; exact hc i (by omega)
      have ri0 := row_at hall (i := i) (by omega)
      have lr := ri0.lens
      obtain ⟨r, hr⟩ : ∃ r, rows.getD i [] = r := ⟨_, rfl⟩
      rw [hr] at lr ri0
      simp (disch := first | omega | (simp only [Qn] <;> omega)) only [go_sem, su.ixa, ci]
      have fb := f1.bump (n := h1.next + 20) (by omega)
      have z0 : (H.mk h1.tr (h1.next + 20)).cell h.next 0 = some (.int .i64 p) := by rw [fb.cell (by omega)]; exact x0
      have z1 : (H.mk h1.tr (h1.next + 20)).cell h.next 1 = some u := by rw [fb.cell (by omega)]; exact x1
      have zc : (H.mk h1.tr (h1.next + 20)).cell id off = some (ws.getD 0 .undef) := by rw [fb.cell (hid (by omega))]; exact c0
      have ri := ri0.mono fb
      have hm := all_take (P := goodRow p n0) (l := rows) (i := i) [] (by omega)
      have hbad := all_bad (P := goodRow p n0) (l := rows) (i := i) [] (by omega)
      rw [hr] at hm hbad
      generalize H.mk h1.tr (h1.next + 20) = hh at *
      generalize ws.getD i .undef = wi at *
      have h3 : goodRow p n0 r = false → checkM (p, rows) = 3 := fun hg => hF 3 (if_neg (by rw [hbad hg]; simp))
      have h0' : goodRow p n0 r = true → (rows.take (i + 1)).all (goodRow p n0) = true := fun hg => by rw [hm, ht, hg]; rfl
      simp (disch := first | omega | (simp only [Qn] <;> omega)) only [go_sem, lr, z1, su.ixa, zc, l0]
      by_cases hrn : r.length = n0
      · have d1 : decide ((r.length : Int) ≠ (n0 : Int)) = false := decide_eq_false (by omega)
        simp (disch := first | omega | (simp only [Qn] <;> omega)) only [go_sem, d1]
        refine (min_ok wi r hh ri (by omega) (by omega)).mono ?_
        rintro v hh1 ⟨mn, rfl, rfl, hmn⟩
        simp (disch := first | omega | (simp only [Qn] <;> omega)) only [go_sem]
        have e1 := hmn 0
        cases hA : r.any (fun x => decide (x < 0)) with
        | true =>
          rw [hA] at e1
          simp (disch := first | omega | (simp only [Qn] <;> omega)) only [go_sem, e1, undef_eq, z0]
          exact ⟨by rw [h3 (by rw [goodRow, hA]; simp)], hfx.trans fb⟩
        | false =>
          rw [hA] at e1
          simp (disch := first | omega | (simp only [Qn] <;> omega)) only [go_sem, e1, z0]
          refine (max_ok wi r _ ri (by omega) (by omega)).mono ?_
          rintro v hh2 ⟨mx, rfl, rfl, hmx⟩
          have e2 := hmx p
          simp (disch := first | omega | (simp only [Qn] <;> omega)) only [go_sem, z0, e2]
          cases hB : r.any (fun x => decide (p ≤ x)) with
          | true =>
            simp (disch := first | omega | (simp only [Qn] <;> omega)) only [go_sem, z0, e2]
            exact ⟨by rw [h3 (by rw [goodRow, hA, hB]; simp)], hfx.trans fb⟩
          | false =>
            simp (disch := first | omega | (simp only [Qn] <;> omega)) only [go_sem, z0, e2]
            rw [show (i : Int) + 1 = ((i + 1 : Nat) : Int) from by omega]
            exact ⟨rows.length - (i + 1), by omega, i + 1, ex_junk rfl, by omega, h0' (by rw [goodRow, hA, hB, decide_eq_true hrn]; rfl), fb, rfl⟩
      · have d1 : decide ((r.length : Int) ≠ (n0 : Int)) = true := decide_eq_true (by omega)
        simp (disch := first | omega | (simp only [Qn] <;> omega)) only [go_sem, d1, undef_eq, z0]
        exact ⟨by rw [h3 (by rw [goodRow, decide_eq_false hrn]; rfl)], hfx.trans fb⟩
    · rw [decide_eq_false hlt]
      obtain rfl : i = rows.length := by omega
      rw [List.take_length] at ht
      simp (disch := first | omega | (simp only [Qn] <;> omega)) only [go_sem]
      exact ⟨by rw [hF 0 (if_pos ht)], hfx.trans f1⟩
end Go.Proofs.Ytlhebmcnjgagjaa

/- Layer 4: zip, plus. -/
namespace Go.Proofs.Ytlhebmcnjgagjaa
open Go Go.Ay
set_option maxRecDepth 100000
theorem nonneg_tmod {a p : Int} (ha : 0 ≤ a) : a.tmod p = a % p := Int.tmod_eq_emod_of_nonneg ha
/-- What 'plus' returns. -/
theorem plus_ok (p x : Int) (h : H) : Ev T n_matrix_plus [.int .i64 p, .int .i64 x] h (fun v h' => ∃ ix ip, v = .fn 104 [] [.ptr ix 0, .ptr ip 0] ∧ h'.cell ix 0 = some (.int .i64 x) ∧ h'.cell ip 0 = some (.int .i64 p) ∧ (h.next ≤ ix ∧ ix < h'.next) ∧ (h.next ≤ ip ∧ ip < h'.next) ∧ Fr h h') := by
  refine Ev_of t_matrix_plus rfl ?_
  simp (disch := first | omega | (simp only [Qn] <;> omega)) only [go_sem, c_matrix_plus, initV_eq]
  have f1 := (Fr.refl h).new (.cells false [.int .i64 p])
  have g2 : ((h.new (.cells false [.int .i64 p])).new (.cells false [.int .i64 x])).get (h.next + 1) = some (.cells false [.int .i64 x]) := by
    have := H.get_new_same (h.new (.cells false [.int .i64 p])) (.cells false [.int .i64 x])
    rw [H.next_new] at this; exact this
  have g1 : ((h.new (.cells false [.int .i64 p])).new (.cells false [.int .i64 x])).get h.next = some (.cells false [.int .i64 p]) := by
    rw [H.get_new_ne _ (by rw [H.next_new]; omega)]; exact H.get_new_same ..
  exact ⟨_, _, rfl, by rw [H.cell_of g2]; rfl, by rw [H.cell_of g1]; rfl, by omega, by omega, f1.new _⟩
theorem plus1_ok (ix ip : Nat) (p x a b : Int) (h : H) (hx : h.cell ix 0 = some (.int .i64 x)) (hp : h.cell ip 0 = some (.int .i64 p)) (ha : 0 ≤ a ∧ a < 1000000000) (hb : 0 ≤ x * b ∧ x * b < 1000000000000) (hp1 : 0 < p) (hp2 : p < 1000000) :
    callP T (.fn 104 [] [.ptr ix 0, .ptr ip 0]) [.int .i64 a, .int .i64 b] h (fun v h' => v = .int .i64 ((a + x * b) % p) ∧ h' = h) := by
  have e := nonneg_tmod (a := a + x * b) (p := p) (by omega)
  have r := tmod_range (a + x * b) hp1
  show Ev T n_matrix_plus_1 [.int .i64 a, .int .i64 b, .ptr ix 0, .ptr ip 0] h _
  refine Ev_of t_matrix_plus_1 rfl ?_
  simp (disch := first | omega | (simp only [Qn] <;> omega)) only [go_sem, c_matrix_plus_1, initV_eq, hx, hp, e]
theorem zip_ok (va vb f : V) (a b : List Int) (G : Int → Int → Int) (h : H) (ha : SI h va a) (hb : SI h vb b) (hab : a.length ≤ b.length) (hl : a.length < 1000000) (hf : ∀ h', Fr h h' → ∀ i, i < a.length → callP T f [.int .i64 (a.getD i 0), .int .i64 (b.getD i 0)] h' (fun v h'' => v = .int .i64 (G (a.getD i 0) (b.getD i 0)) ∧ h'' = h')) :
    Ev T n_matrix_zip_int_int_int [va, vb, f] h (fun v h' => Own h' v 1 (ints (List.zipWith G a b)) h.next ∧ Fr h h') := by
  refine Ev_of t_matrix_zip_int_int_int rfl ?_
  have emk : mksV h 1 8 [.int .i64 0] (.int .i64 (a.length : Int)) (.int .i64 (a.length : Int)) = some (.sl h.next 0 a.length (.kn a.length), h.new (.cells false (ints (List.replicate a.length 0)))) := by
    rw [mksV_int (by omega) (Int.le_refl _) (by omega) (by omega), Int.toNat_natCast, Nat.mul_one, zeros_int]
  simp (disch := first | omega | (simp only [Qn] <;> omega)) only [go_sem, c_matrix_zip_int_int_int, initV_eq, ha.lens, emk]
  have hfz : Fr h (h.new (.cells false (ints (List.replicate a.length 0)))) := (Fr.refl h).new _
  have hgz : (h.new (.cells false (ints (List.replicate a.length 0)))).get h.next = some (.cells false (ints (List.replicate a.length 0))) := H.get_new_same ..
  have hnz : (h.new (.cells false (ints (List.replicate a.length 0)))).next = h.next + 1 := H.next_new ..
  generalize h.new (.cells false (ints (List.replicate a.length 0))) = hz at *
  obtain ⟨ida, offa, sa, hida, ca⟩ := ha.open
  obtain ⟨idb, offb, sb, hidb, cb⟩ := hb.open
  refine Wp_loop (fun k' vars h3 => ∃ (i : Nat) (o : List Int), (∃ g : Nat → V, vars = [g 0, vb, f, g 3, .sl h.next 0 a.length (.kn a.length), g 5, g 6, va, .int .i64 (a.length : Int), .int .i64 (i : Int), g 10]) ∧ i ≤ a.length ∧ o.length = a.length ∧ (∀ k, k < i → o.getD k 0 = G (a.getD k 0) (b.getD k 0)) ∧ h3.get h.next = some (.cells false (ints o)) ∧ h3.next = h.next + 1 ∧ Fr h h3 ∧ k' = a.length - i) a.length
    ⟨0, _, ex_junk rfl, Nat.zero_le _, List.length_replicate .., fun k hk => absurd hk (Nat.not_lt_zero k), hgz, hnz, hfz, rfl⟩ ?_
  rintro k' vars h3 ⟨i, o, ⟨g, rfl⟩, hi, ho, hG, g3, n3, f3, rfl⟩
  simp (disch := first | omega | (simp only [Qn] <;> omega)) only [go_sem]
  by_cases hlt : (i : Int) < (a.length : Int)
  · rw [decide_eq_true hlt]
    have cai : h3.cell ida (offa + i) = some (.int .i64 (a.getD i 0)) := by rw [f3.cell (hida (by omega))]; exact ca i (by omega)
    have cbi : h3.cell idb (offb + i) = some (.int .i64 (b.getD i 0)) := by rw [f3.cell (hidb (by omega))]; exact cb i (by omega)
    simp (disch := first | omega | (simp only [Qn] <;> omega)) only [go_sem, sa.ixa, sb.ixa, cai, cbi]
    refine (hf h3 f3 i (by omega)).mono ?_
    rintro v h4 ⟨rfl, rfl⟩
    simp (disch := first | omega | (simp only [Qn] <;> omega)) only [go_sem, g3]
    rw [show (i : Int) + 1 = ((i + 1 : Nat) : Int) from by omega]
    refine ⟨a.length - (i + 1), by omega, i + 1, o.set i (G (a.getD i 0) (b.getD i 0)), ex_junk rfl, by omega, by rw [List.length_set]; exact ho, fun k hk => ?_, rfl, n3, f3.set (Nat.le_refl _) _, rfl⟩
    rw [getD_set]
    by_cases he : i = k
    · subst he; rw [if_pos rfl, if_pos (by omega)]
    · rw [if_neg he]; exact hG k (by omega)
  · rw [decide_eq_false hlt]
    obtain rfl : i = a.length := by omega
    simp (disch := first | omega | (simp only [Qn] <;> omega)) only [go_sem]
    have : List.zipWith G a b = o := by
      refine eq_of_getD (by rw [List.length_zipWith, ho]; omega) fun j hj => ?_
      rw [List.length_zipWith] at hj
      rw [hG j (by omega), List.getD_eq_getElem?_getD, List.getElem?_zipWith, List.getD_eq_getElem?_getD, List.getD_eq_getElem?_getD, List.getElem?_eq_getElem (show j < a.length by omega), List.getElem?_eq_getElem (show j < b.length by omega)]
      rfl
    rw [this]
    exact ⟨.inr ⟨h.next, a.length, _, [], rfl, by rw [ints_length, ho, Nat.mul_one], .inr ⟨rfl, rfl⟩, Nat.le_refl _, by omega, by rw [List.append_nil]; exact g3⟩, f3⟩
end Go.Proofs.Ytlhebmcnjgagjaa

/- Layer 4: valid matrices; apply. -/
namespace Go.Proofs.Ytlhebmcnjgagjaa
open Go Go.Ay
set_option maxRecDepth 100000
/-- An entry. -/
def ent (rows : List (List Int)) (i k : Nat) : Int := (rows.getD i []).getD k 0
/-- A list from a function. -/
def mkV (n : Nat) (f : Nat → Int) : List Int := (List.range n).map f
theorem mkV_len (n : Nat) (f : Nat → Int) : (mkV n f).length = n := by rw [mkV, List.length_map, List.length_range]
theorem mkV_get {n : Nat} (f : Nat → Int) {k : Nat} (hk : k < n) : (mkV n f).getD k 0 = f k := by
  rw [mkV, List.getD_eq_getElem?_getD, List.getElem?_map, List.getElem?_range hk]; rfl
theorem mkV_eq {n : Nat} {f : Nat → Int} {l : List Int} (hl : l.length = n) (h : ∀ k, k < n → l.getD k 0 = f k) : l = mkV n f :=
  eq_of_getD (by rw [mkV_len]; exact hl) fun k hk => by rw [mkV_get f (by omega)]; exact h k (by omega)
theorem mkV_congr {n : Nat} {f g : Nat → Int} (h : ∀ k, k < n → f k = g k) : mkV n f = mkV n g := mkV_eq (mkV_len n f) fun k hk => by rw [mkV_get f hk]; exact h k hk
theorem zip_mkV {n : Nat} {f : Nat → Int} {l : List Int} (hl : l.length = n) (G : Int → Int → Int) : List.zipWith G (mkV n f) l = mkV n (fun k => G (f k) (l.getD k 0)) := by
  refine mkV_eq (by rw [List.length_zipWith, mkV_len, hl]; omega) fun k hk => ?_
  rw [List.getD_eq_getElem?_getD, List.getElem?_zipWith]
  have e1 := mkV_get f hk
  rw [List.getD_eq_getElem?_getD, List.getElem?_eq_getElem (by rw [mkV_len]; exact hk)] at e1
  rw [List.getElem?_eq_getElem (show k < (mkV n f).length by rw [mkV_len]; exact hk), List.getElem?_eq_getElem (show k < l.length by omega), List.getD_eq_getElem?_getD, List.getElem?_eq_getElem (show k < l.length by omega)]
  simp only [Option.getD_some] at e1 ⊢
  rw [e1]
/-- A valid matrix. -/
structure Vd (a : Mat) (c : Nat) : Prop where
  p : fieldF a.1 = true
  r1 : 1 ≤ a.2.length
  r2 : a.2.length ≤ 64
  c1 : 1 ≤ c
  c2 : c ≤ 64
  row : ∀ i, i < a.2.length → (a.2.getD i []).length = c
  lo : ∀ i k, i < a.2.length → k < c → 0 ≤ ent a.2 i k
  hi : ∀ i k, i < a.2.length → k < c → ent a.2 i k < a.1
theorem check_vd {a : Mat} (h : checkM a = 0) : Vd a (a.2.getD 0 []).length := by
  rw [checkM] at h
  split at h
  · cases h
  rename_i hp
  split at h
  · cases h
  rename_i hb
  split at h
  · rename_i hall
    have hrow : ∀ i, i < a.2.length → goodRow a.1 (a.2.getD 0 []).length (a.2.getD i []) = true := fun i hi => by
      rw [List.getD_eq_getElem?_getD (l := a.2) (i := i), List.getElem?_eq_getElem hi]
      exact List.all_eq_true.1 hall _ (List.getElem_mem _)
    have key : ∀ i, i < a.2.length → (a.2.getD i []).length = (a.2.getD 0 []).length ∧ ∀ k, k < (a.2.getD i []).length → 0 ≤ ent a.2 i k ∧ ent a.2 i k < a.1 := fun i hi => by
      have hg := hrow i hi
      simp only [goodRow, Bool.and_eq_true, decide_eq_true_eq, Bool.not_eq_true'] at hg
      refine ⟨hg.1, fun k hk => ⟨?_, ?_⟩⟩
      · refine Int.not_lt.1 fun hlt => ?_
        have := (any_index (P := fun x => decide (x < 0))).2 ⟨k, hk, decide_eq_true hlt⟩
        rw [hg.2.1] at this; cases this
      · refine Int.not_le.1 fun hlt => ?_
        have := (any_index (P := fun x => decide (a.1 ≤ x))).2 ⟨k, hk, decide_eq_true hlt⟩
        rw [hg.2.2] at this; cases this
    exact ⟨by simpa using hp, by omega, by omega, by omega, by omega, fun i hi => (key i hi).1, fun i k hi hk => ((key i hi).2 k (by rw [(key i hi).1]; exact hk)).1, fun i k hi hk => ((key i hi).2 k (by rw [(key i hi).1]; exact hk)).2⟩
  · cases h
theorem vd_check {a : Mat} {c : Nat} (v : Vd a c) : checkM a = 0 := by
  have h0 := v.row 0 v.r1
  have := v.r1
  have := v.r2
  have := v.c1
  have := v.c2
  rw [checkM, if_neg (by rw [v.p]; simp), if_neg (by omega), if_pos]
  rw [List.all_eq_true]
  intro r hr
  obtain ⟨i, hi, rfl⟩ := List.mem_iff_getElem.1 hr
  have e : a.2[i] = a.2.getD i [] := by rw [List.getD_eq_getElem?_getD, List.getElem?_eq_getElem hi]; rfl
  have hrow := v.row i hi
  rw [goodRow, e, hrow, h0, decide_eq_true rfl, Bool.true_and, Bool.and_eq_true, Bool.not_eq_true', Bool.not_eq_true']
  constructor
  · rw [← Bool.not_eq_true, any_index]
    rintro ⟨k, hk, hd⟩
    have := v.lo i k hi (by omega)
    rw [ent] at this
    have := of_decide_eq_true hd
    omega
  · rw [← Bool.not_eq_true, any_index]
    rintro ⟨k, hk, hd⟩
    have := v.hi i k hi (by omega)
    rw [ent] at this
    have := of_decide_eq_true hd
    omega

/-- v times a. -/
def applyF (v : List Int) (a : Mat) (c : Nat) : List Int := mkV c (fun k => sm v.length (fun i => v.getD i 0 * ent a.2 i k) % a.1)
end Go.Proofs.Ytlhebmcnjgagjaa

/- Layer 4: rows that are appended. -/
namespace Go.Proofs.Ytlhebmcnjgagjaa
open Go Go.Ay
set_option maxRecDepth 100000
theorem app_at {h h' : H} {x y v : V} {sz bytes b n m : Nat} {ws us : List V} (o : Own h x sz ws b) (hn : ws.length = n * sz) (hm0 : m ≠ 0) (hz : 0 < sz) (hy : SV h y sz us) (hm : us.length = m * sz) (e : appP h sz bytes x y = some (v, h')) : v = .sl h.next 0 (n + m) (.un sz) := by
  simp only [appP, hy.len hm hz, hy.slice] at e
  unfold Ay.appV at e
  simp only [o.sv.len hn hz, o.sv.slice, if_neg hm0] at e
  split at e
  · rcases o with ⟨rfl, rfl⟩ | ⟨id, n', cap, rest, rfl, h1, h2, h3, h4, h5⟩
    · simp at e; exact e.1.symm
    · have : n' = n := Nat.eq_of_mul_eq_mul_right hz (h1.symm.trans hn)
      subst this
      rcases h2 with rfl | ⟨rfl, rfl⟩
      · simp only [h5, if_true] at e
        simp at e; exact e.1.symm
      · simp only at e
        rw [if_neg (by omega)] at e
        simp at e; exact e.1.symm
  · cases e
theorem SI.lt {h : H} {w : V} {r : List Int} (s : SI h w r) {id off n : Nat} {c : Cap} (e : w = .sl id off n c) : id < h.next := by
  rcases s with ⟨h1 | ⟨_, h1⟩, _⟩ | ⟨id', o', l', c', _, _, h1, _, h3, _⟩
  · rw [h1] at e; cases e
  · rw [h1] at e; cases e
  · rw [h1] at e; cases e; exact h3
theorem SI.keep {h h' : H} {w : V} {r : List Int} (s : SI h w r) (hn : h.next ≤ h'.next) (hg : ∀ id off n c, w = .sl id off n c → h'.get id = h.get id) : SI h' w r := by
  rcases s with h1 | ⟨id, o', l', c', ro, vs, h1, h2, h3, h4, h5, h6⟩
  · exact .inl h1
  · exact .inr ⟨id, o', l', c', ro, vs, h1, h2, Nat.lt_of_lt_of_le h3 hn, by rw [hg _ _ _ _ h1]; exact h4, h5, h6⟩
theorem All2.keep {α β : Type} {R S : α → β → Prop} : ∀ {as : List α} {bs : List β}, All2 R as bs → (∀ a ∈ as, ∀ b, R a b → S a b) → All2 S as bs
  | [], [], _, _ => trivial
  | a :: as, b :: bs, h, k => ⟨k a (List.mem_cons_self ..) b h.1, All2.keep h.2 fun x hx y => k x (List.mem_cons_of_mem _ hx) y⟩
  | [], _ :: _, h, _ => h.elim
  | _ :: _, [], h, _ => h.elim
theorem own_apart {h : H} {u : V} {sz b k : Nat} {ws : List V} (o : Own h u sz ws b) (hk : k < b) : Apart u k := by
  rcases o with ⟨h1, _⟩ | ⟨id, n, cap, rest, h1, _, _, h2, _⟩
  · rw [h1]; exact Apart.nils k
  · rw [h1]; exact Apart.sl (by omega)
/-- Rows that the call has made. -/
structure Rws (h : H) (u : V) (ws : List V) (ll : List (List Int)) (lo : Nat) : Prop where
  own : Own h u 1 ws lo
  row : All2 (SI h) ws ll
  dis : ∀ w ∈ ws, Dis u w
  frs : ∀ w ∈ ws, Frs w lo
theorem Rws.nils (h : H) (lo : Nat) : Rws h .nils [] [] lo := ⟨Own.nils _ _ _, trivial, fun _ h => (by cases h), fun _ h => by cases h⟩
theorem Rws.sr {h : H} {u : V} {ws : List V} {ll : List (List Int)} {lo : Nat} (r : Rws h u ws ll lo) : SR h u ll := ⟨ws, r.own.sv, r.row⟩
theorem Rws.fr {h h' : H} {u : V} {ws : List V} {ll : List (List Int)} {lo : Nat} (r : Rws h u ws ll lo) (f : Fr h h') : Rws h' u ws ll lo := ⟨r.own.fr f, r.row.mono fun _ _ s => s.mono f, r.dis, r.frs⟩
theorem Rws.set {h : H} {u : V} {ws : List V} {ll : List (List Int)} {lo x : Nat} (r : Rws h u ws ll lo) (hx : x < lo) (o : Option Ob) : Rws (h.set x o) u ws ll lo :=
  ⟨r.own.set hx o, All2.keep r.row fun w hw b s => SI.keep s (Nat.le_refl _) fun id off n c e => H.get_set_ne h (by have := r.frs w hw _ _ _ _ e; omega) o, r.dis, r.frs⟩
theorem Rws.app {h : H} {u : V} {ws : List V} {ll : List (List Int)} {lo : Nat} (r : Rws h u ws ll lo) (hlo : lo ≤ h.next) {w y : V} {l : List Int} (hy : SV h y 1 [w]) (hw : SI h w l) (dw : Dis u w) (fw : Frs w lo) (hs : ws.length < 1000000) :
    ∃ v h', appP h 1 24 u y = some (v, h') ∧ Rws h' v (ws ++ [w]) (ll ++ [l]) lo ∧ h.next ≤ h'.next ∧ (∀ k, k < h.next → Apart u k → h'.get k = h.get k) ∧ ∀ a, Fr a h → a.next ≤ lo → Fr a h' := by
  obtain ⟨v, h', e, a⟩ := r.own.app (bytes := 24) (n := ws.length) (m := 1) (us := [w]) (y := y) hlo hy (by omega) rfl (by omega) (by omega)
  have ev := app_at r.own (n := ws.length) (by omega) (m := 1) (by omega) (by omega) hy rfl e
  have hg := a.get
  have hn := a.next
  have keep : ∀ x l, SI h x l → Dis u x → SI h' x l := fun x l s d => SI.keep s (by omega) fun id off n c e => hg id (SI.lt s e) fun id' o' n' c' e' h0 => d _ _ _ _ e' _ _ _ _ e h0.symm
  refine ⟨v, h', e, ⟨a.own, All2.append (All2.keep r.row fun x hx b s => keep x b s (r.dis x hx)) ⟨keep w l hw dw, trivial⟩, fun x hx => ?_, fun x hx => (by
    rcases List.mem_append.1 hx with hx | hx
    · exact r.frs x hx
    · rw [List.mem_singleton.1 hx]; exact fw)⟩, by omega, hg, a.fr⟩
  have hxl : ∃ l, SI h x l := by
    rcases List.mem_append.1 hx with hx | hx
    · obtain ⟨i, hi, rfl⟩ := List.mem_iff_getElem.1 hx
      have := r.row.length
      exact ⟨_, r.row.get i hi (by omega)⟩
    · rw [List.mem_singleton.1 hx]; exact ⟨_, hw⟩
  obtain ⟨lx, sx⟩ := hxl
  intro i o n c e1 i' o' n' c' e2
  rw [ev] at e1; cases e1
  have := SI.lt sx e2
  omega
/-- A list of one row that is laid at an index that was kept for it. -/
def litAt (h : H) (a : Nat) (w : V) : H := H.mk ((H.mk h.tr a).new (.cells false [w])).tr h.next
theorem litAt_eq (h : H) (a : Nat) (w : V) : H.mk ((H.mk h.tr a).new (.cells false [w])).tr h.next = litAt h a w := rfl
theorem litAt_get (h : H) (a : Nat) (w : V) : (litAt h a w).get a = some (.cells false [w]) := by
  rw [litAt, H.get_next']; exact H.get_new_same ..
theorem litAt_ne (h : H) {a k : Nat} (w : V) (hk : k ≠ a) : (litAt h a w).get k = h.get k := by
  rw [litAt, H.get_next', H.get_new_ne _ hk, H.get_next']
theorem litAt_fr {b h : H} (f : Fr b h) {a : Nat} (ha : b.next ≤ a) (w : V) : Fr b (litAt h a w) := ⟨f.next, fun k hk => (litAt_ne h w (by omega)).trans (f.get k hk)⟩
theorem litAt_sv (h : H) {a : Nat} (w : V) (ha : a < h.next) : SV (litAt h a w) (.sl a 0 1 (.kn 1)) 1 [w] := .inr ⟨a, 0, 1, _, false, [w], rfl, rfl, ha, litAt_get h a w, Nat.le_refl _, rfl⟩
end Go.Proofs.Ytlhebmcnjgagjaa

/- Layer 4: the product. -/
namespace Go.Proofs.Ytlhebmcnjgagjaa
open Go Go.Ay
set_option maxRecDepth 100000
/-- Rows from a function. -/
def mkR (r c : Nat) (f : Nat → Nat → Int) : List (List Int) := (List.range r).map fun i => mkV c (f i)
theorem mkR_len (r c : Nat) (f : Nat → Nat → Int) : (mkR r c f).length = r := by rw [mkR, List.length_map, List.length_range]
theorem mkR_row {r c : Nat} (f : Nat → Nat → Int) {i : Nat} (hi : i < r) : (mkR r c f).getD i [] = mkV c (f i) := by
  rw [mkR, List.getD_eq_getElem?_getD, List.getElem?_map, List.getElem?_range hi]; rfl
theorem mkR_ent {r c : Nat} (f : Nat → Nat → Int) {i k : Nat} (hi : i < r) (hk : k < c) : ent (mkR r c f) i k = f i k := by rw [ent, mkR_row f hi, mkV_get _ hk]
theorem mkR_succ (r c : Nat) (f : Nat → Nat → Int) : mkR (r + 1) c f = mkR r c f ++ [mkV c (f r)] := by
  rw [mkR, List.range_succ, List.map_append]; rfl
theorem mkR_congr {r c : Nat} {f g : Nat → Nat → Int} (h : ∀ i k, i < r → k < c → f i k = g i k) : mkR r c f = mkR r c g := by
  rw [mkR, mkR]
  refine List.map_congr_left fun i hi => mkV_congr fun k hk => h i k (List.mem_range.1 hi) hk
theorem bls_v (h : H) (w : V) (hw : w.cells = [w]) (h1 : w.one = true) : blsV h 1 [.nils] 1 [(0, 1, w)] = some (.sl h.next 0 1 (.kn 1), h.new (.cells false [w])) := by
  have e1 : putAt [V.nils] 0 [w] = some [w] := by simp [putAt]
  simp only [blsV, fillV, zerosV, hw, List.length_singleton, List.all_cons, List.all_nil, h1, Bool.and_self, and_self, if_true, e1, Option.map_some]
  simp [hw, h1, putAt]
theorem bldV_fst {z1 z2 v : V} (hv : v.cells = [v]) (hv1 : v.one = true) : bldV [z1, z2] [(0, 1, v)] = some (.agg [v, z2]) := by
  have e1 : putAt [z1, z2] 0 [v] = some [v, z2] := by simp [putAt]
  simp only [bldV, fillV, hv, List.length_singleton, List.all_cons, List.all_nil, hv1, Bool.and_self, and_self, if_true, e1, Option.map_some]
theorem putO_snd {x y v : V} (h : H) (id : Nat) : putO (some (.cells false [x, y])) h id 1 [v] = some (h.set id (some (.cells false [x, v]))) := by
  simp [putO, putAt]
theorem Rws.le {h : H} {u : V} {ws : List V} {ll : List (List Int)} {lo lo' : Nat} (r : Rws h u ws ll lo) (hl : lo' ≤ lo) : Rws h u ws ll lo' := ⟨r.own.le hl, r.row, r.dis, fun w hw => (r.frs w hw).le hl⟩
/-- A matrix that the call has made. -/
def MatO (h : H) (v : V) (a : Mat) (lo : Nat) : Prop := ∃ u ws, v = .agg [.int .i64 a.1, u] ∧ Rws h u ws a.2 lo
theorem MatO.mv {h : H} {v : V} {a : Mat} {lo : Nat} (o : MatO h v a lo) : MatV h v a := by
  obtain ⟨u, ws, e, r⟩ := o; exact ⟨u, e, r.sr⟩
/-- The product. -/
def mulF (a b : Mat) (ca cb : Nat) : Mat := (a.1, mkR a.2.length cb (fun i k => sm ca (fun j => ent a.2 i j * ent b.2 j k) % a.1))
end Go.Proofs.Ytlhebmcnjgagjaa

/- Layer 4: fit, Mul. -/
namespace Go.Proofs.Ytlhebmcnjgagjaa
open Go Go.Ay
set_option maxRecDepth 100000
/-- A new box, filled. -/
def bxH (h : H) (N : Int) (u : V) : H := (h.new (.cells false [.int .i64 0, .nils])).set h.next (some (.cells false [.int .i64 N, u]))
theorem bxH_eq (h : H) (N : Int) (u : V) : (h.new (.cells false [.int .i64 0, .nils])).set h.next (some (.cells false [.int .i64 N, u])) = bxH h N u := rfl
theorem bxH_fr (h : H) (N : Int) (u : V) : Fr h (bxH h N u) := ((Fr.refl h).new _).set (Nat.le_refl _) _
theorem bxH_get (h : H) (N : Int) (u : V) : (bxH h N u).get h.next = some (.cells false [.int .i64 N, u]) := H.get_set_same ..
theorem bxH_next (h : H) (N : Int) (u : V) : (bxH h N u).next = h.next + 1 := by rw [bxH, H.next_set, H.next_new]
def fitF (a b : Mat) : Int := if checkM a ≠ 0 then checkM a else if checkM b ≠ 0 then checkM b else if b.1 ≠ a.1 then 10 else 0
end Go.Proofs.Ytlhebmcnjgagjaa

/- Layer 4: Mul. -/
namespace Go.Proofs.Ytlhebmcnjgagjaa
open Go Go.Ay
set_option maxRecDepth 100000
def MulF (a b : Mat) : Mat × Int :=
  if fitF a b ≠ 0 then ((0, []), fitF a b) else if (a.2.getD 0 []).length ≠ b.2.length then ((0, []), 10) else (mulF a b (a.2.getD 0 []).length (b.2.getD 0 []).length, 0)
end Go.Proofs.Ytlhebmcnjgagjaa

/- Layer 4: residue, the identity. -/
namespace Go.Proofs.Ytlhebmcnjgagjaa
open Go Go.Ay
set_option maxRecDepth 100000
theorem set_all2 {h h' : H} {ws : List V} {ll : List (List Int)} (a : All2 (SI h) ws ll) (i : Nat) {w : V} {l : List Int} (hw : SI h' w l) (k : ∀ x ∈ ws, ∀ b, SI h x b → SI h' x b) : All2 (SI h') (ws.set i w) (ll.set i l) := (All2.keep a k).set i hw
/-- A new row in its place. -/
theorem Rws.put {h h' : H} {R n : Nat} {c : Cap} {ws : List V} {ll : List (List Int)} {lo : Nat} (r : Rws h (.sl R 0 n c) ws ll lo) (hc : c = .kn n) (hn : h.next ≤ h'.next) (hg : ∀ k, k < h.next → k ≠ R → h'.get k = h.get k) {i : Nat} {w : V} {l : List Int} (hR : h'.get R = some (.cells false (ws.set i w))) (hw : SI h' w l) (fw : Frs w h.next) : Rws h' (.sl R 0 n c) (ws.set i w) (ll.set i l) lo := by
  subst hc
  have hRn : R < h.next ∧ lo ≤ R ∧ ws.length = n * 1 := by
    rcases r.own with ⟨h1, _⟩ | ⟨id, n', cap, rest, h1, h2, _, h3, h4, _⟩
    · cases h1
    · cases h1; exact ⟨h4, h3, h2⟩
  refine ⟨.inr ⟨R, n, .kn n, [], rfl, by rw [List.length_set]; exact hRn.2.2, .inr ⟨rfl, rfl⟩, hRn.2.1, by omega, by rw [List.append_nil]; exact hR⟩, set_all2 r.row i hw fun x hx b s => SI.keep s hn fun id off m c e => hg id (SI.lt s e) fun e2 => r.dis x hx _ _ _ _ rfl _ _ _ _ e e2.symm, fun x hx => ?_, fun x hx => ?_⟩
  · rcases List.mem_or_eq_of_mem_set hx with hx | rfl
    · exact r.dis x hx
    · intro i' o m c e i2 o2 m2 c2 e2
      cases e
      have := fw _ _ _ _ e2
      omega
  · rcases List.mem_or_eq_of_mem_set hx with hx | rfl
    · exact r.frs x hx
    · exact fw.le (by omega)
/-- The identity. -/
def oneF (n : Nat) (p : Int) : Mat := (p, mkR n n (fun i k => if i = k then 1 else 0))
end Go.Proofs.Ytlhebmcnjgagjaa

/- Layer 4: One. -/
namespace Go.Proofs.Ytlhebmcnjgagjaa
open Go Go.Ay
set_option maxRecDepth 100000
def OneF (n p : Int) : Mat × Int := if fieldF p = false then ((0, []), 3) else if n < 1 ∨ 64 < n then ((0, []), 2) else (oneF n.toNat p, 0)
end Go.Proofs.Ytlhebmcnjgagjaa

/- Layer 4: Scale. -/
namespace Go.Proofs.Ytlhebmcnjgagjaa
open Go Go.Ay
set_option maxRecDepth 100000
end Go.Proofs.Ytlhebmcnjgagjaa

/- Layer 4: Apply. -/
namespace Go.Proofs.Ytlhebmcnjgagjaa
open Go Go.Ay
set_option maxRecDepth 100000
def ApplyF (v : List Int) (a : Mat) : List Int × Int :=
  if checkM a ≠ 0 then ([], checkM a) else if v.length ≠ a.2.length then ([], 10) else (applyF (mkV v.length (fun i => v.getD i 0 % a.1)) a (a.2.getD 0 []).length, 0)
end Go.Proofs.Ytlhebmcnjgagjaa

/- Layer 4: zip of rows. -/
namespace Go.Proofs.Ytlhebmcnjgagjaa
open Go Go.Ay
set_option maxRecDepth 100000
theorem Rws.get {h : H} {R n : Nat} {ws : List V} {ll : List (List Int)} {lo : Nat} (r : Rws h (.sl R 0 n (.kn n)) ws ll lo) : h.get R = some (.cells false ws) ∧ ws.length = n ∧ R < h.next := by
  rcases r.own with ⟨h1, _⟩ | ⟨id, n', cap, rest, h1, h2, h3, _, h4, h5⟩
  · cases h1
  · cases h1
    rcases h3 with h3 | ⟨_, h3⟩
    · cases h3
    · subst h3
      rw [List.append_nil] at h5
      exact ⟨h5, by omega, h4⟩
end Go.Proofs.Ytlhebmcnjgagjaa

/- Layer 4: Add. -/
namespace Go.Proofs.Ytlhebmcnjgagjaa
open Go Go.Ay
set_option maxRecDepth 100000
def AddF (a b : Mat) : Mat × Int :=
  if fitF a b ≠ 0 then ((0, []), fitF a b) else if a.2.length ≠ b.2.length ∨ (a.2.getD 0 []).length ≠ (b.2.getD 0 []).length then ((0, []), 10)
  else ((a.1, mkR a.2.length (a.2.getD 0 []).length (fun i k => (ent a.2 i k + 1 * ent b.2 i k) % a.1)), 0)
end Go.Proofs.Ytlhebmcnjgagjaa

/- Layer 4: rows that grow in their places. -/
namespace Go.Proofs.Ytlhebmcnjgagjaa
open Go Go.Ay
set_option maxRecDepth 100000
structure Gow (h : H) (R n : Nat) (ws : List V) (ll : List (List Int)) (lo : Nat) : Prop where
  gR : h.get R = some (.cells false ws)
  lw : ws.length = n
  lr : ll.length = n
  hR : R < lo
  lt : lo ≤ h.next
  own : ∀ k, k < n → Own h (ws.getD k .undef) 1 (ints (ll.getD k [])) lo
  dis : ∀ k k', k < n → k' < n → k ≠ k' → Dis (ws.getD k .undef) (ws.getD k' .undef)
theorem Gow.fr {h h' : H} {R n : Nat} {ws : List V} {ll : List (List Int)} {lo : Nat} (g : Gow h R n ws ll lo) (f : Fr h h') : Gow h' R n ws ll lo :=
  ⟨(f.get R (Nat.lt_of_lt_of_le g.hR g.lt)).trans g.gR, g.lw, g.lr, g.hR, Nat.le_trans g.lt f.next, fun k hk => (g.own k hk).fr f, g.dis⟩
theorem Gow.rws {h : H} {R n : Nat} {ws : List V} {ll : List (List Int)} {lo : Nat} (g : Gow h R n ws ll lo) : Rws h (.sl R 0 n (.kn n)) ws ll R := by
  have hlt := g.lt
  have hR := g.hR
  have getw : ∀ k (hk : k < ws.length), ws.getD k .undef = ws[k] := fun k hk => by rw [List.getD_eq_getElem?_getD, List.getElem?_eq_getElem hk]; rfl
  have getl : ∀ k (hk : k < ll.length), ll.getD k [] = ll[k] := fun k hk => by rw [List.getD_eq_getElem?_getD, List.getElem?_eq_getElem hk]; rfl
  have ow : ∀ w ∈ ws, ∃ r, Own h w 1 (ints r) lo := fun w hw => by
    obtain ⟨k, hk, rfl⟩ := List.mem_iff_getElem.1 hw
    exact ⟨_, by rw [← getw k hk]; exact g.own k (by rw [← g.lw]; exact hk)⟩
  refine ⟨.inr ⟨R, n, .kn n, [], rfl, by rw [g.lw, Nat.mul_one], .inr ⟨rfl, rfl⟩, Nat.le_refl _, by omega, by rw [List.append_nil]; exact g.gR⟩, All2.of_get (by rw [g.lw, g.lr]) fun k h1 h2 => ?_, fun w hw => ?_, fun w hw => ?_⟩
  · rw [← getw k h1, ← getl k h2]
    exact (g.own k (by rw [← g.lw]; exact h1)).sv
  · obtain ⟨r, o⟩ := ow w hw
    intro i o' m c e i2 o2 m2 c2 e2
    cases e
    have := Frs.own o _ _ _ _ e2
    omega
  · obtain ⟨r, o⟩ := ow w hw
    exact (Frs.own o).le (by omega)
theorem Gow.push {h : H} {R n : Nat} {ws : List V} {ll : List (List Int)} {lo : Nat} (g : Gow h R n ws ll lo) {k : Nat} (hk : k < n) {y : V} {x : Int} (hy : SV h y 1 (ints [x])) (hs : (ll.getD k []).length < 1000000) :
    ∃ v h', appP h 1 8 (ws.getD k .undef) y = some (v, h') ∧ v.cells = [v] ∧ v.one = true ∧ Gow (h'.set R (some (.cells false (ws.set k v)))) R n (ws.set k v) (ll.set k (ll.getD k [] ++ [x])) lo ∧ h'.get R = some (.cells false ws) ∧ h.next ≤ h'.next ∧ ∀ id, id < lo → h'.get id = h.get id := by
  have hlt := g.lt
  have hR := g.hR
  have ok := g.own k hk
  obtain ⟨v, h', e, a⟩ := ok.app (bytes := 8) (n := (ll.getD k []).length) (m := 1) (us := ints [x]) (y := y) g.lt hy (by rw [ints_length, Nat.mul_one]) rfl (by omega) (by omega)
  have ev := app_at ok (n := (ll.getD k []).length) (by rw [ints_length, Nat.mul_one]) (m := 1) (by omega) (by omega) hy rfl e
  have hv := SV.what a.own.sv
  have hn := a.next
  have low : ∀ id, id < lo → h'.get id = h.get id := fun id hid => a.get id (by omega) (own_apart ok hid)
  have gw : ∀ j, (ws.set k v).getD j .undef = if k = j then v else ws.getD j .undef := fun j => by
    rw [getD_set]
    split
    · rw [if_pos (by rw [g.lw]; exact hk)]
    · rfl
  have gl : ∀ j, (ll.set k (ll.getD k [] ++ [x])).getD j [] = if k = j then ll.getD k [] ++ [x] else ll.getD j [] := fun j => by
    rw [getD_set]
    split
    · rw [if_pos (by rw [g.lr]; exact hk)]
    · rfl
  have other : ∀ j, j < n → k ≠ j → Own h' (ws.getD j .undef) 1 (ints (ll.getD j [])) lo := fun j hj hne => (g.own j hj).mono hn fun id off m c e1 h1 h2 => a.get id h2 fun id' off' m' c' e2 he => g.dis k j hk hj hne _ _ _ _ e2 _ _ _ _ e1 he.symm
  refine ⟨v, h', e, hv.1, hv.2.1, ⟨H.get_set_same .., by rw [List.length_set]; exact g.lw, by rw [List.length_set]; exact g.lr, g.hR, by rw [H.next_set]; omega, fun j hj => ?_, fun j j' hj hj' hne => ?_⟩, (low R hR).trans g.gR, hn, low⟩
  · rw [gw, gl]
    by_cases hkj : k = j
    · rw [if_pos hkj, if_pos hkj, ints_append]
      exact a.own.set hR _
    · rw [if_neg hkj, if_neg hkj]
      exact (other j hj hkj).set hR _
  · rw [gw, gw]
    have lt : ∀ j, j < n → ∀ id off m c, ws.getD j .undef = .sl id off m c → id < h.next := fun j hj id off m c e1 => by
      rcases g.own j hj with ⟨h1, _⟩ | ⟨id', _, _, _, h1, _, _, _, h2, _⟩
      · rw [h1] at e1; cases e1
      · rw [h1] at e1; cases e1; exact h2
    by_cases hkj : k = j
    · rw [if_pos hkj, if_neg (by omega)]
      intro i o m c e1 i2 o2 m2 c2 e2
      rw [ev] at e1; cases e1
      have := lt j' hj' _ _ _ _ e2
      omega
    · rw [if_neg hkj]
      by_cases hkj' : k = j'
      · rw [if_pos hkj']
        intro i o m c e1 i2 o2 m2 c2 e2
        rw [ev] at e2; cases e2
        have := lt j hj _ _ _ _ e1
        omega
      · rw [if_neg hkj']
        exact g.dis j j' hj hj' hne
end Go.Proofs.Ytlhebmcnjgagjaa

/- Layer 4: Turn. -/
namespace Go.Proofs.Ytlhebmcnjgagjaa
open Go Go.Ay
set_option maxRecDepth 100000
/-- Cells that are laid at a kept index. -/
def litV (h : H) (a : Nat) (l : List V) (m : Nat) : H := H.mk ((H.mk h.tr a).new (.cells false l)).tr m
theorem litV_eq (h : H) (a : Nat) (l : List V) (m : Nat) : H.mk ((H.mk h.tr a).new (.cells false l)).tr m = litV h a l m := rfl
theorem litV_get (h : H) (a : Nat) (l : List V) (m : Nat) : (litV h a l m).get a = some (.cells false l) := by
  rw [litV, H.get_next']; exact H.get_new_same ..
theorem litV_ne (h : H) {a k : Nat} (l : List V) (m : Nat) (hk : k ≠ a) : (litV h a l m).get k = h.get k := by
  rw [litV, H.get_next', H.get_new_ne _ hk, H.get_next']
theorem litV_next (h : H) (a : Nat) (l : List V) (m : Nat) : (litV h a l m).next = m := rfl
theorem litV_cell (h : H) (a : Nat) (l : List V) (m off : Nat) : (litV h a l m).cell a off = l[off]? := H.cell_of (litV_get ..) off
theorem litV_cell_ne (h : H) {a k : Nat} (l : List V) (m off : Nat) (hk : k ≠ a) : (litV h a l m).cell k off = h.cell k off := by unfold H.cell; rw [litV_ne h l m hk]
attribute [go_sem] litV_get litV_ne litV_next litV_cell litV_cell_ne
theorem eqV_sl (a b c : Nat) (d : Cap) : eqV (.sl a b c d) (.sl a b c d) = true := by simp [eqV]
theorem bls_int (h : H) (x : Int) : blsV h 1 [.int .i64 0] 1 [(0, 1, .int .i64 x)] = some (.sl h.next 0 1 (.kn 1), h.new (.cells false (ints [x]))) := by
  simp [blsV, fillV, zerosV, V.cells, V.one, putAt, ints]
theorem litV_fr {b h : H} (f : Fr b h) {a m : Nat} (ha : b.next ≤ a) (hm : b.next ≤ m) (l : List V) : Fr b (litV h a l m) := ⟨hm, fun k hk => (litV_ne h l m (by omega)).trans (f.get k hk)⟩
def TurnF (a : Mat) : Mat × Int :=
  if checkM a ≠ 0 then ((0, []), checkM a) else ((a.1, mkR (a.2.getD 0 []).length a.2.length (fun k i => ent a.2 i k)), 0)
theorem mkV_succ (n : Nat) (f : Nat → Int) : mkV (n + 1) f = mkV n f ++ [f n] := by
  rw [mkV, List.range_succ, List.map_append]; rfl
end Go.Proofs.Ytlhebmcnjgagjaa

/- Layer 4: Same, the laws' helpers; the reference's primes. -/
namespace Go.Proofs.Ytlhebmcnjgagjaa
open Go Go.Ay
set_option maxRecDepth 100000
theorem lists_ext {a b : List (List Int)} (hl : a.length = b.length) (h : ∀ j, j < a.length → a.getD j [] = b.getD j []) : a = b := by
  apply List.ext_getElem hl
  intro i h1 h2
  have := h i h1
  rw [List.getD_eq_getElem?_getD, List.getElem?_eq_getElem h1, List.getD_eq_getElem?_getD, List.getElem?_eq_getElem h2] at this
  exact this
theorem sameLists_ok (va vb : V) (a b : List (List Int)) (h : H) (ha : SR h va a) (hb : SR h vb b) (hla : a.length < 1000000) (hlb : b.length < 1000000) (hra : ∀ i, i < a.length → (a.getD i []).length < 1000000) (hrb : ∀ i, i < b.length → (b.getD i []).length < 1000000) :
    Ev T n_kit_SameLists_int [va, vb] h (fun v h' => v = .bool (decide (a = b)) ∧ Fr h h') := by
  refine Ev_of t_kit_SameLists_int rfl ?_
  obtain ⟨id, off, ws, hsl, hid, hwl, hc, hall⟩ := ha.open
  obtain ⟨id2, off2, ws2, hsl2, hid2, hwl2, hc2, hall2⟩ := hb.open
  simp (disch := first | omega | (simp only [Qn] <;> omega)) only [go_sem, c_kit_SameLists_int, initV_eq, ha.lens, hb.lens]
  refine iteW_dec (fun hne => ?_) (fun heq => ?_)
  · simp (disch := first | omega | (simp only [Qn] <;> omega)) only [go_sem]
    have : a ≠ b := fun e => hne (by rw [e])
    exact ⟨by rw [decide_eq_false this], Fr.refl h⟩
  have heq : a.length = b.length := by omega
  simp (disch := first | omega | (simp only [Qn] <;> omega)) only [go_sem]
  refine Wp_loop (fun k' vars h2 => ∃ (i : Nat), (∃ g : Nat → V, vars = [va, vb, g 2, .int .i64 (i : Int), g 4, g 5, g 6]) ∧ i ≤ a.length ∧ (∀ j, j < i → a.getD j [] = b.getD j []) ∧ Fr h h2 ∧ k' = a.length - i) a.length
    ⟨0, ex_junk rfl, Nat.zero_le _, fun j hj => by omega, Fr.refl h, rfl⟩ ?_
  rintro k' vars h2 ⟨i, ⟨g, rfl⟩, hi, hpre, hf2, rfl⟩
  simp (disch := first | omega | (simp only [Qn] <;> omega)) only [go_sem, ha.lens]
  by_cases hlt : (i : Int) < (a.length : Int)
  · rw [decide_eq_true hlt]
    have hc' := cells_fr hf2 hid hc i (by omega)
    have hc2' := cells_fr hf2 hid2 hc2 i (by omega)
    simp (disch := first | omega | (simp only [Qn] <;> omega)) only [go_sem, hsl.ixa, hsl2.ixa, hc', hc2']
    have fb := hf2.bump (n := h2.next + 10) (by omega)
    have r1 := (row_at hall (i := i) (by omega)).mono fb
    have r2 := (row_at hall2 (i := i) (by omega)).mono fb
    have hc3 : (H.mk h2.tr (h2.next + 10)).cell id (off + i) = some (ws.getD i .undef) := hc'
    have hc4 : (H.mk h2.tr (h2.next + 10)).cell id2 (off2 + i) = some (ws2.getD i .undef) := hc2'
    generalize H.mk h2.tr (h2.next + 10) = hh at *
    refine (same_ok _ _ _ _ hh r1 r2 (hra i (by omega)) (hrb i (by omega))).mono ?_
    rintro v h3 ⟨rfl, f3⟩
    have f4 := fb.trans f3
    by_cases e : a.getD i [] = b.getD i []
    · rw [decide_eq_true e]
      simp (disch := first | omega | (simp only [Qn] <;> omega)) only [go_sem]
      rw [show (i : Int) + 1 = ((i + 1 : Nat) : Int) from by omega]
      refine ⟨a.length - (i + 1), by omega, i + 1, ex_junk rfl, by omega, fun j hj => ?_, f4, rfl⟩
      by_cases h3 : j = i
      · rw [h3]; exact e
      · exact hpre j (by omega)
    · rw [decide_eq_false e]
      simp (disch := first | omega | (simp only [Qn] <;> omega)) only [go_sem]
      have : a ≠ b := fun e2 => e (by rw [e2])
      exact ⟨by rw [decide_eq_false this], f4⟩
  · rw [decide_eq_false hlt]
    simp (disch := first | omega | (simp only [Qn] <;> omega)) only [go_sem]
    have : a = b := lists_ext heq fun j hj => hpre j (by omega)
    exact ⟨by rw [decide_eq_true this], hf2⟩
/-- A matrix of moderate size. -/
def Fit (a : Mat) : Prop := a.2.length < 1000000 ∧ ∀ i, i < a.2.length → (a.2.getD i []).length < 1000000
theorem ref_is_prime_ok (n : Int) (h : H) : Ev T n_ref03_Is [.int .i64 n] h (fun v h' => v = .bool (isP n) ∧ h' = h) := by
  refine Ev_of t_ref03_Is rfl ?_
  simp (disch := first | omega | (simp only [Qn] <;> omega)) only [go_sem, c_ref03_Is, initV_eq]
  by_cases h1 : n < 2
  · rw [decide_eq_true h1]
    simp (disch := first | omega | (simp only [Qn] <;> omega)) only [go_sem, undef_eq]
    exact ⟨by rw [isP, decide_eq_false (by omega)]; rfl, trivial⟩
  rw [decide_eq_false h1]
  simp (disch := first | omega | (simp only [Qn] <;> omega)) only [go_sem]
  by_cases h2 : (1000000 : Int) ≤ n
  · rw [decide_eq_true h2]
    simp (disch := first | omega | (simp only [Qn] <;> omega)) only [go_sem]
    exact ⟨by rw [isP, decide_eq_false (show ¬ n < 1000000 by omega)]; simp, trivial⟩
  rw [decide_eq_false h2]
  obtain ⟨m, rfl⟩ : ∃ m : Nat, n = (m : Int) := ⟨n.toNat, by omega⟩
  simp (disch := first | omega | (simp only [Qn] <;> omega)) only [go_sem]
  have e0 : isP (m : Int) = decide (divF m = m) := by
    rw [isP, decide_eq_true (show (1 : Int) < m by omega), decide_eq_true (show (m : Int) < 1000000 by omega), Int.toNat_natCast]; rfl
  rw [e0]
  refine Wp_loop (fun k vars h3 => ∃ (d : Nat), (∃ g : Nat → V, vars = [.int .i64 (m : Int), g 1, .int .i64 (d : Int), g 3, g 4, g 5]) ∧ 2 ≤ d ∧ d + k = 1002 ∧ divG m k d = divF m ∧ h3 = h) 1000
    ⟨2, ex_junk rfl, Nat.le_refl _, rfl, rfl, rfl⟩ ?_
  rintro k vars h3 ⟨d, ⟨g, rfl⟩, hd2, hdm, hod, rfl⟩
  have hdd : d * d ≤ 1002 * 1002 := Nat.mul_le_mul (by omega) (by omega)
  have em0 : (d : Int) * (d : Int) = ((d * d : Nat) : Int) := (Int.natCast_mul ..).symm
  have hsq : d * 2 ≤ d * d := Nat.mul_le_mul_left d hd2
  have em : (m : Int).tmod (d : Int) = ((m % d : Nat) : Int) := tmod_nat ..
  cases k with
  | zero =>
    have hgt : ¬ d * d ≤ m := by
      have hd' : d = 1002 := by omega
      subst hd'; omega
    rw [divG] at hod
    generalize d * d = dd at *
    simp (disch := first | omega | (simp only [Qn] <;> omega)) only [go_sem, em0]
    rw [decide_eq_false (show ¬ (dd : Int) ≤ (m : Int) by omega)]
    simp (disch := first | omega | (simp only [Qn] <;> omega)) only [go_sem]
    exact ⟨by rw [← hod, decide_eq_true rfl], trivial⟩
  | succ k =>
    rw [divG] at hod
    generalize d * d = dd at *
    simp (disch := first | omega | (simp only [Qn] <;> omega)) only [go_sem, em0]
    refine iteW_dec (fun hle => ?_) (fun hgt => ?_)
    · rw [if_pos (by omega)] at hod
      simp (disch := first | omega | (simp only [Qn] <;> omega)) only [go_sem, em]
      refine iteW_dec (fun hz => ?_) (fun hz => ?_)
      · rw [if_pos (by omega)] at hod
        simp (disch := first | omega | (simp only [Qn] <;> omega)) only [go_sem]
        exact ⟨by rw [← hod, decide_eq_false (by omega)], trivial⟩
      · rw [if_neg (by omega)] at hod
        simp (disch := first | omega | (simp only [Qn] <;> omega)) only [go_sem]
        rw [show (d : Int) + 1 = ((d + 1 : Nat) : Int) from by omega]
        exact ⟨k, by omega, d + 1, ex_junk rfl, by omega, by omega, hod, trivial⟩
    · rw [if_neg (by omega)] at hod
      simp (disch := first | omega | (simp only [Qn] <;> omega)) only [go_sem]
      exact ⟨by rw [← hod, decide_eq_true rfl], trivial⟩
theorem ref_field_ok (p : Int) (h : H) : Ev T n_ref04_Field [.int .i64 p] h (fun v h' => v = .bool (fieldF p) ∧ h' = h) := by
  refine Ev_of t_ref04_Field rfl ?_
  simp (disch := first | omega | (simp only [Qn] <;> omega)) only [go_sem, c_ref04_Field, initV_eq]
  by_cases h1 : p < 10000
  · rw [decide_eq_true h1]
    simp (disch := first | omega | (simp only [Qn] <;> omega)) only [go_sem]
    refine (ref_is_prime_ok p h).mono ?_
    rintro v h' ⟨rfl, rfl⟩
    simp (disch := first | omega | (simp only [Qn] <;> omega)) only [go_sem]
    exact ⟨by rw [fieldF, decide_eq_true h1, Bool.true_and], trivial⟩
  · rw [decide_eq_false h1]
    simp (disch := first | omega | (simp only [Qn] <;> omega)) only [go_sem, undef_eq]
    exact ⟨by rw [fieldF, decide_eq_false h1]; rfl, trivial⟩
end Go.Proofs.Ytlhebmcnjgagjaa

/- Layer 4: matrices that are read, and matrices that are filled; the reference's blank, one, One. -/
namespace Go.Proofs.Ytlhebmcnjgagjaa
open Go Go.Ay
set_option maxRecDepth 100000
/-- What a walk wants to know of a matrix that it reads. -/
structure Rd (h : H) (u : V) (A : List (List Int)) (c id off : Nat) (ws : List V) (ρ o : Nat → Nat) : Prop where
  sl : Sl u 1 A.length id off
  lt : ∀ i, i < A.length → id < h.next
  at_ : ∀ i, i < A.length → h.cell id (off + i) = some (ws.getD i .undef)
  row : ∀ i, i < A.length → SI h (ws.getD i .undef) (A.getD i [])
  rsl : ∀ i, i < A.length → Sl (ws.getD i .undef) 1 c (ρ i) (o i)
  rlt : ∀ i k, i < A.length → k < c → ρ i < h.next
  ent : ∀ i k, i < A.length → k < c → h.cell (ρ i) (o i + k) = some (.int .i64 (ent A i k))
theorem SR.rd {h : H} {u : V} {A : List (List Int)} (s : SR h u A) {c : Nat} (hc : ∀ i, i < A.length → (A.getD i []).length = c) : ∃ id off ws ρ o, Rd h u A c id off ws ρ o := by
  obtain ⟨id, off, ws, sl, hid, hwl, hcA, hall⟩ := s.open
  have key : ∀ i, ∃ r : Nat × Nat, i < A.length → Sl (ws.getD i .undef) 1 c r.1 r.2 ∧ (0 < c → r.1 < h.next) ∧ ∀ k : Nat, k < c → h.cell r.1 (r.2 + k) = some (.int .i64 ((A.getD i []).getD k 0)) := fun i => by
    by_cases hi : i < A.length
    · obtain ⟨x, y, h1, h2, h3⟩ := (row_at hall hi).open
      rw [hc i hi] at h1 h2 h3
      exact ⟨(x, y), fun _ => ⟨h1, h2, h3⟩⟩
    · exact ⟨(0, 0), fun h => absurd h hi⟩
  exact ⟨id, off, ws, fun i => (key i).choose.1, fun i => (key i).choose.2, sl, fun i hi => hid (by omega), hcA, fun i hi => row_at hall hi, fun i hi => ((key i).choose_spec hi).1, fun i k hi hk => ((key i).choose_spec hi).2.1 (by omega), fun i k hi hk => ((key i).choose_spec hi).2.2 k hk⟩
theorem Rd.fr {h h' : H} {u : V} {A : List (List Int)} {c id off : Nat} {ws : List V} {ρ o : Nat → Nat} (r : Rd h u A c id off ws ρ o) (f : Fr h h') : Rd h' u A c id off ws ρ o :=
  ⟨r.sl, fun i hi => Nat.lt_of_lt_of_le (r.lt i hi) f.next, fun i hi => by rw [f.cell (r.lt i hi)]; exact r.at_ i hi, fun i hi => (r.row i hi).mono f, r.rsl, fun i k hi hk => Nat.lt_of_lt_of_le (r.rlt i k hi hk) f.next, fun i k hi hk => by rw [f.cell (r.rlt i k hi hk)]; exact r.ent i k hi hk⟩
theorem Rd.lens {h : H} {u : V} {A : List (List Int)} {c id off : Nat} {ws : List V} {ρ o : Nat → Nat} (r : Rd h u A c id off ws ρ o) {i : Nat} (hi : i < A.length) : lensV (ws.getD i .undef) = some (.int .i64 (c : Int)) := (r.rsl i hi).lens
/-- A matrix that the call fills. -/
structure Grd (h : H) (R n c : Nat) (ρ : Nat → Nat) (f : Nat → Nat → Int) (lo : Nat) : Prop where
  gR : h.get R = some (.cells false ((List.range n).map fun i => V.sl (ρ i) 0 c (.kn c)))
  row : ∀ i, i < n → h.get (ρ i) = some (.cells false (ints (mkV c (f i))))
  inj : ∀ i j, i < n → j < n → ρ i = ρ j → i = j
  hR : lo ≤ R
  ltR : R < h.next
  hρ : ∀ i, i < n → lo ≤ ρ i
  ltρ : ∀ i, i < n → ρ i < h.next
  ne : ∀ i, i < n → ρ i ≠ R
theorem Grd.fr {h h' : H} {R n c : Nat} {ρ : Nat → Nat} {f : Nat → Nat → Int} {lo : Nat} (g : Grd h R n c ρ f lo) (F : Fr h h') : Grd h' R n c ρ f lo :=
  ⟨(F.get R g.ltR).trans g.gR, fun i hi => (F.get _ (g.ltρ i hi)).trans (g.row i hi), g.inj, g.hR, Nat.lt_of_lt_of_le g.ltR F.next, g.hρ, fun i hi => Nat.lt_of_lt_of_le (g.ltρ i hi) F.next, g.ne⟩
theorem Grd.le {h : H} {R n c : Nat} {ρ : Nat → Nat} {f : Nat → Nat → Int} {lo lo' : Nat} (g : Grd h R n c ρ f lo) (hl : lo' ≤ lo) : Grd h R n c ρ f lo' :=
  ⟨g.gR, g.row, g.inj, Nat.le_trans hl g.hR, g.ltR, fun i hi => Nat.le_trans hl (g.hρ i hi), g.ltρ, g.ne⟩
/-- A cell that lies below. -/
theorem Grd.set {h : H} {R n c : Nat} {ρ : Nat → Nat} {f : Nat → Nat → Int} {lo x : Nat} (g : Grd h R n c ρ f lo) (hx : x < lo) (o : Option Ob) : Grd (h.set x o) R n c ρ f lo :=
  ⟨by rw [H.get_set_ne _ (by have := g.hR; omega)]; exact g.gR, fun i hi => by rw [H.get_set_ne _ (by have := g.hρ i hi; omega)]; exact g.row i hi, g.inj, g.hR, g.ltR, g.hρ, g.ltρ, g.ne⟩
theorem Grd.congr {h : H} {R n c : Nat} {ρ : Nat → Nat} {f f' : Nat → Nat → Int} {lo : Nat} (g : Grd h R n c ρ f lo) (e : ∀ i k, i < n → k < c → f i k = f' i k) : Grd h R n c ρ f' lo :=
  ⟨g.gR, fun i hi => by rw [g.row i hi, mkV_congr fun k hk => e i k hi hk], g.inj, g.hR, g.ltR, g.hρ, g.ltρ, g.ne⟩
theorem Grd.cR {h : H} {R n c : Nat} {ρ : Nat → Nat} {f : Nat → Nat → Int} {lo : Nat} (g : Grd h R n c ρ f lo) : ∀ i, i < n → h.cell R i = some (.sl (ρ i) 0 c (.kn c)) := fun i hi => by
  rw [H.cell_of g.gR, List.getElem?_map, List.getElem?_range hi]; rfl
theorem Grd.cρ {h : H} {R n c : Nat} {ρ : Nat → Nat} {f : Nat → Nat → Int} {lo : Nat} (g : Grd h R n c ρ f lo) : ∀ i k, i < n → k < c → h.cell (ρ i) k = some (.int .i64 (f i k)) := fun i k hi hk => by
  rw [H.cell_of (g.row i hi), ints_getD (by rw [mkV_len]; exact hk), mkV_get _ hk]
def upF (f : Nat → Nat → Int) (i k : Nat) (x : Int) : Nat → Nat → Int := fun a b => if a = i ∧ b = k then x else f a b
theorem mkV_set {n : Nat} {f : Nat → Int} {k : Nat} (x : Int) : (mkV n f).set k x = mkV n (fun j => if j = k then x else f j) := by
  refine mkV_eq (by rw [List.length_set, mkV_len]) fun j hj => ?_
  rw [getD_set, mkV_len]
  by_cases e : k = j
  · subst e; rw [if_pos rfl, if_pos hj, if_pos rfl]
  · rw [if_neg e, if_neg (by omega), mkV_get _ hj]
theorem Grd.put {h : H} {R n c : Nat} {ρ : Nat → Nat} {f : Nat → Nat → Int} {lo : Nat} (g : Grd h R n c ρ f lo) {i k : Nat} (hi : i < n) (hk : k < c) (x : Int) :
    putO (h.get (ρ i)) h (ρ i) k [.int .i64 x] = some (h.set (ρ i) (some (.cells false (ints (mkV c (upF f i k x i)))))) ∧ Grd (h.set (ρ i) (some (.cells false (ints (mkV c (upF f i k x i)))))) R n c ρ (upF f i k x) lo := by
  have e : (mkV c (f i)).set k x = mkV c (upF f i k x i) := by
    rw [mkV_set]
    exact mkV_congr fun j _ => by
      simp only [upF, true_and]
  refine ⟨by rw [g.row i hi, putO_ints (by rw [mkV_len]; exact hk), e], ⟨?_, fun j hj => ?_, g.inj, g.hR, g.ltR, g.hρ, g.ltρ, g.ne⟩⟩
  · rw [H.get_set_ne _ (fun e => g.ne i hi e.symm)]; exact g.gR
  · by_cases e : j = i
    · subst e; rw [H.get_set_same]
    · rw [H.get_set_ne _ fun h => e (g.inj j i hj hi h), g.row j hj, mkV_congr fun b _ => ?_]
      simp only [upF]
      rw [if_neg fun h => e h.1]
theorem Grd.rws {h : H} {R n c : Nat} {ρ : Nat → Nat} {f : Nat → Nat → Int} {lo : Nat} (g : Grd h R n c ρ f lo) {cap : Cap} (hcap : cap = .un 1 ∨ cap = .kn n) : Rws h (.sl R 0 n cap) ((List.range n).map fun i => V.sl (ρ i) 0 c (.kn c)) (mkR n c f) lo := by
  refine ⟨.inr ⟨R, n, cap, [], rfl, by simp, ?_, g.hR, g.ltR, by rw [List.append_nil]; exact g.gR⟩, All2.of_get (by simp [mkR]) fun i h1 h2 => ?_, fun w hw => ?_, fun w hw => ?_⟩
  · rcases hcap with h | h
    · exact .inl h
    · exact .inr ⟨h, rfl⟩
  · simp only [List.length_map, List.length_range] at h1
    simp only [List.getElem_map, List.getElem_range, mkR]
    have := SI.own (h := h) (g.ltρ i h1) (g.row i h1) (.kn c)
    rw [mkV_len] at this
    exact this
  · obtain ⟨i, hi, rfl⟩ := List.mem_map.1 hw
    intro _ _ _ _ e1 _ _ _ _ e2
    cases e1; cases e2
    exact fun e => g.ne i (List.mem_range.1 hi) e.symm
  · obtain ⟨i, hi, rfl⟩ := List.mem_map.1 hw
    intro _ _ _ _ e2
    cases e2
    exact g.hρ i (List.mem_range.1 hi)
set_option maxHeartbeats 4000000 in
theorem blank_ok (p : Int) (n c : Nat) (h : H) (hn : 1 ≤ n) (hn2 : n ≤ 1000) (hc : c ≤ 1000) : Ev T n_ref04_blank [.int .i64 p, .int .i64 (n : Int), .int .i64 (c : Int)] h (fun w h' => ∃ R ρ, w = .agg [.int .i64 p, .sl R 0 n (.un 1)] ∧ Grd h' R n c ρ (fun _ _ => 0) h.next ∧ Fr h h') := by
  refine Ev_of t_ref04_blank rfl ?_
  have hbl := bldV_fst (z1 := .int .i64 0) (z2 := .nils) (v := .int .i64 p) rfl rfl
  have hst := fun hh id => stV_agg2 hh id 0 (v := .int .i64 p) (u := .nils) rfl rfl
  simp (disch := first | omega | (simp only [Qn] <;> omega)) only [go_sem, c_ref04_blank, initV_eq, hbl]
  have hfa : Fr h (h.new (.cells false [.int .i64 0, .nils])) := (Fr.refl h).new _
  have hga : (h.new (.cells false [.int .i64 0, .nils])).get h.next = some (.cells false [.int .i64 0, .nils]) := H.get_new_same ..
  have hna : (h.new (.cells false [.int .i64 0, .nils])).next = h.next + 1 := H.next_new ..
  generalize h.new (.cells false [.int .i64 0, .nils]) = ha at *
  rw [← hna]
  simp (disch := first | omega | (simp only [Qn] <;> omega)) only [go_sem, hst, bxH_eq]
  have fB := hfa.trans (bxH_fr ha p .nils)
  have gB := bxH_get ha p .nils
  have nB := bxH_next ha p .nils
  have gA := ((bxH_fr ha p .nils).get h.next (by omega)).trans hga
  generalize bxH ha p .nils = hB at *
  obtain ⟨O, hO⟩ : ∃ O, ha.next = O := ⟨_, rfl⟩
  obtain ⟨lo, hlo⟩ : ∃ lo, O + 1 = lo := ⟨_, rfl⟩
  rw [hO] at gB nB
  rw [hO]
  have er : ∀ (i : Nat) (ρ ρ' : Nat → Nat), (∀ j, j < i → ρ j = ρ' j) → (List.range i).map (fun j => V.sl (ρ j) 0 c (.kn c)) = (List.range i).map (fun j => V.sl (ρ' j) 0 c (.kn c)) := fun i ρ ρ' e => List.map_congr_left fun j hj => by rw [e j (List.mem_range.1 hj)]
  refine Wp_loop (fun k' vars h3 => ∃ (i : Nat) (ρ : Nat → Nat) (u : V), (∃ g : Nat → V, vars = [.int .i64 p, .int .i64 (n : Int), .int .i64 (c : Int), .ptr h.next 0, .ptr O 0, .int .i64 (i : Int), g 6]) ∧ i ≤ n ∧ Own h3 u 1 ((List.range i).map fun j => V.sl (ρ j) 0 c (.kn c)) lo ∧ (∀ j, j < i → Apart u (ρ j) ∧ lo ≤ ρ j ∧ ρ j < h3.next ∧ h3.get (ρ j) = some (.cells false (ints (mkV c fun _ => 0)))) ∧ (∀ j k, j < i → k < i → ρ j = ρ k → j = k) ∧ (0 < i → ∃ R, u = .sl R 0 i (.un 1) ∧ lo ≤ R ∧ R < h3.next ∧ h3.get R = some (.cells false ((List.range i).map fun j => V.sl (ρ j) 0 c (.kn c)))) ∧ h3.get O = some (.cells false [.int .i64 p, u]) ∧ lo ≤ h3.next ∧ Fr hB (h3.set O (some (.cells false [.int .i64 p, .nils]))) ∧ k' = n - i) n
    ⟨0, fun _ => 0, .nils, ex_junk rfl, Nat.zero_le _, Own.nils _ _ _, fun j hj => absurd hj (Nat.not_lt_zero j), fun j k hj => absurd hj (Nat.not_lt_zero j), fun h0 => absurd h0 (Nat.not_lt_zero 0), gB, by omega, ⟨Nat.le_refl _, fun k hk => by
      by_cases e : k = O
      · subst e; rw [H.get_set_same, gB]
      · rw [H.get_set_ne _ e]⟩, rfl⟩ ?_
  rintro k' vars h3 ⟨i, ρ, u, ⟨g, rfl⟩, hi, o3, r3, i3, w3, g3, n3, f3, rfl⟩
  simp (disch := first | omega | (simp only [Qn] <;> omega)) only [go_sem]
  by_cases hlt : (i : Int) < (n : Int)
  · rw [decide_eq_true hlt]
    have cO : h3.cell O 1 = some u := by rw [H.cell_of g3]; rfl
    have emk : mksV (H.mk h3.tr (h3.next + 3)) 1 8 [.int .i64 0] (.int .i64 (c : Int)) (.int .i64 (c : Int)) = some (.sl (h3.next + 3) 0 c (.kn c), (H.mk h3.tr (h3.next + 3)).new (.cells false (ints (mkV c fun _ => 0)))) := by
      rw [mksV_int (by omega) (Int.le_refl _) (by omega) (by omega), Int.toNat_natCast, Nat.mul_one, zeros_int, show List.replicate c (0 : Int) = mkV c (fun _ => 0) from mkV_eq (List.length_replicate ..) fun j hj => by rw [List.getD_eq_getElem?_getD, List.getElem?_replicate, if_pos hj]; rfl]
    have hbls := fun hh => bls_v hh (.sl (h3.next + 3) 0 c (.kn c)) rfl rfl
    simp (disch := first | omega | (simp only [Qn] <;> omega)) only [go_sem, cO, emk, hbls, litV_eq]
    obtain ⟨hh, hhe⟩ : ∃ hh, hh = litV (litV h3 (h3.next + 3) (ints (mkV c fun _ => 0)) (h3.next + 8)) (h3.next + 4) [.sl (h3.next + 3) 0 c (.kn c)] (h3.next + 8) := ⟨_, rfl⟩
    have fh : Fr h3 hh := by rw [hhe]; exact litV_fr (litV_fr (Fr.refl h3) (by omega) (by omega) _) (by omega) (by omega) _
    have nh : hh.next = h3.next + 8 := by rw [hhe]; rfl
    have gr : hh.get (h3.next + 3) = some (.cells false (ints (mkV c fun _ => 0))) := by rw [hhe]; simp (disch := first | omega | (simp only [Qn] <;> omega)) only [go_sem]
    have gl : hh.get (h3.next + 4) = some (.cells false [.sl (h3.next + 3) 0 c (.kn c)]) := by rw [hhe]; simp (disch := first | omega | (simp only [Qn] <;> omega)) only [go_sem]
    rw [← hhe]
    clear hhe emk
    obtain ⟨v, h6, e6, a6⟩ := (o3.fr fh).app (bytes := 24) (n := i) (m := 1) (us := [.sl (h3.next + 3) 0 c (.kn c)]) (y := .sl (h3.next + 4) 0 1 (.kn 1)) (by omega) (SV.all rfl (by omega) gl _) (by simp) rfl (by omega) (by omega)
    have ev := app_at (o3.fr fh) (n := i) (by simp) (m := 1) (by omega) (by omega) (SV.all rfl (by omega) gl (.kn 1)) rfl e6
    rcases a6.what with ⟨h1, _⟩ | ⟨R, h1, h2, h4, h5⟩
    · omega
    have hv := SV.what a6.own.sv
    have hR : R = hh.next := by rw [ev] at h1; cases h1; rfl
    have apO : Apart u O := own_apart o3 (by omega)
    have gO6 := (a6.get O (by omega) apO).trans ((fh.get O (by omega)).trans g3)
    have hst1 := fun hh => stV_one hv.1 hv.2.1 hh O 1
    simp (disch := first | omega | (simp only [Qn] <;> omega)) only [go_sem, e6, hst1, gO6, putO_snd]
    rw [show (i : Int) + 1 = ((i + 1 : Nat) : Int) from by omega]
    have el : (List.range (i + 1)).map (fun j => V.sl (if j = i then h3.next + 3 else ρ j) 0 c (.kn c)) = (List.range i).map (fun j => V.sl (ρ j) 0 c (.kn c)) ++ [.sl (h3.next + 3) 0 c (.kn c)] := by
      rw [List.range_succ, List.map_append, er i (fun j => if j = i then h3.next + 3 else ρ j) ρ fun j hj => if_neg (by omega)]
      simp
    have apn : Apart u (h3.next + 3) := fun id off m cc e => by
      rcases o3 with ⟨h1, _⟩ | ⟨id', _, _, _, h1, _, _, _, h2, _⟩
      · rw [h1] at e; cases e
      · rw [h1] at e; cases e; omega
    have row6 : ∀ j, j < i + 1 → ∃ r, r = (if j = i then h3.next + 3 else ρ j) ∧ lo ≤ r ∧ r < hh.next ∧ h6.get r = some (.cells false (ints (mkV c fun _ => 0))) := fun j hj => by
      refine ⟨_, rfl, ?_⟩
      by_cases e : j = i
      · rw [if_pos e]
        exact ⟨by omega, by omega, (a6.get _ (by omega) apn).trans gr⟩
      · rw [if_neg e]
        obtain ⟨q1, q2, q3, q4⟩ := r3 j (by omega)
        exact ⟨q2, by omega, (a6.get _ (by omega) q1).trans ((fh.get _ q3).trans q4)⟩
    refine ⟨n - (i + 1), by omega, i + 1, fun j => if j = i then h3.next + 3 else ρ j, v, ex_junk rfl, by omega, ?_, fun j hj => ?_, fun j k hj hk e => ?_, fun _ => ⟨R, h1, h2, h4, ?_⟩, rfl, by have := a6.next; omega, ?_, rfl⟩
    · rw [el]
      exact a6.own.set (by omega) _
    · obtain ⟨r, q0, q1, q2, q3⟩ := row6 j hj
      simp only
      rw [← q0]
      refine ⟨?_, q1, by have := a6.next; show r < h6.next; omega, by rw [H.get_set_ne _ (by omega)]; exact q3⟩
      rw [h1]
      exact Apart.sl (by omega)
    · simp only at e
      by_cases e1 : j = i
      · by_cases e2 : k = i
        · omega
        · rw [if_pos e1, if_neg e2] at e
          have := (r3 k (by omega)).2.2.1
          omega
      · by_cases e2 : k = i
        · rw [if_neg e1, if_pos e2] at e
          have := (r3 j (by omega)).2.2.1
          omega
        · rw [if_neg e1, if_neg e2] at e
          exact i3 j k (by omega) (by omega) e
    · rw [H.get_set_ne _ (by omega), h5, el]
    · have n6 := a6.next
      refine ⟨by have := f3.next; rw [H.next_set] at *; rw [H.next_set]; omega, fun k hk => ?_⟩
      have := f3.get k hk
      by_cases e : k = O
      · subst e; rw [H.get_set_same] at *; exact this
      · rw [H.get_set_ne _ e, H.get_set_ne _ e]
        rw [H.get_set_ne _ e] at this
        have ak : Apart u k := own_apart o3 (by omega)
        exact (a6.get k (by omega) ak).trans ((fh.get k (by omega)).trans this)
  · rw [decide_eq_false hlt]
    obtain rfl : i = n := by omega
    obtain ⟨R, rfl, q1, q2, q3⟩ := w3 (by omega)
    have rr := row_two g3
    have fA : h3.get h.next = some (.cells false [.int .i64 0, .nils]) := by
      have := f3.get h.next (by omega)
      rw [H.get_set_ne _ (by omega)] at this
      exact this.trans gA
    have hst2 := fun hh => stV_agg2 hh h.next 0 (v := .int .i64 p) (u := .sl R 0 i (.un 1)) rfl rfl
    have hrow := row_two (h := h3.set h.next (some (.cells false [.int .i64 p, .sl R 0 i (.un 1)]))) (H.get_set_same ..)
    simp (disch := first | omega | (simp only [Qn] <;> omega)) only [go_sem, rr, hst2, fA, hrow]
    refine ⟨R, ρ, rfl, ?_, ?_⟩
    · have : Grd h3 R i c ρ (fun _ _ => 0) lo := ⟨q3, fun j hj => (r3 j hj).2.2.2, i3, q1, q2, fun j hj => (r3 j hj).2.1, fun j hj => (r3 j hj).2.2.1, fun j hj => (r3 j hj).1 _ _ _ _ rfl⟩
      exact (this.set (by omega) _).le (by omega)
    · have := fB.trans f3
      refine ⟨this.next, fun k hk => ?_⟩
      have q := this.get k hk
      rw [H.get_set_ne _ (by omega)] at q ⊢
      exact q
end Go.Proofs.Ytlhebmcnjgagjaa

/- Layer 4: the reference's one, One. -/
namespace Go.Proofs.Ytlhebmcnjgagjaa
open Go Go.Ay
set_option maxRecDepth 100000
theorem Grd.mato {h : H} {R n c : Nat} {ρ : Nat → Nat} {f : Nat → Nat → Int} {lo : Nat} (g : Grd h R n c ρ f lo) (p : Int) : MatO h (.agg [.int .i64 p, .sl R 0 n (.un 1)]) (p, mkR n c f) lo := ⟨_, _, rfl, g.rws (.inl rfl)⟩
end Go.Proofs.Ytlhebmcnjgagjaa

/- Layer 4: the reference's Check, both. -/
namespace Go.Proofs.Ytlhebmcnjgagjaa
open Go Go.Ay
set_option maxRecDepth 100000
set_option maxHeartbeats 8000000 in
theorem ref_check_ok (v : V) (a : Mat) (h : H) (ha : MatV h v a) (hlen : (a.2.length : Int) ≤ 2 ^ 63 - 1) : Ev T n_ref04_Check [v] h (fun v h' => v = .int .i64 (checkM a) ∧ Fr h h') := by
  obtain ⟨u, rfl, hu⟩ := ha
  obtain ⟨p, rows⟩ := a
  simp only at hu hlen
  refine Ev_of t_ref04_Check rfl ?_
  have hw := SV.what hu.choose_spec.1
  simp (disch := first | omega | (simp only [Qn] <;> omega)) only [go_sem, c_ref04_Check, initV_eq, boxV_agg2 h (v := .int .i64 p) rfl hw.2.1]
  have hfx : Fr h (h.new (.cells false [.int .i64 p, u])) := (Fr.refl h).new _
  have hgx : (h.new (.cells false [.int .i64 p, u])).get h.next = some (.cells false [.int .i64 p, u]) := H.get_new_same ..
  have hnx : (h.new (.cells false [.int .i64 p, u])).next = h.next + 1 := H.next_new ..
  generalize h.new (.cells false [.int .i64 p, u]) = hx at *
  have x0 : hx.cell h.next 0 = some (.int .i64 p) := by rw [H.cell_of hgx]; rfl
  have x1 : hx.cell h.next 1 = some u := by rw [H.cell_of hgx]; rfl
  refine (ref_field_ok p hx).mono ?_
  rintro v h' ⟨rfl, rfl⟩
  cases hf : fieldF p with
  | false =>
    simp (disch := first | omega | (simp only [Qn] <;> omega)) only [go_sem]
    exact ⟨by rw [checkM, if_pos hf], hfx⟩
  | true =>
    have hF : ∀ w : Int, (if rows.length < 1 ∨ 64 < rows.length ∨ (rows.getD 0 []).length < 1 ∨ 64 < (rows.getD 0 []).length then (2 : Int) else if rows.all (goodRow p (rows.getD 0 []).length) then 0 else 3) = w → checkM (p, rows) = w := fun w e => by
      rw [checkM, if_neg (by simp [hf])]; exact e
    simp (disch := first | omega | (simp only [Qn] <;> omega)) only [go_sem, x1, hu.lens]
    by_cases a1 : (rows.length : Int) < 1
    · rw [decide_eq_true a1]
      simp (disch := first | omega | (simp only [Qn] <;> omega)) only [go_sem, undef_eq]
      exact ⟨by rw [hF 2 (if_pos (.inl (by omega)))], hfx⟩
    rw [decide_eq_false a1]
    simp (disch := first | omega | (simp only [Qn] <;> omega)) only [go_sem, x1, hu.lens]
    by_cases a2 : (64 : Int) < (rows.length : Int)
    · rw [decide_eq_true a2]
      simp (disch := first | omega | (simp only [Qn] <;> omega)) only [go_sem, undef_eq]
      exact ⟨by rw [hF 2 (if_pos (.inr (.inl (by omega))))], hfx⟩
    rw [decide_eq_false a2]
    obtain ⟨id, off, ws, su, hid, hwl, hc, hall⟩ := (hu.mono hfx).open
    have c0 : h'.cell id off = some (ws.getD 0 .undef) := hc 0 (by omega)
    have r0 := row_at hall (i := 0) (by omega)
    obtain ⟨n0, hn0⟩ : ∃ n, (rows.getD 0 []).length = n := ⟨_, rfl⟩
    have l0 := r0.lens
    rw [hn0] at hF l0
    simp (disch := first | omega | (simp only [Qn] <;> omega)) only [go_sem, x1, su.ixa, c0, l0]
    by_cases a3 : (n0 : Int) < 1
    · rw [decide_eq_true a3]
      simp (disch := first | omega | (simp only [Qn] <;> omega)) only [go_sem, undef_eq]
      exact ⟨by rw [hF 2 (if_pos (.inr (.inr (.inl (by omega)))))], hfx⟩
    rw [decide_eq_false a3]
    simp (disch := first | omega | (simp only [Qn] <;> omega)) only [go_sem, x1, su.ixa, c0, l0]
    by_cases a4 : (64 : Int) < (n0 : Int)
    · rw [decide_eq_true a4]
      simp (disch := first | omega | (simp only [Qn] <;> omega)) only [go_sem, undef_eq]
      exact ⟨by rw [hF 2 (if_pos (.inr (.inr (.inr (by omega)))))], hfx⟩
    rw [decide_eq_false a4]
    rw [if_neg (by omega)] at hF
    simp (disch := first | omega | (simp only [Qn] <;> omega)) only [go_sem]
    refine Wp_loop (fun k' vars h1 => ∃ i : Nat, (∃ g : Nat → V, vars = [g 0, .ptr h.next 0, g 2, .int .i64 (i : Int), g 4, g 5, g 6, g 7, g 8, g 9, g 10]) ∧ i ≤ rows.length ∧ (rows.take i).all (goodRow p n0) = true ∧ Fr h' h1 ∧ k' = rows.length - i) rows.length
      ⟨0, ex_junk rfl, Nat.zero_le _, rfl, Fr.refl h', rfl⟩ ?_
    rintro k' vars h1 ⟨i, ⟨g, rfl⟩, hi, ht, f1, rfl⟩
    have y1 : h1.cell h.next 1 = some u := by rw [f1.cell (by omega)]; exact x1
    simp (disch := first | omega | (simp only [Qn] <;> omega)) only [go_sem, y1, hu.lens]
    by_cases hlt : (i : Int) < (rows.length : Int)
    · rw [decide_eq_true hlt]
      have ci : h1.cell id (off + i) = some (ws.getD i .undef) := by rw [f1.cell (hid (by omega))]; exact hc i (by omega)
      have c01 : h1.cell id off = some (ws.getD 0 .undef) := by rw [f1.cell (hid (by omega))]; exact c0
      have ri0 := row_at hall (i := i) (by omega)
      have lr := ri0.lens
      obtain ⟨idr, offr, sr, hidr, hcr⟩ := ri0.open
      obtain ⟨r, hr⟩ : ∃ r, rows.getD i [] = r := ⟨_, rfl⟩
      rw [hr] at lr ri0 sr hidr hcr
      have hm := all_take (P := goodRow p n0) (l := rows) (i := i) [] (by omega)
      have hbad := all_bad (P := goodRow p n0) (l := rows) (i := i) [] (by omega)
      rw [hr] at hm hbad
      have h3 : goodRow p n0 r = false → checkM (p, rows) = 3 := fun hg => hF 3 (if_neg (by rw [hbad hg]; simp))
      have h0' : goodRow p n0 r = true → (rows.take (i + 1)).all (goodRow p n0) = true := fun hg => by rw [hm, ht, hg]; rfl
      simp (disch := first | omega | (simp only [Qn] <;> omega)) only [go_sem, y1, su.ixa, ci, c01, lr, l0]
      by_cases hrn : r.length = n0
      · have d1 : decide ((r.length : Int) ≠ (n0 : Int)) = false := decide_eq_false (by omega)
        rw [d1]
        simp (disch := first | omega | (simp only [Qn] <;> omega)) only [go_sem]
        rw [hrn] at sr hidr hcr lr
        have fb := f1.bump (n := h1.next + 12) (by omega)
        generalize H.mk h1.tr (h1.next + 12) = h2 at *
        refine Wp_loop (fun k' vars h1 => ∃ k : Nat, (∃ g : Nat → V, vars = [g 0, .ptr h.next 0, g 2, .int .i64 (i : Int), .int .i64 (k : Int), g 5, g 6, g 7, g 8, g 9, g 10]) ∧ k ≤ n0 ∧ (∀ j, j < k → 0 ≤ r.getD j 0 ∧ r.getD j 0 < p) ∧ Fr h' h1 ∧ k' = n0 - k) n0
          ⟨0, ex_junk rfl, Nat.zero_le _, fun j hj => absurd hj (Nat.not_lt_zero j), fb, rfl⟩ ?_
        clear fb f1 y1 ci c01 g
        rintro k' vars h1 ⟨k, ⟨g, rfl⟩, hk, hj, f1, rfl⟩
        have y0 : h1.cell h.next 0 = some (.int .i64 p) := by rw [f1.cell (by omega)]; exact x0
        have y1 : h1.cell h.next 1 = some u := by rw [f1.cell (by omega)]; exact x1
        have ci : h1.cell id (off + i) = some (ws.getD i .undef) := by rw [f1.cell (hid (by omega))]; exact hc i (by omega)
        simp (disch := first | omega | (simp only [Qn] <;> omega)) only [go_sem, y1, su.ixa, ci, lr]
        by_cases hlt2 : (k : Int) < (n0 : Int)
        · rw [decide_eq_true hlt2]
          have ck : h1.cell idr (offr + k) = some (.int .i64 (r.getD k 0)) := by rw [f1.cell (hidr (by omega))]; exact hcr k (by omega)
          simp (disch := first | omega | (simp only [Qn] <;> omega)) only [go_sem, y1, su.ixa, ci, sr.ixa, ck]
          have badk : (r.getD k 0 < 0 ∨ p ≤ r.getD k 0) → goodRow p n0 r = false := fun hb => by
            rw [goodRow, decide_eq_true hrn, Bool.true_and]
            rcases hb with hb | hb
            · rw [any_index.2 ⟨k, by omega, decide_eq_true hb⟩]; rfl
            · rw [(any_index (P := fun x => decide (p ≤ x))).2 ⟨k, by omega, decide_eq_true hb⟩]; simp
          by_cases n1 : r.getD k 0 < 0
          · rw [decide_eq_true n1]
            simp (disch := first | omega | (simp only [Qn] <;> omega)) only [go_sem, undef_eq]
            exact ⟨by rw [h3 (badk (.inl n1))], hfx.trans (f1.bump (by omega))⟩
          · rw [decide_eq_false n1]
            simp (disch := first | omega | (simp only [Qn] <;> omega)) only [go_sem, y1, y0, su.ixa, ci, sr.ixa, ck]
            by_cases n2 : p ≤ r.getD k 0
            · rw [decide_eq_true n2]
              simp (disch := first | omega | (simp only [Qn] <;> omega)) only [go_sem]
              exact ⟨by rw [h3 (badk (.inr n2))], hfx.trans (f1.bump (by omega))⟩
            · rw [decide_eq_false n2]
              simp (disch := first | omega | (simp only [Qn] <;> omega)) only [go_sem]
              rw [show (k : Int) + 1 = ((k + 1 : Nat) : Int) from by omega]
              refine ⟨n0 - (k + 1), by omega, k + 1, ex_junk rfl, by omega, fun j hj2 => ?_, f1.bump (by omega), rfl⟩
              by_cases e : j = k
              · subst e; omega
              · exact hj j (by omega)
        · rw [decide_eq_false hlt2]
          obtain rfl : k = n0 := by omega
          simp (disch := first | omega | (simp only [Qn] <;> omega)) only [go_sem]
          rw [show (i : Int) + 1 = ((i + 1 : Nat) : Int) from by omega]
          refine ⟨rows.length - (i + 1), by omega, i + 1, ex_junk rfl, by omega, h0' ?_, f1, rfl⟩
          rw [goodRow, decide_eq_true hrn, Bool.true_and, Bool.and_eq_true, Bool.not_eq_true', Bool.not_eq_true']
          constructor
          · rw [← Bool.not_eq_true, any_index]
            rintro ⟨j, hj1, hd⟩
            have := hj j (by omega)
            have := of_decide_eq_true hd
            omega
          · rw [← Bool.not_eq_true, any_index]
            rintro ⟨j, hj1, hd⟩
            have := hj j (by omega)
            have := of_decide_eq_true hd
            omega
      · have d1 : decide ((r.length : Int) ≠ (n0 : Int)) = true := decide_eq_true (by omega)
        rw [d1]
        simp (disch := first | omega | (simp only [Qn] <;> omega)) only [go_sem]
        exact ⟨by rw [h3 (by rw [goodRow, decide_eq_false hrn]; rfl)], hfx.trans (f1.bump (by omega))⟩
    · rw [decide_eq_false hlt]
      obtain rfl : i = rows.length := by omega
      rw [List.take_length] at ht
      simp (disch := first | omega | (simp only [Qn] <;> omega)) only [go_sem]
      exact ⟨by rw [hF 0 (if_pos ht)], hfx.trans f1⟩
end Go.Proofs.Ytlhebmcnjgagjaa

/- Layer 4: the reference's mul, Mul. -/
namespace Go.Proofs.Ytlhebmcnjgagjaa
open Go Go.Ay
set_option maxRecDepth 100000
theorem mul_bound {x y p : Int} (h0 : 0 ≤ x) (h1 : x < p) (h2 : 0 ≤ y) (h3 : y < p) (hp : p < 10000) : 0 ≤ x * y ∧ x * y < 100000000 := by
  have a := Int.mul_nonneg h0 h2
  have b := Int.mul_le_mul (show x ≤ 9999 by omega) (show y ≤ 9999 by omega) h2 (by omega)
  omega
end Go.Proofs.Ytlhebmcnjgagjaa

/- Layer 4: the reference's Mul, Add. -/
namespace Go.Proofs.Ytlhebmcnjgagjaa
open Go Go.Ay
set_option maxRecDepth 100000
/-- A new matrix in its box, at a number that was kept for it. -/
theorem box_grid {h4 hh hz : H} {R n c : Nat} {ρ : Nat → Nat} {f : Nat → Nat → Int} {O : Nat} {p : Int} (G : Grd h4 R n c ρ f hh.next) (f4 : Fr hh h4) (fb : Fr hz hh) (h1 : hz.next ≤ O) (h2 : O < hh.next) :
    ∃ hB, (litV h4 O [.int .i64 0, .nils] h4.next).set O (some (.cells false [.int .i64 p, .sl R 0 n (.un 1)])) = hB ∧ Grd hB R n c ρ f hh.next ∧ hB.get O = some (.cells false [.int .i64 p, .sl R 0 n (.un 1)]) ∧ Fr hz hB := by
  refine ⟨_, rfl, ?_, H.get_set_same .., ?_⟩
  · have gn : ∀ k, k ≠ O → ((litV h4 O [.int .i64 0, .nils] h4.next).set O (some (.cells false [.int .i64 p, .sl R 0 n (.un 1)]))).get k = h4.get k := fun k hk => by simp (disch := first | omega | (simp only [Qn] <;> omega)) only [go_sem]
    have hlR := G.hR
    have hlρ := G.hρ
    exact ⟨by rw [gn _ (by omega)]; exact G.gR, fun i hi => by rw [gn _ (by have := hlρ i hi; omega)]; exact G.row i hi, G.inj, G.hR, G.ltR, G.hρ, G.ltρ, G.ne⟩
  · exact ((litV_fr (fb.trans f4) h1 (by have := fb.next; have := f4.next; omega) _).set h1 _)
end Go.Proofs.Ytlhebmcnjgagjaa

/- Layer 4: the reference's Scale, Turn. -/
namespace Go.Proofs.Ytlhebmcnjgagjaa
open Go Go.Ay
set_option maxRecDepth 100000
set_option maxHeartbeats 8000000 in
theorem ref_Turn_ok (va : V) (a : Mat) (h : H) (ha : MatV h va a) (la : (a.2.length : Int) ≤ 2 ^ 63 - 1) :
    Ev T n_ref04_Turn [va] h (fun v h' => ∃ w, v = .tup [w, .int .i64 (TurnF a).2] ∧ MatO h' w (TurnF a).1 h.next ∧ Fr h h') := by
  obtain ⟨ua, rfl, hua⟩ := ha
  obtain ⟨p, A⟩ := a
  simp only at hua la
  refine Ev_of t_ref04_Turn rfl ?_
  have wa := SV.what hua.choose_spec.1
  simp (disch := first | omega | (simp only [Qn] <;> omega)) only [go_sem, c_ref04_Turn, initV_eq, boxV_agg2 h (v := .int .i64 p) rfl wa.2.1]
  have hfx : Fr h (h.new (.cells false [.int .i64 p, ua])) := (Fr.refl h).new _
  have hgx : (h.new (.cells false [.int .i64 p, ua])).get h.next = some (.cells false [.int .i64 p, ua]) := H.get_new_same ..
  have hnx : (h.new (.cells false [.int .i64 p, ua])).next = h.next + 1 := H.next_new ..
  generalize h.new (.cells false [.int .i64 p, ua]) = hx at *
  have hfy : Fr hx (hx.new (.cells false [.int .i64 0, .nils])) := (Fr.refl hx).new _
  have hgy : (hx.new (.cells false [.int .i64 0, .nils])).get hx.next = some (.cells false [.int .i64 0, .nils]) := H.get_new_same ..
  have hny : (hx.new (.cells false [.int .i64 0, .nils])).next = hx.next + 1 := H.next_new ..
  generalize hx.new (.cells false [.int .i64 0, .nils]) = hy at *
  have F := hfx.trans hfy
  have gx := (hfy.get h.next (by omega)).trans hgx
  have rx := row_two gx
  simp (disch := first | omega | (simp only [Qn] <;> omega)) only [go_sem, rx]
  refine (ref_check_ok _ (p, A) hy ⟨ua, rfl, hua.mono F⟩ la).mono ?_
  rintro v h6 ⟨rfl, f5⟩
  have F5 := F.trans f5
  have gx5 := (f5.get h.next (by omega)).trans gx
  have gy5 := (f5.get hx.next (by omega)).trans hgy
  have n5 := f5.next
  rw [← hnx]
  simp (disch := first | omega | (simp only [Qn] <;> omega)) only [go_sem]
  refine iteW_dec (fun he => ?_) (fun he => ?_)
  · have hst := fun hh => stV_agg2 hh hx.next 0 (v := .int .i64 0) (u := .nils) rfl rfl
    have hrow := row_two (h := h6.set hx.next (some (.cells false [.int .i64 0, .nils]))) (H.get_set_same ..)
    simp (disch := first | omega | (simp only [Qn] <;> omega)) only [go_sem, bldV_nil, hst, gy5, hrow]
    have e : TurnF (p, A) = ((0, []), checkM (p, A)) := by rw [TurnF, if_pos he]
    rw [e]
    exact ⟨_, rfl, ⟨.nils, [], rfl, Rws.nils _ _⟩, F5.set (by omega) _⟩
  have hz : checkM (p, A) = 0 := Classical.byContradiction he
  have da := check_vd hz
  have hp := fieldF_range da.p
  have hra1 := da.r1
  have hra2 := da.r2
  have hca1 := da.c1
  have hca2 := da.c2
  simp only at hp hra1 hra2
  obtain ⟨ca, hca⟩ : ∃ c, (A.getD 0 []).length = c := ⟨_, rfl⟩
  simp only [hca] at da hca1 hca2
  obtain ⟨ida, offa, wsa, ρa, oa, RA⟩ := SR.rd (hua.mono F5) fun i hi => da.row i hi
  have x0 : h6.cell h.next 0 = some (.int .i64 p) := by rw [H.cell_of gx5]; rfl
  have x1 : h6.cell h.next 1 = some ua := by rw [H.cell_of gx5]; rfl
  have ca0 : h6.cell ida offa = some (wsa.getD 0 .undef) := RA.at_ 0 hra1
  simp (disch := first | omega | (simp only [Qn] <;> omega)) only [go_sem, x0, x1, RA.sl.ixa, ca0, hua.lens, RA.lens hra1]
  have fb : Fr h6 (H.mk h6.tr (h6.next + 13)) := (Fr.refl h6).bump (by omega)
  have nb : (H.mk h6.tr (h6.next + 13)).next = h6.next + 13 := rfl
  generalize H.mk h6.tr (h6.next + 13) = hh at *
  refine (blank_ok p ca A.length hh hca1 (by omega) (by omega)).mono ?_
  rintro w h4 ⟨R, ρ, rfl, G, f4⟩
  have n4 := f4.next
  have hst := fun hh id => stV_agg2 hh id 0 (v := .int .i64 p) (u := .sl R 0 ca (.un 1)) rfl rfl
  simp (disch := first | omega | (simp only [Qn] <;> omega)) only [go_sem, litV_eq, hst]
  obtain ⟨O, hO⟩ : ∃ O, h6.next + 11 = O := ⟨_, rfl⟩
  rw [hO]
  obtain ⟨hB, ehB, GB, gO, fB⟩ := box_grid (p := p) (O := O) G f4 fb (by omega) (by omega)
  rw [ehB]
  clear ehB hst
  have hlρ := G.hρ
  -- entries of the columns up to i, then up to k
  obtain ⟨S, hS⟩ : ∃ S : Nat → Nat → Nat → Nat → Int, S = fun i k x y => if y < i ∨ y = i ∧ x < k then ent A y x else 0 := ⟨_, rfl⟩
  have GB := GB.congr (f' := S 0 0) fun a b _ _ => by rw [hS]; simp
  refine Wp_loop (fun k' vars h3 => ∃ (i : Nat), (∃ g : Nat → V, vars = [g 0, .ptr h.next 0, .ptr hx.next 0, g 3, g 4, .ptr O 0, .int .i64 (i : Int), g 7, g 8, g 9, g 10]) ∧ i ≤ A.length ∧ Grd h3 R ca A.length ρ (S i 0) hh.next ∧ h3.get O = some (.cells false [.int .i64 p, .sl R 0 ca (.un 1)]) ∧ Fr h6 h3 ∧ k' = A.length - i) A.length
    ⟨0, ex_junk rfl, Nat.zero_le _, GB, gO, fB, rfl⟩ ?_
  clear GB gO fB G ca0
  rintro k' vars h3 ⟨i, ⟨g, rfl⟩, hi, G3, g3, f3, rfl⟩
  have x1' : h3.cell h.next 1 = some ua := by rw [f3.cell (by omega)]; exact x1
  simp (disch := first | omega | (simp only [Qn] <;> omega)) only [go_sem, x1', hua.lens]
  by_cases hlt : (i : Int) < (A.length : Int)
  · rw [decide_eq_true hlt]
    simp (disch := first | omega | (simp only [Qn] <;> omega)) only [go_sem]
    refine Wp_loop (fun k' vars h3 => ∃ (k : Nat), (∃ g : Nat → V, vars = [g 0, .ptr h.next 0, .ptr hx.next 0, g 3, g 4, .ptr O 0, .int .i64 (i : Int), .int .i64 (k : Int), g 8, g 9, g 10]) ∧ k ≤ ca ∧ Grd h3 R ca A.length ρ (S i k) hh.next ∧ h3.get O = some (.cells false [.int .i64 p, .sl R 0 ca (.un 1)]) ∧ Fr h6 h3 ∧ k' = ca - k) ca
      ⟨0, ex_junk rfl, Nat.zero_le _, G3, g3, f3, rfl⟩ ?_
    clear G3 g3 f3 x1' g
    rintro k' vars h3 ⟨k, ⟨g, rfl⟩, hk, G3, g3, f3, rfl⟩
    have x1' : h3.cell h.next 1 = some ua := by rw [f3.cell (by omega)]; exact x1
    have RA3 := RA.fr f3
    have ca0 : h3.cell ida offa = some (wsa.getD 0 .undef) := RA3.at_ 0 hra1
    simp (disch := first | omega | (simp only [Qn] <;> omega)) only [go_sem, x1', RA.sl.ixa, ca0, RA.lens hra1]
    by_cases hlt2 : (k : Int) < (ca : Int)
    · rw [decide_eq_true hlt2]
      have hi' : i < A.length := by omega
      have hk' : k < ca := by omega
      have cO : h3.cell O 1 = some (.sl R 0 ca (.un 1)) := by rw [H.cell_of g3]; rfl
      have hp1 := (G3.fr ((Fr.refl h3).bump (n := h3.next + 16) (by omega))).put hk' hi' (ent A i k)
      have hput : putO (h3.get (ρ k)) (H.mk h3.tr (h3.next + 16)) (ρ k) i [.int .i64 (ent A i k)] = _ := hp1.1
      simp (disch := first | omega | (simp only [Qn] <;> omega)) only [go_sem, cO, G3.cR, x1', RA.sl.ixa, RA3.at_ i hi', (RA.rsl i hi').ixa, RA3.ent i k hi' hk', hput]
      rw [show (k : Int) + 1 = ((k + 1 : Nat) : Int) from by omega]
      have q := hlρ k hk'
      refine ⟨ca - (k + 1), by omega, k + 1, ex_junk rfl, by omega, hp1.2.congr fun a b _ _ => ?_, by rw [H.get_set_ne _ (by omega)]; exact g3, (f3.bump (by omega)).set (by omega) _, rfl⟩
      rw [hS]
      simp only [upF]
      by_cases e : a = k ∧ b = i
      · rw [if_pos e, if_pos (by omega), e.1, e.2]
      · rw [if_neg e]
        by_cases e2 : b < i ∨ b = i ∧ a < k
        · rw [if_pos e2, if_pos (by omega)]
        · rw [if_neg e2, if_neg (by omega)]
    · rw [decide_eq_false hlt2]
      obtain rfl : k = ca := by omega
      simp (disch := first | omega | (simp only [Qn] <;> omega)) only [go_sem]
      rw [show (i : Int) + 1 = ((i + 1 : Nat) : Int) from by omega]
      refine ⟨A.length - (i + 1), by omega, i + 1, ex_junk rfl, by omega, G3.congr fun a b ha _ => ?_, g3, f3, rfl⟩
      rw [hS]
      simp only
      by_cases e2 : b < i ∨ b = i ∧ a < k
      · rw [if_pos e2, if_pos (by omega)]
      · rw [if_neg e2, if_neg (by omega)]
  · rw [decide_eq_false hlt]
    obtain rfl : i = A.length := by omega
    have rr := row_two g3
    have gr := (f3.get hx.next (by omega)).trans gy5
    have hst2 := fun hh => stV_agg2 hh hx.next 0 (v := .int .i64 p) (u := .sl R 0 ca (.un 1)) rfl rfl
    have hrow := row_two (h := h3.set hx.next (some (.cells false [.int .i64 p, .sl R 0 ca (.un 1)]))) (H.get_set_same ..)
    simp (disch := first | omega | (simp only [Qn] <;> omega)) only [go_sem, rr, hst2, gr, hrow]
    have G5 := (G3.congr (f' := fun k i => ent A i k) fun a b ha hb => by rw [hS]; simp only; rw [if_pos (.inl hb)]).set (x := hx.next) (by omega) (some (.cells false [.int .i64 p, .sl R 0 ca (.un 1)]))
    have e : TurnF (p, A) = ((p, mkR ca A.length (fun k i => ent A i k)), 0) := by rw [TurnF, if_neg (by simp [hz]), ← hca]
    rw [e]
    obtain ⟨u, ws, e1, R1⟩ := G5.mato p
    exact ⟨_, rfl, ⟨u, ws, e1, R1.le (by omega)⟩, (F5.trans f3).set (by omega) _⟩
end Go.Proofs.Ytlhebmcnjgagjaa

/- Layer 4: the reference's Apply. -/
namespace Go.Proofs.Ytlhebmcnjgagjaa
open Go Go.Ay
set_option maxRecDepth 100000
end Go.Proofs.Ytlhebmcnjgagjaa

