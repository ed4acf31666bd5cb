/- Layer 4: small functions, primes. Layer 4: Min, Max, Check. Layer 4: zip, plus. Layer 4: valid matrices; apply. Layer 4: rows that are appended. Layer 4: the product. Layer 4: fit, Mul. Layer 4: Mul. Layer 4: residue, the identity. Layer 4: One. Layer 4: Scale. Layer 4: Apply. Layer 4: zip of rows. Layer 4: Add. Layer 4: rows that grow in their places. Layer 4: Turn. Layer 4: Same, the laws' helpers; the reference's primes. Layer 4: matrices that are read, and matrices that are filled; the reference's blank, one, One. Layer 4: the reference's one, One. Layer 4: the reference's Check, both. Layer 4: the reference's mul, Mul. Layer 4: the reference's Mul, Add. Layer 4: the reference's Scale, Turn. Layer 4: the reference's Apply. -/
import Derived.Test.YtonhijbeddcmpaaC4code
import Derived.Test.YtonhijbeddcmpaaSm
/- Layer 4: small functions, primes. -/
namespace Go.Proofs.Ytonhijbeddcmpaa
open Go Go.Ay
set_option maxRecDepth 100000
/-- A copy: a block of its own. -/
def Copy (h : H) (l : List Int) (v : V) (h' : H) : Prop := Own h' v 1 (ints l) h.next ∧ Fr h h' ∧ (0 < l.length → ∃ id, v = .sl id 0 l.length (.un 1) ∧ h.next ≤ id ∧ id < h'.next ∧ h'.get id = some (.cells false (ints l)))
theorem copy_of {h : H} {l : List Int} {v : V} (hs : SI h v l) (hl : l.length < 1000000) : ∃ v' h', appP (h.new (.cells false [])) 1 8 (.sl h.next 0 0 (.kn 0)) v = some (v', h') ∧ Copy h l v' h' := by
  obtain ⟨v', h', e, a⟩ := (Own.new h 1 0 h.next [] rfl (Nat.le_refl _)).app (bytes := 8) (n := 0) (by rw [H.next_new]; omega) (SV.mono hs ((Fr.refl h).new _)) (m := l.length) rfl (by rw [ints_length, Nat.mul_one]) (by omega) (by omega)
  refine ⟨v', h', e, a.own, a.fr h ((Fr.refl h).new _) (Nat.le_refl _), fun h0 => ?_⟩
  rcases a.what with ⟨h1, _⟩ | ⟨id, h1, h2, h3, h4⟩
  · omega
  · exact ⟨id, by rw [h1, Nat.zero_add], h2, h3, h4⟩
theorem clone_ok (v : V) (l : List Int) (h : H) (hs : SI h v l) (hl : l.length < 1000000) : Ev T n_slices_Clone_int_int [v] h (Copy h l) := by
  refine Ev_of t_slices_Clone_int_int rfl ?_
  rcases id hs with ⟨rfl | ⟨ad, rfl⟩, h0⟩ | ⟨id, off, len, cap, ro, vs, rfl, hlen, hid, hg, hle, he⟩
  · have : l = [] := by cases l <;> simp_all [ints]
    subst this
    simp only [c_slices_Clone_int_int, initV_eq, go_sem]
    exact ⟨Own.nils _ _ _, Fr.refl h, fun h => by simp at h⟩
  · simp only [c_slices_Clone_int_int, initV_eq, go_sem]
    obtain ⟨v', h', e, c⟩ := copy_of hs hl
    simp only [e, go_sem]
    exact c
  · simp only [c_slices_Clone_int_int, initV_eq, go_sem]
    obtain ⟨v', h', e, c⟩ := copy_of hs hl
    simp only [e, go_sem]
    exact c
theorem tmod_nat (n d : Nat) : (n : Int).tmod (d : Int) = ((n % d : Nat) : Int) := rfl
theorem tmod_bd (a : Int) {n : Int} (hn : 0 < n) : -n < a.tmod n ∧ a.tmod n < n := by
  have h1 := Int.tmod_lt_of_pos a hn
  refine ⟨?_, h1⟩
  rcases Int.le_total 0 a with h | h
  · have := Int.tmod_nonneg n h; omega
  · have h2 := Int.tmod_lt_of_pos (-a) hn
    rw [Int.neg_tmod] at h2
    omega
theorem tmod_fix (a : Int) {n : Int} (hn : 0 < n) : (if a.tmod n < 0 then a.tmod n + n else a.tmod n) = a % n := by
  have h0 := tmod_bd a hn
  have h1 : a.tmod n = a - n * (a.tdiv n) := by have := Int.mul_tdiv_add_tmod a n; omega
  have h2 : a % n = a - n * (a / n) := Int.emod_def a n
  have h3 := Int.emod_nonneg a (show n ≠ 0 by omega)
  have h4 := Int.emod_lt_of_pos a hn
  have h5 : (a.tmod n) % n = a % n := by
    rw [h1, Int.sub_emod, Int.mul_emod_right, Int.sub_zero, Int.emod_emod]
  split
  · rw [← h5, ← Int.emod_eq_of_lt (a := a.tmod n + n) (b := n) (by omega) (by omega), Int.add_emod_right]
  · rw [← h5, Int.emod_eq_of_lt (by omega) (by omega)]
theorem tmod_twice (a : Int) {n : Int} (hn : 0 < n) : (a.tmod n + n).tmod n = a % n := by
  have h0 := tmod_bd a hn
  have h5 := tmod_fix a hn
  rw [Int.tmod_eq_emod_of_nonneg (by omega), Int.add_emod_right]
  split at h5
  · rw [← h5, ← Int.emod_eq_of_lt (a := a.tmod n + n) (b := n) (by omega) (by omega), Int.add_emod_right]
  · rw [← h5, Int.emod_eq_of_lt (by omega) (by omega)]
theorem pick_ok (a n : Int) (h : H) (hn : 0 < n) (hn2 : n < 1000000000) : Ev T n_kit_Pick [.int .i64 a, .int .i64 n] h (fun v h' => v = .int .i64 (a % n) ∧ h' = h) := by
  refine Ev_of t_kit_Pick rfl ?_
  have h0 := tmod_bd a hn
  have h1 := tmod_fix a hn
  simp (disch := first | omega | (simp only [Qn] <;> omega)) only [go_sem, c_kit_Pick, initV_eq]
  refine iteW_dec (fun hlt => ?_) (fun hge => ?_)
  · rw [if_pos hlt] at h1
    simp (disch := first | omega | (simp only [Qn] <;> omega)) only [go_sem]
    exact ⟨by rw [h1], trivial⟩
  · rw [if_neg hge] at h1
    simp (disch := first | omega | (simp only [Qn] <;> omega)) only [go_sem]
    exact ⟨by rw [h1], trivial⟩
theorem eq_of_getD {a b : List Int} (hl : a.length = b.length) (h : ∀ j, j < a.length → a.getD j 0 = b.getD j 0) : a = b := by
  apply List.ext_getElem hl
  intro i h1 h2
  have := h i h1
  rw [List.getD_eq_getElem?_getD, List.getElem?_eq_getElem h1, List.getD_eq_getElem?_getD, List.getElem?_eq_getElem h2] at this
  exact this
theorem equal_ok (va vb : V) (a b : List Int) (h : H) (ha : SI h va a) (hb : SI h vb b) (hla : a.length < 1000000) (hlb : b.length < 1000000) : Ev T n_slices_Equal_int_int [va, vb] h (fun v h' => v = .bool (decide (a = b)) ∧ Fr h h') := by
  refine Ev_of t_slices_Equal_int_int rfl ?_
  obtain ⟨id, off, hsl, hid, hc⟩ := ha.open
  obtain ⟨id2, off2, hsl2, hid2, hc2⟩ := hb.open
  simp (disch := first | omega | (simp only [Qn] <;> omega)) only [go_sem, c_slices_Equal_int_int, initV_eq, ha.lens, hb.lens]
  refine iteW_dec (fun hne => ?_) (fun heq => ?_)
  · simp (disch := first | omega | (simp only [Qn] <;> omega)) only [go_sem]
    have : a ≠ b := fun e => hne (by rw [e])
    exact ⟨by rw [decide_eq_false this], Fr.refl h⟩
  have heq : a.length = b.length := by omega
  simp (disch := first | omega | (simp only [Qn] <;> omega)) only [go_sem, ha.lens]
  refine Wp_loop (fun k vars h2 => ∃ (i : Nat) (x3 x7 x8 : V), vars = [va, vb, .bool false, x3, .bool (decide ((a.length : Int) ≠ (b.length : Int))), .int .i64 (a.length : Int), .int .i64 (i : Int), x7, x8] ∧ i ≤ a.length ∧ (∀ j, j < i → a.getD j 0 = b.getD j 0) ∧ Fr h h2 ∧ k = a.length - i) a.length
    ⟨0, _, _, _, rfl, Nat.zero_le _, fun j hj => by omega, Fr.refl h, rfl⟩ ?_
  rintro k vars h2 ⟨i, x3, x7, x8, rfl, hi, hpre, hf2, rfl⟩
  simp (disch := first | omega | (simp only [Qn] <;> omega)) only [go_sem]
  refine iteW_dec (fun hlt => ?_) (fun hge => ?_)
  · have hc' := cells_fr hf2 hid hc
    have hc2' := cells_fr hf2 hid2 hc2
    simp (disch := first | omega | (simp only [Qn] <;> omega)) only [go_sem, hsl.ixa, hsl2.ixa, hc', hc2', Int.toNat_natCast]
    refine iteW_dec (fun hne => ?_) (fun he => ?_)
    · simp (disch := first | omega | (simp only [Qn] <;> omega)) only [go_sem]
      have : a ≠ b := fun e => hne (by rw [e])
      exact ⟨by rw [decide_eq_false this], hf2.bump (by omega)⟩
    · simp (disch := first | omega | (simp only [Qn] <;> omega)) only [go_sem]
      rw [show (i : Int) + 1 = ((i + 1 : Nat) : Int) from by omega]
      refine ⟨a.length - (i + 1), by omega, i + 1, _, _, _, rfl, by omega, fun j hj => ?_, hf2.bump (by omega), rfl⟩
      by_cases h3 : j = i
      · rw [h3]; exact Decidable.byContradiction he
      · exact hpre j (by omega)
  · simp (disch := first | omega | (simp only [Qn] <;> omega)) only [go_sem]
    have : a = b := eq_of_getD heq fun j hj => hpre j (by omega)
    exact ⟨by rw [decide_eq_true this], hf2⟩
theorem same_ok (va vb : V) (a b : List Int) (h : H) (ha : SI h va a) (hb : SI h vb b) (hla : a.length < 1000000) (hlb : b.length < 1000000) : Ev T n_kit_Same_int [va, vb] h (fun v h' => v = .bool (decide (a = b)) ∧ Fr h h') := by
  refine Ev_of t_kit_Same_int rfl ?_
  obtain ⟨id, off, hsl, hid, hc⟩ := ha.open
  obtain ⟨id2, off2, hsl2, hid2, hc2⟩ := hb.open
  simp (disch := first | omega | (simp only [Qn] <;> omega)) only [go_sem, c_kit_Same_int, initV_eq, ha.lens, hb.lens]
  refine iteW_dec (fun hne => ?_) (fun heq => ?_)
  · simp (disch := first | omega | (simp only [Qn] <;> omega)) only [go_sem]
    have : a ≠ b := fun e => hne (by rw [e])
    exact ⟨by rw [decide_eq_false this], Fr.refl h⟩
  have heq : a.length = b.length := by omega
  simp (disch := first | omega | (simp only [Qn] <;> omega)) only [go_sem, ha.lens]
  refine Wp_loop (fun k vars h2 => ∃ (i : Nat) (x4 x5 x6 : V), vars = [va, vb, .bool false, .int .i64 (i : Int), x4, x5, x6] ∧ i ≤ a.length ∧ (∀ j, j < i → a.getD j 0 = b.getD j 0) ∧ Fr h h2 ∧ k = a.length - i) a.length
    ⟨0, _, _, _, rfl, Nat.zero_le _, fun j hj => by omega, Fr.refl h, rfl⟩ ?_
  rintro k vars h2 ⟨i, x3, x7, x8, rfl, hi, hpre, hf2, rfl⟩
  simp (disch := first | omega | (simp only [Qn] <;> omega)) only [go_sem, ha.lens]
  refine iteW_dec (fun hlt => ?_) (fun hge => ?_)
  · have hc' := cells_fr hf2 hid hc
    have hc2' := cells_fr hf2 hid2 hc2
    simp (disch := first | omega | (simp only [Qn] <;> omega)) only [go_sem, hsl.ixa, hsl2.ixa, hc', hc2', Int.toNat_natCast]
    refine iteW_dec (fun hne => ?_) (fun he => ?_)
    · simp (disch := first | omega | (simp only [Qn] <;> omega)) only [go_sem]
      have : a ≠ b := fun e => hne (by rw [e])
      exact ⟨by rw [decide_eq_false this], hf2.bump (by omega)⟩
    · simp (disch := first | omega | (simp only [Qn] <;> omega)) only [go_sem]
      rw [show (i : Int) + 1 = ((i + 1 : Nat) : Int) from by omega]
      refine ⟨a.length - (i + 1), by omega, i + 1, _, _, _, rfl, by omega, fun j hj => ?_, hf2.bump (by omega), rfl⟩
      by_cases h3 : j = i
      · rw [h3]; exact Decidable.byContradiction he
      · exact hpre j (by omega)
  · simp (disch := first | omega | (simp only [Qn] <;> omega)) only [go_sem]
    have : a = b := eq_of_getD heq fun j hj => hpre j (by omega)
    exact ⟨by rw [decide_eq_true this], hf2⟩
/-- A new number. -/
def Frs (u : V) (b : Nat) : Prop := ∀ id off n c, u = .sl id off n c → b ≤ id
theorem Frs.ne {u : V} {b id off n : Nat} {c : Cap} (f : Frs u b) (h : id < b) : u ≠ .sl id off n c := fun e => by have := f _ _ _ _ e; omega
theorem Frs.le {u : V} {b b' : Nat} (f : Frs u b) (h : b' ≤ b) : Frs u b' := fun id off n c e => Nat.le_trans h (f id off n c e)
theorem Frs.own {h : H} {v : V} {sz : Nat} {ws : List V} {b : Nat} (o : Own h v sz ws b) : Frs v b := fun id off n c e => by
  rcases o with ⟨h1, _⟩ | ⟨id', _, _, _, h1, _, _, h2, _⟩
  · rw [h1] at e; cases e
  · rw [h1] at e; cases e; exact h2
/-- One object alone may have changed. -/
structure Fx (x : Nat) (h h' : H) : Prop where
  next : h.next ≤ h'.next
  get : ∀ id, id < h.next → id ≠ x → h'.get id = h.get id
theorem Fx.refl (x : Nat) (h : H) : Fx x h h := ⟨Nat.le_refl _, fun _ _ _ => rfl⟩
theorem Fx.of {x : Nat} {h h' : H} (f : Fr h h') : Fx x h h' := ⟨f.next, fun id hid _ => f.get id hid⟩
theorem Fx.trans {x : Nat} {a b c : H} (f : Fx x a b) (g : Fx x b c) : Fx x a c := ⟨Nat.le_trans f.next g.next, fun id hid hx => (g.get id (Nat.lt_of_lt_of_le hid f.next) hx).trans (f.get id hid hx)⟩
theorem Fx.set {x : Nat} {a b : H} (f : Fx x a b) (o : Option Ob) : Fx x a (b.set x o) := ⟨f.next, fun id hid hx => (H.get_set_ne b hx o).trans (f.get id hid hx)⟩
theorem Fx.setf {x : Nat} {a b : H} (f : Fx x a b) {y : Nat} (hy : a.next ≤ y) (o : Option Ob) : Fx x a (b.set y o) := ⟨f.next, fun id hid hx => (H.get_set_ne b (by omega) o).trans (f.get id hid hx)⟩
/-- Below the object, nothing has. -/
theorem Fx.fr {x : Nat} {a b c : H} (f : Fr a b) (hx : a.next ≤ x) (g : Fx x b c) : Fr a c := ⟨Nat.le_trans f.next g.next, fun id hid => (g.get id (Nat.lt_of_lt_of_le hid f.next) (by omega)).trans (f.get id hid)⟩
theorem SI.fx {h h' : H} {x lo : Nat} {u : V} {l : List Int} (s : SI h u l) (fs : Frs u lo) (hx : x < lo) (f : Fx x h h') : SI h' u l := by
  rcases s with s | ⟨id, off, len, cap, ro, vs, rfl, h2, h3, h4, h5, h6⟩
  · exact .inl s
  · have hid := fs _ _ _ _ rfl
    exact .inr ⟨id, off, len, cap, ro, vs, rfl, h2, Nat.lt_of_lt_of_le h3 f.next, by rw [f.get id h3 (by omega)]; exact h4, h5, h6⟩
/-- A taker of numbers. -/
def Tk (h : H) (x : Nat) (l : List Int) : Prop := ∃ vl, ∃ a : Nat, h.get x = some (.cells false [vl, .int .i64 (a : Int)]) ∧ SI h vl l ∧ (∀ id off len c, vl = .sl id off len c → id < x) ∧ a ≤ l.length ∧ x < h.next
theorem Tk.mono {h h' : H} {x : Nat} {l : List Int} (t : Tk h x l) (f : Fr h h') : Tk h' x l := by
  obtain ⟨vl, a, h1, h2, h3, h4, h5⟩ := t
  exact ⟨vl, a, (f.get x h5).trans h1, h2.mono f, h3, h4, Nat.lt_of_lt_of_le h5 f.next⟩
/-- What lies up to the taker is as it was. -/
theorem Tk.low {h h' : H} {x : Nat} {l : List Int} (t : Tk h x l) (hn : h.next ≤ h'.next) (hg : ∀ id, id ≤ x → h'.get id = h.get id) : Tk h' x l := by
  obtain ⟨vl, a, h1, h2, h3, h4, h5⟩ := t
  refine ⟨vl, a, (hg x (Nat.le_refl _)).trans h1, ?_, h3, h4, Nat.lt_of_lt_of_le h5 hn⟩
  rcases h2 with h0 | ⟨id, off, len, cap, ro, vs, e, q2, q3, q4, q5, q6⟩
  · exact .inl h0
  · have := h3 _ _ _ _ e
    exact .inr ⟨id, off, len, cap, ro, vs, e, q2, Nat.lt_of_lt_of_le q3 hn, (hg id (by omega)).trans q4, q5, q6⟩
theorem Tk.set {h : H} {x y : Nat} {l : List Int} (t : Tk h x l) (hy : h.next ≤ y) (o : Option Ob) : Tk (h.set y o) x l := t.mono ((Fr.refl h).set hy o)
theorem tmod_range (a : Int) {n : Int} (hn : 0 < n) : 0 ≤ a % n ∧ a % n < n := ⟨Int.emod_nonneg a (by omega), Int.emod_lt_of_pos a hn⟩
set_option maxHeartbeats 1000000 in
theorem take_ok (x : Nat) (l : List Int) (n : Int) (h : H) (ht : Tk h x l) (hl : l.length < 1000000) (hn : 1 ≤ n) (hn2 : n < 1000000000) :
    Ev T n_kit_Taker_Take [.ptr x 0, .int .i64 n] h (fun v h' => ∃ z, v = .int .i64 z ∧ 0 ≤ z ∧ z < n ∧ Tk h' x l ∧ Fx x h h') := by
  obtain ⟨vl, a, hg, hs, hne, ha, hx⟩ := ht
  refine Ev_of t_kit_Taker_Take rfl ?_
  have g0 : h.cell x 0 = some vl := by rw [H.cell_of hg]; rfl
  have g1 : h.cell x 1 = some (.int .i64 (a : Int)) := by rw [H.cell_of hg]; rfl
  have ev : eqV vl vl = true := SV.eqV hs
  obtain ⟨id, off, hsl, hid, hc⟩ := hs.open
  simp (disch := first | omega | (simp only [Qn] <;> omega)) only [go_sem, c_kit_Taker_Take, initV_eq, g0, g1, hs.lens, ev]
  by_cases hal : (l.length : Int) ≤ (a : Int)
  · rw [decide_eq_true hal]
    simp (disch := first | omega | (simp only [Qn] <;> omega)) only [go_sem]
    exact ⟨0, rfl, by omega, by omega, ⟨vl, a, hg, hs.mono ((Fr.refl h).bump (by omega)), hne, ha, by show x < h.next + 14; omega⟩, Fx.of ((Fr.refl h).bump (by omega))⟩
  · rw [decide_eq_false hal]
    simp (disch := first | omega | (simp only [Qn] <;> omega)) only [go_sem]
    rw [decide_eq_false (show ¬ n < 1 by omega)]
    simp (disch := first | omega | (simp only [Qn] <;> omega)) only [go_sem, g1, hg]
    have hne2 : id ≠ x := by
      intro e
      have := hsl.ixa .i64 0 (by omega) (by omega)
      rcases hs with ⟨_, h0⟩ | ⟨id', o', len', cap', _, _, rfl, _⟩
      · have : (ints l).length = 0 := by rw [h0]; rfl
        rw [ints_length] at this; omega
      · have hll : len' = l.length := Option.some.inj hsl.len
        rw [ixaV_sl (by omega) (by omega)] at this
        simp only [Option.some.injEq, V.ptr.injEq] at this
        have := hne _ _ _ _ rfl; omega
    have c0 : h.cell id (off + a) = some (.int .i64 (l.getD a 0)) := hc a (by omega)
    have ea : ((a : Int) + 1 - 1).toNat = a := by omega
    simp (disch := first | omega | (simp only [Qn] <;> omega)) only [go_sem, g0, g1, hg, hsl.ixa, c0, ev, ea]
    have hgg : ∀ m, (H.mk ((H.mk h.tr (h.next + 14)).set x (some (.cells false [vl, .int .i64 ((a : Int) + 1)]))).tr m).get x = some (.cells false [vl, .int .i64 ((a : Int) + 1)]) := fun m => H.get_set_same ..
    have hfx : Fx x h (H.mk ((H.mk h.tr (h.next + 14)).set x (some (.cells false [vl, .int .i64 ((a : Int) + 1)]))).tr (h.next + 14 + 14)) := ⟨by show h.next ≤ h.next + 14 + 14; omega, fun id hid hne => H.get_set_ne _ hne _⟩
    have hnn : (H.mk ((H.mk h.tr (h.next + 14)).set x (some (.cells false [vl, .int .i64 ((a : Int) + 1)]))).tr (h.next + 14 + 14)).next = h.next + 14 + 14 := rfl
    have hgx := hgg (h.next + 14 + 14)
    generalize H.mk ((H.mk h.tr (h.next + 14)).set x (some (.cells false [vl, .int .i64 ((a : Int) + 1)]))).tr (h.next + 14 + 14) = h2 at *
    refine (pick_ok (l.getD a 0) n h2 (by omega) hn2).mono ?_
    rintro v h3 ⟨rfl, rfl⟩
    have k0 : h3.cell x 0 = some vl := by rw [H.cell_of hgx]; rfl
    have k1 : h3.cell x 1 = some (.int .i64 ((a : Int) + 1)) := by rw [H.cell_of hgx]; rfl
    simp (disch := first | omega | (simp only [Qn] <;> omega)) only [go_sem, k0, k1, ev]
    have hr := tmod_range (l.getD a 0) (show 0 < n by omega)
    refine ⟨_, rfl, hr.1, hr.2, ⟨vl, a + 1, ?_, ?_, hne, by omega, by omega⟩, hfx⟩
    · rw [hgx]; simp
    · rcases hs with h0 | ⟨id', o', len', cap', ro, vs, rfl, q2, q3, q4, q5, q6⟩
      · exact .inl h0
      · exact .inr ⟨id', o', len', cap', ro, vs, rfl, q2, by omega, (hfx.get id' q3 (fun e => by have := hne _ _ _ _ rfl; omega)).trans q4, q5, q6⟩

/-! primes -/
def divG (n : Nat) : Nat → Nat → Nat
  | 0, _ => n
  | f + 1, d => if d * d ≤ n then (if n % d = 0 then d else divG n f (d + 1)) else n
def divF (n : Nat) : Nat := divG n 1000 2
theorem divides_ok (n : Nat) (h : H) (hn : n < 1000000) : Ev T n_prime_divides [.int .i64 (n : Int)] h (fun v h' => v = .int .i64 (divF n : Int) ∧ h' = h) := by
  refine Ev_of t_prime_divides rfl ?_
  simp (disch := first | omega | (simp only [Qn] <;> omega)) only [go_sem, c_prime_divides, initV_eq]
  refine Wp_loop (fun m vars h3 => ∃ (d : Nat), (∃ g : Nat → V, vars = [.int .i64 (n : Int), g 1, .int .i64 (d : Int), g 3, g 4]) ∧ 2 ≤ d ∧ d + m = 1002 ∧ divG n m d = divF n ∧ h3 = h) 1000
    ⟨2, ex_junk rfl, Nat.le_refl _, rfl, rfl, rfl⟩ ?_
  rintro m vars h3 ⟨d, ⟨g, rfl⟩, hd2, hdm, hod, rfl⟩
  have hdd : d * d ≤ 1002 * 1002 := Nat.mul_le_mul (by omega) (by omega)
  have em0 : (d : Int) * (d : Int) = ((d * d : Nat) : Int) := (Int.natCast_mul ..).symm
  have hsq : d ≤ d * d := Nat.le_mul_of_pos_left d (by omega)
  have em : (n : Int).tmod (d : Int) = ((n % d : Nat) : Int) := tmod_nat ..
  cases m with
  | zero =>
    have hgt : ¬ d * d ≤ n := by
      have hd' : d = 1002 := by omega
      subst hd'; omega
    generalize d * d = dd at *
    simp (disch := first | omega | (simp only [Qn] <;> omega)) only [go_sem, em0]
    rw [decide_eq_false (show ¬ (dd : Int) ≤ (n : Int) by omega)]
    simp (disch := first | omega | (simp only [Qn] <;> omega)) only [go_sem]
    exact ⟨by rw [← hod]; rfl, trivial⟩
  | succ m =>
    rw [divG] at hod
    generalize d * d = dd at *
    simp (disch := first | omega | (simp only [Qn] <;> omega)) only [go_sem, em0]
    refine iteW_dec (fun hle => ?_) (fun hgt => ?_)
    · rw [if_pos (by omega)] at hod
      simp (disch := first | omega | (simp only [Qn] <;> omega)) only [go_sem, em]
      refine iteW_dec (fun hz => ?_) (fun hz => ?_)
      · rw [if_pos (by omega)] at hod
        simp (disch := first | omega | (simp only [Qn] <;> omega)) only [go_sem]
        exact ⟨by rw [← hod], trivial⟩
      · rw [if_neg (by omega)] at hod
        simp (disch := first | omega | (simp only [Qn] <;> omega)) only [go_sem]
        rw [show (d : Int) + 1 = ((d + 1 : Nat) : Int) from by omega]
        exact ⟨m, by omega, d + 1, ex_junk rfl, by omega, by omega, hod, trivial⟩
    · rw [if_neg (by omega)] at hod
      simp (disch := first | omega | (simp only [Qn] <;> omega)) only [go_sem]
      exact ⟨by rw [← hod], trivial⟩
/-- A prime below 1,000,000. -/
def isP (n : Int) : Bool := decide (1 < n) && (decide (n < 1000000) && decide (divF n.toNat = n.toNat))
theorem is_prime_ok (n : Int) (h : H) : Ev T n_prime_Is [.int .i64 n] h (fun v h' => v = .bool (isP n) ∧ h' = h) := by
  refine Ev_of t_prime_Is rfl ?_
  simp (disch := first | omega | (simp only [Qn] <;> omega)) only [go_sem, c_prime_Is, initV_eq]
  by_cases h1 : (1 : Int) < n
  · rw [decide_eq_true h1]
    simp (disch := first | omega | (simp only [Qn] <;> omega)) only [go_sem]
    by_cases h2 : n < 1000000
    · rw [decide_eq_true h2]
      obtain ⟨m, rfl⟩ : ∃ m : Nat, n = (m : Int) := ⟨n.toNat, by omega⟩
      simp (disch := first | omega | (simp only [Qn] <;> omega)) only [go_sem]
      refine (divides_ok m h (by omega)).mono ?_
      rintro v h' ⟨rfl, rfl⟩
      simp (disch := first | omega | (simp only [Qn] <;> omega)) only [go_sem]
      refine ⟨?_, trivial⟩
      rw [isP, decide_eq_true h1, decide_eq_true h2, Int.toNat_natCast, Bool.true_and, Bool.true_and]
      congr 1
      rw [decide_eq_decide]; omega
    · rw [decide_eq_false h2]
      simp (disch := first | omega | (simp only [Qn] <;> omega)) only [go_sem, undef_eq]
      exact ⟨by rw [isP, decide_eq_false h2]; simp, trivial⟩
  · rw [decide_eq_false h1]
    simp (disch := first | omega | (simp only [Qn] <;> omega)) only [go_sem, undef_eq]
    exact ⟨by rw [isP, decide_eq_false h1]; rfl, trivial⟩
def fieldF (p : Int) : Bool := decide (p < 10000) && isP p
theorem field_ok (p : Int) (h : H) : Ev T n_matrix_field [.int .i64 p] h (fun v h' => v = .bool (fieldF p) ∧ h' = h) := by
  refine Ev_of t_matrix_field rfl ?_
  simp (disch := first | omega | (simp only [Qn] <;> omega)) only [go_sem, c_matrix_field, initV_eq]
  by_cases h1 : p < 10000
  · rw [decide_eq_true h1]
    simp (disch := first | omega | (simp only [Qn] <;> omega)) only [go_sem]
    refine (is_prime_ok p h).mono ?_
    rintro v h' ⟨rfl, rfl⟩
    simp (disch := first | omega | (simp only [Qn] <;> omega)) only [go_sem]
    exact ⟨by rw [fieldF, decide_eq_true h1, Bool.true_and], trivial⟩
  · rw [decide_eq_false h1]
    simp (disch := first | omega | (simp only [Qn] <;> omega)) only [go_sem, undef_eq]
    exact ⟨by rw [fieldF, decide_eq_false h1]; rfl, trivial⟩
theorem fieldF_range {p : Int} (h : fieldF p = true) : 2 ≤ p ∧ p < 10000 := by
  simp only [fieldF, isP, Bool.and_eq_true, decide_eq_true_eq] at h
  omega
end Go.Proofs.Ytonhijbeddcmpaa

/- Layer 4: Min, Max, Check. -/
namespace Go.Proofs.Ytonhijbeddcmpaa
open Go Go.Ay
set_option maxRecDepth 100000
theorem any_index {l : List Int} {P : Int → Bool} : l.any P = true ↔ ∃ j, j < l.length ∧ P (l.getD j 0) = true := by
  rw [List.any_eq_true]
  constructor
  · rintro ⟨x, hx, hp⟩
    obtain ⟨j, hj, rfl⟩ := List.mem_iff_getElem.1 hx
    exact ⟨j, hj, by rw [List.getD_eq_getElem?_getD, List.getElem?_eq_getElem hj]; exact hp⟩
  · rintro ⟨j, hj, hp⟩
    rw [List.getD_eq_getElem?_getD, List.getElem?_eq_getElem hj] at hp
    exact ⟨l[j], List.getElem_mem _, hp⟩
theorem min_ok (v : V) (l : List Int) (h : H) (hs : SI h v l) (h0 : 0 < l.length) (hl : l.length < 1000000) : Ev T n_slices_Min_int_int [v] h (fun v h' => ∃ m, v = .int .i64 m ∧ h' = h ∧ ∀ t, decide (m < t) = l.any (fun x => decide (x < t))) := by
  refine Ev_of t_slices_Min_int_int rfl ?_
  obtain ⟨id, off, hsl, hid, hc⟩ := hs.open
  have c0 : h.cell id off = some (.int .i64 (l.getD 0 0)) := hc 0 h0
  simp (disch := first | omega | (simp only [Qn] <;> omega)) only [go_sem, c_slices_Min_int_int, initV_eq, hs.lens]
  rw [decide_eq_false (show ¬ (l.length : Int) < 1 by omega)]
  simp (disch := first | omega | (simp only [Qn] <;> omega)) only [go_sem, hsl.ixa, c0]
  refine Wp_loop (fun k' vars h1 => ∃ (i : Nat) (m : Int), (∃ g : Nat → V, vars = [v, g 1, .int .i64 m, .int .i64 (i : Int), g 4, g 5]) ∧ 1 ≤ i ∧ i ≤ l.length ∧ (∀ t, m < t ↔ ∃ j, j < i ∧ l.getD j 0 < t) ∧ h1 = h ∧ k' = l.length - i) (l.length - 1)
    ⟨1, l.getD 0 0, ex_junk rfl, Nat.le_refl _, h0, fun t => ⟨fun x => ⟨0, by omega, x⟩, fun ⟨j, hj, x⟩ => by
      have : j = 0 := by omega
      subst this; exact x⟩, rfl, rfl⟩ ?_
  rintro k' vars h1 ⟨i, m, ⟨g, rfl⟩, hi1, hil, hm, rfl, rfl⟩
  simp (disch := first | omega | (simp only [Qn] <;> omega)) only [go_sem, hs.lens]
  by_cases hlt : (i : Int) < (l.length : Int)
  · rw [decide_eq_true hlt]
    have ci := hc i (by omega)
    simp (disch := first | omega | (simp only [Qn] <;> omega)) only [go_sem, hsl.ixa, ci, mm_min]
    rw [show (i : Int) + 1 = ((i + 1 : Nat) : Int) from by omega]
    refine ⟨l.length - (i + 1), by omega, i + 1, _, ex_junk rfl, by omega, by omega, fun t => ?_, rfl⟩
    constructor
    · intro x
      split at x
      · exact ⟨i, by omega, x⟩
      · obtain ⟨j, hj, y⟩ := (hm t).1 x
        exact ⟨j, by omega, y⟩
    · rintro ⟨j, hj, y⟩
      by_cases hji : j = i
      · subst hji; split <;> omega
      · have := (hm t).2 ⟨j, by omega, y⟩
        split <;> omega
  · rw [decide_eq_false hlt]
    obtain rfl : i = l.length := by omega
    simp (disch := first | omega | (simp only [Qn] <;> omega)) only [go_sem]
    refine ⟨m, rfl, fun t => ?_⟩
    rw [Bool.eq_iff_iff, decide_eq_true_eq, any_index, hm t]
    simp only [decide_eq_true_eq]
theorem max_ok (v : V) (l : List Int) (h : H) (hs : SI h v l) (h0 : 0 < l.length) (hl : l.length < 1000000) : Ev T n_slices_Max_int_int [v] h (fun v h' => ∃ m, v = .int .i64 m ∧ h' = h ∧ ∀ t, decide (t ≤ m) = l.any (fun x => decide (t ≤ x))) := by
  refine Ev_of t_slices_Max_int_int rfl ?_
  obtain ⟨id, off, hsl, hid, hc⟩ := hs.open
  have c0 : h.cell id off = some (.int .i64 (l.getD 0 0)) := hc 0 h0
  simp (disch := first | omega | (simp only [Qn] <;> omega)) only [go_sem, c_slices_Max_int_int, initV_eq, hs.lens]
  rw [decide_eq_false (show ¬ (l.length : Int) < 1 by omega)]
  simp (disch := first | omega | (simp only [Qn] <;> omega)) only [go_sem, hsl.ixa, c0]
  refine Wp_loop (fun k' vars h1 => ∃ (i : Nat) (m : Int), (∃ g : Nat → V, vars = [v, g 1, .int .i64 m, .int .i64 (i : Int), g 4, g 5]) ∧ 1 ≤ i ∧ i ≤ l.length ∧ (∀ t, t ≤ m ↔ ∃ j, j < i ∧ t ≤ l.getD j 0) ∧ h1 = h ∧ k' = l.length - i) (l.length - 1)
    ⟨1, l.getD 0 0, ex_junk rfl, Nat.le_refl _, h0, fun t => ⟨fun x => ⟨0, by omega, x⟩, fun ⟨j, hj, x⟩ => by
      have : j = 0 := by omega
      subst this; exact x⟩, rfl, rfl⟩ ?_
  rintro k' vars h1 ⟨i, m, ⟨g, rfl⟩, hi1, hil, hm, rfl, rfl⟩
  simp (disch := first | omega | (simp only [Qn] <;> omega)) only [go_sem, hs.lens]
  by_cases hlt : (i : Int) < (l.length : Int)
  · rw [decide_eq_true hlt]
    have ci := hc i (by omega)
    simp (disch := first | omega | (simp only [Qn] <;> omega)) only [go_sem, hsl.ixa, ci, mm_max]
    rw [show (i : Int) + 1 = ((i + 1 : Nat) : Int) from by omega]
    refine ⟨l.length - (i + 1), by omega, i + 1, _, ex_junk rfl, by omega, by omega, fun t => ?_, rfl⟩
    constructor
    · intro x
      split at x
      · exact ⟨i, by omega, x⟩
      · obtain ⟨j, hj, y⟩ := (hm t).1 x
        exact ⟨j, by omega, y⟩
    · rintro ⟨j, hj, y⟩
      by_cases hji : j = i
      · subst hji; split <;> omega
      · have := (hm t).2 ⟨j, by omega, y⟩
        split <;> omega
  · rw [decide_eq_false hlt]
    obtain rfl : i = l.length := by omega
    simp (disch := first | omega | (simp only [Qn] <;> omega)) only [go_sem]
    refine ⟨m, rfl, fun t => ?_⟩
    rw [Bool.eq_iff_iff, decide_eq_true_eq, any_index, hm t]
    simp only [decide_eq_true_eq]

/-- A matrix: its modulus and its rows. -/
abbrev Mat := Int × List (List Int)
def MatV (h : H) (v : V) (a : Mat) : Prop := ∃ u, v = .agg [.int .i64 a.1, u] ∧ SR h u a.2
theorem MatV.mono {h h' : H} {v : V} {a : Mat} (s : MatV h v a) (f : Fr h h') : MatV h' v a := by
  obtain ⟨u, e, s⟩ := s; exact ⟨u, e, s.mono f⟩
def goodRow (p : Int) (n : Nat) (r : List Int) : Bool := decide (r.length = n) && (!r.any (fun x => decide (x < 0)) && !r.any (fun x => decide (p ≤ x)))
def checkM (a : Mat) : Int :=
  if fieldF a.1 = false then 3
  else if a.2.length < 1 ∨ 64 < a.2.length ∨ (a.2.getD 0 []).length < 1 ∨ 64 < (a.2.getD 0 []).length then 2
  else if a.2.all (goodRow a.1 (a.2.getD 0 []).length) then 0 else 3
theorem all_take {α : Type} {l : List α} {P : α → Bool} {i : Nat} (d : α) (hi : i < l.length) : (l.take (i + 1)).all P = ((l.take i).all P && P (l.getD i d)) := by
  rw [List.take_add_one, List.all_append, List.getElem?_eq_getElem hi, List.getD_eq_getElem?_getD, List.getElem?_eq_getElem hi]
  simp
theorem all_bad {α : Type} {l : List α} {P : α → Bool} {i : Nat} (d : α) (hi : i < l.length) (hb : P (l.getD i d) = false) : l.all P = false := by
  rw [List.all_eq_false]
  rw [List.getD_eq_getElem?_getD, List.getElem?_eq_getElem hi] at hb
  exact ⟨l[i], List.getElem_mem _, by simpa using hb⟩

set_option maxHeartbeats 4000000 in
theorem check_ok (v : V) (a : Mat) (h : H) (ha : MatV h v a) (hlen : (a.2.length : Int) ≤ 2 ^ 63 - 1) : Ev T n_matrix_Check [v] h (fun v h' => v = .int .i64 (checkM a) ∧ Fr h h') := by
  obtain ⟨u, rfl, hu⟩ := ha
  obtain ⟨p, rows⟩ := a
  simp only at hu hlen
  refine Ev_of t_matrix_Check rfl ?_
  have hw := SV.what hu.choose_spec.1
  simp (disch := first | omega | (simp only [Qn] <;> omega)) only [go_sem, c_matrix_Check, initV_eq, boxV_agg2 h (v := .int .i64 p) rfl hw.2.1]
  have hfx : Fr h (h.new (.cells false [.int .i64 p, u])) := (Fr.refl h).new _
  have hgx : (h.new (.cells false [.int .i64 p, u])).get h.next = some (.cells false [.int .i64 p, u]) := H.get_new_same ..
  have hnx : (h.new (.cells false [.int .i64 p, u])).next = h.next + 1 := H.next_new ..
  generalize h.new (.cells false [.int .i64 p, u]) = hx at *
  have x0 : hx.cell h.next 0 = some (.int .i64 p) := by rw [H.cell_of hgx]; rfl
  have x1 : hx.cell h.next 1 = some u := by rw [H.cell_of hgx]; rfl
  refine (field_ok p hx).mono ?_
  rintro v h' ⟨rfl, rfl⟩
  cases hf : fieldF p with
  | false =>
    simp (disch := first | omega | (simp only [Qn] <;> omega)) only [go_sem]
    exact ⟨by rw [checkM, if_pos hf], hfx⟩
  | true =>
    have hF : ∀ w : Int, (if rows.length < 1 ∨ 64 < rows.length ∨ (rows.getD 0 []).length < 1 ∨ 64 < (rows.getD 0 []).length then (2 : Int) else if rows.all (goodRow p (rows.getD 0 []).length) then 0 else 3) = w → checkM (p, rows) = w := fun w e => by
      rw [checkM, if_neg (by simp [hf])]; exact e
    simp (disch := first | omega | (simp only [Qn] <;> omega)) only [go_sem, x1, hu.lens]
    refine iteW_dec (fun a1 => ?_) (fun a1 => ?_)
    · rw [decide_eq_true a1]
      simp (disch := first | omega | (simp only [Qn] <;> omega)) only [go_sem]
      exact ⟨by rw [hF 2 (if_pos (.inl (by omega)))], hfx⟩
    rw [decide_eq_false a1]
    simp (disch := first | omega | (simp only [Qn] <;> omega)) only [go_sem, x1, hu.lens]
    refine iteW_dec (fun a2 => ?_) (fun a2 => ?_)
    · rw [decide_eq_true a2]
      simp (disch := first | omega | (simp only [Qn] <;> omega)) only [go_sem]
      exact ⟨by rw [hF 2 (if_pos (.inr (.inl (by omega))))], hfx⟩
    rw [decide_eq_false a2]
    obtain ⟨id, off, ws, su, hid, hwl, hc, hall⟩ := (hu.mono hfx).open
    have c0 : h'.cell id off = some (ws.getD 0 .undef) := hc 0 (by omega)
    have r0 := row_at hall (i := 0) (by omega)
    simp (disch := first | omega | (simp only [Qn] <;> omega)) only [go_sem, x1, su.ixa, c0, r0.lens]
    refine iteW_dec (fun a3 => ?_) (fun a3 => ?_)
    · rw [decide_eq_true a3]
      simp (disch := first | omega | (simp only [Qn] <;> omega)) only [go_sem]
      exact ⟨by rw [hF 2 (if_pos (.inr (.inr (.inl (by omega)))))], hfx⟩
    rw [decide_eq_false a3]
    simp (disch := first | omega | (simp only [Qn] <;> omega)) only [go_sem, x1, su.ixa, c0, r0.lens]
    refine iteW_dec (fun a4 => ?_) (fun a4 => ?_)
    · rw [decide_eq_true a4]
      simp (disch := first | omega | (simp only [Qn] <;> omega)) only [go_sem]
      exact ⟨by rw [hF 2 (if_pos (.inr (.inr (.inr (by omega)))))], hfx⟩
    rw [decide_eq_false a4]
    simp (disch := first | omega | (simp only [Qn] <;> omega)) only [go_sem, x1, hu.lens]
    rw [if_neg (by omega)] at hF
    obtain ⟨n0, hn0⟩ : ∃ n, (rows.getD 0 []).length = n := ⟨_, rfl⟩
    have l0 := r0.lens
    rw [hn0] at hF a3 a4 l0
    refine Wp_loop (fun k' vars h1 => ∃ i : Nat, (∃ g : Nat → V, vars = [g 0, .ptr h.next 0, g 2, g 3, g 4, g 5, u, .int .i64 (rows.length : Int), .int .i64 (i : Int), g 9, g 10]) ∧ i ≤ rows.length ∧ (rows.take i).all (goodRow p n0) = true ∧ Fr h' h1 ∧ k' = rows.length - i) rows.length
      ⟨0, ex_junk rfl, Nat.zero_le _, rfl, Fr.refl h', rfl⟩ ?_
    rintro k' vars h1 ⟨i, ⟨g, rfl⟩, hi, ht, f1, rfl⟩
    simp (disch := first | omega | (simp only [Qn] <;> omega)) only [go_sem]
    by_cases hlt : (i : Int) < (rows.length : Int)
    · rw [decide_eq_true hlt]
      have ci : h1.cell id (off + i) = some (ws.getD i .undef) := by rw [f1.cell (hid (by omega))]; exact hc i (by omega)
      have ri0 := row_at hall (i := i) (by omega)
      have lr := ri0.lens
      obtain ⟨r, hr⟩ : ∃ r, rows.getD i [] = r := ⟨_, rfl⟩
      rw [hr] at lr ri0
      simp (disch := first | omega | (simp only [Qn] <;> omega)) only [go_sem, su.ixa, ci]
      have fb := f1.bump (n := h1.next + 20) (by omega)
      have z0 : (H.mk h1.tr (h1.next + 20)).cell h.next 0 = some (.int .i64 p) := by rw [fb.cell (by omega)]; exact x0
      have z1 : (H.mk h1.tr (h1.next + 20)).cell h.next 1 = some u := by rw [fb.cell (by omega)]; exact x1
      have zc : (H.mk h1.tr (h1.next + 20)).cell id off = some (ws.getD 0 .undef) := by rw [fb.cell (hid (by omega))]; exact c0
      have ri := ri0.mono fb
      have hm := all_take (P := goodRow p n0) (l := rows) (i := i) [] (by omega)
      have hbad := all_bad (P := goodRow p n0) (l := rows) (i := i) [] (by omega)
      rw [hr] at hm hbad
      generalize H.mk h1.tr (h1.next + 20) = hh at *
      generalize ws.getD i .undef = wi at *
      have h3 : goodRow p n0 r = false → checkM (p, rows) = 3 := fun hg => hF 3 (if_neg (by rw [hbad hg]; simp))
      have h0' : goodRow p n0 r = true → (rows.take (i + 1)).all (goodRow p n0) = true := fun hg => by rw [hm, ht, hg]; rfl
      simp (disch := first | omega | (simp only [Qn] <;> omega)) only [go_sem, lr, z1, su.ixa, zc, l0]
      by_cases hrn : r.length = n0
      · have d1 : decide ((r.length : Int) ≠ (n0 : Int)) = false := decide_eq_false (by omega)
        simp (disch := first | omega | (simp only [Qn] <;> omega)) only [go_sem, d1]
        refine (min_ok wi r hh ri (by omega) (by omega)).mono ?_
        rintro v hh1 ⟨mn, rfl, rfl, hmn⟩
        simp (disch := first | omega | (simp only [Qn] <;> omega)) only [go_sem]
        have e1 := hmn 0
        cases hA : r.any (fun x => decide (x < 0)) with
        | true =>
          rw [hA] at e1
          simp (disch := first | omega | (simp only [Qn] <;> omega)) only [go_sem, e1, undef_eq, z0]
          exact ⟨by rw [h3 (by rw [goodRow, hA]; simp)], hfx.trans fb⟩
        | false =>
          rw [hA] at e1
          simp (disch := first | omega | (simp only [Qn] <;> omega)) only [go_sem, e1, z0]
          refine (max_ok wi r _ ri (by omega) (by omega)).mono ?_
          rintro v hh2 ⟨mx, rfl, rfl, hmx⟩
          have e2 := hmx p
          simp (disch := first | omega | (simp only [Qn] <;> omega)) only [go_sem, z0, e2]
          cases hB : r.any (fun x => decide (p ≤ x)) with
          | true =>
            simp (disch := first | omega | (simp only [Qn] <;> omega)) only [go_sem, z0, e2]
            exact ⟨by rw [h3 (by rw [goodRow, hA, hB]; simp)], hfx.trans fb⟩
          | false =>
            simp (disch := first | omega | (simp only [Qn] <;> omega)) only [go_sem, z0, e2]
            rw [show (i : Int) + 1 = ((i + 1 : Nat) : Int) from by omega]
            exact ⟨rows.length - (i + 1), by omega, i + 1, ex_junk rfl, by omega, h0' (by rw [goodRow, hA, hB, decide_eq_true hrn]; rfl), fb, rfl⟩
      · have d1 : decide ((r.length : Int) ≠ (n0 : Int)) = true := decide_eq_true (by omega)
        simp (disch := first | omega | (simp only [Qn] <;> omega)) only [go_sem, d1, undef_eq, z0]
        exact ⟨by rw [h3 (by rw [goodRow, decide_eq_false hrn]; rfl)], hfx.trans fb⟩
    · rw [decide_eq_false hlt]
      obtain rfl : i = rows.length := by omega
      rw [List.take_length] at ht
      simp (disch := first | omega | (simp only [Qn] <;> omega)) only [go_sem]
      exact ⟨by rw [hF 0 (if_pos ht)], hfx.trans f1⟩
end Go.Proofs.Ytonhijbeddcmpaa

/- Layer 4: zip, plus. -/
namespace Go.Proofs.Ytonhijbeddcmpaa
open Go Go.Ay
set_option maxRecDepth 100000
theorem nonneg_tmod {a p : Int} (ha : 0 ≤ a) : a.tmod p = a % p := Int.tmod_eq_emod_of_nonneg ha
/-- What 'plus' returns. -/
theorem plus_ok (p x : Int) (h : H) : Ev T n_matrix_plus [.int .i64 p, .int .i64 x] h (fun v h' => ∃ ix ip, v = .fn 88 [] [.ptr ix 0, .ptr ip 0] ∧ h'.cell ix 0 = some (.int .i64 x) ∧ h'.cell ip 0 = some (.int .i64 p) ∧ (h.next ≤ ix ∧ ix < h'.next) ∧ (h.next ≤ ip ∧ ip < h'.next) ∧ Fr h h') := by
  refine Ev_of t_matrix_plus rfl ?_
  simp (disch := first | omega | (simp only [Qn] <;> omega)) only [go_sem, c_matrix_plus, initV_eq]
  have f1 := (Fr.refl h).new (.cells false [.int .i64 p])
  have g2 : ((h.new (.cells false [.int .i64 p])).new (.cells false [.int .i64 x])).get (h.next + 1) = some (.cells false [.int .i64 x]) := by
    have := H.get_new_same (h.new (.cells false [.int .i64 p])) (.cells false [.int .i64 x])
    rw [H.next_new] at this; exact this
  have g1 : ((h.new (.cells false [.int .i64 p])).new (.cells false [.int .i64 x])).get h.next = some (.cells false [.int .i64 p]) := by
    rw [H.get_new_ne _ (by rw [H.next_new]; omega)]; exact H.get_new_same ..
  exact ⟨_, _, rfl, by rw [H.cell_of g2]; rfl, by rw [H.cell_of g1]; rfl, by omega, by omega, f1.new _⟩
theorem plus1_ok (ix ip : Nat) (p x a b : Int) (h : H) (hx : h.cell ix 0 = some (.int .i64 x)) (hp : h.cell ip 0 = some (.int .i64 p)) (ha : 0 ≤ a ∧ a < 1000000000) (hb : 0 ≤ x * b ∧ x * b < 1000000000000) (hp1 : 0 < p) (hp2 : p < 1000000) :
    callP T (.fn 88 [] [.ptr ix 0, .ptr ip 0]) [.int .i64 a, .int .i64 b] h (fun v h' => v = .int .i64 ((a + x * b) % p) ∧ h' = h) := by
  have e := nonneg_tmod (a := a + x * b) (p := p) (by omega)
  have r := tmod_range (a + x * b) hp1
  show Ev T n_matrix_plus_1 [.int .i64 a, .int .i64 b, .ptr ix 0, .ptr ip 0] h _
  refine Ev_of t_matrix_plus_1 rfl ?_
  simp (disch := first | omega | (simp only [Qn] <;> omega)) only [go_sem, c_matrix_plus_1, initV_eq, hx, hp, e]
theorem zip_ok (va vb f : V) (a b : List Int) (G : Int → Int → Int) (h : H) (ha : SI h va a) (hb : SI h vb b) (hab : a.length ≤ b.length) (hl : a.length < 1000000) (hf : ∀ h', Fr h h' → ∀ i, i < a.length → callP T f [.int .i64 (a.getD i 0), .int .i64 (b.getD i 0)] h' (fun v h'' => v = .int .i64 (G (a.getD i 0) (b.getD i 0)) ∧ h'' = h')) :
    Ev T n_matrix_zip_int_int_int_x69 [va, vb, f] h (fun v h' => Own h' v 1 (ints (List.zipWith G a b)) h.next ∧ Fr h h') := by
  refine Ev_of t_matrix_zip_int_int_int_x69 rfl ?_
  have emk : mksV h 1 8 [.int .i64 0] (.int .i64 (a.length : Int)) (.int .i64 (a.length : Int)) = some (.sl h.next 0 a.length (.kn a.length), h.new (.cells false (ints (List.replicate a.length 0)))) := by
    rw [mksV_int (by omega) (Int.le_refl _) (by omega) (by omega), Int.toNat_natCast, Nat.mul_one, zeros_int]
  simp (disch := first | omega | (simp only [Qn] <;> omega)) only [go_sem, c_matrix_zip_int_int_int_x69, initV_eq, ha.lens, emk]
  have hfz : Fr h (h.new (.cells false (ints (List.replicate a.length 0)))) := (Fr.refl h).new _
  have hgz : (h.new (.cells false (ints (List.replicate a.length 0)))).get h.next = some (.cells false (ints (List.replicate a.length 0))) := H.get_new_same ..
  have hnz : (h.new (.cells false (ints (List.replicate a.length 0)))).next = h.next + 1 := H.next_new ..
  generalize h.new (.cells false (ints (List.replicate a.length 0))) = hz at *
  obtain ⟨ida, offa, sa, hida, ca⟩ := ha.open
  obtain ⟨idb, offb, sb, hidb, cb⟩ := hb.open
  refine Wp_loop (fun k' vars h3 => ∃ (i : Nat) (o : List Int), (∃ g : Nat → V, vars = [g 0, vb, f, g 3, .sl h.next 0 a.length (.kn a.length), g 5, g 6, va, .int .i64 (a.length : Int), .int .i64 (i : Int), g 10]) ∧ i ≤ a.length ∧ o.length = a.length ∧ (∀ k, k < i → o.getD k 0 = G (a.getD k 0) (b.getD k 0)) ∧ h3.get h.next = some (.cells false (ints o)) ∧ h3.next = h.next + 1 ∧ Fr h h3 ∧ k' = a.length - i) a.length
    ⟨0, _, ex_junk rfl, Nat.zero_le _, List.length_replicate .., fun k hk => absurd hk (Nat.not_lt_zero k), hgz, hnz, hfz, rfl⟩ ?_
  rintro k' vars h3 ⟨i, o, ⟨g, rfl⟩, hi, ho, hG, g3, n3, f3, rfl⟩
  simp (disch := first | omega | (simp only [Qn] <;> omega)) only [go_sem]
  by_cases hlt : (i : Int) < (a.length : Int)
  · rw [decide_eq_true hlt]
    have cai : h3.cell ida (offa + i) = some (.int .i64 (a.getD i 0)) := by rw [f3.cell (hida (by omega))]; exact ca i (by omega)
    have cbi : h3.cell idb (offb + i) = some (.int .i64 (b.getD i 0)) := by rw [f3.cell (hidb (by omega))]; exact cb i (by omega)
    simp (disch := first | omega | (simp only [Qn] <;> omega)) only [go_sem, sa.ixa, sb.ixa, cai, cbi]
    refine (hf h3 f3 i (by omega)).mono ?_
    rintro v h4 ⟨rfl, rfl⟩
    simp (disch := first | omega | (simp only [Qn] <;> omega)) only [go_sem, g3]
    rw [show (i : Int) + 1 = ((i + 1 : Nat) : Int) from by omega]
    refine ⟨a.length - (i + 1), by omega, i + 1, o.set i (G (a.getD i 0) (b.getD i 0)), ex_junk rfl, by omega, by rw [List.length_set]; exact ho, fun k hk => ?_, rfl, n3, f3.set (Nat.le_refl _) _, rfl⟩
    rw [getD_set]
    by_cases he : i = k
    · subst he; rw [if_pos rfl, if_pos (by omega)]
    · rw [if_neg he]; exact hG k (by omega)
  · rw [decide_eq_false hlt]
    obtain rfl : i = a.length := by omega
    simp (disch := first | omega | (simp only [Qn] <;> omega)) only [go_sem]
    have : List.zipWith G a b = o := by
      refine eq_of_getD (by rw [List.length_zipWith, ho]; omega) fun j hj => ?_
      rw [List.length_zipWith] at hj
      rw [hG j (by omega), List.getD_eq_getElem?_getD, List.getElem?_zipWith, List.getD_eq_getElem?_getD, List.getD_eq_getElem?_getD, List.getElem?_eq_getElem (show j < a.length by omega), List.getElem?_eq_getElem (show j < b.length by omega)]
      rfl
    rw [this]
    exact ⟨.inr ⟨h.next, a.length, _, [], rfl, by rw [ints_length, ho, Nat.mul_one], .inr ⟨rfl, rfl⟩, Nat.le_refl _, by omega, by rw [List.append_nil]; exact g3⟩, f3⟩
end Go.Proofs.Ytonhijbeddcmpaa

/- Layer 4: valid matrices; apply. -/
namespace Go.Proofs.Ytonhijbeddcmpaa
open Go Go.Ay
set_option maxRecDepth 100000
/-- An entry. -/
def ent (rows : List (List Int)) (i k : Nat) : Int := (rows.getD i []).getD k 0
/-- A list from a function. -/
def mkV (n : Nat) (f : Nat → Int) : List Int := (List.range n).map f
theorem mkV_len (n : Nat) (f : Nat → Int) : (mkV n f).length = n := by rw [mkV, List.length_map, List.length_range]
theorem mkV_get {n : Nat} (f : Nat → Int) {k : Nat} (hk : k < n) : (mkV n f).getD k 0 = f k := by
  rw [mkV, List.getD_eq_getElem?_getD, List.getElem?_map, List.getElem?_range hk]; rfl
theorem mkV_eq {n : Nat} {f : Nat → Int} {l : List Int} (hl : l.length = n) (h : ∀ k, k < n → l.getD k 0 = f k) : l = mkV n f :=
  eq_of_getD (by rw [mkV_len]; exact hl) fun k hk => by rw [mkV_get f (by omega)]; exact h k (by omega)
theorem mkV_congr {n : Nat} {f g : Nat → Int} (h : ∀ k, k < n → f k = g k) : mkV n f = mkV n g := mkV_eq (mkV_len n f) fun k hk => by rw [mkV_get f hk]; exact h k hk
theorem zip_mkV {n : Nat} {f : Nat → Int} {l : List Int} (hl : l.length = n) (G : Int → Int → Int) : List.zipWith G (mkV n f) l = mkV n (fun k => G (f k) (l.getD k 0)) := by
  refine mkV_eq (by rw [List.length_zipWith, mkV_len, hl]; omega) fun k hk => ?_
  rw [List.getD_eq_getElem?_getD, List.getElem?_zipWith]
  have e1 := mkV_get f hk
  rw [List.getD_eq_getElem?_getD, List.getElem?_eq_getElem (by rw [mkV_len]; exact hk)] at e1
  rw [List.getElem?_eq_getElem (show k < (mkV n f).length by rw [mkV_len]; exact hk), List.getElem?_eq_getElem (show k < l.length by omega), List.getD_eq_getElem?_getD, List.getElem?_eq_getElem (show k < l.length by omega)]
  simp only [Option.getD_some] at e1 ⊢
  rw [e1]
/-- A valid matrix. -/
structure Vd (a : Mat) (c : Nat) : Prop where
  p : fieldF a.1 = true
  r1 : 1 ≤ a.2.length
  r2 : a.2.length ≤ 64
  c1 : 1 ≤ c
  c2 : c ≤ 64
  row : ∀ i, i < a.2.length → (a.2.getD i []).length = c
  lo : ∀ i k, i < a.2.length → k < c → 0 ≤ ent a.2 i k
  hi : ∀ i k, i < a.2.length → k < c → ent a.2 i k < a.1
theorem check_vd {a : Mat} (h : checkM a = 0) : Vd a (a.2.getD 0 []).length := by
  rw [checkM] at h
  split at h
  · cases h
  rename_i hp
  split at h
  · cases h
  rename_i hb
  split at h
  · rename_i hall
    have hrow : ∀ i, i < a.2.length → goodRow a.1 (a.2.getD 0 []).length (a.2.getD i []) = true := fun i hi => by
      rw [List.getD_eq_getElem?_getD (l := a.2) (i := i), List.getElem?_eq_getElem hi]
      exact List.all_eq_true.1 hall _ (List.getElem_mem _)
    have key : ∀ i, i < a.2.length → (a.2.getD i []).length = (a.2.getD 0 []).length ∧ ∀ k, k < (a.2.getD i []).length → 0 ≤ ent a.2 i k ∧ ent a.2 i k < a.1 := fun i hi => by
      have hg := hrow i hi
      simp only [goodRow, Bool.and_eq_true, decide_eq_true_eq, Bool.not_eq_true'] at hg
      refine ⟨hg.1, fun k hk => ⟨?_, ?_⟩⟩
      · refine Int.not_lt.1 fun hlt => ?_
        have := (any_index (P := fun x => decide (x < 0))).2 ⟨k, hk, decide_eq_true hlt⟩
        rw [hg.2.1] at this; cases this
      · refine Int.not_le.1 fun hlt => ?_
        have := (any_index (P := fun x => decide (a.1 ≤ x))).2 ⟨k, hk, decide_eq_true hlt⟩
        rw [hg.2.2] at this; cases this
    exact ⟨by simpa using hp, by omega, by omega, by omega, by omega, fun i hi => (key i hi).1, fun i k hi hk => ((key i hi).2 k (by rw [(key i hi).1]; exact hk)).1, fun i k hi hk => ((key i hi).2 k (by rw [(key i hi).1]; exact hk)).2⟩
  · cases h
theorem vd_check {a : Mat} {c : Nat} (v : Vd a c) : checkM a = 0 := by
  have h0 := v.row 0 v.r1
  have := v.r1
  have := v.r2
  have := v.c1
  have := v.c2
  rw [checkM, if_neg (by rw [v.p]; simp), if_neg (by omega), if_pos]
  rw [List.all_eq_true]
  intro r hr
  obtain ⟨i, hi, rfl⟩ := List.mem_iff_getElem.1 hr
  have e : a.2[i] = a.2.getD i [] := by rw [List.getD_eq_getElem?_getD, List.getElem?_eq_getElem hi]; rfl
  have hrow := v.row i hi
  rw [goodRow, e, hrow, h0, decide_eq_true rfl, Bool.true_and, Bool.and_eq_true, Bool.not_eq_true', Bool.not_eq_true']
  constructor
  · rw [← Bool.not_eq_true, any_index]
    rintro ⟨k, hk, hd⟩
    have := v.lo i k hi (by omega)
    rw [ent] at this
    have := of_decide_eq_true hd
    omega
  · rw [← Bool.not_eq_true, any_index]
    rintro ⟨k, hk, hd⟩
    have := v.hi i k hi (by omega)
    rw [ent] at this
    have := of_decide_eq_true hd
    omega

/-- v times a. -/
def applyF (v : List Int) (a : Mat) (c : Nat) : List Int := mkV c (fun k => sm v.length (fun i => v.getD i 0 * ent a.2 i k) % a.1)
set_option maxHeartbeats 4000000 in
theorem apply_ok (vv va : V) (v : List Int) (a : Mat) (c : Nat) (h : H) (hv : SI h vv v) (ha : MatV h va a) (hd : Vd a c) (hl : v.length ≤ a.2.length) (hvr : ∀ i, i < v.length → 0 ≤ v.getD i 0 ∧ v.getD i 0 < a.1) :
    Ev T n_matrix_apply [vv, va] h (fun w h' => Own h' w 1 (ints (applyF v a c)) h.next ∧ Fr h h') := by
  obtain ⟨u, rfl, hu⟩ := ha
  obtain ⟨p, rows⟩ := a
  simp only at hu hl hvr
  have hp := fieldF_range hd.p
  have hr1 := hd.r1
  have hr2 := hd.r2
  have hc1 := hd.c1
  have hc2 := hd.c2
  simp only at hp hr1 hr2
  refine Ev_of t_matrix_apply rfl ?_
  have hw := SV.what hu.choose_spec.1
  simp (disch := first | omega | (simp only [Qn] <;> omega)) only [go_sem, c_matrix_apply, initV_eq, boxV_agg2 h (v := .int .i64 p) rfl hw.2.1]
  have hfx : Fr h (h.new (.cells false [.int .i64 p, u])) := (Fr.refl h).new _
  have hgx : (h.new (.cells false [.int .i64 p, u])).get h.next = some (.cells false [.int .i64 p, u]) := H.get_new_same ..
  have hnx : (h.new (.cells false [.int .i64 p, u])).next = h.next + 1 := H.next_new ..
  generalize h.new (.cells false [.int .i64 p, u]) = hx at *
  have x0 : hx.cell h.next 0 = some (.int .i64 p) := by rw [H.cell_of hgx]; rfl
  have x1 : hx.cell h.next 1 = some u := by rw [H.cell_of hgx]; rfl
  obtain ⟨id, off, ws, su, hid, hwl, hc, hall⟩ := (hu.mono hfx).open
  have c0 : hx.cell id off = some (ws.getD 0 .undef) := hc 0 (by omega)
  have r0 := row_at hall (i := 0) (by omega)
  have l0 := r0.lens
  rw [hd.row 0 hr1] at l0
  have emk : mksV hx 1 8 [.int .i64 0] (.int .i64 (c : Int)) (.int .i64 (c : Int)) = some (.sl hx.next 0 c (.kn c), hx.new (.cells false (ints (List.replicate c 0)))) := by
    rw [mksV_int (by omega) (Int.le_refl _) (by omega) (by omega), Int.toNat_natCast, Nat.mul_one, zeros_int]
  simp (disch := first | omega | (simp only [Qn] <;> omega)) only [go_sem, x1, su.ixa, c0, l0, emk, hv.lens]
  have hfz : Fr hx (hx.new (.cells false (ints (List.replicate c 0)))) := (Fr.refl hx).new _
  have hgz : (hx.new (.cells false (ints (List.replicate c 0)))).get hx.next = some (.cells false (ints (List.replicate c 0))) := H.get_new_same ..
  have hnz : (hx.new (.cells false (ints (List.replicate c 0)))).next = hx.next + 1 := H.next_new ..
  generalize hx.new (.cells false (ints (List.replicate c 0))) = hz at *
  have own0 : Own hz (.sl hx.next 0 c (.kn c)) 1 (ints (List.replicate c 0)) h.next := .inr ⟨hx.next, c, _, [], rfl, by rw [ints_length, List.length_replicate, Nat.mul_one], .inr ⟨rfl, rfl⟩, by omega, by omega, by rw [List.append_nil]; exact hgz⟩
  have e0 : List.replicate c (0 : Int) = mkV c (fun k => sm 0 (fun i => v.getD i 0 * ent rows i k) % p) := mkV_eq (List.length_replicate ..) fun k hk => by
    rw [sm_zero, List.getD_eq_getElem?_getD, List.getElem?_replicate, if_pos hk]; simp
  rw [e0] at own0
  refine Wp_loop (fun k' vars h3 => ∃ (i : Nat) (o : V), (∃ g : Nat → V, vars = [g 0, g 1, .ptr h.next 0, g 3, o, g 5, g 6, vv, .int .i64 (v.length : Int), .int .i64 (i : Int), g 10]) ∧ i ≤ v.length ∧ Own h3 o 1 (ints (mkV c (fun k => sm i (fun i => v.getD i 0 * ent rows i k) % p))) h.next ∧ Fr hx h3 ∧ k' = v.length - i) v.length
    ⟨0, _, ex_junk rfl, Nat.zero_le _, own0, hfz, rfl⟩ ?_
  clear own0 e0 emk
  rintro k' vars h3 ⟨i, o, ⟨g, rfl⟩, hi, ho, f3, rfl⟩
  simp (disch := first | omega | (simp only [Qn] <;> omega)) only [go_sem]
  by_cases hlt : (i : Int) < (v.length : Int)
  · rw [decide_eq_true hlt]
    obtain ⟨idv, offv, sv, hidv, cv⟩ := (hv.mono (hfx.trans f3)).open
    have cvi := cv i (by omega)
    simp (disch := first | omega | (simp only [Qn] <;> omega)) only [go_sem, sv.ixa, cvi]
    have fb := f3.bump (n := h3.next + 12) (by omega)
    have fbb : Fr h3 (H.mk h3.tr (h3.next + 12)) := (Fr.refl h3).bump (by omega)
    have z0 : (H.mk h3.tr (h3.next + 12)).cell h.next 0 = some (.int .i64 p) := by rw [fb.cell (by omega)]; exact x0
    have z1 : (H.mk h3.tr (h3.next + 12)).cell h.next 1 = some u := by rw [fb.cell (by omega)]; exact x1
    have zc : (H.mk h3.tr (h3.next + 12)).cell id (off + i) = some (ws.getD i .undef) := by rw [fb.cell (hid (by omega))]; exact hc i (by omega)
    have y0 : h3.cell h.next 0 = some (.int .i64 p) := by rw [f3.cell (by omega)]; exact x0
    have y1 : h3.cell h.next 1 = some u := by rw [f3.cell (by omega)]; exact x1
    have yc : h3.cell id (off + i) = some (ws.getD i .undef) := by rw [f3.cell (hid (by omega))]; exact hc i (by omega)
    have ri := (row_at hall (i := i) (by omega)).mono fb
    have ho2 := ho.fr fbb
    have hrow := hd.row i (show i < rows.length by omega)
    have hlo := hd.lo i
    have hhi := hd.hi i
    simp only at hrow hlo hhi
    have hvi := hvr i (by omega)
    generalize H.mk h3.tr (h3.next + 12) = hh at *
    simp (disch := first | omega | (simp only [Qn] <;> omega)) only [go_sem, y0, y1, z0, z1, su.ixa, zc, yc]
    refine (plus_ok p (v.getD i 0) hh).mono ?_
    rintro w hk ⟨ix, ip, rfl, cx, cp, lx, lp, fk⟩
    have k0 : hk.cell h.next 0 = some (.int .i64 p) := by rw [(fb.trans fk).cell (by omega)]; exact x0
    have k1 : hk.cell h.next 1 = some u := by rw [(fb.trans fk).cell (by omega)]; exact x1
    have kc : hk.cell id (off + i) = some (ws.getD i .undef) := by rw [(fb.trans fk).cell (hid (by omega))]; exact hc i (by omega)
    have ev1 : eqV (ws.getD i .undef) (ws.getD i .undef) = true := SV.eqV ri
    have ev2 : eqV u u = true := SV.eqV hu.choose_spec.1
    simp (disch := first | omega | (simp only [Qn] <;> omega)) only [go_sem, k0, k1, su.ixa, kc, ev1, ev2]
    refine (zip_ok o (ws.getD i .undef) _ _ _ (fun a b => (a + v.getD i 0 * b) % p) hk (ho2.fr fk).sv (ri.mono fk) (by rw [mkV_len, hrow]; omega) (by rw [mkV_len]; omega) fun h' f' k hk' => ?_).mono ?_
    · rw [mkV_len] at hk'
      rw [mkV_get _ hk']
      have hm := tmod_range (sm i (fun i => v.getD i 0 * ent rows i k)) (show 0 < p by omega)
      have a1 := hlo k (by omega) hk'
      have a2 := hhi k (by omega) hk'
      rw [ent] at a1 a2
      have b1 := Int.mul_nonneg hvi.1 a1
      have b2 := Int.mul_le_mul (Int.le_of_lt hvi.2) (Int.le_of_lt a2) a1 (by omega)
      have b3 : p * p ≤ 10000 * 10000 := Int.mul_le_mul (by omega) (by omega) (by omega) (by omega)
      exact plus1_ok ix ip p (v.getD i 0) _ _ h' (by rw [f'.cell lx.2]; exact cx) (by rw [f'.cell lp.2]; exact cp) (by omega) (by omega) (by omega) (by omega)
    · rintro w h5 ⟨o5, f5⟩
      simp (disch := first | omega | (simp only [Qn] <;> omega)) only [go_sem]
      rw [show (i : Int) + 1 = ((i + 1 : Nat) : Int) from by omega]
      have e1 : List.zipWith (fun a b => (a + v.getD i 0 * b) % p) (mkV c (fun k => sm i (fun i => v.getD i 0 * ent rows i k) % p)) (rows.getD i []) = mkV c (fun k => sm (i + 1) (fun i => v.getD i 0 * ent rows i k) % p) := by
        rw [zip_mkV hrow]
        refine mkV_congr fun k _ => ?_
        rw [sm_succ, Int.emod_add_emod]; rfl
      rw [e1] at o5
      have nn := fbb.next
      have nk := fk.next
      exact ⟨v.length - (i + 1), by omega, i + 1, w, ex_junk rfl, by omega, o5.le (by have := hfx.next; have := f3.next; omega), (fb.trans fk).trans f5, rfl⟩
  · rw [decide_eq_false hlt]
    obtain rfl : i = v.length := by omega
    simp (disch := first | omega | (simp only [Qn] <;> omega)) only [go_sem]
    exact ⟨ho, hfx.trans f3⟩
end Go.Proofs.Ytonhijbeddcmpaa

/- Layer 4: rows that are appended. -/
namespace Go.Proofs.Ytonhijbeddcmpaa
open Go Go.Ay
set_option maxRecDepth 100000
theorem app_at {h h' : H} {x y v : V} {sz bytes b n m : Nat} {ws us : List V} (o : Own h x sz ws b) (hn : ws.length = n * sz) (hm0 : m ≠ 0) (hz : 0 < sz) (hy : SV h y sz us) (hm : us.length = m * sz) (e : appP h sz bytes x y = some (v, h')) : v = .sl h.next 0 (n + m) (.un sz) := by
  simp only [appP, hy.len hm hz, hy.slice] at e
  unfold Ay.appV at e
  simp only [o.sv.len hn hz, o.sv.slice, if_neg hm0] at e
  split at e
  · rcases o with ⟨rfl, rfl⟩ | ⟨id, n', cap, rest, rfl, h1, h2, h3, h4, h5⟩
    · simp at e; exact e.1.symm
    · have : n' = n := Nat.eq_of_mul_eq_mul_right hz (h1.symm.trans hn)
      subst this
      rcases h2 with rfl | ⟨rfl, rfl⟩
      · simp only [h5, if_true] at e
        simp at e; exact e.1.symm
      · simp only at e
        rw [if_neg (by omega)] at e
        simp at e; exact e.1.symm
  · cases e
theorem SI.lt {h : H} {w : V} {r : List Int} (s : SI h w r) {id off n : Nat} {c : Cap} (e : w = .sl id off n c) : id < h.next := by
  rcases s with ⟨h1 | ⟨_, h1⟩, _⟩ | ⟨id', o', l', c', _, _, h1, _, h3, _⟩
  · rw [h1] at e; cases e
  · rw [h1] at e; cases e
  · rw [h1] at e; cases e; exact h3
theorem SI.keep {h h' : H} {w : V} {r : List Int} (s : SI h w r) (hn : h.next ≤ h'.next) (hg : ∀ id off n c, w = .sl id off n c → h'.get id = h.get id) : SI h' w r := by
  rcases s with h1 | ⟨id, o', l', c', ro, vs, h1, h2, h3, h4, h5, h6⟩
  · exact .inl h1
  · exact .inr ⟨id, o', l', c', ro, vs, h1, h2, Nat.lt_of_lt_of_le h3 hn, by rw [hg _ _ _ _ h1]; exact h4, h5, h6⟩
theorem All2.keep {α β : Type} {R S : α → β → Prop} : ∀ {as : List α} {bs : List β}, All2 R as bs → (∀ a ∈ as, ∀ b, R a b → S a b) → All2 S as bs
  | [], [], _, _ => trivial
  | a :: as, b :: bs, h, k => ⟨k a (List.mem_cons_self ..) b h.1, All2.keep h.2 fun x hx y => k x (List.mem_cons_of_mem _ hx) y⟩
  | [], _ :: _, h, _ => h.elim
  | _ :: _, [], h, _ => h.elim
theorem own_apart {h : H} {u : V} {sz b k : Nat} {ws : List V} (o : Own h u sz ws b) (hk : k < b) : Apart u k := by
  rcases o with ⟨h1, _⟩ | ⟨id, n, cap, rest, h1, _, _, h2, _⟩
  · rw [h1]; exact Apart.nils k
  · rw [h1]; exact Apart.sl (by omega)
/-- Rows that the call has made. -/
structure Rws (h : H) (u : V) (ws : List V) (ll : List (List Int)) (lo : Nat) : Prop where
  own : Own h u 1 ws lo
  row : All2 (SI h) ws ll
  dis : ∀ w ∈ ws, Dis u w
  frs : ∀ w ∈ ws, Frs w lo
theorem Rws.nils (h : H) (lo : Nat) : Rws h .nils [] [] lo := ⟨Own.nils _ _ _, trivial, fun _ h => (by cases h), fun _ h => by cases h⟩
theorem Rws.sr {h : H} {u : V} {ws : List V} {ll : List (List Int)} {lo : Nat} (r : Rws h u ws ll lo) : SR h u ll := ⟨ws, r.own.sv, r.row⟩
theorem Rws.fr {h h' : H} {u : V} {ws : List V} {ll : List (List Int)} {lo : Nat} (r : Rws h u ws ll lo) (f : Fr h h') : Rws h' u ws ll lo := ⟨r.own.fr f, r.row.mono fun _ _ s => s.mono f, r.dis, r.frs⟩
theorem Rws.set {h : H} {u : V} {ws : List V} {ll : List (List Int)} {lo x : Nat} (r : Rws h u ws ll lo) (hx : x < lo) (o : Option Ob) : Rws (h.set x o) u ws ll lo :=
  ⟨r.own.set hx o, All2.keep r.row fun w hw b s => SI.keep s (Nat.le_refl _) fun id off n c e => H.get_set_ne h (by have := r.frs w hw _ _ _ _ e; omega) o, r.dis, r.frs⟩
theorem Rws.app {h : H} {u : V} {ws : List V} {ll : List (List Int)} {lo : Nat} (r : Rws h u ws ll lo) (hlo : lo ≤ h.next) {w y : V} {l : List Int} (hy : SV h y 1 [w]) (hw : SI h w l) (dw : Dis u w) (fw : Frs w lo) (hs : ws.length < 1000000) :
    ∃ v h', appP h 1 24 u y = some (v, h') ∧ Rws h' v (ws ++ [w]) (ll ++ [l]) lo ∧ h.next ≤ h'.next ∧ (∀ k, k < h.next → Apart u k → h'.get k = h.get k) ∧ ∀ a, Fr a h → a.next ≤ lo → Fr a h' := by
  obtain ⟨v, h', e, a⟩ := r.own.app (bytes := 24) (n := ws.length) (m := 1) (us := [w]) (y := y) hlo hy (by omega) rfl (by omega) (by omega)
  have ev := app_at r.own (n := ws.length) (by omega) (m := 1) (by omega) (by omega) hy rfl e
  have hg := a.get
  have hn := a.next
  have keep : ∀ x l, SI h x l → Dis u x → SI h' x l := fun x l s d => SI.keep s (by omega) fun id off n c e => hg id (SI.lt s e) fun id' o' n' c' e' h0 => d _ _ _ _ e' _ _ _ _ e h0.symm
  refine ⟨v, h', e, ⟨a.own, All2.append (All2.keep r.row fun x hx b s => keep x b s (r.dis x hx)) ⟨keep w l hw dw, trivial⟩, fun x hx => ?_, fun x hx => (by
    rcases List.mem_append.1 hx with hx | hx
    · exact r.frs x hx
    · rw [List.mem_singleton.1 hx]; exact fw)⟩, by omega, hg, a.fr⟩
  have hxl : ∃ l, SI h x l := by
    rcases List.mem_append.1 hx with hx | hx
    · obtain ⟨i, hi, rfl⟩ := List.mem_iff_getElem.1 hx
      have := r.row.length
      exact ⟨_, r.row.get i hi (by omega)⟩
    · rw [List.mem_singleton.1 hx]; exact ⟨_, hw⟩
  obtain ⟨lx, sx⟩ := hxl
  intro i o n c e1 i' o' n' c' e2
  rw [ev] at e1; cases e1
  have := SI.lt sx e2
  omega
/-- A list of one row that is laid at an index that was kept for it. -/
def litAt (h : H) (a : Nat) (w : V) : H := H.mk ((H.mk h.tr a).new (.cells false [w])).tr h.next
theorem litAt_eq (h : H) (a : Nat) (w : V) : H.mk ((H.mk h.tr a).new (.cells false [w])).tr h.next = litAt h a w := rfl
theorem litAt_get (h : H) (a : Nat) (w : V) : (litAt h a w).get a = some (.cells false [w]) := by
  rw [litAt, H.get_next']; exact H.get_new_same ..
theorem litAt_ne (h : H) {a k : Nat} (w : V) (hk : k ≠ a) : (litAt h a w).get k = h.get k := by
  rw [litAt, H.get_next', H.get_new_ne _ hk, H.get_next']
theorem litAt_fr {b h : H} (f : Fr b h) {a : Nat} (ha : b.next ≤ a) (w : V) : Fr b (litAt h a w) := ⟨f.next, fun k hk => (litAt_ne h w (by omega)).trans (f.get k hk)⟩
theorem litAt_sv (h : H) {a : Nat} (w : V) (ha : a < h.next) : SV (litAt h a w) (.sl a 0 1 (.kn 1)) 1 [w] := .inr ⟨a, 0, 1, _, false, [w], rfl, rfl, ha, litAt_get h a w, Nat.le_refl _, rfl⟩
end Go.Proofs.Ytonhijbeddcmpaa

/- Layer 4: the product. -/
namespace Go.Proofs.Ytonhijbeddcmpaa
open Go Go.Ay
set_option maxRecDepth 100000
/-- Rows from a function. -/
def mkR (r c : Nat) (f : Nat → Nat → Int) : List (List Int) := (List.range r).map fun i => mkV c (f i)
theorem mkR_len (r c : Nat) (f : Nat → Nat → Int) : (mkR r c f).length = r := by rw [mkR, List.length_map, List.length_range]
theorem mkR_row {r c : Nat} (f : Nat → Nat → Int) {i : Nat} (hi : i < r) : (mkR r c f).getD i [] = mkV c (f i) := by
  rw [mkR, List.getD_eq_getElem?_getD, List.getElem?_map, List.getElem?_range hi]; rfl
theorem mkR_ent {r c : Nat} (f : Nat → Nat → Int) {i k : Nat} (hi : i < r) (hk : k < c) : ent (mkR r c f) i k = f i k := by rw [ent, mkR_row f hi, mkV_get _ hk]
theorem mkR_succ (r c : Nat) (f : Nat → Nat → Int) : mkR (r + 1) c f = mkR r c f ++ [mkV c (f r)] := by
  rw [mkR, List.range_succ, List.map_append]; rfl
theorem mkR_congr {r c : Nat} {f g : Nat → Nat → Int} (h : ∀ i k, i < r → k < c → f i k = g i k) : mkR r c f = mkR r c g := by
  rw [mkR, mkR]
  refine List.map_congr_left fun i hi => mkV_congr fun k hk => h i k (List.mem_range.1 hi) hk
theorem bls_v (h : H) (w : V) (hw : w.cells = [w]) (h1 : w.one = true) : blsV h 1 [.nils] 1 [(0, 1, w)] = some (.sl h.next 0 1 (.kn 1), h.new (.cells false [w])) := by
  have e1 : putAt [V.nils] 0 [w] = some [w] := by simp [putAt]
  simp only [blsV, fillV, zerosV, hw, List.length_singleton, List.all_cons, List.all_nil, h1, Bool.and_self, and_self, if_true, e1, Option.map_some]
  simp [hw, h1, putAt]
theorem bldV_fst {z1 z2 v : V} (hv : v.cells = [v]) (hv1 : v.one = true) : bldV [z1, z2] [(0, 1, v)] = some (.agg [v, z2]) := by
  have e1 : putAt [z1, z2] 0 [v] = some [v, z2] := by simp [putAt]
  simp only [bldV, fillV, hv, List.length_singleton, List.all_cons, List.all_nil, hv1, Bool.and_self, and_self, if_true, e1, Option.map_some]
theorem putO_snd {x y v : V} (h : H) (id : Nat) : putO (some (.cells false [x, y])) h id 1 [v] = some (h.set id (some (.cells false [x, v]))) := by
  simp [putO, putAt]
theorem Rws.le {h : H} {u : V} {ws : List V} {ll : List (List Int)} {lo lo' : Nat} (r : Rws h u ws ll lo) (hl : lo' ≤ lo) : Rws h u ws ll lo' := ⟨r.own.le hl, r.row, r.dis, fun w hw => (r.frs w hw).le hl⟩
/-- A matrix that the call has made. -/
def MatO (h : H) (v : V) (a : Mat) (lo : Nat) : Prop := ∃ u ws, v = .agg [.int .i64 a.1, u] ∧ Rws h u ws a.2 lo
/-- The product. -/
def mulF (a b : Mat) (ca cb : Nat) : Mat := (a.1, mkR a.2.length cb (fun i k => sm ca (fun j => ent a.2 i j * ent b.2 j k) % a.1))
set_option maxHeartbeats 4000000 in
theorem mul_ok (va vb : V) (a b : Mat) (ca cb : Nat) (h : H) (ha : MatV h va a) (hb : MatV h vb b) (da : Vd a ca) (db : Vd b cb) (hp : a.1 = b.1) (hc : ca = b.2.length) :
    Ev T n_matrix_mul [va, vb] h (fun w h' => MatO h' w (mulF a b ca cb) h.next ∧ Fr h h') := by
  obtain ⟨ua, rfl, hua⟩ := ha
  obtain ⟨ub, rfl, hub⟩ := hb
  obtain ⟨p, A⟩ := a
  obtain ⟨p', B⟩ := b
  simp only at hp hc hua hub
  subst hp
  refine Ev_of t_matrix_mul rfl ?_
  have wa := SV.what hua.choose_spec.1
  have wb := SV.what hub.choose_spec.1
  simp (disch := first | omega | (simp only [Qn] <;> omega)) only [go_sem, c_matrix_mul, initV_eq, boxV_agg2 h (v := .int .i64 p) rfl wa.2.1]
  have hfx : Fr h (h.new (.cells false [.int .i64 p, ua])) := (Fr.refl h).new _
  have hgx : (h.new (.cells false [.int .i64 p, ua])).get h.next = some (.cells false [.int .i64 p, ua]) := H.get_new_same ..
  have hnx : (h.new (.cells false [.int .i64 p, ua])).next = h.next + 1 := H.next_new ..
  generalize h.new (.cells false [.int .i64 p, ua]) = hx at *
  simp (disch := first | omega | (simp only [Qn] <;> omega)) only [go_sem, boxV_agg2 hx (v := .int .i64 p) rfl wb.2.1]
  have hfy : Fr hx (hx.new (.cells false [.int .i64 p, ub])) := (Fr.refl hx).new _
  have hgy : (hx.new (.cells false [.int .i64 p, ub])).get hx.next = some (.cells false [.int .i64 p, ub]) := H.get_new_same ..
  have hny : (hx.new (.cells false [.int .i64 p, ub])).next = hx.next + 1 := H.next_new ..
  generalize hx.new (.cells false [.int .i64 p, ub]) = hy at *
  have hxy := hfx.trans hfy
  have hfa : Fr hy (hy.new (.cells false [.int .i64 0, .nils])) := (Fr.refl hy).new _
  have hga : (hy.new (.cells false [.int .i64 0, .nils])).get hy.next = some (.cells false [.int .i64 0, .nils]) := H.get_new_same ..
  have hna : (hy.new (.cells false [.int .i64 0, .nils])).next = hy.next + 1 := H.next_new ..
  generalize hy.new (.cells false [.int .i64 0, .nils]) = ha at *
  have x0 : ha.cell h.next 0 = some (.int .i64 p) := by rw [H.cell_of ((hfa.get h.next (by omega)).trans ((hfy.get h.next (by omega)).trans hgx))]; rfl
  have x1 : ha.cell h.next 1 = some ua := by rw [H.cell_of ((hfa.get h.next (by omega)).trans ((hfy.get h.next (by omega)).trans hgx))]; rfl
  have yb : ha.get hx.next = some (.cells false [.int .i64 p, ub]) := (hfa.get hx.next (by omega)).trans hgy
  have F := hxy.trans hfa
  have hb2 : MatV ha (.agg [.int .i64 p, ub]) (p, B) := ⟨ub, rfl, hub.mono F⟩
  have hua2 := hua.mono F
  have hbl := bldV_fst (z1 := .int .i64 0) (z2 := .nils) (v := .int .i64 p) rfl rfl
  have hst := fun hh id => stV_agg2 hh id 0 (v := .int .i64 p) (u := .nils) rfl rfl
  have nr : hx.next + 1 = hy.next := by omega
  rw [nr]
  simp (disch := first | omega | (simp only [Qn] <;> omega)) only [go_sem, x0, hbl, hst]
  have fB : Fr ha ((ha.new (.cells false [.int .i64 0, .nils])).set ha.next (some (.cells false [.int .i64 p, .nils]))) := ((Fr.refl ha).new _).set (Nat.le_refl _) _
  have gB : ((ha.new (.cells false [.int .i64 0, .nils])).set ha.next (some (.cells false [.int .i64 p, .nils]))).get ha.next = some (.cells false [.int .i64 p, .nils]) := H.get_set_same ..
  have nB : ((ha.new (.cells false [.int .i64 0, .nils])).set ha.next (some (.cells false [.int .i64 p, .nils]))).next = ha.next + 1 := by rw [H.next_set, H.next_new]
  generalize (ha.new (.cells false [.int .i64 0, .nils])).set ha.next (some (.cells false [.int .i64 p, .nils])) = hB at *
  have hp := fieldF_range da.p
  have hr1 := da.r1
  have hr2 := da.r2
  have hc1 := da.c1
  simp only at hp hr1 hr2
  simp (disch := first | omega | (simp only [Qn] <;> omega)) only [go_sem, x1, hua.lens]
  obtain ⟨F0, hF0⟩ : ∃ F : Nat → Nat → Int, F = fun i k => sm ca (fun j => ent A i j * ent B j k) % p := ⟨_, rfl⟩
  obtain ⟨id, off, wsA, su, hid, hwl, hcA, hall⟩ := hua2.open
  refine Wp_loop (fun k' vars h3 => ∃ (i : Nat) (u : V) (ws : List V), (∃ g : Nat → V, vars = [g 0, g 1, g 2, .ptr hx.next 0, .ptr hy.next 0, .ptr ha.next 0, g 6, ua, .int .i64 (A.length : Int), .int .i64 (i : Int), g 10]) ∧ i ≤ A.length ∧ h3.get ha.next = some (.cells false [.int .i64 p, u]) ∧ ha.next < h3.next ∧ Rws h3 u ws (mkR i cb F0) (ha.next + 1) ∧ Fr ha h3 ∧ k' = A.length - i) A.length
    ⟨0, .nils, [], ex_junk rfl, Nat.zero_le _, gB, by omega, Rws.nils _ _, fB, rfl⟩ ?_
  rintro k' vars h3 ⟨i, u, ws, ⟨g, rfl⟩, hi, g3, n3, R3, f3, rfl⟩
  simp (disch := first | omega | (simp only [Qn] <;> omega)) only [go_sem]
  by_cases hlt : (i : Int) < (A.length : Int)
  · rw [decide_eq_true hlt]
    have ci : h3.cell id (off + i) = some (wsA.getD i .undef) := by rw [f3.cell (hid (by omega))]; exact hcA i (by omega)
    simp (disch := first | omega | (simp only [Qn] <;> omega)) only [go_sem, su.ixa, ci]
    have fb : Fr h3 (H.mk h3.tr (h3.next + 9)) := (Fr.refl h3).bump (by omega)
    have ri := ((row_at hall (i := i) (by omega)).mono f3).mono fb
    have yb3 : h3.get hx.next = some (.cells false [.int .i64 p, ub]) := (f3.get hx.next (by omega)).trans yb
    have rb : (H.mk h3.tr (h3.next + 9)).row hx.next 0 2 = some [.int .i64 p, ub] := row_two ((fb.get hx.next (by have := f3.next; omega)).trans yb3)
    have rb' := row_two yb3
    have cu : h3.cell ha.next 1 = some u := by rw [H.cell_of g3]; rfl
    have hbh := (hb2.mono f3).mono fb
    have R4 := R3.fr fb
    have g4 := (fb.get ha.next n3).trans g3
    have nb : (H.mk h3.tr (h3.next + 9)).next = h3.next + 9 := rfl
    generalize H.mk h3.tr (h3.next + 9) = hh at *
    simp (disch := first | omega | (simp only [Qn] <;> omega)) only [go_sem, cu, rb, rb']
    have hrow := da.row i (show i < A.length by omega)
    simp only at hrow
    refine (apply_ok (wsA.getD i .undef) _ (A.getD i []) (p, B) cb hh ri hbh db (by rw [hrow, hc]; exact Nat.le_refl _) (fun j hj => ⟨da.lo i j (show i < A.length by omega) (by omega), da.hi i j (show i < A.length by omega) (by omega)⟩)).mono ?_
    rintro w h5 ⟨o5, f5⟩
    have hw := SV.what o5.sv
    have n5 := f5.next
    have f35 := litAt_fr (fb.trans f5) (a := h3.next + 5) (by omega) w
    have R5 := R3.fr f35
    have g5 := (f35.get ha.next n3).trans g3
    have cu5 : h5.cell ha.next 1 = some u := by rw [H.cell_of ((f5.get ha.next (by omega)).trans g4)]; rfl
    have o5b : Own (litAt h5 (h3.next + 5) w) w 1 (ints (applyF (A.getD i []) (p, B) cb)) hh.next := o5.mono (Nat.le_refl _) fun id _ _ _ _ h1 _ => litAt_ne h5 w (by omega)
    have sy := litAt_sv h5 (a := h3.next + 5) w (by omega)
    have nl : (litAt h5 (h3.next + 5) w).next = h5.next := rfl
    have eu := SV.eqV R5.own.sv
    have hlen := R3.row.length
    rw [mkR_len] at hlen
    obtain ⟨v, h6, e6, R6, n6, k6, q6⟩ := R5.app (by omega) sy o5b.sv (Own.dis R4.own o5) (Frs.le (Frs.own o5) (by omega)) (by omega)
    have g6 := (k6 ha.next (by omega) (own_apart R5.own (Nat.lt_succ_self _))).trans g5
    have hv := SV.what R6.own.sv
    simp (disch := first | omega | (simp only [Qn] <;> omega)) only [go_sem, cu5, eu, bls_v (H.mk h5.tr (h3.next + 5)) w hw.1 hw.2.1, litAt_eq]
    have hst1 := fun hh => stV_one hv.1 hv.2.1 hh ha.next 1
    simp (disch := first | omega | (simp only [Qn] <;> omega)) only [go_sem, e6, hst1, g6, putO_snd]
    rw [show (i : Int) + 1 = ((i + 1 : Nat) : Int) from by omega]
    refine ⟨A.length - (i + 1), by omega, i + 1, v, ws ++ [w], ex_junk rfl, by omega, rfl, ?_, ?_, ?_, rfl⟩
    · omega
    · have e : mkV cb (F0 i) = applyF (A.getD i []) (p, B) cb := mkV_congr fun k _ => by rw [hF0, hrow]; rfl
      rw [mkR_succ, e]
      exact R6.set (Nat.lt_succ_self _) _
    · exact (q6 ha (f3.trans f35) (by omega)).set (Nat.le_refl _) _
  · rw [decide_eq_false hlt]
    obtain rfl : i = A.length := by omega
    have hu := SV.what R3.own.sv
    have rr := row_two g3
    have gr := (f3.get hy.next (by omega)).trans hga
    have hst2 := fun hh => stV_agg2 hh hy.next 0 (v := .int .i64 p) (u := u) rfl hu.2.1
    have hrow := row_two (h := h3.set hy.next (some (.cells false [.int .i64 p, u]))) (H.get_set_same ..)
    simp (disch := first | omega | (simp only [Qn] <;> omega)) only [go_sem, rr, hst2, gr, hrow]
    have RS := R3.set (x := hy.next) (by omega) (some (.cells false [.int .i64 p, u]))
    rw [hF0] at RS
    exact ⟨⟨u, ws, rfl, RS.le (by omega)⟩, (F.trans f3).set (by omega) _⟩
end Go.Proofs.Ytonhijbeddcmpaa

/- Layer 4: fit, Mul. -/
namespace Go.Proofs.Ytonhijbeddcmpaa
open Go Go.Ay
set_option maxRecDepth 100000
/-- A new box, filled. -/
def bxH (h : H) (N : Int) (u : V) : H := (h.new (.cells false [.int .i64 0, .nils])).set h.next (some (.cells false [.int .i64 N, u]))
theorem bxH_eq (h : H) (N : Int) (u : V) : (h.new (.cells false [.int .i64 0, .nils])).set h.next (some (.cells false [.int .i64 N, u])) = bxH h N u := rfl
theorem bxH_fr (h : H) (N : Int) (u : V) : Fr h (bxH h N u) := ((Fr.refl h).new _).set (Nat.le_refl _) _
theorem bxH_get (h : H) (N : Int) (u : V) : (bxH h N u).get h.next = some (.cells false [.int .i64 N, u]) := H.get_set_same ..
theorem bxH_next (h : H) (N : Int) (u : V) : (bxH h N u).next = h.next + 1 := by rw [bxH, H.next_set, H.next_new]
def fitF (a b : Mat) : Int := if checkM a ≠ 0 then checkM a else if checkM b ≠ 0 then checkM b else if b.1 ≠ a.1 then 10 else 0
theorem row_pair {h : H} {id : Nat} {ro : Bool} {a b c d : V} (hg : h.get id = some (.cells ro [a, b, c, d])) (i : Nat) (hi : i < 2) : h.row id (i * 2) 2 = some (if i = 0 then [a, b] else [c, d]) := by
  have : i = 0 ∨ i = 1 := by omega
  rcases this with rfl | rfl
  · rw [H.row, hg]; rfl
  · rw [H.row, hg]; rfl
set_option maxHeartbeats 4000000 in
theorem fit_ok (id : Nat) (ua ub : V) (a b : Mat) (h : H) (hg : h.get id = some (.cells false [.int .i64 a.1, ua, .int .i64 b.1, ub])) (hid : id < h.next) (ha : SR h ua a.2) (hb : SR h ub b.2) (la : (a.2.length : Int) ≤ 2 ^ 63 - 1) (lb : (b.2.length : Int) ≤ 2 ^ 63 - 1) :
    Ev T n_matrix_fit [.sl id 0 2 (.kn 2)] h (fun v h' => v = .int .i64 (fitF a b) ∧ Fr h h') := by
  refine Ev_of t_matrix_fit rfl ?_
  have ixa2 : ∀ i : Nat, i < 2 → ixaV 2 (.sl id 0 2 (.kn 2)) (.int .i64 (i : Int)) = some (.ptr id (i * 2)) := fun i hi => by
    rw [ixaV_sl (by omega) (by omega)]; simp
  have lens2 : lensV (.sl id 0 2 (.kn 2)) = some (.int .i64 2) := rfl
  simp (disch := first | omega | (simp only [Qn] <;> omega)) only [go_sem, c_matrix_fit, initV_eq, lens2]
  refine Wp_loop (fun k' vars h3 => ∃ i : Nat, (∃ g : Nat → V, vars = [.sl id 0 2 (.kn 2), g 1, g 2, g 3, g 4, .sl id 0 2 (.kn 2), .int .i64 2, .int .i64 (i : Int), g 8, g 9, g 10, g 11, g 12, g 13, g 14]) ∧ i ≤ 2 ∧ (1 ≤ i → checkM a = 0) ∧ (2 ≤ i → checkM b = 0) ∧ Fr h h3 ∧ k' = 2 - i) 2
    ⟨0, ex_junk rfl, Nat.zero_le _, fun h => absurd h (by omega), fun h => absurd h (by omega), Fr.refl h, rfl⟩ ?_
  rintro k' vars h3 ⟨i, ⟨g, rfl⟩, hi, e1, e2, f3, rfl⟩
  simp (disch := first | omega | (simp only [Qn] <;> omega)) only [go_sem]
  by_cases hlt : (i : Int) < 2
  · rw [decide_eq_true hlt]
    obtain ⟨m, um, hrow, hm, lm, hcase⟩ : ∃ (m : Mat) (um : V), h3.row id (i * 2) 2 = some [.int .i64 m.1, um] ∧ SR h3 um m.2 ∧ (m.2.length : Int) ≤ 2 ^ 63 - 1 ∧ (i = 0 ∧ m = a ∨ i = 1 ∧ m = b) := by
      have hr := row_pair ((f3.get id hid).trans hg) i (by omega)
      rcases (show i = 0 ∨ i = 1 by omega) with h0 | h0
      · exact ⟨a, ua, by rw [hr, if_pos h0], ha.mono f3, la, .inl ⟨h0, rfl⟩⟩
      · exact ⟨b, ub, by rw [hr, if_neg (by omega)], hb.mono f3, lb, .inr ⟨h0, rfl⟩⟩
    have hw := SV.what hm.choose_spec.1
    have hst := fun hh id' => stV_agg2 hh id' 0 (v := .int .i64 m.1) (u := um) rfl hw.2.1
    have hix := ixa2 i (by omega)
    simp (disch := first | omega | (simp only [Qn] <;> omega)) only [go_sem, hix, hrow, hst, bxH_eq, row_two (bxH_get h3 m.1 um)]
    have f4 := f3.trans (bxH_fr h3 m.1 um)
    refine (check_ok _ m _ ⟨um, rfl, hm.mono (bxH_fr h3 m.1 um)⟩ lm).mono ?_
    rintro v h5 ⟨rfl, f5⟩
    have f6 := f4.trans f5
    simp (disch := first | omega | (simp only [Qn] <;> omega)) only [go_sem]
    refine iteW_dec (fun hz => ?_) (fun hz => ?_)
    · simp (disch := first | omega | (simp only [Qn] <;> omega)) only [go_sem]
      refine ⟨?_, f6⟩
      rcases hcase with ⟨h0, rfl⟩ | ⟨h0, rfl⟩
      · rw [fitF, if_pos hz]
      · rw [fitF, if_neg (by rw [e1 (by omega)]; simp), if_pos hz]
    · simp (disch := first | omega | (simp only [Qn] <;> omega)) only [go_sem]
      rw [show (i : Int) + 1 = ((i + 1 : Nat) : Int) from by omega]
      have hz0 : checkM m = 0 := Classical.byContradiction hz
      refine ⟨2 - (i + 1), by omega, i + 1, ex_junk rfl, by omega, fun _ => ?_, fun _ => ?_, f6, rfl⟩
      · rcases hcase with ⟨h0, rfl⟩ | ⟨h0, rfl⟩
        · exact hz0
        · exact e1 (by omega)
      · rcases hcase with ⟨h0, rfl⟩ | ⟨h0, rfl⟩
        · omega
        · exact hz0
  rw [decide_eq_false hlt]
  obtain rfl : i = 2 := by omega
  simp (disch := first | omega | (simp only [Qn] <;> omega)) only [go_sem, lens2]
  have k1 := e1 (by omega)
  have k2 := e2 (by omega)
  clear e1 e2
  refine Wp_loop (fun k' vars h5 => ∃ i : Nat, (∃ g : Nat → V, vars = [.sl id 0 2 (.kn 2), g 1, g 2, g 3, g 4, g 5, g 6, g 7, g 8, g 9, .sl id 0 2 (.kn 2), .int .i64 2, .int .i64 (i : Int), g 13, g 14]) ∧ i ≤ 2 ∧ (2 ≤ i → b.1 = a.1) ∧ Fr h h5 ∧ k' = 2 - i) 2
    ⟨0, ex_junk rfl, Nat.zero_le _, fun h => absurd h (by omega), f3, rfl⟩ ?_
  clear g f3
  rintro k' vars h3 ⟨i, ⟨g, rfl⟩, hi, e2, f3, rfl⟩
  simp (disch := first | omega | (simp only [Qn] <;> omega)) only [go_sem]
  by_cases hlt : (i : Int) < 2
  · rw [decide_eq_true hlt]
    obtain ⟨m, um, hrow, hm, lm, hcase⟩ : ∃ (m : Mat) (um : V), h3.row id (i * 2) 2 = some [.int .i64 m.1, um] ∧ SR h3 um m.2 ∧ (m.2.length : Int) ≤ 2 ^ 63 - 1 ∧ (i = 0 ∧ m = a ∨ i = 1 ∧ m = b) := by
      have hr := row_pair ((f3.get id hid).trans hg) i (by omega)
      rcases (show i = 0 ∨ i = 1 by omega) with h0 | h0
      · exact ⟨a, ua, by rw [hr, if_pos h0], ha.mono f3, la, .inl ⟨h0, rfl⟩⟩
      · exact ⟨b, ub, by rw [hr, if_neg (by omega)], hb.mono f3, lb, .inr ⟨h0, rfl⟩⟩
    have hw := SV.what hm.choose_spec.1
    have hst := fun hh id' => stV_agg2 hh id' 0 (v := .int .i64 m.1) (u := um) rfl hw.2.1
    have hix := ixa2 i (by omega)
    have hix0 : ixaV 2 (.sl id 0 2 (.kn 2)) (.int .i64 0) = some (.ptr id 0) := ixa2 0 (by omega)
    have f4 := f3.trans (bxH_fr h3 m.1 um)
    have c4 : (bxH h3 m.1 um).cell h3.next 0 = some (.int .i64 m.1) := by rw [H.cell_of (bxH_get h3 m.1 um)]; rfl
    have c5 : (bxH h3 m.1 um).cell id 0 = some (.int .i64 a.1) := by rw [H.cell_of ((f4.get id hid).trans hg)]; rfl
    simp (disch := first | omega | (simp only [Qn] <;> omega)) only [go_sem, hix, hrow, hst, bxH_eq, hix0, c4, c5]
    refine iteW_dec (fun hz => ?_) (fun hz => ?_)
    · simp (disch := first | omega | (simp only [Qn] <;> omega)) only [go_sem]
      refine ⟨?_, f4.bump (by omega)⟩
      rcases hcase with ⟨h0, rfl⟩ | ⟨h0, rfl⟩
      · exact absurd rfl hz
      · rw [fitF, if_neg (by rw [k1]; simp), if_neg (by rw [k2]; simp), if_pos hz]
    · simp (disch := first | omega | (simp only [Qn] <;> omega)) only [go_sem]
      rw [show (i : Int) + 1 = ((i + 1 : Nat) : Int) from by omega]
      have hz0 : m.1 = a.1 := Classical.byContradiction hz
      refine ⟨2 - (i + 1), by omega, i + 1, ex_junk rfl, by omega, fun _ => ?_, f4.bump (by omega), rfl⟩
      rcases hcase with ⟨h0, rfl⟩ | ⟨h0, rfl⟩
      · omega
      · exact hz0
  · rw [decide_eq_false hlt]
    simp (disch := first | omega | (simp only [Qn] <;> omega)) only [go_sem]
    exact ⟨by rw [fitF, if_neg (by rw [k1]; simp), if_neg (by rw [k2]; simp), if_neg (by rw [e2 (by omega)]; simp)], f3⟩
end Go.Proofs.Ytonhijbeddcmpaa

/- Layer 4: Mul. -/
namespace Go.Proofs.Ytonhijbeddcmpaa
open Go Go.Ay
set_option maxRecDepth 100000
theorem bls_pair (h : H) {x u y w : V} (hx : x.one = true) (hu : u.one = true) (hy : y.one = true) (hw : w.one = true) : blsV h 2 [.int .i64 0, .nils] 2 [(0, 2, .agg [x, u]), (2, 2, .agg [y, w])] = some (.sl h.next 0 2 (.kn 2), h.new (.cells false [x, u, y, w])) := by
  have e : zerosV [V.int .i64 0, .nils] 4 = [.int .i64 0, .nils, .int .i64 0, .nils] := rfl
  simp [blsV, fillV, e, V.cells, hx, hu, hy, hw, putAt]
def MulF (a b : Mat) : Mat × Int :=
  if fitF a b ≠ 0 then ((0, []), fitF a b) else if (a.2.getD 0 []).length ≠ b.2.length then ((0, []), 10) else (mulF a b (a.2.getD 0 []).length (b.2.getD 0 []).length, 0)
theorem fit_zero {a b : Mat} (h : fitF a b = 0) : Vd a (a.2.getD 0 []).length ∧ Vd b (b.2.getD 0 []).length ∧ a.1 = b.1 := by
  rw [fitF] at h
  split at h
  · contradiction
  rename_i h1
  split at h
  · contradiction
  rename_i h2
  split at h
  · cases h
  rename_i h3
  exact ⟨check_vd (Classical.byContradiction h1), check_vd (Classical.byContradiction h2), (Classical.byContradiction h3 : b.1 = a.1).symm⟩
set_option maxHeartbeats 4000000 in
theorem Mul_ok (va vb : V) (a b : Mat) (h : H) (ha : MatV h va a) (hb : MatV h vb b) (la : (a.2.length : Int) ≤ 2 ^ 63 - 1) (lb : (b.2.length : Int) ≤ 2 ^ 63 - 1) :
    Ev T n_matrix_Mul [va, vb] h (fun v h' => ∃ w, v = .tup [w, .int .i64 (MulF a b).2] ∧ MatO h' w (MulF a b).1 h.next ∧ Fr h h') := by
  obtain ⟨ua, rfl, hua⟩ := ha
  obtain ⟨ub, rfl, hub⟩ := hb
  refine Ev_of t_matrix_Mul rfl ?_
  have wa := SV.what hua.choose_spec.1
  have wb := SV.what hub.choose_spec.1
  simp (disch := first | omega | (simp only [Qn] <;> omega)) only [go_sem, c_matrix_Mul, initV_eq, boxV_agg2 h (v := .int .i64 a.1) rfl wa.2.1]
  have hfx : Fr h (h.new (.cells false [.int .i64 a.1, ua])) := (Fr.refl h).new _
  have hgx : (h.new (.cells false [.int .i64 a.1, ua])).get h.next = some (.cells false [.int .i64 a.1, ua]) := H.get_new_same ..
  have hnx : (h.new (.cells false [.int .i64 a.1, ua])).next = h.next + 1 := H.next_new ..
  generalize h.new (.cells false [.int .i64 a.1, ua]) = hx at *
  simp (disch := first | omega | (simp only [Qn] <;> omega)) only [go_sem, boxV_agg2 hx (v := .int .i64 b.1) rfl wb.2.1]
  have hfy : Fr hx (hx.new (.cells false [.int .i64 b.1, ub])) := (Fr.refl hx).new _
  have hgy : (hx.new (.cells false [.int .i64 b.1, ub])).get hx.next = some (.cells false [.int .i64 b.1, ub]) := H.get_new_same ..
  have hny : (hx.new (.cells false [.int .i64 b.1, ub])).next = hx.next + 1 := H.next_new ..
  generalize hx.new (.cells false [.int .i64 b.1, ub]) = hy at *
  have hfz : Fr hy (hy.new (.cells false [.int .i64 0, .nils])) := (Fr.refl hy).new _
  have hgz : (hy.new (.cells false [.int .i64 0, .nils])).get hy.next = some (.cells false [.int .i64 0, .nils]) := H.get_new_same ..
  have hnz : (hy.new (.cells false [.int .i64 0, .nils])).next = hy.next + 1 := H.next_new ..
  generalize hy.new (.cells false [.int .i64 0, .nils]) = hz at *
  have F := (hfx.trans hfy).trans hfz
  have gx := (hfz.get h.next (by omega)).trans ((hfy.get h.next (by omega)).trans hgx)
  have gy := (hfz.get hx.next (by omega)).trans hgy
  have rx := row_two gx
  have ry := row_two gy
  simp (disch := first | omega | (simp only [Qn] <;> omega)) only [go_sem, rx, ry, bls_pair hz (x := .int .i64 a.1) (u := ua) (y := .int .i64 b.1) (w := ub) rfl wa.2.1 rfl wb.2.1]
  have hfw : Fr hz (hz.new (.cells false [.int .i64 a.1, ua, .int .i64 b.1, ub])) := (Fr.refl hz).new _
  have hgw : (hz.new (.cells false [.int .i64 a.1, ua, .int .i64 b.1, ub])).get hz.next = some (.cells false [.int .i64 a.1, ua, .int .i64 b.1, ub]) := H.get_new_same ..
  have hnw : (hz.new (.cells false [.int .i64 a.1, ua, .int .i64 b.1, ub])).next = hz.next + 1 := H.next_new ..
  generalize hz.new (.cells false [.int .i64 a.1, ua, .int .i64 b.1, ub]) = hw at *
  have F2 := F.trans hfw
  refine (fit_ok hz.next ua ub a b hw hgw (by omega) (hua.mono F2) (hub.mono F2) la lb).mono ?_
  rintro v h5 ⟨rfl, f5⟩
  have F3 := F2.trans f5
  have gx5 := (f5.get h.next (by omega)).trans ((hfw.get h.next (by omega)).trans gx)
  have gy5 := (f5.get hx.next (by omega)).trans ((hfw.get hx.next (by omega)).trans gy)
  have gz5 := (f5.get hy.next (by omega)).trans ((hfw.get hy.next (by omega)).trans hgz)
  rw [← hny]
  simp (disch := first | omega | (simp only [Qn] <;> omega)) only [go_sem]
  refine iteW_dec (fun he => ?_) (fun he => ?_)
  · have hst := fun hh => stV_agg2 hh hy.next 0 (v := .int .i64 0) (u := .nils) rfl rfl
    have hrow := row_two (h := h5.set hy.next (some (.cells false [.int .i64 0, .nils]))) (H.get_set_same ..)
    simp (disch := first | omega | (simp only [Qn] <;> omega)) only [go_sem, bldV_nil, hst, gz5, hrow]
    exact ⟨_, by rw [MulF, if_pos he], ⟨.nils, [], by rw [MulF, if_pos he], by rw [MulF, if_pos he]; exact Rws.nils _ _⟩, F3.set (by omega) _⟩
  · have hz : fitF a b = 0 := Classical.byContradiction he
    obtain ⟨da, db, hpp⟩ := fit_zero hz
    have hra1 := da.r1
    have hrb1 := db.r1
    have hra2 := da.r2
    have hrb2 := db.r2
    obtain ⟨ida, offa, wsa, sua, hida, hwla, hcA, halla⟩ := (hua.mono F3).open
    have c0 : h5.cell ida offa = some (wsa.getD 0 .undef) := hcA 0 (by omega)
    have r0 := row_at halla (i := 0) (by omega)
    have l0 := r0.lens
    have fb : Fr h5 (H.mk h5.tr (h5.next + 9)) := (Fr.refl h5).bump (by omega)
    have x1 : h5.cell h.next 1 = some ua := by rw [H.cell_of gx5]; rfl
    have y1 : h5.cell hx.next 1 = some ub := by rw [H.cell_of gy5]; rfl
    simp (disch := first | omega | (simp only [Qn] <;> omega)) only [go_sem, x1, y1, sua.ixa, c0, l0, hub.lens]
    have fb3 := F3.trans fb
    have gxb := (fb.get h.next (by have := f5.next; omega)).trans gx5
    have gyb := (fb.get hx.next (by have := f5.next; omega)).trans gy5
    have gzb := (fb.get hy.next (by have := f5.next; omega)).trans gz5
    have nb : (H.mk h5.tr (h5.next + 9)).next = h5.next + 9 := rfl
    have n5 := f5.next
    generalize H.mk h5.tr (h5.next + 9) = hh at *
    refine iteW_dec (fun hl => ?_) (fun hl => ?_)
    · have hst := fun hh => stV_agg2 hh hy.next 0 (v := .int .i64 0) (u := .nils) rfl rfl
      have hrow := row_two (h := hh.set hy.next (some (.cells false [.int .i64 0, .nils]))) (H.get_set_same ..)
      simp (disch := first | omega | (simp only [Qn] <;> omega)) only [go_sem, bldV_nil, hst, gzb, hrow]
      have e : MulF a b = ((0, []), 10) := by rw [MulF, if_neg (by simp [hz]), if_pos (by omega)]
      rw [e]
      exact ⟨_, rfl, ⟨.nils, [], rfl, Rws.nils _ _⟩, fb3.set (by omega) _⟩
    · have rxb := row_two gxb
      have ryb := row_two gyb
      simp (disch := first | omega | (simp only [Qn] <;> omega)) only [go_sem, rxb, ryb]
      refine (mul_ok _ _ a b _ _ hh ⟨ua, rfl, hua.mono fb3⟩ ⟨ub, rfl, hub.mono fb3⟩ da db hpp (by omega)).mono ?_
      rintro w h6 ⟨⟨uw, ws, rfl, suw⟩, f6⟩
      have e : MulF a b = (mulF a b (a.2.getD 0 []).length (b.2.getD 0 []).length, 0) := by rw [MulF, if_neg (by simp [hz]), if_neg (by omega)]
      have ww := SV.what suw.own.sv
      have hst := fun hh => stV_agg2 hh hy.next 0 (v := .int .i64 (mulF a b (a.2.getD 0 []).length (b.2.getD 0 []).length).1) (u := uw) rfl ww.2.1
      have gz6 := (f6.get hy.next (by omega)).trans gzb
      have hrow := row_two (h := h6.set hy.next (some (.cells false [.int .i64 (mulF a b (a.2.getD 0 []).length (b.2.getD 0 []).length).1, uw]))) (H.get_set_same ..)
      simp (disch := first | omega | (simp only [Qn] <;> omega)) only [go_sem, hst, gz6, hrow]
      rw [e]
      exact ⟨_, rfl, ⟨uw, ws, rfl, (suw.set (by omega) _).le (by have := fb3.next; omega)⟩, (fb3.trans f6).set (by omega) _⟩
end Go.Proofs.Ytonhijbeddcmpaa

/- Layer 4: residue, the identity. -/
namespace Go.Proofs.Ytonhijbeddcmpaa
open Go Go.Ay
set_option maxRecDepth 100000
theorem residue_ok (a p : Int) (h : H) (hp : 0 < p) (hp2 : p < 1000000000) : Ev T n_matrix_residue [.int .i64 a, .int .i64 p] h (fun v h' => v = .int .i64 (a % p) ∧ h' = h) := by
  refine Ev_of t_matrix_residue rfl ?_
  have h0 := tmod_bd a hp
  have h1 := tmod_twice a hp
  simp (disch := first | omega | (simp only [Qn] <;> omega)) only [go_sem, c_matrix_residue, initV_eq]
  exact ⟨by rw [h1], trivial⟩
theorem set_all2 {h h' : H} {ws : List V} {ll : List (List Int)} (a : All2 (SI h) ws ll) (i : Nat) {w : V} {l : List Int} (hw : SI h' w l) (k : ∀ x ∈ ws, ∀ b, SI h x b → SI h' x b) : All2 (SI h') (ws.set i w) (ll.set i l) := (All2.keep a k).set i hw
/-- A new row in its place. -/
theorem Rws.put {h h' : H} {R n : Nat} {c : Cap} {ws : List V} {ll : List (List Int)} {lo : Nat} (r : Rws h (.sl R 0 n c) ws ll lo) (hc : c = .kn n) (hn : h.next ≤ h'.next) (hg : ∀ k, k < h.next → k ≠ R → h'.get k = h.get k) {i : Nat} {w : V} {l : List Int} (hR : h'.get R = some (.cells false (ws.set i w))) (hw : SI h' w l) (fw : Frs w h.next) : Rws h' (.sl R 0 n c) (ws.set i w) (ll.set i l) lo := by
  subst hc
  have hRn : R < h.next ∧ lo ≤ R ∧ ws.length = n * 1 := by
    rcases r.own with ⟨h1, _⟩ | ⟨id, n', cap, rest, h1, h2, _, h3, h4, _⟩
    · cases h1
    · cases h1; exact ⟨h4, h3, h2⟩
  refine ⟨.inr ⟨R, n, .kn n, [], rfl, by rw [List.length_set]; exact hRn.2.2, .inr ⟨rfl, rfl⟩, hRn.2.1, by omega, by rw [List.append_nil]; exact hR⟩, set_all2 r.row i hw fun x hx b s => SI.keep s hn fun id off m c e => hg id (SI.lt s e) fun e2 => r.dis x hx _ _ _ _ rfl _ _ _ _ e e2.symm, fun x hx => ?_, fun x hx => ?_⟩
  · rcases List.mem_or_eq_of_mem_set hx with hx | rfl
    · exact r.dis x hx
    · intro i' o m c e i2 o2 m2 c2 e2
      cases e
      have := fw _ _ _ _ e2
      omega
  · rcases List.mem_or_eq_of_mem_set hx with hx | rfl
    · exact r.frs x hx
    · exact fw.le (by omega)
/-- A list of integers that is laid at a kept index. -/
def litI (h : H) (a : Nat) (l : List Int) (m : Nat) : H := H.mk ((H.mk h.tr a).new (.cells false (ints l))).tr m
theorem litI_eq (h : H) (a : Nat) (l : List Int) (m : Nat) : H.mk ((H.mk h.tr a).new (.cells false (ints l))).tr m = litI h a l m := rfl
theorem litI_get (h : H) (a : Nat) (l : List Int) (m : Nat) : (litI h a l m).get a = some (.cells false (ints l)) := by
  rw [litI, H.get_next']; exact H.get_new_same ..
theorem litI_ne (h : H) {a k : Nat} (l : List Int) (m : Nat) (hk : k ≠ a) : (litI h a l m).get k = h.get k := by
  rw [litI, H.get_next', H.get_new_ne _ hk, H.get_next']
/-- The identity. -/
def oneF (n : Nat) (p : Int) : Mat := (p, mkR n n (fun i k => if i = k then 1 else 0))
set_option maxHeartbeats 4000000 in
theorem one_ok (n : Nat) (p : Int) (h : H) (h1 : 1 ≤ n) (h2 : n ≤ 64) : Ev T n_matrix_one [.int .i64 (n : Int), .int .i64 p] h (fun w h' => MatO h' w (oneF n p) h.next ∧ Fr h h') := by
  refine Ev_of t_matrix_one rfl ?_
  simp (disch := first | omega | (simp only [Qn] <;> omega)) only [go_sem, c_matrix_one, initV_eq]
  have hfa : Fr h (h.new (.cells false [.int .i64 0, .nils])) := (Fr.refl h).new _
  have hga : (h.new (.cells false [.int .i64 0, .nils])).get h.next = some (.cells false [.int .i64 0, .nils]) := H.get_new_same ..
  have hna : (h.new (.cells false [.int .i64 0, .nils])).next = h.next + 1 := H.next_new ..
  generalize h.new (.cells false [.int .i64 0, .nils]) = ha at *
  have ez : zerosV [V.nils] n = List.replicate n .nils := by
    rw [zerosV]
    refine List.ext_getElem (by simp) fun i h1 h2 => ?_
    simp [Nat.mod_one]
  have hbl := bldV_two (z1 := .int .i64 0) (z2 := .nils) (v := .int .i64 p) (u := .sl ha.next 0 n (.kn n)) rfl rfl rfl rfl
  have hst := fun hh id => stV_agg2 hh id 0 (v := .int .i64 p) (u := .sl ha.next 0 n (.kn n)) rfl rfl
  rw [← hna, ez]
  have hfb : Fr ha (ha.new (.cells false (List.replicate n .nils))) := (Fr.refl ha).new _
  have hgb : (ha.new (.cells false (List.replicate n .nils))).get ha.next = some (.cells false (List.replicate n .nils)) := H.get_new_same ..
  have hnb : (ha.new (.cells false (List.replicate n .nils))).next = ha.next + 1 := H.next_new ..
  generalize ha.new (.cells false (List.replicate n .nils)) = hb at *
  simp (disch := first | omega | (simp only [Qn] <;> omega)) only [go_sem, hbl, hst, bxH_eq]
  have F := hfa.trans hfb
  have fB := F.trans (bxH_fr hb p (.sl ha.next 0 n (.kn n)))
  have gB := bxH_get hb p (.sl ha.next 0 n (.kn n))
  have nB := bxH_next hb p (.sl ha.next 0 n (.kn n))
  have gR : (bxH hb p (.sl ha.next 0 n (.kn n))).get ha.next = some (.cells false (List.replicate n .nils)) := ((bxH_fr hb p (.sl ha.next 0 n (.kn n))).get ha.next (by omega)).trans hgb
  have gA : (bxH hb p (.sl ha.next 0 n (.kn n))).get h.next = some (.cells false [.int .i64 0, .nils]) := ((bxH_fr hb p (.sl ha.next 0 n (.kn n))).get h.next (by omega)).trans ((hfb.get h.next (by omega)).trans hga)
  generalize bxH hb p (.sl ha.next 0 n (.kn n)) = hB at *
  obtain ⟨R, hR⟩ : ∃ R, ha.next = R := ⟨_, rfl⟩
  obtain ⟨B, hBn⟩ : ∃ B, hb.next = B := ⟨_, rfl⟩
  obtain ⟨A, hAn⟩ : ∃ A, h.next = A := ⟨_, rfl⟩
  have e0 : (List.range n).map (fun j => if j < 0 then mkV n (fun k => if j = k then 1 else 0) else []) = List.replicate n ([] : List Int) := by
    refine List.ext_getElem (by simp) fun i h1 h2 => ?_
    simp
  have R0 : Rws hB (.sl R 0 n (.kn n)) (List.replicate n .nils) ((List.range n).map (fun j => if j < 0 then mkV n (fun k => if j = k then 1 else 0) else [])) R := by
    rw [e0]
    refine ⟨.inr ⟨R, n, .kn n, [], rfl, by rw [List.length_replicate, Nat.mul_one], .inr ⟨rfl, rfl⟩, Nat.le_refl _, by omega, by rw [List.append_nil, ← hR]; exact gR⟩, All2.of_get (by simp) fun i h1 h2 => ?_, fun w hw => ?_, fun w hw => ?_⟩
    · simp only [List.getElem_replicate]
      exact SV.nils _ _
    · rw [List.eq_of_mem_replicate hw]
      intro _ _ _ _ _ _ _ _ _ e; cases e
    · rw [List.eq_of_mem_replicate hw]
      intro _ _ _ _ e; cases e
  rw [hR, hBn] at gB
  rw [hAn] at gA
  rw [hR] at hnb hna
  rw [hBn] at nB hnb
  rw [hAn] at hna
  rw [hBn, hAn]
  refine Wp_loop (fun k' vars h3 => ∃ (i : Nat) (ws : List V), (∃ g : Nat → V, vars = [.int .i64 (n : Int), g 1, .ptr A 0, .ptr B 0, g 4, .int .i64 (n : Int), .int .i64 (i : Int), g 7]) ∧ i ≤ n ∧ Rws h3 (.sl R 0 n (.kn n)) ws ((List.range n).map (fun j => if j < i then mkV n (fun k => if j = k then 1 else 0) else [])) R ∧ h3.get B = some (.cells false [.int .i64 p, .sl R 0 n (.kn n)]) ∧ h3.get A = some (.cells false [.int .i64 0, .nils]) ∧ Fr h h3 ∧ hB.next ≤ h3.next ∧ k' = n - i) n
    ⟨0, _, ex_junk rfl, Nat.zero_le _, R0, gB, gA, fB, Nat.le_refl _, rfl⟩ ?_
  rintro k' vars h3 ⟨i, ws, ⟨g, rfl⟩, hi, R3, g3, a3, f3, n3, rfl⟩
  simp (disch := first | omega | (simp only [Qn] <;> omega)) only [go_sem]
  by_cases hlt : (i : Int) < (n : Int)
  · rw [decide_eq_true hlt]
    have cB : h3.cell B 1 = some (.sl R 0 n (.kn n)) := by rw [H.cell_of g3]; rfl
    obtain ⟨gR3, lws⟩ : h3.get R = some (.cells false ws) ∧ ws.length = n := by
      rcases R3.own with ⟨h1, _⟩ | ⟨id, n', cap, rest, h1, h2, h3', _, _, h5⟩
      · cases h1
      · cases h1
        rcases h3' with h3' | ⟨_, h3'⟩
        · cases h3'
        · subst h3'
          rw [List.append_nil] at h5
          exact ⟨h5, by omega⟩
    simp (disch := first | omega | (simp only [Qn] <;> omega)) only [go_sem, cB, gR3, litI_eq, putO_one]
    have nl : (litI h3 (h3.next + 4) (List.replicate n 0) (h3.next + 7)).next = h3.next + 7 := rfl
    have gl := litI_get h3 (h3.next + 4) (List.replicate n 0) (h3.next + 7)
    have gn := fun k hk => litI_ne h3 (a := h3.next + 4) (k := k) (List.replicate n 0) (h3.next + 7) hk
    generalize litI h3 (h3.next + 4) (List.replicate n 0) (h3.next + 7) = hl at *
    have gRl : hl.get R = some (.cells false ws) := (gn R (by omega)).trans gR3
    have gBl : hl.get B = some (.cells false [.int .i64 p, .sl R 0 n (.kn n)]) := (gn B (by omega)).trans g3
    have hput := putO_one (vs := ws) (off := i) (by omega) hl R (.sl (h3.next + 4) 0 n (.kn n))
    have cBl : hl.cell B 1 = some (.sl R 0 n (.kn n)) := by rw [H.cell_of gBl]; rfl
    have hsi : (ws.set i (V.sl (h3.next + 4) 0 n (.kn n)))[i]? = some (.sl (h3.next + 4) 0 n (.kn n)) := List.getElem?_set_self (by omega)
    simp (disch := first | omega | (simp only [Qn] <;> omega)) only [go_sem, gRl, hput, cBl, hsi, gl]
    rw [show (i : Int) + 1 = ((i + 1 : Nat) : Int) from by omega]
    have er : (List.replicate n (0 : Int)).set i 1 = mkV n (fun k => if i = k then 1 else 0) := mkV_eq (by rw [List.length_set, List.length_replicate]) fun k hk => by
      rw [getD_set, List.length_replicate, List.getD_eq_getElem?_getD, List.getElem?_replicate, if_pos hk]
      by_cases e : i = k
      · rw [if_pos e, if_pos (by omega), if_pos e]
      · rw [if_neg e, if_neg e]; rfl
    have el : ((List.range n).map (fun j => if j < i then mkV n (fun k => if j = k then 1 else 0) else [])).set i (mkV n (fun k => if i = k then 1 else 0)) = (List.range n).map (fun j => if j < i + 1 then mkV n (fun k => if j = k then (1 : Int) else 0) else []) := by
      refine List.ext_getElem (by simp) fun j h1 h2 => ?_
      rw [List.getElem_set]
      simp only [List.getElem_map, List.getElem_range]
      by_cases e : i = j
      · subst e; rw [if_pos rfl, if_pos (by omega)]
      · rw [if_neg e]
        by_cases e2 : j < i
        · rw [if_pos e2, if_pos (by omega)]
        · rw [if_neg e2, if_neg (by omega)]
    refine ⟨n - (i + 1), by omega, i + 1, ws.set i (.sl (h3.next + 4) 0 n (.kn n)), ex_junk rfl, by omega, ?_, gBl, (gn A (by omega)).trans a3, ?_, by show hB.next ≤ hl.next; omega, rfl⟩
    · rw [← el, er]
      refine R3.put rfl (by show h3.next ≤ hl.next; omega) (fun k hk hkR => ?_) ?_ ?_ fun id off m c e => by cases e; omega
      · rw [H.get_set_ne _ (by omega), H.get_set_ne _ hkR]; exact gn k (by omega)
      · rw [H.get_set_ne _ (by omega)]; exact H.get_set_same ..
      · have := SI.own (h := (hl.set R (some (.cells false (ws.set i (.sl (h3.next + 4) 0 n (.kn n)))))).set (h3.next + 4) (some (.cells false (ints (mkV n (fun k => if i = k then 1 else 0)))))) (id := h3.next + 4) (by show h3.next + 4 < hl.next; omega) (H.get_set_same ..) (.kn n)
        rw [mkV_len] at this; exact this
    · have fl : Fr h hl := ⟨by omega, fun k hk => (gn k (by omega)).trans (f3.get k hk)⟩
      exact (fl.set (by omega) _).set (by omega) _
  · rw [decide_eq_false hlt]
    obtain rfl : i = n := by omega
    have rB := row_two g3
    have hst2 := fun hh => stV_agg2 hh A 0 (v := .int .i64 p) (u := .sl R 0 i (.kn i)) rfl rfl
    have hrow := row_two (h := h3.set A (some (.cells false [.int .i64 p, .sl R 0 i (.kn i)]))) (H.get_set_same ..)
    simp (disch := first | omega | (simp only [Qn] <;> omega)) only [go_sem, rB, hst2, a3, hrow]
    have RS := R3.set (x := A) (by omega) (some (.cells false [.int .i64 p, .sl R 0 i (.kn i)]))
    have el : (List.range i).map (fun j => if j < i then mkV i (fun k => if j = k then 1 else 0) else []) = mkR i i (fun a k => if a = k then 1 else 0) := by
      rw [mkR]
      exact List.map_congr_left fun j hj => if_pos (List.mem_range.1 hj)
    rw [el] at RS
    exact ⟨⟨_, ws, rfl, RS.le (by omega)⟩, f3.set (by omega) _⟩
end Go.Proofs.Ytonhijbeddcmpaa

/- Layer 4: One. -/
namespace Go.Proofs.Ytonhijbeddcmpaa
open Go Go.Ay
set_option maxRecDepth 100000
def OneF (n p : Int) : Mat × Int := if fieldF p = false then ((0, []), 3) else if n < 1 ∨ 64 < n then ((0, []), 2) else (oneF n.toNat p, 0)
end Go.Proofs.Ytonhijbeddcmpaa

/- Layer 4: Scale. -/
namespace Go.Proofs.Ytonhijbeddcmpaa
open Go Go.Ay
set_option maxRecDepth 100000
end Go.Proofs.Ytonhijbeddcmpaa

/- Layer 4: Apply. -/
namespace Go.Proofs.Ytonhijbeddcmpaa
open Go Go.Ay
set_option maxRecDepth 100000
end Go.Proofs.Ytonhijbeddcmpaa

/- Layer 4: zip of rows. -/
namespace Go.Proofs.Ytonhijbeddcmpaa
open Go Go.Ay
set_option maxRecDepth 100000
theorem Rws.get {h : H} {R n : Nat} {ws : List V} {ll : List (List Int)} {lo : Nat} (r : Rws h (.sl R 0 n (.kn n)) ws ll lo) : h.get R = some (.cells false ws) ∧ ws.length = n ∧ R < h.next := by
  rcases r.own with ⟨h1, _⟩ | ⟨id, n', cap, rest, h1, h2, h3, _, h4, h5⟩
  · cases h1
  · cases h1
    rcases h3 with h3 | ⟨_, h3⟩
    · cases h3
    · subst h3
      rw [List.append_nil] at h5
      exact ⟨h5, by omega, h4⟩
end Go.Proofs.Ytonhijbeddcmpaa

/- Layer 4: Add. -/
namespace Go.Proofs.Ytonhijbeddcmpaa
open Go Go.Ay
set_option maxRecDepth 100000
def AddF (a b : Mat) : Mat × Int :=
  if fitF a b ≠ 0 then ((0, []), fitF a b) else if a.2.length ≠ b.2.length ∨ (a.2.getD 0 []).length ≠ (b.2.getD 0 []).length then ((0, []), 10)
  else ((a.1, mkR a.2.length (a.2.getD 0 []).length (fun i k => (ent a.2 i k + 1 * ent b.2 i k) % a.1)), 0)
end Go.Proofs.Ytonhijbeddcmpaa

/- Layer 4: rows that grow in their places. -/
namespace Go.Proofs.Ytonhijbeddcmpaa
open Go Go.Ay
set_option maxRecDepth 100000
structure Gow (h : H) (R n : Nat) (ws : List V) (ll : List (List Int)) (lo : Nat) : Prop where
  gR : h.get R = some (.cells false ws)
  lw : ws.length = n
  lr : ll.length = n
  hR : R < lo
  lt : lo ≤ h.next
  own : ∀ k, k < n → Own h (ws.getD k .undef) 1 (ints (ll.getD k [])) lo
  dis : ∀ k k', k < n → k' < n → k ≠ k' → Dis (ws.getD k .undef) (ws.getD k' .undef)
theorem Gow.fr {h h' : H} {R n : Nat} {ws : List V} {ll : List (List Int)} {lo : Nat} (g : Gow h R n ws ll lo) (f : Fr h h') : Gow h' R n ws ll lo :=
  ⟨(f.get R (Nat.lt_of_lt_of_le g.hR g.lt)).trans g.gR, g.lw, g.lr, g.hR, Nat.le_trans g.lt f.next, fun k hk => (g.own k hk).fr f, g.dis⟩
theorem Gow.push {h : H} {R n : Nat} {ws : List V} {ll : List (List Int)} {lo : Nat} (g : Gow h R n ws ll lo) {k : Nat} (hk : k < n) {y : V} {x : Int} (hy : SV h y 1 (ints [x])) (hs : (ll.getD k []).length < 1000000) :
    ∃ v h', appP h 1 8 (ws.getD k .undef) y = some (v, h') ∧ v.cells = [v] ∧ v.one = true ∧ Gow (h'.set R (some (.cells false (ws.set k v)))) R n (ws.set k v) (ll.set k (ll.getD k [] ++ [x])) lo ∧ h'.get R = some (.cells false ws) ∧ h.next ≤ h'.next ∧ ∀ id, id < lo → h'.get id = h.get id := by
  have hlt := g.lt
  have hR := g.hR
  have ok := g.own k hk
  obtain ⟨v, h', e, a⟩ := ok.app (bytes := 8) (n := (ll.getD k []).length) (m := 1) (us := ints [x]) (y := y) g.lt hy (by rw [ints_length, Nat.mul_one]) rfl (by omega) (by omega)
  have ev := app_at ok (n := (ll.getD k []).length) (by rw [ints_length, Nat.mul_one]) (m := 1) (by omega) (by omega) hy rfl e
  have hv := SV.what a.own.sv
  have hn := a.next
  have low : ∀ id, id < lo → h'.get id = h.get id := fun id hid => a.get id (by omega) (own_apart ok hid)
  have gw : ∀ j, (ws.set k v).getD j .undef = if k = j then v else ws.getD j .undef := fun j => by
    rw [getD_set]
    split
    · rw [if_pos (by rw [g.lw]; exact hk)]
    · rfl
  have gl : ∀ j, (ll.set k (ll.getD k [] ++ [x])).getD j [] = if k = j then ll.getD k [] ++ [x] else ll.getD j [] := fun j => by
    rw [getD_set]
    split
    · rw [if_pos (by rw [g.lr]; exact hk)]
    · rfl
  have other : ∀ j, j < n → k ≠ j → Own h' (ws.getD j .undef) 1 (ints (ll.getD j [])) lo := fun j hj hne => (g.own j hj).mono hn fun id off m c e1 h1 h2 => a.get id h2 fun id' off' m' c' e2 he => g.dis k j hk hj hne _ _ _ _ e2 _ _ _ _ e1 he.symm
  refine ⟨v, h', e, hv.1, hv.2.1, ⟨H.get_set_same .., by rw [List.length_set]; exact g.lw, by rw [List.length_set]; exact g.lr, g.hR, by rw [H.next_set]; omega, fun j hj => ?_, fun j j' hj hj' hne => ?_⟩, (low R hR).trans g.gR, hn, low⟩
  · rw [gw, gl]
    by_cases hkj : k = j
    · rw [if_pos hkj, if_pos hkj, ints_append]
      exact a.own.set hR _
    · rw [if_neg hkj, if_neg hkj]
      exact (other j hj hkj).set hR _
  · rw [gw, gw]
    have lt : ∀ j, j < n → ∀ id off m c, ws.getD j .undef = .sl id off m c → id < h.next := fun j hj id off m c e1 => by
      rcases g.own j hj with ⟨h1, _⟩ | ⟨id', _, _, _, h1, _, _, _, h2, _⟩
      · rw [h1] at e1; cases e1
      · rw [h1] at e1; cases e1; exact h2
    by_cases hkj : k = j
    · rw [if_pos hkj, if_neg (by omega)]
      intro i o m c e1 i2 o2 m2 c2 e2
      rw [ev] at e1; cases e1
      have := lt j' hj' _ _ _ _ e2
      omega
    · rw [if_neg hkj]
      by_cases hkj' : k = j'
      · rw [if_pos hkj']
        intro i o m c e1 i2 o2 m2 c2 e2
        rw [ev] at e2; cases e2
        have := lt j hj _ _ _ _ e1
        omega
      · rw [if_neg hkj']
        exact g.dis j j' hj hj' hne
end Go.Proofs.Ytonhijbeddcmpaa

/- Layer 4: Turn. -/
namespace Go.Proofs.Ytonhijbeddcmpaa
open Go Go.Ay
set_option maxRecDepth 100000
/-- Cells that are laid at a kept index. -/
def litV (h : H) (a : Nat) (l : List V) (m : Nat) : H := H.mk ((H.mk h.tr a).new (.cells false l)).tr m
theorem litV_eq (h : H) (a : Nat) (l : List V) (m : Nat) : H.mk ((H.mk h.tr a).new (.cells false l)).tr m = litV h a l m := rfl
theorem litV_get (h : H) (a : Nat) (l : List V) (m : Nat) : (litV h a l m).get a = some (.cells false l) := by
  rw [litV, H.get_next']; exact H.get_new_same ..
theorem litV_ne (h : H) {a k : Nat} (l : List V) (m : Nat) (hk : k ≠ a) : (litV h a l m).get k = h.get k := by
  rw [litV, H.get_next', H.get_new_ne _ hk, H.get_next']
theorem litV_next (h : H) (a : Nat) (l : List V) (m : Nat) : (litV h a l m).next = m := rfl
theorem litV_cell (h : H) (a : Nat) (l : List V) (m off : Nat) : (litV h a l m).cell a off = l[off]? := H.cell_of (litV_get ..) off
theorem litV_cell_ne (h : H) {a k : Nat} (l : List V) (m off : Nat) (hk : k ≠ a) : (litV h a l m).cell k off = h.cell k off := by unfold H.cell; rw [litV_ne h l m hk]
attribute [go_sem] litV_get litV_ne litV_next litV_cell litV_cell_ne
theorem eqV_sl (a b c : Nat) (d : Cap) : eqV (.sl a b c d) (.sl a b c d) = true := by simp [eqV]
theorem bls_int (h : H) (x : Int) : blsV h 1 [.int .i64 0] 1 [(0, 1, .int .i64 x)] = some (.sl h.next 0 1 (.kn 1), h.new (.cells false (ints [x]))) := by
  simp [blsV, fillV, zerosV, V.cells, V.one, putAt, ints]
theorem litV_fr {b h : H} (f : Fr b h) {a m : Nat} (ha : b.next ≤ a) (hm : b.next ≤ m) (l : List V) : Fr b (litV h a l m) := ⟨hm, fun k hk => (litV_ne h l m (by omega)).trans (f.get k hk)⟩
def TurnF (a : Mat) : Mat × Int :=
  if checkM a ≠ 0 then ((0, []), checkM a) else ((a.1, mkR (a.2.getD 0 []).length a.2.length (fun k i => ent a.2 i k)), 0)
theorem mkV_succ (n : Nat) (f : Nat → Int) : mkV (n + 1) f = mkV n f ++ [f n] := by
  rw [mkV, List.range_succ, List.map_append]; rfl
end Go.Proofs.Ytonhijbeddcmpaa

/- Layer 4: Same, the laws' helpers; the reference's primes. -/
namespace Go.Proofs.Ytonhijbeddcmpaa
open Go Go.Ay
set_option maxRecDepth 100000
theorem lists_ext {a b : List (List Int)} (hl : a.length = b.length) (h : ∀ j, j < a.length → a.getD j [] = b.getD j []) : a = b := by
  apply List.ext_getElem hl
  intro i h1 h2
  have := h i h1
  rw [List.getD_eq_getElem?_getD, List.getElem?_eq_getElem h1, List.getD_eq_getElem?_getD, List.getElem?_eq_getElem h2] at this
  exact this
theorem sameLists_ok (va vb : V) (a b : List (List Int)) (h : H) (ha : SR h va a) (hb : SR h vb b) (hla : a.length < 1000000) (hlb : b.length < 1000000) (hra : ∀ i, i < a.length → (a.getD i []).length < 1000000) (hrb : ∀ i, i < b.length → (b.getD i []).length < 1000000) :
    Ev T n_kit_SameLists_int [va, vb] h (fun v h' => v = .bool (decide (a = b)) ∧ Fr h h') := by
  refine Ev_of t_kit_SameLists_int rfl ?_
  obtain ⟨id, off, ws, hsl, hid, hwl, hc, hall⟩ := ha.open
  obtain ⟨id2, off2, ws2, hsl2, hid2, hwl2, hc2, hall2⟩ := hb.open
  simp (disch := first | omega | (simp only [Qn] <;> omega)) only [go_sem, c_kit_SameLists_int, initV_eq, ha.lens, hb.lens]
  refine iteW_dec (fun hne => ?_) (fun heq => ?_)
  · simp (disch := first | omega | (simp only [Qn] <;> omega)) only [go_sem]
    have : a ≠ b := fun e => hne (by rw [e])
    exact ⟨by rw [decide_eq_false this], Fr.refl h⟩
  have heq : a.length = b.length := by omega
  simp (disch := first | omega | (simp only [Qn] <;> omega)) only [go_sem]
  refine Wp_loop (fun k' vars h2 => ∃ (i : Nat), (∃ g : Nat → V, vars = [va, vb, g 2, .int .i64 (i : Int), g 4, g 5, g 6]) ∧ i ≤ a.length ∧ (∀ j, j < i → a.getD j [] = b.getD j []) ∧ Fr h h2 ∧ k' = a.length - i) a.length
    ⟨0, ex_junk rfl, Nat.zero_le _, fun j hj => by omega, Fr.refl h, rfl⟩ ?_
  rintro k' vars h2 ⟨i, ⟨g, rfl⟩, hi, hpre, hf2, rfl⟩
  simp (disch := first | omega | (simp only [Qn] <;> omega)) only [go_sem, ha.lens]
  by_cases hlt : (i : Int) < (a.length : Int)
  · rw [decide_eq_true hlt]
    have hc' := cells_fr hf2 hid hc i (by omega)
    have hc2' := cells_fr hf2 hid2 hc2 i (by omega)
    simp (disch := first | omega | (simp only [Qn] <;> omega)) only [go_sem, hsl.ixa, hsl2.ixa, hc', hc2']
    have fb := hf2.bump (n := h2.next + 10) (by omega)
    have r1 := (row_at hall (i := i) (by omega)).mono fb
    have r2 := (row_at hall2 (i := i) (by omega)).mono fb
    have hc3 : (H.mk h2.tr (h2.next + 10)).cell id (off + i) = some (ws.getD i .undef) := hc'
    have hc4 : (H.mk h2.tr (h2.next + 10)).cell id2 (off2 + i) = some (ws2.getD i .undef) := hc2'
    generalize H.mk h2.tr (h2.next + 10) = hh at *
    refine (same_ok _ _ _ _ hh r1 r2 (hra i (by omega)) (hrb i (by omega))).mono ?_
    rintro v h3 ⟨rfl, f3⟩
    have f4 := fb.trans f3
    by_cases e : a.getD i [] = b.getD i []
    · rw [decide_eq_true e]
      simp (disch := first | omega | (simp only [Qn] <;> omega)) only [go_sem]
      rw [show (i : Int) + 1 = ((i + 1 : Nat) : Int) from by omega]
      refine ⟨a.length - (i + 1), by omega, i + 1, ex_junk rfl, by omega, fun j hj => ?_, f4, rfl⟩
      by_cases h3 : j = i
      · rw [h3]; exact e
      · exact hpre j (by omega)
    · rw [decide_eq_false e]
      simp (disch := first | omega | (simp only [Qn] <;> omega)) only [go_sem]
      have : a ≠ b := fun e2 => e (by rw [e2])
      exact ⟨by rw [decide_eq_false this], f4⟩
  · rw [decide_eq_false hlt]
    simp (disch := first | omega | (simp only [Qn] <;> omega)) only [go_sem]
    have : a = b := lists_ext heq fun j hj => hpre j (by omega)
    exact ⟨by rw [decide_eq_true this], hf2⟩
/-- A matrix of moderate size. -/
def Fit (a : Mat) : Prop := a.2.length < 1000000 ∧ ∀ i, i < a.2.length → (a.2.getD i []).length < 1000000
theorem Same_ok (va vb : V) (a b : Mat) (h : H) (ha : MatV h va a) (hb : MatV h vb b) (fa : Fit a) (fb : Fit b) :
    Ev T n_ref04_Same [va, vb] h (fun v h' => v = .bool (decide (a = b)) ∧ Fr h h') := by
  obtain ⟨ua, rfl, hua⟩ := ha
  obtain ⟨ub, rfl, hub⟩ := hb
  refine Ev_of t_ref04_Same rfl ?_
  have wa := SV.what hua.choose_spec.1
  have wb := SV.what hub.choose_spec.1
  simp (disch := first | omega | (simp only [Qn] <;> omega)) only [go_sem, c_ref04_Same, initV_eq, boxV_agg2 h (v := .int .i64 a.1) rfl wa.2.1]
  have hfx : Fr h (h.new (.cells false [.int .i64 a.1, ua])) := (Fr.refl h).new _
  have hgx : (h.new (.cells false [.int .i64 a.1, ua])).get h.next = some (.cells false [.int .i64 a.1, ua]) := H.get_new_same ..
  have hnx : (h.new (.cells false [.int .i64 a.1, ua])).next = h.next + 1 := H.next_new ..
  generalize h.new (.cells false [.int .i64 a.1, ua]) = hx at *
  have x0 : hx.cell h.next 0 = some (.int .i64 a.1) := by rw [H.cell_of hgx]; rfl
  have x1 : hx.cell h.next 1 = some ua := by rw [H.cell_of hgx]; rfl
  simp (disch := first | omega | (simp only [Qn] <;> omega)) only [go_sem, boxV_agg2 hx (v := .int .i64 b.1) rfl wb.2.1, x0, x1]
  have hfy : Fr hx (hx.new (.cells false [.int .i64 b.1, ub])) := (Fr.refl hx).new _
  have hgy : (hx.new (.cells false [.int .i64 b.1, ub])).get hx.next = some (.cells false [.int .i64 b.1, ub]) := H.get_new_same ..
  have hny : (hx.new (.cells false [.int .i64 b.1, ub])).next = hx.next + 1 := H.next_new ..
  generalize hx.new (.cells false [.int .i64 b.1, ub]) = hy at *
  have F := hfx.trans hfy
  have y1 : hy.cell hx.next 1 = some ub := by rw [H.cell_of hgy]; rfl
  have z1 : hy.cell h.next 1 = some ua := by rw [hfy.cell (by omega)]; exact x1
  by_cases e : a.1 = b.1
  · rw [decide_eq_true e]
    simp (disch := first | omega | (simp only [Qn] <;> omega)) only [go_sem, z1, y1]
    refine (sameLists_ok _ _ _ _ hy (hua.mono F) (hub.mono F) fa.1 fb.1 fa.2 fb.2).mono ?_
    rintro v h3 ⟨rfl, f3⟩
    simp (disch := first | omega | (simp only [Qn] <;> omega)) only [go_sem]
    refine ⟨?_, F.trans f3⟩
    congr 1
    rw [decide_eq_decide]
    exact ⟨fun h => Prod.ext e h, fun h => by rw [h]⟩
  · rw [decide_eq_false e]
    simp (disch := first | omega | (simp only [Qn] <;> omega)) only [go_sem, undef_eq]
    refine ⟨?_, F⟩
    rw [decide_eq_false fun h => e (by rw [h])]
end Go.Proofs.Ytonhijbeddcmpaa

/- Layer 4: matrices that are read, and matrices that are filled; the reference's blank, one, One. -/
namespace Go.Proofs.Ytonhijbeddcmpaa
open Go Go.Ay
set_option maxRecDepth 100000
/-- What a walk wants to know of a matrix that it reads. -/
structure Rd (h : H) (u : V) (A : List (List Int)) (c id off : Nat) (ws : List V) (ρ o : Nat → Nat) : Prop where
  sl : Sl u 1 A.length id off
  lt : ∀ i, i < A.length → id < h.next
  at_ : ∀ i, i < A.length → h.cell id (off + i) = some (ws.getD i .undef)
  row : ∀ i, i < A.length → SI h (ws.getD i .undef) (A.getD i [])
  rsl : ∀ i, i < A.length → Sl (ws.getD i .undef) 1 c (ρ i) (o i)
  rlt : ∀ i k, i < A.length → k < c → ρ i < h.next
  ent : ∀ i k, i < A.length → k < c → h.cell (ρ i) (o i + k) = some (.int .i64 (ent A i k))
theorem SR.rd {h : H} {u : V} {A : List (List Int)} (s : SR h u A) {c : Nat} (hc : ∀ i, i < A.length → (A.getD i []).length = c) : ∃ id off ws ρ o, Rd h u A c id off ws ρ o := by
  obtain ⟨id, off, ws, sl, hid, hwl, hcA, hall⟩ := s.open
  have key : ∀ i, ∃ r : Nat × Nat, i < A.length → Sl (ws.getD i .undef) 1 c r.1 r.2 ∧ (0 < c → r.1 < h.next) ∧ ∀ k : Nat, k < c → h.cell r.1 (r.2 + k) = some (.int .i64 ((A.getD i []).getD k 0)) := fun i => by
    by_cases hi : i < A.length
    · obtain ⟨x, y, h1, h2, h3⟩ := (row_at hall hi).open
      rw [hc i hi] at h1 h2 h3
      exact ⟨(x, y), fun _ => ⟨h1, h2, h3⟩⟩
    · exact ⟨(0, 0), fun h => absurd h hi⟩
  exact ⟨id, off, ws, fun i => (key i).choose.1, fun i => (key i).choose.2, sl, fun i hi => hid (by omega), hcA, fun i hi => row_at hall hi, fun i hi => ((key i).choose_spec hi).1, fun i k hi hk => ((key i).choose_spec hi).2.1 (by omega), fun i k hi hk => ((key i).choose_spec hi).2.2 k hk⟩
theorem Rd.fr {h h' : H} {u : V} {A : List (List Int)} {c id off : Nat} {ws : List V} {ρ o : Nat → Nat} (r : Rd h u A c id off ws ρ o) (f : Fr h h') : Rd h' u A c id off ws ρ o :=
  ⟨r.sl, fun i hi => Nat.lt_of_lt_of_le (r.lt i hi) f.next, fun i hi => by rw [f.cell (r.lt i hi)]; exact r.at_ i hi, fun i hi => (r.row i hi).mono f, r.rsl, fun i k hi hk => Nat.lt_of_lt_of_le (r.rlt i k hi hk) f.next, fun i k hi hk => by rw [f.cell (r.rlt i k hi hk)]; exact r.ent i k hi hk⟩
theorem Rd.lens {h : H} {u : V} {A : List (List Int)} {c id off : Nat} {ws : List V} {ρ o : Nat → Nat} (r : Rd h u A c id off ws ρ o) {i : Nat} (hi : i < A.length) : lensV (ws.getD i .undef) = some (.int .i64 (c : Int)) := (r.rsl i hi).lens
/-- A matrix that the call fills. -/
structure Grd (h : H) (R n c : Nat) (ρ : Nat → Nat) (f : Nat → Nat → Int) (lo : Nat) : Prop where
  gR : h.get R = some (.cells false ((List.range n).map fun i => V.sl (ρ i) 0 c (.kn c)))
  row : ∀ i, i < n → h.get (ρ i) = some (.cells false (ints (mkV c (f i))))
  inj : ∀ i j, i < n → j < n → ρ i = ρ j → i = j
  hR : lo ≤ R
  ltR : R < h.next
  hρ : ∀ i, i < n → lo ≤ ρ i
  ltρ : ∀ i, i < n → ρ i < h.next
  ne : ∀ i, i < n → ρ i ≠ R
theorem Grd.fr {h h' : H} {R n c : Nat} {ρ : Nat → Nat} {f : Nat → Nat → Int} {lo : Nat} (g : Grd h R n c ρ f lo) (F : Fr h h') : Grd h' R n c ρ f lo :=
  ⟨(F.get R g.ltR).trans g.gR, fun i hi => (F.get _ (g.ltρ i hi)).trans (g.row i hi), g.inj, g.hR, Nat.lt_of_lt_of_le g.ltR F.next, g.hρ, fun i hi => Nat.lt_of_lt_of_le (g.ltρ i hi) F.next, g.ne⟩
theorem Grd.le {h : H} {R n c : Nat} {ρ : Nat → Nat} {f : Nat → Nat → Int} {lo lo' : Nat} (g : Grd h R n c ρ f lo) (hl : lo' ≤ lo) : Grd h R n c ρ f lo' :=
  ⟨g.gR, g.row, g.inj, Nat.le_trans hl g.hR, g.ltR, fun i hi => Nat.le_trans hl (g.hρ i hi), g.ltρ, g.ne⟩
/-- A cell that lies below. -/
theorem Grd.set {h : H} {R n c : Nat} {ρ : Nat → Nat} {f : Nat → Nat → Int} {lo x : Nat} (g : Grd h R n c ρ f lo) (hx : x < lo) (o : Option Ob) : Grd (h.set x o) R n c ρ f lo :=
  ⟨by rw [H.get_set_ne _ (by have := g.hR; omega)]; exact g.gR, fun i hi => by rw [H.get_set_ne _ (by have := g.hρ i hi; omega)]; exact g.row i hi, g.inj, g.hR, g.ltR, g.hρ, g.ltρ, g.ne⟩
theorem Grd.congr {h : H} {R n c : Nat} {ρ : Nat → Nat} {f f' : Nat → Nat → Int} {lo : Nat} (g : Grd h R n c ρ f lo) (e : ∀ i k, i < n → k < c → f i k = f' i k) : Grd h R n c ρ f' lo :=
  ⟨g.gR, fun i hi => by rw [g.row i hi, mkV_congr fun k hk => e i k hi hk], g.inj, g.hR, g.ltR, g.hρ, g.ltρ, g.ne⟩
def upF (f : Nat → Nat → Int) (i k : Nat) (x : Int) : Nat → Nat → Int := fun a b => if a = i ∧ b = k then x else f a b
theorem mkV_set {n : Nat} {f : Nat → Int} {k : Nat} (x : Int) : (mkV n f).set k x = mkV n (fun j => if j = k then x else f j) := by
  refine mkV_eq (by rw [List.length_set, mkV_len]) fun j hj => ?_
  rw [getD_set, mkV_len]
  by_cases e : k = j
  · subst e; rw [if_pos rfl, if_pos hj, if_pos rfl]
  · rw [if_neg e, if_neg (by omega), mkV_get _ hj]
theorem Grd.put {h : H} {R n c : Nat} {ρ : Nat → Nat} {f : Nat → Nat → Int} {lo : Nat} (g : Grd h R n c ρ f lo) {i k : Nat} (hi : i < n) (hk : k < c) (x : Int) :
    putO (h.get (ρ i)) h (ρ i) k [.int .i64 x] = some (h.set (ρ i) (some (.cells false (ints (mkV c (upF f i k x i)))))) ∧ Grd (h.set (ρ i) (some (.cells false (ints (mkV c (upF f i k x i)))))) R n c ρ (upF f i k x) lo := by
  have e : (mkV c (f i)).set k x = mkV c (upF f i k x i) := by
    rw [mkV_set]
    exact mkV_congr fun j _ => by
      simp only [upF, true_and]
  refine ⟨by rw [g.row i hi, putO_ints (by rw [mkV_len]; exact hk), e], ⟨?_, fun j hj => ?_, g.inj, g.hR, g.ltR, g.hρ, g.ltρ, g.ne⟩⟩
  · rw [H.get_set_ne _ (fun e => g.ne i hi e.symm)]; exact g.gR
  · by_cases e : j = i
    · subst e; rw [H.get_set_same]
    · rw [H.get_set_ne _ fun h => e (g.inj j i hj hi h), g.row j hj, mkV_congr fun b _ => ?_]
      simp only [upF]
      rw [if_neg fun h => e h.1]
end Go.Proofs.Ytonhijbeddcmpaa

/- Layer 4: the reference's one, One. -/
namespace Go.Proofs.Ytonhijbeddcmpaa
open Go Go.Ay
set_option maxRecDepth 100000
end Go.Proofs.Ytonhijbeddcmpaa

/- Layer 4: the reference's Check, both. -/
namespace Go.Proofs.Ytonhijbeddcmpaa
open Go Go.Ay
set_option maxRecDepth 100000
end Go.Proofs.Ytonhijbeddcmpaa

/- Layer 4: the reference's mul, Mul. -/
namespace Go.Proofs.Ytonhijbeddcmpaa
open Go Go.Ay
set_option maxRecDepth 100000
theorem mul_bound {x y p : Int} (h0 : 0 ≤ x) (h1 : x < p) (h2 : 0 ≤ y) (h3 : y < p) (hp : p < 10000) : 0 ≤ x * y ∧ x * y < 100000000 := by
  have a := Int.mul_nonneg h0 h2
  have b := Int.mul_le_mul (show x ≤ 9999 by omega) (show y ≤ 9999 by omega) h2 (by omega)
  omega
end Go.Proofs.Ytonhijbeddcmpaa

/- Layer 4: the reference's Mul, Add. -/
namespace Go.Proofs.Ytonhijbeddcmpaa
open Go Go.Ay
set_option maxRecDepth 100000
end Go.Proofs.Ytonhijbeddcmpaa

/- Layer 4: the reference's Scale, Turn. -/
namespace Go.Proofs.Ytonhijbeddcmpaa
open Go Go.Ay
set_option maxRecDepth 100000
end Go.Proofs.Ytonhijbeddcmpaa

/- Layer 4: the reference's Apply. -/
namespace Go.Proofs.Ytonhijbeddcmpaa
open Go Go.Ay
set_option maxRecDepth 100000
end Go.Proofs.Ytonhijbeddcmpaa

