/- Layer 4: inverses modulo a prime. Layer 4: two lists in a row. Elimination modulo a prime: the determinant and the inverse. Layer 4: pivot, clear. Layer 4: clear. Layer 4: invert. Layer 4: square, Inv, Det, EqualFunc, Order. Layer 4: Order. Layer 4: the laws' helpers: of, is, lives. Layer 4: the laws' numbers: field, drawn; boxes; valid matrices. Layer 4: valid square matrices; boxes. The characteristic polynomial by leading parts (Samuelson, Berkowitz), and of a bent matrix. Two rows and the same two columns change places; a multiple of a row is taken off another, and of a column put on: the characteristic polynomial stays. Layer 4: rows in their places. Layer 4: bent. Layer 4: Poly. Layer 4: Trace. Layer 4: the reference's square, Trace. Layer 4: the reference's inverse of a number. Layer 5: adding a multiple of a row, residues, the iterator over pivots. Layer 5: an echelon list of rows, the walk over its pivots. Layer 5: reduced. Layer 5: insert. -/
import Derived.Test.YtlhebmcnjgagjaaL4atoDt6
import Derived.Test.YtlhebmcnjgagjaaAy33
/- Layer 4: inverses modulo a prime. -/
namespace Go.Proofs.Ytlhebmcnjgagjaa
open Go Go.Ay
set_option maxRecDepth 100000
theorem divG_none {n : Nat} : ∀ f d, 2 ≤ d → divG n f d = n → ∀ e, d ≤ e → e < d + f → e * e ≤ n → n % e ≠ 0
  | 0, d, _, _, e, h1, h2, _ => by omega
  | f + 1, d, hd, h, e, h1, h2, h3 => by
    rw [divG] at h
    by_cases hle : d * d ≤ n
    · rw [if_pos hle] at h
      by_cases hz : n % d = 0
      · rw [if_pos hz] at h
        subst h
        have := Nat.mul_le_mul_left d hd
        omega
      · rw [if_neg hz] at h
        by_cases he : e = d
        · subst he; exact hz
        · exact divG_none f (d + 1) (by omega) h e (by omega) (by omega) h3
    · have := Nat.mul_le_mul h1 h1
      omega
theorem isP_pr {p : Int} (h : isP p = true) : Pr p.toNat := by
  simp only [isP, Bool.and_eq_true, decide_eq_true_eq] at h
  obtain ⟨h1, h2, h3⟩ := h
  refine ⟨by omega, fun d hd => ?_⟩
  obtain ⟨q, hq⟩ := hd
  refine Classical.byContradiction fun hne => ?_
  have key : ∀ a b : Nat, p.toNat = a * b → 2 ≤ a → a ≤ b → False := fun a b hab ha hle => by
    have h4 := Nat.mul_le_mul_left a hle
    have h5 : a < 1002 := by
      refine Nat.lt_of_not_le fun h => ?_
      have := Nat.mul_le_mul h h
      omega
    exact divG_none 1000 2 (Nat.le_refl _) h3 a ha (by omega) (by omega) (by rw [hab]; exact Nat.mul_mod_right a b)
  have d0 : d ≠ 0 := fun e => by subst e; simp at hq; omega
  have q0 : q ≠ 0 := fun e => by subst e; simp at hq; omega
  have q1 : q ≠ 1 := fun e => by subst e; simp at hq; omega
  rcases Nat.le_total d q with h | h
  · exact key d q hq (by omega) h
  · exact key q d (by rw [hq, Nat.mul_comm]) (by omega) h
theorem pow_mod {a b p : Int} (h : a % p = b % p) (k : Nat) : a ^ k % p = b ^ k % p := by
  induction k with
  | zero => rw [Int.pow_zero, Int.pow_zero]
  | succ k ih => rw [Int.pow_succ, Int.pow_succ]; exact mul_mod ih h
theorem prime_residue_ok (a n : Int) (h : H) (hn : 0 < n) (hn2 : n < 1000000000) : Ev T n_prime_residue [.int .i64 a, .int .i64 n] h (fun v h' => v = .int .i64 (a % n) ∧ h' = h) := by
  refine Ev_of t_prime_residue rfl ?_
  have h0 := tmod_bd a hn
  have h1 := tmod_fix a hn
  simp (disch := first | omega | (simp only [Qn] <;> omega)) only [go_sem, c_prime_residue, initV_eq]
  refine iteW_dec (fun hlt => ?_) (fun hge => ?_)
  · rw [if_pos hlt] at h1
    simp (disch := first | omega | (simp only [Qn] <;> omega)) only [go_sem]
    exact ⟨by rw [h1], trivial⟩
  · rw [if_neg hge] at h1
    simp (disch := first | omega | (simp only [Qn] <;> omega)) only [go_sem]
    exact ⟨by rw [h1], trivial⟩
theorem modulo_ok (p : Int) (h : H) : Ev T n_prime_modulo [.int .i64 p] h (fun v h' => ∃ ip, v = .fn 105 [] [.ptr ip 0] ∧ h'.cell ip 0 = some (.int .i64 p) ∧ (h.next ≤ ip ∧ ip < h'.next) ∧ Fr h h') := by
  refine Ev_of t_prime_modulo rfl ?_
  simp (disch := first | omega | (simp only [Qn] <;> omega)) only [go_sem, c_prime_modulo, initV_eq]
  have g1 : (h.new (.cells false [.int .i64 p])).get h.next = some (.cells false [.int .i64 p]) := H.get_new_same ..
  exact ⟨_, rfl, by rw [H.cell_of g1]; rfl, by omega, (Fr.refl h).new _⟩
theorem modulo1_ok (ip : Nat) (p a b : Int) (h : H) (hp : h.cell ip 0 = some (.int .i64 p)) (ha : 0 ≤ a ∧ a < p) (hb : 0 ≤ b ∧ b < p) (hp2 : p < 10000) :
    callP T (.fn 105 [] [.ptr ip 0]) [.int .i64 a, .int .i64 b] h (fun v h' => v = .int .i64 (a * b % p) ∧ h' = h) := by
  have m := mul_bound ha.1 ha.2 hb.1 hb.2 hp2
  have e := nonneg_tmod (a := a * b) (p := p) m.1
  show Ev T n_prime_modulo_1 [.int .i64 a, .int .i64 b, .ptr ip 0] h _
  refine Ev_of t_prime_modulo_1 rfl ?_
  simp (disch := first | omega | (simp only [Qn] <;> omega)) only [go_sem, c_prime_modulo_1, initV_eq, hp, e]
theorem power_ok (ip : Nat) (p x u : Int) (n : Nat) (h : H) (hp : h.cell ip 0 = some (.int .i64 p)) (hx : 0 ≤ x ∧ x < p) (hu : 0 ≤ u ∧ u < p) (hp2 : p < 10000) (hn : n < 1000000) :
    Ev T n_prime_power_int [.int .i64 x, .int .i64 u, .int .i64 (n : Int), .fn 105 [] [.ptr ip 0]] h (fun v h' => ∃ r, v = .int .i64 r ∧ 0 ≤ r ∧ r < p ∧ r % p = u * x ^ n % p ∧ h' = h) := by
  refine Ev_of t_prime_power_int rfl ?_
  simp (disch := first | omega | (simp only [Qn] <;> omega)) only [go_sem, c_prime_power_int, initV_eq]
  refine Wp_loop (fun k' vars h3 => ∃ (m : Nat) (y w : Int), (∃ g : Nat → V, vars = [.int .i64 y, .int .i64 w, .int .i64 (m : Int), .fn 105 [] [.ptr ip 0], g 4, g 5, g 6]) ∧ (0 ≤ y ∧ y < p) ∧ (0 ≤ w ∧ w < p) ∧ w * y ^ m % p = u * x ^ n % p ∧ m < 1000000 ∧ h3 = h ∧ k' = m) n
    ⟨n, x, u, ex_junk rfl, hx, hu, rfl, hn, rfl, rfl⟩ ?_
  rintro k' vars h3 ⟨m, y, w, ⟨g, rfl⟩, hy, hw, he, hm, rfl, rfl⟩
  simp (disch := first | omega | (simp only [Qn] <;> omega)) only [go_sem]
  by_cases h0 : 0 < (k' : Int)
  · rw [decide_eq_true h0]
    have em : (k' : Int).tmod 2 = ((k' % 2 : Nat) : Int) := tmod_nat k' 2
    have eq : (k' : Int).tdiv 2 = ((k' / 2 : Nat) : Int) := rfl
    have hyy := tmod_range (y * y) (show 0 < p by omega)
    have emm : ∀ a : Int, a % p % p = a % p := fun a => Int.emod_emod_of_dvd _ (Int.dvd_refl p)
    simp (disch := first | omega | (simp only [Qn] <;> omega)) only [go_sem, em]
    refine iteW_dec (fun h1 => ?_) (fun h1 => ?_)
    · simp (disch := first | omega | (simp only [Qn] <;> omega)) only [go_sem]
      refine (modulo1_ok ip p w y h3 hp hw hy hp2).mono ?_
      rintro v h4 ⟨rfl, rfl⟩
      simp (disch := first | omega | (simp only [Qn] <;> omega)) only [go_sem]
      refine (modulo1_ok ip p y y _ hp hy hy hp2).mono ?_
      rintro v h4 ⟨rfl, rfl⟩
      simp (disch := first | omega | (simp only [Qn] <;> omega)) only [go_sem, eq]
      refine ⟨k' / 2, by omega, k' / 2, _, _, ex_junk rfl, hyy, tmod_range _ (by omega), ?_, by omega, rfl⟩
      rw [mul_mod (emm (w * y)) (pow_mod (emm (y * y)) (k' / 2)), ← he]
      congr 1
      have e2 : k' = 2 * (k' / 2) + 1 := by omega
      generalize k' / 2 = q at *
      subst e2
      rw [Int.pow_succ, Int.pow_mul, show y ^ 2 = y * y by rw [Int.pow_succ, Int.pow_succ, Int.pow_zero, Int.one_mul]]
      grind
    · simp (disch := first | omega | (simp only [Qn] <;> omega)) only [go_sem]
      refine (modulo1_ok ip p y y _ hp hy hy hp2).mono ?_
      rintro v h4 ⟨rfl, rfl⟩
      simp (disch := first | omega | (simp only [Qn] <;> omega)) only [go_sem, eq]
      refine ⟨k' / 2, by omega, k' / 2, _, _, ex_junk rfl, hyy, hw, ?_, by omega, rfl⟩
      rw [mul_mod (rfl : w % p = w % p) (pow_mod (emm (y * y)) (k' / 2)), ← he]
      congr 1
      have e2 : k' = 2 * (k' / 2) := by omega
      generalize k' / 2 = q at *
      subst e2
      rw [Int.pow_mul, show y ^ 2 = y * y by rw [Int.pow_succ, Int.pow_succ, Int.pow_zero, Int.one_mul]]
  · rw [decide_eq_false h0]
    obtain rfl : k' = 0 := by omega
    simp (disch := first | omega | (simp only [Qn] <;> omega)) only [go_sem]
    exact ⟨w, rfl, hw.1, hw.2, by rw [← he, Int.pow_zero, Int.mul_one], trivial⟩
theorem unit_ok (a p : Int) (h : H) (hp : isP p = true) (ha : 0 < a ∧ a < p) : Ev T n_prime_unit [.int .i64 a, .int .i64 p] h (fun v h' => v = .tup [.int .i64 a, .int .i64 0] ∧ h' = h) := by
  refine Ev_of t_prime_unit rfl ?_
  have hr := isP_pr hp
  have hp2 : p < 1000000 := by simp only [isP, Bool.and_eq_true, decide_eq_true_eq] at hp; omega
  simp (disch := first | omega | (simp only [Qn] <;> omega)) only [go_sem, c_prime_unit, initV_eq]
  refine (is_prime_ok p h).mono ?_
  rintro v h' ⟨rfl, rfl⟩
  simp (disch := first | omega | (simp only [Qn] <;> omega)) only [go_sem, hp]
  refine (prime_residue_ok a p _ (by omega) (by omega)).mono ?_
  rintro v h' ⟨rfl, rfl⟩
  rw [Int.emod_eq_of_lt (by omega) ha.2]
  simp (disch := first | omega | (simp only [Qn] <;> omega)) only [go_sem]
  rw [decide_eq_false (show ¬ a = 0 by omega)]
  simp (disch := first | omega | (simp only [Qn] <;> omega)) only [go_sem]
theorem to_ok (a : Int) (n : Nat) (p : Int) (h : H) (ha : 0 ≤ a ∧ a < p) (hp1 : 1 < p) (hp2 : p < 10000) (hn : n < 1000000) : Ev T n_prime_to [.int .i64 a, .int .i64 (n : Int), .int .i64 p] h (fun v h' => ∃ r, v = .int .i64 r ∧ 0 ≤ r ∧ r < p ∧ r % p = a ^ n % p ∧ Fr h h') := by
  refine Ev_of t_prime_to rfl ?_
  have em : (1 : Int).tmod p = 1 := by rw [nonneg_tmod (by omega)]; exact Int.emod_eq_of_lt (by omega) hp1
  simp (disch := first | omega | (simp only [Qn] <;> omega)) only [go_sem, c_prime_to, initV_eq, em]
  have fb : Fr h (H.mk h.tr (h.next + 8)) := (Fr.refl h).bump (by omega)
  generalize H.mk h.tr (h.next + 8) = hh at *
  refine (modulo_ok p hh).mono ?_
  rintro v h1 ⟨ip, rfl, hc, hl, f1⟩
  simp (disch := first | omega | (simp only [Qn] <;> omega)) only [go_sem]
  refine (power_ok ip p a 1 n h1 hc ha (by omega) hp2 hn).mono ?_
  rintro v h2 ⟨r, rfl, h3, h4, h5, rfl⟩
  simp (disch := first | omega | (simp only [Qn] <;> omega)) only [go_sem]
  exact ⟨r, rfl, h3, h4, by rw [h5, Int.one_mul], fb.trans f1⟩
theorem inv_ok (a p : Int) (h : H) (hp : isP p = true) (hp2 : p < 10000) (ha : 0 < a ∧ a < p) : Ev T n_prime_Inv [.int .i64 a, .int .i64 p] h (fun v h' => ∃ r, v = .tup [.int .i64 r, .int .i64 0] ∧ 0 ≤ r ∧ r < p ∧ r * a % p = 1 ∧ Fr h h') := by
  refine Ev_of t_prime_Inv rfl ?_
  have hr := isP_pr hp
  have h2 := hr.two
  simp (disch := first | omega | (simp only [Qn] <;> omega)) only [go_sem, c_prime_Inv, initV_eq]
  refine (unit_ok a p h hp ha).mono ?_
  rintro v h' ⟨rfl, rfl⟩
  simp (disch := first | omega | (simp only [Qn] <;> omega)) only [go_sem]
  rw [decide_eq_false (show ¬ ((0 : Int) ≠ 0) by omega)]
  simp (disch := first | omega | (simp only [Qn] <;> omega)) only [go_sem]
  rw [show p - 2 = ((p.toNat - 2 : Nat) : Int) by omega]
  refine (to_ok a (p.toNat - 2) p h' (by omega) (by omega) hp2 (by omega)).mono ?_
  rintro v h1 ⟨r, rfl, h3, h4, h5, f1⟩
  simp (disch := first | omega | (simp only [Qn] <;> omega)) only [go_sem]
  refine ⟨r, rfl, h3, h4, ?_, f1⟩
  have f := fermat hr (a := a) ha.1 (by omega)
  rw [show (p.toNat : Int) = p by omega] at f
  rw [mul_mod h5 (rfl : a % p = a % p), Int.mul_comm]
  exact f
end Go.Proofs.Ytlhebmcnjgagjaa

/- Layer 4: two lists in a row. -/
namespace Go.Proofs.Ytlhebmcnjgagjaa
open Go Go.Ay
set_option maxRecDepth 100000
end Go.Proofs.Ytlhebmcnjgagjaa

/- Elimination modulo a prime: the determinant and the inverse. -/
namespace Go.Ay
structure Elim (p : Int) (n : Nat) (A : Mx) (c : Nat) (d : Int) (W : Mx) : Prop where
  lo : ∀ i j, i < n → j < n + n → 0 ≤ W i j
  hi : ∀ i j, i < n → j < n + n → W i j < p
  rel : ∀ i j, i < n → j < n → W i j % p = sm n (fun k => W i (n + k) * A k j) % p
  unit : ∀ i j, i < n → j < c → W i j = if i = j then 1 else 0
  dd : d * det n W % p = det n A % p
theorem Elim.start {p : Int} {n : Nat} {A : Mx} (hA : ∀ i j, i < n → j < n → 0 ≤ A i j ∧ A i j < p) (hp : 1 < p) {W : Mx} (h1 : ∀ i j, i < n → j < n → W i j = A i j) (h2 : ∀ i k, i < n → k < n → W i (n + k) = if i = k then 1 else 0) : Elim p n A 0 1 W := by
  refine ⟨fun i j hi hj => ?_, fun i j hi hj => ?_, fun i j hi hj => ?_, fun i j _ hj => absurd hj (Nat.not_lt_zero j), ?_⟩
  · by_cases h : j < n
    · rw [h1 i j hi h]; exact (hA i j hi h).1
    · have e := h2 i (j - n) hi (by omega)
      rw [show n + (j - n) = j by omega] at e
      rw [e]; split <;> omega
  · by_cases h : j < n
    · rw [h1 i j hi h]; exact (hA i j hi h).2
    · have e := h2 i (j - n) hi (by omega)
      rw [show n + (j - n) = j by omega] at e
      rw [e]; split <;> omega
  · rw [h1 i j hi hj, sm_one (t := i) hi fun k hk hne => by rw [h2 i k hi hk, if_neg fun h => hne h.symm, Int.zero_mul], h2 i i hi hi, if_pos rfl, Int.one_mul]
  · rw [Int.one_mul, det_congr h1]
theorem swp_row (A : Mx) (i j k c : Nat) : swp A i j k c = if k = j then A i c else if k = i then A j c else A k c := by
  by_cases h1 : k = j
  · rw [if_pos h1, h1, swp_right]
  · rw [if_neg h1]
    by_cases h2 : k = i
    · subst h2; rw [if_pos rfl, swp_left _ (by omega)]
    · rw [if_neg h2, swp_other _ h2 h1]
theorem Elim.swap {p : Int} {n : Nat} {A : Mx} {c : Nat} {d : Int} {W W' : Mx} (e : Elim p n A c d W) {k : Nat} (hk : k < n) (hck : c < k) (hW : ∀ i j, i < n → j < n + n → W' i j = swp W c k i j) : Elim p n A c (-d % p) W' := by
  have row : ∀ i, i < n → ∃ i', i' < n ∧ (∀ j, j < n + n → W' i j = W i' j) ∧ (∀ j, j < c → W i' j = if i = j then 1 else 0) := fun i hi => by
    by_cases h1 : i = k
    · subst h1
      refine ⟨c, by omega, fun j hj => by rw [hW i j hi hj, swp_row, if_pos rfl], fun j hj => ?_⟩
      rw [e.unit c j (by omega) hj, if_neg (by omega), if_neg (by omega)]
    · by_cases h2 : i = c
      · subst h2
        refine ⟨k, hk, fun j hj => by rw [hW i j hi hj, swp_row, if_neg h1, if_pos rfl], fun j hj => ?_⟩
        rw [e.unit k j hk hj, if_neg (by omega), if_neg (by omega)]
      · exact ⟨i, hi, fun j hj => by rw [hW i j hi hj, swp_row, if_neg h1, if_neg h2], fun j hj => e.unit i j hi hj⟩
  refine ⟨fun i j hi hj => ?_, fun i j hi hj => ?_, fun i j hi hj => ?_, fun i j hi hj => ?_, ?_⟩
  · obtain ⟨i', h1, h2, _⟩ := row i hi
    rw [h2 j hj]; exact e.lo i' j h1 hj
  · obtain ⟨i', h1, h2, _⟩ := row i hi
    rw [h2 j hj]; exact e.hi i' j h1 hj
  · obtain ⟨i', h1, h2, _⟩ := row i hi
    rw [h2 j (by omega), sm_congr fun k hk => by rw [h2 (n + k) (by omega)]]
    exact e.rel i' j h1 hj
  · obtain ⟨i', h1, h2, h3⟩ := row i hi
    by_cases hj2 : j < n + n
    · rw [h2 j hj2]; exact h3 j hj
    · omega
  · rw [det_congr (B := swp W c k) fun i j hi hj => hW i j hi (by omega), (det_alt n).swap (by omega) hk (by omega)]
    rw [mul_mod (Int.emod_emod_of_dvd (-d) (Int.dvd_refl p)) (rfl : (-det n W) % p = (-det n W) % p), Int.neg_mul_neg, e.dd]
/-- A column without a pivot. -/
theorem Elim.none {p : Int} {n : Nat} {A : Mx} {c : Nat} {d : Int} {W : Mx} (e : Elim p n A c d W) (hc : c < n) (h : ∀ k, c ≤ k → k < n → W k c = 0) : det n A % p = 0 := by
  have z : det n W = 0 := by
    rw [← det_tr]
    have a := det_alt n
    have e1 : det n (trM W) = det n (setR (trM W) c (fun r => sm c (fun j => W j c * trM W j r))) := det_congr fun i j hi hj => by
      by_cases h1 : i = c
      · subst h1
        rw [setR_same]
        simp only [trM]
        by_cases h2 : j < i
        · rw [sm_one (t := j) h2 fun k hk hne => by rw [e.unit j k hj hk, if_neg fun h => hne h.symm, Int.mul_zero], e.unit j j hj h2, if_pos rfl, Int.mul_one]
        · rw [h j (by omega) hj, sm_zeros fun k hk => by rw [e.unit j k hj hk, if_neg (by omega), Int.mul_zero]]
      · rw [setR_ne _ _ _ h1]
    rw [e1, a.sum (trM W) hc c (fun j => W j c) (fun j r => trM W j r)]
    refine sm_zeros fun j hj => ?_
    rw [a.alt _ j c (by omega) hc (by omega) fun r _ => by rw [setR_same, setR_ne _ _ _ (by omega)], Int.mul_zero]
  have := e.dd
  rw [z, Int.mul_zero] at this
  rw [← this]; rfl
/-- The pivot is made 1. -/
theorem Elim.one {p : Int} {n : Nat} {A : Mx} {c : Nat} {d : Int} {W W' : Mx} (e : Elim p n A c d W) (hp : 1 < p) (hc : c < n) {x : Int} (hx : x * W c c % p = 1) (h1 : ∀ j, j < n + n → W' c j = x * W c j % p) (h2 : ∀ i j, i < n → i ≠ c → j < n + n → W' i j = W i j) :
    Elim p n A c (d * W c c % p) W' ∧ W' c c = 1 := by
  have pp : (0 : Int) < p := by omega
  refine ⟨⟨fun i j hi hj => ?_, fun i j hi hj => ?_, fun i j hi hj => ?_, fun i j hi hj => ?_, ?_⟩, by rw [h1 c (by omega), hx]⟩
  · by_cases h : i = c
    · subst h; rw [h1 j hj]; exact Int.emod_nonneg _ (by omega)
    · rw [h2 i j hi h hj]; exact e.lo i j hi hj
  · by_cases h : i = c
    · subst h; rw [h1 j hj]; exact Int.emod_lt_of_pos _ pp
    · rw [h2 i j hi h hj]; exact e.hi i j hi hj
  · by_cases h : i = c
    · subst h
      rw [h1 j (by omega), Int.emod_emod_of_dvd _ (Int.dvd_refl p), mul_mod rfl (e.rel i j hi hj), ← sm_mul]
      refine sm_mod fun k hk => ?_
      rw [h1 (n + k) (by omega), mul_mod (Int.emod_emod_of_dvd _ (Int.dvd_refl p)) (rfl : A k j % p = A k j % p), Int.mul_assoc]
    · rw [h2 i j hi h (by omega), e.rel i j hi hj]
      refine congrArg (· % p) (sm_congr fun k hk => ?_)
      rw [h2 i (n + k) hi h (by omega)]
  · by_cases h : i = c
    · subst h
      rw [h1 j (by omega), e.unit i j hi hj, if_neg (by omega), Int.mul_zero]; rfl
    · rw [h2 i j hi h (by omega)]; exact e.unit i j hi hj
  · have a := det_alt n
    have e1 : det n W' % p = x * det n W % p := by
      have e2 : det n W' % p = det n (setR W c (fun j => x * W c j)) % p := det_mod fun i j hi hj => by
        by_cases h : i = c
        · subst h; rw [setR_same, h1 j (by omega)]; exact Int.emod_emod_of_dvd _ (Int.dvd_refl p)
        · rw [setR_ne _ _ _ h, h2 i j hi h (by omega)]
      rw [e2, a.mul_row W hc, setR_self]
    rw [mul_mod (Int.emod_emod_of_dvd _ (Int.dvd_refl p)) e1, show d * W c c * (x * det n W) = (x * W c c) * (d * det n W) by grind, Int.mul_emod, hx, Int.one_mul, Int.emod_emod_of_dvd _ (Int.dvd_refl p), e.dd]
/-- Another row's element in the column is made 0. -/
theorem Elim.clear {p : Int} {n : Nat} {A : Mx} {c : Nat} {d : Int} {W W' : Mx} (e : Elim p n A c d W) (hp : 1 < p) (hc : c < n) (h1c : W c c = 1) {k : Nat} (hk : k < n) (hkc : k ≠ c) (h1 : ∀ j, j < n + n → W' k j = (W k j + (p - W k c) * W c j) % p) (h2 : ∀ i j, i < n → i ≠ k → j < n + n → W' i j = W i j) :
    Elim p n A c d W' ∧ W' k c = 0 := by
  have pp : (0 : Int) < p := by omega
  have em : ∀ a : Int, a % p % p = a % p := fun a => Int.emod_emod_of_dvd _ (Int.dvd_refl p)
  refine ⟨⟨fun i j hi hj => ?_, fun i j hi hj => ?_, fun i j hi hj => ?_, fun i j hi hj => ?_, ?_⟩, ?_⟩
  · by_cases h : i = k
    · subst h; rw [h1 j hj]; exact Int.emod_nonneg _ (by omega)
    · rw [h2 i j hi h hj]; exact e.lo i j hi hj
  · by_cases h : i = k
    · subst h; rw [h1 j hj]; exact Int.emod_lt_of_pos _ pp
    · rw [h2 i j hi h hj]; exact e.hi i j hi hj
  · by_cases h : i = k
    · subst h
      rw [h1 j (by omega), em]
      have r1 := e.rel i j hi hj
      have r2 := mul_mod (p := p) (rfl : (p - W i c) % p = (p - W i c) % p) (e.rel c j hc hj)
      rw [Int.add_emod, r1, r2, ← Int.add_emod, ← sm_mul, ← sm_add]
      refine sm_mod fun l hl => ?_
      rw [h1 (n + l) (by omega), mul_mod (em _) (rfl : A l j % p = A l j % p)]
      congr 1
      grind
    · rw [h2 i j hi h (by omega), e.rel i j hi hj]
      refine congrArg (· % p) (sm_congr fun l hl => ?_)
      rw [h2 i (n + l) hi h (by omega)]
  · by_cases h : i = k
    · subst h
      have hlt : (if i = j then (1 : Int) else 0) % p = if i = j then 1 else 0 := by
        split
        · exact Int.emod_eq_of_lt (by omega) hp
        · exact Int.emod_eq_of_lt (by omega) pp
      rw [h1 j (by omega), e.unit i j hi hj, e.unit c j hc hj, if_neg (show ¬ c = j by omega), Int.mul_zero, Int.add_zero, hlt]
    · rw [h2 i j hi h (by omega)]; exact e.unit i j hi hj
  · have a := det_alt n
    have e1 : det n W' % p = det n W % p := by
      have e2 : det n W' % p = det n (setR W k (fun j => (p - W k c) * W c j + W k j)) % p := det_mod fun i j hi hj => by
        by_cases h : i = k
        · subst h; rw [setR_same, h1 j (by omega), em, Int.add_comm]
        · rw [setR_ne _ _ _ h, h2 i j hi h (by omega)]
      rw [e2, a.add_row W hc hk (fun h => hkc h.symm)]
    rw [mul_mod (rfl : d % p = d % p) e1, e.dd]
  · rw [h1 c (by omega), h1c, Int.mul_one, show W k c + (p - W k c) = p by omega, Int.emod_self]
/-- R is the inverse of A. -/
structure IsInv (p : Int) (n : Nat) (A R : Mx) : Prop where
  lo : ∀ i j, i < n → j < n → 0 ≤ R i j
  hi : ∀ i j, i < n → j < n → R i j < p
  left : ∀ i j, i < n → j < n → mulM n R A i j % p = idM i j % p
theorem one_mod {p : Int} (hp : 1 < p) : (1 : Int) % p = 1 := Int.emod_eq_of_lt (by omega) hp
theorem IsInv.det {p : Int} {n : Nat} {A R : Mx} (e : IsInv p n A R) : det n R * det n A % p = 1 % p := by
  rw [← det_mul, det_mod e.left, det_id]
theorem IsInv.unit {p : Int} {n : Nat} {A R : Mx} (e : IsInv p n A R) (hp : 1 < p) : Ay.det n A % p ≠ 0 := fun h => by
  have := e.det
  rw [Int.mul_emod, h, Int.mul_zero, one_mod hp, Int.zero_emod] at this
  exact absurd this (by decide)
theorem mulM_id (n : Nat) (A : Mx) {i j : Nat} (hj : j < n) : mulM n A idM i j = A i j := by
  simp only [mulM, idM]
  rw [sm_one (t := j) hj fun k _ hne => by rw [if_neg hne, Int.mul_zero], if_pos rfl, Int.mul_one]
theorem id_mulM (n : Nat) (A : Mx) {i j : Nat} (hi : i < n) : mulM n idM A i j = A i j := by
  simp only [mulM, idM]
  rw [sm_one (t := i) hi fun k _ hne => by rw [if_neg fun h => hne h.symm, Int.zero_mul], if_pos rfl, Int.one_mul]
theorem mulM_mod {p : Int} {n : Nat} {A A' B B' : Mx} {i j : Nat} (h : ∀ k, k < n → A i k % p = A' i k % p) (h' : ∀ k, k < n → B k j % p = B' k j % p) : mulM n A B i j % p = mulM n A' B' i j % p :=
  sm_mod fun k hk => mul_mod (h k hk) (h' k hk)
/-- From the right too. -/
theorem right_of_left {p : Int} {n : Nat} {A R : Mx} (h : ∀ i j, i < n → j < n → mulM n R A i j % p = idM i j % p) {i j : Nat} (hi : i < n) (hj : j < n) : mulM n A R i j % p = idM i j % p := by
  cases n with
  | zero => omega
  | succ m =>
    have hd : det (m + 1) R * det (m + 1) A % p = 1 % p := by rw [← det_mul, det_mod h, det_id]
    -- R det A = adj A
    have e1 : ∀ i j, i < m + 1 → j < m + 1 → R i j * det (m + 1) A % p = adjM m A i j % p := fun i j hi hj => by
      have a1 : mulM (m + 1) R (mulM (m + 1) A (adjM m A)) i j = R i j * det (m + 1) A := by
        show sm (m + 1) (fun k => R i k * mulM (m + 1) A (adjM m A) k j) = _
        rw [sm_one (t := j) hj fun k hk hne => by rw [mul_adj A hk hj, if_neg hne, Int.mul_zero], mul_adj A hj hj, if_pos rfl]
      rw [← a1, ← mulM_assoc, mulM_mod (A' := idM) (B' := adjM m A) (fun k hk => h i k hi hk) (fun _ _ => rfl), id_mulM _ _ hi]
    have e2 : mulM (m + 1) A R i j % p = det (m + 1) R * (mulM (m + 1) A (adjM m A) i j) % p := by
      have : ∀ k, k < m + 1 → A i k * R k j % p = det (m + 1) R * (A i k * adjM m A k j) % p := fun k hk => by
        have h1 : A i k * R k j % p = (A i k * R k j) * (det (m + 1) R * det (m + 1) A) % p := by
          rw [mul_mod (rfl : A i k * R k j % p = A i k * R k j % p) hd, Int.mul_one]
        rw [h1, show (A i k * R k j) * (det (m + 1) R * det (m + 1) A) = (det (m + 1) R * A i k) * (R k j * det (m + 1) A) by grind, mul_mod rfl (e1 k j hk hj)]
        congr 1
        grind
      show sm (m + 1) (fun k => A i k * R k j) % p = det (m + 1) R * sm (m + 1) (fun k => A i k * adjM m A k j) % p
      rw [← sm_mul]
      exact sm_mod this
    rw [e2, mul_adj A hi hj]
    simp only [idM]
    split
    · exact hd
    · rw [Int.mul_zero]
theorem IsInv.uniq {p : Int} {n : Nat} {A R R' : Mx} (e : IsInv p n A R) (e' : IsInv p n A R') {i j : Nat} (hi : i < n) (hj : j < n) : R i j = R' i j := by
  have h1 : mulM n R (mulM n A R') i j % p = R i j % p := by
    rw [mulM_mod (A' := R) (B' := idM) (fun _ _ => rfl) (fun k hk => right_of_left e'.left hk hj), mulM_id _ _ hj]
  rw [← mulM_assoc, mulM_mod (A' := idM) (B' := R') (fun k hk => e.left i k hi hk) (fun _ _ => rfl), id_mulM _ _ hi] at h1
  rw [Int.emod_eq_of_lt (e.lo i j hi hj) (e.hi i j hi hj), Int.emod_eq_of_lt (e'.lo i j hi hj) (e'.hi i j hi hj)] at h1
  exact h1.symm
/-- All columns are done. -/
theorem Elim.done {p : Int} {n : Nat} {A : Mx} {d : Int} {W : Mx} (e : Elim p n A n d W) : IsInv p n A (fun i k => W i (n + k)) ∧ d % p = det n A % p := by
  refine ⟨⟨fun i j hi hj => e.lo i _ hi (by omega), fun i j hi hj => e.hi i _ hi (by omega), fun i j hi hj => ?_⟩, ?_⟩
  · show _ = (if i = j then (1 : Int) else 0) % p
    rw [← e.unit i j hi hj]
    exact (e.rel i j hi hj).symm
  · rw [← e.dd, det_congr (B := idM) fun i j hi hj => e.unit i j hi hj, det_id, Int.mul_one]
end Go.Ay

/- Layer 4: pivot, clear. -/
namespace Go.Proofs.Ytlhebmcnjgagjaa
open Go Go.Ay
set_option maxRecDepth 100000
/-- A slice whose capacity is known to hold it. -/
def Cap1 (w : V) : Prop := ∀ id off m c, w = .sl id off m c → c = .un 1 ∨ ∃ k, c = .kn k ∧ m ≤ k
theorem own_cap {h : H} {w : V} {l : List V} {lo : Nat} (o : Own h w 1 l lo) : Cap1 w := fun id off m c e => by
  rcases o with ⟨h1, _⟩ | ⟨id', n, cap, rest, h1, _, h2, _⟩
  · rw [h1] at e; cases e
  · rw [h1] at e; cases e
    rcases h2 with h2 | ⟨h2, _⟩
    · exact .inl h2
    · exact .inr ⟨_, h2, Nat.le_refl _⟩
theorem slc_lo {h : H} {v : V} {l : List Int} (s : SI h v l) (c : Cap1 v) {k : Nat} (hk : k < l.length) : ∃ v', slcV 1 v (some (.int .i64 (k : Int))) none none = some v' ∧ SI h v' (l.drop k) := by
  rcases s with ⟨_, h0⟩ | ⟨id, off, len, cap, ro, vs, rfl, h2, h3, h4, h5, h6⟩
  · have : (ints l).length = 0 := by rw [h0]; rfl
    rw [ints_length] at this; omega
  · rw [ints_length, Nat.mul_one] at h2
    subst h2
    have hsi : ∀ cap', SI h (.sl id (off + k) (l.length - k) cap') (l.drop k) := fun cap' => .inr ⟨id, off + k, l.length - k, cap', ro, vs, rfl, by rw [ints_length, List.length_drop, Nat.mul_one], h3, h4, by omega, by
      rw [Nat.mul_one] at h6 ⊢
      rw [← ints_drop, ← h6, List.drop_take, List.drop_drop]⟩
    rcases c id off l.length cap rfl with rfl | ⟨q, rfl, hq⟩
    · refine ⟨.sl id (off + k) (l.length - k) (.un 1), ?_, hsi _⟩
      simp only [slcV, bndV]
      rw [if_pos ⟨by omega, by omega⟩]
      simp [hk]
    · refine ⟨.sl id (off + k) (l.length - k) (.kn (q - k)), ?_, hsi _⟩
      simp only [slcV, bndV]
      rw [if_pos ⟨by omega, by omega⟩]
      simp only [Int.toNat_natCast]
      rw [if_pos (by omega), if_neg (by omega), Nat.mul_one]
/-- An elimination at work. -/
structure Wk (h : H) (W R n : Nat) (p d : Int) (ws : List V) (ll : List (List Int)) (lo : Nat) : Prop where
  gW : h.get W = some (.cells false [.int .i64 p, .int .i64 d, .sl R 0 n (.un 1)])
  gR : h.get R = some (.cells false ws)
  lw : ws.length = n
  row : All2 (SI h) ws ll
  sep : ∀ w ∈ ws, ∀ id off m c, w = .sl id off m c → id ≠ R ∧ id ≠ W
  cap : ∀ w ∈ ws, Cap1 w
  WR : W ≠ R
  frs : ∀ w ∈ ws, Frs w lo
  lt : lo ≤ h.next
  ltW : W < h.next
  ltR : R < h.next
/-- Two objects alone may have changed. -/
structure Fx2 (x y : Nat) (h h' : H) : Prop where
  next : h.next ≤ h'.next
  get : ∀ id, id < h.next → id ≠ x → id ≠ y → h'.get id = h.get id
theorem Fx2.refl (x y : Nat) (h : H) : Fx2 x y h h := ⟨Nat.le_refl _, fun _ _ _ _ => rfl⟩
theorem Fx2.of {x y : Nat} {h h' : H} (f : Fr h h') : Fx2 x y h h' := ⟨f.next, fun id hid _ _ => f.get id hid⟩
theorem Fx2.trans {x y : Nat} {a b c : H} (f : Fx2 x y a b) (g : Fx2 x y b c) : Fx2 x y a c := ⟨Nat.le_trans f.next g.next, fun id hid hx hy => (g.get id (Nat.lt_of_lt_of_le hid f.next) hx hy).trans (f.get id hid hx hy)⟩
/-- Below both, nothing has. -/
theorem Fx2.fr {x y : Nat} {a b c : H} (f : Fr a b) (hx : a.next ≤ x) (hy : a.next ≤ y) (g : Fx2 x y b c) : Fr a c := ⟨Nat.le_trans f.next g.next, fun id hid => (g.get id (Nat.lt_of_lt_of_le hid f.next) (by omega) (by omega)).trans (f.get id hid)⟩
theorem Wk.lr {h : H} {W R n : Nat} {p d : Int} {ws : List V} {ll : List (List Int)} {lo : Nat} (k : Wk h W R n p d ws ll lo) : ll.length = n := by rw [← k.row.length, k.lw]
theorem Wk.at_ {h : H} {W R n : Nat} {p d : Int} {ws : List V} {ll : List (List Int)} {lo : Nat} (k : Wk h W R n p d ws ll lo) : ∀ i, i < n → h.cell R i = some (ws.getD i .undef) := fun i hi => by
  rw [H.cell_of k.gR, List.getD_eq_getElem?_getD, List.getElem?_eq_getElem (by rw [k.lw]; exact hi)]; rfl
theorem Wk.si {h : H} {W R n : Nat} {p d : Int} {ws : List V} {ll : List (List Int)} {lo : Nat} (k : Wk h W R n p d ws ll lo) {i : Nat} (hi : i < n) : SI h (ws.getD i .undef) (ll.getD i []) := row_at k.row (by rw [k.lr]; exact hi)
theorem Wk.fr {h h' : H} {W R n : Nat} {p d : Int} {ws : List V} {ll : List (List Int)} {lo : Nat} (k : Wk h W R n p d ws ll lo) (f : Fr h h') : Wk h' W R n p d ws ll lo :=
  ⟨(f.get W k.ltW).trans k.gW, (f.get R k.ltR).trans k.gR, k.lw, k.row.mono fun _ _ s => s.mono f, k.sep, k.cap, k.WR, k.frs, Nat.le_trans k.lt f.next, Nat.lt_of_lt_of_le k.ltW f.next, Nat.lt_of_lt_of_le k.ltR f.next⟩
/-- A row that was made. -/
theorem Wk.put {h : H} {W R n : Nat} {p d : Int} {ws : List V} {ll : List (List Int)} {lo : Nat} (k : Wk h W R n p d ws ll lo) (i : Nat) {w : V} {l : List Int} (hw : SI h w l) (sw : ∀ id off m c, w = .sl id off m c → id ≠ R ∧ id ≠ W) (cw : Cap1 w) (fw : Frs w lo) : Wk (h.set R (some (.cells false (ws.set i w)))) W R n p d (ws.set i w) (ll.set i l) lo := by
  have keep : ∀ x b, (∀ id off m c, x = V.sl id off m c → id ≠ R ∧ id ≠ W) → SI h x b → SI (h.set R (some (.cells false (ws.set i w)))) x b := fun x b hx s => SI.keep s (Nat.le_refl _) fun id off m c e => H.get_set_ne h (hx _ _ _ _ e).1 _
  refine ⟨by rw [H.get_set_ne _ k.WR]; exact k.gW, H.get_set_same .., by rw [List.length_set]; exact k.lw, (All2.keep k.row fun x hx b s => keep x b (k.sep x hx) s).set i (keep w l sw hw), fun x hx => ?_, fun x hx => ?_, k.WR, fun x hx => ?_, k.lt, k.ltW, k.ltR⟩
  · rcases List.mem_or_eq_of_mem_set hx with hx | rfl
    · exact k.sep x hx
    · exact sw
  · rcases List.mem_or_eq_of_mem_set hx with hx | rfl
    · exact k.cap x hx
    · exact cw
  · rcases List.mem_or_eq_of_mem_set hx with hx | rfl
    · exact k.frs x hx
    · exact fw
end Go.Proofs.Ytlhebmcnjgagjaa

/- Layer 4: clear. -/
namespace Go.Proofs.Ytlhebmcnjgagjaa
open Go Go.Ay
set_option maxRecDepth 100000
end Go.Proofs.Ytlhebmcnjgagjaa

/- Layer 4: invert. -/
namespace Go.Proofs.Ytlhebmcnjgagjaa
open Go Go.Ay
set_option maxRecDepth 100000
theorem bls_two (h : H) {x u : V} (hx : x.cells = [x]) (hx1 : x.one = true) (hu : u.cells = [u]) (hu1 : u.one = true) : blsV h 1 [.nils] 2 [(0, 1, x), (1, 1, u)] = some (.sl h.next 0 2 (.kn 2), h.new (.cells false [x, u])) := by
  have e : zerosV [V.nils] 2 = [.nils, .nils] := rfl
  simp [blsV, fillV, e, hx, hu, hx1, hu1, putAt]
end Go.Proofs.Ytlhebmcnjgagjaa

/- Layer 4: square, Inv, Det, EqualFunc, Order. -/
namespace Go.Proofs.Ytlhebmcnjgagjaa
open Go Go.Ay
set_option maxRecDepth 100000
theorem MatO.set {h : H} {v : V} {a : Mat} {lo x : Nat} (o : MatO h v a lo) (hx : x < lo) (ob : Option Ob) : MatO (h.set x ob) v a lo := by
  obtain ⟨u, ws, e, r⟩ := o
  exact ⟨u, ws, e, r.set hx ob⟩
theorem MatO.le {h : H} {v : V} {a : Mat} {lo lo' : Nat} (o : MatO h v a lo) (hl : lo' ≤ lo) : MatO h v a lo' := by
  obtain ⟨u, ws, e, r⟩ := o
  exact ⟨u, ws, e, r.le hl⟩
theorem MatO.fr {h h' : H} {v : V} {a : Mat} {lo : Nat} (o : MatO h v a lo) (f : Fr h h') : MatO h' v a lo := by
  obtain ⟨u, ws, e, r⟩ := o
  exact ⟨u, ws, e, r.fr f⟩
end Go.Proofs.Ytlhebmcnjgagjaa

/- Layer 4: Order. -/
namespace Go.Proofs.Ytlhebmcnjgagjaa
open Go Go.Ay
set_option maxRecDepth 100000
theorem Vd.mul {a b : Mat} {ca cb : Nat} (da : Vd a ca) (db : Vd b cb) : Vd (mulF a b ca cb) cb := by
  have hp := fieldF_range da.p
  exact ⟨da.p, by rw [mulF, mkR_len]; exact da.r1, by rw [mulF, mkR_len]; exact da.r2, db.c1, db.c2, fun i hi => by
    rw [mulF, mkR_len] at hi
    simp only [mulF]
    rw [mkR_row _ hi, mkV_len], fun i k hi hk => by
    rw [mulF, mkR_len] at hi
    simp only [mulF]
    rw [mkR_ent _ hi hk]; exact (tmod_range _ (by omega)).1, fun i k hi hk => by
    rw [mulF, mkR_len] at hi
    simp only [mulF]
    rw [mkR_ent _ hi hk]; exact (tmod_range _ (by omega)).2⟩
end Go.Proofs.Ytlhebmcnjgagjaa

/- Layer 4: the laws' helpers: of, is, lives. -/
namespace Go.Proofs.Ytlhebmcnjgagjaa
open Go Go.Ay
set_option maxRecDepth 100000
theorem bls_int2 (h : H) (x y : Int) : blsV h 1 [.int .i64 0] 2 [(0, 1, .int .i64 x), (1, 1, .int .i64 y)] = some (.sl h.next 0 2 (.kn 2), h.new (.cells false (ints [x, y]))) := by
  have e : zerosV [V.int .i64 0] 2 = [.int .i64 0, .int .i64 0] := rfl
  simp [blsV, fillV, e, V.cells, V.one, putAt, ints]
theorem bls_sl2 (h : H) (a b c a' b' c' : Nat) (d' dd : Cap) : blsV h 1 [.nils] 2 [(0, 1, .sl a b c dd), (1, 1, .sl a' b' c' d')] = some (.sl h.next 0 2 (.kn 2), h.new (.cells false [.sl a b c dd, .sl a' b' c' d'])) := bls_two h rfl rfl rfl rfl
end Go.Proofs.Ytlhebmcnjgagjaa

/- Layer 4: the laws' numbers: field, drawn; boxes; valid matrices. -/
namespace Go.Proofs.Ytlhebmcnjgagjaa
open Go Go.Ay
set_option maxRecDepth 100000
theorem Own.fx {x : Nat} {h h' : H} {v : V} {sz : Nat} {ws : List V} {b : Nat} (o : Own h v sz ws b) (hx : x < b) (f : Fx x h h') : Own h' v sz ws b :=
  o.mono f.next fun id _ _ _ _ h1 h2 => f.get id h2 (by omega)
theorem Rws.fx {x : Nat} {h h' : H} {u : V} {ws : List V} {ll : List (List Int)} {lo : Nat} (r : Rws h u ws ll lo) (hx : x < lo) (f : Fx x h h') : Rws h' u ws ll lo :=
  ⟨Own.fx r.own hx f, All2.keep r.row fun w hw _ s => SI.fx s (r.frs w hw) hx f, r.dis, r.frs⟩
theorem MatO.fx {x : Nat} {h h' : H} {v : V} {a : Mat} {lo : Nat} (o : MatO h v a lo) (hx : x < lo) (f : Fx x h h') : MatO h' v a lo := by
  obtain ⟨u, ws, e, r⟩ := o
  exact ⟨u, ws, e, Rws.fx r hx f⟩
/-- Entries that are residues. -/
def InP (p : Int) (n : Nat) (A : Mx) : Prop := ∀ i k, i < n → k < n → 0 ≤ A i k ∧ A i k < p
end Go.Proofs.Ytlhebmcnjgagjaa

/- Layer 4: valid square matrices; boxes. -/
namespace Go.Proofs.Ytlhebmcnjgagjaa
open Go Go.Ay
set_option maxRecDepth 100000
/-- Valid square matrices. -/
structure Sq (p : Int) (n : Nat) : Prop where
  f : fieldF p = true
  n1 : 1 ≤ n
  n2 : n ≤ 64
theorem Sq.p {p : Int} {n : Nat} (s : Sq p n) : 2 ≤ p ∧ p < 10000 := fieldF_range s.f
theorem len0 {n : Nat} (h1 : 1 ≤ n) (A : Mx) : ((mkR n n A).getD 0 []).length = n := by rw [mkR_row _ h1, mkV_len]
theorem Sq.vd {p : Int} {n : Nat} (s : Sq p n) {A : Mx} (hA : InP p n A) : Vd (p, mkR n n A) n :=
  ⟨s.f, by simp only [mkR_len]; exact s.n1, by simp only [mkR_len]; exact s.n2, s.n1, s.n2, fun i hi => by
    simp only [mkR_len] at hi
    simp only
    rw [mkR_row _ hi, mkV_len], fun i k hi hk => by
    simp only [mkR_len] at hi
    simp only
    rw [mkR_ent _ hi hk]; exact (hA i k hi hk).1, fun i k hi hk => by
    simp only [mkR_len] at hi
    simp only
    rw [mkR_ent _ hi hk]; exact (hA i k hi hk).2⟩
theorem Sq.fit {p : Int} {n : Nat} (s : Sq p n) {A B : Mx} (hA : InP p n A) (hB : InP p n B) : fitF (p, mkR n n A) (p, mkR n n B) = 0 := by
  rw [fitF, vd_check (s.vd hA), vd_check (s.vd hB)]; simp
theorem Sq.fits {p : Int} {n : Nat} (s : Sq p n) (A : Mx) : Fit (p, mkR n n A) := by
  have := s.n2
  refine ⟨by simp only [mkR_len]; omega, fun i hi => ?_⟩
  simp only [mkR_len] at hi
  simp only
  rw [mkR_row _ hi, mkV_len]; omega
theorem Sq.la {p : Int} {n : Nat} (s : Sq p n) (A : Mx) : (((p, mkR n n A) : Mat).2.length : Int) ≤ 2 ^ 63 - 1 := by
  have := s.n2
  simp only [mkR_len]; omega
def mmP (p : Int) (n : Nat) (A B : Mx) : Mx := fun i k => mulM n A B i k % p
theorem Sq.mul {p : Int} {n : Nat} (s : Sq p n) {A B : Mx} (hA : InP p n A) (hB : InP p n B) : MulF (p, mkR n n A) (p, mkR n n B) = ((p, mkR n n (mmP p n A B)), 0) := by
  rw [MulF, s.fit hA hB, if_neg (by simp), if_neg (by simp only [mkR_len, len0 s.n1, ne_eq, not_true_eq_false, not_false_eq_true])]
  simp only [len0 s.n1, mulF, mkR_len]
  rw [mkR_congr fun i k hi hk => ?_]
  refine congrArg (· % p) (sm_congr fun j hj => ?_)
  rw [mkR_ent _ hi hj, mkR_ent _ hj hk]
theorem Sq.mm {p : Int} {n : Nat} (s : Sq p n) (A B : Mx) : InP p n (mmP p n A B) := fun i k _ _ => tmod_range _ (by have := s.p; omega)
theorem Sq.add {p : Int} {n : Nat} (s : Sq p n) {A B : Mx} (hA : InP p n A) (hB : InP p n B) : AddF (p, mkR n n A) (p, mkR n n B) = ((p, mkR n n (fun i k => (A i k + B i k) % p)), 0) := by
  rw [AddF, s.fit hA hB, if_neg (by simp), if_neg (by simp only [mkR_len, len0 s.n1, ne_eq, not_true_eq_false, or_self, not_false_eq_true])]
  simp only [len0 s.n1, mkR_len]
  rw [mkR_congr fun i k hi hk => ?_]
  rw [mkR_ent _ hi hk, mkR_ent _ hi hk, Int.one_mul]
theorem Sq.ad {p : Int} {n : Nat} (s : Sq p n) (A B : Mx) : InP p n (fun i k => (A i k + B i k) % p) := fun i k _ _ => tmod_range _ (by have := s.p; omega)
theorem Sq.turn {p : Int} {n : Nat} (s : Sq p n) {A : Mx} (hA : InP p n A) : TurnF (p, mkR n n A) = ((p, mkR n n (trM A)), 0) := by
  rw [TurnF, vd_check (s.vd hA), if_neg (by simp)]
  simp only [len0 s.n1, mkR_len]
  rw [mkR_congr fun i k hi hk => ?_]
  rw [mkR_ent _ hk hi]; rfl
theorem Sq.tr {p : Int} {n : Nat} {A : Mx} (hA : InP p n A) : InP p n (trM A) := fun i k hi hk => hA k i hk hi
theorem Sq.sc {p : Int} {n : Nat} (s : Sq p n) (k : Int) (A : Mx) : InP p n (fun i j => (k % p) * A i j % p) := fun i k _ _ => tmod_range _ (by have := s.p; omega)
theorem Sq.one {p : Int} {n : Nat} (s : Sq p n) : OneF (n : Int) p = ((p, mkR n n idM), 0) := by
  have := s.n1
  have := s.n2
  rw [OneF, if_neg (by rw [s.f]; simp), if_neg (by omega), Int.toNat_natCast]; rfl
theorem Sq.on {p : Int} {n : Nat} (s : Sq p n) : InP p n idM := fun i k _ _ => by
  have := s.p
  simp only [idM]
  split <;> omega
/-- A box with a matrix. -/
def MB (h : H) (id : Nat) (a : Mat) : Prop := ∃ u, h.get id = some (.cells false [.int .i64 a.1, u]) ∧ SR h u a.2 ∧ id < h.next
theorem MB.mono {h h' : H} {id : Nat} {a : Mat} (b : MB h id a) (f : Fr h h') : MB h' id a := by
  obtain ⟨u, h1, h2, h3⟩ := b
  exact ⟨u, (f.get id h3).trans h1, h2.mono f, Nat.lt_of_lt_of_le h3 f.next⟩
theorem MB.row {h : H} {id : Nat} {p : Int} {L : List (List Int)} (b : MB h id (p, L)) : ∃ u, h.row id 0 2 = some [.int .i64 p, u] ∧ MatV h (.agg [.int .i64 p, u]) (p, L) := by
  obtain ⟨u, h1, h2, h3⟩ := b
  exact ⟨u, row_two h1, u, rfl, h2⟩
theorem MB.new {h : H} {p : Int} {L : List (List Int)} {u : V} (s : SR h u L) : MB (bxH h p u) h.next (p, L) :=
  ⟨u, bxH_get h p u, s.mono (bxH_fr h p u), by rw [bxH_next]; omega⟩
/-! the laws -/
end Go.Proofs.Ytlhebmcnjgagjaa

/- The characteristic polynomial by leading parts (Samuelson, Berkowitz), and of a bent matrix. -/
namespace Go.Ay
/-! bent matrices -/
end Go.Ay

/- Two rows and the same two columns change places; a multiple of a row is taken off another, and of a column put on: the characteristic polynomial stays. -/
namespace Go.Ay
def sw (a b i : Nat) : Nat := if i = a then b else if i = b then a else i
theorem sw_lt {a b i n : Nat} (ha : a < n) (hb : b < n) (hi : i < n) : sw a b i < n := by unfold sw; split <;> (try split) <;> omega
theorem sw_inj {a b i j : Nat} : sw a b i = sw a b j ↔ i = j := by unfold sw; split <;> split <;> (try split) <;> (try split) <;> omega
theorem sw_left (a b : Nat) : sw a b a = b := if_pos rfl
theorem sw_right (a b : Nat) : sw a b b = a := by unfold sw; split <;> simp_all
theorem sw_other {a b i : Nat} (h1 : i ≠ a) (h2 : i ≠ b) : sw a b i = i := by unfold sw; rw [if_neg h1, if_neg h2]
theorem sw_self (a i : Nat) : sw a a i = i := by unfold sw; split <;> simp_all
theorem swp_sw (A : Mx) {a b : Nat} (h : a ≠ b) (i j : Nat) : swp A a b i j = A (sw a b i) j := by
  by_cases h1 : i = a
  · subst h1; rw [swp_left A h, sw_left]
  · by_cases h2 : i = b
    · subst h2; rw [swp_right, sw_right]
    · rw [swp_other A h1 h2, sw_other h1 h2]
theorem det_sw {n a b : Nat} (ha : a < n) (hb : b < n) (h : a ≠ b) (A : Mx) : det n (fun i j => A (sw a b i) (sw a b j)) = det n A := by
  have e1 : det n (fun i j => A (sw a b i) (sw a b j)) = - det n (fun i j => A i (sw a b j)) := by
    rw [← (det_alt n).swap ha hb h]
    exact det_congr fun i j _ _ => (swp_sw (fun i j => A i (sw a b j)) h i j).symm
  have e2 : det n (fun i j => A i (sw a b j)) = - det n A := by
    rw [← det_tr n A, ← (det_alt n).swap ha hb h, ← det_tr]
    exact det_congr fun i j _ _ => (swp_sw (trM A) h i j).symm
  rw [e1, e2]; omega
theorem chp_swap {n a b : Nat} (ha : a < n) (hb : b < n) (A : Mx) (k : Nat) (hk : k < n + 1) : chp n (fun i j => A (sw a b i) (sw a b j)) k = chp n A k := by
  by_cases h : a = b
  · subst h
    exact chp_congr (fun i j _ _ => by simp only [sw_self]) k hk
  · refine chp_uniq (fun t _ => ?_) k hk
    rw [← det_chp, ← det_sw ha hb h (chM A t)]
    exact det_congr fun i j _ _ => by simp only [chM, sw_inj]
/-- On the way to a bent matrix: the first c columns are. -/
structure Bnt (p : Int) (n : Nat) (A : Mx) (c : Nat) (B : Mx) : Prop where
  rng : ∀ i j, i < n → j < n → 0 ≤ B i j ∧ B i j < p
  low : ∀ i j, i < n → j < c → j + 1 < i → B i j = 0
  chp : ∀ q, q < n + 1 → chp n B q % p = chp n A q % p
theorem Bnt.start {p : Int} {n : Nat} {A B : Mx} (hA : ∀ i j, i < n → j < n → 0 ≤ A i j ∧ A i j < p) (e : ∀ i j, i < n → j < n → B i j = A i j) : Bnt p n A 0 B :=
  ⟨fun i j hi hj => by rw [e i j hi hj]; exact hA i j hi hj, fun i j _ hj => absurd hj (Nat.not_lt_zero j), fun q hq => by rw [chp_congr e q hq]⟩
theorem Bnt.congr {p : Int} {n c : Nat} {A B B' : Mx} (b : Bnt p n A c B) (e : ∀ i j, i < n → j < n → B' i j = B i j) (hc : c ≤ n) : Bnt p n A c B' :=
  ⟨fun i j hi hj => by rw [e i j hi hj]; exact b.rng i j hi hj, fun i j hi hj h => by rw [e i j hi (by omega)]; exact b.low i j hi hj h, fun q hq => by rw [chp_congr e q hq]; exact b.chp q hq⟩
theorem Bnt.skip {p : Int} {n c : Nat} {A B : Mx} (b : Bnt p n A c B) (h : ∀ i, c + 1 < i → i < n → B i c = 0) : Bnt p n A (c + 1) B :=
  ⟨b.rng, fun i j hi hj h1 => by
    by_cases e : j = c
    · subst e; exact h i h1 hi
    · exact b.low i j hi (by omega) h1, b.chp⟩
theorem Bnt.swap {p : Int} {n c r : Nat} {A B B' : Mx} (b : Bnt p n A c B) (hr : r < n) (hc : c + 1 < n) (hcr : c + 1 ≤ r) (e : ∀ i j, i < n → j < n → B' i j = B (sw r (c + 1) i) (sw r (c + 1) j)) : Bnt p n A c B' := by
  refine ⟨fun i j hi hj => ?_, fun i j hi hj h => ?_, fun q hq => ?_⟩
  · rw [e i j hi hj]; exact b.rng _ _ (sw_lt hr hc hi) (sw_lt hr hc hj)
  · rw [e i j hi (by omega), sw_other (show j ≠ r by omega) (show j ≠ c + 1 by omega)]
    refine b.low _ j (sw_lt hr hc hi) hj ?_
    unfold sw
    split
    · omega
    · split
      · omega
      · exact h
  · rw [chp_congr e q hq, chp_swap hr hc B q hq]; exact b.chp q hq
end Go.Ay

/- Layer 4: rows in their places. -/
namespace Go.Proofs.Ytlhebmcnjgagjaa
open Go Go.Ay
set_option maxRecDepth 100000
/-- Rows of c numbers, each in a block of its own, and the block of the rows. -/
structure Gc (h : H) (R n c : Nat) (ρ : Nat → Nat) (κ : Nat → Cap) (τ : Nat → List V) (f : Nat → Nat → Int) (lo : Nat) : Prop where
  gR : h.get R = some (.cells false ((List.range n).map fun i => V.sl (ρ i) 0 c (κ i)))
  row : ∀ i, i < n → h.get (ρ i) = some (.cells false (ints (mkV c (f i)) ++ τ i))
  inj : ∀ i j, i < n → j < n → ρ i = ρ j → i = j
  hR : lo ≤ R
  ltR : R < h.next
  hρ : ∀ i, i < n → lo ≤ ρ i
  ltρ : ∀ i, i < n → ρ i < h.next
  ne : ∀ i, i < n → ρ i ≠ R
section
variable {h h' : H} {R n c : Nat} {ρ : Nat → Nat} {κ : Nat → Cap} {τ : Nat → List V} {f : Nat → Nat → Int} {lo : Nat}
theorem Gc.fr (g : Gc h R n c ρ κ τ f lo) (F : Fr h h') : Gc h' R n c ρ κ τ f lo :=
  ⟨(F.get R g.ltR).trans g.gR, fun i hi => (F.get _ (g.ltρ i hi)).trans (g.row i hi), g.inj, g.hR, Nat.lt_of_lt_of_le g.ltR F.next, g.hρ, fun i hi => Nat.lt_of_lt_of_le (g.ltρ i hi) F.next, g.ne⟩
theorem Gc.congr {f' : Nat → Nat → Int} (g : Gc h R n c ρ κ τ f lo) (e : ∀ i k, i < n → k < c → f i k = f' i k) : Gc h R n c ρ κ τ f' lo :=
  ⟨g.gR, fun i hi => by rw [g.row i hi, mkV_congr fun k hk => e i k hi hk], g.inj, g.hR, g.ltR, g.hρ, g.ltρ, g.ne⟩
theorem Gc.cR (g : Gc h R n c ρ κ τ f lo) : ∀ i, i < n → h.cell R i = some (.sl (ρ i) 0 c (κ i)) := fun i hi => by
  rw [H.cell_of g.gR, List.getElem?_map, List.getElem?_range hi]; rfl
theorem Gc.si (g : Gc h R n c ρ κ τ f lo) {i : Nat} (hi : i < n) : SI h (.sl (ρ i) 0 c (κ i)) (mkV c (f i)) :=
  .inr ⟨ρ i, 0, c, κ i, false, _, rfl, by rw [ints_length, mkV_len, Nat.mul_one], g.ltρ i hi, g.row i hi, by rw [List.length_append, ints_length, mkV_len]; omega, by
    rw [List.drop_zero, Nat.mul_one, List.take_append_of_le_length (by rw [ints_length, mkV_len]; omega), List.take_of_length_le (by rw [ints_length, mkV_len]; omega)]⟩
theorem Gc.put (g : Gc h R n c ρ κ τ f lo) {i k : Nat} (hi : i < n) (hk : k < c) (x : Int) :
    putO (h.get (ρ i)) h (ρ i) k [.int .i64 x] = some (h.set (ρ i) (some (.cells false (ints (mkV c (upF f i k x i)) ++ τ i)))) ∧ Gc (h.set (ρ i) (some (.cells false (ints (mkV c (upF f i k x i)) ++ τ i)))) R n c ρ κ τ (upF f i k x) lo := by
  have e : (mkV c (f i)).set k x = mkV c (upF f i k x i) := by
    rw [mkV_set]
    exact mkV_congr fun j _ => by
      simp only [upF, true_and]
  refine ⟨by rw [g.row i hi, putO_one (by rw [List.length_append, ints_length, mkV_len]; omega), List.set_append_left _ _ (by rw [ints_length, mkV_len]; exact hk), ints_set, e], ⟨?_, fun j hj => ?_, g.inj, g.hR, g.ltR, g.hρ, g.ltρ, g.ne⟩⟩
  · rw [H.get_set_ne _ (fun e => g.ne i hi e.symm)]; exact g.gR
  · by_cases e : j = i
    · subst e; rw [H.get_set_same]
    · rw [H.get_set_ne _ fun h => e (g.inj j i hj hi h), g.row j hj, mkV_congr fun b _ => ?_]
      simp only [upF]
      rw [if_neg fun h => e h.1]
theorem Gc.sr (g : Gc h R n c ρ κ τ f lo) (cap : Cap) : SR h (.sl R 0 n cap) (mkR n c f) := by
  refine ⟨(List.range n).map fun i => V.sl (ρ i) 0 c (κ i), ?_, All2.of_get (by simp [mkR]) fun i h1 h2 => ?_⟩
  · exact SV.all (by simp) g.ltR g.gR cap
  · simp only [List.length_map, List.length_range] at h1
    simp only [List.getElem_map, List.getElem_range, mkR]
    exact g.si h1
/-- Two rows change places. -/
theorem Gc.swap (g : Gc h R n c ρ κ τ f lo) {a b : Nat} (ha : a < n) (hb : b < n) :
    Gc (h.set R (some (.cells false ((((List.range n).map fun i => V.sl (ρ i) 0 c (κ i)).set a (.sl (ρ b) 0 c (κ b))).set b (.sl (ρ a) 0 c (κ a)))))) R n c (fun i => ρ (sw a b i)) (fun i => κ (sw a b i)) (fun i => τ (sw a b i)) (fun i k => f (sw a b i) k) lo := by
  have el : (((List.range n).map fun i => V.sl (ρ i) 0 c (κ i)).set a (.sl (ρ b) 0 c (κ b))).set b (.sl (ρ a) 0 c (κ a)) = (List.range n).map fun i => V.sl (ρ (sw a b i)) 0 c (κ (sw a b i)) := by
    refine List.ext_getElem (by simp) fun i h1 h2 => ?_
    rw [List.getElem_set, List.getElem_set, List.getElem_map, List.getElem_map, List.getElem_range]
    by_cases e1 : b = i
    · subst e1; rw [if_pos rfl, sw_right]
    · rw [if_neg e1]
      by_cases e2 : a = i
      · subst e2; rw [if_pos rfl, sw_left]
      · rw [if_neg e2, sw_other (Ne.symm e2) (Ne.symm e1)]
  rw [el]
  refine ⟨H.get_set_same .., fun i hi => ?_, fun i j hi hj e => ?_, g.hR, g.ltR, fun i hi => g.hρ _ (sw_lt ha hb hi), fun i hi => g.ltρ _ (sw_lt ha hb hi), fun i hi => g.ne _ (sw_lt ha hb hi)⟩
  · rw [H.get_set_ne _ (g.ne _ (sw_lt ha hb hi))]
    exact g.row _ (sw_lt ha hb hi)
  · exact sw_inj.1 (g.inj _ _ (sw_lt ha hb hi) (sw_lt ha hb hj) e)
theorem Gc.same (g : Gc h R n c ρ κ τ f lo) (e : ∀ id, h'.get id = h.get id) (en : h'.next = h.next) : Gc h' R n c ρ κ τ f lo :=
  ⟨(e R).trans g.gR, fun i hi => (e _).trans (g.row i hi), g.inj, g.hR, by rw [en]; exact g.ltR, g.hρ, fun i hi => by rw [en]; exact g.ltρ i hi, g.ne⟩
def upN {α : Type} (ρ : Nat → α) (i : Nat) (x : α) : Nat → α := fun j => if j = i then x else ρ j
theorem own_open {w : V} {l : List Int} {b : Nat} (o : Own h w 1 (ints l) b) (hl : 0 < l.length) : ∃ id cap rest, w = .sl id 0 l.length cap ∧ b ≤ id ∧ id < h.next ∧ h.get id = some (.cells false (ints l ++ rest)) := by
  rcases o with ⟨_, h0⟩ | ⟨id, m, cap, rest, h1, h2, _, h3, h4, h5⟩
  · have : (ints l).length = 0 := by rw [h0]; rfl
    rw [ints_length] at this; omega
  · rw [ints_length, Nat.mul_one] at h2
    subst h2
    exact ⟨id, cap, rest, h1, h3, h4, h5⟩
/-- A new row takes a place. -/
theorem Gc.rowset (g : Gc h R n c ρ κ τ f lo) (F : Fr h h') {i : Nat} (hi : i < n) {u : Nat → Int} {id : Nat} {cap : Cap} {rest : List V} (h1 : h.next ≤ id) (h2 : id < h'.next) (h3 : h'.get id = some (.cells false (ints (mkV c u) ++ rest))) :
    Gc (h'.set R (some (.cells false (((List.range n).map fun i => V.sl (ρ i) 0 c (κ i)).set i (.sl id 0 c cap))))) R n c (upN ρ i id) (upN κ i cap) (upN τ i rest) (fun a k => if a = i then u k else f a k) lo := by
  have g' := g.fr F
  have lR := g.ltR
  have el : ((List.range n).map fun i => V.sl (ρ i) 0 c (κ i)).set i (.sl id 0 c cap) = (List.range n).map fun j => V.sl (upN ρ i id j) 0 c (upN κ i cap j) := by
    refine List.ext_getElem (by simp) fun j _ _ => ?_
    rw [List.getElem_set, List.getElem_map, List.getElem_map, List.getElem_range]
    simp only [upN]
    by_cases e : i = j
    · subst e; simp
    · rw [if_neg e, if_neg (Ne.symm e), if_neg (Ne.symm e)]
  rw [el]
  have hne : id ≠ R := by omega
  refine ⟨H.get_set_same .., fun j hj => ?_, fun a b ha hb e => ?_, g.hR, g'.ltR, fun j hj => ?_, fun j hj => ?_, fun j hj => ?_⟩
  · simp only [upN]
    by_cases e : j = i
    · subst e
      simp only [if_true]
      rw [H.get_set_ne _ hne]; exact h3
    · simp only [if_neg e]
      rw [H.get_set_ne _ (g.ne j hj)]; exact g'.row j hj
  · simp only [upN] at e
    have la := g.ltρ a ha
    have lb := g.ltρ b hb
    by_cases e1 : a = i
    · by_cases e2 : b = i
      · omega
      · rw [if_pos e1, if_neg e2] at e; omega
    · by_cases e2 : b = i
      · rw [if_neg e1, if_pos e2] at e; omega
      · rw [if_neg e1, if_neg e2] at e
        exact g.inj a b ha hb e
  · simp only [upN]
    split
    · exact Nat.le_trans (Nat.le_trans g.hR (Nat.le_of_lt lR)) h1
    · exact g.hρ j hj
  · simp only [upN]
    split
    · exact h2
    · exact g'.ltρ j hj
  · simp only [upN]
    split
    · exact hne
    · exact g.ne j hj
end
end Go.Proofs.Ytlhebmcnjgagjaa

/- Layer 4: bent. -/
namespace Go.Proofs.Ytlhebmcnjgagjaa
open Go Go.Ay
set_option maxRecDepth 100000
/-- The first i rows are laid. -/
structure Gp (h : H) (R n c i : Nat) (ρ : Nat → Nat) (f : Nat → Nat → Int) (lo : Nat) : Prop where
  gR : h.get R = some (.cells false ((List.range n).map fun j => if j < i then V.sl (ρ j) 0 c (.un 1) else .nils))
  row : ∀ j, j < i → h.get (ρ j) = some (.cells false (ints (mkV c (f j))))
  inj : ∀ a b, a < i → b < i → ρ a = ρ b → a = b
  hR : lo ≤ R
  ltR : R < h.next
  hρ : ∀ j, j < i → R < ρ j
  ltρ : ∀ j, j < i → ρ j < h.next
theorem Gp.zero {h : H} {R n c : Nat} {f : Nat → Nat → Int} {lo : Nat} (g : h.get R = some (.cells false (List.replicate n .nils))) (h1 : lo ≤ R) (h2 : R < h.next) : Gp h R n c 0 (fun _ => 0) f lo :=
  ⟨by rw [g]; congr 2; refine List.ext_getElem (by simp) fun i _ _ => ?_; simp, fun j hj => absurd hj (Nat.not_lt_zero j), fun a b ha => absurd ha (Nat.not_lt_zero a), h1, h2, fun j hj => absurd hj (Nat.not_lt_zero j), fun j hj => absurd hj (Nat.not_lt_zero j)⟩
theorem Gp.step {h h' : H} {R n c i : Nat} {ρ : Nat → Nat} {f : Nat → Nat → Int} {lo : Nat} (g : Gp h R n c i ρ f lo) (hi : i < n) (F : Fr h h') {id : Nat} (h1 : h.next ≤ id) (h2 : id < h'.next) (h3 : h'.get id = some (.cells false (ints (mkV c (f i))))) :
    putO (h'.get R) h' R i [.sl id 0 c (.un 1)] = some (h'.set R (some (.cells false (((List.range n).map fun j => if j < i then V.sl (ρ j) 0 c (.un 1) else .nils).set i (.sl id 0 c (.un 1)))))) ∧
    Gp (h'.set R (some (.cells false (((List.range n).map fun j => if j < i then V.sl (ρ j) 0 c (.un 1) else .nils).set i (.sl id 0 c (.un 1)))))) R n c (i + 1) (upN ρ i id) f lo := by
  have lR := g.ltR
  have gR' := (F.get R lR).trans g.gR
  refine ⟨by rw [gR', putO_one (by simpa using hi)], ?_⟩
  have el : ((List.range n).map fun j => if j < i then V.sl (ρ j) 0 c (.un 1) else .nils).set i (.sl id 0 c (.un 1)) = (List.range n).map fun j => if j < i + 1 then V.sl (upN ρ i id j) 0 c (.un 1) else .nils := by
    refine List.ext_getElem (by simp) fun j _ _ => ?_
    rw [List.getElem_set, List.getElem_map, List.getElem_map, List.getElem_range]
    simp only [upN]
    by_cases e : i = j
    · subst e; simp
    · rw [if_neg e, if_neg (Ne.symm e)]
      by_cases e2 : j < i
      · rw [if_pos e2, if_pos (by omega)]
      · rw [if_neg e2, if_neg (by omega)]
  rw [el]
  have hne : id ≠ R := by omega
  refine ⟨H.get_set_same .., fun j hj => ?_, fun a b ha hb e => ?_, g.hR, Nat.lt_of_lt_of_le lR F.next, fun j hj => ?_, fun j hj => ?_⟩
  · simp only [upN]
    by_cases e : j = i
    · subst e; rw [if_pos rfl, H.get_set_ne _ hne]; exact h3
    · have := g.hρ j (by omega)
      rw [if_neg e, H.get_set_ne _ (by omega)]
      exact (F.get _ (g.ltρ j (by omega))).trans (g.row j (by omega))
  · simp only [upN] at e
    by_cases e1 : a = i
    · by_cases e2 : b = i
      · omega
      · have := g.ltρ b (by omega)
        rw [if_pos e1, if_neg e2] at e; omega
    · have := g.ltρ a (by omega)
      by_cases e2 : b = i
      · rw [if_neg e1, if_pos e2] at e; omega
      · rw [if_neg e1, if_neg e2] at e
        exact g.inj a b (by omega) (by omega) e
  · simp only [upN]
    split
    · omega
    · exact g.hρ j (by omega)
  · simp only [upN]
    split
    · exact h2
    · exact Nat.lt_of_lt_of_le (g.ltρ j (by omega)) F.next
theorem Gp.done {h : H} {R n c : Nat} {ρ : Nat → Nat} {f : Nat → Nat → Int} {lo : Nat} (g : Gp h R n c n ρ f lo) : Gc h R n c ρ (fun _ => .un 1) (fun _ => []) f lo := by
  refine ⟨?_, fun i hi => by rw [List.append_nil]; exact g.row i hi, g.inj, g.hR, g.ltR, fun i hi => Nat.le_trans g.hR (Nat.le_of_lt (g.hρ i hi)), g.ltρ, fun i hi => by have := g.hρ i hi; omega⟩
  rw [g.gR]
  congr 2
  refine List.ext_getElem (by simp) fun j h1 _ => ?_
  simp only [List.length_map, List.length_range] at h1
  rw [List.getElem_map, List.getElem_map, List.getElem_range, if_pos h1]
end Go.Proofs.Ytlhebmcnjgagjaa

/- Layer 4: Poly. -/
namespace Go.Proofs.Ytlhebmcnjgagjaa
open Go Go.Ay
set_option maxRecDepth 100000
theorem bls_row (h : H) {v : V} (hv : v.cells = [v]) (hv1 : v.one = true) : blsV h 1 [.nils] 1 [(0, 1, v)] = some (.sl h.next 0 1 (.kn 1), h.new (.cells false [v])) := by
  have e : zerosV [V.nils] 1 = [.nils] := rfl
  simp [blsV, fillV, e, hv, hv1, putAt]
end Go.Proofs.Ytlhebmcnjgagjaa

/- Layer 4: Trace. -/
namespace Go.Proofs.Ytlhebmcnjgagjaa
open Go Go.Ay
set_option maxRecDepth 100000
end Go.Proofs.Ytlhebmcnjgagjaa

/- Layer 4: the reference's square, Trace. -/
namespace Go.Proofs.Ytlhebmcnjgagjaa
open Go Go.Ay
set_option maxRecDepth 100000
end Go.Proofs.Ytlhebmcnjgagjaa

/- Layer 4: the reference's inverse of a number. -/
namespace Go.Proofs.Ytlhebmcnjgagjaa
open Go Go.Ay
set_option maxRecDepth 100000
set_option maxHeartbeats 4000000 in
theorem ref_power_ok (x : Int) (n : Nat) (p : Int) (h : H) (hx : 0 ≤ x ∧ x < p) (hp1 : 1 < p) (hp2 : p < 10000) (hn : n < 1000000) :
    Ev T n_ref03_power [.int .i64 x, .int .i64 (n : Int), .int .i64 p] h (fun v h' => ∃ r, v = .int .i64 r ∧ 0 ≤ r ∧ r < p ∧ r % p = x ^ n % p ∧ h' = h) := by
  refine Ev_of t_ref03_power rfl ?_
  have e1 : (1 : Int).tmod p = 1 := by rw [nonneg_tmod (by omega)]; exact Int.emod_eq_of_lt (by omega) hp1
  simp (disch := first | omega | (simp only [Qn] <;> omega)) only [go_sem, c_ref03_power, initV_eq, e1]
  refine Wp_loop (fun k' vars h3 => ∃ (m : Nat) (y w : Int), (∃ g : Nat → V, vars = [.int .i64 y, .int .i64 (m : Int), .int .i64 p, g 3, .int .i64 w, g 5, g 6]) ∧ (0 ≤ y ∧ y < p) ∧ (0 ≤ w ∧ w < p) ∧ w * y ^ m % p = x ^ n % p ∧ m < 1000000 ∧ h3 = h ∧ k' = m) n
    ⟨n, x, 1, ex_junk rfl, hx, by omega, by rw [Int.one_mul], hn, rfl, rfl⟩ ?_
  rintro k' vars h3 ⟨m, y, w, ⟨g, rfl⟩, hy, hw, he, hm, rfl, rfl⟩
  simp (disch := first | omega | (simp only [Qn] <;> omega)) only [go_sem]
  by_cases h0 : 0 < (k' : Int)
  · rw [decide_eq_true h0]
    have em : (k' : Int).tmod 2 = ((k' % 2 : Nat) : Int) := tmod_nat k' 2
    have eq : (k' : Int).tdiv 2 = ((k' / 2 : Nat) : Int) := rfl
    have hyy := tmod_range (y * y) (show 0 < p by omega)
    have emm : ∀ a : Int, a % p % p = a % p := fun a => Int.emod_emod_of_dvd _ (Int.dvd_refl p)
    have m1 := mul_bound hw.1 hw.2 hy.1 hy.2 hp2
    have m2 := mul_bound hy.1 hy.2 hy.1 hy.2 hp2
    have em1 := nonneg_tmod (p := p) m1.1
    have em2 := nonneg_tmod (p := p) m2.1
    simp (disch := first | omega | (simp only [Qn] <;> omega)) only [go_sem, em]
    refine iteW_dec (fun h1 => ?_) (fun h1 => ?_)
    · simp (disch := first | omega | (simp only [Qn] <;> omega)) only [go_sem, em1, em2, eq]
      refine ⟨k' / 2, by omega, k' / 2, _, _, ex_junk rfl, hyy, tmod_range _ (by omega), ?_, by omega, rfl⟩
      rw [mul_mod (emm (w * y)) (pow_mod (emm (y * y)) (k' / 2)), ← he]
      congr 1
      have e2 : k' = 2 * (k' / 2) + 1 := by omega
      generalize k' / 2 = q at *
      subst e2
      rw [Int.pow_succ, Int.pow_mul, show y ^ 2 = y * y by rw [Int.pow_succ, Int.pow_succ, Int.pow_zero, Int.one_mul]]
      grind
    · simp (disch := first | omega | (simp only [Qn] <;> omega)) only [go_sem, em2, eq]
      refine ⟨k' / 2, by omega, k' / 2, _, _, ex_junk rfl, hyy, hw, ?_, by omega, rfl⟩
      rw [mul_mod (rfl : w % p = w % p) (pow_mod (emm (y * y)) (k' / 2)), ← he]
      congr 1
      have e2 : k' = 2 * (k' / 2) := by omega
      generalize k' / 2 = q at *
      subst e2
      rw [Int.pow_mul, show y ^ 2 = y * y by rw [Int.pow_succ, Int.pow_succ, Int.pow_zero, Int.one_mul]]
  · rw [decide_eq_false h0]
    obtain rfl : k' = 0 := by omega
    simp (disch := first | omega | (simp only [Qn] <;> omega)) only [go_sem]
    exact ⟨w, rfl, hw.1, hw.2, by rw [← he, Int.pow_zero, Int.mul_one], trivial⟩
theorem ref_mod_ok (a p : Int) (h : H) (hp : isP p = true) (hp2 : p < 10000) (ha : 0 < a ∧ a < p) : Ev T n_ref03_Mod [.int .i64 a, .int .i64 p] h (fun v h' => v = .tup [.int .i64 a, .int .i64 0] ∧ h' = h) := by
  refine Ev_of t_ref03_Mod rfl ?_
  simp (disch := first | omega | (simp only [Qn] <;> omega)) only [go_sem, c_ref03_Mod, initV_eq]
  refine (ref_is_prime_ok p h).mono ?_
  rintro v h' ⟨rfl, rfl⟩
  simp (disch := first | omega | (simp only [Qn] <;> omega)) only [go_sem, hp]
  refine (pick_ok a p _ (by omega) (by omega)).mono ?_
  rintro v h' ⟨rfl, rfl⟩
  rw [Int.emod_eq_of_lt (by omega) ha.2]
  simp (disch := first | omega | (simp only [Qn] <;> omega)) only [go_sem]
theorem ref_residue_ok (a p : Int) (h : H) (hp : isP p = true) (hp2 : p < 10000) (ha : 0 < a ∧ a < p) : Ev T n_ref03_residue [.int .i64 a, .int .i64 p] h (fun v h' => v = .tup [.int .i64 a, .int .i64 0] ∧ h' = h) := by
  refine Ev_of t_ref03_residue rfl ?_
  simp (disch := first | omega | (simp only [Qn] <;> omega)) only [go_sem, c_ref03_residue, initV_eq]
  refine (ref_mod_ok a p h hp hp2 ha).mono ?_
  rintro v h' ⟨rfl, rfl⟩
  have e0 : decide (a = 0) = false := decide_eq_false (by omega)
  have d0 : decide ((0 : Int) = 0) = true := by decide
  simp (disch := first | omega | (simp only [Qn] <;> omega)) only [go_sem, e0, d0, decide_true]
theorem ref_inv_ok (a p : Int) (h : H) (hp : isP p = true) (hp2 : p < 10000) (ha : 0 < a ∧ a < p) : Ev T n_ref03_Inv [.int .i64 a, .int .i64 p] h (fun v h' => ∃ r, v = .tup [.int .i64 r, .int .i64 0] ∧ 0 ≤ r ∧ r < p ∧ r * a % p = 1 ∧ h' = h) := by
  refine Ev_of t_ref03_Inv rfl ?_
  have hr := isP_pr hp
  have h2 := hr.two
  simp (disch := first | omega | (simp only [Qn] <;> omega)) only [go_sem, c_ref03_Inv, initV_eq]
  refine (ref_residue_ok a p h hp hp2 ha).mono ?_
  rintro v h' ⟨rfl, rfl⟩
  have d0 : decide ((0 : Int) ≠ 0) = false := by decide
  simp (disch := first | omega | (simp only [Qn] <;> omega)) only [go_sem, d0]
  rw [show p - 2 = ((p.toNat - 2 : Nat) : Int) by omega]
  refine (ref_power_ok a (p.toNat - 2) p h' (by omega) (by omega) hp2 (by omega)).mono ?_
  rintro v h1 ⟨r, rfl, h3, h4, h5, rfl⟩
  simp (disch := first | omega | (simp only [Qn] <;> omega)) only [go_sem]
  refine ⟨r, rfl, h3, h4, ?_, trivial⟩
  have f := fermat hr (a := a) ha.1 (by omega)
  rw [show (p.toNat : Int) = p by omega] at f
  rw [mul_mod h5 (rfl : a % p = a % p), Int.mul_comm]
  exact f
end Go.Proofs.Ytlhebmcnjgagjaa

/- Layer 5: adding a multiple of a row, residues, the iterator over pivots. -/
namespace Go.Proofs.Ytlhebmcnjgagjaa
open Go Go.Ay
set_option maxRecDepth 100000
/-- A block of numbers, with more behind it. -/
def Bt (h : H) (id n : Nat) (f : Nat → Int) (τ : List V) : Prop := h.get id = some (.cells false (ints (mkV n f) ++ τ))
section
variable {h h' : H} {id n : Nat} {f : Nat → Int} {τ : List V}
theorem Bt.cell (b : Bt h id n f τ) {i : Nat} (hi : i < n) : h.cell id i = some (.int .i64 (f i)) := by
  rw [H.cell_of b, List.getElem?_append_left (by rw [ints_length, mkV_len]; exact hi), ints_getD (by rw [mkV_len]; exact hi), mkV_get _ hi]
theorem Bt.put (b : Bt h id n f τ) {i : Nat} (hi : i < n) (hh : H) (x : Int) : putO (h.get id) hh id i [.int .i64 x] = some (hh.set id (some (.cells false (ints (mkV n fun j => if j = i then x else f j) ++ τ)))) := by
  rw [b, putO_one (by rw [List.length_append, ints_length, mkV_len]; omega), List.set_append_left _ _ (by rw [ints_length, mkV_len]; exact hi), ints_set, mkV_set]
theorem Bt.si (b : Bt h id n f τ) (hl : id < h.next) (cap : Cap) : SI h (.sl id 0 n cap) (mkV n f) :=
  .inr ⟨id, 0, n, cap, false, _, rfl, by rw [ints_length, mkV_len, Nat.mul_one], hl, b, by rw [List.length_append, ints_length, mkV_len]; omega, by
    rw [List.drop_zero, Nat.mul_one, List.take_append_of_le_length (by rw [ints_length, mkV_len]; omega), List.take_of_length_le (by rw [ints_length, mkV_len]; omega)]⟩
theorem Bt.set (h : H) (id n : Nat) (f : Nat → Int) (τ : List V) : Bt (h.set id (some (.cells false (ints (mkV n f) ++ τ)))) id n f τ := H.get_set_same ..
theorem Bt.ne (b : Bt h id n f τ) {x : Nat} (hx : id ≠ x) (o : Option Ob) : Bt (h.set x o) id n f τ := by
  rw [Bt, H.get_set_ne _ hx]; exact b
theorem Bt.fr (b : Bt h id n f τ) (F : Fr h h') (hl : id < h.next) : Bt h' id n f τ := (F.get id hl).trans b
theorem Bt.congr (b : Bt h id n f τ) {g : Nat → Int} (e : ∀ i, i < n → f i = g i) : Bt h id n g τ := by
  rw [Bt, ← mkV_congr e]; exact b
theorem Bt.fx (b : Bt h id n f τ) {x : Nat} (F : Fx x h h') (hl : id < h.next) (hx : id ≠ x) : Bt h' id n f τ := (F.get id hl hx).trans b
end
/-- A block of numbers. -/
def Bk (h : H) (id n : Nat) (f : Nat → Int) : Prop := h.get id = some (.cells false (ints (mkV n f)))
section
variable {h h' : H} {id n : Nat} {f : Nat → Int}
theorem Bk.bt (b : Bk h id n f) : Bt h id n f [] := by rw [Bt, List.append_nil]; exact b
theorem Bt.bk (b : Bt h id n f []) : Bk h id n f := by rw [Bt, List.append_nil] at b; exact b
theorem Bk.cell (b : Bk h id n f) {i : Nat} (hi : i < n) : h.cell id i = some (.int .i64 (f i)) := by
  rw [H.cell_of b, ints_getD (by rw [mkV_len]; exact hi), mkV_get _ hi]
theorem Bk.put (b : Bk h id n f) {i : Nat} (hi : i < n) (hh : H) (x : Int) : putO (h.get id) hh id i [.int .i64 x] = some (hh.set id (some (.cells false (ints (mkV n fun j => if j = i then x else f j))))) := by
  rw [b, putO_one (by rw [ints_length, mkV_len]; exact hi), ints_set, mkV_set]
theorem Bk.si (b : Bk h id n f) (hl : id < h.next) (cap : Cap) : SI h (.sl id 0 n cap) (mkV n f) :=
  SV.all (by rw [ints_length, mkV_len]; omega) hl b cap
theorem Bk.set (h : H) (id n : Nat) (f : Nat → Int) : Bk (h.set id (some (.cells false (ints (mkV n f))))) id n f := H.get_set_same ..
theorem Bk.ne (b : Bk h id n f) {x : Nat} (hx : id ≠ x) (o : Option Ob) : Bk (h.set x o) id n f := by
  rw [Bk, H.get_set_ne _ hx]; exact b
theorem Bk.fr (b : Bk h id n f) (F : Fr h h') (hl : id < h.next) : Bk h' id n f := (F.get id hl).trans b
theorem Bk.congr (b : Bk h id n f) {g : Nat → Int} (e : ∀ i, i < n → f i = g i) : Bk h id n g := by
  rw [Bk, ← mkV_congr e]; exact b
end
theorem mks_ints (hh : H) (c : Nat) (hc : c ≤ 1000) : mksV hh 1 8 [.int .i64 0] (.int .i64 (c : Int)) (.int .i64 (c : Int)) = some (.sl hh.next 0 c (.kn c), hh.new (.cells false (ints (mkV c fun _ => 0)))) := by
  rw [mksV_int (by omega) (Int.le_refl _) (by omega) (by omega), Int.toNat_natCast, Nat.mul_one, zeros_int, show List.replicate c (0 : Int) = mkV c (fun _ => 0) from mkV_eq (List.length_replicate ..) fun j hj => by rw [List.getD_eq_getElem?_getD, List.getElem?_replicate, if_pos hj]; rfl]
set_option maxHeartbeats 8000000 in
theorem add_ok (p x : Int) (a W L idw offw : Nat) (cap : Cap) (w : V) (f g : Nat → Int) (τ : List V) (h : H) (hv : Bt h a W f τ) (ha : a < h.next) (hw : Sl w 1 L idw offw) (hid : 0 < L → idw < h.next) (hc : ∀ i, i < L → h.cell idw (offw + i) = some (.int .i64 (g i))) (hne : idw ≠ a ∨ offw = 0) (hL : L ≤ W) (hL2 : L < 1000000)
    (hp : 0 < p ∧ p < 10000) (hx : 0 ≤ x ∧ x < 30000) (hf : ∀ i, i < L → 0 ≤ f i ∧ f i < 10000) (hg : ∀ i, i < L → 0 ≤ g i ∧ g i < 10000) :
    Ev T n_linear_field_add [.agg [.int .i64 p], .sl a 0 W cap, w, .int .i64 x] h (fun _ h' => Bt h' a W (fun i => if i < L then (f i + x * g i) % p else f i) τ ∧ Fx a h h') := by
  refine Ev_of t_linear_field_add rfl ?_
  have hbo : ∀ hh, boxV hh (.agg [.int .i64 p]) = some (.ptr hh.next 0, hh.new (.cells false [.int .i64 p])) := fun hh => by simp [boxV, V.cells, V.one]
  simp (disch := first | omega | (simp only [Qn] <;> omega)) only [go_sem, c_linear_field_add, initV_eq, hbo, hw.lens]
  have hf1 : Fr h (h.new (.cells false [.int .i64 p])) := (Fr.refl h).new _
  have hg1 : (h.new (.cells false [.int .i64 p])).get h.next = some (.cells false [.int .i64 p]) := H.get_new_same ..
  have hn1 : (h.new (.cells false [.int .i64 p])).next = h.next + 1 := H.next_new ..
  generalize h.new (.cells false [.int .i64 p]) = hx1 at *
  obtain ⟨X, hX⟩ : ∃ X, h.next = X := ⟨_, rfl⟩
  rw [hX] at hg1
  rw [hX]
  have fx1 : Fx a h hx1 := Fx.of hf1
  refine Wp_loop (fun k' vars hh => ∃ (i : Nat), (∃ j : Nat → V, vars = [j 0, .sl a 0 W cap, j 2, .int .i64 x, .ptr X 0, j 5, j 6, w, .int .i64 (L : Int), .int .i64 (i : Int), j 10]) ∧ i ≤ L ∧ Bt hh a W (fun j => if j < i then (f j + x * g j) % p else f j) τ ∧ hh.get X = some (.cells false [.int .i64 p]) ∧ Fx a h hh ∧ k' = L - i) L
    ⟨0, ex_junk rfl, Nat.zero_le _, (hv.fr hf1 ha).congr fun i _ => (if_neg (Nat.not_lt_zero i)).symm, hg1, fx1, rfl⟩ ?_
  clear hg1 fx1
  rintro k' vars hh ⟨i, ⟨jk, rfl⟩, hi, b, gX, F, rfl⟩
  simp (disch := first | omega | (simp only [Qn] <;> omega)) only [go_sem]
  by_cases hlt : (i : Int) < (L : Int)
  · rw [decide_eq_true hlt]
    have hi' : i < L := by omega
    have cw : hh.cell idw (offw + i) = some (.int .i64 (g i)) := by
      by_cases e : idw = a
      · have o0 : offw = 0 := by
          rcases hne with h1 | h1
          · exact absurd e h1
          · exact h1
        have c0 := hc i hi'
        subst e
        rw [o0, Nat.zero_add] at c0 ⊢
        rw [hv.cell (by omega)] at c0
        rw [b.cell (by omega), if_neg (Nat.lt_irrefl i)]
        exact c0
      · have := F.get idw (hid (by omega)) e
        unfold H.cell at *
        rw [this]; exact hc i hi'
    have cX : hh.cell X 0 = some (.int .i64 p) := by rw [H.cell_of gX]; rfl
    have ca := b.cell (i := i) (by omega)
    rw [if_neg (Nat.lt_irrefl i)] at ca
    have rf := hf i hi'
    have rg := hg i hi'
    have b1 := Int.mul_nonneg hx.1 rg.1
    have b2 := Int.mul_le_mul (show x ≤ 30000 by omega) (show g i ≤ 10000 by omega) rg.1 (by omega)
    have em := nonneg_tmod (a := f i + x * g i) (p := p) (by omega)
    have pt := b.put (i := i) (by omega) (H.mk hh.tr (hh.next + 15)) ((f i + x * g i) % p)
    simp (disch := first | omega | (simp only [Qn] <;> omega)) only [go_sem, hw.ixa, cw, cX, ca, em, pt]
    rw [show (i : Int) + 1 = ((i + 1 : Nat) : Int) from by omega]
    refine ⟨L - (i + 1), by omega, i + 1, ex_junk rfl, by omega, (Bt.set ..).congr fun j hj => ?_, ?_, ⟨by show h.next ≤ hh.next + 15; have := F.next; omega, fun id hid hne => by rw [H.get_set_ne _ hne]; exact F.get id hid hne⟩, rfl⟩
    · by_cases e : j = i
      · rw [if_pos e, if_pos (by omega), e]
      · rw [if_neg e]
        by_cases e2 : j < i
        · rw [if_pos e2, if_pos (by omega)]
        · rw [if_neg e2, if_neg (by omega)]
    · first | exact gX | (rw [H.get_set_ne _ (by omega)]; exact gX)
  rw [decide_eq_false hlt]
  obtain rfl : L = i := by omega
  simp (disch := first | omega | (simp only [Qn] <;> omega)) only [go_sem]
  exact ⟨b, F⟩
set_option maxHeartbeats 8000000 in
theorem residues_ok (p : Int) (v : V) (l : List Int) (h : H) (hv : SI h v l) (hl : l.length ≤ 1000) (hp : 0 < p ∧ p < 10000) :
    Ev T n_linear_field_residues [.agg [.int .i64 p], v] h (fun w h' => ∃ N, w = .sl N 0 l.length (.kn l.length) ∧ h.next ≤ N ∧ N < h'.next ∧ Bk h' N l.length (fun i => l.getD i 0 % p) ∧ Fr h h') := by
  refine Ev_of t_linear_field_residues rfl ?_
  have hbo : ∀ hh, boxV hh (.agg [.int .i64 p]) = some (.ptr hh.next 0, hh.new (.cells false [.int .i64 p])) := fun hh => by simp [boxV, V.cells, V.one]
  have emk := fun hh => mks_ints hh l.length hl
  obtain ⟨id, off, sh, hid, hc⟩ := hv.open
  simp (disch := first | omega | (simp only [Qn] <;> omega)) only [go_sem, c_linear_field_residues, initV_eq, hbo, hv.lens, emk]
  have hf1 : Fr h (h.new (.cells false [.int .i64 p])) := (Fr.refl h).new _
  have hg1 : (h.new (.cells false [.int .i64 p])).get h.next = some (.cells false [.int .i64 p]) := H.get_new_same ..
  have hn1 : (h.new (.cells false [.int .i64 p])).next = h.next + 1 := H.next_new ..
  generalize h.new (.cells false [.int .i64 p]) = h1 at *
  rw [← hn1]
  have hf2 : Fr h1 (h1.new (.cells false (ints (mkV l.length fun _ => 0)))) := (Fr.refl h1).new _
  have hg2 : (h1.new (.cells false (ints (mkV l.length fun _ => 0)))).get h1.next = some (.cells false (ints (mkV l.length fun _ => 0))) := H.get_new_same ..
  have hn2 : (h1.new (.cells false (ints (mkV l.length fun _ => 0)))).next = h1.next + 1 := H.next_new ..
  generalize h1.new (.cells false (ints (mkV l.length fun _ => 0))) = h2 at *
  obtain ⟨X, hX⟩ : ∃ X, h.next = X := ⟨_, rfl⟩
  obtain ⟨N, hN⟩ : ∃ N, h1.next = N := ⟨_, rfl⟩
  have gX : h2.get X = some (.cells false [.int .i64 p]) := by rw [← hX]; exact (hf2.get _ (by omega)).trans hg1
  rw [hN] at hg2
  rw [hX, hN]
  have F2 := hf1.trans hf2
  refine Wp_loop (fun k' vars hh => ∃ (i : Nat), (∃ j : Nat → V, vars = [j 0, j 1, .ptr X 0, j 3, .sl N 0 l.length (.kn l.length), j 5, j 6, v, .int .i64 (l.length : Int), .int .i64 (i : Int), j 10]) ∧ i ≤ l.length ∧ Bk hh N l.length (fun j => if j < i then l.getD j 0 % p else 0) ∧ hh.get X = some (.cells false [.int .i64 p]) ∧ N < hh.next ∧ Fr h hh ∧ k' = l.length - i) l.length
    ⟨0, ex_junk rfl, Nat.zero_le _, Bk.congr hg2 fun i _ => (if_neg (Nat.not_lt_zero i)).symm, gX, by omega, F2, rfl⟩ ?_
  clear gX hg2 F2
  rintro k' vars hh ⟨i, ⟨jk, rfl⟩, hi, b, gX, lN, F, rfl⟩
  simp (disch := first | omega | (simp only [Qn] <;> omega)) only [go_sem]
  by_cases hlt : (i : Int) < (l.length : Int)
  · rw [decide_eq_true hlt]
    have hi' : i < l.length := by omega
    have cv : hh.cell id (off + i) = some (.int .i64 (l.getD i 0)) := by rw [F.cell (hid (by omega))]; exact hc i hi'
    have cX : hh.cell X 0 = some (.int .i64 p) := by rw [H.cell_of gX]; rfl
    have t1 := tmod_bd (l.getD i 0) hp.1
    have em := tmod_twice (l.getD i 0) hp.1
    have pt := b.put (i := i) hi' (H.mk hh.tr (hh.next + 14)) (l.getD i 0 % p)
    simp (disch := first | omega | (simp only [Qn] <;> omega)) only [go_sem, sh.ixa, cv, cX, em, pt]
    rw [show (i : Int) + 1 = ((i + 1 : Nat) : Int) from by omega]
    refine ⟨l.length - (i + 1), by omega, i + 1, ex_junk rfl, by omega, (Bk.set ..).congr fun j hj => ?_, ?_, by show N < hh.next + 14; omega, (F.bump (by omega)).set (by omega) _, rfl⟩
    · by_cases e : j = i
      · rw [if_pos e, if_pos (by omega), e]
      · rw [if_neg e]
        by_cases e2 : j < i
        · rw [if_pos e2, if_pos (by omega)]
        · rw [if_neg e2, if_neg (by omega)]
    · first | exact gX | (rw [H.get_set_ne _ (by omega)]; exact gX)
  rw [decide_eq_false hlt]
  obtain ⟨rfl⟩ : i = l.length := by omega
  simp (disch := first | omega | (simp only [Qn] <;> omega)) only [go_sem]
  exact ⟨N, rfl, by omega, lN, b.congr fun j hj => if_pos hj, F⟩
end Go.Proofs.Ytlhebmcnjgagjaa

/- Layer 5: an echelon list of rows, the walk over its pivots. -/
namespace Go.Proofs.Ytlhebmcnjgagjaa
open Go Go.Ay
set_option maxRecDepth 100000
/-- What the map holds. -/
def Mp (h : H) (M n W : Nat) (S : Nat → Bool) (ρ : Nat → Nat) : Prop :=
  ∃ es, h.get M = some (.map es) ∧ keysV .i64 es = true ∧ ∀ c, c < n → findV .i64 (c : Int) es = if S c then some (.sl (ρ c) 0 W (.kn W)) else none
theorem Mp.fr {h h' : H} {M n W : Nat} {S : Nat → Bool} {ρ : Nat → Nat} (m : Mp h M n W S ρ) (e : h'.get M = h.get M) : Mp h' M n W S ρ := by
  obtain ⟨es, h1, h2, h3⟩ := m
  exact ⟨es, by rw [e]; exact h1, h2, h3⟩
theorem Mp.set {h : H} {M n W : Nat} {S : Nat → Bool} {ρ : Nat → Nat} (m : Mp h M n W S ρ) {at_ N : Nat} :
    ∃ es, h.get M = some (.map es) ∧ keysV .i64 es = true ∧ ∀ hh : H, Mp (hh.set M (some (.map (setV .i64 (at_ : Int) (.sl N 0 W (.kn W)) es)))) M n W (fun c => if c = at_ then true else S c) (upN ρ at_ N) := by
  obtain ⟨es, h1, h2, h3⟩ := m
  refine ⟨es, h1, h2, fun hh => ⟨_, H.get_set_same .., keysV_set h2, fun c hc => ?_⟩⟩
  rw [findV_set h2]
  simp only [upN]
  by_cases e : c = at_
  · subst e
    simp
  · rw [if_neg (by omega), h3 c hc]
    simp only [if_neg e]
/-- An echelon list: the record, the map, the rows. -/
structure Ec (h : H) (E M n W : Nat) (p : Int) (S : Nat → Bool) (ρ : Nat → Nat) (f : Nat → Nat → Int) (lo : Nat) : Prop where
  gE : h.get E = some (.cells false [.int .i64 p, .int .i64 (n : Int), .mp M])
  gM : Mp h M n W S ρ
  row : ∀ c, c < n → S c = true → Bk h (ρ c) W (f c)
  inj : ∀ a b, a < n → b < n → S a = true → S b = true → ρ a = ρ b → a = b
  neE : ∀ c, c < n → S c = true → ρ c ≠ E
  neM : ∀ c, c < n → S c = true → ρ c ≠ M
  EM : E ≠ M
  loE : lo ≤ E
  loM : lo ≤ M
  loR : ∀ c, c < n → S c = true → lo ≤ ρ c
  ltE : E < h.next
  ltM : M < h.next
  ltR : ∀ c, c < n → S c = true → ρ c < h.next
section
variable {h h' : H} {E M n W : Nat} {p : Int} {S : Nat → Bool} {ρ : Nat → Nat} {f : Nat → Nat → Int} {lo : Nat}
theorem Ec.fr (k : Ec h E M n W p S ρ f lo) (F : Fr h h') : Ec h' E M n W p S ρ f lo :=
  ⟨(F.get E k.ltE).trans k.gE, k.gM.fr (F.get M k.ltM), fun c hc hs => (k.row c hc hs).fr F (k.ltR c hc hs), k.inj, k.neE, k.neM, k.EM, k.loE, k.loM, k.loR, Nat.lt_of_lt_of_le k.ltE F.next, Nat.lt_of_lt_of_le k.ltM F.next, fun c hc hs => Nat.lt_of_lt_of_le (k.ltR c hc hs) F.next⟩
/-- Another object is changed. -/
theorem Ec.fx (k : Ec h E M n W p S ρ f lo) {x : Nat} (F : Fx x h h') (h1 : x ≠ E) (h2 : x ≠ M) (h3 : ∀ c, c < n → S c = true → x ≠ ρ c) : Ec h' E M n W p S ρ f lo :=
  ⟨(F.get E k.ltE h1.symm).trans k.gE, k.gM.fr (F.get M k.ltM h2.symm), fun c hc hs => (F.get _ (k.ltR c hc hs) (h3 c hc hs).symm).trans (k.row c hc hs), k.inj, k.neE, k.neM, k.EM, k.loE, k.loM, k.loR, Nat.lt_of_lt_of_le k.ltE F.next, Nat.lt_of_lt_of_le k.ltM F.next, fun c hc hs => Nat.lt_of_lt_of_le (k.ltR c hc hs) F.next⟩
/-- A row is changed. -/
theorem Ec.rowfx (k : Ec h E M n W p S ρ f lo) {c : Nat} (hc : c < n) (hs : S c = true) (F : Fx (ρ c) h h') {u : Nat → Int} (b : Bk h' (ρ c) W u) : Ec h' E M n W p S ρ (fun a => if a = c then u else f a) lo :=
  ⟨(F.get E k.ltE (k.neE c hc hs).symm).trans k.gE, k.gM.fr (F.get M k.ltM (k.neM c hc hs).symm), fun a ha hs2 => by
    by_cases e : a = c
    · subst e; simp only [if_true]; exact b
    · simp only [if_neg e]
      exact (F.get _ (k.ltR a ha hs2) fun e2 => e (k.inj a c ha hc hs2 hs e2)).trans (k.row a ha hs2), k.inj, k.neE, k.neM, k.EM, k.loE, k.loM, k.loR, Nat.lt_of_lt_of_le k.ltE F.next, Nat.lt_of_lt_of_le k.ltM F.next, fun a ha hs2 => Nat.lt_of_lt_of_le (k.ltR a ha hs2) F.next⟩
theorem Ec.congr (k : Ec h E M n W p S ρ f lo) {g : Nat → Nat → Int} (e : ∀ c j, c < n → S c = true → j < W → f c j = g c j) : Ec h E M n W p S ρ g lo :=
  ⟨k.gE, k.gM, fun c hc hs => (k.row c hc hs).congr fun j hj => e c j hc hs hj, k.inj, k.neE, k.neM, k.EM, k.loE, k.loM, k.loR, k.ltE, k.ltM, k.ltR⟩
theorem Ec.e0 (k : Ec h E M n W p S ρ f lo) : h.cell E 0 = some (.int .i64 p) := by rw [H.cell_of k.gE]; rfl
theorem Ec.e1 (k : Ec h E M n W p S ρ f lo) : h.cell E 1 = some (.int .i64 (n : Int)) := by rw [H.cell_of k.gE]; rfl
theorem Ec.e2 (k : Ec h E M n W p S ρ f lo) : h.cell E 2 = some (.mp M) := by rw [H.cell_of k.gE]; rfl
end
/-- The iterator over the pivots calls the loop's body for each one, ascending. -/
theorem pivots_loop (LID X E M n W : Nat) (p : Int) (S : Nat → Bool) (ρ : Nat → Nat) (J : Nat → H → Prop)
    (hP : ∀ c hh, J c hh → hh.get X = some (.cells false [.ptr E 0]) ∧ hh.get E = some (.cells false [.int .i64 p, .int .i64 (n : Int), .mp M]) ∧ Mp hh M n W S ρ)
    (hY : ∀ c hh, c < n → S c = true → J c hh → Ey T LID [.int .i64 (c : Int), .sl (ρ c) 0 W (.kn W)] hh (fun v hh' => v = .bool true ∧ J (c + 1) hh'))
    (hN : ∀ c hh, c < n → S c = false → J c hh → J (c + 1) hh) (hh : H) (h0 : J 0 hh) (hn : n < 1000000) :
    Ev T n_linear_echelon_pivots_1 [.yl LID, .ptr X 0] hh (fun _ hh' => J n hh') := by
  refine Ev_of t_linear_echelon_pivots_1 rfl ?_
  obtain ⟨gX, gE, gM⟩ := hP 0 hh h0
  have x0 : hh.cell X 0 = some (.ptr E 0) := by rw [H.cell_of gX]; rfl
  have e1 : hh.cell E 1 = some (.int .i64 (n : Int)) := by rw [H.cell_of gE]; rfl
  simp (disch := first | omega | (simp only [Qn] <;> omega)) only [go_sem, c_linear_echelon_pivots_1, initV_eq, x0, e1]
  refine Wp_loop (fun k' vars h1 => ∃ c : Nat, (∃ j : Nat → V, vars = [.yl LID, .ptr X 0, j 2, j 3, j 4, .int .i64 (n : Int), .int .i64 (c : Int), j 7, j 8]) ∧ c ≤ n ∧ J c h1 ∧ k' = n - c) n
    ⟨0, ex_junk rfl, Nat.zero_le _, h0, rfl⟩ ?_
  clear h0 gX gE gM x0 e1
  rintro k' vars h1 ⟨c, ⟨jk, rfl⟩, hc, hJ, rfl⟩
  obtain ⟨gX, gE, gM⟩ := hP c h1 hJ
  have x0 : h1.cell X 0 = some (.ptr E 0) := by rw [H.cell_of gX]; rfl
  have e2 : h1.cell E 2 = some (.mp M) := by rw [H.cell_of gE]; rfl
  simp (disch := first | omega | (simp only [Qn] <;> omega)) only [go_sem]
  by_cases hlt : (c : Int) < (n : Int)
  · rw [decide_eq_true hlt]
    have hc' : c < n := by omega
    obtain ⟨es, m1, m2, m3⟩ := gM
    have m4 := m3 c hc'
    cases hs : S c with
    | true =>
      rw [hs, if_pos rfl] at m4
      simp (disch := first | omega | (simp only [Qn] <;> omega)) only [go_sem, x0, e2, lkpP_mp, m1, lkpO_yes m2 m4, List.getElem?_cons_zero, List.getElem?_cons_succ]
      refine (hY c h1 hc' hs hJ).mono ?_
      rintro v h2 ⟨rfl, hJ2⟩
      simp (disch := first | omega | (simp only [Qn] <;> omega)) only [go_sem]
      rw [show (c : Int) + 1 = ((c + 1 : Nat) : Int) from by omega]
      exact ⟨n - (c + 1), by omega, c + 1, ex_junk rfl, by omega, hJ2, rfl⟩
    | false =>
      rw [hs, if_neg (by simp)] at m4
      simp (disch := first | omega | (simp only [Qn] <;> omega)) only [go_sem, x0, e2, lkpP_mp, m1, lkpO_no m2 m4, List.getElem?_cons_zero, List.getElem?_cons_succ]
      rw [show (c : Int) + 1 = ((c + 1 : Nat) : Int) from by omega]
      exact ⟨n - (c + 1), by omega, c + 1, ex_junk rfl, by omega, hN c h1 hc' hs hJ, rfl⟩
  rw [decide_eq_false hlt]
  obtain rfl : n = c := by omega
  simp (disch := first | omega | (simp only [Qn] <;> omega)) only [go_sem]
  exact hJ
theorem pivots_ok (E : Nat) (h : H) : Ev T n_linear_echelon_pivots [.ptr E 0] h (fun v h' => v = .fn 94 [] [.ptr h.next 0] ∧ h' = h.new (.cells false [.ptr E 0])) := by
  refine Ev_of t_linear_echelon_pivots rfl ?_
  have hbo : ∀ hh, boxV hh (.ptr E 0) = some (.ptr hh.next 0, hh.new (.cells false [.ptr E 0])) := fun hh => by simp [boxV, V.cells, V.one]
  simp (disch := first | omega | (simp only [Qn] <;> omega)) only [go_sem, c_linear_echelon_pivots, initV_eq, hbo]
theorem begin_ok (p : Int) (n W : Nat) (f : Nat → Nat → Int) (h : H) : Ev T n_linear_begin [.int .i64 p, .int .i64 (n : Int)] h (fun v h' => ∃ E M ρ, v = .ptr E 0 ∧ Ec h' E M n W p (fun _ => false) ρ f h.next ∧ Fr h h') := by
  refine Ev_of t_linear_begin rfl ?_
  have hb1 : bldV [.int .i64 0] [(0, 1, .int .i64 p)] = some (.agg [.int .i64 p]) := by simp [bldV, fillV, V.cells, V.one, putAt]
  have hb2 : ∀ M, bldV [.int .i64 0, .int .i64 0, .nilm] [(0, 1, .agg [.int .i64 p]), (1, 1, .int .i64 (n : Int)), (2, 1, .mp M)] = some (.agg [.int .i64 p, .int .i64 (n : Int), .mp M]) := fun M => by simp [bldV, fillV, V.cells, V.one, putAt]
  have hbo : ∀ hh M, boxV hh (.agg [.int .i64 p, .int .i64 (n : Int), .mp M]) = some (.ptr hh.next 0, hh.new (.cells false [.int .i64 p, .int .i64 (n : Int), .mp M])) := fun hh M => by simp [boxV, V.cells, V.one]
  simp (disch := first | omega | (simp only [Qn] <;> omega)) only [go_sem, c_linear_begin, initV_eq, hb1, hb2, hbo]
  refine ⟨h.next + 1, h.next, fun _ => 0, rfl, ⟨H.get_new_same (h.new _) _, ⟨[], ?_, rfl, fun c _ => rfl⟩, fun c _ (q : false = true) => Bool.noConfusion q, fun a b _ _ (q : false = true) => Bool.noConfusion q, fun c _ (q : false = true) => Bool.noConfusion q, fun c _ (q : false = true) => Bool.noConfusion q, by omega, by omega, Nat.le_refl _, fun c _ (q : false = true) => Bool.noConfusion q, by simp only [H.next_new]; omega, by simp only [H.next_new]; omega, fun c _ (q : false = true) => Bool.noConfusion q⟩, ((Fr.refl h).new _).new _⟩
  rw [H.get_new_ne _ (by simp only [H.next_new]; omega)]
  exact H.get_new_same ..
end Go.Proofs.Ytlhebmcnjgagjaa

/- Layer 5: reduced. -/
namespace Go.Proofs.Ytlhebmcnjgagjaa
open Go Go.Ay
set_option maxRecDepth 100000
/-- A row less multiples of the rows, pivot by pivot. -/
def rdF (p : Int) (S : Nat → Bool) (f : Nat → Nat → Int) (v : Nat → Int) : Nat → Nat → Int
  | 0 => v
  | c + 1 => if S c then fun j => (rdF p S f v c j + (p - rdF p S f v c c) * f c j) % p else rdF p S f v c
theorem rdF_range {p : Int} (hp : 0 < p) {S : Nat → Bool} {f : Nat → Nat → Int} {v : Nat → Int} {j : Nat} (h : 0 ≤ v j ∧ v j < p) : ∀ c, 0 ≤ rdF p S f v c j ∧ rdF p S f v c j < p
  | 0 => h
  | c + 1 => by
    rw [rdF]
    split
    · exact tmod_range _ hp
    · exact rdF_range hp h c
theorem box_ptr (hh : H) (E : Nat) : boxV hh (.ptr E 0) = some (.ptr hh.next 0, hh.new (.cells false [.ptr E 0])) := by simp [boxV, V.cells, V.one]
theorem box_one (hh : H) {v : V} (h1 : v.cells = [v]) (h2 : v.one = true) : boxV hh v = some (.ptr hh.next 0, hh.new (.cells false [v])) := by simp [boxV, h1, h2]
structure RJ (p : Int) (E M n W N X2 X3 X4 LID : Nat) (S : Nat → Bool) (ρ : Nat → Nat) (f : Nat → Nat → Int) (lo : Nat) (u : Nat → Int) (h : H) (rc : LRec) (hh : H) : Prop where
  g2 : hh.get X2 = some (.cells false [.ptr E 0])
  g3 : hh.get X3 = some (.cells false [.sl N 0 W (.kn W)])
  g4 : hh.get X4 = some (.cells false [.ptr E 0])
  gL : hh.get LID = some (.loop rc)
  b : Bk hh N W u
  k : Ec hh E M n W p S ρ f lo
  fr : Fr h hh
  lt : LID < hh.next
theorem RJ.fx {p : Int} {E M n W N X2 X3 X4 LID : Nat} {S : Nat → Bool} {ρ : Nat → Nat} {f : Nat → Nat → Int} {lo : Nat} {u : Nat → Int} {h : H} {rc : LRec} {hh : H} (j : RJ p E M n W N X2 X3 X4 LID S ρ f lo u h rc hh) (kh : Ec h E M n W p S ρ f lo)
    (hs : h.next ≤ X2 ∧ X2 < X3 ∧ X3 < N ∧ N < X4 ∧ X4 < LID) {h' : H} {rc' : LRec} {u' : Nat → Int} {x : Nat} (F : Fx x hh h') (hx : x = LID ∨ x = N) (gL : h'.get LID = some (.loop rc')) (b : Bk h' N W u') : RJ p E M n W N X2 X3 X4 LID S ρ f lo u' h rc' h' := by
  have l1 := kh.ltE
  have l2 := kh.ltM
  have l3 := kh.ltR
  have lt := j.lt
  have hN : h.next ≤ hh.next := j.fr.next
  exact ⟨(F.get X2 (by omega) (by omega)).trans j.g2, (F.get X3 (by omega) (by omega)).trans j.g3, (F.get X4 (by omega) (by omega)).trans j.g4, gL, b, j.k.fx F (by omega) (by omega) fun c hc hs2 => by have := l3 c hc hs2; omega, Fx.fr j.fr (by omega) F, Nat.lt_of_lt_of_le j.lt F.next⟩
set_option maxHeartbeats 16000000 in
theorem reduced_ok (p : Int) (E M n W : Nat) (S : Nat → Bool) (ρ : Nat → Nat) (f : Nat → Nat → Int) (lo : Nat) (v : V) (l : List Int) (h : H) (k : Ec h E M n W p S ρ f lo) (hv : SI h v l) (hl : l.length = W) (hW : W ≤ 1000) (hnW : n ≤ W) (hp : 0 < p ∧ p < 10000)
    (hf : ∀ c j, c < n → S c = true → j < W → 0 ≤ f c j ∧ f c j < p) :
    Ev T n_linear_echelon_reduced [.ptr E 0, v] h (fun w h' => ∃ N, w = .sl N 0 W (.kn W) ∧ h.next ≤ N ∧ N < h'.next ∧ Bk h' N W (rdF p S f (fun i => l.getD i 0 % p) n) ∧ Fr h h') := by
  subst hl
  refine Ev_of t_linear_echelon_reduced rfl ?_
  have wv := SV.what hv
  have k1 := k.ltE
  have k2 := k.ltM
  have k3 := k.ltR
  have hst1 := fun hh (id x : Nat) => stV_one (y := V.sl x 0 l.length (.kn l.length)) rfl rfl hh id 0
  have r0 : h.row E 0 1 = some [.int .i64 p] := by
    unfold H.row; rw [k.gE]; rfl
  simp (disch := first | omega | (simp only [Qn] <;> omega)) only [go_sem, c_linear_echelon_reduced, initV_eq, box_ptr, fun hh => box_one hh wv.1 wv.2.1]
  have hf1 : Fr h (h.new (.cells false [.ptr E 0])) := (Fr.refl h).new _
  have hg1 : (h.new (.cells false [.ptr E 0])).get h.next = some (.cells false [.ptr E 0]) := H.get_new_same ..
  have hn1 : (h.new (.cells false [.ptr E 0])).next = h.next + 1 := H.next_new ..
  generalize h.new (.cells false [.ptr E 0]) = h1 at *
  rw [← hn1]
  have hf2 : Fr h1 (h1.new (.cells false [v])) := (Fr.refl h1).new _
  have hg2 : (h1.new (.cells false [v])).get h1.next = some (.cells false [v]) := H.get_new_same ..
  have hn2 : (h1.new (.cells false [v])).next = h1.next + 1 := H.next_new ..
  generalize h1.new (.cells false [v]) = h2 at *
  obtain ⟨X2, hX2⟩ : ∃ X, h.next = X := ⟨_, rfl⟩
  obtain ⟨X3, hX3⟩ : ∃ X, h1.next = X := ⟨_, rfl⟩
  have F2 := hf1.trans hf2
  have q2 : h2.get X2 = some (.cells false [.ptr E 0]) := by rw [← hX2]; exact (hf2.get _ (by omega)).trans hg1
  have q3 : h2.get X3 = some (.cells false [v]) := by rw [← hX3]; exact hg2
  have r2 : h2.row E 0 1 = some [.int .i64 p] := by
    unfold H.row; rw [F2.get E k1]; unfold H.row at r0; exact r0
  have r2b : (H.mk h2.tr (h2.next + 7)).row E 0 1 = some [.int .i64 p] := r2
  rw [hX2, hX3]
  have n2 : h2.next = X3 + 1 := by omega
  have c2 : h2.cell X2 0 = some (.ptr E 0) := by rw [H.cell_of q2]; rfl
  have c3 : h2.cell X3 0 = some v := by rw [H.cell_of q3]; rfl
  have r2c : (H.mk h2.tr (X3 + 1 + 7)).row E 0 1 = some [.int .i64 p] := r2
  have fb : Fr h2 (H.mk h2.tr (X3 + 1 + 7)) := (Fr.refl h2).bump (by omega)
  have nb : (H.mk h2.tr (X3 + 1 + 7)).next = X3 + 1 + 7 := rfl
  simp (disch := first | omega | (simp only [Qn] <;> omega)) only [go_sem, c2, c3, r2, r2c]
  generalize H.mk h2.tr (X3 + 1 + 7) = h3 at *
  refine (residues_ok p v l h3 (hv.mono (F2.trans fb)) hW hp).mono ?_
  rintro w h4 ⟨N, rfl, N1, N2, bN, f4⟩
  have q34 := (fb.trans f4).get X3 (by omega)
  rw [q3] at q34
  have pt := fun hh : H => putO_one (vs := [v]) (off := 0) (by simp) hh X3 (.sl N 0 l.length (.kn l.length))
  have q24 := (fb.trans f4).get X2 (by omega)
  rw [q2] at q24
  have c24 : h4.cell X2 0 = some (.ptr E 0) := by rw [H.cell_of q24]; rfl
  simp (disch := first | omega | (simp only [Qn] <;> omega)) only [go_sem, hst1, q34, pt, c24]
  have F4 := F2.trans (fb.trans f4)
  have F5 : Fr h (h4.set X3 (some (.cells false [.sl N 0 l.length (.kn l.length)]))) := F4.set (by omega) _
  have b5 : Bk (h4.set X3 (some (.cells false [.sl N 0 l.length (.kn l.length)]))) N l.length (fun i => l.getD i 0 % p) := bN.ne (by omega) _
  have g35 : (h4.set X3 (some (.cells false [.sl N 0 l.length (.kn l.length)]))).get X3 = some (.cells false [.sl N 0 l.length (.kn l.length)]) := H.get_set_same ..
  have g25 : (h4.set X3 (some (.cells false [.sl N 0 l.length (.kn l.length)]))).get X2 = some (.cells false [.ptr E 0]) := by rw [H.get_set_ne _ (by omega)]; exact q24
  have n5 : (h4.set X3 (some (.cells false [.sl N 0 l.length (.kn l.length)]))).next = h4.next := rfl
  have c25 : (h4.set X3 (some (.cells false [.sl N 0 l.length (.kn l.length)]))).cell X2 0 = some (.ptr E 0) := by rw [H.cell_of g25]; rfl
  generalize h4.set X3 (some (.cells false [.sl N 0 l.length (.kn l.length)])) = h5 at *
  refine (pivots_ok E h5).mono ?_
  rintro w h6 ⟨rfl, rfl⟩
  have hf7 : Fr h5 (h5.new (.cells false [.ptr E 0])) := (Fr.refl h5).new _
  have hg7 : (h5.new (.cells false [.ptr E 0])).get h5.next = some (.cells false [.ptr E 0]) := H.get_new_same ..
  have hn7 : (h5.new (.cells false [.ptr E 0])).next = h5.next + 1 := H.next_new ..
  generalize h5.new (.cells false [.ptr E 0]) = h7 at *
  obtain ⟨X4, hX4⟩ : ∃ X, h5.next = X := ⟨_, rfl⟩
  rw [hX4] at hg7
  rw [hX4]
  obtain ⟨LID, hLID⟩ : ∃ X, h7.next = X := ⟨_, rfl⟩
  have k7 := k.fr (F5.trans hf7)
  simp (disch := first | omega | (simp only [Qn] <;> omega)) only [go_sem]
  rw [hLID]
  generalize hrc : LRec.mk _ _ _ _ _ _ = rc
  refine ⟨rfl, ?_⟩
  have hs : h.next ≤ X2 ∧ X2 < X3 ∧ X3 < N ∧ N < X4 ∧ X4 < LID := ⟨by omega, by omega, by omega, by omega, by omega⟩
  have f8 : Fr h7 (h7.new (.loop rc)) := (Fr.refl h7).new _
  have J0 : RJ p E M n l.length N X2 X3 X4 LID S ρ f lo (fun i => l.getD i 0 % p) h rc (h7.new (.loop rc)) :=
    ⟨((hf7.trans f8).get _ (by omega)).trans g25, ((hf7.trans f8).get _ (by omega)).trans g35, (f8.get _ (by omega)).trans hg7, by rw [← hLID]; exact H.get_new_same .., b5.fr (hf7.trans f8) (by omega), k7.fr f8, (F5.trans hf7).trans f8, by rw [H.next_new]; omega⟩
  have hu := fun c => fun j (hj : j < l.length) => rdF_range (S := S) (f := f) (v := fun i => l.getD i 0 % p) (j := j) hp.1 (tmod_range _ hp.1) c
  have loop : Ev T 94 [.yl LID, .ptr X4 0] (h7.new (.loop rc)) (fun _ hh => RJ p E M n l.length N X2 X3 X4 LID S ρ f lo (rdF p S f (fun i => l.getD i 0 % p) n) h rc hh) := by
    refine pivots_loop LID X4 E M n l.length p S ρ (fun c hh => RJ p E M n l.length N X2 X3 X4 LID S ρ f lo (rdF p S f (fun i => l.getD i 0 % p) c) h rc hh)
      (fun c hh J => ⟨J.g4, J.k.gE, J.k.gM⟩) (fun c hh hc hs2 J => ?_) (fun c hh hc hs2 J => by rw [rdF, if_neg (by simp [hs2])]; exact J) _ J0 (by omega)
    refine Ey_of J.gL (by rw [← hrc]; rfl) ?_
    have lt := J.lt
    have Jb := fun rc' => J.fx k hs (h' := hh.set LID (some (.loop rc'))) (rc' := rc') ((Fx.refl LID hh).set _) (.inl rfl) (H.get_set_same ..) (J.b.ne (by omega) _)
    subst hrc
    simp (disch := first | omega | (simp only [Qn] <;> omega)) only [go_sem, List.zip_cons_cons, List.zip_nil_left]
    refine ⟨_, J.gL, rfl, ?_⟩
    generalize hrb : LRec.mk _ _ _ _ LSt.busy _ = rb
    have J2 := Jb rb
    clear Jb
    obtain ⟨h10, h10e⟩ : ∃ q, hh.set LID (some (.loop rb)) = q := ⟨_, rfl⟩
    rw [h10e] at J2
    rw [h10e]
    have c2 : hh.cell X2 0 = some (.ptr E 0) := by rw [H.cell_of J.g2]; rfl
    have c3 : hh.cell X3 0 = some (.sl N 0 l.length (.kn l.length)) := by rw [H.cell_of J.g3]; rfl
    have e0 := J.k.e0
    have rE0 : hh.row E 0 1 = some [.int .i64 p] := by unfold H.row; rw [J.k.gE]; rfl
    have rE : h10.row E 0 1 = some [.int .i64 p] := by unfold H.row; rw [J2.k.gE]; rfl
    have cN := J.b.cell (i := c) (by omega)
    have c2' : h10.cell X2 0 = some (.ptr E 0) := by rw [H.cell_of J2.g2]; rfl
    have c3' : h10.cell X3 0 = some (.sl N 0 l.length (.kn l.length)) := by rw [H.cell_of J2.g3]; rfl
    have e0' := J2.k.e0
    have cN' := J2.b.cell (i := c) (by omega)
    have nh : h10.next = hh.next := by rw [← h10e]; rfl
    have fb : Fr h10 (H.mk h10.tr (hh.next + 17)) := (Fr.refl h10).bump (by omega)
    have rEb : (H.mk h10.tr (hh.next + 17)).row E 0 1 = some [.int .i64 p] := rE
    have lt2 := J2.lt
    have J3 := J2.fx k hs (Fx.of (x := LID) fb) (.inl rfl) ((fb.get LID lt2).trans J2.gL) (J2.b.fr fb (by omega))
    have u1 := hu c c (by omega)
    have rc3 := J3.k.row c hc hs2
    have lr3 := J3.k.ltR c hc hs2
    have kr := k3 c hc hs2
    simp (disch := first | omega | (simp only [Qn] <;> omega)) only [go_sem, c2, c3, e0, rE0, rE, rEb, cN, c2', c3', e0', cN']
    generalize H.mk h10.tr (hh.next + 17) = h11 at *
    refine (add_ok p (p - rdF p S f (fun i => l.getD i 0 % p) c c) N l.length l.length (ρ c) 0 (.kn l.length) (.sl (ρ c) 0 l.length (.kn l.length)) _ (f c) [] h11 J3.b.bt (by have := fb.next; omega) ⟨rfl, fun k i h1 h2 => ixaV_sl h1 h2, rfl, rfl⟩ (fun _ => lr3) (fun j hj => by rw [Nat.zero_add]; exact rc3.cell hj) (.inr rfl) (Nat.le_refl _) (by omega) hp (by omega) (fun j hj => by have := hu c j hj; omega) (fun j hj => by have := hf c j hc hs2 hj; omega)).mono ?_
    rintro w h12 ⟨b12, F12⟩
    have b13 : Bk h12 N l.length (rdF p S f (fun i => l.getD i 0 % p) (c + 1)) := b12.bk.congr fun j hj => by rw [if_pos hj, rdF, if_pos hs2]
    have J4 := J3.fx k hs F12 (.inr rfl) ((F12.get LID J3.lt (by omega)).trans J3.gL) b13
    have lt4 := J4.lt
    try simp (disch := first | omega | (simp only [Qn] <;> omega)) only [go_sem]
    refine ⟨rb, J4.gL, rfl, ?_⟩
    subst hrb
    exact J4.fx k hs ((Fx.refl LID h12).set _) (.inl rfl) (H.get_set_same ..) (J4.b.ne (by omega) _)
  refine loop.mono ?_
  rintro _ h20 J
  refine ⟨_, J.gL, by rw [← hrc]; simp, ?_⟩
  have hpe : rc.pend = none := by rw [← hrc]
  simp only [hpe, Option.getD_none]
  have lt := J.lt
  have q3 : ∀ o, (h20.set LID o).cell X3 0 = some (.sl N 0 l.length (.kn l.length)) := fun o => by
    rw [H.cell_set_ne _ (by omega), H.cell_of J.g3]; rfl
  have g' : ∀ o, Fr h (h20.set LID o) := fun o => Fr.set J.fr (by omega) o
  simp (disch := first | omega | (simp only [Qn] <;> omega)) only [go_sem, q3]
  exact ⟨N, rfl, by omega, by show N < h20.next; omega, J.b.ne (by omega) _, g' _⟩
end Go.Proofs.Ytlhebmcnjgagjaa

/- Layer 5: insert. -/
namespace Go.Proofs.Ytlhebmcnjgagjaa
open Go Go.Ay
set_option maxRecDepth 100000
theorem insert1_ok (x : Int) (h : H) : Ev T 77 [.int .i64 x] h (fun v h' => v = .bool (decide (0 < x)) ∧ h' = h) := by
  refine Ev_of t_linear_echelon_insert_1 rfl ?_
  simp (disch := first | omega | (simp only [Qn] <;> omega)) only [go_sem, c_linear_echelon_insert_1, initV_eq]
set_option maxHeartbeats 4000000 in
theorem index_ok (v : V) (n : Nat) (u : Nat → Int) (h : H) (hv : SI h v (mkV n u)) (hn : n < 1000000) :
    Ev T n_slices_IndexFunc_int_int [v, .fn 77 [] []] h (fun w h' => h' = h ∧ ((w = .int .i64 (-1) ∧ ∀ i, i < n → ¬ 0 < u i) ∨ ∃ k : Nat, w = .int .i64 (k : Int) ∧ k < n ∧ 0 < u k ∧ ∀ i, i < k → ¬ 0 < u i)) := by
  refine Ev_of t_slices_IndexFunc_int_int rfl ?_
  have lv := hv.lens
  rw [mkV_len] at lv
  obtain ⟨id, off, sh, hid, hc⟩ := hv.open
  rw [mkV_len] at sh hid hc
  simp (disch := first | omega | (simp only [Qn] <;> omega)) only [go_sem, c_slices_IndexFunc_int_int, initV_eq, lv]
  refine Wp_loop (fun k' vars hh => hh = h ∧ ∃ i : Nat, (∃ j : Nat → V, vars = [v, .fn 77 [] [], j 2, j 3, .int .i64 (n : Int), .int .i64 (i : Int), j 6, j 7]) ∧ i ≤ n ∧ (∀ j, j < i → ¬ 0 < u j) ∧ k' = n - i) n
    ⟨rfl, 0, ex_junk rfl, Nat.zero_le _, fun j hj => absurd hj (Nat.not_lt_zero j), rfl⟩ ?_
  rintro k' vars hh ⟨rfl, i, ⟨jk, rfl⟩, hi, hz, rfl⟩
  simp (disch := first | omega | (simp only [Qn] <;> omega)) only [go_sem]
  by_cases hlt : (i : Int) < (n : Int)
  · rw [decide_eq_true hlt]
    have hi' : i < n := by omega
    have ci := hc i hi'
    rw [mkV_get _ hi'] at ci
    simp (disch := first | omega | (simp only [Qn] <;> omega)) only [go_sem, sh.ixa, ci]
    refine (insert1_ok (u i) hh).mono ?_
    rintro w h2 ⟨rfl, rfl⟩
    by_cases hu : 0 < u i
    · rw [decide_eq_true hu]
      simp (disch := first | omega | (simp only [Qn] <;> omega)) only [go_sem]
      exact .inr ⟨i, rfl, hi', hu, hz⟩
    · rw [decide_eq_false hu]
      simp (disch := first | omega | (simp only [Qn] <;> omega)) only [go_sem]
      rw [show (i : Int) + 1 = ((i + 1 : Nat) : Int) from by omega]
      refine ⟨n - (i + 1), by omega, i + 1, ex_junk rfl, by omega, fun j hj => ?_, rfl⟩
      by_cases e : j = i
      · rw [e]; exact hu
      · exact hz j (by omega)
  rw [decide_eq_false hlt]
  obtain rfl : n = i := by omega
  simp (disch := first | omega | (simp only [Qn] <;> omega)) only [go_sem]
  exact .inl hz
/-- The rows, the new one inserted. -/
def nwF (p : Int) (f : Nat → Nat → Int) (k : Nat) (w : Nat → Int) (a : Nat) : Nat → Int := fun j => (f a j + (p - f a k) * w j) % p
structure IJ (p : Int) (E M n W N X2 X3 X4 X5 LID at_ : Nat) (S : Nat → Bool) (ρ : Nat → Nat) (f : Nat → Nat → Int) (lo : Nat) (u : Nat → Int) (h : H) (rc : LRec) (hh : H) : Prop where
  g2 : hh.get X2 = some (.cells false [.ptr E 0])
  g3 : hh.get X3 = some (.cells false [.sl N 0 W (.kn W)])
  g4 : hh.get X4 = some (.cells false [.ptr E 0])
  g5 : hh.get X5 = some (.cells false [.int .i64 (at_ : Int)])
  gL : hh.get LID = some (.loop rc)
  b : Bk hh N W u
  k : Ec hh E M n W p S ρ f lo
  fr : ∀ b0, Fr b0 h → b0.next ≤ lo → Fr b0 hh
  nx : h.next ≤ hh.next
  lt : LID < hh.next
  oth : ∀ id, id < h.next → id ≠ M → (∀ c, c < n → S c = true → id ≠ ρ c) → hh.get id = h.get id
section
variable {p : Int} {E M n W N X2 X3 X4 X5 LID at_ : Nat} {S : Nat → Bool} {ρ : Nat → Nat} {f : Nat → Nat → Int} {lo : Nat} {u : Nat → Int} {h : H} {rc : LRec} {hh : H}
/-- The loop's object is changed. -/
theorem IJ.fl (j : IJ p E M n W N X2 X3 X4 X5 LID at_ S ρ f lo u h rc hh) (hE : E < h.next) (hM : M < h.next) (hR : ∀ c, c < n → S c = true → ρ c < h.next) (hlo : lo ≤ h.next)
    (hs : h.next ≤ X2 ∧ X2 < X3 ∧ X3 < N ∧ N < X5 ∧ X5 < X4 ∧ X4 < LID) {h' : H} {rc' : LRec} (F : Fx LID hh h') (gL : h'.get LID = some (.loop rc')) : IJ p E M n W N X2 X3 X4 X5 LID at_ S ρ f lo u h rc' h' := by
  have lt := j.lt
  exact ⟨(F.get X2 (by omega) (by omega)).trans j.g2, (F.get X3 (by omega) (by omega)).trans j.g3, (F.get X4 (by omega) (by omega)).trans j.g4, (F.get X5 (by omega) (by omega)).trans j.g5, gL, (F.get N (by omega) (by omega)).trans j.b, j.k.fx F (by omega) (by omega) fun c hc hs2 => by have := hR c hc hs2; omega, fun b0 f0 l0 => Fx.fr (j.fr b0 f0 l0) (by omega) F, Nat.le_trans j.nx F.next, Nat.lt_of_lt_of_le j.lt F.next, fun id q1 q2 q3 => (F.get id (by have := j.nx; omega) (by omega)).trans (j.oth id q1 q2 q3)⟩
/-- A row is changed. -/
theorem IJ.row (j : IJ p E M n W N X2 X3 X4 X5 LID at_ S ρ f lo u h rc hh) (hR : ∀ c, c < n → S c = true → ρ c < h.next) (hlo : lo ≤ h.next)
    (hs : h.next ≤ X2 ∧ X2 < X3 ∧ X3 < N ∧ N < X5 ∧ X5 < X4 ∧ X4 < LID) {h' : H} {c : Nat} (hc : c < n) (hs2 : S c = true) (F : Fx (ρ c) hh h') {w : Nat → Int} (b : Bk h' (ρ c) W w) : IJ p E M n W N X2 X3 X4 X5 LID at_ S ρ (fun a => if a = c then w else f a) lo u h rc h' := by
  have lt := j.lt
  have := hR c hc hs2
  have := j.k.loR c hc hs2
  exact ⟨(F.get X2 (by omega) (by omega)).trans j.g2, (F.get X3 (by omega) (by omega)).trans j.g3, (F.get X4 (by omega) (by omega)).trans j.g4, (F.get X5 (by omega) (by omega)).trans j.g5, (F.get LID (by omega) (by omega)).trans j.gL, (F.get N (by omega) (by omega)).trans j.b, j.k.rowfx hc hs2 F b, fun b0 f0 l0 => Fx.fr (j.fr b0 f0 l0) (by omega) F, Nat.le_trans j.nx F.next, Nat.lt_of_lt_of_le j.lt F.next, fun id q1 q2 q3 => (F.get id (by have := j.nx; omega) (q3 c hc hs2)).trans (j.oth id q1 q2 q3)⟩
end
end Go.Proofs.Ytlhebmcnjgagjaa

