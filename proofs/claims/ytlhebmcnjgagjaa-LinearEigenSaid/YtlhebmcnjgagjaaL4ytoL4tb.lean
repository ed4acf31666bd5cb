/- Layer 4: inverses modulo a prime. Layer 4: two lists in a row. Elimination modulo a prime: the determinant and the inverse. Layer 4: pivot, clear. Layer 4: clear. Layer 4: invert. Layer 4: square, Inv, Det, EqualFunc, Order. Layer 4: Order. Layer 4: the laws' helpers: of, is, lives. Layer 4: the laws' numbers: field, drawn; boxes; valid matrices. Layer 4: valid square matrices; boxes. The characteristic polynomial by leading parts (Samuelson, Berkowitz), and of a bent matrix. Two rows and the same two columns change places; a multiple of a row is taken off another, and of a column put on: the characteristic polynomial stays. Layer 4: rows in their places. Layer 4: bent. Layer 4: Poly. Layer 4: Trace. Layer 4: the reference's square, Trace. Layer 4: the reference's inverse of a number. -/
import Derived.Test.YtlhebmcnjgagjaaL4atoL4x
import Derived.Test.YtlhebmcnjgagjaaDt1toDt6
import Derived.Test.YtlhebmcnjgagjaaAy33
/- Layer 4: inverses modulo a prime. -/
namespace Go.Proofs.Ytlhebmcnjgagjaa
open Go Go.Ay
set_option maxRecDepth 100000
theorem divG_none {n : Nat} : ∀ f d, 2 ≤ d → divG n f d = n → ∀ e, d ≤ e → e < d + f → e * e ≤ n → n % e ≠ 0
  | 0, d, _, _, e, h1, h2, _ => by omega
  | f + 1, d, hd, h, e, h1, h2, h3 => by
    rw [divG] at h
    by_cases hle : d * d ≤ n
    · rw [if_pos hle] at h
      by_cases hz : n % d = 0
      · rw [if_pos hz] at h
        subst h
        have := Nat.mul_le_mul_left d hd
        omega
      · rw [if_neg hz] at h
        by_cases he : e = d
        · subst he; exact hz
        · exact divG_none f (d + 1) (by omega) h e (by omega) (by omega) h3
    · have := Nat.mul_le_mul h1 h1
      omega
theorem isP_pr {p : Int} (h : isP p = true) : Pr p.toNat := by
  simp only [isP, Bool.and_eq_true, decide_eq_true_eq] at h
  obtain ⟨h1, h2, h3⟩ := h
  refine ⟨by omega, fun d hd => ?_⟩
  obtain ⟨q, hq⟩ := hd
  refine Classical.byContradiction fun hne => ?_
  have key : ∀ a b : Nat, p.toNat = a * b → 2 ≤ a → a ≤ b → False := fun a b hab ha hle => by
    have h4 := Nat.mul_le_mul_left a hle
    have h5 : a < 1002 := by
      refine Nat.lt_of_not_le fun h => ?_
      have := Nat.mul_le_mul h h
      omega
    exact divG_none 1000 2 (Nat.le_refl _) h3 a ha (by omega) (by omega) (by rw [hab]; exact Nat.mul_mod_right a b)
  have d0 : d ≠ 0 := fun e => by subst e; simp at hq; omega
  have q0 : q ≠ 0 := fun e => by subst e; simp at hq; omega
  have q1 : q ≠ 1 := fun e => by subst e; simp at hq; omega
  rcases Nat.le_total d q with h | h
  · exact key d q hq (by omega) h
  · exact key q d (by rw [hq, Nat.mul_comm]) (by omega) h
theorem pow_mod {a b p : Int} (h : a % p = b % p) (k : Nat) : a ^ k % p = b ^ k % p := by
  induction k with
  | zero => rw [Int.pow_zero, Int.pow_zero]
  | succ k ih => rw [Int.pow_succ, Int.pow_succ]; exact mul_mod ih h
theorem prime_residue_ok (a n : Int) (h : H) (hn : 0 < n) (hn2 : n < 1000000000) : Ev T n_prime_residue [.int .i64 a, .int .i64 n] h (fun v h' => v = .int .i64 (a % n) ∧ h' = h) := by
  refine Ev_of t_prime_residue rfl ?_
  have h0 := tmod_bd a hn
  have h1 := tmod_fix a hn
  simp (disch := first | omega | (simp only [Qn] <;> omega)) only [go_sem, c_prime_residue, initV_eq]
  refine iteW_dec (fun hlt => ?_) (fun hge => ?_)
  · rw [if_pos hlt] at h1
    simp (disch := first | omega | (simp only [Qn] <;> omega)) only [go_sem]
    exact ⟨by rw [h1], trivial⟩
  · rw [if_neg hge] at h1
    simp (disch := first | omega | (simp only [Qn] <;> omega)) only [go_sem]
    exact ⟨by rw [h1], trivial⟩
theorem modulo_ok (p : Int) (h : H) : Ev T n_prime_modulo [.int .i64 p] h (fun v h' => ∃ ip, v = .fn 105 [] [.ptr ip 0] ∧ h'.cell ip 0 = some (.int .i64 p) ∧ (h.next ≤ ip ∧ ip < h'.next) ∧ Fr h h') := by
  refine Ev_of t_prime_modulo rfl ?_
  simp (disch := first | omega | (simp only [Qn] <;> omega)) only [go_sem, c_prime_modulo, initV_eq]
  have g1 : (h.new (.cells false [.int .i64 p])).get h.next = some (.cells false [.int .i64 p]) := H.get_new_same ..
  exact ⟨_, rfl, by rw [H.cell_of g1]; rfl, by omega, (Fr.refl h).new _⟩
theorem modulo1_ok (ip : Nat) (p a b : Int) (h : H) (hp : h.cell ip 0 = some (.int .i64 p)) (ha : 0 ≤ a ∧ a < p) (hb : 0 ≤ b ∧ b < p) (hp2 : p < 10000) :
    callP T (.fn 105 [] [.ptr ip 0]) [.int .i64 a, .int .i64 b] h (fun v h' => v = .int .i64 (a * b % p) ∧ h' = h) := by
  have m := mul_bound ha.1 ha.2 hb.1 hb.2 hp2
  have e := nonneg_tmod (a := a * b) (p := p) m.1
  show Ev T n_prime_modulo_1 [.int .i64 a, .int .i64 b, .ptr ip 0] h _
  refine Ev_of t_prime_modulo_1 rfl ?_
  simp (disch := first | omega | (simp only [Qn] <;> omega)) only [go_sem, c_prime_modulo_1, initV_eq, hp, e]
theorem power_ok (ip : Nat) (p x u : Int) (n : Nat) (h : H) (hp : h.cell ip 0 = some (.int .i64 p)) (hx : 0 ≤ x ∧ x < p) (hu : 0 ≤ u ∧ u < p) (hp2 : p < 10000) (hn : n < 1000000) :
    Ev T n_prime_power_int [.int .i64 x, .int .i64 u, .int .i64 (n : Int), .fn 105 [] [.ptr ip 0]] h (fun v h' => ∃ r, v = .int .i64 r ∧ 0 ≤ r ∧ r < p ∧ r % p = u * x ^ n % p ∧ h' = h) := by
  refine Ev_of t_prime_power_int rfl ?_
  simp (disch := first | omega | (simp only [Qn] <;> omega)) only [go_sem, c_prime_power_int, initV_eq]
  refine Wp_loop (fun k' vars h3 => ∃ (m : Nat) (y w : Int), (∃ g : Nat → V, vars = [.int .i64 y, .int .i64 w, .int .i64 (m : Int), .fn 105 [] [.ptr ip 0], g 4, g 5, g 6]) ∧ (0 ≤ y ∧ y < p) ∧ (0 ≤ w ∧ w < p) ∧ w * y ^ m % p = u * x ^ n % p ∧ m < 1000000 ∧ h3 = h ∧ k' = m) n
    ⟨n, x, u, ex_junk rfl, hx, hu, rfl, hn, rfl, rfl⟩ ?_
  rintro k' vars h3 ⟨m, y, w, ⟨g, rfl⟩, hy, hw, he, hm, rfl, rfl⟩
  simp (disch := first | omega | (simp only [Qn] <;> omega)) only [go_sem]
  by_cases h0 : 0 < (k' : Int)
  · rw [decide_eq_true h0]
    have em : (k' : Int).tmod 2 = ((k' % 2 : Nat) : Int) := tmod_nat k' 2
    have eq : (k' : Int).tdiv 2 = ((k' / 2 : Nat) : Int) := rfl
    have hyy := tmod_range (y * y) (show 0 < p by omega)
    have emm : ∀ a : Int, a % p % p = a % p := fun a => Int.emod_emod_of_dvd _ (Int.dvd_refl p)
    simp (disch := first | omega | (simp only [Qn] <;> omega)) only [go_sem, em]
    refine iteW_dec (fun h1 => ?_) (fun h1 => ?_)
    · simp (disch := first | omega | (simp only [Qn] <;> omega)) only [go_sem]
      refine (modulo1_ok ip p w y h3 hp hw hy hp2).mono ?_
      rintro v h4 ⟨rfl, rfl⟩
      simp (disch := first | omega | (simp only [Qn] <;> omega)) only [go_sem]
      refine (modulo1_ok ip p y y _ hp hy hy hp2).mono ?_
      rintro v h4 ⟨rfl, rfl⟩
      simp (disch := first | omega | (simp only [Qn] <;> omega)) only [go_sem, eq]
      refine ⟨k' / 2, by omega, k' / 2, _, _, ex_junk rfl, hyy, tmod_range _ (by omega), ?_, by omega, rfl⟩
      rw [mul_mod (emm (w * y)) (pow_mod (emm (y * y)) (k' / 2)), ← he]
      congr 1
      have e2 : k' = 2 * (k' / 2) + 1 := by omega
      generalize k' / 2 = q at *
      subst e2
      rw [Int.pow_succ, Int.pow_mul, show y ^ 2 = y * y by rw [Int.pow_succ, Int.pow_succ, Int.pow_zero, Int.one_mul]]
      grind
    · simp (disch := first | omega | (simp only [Qn] <;> omega)) only [go_sem]
      refine (modulo1_ok ip p y y _ hp hy hy hp2).mono ?_
      rintro v h4 ⟨rfl, rfl⟩
      simp (disch := first | omega | (simp only [Qn] <;> omega)) only [go_sem, eq]
      refine ⟨k' / 2, by omega, k' / 2, _, _, ex_junk rfl, hyy, hw, ?_, by omega, rfl⟩
      rw [mul_mod (rfl : w % p = w % p) (pow_mod (emm (y * y)) (k' / 2)), ← he]
      congr 1
      have e2 : k' = 2 * (k' / 2) := by omega
      generalize k' / 2 = q at *
      subst e2
      rw [Int.pow_mul, show y ^ 2 = y * y by rw [Int.pow_succ, Int.pow_succ, Int.pow_zero, Int.one_mul]]
  · rw [decide_eq_false h0]
    obtain rfl : k' = 0 := by omega
    simp (disch := first | omega | (simp only [Qn] <;> omega)) only [go_sem]
    exact ⟨w, rfl, hw.1, hw.2, by rw [← he, Int.pow_zero, Int.mul_one], trivial⟩
theorem unit_ok (a p : Int) (h : H) (hp : isP p = true) (ha : 0 < a ∧ a < p) : Ev T n_prime_unit [.int .i64 a, .int .i64 p] h (fun v h' => v = .tup [.int .i64 a, .int .i64 0] ∧ h' = h) := by
  refine Ev_of t_prime_unit rfl ?_
  have hr := isP_pr hp
  have hp2 : p < 1000000 := by simp only [isP, Bool.and_eq_true, decide_eq_true_eq] at hp; omega
  simp (disch := first | omega | (simp only [Qn] <;> omega)) only [go_sem, c_prime_unit, initV_eq]
  refine (is_prime_ok p h).mono ?_
  rintro v h' ⟨rfl, rfl⟩
  simp (disch := first | omega | (simp only [Qn] <;> omega)) only [go_sem, hp]
  refine (prime_residue_ok a p _ (by omega) (by omega)).mono ?_
  rintro v h' ⟨rfl, rfl⟩
  rw [Int.emod_eq_of_lt (by omega) ha.2]
  simp (disch := first | omega | (simp only [Qn] <;> omega)) only [go_sem]
  rw [decide_eq_false (show ¬ a = 0 by omega)]
  simp (disch := first | omega | (simp only [Qn] <;> omega)) only [go_sem]
theorem to_ok (a : Int) (n : Nat) (p : Int) (h : H) (ha : 0 ≤ a ∧ a < p) (hp1 : 1 < p) (hp2 : p < 10000) (hn : n < 1000000) : Ev T n_prime_to [.int .i64 a, .int .i64 (n : Int), .int .i64 p] h (fun v h' => ∃ r, v = .int .i64 r ∧ 0 ≤ r ∧ r < p ∧ r % p = a ^ n % p ∧ Fr h h') := by
  refine Ev_of t_prime_to rfl ?_
  have em : (1 : Int).tmod p = 1 := by rw [nonneg_tmod (by omega)]; exact Int.emod_eq_of_lt (by omega) hp1
  simp (disch := first | omega | (simp only [Qn] <;> omega)) only [go_sem, c_prime_to, initV_eq, em]
  have fb : Fr h (H.mk h.tr (h.next + 8)) := (Fr.refl h).bump (by omega)
  generalize H.mk h.tr (h.next + 8) = hh at *
  refine (modulo_ok p hh).mono ?_
  rintro v h1 ⟨ip, rfl, hc, hl, f1⟩
  simp (disch := first | omega | (simp only [Qn] <;> omega)) only [go_sem]
  refine (power_ok ip p a 1 n h1 hc ha (by omega) hp2 hn).mono ?_
  rintro v h2 ⟨r, rfl, h3, h4, h5, rfl⟩
  simp (disch := first | omega | (simp only [Qn] <;> omega)) only [go_sem]
  exact ⟨r, rfl, h3, h4, by rw [h5, Int.one_mul], fb.trans f1⟩
theorem inv_ok (a p : Int) (h : H) (hp : isP p = true) (hp2 : p < 10000) (ha : 0 < a ∧ a < p) : Ev T n_prime_Inv [.int .i64 a, .int .i64 p] h (fun v h' => ∃ r, v = .tup [.int .i64 r, .int .i64 0] ∧ 0 ≤ r ∧ r < p ∧ r * a % p = 1 ∧ Fr h h') := by
  refine Ev_of t_prime_Inv rfl ?_
  have hr := isP_pr hp
  have h2 := hr.two
  simp (disch := first | omega | (simp only [Qn] <;> omega)) only [go_sem, c_prime_Inv, initV_eq]
  refine (unit_ok a p h hp ha).mono ?_
  rintro v h' ⟨rfl, rfl⟩
  simp (disch := first | omega | (simp only [Qn] <;> omega)) only [go_sem]
  rw [decide_eq_false (show ¬ ((0 : Int) ≠ 0) by omega)]
  simp (disch := first | omega | (simp only [Qn] <;> omega)) only [go_sem]
  rw [show p - 2 = ((p.toNat - 2 : Nat) : Int) by omega]
  refine (to_ok a (p.toNat - 2) p h' (by omega) (by omega) hp2 (by omega)).mono ?_
  rintro v h1 ⟨r, rfl, h3, h4, h5, f1⟩
  simp (disch := first | omega | (simp only [Qn] <;> omega)) only [go_sem]
  refine ⟨r, rfl, h3, h4, ?_, f1⟩
  have f := fermat hr (a := a) ha.1 (by omega)
  rw [show (p.toNat : Int) = p by omega] at f
  rw [mul_mod h5 (rfl : a % p = a % p), Int.mul_comm]
  exact f
end Go.Proofs.Ytlhebmcnjgagjaa

/- Layer 4: two lists in a row. -/
namespace Go.Proofs.Ytlhebmcnjgagjaa
open Go Go.Ay
set_option maxRecDepth 100000
end Go.Proofs.Ytlhebmcnjgagjaa

/- Elimination modulo a prime: the determinant and the inverse. -/
namespace Go.Ay
structure Elim (p : Int) (n : Nat) (A : Mx) (c : Nat) (d : Int) (W : Mx) : Prop where
  lo : ∀ i j, i < n → j < n + n → 0 ≤ W i j
  hi : ∀ i j, i < n → j < n + n → W i j < p
  rel : ∀ i j, i < n → j < n → W i j % p = sm n (fun k => W i (n + k) * A k j) % p
  unit : ∀ i j, i < n → j < c → W i j = if i = j then 1 else 0
  dd : d * det n W % p = det n A % p
theorem Elim.start {p : Int} {n : Nat} {A : Mx} (hA : ∀ i j, i < n → j < n → 0 ≤ A i j ∧ A i j < p) (hp : 1 < p) {W : Mx} (h1 : ∀ i j, i < n → j < n → W i j = A i j) (h2 : ∀ i k, i < n → k < n → W i (n + k) = if i = k then 1 else 0) : Elim p n A 0 1 W := by
  refine ⟨fun i j hi hj => ?_, fun i j hi hj => ?_, fun i j hi hj => ?_, fun i j _ hj => absurd hj (Nat.not_lt_zero j), ?_⟩
  · by_cases h : j < n
    · rw [h1 i j hi h]; exact (hA i j hi h).1
    · have e := h2 i (j - n) hi (by omega)
      rw [show n + (j - n) = j by omega] at e
      rw [e]; split <;> omega
  · by_cases h : j < n
    · rw [h1 i j hi h]; exact (hA i j hi h).2
    · have e := h2 i (j - n) hi (by omega)
      rw [show n + (j - n) = j by omega] at e
      rw [e]; split <;> omega
  · rw [h1 i j hi hj, sm_one (t := i) hi fun k hk hne => by rw [h2 i k hi hk, if_neg fun h => hne h.symm, Int.zero_mul], h2 i i hi hi, if_pos rfl, Int.one_mul]
  · rw [Int.one_mul, det_congr h1]
theorem swp_row (A : Mx) (i j k c : Nat) : swp A i j k c = if k = j then A i c else if k = i then A j c else A k c := by
  by_cases h1 : k = j
  · rw [if_pos h1, h1, swp_right]
  · rw [if_neg h1]
    by_cases h2 : k = i
    · subst h2; rw [if_pos rfl, swp_left _ (by omega)]
    · rw [if_neg h2, swp_other _ h2 h1]
theorem Elim.swap {p : Int} {n : Nat} {A : Mx} {c : Nat} {d : Int} {W W' : Mx} (e : Elim p n A c d W) {k : Nat} (hk : k < n) (hck : c < k) (hW : ∀ i j, i < n → j < n + n → W' i j = swp W c k i j) : Elim p n A c (-d % p) W' := by
  have row : ∀ i, i < n → ∃ i', i' < n ∧ (∀ j, j < n + n → W' i j = W i' j) ∧ (∀ j, j < c → W i' j = if i = j then 1 else 0) := fun i hi => by
    by_cases h1 : i = k
    · subst h1
      refine ⟨c, by omega, fun j hj => by rw [hW i j hi hj, swp_row, if_pos rfl], fun j hj => ?_⟩
      rw [e.unit c j (by omega) hj, if_neg (by omega), if_neg (by omega)]
    · by_cases h2 : i = c
      · subst h2
        refine ⟨k, hk, fun j hj => by rw [hW i j hi hj, swp_row, if_neg h1, if_pos rfl], fun j hj => ?_⟩
        rw [e.unit k j hk hj, if_neg (by omega), if_neg (by omega)]
      · exact ⟨i, hi, fun j hj => by rw [hW i j hi hj, swp_row, if_neg h1, if_neg h2], fun j hj => e.unit i j hi hj⟩
  refine ⟨fun i j hi hj => ?_, fun i j hi hj => ?_, fun i j hi hj => ?_, fun i j hi hj => ?_, ?_⟩
  · obtain ⟨i', h1, h2, _⟩ := row i hi
    rw [h2 j hj]; exact e.lo i' j h1 hj
  · obtain ⟨i', h1, h2, _⟩ := row i hi
    rw [h2 j hj]; exact e.hi i' j h1 hj
  · obtain ⟨i', h1, h2, _⟩ := row i hi
    rw [h2 j (by omega), sm_congr fun k hk => by rw [h2 (n + k) (by omega)]]
    exact e.rel i' j h1 hj
  · obtain ⟨i', h1, h2, h3⟩ := row i hi
    by_cases hj2 : j < n + n
    · rw [h2 j hj2]; exact h3 j hj
    · omega
  · rw [det_congr (B := swp W c k) fun i j hi hj => hW i j hi (by omega), (det_alt n).swap (by omega) hk (by omega)]
    rw [mul_mod (Int.emod_emod_of_dvd (-d) (Int.dvd_refl p)) (rfl : (-det n W) % p = (-det n W) % p), Int.neg_mul_neg, e.dd]
/-- A column without a pivot. -/
theorem Elim.none {p : Int} {n : Nat} {A : Mx} {c : Nat} {d : Int} {W : Mx} (e : Elim p n A c d W) (hc : c < n) (h : ∀ k, c ≤ k → k < n → W k c = 0) : det n A % p = 0 := by
  have z : det n W = 0 := by
    rw [← det_tr]
    have a := det_alt n
    have e1 : det n (trM W) = det n (setR (trM W) c (fun r => sm c (fun j => W j c * trM W j r))) := det_congr fun i j hi hj => by
      by_cases h1 : i = c
      · subst h1
        rw [setR_same]
        simp only [trM]
        by_cases h2 : j < i
        · rw [sm_one (t := j) h2 fun k hk hne => by rw [e.unit j k hj hk, if_neg fun h => hne h.symm, Int.mul_zero], e.unit j j hj h2, if_pos rfl, Int.mul_one]
        · rw [h j (by omega) hj, sm_zeros fun k hk => by rw [e.unit j k hj hk, if_neg (by omega), Int.mul_zero]]
      · rw [setR_ne _ _ _ h1]
    rw [e1, a.sum (trM W) hc c (fun j => W j c) (fun j r => trM W j r)]
    refine sm_zeros fun j hj => ?_
    rw [a.alt _ j c (by omega) hc (by omega) fun r _ => by rw [setR_same, setR_ne _ _ _ (by omega)], Int.mul_zero]
  have := e.dd
  rw [z, Int.mul_zero] at this
  rw [← this]; rfl
/-- The pivot is made 1. -/
theorem Elim.one {p : Int} {n : Nat} {A : Mx} {c : Nat} {d : Int} {W W' : Mx} (e : Elim p n A c d W) (hp : 1 < p) (hc : c < n) {x : Int} (hx : x * W c c % p = 1) (h1 : ∀ j, j < n + n → W' c j = x * W c j % p) (h2 : ∀ i j, i < n → i ≠ c → j < n + n → W' i j = W i j) :
    Elim p n A c (d * W c c % p) W' ∧ W' c c = 1 := by
  have pp : (0 : Int) < p := by omega
  refine ⟨⟨fun i j hi hj => ?_, fun i j hi hj => ?_, fun i j hi hj => ?_, fun i j hi hj => ?_, ?_⟩, by rw [h1 c (by omega), hx]⟩
  · by_cases h : i = c
    · subst h; rw [h1 j hj]; exact Int.emod_nonneg _ (by omega)
    · rw [h2 i j hi h hj]; exact e.lo i j hi hj
  · by_cases h : i = c
    · subst h; rw [h1 j hj]; exact Int.emod_lt_of_pos _ pp
    · rw [h2 i j hi h hj]; exact e.hi i j hi hj
  · by_cases h : i = c
    · subst h
      rw [h1 j (by omega), Int.emod_emod_of_dvd _ (Int.dvd_refl p), mul_mod rfl (e.rel i j hi hj), ← sm_mul]
      refine sm_mod fun k hk => ?_
      rw [h1 (n + k) (by omega), mul_mod (Int.emod_emod_of_dvd _ (Int.dvd_refl p)) (rfl : A k j % p = A k j % p), Int.mul_assoc]
    · rw [h2 i j hi h (by omega), e.rel i j hi hj]
      refine congrArg (· % p) (sm_congr fun k hk => ?_)
      rw [h2 i (n + k) hi h (by omega)]
  · by_cases h : i = c
    · subst h
      rw [h1 j (by omega), e.unit i j hi hj, if_neg (by omega), Int.mul_zero]; rfl
    · rw [h2 i j hi h (by omega)]; exact e.unit i j hi hj
  · have a := det_alt n
    have e1 : det n W' % p = x * det n W % p := by
      have e2 : det n W' % p = det n (setR W c (fun j => x * W c j)) % p := det_mod fun i j hi hj => by
        by_cases h : i = c
        · subst h; rw [setR_same, h1 j (by omega)]; exact Int.emod_emod_of_dvd _ (Int.dvd_refl p)
        · rw [setR_ne _ _ _ h, h2 i j hi h (by omega)]
      rw [e2, a.mul_row W hc, setR_self]
    rw [mul_mod (Int.emod_emod_of_dvd _ (Int.dvd_refl p)) e1, show d * W c c * (x * det n W) = (x * W c c) * (d * det n W) by grind, Int.mul_emod, hx, Int.one_mul, Int.emod_emod_of_dvd _ (Int.dvd_refl p), e.dd]
/-- Another row's element in the column is made 0. -/
theorem Elim.clear {p : Int} {n : Nat} {A : Mx} {c : Nat} {d : Int} {W W' : Mx} (e : Elim p n A c d W) (hp : 1 < p) (hc : c < n) (h1c : W c c = 1) {k : Nat} (hk : k < n) (hkc : k ≠ c) (h1 : ∀ j, j < n + n → W' k j = (W k j + (p - W k c) * W c j) % p) (h2 : ∀ i j, i < n → i ≠ k → j < n + n → W' i j = W i j) :
    Elim p n A c d W' ∧ W' k c = 0 := by
  have pp : (0 : Int) < p := by omega
  have em : ∀ a : Int, a % p % p = a % p := fun a => Int.emod_emod_of_dvd _ (Int.dvd_refl p)
  refine ⟨⟨fun i j hi hj => ?_, fun i j hi hj => ?_, fun i j hi hj => ?_, fun i j hi hj => ?_, ?_⟩, ?_⟩
  · by_cases h : i = k
    · subst h; rw [h1 j hj]; exact Int.emod_nonneg _ (by omega)
    · rw [h2 i j hi h hj]; exact e.lo i j hi hj
  · by_cases h : i = k
    · subst h; rw [h1 j hj]; exact Int.emod_lt_of_pos _ pp
    · rw [h2 i j hi h hj]; exact e.hi i j hi hj
  · by_cases h : i = k
    · subst h
      rw [h1 j (by omega), em]
      have r1 := e.rel i j hi hj
      have r2 := mul_mod (p := p) (rfl : (p - W i c) % p = (p - W i c) % p) (e.rel c j hc hj)
      rw [Int.add_emod, r1, r2, ← Int.add_emod, ← sm_mul, ← sm_add]
      refine sm_mod fun l hl => ?_
      rw [h1 (n + l) (by omega), mul_mod (em _) (rfl : A l j % p = A l j % p)]
      congr 1
      grind
    · rw [h2 i j hi h (by omega), e.rel i j hi hj]
      refine congrArg (· % p) (sm_congr fun l hl => ?_)
      rw [h2 i (n + l) hi h (by omega)]
  · by_cases h : i = k
    · subst h
      have hlt : (if i = j then (1 : Int) else 0) % p = if i = j then 1 else 0 := by
        split
        · exact Int.emod_eq_of_lt (by omega) hp
        · exact Int.emod_eq_of_lt (by omega) pp
      rw [h1 j (by omega), e.unit i j hi hj, e.unit c j hc hj, if_neg (show ¬ c = j by omega), Int.mul_zero, Int.add_zero, hlt]
    · rw [h2 i j hi h (by omega)]; exact e.unit i j hi hj
  · have a := det_alt n
    have e1 : det n W' % p = det n W % p := by
      have e2 : det n W' % p = det n (setR W k (fun j => (p - W k c) * W c j + W k j)) % p := det_mod fun i j hi hj => by
        by_cases h : i = k
        · subst h; rw [setR_same, h1 j (by omega), em, Int.add_comm]
        · rw [setR_ne _ _ _ h, h2 i j hi h (by omega)]
      rw [e2, a.add_row W hc hk (fun h => hkc h.symm)]
    rw [mul_mod (rfl : d % p = d % p) e1, e.dd]
  · rw [h1 c (by omega), h1c, Int.mul_one, show W k c + (p - W k c) = p by omega, Int.emod_self]
/-- R is the inverse of A. -/
structure IsInv (p : Int) (n : Nat) (A R : Mx) : Prop where
  lo : ∀ i j, i < n → j < n → 0 ≤ R i j
  hi : ∀ i j, i < n → j < n → R i j < p
  left : ∀ i j, i < n → j < n → mulM n R A i j % p = idM i j % p
theorem one_mod {p : Int} (hp : 1 < p) : (1 : Int) % p = 1 := Int.emod_eq_of_lt (by omega) hp
theorem IsInv.det {p : Int} {n : Nat} {A R : Mx} (e : IsInv p n A R) : det n R * det n A % p = 1 % p := by
  rw [← det_mul, det_mod e.left, det_id]
theorem IsInv.unit {p : Int} {n : Nat} {A R : Mx} (e : IsInv p n A R) (hp : 1 < p) : Ay.det n A % p ≠ 0 := fun h => by
  have := e.det
  rw [Int.mul_emod, h, Int.mul_zero, one_mod hp, Int.zero_emod] at this
  exact absurd this (by decide)
theorem mulM_id (n : Nat) (A : Mx) {i j : Nat} (hj : j < n) : mulM n A idM i j = A i j := by
  simp only [mulM, idM]
  rw [sm_one (t := j) hj fun k _ hne => by rw [if_neg hne, Int.mul_zero], if_pos rfl, Int.mul_one]
theorem id_mulM (n : Nat) (A : Mx) {i j : Nat} (hi : i < n) : mulM n idM A i j = A i j := by
  simp only [mulM, idM]
  rw [sm_one (t := i) hi fun k _ hne => by rw [if_neg fun h => hne h.symm, Int.zero_mul], if_pos rfl, Int.one_mul]
theorem mulM_mod {p : Int} {n : Nat} {A A' B B' : Mx} {i j : Nat} (h : ∀ k, k < n → A i k % p = A' i k % p) (h' : ∀ k, k < n → B k j % p = B' k j % p) : mulM n A B i j % p = mulM n A' B' i j % p :=
  sm_mod fun k hk => mul_mod (h k hk) (h' k hk)
/-- From the right too. -/
theorem right_of_left {p : Int} {n : Nat} {A R : Mx} (h : ∀ i j, i < n → j < n → mulM n R A i j % p = idM i j % p) {i j : Nat} (hi : i < n) (hj : j < n) : mulM n A R i j % p = idM i j % p := by
  cases n with
  | zero => omega
  | succ m =>
    have hd : det (m + 1) R * det (m + 1) A % p = 1 % p := by rw [← det_mul, det_mod h, det_id]
    -- R det A = adj A
    have e1 : ∀ i j, i < m + 1 → j < m + 1 → R i j * det (m + 1) A % p = adjM m A i j % p := fun i j hi hj => by
      have a1 : mulM (m + 1) R (mulM (m + 1) A (adjM m A)) i j = R i j * det (m + 1) A := by
        show sm (m + 1) (fun k => R i k * mulM (m + 1) A (adjM m A) k j) = _
        rw [sm_one (t := j) hj fun k hk hne => by rw [mul_adj A hk hj, if_neg hne, Int.mul_zero], mul_adj A hj hj, if_pos rfl]
      rw [← a1, ← mulM_assoc, mulM_mod (A' := idM) (B' := adjM m A) (fun k hk => h i k hi hk) (fun _ _ => rfl), id_mulM _ _ hi]
    have e2 : mulM (m + 1) A R i j % p = det (m + 1) R * (mulM (m + 1) A (adjM m A) i j) % p := by
      have : ∀ k, k < m + 1 → A i k * R k j % p = det (m + 1) R * (A i k * adjM m A k j) % p := fun k hk => by
        have h1 : A i k * R k j % p = (A i k * R k j) * (det (m + 1) R * det (m + 1) A) % p := by
          rw [mul_mod (rfl : A i k * R k j % p = A i k * R k j % p) hd, Int.mul_one]
        rw [h1, show (A i k * R k j) * (det (m + 1) R * det (m + 1) A) = (det (m + 1) R * A i k) * (R k j * det (m + 1) A) by grind, mul_mod rfl (e1 k j hk hj)]
        congr 1
        grind
      show sm (m + 1) (fun k => A i k * R k j) % p = det (m + 1) R * sm (m + 1) (fun k => A i k * adjM m A k j) % p
      rw [← sm_mul]
      exact sm_mod this
    rw [e2, mul_adj A hi hj]
    simp only [idM]
    split
    · exact hd
    · rw [Int.mul_zero]
theorem IsInv.uniq {p : Int} {n : Nat} {A R R' : Mx} (e : IsInv p n A R) (e' : IsInv p n A R') {i j : Nat} (hi : i < n) (hj : j < n) : R i j = R' i j := by
  have h1 : mulM n R (mulM n A R') i j % p = R i j % p := by
    rw [mulM_mod (A' := R) (B' := idM) (fun _ _ => rfl) (fun k hk => right_of_left e'.left hk hj), mulM_id _ _ hj]
  rw [← mulM_assoc, mulM_mod (A' := idM) (B' := R') (fun k hk => e.left i k hi hk) (fun _ _ => rfl), id_mulM _ _ hi] at h1
  rw [Int.emod_eq_of_lt (e.lo i j hi hj) (e.hi i j hi hj), Int.emod_eq_of_lt (e'.lo i j hi hj) (e'.hi i j hi hj)] at h1
  exact h1.symm
/-- All columns are done. -/
theorem Elim.done {p : Int} {n : Nat} {A : Mx} {d : Int} {W : Mx} (e : Elim p n A n d W) : IsInv p n A (fun i k => W i (n + k)) ∧ d % p = det n A % p := by
  refine ⟨⟨fun i j hi hj => e.lo i _ hi (by omega), fun i j hi hj => e.hi i _ hi (by omega), fun i j hi hj => ?_⟩, ?_⟩
  · show _ = (if i = j then (1 : Int) else 0) % p
    rw [← e.unit i j hi hj]
    exact (e.rel i j hi hj).symm
  · rw [← e.dd, det_congr (B := idM) fun i j hi hj => e.unit i j hi hj, det_id, Int.mul_one]
end Go.Ay

/- Layer 4: pivot, clear. -/
namespace Go.Proofs.Ytlhebmcnjgagjaa
open Go Go.Ay
set_option maxRecDepth 100000
/-- A slice whose capacity is known to hold it. -/
def Cap1 (w : V) : Prop := ∀ id off m c, w = .sl id off m c → c = .un 1 ∨ ∃ k, c = .kn k ∧ m ≤ k
theorem slc_lo {h : H} {v : V} {l : List Int} (s : SI h v l) (c : Cap1 v) {k : Nat} (hk : k < l.length) : ∃ v', slcV 1 v (some (.int .i64 (k : Int))) none none = some v' ∧ SI h v' (l.drop k) := by
  rcases s with ⟨_, h0⟩ | ⟨id, off, len, cap, ro, vs, rfl, h2, h3, h4, h5, h6⟩
  · have : (ints l).length = 0 := by rw [h0]; rfl
    rw [ints_length] at this; omega
  · rw [ints_length, Nat.mul_one] at h2
    subst h2
    have hsi : ∀ cap', SI h (.sl id (off + k) (l.length - k) cap') (l.drop k) := fun cap' => .inr ⟨id, off + k, l.length - k, cap', ro, vs, rfl, by rw [ints_length, List.length_drop, Nat.mul_one], h3, h4, by omega, by
      rw [Nat.mul_one] at h6 ⊢
      rw [← ints_drop, ← h6, List.drop_take, List.drop_drop]⟩
    rcases c id off l.length cap rfl with rfl | ⟨q, rfl, hq⟩
    · refine ⟨.sl id (off + k) (l.length - k) (.un 1), ?_, hsi _⟩
      simp only [slcV, bndV]
      rw [if_pos ⟨by omega, by omega⟩]
      simp [hk]
    · refine ⟨.sl id (off + k) (l.length - k) (.kn (q - k)), ?_, hsi _⟩
      simp only [slcV, bndV]
      rw [if_pos ⟨by omega, by omega⟩]
      simp only [Int.toNat_natCast]
      rw [if_pos (by omega), if_neg (by omega), Nat.mul_one]
/-- An elimination at work. -/
structure Wk (h : H) (W R n : Nat) (p d : Int) (ws : List V) (ll : List (List Int)) (lo : Nat) : Prop where
  gW : h.get W = some (.cells false [.int .i64 p, .int .i64 d, .sl R 0 n (.un 1)])
  gR : h.get R = some (.cells false ws)
  lw : ws.length = n
  row : All2 (SI h) ws ll
  sep : ∀ w ∈ ws, ∀ id off m c, w = .sl id off m c → id ≠ R ∧ id ≠ W
  cap : ∀ w ∈ ws, Cap1 w
  WR : W ≠ R
  frs : ∀ w ∈ ws, Frs w lo
  lt : lo ≤ h.next
  ltW : W < h.next
  ltR : R < h.next
/-- Two objects alone may have changed. -/
structure Fx2 (x y : Nat) (h h' : H) : Prop where
  next : h.next ≤ h'.next
  get : ∀ id, id < h.next → id ≠ x → id ≠ y → h'.get id = h.get id
theorem Fx2.refl (x y : Nat) (h : H) : Fx2 x y h h := ⟨Nat.le_refl _, fun _ _ _ _ => rfl⟩
theorem Fx2.of {x y : Nat} {h h' : H} (f : Fr h h') : Fx2 x y h h' := ⟨f.next, fun id hid _ _ => f.get id hid⟩
theorem Fx2.trans {x y : Nat} {a b c : H} (f : Fx2 x y a b) (g : Fx2 x y b c) : Fx2 x y a c := ⟨Nat.le_trans f.next g.next, fun id hid hx hy => (g.get id (Nat.lt_of_lt_of_le hid f.next) hx hy).trans (f.get id hid hx hy)⟩
/-- Below both, nothing has. -/
theorem Fx2.fr {x y : Nat} {a b c : H} (f : Fr a b) (hx : a.next ≤ x) (hy : a.next ≤ y) (g : Fx2 x y b c) : Fr a c := ⟨Nat.le_trans f.next g.next, fun id hid => (g.get id (Nat.lt_of_lt_of_le hid f.next) (by omega) (by omega)).trans (f.get id hid)⟩
theorem Wk.lr {h : H} {W R n : Nat} {p d : Int} {ws : List V} {ll : List (List Int)} {lo : Nat} (k : Wk h W R n p d ws ll lo) : ll.length = n := by rw [← k.row.length, k.lw]
theorem Wk.at_ {h : H} {W R n : Nat} {p d : Int} {ws : List V} {ll : List (List Int)} {lo : Nat} (k : Wk h W R n p d ws ll lo) : ∀ i, i < n → h.cell R i = some (ws.getD i .undef) := fun i hi => by
  rw [H.cell_of k.gR, List.getD_eq_getElem?_getD, List.getElem?_eq_getElem (by rw [k.lw]; exact hi)]; rfl
theorem Wk.si {h : H} {W R n : Nat} {p d : Int} {ws : List V} {ll : List (List Int)} {lo : Nat} (k : Wk h W R n p d ws ll lo) {i : Nat} (hi : i < n) : SI h (ws.getD i .undef) (ll.getD i []) := row_at k.row (by rw [k.lr]; exact hi)
theorem Wk.fr {h h' : H} {W R n : Nat} {p d : Int} {ws : List V} {ll : List (List Int)} {lo : Nat} (k : Wk h W R n p d ws ll lo) (f : Fr h h') : Wk h' W R n p d ws ll lo :=
  ⟨(f.get W k.ltW).trans k.gW, (f.get R k.ltR).trans k.gR, k.lw, k.row.mono fun _ _ s => s.mono f, k.sep, k.cap, k.WR, k.frs, Nat.le_trans k.lt f.next, Nat.lt_of_lt_of_le k.ltW f.next, Nat.lt_of_lt_of_le k.ltR f.next⟩
/-- A row that was made. -/
theorem Wk.put {h : H} {W R n : Nat} {p d : Int} {ws : List V} {ll : List (List Int)} {lo : Nat} (k : Wk h W R n p d ws ll lo) (i : Nat) {w : V} {l : List Int} (hw : SI h w l) (sw : ∀ id off m c, w = .sl id off m c → id ≠ R ∧ id ≠ W) (cw : Cap1 w) (fw : Frs w lo) : Wk (h.set R (some (.cells false (ws.set i w)))) W R n p d (ws.set i w) (ll.set i l) lo := by
  have keep : ∀ x b, (∀ id off m c, x = V.sl id off m c → id ≠ R ∧ id ≠ W) → SI h x b → SI (h.set R (some (.cells false (ws.set i w)))) x b := fun x b hx s => SI.keep s (Nat.le_refl _) fun id off m c e => H.get_set_ne h (hx _ _ _ _ e).1 _
  refine ⟨by rw [H.get_set_ne _ k.WR]; exact k.gW, H.get_set_same .., by rw [List.length_set]; exact k.lw, (All2.keep k.row fun x hx b s => keep x b (k.sep x hx) s).set i (keep w l sw hw), fun x hx => ?_, fun x hx => ?_, k.WR, fun x hx => ?_, k.lt, k.ltW, k.ltR⟩
  · rcases List.mem_or_eq_of_mem_set hx with hx | rfl
    · exact k.sep x hx
    · exact sw
  · rcases List.mem_or_eq_of_mem_set hx with hx | rfl
    · exact k.cap x hx
    · exact cw
  · rcases List.mem_or_eq_of_mem_set hx with hx | rfl
    · exact k.frs x hx
    · exact fw
end Go.Proofs.Ytlhebmcnjgagjaa

/- Layer 4: clear. -/
namespace Go.Proofs.Ytlhebmcnjgagjaa
open Go Go.Ay
set_option maxRecDepth 100000
end Go.Proofs.Ytlhebmcnjgagjaa

/- Layer 4: invert. -/
namespace Go.Proofs.Ytlhebmcnjgagjaa
open Go Go.Ay
set_option maxRecDepth 100000
theorem Rws.app' {h : H} {u : V} {ws : List V} {ll : List (List Int)} {lo : Nat} (r : Rws h u ws ll lo) (hlo : lo ≤ h.next) {w y : V} {l : List Int} (hy : SV h y 1 [w]) (hw : SI h w l) (dw : Dis u w) (fw : Frs w lo) (hs : ws.length < 1000000) :
    ∃ h', appP h 1 24 u y = some (.sl h.next 0 (ws.length + 1) (.un 1), h') ∧ Rws h' (.sl h.next 0 (ws.length + 1) (.un 1)) (ws ++ [w]) (ll ++ [l]) lo ∧ h'.get h.next = some (.cells false (ws ++ [w])) ∧ h.next < h'.next ∧ (∀ k, k < h.next → Apart u k → h'.get k = h.get k) ∧ ∀ a, Fr a h → a.next ≤ lo → Fr a h' := by
  obtain ⟨v, h', e, R', n', k', f'⟩ := r.app hlo hy hw dw fw hs
  have ev := app_at r.own (n := ws.length) (by omega) (m := 1) (by omega) (by omega) hy rfl e
  subst ev
  obtain ⟨v2, h2, e2, a⟩ := r.own.app (bytes := 24) (n := ws.length) (m := 1) (us := [w]) (y := y) hlo hy (by omega) rfl (by omega) (by omega)
  rw [e] at e2
  simp only [Option.some.injEq, Prod.mk.injEq] at e2
  obtain ⟨rfl, rfl⟩ := e2
  rcases a.what with ⟨h1, _⟩ | ⟨id, h1, h2, h3, h4⟩
  · omega
  · have : id = h.next := by cases h1; rfl
    subst this
    exact ⟨h', e, R', h4, h3, k', f'⟩
theorem bls_two (h : H) {x u : V} (hx : x.cells = [x]) (hx1 : x.one = true) (hu : u.cells = [u]) (hu1 : u.one = true) : blsV h 1 [.nils] 2 [(0, 1, x), (1, 1, u)] = some (.sl h.next 0 2 (.kn 2), h.new (.cells false [x, u])) := by
  have e : zerosV [V.nils] 2 = [.nils, .nils] := rfl
  simp [blsV, fillV, e, hx, hu, hx1, hu1, putAt]
end Go.Proofs.Ytlhebmcnjgagjaa

/- Layer 4: square, Inv, Det, EqualFunc, Order. -/
namespace Go.Proofs.Ytlhebmcnjgagjaa
open Go Go.Ay
set_option maxRecDepth 100000
def sqF (a : Mat) : Int := if checkM a ≠ 0 then checkM a else if a.2.length ≠ (a.2.getD 0 []).length then 10 else 0
theorem sq_vd {a : Mat} (h : sqF a = 0) : Vd a a.2.length := by
  rw [sqF] at h
  split at h
  · contradiction
  rename_i h1
  split at h
  · cases h
  rename_i h2
  have d := check_vd (Classical.byContradiction h1)
  rw [← show a.2.length = (a.2.getD 0 []).length from Classical.byContradiction h2] at d
  exact d
set_option maxHeartbeats 4000000 in
theorem square_ok (va : V) (a : Mat) (h : H) (ha : MatV h va a) (la : (a.2.length : Int) ≤ 2 ^ 63 - 1) : Ev T n_matrix_square [va] h (fun v h' => v = .int .i64 (sqF a) ∧ Fr h h') := by
  obtain ⟨ua, rfl, hua⟩ := ha
  refine Ev_of t_matrix_square rfl ?_
  have wa := SV.what hua.choose_spec.1
  simp (disch := first | omega | (simp only [Qn] <;> omega)) only [go_sem, c_matrix_square, initV_eq, boxV_agg2 h (v := .int .i64 a.1) rfl wa.2.1]
  have hfx : Fr h (h.new (.cells false [.int .i64 a.1, ua])) := (Fr.refl h).new _
  have hgx : (h.new (.cells false [.int .i64 a.1, ua])).get h.next = some (.cells false [.int .i64 a.1, ua]) := H.get_new_same ..
  have hnx : (h.new (.cells false [.int .i64 a.1, ua])).next = h.next + 1 := H.next_new ..
  generalize h.new (.cells false [.int .i64 a.1, ua]) = hx at *
  simp (disch := first | omega | (simp only [Qn] <;> omega)) only [go_sem, row_two hgx]
  refine (check_ok _ a hx ⟨ua, rfl, hua.mono hfx⟩ la).mono ?_
  rintro v h5 ⟨rfl, f5⟩
  have F5 := hfx.trans f5
  have gx5 := (f5.get h.next (by omega)).trans hgx
  have x1 : h5.cell h.next 1 = some ua := by rw [H.cell_of gx5]; rfl
  simp (disch := first | omega | (simp only [Qn] <;> omega)) only [go_sem]
  by_cases hz : checkM a = 0
  · rw [decide_eq_true hz]
    have da := check_vd hz
    have hr1 := da.r1
    have hr2 := da.r2
    obtain ⟨ida, offa, wsa, sua, hida, hwla, hcA, halla⟩ := (hua.mono F5).open
    have c0 : h5.cell ida offa = some (wsa.getD 0 .undef) := hcA 0 (by omega)
    have l0 := (row_at halla (i := 0) (by omega)).lens
    simp (disch := first | omega | (simp only [Qn] <;> omega)) only [go_sem, x1, hua.lens, sua.ixa, c0, l0]
    by_cases hl : a.2.length = (a.2.getD 0 []).length
    · rw [decide_eq_false (show ¬ ((a.2.length : Int) ≠ ((a.2.getD 0 []).length : Int)) by omega)]
      simp (disch := first | omega | (simp only [Qn] <;> omega)) only [go_sem]
      exact ⟨by rw [sqF, if_neg (by simp [hz]), if_neg (by simp only [ne_eq, hl, not_true_eq_false, not_false_eq_true]), hz], F5.bump (by omega)⟩
    · rw [decide_eq_true (show ((a.2.length : Int) ≠ ((a.2.getD 0 []).length : Int)) by omega)]
      simp (disch := first | omega | (simp only [Qn] <;> omega)) only [go_sem]
      exact ⟨by rw [sqF, if_neg (by simp [hz]), if_pos hl], F5.bump (by omega)⟩
  · rw [decide_eq_false hz]
    simp (disch := first | omega | (simp only [Qn] <;> omega)) only [go_sem, undef_eq]
    exact ⟨by rw [sqF, if_pos hz], F5.bump (by omega)⟩
theorem MatO.set {h : H} {v : V} {a : Mat} {lo x : Nat} (o : MatO h v a lo) (hx : x < lo) (ob : Option Ob) : MatO (h.set x ob) v a lo := by
  obtain ⟨u, ws, e, r⟩ := o
  exact ⟨u, ws, e, r.set hx ob⟩
theorem MatO.le {h : H} {v : V} {a : Mat} {lo lo' : Nat} (o : MatO h v a lo) (hl : lo' ≤ lo) : MatO h v a lo' := by
  obtain ⟨u, ws, e, r⟩ := o
  exact ⟨u, ws, e, r.le hl⟩
theorem MatO.fr {h h' : H} {v : V} {a : Mat} {lo : Nat} (o : MatO h v a lo) (f : Fr h h') : MatO h' v a lo := by
  obtain ⟨u, ws, e, r⟩ := o
  exact ⟨u, ws, e, r.fr f⟩
end Go.Proofs.Ytlhebmcnjgagjaa

/- Layer 4: Order. -/
namespace Go.Proofs.Ytlhebmcnjgagjaa
open Go Go.Ay
set_option maxRecDepth 100000
theorem Vd.mul {a b : Mat} {ca cb : Nat} (da : Vd a ca) (db : Vd b cb) : Vd (mulF a b ca cb) cb := by
  have hp := fieldF_range da.p
  exact ⟨da.p, by rw [mulF, mkR_len]; exact da.r1, by rw [mulF, mkR_len]; exact da.r2, db.c1, db.c2, fun i hi => by
    rw [mulF, mkR_len] at hi
    simp only [mulF]
    rw [mkR_row _ hi, mkV_len], fun i k hi hk => by
    rw [mulF, mkR_len] at hi
    simp only [mulF]
    rw [mkR_ent _ hi hk]; exact (tmod_range _ (by omega)).1, fun i k hi hk => by
    rw [mulF, mkR_len] at hi
    simp only [mulF]
    rw [mkR_ent _ hi hk]; exact (tmod_range _ (by omega)).2⟩
end Go.Proofs.Ytlhebmcnjgagjaa

/- Layer 4: the laws' helpers: of, is, lives. -/
namespace Go.Proofs.Ytlhebmcnjgagjaa
open Go Go.Ay
set_option maxRecDepth 100000
theorem bls_int2 (h : H) (x y : Int) : blsV h 1 [.int .i64 0] 2 [(0, 1, .int .i64 x), (1, 1, .int .i64 y)] = some (.sl h.next 0 2 (.kn 2), h.new (.cells false (ints [x, y]))) := by
  have e : zerosV [V.int .i64 0] 2 = [.int .i64 0, .int .i64 0] := rfl
  simp [blsV, fillV, e, V.cells, V.one, putAt, ints]
theorem bls_sl2 (h : H) (a b c a' b' c' : Nat) (d' dd : Cap) : blsV h 1 [.nils] 2 [(0, 1, .sl a b c dd), (1, 1, .sl a' b' c' d')] = some (.sl h.next 0 2 (.kn 2), h.new (.cells false [.sl a b c dd, .sl a' b' c' d'])) := bls_two h rfl rfl rfl rfl
end Go.Proofs.Ytlhebmcnjgagjaa

/- Layer 4: the laws' numbers: field, drawn; boxes; valid matrices. -/
namespace Go.Proofs.Ytlhebmcnjgagjaa
open Go Go.Ay
set_option maxRecDepth 100000
theorem Own.fx {x : Nat} {h h' : H} {v : V} {sz : Nat} {ws : List V} {b : Nat} (o : Own h v sz ws b) (hx : x < b) (f : Fx x h h') : Own h' v sz ws b :=
  o.mono f.next fun id _ _ _ _ h1 h2 => f.get id h2 (by omega)
theorem Rws.fx {x : Nat} {h h' : H} {u : V} {ws : List V} {ll : List (List Int)} {lo : Nat} (r : Rws h u ws ll lo) (hx : x < lo) (f : Fx x h h') : Rws h' u ws ll lo :=
  ⟨Own.fx r.own hx f, All2.keep r.row fun w hw _ s => SI.fx s (r.frs w hw) hx f, r.dis, r.frs⟩
theorem MatO.fx {x : Nat} {h h' : H} {v : V} {a : Mat} {lo : Nat} (o : MatO h v a lo) (hx : x < lo) (f : Fx x h h') : MatO h' v a lo := by
  obtain ⟨u, ws, e, r⟩ := o
  exact ⟨u, ws, e, Rws.fx r hx f⟩
/-- Entries that are residues. -/
def InP (p : Int) (n : Nat) (A : Mx) : Prop := ∀ i k, i < n → k < n → 0 ≤ A i k ∧ A i k < p
end Go.Proofs.Ytlhebmcnjgagjaa

/- Layer 4: valid square matrices; boxes. -/
namespace Go.Proofs.Ytlhebmcnjgagjaa
open Go Go.Ay
set_option maxRecDepth 100000
/-- Valid square matrices. -/
structure Sq (p : Int) (n : Nat) : Prop where
  f : fieldF p = true
  n1 : 1 ≤ n
  n2 : n ≤ 64
theorem Sq.p {p : Int} {n : Nat} (s : Sq p n) : 2 ≤ p ∧ p < 10000 := fieldF_range s.f
theorem len0 {n : Nat} (h1 : 1 ≤ n) (A : Mx) : ((mkR n n A).getD 0 []).length = n := by rw [mkR_row _ h1, mkV_len]
theorem Sq.vd {p : Int} {n : Nat} (s : Sq p n) {A : Mx} (hA : InP p n A) : Vd (p, mkR n n A) n :=
  ⟨s.f, by simp only [mkR_len]; exact s.n1, by simp only [mkR_len]; exact s.n2, s.n1, s.n2, fun i hi => by
    simp only [mkR_len] at hi
    simp only
    rw [mkR_row _ hi, mkV_len], fun i k hi hk => by
    simp only [mkR_len] at hi
    simp only
    rw [mkR_ent _ hi hk]; exact (hA i k hi hk).1, fun i k hi hk => by
    simp only [mkR_len] at hi
    simp only
    rw [mkR_ent _ hi hk]; exact (hA i k hi hk).2⟩
theorem Sq.fit {p : Int} {n : Nat} (s : Sq p n) {A B : Mx} (hA : InP p n A) (hB : InP p n B) : fitF (p, mkR n n A) (p, mkR n n B) = 0 := by
  rw [fitF, vd_check (s.vd hA), vd_check (s.vd hB)]; simp
theorem Sq.fits {p : Int} {n : Nat} (s : Sq p n) (A : Mx) : Fit (p, mkR n n A) := by
  have := s.n2
  refine ⟨by simp only [mkR_len]; omega, fun i hi => ?_⟩
  simp only [mkR_len] at hi
  simp only
  rw [mkR_row _ hi, mkV_len]; omega
theorem Sq.la {p : Int} {n : Nat} (s : Sq p n) (A : Mx) : (((p, mkR n n A) : Mat).2.length : Int) ≤ 2 ^ 63 - 1 := by
  have := s.n2
  simp only [mkR_len]; omega
def mmP (p : Int) (n : Nat) (A B : Mx) : Mx := fun i k => mulM n A B i k % p
theorem Sq.mul {p : Int} {n : Nat} (s : Sq p n) {A B : Mx} (hA : InP p n A) (hB : InP p n B) : MulF (p, mkR n n A) (p, mkR n n B) = ((p, mkR n n (mmP p n A B)), 0) := by
  rw [MulF, s.fit hA hB, if_neg (by simp), if_neg (by simp only [mkR_len, len0 s.n1, ne_eq, not_true_eq_false, not_false_eq_true])]
  simp only [len0 s.n1, mulF, mkR_len]
  rw [mkR_congr fun i k hi hk => ?_]
  refine congrArg (· % p) (sm_congr fun j hj => ?_)
  rw [mkR_ent _ hi hj, mkR_ent _ hj hk]
theorem Sq.mm {p : Int} {n : Nat} (s : Sq p n) (A B : Mx) : InP p n (mmP p n A B) := fun i k _ _ => tmod_range _ (by have := s.p; omega)
theorem Sq.add {p : Int} {n : Nat} (s : Sq p n) {A B : Mx} (hA : InP p n A) (hB : InP p n B) : AddF (p, mkR n n A) (p, mkR n n B) = ((p, mkR n n (fun i k => (A i k + B i k) % p)), 0) := by
  rw [AddF, s.fit hA hB, if_neg (by simp), if_neg (by simp only [mkR_len, len0 s.n1, ne_eq, not_true_eq_false, or_self, not_false_eq_true])]
  simp only [len0 s.n1, mkR_len]
  rw [mkR_congr fun i k hi hk => ?_]
  rw [mkR_ent _ hi hk, mkR_ent _ hi hk, Int.one_mul]
theorem Sq.ad {p : Int} {n : Nat} (s : Sq p n) (A B : Mx) : InP p n (fun i k => (A i k + B i k) % p) := fun i k _ _ => tmod_range _ (by have := s.p; omega)
theorem Sq.turn {p : Int} {n : Nat} (s : Sq p n) {A : Mx} (hA : InP p n A) : TurnF (p, mkR n n A) = ((p, mkR n n (trM A)), 0) := by
  rw [TurnF, vd_check (s.vd hA), if_neg (by simp)]
  simp only [len0 s.n1, mkR_len]
  rw [mkR_congr fun i k hi hk => ?_]
  rw [mkR_ent _ hk hi]; rfl
theorem Sq.tr {p : Int} {n : Nat} {A : Mx} (hA : InP p n A) : InP p n (trM A) := fun i k hi hk => hA k i hk hi
theorem Sq.sc {p : Int} {n : Nat} (s : Sq p n) (k : Int) (A : Mx) : InP p n (fun i j => (k % p) * A i j % p) := fun i k _ _ => tmod_range _ (by have := s.p; omega)
theorem Sq.one {p : Int} {n : Nat} (s : Sq p n) : OneF (n : Int) p = ((p, mkR n n idM), 0) := by
  have := s.n1
  have := s.n2
  rw [OneF, if_neg (by rw [s.f]; simp), if_neg (by omega), Int.toNat_natCast]; rfl
theorem Sq.on {p : Int} {n : Nat} (s : Sq p n) : InP p n idM := fun i k _ _ => by
  have := s.p
  simp only [idM]
  split <;> omega
/-- A box with a matrix. -/
def MB (h : H) (id : Nat) (a : Mat) : Prop := ∃ u, h.get id = some (.cells false [.int .i64 a.1, u]) ∧ SR h u a.2 ∧ id < h.next
theorem MB.mono {h h' : H} {id : Nat} {a : Mat} (b : MB h id a) (f : Fr h h') : MB h' id a := by
  obtain ⟨u, h1, h2, h3⟩ := b
  exact ⟨u, (f.get id h3).trans h1, h2.mono f, Nat.lt_of_lt_of_le h3 f.next⟩
theorem MB.row {h : H} {id : Nat} {p : Int} {L : List (List Int)} (b : MB h id (p, L)) : ∃ u, h.row id 0 2 = some [.int .i64 p, u] ∧ MatV h (.agg [.int .i64 p, u]) (p, L) := by
  obtain ⟨u, h1, h2, h3⟩ := b
  exact ⟨u, row_two h1, u, rfl, h2⟩
theorem MB.new {h : H} {p : Int} {L : List (List Int)} {u : V} (s : SR h u L) : MB (bxH h p u) h.next (p, L) :=
  ⟨u, bxH_get h p u, s.mono (bxH_fr h p u), by rw [bxH_next]; omega⟩
/-! the laws -/
end Go.Proofs.Ytlhebmcnjgagjaa

/- The characteristic polynomial by leading parts (Samuelson, Berkowitz), and of a bent matrix. -/
namespace Go.Ay
theorem sm_rev (n : Nat) (f : Nat → Int) : sm n (fun i => f (n - 1 - i)) = sm n f := by
  induction n with
  | zero => rfl
  | succ n ih =>
    rw [sm_first, sm_succ, ← ih]
    have : sm n (fun k => f (n + 1 - 1 - (k + 1))) = sm n (fun i => f (n - 1 - i)) := sm_congr fun k _ => by rw [show n + 1 - 1 - (k + 1) = n - 1 - k by omega]
    rw [this]
    simp only [Nat.add_sub_cancel, Nat.sub_zero]
    omega
theorem chp_high (n : Nat) (A : Mx) (k : Nat) (h : n < k) : chp n A k = 0 := dpl_high n _ _ k h
theorem chp_zero (A : Mx) (k : Nat) : chp 0 A k = if k = 0 then 1 else 0 := rfl
/-! bent matrices -/
def belB (A : Mx) (n : Nat) : Nat → Int
  | 0 => 1
  | d + 1 => belB A n d * A (n - d) (n - d - 1)
theorem bel_top (A : Mx) (n : Nat) : ∀ d, belB A (n + 1) (d + 1) = A (n + 1) n * belB A n d
  | 0 => by simp [belB]
  | d + 1 => by
    rw [belB, bel_top A n d, belB, show n + 1 - (d + 1) = n - d by omega]
    grind
theorem bent_minor {A : Mx} {t : Int} (h : ∀ i j, j + 1 < i → A i j = 0) : ∀ d j, det (j + d + 1) (del (chM A t) j (j + d + 1)) = sgn (d + 1) * belB A (j + d + 1) (d + 1) * det j (chM A t)
  | d, j => by
    have e : det (j + d + 1) (del (chM A t) j (j + d + 1)) = - A (j + d + 1) (j + d) * det (j + d) (del (del (chM A t) j (j + d + 1)) (j + d) (j + d)) := by
      have row : ∀ c, c < j + d + 1 → del (chM A t) j (j + d + 1) (j + d) c = - A (j + d + 1) c := fun c hc => by
        simp only [del, skp]
        rw [if_neg (by omega), if_pos hc]
        simp only [chM]
        rw [if_neg (by omega)]; omega
      rw [det_row (n := j + d) (i := j + d) (by omega), sm_one (t := j + d) (by omega) fun c hc hne => by
        rw [row c hc, h _ _ (by omega)]; simp, row _ (by omega), sgn_two, Int.one_mul]
    rw [e]
    cases d with
    | zero =>
      have e2 : det (j + 0) (del (del (chM A t) j (j + 0 + 1)) (j + 0) (j + 0)) = det j (chM A t) := det_congr fun r c hr hc => by
        simp only [del, Nat.add_zero]
        rw [Nat.add_zero] at hr hc
        rw [show skp j r = r by unfold skp; rw [if_pos hr], show skp j c = c by unfold skp; rw [if_pos hc], show skp j r = r by unfold skp; rw [if_pos hr], show skp (j + 1) c = c by unfold skp; rw [if_pos (by omega)]]
      rw [e2]
      simp [belB, sgn]
    | succ d =>
      have e2 : det (j + (d + 1)) (del (del (chM A t) j (j + (d + 1) + 1)) (j + (d + 1)) (j + (d + 1))) = det (j + d + 1) (del (chM A t) j (j + d + 1)) := det_congr fun r c hr hc => by
        simp only [del]
        rw [show skp (j + (d + 1)) r = r by unfold skp; rw [if_pos (by omega)], show skp (j + (d + 1)) c = c by unfold skp; rw [if_pos (by omega)], show skp (j + (d + 1) + 1) c = c by unfold skp; rw [if_pos (by omega)], show skp (j + d + 1) c = c by unfold skp; rw [if_pos (by omega)]]
      rw [e2, bent_minor h d j, show j + (d + 1) + 1 = (j + d + 1) + 1 by omega, bel_top A (j + d + 1) (d + 1), show j + (d + 1) = j + d + 1 by omega, sgn_succ (d + 1)]
      grind
theorem chp_bent {A : Mx} (h : ∀ i j, j + 1 < i → A i j = 0) (n k : Nat) (hk : k < n + 2) : chp (n + 1) A k = shf (chp n A) k - A n n * chp n A k - sm n (fun d => A (n - 1 - d) n * belB A n (d + 1) * chp (n - 1 - d) A k) := by
  refine chp_uniq (c := fun k => shf (chp n A) k - A n n * chp n A k - sm n (fun d => A (n - 1 - d) n * belB A n (d + 1) * chp (n - 1 - d) A k)) (fun t _ => ?_) k hk
  rw [det_col (j := n) (by omega), exc, sm_succ, pev_sub, pev_sub, pev_mul, pev_shf, pev_more (n := n + 1) (m := n + 2) (c := chp n A) (by omega) fun k h1 h2 => chp_high _ _ _ (by omega)]
  have e1 : det n (del (chM A t) n n) = pev (n + 1) (chp n A) t := by
    rw [← det_chp]
    exact det_congr fun i j hi hj => by
      simp only [del, skp]
      rw [if_pos hi, if_pos hj]
  have e2 : chM A t n n = t - A n n := by simp only [chM, if_true]
  rw [e1, e2, sgn_two, Int.one_mul]
  have e3 : ∀ i, i < n → sgn (i + n) * chM A t i n * det n (del (chM A t) i n) = - (A i n * belB A n (n - i) * det i (chM A t)) := fun i hi => by
    obtain ⟨d, rfl⟩ : ∃ d, n = i + d + 1 := ⟨n - i - 1, by omega⟩
    rw [bent_minor h d i, show i + d + 1 - i = d + 1 by omega, show i + (i + d + 1) = (i + i) + (d + 1) by omega, sgn_add, sgn_two, Int.one_mul]
    have s := sgn_sq (d + 1)
    have e : chM A t i (i + d + 1) = - A i (i + d + 1) := by simp only [chM]; rw [if_neg (by omega)]; omega
    rw [e]
    grind
  rw [sm_congr e3, sm_neg]
  have e4 : pev (n + 1 + 1) (fun k => sm n (fun d => A (n - 1 - d) n * belB A n (d + 1) * chp (n - 1 - d) A k)) t = sm n (fun i => A i n * belB A n (n - i) * det i (chM A t)) := by
    rw [pev_sum]
    have e5 : ∀ d, d < n → pev (n + 1 + 1) (fun k => A (n - 1 - d) n * belB A n (d + 1) * chp (n - 1 - d) A k) t = (fun i => A i n * belB A n (n - i) * det i (chM A t)) (n - 1 - d) := fun d hd => by
      simp only
      rw [pev_mul, det_chp, pev_more (n := n - 1 - d + 1) (m := n + 1 + 1) (by omega) fun k h1 h2 => chp_high _ _ _ (by omega), show n - (n - 1 - d) = d + 1 by omega]
    rw [sm_congr e5]
    exact sm_rev n (fun i => A i n * belB A n (n - i) * det i (chM A t))
  rw [e4]
  grind
end Go.Ay

/- Two rows and the same two columns change places; a multiple of a row is taken off another, and of a column put on: the characteristic polynomial stays. -/
namespace Go.Ay
def sw (a b i : Nat) : Nat := if i = a then b else if i = b then a else i
theorem sw_lt {a b i n : Nat} (ha : a < n) (hb : b < n) (hi : i < n) : sw a b i < n := by unfold sw; split <;> (try split) <;> omega
theorem sw_inj {a b i j : Nat} : sw a b i = sw a b j ↔ i = j := by unfold sw; split <;> split <;> (try split) <;> (try split) <;> omega
theorem sw_left (a b : Nat) : sw a b a = b := if_pos rfl
theorem sw_right (a b : Nat) : sw a b b = a := by unfold sw; split <;> simp_all
theorem sw_other {a b i : Nat} (h1 : i ≠ a) (h2 : i ≠ b) : sw a b i = i := by unfold sw; rw [if_neg h1, if_neg h2]
theorem sw_self (a i : Nat) : sw a a i = i := by unfold sw; split <;> simp_all
theorem swp_sw (A : Mx) {a b : Nat} (h : a ≠ b) (i j : Nat) : swp A a b i j = A (sw a b i) j := by
  by_cases h1 : i = a
  · subst h1; rw [swp_left A h, sw_left]
  · by_cases h2 : i = b
    · subst h2; rw [swp_right, sw_right]
    · rw [swp_other A h1 h2, sw_other h1 h2]
theorem det_sw {n a b : Nat} (ha : a < n) (hb : b < n) (h : a ≠ b) (A : Mx) : det n (fun i j => A (sw a b i) (sw a b j)) = det n A := by
  have e1 : det n (fun i j => A (sw a b i) (sw a b j)) = - det n (fun i j => A i (sw a b j)) := by
    rw [← (det_alt n).swap ha hb h]
    exact det_congr fun i j _ _ => (swp_sw (fun i j => A i (sw a b j)) h i j).symm
  have e2 : det n (fun i j => A i (sw a b j)) = - det n A := by
    rw [← det_tr n A, ← (det_alt n).swap ha hb h, ← det_tr]
    exact det_congr fun i j _ _ => (swp_sw (trM A) h i j).symm
  rw [e1, e2]; omega
theorem chp_swap {n a b : Nat} (ha : a < n) (hb : b < n) (A : Mx) (k : Nat) (hk : k < n + 1) : chp n (fun i j => A (sw a b i) (sw a b j)) k = chp n A k := by
  by_cases h : a = b
  · subst h
    exact chp_congr (fun i j _ _ => by simp only [sw_self]) k hk
  · refine chp_uniq (fun t _ => ?_) k hk
    rw [← det_chp, ← det_sw ha hb h (chM A t)]
    exact det_congr fun i j _ _ => by simp only [chM, sw_inj]
/-- A shear. -/
def shear (A : Mx) (k c : Nat) (f : Int) : Mx := fun i j => (if i = k then A k j - f * A c j else A i j) + (if j = c then f * (if i = k then A k k - f * A c k else A i k) else 0)
theorem det_rowadd {n k c : Nat} (hk : k < n) (hc : c < n) (h : k ≠ c) (f : Int) (X : Mx) : det n (fun i j => if i = k then X k j - f * X c j else X i j) = det n X := by
  rw [← (det_alt n).add_row X hc hk (Ne.symm h) (-f)]
  refine det_congr fun i j _ _ => ?_
  simp only [setR]
  split
  · grind
  · rfl
theorem det_coladd {n k c : Nat} (hk : k < n) (hc : c < n) (h : k ≠ c) (f : Int) (X : Mx) : det n (fun i j => X i j + (if j = c then f * X i k else 0)) = det n X := by
  rw [← det_tr n X, ← (det_alt n).add_row (trM X) hk hc h f, ← det_tr]
  refine det_congr fun i j _ _ => ?_
  simp only [setR, trM]
  split
  · rename_i e; subst e; grind
  · grind
theorem chp_shear {n k c : Nat} (hk : k < n) (hc : c < n) (h : k ≠ c) (f : Int) (A : Mx) (q : Nat) (hq : q < n + 1) : chp n (shear A k c f) q = chp n A q := by
  refine chp_uniq (fun t _ => ?_) q hq
  rw [← det_chp, ← (det_coladd hk hc h f (fun i j => if i = k then chM A t k j - f * chM A t c j else chM A t i j)).trans (det_rowadd hk hc h f (chM A t))]
  refine det_congr fun i j _ _ => ?_
  simp only [chM, shear]
  by_cases h1 : i = k
  · subst h1
    by_cases h2 : j = c
    · subst h2
      simp only [if_true, if_neg h, if_neg (Ne.symm h)]
      grind
    · by_cases h3 : i = j
      · subst h3
        simp only [if_true, if_neg h2, if_neg (Ne.symm h)]
        grind
      · simp only [if_true, if_neg h2, if_neg h3, if_neg (Ne.symm h2)]
        grind
  · by_cases h2 : j = c
    · subst h2
      simp only [if_neg h1, if_true]
      grind
    · simp only [if_neg h1, if_neg h2]
      grind
/-- On the way to a bent matrix: the first c columns are. -/
structure Bnt (p : Int) (n : Nat) (A : Mx) (c : Nat) (B : Mx) : Prop where
  rng : ∀ i j, i < n → j < n → 0 ≤ B i j ∧ B i j < p
  low : ∀ i j, i < n → j < c → j + 1 < i → B i j = 0
  chp : ∀ q, q < n + 1 → chp n B q % p = chp n A q % p
theorem Bnt.start {p : Int} {n : Nat} {A B : Mx} (hA : ∀ i j, i < n → j < n → 0 ≤ A i j ∧ A i j < p) (e : ∀ i j, i < n → j < n → B i j = A i j) : Bnt p n A 0 B :=
  ⟨fun i j hi hj => by rw [e i j hi hj]; exact hA i j hi hj, fun i j _ hj => absurd hj (Nat.not_lt_zero j), fun q hq => by rw [chp_congr e q hq]⟩
theorem Bnt.congr {p : Int} {n c : Nat} {A B B' : Mx} (b : Bnt p n A c B) (e : ∀ i j, i < n → j < n → B' i j = B i j) (hc : c ≤ n) : Bnt p n A c B' :=
  ⟨fun i j hi hj => by rw [e i j hi hj]; exact b.rng i j hi hj, fun i j hi hj h => by rw [e i j hi (by omega)]; exact b.low i j hi hj h, fun q hq => by rw [chp_congr e q hq]; exact b.chp q hq⟩
theorem Bnt.skip {p : Int} {n c : Nat} {A B : Mx} (b : Bnt p n A c B) (h : ∀ i, c + 1 < i → i < n → B i c = 0) : Bnt p n A (c + 1) B :=
  ⟨b.rng, fun i j hi hj h1 => by
    by_cases e : j = c
    · subst e; exact h i h1 hi
    · exact b.low i j hi (by omega) h1, b.chp⟩
theorem Bnt.swap {p : Int} {n c r : Nat} {A B B' : Mx} (b : Bnt p n A c B) (hr : r < n) (hc : c + 1 < n) (hcr : c + 1 ≤ r) (e : ∀ i j, i < n → j < n → B' i j = B (sw r (c + 1) i) (sw r (c + 1) j)) : Bnt p n A c B' := by
  refine ⟨fun i j hi hj => ?_, fun i j hi hj h => ?_, fun q hq => ?_⟩
  · rw [e i j hi hj]; exact b.rng _ _ (sw_lt hr hc hi) (sw_lt hr hc hj)
  · rw [e i j hi (by omega), sw_other (show j ≠ r by omega) (show j ≠ c + 1 by omega)]
    refine b.low _ j (sw_lt hr hc hi) hj ?_
    unfold sw
    split
    · omega
    · split
      · omega
      · exact h
  · rw [chp_congr e q hq, chp_swap hr hc B q hq]; exact b.chp q hq
theorem Bnt.shear {p : Int} {n c k : Nat} {A B B' : Mx} (b : Bnt p n A c B) (hp : 0 < p) (hk : k < n) (hck : c + 1 < k) (f : Int) (e : ∀ i j, i < n → j < n → B' i j = shear B k (c + 1) f i j % p) : Bnt p n A c B' := by
  refine ⟨fun i j hi hj => ?_, fun i j hi hj h => ?_, fun q hq => ?_⟩
  · rw [e i j hi hj]; exact ⟨Int.emod_nonneg _ (by omega), Int.emod_lt_of_pos _ hp⟩
  · rw [e i j hi (by omega)]
    simp only [Ay.shear]
    rw [if_neg (show j ≠ c + 1 by omega), b.low (c + 1) j (by omega) hj (by omega)]
    split
    · rename_i h1
      rw [← h1, b.low i j hi hj h]; simp
    · rw [b.low i j hi hj h]; simp
  · rw [chp_mod (B := Ay.shear B k (c + 1) f) (fun i j hi hj => by rw [e i j hi hj, Int.emod_emod_of_dvd _ (Int.dvd_refl p)]) q, chp_shear hk (by omega) (by omega) f B q hq]
    exact b.chp q hq
/-- The column: zeros come, and stay. -/
theorem shear_col {p : Int} {n c k : Nat} {B B' : Mx} {x : Int} (hp : 1 < p) (hk : k < n) (hck : c + 1 < k) (hb : ∀ i j, i < n → j < n → 0 ≤ B i j ∧ B i j < p) (hx : x * B (c + 1) c % p = 1) (e : ∀ i j, i < n → j < n → B' i j = shear B k (c + 1) (B k c * x % p) i j % p) :
    B' k c = 0 ∧ ∀ i, i < n → i ≠ k → B' i c = B i c := by
  refine ⟨?_, fun i hi h => ?_⟩
  · rw [e k c hk (by omega)]
    simp only [shear, if_true]
    rw [if_neg (show ¬ c = c + 1 by omega), Int.add_zero]
    have h1 : B k c * x % p * B (c + 1) c % p = B k c % p := by
      rw [Int.mul_emod, Int.emod_emod_of_dvd _ (Int.dvd_refl p), ← Int.mul_emod, Int.mul_assoc, Int.mul_emod, hx, Int.mul_one, Int.emod_emod_of_dvd _ (Int.dvd_refl p)]
    rw [Int.sub_emod, h1, Int.sub_self, Int.zero_emod]
  · rw [e i c hi (by omega)]
    simp only [shear]
    rw [if_neg h, if_neg (by omega), Int.add_zero]
    have := hb i c hi (by omega)
    exact Int.emod_eq_of_lt this.1 this.2
end Go.Ay

/- Layer 4: rows in their places. -/
namespace Go.Proofs.Ytlhebmcnjgagjaa
open Go Go.Ay
set_option maxRecDepth 100000
/-- Rows of c numbers, each in a block of its own, and the block of the rows. -/
structure Gc (h : H) (R n c : Nat) (ρ : Nat → Nat) (κ : Nat → Cap) (τ : Nat → List V) (f : Nat → Nat → Int) (lo : Nat) : Prop where
  gR : h.get R = some (.cells false ((List.range n).map fun i => V.sl (ρ i) 0 c (κ i)))
  row : ∀ i, i < n → h.get (ρ i) = some (.cells false (ints (mkV c (f i)) ++ τ i))
  inj : ∀ i j, i < n → j < n → ρ i = ρ j → i = j
  hR : lo ≤ R
  ltR : R < h.next
  hρ : ∀ i, i < n → lo ≤ ρ i
  ltρ : ∀ i, i < n → ρ i < h.next
  ne : ∀ i, i < n → ρ i ≠ R
section
variable {h h' : H} {R n c : Nat} {ρ : Nat → Nat} {κ : Nat → Cap} {τ : Nat → List V} {f : Nat → Nat → Int} {lo : Nat}
theorem Gc.fr (g : Gc h R n c ρ κ τ f lo) (F : Fr h h') : Gc h' R n c ρ κ τ f lo :=
  ⟨(F.get R g.ltR).trans g.gR, fun i hi => (F.get _ (g.ltρ i hi)).trans (g.row i hi), g.inj, g.hR, Nat.lt_of_lt_of_le g.ltR F.next, g.hρ, fun i hi => Nat.lt_of_lt_of_le (g.ltρ i hi) F.next, g.ne⟩
theorem Gc.congr {f' : Nat → Nat → Int} (g : Gc h R n c ρ κ τ f lo) (e : ∀ i k, i < n → k < c → f i k = f' i k) : Gc h R n c ρ κ τ f' lo :=
  ⟨g.gR, fun i hi => by rw [g.row i hi, mkV_congr fun k hk => e i k hi hk], g.inj, g.hR, g.ltR, g.hρ, g.ltρ, g.ne⟩
theorem Gc.cR (g : Gc h R n c ρ κ τ f lo) : ∀ i, i < n → h.cell R i = some (.sl (ρ i) 0 c (κ i)) := fun i hi => by
  rw [H.cell_of g.gR, List.getElem?_map, List.getElem?_range hi]; rfl
theorem Gc.cρ (g : Gc h R n c ρ κ τ f lo) : ∀ i k, i < n → k < c → h.cell (ρ i) k = some (.int .i64 (f i k)) := fun i k hi hk => by
  rw [H.cell_of (g.row i hi), List.getElem?_append_left (by rw [ints_length, mkV_len]; exact hk), ints_getD (by rw [mkV_len]; exact hk), mkV_get _ hk]
theorem Gc.si (g : Gc h R n c ρ κ τ f lo) {i : Nat} (hi : i < n) : SI h (.sl (ρ i) 0 c (κ i)) (mkV c (f i)) :=
  .inr ⟨ρ i, 0, c, κ i, false, _, rfl, by rw [ints_length, mkV_len, Nat.mul_one], g.ltρ i hi, g.row i hi, by rw [List.length_append, ints_length, mkV_len]; omega, by
    rw [List.drop_zero, Nat.mul_one, List.take_append_of_le_length (by rw [ints_length, mkV_len]; omega), List.take_of_length_le (by rw [ints_length, mkV_len]; omega)]⟩
theorem Gc.put (g : Gc h R n c ρ κ τ f lo) {i k : Nat} (hi : i < n) (hk : k < c) (x : Int) :
    putO (h.get (ρ i)) h (ρ i) k [.int .i64 x] = some (h.set (ρ i) (some (.cells false (ints (mkV c (upF f i k x i)) ++ τ i)))) ∧ Gc (h.set (ρ i) (some (.cells false (ints (mkV c (upF f i k x i)) ++ τ i)))) R n c ρ κ τ (upF f i k x) lo := by
  have e : (mkV c (f i)).set k x = mkV c (upF f i k x i) := by
    rw [mkV_set]
    exact mkV_congr fun j _ => by
      simp only [upF, true_and]
  refine ⟨by rw [g.row i hi, putO_one (by rw [List.length_append, ints_length, mkV_len]; omega), List.set_append_left _ _ (by rw [ints_length, mkV_len]; exact hk), ints_set, e], ⟨?_, fun j hj => ?_, g.inj, g.hR, g.ltR, g.hρ, g.ltρ, g.ne⟩⟩
  · rw [H.get_set_ne _ (fun e => g.ne i hi e.symm)]; exact g.gR
  · by_cases e : j = i
    · subst e; rw [H.get_set_same]
    · rw [H.get_set_ne _ fun h => e (g.inj j i hj hi h), g.row j hj, mkV_congr fun b _ => ?_]
      simp only [upF]
      rw [if_neg fun h => e h.1]
theorem Gc.sr (g : Gc h R n c ρ κ τ f lo) (cap : Cap) : SR h (.sl R 0 n cap) (mkR n c f) := by
  refine ⟨(List.range n).map fun i => V.sl (ρ i) 0 c (κ i), ?_, All2.of_get (by simp [mkR]) fun i h1 h2 => ?_⟩
  · exact SV.all (by simp) g.ltR g.gR cap
  · simp only [List.length_map, List.length_range] at h1
    simp only [List.getElem_map, List.getElem_range, mkR]
    exact g.si h1
/-- Two rows change places. -/
theorem Gc.swap (g : Gc h R n c ρ κ τ f lo) {a b : Nat} (ha : a < n) (hb : b < n) :
    Gc (h.set R (some (.cells false ((((List.range n).map fun i => V.sl (ρ i) 0 c (κ i)).set a (.sl (ρ b) 0 c (κ b))).set b (.sl (ρ a) 0 c (κ a)))))) R n c (fun i => ρ (sw a b i)) (fun i => κ (sw a b i)) (fun i => τ (sw a b i)) (fun i k => f (sw a b i) k) lo := by
  have el : (((List.range n).map fun i => V.sl (ρ i) 0 c (κ i)).set a (.sl (ρ b) 0 c (κ b))).set b (.sl (ρ a) 0 c (κ a)) = (List.range n).map fun i => V.sl (ρ (sw a b i)) 0 c (κ (sw a b i)) := by
    refine List.ext_getElem (by simp) fun i h1 h2 => ?_
    rw [List.getElem_set, List.getElem_set, List.getElem_map, List.getElem_map, List.getElem_range]
    by_cases e1 : b = i
    · subst e1; rw [if_pos rfl, sw_right]
    · rw [if_neg e1]
      by_cases e2 : a = i
      · subst e2; rw [if_pos rfl, sw_left]
      · rw [if_neg e2, sw_other (Ne.symm e2) (Ne.symm e1)]
  rw [el]
  refine ⟨H.get_set_same .., fun i hi => ?_, fun i j hi hj e => ?_, g.hR, g.ltR, fun i hi => g.hρ _ (sw_lt ha hb hi), fun i hi => g.ltρ _ (sw_lt ha hb hi), fun i hi => g.ne _ (sw_lt ha hb hi)⟩
  · rw [H.get_set_ne _ (g.ne _ (sw_lt ha hb hi))]
    exact g.row _ (sw_lt ha hb hi)
  · exact sw_inj.1 (g.inj _ _ (sw_lt ha hb hi) (sw_lt ha hb hj) e)
theorem Gc.same (g : Gc h R n c ρ κ τ f lo) (e : ∀ id, h'.get id = h.get id) (en : h'.next = h.next) : Gc h' R n c ρ κ τ f lo :=
  ⟨(e R).trans g.gR, fun i hi => (e _).trans (g.row i hi), g.inj, g.hR, by rw [en]; exact g.ltR, g.hρ, fun i hi => by rw [en]; exact g.ltρ i hi, g.ne⟩
theorem set_twice (h : H) (R : Nat) (a b : Option Ob) : ∀ id, ((h.set R a).set R b).get id = (h.set R b).get id := fun id => by
  rw [H.get_set, H.get_set, H.get_set]
  split <;> rfl
def upN {α : Type} (ρ : Nat → α) (i : Nat) (x : α) : Nat → α := fun j => if j = i then x else ρ j
theorem own_open {w : V} {l : List Int} {b : Nat} (o : Own h w 1 (ints l) b) (hl : 0 < l.length) : ∃ id cap rest, w = .sl id 0 l.length cap ∧ b ≤ id ∧ id < h.next ∧ h.get id = some (.cells false (ints l ++ rest)) := by
  rcases o with ⟨_, h0⟩ | ⟨id, m, cap, rest, h1, h2, _, h3, h4, h5⟩
  · have : (ints l).length = 0 := by rw [h0]; rfl
    rw [ints_length] at this; omega
  · rw [ints_length, Nat.mul_one] at h2
    subst h2
    exact ⟨id, cap, rest, h1, h3, h4, h5⟩
/-- A new row takes a place. -/
theorem Gc.rowset (g : Gc h R n c ρ κ τ f lo) (F : Fr h h') {i : Nat} (hi : i < n) {u : Nat → Int} {id : Nat} {cap : Cap} {rest : List V} (h1 : h.next ≤ id) (h2 : id < h'.next) (h3 : h'.get id = some (.cells false (ints (mkV c u) ++ rest))) :
    Gc (h'.set R (some (.cells false (((List.range n).map fun i => V.sl (ρ i) 0 c (κ i)).set i (.sl id 0 c cap))))) R n c (upN ρ i id) (upN κ i cap) (upN τ i rest) (fun a k => if a = i then u k else f a k) lo := by
  have g' := g.fr F
  have lR := g.ltR
  have el : ((List.range n).map fun i => V.sl (ρ i) 0 c (κ i)).set i (.sl id 0 c cap) = (List.range n).map fun j => V.sl (upN ρ i id j) 0 c (upN κ i cap j) := by
    refine List.ext_getElem (by simp) fun j _ _ => ?_
    rw [List.getElem_set, List.getElem_map, List.getElem_map, List.getElem_range]
    simp only [upN]
    by_cases e : i = j
    · subst e; simp
    · rw [if_neg e, if_neg (Ne.symm e), if_neg (Ne.symm e)]
  rw [el]
  have hne : id ≠ R := by omega
  refine ⟨H.get_set_same .., fun j hj => ?_, fun a b ha hb e => ?_, g.hR, g'.ltR, fun j hj => ?_, fun j hj => ?_, fun j hj => ?_⟩
  · simp only [upN]
    by_cases e : j = i
    · subst e
      simp only [if_true]
      rw [H.get_set_ne _ hne]; exact h3
    · simp only [if_neg e]
      rw [H.get_set_ne _ (g.ne j hj)]; exact g'.row j hj
  · simp only [upN] at e
    have la := g.ltρ a ha
    have lb := g.ltρ b hb
    by_cases e1 : a = i
    · by_cases e2 : b = i
      · omega
      · rw [if_pos e1, if_neg e2] at e; omega
    · by_cases e2 : b = i
      · rw [if_neg e1, if_pos e2] at e; omega
      · rw [if_neg e1, if_neg e2] at e
        exact g.inj a b ha hb e
  · simp only [upN]
    split
    · exact Nat.le_trans (Nat.le_trans g.hR (Nat.le_of_lt lR)) h1
    · exact g.hρ j hj
  · simp only [upN]
    split
    · exact h2
    · exact g'.ltρ j hj
  · simp only [upN]
    split
    · exact hne
    · exact g.ne j hj
end
end Go.Proofs.Ytlhebmcnjgagjaa

/- Layer 4: bent. -/
namespace Go.Proofs.Ytlhebmcnjgagjaa
open Go Go.Ay
set_option maxRecDepth 100000
/-- The first i rows are laid. -/
structure Gp (h : H) (R n c i : Nat) (ρ : Nat → Nat) (f : Nat → Nat → Int) (lo : Nat) : Prop where
  gR : h.get R = some (.cells false ((List.range n).map fun j => if j < i then V.sl (ρ j) 0 c (.un 1) else .nils))
  row : ∀ j, j < i → h.get (ρ j) = some (.cells false (ints (mkV c (f j))))
  inj : ∀ a b, a < i → b < i → ρ a = ρ b → a = b
  hR : lo ≤ R
  ltR : R < h.next
  hρ : ∀ j, j < i → R < ρ j
  ltρ : ∀ j, j < i → ρ j < h.next
theorem Gp.zero {h : H} {R n c : Nat} {f : Nat → Nat → Int} {lo : Nat} (g : h.get R = some (.cells false (List.replicate n .nils))) (h1 : lo ≤ R) (h2 : R < h.next) : Gp h R n c 0 (fun _ => 0) f lo :=
  ⟨by rw [g]; congr 2; refine List.ext_getElem (by simp) fun i _ _ => ?_; simp, fun j hj => absurd hj (Nat.not_lt_zero j), fun a b ha => absurd ha (Nat.not_lt_zero a), h1, h2, fun j hj => absurd hj (Nat.not_lt_zero j), fun j hj => absurd hj (Nat.not_lt_zero j)⟩
theorem Gp.step {h h' : H} {R n c i : Nat} {ρ : Nat → Nat} {f : Nat → Nat → Int} {lo : Nat} (g : Gp h R n c i ρ f lo) (hi : i < n) (F : Fr h h') {id : Nat} (h1 : h.next ≤ id) (h2 : id < h'.next) (h3 : h'.get id = some (.cells false (ints (mkV c (f i))))) :
    putO (h'.get R) h' R i [.sl id 0 c (.un 1)] = some (h'.set R (some (.cells false (((List.range n).map fun j => if j < i then V.sl (ρ j) 0 c (.un 1) else .nils).set i (.sl id 0 c (.un 1)))))) ∧
    Gp (h'.set R (some (.cells false (((List.range n).map fun j => if j < i then V.sl (ρ j) 0 c (.un 1) else .nils).set i (.sl id 0 c (.un 1)))))) R n c (i + 1) (upN ρ i id) f lo := by
  have lR := g.ltR
  have gR' := (F.get R lR).trans g.gR
  refine ⟨by rw [gR', putO_one (by simpa using hi)], ?_⟩
  have el : ((List.range n).map fun j => if j < i then V.sl (ρ j) 0 c (.un 1) else .nils).set i (.sl id 0 c (.un 1)) = (List.range n).map fun j => if j < i + 1 then V.sl (upN ρ i id j) 0 c (.un 1) else .nils := by
    refine List.ext_getElem (by simp) fun j _ _ => ?_
    rw [List.getElem_set, List.getElem_map, List.getElem_map, List.getElem_range]
    simp only [upN]
    by_cases e : i = j
    · subst e; simp
    · rw [if_neg e, if_neg (Ne.symm e)]
      by_cases e2 : j < i
      · rw [if_pos e2, if_pos (by omega)]
      · rw [if_neg e2, if_neg (by omega)]
  rw [el]
  have hne : id ≠ R := by omega
  refine ⟨H.get_set_same .., fun j hj => ?_, fun a b ha hb e => ?_, g.hR, Nat.lt_of_lt_of_le lR F.next, fun j hj => ?_, fun j hj => ?_⟩
  · simp only [upN]
    by_cases e : j = i
    · subst e; rw [if_pos rfl, H.get_set_ne _ hne]; exact h3
    · have := g.hρ j (by omega)
      rw [if_neg e, H.get_set_ne _ (by omega)]
      exact (F.get _ (g.ltρ j (by omega))).trans (g.row j (by omega))
  · simp only [upN] at e
    by_cases e1 : a = i
    · by_cases e2 : b = i
      · omega
      · have := g.ltρ b (by omega)
        rw [if_pos e1, if_neg e2] at e; omega
    · have := g.ltρ a (by omega)
      by_cases e2 : b = i
      · rw [if_neg e1, if_pos e2] at e; omega
      · rw [if_neg e1, if_neg e2] at e
        exact g.inj a b (by omega) (by omega) e
  · simp only [upN]
    split
    · omega
    · exact g.hρ j (by omega)
  · simp only [upN]
    split
    · exact h2
    · exact Nat.lt_of_lt_of_le (g.ltρ j (by omega)) F.next
theorem Gp.done {h : H} {R n c : Nat} {ρ : Nat → Nat} {f : Nat → Nat → Int} {lo : Nat} (g : Gp h R n c n ρ f lo) : Gc h R n c ρ (fun _ => .un 1) (fun _ => []) f lo := by
  refine ⟨?_, fun i hi => by rw [List.append_nil]; exact g.row i hi, g.inj, g.hR, g.ltR, fun i hi => Nat.le_trans g.hR (Nat.le_of_lt (g.hρ i hi)), g.ltρ, fun i hi => by have := g.hρ i hi; omega⟩
  rw [g.gR]
  congr 2
  refine List.ext_getElem (by simp) fun j h1 _ => ?_
  simp only [List.length_map, List.length_range] at h1
  rw [List.getElem_map, List.getElem_map, List.getElem_range, if_pos h1]
theorem add_mod' {p a b c d : Int} (h : a % p = b % p) (k : c % p = d % p) : (a + c) % p = (b + d) % p := by
  rw [Int.add_emod, h, k, ← Int.add_emod]
theorem shear_eq {p f : Int} {n k c : Nat} {B : Mx} (hb : ∀ i j, i < n → j < n → 0 ≤ B i j ∧ B i j < p) (hk : k < n) (hc : c < n) {i j : Nat} (hi : i < n) (hj : j < n) :
    (if j = c then ((if i = k then (B k c + (p - f) * B c c) % p else B i c) + f * (if i = k then (B k k + (p - f) * B c k) % p else B i k)) % p else (if i = k then (B k j + (p - f) * B c j) % p else B i j)) = shear B k c f i j % p := by
  have em : ∀ z : Int, z % p % p = z % p := fun z => Int.emod_emod_of_dvd _ (Int.dvd_refl p)
  have e1 : ∀ x y : Int, (x + (p - f) * y) % p = (x - f * y) % p := fun x y => by
    rw [show x + (p - f) * y = (x - f * y) + p * y by grind, Int.add_mul_emod_self_left]
  simp only [shear]
  by_cases h1 : i = k
  · rw [if_pos h1, if_pos h1, if_pos h1, if_pos h1, if_pos h1]
    by_cases h2 : j = c
    · rw [if_pos h2, if_pos h2, h2]
      exact add_mod' (by rw [em, e1]) (mul_mod rfl (by rw [em, e1]))
    · rw [if_neg h2, if_neg h2, Int.add_zero, e1]
  · rw [if_neg h1, if_neg h1, if_neg h1, if_neg h1, if_neg h1]
    by_cases h2 : j = c
    · rw [if_pos h2, if_pos h2, h2]
    · rw [if_neg h2, if_neg h2, Int.add_zero]
      have := hb i j hi hj
      exact (Int.emod_eq_of_lt this.1 this.2).symm
set_option maxHeartbeats 8000000 in
theorem bent_ok (va : V) (a : Mat) (n : Nat) (h : H) (ha : MatV h va a) (da : Vd a n) (hsq : a.2.length = n) :
    Ev T n_matrix_bent [va] h (fun v h' => ∃ R B, v = .sl R 0 n (.kn n) ∧ SR h' v (mkR n n B) ∧ Bnt a.1 n (ent a.2) n B ∧ Fr h h') := by
  obtain ⟨ua, rfl, hua⟩ := ha
  obtain ⟨p, A⟩ := a
  simp only at hua hsq
  have wa := SV.what hua.choose_spec.1
  have hfp := da.p
  have hp := fieldF_range hfp
  have hP : isP p = true := by simp only [fieldF, Bool.and_eq_true] at hfp; exact hfp.2
  have hn1 := da.r1
  have hn2 := da.r2
  simp only at hp hn1 hn2 hfp
  rw [hsq] at hn1 hn2
  refine Ev_of t_matrix_bent rfl ?_
  simp (disch := first | omega | (simp only [Qn] <;> omega)) only [go_sem, c_matrix_bent, initV_eq, boxV_agg2 h (v := .int .i64 p) rfl wa.2.1]
  have hfx : Fr h (h.new (.cells false [.int .i64 p, ua])) := (Fr.refl h).new _
  have hgx : (h.new (.cells false [.int .i64 p, ua])).get h.next = some (.cells false [.int .i64 p, ua]) := H.get_new_same ..
  have hnx : (h.new (.cells false [.int .i64 p, ua])).next = h.next + 1 := H.next_new ..
  generalize h.new (.cells false [.int .i64 p, ua]) = hx at *
  have x0 : hx.cell h.next 0 = some (.int .i64 p) := by rw [H.cell_of hgx]; rfl
  have x1 : hx.cell h.next 1 = some ua := by rw [H.cell_of hgx]; rfl
  have lu := hua.lens
  rw [hsq] at lu
  have fb0 : Fr hx (H.mk hx.tr (h.next + 1 + 7)) := (Fr.refl hx).bump (by omega)
  have emk : mksV (H.mk hx.tr (h.next + 1 + 7)) 1 24 [.nils] (.int .i64 (n : Int)) (.int .i64 (n : Int)) = some (.sl (h.next + 1 + 7) 0 n (.kn n), (H.mk hx.tr (h.next + 1 + 7)).new (.cells false (List.replicate n .nils))) := by
    rw [mksV_int (by omega) (Int.le_refl _) (by omega) (by omega), Int.toNat_natCast, Nat.mul_one]
    congr 4
    refine List.ext_getElem (by simp [zerosV]) fun i _ _ => ?_
    simp [zerosV, Nat.mod_one]
  simp (disch := first | omega | (simp only [Qn] <;> omega)) only [go_sem, x0, x1, lu, emk]
  have nb0 : (H.mk hx.tr (h.next + 1 + 7)).next = h.next + 1 + 7 := rfl
  generalize H.mk hx.tr (h.next + 1 + 7) = hb at *
  rw [← nb0]
  have hfm : Fr hb (hb.new (.cells false (List.replicate n .nils))) := (Fr.refl hb).new _
  have hgm : (hb.new (.cells false (List.replicate n .nils))).get hb.next = some (.cells false (List.replicate n .nils)) := H.get_new_same ..
  have hnm : (hb.new (.cells false (List.replicate n .nils))).next = hb.next + 1 := H.next_new ..
  generalize hb.new (.cells false (List.replicate n .nils)) = hm at *
  have Fm : Fr hx hm := fb0.trans hfm
  have G0 : Gp hm hb.next n n 0 (fun _ => 0) (ent A) hx.next := Gp.zero hgm (by omega) (by omega)
  have Fh : Fr h hm := hfx.trans Fm
  have x1m : hm.cell h.next 1 = some ua := by rw [Fm.cell (by omega)]; exact x1
  obtain ⟨ida, offa, wsa, sa, hida, hwla, hca, halla⟩ := (hua.mono Fh).open
  rw [hsq] at sa hida hwla hca
  obtain ⟨R, hR⟩ : ∃ R, hb.next = R := ⟨_, rfl⟩
  rw [hR] at G0 hnm
  rw [hR]
  refine Wp_loop (fun k' vars h3 => ∃ (i : Nat) (ρ : Nat → Nat), (∃ g : Nat → V, vars = [g 0, g 1, g 2, .int .i64 p, .int .i64 (n : Int), .sl R 0 n (.kn n), g 6, g 7, g 8, g 9, g 10, g 11, g 12, g 13, g 14, ua, .int .i64 (n : Int), .int .i64 (i : Int), g 18, g 19, g 20, g 21, g 22, g 23, g 24, g 25, g 26, g 27, g 28, g 29, g 30, g 31, g 32]) ∧ i ≤ n ∧ Gp h3 R n n i ρ (ent A) hx.next ∧ Fr hx h3 ∧ SR h3 ua A ∧ k' = n - i) n
    ⟨0, _, ex_junk rfl, Nat.zero_le _, G0, Fm, hua.mono Fh, rfl⟩ ?_
  clear G0 Fm Fh x1m ida offa wsa sa hida hwla hca halla
  rintro k' vars h3 ⟨i, ρ, ⟨g, rfl⟩, hi, G3, F3, s3, rfl⟩
  simp (disch := first | omega | (simp only [Qn] <;> omega)) only [go_sem]
  by_cases hlt : (i : Int) < (n : Int)
  · rw [decide_eq_true hlt]
    obtain ⟨ida, offa, wsa, sa, hida, hwla, hca, halla⟩ := s3.open
    rw [hsq] at sa hida hwla hca
    have ri := row_at halla (i := i) (by omega)
    have lri : (A.getD i []).length = n := da.row i (by simp only; omega)
    have eri : A.getD i [] = mkV n (ent A i) := mkV_eq lri fun k _ => rfl
    rw [eri] at ri
    simp (disch := first | omega | (simp only [Qn] <;> omega)) only [go_sem, sa.ixa, hca i (by omega)]
    refine (clone_ok _ _ h3 ri (by rw [mkV_len]; omega)).mono ?_
    rintro v h4 ⟨_, f4, hcp⟩
    obtain ⟨id, rfl, h41, h42, h43⟩ := hcp (by rw [mkV_len]; omega)
    rw [mkV_len]
    obtain ⟨pt, G4⟩ := G3.step (by omega) f4 h41 h42 h43
    simp (disch := first | omega | (simp only [Qn] <;> omega)) only [go_sem, pt]
    have ltR := G3.ltR
    have hRl := G3.hR
    refine ⟨n - (i + 1), by omega, i + 1, _, ex_junk rfl, by omega, G4, (F3.trans f4).set hRl _, ?_, rfl⟩
    exact (hua.mono hfx).mono ((F3.trans f4).set hRl _)
  rw [decide_eq_false hlt]
  obtain rfl : n = i := by omega
  simp (disch := first | omega | (simp only [Qn] <;> omega)) only [go_sem]
  have F3' := F3
  have ltR := G3.ltR
  have hRl := G3.hR
  have hA : ∀ i j, i < n → j < n → 0 ≤ ent A i j ∧ ent A i j < p := fun i j hi hj => ⟨da.lo i j (by simp only; omega) hj, da.hi i j (by simp only; omega) hj⟩
  refine Wp_loop (fun k' vars h3 => ∃ (c : Nat) (ρ : Nat → Nat) (κ : Nat → Cap) (τ : Nat → List V) (B : Mx), (∃ g : Nat → V, vars = [g 0, g 1, g 2, .int .i64 p, .int .i64 (n : Int), .sl R 0 n (.kn n), g 6, g 7, g 8, g 9, g 10, g 11, g 12, g 13, g 14, g 15, g 16, g 17, g 18, .int .i64 (n : Int), .int .i64 (c : Int), g 21, g 22, g 23, g 24, g 25, g 26, g 27, g 28, g 29, g 30, g 31, g 32]) ∧ c ≤ n ∧ Gc h3 R n n ρ κ τ B hx.next ∧ Bnt p n (ent A) c B ∧ Fr hx h3 ∧ k' = n - c) n
    ⟨0, ρ, _, _, ent A, ex_junk rfl, Nat.zero_le _, G3.done, Bnt.start hA fun _ _ _ _ => rfl, F3, rfl⟩ ?_
  clear G3 F3 s3 F3'
  rintro k' vars h3 ⟨c, ρ, κ, τ, B, ⟨g, rfl⟩, hc, G, Bn, F, rfl⟩
  simp (disch := first | omega | (simp only [Qn] <;> omega)) only [go_sem]
  by_cases hlt : (c : Int) < (n : Int)
  · rw [decide_eq_true hlt]
    simp (disch := first | omega | (simp only [Qn] <;> omega)) only [go_sem]
    rw [show (c : Int) + 1 = ((c + 1 : Nat) : Int) from by omega]
    refine Wp_loop (fun k' vars h4 => h4 = h3 ∧ ∃ r : Nat, (∃ g : Nat → V, vars = [g 0, g 1, g 2, .int .i64 p, .int .i64 (n : Int), .sl R 0 n (.kn n), g 6, g 7, .int .i64 (c : Int), .int .i64 (r : Int), g 10, g 11, g 12, g 13, g 14, g 15, g 16, g 17, g 18, .int .i64 (n : Int), .int .i64 (c : Int), g 21, g 22, g 23, g 24, g 25, g 26, g 27, g 28, g 29, g 30, g 31, g 32]) ∧ c + 1 ≤ r ∧ r ≤ n ∧ (∀ i, c + 1 ≤ i → i < r → B i c = 0) ∧ k' = n - r) (n - (c + 1))
      ⟨rfl, c + 1, ex_junk rfl, Nat.le_refl _, by omega, fun i h1 h2 => by omega, rfl⟩ ?_
    rintro k' vars h4 ⟨rfl, r, ⟨g, rfl⟩, hr1, hr2, hz, rfl⟩
    simp (disch := first | omega | (simp only [Qn] <;> omega)) only [go_sem]
    by_cases hrn : (r : Int) < (n : Int)
    · rw [decide_eq_true hrn]
      simp (disch := first | omega | (simp only [Qn] <;> omega)) only [go_sem, G.cR r (by omega), G.cρ r c (by omega) (by omega)]
      by_cases hB : B r c = 0
      · rw [decide_eq_true hB]
        simp (disch := first | omega | (simp only [Qn] <;> omega)) only [go_sem]
        rw [show (r : Int) + 1 = ((r + 1 : Nat) : Int) from by omega]
        refine ⟨n - (r + 1), by omega, r + 1, ex_junk rfl, by omega, by omega, fun i h1 h2 => ?_, rfl⟩
        by_cases e : i = r
        · rw [e]; exact hB
        · exact hz i h1 (by omega)
      rw [decide_eq_false hB]
      simp (disch := first | omega | (simp only [Qn] <;> omega)) only [go_sem]
      rw [decide_eq_false (show ¬ (n : Int) ≤ (r : Int) by omega)]
      have tn : ((c : Int) + 1).toNat = c + 1 := by omega
      have fb : Fr h4 (H.mk h4.tr (h4.next + 18)) := (Fr.refl h4).bump (by omega)
      have G5 := G.fr fb
      have F5 := F.trans fb
      have hr : r < n := by omega
      have hc1 : c + 1 < n := by omega
      have hs1 := fun hh => stV_one (y := V.sl (ρ (c + 1)) 0 n (κ (c + 1))) rfl rfl hh R r
      have hs2 := fun hh => stV_one (y := V.sl (ρ r) 0 n (κ r)) rfl rfl hh R (c + 1)
      have pt1 := fun hh => putO_one (vs := (List.range n).map fun i => V.sl (ρ i) 0 n (κ i)) (off := r) (by simpa using hr) hh R (V.sl (ρ (c + 1)) 0 n (κ (c + 1)))
      have pt2 := fun hh => putO_one (vs := ((List.range n).map fun i => V.sl (ρ i) 0 n (κ i)).set r (V.sl (ρ (c + 1)) 0 n (κ (c + 1)))) (off := c + 1) (by simpa using hc1) hh R (V.sl (ρ r) 0 n (κ r))
      simp (disch := first | omega | (simp only [Qn] <;> omega)) only [go_sem, tn, G.cR (c + 1) (by omega), G.cR r (by omega), G5.gR, hs1, hs2, pt1, pt2]
      have G6 := (G5.swap hr hc1).same (h' := (((H.mk h4.tr (h4.next + 18)).set R (some (.cells false (((List.range n).map fun i => V.sl (ρ i) 0 n (κ i)).set r (.sl (ρ (c + 1)) 0 n (κ (c + 1))))))).set R (some (.cells false ((((List.range n).map fun i => V.sl (ρ i) 0 n (κ i)).set r (.sl (ρ (c + 1)) 0 n (κ (c + 1)))).set (c + 1) (.sl (ρ r) 0 n (κ r))))))) (set_twice _ _ _ _) rfl
      have F6 := (F5.set hRl (some (.cells false (((List.range n).map fun i => V.sl (ρ i) 0 n (κ i)).set r (.sl (ρ (c + 1)) 0 n (κ (c + 1))))))).set hRl (some (.cells false ((((List.range n).map fun i => V.sl (ρ i) 0 n (κ i)).set r (.sl (ρ (c + 1)) 0 n (κ (c + 1)))).set (c + 1) (.sl (ρ r) 0 n (κ r)))))
      generalize ((H.mk h4.tr (h4.next + 18)).set R (some (.cells false (((List.range n).map fun i => V.sl (ρ i) 0 n (κ i)).set r (.sl (ρ (c + 1)) 0 n (κ (c + 1))))))).set R (some (.cells false ((((List.range n).map fun i => V.sl (ρ i) 0 n (κ i)).set r (.sl (ρ (c + 1)) 0 n (κ (c + 1)))).set (c + 1) (.sl (ρ r) 0 n (κ r))))) = h6 at *
      clear G G5 F F5 fb hs1 hs2 pt1 pt2
      have eB : ∀ k, k = r → B (sw r (c + 1) (c + 1)) c ≠ 0 := fun k _ => by rw [sw_right]; exact hB
      generalize (fun i => ρ (sw r (c + 1) i)) = ρ at *
      generalize (fun i => κ (sw r (c + 1) i)) = κ at *
      generalize (fun i => τ (sw r (c + 1) i)) = τ at *
      refine Wp_loop (fun k' vars h3 => ∃ (i : Nat), (∃ g : Nat → V, vars = [g 0, g 1, g 2, .int .i64 p, .int .i64 (n : Int), .sl R 0 n (.kn n), g 6, g 7, .int .i64 (c : Int), .int .i64 (r : Int), g 10, g 11, g 12, g 13, g 14, g 15, g 16, g 17, g 18, .int .i64 (n : Int), .int .i64 (c : Int), g 21, g 22, g 23, .sl R 0 n (.kn n), .int .i64 (n : Int), .int .i64 (i : Int), g 27, g 28, g 29, g 30, g 31, g 32]) ∧ i ≤ n ∧ Gc h3 R n n ρ κ τ (fun a b => if a < i then B (sw r (c + 1) a) (sw r (c + 1) b) else B (sw r (c + 1) a) b) hx.next ∧ Fr hx h3 ∧ k' = n - i) n
        ⟨0, ex_junk rfl, Nat.zero_le _, G6.congr fun a b _ _ => by rw [if_neg (Nat.not_lt_zero a)], F6, rfl⟩ ?_
      clear G6 F6
      rintro k' vars h7 ⟨i, ⟨g, rfl⟩, hi, G, F, rfl⟩
      simp (disch := first | omega | (simp only [Qn] <;> omega)) only [go_sem]
      by_cases hin : (i : Int) < (n : Int)
      · rw [decide_eq_true hin]
        have hi' : i < n := by omega
        have fb : Fr h7 (H.mk h7.tr (h7.next + 18)) := (Fr.refl h7).bump (by omega)
        have G5 := G.fr fb
        have F5 := F.trans fb
        obtain ⟨p1, G7⟩ := G5.put hi' hr (B (sw r (c + 1) i) (c + 1))
        obtain ⟨p2, G8⟩ := G7.put hi' hc1 (B (sw r (c + 1) i) r)
        have y1 := G.cρ i (c + 1) hi' hc1
        have y2 := G.cρ i r hi' hr
        have hρl := G.hρ i hi'
        simp only [if_neg (Nat.lt_irrefl i)] at y1 y2
        replace p1 : putO (h7.get (ρ i)) (H.mk h7.tr (h7.next + 18)) (ρ i) r [.int .i64 (B (sw r (c + 1) i) (c + 1))] = _ := p1
        rw [H.get_set_same] at p2
        simp (disch := first | omega | (simp only [Qn] <;> omega)) only [go_sem, tn, G.cR i hi', y1, y2, p1, p2]
        rw [show (i : Int) + 1 = ((i + 1 : Nat) : Int) from by omega]
        refine ⟨n - (i + 1), by omega, i + 1, ex_junk rfl, by omega, G8.congr fun a b ha hb => ?_, (F5.set hρl _).set hρl _, rfl⟩
        simp only [upF]
        by_cases e : a = i
        · subst e
          rw [if_pos (show a < a + 1 by omega)]
          simp only [true_and, if_neg (Nat.lt_irrefl a)]
          by_cases e1 : b = c + 1
          · rw [if_pos e1, e1, sw_right]
          · rw [if_neg e1]
            by_cases e2 : b = r
            · rw [if_pos e2, e2, sw_left]
            · rw [if_neg e2, sw_other e2 e1]
        · rw [if_neg (fun h => e h.1), if_neg (fun h => e h.1)]
          by_cases e3 : a < i
          · rw [if_pos e3, if_pos (by omega)]
          · rw [if_neg e3, if_neg (by omega)]
      rw [decide_eq_false hin]
      obtain rfl : n = i := by omega
      have Bs : Bnt p n (ent A) c (fun a b => B (sw r (c + 1) a) (sw r (c + 1) b)) := Bn.swap hr hc1 hr1 fun _ _ _ _ => rfl
      have G := G.congr (f' := fun a b => B (sw r (c + 1) a) (sw r (c + 1) b)) fun a b ha _ => if_pos ha
      have hp0 : (fun a b => B (sw r (c + 1) a) (sw r (c + 1) b)) (c + 1) c ≠ 0 := by
        simp only
        rw [sw_right, sw_other (show c ≠ r by omega) (show c ≠ c + 1 by omega)]; exact hB
      clear Bn eB hB hz
      generalize (fun a b => B (sw r (c + 1) a) (sw r (c + 1) b)) = B at *
      have pv := Bs.rng (c + 1) c hc1 (by omega)
      simp (disch := first | omega | (simp only [Qn] <;> omega)) only [go_sem, tn, G.cR (c + 1) hc1, G.cρ (c + 1) c hc1 (by omega)]
      refine (inv_ok (B (c + 1) c) p h7 hP hp.2 (by omega)).mono ?_
      rintro v h8 ⟨x, rfl, x1, x2, x3, f8⟩
      replace G := G.fr f8
      replace F := F.trans f8
      simp (disch := first | omega | (simp only [Qn] <;> omega)) only [go_sem, List.getElem?_cons_zero, List.getElem?_cons_succ]
      rw [show (c : Int) + 2 = ((c + 2 : Nat) : Int) from by omega]
      refine Wp_loop (fun k' vars h3 => ∃ (k : Nat) (ρ : Nat → Nat) (κ : Nat → Cap) (τ : Nat → List V) (B : Mx), (∃ g : Nat → V, vars = [g 0, g 1, g 2, .int .i64 p, .int .i64 (n : Int), .sl R 0 n (.kn n), g 6, g 7, .int .i64 (c : Int), g 9, g 10, .int .i64 x, .int .i64 (k : Int), g 13, g 14, g 15, g 16, g 17, g 18, .int .i64 (n : Int), .int .i64 (c : Int), g 21, g 22, g 23, g 24, g 25, g 26, g 27, g 28, g 29, g 30, g 31, g 32]) ∧ c + 2 ≤ k ∧ k ≤ n ∧ Gc h3 R n n ρ κ τ B hx.next ∧ Bnt p n (ent A) c B ∧ x * B (c + 1) c % p = 1 ∧ (∀ i, c + 1 < i → i < k → B i c = 0) ∧ Fr hx h3 ∧ k' = n - k) (n - (c + 2))
        ⟨c + 2, ρ, κ, τ, B, ex_junk rfl, Nat.le_refl _, by omega, G, Bs, x3, fun i h1 h2 => by omega, F, rfl⟩ ?_
      clear G F Bs x3 pv hp0 f8
      rintro k' vars h9 ⟨k, ρ, κ, τ, B, ⟨g, rfl⟩, hk1, hk2, G, Bs, x3, hz, F, rfl⟩
      simp (disch := first | omega | (simp only [Qn] <;> omega)) only [go_sem]
      by_cases hkn : (k : Int) < (n : Int)
      · rw [decide_eq_true hkn]
        have hk : k < n := by omega
        have hb := Bs.rng
        have b1 := mul_bound (hb k c hk (by omega)).1 (hb k c hk (by omega)).2 (show 0 ≤ x by omega) x2 hp.2
        have em := nonneg_tmod (p := p) b1.1
        have rf := tmod_range (B k c * x) (show 0 < p by omega)
        have fb : Fr h9 (H.mk h9.tr (h9.next + 19)) := (Fr.refl h9).bump (by omega)
        have G5 := G.fr fb
        have F5 := F.trans fb
        have n5 : (H.mk h9.tr (h9.next + 19)).next = h9.next + 19 := rfl
        simp (disch := first | omega | (simp only [Qn] <;> omega)) only [go_sem, tn, G.cR k hk, G.cR (c + 1) hc1, G.cρ k c hk (by omega), em]
        generalize H.mk h9.tr (h9.next + 19) = h10 at *
        obtain ⟨f, hf⟩ : ∃ f, B k c * x % p = f := ⟨_, rfl⟩
        rw [hf] at rf
        rw [hf]
        refine (plus_ok p (p - f) h10).mono ?_
        rintro w h11 ⟨ix, ip, rfl, cx, cp, lx, lp, f11⟩
        have G6 := G5.fr f11
        have F6 := F5.trans f11
        simp (disch := first | omega | (simp only [Qn] <;> omega)) only [go_sem, G6.cR k hk, G6.cR (c + 1) hc1, eqV_sl]
        refine (zip_ok _ _ _ _ _ (fun a b => (a + (p - f) * b) % p) h11 (G6.si hk) (G6.si hc1) (by rw [mkV_len, mkV_len]; exact Nat.le_refl _) (by rw [mkV_len]; omega) fun h' f' j hj => ?_).mono ?_
        · rw [mkV_len] at hj
          rw [mkV_get _ hj, mkV_get _ hj]
          have a1 := hb (c + 1) j hc1 hj
          have a2 := hb k j hk hj
          have b1 := Int.mul_nonneg (show 0 ≤ p - f by omega) a1.1
          have b2 := Int.mul_le_mul (show p - f ≤ 20000 by omega) (Int.le_of_lt a1.2) a1.1 (by omega)
          exact plus1_ok ix ip p (p - f) _ _ h' (by rw [f'.cell lx.2]; exact cx) (by rw [f'.cell lp.2]; exact cp) (by omega) (by omega) (by omega) (by omega)
        rintro w h12 ⟨o12, f12⟩
        rw [zip_mkV (mkV_len n _)] at o12
        obtain ⟨id, cap, rest, rfl, i1, i2, i3⟩ := own_open o12 (by rw [mkV_len]; omega)
        rw [mkV_len]
        have G7 := G6.rowset f12 hk (cap := cap) i1 i2 i3
        have F7 := (F6.trans f12).set hRl (some (.cells false (((List.range n).map fun i => V.sl (ρ i) 0 n (κ i)).set k (.sl id 0 n cap))))
        have G6' := G6.fr f12
        have hs := fun hh => stV_one (y := V.sl id 0 n cap) rfl rfl hh R k
        have pt := fun hh => putO_one (vs := (List.range n).map fun i => V.sl (ρ i) 0 n (κ i)) (off := k) (by simpa using hk) hh R (V.sl id 0 n cap)
        simp (disch := first | omega | (simp only [Qn] <;> omega)) only [go_sem, G6'.gR, hs, pt]
        generalize h12.set R (some (.cells false (((List.range n).map fun i => V.sl (ρ i) 0 n (κ i)).set k (.sl id 0 n cap)))) = h13 at *
        obtain ⟨C, hC⟩ : ∃ C : Mx, C = fun a b => if a = k then (B k b + (p - f) * B (c + 1) b) % p else B a b := ⟨_, rfl⟩
        have eC : ∀ a b, C a b = if a = k then (B k b + (p - f) * B (c + 1) b) % p else B a b := fun a b => by rw [hC]
        have rC : ∀ a b, a < n → b < n → 0 ≤ C a b ∧ C a b < p := fun a b ha hb2 => by
          rw [eC]
          split
          · exact tmod_range _ (by omega)
          · exact hb a b ha hb2
        have G8 := G7.congr (f' := fun a b => if a < 0 ∧ b = c + 1 then (C a (c + 1) + f * C a k) % p else C a b) fun a b _ hb2 => by
          rw [show (if a < 0 ∧ b = c + 1 then (C a (c + 1) + f * C a k) % p else C a b) = C a b from if_neg (fun h => Nat.not_lt_zero a h.1), eC]
          by_cases e : a = k
          · rw [if_pos e, if_pos e, mkV_get _ hb2]
          · rw [if_neg e, if_neg e]
        clear G7 G6 G6' G5 G F6 F5 F hs pt i3 o12 cx cp
        generalize upN ρ k id = ρ' at *
        generalize upN κ k cap = κ' at *
        generalize upN τ k rest = τ' at *
        refine Wp_loop (fun k' vars h3 => ∃ (i : Nat), (∃ g : Nat → V, vars = [g 0, g 1, g 2, .int .i64 p, .int .i64 (n : Int), .sl R 0 n (.kn n), g 6, g 7, .int .i64 (c : Int), g 9, g 10, .int .i64 x, .int .i64 (k : Int), .int .i64 f, g 14, g 15, g 16, g 17, g 18, .int .i64 (n : Int), .int .i64 (c : Int), g 21, g 22, g 23, g 24, g 25, g 26, g 27, g 28, .sl R 0 n (.kn n), .int .i64 (n : Int), .int .i64 (i : Int), g 32]) ∧ i ≤ n ∧ Gc h3 R n n ρ' κ' τ' (fun a b => if a < i ∧ b = c + 1 then (C a (c + 1) + f * C a k) % p else C a b) hx.next ∧ Fr hx h3 ∧ k' = n - i) n
          ⟨0, ex_junk rfl, Nat.zero_le _, G8, F7, rfl⟩ ?_
        clear G8 F7
        rintro k' vars h14 ⟨i, ⟨g, rfl⟩, hi, G, F, rfl⟩
        simp (disch := first | omega | (simp only [Qn] <;> omega)) only [go_sem]
        by_cases hin : (i : Int) < (n : Int)
        · rw [decide_eq_true hin]
          have hi' : i < n := by omega
          have fb : Fr h14 (H.mk h14.tr (h14.next + 19)) := (Fr.refl h14).bump (by omega)
          have G5 := G.fr fb
          have F5 := F.trans fb
          obtain ⟨p1, G7⟩ := G5.put hi' hc1 ((C i (c + 1) + f * C i k) % p)
          have y1 := G.cρ i (c + 1) hi' hc1
          have y2 := G.cρ i k hi' hk
          have hρl := G.hρ i hi'
          rw [if_neg (fun h => Nat.lt_irrefl i h.1)] at y1 y2
          replace p1 : putO (h14.get (ρ' i)) (H.mk h14.tr (h14.next + 19)) (ρ' i) (c + 1) [.int .i64 ((C i (c + 1) + f * C i k) % p)] = _ := p1
          have b1 := mul_bound rf.1 rf.2 (rC i k hi' hk).1 (rC i k hi' hk).2 hp.2
          have b2 := rC i (c + 1) hi' hc1
          have em := nonneg_tmod (a := C i (c + 1) + f * C i k) (p := p) (by omega)
          simp (disch := first | omega | (simp only [Qn] <;> omega)) only [go_sem, tn, G.cR i hi', y1, y2, em, p1]
          rw [show (i : Int) + 1 = ((i + 1 : Nat) : Int) from by omega]
          refine ⟨n - (i + 1), by omega, i + 1, ex_junk rfl, by omega, G7.congr fun a b ha hb2 => ?_, F5.set hρl _, rfl⟩
          simp only [upF]
          by_cases e : a = i ∧ b = c + 1
          · rw [if_pos e, if_pos ⟨by omega, e.2⟩, e.1]
          · rw [if_neg e]
            by_cases e3 : a < i ∧ b = c + 1
            · rw [if_pos e3, if_pos ⟨by omega, e3.2⟩]
            · rw [if_neg e3, if_neg (fun h => e3 ⟨by omega, h.2⟩)]
        rw [decide_eq_false hin]
        obtain rfl : n = i := by omega
        simp (disch := first | omega | (simp only [Qn] <;> omega)) only [go_sem]
        rw [show (k : Int) + 1 = ((k + 1 : Nat) : Int) from by omega]
        have sh : ∀ a b, a < n → b < n → (if a < n ∧ b = c + 1 then (C a (c + 1) + f * C a k) % p else C a b) = shear B k (c + 1) f a b % p := fun a b ha hb2 => by
          rw [← shear_eq hb hk hc1 ha hb2]
          by_cases e : b = c + 1
          · rw [if_pos ⟨ha, e⟩, if_pos e, eC, eC]
          · rw [if_neg (fun h => e h.2), if_neg e, eC]
        subst hf
        obtain ⟨z1, z2⟩ := shear_col (by omega) hk (show c + 1 < k by omega) hb x3 sh
        refine ⟨n - (k + 1), by omega, k + 1, ρ', κ', τ', _, ex_junk rfl, by omega, by omega, G, Bs.shear (by omega) hk (by omega) _ sh, ?_, fun i h1 h2 => ?_, F, rfl⟩
        · rw [z2 (c + 1) hc1 (by omega)]; exact x3
        · by_cases e : i = k
          · rw [e]; exact z1
          · rw [z2 i (by omega) e]; exact hz i h1 (by omega)
      rw [decide_eq_false hkn]
      simp (disch := first | omega | (simp only [Qn] <;> omega)) only [go_sem]
      rw [show (c : Int) + 1 = ((c + 1 : Nat) : Int) from by omega]
      exact ⟨n - (c + 1), by omega, c + 1, ρ, κ, τ, B, ex_junk rfl, by omega, G, Bs.skip fun i h1 h2 => hz i h1 (by omega), F, rfl⟩
    rw [decide_eq_false hrn]
    simp (disch := first | omega | (simp only [Qn] <;> omega)) only [go_sem]
    rw [decide_eq_true (show (n : Int) ≤ (r : Int) by omega)]
    simp (disch := first | omega | (simp only [Qn] <;> omega)) only [go_sem]
    rw [show (c : Int) + 1 = ((c + 1 : Nat) : Int) from by omega]
    refine ⟨n - (c + 1), by omega, c + 1, ρ, κ, τ, B, ex_junk rfl, by omega, G, Bn.skip fun i h1 h2 => hz i (by omega) (by omega), F, rfl⟩
  rw [decide_eq_false hlt]
  obtain rfl : n = c := by omega
  simp (disch := first | omega | (simp only [Qn] <;> omega)) only [go_sem]
  exact ⟨R, B, rfl, G.sr _, Bn, hfx.trans F⟩
end Go.Proofs.Ytlhebmcnjgagjaa

/- Layer 4: Poly. -/
namespace Go.Proofs.Ytlhebmcnjgagjaa
open Go Go.Ay
set_option maxRecDepth 100000
theorem cpy_ok {h : H} {N o : Nat} {cap : Cap} {y : V} {l : List Int} {vs : List V} (hs : SI h y l) (h0 : 0 < l.length) (hg : h.get N = some (.cells false vs)) (hl : o + l.length ≤ vs.length) :
    cpyV h 1 (.sl N o l.length cap) y = some (.int .i64 (l.length : Int), h.set N (some (.cells false (vs.take o ++ ints l ++ vs.drop (o + l.length))))) := by
  have hsl := SV.slice hs
  have hlen := hs.len
  rcases hs with ⟨_, e⟩ | ⟨id, off, len, c2, ro, ws, rfl, h2, h3, h4, h5, h6⟩
  · have : (ints l).length = 0 := by rw [e]; rfl
    rw [ints_length] at this; omega
  · simp only [lenV, Option.some.injEq] at hlen
    subst hlen
    simp only [H.slice] at hsl
    simp only [cpyV, lenV, Nat.min_self, hsl, H.put, hg, putAt, ints_length]
    rw [if_pos hl]
    rfl
/-- What 'next' holds after d steps. -/
def nxP (B : Mx) (k d q : Nat) : Int := shf (chp k B) q - B k k * chp k B q - sm d (fun e => B (k - 1 - e) k * belB B k (e + 1) * chp (k - 1 - e) B q)
theorem nxP_succ (B : Mx) (k d q : Nat) : nxP B k (d + 1) q = nxP B k d q - B (k - 1 - d) k * belB B k (d + 1) * chp (k - 1 - d) B q := by
  simp only [nxP, sm_succ]; omega
theorem step_mod {p a x y z w : Int} (ha : a = x % p) (hz : z % p = w % p) : (a + (p - z) * (y % p)) % p = (x - w * y) % p := by
  have em : ∀ z : Int, z % p % p = z % p := fun z => Int.emod_emod_of_dvd _ (Int.dvd_refl p)
  rw [show a + (p - z) * (y % p) = (a - z * (y % p)) + p * (y % p) by grind, Int.add_mul_emod_self_left, Int.sub_emod, Int.sub_emod x, ha, em]
  rw [mul_mod hz (em y)]
noncomputable def PolyF (a : Mat) : List Int × Int := if sqF a ≠ 0 then ([], sqF a) else (mkV (a.2.length + 1) (fun q => chp a.2.length (ent a.2) q % a.1), 0)
theorem trunc {n : Nat} {B : Mx} {p : Int} {A : Mx} (b : Bnt p n A n B) : ∃ B', (mkR n n B' = mkR n n B) ∧ Bnt p n A n B' ∧ (∀ i j, j + 1 < i → B' i j = 0) := by
  refine ⟨fun i j => if i < n ∧ j < n then B i j else 0, mkR_congr fun i j hi hj => if_pos ⟨hi, hj⟩, b.congr (fun i j hi hj => if_pos ⟨hi, hj⟩) (Nat.le_refl _), fun i j h => ?_⟩
  simp only
  split
  · rename_i h2; exact b.low i j h2.1 h2.2 h
  · rfl
theorem slc_one (N k : Nat) : slcV 1 (.sl N 0 (k + 2) (.kn (k + 2))) (some (.int .i64 1)) none none = some (.sl N 1 (k + 1) (.kn (k + 1))) := by
  simp only [slcV, bndV]
  rw [if_pos ⟨by omega, by omega⟩]
  simp only [Int.toNat_one]
  rw [if_pos (by omega), if_neg (by omega)]
  simp only [Nat.zero_add, Nat.mul_one]
  rw [show k + 2 - 1 = k + 1 by omega]
theorem bls_row (h : H) {v : V} (hv : v.cells = [v]) (hv1 : v.one = true) : blsV h 1 [.nils] 1 [(0, 1, v)] = some (.sl h.next 0 1 (.kn 1), h.new (.cells false [v])) := by
  have e : zerosV [V.nils] 1 = [.nils] := rfl
  simp [blsV, fillV, e, hv, hv1, putAt]
theorem bls_i1 (h : H) (x : Int) : blsV h 1 [.int .i64 0] 1 [(0, 1, .int .i64 x)] = some (.sl h.next 0 1 (.kn 1), h.new (.cells false (ints [x]))) := by
  have e : zerosV [V.int .i64 0] 1 = [.int .i64 0] := rfl
  simp [blsV, fillV, e, putAt, V.cells, V.one, ints]
/-- The rows of 'polys'. -/
def plR (p : Int) (B : Mx) (k : Nat) : List (List Int) := (List.range k).map fun j => mkV (j + 1) (fun q => chp j B q % p)
theorem plR_succ (p : Int) (B : Mx) (k : Nat) : plR p B (k + 1) = plR p B k ++ [mkV (k + 1) (fun q => chp k B q % p)] := by
  simp [plR, List.range_succ]
theorem plR_get {p : Int} {B : Mx} {k j : Nat} (h : j < k) : (plR p B k).getD j [] = mkV (j + 1) (fun q => chp j B q % p) := by
  rw [plR, List.getD_eq_getElem?_getD, List.getElem?_map, List.getElem?_range h]; rfl
theorem plR_len (p : Int) (B : Mx) (k : Nat) : (plR p B k).length = k := by simp [plR]
set_option maxHeartbeats 16000000 in
theorem Poly_ok (va : V) (a : Mat) (h : H) (ha : MatV h va a) (la : (a.2.length : Int) ≤ 2 ^ 63 - 1) : Ev T n_matrix_Poly [va] h (fun v h' => ∃ w, v = .tup [w, .int .i64 (PolyF a).2] ∧ SI h' w (PolyF a).1 ∧ Fr h h') := by
  obtain ⟨ua, rfl, hua⟩ := ha
  refine Ev_of t_matrix_Poly rfl ?_
  have wa := SV.what hua.choose_spec.1
  simp (disch := first | omega | (simp only [Qn] <;> omega)) only [go_sem, c_matrix_Poly, initV_eq, boxV_agg2 h (v := .int .i64 a.1) rfl wa.2.1]
  have hfx : Fr h (h.new (.cells false [.int .i64 a.1, ua])) := (Fr.refl h).new _
  have hgx : (h.new (.cells false [.int .i64 a.1, ua])).get h.next = some (.cells false [.int .i64 a.1, ua]) := H.get_new_same ..
  have hnx : (h.new (.cells false [.int .i64 a.1, ua])).next = h.next + 1 := H.next_new ..
  generalize h.new (.cells false [.int .i64 a.1, ua]) = hx at *
  simp (disch := first | omega | (simp only [Qn] <;> omega)) only [go_sem, row_two hgx]
  refine (square_ok _ a hx ⟨ua, rfl, hua.mono hfx⟩ la).mono ?_
  rintro v h5 ⟨rfl, f5⟩
  have F5 := hfx.trans f5
  have gx5 := (f5.get h.next (by omega)).trans hgx
  have n5 := f5.next
  simp (disch := first | omega | (simp only [Qn] <;> omega)) only [go_sem]
  refine iteW_dec (fun he => ?_) (fun he => ?_)
  · simp (disch := first | omega | (simp only [Qn] <;> omega)) only [go_sem]
    have e : PolyF a = ([], sqF a) := by rw [PolyF, if_pos he]
    rw [e]
    exact ⟨_, rfl, SI.nils _, F5⟩
  have hz : sqF a = 0 := Classical.byContradiction he
  have da := sq_vd hz
  have hp := fieldF_range da.p
  have hn1 := da.r1
  have hn2 := da.r2
  obtain ⟨n, hn⟩ : ∃ n, a.2.length = n := ⟨_, rfl⟩
  rw [hn] at hn1 hn2
  have fb : Fr h5 (H.mk h5.tr (h5.next + 6)) := (Fr.refl h5).bump (by omega)
  have x0 : h5.cell h.next 0 = some (.int .i64 a.1) := by rw [H.cell_of gx5]; rfl
  simp (disch := first | omega | (simp only [Qn] <;> omega)) only [go_sem, row_two gx5, x0]
  generalize H.mk h5.tr (h5.next + 6) = h6 at *
  have F6 := F5.trans fb
  have gx6 := (fb.get h.next (by omega)).trans gx5
  simp (disch := first | omega | (simp only [Qn] <;> omega)) only [go_sem, row_two gx6]
  refine (bent_ok _ a n h6 ⟨ua, rfl, hua.mono F6⟩ (by rw [← hn]; exact da) hn).mono ?_
  rintro v h7 ⟨RB, B0, rfl, sB, bn0, f7⟩
  have F7 := F6.trans f7
  have y0 : h7.cell h.next 0 = some (.int .i64 a.1) := by rw [(fb.trans f7).cell (by omega)]; exact x0
  simp (disch := first | omega | (simp only [Qn] <;> omega)) only [go_sem, y0]
  obtain ⟨B, eB, bn, hB⟩ := trunc bn0
  rw [← eB] at sB
  clear bn0 eB
  have br := bls_row (h7.new (.cells false (ints [1]))) (v := .sl h7.next 0 1 (.kn 1)) rfl rfl
  simp (disch := first | omega | (simp only [Qn] <;> omega)) only [go_sem, bls_i1, br]
  have hfi : Fr h7 (h7.new (.cells false (ints [1]))) := (Fr.refl h7).new _
  have hgi : (h7.new (.cells false (ints [1]))).get h7.next = some (.cells false (ints [1])) := H.get_new_same ..
  have hni : (h7.new (.cells false (ints [1]))).next = h7.next + 1 := H.next_new ..
  generalize h7.new (.cells false (ints [1])) = hi at *
  have hfj : Fr hi (hi.new (.cells false [.sl h7.next 0 1 (.kn 1)])) := (Fr.refl hi).new _
  have hgj : (hi.new (.cells false [.sl h7.next 0 1 (.kn 1)])).get hi.next = some (.cells false [.sl h7.next 0 1 (.kn 1)]) := H.get_new_same ..
  have hnj : (hi.new (.cells false [.sl h7.next 0 1 (.kn 1)])).next = hi.next + 1 := H.next_new ..
  generalize hi.new (.cells false [.sl h7.next 0 1 (.kn 1)]) = hj at *
  obtain ⟨p, hpe⟩ : ∃ p, a.1 = p := ⟨_, rfl⟩
  rw [hpe] at hp bn
  have R0 : Rws hj (.sl hi.next 0 1 (.kn 1)) [.sl h7.next 0 1 (.kn 1)] (plR p B 1) h7.next := by
    have e : plR p B 1 = [[1]] := by
      simp only [plR, List.range_succ, List.range_zero, List.nil_append, List.map_cons, List.map_nil]
      show [[chp 0 B 0 % p]] = [[1]]
      rw [chp_zero, if_pos rfl, one_mod (by omega)]
    rw [e]
    have gi := (hfj.get h7.next (by omega)).trans hgi
    refine ⟨.inr ⟨hi.next, 1, .kn 1, [], rfl, rfl, .inr ⟨rfl, rfl⟩, by omega, by omega, hgj⟩, ⟨SI.own (l := [1]) (by omega) gi _, trivial⟩, fun w hw => ?_, fun w hw => ?_⟩
    · rw [List.mem_singleton.1 hw]
      intro _ _ _ _ e1 _ _ _ _ e2
      cases e1; cases e2; omega
    · rw [List.mem_singleton.1 hw]
      intro _ _ _ _ e2
      cases e2; exact Nat.le_refl _
  have f7j := hfi.trans hfj
  have rwB : ∀ i, i < (mkR n n B).length → ((mkR n n B).getD i []).length = n := fun i hi => by rw [mkR_len] at hi; rw [mkR_row _ hi, mkV_len]
  have lB : lensV (.sl RB 0 n (.kn n)) = some (.int .i64 (n : Int)) := rfl
  have hb := bn.rng
  obtain ⟨idb, offb, wsb, ρb, ob, RDB⟩ := SR.rd sB rwB
  rw [hpe, ← hni]
  refine Wp_loop (fun k' vars h3 => ∃ (k : Nat) (u : V) (ws : List V), (∃ g : Nat → V, vars = [g 0, g 1, g 2, g 3, g 4, .int .i64 p, .sl RB 0 n (.kn n), u, g 8, g 9, g 10, g 11, g 12, g 13, g 14, g 15, g 16, g 17, g 18, .int .i64 (n : Int), .int .i64 (k : Int), g 21, g 22, g 23, g 24, g 25, g 26, g 27, g 28, g 29, g 30]) ∧ k ≤ n ∧ Rws h3 u ws (plR p B (k + 1)) h7.next ∧ Fr h7 h3 ∧ k' = n - k) n
    ⟨0, _, _, ex_junk rfl, Nat.zero_le _, R0, f7j, rfl⟩ ?_
  clear R0 f7j hfi hfj hgi hgj hni hnj
  rintro k' vars h3 ⟨k, u, ws, ⟨g, rfl⟩, hk, R3, f3, rfl⟩
  simp (disch := first | omega | (simp only [Qn] <;> omega)) only [go_sem]
  obtain ⟨idp, offp, wsp, sp, hidp, hwlp, hcp, hallp⟩ := R3.sr.open
  rw [plR_len] at sp hidp hwlp hcp
  by_cases hlt : (k : Int) < (n : Int)
  · rw [decide_eq_true hlt]
    have hk' : k < n := by omega
    have emk : mksV h3 1 8 [.int .i64 0] (.int .i64 ((k : Int) + 2)) (.int .i64 ((k : Int) + 2)) = some (.sl h3.next 0 (k + 2) (.kn (k + 2)), h3.new (.cells false (ints (List.replicate (k + 2) 0)))) := by
      rw [show (k : Int) + 2 = ((k + 2 : Nat) : Int) from by omega, mksV_int (by omega) (Int.le_refl _) (by omega) (by omega), Int.toNat_natCast, Nat.mul_one, zeros_int]
    obtain ⟨Z, hZ⟩ : ∃ Z, List.replicate (k + 2) (0 : Int) = Z := ⟨_, rfl⟩
    rw [hZ] at emk
    have lZ : Z.length = k + 2 := by rw [← hZ, List.length_replicate]
    have ck : (h3.new (.cells false (ints Z))).cell idp (offp + k) = some (wsp.getD k .undef) := by rw [((Fr.refl h3).new _).cell (hidp (by omega))]; exact hcp k (by omega)
    have rk0 := row_at hallp (i := k) (by rw [plR_len]; omega)
    rw [plR_get (by omega)] at rk0
    have rk := rk0.mono ((Fr.refl h3).new (.cells false (ints Z)))
    have cp := cpy_ok rk (N := h3.next) (vs := ints Z) (by rw [mkV_len]; omega) (H.get_new_same ..) (o := 1) (cap := .kn (k + 1)) (by rw [mkV_len, ints_length]; omega)
    rw [mkV_len] at cp
    obtain ⟨o0, ho0, lo0, vo0⟩ : ∃ o0, (ints Z).take 1 ++ ints (mkV (k + 1) (fun q => chp k B q % p)) ++ (ints Z).drop (1 + (k + 1)) = ints o0 ∧ o0.length = k + 2 ∧ ∀ q, q < k + 2 → o0.getD q 0 = (shf (chp k B) q - (if q < 0 then B k k * chp k B q else 0)) % p := by
      refine ⟨0 :: mkV (k + 1) (fun q => chp k B q % p), ?_, by rw [List.length_cons, mkV_len], fun q hq => ?_⟩
      · rw [ints_take, ints_drop, ← ints_append, ← ints_append, List.drop_eq_nil_of_le (by omega), List.append_nil, ← hZ]
        rfl
      · rw [if_neg (Nat.not_lt_zero q), Int.sub_zero]
        cases q with
        | zero => simp [shf]
        | succ q =>
          rw [List.getD_cons_succ, mkV_get _ (by omega)]
          simp [shf]
    rw [ho0] at cp
    simp (disch := first | omega | (simp only [Qn] <;> omega)) only [go_sem, emk, sp.ixa, ck, slc_one, cp, rk.lens, mkV_len]
    have g5 : ((h3.new (.cells false (ints Z))).set h3.next (some (.cells false (ints o0)))).get h3.next = some (.cells false (ints o0)) := H.get_set_same ..
    have f5 : Fr h3 ((h3.new (.cells false (ints Z))).set h3.next (some (.cells false (ints o0)))) := ((Fr.refl h3).new _).set (Nat.le_refl _) _
    have n5' : ((h3.new (.cells false (ints Z))).set h3.next (some (.cells false (ints o0)))).next = h3.next + 1 := rfl
    generalize (h3.new (.cells false (ints Z))).set h3.next (some (.cells false (ints o0))) = h5' at *
    obtain ⟨N, hN⟩ : ∃ N, h3.next = N := ⟨_, rfl⟩
    rw [hN] at g5 n5'
    rw [hN]
    clear rk cp ck emk ho0
    have lk : mkV (k + 1) (fun q => chp k B q % p) = mkV (k + 1) (fun q => chp k B q % p) := rfl
    try rw [show (k : Int) + 1 = ((k + 1 : Nat) : Int) from by omega]
    have hbk := hb k k hk' hk'
    refine Wp_loop (fun k' vars hh => ∃ (i : Nat) (o : List Int), (∃ g : Nat → V, vars = [g 0, g 1, g 2, g 3, g 4, .int .i64 p, .sl RB 0 n (.kn n), u, .int .i64 (k : Int), .sl N 0 (k + 2) (.kn (k + 2)), g 10, g 11, g 12, g 13, g 14, g 15, g 16, g 17, g 18, .int .i64 (n : Int), .int .i64 (k : Int), g 21, wsp.getD k .undef, .int .i64 ((k + 1 : Nat) : Int), .int .i64 (i : Int), g 25, g 26, g 27, g 28, g 29, g 30]) ∧ i ≤ k + 1 ∧ o.length = k + 2 ∧ (∀ q, q < k + 2 → o.getD q 0 = (shf (chp k B) q - (if q < i then B k k * chp k B q else 0)) % p) ∧ hh.get N = some (.cells false (ints o)) ∧ N + 1 ≤ hh.next ∧ Fr h3 hh ∧ k' = k + 1 - i) (k + 1)
      ⟨0, o0, ex_junk rfl, Nat.zero_le _, lo0, vo0, g5, by omega, f5, rfl⟩ ?_
    clear g5 f5 n5' lo0 vo0 lk
    rintro k' vars h6' ⟨i, o, ⟨g, rfl⟩, hi, lo, vo, g6, n6, f6, rfl⟩
    simp (disch := first | omega | (simp only [Qn] <;> omega)) only [go_sem]
    by_cases hik : (i : Int) < ((k + 1 : Nat) : Int)
    · rw [decide_eq_true hik]
      have ri := rk0.mono f6
      obtain ⟨idr, offr, sr, hidr, hcr⟩ := ri.open
      rw [mkV_len] at sr hidr hcr
      have hci := hcr i (by omega)
      rw [mkV_get _ (by omega)] at hci
      have RB6 := RDB.fr (f3.trans f6)
      have kl : k < (mkR n n B).length := by rw [mkR_len]; exact hk'
      have eb := RB6.ent k k kl hk'
      rw [mkR_ent _ hk' hk'] at eb
      have oi : h6'.cell N i = some (.int .i64 (o.getD i 0)) := by rw [H.cell_of g6, ints_getD (by omega)]
      have vi := vo i (by omega)
      rw [if_neg (Nat.lt_irrefl i), Int.sub_zero] at vi
      have ro := tmod_range (shf (chp k B) i) (show 0 < p by omega)
      rw [← vi] at ro
      have rx := tmod_range (chp k B i) (show 0 < p by omega)
      have b1 := Int.mul_nonneg (show 0 ≤ p - B k k by omega) rx.1
      have b2 := Int.mul_le_mul (show p - B k k ≤ 20000 by omega) (Int.le_of_lt rx.2) rx.1 (by omega)
      have em := nonneg_tmod (a := o.getD i 0 + (p - B k k) * (chp k B i % p)) (p := p) (by omega)
      have fb6 : Fr h6' (H.mk h6'.tr (h6'.next + 22)) := (Fr.refl h6').bump (by omega)
      simp (disch := first | omega | (simp only [Qn] <;> omega)) only [go_sem, sr.ixa, hci, RB6.sl.ixa, RB6.at_ k kl, (RB6.rsl k kl).ixa, eb, oi, em, g6]
      rw [show (i : Int) + 1 = ((i + 1 : Nat) : Int) from by omega]
      refine ⟨k + 1 - (i + 1), by omega, i + 1, o.set i ((o.getD i 0 + (p - B k k) * (chp k B i % p)) % p), ex_junk rfl, by omega, by rw [List.length_set]; exact lo, fun q hq => ?_, rfl, by omega, (f6.trans fb6).set (by omega) _, rfl⟩
      rw [getD_set]
      by_cases e : i = q
      · subst e
        rw [if_pos rfl, if_pos (by omega), if_pos (by omega)]
        exact step_mod vi rfl
      · rw [if_neg e, vo q hq]
        by_cases e2 : q < i
        · rw [if_pos e2, if_pos (by omega)]
        · rw [if_neg e2, if_neg (by omega)]
    rw [decide_eq_false hik]
    obtain rfl : k + 1 = i := by omega
    simp (disch := first | omega | (simp only [Qn] <;> omega)) only [go_sem]
    have vo1 : ∀ q, q < k + 2 → o.getD q 0 = nxP B k 0 q % p := fun q hq => by
      rw [vo q hq, nxP]
      by_cases e : q < k + 1
      · rw [if_pos e]; simp [sm]
      · rw [if_neg e, chp_high k B q (by omega)]; simp [sm]
    clear vo
    have b0 : (1 : Int) = belB B k 0 % p := by rw [belB, one_mod (by omega)]
    rw [show (k : Int) - 1 = (k : Int) - 1 - ((0 : Nat) : Int) from by omega]
    refine Wp_loop (fun k' vars hh => ∃ (d : Nat) (bl : Int) (o : List Int), (∃ g : Nat → V, vars = [g 0, g 1, g 2, g 3, g 4, .int .i64 p, .sl RB 0 n (.kn n), u, .int .i64 (k : Int), .sl N 0 (k + 2) (.kn (k + 2)), g 10, g 11, g 12, .int .i64 bl, .int .i64 ((k : Int) - 1 - (d : Int)), g 15, g 16, g 17, g 18, .int .i64 (n : Int), .int .i64 (k : Int), g 21, g 22, g 23, g 24, g 25, g 26, g 27, g 28, g 29, g 30]) ∧ bl = belB B k d % p ∧ d ≤ k ∧ o.length = k + 2 ∧ (∀ q, q < k + 2 → o.getD q 0 = nxP B k d q % p) ∧ hh.get N = some (.cells false (ints o)) ∧ N + 1 ≤ hh.next ∧ Fr h3 hh ∧ k' = k - d) k
      ⟨0, 1, o, ex_junk rfl, b0, Nat.zero_le _, lo, vo1, g6, n6, f6, rfl⟩ ?_
    clear g6 n6 f6 lo vo1 b0
    rintro k' vars h8 ⟨d, bl, o, ⟨g, rfl⟩, rfl, hd, lo, vo, g8, n8, f8, rfl⟩
    simp (disch := first | omega | (simp only [Qn] <;> omega)) only [go_sem]
    by_cases hdk : 0 ≤ (k : Int) - 1 - (d : Int)
    · rw [decide_eq_true hdk]
      obtain ⟨j, hj⟩ : ∃ j : Nat, (k : Int) - 1 - (d : Int) = (j : Int) := ⟨((k : Int) - 1 - (d : Int)).toNat, by omega⟩
      rw [hj]
      have hjk : j < k := by omega
      have tn : ((j : Int) + 1).toNat = j + 1 := by omega
      have RB8 := RDB.fr (f3.trans f8)
      have jl : j < (mkR n n B).length := by rw [mkR_len]; omega
      have jl1 : j + 1 < (mkR n n B).length := by rw [mkR_len]; omega
      have e1 := RB8.ent (j + 1) j jl1 (by omega)
      rw [mkR_ent _ (by omega) (by omega)] at e1
      have e2 := RB8.ent j k jl hk'
      rw [mkR_ent _ (by omega) (by omega)] at e2
      have r1 := hb (j + 1) j (by omega) (by omega)
      have r2 := hb j k (by omega) hk'
      have r0 := tmod_range (belB B k d) (show 0 < p by omega)
      have m1 := mul_bound r0.1 r0.2 r1.1 r1.2 hp.2
      have em1 := nonneg_tmod (p := p) m1.1
      have eb1 : belB B k d % p * B (j + 1) j % p = belB B k (d + 1) % p := by
        rw [belB, show k - d - 1 = j by omega, show k - d = j + 1 by omega, Int.mul_emod, Int.emod_emod_of_dvd _ (Int.dvd_refl p), ← Int.mul_emod]
      rw [eb1] at em1
      have r3 := tmod_range (belB B k (d + 1)) (show 0 < p by omega)
      have m2 := mul_bound r2.1 r2.2 r3.1 r3.2 hp.2
      have em2 := nonneg_tmod (p := p) m2.1
      have rf := tmod_range (B j k * (belB B k (d + 1) % p)) (show 0 < p by omega)
      have cj : h8.cell idp (offp + j) = some (wsp.getD j .undef) := by rw [f8.cell (hidp (by omega))]; exact hcp j (by omega)
      have rj0 := row_at hallp (i := j) (by rw [plR_len]; omega)
      rw [plR_get (by omega)] at rj0
      have lj := (rj0.mono f8).lens
      rw [mkV_len] at lj
      simp (disch := first | omega | (simp only [Qn] <;> omega)) only [go_sem, tn, RB8.sl.ixa, RB8.at_ (j + 1) jl1, (RB8.rsl (j + 1) jl1).ixa, e1, em1, RB8.at_ j jl, (RB8.rsl j jl).ixa, e2, em2, sp.ixa, cj, lj]
      obtain ⟨f, hf⟩ : ∃ f, B j k * (belB B k (d + 1) % p) % p = f := ⟨_, rfl⟩
      rw [hf] at rf
      rw [hf]
      have hfm : f % p = (B (k - 1 - d) k * belB B k (d + 1)) % p := by
        rw [← hf, Int.emod_emod_of_dvd _ (Int.dvd_refl p), show k - 1 - d = j by omega]
        exact mul_mod rfl (Int.emod_emod_of_dvd _ (Int.dvd_refl p))
      clear RB8 e1 e2 em1 em2 m1 m2 eb1 cj lj r0 r1 r2 r3
      refine Wp_loop (fun k' vars hh => ∃ (i : Nat) (o : List Int), (∃ g : Nat → V, vars = [g 0, g 1, g 2, g 3, g 4, .int .i64 p, .sl RB 0 n (.kn n), u, .int .i64 (k : Int), .sl N 0 (k + 2) (.kn (k + 2)), g 10, g 11, g 12, .int .i64 (belB B k (d + 1) % p), .int .i64 (j : Int), .int .i64 f, g 16, g 17, g 18, .int .i64 (n : Int), .int .i64 (k : Int), g 21, g 22, g 23, g 24, g 25, g 26, wsp.getD j .undef, .int .i64 ((j + 1 : Nat) : Int), .int .i64 (i : Int), g 30]) ∧ i ≤ j + 1 ∧ o.length = k + 2 ∧ (∀ q, q < k + 2 → o.getD q 0 = (if q < i then nxP B k (d + 1) q else nxP B k d q) % p) ∧ hh.get N = some (.cells false (ints o)) ∧ N + 1 ≤ hh.next ∧ Fr h3 hh ∧ k' = j + 1 - i) (j + 1)
        ⟨0, o, ex_junk rfl, Nat.zero_le _, lo, fun q hq => by rw [vo q hq, if_neg (Nat.not_lt_zero q)], g8, n8, f8, rfl⟩ ?_
      clear g8 n8 f8 lo vo
      rintro k' vars h9 ⟨i, o, ⟨g, rfl⟩, hi, lo, vo, g9, n9, f9, rfl⟩
      simp (disch := first | omega | (simp only [Qn] <;> omega)) only [go_sem]
      by_cases hij : (i : Int) < ((j + 1 : Nat) : Int)
      · rw [decide_eq_true hij]
        have ri := rj0.mono f9
        obtain ⟨idr, offr, sr, hidr, hcr⟩ := ri.open
        rw [mkV_len] at sr hidr hcr
        have hci := hcr i (by omega)
        rw [mkV_get _ (by omega)] at hci
        have oi : h9.cell N i = some (.int .i64 (o.getD i 0)) := by rw [H.cell_of g9, ints_getD (by omega)]
        have vi := vo i (by omega)
        rw [if_neg (Nat.lt_irrefl i)] at vi
        have ro := tmod_range (nxP B k d i) (show 0 < p by omega)
        rw [← vi] at ro
        have rx := tmod_range (chp j B i) (show 0 < p by omega)
        have b1 := Int.mul_nonneg (show 0 ≤ p - f by omega) rx.1
        have b2 := Int.mul_le_mul (show p - f ≤ 20000 by omega) (Int.le_of_lt rx.2) rx.1 (by omega)
        have em := nonneg_tmod (a := o.getD i 0 + (p - f) * (chp j B i % p)) (p := p) (by omega)
        simp (disch := first | omega | (simp only [Qn] <;> omega)) only [go_sem, sr.ixa, hci, oi, em, g9]
        rw [show (i : Int) + 1 = ((i + 1 : Nat) : Int) from by omega]
        refine ⟨j + 1 - (i + 1), by omega, i + 1, o.set i ((o.getD i 0 + (p - f) * (chp j B i % p)) % p), ex_junk rfl, by omega, by rw [List.length_set]; exact lo, fun q hq => ?_, rfl, by omega, f9.set (by omega) _, rfl⟩
        rw [getD_set]
        by_cases e : i = q
        · subst e
          rw [if_pos rfl, if_pos (by omega), if_pos (by omega), nxP_succ, show k - 1 - d = j by omega]
          rw [show k - 1 - d = j by omega] at hfm
          exact step_mod vi hfm
        · rw [if_neg e, vo q hq]
          by_cases e2 : q < i
          · rw [if_pos e2, if_pos (by omega)]
          · rw [if_neg e2, if_neg (by omega)]
      rw [decide_eq_false hij]
      obtain rfl : j + 1 = i := by omega
      simp (disch := first | omega | (simp only [Qn] <;> omega)) only [go_sem]
      refine ⟨k - (d + 1), by omega, d + 1, _, o, ?_, rfl, by omega, lo, fun q hq => ?_, g9, n9, f9, rfl⟩
      · rw [show (k : Int) - 1 - ((d + 1 : Nat) : Int) = (j : Int) - 1 from by omega]
        exact ex_junk rfl
      · rw [vo q hq]
        by_cases e : q < j + 1
        · rw [if_pos e]
        · rw [if_neg e, nxP_succ, show k - 1 - d = j by omega, chp_high j B q (by omega), Int.mul_zero, Int.sub_zero]
    rw [decide_eq_false hdk]
    obtain rfl : k = d := by omega
    have br := bls_row h8 (v := .sl N 0 (k + 2) (.kn (k + 2))) rfl rfl
    have eo : o = mkV (k + 1 + 1) (fun q => chp (k + 1) B q % p) := mkV_eq lo fun q hq => by
      rw [vo q (by omega), chp_bent hB k q (by omega)]; rfl
    subst eo
    simp (disch := first | omega | (simp only [Qn] <;> omega)) only [go_sem, br]
    have hf9 : Fr h8 (h8.new (.cells false [.sl N 0 (k + 2) (.kn (k + 2))])) := (Fr.refl h8).new _
    have hg9 : (h8.new (.cells false [.sl N 0 (k + 2) (.kn (k + 2))])).get h8.next = some (.cells false [.sl N 0 (k + 2) (.kn (k + 2))]) := H.get_new_same ..
    have hn9 : (h8.new (.cells false [.sl N 0 (k + 2) (.kn (k + 2))])).next = h8.next + 1 := H.next_new ..
    generalize h8.new (.cells false [.sl N 0 (k + 2) (.kn (k + 2))]) = h9 at *
    have ow : Own h9 (.sl N 0 (k + 2) (.kn (k + 2))) 1 (ints (mkV (k + 1 + 1) (fun q => chp (k + 1) B q % p))) h3.next := .inr ⟨N, k + 2, _, [], rfl, by rw [ints_length, mkV_len, Nat.mul_one], .inr ⟨rfl, rfl⟩, by omega, by omega, by rw [List.append_nil]; exact (hf9.get N (by omega)).trans g8⟩
    have sy : SV h9 (.sl h8.next 0 1 (.kn 1)) 1 [.sl N 0 (k + 2) (.kn (k + 2))] := SV.all rfl (by omega) hg9 _
    have nl := f3.next
    have hlen := R3.row.length
    rw [plR_len] at hlen
    obtain ⟨h10, e10, R10, _, _, _, q10⟩ := (R3.fr (f8.trans hf9)).app' (by omega) sy ow.sv (Own.dis R3.own ow) (Frs.le (Frs.own ow) nl) (by omega)
    simp (disch := first | omega | (simp only [Qn] <;> omega)) only [go_sem, e10]
    rw [show (k : Int) + 1 = ((k + 1 : Nat) : Int) from by omega]
    rw [← plR_succ] at R10
    exact ⟨n - (k + 1), by omega, k + 1, _, _, ex_junk rfl, by omega, R10, q10 h7 (f3.trans (f8.trans hf9)) (Nat.le_refl _), rfl⟩
  rw [decide_eq_false hlt]
  obtain rfl : n = k := by omega
  simp (disch := first | omega | (simp only [Qn] <;> omega)) only [go_sem, lB, sp.ixa, hcp n (by omega)]
  have rk := row_at hallp (i := n) (by rw [plR_len]; omega)
  rw [plR_get (by omega)] at rk
  have e : PolyF a = (mkV (n + 1) (fun q => chp n B q % p), 0) := by
    rw [PolyF, if_neg (by simp [hz]), hn, hpe]
    congr 1
    exact mkV_congr fun q hq => (bn.chp q hq).symm
  rw [e]
  exact ⟨_, rfl, rk, F7.trans f3⟩
end Go.Proofs.Ytlhebmcnjgagjaa

/- Layer 4: Trace. -/
namespace Go.Proofs.Ytlhebmcnjgagjaa
open Go Go.Ay
set_option maxRecDepth 100000
end Go.Proofs.Ytlhebmcnjgagjaa

/- Layer 4: the reference's square, Trace. -/
namespace Go.Proofs.Ytlhebmcnjgagjaa
open Go Go.Ay
set_option maxRecDepth 100000
end Go.Proofs.Ytlhebmcnjgagjaa

/- Layer 4: the reference's inverse of a number. -/
namespace Go.Proofs.Ytlhebmcnjgagjaa
open Go Go.Ay
set_option maxRecDepth 100000
end Go.Proofs.Ytlhebmcnjgagjaa

