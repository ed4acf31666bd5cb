/- Layer 4: inverses modulo a prime. Layer 4: two lists in a row. Elimination modulo a prime: the determinant and the inverse. Layer 4: pivot, clear. Layer 4: clear. Layer 4: invert. Layer 4: square, Inv, Det, EqualFunc, Order. Layer 4: Order. -/
import Derived.Test.YtonhijbeddcmpaaM4atoM4x
import Derived.Test.YtonhijbeddcmpaaDt1toDt6
import Derived.Test.YtonhijbeddcmpaaAy33
/- Layer 4: inverses modulo a prime. -/
namespace Go.Proofs.Ytonhijbeddcmpaa
open Go Go.Ay
set_option maxRecDepth 100000
theorem divG_none {n : Nat} : ∀ f d, 2 ≤ d → divG n f d = n → ∀ e, d ≤ e → e < d + f → e * e ≤ n → n % e ≠ 0
  | 0, d, _, _, e, h1, h2, _ => by omega
  | f + 1, d, hd, h, e, h1, h2, h3 => by
    rw [divG] at h
    by_cases hle : d * d ≤ n
    · rw [if_pos hle] at h
      by_cases hz : n % d = 0
      · rw [if_pos hz] at h
        subst h
        have := Nat.mul_le_mul_left d hd
        omega
      · rw [if_neg hz] at h
        by_cases he : e = d
        · subst he; exact hz
        · exact divG_none f (d + 1) (by omega) h e (by omega) (by omega) h3
    · have := Nat.mul_le_mul h1 h1
      omega
theorem isP_pr {p : Int} (h : isP p = true) : Pr p.toNat := by
  simp only [isP, Bool.and_eq_true, decide_eq_true_eq] at h
  obtain ⟨h1, h2, h3⟩ := h
  refine ⟨by omega, fun d hd => ?_⟩
  obtain ⟨q, hq⟩ := hd
  refine Classical.byContradiction fun hne => ?_
  have key : ∀ a b : Nat, p.toNat = a * b → 2 ≤ a → a ≤ b → False := fun a b hab ha hle => by
    have h4 := Nat.mul_le_mul_left a hle
    have h5 : a < 1002 := by
      refine Nat.lt_of_not_le fun h => ?_
      have := Nat.mul_le_mul h h
      omega
    exact divG_none 1000 2 (Nat.le_refl _) h3 a ha (by omega) (by omega) (by rw [hab]; exact Nat.mul_mod_right a b)
  have d0 : d ≠ 0 := fun e => by subst e; simp at hq; omega
  have q0 : q ≠ 0 := fun e => by subst e; simp at hq; omega
  have q1 : q ≠ 1 := fun e => by subst e; simp at hq; omega
  rcases Nat.le_total d q with h | h
  · exact key d q hq (by omega) h
  · exact key q d (by rw [hq, Nat.mul_comm]) (by omega) h
theorem pow_mod {a b p : Int} (h : a % p = b % p) (k : Nat) : a ^ k % p = b ^ k % p := by
  induction k with
  | zero => rw [Int.pow_zero, Int.pow_zero]
  | succ k ih => rw [Int.pow_succ, Int.pow_succ]; exact mul_mod ih h
theorem prime_residue_ok (a n : Int) (h : H) (hn : 0 < n) (hn2 : n < 1000000000) : Ev T n_prime_residue [.int .i64 a, .int .i64 n] h (fun v h' => v = .int .i64 (a % n) ∧ h' = h) := by
  refine Ev_of t_prime_residue rfl ?_
  have h0 := tmod_bd a hn
  have h1 := tmod_fix a hn
  simp (disch := first | omega | (simp only [Qn] <;> omega)) only [go_sem, c_prime_residue, initV_eq]
  refine iteW_dec (fun hlt => ?_) (fun hge => ?_)
  · rw [if_pos hlt] at h1
    simp (disch := first | omega | (simp only [Qn] <;> omega)) only [go_sem]
    exact ⟨by rw [h1], trivial⟩
  · rw [if_neg hge] at h1
    simp (disch := first | omega | (simp only [Qn] <;> omega)) only [go_sem]
    exact ⟨by rw [h1], trivial⟩
theorem modulo_ok (p : Int) (h : H) : Ev T n_prime_modulo [.int .i64 p] h (fun v h' => ∃ ip, v = .fn 101 [] [.ptr ip 0] ∧ h'.cell ip 0 = some (.int .i64 p) ∧ (h.next ≤ ip ∧ ip < h'.next) ∧ Fr h h') := by
  refine Ev_of t_prime_modulo rfl ?_
  simp (disch := first | omega | (simp only [Qn] <;> omega)) only [go_sem, c_prime_modulo, initV_eq]
  have g1 : (h.new (.cells false [.int .i64 p])).get h.next = some (.cells false [.int .i64 p]) := H.get_new_same ..
  exact ⟨_, rfl, by rw [H.cell_of g1]; rfl, by omega, (Fr.refl h).new _⟩
theorem modulo1_ok (ip : Nat) (p a b : Int) (h : H) (hp : h.cell ip 0 = some (.int .i64 p)) (ha : 0 ≤ a ∧ a < p) (hb : 0 ≤ b ∧ b < p) (hp2 : p < 10000) :
    callP T (.fn 101 [] [.ptr ip 0]) [.int .i64 a, .int .i64 b] h (fun v h' => v = .int .i64 (a * b % p) ∧ h' = h) := by
  have m := mul_bound ha.1 ha.2 hb.1 hb.2 hp2
  have e := nonneg_tmod (a := a * b) (p := p) m.1
  show Ev T n_prime_modulo_1 [.int .i64 a, .int .i64 b, .ptr ip 0] h _
  refine Ev_of t_prime_modulo_1 rfl ?_
  simp (disch := first | omega | (simp only [Qn] <;> omega)) only [go_sem, c_prime_modulo_1, initV_eq, hp, e]
theorem power_ok (ip : Nat) (p x u : Int) (n : Nat) (h : H) (hp : h.cell ip 0 = some (.int .i64 p)) (hx : 0 ≤ x ∧ x < p) (hu : 0 ≤ u ∧ u < p) (hp2 : p < 10000) (hn : n < 1000000) :
    Ev T n_prime_power_int [.int .i64 x, .int .i64 u, .int .i64 (n : Int), .fn 101 [] [.ptr ip 0]] h (fun v h' => ∃ r, v = .int .i64 r ∧ 0 ≤ r ∧ r < p ∧ r % p = u * x ^ n % p ∧ h' = h) := by
  refine Ev_of t_prime_power_int rfl ?_
  simp (disch := first | omega | (simp only [Qn] <;> omega)) only [go_sem, c_prime_power_int, initV_eq]
  refine Wp_loop (fun k' vars h3 => ∃ (m : Nat) (y w : Int), (∃ g : Nat → V, vars = [.int .i64 y, .int .i64 w, .int .i64 (m : Int), .fn 101 [] [.ptr ip 0], g 4, g 5, g 6]) ∧ (0 ≤ y ∧ y < p) ∧ (0 ≤ w ∧ w < p) ∧ w * y ^ m % p = u * x ^ n % p ∧ m < 1000000 ∧ h3 = h ∧ k' = m) n
    ⟨n, x, u, ex_junk rfl, hx, hu, rfl, hn, rfl, rfl⟩ ?_
  rintro k' vars h3 ⟨m, y, w, ⟨g, rfl⟩, hy, hw, he, hm, rfl, rfl⟩
  simp (disch := first | omega | (simp only [Qn] <;> omega)) only [go_sem]
  by_cases h0 : 0 < (k' : Int)
  · rw [decide_eq_true h0]
    have em : (k' : Int).tmod 2 = ((k' % 2 : Nat) : Int) := tmod_nat k' 2
    have eq : (k' : Int).tdiv 2 = ((k' / 2 : Nat) : Int) := rfl
    have hyy := tmod_range (y * y) (show 0 < p by omega)
    have emm : ∀ a : Int, a % p % p = a % p := fun a => Int.emod_emod_of_dvd _ (Int.dvd_refl p)
    simp (disch := first | omega | (simp only [Qn] <;> omega)) only [go_sem, em]
    refine iteW_dec (fun h1 => ?_) (fun h1 => ?_)
    · simp (disch := first | omega | (simp only [Qn] <;> omega)) only [go_sem]
      refine (modulo1_ok ip p w y h3 hp hw hy hp2).mono ?_
      rintro v h4 ⟨rfl, rfl⟩
      simp (disch := first | omega | (simp only [Qn] <;> omega)) only [go_sem]
      refine (modulo1_ok ip p y y _ hp hy hy hp2).mono ?_
      rintro v h4 ⟨rfl, rfl⟩
      simp (disch := first | omega | (simp only [Qn] <;> omega)) only [go_sem, eq]
      refine ⟨k' / 2, by omega, k' / 2, _, _, ex_junk rfl, hyy, tmod_range _ (by omega), ?_, by omega, rfl⟩
      rw [mul_mod (emm (w * y)) (pow_mod (emm (y * y)) (k' / 2)), ← he]
      congr 1
      have e2 : k' = 2 * (k' / 2) + 1 := by omega
      generalize k' / 2 = q at *
      subst e2
      rw [Int.pow_succ, Int.pow_mul, show y ^ 2 = y * y by rw [Int.pow_succ, Int.pow_succ, Int.pow_zero, Int.one_mul]]
      grind
    · simp (disch := first | omega | (simp only [Qn] <;> omega)) only [go_sem]
      refine (modulo1_ok ip p y y _ hp hy hy hp2).mono ?_
      rintro v h4 ⟨rfl, rfl⟩
      simp (disch := first | omega | (simp only [Qn] <;> omega)) only [go_sem, eq]
      refine ⟨k' / 2, by omega, k' / 2, _, _, ex_junk rfl, hyy, hw, ?_, by omega, rfl⟩
      rw [mul_mod (rfl : w % p = w % p) (pow_mod (emm (y * y)) (k' / 2)), ← he]
      congr 1
      have e2 : k' = 2 * (k' / 2) := by omega
      generalize k' / 2 = q at *
      subst e2
      rw [Int.pow_mul, show y ^ 2 = y * y by rw [Int.pow_succ, Int.pow_succ, Int.pow_zero, Int.one_mul]]
  · rw [decide_eq_false h0]
    obtain rfl : k' = 0 := by omega
    simp (disch := first | omega | (simp only [Qn] <;> omega)) only [go_sem]
    exact ⟨w, rfl, hw.1, hw.2, by rw [← he, Int.pow_zero, Int.mul_one], trivial⟩
theorem unit_ok (a p : Int) (h : H) (hp : isP p = true) (ha : 0 < a ∧ a < p) : Ev T n_prime_unit [.int .i64 a, .int .i64 p] h (fun v h' => v = .tup [.int .i64 a, .int .i64 0] ∧ h' = h) := by
  refine Ev_of t_prime_unit rfl ?_
  have hr := isP_pr hp
  have hp2 : p < 1000000 := by simp only [isP, Bool.and_eq_true, decide_eq_true_eq] at hp; omega
  simp (disch := first | omega | (simp only [Qn] <;> omega)) only [go_sem, c_prime_unit, initV_eq]
  refine (is_prime_ok p h).mono ?_
  rintro v h' ⟨rfl, rfl⟩
  simp (disch := first | omega | (simp only [Qn] <;> omega)) only [go_sem, hp]
  refine (prime_residue_ok a p _ (by omega) (by omega)).mono ?_
  rintro v h' ⟨rfl, rfl⟩
  rw [Int.emod_eq_of_lt (by omega) ha.2]
  simp (disch := first | omega | (simp only [Qn] <;> omega)) only [go_sem]
  rw [decide_eq_false (show ¬ a = 0 by omega)]
  simp (disch := first | omega | (simp only [Qn] <;> omega)) only [go_sem]
theorem to_ok (a : Int) (n : Nat) (p : Int) (h : H) (ha : 0 ≤ a ∧ a < p) (hp1 : 1 < p) (hp2 : p < 10000) (hn : n < 1000000) : Ev T n_prime_to [.int .i64 a, .int .i64 (n : Int), .int .i64 p] h (fun v h' => ∃ r, v = .int .i64 r ∧ 0 ≤ r ∧ r < p ∧ r % p = a ^ n % p ∧ Fr h h') := by
  refine Ev_of t_prime_to rfl ?_
  have em : (1 : Int).tmod p = 1 := by rw [nonneg_tmod (by omega)]; exact Int.emod_eq_of_lt (by omega) hp1
  simp (disch := first | omega | (simp only [Qn] <;> omega)) only [go_sem, c_prime_to, initV_eq, em]
  have fb : Fr h (H.mk h.tr (h.next + 8)) := (Fr.refl h).bump (by omega)
  generalize H.mk h.tr (h.next + 8) = hh at *
  refine (modulo_ok p hh).mono ?_
  rintro v h1 ⟨ip, rfl, hc, hl, f1⟩
  simp (disch := first | omega | (simp only [Qn] <;> omega)) only [go_sem]
  refine (power_ok ip p a 1 n h1 hc ha (by omega) hp2 hn).mono ?_
  rintro v h2 ⟨r, rfl, h3, h4, h5, rfl⟩
  simp (disch := first | omega | (simp only [Qn] <;> omega)) only [go_sem]
  exact ⟨r, rfl, h3, h4, by rw [h5, Int.one_mul], fb.trans f1⟩
theorem inv_ok (a p : Int) (h : H) (hp : isP p = true) (hp2 : p < 10000) (ha : 0 < a ∧ a < p) : Ev T n_prime_Inv [.int .i64 a, .int .i64 p] h (fun v h' => ∃ r, v = .tup [.int .i64 r, .int .i64 0] ∧ 0 ≤ r ∧ r < p ∧ r * a % p = 1 ∧ Fr h h') := by
  refine Ev_of t_prime_Inv rfl ?_
  have hr := isP_pr hp
  have h2 := hr.two
  simp (disch := first | omega | (simp only [Qn] <;> omega)) only [go_sem, c_prime_Inv, initV_eq]
  refine (unit_ok a p h hp ha).mono ?_
  rintro v h' ⟨rfl, rfl⟩
  simp (disch := first | omega | (simp only [Qn] <;> omega)) only [go_sem]
  rw [decide_eq_false (show ¬ ((0 : Int) ≠ 0) by omega)]
  simp (disch := first | omega | (simp only [Qn] <;> omega)) only [go_sem]
  rw [show p - 2 = ((p.toNat - 2 : Nat) : Int) by omega]
  refine (to_ok a (p.toNat - 2) p h' (by omega) (by omega) hp2 (by omega)).mono ?_
  rintro v h1 ⟨r, rfl, h3, h4, h5, f1⟩
  simp (disch := first | omega | (simp only [Qn] <;> omega)) only [go_sem]
  refine ⟨r, rfl, h3, h4, ?_, f1⟩
  have f := fermat hr (a := a) ha.1 (by omega)
  rw [show (p.toNat : Int) = p by omega] at f
  rw [mul_mod h5 (rfl : a % p = a % p), Int.mul_comm]
  exact f
end Go.Proofs.Ytonhijbeddcmpaa

/- Layer 4: two lists in a row. -/
namespace Go.Proofs.Ytonhijbeddcmpaa
open Go Go.Ay
set_option maxRecDepth 100000
theorem caps_nils (ρ : X → V) (h : H) (x : X) (hx : ρ x = .nils) : evI ρ h (.caps x) = some (.int .i64 0, h) := by
  simp only [evI, hx]
theorem grow_ok (n : Nat) (h : H) (hn0 : 0 < n) (hn : n < 1000000) : Ev T n_slices_Grow_int_int [.nils, .int .i64 (n : Int)] h (fun v h' => Own h' v 1 (ints []) h.next ∧ Fr h h') := by
  refine Ev_of t_slices_Grow_int_int rfl ?_
  simp (disch := first | omega | (simp only [Qn] <;> omega)) only [go_sem, c_slices_Grow_int_int, initV_eq]
  rw [decide_eq_false (show ¬ ((n : Int) < 0) by omega)]
  simp (disch := first | omega | (simp only [Qn] <;> omega)) only [go_sem]
  rw [caps_nils _ _ _ rfl]
  simp (disch := first | omega | (simp only [Qn] <;> omega)) only [go_sem]
  rw [decide_eq_true (show 0 < (n : Int) - (0 - 0) by omega)]
  simp (disch := first | omega | (simp only [Qn] <;> omega)) only [go_sem]
  rw [caps_nils _ _ _ rfl]
  have ea := apzP_int (h := h) (sz := 1) (bytes := 8) (zero := [.int .i64 0]) (x := .nils) (n := (n : Int) - (0 - 0)) (by omega) (by omega) (by omega) rfl
  obtain ⟨v, h', e, a⟩ := (Own.nils h 1 h.next).appV (bytes := 8) (Nat.le_refl _) (n := 0) (m := n) (us := ints (List.replicate n 0)) rfl (by rw [ints_length, List.length_replicate, Nat.mul_one]) (by omega) (by omega)
  rw [show ((n : Int) - (0 - 0)).toNat = n by omega, Nat.mul_one, zeros_int, e] at ea
  simp (disch := first | omega | (simp only [Qn] <;> omega)) only [go_sem, slc_nils, ea]
  rcases a.what with ⟨h1, _⟩ | ⟨id, rfl, h2, h3, h4⟩
  · omega
  have es : slcV 1 (.sl id 0 n (.un 1)) none (some (.int .i64 0)) none = some (.sl id 0 0 (.un 1)) := slc_un (by omega) (by omega)
  simp (disch := first | omega | (simp only [Qn] <;> omega)) only [go_sem, es]
  exact ⟨.inr ⟨id, 0, .un 1, _, rfl, rfl, .inl rfl, h2, h3, by rw [h4]; rfl⟩, a.fr h (Fr.refl h) (Nat.le_refl _)⟩
theorem concat_ok (id : Nat) (ua ub : V) (a b : List Int) (h : H) (hg : h.get id = some (.cells false [ua, ub])) (hid : id < h.next) (ha : SI h ua a) (hb : SI h ub b) (h0 : 0 < a.length + b.length) (la : a.length < 10000) (lb : b.length < 10000) :
    Ev T n_slices_Concat_int_int [.sl id 0 2 (.kn 2)] h (fun v h' => Own h' v 1 (ints (a ++ b)) h.next ∧ Fr h h') := by
  refine Ev_of t_slices_Concat_int_int rfl ?_
  have lens2 : lensV (.sl id 0 2 (.kn 2)) = some (.int .i64 2) := rfl
  have c0 : h.cell id 0 = some ua := by rw [H.cell_of hg]; rfl
  have c1 : h.cell id 1 = some ub := by rw [H.cell_of hg]; rfl
  have i0 : ixaV 1 (.sl id 0 2 (.kn 2)) (.int .i64 0) = some (.ptr id 0) := by rw [ixaV_sl (by omega) (by omega)]; rfl
  have i1 : ixaV 1 (.sl id 0 2 (.kn 2)) (.int .i64 1) = some (.ptr id 1) := by rw [ixaV_sl (by omega) (by omega)]; rfl
  simp (disch := first | omega | (simp only [Qn] <;> omega)) only [go_sem, c_slices_Concat_int_int, initV_eq, lens2]
  refine Wp_loop_unroll ?_
  simp (disch := first | omega | (simp only [Qn] <;> omega)) only [go_sem, i0, c0, ha.lens]
  rw [decide_eq_true (show (0 : Int) < 2 by omega)]
  simp (disch := first | omega | (simp only [Qn] <;> omega)) only [go_sem, i0, c0, ha.lens]
  rw [decide_eq_false (show ¬ (0 + (a.length : Int)) < 0 by omega)]
  simp (disch := first | omega | (simp only [Qn] <;> omega)) only [go_sem]
  rw [show (0 : Int) + 1 = 1 from rfl, Int.zero_add]
  refine Wp_loop_unroll ?_
  simp (disch := first | omega | (simp only [Qn] <;> omega)) only [go_sem]
  rw [decide_eq_true (show (1 : Int) < 2 by omega)]
  simp (disch := first | omega | (simp only [Qn] <;> omega)) only [go_sem, i1, c1, hb.lens]
  rw [decide_eq_false (show ¬ ((a.length : Int) + (b.length : Int)) < 0 by omega)]
  simp (disch := first | omega | (simp only [Qn] <;> omega)) only [go_sem]
  rw [show (1 : Int) + 1 = 2 from rfl]
  refine Wp_loop_unroll ?_
  simp (disch := first | omega | (simp only [Qn] <;> omega)) only [go_sem]
  rw [decide_eq_false (show ¬ (2 : Int) < 2 by omega)]
  simp (disch := first | omega | (simp only [Qn] <;> omega)) only [go_sem]
  rw [show (a.length : Int) + (b.length : Int) = ((a.length + b.length : Nat) : Int) by omega]
  refine (grow_ok (a.length + b.length) h h0 (by omega)).mono ?_
  rintro v h1 ⟨o1, f1⟩
  have c0 : h1.cell id 0 = some ua := by rw [f1.cell hid]; exact c0
  obtain ⟨v2, h2, e2, a2⟩ := o1.app (bytes := 8) (n := 0) (m := a.length) f1.next (SV.mono ha f1) rfl (by rw [ints_length, Nat.mul_one]) (by omega) (by omega)
  have f2 := a2.fr h f1 (Nat.le_refl _)
  have c1 : h2.cell id 1 = some ub := by rw [f2.cell hid]; exact c1
  have o2 := a2.own
  rw [← ints_append] at o2
  obtain ⟨v3, h3, e3, a3⟩ := o2.app (bytes := 8) (n := a.length) (m := b.length) f2.next (SV.mono hb f2) (by rw [ints_length, Nat.mul_one]; simp) (by rw [ints_length, Nat.mul_one]) (by omega) (by omega)
  have f3 := a3.fr h f2 (Nat.le_refl _)
  simp (disch := first | omega | (simp only [Qn] <;> omega)) only [go_sem, lens2]
  refine Wp_loop_unroll ?_
  simp (disch := first | omega | (simp only [Qn] <;> omega)) only [go_sem]
  rw [decide_eq_true (show (0 : Int) < 2 by omega)]
  simp (disch := first | omega | (simp only [Qn] <;> omega)) only [go_sem, i0, c0, e2]
  rw [show (0 : Int) + 1 = 1 from rfl]
  refine Wp_loop_unroll ?_
  simp (disch := first | omega | (simp only [Qn] <;> omega)) only [go_sem]
  rw [decide_eq_true (show (1 : Int) < 2 by omega)]
  simp (disch := first | omega | (simp only [Qn] <;> omega)) only [go_sem, i1, c1, e3]
  rw [show (1 : Int) + 1 = 2 from rfl]
  refine Wp_loop_unroll ?_
  simp (disch := first | omega | (simp only [Qn] <;> omega)) only [go_sem]
  rw [decide_eq_false (show ¬ (2 : Int) < 2 by omega)]
  simp (disch := first | omega | (simp only [Qn] <;> omega)) only [go_sem]
  have o3 := a3.own
  rw [← ints_append] at o3
  exact ⟨o3, f3⟩
end Go.Proofs.Ytonhijbeddcmpaa

/- Elimination modulo a prime: the determinant and the inverse. -/
namespace Go.Ay
structure Elim (p : Int) (n : Nat) (A : Mx) (c : Nat) (d : Int) (W : Mx) : Prop where
  lo : ∀ i j, i < n → j < n + n → 0 ≤ W i j
  hi : ∀ i j, i < n → j < n + n → W i j < p
  rel : ∀ i j, i < n → j < n → W i j % p = sm n (fun k => W i (n + k) * A k j) % p
  unit : ∀ i j, i < n → j < c → W i j = if i = j then 1 else 0
  dd : d * det n W % p = det n A % p
theorem Elim.start {p : Int} {n : Nat} {A : Mx} (hA : ∀ i j, i < n → j < n → 0 ≤ A i j ∧ A i j < p) (hp : 1 < p) {W : Mx} (h1 : ∀ i j, i < n → j < n → W i j = A i j) (h2 : ∀ i k, i < n → k < n → W i (n + k) = if i = k then 1 else 0) : Elim p n A 0 1 W := by
  refine ⟨fun i j hi hj => ?_, fun i j hi hj => ?_, fun i j hi hj => ?_, fun i j _ hj => absurd hj (Nat.not_lt_zero j), ?_⟩
  · by_cases h : j < n
    · rw [h1 i j hi h]; exact (hA i j hi h).1
    · have e := h2 i (j - n) hi (by omega)
      rw [show n + (j - n) = j by omega] at e
      rw [e]; split <;> omega
  · by_cases h : j < n
    · rw [h1 i j hi h]; exact (hA i j hi h).2
    · have e := h2 i (j - n) hi (by omega)
      rw [show n + (j - n) = j by omega] at e
      rw [e]; split <;> omega
  · rw [h1 i j hi hj, sm_one (t := i) hi fun k hk hne => by rw [h2 i k hi hk, if_neg fun h => hne h.symm, Int.zero_mul], h2 i i hi hi, if_pos rfl, Int.one_mul]
  · rw [Int.one_mul, det_congr h1]
theorem swp_row (A : Mx) (i j k c : Nat) : swp A i j k c = if k = j then A i c else if k = i then A j c else A k c := by
  by_cases h1 : k = j
  · rw [if_pos h1, h1, swp_right]
  · rw [if_neg h1]
    by_cases h2 : k = i
    · subst h2; rw [if_pos rfl, swp_left _ (by omega)]
    · rw [if_neg h2, swp_other _ h2 h1]
theorem Elim.swap {p : Int} {n : Nat} {A : Mx} {c : Nat} {d : Int} {W W' : Mx} (e : Elim p n A c d W) {k : Nat} (hk : k < n) (hck : c < k) (hW : ∀ i j, i < n → j < n + n → W' i j = swp W c k i j) : Elim p n A c (-d % p) W' := by
  have row : ∀ i, i < n → ∃ i', i' < n ∧ (∀ j, j < n + n → W' i j = W i' j) ∧ (∀ j, j < c → W i' j = if i = j then 1 else 0) := fun i hi => by
    by_cases h1 : i = k
    · subst h1
      refine ⟨c, by omega, fun j hj => by rw [hW i j hi hj, swp_row, if_pos rfl], fun j hj => ?_⟩
      rw [e.unit c j (by omega) hj, if_neg (by omega), if_neg (by omega)]
    · by_cases h2 : i = c
      · subst h2
        refine ⟨k, hk, fun j hj => by rw [hW i j hi hj, swp_row, if_neg h1, if_pos rfl], fun j hj => ?_⟩
        rw [e.unit k j hk hj, if_neg (by omega), if_neg (by omega)]
      · exact ⟨i, hi, fun j hj => by rw [hW i j hi hj, swp_row, if_neg h1, if_neg h2], fun j hj => e.unit i j hi hj⟩
  refine ⟨fun i j hi hj => ?_, fun i j hi hj => ?_, fun i j hi hj => ?_, fun i j hi hj => ?_, ?_⟩
  · obtain ⟨i', h1, h2, _⟩ := row i hi
    rw [h2 j hj]; exact e.lo i' j h1 hj
  · obtain ⟨i', h1, h2, _⟩ := row i hi
    rw [h2 j hj]; exact e.hi i' j h1 hj
  · obtain ⟨i', h1, h2, _⟩ := row i hi
    rw [h2 j (by omega), sm_congr fun k hk => by rw [h2 (n + k) (by omega)]]
    exact e.rel i' j h1 hj
  · obtain ⟨i', h1, h2, h3⟩ := row i hi
    by_cases hj2 : j < n + n
    · rw [h2 j hj2]; exact h3 j hj
    · omega
  · rw [det_congr (B := swp W c k) fun i j hi hj => hW i j hi (by omega), (det_alt n).swap (by omega) hk (by omega)]
    rw [mul_mod (Int.emod_emod_of_dvd (-d) (Int.dvd_refl p)) (rfl : (-det n W) % p = (-det n W) % p), Int.neg_mul_neg, e.dd]
/-- A column without a pivot. -/
theorem Elim.none {p : Int} {n : Nat} {A : Mx} {c : Nat} {d : Int} {W : Mx} (e : Elim p n A c d W) (hc : c < n) (h : ∀ k, c ≤ k → k < n → W k c = 0) : det n A % p = 0 := by
  have z : det n W = 0 := by
    rw [← det_tr]
    have a := det_alt n
    have e1 : det n (trM W) = det n (setR (trM W) c (fun r => sm c (fun j => W j c * trM W j r))) := det_congr fun i j hi hj => by
      by_cases h1 : i = c
      · subst h1
        rw [setR_same]
        simp only [trM]
        by_cases h2 : j < i
        · rw [sm_one (t := j) h2 fun k hk hne => by rw [e.unit j k hj hk, if_neg fun h => hne h.symm, Int.mul_zero], e.unit j j hj h2, if_pos rfl, Int.mul_one]
        · rw [h j (by omega) hj, sm_zeros fun k hk => by rw [e.unit j k hj hk, if_neg (by omega), Int.mul_zero]]
      · rw [setR_ne _ _ _ h1]
    rw [e1, a.sum (trM W) hc c (fun j => W j c) (fun j r => trM W j r)]
    refine sm_zeros fun j hj => ?_
    rw [a.alt _ j c (by omega) hc (by omega) fun r _ => by rw [setR_same, setR_ne _ _ _ (by omega)], Int.mul_zero]
  have := e.dd
  rw [z, Int.mul_zero] at this
  rw [← this]; rfl
/-- The pivot is made 1. -/
theorem Elim.one {p : Int} {n : Nat} {A : Mx} {c : Nat} {d : Int} {W W' : Mx} (e : Elim p n A c d W) (hp : 1 < p) (hc : c < n) {x : Int} (hx : x * W c c % p = 1) (h1 : ∀ j, j < n + n → W' c j = x * W c j % p) (h2 : ∀ i j, i < n → i ≠ c → j < n + n → W' i j = W i j) :
    Elim p n A c (d * W c c % p) W' ∧ W' c c = 1 := by
  have pp : (0 : Int) < p := by omega
  refine ⟨⟨fun i j hi hj => ?_, fun i j hi hj => ?_, fun i j hi hj => ?_, fun i j hi hj => ?_, ?_⟩, by rw [h1 c (by omega), hx]⟩
  · by_cases h : i = c
    · subst h; rw [h1 j hj]; exact Int.emod_nonneg _ (by omega)
    · rw [h2 i j hi h hj]; exact e.lo i j hi hj
  · by_cases h : i = c
    · subst h; rw [h1 j hj]; exact Int.emod_lt_of_pos _ pp
    · rw [h2 i j hi h hj]; exact e.hi i j hi hj
  · by_cases h : i = c
    · subst h
      rw [h1 j (by omega), Int.emod_emod_of_dvd _ (Int.dvd_refl p), mul_mod rfl (e.rel i j hi hj), ← sm_mul]
      refine sm_mod fun k hk => ?_
      rw [h1 (n + k) (by omega), mul_mod (Int.emod_emod_of_dvd _ (Int.dvd_refl p)) (rfl : A k j % p = A k j % p), Int.mul_assoc]
    · rw [h2 i j hi h (by omega), e.rel i j hi hj]
      refine congrArg (· % p) (sm_congr fun k hk => ?_)
      rw [h2 i (n + k) hi h (by omega)]
  · by_cases h : i = c
    · subst h
      rw [h1 j (by omega), e.unit i j hi hj, if_neg (by omega), Int.mul_zero]; rfl
    · rw [h2 i j hi h (by omega)]; exact e.unit i j hi hj
  · have a := det_alt n
    have e1 : det n W' % p = x * det n W % p := by
      have e2 : det n W' % p = det n (setR W c (fun j => x * W c j)) % p := det_mod fun i j hi hj => by
        by_cases h : i = c
        · subst h; rw [setR_same, h1 j (by omega)]; exact Int.emod_emod_of_dvd _ (Int.dvd_refl p)
        · rw [setR_ne _ _ _ h, h2 i j hi h (by omega)]
      rw [e2, a.mul_row W hc, setR_self]
    rw [mul_mod (Int.emod_emod_of_dvd _ (Int.dvd_refl p)) e1, show d * W c c * (x * det n W) = (x * W c c) * (d * det n W) by grind, Int.mul_emod, hx, Int.one_mul, Int.emod_emod_of_dvd _ (Int.dvd_refl p), e.dd]
/-- Another row's element in the column is made 0. -/
theorem Elim.clear {p : Int} {n : Nat} {A : Mx} {c : Nat} {d : Int} {W W' : Mx} (e : Elim p n A c d W) (hp : 1 < p) (hc : c < n) (h1c : W c c = 1) {k : Nat} (hk : k < n) (hkc : k ≠ c) (h1 : ∀ j, j < n + n → W' k j = (W k j + (p - W k c) * W c j) % p) (h2 : ∀ i j, i < n → i ≠ k → j < n + n → W' i j = W i j) :
    Elim p n A c d W' ∧ W' k c = 0 := by
  have pp : (0 : Int) < p := by omega
  have em : ∀ a : Int, a % p % p = a % p := fun a => Int.emod_emod_of_dvd _ (Int.dvd_refl p)
  refine ⟨⟨fun i j hi hj => ?_, fun i j hi hj => ?_, fun i j hi hj => ?_, fun i j hi hj => ?_, ?_⟩, ?_⟩
  · by_cases h : i = k
    · subst h; rw [h1 j hj]; exact Int.emod_nonneg _ (by omega)
    · rw [h2 i j hi h hj]; exact e.lo i j hi hj
  · by_cases h : i = k
    · subst h; rw [h1 j hj]; exact Int.emod_lt_of_pos _ pp
    · rw [h2 i j hi h hj]; exact e.hi i j hi hj
  · by_cases h : i = k
    · subst h
      rw [h1 j (by omega), em]
      have r1 := e.rel i j hi hj
      have r2 := mul_mod (p := p) (rfl : (p - W i c) % p = (p - W i c) % p) (e.rel c j hc hj)
      rw [Int.add_emod, r1, r2, ← Int.add_emod, ← sm_mul, ← sm_add]
      refine sm_mod fun l hl => ?_
      rw [h1 (n + l) (by omega), mul_mod (em _) (rfl : A l j % p = A l j % p)]
      congr 1
      grind
    · rw [h2 i j hi h (by omega), e.rel i j hi hj]
      refine congrArg (· % p) (sm_congr fun l hl => ?_)
      rw [h2 i (n + l) hi h (by omega)]
  · by_cases h : i = k
    · subst h
      have hlt : (if i = j then (1 : Int) else 0) % p = if i = j then 1 else 0 := by
        split
        · exact Int.emod_eq_of_lt (by omega) hp
        · exact Int.emod_eq_of_lt (by omega) pp
      rw [h1 j (by omega), e.unit i j hi hj, e.unit c j hc hj, if_neg (show ¬ c = j by omega), Int.mul_zero, Int.add_zero, hlt]
    · rw [h2 i j hi h (by omega)]; exact e.unit i j hi hj
  · have a := det_alt n
    have e1 : det n W' % p = det n W % p := by
      have e2 : det n W' % p = det n (setR W k (fun j => (p - W k c) * W c j + W k j)) % p := det_mod fun i j hi hj => by
        by_cases h : i = k
        · subst h; rw [setR_same, h1 j (by omega), em, Int.add_comm]
        · rw [setR_ne _ _ _ h, h2 i j hi h (by omega)]
      rw [e2, a.add_row W hc hk (fun h => hkc h.symm)]
    rw [mul_mod (rfl : d % p = d % p) e1, e.dd]
  · rw [h1 c (by omega), h1c, Int.mul_one, show W k c + (p - W k c) = p by omega, Int.emod_self]
/-- R is the inverse of A. -/
structure IsInv (p : Int) (n : Nat) (A R : Mx) : Prop where
  lo : ∀ i j, i < n → j < n → 0 ≤ R i j
  hi : ∀ i j, i < n → j < n → R i j < p
  left : ∀ i j, i < n → j < n → mulM n R A i j % p = idM i j % p
theorem one_mod {p : Int} (hp : 1 < p) : (1 : Int) % p = 1 := Int.emod_eq_of_lt (by omega) hp
theorem IsInv.det {p : Int} {n : Nat} {A R : Mx} (e : IsInv p n A R) : det n R * det n A % p = 1 % p := by
  rw [← det_mul, det_mod e.left, det_id]
theorem IsInv.unit {p : Int} {n : Nat} {A R : Mx} (e : IsInv p n A R) (hp : 1 < p) : Ay.det n A % p ≠ 0 := fun h => by
  have := e.det
  rw [Int.mul_emod, h, Int.mul_zero, one_mod hp, Int.zero_emod] at this
  exact absurd this (by decide)
theorem mulM_id (n : Nat) (A : Mx) {i j : Nat} (hj : j < n) : mulM n A idM i j = A i j := by
  simp only [mulM, idM]
  rw [sm_one (t := j) hj fun k _ hne => by rw [if_neg hne, Int.mul_zero], if_pos rfl, Int.mul_one]
theorem id_mulM (n : Nat) (A : Mx) {i j : Nat} (hi : i < n) : mulM n idM A i j = A i j := by
  simp only [mulM, idM]
  rw [sm_one (t := i) hi fun k _ hne => by rw [if_neg fun h => hne h.symm, Int.zero_mul], if_pos rfl, Int.one_mul]
theorem mulM_mod {p : Int} {n : Nat} {A A' B B' : Mx} {i j : Nat} (h : ∀ k, k < n → A i k % p = A' i k % p) (h' : ∀ k, k < n → B k j % p = B' k j % p) : mulM n A B i j % p = mulM n A' B' i j % p :=
  sm_mod fun k hk => mul_mod (h k hk) (h' k hk)
/-- From the right too. -/
theorem right_of_left {p : Int} {n : Nat} {A R : Mx} (h : ∀ i j, i < n → j < n → mulM n R A i j % p = idM i j % p) {i j : Nat} (hi : i < n) (hj : j < n) : mulM n A R i j % p = idM i j % p := by
  cases n with
  | zero => omega
  | succ m =>
    have hd : det (m + 1) R * det (m + 1) A % p = 1 % p := by rw [← det_mul, det_mod h, det_id]
    -- R det A = adj A
    have e1 : ∀ i j, i < m + 1 → j < m + 1 → R i j * det (m + 1) A % p = adjM m A i j % p := fun i j hi hj => by
      have a1 : mulM (m + 1) R (mulM (m + 1) A (adjM m A)) i j = R i j * det (m + 1) A := by
        show sm (m + 1) (fun k => R i k * mulM (m + 1) A (adjM m A) k j) = _
        rw [sm_one (t := j) hj fun k hk hne => by rw [mul_adj A hk hj, if_neg hne, Int.mul_zero], mul_adj A hj hj, if_pos rfl]
      rw [← a1, ← mulM_assoc, mulM_mod (A' := idM) (B' := adjM m A) (fun k hk => h i k hi hk) (fun _ _ => rfl), id_mulM _ _ hi]
    have e2 : mulM (m + 1) A R i j % p = det (m + 1) R * (mulM (m + 1) A (adjM m A) i j) % p := by
      have : ∀ k, k < m + 1 → A i k * R k j % p = det (m + 1) R * (A i k * adjM m A k j) % p := fun k hk => by
        have h1 : A i k * R k j % p = (A i k * R k j) * (det (m + 1) R * det (m + 1) A) % p := by
          rw [mul_mod (rfl : A i k * R k j % p = A i k * R k j % p) hd, Int.mul_one]
        rw [h1, show (A i k * R k j) * (det (m + 1) R * det (m + 1) A) = (det (m + 1) R * A i k) * (R k j * det (m + 1) A) by grind, mul_mod rfl (e1 k j hk hj)]
        congr 1
        grind
      show sm (m + 1) (fun k => A i k * R k j) % p = det (m + 1) R * sm (m + 1) (fun k => A i k * adjM m A k j) % p
      rw [← sm_mul]
      exact sm_mod this
    rw [e2, mul_adj A hi hj]
    simp only [idM]
    split
    · exact hd
    · rw [Int.mul_zero]
theorem IsInv.uniq {p : Int} {n : Nat} {A R R' : Mx} (e : IsInv p n A R) (e' : IsInv p n A R') {i j : Nat} (hi : i < n) (hj : j < n) : R i j = R' i j := by
  have h1 : mulM n R (mulM n A R') i j % p = R i j % p := by
    rw [mulM_mod (A' := R) (B' := idM) (fun _ _ => rfl) (fun k hk => right_of_left e'.left hk hj), mulM_id _ _ hj]
  rw [← mulM_assoc, mulM_mod (A' := idM) (B' := R') (fun k hk => e.left i k hi hk) (fun _ _ => rfl), id_mulM _ _ hi] at h1
  rw [Int.emod_eq_of_lt (e.lo i j hi hj) (e.hi i j hi hj), Int.emod_eq_of_lt (e'.lo i j hi hj) (e'.hi i j hi hj)] at h1
  exact h1.symm
/-- All columns are done. -/
theorem Elim.done {p : Int} {n : Nat} {A : Mx} {d : Int} {W : Mx} (e : Elim p n A n d W) : IsInv p n A (fun i k => W i (n + k)) ∧ d % p = det n A % p := by
  refine ⟨⟨fun i j hi hj => e.lo i _ hi (by omega), fun i j hi hj => e.hi i _ hi (by omega), fun i j hi hj => ?_⟩, ?_⟩
  · show _ = (if i = j then (1 : Int) else 0) % p
    rw [← e.unit i j hi hj]
    exact (e.rel i j hi hj).symm
  · rw [← e.dd, det_congr (B := idM) fun i j hi hj => e.unit i j hi hj, det_id, Int.mul_one]
end Go.Ay

/- Layer 4: pivot, clear. -/
namespace Go.Proofs.Ytonhijbeddcmpaa
open Go Go.Ay
set_option maxRecDepth 100000
/-- A slice whose capacity is known to hold it. -/
def Cap1 (w : V) : Prop := ∀ id off m c, w = .sl id off m c → c = .un 1 ∨ ∃ k, c = .kn k ∧ m ≤ k
theorem own_cap {h : H} {w : V} {l : List V} {lo : Nat} (o : Own h w 1 l lo) : Cap1 w := fun id off m c e => by
  rcases o with ⟨h1, _⟩ | ⟨id', n, cap, rest, h1, _, h2, _⟩
  · rw [h1] at e; cases e
  · rw [h1] at e; cases e
    rcases h2 with h2 | ⟨h2, _⟩
    · exact .inl h2
    · exact .inr ⟨_, h2, Nat.le_refl _⟩
theorem slc_lo {h : H} {v : V} {l : List Int} (s : SI h v l) (c : Cap1 v) {k : Nat} (hk : k < l.length) : ∃ v', slcV 1 v (some (.int .i64 (k : Int))) none none = some v' ∧ SI h v' (l.drop k) := by
  rcases s with ⟨_, h0⟩ | ⟨id, off, len, cap, ro, vs, rfl, h2, h3, h4, h5, h6⟩
  · have : (ints l).length = 0 := by rw [h0]; rfl
    rw [ints_length] at this; omega
  · rw [ints_length, Nat.mul_one] at h2
    subst h2
    have hsi : ∀ cap', SI h (.sl id (off + k) (l.length - k) cap') (l.drop k) := fun cap' => .inr ⟨id, off + k, l.length - k, cap', ro, vs, rfl, by rw [ints_length, List.length_drop, Nat.mul_one], h3, h4, by omega, by
      rw [Nat.mul_one] at h6 ⊢
      rw [← ints_drop, ← h6, List.drop_take, List.drop_drop]⟩
    rcases c id off l.length cap rfl with rfl | ⟨q, rfl, hq⟩
    · refine ⟨.sl id (off + k) (l.length - k) (.un 1), ?_, hsi _⟩
      simp only [slcV, bndV]
      rw [if_pos ⟨by omega, by omega⟩]
      simp [hk]
    · refine ⟨.sl id (off + k) (l.length - k) (.kn (q - k)), ?_, hsi _⟩
      simp only [slcV, bndV]
      rw [if_pos ⟨by omega, by omega⟩]
      simp only [Int.toNat_natCast]
      rw [if_pos (by omega), if_neg (by omega), Nat.mul_one]
/-- An elimination at work. -/
structure Wk (h : H) (W R n : Nat) (p d : Int) (ws : List V) (ll : List (List Int)) (lo : Nat) : Prop where
  gW : h.get W = some (.cells false [.int .i64 p, .int .i64 d, .sl R 0 n (.un 1)])
  gR : h.get R = some (.cells false ws)
  lw : ws.length = n
  row : All2 (SI h) ws ll
  sep : ∀ w ∈ ws, ∀ id off m c, w = .sl id off m c → id ≠ R ∧ id ≠ W
  cap : ∀ w ∈ ws, Cap1 w
  WR : W ≠ R
  frs : ∀ w ∈ ws, Frs w lo
  lt : lo ≤ h.next
  ltW : W < h.next
  ltR : R < h.next
/-- Two objects alone may have changed. -/
structure Fx2 (x y : Nat) (h h' : H) : Prop where
  next : h.next ≤ h'.next
  get : ∀ id, id < h.next → id ≠ x → id ≠ y → h'.get id = h.get id
theorem Fx2.refl (x y : Nat) (h : H) : Fx2 x y h h := ⟨Nat.le_refl _, fun _ _ _ _ => rfl⟩
theorem Fx2.of {x y : Nat} {h h' : H} (f : Fr h h') : Fx2 x y h h' := ⟨f.next, fun id hid _ _ => f.get id hid⟩
theorem Fx2.trans {x y : Nat} {a b c : H} (f : Fx2 x y a b) (g : Fx2 x y b c) : Fx2 x y a c := ⟨Nat.le_trans f.next g.next, fun id hid hx hy => (g.get id (Nat.lt_of_lt_of_le hid f.next) hx hy).trans (f.get id hid hx hy)⟩
theorem Fx2.setx {x y : Nat} {a b : H} (f : Fx2 x y a b) (o : Option Ob) : Fx2 x y a (b.set x o) := ⟨f.next, fun id hid hx hy => (H.get_set_ne b hx o).trans (f.get id hid hx hy)⟩
theorem Fx2.sety {x y : Nat} {a b : H} (f : Fx2 x y a b) (o : Option Ob) : Fx2 x y a (b.set y o) := ⟨f.next, fun id hid hx hy => (H.get_set_ne b hy o).trans (f.get id hid hx hy)⟩
/-- Below both, nothing has. -/
theorem Fx2.fr {x y : Nat} {a b c : H} (f : Fr a b) (hx : a.next ≤ x) (hy : a.next ≤ y) (g : Fx2 x y b c) : Fr a c := ⟨Nat.le_trans f.next g.next, fun id hid => (g.get id (Nat.lt_of_lt_of_le hid f.next) (by omega) (by omega)).trans (f.get id hid)⟩
theorem Wk.lr {h : H} {W R n : Nat} {p d : Int} {ws : List V} {ll : List (List Int)} {lo : Nat} (k : Wk h W R n p d ws ll lo) : ll.length = n := by rw [← k.row.length, k.lw]
theorem Wk.at_ {h : H} {W R n : Nat} {p d : Int} {ws : List V} {ll : List (List Int)} {lo : Nat} (k : Wk h W R n p d ws ll lo) : ∀ i, i < n → h.cell R i = some (ws.getD i .undef) := fun i hi => by
  rw [H.cell_of k.gR, List.getD_eq_getElem?_getD, List.getElem?_eq_getElem (by rw [k.lw]; exact hi)]; rfl
theorem Wk.si {h : H} {W R n : Nat} {p d : Int} {ws : List V} {ll : List (List Int)} {lo : Nat} (k : Wk h W R n p d ws ll lo) {i : Nat} (hi : i < n) : SI h (ws.getD i .undef) (ll.getD i []) := row_at k.row (by rw [k.lr]; exact hi)
theorem Wk.fr {h h' : H} {W R n : Nat} {p d : Int} {ws : List V} {ll : List (List Int)} {lo : Nat} (k : Wk h W R n p d ws ll lo) (f : Fr h h') : Wk h' W R n p d ws ll lo :=
  ⟨(f.get W k.ltW).trans k.gW, (f.get R k.ltR).trans k.gR, k.lw, k.row.mono fun _ _ s => s.mono f, k.sep, k.cap, k.WR, k.frs, Nat.le_trans k.lt f.next, Nat.lt_of_lt_of_le k.ltW f.next, Nat.lt_of_lt_of_le k.ltR f.next⟩
theorem Wk.setd {h : H} {W R n : Nat} {p d : Int} {ws : List V} {ll : List (List Int)} {lo : Nat} (k : Wk h W R n p d ws ll lo) (d' : Int) : Wk (h.set W (some (.cells false [.int .i64 p, .int .i64 d', .sl R 0 n (.un 1)]))) W R n p d' ws ll lo :=
  ⟨H.get_set_same .., by rw [H.get_set_ne _ (Ne.symm k.WR)]; exact k.gR, k.lw, All2.keep k.row fun w hw b s => SI.keep s (Nat.le_refl _) fun id off m c e => H.get_set_ne h (k.sep w hw _ _ _ _ e).2 _, k.sep, k.cap, k.WR, k.frs, k.lt, k.ltW, k.ltR⟩
/-- A row that was made. -/
theorem Wk.put {h : H} {W R n : Nat} {p d : Int} {ws : List V} {ll : List (List Int)} {lo : Nat} (k : Wk h W R n p d ws ll lo) (i : Nat) {w : V} {l : List Int} (hw : SI h w l) (sw : ∀ id off m c, w = .sl id off m c → id ≠ R ∧ id ≠ W) (cw : Cap1 w) (fw : Frs w lo) : Wk (h.set R (some (.cells false (ws.set i w)))) W R n p d (ws.set i w) (ll.set i l) lo := by
  have keep : ∀ x b, (∀ id off m c, x = V.sl id off m c → id ≠ R ∧ id ≠ W) → SI h x b → SI (h.set R (some (.cells false (ws.set i w)))) x b := fun x b hx s => SI.keep s (Nat.le_refl _) fun id off m c e => H.get_set_ne h (hx _ _ _ _ e).1 _
  refine ⟨by rw [H.get_set_ne _ k.WR]; exact k.gW, H.get_set_same .., by rw [List.length_set]; exact k.lw, (All2.keep k.row fun x hx b s => keep x b (k.sep x hx) s).set i (keep w l sw hw), fun x hx => ?_, fun x hx => ?_, k.WR, fun x hx => ?_, k.lt, k.ltW, k.ltR⟩
  · rcases List.mem_or_eq_of_mem_set hx with hx | rfl
    · exact k.sep x hx
    · exact sw
  · rcases List.mem_or_eq_of_mem_set hx with hx | rfl
    · exact k.cap x hx
    · exact cw
  · rcases List.mem_or_eq_of_mem_set hx with hx | rfl
    · exact k.frs x hx
    · exact fw
theorem Wk.msep {h : H} {W R n : Nat} {p d : Int} {ws : List V} {ll : List (List Int)} {lo : Nat} (k : Wk h W R n p d ws ll lo) {i : Nat} (hi : i < n) : ∀ id off m c, ws.getD i .undef = .sl id off m c → id ≠ R ∧ id ≠ W := by
  have e : ws.getD i .undef = ws[i]'(by rw [k.lw]; exact hi) := by rw [List.getD_eq_getElem?_getD, List.getElem?_eq_getElem]; rfl
  rw [e]
  exact k.sep _ (List.getElem_mem _)
theorem Wk.mcap {h : H} {W R n : Nat} {p d : Int} {ws : List V} {ll : List (List Int)} {lo : Nat} (k : Wk h W R n p d ws ll lo) {i : Nat} (hi : i < n) : Cap1 (ws.getD i .undef) := by
  have e : ws.getD i .undef = ws[i]'(by rw [k.lw]; exact hi) := by rw [List.getD_eq_getElem?_getD, List.getElem?_eq_getElem]; rfl
  rw [e]
  exact k.cap _ (List.getElem_mem _)
theorem Wk.mfrs {h : H} {W R n : Nat} {p d : Int} {ws : List V} {ll : List (List Int)} {lo : Nat} (k : Wk h W R n p d ws ll lo) {i : Nat} (hi : i < n) : Frs (ws.getD i .undef) lo := by
  have e : ws.getD i .undef = ws[i]'(by rw [k.lw]; exact hi) := by rw [List.getD_eq_getElem?_getD, List.getElem?_eq_getElem]; rfl
  rw [e]
  exact k.frs _ (List.getElem_mem _)
theorem ent_set {ll : List (List Int)} {i : Nat} (hi : i < ll.length) (l : List Int) (a b : Nat) : ent (ll.set i l) a b = if i = a then l.getD b 0 else ent ll a b := by
  rw [ent, getD_set, if_pos hi]
  split <;> rfl
theorem row3 {h : H} {id : Nat} {ro : Bool} {a b c : V} (hg : h.get id = some (.cells ro [a, b, c])) : h.cell id 0 = some a ∧ h.cell id 1 = some b ∧ h.cell id 2 = some c := by
  refine ⟨?_, ?_, ?_⟩ <;> (rw [H.cell_of hg]; rfl)
theorem putO_mid {x y z v : V} (h : H) (id : Nat) : putO (some (.cells false [x, y, z])) h id 1 [v] = some (h.set id (some (.cells false [x, v, z]))) := by
  simp [putO, putAt]
set_option maxHeartbeats 4000000 in
theorem pivot_ok (h : H) (W R n c L : Nat) (p d : Int) (ws : List V) (ll : List (List Int)) (lo : Nat) (K : Wk h W R n p d ws ll lo) (hc : c < n) (hn : n ≤ 64) (hL : c < L) (hl : ∀ i, i < n → (ll.getD i []).length = L) (hp : 1 < p ∧ p < 10000) (hd : 0 ≤ d ∧ d < p) :
    Ev T n_matrix_work_pivot [.ptr W 0, .int .i64 (c : Int)] h (fun v h' =>
      (v = .bool true ∧ ∃ k, c ≤ k ∧ k < n ∧ ent ll k c ≠ 0 ∧ (k = c ∧ Wk h' W R n p d ws ll lo ∨ c < k ∧ Wk h' W R n p (-d % p) ((ws.set c (ws.getD k .undef)).set k (ws.getD c .undef)) ((ll.set c (ll.getD k [])).set k (ll.getD c [])) lo) ∧ Fx2 W R h h') ∨
      (v = .bool false ∧ (∀ k, c ≤ k → k < n → ent ll k c = 0) ∧ Wk h' W R n p 0 ws ll lo ∧ Fx2 W R h h')) := by
  refine Ev_of t_matrix_work_pivot rfl ?_
  obtain ⟨w0, w1, w2⟩ := row3 K.gW
  have lensR : lensV (.sl R 0 n (.un 1)) = some (.int .i64 (n : Int)) := rfl
  simp (disch := first | omega | (simp only [Qn] <;> omega)) only [go_sem, c_matrix_work_pivot, initV_eq]
  refine Wp_loop (fun k' vars h3 => ∃ (k : Nat), (∃ g : Nat → V, vars = [.ptr W 0, .int .i64 (c : Int), g 2, .int .i64 (k : Int), g 4, g 5, g 6]) ∧ c ≤ k ∧ k ≤ n ∧ (∀ j, c ≤ j → j < k → ent ll j c = 0) ∧ h3 = h ∧ k' = n - k) (n - c)
    ⟨c, ex_junk rfl, Nat.le_refl _, by omega, fun j h1 h2 => by omega, rfl, rfl⟩ ?_
  rintro k' vars h3 ⟨k, ⟨g, rfl⟩, hck, hk, hz, rfl, rfl⟩
  simp (disch := first | omega | (simp only [Qn] <;> omega)) only [go_sem, w2, lensR]
  by_cases hlt : (k : Int) < (n : Int)
  · rw [decide_eq_true hlt]
    have hk' : k < n := by omega
    obtain ⟨idk, offk, sk, hidk, ck⟩ := (K.si hk').open
    rw [hl k hk'] at sk hidk ck
    have ckc : h3.cell idk (offk + c) = some (.int .i64 (ent ll k c)) := ck c hL
    simp (disch := first | omega | (simp only [Qn] <;> omega)) only [go_sem, w2, K.at_ k hk', sk.ixa, ckc]
    refine iteW_dec (fun h0 => ?_) (fun h0 => ?_)
    · simp (disch := first | omega | (simp only [Qn] <;> omega)) only [go_sem]
      rw [show (k : Int) + 1 = ((k + 1 : Nat) : Int) from by omega]
      refine ⟨n - (k + 1), by omega, k + 1, ex_junk rfl, by omega, by omega, fun j h1 h2 => ?_, rfl⟩
      by_cases e : j = k
      · rw [e]; exact h0
      · exact hz j h1 (by omega)
    · simp (disch := first | omega | (simp only [Qn] <;> omega)) only [go_sem]
      refine iteW_dec (fun h1 => ?_) (fun h1 => ?_)
      · have hck2 : c < k := by omega
        have fb : Fr h3 (H.mk h3.tr (h3.next + 28)) := (Fr.refl h3).bump (by omega)
        have K1 := (K.fr fb).put c ((K.si hk').mono fb) (K.msep hk') (K.mcap hk') (K.mfrs hk')
        have K2 := K1.put k (w := ws.getD c .undef) (l := ll.getD c []) (by
          have s := K1.row
          exact SI.keep ((K.si hc).mono fb) (Nat.le_refl _) fun id off m cc e => H.get_set_ne _ (K.msep hc _ _ _ _ e).1 _) (K.msep hc) (K.mcap hc) (K.mfrs hc)
        have hv1 := SV.what (K.si hk')
        have hv2 := SV.what (K.si hc)
        have hst1 := fun hh => stV_one hv1.1 hv1.2.1 hh R c
        have hst2 := fun hh => stV_one hv2.1 hv2.2.1 hh R k
        have hp1 := putO_one (vs := ws) (off := c) (by rw [K.lw]; exact hc) (H.mk h3.tr (h3.next + 28)) R (ws.getD k .undef)
        have hp2 := putO_one (vs := ws.set c (ws.getD k .undef)) (off := k) (by rw [List.length_set, K.lw]; exact hk') ((H.mk h3.tr (h3.next + 28)).set R (some (.cells false (ws.set c (ws.getD k .undef))))) R (ws.getD c .undef)
        simp (disch := first | omega | (simp only [Qn] <;> omega)) only [go_sem, w2, K.at_ k hk', K.at_ c hc, K.gR, hst1, hst2, hp1, hp2]
        have FX : Fx2 W R h3 (((H.mk h3.tr (h3.next + 28)).set R (some (.cells false (ws.set c (ws.getD k .undef))))).set R (some (.cells false ((ws.set c (ws.getD k .undef)).set k (ws.getD c .undef))))) := ((Fx2.of fb).sety _).sety _
        have n4 : (((H.mk h3.tr (h3.next + 28)).set R (some (.cells false (ws.set c (ws.getD k .undef))))).set R (some (.cells false ((ws.set c (ws.getD k .undef)).set k (ws.getD c .undef))))).next = h3.next + 28 := rfl
        generalize ((H.mk h3.tr (h3.next + 28)).set R (some (.cells false (ws.set c (ws.getD k .undef))))).set R (some (.cells false ((ws.set c (ws.getD k .undef)).set k (ws.getD c .undef)))) = h4 at *
        obtain ⟨z0, z1, z2⟩ := row3 K2.gW
        rw [← n4]
        have fb2 : Fr h4 (H.mk h4.tr (h4.next + 14)) := (Fr.refl h4).bump (by omega)
        have K3 := K2.fr fb2
        simp (disch := first | omega | (simp only [Qn] <;> omega)) only [go_sem, z1, z0]
        refine (residue_ok (0 - d) p (H.mk h4.tr (h4.next + 14)) (by omega) (by omega)).mono ?_
        rintro v h5 ⟨rfl, rfl⟩
        have e : (0 - d) % p = -d % p := by rw [Int.zero_sub]
        rw [e]
        have K4 := K3.setd (-d % p)
        simp (disch := first | omega | (simp only [Qn] <;> omega)) only [go_sem, K2.gW, putO_mid]
        exact .inl ⟨k, hck, hk', h0, .inr ⟨hck2, K4⟩, (FX.trans (Fx2.of fb2)).setx _⟩
      · simp (disch := first | omega | (simp only [Qn] <;> omega)) only [go_sem]
        exact .inl ⟨k, hck, hk', h0, .inl ⟨by omega, K⟩, Fx2.refl _ _ _⟩
  · rw [decide_eq_false hlt]
    obtain rfl : k = n := by omega
    simp (disch := first | omega | (simp only [Qn] <;> omega)) only [go_sem, K.gW, putO_mid]
    exact .inr ⟨fun j h1 h2 => hz j h1 h2, K.setd 0, (Fx2.refl _ _ _).setx _⟩
end Go.Proofs.Ytonhijbeddcmpaa

/- Layer 4: clear. -/
namespace Go.Proofs.Ytonhijbeddcmpaa
open Go Go.Ay
set_option maxRecDepth 100000
theorem zipWith_getD {G : Int → Int → Int} {a b : List Int} {j : Nat} (ha : j < a.length) (hb : j < b.length) : (List.zipWith G a b).getD j 0 = G (a.getD j 0) (b.getD j 0) := by
  rw [List.getD_eq_getElem?_getD, List.getElem?_zipWith, List.getD_eq_getElem?_getD, List.getD_eq_getElem?_getD, List.getElem?_eq_getElem ha, List.getElem?_eq_getElem hb]
  rfl
theorem own_sep {h : H} {w : V} {l : List V} {lo x y : Nat} (o : Own h w 1 l lo) (hx : x < lo) (hy : y < lo) : ∀ id off m c, w = .sl id off m c → id ≠ x ∧ id ≠ y := fun id off m c e => by
  have := Frs.own o _ _ _ _ e
  omega
theorem len_set {ll : List (List Int)} {n L i : Nat} {l : List Int} (h : ∀ j, j < n → (ll.getD j []).length = L) (hl : l.length = L) (hi : i < ll.length) : ∀ j, j < n → ((ll.set i l).getD j []).length = L := fun j hj => by
  rw [getD_set, if_pos hi]
  split
  · exact hl
  · exact h j hj
set_option maxHeartbeats 8000000 in
theorem clear_ok (A : Mx) (h : H) (W R n c : Nat) (p d : Int) (ws : List V) (ll : List (List Int)) (lo : Nat) (K : Wk h W R n p d ws ll lo) (E : Elim p n A c d (ent ll)) (hc : c < n) (hn : n ≤ 64) (hl : ∀ i, i < n → (ll.getD i []).length = n + n) (hP : isP p = true) (hp2 : p < 10000) (hd : 0 ≤ d ∧ d < p) (h0 : ent ll c c ≠ 0) :
    Ev T n_matrix_work_clear [.ptr W 0, .int .i64 (c : Int)] h (fun _ h' => ∃ d' ws' ll', Wk h' W R n p d' ws' ll' lo ∧ Elim p n A (c + 1) d' (ent ll') ∧ (∀ i, i < n → (ll'.getD i []).length = n + n) ∧ (0 ≤ d' ∧ d' < p) ∧ Fx2 W R h h') := by
  refine Ev_of t_matrix_work_clear rfl ?_
  have hp1 : 1 < p := by simp only [isP, Bool.and_eq_true, decide_eq_true_eq] at hP; omega
  obtain ⟨w0, w1, w2⟩ := row3 K.gW
  obtain ⟨idc, offc, sc, hidc, cc⟩ := (K.si hc).open
  rw [hl c hc] at sc hidc cc
  have lt2 : c < n + n := by omega
  have ccc : h.cell idc (offc + c) = some (.int .i64 (ent ll c c)) := cc c lt2
  have pv1 := E.lo c c hc lt2
  have pv2 := E.hi c c hc lt2
  have b1 := mul_bound hd.1 hd.2 pv1 pv2 hp2
  have em := nonneg_tmod (p := p) b1.1
  simp (disch := first | omega | (simp only [Qn] <;> omega)) only [go_sem, c_matrix_work_clear, initV_eq, w0, w1, w2, K.at_ c hc, sc.ixa, ccc, em, K.gW, putO_mid]
  have fb : Fr h (H.mk h.tr (h.next + 24)) := (Fr.refl h).bump (by omega)
  have K1 := (K.fr fb).setd (d * ent ll c c % p)
  have FX : Fx2 W R h ((H.mk h.tr (h.next + 24)).set W (some (.cells false [.int .i64 p, .int .i64 (d * ent ll c c % p), .sl R 0 n (.un 1)]))) := (Fx2.of fb).setx _
  have n1 : ((H.mk h.tr (h.next + 24)).set W (some (.cells false [.int .i64 p, .int .i64 (d * ent ll c c % p), .sl R 0 n (.un 1)]))).next = h.next + 24 := rfl
  generalize (H.mk h.tr (h.next + 24)).set W (some (.cells false [.int .i64 p, .int .i64 (d * ent ll c c % p), .sl R 0 n (.un 1)])) = h1 at *
  have hd1 := tmod_range (d * ent ll c c) (show 0 < p by omega)
  obtain ⟨d1, hd1e⟩ : ∃ d1, d * ent ll c c % p = d1 := ⟨_, rfl⟩
  rw [hd1e] at K1 hd1
  rw [← n1]
  clear w0 w1 w2 em b1
  obtain ⟨w0, w1, w2⟩ := row3 K1.gW
  have sc0 := sc
  clear sc hidc cc ccc
  obtain ⟨idc, offc, sc, hidc, cc⟩ := (K1.si hc).open
  rw [hl c hc] at sc hidc cc
  have ccc : h1.cell idc (offc + c) = some (.int .i64 (ent ll c c)) := cc c lt2
  simp (disch := first | omega | (simp only [Qn] <;> omega)) only [go_sem, w0, w2, K1.at_ c hc, sc.ixa, ccc]
  have fb2 : Fr h1 (H.mk h1.tr (h1.next + 20)) := (Fr.refl h1).bump (by omega)
  generalize H.mk h1.tr (h1.next + 20) = h2 at *
  refine (inv_ok (ent ll c c) p h2 hP hp2 (by omega)).mono ?_
  rintro v h3 ⟨x, rfl, x1, x2, x3, f3⟩
  have f13 := fb2.trans f3
  have K3 := K1.fr f13
  obtain ⟨z0, z1, z2⟩ := row3 K3.gW
  have fb3 : Fr h3 (H.mk h3.tr (h3.next + 34)) := (Fr.refl h3).bump (by omega)
  have K4 := K3.fr fb3
  obtain ⟨y0, y1, y2⟩ := row3 K4.gW
  have ea4 := K4.at_ c hc
  have n4 : (H.mk h3.tr (h3.next + 34)).next = h3.next + 34 := rfl
  simp (disch := first | omega | (simp only [Qn] <;> omega)) only [go_sem, z0, z2, K3.at_ c hc]
  generalize H.mk h3.tr (h3.next + 34) = h4 at *
  refine (plus_ok p (x + p - 1) h4).mono ?_
  rintro w h5 ⟨ix, ip, rfl, cx, cp, lx, lp, f5⟩
  have K5 := K4.fr f5
  obtain ⟨q0, q1, q2⟩ := row3 K5.gW
  have ev := SV.eqV (K5.si hc)
  have ltW := K5.ltW
  have ltR := K5.ltR
  simp (disch := first | omega | (simp only [Qn] <;> omega)) only [go_sem, q2, K5.at_ c hc, ev, eqV_sl]
  refine (zip_ok _ _ _ _ _ (fun a b => (a + (x + p - 1) * b) % p) h5 (K5.si hc) (K5.si hc) (Nat.le_refl _) (by rw [hl c hc]; omega) fun h' f' j hj => ?_).mono ?_
  · rw [hl c hc] at hj
    have a1 := E.lo c j hc hj
    have a2 := E.hi c j hc hj
    rw [ent] at a1 a2
    have b1 := Int.mul_nonneg (show 0 ≤ x + p - 1 by omega) a1
    have b2 := Int.mul_le_mul (show x + p - 1 ≤ 20000 by omega) (Int.le_of_lt a2) a1 (by omega)
    exact plus1_ok ix ip p (x + p - 1) _ _ h' (by rw [f'.cell lx.2]; exact cx) (by rw [f'.cell lp.2]; exact cp) (by omega) (by omega) (by omega) (by omega)
  rintro w h6 ⟨o6, f6⟩
  have K6 := K5.fr f6
  obtain ⟨r0, r1, r2⟩ := row3 K6.gW
  have K7 := K6.put c o6.sv (own_sep o6 ltR ltW) (own_cap o6) ((Frs.own o6).le K5.lt)
  have hv := SV.what o6.sv
  have hst := fun hh => stV_one hv.1 hv.2.1 hh R c
  have hpt := putO_one (vs := ws) (off := c) (by rw [K.lw]; exact hc) h6 R w
  simp (disch := first | omega | (simp only [Qn] <;> omega)) only [go_sem, r2, eqV_sl, hst, K6.gR, hpt]
  have F6 : Fx2 W R h (h6.set R (some (.cells false (ws.set c w)))) := (FX.trans (Fx2.of (((f13.trans fb3).trans f5).trans f6))).sety _
  have ll1 : (List.zipWith (fun a b => (a + (x + p - 1) * b) % p) (ll.getD c []) (ll.getD c [])).length = n + n := by rw [List.length_zipWith, hl c hc]; omega
  obtain ⟨E1, one1⟩ := E.one (W' := ent (ll.set c (List.zipWith (fun a b => (a + (x + p - 1) * b) % p) (ll.getD c []) (ll.getD c [])))) hp1 hc x3 (fun j hj => by
    rw [ent_set (by rw [K.lr]; exact hc), if_pos rfl, zipWith_getD (by rw [hl c hc]; exact hj) (by rw [hl c hc]; exact hj)]
    show (ent ll c j + (x + p - 1) * ent ll c j) % p = _
    rw [show ent ll c j + (x + p - 1) * ent ll c j = x * ent ll c j + p * ent ll c j by grind, Int.add_mul_emod_self_left]) (fun i j _ hne _ => by rw [ent_set (by rw [K.lr]; exact hc), if_neg (fun h => hne h.symm)])
  have hl1 := len_set hl ll1 (by rw [K.lr]; exact hc)
  rw [hd1e] at E1
  generalize ll.set c (List.zipWith (fun a b => (a + (x + p - 1) * b) % p) (ll.getD c []) (ll.getD c [])) = ll1 at *
  generalize ws.set c w = ws1 at *
  generalize h6.set R (some (.cells false ws1)) = h7 at *
  clear r0 r1 r2 q0 q1 q2 y0 y1 y2 z0 z1 z2 w0 w1 w2 hst hpt hv ev ea4 K6 K5 K4 K3 K1 o6 f6 f5 fb3 f13 f3 fb2 FX cx cp n4
  obtain ⟨w0, w1, w2⟩ := row3 K7.gW
  have lensR : lensV (.sl R 0 n (.un 1)) = some (.int .i64 (n : Int)) := rfl
  simp (disch := first | omega | (simp only [Qn] <;> omega)) only [go_sem, w2, lensR]
  refine Wp_loop (fun k' vars h3 => ∃ (k : Nat) (ws : List V) (ll : List (List Int)), (∃ g : Nat → V, vars = [.ptr W 0, .int .i64 (c : Int), g 2, g 3, g 4, .sl R 0 n (.un 1), .int .i64 (n : Int), .int .i64 (k : Int), g 8, g 9]) ∧ k ≤ n ∧ Wk h3 W R n p d1 ws ll lo ∧ Elim p n A c d1 (ent ll) ∧ ent ll c c = 1 ∧ (∀ i, i < k → i ≠ c → ent ll i c = 0) ∧ (∀ i, i < n → (ll.getD i []).length = n + n) ∧ Fx2 W R h h3 ∧ k' = n - k) n
    ⟨0, ws1, ll1, ex_junk rfl, Nat.zero_le _, K7, E1, one1, fun i hi => absurd hi (Nat.not_lt_zero i), hl1, F6, rfl⟩ ?_
  clear K7 E1 one1 hl1 F6 w0 w1 w2 ltW ltR
  rintro k' vars h3 ⟨k, ws, ll, ⟨g, rfl⟩, hk, K, E, one, zer, hl, FX, rfl⟩
  simp (disch := first | omega | (simp only [Qn] <;> omega)) only [go_sem]
  by_cases hlt : (k : Int) < (n : Int)
  · rw [decide_eq_true hlt]
    have hk' : k < n := by omega
    obtain ⟨idk, offk, sk, hidk, ck⟩ := (K.si hk').open
    rw [hl k hk'] at sk hidk ck
    have ckc : h3.cell idk (offk + c) = some (.int .i64 (ent ll k c)) := ck c lt2
    simp (disch := first | omega | (simp only [Qn] <;> omega)) only [go_sem, K.at_ k hk']
    by_cases hkc : (k : Int) ≠ (c : Int)
    · rw [decide_eq_true hkc]
      have hne : k ≠ c := by omega
      simp (disch := first | omega | (simp only [Qn] <;> omega)) only [go_sem, sk.ixa, ckc]
      by_cases hz : 0 < ent ll k c
      · rw [decide_eq_true hz]
        obtain ⟨w0, w1, w2⟩ := row3 K.gW
        have fb : Fr h3 (H.mk h3.tr (h3.next + 30)) := (Fr.refl h3).bump (by omega)
        have K4 := K.fr fb
        have e1 := E.hi k c hk' lt2
        simp (disch := first | omega | (simp only [Qn] <;> omega)) only [go_sem, w0, w2, K.at_ c hc, sk.ixa, ckc]
        generalize H.mk h3.tr (h3.next + 30) = h4 at *
        refine (plus_ok p (p - ent ll k c) h4).mono ?_
        rintro w h5 ⟨ix, ip, rfl, cx, cp, lx, lp, f5⟩
        have K5 := K4.fr f5
        obtain ⟨q0, q1, q2⟩ := row3 K5.gW
        have ev := SV.eqV (K5.si hc)
        have ltW := K5.ltW
        have ltR := K5.ltR
        simp (disch := first | omega | (simp only [Qn] <;> omega)) only [go_sem, q2, K5.at_ c hc, ev, eqV_sl]
        refine (zip_ok _ _ _ _ _ (fun a b => (a + (p - ent ll k c) * b) % p) h5 (K5.si hk') (K5.si hc) (by rw [hl k hk', hl c hc]; exact Nat.le_refl _) (by rw [hl k hk']; omega) fun h' f' j hj => ?_).mono ?_
        · rw [hl k hk'] at hj
          have a1 := E.lo c j hc hj
          have a2 := E.hi c j hc hj
          have a3 := E.lo k j hk' hj
          have a4 := E.hi k j hk' hj
          rw [ent] at a1 a2 a3 a4
          have b1 := Int.mul_nonneg (show 0 ≤ p - ent ll k c by omega) a1
          have b2 := Int.mul_le_mul (show p - ent ll k c ≤ 20000 by omega) (Int.le_of_lt a2) a1 (by omega)
          exact plus1_ok ix ip p (p - ent ll k c) _ _ h' (by rw [f'.cell lx.2]; exact cx) (by rw [f'.cell lp.2]; exact cp) (by omega) (by omega) (by omega) (by omega)
        rintro w h6 ⟨o6, f6⟩
        have K6 := K5.fr f6
        obtain ⟨r0, r1, r2⟩ := row3 K6.gW
        have K7 := K6.put k o6.sv (own_sep o6 ltR ltW) (own_cap o6) ((Frs.own o6).le K5.lt)
        have hv := SV.what o6.sv
        have hst := fun hh => stV_one hv.1 hv.2.1 hh R k
        have hpt := putO_one (vs := ws) (off := k) (by rw [K.lw]; exact hk') h6 R w
        simp (disch := first | omega | (simp only [Qn] <;> omega)) only [go_sem, r2, eqV_sl, hst, K6.gR, hpt]
        rw [show (k : Int) + 1 = ((k + 1 : Nat) : Int) from by omega]
        have lz : (List.zipWith (fun a b => (a + (p - ent ll k c) * b) % p) (ll.getD k []) (ll.getD c [])).length = n + n := by rw [List.length_zipWith, hl c hc, hl k hk']; omega
        obtain ⟨E2, z2⟩ := E.clear (W' := ent (ll.set k (List.zipWith (fun a b => (a + (p - ent ll k c) * b) % p) (ll.getD k []) (ll.getD c [])))) hp1 hc one hk' hne (fun j hj => by
          rw [ent_set (by rw [K.lr]; exact hk'), if_pos rfl, zipWith_getD (by rw [hl k hk']; exact hj) (by rw [hl c hc]; exact hj)]
          rfl) (fun i j _ hne2 _ => by rw [ent_set (by rw [K.lr]; exact hk'), if_neg (fun h => hne2 h.symm)])
        refine ⟨n - (k + 1), by omega, k + 1, _, _, ex_junk rfl, by omega, K7, E2, ?_, fun i hi hic => ?_, len_set hl lz (by rw [K.lr]; exact hk'), (FX.trans (Fx2.of ((fb.trans f5).trans f6))).sety _, rfl⟩
        · rw [ent_set (by rw [K.lr]; exact hk'), if_neg hne]; exact one
        · by_cases e : i = k
          · rw [e]; exact z2
          · rw [ent_set (by rw [K.lr]; exact hk'), if_neg (fun h => e h.symm)]
            exact zer i (by omega) hic
      · rw [decide_eq_false hz]
        simp (disch := first | omega | (simp only [Qn] <;> omega)) only [go_sem]
        rw [show (k : Int) + 1 = ((k + 1 : Nat) : Int) from by omega]
        have := E.lo k c hk' lt2
        exact ⟨n - (k + 1), by omega, k + 1, ws, ll, ex_junk rfl, by omega, K, E, one, fun i hi hic => by
          by_cases e : i = k
          · rw [e]; omega
          · exact zer i (by omega) hic, hl, FX, rfl⟩
    · rw [decide_eq_false hkc]
      simp (disch := first | omega | (simp only [Qn] <;> omega)) only [go_sem, undef_eq]
      rw [show (k : Int) + 1 = ((k + 1 : Nat) : Int) from by omega]
      exact ⟨n - (k + 1), by omega, k + 1, ws, ll, ex_junk rfl, by omega, K, E, one, fun i hi hic => zer i (by omega) hic, hl, FX, rfl⟩
  · rw [decide_eq_false hlt]
    obtain rfl : k = n := by omega
    simp (disch := first | omega | (simp only [Qn] <;> omega)) only [go_sem]
    refine ⟨d1, ws, ll, K, ⟨E.lo, E.hi, E.rel, fun i j hi hj => ?_, E.dd⟩, hl, hd1, FX⟩
    by_cases e : j = c
    · subst e
      by_cases e2 : i = j
      · subst e2; rw [if_pos rfl]; exact one
      · rw [if_neg e2]; exact zer i hi e2
    · exact E.unit i j hi (by omega)
end Go.Proofs.Ytonhijbeddcmpaa

/- Layer 4: invert. -/
namespace Go.Proofs.Ytonhijbeddcmpaa
open Go Go.Ay
set_option maxRecDepth 100000
theorem Rws.app' {h : H} {u : V} {ws : List V} {ll : List (List Int)} {lo : Nat} (r : Rws h u ws ll lo) (hlo : lo ≤ h.next) {w y : V} {l : List Int} (hy : SV h y 1 [w]) (hw : SI h w l) (dw : Dis u w) (fw : Frs w lo) (hs : ws.length < 1000000) :
    ∃ h', appP h 1 24 u y = some (.sl h.next 0 (ws.length + 1) (.un 1), h') ∧ Rws h' (.sl h.next 0 (ws.length + 1) (.un 1)) (ws ++ [w]) (ll ++ [l]) lo ∧ h'.get h.next = some (.cells false (ws ++ [w])) ∧ h.next < h'.next ∧ (∀ k, k < h.next → Apart u k → h'.get k = h.get k) ∧ ∀ a, Fr a h → a.next ≤ lo → Fr a h' := by
  obtain ⟨v, h', e, R', n', k', f'⟩ := r.app hlo hy hw dw fw hs
  have ev := app_at r.own (n := ws.length) (by omega) (m := 1) (by omega) (by omega) hy rfl e
  subst ev
  obtain ⟨v2, h2, e2, a⟩ := r.own.app (bytes := 24) (n := ws.length) (m := 1) (us := [w]) (y := y) hlo hy (by omega) rfl (by omega) (by omega)
  rw [e] at e2
  simp only [Option.some.injEq, Prod.mk.injEq] at e2
  obtain ⟨rfl, rfl⟩ := e2
  rcases a.what with ⟨h1, _⟩ | ⟨id, h1, h2, h3, h4⟩
  · omega
  · have : id = h.next := by cases h1; rfl
    subst this
    exact ⟨h', e, R', h4, h3, k', f'⟩
theorem bls_two (h : H) {x u : V} (hx : x.cells = [x]) (hx1 : x.one = true) (hu : u.cells = [u]) (hu1 : u.one = true) : blsV h 1 [.nils] 2 [(0, 1, x), (1, 1, u)] = some (.sl h.next 0 2 (.kn 2), h.new (.cells false [x, u])) := by
  have e : zerosV [V.nils] 2 = [.nils, .nils] := rfl
  simp [blsV, fillV, e, hx, hu, hx1, hu1, putAt]
theorem putO_last {x y z v : V} (h : H) (id : Nat) : putO (some (.cells false [x, y, z])) h id 2 [v] = some (h.set id (some (.cells false [x, y, v]))) := by
  simp [putO, putAt]
theorem def1_ok (h : H) (V5 W A3 : Nat) (d x : Int) (cV : h.cell V5 0 = some (.ptr W 0)) (cW : h.cell W 1 = some (.int .i64 d)) (gA : h.get A3 = some (.cells false [.int .i64 x])) :
    Ev T n_matrix_invert_1 [.ptr V5 0, .ptr A3 0] h (fun _ h3 => h3 = h.set A3 (some (.cells false [.int .i64 d]))) := by
  refine Ev_of t_matrix_invert_1 rfl ?_
  have hp : putO (some (.cells false [.int .i64 x])) h A3 0 [.int .i64 d] = some (h.set A3 (some (.cells false [.int .i64 d]))) := putO_one (by simp) _ _ _
  simp (disch := first | omega | (simp only [Qn] <;> omega)) only [go_sem, c_matrix_invert_1, initV_eq, cV, cW, gA, hp]
/-- A row of A with a row of the identity behind it. -/
def augF (A : List (List Int)) (n : Nat) : Nat → Nat → Int := fun i j => if j < n then ent A i j else if i = j - n then 1 else 0
set_option maxHeartbeats 8000000 in
theorem invert_ok (va : V) (a : Mat) (n : Nat) (h : H) (ha : MatV h va a) (da : Vd a n) (hsq : a.2.length = n) :
    Ev T n_matrix_invert [va] h (fun v h' => ∃ w dd, v = .tup [w, .int .i64 dd] ∧ Fr h h' ∧ dd = det n (ent a.2) % a.1 ∧ (dd = 0 → MatO h' w (0, []) h.next) ∧ (dd ≠ 0 → ∃ X, IsInv a.1 n (ent a.2) X ∧ MatO h' w (a.1, mkR n n X) h.next)) := by
  obtain ⟨ua, rfl, hua⟩ := ha
  obtain ⟨p, A⟩ := a
  simp only at hua hsq
  have wa := SV.what hua.choose_spec.1
  have hfp := da.p
  have hp := fieldF_range hfp
  have hP : isP p = true := by simp only [fieldF, Bool.and_eq_true] at hfp; exact hfp.2
  have hn1 := da.r1
  have hn2 := da.r2
  simp only at hp hn1 hn2 hfp
  rw [hsq] at hn1 hn2
  refine Ev_of_deferD t_matrix_invert rfl t_matrix_invert_1 rfl ?_
  simp (disch := first | omega | (simp only [Qn] <;> omega)) only [go_sem, c_matrix_invert, initV_eq]
  refine WpD_seq ?_
  simp (disch := first | omega | (simp only [Qn] <;> omega)) only [go_sem, boxV_agg2 h (v := .int .i64 p) rfl wa.2.1]
  have hfx : Fr h (h.new (.cells false [.int .i64 p, ua])) := (Fr.refl h).new _
  have hgx : (h.new (.cells false [.int .i64 p, ua])).get h.next = some (.cells false [.int .i64 p, ua]) := H.get_new_same ..
  have hnx : (h.new (.cells false [.int .i64 p, ua])).next = h.next + 1 := H.next_new ..
  generalize h.new (.cells false [.int .i64 p, ua]) = hx at *
  have hfy : Fr hx (hx.new (.cells false [.int .i64 0, .nils])) := (Fr.refl hx).new _
  have hgy : (hx.new (.cells false [.int .i64 0, .nils])).get hx.next = some (.cells false [.int .i64 0, .nils]) := H.get_new_same ..
  have hny : (hx.new (.cells false [.int .i64 0, .nils])).next = hx.next + 1 := H.next_new ..
  generalize hx.new (.cells false [.int .i64 0, .nils]) = hy at *
  have hfz : Fr hy (hy.new (.cells false [.int .i64 0])) := (Fr.refl hy).new _
  have hgz : (hy.new (.cells false [.int .i64 0])).get hy.next = some (.cells false [.int .i64 0]) := H.get_new_same ..
  have hnz : (hy.new (.cells false [.int .i64 0])).next = hy.next + 1 := H.next_new ..
  generalize hy.new (.cells false [.int .i64 0]) = hz at *
  have F := (hfx.trans hfy).trans hfz
  have gx := (hfz.get h.next (by omega)).trans ((hfy.get h.next (by omega)).trans hgx)
  have gy := (hfz.get hx.next (by omega)).trans hgy
  have x0 : hz.cell h.next 0 = some (.int .i64 p) := by rw [H.cell_of gx]; rfl
  have x1 : hz.cell h.next 1 = some ua := by rw [H.cell_of gx]; rfl
  refine WpD_seq ?_
  simp (disch := first | omega | (simp only [Qn] <;> omega)) only [go_sem, x1, hua.lens]
  refine WpD_seq ?_
  have hbl : bldV [.int .i64 0, .int .i64 0, .nils] [(0, 1, .int .i64 p), (1, 1, .int .i64 1)] = some (.agg [.int .i64 p, .int .i64 1, .nils]) := by
    simp [bldV, fillV, V.cells, V.one, putAt]
  have hbx := boxV_agg hz [.int .i64 p, .int .i64 1, .nils] rfl
  simp (disch := first | omega | (simp only [Qn] <;> omega)) only [go_sem, x0, hbl, hbx]
  have hfw : Fr hz (hz.new (.cells false [.int .i64 p, .int .i64 1, .nils])) := (Fr.refl hz).new _
  have hgw : (hz.new (.cells false [.int .i64 p, .int .i64 1, .nils])).get hz.next = some (.cells false [.int .i64 p, .int .i64 1, .nils]) := H.get_new_same ..
  have hnw : (hz.new (.cells false [.int .i64 p, .int .i64 1, .nils])).next = hz.next + 1 := H.next_new ..
  generalize hz.new (.cells false [.int .i64 p, .int .i64 1, .nils]) = hw at *
  have hst := fun hh id => stV_one (y := .ptr hz.next 0) rfl rfl hh id 0
  simp (disch := first | omega | (simp only [Qn] <;> omega)) only [go_sem, hst]
  rw [← hnw, ← hnx, ← hny]
  have hfv : Fr hw (hw.new (.cells false [.nilp])) := (Fr.refl hw).new _
  have hgv : (hw.new (.cells false [.nilp])).get hw.next = some (.cells false [.nilp]) := H.get_new_same ..
  have hnv : (hw.new (.cells false [.nilp])).next = hw.next + 1 := H.next_new ..
  generalize hw.new (.cells false [.nilp]) = hv at *
  obtain ⟨W, hW⟩ : ∃ W, hz.next = W := ⟨_, rfl⟩
  obtain ⟨V5, hV5⟩ : ∃ V5, hw.next = V5 := ⟨_, rfl⟩
  obtain ⟨A2, hA2⟩ : ∃ A2, hx.next = A2 := ⟨_, rfl⟩
  obtain ⟨A3, hA3⟩ : ∃ A3, hy.next = A3 := ⟨_, rfl⟩
  rw [hW, hV5, hA2, hA3]
  have gW0 : (hv.set V5 (some (.cells false [.ptr W 0]))).get W = some (.cells false [.int .i64 p, .int .i64 1, .nils]) := by
    rw [H.get_set_ne _ (by omega), ← hW]; exact (hfv.get _ (by omega)).trans hgw
  have gV0 : (hv.set V5 (some (.cells false [.ptr W 0]))).get V5 = some (.cells false [.ptr W 0]) := H.get_set_same ..
  have fB0 : Fr hz (hv.set V5 (some (.cells false [.ptr W 0]))) := (hfw.trans hfv).set (by omega) _
  have nB0 : (hv.set V5 (some (.cells false [.ptr W 0]))).next = V5 + 1 := by rw [H.next_set]; omega
  rw [hV5] at hgv
  have hpv : putO (hv.get V5) hv V5 0 [.ptr W 0] = some (hv.set V5 (some (.cells false [.ptr W 0]))) := by rw [hgv]; exact putO_one (by decide) _ _ _
  simp (disch := first | omega | (simp only [Qn] <;> omega)) only [go_sem, hpv]
  generalize hv.set V5 (some (.cells false [.ptr W 0])) = hB at *
  refine WpD_regd (fs := []) (cs := [.ptr V5 0, .ptr A3 0]) ?_
  have x0B : hB.cell h.next 0 = some (.int .i64 p) := by rw [fB0.cell (by omega)]; exact x0
  simp (disch := first | omega | (simp only [Qn] <;> omega)) only [go_sem, x0B, hsq]
  refine (one_ok n p hB hn1 hn2).mono ?_
  rintro w h1 ⟨⟨u1, wsI, rfl, RI⟩, f1⟩
  have LI := RI.row.length
  have LI2 : (oneF n p).2.length = n := mkR_len ..
  have hwI : ∀ w ∈ wsI, Frs w hB.next := RI.frs
  obtain ⟨idI, capI, restI, rfl, hlI, hidI, hgI⟩ : ∃ idI cap rest, u1 = .sl idI 0 n cap ∧ hB.next ≤ idI ∧ idI < h1.next ∧ h1.get idI = some (.cells false (wsI ++ rest)) := by
    rcases RI.own with ⟨_, h2⟩ | ⟨id, m, cap, rest, h2, h3, _, h4, h5, h6⟩
    · rw [h2] at LI; simp at LI; omega
    · exact ⟨id, cap, rest, by rw [h2, show m = n by omega], h4, h5, h6⟩
  have lensI : lensV (.sl idI 0 n capI) = some (.int .i64 (n : Int)) := rfl
  have gW1 := (f1.get W (by omega)).trans gW0
  have gV1 := (f1.get V5 (by omega)).trans gV0
  have fz1 := fB0.trans f1
  have F1 := F.trans fz1
  have n1 := f1.next
  have gA2 : hB.get A2 = some (.cells false [.int .i64 0, .nils]) := (fB0.get A2 (by omega)).trans (by rw [← hA2]; exact gy)
  have gA3 : hB.get A3 = some (.cells false [.int .i64 0]) := (fB0.get A3 (by omega)).trans (by rw [← hA3]; exact hgz)
  have partE : partV false 1 1 (.agg [.int .i64 (oneF n p).1, .sl idI 0 n capI]) = some (.sl idI 0 n capI) := rfl
  simp (disch := first | omega | (simp only [Qn] <;> omega)) only [go_sem, partE, lensI]
  obtain ⟨lo, hlo⟩ : ∃ lo, h1.next = lo := ⟨_, rfl⟩
  have da' := da
  obtain ⟨ida, offa, wsa, ρa, oa, RA⟩ := SR.rd (hua.mono F) fun i hi => da.row i hi
  refine Wp_loop (fun k' vars h3 => ∃ (i : Nat) (u : V) (ws : List V), (∃ g : Nat → V, vars = [g 0, .ptr h.next 0, .ptr A2 0, .ptr A3 0, .int .i64 (n : Int), .ptr V5 0, g 6, g 7, g 8, g 9, g 10, .sl idI 0 n capI, .int .i64 (n : Int), .int .i64 (i : Int), g 14, g 15, g 16, g 17, g 18, g 19, g 20, g 21, g 22]) ∧ i ≤ n ∧ Rws h3 u ws (mkR i (n + n) (augF A n)) lo ∧ (∀ w ∈ ws, Cap1 w) ∧ h3.get W = some (.cells false [.int .i64 p, .int .i64 1, u]) ∧ (0 < i → ∃ R, u = .sl R 0 i (.un 1) ∧ h3.get R = some (.cells false ws) ∧ R < h3.next ∧ lo ≤ R) ∧ Fx W h1 h3 ∧ k' = n - i) n
    ⟨0, .nils, [], ex_junk rfl, Nat.zero_le _, Rws.nils _ _, fun w hw => (by cases hw), gW1, fun h => absurd h (Nat.not_lt_zero 0), Fx.refl _ _, rfl⟩ ?_
  rintro k' vars h3 ⟨i, u, ws, ⟨g, rfl⟩, hi, R3, C3, g3, w3, FX, rfl⟩
  have fz3 : Fr hz h3 := Fx.fr fz1 (by omega) FX
  simp (disch := first | omega | (simp only [Qn] <;> omega)) only [go_sem]
  by_cases hlt : (i : Int) < (n : Int)
  · rw [decide_eq_true hlt]
    have hi' : i < n := by omega
    have hiA : i < A.length := by omega
    have n3 := FX.next
    have cI : h3.cell idI i = some (wsI.getD i .undef) := by
      rw [H.cell_of ((FX.get idI hidI (by omega)).trans hgI), List.getElem?_append_left (by omega), List.getD_eq_getElem?_getD, List.getElem?_eq_getElem (by omega)]; rfl
    have sI : SI h3 (wsI.getD i .undef) (mkV n fun k => if i = k then 1 else 0) := by
      have s1 := row_at RI.row (i := i) (by omega)
      have fs : Frs (wsI.getD i .undef) hB.next := by
        rw [List.getD_eq_getElem?_getD, List.getElem?_eq_getElem (by omega)]
        exact hwI _ (List.getElem_mem _)
      have := SI.fx s1 fs (by omega : W < hB.next) FX
      simp only [oneF] at this
      rw [mkR_row _ hi'] at this
      exact this
    have RA3 := RA.fr fz3
    have sA : SI h3 (wsa.getD i .undef) (A.getD i []) := RA3.row i hiA
    have lA : (A.getD i []).length = n := da.row i hiA
    have cV : h3.cell V5 0 = some (.ptr W 0) := by rw [H.cell_of ((FX.get V5 (by omega) (by omega)).trans gV1)]; rfl
    obtain ⟨c30, c31, c32⟩ := row3 g3
    have x1' : h3.cell h.next 1 = some ua := by rw [fz3.cell (by omega)]; exact x1
    have vA := SV.what sA
    have vI := SV.what sI
    have hb2 := fun hh => bls_two hh vA.1 vA.2.1 vI.1 vI.2.1
    simp (disch := first | omega | (simp only [Qn] <;> omega)) only [go_sem, cI, cV, c32, x1', RA.sl.ixa, RA3.at_ i hiA, hb2, litV_eq]
    have fh : Fr h3 (litV h3 (h3.next + 11) [wsa.getD i .undef, wsI.getD i .undef] (h3.next + 18)) := litV_fr (Fr.refl h3) (by omega) (by omega) _
    have gh := litV_get h3 (h3.next + 11) [wsa.getD i .undef, wsI.getD i .undef] (h3.next + 18)
    have nh : (litV h3 (h3.next + 11) [wsa.getD i .undef, wsI.getD i .undef] (h3.next + 18)).next = h3.next + 18 := rfl
    generalize litV h3 (h3.next + 11) [wsa.getD i .undef, wsI.getD i .undef] (h3.next + 18) = hh at *
    refine (concat_ok (h3.next + 11) _ _ _ _ hh gh (by omega) (sA.mono fh) (sI.mono fh) (by omega) (by omega) (by rw [mkV_len]; omega)).mono ?_
    rintro w h5 ⟨o5, f5⟩
    have fh5 := fh.trans f5
    have n5 := f5.next
    have W3 : W < h3.next := by omega
    have cV5 : h5.cell V5 0 = some (.ptr W 0) := by rw [fh5.cell (by omega)]; exact cV
    have c52 : h5.cell W 2 = some u := by rw [fh5.cell W3]; exact c32
    have eu := SV.eqV R3.own.sv
    have vw := SV.what o5.sv
    have f35 := litAt_fr fh5 (a := h3.next + 13) (by omega) w
    have R5 := R3.fr f35
    have o5b : Own (litAt h5 (h3.next + 13) w) w 1 (ints (A.getD i [] ++ mkV n fun k => if i = k then 1 else 0)) hh.next := o5.mono (Nat.le_refl _) fun id _ _ _ _ h1 _ => litAt_ne h5 w (by omega)
    have sy := litAt_sv h5 (a := h3.next + 13) w (by omega)
    have nl : (litAt h5 (h3.next + 13) w).next = h5.next := rfl
    have hlen := R3.row.length
    rw [mkR_len] at hlen
    obtain ⟨h6, e6, R6, g6R, n6, k6, q6⟩ := R5.app' (by omega) sy o5b.sv (Own.dis (R3.own.fr fh) o5) (Frs.le (Frs.own o5) (by omega)) (by omega)
    have g6 := (k6 W (by omega) (own_apart R5.own (by omega))).trans ((f35.get W W3).trans g3)
    have gV6 := (k6 V5 (by omega) (own_apart R5.own (by omega))).trans ((f35.get V5 (by omega)).trans ((FX.get V5 (by omega) (by omega)).trans gV1))
    have cV6 : h6.cell V5 0 = some (.ptr W 0) := by rw [H.cell_of gV6]; rfl
    have hst1 := fun hh => stV_one (y := .sl (litAt h5 (h3.next + 13) w).next 0 (ws.length + 1) (.un 1)) rfl rfl hh W 2
    rw [nl, hlen] at e6 R6
    rw [nl] at g6R n6
    simp (disch := first | omega | (simp only [Qn] <;> omega)) only [go_sem, cV5, c52, eu, bls_v (H.mk h5.tr (h3.next + 13)) w vw.1 vw.2.1, litAt_eq, e6, cV6, g6, putO_last]
    rw [show (i : Int) + 1 = ((i + 1 : Nat) : Int) from by omega]
    refine ⟨n - (i + 1), by omega, i + 1, .sl h5.next 0 (i + 1) (.un 1), ws ++ [w], ex_junk rfl, by omega, ?_, fun x hx => ?_, rfl, fun _ => ⟨h5.next, rfl, ?_, n6, by omega⟩, ?_, rfl⟩
    · rw [mkR_succ, show mkV (n + n) (augF A n i) = A.getD i [] ++ mkV n (fun k => if i = k then 1 else 0) from ?_]
      · exact R6.set (by omega) _
      · refine (mkV_eq (by rw [List.length_append, mkV_len, lA]) fun k hk => ?_).symm
        rw [augF]
        by_cases e : k < n
        · rw [if_pos e, List.getD_eq_getElem?_getD, List.getElem?_append_left (by omega), ← List.getD_eq_getElem?_getD]; rfl
        · rw [if_neg e, List.getD_eq_getElem?_getD, List.getElem?_append_right (by omega), lA, ← List.getD_eq_getElem?_getD, mkV_get _ (by omega)]
    · rcases List.mem_append.1 hx with hx | hx
      · exact C3 x hx
      · rw [List.mem_singleton.1 hx]; exact own_cap o5
    · rw [H.get_set_ne _ (by omega)]; exact g6R
    · refine ⟨by show h1.next ≤ h6.next; omega, fun id hid hne => ?_⟩
      rw [H.get_set_ne _ hne]
      exact (k6 id (by omega) (own_apart R5.own (by omega))).trans ((f35.get id (by omega)).trans (FX.get id hid hne))
  rw [decide_eq_false hlt]
  obtain rfl : n = i := by omega
  obtain ⟨R, rfl, gR, ltR, loR⟩ := w3 (by omega)
  simp (disch := first | omega | (simp only [Qn] <;> omega)) only [go_sem]
  have n3 := FX.next
  have K0 : Wk h3 W R n p 1 ws (mkR n (n + n) (augF A n)) lo := ⟨g3, gR, by rw [R3.row.length, mkR_len], R3.row, fun w hw id off m c e => ⟨fun e2 => R3.dis w hw _ _ _ _ rfl _ _ _ _ e e2.symm, by have := R3.frs w hw _ _ _ _ e; omega⟩, C3, by omega, R3.frs, by omega, by omega, ltR⟩
  have E0 : Elim p n (ent A) 0 1 (ent (mkR n (n + n) (augF A n))) := Elim.start (fun a b ha hb => ⟨da.lo a b (show a < A.length by omega) hb, da.hi a b (show a < A.length by omega) hb⟩) (by omega) (fun a b ha hb => by rw [mkR_ent _ ha (by omega), augF, if_pos hb]) (fun a b ha hb => by
    rw [mkR_ent _ ha (by omega), augF, if_neg (by omega), show n + b - n = b by omega])
  have hl0 : ∀ a, a < n → ((mkR n (n + n) (augF A n)).getD a []).length = n + n := fun a ha => by rw [mkR_row _ ha, mkV_len]
  have gV3 := (FX.get V5 (by omega) (by omega)).trans gV1
  have gA23 := (FX.get A2 (by omega) (by omega)).trans ((f1.get A2 (by omega)).trans gA2)
  have gA33 := (FX.get A3 (by omega) (by omega)).trans ((f1.get A3 (by omega)).trans gA3)
  have nW : W ≠ R := by omega
  refine Wp_loop (fun k' vars h4 => ∃ (c : Nat) (d : Int) (ws : List V) (ll : List (List Int)), (∃ g : Nat → V, vars = [g 0, .ptr h.next 0, .ptr A2 0, .ptr A3 0, .int .i64 (n : Int), .ptr V5 0, g 6, g 7, g 8, g 9, g 10, g 11, g 12, g 13, g 14, .int .i64 (n : Int), .int .i64 (c : Int), g 17, g 18, g 19, g 20, g 21, g 22]) ∧ c ≤ n ∧ Wk h4 W R n p d ws ll lo ∧ Elim p n (ent A) c d (ent ll) ∧ (∀ i, i < n → (ll.getD i []).length = n + n) ∧ (0 ≤ d ∧ d < p) ∧ Fx2 W R h3 h4 ∧ k' = n - c) n
    ⟨0, 1, _, _, ex_junk rfl, Nat.zero_le _, K0, E0, hl0, by omega, Fx2.refl _ _ _, rfl⟩ ?_
  clear K0 E0 hl0 R3 C3 g3 w3 gR g x0B hbl hbx hst gW0 gV0 gW1 gA2 gA3 hgI hwI RI lensI partE LI LI2
  rintro k' vars h4 ⟨c, d, ws2, ll, ⟨g, rfl⟩, hc, K, E, hl, hd, FX2, rfl⟩
  have n4 := FX2.next
  have gV4 := (FX2.get V5 (by omega) (by omega) (by omega)).trans gV3
  have gA24 := (FX2.get A2 (by omega) (by omega) (by omega)).trans gA23
  have gA34 := (FX2.get A3 (by omega) (by omega) (by omega)).trans gA33
  have cV4 : h4.cell V5 0 = some (.ptr W 0) := by rw [H.cell_of gV4]; rfl
  have fz4 : Fr hz h4 := Fx2.fr fz3 (by omega) (by omega) FX2
  simp (disch := first | omega | (simp only [Qn] <;> omega)) only [go_sem]
  by_cases hlt2 : (c : Int) < (n : Int)
  · rw [decide_eq_true hlt2]
    have hc' : c < n := by omega
    simp (disch := first | omega | (simp only [Qn] <;> omega)) only [go_sem, cV4]
    refine (pivot_ok h4 W R n c (n + n) p d ws2 ll lo K hc' (by omega) (by omega) hl (by omega) hd).mono ?_
    rintro v h5 (⟨rfl, k, hck, hk, hk0, hcase, FX5⟩ | ⟨rfl, hz0, K5, FX5⟩)
    · have gV5 := (FX5.get V5 (by omega) (by omega) (by omega)).trans gV4
      have cV5 : h5.cell V5 0 = some (.ptr W 0) := by rw [H.cell_of gV5]; rfl
      obtain ⟨d5, ws5, ll5, K5, E5, hl5, hd5, h05⟩ : ∃ d5 ws5 ll5, Wk h5 W R n p d5 ws5 ll5 lo ∧ Elim p n (ent A) c d5 (ent ll5) ∧ (∀ i, i < n → (ll5.getD i []).length = n + n) ∧ (0 ≤ d5 ∧ d5 < p) ∧ ent ll5 c c ≠ 0 := by
        rcases hcase with ⟨rfl, K5⟩ | ⟨hlt, K5⟩
        · exact ⟨d, ws2, ll, K5, E, hl, hd, hk0⟩
        · have l1 := len_set hl (hl k hk) (i := c) (by rw [K.lr]; exact hc')
          have e : ∀ i j, i < n → ent ((ll.set c (ll.getD k [])).set k (ll.getD c [])) i j = swp (ent ll) c k i j := fun i j hi => by
            rw [ent_set (by rw [List.length_set, K.lr]; exact hk), ent_set (by rw [K.lr]; exact hc'), swp_row]
            by_cases e1 : k = i
            · rw [if_pos e1, if_pos e1.symm]; rfl
            · rw [if_neg e1, if_neg (show ¬ i = k from fun h => e1 h.symm)]
              by_cases e2 : c = i
              · rw [if_pos e2, if_pos e2.symm]; rfl
              · rw [if_neg e2, if_neg (show ¬ i = c from fun h => e2 h.symm)]
          exact ⟨_, _, _, K5, E.swap hk hlt fun i j hi _ => e i j hi, len_set l1 (hl c hc') (by rw [List.length_set, K.lr]; exact hk), tmod_range _ (by omega), by rw [e c c hc', swp_left _ (by omega)]; exact hk0⟩
      simp (disch := first | omega | (simp only [Qn] <;> omega)) only [go_sem, cV5]
      refine (clear_ok (ent A) h5 W R n c p d5 ws5 ll5 lo K5 E5 hc' (by omega) hl5 hP (by omega) hd5 h05).mono ?_
      rintro v h6 ⟨d6, ws6, ll6, K6, E6, hl6, hd6, FX6⟩
      simp (disch := first | omega | (simp only [Qn] <;> omega)) only [go_sem]
      rw [show (c : Int) + 1 = ((c + 1 : Nat) : Int) from by omega]
      exact ⟨n - (c + 1), by omega, c + 1, d6, ws6, ll6, ex_junk rfl, by omega, K6, E6, hl6, hd6, (FX2.trans FX5).trans FX6, rfl⟩
    · have n5 := FX5.next
      have gA25 := (FX5.get A2 (by omega) (by omega) (by omega)).trans gA24
      have gA35 := (FX5.get A3 (by omega) (by omega) (by omega)).trans gA34
      have gV5 := (FX5.get V5 (by omega) (by omega) (by omega)).trans gV4
      have fz5 : Fr hz h5 := Fx2.fr fz4 (by omega) (by omega) FX5
      have hst2 := fun hh => stV_agg2 hh A2 0 (v := .int .i64 0) (u := .nils) rfl rfl
      have hp3 := fun hh : H => putO_one (vs := [.int .i64 0]) (off := 0) (by decide) hh A3 (.int .i64 0)
      simp (disch := first | omega | (simp only [Qn] <;> omega)) only [go_sem, bldV_nil, hst2, gA25, gA35, hp3]
      refine And.intro (fun _ hn => nomatch hn) ?_
      have c1 : ((h5.set A2 (some (.cells false [.int .i64 0, .nils]))).set A3 (some (.cells false [.int .i64 0]))).cell V5 0 = some (.ptr W 0) := by
        rw [H.cell_set_ne _ (by omega), H.cell_set_ne _ (by omega), H.cell_of gV5]; rfl
      have c2 : ((h5.set A2 (some (.cells false [.int .i64 0, .nils]))).set A3 (some (.cells false [.int .i64 0]))).cell W 1 = some (.int .i64 0) := by
        rw [H.cell_set_ne _ (by omega), H.cell_set_ne _ (by omega), H.cell_of K5.gW]; rfl
      refine (def1_ok _ V5 W A3 0 0 c1 c2 (H.get_set_same ..)).mono ?_
      rintro _ h6 rfl
      have r1 : (((h5.set A2 (some (.cells false [.int .i64 0, .nils]))).set A3 (some (.cells false [.int .i64 0]))).set A3 (some (.cells false [.int .i64 0]))).row A2 0 2 = some [.int .i64 0, .nils] := by
        refine row_two (ro := false) ?_
        rw [H.get_set_ne _ (by omega), H.get_set_ne _ (by omega), H.get_set_same]
      simp (disch := first | omega | (simp only [Qn] <;> omega)) only [go_sem, r1, List.getElem?_cons_zero]
      exact ⟨_, _, rfl, ((F.trans fz5).set (by omega) _).set (by omega) _ |>.set (by omega) _, (E.none hc' hz0).symm, fun _ => ⟨.nils, [], rfl, Rws.nils _ _⟩, fun h => absurd rfl h⟩
  rw [decide_eq_false hlt2]
  obtain rfl : n = c := by omega
  have x04 : h4.cell h.next 0 = some (.int .i64 p) := by rw [fz4.cell (by omega)]; exact x0
  have gWR := row3 K.gW
  have hpA : putO (some (.cells false [.int .i64 0, .nils])) h4 A2 0 [.int .i64 p] = some (h4.set A2 (some (.cells false [.int .i64 p, .nils]))) := putO_one (by decide) _ _ _
  have hcv : (h4.set A2 (some (.cells false [.int .i64 p, .nils]))).cell V5 0 = some (.ptr W 0) := by rw [H.cell_set_ne _ (by omega)]; exact cV4
  have hcW : (h4.set A2 (some (.cells false [.int .i64 p, .nils]))).cell W 2 = some (.sl R 0 n (.un 1)) := by rw [H.cell_set_ne _ (by omega)]; exact gWR.2.2
  have lensR : lensV (.sl R 0 n (.un 1)) = some (.int .i64 (n : Int)) := rfl
  have nA2R : A2 ≠ R := by omega
  simp (disch := first | omega | (simp only [Qn] <;> omega)) only [go_sem, x04, gA24, hpA, hcv, hcW, lensR]
  obtain ⟨X, hX⟩ : ∃ X : Nat → Nat → Int, X = fun i j => ent ll i (n + j) := ⟨_, rfl⟩
  have hlo4 : lo ≤ h4.next := K.lt
  refine Wp_loop (fun k' vars h6 => ∃ (i : Nat) (u : V) (wo : List V), (∃ g : Nat → V, vars = [g 0, g 1, .ptr A2 0, .ptr A3 0, .int .i64 (n : Int), .ptr V5 0, g 6, g 7, g 8, g 9, g 10, g 11, g 12, g 13, g 14, g 15, g 16, g 17, g 18, .sl R 0 n (.un 1), .int .i64 (n : Int), .int .i64 (i : Int), g 22]) ∧ i ≤ n ∧ Rws h6 u wo (mkR i n X) h4.next ∧ h6.get A2 = some (.cells false [.int .i64 p, u]) ∧ Fx A2 h4 h6 ∧ k' = n - i) n
    ⟨0, .nils, [], ex_junk rfl, Nat.zero_le _, Rws.nils _ _, H.get_set_same .., (Fx.refl _ _).set _, rfl⟩ ?_
  clear hcv hcW hpA
  rintro k' vars h6 ⟨i, u, wo, ⟨g, rfl⟩, hi, R6, g6, FX6, rfl⟩
  have n6 := FX6.next
  simp (disch := first | omega | (simp only [Qn] <;> omega)) only [go_sem]
  by_cases hlt3 : (i : Int) < (n : Int)
  · rw [decide_eq_true hlt3]
    have hi' : i < n := by omega
    have cR6 : h6.cell R i = some (ws2.getD i .undef) := by
      have := K.at_ i hi'
      unfold H.cell at *
      rw [FX6.get R K.ltR (by omega)]; exact this
    have s6 := SI.fx (K.si hi') (K.mfrs hi') (by omega : A2 < lo) FX6
    have cA6 : h6.cell A2 1 = some u := by rw [H.cell_of g6]; rfl
    obtain ⟨vr, evr, svr⟩ := slc_lo s6 (K.mcap hi') (k := n) (by rw [hl i hi']; omega)
    have edr : (ll.getD i []).drop n = mkV n (X i) := mkV_eq (by rw [List.length_drop, hl i hi']; omega) fun k hk => by
      rw [List.getD_eq_getElem?_getD, List.getElem?_drop, hX, ← List.getD_eq_getElem?_getD]; rfl
    rw [edr] at svr
    have fb : Fr h6 (H.mk h6.tr (h6.next + 10)) := (Fr.refl h6).bump (by omega)
    have svrb := svr.mono fb
    have nb : (H.mk h6.tr (h6.next + 10)).next = h6.next + 10 := rfl
    simp (disch := first | omega | (simp only [Qn] <;> omega)) only [go_sem, cR6, cA6, evr]
    generalize H.mk h6.tr (h6.next + 10) = hh at *
    refine (clone_ok vr (mkV n (X i)) hh svrb (by rw [mkV_len]; omega)).mono ?_
    rintro w h7 ⟨o7, f7, _⟩
    have f67 := fb.trans f7
    have n7 := f7.next
    have cA7 : h7.cell A2 1 = some u := by rw [f67.cell (by omega)]; exact cA6
    have eu := SV.eqV R6.own.sv
    have vw := SV.what o7.sv
    have f35 := litAt_fr f67 (a := h6.next + 6) (by omega) w
    have R7 := R6.fr f35
    have o7b : Own (litAt h7 (h6.next + 6) w) w 1 (ints (mkV n (X i))) hh.next := o7.mono (Nat.le_refl _) fun id _ _ _ _ h1 _ => litAt_ne h7 w (by omega)
    have sy := litAt_sv h7 (a := h6.next + 6) w (by omega)
    have nl : (litAt h7 (h6.next + 6) w).next = h7.next := rfl
    have hlen := R6.row.length
    rw [mkR_len] at hlen
    obtain ⟨v, h8, e8, R8, n8, k8, q8⟩ := R7.app (by omega) sy o7b.sv (Own.dis (R6.own.fr fb) o7) (Frs.le (Frs.own o7) (by omega)) (by omega)
    have g8 := (k8 A2 (by omega) (own_apart R7.own (by omega))).trans ((f35.get A2 (by omega)).trans g6)
    have hv := SV.what R8.own.sv
    have hst1 := fun hh => stV_one hv.1 hv.2.1 hh A2 1
    simp (disch := first | omega | (simp only [Qn] <;> omega)) only [go_sem, cA7, eu, bls_v (H.mk h7.tr (h6.next + 6)) w vw.1 vw.2.1, litAt_eq, e8, hst1, g8, putO_snd]
    rw [show (i : Int) + 1 = ((i + 1 : Nat) : Int) from by omega]
    refine ⟨n - (i + 1), by omega, i + 1, v, wo ++ [w], ex_junk rfl, by omega, ?_, rfl, ?_, rfl⟩
    · rw [mkR_succ]
      exact R8.set (by omega) _
    · refine ⟨by show h4.next ≤ h8.next; omega, fun id hid hne => ?_⟩
      rw [H.get_set_ne _ hne]
      exact (k8 id (by omega) (own_apart R7.own hid)).trans ((f35.get id (by omega)).trans (FX6.get id hid hne))
  rw [decide_eq_false hlt3]
  obtain rfl : n = i := by omega
  obtain ⟨INV, hdd⟩ := E.done
  have hdet : d = det n (ent A) % p := by rw [← hdd, Int.emod_eq_of_lt hd.1 hd.2]
  have rA := row_two g6
  have vu := SV.what R6.own.sv
  have hst2 := fun hh => stV_agg2 hh A2 0 (v := .int .i64 p) (u := u) rfl vu.2.1
  have gA36 := (FX6.get A3 (by omega) (by omega)).trans gA34
  have hp3 := fun hh : H => putO_one (vs := [.int .i64 0]) (off := 0) (by decide) hh A3 (.int .i64 0)
  simp (disch := first | omega | (simp only [Qn] <;> omega)) only [go_sem, rA, hst2, g6, gA36, hp3]
  refine And.intro (fun _ hn => nomatch hn) ?_
  have c1 : ((h6.set A2 (some (.cells false [.int .i64 p, u]))).set A3 (some (.cells false [.int .i64 0]))).cell V5 0 = some (.ptr W 0) := by
    rw [H.cell_set_ne _ (by omega), H.cell_set_ne _ (by omega), H.cell_of ((FX6.get V5 (by omega) (by omega)).trans gV4)]; rfl
  have c2 : ((h6.set A2 (some (.cells false [.int .i64 p, u]))).set A3 (some (.cells false [.int .i64 0]))).cell W 1 = some (.int .i64 d) := by
    rw [H.cell_set_ne _ (by omega), H.cell_set_ne _ (by omega), H.cell_of ((FX6.get W K.ltW (by omega)).trans K.gW)]; rfl
  refine (def1_ok _ V5 W A3 d 0 c1 c2 (H.get_set_same ..)).mono ?_
  rintro _ h7 rfl
  have r1 : (((h6.set A2 (some (.cells false [.int .i64 p, u]))).set A3 (some (.cells false [.int .i64 0]))).set A3 (some (.cells false [.int .i64 d]))).row A2 0 2 = some [.int .i64 p, u] := by
    refine row_two (ro := false) ?_
    rw [H.get_set_ne _ (by omega), H.get_set_ne _ (by omega), H.get_set_same]
  simp (disch := first | omega | (simp only [Qn] <;> omega)) only [go_sem, r1, List.getElem?_cons_zero]
  have RS := ((R6.set (x := A2) (by omega) (some (.cells false [.int .i64 p, u]))).set (x := A3) (by omega) (some (.cells false [.int .i64 0]))).set (x := A3) (by omega) (some (.cells false [.int .i64 d]))
  refine ⟨_, d, rfl, ((((Fx.fr (F.trans fz4) (by omega) FX6).set (by omega) _).set (by omega) _).set (by omega) _), hdet, fun h => absurd (hdet ▸ h) (INV.unit (by omega)), fun _ => ⟨X, by rw [hX]; exact INV, u, wo, rfl, RS.le (by have := F.next; have := fz4.next; omega)⟩⟩
end Go.Proofs.Ytonhijbeddcmpaa

/- Layer 4: square, Inv, Det, EqualFunc, Order. -/
namespace Go.Proofs.Ytonhijbeddcmpaa
open Go Go.Ay
set_option maxRecDepth 100000
def sqF (a : Mat) : Int := if checkM a ≠ 0 then checkM a else if a.2.length ≠ (a.2.getD 0 []).length then 10 else 0
theorem sq_vd {a : Mat} (h : sqF a = 0) : Vd a a.2.length := by
  rw [sqF] at h
  split at h
  · contradiction
  rename_i h1
  split at h
  · cases h
  rename_i h2
  have d := check_vd (Classical.byContradiction h1)
  rw [← show a.2.length = (a.2.getD 0 []).length from Classical.byContradiction h2] at d
  exact d
set_option maxHeartbeats 4000000 in
theorem square_ok (va : V) (a : Mat) (h : H) (ha : MatV h va a) (la : (a.2.length : Int) ≤ 2 ^ 63 - 1) : Ev T n_matrix_square [va] h (fun v h' => v = .int .i64 (sqF a) ∧ Fr h h') := by
  obtain ⟨ua, rfl, hua⟩ := ha
  refine Ev_of t_matrix_square rfl ?_
  have wa := SV.what hua.choose_spec.1
  simp (disch := first | omega | (simp only [Qn] <;> omega)) only [go_sem, c_matrix_square, initV_eq, boxV_agg2 h (v := .int .i64 a.1) rfl wa.2.1]
  have hfx : Fr h (h.new (.cells false [.int .i64 a.1, ua])) := (Fr.refl h).new _
  have hgx : (h.new (.cells false [.int .i64 a.1, ua])).get h.next = some (.cells false [.int .i64 a.1, ua]) := H.get_new_same ..
  have hnx : (h.new (.cells false [.int .i64 a.1, ua])).next = h.next + 1 := H.next_new ..
  generalize h.new (.cells false [.int .i64 a.1, ua]) = hx at *
  simp (disch := first | omega | (simp only [Qn] <;> omega)) only [go_sem, row_two hgx]
  refine (check_ok _ a hx ⟨ua, rfl, hua.mono hfx⟩ la).mono ?_
  rintro v h5 ⟨rfl, f5⟩
  have F5 := hfx.trans f5
  have gx5 := (f5.get h.next (by omega)).trans hgx
  have x1 : h5.cell h.next 1 = some ua := by rw [H.cell_of gx5]; rfl
  simp (disch := first | omega | (simp only [Qn] <;> omega)) only [go_sem]
  by_cases hz : checkM a = 0
  · rw [decide_eq_true hz]
    have da := check_vd hz
    have hr1 := da.r1
    have hr2 := da.r2
    obtain ⟨ida, offa, wsa, sua, hida, hwla, hcA, halla⟩ := (hua.mono F5).open
    have c0 : h5.cell ida offa = some (wsa.getD 0 .undef) := hcA 0 (by omega)
    have l0 := (row_at halla (i := 0) (by omega)).lens
    simp (disch := first | omega | (simp only [Qn] <;> omega)) only [go_sem, x1, hua.lens, sua.ixa, c0, l0]
    by_cases hl : a.2.length = (a.2.getD 0 []).length
    · rw [decide_eq_false (show ¬ ((a.2.length : Int) ≠ ((a.2.getD 0 []).length : Int)) by omega)]
      simp (disch := first | omega | (simp only [Qn] <;> omega)) only [go_sem]
      exact ⟨by rw [sqF, if_neg (by simp [hz]), if_neg (by simp only [ne_eq, hl, not_true_eq_false, not_false_eq_true]), hz], F5.bump (by omega)⟩
    · rw [decide_eq_true (show ((a.2.length : Int) ≠ ((a.2.getD 0 []).length : Int)) by omega)]
      simp (disch := first | omega | (simp only [Qn] <;> omega)) only [go_sem]
      exact ⟨by rw [sqF, if_neg (by simp [hz]), if_pos hl], F5.bump (by omega)⟩
  · rw [decide_eq_false hz]
    simp (disch := first | omega | (simp only [Qn] <;> omega)) only [go_sem, undef_eq]
    exact ⟨by rw [sqF, if_pos hz], F5.bump (by omega)⟩
noncomputable def invX (p : Int) (n : Nat) (A : Mx) : Mx := open Classical in if h : ∃ X, IsInv p n A X then h.choose else fun _ _ => 0
theorem invX_eq {p : Int} {n : Nat} {A X : Mx} (h : IsInv p n A X) : mkR n n X = mkR n n (invX p n A) := by
  have e : ∃ X, IsInv p n A X := ⟨X, h⟩
  refine mkR_congr fun i k hi hk => ?_
  rw [invX, dif_pos e]
  exact h.uniq e.choose_spec hi hk
noncomputable def InvF (a : Mat) : Mat × Int :=
  if sqF a ≠ 0 then ((0, []), sqF a) else if det a.2.length (ent a.2) % a.1 = 0 then ((0, []), 15) else ((a.1, mkR a.2.length a.2.length (invX a.1 a.2.length (ent a.2))), 0)
def DetF (a : Mat) : Int × Int := if sqF a ≠ 0 then (0, sqF a) else (det a.2.length (ent a.2) % a.1, 0)
theorem MatO.set {h : H} {v : V} {a : Mat} {lo x : Nat} (o : MatO h v a lo) (hx : x < lo) (ob : Option Ob) : MatO (h.set x ob) v a lo := by
  obtain ⟨u, ws, e, r⟩ := o
  exact ⟨u, ws, e, r.set hx ob⟩
theorem MatO.le {h : H} {v : V} {a : Mat} {lo lo' : Nat} (o : MatO h v a lo) (hl : lo' ≤ lo) : MatO h v a lo' := by
  obtain ⟨u, ws, e, r⟩ := o
  exact ⟨u, ws, e, r.le hl⟩
theorem MatO.fr {h h' : H} {v : V} {a : Mat} {lo : Nat} (o : MatO h v a lo) (f : Fr h h') : MatO h' v a lo := by
  obtain ⟨u, ws, e, r⟩ := o
  exact ⟨u, ws, e, r.fr f⟩
set_option maxHeartbeats 4000000 in
theorem Inv_ok (va : V) (a : Mat) (h : H) (ha : MatV h va a) (la : (a.2.length : Int) ≤ 2 ^ 63 - 1) : Ev T n_matrix_Inv [va] h (fun v h' => ∃ w, v = .tup [w, .int .i64 (InvF a).2] ∧ MatO h' w (InvF a).1 h.next ∧ Fr h h') := by
  obtain ⟨ua, rfl, hua⟩ := ha
  refine Ev_of t_matrix_Inv rfl ?_
  have wa := SV.what hua.choose_spec.1
  simp (disch := first | omega | (simp only [Qn] <;> omega)) only [go_sem, c_matrix_Inv, initV_eq, boxV_agg2 h (v := .int .i64 a.1) rfl wa.2.1]
  have hfx : Fr h (h.new (.cells false [.int .i64 a.1, ua])) := (Fr.refl h).new _
  have hgx : (h.new (.cells false [.int .i64 a.1, ua])).get h.next = some (.cells false [.int .i64 a.1, ua]) := H.get_new_same ..
  have hnx : (h.new (.cells false [.int .i64 a.1, ua])).next = h.next + 1 := H.next_new ..
  generalize h.new (.cells false [.int .i64 a.1, ua]) = hx at *
  have hfy : Fr hx (hx.new (.cells false [.int .i64 0, .nils])) := (Fr.refl hx).new _
  have hgy : (hx.new (.cells false [.int .i64 0, .nils])).get hx.next = some (.cells false [.int .i64 0, .nils]) := H.get_new_same ..
  have hny : (hx.new (.cells false [.int .i64 0, .nils])).next = hx.next + 1 := H.next_new ..
  generalize hx.new (.cells false [.int .i64 0, .nils]) = hy at *
  have F := hfx.trans hfy
  have gx := (hfy.get h.next (by omega)).trans hgx
  simp (disch := first | omega | (simp only [Qn] <;> omega)) only [go_sem, row_two gx]
  refine (square_ok _ a hy ⟨ua, rfl, hua.mono F⟩ la).mono ?_
  rintro v h5 ⟨rfl, f5⟩
  have F5 := F.trans f5
  have gx5 := (f5.get h.next (by omega)).trans gx
  have gy5 := (f5.get hx.next (by omega)).trans hgy
  have n5 := f5.next
  rw [← hnx]
  have hst := fun hh => stV_agg2 hh hx.next 0 (v := .int .i64 0) (u := .nils) rfl rfl
  simp (disch := first | omega | (simp only [Qn] <;> omega)) only [go_sem]
  refine iteW_dec (fun he => ?_) (fun he => ?_)
  · have hrow := row_two (h := h5.set hx.next (some (.cells false [.int .i64 0, .nils]))) (H.get_set_same ..)
    simp (disch := first | omega | (simp only [Qn] <;> omega)) only [go_sem, bldV_nil, hst, gy5, hrow]
    have e : InvF a = ((0, []), sqF a) := by rw [InvF, if_pos he]
    rw [e]
    exact ⟨_, rfl, ⟨.nils, [], rfl, Rws.nils _ _⟩, F5.set (by omega) _⟩
  have hz : sqF a = 0 := Classical.byContradiction he
  have da := sq_vd hz
  simp (disch := first | omega | (simp only [Qn] <;> omega)) only [go_sem, row_two gx5]
  refine (invert_ok _ a a.2.length h5 ⟨ua, rfl, hua.mono F5⟩ da rfl).mono ?_
  rintro v h6 ⟨w, dd, rfl, f6, hdd, hd0, hd1⟩
  have F6 := F5.trans f6
  have gy6 := (f6.get hx.next (by omega)).trans gy5
  have n6 := f6.next
  by_cases hd : dd = 0
  · obtain ⟨u, ws, rfl, R⟩ := hd0 hd
    have vu := SV.what R.own.sv
    have hst5 := fun hh id => stV_agg2 hh id 0 (v := .int .i64 0) (u := u) rfl vu.2.1
    simp (disch := first | omega | (simp only [Qn] <;> omega)) only [go_sem, hst5, bxH_eq]
    rw [decide_eq_true hd]
    have fB := bxH_fr h6 0 u
    have gyB := (fB.get hx.next (by omega)).trans gy6
    have hrow := row_two (h := (bxH h6 0 u).set hx.next (some (.cells false [.int .i64 0, .nils]))) (H.get_set_same ..)
    simp (disch := first | omega | (simp only [Qn] <;> omega)) only [go_sem, bldV_nil, hst, gyB, hrow]
    have e : InvF a = ((0, []), 15) := by rw [InvF, if_neg (by simp [hz]), if_pos (by rw [← hdd]; exact hd)]
    rw [e]
    exact ⟨_, rfl, ⟨.nils, [], rfl, Rws.nils _ _⟩, (F6.trans fB).set (by omega) _⟩
  · obtain ⟨X, hX, u, ws, rfl, R⟩ := hd1 hd
    have vu := SV.what R.own.sv
    have hst5 := fun hh id => stV_agg2 hh id 0 (v := .int .i64 a.1) (u := u) rfl vu.2.1
    simp (disch := first | omega | (simp only [Qn] <;> omega)) only [go_sem, hst5, bxH_eq]
    rw [decide_eq_false hd]
    have fB := bxH_fr h6 a.1 u
    have gyB := (fB.get hx.next (by omega)).trans gy6
    have rB := row_two (bxH_get h6 a.1 u)
    have hst6 := fun hh => stV_agg2 hh hx.next 0 (v := .int .i64 a.1) (u := u) rfl vu.2.1
    have hrow := row_two (h := (bxH h6 a.1 u).set hx.next (some (.cells false [.int .i64 a.1, u]))) (H.get_set_same ..)
    simp (disch := first | omega | (simp only [Qn] <;> omega)) only [go_sem, rB, hst6, gyB, hrow]
    have e : InvF a = ((a.1, mkR a.2.length a.2.length X), 0) := by rw [InvF, if_neg (by simp [hz]), if_neg (by rw [← hdd]; exact hd), invX_eq hX]
    rw [e]
    exact ⟨_, rfl, ⟨u, ws, rfl, ((R.fr fB).set (by omega) _).le (by omega)⟩, (F6.trans fB).set (by omega) _⟩
theorem Det_ok (va : V) (a : Mat) (h : H) (ha : MatV h va a) (la : (a.2.length : Int) ≤ 2 ^ 63 - 1) : Ev T n_matrix_Det [va] h (fun v h' => v = .tup [.int .i64 (DetF a).1, .int .i64 (DetF a).2] ∧ Fr h h') := by
  obtain ⟨ua, rfl, hua⟩ := ha
  refine Ev_of t_matrix_Det rfl ?_
  have wa := SV.what hua.choose_spec.1
  simp (disch := first | omega | (simp only [Qn] <;> omega)) only [go_sem, c_matrix_Det, initV_eq, boxV_agg2 h (v := .int .i64 a.1) rfl wa.2.1]
  have hfx : Fr h (h.new (.cells false [.int .i64 a.1, ua])) := (Fr.refl h).new _
  have hgx : (h.new (.cells false [.int .i64 a.1, ua])).get h.next = some (.cells false [.int .i64 a.1, ua]) := H.get_new_same ..
  have hnx : (h.new (.cells false [.int .i64 a.1, ua])).next = h.next + 1 := H.next_new ..
  generalize h.new (.cells false [.int .i64 a.1, ua]) = hx at *
  simp (disch := first | omega | (simp only [Qn] <;> omega)) only [go_sem, row_two hgx]
  refine (square_ok _ a hx ⟨ua, rfl, hua.mono hfx⟩ la).mono ?_
  rintro v h5 ⟨rfl, f5⟩
  have F5 := hfx.trans f5
  have gx5 := (f5.get h.next (by omega)).trans hgx
  simp (disch := first | omega | (simp only [Qn] <;> omega)) only [go_sem]
  refine iteW_dec (fun he => ?_) (fun he => ?_)
  · simp (disch := first | omega | (simp only [Qn] <;> omega)) only [go_sem]
    exact ⟨by rw [DetF, if_pos he], F5⟩
  have hz : sqF a = 0 := Classical.byContradiction he
  have da := sq_vd hz
  simp (disch := first | omega | (simp only [Qn] <;> omega)) only [go_sem, row_two gx5]
  refine (invert_ok _ a a.2.length h5 ⟨ua, rfl, hua.mono F5⟩ da rfl).mono ?_
  rintro v h6 ⟨w, dd, rfl, f6, hdd, hd0, hd1⟩
  have e : DetF a = (dd, 0) := by rw [DetF, if_neg (by simp [hz]), hdd]
  rw [e]
  obtain ⟨q, u, ws, rfl, R⟩ : ∃ q u ws, w = V.agg [.int .i64 q, u] ∧ SV h6 u 1 ws := by
    by_cases hd : dd = 0
    · obtain ⟨u, ws, rfl, R⟩ := hd0 hd
      exact ⟨_, _, _, rfl, R.own.sv⟩
    · obtain ⟨X, hX, u, ws, rfl, R⟩ := hd1 hd
      exact ⟨_, _, _, rfl, R.own.sv⟩
  have vu := SV.what R
  have hst5 := fun hh id => stV_agg2 hh id 0 (v := .int .i64 q) (u := u) rfl vu.2.1
  simp (disch := first | omega | (simp only [Qn] <;> omega)) only [go_sem, hst5, bxH_eq]
  exact (F5.trans f6).trans (bxH_fr h6 q u)
theorem equalFunc_ok (va vb : V) (a b : List (List Int)) (h : H) (ha : SR h va a) (hb : SR h vb b) (hla : a.length < 1000000) (hlb : b.length < 1000000) (hra : ∀ i, i < a.length → (a.getD i []).length < 1000000) (hrb : ∀ i, i < b.length → (b.getD i []).length < 1000000) :
    Ev T n_slices_EqualFunc_int_int_int_int [va, vb, .fn 55 [] []] h (fun v h' => v = .bool (decide (a = b)) ∧ Fr h h') := by
  refine Ev_of t_slices_EqualFunc_int_int_int_int rfl ?_
  obtain ⟨id, off, ws, hsl, hid, hwl, hc, hall⟩ := ha.open
  obtain ⟨id2, off2, ws2, hsl2, hid2, hwl2, hc2, hall2⟩ := hb.open
  simp (disch := first | omega | (simp only [Qn] <;> omega)) only [go_sem, c_slices_EqualFunc_int_int_int_int, initV_eq, ha.lens, hb.lens]
  refine iteW_dec (fun hne => ?_) (fun heq => ?_)
  · simp (disch := first | omega | (simp only [Qn] <;> omega)) only [go_sem]
    have : a ≠ b := fun e => hne (by rw [e])
    exact ⟨by rw [decide_eq_false this], Fr.refl h⟩
  have heq : a.length = b.length := by omega
  simp (disch := first | omega | (simp only [Qn] <;> omega)) only [go_sem, ha.lens]
  refine Wp_loop (fun k' vars h2 => ∃ (i : Nat), (∃ g : Nat → V, vars = [g 0, vb, .fn 55 [] [], g 3, g 4, g 5, g 6, g 7, va, .int .i64 (a.length : Int), .int .i64 (i : Int), g 11, g 12]) ∧ i ≤ a.length ∧ (∀ j, j < i → a.getD j [] = b.getD j []) ∧ Fr h h2 ∧ k' = a.length - i) a.length
    ⟨0, ex_junk rfl, Nat.zero_le _, fun j hj => by omega, Fr.refl h, rfl⟩ ?_
  rintro k' vars h2 ⟨i, ⟨g, rfl⟩, hi, hpre, hf2, rfl⟩
  simp (disch := first | omega | (simp only [Qn] <;> omega)) only [go_sem]
  by_cases hlt : (i : Int) < (a.length : Int)
  · rw [decide_eq_true hlt]
    have hc' := cells_fr hf2 hid hc i (by omega)
    have hc2' := cells_fr hf2 hid2 hc2 i (by omega)
    have r1 := (row_at hall (i := i) (by omega)).mono hf2
    have r2 := (row_at hall2 (i := i) (by omega)).mono hf2
    simp (disch := first | omega | (simp only [Qn] <;> omega)) only [go_sem, hsl.ixa, hsl2.ixa, hc', hc2']
    refine (equal_ok _ _ _ _ h2 r1 r2 (hra i (by omega)) (hrb i (by omega))).mono ?_
    rintro v h3 ⟨rfl, f3⟩
    have f4 := hf2.trans f3
    by_cases e : a.getD i [] = b.getD i []
    · rw [decide_eq_true e]
      simp (disch := first | omega | (simp only [Qn] <;> omega)) only [go_sem]
      rw [show (i : Int) + 1 = ((i + 1 : Nat) : Int) from by omega]
      refine ⟨a.length - (i + 1), by omega, i + 1, ex_junk rfl, by omega, fun j hj => ?_, f4, rfl⟩
      by_cases h3 : j = i
      · rw [h3]; exact e
      · exact hpre j (by omega)
    · rw [decide_eq_false e]
      simp (disch := first | omega | (simp only [Qn] <;> omega)) only [go_sem]
      have : a ≠ b := fun e2 => e (by rw [e2])
      exact ⟨by rw [decide_eq_false this], f4⟩
  · rw [decide_eq_false hlt]
    simp (disch := first | omega | (simp only [Qn] <;> omega)) only [go_sem]
    have : a = b := lists_ext heq fun j hj => hpre j (by omega)
    exact ⟨by rw [decide_eq_true this], hf2⟩
end Go.Proofs.Ytonhijbeddcmpaa

/- Layer 4: Order. -/
namespace Go.Proofs.Ytonhijbeddcmpaa
open Go Go.Ay
set_option maxRecDepth 100000
theorem Vd.mul {a b : Mat} {ca cb : Nat} (da : Vd a ca) (db : Vd b cb) : Vd (mulF a b ca cb) cb := by
  have hp := fieldF_range da.p
  exact ⟨da.p, by rw [mulF, mkR_len]; exact da.r1, by rw [mulF, mkR_len]; exact da.r2, db.c1, db.c2, fun i hi => by
    rw [mulF, mkR_len] at hi
    simp only [mulF]
    rw [mkR_row _ hi, mkV_len], fun i k hi hk => by
    rw [mulF, mkR_len] at hi
    simp only [mulF]
    rw [mkR_ent _ hi hk]; exact (tmod_range _ (by omega)).1, fun i k hi hk => by
    rw [mulF, mkR_len] at hi
    simp only [mulF]
    rw [mkR_ent _ hi hk]; exact (tmod_range _ (by omega)).2⟩
def ordG (a : Mat) (n : Nat) : Nat → Nat → Mat → Int × Int
  | 0, _, _ => (0, 5)
  | f + 1, k, b => if b.2 = (oneF n a.1).2 then ((k : Int), 0) else ordG a n f (k + 1) (mulF b a n n)
noncomputable def OrderF (a : Mat) : Int × Int := if (InvF a).2 ≠ 0 then (0, (InvF a).2) else ordG a a.2.length 10000 1 a
theorem inv_sq {a : Mat} (h : (InvF a).2 = 0) : sqF a = 0 := by
  rw [InvF] at h
  split at h
  · exact h
  · rename_i h1; exact Classical.byContradiction h1
set_option maxHeartbeats 8000000 in
theorem Order_ok (va : V) (a : Mat) (h : H) (ha : MatV h va a) (la : (a.2.length : Int) ≤ 2 ^ 63 - 1) : Ev T n_matrix_Order [va] h (fun v h' => v = .tup [.int .i64 (OrderF a).1, .int .i64 (OrderF a).2] ∧ Fr h h') := by
  obtain ⟨ua, rfl, hua⟩ := ha
  refine Ev_of t_matrix_Order rfl ?_
  have wa := SV.what hua.choose_spec.1
  simp (disch := first | omega | (simp only [Qn] <;> omega)) only [go_sem, c_matrix_Order, initV_eq, boxV_agg2 h (v := .int .i64 a.1) rfl wa.2.1]
  have hfx : Fr h (h.new (.cells false [.int .i64 a.1, ua])) := (Fr.refl h).new _
  have hgx : (h.new (.cells false [.int .i64 a.1, ua])).get h.next = some (.cells false [.int .i64 a.1, ua]) := H.get_new_same ..
  have hnx : (h.new (.cells false [.int .i64 a.1, ua])).next = h.next + 1 := H.next_new ..
  generalize h.new (.cells false [.int .i64 a.1, ua]) = hx at *
  simp (disch := first | omega | (simp only [Qn] <;> omega)) only [go_sem, row_two hgx]
  refine (Inv_ok _ a hx ⟨ua, rfl, hua.mono hfx⟩ la).mono ?_
  rintro v h5 ⟨w, rfl, ⟨uw, ws, rfl, RW⟩, f5⟩
  have vw := SV.what RW.own.sv
  have hst5 := fun hh id => stV_agg2 hh id 0 (v := .int .i64 (InvF a).1.1) (u := uw) rfl vw.2.1
  simp (disch := first | omega | (simp only [Qn] <;> omega)) only [go_sem, hst5, bxH_eq]
  have f6 := f5.trans (bxH_fr h5 (InvF a).1.1 uw)
  generalize bxH h5 (InvF a).1.1 uw = h6 at *
  have F6 := hfx.trans f6
  refine iteW_dec (fun he => ?_) (fun he => ?_)
  · simp (disch := first | omega | (simp only [Qn] <;> omega)) only [go_sem]
    exact ⟨by rw [OrderF, if_pos he], F6⟩
  have hi0 : (InvF a).2 = 0 := Classical.byContradiction he
  have hz := inv_sq hi0
  have da := sq_vd hz
  obtain ⟨n, hn⟩ : ∃ n, a.2.length = n := ⟨_, rfl⟩
  rw [hn] at da
  have hr1 := da.r1
  have hr2 := da.r2
  rw [hn] at hr1 hr2
  have hp := fieldF_range da.p
  have gx6 := (f6.get h.next (by omega)).trans hgx
  have x0 : h6.cell h.next 0 = some (.int .i64 a.1) := by rw [H.cell_of gx6]; rfl
  have x1 : h6.cell h.next 1 = some ua := by rw [H.cell_of gx6]; rfl
  have lA : lensV ua = some (.int .i64 (n : Int)) := by rw [← hn]; exact hua.lens
  simp (disch := first | omega | (simp only [Qn] <;> omega)) only [go_sem, x0, x1, lA]
  refine (one_ok n a.1 h6 hr1 hr2).mono ?_
  rintro w h7 ⟨⟨u1, ws1, rfl, R1⟩, f7⟩
  have v1 := SV.what R1.own.sv
  have hst7 := fun hh id => stV_agg2 hh id 0 (v := .int .i64 (oneF n a.1).1) (u := u1) rfl v1.2.1
  have s1 : SR h7 u1 (oneF n a.1).2 := R1.sr
  simp (disch := first | omega | (simp only [Qn] <;> omega)) only [go_sem, hst7, bxH_eq]
  have f8 := f7.trans (bxH_fr h7 (oneF n a.1).1 u1)
  have s8 := s1.mono (bxH_fr h7 (oneF n a.1).1 u1)
  have g8 := bxH_get h7 (oneF n a.1).1 u1
  have n8 := bxH_next h7 (oneF n a.1).1 u1
  generalize bxH h7 (oneF n a.1).1 u1 = h8 at *
  obtain ⟨U, hU⟩ : ∃ U, h7.next = U := ⟨_, rfl⟩
  rw [hU] at g8 n8
  rw [hU]
  have gx8 := (f8.get h.next (by have := f6.next; omega)).trans gx6
  have hstA := fun hh id => stV_agg2 hh id 0 (v := .int .i64 a.1) (u := ua) rfl wa.2.1
  simp (disch := first | omega | (simp only [Qn] <;> omega)) only [go_sem, row_two gx8, hstA, bxH_eq]
  have F8 := F6.trans f8
  have fB := bxH_fr h8 a.1 ua
  have gB := bxH_get h8 a.1 ua
  have nB := bxH_next h8 a.1 ua
  generalize bxH h8 a.1 ua = hB at *
  have hn8 := f8.next
  have hn6 := f6.next
  refine Wp_loop (fun k' vars h3 => ∃ (k B : Nat) (ub : V) (b : Mat), (∃ g : Nat → V, vars = [g 0, .ptr h.next 0, g 2, g 3, g 4, .ptr U 0, .ptr B 0, .int .i64 (k : Int), g 8, g 9, g 10, g 11]) ∧ k + k' = 10001 ∧ b.1 = a.1 ∧ Vd b n ∧ b.2.length = n ∧ SR h3 ub b.2 ∧ h3.get B = some (.cells false [.int .i64 a.1, ub]) ∧ B < h3.next ∧ Fr h8 h3 ∧ ordG a n k' k b = ordG a n 10000 1 a) 10000
    ⟨1, h8.next, ua, a, ex_junk rfl, rfl, rfl, da, hn, hua.mono (F8.trans fB), gB, by omega, fB, rfl⟩ ?_
  clear gB nB fB
  rintro k' vars h3 ⟨k, B, ub, b, ⟨g, rfl⟩, hk, hb1, db, hbn, sb, gB, ltB, f3, hord⟩
  simp (disch := first | omega | (simp only [Qn] <;> omega)) only [go_sem]
  cases k' with
  | zero =>
    rw [decide_eq_false (show ¬ ((k : Int) ≤ 10000) by omega)]
    simp (disch := first | omega | (simp only [Qn] <;> omega)) only [go_sem]
    exact ⟨by rw [OrderF, if_neg (by simp [hi0]), hn, ← hord]; rfl, F8.trans f3⟩
  | succ f =>
    rw [decide_eq_true (show ((k : Int) ≤ 10000) by omega)]
    have cB : h3.cell B 1 = some ub := by rw [H.cell_of gB]; rfl
    have cU : h3.cell U 1 = some u1 := by rw [f3.cell (by omega), H.cell_of g8]; rfl
    simp (disch := first | omega | (simp only [Qn] <;> omega)) only [go_sem, cB, cU]
    have s3 := s8.mono f3
    refine (equalFunc_ok _ _ _ _ h3 sb s3 (by omega) (by rw [oneF, mkR_len]; omega) (fun i hi => by rw [db.row i hi]; omega) (fun i hi => by
      rw [oneF, mkR_len] at hi
      simp only [oneF]
      rw [mkR_row _ hi, mkV_len]; omega)).mono ?_
    rintro v h4 ⟨rfl, f4⟩
    rw [ordG] at hord
    by_cases e : b.2 = (oneF n a.1).2
    · rw [decide_eq_true e]
      rw [if_pos e] at hord
      simp (disch := first | omega | (simp only [Qn] <;> omega)) only [go_sem]
      exact ⟨by rw [OrderF, if_neg (by simp [hi0]), hn, ← hord], (F8.trans f3).trans f4⟩
    · rw [decide_eq_false e]
      rw [if_neg e] at hord
      have vb := SV.what sb.choose_spec.1
      have gB4 := (f4.get B ltB).trans gB
      have hstb := fun hh id => stV_agg2 hh id 0 (v := .int .i64 a.1) (u := ub) rfl vb.2.1
      have gx4 := ((f3.trans f4).get h.next (by omega)).trans gx8
      have fC := bxH_fr h4 a.1 ub
      have rC := row_two (bxH_get h4 a.1 ub)
      have rx := row_two ((fC.get h.next (by have := (f3.trans f4).next; omega)).trans gx4)
      simp (disch := first | omega | (simp only [Qn] <;> omega)) only [go_sem, row_two gB4, hstb, bxH_eq, rC, rx]
      have gC := bxH_get h4 a.1 ub
      have nC := bxH_next h4 a.1 ub
      generalize bxH h4 a.1 ub = h9 at *
      have F9 := ((f3.trans f4).trans fC)
      refine (mul_ok _ _ b a n n h9 ⟨ub, by rw [hb1], (sb.mono f4).mono fC⟩ ⟨ua, rfl, hua.mono (F8.trans F9)⟩ db da hb1 hn.symm).mono ?_
      rintro w h10 ⟨⟨um, wsm, rfl, RM⟩, f10⟩
      have vm := SV.what RM.own.sv
      have hstm := fun hh id => stV_agg2 hh id 0 (v := .int .i64 (mulF b a n n).1) (u := um) rfl vm.2.1
      have gC10 := (f10.get h4.next (by omega)).trans gC
      simp (disch := first | omega | (simp only [Qn] <;> omega)) only [go_sem, hstm, gC10]
      rw [show (k : Int) + 1 = ((k + 1 : Nat) : Int) from by omega]
      have hle := f4.next
      have hle3 := f3.next
      refine ⟨f, by omega, k + 1, h4.next, um, mulF b a n n, ex_junk rfl, by omega, hb1, db.mul da, by rw [mulF, mkR_len]; exact hbn, (RM.set (x := h4.next) (by omega) _).sr, ?_, by show h4.next < h10.next; have := f10.next; omega, (F9.trans f10).set (by omega) _, hord⟩
      rw [show (mulF b a n n).1 = a.1 from hb1]
      exact H.get_set_same ..
end Go.Proofs.Ytonhijbeddcmpaa

