/- Powers modulo a prime. -/
import Derived.Test.YtlhebmcnjgagjaaL4atoDt3
namespace Go.Ay
def bnm : Nat → Nat → Nat
  | _, 0 => 1
  | 0, _ + 1 => 0
  | n + 1, k + 1 => bnm n k + bnm n (k + 1)
theorem bnm_zero (n : Nat) : bnm n 0 = 1 := by cases n <;> rfl
theorem bnm_succ (n k : Nat) : bnm (n + 1) (k + 1) = bnm n k + bnm n (k + 1) := rfl
theorem bnm_high : ∀ n k, n < k → bnm n k = 0
  | 0, 0, h => by omega
  | 0, _ + 1, _ => rfl
  | n + 1, 0, h => by omega
  | n + 1, k + 1, h => by rw [bnm_succ, bnm_high n k (by omega), bnm_high n (k + 1) (by omega)]
theorem bnm_mul : ∀ n k, (k + 1) * bnm (n + 1) (k + 1) = (n + 1) * bnm n k
  | 0, 0 => rfl
  | 0, k + 1 => by rw [bnm_high 1 (k + 2) (by omega), bnm_high 0 (k + 1) (by omega)]; omega
  | n + 1, 0 => by
    have h := bnm_mul n 0
    rw [bnm_succ, bnm_zero, Nat.mul_add, h, bnm_zero]; omega
  | n + 1, k + 1 => by
    have h1 := bnm_mul n k
    have h2 := bnm_mul n (k + 1)
    rw [bnm_succ (n + 1) (k + 1), Nat.mul_add, h2, bnm_succ n k]
    rw [bnm_succ n k] at h1
    generalize bnm n k = x at *
    generalize bnm n (k + 1) = y at *
    grind
theorem binom (n : Nat) (a : Int) : (1 + a) ^ n = pev (n + 1) (fun k => (bnm n k : Int)) a := by
  induction n with
  | zero => simp [pev, sm, bnm]
  | succ n ih =>
    rw [Int.pow_succ, ih, show pev (n + 1) (fun k => (bnm n k : Int)) a * (1 + a) = pev (n + 1) (fun k => (bnm n k : Int)) a + a * pev (n + 1) (fun k => (bnm n k : Int)) a by grind, ← pev_shf, ← pev_more (n := n + 1) (m := n + 1 + 1) (c := fun k => (bnm n k : Int)) (by omega) fun k h1 h2 => by rw [bnm_high n k (by omega)]; rfl, ← pev_add]
    refine pev_congr (fun k _ => ?_) a
    cases k with
    | zero => simp [shf, bnm_zero]
    | succ k =>
      simp only [shf, if_neg (Nat.succ_ne_zero k), Nat.add_sub_cancel]
      rw [bnm_succ]; omega
structure Pr (p : Nat) : Prop where
  two : 2 ≤ p
  div : ∀ d, d ∣ p → d = 1 ∨ d = p
theorem Pr.cop {p : Nat} (P : Pr p) {a : Nat} (h0 : 0 < a) (h1 : a < p) : Nat.Coprime p a := by
  rcases P.div (Nat.gcd p a) (Nat.gcd_dvd_left p a) with h | h
  · exact h
  · have := Nat.le_of_dvd h0 (Nat.gcd_dvd_right p a)
    omega
theorem Pr.bnm {p : Nat} (P : Pr p) {k : Nat} (h0 : 0 < k) (h1 : k < p) : p ∣ Ay.bnm p k := by
  obtain ⟨q, rfl⟩ : ∃ q, p = q + 1 := ⟨p - 1, by omega⟩
  obtain ⟨j, rfl⟩ : ∃ j, k = j + 1 := ⟨k - 1, by omega⟩
  have h := bnm_mul q j
  exact (P.cop h0 h1).dvd_of_dvd_mul_left (h ▸ Nat.dvd_mul_right (q + 1) _)
theorem fermat0 {p : Nat} (P : Pr p) : ∀ a : Nat, ((a : Int)) ^ p % p = (a : Int) % p
  | 0 => by
    have := P.two
    rw [show ((0 : Nat) : Int) = 0 from rfl, Int.zero_pow (by omega)]
  | a + 1 => by
    have h2 := P.two
    have e : ((a + 1 : Nat) : Int) = 1 + (a : Int) := by omega
    rw [e, binom]
    obtain ⟨q, rfl⟩ : ∃ q, p = q + 1 := ⟨p - 1, by omega⟩
    have e2 : pev (q + 1 + 1) (fun k => (Ay.bnm (q + 1) k : Int)) (a : Int) % ((q + 1 : Nat) : Int) = (1 + (a : Int) ^ (q + 1)) % ((q + 1 : Nat) : Int) := by
      rw [pev, sm_succ]
      have e3 : sm (q + 1) (fun k => (Ay.bnm (q + 1) k : Int) * (a : Int) ^ k) % ((q + 1 : Nat) : Int) = sm (q + 1) (fun k => if k = 0 then 1 else 0) % ((q + 1 : Nat) : Int) := sm_mod fun k hk => by
        by_cases h : k = 0
        · subst h; rw [if_pos rfl, bnm_zero]; simp
        · rw [if_neg h]
          obtain ⟨t, ht⟩ := P.bnm (k := k) (by omega) hk
          rw [ht, Int.natCast_mul, Int.mul_assoc, Int.mul_emod_right]; rfl
      have e4 : Ay.bnm (q + 1) (q + 1) = 1 := by
        have : ∀ n, Ay.bnm n n = 1 := fun n => by
          induction n with
          | zero => rfl
          | succ n ih => rw [bnm_succ, ih, bnm_high n (n + 1) (by omega)]
        exact this _
      rw [Int.add_emod, e3, e4, ← Int.add_emod, sm_pick (t := 0) (by omega) (fun _ => 1)]
      simp
    rw [e2, Int.add_emod, fermat0 P a, ← Int.add_emod]
theorem fermat {p : Nat} (P : Pr p) {a : Int} (h0 : 0 < a) (h1 : a < p) : a * a ^ (p - 2) % p = 1 := by
  have h2 := P.two
  obtain ⟨n, rfl⟩ : ∃ n : Nat, a = n := ⟨a.toNat, by omega⟩
  have h := fermat0 P n
  obtain ⟨q, rfl⟩ : ∃ q, p = q + 2 := ⟨p - 2, by omega⟩
  rw [Nat.add_sub_cancel]
  have e : (n : Int) ^ (q + 2) - n = n * (n * (n : Int) ^ q - 1) := by rw [Int.pow_succ, Int.pow_succ]; grind
  have hd : ((q + 2 : Nat) : Int) ∣ (n : Int) ^ (q + 2) - n := Int.dvd_of_emod_eq_zero (Int.emod_eq_emod_iff_emod_sub_eq_zero.1 h)
  rw [e] at hd
  have c : Nat.Coprime (q + 2) n := P.cop (by omega) (by omega)
  have hd2 : ((q + 2 : Nat) : Int) ∣ (n : Int) * (n : Int) ^ q - 1 := by
    have := Int.natAbs_dvd_natAbs.2 hd
    rw [Int.natAbs_mul, Int.natAbs_natCast, Int.natAbs_natCast] at this
    have := c.dvd_of_dvd_mul_left this
    exact Int.natAbs_dvd_natAbs.1 (by rw [Int.natAbs_natCast]; exact this)
  have := Int.emod_eq_emod_iff_emod_sub_eq_zero.2 (Int.emod_eq_zero_of_dvd hd2)
  rw [this]
  exact Int.emod_eq_of_lt (by omega) (by omega)
end Go.Ay

