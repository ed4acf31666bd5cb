/- Finite sums of integers. -/
import Derived.Test.YtlhebmcnjgagjaaAy26
namespace Go.Ay

def sm : Nat → (Nat → Int) → Int
  | 0, _ => 0
  | n + 1, f => sm n f + f n
theorem sm_zero (f : Nat → Int) : sm 0 f = 0 := rfl
theorem sm_succ (n : Nat) (f : Nat → Int) : sm (n + 1) f = sm n f + f n := rfl
theorem sm_congr {n : Nat} {f g : Nat → Int} (h : ∀ k, k < n → f k = g k) : sm n f = sm n g := by
  induction n with
  | zero => rfl
  | succ n ih => rw [sm_succ, sm_succ, ih fun k hk => h k (by omega), h n (by omega)]
theorem sm_nul (n : Nat) : sm n (fun _ => 0) = 0 := by
  induction n with
  | zero => rfl
  | succ n ih => rw [sm_succ, ih]; rfl
theorem sm_zeros {n : Nat} {f : Nat → Int} (h : ∀ k, k < n → f k = 0) : sm n f = 0 := by
  rw [sm_congr h, sm_nul]
theorem sm_add (n : Nat) (f g : Nat → Int) : sm n (fun k => f k + g k) = sm n f + sm n g := by
  induction n with
  | zero => rfl
  | succ n ih => rw [sm_succ, sm_succ, sm_succ, ih]; omega
theorem sm_sub (n : Nat) (f g : Nat → Int) : sm n (fun k => f k - g k) = sm n f - sm n g := by
  induction n with
  | zero => rfl
  | succ n ih => rw [sm_succ, sm_succ, sm_succ, ih]; omega
theorem sm_neg (n : Nat) (f : Nat → Int) : sm n (fun k => -f k) = -sm n f := by
  induction n with
  | zero => rfl
  | succ n ih => rw [sm_succ, sm_succ, ih]; omega
theorem sm_mul (n : Nat) (a : Int) (f : Nat → Int) : sm n (fun k => a * f k) = a * sm n f := by
  induction n with
  | zero => rw [sm_zero, sm_zero, Int.mul_zero]
  | succ n ih => rw [sm_succ, sm_succ, ih, Int.mul_add]
theorem sm_mulr (n : Nat) (a : Int) (f : Nat → Int) : sm n (fun k => f k * a) = sm n f * a := by
  induction n with
  | zero => rw [sm_zero, sm_zero, Int.zero_mul]
  | succ n ih => rw [sm_succ, sm_succ, ih, Int.add_mul]
theorem sm_swap (n m : Nat) (f : Nat → Nat → Int) : sm n (fun i => sm m (fun j => f i j)) = sm m (fun j => sm n (fun i => f i j)) := by
  induction n with
  | zero => rw [sm_zero]; exact (sm_nul m).symm
  | succ n ih =>
    rw [sm_succ, ih, ← sm_add]
    exact sm_congr fun j _ => by rw [sm_succ]
theorem sm_app (n m : Nat) (f : Nat → Int) : sm (n + m) f = sm n f + sm m (fun k => f (n + k)) := by
  induction m with
  | zero => rw [sm_zero, Int.add_zero]; rfl
  | succ m ih => rw [← Nat.add_assoc, sm_succ, sm_succ, ih, Int.add_assoc]
theorem sm_first (n : Nat) (f : Nat → Int) : sm (n + 1) f = f 0 + sm n (fun k => f (k + 1)) := by
  rw [show n + 1 = 1 + n by omega, sm_app, sm_succ, sm_zero, Int.zero_add]
  congr 1
  exact sm_congr fun k _ => by rw [Nat.add_comm]
/-- One summand alone. -/
theorem sm_one {n t : Nat} (ht : t < n) {f : Nat → Int} (h : ∀ k, k < n → k ≠ t → f k = 0) : sm n f = f t := by
  induction n with
  | zero => omega
  | succ n ih =>
    rw [sm_succ]
    by_cases hn : n = t
    · subst hn
      rw [sm_zeros fun k hk => h k (by omega) (by omega), Int.zero_add]
    · rw [ih (by omega) fun k hk hne => h k (by omega) hne, h n (by omega) hn, Int.add_zero]
theorem sm_pick {n t : Nat} (ht : t < n) (f : Nat → Int) : sm n (fun k => if k = t then f k else 0) = f t := by
  rw [sm_one ht fun k _ hne => if_neg hne, if_pos rfl]
theorem sm_pick' {n t : Nat} (ht : t < n) (f : Nat → Int) : sm n (fun k => if t = k then f k else 0) = f t := by
  rw [sm_one ht fun k _ hne => if_neg (Ne.symm hne), if_pos rfl]
/-- More summands that are 0. -/
theorem sm_more {n m : Nat} (h : n ≤ m) {f : Nat → Int} (hz : ∀ k, n ≤ k → k < m → f k = 0) : sm m f = sm n f := by
  obtain ⟨t, rfl⟩ : ∃ t, m = n + t := ⟨m - n, by omega⟩
  rw [sm_app, sm_zeros (n := t) fun k hk => hz (n + k) (by omega) (by omega), Int.add_zero]
theorem sm_le {n : Nat} {f g : Nat → Int} (h : ∀ k, k < n → f k ≤ g k) : sm n f ≤ sm n g := by
  induction n with
  | zero => exact Int.le_refl _
  | succ n ih =>
    have := ih fun k hk => h k (by omega)
    have := h n (by omega)
    rw [sm_succ, sm_succ]; omega
def ab (x : Int) : Int := if x < 0 then -x else x
theorem ab_nonneg (x : Int) : 0 ≤ ab x := by unfold ab; split <;> omega
theorem ab_le {x b : Int} : ab x ≤ b ↔ -b ≤ x ∧ x ≤ b := by unfold ab; split <;> omega
end Go.Ay

