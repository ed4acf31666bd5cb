/- Powers of x modulo a polynomial; what division leaves. Remainders, exactly. Cyclotomic polynomials: what the kernel has checked of them. What follows from the checks: periods, bounds, parts. The parts of a number with n, by its powers of a prime's root: they are well defined, and make it up. The parts of a number depend on the number alone; a number with n/q is one with n. 'lower', exactly: what it answers for the coefficients of a number. The canonical form depends on the number alone. Contracts of the reference: lower. -/
import Derived.Test.YthfabknpogbcaaaC6otoC6w
import Derived.Test.YthfabknpogbcaaaSm
/- Powers of x modulo a polynomial; what division leaves. -/
namespace Go.Proofs.Ythfabknpogbcaaa
open Go Go.Ay
set_option maxRecDepth 100000
noncomputable section

/-! x times a list, modulo a polynomial with leading coefficient 1 -/
def shGo (top : Int) : List Int → List Int → List Int
  | a :: as, b :: bs => (a - top * b) :: shGo top as bs
  | _, _ => []
def shL (p v : List Int) : List Int := shGo (v.getLastD 0) (0 :: v) (p.take (p.length - 1))
def RL (p : List Int) : Nat → List Int
  | 0 => 1 :: List.replicate (p.length - 2) 0
  | k + 1 => shL p (RL p k)
theorem shGo_len (top : Int) : ∀ (as bs : List Int), bs.length ≤ as.length → (shGo top as bs).length = bs.length
  | [], [], _ => rfl
  | _ :: _, [], _ => rfl
  | [], _ :: _, h => by simp at h
  | a :: as, b :: bs, h => by rw [shGo, List.length_cons, shGo_len top as bs (by simpa using h), List.length_cons]
theorem shGo_at (top : Int) : ∀ (as bs : List Int) (j : Nat), bs.length ≤ as.length → j < bs.length → (shGo top as bs).getD j 0 = as.getD j 0 - top * bs.getD j 0
  | [], b :: bs, _, h, _ => by simp at h
  | _, [], _, _, h => by simp at h
  | a :: as, b :: bs, 0, _, _ => rfl
  | a :: as, b :: bs, j + 1, h, hj => by
    rw [shGo, List.getD_cons_succ, List.getD_cons_succ, List.getD_cons_succ]
    exact shGo_at top as bs j (by simpa using h) (by simpa using hj)

/-- A polynomial with leading coefficient 1 and a degree from 1 on. -/
structure Mon (p : List Int) (d : Nat) : Prop where
  len : p.length = d + 1
  pos : 1 ≤ d
  top : p.getD d 0 = 1
section
variable {p : List Int} {d : Nat}
theorem RL_len (m : Mon p d) : ∀ k, (RL p k).length = d
  | 0 => by rw [RL, List.length_cons, List.length_replicate, m.len]; have := m.pos; omega
  | k + 1 => by
    rw [RL, shL, shGo_len _ _ _ (by rw [List.length_take, List.length_cons, RL_len m k, m.len]; omega), List.length_take, m.len]; omega
def rr (p : List Int) (k j : Nat) : Int := (RL p k).getD j 0
theorem rr_ge (m : Mon p d) (k : Nat) {j : Nat} (hj : d ≤ j) : rr p k j = 0 := by
  rw [rr, List.getD_eq_getElem?_getD, List.getElem?_eq_none (by rw [RL_len m k]; exact hj)]; rfl
theorem rr_succ (m : Mon p d) (k : Nat) {j : Nat} (hj : j < d) : rr p (k + 1) j = (if j = 0 then 0 else rr p k (j - 1)) - rr p k (d - 1) * p.getD j 0 := by
  have hl := RL_len m k
  have hp := m.pos
  have e1 : (RL p k).getLastD 0 = rr p k (d - 1) := by
    rw [rr, List.getLastD_eq_getLast?, List.getLast?_eq_getElem?, List.getD_eq_getElem?_getD, hl]
  have e2 : (p.take (p.length - 1)).getD j 0 = p.getD j 0 := by
    rw [List.getD_eq_getElem?_getD, List.getElem?_take_of_lt (by rw [m.len]; omega), List.getD_eq_getElem?_getD]
  have hlt : (p.take (p.length - 1)).length = d := by rw [List.length_take, m.len]; omega
  rw [rr, RL, shL, shGo_at _ _ _ _ (by rw [hlt, List.length_cons, hl]; omega) (by rw [hlt]; exact hj), e1, e2]
  congr 1
  cases j with
  | zero => rfl
  | succ j => rw [List.getD_cons_succ, if_neg (by omega)]; rfl
theorem rr_unit (m : Mon p d) : ∀ k, k < d → ∀ j, j < d → rr p k j = if j = k then 1 else 0
  | 0, _, j, hj => by
    rw [rr, RL]
    cases j with
    | zero => rfl
    | succ j =>
      rw [List.getD_cons_succ, List.getD_eq_getElem?_getD, List.getElem?_replicate, if_neg (show ¬ j + 1 = 0 by omega)]
      split <;> rfl
  | k + 1, hk, j, hj => by
    rw [rr_succ m k hj, rr_unit m k (by omega) (d - 1) (by omega), if_neg (show ¬ d - 1 = k by omega), Int.zero_mul, Int.sub_zero]
    by_cases h0 : j = 0
    · rw [if_pos h0, if_neg (by omega)]
    · rw [if_neg h0, rr_unit m k (by omega) (j - 1) (by omega)]
      by_cases h1 : j = k + 1
      · rw [if_pos (by omega), if_pos h1]
      · rw [if_neg (by omega), if_neg h1]
theorem rr_deg (m : Mon p d) {j : Nat} (hj : j < d) : rr p d j = - p.getD j 0 := by
  have hp := m.pos
  have h := rr_succ m (d - 1) hj
  rw [show d - 1 + 1 = d by omega, rr_unit m (d - 1) (by omega) (d - 1) (by omega), if_pos rfl, Int.one_mul] at h
  rw [h]
  by_cases h0 : j = 0
  · rw [if_pos h0, Int.zero_sub]
  · rw [if_neg h0, rr_unit m (d - 1) (by omega) (j - 1) (by omega), if_neg (by omega), Int.zero_sub]

/-- A sequence that the polynomial makes. -/
def Rec (p : List Int) (d : Nat) (f : Nat → Int) : Prop := ∀ s, sm (d + 1) (fun i => p.getD i 0 * f (s + i)) = 0
theorem rr_rec (m : Mon p d) : ∀ s j, sm (d + 1) (fun i => p.getD i 0 * rr p (s + i) j) = 0
  | 0, j => by
    by_cases hj : j < d
    · rw [sm_succ, Nat.zero_add, rr_deg m hj, m.top, Int.one_mul]
      have : sm d (fun i => p.getD i 0 * rr p (0 + i) j) = p.getD j 0 := by
        rw [sm_one hj fun k hk hne => by rw [Nat.zero_add, rr_unit m k hk j hj, if_neg (Ne.symm hne), Int.mul_zero]]
        rw [Nat.zero_add, rr_unit m j hj j hj, if_pos rfl, Int.mul_one]
      rw [this]; omega
    · exact sm_zeros fun k _ => by rw [rr_ge m _ (by omega), Int.mul_zero]
  | s + 1, j => by
    by_cases hj : j < d
    · have h1 : sm (d + 1) (fun i => p.getD i 0 * rr p (s + 1 + i) j) = (if j = 0 then 0 else sm (d + 1) (fun i => p.getD i 0 * rr p (s + i) (j - 1))) - sm (d + 1) (fun i => p.getD i 0 * rr p (s + i) (d - 1)) * p.getD j 0 := by
        rw [← sm_mulr]
        by_cases h0 : j = 0
        · rw [if_pos h0, Int.zero_sub, ← sm_neg]
          refine sm_congr fun i _ => ?_
          rw [show s + 1 + i = (s + i) + 1 by omega, rr_succ m (s + i) hj, if_pos h0]
          simp only [Int.zero_sub, Int.mul_neg, Int.mul_assoc]
        · rw [if_neg h0, ← sm_sub]
          refine sm_congr fun i _ => ?_
          rw [show s + 1 + i = (s + i) + 1 by omega, rr_succ m (s + i) hj, if_neg h0, Int.mul_sub, Int.mul_assoc]
      rw [h1, rr_rec m s (d - 1), rr_rec m s (j - 1)]
      simp
    · exact sm_zeros fun k _ => by rw [rr_ge m _ (by omega), Int.mul_zero]
theorem rec_lin (m : Mon p d) {f : Nat → Int} (hf : Rec p d f) : ∀ k s, f (k + s) = sm d (fun j => rr p k j * f (j + s))
  | 0, s => by
    have hp := m.pos
    rw [sm_one (t := 0) (by omega) fun j hj hne => by rw [rr_unit m 0 (by omega) j hj, if_neg hne, Int.zero_mul]]
    rw [rr_unit m 0 (by omega) 0 (by omega), if_pos rfl, Int.one_mul]
  | k + 1, s => by
    have hp := m.pos
    rw [show k + 1 + s = k + (s + 1) by omega, rec_lin m hf k (s + 1)]
    have h1 : sm d (fun j => rr p (k + 1) j * f (j + s)) = sm d (fun j => (if j = 0 then 0 else rr p k (j - 1)) * f (j + s)) - rr p k (d - 1) * sm d (fun j => p.getD j 0 * f (j + s)) := by
      rw [← sm_mul, ← sm_sub]
      refine sm_congr fun j hj => ?_
      rw [rr_succ m k hj, Int.sub_mul, Int.mul_assoc]
    have h2 : sm d (fun j => p.getD j 0 * f (j + s)) = - f (d + s) := by
      have := hf s
      rw [sm_succ, m.top, Int.one_mul] at this
      have e : sm d (fun i => p.getD i 0 * f (s + i)) = sm d (fun j => p.getD j 0 * f (j + s)) := sm_congr fun j _ => by rw [Nat.add_comm]
      rw [e, Nat.add_comm s d] at this
      omega
    obtain ⟨e, rfl⟩ : ∃ e, d = e + 1 := ⟨d - 1, by omega⟩
    rw [h1, h2, sm_first e (fun j => (if j = 0 then 0 else rr p k (j - 1)) * f (j + s)), if_pos rfl, Int.zero_mul, Int.zero_add, sm_succ]
    have h3 : sm e (fun k_1 => (if k_1 + 1 = 0 then 0 else rr p k (k_1 + 1 - 1)) * f (k_1 + 1 + s)) = sm e (fun j => rr p k j * f (j + (s + 1))) := sm_congr fun j _ => by
      rw [if_neg (by omega), Nat.add_sub_cancel, show j + 1 + s = j + (s + 1) by omega]
    rw [h3, show e + 1 - 1 = e from rfl, show e + 1 + s = e + (s + 1) by omega, Int.mul_neg]
    omega

/-- A sum of powers, modulo the polynomial. -/
def val (p : List Int) (n : Nat) (c : Nat → Int) (j : Nat) : Int := sm n (fun k => c k * rr p k j)
theorem val_rec (m : Mon p d) {f : Nat → Int} (hf : Rec p d f) (n : Nat) (c : Nat → Int) : sm n (fun k => c k * f k) = sm d (fun j => val p n c j * f j) := by
  have h1 : sm n (fun k => c k * f k) = sm n (fun k => sm d (fun j => c k * rr p k j * f j)) := sm_congr fun k _ => by
    have := rec_lin m hf k 0
    rw [Nat.add_zero] at this
    rw [this, ← sm_mul]
    exact sm_congr fun j _ => by rw [Nat.add_zero, Int.mul_assoc]
  rw [h1, sm_swap]
  exact sm_congr fun j _ => by rw [val, sm_mulr]
theorem val_self (m : Mon p d) (v : Nat → Int) {j : Nat} (hj : j < d) : val p d v j = v j := by
  rw [val, sm_one hj fun k hk hne => by rw [rr_unit m k hk j hj, if_neg (Ne.symm hne), Int.mul_zero], rr_unit m j hj j hj, if_pos rfl, Int.mul_one]
theorem val_ge (m : Mon p d) (n : Nat) (c : Nat → Int) {j : Nat} (hj : d ≤ j) : val p n c j = 0 := sm_zeros fun k _ => by rw [rr_ge m k hj, Int.mul_zero]
end

/-! numbers modulo 2^64 -/
def cg (x y : Int) : Prop := ∃ k, x = y + 18446744073709551616 * k
theorem cg.refl (x : Int) : cg x x := ⟨0, by omega⟩
theorem cg.trans {x y z : Int} (h : cg x y) (k : cg y z) : cg x z := by
  obtain ⟨a, rfl⟩ := h; obtain ⟨b, rfl⟩ := k; exact ⟨a + b, by omega⟩
theorem cg.symm {x y : Int} (h : cg x y) : cg y x := by obtain ⟨a, rfl⟩ := h; exact ⟨-a, by omega⟩
theorem cg.add {x y z w : Int} (h : cg x y) (k : cg z w) : cg (x + z) (y + w) := by
  obtain ⟨a, rfl⟩ := h; obtain ⟨b, rfl⟩ := k; exact ⟨a + b, by omega⟩
theorem cg.sub {x y z w : Int} (h : cg x y) (k : cg z w) : cg (x - z) (y - w) := by
  obtain ⟨a, rfl⟩ := h; obtain ⟨b, rfl⟩ := k; exact ⟨a - b, by omega⟩
theorem cg.mulr {x y : Int} (h : cg x y) (z : Int) : cg (x * z) (y * z) := by
  obtain ⟨a, rfl⟩ := h; exact ⟨a * z, by rw [Int.add_mul, Int.mul_assoc]⟩
theorem cg_W (x : Int) : cg (W x) x := by
  rw [W_eq]
  exact ⟨-((x + 9223372036854775808) / 18446744073709551616), by omega⟩
theorem cg_sm {n : Nat} {f g : Nat → Int} (h : ∀ k, k < n → cg (f k) (g k)) : cg (sm n f) (sm n g) := by
  induction n with
  | zero => exact cg.refl _
  | succ n ih => rw [sm_succ, sm_succ]; exact (ih fun k hk => h k (by omega)).add (h n (by omega))
theorem cg_eq {x y : Int} (h : cg x y) (hx : -9223372036854775808 ≤ x ∧ x < 9223372036854775808) (hy : -9223372036854775808 ≤ y ∧ y < 9223372036854775808) : x = y := by
  obtain ⟨k, rfl⟩ := h; omega

/-! division -/
theorem divGo_val {p : List Int} {d : Nat} (m : Mon p d) : ∀ (n : Nat) (q r : List Int), (∀ k, n + d ≤ k → r.getD k 0 = 0) →
    (∀ k, d ≤ k → (divGo d p n q r).2.getD k 0 = 0) ∧ ∀ j, cg (sm (divGo d p n q r).2.length (fun k => (divGo d p n q r).2.getD k 0 * rr p k j)) (sm r.length (fun k => r.getD k 0 * rr p k j))
  | 0, q, r, hz => ⟨fun k hk => hz k (by omega), fun j => cg.refl _⟩
  | n + 1, q, r, hz => by
    rw [divGo]
    have hlen := subAt_len (r.getD (n + d) 0) p n r
    have hat := subAt_at (r.getD (n + d) 0) p n r
    generalize hx : r.getD (n + d) 0 = x at *
    by_cases hnd : n + d < r.length
    · obtain ⟨h1, h2⟩ := divGo_val m n (q.set n x) (subAt x n p r) fun k hk => by
        by_cases hkl : k < r.length
        · rw [hat k hkl]
          by_cases hk2 : k = n + d
          · rw [if_pos (by rw [m.len]; omega), hk2, show n + d - n = d by omega, m.top, hx, Int.mul_one]
            have := cg_eq (((cg_W _).trans ((cg.refl x).sub (cg_W x))).trans ⟨0, by omega⟩ : cg (W (x - W x)) 0) (W_in _) (by omega)
            exact this
          · rw [if_neg (by rw [m.len]; omega)]
            exact hz k (by omega)
        · rw [List.getD_eq_getElem?_getD, List.getElem?_eq_none (by omega)]; rfl
      refine ⟨h1, fun j => (h2 j).trans ?_⟩
      rw [hlen]
      have e1 : sm r.length (fun k => (subAt x n p r).getD k 0 * rr p k j) = sm r.length (fun k => (if n ≤ k ∧ k < n + (d + 1) then W (r.getD k 0 - W (x * p.getD (k - n) 0)) else r.getD k 0) * rr p k j) := sm_congr fun k hk => by
        rw [hat k hk, m.len]
      rw [e1]
      have e2 : cg (sm r.length (fun k => (if n ≤ k ∧ k < n + (d + 1) then W (r.getD k 0 - W (x * p.getD (k - n) 0)) else r.getD k 0) * rr p k j)) (sm r.length (fun k => (r.getD k 0 - (if n ≤ k ∧ k < n + (d + 1) then x * p.getD (k - n) 0 else 0)) * rr p k j)) := cg_sm fun k _ => by
        refine cg.mulr ?_ _
        by_cases hk : n ≤ k ∧ k < n + (d + 1)
        · rw [if_pos hk, if_pos hk]
          exact (cg_W _).trans ((cg.refl _).sub (cg_W _))
        · rw [if_neg hk, if_neg hk, Int.sub_zero]; exact cg.refl _
      refine e2.trans ?_
      have e3 : sm r.length (fun k => (r.getD k 0 - (if n ≤ k ∧ k < n + (d + 1) then x * p.getD (k - n) 0 else 0)) * rr p k j) = sm r.length (fun k => r.getD k 0 * rr p k j) - sm r.length (fun k => (if n ≤ k ∧ k < n + (d + 1) then x * p.getD (k - n) 0 else 0) * rr p k j) := by
        rw [← sm_sub]; exact sm_congr fun k _ => Int.sub_mul ..
      have e4 : sm r.length (fun k => (if n ≤ k ∧ k < n + (d + 1) then x * p.getD (k - n) 0 else 0) * rr p k j) = 0 := by
        obtain ⟨t, ht⟩ : ∃ t, r.length = n + (d + 1) + t := ⟨r.length - (n + (d + 1)), by omega⟩
        rw [ht, sm_app, sm_app, sm_zeros (n := n) fun k hk => by rw [if_neg (by omega), Int.zero_mul], sm_zeros (n := t) fun k hk => by rw [if_neg (by omega), Int.zero_mul]]
        have : sm (d + 1) (fun k => (if n ≤ n + k ∧ n + k < n + (d + 1) then x * p.getD (n + k - n) 0 else 0) * rr p (n + k) j) = x * sm (d + 1) (fun i => p.getD i 0 * rr p (n + i) j) := by
          rw [← sm_mul]
          exact sm_congr fun k hk => by rw [if_pos (by omega), Nat.add_sub_cancel_left, Int.mul_assoc]
        rw [this, rr_rec m n j]; simp
      rw [e3, e4, Int.sub_zero]; exact cg.refl _
    · have hx0 : x = 0 := by rw [← hx, List.getD_eq_getElem?_getD, List.getElem?_eq_none (by omega)]; rfl
      have hin : ∀ k, k < r.length → cg ((subAt x n p r).getD k 0) (r.getD k 0) := fun k hk => by
        rw [hat k hk]
        split
        · rw [hx0, Int.zero_mul]
          exact (cg_W _).trans (((cg.refl _).sub (cg_W 0)).trans ⟨0, by omega⟩)
        · exact cg.refl _
      obtain ⟨h1, h2⟩ := divGo_val m n (q.set n x) (subAt x n p r) fun k hk => by
        rw [List.getD_eq_getElem?_getD, List.getElem?_eq_none (by omega)]; rfl
      refine ⟨h1, fun j => (h2 j).trans ?_⟩
      rw [hlen]
      exact cg_sm fun k hk => (hin k hk).mulr _
end
end Go.Proofs.Ythfabknpogbcaaa
/- Remainders, exactly. -/
namespace Go.Proofs.Ythfabknpogbcaaa
open Go Go.Ay
set_option maxRecDepth 100000
noncomputable section

/-! remainders, exactly -/
def zipE (x : Int) : List Int → List Int → List Int
  | [], r => r
  | _ :: _, [] => []
  | y :: b, z :: r => (z - x * y) :: zipE x b r
def remR (b : List Int) : Nat → List Int → List Int
  | 0, a => a
  | _ + 1, [] => []
  | t + 1, x :: a => match x with
    | .ofNat 0 => remR b t a
    | x => remR b t (zipE x b a)
theorem zipE_zero : ∀ (b r : List Int), b.length ≤ r.length → zipE 0 b r = r
  | [], r, _ => rfl
  | _ :: _, [], h => by simp at h
  | y :: b, z :: r, h => by rw [zipE, zipE_zero b r (by simpa using h), Int.zero_mul, Int.sub_zero]
theorem zipE_len (x : Int) : ∀ (b r : List Int), b.length ≤ r.length → (zipE x b r).length = r.length
  | [], r, _ => rfl
  | _ :: _, [], h => by simp at h
  | y :: b, z :: r, h => by rw [zipE, List.length_cons, zipE_len x b r (by simpa using h)]; rfl
theorem zipE_at (x : Int) : ∀ (b r : List Int) (j : Nat), b.length ≤ r.length → (zipE x b r).getD j 0 = r.getD j 0 - x * b.getD j 0
  | [], r, j, _ => by rw [zipE]; simp
  | _ :: _, [], j, h => by simp at h
  | y :: b, z :: r, 0, _ => rfl
  | y :: b, z :: r, j + 1, h => by
    rw [zipE, List.getD_cons_succ, zipE_at x b r j (by simpa using h)]; rfl
theorem remR_cons (b : List Int) (t : Nat) (x : Int) (a : List Int) (h : b.length ≤ a.length) : remR b (t + 1) (x :: a) = remR b t (zipE x b a) := by
  cases x with
  | ofNat n => cases n with
    | zero => show remR b t a = _; rw [show Int.ofNat 0 = 0 from rfl, zipE_zero b a h]
    | succ n => rfl
  | negSucc n => rfl
theorem sm_rev (n : Nat) (f : Nat → Int) : sm n (fun i => f (n - 1 - i)) = sm n f := by
  induction n with
  | zero => rfl
  | succ n ih =>
    rw [sm_first, sm_succ, ← ih]
    have : sm n (fun k => f (n + 1 - 1 - (k + 1))) = sm n (fun i => f (n - 1 - i)) := sm_congr fun k _ => by rw [show n + 1 - 1 - (k + 1) = n - 1 - k by omega]
    rw [this]
    simp only [Nat.add_sub_cancel, Nat.sub_zero]
    omega
/-- A list that begins with its leading coefficient, as a sum of powers. -/
def valR (p : List Int) (a : List Int) (j : Nat) : Int := sm a.length (fun i => a.getD i 0 * rr p (a.length - 1 - i) j)
theorem valR_step {p : List Int} {d : Nat} (m : Mon p d) (x : Int) (a : List Int) (ha : d ≤ a.length) (j : Nat) : valR p (zipE x (p.take d).reverse a) j = valR p (x :: a) j := by
  have hb : (p.take d).reverse.length = d := by rw [List.length_reverse, List.length_take, m.len]; omega
  have hbe : ∀ i, i < d → (p.take d).reverse.getD i 0 = p.getD (d - 1 - i) 0 := fun i hi => by
    rw [getD_rev _ _ (by rw [List.length_take, m.len]; omega), List.length_take, m.len, Nat.min_eq_left (by omega), getD_take _ _ _ (by omega)]
  obtain ⟨t, ht⟩ : ∃ t, a.length = d + t := ⟨a.length - d, by omega⟩
  unfold valR
  rw [zipE_len x _ a (by omega), List.length_cons, sm_first]
  have e0 : (x :: a).getD 0 0 = x := rfl
  have e1 : sm a.length (fun k => (x :: a).getD (k + 1) 0 * rr p (a.length + 1 - 1 - (k + 1)) j) = sm a.length (fun k => a.getD k 0 * rr p (a.length - 1 - k) j) := sm_congr fun k _ => by
    rw [List.getD_cons_succ, show a.length + 1 - 1 - (k + 1) = a.length - 1 - k by omega]
  have e2 : sm a.length (fun i => (zipE x (p.take d).reverse a).getD i 0 * rr p (a.length - 1 - i) j) = sm a.length (fun k => a.getD k 0 * rr p (a.length - 1 - k) j) - x * sm a.length (fun i => (p.take d).reverse.getD i 0 * rr p (a.length - 1 - i) j) := by
    rw [← sm_mul, ← sm_sub]
    exact sm_congr fun i _ => by rw [zipE_at x _ a i (by omega), Int.sub_mul, Int.mul_assoc]
  have e3 : sm a.length (fun i => (p.take d).reverse.getD i 0 * rr p (a.length - 1 - i) j) = - rr p (d + t) j := by
    rw [ht, sm_app, sm_zeros (n := t) fun k _ => by rw [List.getD_eq_getElem?_getD, List.getElem?_eq_none (by rw [hb]; omega)]; exact Int.zero_mul _, Int.add_zero]
    have e4 : sm d (fun i => (p.take d).reverse.getD i 0 * rr p (d + t - 1 - i) j) = sm d (fun i => p.getD i 0 * rr p (t + i) j) := by
      rw [← sm_rev d (fun i => p.getD i 0 * rr p (t + i) j)]
      exact sm_congr fun i hi => by rw [hbe i hi, show t + (d - 1 - i) = d + t - 1 - i by omega]
    have := rr_rec m t j
    rw [sm_succ, m.top, Int.one_mul] at this
    rw [e4, Nat.add_comm d t]; omega
  rw [e1, e2, e3, e0, show a.length + 1 - 1 - 0 = d + t by omega, Int.mul_neg]
  omega
theorem remR_val {p : List Int} {d : Nat} (m : Mon p d) (j : Nat) : ∀ (t : Nat) (a : List Int), a.length = d + t → valR p (remR (p.take d).reverse t a) j = valR p a j ∧ (remR (p.take d).reverse t a).length = d
  | 0, a, h => ⟨rfl, h⟩
  | t + 1, [], h => by simp at h
  | t + 1, x :: a, h => by
    have hl : a.length = d + t := by simp at h; omega
    have hb : (p.take d).reverse.length = d := by rw [List.length_reverse, List.length_take, m.len]; omega
    rw [remR_cons _ _ _ _ (by omega)]
    obtain ⟨h1, h2⟩ := remR_val m j t (zipE x (p.take d).reverse a) (by rw [zipE_len _ _ _ (by omega)]; exact hl)
    exact ⟨h1.trans (valR_step m x a (by omega) j), h2⟩
theorem valR_rev (p : List Int) (c : List Int) (j : Nat) : valR p c.reverse j = val p c.length (fun k => c.getD k 0) j := by
  unfold valR val
  rw [List.length_reverse, ← sm_rev c.length (fun k => c.getD k 0 * rr p k j)]
  exact sm_congr fun i hi => by rw [getD_rev c i hi]
def isZ : List Int → Bool
  | [] => true
  | x :: a => match x with
    | .ofNat 0 => isZ a
    | _ => false
theorem isZ_at : ∀ {a : List Int}, isZ a = true → ∀ j, a.getD j 0 = 0
  | [], _, j => by simp
  | x :: a, h, j => by
    cases x with
    | ofNat n => cases n with
      | zero => cases j with
        | zero => rfl
        | succ j => rw [List.getD_cons_succ]; exact isZ_at (a := a) h j
      | succ n => cases h
    | negSucc n => cases h
/-- Is a polynomial a multiple? -/
def zeroT (p c : List Int) : Bool := isZ (remR (p.take (p.length - 1)).reverse (c.length - (p.length - 1)) c.reverse)
theorem zeroT_val {p c : List Int} {d : Nat} (m : Mon p d) (h : zeroT p c = true) (j : Nat) : val p c.length (fun k => c.getD k 0) j = 0 := by
  have hd : p.length - 1 = d := by rw [m.len]; rfl
  rw [zeroT, hd] at h
  rw [← valR_rev]
  have hz := isZ_at h
  by_cases hc : d ≤ c.length
  · obtain ⟨h1, h2⟩ := remR_val m j (c.length - d) c.reverse (by rw [List.length_reverse]; omega)
    rw [← h1]
    exact sm_zeros fun k _ => by rw [hz k, Int.zero_mul]
  · rw [show c.length - d = 0 by omega] at hz
    exact sm_zeros fun k _ => by
      have := hz k
      rw [remR] at this
      rw [this, Int.zero_mul]

end
end Go.Proofs.Ythfabknpogbcaaa
/- Cyclotomic polynomials: what the kernel has checked of them. -/
namespace Go.Proofs.Ythfabknpogbcaaa
open Go Go.Ay
set_option maxRecDepth 100000
noncomputable section

/-! the checks -/
def fi (n : Nat) : Nat := (phiF n).length - 1
def monB (n : Nat) : Bool := Nat.ble 2 (phiF n).length && decide ((phiF n).getD ((phiF n).length - 1) 0 = 1)
theorem mon_all : (List.range 121).all (fun n => n == 0 || monB n) = true := by decide +kernel
theorem mon {n : Nat} (h1 : 1 ≤ n) (h2 : n ≤ 120) : Mon (phiF n) (fi n) := by
  have h := List.all_eq_true.1 mon_all n (List.mem_range.2 (by omega))
  have hb : (n == 0) = false := by simp; omega
  rw [hb, Bool.false_or, monB, Bool.and_eq_true, decide_eq_true_eq] at h
  have := Nat.le_of_ble_eq_true h.1
  exact ⟨by unfold fi; omega, by unfold fi; omega, h.2⟩

def shK (d : Nat) (p v : List Int) (top : Int) : List Int := match top with
  | .ofNat 0 => (0 :: v).take d
  | t => shGo t (0 :: v) p
def small (l : List Int) : Bool := l.all fun x => Nat.ble x.natAbs 3
def k1go (d : Nat) (p : List Int) : Nat → List Int → Option (List Int)
  | 0, v => some v
  | k + 1, v => cond (small v) (k1go d p k (shK d p v (v.getLastD 0))) none
def k1 (n : Nat) : Bool := let p := phiF n; let d := p.length - 1
  k1go d (p.take d) (n - d) ((p.take d).map fun x => -x) == some (RL p 0)
theorem k1_a : (List.range 60).all (fun n => n == 0 || k1 n) = true := by decide +kernel
theorem k1_b : (List.range 22).all (fun n => k1 (60 + n)) = true := by decide +kernel
theorem k1_c : (List.range 15).all (fun n => k1 (82 + n)) = true := by decide +kernel
theorem k1_d : (List.range 12).all (fun n => k1 (97 + n)) = true := by decide +kernel
theorem k1_e : (List.range 12).all (fun n => k1 (109 + n)) = true := by decide +kernel
theorem k1_all {n : Nat} (h1 : 1 ≤ n) (h2 : n ≤ 120) : k1 n = true := by
  by_cases a : n < 60
  · have h := List.all_eq_true.1 k1_a n (List.mem_range.2 a)
    have hb : (n == 0) = false := by simp; omega
    rwa [hb, Bool.false_or] at h
  by_cases b : n < 82
  · have h := List.all_eq_true.1 k1_b (n - 60) (List.mem_range.2 (by omega))
    rwa [show 60 + (n - 60) = n by omega] at h
  by_cases c : n < 97
  · have h := List.all_eq_true.1 k1_c (n - 82) (List.mem_range.2 (by omega))
    rwa [show 82 + (n - 82) = n by omega] at h
  by_cases d : n < 109
  · have h := List.all_eq_true.1 k1_d (n - 97) (List.mem_range.2 (by omega))
    rwa [show 97 + (n - 97) = n by omega] at h
  · have h := List.all_eq_true.1 k1_e (n - 109) (List.mem_range.2 (by omega))
    rwa [show 109 + (n - 109) = n by omega] at h

/-- A polynomial in x^q. -/
def spread (q : Nat) : List Int → List Int
  | [] => []
  | [x] => [x]
  | x :: y :: l => x :: (List.replicate (q - 1) 0 ++ spread q (y :: l))
/-- 1 + x^m + .. -/
def geo (m : Nat) : Nat → List Int
  | 0 => []
  | 1 => [1]
  | q + 2 => 1 :: (List.replicate (m - 1) 0 ++ geo m (q + 1))
def gq (n q : Nat) : Nat := if n / q % q = 0 then 1 else n / q
def piL (n q e : Nat) : List Int := (List.range (n / q)).map fun t => (phiF n).getD ((q * t + n / q * e) % n) 0
def subL : List Int → List Int → List Int
  | a :: as, b :: bs => (a - b) :: subL as bs
  | _, _ => []
def k2 (n q : Nat) : Bool := zeroT (phiF n) (spread q (phiF (n / q)))
def k3 (n q : Nat) : Bool := zeroT (phiF n) (geo (n / q) q)
def k4 (n q : Nat) : Bool := (List.range q).all fun e => zeroT (phiF (n / q)) (subL (piL n q e) (piL n q 1))
def k5 (n q : Nat) : Bool := decide (phiF n = spread q (phiF (n / q)))
theorem k23_a : (List.range 80).all (fun n => (prOf n).all fun q => k2 n q && k3 n q) = true := by decide +kernel
theorem k23_b : (List.range 41).all (fun n => (prOf (80 + n)).all fun q => k2 (80 + n) q && k3 (80 + n) q) = true := by decide +kernel
theorem k45_a : (List.range 80).all (fun n => (prOf n).all fun q => cond (n / q % q == 0) (k5 n q) (k4 n q)) = true := by decide +kernel
theorem k45_b : (List.range 41).all (fun n => (prOf (80 + n)).all fun q => cond ((80 + n) / q % q == 0) (k5 (80 + n) q) (k4 (80 + n) q)) = true := by decide +kernel
end
end Go.Proofs.Ythfabknpogbcaaa
/- What follows from the checks: periods, bounds, parts. -/
namespace Go.Proofs.Ythfabknpogbcaaa
open Go Go.Ay
set_option maxRecDepth 100000
noncomputable section

/-! periods and bounds -/
theorem shK_eq {p : List Int} {d : Nat} (m : Mon p d) (v : List Int) (hv : v.length = d) : shK d (p.take d) v (v.getLastD 0) = shL p v := by
  have hd : p.length - 1 = d := by rw [m.len]; rfl
  rw [shL, hd]
  generalize v.getLastD 0 = t
  cases t with
  | ofNat n => cases n with
    | zero =>
      show (0 :: v).take d = shGo (Int.ofNat 0) (0 :: v) (p.take d)
      have hl : (p.take d).length = d := by rw [List.length_take, m.len]; omega
      apply eqD
      · rw [List.length_take, List.length_cons, shGo_len _ _ _ (by rw [hl, List.length_cons]; omega), hl]; omega
      · intro j hj
        rw [List.length_take, List.length_cons] at hj
        rw [shGo_at _ _ _ _ (by rw [hl, List.length_cons]; omega) (by omega), getD_take _ _ _ (by omega), show Int.ofNat 0 = 0 from rfl, Int.zero_mul, Int.sub_zero]
    | succ n => rfl
  | negSucc n => rfl
theorem k1go_spec {p : List Int} {d : Nat} (m : Mon p d) : ∀ (t k : Nat) (w : List Int), k1go d (p.take d) t (RL p k) = some w → w = RL p (k + t) ∧ ∀ i, i < t → small (RL p (k + i)) = true
  | 0, k, w, h => by
    cases h; exact ⟨rfl, fun i hi => by omega⟩
  | t + 1, k, w, h => by
    rw [k1go] at h
    cases hs : small (RL p k) with
    | false => rw [hs] at h; cases h
    | true =>
      rw [hs, cond_true, shK_eq m _ (RL_len m k)] at h
      obtain ⟨h1, h2⟩ := k1go_spec m t (k + 1) w h
      refine ⟨by rw [h1]; congr 1; omega, fun i hi => ?_⟩
      cases i with
      | zero => exact hs
      | succ i => rw [show k + (i + 1) = k + 1 + i by omega]; exact h2 i (by omega)
theorem RL_deg {p : List Int} {d : Nat} (m : Mon p d) : RL p d = (p.take d).map fun x => -x := by
  apply eqD
  · rw [RL_len m, List.length_map, List.length_take, m.len]; omega
  · intro j hj
    rw [RL_len m] at hj
    have := rr_deg m hj
    rw [rr] at this
    rw [this, List.getD_eq_getElem?_getD (l := List.map _ _), List.getElem?_map, List.getElem?_take_of_lt hj, List.getD_eq_getElem?_getD, List.getElem?_eq_getElem (by rw [m.len]; omega)]; rfl
theorem small_at {l : List Int} (h : small l = true) (j : Nat) : -3 ≤ l.getD j 0 ∧ l.getD j 0 ≤ 3 := by
  rw [List.getD_eq_getElem?_getD]
  cases e : l[j]? with
  | none => simp
  | some x =>
    have := List.all_eq_true.1 h x (List.mem_of_getElem? e)
    have := Nat.le_of_ble_eq_true this
    simp only [Option.getD_some]
    omega
section
variable {n : Nat}
theorem fi_le (h1 : 1 ≤ n) (h2 : n ≤ 120) : 1 ≤ fi n ∧ fi n ≤ n := by
  have := phi_len h1 h2
  unfold fi; omega
theorem R_n (h1 : 1 ≤ n) (h2 : n ≤ 120) : RL (phiF n) n = RL (phiF n) 0 ∧ ∀ k, fi n ≤ k → k < n → small (RL (phiF n) k) = true := by
  have m := mon h1 h2
  have hk := k1_all h1 h2
  have hf := fi_le h1 h2
  have hk' : k1go (fi n) ((phiF n).take (fi n)) (n - fi n) (((phiF n).take (fi n)).map fun x => -x) = some (RL (phiF n) 0) := by
    have : (k1go (fi n) ((phiF n).take (fi n)) (n - fi n) (((phiF n).take (fi n)).map fun x => -x) == some (RL (phiF n) 0)) = true := hk
    exact eq_of_beq this
  rw [← RL_deg m] at hk'
  obtain ⟨e1, e2⟩ := k1go_spec m _ _ _ hk'
  refine ⟨by rw [e1]; congr 1; omega, fun k hk1 hk2 => ?_⟩
  have := e2 (k - fi n) (by omega)
  rwa [show fi n + (k - fi n) = k by omega] at this
theorem rr_per (h1 : 1 ≤ n) (h2 : n ≤ 120) (s j : Nat) : rr (phiF n) (n + s) j = rr (phiF n) s j := by
  have m := mon h1 h2
  have hf : Rec (phiF n) (fi n) (fun k => rr (phiF n) k j) := fun s => rr_rec m s j
  have a := rec_lin m hf n s
  have b := rec_lin m hf 0 s
  rw [Nat.zero_add] at b
  rw [a, b]
  exact sm_congr fun i _ => by rw [rr, (R_n h1 h2).1]; rfl
theorem rr_pers (h1 : 1 ≤ n) (h2 : n ≤ 120) (s j : Nat) : ∀ t, rr (phiF n) (n * t + s) j = rr (phiF n) s j
  | 0 => by rw [Nat.mul_zero, Nat.zero_add]
  | t + 1 => by rw [Nat.mul_add, Nat.mul_one, show n * t + n + s = n + (n * t + s) by omega, rr_per h1 h2, rr_pers h1 h2 s j t]
theorem rr_mod (h1 : 1 ≤ n) (h2 : n ≤ 120) (k j : Nat) : rr (phiF n) (k % n) j = rr (phiF n) k j := by
  have := rr_pers h1 h2 (k % n) j (k / n)
  rw [Nat.div_add_mod] at this
  exact this.symm
theorem rr_small (h1 : 1 ≤ n) (h2 : n ≤ 120) (k j : Nat) : ab (rr (phiF n) k j) ≤ 3 := by
  rw [← rr_mod h1 h2 k j]
  have hk : k % n < n := Nat.mod_lt _ (by omega)
  generalize k % n = k at hk
  have m := mon h1 h2
  by_cases hj : j < fi n
  · by_cases hd : k < fi n
    · rw [rr_unit m k hd j hj]; split <;> decide
    · rw [ab_le]
      have := small_at ((R_n h1 h2).2 k (by omega) hk) j
      exact this
  · rw [rr_ge m k (by omega)]; decide
end

/-- A relation between powers stays one behind a factor. -/
theorem rel_shift {n : Nat} (h1 : 1 ≤ n) (h2 : n ≤ 120) {t : Nat} {c : Nat → Int} {g : Nat → Nat} (h : ∀ j, sm t (fun k => c k * rr (phiF n) (g k) j) = 0) (s j : Nat) : sm t (fun k => c k * rr (phiF n) (g k + s) j) = 0 := by
  have m := mon h1 h2
  have hf : Rec (phiF n) (fi n) (fun k => rr (phiF n) k j) := fun s => rr_rec m s j
  have e : sm t (fun k => c k * rr (phiF n) (g k + s) j) = sm t (fun k => sm (fi n) (fun i => c k * rr (phiF n) (g k) i * rr (phiF n) (i + s) j)) := sm_congr fun k _ => by
    have := rec_lin m hf (g k) s
    rw [this, ← sm_mul]
    exact sm_congr fun i _ => by rw [Int.mul_assoc]
  rw [e, sm_swap]
  exact sm_zeros fun i _ => by rw [sm_mulr, h i, Int.zero_mul]
theorem spread_len (q : Nat) (hq : 1 ≤ q) : ∀ l : List Int, l ≠ [] → (spread q l).length = q * (l.length - 1) + 1
  | [], h => absurd rfl h
  | [x], _ => by simp [spread]
  | x :: y :: l, _ => by
    rw [spread, List.length_cons, List.length_append, List.length_replicate, spread_len q hq (y :: l) (by simp)]
    simp only [List.length_cons, Nat.add_sub_cancel]
    rw [Nat.mul_add]; omega
theorem spread_at (q : Nat) (hq : 1 ≤ q) : ∀ (l : List Int) (k : Nat), (spread q l).getD k 0 = if k % q = 0 then l.getD (k / q) 0 else 0
  | [], k => by simp [spread]
  | [x], k => by
    rw [spread]
    cases k with
    | zero => simp
    | succ k =>
      rw [List.getD_cons_succ]
      split
      · rename_i h
        have : 1 ≤ (k + 1) / q := by
          rcases Nat.eq_zero_or_pos ((k + 1) / q) with h0 | h0
          · have := Nat.div_add_mod (k + 1) q; rw [h0, h] at this; omega
          · exact h0
        obtain ⟨t, ht⟩ : ∃ t, (k + 1) / q = t + 1 := ⟨(k + 1) / q - 1, by omega⟩
        rw [ht]; rfl
      · rfl
  | x :: y :: l, k => by
    rw [spread]
    cases k with
    | zero => simp
    | succ k =>
      rw [List.getD_cons_succ, List.getD_eq_getElem?_getD]
      by_cases hk : k < q - 1
      · rw [List.getElem?_append_left (by rw [List.length_replicate]; exact hk), List.getElem?_replicate, if_pos hk, if_neg (by rw [Nat.mod_eq_of_lt (by omega)]; omega)]; rfl
      · rw [List.getElem?_append_right (by rw [List.length_replicate]; omega), List.length_replicate, ← List.getD_eq_getElem?_getD, spread_at q hq (y :: l)]
        have e1 : (k + 1) = (k - (q - 1)) + q := by omega
        rw [e1, Nat.add_mod_right, Nat.add_div_right _ (by omega)]
        rfl
theorem spread_sum (q : Nat) (hq : 1 ≤ q) (l : List Int) (hl : l ≠ []) (f : Nat → Int) : sm (spread q l).length (fun k => (spread q l).getD k 0 * f k) = sm l.length (fun i => l.getD i 0 * f (q * i)) := by
  have h0 : 0 < l.length := List.length_pos_iff.2 hl
  have e : sm (spread q l).length (fun k => (spread q l).getD k 0 * f k) = sm (spread q l).length (fun k => sm l.length (fun i => if q * i = k then l.getD i 0 else 0) * f k) := sm_congr fun k hk => by
    congr 1
    rw [spread_at q hq]
    by_cases hz : k % q = 0
    · rw [if_pos hz]
      have hd : q * (k / q) = k := Nat.mul_div_cancel' (Nat.dvd_of_mod_eq_zero hz)
      rw [spread_len q hq l hl] at hk
      have hlt : k / q < l.length := by
        have : q * (k / q) < q * l.length := by
          rw [hd]
          have : q * l.length = q * (l.length - 1) + q := by
            rw [← Nat.mul_succ]; congr 1; omega
          omega
        exact Nat.lt_of_mul_lt_mul_left this
      rw [sm_one hlt fun i _ hne => if_neg fun h => hne (by rw [← h, Nat.mul_div_cancel_left _ (by omega)]), if_pos hd]
    · rw [if_neg hz, sm_zeros fun i _ => if_neg fun h => hz (by rw [← h]; exact Nat.mul_mod_right q i)]
  rw [e]
  exact sm_group (fun i => q * i) (fun i hi => by
    rw [spread_len q hq l hl]
    have := Nat.mul_le_mul_left q (show i ≤ l.length - 1 by omega)
    omega) (fun i => l.getD i 0) f
theorem geo_eq (m : Nat) : ∀ q, geo m q = spread m (List.replicate q 1)
  | 0 => rfl
  | 1 => rfl
  | q + 2 => by rw [geo, geo_eq m (q + 1)]; rfl
theorem subL_len : ∀ (a b : List Int), a.length = b.length → (subL a b).length = a.length
  | [], [], _ => rfl
  | a :: as, b :: bs, h => by rw [subL, List.length_cons, subL_len as bs (by simpa using h), List.length_cons]
  | [], _ :: _, h => by simp at h
  | _ :: _, [], h => by simp at h
theorem subL_at : ∀ (a b : List Int) (k : Nat), a.length = b.length → (subL a b).getD k 0 = a.getD k 0 - b.getD k 0
  | [], [], k, _ => by simp [subL]
  | a :: as, b :: bs, 0, _ => rfl
  | a :: as, b :: bs, k + 1, h => by
    rw [subL, List.getD_cons_succ, List.getD_cons_succ, List.getD_cons_succ]; exact subL_at as bs k (by simpa using h)
  | [], _ :: _, _, h => by simp at h
  | _ :: _, [], _, h => by simp at h

/-! the parts of a number -/
def eOf (n q k : Nat) : Nat := if n / q % q = 0 then k % q else invF (n / q) q * k % q
def tOf (n q k : Nat) : Nat := if n / q % q = 0 then k / q else invF q (n / q) * k % (n / q)
def crtB (n q : Nat) : Bool := let m := n / q
  (List.range n).all (fun k => Nat.blt (eOf n q k) q && Nat.blt (tOf n q k) m && (q * tOf n q k + gq n q * eOf n q k) % n == k) &&
  (List.range q).all fun e => (List.range m).all fun t => eOf n q ((q * t + gq n q * e) % n) == e && tOf n q ((q * t + gq n q * e) % n) == t && (e == 0 || (q * t + gq n q * e) % n % q != 0)
theorem crt_all : (List.range 121).all (fun n => (prOf n).all fun q => crtB n q) = true := by decide +kernel
end
end Go.Proofs.Ythfabknpogbcaaa
/- The parts of a number with n, by its powers of a prime's root: they are well defined, and make it up. -/
namespace Go.Proofs.Ythfabknpogbcaaa
open Go Go.Ay
set_option maxRecDepth 100000
noncomputable section

/-- The coefficients of the part e. -/
def part (n q e : Nat) (c : Nat → Int) (t : Nat) : Int := c ((q * t + gq n q * e) % n)
def vp (n q e : Nat) (c : Nat → Int) (j : Nat) : Int := val (phiF (n / q)) (n / q) (part n q e c) j
/-- The part e, less what can be moved. -/
def dp (n q e : Nat) (c : Nat → Int) (j : Nat) : Int := vp n q e c j - (if n / q % q = 0 then 0 else vp n q 1 c j)
/-- A number up to 120 and a prime that divides it. -/
structure Pq (n q : Nat) : Prop where
  h1 : 1 ≤ n
  h2 : n ≤ 120
  hq : q ∈ prOf n
section
variable {n q : Nat} (P : Pq n q)
include P
theorem Pq.ok : LowOk n q := lowOk P.h1 P.h2 P.hq
theorem Pq.m1 : 1 ≤ n / q := P.ok.lt.1
theorem Pq.mlt : n / q < n := P.ok.lt.2
theorem Pq.m2 : n / q ≤ 120 := by have := P.mlt; have := P.h2; omega
theorem Pq.q2 : 2 ≤ q := P.ok.q2
theorem Pq.dvd : q * (n / q) = n := by rw [Nat.mul_comm]; exact P.ok.dvd
theorem Pq.mon : Mon (phiF n) (fi n) := Go.Proofs.Ythfabknpogbcaaa.mon P.h1 P.h2
theorem Pq.monm : Mon (phiF (n / q)) (fi (n / q)) := Go.Proofs.Ythfabknpogbcaaa.mon P.m1 P.m2
theorem Pq.crt : (∀ k, k < n → eOf n q k < q ∧ tOf n q k < n / q ∧ (q * tOf n q k + gq n q * eOf n q k) % n = k) ∧
    (∀ e t, e < q → t < n / q → eOf n q ((q * t + gq n q * e) % n) = e ∧ tOf n q ((q * t + gq n q * e) % n) = t ∧ (e ≠ 0 → (q * t + gq n q * e) % n % q ≠ 0)) := by
  have h := List.all_eq_true.1 (List.all_eq_true.1 crt_all n (List.mem_range.2 (by have := P.h2; omega))) q P.hq
  simp only [crtB, Bool.and_eq_true] at h
  obtain ⟨h1, h2⟩ := h
  refine ⟨fun k hk => ?_, fun e t he ht => ?_⟩
  · have := List.all_eq_true.1 h1 k (List.mem_range.2 hk)
    simp only [Bool.and_eq_true, beq_iff_eq] at this
    obtain ⟨⟨a, b⟩, c⟩ := this
    have a' : eOf n q k < q := by rwa [Nat.blt_eq] at a
    have b' : tOf n q k < n / q := by rwa [Nat.blt_eq] at b
    exact ⟨a', b', c⟩
  · have := List.all_eq_true.1 (List.all_eq_true.1 h2 e (List.mem_range.2 he)) t (List.mem_range.2 ht)
    simp only [Bool.and_eq_true, Bool.or_eq_true, beq_iff_eq, bne_iff_ne] at this
    obtain ⟨⟨a, b⟩, c⟩ := this
    exact ⟨a, b, fun hne => c.resolve_left hne⟩
theorem Pq.k23 : k2 n q = true ∧ k3 n q = true := by
  have hn := P.h2
  by_cases h : n < 80
  · have := List.all_eq_true.1 (List.all_eq_true.1 k23_a n (List.mem_range.2 h)) q P.hq
    rwa [Bool.and_eq_true] at this
  · have e : 80 + (n - 80) = n := by omega
    have := List.all_eq_true.1 (List.all_eq_true.1 k23_b (n - 80) (List.mem_range.2 (by omega))) q (by rw [e]; exact P.hq)
    rwa [e, Bool.and_eq_true] at this
theorem Pq.k45 : cond (n / q % q == 0) (k5 n q) (k4 n q) = true := by
  have hn := P.h2
  by_cases h : n < 80
  · exact List.all_eq_true.1 (List.all_eq_true.1 k45_a n (List.mem_range.2 h)) q P.hq
  · have e : 80 + (n - 80) = n := by omega
    have := List.all_eq_true.1 (List.all_eq_true.1 k45_b (n - 80) (List.mem_range.2 (by omega))) q (by rw [e]; exact P.hq)
    rwa [e] at this
/-- The sum over all k, part by part. -/
theorem Pq.sum (F : Nat → Int) : sm n F = sm q (fun e => sm (n / q) (fun t => F ((q * t + gq n q * e) % n))) := by
  obtain ⟨c1, c2⟩ := P.crt
  have hn := P.h1
  have e1 : ∀ e t, F ((q * t + gq n q * e) % n) = sm n (fun k => if (q * t + gq n q * e) % n = k then F k else 0) := fun e t => by
    rw [sm_pick' (Nat.mod_lt _ (by omega)) F]
  have e2 : sm q (fun e => sm (n / q) (fun t => F ((q * t + gq n q * e) % n))) = sm n (fun k => sm q (fun e => sm (n / q) (fun t => if (q * t + gq n q * e) % n = k then F k else 0))) := by
    rw [sm_swap n q]
    refine sm_congr fun e _ => ?_
    rw [sm_swap n (n / q)]
    exact sm_congr fun t _ => e1 e t
  rw [e2]
  refine sm_congr fun k hk => ?_
  obtain ⟨a, b, c⟩ := c1 k hk
  rw [sm_one a fun e he hne => sm_zeros fun t ht => if_neg fun h => hne (by rw [← h]; exact (c2 e t he ht).1.symm)]
  rw [sm_one b fun t ht hne => if_neg fun h => hne (by have := (c2 _ t a ht).2.1; rw [h] at this; exact this.symm)]
  rw [if_pos c]
/-- The polynomial of n/q has the q-th power as a root. -/
theorem Pq.up (s j : Nat) : sm (fi (n / q) + 1) (fun i => (phiF (n / q)).getD i 0 * rr (phiF n) (q * i + s) j) = 0 := by
  have hl := P.monm.len
  have h0 : ∀ j, sm (fi (n / q) + 1) (fun i => (phiF (n / q)).getD i 0 * rr (phiF n) (q * i) j) = 0 := fun j => by
    have := zeroT_val P.mon P.k23.1 j
    have hne : phiF (n / q) ≠ [] := fun e => by rw [e] at hl; simp at hl
    rw [val, spread_sum q (by have := P.q2; omega) _ hne (fun k => rr (phiF n) k j), hl] at this
    exact this
  exact rel_shift P.h1 P.h2 h0 s j
/-- The powers of a root add up to 0. -/
theorem Pq.geo (s j : Nat) : sm q (fun e => rr (phiF n) (n / q * e + s) j) = 0 := by
  have hq := P.q2
  have h0 : ∀ j, sm q (fun e => 1 * rr (phiF n) (n / q * e) j) = 0 := fun j => by
    have := zeroT_val P.mon P.k23.2 j
    have hne : List.replicate q (1 : Int) ≠ [] := by
      obtain ⟨t, rfl⟩ : ∃ t, q = t + 1 := ⟨q - 1, by omega⟩
      simp [List.replicate_succ]
    rw [geo_eq, val, spread_sum (n / q) P.m1 _ hne (fun k => rr (phiF n) k j), List.length_replicate] at this
    refine Eq.trans ?_ this
    exact sm_congr fun e he => by rw [List.getD_eq_getElem?_getD, List.getElem?_replicate, if_pos he]; rfl
  refine Eq.trans ?_ (rel_shift P.h1 P.h2 h0 s j)
  exact sm_congr fun e _ => by rw [Int.one_mul]

/-! parts -/
theorem Pq.lin (s j t : Nat) : rr (phiF n) (q * t + s) j = sm (fi (n / q)) (fun i => rr (phiF (n / q)) t i * rr (phiF n) (q * i + s) j) := by
  have hf : Rec (phiF (n / q)) (fi (n / q)) (fun t => rr (phiF n) (q * t + s) j) := fun u => by
    refine Eq.trans ?_ (P.up (q * u + s) j)
    exact sm_congr fun i _ => by show _ * rr (phiF n) (q * (u + i) + s) j = _; rw [show q * (u + i) + s = q * i + (q * u + s) by rw [Nat.mul_add]; omega]
  have := rec_lin P.monm hf t 0
  exact this
theorem Pq.parts (c : Nat → Int) (j : Nat) : val (phiF n) n c j = sm q (fun e => sm (fi (n / q)) (fun i => vp n q e c i * rr (phiF n) (q * i + gq n q * e) j)) := by
  rw [val, P.sum]
  refine sm_congr fun e _ => ?_
  have e1 : sm (n / q) (fun t => c ((q * t + gq n q * e) % n) * rr (phiF n) ((q * t + gq n q * e) % n) j) = sm (n / q) (fun t => sm (fi (n / q)) (fun i => part n q e c t * rr (phiF (n / q)) t i * rr (phiF n) (q * i + gq n q * e) j)) := sm_congr fun t _ => by
    rw [rr_mod P.h1 P.h2, P.lin, ← sm_mul]
    exact sm_congr fun i _ => by rw [part, Int.mul_assoc]
  rw [e1, sm_swap]
  exact sm_congr fun i _ => by rw [sm_mulr]; rfl

/-- With a prime's square: the polynomial is one in x^q. -/
theorem Pq.five (hz : n / q % q = 0) (k : Nat) : (phiF n).getD k 0 = if k % q = 0 then (phiF (n / q)).getD (k / q) 0 else 0 := by
  have h := P.k45
  rw [show (n / q % q == 0) = true by simp [hz], cond_true, k5, decide_eq_true_eq] at h
  rw [h, spread_at q (by have := P.q2; omega)]
/-- Otherwise: the polynomial's parts are all the same. -/
theorem Pq.four (hz : n / q % q ≠ 0) {e : Nat} (he : e < q) (s j : Nat) : sm (n / q) (fun t => (phiF n).getD ((q * t + n / q * e) % n) 0 * rr (phiF (n / q)) (t + s) j) = sm (n / q) (fun t => (phiF n).getD ((q * t + n / q * 1) % n) 0 * rr (phiF (n / q)) (t + s) j) := by
  have h := P.k45
  rw [show (n / q % q == 0) = false by simp [hz], cond_false, k4] at h
  have := List.all_eq_true.1 h e (List.mem_range.2 he)
  have hl : ∀ e, (piL n q e).length = n / q := fun e => by rw [piL, List.length_map, List.length_range]
  have ha : ∀ e t, t < n / q → (piL n q e).getD t 0 = (phiF n).getD ((q * t + n / q * e) % n) 0 := fun e t ht => by
    rw [piL, List.getD_eq_getElem?_getD, List.getElem?_map, List.getElem?_range ht]; rfl
  have h0 : ∀ j, sm (n / q) (fun t => ((phiF n).getD ((q * t + n / q * e) % n) 0 - (phiF n).getD ((q * t + n / q * 1) % n) 0) * rr (phiF (n / q)) t j) = 0 := fun j => by
    have := zeroT_val P.monm this j
    rw [val, subL_len _ _ (by rw [hl, hl]), hl] at this
    refine Eq.trans ?_ this
    exact sm_congr fun t ht => by rw [subL_at _ _ _ (by rw [hl, hl]), ha e t ht, ha 1 t ht]
  have := rel_shift (g := fun t => t) P.m1 P.m2 h0 s j
  have e2 : sm (n / q) (fun t => ((phiF n).getD ((q * t + n / q * e) % n) 0 - (phiF n).getD ((q * t + n / q * 1) % n) 0) * rr (phiF (n / q)) (t + s) j) = sm (n / q) (fun t => (phiF n).getD ((q * t + n / q * e) % n) 0 * rr (phiF (n / q)) (t + s) j) - sm (n / q) (fun t => (phiF n).getD ((q * t + n / q * 1) % n) 0 * rr (phiF (n / q)) (t + s) j) := by
    rw [← sm_sub]; exact sm_congr fun t _ => Int.sub_mul ..
  rw [e2] at this; omega
end
end
end Go.Proofs.Ythfabknpogbcaaa
/- The parts of a number depend on the number alone; a number with n/q is one with n. -/
namespace Go.Proofs.Ythfabknpogbcaaa
open Go Go.Ay
set_option maxRecDepth 100000
noncomputable section

theorem fi_lt_all : (List.range 121).all (fun n => n == 0 || n == 1 || Nat.ble ((lens 120).getD n 0) n) = true := by decide +kernel
theorem fi_lt {n : Nat} (h1 : 2 ≤ n) (h2 : n ≤ 120) : fi n < n := by
  have h := List.all_eq_true.1 fi_lt_all n (List.mem_range.2 (by omega))
  have a : (n == 0) = false := by simp; omega
  have b : (n == 1) = false := by simp; omega
  rw [a, b, Bool.false_or, Bool.false_or, lens_eq 120 n (by omega) h2] at h
  have := Nat.le_of_ble_eq_true h
  have := phi_len (n := n) (by omega) h2
  unfold fi; omega

/-- What the power k gives to the part e. -/
def pF (n q e j k : Nat) : Int := if eOf n q k = e then rr (phiF (n / q)) (tOf n q k) j else 0
/-- Coefficients spread. -/
def wid (q : Nat) (c : Nat → Int) (k : Nat) : Int := if k % q = 0 then c (k / q) else 0
/-- A number with n/q, written with n. -/
def upv (n q : Nat) (w : Nat → Int) (j : Nat) : Int := sm (fi (n / q)) (fun i => w i * rr (phiF n) (q * i) j)
/-- The coefficients of a number with n/q, if it is one. -/
def pc (n q : Nat) (c : Nat → Int) (t : Nat) : Int := part n q 0 c t - (if n / q % q = 0 then 0 else part n q 1 c t)

section
variable {n q : Nat} (P : Pq n q)
include P
theorem Pq.n2 : 2 ≤ n := by
  have := P.m1
  have := P.mlt
  omega
theorem Pq.vp_sum {e : Nat} (he : e < q) (c : Nat → Int) (j : Nat) : vp n q e c j = sm n (fun k => c k * pF n q e j k) := by
  obtain ⟨c1, c2⟩ := P.crt
  rw [P.sum (fun k => c k * pF n q e j k), sm_one he fun e' he' hne => sm_zeros fun t ht => by rw [pF, (c2 e' t he' ht).1, if_neg hne, Int.mul_zero]]
  exact sm_congr fun t ht => by rw [pF, (c2 e t he ht).1, if_pos rfl, (c2 e t he ht).2.1, part]
theorem Pq.pF_z (hz : n / q % q = 0) (e j : Nat) : Rec (phiF n) (fi n) (pF n q e j) := fun s => by
  have h5 : phiF n = spread q (phiF (n / q)) := by
    have h := P.k45
    rw [show (n / q % q == 0) = true by simp [hz], cond_true, k5, decide_eq_true_eq] at h
    exact h
  have hq := P.q2
  have hne : phiF (n / q) ≠ [] := fun e => by have := P.monm.len; rw [e] at this; simp at this
  have hs := spread_sum q (by omega) (phiF (n / q)) hne (fun i => pF n q e j (s + i))
  rw [← h5, P.mon.len, P.monm.len] at hs
  rw [hs]
  have e1 : ∀ i, pF n q e j (s + q * i) = if s % q = e then rr (phiF (n / q)) (s / q + i) j else 0 := fun i => by
    rw [pF, eOf, if_pos hz, tOf, if_pos hz, Nat.add_mul_mod_self_left, Nat.add_mul_div_left _ _ (by omega)]
  by_cases h : s % q = e
  · refine Eq.trans ?_ (rr_rec P.monm (s / q) j)
    exact sm_congr fun i _ => by rw [e1, if_pos h]
  · exact sm_zeros fun i _ => by rw [e1, if_neg h, Int.mul_zero]
theorem Pq.pF_n (hz : n / q % q ≠ 0) {e : Nat} (he : e < q) (j s : Nat) : sm (fi n + 1) (fun i => (phiF n).getD i 0 * pF n q e j (s + i)) = sm (n / q) (fun t => (phiF n).getD ((q * t + n / q * 1) % n) 0 * rr (phiF (n / q)) (t + invF q (n / q) * s) j) := by
  obtain ⟨c1, c2⟩ := P.crt
  have hq := P.q2
  have hlt := fi_lt P.n2 P.h2
  have e0 : sm (fi n + 1) (fun i => (phiF n).getD i 0 * pF n q e j (s + i)) = sm n (fun i => (phiF n).getD i 0 * pF n q e j (s + i)) := by
    refine (sm_more (by omega) fun k h1 h2 => ?_).symm
    rw [List.getD_eq_getElem?_getD, List.getElem?_eq_none (by rw [P.mon.len]; omega)]; exact Int.zero_mul _
  obtain ⟨b, hb⟩ : ∃ b, invF (n / q) q = b := ⟨_, rfl⟩
  obtain ⟨a, ha⟩ : ∃ a, invF q (n / q) = a := ⟨_, rfl⟩
  have hE : ∀ k, eOf n q k = b * k % q := fun k => by rw [eOf, if_neg hz, hb]
  have hT : ∀ k, tOf n q k = a * k % (n / q) := fun k => by rw [tOf, if_neg hz, ha]
  have hg : gq n q = n / q := by rw [gq, if_neg hz]
  rw [e0, P.sum, ha]
  have e1 : ∀ e' t, e' < q → t < n / q → pF n q e j (s + (q * t + gq n q * e') % n) = if (b * s + e') % q = e then rr (phiF (n / q)) (t + a * s) j else 0 := fun e' t he' ht => by
    obtain ⟨x1, x2, _⟩ := c2 e' t he' ht
    rw [hE] at x1
    rw [hT] at x2
    rw [pF, hE, hT, Nat.mul_add, Nat.mul_add, Nat.add_mod (b * s), x1, Nat.add_mod (a * s), x2, Nat.mod_add_mod, Nat.mod_add_mod]
    by_cases h : (b * s + e') % q = e
    · rw [if_pos h, if_pos h, rr_mod P.m1 P.m2, Nat.add_comm]
    · rw [if_neg h, if_neg h]
  have e2 : sm q (fun e' => sm (n / q) (fun t => (phiF n).getD ((q * t + gq n q * e') % n) 0 * pF n q e j (s + (q * t + gq n q * e') % n))) = sm q (fun e' => if (b * s + e') % q = e then sm (n / q) (fun t => (phiF n).getD ((q * t + n / q * 1) % n) 0 * rr (phiF (n / q)) (t + a * s) j) else 0) := sm_congr fun e' he' => by
    by_cases h : (b * s + e') % q = e
    · rw [if_pos h, ← P.four hz he' (a * s) j]
      exact sm_congr fun t ht => by rw [e1 e' t he' ht, if_pos h, hg]
    · rw [if_neg h]
      exact sm_zeros fun t ht => by rw [e1 e' t he' ht, if_neg h, Int.mul_zero]
  rw [e2]
  have hbs : b * s % q < q := Nat.mod_lt _ (by omega)
  have hx : ∀ e', e' < q → ((b * s + e') % q = e ↔ e' = (e + (q - b * s % q)) % q) := fun e' he' => by
    have h1 : (b * s + e') % q = (b * s % q + e') % q := by rw [Nat.mod_add_mod]
    rw [h1]
    generalize b * s % q = r at hbs
    by_cases h2 : r + e' < q
    · rw [Nat.mod_eq_of_lt h2]
      by_cases h3 : e + (q - r) < q
      · rw [Nat.mod_eq_of_lt h3]; omega
      · rw [show (e + (q - r)) % q = e + (q - r) - q by rw [Nat.mod_eq_sub_mod (by omega), Nat.mod_eq_of_lt (by omega)]]; omega
    · rw [show (r + e') % q = r + e' - q by rw [Nat.mod_eq_sub_mod (by omega), Nat.mod_eq_of_lt (by omega)]]
      by_cases h3 : e + (q - r) < q
      · rw [Nat.mod_eq_of_lt h3]; omega
      · rw [show (e + (q - r)) % q = e + (q - r) - q by rw [Nat.mod_eq_sub_mod (by omega), Nat.mod_eq_of_lt (by omega)]]; omega
  have h0 : (e + (q - b * s % q)) % q < q := Nat.mod_lt _ (by omega)
  rw [sm_one h0 fun e' he' hne => if_neg fun h => hne ((hx e' he').1 h), if_pos ((hx _ h0).2 rfl)]
theorem Pq.dF {e : Nat} (he : e < q) (j : Nat) : Rec (phiF n) (fi n) (fun k => pF n q e j k - (if n / q % q = 0 then 0 else pF n q 1 j k)) := fun s => by
  have hq := P.q2
  by_cases hz : n / q % q = 0
  · refine Eq.trans ?_ (P.pF_z hz e j s)
    exact sm_congr fun i _ => by show _ * (_ - _) = _; rw [if_pos hz, Int.sub_zero]
  · have h1 := P.pF_n hz he j s
    have h2 := P.pF_n hz (show 1 < q by omega) j s
    have : sm (fi n + 1) (fun i => (phiF n).getD i 0 * (pF n q e j (s + i) - (if n / q % q = 0 then 0 else pF n q 1 j (s + i)))) = sm (fi n + 1) (fun i => (phiF n).getD i 0 * pF n q e j (s + i)) - sm (fi n + 1) (fun i => (phiF n).getD i 0 * pF n q 1 j (s + i)) := by
      rw [← sm_sub]; exact sm_congr fun i _ => by rw [if_neg hz, Int.mul_sub]
    show sm (fi n + 1) (fun i => (phiF n).getD i 0 * (pF n q e j (s + i) - (if n / q % q = 0 then 0 else pF n q 1 j (s + i)))) = 0
    rw [this, h1, h2]; omega
theorem Pq.dp_lin {e : Nat} (he : e < q) (c : Nat → Int) (j : Nat) : dp n q e c j = sm (fi n) (fun u => val (phiF n) n c u * (pF n q e j u - (if n / q % q = 0 then 0 else pF n q 1 j u))) := by
  have hq := P.q2
  have h := val_rec P.mon (P.dF he j) n c
  rw [← h, dp, P.vp_sum he]
  by_cases hz : n / q % q = 0
  · rw [if_pos hz, Int.sub_zero]
    exact sm_congr fun k _ => by rw [if_pos hz, Int.sub_zero]
  · rw [if_neg hz, P.vp_sum (show 1 < q by omega), ← sm_sub]
    exact sm_congr fun k _ => by rw [if_neg hz, Int.mul_sub]
/-- The parts depend on the number alone. -/
theorem Pq.wd {e : Nat} (he : e < q) {c c' : Nat → Int} (h : ∀ j, j < fi n → val (phiF n) n c j = val (phiF n) n c' j) (j : Nat) : dp n q e c j = dp n q e c' j := by
  rw [P.dp_lin he, P.dp_lin he]
  exact sm_congr fun u hu => by rw [h u hu]
theorem Pq.val_wid (c : Nat → Int) (j : Nat) : val (phiF n) n (wid q c) j = upv n q (val (phiF (n / q)) (n / q) c) j := by
  have hq := P.q2
  have hd := P.dvd
  have e1 : val (phiF n) n (wid q c) j = sm n (fun k => sm (n / q) (fun t => if q * t = k then c t else 0) * rr (phiF n) k j) := sm_congr fun k hk => by
    congr 1
    rw [wid]
    by_cases hz : k % q = 0
    · have hk2 : q * (k / q) = k := Nat.mul_div_cancel' (Nat.dvd_of_mod_eq_zero hz)
      have hlt : k / q < n / q := Nat.lt_of_mul_lt_mul_left (a := q) (by rw [hk2, hd]; exact hk)
      rw [if_pos hz, sm_one hlt fun t _ hne => if_neg fun h => hne (by rw [← h, Nat.mul_div_cancel_left _ (by omega)]), if_pos hk2]
    · rw [if_neg hz, sm_zeros fun t _ => if_neg fun h => hz (by rw [← h]; exact Nat.mul_mod_right q t)]
  rw [e1, sm_group (fun t => q * t) (fun t ht => by have := Nat.mul_lt_mul_of_pos_left ht (show 0 < q by omega); rw [hd] at this; exact this) c (fun k => rr (phiF n) k j)]
  have e2 : sm (n / q) (fun t => c t * rr (phiF n) (q * t) j) = sm (n / q) (fun t => sm (fi (n / q)) (fun i => c t * rr (phiF (n / q)) t i * rr (phiF n) (q * i) j)) := sm_congr fun t _ => by
    have := P.lin 0 j t
    rw [Nat.add_zero] at this
    rw [this, ← sm_mul]
    exact sm_congr fun i _ => by rw [Nat.add_zero, Int.mul_assoc]
  rw [e2, sm_swap, upv]
  exact sm_congr fun i _ => by rw [sm_mulr]; rfl
theorem Pq.part_wid (c : Nat → Int) {e t : Nat} (he : e < q) (ht : t < n / q) : part n q e (wid q c) t = if e = 0 then c t else 0 := by
  have hq := P.q2
  rw [part, wid]
  by_cases h0 : e = 0
  · have hlt := Nat.mul_lt_mul_of_pos_left ht (show 0 < q by omega)
    rw [P.dvd] at hlt
    rw [if_pos h0, h0, Nat.mul_zero, Nat.add_zero, Nat.mod_eq_of_lt hlt, if_pos (Nat.mul_mod_right q t), Nat.mul_div_cancel_left _ (by omega)]
  · rw [if_neg h0, if_neg ((P.crt.2 e t he ht).2.2 h0)]
theorem Pq.dp_wid (c : Nat → Int) {e : Nat} (he : e < q) (j : Nat) : dp n q e (wid q c) j = if e = 0 then val (phiF (n / q)) (n / q) c j else 0 := by
  have hq := P.q2
  have hv : ∀ e, e < q → vp n q e (wid q c) j = if e = 0 then val (phiF (n / q)) (n / q) c j else 0 := fun e he => by
    by_cases h0 : e = 0
    · rw [if_pos h0]
      exact sm_congr fun t ht => by rw [P.part_wid c he ht, if_pos h0]
    · rw [if_neg h0]
      exact sm_zeros fun t ht => by rw [P.part_wid c he ht, if_neg h0, Int.zero_mul]
  rw [dp, hv e he, hv 1 (by omega), if_neg (show ¬ 1 = 0 by omega)]
  split <;> split <;> simp
/-- A number whose parts are 0 but for the first one is one with n/q. -/
theorem Pq.back {c : Nat → Int} (h : ∀ e, 1 ≤ e → e < q → ∀ j, j < fi (n / q) → dp n q e c j = 0) (j : Nat) : val (phiF n) n c j = upv n q (dp n q 0 c) j := by
  have hq := P.q2
  rw [P.parts]
  obtain ⟨q', hq'⟩ : ∃ q', q = q' + 1 := ⟨q - 1, by omega⟩
  by_cases hz : n / q % q = 0
  · rw [sm_one (t := 0) (by omega) fun e he hne => sm_zeros fun i hi => by
      have := h e (by omega) he i hi
      rw [dp, if_pos hz, Int.sub_zero] at this
      rw [this, Int.zero_mul]]
    exact sm_congr fun i _ => by rw [dp, if_pos hz, Int.sub_zero, Nat.mul_zero, Nat.add_zero]
  · have hg : gq n q = n / q := by rw [gq, if_neg hz]
    have e1 : sm q (fun e => sm (fi (n / q)) (fun i => vp n q e c i * rr (phiF n) (q * i + gq n q * e) j)) = sm q (fun e => sm (fi (n / q)) (fun i => (if e = 0 then vp n q 0 c i - vp n q 1 c i else 0) * rr (phiF n) (q * i) j + vp n q 1 c i * rr (phiF n) (n / q * e + q * i) j)) := sm_congr fun e he => sm_congr fun i hi => by
      by_cases h0 : e = 0
      · rw [if_pos h0, h0, Nat.mul_zero, Nat.mul_zero, Nat.add_zero, Nat.zero_add, Int.sub_mul]; omega
      · have := h e (by omega) he i hi
        rw [dp, if_neg hz] at this
        rw [if_neg h0, Int.zero_mul, Int.zero_add, hg, Nat.add_comm (q * i), show vp n q e c i = vp n q 1 c i by omega]
    rw [e1]
    have e2 : ∀ e, sm (fi (n / q)) (fun i => (if e = 0 then vp n q 0 c i - vp n q 1 c i else 0) * rr (phiF n) (q * i) j + vp n q 1 c i * rr (phiF n) (n / q * e + q * i) j) = (if e = 0 then upv n q (dp n q 0 c) j else 0) + sm (fi (n / q)) (fun i => vp n q 1 c i * rr (phiF n) (n / q * e + q * i) j) := fun e => by
      rw [sm_add]
      congr 1
      by_cases h0 : e = 0
      · rw [if_pos h0]
        exact sm_congr fun i _ => by rw [if_pos h0, dp, if_neg hz]
      · rw [if_neg h0]
        exact sm_zeros fun i _ => by rw [if_neg h0, Int.zero_mul]
    rw [sm_congr fun e _ => e2 e, sm_add, sm_swap q]
    rw [sm_zeros (f := fun i => sm q (fun e => vp n q 1 c i * rr (phiF n) (n / q * e + q * i) j)) fun i _ => by rw [sm_mul, P.geo (q * i) j, Int.mul_zero]]
    rw [sm_one (t := 0) (by omega) fun e _ hne => if_neg hne, if_pos rfl, Int.add_zero]
theorem Pq.val_pc (c : Nat → Int) (j : Nat) : val (phiF (n / q)) (n / q) (pc n q c) j = dp n q 0 c j := by
  have _ := P
  rw [dp]
  by_cases hz : n / q % q = 0
  · rw [if_pos hz, Int.sub_zero]
    exact sm_congr fun t _ => by rw [pc, if_pos hz, Int.sub_zero]
  · rw [if_neg hz, vp, vp, val, val, val, ← sm_sub]
    exact sm_congr fun t _ => by rw [pc, if_neg hz, Int.sub_mul]
theorem Pq.pc_L1 (c : Nat → Int) : sm (n / q) (fun t => ab (pc n q c t)) ≤ sm n (fun k => ab (c k)) := by
  have hq := P.q2
  rw [P.sum (fun k => ab (c k))]
  have hnn : ∀ e, e < q → 0 ≤ sm (n / q) (fun t => ab (c ((q * t + gq n q * e) % n))) := fun e _ => sm_nonneg fun t _ => ab_nonneg _
  obtain ⟨q', hq'⟩ : ∃ q', q = q' + 2 := ⟨q - 2, by omega⟩
  have h1 : sm q (fun e => sm (n / q) (fun t => ab (c ((q * t + gq n q * e) % n)))) = sm 2 (fun e => sm (n / q) (fun t => ab (c ((q * t + gq n q * e) % n)))) + sm q' (fun e => sm (n / q) (fun t => ab (c ((q * t + gq n q * (2 + e)) % n)))) := by
    rw [← sm_app, show 2 + q' = q by omega]
  have h2 : 0 ≤ sm q' (fun e => sm (n / q) (fun t => ab (c ((q * t + gq n q * (2 + e)) % n)))) := sm_nonneg fun e _ => sm_nonneg fun t _ => ab_nonneg _
  have h3 : sm (n / q) (fun t => ab (pc n q c t)) ≤ sm (n / q) (fun t => ab (part n q 0 c t)) + sm (n / q) (fun t => ab (part n q 1 c t)) := by
    rw [← sm_add]
    refine sm_le fun t _ => ?_
    rw [pc]
    split
    · rw [Int.sub_zero]; have := ab_nonneg (part n q 1 c t); omega
    · exact ab_sub _ _
  rw [h1, sm_succ, sm_succ, sm_zero, Int.zero_add]
  simp only [part] at h3
  omega
end
end
end Go.Proofs.Ythfabknpogbcaaa
/- 'lower', exactly: what it answers for the coefficients of a number. -/
namespace Go.Proofs.Ythfabknpogbcaaa
open Go Go.Ay
set_option maxRecDepth 100000
noncomputable section

def vecL (n : Nat) (w : Nat → Int) : List Int := (List.range (fi n)).map w
theorem vecL_len (n : Nat) (w : Nat → Int) : (vecL n w).length = fi n := by rw [vecL, List.length_map, List.length_range]
theorem vecL_at (n : Nat) (w : Nat → Int) (j : Nat) : (vecL n w).getD j 0 = if j < fi n then w j else 0 := by
  rw [List.getD_eq_getElem?_getD]
  by_cases h : j < fi n
  · rw [if_pos h, vecL, List.getElem?_map, List.getElem?_range h]; rfl
  · rw [if_neg h, List.getElem?_eq_none (by rw [vecL_len]; omega)]; rfl
theorem vecL_congr {n : Nat} {w w' : Nat → Int} (h : ∀ j, j < fi n → w j = w' j) : vecL n w = vecL n w' := by
  apply eqD
  · rw [vecL_len, vecL_len]
  · intro j hj
    rw [vecL_len] at hj
    rw [vecL_at, vecL_at, if_pos hj, if_pos hj, h j hj]
theorem vecL_inj {n : Nat} {w w' : Nat → Int} (h : vecL n w = vecL n w') : ∀ j, j < fi n → w j = w' j := fun j hj => by
  have := congrArg (fun l => l.getD j 0) h
  simp only [vecL_at, if_pos hj] at this
  exact this
theorem vecL_in {n : Nat} {w : Nat → Int} (h : ∀ j, j < fi n → -9223372036854775808 ≤ w j ∧ w j < 9223372036854775808) : inR (vecL n w) := fun z hz => by
  obtain ⟨i, hi, rfl⟩ := List.mem_map.1 hz
  exact h i (List.mem_range.1 hi)
/-- The coefficients alone. -/
def cut (n : Nat) (v : Nat → Int) (k : Nat) : Int := if k < fi n then v k else 0
theorem cut_vec (n : Nat) (v : Nat → Int) : (fun k => (vecL n v).getD k 0) = cut n v := by
  funext k; rw [vecL_at]; rfl
theorem val_cut {n : Nat} (h1 : 1 ≤ n) (h2 : n ≤ 120) (v : Nat → Int) {j : Nat} (hj : j < fi n) : val (phiF n) n (cut n v) j = v j := by
  have hf := fi_le h1 h2
  have : val (phiF n) n (cut n v) j = val (phiF n) (fi n) (cut n v) j := sm_more hf.2 fun k h1 _ => by rw [cut, if_neg (by omega), Int.zero_mul]
  rw [this, val_self (mon h1 h2) _ hj, cut, if_pos hj]

/-! 'reduced', exactly -/
theorem redF_cg {n : Nat} (h1 : 1 ≤ n) (h2 : n ≤ 120) (l : List Int) {j : Nat} (hj : j < fi n) : cg ((redF n l).getD j 0) (val (phiF n) l.length (fun k => l.getD k 0) j) := by
  have m := mon h1 h2
  have hpl : 0 < (phiF n).length := by rw [m.len]; omega
  have hb : (phiF n).length - 1 = fi n := rfl
  have hd : (divF l (phiF n)).2 = (divGo (fi n) (phiF n) (l.length - fi n) (List.replicate (l.length - fi n) 0) l).2.take (min (fi n) l.length) := by
    rw [← divS_eq l _ hpl, divS, hb]
  obtain ⟨z1, z2⟩ := divGo_val m (l.length - fi n) (List.replicate (l.length - fi n) 0) l fun k hk => by
    rw [List.getD_eq_getElem?_getD, List.getElem?_eq_none (by omega)]; rfl
  have hlen := (divGo_len (fi n) (phiF n) (l.length - fi n) (List.replicate (l.length - fi n) 0) l).2
  generalize (divGo (fi n) (phiF n) (l.length - fi n) (List.replicate (l.length - fi n) 0) l).2 = s at *
  have e1 : (redF n l).getD j 0 = s.getD j 0 := by
    rw [redF, hd, List.getD_eq_getElem?_getD]
    have hl2 : (s.take (min (fi n) l.length)).length = min (fi n) l.length := by rw [List.length_take]; omega
    by_cases hjl : j < l.length
    · rw [List.getElem?_append_left (by rw [hl2]; omega), List.getElem?_take_of_lt (by omega), List.getD_eq_getElem?_getD]
    · rw [List.getElem?_append_right (by rw [hl2]; omega), List.getElem?_replicate, List.getD_eq_getElem?_getD, List.getElem?_eq_none (l := s) (by omega)]
      split <;> rfl
  have e2 : sm s.length (fun k => s.getD k 0 * rr (phiF n) k j) = s.getD j 0 := by
    by_cases hjl : j < s.length
    · rw [sm_one hjl fun k hk hne => by
        by_cases hkd : k < fi n
        · rw [rr_unit m k hkd j hj, if_neg (Ne.symm hne), Int.mul_zero]
        · rw [z1 k (by omega), Int.zero_mul]]
      rw [rr_unit m j hj j hj, if_pos rfl, Int.mul_one]
    · rw [sm_zeros fun k hk => by rw [rr_unit m k (by omega) j hj, if_neg (by omega), Int.mul_zero]]
      rw [List.getD_eq_getElem?_getD, List.getElem?_eq_none (by omega)]; rfl
  have := z2 j
  rw [e2] at this
  rw [e1]
  exact this
theorem red_exact {n : Nat} (h1 : 1 ≤ n) (h2 : n ≤ 120) {l : List Int} (hl : inR l) (hb : ∀ j, j < fi n → -9223372036854775808 ≤ val (phiF n) l.length (fun k => l.getD k 0) j ∧ val (phiF n) l.length (fun k => l.getD k 0) j < 9223372036854775808) :
    redF n l = vecL n (val (phiF n) l.length (fun k => l.getD k 0)) := by
  apply eqD
  · rw [redF_len, vecL_len]; rfl
  · intro j hj
    rw [redF_len] at hj
    have hj' : j < fi n := hj
    rw [vecL_at, if_pos hj']
    exact cg_eq (redF_cg h1 h2 l hj') ((redF_in n hl).getD j) (hb j hj')
theorem val_bound {n : Nat} (h1 : 1 ≤ n) (h2 : n ≤ 120) (t : Nat) (c : Nat → Int) (j : Nat) : ab (val (phiF n) t c j) ≤ 3 * sm t (fun k => ab (c k)) := by
  refine Int.le_trans (sm_ab _ _) ?_
  rw [← sm_mul]
  refine sm_le fun k _ => ?_
  rw [ab_mul, Int.mul_comm]
  exact Int.mul_le_mul_of_nonneg_right (rr_small h1 h2 k j) (ab_nonneg _)
theorem sm_const_le {n : Nat} {f : Nat → Int} {K : Int} (h : ∀ k, k < n → f k ≤ K) : sm n f ≤ n * K := by
  induction n with
  | zero => simp [sm_zero]
  | succ n ih =>
    have := ih fun k hk => h k (by omega)
    have := h n (by omega)
    rw [sm_succ, show ((n + 1 : Nat) : Int) = (n : Int) + 1 by omega, Int.add_mul, Int.one_mul]; omega

theorem subK_at (u v : List Int) : ∀ k j, j < u.length → (subK u v k).getD j 0 = if j < k then W (u.getD j 0 - v.getD j 0) else u.getD j 0
  | 0, j, _ => by rw [subK, if_neg (by omega)]
  | k + 1, j, hj => by
    rw [subK, getD_set, subK_len]
    by_cases h1 : k = j
    · subst h1
      rw [if_pos rfl, if_pos hj, if_pos (by omega), subK_at u v k k hj, if_neg (by omega)]
    · rw [if_neg h1, subK_at u v k j hj]
      by_cases h2 : j < k
      · rw [if_pos h2, if_pos (by omega)]
      · rw [if_neg h2, if_neg (by omega)]

section
variable {n q : Nat} (P : Pq n q)
include P
/-- The rows, by their elements. -/
theorem Pq.gB_at (hz : n / q % q ≠ 0) {c : List Int} (hc : inR c) (k : Nat) (hk : k ≤ n) : ∀ e t, e < q → t < n / q → ((gB (invF q (n / q)) (invF (n / q) q) q (n / q) c k).getD e []).getD t 0 = if (q * t + n / q * e) % n < k then c.getD ((q * t + n / q * e) % n) 0 else 0 := by
  induction k with
  | zero =>
    intro e t he ht
    rw [if_neg (by omega), gB]
    have : (List.replicate q (List.replicate (n / q) (0 : Int))).getD e [] = List.replicate (n / q) 0 := by
      rw [List.getD_eq_getElem?_getD, List.getElem?_replicate, if_pos he]; rfl
    rw [this, List.getD_eq_getElem?_getD, List.getElem?_replicate, if_pos ht]; rfl
  | succ k IH =>
    intro e t he ht
    obtain ⟨c1, c2⟩ := P.crt
    have hg : gq n q = n / q := by rw [gq, if_neg hz]
    obtain ⟨x1, x2, x3⟩ := c1 k (by omega)
    have y := c2 e t he ht
    rw [hg] at x3 y
    simp only [eOf, tOf, if_neg hz] at x1 x2 x3 y
    have ih := IH (by omega) e t he ht
    clear IH
    have hsh := gB_shape (invF q (n / q)) (invF (n / q) q) q (n / q) c k
    rw [gB, getD_set]
    generalize invF q (n / q) = a at *
    generalize invF (n / q) q = b at *
    by_cases h1 : b * k % q = e
    · rw [if_pos h1, if_pos (by rw [hsh.1]; exact x1), getD_set, hsh.2 _ x1, h1, ih]
      by_cases h2 : a * k % (n / q) = t
      · rw [if_pos h2, if_pos x2]
        rw [h1, h2] at x3
        rw [h2, ih, x3, if_neg (by omega), if_pos (by omega), Int.zero_add]
        exact W_id (hc.getD k)
      · rw [if_neg h2]
        have hne : (q * t + n / q * e) % n ≠ k := fun h => h2 (by have := y.2.1; rw [h] at this; exact this)
        by_cases h3 : (q * t + n / q * e) % n < k
        · rw [if_pos h3, if_pos (by omega)]
        · rw [if_neg h3, if_neg (by omega)]
    · rw [if_neg h1, ih]
      have hne : (q * t + n / q * e) % n ≠ k := fun h => h1 (by have := y.1; rw [h] at this; exact this)
      by_cases h3 : (q * t + n / q * e) % n < k
      · rw [if_pos h3, if_pos (by omega)]
      · rw [if_neg h3, if_neg (by omega)]
/-- With a prime's square, the parts are the coefficients. -/
theorem Pq.dp_cut (hz : n / q % q = 0) (v : Nat → Int) {e j : Nat} (he : e < q) (hj : j < fi (n / q)) : dp n q e (cut n v) j = v (q * j + e) ∧ q * j + e < fi n := by
  have hmul := phi_mulq P.h1 P.h2 P.hq hz
  have hmul' : fi n = fi (n / q) * q := hmul
  have hg : gq n q = 1 := by rw [gq, if_pos hz]
  have hfm := fi_le P.m1 P.m2
  have hd := P.dvd
  have hlt : ∀ t, t < n / q → q * t + e < n := fun t ht => by
    have := Nat.mul_le_mul_left q (show t + 1 ≤ n / q by omega)
    rw [Nat.mul_add, hd] at this; omega
  have hjl : q * j + e < fi n := by
    have := Nat.mul_le_mul_left q (show j + 1 ≤ fi (n / q) by omega)
    rw [Nat.mul_add] at this
    rw [hmul', Nat.mul_comm (fi (n / q))]; omega
  refine ⟨?_, hjl⟩
  rw [dp, if_pos hz, Int.sub_zero, vp]
  have hp : ∀ t, t < n / q → part n q e (cut n v) t = if t < fi (n / q) then v (q * t + e) else 0 := fun t ht => by
    rw [part, hg, Nat.one_mul, Nat.mod_eq_of_lt (hlt t ht), cut]
    by_cases h : t < fi (n / q)
    · have := Nat.mul_le_mul_left q (show t + 1 ≤ fi (n / q) by omega)
      rw [Nat.mul_add] at this
      rw [if_pos h, if_pos (by rw [hmul', Nat.mul_comm (fi (n / q))]; omega)]
    · have := Nat.mul_le_mul_left q (show fi (n / q) ≤ t by omega)
      rw [if_neg h, if_neg (by rw [hmul', Nat.mul_comm (fi (n / q))]; omega)]
  have e1 : val (phiF (n / q)) (n / q) (part n q e (cut n v)) j = val (phiF (n / q)) (n / q) (cut (n / q) (fun t => v (q * t + e))) j := sm_congr fun t ht => by rw [hp t ht]; rfl
  rw [e1, val_cut P.m1 P.m2 _ hj]
theorem Pq.lower_z (hz : n / q % q = 0) (v : Nat → Int) (hb : ∀ j, j < fi n → ab (v j) ≤ 1000000000000) :
    ((∀ e, 1 ≤ e → e < q → ∀ j, j < fi (n / q) → dp n q e (cut n v) j = 0) → lowerF n q (vecL n v) = some (vecL (n / q) (dp n q 0 (cut n v)))) ∧
    ((¬ ∀ e, 1 ≤ e → e < q → ∀ j, j < fi (n / q) → dp n q e (cut n v) j = 0) → lowerF n q (vecL n v) = none) := by
  have hin : inR (vecL n v) := vecL_in fun j hj => by have := ab_le.1 (hb j hj); omega
  have hmul : fi n = fi (n / q) * q := phi_mulq P.h1 P.h2 P.hq hz
  have hq0 : 0 < q := by have := P.q2; omega
  rw [lowA_evS P.h1 P.h2 P.hq hz (vecL_len n v) hin, vecL_len]
  have hkey : (∀ e, 1 ≤ e → e < q → ∀ j, j < fi (n / q) → dp n q e (cut n v) j = 0) ↔ ∀ k, k < fi n → k % q ≠ 0 → (vecL n v).getD k 0 = 0 := by
    constructor
    · intro h k hk hkq
      have hr : k % q < q := Nat.mod_lt _ hq0
      have hkd : k / q < fi (n / q) := (Nat.div_lt_iff_lt_mul hq0).2 (by rw [← hmul]; exact hk)
      have := h (k % q) (by omega) hr (k / q) hkd
      rw [(P.dp_cut hz v hr hkd).1, Nat.div_add_mod] at this
      rw [vecL_at, if_pos hk, this]
    · intro h e he1 he2 j hj
      obtain ⟨a, b⟩ := P.dp_cut hz v he2 hj
      have := h (q * j + e) b (by rw [Nat.mul_add_mod, Nat.mod_eq_of_lt he2]; omega)
      rw [vecL_at, if_pos b] at this
      rw [a, this]
  rw [hkey]
  refine ⟨fun h => ?_, fun h => ?_⟩
  · rw [evS_some hq0 h]
    congr 1
    have hce : (fi n + q - 1) / q = fi (n / q) := by
      have hx : (q - 1) / q = 0 := Nat.div_eq_of_lt (by omega)
      rw [hmul]
      generalize fi (n / q) = M
      rw [show M * q + q - 1 = q * M + (q - 1) by rw [Nat.mul_comm M q]; omega, Nat.mul_add_div hq0, hx, Nat.add_zero]
    rw [hce]
    refine List.map_congr_left fun i hi => ?_
    have hi' := List.mem_range.1 hi
    obtain ⟨a, b⟩ := P.dp_cut hz v hq0 hi'
    rw [a, Nat.add_zero, vecL_at, Nat.mul_comm i q, if_pos (by omega)]
  · refine evS_none ?_
    refine Classical.byContradiction fun hn => h fun k hk hkq => Classical.byContradiction fun hx => hn ⟨k, hk, hkq, hx⟩
theorem Pq.lower_n (hz : n / q % q ≠ 0) (v : Nat → Int) (hb : ∀ j, j < fi n → ab (v j) ≤ 1000000000000) :
    ((∀ e, 1 ≤ e → e < q → ∀ j, j < fi (n / q) → dp n q e (cut n v) j = 0) → lowerF n q (vecL n v) = some (vecL (n / q) (dp n q 0 (cut n v)))) ∧
    ((¬ ∀ e, 1 ≤ e → e < q → ∀ j, j < fi (n / q) → dp n q e (cut n v) j = 0) → lowerF n q (vecL n v) = none) := by
  have hin : inR (vecL n v) := vecL_in fun j hj => by have := ab_le.1 (hb j hj); omega
  have hq := P.q2
  have hm := P.m1
  have hm2 := P.m2
  have hfn := fi_le P.h1 P.h2
  have hg : gq n q = n / q := by rw [gq, if_neg hz]
  have hcb : ∀ k, ab (cut n v k) ≤ 1000000000000 := fun k => by
    rw [cut]; split
    · rename_i h; exact hb k h
    · decide
  have hsh := gB_shape (invF q (n / q)) (invF (n / q) q) q (n / q) (vecL n v) (vecL n v).length
  have hat := P.gB_at hz hin (vecL n v).length (by rw [vecL_len]; exact hfn.2)
  have hlow : lowerF n q (vecL n v) = lowB ((gB (invF q (n / q)) (invF (n / q) q) q (n / q) (vecL n v) (vecL n v).length).map (redF (n / q))) := by
    simp only [lowerF]
    rw [if_neg hz]
  rw [hlow]
  have hib := gB_in (invF q (n / q)) (invF (n / q) q) q (n / q) (vecL n v) (vecL n v).length
  generalize gB (invF q (n / q)) (invF (n / q) q) q (n / q) (vecL n v) (vecL n v).length = rows at *
  have hrow : ∀ e, e < q → ∀ t, t < n / q → (rows.getD e []).getD t 0 = part n q e (cut n v) t := fun e he t ht => by
    rw [hat e t he ht, part, hg, ← cut_vec]
    show _ = (vecL n v).getD _ 0
    by_cases h : (q * t + n / q * e) % n < (vecL n v).length
    · rw [if_pos h]
    · rw [if_neg h, List.getD_eq_getElem?_getD, List.getElem?_eq_none (by omega)]; rfl
  have hvp : ∀ e, e < q → val (phiF (n / q)) (rows.getD e []).length (fun k => (rows.getD e []).getD k 0) = vp n q e (cut n v) := fun e he => by
    funext j
    rw [vp, val, val, hsh.2 e he]
    exact sm_congr fun t ht => by rw [hrow e he t ht]
  have hvb : ∀ e, e < q → ∀ j, ab (vp n q e (cut n v) j) ≤ 360000000000000 := fun e he j => by
    refine Int.le_trans (val_bound P.m1 P.m2 _ _ _) ?_
    have := sm_const_le (n := n / q) (f := fun t => ab (part n q e (cut n v) t)) (K := 1000000000000) fun t _ => hcb _
    have h3 : ((n / q : Nat) : Int) * 1000000000000 ≤ 120 * 1000000000000 := Int.mul_le_mul_of_nonneg_right (by omega) (by omega)
    omega
  have hred : ∀ e, e < q → redF (n / q) (rows.getD e []) = vecL (n / q) (vp n q e (cut n v)) := fun e he => by
    rw [red_exact P.m1 P.m2 (rows_in hib e) (fun j _ => by
      rw [hvp e he]
      have := ab_le.1 (hvb e he j)
      omega), hvp e he]
  have hreds : ∀ e, e < q → (rows.map (redF (n / q))).getD e [] = vecL (n / q) (vp n q e (cut n v)) := fun e he => by
    rw [← hred e he, List.getD_eq_getElem?_getD, List.getElem?_map, List.getD_eq_getElem?_getD, List.getElem?_eq_getElem (by rw [hsh.1]; exact he)]; rfl
  have hrl : (rows.map (redF (n / q))).length = q := by rw [List.length_map, hsh.1]
  generalize rows.map (redF (n / q)) = reds at *
  have hkey : (reds.drop 1).all (fun r => decide (r = reds.getD 1 [])) = true ↔ ∀ e, 1 ≤ e → e < q → ∀ j, j < fi (n / q) → dp n q e (cut n v) j = 0 := by
    rw [List.all_eq_true]
    constructor
    · intro h e he1 he2 j hj
      have := h (reds.getD e []) (by
        rw [List.mem_iff_getElem]
        exact ⟨e - 1, by rw [List.length_drop]; omega, by rw [List.getElem_drop, List.getD_eq_getElem?_getD, List.getElem?_eq_getElem (by omega), Option.getD_some]; congr 1; omega⟩)
      have := of_decide_eq_true this
      rw [hreds e he2, hreds 1 (by omega)] at this
      rw [dp, if_neg hz, vecL_inj this j hj]; omega
    · intro h x hx
      rw [List.mem_iff_getElem] at hx
      obtain ⟨i, hi, rfl⟩ := hx
      rw [List.length_drop] at hi
      rw [List.getElem_drop]
      have e1 : reds[1 + i]'(by omega) = reds.getD (1 + i) [] := by rw [List.getD_eq_getElem?_getD, List.getElem?_eq_getElem (by omega)]; rfl
      rw [e1, hreds _ (by omega), hreds 1 (by omega)]
      refine decide_eq_true (vecL_congr fun j hj => ?_)
      have := h (1 + i) (by omega) (by omega) j hj
      rw [dp, if_neg hz] at this; omega
  refine ⟨fun h => ?_, fun h => ?_⟩
  · rw [lowB, if_pos (hkey.2 h)]
    congr 1
    rw [hreds 0 (by omega), hreds 1 (by omega)]
    apply eqD
    · rw [subK_len, vecL_len, vecL_len]
    · intro j hj
      rw [subK_len, vecL_len] at hj
      rw [subK_at _ _ _ _ (by rw [vecL_len]; exact hj), vecL_len, if_pos hj, vecL_at, vecL_at, vecL_at, if_pos hj, if_pos hj, if_pos hj, dp, if_neg hz]
      have a := ab_le.1 (hvb 0 (by omega) j)
      have b := ab_le.1 (hvb 1 (by omega) j)
      exact W_id (by omega)
  · rw [lowB, if_neg (fun hh => h (hkey.1 hh))]
/-- 'lower', for a number that is written as a sum of powers. -/
theorem Pq.lower (c : Nat → Int) (hb : sm n (fun k => ab (c k)) ≤ 100000000000) :
    ((∀ e, 1 ≤ e → e < q → ∀ j, j < fi (n / q) → dp n q e c j = 0) → lowerF n q (vecL n (val (phiF n) n c)) = some (vecL (n / q) (val (phiF (n / q)) (n / q) (pc n q c)))) ∧
    ((¬ ∀ e, 1 ≤ e → e < q → ∀ j, j < fi (n / q) → dp n q e c j = 0) → lowerF n q (vecL n (val (phiF n) n c)) = none) := by
  have hq := P.q2
  have hvb : ∀ j, j < fi n → ab (val (phiF n) n c j) ≤ 1000000000000 := fun j _ => Int.le_trans (val_bound P.h1 P.h2 _ _ _) (by omega)
  have hdp : ∀ e, e < q → ∀ j, dp n q e (cut n (val (phiF n) n c)) j = dp n q e c j := fun e he j => P.wd he (fun j hj => val_cut P.h1 P.h2 _ hj) j
  have h : ((∀ e, 1 ≤ e → e < q → ∀ j, j < fi (n / q) → dp n q e (cut n (val (phiF n) n c)) j = 0) → lowerF n q (vecL n (val (phiF n) n c)) = some (vecL (n / q) (dp n q 0 (cut n (val (phiF n) n c))))) ∧
    ((¬ ∀ e, 1 ≤ e → e < q → ∀ j, j < fi (n / q) → dp n q e (cut n (val (phiF n) n c)) j = 0) → lowerF n q (vecL n (val (phiF n) n c)) = none) := by
    by_cases hz : n / q % q = 0
    · exact P.lower_z hz _ hvb
    · exact P.lower_n hz _ hvb
  have hiff : (∀ e, 1 ≤ e → e < q → ∀ j, j < fi (n / q) → dp n q e (cut n (val (phiF n) n c)) j = 0) ↔ ∀ e, 1 ≤ e → e < q → ∀ j, j < fi (n / q) → dp n q e c j = 0 :=
    ⟨fun h e h1 h2 j hj => by rw [← hdp e h2 j]; exact h e h1 h2 j hj, fun h e h1 h2 j hj => by rw [hdp e h2 j]; exact h e h1 h2 j hj⟩
  refine ⟨fun hh => ?_, fun hh => h.2 (fun x => hh (hiff.1 x))⟩
  rw [h.1 (hiff.2 hh)]
  congr 1
  exact vecL_congr fun j _ => by rw [hdp 0 (by omega), P.val_pc]
end
end
end Go.Proofs.Ythfabknpogbcaaa
/- The canonical form depends on the number alone. -/
namespace Go.Proofs.Ythfabknpogbcaaa
open Go Go.Ay
set_option maxRecDepth 100000
noncomputable section

def L1 (n : Nat) (c : Nat → Int) : Int := sm n (fun k => ab (c k))
/-- The coefficients of a sum of powers. -/
def VV (n : Nat) (c : Nat → Int) : List Int := vecL n (val (phiF n) n c)
theorem wid_one (c : Nat → Int) : wid 1 c = c := by
  funext k; rw [wid, if_pos (Nat.mod_one k), Nat.div_one]
theorem wid_wid {q r : Nat} (hq : 0 < q) (c : Nat → Int) : wid q (wid r c) = wid (q * r) c := by
  funext k
  simp only [wid]
  by_cases h1 : k % q = 0
  · rw [if_pos h1]
    obtain ⟨t, rfl⟩ := Nat.dvd_of_mod_eq_zero h1
    rw [Nat.mul_div_cancel_left _ hq, Nat.mul_mod_mul_left, Nat.mul_div_mul_left _ _ hq]
    by_cases h2 : t % r = 0
    · rw [if_pos h2, h2, Nat.mul_zero, if_pos rfl]
    · rw [if_neg h2, if_neg]
      intro h
      rcases Nat.mul_eq_zero.1 h with h | h
      · omega
      · exact h2 h
  · rw [if_neg h1, if_neg]
    intro h
    have := Nat.mod_mul_right_mod k q r
    rw [h, Nat.zero_mod] at this
    exact h1 this.symm
theorem L1_wid {n q : Nat} (P : Pq n q) (c : Nat → Int) : L1 n (wid q c) = L1 (n / q) c := by
  have hq := P.q2
  rw [L1, P.sum (fun k => ab (wid q c k))]
  rw [sm_one (t := 0) (by omega) fun e he hne => sm_zeros fun t ht => by
    have := P.part_wid c he ht
    rw [part, if_neg hne] at this
    rw [this]; rfl]
  exact sm_congr fun t ht => by
    have := P.part_wid c (show 0 < q by omega) ht
    rw [part, if_pos rfl] at this
    rw [this]
theorem wid_L1 {n q : Nat} (P : Pq n q) (c : Nat → Int) : VV (n / q) (pc n q (wid q c)) = VV (n / q) c := by
  have hq := P.q2
  refine vecL_congr fun j _ => ?_
  rw [P.val_pc, P.dp_wid c (by omega), if_pos rfl]
theorem lower_wid {n q : Nat} (P : Pq n q) (c : Nat → Int) (hb : L1 (n / q) c ≤ 100000000000) : lowerF n q (VV n (wid q c)) = some (VV (n / q) c) := by
  have hq := P.q2
  have h := (P.lower (wid q c) (by have := L1_wid P c; rw [L1] at this; rw [this]; exact hb)).1 fun e h1 h2 j _ => by
    rw [P.dp_wid c h2, if_neg (by omega)]
  rw [← wid_L1 P c]
  exact h
theorem lower_back {n q : Nat} (P : Pq n q) {c : Nat → Int} {d : List Int} (hb : L1 n c ≤ 100000000000) (h : lowerF n q (VV n c) = some d) :
    d = VV (n / q) (pc n q c) ∧ (∀ j, val (phiF n) n c j = val (phiF n) n (wid q (pc n q c)) j) ∧ L1 (n / q) (pc n q c) ≤ L1 n c := by
  obtain ⟨a, b⟩ := P.lower c hb
  have hc : ∀ e, 1 ≤ e → e < q → ∀ j, j < fi (n / q) → dp n q e c j = 0 := Classical.byContradiction fun hn => by
    have := b hn
    rw [VV] at h
    rw [h] at this
    cases this
  have h1 := a hc
  rw [VV] at h
  rw [h] at h1
  refine ⟨Option.some.inj h1, fun j => ?_, P.pc_L1 c⟩
  rw [P.back hc j, P.val_wid]
  exact sm_congr fun i _ => by rw [P.val_pc]

/-! two primes -/
def twoB (n : Nat) : Bool := (prOf n).all fun p => (prOf n).all fun q => p == q || (Nat.gcd q p == 1 && (prOf (n / q)).contains p && ((n / p % p == 0) == (n / q / p % p == 0)) && n / p / q == n / q / p)
theorem two_all : (List.range 121).all twoB = true := by decide +kernel
theorem two {n p q : Nat} (hp : Pq n p) (hq : Pq n q) (hne : p ≠ q) : Nat.gcd q p = 1 ∧ p ∈ prOf (n / q) ∧ (n / p % p = 0 ↔ n / q / p % p = 0) ∧ n / p / q = n / q / p := by
  have h := List.all_eq_true.1 two_all n (List.mem_range.2 (by have := hp.h2; omega))
  have h := List.all_eq_true.1 (List.all_eq_true.1 h p hp.hq) q hq.hq
  have hb : (p == q) = false := by simp [hne]
  rw [hb, Bool.false_or] at h
  simp only [Bool.and_eq_true, beq_iff_eq] at h
  obtain ⟨⟨⟨a, b⟩, c⟩, d⟩ := h
  refine ⟨a, by simpa using b, ?_, d⟩
  by_cases h1 : n / p % p = 0
  · have : (n / p % p == 0) = true := by simp [h1]
    rw [this] at c
    exact ⟨fun _ => by simpa using c.symm, fun _ => h1⟩
  · have : (n / p % p == 0) = false := by simp [h1]
    rw [this] at c
    exact ⟨fun h => absurd h h1, fun h => by simp [h] at c⟩
/-- To take out one prime and then another. -/
theorem pc_wid {n p q : Nat} (hp : Pq n p) (hq : Pq n q) (hne : p ≠ q) (d : Nat → Int) {t : Nat} (ht : t < n / p) : pc n p (wid q d) t = wid q (pc (n / q) p d) t := by
  obtain ⟨hg, hm, hz, _⟩ := two hp hq hne
  have hp2 := hp.q2
  have hq2 := hq.q2
  have hdp := hp.dvd
  have hdq := hq.dvd
  have P' : Pq (n / q) p := ⟨hq.m1, hq.m2, hm⟩
  have hd' := P'.dvd
  have hdiv : ∀ k, q ∣ p * k → q ∣ k := fun k h => Nat.Coprime.dvd_of_dvd_mul_left hg h
  have hpt : p * t < n := by
    have := Nat.mul_lt_mul_of_pos_left ht (show 0 < p by omega)
    rw [hdp] at this; exact this
  have hnp : n / p = q * (n / q / p) := by
    have : p * (n / p) = p * (q * (n / q / p)) := by rw [hdp, Nat.mul_left_comm, hd', hdq]
    exact Nat.eq_of_mul_eq_mul_left (by omega) this
  have key : ∀ x, q * x % n = q * (x % (n / q)) := fun x => by
    have := Nat.mul_mod_mul_left q x (n / q)
    rw [hdq] at this
    exact this
  by_cases htq : t % q = 0
  · obtain ⟨t', rfl⟩ := Nat.dvd_of_mod_eq_zero htq
    have e0 : part n p 0 (wid q d) (q * t') = part (n / q) p 0 d t' := by
      rw [part, part, Nat.mul_zero, Nat.mul_zero, Nat.add_zero, Nat.add_zero, wid]
      have : p * (q * t') % n = q * (p * t' % (n / q)) := by
        rw [Nat.mul_left_comm, key]
      rw [this, if_pos (Nat.mul_mod_right _ _), Nat.mul_div_cancel_left _ (by omega)]
    rw [wid, if_pos htq, Nat.mul_div_cancel_left _ (by omega), pc, pc, e0]
    congr 1
    by_cases h : n / p % p = 0
    · rw [if_pos h, if_pos (hz.1 h)]
    · rw [if_neg h, if_neg (fun h' => h (hz.2 h'))]
      have g1 : gq n p = n / p := by rw [gq, if_neg h]
      have g2 : gq (n / q) p = n / q / p := by rw [gq, if_neg (fun h' => h (hz.2 h'))]
      rw [part, part, g1, g2, Nat.mul_one, Nat.mul_one, wid]
      have : (p * (q * t') + n / p) % n = q * ((p * t' + n / q / p) % (n / q)) := by
        rw [hnp, Nat.mul_left_comm, ← Nat.mul_add, key]
      rw [this, if_pos (Nat.mul_mod_right _ _), Nat.mul_div_cancel_left _ (by omega)]
  · have hqn : q ∣ n := ⟨n / q, hdq.symm⟩
    have e0 : part n p 0 (wid q d) t = 0 := by
      rw [part, Nat.mul_zero, Nat.add_zero, Nat.mod_eq_of_lt hpt, wid, if_neg]
      exact fun h => htq (Nat.mod_eq_zero_of_dvd (hdiv t (Nat.dvd_of_mod_eq_zero h)))
    rw [wid, if_neg htq, pc, e0]
    split
    · rfl
    · rename_i h
      have g1 : gq n p = n / p := by rw [gq, if_neg h]
      rw [part, g1, Nat.mul_one, wid, if_neg]
      · rfl
      · intro h2
        have h3 : q ∣ (p * t + n / p) % n := Nat.dvd_of_mod_eq_zero h2
        have h4 : q ∣ p * t + n / p := (Nat.dvd_mod_iff hqn).1 h3
        have h5 : q ∣ n / p := ⟨n / q / p, hnp⟩
        exact htq (Nat.mod_eq_zero_of_dvd (hdiv t ((Nat.dvd_add_left h5).1 h4)))
theorem VV_congr {n : Nat} {c c' : Nat → Int} (h : ∀ j, j < fi n → val (phiF n) n c j = val (phiF n) n c' j) : VV n c = VV n c' := vecL_congr h
theorem VV_inj {n : Nat} {c c' : Nat → Int} (h : VV n c = VV n c') : ∀ j, j < fi n → val (phiF n) n c j = val (phiF n) n c' j := vecL_inj h
/-- A number that can be written with n/q has the canonical form of what is written with n/q. -/
theorem least_wid : ∀ (n q : Nat) (d : Nat → Int), Pq n q → L1 (n / q) d ≤ 100000000000 → leastF n (VV n (wid q d)) = leastF (n / q) (VV (n / q) d) := by
  intro n
  induction n using Nat.strongRecOn with
  | ind n ih =>
  intro q d P hb
  have hlow := lower_wid P d hb
  have hbn : L1 n (wid q d) ≤ 100000000000 := by rw [L1_wid P d]; exact hb
  cases hs : stepF n (VV n (wid q d)) with
  | none =>
    exfalso
    simp only [stepF] at hs
    have := List.findSome?_eq_none_iff.1 hs q P.hq
    rw [hlow] at this
    cases this
  | some r =>
    obtain ⟨p, w⟩ := r
    obtain ⟨hp, hw⟩ := stepF_spec hs
    have Pp : Pq n p := ⟨P.h1, P.h2, hp⟩
    rw [leastF_step P.h1 P.h2 hs]
    by_cases hpq : p = q
    · subst hpq
      rw [hlow] at hw
      cases hw
      rfl
    obtain ⟨h1, h2, h3⟩ := lower_back Pp hbn hw
    subst h1
    obtain ⟨hg, hm, hz, hdd⟩ := two Pp P hpq
    obtain ⟨_, hm', _, _⟩ := two P Pp (Ne.symm hpq)
    have P1 : Pq (n / q) p := ⟨P.m1, P.m2, hm⟩
    have P2 : Pq (n / p) q := ⟨Pp.m1, Pp.m2, hm'⟩
    have hc3 : L1 (n / q / p) (pc (n / q) p d) ≤ 100000000000 := Int.le_trans (P1.pc_L1 d) hb
    -- what is left when p is taken out of what was written with n/q
    have e1 : VV (n / p) (pc n p (wid q d)) = VV (n / p) (wid q (pc (n / q) p d)) := VV_congr fun j _ => sm_congr fun t ht => by rw [pc_wid Pp P hpq d ht]
    have e2 : ∀ j, val (phiF n) n (wid q d) j = val (phiF n) n (wid q (wid p (pc (n / q) p d))) j := fun j => by
      rw [h2 j]
      have : val (phiF n) n (wid p (pc n p (wid q d))) j = val (phiF n) n (wid p (wid q (pc (n / q) p d))) j := by
        rw [Pp.val_wid, Pp.val_wid]
        refine sm_congr fun i hi => ?_
        rw [VV_inj e1 i hi]
      rw [this, wid_wid (by have := Pp.q2; omega), wid_wid (by have := P.q2; omega), Nat.mul_comm]
    have e3 : VV (n / q) d = VV (n / q) (wid p (pc (n / q) p d)) := VV_congr fun j _ => by
      have hq2 := P.q2
      have a := P.dp_wid d (show 0 < q by omega) j
      have b := P.dp_wid (wid p (pc (n / q) p d)) (show 0 < q by omega) j
      rw [if_pos rfl] at a b
      rw [← a, ← b]
      exact P.wd (by omega) (fun j _ => e2 j) j
    rw [e1, ih (n / p) Pp.mlt q _ P2 (by rw [hdd]; exact hc3), e3, ih (n / q) P.mlt p _ P1 hc3, hdd]

/-! the canonical form, whole -/
theorem stepF_none {n : Nat} {w : List Int} (h : stepF n w = none) : ∀ q ∈ prOf n, lowerF n q w = none := fun q hq => by
  simp only [stepF] at h
  have := List.findSome?_eq_none_iff.1 h q hq
  simpa using this
structure Canon (n : Nat) (c : Nat → Int) (N : Nat) (c' : Nat → Int) : Prop where
  eq : leastF n (VV n c) = (N, VV N c')
  pos : 1 ≤ N
  dvd : N ∣ n
  le : N ≤ n
  l1 : L1 N c' ≤ L1 n c
  same : ∀ j, val (phiF n) n c j = val (phiF n) n (wid (n / N) c') j
  irr : stepF N (VV N c') = none
theorem canon : ∀ (n : Nat) (c : Nat → Int), 1 ≤ n → n ≤ 120 → L1 n c ≤ 100000000000 → ∃ N c', Canon n c N c' := by
  intro n
  induction n using Nat.strongRecOn with
  | ind n ih =>
  intro c h1 h2 hb
  cases hs : stepF n (VV n c) with
  | none =>
    refine ⟨n, c, leastF_stop h1 hs, h1, Nat.dvd_refl n, Nat.le_refl n, Int.le_refl _, fun j => ?_, hs⟩
    rw [Nat.div_self (by omega), wid_one]
  | some r =>
    obtain ⟨p, w⟩ := r
    obtain ⟨hp, hw⟩ := stepF_spec hs
    have P : Pq n p := ⟨h1, h2, hp⟩
    obtain ⟨e1, e2, e3⟩ := lower_back P hb hw
    subst e1
    obtain ⟨N, c', k⟩ := ih (n / p) P.mlt (pc n p c) P.m1 P.m2 (by omega)
    have hd := P.dvd
    have hp2 := P.q2
    refine ⟨N, c', by rw [leastF_step h1 h2 hs, k.eq], k.pos, Nat.dvd_trans k.dvd ⟨p, by rw [Nat.mul_comm]; exact hd.symm⟩, Nat.le_trans k.le (Nat.le_of_lt P.mlt), Int.le_trans k.l1 e3, fun j => ?_, k.irr⟩
    rw [e2 j, P.val_wid]
    have : ∀ j, upv n p (val (phiF (n / p)) (n / p) (pc n p c)) j = upv n p (val (phiF (n / p)) (n / p) (wid (n / p / N) c')) j := fun j => sm_congr fun i _ => by rw [k.same i]
    rw [this, ← P.val_wid, wid_wid (by omega)]
    have hx : p * (n / p / N) = n / N := by
      obtain ⟨s, hs⟩ := k.dvd
      have hN := k.pos
      rw [hs, Nat.mul_div_cancel_left _ (by omega)]
      have : n = N * (p * s) := by rw [← hd, hs, Nat.mul_left_comm]
      rw [this, Nat.mul_div_cancel_left _ (by omega)]
    rw [hx]
theorem Canon.wid_eq {n : Nat} {c c' : Nat → Int} {N : Nat} (k : Canon n c N c') : n / N * N = n := Nat.div_mul_cancel k.dvd

/-! a factor -/
def facB (n : Nat) : Bool := (List.range (n + 1)).all fun r => Nat.blt r 2 || n % r != 0 || (prOf n).any fun q => r % q == 0
theorem fac_all : (List.range 121).all facB = true := by decide +kernel
theorem fac {n r : Nat} (h1 : 1 ≤ n) (h2 : n ≤ 120) (hr : 2 ≤ r) (hd : r ∣ n) : ∃ q, q ∈ prOf n ∧ q ∣ r := by
  have hle := Nat.le_of_dvd h1 hd
  have h := List.all_eq_true.1 (List.all_eq_true.1 fac_all n (List.mem_range.2 (by omega))) r (List.mem_range.2 (by omega))
  have hb : Nat.blt r 2 = false := by
    cases hh : Nat.blt r 2 with
    | false => rfl
    | true => rw [Nat.blt_eq] at hh; omega
  have hm : (n % r != 0) = false := by rw [Nat.mod_eq_zero_of_dvd hd]; rfl
  rw [hb, hm, Bool.false_or, Bool.false_or, List.any_eq_true] at h
  obtain ⟨q, hq, hz⟩ := h
  exact ⟨q, hq, Nat.dvd_of_mod_eq_zero (by simpa using hz)⟩
theorem least_fac : ∀ (r n : Nat) (c : Nat → Int), 1 ≤ r → 1 ≤ n → n * r ≤ 120 → L1 n c ≤ 100000000000 → leastF (n * r) (VV (n * r) (wid r c)) = leastF n (VV n c) ∧ L1 (n * r) (wid r c) = L1 n c := by
  intro r
  induction r using Nat.strongRecOn with
  | ind r ih =>
  intro n c hr hn hnr hb
  by_cases h1 : r = 1
  · subst h1
    rw [Nat.mul_one, wid_one]; exact ⟨rfl, rfl⟩
  have hnr1 : 1 ≤ n * r := Nat.mul_pos hn hr
  obtain ⟨q, hq, hd⟩ := fac hnr1 hnr (show 2 ≤ r by omega) (Nat.dvd_mul_left r n)
  have P : Pq (n * r) q := ⟨hnr1, hnr, hq⟩
  have hq2 := P.q2
  obtain ⟨s, rfl⟩ := hd
  have hs : 1 ≤ s := by
    rcases Nat.eq_zero_or_pos s with h | h
    · subst h; simp at hr
    · exact h
  have e1 : n * (q * s) / q = n * s := by rw [Nat.mul_left_comm, Nat.mul_div_cancel_left _ (by omega)]
  have hlt : s < q * s := by
    have := Nat.mul_le_mul_right s hq2
    omega
  have hle : n * s ≤ 120 := by rw [← e1]; exact P.m2
  obtain ⟨a, b⟩ := ih s hlt n c hs hn hle hb
  have c1 := least_wid (n * (q * s)) q (wid s c) P (by rw [e1, b]; exact hb)
  have c2 := L1_wid P (wid s c)
  rw [e1, wid_wid (by omega)] at c1 c2
  exact ⟨c1.trans a, c2.trans b⟩
end
end Go.Proofs.Ythfabknpogbcaaa
/- Contracts of the reference: lower. -/
namespace Go.Proofs.Ythfabknpogbcaaa
open Go Go.Ay
set_option maxRecDepth 100000
noncomputable section

/-- What 'lower' of the reference answers. -/
def LowQ (h : H) (r : Option (List Int)) (v : V) (h' : H) : Prop := Fr h h' ∧ ∃ u t, v = .tup [u, t] ∧ (match r with | none => t = .bool false | some d => t = .bool true ∧ SI h' u d ∧ Frs u h.next)

set_option maxHeartbeats 2000000 in
theorem rlower_ok (n q : Nat) (vc : V) (c : List Int) (h : H) (hn1 : 1 ≤ n) (hn2 : n ≤ 120) (hq : q ∈ prOf n) (hc : SI h vc c) (hl : c.length = (phiF n).length - 1) (hr : inR c) :
    Ev T n_ref06_lower [.int .i64 (n : Int), .int .i64 (q : Int), vc] h (LowQ h (lowerF n q c)) := by
  refine Ev_of t_ref06_lower rfl ?_
  have ok := lowOk hn1 hn2 hq
  have hlt := ok.lt
  have hq2 := ok.q2
  have hdvd := ok.dvd
  have hia := ok.ia
  have hib := ok.ib
  have hpl := phi_len hn1 hn2
  have hlA := @lowA_evS n q c hn1 hn2 hq
  have hqn : q ≤ n := Nat.le_of_dvd hn1 ⟨n / q, by rw [Nat.mul_comm]; exact hdvd.symm⟩
  have ed : (n : Int).tdiv (q : Int) = ((n / q : Nat) : Int) := rfl
  obtain ⟨m, hm⟩ : ∃ m, n / q = m := ⟨_, rfl⟩
  rw [hm] at ed hlt hdvd hlA hia hib
  obtain ⟨hm1, hm2⟩ := hlt
  have emq : (m : Int).tmod (q : Int) = ((m % q : Nat) : Int) := tmod_nat ..
  obtain ⟨cid, coff, hcs, hcid, hcc⟩ := hc.open
  simp (disch := first | omega | (simp only [Qn] <;> omega)) only [go_sem, c_ref06_lower, initV_eq, ed, emq]
  refine iteW_dec (fun hz => ?_) (fun hz => ?_)
  · have hz' : m % q = 0 := by omega
    rw [hlA hz' hl hr]
    simp (disch := first | omega | (simp only [Qn] <;> omega)) only [go_sem]
    refine Wp_loop (fun k' vars h3 => ∃ (k : Nat) (u : V) (l : List Int), (∃ g : Nat → V, vars = [g 0, .int .i64 (q : Int), vc, g 3, g 4, g 5, u, .int .i64 (k : Int), g 8, g 9, g 10, g 11, g 12, g 13, g 14, g 15, g 16, g 17, g 18, g 19, g 20, g 21, g 22, g 23, g 24, g 25, g 26, g 27, g 28]) ∧ k ≤ c.length ∧ evS q c k = some l ∧ l.length ≤ k ∧ Own h3 u 1 (ints l) h.next ∧ Fr h h3 ∧ k' = c.length - k) c.length
      ⟨0, .nils, [], ex_junk rfl, Nat.zero_le _, rfl, Nat.le_refl _, Own.nils _ _ _, Fr.refl h, rfl⟩ ?_
    rintro k' vars h3 ⟨k, u, l, ⟨g, rfl⟩, hk, hev, hll, ho, hf3, rfl⟩
    have hn3 := hf3.next
    simp (disch := first | omega | (simp only [Qn] <;> omega)) only [go_sem, hc.lens]
    refine iteW_dec (fun hlt2 => ?_) (fun hge => ?_)
    · have hcc3 := cells_fr hf3 hcid hcc
      have e1 : (k : Int).tmod (q : Int) = ((k % q : Nat) : Int) := tmod_nat ..
      have hstep : evS q c (k + 1) = if k % q = 0 then some (l ++ [c.getD k 0]) else if c.getD k 0 ≠ 0 then none else some l := by rw [evS, hev]; rfl
      simp (disch := first | omega | (simp only [Qn] <;> omega)) only [go_sem, e1]
      refine iteW_dec (fun hy => ?_) (fun hy => ?_)
      · rw [if_pos (by omega)] at hstep
        simp (disch := first | omega | (simp only [Qn] <;> omega)) only [go_sem, hcs.ixa, hcc3, bls_int1]
        obtain ⟨v6, h6, e6, a6⟩ := (ho.fr ((Fr.refl h3).new (.cells false (ints [c.getD k 0])))).app (bytes := 8) (n := l.length) (m := 1) (us := ints [c.getD k 0]) (y := .sl h3.next 0 1 (.kn 1)) (by rw [H.next_new]; omega) (Own.new h3 1 1 0 (ints [c.getD k 0]) rfl (Nat.zero_le _)).sv (by rw [ints_length, Nat.mul_one]) rfl (by omega) (by omega)
        simp (disch := first | omega | (simp only [Qn] <;> omega)) only [go_sem, e6]
        have ho6 := a6.own
        rw [← ints_append] at ho6
        rw [show (k : Int) + 1 = ((k + 1 : Nat) : Int) from by omega]
        exact ⟨c.length - (k + 1), by omega, k + 1, v6, _, ex_junk rfl, by omega, hstep, by rw [List.length_append, List.length_singleton]; omega, ho6, a6.fr h (hf3.new _) (Nat.le_refl _), rfl⟩
      · rw [if_neg (by omega)] at hstep
        simp (disch := first | omega | (simp only [Qn] <;> omega)) only [go_sem, hcs.ixa, hcc3]
        refine iteW_dec (fun hx => ?_) (fun hx => ?_)
        · simp (disch := first | omega | (simp only [Qn] <;> omega)) only [go_sem]
          rw [evS_none ⟨k, by omega, by omega, hx⟩]
          exact ⟨hf3, _, _, rfl, rfl⟩
        · rw [if_neg hx] at hstep
          simp (disch := first | omega | (simp only [Qn] <;> omega)) only [go_sem]
          rw [show (k : Int) + 1 = ((k + 1 : Nat) : Int) from by omega]
          exact ⟨c.length - (k + 1), by omega, k + 1, u, _, ex_junk rfl, by omega, hstep, by omega, ho, hf3, rfl⟩
    · have : k = c.length := by omega
      subst this
      simp (disch := first | omega | (simp only [Qn] <;> omega)) only [go_sem]
      rw [hev]
      exact ⟨hf3, _, _, rfl, rfl, ho.sv, Frs.own ho⟩
  · have hz' : m % q ≠ 0 := by omega
    obtain ⟨x0, hx0⟩ := hia hz'
    obtain ⟨y0, hy0⟩ := hib hz'
    obtain ⟨fx1, fx2, fx3⟩ := first_some hx0
    obtain ⟨fy1, fy2, fy3⟩ := first_some hy0
    have hinva : invF q m = x0 := by rw [invF, hx0]; rfl
    have hinvb : invF m q = y0 := by rw [invF, hy0]; rfl
    have hlB : lowerF n q c = lowB ((gB x0 y0 q m c c.length).map (redF m)) := by
      simp only [lowerF, hm]
      rw [if_neg hz', hinva, hinvb]
    rw [hlB]
    clear hlB hlA hia hib
    simp (disch := first | omega | (simp only [Qn] <;> omega)) only [go_sem]
    -- the inverse of q
    refine Wp_loop (fun k' vars h3 => ∃ (x : Nat), (∃ g : Nat → V, vars = [.int .i64 (n : Int), .int .i64 (q : Int), vc, g 3, g 4, .int .i64 (m : Int), g 6, g 7, .int .i64 (x : Int), .int .i64 0, g 10, g 11, g 12, g 13, g 14, g 15, g 16, g 17, g 18, g 19, g 20, g 21, g 22, g 23, g 24, g 25, g 26, g 27, g 28]) ∧ x ≤ x0 ∧ Fr h h3 ∧ k' = x0 - x) x0
      ⟨0, ex_junk rfl, Nat.zero_le _, Fr.refl h, rfl⟩ ?_
    rintro k' vars h3 ⟨x, ⟨g, rfl⟩, hxl, hf3, rfl⟩
    have hxq : x * q ≤ 121 * 120 := Nat.mul_le_mul (by omega) (by omega)
    have e4 : (x : Int) * (q : Int) = ((x * q : Nat) : Int) := (Int.natCast_mul ..).symm
    have e5 : ((x * q : Nat) : Int).tmod (m : Int) = ((x * q % m : Nat) : Int) := tmod_nat ..
    have e6 : (1 : Int).tmod (m : Int) = ((1 % m : Nat) : Int) := tmod_nat 1 m
    have hxc : (x * q % m = 1 % m) ↔ x = x0 := by
      refine ⟨fun he => ?_, fun he => ?_⟩
      · refine Classical.byContradiction fun hne => ?_
        have := fx3 x (by omega)
        rw [Nat.mul_comm] at he
        simp [he] at this
      · subst he
        have := fx2
        rw [Nat.mul_comm] at this
        simpa using this
    generalize x * q = xq at *
    simp (disch := first | omega | (simp only [Qn] <;> omega)) only [go_sem, e4, e5, e6]
    refine iteW_dec (fun hne => ?_) (fun heq => ?_)
    · have : x ≠ x0 := fun he => by have := hxc.2 he; omega
      simp (disch := first | omega | (simp only [Qn] <;> omega)) only [go_sem]
      rw [show (x : Int) + 1 = ((x + 1 : Nat) : Int) from by omega]
      exact ⟨x0 - (x + 1), by omega, x + 1, ex_junk rfl, by omega, hf3.bump (by omega), rfl⟩
    have hxe : x = x0 := hxc.1 (by omega)
    subst hxe
    clear heq hxc e4 e5 e6
    simp (disch := first | omega | (simp only [Qn] <;> omega)) only [go_sem]
    -- the inverse of m
    refine Wp_loop (fun k' vars h4 => ∃ (y : Nat), (∃ g : Nat → V, vars = [.int .i64 (n : Int), .int .i64 (q : Int), vc, g 3, g 4, .int .i64 (m : Int), g 6, g 7, .int .i64 (x : Int), .int .i64 (y : Int), g 10, g 11, g 12, g 13, g 14, g 15, g 16, g 17, g 18, g 19, g 20, g 21, g 22, g 23, g 24, g 25, g 26, g 27, g 28]) ∧ y ≤ y0 ∧ Fr h h4 ∧ k' = y0 - y) y0
      ⟨0, ex_junk rfl, Nat.zero_le _, hf3.bump (by omega), rfl⟩ ?_
    clear hf3
    rintro k' vars h4 ⟨y, ⟨g, rfl⟩, hyl, hf4, rfl⟩
    have hym : y * m ≤ 121 * 120 := Nat.mul_le_mul (by omega) (by omega)
    have e4 : (y : Int) * (m : Int) = ((y * m : Nat) : Int) := (Int.natCast_mul ..).symm
    have e5 : ((y * m : Nat) : Int).tmod (q : Int) = ((y * m % q : Nat) : Int) := tmod_nat ..
    have h1q : 1 % q = 1 := Nat.mod_eq_of_lt (by omega)
    have hyc : (y * m % q = 1) ↔ y = y0 := by
      refine ⟨fun he => ?_, fun he => ?_⟩
      · refine Classical.byContradiction fun hne => ?_
        have := fy3 y (by omega)
        rw [Nat.mul_comm] at he
        simp [he, h1q] at this
      · subst he
        have := fy2
        rw [Nat.mul_comm] at this
        simpa [h1q] using this
    generalize y * m = ym at *
    simp (disch := first | omega | (simp only [Qn] <;> omega)) only [go_sem, e4, e5]
    refine iteW_dec (fun hne => ?_) (fun heq => ?_)
    · have : y ≠ y0 := fun he => by have := hyc.2 he; omega
      simp (disch := first | omega | (simp only [Qn] <;> omega)) only [go_sem]
      rw [show (y : Int) + 1 = ((y + 1 : Nat) : Int) from by omega]
      exact ⟨y0 - (y + 1), by omega, y + 1, ex_junk rfl, by omega, hf4, rfl⟩
    have hye : y = y0 := hyc.1 (by omega)
    subst hye
    clear heq hyc e4 e5
    simp (disch := first | omega | (simp only [Qn] <;> omega)) only [go_sem, Int.toNat_natCast, zeros_one]
    obtain ⟨P, hP⟩ : ∃ P, h4.next = P := ⟨_, rfl⟩
    have hhP : h.next ≤ P := by rw [← hP]; exact hf4.next
    rw [hP]
    -- the rows
    refine Wp_loop (fun k' vars h5 => ∃ (k : Nat), (∃ g : Nat → V, vars = [.int .i64 (n : Int), .int .i64 (q : Int), vc, g 3, g 4, .int .i64 (m : Int), g 6, g 7, .int .i64 (x : Int), .int .i64 (y : Int), .sl P 0 q (.kn q), .int .i64 (k : Int), g 12, g 13, g 14, g 15, g 16, g 17, g 18, g 19, g 20, g 21, g 22, g 23, g 24, g 25, g 26, g 27, g 28]) ∧ k ≤ q ∧
      h5.get P = some (.cells false ((List.range k).map (fun e => V.sl (P + 1 + e) 0 m (.kn m)) ++ List.replicate (q - k) V.nils)) ∧ (∀ e, e < k → h5.get (P + 1 + e) = some (.cells false (ints (List.replicate m 0)))) ∧ h5.next = P + 1 + k ∧ Fr h h5 ∧ k' = q - k) q
      ⟨0, ex_junk rfl, Nat.zero_le _, by rw [← hP, H.get_new_same]; rfl, fun e he => by omega, by rw [H.next_new, hP], hf4.new _, rfl⟩ ?_
    rintro k' vars h5 ⟨k, ⟨g, rfl⟩, hk, hg, hrr, hnx, hf5, rfl⟩
    simp (disch := first | omega | (simp only [Qn] <;> omega)) only [go_sem]
    refine iteW_dec (fun hkq => ?_) (fun hkq => ?_)
    · have hlen : k < ((List.range k).map (fun e => V.sl (P + 1 + e) 0 m (.kn m)) ++ List.replicate (q - k) V.nils).length := by
        rw [List.length_append, List.length_map, List.length_range, List.length_replicate]; omega
      simp (disch := first | omega | (simp only [Qn] <;> omega)) only [go_sem, hg, Int.toNat_natCast, hnx]
      rw [show (k : Int) + 1 = ((k + 1 : Nat) : Int) from by omega]
      refine ⟨q - (k + 1), by omega, k + 1, ex_junk rfl, by omega, by rw [parts_step P m q k (by omega)], fun e he => ?_, by omega, (hf5.new _).set (by omega) _, rfl⟩
      by_cases hek : e = k
      · rw [hek, ← hnx, H.get_new_same]
      · rw [H.get_new_ne _ (by omega)]; exact hrr e (by omega)
    have : q = k := by omega
    subst this
    have hgrid : Grid h5 P m (gB x y q m c 0) := by
      have hlen : (gB x y q m c 0).length = q := List.length_replicate
      have hrow : ∀ e, e < q → (gB x y q m c 0).getD e [] = List.replicate m 0 := fun e he => by
        rw [gB, List.getD_eq_getElem?_getD, List.getElem?_replicate, if_pos he]; rfl
      refine ⟨?_, fun e he => ?_, fun e he => ?_, ?_⟩
      · rw [hg, hlen, Nat.sub_self, List.replicate_zero, List.append_nil]
      · rw [hlen] at he; rw [hrow e he]; exact hrr e he
      · rw [hlen] at he; rw [hrow e he]; exact List.length_replicate
      · rw [hlen]; omega
    clear hg hrr hkq hk
    simp (disch := first | omega | (simp only [Qn] <;> omega)) only [go_sem]
    -- the coefficients
    refine Wp_loop (fun k' vars h6 => ∃ (k : Nat), (∃ g : Nat → V, vars = [.int .i64 (n : Int), .int .i64 (q : Int), vc, g 3, g 4, .int .i64 (m : Int), g 6, g 7, .int .i64 (x : Int), .int .i64 (y : Int), .sl P 0 q (.kn q), g 11, .int .i64 (k : Int), g 13, g 14, g 15, g 16, g 17, g 18, g 19, g 20, g 21, g 22, g 23, g 24, g 25, g 26, g 27, g 28]) ∧ k ≤ c.length ∧
      Grid h6 P m (gB x y q m c k) ∧ Fr h h6 ∧ k' = c.length - k) c.length
      ⟨0, ex_junk rfl, Nat.zero_le _, hgrid, hf5, rfl⟩ ?_
    rintro k' vars h6 ⟨k, ⟨g, rfl⟩, hk, hg6, hf6, rfl⟩
    have hsh := gB_shape x y q m c k
    simp (disch := first | omega | (simp only [Qn] <;> omega)) only [go_sem, hc.lens]
    refine iteW_dec (fun hkc => ?_) (fun hkc => ?_)
    · have hcc6 := cells_fr hf6 hcid hcc
      have h5 : y * k % q < q := Nat.mod_lt _ (by omega)
      have h6' : x * k % m < m := Nat.mod_lt _ (by omega)
      have hBk : y * k ≤ 121 * 121 := Nat.mul_le_mul (by omega) (by omega)
      have hAk : x * k ≤ 121 * 121 := Nat.mul_le_mul (by omega) (by omega)
      have e4 : (y : Int) * (k : Int) = ((y * k : Nat) : Int) := (Int.natCast_mul ..).symm
      have e5 : (x : Int) * (k : Int) = ((x * k : Nat) : Int) := (Int.natCast_mul ..).symm
      have e2 : ((y * k : Nat) : Int).tmod (q : Int) = ((y * k % q : Nat) : Int) := tmod_nat ..
      have e3 : (((x * k : Nat) : Int) % ((m : Nat) : Int)).toNat = x * k % m := by omega
      have hstep : gB x y q m c (k + 1) = (gB x y q m c k).set (y * k % q) (((gB x y q m c k).getD (y * k % q) []).set (x * k % m) (W (((gB x y q m c k).getD (y * k % q) []).getD (x * k % m) 0 + c.getD k 0))) := rfl
      generalize y * k % q = r at h5 e2 hstep
      generalize x * k % m = u at h6' e3 hstep
      generalize y * k = Bk at e2 e4 hBk
      generalize x * k = Ak at e3 e5 hAk
      have hrl := hg6.rl r (by omega)
      simp (disch := first | omega | (simp only [Qn] <;> omega)) only [go_sem, hcs.ixa, hcc6, Int.toNat_natCast, e2, e4, e5, hg6.cell (e := r) (by omega)]
      obtain ⟨row, hrow⟩ : ∃ row, (gB x y q m c k).getD r [] = row := ⟨_, rfl⟩
      have hgr := hg6.rg r (by omega)
      rw [hrow] at hrl hgr hstep
      have hadd := radd_ok (P + 1 + r) (.kn m) row (Ak : Int) (c.getD k 0) (H.mk h6.tr (h6.next + 16)) hgr (by omega) (by omega)
      rw [hrl] at hadd
      refine hadd.mono ?_
      rintro v7 h7 rfl
      rw [e3]
      simp (disch := first | omega | (simp only [Qn] <;> omega)) only [go_sem]
      rw [show (k : Int) + 1 = ((k + 1 : Nat) : Int) from by omega]
      refine ⟨c.length - (k + 1), by omega, k + 1, ex_junk rfl, by omega, ?_, (hf6.bump (by omega)).set (by omega) _, rfl⟩
      rw [hstep, ← hrow]
      exact (hg6.fr ((Fr.refl h6).bump (by omega))).set (by omega) _
    have : c.length = k := by omega
    subst this
    clear hkc hk
    simp (disch := first | omega | (simp only [Qn] <;> omega)) only [go_sem]
    obtain ⟨rows, hrows⟩ : ∃ rows, gB x y q m c c.length = rows := ⟨_, rfl⟩
    rw [hrows] at hg6 hsh ⊢
    -- the rows, reduced
    refine Wp_loop (fun k' vars h7 => ∃ (k : Nat) (ws : List V), (∃ g : Nat → V, vars = [.int .i64 (n : Int), .int .i64 (q : Int), g 2, g 3, g 4, .int .i64 (m : Int), g 6, g 7, g 8, g 9, .sl P 0 q (.kn q), g 11, g 12, .int .i64 (k : Int), g 14, g 15, g 16, g 17, g 18, g 19, g 20, g 21, g 22, g 23, g 24, g 25, g 26, g 27, g 28]) ∧ k ≤ q ∧
      ws.length = q ∧ h7.get P = some (.cells false ws) ∧ (∀ e, k ≤ e → e < q → ws.getD e .undef = .sl (P + 1 + e) 0 m (.kn m) ∧ h7.get (P + 1 + e) = some (.cells false (ints (rows.getD e [])))) ∧
      (∀ e, e < k → Own h7 (ws.getD e .undef) 1 (ints (redF m (rows.getD e []))) (P + q + 1)) ∧ (∀ e, 1 ≤ e → e < k → Dis (ws.getD 0 .undef) (ws.getD e .undef)) ∧ Fr h h7 ∧ P + q < h7.next ∧ k' = q - k) q
      ⟨0, _, ex_junk rfl, Nat.zero_le _, ?_, hg6.pg, fun e _ he => ⟨?_, hg6.rg e (by omega)⟩, fun e he => by omega, fun e _ he => by omega, hf6, by have := hg6.lt; omega, rfl⟩ ?_
    · rw [List.length_map, List.length_range, hsh.1]
    · rw [List.getD_eq_getElem?_getD, List.getElem?_map, List.getElem?_range (by omega)]; rfl
    clear hg6 hf6
    rintro k' vars h7 ⟨k, ws, ⟨g, rfl⟩, hk, hwl, hwg, hrest, hown, hdis, hf7, hn7, rfl⟩
    simp (disch := first | omega | (simp only [Qn] <;> omega)) only [go_sem]
    refine iteW_dec (fun hkq => ?_) (fun hkq => ?_)
    · obtain ⟨hw1, hw2⟩ := hrest k (Nat.le_refl _) (by omega)
      have hcell : h7.cell P k = some (.sl (P + 1 + k) 0 m (.kn m)) := by
        rw [H.cell_of hwg, List.getElem?_eq_getElem (by omega), ← hw1, List.getD_eq_getElem?_getD, List.getElem?_eq_getElem (by omega)]; rfl
      have hrk := hsh.2 k (by omega)
      have hsi : SI h7 (.sl (P + 1 + k) 0 m (.kn m)) (rows.getD k []) := by
        have := SI.own (h := h7) (id := P + 1 + k) (by omega) hw2 (.kn m)
        rw [hrk] at this; exact this
      simp (disch := first | omega | (simp only [Qn] <;> omega)) only [go_sem, hcell]
      refine (rreduced_ok m _ _ h7 hm1 (by omega) hsi (by omega)).mono ?_
      rintro v5 h8 ⟨ho8, hf8⟩
      have hP8 : h8.get P = some (.cells false ws) := by rw [hf8.get P (by omega)]; exact hwg
      simp (disch := first | omega | (simp only [Qn] <;> omega)) only [go_sem, ho8.sv.st1, hP8, putO_one]
      rw [show (k : Int) + 1 = ((k + 1 : Nat) : Int) from by omega]
      have hPlt : P < P + q + 1 := by omega
      refine ⟨q - (k + 1), by omega, k + 1, ws.set k v5, ex_junk rfl, by omega, by rw [List.length_set, hwl], rfl, fun e he1 he2 => ?_, fun e he => ?_, fun e he1 he2 => ?_, (hf7.trans hf8).set (by omega) _, by have := hf8.next; omega, rfl⟩
      · obtain ⟨r1, r2⟩ := hrest e (by omega) he2
        refine ⟨by rw [getD_set, if_neg (by omega)]; exact r1, ?_⟩
        rw [hf8.get _ (by omega)]; exact r2
      · rw [getD_set]
        by_cases hke : k = e
        · subst hke
          rw [if_pos rfl, if_pos (by omega)]
          exact (ho8.le (by omega)).set hPlt _
        · rw [if_neg hke]
          exact ((hown e (by omega)).fr hf8).set hPlt _
      · have e0 : (ws.set k v5).getD 0 .undef = ws.getD 0 .undef := by rw [getD_set, if_neg (by omega)]
        rw [e0, getD_set]
        by_cases hke : k = e
        · subst hke
          rw [if_pos rfl, if_pos (by omega)]
          exact (hown 0 (by omega)).dis ho8
        · rw [if_neg hke]
          exact hdis e he1 (by omega)
    have : q = k := by omega
    subst this
    clear hkq hk hrest hx0 hy0 hcc hcs hcid
    simp (disch := first | omega | (simp only [Qn] <;> omega)) only [go_sem]
    obtain ⟨reds, hreds⟩ : ∃ reds, rows.map (redF m) = reds := ⟨_, rfl⟩
    have hrl : reds.length = q := by rw [← hreds, List.length_map, hsh.1]
    have hlen : ∀ e, e < q → reds.getD e [] = redF m (rows.getD e []) := fun e he => by
      rw [← hreds, List.getD_eq_getElem?_getD, List.getElem?_map, List.getD_eq_getElem?_getD, List.getElem?_eq_getElem (by rw [hsh.1]; exact he)]; rfl
    have hown' : ∀ e, e < q → Own h7 (ws.getD e .undef) 1 (ints (reds.getD e [])) (P + q + 1) := fun e he => by rw [hlen e he]; exact hown e he
    have hpm := phi_len hm1 (show m ≤ 120 by omega)
    have hL : ∀ e, e < q → (reds.getD e []).length = (phiF m).length - 1 := fun e he => by rw [hlen e he, redF_len]
    rw [hreds]
    clear hown hlen hdvd
    have hcell : ∀ e, e < q → h7.cell P e = some (ws.getD e .undef) := fun e he => by
      rw [H.cell_of hwg, List.getElem?_eq_getElem (by omega), List.getD_eq_getElem?_getD, List.getElem?_eq_getElem (by omega)]; rfl
    -- the rows, compared
    refine Wp_loop (fun k' vars h8 => ∃ (k : Nat), (∃ g : Nat → V, vars = [.int .i64 (n : Int), .int .i64 (q : Int), g 2, g 3, g 4, .int .i64 (m : Int), g 6, g 7, g 8, g 9, .sl P 0 q (.kn q), g 11, g 12, g 13, .int .i64 (k : Int), g 15, g 16, g 17, g 18, g 19, g 20, g 21, g 22, g 23, g 24, g 25, g 26, g 27, g 28]) ∧ 2 ≤ k ∧ k ≤ q ∧
      Fr h7 h8 ∧ (∀ e, 1 ≤ e → e < k → reds.getD e [] = reds.getD 1 []) ∧ k' = q - k) (q - 2)
      ⟨2, ex_junk rfl, by omega, by omega, Fr.refl h7, fun e h1 h2 => by rw [show e = 1 by omega], rfl⟩ ?_
    rintro k' vars h8 ⟨k, ⟨g, rfl⟩, hk2, hk, hf8, hall, rfl⟩
    have hcell8 : ∀ e, e < q → h8.cell P e = some (ws.getD e .undef) := fun e he => by rw [hf8.cell (by omega)]; exact hcell e he
    simp (disch := first | omega | (simp only [Qn] <;> omega)) only [go_sem]
    refine iteW_dec (fun hlt => ?_) (fun hge => ?_)
    · simp (disch := first | omega | (simp only [Qn] <;> omega)) only [go_sem, hcell8]
      have hfb : Fr h7 (H.mk h8.tr (h8.next + 9)) := hf8.bump (by omega)
      refine (same_ok _ _ _ _ (H.mk h8.tr (h8.next + 9)) ((hown' k (by omega)).fr hfb).sv ((hown' 1 (by omega)).fr hfb).sv (by rw [hL _ (by omega)]; omega) (by rw [hL _ (by omega)]; omega)).mono ?_
      rintro v1 h9 ⟨rfl, hf9⟩
      simp (disch := first | omega | (simp only [Qn] <;> omega)) only [go_sem]
      refine iteW_dec (fun heq => ?_) (fun hne => ?_)
      · simp (disch := first | omega | (simp only [Qn] <;> omega)) only [go_sem]
        rw [show (k : Int) + 1 = ((k + 1 : Nat) : Int) from by omega]
        refine ⟨q - (k + 1), by omega, k + 1, ex_junk rfl, by omega, by omega, hfb.trans hf9, fun e h1 h2 => ?_, rfl⟩
        by_cases hek : e = k
        · rw [hek]; exact heq
        · exact hall e h1 (by omega)
      · simp (disch := first | omega | (simp only [Qn] <;> omega)) only [go_sem]
        have hnone : lowB reds = none := by
          rw [lowB, if_neg]
          rw [List.all_eq_true]
          intro hx
          have := hx (reds.getD k []) (by
            rw [List.mem_iff_getElem]
            exact ⟨k - 1, by rw [List.length_drop]; omega, by rw [List.getElem_drop, List.getD_eq_getElem?_getD, List.getElem?_eq_getElem (by omega), Option.getD_some]; congr 1; omega⟩)
          exact hne (of_decide_eq_true this)
        rw [hnone]
        exact ⟨hf7.trans (hfb.trans hf9), _, _, rfl, rfl⟩
    have hsome : lowB reds = some (subK (reds.getD 0 []) (reds.getD 1 []) (reds.getD 1 []).length) := by
      rw [lowB, if_pos]
      rw [List.all_eq_true]
      intro x hx
      rw [List.mem_iff_getElem] at hx
      obtain ⟨i, hi, rfl⟩ := hx
      rw [List.length_drop] at hi
      rw [List.getElem_drop]
      have := hall (1 + i) (by omega) (by omega)
      rw [List.getD_eq_getElem?_getD, List.getElem?_eq_getElem (by omega), Option.getD_some] at this
      rw [this]
      exact decide_eq_true rfl
    rw [hsome]
    have ho0 := (hown' 0 (by omega)).fr hf8
    have ho1 := (hown' 1 (by omega)).fr hf8
    have hd01 := hdis 1 (Nat.le_refl _) (by omega)
    have hL0 := hL 0 (by omega)
    have hL1 := hL 1 (by omega)
    simp (disch := first | omega | (simp only [Qn] <;> omega)) only [go_sem, hcell8]
    obtain ⟨id1, off1, hs1, hid1, hc1⟩ := SI.open (h := h8) ho1.sv
    generalize reds.getD 0 [] = R0 at *
    generalize reds.getD 1 [] = R1 at *
    rcases ho0 with ⟨_, h0⟩ | ⟨id0, n0, cap0, rest0, hw0, hn0, hcap0, hid0, hid0', hg0⟩
    · have : (ints R0).length = 0 := by rw [h0]; rfl
      rw [ints_length] at this; omega
    rw [ints_length, Nat.mul_one] at hn0
    have hne01 : id0 ≠ id1 := by
      rcases ho1 with ⟨_, h0⟩ | ⟨id1', n1, cap1, rest1, hw1, hn1', _⟩
      · have : (ints R1).length = 0 := by rw [h0]; rfl
        rw [ints_length] at this; omega
      · have h1 := hd01 _ _ _ _ hw0 _ _ _ _ hw1
        have h2 := hs1.ixa .i64 0 (by omega) (by omega)
        rw [hw1, ixaV_sl (by omega) (by rw [ints_length] at hn1'; omega)] at h2
        simp only [Option.some.injEq, V.ptr.injEq] at h2
        omega
    have hid1' := hid1 (by omega)
    -- the difference, in place
    have e00 : ws.getD 0 .undef = .sl id0 0 n0 cap0 := hw0
    rw [e00]
    refine Wp_loop (fun k' vars h9 => ∃ (k : Nat), (∃ g : Nat → V, vars = [g 0, g 1, g 2, g 3, g 4, g 5, g 6, g 7, g 8, g 9, .sl P 0 q (.kn q), g 11, g 12, g 13, g 14, .sl id0 0 n0 cap0, .int .i64 (k : Int), g 17, g 18, g 19, g 20, g 21, g 22, g 23, g 24, g 25, g 26, g 27, g 28]) ∧ k ≤ R1.length ∧
      h9.get id0 = some (.cells false (ints (subK R0 R1 k) ++ rest0)) ∧ (∀ x, x ≠ id0 → x < h8.next → h9.get x = h8.get x) ∧ h8.next ≤ h9.next ∧ k' = R1.length - k) R1.length
      ⟨0, ex_junk rfl, Nat.zero_le _, hg0, fun _ _ _ => rfl, Nat.le_refl _, rfl⟩ ?_
    rintro k' vars h9 ⟨k2, ⟨g2, rfl⟩, hk2, hg9, hoth, hn9, rfl⟩
    have hc9 : ∀ x off, x ≠ id0 → x < h8.next → h9.cell x off = h8.cell x off := fun x off hx hxl => by unfold H.cell; rw [hoth x hx hxl]
    have hsl := subK_len R0 R1 k2
    have hn78 := hf8.next
    simp (disch := first | omega | (simp only [Qn] <;> omega)) only [go_sem]
    refine iteW_dec (fun hkL => ?_) (fun hkL => ?_)
    · have e1' : h9.cell id1 (off1 + k2) = some (.int .i64 (R1.getD k2 0)) := by rw [hc9 _ _ (Ne.symm hne01) (by omega)]; exact hc1 k2 (by omega)
      have e2 : h9.cell id0 k2 = some (.int .i64 ((subK R0 R1 k2).getD k2 0)) := by
        rw [H.cell_of hg9, List.getElem?_append_left (by rw [ints_length]; omega), ints_getD (by omega)]
      have e3 : h9.cell P 1 = some (ws.getD 1 .undef) := by rw [hc9 P 1 (by omega) (by omega)]; exact hcell8 1 (by omega)
      have hpl2 : k2 < (ints (subK R0 R1 k2) ++ rest0).length := by rw [List.length_append, ints_length]; omega
      simp (disch := first | omega | (simp only [Qn] <;> omega)) only [go_sem, hs1.ixa, e1', e2, e3, hg9]
      rw [show (k2 : Int) + 1 = ((k2 + 1 : Nat) : Int) from by omega]
      refine ⟨R1.length - (k2 + 1), by omega, k2 + 1, ex_junk rfl, by omega, ?_, fun x hx hxl => ?_, by omega, rfl⟩
      · rw [List.set_append_left _ _ (by rw [ints_length]; omega), ints_set]; rfl
      · rw [H.get_set_ne _ hx]; exact hoth x hx hxl
    · have : R1.length = k2 := by omega
      subst this
      simp (disch := first | omega | (simp only [Qn] <;> omega)) only [go_sem]
      have hF9 : Fr h h9 := ⟨by have := hf7.next; omega, fun x hx => by rw [hoth x (by omega) (by have := hf7.next; omega)]; exact (hf7.trans hf8).get x hx⟩
      refine ⟨hF9, _, _, rfl, rfl, ?_, fun id off n c e => by cases e; omega⟩
      refine .inr ⟨id0, 0, n0, cap0, false, _, rfl, by rw [ints_length]; omega, by omega, hg9, by rw [List.length_append, ints_length]; omega, ?_⟩
      rw [List.drop_zero, Nat.mul_one, show n0 = (ints (subK R0 R1 R1.length)).length by rw [ints_length]; omega, List.take_left]
end
end Go.Proofs.Ythfabknpogbcaaa
