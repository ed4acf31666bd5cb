/- What the functions of layer 6 compute, as plain functions of lists. -/
import Derived.Test.YthfabknpogbcaaaC6s0
namespace Go.Proofs.Ythfabknpogbcaaa
open Go Go.Ay
noncomputable section
theorem divR_len (b : List Int) : ∀ (n : Nat) (a : List Int), (n = 0 ∨ b.length + n ≤ a.length) → (divR b n a).1.length = n ∧ (divR b n a).2.length = a.length - n
  | 0, a, _ => ⟨rfl, rfl⟩
  | n + 1, [], h => by simp at h
  | n + 1, x :: a, h => by
    simp only [List.length_cons] at h
    have hz : (zipS x b a).length = a.length := zipS_len x b a (by omega)
    obtain ⟨h1, h2⟩ := divR_len b n (zipS x b a) (by rw [hz]; omega)
    simp only [divR, List.length_cons]
    rw [h1, h2, hz]
    omega
theorem divF_len1 (a b : List Int) : (divF a b).1.length = a.length - (b.length - 1) := by
  simp only [divF, List.length_reverse]
  rw [(divR_len _ _ _ (by simp only [List.length_reverse, List.length_take]; omega)).1]
theorem divF_len2 (a b : List Int) : (divF a b).2.length = min (b.length - 1) a.length := by
  simp only [divF, List.length_reverse]
  rw [(divR_len _ _ _ (by simp only [List.length_reverse, List.length_take]; omega)).2, List.length_reverse]
  omega
/-- The lengths. -/
def lenAux (f : Nat → Nat) (n : Nat) : Nat → Nat
  | 0 => n + 1
  | k + 1 => if n % (k + 1) = 0 then lenAux f n k - (f (k + 1) - 1) else lenAux f n k
theorem phiAux_len (f : Nat → List Int) (n : Nat) : ∀ k, (phiAux f n k).length = lenAux (fun d => (f d).length) n k
  | 0 => by simp [phiAux, lenAux, xn1]
  | k + 1 => by
    rw [phiAux, lenAux]
    split
    · rw [divF_len1, phiAux_len f n k]
    · exact phiAux_len f n k
/-- The lengths up to 120, one after another. -/
def lens : Nat → List Nat
  | 0 => [0]
  | N + 1 => lens N ++ [lenAux (fun d => (lens N).getD d 0) (N + 1) N]
theorem lenAux_congr {f g : Nat → Nat} {n : Nat} : ∀ {k : Nat}, (∀ d, 1 ≤ d → d ≤ k → f d = g d) → lenAux f n k = lenAux g n k
  | 0, _ => rfl
  | k + 1, h => by
    rw [lenAux, lenAux, lenAux_congr (fun d h1 h2 => h d h1 (by omega)), h (k + 1) (by omega) (Nat.le_refl _)]
theorem lens_len : ∀ N, (lens N).length = N + 1
  | 0 => rfl
  | N + 1 => by rw [lens, List.length_append, lens_len N]; rfl
theorem lens_eq : ∀ N d, 1 ≤ d → d ≤ N → (lens N).getD d 0 = (phiF d).length
  | 0, d, h1, h2 => by omega
  | N + 1, d, h1, h2 => by
    rw [lens]
    by_cases hd : d ≤ N
    · rw [← lens_eq N d h1 hd, List.getD_eq_getElem?_getD, List.getElem?_append_left (by rw [lens_len]; omega), ← List.getD_eq_getElem?_getD]
    · have : d = N + 1 := by omega
      subst this
      rw [List.getD_eq_getElem?_getD, List.getElem?_append_right (by rw [lens_len]; omega), lens_len, Nat.sub_self]
      simp only [List.getElem?_cons_zero, Option.getD_some]
      rw [phiF_eq (N + 1) (by omega), phiAux_len]
      exact lenAux_congr fun d h1 h2 => lens_eq N d h1 h2
theorem phi_lens : (List.range 121).all (fun d => d == 0 || (decide (2 ≤ (lens 120).getD d 0) && decide ((lens 120).getD d 0 ≤ d + 1))) = true := by decide +kernel
theorem phi_len {n : Nat} (h1 : 1 ≤ n) (h2 : n ≤ 120) : 2 ≤ (phiF n).length ∧ (phiF n).length ≤ n + 1 := by
  have h := List.all_eq_true.1 phi_lens n (List.mem_range.2 (by omega))
  rw [lens_eq 120 n h1 h2] at h
  have h0 : (n == 0) = false := by simp; omega
  simpa [h0] using h

def redF (n : Nat) (c : List Int) : List Int := (divF c (phiF n)).2 ++ List.replicate ((phiF n).length - 1 - (divF c (phiF n)).2.length) 0
theorem redF_len (n : Nat) (c : List Int) : (redF n c).length = (phiF n).length - 1 := by
  simp only [redF, List.length_append, List.length_replicate, divF_len2]; omega
/-- The first number that a test lets by, below a bound. -/
def firstF (P : Nat → Bool) (n : Nat) : Option Nat := (List.range n).find? P
def invF (a m : Nat) : Nat := (firstF (fun x => a * x % m == 1 % m) (m + 1)).getD 0
theorem first_some {P : Nat → Bool} {n x : Nat} (h : firstF P n = some x) : x < n ∧ P x = true ∧ ∀ y, y < x → P y = false := by
  unfold firstF at h
  have h1 := List.find?_some h
  obtain ⟨h2, as, bs, h3, h4⟩ := List.find?_eq_some_iff_append.1 h
  have hl : as.length = x ∧ x < n := by
    have e : (List.range n)[as.length]? = some x := by rw [h3]; simp
    rw [List.getElem?_eq_some_iff] at e
    obtain ⟨h5, h6⟩ := e
    simp at h5 h6
    omega
  refine ⟨hl.2, h1, fun y hy => ?_⟩
  have hm : y ∈ as := by
    have e : (List.range n)[y]? = some y := by rw [List.getElem?_range (by omega)]
    rw [h3, List.getElem?_append_left (by omega)] at e
    exact List.mem_of_getElem? e
  have := h4 y hm
  simpa using this

/-! with n/q in place of n -/
def gA (q m : Nat) (c : List Int) : Nat → List (List Int)
  | 0 => List.replicate q (List.replicate m 0)
  | k + 1 => (gA q m c k).set (k % q) (((gA q m c k).getD (k % q) []).set (k / q) (c.getD k 0))
def gB (a b q m : Nat) (c : List Int) : Nat → List (List Int)
  | 0 => List.replicate q (List.replicate m 0)
  | k + 1 => (gB a b q m c k).set (b * k % q) (((gB a b q m c k).getD (b * k % q) []).set (a * k % m) (W (((gB a b q m c k).getD (b * k % q) []).getD (a * k % m) 0 + c.getD k 0)))
def subK (u v : List Int) : Nat → List Int
  | 0 => u
  | k + 1 => (subK u v k).set k (W ((subK u v k).getD k 0 - v.getD k 0))
theorem subK_len (u v : List Int) : ∀ k, (subK u v k).length = u.length
  | 0 => rfl
  | k + 1 => by rw [subK, List.length_set, subK_len u v k]
def nz (x : Int) : Bool := decide (x ≠ 0)
def lowA (q m : Nat) (rows : List (List Int)) : Option (List Int) := if (rows.drop 1).any (fun r => r.any nz) then none else some (redF m (rows.getD 0 []))
def lowB (reds : List (List Int)) : Option (List Int) := if (reds.drop 1).all (fun r => decide (r = reds.getD 1 [])) then some (subK (reds.getD 0 []) (reds.getD 1 []) (reds.getD 1 []).length) else none
def lowerF (n q : Nat) (c : List Int) : Option (List Int) :=
  let m := n / q
  if m % q = 0 then lowA q m (gA q m c c.length) else lowB ((gB (invF q m) (invF m q) q m c c.length).map (redF m))
theorem gA_shape (q m : Nat) (c : List Int) : ∀ k, (gA q m c k).length = q ∧ ∀ e, e < q → ((gA q m c k).getD e []).length = m
  | 0 => by
    refine ⟨List.length_replicate, fun e he => ?_⟩
    rw [gA, List.getD_eq_getElem?_getD, List.getElem?_replicate, if_pos he]
    exact List.length_replicate
  | k + 1 => by
    obtain ⟨h1, h2⟩ := gA_shape q m c k
    refine ⟨by rw [gA, List.length_set, h1], fun e he => ?_⟩
    rw [gA, List.getD_eq_getElem?_getD, List.getElem?_set]
    split
    · rename_i h3
      rw [if_pos (by rw [h3, h1]; exact he)]
      simp only [Option.getD_some, List.length_set]
      rw [h3]; exact h2 e he
    · rw [← List.getD_eq_getElem?_getD]; exact h2 e he
theorem gB_shape (a b q m : Nat) (c : List Int) : ∀ k, (gB a b q m c k).length = q ∧ ∀ e, e < q → ((gB a b q m c k).getD e []).length = m
  | 0 => by
    refine ⟨List.length_replicate, fun e he => ?_⟩
    rw [gB, List.getD_eq_getElem?_getD, List.getElem?_replicate, if_pos he]
    exact List.length_replicate
  | k + 1 => by
    obtain ⟨h1, h2⟩ := gB_shape a b q m c k
    refine ⟨by rw [gB, List.length_set, h1], fun e he => ?_⟩
    rw [gB, List.getD_eq_getElem?_getD, List.getElem?_set]
    split
    · rename_i h3
      rw [if_pos (by rw [h3, h1]; exact he)]
      simp only [Option.getD_some, List.length_set]
      rw [h3]; exact h2 e he
    · rw [← List.getD_eq_getElem?_getD]; exact h2 e he

/-! the primes that divide a number; the canonical form -/
def outF : Nat → Nat → Nat → Nat
  | 0, x, _ => x
  | f + 1, x, q => if x % q = 0 then outF f (x / q) q else x
theorem outF_stable {q : Nat} (hq : 2 ≤ q) : ∀ (x f g : Nat), 1 ≤ x → x ≤ f → x ≤ g → outF f x q = outF g x q := by
  intro x
  induction x using Nat.strongRecOn with
  | ind x ih =>
    intro f g h1 hf hg
    obtain ⟨f, rfl⟩ : ∃ f', f = f' + 1 := ⟨f - 1, by omega⟩
    obtain ⟨g, rfl⟩ : ∃ g', g = g' + 1 := ⟨g - 1, by omega⟩
    rw [outF, outF]
    split
    · rename_i hz
      have hlt : x / q < x := Nat.div_lt_self h1 hq
      have hpos : 1 ≤ x / q := by
        rcases Nat.eq_zero_or_pos (x / q) with h0 | h0
        · have := Nat.div_add_mod x q; rw [h0, hz] at this; omega
        · exact h0
      exact ih _ hlt f g hpos (by omega) (by omega)
    · rfl
theorem outF_step {q x : Nat} (hq : 2 ≤ q) (h1 : 1 ≤ x) (hz : x % q = 0) : 1 ≤ x / q ∧ x / q < x ∧ outF (x / q) (x / q) q = outF x x q := by
  have hlt : x / q < x := Nat.div_lt_self h1 hq
  have hpos : 1 ≤ x / q := by
    rcases Nat.eq_zero_or_pos (x / q) with h0 | h0
    · have := Nat.div_add_mod x q; rw [h0, hz] at this; omega
    · exact h0
  refine ⟨hpos, hlt, ?_⟩
  obtain ⟨y, rfl⟩ : ∃ y, x = y + 1 := ⟨x - 1, by omega⟩
  rw [outF, if_pos hz]
  exact outF_stable hq _ _ _ hpos (Nat.le_refl _) (by omega)
theorem outF_stop {q x : Nat} (h1 : 1 ≤ x) (hz : x % q ≠ 0) : outF x x q = x := by
  obtain ⟨y, rfl⟩ : ∃ y, x = y + 1 := ⟨x - 1, by omega⟩
  rw [outF, if_neg hz]
theorem outF_pos {q : Nat} : ∀ (f x : Nat), 1 ≤ x → 1 ≤ outF f x q
  | 0, x, h => h
  | f + 1, x, h => by
    rw [outF]
    split
    · rename_i hz
      by_cases h0 : x / q = 0
      · rw [h0]
        have : x = 0 ∨ q = 0 ∨ x < q := by
          rcases Nat.div_eq_zero_iff.1 h0 with h | h
          · exact .inr (.inl h)
          · exact .inr (.inr h)
        rcases this with h | h | h
        · omega
        · subst h; simp at hz; omega
        · rw [Nat.mod_eq_of_lt h] at hz; omega
      · exact outF_pos f _ (Nat.pos_of_ne_zero h0)
    · exact h
theorem outF_le {q : Nat} : ∀ (f x : Nat), outF f x q ≤ x
  | 0, x => Nat.le_refl _
  | f + 1, x => by
    rw [outF]
    split
    · exact Nat.le_trans (outF_le f _) (Nat.div_le_self x q)
    · exact Nat.le_refl _
def pgF : Nat → Nat → Nat → Option (List Nat)
  | 0, _, _ => none
  | f + 1, x, q => if 1 < x then (if 0 < x % q then pgF f x (q + 1) else (pgF f (outF x x q) (q + 1)).map (q :: ·)) else some []
def prOf (n : Nat) : List Nat := (pgF 125 n 2).getD []
theorem pg_some : (List.range 121).all (fun n => (pgF 125 n 2).isSome) = true := by decide +kernel
theorem prOf_some {n : Nat} (hn : n ≤ 120) : pgF 125 n 2 = some (prOf n) := by
  have h := List.all_eq_true.1 pg_some n (List.mem_range.2 (by omega))
  unfold prOf
  cases h2 : pgF 125 n 2 with
  | none => rw [h2] at h; cases h
  | some l => rfl
/-- The first prime that can be taken out. -/
def stepF (n : Nat) (c : List Int) : Option (Nat × List Int) := (prOf n).findSome? (fun q => (lowerF n q c).map (fun d => (q, d)))
def leastG : Nat → Nat → List Int → Nat × List Int
  | 0, n, c => (n, c)
  | f + 1, n, c => match stepF n c with | some (q, d) => leastG f (n / q) d | none => (n, c)
def leastF (n : Nat) (c : List Int) : Nat × List Int := leastG n n c

def lowOkB (n q : Nat) : Bool := decide (2 ≤ q) && decide (q ≤ n) && (n / q * q == n) && (n / q % q == 0 || ((firstF (fun x => q * x % (n / q) == 1 % (n / q)) (n / q + 1)).isSome && (firstF (fun x => (n / q) * x % q == 1 % q) (q + 1)).isSome))
theorem lowOk_all : (List.range 121).all (fun n => (prOf n).all (lowOkB n)) = true := by decide +kernel
/-- What 'lower' is asked. -/
structure LowOk (n q : Nat) : Prop where
  n1 : 1 ≤ n
  n2 : n ≤ 120
  q2 : 2 ≤ q
  dvd : n / q * q = n
  ia : n / q % q ≠ 0 → ∃ x, firstF (fun x => q * x % (n / q) == 1 % (n / q)) (n / q + 1) = some x
  ib : n / q % q ≠ 0 → ∃ x, firstF (fun x => (n / q) * x % q == 1 % q) (q + 1) = some x
theorem lowOk {n q : Nat} (h1 : 1 ≤ n) (h2 : n ≤ 120) (hq : q ∈ prOf n) : LowOk n q := by
  have h := List.all_eq_true.1 (List.all_eq_true.1 lowOk_all n (List.mem_range.2 (by omega))) q hq
  simp only [lowOkB, Bool.and_eq_true, Bool.or_eq_true, decide_eq_true_eq, beq_iff_eq] at h
  obtain ⟨⟨⟨a1, a2⟩, a3⟩, a4⟩ := h
  refine ⟨h1, h2, a1, a3, fun hz => ?_, fun hz => ?_⟩
  · rcases a4 with a4 | ⟨a4, _⟩
    · exact absurd a4 hz
    · exact Option.isSome_iff_exists.1 a4
  · rcases a4 with a4 | ⟨_, a4⟩
    · exact absurd a4 hz
    · exact Option.isSome_iff_exists.1 a4
theorem LowOk.lt {n q : Nat} (k : LowOk n q) : 1 ≤ n / q ∧ n / q < n := by
  have h1 : n / q < n := Nat.div_lt_self k.n1 k.q2
  refine ⟨?_, h1⟩
  rcases Nat.eq_zero_or_pos (n / q) with h | h
  · have := k.dvd; rw [h] at this; have := k.n1; omega
  · exact h
theorem lowerF_len {n q : Nat} {c d : List Int} (k : LowOk n q) (h : lowerF n q c = some d) : d.length = (phiF (n / q)).length - 1 := by
  simp only [lowerF] at h
  split at h
  · simp only [lowA] at h
    split at h
    · cases h
    · cases h; exact redF_len _ _
  · simp only [lowB] at h
    split at h
    · cases h
      rw [subK_len, List.getD_eq_getElem?_getD, List.getElem?_map]
      have hs := (gB_shape (invF q (n / q)) (invF (n / q) q) q (n / q) c c.length).1
      rw [List.getElem?_eq_getElem (by have := k.q2; omega)]
      exact redF_len _ _
    · cases h
end
end Go.Proofs.Ythfabknpogbcaaa
