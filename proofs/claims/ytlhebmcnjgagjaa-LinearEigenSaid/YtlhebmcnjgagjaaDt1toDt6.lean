/- Determinants of integer matrices: the rows. Determinants of integer matrices: products, columns, the adjugate. Polynomials with integer coefficients; the characteristic polynomial; Cayley and Hamilton. Powers modulo a prime. -/
import Derived.Test.YtlhebmcnjgagjaaSm
/- Determinants of integer matrices: the rows. -/
namespace Go.Ay
abbrev Mx := Nat → Nat → Int
/-- Past a row that is left out. -/
def skp (i r : Nat) : Nat := if r < i then r else r + 1
/-- Where a row stands when another one is left out. -/
def low (i k : Nat) : Nat := if i < k then k - 1 else k
theorem skp_ne (i r : Nat) : skp i r ≠ i := by unfold skp; split <;> omega
theorem skp_lt {n i r : Nat} (h : r < n) : skp i r < n + 1 := by unfold skp; split <;> omega
theorem skp_low {i k r : Nat} (h : i ≠ k) : skp i r = k ↔ r = low i k := by unfold skp low; split <;> split <;> omega
theorem skp_low' {i k : Nat} (h : i ≠ k) : skp i (low i k) = k := (skp_low h).2 rfl
theorem low_lt {n i k : Nat} (h : k < n + 1) (hi : i < n + 1) (hne : i ≠ k) : low i k < n := by unfold low; split <;> omega
theorem low_ne {i k k' : Nat} (h : i ≠ k) (h' : i ≠ k') (hne : k ≠ k') : low i k ≠ low i k' := by unfold low; split <;> split <;> omega
theorem skp_inj {i r r' : Nat} (h : skp i r = skp i r') : r = r' := by unfold skp at h; split at h <;> split at h <;> omega
/-- A sign. -/
def sgn : Nat → Int
  | 0 => 1
  | n + 1 => - sgn n
theorem sgn_succ (n : Nat) : sgn (n + 1) = - sgn n := rfl
theorem sgn_add (n m : Nat) : sgn (n + m) = sgn n * sgn m := by
  induction m with
  | zero => rw [Nat.add_zero]; show sgn n = sgn n * 1; rw [Int.mul_one]
  | succ m ih => rw [← Nat.add_assoc, sgn_succ, sgn_succ, ih, Int.mul_neg]
theorem sgn_sq (n : Nat) : sgn n * sgn n = 1 := by
  induction n with
  | zero => rfl
  | succ n ih => rw [sgn_succ, Int.neg_mul_neg, ih]
theorem sgn_two (n : Nat) : sgn (n + n) = 1 := by rw [sgn_add, sgn_sq]
def del (A : Mx) (i j : Nat) : Mx := fun r c => A (skp i r) (skp j c)
def setR (A : Mx) (k : Nat) (u : Nat → Int) : Mx := fun i j => if i = k then u j else A i j
theorem setR_same (A : Mx) (k : Nat) (u : Nat → Int) (j : Nat) : setR A k u k j = u j := if_pos rfl
theorem setR_ne (A : Mx) {i k : Nat} (u : Nat → Int) (j : Nat) (h : i ≠ k) : setR A k u i j = A i j := if_neg h
theorem setR_comm (A : Mx) {k l : Nat} (u v : Nat → Int) (h : k ≠ l) : setR (setR A k u) l v = setR (setR A l v) k u := by
  funext i j
  simp only [setR]
  by_cases h1 : i = l
  · rw [if_pos h1, if_neg (by omega), if_pos h1]
  · rw [if_neg h1, if_neg h1]
theorem setR_self (A : Mx) (k : Nat) : setR A k (A k) = A := by
  funext i j
  simp only [setR]
  split
  · rename_i h; rw [h]
  · rfl
theorem del_set_same (A : Mx) (k j : Nat) (u : Nat → Int) : del (setR A k u) k j = del A k j := by
  funext r c
  simp only [del]
  rw [setR_ne _ _ _ (skp_ne k r)]
theorem del_set_ne (A : Mx) {i k : Nat} (j : Nat) (u : Nat → Int) (h : i ≠ k) : del (setR A k u) i j = setR (del A i j) (low i k) (fun c => u (skp j c)) := by
  funext r c
  simp only [del, setR]
  by_cases e : r = low i k
  · rw [if_pos e, if_pos ((skp_low h).2 e)]
  · rw [if_neg e, if_neg fun e2 => e ((skp_low h).1 e2)]
/-- Alternating, and linear in each row. -/
structure Alt (n : Nat) (F : Mx → Int) : Prop where
  congr : ∀ A B, (∀ i j, i < n → j < n → A i j = B i j) → F A = F B
  lin : ∀ A k (x : Int) (u v : Nat → Int), k < n → F (setR A k (fun j => x * u j + v j)) = x * F (setR A k u) + F (setR A k v)
  alt : ∀ A i j, i < n → j < n → i ≠ j → (∀ c, c < n → A i c = A j c) → F A = 0
/-- The same, with neighbours alone. -/
structure Adj (n : Nat) (F : Mx → Int) : Prop where
  congr : ∀ A B, (∀ i j, i < n → j < n → A i j = B i j) → F A = F B
  lin : ∀ A k (x : Int) (u v : Nat → Int), k < n → F (setR A k (fun j => x * u j + v j)) = x * F (setR A k u) + F (setR A k v)
  adj : ∀ A k, k + 1 < n → (∀ c, c < n → A k c = A (k + 1) c) → F A = 0
def swp (A : Mx) (i j : Nat) : Mx := setR (setR A i (A j)) j (A i)
theorem swp_left (A : Mx) {i j : Nat} (h : i ≠ j) (c : Nat) : swp A i j i c = A j c := by rw [swp, setR_ne _ _ _ h, setR_same]
theorem swp_right (A : Mx) (i j : Nat) (c : Nat) : swp A i j j c = A i c := by rw [swp, setR_same]
theorem swp_other (A : Mx) {i j k : Nat} (h1 : k ≠ i) (h2 : k ≠ j) (c : Nat) : swp A i j k c = A k c := by rw [swp, setR_ne _ _ _ h2, setR_ne _ _ _ h1]
theorem swap_of {n : Nat} {F : Mx → Int} (lin : ∀ A k (x : Int) (u v : Nat → Int), k < n → F (setR A k (fun j => x * u j + v j)) = x * F (setR A k u) + F (setR A k v)) {i j : Nat} (hi : i < n) (hj : j < n) (hne : i ≠ j)
    (alt : ∀ A, (∀ c, c < n → A i c = A j c) → F A = 0) (A : Mx) : F (swp A i j) = - F A := by
  have z : ∀ w : Nat → Int, F (setR (setR A i w) j w) = 0 := fun w => alt _ fun c _ => by rw [setR_same, setR_ne _ _ _ hne, setR_same]
  have l2 : ∀ w (x : Int) (u v : Nat → Int), F (setR (setR A i w) j (fun c => x * u c + v c)) = x * F (setR (setR A i w) j u) + F (setR (setR A i w) j v) := fun w x u v => lin _ _ _ _ _ hj
  have l1 : ∀ w (x : Int) (u v : Nat → Int), F (setR (setR A i (fun c => x * u c + v c)) j w) = x * F (setR (setR A i u) j w) + F (setR (setR A i v) j w) := fun w x u v => by
    rw [setR_comm _ _ _ hne, setR_comm _ _ _ hne, setR_comm _ _ _ hne]
    exact lin _ _ _ _ _ hi
  have e := z (fun c => 1 * A i c + A j c)
  rw [l1, l2, l2, z, z] at e
  have e2 : setR (setR A i (A i)) j (A j) = A := by rw [setR_self, setR_self]
  rw [e2] at e
  rw [swp]
  omega
theorem Adj.full {n : Nat} {F : Mx → Int} (a : Adj n F) : Alt n F := by
  have key : ∀ d A i, i + d + 1 < n → (∀ c, c < n → A i c = A (i + d + 1) c) → F A = 0 := by
    intro d
    induction d with
    | zero => intro A i h e; exact a.adj A i h e
    | succ d ih =>
      intro A i h e
      have s := swap_of a.lin (i := i + d + 1) (j := i + (d + 1) + 1) (by omega) h (by omega) (fun B hB => a.adj B (i + d + 1) (by omega) hB) A
      rw [ih (swp A (i + d + 1) (i + (d + 1) + 1)) i (by omega) fun c hc => by rw [swp_left _ (by omega), swp_other _ (by omega) (by omega)]; exact e c hc] at s
      omega
  refine ⟨a.congr, a.lin, fun A i j hi hj hne e => ?_⟩
  rcases Nat.lt_or_gt_of_ne hne with h | h
  · obtain ⟨d, rfl⟩ : ∃ d, j = i + d + 1 := ⟨j - i - 1, by omega⟩
    exact key d A i hj e
  · obtain ⟨d, rfl⟩ : ∃ d, i = j + d + 1 := ⟨i - j - 1, by omega⟩
    exact key d A j hi fun c hc => (e c hc).symm
theorem Alt.swap {n : Nat} {F : Mx → Int} (a : Alt n F) {i j : Nat} (hi : i < n) (hj : j < n) (hne : i ≠ j) (A : Mx) : F (swp A i j) = - F A :=
  swap_of a.lin hi hj hne (fun B hB => a.alt B i j hi hj hne hB) A
theorem Alt.zero_row {n : Nat} {F : Mx → Int} (a : Alt n F) (A : Mx) {k : Nat} (hk : k < n) : F (setR A k (fun _ => 0)) = 0 := by
  have := a.lin A k 1 (fun _ => 0) (fun _ => 0) hk
  simp only [Int.mul_zero, Int.add_zero] at this
  omega
theorem Alt.sum {n : Nat} {F : Mx → Int} (a : Alt n F) (A : Mx) {k : Nat} (hk : k < n) (m : Nat) (x : Nat → Int) (u : Nat → Nat → Int) : F (setR A k (fun c => sm m (fun j => x j * u j c))) = sm m (fun j => x j * F (setR A k (u j))) := by
  induction m with
  | zero => exact a.zero_row A hk
  | succ m ih =>
    have := a.lin A k (x m) (u m) (fun c => sm m (fun j => x j * u j c)) hk
    rw [sm_succ, ← ih]
    have e : (fun c => sm (m + 1) (fun j => x j * u j c)) = fun c => x m * u m c + sm m (fun j => x j * u j c) := by
      funext c; rw [sm_succ, Int.add_comm]
    rw [e, this, Int.add_comm]
/-- A multiple of another row. -/
theorem Alt.add_row {n : Nat} {F : Mx → Int} (a : Alt n F) (A : Mx) {i k : Nat} (hi : i < n) (hk : k < n) (hne : i ≠ k) (x : Int) : F (setR A k (fun c => x * A i c + A k c)) = F A := by
  rw [a.lin _ _ _ _ _ hk, setR_self, a.alt (setR A k (A i)) i k hi hk hne fun c _ => by rw [setR_same, setR_ne _ _ _ hne], Int.mul_zero, Int.zero_add]
theorem Alt.mul_row {n : Nat} {F : Mx → Int} (a : Alt n F) (A : Mx) {k : Nat} (hk : k < n) (x : Int) (u : Nat → Int) : F (setR A k (fun c => x * u c)) = x * F (setR A k u) := by
  have := a.lin A k x u (fun _ => 0) hk
  simp only [Int.add_zero] at this
  rw [this, a.zero_row A hk, Int.add_zero]
/-! expansion along a column -/
def det : Nat → Mx → Int
  | 0, _ => 1
  | n + 1, A => sm (n + 1) (fun i => sgn i * A i 0 * det n (del A i 0))
def exc (j n : Nat) (A : Mx) : Int := sm (n + 1) (fun i => sgn (i + j) * A i j * det n (del A i j))
theorem det_succ (n : Nat) (A : Mx) : det (n + 1) A = exc 0 n A := rfl
theorem sm_pair {n a b : Nat} (ha : a < n) (hb : b < n) (hne : a ≠ b) {f : Nat → Int} (h : ∀ k, k < n → k ≠ a → k ≠ b → f k = 0) : sm n f = f a + f b := by
  have e : sm n f = sm n (fun k => (if k = a then f k else 0) + (if k = b then f k else 0)) := sm_congr fun k hk => by
    by_cases h1 : k = a
    · rw [if_pos h1, if_neg (by omega), Int.add_zero]
    · by_cases h2 : k = b
      · rw [if_neg h1, if_pos h2, Int.zero_add]
      · rw [if_neg h1, if_neg h2, h k hk h1 h2]; rfl
  rw [e, sm_add, sm_pick ha, sm_pick hb]
theorem exc_adj {n j : Nat} (hj : j < n + 1) (a : Alt n (det n)) : Adj (n + 1) (exc j n) := by
  refine ⟨fun A B h => sm_congr fun i hi => ?_, fun A k x u v hk => ?_, fun A k hk h => ?_⟩
  · rw [h i j hi hj, a.congr (del A i j) (del B i j) fun r c hr hc => h _ _ (skp_lt hr) (skp_lt hc)]
  · simp only [exc]
    rw [← sm_mul, ← sm_add]
    refine sm_congr fun i hi => ?_
    by_cases e : i = k
    · subst e
      rw [setR_same, setR_same, setR_same, del_set_same, del_set_same, del_set_same]
      grind
    · rw [setR_ne _ _ _ e, setR_ne _ _ _ e, setR_ne _ _ _ e, del_set_ne _ _ _ e, del_set_ne _ _ _ e, del_set_ne _ _ _ e, a.lin _ _ _ _ _ (low_lt hk hi e)]
      grind
  · simp only [exc]
    rw [sm_pair (a := k) (b := k + 1) (by omega) (by omega) (by omega) fun i hi h1 h2 => ?_]
    · have e : det n (del A k j) = det n (del A (k + 1) j) := a.congr _ _ fun r c hr hc => by
        simp only [del]
        by_cases hr2 : r = k
        · subst hr2
          rw [show skp r r = r + 1 by unfold skp; rw [if_neg (by omega)], show skp (r + 1) r = r by unfold skp; rw [if_pos (by omega)]]
          exact (h _ (skp_lt hc)).symm
        · rw [show skp k r = skp (k + 1) r by unfold skp; split <;> split <;> omega]
      rw [e, ← h j hj, show k + 1 + j = k + j + 1 by omega, sgn_succ]
      grind
    · rw [a.alt (del A i j) (low i k) (low i (k + 1)) (low_lt (by omega) hi h1) (low_lt hk hi h2) (low_ne h1 h2 (by omega)) fun c hc => ?_, Int.mul_zero]
      simp only [del]
      rw [skp_low' h1, skp_low' h2]
      exact h _ (skp_lt hc)
theorem det_alt : ∀ n, Alt n (det n)
  | 0 => ⟨fun _ _ _ => rfl, fun _ _ _ _ _ h => absurd h (Nat.not_lt_zero _), fun _ _ _ h => absurd h (Nat.not_lt_zero _)⟩
  | n + 1 => (exc_adj (j := 0) (by omega) (det_alt n)).full
theorem exc_alt {n j : Nat} (hj : j < n + 1) : Alt (n + 1) (exc j n) := (exc_adj hj (det_alt n)).full
def idM : Mx := fun i j => if i = j then 1 else 0
theorem del_id (j : Nat) : del idM j j = idM := by
  funext r c
  simp only [del, idM]
  by_cases e : r = c
  · rw [if_pos e, if_pos (by rw [e])]
  · rw [if_neg e, if_neg fun h => e (skp_inj h)]
theorem det_id : ∀ n, det n idM = 1
  | 0 => rfl
  | n + 1 => by
    rw [det_succ, exc, sm_one (t := 0) (by omega) fun k _ hne => by simp only [idM]; rw [if_neg hne]; simp, del_id, det_id n]
    rfl
theorem exc_id {n j : Nat} (hj : j < n + 1) : exc j n idM = 1 := by
  rw [exc, sm_one (t := j) hj fun k _ hne => by simp only [idM]; rw [if_neg hne]; simp, del_id, det_id n, sgn_two]
  simp [idM]
/-! there is no other -/
theorem onto_of_inj {n : Nat} {s : Nat → Nat} (hs : ∀ i, i < n → s i < n) (hi : ∀ i j, i < n → j < n → s i = s j → i = j) {m : Nat} (hm : m < n) : ∃ i, i < n ∧ s i = m := by
  refine Classical.byContradiction fun hno => ?_
  have one : ∀ v k, k ≤ n → sm k (fun i => if s i = v then (1 : Int) else 0) ≤ 1 := by
    intro v k
    induction k with
    | zero => intro _; rw [sm_zero]; omega
    | succ k ih =>
      intro hk
      rw [sm_succ]
      by_cases e : s k = v
      · rw [if_pos e, sm_zeros fun i hik => if_neg fun e2 => by have := hi i k (by omega) (by omega) (by rw [e2, e]); omega]
        omega
      · rw [if_neg e]; have := ih (by omega); omega
  have tot : sm n (fun v => sm n (fun i => if s i = v then (1 : Int) else 0)) = sm n (fun _ => 1) := by
    rw [sm_swap]
    exact sm_congr fun i hi => sm_pick' (hs i hi) (fun _ => 1)
  have le : sm n (fun v => sm n (fun i => if s i = v then (1 : Int) else 0)) ≤ sm n (fun v => 1 - if v = m then 1 else 0) := sm_le fun v _ => by
    by_cases e : v = m
    · subst e
      rw [if_pos rfl, sm_zeros fun i hik => if_neg fun e2 => hno ⟨i, hik, e2⟩]
      omega
    · rw [if_neg e]; have := one v n (Nat.le_refl _); omega
  rw [tot, sm_sub, sm_pick hm (fun _ => 1)] at le
  omega
theorem Alt.perm {n : Nat} {F : Mx → Int} (a : Alt n F) (hI : F idM = 0) : ∀ d m, m + d = n → ∀ A (s : Nat → Nat), (∀ i, i < n → s i < n) → (∀ i c, i < n → c < n → A i c = if c = s i then 1 else 0) → (∀ i, i < m → s i = i) → F A = 0 := by
  intro d
  induction d with
  | zero =>
    intro m hm A s hs hA hfix
    rw [← hI]
    refine a.congr _ _ fun i j hi hj => ?_
    rw [hA i j hi hj, hfix i (by omega)]
    simp only [idM]
    by_cases e : i = j
    · rw [if_pos e, if_pos e.symm]
    · rw [if_neg e, if_neg fun h => e h.symm]
  | succ d ih =>
    intro m hm A s hs hA hfix
    by_cases hj : ∃ j, m ≤ j ∧ j < n ∧ s j = m
    · obtain ⟨j, h1, h2, h3⟩ := hj
      by_cases e : j = m
      · subst e
        exact ih (j + 1) (by omega) A s hs hA fun i hi => by
          by_cases e : i = j
          · rw [e, h3]
          · exact hfix i (by omega)
      · have sw := a.swap (i := m) (j := j) (by omega) h2 (by omega) A
        rw [ih (m + 1) (by omega) (swp A m j) (fun i => if i = m then m else if i = j then s m else s i) (fun i hi => by
          split
          · omega
          · split
            · exact hs m (by omega)
            · exact hs i hi) (fun i c hi hc => by
          by_cases e1 : i = m
          · subst e1
            rw [swp_left _ (by omega), if_pos rfl, hA j c h2 hc, h3]
          · rw [if_neg e1]
            by_cases e2 : i = j
            · subst e2
              rw [swp_right, if_pos rfl, hA m c (by omega) hc]
            · rw [swp_other _ e1 e2, if_neg e2, hA i c hi hc]) (fun i hi => by
          by_cases e1 : i = m
          · rw [if_pos e1, e1]
          · rw [if_neg e1, if_neg (by omega)]; exact hfix i (by omega))] at sw
        omega
    · refine Classical.byContradiction fun hF => hj ?_
      obtain ⟨i, h1, h2⟩ := onto_of_inj hs (fun i j hi hj e => Classical.byContradiction fun hne => hF (a.alt A i j hi hj hne fun c hc => by rw [hA i c hi hc, hA j c hj hc, e])) (show m < n by omega)
      exact ⟨i, Nat.le_of_not_lt fun hlt => by have := hfix i hlt; omega, h1, h2⟩
theorem Alt.units {n : Nat} {F : Mx → Int} (a : Alt n F) (hI : F idM = 0) : ∀ k, k ≤ n → ∀ A, (∀ i, k ≤ i → i < n → ∃ s, s < n ∧ ∀ c, c < n → A i c = if c = s then 1 else 0) → F A = 0 := by
  intro k
  induction k with
  | zero =>
    intro _ A h
    exact a.perm hI n 0 (by omega) A (fun i => if hi : i < n then (h i (Nat.zero_le _) hi).choose else 0) (fun i hi => by rw [dif_pos hi]; exact (h i (Nat.zero_le _) hi).choose_spec.1) (fun i c hi hc => by rw [dif_pos hi]; exact (h i (Nat.zero_le _) hi).choose_spec.2 c hc) fun i hi => absurd hi (Nat.not_lt_zero i)
  | succ k ih =>
    intro hk A h
    have e : F A = F (setR A k (fun c => sm n (fun j => A k j * (if c = j then 1 else 0)))) := a.congr _ _ fun i c hi hc => by
      by_cases e : i = k
      · subst e
        rw [setR_same, sm_one hc fun j _ hne => by rw [if_neg (Ne.symm hne), Int.mul_zero], if_pos rfl, Int.mul_one]
      · rw [setR_ne _ _ _ e]
    rw [e, a.sum A (by omega) n (A k) (fun j c => if c = j then 1 else 0)]
    refine sm_zeros fun j hj => ?_
    rw [ih (by omega) _ fun i h1 h2 => ?_, Int.mul_zero]
    by_cases e : i = k
    · subst e
      exact ⟨j, hj, fun c _ => by rw [setR_same]⟩
    · obtain ⟨s, hs, hc⟩ := h i (by omega) h2
      exact ⟨s, hs, fun c hc' => by rw [setR_ne _ _ _ e]; exact hc c hc'⟩
theorem Alt.uniq {n : Nat} {F : Mx → Int} (a : Alt n F) (A : Mx) : F A = det n A * F idM := by
  have d := det_alt n
  have z : Alt n (fun A => F A - det n A * F idM) := by
    refine ⟨fun A B h => by rw [a.congr A B h, d.congr A B h], fun A k x u v hk => ?_, fun A i j hi hj hne h => ?_⟩
    · rw [a.lin _ _ _ _ _ hk, d.lin _ _ _ _ _ hk]
      grind
    · rw [a.alt A i j hi hj hne h, d.alt A i j hi hj hne h]; simp
  have := z.units (by rw [det_id]; omega) n (Nat.le_refl _) A fun i h1 h2 => by omega
  omega
theorem det_col {n j : Nat} (hj : j < n + 1) (A : Mx) : det (n + 1) A = exc j n A := by
  rw [(exc_alt hj).uniq A, exc_id hj, Int.mul_one]
end Go.Ay

/- Determinants of integer matrices: products, columns, the adjugate. -/
namespace Go.Ay
def mulM (n : Nat) (A B : Mx) : Mx := fun i j => sm n (fun k => A i k * B k j)
def trM (A : Mx) : Mx := fun i j => A j i
theorem det_congr {n : Nat} {A B : Mx} (h : ∀ i j, i < n → j < n → A i j = B i j) : det n A = det n B := (det_alt n).congr A B h
theorem mul_setR (n : Nat) (A B : Mx) (k : Nat) (u : Nat → Int) : mulM n (setR A k u) B = setR (mulM n A B) k (fun j => sm n (fun t => u t * B t j)) := by
  funext i j
  simp only [mulM, setR]
  by_cases e : i = k
  · simp only [if_pos e]
  · simp only [if_neg e]
theorem det_mul (n : Nat) (A B : Mx) : det n (mulM n A B) = det n A * det n B := by
  have d := det_alt n
  have a : Alt n (fun A => det n (mulM n A B)) := by
    refine ⟨fun A C h => d.congr _ _ fun i j hi hj => sm_congr fun k hk => by rw [h i k hi hk], fun A k x u v hk => ?_, fun A i j hi hj hne h => d.alt _ i j hi hj hne fun c _ => sm_congr fun k hk => by rw [h k hk]⟩
    rw [mul_setR, mul_setR, mul_setR, ← d.lin _ _ _ _ _ hk]
    congr 2
    funext j
    rw [← sm_mul, ← sm_add]
    exact sm_congr fun t _ => by grind
  have e := a.uniq A
  rw [e]
  congr 1
  exact det_congr fun i j hi hj => by
    simp only [mulM, idM]
    rw [sm_one (t := i) hi fun k _ hne => by rw [if_neg fun h => hne h.symm, Int.zero_mul], if_pos rfl, Int.one_mul]
/-! columns -/
theorem det_two (A : Mx) : det 2 A = A 0 0 * A 1 1 - A 1 0 * A 0 1 := by
  simp [det, sm, sgn, del, skp]
  grind
theorem col_alt : ∀ n (A : Mx) a b, a < n → b < n → a ≠ b → (∀ i, i < n → A i a = A i b) → det n A = 0
  | 0, _, _, _, h, _, _, _ => absurd h (Nat.not_lt_zero _)
  | 1, _, a, b, ha, hb, hne, _ => by omega
  | 2, A, a, b, ha, hb, hne, h => by
    have h0 := h 0 (by omega)
    have h1 := h 1 (by omega)
    rw [det_two]
    have : a = 0 ∧ b = 1 ∨ a = 1 ∧ b = 0 := by omega
    rcases this with ⟨rfl, rfl⟩ | ⟨rfl, rfl⟩
    · rw [h0, h1]; grind
    · rw [h0, h1]; grind
  | n + 3, A, a, b, ha, hb, hne, h => by
    obtain ⟨j, hj, h1, h2⟩ : ∃ j, j < n + 3 ∧ j ≠ a ∧ j ≠ b := by
      by_cases e0 : a ≠ 0 ∧ b ≠ 0
      · exact ⟨0, by omega, by omega, by omega⟩
      · by_cases e1 : a ≠ 1 ∧ b ≠ 1
        · exact ⟨1, by omega, by omega, by omega⟩
        · exact ⟨2, by omega, by omega, by omega⟩
    rw [det_col hj A, exc]
    refine sm_zeros fun i hi => ?_
    rw [col_alt (n + 2) (del A i j) (low j a) (low j b) (low_lt ha hj h1) (low_lt hb hj h2) (low_ne h1 h2 hne) fun r hr => ?_, Int.mul_zero]
    simp only [del]
    rw [skp_low' h1, skp_low' h2]
    exact h _ (skp_lt hr)
theorem tr_alt : ∀ n, Alt n (fun A => det n (trM A))
  | 0 => ⟨fun _ _ _ => rfl, fun _ _ _ _ _ h => absurd h (Nat.not_lt_zero _), fun _ _ _ h => absurd h (Nat.not_lt_zero _)⟩
  | n + 1 => by
    refine ⟨fun A B h => det_congr fun i j hi hj => h j i hj hi, fun A k x u v hk => ?_, fun A i j hi hj hne h => col_alt (n + 1) _ i j hi hj hne fun r hr => h r hr⟩
    rw [det_col hk, det_col hk, det_col hk, exc, exc, exc, ← sm_mul, ← sm_add]
    refine sm_congr fun i hi => ?_
    have e : ∀ w : Nat → Int, del (trM (setR A k w)) i k = del (trM A) i k := fun w => by
      funext r c
      simp only [del, trM]
      rw [setR_ne _ _ _ (skp_ne k c)]
    rw [e, e, e]
    simp only [trM, setR_same]
    grind
theorem det_tr (n : Nat) (A : Mx) : det n (trM A) = det n A := by
  have := (tr_alt n).uniq A
  rw [this]
  have e : trM idM = idM := by
    funext i j
    simp only [trM, idM]
    by_cases h : i = j
    · rw [if_pos h, if_pos h.symm]
    · rw [if_neg h, if_neg fun e => h e.symm]
  rw [e, det_id, Int.mul_one]
theorem det_row {n i : Nat} (hi : i < n + 1) (A : Mx) : det (n + 1) A = sm (n + 1) (fun j => sgn (i + j) * A i j * det n (del A i j)) := by
  rw [← det_tr, det_col hi, exc]
  refine sm_congr fun j _ => ?_
  rw [Nat.add_comm j i, ← det_tr n (del A i j)]
  rfl
/-- The adjugate (of n + 1 rows). -/
def adjM (n : Nat) (A : Mx) : Mx := fun i j => sgn (i + j) * det n (del A j i)
theorem mul_adj {n : Nat} (A : Mx) {i k : Nat} (hi : i < n + 1) (hk : k < n + 1) : mulM (n + 1) A (adjM n A) i k = if i = k then det (n + 1) A else 0 := by
  by_cases e : i = k
  · subst e
    rw [if_pos rfl, det_row hi]
    exact sm_congr fun j _ => by
      simp only [adjM]
      rw [Nat.add_comm j i]
      grind
  · rw [if_neg e, ← (det_alt (n + 1)).alt (setR A k (A i)) i k hi hk e fun c _ => by rw [setR_same, setR_ne _ _ _ e], det_row hk]
    exact sm_congr fun j _ => by
      simp only [adjM]
      rw [Nat.add_comm j k, setR_same, del_set_same]
      grind
/-- Scaled by a number. -/
theorem det_scale : ∀ (n : Nat) (x : Int) (A : Mx), det n (fun i j => x * A i j) = x ^ n * det n A
  | 0, x, A => by simp [det]
  | n + 1, x, A => by
    rw [det_succ, det_succ, exc, exc, ← sm_mul]
    refine sm_congr fun i _ => ?_
    have e : det n (del (fun i j => x * A i j) i 0) = x ^ n * det n (del A i 0) := det_scale n x (del A i 0)
    rw [e, Int.pow_succ]
    grind
theorem det_neg (n : Nat) (A : Mx) : det n (fun i j => - A i j) = sgn n * det n A := by
  have h := det_scale n (-1) A
  have e : ((-1 : Int)) ^ n = sgn n := by
    induction n with
    | zero => rfl
    | succ n ih =>
      rw [Int.pow_succ, ih (det_scale n (-1) A), sgn_succ]; omega
  rw [e] at h
  rw [← h]
  exact det_congr fun i j _ _ => by omega
/-- Congruent entries. -/
theorem sm_mod {p : Int} : ∀ {n : Nat} {f g : Nat → Int}, (∀ k, k < n → f k % p = g k % p) → sm n f % p = sm n g % p
  | 0, _, _, _ => rfl
  | n + 1, f, g, h => by
    rw [sm_succ, sm_succ, Int.add_emod, sm_mod fun k hk => h k (by omega), h n (by omega), ← Int.add_emod]
theorem mul_mod {p a b c d : Int} (h : a % p = b % p) (k : c % p = d % p) : a * c % p = b * d % p := by
  rw [Int.mul_emod, h, k, ← Int.mul_emod]
theorem det_mod {p : Int} : ∀ {n : Nat} {A B : Mx}, (∀ i j, i < n → j < n → A i j % p = B i j % p) → det n A % p = det n B % p
  | 0, _, _, _ => rfl
  | n + 1, A, B, h => by
    rw [det_succ, det_succ]
    exact sm_mod fun i hi => mul_mod (mul_mod rfl (h i 0 hi (by omega))) (det_mod fun r c hr hc => h _ _ (skp_lt hr) (skp_lt hc))
theorem mulM_assoc (n : Nat) (A B C : Mx) (i j : Nat) : mulM n (mulM n A B) C i j = mulM n A (mulM n B C) i j := by
  simp only [mulM]
  have e1 : ∀ k, k < n → sm n (fun t => A i t * B t k) * C k j = sm n (fun t => A i t * B t k * C k j) := fun k _ => (sm_mulr ..).symm
  have e2 : ∀ t, t < n → A i t * sm n (fun k => B t k * C k j) = sm n (fun k => A i t * B t k * C k j) := fun t _ => by
    rw [← sm_mul]
    exact sm_congr fun k _ => by grind
  rw [sm_congr e1, sm_congr e2, sm_swap]
end Go.Ay

/- Polynomials with integer coefficients; the characteristic polynomial; Cayley and Hamilton. -/
namespace Go.Ay
def pev (n : Nat) (c : Nat → Int) (t : Int) : Int := sm n (fun k => c k * t ^ k)
theorem pev_first (n : Nat) (c : Nat → Int) (t : Int) : pev (n + 1) c t = c 0 + t * pev n (fun k => c (k + 1)) t := by
  rw [pev, sm_first, pev, ← sm_mul, Int.pow_zero, Int.mul_one]
  congr 1
  exact sm_congr fun k _ => by rw [Int.pow_succ]; grind
theorem pev_zero : ∀ {n : Nat} {c : Nat → Int}, (∀ t : Int, 1 ≤ t → pev n c t = 0) → ∀ k, k < n → c k = 0
  | 0, _, _, k, hk => absurd hk (Nat.not_lt_zero k)
  | n + 1, c, h, k, hk => by
    have h0 : c 0 = 0 := by
      have e := h (ab (c 0) + 1) (by have := ab_nonneg (c 0); omega)
      rw [pev_first] at e
      generalize pev n (fun k => c (k + 1)) (ab (c 0) + 1) = q at e
      have b := ab_nonneg (c 0)
      have b1 := (ab_le (x := c 0) (b := ab (c 0))).1 (Int.le_refl _)
      generalize ab (c 0) = a at *
      by_cases hq : 1 ≤ q
      · have := Int.mul_le_mul_of_nonneg_left hq (show 0 ≤ a + 1 by omega); omega
      · by_cases hq2 : q ≤ -1
        · have := Int.mul_le_mul_of_nonneg_left hq2 (show 0 ≤ a + 1 by omega); omega
        · have : q = 0 := by omega
          subst this; omega
    have hr : ∀ t : Int, 1 ≤ t → pev n (fun k => c (k + 1)) t = 0 := fun t ht => by
      have e := h t ht
      rw [pev_first, h0, Int.zero_add] at e
      rcases Int.mul_eq_zero.1 e with e | e
      · omega
      · exact e
    cases k with
    | zero => exact h0
    | succ k => exact pev_zero hr k (by omega)
theorem pev_inj {n : Nat} {c d : Nat → Int} (h : ∀ t : Int, 1 ≤ t → pev n c t = pev n d t) (k : Nat) (hk : k < n) : c k = d k := by
  have := pev_zero (n := n) (c := fun k => c k - d k) (fun t ht => by
    have e := h t ht
    simp only [pev] at e ⊢
    have e2 : sm n (fun k => (c k - d k) * t ^ k) = sm n (fun k => c k * t ^ k - d k * t ^ k) := sm_congr fun k _ => by grind
    rw [e2, sm_sub]; omega) k hk
  omega
theorem pev_congr {n : Nat} {c d : Nat → Int} (h : ∀ k, k < n → c k = d k) (t : Int) : pev n c t = pev n d t := sm_congr fun k hk => by rw [h k hk]
theorem pev_add (n : Nat) (c d : Nat → Int) (t : Int) : pev n (fun k => c k + d k) t = pev n c t + pev n d t := by
  simp only [pev]; rw [← sm_add]; exact sm_congr fun k _ => by grind
theorem pev_sub (n : Nat) (c d : Nat → Int) (t : Int) : pev n (fun k => c k - d k) t = pev n c t - pev n d t := by
  simp only [pev]; rw [← sm_sub]; exact sm_congr fun k _ => by grind
theorem pev_mul (n : Nat) (x : Int) (c : Nat → Int) (t : Int) : pev n (fun k => x * c k) t = x * pev n c t := by
  simp only [pev]; rw [← sm_mul]; exact sm_congr fun k _ => by grind
theorem pev_sum (n m : Nat) (c : Nat → Nat → Int) (t : Int) : pev n (fun k => sm m (fun i => c i k)) t = sm m (fun i => pev n (c i) t) := by
  simp only [pev]
  rw [sm_swap]
  exact sm_congr fun k _ => by rw [sm_mulr]
/-- One degree up. -/
def shf (c : Nat → Int) : Nat → Int := fun k => if k = 0 then 0 else c (k - 1)
theorem pev_shf (n : Nat) (c : Nat → Int) (t : Int) : pev (n + 1) (shf c) t = t * pev n c t := by
  rw [pev_first]
  simp only [shf, if_true]
  rw [Int.zero_add]
  congr 1
theorem pev_more {n m : Nat} (h : n ≤ m) {c : Nat → Int} (hz : ∀ k, n ≤ k → k < m → c k = 0) (t : Int) : pev m c t = pev n c t :=
  sm_more h fun k h1 h2 => by rw [hz k h1 h2, Int.zero_mul]
/-! the determinant of t X + Y -/
def dpl : Nat → Mx → Mx → Nat → Int
  | 0, _, _, k => if k = 0 then 1 else 0
  | n + 1, X, Y, k => sm (n + 1) (fun i => sgn i * (Y i 0 * dpl n (del X i 0) (del Y i 0) k + X i 0 * shf (dpl n (del X i 0) (del Y i 0)) k))
theorem dpl_high : ∀ (n : Nat) (X Y : Mx) (k : Nat), n < k → dpl n X Y k = 0
  | 0, _, _, k, h => by rw [dpl, if_neg (by omega)]
  | n + 1, X, Y, k, h => by
    rw [dpl]
    refine sm_zeros fun i _ => ?_
    rw [shf, if_neg (by omega), dpl_high n _ _ k (by omega), dpl_high n _ _ (k - 1) (by omega)]
    simp
theorem det_dpl : ∀ (n : Nat) (X Y : Mx) (t : Int), det n (fun i j => t * X i j + Y i j) = pev (n + 1) (dpl n X Y) t
  | 0, X, Y, t => by simp [det, pev, sm, dpl]
  | n + 1, X, Y, t => by
    rw [det_succ, exc]
    have e : ∀ i, i < n + 1 → sgn (i + 0) * (t * X i 0 + Y i 0) * det n (del (fun i j => t * X i j + Y i j) i 0) = pev (n + 2) (fun k => sgn i * (Y i 0 * dpl n (del X i 0) (del Y i 0) k + X i 0 * shf (dpl n (del X i 0) (del Y i 0)) k)) t := fun i hi => by
      have d : det n (del (fun i j => t * X i j + Y i j) i 0) = _ := det_dpl n (del X i 0) (del Y i 0) t
      rw [d, pev_mul, pev_add, pev_mul, pev_mul, pev_shf, pev_more (n := n + 1) (m := n + 2) (by omega) fun k h1 h2 => dpl_high n _ _ k (by omega), Nat.add_zero]
      grind
    rw [sm_congr e]
    exact (pev_sum (n + 2) (n + 1) (fun i k => sgn i * (Y i 0 * dpl n (del X i 0) (del Y i 0) k + X i 0 * shf (dpl n (del X i 0) (del Y i 0)) k)) t).symm
theorem dpl_mod {p : Int} : ∀ {n : Nat} {X X' Y Y' : Mx}, (∀ i j, i < n → j < n → X i j % p = X' i j % p) → (∀ i j, i < n → j < n → Y i j % p = Y' i j % p) → ∀ k, dpl n X Y k % p = dpl n X' Y' k % p
  | 0, _, _, _, _, _, _, _ => rfl
  | n + 1, X, X', Y, Y', hX, hY, k => by
    rw [dpl, dpl]
    refine sm_mod fun i hi => mul_mod rfl ?_
    have ih := fun k => dpl_mod (p := p) (n := n) (X := del X i 0) (X' := del X' i 0) (Y := del Y i 0) (Y' := del Y' i 0) (fun r c hr hc => hX _ _ (skp_lt hr) (skp_lt hc)) (fun r c hr hc => hY _ _ (skp_lt hr) (skp_lt hc)) k
    have e1 := mul_mod (hY i 0 hi (by omega)) (ih k)
    have e2 : X i 0 * shf (dpl n (del X i 0) (del Y i 0)) k % p = X' i 0 * shf (dpl n (del X' i 0) (del Y' i 0)) k % p := mul_mod (hX i 0 hi (by omega)) (by
      simp only [shf]
      split
      · rfl
      · exact ih (k - 1))
    rw [Int.add_emod, e1, e2, ← Int.add_emod]
/-! t - A -/
def chM (A : Mx) (t : Int) : Mx := fun i j => (if i = j then t else 0) - A i j
/-- The characteristic polynomial's coefficients. -/
def chp (n : Nat) (A : Mx) : Nat → Int := dpl n idM (fun i j => - A i j)
theorem chM_lin (A : Mx) (t : Int) : chM A t = fun i j => t * idM i j + - A i j := by
  funext i j
  simp only [chM, idM]
  split
  · rw [Int.mul_one]; omega
  · rw [Int.mul_zero]; omega
theorem det_chp (n : Nat) (A : Mx) (t : Int) : det n (chM A t) = pev (n + 1) (chp n A) t := by
  rw [chM_lin, det_dpl]; rfl
theorem chp_mod {p : Int} {n : Nat} {A B : Mx} (h : ∀ i j, i < n → j < n → A i j % p = B i j % p) (k : Nat) : chp n A k % p = chp n B k % p :=
  dpl_mod (fun _ _ _ _ => rfl) (fun i j hi hj => by rw [Int.neg_emod_eq_sub_emod, Int.neg_emod_eq_sub_emod, Int.sub_emod, h i j hi hj, ← Int.sub_emod]) k
theorem chp_congr {n : Nat} {A B : Mx} (h : ∀ i j, i < n → j < n → A i j = B i j) (k : Nat) (hk : k < n + 1) : chp n A k = chp n B k :=
  pev_inj (n := n + 1) (fun t _ => by rw [← det_chp, ← det_chp]; exact det_congr fun i j hi hj => by simp only [chM]; rw [h i j hi hj]) k hk
/-- A polynomial that has the determinant's values is the characteristic polynomial. -/
theorem chp_uniq {n : Nat} {A : Mx} {c : Nat → Int} (h : ∀ t : Int, 1 ≤ t → det n (chM A t) = pev (n + 1) c t) (k : Nat) (hk : k < n + 1) : chp n A k = c k :=
  pev_inj (n := n + 1) (fun t ht => by rw [← det_chp, h t ht]) k hk
/-! the adjugate of t - A, by the powers of t -/
/-! powers -/
/-! a border -/
end Go.Ay

/- Powers modulo a prime. -/
namespace Go.Ay
def bnm : Nat → Nat → Nat
  | _, 0 => 1
  | 0, _ + 1 => 0
  | n + 1, k + 1 => bnm n k + bnm n (k + 1)
theorem bnm_zero (n : Nat) : bnm n 0 = 1 := by cases n <;> rfl
theorem bnm_succ (n k : Nat) : bnm (n + 1) (k + 1) = bnm n k + bnm n (k + 1) := rfl
theorem bnm_high : ∀ n k, n < k → bnm n k = 0
  | 0, 0, h => by omega
  | 0, _ + 1, _ => rfl
  | n + 1, 0, h => by omega
  | n + 1, k + 1, h => by rw [bnm_succ, bnm_high n k (by omega), bnm_high n (k + 1) (by omega)]
theorem bnm_mul : ∀ n k, (k + 1) * bnm (n + 1) (k + 1) = (n + 1) * bnm n k
  | 0, 0 => rfl
  | 0, k + 1 => by rw [bnm_high 1 (k + 2) (by omega), bnm_high 0 (k + 1) (by omega)]; omega
  | n + 1, 0 => by
    have h := bnm_mul n 0
    rw [bnm_succ, bnm_zero, Nat.mul_add, h, bnm_zero]; omega
  | n + 1, k + 1 => by
    have h1 := bnm_mul n k
    have h2 := bnm_mul n (k + 1)
    rw [bnm_succ (n + 1) (k + 1), Nat.mul_add, h2, bnm_succ n k]
    rw [bnm_succ n k] at h1
    generalize bnm n k = x at *
    generalize bnm n (k + 1) = y at *
    grind
theorem binom (n : Nat) (a : Int) : (1 + a) ^ n = pev (n + 1) (fun k => (bnm n k : Int)) a := by
  induction n with
  | zero => simp [pev, sm, bnm]
  | succ n ih =>
    rw [Int.pow_succ, ih, show pev (n + 1) (fun k => (bnm n k : Int)) a * (1 + a) = pev (n + 1) (fun k => (bnm n k : Int)) a + a * pev (n + 1) (fun k => (bnm n k : Int)) a by grind, ← pev_shf, ← pev_more (n := n + 1) (m := n + 1 + 1) (c := fun k => (bnm n k : Int)) (by omega) fun k h1 h2 => by rw [bnm_high n k (by omega)]; rfl, ← pev_add]
    refine pev_congr (fun k _ => ?_) a
    cases k with
    | zero => simp [shf, bnm_zero]
    | succ k =>
      simp only [shf, if_neg (Nat.succ_ne_zero k), Nat.add_sub_cancel]
      rw [bnm_succ]; omega
structure Pr (p : Nat) : Prop where
  two : 2 ≤ p
  div : ∀ d, d ∣ p → d = 1 ∨ d = p
theorem Pr.cop {p : Nat} (P : Pr p) {a : Nat} (h0 : 0 < a) (h1 : a < p) : Nat.Coprime p a := by
  rcases P.div (Nat.gcd p a) (Nat.gcd_dvd_left p a) with h | h
  · exact h
  · have := Nat.le_of_dvd h0 (Nat.gcd_dvd_right p a)
    omega
theorem Pr.bnm {p : Nat} (P : Pr p) {k : Nat} (h0 : 0 < k) (h1 : k < p) : p ∣ Ay.bnm p k := by
  obtain ⟨q, rfl⟩ : ∃ q, p = q + 1 := ⟨p - 1, by omega⟩
  obtain ⟨j, rfl⟩ : ∃ j, k = j + 1 := ⟨k - 1, by omega⟩
  have h := bnm_mul q j
  exact (P.cop h0 h1).dvd_of_dvd_mul_left (h ▸ Nat.dvd_mul_right (q + 1) _)
theorem fermat0 {p : Nat} (P : Pr p) : ∀ a : Nat, ((a : Int)) ^ p % p = (a : Int) % p
  | 0 => by
    have := P.two
    rw [show ((0 : Nat) : Int) = 0 from rfl, Int.zero_pow (by omega)]
  | a + 1 => by
    have h2 := P.two
    have e : ((a + 1 : Nat) : Int) = 1 + (a : Int) := by omega
    rw [e, binom]
    obtain ⟨q, rfl⟩ : ∃ q, p = q + 1 := ⟨p - 1, by omega⟩
    have e2 : pev (q + 1 + 1) (fun k => (Ay.bnm (q + 1) k : Int)) (a : Int) % ((q + 1 : Nat) : Int) = (1 + (a : Int) ^ (q + 1)) % ((q + 1 : Nat) : Int) := by
      rw [pev, sm_succ]
      have e3 : sm (q + 1) (fun k => (Ay.bnm (q + 1) k : Int) * (a : Int) ^ k) % ((q + 1 : Nat) : Int) = sm (q + 1) (fun k => if k = 0 then 1 else 0) % ((q + 1 : Nat) : Int) := sm_mod fun k hk => by
        by_cases h : k = 0
        · subst h; rw [if_pos rfl, bnm_zero]; simp
        · rw [if_neg h]
          obtain ⟨t, ht⟩ := P.bnm (k := k) (by omega) hk
          rw [ht, Int.natCast_mul, Int.mul_assoc, Int.mul_emod_right]; rfl
      have e4 : Ay.bnm (q + 1) (q + 1) = 1 := by
        have : ∀ n, Ay.bnm n n = 1 := fun n => by
          induction n with
          | zero => rfl
          | succ n ih => rw [bnm_succ, ih, bnm_high n (n + 1) (by omega)]
        exact this _
      rw [Int.add_emod, e3, e4, ← Int.add_emod, sm_pick (t := 0) (by omega) (fun _ => 1)]
      simp
    rw [e2, Int.add_emod, fermat0 P a, ← Int.add_emod]
theorem fermat {p : Nat} (P : Pr p) {a : Int} (h0 : 0 < a) (h1 : a < p) : a * a ^ (p - 2) % p = 1 := by
  have h2 := P.two
  obtain ⟨n, rfl⟩ : ∃ n : Nat, a = n := ⟨a.toNat, by omega⟩
  have h := fermat0 P n
  obtain ⟨q, rfl⟩ : ∃ q, p = q + 2 := ⟨p - 2, by omega⟩
  rw [Nat.add_sub_cancel]
  have e : (n : Int) ^ (q + 2) - n = n * (n * (n : Int) ^ q - 1) := by rw [Int.pow_succ, Int.pow_succ]; grind
  have hd : ((q + 2 : Nat) : Int) ∣ (n : Int) ^ (q + 2) - n := Int.dvd_of_emod_eq_zero (Int.emod_eq_emod_iff_emod_sub_eq_zero.1 h)
  rw [e] at hd
  have c : Nat.Coprime (q + 2) n := P.cop (by omega) (by omega)
  have hd2 : ((q + 2 : Nat) : Int) ∣ (n : Int) * (n : Int) ^ q - 1 := by
    have := Int.natAbs_dvd_natAbs.2 hd
    rw [Int.natAbs_mul, Int.natAbs_natCast, Int.natAbs_natCast] at this
    have := c.dvd_of_dvd_mul_left this
    exact Int.natAbs_dvd_natAbs.1 (by rw [Int.natAbs_natCast]; exact this)
  have := Int.emod_eq_emod_iff_emod_sub_eq_zero.2 (Int.emod_eq_zero_of_dvd hd2)
  rw [this]
  exact Int.emod_eq_of_lt (by omega) (by omega)
end Go.Ay

